/-
The code of the Go functions that the law CampaignsCheck reaches does what the plain functions say, part 2.
-/
import Derived.Test.YtemhheohphinpaaGreatDoorGenP1

namespace Go.Eng

open Go Go.Proofs.Tryz

set_option linter.unusedVariables false

set_option maxRecDepth 20000

set_option maxHeartbeats 0

/-! ### slices.partialInsertionSortCmpFunc[beaconfleet/api.Mark] -/
def z629 (qx1 : Int) (qx2 : Int) (vl : List api_Mark) (vx1 : Int) (vx10 : Int) : Bool → St
  | vx12 => Mem.st ⟨[(0, ⟨88, 6, List.map api_Mark.enc vl⟩)], []⟩ (tl [(0, .c (.own 0 none)), (1, .i qx1), (2, .i qx2), (3, .c (.fn 103 [])), (9, .i vx10), (10, .i vx1), (36, .b vx12)]) 1

def z628 (qx1 : Int) (qx2 : Int) (vl : List api_Mark) (vx1 : Int) (vx10 : Int) : St := Mem.st ⟨[(0, ⟨88, 6, List.map api_Mark.enc vl⟩)], []⟩ (tl [(0, .c (.own 0 none)), (1, .i qx1), (2, .i qx2), (3, .c (.fn 103 [])), (9, .i vx10), (10, .i vx1)]) 1

theorem z630 (qx1 : Int) (qx2 : Int) (vl : List api_Mark) (vx1 : Int) (vx10 : Int) {r} (hF : z627 qx2 vl vx10 = some r) : Awp prog 1 141 (cL (cL (cL (cL (cL (cL (cL (cR (cL (cL (cR (cL (cR (cR (cB f178))))))))))))))) (Out 1 nrm (z629 qx1 qx2 vl vx1 vx10) r) (z628 qx1 qx2 vl vx1 vx10) := by
  unfold z627 at hF
  refine cE hF (fun h2 hF => ?_) fun h2 hF => ?_
  · refine bE hF fun vy21 h3 hF => bE hF fun vy22 h4 hF => bE hF fun vr3_7 h5 hF => aD ?_
    refine dR 2 ?_
    refine dB h2 ?_
    refine dR 4 ?_
    refine dX (x_idxO api_Mark.enc 0 h3) ?_
    refine dX (x_ldE api_Mark.enc h3) ?_
    refine dR 3 ?_
    refine dX (x_idxO api_Mark.enc 0 h4) ?_
    refine dX (x_ldE api_Mark.enc h4) ?_
    refine dC (z157 h5) [] [] [] ?_
    refine dR 3 ?_
    refine dE ?_
    exact oO hF [] [] rfl
  · refine aD ?_
    refine dR 2 ?_
    refine dB h2 ?_
    refine dR 15 ?_
    refine dE ?_
    exact oO hF [] [] rfl

def z625 : Int → AEx
  | _ => .exit 2

def z624 (qx1 : Int) (qx2 : Int) (vl : List api_Mark) (vx1 : Int) : Int → St
  | vx13 => Mem.st ⟨[(0, ⟨88, 6, List.map api_Mark.enc vl⟩)], []⟩ (tl [(0, .c (.own 0 none)), (1, .i qx1), (2, .i qx2), (3, .c (.fn 103 [])), (9, .i vx13), (10, .i vx1)]) 1

def z623 (qx1 : Int) (qx2 : Int) (vl : List api_Mark) (vx1 : Int) : Int → St
  | vx10 => Mem.st ⟨[(0, ⟨88, 6, List.map api_Mark.enc vl⟩)], []⟩ (tl [(0, .c (.own 0 none)), (1, .i qx1), (2, .i qx2), (3, .c (.fn 103 [])), (9, .i vx10), (10, .i vx1)]) 1

theorem z626 (qx1 : Int) (qx2 : Int) (vl : List api_Mark) (vx1 : Int) (vx10 : Int) (r : (Int) ⊕ (Int)) (hF : z622 qx2 vl vx10 = some r) : Awp prog 1 141 (cL (cL (cL (cL (cL (cR (cL (cL (cR (cL (cR (cR (cB f178))))))))))))) (Out 1 (kk z625) (SS (z623 qx1 qx2 vl vx1) (z624 qx1 qx2 vl vx1)) r) (z623 qx1 qx2 vl vx1 vx10) := by
  unfold z622 at hF
  refine awp_seq (awp_seq (awp_to (st' := z628 qx1 qx2 vl vx1 vx10) (oT [] []) ?_))
  refine bE hF fun vx12_1 h6 hF => awp_sub (z630 qx1 qx2 vl vx1 vx10 h6) ?_
  refine cE hF (fun h7 hF => ?_) fun h7 hF => ?_
  · exact tT h7 (awp_skip (awp_block (gR 3 (oO hF [] [] rfl))))
  · refine tF h7 (awp_exit ?_)
    exact oO hF [] [] rfl

def z638 : (List api_Mark) → AEx
  | _ => .exit 4

def z637 (qx1 : Int) (qx2 : Int) (vx1 : Int) (vx13_1 : Int) : (List api_Mark) → St
  | vl8 => Mem.st ⟨[(0, ⟨88, 6, List.map api_Mark.enc vl8⟩)], []⟩ (tl [(0, .c (.own 0 none)), (1, .i qx1), (2, .i qx2), (3, .c (.fn 103 [])), (9, .i vx13_1), (10, .i vx1)]) 1

def z636 (qx1 : Int) (qx2 : Int) (vx1 : Int) (vx13_1 : Int) : (List api_Mark) × Int → St
  | (vl7, vx14) => Mem.st ⟨[(0, ⟨88, 6, List.map api_Mark.enc vl7⟩)], []⟩ (tl [(0, .c (.own 0 none)), (1, .i qx1), (2, .i qx2), (3, .c (.fn 103 [])), (9, .i vx13_1), (10, .i vx1), (11, .i vx14)]) 1

theorem z639 (qx1 : Int) (qx2 : Int) (vx1 : Int) (vx13_1 : Int) (s : (List api_Mark) × Int) (r : ((List api_Mark) × Int) ⊕ ((List api_Mark))) (hF : z635  s = some r) : Awp prog 1 141 (cL (cL (cR (cL (cR (cL (cR (cR (cR (cR (cL (cL (cR (cL (cL (cR (cL (cR (cR (cB f178)))))))))))))))))))) (Out 1 (kk z638) (SS (z636 qx1 qx2 vx1 vx13_1) (z637 qx1 qx2 vx1 vx13_1)) r) (z636 qx1 qx2 vx1 vx13_1 s) := by
  obtain ⟨vl7, vx14⟩ := s
  unfold z635 at hF
  refine awp_seq (sR 2 (cE hF (fun h15 hF => ?_) fun h15 hF => ?_))
  · refine tT h15 (awp_skip (awp_seq (awp_block (awp_seq (awp_seq (bE hF fun vy29 h16 hF => bE hF fun vy30 h17 hF => bE hF fun vr3_9 h18 hF => aD ?_))))))
    refine dR 3 ?_
    refine dX (x_idxO api_Mark.enc 0 h16) ?_
    refine dX (x_ldE api_Mark.enc h16) ?_
    refine dR 3 ?_
    refine dX (x_idxO api_Mark.enc 0 h17) ?_
    refine dX (x_ldE api_Mark.enc h17) ?_
    refine dC (z157 h18) [] [] [] ?_
    refine dR 2 ?_
    refine dE ?_
    refine cE hF (fun h19 hF => ?_) fun h19 hF => ?_
    · refine tT h19 (awp_exit ?_)
      exact oO hF [] [] rfl
    · refine tF h19 (awp_skip (bE hF fun vy31 h20 hF => aDw [0] ?_))
      refine dR 8 ?_
      refine dI api_Mark.enc 0 h17 rfl ?_
      refine dX (x_ldE api_Mark.enc h17) ?_
      refine dR 2 ?_
      refine dI api_Mark.enc 0 h16 rfl ?_
      refine dX (x_ldE api_Mark.enc h16) ?_
      refine dI api_Mark.enc 0 h16 rfl ?_
      refine dW api_Mark.enc (api_Mark.mk vy30.At vy30.Device vy30.Kind (api_Version.mk vy30.Version.Major vy30.Version.Minor vy30.Version.Patch)) h16 rfl ?_
      refine dI api_Mark.enc 0 h20 rfl ?_
      refine dW api_Mark.enc (api_Mark.mk vy29.At vy29.Device vy29.Kind (api_Version.mk vy29.Version.Major vy29.Version.Minor vy29.Version.Patch)) h20 rfl ?_
      refine dE ?_
      exact gR 3 (oO hF [] [] rfl)
  · refine tF h15 (awp_exit ?_)
    exact oO hF [] [] rfl

def z633 (qx1 : Int) (qx2 : Int) (vl : List api_Mark) (vx1 : Int) (vx13_1 : Int) (vy23 : api_Mark) (vy24 : api_Mark) : (List api_Mark) → St
  | vl9 => Mem.st ⟨[(0, ⟨88, 6, List.map api_Mark.enc vl9⟩)], []⟩ (tl [(0, .c (.own 0 none)), (1, .i qx1), (2, .i qx2), (3, .c (.fn 103 [])), (9, .i vx13_1), (10, .i vx1)]) 1

def z632 (qx1 : Int) (qx2 : Int) (vl : List api_Mark) (vx1 : Int) (vx13_1 : Int) (vy23 : api_Mark) (vy24 : api_Mark) : St := Mem.st ⟨[(0, ⟨88, 6, List.map api_Mark.enc ((vl.set vx13_1.toNat (api_Mark.mk vy23.At vy23.Device vy23.Kind (api_Version.mk vy23.Version.Major vy23.Version.Minor vy23.Version.Patch))).set (IntKind.wrap .i64 (vx13_1 - 1)).toNat (api_Mark.mk vy24.At vy24.Device vy24.Kind (api_Version.mk vy24.Version.Major vy24.Version.Minor vy24.Version.Patch)))⟩)], []⟩ (tl [(0, .c (.own 0 none)), (1, .i qx1), (2, .i qx2), (3, .c (.fn 103 [])), (9, .i vx13_1), (10, .i vx1)]) 1

theorem z634 (qx1 : Int) (qx2 : Int) (vl : List api_Mark) (vx1 : Int) (vx13_1 : Int) (vy23 : api_Mark) (vy24 : api_Mark) {r} (hF : z631 qx1 vl vx13_1 vy23 vy24 = some r) : Awp prog 1 141 (cL (cR (cR (cR (cR (cL (cL (cR (cL (cL (cR (cL (cR (cR (cB f178))))))))))))))) (Out 1 nrm (z633 qx1 qx2 vl vx1 vx13_1 vy23 vy24) r) (z632 qx1 qx2 vl vx1 vx13_1 vy23 vy24) := by
  unfold z631 at hF
  refine sR 4 (cE hF (fun h14 hF => ?_) fun h14 hF => ?_)
  · refine tT h14 (sR 3 (awp_block (awp_to (st' := z636 qx1 qx2 vx1 vx13_1 ((vl.set vx13_1.toNat (api_Mark.mk vy23.At vy23.Device vy23.Kind (api_Version.mk vy23.Version.Major vy23.Version.Minor vy23.Version.Patch))).set (IntKind.wrap .i64 (vx13_1 - 1)).toNat (api_Mark.mk vy24.At vy24.Device vy24.Kind (api_Version.mk vy24.Version.Major vy24.Version.Minor vy24.Version.Patch)), IntKind.wrap .i64 (vx13_1 - 1))) (oT [] []) ?_)))
    refine bE hF fun vl8_1 h21 hF => awp_sub (awp_loop' (z636 qx1 qx2 vx1 vx13_1) z638 (z637 qx1 qx2 vx1 vx13_1) (by intro x; exact fun h => nomatch h) h21 (z639 qx1 qx2 vx1 vx13_1)) ?_
    exact oO hF [] [] rfl
  · exact tF h14 (awp_skip (oO hF [] [] rfl))

def z643 : (List api_Mark) → AEx
  | _ => .exit 6

def z642 (qx1 : Int) (qx2 : Int) (vx1 : Int) (vx13_1 : Int) : (List api_Mark) → St
  | vl11 => Mem.st ⟨[(0, ⟨88, 6, List.map api_Mark.enc vl11⟩)], []⟩ (tl [(0, .c (.own 0 none)), (1, .i qx1), (2, .i qx2), (3, .c (.fn 103 [])), (9, .i vx13_1), (10, .i vx1)]) 1

def z641 (qx1 : Int) (qx2 : Int) (vx1 : Int) (vx13_1 : Int) : (List api_Mark) × Int → St
  | (vl10, vx15) => Mem.st ⟨[(0, ⟨88, 6, List.map api_Mark.enc vl10⟩)], []⟩ (tl [(0, .c (.own 0 none)), (1, .i qx1), (2, .i qx2), (3, .c (.fn 103 [])), (9, .i vx13_1), (10, .i vx1), (12, .i vx15)]) 1

theorem z644 (qx1 : Int) (qx2 : Int) (vx1 : Int) (vx13_1 : Int) (s : (List api_Mark) × Int) (r : ((List api_Mark) × Int) ⊕ ((List api_Mark))) (hF : z640 qx2 s = some r) : Awp prog 1 141 (cL (cL (cR (cL (cR (cR (cR (cR (cR (cR (cL (cL (cR (cL (cL (cR (cL (cR (cR (cB f178)))))))))))))))))))) (Out 1 (kk z643) (SS (z641 qx1 qx2 vx1 vx13_1) (z642 qx1 qx2 vx1 vx13_1)) r) (z641 qx1 qx2 vx1 vx13_1 s) := by
  obtain ⟨vl10, vx15⟩ := s
  unfold z640 at hF
  refine awp_seq (sR 3 (cE hF (fun h24 hF => ?_) fun h24 hF => ?_))
  · refine tT h24 (awp_skip (awp_seq (awp_block (awp_seq (awp_seq (bE hF fun vy35 h25 hF => bE hF fun vy36 h26 hF => bE hF fun vr3_11 h27 hF => aD ?_))))))
    refine dR 3 ?_
    refine dX (x_idxO api_Mark.enc 0 h25) ?_
    refine dX (x_ldE api_Mark.enc h25) ?_
    refine dR 3 ?_
    refine dX (x_idxO api_Mark.enc 0 h26) ?_
    refine dX (x_ldE api_Mark.enc h26) ?_
    refine dC (z157 h27) [] [] [] ?_
    refine dR 2 ?_
    refine dE ?_
    refine cE hF (fun h28 hF => ?_) fun h28 hF => ?_
    · refine tT h28 (awp_exit ?_)
      exact oO hF [] [] rfl
    · refine tF h28 (awp_skip (bE hF fun vy37 h29 hF => aDw [0] ?_))
      refine dR 8 ?_
      refine dI api_Mark.enc 0 h26 rfl ?_
      refine dX (x_ldE api_Mark.enc h26) ?_
      refine dR 2 ?_
      refine dI api_Mark.enc 0 h25 rfl ?_
      refine dX (x_ldE api_Mark.enc h25) ?_
      refine dI api_Mark.enc 0 h25 rfl ?_
      refine dW api_Mark.enc (api_Mark.mk vy36.At vy36.Device vy36.Kind (api_Version.mk vy36.Version.Major vy36.Version.Minor vy36.Version.Patch)) h25 rfl ?_
      refine dI api_Mark.enc 0 h29 rfl ?_
      refine dW api_Mark.enc (api_Mark.mk vy35.At vy35.Device vy35.Kind (api_Version.mk vy35.Version.Major vy35.Version.Minor vy35.Version.Patch)) h29 rfl ?_
      refine dE ?_
      exact gR 3 (oO hF [] [] rfl)
  · refine tF h24 (awp_exit ?_)
    exact oO hF [] [] rfl

def z620 : ((List api_Mark) × Int) ⊕ Bool → AEx
  | .inl _ => .normal
  | .inr _ => .ret

def z619 (qx1 : Int) (qx2 : Int) (vl : List api_Mark) (vx : Int) (vx1 : Int) : ((List api_Mark) × Int) ⊕ Bool → St
  | .inl (vl12, vx16) => Mem.st ⟨[(0, ⟨88, 6, List.map api_Mark.enc vl12⟩)], []⟩ (tl [(0, .c (.own 0 none)), (1, .i qx1), (2, .i qx2), (3, .c (.fn 103 [])), (9, .i vx16), (10, .i vx1)]) 1
  | .inr vx17 => Mem.st ⟨[(0, ⟨88, 6, List.map api_Mark.enc vl⟩)], []⟩ (tl [(8, .b vx17)]) 1

def z618 (qx1 : Int) (qx2 : Int) (vl : List api_Mark) (vx : Int) (vx1 : Int) : St := Mem.st ⟨[(0, ⟨88, 6, List.map api_Mark.enc vl⟩)], []⟩ (tl [(0, .c (.own 0 none)), (1, .i qx1), (2, .i qx2), (3, .c (.fn 103 [])), (9, .i vx), (10, .i vx1)]) 1

theorem z621 (qx1 : Int) (qx2 : Int) (vl : List api_Mark) (vx : Int) (vx1 : Int) {r} (hF : z617 qx1 qx2 vl vx = some r) : Awp prog 1 141 (cL (cR (cL (cL (cR (cL (cR (cR (cB f178))))))))) (Out 1 z620 (z619 qx1 qx2 vl vx vx1) r) (z618 qx1 qx2 vl vx vx1) := by
  unfold z617 at hF
  refine awp_block (awp_seq (awp_block (awp_to (st' := z623 qx1 qx2 vl vx1 vx) (oT [] []) ?_)))
  refine bE hF fun vx13_1 h8 hF => awp_sub (awp_loop' (z623 qx1 qx2 vl vx1) z625 (z624 qx1 qx2 vl vx1) (by intro x; exact fun h => nomatch h) h8 (z626 qx1 qx2 vl vx1)) ?_
  refine awp_seq (sR 3 (cE hF (fun h9 hF => ?_) fun h9 hF => ?_))
  · exact tT h9 (sR 1 (awp_ret (oO hF [] [] rfl)))
  · refine tF h9 (awp_skip (awp_seq (sR 4 (cE hF (fun h10 hF => ?_) fun h10 hF => ?_))))
    · exact tT h10 (sR 1 (awp_ret (oO hF [] [] rfl)))
    · refine tF h10 (awp_skip (awp_seq (bE hF fun vy23 h11 hF => bE hF fun vy24 h12 hF => bE hF fun vy25 h13 hF => aDw [0] ?_)))
      refine dR 8 ?_
      refine dI api_Mark.enc 0 h11 rfl ?_
      refine dX (x_ldE api_Mark.enc h11) ?_
      refine dR 2 ?_
      refine dI api_Mark.enc 0 h12 rfl ?_
      refine dX (x_ldE api_Mark.enc h12) ?_
      refine dI api_Mark.enc 0 h12 rfl ?_
      refine dW api_Mark.enc (api_Mark.mk vy23.At vy23.Device vy23.Kind (api_Version.mk vy23.Version.Major vy23.Version.Minor vy23.Version.Patch)) h12 rfl ?_
      refine dI api_Mark.enc 0 h13 rfl ?_
      refine dW api_Mark.enc (api_Mark.mk vy24.At vy24.Device vy24.Kind (api_Version.mk vy24.Version.Major vy24.Version.Minor vy24.Version.Patch)) h13 rfl ?_
      refine dE ?_
      refine awp_seq (awp_to (st' := z632 qx1 qx2 vl vx1 vx13_1 vy23 vy24) (oT [] []) ?_)
      refine bE hF fun vl9_1 h22 hF => awp_sub (z634 qx1 qx2 vl vx1 vx13_1 vy23 vy24 h22) ?_
      refine sR 4 (cE hF (fun h23 hF => ?_) fun h23 hF => ?_)
      · refine tT h23 (sR 3 (awp_block (awp_to (st' := z641 qx1 qx2 vx1 vx13_1 (vl9_1, IntKind.wrap .i64 (vx13_1 + 1))) (oT [] []) ?_)))
        refine bE hF fun vl11_1 h30 hF => awp_sub (awp_loop' (z641 qx1 qx2 vx1 vx13_1) z643 (z642 qx1 qx2 vx1 vx13_1) (by intro x; exact fun h => nomatch h) h30 (z644 qx1 qx2 vx1 vx13_1)) ?_
        exact oO hF [] [] rfl
      · exact tF h23 (awp_skip (oO hF [] [] rfl))

def z615 : (List api_Mark) ⊕ ((List api_Mark) × Bool) → AEx
  | .inl _ => .exit 0
  | .inr _ => .ret

def z614 (qx1 : Int) (qx2 : Int) : (List api_Mark) ⊕ ((List api_Mark) × Bool) → St
  | .inl vl13 => Mem.st ⟨[(0, ⟨88, 6, List.map api_Mark.enc vl13⟩)], []⟩ (tl []) 1
  | .inr (vl14, vx18) => Mem.st ⟨[(0, ⟨88, 6, List.map api_Mark.enc vl14⟩)], []⟩ (tl [(8, .b vx18)]) 1

def z613 (qx1 : Int) (qx2 : Int) : (List api_Mark) × Int × Int → St
  | (vl, vx, vx1) => Mem.st ⟨[(0, ⟨88, 6, List.map api_Mark.enc vl⟩)], []⟩ (tl [(0, .c (.own 0 none)), (1, .i qx1), (2, .i qx2), (3, .c (.fn 103 [])), (9, .i vx), (10, .i vx1)]) 1

theorem z616 (qx1 : Int) (qx2 : Int) (s : (List api_Mark) × Int × Int) (r : ((List api_Mark) × Int × Int) ⊕ ((List api_Mark) ⊕ ((List api_Mark) × Bool))) (hF : z612 qx1 qx2 s = some r) : Awp prog 1 141 (cL (cL (cR (cL (cR (cR (cB f178))))))) (Out 1 (kk z615) (SS (z613 qx1 qx2) (z614 qx1 qx2)) r) (z613 qx1 qx2 s) := by
  obtain ⟨vl, vx, vx1⟩ := s
  unfold z612 at hF
  refine awp_seq (sR 2 (cE hF (fun h1 hF => ?_) fun h1 hF => ?_))
  · refine tT h1 (awp_skip (awp_seq (awp_to (st' := z618 qx1 qx2 vl vx vx1) (oT [] []) ?_)))
    refine bE hF fun x h31 hF => ?_
    rcases x with ⟨vl12_1, vx16_1⟩ | vx17_1
    · refine awp_sub (z621 qx1 qx2 vl vx vx1 h31) ?_
      exact gR 3 (oO hF [] [] rfl)
    · refine awp_sub (z621 qx1 qx2 vl vx vx1 h31) ?_
      exact oO hF [] [] rfl
  · refine tF h1 (awp_exit ?_)
    exact oO hF [] [] rfl

def z610 (qx : List api_Mark) (qx1 : Int) (qx2 : Int) (r : (List api_Mark) × Bool) : TV × Mem := (.b r.2, ⟨[(0, ⟨88, 6, List.map api_Mark.enc r.1⟩)], []⟩)

theorem z611 {qx : List api_Mark} {qx1 : Int} {qx2 : Int} {r} (hF : z609 qx qx1 qx2 = some r) : Holds prog 178 [.c (.own 0 none), .i qx1, .i qx2, .c (.fn 103 [])] ⟨[(0, ⟨88, 6, List.map api_Mark.enc qx⟩)], []⟩ (Is (z610 qx qx1 qx2 r)) := by
  unfold z609 at hF
  refine hW f178 141 1 1 ?_
  refine sR 1 (sR 3 (awp_seq (sR 1 (awp_block (awp_to (st' := z613 qx1 qx2 (qx, IntKind.wrap .i64 (qx1 + 1), 0)) (oT [] []) ?_)))))
  refine bE hF fun x h32 hF => ?_
  rcases x with vl13_1 | ⟨vl14_1, vx18_1⟩
  · refine awp_sub (awp_loop' (z613 qx1 qx2) z615 (z614 qx1 qx2) (by intro x; rcases x with x | x <;> exact fun h => nomatch h) h32 (z616 qx1 qx2)) ?_
    exact sR 1 (awp_ret (oF hF [] []))
  · refine awp_sub (awp_loop' (z613 qx1 qx2) z615 (z614 qx1 qx2) (by intro x; rcases x with x | x <;> exact fun h => nomatch h) h32 (z616 qx1 qx2)) ?_
    exact oF hF [] []

/-! ### slices.partitionEqualCmpFunc[beaconfleet/api.Mark] -/
def z704 (qx1 : Int) (vl : List api_Mark) (vx1 : Int) (vx10 : Int) : Bool → St
  | vx12 => Mem.st ⟨[(0, ⟨88, 6, List.map api_Mark.enc vl⟩)], []⟩ (tl [(0, .c (.own 0 none)), (1, .i qx1), (4, .c (.fn 103 [])), (11, .i vx10), (12, .i vx1), (47, .b vx12)]) 1

def z703 (qx1 : Int) (vl : List api_Mark) (vx1 : Int) (vx10 : Int) : St := Mem.st ⟨[(0, ⟨88, 6, List.map api_Mark.enc vl⟩)], []⟩ (tl [(0, .c (.own 0 none)), (1, .i qx1), (4, .c (.fn 103 [])), (11, .i vx10), (12, .i vx1)]) 1

theorem z705 (qx1 : Int) (vl : List api_Mark) (vx1 : Int) (vx10 : Int) {r} (hF : z702 qx1 vl vx1 vx10 = some r) : Awp prog 1 90 (cL (cL (cL (cL (cL (cL (cL (cL (cL (cR (cR (cR (cB f179))))))))))))) (Out 1 nrm (z704 qx1 vl vx1 vx10) r) (z703 qx1 vl vx1 vx10) := by
  unfold z702 at hF
  refine cE hF (fun h4 hF => ?_) fun h4 hF => ?_
  · refine bE hF fun vy16 h5 hF => bE hF fun vy17 h6 hF => bE hF fun vr3_5 h7 hF => aD ?_
    refine dR 2 ?_
    refine dB h4 ?_
    refine dR 4 ?_
    refine dX (x_idxO api_Mark.enc 0 h5) ?_
    refine dX (x_ldE api_Mark.enc h5) ?_
    refine dR 2 ?_
    refine dX (x_idxO api_Mark.enc 0 h6) ?_
    refine dX (x_ldE api_Mark.enc h6) ?_
    refine dC (z157 h7) [] [] [] ?_
    refine dR 3 ?_
    refine dE ?_
    exact oO hF [] [] rfl
  · refine aD ?_
    refine dR 2 ?_
    refine dB h4 ?_
    refine dR 14 ?_
    refine dE ?_
    exact oO hF [] [] rfl

def z700 : Int → AEx
  | _ => .exit 2

def z699 (qx1 : Int) (vl : List api_Mark) (vx1 : Int) : Int → St
  | vx13 => Mem.st ⟨[(0, ⟨88, 6, List.map api_Mark.enc vl⟩)], []⟩ (tl [(0, .c (.own 0 none)), (1, .i qx1), (4, .c (.fn 103 [])), (11, .i vx13), (12, .i vx1)]) 1

def z698 (qx1 : Int) (vl : List api_Mark) (vx1 : Int) : Int → St
  | vx10 => Mem.st ⟨[(0, ⟨88, 6, List.map api_Mark.enc vl⟩)], []⟩ (tl [(0, .c (.own 0 none)), (1, .i qx1), (4, .c (.fn 103 [])), (11, .i vx10), (12, .i vx1)]) 1

theorem z701 (qx1 : Int) (vl : List api_Mark) (vx1 : Int) (vx10 : Int) (r : (Int) ⊕ (Int)) (hF : z697 qx1 vl vx1 vx10 = some r) : Awp prog 1 90 (cL (cL (cL (cL (cL (cL (cL (cR (cR (cR (cB f179))))))))))) (Out 1 (kk z700) (SS (z698 qx1 vl vx1) (z699 qx1 vl vx1)) r) (z698 qx1 vl vx1 vx10) := by
  unfold z697 at hF
  refine awp_seq (awp_seq (awp_to (st' := z703 qx1 vl vx1 vx10) (oT [] []) ?_))
  refine bE hF fun vx12_1 h8 hF => awp_sub (z705 qx1 vl vx1 vx10 h8) ?_
  refine cE hF (fun h9 hF => ?_) fun h9 hF => ?_
  · exact tT h9 (awp_skip (awp_block (gR 3 (oO hF [] [] rfl))))
  · refine tF h9 (awp_exit ?_)
    exact oO hF [] [] rfl

def z713 (qx1 : Int) (vl : List api_Mark) (vx13_1 : Int) (vx14 : Int) : Bool → St
  | vx16 => Mem.st ⟨[(0, ⟨88, 6, List.map api_Mark.enc vl⟩)], []⟩ (tl [(0, .c (.own 0 none)), (1, .i qx1), (4, .c (.fn 103 [])), (11, .i vx13_1), (12, .i vx14), (65, .b vx16)]) 1

def z712 (qx1 : Int) (vl : List api_Mark) (vx13_1 : Int) (vx14 : Int) : St := Mem.st ⟨[(0, ⟨88, 6, List.map api_Mark.enc vl⟩)], []⟩ (tl [(0, .c (.own 0 none)), (1, .i qx1), (4, .c (.fn 103 [])), (11, .i vx13_1), (12, .i vx14)]) 1

theorem z714 (qx1 : Int) (vl : List api_Mark) (vx13_1 : Int) (vx14 : Int) {r} (hF : z711 qx1 vl vx13_1 vx14 = some r) : Awp prog 1 90 (cL (cL (cL (cL (cL (cR (cL (cL (cL (cL (cR (cR (cR (cB f179)))))))))))))) (Out 1 nrm (z713 qx1 vl vx13_1 vx14) r) (z712 qx1 vl vx13_1 vx14) := by
  unfold z711 at hF
  refine cE hF (fun h11 hF => ?_) fun h11 hF => ?_
  · refine bE hF fun vy20 h12 hF => bE hF fun vy21 h13 hF => bE hF fun vr3_7 h14 hF => aD ?_
    refine dR 2 ?_
    refine dB h11 ?_
    refine dR 4 ?_
    refine dX (x_idxO api_Mark.enc 0 h12) ?_
    refine dX (x_ldE api_Mark.enc h12) ?_
    refine dR 2 ?_
    refine dX (x_idxO api_Mark.enc 0 h13) ?_
    refine dX (x_ldE api_Mark.enc h13) ?_
    refine dC (z157 h14) [] [] [] ?_
    refine dR 2 ?_
    refine dE ?_
    exact oO hF [] [] rfl
  · refine aD ?_
    refine dR 2 ?_
    refine dB h11 ?_
    refine dR 13 ?_
    refine dE ?_
    exact oO hF [] [] rfl

def z709 : Int → AEx
  | _ => .exit 4

def z708 (qx1 : Int) (vl : List api_Mark) (vx13_1 : Int) : Int → St
  | vx17 => Mem.st ⟨[(0, ⟨88, 6, List.map api_Mark.enc vl⟩)], []⟩ (tl [(0, .c (.own 0 none)), (1, .i qx1), (4, .c (.fn 103 [])), (11, .i vx13_1), (12, .i vx17)]) 1

def z707 (qx1 : Int) (vl : List api_Mark) (vx13_1 : Int) : Int → St
  | vx14 => Mem.st ⟨[(0, ⟨88, 6, List.map api_Mark.enc vl⟩)], []⟩ (tl [(0, .c (.own 0 none)), (1, .i qx1), (4, .c (.fn 103 [])), (11, .i vx13_1), (12, .i vx14)]) 1

theorem z710 (qx1 : Int) (vl : List api_Mark) (vx13_1 : Int) (vx14 : Int) (r : (Int) ⊕ (Int)) (hF : z706 qx1 vl vx13_1 vx14 = some r) : Awp prog 1 90 (cL (cL (cL (cR (cL (cL (cL (cL (cR (cR (cR (cB f179)))))))))))) (Out 1 (kk z709) (SS (z707 qx1 vl vx13_1) (z708 qx1 vl vx13_1)) r) (z707 qx1 vl vx13_1 vx14) := by
  unfold z706 at hF
  refine awp_seq (awp_seq (awp_to (st' := z712 qx1 vl vx13_1 vx14) (oT [] []) ?_))
  refine bE hF fun vx16_1 h15 hF => awp_sub (z714 qx1 vl vx13_1 vx14 h15) ?_
  refine cE hF (fun h16 hF => ?_) fun h16 hF => ?_
  · exact tT h16 (awp_skip (awp_block (gR 3 (oO hF [] [] rfl))))
  · refine tF h16 (awp_exit ?_)
    exact oO hF [] [] rfl

def z695 : ((List api_Mark) × Int) → AEx
  | _ => .exit 0

def z694 (qx1 : Int) : ((List api_Mark) × Int) → St
  | (vl1, vx18) => Mem.st ⟨[(0, ⟨88, 6, List.map api_Mark.enc vl1⟩)], []⟩ (tl [(11, .i vx18)]) 1

def z693 (qx1 : Int) : (List api_Mark) × Int × Int → St
  | (vl, vx, vx1) => Mem.st ⟨[(0, ⟨88, 6, List.map api_Mark.enc vl⟩)], []⟩ (tl [(0, .c (.own 0 none)), (1, .i qx1), (4, .c (.fn 103 [])), (11, .i vx), (12, .i vx1)]) 1

theorem z696 (qx1 : Int) (s : (List api_Mark) × Int × Int) (r : ((List api_Mark) × Int × Int) ⊕ (((List api_Mark) × Int))) (hF : z692 qx1 s = some r) : Awp prog 1 90 (cL (cL (cL (cR (cR (cR (cB f179))))))) (Out 1 (kk z695) (SS (z693 qx1) (z694 qx1)) r) (z693 qx1 s) := by
  obtain ⟨vl, vx, vx1⟩ := s
  unfold z692 at hF
  refine awp_block (awp_seq (awp_block (awp_to (st' := z698 qx1 vl vx1 vx) (oT [] []) ?_)))
  refine bE hF fun vx13_1 h10 hF => awp_sub (awp_loop' (z698 qx1 vl vx1) z700 (z699 qx1 vl vx1) (by intro x; exact fun h => nomatch h) h10 (z701 qx1 vl vx1)) ?_
  refine awp_seq (awp_block (awp_to (st' := z707 qx1 vl vx13_1 vx1) (oT [] []) ?_))
  refine bE hF fun vx17_1 h17 hF => awp_sub (awp_loop' (z707 qx1 vl vx13_1) z709 (z708 qx1 vl vx13_1) (by intro x; exact fun h => nomatch h) h17 (z710 qx1 vl vx13_1)) ?_
  refine awp_seq (sR 3 (cE hF (fun h18 hF => ?_) fun h18 hF => ?_))
  · refine tT h18 (awp_exit ?_)
    exact oO hF [] [] rfl
  · refine tF h18 (awp_skip (awp_seq (bE hF fun vy22 h19 hF => bE hF fun vy23 h20 hF => bE hF fun vy24 h21 hF => aDw [0] ?_)))
    refine dR 6 ?_
    refine dI api_Mark.enc 0 h19 rfl ?_
    refine dX (x_ldE api_Mark.enc h19) ?_
    refine dR 2 ?_
    refine dI api_Mark.enc 0 h20 rfl ?_
    refine dX (x_ldE api_Mark.enc h20) ?_
    refine dI api_Mark.enc 0 h20 rfl ?_
    refine dW api_Mark.enc (api_Mark.mk vy22.At vy22.Device vy22.Kind (api_Version.mk vy22.Version.Major vy22.Version.Minor vy22.Version.Patch)) h20 rfl ?_
    refine dI api_Mark.enc 0 h21 rfl ?_
    refine dW api_Mark.enc (api_Mark.mk vy23.At vy23.Device vy23.Kind (api_Version.mk vy23.Version.Major vy23.Version.Minor vy23.Version.Patch)) h21 rfl ?_
    refine dE ?_
    exact sR 3 (gR 3 (oO hF [] [] rfl))

def z690 (qx : List api_Mark) (qx1 : Int) (qx2 : Int) (qx3 : Int) (r : (List api_Mark) × Int) : TV × Mem := (.i r.2, ⟨[(0, ⟨88, 6, List.map api_Mark.enc r.1⟩)], []⟩)

theorem z691 {qx : List api_Mark} {qx1 : Int} {qx2 : Int} {qx3 : Int} {r} (hF : z689 qx qx1 qx2 qx3 = some r) : Holds prog 179 [.c (.own 0 none), .i qx1, .i qx2, .i qx3, .c (.fn 103 [])] ⟨[(0, ⟨88, 6, List.map api_Mark.enc qx⟩)], []⟩ (Is (z690 qx qx1 qx2 qx3 r)) := by
  unfold z689 at hF
  refine hW f179 90 1 1 ?_
  refine sR 1 (awp_seq (bE hF fun vy h1 hF => bE hF fun vy1 h2 hF => bE hF fun vy2 h3 hF => aDw [0] ?_))
  refine dR 6 ?_
  refine dI api_Mark.enc 0 h1 rfl ?_
  refine dX (x_ldE api_Mark.enc h1) ?_
  refine dR 2 ?_
  refine dI api_Mark.enc 0 h2 rfl ?_
  refine dX (x_ldE api_Mark.enc h2) ?_
  refine dI api_Mark.enc 0 h2 rfl ?_
  refine dW api_Mark.enc (api_Mark.mk vy.At vy.Device vy.Kind (api_Version.mk vy.Version.Major vy.Version.Minor vy.Version.Patch)) h2 rfl ?_
  refine dI api_Mark.enc 0 h3 rfl ?_
  refine dW api_Mark.enc (api_Mark.mk vy1.At vy1.Device vy1.Kind (api_Version.mk vy1.Version.Major vy1.Version.Minor vy1.Version.Patch)) h3 rfl ?_
  refine dE ?_
  refine sR 6 (awp_seq (awp_block (awp_to (st' := z693 qx1 ((qx.set qx1.toNat (api_Mark.mk vy.At vy.Device vy.Kind (api_Version.mk vy.Version.Major vy.Version.Minor vy.Version.Patch))).set qx3.toNat (api_Mark.mk vy1.At vy1.Device vy1.Kind (api_Version.mk vy1.Version.Major vy1.Version.Minor vy1.Version.Patch)), IntKind.wrap .i64 (qx1 + 1), IntKind.wrap .i64 (qx2 - 1))) (oT [] []) ?_)))
  refine bE hF fun x h22 hF => ?_
  obtain ⟨vl1_1, vx18_1⟩ := x
  refine awp_sub (awp_loop' (z693 qx1) z695 (z694 qx1) (by intro x; exact fun h => nomatch h) h22 (z696 qx1)) ?_
  exact sR 2 (awp_ret (oF hF [] []))

/-! ### slices.partitionCmpFunc[beaconfleet/api.Mark] -/
def z655 (qx : List api_Mark) (qx1 : Int) (qx2 : Int) (qx3 : Int) (vy : api_Mark) (vy1 : api_Mark) (vx : Int) : Bool → St
  | vx2 => Mem.st ⟨[(0, ⟨88, 6, List.map api_Mark.enc ((qx.set qx1.toNat (api_Mark.mk vy.At vy.Device vy.Kind (api_Version.mk vy.Version.Major vy.Version.Minor vy.Version.Patch))).set qx3.toNat (api_Mark.mk vy1.At vy1.Device vy1.Kind (api_Version.mk vy1.Version.Major vy1.Version.Minor vy1.Version.Patch)))⟩)], []⟩ (tl [(0, .c (.own 0 none)), (1, .i qx1), (4, .c (.fn 103 [])), (12, .i vx), (13, .i (IntKind.wrap .i64 (qx2 - 1))), (47, .b vx2)]) 1

def z654 (qx : List api_Mark) (qx1 : Int) (qx2 : Int) (qx3 : Int) (vy : api_Mark) (vy1 : api_Mark) (vx : Int) : St := Mem.st ⟨[(0, ⟨88, 6, List.map api_Mark.enc ((qx.set qx1.toNat (api_Mark.mk vy.At vy.Device vy.Kind (api_Version.mk vy.Version.Major vy.Version.Minor vy.Version.Patch))).set qx3.toNat (api_Mark.mk vy1.At vy1.Device vy1.Kind (api_Version.mk vy1.Version.Major vy1.Version.Minor vy1.Version.Patch)))⟩)], []⟩ (tl [(0, .c (.own 0 none)), (1, .i qx1), (4, .c (.fn 103 [])), (12, .i vx), (13, .i (IntKind.wrap .i64 (qx2 - 1)))]) 1

theorem z656 (qx : List api_Mark) (qx1 : Int) (qx2 : Int) (qx3 : Int) (vy : api_Mark) (vy1 : api_Mark) (vx : Int) {r} (hF : z653 qx qx1 qx2 qx3 vy vy1 vx = some r) : Awp prog 1 178 (cL (cL (cL (cL (cL (cR (cR (cR (cB f180))))))))) (Out 1 nrm (z655 qx qx1 qx2 qx3 vy vy1 vx) r) (z654 qx qx1 qx2 qx3 vy vy1 vx) := by
  unfold z653 at hF
  refine cE hF (fun h4 hF => ?_) fun h4 hF => ?_
  · refine bE hF fun vy5 h5 hF => bE hF fun vy6 h6 hF => bE hF fun vr3_1 h7 hF => aD ?_
    refine dR 2 ?_
    refine dB h4 ?_
    refine dR 4 ?_
    refine dX (x_idxO api_Mark.enc 0 h5) ?_
    refine dX (x_ldE api_Mark.enc h5) ?_
    refine dR 2 ?_
    refine dX (x_idxO api_Mark.enc 0 h6) ?_
    refine dX (x_ldE api_Mark.enc h6) ?_
    refine dC (z157 h7) [] [] [] ?_
    refine dR 2 ?_
    refine dE ?_
    exact oO hF [] [] rfl
  · refine aD ?_
    refine dR 2 ?_
    refine dB h4 ?_
    refine dR 13 ?_
    refine dE ?_
    exact oO hF [] [] rfl

def z651 : Int → AEx
  | _ => .exit 0

def z650 (qx : List api_Mark) (qx1 : Int) (qx2 : Int) (qx3 : Int) (vy : api_Mark) (vy1 : api_Mark) : Int → St
  | vx3 => Mem.st ⟨[(0, ⟨88, 6, List.map api_Mark.enc ((qx.set qx1.toNat (api_Mark.mk vy.At vy.Device vy.Kind (api_Version.mk vy.Version.Major vy.Version.Minor vy.Version.Patch))).set qx3.toNat (api_Mark.mk vy1.At vy1.Device vy1.Kind (api_Version.mk vy1.Version.Major vy1.Version.Minor vy1.Version.Patch)))⟩)], []⟩ (tl [(0, .c (.own 0 none)), (1, .i qx1), (4, .c (.fn 103 [])), (12, .i vx3), (13, .i (IntKind.wrap .i64 (qx2 - 1)))]) 1

def z649 (qx : List api_Mark) (qx1 : Int) (qx2 : Int) (qx3 : Int) (vy : api_Mark) (vy1 : api_Mark) : Int → St
  | vx => Mem.st ⟨[(0, ⟨88, 6, List.map api_Mark.enc ((qx.set qx1.toNat (api_Mark.mk vy.At vy.Device vy.Kind (api_Version.mk vy.Version.Major vy.Version.Minor vy.Version.Patch))).set qx3.toNat (api_Mark.mk vy1.At vy1.Device vy1.Kind (api_Version.mk vy1.Version.Major vy1.Version.Minor vy1.Version.Patch)))⟩)], []⟩ (tl [(0, .c (.own 0 none)), (1, .i qx1), (4, .c (.fn 103 [])), (12, .i vx), (13, .i (IntKind.wrap .i64 (qx2 - 1)))]) 1

theorem z652 (qx : List api_Mark) (qx1 : Int) (qx2 : Int) (qx3 : Int) (vy : api_Mark) (vy1 : api_Mark) (vx : Int) (r : (Int) ⊕ (Int)) (hF : z648 qx qx1 qx2 qx3 vy vy1 vx = some r) : Awp prog 1 178 (cL (cL (cL (cR (cR (cR (cB f180))))))) (Out 1 (kk z651) (SS (z649 qx qx1 qx2 qx3 vy vy1) (z650 qx qx1 qx2 qx3 vy vy1)) r) (z649 qx qx1 qx2 qx3 vy vy1 vx) := by
  unfold z648 at hF
  refine awp_seq (awp_seq (awp_to (st' := z654 qx qx1 qx2 qx3 vy vy1 vx) (oT [] []) ?_))
  refine bE hF fun vx2_1 h8 hF => awp_sub (z656 qx qx1 qx2 qx3 vy vy1 vx h8) ?_
  refine cE hF (fun h9 hF => ?_) fun h9 hF => ?_
  · exact tT h9 (awp_skip (awp_block (gR 3 (oO hF [] [] rfl))))
  · refine tF h9 (awp_exit ?_)
    exact oO hF [] [] rfl

def z664 (qx : List api_Mark) (qx1 : Int) (qx3 : Int) (vy : api_Mark) (vy1 : api_Mark) (vx3_1 : Int) (vx4 : Int) : Bool → St
  | vx6 => Mem.st ⟨[(0, ⟨88, 6, List.map api_Mark.enc ((qx.set qx1.toNat (api_Mark.mk vy.At vy.Device vy.Kind (api_Version.mk vy.Version.Major vy.Version.Minor vy.Version.Patch))).set qx3.toNat (api_Mark.mk vy1.At vy1.Device vy1.Kind (api_Version.mk vy1.Version.Major vy1.Version.Minor vy1.Version.Patch)))⟩)], []⟩ (tl [(0, .c (.own 0 none)), (1, .i qx1), (4, .c (.fn 103 [])), (12, .i vx3_1), (13, .i vx4), (66, .b vx6)]) 1

def z663 (qx : List api_Mark) (qx1 : Int) (qx3 : Int) (vy : api_Mark) (vy1 : api_Mark) (vx3_1 : Int) (vx4 : Int) : St := Mem.st ⟨[(0, ⟨88, 6, List.map api_Mark.enc ((qx.set qx1.toNat (api_Mark.mk vy.At vy.Device vy.Kind (api_Version.mk vy.Version.Major vy.Version.Minor vy.Version.Patch))).set qx3.toNat (api_Mark.mk vy1.At vy1.Device vy1.Kind (api_Version.mk vy1.Version.Major vy1.Version.Minor vy1.Version.Patch)))⟩)], []⟩ (tl [(0, .c (.own 0 none)), (1, .i qx1), (4, .c (.fn 103 [])), (12, .i vx3_1), (13, .i vx4)]) 1

theorem z665 (qx : List api_Mark) (qx1 : Int) (qx3 : Int) (vy : api_Mark) (vy1 : api_Mark) (vx3_1 : Int) (vx4 : Int) {r} (hF : z662 qx qx1 qx3 vy vy1 vx3_1 vx4 = some r) : Awp prog 1 178 (cL (cL (cL (cL (cL (cR (cR (cR (cR (cB f180)))))))))) (Out 1 nrm (z664 qx qx1 qx3 vy vy1 vx3_1 vx4) r) (z663 qx qx1 qx3 vy vy1 vx3_1 vx4) := by
  unfold z662 at hF
  refine cE hF (fun h11 hF => ?_) fun h11 hF => ?_
  · refine bE hF fun vy9 h12 hF => bE hF fun vy10 h13 hF => bE hF fun vr3_3 h14 hF => aD ?_
    refine dR 2 ?_
    refine dB h11 ?_
    refine dR 4 ?_
    refine dX (x_idxO api_Mark.enc 0 h12) ?_
    refine dX (x_ldE api_Mark.enc h12) ?_
    refine dR 2 ?_
    refine dX (x_idxO api_Mark.enc 0 h13) ?_
    refine dX (x_ldE api_Mark.enc h13) ?_
    refine dC (z157 h14) [] [] [] ?_
    refine dR 3 ?_
    refine dE ?_
    exact oO hF [] [] rfl
  · refine aD ?_
    refine dR 2 ?_
    refine dB h11 ?_
    refine dR 14 ?_
    refine dE ?_
    exact oO hF [] [] rfl

def z660 : Int → AEx
  | _ => .exit 2

def z659 (qx : List api_Mark) (qx1 : Int) (qx3 : Int) (vy : api_Mark) (vy1 : api_Mark) (vx3_1 : Int) : Int → St
  | vx7 => Mem.st ⟨[(0, ⟨88, 6, List.map api_Mark.enc ((qx.set qx1.toNat (api_Mark.mk vy.At vy.Device vy.Kind (api_Version.mk vy.Version.Major vy.Version.Minor vy.Version.Patch))).set qx3.toNat (api_Mark.mk vy1.At vy1.Device vy1.Kind (api_Version.mk vy1.Version.Major vy1.Version.Minor vy1.Version.Patch)))⟩)], []⟩ (tl [(0, .c (.own 0 none)), (1, .i qx1), (4, .c (.fn 103 [])), (12, .i vx3_1), (13, .i vx7)]) 1

def z658 (qx : List api_Mark) (qx1 : Int) (qx3 : Int) (vy : api_Mark) (vy1 : api_Mark) (vx3_1 : Int) : Int → St
  | vx4 => Mem.st ⟨[(0, ⟨88, 6, List.map api_Mark.enc ((qx.set qx1.toNat (api_Mark.mk vy.At vy.Device vy.Kind (api_Version.mk vy.Version.Major vy.Version.Minor vy.Version.Patch))).set qx3.toNat (api_Mark.mk vy1.At vy1.Device vy1.Kind (api_Version.mk vy1.Version.Major vy1.Version.Minor vy1.Version.Patch)))⟩)], []⟩ (tl [(0, .c (.own 0 none)), (1, .i qx1), (4, .c (.fn 103 [])), (12, .i vx3_1), (13, .i vx4)]) 1

theorem z661 (qx : List api_Mark) (qx1 : Int) (qx3 : Int) (vy : api_Mark) (vy1 : api_Mark) (vx3_1 : Int) (vx4 : Int) (r : (Int) ⊕ (Int)) (hF : z657 qx qx1 qx3 vy vy1 vx3_1 vx4 = some r) : Awp prog 1 178 (cL (cL (cL (cR (cR (cR (cR (cB f180)))))))) (Out 1 (kk z660) (SS (z658 qx qx1 qx3 vy vy1 vx3_1) (z659 qx qx1 qx3 vy vy1 vx3_1)) r) (z658 qx qx1 qx3 vy vy1 vx3_1 vx4) := by
  unfold z657 at hF
  refine awp_seq (awp_seq (awp_to (st' := z663 qx qx1 qx3 vy vy1 vx3_1 vx4) (oT [] []) ?_))
  refine bE hF fun vx6_1 h15 hF => awp_sub (z665 qx qx1 qx3 vy vy1 vx3_1 vx4 h15) ?_
  refine cE hF (fun h16 hF => ?_) fun h16 hF => ?_
  · exact tT h16 (awp_skip (awp_block (gR 3 (oO hF [] [] rfl))))
  · refine tF h16 (awp_exit ?_)
    exact oO hF [] [] rfl

def z678 (qx1 : Int) (vl : List api_Mark) (vx9 : Int) (vx18 : Int) : Bool → St
  | vx20 => Mem.st ⟨[(0, ⟨88, 6, List.map api_Mark.enc vl⟩)], []⟩ (tl [(0, .c (.own 0 none)), (1, .i qx1), (4, .c (.fn 103 [])), (12, .i vx18), (13, .i vx9), (120, .b vx20)]) 1

def z677 (qx1 : Int) (vl : List api_Mark) (vx9 : Int) (vx18 : Int) : St := Mem.st ⟨[(0, ⟨88, 6, List.map api_Mark.enc vl⟩)], []⟩ (tl [(0, .c (.own 0 none)), (1, .i qx1), (4, .c (.fn 103 [])), (12, .i vx18), (13, .i vx9)]) 1

theorem z679 (qx1 : Int) (vl : List api_Mark) (vx9 : Int) (vx18 : Int) {r} (hF : z676 qx1 vl vx9 vx18 = some r) : Awp prog 1 178 (cL (cL (cL (cL (cL (cL (cL (cL (cL (cR (cR (cR (cR (cR (cR (cR (cR (cR (cB f180))))))))))))))))))) (Out 1 nrm (z678 qx1 vl vx9 vx18) r) (z677 qx1 vl vx9 vx18) := by
  unfold z676 at hF
  refine cE hF (fun h25 hF => ?_) fun h25 hF => ?_
  · refine bE hF fun vy30 h26 hF => bE hF fun vy31 h27 hF => bE hF fun vr3_9 h28 hF => aD ?_
    refine dR 2 ?_
    refine dB h25 ?_
    refine dR 4 ?_
    refine dX (x_idxO api_Mark.enc 0 h26) ?_
    refine dX (x_ldE api_Mark.enc h26) ?_
    refine dR 2 ?_
    refine dX (x_idxO api_Mark.enc 0 h27) ?_
    refine dX (x_ldE api_Mark.enc h27) ?_
    refine dC (z157 h28) [] [] [] ?_
    refine dR 2 ?_
    refine dE ?_
    exact oO hF [] [] rfl
  · refine aD ?_
    refine dR 2 ?_
    refine dB h25 ?_
    refine dR 13 ?_
    refine dE ?_
    exact oO hF [] [] rfl

def z674 : Int → AEx
  | _ => .exit 6

def z673 (qx1 : Int) (vl : List api_Mark) (vx9 : Int) : Int → St
  | vx21 => Mem.st ⟨[(0, ⟨88, 6, List.map api_Mark.enc vl⟩)], []⟩ (tl [(0, .c (.own 0 none)), (1, .i qx1), (4, .c (.fn 103 [])), (12, .i vx21), (13, .i vx9)]) 1

def z672 (qx1 : Int) (vl : List api_Mark) (vx9 : Int) : Int → St
  | vx18 => Mem.st ⟨[(0, ⟨88, 6, List.map api_Mark.enc vl⟩)], []⟩ (tl [(0, .c (.own 0 none)), (1, .i qx1), (4, .c (.fn 103 [])), (12, .i vx18), (13, .i vx9)]) 1

theorem z675 (qx1 : Int) (vl : List api_Mark) (vx9 : Int) (vx18 : Int) (r : (Int) ⊕ (Int)) (hF : z671 qx1 vl vx9 vx18 = some r) : Awp prog 1 178 (cL (cL (cL (cL (cL (cL (cL (cR (cR (cR (cR (cR (cR (cR (cR (cR (cB f180))))))))))))))))) (Out 1 (kk z674) (SS (z672 qx1 vl vx9) (z673 qx1 vl vx9)) r) (z672 qx1 vl vx9 vx18) := by
  unfold z671 at hF
  refine awp_seq (awp_seq (awp_to (st' := z677 qx1 vl vx9 vx18) (oT [] []) ?_))
  refine bE hF fun vx20_1 h29 hF => awp_sub (z679 qx1 vl vx9 vx18 h29) ?_
  refine cE hF (fun h30 hF => ?_) fun h30 hF => ?_
  · exact tT h30 (awp_skip (awp_block (gR 3 (oO hF [] [] rfl))))
  · refine tF h30 (awp_exit ?_)
    exact oO hF [] [] rfl

def z687 (qx1 : Int) (vl : List api_Mark) (vx21_1 : Int) (vx22 : Int) : Bool → St
  | vx24 => Mem.st ⟨[(0, ⟨88, 6, List.map api_Mark.enc vl⟩)], []⟩ (tl [(0, .c (.own 0 none)), (1, .i qx1), (4, .c (.fn 103 [])), (12, .i vx21_1), (13, .i vx22), (139, .b vx24)]) 1

def z686 (qx1 : Int) (vl : List api_Mark) (vx21_1 : Int) (vx22 : Int) : St := Mem.st ⟨[(0, ⟨88, 6, List.map api_Mark.enc vl⟩)], []⟩ (tl [(0, .c (.own 0 none)), (1, .i qx1), (4, .c (.fn 103 [])), (12, .i vx21_1), (13, .i vx22)]) 1

theorem z688 (qx1 : Int) (vl : List api_Mark) (vx21_1 : Int) (vx22 : Int) {r} (hF : z685 qx1 vl vx21_1 vx22 = some r) : Awp prog 1 178 (cL (cL (cL (cL (cL (cR (cL (cL (cL (cL (cR (cR (cR (cR (cR (cR (cR (cR (cR (cB f180)))))))))))))))))))) (Out 1 nrm (z687 qx1 vl vx21_1 vx22) r) (z686 qx1 vl vx21_1 vx22) := by
  unfold z685 at hF
  refine cE hF (fun h32 hF => ?_) fun h32 hF => ?_
  · refine bE hF fun vy34 h33 hF => bE hF fun vy35 h34 hF => bE hF fun vr3_11 h35 hF => aD ?_
    refine dR 2 ?_
    refine dB h32 ?_
    refine dR 4 ?_
    refine dX (x_idxO api_Mark.enc 0 h33) ?_
    refine dX (x_ldE api_Mark.enc h33) ?_
    refine dR 2 ?_
    refine dX (x_idxO api_Mark.enc 0 h34) ?_
    refine dX (x_ldE api_Mark.enc h34) ?_
    refine dC (z157 h35) [] [] [] ?_
    refine dR 3 ?_
    refine dE ?_
    exact oO hF [] [] rfl
  · refine aD ?_
    refine dR 2 ?_
    refine dB h32 ?_
    refine dR 14 ?_
    refine dE ?_
    exact oO hF [] [] rfl

def z683 : Int → AEx
  | _ => .exit 8

def z682 (qx1 : Int) (vl : List api_Mark) (vx21_1 : Int) : Int → St
  | vx25 => Mem.st ⟨[(0, ⟨88, 6, List.map api_Mark.enc vl⟩)], []⟩ (tl [(0, .c (.own 0 none)), (1, .i qx1), (4, .c (.fn 103 [])), (12, .i vx21_1), (13, .i vx25)]) 1

def z681 (qx1 : Int) (vl : List api_Mark) (vx21_1 : Int) : Int → St
  | vx22 => Mem.st ⟨[(0, ⟨88, 6, List.map api_Mark.enc vl⟩)], []⟩ (tl [(0, .c (.own 0 none)), (1, .i qx1), (4, .c (.fn 103 [])), (12, .i vx21_1), (13, .i vx22)]) 1

theorem z684 (qx1 : Int) (vl : List api_Mark) (vx21_1 : Int) (vx22 : Int) (r : (Int) ⊕ (Int)) (hF : z680 qx1 vl vx21_1 vx22 = some r) : Awp prog 1 178 (cL (cL (cL (cR (cL (cL (cL (cL (cR (cR (cR (cR (cR (cR (cR (cR (cR (cB f180)))))))))))))))))) (Out 1 (kk z683) (SS (z681 qx1 vl vx21_1) (z682 qx1 vl vx21_1)) r) (z681 qx1 vl vx21_1 vx22) := by
  unfold z680 at hF
  refine awp_seq (awp_seq (awp_to (st' := z686 qx1 vl vx21_1 vx22) (oT [] []) ?_))
  refine bE hF fun vx24_1 h36 hF => awp_sub (z688 qx1 vl vx21_1 vx22 h36) ?_
  refine cE hF (fun h37 hF => ?_) fun h37 hF => ?_
  · exact tT h37 (awp_skip (awp_block (gR 3 (oO hF [] [] rfl))))
  · refine tF h37 (awp_exit ?_)
    exact oO hF [] [] rfl

def z669 : ((List api_Mark) × Int) → AEx
  | _ => .exit 4

def z668 (qx1 : Int) : ((List api_Mark) × Int) → St
  | (vl1, vx26) => Mem.st ⟨[(0, ⟨88, 6, List.map api_Mark.enc vl1⟩)], []⟩ (tl [(0, .c (.own 0 none)), (1, .i qx1), (13, .i vx26)]) 1

def z667 (qx1 : Int) : (List api_Mark) × Int × Int → St
  | (vl, vx8, vx9) => Mem.st ⟨[(0, ⟨88, 6, List.map api_Mark.enc vl⟩)], []⟩ (tl [(0, .c (.own 0 none)), (1, .i qx1), (4, .c (.fn 103 [])), (12, .i vx8), (13, .i vx9)]) 1

theorem z670 (qx1 : Int) (s : (List api_Mark) × Int × Int) (r : ((List api_Mark) × Int × Int) ⊕ (((List api_Mark) × Int))) (hF : z666 qx1 s = some r) : Awp prog 1 178 (cL (cL (cL (cR (cR (cR (cR (cR (cR (cR (cR (cR (cB f180))))))))))))) (Out 1 (kk z669) (SS (z667 qx1) (z668 qx1)) r) (z667 qx1 s) := by
  obtain ⟨vl, vx8, vx9⟩ := s
  unfold z666 at hF
  refine awp_block (awp_seq (awp_block (awp_to (st' := z672 qx1 vl vx9 vx8) (oT [] []) ?_)))
  refine bE hF fun vx21_1 h31 hF => awp_sub (awp_loop' (z672 qx1 vl vx9) z674 (z673 qx1 vl vx9) (by intro x; exact fun h => nomatch h) h31 (z675 qx1 vl vx9)) ?_
  refine awp_seq (awp_block (awp_to (st' := z681 qx1 vl vx21_1 vx9) (oT [] []) ?_))
  refine bE hF fun vx25_1 h38 hF => awp_sub (awp_loop' (z681 qx1 vl vx21_1) z683 (z682 qx1 vl vx21_1) (by intro x; exact fun h => nomatch h) h38 (z684 qx1 vl vx21_1)) ?_
  refine awp_seq (sR 3 (cE hF (fun h39 hF => ?_) fun h39 hF => ?_))
  · refine tT h39 (awp_exit ?_)
    exact oO hF [] [] rfl
  · refine tF h39 (awp_skip (awp_seq (bE hF fun vy36 h40 hF => bE hF fun vy37 h41 hF => bE hF fun vy38 h42 hF => aDw [0] ?_)))
    refine dR 6 ?_
    refine dI api_Mark.enc 0 h40 rfl ?_
    refine dX (x_ldE api_Mark.enc h40) ?_
    refine dR 2 ?_
    refine dI api_Mark.enc 0 h41 rfl ?_
    refine dX (x_ldE api_Mark.enc h41) ?_
    refine dI api_Mark.enc 0 h41 rfl ?_
    refine dW api_Mark.enc (api_Mark.mk vy36.At vy36.Device vy36.Kind (api_Version.mk vy36.Version.Major vy36.Version.Minor vy36.Version.Patch)) h41 rfl ?_
    refine dI api_Mark.enc 0 h42 rfl ?_
    refine dW api_Mark.enc (api_Mark.mk vy37.At vy37.Device vy37.Kind (api_Version.mk vy37.Version.Major vy37.Version.Minor vy37.Version.Patch)) h42 rfl ?_
    refine dE ?_
    exact sR 3 (gR 3 (oO hF [] [] rfl))

def z646 (qx : List api_Mark) (qx1 : Int) (qx2 : Int) (qx3 : Int) (r : (List api_Mark) × Int × Bool) : TV × Mem := (.tup [.one (.i r.2.1), .one (.t r.2.2)], ⟨[(0, ⟨88, 6, List.map api_Mark.enc r.1⟩)], []⟩)

theorem z647 {qx : List api_Mark} {qx1 : Int} {qx2 : Int} {qx3 : Int} {r} (hF : z645 qx qx1 qx2 qx3 = some r) : Holds prog 180 [.c (.own 0 none), .i qx1, .i qx2, .i qx3, .c (.fn 103 [])] ⟨[(0, ⟨88, 6, List.map api_Mark.enc qx⟩)], []⟩ (Is (z646 qx qx1 qx2 qx3 r)) := by
  unfold z645 at hF
  refine hW f180 178 1 1 ?_
  refine sR 2 (awp_seq (bE hF fun vy h1 hF => bE hF fun vy1 h2 hF => bE hF fun vy2 h3 hF => aDw [0] ?_))
  refine dR 6 ?_
  refine dI api_Mark.enc 0 h1 rfl ?_
  refine dX (x_ldE api_Mark.enc h1) ?_
  refine dR 2 ?_
  refine dI api_Mark.enc 0 h2 rfl ?_
  refine dX (x_ldE api_Mark.enc h2) ?_
  refine dI api_Mark.enc 0 h2 rfl ?_
  refine dW api_Mark.enc (api_Mark.mk vy.At vy.Device vy.Kind (api_Version.mk vy.Version.Major vy.Version.Minor vy.Version.Patch)) h2 rfl ?_
  refine dI api_Mark.enc 0 h3 rfl ?_
  refine dW api_Mark.enc (api_Mark.mk vy1.At vy1.Device vy1.Kind (api_Version.mk vy1.Version.Major vy1.Version.Minor vy1.Version.Patch)) h3 rfl ?_
  refine dE ?_
  refine sR 6 (awp_seq (awp_block (awp_to (st' := z649 qx qx1 qx2 qx3 vy vy1 (IntKind.wrap .i64 (qx1 + 1))) (oT [] []) ?_)))
  refine bE hF fun vx3_1 h10 hF => awp_sub (awp_loop' (z649 qx qx1 qx2 qx3 vy vy1) z651 (z650 qx qx1 qx2 qx3 vy vy1) (by intro x; exact fun h => nomatch h) h10 (z652 qx qx1 qx2 qx3 vy vy1)) ?_
  refine awp_seq (awp_block (awp_to (st' := z658 qx qx1 qx3 vy vy1 vx3_1 (IntKind.wrap .i64 (qx2 - 1))) (oT [] []) ?_))
  refine bE hF fun vx7_1 h17 hF => awp_sub (awp_loop' (z658 qx qx1 qx3 vy vy1 vx3_1) z660 (z659 qx qx1 qx3 vy vy1 vx3_1) (by intro x; exact fun h => nomatch h) h17 (z661 qx qx1 qx3 vy vy1 vx3_1)) ?_
  refine awp_seq (sR 3 (cE hF (fun h18 hF => ?_) fun h18 hF => ?_))
  · refine tT h18 (awp_seq (bE hF fun vy11 h19 hF => bE hF fun vy12 h20 hF => bE hF fun vy13 h21 hF => aDw [0] ?_))
    refine dR 6 ?_
    refine dI api_Mark.enc 0 h19 rfl ?_
    refine dX (x_ldE api_Mark.enc h19) ?_
    refine dR 2 ?_
    refine dI api_Mark.enc 0 h20 rfl ?_
    refine dX (x_ldE api_Mark.enc h20) ?_
    refine dI api_Mark.enc 0 h20 rfl ?_
    refine dW api_Mark.enc (api_Mark.mk vy11.At vy11.Device vy11.Kind (api_Version.mk vy11.Version.Major vy11.Version.Minor vy11.Version.Patch)) h20 rfl ?_
    refine dI api_Mark.enc 0 h21 rfl ?_
    refine dW api_Mark.enc (api_Mark.mk vy12.At vy12.Device vy12.Kind (api_Version.mk vy12.Version.Major vy12.Version.Minor vy12.Version.Patch)) h21 rfl ?_
    refine dE ?_
    exact sR 3 (awp_ret (oF hF [] []))
  · refine tF h18 (awp_skip (awp_seq (bE hF fun vy14 h22 hF => bE hF fun vy15 h23 hF => bE hF fun vy16 h24 hF => aDw [0] ?_)))
    refine dR 6 ?_
    refine dI api_Mark.enc 0 h22 rfl ?_
    refine dX (x_ldE api_Mark.enc h22) ?_
    refine dR 2 ?_
    refine dI api_Mark.enc 0 h23 rfl ?_
    refine dX (x_ldE api_Mark.enc h23) ?_
    refine dI api_Mark.enc 0 h23 rfl ?_
    refine dW api_Mark.enc (api_Mark.mk vy14.At vy14.Device vy14.Kind (api_Version.mk vy14.Version.Major vy14.Version.Minor vy14.Version.Patch)) h23 rfl ?_
    refine dI api_Mark.enc 0 h24 rfl ?_
    refine dW api_Mark.enc (api_Mark.mk vy15.At vy15.Device vy15.Kind (api_Version.mk vy15.Version.Major vy15.Version.Minor vy15.Version.Patch)) h24 rfl ?_
    refine dE ?_
    refine sR 3 (sR 3 (awp_seq (awp_block (awp_to (st' := z667 qx1 ((((qx.set qx1.toNat (api_Mark.mk vy.At vy.Device vy.Kind (api_Version.mk vy.Version.Major vy.Version.Minor vy.Version.Patch))).set qx3.toNat (api_Mark.mk vy1.At vy1.Device vy1.Kind (api_Version.mk vy1.Version.Major vy1.Version.Minor vy1.Version.Patch))).set vx3_1.toNat (api_Mark.mk vy14.At vy14.Device vy14.Kind (api_Version.mk vy14.Version.Major vy14.Version.Minor vy14.Version.Patch))).set vx7_1.toNat (api_Mark.mk vy15.At vy15.Device vy15.Kind (api_Version.mk vy15.Version.Major vy15.Version.Minor vy15.Version.Patch)), IntKind.wrap .i64 (vx3_1 + 1), IntKind.wrap .i64 (vx7_1 - 1))) (oT [] []) ?_))))
    refine bE hF fun x h43 hF => ?_
    obtain ⟨vl1_1, vx26_1⟩ := x
    refine awp_sub (awp_loop' (z667 qx1) z669 (z668 qx1) (by intro x; exact fun h => nomatch h) h43 (z670 qx1)) ?_
    refine awp_seq (bE hF fun vy39 h44 hF => bE hF fun vy40 h45 hF => bE hF fun vy41 h46 hF => aDw [0] ?_)
    refine dR 6 ?_
    refine dI api_Mark.enc 0 h44 rfl ?_
    refine dX (x_ldE api_Mark.enc h44) ?_
    refine dR 2 ?_
    refine dI api_Mark.enc 0 h45 rfl ?_
    refine dX (x_ldE api_Mark.enc h45) ?_
    refine dI api_Mark.enc 0 h45 rfl ?_
    refine dW api_Mark.enc (api_Mark.mk vy39.At vy39.Device vy39.Kind (api_Version.mk vy39.Version.Major vy39.Version.Minor vy39.Version.Patch)) h45 rfl ?_
    refine dI api_Mark.enc 0 h46 rfl ?_
    refine dW api_Mark.enc (api_Mark.mk vy40.At vy40.Device vy40.Kind (api_Version.mk vy40.Version.Major vy40.Version.Minor vy40.Version.Patch)) h46 rfl ?_
    refine dE ?_
    exact sR 3 (awp_ret (oF hF [] []))

/-! ### slices.nextPowerOfTwo -/
def z604 (qlength : Int) (r : Int) : TV × Mem := (.c (.d (.int .u64 r)), ⟨[], []⟩)

theorem z605 {qlength : Int} {r} (hF : z603 qlength = some r) : Holds prog 199 [.i qlength] ⟨[], []⟩ (Is (z604 qlength r)) := by
  unfold z603 at hF
  refine hW f199 7 0 0 ?_
  refine sR 1 (awp_seq (bE hF fun vr1 h1 hF => gE hF fun h2 hF => ?_))
  refine awp_region (aR 2 (aC (z99 h1) [] [] [] (aX (x_shl h2) (aR 1 (aE ?_)))))
  exact awp_ret (oF hF [] [])

/-! ### (*slices.xorshift).Next -/
def z773 (qr : Int) (r : Unit) : TV × Mem := (.c (.d (.int .u64 (ibits .xor .u64 (ibits .xor .u64 (ibits .xor .u64 qr (ishl .u64 qr 13)) (ishr .u64 (ibits .xor .u64 qr (ishl .u64 qr 13)) 7)) (ishl .u64 (ibits .xor .u64 (ibits .xor .u64 qr (ishl .u64 qr 13)) (ishr .u64 (ibits .xor .u64 qr (ishl .u64 qr 13)) 7)) 17)))), ⟨[], [(0, [.d (.int .u64 (ibits .xor .u64 (ibits .xor .u64 (ibits .xor .u64 qr (ishl .u64 qr 13)) (ishr .u64 (ibits .xor .u64 qr (ishl .u64 qr 13)) 7)) (ishl .u64 (ibits .xor .u64 (ibits .xor .u64 qr (ishl .u64 qr 13)) (ishr .u64 (ibits .xor .u64 qr (ishl .u64 qr 13)) 7)) 17)))])]⟩)

theorem z774 {qr : Int} {r} (hF : z772 qr = some r) : Holds prog 200 [.c (.box 0 0)] ⟨[], [(0, [.d (.int .u64 qr)])]⟩ (Is (z773 qr r)) := by
  unfold z772 at hF
  refine hW f200 33 1 1 ?_
  refine sR 1 (awp_seq (aD ?_))
  refine dR 10 ?_
  refine dE ?_
  refine awp_seq (aD ?_)
  refine dR 10 ?_
  refine dE ?_
  refine awp_seq (aD ?_)
  refine dR 10 ?_
  refine dE ?_
  exact sR 4 (awp_ret (oF hF [] []))

/-! ### slices.breakPatternsCmpFunc[beaconfleet/api.Mark] -/
def z550 (qx1 : Int) (qx2 : Int) (vr : Int) (vl : List api_Mark) (vx : Int) (vx1 : Int) : Int → St
  | vx3 => Mem.st ⟨[(0, ⟨88, 6, List.map api_Mark.enc vl⟩)], [(1, [.d (.int .u64 (ibits .xor .u64 (ibits .xor .u64 (ibits .xor .u64 vx (ishl .u64 vx 13)) (ishr .u64 (ibits .xor .u64 vx (ishl .u64 vx 13)) 7)) (ishl .u64 (ibits .xor .u64 (ibits .xor .u64 vx (ishl .u64 vx 13)) (ishr .u64 (ibits .xor .u64 vx (ishl .u64 vx 13)) 7)) 17)))])]⟩ (tl [(0, .c (.own 0 none)), (1, .i qx1), (8, .i (IntKind.wrap .i64 (qx2 - qx1))), (9, .c (.box 1 0)), (10, .c (.d (.int .u64 vr))), (11, .i vx1), (12, .i vx3)]) 2

def z549 (qx1 : Int) (qx2 : Int) (vr : Int) (vl : List api_Mark) (vx : Int) (vx1 : Int) : St := Mem.st ⟨[(0, ⟨88, 6, List.map api_Mark.enc vl⟩)], [(1, [.d (.int .u64 (ibits .xor .u64 (ibits .xor .u64 (ibits .xor .u64 vx (ishl .u64 vx 13)) (ishr .u64 (ibits .xor .u64 vx (ishl .u64 vx 13)) 7)) (ishl .u64 (ibits .xor .u64 (ibits .xor .u64 vx (ishl .u64 vx 13)) (ishr .u64 (ibits .xor .u64 vx (ishl .u64 vx 13)) 7)) 17)))])]⟩ (tl [(0, .c (.own 0 none)), (1, .i qx1), (8, .i (IntKind.wrap .i64 (qx2 - qx1))), (9, .c (.box 1 0)), (10, .c (.d (.int .u64 vr))), (11, .i vx1), (12, .i (IntKind.wrap .i64 (ibits .and .u64 (ibits .xor .u64 (ibits .xor .u64 (ibits .xor .u64 vx (ishl .u64 vx 13)) (ishr .u64 (ibits .xor .u64 vx (ishl .u64 vx 13)) 7)) (ishl .u64 (ibits .xor .u64 (ibits .xor .u64 vx (ishl .u64 vx 13)) (ishr .u64 (ibits .xor .u64 vx (ishl .u64 vx 13)) 7)) 17)) (IntKind.wrap .u64 (vr - 1)))))]) 2

theorem z551 (qx1 : Int) (qx2 : Int) (vr : Int) (vl : List api_Mark) (vx : Int) (vx1 : Int) {r} (hF : z548 qx1 qx2 vr vx = some r) : Awp prog 1 67 (cL (cR (cL (cL (cR (cL (cL (cR (cR (cR (cL (cR (cR (cB f175)))))))))))))) (Out 1 nrm (z550 qx1 qx2 vr vl vx vx1) r) (z549 qx1 qx2 vr vl vx vx1) := by
  unfold z548 at hF
  refine sR 3 (cE hF (fun h5 hF => ?_) fun h5 hF => ?_)
  · exact tT h5 (gR 4 (oO hF [] [] rfl))
  · exact tF h5 (awp_skip (oO hF [] [] rfl))

def z546 : (List api_Mark) → AEx
  | _ => .exit 0

def z545 (qx1 : Int) (qx2 : Int) (vr : Int) : (List api_Mark) → St
  | vl1 => Mem.st ⟨[(0, ⟨88, 6, List.map api_Mark.enc vl1⟩)], []⟩ (tl []) 1

def z544 (qx1 : Int) (qx2 : Int) (vr : Int) : (List api_Mark) × Int × Int → St
  | (vl, vx, vx1) => Mem.st ⟨[(0, ⟨88, 6, List.map api_Mark.enc vl⟩)], [(1, [.d (.int .u64 vx)])]⟩ (tl [(0, .c (.own 0 none)), (1, .i qx1), (8, .i (IntKind.wrap .i64 (qx2 - qx1))), (9, .c (.box 1 0)), (10, .c (.d (.int .u64 vr))), (11, .i vx1)]) 2

theorem z547 (qx1 : Int) (qx2 : Int) (vr : Int) (s : (List api_Mark) × Int × Int) (r : ((List api_Mark) × Int × Int) ⊕ ((List api_Mark))) (hF : z543 qx1 qx2 vr s = some r) : Awp prog 1 67 (cL (cL (cR (cR (cR (cL (cR (cR (cB f175))))))))) (Out 1 (kk z546) (SS (z544 qx1 qx2 vr) (z545 qx1 qx2 vr)) r) (z544 qx1 qx2 vr s) := by
  obtain ⟨vl, vx, vx1⟩ := s
  unfold z543 at hF
  refine awp_seq (sR 8 (cE hF (fun h3 hF => ?_) fun h3 hF => ?_))
  · refine tT h3 (awp_skip (awp_seq (awp_block (awp_seq (bE hF fun _ h4 hF => awp_region (aC (z774 h4) [(0, 1)] [] [] (aR 5 (aE ?_))))))))
    refine awp_seq (awp_to (st' := z549 qx1 qx2 vr vl vx vx1) (oT [] []) ?_)
    refine bE hF fun vx3_1 h6 hF => awp_sub (z551 qx1 qx2 vr vl vx vx1 h6) ?_
    refine bE hF fun vy3 h7 hF => bE hF fun vy4 h8 hF => bE hF fun vy5 h9 hF => aDw [0] ?_
    refine dR 10 ?_
    refine dI api_Mark.enc 0 h7 rfl ?_
    refine dX (x_ldE api_Mark.enc h7) ?_
    refine dR 2 ?_
    refine dI api_Mark.enc 0 h8 rfl ?_
    refine dX (x_ldE api_Mark.enc h8) ?_
    refine dI api_Mark.enc 0 h8 rfl ?_
    refine dW api_Mark.enc (api_Mark.mk vy3.At vy3.Device vy3.Kind (api_Version.mk vy3.Version.Major vy3.Version.Minor vy3.Version.Patch)) h8 rfl ?_
    refine dI api_Mark.enc 0 h9 rfl ?_
    refine dW api_Mark.enc (api_Mark.mk vy4.At vy4.Device vy4.Kind (api_Version.mk vy4.Version.Major vy4.Version.Minor vy4.Version.Patch)) h9 rfl ?_
    refine dE ?_
    exact gR 3 (oO hF [] [] rfl)
  · refine tF h3 (awp_exit ?_)
    exact oO hF [] [] rfl

def z541 (qx : List api_Mark) (qx1 : Int) (qx2 : Int) (r : (List api_Mark)) : TV × Mem := (.tup [], ⟨[(0, ⟨88, 6, List.map api_Mark.enc r⟩)], []⟩)

theorem z542 {qx : List api_Mark} {qx1 : Int} {qx2 : Int} {r} (hF : z540 qx qx1 qx2 = some r) : Holds prog 175 [.c (.own 0 none), .i qx1, .i qx2, .c (.fn 103 [])] ⟨[(0, ⟨88, 6, List.map api_Mark.enc qx⟩)], []⟩ (Is (z541 qx qx1 qx2 r)) := by
  unfold z540 at hF
  refine hW f175 67 1 1 ?_
  refine sR 4 (sR 2 (cE hF (fun h1 hF => ?_) fun h1 hF => ?_))
  · refine tT h1 (sR 4 (awp_seq (bE hF fun vr h2 hF => awp_region (aR 1 (aC (z605 h2) [] [] [] (aR 1 (aE ?_)))))))
    refine sR 7 (awp_block (awp_to (st' := z544 qx1 qx2 vr (qx, IntKind.wrap .u64 (IntKind.wrap .i64 (qx2 - qx1)), IntKind.wrap .i64 ((IntKind.wrap .i64 (qx1 + (IntKind.wrap .i64 ((IntKind.wrap .i64 ((IntKind.wrap .i64 (qx2 - qx1)).tdiv 4)) * 2)))) - 1))) (oT [(1, 8001)] []) ?_))
    refine bE hF fun vl1_1 h10 hF => awp_sub (awp_loop' (z544 qx1 qx2 vr) z546 (z545 qx1 qx2 vr) (by intro x; exact fun h => nomatch h) h10 (z547 qx1 qx2 vr)) ?_
    exact oF hF [] []
  · exact tF h1 (awp_skip (oF hF [] []))

/-! ### slices.pdqsortCmpFunc[beaconfleet/api.Mark] -/
def z716 (qx : List api_Mark) (qx1 : Int) (qx2 : Int) (qx3 : Int) (r : (List api_Mark)) : TV × Mem := (.tup [], ⟨[(0, ⟨88, 6, List.map api_Mark.enc r⟩)], []⟩)

def z727 (vl : List api_Mark) (vx : Int) (vx1 : Int) (vx2 : Int) (vx3 : Bool) (vx4 : Bool) : ((List api_Mark) × Int) → St
  | (vl7, vx10) => Mem.st ⟨[(0, ⟨88, 6, List.map api_Mark.enc vl7⟩)], []⟩ (tl [(0, .c (.own 0 none)), (1, .i vx), (2, .i vx1), (3, .i vx10), (4, .c (.fn 103 [])), (10, .b vx3), (11, .b vx4), (12, .i (IntKind.wrap .i64 (vx1 - vx)))]) 1

def z726 (vl : List api_Mark) (vx : Int) (vx1 : Int) (vx2 : Int) (vx3 : Bool) (vx4 : Bool) : St := Mem.st ⟨[(0, ⟨88, 6, List.map api_Mark.enc vl⟩)], []⟩ (tl [(0, .c (.own 0 none)), (1, .i vx), (2, .i vx1), (3, .i vx2), (4, .c (.fn 103 [])), (10, .b vx3), (11, .b vx4), (12, .i (IntKind.wrap .i64 (vx1 - vx)))]) 1

theorem z728 {recF : (List api_Mark) → Int → Int → Int → Option ((List api_Mark))} (ih : ∀ {qx : List api_Mark} {qx1 : Int} {qx2 : Int} {qx3 : Int} {r}, recF qx qx1 qx2 qx3 = some r → Holds prog 145 [.c (.own 0 none), .i qx1, .i qx2, .i qx3, .c (.fn 103 [])] ⟨[(0, ⟨88, 6, List.map api_Mark.enc qx⟩)], []⟩ (Is (z716 qx qx1 qx2 qx3 r))) (vl : List api_Mark) (vx : Int) (vx1 : Int) (vx2 : Int) (vx3 : Bool) (vx4 : Bool) {r} (hF : z725 recF vl vx vx1 vx2 vx3 = some r) : Awp prog 1 148 (cL (cR (cR (cR (cL (cL (cL (cR (cR (cB f145)))))))))) (Out 1 nrm (z727 vl vx vx1 vx2 vx3 vx4) r) (z726 vl vx vx1 vx2 vx3 vx4) := by
  unfold z725 at hF
  refine sR 2 (cE hF (fun h6 hF => ?_) fun h6 hF => ?_)
  · refine tT h6 (awp_seq (bE hF fun vl2_4 h7 hF => gE hF fun h8 hF => ?_))
    refine awp_region (aR 4 (aCp (z542 h7) ⟨⟨rfl, rfl, pin1 h8⟩, trivial⟩ [] [] [] ?_))
    refine aE ?_
    exact gR 3 (oO hF [] [] rfl)
  · exact tF h6 (awp_skip (oO hF [] [] rfl))

def z731 (vx : Int) (vx1 : Int) (vx3 : Bool) (vx4 : Bool) (vl7_1 : List api_Mark) (vx10_1 : Int) (vr3_2 : Int) (vr5_1 : Int) : ((List api_Mark) × Int × Int) → St
  | (vl8, vx11, vx12) => Mem.st ⟨[(0, ⟨88, 6, List.map api_Mark.enc vl8⟩)], []⟩ (tl [(0, .c (.own 0 none)), (1, .i vx), (2, .i vx1), (3, .i vx10_1), (4, .c (.fn 103 [])), (10, .b vx3), (11, .b vx4), (12, .i (IntKind.wrap .i64 (vx1 - vx))), (13, .i vx11), (14, .i vx12)]) 1

def z730 (vx : Int) (vx1 : Int) (vx3 : Bool) (vx4 : Bool) (vl7_1 : List api_Mark) (vx10_1 : Int) (vr3_2 : Int) (vr5_1 : Int) : St := Mem.st ⟨[(0, ⟨88, 6, List.map api_Mark.enc vl7_1⟩)], []⟩ (tl [(0, .c (.own 0 none)), (1, .i vx), (2, .i vx1), (3, .i vx10_1), (4, .c (.fn 103 [])), (10, .b vx3), (11, .b vx4), (12, .i (IntKind.wrap .i64 (vx1 - vx))), (13, .i vr3_2), (14, .i vr5_1)]) 1

theorem z732 {recF : (List api_Mark) → Int → Int → Int → Option ((List api_Mark))} (ih : ∀ {qx : List api_Mark} {qx1 : Int} {qx2 : Int} {qx3 : Int} {r}, recF qx qx1 qx2 qx3 = some r → Holds prog 145 [.c (.own 0 none), .i qx1, .i qx2, .i qx3, .c (.fn 103 [])] ⟨[(0, ⟨88, 6, List.map api_Mark.enc qx⟩)], []⟩ (Is (z716 qx qx1 qx2 qx3 r))) (vx : Int) (vx1 : Int) (vx3 : Bool) (vx4 : Bool) (vl7_1 : List api_Mark) (vx10_1 : Int) (vr3_2 : Int) (vr5_1 : Int) {r} (hF : z729 recF vx vx1 vl7_1 vr3_2 vr5_1 = some r) : Awp prog 1 148 (cL (cR (cR (cR (cR (cR (cL (cL (cL (cR (cR (cB f145)))))))))))) (Out 1 nrm (z731 vx vx1 vx3 vx4 vl7_1 vx10_1 vr3_2 vr5_1) r) (z730 vx vx1 vx3 vx4 vl7_1 vx10_1 vr3_2 vr5_1) := by
  unfold z729 at hF
  refine sR 2 (cE hF (fun h11 hF => ?_) fun h11 hF => ?_)
  · refine tT h11 (awp_seq (bE hF fun vl2_5 h12 hF => gE hF fun h13 hF => ?_))
    refine awp_region (aR 4 (aCp (z748 h12) ⟨⟨rfl, rfl, pin1 h13⟩, trivial⟩ [] [] [] ?_))
    refine aE ?_
    exact sR 7 (gR 1 (oO hF [] [] rfl))
  · exact tF h11 (awp_skip (oO hF [] [] rfl))

def z740 (vx : Int) (vx1 : Int) (vx3 : Bool) (vx4 : Bool) (vx10_1 : Int) (vl8_1 : List api_Mark) (vx11_1 : Int) (vx12_1 : Int) : Bool → St
  | vx13 => Mem.st ⟨[(0, ⟨88, 6, List.map api_Mark.enc vl8_1⟩)], []⟩ (tl [(0, .c (.own 0 none)), (1, .i vx), (2, .i vx1), (3, .i vx10_1), (4, .c (.fn 103 [])), (10, .b vx3), (11, .b vx4), (12, .i (IntKind.wrap .i64 (vx1 - vx))), (13, .i vx11_1), (75, .b vx13)]) 1

def z739 (vx : Int) (vx1 : Int) (vx3 : Bool) (vx4 : Bool) (vx10_1 : Int) (vl8_1 : List api_Mark) (vx11_1 : Int) (vx12_1 : Int) : St := Mem.st ⟨[(0, ⟨88, 6, List.map api_Mark.enc vl8_1⟩)], []⟩ (tl [(0, .c (.own 0 none)), (1, .i vx), (2, .i vx1), (3, .i vx10_1), (4, .c (.fn 103 [])), (10, .b vx3), (11, .b vx4), (12, .i (IntKind.wrap .i64 (vx1 - vx))), (13, .i vx11_1), (14, .i vx12_1)]) 1

theorem z741 {recF : (List api_Mark) → Int → Int → Int → Option ((List api_Mark))} (ih : ∀ {qx : List api_Mark} {qx1 : Int} {qx2 : Int} {qx3 : Int} {r}, recF qx qx1 qx2 qx3 = some r → Holds prog 145 [.c (.own 0 none), .i qx1, .i qx2, .i qx3, .c (.fn 103 [])] ⟨[(0, ⟨88, 6, List.map api_Mark.enc qx⟩)], []⟩ (Is (z716 qx qx1 qx2 qx3 r))) (vx : Int) (vx1 : Int) (vx3 : Bool) (vx4 : Bool) (vx10_1 : Int) (vl8_1 : List api_Mark) (vx11_1 : Int) (vx12_1 : Int) {r} (hF : z738 recF vx3 vx4 vx12_1 = some r) : Awp prog 1 148 (cL (cL (cR (cR (cR (cR (cR (cR (cL (cL (cL (cR (cR (cB f145)))))))))))))) (Out 1 nrm (z740 vx vx1 vx3 vx4 vx10_1 vl8_1 vx11_1 vx12_1) r) (z739 vx vx1 vx3 vx4 vx10_1 vl8_1 vx11_1 vx12_1) := by
  unfold z738 at hF
  refine cE hF (fun h15 hF => ?_) fun h15 hF => ?_
  · refine cE hF (fun h16 hF => ?_) fun h16 hF => ?_
    · refine awp_region (aB h15 (aR 1 (aB h16 (aR 5 (aE ?_)))))
      exact oO hF [] [] rfl
    · refine awp_region (aB h15 (aR 1 (aB h16 (aR 5 (aE ?_)))))
      exact oO hF [] [] rfl
  · refine awp_region (aB h15 (aR 7 (aE ?_)))
    exact oO hF [] [] rfl

def z736 : (List api_Mark) ⊕ (List api_Mark) → AEx
  | .inl _ => .normal
  | .inr _ => .ret

def z735 (vx : Int) (vx1 : Int) (vx3 : Bool) (vx4 : Bool) (vx10_1 : Int) (vl8_1 : List api_Mark) (vx11_1 : Int) (vx12_1 : Int) : (List api_Mark) ⊕ (List api_Mark) → St
  | .inl vl9 => Mem.st ⟨[(0, ⟨88, 6, List.map api_Mark.enc vl9⟩)], []⟩ (tl [(0, .c (.own 0 none)), (1, .i vx), (2, .i vx1), (3, .i vx10_1), (4, .c (.fn 103 [])), (10, .b vx3), (11, .b vx4), (12, .i (IntKind.wrap .i64 (vx1 - vx))), (13, .i vx11_1)]) 1
  | .inr vl11 => Mem.st ⟨[(0, ⟨88, 6, List.map api_Mark.enc vl11⟩)], []⟩ (tl []) 1

def z734 (vx : Int) (vx1 : Int) (vx3 : Bool) (vx4 : Bool) (vx10_1 : Int) (vl8_1 : List api_Mark) (vx11_1 : Int) (vx12_1 : Int) : St := Mem.st ⟨[(0, ⟨88, 6, List.map api_Mark.enc vl8_1⟩)], []⟩ (tl [(0, .c (.own 0 none)), (1, .i vx), (2, .i vx1), (3, .i vx10_1), (4, .c (.fn 103 [])), (10, .b vx3), (11, .b vx4), (12, .i (IntKind.wrap .i64 (vx1 - vx))), (13, .i vx11_1), (14, .i vx12_1)]) 1

theorem z737 {recF : (List api_Mark) → Int → Int → Int → Option ((List api_Mark))} (ih : ∀ {qx : List api_Mark} {qx1 : Int} {qx2 : Int} {qx3 : Int} {r}, recF qx qx1 qx2 qx3 = some r → Holds prog 145 [.c (.own 0 none), .i qx1, .i qx2, .i qx3, .c (.fn 103 [])] ⟨[(0, ⟨88, 6, List.map api_Mark.enc qx⟩)], []⟩ (Is (z716 qx qx1 qx2 qx3 r))) (vx : Int) (vx1 : Int) (vx3 : Bool) (vx4 : Bool) (vx10_1 : Int) (vl8_1 : List api_Mark) (vx11_1 : Int) (vx12_1 : Int) {r} (hF : z733 recF vx vx1 vx3 vx4 vl8_1 vx12_1 = some r) : Awp prog 1 148 (cL (cR (cR (cR (cR (cR (cR (cL (cL (cL (cR (cR (cB f145))))))))))))) (Out 1 z736 (z735 vx vx1 vx3 vx4 vx10_1 vl8_1 vx11_1 vx12_1) r) (z734 vx vx1 vx3 vx4 vx10_1 vl8_1 vx11_1 vx12_1) := by
  unfold z733 at hF
  refine awp_seq (awp_to (st' := z739 vx vx1 vx3 vx4 vx10_1 vl8_1 vx11_1 vx12_1) (oT [] []) ?_)
  refine bE hF fun vx13_1 h17 hF => awp_sub (z741 @ih vx vx1 vx3 vx4 vx10_1 vl8_1 vx11_1 vx12_1 h17) ?_
  refine cE hF (fun h18 hF => ?_) fun h18 hF => ?_
  · refine tT h18 (awp_seq (bE hF fun x h19 hF => ?_))
    obtain ⟨vl15_1, vr4⟩ := x
    refine gE hF fun h20 hF => ?_
    refine awp_region (aR 4 (aCp (z611 h19) ⟨⟨rfl, rfl, pin1 h20⟩, trivial⟩ [] [] [] ?_))
    refine aE ?_
    refine cE hF (fun h21 hF => ?_) fun h21 hF => ?_
    · exact tT h21 (awp_ret (oO hF [] [] rfl))
    · exact tF h21 (awp_skip (oO hF [] [] rfl))
  · exact tF h18 (awp_skip (oO hF [] [] rfl))

def z744 (vx : Int) (vx1 : Int) (vx3 : Bool) (vx4 : Bool) (vx10_1 : Int) (vx11_1 : Int) (vl9_1 : List api_Mark) : Bool → St
  | vx14 => Mem.st ⟨[(0, ⟨88, 6, List.map api_Mark.enc vl9_1⟩)], []⟩ (tl [(0, .c (.own 0 none)), (1, .i vx), (2, .i vx1), (3, .i vx10_1), (4, .c (.fn 103 [])), (10, .b vx3), (11, .b vx4), (12, .i (IntKind.wrap .i64 (vx1 - vx))), (13, .i vx11_1), (97, .b vx14)]) 1

def z743 (vx : Int) (vx1 : Int) (vx3 : Bool) (vx4 : Bool) (vx10_1 : Int) (vx11_1 : Int) (vl9_1 : List api_Mark) : St := Mem.st ⟨[(0, ⟨88, 6, List.map api_Mark.enc vl9_1⟩)], []⟩ (tl [(0, .c (.own 0 none)), (1, .i vx), (2, .i vx1), (3, .i vx10_1), (4, .c (.fn 103 [])), (10, .b vx3), (11, .b vx4), (12, .i (IntKind.wrap .i64 (vx1 - vx))), (13, .i vx11_1)]) 1

theorem z745 {recF : (List api_Mark) → Int → Int → Int → Option ((List api_Mark))} (ih : ∀ {qx : List api_Mark} {qx1 : Int} {qx2 : Int} {qx3 : Int} {r}, recF qx qx1 qx2 qx3 = some r → Holds prog 145 [.c (.own 0 none), .i qx1, .i qx2, .i qx3, .c (.fn 103 [])] ⟨[(0, ⟨88, 6, List.map api_Mark.enc qx⟩)], []⟩ (Is (z716 qx qx1 qx2 qx3 r))) (vx : Int) (vx1 : Int) (vx3 : Bool) (vx4 : Bool) (vx10_1 : Int) (vx11_1 : Int) (vl9_1 : List api_Mark) {r} (hF : z742 recF vx vx11_1 vl9_1 = some r) : Awp prog 1 148 (cL (cL (cR (cR (cR (cR (cR (cR (cR (cL (cL (cL (cR (cR (cB f145))))))))))))))) (Out 1 nrm (z744 vx vx1 vx3 vx4 vx10_1 vx11_1 vl9_1) r) (z743 vx vx1 vx3 vx4 vx10_1 vx11_1 vl9_1) := by
  unfold z742 at hF
  refine cE hF (fun h23 hF => ?_) fun h23 hF => ?_
  · refine bE hF fun vy2 h24 hF => bE hF fun vy3 h25 hF => bE hF fun vr3_3 h26 hF => aD ?_
    refine dR 1 ?_
    refine dB h23 ?_
    refine dR 5 ?_
    refine dX (x_idxO api_Mark.enc 0 h24) ?_
    refine dX (x_ldE api_Mark.enc h24) ?_
    refine dR 2 ?_
    refine dX (x_idxO api_Mark.enc 0 h25) ?_
    refine dX (x_ldE api_Mark.enc h25) ?_
    refine dC (z157 h26) [] [] [] ?_
    refine dR 3 ?_
    refine dE ?_
    exact oO hF [] [] rfl
  · refine aD ?_
    refine dR 1 ?_
    refine dB h23 ?_
    refine dR 15 ?_
    refine dE ?_
    exact oO hF [] [] rfl

def z723 : (List api_Mark) → AEx
  | _ => .ret

def z722 : (List api_Mark) → St
  | vl12 => Mem.st ⟨[(0, ⟨88, 6, List.map api_Mark.enc vl12⟩)], []⟩ (tl []) 1

def z721 : (List api_Mark) × Int × Int × Int × Bool × Bool → St
  | (vl, vx, vx1, vx2, vx3, vx4) => Mem.st ⟨[(0, ⟨88, 6, List.map api_Mark.enc vl⟩)], []⟩ (tl [(0, .c (.own 0 none)), (1, .i vx), (2, .i vx1), (3, .i vx2), (4, .c (.fn 103 [])), (10, .b vx3), (11, .b vx4)]) 1

theorem z724 {recF : (List api_Mark) → Int → Int → Int → Option ((List api_Mark))} (ih : ∀ {qx : List api_Mark} {qx1 : Int} {qx2 : Int} {qx3 : Int} {r}, recF qx qx1 qx2 qx3 = some r → Holds prog 145 [.c (.own 0 none), .i qx1, .i qx2, .i qx3, .c (.fn 103 [])] ⟨[(0, ⟨88, 6, List.map api_Mark.enc qx⟩)], []⟩ (Is (z716 qx qx1 qx2 qx3 r))) (s : (List api_Mark) × Int × Int × Int × Bool × Bool) (r : ((List api_Mark) × Int × Int × Int × Bool × Bool) ⊕ ((List api_Mark))) (hF : z720 recF  s = some r) : Awp prog 1 148 (cL (cL (cR (cR (cB f145))))) (Out 1 (kk z723) (SS (z721 ) (z722 )) r) (z721  s) := by
  obtain ⟨vl, vx, vx1, vx2, vx3, vx4⟩ := s
  unfold z720 at hF
  refine awp_block (sR 4 (awp_seq (sR 2 (cE hF (fun h1 hF => ?_) fun h1 hF => ?_))))
  · refine tT h1 (awp_seq (bE hF fun vl6_1 h2 hF => gE hF fun h3 hF => ?_))
    refine awp_region (aR 4 (aCp (z565 h2) ⟨⟨rfl, rfl, pin1 h3⟩, trivial⟩ [] [] [] ?_))
    refine aE ?_
    exact awp_ret (oO hF [] [] rfl)
  · refine tF h1 (awp_skip (awp_seq (sR 2 (cE hF (fun h4 hF => ?_) fun h4 hF => ?_))))
    · exact tT h4 (awp_seq (nE hF))
    · refine tF h4 (awp_skip (awp_seq (awp_to (st' := z726 vl vx vx1 vx2 vx3 vx4) (oT [] []) ?_)))
      refine bE hF fun x h9 hF => ?_
      obtain ⟨vl7_1, vx10_1⟩ := x
      refine awp_sub (z728 @ih vl vx vx1 vx2 vx3 vx4 h9) ?_
      refine awp_seq (bE hF fun x h10 hF => ?_)
      obtain ⟨vr3_2, vr5_1⟩ := x
      refine awp_region (aR 4 (aC (z554 h10) [] [] [0] (aR 5 (aE ?_))))
      refine awp_seq (awp_to (st' := z730 vx vx1 vx3 vx4 vl7_1 vx10_1 vr3_2 vr5_1) (oT [] []) ?_)
      refine bE hF fun x h14 hF => ?_
      obtain ⟨vl8_1, vx11_1, vx12_1⟩ := x
      refine awp_sub (z732 @ih vx vx1 vx3 vx4 vl7_1 vx10_1 vr3_2 vr5_1 h14) ?_
      refine awp_seq (awp_to (st' := z734 vx vx1 vx3 vx4 vx10_1 vl8_1 vx11_1 vx12_1) (oT [] []) ?_)
      refine bE hF fun x h22 hF => ?_
      rcases x with vl9_1 | vl11_1
      · refine awp_sub (z737 @ih vx vx1 vx3 vx4 vx10_1 vl8_1 vx11_1 vx12_1 h22) ?_
        refine awp_seq (awp_seq (awp_to (st' := z743 vx vx1 vx3 vx4 vx10_1 vx11_1 vl9_1) (oT [] []) ?_))
        refine bE hF fun vx14_1 h27 hF => awp_sub (z745 @ih vx vx1 vx3 vx4 vx10_1 vx11_1 vl9_1 h27) ?_
        refine cE hF (fun h28 hF => ?_) fun h28 hF => ?_
        · refine tT h28 (awp_seq (bE hF fun x h29 hF => ?_))
          obtain ⟨vl2_6, vr6⟩ := x
          refine gE hF fun h30 hF => ?_
          refine awp_region (aR 5 (aCp (z691 h29) ⟨⟨rfl, rfl, pin1 h30⟩, trivial⟩ [] [] [] ?_))
          refine aR 1 (aE ?_)
          refine sR 2 (awp_exit ?_)
          exact oO hF [] [] rfl
        · refine tF h28 (awp_skip (awp_seq (bE hF fun x h31 hF => ?_)))
          obtain ⟨vl2_7, vr7, vr1_2⟩ := x
          refine gE hF fun h32 hF => ?_
          refine awp_region (aR 5 (aCp (z647 h31) ⟨⟨rfl, rfl, pin1 h32⟩, trivial⟩ [] [] [] ?_))
          refine aR 5 (aE ?_)
          refine sR 2 (sR 8 (sR 3 (sR 3 (cE hF (fun h33 hF => ?_) fun h33 hF => ?_))))
          · refine tT h33 (sR 4 (awp_seq (bE hF fun vl10_2 h34 hF => gE hF fun h35 hF => ?_)))
            refine awp_region (aR 5 (aCp (ih h34) ⟨⟨rfl, rfl, pin1 h35⟩, trivial⟩ [] [] [] ?_))
            refine aE ?_
            exact gR 3 (oO hF [] [] rfl)
          · refine tF h33 (sR 4 (awp_seq (bE hF fun vl10_3 h36 hF => gE hF fun h37 hF => ?_)))
            refine awp_region (aR 6 (aCp (ih h36) ⟨⟨rfl, rfl, pin1 h37⟩, trivial⟩ [] [] [] ?_))
            refine aE ?_
            exact gR 2 (oO hF [] [] rfl)
      · refine awp_sub (z737 @ih vx vx1 vx3 vx4 vx10_1 vl8_1 vx11_1 vx12_1 h22) ?_
        exact oO hF [] [] rfl

theorem z718 (n : Nat) : ∀ {qx : List api_Mark} {qx1 : Int} {qx2 : Int} {qx3 : Int} {r}, z717 n qx qx1 qx2 qx3 = some r → Holds prog 145 [.c (.own 0 none), .i qx1, .i qx2, .i qx3, .c (.fn 103 [])] ⟨[(0, ⟨88, 6, List.map api_Mark.enc qx⟩)], []⟩ (Is (z716 qx qx1 qx2 qx3 r)) := by
  induction n with
  | zero => intro qx qx1 qx2 qx3 r hF; exact nE hF
  | succ n ih =>
    intro qx qx1 qx2 qx3 r hF
    unfold z717 at hF
    refine hW f145 148 1 1 ?_
    refine sR 1 (sR 1 (awp_block (awp_to (st' := z721  (qx, qx1, qx2, qx3, true, true)) (oT [] []) ?_)))
    refine bE hF fun vl12_1 h38 hF => awp_sub (awp_loop' (z721 ) z723 (z722 ) (by intro x; exact fun h => nomatch h) h38 (z724 @ih )) ?_
    exact oF hF [] []

theorem z719 {qx : List api_Mark} {qx1 : Int} {qx2 : Int} {qx3 : Int} {r} (hF : z715 qx qx1 qx2 qx3 = some r) : Holds prog 145 [.c (.own 0 none), .i qx1, .i qx2, .i qx3, .c (.fn 103 [])] ⟨[(0, ⟨88, 6, List.map api_Mark.enc qx⟩)], []⟩ (Is (z716 qx qx1 qx2 qx3 r)) :=
  let ⟨n, h⟩ := fixO_some hF
  z718 n h

/-! ### slices.SortFunc[[]beaconfleet/api.Mark,beaconfleet/api.Mark] -/
def z535 (qx : List api_Mark) (r : (List api_Mark)) : TV × Mem := (.tup [], ⟨[(0, ⟨88, 6, List.map api_Mark.enc r⟩)], []⟩)

theorem z536 {qx : List api_Mark} {r} (hF : z534 qx = some r) : Holds prog 102 [.c (.own 0 none), .c (.fn 103 [])] ⟨[(0, ⟨88, 6, List.map api_Mark.enc qx⟩)], []⟩ (Is (z535 qx r)) := by
  unfold z534 at hF
  refine hW f102 14 1 1 ?_
  refine awp_seq (awp_region (aR 1 (aL api_Mark.enc qx (aR 1 (aE ?_)))))
  refine bE hF fun vr1 h1 hF => bE hF fun vl13 h2 hF => gE hF fun h3 hF => ?_
  refine awp_region (aR 4 (aC (z99 h1) [] [] [] (aR 1 (aCp (z719 h2) ⟨⟨rfl, rfl, pin1 h3⟩, trivial⟩ [] [] [] ?_))))
  refine aE ?_
  exact oF hF [] []

/-! ### slices.Compact[[]beaconfleet/api.Mark,beaconfleet/api.Mark] -/
def z504 (qs : List api_Mark) (vk : Int) (vl4 : List api_Mark) (vk6 : Int) (vk2_1 : Int) : ((List api_Mark) × Int) → St
  | (vl6, vk8) => Mem.st ⟨[(0, ⟨88, 6, List.map api_Mark.enc vl6⟩)], []⟩ (tl [(0, .c (.own 0 none)), (3, .i vk8), (4, .c (.view 0 vk.toNat ((qs.length : Int).toNat - vk.toNat))), (5, .i vk2_1)]) 1

def z503 (qs : List api_Mark) (vk : Int) (vl4 : List api_Mark) (vk6 : Int) (vk2_1 : Int) : St := Mem.st ⟨[(0, ⟨88, 6, List.map api_Mark.enc vl4⟩)], []⟩ (tl [(0, .c (.own 0 none)), (3, .i vk6), (4, .c (.view 0 vk.toNat ((qs.length : Int).toNat - vk.toNat))), (5, .i vk2_1)]) 1

theorem z505 (qs : List api_Mark) (vk : Int) (vl4 : List api_Mark) (vk6 : Int) (vk2_1 : Int) {r} (hF : z502 qs vk vl4 vk6 vk2_1 = some r) : Awp prog 1 61 (cL (cR (cL (cL (cR (cL (cR (cL (cR (cL (cL (cR (cL (cL (cR (cL (cR (cR (cB f107))))))))))))))))))) (Out 1 nrm (z504 qs vk vl4 vk6 vk2_1) r) (z503 qs vk vl4 vk6 vk2_1) := by
  unfold z502 at hF
  refine awp_block (awp_seq (gE hF fun h8 hF => ?_))
  refine bE hF fun vy13 h9 hF => gE hF fun h10 hF => ?_
  refine bE hF fun vy14 h11 hF => aD ?_
  refine dR 2 ?_
  refine dX (x_idxV api_Mark.enc 0 h8 h9) ?_
  refine dX (x_ldE api_Mark.enc h9) ?_
  refine dR 3 ?_
  refine dX (x_idxV api_Mark.enc 0 h10 h11) ?_
  refine dX (x_ldE api_Mark.enc h11) ?_
  refine dS (U := []) (stable_eqS (op := .neq) (xs := [.int .i64 vy13.At, .str vy13.Device, .int .i64 vy13.Kind, .int .i64 vy13.Version.Major, .int .i64 vy13.Version.Minor, .int .i64 vy13.Version.Patch]) (ys := [.int .i64 vy14.At, .str vy14.Device, .int .i64 vy14.Kind, .int .i64 vy14.Version.Major, .int .i64 vy14.Version.Minor, .int .i64 vy14.Version.Patch]) (b := (decide (vy13.At = vy14.At) && (decide (vy13.Device = vy14.Device) && (decide (vy13.Kind = vy14.Kind) && ((decide (vy13.Version.Major = vy14.Version.Major) && (decide (vy13.Version.Minor = vy14.Version.Minor) && (decide (vy13.Version.Patch = vy14.Version.Patch) && true))) && true))))) (c := (!(decide (vy13.At = vy14.At) && (decide (vy13.Device = vy14.Device) && (decide (vy13.Kind = vy14.Kind) && ((decide (vy13.Version.Major = vy14.Version.Major) && (decide (vy13.Version.Minor = vy14.Version.Minor) && (decide (vy13.Version.Patch = vy14.Version.Patch) && true))) && true)))))) rfl (.inr ⟨rfl, rfl⟩) (by kernel_rfl) (by kernel_rfl) (by kernel_rfl) (by kernel_rfl) (by kernel_rfl) (by kernel_rfl)) ?_
  refine dE ?_
  refine cE hF (fun h12 hF => ?_) fun h12 hF => ?_
  · refine tT h12 (awp_seq (bE hF fun vy15 h13 hF => awp_region (aR 4 (aX (x_idxV api_Mark.enc 0 h8 h9) (aX (x_ldE api_Mark.enc h9) (aX (x_idxO api_Mark.enc 0 h13) (aX (x_stE api_Mark.enc (api_Mark.mk vy13.At vy13.Device vy13.Kind (api_Version.mk vy13.Version.Major vy13.Version.Minor vy13.Version.Patch)) h13) (aE ?_))))))))
    exact gR 3 (oO hF [] [] rfl)
  · exact tF h12 (awp_skip (oO hF [] [] rfl))

def z500 : ((List api_Mark) × Int) → AEx
  | _ => .exit 2

def z499 (qs : List api_Mark) (vk : Int) : ((List api_Mark) × Int) → St
  | (vl7, vk9) => Mem.st ⟨[(0, ⟨88, 6, List.map api_Mark.enc vl7⟩)], []⟩ (tl [(0, .c (.own 0 none)), (3, .i vk9)]) 1

def z498 (qs : List api_Mark) (vk : Int) : (List api_Mark) × Int × Int → St
  | (vl4, vk6, vk2_1) => Mem.st ⟨[(0, ⟨88, 6, List.map api_Mark.enc vl4⟩)], []⟩ (tl [(0, .c (.own 0 none)), (3, .i vk6), (4, .c (.view 0 vk.toNat ((qs.length : Int).toNat - vk.toNat))), (5, .i vk2_1)]) 1

theorem z501 (qs : List api_Mark) (vk : Int) (s : (List api_Mark) × Int × Int) (r : ((List api_Mark) × Int × Int) ⊕ (((List api_Mark) × Int))) (hF : z497 qs vk s = some r) : Awp prog 1 61 (cL (cL (cR (cL (cR (cL (cR (cL (cL (cR (cL (cL (cR (cL (cR (cR (cB f107))))))))))))))))) (Out 1 (kk z500) (SS (z498 qs vk) (z499 qs vk)) r) (z498 qs vk s) := by
  obtain ⟨vl4, vk6, vk2_1⟩ := s
  unfold z497 at hF
  refine awp_seq (sR 4 (cE hF (fun h7 hF => ?_) fun h7 hF => ?_))
  · refine tT h7 (awp_skip (awp_seq (awp_to (st' := z503 qs vk vl4 vk6 vk2_1) (oT [] []) ?_)))
    refine bE hF fun x h14 hF => ?_
    obtain ⟨vl6_1, vk8_1⟩ := x
    refine awp_sub (z505 qs vk vl4 vk6 vk2_1 h14) ?_
    exact gR 3 (oO hF [] [] rfl)
  · refine tF h7 (awp_exit ?_)
    exact oO hF [] [] rfl

def z495 : Unit ⊕ (List api_Mark) → AEx
  | .inl _ => .exit 0
  | .inr _ => .ret

def z494 (qs : List api_Mark) : Unit ⊕ (List api_Mark) → St
  | .inl _ => Mem.st ⟨[(0, ⟨88, 6, List.map api_Mark.enc qs⟩)], []⟩ (tl [(0, .c (.own 0 none))]) 1
  | .inr vx => Mem.st ⟨[(1, ⟨88, 6, List.map api_Mark.enc vx⟩)], []⟩ (tl [(2, .c (.own 1 none))]) 2

def z493 (qs : List api_Mark) : Int → St
  | vk => Mem.st ⟨[(0, ⟨88, 6, List.map api_Mark.enc qs⟩)], []⟩ (tl [(0, .c (.own 0 none)), (3, .i vk)]) 1

theorem z496 (qs : List api_Mark) (vk : Int) (r : (Int) ⊕ (Unit ⊕ (List api_Mark))) (hF : z492 qs vk = some r) : Awp prog 1 61 (cL (cL (cR (cL (cR (cR (cB f107))))))) (Out 1 (kk z495) (SS (z493 qs) (z494 qs)) r) (z493 qs vk) := by
  unfold z492 at hF
  refine awp_seq (awp_seq (awp_region (aR 2 (aL api_Mark.enc qs (aR 1 (aE ?_))))))
  refine cE hF (fun h2 hF => ?_) fun h2 hF => ?_
  · refine tT h2 (awp_skip (awp_seq (awp_block (awp_seq (bE hF fun vy8 h3 hF => bE hF fun vy9 h4 hF => aD ?_)))))
    refine dR 2 ?_
    refine dX (x_idxO api_Mark.enc 0 h3) ?_
    refine dX (x_ldE api_Mark.enc h3) ?_
    refine dR 3 ?_
    refine dX (x_idxO api_Mark.enc 0 h4) ?_
    refine dX (x_ldE api_Mark.enc h4) ?_
    refine dS (U := []) (stable_eqS (op := .eql) (xs := [.int .i64 vy8.At, .str vy8.Device, .int .i64 vy8.Kind, .int .i64 vy8.Version.Major, .int .i64 vy8.Version.Minor, .int .i64 vy8.Version.Patch]) (ys := [.int .i64 vy9.At, .str vy9.Device, .int .i64 vy9.Kind, .int .i64 vy9.Version.Major, .int .i64 vy9.Version.Minor, .int .i64 vy9.Version.Patch]) (b := (decide (vy8.At = vy9.At) && (decide (vy8.Device = vy9.Device) && (decide (vy8.Kind = vy9.Kind) && ((decide (vy8.Version.Major = vy9.Version.Major) && (decide (vy8.Version.Minor = vy9.Version.Minor) && (decide (vy8.Version.Patch = vy9.Version.Patch) && true))) && true))))) (c := (decide (vy8.At = vy9.At) && (decide (vy8.Device = vy9.Device) && (decide (vy8.Kind = vy9.Kind) && ((decide (vy8.Version.Major = vy9.Version.Major) && (decide (vy8.Version.Minor = vy9.Version.Minor) && (decide (vy8.Version.Patch = vy9.Version.Patch) && true))) && true))))) rfl (.inl ⟨rfl, rfl⟩) (by kernel_rfl) (by kernel_rfl) (by kernel_rfl) (by kernel_rfl) (by kernel_rfl) (by kernel_rfl)) ?_
    refine dE ?_
    refine cE hF (fun h5 hF => ?_) fun h5 hF => ?_
    · refine tT h5 (awp_seq (gE hF fun h6 hF => ?_))
      refine awp_region (aR 2 (aX (x_viewN api_Mark.enc 0 h6) (aR 1 (aE ?_))))
      refine awp_seq (sR 1 (awp_block (awp_to (st' := z498 qs vk (qs, vk, 1)) (oT [] []) ?_)))
      refine bE hF fun x h15 hF => ?_
      obtain ⟨vl7_1, vk9_1⟩ := x
      refine awp_sub (awp_loop' (z498 qs vk) z500 (z499 qs vk) (by intro x; exact fun h => nomatch h) h15 (z501 qs vk)) ?_
      refine awp_seq (gE hF fun h16 hF => ?_)
      refine awp_region (aR 2 (aX (x_viewN api_Mark.enc 0 h16) (aCl api_Mark.enc 0 (xs := vl7_1) (y := api_Mark.mk 0 ([] : List UInt8) 0 (api_Version.mk 0 0 0)) (lo := vk9_1) (hi := (vl7_1.length : Int)) rfl ?_)))
      refine aE ?_
      refine awp_seq (gE hF fun h17 hF => ?_)
      refine awp_region (aR 2 (aT api_Mark.enc 0 h17 rfl ?_))
      refine aR 1 (aE ?_)
      exact awp_ret (oO hF [(1, 6001)] [] rfl)
    · exact tF h5 (awp_skip (gR 3 (oO hF [] [] rfl)))
  · refine tF h2 (awp_exit ?_)
    exact oO hF [] [] rfl

def z490 (qs : List api_Mark) (r : (List api_Mark)) : TV × Mem := (.c (.own 1 none), ⟨[(1, ⟨88, 6, List.map api_Mark.enc r⟩)], []⟩)

theorem z491 {qs : List api_Mark} {r} (hF : z489 qs = some r) : Holds prog 107 [.c (.own 0 none)] ⟨[(0, ⟨88, 6, List.map api_Mark.enc qs⟩)], []⟩ (Is (z490 qs r)) := by
  unfold z489 at hF
  refine hW f107 61 1 1 ?_
  refine sR 1 (awp_seq (awp_seq (awp_region (aR 1 (aL api_Mark.enc qs (aR 1 (aE ?_)))))))
  refine cE hF (fun h1 hF => ?_) fun h1 hF => ?_
  · exact tT h1 (sR 2 (awp_ret (oF hF [(1, 0)] [])))
  · refine tF h1 (awp_skip (awp_seq (sR 1 (awp_block (awp_to (st' := z493 qs 1) (oT [] []) ?_)))))
    refine bE hF fun x h18 hF => ?_
    rcases x with _ | vx1
    · refine awp_sub (awp_loop' (z493 qs) z495 (z494 qs) (by intro x; rcases x with x | x <;> exact fun h => nomatch h) h18 (z496 qs)) ?_
      exact sR 2 (awp_ret (oF hF [(1, 0)] []))
    · refine awp_sub (awp_loop' (z493 qs) z495 (z494 qs) (by intro x; rcases x with x | x <;> exact fun h => nomatch h) h18 (z496 qs)) ?_
      exact oF hF [] []

/-! ### beaconfleet/campaign.Merge -/
def z163 : Unit ⊕ Unit → AEx
  | .inl _ => .exit 0
  | .inr _ => .ret

def z162 (vr2 : List api_Mark) : Unit ⊕ Unit → St
  | .inl _ => Mem.st ⟨[(0, ⟨88, 6, List.map api_Mark.enc vr2⟩)], []⟩ (tl [(7, .c (.own 0 none))]) 1
  | .inr _ => Mem.st ⟨[], []⟩ (tl [(4, .c (.nil)), (5, .i 13)]) 0

def z161 (vr2 : List api_Mark) : Int → St
  | vi => Mem.st ⟨[(0, ⟨88, 6, List.map api_Mark.enc vr2⟩)], []⟩ (tl [(7, .c (.own 0 none)), (8, .i vi)]) 1

theorem z164 (vr2 : List api_Mark) (vi : Int) (r : (Int) ⊕ (Unit ⊕ Unit)) (hF : z160 vr2 vi = some r) : Awp prog 0 47 (cL (cL (cR (cL (cR (cR (cR (cR (cR (cB f41)))))))))) (Out 0 (kk z163) (SS (z161 vr2) (z162 vr2)) r) (z161 vr2 vi) := by
  unfold z160 at hF
  refine awp_seq (awp_seq (awp_region (aR 2 (aL api_Mark.enc vr2 (aR 1 (aE ?_))))))
  refine cE hF (fun h9 hF => ?_) fun h9 hF => ?_
  · refine tT h9 (awp_skip (awp_seq (awp_block (awp_seq (bE hF fun vy2 h10 hF => bE hF fun vy3 h11 hF => bE hF fun vr2_2 h12 hF => aD ?_)))))
    refine dR 3 ?_
    refine dX (x_idxO api_Mark.enc 0 h10) ?_
    refine dX (x_ldE api_Mark.enc h10) ?_
    refine dR 2 ?_
    refine dX (x_idxO api_Mark.enc 0 h11) ?_
    refine dX (x_ldE api_Mark.enc h11) ?_
    refine dC (z177 h12) [] [] [] ?_
    refine dR 1 ?_
    refine dE ?_
    refine cE hF (fun h13 hF => ?_) fun h13 hF => ?_
    · exact tT h13 (sR 2 (awp_ret (oO hF [] [] rfl)))
    · exact tF h13 (awp_skip (gR 3 (oO hF [] [] rfl)))
  · refine tF h9 (awp_exit ?_)
    exact oO hF [] [] rfl

def z158 (qa : List api_Mark) (qb : List api_Mark) (r : (List api_Mark) × Int) : TV × Mem := (.tup [.one (.own 0 none), .one (.i r.2)], ⟨[(0, ⟨88, 6, List.map api_Mark.enc r.1⟩)], []⟩)

theorem z159 {qa : List api_Mark} {qb : List api_Mark} {r} (hF : z154 qa qb = some r) : Holds prog 41 [.c (.l api_Mark.enc qa), .c (.l api_Mark.enc qb)] ⟨[], []⟩ (Is (z158 qa qb r)) := by
  unfold z154 at hF
  refine hW f41 47 0 0 ?_
  refine sR 2 (awp_seq (awp_seq (bE hF fun vr6 h1 hF => bE hF fun vr6_1 h2 hF => bE hF fun vr h3 hF => awp_region (aR 1 (aC (z141 h1) [] [] [] (aR 1 (aC (z141 h2) [] [] [] (aR 1 (aC (z6 h3) [] [] [6000] (aR 1 ?_))))))))))
  refine aE ?_
  refine sR 2 (cE hF (fun h4 hF => ?_) fun h4 hF => ?_)
  · exact tT h4 (sR 3 (awp_ret (oF hF [] [0])))
  · refine tF h4 (awp_skip (awp_seq (bE hF fun vr1 h5 hF => awp_region (aR 3 (aC (z508 h5) [(0, 13000)] [] [] (aR 1 (aE ?_)))))))
    refine awp_seq (bE hF fun vl h6 hF => gE hF fun h7 hF => ?_)
    refine awp_region (aR 1 (aCp (z536 h6) ⟨⟨rfl, rfl, pin1 h7⟩, trivial⟩ [(0, 14001)] [] [] ?_))
    refine aE ?_
    refine awp_seq (bE hF fun vr2 h8 hF => awp_region (aR 1 (aC (z491 h8) [(0, 14001)] [] [] (aR 1 (aE ?_)))))
    refine awp_seq (sR 1 (awp_block (awp_to (st' := z161 vr2 1) (oT [(0, 19001)] []) ?_)))
    refine bE hF fun x h14 hF => ?_
    rcases x with _ | _
    · refine awp_sub (awp_loop' (z161 vr2) z163 (z162 vr2) (by intro x; rcases x with x | x <;> exact fun h => nomatch h) h14 (z164 vr2)) ?_
      refine awp_seq (awp_seq (awp_region (aR 1 (aL api_Mark.enc vr2 (aR 1 (aE ?_))))))
      refine cE hF (fun h15 hF => ?_) fun h15 hF => ?_
      · exact tT h15 (sR 2 (awp_ret (oF hF [] [0])))
      · exact tF h15 (awp_skip (sR 3 (awp_ret (oF hF [] []))))
    · refine awp_sub (awp_loop' (z161 vr2) z163 (z162 vr2) (by intro x; rcases x with x | x <;> exact fun h => nomatch h) h14 (z164 vr2)) ?_
      exact oF hF [] [0]

/-! ### beaconfleet/fleetref2.in -/
def z441 (qn : Int) (qlow : Int) (qhigh : Int) : Bool → St
  | vx => Mem.st ⟨[], []⟩ (tl [(6, .b vx)]) 0

def z440 (qn : Int) (qlow : Int) (qhigh : Int) : St := Mem.st ⟨[], []⟩ (tl [(0, .i qn), (1, .i qlow), (2, .i qhigh)]) 0

theorem z442 (qn : Int) (qlow : Int) (qhigh : Int) {r} (hF : z439 qn qlow qhigh = some r) : Awp prog 0 15 (cL (cR (cB f68))) (Out 0 nrm (z441 qn qlow qhigh) r) (z440 qn qlow qhigh) := by
  unfold z439 at hF
  refine cE hF (fun h1 hF => ?_) fun h1 hF => ?_
  · refine awp_region (aR 2 (aB h1 (aR 6 (aE ?_))))
    exact oO hF [] [] rfl
  · refine awp_region (aR 2 (aB h1 (aR 6 (aE ?_))))
    exact oO hF [] [] rfl

def z437 (qn : Int) (qlow : Int) (qhigh : Int) (r : Bool) : TV × Mem := (.b r, ⟨[], []⟩)

theorem z438 {qn : Int} {qlow : Int} {qhigh : Int} {r} (hF : z436 qn qlow qhigh = some r) : Holds prog 68 [.i qn, .i qlow, .i qhigh] ⟨[], []⟩ (Is (z437 qn qlow qhigh r)) := by
  unfold z436 at hF
  refine hW f68 15 0 0 ?_
  refine sR 1 (awp_seq (awp_to (st' := z440 qn qlow qhigh) (oT [] []) ?_))
  refine bE hF fun vx1 h2 hF => awp_sub (z442 qn qlow qhigh h2) ?_
  exact awp_ret (oF hF [] [])

/-! ### internal/stringslite.IndexByte -/
def z994 (qs : List UInt8) (qc : Int) (r : Unit) : TV × Mem := (.i (Lib.indexByte qs qc.toNat.toUInt8), ⟨[], []⟩)

theorem z995 {qs : List UInt8} {qc : Int} {r} (hF : z993 qs qc = some r) : Holds prog 170 [.c (.s qs), .c (.d (.int .u8 qc))] ⟨[], []⟩ (Is (z994 qs qc r)) := by
  unfold z993 at hF
  refine hW f170 8 0 0 ?_
  refine sR 1 (awp_seq (awp_region (aR 2 (aS (does_indexByte (g := 203) (fn := f203) (a := qs) (c := qc) rfl (by kernel_rfl) (by kernel_rfl) (by kernel_rfl) (by kernel_rfl) (by kernel_rfl) (by kernel_rfl)) ?_))))
  refine aR 1 (aE ?_)
  exact awp_ret (oF hF [] [])

/-! ### strings.IndexByte -/
def z943 (qs : List UInt8) (qc : Int) (r : Unit) : TV × Mem := (.i (Lib.indexByte qs qc.toNat.toUInt8), ⟨[], []⟩)

theorem z944 {qs : List UInt8} {qc : Int} {r} (hF : z942 qs qc = some r) : Holds prog 136 [.c (.s qs), .c (.d (.int .u8 qc))] ⟨[], []⟩ (Is (z943 qs qc r)) := by
  unfold z942 at hF
  refine hW f136 8 0 0 ?_
  refine sR 1 (awp_seq (bE hF fun _ h1 hF => awp_region (aR 2 (aC (z995 h1) [] [] [] (aR 1 (aE ?_))))))
  exact awp_ret (oF hF [] [])

/-! ### beaconfleet/fleetref2.only -/
def z457 : Unit ⊕ Unit → AEx
  | .inl _ => .exit 0
  | .inr _ => .ret

def z456 (qs : List UInt8) (qsome : List UInt8) : Unit ⊕ Unit → St
  | .inl _ => Mem.st ⟨[], []⟩ (tl []) 0
  | .inr _ => Mem.st ⟨[], []⟩ (tl [(4, .b false)]) 0

def z455 (qs : List UInt8) (qsome : List UInt8) : Int → St
  | vx => Mem.st ⟨[], []⟩ (tl [(0, .c (.s qs)), (1, .c (.s qsome)), (7, .i (qs.length : Int)), (8, .i vx)]) 0

theorem z458 (qs : List UInt8) (qsome : List UInt8) (vx : Int) (r : (Int) ⊕ (Unit ⊕ Unit)) (hF : z454 qs qsome vx = some r) : Awp prog 0 18 (cL (cL (cR (cL (cR (cB f88)))))) (Out 0 (kk z457) (SS (z455 qs qsome) (z456 qs qsome)) r) (z455 qs qsome vx) := by
  unfold z454 at hF
  refine sR 1 (awp_seq (cE hF (fun h1 hF => ?_) fun h1 hF => ?_))
  · refine tT h1 (awp_skip (awp_seq (awp_block (sR 2 (awp_seq (bE hF fun vc1 h2 hF => bE hF fun _ h3 hF => awp_region (aR 3 (aX (x_idxS h2) (aC (z944 h3) [] [] [] (aR 1 (aE ?_)))))))))))
    refine cE hF (fun h4 hF => ?_) fun h4 hF => ?_
    · exact tT h4 (sR 1 (awp_ret (oO hF [] [] rfl)))
    · exact tF h4 (awp_skip (gR 2 (oO hF [] [] rfl)))
  · refine tF h1 (awp_exit ?_)
    exact oO hF [] [] rfl

def z452 (qs : List UInt8) (qsome : List UInt8) (r : Bool) : TV × Mem := (.b r, ⟨[], []⟩)

theorem z453 {qs : List UInt8} {qsome : List UInt8} {r} (hF : z451 qs qsome = some r) : Holds prog 88 [.c (.s qs), .c (.s qsome)] ⟨[], []⟩ (Is (z452 qs qsome r)) := by
  unfold z451 at hF
  refine hW f88 18 0 0 ?_
  refine sR 1 (awp_seq (sR 3 (awp_block (awp_to (st' := z455 qs qsome 0) (oT [] []) ?_))))
  refine bE hF fun x h5 hF => ?_
  rcases x with _ | _
  · refine awp_sub (awp_loop' (z455 qs qsome) z457 (z456 qs qsome) (by intro x; rcases x with x | x <;> exact fun h => nomatch h) h5 (z458 qs qsome)) ?_
    exact sR 1 (awp_ret (oF hF [] []))
  · refine awp_sub (awp_loop' (z455 qs qsome) z457 (z456 qs qsome) (by intro x; rcases x with x | x <;> exact fun h => nomatch h) h5 (z458 qs qsome)) ?_
    exact oF hF [] []

/-! ### beaconfleet/fleetref2.Key -/
def z396 (qs : List UInt8) : Bool → St
  | vx => Mem.st ⟨[], []⟩ (tl [(2, .b vx)]) 0

def z395 (qs : List UInt8) : St := Mem.st ⟨[], []⟩ (tl [(0, .c (.s qs))]) 0

theorem z397 (qs : List UInt8) {r} (hF : z394 qs = some r) : Awp prog 0 15 (cL (cR (cB f31))) (Out 0 nrm (z396 qs) r) (z395 qs) := by
  unfold z394 at hF
  refine bE hF fun vr h1 hF => cE hF (fun h2 hF => ?_) fun h2 hF => ?_
  · refine bE hF fun vs h3 hF => bE hF fun vr1 h4 hF => cE hF (fun h5 hF => ?_) fun h5 hF => ?_
    · refine bE hF fun vr2 h6 hF => awp_region (aR 2 (aCb (z438 h1) [] [] [] h2 ?_))
      refine aR 2 (aX (x_sliceS h3) (aCb (z453 h4) [] [] [] h5 ?_))
      refine aR 3 (aC (z453 h6) [] [] [] (aR 2 (aE ?_)))
      exact oO hF [] [] rfl
    · refine awp_region (aR 2 (aCb (z438 h1) [] [] [] h2 ?_))
      refine aR 2 (aX (x_sliceS h3) (aCb (z453 h4) [] [] [] h5 ?_))
      refine aR 6 (aE ?_)
      exact oO hF [] [] rfl
  · refine awp_region (aR 2 (aCb (z438 h1) [] [] [] h2 ?_))
    refine aR 10 (aE ?_)
    exact oO hF [] [] rfl

def z392 (qs : List UInt8) (r : Bool) : TV × Mem := (.b r, ⟨[], []⟩)

theorem z393 {qs : List UInt8} {r} (hF : z391 qs = some r) : Holds prog 31 [.c (.s qs)] ⟨[], []⟩ (Is (z392 qs r)) := by
  unfold z391 at hF
  refine hW f31 15 0 0 ?_
  refine sR 1 (awp_seq (awp_to (st' := z395 qs) (oT [] []) ?_))
  refine bE hF fun vx1 h7 hF => awp_sub (z397 qs h7) ?_
  exact awp_ret (oF hF [] [])

/-! ### beaconfleet/fleetref2.versionFault -/
def z467 (qv : api_Version) : Bool → St
  | vx => Mem.st ⟨[], []⟩ (tl [(18, .b vx)]) 0

def z466 (qv : api_Version) : St := Mem.st ⟨[], [(0, [.i qv.Major, .i qv.Minor, .i qv.Patch])]⟩ (tl [(1, .c (.box 0 0))]) 1

theorem z468 (qv : api_Version) {r} (hF : z465 qv = some r) : Awp prog 0 19 (cL (cL (cR (cB f66)))) (Out 0 nrm (z467 qv) r) (z466 qv) := by
  unfold z465 at hF
  refine bE hF fun vr h1 hF => cE hF (fun h2 hF => ?_) fun h2 hF => ?_
  · refine awp_region (aR 2 (aC (z438 h1) [] [] [] (aB h2 (aR 12 (aE ?_)))))
    exact oO hF [] [] rfl
  · refine bE hF fun vr1 h3 hF => cE hF (fun h4 hF => ?_) fun h4 hF => ?_
    · refine awp_region (aR 2 (aC (z438 h1) [] [] [] (aB h2 (aR 3 (aC (z438 h3) [] [] [] (aB h4 (aR 7 (aE ?_))))))))
      exact oO hF [] [] rfl
    · refine bE hF fun vr2 h5 hF => awp_region (aR 2 (aC (z438 h1) [] [] [] (aB h2 (aR 3 (aC (z438 h3) [] [] [] (aB h4 (aR 4 (aC (z438 h5) [] [] [] (aR 2 (aE ?_))))))))))
      exact oO hF [] [] rfl

def z463 (qv : api_Version) (r : Int) : TV × Mem := (.i r, ⟨[], []⟩)

theorem z464 {qv : api_Version} {r} (hF : z462 qv = some r) : Holds prog 66 [.v (.agg [.i qv.Major, .i qv.Minor, .i qv.Patch])] ⟨[], []⟩ (Is (z463 qv r)) := by
  unfold z462 at hF
  refine hW f66 19 0 0 ?_
  refine sR 2 (awp_seq (awp_seq (awp_to (st' := z466 qv) (oT [] []) ?_)))
  refine bE hF fun vx1 h6 hF => awp_sub (z468 qv h6) ?_
  refine cE hF (fun h7 hF => ?_) fun h7 hF => ?_
  · exact tT h7 (sR 1 (awp_ret (oF hF [] [])))
  · exact tF h7 (awp_skip (sR 1 (awp_ret (oF hF [] []))))

/-! ### beaconfleet/fleetref2.Moment -/
def z426 (qat : Int) (r : Bool) : TV × Mem := (.b r, ⟨[], []⟩)

theorem z427 {qat : Int} {r} (hF : z425 qat = some r) : Holds prog 67 [.i qat] ⟨[], []⟩ (Is (z426 qat r)) := by
  unfold z425 at hF
  refine hW f67 5 0 0 ?_
  refine sR 1 (awp_seq (bE hF fun vr h1 hF => awp_region (aR 1 (aC (z438 h1) [] [] [] (aR 1 (aE ?_))))))
  exact awp_ret (oF hF [] [])

/-! ### beaconfleet/fleetref2.CampaignFault -/
def z373 (qx : api_Campaign) (vx : Int) (vx1 : Int) (vy1 : api_Wave) : Bool → St
  | vx3 => Mem.st ⟨[], [(0, [.s qx.Key, .i qx.Target.Major, .i qx.Target.Minor, .i qx.Target.Patch, .i qx.At, .l api_Wave.enc qx.Waves, .i qx.Hours.From, .i qx.Hours.To, .i qx.Room]), (1, [.i vy1.Part, .i vy1.Wait, .i vy1.Least, .i vy1.Fails])]⟩ (tl [(1, .c (.box 0 0)), (4, .i vx), (6, .c (.box 1 0)), (33, .c (.l api_Wave.enc qx.Waves)), (34, .i (qx.Waves.length : Int)), (35, .i vx1), (60, .b vx3)]) 2

def z372 (qx : api_Campaign) (vx : Int) (vx1 : Int) (vy1 : api_Wave) : St := Mem.st ⟨[], [(0, [.s qx.Key, .i qx.Target.Major, .i qx.Target.Minor, .i qx.Target.Patch, .i qx.At, .l api_Wave.enc qx.Waves, .i qx.Hours.From, .i qx.Hours.To, .i qx.Room]), (1, [.i vy1.Part, .i vy1.Wait, .i vy1.Least, .i vy1.Fails])]⟩ (tl [(1, .c (.box 0 0)), (4, .i vx), (6, .c (.box 1 0)), (33, .c (.l api_Wave.enc qx.Waves)), (34, .i (qx.Waves.length : Int)), (35, .i vx1)]) 2

theorem z374 (qx : api_Campaign) (vx : Int) (vx1 : Int) (vy1 : api_Wave) {r} (hF : z371 vy1 = some r) : Awp prog 0 88 (cL (cL (cR (cL (cL (cR (cR (cL (cL (cR (cL (cR (cR (cR (cR (cR (cB f14))))))))))))))))) (Out 0 nrm (z373 qx vx vx1 vy1) r) (z372 qx vx vx1 vy1) := by
  unfold z371 at hF
  refine bE hF fun vr6 h11 hF => cE hF (fun h12 hF => ?_) fun h12 hF => ?_
  · refine awp_region (aR 2 (aC (z438 h11) [] [] [] (aB h12 (aR 18 (aE ?_)))))
    exact oO hF [] [] rfl
  · refine bE hF fun vr7 h13 hF => cE hF (fun h14 hF => ?_) fun h14 hF => ?_
    · refine awp_region (aR 2 (aC (z438 h11) [] [] [] (aB h12 (aR 3 (aC (z438 h13) [] [] [] (aB h14 (aR 13 (aE ?_))))))))
      exact oO hF [] [] rfl
    · refine bE hF fun vr8 h15 hF => cE hF (fun h16 hF => ?_) fun h16 hF => ?_
      · refine awp_region (aR 2 (aC (z438 h11) [] [] [] (aB h12 (aR 3 (aC (z438 h13) [] [] [] (aB h14 (aR 4 (aC (z438 h15) [] [] [] (aB h16 (aR 7 (aE ?_)))))))))))
        exact oO hF [] [] rfl
      · refine bE hF fun vr9 h17 hF => awp_region (aR 2 (aC (z438 h11) [] [] [] (aB h12 (aR 3 (aC (z438 h13) [] [] [] (aB h14 (aR 4 (aC (z438 h15) [] [] [] (aB h16 (aR 4 (aC (z438 h17) [] [] [] (aR 2 ?_))))))))))))
        refine aE ?_
        exact oO hF [] [] rfl

def z369 : Int ⊕ Unit → AEx
  | .inl _ => .exit 1
  | .inr _ => .ret

def z368 (qx : api_Campaign) : Int ⊕ Unit → St
  | .inl vx4 => Mem.st ⟨[], [(0, [.s qx.Key, .i qx.Target.Major, .i qx.Target.Minor, .i qx.Target.Patch, .i qx.At, .l api_Wave.enc qx.Waves, .i qx.Hours.From, .i qx.Hours.To, .i qx.Room])]⟩ (tl [(1, .c (.box 0 0)), (4, .i vx4)]) 1
  | .inr _ => Mem.st ⟨[], []⟩ (tl [(2, .i 1)]) 0

def z367 (qx : api_Campaign) : Int × Int → St
  | (vx, vx1) => Mem.st ⟨[], [(0, [.s qx.Key, .i qx.Target.Major, .i qx.Target.Minor, .i qx.Target.Patch, .i qx.At, .l api_Wave.enc qx.Waves, .i qx.Hours.From, .i qx.Hours.To, .i qx.Room])]⟩ (tl [(1, .c (.box 0 0)), (4, .i vx), (33, .c (.l api_Wave.enc qx.Waves)), (34, .i (qx.Waves.length : Int)), (35, .i vx1)]) 1

theorem z370 (qx : api_Campaign) (s : Int × Int) (r : (Int × Int) ⊕ (Int ⊕ Unit)) (hF : z366 qx s = some r) : Awp prog 0 88 (cL (cL (cR (cL (cR (cR (cR (cR (cR (cB f14)))))))))) (Out 0 (kk z369) (SS (z367 qx) (z368 qx)) r) (z367 qx s) := by
  obtain ⟨vx, vx1⟩ := s
  unfold z366 at hF
  refine sR 1 (awp_seq (cE hF (fun h9 hF => ?_) fun h9 hF => ?_))
  · refine tT h9 (awp_skip (awp_seq (awp_block (awp_seq (bE hF fun vy1 h10 hF => awp_region (aX (x_idx api_Wave.enc h10) (aR 3 (aE ?_))))))))
    refine awp_seq (awp_seq (awp_to (st' := z372 qx vx vx1 vy1) (oT [(1, 3001)] []) ?_))
    refine bE hF fun vx3_1 h18 hF => awp_sub (z374 qx vx vx1 vy1 h18) ?_
    refine cE hF (fun h19 hF => ?_) fun h19 hF => ?_
    · exact tT h19 (sR 1 (awp_ret (oO hF [] [] rfl)))
    · exact tF h19 (awp_skip (gR 5 (gR 2 (oO hF [] [] rfl))))
  · refine tF h9 (awp_exit ?_)
    exact oO hF [] [] rfl

def z377 (qx : api_Campaign) : Bool → St
  | vx5 => Mem.st ⟨[], []⟩ (tl [(69, .b vx5)]) 0

def z376 (qx : api_Campaign) : St := Mem.st ⟨[], [(0, [.s qx.Key, .i qx.Target.Major, .i qx.Target.Minor, .i qx.Target.Patch, .i qx.At, .l api_Wave.enc qx.Waves, .i qx.Hours.From, .i qx.Hours.To, .i qx.Room])]⟩ (tl [(1, .c (.box 0 0))]) 1

theorem z378 (qx : api_Campaign) {r} (hF : z375 qx = some r) : Awp prog 0 88 (cL (cR (cR (cL (cL (cR (cR (cR (cR (cR (cR (cB f14)))))))))))) (Out 0 nrm (z377 qx) r) (z376 qx) := by
  unfold z375 at hF
  refine bE hF fun vr10 h22 hF => cE hF (fun h23 hF => ?_) fun h23 hF => ?_
  · refine awp_region (aR 3 (aC (z438 h22) [] [] [] (aB h23 (aR 14 (aE ?_)))))
    exact oO hF [] [] rfl
  · refine bE hF fun vr11 h24 hF => cE hF (fun h25 hF => ?_) fun h25 hF => ?_
    · refine awp_region (aR 3 (aC (z438 h22) [] [] [] (aB h23 (aR 4 (aC (z438 h24) [] [] [] (aB h25 (aR 8 (aE ?_))))))))
      exact oO hF [] [] rfl
    · refine bE hF fun vr12 h26 hF => awp_region (aR 3 (aC (z438 h22) [] [] [] (aB h23 (aR 4 (aC (z438 h24) [] [] [] (aB h25 (aR 4 (aC (z438 h26) [] [] [] (aR 3 (aE ?_))))))))))
      exact oO hF [] [] rfl

def z364 (qx : api_Campaign) (r : Int) : TV × Mem := (.i r, ⟨[], []⟩)

theorem z365 {qx : api_Campaign} {r} (hF : z363 qx = some r) : Holds prog 14 [.v (.agg [.s qx.Key, .i qx.Target.Major, .i qx.Target.Minor, .i qx.Target.Patch, .i qx.At, .l api_Wave.enc qx.Waves, .i qx.Hours.From, .i qx.Hours.To, .i qx.Room])] ⟨[], []⟩ (Is (z364 qx r)) := by
  unfold z363 at hF
  refine hW f14 88 0 0 ?_
  refine sR 2 (awp_seq (awp_seq (bE hF fun vr3 h1 hF => awp_region (aR 2 (aC (z393 h1) [] [] [] (aR 1 (aE ?_)))))))
  refine cE hF (fun h2 hF => ?_) fun h2 hF => ?_
  · exact tT h2 (sR 1 (awp_ret (oF hF [] [])))
  · refine tF h2 (awp_skip (awp_seq (awp_seq (bE hF fun vr3_1 h3 hF => awp_region (aR 2 (aC (z464 h3) [] [] [] (aR 1 (aE ?_))))))))
    refine sR 2 (cE hF (fun h4 hF => ?_) fun h4 hF => ?_)
    · exact tT h4 (sR 2 (awp_ret (oF hF [] [])))
    · refine tF h4 (awp_skip (awp_seq (awp_block (awp_seq (bE hF fun vr1 h5 hF => awp_region (aR 2 (aC (z427 h5) [] [] [] (aR 2 (aE ?_)))))))))
      refine cE hF (fun h6 hF => ?_) fun h6 hF => ?_
      · exact tT h6 (sR 1 (awp_ret (oF hF [] [])))
      · refine tF h6 (awp_seq (awp_region (aR 2 (aL api_Wave.enc qx.Waves (aR 2 (aE ?_))))))
        refine cE hF (fun h7 hF => ?_) fun h7 hF => ?_
        · exact tT h7 (sR 1 (awp_ret (oF hF [] [])))
        · refine tF h7 (awp_seq (awp_region (aR 2 (aL api_Wave.enc qx.Waves (aR 2 (aE ?_))))))
          refine cE hF (fun h8 hF => ?_) fun h8 hF => ?_
          · exact tT h8 (sR 1 (awp_ret (oF hF [] [])))
          · refine tF h8 (awp_skip (sR 1 (awp_seq (awp_seq (awp_region (aR 2 (aL api_Wave.enc qx.Waves (aR 1 (aE ?_)))))))))
            refine awp_block (awp_to (st' := z367 qx (0, 0)) (oT [] []) ?_)
            refine bE hF fun x h20 hF => ?_
            rcases x with vx4_1 | _
            · refine awp_sub (awp_loop' (z367 qx) z369 (z368 qx) (by intro x; rcases x with x | x <;> exact fun h => nomatch h) h20 (z370 qx)) ?_
              refine awp_seq (awp_block (sR 3 (cE hF (fun h21 hF => ?_) fun h21 hF => ?_)))
              · exact tT h21 (sR 1 (awp_ret (oF hF [] [])))
              · refine tF h21 (awp_seq (awp_to (st' := z376 qx) (oT [] []) ?_))
                refine bE hF fun vx5_1 h27 hF => awp_sub (z378 qx h27) ?_
                refine cE hF (fun h28 hF => ?_) fun h28 hF => ?_
                · exact tT h28 (sR 1 (awp_ret (oF hF [] [])))
                · exact tF h28 (awp_skip (sR 1 (awp_ret (oF hF [] []))))
            · refine awp_sub (awp_loop' (z367 qx) z369 (z368 qx) (by intro x; rcases x with x | x <;> exact fun h => nomatch h) h20 (z370 qx)) ?_
              exact oF hF [] []

/-! ### beaconfleet/campaign.CheckFleet -/
def z133 (ql : List api_Device) (vx : Int) (vy2 : api_Device) : Bool → St
  | vx3 => Mem.st ⟨[], [(0, [.s vy2.Key, .s vy2.Model, .s vy2.Tenant, .i vy2.Firmware.Major, .i vy2.Firmware.Minor, .i vy2.Firmware.Patch, .l api_Pair.enc vy2.Tags])]⟩ (tl [(0, .c (.l api_Device.enc ql)), (3, .i vx), (4, .c (.box 0 0)), (8, .c (.l api_Device.enc ql)), (9, .i (ql.length : Int)), (10, .i vx), (15, .b vx3)]) 1

def z132 (ql : List api_Device) (vx : Int) (vy2 : api_Device) : St := Mem.st ⟨[], [(0, [.s vy2.Key, .s vy2.Model, .s vy2.Tenant, .i vy2.Firmware.Major, .i vy2.Firmware.Minor, .i vy2.Firmware.Patch, .l api_Pair.enc vy2.Tags])]⟩ (tl [(0, .c (.l api_Device.enc ql)), (3, .i vx), (4, .c (.box 0 0)), (8, .c (.l api_Device.enc ql)), (9, .i (ql.length : Int)), (10, .i vx)]) 1

theorem z134 (ql : List api_Device) (vx : Int) (vy2 : api_Device) {r} (hF : z131 vy2 = some r) : Awp prog 0 57 (cL (cL (cR (cL (cL (cR (cR (cL (cL (cR (cL (cR (cR (cB f43)))))))))))))) (Out 0 nrm (z133 ql vx vy2) r) (z132 ql vx vy2) := by
  unfold z131 at hF
  refine bE hF fun vr4 h4 hF => cE hF (fun h5 hF => ?_) fun h5 hF => ?_
  · refine awp_region (aR 2 (aC (z29 h4) [] [] [] (aB h5 (aR 13 (aE ?_)))))
    exact oO hF [] [] rfl
  · refine bE hF fun vr5 h6 hF => cE hF (fun h7 hF => ?_) fun h7 hF => ?_
    · refine awp_region (aR 2 (aC (z29 h4) [] [] [] (aB h5 (aR 3 (aC (z29 h6) [] [] [] (aB h7 (aR 8 (aE ?_))))))))
      exact oO hF [] [] rfl
    · refine bE hF fun vr6 h8 hF => awp_region (aR 2 (aC (z29 h4) [] [] [] (aB h5 (aR 3 (aC (z29 h6) [] [] [] (aB h7 (aR 4 (aC (z29 h8) [] [] [] (aR 3 (aE ?_))))))))))
      exact oO hF [] [] rfl

def z137 (ql : List api_Device) (vx : Int) (vy2 : api_Device) : Bool → St
  | vx4 => Mem.st ⟨[], [(0, [.s vy2.Key, .s vy2.Model, .s vy2.Tenant, .i vy2.Firmware.Major, .i vy2.Firmware.Minor, .i vy2.Firmware.Patch, .l api_Pair.enc vy2.Tags])]⟩ (tl [(0, .c (.l api_Device.enc ql)), (4, .c (.box 0 0)), (8, .c (.l api_Device.enc ql)), (9, .i (ql.length : Int)), (10, .i vx), (32, .b vx4)]) 1

def z136 (ql : List api_Device) (vx : Int) (vy2 : api_Device) : St := Mem.st ⟨[], [(0, [.s vy2.Key, .s vy2.Model, .s vy2.Tenant, .i vy2.Firmware.Major, .i vy2.Firmware.Minor, .i vy2.Firmware.Patch, .l api_Pair.enc vy2.Tags])]⟩ (tl [(0, .c (.l api_Device.enc ql)), (3, .i vx), (4, .c (.box 0 0)), (8, .c (.l api_Device.enc ql)), (9, .i (ql.length : Int)), (10, .i vx)]) 1

theorem z138 (ql : List api_Device) (vx : Int) (vy2 : api_Device) {r} (hF : z135 ql vx vy2 = some r) : Awp prog 0 57 (cL (cR (cR (cL (cR (cL (cL (cR (cR (cL (cL (cR (cL (cR (cR (cB f43)))))))))))))))) (Out 0 nrm (z137 ql vx vy2) r) (z136 ql vx vy2) := by
  unfold z135 at hF
  refine cE hF (fun h11 hF => ?_) fun h11 hF => ?_
  · refine bE hF fun vy3 h12 hF => aD ?_
    refine dR 1 ?_
    refine dB h11 ?_
    refine dR 6 ?_
    refine dX (x_idx api_Device.enc h12) ?_
    refine dR 5 ?_
    refine dE ?_
    exact oO hF [] [] rfl
  · refine aD ?_
    refine dR 1 ?_
    refine dB h11 ?_
    refine dR 12 ?_
    refine dE ?_
    exact oO hF [] [] rfl

def z129 : Unit ⊕ Int → AEx
  | .inl _ => .exit 0
  | .inr _ => .ret

def z128 (ql : List api_Device) : Unit ⊕ Int → St
  | .inl _ => Mem.st ⟨[], []⟩ (tl []) 0
  | .inr vx5 => Mem.st ⟨[], []⟩ (tl [(2, .i vx5)]) 0

def z127 (ql : List api_Device) : Int → St
  | vx => Mem.st ⟨[], []⟩ (tl [(0, .c (.l api_Device.enc ql)), (8, .c (.l api_Device.enc ql)), (9, .i (ql.length : Int)), (10, .i vx)]) 0

theorem z130 (ql : List api_Device) (vx : Int) (r : (Int) ⊕ (Unit ⊕ Int)) (hF : z126 ql vx = some r) : Awp prog 0 57 (cL (cL (cR (cL (cR (cR (cB f43))))))) (Out 0 (kk z129) (SS (z127 ql) (z128 ql)) r) (z127 ql vx) := by
  unfold z126 at hF
  refine sR 1 (awp_seq (cE hF (fun h2 hF => ?_) fun h2 hF => ?_))
  · refine tT h2 (awp_skip (awp_seq (awp_block (awp_seq (bE hF fun vy2 h3 hF => awp_region (aR 1 (aX (x_idx api_Device.enc h3) (aR 4 (aE ?_)))))))))
    refine awp_block (awp_seq (awp_to (st' := z132 ql vx vy2) (oT [(0, 4000)] []) ?_))
    refine bE hF fun vx3_1 h9 hF => awp_sub (z134 ql vx vy2 h9) ?_
    refine cE hF (fun h10 hF => ?_) fun h10 hF => ?_
    · exact tT h10 (sR 1 (awp_ret (oO hF [] [] rfl)))
    · refine tF h10 (awp_seq (awp_to (st' := z136 ql vx vy2) (oT [] []) ?_))
      refine bE hF fun vx4_1 h13 hF => awp_sub (z138 ql vx vy2 h13) ?_
      refine cE hF (fun h14 hF => ?_) fun h14 hF => ?_
      · exact tT h14 (sR 1 (awp_ret (oO hF [] [] rfl)))
      · refine tF h14 (awp_seq (bE hF fun vr3_1 h15 hF => awp_region (aR 2 (aC (z78 h15) [] [] [] (aR 2 (aE ?_))))))
        refine cE hF (fun h16 hF => ?_) fun h16 hF => ?_
        · exact tT h16 (sR 1 (awp_ret (oO hF [] [] rfl)))
        · refine tF h16 (awp_seq (awp_region (aR 2 (aL api_Pair.enc vy2.Tags (aR 2 (aE ?_))))))
          refine cE hF (fun h17 hF => ?_) fun h17 hF => ?_
          · exact tT h17 (sR 1 (awp_ret (oO hF [] [] rfl)))
          · exact tF h17 (awp_skip (gR 2 (oO hF [] [] rfl)))
  · refine tF h2 (awp_exit ?_)
    exact oO hF [] [] rfl

def z124 (ql : List api_Device) (r : Int) : TV × Mem := (.i r, ⟨[], []⟩)

theorem z125 {ql : List api_Device} {r} (hF : z123 ql = some r) : Holds prog 43 [.c (.l api_Device.enc ql)] ⟨[], []⟩ (Is (z124 ql r)) := by
  unfold z123 at hF
  refine hW f43 57 0 0 ?_
  refine sR 1 (awp_seq (awp_seq (awp_region (aR 1 (aL api_Device.enc ql (aR 1 (aE ?_)))))))
  refine cE hF (fun h1 hF => ?_) fun h1 hF => ?_
  · exact tT h1 (sR 1 (awp_ret (oF hF [] [])))
  · refine tF h1 (awp_skip (awp_seq (awp_seq (awp_region (aR 1 (aL api_Device.enc ql (aR 1 (aE ?_))))))))
    refine awp_block (awp_to (st' := z127 ql 0) (oT [] []) ?_)
    refine bE hF fun x h18 hF => ?_
    rcases x with _ | vx5_1
    · refine awp_sub (awp_loop' (z127 ql) z129 (z128 ql) (by intro x; rcases x with x | x <;> exact fun h => nomatch h) h18 (z130 ql)) ?_
      exact sR 1 (awp_ret (oF hF [] []))
    · refine awp_sub (awp_loop' (z127 ql) z129 (z128 ql) (by intro x; rcases x with x | x <;> exact fun h => nomatch h) h18 (z130 ql)) ?_
      exact oF hF [] []

/-! ### beaconfleet/fleetref2.FleetFault -/
def z389 (ql : List api_Device) (vlast : List UInt8) (vx : Int) (vy1 : api_Device) : Bool → St
  | vx2 => Mem.st ⟨[], [(0, [.s vy1.Key, .s vy1.Model, .s vy1.Tenant, .i vy1.Firmware.Major, .i vy1.Firmware.Minor, .i vy1.Firmware.Patch, .l api_Pair.enc vy1.Tags])]⟩ (tl [(3, .c (.s vlast)), (5, .c (.box 0 0)), (10, .c (.l api_Device.enc ql)), (11, .i (ql.length : Int)), (12, .i vx), (16, .b vx2)]) 1

def z388 (ql : List api_Device) (vlast : List UInt8) (vx : Int) (vy1 : api_Device) : St := Mem.st ⟨[], [(0, [.s vy1.Key, .s vy1.Model, .s vy1.Tenant, .i vy1.Firmware.Major, .i vy1.Firmware.Minor, .i vy1.Firmware.Patch, .l api_Pair.enc vy1.Tags])]⟩ (tl [(3, .c (.s vlast)), (5, .c (.box 0 0)), (10, .c (.l api_Device.enc ql)), (11, .i (ql.length : Int)), (12, .i vx)]) 1

theorem z390 (ql : List api_Device) (vlast : List UInt8) (vx : Int) (vy1 : api_Device) {r} (hF : z387 vy1 = some r) : Awp prog 0 51 (cL (cL (cL (cR (cL (cL (cR (cR (cL (cL (cR (cL (cR (cR (cR (cB f15)))))))))))))))) (Out 0 nrm (z389 ql vlast vx vy1) r) (z388 ql vlast vx vy1) := by
  unfold z387 at hF
  refine bE hF fun vr3_4 h4 hF => cE hF (fun h5 hF => ?_) fun h5 hF => ?_
  · refine awp_region (aR 2 (aC (z393 h4) [] [] [] (aB h5 (aR 13 (aE ?_)))))
    exact oO hF [] [] rfl
  · refine bE hF fun vr3_5 h6 hF => cE hF (fun h7 hF => ?_) fun h7 hF => ?_
    · refine awp_region (aR 2 (aC (z393 h4) [] [] [] (aB h5 (aR 3 (aC (z393 h6) [] [] [] (aB h7 (aR 8 (aE ?_))))))))
      exact oO hF [] [] rfl
    · refine bE hF fun vr3_6 h8 hF => awp_region (aR 2 (aC (z393 h4) [] [] [] (aB h5 (aR 3 (aC (z393 h6) [] [] [] (aB h7 (aR 4 (aC (z393 h8) [] [] [] (aR 3 (aE ?_))))))))))
      exact oO hF [] [] rfl

def z385 : Unit ⊕ Int → AEx
  | .inl _ => .exit 0
  | .inr _ => .ret

def z384 (ql : List api_Device) : Unit ⊕ Int → St
  | .inl _ => Mem.st ⟨[], []⟩ (tl []) 0
  | .inr vx3 => Mem.st ⟨[], []⟩ (tl [(2, .i vx3)]) 0

def z383 (ql : List api_Device) : (List UInt8) × Int → St
  | (vlast, vx) => Mem.st ⟨[], []⟩ (tl [(3, .c (.s vlast)), (10, .c (.l api_Device.enc ql)), (11, .i (ql.length : Int)), (12, .i vx)]) 0

theorem z386 (ql : List api_Device) (s : (List UInt8) × Int) (r : ((List UInt8) × Int) ⊕ (Unit ⊕ Int)) (hF : z382 ql s = some r) : Awp prog 0 51 (cL (cL (cR (cL (cR (cR (cR (cB f15)))))))) (Out 0 (kk z385) (SS (z383 ql) (z384 ql)) r) (z383 ql s) := by
  obtain ⟨vlast, vx⟩ := s
  unfold z382 at hF
  refine sR 1 (awp_seq (cE hF (fun h2 hF => ?_) fun h2 hF => ?_))
  · refine tT h2 (awp_skip (awp_seq (awp_block (awp_seq (bE hF fun vy1 h3 hF => awp_region (aX (x_idx api_Device.enc h3) (aR 3 (aE ?_))))))))
    refine awp_seq (awp_block (awp_seq (awp_to (st' := z388 ql vlast vx vy1) (oT [(0, 3000)] []) ?_)))
    refine bE hF fun vx2_1 h9 hF => awp_sub (z390 ql vlast vx vy1 h9) ?_
    refine cE hF (fun h10 hF => ?_) fun h10 hF => ?_
    · exact tT h10 (sR 1 (awp_ret (oO hF [] [] rfl)))
    · refine tF h10 (sR 5 (cE hF (fun h11 hF => ?_) fun h11 hF => ?_))
      · exact tT h11 (sR 1 (awp_ret (oO hF [] [] rfl)))
      · refine tF h11 (awp_skip (sR 3 (awp_seq (awp_seq (bE hF fun vr3_7 h12 hF => awp_region (aR 2 (aC (z464 h12) [] [] [] (aR 1 (aE ?_)))))))))
        refine sR 2 (cE hF (fun h13 hF => ?_) fun h13 hF => ?_)
        · exact tT h13 (sR 2 (awp_ret (oO hF [] [] rfl)))
        · refine tF h13 (awp_skip (awp_seq (awp_region (aR 2 (aL api_Pair.enc vy1.Tags (aR 1 (aE ?_)))))))
          refine cE hF (fun h14 hF => ?_) fun h14 hF => ?_
          · exact tT h14 (sR 1 (awp_ret (oO hF [] [] rfl)))
          · exact tF h14 (awp_skip (gR 2 (oO hF [] [] rfl)))
  · refine tF h2 (awp_exit ?_)
    exact oO hF [] [] rfl

def z380 (ql : List api_Device) (r : Int) : TV × Mem := (.i r, ⟨[], []⟩)

theorem z381 {ql : List api_Device} {r} (hF : z379 ql = some r) : Holds prog 15 [.c (.l api_Device.enc ql)] ⟨[], []⟩ (Is (z380 ql r)) := by
  unfold z379 at hF
  refine hW f15 51 0 0 ?_
  refine sR 1 (awp_seq (awp_seq (awp_region (aR 1 (aL api_Device.enc ql (aR 1 (aE ?_)))))))
  refine cE hF (fun h1 hF => ?_) fun h1 hF => ?_
  · exact tT h1 (sR 1 (awp_ret (oF hF [] [])))
  · refine tF h1 (awp_skip (sR 1 (awp_seq (awp_seq (awp_region (aR 1 (aL api_Device.enc ql (aR 1 (aE ?_)))))))))
    refine awp_block (awp_to (st' := z383 ql (([] : List UInt8), 0)) (oT [] []) ?_)
    refine bE hF fun x h15 hF => ?_
    rcases x with _ | vx3_1
    · refine awp_sub (awp_loop' (z383 ql) z385 (z384 ql) (by intro x; rcases x with x | x <;> exact fun h => nomatch h) h15 (z386 ql)) ?_
      exact sR 1 (awp_ret (oF hF [] []))
    · refine awp_sub (awp_loop' (z383 ql) z385 (z384 ql) (by intro x; rcases x with x | x <;> exact fun h => nomatch h) h15 (z386 ql)) ?_
      exact oF hF [] []

/-! ### beaconfleet/fleetref2.MarksFault -/
def z411 (ql : List api_Mark) (vx : Int) (vy2 : api_Mark) : Bool → St
  | vx2 => Mem.st ⟨[], []⟩ (tl [(0, .c (.l api_Mark.enc ql)), (9, .c (.l api_Mark.enc ql)), (10, .i (ql.length : Int)), (11, .i vx), (48, .b vx2)]) 0

def z410 (ql : List api_Mark) (vx : Int) (vy2 : api_Mark) : St := Mem.st ⟨[], [(0, [.i vy2.At, .s vy2.Device, .i vy2.Kind, .i vy2.Version.Major, .i vy2.Version.Minor, .i vy2.Version.Patch])]⟩ (tl [(0, .c (.l api_Mark.enc ql)), (3, .i vx), (4, .c (.box 0 0)), (9, .c (.l api_Mark.enc ql)), (10, .i (ql.length : Int)), (11, .i vx)]) 1

theorem z412 (ql : List api_Mark) (vx : Int) (vy2 : api_Mark) {r} (hF : z409 ql vx vy2 = some r) : Awp prog 0 50 (cL (cR (cR (cR (cL (cL (cR (cR (cL (cL (cR (cL (cR (cR (cB f16))))))))))))))) (Out 0 nrm (z411 ql vx vy2) r) (z410 ql vx vy2) := by
  unfold z409 at hF
  refine cE hF (fun h12 hF => ?_) fun h12 hF => ?_
  · refine bE hF fun vy3 h13 hF => bE hF fun vr1_3 h14 hF => aD ?_
    refine dR 1 ?_
    refine dB h12 ?_
    refine dR 4 ?_
    refine dX (x_idx api_Mark.enc h13) ?_
    refine dR 2 ?_
    refine dC (z400 h14) [] [] [] ?_
    refine dR 2 ?_
    refine dE ?_
    exact oO hF [] [] rfl
  · refine aD ?_
    refine dR 1 ?_
    refine dB h12 ?_
    refine dR 10 ?_
    refine dE ?_
    exact oO hF [] [] rfl

def z407 : Unit ⊕ Int → AEx
  | .inl _ => .exit 0
  | .inr _ => .ret

def z406 (ql : List api_Mark) : Unit ⊕ Int → St
  | .inl _ => Mem.st ⟨[], []⟩ (tl []) 0
  | .inr vx3 => Mem.st ⟨[], []⟩ (tl [(2, .i vx3)]) 0

def z405 (ql : List api_Mark) : Int → St
  | vx => Mem.st ⟨[], []⟩ (tl [(0, .c (.l api_Mark.enc ql)), (9, .c (.l api_Mark.enc ql)), (10, .i (ql.length : Int)), (11, .i vx)]) 0

theorem z408 (ql : List api_Mark) (vx : Int) (r : (Int) ⊕ (Unit ⊕ Int)) (hF : z404 ql vx = some r) : Awp prog 0 50 (cL (cL (cR (cL (cR (cR (cB f16))))))) (Out 0 (kk z407) (SS (z405 ql) (z406 ql)) r) (z405 ql vx) := by
  unfold z404 at hF
  refine sR 1 (awp_seq (cE hF (fun h2 hF => ?_) fun h2 hF => ?_))
  · refine tT h2 (awp_skip (awp_seq (awp_block (awp_seq (bE hF fun vy2 h3 hF => awp_region (aR 1 (aX (x_idx api_Mark.enc h3) (aR 4 (aE ?_)))))))))
    refine awp_seq (awp_block (awp_seq (bE hF fun vr1_2 h4 hF => awp_region (aR 2 (aC (z427 h4) [] [] [] (aR 2 (aE ?_)))))))
    refine cE hF (fun h5 hF => ?_) fun h5 hF => ?_
    · exact tT h5 (sR 1 (awp_ret (oO hF [] [] rfl)))
    · refine tF h5 (awp_seq (bE hF fun vr3_2 h6 hF => awp_region (aR 2 (aC (z393 h6) [] [] [] (aR 2 (aE ?_))))))
      refine cE hF (fun h7 hF => ?_) fun h7 hF => ?_
      · exact tT h7 (sR 1 (awp_ret (oO hF [] [] rfl)))
      · refine tF h7 (awp_seq (bE hF fun vr2 h8 hF => awp_region (aR 2 (aC (z438 h8) [] [] [] (aR 2 (aE ?_))))))
        refine cE hF (fun h9 hF => ?_) fun h9 hF => ?_
        · exact tT h9 (sR 1 (awp_ret (oO hF [] [] rfl)))
        · refine tF h9 (awp_skip (awp_seq (awp_seq (bE hF fun vr3_3 h10 hF => awp_region (aR 2 (aC (z464 h10) [] [] [] (aR 1 (aE ?_))))))))
          refine sR 2 (cE hF (fun h11 hF => ?_) fun h11 hF => ?_)
          · exact tT h11 (sR 2 (awp_ret (oO hF [] [] rfl)))
          · refine tF h11 (awp_skip (awp_seq (awp_to (st' := z410 ql vx vy2) (oT [(0, 4000)] []) ?_)))
            refine bE hF fun vx2_1 h15 hF => awp_sub (z412 ql vx vy2 h15) ?_
            refine cE hF (fun h16 hF => ?_) fun h16 hF => ?_
            · exact tT h16 (sR 1 (awp_ret (oO hF [] [] rfl)))
            · exact tF h16 (awp_skip (gR 2 (oO hF [] [] rfl)))
  · refine tF h2 (awp_exit ?_)
    exact oO hF [] [] rfl

def z402 (ql : List api_Mark) (r : Int) : TV × Mem := (.i r, ⟨[], []⟩)

theorem z403 {ql : List api_Mark} {r} (hF : z401 ql = some r) : Holds prog 16 [.c (.l api_Mark.enc ql)] ⟨[], []⟩ (Is (z402 ql r)) := by
  unfold z401 at hF
  refine hW f16 50 0 0 ?_
  refine sR 1 (awp_seq (awp_seq (awp_region (aR 1 (aL api_Mark.enc ql (aR 1 (aE ?_)))))))
  refine cE hF (fun h1 hF => ?_) fun h1 hF => ?_
  · exact tT h1 (sR 1 (awp_ret (oF hF [] [])))
  · refine tF h1 (awp_skip (awp_seq (awp_seq (awp_region (aR 1 (aL api_Mark.enc ql (aR 1 (aE ?_))))))))
    refine awp_block (awp_to (st' := z405 ql 0) (oT [] []) ?_)
    refine bE hF fun x h17 hF => ?_
    rcases x with _ | vx3_1
    · refine awp_sub (awp_loop' (z405 ql) z407 (z406 ql) (by intro x; rcases x with x | x <;> exact fun h => nomatch h) h17 (z408 ql)) ?_
      exact sR 1 (awp_ret (oF hF [] []))
    · refine awp_sub (awp_loop' (z405 ql) z407 (z406 ql) (by intro x; rcases x with x | x <;> exact fun h => nomatch h) h17 (z408 ql)) ?_
      exact oF hF [] []

/-! ### beaconfleet/fleetlaw2.when -/
def z244 (qis : Bool) (qe : Int) (r : Int) : TV × Mem := (.i r, ⟨[], []⟩)

theorem z245 {qis : Bool} {qe : Int} {r} (hF : z243 qis qe = some r) : Holds prog 19 [.b qis, .i qe] ⟨[], []⟩ (Is (z244 qis qe r)) := by
  unfold z243 at hF
  refine hW f19 7 0 0 ?_
  refine sR 1 (awp_seq (sR 1 (cE hF (fun h1 hF => ?_) fun h1 hF => ?_)))
  · exact tT h1 (sR 2 (awp_ret (oF hF [] [])))
  · exact tF h1 (awp_skip (sR 1 (awp_ret (oF hF [] []))))

/-! ### beaconfleet/fleetlaw2.errs -/
def z234 : Unit ⊕ Int → AEx
  | .inl _ => .exit 0
  | .inr _ => .ret

def z233 (ql : List Int) : Unit ⊕ Int → St
  | .inl _ => Mem.st ⟨[], []⟩ (tl []) 0
  | .inr vx1 => Mem.st ⟨[], []⟩ (tl [(2, .i vx1)]) 0

def z232 (ql : List Int) : Int → St
  | vx => Mem.st ⟨[], []⟩ (tl [(5, .c (.l (encI .i64) ql)), (6, .i (ql.length : Int)), (7, .i vx)]) 0

theorem z235 (ql : List Int) (vx : Int) (r : (Int) ⊕ (Unit ⊕ Int)) (hF : z231 ql vx = some r) : Awp prog 0 15 (cL (cL (cR (cL (cR (cB f13)))))) (Out 0 (kk z234) (SS (z232 ql) (z233 ql)) r) (z232 ql vx) := by
  unfold z231 at hF
  refine sR 1 (awp_seq (cE hF (fun h1 hF => ?_) fun h1 hF => ?_))
  · refine tT h1 (awp_skip (awp_seq (awp_block (awp_seq (bE hF fun vy1 h2 hF => awp_region (aX (x_idx (encI .i64) h2) (aR 2 (aE ?_))))))))
    refine sR 2 (cE hF (fun h3 hF => ?_) fun h3 hF => ?_)
    · exact tT h3 (sR 2 (awp_ret (oO hF [] [] rfl)))
    · exact tF h3 (awp_skip (gR 2 (oO hF [] [] rfl)))
  · refine tF h1 (awp_exit ?_)
    exact oO hF [] [] rfl

def z229 (ql : List Int) (r : Int) : TV × Mem := (.i r, ⟨[], []⟩)

theorem z230 {ql : List Int} {r} (hF : z228 ql = some r) : Holds prog 13 [.c (.l (encI .i64) ql)] ⟨[], []⟩ (Is (z229 ql r)) := by
  unfold z228 at hF
  refine hW f13 15 0 0 ?_
  refine sR 1 (awp_seq (awp_seq (awp_region (aR 1 (aL (encI .i64) ql (aR 1 (aE ?_)))))))
  refine awp_block (awp_to (st' := z232 ql 0) (oT [] []) ?_)
  refine bE hF fun x h4 hF => ?_
  rcases x with _ | vx1_1
  · refine awp_sub (awp_loop' (z232 ql) z234 (z233 ql) (by intro x; rcases x with x | x <;> exact fun h => nomatch h) h4 (z235 ql)) ?_
    exact sR 1 (awp_ret (oF hF [] []))
  · refine awp_sub (awp_loop' (z232 ql) z234 (z233 ql) (by intro x; rcases x with x | x <;> exact fun h => nomatch h) h4 (z235 ql)) ?_
    exact oF hF [] []

/-! ### beaconfleet/fleetref2.lot -/
def z449 : Int → AEx
  | _ => .exit 0

def z448 (qc : api_Campaign) (qdevice : List UInt8) : Int → St
  | vh1 => Mem.st ⟨[], []⟩ (tl [(5, .c (.d (.int .u64 vh1)))]) 0

def z447 (qc : api_Campaign) (qdevice : List UInt8) : Int × Int → St
  | (vh, vx) => Mem.st ⟨[], []⟩ (tl [(5, .c (.d (.int .u64 vh))), (13, .c (.l (encI .u8) (bytesD ((qc.Key ++ ([0] : List UInt8)) ++ qdevice)))), (14, .i ((bytesD ((qc.Key ++ ([0] : List UInt8)) ++ qdevice)).length : Int)), (15, .i vx)]) 0

theorem z450 (qc : api_Campaign) (qdevice : List UInt8) (s : Int × Int) (r : (Int × Int) ⊕ (Int)) (hF : z446 qc qdevice s = some r) : Awp prog 0 31 (cL (cL (cR (cL (cR (cR (cB f111))))))) (Out 0 (kk z449) (SS (z447 qc qdevice) (z448 qc qdevice)) r) (z447 qc qdevice s) := by
  obtain ⟨vh, vx⟩ := s
  unfold z446 at hF
  refine sR 1 (awp_seq (cE hF (fun h3 hF => ?_) fun h3 hF => ?_))
  · refine tT h3 (awp_skip (awp_seq (awp_block (awp_seq (bE hF fun vy1 h4 hF => awp_region (aX (x_idx (encI .u8) h4) (aR 2 (aE ?_))))))))
    exact gR 6 (gR 2 (oO hF [] [] rfl))
  · refine tF h3 (awp_exit ?_)
    exact oO hF [] [] rfl

def z444 (qc : api_Campaign) (qdevice : List UInt8) (r : Int) : TV × Mem := (.i r, ⟨[], []⟩)

theorem z445 {qc : api_Campaign} {qdevice : List UInt8} {r} (hF : z443 qc qdevice = some r) : Holds prog 111 [.v (.agg [.s qc.Key, .i qc.Target.Major, .i qc.Target.Minor, .i qc.Target.Patch, .i qc.At, .l api_Wave.enc qc.Waves, .i qc.Hours.From, .i qc.Hours.To, .i qc.Room]), .c (.s qdevice)] ⟨[], []⟩ (Is (z444 qc qdevice r)) := by
  unfold z443 at hF
  refine hW f111 31 0 0 ?_
  refine sR 2 (sR 1 (awp_seq (awp_seq (gE hF fun h1 hF => ?_))))
  refine gE hF fun h2 hF => ?_
  refine awp_region (aR 2 (aX (x_cat h1) (aR 1 (aX (x_cat h2) (aBs (s := (qc.Key ++ ([0] : List UInt8)) ++ qdevice) rfl ?_)))))
  refine aL (encI .u8) (bytesD ((qc.Key ++ ([0] : List UInt8)) ++ qdevice)) (aR 1 (aE ?_))
  refine awp_block (awp_to (st' := z447 qc qdevice (14695981039346656037, 0)) (oT [] []) ?_)
  refine bE hF fun vh1_1 h5 hF => awp_sub (awp_loop' (z447 qc qdevice) z449 (z448 qc qdevice) (by intro x; exact fun h => nomatch h) h5 (z450 qc qdevice)) ?_
  exact sR 7 (awp_ret (oF hF [] []))

/-! ### beaconfleet/fleetref2.WaveOf -/
def z434 : Unit ⊕ Int → AEx
  | .inl _ => .exit 0
  | .inr _ => .ret

def z433 (qc : api_Campaign) : Unit ⊕ Int → St
  | .inl _ => Mem.st ⟨[], []⟩ (tl []) 0
  | .inr vx1 => Mem.st ⟨[], []⟩ (tl [(4, .i vx1)]) 0

def z432 (qc : api_Campaign) : Int × Int → St
  | (vn, vx) => Mem.st ⟨[], []⟩ (tl [(5, .i vn), (12, .c (.l api_Wave.enc qc.Waves)), (13, .i (qc.Waves.length : Int)), (14, .i vx)]) 0

theorem z435 (qc : api_Campaign) (s : Int × Int) (r : (Int × Int) ⊕ (Unit ⊕ Int)) (hF : z431 qc s = some r) : Awp prog 0 27 (cL (cL (cR (cL (cR (cR (cB f45))))))) (Out 0 (kk z434) (SS (z432 qc) (z433 qc)) r) (z432 qc s) := by
  obtain ⟨vn, vx⟩ := s
  unfold z431 at hF
  refine sR 1 (awp_seq (cE hF (fun h2 hF => ?_) fun h2 hF => ?_))
  · refine tT h2 (awp_skip (awp_seq (awp_block (awp_seq (bE hF fun vy1 h3 hF => awp_region (aR 1 (aX (x_idx api_Wave.enc h3) (aR 4 (aE ?_)))))))))
    refine sR 5 (sR 2 (cE hF (fun h4 hF => ?_) fun h4 hF => ?_))
    · exact tT h4 (sR 2 (awp_ret (oO hF [] [] rfl)))
    · exact tF h4 (awp_skip (gR 2 (oO hF [] [] rfl)))
  · refine tF h2 (awp_exit ?_)
    exact oO hF [] [] rfl

def z429 (qc : api_Campaign) (qdevice : List UInt8) (r : Int) : TV × Mem := (.i r, ⟨[], []⟩)

theorem z430 {qc : api_Campaign} {qdevice : List UInt8} {r} (hF : z428 qc qdevice = some r) : Holds prog 45 [.v (.agg [.s qc.Key, .i qc.Target.Major, .i qc.Target.Minor, .i qc.Target.Patch, .i qc.At, .l api_Wave.enc qc.Waves, .i qc.Hours.From, .i qc.Hours.To, .i qc.Room]), .c (.s qdevice)] ⟨[], []⟩ (Is (z429 qc qdevice r)) := by
  unfold z428 at hF
  refine hW f45 27 0 0 ?_
  refine sR 2 (awp_seq (bE hF fun vr h1 hF => awp_region (aR 2 (aC (z445 h1) [] [] [] (aR 1 (aE ?_))))))
  refine awp_seq (awp_seq (awp_region (aR 2 (aL api_Wave.enc qc.Waves (aR 1 (aE ?_))))))
  refine awp_block (awp_to (st' := z432 qc (vr, 0)) (oT [] []) ?_)
  refine bE hF fun x h5 hF => ?_
  rcases x with _ | vx1_1
  · refine awp_sub (awp_loop' (z432 qc) z434 (z433 qc) (by intro x; rcases x with x | x <;> exact fun h => nomatch h) h5 (z435 qc)) ?_
    exact sR 1 (awp_ret (oF hF [] []))
  · refine awp_sub (awp_loop' (z432 qc) z434 (z433 qc) (by intro x; rcases x with x | x <;> exact fun h => nomatch h) h5 (z435 qc)) ?_
    exact oF hF [] []

/-! ### beaconfleet/fleetref2.MarksOf -/
def z423 (vr : List api_Mark) (vx : Int) : Bool → St
  | vx2 => Mem.st ⟨[(0, ⟨88, 6, List.map api_Mark.enc vr⟩)], []⟩ (tl [(6, .c (.own 0 none)), (17, .i (vr.length : Int)), (18, .i vx), (35, .b vx2)]) 1

def z422 (vr : List api_Mark) (vx : Int) : St := Mem.st ⟨[(0, ⟨88, 6, List.map api_Mark.enc vr⟩)], []⟩ (tl [(6, .c (.own 0 none)), (7, .i vx), (17, .i (vr.length : Int)), (18, .i vx)]) 1

theorem z424 (vr : List api_Mark) (vx : Int) {r} (hF : z421 vr vx = some r) : Awp prog 0 41 (cL (cR (cL (cL (cR (cR (cL (cL (cR (cL (cR (cR (cR (cR (cB f46))))))))))))))) (Out 0 nrm (z423 vr vx) r) (z422 vr vx) := by
  unfold z421 at hF
  refine cE hF (fun h6 hF => ?_) fun h6 hF => ?_
  · refine bE hF fun vy2 h7 hF => bE hF fun vy3 h8 hF => bE hF fun vr1_2 h9 hF => aD ?_
    refine dR 1 ?_
    refine dB h6 ?_
    refine dR 4 ?_
    refine dX (x_idxO api_Mark.enc 0 h7) ?_
    refine dX (x_ldE api_Mark.enc h7) ?_
    refine dR 2 ?_
    refine dX (x_idxO api_Mark.enc 0 h8) ?_
    refine dX (x_ldE api_Mark.enc h8) ?_
    refine dC (z400 h9) [] [] [] ?_
    refine dR 2 ?_
    refine dE ?_
    exact oO hF [] [] rfl
  · refine aD ?_
    refine dR 1 ?_
    refine dB h6 ?_
    refine dR 13 ?_
    refine dE ?_
    exact oO hF [] [] rfl

def z419 : Unit ⊕ Unit → AEx
  | .inl _ => .exit 0
  | .inr _ => .ret

def z418 (vr : List api_Mark) : Unit ⊕ Unit → St
  | .inl _ => Mem.st ⟨[(0, ⟨88, 6, List.map api_Mark.enc vr⟩)], []⟩ (tl [(6, .c (.own 0 none))]) 1
  | .inr _ => Mem.st ⟨[], []⟩ (tl [(4, .c (.nil)), (5, .i 13)]) 0

def z417 (vr : List api_Mark) : Int → St
  | vx => Mem.st ⟨[(0, ⟨88, 6, List.map api_Mark.enc vr⟩)], []⟩ (tl [(6, .c (.own 0 none)), (17, .i (vr.length : Int)), (18, .i vx)]) 1

theorem z420 (vr : List api_Mark) (vx : Int) (r : (Int) ⊕ (Unit ⊕ Unit)) (hF : z416 vr vx = some r) : Awp prog 0 41 (cL (cL (cR (cL (cR (cR (cR (cR (cB f46))))))))) (Out 0 (kk z419) (SS (z417 vr) (z418 vr)) r) (z417 vr vx) := by
  unfold z416 at hF
  refine sR 1 (awp_seq (cE hF (fun h5 hF => ?_) fun h5 hF => ?_))
  · refine tT h5 (awp_skip (awp_seq (awp_block (sR 2 (awp_seq (awp_to (st' := z422 vr vx) (oT [] []) ?_))))))
    refine bE hF fun vx2_1 h10 hF => awp_sub (z424 vr vx h10) ?_
    refine cE hF (fun h11 hF => ?_) fun h11 hF => ?_
    · exact tT h11 (sR 2 (awp_ret (oO hF [] [] rfl)))
    · exact tF h11 (awp_skip (gR 2 (oO hF [] [] rfl)))
  · refine tF h5 (awp_exit ?_)
    exact oO hF [] [] rfl

def z414 (qa : List api_Mark) (qb : List api_Mark) (r : (List api_Mark) × Int) : TV × Mem := (.tup [.one (.own 0 none), .one (.i r.2)], ⟨[(0, ⟨88, 6, List.map api_Mark.enc r.1⟩)], []⟩)

theorem z415 {qa : List api_Mark} {qb : List api_Mark} {r} (hF : z413 qa qb = some r) : Holds prog 46 [.c (.l api_Mark.enc qa), .c (.l api_Mark.enc qb)] ⟨[], []⟩ (Is (z414 qa qb r)) := by
  unfold z413 at hF
  refine hW f46 41 0 0 ?_
  refine sR 2 (awp_seq (bE hF fun vr1 h1 hF => awp_region (aR 3 (aC (z508 h1) [(0, 4000)] [] [] (aR 1 (aE ?_))))))
  refine awp_seq (bE hF fun vl h2 hF => gE hF fun h3 hF => ?_)
  refine awp_region (aR 1 (aCp (z539 h2) ⟨⟨rfl, rfl, pin1 h3⟩, trivial⟩ [(0, 5001)] [] [] ?_))
  refine aE ?_
  refine awp_seq (bE hF fun vr h4 hF => awp_region (aR 1 (aC (z491 h4) [(0, 5001)] [] [] (aR 1 (aE ?_)))))
  refine awp_seq (awp_seq (awp_region (aR 1 (aL api_Mark.enc vr (aR 1 (aE ?_))))))
  refine awp_block (awp_to (st' := z417 vr 0) (oT [(0, 10001)] []) ?_)
  refine bE hF fun x h12 hF => ?_
  rcases x with _ | _
  · refine awp_sub (awp_loop' (z417 vr) z419 (z418 vr) (by intro x; rcases x with x | x <;> exact fun h => nomatch h) h12 (z420 vr)) ?_
    refine awp_seq (awp_seq (awp_region (aR 1 (aL api_Mark.enc vr (aR 1 (aE ?_))))))
    refine cE hF (fun h13 hF => ?_) fun h13 hF => ?_
    · exact tT h13 (sR 2 (awp_ret (oF hF [] [0])))
    · exact tF h13 (awp_skip (sR 3 (awp_ret (oF hF [] []))))
  · refine awp_sub (awp_loop' (z417 vr) z419 (z418 vr) (by intro x; rcases x with x | x <;> exact fun h => nomatch h) h12 (z420 vr)) ?_
    exact oF hF [] [0]

/-! ### slices.Equal[[]beaconfleet/api.Mark,beaconfleet/api.Mark] -/
def z525 : Unit ⊕ Unit → AEx
  | .inl _ => .exit 0
  | .inr _ => .ret

def z524 (qs1 : List api_Mark) (qs2 : List api_Mark) : Unit ⊕ Unit → St
  | .inl _ => Mem.st ⟨[], []⟩ (tl []) 0
  | .inr _ => Mem.st ⟨[], []⟩ (tl [(4, .b false)]) 0

def z523 (qs1 : List api_Mark) (qs2 : List api_Mark) : Int → St
  | vx => Mem.st ⟨[], []⟩ (tl [(0, .c (.l api_Mark.enc qs1)), (1, .c (.l api_Mark.enc qs2)), (12, .i (qs1.length : Int)), (13, .i vx)]) 0

theorem z526 (qs1 : List api_Mark) (qs2 : List api_Mark) (vx : Int) (r : (Int) ⊕ (Unit ⊕ Unit)) (hF : z522 qs1 qs2 vx = some r) : Awp prog 0 26 (cL (cL (cR (cL (cR (cR (cB f47))))))) (Out 0 (kk z525) (SS (z523 qs1 qs2) (z524 qs1 qs2)) r) (z523 qs1 qs2 vx) := by
  unfold z522 at hF
  refine sR 1 (awp_seq (cE hF (fun h2 hF => ?_) fun h2 hF => ?_))
  · refine tT h2 (awp_skip (awp_seq (awp_block (sR 2 (awp_seq (bE hF fun vy2 h3 hF => bE hF fun vy3 h4 hF => aD ?_))))))
    refine dR 2 ?_
    refine dX (x_idx api_Mark.enc h3) ?_
    refine dR 3 ?_
    refine dX (x_idx api_Mark.enc h4) ?_
    refine dR 1 ?_
    refine dS (U := []) (stable_eqS (op := .neq) (xs := [.int .i64 vy2.At, .str vy2.Device, .int .i64 vy2.Kind, .int .i64 vy2.Version.Major, .int .i64 vy2.Version.Minor, .int .i64 vy2.Version.Patch]) (ys := [.int .i64 vy3.At, .str vy3.Device, .int .i64 vy3.Kind, .int .i64 vy3.Version.Major, .int .i64 vy3.Version.Minor, .int .i64 vy3.Version.Patch]) (b := (decide (vy2.At = vy3.At) && (decide (vy2.Device = vy3.Device) && (decide (vy2.Kind = vy3.Kind) && ((decide (vy2.Version.Major = vy3.Version.Major) && (decide (vy2.Version.Minor = vy3.Version.Minor) && (decide (vy2.Version.Patch = vy3.Version.Patch) && true))) && true))))) (c := (!(decide (vy2.At = vy3.At) && (decide (vy2.Device = vy3.Device) && (decide (vy2.Kind = vy3.Kind) && ((decide (vy2.Version.Major = vy3.Version.Major) && (decide (vy2.Version.Minor = vy3.Version.Minor) && (decide (vy2.Version.Patch = vy3.Version.Patch) && true))) && true)))))) rfl (.inr ⟨rfl, rfl⟩) (by kernel_rfl) (by kernel_rfl) (by kernel_rfl) (by kernel_rfl) (by kernel_rfl) (by kernel_rfl)) ?_
    refine dE ?_
    refine cE hF (fun h5 hF => ?_) fun h5 hF => ?_
    · exact tT h5 (sR 1 (awp_ret (oO hF [] [] rfl)))
    · exact tF h5 (awp_skip (gR 2 (oO hF [] [] rfl)))
  · refine tF h2 (awp_exit ?_)
    exact oO hF [] [] rfl

def z520 (qs1 : List api_Mark) (qs2 : List api_Mark) (r : Bool) : TV × Mem := (.b r, ⟨[], []⟩)

theorem z521 {qs1 : List api_Mark} {qs2 : List api_Mark} {r} (hF : z519 qs1 qs2 = some r) : Holds prog 47 [.c (.l api_Mark.enc qs1), .c (.l api_Mark.enc qs2)] ⟨[], []⟩ (Is (z520 qs1 qs2 r)) := by
  unfold z519 at hF
  refine hW f47 26 0 0 ?_
  refine sR 1 (awp_seq (awp_seq (awp_region (aR 1 (aL api_Mark.enc qs1 (aR 1 (aL api_Mark.enc qs2 (aR 1 (aE ?_)))))))))
  refine cE hF (fun h1 hF => ?_) fun h1 hF => ?_
  · exact tT h1 (sR 1 (awp_ret (oF hF [] [])))
  · refine tF h1 (awp_skip (awp_seq (awp_seq (awp_region (aR 1 (aL api_Mark.enc qs1 (aR 1 (aE ?_))))))))
    refine awp_block (awp_to (st' := z523 qs1 qs2 0) (oT [] []) ?_)
    refine bE hF fun x h6 hF => ?_
    rcases x with _ | _
    · refine awp_sub (awp_loop' (z523 qs1 qs2) z525 (z524 qs1 qs2) (by intro x; rcases x with x | x <;> exact fun h => nomatch h) h6 (z526 qs1 qs2)) ?_
      exact sR 1 (awp_ret (oF hF [] []))
    · refine awp_sub (awp_loop' (z523 qs1 qs2) z525 (z524 qs1 qs2) (by intro x; rcases x with x | x <;> exact fun h => nomatch h) h6 (z526 qs1 qs2)) ?_
      exact oF hF [] []

/-! ### unicode/utf8.RuneCountInString -/
def z1018 : Int → AEx
  | _ => .exit 0

def z1017 (qs : List UInt8) : Int → St
  | vn1 => Mem.st ⟨[], []⟩ (tl [(2, .i vn1)]) 0

def z1016 (qs : List UInt8) : Nat × Int → St
  | (vpos, vn) => Mem.st ⟨[], [(0, [.iters qs vpos])]⟩ (tl [(2, .i vn), (4, .c (.box 0 0))]) 1

theorem z1019 (qs : List UInt8) (s : Nat × Int) (r : (Nat × Int) ⊕ (Int)) (hF : z1015 qs s = some r) : Awp prog 0 10 (cL (cL (cR (cL (cR (cB f214)))))) (Out 0 (kk z1018) (SS (z1016 qs) (z1017 qs)) r) (z1016 qs s) := by
  obtain ⟨vpos, vn⟩ := s
  unfold z1015 at hF
  refine awp_seq (cE hF (fun h1 hF => ?_) fun h1 hF => ?_)
  · refine bE hF fun vd1 h2 hF => awp_region (aX (x_next 0 qs vpos h1 h2) (aR 1 (aE ?_)))
    exact awp_seq (tT rfl (awp_skip (awp_block (gR 3 (oO hF [] [] rfl)))))
  · refine awp_region (aX (x_nextE 0 qs vpos h1) (aR 1 (aE ?_)))
    refine awp_seq (tF rfl (awp_exit ?_))
    exact oO hF [] [] rfl

def z1013 (qs : List UInt8) (r : Int) : TV × Mem := (.i r, ⟨[], []⟩)

theorem z1014 {qs : List UInt8} {r} (hF : z1012 qs = some r) : Holds prog 214 [.c (.s qs)] ⟨[], []⟩ (Is (z1013 qs r)) := by
  unfold z1012 at hF
  refine hW f214 10 0 0 ?_
  refine sR 1 (awp_seq (sR 2 (awp_block (awp_to (st' := z1016 qs ((0 : Nat), 0)) (oT [(0, 2000)] []) ?_))))
  refine bE hF fun vn1_1 h3 hF => awp_sub (awp_loop' (z1016 qs) z1018 (z1017 qs) (by intro x; exact fun h => nomatch h) h3 (z1019 qs)) ?_
  exact sR 2 (awp_ret (oF hF [] []))

/-! ### unicode/utf8.decodeRuneInStringSlow -/
def z1021 (qx : List UInt8) (r : Unit) : TV × Mem := (.tup [.one (.d (.int .i32 65533)), .one (.i 0)], ⟨[], []⟩)

theorem z1022 {qx : List UInt8} {r} (hF : z1020 qx = some r) : Holds prog 227 [.c (.s qx)] ⟨[], []⟩ (Is (z1021 qx r)) := by
  unfold z1020 at hF
  refine hW f227 117 0 0 ?_
  refine sR 2 (sR 3 (awp_seq (sR 2 (cE hF (fun h1 hF => ?_) fun h1 hF => ?_))))
  · exact tT h1 (sR 2 (awp_ret (oF hF [] [])))
  · refine tF h1 (awp_skip (awp_seq (bE hF fun vc h2 hF => awp_region (aR 1 (aX (x_idxS h2) (aR 1 (aE ?_)))))))
    exact awp_seq (nE hF)

/-! ### unicode/utf8.DecodeRuneInString -/
def z1010 (qs : List UInt8) : Bool → St
  | vx => Mem.st ⟨[], []⟩ (tl [(0, .c (.s qs)), (10, .b vx)]) 0

def z1009 (qs : List UInt8) : St := Mem.st ⟨[], []⟩ (tl [(0, .c (.s qs))]) 0

theorem z1011 (qs : List UInt8) {r} (hF : z1008 qs = some r) : Awp prog 0 19 (cL (cL (cR (cB f215)))) (Out 0 nrm (z1010 qs) r) (z1009 qs) := by
  unfold z1008 at hF
  refine cE hF (fun h1 hF => ?_) fun h1 hF => ?_
  · refine bE hF fun vc h2 hF => awp_region (aR 1 (aB h1 (aR 2 (aX (x_idxS h2) (aR 2 (aE ?_))))))
    exact oO hF [] [] rfl
  · refine awp_region (aR 1 (aB h1 (aR 5 (aE ?_))))
    exact oO hF [] [] rfl

def z1006 (qs : List UInt8) (r : Int × Int) : TV × Mem := (.tup [.one (.d (.int .i32 r.1)), .one (.i r.2)], ⟨[], []⟩)

theorem z1007 {qs : List UInt8} {r} (hF : z1005 qs = some r) : Holds prog 215 [.c (.s qs)] ⟨[], []⟩ (Is (z1006 qs r)) := by
  unfold z1005 at hF
  refine hW f215 19 0 0 ?_
  refine sR 2 (awp_seq (awp_seq (awp_to (st' := z1009 qs) (oT [] []) ?_)))
  refine bE hF fun vx1 h3 hF => awp_sub (z1011 qs h3) ?_
  refine cE hF (fun h4 hF => ?_) fun h4 hF => ?_
  · refine tT h4 (awp_seq (bE hF fun vc1 h5 hF => awp_region (aR 1 (aX (x_idxS h5) (aR 3 (aE ?_))))))
    exact awp_ret (oF hF [] [])
  · refine tF h4 (bE hF fun _ h6 hF => awp_region (aR 1 (aC (z1022 h6) [] [] [] (aR 5 (aE ?_)))))
    exact awp_ret (oF hF [] [])

/-! ### strings.explode -/
def z962 (qs : List UInt8) (qn : Int) (vr : Int) : Bool → St
  | vx => Mem.st ⟨[], []⟩ (tl [(0, .c (.s qs)), (1, .i qn), (5, .i vr), (18, .b vx)]) 0

def z961 (qs : List UInt8) (qn : Int) (vr : Int) : St := Mem.st ⟨[], []⟩ (tl [(0, .c (.s qs)), (1, .i qn), (5, .i vr)]) 0

theorem z963 (qs : List UInt8) (qn : Int) (vr : Int) {r} (hF : z960 qn vr = some r) : Awp prog 0 50 (cL (cL (cR (cR (cB f195))))) (Out 0 nrm (z962 qs qn vr) r) (z961 qs qn vr) := by
  unfold z960 at hF
  refine cE hF (fun h2 hF => ?_) fun h2 hF => ?_
  · refine awp_region (aR 1 (aB h2 (aR 5 (aE ?_))))
    exact oO hF [] [] rfl
  · refine awp_region (aR 1 (aB h2 (aR 5 (aE ?_))))
    exact oO hF [] [] rfl

def z958 (qs : List UInt8) (qn : Int) (vr : Int) : Int → St
  | vn => Mem.st ⟨[], []⟩ (tl [(0, .c (.s qs)), (1, .i vn)]) 0

def z957 (qs : List UInt8) (qn : Int) (vr : Int) : St := Mem.st ⟨[], []⟩ (tl [(0, .c (.s qs)), (1, .i qn), (5, .i vr)]) 0

theorem z959 (qs : List UInt8) (qn : Int) (vr : Int) {r} (hF : z956 qn vr = some r) : Awp prog 0 50 (cL (cR (cR (cB f195)))) (Out 0 nrm (z958 qs qn vr) r) (z957 qs qn vr) := by
  unfold z956 at hF
  refine awp_seq (awp_to (st' := z961 qs qn vr) (oT [] []) ?_)
  refine bE hF fun vx1 h3 hF => awp_sub (z963 qs qn vr h3) ?_
  refine cE hF (fun h4 hF => ?_) fun h4 hF => ?_
  · exact tT h4 (gR 2 (oO hF [] [] rfl))
  · exact tF h4 (awp_skip (oO hF [] [] rfl))

def z967 : ((List UInt8) × (List (List UInt8))) → AEx
  | _ => .exit 0

def z966 (vn1 : Int) : ((List UInt8) × (List (List UInt8))) → St
  | (vs5, va1) => Mem.st ⟨[(0, ⟨9, 1, List.map encS va1⟩)], []⟩ (tl [(0, .c (.s vs5)), (1, .i vn1), (6, .c (.own 0 none))]) 1

def z965 (vn1 : Int) : (List UInt8) × (List (List UInt8)) × Int → St
  | (vs, va, vi) => Mem.st ⟨[(0, ⟨9, 1, List.map encS va⟩)], []⟩ (tl [(0, .c (.s vs)), (1, .i vn1), (6, .c (.own 0 none)), (7, .i vi)]) 1

theorem z968 (vn1 : Int) (s : (List UInt8) × (List (List UInt8)) × Int) (r : ((List UInt8) × (List (List UInt8)) × Int) ⊕ (((List UInt8) × (List (List UInt8))))) (hF : z964 vn1 s = some r) : Awp prog 0 50 (cL (cL (cR (cL (cR (cR (cR (cR (cB f195))))))))) (Out 0 (kk z967) (SS (z965 vn1) (z966 vn1)) r) (z965 vn1 s) := by
  obtain ⟨vs, va, vi⟩ := s
  unfold z964 at hF
  refine awp_seq (sR 4 (cE hF (fun h7 hF => ?_) fun h7 hF => ?_))
  · refine tT h7 (awp_skip (awp_seq (awp_block (awp_seq (bE hF fun x h8 hF => ?_)))))
    obtain ⟨vr2, vr1_2⟩ := x
    refine awp_region (aR 1 (aC (z1007 h8) [] [] [] (aR 5 (aE ?_))))
    refine awp_seq (bE hF fun vs3 h9 hF => bE hF fun vy1 h10 hF => awp_region (aR 4 (aX (x_sliceS h9) (aX (x_idxO encS 0 h10) (aX (x_stE encS vs3 h10) (aE ?_))))))
    refine bE hF fun vs4 h11 hF => awp_region (aR 2 (aX (x_sliceS h11) (aR 1 (aE ?_))))
    exact gR 3 (oO hF [] [] rfl)
  · refine tF h7 (awp_exit ?_)
    exact oO hF [] [] rfl

def z971 (vn1 : Int) (vs5_1 : List UInt8) (va1_1 : List (List UInt8)) : (List (List UInt8)) → St
  | va2 => Mem.st ⟨[(0, ⟨9, 1, List.map encS va2⟩)], []⟩ (tl [(6, .c (.own 0 none))]) 1

def z970 (vn1 : Int) (vs5_1 : List UInt8) (va1_1 : List (List UInt8)) : St := Mem.st ⟨[(0, ⟨9, 1, List.map encS va1_1⟩)], []⟩ (tl [(0, .c (.s vs5_1)), (1, .i vn1), (6, .c (.own 0 none))]) 1

theorem z972 (vn1 : Int) (vs5_1 : List UInt8) (va1_1 : List (List UInt8)) {r} (hF : z969 vn1 vs5_1 va1_1 = some r) : Awp prog 0 50 (cL (cR (cR (cR (cR (cR (cB f195))))))) (Out 0 nrm (z971 vn1 vs5_1 va1_1) r) (z970 vn1 vs5_1 va1_1) := by
  unfold z969 at hF
  refine sR 2 (cE hF (fun h13 hF => ?_) fun h13 hF => ?_)
  · refine tT h13 (bE hF fun vy2 h14 hF => awp_region (aR 4 (aX (x_idxO encS 0 h14) (aX (x_stE encS vs5_1 h14) (aE ?_)))))
    exact oO hF [] [] rfl
  · exact tF h13 (awp_skip (oO hF [] [] rfl))

def z954 (qs : List UInt8) (qn : Int) (r : (List (List UInt8))) : TV × Mem := (.c (.own 0 none), ⟨[(0, ⟨9, 1, List.map encS r⟩)], []⟩)

theorem z955 {qs : List UInt8} {qn : Int} {r} (hF : z953 qs qn = some r) : Holds prog 195 [.c (.s qs), .i qn] ⟨[], []⟩ (Is (z954 qs qn r)) := by
  unfold z953 at hF
  refine hW f195 50 0 0 ?_
  refine sR 1 (awp_seq (bE hF fun vr h1 hF => awp_region (aR 1 (aC (z1014 h1) [] [] [] (aR 1 (aE ?_))))))
  refine awp_seq (awp_to (st' := z957 qs qn vr) (oT [] []) ?_)
  refine bE hF fun vn1 h5 hF => awp_sub (z959 qs qn vr h5) ?_
  refine awp_seq (gE hF fun h6 hF => ?_)
  refine awp_region (aR 1 (aX (x_mk encS ([] : List UInt8) h6) (aR 1 (aE ?_))))
  refine awp_seq (sR 1 (awp_block (awp_to (st' := z965 vn1 (qs, List.replicate vn1.toNat ([] : List UInt8), 0)) (oT [(0, 1000)] []) ?_)))
  refine bE hF fun x h12 hF => ?_
  obtain ⟨vs5_1, va1_1⟩ := x
  refine awp_sub (awp_loop' (z965 vn1) z967 (z966 vn1) (by intro x; exact fun h => nomatch h) h12 (z968 vn1)) ?_
  refine awp_seq (awp_to (st' := z970 vn1 vs5_1 va1_1) (oT [] []) ?_)
  refine bE hF fun va2_1 h15 hF => awp_sub (z972 vn1 vs5_1 va1_1 h15) ?_
  exact sR 2 (awp_ret (oF hF [] []))

/-! ### internal/stringslite.Index -/
def z1000 (qx : List UInt8) (qx1 : List UInt8) : Bool → St
  | vx => Mem.st ⟨[], []⟩ (tl [(0, .c (.s qx)), (1, .c (.s qx1)), (5, .i (qx1.length : Int)), (16, .b vx)]) 0

def z999 (qx : List UInt8) (qx1 : List UInt8) : St := Mem.st ⟨[], []⟩ (tl [(0, .c (.s qx)), (1, .c (.s qx1)), (5, .i (qx1.length : Int))]) 0

theorem z1001 (qx : List UInt8) (qx1 : List UInt8) {r} (hF : z998 qx qx1 = some r) : Awp prog 0 143 (cL (cL (cL (cR (cR (cB f217)))))) (Out 0 nrm (z1000 qx qx1) r) (z999 qx qx1) := by
  unfold z998 at hF
  refine cE hF (fun h1 hF => ?_) fun h1 hF => ?_
  · refine awp_region (aR 1 (aB h1 (aR 6 (aE ?_))))
    exact oO hF [] [] rfl
  · refine awp_region (aR 1 (aB h1 (aR 6 (aE ?_))))
    exact oO hF [] [] rfl

def z996 (qx : List UInt8) (qx1 : List UInt8) (r : Int) : TV × Mem := (.i r, ⟨[], []⟩)

theorem z997 {qx : List UInt8} {qx1 : List UInt8} {r} (hF : z992 qx qx1 = some r) : Holds prog 217 [.c (.s qx), .c (.s qx1)] ⟨[], []⟩ (Is (z996 qx qx1 r)) := by
  unfold z992 at hF
  refine hW f217 143 0 0 ?_
  refine sR 1 (sR 3 (awp_seq (awp_block (awp_seq (awp_to (st' := z999 qx qx1) (oT [] []) ?_)))))
  refine bE hF fun vx1 h2 hF => awp_sub (z1001 qx qx1 h2) ?_
  refine cE hF (fun h3 hF => ?_) fun h3 hF => ?_
  · exact tT h3 (sR 1 (awp_ret (oF hF [] [])))
  · refine tF h3 (sR 3 (cE hF (fun h4 hF => ?_) fun h4 hF => ?_))
    · refine tT h4 (awp_seq (bE hF fun vc h5 hF => bE hF fun _ h6 hF => awp_region (aR 2 (aX (x_idxS h5) (aC (z995 h6) [] [] [] (aR 1 (aE ?_)))))))
      exact awp_ret (oF hF [] [])
    · refine tF h4 (sR 5 (cE hF (fun h7 hF => ?_) fun h7 hF => ?_))
      · exact tT h7 (sR 1 (awp_ret (oF hF [] [])))
      · exact tF h7 (awp_seq (nE hF))

/-! ### strings.Index -/
def z945 (qs : List UInt8) (qsubstr : List UInt8) (r : Int) : TV × Mem := (.i r, ⟨[], []⟩)

theorem z946 {qs : List UInt8} {qsubstr : List UInt8} {r} (hF : z941 qs qsubstr = some r) : Holds prog 197 [.c (.s qs), .c (.s qsubstr)] ⟨[], []⟩ (Is (z945 qs qsubstr r)) := by
  unfold z941 at hF
  refine hW f197 8 0 0 ?_
  refine sR 1 (awp_seq (bE hF fun vr h1 hF => awp_region (aR 2 (aC (z997 h1) [] [] [] (aR 1 (aE ?_))))))
  exact awp_ret (oF hF [] [])

/-! ### strings.Count -/
def z939 : Int → AEx
  | _ => .ret

def z938 (qsubstr : List UInt8) : Int → St
  | vx => Mem.st ⟨[], []⟩ (tl [(4, .i vx)]) 0

def z937 (qsubstr : List UInt8) : (List UInt8) × Int → St
  | (vs, vn) => Mem.st ⟨[], []⟩ (tl [(0, .c (.s vs)), (1, .c (.s qsubstr)), (5, .i vn)]) 0

theorem z940 (qsubstr : List UInt8) (s : (List UInt8) × Int) (r : ((List UInt8) × Int) ⊕ (Int)) (hF : z936 qsubstr s = some r) : Awp prog 0 34 (cL (cL (cR (cR (cR (cR (cB f196))))))) (Out 0 (kk z939) (SS (z937 qsubstr) (z938 qsubstr)) r) (z937 qsubstr s) := by
  obtain ⟨vs, vn⟩ := s
  unfold z936 at hF
  refine awp_block (awp_seq (bE hF fun vr1_1 h5 hF => awp_region (aR 2 (aC (z946 h5) [] [] [] (aR 1 (aE ?_))))))
  refine awp_seq (sR 2 (cE hF (fun h6 hF => ?_) fun h6 hF => ?_))
  · exact tT h6 (sR 2 (awp_ret (oO hF [] [] rfl)))
  · refine tF h6 (awp_skip (sR 3 (bE hF fun vs2 h7 hF => awp_region (aR 5 (aX (x_sliceS h7) (aR 1 (aE ?_)))))))
    exact oO hF [] [] rfl

def z934 (qs : List UInt8) (qsubstr : List UInt8) (r : Int) : TV × Mem := (.i r, ⟨[], []⟩)

theorem z935 {qs : List UInt8} {qsubstr : List UInt8} {r} (hF : z933 qs qsubstr = some r) : Holds prog 196 [.c (.s qs), .c (.s qsubstr)] ⟨[], []⟩ (Is (z934 qs qsubstr r)) := by
  unfold z933 at hF
  refine hW f196 34 0 0 ?_
  refine sR 1 (awp_seq (sR 3 (cE hF (fun h1 hF => ?_) fun h1 hF => ?_)))
  · refine tT h1 (awp_seq (bE hF fun vr h2 hF => awp_region (aR 1 (aC (z1014 h2) [] [] [] (aR 2 (aE ?_))))))
    exact awp_ret (oF hF [] [])
  · refine tF h1 (awp_skip (awp_seq (sR 3 (cE hF (fun h3 hF => ?_) fun h3 hF => ?_))))
    · refine tT h3 (awp_seq (bE hF fun vc h4 hF => awp_region (aR 2 (aX (x_idxS h4) (aS (does_count (g := 216) (fn := f216) (a := qs) (c := (vc.toNat : Int)) rfl (by kernel_rfl) (by kernel_rfl) (by kernel_rfl) (by kernel_rfl) (by kernel_rfl) (by kernel_rfl)) ?_)))))
      refine aR 1 (aE ?_)
      exact awp_ret (oF hF [] [])
    · refine tF h3 (awp_skip (sR 1 (awp_block (awp_to (st' := z937 qsubstr (qs, 0)) (oT [] []) ?_))))
      refine bE hF fun vx1 h8 hF => awp_sub (awp_loop' (z937 qsubstr) z939 (z938 qsubstr) (by intro x; exact fun h => nomatch h) h8 (z940 qsubstr)) ?_
      exact oF hF [] []

/-! ### strings.genSplit -/
def z978 (qx : List UInt8) (qx1 : List UInt8) (qx2 : Int) (qx3 : Int) : Int → St
  | vx => Mem.st ⟨[], []⟩ (tl [(0, .c (.s qx)), (1, .c (.s qx1)), (2, .i qx2), (3, .i vx)]) 0

def z977 (qx : List UInt8) (qx1 : List UInt8) (qx2 : Int) (qx3 : Int) : St := Mem.st ⟨[], []⟩ (tl [(0, .c (.s qx)), (1, .c (.s qx1)), (2, .i qx2), (3, .i qx3)]) 0

theorem z979 (qx : List UInt8) (qx1 : List UInt8) (qx2 : Int) (qx3 : Int) {r} (hF : z976 qx qx1 qx3 = some r) : Awp prog 0 66 (cL (cR (cR (cR (cB f157))))) (Out 0 nrm (z978 qx qx1 qx2 qx3) r) (z977 qx qx1 qx2 qx3) := by
  unfold z976 at hF
  refine sR 2 (cE hF (fun h4 hF => ?_) fun h4 hF => ?_)
  · refine tT h4 (bE hF fun vr2 h5 hF => awp_region (aR 2 (aC (z935 h5) [] [] [] (aR 2 (aE ?_)))))
    exact oO hF [] [] rfl
  · exact tF h4 (awp_skip (oO hF [] [] rfl))

def z983 : ((List UInt8) × (List (List UInt8)) × Int) → AEx
  | _ => .exit 0

def z982 (qx : List UInt8) (qx1 : List UInt8) (qx2 : Int) (vx1 : Int) : ((List UInt8) × (List (List UInt8)) × Int) → St
  | (vx5, vx6, vx7) => Mem.st ⟨[(0, ⟨9, 1, List.map encS vx6⟩)], []⟩ (tl [(0, .c (.s vx5)), (9, .c (.own 0 none)), (10, .i vx7)]) 1

def z981 (qx : List UInt8) (qx1 : List UInt8) (qx2 : Int) (vx1 : Int) : (List UInt8) × (List (List UInt8)) × Int → St
  | (vx2, vx3, vx4) => Mem.st ⟨[(0, ⟨9, 1, List.map encS vx3⟩)], []⟩ (tl [(0, .c (.s vx2)), (1, .c (.s qx1)), (2, .i qx2), (3, .i (IntKind.wrap .i64 ((imin vx1 (IntKind.wrap .i64 ((qx.length : Int) + 1))) - 1))), (9, .c (.own 0 none)), (10, .i vx4)]) 1

theorem z984 (qx : List UInt8) (qx1 : List UInt8) (qx2 : Int) (vx1 : Int) (s : (List UInt8) × (List (List UInt8)) × Int) (r : ((List UInt8) × (List (List UInt8)) × Int) ⊕ (((List UInt8) × (List (List UInt8)) × Int))) (hF : z980 qx qx1 qx2 vx1 s = some r) : Awp prog 0 66 (cL (cL (cL (cR (cR (cR (cR (cR (cR (cR (cR (cB f157)))))))))))) (Out 0 (kk z983) (SS (z981 qx qx1 qx2 vx1) (z982 qx qx1 qx2 vx1)) r) (z981 qx qx1 qx2 vx1 s) := by
  obtain ⟨vx2, vx3, vx4⟩ := s
  unfold z980 at hF
  refine awp_seq (sR 3 (cE hF (fun h8 hF => ?_) fun h8 hF => ?_))
  · refine tT h8 (awp_skip (awp_block (awp_seq (bE hF fun vr1_1 h9 hF => awp_region (aR 2 (aC (z946 h9) [] [] [] (aR 1 (aE ?_))))))))
    refine awp_seq (sR 2 (cE hF (fun h10 hF => ?_) fun h10 hF => ?_))
    · refine tT h10 (awp_exit ?_)
      exact oO hF [] [] rfl
    · refine tF h10 (awp_skip (awp_seq (bE hF fun vs2 h11 hF => bE hF fun vy1 h12 hF => awp_region (aR 6 (aX (x_sliceS h11) (aX (x_idxO encS 0 h12) (aX (x_stE encS vs2 h12) (aE ?_))))))))
      refine awp_seq (bE hF fun vs3 h13 hF => awp_region (aR 5 (aX (x_sliceS h13) (aR 1 (aE ?_)))))
      exact gR 3 (oO hF [] [] rfl)
  · refine tF h8 (awp_exit ?_)
    exact oO hF [] [] rfl

def z974 (qx : List UInt8) (qx1 : List UInt8) (qx2 : Int) (qx3 : Int) (r : (List (List UInt8))) : TV × Mem := (.c (.own 0 none), ⟨[(0, ⟨9, 1, List.map encS r⟩)], []⟩)

theorem z975 {qx : List UInt8} {qx1 : List UInt8} {qx2 : Int} {qx3 : Int} {r} (hF : z973 qx qx1 qx2 qx3 = some r) : Holds prog 157 [.c (.s qx), .c (.s qx1), .i qx2, .i qx3] ⟨[], []⟩ (Is (z974 qx qx1 qx2 qx3 r)) := by
  unfold z973 at hF
  refine hW f157 66 0 0 ?_
  refine sR 1 (awp_seq (sR 2 (cE hF (fun h1 hF => ?_) fun h1 hF => ?_)))
  · exact tT h1 (sR 1 (awp_ret (oF hF [] [0])))
  · refine tF h1 (awp_skip (awp_seq (sR 2 (cE hF (fun h2 hF => ?_) fun h2 hF => ?_))))
    · refine tT h2 (awp_seq (bE hF fun vr3 h3 hF => awp_region (aR 2 (aC (z955 h3) [] [] [] (aR 1 (aE ?_))))))
      exact awp_ret (oF hF [(0, 7000)] [])
    · refine tF h2 (awp_skip (awp_seq (awp_to (st' := z977 qx qx1 qx2 qx3) (oT [] []) ?_)))
      refine bE hF fun vx1 h6 hF => awp_sub (z979 qx qx1 qx2 qx3 h6) ?_
      refine sR 6 (awp_seq (gE hF fun h7 hF => ?_))
      refine awp_region (aR 1 (aX (x_mk encS ([] : List UInt8) h7) (aR 1 (aE ?_))))
      refine sR 3 (sR 1 (awp_seq (awp_block (awp_to (st' := z981 qx qx1 qx2 vx1 (qx, List.replicate (imin vx1 (IntKind.wrap .i64 ((qx.length : Int) + 1))).toNat ([] : List UInt8), 0)) (oT [(0, 7000)] []) ?_))))
      refine bE hF fun x h14 hF => ?_
      obtain ⟨vx5_1, vx6_1, vx7_1⟩ := x
      refine awp_sub (awp_loop' (z981 qx qx1 qx2 vx1) z983 (z982 qx qx1 qx2 vx1) (by intro x; exact fun h => nomatch h) h14 (z984 qx qx1 qx2 vx1)) ?_
      refine awp_seq (bE hF fun vy2 h15 hF => awp_region (aR 3 (aX (x_idxO encS 0 h15) (aX (x_stE encS vx5_1 h15) (aE ?_)))))
      refine awp_seq (gE hF fun h16 hF => ?_)
      refine awp_region (aR 3 (aT encS 0 h16 rfl ?_))
      refine aR 1 (aE ?_)
      exact awp_ret (oF hF [(0, 8001)] [])

/-! ### strings.Split -/
def z948 (qs : List UInt8) (qsep : List UInt8) (r : (List (List UInt8))) : TV × Mem := (.c (.own 0 none), ⟨[(0, ⟨9, 1, List.map encS r⟩)], []⟩)

theorem z949 {qs : List UInt8} {qsep : List UInt8} {r} (hF : z947 qs qsep = some r) : Holds prog 127 [.c (.s qs), .c (.s qsep)] ⟨[], []⟩ (Is (z948 qs qsep r)) := by
  unfold z947 at hF
  refine hW f127 8 0 0 ?_
  refine sR 1 (awp_seq (bE hF fun vr h1 hF => awp_region (aR 2 (aC (z975 h1) [] [] [] (aR 1 (aE ?_))))))
  exact awp_ret (oF hF [(0, 3000)] [])

/-! ### internal/stringslite.HasPrefix -/
def z990 (qs : List UInt8) (qprefix : List UInt8) : Bool → St
  | vx => Mem.st ⟨[], []⟩ (tl [(4, .b vx)]) 0

def z989 (qs : List UInt8) (qprefix : List UInt8) : St := Mem.st ⟨[], []⟩ (tl [(0, .c (.s qs)), (1, .c (.s qprefix))]) 0

theorem z991 (qs : List UInt8) (qprefix : List UInt8) {r} (hF : z988 qs qprefix = some r) : Awp prog 0 18 (cL (cR (cB f221))) (Out 0 nrm (z990 qs qprefix) r) (z989 qs qprefix) := by
  unfold z988 at hF
  refine cE hF (fun h1 hF => ?_) fun h1 hF => ?_
  · refine bE hF fun vs h2 hF => awp_region (aR 4 (aB h1 (aR 4 (aX (x_sliceS h2) (aR 4 (aE ?_))))))
    exact oO hF [] [] rfl
  · refine awp_region (aR 4 (aB h1 (aR 9 (aE ?_))))
    exact oO hF [] [] rfl

def z986 (qs : List UInt8) (qprefix : List UInt8) (r : Bool) : TV × Mem := (.b r, ⟨[], []⟩)

theorem z987 {qs : List UInt8} {qprefix : List UInt8} {r} (hF : z985 qs qprefix = some r) : Holds prog 221 [.c (.s qs), .c (.s qprefix)] ⟨[], []⟩ (Is (z986 qs qprefix r)) := by
  unfold z985 at hF
  refine hW f221 18 0 0 ?_
  refine sR 1 (awp_seq (awp_to (st' := z989 qs qprefix) (oT [] []) ?_))
  refine bE hF fun vx1 h3 hF => awp_sub (z991 qs qprefix h3) ?_
  exact awp_ret (oF hF [] [])

/-! ### internal/stringslite.TrimPrefix -/
def z1003 (qs : List UInt8) (qprefix : List UInt8) (r : (List UInt8)) : TV × Mem := (.c (.s r), ⟨[], []⟩)

theorem z1004 {qs : List UInt8} {qprefix : List UInt8} {r} (hF : z1002 qs qprefix = some r) : Holds prog 211 [.c (.s qs), .c (.s qprefix)] ⟨[], []⟩ (Is (z1003 qs qprefix r)) := by
  unfold z1002 at hF
  refine hW f211 13 0 0 ?_
  refine sR 1 (awp_seq (awp_seq (bE hF fun vr h1 hF => awp_region (aR 2 (aC (z987 h1) [] [] [] (aE ?_))))))
  refine cE hF (fun h2 hF => ?_) fun h2 hF => ?_
  · refine tT h2 (awp_seq (bE hF fun vs h3 hF => awp_region (aR 3 (aX (x_sliceS h3) (aR 1 (aE ?_))))))
    exact awp_ret (oF hF [] [])
  · exact tF h2 (awp_skip (sR 2 (awp_ret (oF hF [] []))))

/-! ### strings.TrimPrefix -/
def z951 (qs : List UInt8) (qprefix : List UInt8) (r : (List UInt8)) : TV × Mem := (.c (.s r), ⟨[], []⟩)

theorem z952 {qs : List UInt8} {qprefix : List UInt8} {r} (hF : z950 qs qprefix = some r) : Holds prog 193 [.c (.s qs), .c (.s qprefix)] ⟨[], []⟩ (Is (z951 qs qprefix r)) := by
  unfold z950 at hF
  refine hW f193 8 0 0 ?_
  refine sR 1 (awp_seq (bE hF fun vr1 h1 hF => awp_region (aR 2 (aC (z1004 h1) [] [] [] (aR 1 (aE ?_))))))
  exact awp_ret (oF hF [] [])

/-! ### internal/strconv.lower -/
def z895 (qc : Int) (r : Unit) : TV × Mem := (.c (.d (.int .u8 (ibits .or .u8 qc 32))), ⟨[], []⟩)

theorem z896 {qc : Int} {r} (hF : z894 qc = some r) : Holds prog 236 [.c (.d (.int .u8 qc))] ⟨[], []⟩ (Is (z895 qc r)) := by
  unfold z894 at hF
  refine hW f236 5 0 0 ?_
  exact sR 1 (sR 3 (awp_ret (oF hF [] [])))

end Go.Eng
