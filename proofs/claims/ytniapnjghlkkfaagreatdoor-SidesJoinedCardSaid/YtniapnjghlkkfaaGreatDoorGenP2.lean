/-
The code of the Go functions that the law SidesJoined reaches does what the plain functions say, part 2.
-/
import Derived.Test.YtniapnjghlkkfaaGreatDoorGenP1

namespace Go.Eng

open Go Go.Proofs.Tryz

set_option linter.unusedVariables false

set_option maxRecDepth 20000

set_option maxHeartbeats 0

/-! ### slices.pdqsortOrdered[string] -/
def slices_pdqsortOrdered_string_o0_R (qx : List (List UInt8)) (qx1 : Int) (qx2 : Int) (qx3 : Int) (r : (List (List UInt8))) : TV × Mem := (.tup [], ⟨[(0, ⟨9, 1, List.map encS r⟩)], []⟩)

def slices_pdqsortOrdered_string_o0_x2_S (vl : List (List UInt8)) (vx : Int) (vx1 : Int) (vx2 : Int) (vx3 : Bool) (vx4 : Bool) : ((List (List UInt8)) × Int) → St
  | (vl7, vx10) => Mem.st ⟨[(0, ⟨9, 1, List.map encS vl7⟩)], []⟩ (tl [(0, .c (.own 0 none)), (1, .i vx), (2, .i vx1), (3, .i vx10), (8, .b vx3), (9, .b vx4), (10, .i (IntKind.wrap .i64 (vx1 - vx)))]) 1

def slices_pdqsortOrdered_string_o0_x2_I (vl : List (List UInt8)) (vx : Int) (vx1 : Int) (vx2 : Int) (vx3 : Bool) (vx4 : Bool) : St := Mem.st ⟨[(0, ⟨9, 1, List.map encS vl⟩)], []⟩ (tl [(0, .c (.own 0 none)), (1, .i vx), (2, .i vx1), (3, .i vx2), (8, .b vx3), (9, .b vx4), (10, .i (IntKind.wrap .i64 (vx1 - vx)))]) 1

theorem slices_pdqsortOrdered_string_o0_x2_ok {recF : (List (List UInt8)) → Int → Int → Int → Option ((List (List UInt8)))} (ih : ∀ {qx : List (List UInt8)} {qx1 : Int} {qx2 : Int} {qx3 : Int} {r}, recF qx qx1 qx2 qx3 = some r → Holds prog 133 [.c (.own 0 none), .i qx1, .i qx2, .i qx3] ⟨[(0, ⟨9, 1, List.map encS qx⟩)], []⟩ (Is (slices_pdqsortOrdered_string_o0_R qx qx1 qx2 qx3 r))) (vl : List (List UInt8)) (vx : Int) (vx1 : Int) (vx2 : Int) (vx3 : Bool) (vx4 : Bool) {r} (hF : slices_pdqsortOrdered_string_o0_x2 recF vl vx vx1 vx2 vx3 = some r) : Awp prog 1 134 (cL (cR (cR (cR (cL (cL (cL (cR (cR (cB f133)))))))))) (Out 1 nrm (slices_pdqsortOrdered_string_o0_x2_S vl vx vx1 vx2 vx3 vx4) r) (slices_pdqsortOrdered_string_o0_x2_I vl vx vx1 vx2 vx3 vx4) := by
  unfold slices_pdqsortOrdered_string_o0_x2 at hF
  refine sR 2 (cE hF (fun h6 hF => ?_) fun h6 hF => ?_)
  · refine tT h6 (awp_seq (bE hF fun vl2_4 h7 hF => gE hF fun h8 hF => ?_))
    refine awp_region (aR 3 (aCp (slices_breakPatternsOrdered_string_o0_ok h7) ⟨⟨rfl, rfl, pin1 h8⟩, trivial⟩ [] [] [] ?_))
    refine aE ?_
    exact gR 3 (oO hF [] [] rfl)
  · exact tF h6 (awp_skip (oO hF [] [] rfl))

def slices_pdqsortOrdered_string_o0_x3_S (vx : Int) (vx1 : Int) (vx3 : Bool) (vx4 : Bool) (vl7_1 : List (List UInt8)) (vx10_1 : Int) (vr2_1 : Int) (vr3_1 : Int) : ((List (List UInt8)) × Int × Int) → St
  | (vl8, vx11, vx12) => Mem.st ⟨[(0, ⟨9, 1, List.map encS vl8⟩)], []⟩ (tl [(0, .c (.own 0 none)), (1, .i vx), (2, .i vx1), (3, .i vx10_1), (8, .b vx3), (9, .b vx4), (10, .i (IntKind.wrap .i64 (vx1 - vx))), (11, .i vx11), (12, .i vx12)]) 1

def slices_pdqsortOrdered_string_o0_x3_I (vx : Int) (vx1 : Int) (vx3 : Bool) (vx4 : Bool) (vl7_1 : List (List UInt8)) (vx10_1 : Int) (vr2_1 : Int) (vr3_1 : Int) : St := Mem.st ⟨[(0, ⟨9, 1, List.map encS vl7_1⟩)], []⟩ (tl [(0, .c (.own 0 none)), (1, .i vx), (2, .i vx1), (3, .i vx10_1), (8, .b vx3), (9, .b vx4), (10, .i (IntKind.wrap .i64 (vx1 - vx))), (11, .i vr2_1), (12, .i vr3_1)]) 1

theorem slices_pdqsortOrdered_string_o0_x3_ok {recF : (List (List UInt8)) → Int → Int → Int → Option ((List (List UInt8)))} (ih : ∀ {qx : List (List UInt8)} {qx1 : Int} {qx2 : Int} {qx3 : Int} {r}, recF qx qx1 qx2 qx3 = some r → Holds prog 133 [.c (.own 0 none), .i qx1, .i qx2, .i qx3] ⟨[(0, ⟨9, 1, List.map encS qx⟩)], []⟩ (Is (slices_pdqsortOrdered_string_o0_R qx qx1 qx2 qx3 r))) (vx : Int) (vx1 : Int) (vx3 : Bool) (vx4 : Bool) (vl7_1 : List (List UInt8)) (vx10_1 : Int) (vr2_1 : Int) (vr3_1 : Int) {r} (hF : slices_pdqsortOrdered_string_o0_x3 recF vx vx1 vl7_1 vr2_1 vr3_1 = some r) : Awp prog 1 134 (cL (cR (cR (cR (cR (cR (cL (cL (cL (cR (cR (cB f133)))))))))))) (Out 1 nrm (slices_pdqsortOrdered_string_o0_x3_S vx vx1 vx3 vx4 vl7_1 vx10_1 vr2_1 vr3_1) r) (slices_pdqsortOrdered_string_o0_x3_I vx vx1 vx3 vx4 vl7_1 vx10_1 vr2_1 vr3_1) := by
  unfold slices_pdqsortOrdered_string_o0_x3 at hF
  refine sR 2 (cE hF (fun h11 hF => ?_) fun h11 hF => ?_)
  · refine tT h11 (awp_seq (bE hF fun vl2_5 h12 hF => gE hF fun h13 hF => ?_))
    refine awp_region (aR 3 (aCp (slices_reverseRangeOrdered_string_o0_ok h12) ⟨⟨rfl, rfl, pin1 h13⟩, trivial⟩ [] [] [] ?_))
    refine aE ?_
    exact sR 7 (gR 1 (oO hF [] [] rfl))
  · exact tF h11 (awp_skip (oO hF [] [] rfl))

def slices_pdqsortOrdered_string_o0_x5_S (vx : Int) (vx1 : Int) (vx3 : Bool) (vx4 : Bool) (vx10_1 : Int) (vl8_1 : List (List UInt8)) (vx11_1 : Int) (vx12_1 : Int) : Bool → St
  | vx13 => Mem.st ⟨[(0, ⟨9, 1, List.map encS vl8_1⟩)], []⟩ (tl [(0, .c (.own 0 none)), (1, .i vx), (2, .i vx1), (3, .i vx10_1), (8, .b vx3), (9, .b vx4), (10, .i (IntKind.wrap .i64 (vx1 - vx))), (11, .i vx11_1), (68, .b vx13)]) 1

def slices_pdqsortOrdered_string_o0_x5_I (vx : Int) (vx1 : Int) (vx3 : Bool) (vx4 : Bool) (vx10_1 : Int) (vl8_1 : List (List UInt8)) (vx11_1 : Int) (vx12_1 : Int) : St := Mem.st ⟨[(0, ⟨9, 1, List.map encS vl8_1⟩)], []⟩ (tl [(0, .c (.own 0 none)), (1, .i vx), (2, .i vx1), (3, .i vx10_1), (8, .b vx3), (9, .b vx4), (10, .i (IntKind.wrap .i64 (vx1 - vx))), (11, .i vx11_1), (12, .i vx12_1)]) 1

theorem slices_pdqsortOrdered_string_o0_x5_ok {recF : (List (List UInt8)) → Int → Int → Int → Option ((List (List UInt8)))} (ih : ∀ {qx : List (List UInt8)} {qx1 : Int} {qx2 : Int} {qx3 : Int} {r}, recF qx qx1 qx2 qx3 = some r → Holds prog 133 [.c (.own 0 none), .i qx1, .i qx2, .i qx3] ⟨[(0, ⟨9, 1, List.map encS qx⟩)], []⟩ (Is (slices_pdqsortOrdered_string_o0_R qx qx1 qx2 qx3 r))) (vx : Int) (vx1 : Int) (vx3 : Bool) (vx4 : Bool) (vx10_1 : Int) (vl8_1 : List (List UInt8)) (vx11_1 : Int) (vx12_1 : Int) {r} (hF : slices_pdqsortOrdered_string_o0_x5 recF vx3 vx4 vx12_1 = some r) : Awp prog 1 134 (cL (cL (cR (cR (cR (cR (cR (cR (cL (cL (cL (cR (cR (cB f133)))))))))))))) (Out 1 nrm (slices_pdqsortOrdered_string_o0_x5_S vx vx1 vx3 vx4 vx10_1 vl8_1 vx11_1 vx12_1) r) (slices_pdqsortOrdered_string_o0_x5_I vx vx1 vx3 vx4 vx10_1 vl8_1 vx11_1 vx12_1) := by
  unfold slices_pdqsortOrdered_string_o0_x5 at hF
  refine cE hF (fun h15 hF => ?_) fun h15 hF => ?_
  · refine cE hF (fun h16 hF => ?_) fun h16 hF => ?_
    · refine awp_region (aB h15 (aR 1 (aB h16 (aR 5 (aE ?_)))))
      exact oO hF [] [] rfl
    · refine awp_region (aB h15 (aR 1 (aB h16 (aR 5 (aE ?_)))))
      exact oO hF [] [] rfl
  · refine awp_region (aB h15 (aR 7 (aE ?_)))
    exact oO hF [] [] rfl

def slices_pdqsortOrdered_string_o0_x4_k : (List (List UInt8)) ⊕ (List (List UInt8)) → AEx
  | .inl _ => .normal
  | .inr _ => .ret

def slices_pdqsortOrdered_string_o0_x4_S (vx : Int) (vx1 : Int) (vx3 : Bool) (vx4 : Bool) (vx10_1 : Int) (vl8_1 : List (List UInt8)) (vx11_1 : Int) (vx12_1 : Int) : (List (List UInt8)) ⊕ (List (List UInt8)) → St
  | .inl vl9 => Mem.st ⟨[(0, ⟨9, 1, List.map encS vl9⟩)], []⟩ (tl [(0, .c (.own 0 none)), (1, .i vx), (2, .i vx1), (3, .i vx10_1), (8, .b vx3), (9, .b vx4), (10, .i (IntKind.wrap .i64 (vx1 - vx))), (11, .i vx11_1)]) 1
  | .inr vl11 => Mem.st ⟨[(0, ⟨9, 1, List.map encS vl11⟩)], []⟩ (tl []) 1

def slices_pdqsortOrdered_string_o0_x4_I (vx : Int) (vx1 : Int) (vx3 : Bool) (vx4 : Bool) (vx10_1 : Int) (vl8_1 : List (List UInt8)) (vx11_1 : Int) (vx12_1 : Int) : St := Mem.st ⟨[(0, ⟨9, 1, List.map encS vl8_1⟩)], []⟩ (tl [(0, .c (.own 0 none)), (1, .i vx), (2, .i vx1), (3, .i vx10_1), (8, .b vx3), (9, .b vx4), (10, .i (IntKind.wrap .i64 (vx1 - vx))), (11, .i vx11_1), (12, .i vx12_1)]) 1

theorem slices_pdqsortOrdered_string_o0_x4_ok {recF : (List (List UInt8)) → Int → Int → Int → Option ((List (List UInt8)))} (ih : ∀ {qx : List (List UInt8)} {qx1 : Int} {qx2 : Int} {qx3 : Int} {r}, recF qx qx1 qx2 qx3 = some r → Holds prog 133 [.c (.own 0 none), .i qx1, .i qx2, .i qx3] ⟨[(0, ⟨9, 1, List.map encS qx⟩)], []⟩ (Is (slices_pdqsortOrdered_string_o0_R qx qx1 qx2 qx3 r))) (vx : Int) (vx1 : Int) (vx3 : Bool) (vx4 : Bool) (vx10_1 : Int) (vl8_1 : List (List UInt8)) (vx11_1 : Int) (vx12_1 : Int) {r} (hF : slices_pdqsortOrdered_string_o0_x4 recF vx vx1 vx3 vx4 vl8_1 vx12_1 = some r) : Awp prog 1 134 (cL (cR (cR (cR (cR (cR (cR (cL (cL (cL (cR (cR (cB f133))))))))))))) (Out 1 slices_pdqsortOrdered_string_o0_x4_k (slices_pdqsortOrdered_string_o0_x4_S vx vx1 vx3 vx4 vx10_1 vl8_1 vx11_1 vx12_1) r) (slices_pdqsortOrdered_string_o0_x4_I vx vx1 vx3 vx4 vx10_1 vl8_1 vx11_1 vx12_1) := by
  unfold slices_pdqsortOrdered_string_o0_x4 at hF
  refine awp_seq (awp_to (st' := slices_pdqsortOrdered_string_o0_x5_I vx vx1 vx3 vx4 vx10_1 vl8_1 vx11_1 vx12_1) (oT [] []) ?_)
  refine bE hF fun vx13_1 h17 hF => awp_sub (slices_pdqsortOrdered_string_o0_x5_ok @ih vx vx1 vx3 vx4 vx10_1 vl8_1 vx11_1 vx12_1 h17) ?_
  refine cE hF (fun h18 hF => ?_) fun h18 hF => ?_
  · refine tT h18 (awp_seq (bE hF fun x h19 hF => ?_))
    obtain ⟨vl15_1, vr12_2⟩ := x
    refine gE hF fun h20 hF => ?_
    refine awp_region (aR 3 (aCp (slices_partialInsertionSortOrdered_string_o0_ok h19) ⟨⟨rfl, rfl, pin1 h20⟩, trivial⟩ [] [] [] ?_))
    refine aE ?_
    refine cE hF (fun h21 hF => ?_) fun h21 hF => ?_
    · exact tT h21 (awp_ret (oO hF [] [] rfl))
    · exact tF h21 (awp_skip (oO hF [] [] rfl))
  · exact tF h18 (awp_skip (oO hF [] [] rfl))

def slices_pdqsortOrdered_string_o0_x6_S (vx : Int) (vx1 : Int) (vx3 : Bool) (vx4 : Bool) (vx10_1 : Int) (vx11_1 : Int) (vl9_1 : List (List UInt8)) : Bool → St
  | vx14 => Mem.st ⟨[(0, ⟨9, 1, List.map encS vl9_1⟩)], []⟩ (tl [(0, .c (.own 0 none)), (1, .i vx), (2, .i vx1), (3, .i vx10_1), (8, .b vx3), (9, .b vx4), (10, .i (IntKind.wrap .i64 (vx1 - vx))), (11, .i vx11_1), (87, .b vx14)]) 1

def slices_pdqsortOrdered_string_o0_x6_I (vx : Int) (vx1 : Int) (vx3 : Bool) (vx4 : Bool) (vx10_1 : Int) (vx11_1 : Int) (vl9_1 : List (List UInt8)) : St := Mem.st ⟨[(0, ⟨9, 1, List.map encS vl9_1⟩)], []⟩ (tl [(0, .c (.own 0 none)), (1, .i vx), (2, .i vx1), (3, .i vx10_1), (8, .b vx3), (9, .b vx4), (10, .i (IntKind.wrap .i64 (vx1 - vx))), (11, .i vx11_1)]) 1

theorem slices_pdqsortOrdered_string_o0_x6_ok {recF : (List (List UInt8)) → Int → Int → Int → Option ((List (List UInt8)))} (ih : ∀ {qx : List (List UInt8)} {qx1 : Int} {qx2 : Int} {qx3 : Int} {r}, recF qx qx1 qx2 qx3 = some r → Holds prog 133 [.c (.own 0 none), .i qx1, .i qx2, .i qx3] ⟨[(0, ⟨9, 1, List.map encS qx⟩)], []⟩ (Is (slices_pdqsortOrdered_string_o0_R qx qx1 qx2 qx3 r))) (vx : Int) (vx1 : Int) (vx3 : Bool) (vx4 : Bool) (vx10_1 : Int) (vx11_1 : Int) (vl9_1 : List (List UInt8)) {r} (hF : slices_pdqsortOrdered_string_o0_x6 recF vx vx11_1 vl9_1 = some r) : Awp prog 1 134 (cL (cL (cR (cR (cR (cR (cR (cR (cR (cL (cL (cL (cR (cR (cB f133))))))))))))))) (Out 1 nrm (slices_pdqsortOrdered_string_o0_x6_S vx vx1 vx3 vx4 vx10_1 vx11_1 vl9_1) r) (slices_pdqsortOrdered_string_o0_x6_I vx vx1 vx3 vx4 vx10_1 vx11_1 vl9_1) := by
  unfold slices_pdqsortOrdered_string_o0_x6 at hF
  refine cE hF (fun h23 hF => ?_) fun h23 hF => ?_
  · refine bE hF fun vy2 h24 hF => bE hF fun vy3 h25 hF => bE hF fun vr1 h26 hF => aD ?_
    refine dR 1 ?_
    refine dB h23 ?_
    refine dR 4 ?_
    refine dX (x_idxO encS 0 h24) ?_
    refine dX (x_ldE encS h24) ?_
    refine dR 2 ?_
    refine dX (x_idxO encS 0 h25) ?_
    refine dX (x_ldE encS h25) ?_
    refine dC (cmp_Less_string_ok h26) [] [] [] ?_
    refine dR 2 ?_
    refine dE ?_
    exact oO hF [] [] rfl
  · refine aD ?_
    refine dR 1 ?_
    refine dB h23 ?_
    refine dR 13 ?_
    refine dE ?_
    exact oO hF [] [] rfl

def slices_pdqsortOrdered_string_o0_x1_k : (List (List UInt8)) → AEx
  | _ => .ret

def slices_pdqsortOrdered_string_o0_x1_S : (List (List UInt8)) → St
  | vl12 => Mem.st ⟨[(0, ⟨9, 1, List.map encS vl12⟩)], []⟩ (tl []) 1

def slices_pdqsortOrdered_string_o0_x1_H : (List (List UInt8)) × Int × Int × Int × Bool × Bool → St
  | (vl, vx, vx1, vx2, vx3, vx4) => Mem.st ⟨[(0, ⟨9, 1, List.map encS vl⟩)], []⟩ (tl [(0, .c (.own 0 none)), (1, .i vx), (2, .i vx1), (3, .i vx2), (8, .b vx3), (9, .b vx4)]) 1

theorem slices_pdqsortOrdered_string_o0_x1_ok {recF : (List (List UInt8)) → Int → Int → Int → Option ((List (List UInt8)))} (ih : ∀ {qx : List (List UInt8)} {qx1 : Int} {qx2 : Int} {qx3 : Int} {r}, recF qx qx1 qx2 qx3 = some r → Holds prog 133 [.c (.own 0 none), .i qx1, .i qx2, .i qx3] ⟨[(0, ⟨9, 1, List.map encS qx⟩)], []⟩ (Is (slices_pdqsortOrdered_string_o0_R qx qx1 qx2 qx3 r))) (s : (List (List UInt8)) × Int × Int × Int × Bool × Bool) (r : ((List (List UInt8)) × Int × Int × Int × Bool × Bool) ⊕ ((List (List UInt8)))) (hF : slices_pdqsortOrdered_string_o0_x1 recF  s = some r) : Awp prog 1 134 (cL (cL (cR (cR (cB f133))))) (Out 1 (kk slices_pdqsortOrdered_string_o0_x1_k) (SS (slices_pdqsortOrdered_string_o0_x1_H ) (slices_pdqsortOrdered_string_o0_x1_S )) r) (slices_pdqsortOrdered_string_o0_x1_H  s) := by
  obtain ⟨vl, vx, vx1, vx2, vx3, vx4⟩ := s
  unfold slices_pdqsortOrdered_string_o0_x1 at hF
  refine awp_block (sR 4 (awp_seq (sR 2 (cE hF (fun h1 hF => ?_) fun h1 hF => ?_))))
  · refine tT h1 (awp_seq (bE hF fun vl6_1 h2 hF => gE hF fun h3 hF => ?_))
    refine awp_region (aR 3 (aCp (slices_insertionSortOrdered_string_o0_ok h2) ⟨⟨rfl, rfl, pin1 h3⟩, trivial⟩ [] [] [] ?_))
    refine aE ?_
    exact awp_ret (oO hF [] [] rfl)
  · refine tF h1 (awp_skip (awp_seq (sR 2 (cE hF (fun h4 hF => ?_) fun h4 hF => ?_))))
    · exact tT h4 (awp_seq (nE hF))
    · refine tF h4 (awp_skip (awp_seq (awp_to (st' := slices_pdqsortOrdered_string_o0_x2_I vl vx vx1 vx2 vx3 vx4) (oT [] []) ?_)))
      refine bE hF fun x h9 hF => ?_
      obtain ⟨vl7_1, vx10_1⟩ := x
      refine awp_sub (slices_pdqsortOrdered_string_o0_x2_ok @ih vl vx vx1 vx2 vx3 vx4 h9) ?_
      refine awp_seq (bE hF fun x h10 hF => ?_)
      obtain ⟨vr2_1, vr3_1⟩ := x
      refine awp_region (aR 3 (aC (slices_choosePivotOrdered_string_ok h10) [] [] [0] (aR 5 (aE ?_))))
      refine awp_seq (awp_to (st' := slices_pdqsortOrdered_string_o0_x3_I vx vx1 vx3 vx4 vl7_1 vx10_1 vr2_1 vr3_1) (oT [] []) ?_)
      refine bE hF fun x h14 hF => ?_
      obtain ⟨vl8_1, vx11_1, vx12_1⟩ := x
      refine awp_sub (slices_pdqsortOrdered_string_o0_x3_ok @ih vx vx1 vx3 vx4 vl7_1 vx10_1 vr2_1 vr3_1 h14) ?_
      refine awp_seq (awp_to (st' := slices_pdqsortOrdered_string_o0_x4_I vx vx1 vx3 vx4 vx10_1 vl8_1 vx11_1 vx12_1) (oT [] []) ?_)
      refine bE hF fun x h22 hF => ?_
      rcases x with vl9_1 | vl11_1
      · refine awp_sub (slices_pdqsortOrdered_string_o0_x4_ok @ih vx vx1 vx3 vx4 vx10_1 vl8_1 vx11_1 vx12_1 h22) ?_
        refine awp_seq (awp_seq (awp_to (st' := slices_pdqsortOrdered_string_o0_x6_I vx vx1 vx3 vx4 vx10_1 vx11_1 vl9_1) (oT [] []) ?_))
        refine bE hF fun vx14_1 h27 hF => awp_sub (slices_pdqsortOrdered_string_o0_x6_ok @ih vx vx1 vx3 vx4 vx10_1 vx11_1 vl9_1 h27) ?_
        refine cE hF (fun h28 hF => ?_) fun h28 hF => ?_
        · refine tT h28 (awp_seq (bE hF fun x h29 hF => ?_))
          obtain ⟨vl2_6, vr8_1⟩ := x
          refine gE hF fun h30 hF => ?_
          refine awp_region (aR 4 (aCp (slices_partitionEqualOrdered_string_o0_ok h29) ⟨⟨rfl, rfl, pin1 h30⟩, trivial⟩ [] [] [] ?_))
          refine aR 1 (aE ?_)
          refine sR 2 (awp_exit ?_)
          exact oO hF [] [] rfl
        · refine tF h28 (awp_skip (awp_seq (bE hF fun x h31 hF => ?_)))
          obtain ⟨vl2_7, vr12_3, vr13_1⟩ := x
          refine gE hF fun h32 hF => ?_
          refine awp_region (aR 4 (aCp (slices_partitionOrdered_string_o0_ok h31) ⟨⟨rfl, rfl, pin1 h32⟩, trivial⟩ [] [] [] ?_))
          refine aR 5 (aE ?_)
          refine sR 2 (sR 8 (sR 3 (sR 3 (cE hF (fun h33 hF => ?_) fun h33 hF => ?_))))
          · refine tT h33 (sR 4 (awp_seq (bE hF fun vl10_2 h34 hF => gE hF fun h35 hF => ?_)))
            refine awp_region (aR 4 (aCp (ih h34) ⟨⟨rfl, rfl, pin1 h35⟩, trivial⟩ [] [] [] ?_))
            refine aE ?_
            exact gR 3 (oO hF [] [] rfl)
          · refine tF h33 (sR 4 (awp_seq (bE hF fun vl10_3 h36 hF => gE hF fun h37 hF => ?_)))
            refine awp_region (aR 5 (aCp (ih h36) ⟨⟨rfl, rfl, pin1 h37⟩, trivial⟩ [] [] [] ?_))
            refine aE ?_
            exact gR 2 (oO hF [] [] rfl)
      · refine awp_sub (slices_pdqsortOrdered_string_o0_x4_ok @ih vx vx1 vx3 vx4 vx10_1 vl8_1 vx11_1 vx12_1 h22) ?_
        exact oO hF [] [] rfl

theorem slices_pdqsortOrdered_string_o0_n_ok (n : Nat) : ∀ {qx : List (List UInt8)} {qx1 : Int} {qx2 : Int} {qx3 : Int} {r}, slices_pdqsortOrdered_string_o0_n n qx qx1 qx2 qx3 = some r → Holds prog 133 [.c (.own 0 none), .i qx1, .i qx2, .i qx3] ⟨[(0, ⟨9, 1, List.map encS qx⟩)], []⟩ (Is (slices_pdqsortOrdered_string_o0_R qx qx1 qx2 qx3 r)) := by
  induction n with
  | zero => intro qx qx1 qx2 qx3 r hF; exact nE hF
  | succ n ih =>
    intro qx qx1 qx2 qx3 r hF
    unfold slices_pdqsortOrdered_string_o0_n at hF
    refine hW f133 134 1 1 ?_
    refine sR 1 (sR 1 (awp_block (awp_to (st' := slices_pdqsortOrdered_string_o0_x1_H  (qx, qx1, qx2, qx3, true, true)) (oT [] []) ?_)))
    refine bE hF fun vl12_1 h38 hF => awp_sub (awp_loop' (slices_pdqsortOrdered_string_o0_x1_H ) slices_pdqsortOrdered_string_o0_x1_k (slices_pdqsortOrdered_string_o0_x1_S ) (by intro x; exact fun h => nomatch h) h38 (slices_pdqsortOrdered_string_o0_x1_ok @ih )) ?_
    exact oF hF [] []

theorem slices_pdqsortOrdered_string_o0_ok {qx : List (List UInt8)} {qx1 : Int} {qx2 : Int} {qx3 : Int} {r} (hF : slices_pdqsortOrdered_string_o0 qx qx1 qx2 qx3 = some r) : Holds prog 133 [.c (.own 0 none), .i qx1, .i qx2, .i qx3] ⟨[(0, ⟨9, 1, List.map encS qx⟩)], []⟩ (Is (slices_pdqsortOrdered_string_o0_R qx qx1 qx2 qx3 r)) :=
  let ⟨n, h⟩ := fixO_some hF
  slices_pdqsortOrdered_string_o0_n_ok n h

/-! ### slices.Sort[[]string,string] -/
def slices_Sort_string_string_o0_R (qx : List (List UInt8)) (r : (List (List UInt8))) : TV × Mem := (.tup [], ⟨[(0, ⟨9, 1, List.map encS r⟩)], []⟩)

theorem slices_Sort_string_string_o0_ok {qx : List (List UInt8)} {r} (hF : slices_Sort_string_string_o0 qx = some r) : Holds prog 84 [.c (.own 0 none)] ⟨[(0, ⟨9, 1, List.map encS qx⟩)], []⟩ (Is (slices_Sort_string_string_o0_R qx r)) := by
  unfold slices_Sort_string_string_o0 at hF
  refine hW f84 11 1 1 ?_
  refine awp_seq (awp_region (aR 1 (aL encS qx (aR 1 (aE ?_)))))
  refine bE hF fun vr1 h1 hF => bE hF fun vl13 h2 hF => gE hF fun h3 hF => ?_
  refine awp_region (aR 4 (aC (bits_Len_ok h1) [] [] [] (aCp (slices_pdqsortOrdered_string_o0_ok h2) ⟨⟨rfl, rfl, pin1 h3⟩, trivial⟩ [] [] [] ?_)))
  refine aE ?_
  exact oF hF [] []

/-! ### slices.Compact[[]string,string] -/
def slices_Compact_string_string_o0_x3_S (qs : List (List UInt8)) (vk : Int) (vl4 : List (List UInt8)) (vk6 : Int) (vk2_1 : Int) : ((List (List UInt8)) × Int) → St
  | (vl6, vk8) => Mem.st ⟨[(0, ⟨9, 1, List.map encS vl6⟩)], []⟩ (tl [(0, .c (.own 0 none)), (3, .i vk8), (4, .c (.view 0 vk.toNat ((qs.length : Int).toNat - vk.toNat))), (5, .i vk2_1)]) 1

def slices_Compact_string_string_o0_x3_I (qs : List (List UInt8)) (vk : Int) (vl4 : List (List UInt8)) (vk6 : Int) (vk2_1 : Int) : St := Mem.st ⟨[(0, ⟨9, 1, List.map encS vl4⟩)], []⟩ (tl [(0, .c (.own 0 none)), (3, .i vk6), (4, .c (.view 0 vk.toNat ((qs.length : Int).toNat - vk.toNat))), (5, .i vk2_1)]) 1

theorem slices_Compact_string_string_o0_x3_ok (qs : List (List UInt8)) (vk : Int) (vl4 : List (List UInt8)) (vk6 : Int) (vk2_1 : Int) {r} (hF : slices_Compact_string_string_o0_x3 qs vk vl4 vk6 vk2_1 = some r) : Awp prog 1 61 (cL (cR (cL (cL (cR (cL (cR (cL (cR (cL (cL (cR (cL (cL (cR (cL (cR (cR (cB f85))))))))))))))))))) (Out 1 nrm (slices_Compact_string_string_o0_x3_S qs vk vl4 vk6 vk2_1) r) (slices_Compact_string_string_o0_x3_I qs vk vl4 vk6 vk2_1) := by
  unfold slices_Compact_string_string_o0_x3 at hF
  refine awp_block (awp_seq (gE hF fun h8 hF => ?_))
  refine bE hF fun vy13 h9 hF => gE hF fun h10 hF => ?_
  refine bE hF fun vy14 h11 hF => aD ?_
  refine dR 2 ?_
  refine dX (x_idxV encS 0 h8 h9) ?_
  refine dX (x_ldE encS h9) ?_
  refine dR 3 ?_
  refine dX (x_idxV encS 0 h10 h11) ?_
  refine dX (x_ldE encS h11) ?_
  refine dR 1 ?_
  refine dE ?_
  refine cE hF (fun h12 hF => ?_) fun h12 hF => ?_
  · refine tT h12 (awp_seq (bE hF fun vy15 h13 hF => awp_region (aR 4 (aX (x_idxV encS 0 h8 h9) (aX (x_ldE encS h9) (aX (x_idxO encS 0 h13) (aX (x_stE encS vy13 h13) (aE ?_))))))))
    exact gR 3 (oO hF [] [] rfl)
  · exact tF h12 (awp_skip (oO hF [] [] rfl))

def slices_Compact_string_string_o0_x2_k : ((List (List UInt8)) × Int) → AEx
  | _ => .exit 2

def slices_Compact_string_string_o0_x2_S (qs : List (List UInt8)) (vk : Int) : ((List (List UInt8)) × Int) → St
  | (vl7, vk9) => Mem.st ⟨[(0, ⟨9, 1, List.map encS vl7⟩)], []⟩ (tl [(0, .c (.own 0 none)), (3, .i vk9)]) 1

def slices_Compact_string_string_o0_x2_H (qs : List (List UInt8)) (vk : Int) : (List (List UInt8)) × Int × Int → St
  | (vl4, vk6, vk2_1) => Mem.st ⟨[(0, ⟨9, 1, List.map encS vl4⟩)], []⟩ (tl [(0, .c (.own 0 none)), (3, .i vk6), (4, .c (.view 0 vk.toNat ((qs.length : Int).toNat - vk.toNat))), (5, .i vk2_1)]) 1

theorem slices_Compact_string_string_o0_x2_ok (qs : List (List UInt8)) (vk : Int) (s : (List (List UInt8)) × Int × Int) (r : ((List (List UInt8)) × Int × Int) ⊕ (((List (List UInt8)) × Int))) (hF : slices_Compact_string_string_o0_x2 qs vk s = some r) : Awp prog 1 61 (cL (cL (cR (cL (cR (cL (cR (cL (cL (cR (cL (cL (cR (cL (cR (cR (cB f85))))))))))))))))) (Out 1 (kk slices_Compact_string_string_o0_x2_k) (SS (slices_Compact_string_string_o0_x2_H qs vk) (slices_Compact_string_string_o0_x2_S qs vk)) r) (slices_Compact_string_string_o0_x2_H qs vk s) := by
  obtain ⟨vl4, vk6, vk2_1⟩ := s
  unfold slices_Compact_string_string_o0_x2 at hF
  refine awp_seq (sR 4 (cE hF (fun h7 hF => ?_) fun h7 hF => ?_))
  · refine tT h7 (awp_skip (awp_seq (awp_to (st' := slices_Compact_string_string_o0_x3_I qs vk vl4 vk6 vk2_1) (oT [] []) ?_)))
    refine bE hF fun x h14 hF => ?_
    obtain ⟨vl6_1, vk8_1⟩ := x
    refine awp_sub (slices_Compact_string_string_o0_x3_ok qs vk vl4 vk6 vk2_1 h14) ?_
    exact gR 3 (oO hF [] [] rfl)
  · refine tF h7 (awp_exit ?_)
    exact oO hF [] [] rfl

def slices_Compact_string_string_o0_x1_k : Unit ⊕ (List (List UInt8)) → AEx
  | .inl _ => .exit 0
  | .inr _ => .ret

def slices_Compact_string_string_o0_x1_S (qs : List (List UInt8)) : Unit ⊕ (List (List UInt8)) → St
  | .inl _ => Mem.st ⟨[(0, ⟨9, 1, List.map encS qs⟩)], []⟩ (tl [(0, .c (.own 0 none))]) 1
  | .inr vx => Mem.st ⟨[(1, ⟨9, 1, List.map encS vx⟩)], []⟩ (tl [(2, .c (.own 1 none))]) 2

def slices_Compact_string_string_o0_x1_H (qs : List (List UInt8)) : Int → St
  | vk => Mem.st ⟨[(0, ⟨9, 1, List.map encS qs⟩)], []⟩ (tl [(0, .c (.own 0 none)), (3, .i vk)]) 1

theorem slices_Compact_string_string_o0_x1_ok (qs : List (List UInt8)) (vk : Int) (r : (Int) ⊕ (Unit ⊕ (List (List UInt8)))) (hF : slices_Compact_string_string_o0_x1 qs vk = some r) : Awp prog 1 61 (cL (cL (cR (cL (cR (cR (cB f85))))))) (Out 1 (kk slices_Compact_string_string_o0_x1_k) (SS (slices_Compact_string_string_o0_x1_H qs) (slices_Compact_string_string_o0_x1_S qs)) r) (slices_Compact_string_string_o0_x1_H qs vk) := by
  unfold slices_Compact_string_string_o0_x1 at hF
  refine awp_seq (awp_seq (awp_region (aR 2 (aL encS qs (aR 1 (aE ?_))))))
  refine cE hF (fun h2 hF => ?_) fun h2 hF => ?_
  · refine tT h2 (awp_skip (awp_seq (awp_block (awp_seq (bE hF fun vy8 h3 hF => bE hF fun vy9 h4 hF => aD ?_)))))
    refine dR 2 ?_
    refine dX (x_idxO encS 0 h3) ?_
    refine dX (x_ldE encS h3) ?_
    refine dR 3 ?_
    refine dX (x_idxO encS 0 h4) ?_
    refine dX (x_ldE encS h4) ?_
    refine dR 1 ?_
    refine dE ?_
    refine cE hF (fun h5 hF => ?_) fun h5 hF => ?_
    · refine tT h5 (awp_seq (gE hF fun h6 hF => ?_))
      refine awp_region (aR 2 (aX (x_viewN encS 0 h6) (aR 1 (aE ?_))))
      refine awp_seq (sR 1 (awp_block (awp_to (st' := slices_Compact_string_string_o0_x2_H qs vk (qs, vk, 1)) (oT [] []) ?_)))
      refine bE hF fun x h15 hF => ?_
      obtain ⟨vl7_1, vk9_1⟩ := x
      refine awp_sub (awp_loop' (slices_Compact_string_string_o0_x2_H qs vk) slices_Compact_string_string_o0_x2_k (slices_Compact_string_string_o0_x2_S qs vk) (by intro x; exact fun h => nomatch h) h15 (slices_Compact_string_string_o0_x2_ok qs vk)) ?_
      refine awp_seq (gE hF fun h16 hF => ?_)
      refine awp_region (aR 2 (aX (x_viewN encS 0 h16) (aCl encS 0 (xs := vl7_1) (y := ([] : List UInt8)) (lo := vk9_1) (hi := (vl7_1.length : Int)) rfl ?_)))
      refine aE ?_
      refine awp_seq (gE hF fun h17 hF => ?_)
      refine awp_region (aR 2 (aT encS 0 h17 rfl ?_))
      refine aR 1 (aE ?_)
      exact awp_ret (oO hF [(1, 6001)] [] rfl)
    · exact tF h5 (awp_skip (gR 3 (oO hF [] [] rfl)))
  · refine tF h2 (awp_exit ?_)
    exact oO hF [] [] rfl

def slices_Compact_string_string_o0_R (qs : List (List UInt8)) (r : (List (List UInt8))) : TV × Mem := (.c (.own 1 none), ⟨[(1, ⟨9, 1, List.map encS r⟩)], []⟩)

theorem slices_Compact_string_string_o0_ok {qs : List (List UInt8)} {r} (hF : slices_Compact_string_string_o0 qs = some r) : Holds prog 85 [.c (.own 0 none)] ⟨[(0, ⟨9, 1, List.map encS qs⟩)], []⟩ (Is (slices_Compact_string_string_o0_R qs r)) := by
  unfold slices_Compact_string_string_o0 at hF
  refine hW f85 61 1 1 ?_
  refine sR 1 (awp_seq (awp_seq (awp_region (aR 1 (aL encS qs (aR 1 (aE ?_)))))))
  refine cE hF (fun h1 hF => ?_) fun h1 hF => ?_
  · exact tT h1 (sR 2 (awp_ret (oF hF [(1, 0)] [])))
  · refine tF h1 (awp_skip (awp_seq (sR 1 (awp_block (awp_to (st' := slices_Compact_string_string_o0_x1_H qs 1) (oT [] []) ?_)))))
    refine bE hF fun x h18 hF => ?_
    rcases x with _ | vx1
    · refine awp_sub (awp_loop' (slices_Compact_string_string_o0_x1_H qs) slices_Compact_string_string_o0_x1_k (slices_Compact_string_string_o0_x1_S qs) (by intro x; rcases x with x | x <;> exact fun h => nomatch h) h18 (slices_Compact_string_string_o0_x1_ok qs)) ?_
      exact sR 2 (awp_ret (oF hF [(1, 0)] []))
    · refine awp_sub (awp_loop' (slices_Compact_string_string_o0_x1_H qs) slices_Compact_string_string_o0_x1_k (slices_Compact_string_string_o0_x1_S qs) (by intro x; rcases x with x | x <;> exact fun h => nomatch h) h18 (slices_Compact_string_string_o0_x1_ok qs)) ?_
      exact oF hF [] []

/-! ### beaconfleet/fleetref2.namesOf -/
def fleetref2_namesOf_o0_x2_k : (List (List UInt8)) → AEx
  | _ => .exit 2

def fleetref2_namesOf_o0_x2_S (qlists : List (List api_Prop)) (vx : Int) (vy3 : List api_Prop) : (List (List UInt8)) → St
  | vout4 => Mem.st ⟨[(1, ⟨9, 1, List.map encS vout4⟩)], []⟩ (tl [(3, .c (.own 1 none)), (8, .c (.l (encL api_Prop.enc) qlists)), (9, .i (qlists.length : Int)), (10, .i vx)]) 2

def fleetref2_namesOf_o0_x2_H (qlists : List (List api_Prop)) (vx : Int) (vy3 : List api_Prop) : (List (List UInt8)) × Int → St
  | (vout3, vx2) => Mem.st ⟨[(1, ⟨9, 1, List.map encS vout3⟩)], []⟩ (tl [(3, .c (.own 1 none)), (8, .c (.l (encL api_Prop.enc) qlists)), (9, .i (qlists.length : Int)), (10, .i vx), (14, .c (.l api_Prop.enc vy3)), (15, .i (vy3.length : Int)), (16, .i vx2)]) 2

theorem fleetref2_namesOf_o0_x2_ok (qlists : List (List api_Prop)) (vx : Int) (vy3 : List api_Prop) (s : (List (List UInt8)) × Int) (r : ((List (List UInt8)) × Int) ⊕ ((List (List UInt8)))) (hF : fleetref2_namesOf_o0_x2 vy3 s = some r) : Awp prog 1 31 (cL (cL (cR (cR (cL (cL (cR (cR (cL (cL (cR (cL (cR (cR (cB f40))))))))))))))) (Out 1 (kk fleetref2_namesOf_o0_x2_k) (SS (fleetref2_namesOf_o0_x2_H qlists vx vy3) (fleetref2_namesOf_o0_x2_S qlists vx vy3)) r) (fleetref2_namesOf_o0_x2_H qlists vx vy3 s) := by
  obtain ⟨vout3, vx2⟩ := s
  unfold fleetref2_namesOf_o0_x2 at hF
  refine sR 1 (awp_seq (cE hF (fun h3 hF => ?_) fun h3 hF => ?_))
  · refine tT h3 (awp_skip (awp_seq (awp_block (awp_seq (bE hF fun vy5 h4 hF => awp_region (aX (x_idx api_Prop.enc h4) (aR 3 (aE ?_))))))))
    refine gE hF fun h5 hF => ?_
    refine awp_region (aR 4 (aX (x_app encS 1 h5) (aR 1 (aE ?_))))
    exact gR 2 (oO hF [(1, 9002)] [] rfl)
  · refine tF h3 (awp_exit ?_)
    exact oO hF [] [] rfl

def fleetref2_namesOf_o0_x1_k : (List (List UInt8)) → AEx
  | _ => .exit 0

def fleetref2_namesOf_o0_x1_S (qlists : List (List api_Prop)) : (List (List UInt8)) → St
  | vout5 => Mem.st ⟨[(1, ⟨9, 1, List.map encS vout5⟩)], []⟩ (tl [(3, .c (.own 1 none))]) 2

def fleetref2_namesOf_o0_x1_H (qlists : List (List api_Prop)) : (List (List UInt8)) × Int → St
  | (vout, vx) => Mem.st ⟨[(1, ⟨9, 1, List.map encS vout⟩)], []⟩ (tl [(3, .c (.own 1 none)), (8, .c (.l (encL api_Prop.enc) qlists)), (9, .i (qlists.length : Int)), (10, .i vx)]) 2

theorem fleetref2_namesOf_o0_x1_ok (qlists : List (List api_Prop)) (s : (List (List UInt8)) × Int) (r : ((List (List UInt8)) × Int) ⊕ ((List (List UInt8)))) (hF : fleetref2_namesOf_o0_x1 qlists s = some r) : Awp prog 1 31 (cL (cL (cR (cL (cR (cR (cB f40))))))) (Out 1 (kk fleetref2_namesOf_o0_x1_k) (SS (fleetref2_namesOf_o0_x1_H qlists) (fleetref2_namesOf_o0_x1_S qlists)) r) (fleetref2_namesOf_o0_x1_H qlists s) := by
  obtain ⟨vout, vx⟩ := s
  unfold fleetref2_namesOf_o0_x1 at hF
  refine sR 1 (awp_seq (cE hF (fun h1 hF => ?_) fun h1 hF => ?_))
  · refine tT h1 (awp_skip (awp_seq (awp_block (awp_seq (bE hF fun vy3 h2 hF => awp_region (aX (x_idx (encL api_Prop.enc) h2) (aR 2 (aE ?_))))))))
    refine awp_seq (awp_region (aR 1 (aL api_Prop.enc vy3 (aR 1 (aE ?_)))))
    refine awp_block (awp_to (st' := fleetref2_namesOf_o0_x2_H qlists vx vy3 (vout, 0)) (oT [] []) ?_)
    refine bE hF fun vout4_1 h6 hF => awp_sub (awp_loop' (fleetref2_namesOf_o0_x2_H qlists vx vy3) fleetref2_namesOf_o0_x2_k (fleetref2_namesOf_o0_x2_S qlists vx vy3) (by intro x; exact fun h => nomatch h) h6 (fleetref2_namesOf_o0_x2_ok qlists vx vy3)) ?_
    exact gR 2 (oO hF [] [] rfl)
  · refine tF h1 (awp_exit ?_)
    exact oO hF [] [] rfl

def fleetref2_namesOf_o0_R (qlists : List (List api_Prop)) (r : (List (List UInt8))) : TV × Mem := (.c (.own 1 none), ⟨[(1, ⟨9, 1, List.map encS r⟩)], []⟩)

theorem fleetref2_namesOf_o0_ok {qlists : List (List api_Prop)} {r} (hF : fleetref2_namesOf_o0 qlists = some r) : Holds prog 40 [.c (.own 0 none)] ⟨[(0, ⟨26, 1, List.map (encL api_Prop.enc) qlists⟩)], []⟩ (Is (fleetref2_namesOf_o0_R qlists r)) := by
  unfold fleetref2_namesOf_o0 at hF
  refine hW f40 31 1 1 ?_
  refine sR 1 (awp_to (oT (m := ⟨[], []⟩) (ts := [(0, .c (.l (encL api_Prop.enc) qlists))]) (nx := 1) [] []) ?_)
  refine sR 1 (awp_seq (awp_seq (awp_region (aR 1 (aL (encL api_Prop.enc) qlists (aR 1 (aE ?_)))))))
  refine awp_block (awp_to (st' := fleetref2_namesOf_o0_x1_H qlists ([], 0)) (oT [] [1]) ?_)
  refine bE hF fun vout5_1 h7 hF => awp_sub (awp_loop' (fleetref2_namesOf_o0_x1_H qlists) fleetref2_namesOf_o0_x1_k (fleetref2_namesOf_o0_x1_S qlists) (by intro x; exact fun h => nomatch h) h7 (fleetref2_namesOf_o0_x1_ok qlists)) ?_
  refine awp_seq (bE hF fun vl h8 hF => gE hF fun h9 hF => ?_)
  refine awp_region (aR 1 (aCp (slices_Sort_string_string_o0_ok h8) ⟨⟨rfl, rfl, pin1 h9⟩, trivial⟩ [(0, 1)] [] [] ?_))
  refine aE ?_
  refine awp_seq (bE hF fun vr h10 hF => awp_region (aR 1 (aC (slices_Compact_string_string_o0_ok h10) [(0, 1)] [] [] (aR 1 (aE ?_)))))
  exact awp_ret (oF hF [(1, 3003)] [])

/-! ### beaconfleet/fleetref2.ValueOf -/
def fleetref2_ValueOf_x1_k : Unit ⊕ api_Value → AEx
  | .inl _ => .exit 0
  | .inr _ => .ret

def fleetref2_ValueOf_x1_S (ql : List api_Prop) (qname : List UInt8) : Unit ⊕ api_Value → St
  | .inl _ => Mem.st ⟨[], [(0, [.i 0, .t false, .i 0, .s ([] : List UInt8)])]⟩ (tl [(4, .c (.box 0 0))]) 1
  | .inr vx1 => Mem.st ⟨[], [(0, [.i vx1.Kind, .t vx1.Flag, .i vx1.Number, .s vx1.Words])]⟩ (tl [(4, .c (.box 0 0))]) 1

def fleetref2_ValueOf_x1_H (ql : List api_Prop) (qname : List UInt8) : Int → St
  | vx => Mem.st ⟨[], [(0, [.i 0, .t false, .i 0, .s ([] : List UInt8)])]⟩ (tl [(1, .c (.s qname)), (4, .c (.box 0 0)), (7, .c (.l api_Prop.enc ql)), (8, .i (ql.length : Int)), (9, .i vx)]) 1

theorem fleetref2_ValueOf_x1_ok (ql : List api_Prop) (qname : List UInt8) (vx : Int) (r : (Int) ⊕ (Unit ⊕ api_Value)) (hF : fleetref2_ValueOf_x1 ql qname vx = some r) : Awp prog 0 21 (cL (cL (cR (cL (cR (cB f41)))))) (Out 0 (kk fleetref2_ValueOf_x1_k) (SS (fleetref2_ValueOf_x1_H ql qname) (fleetref2_ValueOf_x1_S ql qname)) r) (fleetref2_ValueOf_x1_H ql qname vx) := by
  unfold fleetref2_ValueOf_x1 at hF
  refine sR 1 (awp_seq (cE hF (fun h1 hF => ?_) fun h1 hF => ?_))
  · refine tT h1 (awp_skip (awp_seq (awp_block (awp_seq (bE hF fun vy1 h2 hF => awp_region (aX (x_idx api_Prop.enc h2) (aR 3 (aE ?_))))))))
    refine sR 4 (cE hF (fun h3 hF => ?_) fun h3 hF => ?_)
    · exact tT h3 (sR 3 (awp_ret (oO hF [] [] rfl)))
    · exact tF h3 (awp_skip (gR 2 (oO hF [] [] rfl)))
  · refine tF h1 (awp_exit ?_)
    exact oO hF [] [] rfl

def fleetref2_ValueOf_R (ql : List api_Prop) (qname : List UInt8) (r : api_Value) : TV × Mem := (.v (.agg [.i r.Kind, .t r.Flag, .i r.Number, .s r.Words]), ⟨[], []⟩)

theorem fleetref2_ValueOf_ok {ql : List api_Prop} {qname : List UInt8} {r} (hF : fleetref2_ValueOf ql qname = some r) : Holds prog 41 [.c (.l api_Prop.enc ql), .c (.s qname)] ⟨[], []⟩ (Is (fleetref2_ValueOf_R ql qname r)) := by
  unfold fleetref2_ValueOf at hF
  refine hW f41 21 0 0 ?_
  refine sR 1 (awp_seq (awp_seq (awp_region (aR 1 (aL api_Prop.enc ql (aR 1 (aE ?_)))))))
  refine awp_block (awp_to (st' := fleetref2_ValueOf_x1_H ql qname 0) (oT [] []) ?_)
  refine bE hF fun x h4 hF => ?_
  rcases x with _ | vx1_1
  · refine awp_sub (awp_loop' (fleetref2_ValueOf_x1_H ql qname) fleetref2_ValueOf_x1_k (fleetref2_ValueOf_x1_S ql qname) (by intro x; rcases x with x | x <;> exact fun h => nomatch h) h4 (fleetref2_ValueOf_x1_ok ql qname)) ?_
    exact sR 2 (awp_ret (oF hF [] []))
  · refine awp_sub (awp_loop' (fleetref2_ValueOf_x1_H ql qname) fleetref2_ValueOf_x1_k (fleetref2_ValueOf_x1_S ql qname) (by intro x; rcases x with x | x <;> exact fun h => nomatch h) h4 (fleetref2_ValueOf_x1_ok ql qname)) ?_
    exact oF hF [] []

/-! ### beaconfleet/fleetref2.DifferOf -/
def fleetref2_DifferOf_o1_x2_S (qa : List api_Prop) (qb : List api_Prop) (vr1 : List (List UInt8)) (vout : List api_Change) (vx : Int) : (List api_Change) → St
  | vout2 => Mem.st ⟨[(1, ⟨70, 9, List.map api_Change.enc vout2⟩)], []⟩ (tl [(0, .c (.l api_Prop.enc qa)), (1, .c (.l api_Prop.enc qb)), (5, .c (.own 1 none)), (13, .c (.l encS vr1)), (14, .i (vr1.length : Int)), (15, .i vx)]) 2

def fleetref2_DifferOf_o1_x2_I (qa : List api_Prop) (qb : List api_Prop) (vr1 : List (List UInt8)) (vout : List api_Change) (vx : Int) : St := Mem.st ⟨[(1, ⟨70, 9, List.map api_Change.enc vout⟩)], []⟩ (tl [(0, .c (.l api_Prop.enc qa)), (1, .c (.l api_Prop.enc qb)), (5, .c (.own 1 none)), (13, .c (.l encS vr1)), (14, .i (vr1.length : Int)), (15, .i vx)]) 2

theorem fleetref2_DifferOf_o1_x2_ok (qa : List api_Prop) (qb : List api_Prop) (vr1 : List (List UInt8)) (vout : List api_Change) (vx : Int) {r} (hF : fleetref2_DifferOf_o1_x2 qa qb vr1 vout vx = some r) : Awp prog 1 37 (cL (cR (cR (cL (cL (cR (cL (cR (cR (cB f29)))))))))) (Out 1 nrm (fleetref2_DifferOf_o1_x2_S qa qb vr1 vout vx) r) (fleetref2_DifferOf_o1_x2_I qa qb vr1 vout vx) := by
  unfold fleetref2_DifferOf_o1_x2 at hF
  refine awp_block (awp_seq (bE hF fun vy1 h3 hF => awp_region (aX (x_idx encS h3) (aR 2 (aE ?_)))))
  refine awp_seq (bE hF fun vr3 h4 hF => bE hF fun vr4 h5 hF => awp_region (aR 2 (aC (fleetref2_ValueOf_ok h4) [] [] [] (aR 2 (aC (fleetref2_ValueOf_ok h5) [] [] [] (aR 4 (aE ?_)))))))
  refine awp_seq (awp_region (aR 2 (aS (does_eqS (op := .neq) (xs := [.int .i64 vr3.Kind, .bool vr3.Flag, .int .i64 vr3.Number, .str vr3.Words]) (ys := [.int .i64 vr4.Kind, .bool vr4.Flag, .int .i64 vr4.Number, .str vr4.Words]) (b := (decide (vr3.Kind = vr4.Kind) && ((vr3.Flag == vr4.Flag) && (decide (vr3.Number = vr4.Number) && (decide (vr3.Words = vr4.Words) && true))))) (c := (!(decide (vr3.Kind = vr4.Kind) && ((vr3.Flag == vr4.Flag) && (decide (vr3.Number = vr4.Number) && (decide (vr3.Words = vr4.Words) && true)))))) rfl (.inr ⟨rfl, rfl⟩) (by kernel_rfl) (by kernel_rfl) (by kernel_rfl) (by kernel_rfl) (by kernel_rfl) (by kernel_rfl)) ?_)))
  refine aE ?_
  refine cE hF (fun h6 hF => ?_) fun h6 hF => ?_
  · refine tT h6 (gE hF fun h7 hF => ?_)
    refine awp_region (aR 6 (aX (x_app api_Change.enc 1 h7) (aR 1 (aE ?_))))
    exact oO hF [(1, 22002)] [] rfl
  · exact tF h6 (awp_skip (oO hF [] [] rfl))

def fleetref2_DifferOf_o1_x1_k : (List api_Change) → AEx
  | _ => .exit 0

def fleetref2_DifferOf_o1_x1_S (qa : List api_Prop) (qb : List api_Prop) (vr1 : List (List UInt8)) : (List api_Change) → St
  | vout3 => Mem.st ⟨[(1, ⟨70, 9, List.map api_Change.enc vout3⟩)], []⟩ (tl [(5, .c (.own 1 none))]) 2

def fleetref2_DifferOf_o1_x1_H (qa : List api_Prop) (qb : List api_Prop) (vr1 : List (List UInt8)) : (List api_Change) × Int → St
  | (vout, vx) => Mem.st ⟨[(1, ⟨70, 9, List.map api_Change.enc vout⟩)], []⟩ (tl [(0, .c (.l api_Prop.enc qa)), (1, .c (.l api_Prop.enc qb)), (5, .c (.own 1 none)), (13, .c (.l encS vr1)), (14, .i (vr1.length : Int)), (15, .i vx)]) 2

theorem fleetref2_DifferOf_o1_x1_ok (qa : List api_Prop) (qb : List api_Prop) (vr1 : List (List UInt8)) (s : (List api_Change) × Int) (r : ((List api_Change) × Int) ⊕ ((List api_Change))) (hF : fleetref2_DifferOf_o1_x1 qa qb vr1 s = some r) : Awp prog 1 37 (cL (cL (cR (cL (cR (cR (cB f29))))))) (Out 1 (kk fleetref2_DifferOf_o1_x1_k) (SS (fleetref2_DifferOf_o1_x1_H qa qb vr1) (fleetref2_DifferOf_o1_x1_S qa qb vr1)) r) (fleetref2_DifferOf_o1_x1_H qa qb vr1 s) := by
  obtain ⟨vout, vx⟩ := s
  unfold fleetref2_DifferOf_o1_x1 at hF
  refine sR 1 (awp_seq (cE hF (fun h2 hF => ?_) fun h2 hF => ?_))
  · refine tT h2 (awp_skip (awp_seq (awp_to (st' := fleetref2_DifferOf_o1_x2_I qa qb vr1 vout vx) (oT [] []) ?_)))
    refine bE hF fun vout2_1 h8 hF => awp_sub (fleetref2_DifferOf_o1_x2_ok qa qb vr1 vout vx h8) ?_
    exact gR 2 (oO hF [] [] rfl)
  · refine tF h2 (awp_exit ?_)
    exact oO hF [] [] rfl

def fleetref2_DifferOf_o1_R (qa : List api_Prop) (qb : List api_Prop) (r : (List api_Change)) : TV × Mem := (.c (.own 1 none), ⟨[(1, ⟨70, 9, List.map api_Change.enc r⟩)], []⟩)

theorem fleetref2_DifferOf_o1_ok {qa : List api_Prop} {qb : List api_Prop} {r} (hF : fleetref2_DifferOf_o1 qa qb = some r) : Holds prog 29 [.c (.l api_Prop.enc qa), .c (.own 0 none)] ⟨[(0, ⟨43, 5, List.map api_Prop.enc qb⟩)], []⟩ (Is (fleetref2_DifferOf_o1_R qa qb r)) := by
  unfold fleetref2_DifferOf_o1 at hF
  refine hW f29 37 1 1 ?_
  refine sR 1 (awp_to (oT (m := ⟨[], []⟩) (ts := [(0, .c (.l api_Prop.enc qa)), (1, .c (.l api_Prop.enc qb))]) (nx := 1) [] []) ?_)
  refine sR 1 (awp_seq (awp_seq (bE hF fun vr1 h1 hF => awp_region (aR 3 (aC (fleetref2_namesOf_o0_ok h1) [(0, 3001)] [] [] (aL encS vr1 (aR 1 (aE ?_))))))))
  refine awp_to (oT (m := ⟨[], []⟩) (ts := [(0, .c (.l api_Prop.enc qa)), (1, .c (.l api_Prop.enc qb)), (5, .c (.nil)), (13, .c (.l encS vr1)), (14, .i (vr1.length : Int)), (15, .i 0)]) (nx := 1) [] []) ?_
  refine awp_block (awp_to (st' := fleetref2_DifferOf_o1_x1_H qa qb vr1 ([], 0)) (oT [] [1]) ?_)
  refine bE hF fun vout3_1 h9 hF => awp_sub (awp_loop' (fleetref2_DifferOf_o1_x1_H qa qb vr1) fleetref2_DifferOf_o1_x1_k (fleetref2_DifferOf_o1_x1_S qa qb vr1) (by intro x; exact fun h => nomatch h) h9 (fleetref2_DifferOf_o1_x1_ok qa qb vr1)) ?_
  exact sR 2 (awp_ret (oF hF [] []))

/-! ### (*beaconfleet/fleetmake.Stream).Changes -/
def fleetmake_Stream_Changes_x2_S (vs3 : fleetmake_Stream) (vr5 : List api_Change) : (fleetmake_Stream × Bool) → St
  | (vs, vx) => Mem.st ⟨[(1, ⟨70, 9, List.map api_Change.enc vr5⟩)], [(0, [.l (encI .i64) vs.L, .i vs.at_])]⟩ (tl [(0, .c (.box 0 0)), (5, .c (.own 1 none)), (17, .b vx)]) 2

def fleetmake_Stream_Changes_x2_I (vs3 : fleetmake_Stream) (vr5 : List api_Change) : St := Mem.st ⟨[(1, ⟨70, 9, List.map api_Change.enc vr5⟩)], [(0, [.l (encI .i64) vs3.L, .i vs3.at_])]⟩ (tl [(0, .c (.box 0 0)), (5, .c (.own 1 none))]) 2

theorem fleetmake_Stream_Changes_x2_ok (vs3 : fleetmake_Stream) (vr5 : List api_Change) {r} (hF : fleetmake_Stream_Changes_x2 vs3 vr5 = some r) : Awp prog 1 55 (cL (cL (cR (cR (cB f7))))) (Out 1 nrm (fleetmake_Stream_Changes_x2_S vs3 vr5) r) (fleetmake_Stream_Changes_x2_I vs3 vr5) := by
  unfold fleetmake_Stream_Changes_x2 at hF
  refine cE hF (fun h3 hF => ?_) fun h3 hF => ?_
  · refine bE hF fun vr h4 hF => awp_region (aR 1 (aL api_Change.enc vr5 (aB h3 (aR 2 (aC (fleetmake_Stream_Flip_ok h4) [] [] [] (aR 1 (aE ?_)))))))
    exact oO hF [] [] rfl
  · refine awp_region (aR 1 (aL api_Change.enc vr5 (aB h3 (aR 4 (aE ?_)))))
    exact oO hF [] [] rfl

def fleetmake_Stream_Changes_x1_S (vs3 : fleetmake_Stream) (vr5 : List api_Change) : (fleetmake_Stream × (List api_Change)) → St
  | (vs2, vout) => Mem.st ⟨[(1, ⟨70, 9, List.map api_Change.enc vout⟩)], [(0, [.l (encI .i64) vs2.L, .i vs2.at_])]⟩ (tl [(5, .c (.own 1 none))]) 2

def fleetmake_Stream_Changes_x1_I (vs3 : fleetmake_Stream) (vr5 : List api_Change) : St := Mem.st ⟨[(1, ⟨70, 9, List.map api_Change.enc vr5⟩)], [(0, [.l (encI .i64) vs3.L, .i vs3.at_])]⟩ (tl [(0, .c (.box 0 0)), (5, .c (.own 1 none))]) 2

theorem fleetmake_Stream_Changes_x1_ok (vs3 : fleetmake_Stream) (vr5 : List api_Change) {r} (hF : fleetmake_Stream_Changes_x1 vs3 vr5 = some r) : Awp prog 1 55 (cL (cR (cR (cB f7)))) (Out 1 nrm (fleetmake_Stream_Changes_x1_S vs3 vr5) r) (fleetmake_Stream_Changes_x1_I vs3 vr5) := by
  unfold fleetmake_Stream_Changes_x1 at hF
  refine awp_seq (awp_to (st' := fleetmake_Stream_Changes_x2_I vs3 vr5) (oT [] []) ?_)
  refine bE hF fun x h5 hF => ?_
  obtain ⟨vs1, vx1⟩ := x
  refine awp_sub (fleetmake_Stream_Changes_x2_ok vs3 vr5 h5) ?_
  refine cE hF (fun h6 hF => ?_) fun h6 hF => ?_
  · refine tT h6 (awp_seq (bE hF fun vr3 h7 hF => bE hF fun vy h8 hF => awp_region (aR 3 (aL api_Change.enc vr5 (aC (fleetmake_Stream_Next_ok h7) [] [] [] (aX (x_idxO api_Change.enc 1 h8) (aR 1 (aE ?_))))))))
    refine awp_seq (bE hF fun vr3_1 h9 hF => awp_region (aR 1 (aC (fleetmake_Stream_Next_ok h9) [] [] [] (aE ?_))))
    refine awp_block (sR 2 (cE hF (fun h10 hF => ?_) fun h10 hF => ?_))
    · refine tT h10 (bE hF fun vr4 h11 hF => awp_region (aR 2 (aC (fleetmake_Stream_PropName_ok h11) [] [] [] (aR 2 (aX (x_stE api_Change.enc (api_Change.mk vr4 (api_Value.mk vy.From.Kind vy.From.Flag vy.From.Number vy.From.Words) (api_Value.mk vy.To.Kind vy.To.Flag vy.To.Number vy.To.Words)) h8) (aE ?_))))))
      exact oO hF [] [] rfl
    · refine tF h10 (sR 2 (cE hF (fun h12 hF => ?_) fun h12 hF => ?_))
      · refine tT h12 (bE hF fun x h13 hF => ?_)
        obtain ⟨vs3_1, vr7⟩ := x
        refine awp_region (aR 2 (aC (fleetmake_Stream_Value_ok h13) [] [] [] (aR 2 (aX (x_stE api_Change.enc (api_Change.mk vy.Name vr7 (api_Value.mk vy.To.Kind vy.To.Flag vy.To.Number vy.To.Words)) h8) (aE ?_)))))
        exact oO hF [] [] rfl
      · refine tF h12 (sR 2 (cE hF (fun h14 hF => ?_) fun h14 hF => ?_))
        · refine tT h14 (bE hF fun x h15 hF => ?_)
          obtain ⟨vs3_2, vr7_1⟩ := x
          refine awp_region (aR 2 (aC (fleetmake_Stream_Value_ok h15) [] [] [] (aR 2 (aX (x_stE api_Change.enc (api_Change.mk vy.Name (api_Value.mk vy.From.Kind vy.From.Flag vy.From.Number vy.From.Words) vr7_1) h8) (aE ?_)))))
          exact oO hF [] [] rfl
        · refine tF h14 (awp_region (aR 4 (aX (x_ldE api_Change.enc h8) (aR 2 (aX (x_stE api_Change.enc (api_Change.mk vy.Name (api_Value.mk vy.To.Kind vy.To.Flag vy.To.Number vy.To.Words) (api_Value.mk vy.To.Kind vy.To.Flag vy.To.Number vy.To.Words)) h8) (aE ?_))))))
          exact oO hF [] [] rfl
  · exact tF h6 (awp_skip (oO hF [] [] rfl))

def fleetmake_Stream_Changes_R (qs : fleetmake_Stream) (ql : List api_Prop) (r : fleetmake_Stream × (List api_Change)) : TV × Mem := (.c (.own 1 none), ⟨[(1, ⟨70, 9, List.map api_Change.enc r.2⟩)], [(0, [.l (encI .i64) r.1.L, .i r.1.at_])]⟩)

theorem fleetmake_Stream_Changes_ok {qs : fleetmake_Stream} {ql : List api_Prop} {r} (hF : fleetmake_Stream_Changes qs ql = some r) : Holds prog 7 [.c (.box 0 0), .c (.l api_Prop.enc ql)] ⟨[], [(0, [.l (encI .i64) qs.L, .i qs.at_])]⟩ (Is (fleetmake_Stream_Changes_R qs ql r)) := by
  unfold fleetmake_Stream_Changes at hF
  refine hW f7 55 1 1 ?_
  refine sR 1 (awp_seq (bE hF fun x h1 hF => ?_))
  obtain ⟨vs3, vr8⟩ := x
  refine bE hF fun vr5 h2 hF => awp_region (aR 2 (aC (fleetmake_Stream_RightProps_ok h1) [] [] [] (aC (fleetref2_DifferOf_o1_ok h2) [(0, 3002)] [] [] (aR 1 (aE ?_)))))
  refine awp_seq (awp_to (st' := fleetmake_Stream_Changes_x1_I vs3 vr5) (oT [(1, 4002)] []) ?_)
  refine bE hF fun x h16 hF => ?_
  obtain ⟨vs2_1, vout1⟩ := x
  refine awp_sub (fleetmake_Stream_Changes_x1_ok vs3 vr5 h16) ?_
  exact sR 2 (awp_ret (oF hF [] []))

/-! ### beaconfleet/fleetref2.fromValues$1 -/
def fleetref2_fromValues_1_R (qa : api_Prop) (qb : api_Prop) (r : Unit) : TV × Mem := (.i (Lib.compareBytes qa.Name qb.Name), ⟨[], []⟩)

theorem fleetref2_fromValues_1_ok {qa : api_Prop} {qb : api_Prop} {r} (hF : fleetref2_fromValues_1 qa qb = some r) : Holds prog 69 [.v (.agg [.s qa.Name, .i qa.Value.Kind, .t qa.Value.Flag, .i qa.Value.Number, .s qa.Value.Words]), .v (.agg [.s qb.Name, .i qb.Value.Kind, .t qb.Value.Flag, .i qb.Value.Number, .s qb.Value.Words])] ⟨[], []⟩ (Is (fleetref2_fromValues_1_R qa qb r)) := by
  unfold fleetref2_fromValues_1 at hF
  refine hW f69 10 0 0 ?_
  refine sR 3 (awp_seq (bE hF fun _ h1 hF => awp_region (aR 4 (aC (strings_Compare_ok h1) [] [] [] (aR 1 (aE ?_))))))
  exact awp_ret (oF hF [] [])

/-! ### slices.insertionSortCmpFunc[beaconfleet/api.Prop] -/
def slices_insertionSortCmpFunc_api_Prop_o0_f3_fleetref2_fromValues_1_x3_S (qa : Int) (qb : Int) (vi : Int) (vl3 : List api_Prop) (vj1 : Int) : Bool → St
  | vx4 => Mem.st ⟨[(0, ⟨43, 5, List.map api_Prop.enc vl3⟩)], []⟩ (tl [(0, .c (.own 0 none)), (1, .i qa), (2, .i qb), (3, .c (.fn 69 [])), (8, .i vi), (9, .i vj1), (34, .b vx4)]) 1

def slices_insertionSortCmpFunc_api_Prop_o0_f3_fleetref2_fromValues_1_x3_I (qa : Int) (qb : Int) (vi : Int) (vl3 : List api_Prop) (vj1 : Int) : St := Mem.st ⟨[(0, ⟨43, 5, List.map api_Prop.enc vl3⟩)], []⟩ (tl [(0, .c (.own 0 none)), (1, .i qa), (2, .i qb), (3, .c (.fn 69 [])), (8, .i vi), (9, .i vj1)]) 1

theorem slices_insertionSortCmpFunc_api_Prop_o0_f3_fleetref2_fromValues_1_x3_ok (qa : Int) (qb : Int) (vi : Int) (vl3 : List api_Prop) (vj1 : Int) {r} (hF : slices_insertionSortCmpFunc_api_Prop_o0_f3_fleetref2_fromValues_1_x3 qa vl3 vj1 = some r) : Awp prog 1 53 (cL (cL (cL (cL (cR (cL (cL (cR (cL (cL (cR (cB f112)))))))))))) (Out 1 nrm (slices_insertionSortCmpFunc_api_Prop_o0_f3_fleetref2_fromValues_1_x3_S qa qb vi vl3 vj1) r) (slices_insertionSortCmpFunc_api_Prop_o0_f3_fleetref2_fromValues_1_x3_I qa qb vi vl3 vj1) := by
  unfold slices_insertionSortCmpFunc_api_Prop_o0_f3_fleetref2_fromValues_1_x3 at hF
  refine cE hF (fun h2 hF => ?_) fun h2 hF => ?_
  · refine bE hF fun vy15 h3 hF => bE hF fun vy16 h4 hF => bE hF fun _ h5 hF => aD ?_
    refine dR 2 ?_
    refine dB h2 ?_
    refine dR 4 ?_
    refine dX (x_idxO api_Prop.enc 0 h3) ?_
    refine dX (x_ldE api_Prop.enc h3) ?_
    refine dR 3 ?_
    refine dX (x_idxO api_Prop.enc 0 h4) ?_
    refine dX (x_ldE api_Prop.enc h4) ?_
    refine dC (fleetref2_fromValues_1_ok h5) [] [] [] ?_
    refine dR 2 ?_
    refine dE ?_
    exact oO hF [] [] rfl
  · refine aD ?_
    refine dR 2 ?_
    refine dB h2 ?_
    refine dR 14 ?_
    refine dE ?_
    exact oO hF [] [] rfl

def slices_insertionSortCmpFunc_api_Prop_o0_f3_fleetref2_fromValues_1_x2_k : (List api_Prop) → AEx
  | _ => .exit 2

def slices_insertionSortCmpFunc_api_Prop_o0_f3_fleetref2_fromValues_1_x2_S (qa : Int) (qb : Int) (vi : Int) : (List api_Prop) → St
  | vl4 => Mem.st ⟨[(0, ⟨43, 5, List.map api_Prop.enc vl4⟩)], []⟩ (tl [(0, .c (.own 0 none)), (1, .i qa), (2, .i qb), (3, .c (.fn 69 [])), (8, .i vi)]) 1

def slices_insertionSortCmpFunc_api_Prop_o0_f3_fleetref2_fromValues_1_x2_H (qa : Int) (qb : Int) (vi : Int) : (List api_Prop) × Int → St
  | (vl3, vj1) => Mem.st ⟨[(0, ⟨43, 5, List.map api_Prop.enc vl3⟩)], []⟩ (tl [(0, .c (.own 0 none)), (1, .i qa), (2, .i qb), (3, .c (.fn 69 [])), (8, .i vi), (9, .i vj1)]) 1

theorem slices_insertionSortCmpFunc_api_Prop_o0_f3_fleetref2_fromValues_1_x2_ok (qa : Int) (qb : Int) (vi : Int) (s : (List api_Prop) × Int) (r : ((List api_Prop) × Int) ⊕ ((List api_Prop))) (hF : slices_insertionSortCmpFunc_api_Prop_o0_f3_fleetref2_fromValues_1_x2 qa s = some r) : Awp prog 1 53 (cL (cL (cR (cL (cL (cR (cL (cL (cR (cB f112)))))))))) (Out 1 (kk slices_insertionSortCmpFunc_api_Prop_o0_f3_fleetref2_fromValues_1_x2_k) (SS (slices_insertionSortCmpFunc_api_Prop_o0_f3_fleetref2_fromValues_1_x2_H qa qb vi) (slices_insertionSortCmpFunc_api_Prop_o0_f3_fleetref2_fromValues_1_x2_S qa qb vi)) r) (slices_insertionSortCmpFunc_api_Prop_o0_f3_fleetref2_fromValues_1_x2_H qa qb vi s) := by
  obtain ⟨vl3, vj1⟩ := s
  unfold slices_insertionSortCmpFunc_api_Prop_o0_f3_fleetref2_fromValues_1_x2 at hF
  refine awp_seq (awp_seq (awp_to (st' := slices_insertionSortCmpFunc_api_Prop_o0_f3_fleetref2_fromValues_1_x3_I qa qb vi vl3 vj1) (oT [] []) ?_))
  refine bE hF fun vx4_1 h6 hF => awp_sub (slices_insertionSortCmpFunc_api_Prop_o0_f3_fleetref2_fromValues_1_x3_ok qa qb vi vl3 vj1 h6) ?_
  refine cE hF (fun h7 hF => ?_) fun h7 hF => ?_
  · refine tT h7 (awp_skip (awp_seq (awp_block (bE hF fun vy17 h8 hF => bE hF fun vy18 h9 hF => bE hF fun vy19 h10 hF => aDw [0] ?_))))
    refine dR 8 ?_
    refine dI api_Prop.enc 0 h8 rfl ?_
    refine dX (x_ldE api_Prop.enc h8) ?_
    refine dR 2 ?_
    refine dI api_Prop.enc 0 h9 rfl ?_
    refine dX (x_ldE api_Prop.enc h9) ?_
    refine dI api_Prop.enc 0 h9 rfl ?_
    refine dW api_Prop.enc (api_Prop.mk vy17.Name (api_Value.mk vy17.Value.Kind vy17.Value.Flag vy17.Value.Number vy17.Value.Words)) h9 rfl ?_
    refine dI api_Prop.enc 0 h10 rfl ?_
    refine dW api_Prop.enc (api_Prop.mk vy18.Name (api_Value.mk vy18.Value.Kind vy18.Value.Flag vy18.Value.Number vy18.Value.Words)) h10 rfl ?_
    refine dE ?_
    exact gR 3 (oO hF [] [] rfl)
  · refine tF h7 (awp_exit ?_)
    exact oO hF [] [] rfl

def slices_insertionSortCmpFunc_api_Prop_o0_f3_fleetref2_fromValues_1_x1_k : (List api_Prop) → AEx
  | _ => .exit 0

def slices_insertionSortCmpFunc_api_Prop_o0_f3_fleetref2_fromValues_1_x1_S (qa : Int) (qb : Int) : (List api_Prop) → St
  | vl5 => Mem.st ⟨[(0, ⟨43, 5, List.map api_Prop.enc vl5⟩)], []⟩ (tl []) 1

def slices_insertionSortCmpFunc_api_Prop_o0_f3_fleetref2_fromValues_1_x1_H (qa : Int) (qb : Int) : (List api_Prop) × Int → St
  | (vl, vi) => Mem.st ⟨[(0, ⟨43, 5, List.map api_Prop.enc vl⟩)], []⟩ (tl [(0, .c (.own 0 none)), (1, .i qa), (2, .i qb), (3, .c (.fn 69 [])), (8, .i vi)]) 1

theorem slices_insertionSortCmpFunc_api_Prop_o0_f3_fleetref2_fromValues_1_x1_ok (qa : Int) (qb : Int) (s : (List api_Prop) × Int) (r : ((List api_Prop) × Int) ⊕ ((List api_Prop))) (hF : slices_insertionSortCmpFunc_api_Prop_o0_f3_fleetref2_fromValues_1_x1 qa qb s = some r) : Awp prog 1 53 (cL (cL (cR (cB f112)))) (Out 1 (kk slices_insertionSortCmpFunc_api_Prop_o0_f3_fleetref2_fromValues_1_x1_k) (SS (slices_insertionSortCmpFunc_api_Prop_o0_f3_fleetref2_fromValues_1_x1_H qa qb) (slices_insertionSortCmpFunc_api_Prop_o0_f3_fleetref2_fromValues_1_x1_S qa qb)) r) (slices_insertionSortCmpFunc_api_Prop_o0_f3_fleetref2_fromValues_1_x1_H qa qb s) := by
  obtain ⟨vl, vi⟩ := s
  unfold slices_insertionSortCmpFunc_api_Prop_o0_f3_fleetref2_fromValues_1_x1 at hF
  refine awp_seq (sR 3 (cE hF (fun h1 hF => ?_) fun h1 hF => ?_))
  · refine tT h1 (awp_skip (awp_seq (awp_block (sR 2 (awp_block (awp_to (st' := slices_insertionSortCmpFunc_api_Prop_o0_f3_fleetref2_fromValues_1_x2_H qa qb vi (vl, vi)) (oT [] []) ?_))))))
    refine bE hF fun vl4_1 h11 hF => awp_sub (awp_loop' (slices_insertionSortCmpFunc_api_Prop_o0_f3_fleetref2_fromValues_1_x2_H qa qb vi) slices_insertionSortCmpFunc_api_Prop_o0_f3_fleetref2_fromValues_1_x2_k (slices_insertionSortCmpFunc_api_Prop_o0_f3_fleetref2_fromValues_1_x2_S qa qb vi) (by intro x; exact fun h => nomatch h) h11 (slices_insertionSortCmpFunc_api_Prop_o0_f3_fleetref2_fromValues_1_x2_ok qa qb vi)) ?_
    exact gR 3 (oO hF [] [] rfl)
  · refine tF h1 (awp_exit ?_)
    exact oO hF [] [] rfl

def slices_insertionSortCmpFunc_api_Prop_o0_f3_fleetref2_fromValues_1_R (qdata : List api_Prop) (qa : Int) (qb : Int) (r : (List api_Prop)) : TV × Mem := (.tup [], ⟨[(0, ⟨43, 5, List.map api_Prop.enc r⟩)], []⟩)

theorem slices_insertionSortCmpFunc_api_Prop_o0_f3_fleetref2_fromValues_1_ok {qdata : List api_Prop} {qa : Int} {qb : Int} {r} (hF : slices_insertionSortCmpFunc_api_Prop_o0_f3_fleetref2_fromValues_1 qdata qa qb = some r) : Holds prog 112 [.c (.own 0 none), .i qa, .i qb, .c (.fn 69 [])] ⟨[(0, ⟨43, 5, List.map api_Prop.enc qdata⟩)], []⟩ (Is (slices_insertionSortCmpFunc_api_Prop_o0_f3_fleetref2_fromValues_1_R qdata qa qb r)) := by
  unfold slices_insertionSortCmpFunc_api_Prop_o0_f3_fleetref2_fromValues_1 at hF
  refine hW f112 53 1 1 ?_
  refine sR 3 (awp_block (awp_to (st' := slices_insertionSortCmpFunc_api_Prop_o0_f3_fleetref2_fromValues_1_x1_H qa qb (qdata, IntKind.wrap .i64 (qa + 1))) (oT [] []) ?_))
  refine bE hF fun vl5_1 h12 hF => awp_sub (awp_loop' (slices_insertionSortCmpFunc_api_Prop_o0_f3_fleetref2_fromValues_1_x1_H qa qb) slices_insertionSortCmpFunc_api_Prop_o0_f3_fleetref2_fromValues_1_x1_k (slices_insertionSortCmpFunc_api_Prop_o0_f3_fleetref2_fromValues_1_x1_S qa qb) (by intro x; exact fun h => nomatch h) h12 (slices_insertionSortCmpFunc_api_Prop_o0_f3_fleetref2_fromValues_1_x1_ok qa qb)) ?_
  exact oF hF [] []

/-! ### slices.pdqsortCmpFunc[beaconfleet/api.Prop] -/
def slices_pdqsortCmpFunc_api_Prop_o0_f4_fleetref2_fromValues_1_x1_k : (List api_Prop) → AEx
  | _ => .ret

def slices_pdqsortCmpFunc_api_Prop_o0_f4_fleetref2_fromValues_1_x1_S (qx : List api_Prop) (qx1 : Int) (qx2 : Int) (qx3 : Int) : (List api_Prop) → St
  | vl => Mem.st ⟨[(0, ⟨43, 5, List.map api_Prop.enc vl⟩)], []⟩ (tl []) 1

def slices_pdqsortCmpFunc_api_Prop_o0_f4_fleetref2_fromValues_1_x1_H (qx : List api_Prop) (qx1 : Int) (qx2 : Int) (qx3 : Int) : Unit → St
  | _ => Mem.st ⟨[(0, ⟨43, 5, List.map api_Prop.enc qx⟩)], []⟩ (tl [(0, .c (.own 0 none)), (1, .i qx1), (2, .i qx2), (3, .i qx3), (4, .c (.fn 69 [])), (10, .b true), (11, .b true)]) 1

theorem slices_pdqsortCmpFunc_api_Prop_o0_f4_fleetref2_fromValues_1_x1_ok (qx : List api_Prop) (qx1 : Int) (qx2 : Int) (qx3 : Int) (s : Unit) (r : (Unit) ⊕ ((List api_Prop))) (hF : slices_pdqsortCmpFunc_api_Prop_o0_f4_fleetref2_fromValues_1_x1 qx qx1 qx2 qx3 s = some r) : Awp prog 1 148 (cL (cL (cR (cR (cB f67))))) (Out 1 (kk slices_pdqsortCmpFunc_api_Prop_o0_f4_fleetref2_fromValues_1_x1_k) (SS (slices_pdqsortCmpFunc_api_Prop_o0_f4_fleetref2_fromValues_1_x1_H qx qx1 qx2 qx3) (slices_pdqsortCmpFunc_api_Prop_o0_f4_fleetref2_fromValues_1_x1_S qx qx1 qx2 qx3)) r) (slices_pdqsortCmpFunc_api_Prop_o0_f4_fleetref2_fromValues_1_x1_H qx qx1 qx2 qx3 s) := by
  unfold slices_pdqsortCmpFunc_api_Prop_o0_f4_fleetref2_fromValues_1_x1 at hF
  refine awp_block (sR 4 (awp_seq (sR 2 (cE hF (fun h1 hF => ?_) fun h1 hF => ?_))))
  · refine tT h1 (awp_seq (bE hF fun vl6_1 h2 hF => gE hF fun h3 hF => ?_))
    refine awp_region (aR 4 (aCp (slices_insertionSortCmpFunc_api_Prop_o0_f3_fleetref2_fromValues_1_ok h2) ⟨⟨rfl, rfl, pin1 h3⟩, trivial⟩ [] [] [] ?_))
    refine aE ?_
    exact awp_ret (oO hF [] [] rfl)
  · refine tF h1 (awp_skip (awp_seq (sR 2 (cE hF (fun h4 hF => ?_) fun h4 hF => ?_))))
    · exact tT h4 (awp_seq (nE hF))
    · exact tF h4 (awp_skip (awp_seq (sR 2 (tF rfl (awp_skip (awp_seq (nE hF)))))))

def slices_pdqsortCmpFunc_api_Prop_o0_f4_fleetref2_fromValues_1_R (qx : List api_Prop) (qx1 : Int) (qx2 : Int) (qx3 : Int) (r : (List api_Prop)) : TV × Mem := (.tup [], ⟨[(0, ⟨43, 5, List.map api_Prop.enc r⟩)], []⟩)

theorem slices_pdqsortCmpFunc_api_Prop_o0_f4_fleetref2_fromValues_1_ok {qx : List api_Prop} {qx1 : Int} {qx2 : Int} {qx3 : Int} {r} (hF : slices_pdqsortCmpFunc_api_Prop_o0_f4_fleetref2_fromValues_1 qx qx1 qx2 qx3 = some r) : Holds prog 67 [.c (.own 0 none), .i qx1, .i qx2, .i qx3, .c (.fn 69 [])] ⟨[(0, ⟨43, 5, List.map api_Prop.enc qx⟩)], []⟩ (Is (slices_pdqsortCmpFunc_api_Prop_o0_f4_fleetref2_fromValues_1_R qx qx1 qx2 qx3 r)) := by
  unfold slices_pdqsortCmpFunc_api_Prop_o0_f4_fleetref2_fromValues_1 at hF
  refine hW f67 148 1 1 ?_
  refine sR 1 (sR 1 (awp_block (awp_to (st' := slices_pdqsortCmpFunc_api_Prop_o0_f4_fleetref2_fromValues_1_x1_H qx qx1 qx2 qx3 ()) (oT [] []) ?_)))
  refine bE hF fun vl1 h7 hF => awp_sub (awp_loop' (slices_pdqsortCmpFunc_api_Prop_o0_f4_fleetref2_fromValues_1_x1_H qx qx1 qx2 qx3) slices_pdqsortCmpFunc_api_Prop_o0_f4_fleetref2_fromValues_1_x1_k (slices_pdqsortCmpFunc_api_Prop_o0_f4_fleetref2_fromValues_1_x1_S qx qx1 qx2 qx3) (by intro x; exact fun h => nomatch h) h7 (slices_pdqsortCmpFunc_api_Prop_o0_f4_fleetref2_fromValues_1_x1_ok qx qx1 qx2 qx3)) ?_
  exact oF hF [] []

/-! ### slices.SortFunc[[]beaconfleet/api.Prop,beaconfleet/api.Prop] -/
def slices_SortFunc_api_Prop_api_Prop_o0_f1_fleetref2_fromValues_1_R (qx : List api_Prop) (r : (List api_Prop)) : TV × Mem := (.tup [], ⟨[(0, ⟨43, 5, List.map api_Prop.enc r⟩)], []⟩)

theorem slices_SortFunc_api_Prop_api_Prop_o0_f1_fleetref2_fromValues_1_ok {qx : List api_Prop} {r} (hF : slices_SortFunc_api_Prop_api_Prop_o0_f1_fleetref2_fromValues_1 qx = some r) : Holds prog 26 [.c (.own 0 none), .c (.fn 69 [])] ⟨[(0, ⟨43, 5, List.map api_Prop.enc qx⟩)], []⟩ (Is (slices_SortFunc_api_Prop_api_Prop_o0_f1_fleetref2_fromValues_1_R qx r)) := by
  unfold slices_SortFunc_api_Prop_api_Prop_o0_f1_fleetref2_fromValues_1 at hF
  refine hW f26 14 1 1 ?_
  refine awp_seq (awp_region (aR 1 (aL api_Prop.enc qx (aR 1 (aE ?_)))))
  refine bE hF fun vr1 h1 hF => bE hF fun vl2 h2 hF => gE hF fun h3 hF => ?_
  refine awp_region (aR 4 (aC (bits_Len_ok h1) [] [] [] (aR 1 (aCp (slices_pdqsortCmpFunc_api_Prop_o0_f4_fleetref2_fromValues_1_ok h2) ⟨⟨rfl, rfl, pin1 h3⟩, trivial⟩ [] [] [] ?_))))
  refine aE ?_
  exact oF hF [] []

/-! ### beaconfleet/fleetref2.fromValues -/
def fleetref2_fromValues_x1_k : (List api_Prop) → AEx
  | _ => .exit 0

def fleetref2_fromValues_x1_S (qm : List (List UInt8 × api_Value)) (vme : List (Nat × List D × List D)) (vcl : Nat) (vhp : (List.map (encM D.str api_Value.enc) qm).Perm (List.map (·.2) vme)) : (List api_Prop) → St
  | vout1 => Mem.st ⟨[(1, ⟨43, 5, List.map api_Prop.enc vout1⟩)], [(0, [.mapc .str true (List.map (encM D.str api_Value.enc) qm)])]⟩ (tl [(4, .c (.own 1 none))]) 2

def fleetref2_fromValues_x1_H (qm : List (List UInt8 × api_Value)) (vme : List (Nat × List D × List D)) (vcl : Nat) (vhp : (List.map (encM D.str api_Value.enc) qm).Perm (List.map (·.2) vme)) (vl : List (List UInt8 × api_Value)) : (List api_Prop) → St
  | vout => Mem.st ⟨[(2, ⟨43, 5, List.map api_Prop.enc vout⟩)], [(0, [.mapg .str true vme vcl]), (1, [.iterc 0 vme vcl (List.map (encM D.str api_Value.enc) vl) none])]⟩ (tl [(4, .c (.own 2 none)), (9, .c (.box 1 0))]) 3

theorem fleetref2_fromValues_x1_ok (qm : List (List UInt8 × api_Value)) (vme : List (Nat × List D × List D)) (vcl : Nat) (vhp : (List.map (encM D.str api_Value.enc) qm).Perm (List.map (·.2) vme)) (vl : List (List UInt8 × api_Value)) (vout : (List api_Prop)) (hE : vl = [] → ∃ x, fleetref2_fromValues_x1 none vout = some x) (hP : ∀ e l', List.Perm vl (e :: l') → ∃ x, fleetref2_fromValues_x1 (some e) vout = some x) : Awp prog 1 32 (cL (cL (cR (cL (cR (cR (cB f28))))))) (OutR 1 fleetref2_fromValues_x1_k (fleetref2_fromValues_x1) (fleetref2_fromValues_x1_H qm vme vcl vhp) (fleetref2_fromValues_x1_S qm vme vcl vhp) vl vout) (fleetref2_fromValues_x1_H qm vme vcl vhp vl vout) := by
  refine awp_seq (awp_region (aNext (ka := .str) (va := true) (me := vme) (cl := vcl) (cur := none) 1 0 (encM D.str api_Value.enc) vl rfl (fun h3 => ?_) (fun ve1 vl2 vb1 h4 => ?_)))
  · obtain ⟨x, hF0⟩ := hE h3
    have hF := hF0
    unfold fleetref2_fromValues_x1 at hF
    refine aR 1 (aE ?_)
    refine awp_seq (tF rfl (awp_close (ka := .str) (va := true) (me := vme) (cl := vcl) 0 vhp ?_))
    refine awp_exit ?_
    exact outE h3 hF0 (oO hF [(1, 2)] [] rfl)
  · obtain ⟨x, hF0⟩ := hP _ _ h4
    have hF := hF0
    unfold fleetref2_fromValues_x1 at hF
    refine aR 1 (aE ?_)
    refine awp_seq (tT rfl (awp_skip (awp_block (awp_seq (awp_region (aEntry (ka := .str) (va := true) (me := vme) (cl := vcl) (b := vb1) (rest := List.map (encM D.str api_Value.enc) vl2) 1 0 (encM D.str api_Value.enc) ve1 rfl ?_))))))
    refine aR 5 (aE ?_)
    refine sR 3 (cE hF (fun h5 hF => ?_) fun h5 hF => ?_)
    · refine tT h5 (gE hF fun h6 hF => ?_)
      refine awp_region (aR 5 (aX (x_app api_Prop.enc 2 h6) (aR 1 (aE ?_))))
      exact outP h4 hF0 (outCur (idM := 0) (me := vme) (cl := vcl) (rest := List.map (encM D.str api_Value.enc) vl2) (cur := some (vb1, (encM D.str api_Value.enc) ve1)) 1 <| oO hF [(2, 16003)] [] rfl)
    · exact tF h5 (awp_skip (outP h4 hF0 (outCur (idM := 0) (me := vme) (cl := vcl) (rest := List.map (encM D.str api_Value.enc) vl2) (cur := some (vb1, (encM D.str api_Value.enc) ve1)) 1 <| oO hF [] [] rfl)))

def fleetref2_fromValues_R (qm : List (List UInt8 × api_Value)) (r : (List api_Prop) × Int) : TV × Mem := (.tup [.one (.own 1 none), .one (.i r.2)], ⟨[(1, ⟨43, 5, List.map api_Prop.enc r.1⟩)], [(0, [.mapc .str true (List.map (encM D.str api_Value.enc) qm)])]⟩)

theorem fleetref2_fromValues_ok {qm : List (List UInt8 × api_Value)} {r} (hF : fleetref2_fromValues qm = some r) : Holds prog 28 [.c (.mapp 0)] ⟨[], [(0, [.mapc .str true (List.map (encM D.str api_Value.enc) qm)])]⟩ (Is (fleetref2_fromValues_R qm r)) := by
  unfold fleetref2_fromValues at hF
  refine hW f28 32 1 1 ?_
  refine sR 2 (sR 1 (awp_seq (awp_seq (awp_region (aR 1 (aRange (ka := .str) (va := true) 0 (encM D.str api_Value.enc) qm rfl (fun vme vcl vhp => ?_)))))))
  refine aE ?_
  refine awp_block (awp_to (st' := fleetref2_fromValues_x1_H qm vme vcl vhp qm []) (oT [(1, 4001)] [2]) ?_)
  refine rG (H := fleetref2_fromValues_x1_H qm vme vcl vhp) (k := fleetref2_fromValues_x1_k) (S := fleetref2_fromValues_x1_S qm vme vcl vhp) hF (by intro x; exact fun h => nomatch h) (fun l s => fleetref2_fromValues_x1_ok qm vme vcl vhp l s) (fun vout1_1 hF => ?_)
  refine awp_seq (bE hF fun vl3 h8 hF => gE hF fun h9 hF => ?_)
  refine awp_region (aR 1 (aCp (slices_SortFunc_api_Prop_api_Prop_o0_f1_fleetref2_fromValues_1_ok h8) ⟨⟨rfl, rfl, pin1 h9⟩, trivial⟩ [(0, 1)] [] [] ?_))
  refine aE ?_
  refine awp_seq (awp_seq (bE hF fun vr h10 hF => awp_region (aR 1 (aC (fleetref2_PropsFault_ok h10) [] [] [1] (aR 1 (aE ?_))))))
  refine sR 2 (cE hF (fun h11 hF => ?_) fun h11 hF => ?_)
  · exact tT h11 (sR 3 (awp_ret (oF hF [] [1])))
  · exact tF h11 (awp_skip (sR 3 (awp_ret (oF hF [] []))))

/-! ### beaconfleet/fleetref2.ApplyOf -/
def fleetref2_ApplyOf_o1_x1_k : (List (List UInt8 × api_Value)) → AEx
  | _ => .exit 0

def fleetref2_ApplyOf_o1_x1_S (ql : List api_Prop) (qc : List api_Change) : (List (List UInt8 × api_Value)) → St
  | vm1 => Mem.st ⟨[], [(1, [.mapc .str true (List.map (encM D.str api_Value.enc) vm1)])]⟩ (tl [(1, .c (.l api_Change.enc qc)), (6, .c (.mapp 1))]) 2

def fleetref2_ApplyOf_o1_x1_H (ql : List api_Prop) (qc : List api_Change) : (List (List UInt8 × api_Value)) × Int → St
  | (vm, vx) => Mem.st ⟨[], [(1, [.mapc .str true (List.map (encM D.str api_Value.enc) vm)])]⟩ (tl [(1, .c (.l api_Change.enc qc)), (6, .c (.mapp 1)), (12, .c (.l api_Prop.enc ql)), (13, .i (ql.length : Int)), (14, .i vx)]) 2

theorem fleetref2_ApplyOf_o1_x1_ok (ql : List api_Prop) (qc : List api_Change) (s : (List (List UInt8 × api_Value)) × Int) (r : ((List (List UInt8 × api_Value)) × Int) ⊕ ((List (List UInt8 × api_Value)))) (hF : fleetref2_ApplyOf_o1_x1 ql s = some r) : Awp prog 1 47 (cL (cL (cR (cL (cR (cR (cB f6))))))) (Out 1 (kk fleetref2_ApplyOf_o1_x1_k) (SS (fleetref2_ApplyOf_o1_x1_H ql qc) (fleetref2_ApplyOf_o1_x1_S ql qc)) r) (fleetref2_ApplyOf_o1_x1_H ql qc s) := by
  obtain ⟨vm, vx⟩ := s
  unfold fleetref2_ApplyOf_o1_x1 at hF
  refine sR 1 (awp_seq (cE hF (fun h1 hF => ?_) fun h1 hF => ?_))
  · refine tT h1 (awp_skip (awp_seq (awp_block (awp_seq (bE hF fun vy1 h2 hF => awp_region (aX (x_idx api_Prop.enc h2) (aR 3 (aE ?_))))))))
    refine awp_region (aR 5 (aPut 1 .str true (l := vm) (key := vy1.Name) (v := (api_Value.mk vy1.Value.Kind vy1.Value.Flag vy1.Value.Number vy1.Value.Words)) D.str api_Value.enc rfl ?_))
    refine aE ?_
    exact gR 2 (oO hF [] [] rfl)
  · refine tF h1 (awp_exit ?_)
    exact oO hF [] [] rfl

def fleetref2_ApplyOf_o1_x2_k : (List (List UInt8 × api_Value)) ⊕ Unit → AEx
  | .inl _ => .exit 2
  | .inr _ => .ret

def fleetref2_ApplyOf_o1_x2_S (qc : List api_Change) : (List (List UInt8 × api_Value)) ⊕ Unit → St
  | .inl vm3 => Mem.st ⟨[], [(1, [.mapc .str true (List.map (encM D.str api_Value.enc) vm3)])]⟩ (tl [(6, .c (.mapp 1))]) 2
  | .inr _ => Mem.st ⟨[], []⟩ (tl [(4, .c (.nil)), (5, .i 13)]) 1

def fleetref2_ApplyOf_o1_x2_H (qc : List api_Change) : (List (List UInt8 × api_Value)) × Int → St
  | (vm2, vx1) => Mem.st ⟨[], [(1, [.mapc .str true (List.map (encM D.str api_Value.enc) vm2)])]⟩ (tl [(6, .c (.mapp 1)), (24, .c (.l api_Change.enc qc)), (25, .i (qc.length : Int)), (26, .i vx1)]) 2

theorem fleetref2_ApplyOf_o1_x2_ok (qc : List api_Change) (s : (List (List UInt8 × api_Value)) × Int) (r : ((List (List UInt8 × api_Value)) × Int) ⊕ ((List (List UInt8 × api_Value)) ⊕ Unit)) (hF : fleetref2_ApplyOf_o1_x2 qc s = some r) : Awp prog 1 47 (cL (cL (cR (cL (cR (cR (cR (cB f6)))))))) (Out 1 (kk fleetref2_ApplyOf_o1_x2_k) (SS (fleetref2_ApplyOf_o1_x2_H qc) (fleetref2_ApplyOf_o1_x2_S qc)) r) (fleetref2_ApplyOf_o1_x2_H qc s) := by
  obtain ⟨vm2, vx1⟩ := s
  unfold fleetref2_ApplyOf_o1_x2 at hF
  refine sR 1 (awp_seq (cE hF (fun h4 hF => ?_) fun h4 hF => ?_))
  · refine tT h4 (awp_skip (awp_seq (awp_block (awp_seq (bE hF fun vy3 h5 hF => awp_region (aX (x_idx api_Change.enc h5) (aR 3 (aE ?_))))))))
    refine awp_seq (awp_seq (bE hF fun ve1 h6 hF => awp_region (aR 3 (aX (x_get 1 true D.str api_Value.enc h6) (aR 2 (aS (does_eqS (op := .neq) (xs := [.int .i64 ve1.Kind, .bool ve1.Flag, .int .i64 ve1.Number, .str ve1.Words]) (ys := [.int .i64 vy3.From.Kind, .bool vy3.From.Flag, .int .i64 vy3.From.Number, .str vy3.From.Words]) (b := (decide (ve1.Kind = vy3.From.Kind) && ((ve1.Flag == vy3.From.Flag) && (decide (ve1.Number = vy3.From.Number) && (decide (ve1.Words = vy3.From.Words) && true))))) (c := (!(decide (ve1.Kind = vy3.From.Kind) && ((ve1.Flag == vy3.From.Flag) && (decide (ve1.Number = vy3.From.Number) && (decide (ve1.Words = vy3.From.Words) && true)))))) rfl (.inr ⟨rfl, rfl⟩) (by kernel_rfl) (by kernel_rfl) (by kernel_rfl) (by kernel_rfl) (by kernel_rfl) (by kernel_rfl)) ?_))))))
    refine aE ?_
    refine cE hF (fun h7 hF => ?_) fun h7 hF => ?_
    · exact tT h7 (sR 2 (awp_ret (oO hF [] [] rfl)))
    · refine tF h7 (awp_skip (awp_region (aR 5 (aPut 1 .str true (l := vm2) (key := vy3.Name) (v := (api_Value.mk vy3.To.Kind vy3.To.Flag vy3.To.Number vy3.To.Words)) D.str api_Value.enc rfl ?_))))
      refine aE ?_
      exact gR 2 (oO hF [] [] rfl)
  · refine tF h4 (awp_exit ?_)
    exact oO hF [] [] rfl

def fleetref2_ApplyOf_o1_R (ql : List api_Prop) (qc : List api_Change) (r : (List api_Prop) × Int) : TV × Mem := (.tup [.one (.own 1 none), .one (.i r.2)], ⟨[(1, ⟨43, 5, List.map api_Prop.enc r.1⟩)], []⟩)

theorem fleetref2_ApplyOf_o1_ok {ql : List api_Prop} {qc : List api_Change} {r} (hF : fleetref2_ApplyOf_o1 ql qc = some r) : Holds prog 6 [.c (.l api_Prop.enc ql), .c (.own 0 none)] ⟨[(0, ⟨70, 9, List.map api_Change.enc qc⟩)], []⟩ (Is (fleetref2_ApplyOf_o1_R ql qc r)) := by
  unfold fleetref2_ApplyOf_o1 at hF
  refine hW f6 47 1 1 ?_
  refine sR 2 (awp_to (oT (m := ⟨[], []⟩) (ts := [(0, .c (.l api_Prop.enc ql)), (1, .c (.l api_Change.enc qc))]) (nx := 1) [] []) ?_)
  refine awp_seq (awp_region (aX (x_map .str true (κ := List UInt8) (β := api_Value) D.str api_Value.enc) (aR 1 (aE ?_))))
  refine awp_seq (awp_seq (awp_region (aR 1 (aL api_Prop.enc ql (aR 1 (aE ?_))))))
  refine awp_block (awp_to (st' := fleetref2_ApplyOf_o1_x1_H ql qc (([] : List (List UInt8 × api_Value)), 0)) (oT [] []) ?_)
  refine bE hF fun vm1_1 h3 hF => awp_sub (awp_loop' (fleetref2_ApplyOf_o1_x1_H ql qc) fleetref2_ApplyOf_o1_x1_k (fleetref2_ApplyOf_o1_x1_S ql qc) (by intro x; exact fun h => nomatch h) h3 (fleetref2_ApplyOf_o1_x1_ok ql qc)) ?_
  refine awp_seq (awp_seq (awp_region (aR 1 (aL api_Change.enc qc (aR 1 (aE ?_))))))
  refine awp_block (awp_to (st' := fleetref2_ApplyOf_o1_x2_H qc (vm1_1, 0)) (oT [] []) ?_)
  refine bE hF fun x h8 hF => ?_
  rcases x with vm3_1 | _
  · refine awp_sub (awp_loop' (fleetref2_ApplyOf_o1_x2_H qc) fleetref2_ApplyOf_o1_x2_k (fleetref2_ApplyOf_o1_x2_S qc) (by intro x; rcases x with x | x <;> exact fun h => nomatch h) h8 (fleetref2_ApplyOf_o1_x2_ok qc)) ?_
    refine awp_seq (bE hF fun x h9 hF => ?_)
    obtain ⟨vr1, vr2⟩ := x
    refine awp_region (aR 1 (aC (fleetref2_fromValues_ok h9) [(0, 1)] [] [] (aR 4 (aE ?_))))
    exact awp_ret (oF hF [(1, 1003)] [])
  · refine awp_sub (awp_loop' (fleetref2_ApplyOf_o1_x2_H qc) fleetref2_ApplyOf_o1_x2_k (fleetref2_ApplyOf_o1_x2_S qc) (by intro x; rcases x with x | x <;> exact fun h => nomatch h) h8 (fleetref2_ApplyOf_o1_x2_ok qc)) ?_
    exact oF hF [] [1]

/-! ### internal/stringslite.Cut -/
def stringslite_Cut_R (qs : List UInt8) (qsep : List UInt8) (r : (List UInt8) × (List UInt8) × Bool) : TV × Mem := (.tup [.one (.s r.1), .one (.s r.2.1), .one (.t r.2.2)], ⟨[], []⟩)

theorem stringslite_Cut_ok {qs : List UInt8} {qsep : List UInt8} {r} (hF : stringslite_Cut qs qsep = some r) : Holds prog 199 [.c (.s qs), .c (.s qsep)] ⟨[], []⟩ (Is (stringslite_Cut_R qs qsep r)) := by
  unfold stringslite_Cut at hF
  refine hW f199 23 0 0 ?_
  refine sR 3 (awp_seq (awp_seq (bE hF fun vr h1 hF => awp_region (aR 2 (aC (stringslite_Index_ok h1) [] [] [] (aR 1 (aE ?_)))))))
  refine sR 2 (cE hF (fun h2 hF => ?_) fun h2 hF => ?_)
  · refine tT h2 (awp_seq (bE hF fun vs h3 hF => bE hF fun vs1 h4 hF => aD ?_))
    refine dR 2 ?_
    refine dX (x_sliceS h3) ?_
    refine dR 5 ?_
    refine dX (x_sliceS h4) ?_
    refine dR 3 ?_
    refine dE ?_
    exact awp_ret (oF hF [] [])
  · exact tF h2 (awp_skip (sR 4 (awp_ret (oF hF [] []))))

/-! ### strings.Cut -/
def strings_Cut_R (qs : List UInt8) (qsep : List UInt8) (r : (List UInt8) × (List UInt8) × Bool) : TV × Mem := (.tup [.one (.s r.1), .one (.s r.2.1), .one (.t r.2.2)], ⟨[], []⟩)

theorem strings_Cut_ok {qs : List UInt8} {qsep : List UInt8} {r} (hF : strings_Cut qs qsep = some r) : Holds prog 164 [.c (.s qs), .c (.s qsep)] ⟨[], []⟩ (Is (strings_Cut_R qs qsep r)) := by
  unfold strings_Cut at hF
  refine hW f164 13 0 0 ?_
  refine sR 3 (awp_seq (bE hF fun x h1 hF => ?_))
  obtain ⟨vr1, vr2, vr3⟩ := x
  refine awp_region (aR 2 (aC (stringslite_Cut_ok h1) [] [] [] (aR 6 (aE ?_))))
  exact awp_ret (oF hF [] [])

/-! ### beaconfleet/base.Key -/
def base_Key_x1_S (qs : List UInt8) : Bool → St
  | vx => Mem.st ⟨[], []⟩ (tl [(0, .c (.s qs)), (21, .b vx)]) 0

def base_Key_x1_I (qs : List UInt8) : St := Mem.st ⟨[], []⟩ (tl [(0, .c (.s qs))]) 0

theorem base_Key_x1_ok (qs : List UInt8) {r} (hF : base_Key_x1 qs = some r) : Awp prog 0 54 (cL (cL (cR (cB f134)))) (Out 0 nrm (base_Key_x1_S qs) r) (base_Key_x1_I qs) := by
  unfold base_Key_x1 at hF
  refine cE hF (fun h1 hF => ?_) fun h1 hF => ?_
  · refine awp_region (aR 1 (aB h1 (aR 15 (aE ?_))))
    exact oO hF [] [] rfl
  · refine cE hF (fun h2 hF => ?_) fun h2 hF => ?_
    · refine awp_region (aR 1 (aB h1 (aR 3 (aB h2 (aR 11 (aE ?_))))))
      exact oO hF [] [] rfl
    · refine bE hF fun vc h3 hF => cE hF (fun h4 hF => ?_) fun h4 hF => ?_
      · refine awp_region (aR 1 (aB h1 (aR 3 (aB h2 (aR 3 (aX (x_idxS h3) (aB h4 (aR 6 (aE ?_)))))))))
        exact oO hF [] [] rfl
      · refine awp_region (aR 1 (aB h1 (aR 3 (aB h2 (aR 3 (aX (x_idxS h3) (aB h4 (aR 3 (aX (x_idxS h3) (aR 2 (aE ?_)))))))))))
        exact oO hF [] [] rfl

def base_Key_x3_S (qs : List UInt8) (vx2 : Int) (vc2 : UInt8) : Bool → St
  | vx4 => Mem.st ⟨[], []⟩ (tl [(0, .c (.s qs)), (23, .i (qs.length : Int)), (24, .i vx2), (52, .b vx4)]) 0

def base_Key_x3_I (qs : List UInt8) (vx2 : Int) (vc2 : UInt8) : St := Mem.st ⟨[], []⟩ (tl [(0, .c (.s qs)), (4, .c (.d (.int .u8 (vc2.toNat : Int)))), (23, .i (qs.length : Int)), (24, .i vx2)]) 0

theorem base_Key_x3_ok (qs : List UInt8) (vx2 : Int) (vc2 : UInt8) {r} (hF : base_Key_x3 vc2 = some r) : Awp prog 0 54 (cL (cR (cR (cL (cL (cR (cR (cL (cL (cR (cL (cR (cR (cB f134)))))))))))))) (Out 0 nrm (base_Key_x3_S qs vx2 vc2) r) (base_Key_x3_I qs vx2 vc2) := by
  unfold base_Key_x3 at hF
  refine cE hF (fun h9 hF => ?_) fun h9 hF => ?_
  · refine cE hF (fun h10 hF => ?_) fun h10 hF => ?_
    · refine awp_region (aR 1 (aB h9 (aR 2 (aB h10 (aR 18 (aE ?_))))))
      exact oO hF [] [] rfl
    · refine cE hF (fun h11 hF => ?_) fun h11 hF => ?_
      · refine cE hF (fun h12 hF => ?_) fun h12 hF => ?_
        · refine awp_region (aR 1 (aB h9 (aR 2 (aB h10 (aR 3 (aB h11 (aR 2 (aB h12 (aR 11 (aE ?_))))))))))
          exact oO hF [] [] rfl
        · refine cE hF (fun h13 hF => ?_) fun h13 hF => ?_
          · refine awp_region (aR 1 (aB h9 (aR 2 (aB h10 (aR 3 (aB h11 (aR 2 (aB h12 (aR 4 (aB h13 (aR 6 (aE ?_))))))))))))
            exact oO hF [] [] rfl
          · refine awp_region (aR 1 (aB h9 (aR 2 (aB h10 (aR 3 (aB h11 (aR 2 (aB h12 (aR 4 (aB h13 (aR 6 (aE ?_))))))))))))
            exact oO hF [] [] rfl
      · refine cE hF (fun h14 hF => ?_) fun h14 hF => ?_
        · refine awp_region (aR 1 (aB h9 (aR 2 (aB h10 (aR 3 (aB h11 (aR 7 (aB h14 (aR 6 (aE ?_))))))))))
          exact oO hF [] [] rfl
        · refine awp_region (aR 1 (aB h9 (aR 2 (aB h10 (aR 3 (aB h11 (aR 7 (aB h14 (aR 6 (aE ?_))))))))))
          exact oO hF [] [] rfl
  · refine cE hF (fun h15 hF => ?_) fun h15 hF => ?_
    · refine cE hF (fun h16 hF => ?_) fun h16 hF => ?_
      · refine awp_region (aR 1 (aB h9 (aR 6 (aB h15 (aR 2 (aB h16 (aR 11 (aE ?_))))))))
        exact oO hF [] [] rfl
      · refine cE hF (fun h17 hF => ?_) fun h17 hF => ?_
        · refine awp_region (aR 1 (aB h9 (aR 6 (aB h15 (aR 2 (aB h16 (aR 4 (aB h17 (aR 6 (aE ?_))))))))))
          exact oO hF [] [] rfl
        · refine awp_region (aR 1 (aB h9 (aR 6 (aB h15 (aR 2 (aB h16 (aR 4 (aB h17 (aR 6 (aE ?_))))))))))
          exact oO hF [] [] rfl
    · refine cE hF (fun h18 hF => ?_) fun h18 hF => ?_
      · refine awp_region (aR 1 (aB h9 (aR 6 (aB h15 (aR 7 (aB h18 (aR 6 (aE ?_))))))))
        exact oO hF [] [] rfl
      · refine awp_region (aR 1 (aB h9 (aR 6 (aB h15 (aR 7 (aB h18 (aR 6 (aE ?_))))))))
        exact oO hF [] [] rfl

def base_Key_x2_k : Unit ⊕ Unit → AEx
  | .inl _ => .exit 0
  | .inr _ => .ret

def base_Key_x2_S (qs : List UInt8) : Unit ⊕ Unit → St
  | .inl _ => Mem.st ⟨[], []⟩ (tl []) 0
  | .inr _ => Mem.st ⟨[], []⟩ (tl [(2, .b false)]) 0

def base_Key_x2_H (qs : List UInt8) : Int → St
  | vx2 => Mem.st ⟨[], []⟩ (tl [(0, .c (.s qs)), (23, .i (qs.length : Int)), (24, .i vx2)]) 0

theorem base_Key_x2_ok (qs : List UInt8) (vx2 : Int) (r : (Int) ⊕ (Unit ⊕ Unit)) (hF : base_Key_x2 qs vx2 = some r) : Awp prog 0 54 (cL (cL (cR (cL (cR (cR (cB f134))))))) (Out 0 (kk base_Key_x2_k) (SS (base_Key_x2_H qs) (base_Key_x2_S qs)) r) (base_Key_x2_H qs vx2) := by
  unfold base_Key_x2 at hF
  refine sR 1 (awp_seq (cE hF (fun h7 hF => ?_) fun h7 hF => ?_))
  · refine tT h7 (awp_skip (awp_seq (awp_block (sR 2 (awp_seq (bE hF fun vc2 h8 hF => awp_region (aR 2 (aX (x_idxS h8) (aR 1 (aE ?_))))))))))
    refine awp_seq (awp_to (st' := base_Key_x3_I qs vx2 vc2) (oT [] []) ?_)
    refine bE hF fun vx4_1 h19 hF => awp_sub (base_Key_x3_ok qs vx2 vc2 h19) ?_
    refine cE hF (fun h20 hF => ?_) fun h20 hF => ?_
    · exact tT h20 (sR 1 (awp_ret (oO hF [] [] rfl)))
    · exact tF h20 (awp_skip (gR 2 (oO hF [] [] rfl)))
  · refine tF h7 (awp_exit ?_)
    exact oO hF [] [] rfl

def base_Key_R (qs : List UInt8) (r : Bool) : TV × Mem := (.b r, ⟨[], []⟩)

theorem base_Key_ok {qs : List UInt8} {r} (hF : base_Key qs = some r) : Holds prog 134 [.c (.s qs)] ⟨[], []⟩ (Is (base_Key_R qs r)) := by
  unfold base_Key at hF
  refine hW f134 54 0 0 ?_
  refine sR 1 (awp_seq (awp_seq (awp_to (st' := base_Key_x1_I qs) (oT [] []) ?_)))
  refine bE hF fun vx1 h5 hF => awp_sub (base_Key_x1_ok qs h5) ?_
  refine cE hF (fun h6 hF => ?_) fun h6 hF => ?_
  · exact tT h6 (sR 1 (awp_ret (oF hF [] [])))
  · refine tF h6 (awp_skip (awp_seq (sR 3 (awp_block (awp_to (st' := base_Key_x2_H qs 0) (oT [] []) ?_)))))
    refine bE hF fun x h21 hF => ?_
    rcases x with _ | _
    · refine awp_sub (awp_loop' (base_Key_x2_H qs) base_Key_x2_k (base_Key_x2_S qs) (by intro x; rcases x with x | x <;> exact fun h => nomatch h) h21 (base_Key_x2_ok qs)) ?_
      exact sR 1 (awp_ret (oF hF [] []))
    · refine awp_sub (awp_loop' (base_Key_x2_H qs) base_Key_x2_k (base_Key_x2_S qs) (by intro x; rcases x with x | x <;> exact fun h => nomatch h) h21 (base_Key_x2_ok qs)) ?_
      exact oF hF [] []

/-! ### beaconfleet/base.Dotted -/
def base_Dotted_x1_k : Unit ⊕ Bool → AEx
  | .inl _ => .exit 0
  | .inr _ => .ret

def base_Dotted_x1_S (qmost : Int) : Unit ⊕ Bool → St
  | .inl _ => Mem.st ⟨[], []⟩ (tl []) 0
  | .inr vx => Mem.st ⟨[], []⟩ (tl [(4, .b vx)]) 0

def base_Dotted_x1_H (qmost : Int) : (List UInt8) × Int → St
  | (vs, vn) => Mem.st ⟨[], []⟩ (tl [(0, .c (.s vs)), (1, .i qmost), (5, .i vn)]) 0

theorem base_Dotted_x1_ok (qmost : Int) (s : (List UInt8) × Int) (r : ((List UInt8) × Int) ⊕ (Unit ⊕ Bool)) (hF : base_Dotted_x1 qmost s = some r) : Awp prog 0 26 (cL (cL (cR (cL (cR (cB f129)))))) (Out 0 (kk base_Dotted_x1_k) (SS (base_Dotted_x1_H qmost) (base_Dotted_x1_S qmost)) r) (base_Dotted_x1_H qmost s) := by
  obtain ⟨vs, vn⟩ := s
  unfold base_Dotted_x1 at hF
  refine awp_seq (sR 3 (cE hF (fun h1 hF => ?_) fun h1 hF => ?_))
  · refine tT h1 (awp_skip (awp_seq (awp_block (awp_seq (bE hF fun x h2 hF => ?_)))))
    obtain ⟨vr2, vr4_1, vr5_1⟩ := x
    refine awp_region (aR 1 (aC (strings_Cut_ok h2) [] [] [] (aR 7 (aE ?_))))
    refine awp_seq (awp_seq (bE hF fun vr3 h3 hF => awp_region (aR 1 (aC (base_Key_ok h3) [] [] [] (aR 1 (aE ?_))))))
    refine cE hF (fun h4 hF => ?_) fun h4 hF => ?_
    · exact tT h4 (sR 1 (awp_ret (oO hF [] [] rfl)))
    · refine tF h4 (awp_skip (awp_seq (sR 2 (cE hF (fun h5 hF => ?_) fun h5 hF => ?_))))
      · exact tT h5 (sR 1 (awp_ret (oO hF [] [] rfl)))
      · exact tF h5 (awp_skip (gR 2 (gR 3 (oO hF [] [] rfl))))
  · refine tF h1 (awp_exit ?_)
    exact oO hF [] [] rfl

def base_Dotted_R (qs : List UInt8) (qmost : Int) (r : Bool) : TV × Mem := (.b r, ⟨[], []⟩)

theorem base_Dotted_ok {qs : List UInt8} {qmost : Int} {r} (hF : base_Dotted qs qmost = some r) : Holds prog 129 [.c (.s qs), .i qmost] ⟨[], []⟩ (Is (base_Dotted_R qs qmost r)) := by
  unfold base_Dotted at hF
  refine hW f129 26 0 0 ?_
  refine sR 1 (awp_seq (sR 1 (awp_block (awp_to (st' := base_Dotted_x1_H qmost (qs, 0)) (oT [] []) ?_))))
  refine bE hF fun x h6 hF => ?_
  rcases x with _ | vx1
  · refine awp_sub (awp_loop' (base_Dotted_x1_H qmost) base_Dotted_x1_k (base_Dotted_x1_S qmost) (by intro x; rcases x with x | x <;> exact fun h => nomatch h) h6 (base_Dotted_x1_ok qmost)) ?_
    exact sR 1 (awp_ret (oF hF [] []))
  · refine awp_sub (awp_loop' (base_Dotted_x1_H qmost) base_Dotted_x1_k (base_Dotted_x1_S qmost) (by intro x; rcases x with x | x <;> exact fun h => nomatch h) h6 (base_Dotted_x1_ok qmost)) ?_
    exact oF hF [] []

/-! ### beaconfleet/twin.isName -/
def twin_isName_R (qs : List UInt8) (r : Bool) : TV × Mem := (.b r, ⟨[], []⟩)

theorem twin_isName_ok {qs : List UInt8} {r} (hF : twin_isName qs = some r) : Holds prog 79 [.c (.s qs)] ⟨[], []⟩ (Is (twin_isName_R qs r)) := by
  unfold twin_isName at hF
  refine hW f79 5 0 0 ?_
  refine sR 1 (awp_seq (bE hF fun vr6 h1 hF => awp_region (aR 1 (aC (base_Dotted_ok h1) [] [] [] (aR 1 (aE ?_))))))
  exact awp_ret (oF hF [] [])

/-! ### beaconfleet/base.Out -/
def base_Out_x1_S (qn : Int) (qlow : Int) (qhigh : Int) : Bool → St
  | vx => Mem.st ⟨[], []⟩ (tl [(6, .b vx)]) 0

def base_Out_x1_I (qn : Int) (qlow : Int) (qhigh : Int) : St := Mem.st ⟨[], []⟩ (tl [(0, .i qn), (1, .i qlow), (2, .i qhigh)]) 0

theorem base_Out_x1_ok (qn : Int) (qlow : Int) (qhigh : Int) {r} (hF : base_Out_x1 qn qlow qhigh = some r) : Awp prog 0 15 (cL (cR (cB f87))) (Out 0 nrm (base_Out_x1_S qn qlow qhigh) r) (base_Out_x1_I qn qlow qhigh) := by
  unfold base_Out_x1 at hF
  refine cE hF (fun h1 hF => ?_) fun h1 hF => ?_
  · refine awp_region (aR 2 (aB h1 (aR 6 (aE ?_))))
    exact oO hF [] [] rfl
  · refine awp_region (aR 2 (aB h1 (aR 6 (aE ?_))))
    exact oO hF [] [] rfl

def base_Out_R (qn : Int) (qlow : Int) (qhigh : Int) (r : Bool) : TV × Mem := (.b r, ⟨[], []⟩)

theorem base_Out_ok {qn : Int} {qlow : Int} {qhigh : Int} {r} (hF : base_Out qn qlow qhigh = some r) : Holds prog 87 [.i qn, .i qlow, .i qhigh] ⟨[], []⟩ (Is (base_Out_R qn qlow qhigh r)) := by
  unfold base_Out at hF
  refine hW f87 15 0 0 ?_
  refine sR 1 (awp_seq (awp_to (st' := base_Out_x1_I qn qlow qhigh) (oT [] []) ?_))
  refine bE hF fun vx1 h2 hF => awp_sub (base_Out_x1_ok qn qlow qhigh h2) ?_
  exact awp_ret (oF hF [] [])

/-! ### beaconfleet/base.Unmarked -/
def base_Unmarked_x2_S (qs : List UInt8) (vx : Int) : Bool → St
  | vx2 => Mem.st ⟨[], []⟩ (tl [(0, .c (.s qs)), (5, .i (qs.length : Int)), (6, .i vx), (18, .b vx2)]) 0

def base_Unmarked_x2_I (qs : List UInt8) (vx : Int) : St := Mem.st ⟨[], []⟩ (tl [(0, .c (.s qs)), (3, .i vx), (5, .i (qs.length : Int)), (6, .i vx)]) 0

theorem base_Unmarked_x2_ok (qs : List UInt8) (vx : Int) {r} (hF : base_Unmarked_x2 qs vx = some r) : Awp prog 0 22 (cL (cR (cL (cL (cR (cR (cL (cL (cR (cL (cR (cB f130)))))))))))) (Out 0 nrm (base_Unmarked_x2_S qs vx) r) (base_Unmarked_x2_I qs vx) := by
  unfold base_Unmarked_x2 at hF
  refine bE hF fun vc1 h2 hF => cE hF (fun h3 hF => ?_) fun h3 hF => ?_
  · refine awp_region (aR 2 (aX (x_idxS h2) (aB h3 (aR 6 (aE ?_)))))
    exact oO hF [] [] rfl
  · refine awp_region (aR 2 (aX (x_idxS h2) (aB h3 (aR 3 (aX (x_idxS h2) (aR 2 (aE ?_)))))))
    exact oO hF [] [] rfl

def base_Unmarked_x1_k : Unit ⊕ Unit → AEx
  | .inl _ => .exit 0
  | .inr _ => .ret

def base_Unmarked_x1_S (qs : List UInt8) : Unit ⊕ Unit → St
  | .inl _ => Mem.st ⟨[], []⟩ (tl [(0, .c (.s qs))]) 0
  | .inr _ => Mem.st ⟨[], []⟩ (tl [(2, .b false)]) 0

def base_Unmarked_x1_H (qs : List UInt8) : Int → St
  | vx => Mem.st ⟨[], []⟩ (tl [(0, .c (.s qs)), (5, .i (qs.length : Int)), (6, .i vx)]) 0

theorem base_Unmarked_x1_ok (qs : List UInt8) (vx : Int) (r : (Int) ⊕ (Unit ⊕ Unit)) (hF : base_Unmarked_x1 qs vx = some r) : Awp prog 0 22 (cL (cL (cR (cL (cR (cB f130)))))) (Out 0 (kk base_Unmarked_x1_k) (SS (base_Unmarked_x1_H qs) (base_Unmarked_x1_S qs)) r) (base_Unmarked_x1_H qs vx) := by
  unfold base_Unmarked_x1 at hF
  refine sR 1 (awp_seq (cE hF (fun h1 hF => ?_) fun h1 hF => ?_))
  · refine tT h1 (awp_skip (awp_seq (awp_block (sR 2 (awp_seq (awp_to (st' := base_Unmarked_x2_I qs vx) (oT [] []) ?_))))))
    refine bE hF fun vx2_1 h4 hF => awp_sub (base_Unmarked_x2_ok qs vx h4) ?_
    refine cE hF (fun h5 hF => ?_) fun h5 hF => ?_
    · exact tT h5 (sR 1 (awp_ret (oO hF [] [] rfl)))
    · exact tF h5 (awp_skip (gR 2 (oO hF [] [] rfl)))
  · refine tF h1 (awp_exit ?_)
    exact oO hF [] [] rfl

def base_Unmarked_R (qs : List UInt8) (r : Bool) : TV × Mem := (.b r, ⟨[], []⟩)

theorem base_Unmarked_ok {qs : List UInt8} {r} (hF : base_Unmarked qs = some r) : Holds prog 130 [.c (.s qs)] ⟨[], []⟩ (Is (base_Unmarked_R qs r)) := by
  unfold base_Unmarked at hF
  refine hW f130 22 0 0 ?_
  refine sR 1 (awp_seq (sR 3 (awp_block (awp_to (st' := base_Unmarked_x1_H qs 0) (oT [] []) ?_))))
  refine bE hF fun x h6 hF => ?_
  rcases x with _ | _
  · refine awp_sub (awp_loop' (base_Unmarked_x1_H qs) base_Unmarked_x1_k (base_Unmarked_x1_S qs) (by intro x; rcases x with x | x <;> exact fun h => nomatch h) h6 (base_Unmarked_x1_ok qs)) ?_
    refine awp_seq (bE hF fun vr h7 hF => awp_region (aR 1 (aC (utf8_ValidString_ok h7) [] [] [] (aR 1 (aE ?_)))))
    exact awp_ret (oF hF [] [])
  · refine awp_sub (awp_loop' (base_Unmarked_x1_H qs) base_Unmarked_x1_k (base_Unmarked_x1_S qs) (by intro x; rcases x with x | x <;> exact fun h => nomatch h) h6 (base_Unmarked_x1_ok qs)) ?_
    exact oF hF [] []

/-! ### beaconfleet/twin.valueFault -/
def twin_valueFault_x1_k : api_Value ⊕ Unit → AEx
  | .inl _ => .normal
  | .inr _ => .ret

def twin_valueFault_x1_S (qv : api_Value) : api_Value ⊕ Unit → St
  | .inl vused => Mem.st ⟨[], [(0, [.i qv.Kind, .t qv.Flag, .i qv.Number, .s qv.Words]), (1, [.i vused.Kind, .t vused.Flag, .i vused.Number, .s vused.Words])]⟩ (tl [(1, .c (.box 0 0)), (3, .c (.box 1 0))]) 2
  | .inr _ => Mem.st ⟨[], []⟩ (tl [(2, .i 4)]) 0

def twin_valueFault_x1_I (qv : api_Value) : St := Mem.st ⟨[], [(0, [.i qv.Kind, .t qv.Flag, .i qv.Number, .s qv.Words]), (1, [.i qv.Kind, .t false, .i 0, .s ([] : List UInt8)])]⟩ (tl [(1, .c (.box 0 0)), (3, .c (.box 1 0))]) 2

theorem twin_valueFault_x1_ok (qv : api_Value) {r} (hF : twin_valueFault_x1 qv = some r) : Awp prog 0 44 (cL (cR (cR (cB f80)))) (Out 0 twin_valueFault_x1_k (twin_valueFault_x1_S qv) r) (twin_valueFault_x1_I qv) := by
  unfold twin_valueFault_x1 at hF
  refine sR 2 (awp_block (sR 2 (cE hF (fun h1 hF => ?_) fun h1 hF => ?_)))
  · exact tT h1 (awp_skip (oO hF [] [] rfl))
  · refine tF h1 (sR 2 (cE hF (fun h2 hF => ?_) fun h2 hF => ?_))
    · exact tT h2 (gR 4 (oO hF [] [] rfl))
    · refine tF h2 (sR 2 (cE hF (fun h3 hF => ?_) fun h3 hF => ?_))
      · exact tT h3 (gR 4 (oO hF [] [] rfl))
      · refine tF h3 (sR 2 (cE hF (fun h4 hF => ?_) fun h4 hF => ?_))
        · exact tT h4 (gR 4 (oO hF [] [] rfl))
        · exact tF h4 (sR 1 (awp_ret (oO hF [] [] rfl)))

def twin_valueFault_R (qv : api_Value) (r : Int) : TV × Mem := (.i r, ⟨[], []⟩)

theorem twin_valueFault_ok {qv : api_Value} {r} (hF : twin_valueFault qv = some r) : Holds prog 80 [.v (.agg [.i qv.Kind, .t qv.Flag, .i qv.Number, .s qv.Words])] ⟨[], []⟩ (Is (twin_valueFault_R qv r)) := by
  unfold twin_valueFault at hF
  refine hW f80 44 0 0 ?_
  refine sR 2 (sR 5 (awp_seq (awp_to (st' := twin_valueFault_x1_I qv) (oT [(1, 5000)] []) ?_)))
  refine bE hF fun x h5 hF => ?_
  rcases x with vused1 | _
  · refine awp_sub (twin_valueFault_x1_ok qv h5) ?_
    refine awp_seq (awp_block (awp_seq (awp_region (aR 2 (aS (does_eqS (op := .neq) (xs := [.int .i64 qv.Kind, .bool qv.Flag, .int .i64 qv.Number, .str qv.Words]) (ys := [.int .i64 vused1.Kind, .bool vused1.Flag, .int .i64 vused1.Number, .str vused1.Words]) (b := (decide (qv.Kind = vused1.Kind) && ((qv.Flag == vused1.Flag) && (decide (qv.Number = vused1.Number) && (decide (qv.Words = vused1.Words) && true))))) (c := (!(decide (qv.Kind = vused1.Kind) && ((qv.Flag == vused1.Flag) && (decide (qv.Number = vused1.Number) && (decide (qv.Words = vused1.Words) && true)))))) rfl (.inr ⟨rfl, rfl⟩) (by kernel_rfl) (by kernel_rfl) (by kernel_rfl) (by kernel_rfl) (by kernel_rfl) (by kernel_rfl)) ?_)))))
    refine aR 1 (aE ?_)
    refine cE hF (fun h6 hF => ?_) fun h6 hF => ?_
    · exact tT h6 (sR 1 (awp_ret (oF hF [] [])))
    · refine tF h6 (awp_seq (bE hF fun vr h7 hF => awp_region (aR 2 (aC (base_Out_ok h7) [] [] [] (aR 1 (aE ?_))))))
      refine cE hF (fun h8 hF => ?_) fun h8 hF => ?_
      · exact tT h8 (sR 1 (awp_ret (oF hF [] [])))
      · refine tF h8 (sR 5 (cE hF (fun h9 hF => ?_) fun h9 hF => ?_))
        · exact tT h9 (sR 1 (awp_ret (oF hF [] [])))
        · refine tF h9 (awp_seq (bE hF fun vr1 h10 hF => awp_region (aR 2 (aC (base_Unmarked_ok h10) [] [] [] (aR 2 (aE ?_))))))
          refine cE hF (fun h11 hF => ?_) fun h11 hF => ?_
          · exact tT h11 (sR 1 (awp_ret (oF hF [] [])))
          · exact tF h11 (awp_skip (sR 1 (awp_ret (oF hF [] []))))
  · refine awp_sub (twin_valueFault_x1_ok qv h5) ?_
    exact oF hF [] []

/-! ### beaconfleet/twin.find$1 -/
def twin_find_1_R (qp : api_Prop) (qname : List UInt8) (r : Unit) : TV × Mem := (.i (Lib.compareBytes qp.Name qname), ⟨[], []⟩)

theorem twin_find_1_ok {qp : api_Prop} {qname : List UInt8} {r} (hF : twin_find_1 qp qname = some r) : Holds prog 132 [.v (.agg [.s qp.Name, .i qp.Value.Kind, .t qp.Value.Flag, .i qp.Value.Number, .s qp.Value.Words]), .c (.s qname)] ⟨[], []⟩ (Is (twin_find_1_R qp qname r)) := by
  unfold twin_find_1 at hF
  refine hW f132 9 0 0 ?_
  refine sR 2 (awp_seq (bE hF fun _ h1 hF => awp_region (aR 3 (aC (strings_Compare_ok h1) [] [] [] (aR 1 (aE ?_))))))
  exact awp_ret (oF hF [] [])

/-! ### slices.BinarySearchFunc[[]beaconfleet/api.Prop,beaconfleet/api.Prop,string] -/
def slices_BinarySearchFunc_api_Prop_api_Prop_string_f2_twin_find_1_x1_k : Int → AEx
  | _ => .exit 0

def slices_BinarySearchFunc_api_Prop_api_Prop_string_f2_twin_find_1_x1_S (qx : List api_Prop) (qtarget : List UInt8) : Int → St
  | vi1 => Mem.st ⟨[], []⟩ (tl [(0, .c (.l api_Prop.enc qx)), (1, .c (.s qtarget)), (2, .c (.fn 132 [])), (8, .i (qx.length : Int)), (9, .i vi1)]) 0

def slices_BinarySearchFunc_api_Prop_api_Prop_string_f2_twin_find_1_x1_H (qx : List api_Prop) (qtarget : List UInt8) : Int × Int → St
  | (vi, vj) => Mem.st ⟨[], []⟩ (tl [(0, .c (.l api_Prop.enc qx)), (1, .c (.s qtarget)), (2, .c (.fn 132 [])), (8, .i (qx.length : Int)), (9, .i vi), (10, .i vj)]) 0

theorem slices_BinarySearchFunc_api_Prop_api_Prop_string_f2_twin_find_1_x1_ok (qx : List api_Prop) (qtarget : List UInt8) (s : Int × Int) (r : (Int × Int) ⊕ (Int)) (hF : slices_BinarySearchFunc_api_Prop_api_Prop_string_f2_twin_find_1_x1 qx qtarget s = some r) : Awp prog 0 49 (cL (cL (cL (cR (cR (cR (cB f131))))))) (Out 0 (kk slices_BinarySearchFunc_api_Prop_api_Prop_string_f2_twin_find_1_x1_k) (SS (slices_BinarySearchFunc_api_Prop_api_Prop_string_f2_twin_find_1_x1_H qx qtarget) (slices_BinarySearchFunc_api_Prop_api_Prop_string_f2_twin_find_1_x1_S qx qtarget)) r) (slices_BinarySearchFunc_api_Prop_api_Prop_string_f2_twin_find_1_x1_H qx qtarget s) := by
  obtain ⟨vi, vj⟩ := s
  unfold slices_BinarySearchFunc_api_Prop_api_Prop_string_f2_twin_find_1_x1 at hF
  refine awp_seq (sR 3 (cE hF (fun h1 hF => ?_) fun h1 hF => ?_))
  · refine tT h1 (awp_skip (awp_block (sR 7 (awp_seq (bE hF fun vy1 h2 hF => bE hF fun _ h3 hF => awp_region (aR 3 (aX (x_idx api_Prop.enc h2) (aR 2 (aC (twin_find_1_ok h3) [] [] [] (aR 1 (aE ?_)))))))))))
    refine cE hF (fun h4 hF => ?_) fun h4 hF => ?_
    · exact tT h4 (gR 3 (oO hF [] [] rfl))
    · exact tF h4 (gR 2 (oO hF [] [] rfl))
  · refine tF h1 (awp_exit ?_)
    exact oO hF [] [] rfl

def slices_BinarySearchFunc_api_Prop_api_Prop_string_f2_twin_find_1_x2_S (qx : List api_Prop) (qtarget : List UInt8) (vi1_1 : Int) : Bool → St
  | vx => Mem.st ⟨[], []⟩ (tl [(6, .i vi1_1), (7, .b vx)]) 0

def slices_BinarySearchFunc_api_Prop_api_Prop_string_f2_twin_find_1_x2_I (qx : List api_Prop) (qtarget : List UInt8) (vi1_1 : Int) : St := Mem.st ⟨[], []⟩ (tl [(0, .c (.l api_Prop.enc qx)), (1, .c (.s qtarget)), (2, .c (.fn 132 [])), (8, .i (qx.length : Int)), (9, .i vi1_1)]) 0

theorem slices_BinarySearchFunc_api_Prop_api_Prop_string_f2_twin_find_1_x2_ok (qx : List api_Prop) (qtarget : List UInt8) (vi1_1 : Int) {r} (hF : slices_BinarySearchFunc_api_Prop_api_Prop_string_f2_twin_find_1_x2 qx qtarget vi1_1 = some r) : Awp prog 0 49 (cL (cR (cR (cR (cR (cB f131)))))) (Out 0 nrm (slices_BinarySearchFunc_api_Prop_api_Prop_string_f2_twin_find_1_x2_S qx qtarget vi1_1) r) (slices_BinarySearchFunc_api_Prop_api_Prop_string_f2_twin_find_1_x2_I qx qtarget vi1_1) := by
  unfold slices_BinarySearchFunc_api_Prop_api_Prop_string_f2_twin_find_1_x2 at hF
  refine cE hF (fun h6 hF => ?_) fun h6 hF => ?_
  · refine bE hF fun vy2 h7 hF => bE hF fun _ h8 hF => awp_region (aR 3 (aB h6 (aR 4 (aX (x_idx api_Prop.enc h7) (aR 2 (aC (twin_find_1_ok h8) [] [] [] (aR 4 (aE ?_))))))))
    exact oO hF [] [] rfl
  · refine awp_region (aR 3 (aB h6 (aR 12 (aE ?_))))
    exact oO hF [] [] rfl

def slices_BinarySearchFunc_api_Prop_api_Prop_string_f2_twin_find_1_R (qx : List api_Prop) (qtarget : List UInt8) (r : Int × Bool) : TV × Mem := (.tup [.one (.i r.1), .one (.t r.2)], ⟨[], []⟩)

theorem slices_BinarySearchFunc_api_Prop_api_Prop_string_f2_twin_find_1_ok {qx : List api_Prop} {qtarget : List UInt8} {r} (hF : slices_BinarySearchFunc_api_Prop_api_Prop_string_f2_twin_find_1 qx qtarget = some r) : Holds prog 131 [.c (.l api_Prop.enc qx), .c (.s qtarget), .c (.fn 132 [])] ⟨[], []⟩ (Is (slices_BinarySearchFunc_api_Prop_api_Prop_string_f2_twin_find_1_R qx qtarget r)) := by
  unfold slices_BinarySearchFunc_api_Prop_api_Prop_string_f2_twin_find_1 at hF
  refine hW f131 49 0 0 ?_
  refine sR 2 (awp_seq (awp_region (aR 1 (aL api_Prop.enc qx (aR 1 (aE ?_))))))
  refine sR 3 (awp_seq (awp_block (awp_to (st' := slices_BinarySearchFunc_api_Prop_api_Prop_string_f2_twin_find_1_x1_H qx qtarget (0, (qx.length : Int))) (oT [] []) ?_)))
  refine bE hF fun vi1_1 h5 hF => awp_sub (awp_loop' (slices_BinarySearchFunc_api_Prop_api_Prop_string_f2_twin_find_1_x1_H qx qtarget) slices_BinarySearchFunc_api_Prop_api_Prop_string_f2_twin_find_1_x1_k (slices_BinarySearchFunc_api_Prop_api_Prop_string_f2_twin_find_1_x1_S qx qtarget) (by intro x; exact fun h => nomatch h) h5 (slices_BinarySearchFunc_api_Prop_api_Prop_string_f2_twin_find_1_x1_ok qx qtarget)) ?_
  refine awp_seq (awp_to (st' := slices_BinarySearchFunc_api_Prop_api_Prop_string_f2_twin_find_1_x2_I qx qtarget vi1_1) (oT [] []) ?_)
  refine bE hF fun vx1 h9 hF => awp_sub (slices_BinarySearchFunc_api_Prop_api_Prop_string_f2_twin_find_1_x2_ok qx qtarget vi1_1 h9) ?_
  exact awp_ret (oF hF [] [])

/-! ### beaconfleet/twin.find -/
def twin_find_R (ql : List api_Prop) (qname : List UInt8) (r : Int) : TV × Mem := (.i r, ⟨[], []⟩)

theorem twin_find_ok {ql : List api_Prop} {qname : List UInt8} {r} (hF : twin_find ql qname = some r) : Holds prog 83 [.c (.l api_Prop.enc ql), .c (.s qname)] ⟨[], []⟩ (Is (twin_find_R ql qname r)) := by
  unfold twin_find at hF
  refine hW f83 16 0 0 ?_
  refine sR 1 (awp_seq (bE hF fun x h1 hF => ?_))
  obtain ⟨vr, vr1⟩ := x
  refine awp_region (aR 2 (aC (slices_BinarySearchFunc_api_Prop_api_Prop_string_f2_twin_find_1_ok h1) [] [] [] (aR 5 (aE ?_))))
  refine awp_seq (sR 2 (cE hF (fun h2 hF => ?_) fun h2 hF => ?_))
  · exact tT h2 (sR 1 (awp_ret (oF hF [] [])))
  · exact tF h2 (awp_skip (sR 2 (awp_ret (oF hF [] []))))

/-! ### beaconfleet/twin.CheckProps$1 -/
def twin_CheckProps_1_R (qs : List UInt8) (qx : List api_Prop) (r : Bool) : TV × Mem := (.b r, ⟨[], [(0, [.l api_Prop.enc qx])]⟩)

theorem twin_CheckProps_1_ok {qs : List UInt8} {qx : List api_Prop} {r} (hF : twin_CheckProps_1 qs qx = some r) : Holds prog 82 [.c (.s qs), .c (.box 0 0)] ⟨[], [(0, [.l api_Prop.enc qx])]⟩ (Is (twin_CheckProps_1_R qs qx r)) := by
  unfold twin_CheckProps_1 at hF
  refine hW f82 8 1 1 ?_
  refine sR 1 (awp_seq (bE hF fun vr2 h1 hF => awp_region (aR 2 (aC (twin_find_ok h1) [] [] [] (aR 2 (aE ?_))))))
  exact awp_ret (oF hF [] [])

/-! ### beaconfleet/twin.above -/
def twin_above_f1_twin_CheckProps_1_x2_S (qname : List UInt8) (qf : List api_Prop) (vx : Int) : Bool → St
  | vx2 => Mem.st ⟨[], [(0, [.l api_Prop.enc qf])]⟩ (tl [(0, .c (.s qname)), (1, .c (.fn 82 [0])), (7, .i (qname.length : Int)), (8, .i vx), (21, .b vx2)]) 1

def twin_above_f1_twin_CheckProps_1_x2_I (qname : List UInt8) (qf : List api_Prop) (vx : Int) : St := Mem.st ⟨[], [(0, [.l api_Prop.enc qf])]⟩ (tl [(0, .c (.s qname)), (1, .c (.fn 82 [0])), (5, .i vx), (7, .i (qname.length : Int)), (8, .i vx)]) 1

theorem twin_above_f1_twin_CheckProps_1_x2_ok (qname : List UInt8) (qf : List api_Prop) (vx : Int) {r} (hF : twin_above_f1_twin_CheckProps_1_x2 qname qf vx = some r) : Awp prog 1 23 (cL (cR (cL (cL (cR (cR (cL (cL (cR (cL (cR (cB f81)))))))))))) (Out 1 nrm (twin_above_f1_twin_CheckProps_1_x2_S qname qf vx) r) (twin_above_f1_twin_CheckProps_1_x2_I qname qf vx) := by
  unfold twin_above_f1_twin_CheckProps_1_x2 at hF
  refine bE hF fun vc1 h2 hF => cE hF (fun h3 hF => ?_) fun h3 hF => ?_
  · refine bE hF fun vs1 h4 hF => bE hF fun vr1 h5 hF => awp_region (aR 2 (aX (x_idxS h2) (aB h3 (aR 4 (aX (x_sliceS h4) (aC (twin_CheckProps_1_ok h5) [] [] [] (aR 1 (aE ?_))))))))
    exact oO hF [] [] rfl
  · refine awp_region (aR 2 (aX (x_idxS h2) (aB h3 (aR 7 (aE ?_)))))
    exact oO hF [] [] rfl

def twin_above_f1_twin_CheckProps_1_x1_k : Unit ⊕ Unit → AEx
  | .inl _ => .exit 0
  | .inr _ => .ret

def twin_above_f1_twin_CheckProps_1_x1_S (qname : List UInt8) (qf : List api_Prop) : Unit ⊕ Unit → St
  | .inl _ => Mem.st ⟨[], [(0, [.l api_Prop.enc qf])]⟩ (tl []) 1
  | .inr _ => Mem.st ⟨[], [(0, [.l api_Prop.enc qf])]⟩ (tl [(4, .b true)]) 1

def twin_above_f1_twin_CheckProps_1_x1_H (qname : List UInt8) (qf : List api_Prop) : Int → St
  | vx => Mem.st ⟨[], [(0, [.l api_Prop.enc qf])]⟩ (tl [(0, .c (.s qname)), (1, .c (.fn 82 [0])), (7, .i (qname.length : Int)), (8, .i vx)]) 1

theorem twin_above_f1_twin_CheckProps_1_x1_ok (qname : List UInt8) (qf : List api_Prop) (vx : Int) (r : (Int) ⊕ (Unit ⊕ Unit)) (hF : twin_above_f1_twin_CheckProps_1_x1 qname qf vx = some r) : Awp prog 1 23 (cL (cL (cR (cL (cR (cB f81)))))) (Out 1 (kk twin_above_f1_twin_CheckProps_1_x1_k) (SS (twin_above_f1_twin_CheckProps_1_x1_H qname qf) (twin_above_f1_twin_CheckProps_1_x1_S qname qf)) r) (twin_above_f1_twin_CheckProps_1_x1_H qname qf vx) := by
  unfold twin_above_f1_twin_CheckProps_1_x1 at hF
  refine sR 1 (awp_seq (cE hF (fun h1 hF => ?_) fun h1 hF => ?_))
  · refine tT h1 (awp_skip (awp_seq (awp_block (sR 2 (awp_seq (awp_to (st' := twin_above_f1_twin_CheckProps_1_x2_I qname qf vx) (oT [] []) ?_))))))
    refine bE hF fun vx2_1 h6 hF => awp_sub (twin_above_f1_twin_CheckProps_1_x2_ok qname qf vx h6) ?_
    refine cE hF (fun h7 hF => ?_) fun h7 hF => ?_
    · exact tT h7 (sR 1 (awp_ret (oO hF [] [] rfl)))
    · exact tF h7 (awp_skip (gR 2 (oO hF [] [] rfl)))
  · refine tF h1 (awp_exit ?_)
    exact oO hF [] [] rfl

def twin_above_f1_twin_CheckProps_1_R (qname : List UInt8) (qf : List api_Prop) (r : Bool) : TV × Mem := (.b r, ⟨[], [(0, [.l api_Prop.enc qf])]⟩)

theorem twin_above_f1_twin_CheckProps_1_ok {qname : List UInt8} {qf : List api_Prop} {r} (hF : twin_above_f1_twin_CheckProps_1 qname qf = some r) : Holds prog 81 [.c (.s qname), .c (.fn 82 [0])] ⟨[], [(0, [.l api_Prop.enc qf])]⟩ (Is (twin_above_f1_twin_CheckProps_1_R qname qf r)) := by
  unfold twin_above_f1_twin_CheckProps_1 at hF
  refine hW f81 23 1 1 ?_
  refine sR 1 (awp_seq (sR 3 (awp_block (awp_to (st' := twin_above_f1_twin_CheckProps_1_x1_H qname qf 0) (oT [] []) ?_))))
  refine bE hF fun x h8 hF => ?_
  rcases x with _ | _
  · refine awp_sub (awp_loop' (twin_above_f1_twin_CheckProps_1_x1_H qname qf) twin_above_f1_twin_CheckProps_1_x1_k (twin_above_f1_twin_CheckProps_1_x1_S qname qf) (by intro x; rcases x with x | x <;> exact fun h => nomatch h) h8 (twin_above_f1_twin_CheckProps_1_x1_ok qname qf)) ?_
    exact sR 1 (awp_ret (oF hF [] []))
  · refine awp_sub (awp_loop' (twin_above_f1_twin_CheckProps_1_x1_H qname qf) twin_above_f1_twin_CheckProps_1_x1_k (twin_above_f1_twin_CheckProps_1_x1_S qname qf) (by intro x; rcases x with x | x <;> exact fun h => nomatch h) h8 (twin_above_f1_twin_CheckProps_1_x1_ok qname qf)) ?_
    exact oF hF [] []

/-! ### beaconfleet/twin.CheckProps -/
def twin_CheckProps_x2_S (ql : List api_Prop) (vx : Int) (vy2 : api_Prop) : Bool → St
  | vx2 => Mem.st ⟨[], [(0, [.l api_Prop.enc ql])]⟩ (tl [(1, .c (.box 0 0)), (11, .c (.l api_Prop.enc ql)), (12, .i (ql.length : Int)), (13, .i vx), (44, .b vx2)]) 1

def twin_CheckProps_x2_I (ql : List api_Prop) (vx : Int) (vy2 : api_Prop) : St := Mem.st ⟨[], [(0, [.l api_Prop.enc ql]), (1, [.s vy2.Name, .i vy2.Value.Kind, .t vy2.Value.Flag, .i vy2.Value.Number, .s vy2.Value.Words])]⟩ (tl [(1, .c (.box 0 0)), (3, .i vx), (4, .c (.box 1 0)), (11, .c (.l api_Prop.enc ql)), (12, .i (ql.length : Int)), (13, .i vx)]) 2

theorem twin_CheckProps_x2_ok (ql : List api_Prop) (vx : Int) (vy2 : api_Prop) {r} (hF : twin_CheckProps_x2 ql vx vy2 = some r) : Awp prog 0 57 (cL (cR (cR (cR (cR (cL (cL (cR (cR (cL (cL (cR (cL (cR (cR (cB f37)))))))))))))))) (Out 0 nrm (twin_CheckProps_x2_S ql vx vy2) r) (twin_CheckProps_x2_I ql vx vy2) := by
  unfold twin_CheckProps_x2 at hF
  refine cE hF (fun h9 hF => ?_) fun h9 hF => ?_
  · refine bE hF fun vy3 h10 hF => aD ?_
    refine dR 1 ?_
    refine dB h9 ?_
    refine dR 6 ?_
    refine dX (x_idx api_Prop.enc h10) ?_
    refine dR 4 ?_
    refine dE ?_
    exact oO hF [] [] rfl
  · refine aD ?_
    refine dR 1 ?_
    refine dB h9 ?_
    refine dR 11 ?_
    refine dE ?_
    exact oO hF [] [] rfl

def twin_CheckProps_x1_k : Unit ⊕ Int → AEx
  | .inl _ => .exit 0
  | .inr _ => .ret

def twin_CheckProps_x1_S (ql : List api_Prop) : Unit ⊕ Int → St
  | .inl _ => Mem.st ⟨[], [(0, [.l api_Prop.enc ql])]⟩ (tl [(1, .c (.box 0 0))]) 1
  | .inr vx3 => Mem.st ⟨[], []⟩ (tl [(2, .i vx3)]) 0

def twin_CheckProps_x1_H (ql : List api_Prop) : Int → St
  | vx => Mem.st ⟨[], [(0, [.l api_Prop.enc ql])]⟩ (tl [(1, .c (.box 0 0)), (11, .c (.l api_Prop.enc ql)), (12, .i (ql.length : Int)), (13, .i vx)]) 1

theorem twin_CheckProps_x1_ok (ql : List api_Prop) (vx : Int) (r : (Int) ⊕ (Unit ⊕ Int)) (hF : twin_CheckProps_x1 ql vx = some r) : Awp prog 0 57 (cL (cL (cR (cL (cR (cR (cB f37))))))) (Out 0 (kk twin_CheckProps_x1_k) (SS (twin_CheckProps_x1_H ql) (twin_CheckProps_x1_S ql)) r) (twin_CheckProps_x1_H ql vx) := by
  unfold twin_CheckProps_x1 at hF
  refine sR 1 (awp_seq (cE hF (fun h2 hF => ?_) fun h2 hF => ?_))
  · refine tT h2 (awp_skip (awp_seq (awp_block (awp_seq (bE hF fun vy2 h3 hF => awp_region (aR 1 (aX (x_idx api_Prop.enc h3) (aR 4 (aE ?_)))))))))
    refine awp_seq (awp_seq (bE hF fun vr1 h4 hF => awp_region (aR 2 (aC (twin_isName_ok h4) [] [] [] (aR 1 (aE ?_))))))
    refine cE hF (fun h5 hF => ?_) fun h5 hF => ?_
    · exact tT h5 (sR 1 (awp_ret (oO hF [] [] rfl)))
    · refine tF h5 (awp_skip (awp_seq (awp_seq (bE hF fun vr2_1 h6 hF => awp_region (aR 2 (aC (twin_valueFault_ok h6) [] [] [] (aR 1 (aE ?_))))))))
      refine sR 2 (cE hF (fun h7 hF => ?_) fun h7 hF => ?_)
      · exact tT h7 (sR 2 (awp_ret (oO hF [] [] rfl)))
      · refine tF h7 (awp_skip (awp_seq (sR 4 (cE hF (fun h8 hF => ?_) fun h8 hF => ?_))))
        · exact tT h8 (sR 1 (awp_ret (oO hF [] [] rfl)))
        · refine tF h8 (awp_skip (awp_seq (awp_to (st' := twin_CheckProps_x2_I ql vx vy2) (oT [(1, 4001)] []) ?_)))
          refine bE hF fun vx2_1 h11 hF => awp_sub (twin_CheckProps_x2_ok ql vx vy2 h11) ?_
          refine cE hF (fun h12 hF => ?_) fun h12 hF => ?_
          · exact tT h12 (sR 1 (awp_ret (oO hF [] [] rfl)))
          · exact tF h12 (awp_skip (gR 2 (oO hF [] [] rfl)))
  · refine tF h2 (awp_exit ?_)
    exact oO hF [] [] rfl

def twin_CheckProps_x3_k : Unit ⊕ Unit → AEx
  | .inl _ => .exit 2
  | .inr _ => .ret

def twin_CheckProps_x3_S (ql : List api_Prop) : Unit ⊕ Unit → St
  | .inl _ => Mem.st ⟨[], []⟩ (tl []) 0
  | .inr _ => Mem.st ⟨[], []⟩ (tl [(2, .i 13)]) 0

def twin_CheckProps_x3_H (ql : List api_Prop) : Int → St
  | vx4 => Mem.st ⟨[], [(0, [.l api_Prop.enc ql])]⟩ (tl [(1, .c (.box 0 0)), (46, .c (.l api_Prop.enc ql)), (47, .i (ql.length : Int)), (48, .i vx4)]) 1

theorem twin_CheckProps_x3_ok (ql : List api_Prop) (vx4 : Int) (r : (Int) ⊕ (Unit ⊕ Unit)) (hF : twin_CheckProps_x3 ql vx4 = some r) : Awp prog 0 57 (cL (cL (cR (cL (cR (cR (cR (cB f37)))))))) (Out 0 (kk twin_CheckProps_x3_k) (SS (twin_CheckProps_x3_H ql) (twin_CheckProps_x3_S ql)) r) (twin_CheckProps_x3_H ql vx4) := by
  unfold twin_CheckProps_x3 at hF
  refine sR 1 (awp_seq (cE hF (fun h14 hF => ?_) fun h14 hF => ?_))
  · refine tT h14 (awp_skip (awp_seq (awp_block (awp_seq (bE hF fun vy5 h15 hF => awp_region (aX (x_idx api_Prop.enc h15) (aR 3 (aE ?_))))))))
    refine awp_seq (bE hF fun vr2_3 h16 hF => awp_region (aR 3 (aC (twin_above_f1_twin_CheckProps_1_ok h16) [] [] [] (aE ?_))))
    refine cE hF (fun h17 hF => ?_) fun h17 hF => ?_
    · exact tT h17 (sR 1 (awp_ret (oO hF [] [] rfl)))
    · exact tF h17 (awp_skip (gR 2 (oO hF [] [] rfl)))
  · refine tF h14 (awp_exit ?_)
    exact oO hF [] [] rfl

def twin_CheckProps_R (ql : List api_Prop) (r : Int) : TV × Mem := (.i r, ⟨[], []⟩)

theorem twin_CheckProps_ok {ql : List api_Prop} {r} (hF : twin_CheckProps ql = some r) : Holds prog 37 [.c (.l api_Prop.enc ql)] ⟨[], []⟩ (Is (twin_CheckProps_R ql r)) := by
  unfold twin_CheckProps at hF
  refine hW f37 57 0 0 ?_
  refine sR 2 (awp_seq (awp_seq (awp_region (aR 1 (aL api_Prop.enc ql (aR 1 (aE ?_)))))))
  refine cE hF (fun h1 hF => ?_) fun h1 hF => ?_
  · exact tT h1 (sR 1 (awp_ret (oF hF [] [])))
  · refine tF h1 (awp_skip (awp_seq (awp_seq (awp_region (aR 1 (aL api_Prop.enc ql (aR 1 (aE ?_))))))))
    refine awp_block (awp_to (st' := twin_CheckProps_x1_H ql 0) (oT [] []) ?_)
    refine bE hF fun x h13 hF => ?_
    rcases x with _ | vx3_1
    · refine awp_sub (awp_loop' (twin_CheckProps_x1_H ql) twin_CheckProps_x1_k (twin_CheckProps_x1_S ql) (by intro x; rcases x with x | x <;> exact fun h => nomatch h) h13 (twin_CheckProps_x1_ok ql)) ?_
      refine awp_seq (awp_seq (awp_region (aR 1 (aL api_Prop.enc ql (aR 1 (aE ?_))))))
      refine awp_block (awp_to (st' := twin_CheckProps_x3_H ql 0) (oT [] []) ?_)
      refine bE hF fun x h18 hF => ?_
      rcases x with _ | _
      · refine awp_sub (awp_loop' (twin_CheckProps_x3_H ql) twin_CheckProps_x3_k (twin_CheckProps_x3_S ql) (by intro x; rcases x with x | x <;> exact fun h => nomatch h) h18 (twin_CheckProps_x3_ok ql)) ?_
        exact sR 1 (awp_ret (oF hF [] []))
      · refine awp_sub (awp_loop' (twin_CheckProps_x3_H ql) twin_CheckProps_x3_k (twin_CheckProps_x3_S ql) (by intro x; rcases x with x | x <;> exact fun h => nomatch h) h18 (twin_CheckProps_x3_ok ql)) ?_
        exact oF hF [] []
    · refine awp_sub (awp_loop' (twin_CheckProps_x1_H ql) twin_CheckProps_x1_k (twin_CheckProps_x1_S ql) (by intro x; rcases x with x | x <;> exact fun h => nomatch h) h13 (twin_CheckProps_x1_ok ql)) ?_
      exact oF hF [] []

/-! ### beaconfleet/base.First -/
def base_First_x1_k : Unit ⊕ Int → AEx
  | .inl _ => .exit 0
  | .inr _ => .ret

def base_First_x1_S (ql : List Int) : Unit ⊕ Int → St
  | .inl _ => Mem.st ⟨[], []⟩ (tl []) 0
  | .inr vx1 => Mem.st ⟨[], []⟩ (tl [(2, .i vx1)]) 0

def base_First_x1_H (ql : List Int) : Int → St
  | vx => Mem.st ⟨[], []⟩ (tl [(5, .c (.l (encI .i64) ql)), (6, .i (ql.length : Int)), (7, .i vx)]) 0

theorem base_First_x1_ok (ql : List Int) (vx : Int) (r : (Int) ⊕ (Unit ⊕ Int)) (hF : base_First_x1 ql vx = some r) : Awp prog 0 15 (cL (cL (cR (cL (cR (cB f36)))))) (Out 0 (kk base_First_x1_k) (SS (base_First_x1_H ql) (base_First_x1_S ql)) r) (base_First_x1_H ql vx) := by
  unfold base_First_x1 at hF
  refine sR 1 (awp_seq (cE hF (fun h1 hF => ?_) fun h1 hF => ?_))
  · refine tT h1 (awp_skip (awp_seq (awp_block (awp_seq (bE hF fun vy1 h2 hF => awp_region (aX (x_idx (encI .i64) h2) (aR 2 (aE ?_))))))))
    refine sR 2 (cE hF (fun h3 hF => ?_) fun h3 hF => ?_)
    · exact tT h3 (sR 2 (awp_ret (oO hF [] [] rfl)))
    · exact tF h3 (awp_skip (gR 2 (oO hF [] [] rfl)))
  · refine tF h1 (awp_exit ?_)
    exact oO hF [] [] rfl

def base_First_R (ql : List Int) (r : Int) : TV × Mem := (.i r, ⟨[], []⟩)

theorem base_First_ok {ql : List Int} {r} (hF : base_First ql = some r) : Holds prog 36 [.c (.l (encI .i64) ql)] ⟨[], []⟩ (Is (base_First_R ql r)) := by
  unfold base_First at hF
  refine hW f36 15 0 0 ?_
  refine sR 1 (awp_seq (awp_seq (awp_region (aR 1 (aL (encI .i64) ql (aR 1 (aE ?_)))))))
  refine awp_block (awp_to (st' := base_First_x1_H ql 0) (oT [] []) ?_)
  refine bE hF fun x h4 hF => ?_
  rcases x with _ | vx1_1
  · refine awp_sub (awp_loop' (base_First_x1_H ql) base_First_x1_k (base_First_x1_S ql) (by intro x; rcases x with x | x <;> exact fun h => nomatch h) h4 (base_First_x1_ok ql)) ?_
    exact sR 1 (awp_ret (oF hF [] []))
  · refine awp_sub (awp_loop' (base_First_x1_H ql) base_First_x1_k (base_First_x1_S ql) (by intro x; rcases x with x | x <;> exact fun h => nomatch h) h4 (base_First_x1_ok ql)) ?_
    exact oF hF [] []

/-! ### beaconfleet/twin.names -/
def twin_names_o0_x2_k : (List (List UInt8)) → AEx
  | _ => .exit 2

def twin_names_o0_x2_S (qlists : List (List api_Prop)) (vx : Int) (vy3 : List api_Prop) : (List (List UInt8)) → St
  | vout4 => Mem.st ⟨[(1, ⟨9, 1, List.map encS vout4⟩)], []⟩ (tl [(3, .c (.own 1 none)), (8, .c (.l (encL api_Prop.enc) qlists)), (9, .i (qlists.length : Int)), (10, .i vx)]) 2

def twin_names_o0_x2_H (qlists : List (List api_Prop)) (vx : Int) (vy3 : List api_Prop) : (List (List UInt8)) × Int → St
  | (vout3, vx2) => Mem.st ⟨[(1, ⟨9, 1, List.map encS vout3⟩)], []⟩ (tl [(3, .c (.own 1 none)), (8, .c (.l (encL api_Prop.enc) qlists)), (9, .i (qlists.length : Int)), (10, .i vx), (14, .c (.l api_Prop.enc vy3)), (15, .i (vy3.length : Int)), (16, .i vx2)]) 2

theorem twin_names_o0_x2_ok (qlists : List (List api_Prop)) (vx : Int) (vy3 : List api_Prop) (s : (List (List UInt8)) × Int) (r : ((List (List UInt8)) × Int) ⊕ ((List (List UInt8)))) (hF : twin_names_o0_x2 vy3 s = some r) : Awp prog 1 31 (cL (cL (cR (cR (cL (cL (cR (cR (cL (cL (cR (cL (cR (cR (cB f38))))))))))))))) (Out 1 (kk twin_names_o0_x2_k) (SS (twin_names_o0_x2_H qlists vx vy3) (twin_names_o0_x2_S qlists vx vy3)) r) (twin_names_o0_x2_H qlists vx vy3 s) := by
  obtain ⟨vout3, vx2⟩ := s
  unfold twin_names_o0_x2 at hF
  refine sR 1 (awp_seq (cE hF (fun h3 hF => ?_) fun h3 hF => ?_))
  · refine tT h3 (awp_skip (awp_seq (awp_block (awp_seq (bE hF fun vy5 h4 hF => awp_region (aX (x_idx api_Prop.enc h4) (aR 3 (aE ?_))))))))
    refine gE hF fun h5 hF => ?_
    refine awp_region (aR 4 (aX (x_app encS 1 h5) (aR 1 (aE ?_))))
    exact gR 2 (oO hF [(1, 9002)] [] rfl)
  · refine tF h3 (awp_exit ?_)
    exact oO hF [] [] rfl

def twin_names_o0_x1_k : (List (List UInt8)) → AEx
  | _ => .exit 0

def twin_names_o0_x1_S (qlists : List (List api_Prop)) : (List (List UInt8)) → St
  | vout5 => Mem.st ⟨[(1, ⟨9, 1, List.map encS vout5⟩)], []⟩ (tl [(3, .c (.own 1 none))]) 2

def twin_names_o0_x1_H (qlists : List (List api_Prop)) : (List (List UInt8)) × Int → St
  | (vout, vx) => Mem.st ⟨[(1, ⟨9, 1, List.map encS vout⟩)], []⟩ (tl [(3, .c (.own 1 none)), (8, .c (.l (encL api_Prop.enc) qlists)), (9, .i (qlists.length : Int)), (10, .i vx)]) 2

theorem twin_names_o0_x1_ok (qlists : List (List api_Prop)) (s : (List (List UInt8)) × Int) (r : ((List (List UInt8)) × Int) ⊕ ((List (List UInt8)))) (hF : twin_names_o0_x1 qlists s = some r) : Awp prog 1 31 (cL (cL (cR (cL (cR (cR (cB f38))))))) (Out 1 (kk twin_names_o0_x1_k) (SS (twin_names_o0_x1_H qlists) (twin_names_o0_x1_S qlists)) r) (twin_names_o0_x1_H qlists s) := by
  obtain ⟨vout, vx⟩ := s
  unfold twin_names_o0_x1 at hF
  refine sR 1 (awp_seq (cE hF (fun h1 hF => ?_) fun h1 hF => ?_))
  · refine tT h1 (awp_skip (awp_seq (awp_block (awp_seq (bE hF fun vy3 h2 hF => awp_region (aX (x_idx (encL api_Prop.enc) h2) (aR 2 (aE ?_))))))))
    refine awp_seq (awp_region (aR 1 (aL api_Prop.enc vy3 (aR 1 (aE ?_)))))
    refine awp_block (awp_to (st' := twin_names_o0_x2_H qlists vx vy3 (vout, 0)) (oT [] []) ?_)
    refine bE hF fun vout4_1 h6 hF => awp_sub (awp_loop' (twin_names_o0_x2_H qlists vx vy3) twin_names_o0_x2_k (twin_names_o0_x2_S qlists vx vy3) (by intro x; exact fun h => nomatch h) h6 (twin_names_o0_x2_ok qlists vx vy3)) ?_
    exact gR 2 (oO hF [] [] rfl)
  · refine tF h1 (awp_exit ?_)
    exact oO hF [] [] rfl

def twin_names_o0_R (qlists : List (List api_Prop)) (r : (List (List UInt8))) : TV × Mem := (.c (.own 1 none), ⟨[(1, ⟨9, 1, List.map encS r⟩)], []⟩)

theorem twin_names_o0_ok {qlists : List (List api_Prop)} {r} (hF : twin_names_o0 qlists = some r) : Holds prog 38 [.c (.own 0 none)] ⟨[(0, ⟨26, 1, List.map (encL api_Prop.enc) qlists⟩)], []⟩ (Is (twin_names_o0_R qlists r)) := by
  unfold twin_names_o0 at hF
  refine hW f38 31 1 1 ?_
  refine sR 1 (awp_to (oT (m := ⟨[], []⟩) (ts := [(0, .c (.l (encL api_Prop.enc) qlists))]) (nx := 1) [] []) ?_)
  refine sR 1 (awp_seq (awp_seq (awp_region (aR 1 (aL (encL api_Prop.enc) qlists (aR 1 (aE ?_)))))))
  refine awp_block (awp_to (st' := twin_names_o0_x1_H qlists ([], 0)) (oT [] [1]) ?_)
  refine bE hF fun vout5_1 h7 hF => awp_sub (awp_loop' (twin_names_o0_x1_H qlists) twin_names_o0_x1_k (twin_names_o0_x1_S qlists) (by intro x; exact fun h => nomatch h) h7 (twin_names_o0_x1_ok qlists)) ?_
  refine awp_seq (bE hF fun vl h8 hF => gE hF fun h9 hF => ?_)
  refine awp_region (aR 1 (aCp (slices_Sort_string_string_o0_ok h8) ⟨⟨rfl, rfl, pin1 h9⟩, trivial⟩ [(0, 1)] [] [] ?_))
  refine aE ?_
  refine awp_seq (bE hF fun vr h10 hF => awp_region (aR 1 (aC (slices_Compact_string_string_o0_ok h10) [(0, 1)] [] [] (aR 1 (aE ?_)))))
  exact awp_ret (oF hF [(1, 3003)] [])

/-! ### beaconfleet/twin.valueOf -/
def twin_valueOf_R (ql : List api_Prop) (qname : List UInt8) (r : api_Value) : TV × Mem := (.v (.agg [.i r.Kind, .t r.Flag, .i r.Number, .s r.Words]), ⟨[], []⟩)

theorem twin_valueOf_ok {ql : List api_Prop} {qname : List UInt8} {r} (hF : twin_valueOf ql qname = some r) : Holds prog 39 [.c (.l api_Prop.enc ql), .c (.s qname)] ⟨[], []⟩ (Is (twin_valueOf_R ql qname r)) := by
  unfold twin_valueOf at hF
  refine hW f39 17 0 0 ?_
  refine sR 1 (awp_seq (awp_seq (bE hF fun vr2 h1 hF => awp_region (aR 2 (aC (twin_find_ok h1) [] [] [] (aR 1 (aE ?_)))))))
  refine sR 2 (cE hF (fun h2 hF => ?_) fun h2 hF => ?_)
  · refine tT h2 (awp_seq (bE hF fun vy h3 hF => awp_region (aR 2 (aX (x_idx api_Prop.enc h3) (aR 3 (aE ?_))))))
    exact awp_ret (oF hF [] [])
  · exact tF h2 (awp_skip (sR 2 (awp_ret (oF hF [] []))))

/-! ### beaconfleet/twin.Three -/
def twin_Three_x4_S (qx : List api_Prop) (qx1 : List api_Prop) (qx2 : List api_Prop) (vr1 : List (List UInt8)) (vx : List api_Prop) (vx1 : List api_Clash) (vx2 : Int) (vy1 : List UInt8) (vr6 : api_Value) (vr7 : api_Value) (vr8 : api_Value) : Bool → St
  | vx8 => Mem.st ⟨[(4, ⟨43, 5, List.map api_Prop.enc vx⟩), (5, ⟨46, 13, List.map api_Clash.enc vx1⟩)], [(0, [.i vr6.Kind, .t vr6.Flag, .i vr6.Number, .s vr6.Words]), (1, [.i vr7.Kind, .t vr7.Flag, .i vr7.Number, .s vr7.Words]), (2, [.i vr8.Kind, .t vr8.Flag, .i vr8.Number, .s vr8.Words]), (3, [.i vr6.Kind, .t vr6.Flag, .i vr6.Number, .s vr6.Words])]⟩ (tl [(0, .c (.l api_Prop.enc qx)), (1, .c (.l api_Prop.enc qx1)), (2, .c (.l api_Prop.enc qx2)), (10, .c (.own 4 none)), (11, .c (.own 5 none)), (13, .c (.s vy1)), (14, .c (.box 0 0)), (15, .c (.box 1 0)), (16, .c (.box 2 0)), (17, .c (.box 3 0)), (34, .c (.l encS vr1)), (35, .i (vr1.length : Int)), (36, .i vx2), (58, .b vx8)]) 6

def twin_Three_x4_I (qx : List api_Prop) (qx1 : List api_Prop) (qx2 : List api_Prop) (vr1 : List (List UInt8)) (vx : List api_Prop) (vx1 : List api_Clash) (vx2 : Int) (vy1 : List UInt8) (vr6 : api_Value) (vr7 : api_Value) (vr8 : api_Value) : St := Mem.st ⟨[(4, ⟨43, 5, List.map api_Prop.enc vx⟩), (5, ⟨46, 13, List.map api_Clash.enc vx1⟩)], [(0, [.i vr6.Kind, .t vr6.Flag, .i vr6.Number, .s vr6.Words]), (1, [.i vr7.Kind, .t vr7.Flag, .i vr7.Number, .s vr7.Words]), (2, [.i vr8.Kind, .t vr8.Flag, .i vr8.Number, .s vr8.Words]), (3, [.i vr6.Kind, .t vr6.Flag, .i vr6.Number, .s vr6.Words])]⟩ (tl [(0, .c (.l api_Prop.enc qx)), (1, .c (.l api_Prop.enc qx1)), (2, .c (.l api_Prop.enc qx2)), (10, .c (.own 4 none)), (11, .c (.own 5 none)), (13, .c (.s vy1)), (14, .c (.box 0 0)), (15, .c (.box 1 0)), (16, .c (.box 2 0)), (17, .c (.box 3 0)), (34, .c (.l encS vr1)), (35, .i (vr1.length : Int)), (36, .i vx2)]) 6

theorem twin_Three_x4_ok (qx : List api_Prop) (qx1 : List api_Prop) (qx2 : List api_Prop) (vr1 : List (List UInt8)) (vx : List api_Prop) (vx1 : List api_Clash) (vx2 : Int) (vy1 : List UInt8) (vr6 : api_Value) (vr7 : api_Value) (vr8 : api_Value) {r} (hF : twin_Three_x4 vr6 vr7 vr8 = some r) : Awp prog 0 90 (cL (cL (cL (cR (cR (cR (cL (cL (cR (cR (cL (cL (cR (cL (cR (cR (cR (cR (cB f10))))))))))))))))))) (Out 0 nrm (twin_Three_x4_S qx qx1 qx2 vr1 vx vx1 vx2 vy1 vr6 vr7 vr8) r) (twin_Three_x4_I qx qx1 qx2 vr1 vx vx1 vx2 vy1 vr6 vr7 vr8) := by
  unfold twin_Three_x4 at hF
  refine cE hF (fun h12 hF => ?_) fun h12 hF => ?_
  · refine awp_region (aR 2 (aSb (does_eqS (op := .eql) (xs := [.int .i64 vr7.Kind, .bool vr7.Flag, .int .i64 vr7.Number, .str vr7.Words]) (ys := [.int .i64 vr6.Kind, .bool vr6.Flag, .int .i64 vr6.Number, .str vr6.Words]) (b := (decide (vr7.Kind = vr6.Kind) && ((vr7.Flag == vr6.Flag) && (decide (vr7.Number = vr6.Number) && (decide (vr7.Words = vr6.Words) && true))))) (c := (decide (vr7.Kind = vr6.Kind) && ((vr7.Flag == vr6.Flag) && (decide (vr7.Number = vr6.Number) && (decide (vr7.Words = vr6.Words) && true))))) rfl (.inl ⟨rfl, rfl⟩) (by kernel_rfl) (by kernel_rfl) (by kernel_rfl) (by kernel_rfl) (by kernel_rfl) (by kernel_rfl)) h12 ?_))
    refine aR 6 (aE ?_)
    exact oO hF [] [] rfl
  · refine awp_region (aR 2 (aSb (does_eqS (op := .eql) (xs := [.int .i64 vr7.Kind, .bool vr7.Flag, .int .i64 vr7.Number, .str vr7.Words]) (ys := [.int .i64 vr6.Kind, .bool vr6.Flag, .int .i64 vr6.Number, .str vr6.Words]) (b := (decide (vr7.Kind = vr6.Kind) && ((vr7.Flag == vr6.Flag) && (decide (vr7.Number = vr6.Number) && (decide (vr7.Words = vr6.Words) && true))))) (c := (decide (vr7.Kind = vr6.Kind) && ((vr7.Flag == vr6.Flag) && (decide (vr7.Number = vr6.Number) && (decide (vr7.Words = vr6.Words) && true))))) rfl (.inl ⟨rfl, rfl⟩) (by kernel_rfl) (by kernel_rfl) (by kernel_rfl) (by kernel_rfl) (by kernel_rfl) (by kernel_rfl)) h12 ?_))
    refine aR 3 (aS (does_eqS (op := .eql) (xs := [.int .i64 vr7.Kind, .bool vr7.Flag, .int .i64 vr7.Number, .str vr7.Words]) (ys := [.int .i64 vr8.Kind, .bool vr8.Flag, .int .i64 vr8.Number, .str vr8.Words]) (b := (decide (vr7.Kind = vr8.Kind) && ((vr7.Flag == vr8.Flag) && (decide (vr7.Number = vr8.Number) && (decide (vr7.Words = vr8.Words) && true))))) (c := (decide (vr7.Kind = vr8.Kind) && ((vr7.Flag == vr8.Flag) && (decide (vr7.Number = vr8.Number) && (decide (vr7.Words = vr8.Words) && true))))) rfl (.inl ⟨rfl, rfl⟩) (by kernel_rfl) (by kernel_rfl) (by kernel_rfl) (by kernel_rfl) (by kernel_rfl) (by kernel_rfl)) ?_)
    refine aR 2 (aE ?_)
    exact oO hF [] [] rfl

def twin_Three_x3_S (qx : List api_Prop) (qx1 : List api_Prop) (qx2 : List api_Prop) (vr1 : List (List UInt8)) (vx : List api_Prop) (vx1 : List api_Clash) (vx2 : Int) (vy1 : List UInt8) (vr6 : api_Value) (vr7 : api_Value) (vr8 : api_Value) : (api_Value × (List api_Clash)) → St
  | (vx9, vx10) => Mem.st ⟨[(1, ⟨43, 5, List.map api_Prop.enc vx⟩), (2, ⟨46, 13, List.map api_Clash.enc vx10⟩)], [(0, [.i vx9.Kind, .t vx9.Flag, .i vx9.Number, .s vx9.Words])]⟩ (tl [(0, .c (.l api_Prop.enc qx)), (1, .c (.l api_Prop.enc qx1)), (2, .c (.l api_Prop.enc qx2)), (10, .c (.own 1 none)), (11, .c (.own 2 none)), (13, .c (.s vy1)), (17, .c (.box 0 0)), (34, .c (.l encS vr1)), (35, .i (vr1.length : Int)), (36, .i vx2)]) 3

def twin_Three_x3_I (qx : List api_Prop) (qx1 : List api_Prop) (qx2 : List api_Prop) (vr1 : List (List UInt8)) (vx : List api_Prop) (vx1 : List api_Clash) (vx2 : Int) (vy1 : List UInt8) (vr6 : api_Value) (vr7 : api_Value) (vr8 : api_Value) : St := Mem.st ⟨[(4, ⟨43, 5, List.map api_Prop.enc vx⟩), (5, ⟨46, 13, List.map api_Clash.enc vx1⟩)], [(0, [.i vr6.Kind, .t vr6.Flag, .i vr6.Number, .s vr6.Words]), (1, [.i vr7.Kind, .t vr7.Flag, .i vr7.Number, .s vr7.Words]), (2, [.i vr8.Kind, .t vr8.Flag, .i vr8.Number, .s vr8.Words]), (3, [.i vr6.Kind, .t vr6.Flag, .i vr6.Number, .s vr6.Words])]⟩ (tl [(0, .c (.l api_Prop.enc qx)), (1, .c (.l api_Prop.enc qx1)), (2, .c (.l api_Prop.enc qx2)), (10, .c (.own 4 none)), (11, .c (.own 5 none)), (13, .c (.s vy1)), (14, .c (.box 0 0)), (15, .c (.box 1 0)), (16, .c (.box 2 0)), (17, .c (.box 3 0)), (34, .c (.l encS vr1)), (35, .i (vr1.length : Int)), (36, .i vx2)]) 6

theorem twin_Three_x3_ok (qx : List api_Prop) (qx1 : List api_Prop) (qx2 : List api_Prop) (vr1 : List (List UInt8)) (vx : List api_Prop) (vx1 : List api_Clash) (vx2 : Int) (vy1 : List UInt8) (vr6 : api_Value) (vr7 : api_Value) (vr8 : api_Value) {r} (hF : twin_Three_x3 vx1 vy1 vr6 vr7 vr8 = some r) : Awp prog 0 90 (cL (cR (cR (cR (cL (cL (cR (cR (cL (cL (cR (cL (cR (cR (cR (cR (cB f10))))))))))))))))) (Out 0 nrm (twin_Three_x3_S qx qx1 qx2 vr1 vx vx1 vx2 vy1 vr6 vr7 vr8) r) (twin_Three_x3_I qx qx1 qx2 vr1 vx vx1 vx2 vy1 vr6 vr7 vr8) := by
  unfold twin_Three_x3 at hF
  refine awp_block (awp_seq (awp_to (st' := twin_Three_x4_I qx qx1 qx2 vr1 vx vx1 vx2 vy1 vr6 vr7 vr8) (oT [] []) ?_))
  refine bE hF fun vx8_1 h13 hF => awp_sub (twin_Three_x4_ok qx qx1 qx2 vr1 vx vx1 vx2 vy1 vr6 vr7 vr8 h13) ?_
  refine cE hF (fun h14 hF => ?_) fun h14 hF => ?_
  · exact tT h14 (gR 2 (oO hF [(0, 3), (1, 4), (2, 5)] [] rfl))
  · refine tF h14 (awp_seq (awp_region (aR 2 (aS (does_eqS (op := .eql) (xs := [.int .i64 vr8.Kind, .bool vr8.Flag, .int .i64 vr8.Number, .str vr8.Words]) (ys := [.int .i64 vr6.Kind, .bool vr6.Flag, .int .i64 vr6.Number, .str vr6.Words]) (b := (decide (vr8.Kind = vr6.Kind) && ((vr8.Flag == vr6.Flag) && (decide (vr8.Number = vr6.Number) && (decide (vr8.Words = vr6.Words) && true))))) (c := (decide (vr8.Kind = vr6.Kind) && ((vr8.Flag == vr6.Flag) && (decide (vr8.Number = vr6.Number) && (decide (vr8.Words = vr6.Words) && true))))) rfl (.inl ⟨rfl, rfl⟩) (by kernel_rfl) (by kernel_rfl) (by kernel_rfl) (by kernel_rfl) (by kernel_rfl) (by kernel_rfl)) ?_))))
    refine aR 1 (aE ?_)
    refine cE hF (fun h15 hF => ?_) fun h15 hF => ?_
    · exact tT h15 (gR 2 (oO hF [(0, 3), (1, 4), (2, 5)] [] rfl))
    · refine tF h15 (gE hF fun h16 hF => ?_)
      refine awp_region (aR 7 (aX (x_app api_Clash.enc 5 h16) (aR 1 (aE ?_))))
      exact oO hF [(0, 3), (1, 4), (2, 11006)] [] rfl

def twin_Three_x2_S (qx : List api_Prop) (qx1 : List api_Prop) (qx2 : List api_Prop) (vr1 : List (List UInt8)) (vx : List api_Prop) (vx1 : List api_Clash) (vx2 : Int) : ((List api_Prop) × (List api_Clash)) → St
  | (vx11, vx12) => Mem.st ⟨[(0, ⟨43, 5, List.map api_Prop.enc vx11⟩), (1, ⟨46, 13, List.map api_Clash.enc vx12⟩)], []⟩ (tl [(0, .c (.l api_Prop.enc qx)), (1, .c (.l api_Prop.enc qx1)), (2, .c (.l api_Prop.enc qx2)), (10, .c (.own 0 none)), (11, .c (.own 1 none)), (34, .c (.l encS vr1)), (35, .i (vr1.length : Int)), (36, .i vx2)]) 2

def twin_Three_x2_I (qx : List api_Prop) (qx1 : List api_Prop) (qx2 : List api_Prop) (vr1 : List (List UInt8)) (vx : List api_Prop) (vx1 : List api_Clash) (vx2 : Int) : St := Mem.st ⟨[(0, ⟨43, 5, List.map api_Prop.enc vx⟩), (1, ⟨46, 13, List.map api_Clash.enc vx1⟩)], []⟩ (tl [(0, .c (.l api_Prop.enc qx)), (1, .c (.l api_Prop.enc qx1)), (2, .c (.l api_Prop.enc qx2)), (10, .c (.own 0 none)), (11, .c (.own 1 none)), (34, .c (.l encS vr1)), (35, .i (vr1.length : Int)), (36, .i vx2)]) 2

theorem twin_Three_x2_ok (qx : List api_Prop) (qx1 : List api_Prop) (qx2 : List api_Prop) (vr1 : List (List UInt8)) (vx : List api_Prop) (vx1 : List api_Clash) (vx2 : Int) {r} (hF : twin_Three_x2 qx qx1 qx2 vr1 vx vx1 vx2 = some r) : Awp prog 0 90 (cL (cR (cR (cL (cL (cR (cL (cR (cR (cR (cR (cB f10)))))))))))) (Out 0 nrm (twin_Three_x2_S qx qx1 qx2 vr1 vx vx1 vx2) r) (twin_Three_x2_I qx qx1 qx2 vr1 vx vx1 vx2) := by
  unfold twin_Three_x2 at hF
  refine awp_block (awp_seq (bE hF fun vy1 h8 hF => awp_region (aX (x_idx encS h8) (aR 2 (aE ?_)))))
  refine awp_seq (bE hF fun vr6 h9 hF => bE hF fun vr7 h10 hF => bE hF fun vr8 h11 hF => awp_region (aR 2 (aC (twin_valueOf_ok h9) [] [] [] (aR 2 (aC (twin_valueOf_ok h10) [] [] [] (aR 2 (aC (twin_valueOf_ok h11) [] [] [] (aR 6 (aE ?_)))))))))
  refine sR 3 (awp_seq (awp_to (st' := twin_Three_x3_I qx qx1 qx2 vr1 vx vx1 vx2 vy1 vr6 vr7 vr8) (oT [(0, 12002), (1, 13002), (2, 14002), (3, 19002), (4, 0), (5, 1)] []) ?_))
  refine bE hF fun x h17 hF => ?_
  obtain ⟨vx9_1, vx10_1⟩ := x
  refine awp_sub (twin_Three_x3_ok qx qx1 qx2 vr1 vx vx1 vx2 vy1 vr6 vr7 vr8 h17) ?_
  refine sR 3 (cE hF (fun h18 hF => ?_) fun h18 hF => ?_)
  · refine tT h18 (gE hF fun h19 hF => ?_)
    refine awp_region (aR 5 (aX (x_app api_Prop.enc 1 h19) (aR 1 (aE ?_))))
    exact oO hF [(0, 8003), (1, 2)] [] rfl
  · exact tF h18 (awp_skip (oO hF [(0, 1), (1, 2)] [] rfl))

def twin_Three_x1_k : ((List api_Prop) × (List api_Clash)) → AEx
  | _ => .exit 0

def twin_Three_x1_S (qx : List api_Prop) (qx1 : List api_Prop) (qx2 : List api_Prop) (vr1 : List (List UInt8)) : ((List api_Prop) × (List api_Clash)) → St
  | (vx13, vx14) => Mem.st ⟨[(0, ⟨43, 5, List.map api_Prop.enc vx13⟩), (1, ⟨46, 13, List.map api_Clash.enc vx14⟩)], []⟩ (tl [(10, .c (.own 0 none)), (11, .c (.own 1 none))]) 2

def twin_Three_x1_H (qx : List api_Prop) (qx1 : List api_Prop) (qx2 : List api_Prop) (vr1 : List (List UInt8)) : (List api_Prop) × (List api_Clash) × Int → St
  | (vx, vx1, vx2) => Mem.st ⟨[(0, ⟨43, 5, List.map api_Prop.enc vx⟩), (1, ⟨46, 13, List.map api_Clash.enc vx1⟩)], []⟩ (tl [(0, .c (.l api_Prop.enc qx)), (1, .c (.l api_Prop.enc qx1)), (2, .c (.l api_Prop.enc qx2)), (10, .c (.own 0 none)), (11, .c (.own 1 none)), (34, .c (.l encS vr1)), (35, .i (vr1.length : Int)), (36, .i vx2)]) 2

theorem twin_Three_x1_ok (qx : List api_Prop) (qx1 : List api_Prop) (qx2 : List api_Prop) (vr1 : List (List UInt8)) (s : (List api_Prop) × (List api_Clash) × Int) (r : ((List api_Prop) × (List api_Clash) × Int) ⊕ (((List api_Prop) × (List api_Clash)))) (hF : twin_Three_x1 qx qx1 qx2 vr1 s = some r) : Awp prog 0 90 (cL (cL (cR (cL (cR (cR (cR (cR (cB f10))))))))) (Out 0 (kk twin_Three_x1_k) (SS (twin_Three_x1_H qx qx1 qx2 vr1) (twin_Three_x1_S qx qx1 qx2 vr1)) r) (twin_Three_x1_H qx qx1 qx2 vr1 s) := by
  obtain ⟨vx, vx1, vx2⟩ := s
  unfold twin_Three_x1 at hF
  refine sR 1 (awp_seq (cE hF (fun h7 hF => ?_) fun h7 hF => ?_))
  · refine tT h7 (awp_skip (awp_seq (awp_to (st' := twin_Three_x2_I qx qx1 qx2 vr1 vx vx1 vx2) (oT [] []) ?_)))
    refine bE hF fun x h20 hF => ?_
    obtain ⟨vx11_1, vx12_1⟩ := x
    refine awp_sub (twin_Three_x2_ok qx qx1 qx2 vr1 vx vx1 vx2 h20) ?_
    exact gR 2 (oO hF [] [] rfl)
  · refine tF h7 (awp_exit ?_)
    exact oO hF [] [] rfl

def twin_Three_R (qx : List api_Prop) (qx1 : List api_Prop) (qx2 : List api_Prop) (r : (List api_Prop) × (List api_Clash) × Int) : TV × Mem := (.tup [.one (.own 0 none), .one (.own 1 none), .one (.i r.2.2)], ⟨[(0, ⟨43, 5, List.map api_Prop.enc r.1⟩), (1, ⟨46, 13, List.map api_Clash.enc r.2.1⟩)], []⟩)

theorem twin_Three_ok {qx : List api_Prop} {qx1 : List api_Prop} {qx2 : List api_Prop} {r} (hF : twin_Three qx qx1 qx2 = some r) : Holds prog 10 [.c (.l api_Prop.enc qx), .c (.l api_Prop.enc qx1), .c (.l api_Prop.enc qx2)] ⟨[], []⟩ (Is (twin_Three_R qx qx1 qx2 r)) := by
  unfold twin_Three at hF
  refine hW f10 90 0 0 ?_
  refine sR 3 (awp_seq (awp_seq (bE hF fun vr3 h1 hF => bE hF fun vr3_1 h2 hF => bE hF fun vr3_2 h3 hF => bE hF fun vr h4 hF => awp_region (aR 1 (aC (twin_CheckProps_ok h1) [] [] [] (aR 1 (aC (twin_CheckProps_ok h2) [] [] [] (aR 1 (aC (twin_CheckProps_ok h3) [] [] [] ?_)))))))))
  refine aR 1 (aC (base_First_ok h4) [] [] [9000] (aR 1 (aE ?_)))
  refine sR 2 (cE hF (fun h5 hF => ?_) fun h5 hF => ?_)
  · exact tT h5 (sR 4 (awp_ret (oF hF [] [0, 1])))
  · refine tF h5 (awp_skip (sR 1 (sR 1 (awp_seq (awp_seq (bE hF fun vr1 h6 hF => awp_region (aR 4 (aC (twin_names_o0_ok h6) [(0, 19000)] [] [] (aL encS vr1 (aR 1 (aE ?_)))))))))))
    refine awp_to (oT (m := ⟨[], []⟩) (ts := [(0, .c (.l api_Prop.enc qx)), (1, .c (.l api_Prop.enc qx1)), (2, .c (.l api_Prop.enc qx2)), (10, .c (.nil)), (11, .c (.nil)), (34, .c (.l encS vr1)), (35, .i (vr1.length : Int)), (36, .i 0)]) (nx := 0) [] []) ?_
    refine awp_block (awp_to (st' := twin_Three_x1_H qx qx1 qx2 vr1 ([], [], 0)) (oT [] [0, 1]) ?_)
    refine bE hF fun x h21 hF => ?_
    obtain ⟨vx13_1, vx14_1⟩ := x
    refine awp_sub (awp_loop' (twin_Three_x1_H qx qx1 qx2 vr1) twin_Three_x1_k (twin_Three_x1_S qx qx1 qx2 vr1) (by intro x; exact fun h => nomatch h) h21 (twin_Three_x1_ok qx qx1 qx2 vr1)) ?_
    refine awp_seq (awp_seq (bE hF fun vr3_3 h22 hF => awp_region (aR 1 (aC (twin_CheckProps_ok h22) [] [] [0] (aR 1 (aE ?_))))))
    refine sR 2 (cE hF (fun h23 hF => ?_) fun h23 hF => ?_)
    · exact tT h23 (sR 4 (awp_ret (oF hF [] [0, 1])))
    · exact tF h23 (awp_skip (sR 5 (awp_ret (oF hF [] []))))

/-! ### beaconfleet/fleetlaw2.errs -/
def fleetlaw2_errs_x1_k : Unit ⊕ Int → AEx
  | .inl _ => .exit 0
  | .inr _ => .ret

def fleetlaw2_errs_x1_S (ql : List Int) : Unit ⊕ Int → St
  | .inl _ => Mem.st ⟨[], []⟩ (tl []) 0
  | .inr vx1 => Mem.st ⟨[], []⟩ (tl [(2, .i vx1)]) 0

def fleetlaw2_errs_x1_H (ql : List Int) : Int → St
  | vx => Mem.st ⟨[], []⟩ (tl [(5, .c (.l (encI .i64) ql)), (6, .i (ql.length : Int)), (7, .i vx)]) 0

theorem fleetlaw2_errs_x1_ok (ql : List Int) (vx : Int) (r : (Int) ⊕ (Unit ⊕ Int)) (hF : fleetlaw2_errs_x1 ql vx = some r) : Awp prog 0 15 (cL (cL (cR (cL (cR (cB f11)))))) (Out 0 (kk fleetlaw2_errs_x1_k) (SS (fleetlaw2_errs_x1_H ql) (fleetlaw2_errs_x1_S ql)) r) (fleetlaw2_errs_x1_H ql vx) := by
  unfold fleetlaw2_errs_x1 at hF
  refine sR 1 (awp_seq (cE hF (fun h1 hF => ?_) fun h1 hF => ?_))
  · refine tT h1 (awp_skip (awp_seq (awp_block (awp_seq (bE hF fun vy1 h2 hF => awp_region (aX (x_idx (encI .i64) h2) (aR 2 (aE ?_))))))))
    refine sR 2 (cE hF (fun h3 hF => ?_) fun h3 hF => ?_)
    · exact tT h3 (sR 2 (awp_ret (oO hF [] [] rfl)))
    · exact tF h3 (awp_skip (gR 2 (oO hF [] [] rfl)))
  · refine tF h1 (awp_exit ?_)
    exact oO hF [] [] rfl

def fleetlaw2_errs_R (ql : List Int) (r : Int) : TV × Mem := (.i r, ⟨[], []⟩)

theorem fleetlaw2_errs_ok {ql : List Int} {r} (hF : fleetlaw2_errs ql = some r) : Holds prog 11 [.c (.l (encI .i64) ql)] ⟨[], []⟩ (Is (fleetlaw2_errs_R ql r)) := by
  unfold fleetlaw2_errs at hF
  refine hW f11 15 0 0 ?_
  refine sR 1 (awp_seq (awp_seq (awp_region (aR 1 (aL (encI .i64) ql (aR 1 (aE ?_)))))))
  refine awp_block (awp_to (st' := fleetlaw2_errs_x1_H ql 0) (oT [] []) ?_)
  refine bE hF fun x h4 hF => ?_
  rcases x with _ | vx1_1
  · refine awp_sub (awp_loop' (fleetlaw2_errs_x1_H ql) fleetlaw2_errs_x1_k (fleetlaw2_errs_x1_S ql) (by intro x; rcases x with x | x <;> exact fun h => nomatch h) h4 (fleetlaw2_errs_x1_ok ql)) ?_
    exact sR 1 (awp_ret (oF hF [] []))
  · refine awp_sub (awp_loop' (fleetlaw2_errs_x1_H ql) fleetlaw2_errs_x1_k (fleetlaw2_errs_x1_S ql) (by intro x; rcases x with x | x <;> exact fun h => nomatch h) h4 (fleetlaw2_errs_x1_ok ql)) ?_
    exact oF hF [] []

/-! ### beaconfleet/fleetref2.ThreeOf -/
def fleetref2_ThreeOf_x3_S (qx : List api_Prop) (qx1 : List api_Prop) (qx2 : List api_Prop) (vr1 : List (List UInt8)) (vm : List (List UInt8 × api_Value)) (vx : List api_Clash) (vx1 : Int) (vy1 : List UInt8) (vr4 : api_Value) (vr5 : api_Value) (vr6 : api_Value) : Bool → St
  | vx4 => Mem.st ⟨[(4, ⟨46, 13, List.map api_Clash.enc vx⟩)], [(0, [.i vr4.Kind, .t vr4.Flag, .i vr4.Number, .s vr4.Words]), (1, [.i vr5.Kind, .t vr5.Flag, .i vr5.Number, .s vr5.Words]), (2, [.i vr6.Kind, .t vr6.Flag, .i vr6.Number, .s vr6.Words]), (3, [.mapc .str true (List.map (encM D.str api_Value.enc) vm)])]⟩ (tl [(0, .c (.l api_Prop.enc qx)), (1, .c (.l api_Prop.enc qx1)), (2, .c (.l api_Prop.enc qx2)), (9, .c (.mapp 3)), (10, .c (.own 4 none)), (12, .c (.s vy1)), (13, .c (.box 0 0)), (14, .c (.box 1 0)), (15, .c (.box 2 0)), (23, .c (.l encS vr1)), (24, .i (vr1.length : Int)), (25, .i vx1), (49, .b vx4)]) 5

def fleetref2_ThreeOf_x3_I (qx : List api_Prop) (qx1 : List api_Prop) (qx2 : List api_Prop) (vr1 : List (List UInt8)) (vm : List (List UInt8 × api_Value)) (vx : List api_Clash) (vx1 : Int) (vy1 : List UInt8) (vr4 : api_Value) (vr5 : api_Value) (vr6 : api_Value) : St := Mem.st ⟨[(4, ⟨46, 13, List.map api_Clash.enc vx⟩)], [(0, [.i vr4.Kind, .t vr4.Flag, .i vr4.Number, .s vr4.Words]), (1, [.i vr5.Kind, .t vr5.Flag, .i vr5.Number, .s vr5.Words]), (2, [.i vr6.Kind, .t vr6.Flag, .i vr6.Number, .s vr6.Words]), (3, [.mapc .str true (List.map (encM D.str api_Value.enc) vm)])]⟩ (tl [(0, .c (.l api_Prop.enc qx)), (1, .c (.l api_Prop.enc qx1)), (2, .c (.l api_Prop.enc qx2)), (9, .c (.mapp 3)), (10, .c (.own 4 none)), (12, .c (.s vy1)), (13, .c (.box 0 0)), (14, .c (.box 1 0)), (15, .c (.box 2 0)), (23, .c (.l encS vr1)), (24, .i (vr1.length : Int)), (25, .i vx1)]) 5

theorem fleetref2_ThreeOf_x3_ok (qx : List api_Prop) (qx1 : List api_Prop) (qx2 : List api_Prop) (vr1 : List (List UInt8)) (vm : List (List UInt8 × api_Value)) (vx : List api_Clash) (vx1 : Int) (vy1 : List UInt8) (vr4 : api_Value) (vr5 : api_Value) (vr6 : api_Value) {r} (hF : fleetref2_ThreeOf_x3 vr4 vr5 vr6 = some r) : Awp prog 0 79 (cL (cL (cR (cR (cL (cL (cR (cR (cL (cL (cR (cL (cR (cR (cR (cB f12)))))))))))))))) (Out 0 nrm (fleetref2_ThreeOf_x3_S qx qx1 qx2 vr1 vm vx vx1 vy1 vr4 vr5 vr6) r) (fleetref2_ThreeOf_x3_I qx qx1 qx2 vr1 vm vx vx1 vy1 vr4 vr5 vr6) := by
  unfold fleetref2_ThreeOf_x3 at hF
  refine cE hF (fun h7 hF => ?_) fun h7 hF => ?_
  · refine awp_region (aR 2 (aSb (does_eqS (op := .eql) (xs := [.int .i64 vr5.Kind, .bool vr5.Flag, .int .i64 vr5.Number, .str vr5.Words]) (ys := [.int .i64 vr4.Kind, .bool vr4.Flag, .int .i64 vr4.Number, .str vr4.Words]) (b := (decide (vr5.Kind = vr4.Kind) && ((vr5.Flag == vr4.Flag) && (decide (vr5.Number = vr4.Number) && (decide (vr5.Words = vr4.Words) && true))))) (c := (decide (vr5.Kind = vr4.Kind) && ((vr5.Flag == vr4.Flag) && (decide (vr5.Number = vr4.Number) && (decide (vr5.Words = vr4.Words) && true))))) rfl (.inl ⟨rfl, rfl⟩) (by kernel_rfl) (by kernel_rfl) (by kernel_rfl) (by kernel_rfl) (by kernel_rfl) (by kernel_rfl)) h7 ?_))
    refine aR 6 (aE ?_)
    exact oO hF [] [] rfl
  · refine awp_region (aR 2 (aSb (does_eqS (op := .eql) (xs := [.int .i64 vr5.Kind, .bool vr5.Flag, .int .i64 vr5.Number, .str vr5.Words]) (ys := [.int .i64 vr4.Kind, .bool vr4.Flag, .int .i64 vr4.Number, .str vr4.Words]) (b := (decide (vr5.Kind = vr4.Kind) && ((vr5.Flag == vr4.Flag) && (decide (vr5.Number = vr4.Number) && (decide (vr5.Words = vr4.Words) && true))))) (c := (decide (vr5.Kind = vr4.Kind) && ((vr5.Flag == vr4.Flag) && (decide (vr5.Number = vr4.Number) && (decide (vr5.Words = vr4.Words) && true))))) rfl (.inl ⟨rfl, rfl⟩) (by kernel_rfl) (by kernel_rfl) (by kernel_rfl) (by kernel_rfl) (by kernel_rfl) (by kernel_rfl)) h7 ?_))
    refine aR 3 (aS (does_eqS (op := .eql) (xs := [.int .i64 vr5.Kind, .bool vr5.Flag, .int .i64 vr5.Number, .str vr5.Words]) (ys := [.int .i64 vr6.Kind, .bool vr6.Flag, .int .i64 vr6.Number, .str vr6.Words]) (b := (decide (vr5.Kind = vr6.Kind) && ((vr5.Flag == vr6.Flag) && (decide (vr5.Number = vr6.Number) && (decide (vr5.Words = vr6.Words) && true))))) (c := (decide (vr5.Kind = vr6.Kind) && ((vr5.Flag == vr6.Flag) && (decide (vr5.Number = vr6.Number) && (decide (vr5.Words = vr6.Words) && true))))) rfl (.inl ⟨rfl, rfl⟩) (by kernel_rfl) (by kernel_rfl) (by kernel_rfl) (by kernel_rfl) (by kernel_rfl) (by kernel_rfl)) ?_)
    refine aR 2 (aE ?_)
    exact oO hF [] [] rfl

def fleetref2_ThreeOf_x2_S (qx : List api_Prop) (qx1 : List api_Prop) (qx2 : List api_Prop) (vr1 : List (List UInt8)) (vm : List (List UInt8 × api_Value)) (vx : List api_Clash) (vx1 : Int) : ((List (List UInt8 × api_Value)) × (List api_Clash)) → St
  | (vm2, vx5) => Mem.st ⟨[(1, ⟨46, 13, List.map api_Clash.enc vx5⟩)], [(0, [.mapc .str true (List.map (encM D.str api_Value.enc) vm2)])]⟩ (tl [(0, .c (.l api_Prop.enc qx)), (1, .c (.l api_Prop.enc qx1)), (2, .c (.l api_Prop.enc qx2)), (9, .c (.mapp 0)), (10, .c (.own 1 none)), (23, .c (.l encS vr1)), (24, .i (vr1.length : Int)), (25, .i vx1)]) 2

def fleetref2_ThreeOf_x2_I (qx : List api_Prop) (qx1 : List api_Prop) (qx2 : List api_Prop) (vr1 : List (List UInt8)) (vm : List (List UInt8 × api_Value)) (vx : List api_Clash) (vx1 : Int) : St := Mem.st ⟨[(1, ⟨46, 13, List.map api_Clash.enc vx⟩)], [(0, [.mapc .str true (List.map (encM D.str api_Value.enc) vm)])]⟩ (tl [(0, .c (.l api_Prop.enc qx)), (1, .c (.l api_Prop.enc qx1)), (2, .c (.l api_Prop.enc qx2)), (9, .c (.mapp 0)), (10, .c (.own 1 none)), (23, .c (.l encS vr1)), (24, .i (vr1.length : Int)), (25, .i vx1)]) 2

theorem fleetref2_ThreeOf_x2_ok (qx : List api_Prop) (qx1 : List api_Prop) (qx2 : List api_Prop) (vr1 : List (List UInt8)) (vm : List (List UInt8 × api_Value)) (vx : List api_Clash) (vx1 : Int) {r} (hF : fleetref2_ThreeOf_x2 qx qx1 qx2 vr1 vm vx vx1 = some r) : Awp prog 0 79 (cL (cR (cR (cL (cL (cR (cL (cR (cR (cR (cB f12))))))))))) (Out 0 nrm (fleetref2_ThreeOf_x2_S qx qx1 qx2 vr1 vm vx vx1) r) (fleetref2_ThreeOf_x2_I qx qx1 qx2 vr1 vm vx vx1) := by
  unfold fleetref2_ThreeOf_x2 at hF
  refine awp_block (awp_seq (bE hF fun vy1 h3 hF => awp_region (aX (x_idx encS h3) (aR 2 (aE ?_)))))
  refine awp_seq (bE hF fun vr4 h4 hF => bE hF fun vr5 h5 hF => bE hF fun vr6 h6 hF => awp_region (aR 2 (aC (fleetref2_ValueOf_ok h4) [] [] [] (aR 2 (aC (fleetref2_ValueOf_ok h5) [] [] [] (aR 2 (aC (fleetref2_ValueOf_ok h6) [] [] [] (aR 6 (aE ?_)))))))))
  refine awp_block (awp_seq (awp_to (st' := fleetref2_ThreeOf_x3_I qx qx1 qx2 vr1 vm vx vx1 vy1 vr4 vr5 vr6) (oT [(0, 12002), (1, 13002), (2, 14002), (3, 0), (4, 1)] []) ?_))
  refine bE hF fun vx4_1 h8 hF => awp_sub (fleetref2_ThreeOf_x3_ok qx qx1 qx2 vr1 vm vx vx1 vy1 vr4 vr5 vr6 h8) ?_
  refine cE hF (fun h9 hF => ?_) fun h9 hF => ?_
  · refine tT h9 (awp_region (aR 3 (aPut 3 .str true (l := vm) (key := vy1) (v := vr6) D.str api_Value.enc rfl ?_)))
    refine aE ?_
    exact oO hF [(0, 3), (1, 4)] [] rfl
  · refine tF h9 (awp_seq (awp_region (aR 2 (aS (does_eqS (op := .eql) (xs := [.int .i64 vr6.Kind, .bool vr6.Flag, .int .i64 vr6.Number, .str vr6.Words]) (ys := [.int .i64 vr4.Kind, .bool vr4.Flag, .int .i64 vr4.Number, .str vr4.Words]) (b := (decide (vr6.Kind = vr4.Kind) && ((vr6.Flag == vr4.Flag) && (decide (vr6.Number = vr4.Number) && (decide (vr6.Words = vr4.Words) && true))))) (c := (decide (vr6.Kind = vr4.Kind) && ((vr6.Flag == vr4.Flag) && (decide (vr6.Number = vr4.Number) && (decide (vr6.Words = vr4.Words) && true))))) rfl (.inl ⟨rfl, rfl⟩) (by kernel_rfl) (by kernel_rfl) (by kernel_rfl) (by kernel_rfl) (by kernel_rfl) (by kernel_rfl)) ?_))))
    refine aR 1 (aE ?_)
    refine cE hF (fun h10 hF => ?_) fun h10 hF => ?_
    · refine tT h10 (awp_region (aR 3 (aPut 3 .str true (l := vm) (key := vy1) (v := vr5) D.str api_Value.enc rfl ?_)))
      refine aE ?_
      exact oO hF [(0, 3), (1, 4)] [] rfl
    · refine tF h10 (awp_seq (awp_region (aR 3 (aPut 3 .str true (l := vm) (key := vy1) (v := vr4) D.str api_Value.enc rfl ?_))))
      refine aE ?_
      refine gE hF fun h11 hF => ?_
      refine awp_region (aR 7 (aX (x_app api_Clash.enc 4 h11) (aR 1 (aE ?_))))
      exact oO hF [(0, 3), (1, 15005)] [] rfl

def fleetref2_ThreeOf_x1_k : ((List (List UInt8 × api_Value)) × (List api_Clash)) → AEx
  | _ => .exit 0

def fleetref2_ThreeOf_x1_S (qx : List api_Prop) (qx1 : List api_Prop) (qx2 : List api_Prop) (vr1 : List (List UInt8)) : ((List (List UInt8 × api_Value)) × (List api_Clash)) → St
  | (vm3, vx6) => Mem.st ⟨[(1, ⟨46, 13, List.map api_Clash.enc vx6⟩)], [(0, [.mapc .str true (List.map (encM D.str api_Value.enc) vm3)])]⟩ (tl [(9, .c (.mapp 0)), (10, .c (.own 1 none))]) 2

def fleetref2_ThreeOf_x1_H (qx : List api_Prop) (qx1 : List api_Prop) (qx2 : List api_Prop) (vr1 : List (List UInt8)) : (List (List UInt8 × api_Value)) × (List api_Clash) × Int → St
  | (vm, vx, vx1) => Mem.st ⟨[(1, ⟨46, 13, List.map api_Clash.enc vx⟩)], [(0, [.mapc .str true (List.map (encM D.str api_Value.enc) vm)])]⟩ (tl [(0, .c (.l api_Prop.enc qx)), (1, .c (.l api_Prop.enc qx1)), (2, .c (.l api_Prop.enc qx2)), (9, .c (.mapp 0)), (10, .c (.own 1 none)), (23, .c (.l encS vr1)), (24, .i (vr1.length : Int)), (25, .i vx1)]) 2

theorem fleetref2_ThreeOf_x1_ok (qx : List api_Prop) (qx1 : List api_Prop) (qx2 : List api_Prop) (vr1 : List (List UInt8)) (s : (List (List UInt8 × api_Value)) × (List api_Clash) × Int) (r : ((List (List UInt8 × api_Value)) × (List api_Clash) × Int) ⊕ (((List (List UInt8 × api_Value)) × (List api_Clash)))) (hF : fleetref2_ThreeOf_x1 qx qx1 qx2 vr1 s = some r) : Awp prog 0 79 (cL (cL (cR (cL (cR (cR (cR (cB f12)))))))) (Out 0 (kk fleetref2_ThreeOf_x1_k) (SS (fleetref2_ThreeOf_x1_H qx qx1 qx2 vr1) (fleetref2_ThreeOf_x1_S qx qx1 qx2 vr1)) r) (fleetref2_ThreeOf_x1_H qx qx1 qx2 vr1 s) := by
  obtain ⟨vm, vx, vx1⟩ := s
  unfold fleetref2_ThreeOf_x1 at hF
  refine sR 1 (awp_seq (cE hF (fun h2 hF => ?_) fun h2 hF => ?_))
  · refine tT h2 (awp_skip (awp_seq (awp_to (st' := fleetref2_ThreeOf_x2_I qx qx1 qx2 vr1 vm vx vx1) (oT [] []) ?_)))
    refine bE hF fun x h12 hF => ?_
    obtain ⟨vm2_1, vx5_1⟩ := x
    refine awp_sub (fleetref2_ThreeOf_x2_ok qx qx1 qx2 vr1 vm vx vx1 h12) ?_
    exact gR 2 (oO hF [] [] rfl)
  · refine tF h2 (awp_exit ?_)
    exact oO hF [] [] rfl

def fleetref2_ThreeOf_R (qx : List api_Prop) (qx1 : List api_Prop) (qx2 : List api_Prop) (r : (List api_Prop) × (List api_Clash) × Int) : TV × Mem := (.tup [.one (.own 0 none), .one (.own 1 none), .one (.i r.2.2)], ⟨[(0, ⟨43, 5, List.map api_Prop.enc r.1⟩), (1, ⟨46, 13, List.map api_Clash.enc r.2.1⟩)], []⟩)

theorem fleetref2_ThreeOf_ok {qx : List api_Prop} {qx1 : List api_Prop} {qx2 : List api_Prop} {r} (hF : fleetref2_ThreeOf qx qx1 qx2 = some r) : Holds prog 12 [.c (.l api_Prop.enc qx), .c (.l api_Prop.enc qx1), .c (.l api_Prop.enc qx2)] ⟨[], []⟩ (Is (fleetref2_ThreeOf_R qx qx1 qx2 r)) := by
  unfold fleetref2_ThreeOf at hF
  refine hW f12 79 0 0 ?_
  refine sR 3 (awp_seq (awp_region (aX (x_map .str true (κ := List UInt8) (β := api_Value) D.str api_Value.enc) (aR 1 (aE ?_)))))
  refine sR 1 (awp_seq (awp_seq (bE hF fun vr1 h1 hF => awp_region (aR 4 (aC (fleetref2_namesOf_o0_ok h1) [(0, 9000)] [] [] (aL encS vr1 (aR 1 (aE ?_))))))))
  refine awp_to (oT (m := ⟨[], [(0, [.mapc .str true (List.map (encM D.str api_Value.enc) ([] : List (List UInt8 × api_Value)))])]⟩) (ts := [(0, .c (.l api_Prop.enc qx)), (1, .c (.l api_Prop.enc qx1)), (2, .c (.l api_Prop.enc qx2)), (9, .c (.mapp 0)), (10, .c (.nil)), (23, .c (.l encS vr1)), (24, .i (vr1.length : Int)), (25, .i 0)]) (nx := 1) [(0, 3000)] []) ?_
  refine awp_block (awp_to (st' := fleetref2_ThreeOf_x1_H qx qx1 qx2 vr1 (([] : List (List UInt8 × api_Value)), [], 0)) (oT [] [1]) ?_)
  refine bE hF fun x h13 hF => ?_
  obtain ⟨vm3_1, vx6_1⟩ := x
  refine awp_sub (awp_loop' (fleetref2_ThreeOf_x1_H qx qx1 qx2 vr1) fleetref2_ThreeOf_x1_k (fleetref2_ThreeOf_x1_S qx qx1 qx2 vr1) (by intro x; exact fun h => nomatch h) h13 (fleetref2_ThreeOf_x1_ok qx qx1 qx2 vr1)) ?_
  refine awp_seq (bE hF fun x h14 hF => ?_)
  obtain ⟨vr1_1, vr2_1⟩ := x
  refine awp_region (aR 1 (aC (fleetref2_fromValues_ok h14) [] [] [] (aR 5 (aE ?_))))
  refine awp_seq (sR 2 (cE hF (fun h15 hF => ?_) fun h15 hF => ?_))
  · exact tT h15 (sR 4 (awp_ret (oF hF [] [0, 1])))
  · exact tF h15 (awp_skip (sR 5 (awp_ret (oF hF [(0, 1003)] []))))

/-! ### slices.Equal[[]beaconfleet/api.Prop,beaconfleet/api.Prop] -/
def slices_Equal_api_Prop_api_Prop_x1_k : Unit ⊕ Unit → AEx
  | .inl _ => .exit 0
  | .inr _ => .ret

def slices_Equal_api_Prop_api_Prop_x1_S (qs1 : List api_Prop) (qs2 : List api_Prop) : Unit ⊕ Unit → St
  | .inl _ => Mem.st ⟨[], []⟩ (tl []) 0
  | .inr _ => Mem.st ⟨[], []⟩ (tl [(4, .b false)]) 0

def slices_Equal_api_Prop_api_Prop_x1_H (qs1 : List api_Prop) (qs2 : List api_Prop) : Int → St
  | vx => Mem.st ⟨[], []⟩ (tl [(0, .c (.l api_Prop.enc qs1)), (1, .c (.l api_Prop.enc qs2)), (12, .i (qs1.length : Int)), (13, .i vx)]) 0

theorem slices_Equal_api_Prop_api_Prop_x1_ok (qs1 : List api_Prop) (qs2 : List api_Prop) (vx : Int) (r : (Int) ⊕ (Unit ⊕ Unit)) (hF : slices_Equal_api_Prop_api_Prop_x1 qs1 qs2 vx = some r) : Awp prog 0 26 (cL (cL (cR (cL (cR (cR (cB f13))))))) (Out 0 (kk slices_Equal_api_Prop_api_Prop_x1_k) (SS (slices_Equal_api_Prop_api_Prop_x1_H qs1 qs2) (slices_Equal_api_Prop_api_Prop_x1_S qs1 qs2)) r) (slices_Equal_api_Prop_api_Prop_x1_H qs1 qs2 vx) := by
  unfold slices_Equal_api_Prop_api_Prop_x1 at hF
  refine sR 1 (awp_seq (cE hF (fun h2 hF => ?_) fun h2 hF => ?_))
  · refine tT h2 (awp_skip (awp_seq (awp_block (sR 2 (awp_seq (bE hF fun vy2 h3 hF => bE hF fun vy3 h4 hF => aD ?_))))))
    refine dR 2 ?_
    refine dX (x_idx api_Prop.enc h3) ?_
    refine dR 3 ?_
    refine dX (x_idx api_Prop.enc h4) ?_
    refine dR 1 ?_
    refine dS (U := []) (stable_eqS (op := .neq) (xs := [.str vy2.Name, .int .i64 vy2.Value.Kind, .bool vy2.Value.Flag, .int .i64 vy2.Value.Number, .str vy2.Value.Words]) (ys := [.str vy3.Name, .int .i64 vy3.Value.Kind, .bool vy3.Value.Flag, .int .i64 vy3.Value.Number, .str vy3.Value.Words]) (b := (decide (vy2.Name = vy3.Name) && ((decide (vy2.Value.Kind = vy3.Value.Kind) && ((vy2.Value.Flag == vy3.Value.Flag) && (decide (vy2.Value.Number = vy3.Value.Number) && (decide (vy2.Value.Words = vy3.Value.Words) && true)))) && true))) (c := (!(decide (vy2.Name = vy3.Name) && ((decide (vy2.Value.Kind = vy3.Value.Kind) && ((vy2.Value.Flag == vy3.Value.Flag) && (decide (vy2.Value.Number = vy3.Value.Number) && (decide (vy2.Value.Words = vy3.Value.Words) && true)))) && true)))) rfl (.inr ⟨rfl, rfl⟩) (by kernel_rfl) (by kernel_rfl) (by kernel_rfl) (by kernel_rfl) (by kernel_rfl) (by kernel_rfl)) ?_
    refine dE ?_
    refine cE hF (fun h5 hF => ?_) fun h5 hF => ?_
    · exact tT h5 (sR 1 (awp_ret (oO hF [] [] rfl)))
    · exact tF h5 (awp_skip (gR 2 (oO hF [] [] rfl)))
  · refine tF h2 (awp_exit ?_)
    exact oO hF [] [] rfl

def slices_Equal_api_Prop_api_Prop_R (qs1 : List api_Prop) (qs2 : List api_Prop) (r : Bool) : TV × Mem := (.b r, ⟨[], []⟩)

theorem slices_Equal_api_Prop_api_Prop_ok {qs1 : List api_Prop} {qs2 : List api_Prop} {r} (hF : slices_Equal_api_Prop_api_Prop qs1 qs2 = some r) : Holds prog 13 [.c (.l api_Prop.enc qs1), .c (.l api_Prop.enc qs2)] ⟨[], []⟩ (Is (slices_Equal_api_Prop_api_Prop_R qs1 qs2 r)) := by
  unfold slices_Equal_api_Prop_api_Prop at hF
  refine hW f13 26 0 0 ?_
  refine sR 1 (awp_seq (awp_seq (awp_region (aR 1 (aL api_Prop.enc qs1 (aR 1 (aL api_Prop.enc qs2 (aR 1 (aE ?_)))))))))
  refine cE hF (fun h1 hF => ?_) fun h1 hF => ?_
  · exact tT h1 (sR 1 (awp_ret (oF hF [] [])))
  · refine tF h1 (awp_skip (awp_seq (awp_seq (awp_region (aR 1 (aL api_Prop.enc qs1 (aR 1 (aE ?_))))))))
    refine awp_block (awp_to (st' := slices_Equal_api_Prop_api_Prop_x1_H qs1 qs2 0) (oT [] []) ?_)
    refine bE hF fun x h6 hF => ?_
    rcases x with _ | _
    · refine awp_sub (awp_loop' (slices_Equal_api_Prop_api_Prop_x1_H qs1 qs2) slices_Equal_api_Prop_api_Prop_x1_k (slices_Equal_api_Prop_api_Prop_x1_S qs1 qs2) (by intro x; rcases x with x | x <;> exact fun h => nomatch h) h6 (slices_Equal_api_Prop_api_Prop_x1_ok qs1 qs2)) ?_
      exact sR 1 (awp_ret (oF hF [] []))
    · refine awp_sub (awp_loop' (slices_Equal_api_Prop_api_Prop_x1_H qs1 qs2) slices_Equal_api_Prop_api_Prop_x1_k (slices_Equal_api_Prop_api_Prop_x1_S qs1 qs2) (by intro x; rcases x with x | x <;> exact fun h => nomatch h) h6 (slices_Equal_api_Prop_api_Prop_x1_ok qs1 qs2)) ?_
      exact oF hF [] []

/-! ### slices.Equal[[]beaconfleet/api.Clash,beaconfleet/api.Clash] -/
def slices_Equal_api_Clash_api_Clash_x1_k : Unit ⊕ Unit → AEx
  | .inl _ => .exit 0
  | .inr _ => .ret

def slices_Equal_api_Clash_api_Clash_x1_S (qs1 : List api_Clash) (qs2 : List api_Clash) : Unit ⊕ Unit → St
  | .inl _ => Mem.st ⟨[], []⟩ (tl []) 0
  | .inr _ => Mem.st ⟨[], []⟩ (tl [(4, .b false)]) 0

def slices_Equal_api_Clash_api_Clash_x1_H (qs1 : List api_Clash) (qs2 : List api_Clash) : Int → St
  | vx => Mem.st ⟨[], []⟩ (tl [(0, .c (.l api_Clash.enc qs1)), (1, .c (.l api_Clash.enc qs2)), (12, .i (qs1.length : Int)), (13, .i vx)]) 0

theorem slices_Equal_api_Clash_api_Clash_x1_ok (qs1 : List api_Clash) (qs2 : List api_Clash) (vx : Int) (r : (Int) ⊕ (Unit ⊕ Unit)) (hF : slices_Equal_api_Clash_api_Clash_x1 qs1 qs2 vx = some r) : Awp prog 0 26 (cL (cL (cR (cL (cR (cR (cB f14))))))) (Out 0 (kk slices_Equal_api_Clash_api_Clash_x1_k) (SS (slices_Equal_api_Clash_api_Clash_x1_H qs1 qs2) (slices_Equal_api_Clash_api_Clash_x1_S qs1 qs2)) r) (slices_Equal_api_Clash_api_Clash_x1_H qs1 qs2 vx) := by
  unfold slices_Equal_api_Clash_api_Clash_x1 at hF
  refine sR 1 (awp_seq (cE hF (fun h2 hF => ?_) fun h2 hF => ?_))
  · refine tT h2 (awp_skip (awp_seq (awp_block (sR 2 (awp_seq (bE hF fun vy2 h3 hF => bE hF fun vy3 h4 hF => aD ?_))))))
    refine dR 2 ?_
    refine dX (x_idx api_Clash.enc h3) ?_
    refine dR 3 ?_
    refine dX (x_idx api_Clash.enc h4) ?_
    refine dR 1 ?_
    refine dS (U := []) (stable_eqS (op := .neq) (xs := [.str vy2.Name, .int .i64 vy2.Base.Kind, .bool vy2.Base.Flag, .int .i64 vy2.Base.Number, .str vy2.Base.Words, .int .i64 vy2.A.Kind, .bool vy2.A.Flag, .int .i64 vy2.A.Number, .str vy2.A.Words, .int .i64 vy2.B.Kind, .bool vy2.B.Flag, .int .i64 vy2.B.Number, .str vy2.B.Words]) (ys := [.str vy3.Name, .int .i64 vy3.Base.Kind, .bool vy3.Base.Flag, .int .i64 vy3.Base.Number, .str vy3.Base.Words, .int .i64 vy3.A.Kind, .bool vy3.A.Flag, .int .i64 vy3.A.Number, .str vy3.A.Words, .int .i64 vy3.B.Kind, .bool vy3.B.Flag, .int .i64 vy3.B.Number, .str vy3.B.Words]) (b := (decide (vy2.Name = vy3.Name) && ((decide (vy2.Base.Kind = vy3.Base.Kind) && ((vy2.Base.Flag == vy3.Base.Flag) && (decide (vy2.Base.Number = vy3.Base.Number) && (decide (vy2.Base.Words = vy3.Base.Words) && true)))) && ((decide (vy2.A.Kind = vy3.A.Kind) && ((vy2.A.Flag == vy3.A.Flag) && (decide (vy2.A.Number = vy3.A.Number) && (decide (vy2.A.Words = vy3.A.Words) && true)))) && ((decide (vy2.B.Kind = vy3.B.Kind) && ((vy2.B.Flag == vy3.B.Flag) && (decide (vy2.B.Number = vy3.B.Number) && (decide (vy2.B.Words = vy3.B.Words) && true)))) && true))))) (c := (!(decide (vy2.Name = vy3.Name) && ((decide (vy2.Base.Kind = vy3.Base.Kind) && ((vy2.Base.Flag == vy3.Base.Flag) && (decide (vy2.Base.Number = vy3.Base.Number) && (decide (vy2.Base.Words = vy3.Base.Words) && true)))) && ((decide (vy2.A.Kind = vy3.A.Kind) && ((vy2.A.Flag == vy3.A.Flag) && (decide (vy2.A.Number = vy3.A.Number) && (decide (vy2.A.Words = vy3.A.Words) && true)))) && ((decide (vy2.B.Kind = vy3.B.Kind) && ((vy2.B.Flag == vy3.B.Flag) && (decide (vy2.B.Number = vy3.B.Number) && (decide (vy2.B.Words = vy3.B.Words) && true)))) && true)))))) rfl (.inr ⟨rfl, rfl⟩) (by kernel_rfl) (by kernel_rfl) (by kernel_rfl) (by kernel_rfl) (by kernel_rfl) (by kernel_rfl)) ?_
    refine dE ?_
    refine cE hF (fun h5 hF => ?_) fun h5 hF => ?_
    · exact tT h5 (sR 1 (awp_ret (oO hF [] [] rfl)))
    · exact tF h5 (awp_skip (gR 2 (oO hF [] [] rfl)))
  · refine tF h2 (awp_exit ?_)
    exact oO hF [] [] rfl

def slices_Equal_api_Clash_api_Clash_R (qs1 : List api_Clash) (qs2 : List api_Clash) (r : Bool) : TV × Mem := (.b r, ⟨[], []⟩)

theorem slices_Equal_api_Clash_api_Clash_ok {qs1 : List api_Clash} {qs2 : List api_Clash} {r} (hF : slices_Equal_api_Clash_api_Clash qs1 qs2 = some r) : Holds prog 14 [.c (.l api_Clash.enc qs1), .c (.l api_Clash.enc qs2)] ⟨[], []⟩ (Is (slices_Equal_api_Clash_api_Clash_R qs1 qs2 r)) := by
  unfold slices_Equal_api_Clash_api_Clash at hF
  refine hW f14 26 0 0 ?_
  refine sR 1 (awp_seq (awp_seq (awp_region (aR 1 (aL api_Clash.enc qs1 (aR 1 (aL api_Clash.enc qs2 (aR 1 (aE ?_)))))))))
  refine cE hF (fun h1 hF => ?_) fun h1 hF => ?_
  · exact tT h1 (sR 1 (awp_ret (oF hF [] [])))
  · refine tF h1 (awp_skip (awp_seq (awp_seq (awp_region (aR 1 (aL api_Clash.enc qs1 (aR 1 (aE ?_))))))))
    refine awp_block (awp_to (st' := slices_Equal_api_Clash_api_Clash_x1_H qs1 qs2 0) (oT [] []) ?_)
    refine bE hF fun x h6 hF => ?_
    rcases x with _ | _
    · refine awp_sub (awp_loop' (slices_Equal_api_Clash_api_Clash_x1_H qs1 qs2) slices_Equal_api_Clash_api_Clash_x1_k (slices_Equal_api_Clash_api_Clash_x1_S qs1 qs2) (by intro x; rcases x with x | x <;> exact fun h => nomatch h) h6 (slices_Equal_api_Clash_api_Clash_x1_ok qs1 qs2)) ?_
      exact sR 1 (awp_ret (oF hF [] []))
    · refine awp_sub (awp_loop' (slices_Equal_api_Clash_api_Clash_x1_H qs1 qs2) slices_Equal_api_Clash_api_Clash_x1_k (slices_Equal_api_Clash_api_Clash_x1_S qs1 qs2) (by intro x; rcases x with x | x <;> exact fun h => nomatch h) h6 (slices_Equal_api_Clash_api_Clash_x1_ok qs1 qs2)) ?_
      exact oF hF [] []

/-! ### beaconfleet/twin.CheckProps -/
def twin_CheckProps_n0_x1_k : Unit → AEx
  | _ => .exit 0

def twin_CheckProps_n0_x1_S : Unit → St
  | _ => Mem.st ⟨[], [(0, [.nil])]⟩ (tl [(1, .c (.box 0 0))]) 1

def twin_CheckProps_n0_x1_H : Unit → St
  | _ => Mem.st ⟨[], [(0, [.nil])]⟩ (tl [(1, .c (.box 0 0)), (11, .c (.nil)), (12, .i 0), (13, .i 0)]) 1

theorem twin_CheckProps_n0_x1_ok (s : Unit) (r : (Unit) ⊕ (Unit)) (hF : twin_CheckProps_n0_x1  s = some r) : Awp prog 0 57 (cL (cL (cR (cL (cR (cR (cB f37))))))) (Out 0 (kk twin_CheckProps_n0_x1_k) (SS (twin_CheckProps_n0_x1_H ) (twin_CheckProps_n0_x1_S )) r) (twin_CheckProps_n0_x1_H  s) := by
  unfold twin_CheckProps_n0_x1 at hF
  refine sR 1 (awp_seq (cE hF (fun h2 hF => ?_) fun h2 hF => ?_))
  · exact tT h2 (awp_skip (awp_seq (awp_block (awp_seq (nE hF)))))
  · refine tF h2 (awp_exit ?_)
    exact oO hF [] [] rfl

def twin_CheckProps_n0_x2_k : Unit → AEx
  | _ => .exit 2

def twin_CheckProps_n0_x2_S : Unit → St
  | _ => Mem.st ⟨[], []⟩ (tl []) 0

def twin_CheckProps_n0_x2_H : Unit → St
  | _ => Mem.st ⟨[], [(0, [.nil])]⟩ (tl [(1, .c (.box 0 0)), (46, .c (.nil)), (47, .i 0), (48, .i 0)]) 1

theorem twin_CheckProps_n0_x2_ok (s : Unit) (r : (Unit) ⊕ (Unit)) (hF : twin_CheckProps_n0_x2  s = some r) : Awp prog 0 57 (cL (cL (cR (cL (cR (cR (cR (cB f37)))))))) (Out 0 (kk twin_CheckProps_n0_x2_k) (SS (twin_CheckProps_n0_x2_H ) (twin_CheckProps_n0_x2_S )) r) (twin_CheckProps_n0_x2_H  s) := by
  unfold twin_CheckProps_n0_x2 at hF
  refine sR 1 (awp_seq (cE hF (fun h5 hF => ?_) fun h5 hF => ?_))
  · exact tT h5 (awp_skip (awp_seq (awp_block (awp_seq (nE hF)))))
  · refine tF h5 (awp_exit ?_)
    exact oO hF [] [] rfl

def twin_CheckProps_n0_R (r : Int) : TV × Mem := (.i r, ⟨[], []⟩)

theorem twin_CheckProps_n0_ok {r} (hF : twin_CheckProps_n0 = some r) : Holds prog 37 [.c (.nil)] ⟨[], []⟩ (Is (twin_CheckProps_n0_R  r)) := by
  unfold twin_CheckProps_n0 at hF
  refine hW f37 57 0 0 ?_
  refine sR 2 (awp_seq (sR 3 (cE hF (fun h1 hF => ?_) fun h1 hF => ?_)))
  · exact tT h1 (sR 1 (awp_ret (oF hF [] [])))
  · refine tF h1 (awp_skip (awp_seq (sR 3 (awp_block (awp_to (st' := twin_CheckProps_n0_x1_H  ()) (oT [] []) ?_)))))
    refine bE hF fun _ h4 hF => awp_sub (awp_loop' (twin_CheckProps_n0_x1_H ) twin_CheckProps_n0_x1_k (twin_CheckProps_n0_x1_S ) (by intro x; exact fun h => nomatch h) h4 (twin_CheckProps_n0_x1_ok )) ?_
    refine awp_seq (sR 3 (awp_block (awp_to (st' := twin_CheckProps_n0_x2_H  ()) (oT [] []) ?_)))
    refine bE hF fun _ h7 hF => awp_sub (awp_loop' (twin_CheckProps_n0_x2_H ) twin_CheckProps_n0_x2_k (twin_CheckProps_n0_x2_S ) (by intro x; exact fun h => nomatch h) h7 (twin_CheckProps_n0_x2_ok )) ?_
    exact sR 1 (awp_ret (oF hF [] []))

/-! ### slices.BinarySearchFunc[[]beaconfleet/api.Prop,beaconfleet/api.Prop,string] -/
def slices_BinarySearchFunc_api_Prop_api_Prop_string_n0_f2_twin_find_1_x1_k : Unit → AEx
  | _ => .exit 0

def slices_BinarySearchFunc_api_Prop_api_Prop_string_n0_f2_twin_find_1_x1_S (qtarget : List UInt8) : Unit → St
  | _ => Mem.st ⟨[], []⟩ (tl [(0, .c (.nil)), (1, .c (.s qtarget)), (2, .c (.fn 132 [])), (8, .i 0), (9, .i 0)]) 0

def slices_BinarySearchFunc_api_Prop_api_Prop_string_n0_f2_twin_find_1_x1_H (qtarget : List UInt8) : Unit → St
  | _ => Mem.st ⟨[], []⟩ (tl [(0, .c (.nil)), (1, .c (.s qtarget)), (2, .c (.fn 132 [])), (8, .i 0), (9, .i 0), (10, .i 0)]) 0

theorem slices_BinarySearchFunc_api_Prop_api_Prop_string_n0_f2_twin_find_1_x1_ok (qtarget : List UInt8) (s : Unit) (r : (Unit) ⊕ (Unit)) (hF : slices_BinarySearchFunc_api_Prop_api_Prop_string_n0_f2_twin_find_1_x1  s = some r) : Awp prog 0 49 (cL (cL (cL (cR (cR (cR (cB f131))))))) (Out 0 (kk slices_BinarySearchFunc_api_Prop_api_Prop_string_n0_f2_twin_find_1_x1_k) (SS (slices_BinarySearchFunc_api_Prop_api_Prop_string_n0_f2_twin_find_1_x1_H qtarget) (slices_BinarySearchFunc_api_Prop_api_Prop_string_n0_f2_twin_find_1_x1_S qtarget)) r) (slices_BinarySearchFunc_api_Prop_api_Prop_string_n0_f2_twin_find_1_x1_H qtarget s) := by
  unfold slices_BinarySearchFunc_api_Prop_api_Prop_string_n0_f2_twin_find_1_x1 at hF
  refine awp_seq (sR 3 (cE hF (fun h1 hF => ?_) fun h1 hF => ?_))
  · exact tT h1 (awp_skip (awp_block (sR 7 (awp_seq (nE hF)))))
  · refine tF h1 (awp_exit ?_)
    exact oO hF [] [] rfl

def slices_BinarySearchFunc_api_Prop_api_Prop_string_n0_f2_twin_find_1_R (qtarget : List UInt8) (r : Unit) : TV × Mem := (.tup [.one (.i 0), .one (.t false)], ⟨[], []⟩)

theorem slices_BinarySearchFunc_api_Prop_api_Prop_string_n0_f2_twin_find_1_ok {qtarget : List UInt8} {r} (hF : slices_BinarySearchFunc_api_Prop_api_Prop_string_n0_f2_twin_find_1 qtarget = some r) : Holds prog 131 [.c (.nil), .c (.s qtarget), .c (.fn 132 [])] ⟨[], []⟩ (Is (slices_BinarySearchFunc_api_Prop_api_Prop_string_n0_f2_twin_find_1_R qtarget r)) := by
  unfold slices_BinarySearchFunc_api_Prop_api_Prop_string_n0_f2_twin_find_1 at hF
  refine hW f131 49 0 0 ?_
  refine sR 2 (sR 3 (sR 3 (awp_seq (awp_block (awp_to (st' := slices_BinarySearchFunc_api_Prop_api_Prop_string_n0_f2_twin_find_1_x1_H qtarget ()) (oT [] []) ?_)))))
  refine bE hF fun _ h3 hF => awp_sub (awp_loop' (slices_BinarySearchFunc_api_Prop_api_Prop_string_n0_f2_twin_find_1_x1_H qtarget) slices_BinarySearchFunc_api_Prop_api_Prop_string_n0_f2_twin_find_1_x1_k (slices_BinarySearchFunc_api_Prop_api_Prop_string_n0_f2_twin_find_1_x1_S qtarget) (by intro x; exact fun h => nomatch h) h3 (slices_BinarySearchFunc_api_Prop_api_Prop_string_n0_f2_twin_find_1_x1_ok qtarget)) ?_
  refine awp_seq (cE hF (fun h4 hF => ?_) fun h4 hF => ?_)
  · exact nE hF
  · refine awp_region (aR 3 (aB h4 (aR 12 (aE ?_))))
    exact awp_ret (oF hF [] [])

/-! ### beaconfleet/twin.find -/
def twin_find_n0_R (qname : List UInt8) (r : Unit) : TV × Mem := (.i (-1), ⟨[], []⟩)

theorem twin_find_n0_ok {qname : List UInt8} {r} (hF : twin_find_n0 qname = some r) : Holds prog 83 [.c (.nil), .c (.s qname)] ⟨[], []⟩ (Is (twin_find_n0_R qname r)) := by
  unfold twin_find_n0 at hF
  refine hW f83 16 0 0 ?_
  refine sR 1 (awp_seq (bE hF fun _ h1 hF => awp_region (aR 2 (aC (slices_BinarySearchFunc_api_Prop_api_Prop_string_n0_f2_twin_find_1_ok h1) [] [] [] (aR 5 (aE ?_))))))
  exact awp_seq (sR 2 (tT rfl (sR 1 (awp_ret (oF hF [] [])))))

/-! ### beaconfleet/twin.valueOf -/
def twin_valueOf_n0_R (qname : List UInt8) (r : Unit) : TV × Mem := (.v (.agg [.i 0, .t false, .i 0, .s ([] : List UInt8)]), ⟨[], []⟩)

theorem twin_valueOf_n0_ok {qname : List UInt8} {r} (hF : twin_valueOf_n0 qname = some r) : Holds prog 39 [.c (.nil), .c (.s qname)] ⟨[], []⟩ (Is (twin_valueOf_n0_R qname r)) := by
  unfold twin_valueOf_n0 at hF
  refine hW f39 17 0 0 ?_
  refine sR 1 (awp_seq (awp_seq (bE hF fun _ h1 hF => awp_region (aR 2 (aC (twin_find_n0_ok h1) [] [] [] (aR 1 (aE ?_)))))))
  refine sR 2 (cE hF (fun h2 hF => ?_) fun h2 hF => ?_)
  · exact tT h2 (awp_seq (nE hF))
  · exact tF h2 (awp_skip (sR 2 (awp_ret (oF hF [] []))))

/-! ### beaconfleet/twin.Differ -/
def twin_Differ_n0_o1_x2_S (qb : List api_Prop) (vr1_1 : List (List UInt8)) (vout : List api_Change) (vx : Int) : (List api_Change) → St
  | vout2 => Mem.st ⟨[(1, ⟨70, 9, List.map api_Change.enc vout2⟩)], []⟩ (tl [(0, .c (.nil)), (1, .c (.l api_Prop.enc qb)), (7, .c (.own 1 none)), (24, .c (.l encS vr1_1)), (25, .i (vr1_1.length : Int)), (26, .i vx)]) 2

def twin_Differ_n0_o1_x2_I (qb : List api_Prop) (vr1_1 : List (List UInt8)) (vout : List api_Change) (vx : Int) : St := Mem.st ⟨[(1, ⟨70, 9, List.map api_Change.enc vout⟩)], []⟩ (tl [(0, .c (.nil)), (1, .c (.l api_Prop.enc qb)), (7, .c (.own 1 none)), (24, .c (.l encS vr1_1)), (25, .i (vr1_1.length : Int)), (26, .i vx)]) 2

theorem twin_Differ_n0_o1_x2_ok (qb : List api_Prop) (vr1_1 : List (List UInt8)) (vout : List api_Change) (vx : Int) {r} (hF : twin_Differ_n0_o1_x2 qb vr1_1 vout vx = some r) : Awp prog 1 48 (cL (cR (cR (cL (cL (cR (cL (cR (cR (cR (cB f42))))))))))) (Out 1 nrm (twin_Differ_n0_o1_x2_S qb vr1_1 vout vx) r) (twin_Differ_n0_o1_x2_I qb vr1_1 vout vx) := by
  unfold twin_Differ_n0_o1_x2 at hF
  refine awp_block (awp_seq (bE hF fun vy1 h7 hF => awp_region (aX (x_idx encS h7) (aR 2 (aE ?_)))))
  refine awp_seq (bE hF fun _ h8 hF => bE hF fun vr4 h9 hF => awp_region (aR 2 (aC (twin_valueOf_n0_ok h8) [] [] [] (aR 2 (aC (twin_valueOf_ok h9) [] [] [] (aR 4 (aE ?_)))))))
  refine awp_seq (awp_region (aR 2 (aS (does_eqS (op := .neq) (xs := [.int .i64 0, .bool false, .int .i64 0, .str ([] : List UInt8)]) (ys := [.int .i64 vr4.Kind, .bool vr4.Flag, .int .i64 vr4.Number, .str vr4.Words]) (b := (decide ((0 : Int) = vr4.Kind) && ((false == vr4.Flag) && (decide ((0 : Int) = vr4.Number) && (decide (([] : List UInt8) = vr4.Words) && true))))) (c := (!(decide ((0 : Int) = vr4.Kind) && ((false == vr4.Flag) && (decide ((0 : Int) = vr4.Number) && (decide (([] : List UInt8) = vr4.Words) && true)))))) rfl (.inr ⟨rfl, rfl⟩) (by kernel_rfl) (by kernel_rfl) (by kernel_rfl) (by kernel_rfl) (by kernel_rfl) (by kernel_rfl)) ?_)))
  refine aE ?_
  refine cE hF (fun h10 hF => ?_) fun h10 hF => ?_
  · refine tT h10 (gE hF fun h11 hF => ?_)
    refine awp_region (aR 6 (aX (x_app api_Change.enc 1 h11) (aR 1 (aE ?_))))
    exact oO hF [(1, 22002)] [] rfl
  · exact tF h10 (awp_skip (oO hF [] [] rfl))

def twin_Differ_n0_o1_x1_k : (List api_Change) → AEx
  | _ => .exit 0

def twin_Differ_n0_o1_x1_S (qb : List api_Prop) (vr1_1 : List (List UInt8)) : (List api_Change) → St
  | vout3 => Mem.st ⟨[(1, ⟨70, 9, List.map api_Change.enc vout3⟩)], []⟩ (tl [(7, .c (.own 1 none))]) 2

def twin_Differ_n0_o1_x1_H (qb : List api_Prop) (vr1_1 : List (List UInt8)) : (List api_Change) × Int → St
  | (vout, vx) => Mem.st ⟨[(1, ⟨70, 9, List.map api_Change.enc vout⟩)], []⟩ (tl [(0, .c (.nil)), (1, .c (.l api_Prop.enc qb)), (7, .c (.own 1 none)), (24, .c (.l encS vr1_1)), (25, .i (vr1_1.length : Int)), (26, .i vx)]) 2

theorem twin_Differ_n0_o1_x1_ok (qb : List api_Prop) (vr1_1 : List (List UInt8)) (s : (List api_Change) × Int) (r : ((List api_Change) × Int) ⊕ ((List api_Change))) (hF : twin_Differ_n0_o1_x1 qb vr1_1 s = some r) : Awp prog 1 48 (cL (cL (cR (cL (cR (cR (cR (cB f42)))))))) (Out 1 (kk twin_Differ_n0_o1_x1_k) (SS (twin_Differ_n0_o1_x1_H qb vr1_1) (twin_Differ_n0_o1_x1_S qb vr1_1)) r) (twin_Differ_n0_o1_x1_H qb vr1_1 s) := by
  obtain ⟨vout, vx⟩ := s
  unfold twin_Differ_n0_o1_x1 at hF
  refine sR 1 (awp_seq (cE hF (fun h6 hF => ?_) fun h6 hF => ?_))
  · refine tT h6 (awp_skip (awp_seq (awp_to (st' := twin_Differ_n0_o1_x2_I qb vr1_1 vout vx) (oT [] []) ?_)))
    refine bE hF fun vout2_1 h12 hF => awp_sub (twin_Differ_n0_o1_x2_ok qb vr1_1 vout vx h12) ?_
    exact gR 2 (oO hF [] [] rfl)
  · refine tF h6 (awp_exit ?_)
    exact oO hF [] [] rfl

def twin_Differ_n0_o1_R (qb : List api_Prop) (r : (List api_Change) × Int) : TV × Mem := (.tup [.one (.own 1 none), .one (.i r.2)], ⟨[(1, ⟨70, 9, List.map api_Change.enc r.1⟩)], []⟩)

theorem twin_Differ_n0_o1_ok {qb : List api_Prop} {r} (hF : twin_Differ_n0_o1 qb = some r) : Holds prog 42 [.c (.nil), .c (.own 0 none)] ⟨[(0, ⟨43, 5, List.map api_Prop.enc qb⟩)], []⟩ (Is (twin_Differ_n0_o1_R qb r)) := by
  unfold twin_Differ_n0_o1 at hF
  refine hW f42 48 1 1 ?_
  refine sR 2 (awp_to (oT (m := ⟨[], []⟩) (ts := [(0, .c (.nil)), (1, .c (.l api_Prop.enc qb))]) (nx := 1) [] []) ?_)
  refine awp_seq (awp_seq (bE hF fun vr h1 hF => bE hF fun vr3 h2 hF => bE hF fun vr1 h3 hF => awp_region (aR 1 (aC (twin_CheckProps_n0_ok h1) [] [] [] (aR 1 (aC (twin_CheckProps_ok h2) [] [] [] (aR 1 (aC (base_First_ok h3) [] [] [4001] (aR 1 (aE ?_))))))))))
  refine sR 2 (cE hF (fun h4 hF => ?_) fun h4 hF => ?_)
  · exact tT h4 (sR 3 (awp_ret (oF hF [] [1])))
  · refine tF h4 (awp_skip (sR 1 (awp_seq (awp_seq (bE hF fun vr1_1 h5 hF => awp_region (aR 3 (aC (twin_names_o0_ok h5) [(0, 12001)] [] [] (aL encS vr1_1 (aR 1 (aE ?_))))))))))
    refine awp_to (oT (m := ⟨[], []⟩) (ts := [(0, .c (.nil)), (1, .c (.l api_Prop.enc qb)), (7, .c (.nil)), (24, .c (.l encS vr1_1)), (25, .i (vr1_1.length : Int)), (26, .i 0)]) (nx := 1) [] []) ?_
    refine awp_block (awp_to (st' := twin_Differ_n0_o1_x1_H qb vr1_1 ([], 0)) (oT [] [1]) ?_)
    refine bE hF fun vout3_1 h13 hF => awp_sub (awp_loop' (twin_Differ_n0_o1_x1_H qb vr1_1) twin_Differ_n0_o1_x1_k (twin_Differ_n0_o1_x1_S qb vr1_1) (by intro x; exact fun h => nomatch h) h13 (twin_Differ_n0_o1_x1_ok qb vr1_1)) ?_
    exact sR 3 (awp_ret (oF hF [] []))

/-! ### beaconfleet/fleetlaw2.twinned -/
def fleetlaw2_twinned_x1_S (vr5 : List api_Change) (vr6 : Int) : Bool → St
  | vx => Mem.st ⟨[], []⟩ (tl [(0, .b vx)]) 0

def fleetlaw2_twinned_x1_I (vr5 : List api_Change) (vr6 : Int) : St := Mem.st ⟨[], []⟩ (tl [(1, .c (.l api_Change.enc vr5)), (2, .i vr6)]) 0

theorem fleetlaw2_twinned_x1_ok (vr5 : List api_Change) (vr6 : Int) {r} (hF : fleetlaw2_twinned_x1 vr5 vr6 = some r) : Awp prog 0 24 (cL (cR (cR (cB f15)))) (Out 0 nrm (fleetlaw2_twinned_x1_S vr5 vr6) r) (fleetlaw2_twinned_x1_I vr5 vr6) := by
  unfold fleetlaw2_twinned_x1 at hF
  refine cE hF (fun h2 hF => ?_) fun h2 hF => ?_
  · refine cE hF (fun h3 hF => ?_) fun h3 hF => ?_
    · refine bE hF fun vy h4 hF => awp_region (aR 1 (aB h2 (aR 2 (aL api_Change.enc vr5 (aB h3 (aR 3 (aX (x_idx api_Change.enc h4) (aR 5 (aE ?_)))))))))
      exact oO hF [] [] rfl
    · refine awp_region (aR 1 (aB h2 (aR 2 (aL api_Change.enc vr5 (aB h3 (aR 9 (aE ?_)))))))
      exact oO hF [] [] rfl
  · refine awp_region (aR 1 (aB h2 (aR 13 (aE ?_))))
    exact oO hF [] [] rfl

def fleetlaw2_twinned_R (r : Bool) : TV × Mem := (.b r, ⟨[], []⟩)

theorem fleetlaw2_twinned_ok {r} (hF : fleetlaw2_twinned = some r) : Holds prog 15 [] ⟨[], []⟩ (Is (fleetlaw2_twinned_R  r)) := by
  unfold fleetlaw2_twinned at hF
  refine hW f15 24 0 0 ?_
  refine sR 1 (awp_seq (bE hF fun x h1 hF => ?_))
  obtain ⟨vr5, vr6⟩ := x
  refine awp_region (aR 3 (aC (twin_Differ_n0_o1_ok h1) [(0, 3000)] [] [] (aR 5 (aE ?_))))
  refine awp_to (oT (m := ⟨[], []⟩) (ts := [(1, .c (.l api_Change.enc vr5)), (2, .i vr6)]) (nx := 0) [] []) ?_
  refine awp_seq (awp_to (st' := fleetlaw2_twinned_x1_I vr5 vr6) (oT [] []) ?_)
  refine bE hF fun vx1 h5 hF => awp_sub (fleetlaw2_twinned_x1_ok vr5 vr6 h5) ?_
  exact awp_ret (oF hF [] [])

/-! ### beaconfleet/fleetlaw2.SidesJoined -/
def fleetlaw2_SidesJoined_x2_S (vr2 : List api_Prop) (vr2_1 : List api_Prop) (vs4 : fleetmake_Stream) (vr : List api_Prop) (vr3 : Int) : Bool → St
  | vx => Mem.st ⟨[], [(0, [.l (encI .i64) vs4.L, .i vs4.at_])]⟩ (tl [(3, .c (.box 0 0)), (4, .c (.l api_Prop.enc vr2)), (5, .c (.l api_Prop.enc vr2)), (6, .c (.l api_Prop.enc vr2_1)), (7, .c (.l api_Prop.enc vr)), (37, .b vx)]) 1

def fleetlaw2_SidesJoined_x2_I (vr2 : List api_Prop) (vr2_1 : List api_Prop) (vs4 : fleetmake_Stream) (vr : List api_Prop) (vr3 : Int) : St := Mem.st ⟨[], [(0, [.l (encI .i64) vs4.L, .i vs4.at_])]⟩ (tl [(3, .c (.box 0 0)), (4, .c (.l api_Prop.enc vr2)), (5, .c (.l api_Prop.enc vr2)), (6, .c (.l api_Prop.enc vr2_1)), (7, .c (.l api_Prop.enc vr)), (8, .i vr3)]) 1

theorem fleetlaw2_SidesJoined_x2_ok (vr2 : List api_Prop) (vr2_1 : List api_Prop) (vs4 : fleetmake_Stream) (vr : List api_Prop) (vr3 : Int) {r} (hF : fleetlaw2_SidesJoined_x2 vr2 vr3 = some r) : Awp prog 0 84 (cL (cR (cL (cR (cR (cR (cR (cB f3)))))))) (Out 0 nrm (fleetlaw2_SidesJoined_x2_S vr2 vr2_1 vs4 vr vr3) r) (fleetlaw2_SidesJoined_x2_I vr2 vr2_1 vs4 vr vr3) := by
  unfold fleetlaw2_SidesJoined_x2 at hF
  refine cE hF (fun h5 hF => ?_) fun h5 hF => ?_
  · refine bE hF fun vr4 h6 hF => awp_region (aR 1 (aB h5 (aR 2 (aC (fleetref2_PropsFault_ok h6) [] [] [] (aR 2 (aE ?_))))))
    exact oO hF [] [] rfl
  · refine awp_region (aR 1 (aB h5 (aR 5 (aE ?_))))
    exact oO hF [] [] rfl

def fleetlaw2_SidesJoined_x1_S (vr2 : List api_Prop) (vs2_1 : fleetmake_Stream) (vr2_1 : List api_Prop) : (fleetmake_Stream × (List api_Prop)) → St
  | (vx2, vx3) => Mem.st ⟨[], [(0, [.l (encI .i64) vx2.L, .i vx2.at_])]⟩ (tl [(3, .c (.box 0 0)), (4, .c (.l api_Prop.enc vr2)), (5, .c (.l api_Prop.enc vx3)), (6, .c (.l api_Prop.enc vr2_1))]) 1

def fleetlaw2_SidesJoined_x1_I (vr2 : List api_Prop) (vs2_1 : fleetmake_Stream) (vr2_1 : List api_Prop) : St := Mem.st ⟨[], [(0, [.l (encI .i64) vs2_1.L, .i vs2_1.at_])]⟩ (tl [(3, .c (.box 0 0)), (4, .c (.l api_Prop.enc vr2)), (5, .c (.l api_Prop.enc vr2)), (6, .c (.l api_Prop.enc vr2_1))]) 1

theorem fleetlaw2_SidesJoined_x1_ok (vr2 : List api_Prop) (vs2_1 : fleetmake_Stream) (vr2_1 : List api_Prop) {r} (hF : fleetlaw2_SidesJoined_x1 vr2 vs2_1 = some r) : Awp prog 0 84 (cL (cR (cR (cR (cR (cB f3)))))) (Out 0 nrm (fleetlaw2_SidesJoined_x1_S vr2 vs2_1 vr2_1) r) (fleetlaw2_SidesJoined_x1_I vr2 vs2_1 vr2_1) := by
  unfold fleetlaw2_SidesJoined_x1 at hF
  refine awp_seq (bE hF fun x h3 hF => ?_)
  obtain ⟨vs4, vr1⟩ := x
  refine bE hF fun x h4 hF => ?_
  obtain ⟨vr, vr3⟩ := x
  refine awp_region (aR 3 (aC (fleetmake_Stream_Changes_ok h3) [] [] [] (aC (fleetref2_ApplyOf_o1_ok h4) [(0, 3002)] [] [] (aR 5 (aE ?_)))))
  refine awp_to (oT (m := ⟨[], [(0, [.l (encI .i64) vs4.L, .i vs4.at_])]⟩) (ts := [(3, .c (.box 0 0)), (4, .c (.l api_Prop.enc vr2)), (5, .c (.l api_Prop.enc vr2)), (6, .c (.l api_Prop.enc vr2_1)), (7, .c (.l api_Prop.enc vr)), (8, .i vr3)]) (nx := 1) [] []) ?_
  refine awp_seq (awp_to (st' := fleetlaw2_SidesJoined_x2_I vr2 vr2_1 vs4 vr vr3) (oT [] []) ?_)
  refine bE hF fun vx1 h7 hF => awp_sub (fleetlaw2_SidesJoined_x2_ok vr2 vr2_1 vs4 vr vr3 h7) ?_
  refine cE hF (fun h8 hF => ?_) fun h8 hF => ?_
  · exact tT h8 (gR 2 (oO hF [] [] rfl))
  · exact tF h8 (awp_skip (oO hF [] [] rfl))

def fleetlaw2_SidesJoined_x3_S (vr2 : List api_Prop) (vr2_1 : List api_Prop) (vx2_1 : fleetmake_Stream) (vx3_1 : List api_Prop) : (List api_Prop) → St
  | vx4 => Mem.st ⟨[], []⟩ (tl [(4, .c (.l api_Prop.enc vr2)), (5, .c (.l api_Prop.enc vx3_1)), (6, .c (.l api_Prop.enc vx4))]) 0

def fleetlaw2_SidesJoined_x3_I (vr2 : List api_Prop) (vr2_1 : List api_Prop) (vx2_1 : fleetmake_Stream) (vx3_1 : List api_Prop) : St := Mem.st ⟨[], [(0, [.l (encI .i64) vx2_1.L, .i vx2_1.at_])]⟩ (tl [(3, .c (.box 0 0)), (4, .c (.l api_Prop.enc vr2)), (5, .c (.l api_Prop.enc vx3_1)), (6, .c (.l api_Prop.enc vr2_1))]) 1

theorem fleetlaw2_SidesJoined_x3_ok (vr2 : List api_Prop) (vr2_1 : List api_Prop) (vx2_1 : fleetmake_Stream) (vx3_1 : List api_Prop) {r} (hF : fleetlaw2_SidesJoined_x3 vr2 vr2_1 vx2_1 = some r) : Awp prog 0 84 (cL (cR (cR (cR (cR (cR (cB f3))))))) (Out 0 nrm (fleetlaw2_SidesJoined_x3_S vr2 vr2_1 vx2_1 vx3_1) r) (fleetlaw2_SidesJoined_x3_I vr2 vr2_1 vx2_1 vx3_1) := by
  unfold fleetlaw2_SidesJoined_x3 at hF
  refine awp_seq (bE hF fun vr5 h10 hF => awp_region (aR 1 (aC (fleetmake_Stream_Flip_ok h10) [] [] [] (aE ?_))))
  refine cE hF (fun h11 hF => ?_) fun h11 hF => ?_
  · exact tT h11 (gR 2 (oO hF [] [] rfl))
  · exact tF h11 (awp_skip (oO hF [] [] rfl))

def fleetlaw2_SidesJoined_x4_S (vr2 : List api_Prop) (vx3_1 : List api_Prop) (vx4_1 : List api_Prop) (vr9 : List api_Prop) (vr10 : List api_Clash) (vr11 : Int) (vr12 : Int) : (Int × (List api_Prop) × (List api_Clash)) → St
  | (vx5, vx6, vx7) => Mem.st ⟨[], []⟩ (tl [(9, .c (.l api_Prop.enc vr9)), (10, .c (.l api_Clash.enc vr10)), (11, .i vr11), (12, .i vx5), (13, .c (.l api_Prop.enc vx6)), (14, .c (.l api_Clash.enc vx7))]) 0

def fleetlaw2_SidesJoined_x4_I (vr2 : List api_Prop) (vx3_1 : List api_Prop) (vx4_1 : List api_Prop) (vr9 : List api_Prop) (vr10 : List api_Clash) (vr11 : Int) (vr12 : Int) : St := Mem.st ⟨[], []⟩ (tl [(4, .c (.l api_Prop.enc vr2)), (5, .c (.l api_Prop.enc vx3_1)), (6, .c (.l api_Prop.enc vx4_1)), (9, .c (.l api_Prop.enc vr9)), (10, .c (.l api_Clash.enc vr10)), (11, .i vr11), (12, .i vr12), (13, .c (.nil)), (14, .c (.nil))]) 0

theorem fleetlaw2_SidesJoined_x4_ok (vr2 : List api_Prop) (vx3_1 : List api_Prop) (vx4_1 : List api_Prop) (vr9 : List api_Prop) (vr10 : List api_Clash) (vr11 : Int) (vr12 : Int) {r} (hF : fleetlaw2_SidesJoined_x4 vr2 vx3_1 vx4_1 vr12 = some r) : Awp prog 0 84 (cL (cR (cR (cR (cR (cR (cR (cR (cR (cR (cR (cB f3)))))))))))) (Out 0 nrm (fleetlaw2_SidesJoined_x4_S vr2 vx3_1 vx4_1 vr9 vr10 vr11 vr12) r) (fleetlaw2_SidesJoined_x4_I vr2 vx3_1 vx4_1 vr9 vr10 vr11 vr12) := by
  unfold fleetlaw2_SidesJoined_x4 at hF
  refine sR 2 (cE hF (fun h18 hF => ?_) fun h18 hF => ?_)
  · refine tT h18 (bE hF fun x h19 hF => ?_)
    obtain ⟨vr7_1, vr8_1, vr9_1⟩ := x
    refine awp_region (aR 3 (aC (fleetref2_ThreeOf_ok h19) [] [] [] (aR 7 (aE ?_))))
    exact oO hF [] [] rfl
  · exact tF h18 (awp_skip (oO hF [] [] rfl))

def fleetlaw2_SidesJoined_x5_S (vr9 : List api_Prop) (vr10 : List api_Clash) (vr11 : Int) (vx5_1 : Int) (vx6_1 : List api_Prop) (vx7_1 : List api_Clash) : Bool → St
  | vx8 => Mem.st ⟨[], []⟩ (tl [(2, .b vx8)]) 0

def fleetlaw2_SidesJoined_x5_I (vr9 : List api_Prop) (vr10 : List api_Clash) (vr11 : Int) (vx5_1 : Int) (vx6_1 : List api_Prop) (vx7_1 : List api_Clash) : St := Mem.st ⟨[], []⟩ (tl [(9, .c (.l api_Prop.enc vr9)), (10, .c (.l api_Clash.enc vr10)), (11, .i vr11), (12, .i vx5_1), (13, .c (.l api_Prop.enc vx6_1)), (14, .c (.l api_Clash.enc vx7_1))]) 0

theorem fleetlaw2_SidesJoined_x5_ok (vr9 : List api_Prop) (vr10 : List api_Clash) (vr11 : Int) (vx5_1 : Int) (vx6_1 : List api_Prop) (vx7_1 : List api_Clash) {r} (hF : fleetlaw2_SidesJoined_x5 vr9 vr10 vr11 vx5_1 vx6_1 vx7_1 = some r) : Awp prog 0 84 (cL (cR (cR (cR (cR (cR (cR (cR (cR (cR (cR (cR (cB f3))))))))))))) (Out 0 nrm (fleetlaw2_SidesJoined_x5_S vr9 vr10 vr11 vx5_1 vx6_1 vx7_1) r) (fleetlaw2_SidesJoined_x5_I vr9 vr10 vr11 vx5_1 vx6_1 vx7_1) := by
  unfold fleetlaw2_SidesJoined_x5 at hF
  refine cE hF (fun h21 hF => ?_) fun h21 hF => ?_
  · refine bE hF fun vr13 h22 hF => cE hF (fun h23 hF => ?_) fun h23 hF => ?_
    · refine bE hF fun vr14 h24 hF => cE hF (fun h25 hF => ?_) fun h25 hF => ?_
      · refine bE hF fun vr15 h26 hF => awp_region (aR 2 (aB h21 (aR 3 (aCb (slices_Equal_api_Prop_api_Prop_ok h22) [] [] [] h23 ?_))))
        refine aR 4 (aCb (slices_Equal_api_Clash_api_Clash_ok h24) [] [] [] h25 ?_)
        refine aR 2 (aC (fleetlaw2_twinned_ok h26) [] [] [] (aR 2 (aE ?_)))
        exact oO hF [] [] rfl
      · refine awp_region (aR 2 (aB h21 (aR 3 (aCb (slices_Equal_api_Prop_api_Prop_ok h22) [] [] [] h23 ?_))))
        refine aR 4 (aCb (slices_Equal_api_Clash_api_Clash_ok h24) [] [] [] h25 ?_)
        refine aR 5 (aE ?_)
        exact oO hF [] [] rfl
    · refine awp_region (aR 2 (aB h21 (aR 3 (aCb (slices_Equal_api_Prop_api_Prop_ok h22) [] [] [] h23 ?_))))
      refine aR 10 (aE ?_)
      exact oO hF [] [] rfl
  · refine awp_region (aR 2 (aB h21 (aR 14 (aE ?_))))
    exact oO hF [] [] rfl

def fleetlaw2_SidesJoined_R (qx : List Int) (r : Bool) : TV × Mem := (.b r, ⟨[], []⟩)

theorem fleetlaw2_SidesJoined_ok {qx : List Int} {r} (hF : fleetlaw2_SidesJoined qx = some r) : Holds prog 3 [.c (.l (encI .i64) qx)] ⟨[], []⟩ (Is (fleetlaw2_SidesJoined_R qx r)) := by
  unfold fleetlaw2_SidesJoined at hF
  refine hW f3 84 0 0 ?_
  refine sR 1 (sR 4 (awp_seq (bE hF fun x h1 hF => ?_)))
  obtain ⟨vs2, vr2⟩ := x
  refine awp_region (aR 1 (aC (fleetmake_Stream_Props_ok h1) [(0, 3000)] [] [] (aR 1 (aE ?_))))
  refine awp_to (oT (m := ⟨[], [(0, [.l (encI .i64) vs2.L, .i vs2.at_])]⟩) (ts := [(3, .c (.box 0 0)), (4, .c (.l api_Prop.enc vr2))]) (nx := 1) [(0, 3000)] []) ?_
  refine awp_seq (bE hF fun x h2 hF => ?_)
  obtain ⟨vs2_1, vr2_1⟩ := x
  refine awp_region (aR 2 (aC (fleetmake_Stream_Props_ok h2) [] [] [] (aR 2 (aE ?_))))
  refine awp_to (oT (m := ⟨[], [(0, [.l (encI .i64) vs2_1.L, .i vs2_1.at_])]⟩) (ts := [(3, .c (.box 0 0)), (4, .c (.l api_Prop.enc vr2)), (5, .c (.l api_Prop.enc vr2)), (6, .c (.l api_Prop.enc vr2_1))]) (nx := 1) [] []) ?_
  refine awp_seq (awp_to (st' := fleetlaw2_SidesJoined_x1_I vr2 vs2_1 vr2_1) (oT [] []) ?_)
  refine bE hF fun x h9 hF => ?_
  obtain ⟨vx2_1, vx3_1⟩ := x
  refine awp_sub (fleetlaw2_SidesJoined_x1_ok vr2 vs2_1 vr2_1 h9) ?_
  refine awp_seq (awp_to (st' := fleetlaw2_SidesJoined_x3_I vr2 vr2_1 vx2_1 vx3_1) (oT [] []) ?_)
  refine bE hF fun vx4_1 h12 hF => awp_sub (fleetlaw2_SidesJoined_x3_ok vr2 vr2_1 vx2_1 vx3_1 h12) ?_
  refine awp_seq (bE hF fun x h13 hF => ?_)
  obtain ⟨vr9, vr10, vr11⟩ := x
  refine awp_region (aR 3 (aC (twin_Three_ok h13) [] [] [] (aR 7 (aE ?_))))
  refine awp_to (oT (m := ⟨[], []⟩) (ts := [(4, .c (.l api_Prop.enc vr2)), (5, .c (.l api_Prop.enc vx3_1)), (6, .c (.l api_Prop.enc vx4_1)), (9, .c (.l api_Prop.enc vr9)), (10, .c (.l api_Clash.enc vr10)), (11, .i vr11)]) (nx := 0) [] []) ?_
  refine awp_seq (bE hF fun vr6 h14 hF => bE hF fun vr7 h15 hF => bE hF fun vr8 h16 hF => bE hF fun vr12 h17 hF => awp_region (aR 1 (aC (fleetref2_PropsFault_ok h14) [] [] [] (aR 1 (aC (fleetref2_PropsFault_ok h15) [] [] [] (aR 1 (aC (fleetref2_PropsFault_ok h16) [] [] [] (aR 1 (aC (fleetlaw2_errs_ok h17) [] [] [6000] ?_)))))))))
  refine aR 1 (aE ?_)
  refine sR 1 (sR 1 (awp_seq (awp_to (st' := fleetlaw2_SidesJoined_x4_I vr2 vx3_1 vx4_1 vr9 vr10 vr11 vr12) (oT [] []) ?_)))
  refine bE hF fun x h20 hF => ?_
  obtain ⟨vx5_1, vx6_1, vx7_1⟩ := x
  refine awp_sub (fleetlaw2_SidesJoined_x4_ok vr2 vx3_1 vx4_1 vr9 vr10 vr11 vr12 h20) ?_
  refine awp_seq (awp_to (st' := fleetlaw2_SidesJoined_x5_I vr9 vr10 vr11 vx5_1 vx6_1 vx7_1) (oT [] []) ?_)
  refine bE hF fun vx8_1 h27 hF => awp_sub (fleetlaw2_SidesJoined_x5_ok vr9 vr10 vr11 vx5_1 vx6_1 vx7_1 h27) ?_
  exact awp_ret (oF hF [] [])

end Go.Eng
