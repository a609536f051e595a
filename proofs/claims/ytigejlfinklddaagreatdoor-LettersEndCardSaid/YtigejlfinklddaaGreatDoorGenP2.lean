/-
The code of the Go functions that the law LettersEnd reaches does what the plain functions say, part 2.
-/
import Derived.Test.YtigejlfinklddaaGreatDoorGenP1

namespace Go.Eng

open Go Go.Proofs.Tryz

set_option linter.unusedVariables false

set_option maxRecDepth 20000

set_option maxHeartbeats 0

/-! ### slices.insertionSortOrdered[string] -/
def z741 : Bool → AEx
  | _ => .normal

def z740 (qa : Int) (qb : Int) (vi : Int) (vl3 : List (List UInt8)) (vj1 : Int) : Bool → St
  | vx4 => Mem.st ⟨[(0, ⟨9, 1, List.map encS vl3⟩)], []⟩ (tl [(0, .v (.one (.own 0 none))), (1, .v (.one (.d (.int .i64 qa)))), (2, .v (.one (.d (.int .i64 qb)))), (6, .v (.one (.d (.int .i64 vi)))), (7, .v (.one (.d (.int .i64 vj1)))), (30, .v (.one (.d (.bool vx4))))]) 1

def z739 (qa : Int) (qb : Int) (vi : Int) (vl3 : List (List UInt8)) (vj1 : Int) : St := Mem.st ⟨[(0, ⟨9, 1, List.map encS vl3⟩)], []⟩ (tl [(0, .v (.one (.own 0 none))), (1, .v (.one (.d (.int .i64 qa)))), (2, .v (.one (.d (.int .i64 qb)))), (6, .v (.one (.d (.int .i64 vi)))), (7, .v (.one (.d (.int .i64 vj1))))]) 1

theorem z742 (qa : Int) (qb : Int) (vi : Int) (vl3 : List (List UInt8)) (vj1 : Int) {r} (hF : z738 qa vl3 vj1 = some r) : Awp prog 1 49 (cL (cL (cL (cL (cR (cL (cL (cR (cL (cL (cR (cB f281)))))))))))) (Out 1 z741 (z740 qa qb vi vl3 vj1) r) (z739 qa qb vi vl3 vj1) := by
  unfold z738 at hF
  refine cE hF (fun h2 hF => ?_) fun h2 hF => ?_
  · refine bE hF fun vy15 h3 hF => ?_
    refine bE hF fun vy16 h4 hF => ?_
    refine bE hF fun vr3 h5 hF => ?_
    refine aD ?_
    refine dR 2 ?_
    refine dB h2 ?_
    refine dR 3 ?_
    refine dX (x_idxO encS 0 h3) ?_
    refine dX (x_ldE encS h3) ?_
    refine dR 3 ?_
    refine dX (x_idxO encS 0 h4) ?_
    refine dX (x_ldE encS h4) ?_
    refine dC (z137 h5) [] [] [] ?_
    refine dR 1 ?_
    refine dE ?_
    exact oO hF [] [] rfl
  · refine aD ?_
    refine dR 2 ?_
    refine dB h2 ?_
    refine dR 12 ?_
    refine dE ?_
    exact oO hF [] [] rfl

def z736 : (List (List UInt8)) → AEx
  | _ => .exit 2

def z735 (qa : Int) (qb : Int) (vi : Int) : (List (List UInt8)) → St
  | vl4 => Mem.st ⟨[(0, ⟨9, 1, List.map encS vl4⟩)], []⟩ (tl [(0, .v (.one (.own 0 none))), (1, .v (.one (.d (.int .i64 qa)))), (2, .v (.one (.d (.int .i64 qb)))), (6, .v (.one (.d (.int .i64 vi))))]) 1

def z734 (qa : Int) (qb : Int) (vi : Int) : (List (List UInt8)) × Int → St
  | (vl3, vj1) => Mem.st ⟨[(0, ⟨9, 1, List.map encS vl3⟩)], []⟩ (tl [(0, .v (.one (.own 0 none))), (1, .v (.one (.d (.int .i64 qa)))), (2, .v (.one (.d (.int .i64 qb)))), (6, .v (.one (.d (.int .i64 vi)))), (7, .v (.one (.d (.int .i64 vj1))))]) 1

theorem z737 (qa : Int) (qb : Int) (vi : Int) (s : (List (List UInt8)) × Int) (r : ((List (List UInt8)) × Int) ⊕ ((List (List UInt8)))) (hF : z733 qa s = some r) : Awp prog 1 49 (cL (cL (cR (cL (cL (cR (cL (cL (cR (cB f281)))))))))) (Out 1 (kk z736) (SS (z734 qa qb vi) (z735 qa qb vi)) r) (z734 qa qb vi s) := by
  obtain ⟨vl3, vj1⟩ := s
  unfold z733 at hF
  refine awp_seq ?_
  refine awp_seq ?_
  refine awp_to (st' := z739 qa qb vi vl3 vj1) (oT [] []) ?_
  refine bE hF fun vx4_1 h6 hF => ?_
  refine awp_sub (z742 qa qb vi vl3 vj1 h6) ?_
  refine cE hF (fun h7 hF => ?_) fun h7 hF => ?_
  · refine awp_true (by kernel_rfl) h7 ?_
    refine awp_skip ?_
    refine awp_seq ?_
    refine awp_block ?_
    refine bE hF fun vy17 h8 hF => ?_
    refine bE hF fun vy18 h9 hF => ?_
    refine bE hF fun vy19 h10 hF => ?_
    refine aDw [0] ?_
    refine dR 8 ?_
    refine dI encS 0 h8 rfl ?_
    refine dX (x_ldE encS h8) ?_
    refine dR 2 ?_
    refine dI encS 0 h9 rfl ?_
    refine dX (x_ldE encS h9) ?_
    refine dI encS 0 h9 rfl ?_
    refine dW encS vy17 h9 rfl ?_
    refine dI encS 0 h10 rfl ?_
    refine dW encS vy18 h10 rfl ?_
    refine dE ?_
    refine awp_region ?_
    refine aR 3 ?_
    refine aE ?_
    exact oO hF [] [] rfl
  · refine awp_false (by kernel_rfl) h7 ?_
    refine awp_exit ?_
    exact oO hF [] [] rfl

def z731 : (List (List UInt8)) → AEx
  | _ => .exit 0

def z730 (qa : Int) (qb : Int) : (List (List UInt8)) → St
  | vl5 => Mem.st ⟨[(0, ⟨9, 1, List.map encS vl5⟩)], []⟩ (tl []) 1

def z729 (qa : Int) (qb : Int) : (List (List UInt8)) × Int → St
  | (vl, vi) => Mem.st ⟨[(0, ⟨9, 1, List.map encS vl⟩)], []⟩ (tl [(0, .v (.one (.own 0 none))), (1, .v (.one (.d (.int .i64 qa)))), (2, .v (.one (.d (.int .i64 qb)))), (6, .v (.one (.d (.int .i64 vi))))]) 1

theorem z732 (qa : Int) (qb : Int) (s : (List (List UInt8)) × Int) (r : ((List (List UInt8)) × Int) ⊕ ((List (List UInt8)))) (hF : z728 qa qb s = some r) : Awp prog 1 49 (cL (cL (cR (cB f281)))) (Out 1 (kk z731) (SS (z729 qa qb) (z730 qa qb)) r) (z729 qa qb s) := by
  obtain ⟨vl, vi⟩ := s
  unfold z728 at hF
  refine awp_seq ?_
  refine awp_seq ?_
  refine awp_region ?_
  refine aR 3 ?_
  refine aE ?_
  refine cE hF (fun h1 hF => ?_) fun h1 hF => ?_
  · refine awp_true (by kernel_rfl) h1 ?_
    refine awp_skip ?_
    refine awp_seq ?_
    refine awp_block ?_
    refine awp_seq ?_
    refine awp_region ?_
    refine aR 2 ?_
    refine aE ?_
    refine awp_block ?_
    refine awp_to (st' := z734 qa qb vi (vl, vi)) (oT [] []) ?_
    refine bE hF fun vl4_1 h11 hF => ?_
    refine awp_sub (awp_loop' (z734 qa qb vi) z736 (z735 qa qb vi) (by intro x; exact fun h => nomatch h) h11 (z737 qa qb vi)) ?_
    refine awp_region ?_
    refine aR 3 ?_
    refine aE ?_
    exact oO hF [] [] rfl
  · refine awp_false (by kernel_rfl) h1 ?_
    refine awp_exit ?_
    exact oO hF [] [] rfl

def z726 (qdata : List (List UInt8)) (qa : Int) (qb : Int) (r : (List (List UInt8))) : TV × Mem := (.tup [], ⟨[(0, ⟨9, 1, List.map encS r⟩)], []⟩)

theorem z727 {qdata : List (List UInt8)} {qa : Int} {qb : Int} {r} (hF : z725 qdata qa qb = some r) : Holds prog 281 [.v (.one (.own 0 none)), .v (.one (.d (.int .i64 qa))), .v (.one (.d (.int .i64 qb)))] ⟨[(0, ⟨9, 1, List.map encS qdata⟩)], []⟩ (Is (z726 qdata qa qb r)) := by
  unfold z725 at hF
  refine holds_of_awp hΓ (fn := f281) (c := cB f281) (A := 1) (nx := 1) (by kernel_rfl) (by kernel_rfl) (by kernel_rfl) (by kernel_rfl) (by kernel_rfl) (by kernel_rfl) (lowc_of (by kernel_rfl)) ?_
  show Awp prog 1 49 (cB f281) _ _
  refine awp_seq ?_
  refine awp_region ?_
  refine aR 3 ?_
  refine aE ?_
  refine awp_block ?_
  refine awp_to (st' := z729 qa qb (qdata, IntKind.wrap .i64 (qa + 1))) (oT [] []) ?_
  refine bE hF fun vl5_1 h12 hF => ?_
  refine awp_sub (awp_loop' (z729 qa qb) z731 (z730 qa qb) (by intro x; exact fun h => nomatch h) h12 (z732 qa qb)) ?_
  exact oF hF [] []

/-! ### slices.pdqsortOrdered[string] -/
def z773 : (List (List UInt8)) → AEx
  | _ => .ret

def z772 (qx : List (List UInt8)) (qx1 : Int) (qx2 : Int) (qx3 : Int) : (List (List UInt8)) → St
  | vl => Mem.st ⟨[(0, ⟨9, 1, List.map encS vl⟩)], []⟩ (tl []) 1

def z771 (qx : List (List UInt8)) (qx1 : Int) (qx2 : Int) (qx3 : Int) : Unit → St
  | _ => Mem.st ⟨[(0, ⟨9, 1, List.map encS qx⟩)], []⟩ (tl [(0, .v (.one (.own 0 none))), (1, .v (.one (.d (.int .i64 qx1)))), (2, .v (.one (.d (.int .i64 qx2)))), (3, .v (.one (.d (.int .i64 qx3)))), (8, .v (.one (.d (.bool true)))), (9, .v (.one (.d (.bool true))))]) 1

theorem z774 (qx : List (List UInt8)) (qx1 : Int) (qx2 : Int) (qx3 : Int) (s : Unit) (r : (Unit) ⊕ ((List (List UInt8)))) (hF : z770 qx qx1 qx2 qx3 s = some r) : Awp prog 1 134 (cL (cL (cR (cR (cB f250))))) (Out 1 (kk z773) (SS (z771 qx qx1 qx2 qx3) (z772 qx qx1 qx2 qx3)) r) (z771 qx qx1 qx2 qx3 s) := by
  unfold z770 at hF
  refine awp_block ?_
  refine awp_seq ?_
  refine awp_region ?_
  refine aR 4 ?_
  refine aE ?_
  refine awp_seq ?_
  refine awp_seq ?_
  refine awp_region ?_
  refine aR 2 ?_
  refine aE ?_
  refine cE hF (fun h1 hF => ?_) fun h1 hF => ?_
  · refine awp_true (by kernel_rfl) h1 ?_
    refine awp_seq ?_
    refine bE hF fun vl6_1 h2 hF => ?_
    refine gE hF fun h3 hF => ?_
    refine awp_region ?_
    refine aR 3 ?_
    refine aCp (z727 h2) ⟨⟨rfl, rfl, pin1 h3⟩, trivial⟩ [] [] [] ?_
    refine aE ?_
    refine awp_ret ?_
    exact oO hF [] [] rfl
  · refine awp_false (by kernel_rfl) h1 ?_
    refine awp_skip ?_
    refine awp_seq ?_
    refine awp_seq ?_
    refine awp_region ?_
    refine aR 2 ?_
    refine aE ?_
    refine cE hF (fun h4 hF => ?_) fun h4 hF => ?_
    · refine awp_true (by kernel_rfl) h4 ?_
      refine awp_seq ?_
      exact nE hF
    · refine awp_false (by kernel_rfl) h4 ?_
      refine awp_skip ?_
      refine awp_seq ?_
      refine awp_seq ?_
      refine awp_region ?_
      refine aR 2 ?_
      refine aE ?_
      refine awp_false (by kernel_rfl) rfl ?_
      refine awp_skip ?_
      refine awp_seq ?_
      exact nE hF

def z768 (qx : List (List UInt8)) (qx1 : Int) (qx2 : Int) (qx3 : Int) (r : (List (List UInt8))) : TV × Mem := (.tup [], ⟨[(0, ⟨9, 1, List.map encS r⟩)], []⟩)

theorem z769 {qx : List (List UInt8)} {qx1 : Int} {qx2 : Int} {qx3 : Int} {r} (hF : z767 qx qx1 qx2 qx3 = some r) : Holds prog 250 [.v (.one (.own 0 none)), .v (.one (.d (.int .i64 qx1))), .v (.one (.d (.int .i64 qx2))), .v (.one (.d (.int .i64 qx3)))] ⟨[(0, ⟨9, 1, List.map encS qx⟩)], []⟩ (Is (z768 qx qx1 qx2 qx3 r)) := by
  unfold z767 at hF
  refine holds_of_awp hΓ (fn := f250) (c := cB f250) (A := 1) (nx := 1) (by kernel_rfl) (by kernel_rfl) (by kernel_rfl) (by kernel_rfl) (by kernel_rfl) (by kernel_rfl) (lowc_of (by kernel_rfl)) ?_
  show Awp prog 1 134 (cB f250) _ _
  refine awp_seq ?_
  refine awp_region ?_
  refine aR 1 ?_
  refine aE ?_
  refine awp_seq ?_
  refine awp_region ?_
  refine aR 1 ?_
  refine aE ?_
  refine awp_block ?_
  refine awp_to (st' := z771 qx qx1 qx2 qx3 ()) (oT [] []) ?_
  refine bE hF fun vl1 h7 hF => ?_
  refine awp_sub (awp_loop' (z771 qx qx1 qx2 qx3) z773 (z772 qx qx1 qx2 qx3) (by intro x; exact fun h => nomatch h) h7 (z774 qx qx1 qx2 qx3)) ?_
  exact oF hF [] []

/-! ### slices.Sort[[]string,string] -/
def z669 (qx : List (List UInt8)) (r : (List (List UInt8))) : TV × Mem := (.tup [], ⟨[(0, ⟨9, 1, List.map encS r⟩)], []⟩)

theorem z670 {qx : List (List UInt8)} {r} (hF : z668 qx = some r) : Holds prog 184 [.v (.one (.own 0 none))] ⟨[(0, ⟨9, 1, List.map encS qx⟩)], []⟩ (Is (z669 qx r)) := by
  unfold z668 at hF
  refine holds_of_awp hΓ (fn := f184) (c := cB f184) (A := 1) (nx := 1) (by kernel_rfl) (by kernel_rfl) (by kernel_rfl) (by kernel_rfl) (by kernel_rfl) (by kernel_rfl) (lowc_of (by kernel_rfl)) ?_
  show Awp prog 1 11 (cB f184) _ _
  refine awp_seq ?_
  refine awp_region ?_
  refine aR 1 ?_
  refine aL encS qx ?_
  refine aR 1 ?_
  refine aE ?_
  refine bE hF fun vr1 h1 hF => ?_
  refine bE hF fun vl2 h2 hF => ?_
  refine gE hF fun h3 hF => ?_
  refine awp_region ?_
  refine aR 4 ?_
  refine aC (z120 h1) [] [] [] ?_
  refine aCp (z769 h2) ⟨⟨rfl, rfl, pin1 h3⟩, trivial⟩ [] [] [] ?_
  refine aE ?_
  exact oF hF [] []

/-! ### slices.Compact[[]string,string] -/
def z605 : ((List (List UInt8)) × Int) → AEx
  | _ => .normal

def z604 (qs : List (List UInt8)) (vk : Int) (vl4 : List (List UInt8)) (vk6 : Int) (vk2_1 : Int) : ((List (List UInt8)) × Int) → St
  | (vl6, vk8) => Mem.st ⟨[(0, ⟨9, 1, List.map encS vl6⟩)], []⟩ (tl [(0, .v (.one (.own 0 none))), (3, .v (.one (.d (.int .i64 vk8)))), (4, .v (.one (.view 0 vk.toNat ((qs.length : Int).toNat - vk.toNat)))), (5, .v (.one (.d (.int .i64 vk2_1))))]) 1

def z603 (qs : List (List UInt8)) (vk : Int) (vl4 : List (List UInt8)) (vk6 : Int) (vk2_1 : Int) : St := Mem.st ⟨[(0, ⟨9, 1, List.map encS vl4⟩)], []⟩ (tl [(0, .v (.one (.own 0 none))), (3, .v (.one (.d (.int .i64 vk6)))), (4, .v (.one (.view 0 vk.toNat ((qs.length : Int).toNat - vk.toNat)))), (5, .v (.one (.d (.int .i64 vk2_1))))]) 1

theorem z606 (qs : List (List UInt8)) (vk : Int) (vl4 : List (List UInt8)) (vk6 : Int) (vk2_1 : Int) {r} (hF : z602 qs vk vl4 vk6 vk2_1 = some r) : Awp prog 1 61 (cL (cR (cL (cL (cR (cL (cR (cL (cR (cL (cL (cR (cL (cL (cR (cL (cR (cR (cB f185))))))))))))))))))) (Out 1 z605 (z604 qs vk vl4 vk6 vk2_1) r) (z603 qs vk vl4 vk6 vk2_1) := by
  unfold z602 at hF
  refine awp_block ?_
  refine awp_seq ?_
  refine gE hF fun h8 hF => ?_
  refine bE hF fun vy13 h9 hF => ?_
  refine gE hF fun h10 hF => ?_
  refine bE hF fun vy14 h11 hF => ?_
  refine aD ?_
  refine dR 2 ?_
  refine dX (x_idxV encS 0 h8 h9) ?_
  refine dX (x_ldE encS h9) ?_
  refine dR 3 ?_
  refine dX (x_idxV encS 0 h10 h11) ?_
  refine dX (x_ldE encS h11) ?_
  refine dR 1 ?_
  refine dE ?_
  refine cE hF (fun h12 hF => ?_) fun h12 hF => ?_
  · refine awp_true (by kernel_rfl) h12 ?_
    refine awp_seq ?_
    refine bE hF fun vy15 h13 hF => ?_
    refine awp_region ?_
    refine aR 4 ?_
    refine aX (x_idxV encS 0 h8 h9) ?_
    refine aX (x_ldE encS h9) ?_
    refine aX (x_idxO encS 0 h13) ?_
    refine aX (x_stE encS vy13 h13) ?_
    refine aE ?_
    refine awp_region ?_
    refine aR 3 ?_
    refine aE ?_
    exact oO hF [] [] rfl
  · refine awp_false (by kernel_rfl) h12 ?_
    refine awp_skip ?_
    exact oO hF [] [] rfl

def z600 : ((List (List UInt8)) × Int) → AEx
  | _ => .exit 2

def z599 (qs : List (List UInt8)) (vk : Int) : ((List (List UInt8)) × Int) → St
  | (vl7, vk9) => Mem.st ⟨[(0, ⟨9, 1, List.map encS vl7⟩)], []⟩ (tl [(0, .v (.one (.own 0 none))), (3, .v (.one (.d (.int .i64 vk9))))]) 1

def z598 (qs : List (List UInt8)) (vk : Int) : (List (List UInt8)) × Int × Int → St
  | (vl4, vk6, vk2_1) => Mem.st ⟨[(0, ⟨9, 1, List.map encS vl4⟩)], []⟩ (tl [(0, .v (.one (.own 0 none))), (3, .v (.one (.d (.int .i64 vk6)))), (4, .v (.one (.view 0 vk.toNat ((qs.length : Int).toNat - vk.toNat)))), (5, .v (.one (.d (.int .i64 vk2_1))))]) 1

theorem z601 (qs : List (List UInt8)) (vk : Int) (s : (List (List UInt8)) × Int × Int) (r : ((List (List UInt8)) × Int × Int) ⊕ (((List (List UInt8)) × Int))) (hF : z597 qs vk s = some r) : Awp prog 1 61 (cL (cL (cR (cL (cR (cL (cR (cL (cL (cR (cL (cL (cR (cL (cR (cR (cB f185))))))))))))))))) (Out 1 (kk z600) (SS (z598 qs vk) (z599 qs vk)) r) (z598 qs vk s) := by
  obtain ⟨vl4, vk6, vk2_1⟩ := s
  unfold z597 at hF
  refine awp_seq ?_
  refine awp_seq ?_
  refine awp_region ?_
  refine aR 4 ?_
  refine aE ?_
  refine cE hF (fun h7 hF => ?_) fun h7 hF => ?_
  · refine awp_true (by kernel_rfl) h7 ?_
    refine awp_skip ?_
    refine awp_seq ?_
    refine awp_to (st' := z603 qs vk vl4 vk6 vk2_1) (oT [] []) ?_
    refine bE hF fun x h14 hF => ?_
    obtain ⟨vl6_1, vk8_1⟩ := x
    refine awp_sub (z606 qs vk vl4 vk6 vk2_1 h14) ?_
    refine awp_region ?_
    refine aR 3 ?_
    refine aE ?_
    exact oO hF [] [] rfl
  · refine awp_false (by kernel_rfl) h7 ?_
    refine awp_exit ?_
    exact oO hF [] [] rfl

def z595 : Unit ⊕ (List (List UInt8)) → AEx
  | .inl _ => .exit 0
  | .inr _ => .ret

def z594 (qs : List (List UInt8)) : Unit ⊕ (List (List UInt8)) → St
  | .inl _ => Mem.st ⟨[(0, ⟨9, 1, List.map encS qs⟩)], []⟩ (tl [(0, .v (.one (.own 0 none)))]) 1
  | .inr vx => Mem.st ⟨[(1, ⟨9, 1, List.map encS vx⟩)], []⟩ (tl [(2, .v (.one (.own 1 none)))]) 2

def z593 (qs : List (List UInt8)) : Int → St
  | vk => Mem.st ⟨[(0, ⟨9, 1, List.map encS qs⟩)], []⟩ (tl [(0, .v (.one (.own 0 none))), (3, .v (.one (.d (.int .i64 vk))))]) 1

theorem z596 (qs : List (List UInt8)) (vk : Int) (r : (Int) ⊕ (Unit ⊕ (List (List UInt8)))) (hF : z592 qs vk = some r) : Awp prog 1 61 (cL (cL (cR (cL (cR (cR (cB f185))))))) (Out 1 (kk z595) (SS (z593 qs) (z594 qs)) r) (z593 qs vk) := by
  unfold z592 at hF
  refine awp_seq ?_
  refine awp_seq ?_
  refine awp_region ?_
  refine aR 2 ?_
  refine aL encS qs ?_
  refine aR 1 ?_
  refine aE ?_
  refine cE hF (fun h2 hF => ?_) fun h2 hF => ?_
  · refine awp_true (by kernel_rfl) h2 ?_
    refine awp_skip ?_
    refine awp_seq ?_
    refine awp_block ?_
    refine awp_seq ?_
    refine bE hF fun vy8 h3 hF => ?_
    refine bE hF fun vy9 h4 hF => ?_
    refine aD ?_
    refine dR 2 ?_
    refine dX (x_idxO encS 0 h3) ?_
    refine dX (x_ldE encS h3) ?_
    refine dR 3 ?_
    refine dX (x_idxO encS 0 h4) ?_
    refine dX (x_ldE encS h4) ?_
    refine dR 1 ?_
    refine dE ?_
    refine cE hF (fun h5 hF => ?_) fun h5 hF => ?_
    · refine awp_true (by kernel_rfl) h5 ?_
      refine awp_seq ?_
      refine gE hF fun h6 hF => ?_
      refine awp_region ?_
      refine aR 2 ?_
      refine aX (x_viewN encS 0 h6) ?_
      refine aR 1 ?_
      refine aE ?_
      refine awp_seq ?_
      refine awp_seq ?_
      refine awp_region ?_
      refine aR 1 ?_
      refine aE ?_
      refine awp_block ?_
      refine awp_to (st' := z598 qs vk (qs, vk, 1)) (oT [] []) ?_
      refine bE hF fun x h15 hF => ?_
      obtain ⟨vl7_1, vk9_1⟩ := x
      refine awp_sub (awp_loop' (z598 qs vk) z600 (z599 qs vk) (by intro x; exact fun h => nomatch h) h15 (z601 qs vk)) ?_
      refine awp_seq ?_
      refine gE hF fun h16 hF => ?_
      refine awp_region ?_
      refine aR 2 ?_
      refine aX (x_viewN encS 0 h16) ?_
      refine aCl encS 0 (xs := vl7_1) (y := ([] : List UInt8)) (lo := vk9_1) (hi := (vl7_1.length : Int)) rfl ?_
      refine aE ?_
      refine awp_seq ?_
      refine gE hF fun h17 hF => ?_
      refine awp_region ?_
      refine aR 2 ?_
      refine aT encS 0 h17 rfl ?_
      refine aR 1 ?_
      refine aE ?_
      refine awp_ret ?_
      exact oO hF [(1, 6001)] [] rfl
    · refine awp_false (by kernel_rfl) h5 ?_
      refine awp_skip ?_
      refine awp_region ?_
      refine aR 3 ?_
      refine aE ?_
      exact oO hF [] [] rfl
  · refine awp_false (by kernel_rfl) h2 ?_
    refine awp_exit ?_
    exact oO hF [] [] rfl

def z590 (qs : List (List UInt8)) (r : (List (List UInt8))) : TV × Mem := (.v (.one (.own 1 none)), ⟨[(1, ⟨9, 1, List.map encS r⟩)], []⟩)

theorem z591 {qs : List (List UInt8)} {r} (hF : z589 qs = some r) : Holds prog 185 [.v (.one (.own 0 none))] ⟨[(0, ⟨9, 1, List.map encS qs⟩)], []⟩ (Is (z590 qs r)) := by
  unfold z589 at hF
  refine holds_of_awp hΓ (fn := f185) (c := cB f185) (A := 1) (nx := 1) (by kernel_rfl) (by kernel_rfl) (by kernel_rfl) (by kernel_rfl) (by kernel_rfl) (by kernel_rfl) (lowc_of (by kernel_rfl)) ?_
  show Awp prog 1 61 (cB f185) _ _
  refine awp_seq ?_
  refine awp_region ?_
  refine aR 1 ?_
  refine aE ?_
  refine awp_seq ?_
  refine awp_seq ?_
  refine awp_region ?_
  refine aR 1 ?_
  refine aL encS qs ?_
  refine aR 1 ?_
  refine aE ?_
  refine cE hF (fun h1 hF => ?_) fun h1 hF => ?_
  · refine awp_true (by kernel_rfl) h1 ?_
    refine awp_seq ?_
    refine awp_region ?_
    refine aR 2 ?_
    refine aE ?_
    refine awp_ret ?_
    exact oF hF [(1, 0)] []
  · refine awp_false (by kernel_rfl) h1 ?_
    refine awp_skip ?_
    refine awp_seq ?_
    refine awp_seq ?_
    refine awp_region ?_
    refine aR 1 ?_
    refine aE ?_
    refine awp_block ?_
    refine awp_to (st' := z593 qs 1) (oT [] []) ?_
    refine bE hF fun x h18 hF => ?_
    rcases x with _ | vx1
    · refine awp_sub (awp_loop' (z593 qs) z595 (z594 qs) (by intro x; rcases x with x | x <;> exact fun h => nomatch h) h18 (z596 qs)) ?_
      refine awp_seq ?_
      refine awp_region ?_
      refine aR 2 ?_
      refine aE ?_
      refine awp_ret ?_
      exact oF hF [(1, 0)] []
    · refine awp_sub (awp_loop' (z593 qs) z595 (z594 qs) (by intro x; rcases x with x | x <;> exact fun h => nomatch h) h18 (z596 qs)) ?_
      exact oF hF [] []

/-! ### beaconfleet/twin.names -/
def z1124 : (List (List UInt8)) → AEx
  | _ => .exit 2

def z1123 (qlists : List (List api_Prop)) (vx : Int) (vy3 : List api_Prop) : (List (List UInt8)) → St
  | vout4 => Mem.st ⟨[(1, ⟨9, 1, List.map encS vout4⟩)], []⟩ (tl [(3, .v (.one (.own 1 none))), (8, .v (.one (.d (.lst (List.map (encL api_Prop.enc) qlists))))), (9, .v (.one (.d (.int .i64 (qlists.length : Int))))), (10, .v (.one (.d (.int .i64 vx))))]) 2

def z1122 (qlists : List (List api_Prop)) (vx : Int) (vy3 : List api_Prop) : (List (List UInt8)) × Int → St
  | (vout3, vx2) => Mem.st ⟨[(1, ⟨9, 1, List.map encS vout3⟩)], []⟩ (tl [(3, .v (.one (.own 1 none))), (8, .v (.one (.d (.lst (List.map (encL api_Prop.enc) qlists))))), (9, .v (.one (.d (.int .i64 (qlists.length : Int))))), (10, .v (.one (.d (.int .i64 vx)))), (14, .v (.one (.d (.lst (List.map api_Prop.enc vy3))))), (15, .v (.one (.d (.int .i64 (vy3.length : Int))))), (16, .v (.one (.d (.int .i64 vx2))))]) 2

theorem z1125 (qlists : List (List api_Prop)) (vx : Int) (vy3 : List api_Prop) (s : (List (List UInt8)) × Int) (r : ((List (List UInt8)) × Int) ⊕ ((List (List UInt8)))) (hF : z1121 vy3 s = some r) : Awp prog 1 31 (cL (cL (cR (cR (cL (cL (cR (cR (cL (cL (cR (cL (cR (cR (cB f141))))))))))))))) (Out 1 (kk z1124) (SS (z1122 qlists vx vy3) (z1123 qlists vx vy3)) r) (z1122 qlists vx vy3 s) := by
  obtain ⟨vout3, vx2⟩ := s
  unfold z1121 at hF
  refine awp_seq ?_
  refine awp_region ?_
  refine aR 1 ?_
  refine aE ?_
  refine awp_seq ?_
  refine cE hF (fun h3 hF => ?_) fun h3 hF => ?_
  · refine awp_true (by kernel_rfl) h3 ?_
    refine awp_skip ?_
    refine awp_seq ?_
    refine awp_block ?_
    refine awp_seq ?_
    refine bE hF fun vy5 h4 hF => ?_
    refine awp_region ?_
    refine aX (x_idx api_Prop.enc h4) ?_
    refine aR 3 ?_
    refine aE ?_
    refine gE hF fun h5 hF => ?_
    refine awp_region ?_
    refine aR 4 ?_
    refine aX (x_app encS 1 h5) ?_
    refine aR 1 ?_
    refine aE ?_
    refine awp_region ?_
    refine aR 2 ?_
    refine aE ?_
    exact oO hF [(1, 9002)] [] rfl
  · refine awp_false (by kernel_rfl) h3 ?_
    refine awp_exit ?_
    exact oO hF [] [] rfl

def z1119 : (List (List UInt8)) → AEx
  | _ => .exit 0

def z1118 (qlists : List (List api_Prop)) : (List (List UInt8)) → St
  | vout5 => Mem.st ⟨[(1, ⟨9, 1, List.map encS vout5⟩)], []⟩ (tl [(3, .v (.one (.own 1 none)))]) 2

def z1117 (qlists : List (List api_Prop)) : (List (List UInt8)) × Int → St
  | (vout, vx) => Mem.st ⟨[(1, ⟨9, 1, List.map encS vout⟩)], []⟩ (tl [(3, .v (.one (.own 1 none))), (8, .v (.one (.d (.lst (List.map (encL api_Prop.enc) qlists))))), (9, .v (.one (.d (.int .i64 (qlists.length : Int))))), (10, .v (.one (.d (.int .i64 vx))))]) 2

theorem z1120 (qlists : List (List api_Prop)) (s : (List (List UInt8)) × Int) (r : ((List (List UInt8)) × Int) ⊕ ((List (List UInt8)))) (hF : z1116 qlists s = some r) : Awp prog 1 31 (cL (cL (cR (cL (cR (cR (cB f141))))))) (Out 1 (kk z1119) (SS (z1117 qlists) (z1118 qlists)) r) (z1117 qlists s) := by
  obtain ⟨vout, vx⟩ := s
  unfold z1116 at hF
  refine awp_seq ?_
  refine awp_region ?_
  refine aR 1 ?_
  refine aE ?_
  refine awp_seq ?_
  refine cE hF (fun h1 hF => ?_) fun h1 hF => ?_
  · refine awp_true (by kernel_rfl) h1 ?_
    refine awp_skip ?_
    refine awp_seq ?_
    refine awp_block ?_
    refine awp_seq ?_
    refine bE hF fun vy3 h2 hF => ?_
    refine awp_region ?_
    refine aX (x_idx (encL api_Prop.enc) h2) ?_
    refine aR 2 ?_
    refine aE ?_
    refine awp_seq ?_
    refine awp_region ?_
    refine aR 1 ?_
    refine aL api_Prop.enc vy3 ?_
    refine aR 1 ?_
    refine aE ?_
    refine awp_block ?_
    refine awp_to (st' := z1122 qlists vx vy3 (vout, 0)) (oT [] []) ?_
    refine bE hF fun vout4_1 h6 hF => ?_
    refine awp_sub (awp_loop' (z1122 qlists vx vy3) z1124 (z1123 qlists vx vy3) (by intro x; exact fun h => nomatch h) h6 (z1125 qlists vx vy3)) ?_
    refine awp_region ?_
    refine aR 2 ?_
    refine aE ?_
    exact oO hF [] [] rfl
  · refine awp_false (by kernel_rfl) h1 ?_
    refine awp_exit ?_
    exact oO hF [] [] rfl

def z1114 (qlists : List (List api_Prop)) (r : (List (List UInt8))) : TV × Mem := (.v (.one (.own 1 none)), ⟨[(1, ⟨9, 1, List.map encS r⟩)], []⟩)

theorem z1115 {qlists : List (List api_Prop)} {r} (hF : z1113 qlists = some r) : Holds prog 141 [.v (.one (.own 0 none))] ⟨[(0, ⟨94, 1, List.map (encL api_Prop.enc) qlists⟩)], []⟩ (Is (z1114 qlists r)) := by
  unfold z1113 at hF
  refine holds_of_awp hΓ (fn := f141) (c := cB f141) (A := 1) (nx := 1) (by kernel_rfl) (by kernel_rfl) (by kernel_rfl) (by kernel_rfl) (by kernel_rfl) (by kernel_rfl) (lowc_of (by kernel_rfl)) ?_
  show Awp prog 1 31 (cB f141) _ _
  refine awp_seq ?_
  refine awp_region ?_
  refine aR 1 ?_
  refine aE ?_
  refine awp_to (oT (m := ⟨[], []⟩) (ts := [(0, .v (.one (.d (.lst (List.map (encL api_Prop.enc) qlists)))))]) (nx := 1) [] []) ?_
  refine awp_seq ?_
  refine awp_region ?_
  refine aR 1 ?_
  refine aE ?_
  refine awp_seq ?_
  refine awp_seq ?_
  refine awp_region ?_
  refine aR 1 ?_
  refine aL (encL api_Prop.enc) qlists ?_
  refine aR 1 ?_
  refine aE ?_
  refine awp_block ?_
  refine awp_to (st' := z1117 qlists ([], 0)) (oT [] [1]) ?_
  refine bE hF fun vout5_1 h7 hF => ?_
  refine awp_sub (awp_loop' (z1117 qlists) z1119 (z1118 qlists) (by intro x; exact fun h => nomatch h) h7 (z1120 qlists)) ?_
  refine awp_seq ?_
  refine bE hF fun vl h8 hF => ?_
  refine gE hF fun h9 hF => ?_
  refine awp_region ?_
  refine aR 1 ?_
  refine aCp (z670 h8) ⟨⟨rfl, rfl, pin1 h9⟩, trivial⟩ [(0, 1)] [] [] ?_
  refine aE ?_
  refine awp_seq ?_
  refine bE hF fun vr h10 hF => ?_
  refine awp_region ?_
  refine aR 1 ?_
  refine aC (z591 h10) [(0, 1)] [] [] ?_
  refine aR 1 ?_
  refine aE ?_
  refine awp_ret ?_
  exact oF hF [(1, 3003)] []

/-! ### slices.BinarySearchFunc[[]beaconfleet/api.Prop,beaconfleet/api.Prop,string] -/
def z584 : Unit → AEx
  | _ => .exit 0

def z583 (qtarget : List UInt8) : Unit → St
  | _ => Mem.st ⟨[], []⟩ (tl [(0, .v (.one (.nil))), (1, .v (.one (.d (.str qtarget)))), (2, .v (.one (.fn 247 []))), (8, .v (.one (.d (.int .i64 0)))), (9, .v (.one (.d (.int .i64 0))))]) 0

def z582 (qtarget : List UInt8) : Unit → St
  | _ => Mem.st ⟨[], []⟩ (tl [(0, .v (.one (.nil))), (1, .v (.one (.d (.str qtarget)))), (2, .v (.one (.fn 247 []))), (8, .v (.one (.d (.int .i64 0)))), (9, .v (.one (.d (.int .i64 0)))), (10, .v (.one (.d (.int .i64 0))))]) 0

theorem z585 (qtarget : List UInt8) (s : Unit) (r : (Unit) ⊕ (Unit)) (hF : z581  s = some r) : Awp prog 0 49 (cL (cL (cL (cR (cR (cR (cB f246))))))) (Out 0 (kk z584) (SS (z582 qtarget) (z583 qtarget)) r) (z582 qtarget s) := by
  unfold z581 at hF
  refine awp_seq ?_
  refine awp_seq ?_
  refine awp_region ?_
  refine aR 3 ?_
  refine aE ?_
  refine cE hF (fun h1 hF => ?_) fun h1 hF => ?_
  · refine awp_true (by kernel_rfl) h1 ?_
    refine awp_skip ?_
    refine awp_block ?_
    refine awp_seq ?_
    refine awp_region ?_
    refine aR 7 ?_
    refine aE ?_
    refine awp_seq ?_
    exact nE hF
  · refine awp_false (by kernel_rfl) h1 ?_
    refine awp_exit ?_
    exact oO hF [] [] rfl

def z579 (qtarget : List UInt8) (r : Unit) : TV × Mem := (.tup [.one (.d (.int .i64 0)), .one (.d (.bool false))], ⟨[], []⟩)

theorem z580 {qtarget : List UInt8} {r} (hF : z578 qtarget = some r) : Holds prog 246 [.v (.one (.nil)), .v (.one (.d (.str qtarget))), .v (.one (.fn 247 []))] ⟨[], []⟩ (Is (z579 qtarget r)) := by
  unfold z578 at hF
  refine holds_of_awp hΓ (fn := f246) (c := cB f246) (A := 0) (nx := 0) (by kernel_rfl) (by kernel_rfl) (by kernel_rfl) (by kernel_rfl) (by kernel_rfl) (by kernel_rfl) (lowc_of (by kernel_rfl)) ?_
  show Awp prog 0 49 (cB f246) _ _
  refine awp_seq ?_
  refine awp_region ?_
  refine aR 2 ?_
  refine aE ?_
  refine awp_seq ?_
  refine awp_region ?_
  refine aR 3 ?_
  refine aE ?_
  refine awp_seq ?_
  refine awp_region ?_
  refine aR 3 ?_
  refine aE ?_
  refine awp_seq ?_
  refine awp_block ?_
  refine awp_to (st' := z582 qtarget ()) (oT [] []) ?_
  refine bE hF fun _ h3 hF => ?_
  refine awp_sub (awp_loop' (z582 qtarget) z584 (z583 qtarget) (by intro x; exact fun h => nomatch h) h3 (z585 qtarget)) ?_
  refine awp_seq ?_
  refine cE hF (fun h4 hF => ?_) fun h4 hF => ?_
  · exact nE hF
  · refine awp_region ?_
    refine aR 3 ?_
    refine aB h4 ?_
    refine aR 12 ?_
    refine aE ?_
    refine awp_ret ?_
    exact oF hF [] []

/-! ### beaconfleet/twin.find -/
def z1107 (qname : List UInt8) (r : Unit) : TV × Mem := (.v (.one (.d (.int .i64 (-1)))), ⟨[], []⟩)

theorem z1108 {qname : List UInt8} {r} (hF : z1106 qname = some r) : Holds prog 181 [.v (.one (.nil)), .v (.one (.d (.str qname)))] ⟨[], []⟩ (Is (z1107 qname r)) := by
  unfold z1106 at hF
  refine holds_of_awp hΓ (fn := f181) (c := cB f181) (A := 0) (nx := 0) (by kernel_rfl) (by kernel_rfl) (by kernel_rfl) (by kernel_rfl) (by kernel_rfl) (by kernel_rfl) (lowc_of (by kernel_rfl)) ?_
  show Awp prog 0 16 (cB f181) _ _
  refine awp_seq ?_
  refine awp_region ?_
  refine aR 1 ?_
  refine aE ?_
  refine awp_seq ?_
  refine bE hF fun _ h1 hF => ?_
  refine awp_region ?_
  refine aR 2 ?_
  refine aC (z580 h1) [] [] [] ?_
  refine aR 5 ?_
  refine aE ?_
  refine awp_seq ?_
  refine awp_seq ?_
  refine awp_region ?_
  refine aR 2 ?_
  refine aE ?_
  refine awp_true (by kernel_rfl) rfl ?_
  refine awp_seq ?_
  refine awp_region ?_
  refine aR 1 ?_
  refine aE ?_
  refine awp_ret ?_
  exact oF hF [] []

/-! ### beaconfleet/twin.valueOf -/
def z1137 (qname : List UInt8) (r : Unit) : TV × Mem := (.v (.agg [.d (.int .i64 0), .d (.bool false), .d (.int .i64 0), .d (.str ([] : List UInt8))]), ⟨[], []⟩)

theorem z1138 {qname : List UInt8} {r} (hF : z1136 qname = some r) : Holds prog 132 [.v (.one (.nil)), .v (.one (.d (.str qname)))] ⟨[], []⟩ (Is (z1137 qname r)) := by
  unfold z1136 at hF
  refine holds_of_awp hΓ (fn := f132) (c := cB f132) (A := 0) (nx := 0) (by kernel_rfl) (by kernel_rfl) (by kernel_rfl) (by kernel_rfl) (by kernel_rfl) (by kernel_rfl) (lowc_of (by kernel_rfl)) ?_
  show Awp prog 0 17 (cB f132) _ _
  refine awp_seq ?_
  refine awp_region ?_
  refine aR 1 ?_
  refine aE ?_
  refine awp_seq ?_
  refine awp_seq ?_
  refine bE hF fun _ h1 hF => ?_
  refine awp_region ?_
  refine aR 2 ?_
  refine aC (z1108 h1) [] [] [] ?_
  refine aR 1 ?_
  refine aE ?_
  refine awp_seq ?_
  refine awp_region ?_
  refine aR 2 ?_
  refine aE ?_
  refine cE hF (fun h2 hF => ?_) fun h2 hF => ?_
  · refine awp_true (by kernel_rfl) h2 ?_
    refine awp_seq ?_
    exact nE hF
  · refine awp_false (by kernel_rfl) h2 ?_
    refine awp_skip ?_
    refine awp_seq ?_
    refine awp_region ?_
    refine aR 2 ?_
    refine aE ?_
    refine awp_ret ?_
    exact oF hF [] []

/-! ### beaconfleet/twin.valueOf -/
def z1135 (ql : List api_Prop) (qname : List UInt8) (r : api_Value) : TV × Mem := (.v (.agg [.d (.int .i64 r.Kind), .d (.bool r.Flag), .d (.int .i64 r.Number), .d (.str r.Words)]), ⟨[], []⟩)

theorem z1139 {ql : List api_Prop} {qname : List UInt8} {r} (hF : z1134 ql qname = some r) : Holds prog 132 [.v (.one (.d (.lst (List.map api_Prop.enc ql)))), .v (.one (.d (.str qname)))] ⟨[], []⟩ (Is (z1135 ql qname r)) := by
  unfold z1134 at hF
  refine holds_of_awp hΓ (fn := f132) (c := cB f132) (A := 0) (nx := 0) (by kernel_rfl) (by kernel_rfl) (by kernel_rfl) (by kernel_rfl) (by kernel_rfl) (by kernel_rfl) (lowc_of (by kernel_rfl)) ?_
  show Awp prog 0 17 (cB f132) _ _
  refine awp_seq ?_
  refine awp_region ?_
  refine aR 1 ?_
  refine aE ?_
  refine awp_seq ?_
  refine awp_seq ?_
  refine bE hF fun vr2 h1 hF => ?_
  refine awp_region ?_
  refine aR 2 ?_
  refine aC (z1109 h1) [] [] [] ?_
  refine aR 1 ?_
  refine aE ?_
  refine awp_seq ?_
  refine awp_region ?_
  refine aR 2 ?_
  refine aE ?_
  refine cE hF (fun h2 hF => ?_) fun h2 hF => ?_
  · refine awp_true (by kernel_rfl) h2 ?_
    refine awp_seq ?_
    refine bE hF fun vy h3 hF => ?_
    refine awp_region ?_
    refine aR 2 ?_
    refine aX (x_idx api_Prop.enc h3) ?_
    refine aR 3 ?_
    refine aE ?_
    refine awp_ret ?_
    exact oF hF [] []
  · refine awp_false (by kernel_rfl) h2 ?_
    refine awp_skip ?_
    refine awp_seq ?_
    refine awp_region ?_
    refine aR 2 ?_
    refine aE ?_
    refine awp_ret ?_
    exact oF hF [] []

/-! ### beaconfleet/twin.Differ -/
def z1087 : (List api_Change) → AEx
  | _ => .normal

def z1086 (qb : List api_Prop) (vr1_1 : List (List UInt8)) (vout : List api_Change) (vx : Int) : (List api_Change) → St
  | vout2 => Mem.st ⟨[(1, ⟨205, 9, List.map api_Change.enc vout2⟩)], []⟩ (tl [(0, .v (.one (.nil))), (1, .v (.one (.d (.lst (List.map api_Prop.enc qb))))), (7, .v (.one (.own 1 none))), (24, .v (.one (.d (.lst (List.map encS vr1_1))))), (25, .v (.one (.d (.int .i64 (vr1_1.length : Int))))), (26, .v (.one (.d (.int .i64 vx))))]) 2

def z1085 (qb : List api_Prop) (vr1_1 : List (List UInt8)) (vout : List api_Change) (vx : Int) : St := Mem.st ⟨[(1, ⟨205, 9, List.map api_Change.enc vout⟩)], []⟩ (tl [(0, .v (.one (.nil))), (1, .v (.one (.d (.lst (List.map api_Prop.enc qb))))), (7, .v (.one (.own 1 none))), (24, .v (.one (.d (.lst (List.map encS vr1_1))))), (25, .v (.one (.d (.int .i64 (vr1_1.length : Int))))), (26, .v (.one (.d (.int .i64 vx))))]) 2

theorem z1088 (qb : List api_Prop) (vr1_1 : List (List UInt8)) (vout : List api_Change) (vx : Int) {r} (hF : z1084 qb vr1_1 vout vx = some r) : Awp prog 1 48 (cL (cR (cR (cL (cL (cR (cL (cR (cR (cR (cB f66))))))))))) (Out 1 z1087 (z1086 qb vr1_1 vout vx) r) (z1085 qb vr1_1 vout vx) := by
  unfold z1084 at hF
  refine awp_block ?_
  refine awp_seq ?_
  refine bE hF fun vy1 h7 hF => ?_
  refine awp_region ?_
  refine aX (x_idx encS h7) ?_
  refine aR 2 ?_
  refine aE ?_
  refine awp_seq ?_
  refine bE hF fun _ h8 hF => ?_
  refine bE hF fun vr4 h9 hF => ?_
  refine awp_region ?_
  refine aR 2 ?_
  refine aC (z1138 h8) [] [] [] ?_
  refine aR 2 ?_
  refine aC (z1139 h9) [] [] [] ?_
  refine aR 4 ?_
  refine aE ?_
  refine awp_seq ?_
  refine awp_region ?_
  refine aR 2 ?_
  refine aS (does_eqS (op := .neq) (xs := [.int .i64 0, .bool false, .int .i64 0, .str ([] : List UInt8)]) (ys := [.int .i64 vr4.Kind, .bool vr4.Flag, .int .i64 vr4.Number, .str vr4.Words]) (b := (decide ((0 : Int) = vr4.Kind) && ((false == vr4.Flag) && (decide ((0 : Int) = vr4.Number) && (decide (([] : List UInt8) = vr4.Words) && true))))) (c := (!(decide ((0 : Int) = vr4.Kind) && ((false == vr4.Flag) && (decide ((0 : Int) = vr4.Number) && (decide (([] : List UInt8) = vr4.Words) && true)))))) rfl (.inr ⟨rfl, rfl⟩) (by kernel_rfl) (by kernel_rfl) (by kernel_rfl) (by kernel_rfl) (by kernel_rfl) (by kernel_rfl)) ?_
  refine aE ?_
  refine cE hF (fun h10 hF => ?_) fun h10 hF => ?_
  · refine awp_true (by kernel_rfl) h10 ?_
    refine gE hF fun h11 hF => ?_
    refine awp_region ?_
    refine aR 6 ?_
    refine aX (x_app api_Change.enc 1 h11) ?_
    refine aR 1 ?_
    refine aE ?_
    exact oO hF [(1, 22002)] [] rfl
  · refine awp_false (by kernel_rfl) h10 ?_
    refine awp_skip ?_
    exact oO hF [] [] rfl

def z1082 : (List api_Change) → AEx
  | _ => .exit 0

def z1081 (qb : List api_Prop) (vr1_1 : List (List UInt8)) : (List api_Change) → St
  | vout3 => Mem.st ⟨[(1, ⟨205, 9, List.map api_Change.enc vout3⟩)], []⟩ (tl [(7, .v (.one (.own 1 none)))]) 2

def z1080 (qb : List api_Prop) (vr1_1 : List (List UInt8)) : (List api_Change) × Int → St
  | (vout, vx) => Mem.st ⟨[(1, ⟨205, 9, List.map api_Change.enc vout⟩)], []⟩ (tl [(0, .v (.one (.nil))), (1, .v (.one (.d (.lst (List.map api_Prop.enc qb))))), (7, .v (.one (.own 1 none))), (24, .v (.one (.d (.lst (List.map encS vr1_1))))), (25, .v (.one (.d (.int .i64 (vr1_1.length : Int))))), (26, .v (.one (.d (.int .i64 vx))))]) 2

theorem z1083 (qb : List api_Prop) (vr1_1 : List (List UInt8)) (s : (List api_Change) × Int) (r : ((List api_Change) × Int) ⊕ ((List api_Change))) (hF : z1079 qb vr1_1 s = some r) : Awp prog 1 48 (cL (cL (cR (cL (cR (cR (cR (cB f66)))))))) (Out 1 (kk z1082) (SS (z1080 qb vr1_1) (z1081 qb vr1_1)) r) (z1080 qb vr1_1 s) := by
  obtain ⟨vout, vx⟩ := s
  unfold z1079 at hF
  refine awp_seq ?_
  refine awp_region ?_
  refine aR 1 ?_
  refine aE ?_
  refine awp_seq ?_
  refine cE hF (fun h6 hF => ?_) fun h6 hF => ?_
  · refine awp_true (by kernel_rfl) h6 ?_
    refine awp_skip ?_
    refine awp_seq ?_
    refine awp_to (st' := z1085 qb vr1_1 vout vx) (oT [] []) ?_
    refine bE hF fun vout2_1 h12 hF => ?_
    refine awp_sub (z1088 qb vr1_1 vout vx h12) ?_
    refine awp_region ?_
    refine aR 2 ?_
    refine aE ?_
    exact oO hF [] [] rfl
  · refine awp_false (by kernel_rfl) h6 ?_
    refine awp_exit ?_
    exact oO hF [] [] rfl

def z1077 (qb : List api_Prop) (r : (List api_Change) × Int) : TV × Mem := (.tup [.one (.own 1 none), .one (.d (.int .i64 r.2))], ⟨[(1, ⟨205, 9, List.map api_Change.enc r.1⟩)], []⟩)

theorem z1078 {qb : List api_Prop} {r} (hF : z1076 qb = some r) : Holds prog 66 [.v (.one (.nil)), .v (.one (.own 0 none))] ⟨[(0, ⟨102, 5, List.map api_Prop.enc qb⟩)], []⟩ (Is (z1077 qb r)) := by
  unfold z1076 at hF
  refine holds_of_awp hΓ (fn := f66) (c := cB f66) (A := 1) (nx := 1) (by kernel_rfl) (by kernel_rfl) (by kernel_rfl) (by kernel_rfl) (by kernel_rfl) (by kernel_rfl) (lowc_of (by kernel_rfl)) ?_
  show Awp prog 1 48 (cB f66) _ _
  refine awp_seq ?_
  refine awp_region ?_
  refine aR 2 ?_
  refine aE ?_
  refine awp_to (oT (m := ⟨[], []⟩) (ts := [(0, .v (.one (.nil))), (1, .v (.one (.d (.lst (List.map api_Prop.enc qb)))))]) (nx := 1) [] []) ?_
  refine awp_seq ?_
  refine awp_seq ?_
  refine bE hF fun vr h1 hF => ?_
  refine bE hF fun vr3 h2 hF => ?_
  refine bE hF fun vr1 h3 hF => ?_
  refine awp_region ?_
  refine aR 1 ?_
  refine aC (z1049 h1) [] [] [] ?_
  refine aR 1 ?_
  refine aC (z1060 h2) [] [] [] ?_
  refine aR 1 ?_
  refine aC (z18 h3) [] [] [4001] ?_
  refine aR 1 ?_
  refine aE ?_
  refine awp_seq ?_
  refine awp_region ?_
  refine aR 2 ?_
  refine aE ?_
  refine cE hF (fun h4 hF => ?_) fun h4 hF => ?_
  · refine awp_true (by kernel_rfl) h4 ?_
    refine awp_seq ?_
    refine awp_region ?_
    refine aR 3 ?_
    refine aE ?_
    refine awp_ret ?_
    exact oF hF [] [1]
  · refine awp_false (by kernel_rfl) h4 ?_
    refine awp_skip ?_
    refine awp_seq ?_
    refine awp_region ?_
    refine aR 1 ?_
    refine aE ?_
    refine awp_seq ?_
    refine awp_seq ?_
    refine bE hF fun vr1_1 h5 hF => ?_
    refine awp_region ?_
    refine aR 3 ?_
    refine aC (z1115 h5) [(0, 12001)] [] [] ?_
    refine aL encS vr1_1 ?_
    refine aR 1 ?_
    refine aE ?_
    refine awp_to (oT (m := ⟨[], []⟩) (ts := [(0, .v (.one (.nil))), (1, .v (.one (.d (.lst (List.map api_Prop.enc qb))))), (7, .v (.one (.nil))), (24, .v (.one (.d (.lst (List.map encS vr1_1))))), (25, .v (.one (.d (.int .i64 (vr1_1.length : Int))))), (26, .v (.one (.d (.int .i64 0))))]) (nx := 1) [] []) ?_
    refine awp_block ?_
    refine awp_to (st' := z1080 qb vr1_1 ([], 0)) (oT [] [1]) ?_
    refine bE hF fun vout3_1 h13 hF => ?_
    refine awp_sub (awp_loop' (z1080 qb vr1_1) z1082 (z1081 qb vr1_1) (by intro x; exact fun h => nomatch h) h13 (z1083 qb vr1_1)) ?_
    refine awp_seq ?_
    refine awp_region ?_
    refine aR 3 ?_
    refine aE ?_
    refine awp_ret ?_
    exact oF hF [] []

/-! ### beaconfleet/series.byDevice -/
def z531 (qa : api_Sample) (qb : api_Sample) (r : Int) : TV × Mem := (.v (.one (.d (.int .i64 r))), ⟨[], []⟩)

theorem z532 {qa : api_Sample} {qb : api_Sample} {r} (hF : z530 qa qb = some r) : Holds prog 94 [.v (.agg [.d (.str qa.Device), .d (.str qa.Metric), .d (.int .i64 qa.At), .d (.int .i64 qa.Value)]), .v (.agg [.d (.str qb.Device), .d (.str qb.Metric), .d (.int .i64 qb.At), .d (.int .i64 qb.Value)])] ⟨[], []⟩ (Is (z531 qa qb r)) := by
  unfold z530 at hF
  refine holds_of_awp hΓ (fn := f94) (c := cB f94) (A := 0) (nx := 0) (by kernel_rfl) (by kernel_rfl) (by kernel_rfl) (by kernel_rfl) (by kernel_rfl) (by kernel_rfl) (lowc_of (by kernel_rfl)) ?_
  show Awp prog 0 22 (cB f94) _ _
  refine awp_seq ?_
  refine awp_region ?_
  refine aR 3 ?_
  refine aE ?_
  refine awp_seq ?_
  refine bE hF fun _ h1 hF => ?_
  refine bE hF fun _ h2 hF => ?_
  refine bE hF fun vr h3 hF => ?_
  refine bE hF fun vr1 h4 hF => ?_
  refine aD ?_
  refine dR 4 ?_
  refine dC (z960 h1) [] [] [] ?_
  refine dR 4 ?_
  refine dC (z960 h2) [] [] [] ?_
  refine dR 4 ?_
  refine dC (z134 h3) [] [] [] ?_
  refine dR 1 ?_
  refine dC (z147 h4) [] [] [18000] ?_
  refine dR 1 ?_
  refine dE ?_
  refine awp_ret ?_
  exact oF hF [] []

/-! ### beaconfleet/series.Check -/
def z515 : Bool → AEx
  | _ => .normal

def z514 (ql : List api_Sample) (vx : Int) (vy2 : api_Sample) : Bool → St
  | vx4 => Mem.st ⟨[], [(0, [.d (.str vy2.Device), .d (.str vy2.Metric), .d (.int .i64 vy2.At), .d (.int .i64 vy2.Value)])]⟩ (tl [(0, .v (.one (.d (.lst (List.map api_Sample.enc ql))))), (3, .v (.one (.d (.int .i64 vx)))), (4, .v (.one (.box 0 0))), (8, .v (.one (.d (.lst (List.map api_Sample.enc ql))))), (9, .v (.one (.d (.int .i64 (ql.length : Int))))), (10, .v (.one (.d (.int .i64 vx)))), (15, .v (.one (.d (.bool vx4))))]) 1

def z513 (ql : List api_Sample) (vx : Int) (vy2 : api_Sample) : St := Mem.st ⟨[], [(0, [.d (.str vy2.Device), .d (.str vy2.Metric), .d (.int .i64 vy2.At), .d (.int .i64 vy2.Value)])]⟩ (tl [(0, .v (.one (.d (.lst (List.map api_Sample.enc ql))))), (3, .v (.one (.d (.int .i64 vx)))), (4, .v (.one (.box 0 0))), (8, .v (.one (.d (.lst (List.map api_Sample.enc ql))))), (9, .v (.one (.d (.int .i64 (ql.length : Int))))), (10, .v (.one (.d (.int .i64 vx))))]) 1

theorem z516 (ql : List api_Sample) (vx : Int) (vy2 : api_Sample) {r} (hF : z512 vy2 = some r) : Awp prog 0 50 (cL (cL (cR (cL (cL (cR (cR (cL (cL (cR (cL (cR (cR (cB f91)))))))))))))) (Out 0 z515 (z514 ql vx vy2) r) (z513 ql vx vy2) := by
  unfold z512 at hF
  refine bE hF fun vr3 h4 hF => ?_
  refine cE hF (fun h5 hF => ?_) fun h5 hF => ?_
  · refine awp_region ?_
    refine aR 2 ?_
    refine aC (z25 h4) [] [] [] ?_
    refine aB h5 ?_
    refine aR 7 ?_
    refine aE ?_
    exact oO hF [] [] rfl
  · refine bE hF fun vr4 h6 hF => ?_
    refine awp_region ?_
    refine aR 2 ?_
    refine aC (z25 h4) [] [] [] ?_
    refine aB h5 ?_
    refine aR 3 ?_
    refine aC (z25 h6) [] [] [] ?_
    refine aR 3 ?_
    refine aE ?_
    exact oO hF [] [] rfl

def z520 : Bool → AEx
  | _ => .normal

def z519 (ql : List api_Sample) (vx : Int) (vy2 : api_Sample) : Bool → St
  | vx5 => Mem.st ⟨[], [(0, [.d (.str vy2.Device), .d (.str vy2.Metric), .d (.int .i64 vy2.At), .d (.int .i64 vy2.Value)])]⟩ (tl [(0, .v (.one (.d (.lst (List.map api_Sample.enc ql))))), (3, .v (.one (.d (.int .i64 vx)))), (4, .v (.one (.box 0 0))), (8, .v (.one (.d (.lst (List.map api_Sample.enc ql))))), (9, .v (.one (.d (.int .i64 (ql.length : Int))))), (10, .v (.one (.d (.int .i64 vx)))), (26, .v (.one (.d (.bool vx5))))]) 1

def z518 (ql : List api_Sample) (vx : Int) (vy2 : api_Sample) : St := Mem.st ⟨[], [(0, [.d (.str vy2.Device), .d (.str vy2.Metric), .d (.int .i64 vy2.At), .d (.int .i64 vy2.Value)])]⟩ (tl [(0, .v (.one (.d (.lst (List.map api_Sample.enc ql))))), (3, .v (.one (.d (.int .i64 vx)))), (4, .v (.one (.box 0 0))), (8, .v (.one (.d (.lst (List.map api_Sample.enc ql))))), (9, .v (.one (.d (.int .i64 (ql.length : Int))))), (10, .v (.one (.d (.int .i64 vx))))]) 1

theorem z521 (ql : List api_Sample) (vx : Int) (vy2 : api_Sample) {r} (hF : z517 vy2 = some r) : Awp prog 0 50 (cL (cR (cR (cL (cR (cL (cL (cR (cR (cL (cL (cR (cL (cR (cR (cB f91)))))))))))))))) (Out 0 z520 (z519 ql vx vy2) r) (z518 ql vx vy2) := by
  unfold z517 at hF
  refine bE hF fun vr1_2 h9 hF => ?_
  refine cE hF (fun h10 hF => ?_) fun h10 hF => ?_
  · refine awp_region ?_
    refine aR 2 ?_
    refine aC (z43 h9) [] [] [] ?_
    refine aB h10 ?_
    refine aR 6 ?_
    refine aE ?_
    exact oO hF [] [] rfl
  · refine bE hF fun vr5 h11 hF => ?_
    refine awp_region ?_
    refine aR 2 ?_
    refine aC (z43 h9) [] [] [] ?_
    refine aB h10 ?_
    refine aR 3 ?_
    refine aC (z73 h11) [] [] [] ?_
    refine aR 2 ?_
    refine aE ?_
    exact oO hF [] [] rfl

def z525 : Bool → AEx
  | _ => .normal

def z524 (ql : List api_Sample) (vx : Int) (vy2 : api_Sample) : Bool → St
  | vx6 => Mem.st ⟨[], []⟩ (tl [(0, .v (.one (.d (.lst (List.map api_Sample.enc ql))))), (8, .v (.one (.d (.lst (List.map api_Sample.enc ql))))), (9, .v (.one (.d (.int .i64 (ql.length : Int))))), (10, .v (.one (.d (.int .i64 vx)))), (36, .v (.one (.d (.bool vx6))))]) 0

def z523 (ql : List api_Sample) (vx : Int) (vy2 : api_Sample) : St := Mem.st ⟨[], [(0, [.d (.str vy2.Device), .d (.str vy2.Metric), .d (.int .i64 vy2.At), .d (.int .i64 vy2.Value)])]⟩ (tl [(0, .v (.one (.d (.lst (List.map api_Sample.enc ql))))), (3, .v (.one (.d (.int .i64 vx)))), (4, .v (.one (.box 0 0))), (8, .v (.one (.d (.lst (List.map api_Sample.enc ql))))), (9, .v (.one (.d (.int .i64 (ql.length : Int))))), (10, .v (.one (.d (.int .i64 vx))))]) 1

theorem z526 (ql : List api_Sample) (vx : Int) (vy2 : api_Sample) {r} (hF : z522 ql vx vy2 = some r) : Awp prog 0 50 (cL (cR (cR (cR (cR (cL (cR (cL (cL (cR (cR (cL (cL (cR (cL (cR (cR (cB f91)))))))))))))))))) (Out 0 z525 (z524 ql vx vy2) r) (z523 ql vx vy2) := by
  unfold z522 at hF
  refine cE hF (fun h14 hF => ?_) fun h14 hF => ?_
  · refine bE hF fun vy3 h15 hF => ?_
    refine bE hF fun vr2_2 h16 hF => ?_
    refine aD ?_
    refine dR 1 ?_
    refine dB h14 ?_
    refine dR 5 ?_
    refine dX (x_idx api_Sample.enc h15) ?_
    refine dR 1 ?_
    refine dC (z532 h16) [] [] [] ?_
    refine dR 3 ?_
    refine dE ?_
    exact oO hF [] [] rfl
  · refine aD ?_
    refine dR 1 ?_
    refine dB h14 ?_
    refine dR 11 ?_
    refine dE ?_
    exact oO hF [] [] rfl

def z510 : Unit ⊕ Int → AEx
  | .inl _ => .exit 0
  | .inr _ => .ret

def z509 (ql : List api_Sample) : Unit ⊕ Int → St
  | .inl _ => Mem.st ⟨[], []⟩ (tl []) 0
  | .inr vx7 => Mem.st ⟨[], []⟩ (tl [(2, .v (.one (.d (.int .i64 vx7))))]) 0

def z508 (ql : List api_Sample) : Int → St
  | vx => Mem.st ⟨[], []⟩ (tl [(0, .v (.one (.d (.lst (List.map api_Sample.enc ql))))), (8, .v (.one (.d (.lst (List.map api_Sample.enc ql))))), (9, .v (.one (.d (.int .i64 (ql.length : Int))))), (10, .v (.one (.d (.int .i64 vx))))]) 0

theorem z511 (ql : List api_Sample) (vx : Int) (r : (Int) ⊕ (Unit ⊕ Int)) (hF : z507 ql vx = some r) : Awp prog 0 50 (cL (cL (cR (cL (cR (cR (cB f91))))))) (Out 0 (kk z510) (SS (z508 ql) (z509 ql)) r) (z508 ql vx) := by
  unfold z507 at hF
  refine awp_seq ?_
  refine awp_region ?_
  refine aR 1 ?_
  refine aE ?_
  refine awp_seq ?_
  refine cE hF (fun h2 hF => ?_) fun h2 hF => ?_
  · refine awp_true (by kernel_rfl) h2 ?_
    refine awp_skip ?_
    refine awp_seq ?_
    refine awp_block ?_
    refine awp_seq ?_
    refine bE hF fun vy2 h3 hF => ?_
    refine awp_region ?_
    refine aR 1 ?_
    refine aX (x_idx api_Sample.enc h3) ?_
    refine aR 4 ?_
    refine aE ?_
    refine awp_block ?_
    refine awp_seq ?_
    refine awp_to (st' := z513 ql vx vy2) (oT [(0, 4000)] []) ?_
    refine bE hF fun vx4_1 h7 hF => ?_
    refine awp_sub (z516 ql vx vy2 h7) ?_
    refine cE hF (fun h8 hF => ?_) fun h8 hF => ?_
    · refine awp_true (by kernel_rfl) h8 ?_
      refine awp_seq ?_
      refine awp_region ?_
      refine aR 1 ?_
      refine aE ?_
      refine awp_ret ?_
      exact oO hF [] [] rfl
    · refine awp_false (by kernel_rfl) h8 ?_
      refine awp_seq ?_
      refine awp_to (st' := z518 ql vx vy2) (oT [] []) ?_
      refine bE hF fun vx5_1 h12 hF => ?_
      refine awp_sub (z521 ql vx vy2 h12) ?_
      refine cE hF (fun h13 hF => ?_) fun h13 hF => ?_
      · refine awp_true (by kernel_rfl) h13 ?_
        refine awp_seq ?_
        refine awp_region ?_
        refine aR 1 ?_
        refine aE ?_
        refine awp_ret ?_
        exact oO hF [] [] rfl
      · refine awp_false (by kernel_rfl) h13 ?_
        refine awp_seq ?_
        refine awp_to (st' := z523 ql vx vy2) (oT [] []) ?_
        refine bE hF fun vx6_1 h17 hF => ?_
        refine awp_sub (z526 ql vx vy2 h17) ?_
        refine cE hF (fun h18 hF => ?_) fun h18 hF => ?_
        · refine awp_true (by kernel_rfl) h18 ?_
          refine awp_seq ?_
          refine awp_region ?_
          refine aR 1 ?_
          refine aE ?_
          refine awp_ret ?_
          exact oO hF [] [] rfl
        · refine awp_false (by kernel_rfl) h18 ?_
          refine awp_skip ?_
          refine awp_region ?_
          refine aR 2 ?_
          refine aE ?_
          exact oO hF [] [] rfl
  · refine awp_false (by kernel_rfl) h2 ?_
    refine awp_exit ?_
    exact oO hF [] [] rfl

def z505 (ql : List api_Sample) (r : Int) : TV × Mem := (.v (.one (.d (.int .i64 r))), ⟨[], []⟩)

theorem z506 {ql : List api_Sample} {r} (hF : z493 ql = some r) : Holds prog 91 [.v (.one (.d (.lst (List.map api_Sample.enc ql))))] ⟨[], []⟩ (Is (z505 ql r)) := by
  unfold z493 at hF
  refine holds_of_awp hΓ (fn := f91) (c := cB f91) (A := 0) (nx := 0) (by kernel_rfl) (by kernel_rfl) (by kernel_rfl) (by kernel_rfl) (by kernel_rfl) (by kernel_rfl) (lowc_of (by kernel_rfl)) ?_
  show Awp prog 0 50 (cB f91) _ _
  refine awp_seq ?_
  refine awp_region ?_
  refine aR 1 ?_
  refine aE ?_
  refine awp_seq ?_
  refine awp_seq ?_
  refine awp_region ?_
  refine aR 1 ?_
  refine aL api_Sample.enc ql ?_
  refine aR 1 ?_
  refine aE ?_
  refine cE hF (fun h1 hF => ?_) fun h1 hF => ?_
  · refine awp_true (by kernel_rfl) h1 ?_
    refine awp_seq ?_
    refine awp_region ?_
    refine aR 1 ?_
    refine aE ?_
    refine awp_ret ?_
    exact oF hF [] []
  · refine awp_false (by kernel_rfl) h1 ?_
    refine awp_skip ?_
    refine awp_seq ?_
    refine awp_seq ?_
    refine awp_region ?_
    refine aR 1 ?_
    refine aL api_Sample.enc ql ?_
    refine aR 1 ?_
    refine aE ?_
    refine awp_block ?_
    refine awp_to (st' := z508 ql 0) (oT [] []) ?_
    refine bE hF fun x h19 hF => ?_
    rcases x with _ | vx7_1
    · refine awp_sub (awp_loop' (z508 ql) z510 (z509 ql) (by intro x; rcases x with x | x <;> exact fun h => nomatch h) h19 (z511 ql)) ?_
      refine awp_seq ?_
      refine awp_region ?_
      refine aR 1 ?_
      refine aE ?_
      refine awp_ret ?_
      exact oF hF [] []
    · refine awp_sub (awp_loop' (z508 ql) z510 (z509 ql) (by intro x; rcases x with x | x <;> exact fun h => nomatch h) h19 (z511 ql)) ?_
      exact oF hF [] []

/-! ### beaconfleet/series.CheckSeries$1 -/
def z501 : Bool → AEx
  | _ => .normal

def z500 (qs : api_Sample) (qx : List api_Sample) : Bool → St
  | vx => Mem.st ⟨[], [(0, [.d (.lst (List.map api_Sample.enc qx))])]⟩ (tl [(3, .v (.one (.d (.bool vx))))]) 1

def z499 (qs : api_Sample) (qx : List api_Sample) : St := Mem.st ⟨[], [(0, [.d (.lst (List.map api_Sample.enc qx))]), (1, [.d (.str qs.Device), .d (.str qs.Metric), .d (.int .i64 qs.At), .d (.int .i64 qs.Value)])]⟩ (tl [(1, .v (.one (.box 0 0))), (2, .v (.one (.box 1 0)))]) 2

theorem z502 (qs : api_Sample) (qx : List api_Sample) {r} (hF : z498 qs qx = some r) : Awp prog 1 20 (cL (cR (cB f162))) (Out 1 z501 (z500 qs qx) r) (z499 qs qx) := by
  unfold z498 at hF
  refine bE hF fun vy h1 hF => ?_
  refine cE hF (fun h2 hF => ?_) fun h2 hF => ?_
  · refine aD ?_
    refine dR 3 ?_
    refine dX (x_idx api_Sample.enc h1) ?_
    refine dR 2 ?_
    refine dB h2 ?_
    refine dR 10 ?_
    refine dE ?_
    exact oO hF [] [] rfl
  · refine aD ?_
    refine dR 3 ?_
    refine dX (x_idx api_Sample.enc h1) ?_
    refine dR 2 ?_
    refine dB h2 ?_
    refine dR 4 ?_
    refine dX (x_idx api_Sample.enc h1) ?_
    refine dR 5 ?_
    refine dE ?_
    exact oO hF [] [] rfl

def z496 (qs : api_Sample) (qx : List api_Sample) (r : Bool) : TV × Mem := (.v (.one (.d (.bool r))), ⟨[], [(0, [.d (.lst (List.map api_Sample.enc qx))])]⟩)

theorem z497 {qs : api_Sample} {qx : List api_Sample} {r} (hF : z495 qs qx = some r) : Holds prog 162 [.v (.agg [.d (.str qs.Device), .d (.str qs.Metric), .d (.int .i64 qs.At), .d (.int .i64 qs.Value)]), .v (.one (.box 0 0))] ⟨[], [(0, [.d (.lst (List.map api_Sample.enc qx))])]⟩ (Is (z496 qs qx r)) := by
  unfold z495 at hF
  refine holds_of_awp hΓ (fn := f162) (c := cB f162) (A := 1) (nx := 1) (by kernel_rfl) (by kernel_rfl) (by kernel_rfl) (by kernel_rfl) (by kernel_rfl) (by kernel_rfl) (lowc_of (by kernel_rfl)) ?_
  show Awp prog 1 20 (cB f162) _ _
  refine awp_seq ?_
  refine awp_region ?_
  refine aR 2 ?_
  refine aE ?_
  refine awp_seq ?_
  refine awp_to (st' := z499 qs qx) (oT [] []) ?_
  refine bE hF fun vx1 h3 hF => ?_
  refine awp_sub (z502 qs qx h3) ?_
  refine awp_ret ?_
  exact oF hF [] []

/-! ### slices.IndexFunc[[]beaconfleet/api.Sample,beaconfleet/api.Sample] -/
def z649 : Unit ⊕ Int → AEx
  | .inl _ => .exit 0
  | .inr _ => .ret

def z648 (qs : List api_Sample) : Unit ⊕ Int → St
  | .inl _ => Mem.st ⟨[], [(0, [.d (.lst (List.map api_Sample.enc qs))])]⟩ (tl []) 1
  | .inr vx1 => Mem.st ⟨[], [(0, [.d (.lst (List.map api_Sample.enc qs))])]⟩ (tl [(4, .v (.one (.d (.int .i64 vx1))))]) 1

def z647 (qs : List api_Sample) : Int → St
  | vx => Mem.st ⟨[], [(0, [.d (.lst (List.map api_Sample.enc qs))])]⟩ (tl [(0, .v (.one (.d (.lst (List.map api_Sample.enc qs))))), (1, .v (.one (.fn 162 [0]))), (7, .v (.one (.d (.int .i64 (qs.length : Int))))), (8, .v (.one (.d (.int .i64 vx))))]) 1

theorem z650 (qs : List api_Sample) (vx : Int) (r : (Int) ⊕ (Unit ⊕ Int)) (hF : z646 qs vx = some r) : Awp prog 1 19 (cL (cL (cR (cL (cR (cB f218)))))) (Out 1 (kk z649) (SS (z647 qs) (z648 qs)) r) (z647 qs vx) := by
  unfold z646 at hF
  refine awp_seq ?_
  refine awp_region ?_
  refine aR 1 ?_
  refine aE ?_
  refine awp_seq ?_
  refine cE hF (fun h1 hF => ?_) fun h1 hF => ?_
  · refine awp_true (by kernel_rfl) h1 ?_
    refine awp_skip ?_
    refine awp_seq ?_
    refine awp_block ?_
    refine awp_seq ?_
    refine awp_region ?_
    refine aR 2 ?_
    refine aE ?_
    refine awp_seq ?_
    refine bE hF fun vy1 h2 hF => ?_
    refine bE hF fun vr1 h3 hF => ?_
    refine awp_region ?_
    refine aR 3 ?_
    refine aX (x_idx api_Sample.enc h2) ?_
    refine aR 1 ?_
    refine aC (z497 h3) [] [] [] ?_
    refine aE ?_
    refine cE hF (fun h4 hF => ?_) fun h4 hF => ?_
    · refine awp_true (by kernel_rfl) h4 ?_
      refine awp_seq ?_
      refine awp_region ?_
      refine aR 2 ?_
      refine aE ?_
      refine awp_ret ?_
      exact oO hF [] [] rfl
    · refine awp_false (by kernel_rfl) h4 ?_
      refine awp_skip ?_
      refine awp_region ?_
      refine aR 2 ?_
      refine aE ?_
      exact oO hF [] [] rfl
  · refine awp_false (by kernel_rfl) h1 ?_
    refine awp_exit ?_
    exact oO hF [] [] rfl

def z644 (qs : List api_Sample) (r : Int) : TV × Mem := (.v (.one (.d (.int .i64 r))), ⟨[], [(0, [.d (.lst (List.map api_Sample.enc qs))])]⟩)

theorem z645 {qs : List api_Sample} {r} (hF : z643 qs = some r) : Holds prog 218 [.v (.one (.d (.lst (List.map api_Sample.enc qs)))), .v (.one (.fn 162 [0]))] ⟨[], [(0, [.d (.lst (List.map api_Sample.enc qs))])]⟩ (Is (z644 qs r)) := by
  unfold z643 at hF
  refine holds_of_awp hΓ (fn := f218) (c := cB f218) (A := 1) (nx := 1) (by kernel_rfl) (by kernel_rfl) (by kernel_rfl) (by kernel_rfl) (by kernel_rfl) (by kernel_rfl) (lowc_of (by kernel_rfl)) ?_
  show Awp prog 1 19 (cB f218) _ _
  refine awp_seq ?_
  refine awp_region ?_
  refine aR 1 ?_
  refine aE ?_
  refine awp_seq ?_
  refine awp_seq ?_
  refine awp_region ?_
  refine aR 1 ?_
  refine aL api_Sample.enc qs ?_
  refine aR 1 ?_
  refine aE ?_
  refine awp_block ?_
  refine awp_to (st' := z647 qs 0) (oT [] []) ?_
  refine bE hF fun x h5 hF => ?_
  rcases x with _ | vx1_1
  · refine awp_sub (awp_loop' (z647 qs) z649 (z648 qs) (by intro x; rcases x with x | x <;> exact fun h => nomatch h) h5 (z650 qs)) ?_
    refine awp_seq ?_
    refine awp_region ?_
    refine aR 1 ?_
    refine aE ?_
    refine awp_ret ?_
    exact oF hF [] []
  · refine awp_sub (awp_loop' (z647 qs) z649 (z648 qs) (by intro x; rcases x with x | x <;> exact fun h => nomatch h) h5 (z650 qs)) ?_
    exact oF hF [] []

/-! ### slices.ContainsFunc[[]beaconfleet/api.Sample,beaconfleet/api.Sample] -/
def z614 (qs : List api_Sample) (r : Bool) : TV × Mem := (.v (.one (.d (.bool r))), ⟨[], [(0, [.d (.lst (List.map api_Sample.enc qs))])]⟩)

theorem z615 {qs : List api_Sample} {r} (hF : z613 qs = some r) : Holds prog 161 [.v (.one (.d (.lst (List.map api_Sample.enc qs)))), .v (.one (.fn 162 [0]))] ⟨[], [(0, [.d (.lst (List.map api_Sample.enc qs))])]⟩ (Is (z614 qs r)) := by
  unfold z613 at hF
  refine holds_of_awp hΓ (fn := f161) (c := cB f161) (A := 1) (nx := 1) (by kernel_rfl) (by kernel_rfl) (by kernel_rfl) (by kernel_rfl) (by kernel_rfl) (by kernel_rfl) (lowc_of (by kernel_rfl)) ?_
  show Awp prog 1 9 (cB f161) _ _
  refine awp_seq ?_
  refine awp_region ?_
  refine aR 1 ?_
  refine aE ?_
  refine awp_seq ?_
  refine bE hF fun vr2 h1 hF => ?_
  refine awp_region ?_
  refine aR 2 ?_
  refine aC (z645 h1) [] [] [] ?_
  refine aR 2 ?_
  refine aE ?_
  refine awp_ret ?_
  exact oF hF [] []

/-! ### beaconfleet/series.CheckSeries -/
def z503 (ql : List api_Sample) (r : Int) : TV × Mem := (.v (.one (.d (.int .i64 r))), ⟨[], []⟩)

theorem z504 {ql : List api_Sample} {r} (hF : z494 ql = some r) : Holds prog 96 [.v (.one (.d (.lst (List.map api_Sample.enc ql))))] ⟨[], []⟩ (Is (z503 ql r)) := by
  unfold z494 at hF
  refine holds_of_awp hΓ (fn := f96) (c := cB f96) (A := 0) (nx := 0) (by kernel_rfl) (by kernel_rfl) (by kernel_rfl) (by kernel_rfl) (by kernel_rfl) (by kernel_rfl) (lowc_of (by kernel_rfl)) ?_
  show Awp prog 0 12 (cB f96) _ _
  refine awp_seq ?_
  refine awp_region ?_
  refine aR 2 ?_
  refine aE ?_
  refine awp_seq ?_
  refine awp_seq ?_
  refine bE hF fun vr6 h1 hF => ?_
  refine awp_region ?_
  refine aR 1 ?_
  refine aC (z506 h1) [] [] [] ?_
  refine aR 1 ?_
  refine aE ?_
  refine awp_seq ?_
  refine awp_region ?_
  refine aR 2 ?_
  refine aE ?_
  refine cE hF (fun h2 hF => ?_) fun h2 hF => ?_
  · refine awp_true (by kernel_rfl) h2 ?_
    refine awp_seq ?_
    refine awp_region ?_
    refine aR 2 ?_
    refine aE ?_
    refine awp_ret ?_
    exact oF hF [] []
  · refine awp_false (by kernel_rfl) h2 ?_
    refine awp_skip ?_
    refine awp_seq ?_
    refine awp_seq ?_
    refine bE hF fun vr h3 hF => ?_
    refine awp_region ?_
    refine aR 2 ?_
    refine aC (z615 h3) [] [] [] ?_
    refine aE ?_
    refine cE hF (fun h4 hF => ?_) fun h4 hF => ?_
    · refine awp_true (by kernel_rfl) h4 ?_
      refine awp_seq ?_
      refine awp_region ?_
      refine aR 1 ?_
      refine aE ?_
      refine awp_ret ?_
      exact oF hF [] []
    · refine awp_false (by kernel_rfl) h4 ?_
      refine awp_skip ?_
      refine awp_seq ?_
      refine awp_region ?_
      refine aR 1 ?_
      refine aE ?_
      refine awp_ret ?_
      exact oF hF [] []

/-! ### beaconfleet/series.seven -/
def z555 : ((List Int) × Int) → AEx
  | _ => .exit 0

def z554 : ((List Int) × Int) → St
  | (vb1, vn1) => Mem.st ⟨[(0, ⟨5, 1, List.map (encI .u8) vb1⟩)], []⟩ (tl [(0, .v (.one (.own 0 none))), (1, .v (.one (.d (.int .u64 vn1))))]) 1

def z553 : (List Int) × Int → St
  | (vb, vn) => Mem.st ⟨[(0, ⟨5, 1, List.map (encI .u8) vb⟩)], []⟩ (tl [(0, .v (.one (.own 0 none))), (1, .v (.one (.d (.int .u64 vn))))]) 1

theorem z556 (s : (List Int) × Int) (r : ((List Int) × Int) ⊕ (((List Int) × Int))) (hF : z552  s = some r) : Awp prog 0 21 (cL (cL (cL (cR (cB f165))))) (Out 0 (kk z555) (SS (z553 ) (z554 )) r) (z553  s) := by
  obtain ⟨vb, vn⟩ := s
  unfold z552 at hF
  refine awp_seq ?_
  refine awp_seq ?_
  refine awp_region ?_
  refine aR 2 ?_
  refine aE ?_
  refine cE hF (fun h1 hF => ?_) fun h1 hF => ?_
  · refine awp_true (by kernel_rfl) h1 ?_
    refine awp_skip ?_
    refine awp_block ?_
    refine gE hF fun h2 hF => ?_
    refine awp_region ?_
    refine aR 6 ?_
    refine aX (x_app (encI .u8) 0 h2) ?_
    refine aR 4 ?_
    refine aE ?_
    exact oO hF [(0, 8001)] [] rfl
  · refine awp_false (by kernel_rfl) h1 ?_
    refine awp_exit ?_
    exact oO hF [] [] rfl

def z550 (qn : Int) (r : (List Int)) : TV × Mem := (.v (.one (.own 0 none)), ⟨[(0, ⟨5, 1, List.map (encI .u8) r⟩)], []⟩)

theorem z551 {qn : Int} {r} (hF : z549 qn = some r) : Holds prog 165 [.v (.one (.nil)), .v (.one (.d (.int .u64 qn)))] ⟨[], []⟩ (Is (z550 qn r)) := by
  unfold z549 at hF
  refine holds_of_awp hΓ (fn := f165) (c := cB f165) (A := 0) (nx := 0) (by kernel_rfl) (by kernel_rfl) (by kernel_rfl) (by kernel_rfl) (by kernel_rfl) (by kernel_rfl) (lowc_of (by kernel_rfl)) ?_
  show Awp prog 0 21 (cB f165) _ _
  refine awp_seq ?_
  refine awp_region ?_
  refine aR 1 ?_
  refine aE ?_
  refine awp_seq ?_
  refine awp_block ?_
  refine awp_to (st' := z553  ([], qn)) (oT [] [0]) ?_
  refine bE hF fun x h3 hF => ?_
  obtain ⟨vb1_1, vn1_1⟩ := x
  refine awp_sub (awp_loop' (z553 ) z555 (z554 ) (by intro x; exact fun h => nomatch h) h3 (z556 )) ?_
  refine awp_seq ?_
  refine gE hF fun h4 hF => ?_
  refine awp_region ?_
  refine aR 4 ?_
  refine aX (x_app (encI .u8) 0 h4) ?_
  refine aR 1 ?_
  refine aE ?_
  refine awp_ret ?_
  exact oF hF [(0, 4001)] []

/-! ### beaconfleet/series.doubled -/
def z534 (qn : Int) (r : Int) : TV × Mem := (.v (.one (.d (.int .u64 r))), ⟨[], []⟩)

theorem z535 {qn : Int} {r} (hF : z533 qn = some r) : Holds prog 166 [.v (.one (.d (.int .i64 qn)))] ⟨[], []⟩ (Is (z534 qn r)) := by
  unfold z533 at hF
  refine holds_of_awp hΓ (fn := f166) (c := cB f166) (A := 0) (nx := 0) (by kernel_rfl) (by kernel_rfl) (by kernel_rfl) (by kernel_rfl) (by kernel_rfl) (by kernel_rfl) (lowc_of (by kernel_rfl)) ?_
  show Awp prog 0 12 (cB f166) _ _
  refine awp_seq ?_
  refine awp_region ?_
  refine aR 1 ?_
  refine aE ?_
  refine awp_seq ?_
  refine awp_seq ?_
  refine awp_region ?_
  refine aR 2 ?_
  refine aE ?_
  refine cE hF (fun h1 hF => ?_) fun h1 hF => ?_
  · refine awp_true (by kernel_rfl) h1 ?_
    refine awp_seq ?_
    refine awp_region ?_
    refine aR 5 ?_
    refine aE ?_
    refine awp_ret ?_
    exact oF hF [] []
  · refine awp_false (by kernel_rfl) h1 ?_
    refine awp_skip ?_
    refine awp_seq ?_
    refine awp_region ?_
    refine aR 4 ?_
    refine aE ?_
    refine awp_ret ?_
    exact oF hF [] []

/-! ### beaconfleet/series.seven -/
def z563 : ((List Int) × Int) → AEx
  | _ => .exit 0

def z562 : ((List Int) × Int) → St
  | (vb1, vn1) => Mem.st ⟨[(1, ⟨5, 1, List.map (encI .u8) vb1⟩)], []⟩ (tl [(0, .v (.one (.own 1 none))), (1, .v (.one (.d (.int .u64 vn1))))]) 2

def z561 : (List Int) × Int → St
  | (vb, vn) => Mem.st ⟨[(1, ⟨5, 1, List.map (encI .u8) vb⟩)], []⟩ (tl [(0, .v (.one (.own 1 none))), (1, .v (.one (.d (.int .u64 vn))))]) 2

theorem z564 (s : (List Int) × Int) (r : ((List Int) × Int) ⊕ (((List Int) × Int))) (hF : z560  s = some r) : Awp prog 1 21 (cL (cL (cL (cR (cB f165))))) (Out 1 (kk z563) (SS (z561 ) (z562 )) r) (z561  s) := by
  obtain ⟨vb, vn⟩ := s
  unfold z560 at hF
  refine awp_seq ?_
  refine awp_seq ?_
  refine awp_region ?_
  refine aR 2 ?_
  refine aE ?_
  refine cE hF (fun h1 hF => ?_) fun h1 hF => ?_
  · refine awp_true (by kernel_rfl) h1 ?_
    refine awp_skip ?_
    refine awp_block ?_
    refine gE hF fun h2 hF => ?_
    refine awp_region ?_
    refine aR 6 ?_
    refine aX (x_app (encI .u8) 1 h2) ?_
    refine aR 4 ?_
    refine aE ?_
    exact oO hF [(1, 8002)] [] rfl
  · refine awp_false (by kernel_rfl) h1 ?_
    refine awp_exit ?_
    exact oO hF [] [] rfl

def z558 (qb : List Int) (qn : Int) (r : (List Int)) : TV × Mem := (.v (.one (.own 1 none)), ⟨[(1, ⟨5, 1, List.map (encI .u8) r⟩)], []⟩)

theorem z559 {qb : List Int} {qn : Int} {r} (hF : z557 qb qn = some r) : Holds prog 165 [.v (.one (.own 0 none)), .v (.one (.d (.int .u64 qn)))] ⟨[(0, ⟨5, 1, List.map (encI .u8) qb⟩)], []⟩ (Is (z558 qb qn r)) := by
  unfold z557 at hF
  refine holds_of_awp hΓ (fn := f165) (c := cB f165) (A := 1) (nx := 1) (by kernel_rfl) (by kernel_rfl) (by kernel_rfl) (by kernel_rfl) (by kernel_rfl) (by kernel_rfl) (lowc_of (by kernel_rfl)) ?_
  show Awp prog 1 21 (cB f165) _ _
  refine awp_seq ?_
  refine awp_region ?_
  refine aR 1 ?_
  refine aE ?_
  refine awp_seq ?_
  refine awp_block ?_
  refine awp_to (st' := z561  (qb, qn)) (oT [(1, 0)] []) ?_
  refine bE hF fun x h3 hF => ?_
  obtain ⟨vb1_1, vn1_1⟩ := x
  refine awp_sub (awp_loop' (z561 ) z563 (z562 ) (by intro x; exact fun h => nomatch h) h3 (z564 )) ?_
  refine awp_seq ?_
  refine gE hF fun h4 hF => ?_
  refine awp_region ?_
  refine aR 4 ?_
  refine aX (x_app (encI .u8) 1 h4) ?_
  refine aR 1 ?_
  refine aE ?_
  refine awp_ret ?_
  exact oF hF [(1, 4002)] []

/-! ### beaconfleet/series.pack -/
def z547 : Int → AEx
  | _ => .normal

def z546 (ql : List api_Sample) (vat : Int) (vby : Int) (vx : Int) (vy1 : api_Sample) (vr8 : List Int) : Int → St
  | vby2 => Mem.st ⟨[(1, ⟨5, 1, List.map (encI .u8) vr8⟩)], [(0, [.d (.str vy1.Device), .d (.str vy1.Metric), .d (.int .i64 vy1.At), .d (.int .i64 vy1.Value)])]⟩ (tl [(3, .v (.one (.own 1 none))), (5, .v (.one (.d (.int .i64 vby2)))), (8, .v (.one (.box 0 0))), (14, .v (.one (.d (.lst (List.map api_Sample.enc ql))))), (15, .v (.one (.d (.int .i64 (ql.length : Int))))), (16, .v (.one (.d (.int .i64 vx))))]) 2

def z545 (ql : List api_Sample) (vat : Int) (vby : Int) (vx : Int) (vy1 : api_Sample) (vr8 : List Int) : St := Mem.st ⟨[(1, ⟨5, 1, List.map (encI .u8) vr8⟩)], [(0, [.d (.str vy1.Device), .d (.str vy1.Metric), .d (.int .i64 vy1.At), .d (.int .i64 vy1.Value)])]⟩ (tl [(3, .v (.one (.own 1 none))), (5, .v (.one (.d (.int .i64 vby)))), (7, .v (.one (.d (.int .i64 vx)))), (8, .v (.one (.box 0 0))), (9, .v (.one (.d (.int .i64 (IntKind.wrap .i64 (vy1.At - vat)))))), (14, .v (.one (.d (.lst (List.map api_Sample.enc ql))))), (15, .v (.one (.d (.int .i64 (ql.length : Int))))), (16, .v (.one (.d (.int .i64 vx))))]) 2

theorem z548 (ql : List api_Sample) (vat : Int) (vby : Int) (vx : Int) (vy1 : api_Sample) (vr8 : List Int) {r} (hF : z544 vat vby vx vy1 = some r) : Awp prog 0 47 (cL (cR (cR (cR (cR (cL (cL (cR (cR (cL (cL (cR (cL (cR (cR (cR (cB f111))))))))))))))))) (Out 0 z547 (z546 ql vat vby vx vy1 vr8) r) (z545 ql vat vby vx vy1 vr8) := by
  unfold z544 at hF
  refine awp_seq ?_
  refine awp_region ?_
  refine aR 2 ?_
  refine aE ?_
  refine cE hF (fun h8 hF => ?_) fun h8 hF => ?_
  · refine awp_true (by kernel_rfl) h8 ?_
    refine awp_region ?_
    refine aR 2 ?_
    refine aE ?_
    exact oO hF [] [] rfl
  · refine awp_false (by kernel_rfl) h8 ?_
    refine awp_skip ?_
    exact oO hF [] [] rfl

def z542 : (List Int) → AEx
  | _ => .exit 0

def z541 (ql : List api_Sample) : (List Int) → St
  | vout1 => Mem.st ⟨[(0, ⟨5, 1, List.map (encI .u8) vout1⟩)], []⟩ (tl [(3, .v (.one (.own 0 none)))]) 1

def z540 (ql : List api_Sample) : (List Int) × Int × Int × Int × Int → St
  | (vout, vat, vby, vvalue, vx) => Mem.st ⟨[(0, ⟨5, 1, List.map (encI .u8) vout⟩)], []⟩ (tl [(3, .v (.one (.own 0 none))), (4, .v (.one (.d (.int .i64 vat)))), (5, .v (.one (.d (.int .i64 vby)))), (6, .v (.one (.d (.int .i64 vvalue)))), (14, .v (.one (.d (.lst (List.map api_Sample.enc ql))))), (15, .v (.one (.d (.int .i64 (ql.length : Int))))), (16, .v (.one (.d (.int .i64 vx))))]) 1

theorem z543 (ql : List api_Sample) (s : (List Int) × Int × Int × Int × Int) (r : ((List Int) × Int × Int × Int × Int) ⊕ ((List Int))) (hF : z539 ql s = some r) : Awp prog 0 47 (cL (cL (cR (cL (cR (cR (cR (cB f111)))))))) (Out 0 (kk z542) (SS (z540 ql) (z541 ql)) r) (z540 ql s) := by
  obtain ⟨vout, vat, vby, vvalue, vx⟩ := s
  unfold z539 at hF
  refine awp_seq ?_
  refine awp_region ?_
  refine aR 1 ?_
  refine aE ?_
  refine awp_seq ?_
  refine cE hF (fun h2 hF => ?_) fun h2 hF => ?_
  · refine awp_true (by kernel_rfl) h2 ?_
    refine awp_skip ?_
    refine awp_seq ?_
    refine awp_block ?_
    refine awp_seq ?_
    refine bE hF fun vy1 h3 hF => ?_
    refine awp_region ?_
    refine aR 1 ?_
    refine aX (x_idx api_Sample.enc h3) ?_
    refine aR 4 ?_
    refine aE ?_
    refine awp_seq ?_
    refine awp_region ?_
    refine aR 5 ?_
    refine aE ?_
    refine awp_seq ?_
    refine bE hF fun vr5 h4 hF => ?_
    refine bE hF fun vr6 h5 hF => ?_
    refine awp_region ?_
    refine aR 4 ?_
    refine aC (z535 h4) [] [] [] ?_
    refine aC (z559 h5) [] [] [] ?_
    refine aR 1 ?_
    refine aE ?_
    refine awp_seq ?_
    refine bE hF fun vr7 h6 hF => ?_
    refine bE hF fun vr8 h7 hF => ?_
    refine awp_region ?_
    refine aR 5 ?_
    refine aC (z535 h6) [] [] [] ?_
    refine aC (z559 h7) [(0, 17002)] [] [] ?_
    refine aR 1 ?_
    refine aE ?_
    refine awp_seq ?_
    refine awp_to (st' := z545 ql vat vby vx vy1 vr8) (oT [(0, 4001), (1, 25002)] []) ?_
    refine bE hF fun vby2_1 h9 hF => ?_
    refine awp_sub (z548 ql vat vby vx vy1 vr8 h9) ?_
    refine aD ?_
    refine dR 6 ?_
    refine dE ?_
    refine awp_region ?_
    refine aR 2 ?_
    refine aE ?_
    exact oO hF [(0, 1)] [] rfl
  · refine awp_false (by kernel_rfl) h2 ?_
    refine awp_exit ?_
    exact oO hF [] [] rfl

def z537 (ql : List api_Sample) (r : (List Int)) : TV × Mem := (.v (.one (.own 0 none)), ⟨[(0, ⟨5, 1, List.map (encI .u8) r⟩)], []⟩)

theorem z538 {ql : List api_Sample} {r} (hF : z536 ql = some r) : Holds prog 111 [.v (.one (.d (.lst (List.map api_Sample.enc ql))))] ⟨[], []⟩ (Is (z537 ql r)) := by
  unfold z536 at hF
  refine holds_of_awp hΓ (fn := f111) (c := cB f111) (A := 0) (nx := 0) (by kernel_rfl) (by kernel_rfl) (by kernel_rfl) (by kernel_rfl) (by kernel_rfl) (by kernel_rfl) (lowc_of (by kernel_rfl)) ?_
  show Awp prog 0 47 (cB f111) _ _
  refine awp_seq ?_
  refine awp_region ?_
  refine aR 1 ?_
  refine aE ?_
  refine awp_seq ?_
  refine bE hF fun vr h1 hF => ?_
  refine awp_region ?_
  refine aR 1 ?_
  refine aL api_Sample.enc ql ?_
  refine aR 1 ?_
  refine aC (z551 h1) [] [] [] ?_
  refine aR 1 ?_
  refine aE ?_
  refine awp_seq ?_
  refine awp_region ?_
  refine aR 3 ?_
  refine aE ?_
  refine awp_seq ?_
  refine awp_seq ?_
  refine awp_region ?_
  refine aR 1 ?_
  refine aL api_Sample.enc ql ?_
  refine aR 1 ?_
  refine aE ?_
  refine awp_block ?_
  refine awp_to (st' := z540 ql (vr, 0, 0, 0, 0)) (oT [(0, 4000)] []) ?_
  refine bE hF fun vout1_1 h10 hF => ?_
  refine awp_sub (awp_loop' (z540 ql) z542 (z541 ql) (by intro x; exact fun h => nomatch h) h10 (z543 ql)) ?_
  refine awp_seq ?_
  refine awp_region ?_
  refine aR 2 ?_
  refine aE ?_
  refine awp_ret ?_
  exact oF hF [] []

/-! ### beaconfleet/series.Pack -/
def z528 (ql : List api_Sample) (r : (List Int) × Int) : TV × Mem := (.tup [.one (.own 1 none), .one (.d (.int .i64 r.2))], ⟨[(1, ⟨5, 1, List.map (encI .u8) r.1⟩)], []⟩)

theorem z529 {ql : List api_Sample} {r} (hF : z527 ql = some r) : Holds prog 67 [.v (.one (.own 0 none))] ⟨[(0, ⟨76, 4, List.map api_Sample.enc ql⟩)], []⟩ (Is (z528 ql r)) := by
  unfold z527 at hF
  refine holds_of_awp hΓ (fn := f67) (c := cB f67) (A := 1) (nx := 1) (by kernel_rfl) (by kernel_rfl) (by kernel_rfl) (by kernel_rfl) (by kernel_rfl) (by kernel_rfl) (lowc_of (by kernel_rfl)) ?_
  show Awp prog 1 12 (cB f67) _ _
  refine awp_seq ?_
  refine awp_region ?_
  refine aR 2 ?_
  refine aE ?_
  refine awp_to (oT (m := ⟨[], []⟩) (ts := [(0, .v (.one (.d (.lst (List.map api_Sample.enc ql)))))]) (nx := 1) [] []) ?_
  refine awp_seq ?_
  refine awp_seq ?_
  refine bE hF fun vr1 h1 hF => ?_
  refine awp_region ?_
  refine aR 1 ?_
  refine aC (z504 h1) [] [] [] ?_
  refine aR 1 ?_
  refine aE ?_
  refine awp_seq ?_
  refine awp_region ?_
  refine aR 2 ?_
  refine aE ?_
  refine cE hF (fun h2 hF => ?_) fun h2 hF => ?_
  · refine awp_true (by kernel_rfl) h2 ?_
    refine awp_seq ?_
    refine awp_region ?_
    refine aR 3 ?_
    refine aE ?_
    refine awp_ret ?_
    exact oF hF [] [1]
  · refine awp_false (by kernel_rfl) h2 ?_
    refine awp_skip ?_
    refine awp_seq ?_
    refine bE hF fun vr9 h3 hF => ?_
    refine awp_region ?_
    refine aR 1 ?_
    refine aC (z538 h3) [] [] [] ?_
    refine aR 2 ?_
    refine aE ?_
    refine awp_ret ?_
    exact oF hF [(1, 6001)] []

/-! ### unicode/utf8.RuneCountInString -/
def z1154 : Int → AEx
  | _ => .exit 0

def z1153 (qs : List UInt8) : Int → St
  | vn1 => Mem.st ⟨[], []⟩ (tl [(2, .v (.one (.d (.int .i64 vn1))))]) 0

def z1152 (qs : List UInt8) : Nat × Int → St
  | (vpos, vn) => Mem.st ⟨[], [(0, [.iters qs vpos])]⟩ (tl [(2, .v (.one (.d (.int .i64 vn)))), (4, .v (.one (.box 0 0)))]) 1

theorem z1155 (qs : List UInt8) (s : Nat × Int) (r : (Nat × Int) ⊕ (Int)) (hF : z1151 qs s = some r) : Awp prog 0 10 (cL (cL (cR (cL (cR (cB f293)))))) (Out 0 (kk z1154) (SS (z1152 qs) (z1153 qs)) r) (z1152 qs s) := by
  obtain ⟨vpos, vn⟩ := s
  unfold z1151 at hF
  refine awp_seq ?_
  refine cE hF (fun h1 hF => ?_) fun h1 hF => ?_
  · refine bE hF fun vd1 h2 hF => ?_
    refine awp_region ?_
    refine aX (x_next 0 qs vpos h1 h2) ?_
    refine aR 1 ?_
    refine aE ?_
    refine awp_seq ?_
    refine awp_true (by kernel_rfl) rfl ?_
    refine awp_skip ?_
    refine awp_block ?_
    refine awp_region ?_
    refine aR 3 ?_
    refine aE ?_
    exact oO hF [] [] rfl
  · refine awp_region ?_
    refine aX (x_nextE 0 qs vpos h1) ?_
    refine aR 1 ?_
    refine aE ?_
    refine awp_seq ?_
    refine awp_false (by kernel_rfl) rfl ?_
    refine awp_exit ?_
    exact oO hF [] [] rfl

def z1149 (qs : List UInt8) (r : Int) : TV × Mem := (.v (.one (.d (.int .i64 r))), ⟨[], []⟩)

theorem z1150 {qs : List UInt8} {r} (hF : z1148 qs = some r) : Holds prog 293 [.v (.one (.d (.str qs)))] ⟨[], []⟩ (Is (z1149 qs r)) := by
  unfold z1148 at hF
  refine holds_of_awp hΓ (fn := f293) (c := cB f293) (A := 0) (nx := 0) (by kernel_rfl) (by kernel_rfl) (by kernel_rfl) (by kernel_rfl) (by kernel_rfl) (by kernel_rfl) (lowc_of (by kernel_rfl)) ?_
  show Awp prog 0 10 (cB f293) _ _
  refine awp_seq ?_
  refine awp_region ?_
  refine aR 1 ?_
  refine aE ?_
  refine awp_seq ?_
  refine awp_seq ?_
  refine awp_region ?_
  refine aR 2 ?_
  refine aE ?_
  refine awp_block ?_
  refine awp_to (st' := z1152 qs ((0 : Nat), 0)) (oT [(0, 2000)] []) ?_
  refine bE hF fun vn1_1 h3 hF => ?_
  refine awp_sub (awp_loop' (z1152 qs) z1154 (z1153 qs) (by intro x; exact fun h => nomatch h) h3 (z1155 qs)) ?_
  refine awp_seq ?_
  refine awp_region ?_
  refine aR 2 ?_
  refine aE ?_
  refine awp_ret ?_
  exact oF hF [] []

/-! ### unicode/utf8.decodeRuneInStringSlow -/
def z1159 (qx : List UInt8) (r : Unit) : TV × Mem := (.tup [.one (.d (.int .i32 65533)), .one (.d (.int .i64 0))], ⟨[], []⟩)

theorem z1160 {qx : List UInt8} {r} (hF : z1158 qx = some r) : Holds prog 314 [.v (.one (.d (.str qx)))] ⟨[], []⟩ (Is (z1159 qx r)) := by
  unfold z1158 at hF
  refine holds_of_awp hΓ (fn := f314) (c := cB f314) (A := 0) (nx := 0) (by kernel_rfl) (by kernel_rfl) (by kernel_rfl) (by kernel_rfl) (by kernel_rfl) (by kernel_rfl) (lowc_of (by kernel_rfl)) ?_
  show Awp prog 0 117 (cB f314) _ _
  refine awp_seq ?_
  refine awp_region ?_
  refine aR 2 ?_
  refine aE ?_
  refine awp_seq ?_
  refine awp_region ?_
  refine aR 3 ?_
  refine aE ?_
  refine awp_seq ?_
  refine awp_seq ?_
  refine awp_region ?_
  refine aR 2 ?_
  refine aE ?_
  refine cE hF (fun h1 hF => ?_) fun h1 hF => ?_
  · refine awp_true (by kernel_rfl) h1 ?_
    refine awp_seq ?_
    refine awp_region ?_
    refine aR 2 ?_
    refine aE ?_
    refine awp_ret ?_
    exact oF hF [] []
  · refine awp_false (by kernel_rfl) h1 ?_
    refine awp_skip ?_
    refine awp_seq ?_
    refine bE hF fun vc h2 hF => ?_
    refine awp_region ?_
    refine aR 1 ?_
    refine aX (x_idxS h2) ?_
    refine aR 1 ?_
    refine aE ?_
    refine awp_seq ?_
    exact nE hF

/-! ### unicode/utf8.DecodeRuneInString -/
def z1146 : Bool → AEx
  | _ => .normal

def z1145 (qs : List UInt8) : Bool → St
  | vx => Mem.st ⟨[], []⟩ (tl [(0, .v (.one (.d (.str qs)))), (10, .v (.one (.d (.bool vx))))]) 0

def z1144 (qs : List UInt8) : St := Mem.st ⟨[], []⟩ (tl [(0, .v (.one (.d (.str qs))))]) 0

theorem z1147 (qs : List UInt8) {r} (hF : z1143 qs = some r) : Awp prog 0 19 (cL (cL (cR (cB f294)))) (Out 0 z1146 (z1145 qs) r) (z1144 qs) := by
  unfold z1143 at hF
  refine cE hF (fun h1 hF => ?_) fun h1 hF => ?_
  · refine bE hF fun vc h2 hF => ?_
    refine awp_region ?_
    refine aR 1 ?_
    refine aB h1 ?_
    refine aR 2 ?_
    refine aX (x_idxS h2) ?_
    refine aR 2 ?_
    refine aE ?_
    exact oO hF [] [] rfl
  · refine awp_region ?_
    refine aR 1 ?_
    refine aB h1 ?_
    refine aR 5 ?_
    refine aE ?_
    exact oO hF [] [] rfl

def z1141 (qs : List UInt8) (r : Int × Int) : TV × Mem := (.tup [.one (.d (.int .i32 r.1)), .one (.d (.int .i64 r.2))], ⟨[], []⟩)

theorem z1142 {qs : List UInt8} {r} (hF : z1140 qs = some r) : Holds prog 294 [.v (.one (.d (.str qs)))] ⟨[], []⟩ (Is (z1141 qs r)) := by
  unfold z1140 at hF
  refine holds_of_awp hΓ (fn := f294) (c := cB f294) (A := 0) (nx := 0) (by kernel_rfl) (by kernel_rfl) (by kernel_rfl) (by kernel_rfl) (by kernel_rfl) (by kernel_rfl) (lowc_of (by kernel_rfl)) ?_
  show Awp prog 0 19 (cB f294) _ _
  refine awp_seq ?_
  refine awp_region ?_
  refine aR 2 ?_
  refine aE ?_
  refine awp_seq ?_
  refine awp_seq ?_
  refine awp_to (st' := z1144 qs) (oT [] []) ?_
  refine bE hF fun vx1 h3 hF => ?_
  refine awp_sub (z1147 qs h3) ?_
  refine cE hF (fun h4 hF => ?_) fun h4 hF => ?_
  · refine awp_true (by kernel_rfl) h4 ?_
    refine awp_seq ?_
    refine bE hF fun vc1 h5 hF => ?_
    refine awp_region ?_
    refine aR 1 ?_
    refine aX (x_idxS h5) ?_
    refine aR 3 ?_
    refine aE ?_
    refine awp_ret ?_
    exact oF hF [] []
  · refine awp_false (by kernel_rfl) h4 ?_
    refine bE hF fun _ h6 hF => ?_
    refine awp_region ?_
    refine aR 1 ?_
    refine aC (z1160 h6) [] [] [] ?_
    refine aR 5 ?_
    refine aE ?_
    refine awp_ret ?_
    exact oF hF [] []

/-! ### strings.explode -/
def z992 : Bool → AEx
  | _ => .normal

def z991 (qs : List UInt8) (qn : Int) (vr : Int) : Bool → St
  | vx => Mem.st ⟨[], []⟩ (tl [(0, .v (.one (.d (.str qs)))), (1, .v (.one (.d (.int .i64 qn)))), (5, .v (.one (.d (.int .i64 vr)))), (18, .v (.one (.d (.bool vx))))]) 0

def z990 (qs : List UInt8) (qn : Int) (vr : Int) : St := Mem.st ⟨[], []⟩ (tl [(0, .v (.one (.d (.str qs)))), (1, .v (.one (.d (.int .i64 qn)))), (5, .v (.one (.d (.int .i64 vr))))]) 0

theorem z993 (qs : List UInt8) (qn : Int) (vr : Int) {r} (hF : z989 qn vr = some r) : Awp prog 0 50 (cL (cL (cR (cR (cB f253))))) (Out 0 z992 (z991 qs qn vr) r) (z990 qs qn vr) := by
  unfold z989 at hF
  refine cE hF (fun h2 hF => ?_) fun h2 hF => ?_
  · refine awp_region ?_
    refine aR 1 ?_
    refine aB h2 ?_
    refine aR 5 ?_
    refine aE ?_
    exact oO hF [] [] rfl
  · refine awp_region ?_
    refine aR 1 ?_
    refine aB h2 ?_
    refine aR 5 ?_
    refine aE ?_
    exact oO hF [] [] rfl

def z987 : Int → AEx
  | _ => .normal

def z986 (qs : List UInt8) (qn : Int) (vr : Int) : Int → St
  | vn => Mem.st ⟨[], []⟩ (tl [(0, .v (.one (.d (.str qs)))), (1, .v (.one (.d (.int .i64 vn))))]) 0

def z985 (qs : List UInt8) (qn : Int) (vr : Int) : St := Mem.st ⟨[], []⟩ (tl [(0, .v (.one (.d (.str qs)))), (1, .v (.one (.d (.int .i64 qn)))), (5, .v (.one (.d (.int .i64 vr))))]) 0

theorem z988 (qs : List UInt8) (qn : Int) (vr : Int) {r} (hF : z984 qn vr = some r) : Awp prog 0 50 (cL (cR (cR (cB f253)))) (Out 0 z987 (z986 qs qn vr) r) (z985 qs qn vr) := by
  unfold z984 at hF
  refine awp_seq ?_
  refine awp_to (st' := z990 qs qn vr) (oT [] []) ?_
  refine bE hF fun vx1 h3 hF => ?_
  refine awp_sub (z993 qs qn vr h3) ?_
  refine cE hF (fun h4 hF => ?_) fun h4 hF => ?_
  · refine awp_true (by kernel_rfl) h4 ?_
    refine awp_region ?_
    refine aR 2 ?_
    refine aE ?_
    exact oO hF [] [] rfl
  · refine awp_false (by kernel_rfl) h4 ?_
    refine awp_skip ?_
    exact oO hF [] [] rfl

def z997 : ((List UInt8) × (List (List UInt8))) → AEx
  | _ => .exit 0

def z996 (vn1 : Int) : ((List UInt8) × (List (List UInt8))) → St
  | (vs5, va1) => Mem.st ⟨[(0, ⟨9, 1, List.map encS va1⟩)], []⟩ (tl [(0, .v (.one (.d (.str vs5)))), (1, .v (.one (.d (.int .i64 vn1)))), (6, .v (.one (.own 0 none)))]) 1

def z995 (vn1 : Int) : (List UInt8) × (List (List UInt8)) × Int → St
  | (vs, va, vi) => Mem.st ⟨[(0, ⟨9, 1, List.map encS va⟩)], []⟩ (tl [(0, .v (.one (.d (.str vs)))), (1, .v (.one (.d (.int .i64 vn1)))), (6, .v (.one (.own 0 none))), (7, .v (.one (.d (.int .i64 vi))))]) 1

theorem z998 (vn1 : Int) (s : (List UInt8) × (List (List UInt8)) × Int) (r : ((List UInt8) × (List (List UInt8)) × Int) ⊕ (((List UInt8) × (List (List UInt8))))) (hF : z994 vn1 s = some r) : Awp prog 0 50 (cL (cL (cR (cL (cR (cR (cR (cR (cB f253))))))))) (Out 0 (kk z997) (SS (z995 vn1) (z996 vn1)) r) (z995 vn1 s) := by
  obtain ⟨vs, va, vi⟩ := s
  unfold z994 at hF
  refine awp_seq ?_
  refine awp_seq ?_
  refine awp_region ?_
  refine aR 4 ?_
  refine aE ?_
  refine cE hF (fun h7 hF => ?_) fun h7 hF => ?_
  · refine awp_true (by kernel_rfl) h7 ?_
    refine awp_skip ?_
    refine awp_seq ?_
    refine awp_block ?_
    refine awp_seq ?_
    refine bE hF fun x h8 hF => ?_
    obtain ⟨vr2, vr1_2⟩ := x
    refine awp_region ?_
    refine aR 1 ?_
    refine aC (z1142 h8) [] [] [] ?_
    refine aR 5 ?_
    refine aE ?_
    refine awp_seq ?_
    refine bE hF fun vs3 h9 hF => ?_
    refine bE hF fun vy1 h10 hF => ?_
    refine awp_region ?_
    refine aR 4 ?_
    refine aX (x_sliceS h9) ?_
    refine aX (x_idxO encS 0 h10) ?_
    refine aX (x_stE encS vs3 h10) ?_
    refine aE ?_
    refine bE hF fun vs4 h11 hF => ?_
    refine awp_region ?_
    refine aR 2 ?_
    refine aX (x_sliceS h11) ?_
    refine aR 1 ?_
    refine aE ?_
    refine awp_region ?_
    refine aR 3 ?_
    refine aE ?_
    exact oO hF [] [] rfl
  · refine awp_false (by kernel_rfl) h7 ?_
    refine awp_exit ?_
    exact oO hF [] [] rfl

def z1002 : (List (List UInt8)) → AEx
  | _ => .normal

def z1001 (vn1 : Int) (vs5_1 : List UInt8) (va1_1 : List (List UInt8)) : (List (List UInt8)) → St
  | va2 => Mem.st ⟨[(0, ⟨9, 1, List.map encS va2⟩)], []⟩ (tl [(6, .v (.one (.own 0 none)))]) 1

def z1000 (vn1 : Int) (vs5_1 : List UInt8) (va1_1 : List (List UInt8)) : St := Mem.st ⟨[(0, ⟨9, 1, List.map encS va1_1⟩)], []⟩ (tl [(0, .v (.one (.d (.str vs5_1)))), (1, .v (.one (.d (.int .i64 vn1)))), (6, .v (.one (.own 0 none)))]) 1

theorem z1003 (vn1 : Int) (vs5_1 : List UInt8) (va1_1 : List (List UInt8)) {r} (hF : z999 vn1 vs5_1 va1_1 = some r) : Awp prog 0 50 (cL (cR (cR (cR (cR (cR (cB f253))))))) (Out 0 z1002 (z1001 vn1 vs5_1 va1_1) r) (z1000 vn1 vs5_1 va1_1) := by
  unfold z999 at hF
  refine awp_seq ?_
  refine awp_region ?_
  refine aR 2 ?_
  refine aE ?_
  refine cE hF (fun h13 hF => ?_) fun h13 hF => ?_
  · refine awp_true (by kernel_rfl) h13 ?_
    refine bE hF fun vy2 h14 hF => ?_
    refine awp_region ?_
    refine aR 4 ?_
    refine aX (x_idxO encS 0 h14) ?_
    refine aX (x_stE encS vs5_1 h14) ?_
    refine aE ?_
    exact oO hF [] [] rfl
  · refine awp_false (by kernel_rfl) h13 ?_
    refine awp_skip ?_
    exact oO hF [] [] rfl

def z982 (qs : List UInt8) (qn : Int) (r : (List (List UInt8))) : TV × Mem := (.v (.one (.own 0 none)), ⟨[(0, ⟨9, 1, List.map encS r⟩)], []⟩)

theorem z983 {qs : List UInt8} {qn : Int} {r} (hF : z981 qs qn = some r) : Holds prog 253 [.v (.one (.d (.str qs))), .v (.one (.d (.int .i64 qn)))] ⟨[], []⟩ (Is (z982 qs qn r)) := by
  unfold z981 at hF
  refine holds_of_awp hΓ (fn := f253) (c := cB f253) (A := 0) (nx := 0) (by kernel_rfl) (by kernel_rfl) (by kernel_rfl) (by kernel_rfl) (by kernel_rfl) (by kernel_rfl) (lowc_of (by kernel_rfl)) ?_
  show Awp prog 0 50 (cB f253) _ _
  refine awp_seq ?_
  refine awp_region ?_
  refine aR 1 ?_
  refine aE ?_
  refine awp_seq ?_
  refine bE hF fun vr h1 hF => ?_
  refine awp_region ?_
  refine aR 1 ?_
  refine aC (z1150 h1) [] [] [] ?_
  refine aR 1 ?_
  refine aE ?_
  refine awp_seq ?_
  refine awp_to (st' := z985 qs qn vr) (oT [] []) ?_
  refine bE hF fun vn1 h5 hF => ?_
  refine awp_sub (z988 qs qn vr h5) ?_
  refine awp_seq ?_
  refine gE hF fun h6 hF => ?_
  refine awp_region ?_
  refine aR 1 ?_
  refine aX (x_mk encS ([] : List UInt8) h6) ?_
  refine aR 1 ?_
  refine aE ?_
  refine awp_seq ?_
  refine awp_seq ?_
  refine awp_region ?_
  refine aR 1 ?_
  refine aE ?_
  refine awp_block ?_
  refine awp_to (st' := z995 vn1 (qs, List.replicate vn1.toNat ([] : List UInt8), 0)) (oT [(0, 1000)] []) ?_
  refine bE hF fun x h12 hF => ?_
  obtain ⟨vs5_1, va1_1⟩ := x
  refine awp_sub (awp_loop' (z995 vn1) z997 (z996 vn1) (by intro x; exact fun h => nomatch h) h12 (z998 vn1)) ?_
  refine awp_seq ?_
  refine awp_to (st' := z1000 vn1 vs5_1 va1_1) (oT [] []) ?_
  refine bE hF fun va2_1 h15 hF => ?_
  refine awp_sub (z1003 vn1 vs5_1 va1_1 h15) ?_
  refine awp_seq ?_
  refine awp_region ?_
  refine aR 2 ?_
  refine aE ?_
  refine awp_ret ?_
  exact oF hF [] []

/-! ### strings.Index -/
def z973 (qs : List UInt8) (qsubstr : List UInt8) (r : Int) : TV × Mem := (.v (.one (.d (.int .i64 r))), ⟨[], []⟩)

theorem z974 {qs : List UInt8} {qsubstr : List UInt8} {r} (hF : z972 qs qsubstr = some r) : Holds prog 255 [.v (.one (.d (.str qs))), .v (.one (.d (.str qsubstr)))] ⟨[], []⟩ (Is (z973 qs qsubstr r)) := by
  unfold z972 at hF
  refine holds_of_awp hΓ (fn := f255) (c := cB f255) (A := 0) (nx := 0) (by kernel_rfl) (by kernel_rfl) (by kernel_rfl) (by kernel_rfl) (by kernel_rfl) (by kernel_rfl) (lowc_of (by kernel_rfl)) ?_
  show Awp prog 0 8 (cB f255) _ _
  refine awp_seq ?_
  refine awp_region ?_
  refine aR 1 ?_
  refine aE ?_
  refine awp_seq ?_
  refine bE hF fun vr h1 hF => ?_
  refine awp_region ?_
  refine aR 2 ?_
  refine aC (z1033 h1) [] [] [] ?_
  refine aR 1 ?_
  refine aE ?_
  refine awp_ret ?_
  exact oF hF [] []

/-! ### strings.Count -/
def z967 : Int → AEx
  | _ => .ret

def z966 (qsubstr : List UInt8) : Int → St
  | vx => Mem.st ⟨[], []⟩ (tl [(4, .v (.one (.d (.int .i64 vx))))]) 0

def z965 (qsubstr : List UInt8) : (List UInt8) × Int → St
  | (vs, vn) => Mem.st ⟨[], []⟩ (tl [(0, .v (.one (.d (.str vs)))), (1, .v (.one (.d (.str qsubstr)))), (5, .v (.one (.d (.int .i64 vn))))]) 0

theorem z968 (qsubstr : List UInt8) (s : (List UInt8) × Int) (r : ((List UInt8) × Int) ⊕ (Int)) (hF : z964 qsubstr s = some r) : Awp prog 0 34 (cL (cL (cR (cR (cR (cR (cB f254))))))) (Out 0 (kk z967) (SS (z965 qsubstr) (z966 qsubstr)) r) (z965 qsubstr s) := by
  obtain ⟨vs, vn⟩ := s
  unfold z964 at hF
  refine awp_block ?_
  refine awp_seq ?_
  refine bE hF fun vr1_1 h5 hF => ?_
  refine awp_region ?_
  refine aR 2 ?_
  refine aC (z974 h5) [] [] [] ?_
  refine aR 1 ?_
  refine aE ?_
  refine awp_seq ?_
  refine awp_seq ?_
  refine awp_region ?_
  refine aR 2 ?_
  refine aE ?_
  refine cE hF (fun h6 hF => ?_) fun h6 hF => ?_
  · refine awp_true (by kernel_rfl) h6 ?_
    refine awp_seq ?_
    refine awp_region ?_
    refine aR 2 ?_
    refine aE ?_
    refine awp_ret ?_
    exact oO hF [] [] rfl
  · refine awp_false (by kernel_rfl) h6 ?_
    refine awp_skip ?_
    refine awp_seq ?_
    refine awp_region ?_
    refine aR 3 ?_
    refine aE ?_
    refine bE hF fun vs2 h7 hF => ?_
    refine awp_region ?_
    refine aR 5 ?_
    refine aX (x_sliceS h7) ?_
    refine aR 1 ?_
    refine aE ?_
    exact oO hF [] [] rfl

def z962 (qs : List UInt8) (qsubstr : List UInt8) (r : Int) : TV × Mem := (.v (.one (.d (.int .i64 r))), ⟨[], []⟩)

theorem z963 {qs : List UInt8} {qsubstr : List UInt8} {r} (hF : z961 qs qsubstr = some r) : Holds prog 254 [.v (.one (.d (.str qs))), .v (.one (.d (.str qsubstr)))] ⟨[], []⟩ (Is (z962 qs qsubstr r)) := by
  unfold z961 at hF
  refine holds_of_awp hΓ (fn := f254) (c := cB f254) (A := 0) (nx := 0) (by kernel_rfl) (by kernel_rfl) (by kernel_rfl) (by kernel_rfl) (by kernel_rfl) (by kernel_rfl) (lowc_of (by kernel_rfl)) ?_
  show Awp prog 0 34 (cB f254) _ _
  refine awp_seq ?_
  refine awp_region ?_
  refine aR 1 ?_
  refine aE ?_
  refine awp_seq ?_
  refine awp_seq ?_
  refine awp_region ?_
  refine aR 3 ?_
  refine aE ?_
  refine cE hF (fun h1 hF => ?_) fun h1 hF => ?_
  · refine awp_true (by kernel_rfl) h1 ?_
    refine awp_seq ?_
    refine bE hF fun vr h2 hF => ?_
    refine awp_region ?_
    refine aR 1 ?_
    refine aC (z1150 h2) [] [] [] ?_
    refine aR 2 ?_
    refine aE ?_
    refine awp_ret ?_
    exact oF hF [] []
  · refine awp_false (by kernel_rfl) h1 ?_
    refine awp_skip ?_
    refine awp_seq ?_
    refine awp_seq ?_
    refine awp_region ?_
    refine aR 3 ?_
    refine aE ?_
    refine cE hF (fun h3 hF => ?_) fun h3 hF => ?_
    · refine awp_true (by kernel_rfl) h3 ?_
      refine awp_seq ?_
      refine bE hF fun vc h4 hF => ?_
      refine awp_region ?_
      refine aR 2 ?_
      refine aX (x_idxS h4) ?_
      refine aS (does_count (g := 295) (fn := f295) (a := qs) (c := (vc.toNat : Int)) rfl (by kernel_rfl) (by kernel_rfl) (by kernel_rfl) (by kernel_rfl) (by kernel_rfl) (by kernel_rfl)) ?_
      refine aR 1 ?_
      refine aE ?_
      refine awp_ret ?_
      exact oF hF [] []
    · refine awp_false (by kernel_rfl) h3 ?_
      refine awp_skip ?_
      refine awp_seq ?_
      refine awp_region ?_
      refine aR 1 ?_
      refine aE ?_
      refine awp_block ?_
      refine awp_to (st' := z965 qsubstr (qs, 0)) (oT [] []) ?_
      refine bE hF fun vx1 h8 hF => ?_
      refine awp_sub (awp_loop' (z965 qsubstr) z967 (z966 qsubstr) (by intro x; exact fun h => nomatch h) h8 (z968 qsubstr)) ?_
      exact oF hF [] []

/-! ### strings.genSplit -/
def z1010 : Int → AEx
  | _ => .normal

def z1009 (qx : List UInt8) (qx1 : List UInt8) (qx2 : Int) (qx3 : Int) : Int → St
  | vx => Mem.st ⟨[], []⟩ (tl [(0, .v (.one (.d (.str qx)))), (1, .v (.one (.d (.str qx1)))), (2, .v (.one (.d (.int .i64 qx2)))), (3, .v (.one (.d (.int .i64 vx))))]) 0

def z1008 (qx : List UInt8) (qx1 : List UInt8) (qx2 : Int) (qx3 : Int) : St := Mem.st ⟨[], []⟩ (tl [(0, .v (.one (.d (.str qx)))), (1, .v (.one (.d (.str qx1)))), (2, .v (.one (.d (.int .i64 qx2)))), (3, .v (.one (.d (.int .i64 qx3))))]) 0

theorem z1011 (qx : List UInt8) (qx1 : List UInt8) (qx2 : Int) (qx3 : Int) {r} (hF : z1007 qx qx1 qx3 = some r) : Awp prog 0 66 (cL (cR (cR (cR (cB f187))))) (Out 0 z1010 (z1009 qx qx1 qx2 qx3) r) (z1008 qx qx1 qx2 qx3) := by
  unfold z1007 at hF
  refine awp_seq ?_
  refine awp_region ?_
  refine aR 2 ?_
  refine aE ?_
  refine cE hF (fun h4 hF => ?_) fun h4 hF => ?_
  · refine awp_true (by kernel_rfl) h4 ?_
    refine bE hF fun vr2 h5 hF => ?_
    refine awp_region ?_
    refine aR 2 ?_
    refine aC (z963 h5) [] [] [] ?_
    refine aR 2 ?_
    refine aE ?_
    exact oO hF [] [] rfl
  · refine awp_false (by kernel_rfl) h4 ?_
    refine awp_skip ?_
    exact oO hF [] [] rfl

def z1015 : ((List UInt8) × (List (List UInt8)) × Int) → AEx
  | _ => .exit 0

def z1014 (qx : List UInt8) (qx1 : List UInt8) (qx2 : Int) (vx1 : Int) : ((List UInt8) × (List (List UInt8)) × Int) → St
  | (vx5, vx6, vx7) => Mem.st ⟨[(0, ⟨9, 1, List.map encS vx6⟩)], []⟩ (tl [(0, .v (.one (.d (.str vx5)))), (9, .v (.one (.own 0 none))), (10, .v (.one (.d (.int .i64 vx7))))]) 1

def z1013 (qx : List UInt8) (qx1 : List UInt8) (qx2 : Int) (vx1 : Int) : (List UInt8) × (List (List UInt8)) × Int → St
  | (vx2, vx3, vx4) => Mem.st ⟨[(0, ⟨9, 1, List.map encS vx3⟩)], []⟩ (tl [(0, .v (.one (.d (.str vx2)))), (1, .v (.one (.d (.str qx1)))), (2, .v (.one (.d (.int .i64 qx2)))), (3, .v (.one (.d (.int .i64 (IntKind.wrap .i64 ((imin vx1 (IntKind.wrap .i64 ((qx.length : Int) + 1))) - 1)))))), (9, .v (.one (.own 0 none))), (10, .v (.one (.d (.int .i64 vx4))))]) 1

theorem z1016 (qx : List UInt8) (qx1 : List UInt8) (qx2 : Int) (vx1 : Int) (s : (List UInt8) × (List (List UInt8)) × Int) (r : ((List UInt8) × (List (List UInt8)) × Int) ⊕ (((List UInt8) × (List (List UInt8)) × Int))) (hF : z1012 qx qx1 qx2 vx1 s = some r) : Awp prog 0 66 (cL (cL (cL (cR (cR (cR (cR (cR (cR (cR (cR (cB f187)))))))))))) (Out 0 (kk z1015) (SS (z1013 qx qx1 qx2 vx1) (z1014 qx qx1 qx2 vx1)) r) (z1013 qx qx1 qx2 vx1 s) := by
  obtain ⟨vx2, vx3, vx4⟩ := s
  unfold z1012 at hF
  refine awp_seq ?_
  refine awp_seq ?_
  refine awp_region ?_
  refine aR 3 ?_
  refine aE ?_
  refine cE hF (fun h8 hF => ?_) fun h8 hF => ?_
  · refine awp_true (by kernel_rfl) h8 ?_
    refine awp_skip ?_
    refine awp_block ?_
    refine awp_seq ?_
    refine bE hF fun vr1_1 h9 hF => ?_
    refine awp_region ?_
    refine aR 2 ?_
    refine aC (z974 h9) [] [] [] ?_
    refine aR 1 ?_
    refine aE ?_
    refine awp_seq ?_
    refine awp_seq ?_
    refine awp_region ?_
    refine aR 2 ?_
    refine aE ?_
    refine cE hF (fun h10 hF => ?_) fun h10 hF => ?_
    · refine awp_true (by kernel_rfl) h10 ?_
      refine awp_exit ?_
      exact oO hF [] [] rfl
    · refine awp_false (by kernel_rfl) h10 ?_
      refine awp_skip ?_
      refine awp_seq ?_
      refine bE hF fun vs2 h11 hF => ?_
      refine bE hF fun vy1 h12 hF => ?_
      refine awp_region ?_
      refine aR 6 ?_
      refine aX (x_sliceS h11) ?_
      refine aX (x_idxO encS 0 h12) ?_
      refine aX (x_stE encS vs2 h12) ?_
      refine aE ?_
      refine awp_seq ?_
      refine bE hF fun vs3 h13 hF => ?_
      refine awp_region ?_
      refine aR 5 ?_
      refine aX (x_sliceS h13) ?_
      refine aR 1 ?_
      refine aE ?_
      refine awp_region ?_
      refine aR 3 ?_
      refine aE ?_
      exact oO hF [] [] rfl
  · refine awp_false (by kernel_rfl) h8 ?_
    refine awp_exit ?_
    exact oO hF [] [] rfl

def z1005 (qx : List UInt8) (qx1 : List UInt8) (qx2 : Int) (qx3 : Int) (r : (List (List UInt8))) : TV × Mem := (.v (.one (.own 0 none)), ⟨[(0, ⟨9, 1, List.map encS r⟩)], []⟩)

theorem z1006 {qx : List UInt8} {qx1 : List UInt8} {qx2 : Int} {qx3 : Int} {r} (hF : z1004 qx qx1 qx2 qx3 = some r) : Holds prog 187 [.v (.one (.d (.str qx))), .v (.one (.d (.str qx1))), .v (.one (.d (.int .i64 qx2))), .v (.one (.d (.int .i64 qx3)))] ⟨[], []⟩ (Is (z1005 qx qx1 qx2 qx3 r)) := by
  unfold z1004 at hF
  refine holds_of_awp hΓ (fn := f187) (c := cB f187) (A := 0) (nx := 0) (by kernel_rfl) (by kernel_rfl) (by kernel_rfl) (by kernel_rfl) (by kernel_rfl) (by kernel_rfl) (lowc_of (by kernel_rfl)) ?_
  show Awp prog 0 66 (cB f187) _ _
  refine awp_seq ?_
  refine awp_region ?_
  refine aR 1 ?_
  refine aE ?_
  refine awp_seq ?_
  refine awp_seq ?_
  refine awp_region ?_
  refine aR 2 ?_
  refine aE ?_
  refine cE hF (fun h1 hF => ?_) fun h1 hF => ?_
  · refine awp_true (by kernel_rfl) h1 ?_
    refine awp_seq ?_
    refine awp_region ?_
    refine aR 1 ?_
    refine aE ?_
    refine awp_ret ?_
    exact oF hF [] [0]
  · refine awp_false (by kernel_rfl) h1 ?_
    refine awp_skip ?_
    refine awp_seq ?_
    refine awp_seq ?_
    refine awp_region ?_
    refine aR 2 ?_
    refine aE ?_
    refine cE hF (fun h2 hF => ?_) fun h2 hF => ?_
    · refine awp_true (by kernel_rfl) h2 ?_
      refine awp_seq ?_
      refine bE hF fun vr3 h3 hF => ?_
      refine awp_region ?_
      refine aR 2 ?_
      refine aC (z983 h3) [] [] [] ?_
      refine aR 1 ?_
      refine aE ?_
      refine awp_ret ?_
      exact oF hF [(0, 7000)] []
    · refine awp_false (by kernel_rfl) h2 ?_
      refine awp_skip ?_
      refine awp_seq ?_
      refine awp_to (st' := z1008 qx qx1 qx2 qx3) (oT [] []) ?_
      refine bE hF fun vx1 h6 hF => ?_
      refine awp_sub (z1011 qx qx1 qx2 qx3 h6) ?_
      refine awp_seq ?_
      refine awp_region ?_
      refine aR 6 ?_
      refine aE ?_
      refine awp_seq ?_
      refine gE hF fun h7 hF => ?_
      refine awp_region ?_
      refine aR 1 ?_
      refine aX (x_mk encS ([] : List UInt8) h7) ?_
      refine aR 1 ?_
      refine aE ?_
      refine awp_seq ?_
      refine awp_region ?_
      refine aR 3 ?_
      refine aE ?_
      refine awp_seq ?_
      refine awp_region ?_
      refine aR 1 ?_
      refine aE ?_
      refine awp_seq ?_
      refine awp_block ?_
      refine awp_to (st' := z1013 qx qx1 qx2 vx1 (qx, List.replicate (imin vx1 (IntKind.wrap .i64 ((qx.length : Int) + 1))).toNat ([] : List UInt8), 0)) (oT [(0, 7000)] []) ?_
      refine bE hF fun x h14 hF => ?_
      obtain ⟨vx5_1, vx6_1, vx7_1⟩ := x
      refine awp_sub (awp_loop' (z1013 qx qx1 qx2 vx1) z1015 (z1014 qx qx1 qx2 vx1) (by intro x; exact fun h => nomatch h) h14 (z1016 qx qx1 qx2 vx1)) ?_
      refine awp_seq ?_
      refine bE hF fun vy2 h15 hF => ?_
      refine awp_region ?_
      refine aR 3 ?_
      refine aX (x_idxO encS 0 h15) ?_
      refine aX (x_stE encS vx5_1 h15) ?_
      refine aE ?_
      refine awp_seq ?_
      refine gE hF fun h16 hF => ?_
      refine awp_region ?_
      refine aR 3 ?_
      refine aT encS 0 h16 rfl ?_
      refine aR 1 ?_
      refine aE ?_
      refine awp_ret ?_
      exact oF hF [(0, 8001)] []

/-! ### strings.Split -/
def z976 (qs : List UInt8) (qsep : List UInt8) (r : (List (List UInt8))) : TV × Mem := (.v (.one (.own 0 none)), ⟨[(0, ⟨9, 1, List.map encS r⟩)], []⟩)

theorem z977 {qs : List UInt8} {qsep : List UInt8} {r} (hF : z975 qs qsep = some r) : Holds prog 143 [.v (.one (.d (.str qs))), .v (.one (.d (.str qsep)))] ⟨[], []⟩ (Is (z976 qs qsep r)) := by
  unfold z975 at hF
  refine holds_of_awp hΓ (fn := f143) (c := cB f143) (A := 0) (nx := 0) (by kernel_rfl) (by kernel_rfl) (by kernel_rfl) (by kernel_rfl) (by kernel_rfl) (by kernel_rfl) (lowc_of (by kernel_rfl)) ?_
  show Awp prog 0 8 (cB f143) _ _
  refine awp_seq ?_
  refine awp_region ?_
  refine aR 1 ?_
  refine aE ?_
  refine awp_seq ?_
  refine bE hF fun vr h1 hF => ?_
  refine awp_region ?_
  refine aR 2 ?_
  refine aC (z1006 h1) [] [] [] ?_
  refine aR 1 ?_
  refine aE ?_
  refine awp_ret ?_
  exact oF hF [(0, 3000)] []

/-! ### internal/stringslite.HasPrefix -/
def z1026 : Bool → AEx
  | _ => .normal

def z1025 (qs : List UInt8) (qprefix : List UInt8) : Bool → St
  | vx => Mem.st ⟨[], []⟩ (tl [(4, .v (.one (.d (.bool vx))))]) 0

def z1024 (qs : List UInt8) (qprefix : List UInt8) : St := Mem.st ⟨[], []⟩ (tl [(0, .v (.one (.d (.str qs)))), (1, .v (.one (.d (.str qprefix))))]) 0

theorem z1027 (qs : List UInt8) (qprefix : List UInt8) {r} (hF : z1023 qs qprefix = some r) : Awp prog 0 18 (cL (cR (cB f278))) (Out 0 z1026 (z1025 qs qprefix) r) (z1024 qs qprefix) := by
  unfold z1023 at hF
  refine cE hF (fun h1 hF => ?_) fun h1 hF => ?_
  · refine bE hF fun vs h2 hF => ?_
    refine awp_region ?_
    refine aR 4 ?_
    refine aB h1 ?_
    refine aR 4 ?_
    refine aX (x_sliceS h2) ?_
    refine aR 4 ?_
    refine aE ?_
    exact oO hF [] [] rfl
  · refine awp_region ?_
    refine aR 4 ?_
    refine aB h1 ?_
    refine aR 9 ?_
    refine aE ?_
    exact oO hF [] [] rfl

def z1021 (qs : List UInt8) (qprefix : List UInt8) (r : Bool) : TV × Mem := (.v (.one (.d (.bool r))), ⟨[], []⟩)

theorem z1022 {qs : List UInt8} {qprefix : List UInt8} {r} (hF : z1020 qs qprefix = some r) : Holds prog 278 [.v (.one (.d (.str qs))), .v (.one (.d (.str qprefix)))] ⟨[], []⟩ (Is (z1021 qs qprefix r)) := by
  unfold z1020 at hF
  refine holds_of_awp hΓ (fn := f278) (c := cB f278) (A := 0) (nx := 0) (by kernel_rfl) (by kernel_rfl) (by kernel_rfl) (by kernel_rfl) (by kernel_rfl) (by kernel_rfl) (lowc_of (by kernel_rfl)) ?_
  show Awp prog 0 18 (cB f278) _ _
  refine awp_seq ?_
  refine awp_region ?_
  refine aR 1 ?_
  refine aE ?_
  refine awp_seq ?_
  refine awp_to (st' := z1024 qs qprefix) (oT [] []) ?_
  refine bE hF fun vx1 h3 hF => ?_
  refine awp_sub (z1027 qs qprefix h3) ?_
  refine awp_ret ?_
  exact oF hF [] []

/-! ### internal/stringslite.TrimPrefix -/
def z1040 (qs : List UInt8) (qprefix : List UInt8) (r : (List UInt8)) : TV × Mem := (.v (.one (.d (.str r))), ⟨[], []⟩)

theorem z1041 {qs : List UInt8} {qprefix : List UInt8} {r} (hF : z1039 qs qprefix = some r) : Holds prog 290 [.v (.one (.d (.str qs))), .v (.one (.d (.str qprefix)))] ⟨[], []⟩ (Is (z1040 qs qprefix r)) := by
  unfold z1039 at hF
  refine holds_of_awp hΓ (fn := f290) (c := cB f290) (A := 0) (nx := 0) (by kernel_rfl) (by kernel_rfl) (by kernel_rfl) (by kernel_rfl) (by kernel_rfl) (by kernel_rfl) (lowc_of (by kernel_rfl)) ?_
  show Awp prog 0 13 (cB f290) _ _
  refine awp_seq ?_
  refine awp_region ?_
  refine aR 1 ?_
  refine aE ?_
  refine awp_seq ?_
  refine awp_seq ?_
  refine bE hF fun vr h1 hF => ?_
  refine awp_region ?_
  refine aR 2 ?_
  refine aC (z1022 h1) [] [] [] ?_
  refine aE ?_
  refine cE hF (fun h2 hF => ?_) fun h2 hF => ?_
  · refine awp_true (by kernel_rfl) h2 ?_
    refine awp_seq ?_
    refine bE hF fun vs h3 hF => ?_
    refine awp_region ?_
    refine aR 3 ?_
    refine aX (x_sliceS h3) ?_
    refine aR 1 ?_
    refine aE ?_
    refine awp_ret ?_
    exact oF hF [] []
  · refine awp_false (by kernel_rfl) h2 ?_
    refine awp_skip ?_
    refine awp_seq ?_
    refine awp_region ?_
    refine aR 2 ?_
    refine aE ?_
    refine awp_ret ?_
    exact oF hF [] []

/-! ### strings.TrimPrefix -/
def z979 (qs : List UInt8) (qprefix : List UInt8) (r : (List UInt8)) : TV × Mem := (.v (.one (.d (.str r))), ⟨[], []⟩)

theorem z980 {qs : List UInt8} {qprefix : List UInt8} {r} (hF : z978 qs qprefix = some r) : Holds prog 251 [.v (.one (.d (.str qs))), .v (.one (.d (.str qprefix)))] ⟨[], []⟩ (Is (z979 qs qprefix r)) := by
  unfold z978 at hF
  refine holds_of_awp hΓ (fn := f251) (c := cB f251) (A := 0) (nx := 0) (by kernel_rfl) (by kernel_rfl) (by kernel_rfl) (by kernel_rfl) (by kernel_rfl) (by kernel_rfl) (lowc_of (by kernel_rfl)) ?_
  show Awp prog 0 8 (cB f251) _ _
  refine awp_seq ?_
  refine awp_region ?_
  refine aR 1 ?_
  refine aE ?_
  refine awp_seq ?_
  refine bE hF fun vr1 h1 hF => ?_
  refine awp_region ?_
  refine aR 2 ?_
  refine aC (z1041 h1) [] [] [] ?_
  refine aR 1 ?_
  refine aE ?_
  refine awp_ret ?_
  exact oF hF [] []

/-! ### internal/strconv.lower -/
def z918 (qc : Int) (r : Unit) : TV × Mem := (.v (.one (.d (.int .u8 (ibits .or .u8 qc 32)))), ⟨[], []⟩)

theorem z919 {qc : Int} {r} (hF : z917 qc = some r) : Holds prog 327 [.v (.one (.d (.int .u8 qc)))] ⟨[], []⟩ (Is (z918 qc r)) := by
  unfold z917 at hF
  refine holds_of_awp hΓ (fn := f327) (c := cB f327) (A := 0) (nx := 0) (by kernel_rfl) (by kernel_rfl) (by kernel_rfl) (by kernel_rfl) (by kernel_rfl) (by kernel_rfl) (lowc_of (by kernel_rfl)) ?_
  show Awp prog 0 5 (cB f327) _ _
  refine awp_seq ?_
  refine awp_region ?_
  refine aR 1 ?_
  refine aE ?_
  refine awp_seq ?_
  refine awp_region ?_
  refine aR 3 ?_
  refine aE ?_
  refine awp_ret ?_
  exact oF hF [] []

/-! ### internal/strconv.underscoreOK -/
def z931 : Bool → AEx
  | _ => .normal

def z930 (qx : List UInt8) : Bool → St
  | vx => Mem.st ⟨[], []⟩ (tl [(0, .v (.one (.d (.str qx)))), (3, .v (.one (.d (.int .i32 94)))), (4, .v (.one (.d (.int .i64 0)))), (18, .v (.one (.d (.bool vx))))]) 0

def z929 (qx : List UInt8) : St := Mem.st ⟨[], []⟩ (tl [(0, .v (.one (.d (.str qx)))), (3, .v (.one (.d (.int .i32 94)))), (4, .v (.one (.d (.int .i64 0))))]) 0

theorem z932 (qx : List UInt8) {r} (hF : z928 qx = some r) : Awp prog 0 94 (cL (cL (cR (cR (cR (cB f328)))))) (Out 0 z931 (z930 qx) r) (z929 qx) := by
  unfold z928 at hF
  refine cE hF (fun h1 hF => ?_) fun h1 hF => ?_
  · refine bE hF fun vc h2 hF => ?_
    refine cE hF (fun h3 hF => ?_) fun h3 hF => ?_
    · refine awp_region ?_
      refine aR 2 ?_
      refine aB h1 ?_
      refine aR 2 ?_
      refine aX (x_idxS h2) ?_
      refine aB h3 ?_
      refine aR 6 ?_
      refine aE ?_
      exact oO hF [] [] rfl
    · refine awp_region ?_
      refine aR 2 ?_
      refine aB h1 ?_
      refine aR 2 ?_
      refine aX (x_idxS h2) ?_
      refine aB h3 ?_
      refine aR 2 ?_
      refine aX (x_idxS h2) ?_
      refine aR 3 ?_
      refine aE ?_
      exact oO hF [] [] rfl
  · refine awp_region ?_
    refine aR 2 ?_
    refine aB h1 ?_
    refine aR 10 ?_
    refine aE ?_
    exact oO hF [] [] rfl

def z926 : (List UInt8) → AEx
  | _ => .normal

def z925 (qx : List UInt8) : (List UInt8) → St
  | vx2 => Mem.st ⟨[], []⟩ (tl [(0, .v (.one (.d (.str vx2)))), (3, .v (.one (.d (.int .i32 94)))), (4, .v (.one (.d (.int .i64 0))))]) 0

def z924 (qx : List UInt8) : St := Mem.st ⟨[], []⟩ (tl [(0, .v (.one (.d (.str qx)))), (3, .v (.one (.d (.int .i32 94)))), (4, .v (.one (.d (.int .i64 0))))]) 0

theorem z927 (qx : List UInt8) {r} (hF : z923 qx = some r) : Awp prog 0 94 (cL (cR (cR (cR (cB f328))))) (Out 0 z926 (z925 qx) r) (z924 qx) := by
  unfold z923 at hF
  refine awp_seq ?_
  refine awp_to (st' := z929 qx) (oT [] []) ?_
  refine bE hF fun vx1 h4 hF => ?_
  refine awp_sub (z932 qx h4) ?_
  refine cE hF (fun h5 hF => ?_) fun h5 hF => ?_
  · refine awp_true (by kernel_rfl) h5 ?_
    refine bE hF fun vs h6 hF => ?_
    refine awp_region ?_
    refine aR 1 ?_
    refine aX (x_sliceS h6) ?_
    refine aR 1 ?_
    refine aE ?_
    exact oO hF [] [] rfl
  · refine awp_false (by kernel_rfl) h5 ?_
    refine awp_skip ?_
    exact oO hF [] [] rfl

def z941 : Bool → AEx
  | _ => .normal

def z940 (vx2_1 : List UInt8) : Bool → St
  | vx3 => Mem.st ⟨[], []⟩ (tl [(0, .v (.one (.d (.str vx2_1)))), (3, .v (.one (.d (.int .i32 94)))), (4, .v (.one (.d (.int .i64 0)))), (5, .v (.one (.d (.bool false)))), (46, .v (.one (.d (.bool vx3))))]) 0

def z939 (vx2_1 : List UInt8) : St := Mem.st ⟨[], []⟩ (tl [(0, .v (.one (.d (.str vx2_1)))), (3, .v (.one (.d (.int .i32 94)))), (4, .v (.one (.d (.int .i64 0)))), (5, .v (.one (.d (.bool false))))]) 0

theorem z942 (vx2_1 : List UInt8) {r} (hF : z938 vx2_1 = some r) : Awp prog 0 94 (cL (cL (cR (cR (cR (cR (cR (cB f328)))))))) (Out 0 z941 (z940 vx2_1) r) (z939 vx2_1) := by
  unfold z938 at hF
  refine cE hF (fun h8 hF => ?_) fun h8 hF => ?_
  · refine bE hF fun vc1 h9 hF => ?_
    refine cE hF (fun h10 hF => ?_) fun h10 hF => ?_
    · refine bE hF fun vc2 h11 hF => ?_
      refine bE hF fun _ h12 hF => ?_
      refine cE hF (fun h13 hF => ?_) fun h13 hF => ?_
      · refine awp_region ?_
        refine aR 2 ?_
        refine aB h8 ?_
        refine aR 2 ?_
        refine aX (x_idxS h9) ?_
        refine aB h10 ?_
        refine aR 3 ?_
        refine aX (x_idxS h11) ?_
        refine aC (z919 h12) [] [] [] ?_
        refine aB h13 ?_
        refine aR 13 ?_
        refine aE ?_
        exact oO hF [] [] rfl
      · refine cE hF (fun h14 hF => ?_) fun h14 hF => ?_
        · refine awp_region ?_
          refine aR 2 ?_
          refine aB h8 ?_
          refine aR 2 ?_
          refine aX (x_idxS h9) ?_
          refine aB h10 ?_
          refine aR 3 ?_
          refine aX (x_idxS h11) ?_
          refine aC (z919 h12) [] [] [] ?_
          refine aB h13 ?_
          refine aR 2 ?_
          refine aX (x_idxS h11) ?_
          refine aC (z919 h12) [] [] [] ?_
          refine aB h14 ?_
          refine aR 8 ?_
          refine aE ?_
          exact oO hF [] [] rfl
        · refine awp_region ?_
          refine aR 2 ?_
          refine aB h8 ?_
          refine aR 2 ?_
          refine aX (x_idxS h9) ?_
          refine aB h10 ?_
          refine aR 3 ?_
          refine aX (x_idxS h11) ?_
          refine aC (z919 h12) [] [] [] ?_
          refine aB h13 ?_
          refine aR 2 ?_
          refine aX (x_idxS h11) ?_
          refine aC (z919 h12) [] [] [] ?_
          refine aB h14 ?_
          refine aR 3 ?_
          refine aX (x_idxS h11) ?_
          refine aC (z919 h12) [] [] [] ?_
          refine aR 3 ?_
          refine aE ?_
          exact oO hF [] [] rfl
    · refine awp_region ?_
      refine aR 2 ?_
      refine aB h8 ?_
      refine aR 2 ?_
      refine aX (x_idxS h9) ?_
      refine aB h10 ?_
      refine aR 19 ?_
      refine aE ?_
      exact oO hF [] [] rfl
  · refine awp_region ?_
    refine aR 2 ?_
    refine aB h8 ?_
    refine aR 23 ?_
    refine aE ?_
    exact oO hF [] [] rfl

def z936 : (Int × Int × Bool) → AEx
  | _ => .normal

def z935 (vx2_1 : List UInt8) : (Int × Int × Bool) → St
  | (vx4, vx5, vx6) => Mem.st ⟨[], []⟩ (tl [(0, .v (.one (.d (.str vx2_1)))), (3, .v (.one (.d (.int .i32 vx4)))), (4, .v (.one (.d (.int .i64 vx5)))), (5, .v (.one (.d (.bool vx6))))]) 0

def z934 (vx2_1 : List UInt8) : St := Mem.st ⟨[], []⟩ (tl [(0, .v (.one (.d (.str vx2_1)))), (3, .v (.one (.d (.int .i32 94)))), (4, .v (.one (.d (.int .i64 0)))), (5, .v (.one (.d (.bool false))))]) 0

theorem z937 (vx2_1 : List UInt8) {r} (hF : z933 vx2_1 = some r) : Awp prog 0 94 (cL (cR (cR (cR (cR (cR (cB f328))))))) (Out 0 z936 (z935 vx2_1) r) (z934 vx2_1) := by
  unfold z933 at hF
  refine awp_seq ?_
  refine awp_to (st' := z939 vx2_1) (oT [] []) ?_
  refine bE hF fun vx3_1 h15 hF => ?_
  refine awp_sub (z942 vx2_1 h15) ?_
  refine cE hF (fun h16 hF => ?_) fun h16 hF => ?_
  · refine awp_true (by kernel_rfl) h16 ?_
    refine awp_seq ?_
    refine awp_region ?_
    refine aR 1 ?_
    refine aE ?_
    refine awp_seq ?_
    refine awp_region ?_
    refine aR 1 ?_
    refine aE ?_
    refine bE hF fun vc3 h17 hF => ?_
    refine bE hF fun _ h18 hF => ?_
    refine awp_region ?_
    refine aR 1 ?_
    refine aX (x_idxS h17) ?_
    refine aC (z919 h18) [] [] [] ?_
    refine aR 2 ?_
    refine aE ?_
    exact oO hF [] [] rfl
  · refine awp_false (by kernel_rfl) h16 ?_
    refine awp_skip ?_
    exact oO hF [] [] rfl

def z956 : Bool → AEx
  | _ => .normal

def z955 (vx2_1 : List UInt8) (vx6_1 : Bool) (vx7 : Int) (vx8 : Int) : Bool → St
  | vx11 => Mem.st ⟨[], []⟩ (tl [(0, .v (.one (.d (.str vx2_1)))), (3, .v (.one (.d (.int .i32 vx7)))), (4, .v (.one (.d (.int .i64 vx8)))), (5, .v (.one (.d (.bool vx6_1)))), (83, .v (.one (.d (.bool vx11))))]) 0

def z954 (vx2_1 : List UInt8) (vx6_1 : Bool) (vx7 : Int) (vx8 : Int) : St := Mem.st ⟨[], []⟩ (tl [(0, .v (.one (.d (.str vx2_1)))), (3, .v (.one (.d (.int .i32 vx7)))), (4, .v (.one (.d (.int .i64 vx8)))), (5, .v (.one (.d (.bool vx6_1))))]) 0

theorem z957 (vx2_1 : List UInt8) (vx6_1 : Bool) (vx7 : Int) (vx8 : Int) {r} (hF : z953 vx2_1 vx6_1 vx8 = some r) : Awp prog 0 94 (cL (cL (cL (cL (cR (cL (cL (cL (cR (cR (cR (cR (cR (cR (cB f328))))))))))))))) (Out 0 z956 (z955 vx2_1 vx6_1 vx7 vx8) r) (z954 vx2_1 vx6_1 vx7 vx8) := by
  unfold z953 at hF
  refine bE hF fun vc6 h21 hF => ?_
  refine cE hF (fun h22 hF => ?_) fun h22 hF => ?_
  · refine cE hF (fun h23 hF => ?_) fun h23 hF => ?_
    · refine awp_region ?_
      refine aR 2 ?_
      refine aX (x_idxS h21) ?_
      refine aB h22 ?_
      refine aR 3 ?_
      refine aX (x_idxS h21) ?_
      refine aB h23 ?_
      refine aR 18 ?_
      refine aE ?_
      exact oO hF [] [] rfl
    · refine cE hF (fun h24 hF => ?_) fun h24 hF => ?_
      · refine bE hF fun _ h25 hF => ?_
        refine cE hF (fun h26 hF => ?_) fun h26 hF => ?_
        · refine awp_region ?_
          refine aR 2 ?_
          refine aX (x_idxS h21) ?_
          refine aB h22 ?_
          refine aR 3 ?_
          refine aX (x_idxS h21) ?_
          refine aB h23 ?_
          refine aR 2 ?_
          refine aB h24 ?_
          refine aR 3 ?_
          refine aX (x_idxS h21) ?_
          refine aC (z919 h25) [] [] [] ?_
          refine aB h26 ?_
          refine aR 4 ?_
          refine aX (x_idxS h21) ?_
          refine aC (z919 h25) [] [] [] ?_
          refine aR 3 ?_
          refine aE ?_
          exact oO hF [] [] rfl
        · refine awp_region ?_
          refine aR 2 ?_
          refine aX (x_idxS h21) ?_
          refine aB h22 ?_
          refine aR 3 ?_
          refine aX (x_idxS h21) ?_
          refine aB h23 ?_
          refine aR 2 ?_
          refine aB h24 ?_
          refine aR 3 ?_
          refine aX (x_idxS h21) ?_
          refine aC (z919 h25) [] [] [] ?_
          refine aB h26 ?_
          refine aR 9 ?_
          refine aE ?_
          exact oO hF [] [] rfl
      · refine awp_region ?_
        refine aR 2 ?_
        refine aX (x_idxS h21) ?_
        refine aB h22 ?_
        refine aR 3 ?_
        refine aX (x_idxS h21) ?_
        refine aB h23 ?_
        refine aR 2 ?_
        refine aB h24 ?_
        refine aR 15 ?_
        refine aE ?_
        exact oO hF [] [] rfl
  · refine cE hF (fun h27 hF => ?_) fun h27 hF => ?_
    · refine bE hF fun _ h28 hF => ?_
      refine cE hF (fun h29 hF => ?_) fun h29 hF => ?_
      · refine awp_region ?_
        refine aR 2 ?_
        refine aX (x_idxS h21) ?_
        refine aB h22 ?_
        refine aR 7 ?_
        refine aB h27 ?_
        refine aR 3 ?_
        refine aX (x_idxS h21) ?_
        refine aC (z919 h28) [] [] [] ?_
        refine aB h29 ?_
        refine aR 4 ?_
        refine aX (x_idxS h21) ?_
        refine aC (z919 h28) [] [] [] ?_
        refine aR 3 ?_
        refine aE ?_
        exact oO hF [] [] rfl
      · refine awp_region ?_
        refine aR 2 ?_
        refine aX (x_idxS h21) ?_
        refine aB h22 ?_
        refine aR 7 ?_
        refine aB h27 ?_
        refine aR 3 ?_
        refine aX (x_idxS h21) ?_
        refine aC (z919 h28) [] [] [] ?_
        refine aB h29 ?_
        refine aR 9 ?_
        refine aE ?_
        exact oO hF [] [] rfl
    · refine awp_region ?_
      refine aR 2 ?_
      refine aX (x_idxS h21) ?_
      refine aB h22 ?_
      refine aR 7 ?_
      refine aB h27 ?_
      refine aR 15 ?_
      refine aE ?_
      exact oO hF [] [] rfl

def z951 : Int ⊕ Unit → AEx
  | .inl _ => .normal
  | .inr _ => .ret

def z950 (vx2_1 : List UInt8) (vx6_1 : Bool) (vx7 : Int) (vx8 : Int) : Int ⊕ Unit → St
  | .inl vx12 => Mem.st ⟨[], []⟩ (tl [(0, .v (.one (.d (.str vx2_1)))), (3, .v (.one (.d (.int .i32 vx12)))), (4, .v (.one (.d (.int .i64 vx8)))), (5, .v (.one (.d (.bool vx6_1))))]) 0
  | .inr _ => Mem.st ⟨[], []⟩ (tl [(2, .v (.one (.d (.bool false))))]) 0

def z949 (vx2_1 : List UInt8) (vx6_1 : Bool) (vx7 : Int) (vx8 : Int) : St := Mem.st ⟨[], []⟩ (tl [(0, .v (.one (.d (.str vx2_1)))), (3, .v (.one (.d (.int .i32 vx7)))), (4, .v (.one (.d (.int .i64 vx8)))), (5, .v (.one (.d (.bool vx6_1))))]) 0

theorem z952 (vx2_1 : List UInt8) (vx6_1 : Bool) (vx7 : Int) (vx8 : Int) {r} (hF : z948 vx2_1 vx6_1 vx7 vx8 = some r) : Awp prog 0 94 (cL (cR (cL (cL (cL (cR (cR (cR (cR (cR (cR (cB f328)))))))))))) (Out 0 z951 (z950 vx2_1 vx6_1 vx7 vx8) r) (z949 vx2_1 vx6_1 vx7 vx8) := by
  unfold z948 at hF
  refine awp_block ?_
  refine awp_seq ?_
  refine awp_seq ?_
  refine awp_to (st' := z954 vx2_1 vx6_1 vx7 vx8) (oT [] []) ?_
  refine bE hF fun vx11_1 h30 hF => ?_
  refine awp_sub (z957 vx2_1 vx6_1 vx7 vx8 h30) ?_
  refine cE hF (fun h31 hF => ?_) fun h31 hF => ?_
  · refine awp_true (by kernel_rfl) h31 ?_
    refine awp_seq ?_
    refine awp_region ?_
    refine aR 1 ?_
    refine aE ?_
    refine awp_exit ?_
    exact oO hF [] [] rfl
  · refine awp_false (by kernel_rfl) h31 ?_
    refine awp_skip ?_
    refine awp_seq ?_
    refine awp_seq ?_
    refine bE hF fun vc7 h32 hF => ?_
    refine awp_region ?_
    refine aR 2 ?_
    refine aX (x_idxS h32) ?_
    refine aR 1 ?_
    refine aE ?_
    refine cE hF (fun h33 hF => ?_) fun h33 hF => ?_
    · refine awp_true (by kernel_rfl) h33 ?_
      refine awp_seq ?_
      refine awp_seq ?_
      refine awp_region ?_
      refine aR 2 ?_
      refine aE ?_
      refine cE hF (fun h34 hF => ?_) fun h34 hF => ?_
      · refine awp_true (by kernel_rfl) h34 ?_
        refine awp_seq ?_
        refine awp_region ?_
        refine aR 1 ?_
        refine aE ?_
        refine awp_ret ?_
        exact oO hF [] [] rfl
      · refine awp_false (by kernel_rfl) h34 ?_
        refine awp_skip ?_
        refine awp_seq ?_
        refine awp_region ?_
        refine aR 1 ?_
        refine aE ?_
        refine awp_exit ?_
        exact oO hF [] [] rfl
    · refine awp_false (by kernel_rfl) h33 ?_
      refine awp_skip ?_
      refine awp_seq ?_
      refine awp_seq ?_
      refine awp_region ?_
      refine aR 2 ?_
      refine aE ?_
      refine cE hF (fun h35 hF => ?_) fun h35 hF => ?_
      · refine awp_true (by kernel_rfl) h35 ?_
        refine awp_seq ?_
        refine awp_region ?_
        refine aR 1 ?_
        refine aE ?_
        refine awp_ret ?_
        exact oO hF [] [] rfl
      · refine awp_false (by kernel_rfl) h35 ?_
        refine awp_skip ?_
        refine awp_region ?_
        refine aR 1 ?_
        refine aE ?_
        exact oO hF [] [] rfl

def z946 : Int ⊕ Unit → AEx
  | .inl _ => .exit 0
  | .inr _ => .ret

def z945 (vx2_1 : List UInt8) (vx6_1 : Bool) : Int ⊕ Unit → St
  | .inl vx13 => Mem.st ⟨[], []⟩ (tl [(3, .v (.one (.d (.int .i32 vx13))))]) 0
  | .inr _ => Mem.st ⟨[], []⟩ (tl [(2, .v (.one (.d (.bool false))))]) 0

def z944 (vx2_1 : List UInt8) (vx6_1 : Bool) : Int × Int → St
  | (vx7, vx8) => Mem.st ⟨[], []⟩ (tl [(0, .v (.one (.d (.str vx2_1)))), (3, .v (.one (.d (.int .i32 vx7)))), (4, .v (.one (.d (.int .i64 vx8)))), (5, .v (.one (.d (.bool vx6_1))))]) 0

theorem z947 (vx2_1 : List UInt8) (vx6_1 : Bool) (s : Int × Int) (r : (Int × Int) ⊕ (Int ⊕ Unit)) (hF : z943 vx2_1 vx6_1 s = some r) : Awp prog 0 94 (cL (cL (cL (cR (cR (cR (cR (cR (cR (cB f328)))))))))) (Out 0 (kk z946) (SS (z944 vx2_1 vx6_1) (z945 vx2_1 vx6_1)) r) (z944 vx2_1 vx6_1 s) := by
  obtain ⟨vx7, vx8⟩ := s
  unfold z943 at hF
  refine awp_seq ?_
  refine awp_seq ?_
  refine awp_region ?_
  refine aR 4 ?_
  refine aE ?_
  refine cE hF (fun h20 hF => ?_) fun h20 hF => ?_
  · refine awp_true (by kernel_rfl) h20 ?_
    refine awp_skip ?_
    refine awp_seq ?_
    refine awp_to (st' := z949 vx2_1 vx6_1 vx7 vx8) (oT [] []) ?_
    refine bE hF fun x h36 hF => ?_
    rcases x with vx12_1 | _
    · refine awp_sub (z952 vx2_1 vx6_1 vx7 vx8 h36) ?_
      refine awp_region ?_
      refine aR 3 ?_
      refine aE ?_
      exact oO hF [] [] rfl
    · refine awp_sub (z952 vx2_1 vx6_1 vx7 vx8 h36) ?_
      exact oO hF [] [] rfl
  · refine awp_false (by kernel_rfl) h20 ?_
    refine awp_exit ?_
    exact oO hF [] [] rfl

def z921 (qx : List UInt8) (r : Bool) : TV × Mem := (.v (.one (.d (.bool r))), ⟨[], []⟩)

theorem z922 {qx : List UInt8} {r} (hF : z920 qx = some r) : Holds prog 328 [.v (.one (.d (.str qx)))] ⟨[], []⟩ (Is (z921 qx r)) := by
  unfold z920 at hF
  refine holds_of_awp hΓ (fn := f328) (c := cB f328) (A := 0) (nx := 0) (by kernel_rfl) (by kernel_rfl) (by kernel_rfl) (by kernel_rfl) (by kernel_rfl) (by kernel_rfl) (lowc_of (by kernel_rfl)) ?_
  show Awp prog 0 94 (cB f328) _ _
  refine awp_seq ?_
  refine awp_region ?_
  refine aR 1 ?_
  refine aE ?_
  refine awp_seq ?_
  refine awp_region ?_
  refine aR 1 ?_
  refine aE ?_
  refine awp_seq ?_
  refine awp_region ?_
  refine aR 1 ?_
  refine aE ?_
  refine awp_seq ?_
  refine awp_to (st' := z924 qx) (oT [] []) ?_
  refine bE hF fun vx2_1 h7 hF => ?_
  refine awp_sub (z927 qx h7) ?_
  refine awp_seq ?_
  refine awp_region ?_
  refine aR 1 ?_
  refine aE ?_
  refine awp_seq ?_
  refine awp_to (st' := z934 vx2_1) (oT [] []) ?_
  refine bE hF fun x h19 hF => ?_
  obtain ⟨vx4_1, vx5_1, vx6_1⟩ := x
  refine awp_sub (z937 vx2_1 h19) ?_
  refine awp_seq ?_
  refine awp_block ?_
  refine awp_to (st' := z944 vx2_1 vx6_1 (vx4_1, vx5_1)) (oT [] []) ?_
  refine bE hF fun x h37 hF => ?_
  rcases x with vx13_1 | _
  · refine awp_sub (awp_loop' (z944 vx2_1 vx6_1) z946 (z945 vx2_1 vx6_1) (by intro x; rcases x with x | x <;> exact fun h => nomatch h) h37 (z947 vx2_1 vx6_1)) ?_
    refine awp_seq ?_
    refine awp_region ?_
    refine aR 3 ?_
    refine aE ?_
    refine awp_ret ?_
    exact oF hF [] []
  · refine awp_sub (awp_loop' (z944 vx2_1 vx6_1) z946 (z945 vx2_1 vx6_1) (by intro x; rcases x with x | x <;> exact fun h => nomatch h) h37 (z947 vx2_1 vx6_1)) ?_
    exact oF hF [] []

/-! ### internal/strconv.ParseUint -/
def z880 : Bool → AEx
  | _ => .normal

def z879 (qx : List UInt8) (qx1 : Int) (qx2 : Int) : Bool → St
  | vx => Mem.st ⟨[], []⟩ (tl [(0, .v (.one (.d (.str qx)))), (1, .v (.one (.d (.int .i64 qx1)))), (2, .v (.one (.d (.int .i64 qx2)))), (8, .v (.one (.d (.bool (decide (qx1 = 0)))))), (9, .v (.one (.d (.str qx)))), (25, .v (.one (.d (.bool vx))))]) 0

def z878 (qx : List UInt8) (qx1 : Int) (qx2 : Int) : St := Mem.st ⟨[], []⟩ (tl [(0, .v (.one (.d (.str qx)))), (1, .v (.one (.d (.int .i64 qx1)))), (2, .v (.one (.d (.int .i64 qx2)))), (8, .v (.one (.d (.bool (decide (qx1 = 0)))))), (9, .v (.one (.d (.str qx))))]) 0

theorem z881 (qx : List UInt8) (qx1 : Int) (qx2 : Int) {r} (hF : z877 qx1 = some r) : Awp prog 0 172 (cL (cL (cL (cR (cR (cR (cR (cB f321)))))))) (Out 0 z880 (z879 qx qx1 qx2) r) (z878 qx qx1 qx2) := by
  unfold z877 at hF
  refine cE hF (fun h3 hF => ?_) fun h3 hF => ?_
  · refine awp_region ?_
    refine aR 1 ?_
    refine aB h3 ?_
    refine aR 5 ?_
    refine aE ?_
    exact oO hF [] [] rfl
  · refine awp_region ?_
    refine aR 1 ?_
    refine aB h3 ?_
    refine aR 5 ?_
    refine aE ?_
    exact oO hF [] [] rfl

def z885 : Bool → AEx
  | _ => .normal

def z884 (qx : List UInt8) (qx1 : Int) (qx2 : Int) : Bool → St
  | vx2 => Mem.st ⟨[], []⟩ (tl [(0, .v (.one (.d (.str qx)))), (2, .v (.one (.d (.int .i64 qx2)))), (8, .v (.one (.d (.bool (decide (qx1 = 0)))))), (9, .v (.one (.d (.str qx)))), (40, .v (.one (.d (.bool vx2))))]) 0

def z883 (qx : List UInt8) (qx1 : Int) (qx2 : Int) : St := Mem.st ⟨[], []⟩ (tl [(0, .v (.one (.d (.str qx)))), (2, .v (.one (.d (.int .i64 qx2)))), (8, .v (.one (.d (.bool (decide (qx1 = 0)))))), (9, .v (.one (.d (.str qx))))]) 0

theorem z886 (qx : List UInt8) (qx1 : Int) (qx2 : Int) {r} (hF : z882 qx = some r) : Awp prog 0 172 (cL (cL (cL (cR (cR (cL (cR (cR (cR (cL (cL (cR (cR (cR (cR (cB f321)))))))))))))))) (Out 0 z885 (z884 qx qx1 qx2) r) (z883 qx qx1 qx2) := by
  unfold z882 at hF
  refine cE hF (fun h9 hF => ?_) fun h9 hF => ?_
  · refine bE hF fun vc1 h10 hF => ?_
    refine bE hF fun _ h11 hF => ?_
    refine awp_region ?_
    refine aR 2 ?_
    refine aB h9 ?_
    refine aR 2 ?_
    refine aX (x_idxS h10) ?_
    refine aC (z919 h11) [] [] [] ?_
    refine aR 3 ?_
    refine aE ?_
    exact oO hF [] [] rfl
  · refine awp_region ?_
    refine aR 2 ?_
    refine aB h9 ?_
    refine aR 7 ?_
    refine aE ?_
    exact oO hF [] [] rfl

def z890 : Bool → AEx
  | _ => .normal

def z889 (qx : List UInt8) (qx1 : Int) (qx2 : Int) : Bool → St
  | vx3 => Mem.st ⟨[], []⟩ (tl [(0, .v (.one (.d (.str qx)))), (2, .v (.one (.d (.int .i64 qx2)))), (8, .v (.one (.d (.bool (decide (qx1 = 0)))))), (9, .v (.one (.d (.str qx)))), (52, .v (.one (.d (.bool vx3))))]) 0

def z888 (qx : List UInt8) (qx1 : Int) (qx2 : Int) : St := Mem.st ⟨[], []⟩ (tl [(0, .v (.one (.d (.str qx)))), (2, .v (.one (.d (.int .i64 qx2)))), (8, .v (.one (.d (.bool (decide (qx1 = 0)))))), (9, .v (.one (.d (.str qx))))]) 0

theorem z891 (qx : List UInt8) (qx1 : Int) (qx2 : Int) {r} (hF : z887 qx = some r) : Awp prog 0 172 (cL (cR (cR (cL (cL (cR (cR (cL (cR (cR (cR (cL (cL (cR (cR (cR (cR (cB f321)))))))))))))))))) (Out 0 z890 (z889 qx qx1 qx2) r) (z888 qx qx1 qx2) := by
  unfold z887 at hF
  refine cE hF (fun h15 hF => ?_) fun h15 hF => ?_
  · refine bE hF fun vc2 h16 hF => ?_
    refine bE hF fun _ h17 hF => ?_
    refine awp_region ?_
    refine aR 2 ?_
    refine aB h15 ?_
    refine aR 2 ?_
    refine aX (x_idxS h16) ?_
    refine aC (z919 h17) [] [] [] ?_
    refine aR 3 ?_
    refine aE ?_
    exact oO hF [] [] rfl
  · refine awp_region ?_
    refine aR 2 ?_
    refine aB h15 ?_
    refine aR 7 ?_
    refine aE ?_
    exact oO hF [] [] rfl

def z895 : Bool → AEx
  | _ => .normal

def z894 (qx : List UInt8) (qx1 : Int) (qx2 : Int) : Bool → St
  | vx4 => Mem.st ⟨[], []⟩ (tl [(0, .v (.one (.d (.str qx)))), (2, .v (.one (.d (.int .i64 qx2)))), (8, .v (.one (.d (.bool (decide (qx1 = 0)))))), (9, .v (.one (.d (.str qx)))), (64, .v (.one (.d (.bool vx4))))]) 0

def z893 (qx : List UInt8) (qx1 : Int) (qx2 : Int) : St := Mem.st ⟨[], []⟩ (tl [(0, .v (.one (.d (.str qx)))), (2, .v (.one (.d (.int .i64 qx2)))), (8, .v (.one (.d (.bool (decide (qx1 = 0)))))), (9, .v (.one (.d (.str qx))))]) 0

theorem z896 (qx : List UInt8) (qx1 : Int) (qx2 : Int) {r} (hF : z892 qx = some r) : Awp prog 0 172 (cL (cR (cR (cR (cR (cL (cL (cR (cR (cL (cR (cR (cR (cL (cL (cR (cR (cR (cR (cB f321)))))))))))))))))))) (Out 0 z895 (z894 qx qx1 qx2) r) (z893 qx qx1 qx2) := by
  unfold z892 at hF
  refine cE hF (fun h21 hF => ?_) fun h21 hF => ?_
  · refine bE hF fun vc3 h22 hF => ?_
    refine bE hF fun _ h23 hF => ?_
    refine awp_region ?_
    refine aR 2 ?_
    refine aB h21 ?_
    refine aR 2 ?_
    refine aX (x_idxS h22) ?_
    refine aC (z919 h23) [] [] [] ?_
    refine aR 3 ?_
    refine aE ?_
    exact oO hF [] [] rfl
  · refine awp_region ?_
    refine aR 2 ?_
    refine aB h21 ?_
    refine aR 7 ?_
    refine aE ?_
    exact oO hF [] [] rfl

def z875 : ((List UInt8) × Int) → AEx
  | _ => .normal

def z874 (qx : List UInt8) (qx1 : Int) (qx2 : Int) : ((List UInt8) × Int) → St
  | (vx5, vx6) => Mem.st ⟨[], []⟩ (tl [(0, .v (.one (.d (.str vx5)))), (1, .v (.one (.d (.int .i64 vx6)))), (2, .v (.one (.d (.int .i64 qx2)))), (8, .v (.one (.d (.bool (decide (qx1 = 0)))))), (9, .v (.one (.d (.str qx))))]) 0

def z873 (qx : List UInt8) (qx1 : Int) (qx2 : Int) : St := Mem.st ⟨[], []⟩ (tl [(0, .v (.one (.d (.str qx)))), (1, .v (.one (.d (.int .i64 qx1)))), (2, .v (.one (.d (.int .i64 qx2)))), (8, .v (.one (.d (.bool (decide (qx1 = 0)))))), (9, .v (.one (.d (.str qx))))]) 0

theorem z876 (qx : List UInt8) (qx1 : Int) (qx2 : Int) {r} (hF : z837 qx qx1 = some r) : Awp prog 0 172 (cL (cR (cR (cR (cR (cB f321)))))) (Out 0 z875 (z874 qx qx1 qx2) r) (z873 qx qx1 qx2) := by
  unfold z837 at hF
  refine awp_block ?_
  refine awp_seq ?_
  refine awp_to (st' := z878 qx qx1 qx2) (oT [] []) ?_
  refine bE hF fun vx1 h4 hF => ?_
  refine awp_sub (z881 qx qx1 qx2 h4) ?_
  refine cE hF (fun h5 hF => ?_) fun h5 hF => ?_
  · refine awp_true (by kernel_rfl) h5 ?_
    refine awp_skip ?_
    exact oO hF [] [] rfl
  · refine awp_false (by kernel_rfl) h5 ?_
    refine awp_seq ?_
    refine awp_region ?_
    refine aR 3 ?_
    refine aE ?_
    refine cE hF (fun h6 hF => ?_) fun h6 hF => ?_
    · refine awp_true (by kernel_rfl) h6 ?_
      refine awp_seq ?_
      refine awp_region ?_
      refine aR 1 ?_
      refine aE ?_
      refine awp_seq ?_
      refine bE hF fun vc h7 hF => ?_
      refine awp_region ?_
      refine aR 1 ?_
      refine aX (x_idxS h7) ?_
      refine aR 1 ?_
      refine aE ?_
      refine cE hF (fun h8 hF => ?_) fun h8 hF => ?_
      · refine awp_true (by kernel_rfl) h8 ?_
        refine awp_block ?_
        refine awp_seq ?_
        refine awp_to (st' := z883 qx qx1 qx2) (oT [] []) ?_
        refine bE hF fun vx2_1 h12 hF => ?_
        refine awp_sub (z886 qx qx1 qx2 h12) ?_
        refine cE hF (fun h13 hF => ?_) fun h13 hF => ?_
        · refine awp_true (by kernel_rfl) h13 ?_
          refine awp_seq ?_
          refine awp_region ?_
          refine aR 1 ?_
          refine aE ?_
          refine bE hF fun vs h14 hF => ?_
          refine awp_region ?_
          refine aR 1 ?_
          refine aX (x_sliceS h14) ?_
          refine aR 1 ?_
          refine aE ?_
          exact oO hF [] [] rfl
        · refine awp_false (by kernel_rfl) h13 ?_
          refine awp_seq ?_
          refine awp_to (st' := z888 qx qx1 qx2) (oT [] []) ?_
          refine bE hF fun vx3_1 h18 hF => ?_
          refine awp_sub (z891 qx qx1 qx2 h18) ?_
          refine cE hF (fun h19 hF => ?_) fun h19 hF => ?_
          · refine awp_true (by kernel_rfl) h19 ?_
            refine awp_seq ?_
            refine awp_region ?_
            refine aR 1 ?_
            refine aE ?_
            refine bE hF fun vs1 h20 hF => ?_
            refine awp_region ?_
            refine aR 1 ?_
            refine aX (x_sliceS h20) ?_
            refine aR 1 ?_
            refine aE ?_
            exact oO hF [] [] rfl
          · refine awp_false (by kernel_rfl) h19 ?_
            refine awp_seq ?_
            refine awp_to (st' := z893 qx qx1 qx2) (oT [] []) ?_
            refine bE hF fun vx4_1 h24 hF => ?_
            refine awp_sub (z896 qx qx1 qx2 h24) ?_
            refine cE hF (fun h25 hF => ?_) fun h25 hF => ?_
            · refine awp_true (by kernel_rfl) h25 ?_
              refine awp_seq ?_
              refine awp_region ?_
              refine aR 1 ?_
              refine aE ?_
              refine bE hF fun vs2 h26 hF => ?_
              refine awp_region ?_
              refine aR 1 ?_
              refine aX (x_sliceS h26) ?_
              refine aR 1 ?_
              refine aE ?_
              exact oO hF [] [] rfl
            · refine awp_false (by kernel_rfl) h25 ?_
              refine awp_seq ?_
              refine awp_region ?_
              refine aR 1 ?_
              refine aE ?_
              refine bE hF fun vs3 h27 hF => ?_
              refine awp_region ?_
              refine aR 1 ?_
              refine aX (x_sliceS h27) ?_
              refine aR 1 ?_
              refine aE ?_
              exact oO hF [] [] rfl
      · refine awp_false (by kernel_rfl) h8 ?_
        refine awp_skip ?_
        exact oO hF [] [] rfl
    · refine awp_false (by kernel_rfl) h6 ?_
      refine awp_seq ?_
      exact nE hF

def z905 : Bool → AEx
  | _ => .normal

def z904 (qx : List UInt8) (qx1 : Int) (qx2 : Int) (vx5_1 : List UInt8) (vx6_1 : Int) : Bool → St
  | vx7 => Mem.st ⟨[], []⟩ (tl [(0, .v (.one (.d (.str vx5_1)))), (1, .v (.one (.d (.int .i64 vx6_1)))), (2, .v (.one (.d (.int .i64 qx2)))), (8, .v (.one (.d (.bool (decide (qx1 = 0)))))), (9, .v (.one (.d (.str qx)))), (83, .v (.one (.d (.bool vx7))))]) 0

def z903 (qx : List UInt8) (qx1 : Int) (qx2 : Int) (vx5_1 : List UInt8) (vx6_1 : Int) : St := Mem.st ⟨[], []⟩ (tl [(0, .v (.one (.d (.str vx5_1)))), (1, .v (.one (.d (.int .i64 vx6_1)))), (2, .v (.one (.d (.int .i64 qx2)))), (8, .v (.one (.d (.bool (decide (qx1 = 0)))))), (9, .v (.one (.d (.str qx))))]) 0

theorem z906 (qx : List UInt8) (qx1 : Int) (qx2 : Int) (vx5_1 : List UInt8) (vx6_1 : Int) {r} (hF : z902 qx2 = some r) : Awp prog 0 172 (cL (cR (cR (cL (cR (cR (cR (cR (cR (cB f321)))))))))) (Out 0 z905 (z904 qx qx1 qx2 vx5_1 vx6_1) r) (z903 qx qx1 qx2 vx5_1 vx6_1) := by
  unfold z902 at hF
  refine cE hF (fun h31 hF => ?_) fun h31 hF => ?_
  · refine awp_region ?_
    refine aR 1 ?_
    refine aB h31 ?_
    refine aR 4 ?_
    refine aE ?_
    exact oO hF [] [] rfl
  · refine awp_region ?_
    refine aR 1 ?_
    refine aB h31 ?_
    refine aR 4 ?_
    refine aE ?_
    exact oO hF [] [] rfl

def z900 : Int → AEx
  | _ => .normal

def z899 (qx : List UInt8) (qx1 : Int) (qx2 : Int) (vx5_1 : List UInt8) (vx6_1 : Int) : Int → St
  | vx8 => Mem.st ⟨[], []⟩ (tl [(0, .v (.one (.d (.str vx5_1)))), (1, .v (.one (.d (.int .i64 vx6_1)))), (2, .v (.one (.d (.int .i64 vx8)))), (8, .v (.one (.d (.bool (decide (qx1 = 0)))))), (9, .v (.one (.d (.str qx))))]) 0

def z898 (qx : List UInt8) (qx1 : Int) (qx2 : Int) (vx5_1 : List UInt8) (vx6_1 : Int) : St := Mem.st ⟨[], []⟩ (tl [(0, .v (.one (.d (.str vx5_1)))), (1, .v (.one (.d (.int .i64 vx6_1)))), (2, .v (.one (.d (.int .i64 qx2)))), (8, .v (.one (.d (.bool (decide (qx1 = 0)))))), (9, .v (.one (.d (.str qx))))]) 0

theorem z901 (qx : List UInt8) (qx1 : Int) (qx2 : Int) (vx5_1 : List UInt8) (vx6_1 : Int) {r} (hF : z897 qx2 = some r) : Awp prog 0 172 (cL (cR (cR (cR (cR (cR (cB f321))))))) (Out 0 z900 (z899 qx qx1 qx2 vx5_1 vx6_1) r) (z898 qx qx1 qx2 vx5_1 vx6_1) := by
  unfold z897 at hF
  refine awp_seq ?_
  refine awp_region ?_
  refine aR 2 ?_
  refine aE ?_
  refine cE hF (fun h30 hF => ?_) fun h30 hF => ?_
  · refine awp_true (by kernel_rfl) h30 ?_
    refine awp_region ?_
    refine aR 1 ?_
    refine aE ?_
    exact oO hF [] [] rfl
  · refine awp_false (by kernel_rfl) h30 ?_
    refine awp_seq ?_
    refine awp_to (st' := z903 qx qx1 qx2 vx5_1 vx6_1) (oT [] []) ?_
    refine bE hF fun vx7_1 h32 hF => ?_
    refine awp_sub (z906 qx qx1 qx2 vx5_1 vx6_1 h32) ?_
    refine cE hF (fun h33 hF => ?_) fun h33 hF => ?_
    · refine awp_true (by kernel_rfl) h33 ?_
      refine awp_seq ?_
      exact nE hF
    · refine awp_false (by kernel_rfl) h33 ?_
      refine awp_skip ?_
      exact oO hF [] [] rfl

def z910 : Int → AEx
  | _ => .normal

def z909 (qx : List UInt8) (qx1 : Int) (vx5_1 : List UInt8) (vx6_1 : Int) (vx8_1 : Int) : Int → St
  | vx9 => Mem.st ⟨[], []⟩ (tl [(0, .v (.one (.d (.str vx5_1)))), (1, .v (.one (.d (.int .i64 vx6_1)))), (2, .v (.one (.d (.int .i64 vx8_1)))), (8, .v (.one (.d (.bool (decide (qx1 = 0)))))), (9, .v (.one (.d (.str qx)))), (10, .v (.one (.d (.int .u64 vx9))))]) 0

def z908 (qx : List UInt8) (qx1 : Int) (vx5_1 : List UInt8) (vx6_1 : Int) (vx8_1 : Int) : St := Mem.st ⟨[], []⟩ (tl [(0, .v (.one (.d (.str vx5_1)))), (1, .v (.one (.d (.int .i64 vx6_1)))), (2, .v (.one (.d (.int .i64 vx8_1)))), (8, .v (.one (.d (.bool (decide (qx1 = 0)))))), (9, .v (.one (.d (.str qx))))]) 0

theorem z911 (qx : List UInt8) (qx1 : Int) (vx5_1 : List UInt8) (vx6_1 : Int) (vx8_1 : Int) {r} (hF : z907 vx6_1 = some r) : Awp prog 0 172 (cL (cR (cR (cR (cR (cR (cR (cR (cB f321))))))))) (Out 0 z910 (z909 qx qx1 vx5_1 vx6_1 vx8_1) r) (z908 qx qx1 vx5_1 vx6_1 vx8_1) := by
  unfold z907 at hF
  refine awp_seq ?_
  refine awp_region ?_
  refine aR 1 ?_
  refine aE ?_
  refine awp_block ?_
  refine awp_seq ?_
  refine awp_region ?_
  refine aR 2 ?_
  refine aE ?_
  refine cE hF (fun h36 hF => ?_) fun h36 hF => ?_
  · refine awp_true (by kernel_rfl) h36 ?_
    refine awp_region ?_
    refine aR 1 ?_
    refine aE ?_
    exact oO hF [] [] rfl
  · refine awp_false (by kernel_rfl) h36 ?_
    refine awp_seq ?_
    refine awp_region ?_
    refine aR 2 ?_
    refine aE ?_
    refine cE hF (fun h37 hF => ?_) fun h37 hF => ?_
    · refine awp_true (by kernel_rfl) h37 ?_
      refine awp_region ?_
      refine aR 1 ?_
      refine aE ?_
      exact oO hF [] [] rfl
    · refine awp_false (by kernel_rfl) h37 ?_
      refine gE hF fun h38 hF => ?_
      refine awp_region ?_
      refine aR 2 ?_
      refine aX (x_quo h38) ?_
      refine aR 2 ?_
      refine aE ?_
      exact oO hF [] [] rfl

def z851 : Bool → AEx
  | _ => .normal

def z850 (qx : List UInt8) (qx1 : Int) (vx5_1 : List UInt8) (vx6_1 : Int) (vx8_1 : Int) (vx9_1 : Int) (vx10 : Bool) (vx11 : Int) (vx12 : Int) (vy1 : Int) : Bool → St
  | vx20 => Mem.st ⟨[], []⟩ (tl [(1, .v (.one (.d (.int .i64 vx6_1)))), (8, .v (.one (.d (.bool (decide (qx1 = 0)))))), (9, .v (.one (.d (.str qx)))), (10, .v (.one (.d (.int .u64 vx9_1)))), (11, .v (.one (.d (.int .u64 (IntKind.wrap .u64 ((ishl .u64 1 (IntKind.wrap .u64 (vx8_1))) - 1)))))), (12, .v (.one (.d (.bool vx10)))), (13, .v (.one (.d (.int .u64 vx11)))), (15, .v (.one (.d (.int .u8 vy1)))), (99, .v (.one (.d (.lst (List.map (encI .u8) (bytesD vx5_1)))))), (100, .v (.one (.d (.int .i64 ((bytesD vx5_1).length : Int))))), (101, .v (.one (.d (.int .i64 vx12)))), (106, .v (.one (.d (.bool vx20))))]) 0

def z849 (qx : List UInt8) (qx1 : Int) (vx5_1 : List UInt8) (vx6_1 : Int) (vx8_1 : Int) (vx9_1 : Int) (vx10 : Bool) (vx11 : Int) (vx12 : Int) (vy1 : Int) : St := Mem.st ⟨[], []⟩ (tl [(1, .v (.one (.d (.int .i64 vx6_1)))), (8, .v (.one (.d (.bool (decide (qx1 = 0)))))), (9, .v (.one (.d (.str qx)))), (10, .v (.one (.d (.int .u64 vx9_1)))), (11, .v (.one (.d (.int .u64 (IntKind.wrap .u64 ((ishl .u64 1 (IntKind.wrap .u64 (vx8_1))) - 1)))))), (12, .v (.one (.d (.bool vx10)))), (13, .v (.one (.d (.int .u64 vx11)))), (15, .v (.one (.d (.int .u8 vy1)))), (99, .v (.one (.d (.lst (List.map (encI .u8) (bytesD vx5_1)))))), (100, .v (.one (.d (.int .i64 ((bytesD vx5_1).length : Int))))), (101, .v (.one (.d (.int .i64 vx12))))]) 0

theorem z852 (qx : List UInt8) (qx1 : Int) (vx5_1 : List UInt8) (vx6_1 : Int) (vx8_1 : Int) (vx9_1 : Int) (vx10 : Bool) (vx11 : Int) (vx12 : Int) (vy1 : Int) {r} (hF : z848 qx1 vy1 = some r) : Awp prog 0 172 (cL (cL (cL (cR (cR (cL (cL (cR (cR (cL (cL (cR (cL (cR (cR (cR (cR (cR (cR (cR (cR (cR (cR (cR (cB f321))))))))))))))))))))))))) (Out 0 z851 (z850 qx qx1 vx5_1 vx6_1 vx8_1 vx9_1 vx10 vx11 vx12 vy1) r) (z849 qx qx1 vx5_1 vx6_1 vx8_1 vx9_1 vx10 vx11 vx12 vy1) := by
  unfold z848 at hF
  refine cE hF (fun h43 hF => ?_) fun h43 hF => ?_
  · refine awp_region ?_
    refine aR 1 ?_
    refine aB h43 ?_
    refine aR 4 ?_
    refine aE ?_
    exact oO hF [] [] rfl
  · refine awp_region ?_
    refine aR 1 ?_
    refine aB h43 ?_
    refine aR 4 ?_
    refine aE ?_
    exact oO hF [] [] rfl

def z856 : Bool → AEx
  | _ => .normal

def z855 (qx : List UInt8) (qx1 : Int) (vx5_1 : List UInt8) (vx6_1 : Int) (vx8_1 : Int) (vx9_1 : Int) (vx10 : Bool) (vx11 : Int) (vx12 : Int) (vy1 : Int) : Bool → St
  | vx21 => Mem.st ⟨[], []⟩ (tl [(1, .v (.one (.d (.int .i64 vx6_1)))), (8, .v (.one (.d (.bool (decide (qx1 = 0)))))), (9, .v (.one (.d (.str qx)))), (10, .v (.one (.d (.int .u64 vx9_1)))), (11, .v (.one (.d (.int .u64 (IntKind.wrap .u64 ((ishl .u64 1 (IntKind.wrap .u64 (vx8_1))) - 1)))))), (12, .v (.one (.d (.bool vx10)))), (13, .v (.one (.d (.int .u64 vx11)))), (15, .v (.one (.d (.int .u8 vy1)))), (99, .v (.one (.d (.lst (List.map (encI .u8) (bytesD vx5_1)))))), (100, .v (.one (.d (.int .i64 ((bytesD vx5_1).length : Int))))), (101, .v (.one (.d (.int .i64 vx12)))), (112, .v (.one (.d (.bool vx21))))]) 0

def z854 (qx : List UInt8) (qx1 : Int) (vx5_1 : List UInt8) (vx6_1 : Int) (vx8_1 : Int) (vx9_1 : Int) (vx10 : Bool) (vx11 : Int) (vx12 : Int) (vy1 : Int) : St := Mem.st ⟨[], []⟩ (tl [(1, .v (.one (.d (.int .i64 vx6_1)))), (8, .v (.one (.d (.bool (decide (qx1 = 0)))))), (9, .v (.one (.d (.str qx)))), (10, .v (.one (.d (.int .u64 vx9_1)))), (11, .v (.one (.d (.int .u64 (IntKind.wrap .u64 ((ishl .u64 1 (IntKind.wrap .u64 (vx8_1))) - 1)))))), (12, .v (.one (.d (.bool vx10)))), (13, .v (.one (.d (.int .u64 vx11)))), (15, .v (.one (.d (.int .u8 vy1)))), (99, .v (.one (.d (.lst (List.map (encI .u8) (bytesD vx5_1)))))), (100, .v (.one (.d (.int .i64 ((bytesD vx5_1).length : Int))))), (101, .v (.one (.d (.int .i64 vx12))))]) 0

theorem z857 (qx : List UInt8) (qx1 : Int) (vx5_1 : List UInt8) (vx6_1 : Int) (vx8_1 : Int) (vx9_1 : Int) (vx10 : Bool) (vx11 : Int) (vx12 : Int) (vy1 : Int) {r} (hF : z853 vy1 = some r) : Awp prog 0 172 (cL (cR (cR (cL (cL (cR (cR (cL (cL (cR (cR (cL (cL (cR (cL (cR (cR (cR (cR (cR (cR (cR (cR (cR (cR (cR (cB f321))))))))))))))))))))))))))) (Out 0 z856 (z855 qx qx1 vx5_1 vx6_1 vx8_1 vx9_1 vx10 vx11 vx12 vy1) r) (z854 qx qx1 vx5_1 vx6_1 vx8_1 vx9_1 vx10 vx11 vx12 vy1) := by
  unfold z853 at hF
  refine cE hF (fun h46 hF => ?_) fun h46 hF => ?_
  · refine awp_region ?_
    refine aR 1 ?_
    refine aB h46 ?_
    refine aR 5 ?_
    refine aE ?_
    exact oO hF [] [] rfl
  · refine awp_region ?_
    refine aR 1 ?_
    refine aB h46 ?_
    refine aR 5 ?_
    refine aE ?_
    exact oO hF [] [] rfl

def z861 : Bool → AEx
  | _ => .normal

def z860 (qx : List UInt8) (qx1 : Int) (vx5_1 : List UInt8) (vx6_1 : Int) (vx8_1 : Int) (vx9_1 : Int) (vx10 : Bool) (vx11 : Int) (vx12 : Int) (vy1 : Int) : Bool → St
  | vx22 => Mem.st ⟨[], []⟩ (tl [(1, .v (.one (.d (.int .i64 vx6_1)))), (8, .v (.one (.d (.bool (decide (qx1 = 0)))))), (9, .v (.one (.d (.str qx)))), (10, .v (.one (.d (.int .u64 vx9_1)))), (11, .v (.one (.d (.int .u64 (IntKind.wrap .u64 ((ishl .u64 1 (IntKind.wrap .u64 (vx8_1))) - 1)))))), (12, .v (.one (.d (.bool vx10)))), (13, .v (.one (.d (.int .u64 vx11)))), (15, .v (.one (.d (.int .u8 vy1)))), (99, .v (.one (.d (.lst (List.map (encI .u8) (bytesD vx5_1)))))), (100, .v (.one (.d (.int .i64 ((bytesD vx5_1).length : Int))))), (101, .v (.one (.d (.int .i64 vx12)))), (121, .v (.one (.d (.bool vx22))))]) 0

def z859 (qx : List UInt8) (qx1 : Int) (vx5_1 : List UInt8) (vx6_1 : Int) (vx8_1 : Int) (vx9_1 : Int) (vx10 : Bool) (vx11 : Int) (vx12 : Int) (vy1 : Int) : St := Mem.st ⟨[], []⟩ (tl [(1, .v (.one (.d (.int .i64 vx6_1)))), (8, .v (.one (.d (.bool (decide (qx1 = 0)))))), (9, .v (.one (.d (.str qx)))), (10, .v (.one (.d (.int .u64 vx9_1)))), (11, .v (.one (.d (.int .u64 (IntKind.wrap .u64 ((ishl .u64 1 (IntKind.wrap .u64 (vx8_1))) - 1)))))), (12, .v (.one (.d (.bool vx10)))), (13, .v (.one (.d (.int .u64 vx11)))), (15, .v (.one (.d (.int .u8 vy1)))), (99, .v (.one (.d (.lst (List.map (encI .u8) (bytesD vx5_1)))))), (100, .v (.one (.d (.int .i64 ((bytesD vx5_1).length : Int))))), (101, .v (.one (.d (.int .i64 vx12))))]) 0

theorem z862 (qx : List UInt8) (qx1 : Int) (vx5_1 : List UInt8) (vx6_1 : Int) (vx8_1 : Int) (vx9_1 : Int) (vx10 : Bool) (vx11 : Int) (vx12 : Int) (vy1 : Int) {r} (hF : z858 vy1 = some r) : Awp prog 0 172 (cL (cR (cR (cR (cR (cL (cL (cR (cR (cL (cL (cR (cR (cL (cL (cR (cL (cR (cR (cR (cR (cR (cR (cR (cR (cR (cR (cR (cB f321))))))))))))))))))))))))))))) (Out 0 z861 (z860 qx qx1 vx5_1 vx6_1 vx8_1 vx9_1 vx10 vx11 vx12 vy1) r) (z859 qx qx1 vx5_1 vx6_1 vx8_1 vx9_1 vx10 vx11 vx12 vy1) := by
  unfold z858 at hF
  refine bE hF fun _ h49 hF => ?_
  refine cE hF (fun h50 hF => ?_) fun h50 hF => ?_
  · refine awp_region ?_
    refine aR 1 ?_
    refine aC (z919 h49) [] [] [] ?_
    refine aB h50 ?_
    refine aR 2 ?_
    refine aC (z919 h49) [] [] [] ?_
    refine aR 3 ?_
    refine aE ?_
    exact oO hF [] [] rfl
  · refine awp_region ?_
    refine aR 1 ?_
    refine aC (z919 h49) [] [] [] ?_
    refine aB h50 ?_
    refine aR 6 ?_
    refine aE ?_
    exact oO hF [] [] rfl

def z846 : Int ⊕ Unit → AEx
  | .inl _ => .normal
  | .inr _ => .exit 4

def z845 (qx : List UInt8) (qx1 : Int) (vx5_1 : List UInt8) (vx6_1 : Int) (vx8_1 : Int) (vx9_1 : Int) (vx10 : Bool) (vx11 : Int) (vx12 : Int) (vy1 : Int) : Int ⊕ Unit → St
  | .inl vx23 => Mem.st ⟨[], []⟩ (tl [(1, .v (.one (.d (.int .i64 vx6_1)))), (8, .v (.one (.d (.bool (decide (qx1 = 0)))))), (9, .v (.one (.d (.str qx)))), (10, .v (.one (.d (.int .u64 vx9_1)))), (11, .v (.one (.d (.int .u64 (IntKind.wrap .u64 ((ishl .u64 1 (IntKind.wrap .u64 (vx8_1))) - 1)))))), (12, .v (.one (.d (.bool vx10)))), (13, .v (.one (.d (.int .u64 vx11)))), (16, .v (.one (.d (.int .u8 vx23)))), (99, .v (.one (.d (.lst (List.map (encI .u8) (bytesD vx5_1)))))), (100, .v (.one (.d (.int .i64 ((bytesD vx5_1).length : Int))))), (101, .v (.one (.d (.int .i64 vx12))))]) 0
  | .inr _ => Mem.st ⟨[], []⟩ (tl [(1, .v (.one (.d (.int .i64 vx6_1)))), (8, .v (.one (.d (.bool (decide (qx1 = 0)))))), (9, .v (.one (.d (.str qx)))), (10, .v (.one (.d (.int .u64 vx9_1)))), (11, .v (.one (.d (.int .u64 (IntKind.wrap .u64 ((ishl .u64 1 (IntKind.wrap .u64 (vx8_1))) - 1)))))), (12, .v (.one (.d (.bool true)))), (13, .v (.one (.d (.int .u64 vx11)))), (99, .v (.one (.d (.lst (List.map (encI .u8) (bytesD vx5_1)))))), (100, .v (.one (.d (.int .i64 ((bytesD vx5_1).length : Int))))), (101, .v (.one (.d (.int .i64 vx12))))]) 0

def z844 (qx : List UInt8) (qx1 : Int) (vx5_1 : List UInt8) (vx6_1 : Int) (vx8_1 : Int) (vx9_1 : Int) (vx10 : Bool) (vx11 : Int) (vx12 : Int) (vy1 : Int) : St := Mem.st ⟨[], []⟩ (tl [(1, .v (.one (.d (.int .i64 vx6_1)))), (8, .v (.one (.d (.bool (decide (qx1 = 0)))))), (9, .v (.one (.d (.str qx)))), (10, .v (.one (.d (.int .u64 vx9_1)))), (11, .v (.one (.d (.int .u64 (IntKind.wrap .u64 ((ishl .u64 1 (IntKind.wrap .u64 (vx8_1))) - 1)))))), (12, .v (.one (.d (.bool vx10)))), (13, .v (.one (.d (.int .u64 vx11)))), (15, .v (.one (.d (.int .u8 vy1)))), (99, .v (.one (.d (.lst (List.map (encI .u8) (bytesD vx5_1)))))), (100, .v (.one (.d (.int .i64 ((bytesD vx5_1).length : Int))))), (101, .v (.one (.d (.int .i64 vx12))))]) 0

theorem z847 (qx : List UInt8) (qx1 : Int) (vx5_1 : List UInt8) (vx6_1 : Int) (vx8_1 : Int) (vx9_1 : Int) (vx10 : Bool) (vx11 : Int) (vx12 : Int) (vy1 : Int) {r} (hF : z843 qx1 vy1 = some r) : Awp prog 0 172 (cL (cR (cR (cL (cL (cR (cR (cL (cL (cR (cL (cR (cR (cR (cR (cR (cR (cR (cR (cR (cR (cR (cB f321))))))))))))))))))))))) (Out 0 z846 (z845 qx qx1 vx5_1 vx6_1 vx8_1 vx9_1 vx10 vx11 vx12 vy1) r) (z844 qx qx1 vx5_1 vx6_1 vx8_1 vx9_1 vx10 vx11 vx12 vy1) := by
  unfold z843 at hF
  refine awp_block ?_
  refine awp_seq ?_
  refine awp_to (st' := z849 qx qx1 vx5_1 vx6_1 vx8_1 vx9_1 vx10 vx11 vx12 vy1) (oT [] []) ?_
  refine bE hF fun vx20_1 h44 hF => ?_
  refine awp_sub (z852 qx qx1 vx5_1 vx6_1 vx8_1 vx9_1 vx10 vx11 vx12 vy1 h44) ?_
  refine cE hF (fun h45 hF => ?_) fun h45 hF => ?_
  · refine awp_true (by kernel_rfl) h45 ?_
    refine awp_seq ?_
    refine awp_region ?_
    refine aR 1 ?_
    refine aE ?_
    refine awp_exit ?_
    exact oO hF [] [] rfl
  · refine awp_false (by kernel_rfl) h45 ?_
    refine awp_seq ?_
    refine awp_to (st' := z854 qx qx1 vx5_1 vx6_1 vx8_1 vx9_1 vx10 vx11 vx12 vy1) (oT [] []) ?_
    refine bE hF fun vx21_1 h47 hF => ?_
    refine awp_sub (z857 qx qx1 vx5_1 vx6_1 vx8_1 vx9_1 vx10 vx11 vx12 vy1 h47) ?_
    refine cE hF (fun h48 hF => ?_) fun h48 hF => ?_
    · refine awp_true (by kernel_rfl) h48 ?_
      refine awp_region ?_
      refine aR 3 ?_
      refine aE ?_
      exact oO hF [] [] rfl
    · refine awp_false (by kernel_rfl) h48 ?_
      refine awp_seq ?_
      refine awp_to (st' := z859 qx qx1 vx5_1 vx6_1 vx8_1 vx9_1 vx10 vx11 vx12 vy1) (oT [] []) ?_
      refine bE hF fun vx22_1 h51 hF => ?_
      refine awp_sub (z862 qx qx1 vx5_1 vx6_1 vx8_1 vx9_1 vx10 vx11 vx12 vy1 h51) ?_
      refine cE hF (fun h52 hF => ?_) fun h52 hF => ?_
      · refine awp_true (by kernel_rfl) h52 ?_
        refine bE hF fun _ h53 hF => ?_
        refine awp_region ?_
        refine aR 1 ?_
        refine aC (z919 h53) [] [] [] ?_
        refine aR 3 ?_
        refine aE ?_
        exact oO hF [] [] rfl
      · refine awp_false (by kernel_rfl) h52 ?_
        refine awp_seq ?_
        exact nE hF

def z866 : Bool → AEx
  | _ => .normal

def z865 (qx : List UInt8) (qx1 : Int) (vx5_1 : List UInt8) (vx6_1 : Int) (vx8_1 : Int) (vx9_1 : Int) (vx10 : Bool) (vx11 : Int) (vx12 : Int) (vx23_1 : Int) : Bool → St
  | vx24 => Mem.st ⟨[], []⟩ (tl [(1, .v (.one (.d (.int .i64 vx6_1)))), (8, .v (.one (.d (.bool (decide (qx1 = 0)))))), (9, .v (.one (.d (.str qx)))), (10, .v (.one (.d (.int .u64 vx9_1)))), (11, .v (.one (.d (.int .u64 (IntKind.wrap .u64 ((ishl .u64 1 (IntKind.wrap .u64 (vx8_1))) - 1)))))), (12, .v (.one (.d (.bool vx10)))), (17, .v (.one (.d (.int .u64 (IntKind.wrap .u64 ((IntKind.wrap .u64 (vx11 * (IntKind.wrap .u64 (vx6_1)))) + (IntKind.wrap .u64 (vx23_1)))))))), (99, .v (.one (.d (.lst (List.map (encI .u8) (bytesD vx5_1)))))), (100, .v (.one (.d (.int .i64 ((bytesD vx5_1).length : Int))))), (101, .v (.one (.d (.int .i64 vx12)))), (159, .v (.one (.d (.bool vx24))))]) 0

def z864 (qx : List UInt8) (qx1 : Int) (vx5_1 : List UInt8) (vx6_1 : Int) (vx8_1 : Int) (vx9_1 : Int) (vx10 : Bool) (vx11 : Int) (vx12 : Int) (vx23_1 : Int) : St := Mem.st ⟨[], []⟩ (tl [(1, .v (.one (.d (.int .i64 vx6_1)))), (8, .v (.one (.d (.bool (decide (qx1 = 0)))))), (9, .v (.one (.d (.str qx)))), (10, .v (.one (.d (.int .u64 vx9_1)))), (11, .v (.one (.d (.int .u64 (IntKind.wrap .u64 ((ishl .u64 1 (IntKind.wrap .u64 (vx8_1))) - 1)))))), (12, .v (.one (.d (.bool vx10)))), (13, .v (.one (.d (.int .u64 (IntKind.wrap .u64 (vx11 * (IntKind.wrap .u64 (vx6_1)))))))), (17, .v (.one (.d (.int .u64 (IntKind.wrap .u64 ((IntKind.wrap .u64 (vx11 * (IntKind.wrap .u64 (vx6_1)))) + (IntKind.wrap .u64 (vx23_1)))))))), (99, .v (.one (.d (.lst (List.map (encI .u8) (bytesD vx5_1)))))), (100, .v (.one (.d (.int .i64 ((bytesD vx5_1).length : Int))))), (101, .v (.one (.d (.int .i64 vx12))))]) 0

theorem z867 (qx : List UInt8) (qx1 : Int) (vx5_1 : List UInt8) (vx6_1 : Int) (vx8_1 : Int) (vx9_1 : Int) (vx10 : Bool) (vx11 : Int) (vx12 : Int) (vx23_1 : Int) {r} (hF : z863 vx6_1 vx8_1 vx11 vx23_1 = some r) : Awp prog 0 172 (cL (cL (cR (cR (cR (cR (cR (cR (cR (cL (cL (cR (cR (cL (cL (cR (cL (cR (cR (cR (cR (cR (cR (cR (cR (cR (cR (cR (cB f321))))))))))))))))))))))))))))) (Out 0 z866 (z865 qx qx1 vx5_1 vx6_1 vx8_1 vx9_1 vx10 vx11 vx12 vx23_1) r) (z864 qx qx1 vx5_1 vx6_1 vx8_1 vx9_1 vx10 vx11 vx12 vx23_1) := by
  unfold z863 at hF
  refine cE hF (fun h60 hF => ?_) fun h60 hF => ?_
  · refine awp_region ?_
    refine aR 2 ?_
    refine aB h60 ?_
    refine aR 5 ?_
    refine aE ?_
    exact oO hF [] [] rfl
  · refine awp_region ?_
    refine aR 2 ?_
    refine aB h60 ?_
    refine aR 5 ?_
    refine aE ?_
    exact oO hF [] [] rfl

def z841 : (Bool × Int) → AEx
  | _ => .normal

def z840 (qx : List UInt8) (qx1 : Int) (vx5_1 : List UInt8) (vx6_1 : Int) (vx8_1 : Int) (vx9_1 : Int) (vx10 : Bool) (vx11 : Int) (vx12 : Int) : (Bool × Int) → St
  | (vx25, vx26) => Mem.st ⟨[], []⟩ (tl [(1, .v (.one (.d (.int .i64 vx6_1)))), (8, .v (.one (.d (.bool (decide (qx1 = 0)))))), (9, .v (.one (.d (.str qx)))), (10, .v (.one (.d (.int .u64 vx9_1)))), (11, .v (.one (.d (.int .u64 (IntKind.wrap .u64 ((ishl .u64 1 (IntKind.wrap .u64 (vx8_1))) - 1)))))), (12, .v (.one (.d (.bool vx25)))), (13, .v (.one (.d (.int .u64 vx26)))), (99, .v (.one (.d (.lst (List.map (encI .u8) (bytesD vx5_1)))))), (100, .v (.one (.d (.int .i64 ((bytesD vx5_1).length : Int))))), (101, .v (.one (.d (.int .i64 vx12))))]) 0

def z839 (qx : List UInt8) (qx1 : Int) (vx5_1 : List UInt8) (vx6_1 : Int) (vx8_1 : Int) (vx9_1 : Int) (vx10 : Bool) (vx11 : Int) (vx12 : Int) : St := Mem.st ⟨[], []⟩ (tl [(1, .v (.one (.d (.int .i64 vx6_1)))), (8, .v (.one (.d (.bool (decide (qx1 = 0)))))), (9, .v (.one (.d (.str qx)))), (10, .v (.one (.d (.int .u64 vx9_1)))), (11, .v (.one (.d (.int .u64 (IntKind.wrap .u64 ((ishl .u64 1 (IntKind.wrap .u64 (vx8_1))) - 1)))))), (12, .v (.one (.d (.bool vx10)))), (13, .v (.one (.d (.int .u64 vx11)))), (99, .v (.one (.d (.lst (List.map (encI .u8) (bytesD vx5_1)))))), (100, .v (.one (.d (.int .i64 ((bytesD vx5_1).length : Int))))), (101, .v (.one (.d (.int .i64 vx12))))]) 0

theorem z842 (qx : List UInt8) (qx1 : Int) (vx5_1 : List UInt8) (vx6_1 : Int) (vx8_1 : Int) (vx9_1 : Int) (vx10 : Bool) (vx11 : Int) (vx12 : Int) {r} (hF : z838 qx1 vx5_1 vx6_1 vx8_1 vx9_1 vx10 vx11 vx12 = some r) : Awp prog 0 172 (cL (cR (cR (cL (cL (cR (cL (cR (cR (cR (cR (cR (cR (cR (cR (cR (cR (cR (cB f321))))))))))))))))))) (Out 0 z841 (z840 qx qx1 vx5_1 vx6_1 vx8_1 vx9_1 vx10 vx11 vx12) r) (z839 qx qx1 vx5_1 vx6_1 vx8_1 vx9_1 vx10 vx11 vx12) := by
  unfold z838 at hF
  refine awp_block ?_
  refine awp_seq ?_
  refine bE hF fun vy1 h42 hF => ?_
  refine awp_region ?_
  refine aX (x_idx (encI .u8) h42) ?_
  refine aR 2 ?_
  refine aE ?_
  refine awp_seq ?_
  refine awp_region ?_
  refine aR 1 ?_
  refine aE ?_
  refine awp_seq ?_
  refine awp_to (st' := z844 qx qx1 vx5_1 vx6_1 vx8_1 vx9_1 vx10 vx11 vx12 vy1) (oT [] []) ?_
  refine bE hF fun x h55 hF => ?_
  rcases x with vx23_1 | _
  · refine awp_sub (z847 qx qx1 vx5_1 vx6_1 vx8_1 vx9_1 vx10 vx11 vx12 vy1 h55) ?_
    refine awp_seq ?_
    refine awp_seq ?_
    refine awp_region ?_
    refine aR 4 ?_
    refine aE ?_
    refine cE hF (fun h56 hF => ?_) fun h56 hF => ?_
    · refine awp_true (by kernel_rfl) h56 ?_
      refine awp_seq ?_
      exact nE hF
    · refine awp_false (by kernel_rfl) h56 ?_
      refine awp_skip ?_
      refine awp_seq ?_
      refine awp_seq ?_
      refine awp_region ?_
      refine aR 3 ?_
      refine aE ?_
      refine cE hF (fun h58 hF => ?_) fun h58 hF => ?_
      · refine awp_true (by kernel_rfl) h58 ?_
        refine awp_seq ?_
        exact nE hF
      · refine awp_false (by kernel_rfl) h58 ?_
        refine awp_skip ?_
        refine awp_seq ?_
        refine awp_region ?_
        refine aR 5 ?_
        refine aE ?_
        refine awp_seq ?_
        refine awp_region ?_
        refine aR 5 ?_
        refine aE ?_
        refine awp_seq ?_
        refine awp_seq ?_
        refine awp_to (st' := z864 qx qx1 vx5_1 vx6_1 vx8_1 vx9_1 vx10 vx11 vx12 vx23_1) (oT [] []) ?_
        refine bE hF fun vx24_1 h61 hF => ?_
        refine awp_sub (z867 qx qx1 vx5_1 vx6_1 vx8_1 vx9_1 vx10 vx11 vx12 vx23_1 h61) ?_
        refine cE hF (fun h62 hF => ?_) fun h62 hF => ?_
        · refine awp_true (by kernel_rfl) h62 ?_
          refine awp_seq ?_
          exact nE hF
        · refine awp_false (by kernel_rfl) h62 ?_
          refine awp_skip ?_
          refine awp_region ?_
          refine aR 2 ?_
          refine aE ?_
          exact oO hF [] [] rfl
  · refine awp_sub (z847 qx qx1 vx5_1 vx6_1 vx8_1 vx9_1 vx10 vx11 vx12 vy1 h55) ?_
    exact oO hF [] [] rfl

def z915 : (Bool × Int) → AEx
  | _ => .exit 3

def z914 (qx : List UInt8) (qx1 : Int) (vx5_1 : List UInt8) (vx6_1 : Int) (vx8_1 : Int) (vx9_1 : Int) : (Bool × Int) → St
  | (vx27, vx28) => Mem.st ⟨[], []⟩ (tl [(9, .v (.one (.d (.str qx)))), (12, .v (.one (.d (.bool vx27)))), (13, .v (.one (.d (.int .u64 vx28))))]) 0

def z913 (qx : List UInt8) (qx1 : Int) (vx5_1 : List UInt8) (vx6_1 : Int) (vx8_1 : Int) (vx9_1 : Int) : Bool × Int × Int → St
  | (vx10, vx11, vx12) => Mem.st ⟨[], []⟩ (tl [(1, .v (.one (.d (.int .i64 vx6_1)))), (8, .v (.one (.d (.bool (decide (qx1 = 0)))))), (9, .v (.one (.d (.str qx)))), (10, .v (.one (.d (.int .u64 vx9_1)))), (11, .v (.one (.d (.int .u64 (IntKind.wrap .u64 ((ishl .u64 1 (IntKind.wrap .u64 (vx8_1))) - 1)))))), (12, .v (.one (.d (.bool vx10)))), (13, .v (.one (.d (.int .u64 vx11)))), (99, .v (.one (.d (.lst (List.map (encI .u8) (bytesD vx5_1)))))), (100, .v (.one (.d (.int .i64 ((bytesD vx5_1).length : Int))))), (101, .v (.one (.d (.int .i64 vx12))))]) 0

theorem z916 (qx : List UInt8) (qx1 : Int) (vx5_1 : List UInt8) (vx6_1 : Int) (vx8_1 : Int) (vx9_1 : Int) (s : Bool × Int × Int) (r : (Bool × Int × Int) ⊕ ((Bool × Int))) (hF : z912 qx1 vx5_1 vx6_1 vx8_1 vx9_1 s = some r) : Awp prog 0 172 (cL (cL (cR (cL (cR (cR (cR (cR (cR (cR (cR (cR (cR (cR (cR (cB f321)))))))))))))))) (Out 0 (kk z915) (SS (z913 qx qx1 vx5_1 vx6_1 vx8_1 vx9_1) (z914 qx qx1 vx5_1 vx6_1 vx8_1 vx9_1)) r) (z913 qx qx1 vx5_1 vx6_1 vx8_1 vx9_1 s) := by
  obtain ⟨vx10, vx11, vx12⟩ := s
  unfold z912 at hF
  refine awp_seq ?_
  refine awp_region ?_
  refine aR 1 ?_
  refine aE ?_
  refine awp_seq ?_
  refine cE hF (fun h41 hF => ?_) fun h41 hF => ?_
  · refine awp_true (by kernel_rfl) h41 ?_
    refine awp_skip ?_
    refine awp_seq ?_
    refine awp_to (st' := z839 qx qx1 vx5_1 vx6_1 vx8_1 vx9_1 vx10 vx11 vx12) (oT [] []) ?_
    refine bE hF fun x h64 hF => ?_
    obtain ⟨vx25_1, vx26_1⟩ := x
    refine awp_sub (z842 qx qx1 vx5_1 vx6_1 vx8_1 vx9_1 vx10 vx11 vx12 h64) ?_
    refine awp_region ?_
    refine aR 2 ?_
    refine aE ?_
    exact oO hF [] [] rfl
  · refine awp_false (by kernel_rfl) h41 ?_
    refine awp_exit ?_
    exact oO hF [] [] rfl

def z871 : Bool → AEx
  | _ => .normal

def z870 (qx : List UInt8) (vx27_1 : Bool) (vx28_1 : Int) : Bool → St
  | vx29 => Mem.st ⟨[], []⟩ (tl [(13, .v (.one (.d (.int .u64 vx28_1)))), (169, .v (.one (.d (.bool vx29))))]) 0

def z869 (qx : List UInt8) (vx27_1 : Bool) (vx28_1 : Int) : St := Mem.st ⟨[], []⟩ (tl [(9, .v (.one (.d (.str qx)))), (12, .v (.one (.d (.bool vx27_1)))), (13, .v (.one (.d (.int .u64 vx28_1))))]) 0

theorem z872 (qx : List UInt8) (vx27_1 : Bool) (vx28_1 : Int) {r} (hF : z868 qx vx27_1 = some r) : Awp prog 0 172 (cL (cL (cR (cR (cR (cR (cR (cR (cR (cR (cR (cR (cR (cR (cB f321))))))))))))))) (Out 0 z871 (z870 qx vx27_1 vx28_1) r) (z869 qx vx27_1 vx28_1) := by
  unfold z868 at hF
  refine cE hF (fun h66 hF => ?_) fun h66 hF => ?_
  · refine bE hF fun vr h67 hF => ?_
    refine awp_region ?_
    refine aB h66 ?_
    refine aR 2 ?_
    refine aC (z922 h67) [] [] [] ?_
    refine aR 2 ?_
    refine aE ?_
    exact oO hF [] [] rfl
  · refine awp_region ?_
    refine aB h66 ?_
    refine aR 5 ?_
    refine aE ?_
    exact oO hF [] [] rfl

def z835 (qx : List UInt8) (qx1 : Int) (qx2 : Int) (r : Int) : TV × Mem := (.tup [.one (.d (.int .u64 r)), .one (.nili)], ⟨[], []⟩)

theorem z836 {qx : List UInt8} {qx1 : Int} {qx2 : Int} {r} (hF : z834 qx qx1 qx2 = some r) : Holds prog 321 [.v (.one (.d (.str qx))), .v (.one (.d (.int .i64 qx1))), .v (.one (.d (.int .i64 qx2)))] ⟨[], []⟩ (Is (z835 qx qx1 qx2 r)) := by
  unfold z834 at hF
  refine holds_of_awp hΓ (fn := f321) (c := cB f321) (A := 0) (nx := 0) (by kernel_rfl) (by kernel_rfl) (by kernel_rfl) (by kernel_rfl) (by kernel_rfl) (by kernel_rfl) (lowc_of (by kernel_rfl)) ?_
  show Awp prog 0 172 (cB f321) _ _
  refine awp_seq ?_
  refine awp_region ?_
  refine aR 2 ?_
  refine aE ?_
  refine awp_seq ?_
  refine awp_seq ?_
  refine awp_region ?_
  refine aR 2 ?_
  refine aE ?_
  refine cE hF (fun h1 hF => ?_) fun h1 hF => ?_
  · refine awp_true (by kernel_rfl) h1 ?_
    refine awp_seq ?_
    exact nE hF
  · refine awp_false (by kernel_rfl) h1 ?_
    refine awp_skip ?_
    refine awp_seq ?_
    refine awp_region ?_
    refine aR 3 ?_
    refine aE ?_
    refine awp_seq ?_
    refine awp_region ?_
    refine aR 2 ?_
    refine aE ?_
    refine awp_seq ?_
    refine awp_to (st' := z873 qx qx1 qx2) (oT [] []) ?_
    refine bE hF fun x h29 hF => ?_
    obtain ⟨vx5_1, vx6_1⟩ := x
    refine awp_sub (z876 qx qx1 qx2 h29) ?_
    refine awp_seq ?_
    refine awp_to (st' := z898 qx qx1 qx2 vx5_1 vx6_1) (oT [] []) ?_
    refine bE hF fun vx8_1 h35 hF => ?_
    refine awp_sub (z901 qx qx1 qx2 vx5_1 vx6_1 h35) ?_
    refine awp_seq ?_
    refine awp_region ?_
    refine aR 1 ?_
    refine aE ?_
    refine awp_seq ?_
    refine awp_to (st' := z908 qx qx1 vx5_1 vx6_1 vx8_1) (oT [] []) ?_
    refine bE hF fun vx9_1 h39 hF => ?_
    refine awp_sub (z911 qx qx1 vx5_1 vx6_1 vx8_1 h39) ?_
    refine awp_seq ?_
    refine gE hF fun h40 hF => ?_
    refine awp_region ?_
    refine aR 2 ?_
    refine aX (x_shl h40) ?_
    refine aR 2 ?_
    refine aE ?_
    refine awp_seq ?_
    refine awp_region ?_
    refine aR 1 ?_
    refine aE ?_
    refine awp_seq ?_
    refine awp_region ?_
    refine aR 1 ?_
    refine aE ?_
    refine awp_seq ?_
    refine awp_seq ?_
    refine awp_region ?_
    refine aR 1 ?_
    refine aBs (s := vx5_1) rfl ?_
    refine aL (encI .u8) (bytesD vx5_1) ?_
    refine aR 1 ?_
    refine aE ?_
    refine awp_block ?_
    refine awp_to (st' := z913 qx qx1 vx5_1 vx6_1 vx8_1 vx9_1 (false, 0, 0)) (oT [] []) ?_
    refine bE hF fun x h65 hF => ?_
    obtain ⟨vx27_1, vx28_1⟩ := x
    refine awp_sub (awp_loop' (z913 qx qx1 vx5_1 vx6_1 vx8_1 vx9_1) z915 (z914 qx qx1 vx5_1 vx6_1 vx8_1 vx9_1) (by intro x; exact fun h => nomatch h) h65 (z916 qx qx1 vx5_1 vx6_1 vx8_1 vx9_1)) ?_
    refine awp_seq ?_
    refine awp_seq ?_
    refine awp_to (st' := z869 qx vx27_1 vx28_1) (oT [] []) ?_
    refine bE hF fun vx29_1 h68 hF => ?_
    refine awp_sub (z872 qx vx27_1 vx28_1 h68) ?_
    refine cE hF (fun h69 hF => ?_) fun h69 hF => ?_
    · refine awp_true (by kernel_rfl) h69 ?_
      refine awp_seq ?_
      exact nE hF
    · refine awp_false (by kernel_rfl) h69 ?_
      refine awp_skip ?_
      refine awp_seq ?_
      refine awp_region ?_
      refine aR 3 ?_
      refine aE ?_
      refine awp_ret ?_
      exact oF hF [] []

/-! ### internal/strconv.ParseInt -/
def z812 : ((List UInt8) × Bool) → AEx
  | _ => .normal

def z811 (qx : List UInt8) (qx1 : Int) (qx2 : Int) : ((List UInt8) × Bool) → St
  | (vx, vx1) => Mem.st ⟨[], []⟩ (tl [(0, .v (.one (.d (.str vx)))), (1, .v (.one (.d (.int .i64 qx1)))), (2, .v (.one (.d (.int .i64 qx2)))), (8, .v (.one (.d (.bool vx1))))]) 0

def z810 (qx : List UInt8) (qx1 : Int) (qx2 : Int) : St := Mem.st ⟨[], []⟩ (tl [(0, .v (.one (.d (.str qx)))), (1, .v (.one (.d (.int .i64 qx1)))), (2, .v (.one (.d (.int .i64 qx2)))), (8, .v (.one (.d (.bool false))))]) 0

theorem z813 (qx : List UInt8) (qx1 : Int) (qx2 : Int) {r} (hF : z809 qx = some r) : Awp prog 0 73 (cL (cR (cR (cR (cB f309))))) (Out 0 z812 (z811 qx qx1 qx2) r) (z810 qx qx1 qx2) := by
  unfold z809 at hF
  refine awp_seq ?_
  refine bE hF fun vc h3 hF => ?_
  refine awp_region ?_
  refine aR 1 ?_
  refine aX (x_idxS h3) ?_
  refine aE ?_
  refine awp_block ?_
  refine awp_seq ?_
  refine awp_region ?_
  refine aR 2 ?_
  refine aE ?_
  refine cE hF (fun h4 hF => ?_) fun h4 hF => ?_
  · refine awp_true (by kernel_rfl) h4 ?_
    refine bE hF fun vs h5 hF => ?_
    refine awp_region ?_
    refine aR 1 ?_
    refine aX (x_sliceS h5) ?_
    refine aR 1 ?_
    refine aE ?_
    exact oO hF [] [] rfl
  · refine awp_false (by kernel_rfl) h4 ?_
    refine awp_seq ?_
    refine awp_region ?_
    refine aR 2 ?_
    refine aE ?_
    refine cE hF (fun h6 hF => ?_) fun h6 hF => ?_
    · refine awp_true (by kernel_rfl) h6 ?_
      refine awp_seq ?_
      refine bE hF fun vs1 h7 hF => ?_
      refine awp_region ?_
      refine aR 1 ?_
      refine aX (x_sliceS h7) ?_
      refine aR 1 ?_
      refine aE ?_
      refine awp_region ?_
      refine aR 1 ?_
      refine aE ?_
      exact oO hF [] [] rfl
    · refine awp_false (by kernel_rfl) h6 ?_
      refine awp_skip ?_
      exact oO hF [] [] rfl

def z817 : Int → AEx
  | _ => .normal

def z816 (qx2 : Int) (vx1_1 : Bool) (vr1 : Int) : Int → St
  | vx3 => Mem.st ⟨[], []⟩ (tl [(2, .v (.one (.d (.int .i64 vx3)))), (8, .v (.one (.d (.bool vx1_1)))), (9, .v (.one (.d (.int .u64 vr1))))]) 0

def z815 (qx2 : Int) (vx1_1 : Bool) (vr1 : Int) : St := Mem.st ⟨[], []⟩ (tl [(2, .v (.one (.d (.int .i64 qx2)))), (8, .v (.one (.d (.bool vx1_1)))), (9, .v (.one (.d (.int .u64 vr1))))]) 0

theorem z818 (qx2 : Int) (vx1_1 : Bool) (vr1 : Int) {r} (hF : z814 qx2 = some r) : Awp prog 0 73 (cL (cR (cR (cR (cR (cR (cR (cR (cB f309))))))))) (Out 0 z817 (z816 qx2 vx1_1 vr1) r) (z815 qx2 vx1_1 vr1) := by
  unfold z814 at hF
  refine awp_seq ?_
  refine awp_region ?_
  refine aR 2 ?_
  refine aE ?_
  refine cE hF (fun h10 hF => ?_) fun h10 hF => ?_
  · refine awp_true (by kernel_rfl) h10 ?_
    refine awp_region ?_
    refine aR 1 ?_
    refine aE ?_
    exact oO hF [] [] rfl
  · refine awp_false (by kernel_rfl) h10 ?_
    refine awp_skip ?_
    exact oO hF [] [] rfl

def z822 : Bool → AEx
  | _ => .normal

def z821 (vx1_1 : Bool) (vr1 : Int) (vx3_1 : Int) : Bool → St
  | vx4 => Mem.st ⟨[], []⟩ (tl [(8, .v (.one (.d (.bool vx1_1)))), (9, .v (.one (.d (.int .u64 vr1)))), (10, .v (.one (.d (.int .u64 (ishl .u64 1 (IntKind.wrap .u64 (IntKind.wrap .i64 (vx3_1 - 1)))))))), (52, .v (.one (.d (.bool vx4))))]) 0

def z820 (vx1_1 : Bool) (vr1 : Int) (vx3_1 : Int) : St := Mem.st ⟨[], []⟩ (tl [(8, .v (.one (.d (.bool vx1_1)))), (9, .v (.one (.d (.int .u64 vr1)))), (10, .v (.one (.d (.int .u64 (ishl .u64 1 (IntKind.wrap .u64 (IntKind.wrap .i64 (vx3_1 - 1))))))))]) 0

theorem z823 (vx1_1 : Bool) (vr1 : Int) (vx3_1 : Int) {r} (hF : z819 vx1_1 vr1 vx3_1 = some r) : Awp prog 0 73 (cL (cL (cR (cR (cR (cR (cR (cR (cR (cR (cR (cB f309)))))))))))) (Out 0 z822 (z821 vx1_1 vr1 vx3_1) r) (z820 vx1_1 vr1 vx3_1) := by
  unfold z819 at hF
  refine cE hF (fun h13 hF => ?_) fun h13 hF => ?_
  · refine awp_region ?_
    refine aR 1 ?_
    refine aB h13 ?_
    refine aR 5 ?_
    refine aE ?_
    exact oO hF [] [] rfl
  · refine awp_region ?_
    refine aR 1 ?_
    refine aB h13 ?_
    refine aR 5 ?_
    refine aE ?_
    exact oO hF [] [] rfl

def z827 : Bool → AEx
  | _ => .normal

def z826 (vx1_1 : Bool) (vr1 : Int) (vx3_1 : Int) : Bool → St
  | vx5 => Mem.st ⟨[], []⟩ (tl [(8, .v (.one (.d (.bool vx1_1)))), (9, .v (.one (.d (.int .u64 vr1)))), (10, .v (.one (.d (.int .u64 (ishl .u64 1 (IntKind.wrap .u64 (IntKind.wrap .i64 (vx3_1 - 1)))))))), (62, .v (.one (.d (.bool vx5))))]) 0

def z825 (vx1_1 : Bool) (vr1 : Int) (vx3_1 : Int) : St := Mem.st ⟨[], []⟩ (tl [(8, .v (.one (.d (.bool vx1_1)))), (9, .v (.one (.d (.int .u64 vr1)))), (10, .v (.one (.d (.int .u64 (ishl .u64 1 (IntKind.wrap .u64 (IntKind.wrap .i64 (vx3_1 - 1))))))))]) 0

theorem z828 (vx1_1 : Bool) (vr1 : Int) (vx3_1 : Int) {r} (hF : z824 vx1_1 vr1 vx3_1 = some r) : Awp prog 0 73 (cL (cL (cR (cR (cR (cR (cR (cR (cR (cR (cR (cR (cB f309))))))))))))) (Out 0 z827 (z826 vx1_1 vr1 vx3_1) r) (z825 vx1_1 vr1 vx3_1) := by
  unfold z824 at hF
  refine cE hF (fun h17 hF => ?_) fun h17 hF => ?_
  · refine awp_region ?_
    refine aB h17 ?_
    refine aR 5 ?_
    refine aE ?_
    exact oO hF [] [] rfl
  · refine awp_region ?_
    refine aB h17 ?_
    refine aR 5 ?_
    refine aE ?_
    exact oO hF [] [] rfl

def z832 : Int → AEx
  | _ => .normal

def z831 (vx1_1 : Bool) (vr1 : Int) : Int → St
  | vx6 => Mem.st ⟨[], []⟩ (tl [(11, .v (.one (.d (.int .i64 vx6))))]) 0

def z830 (vx1_1 : Bool) (vr1 : Int) : St := Mem.st ⟨[], []⟩ (tl [(8, .v (.one (.d (.bool vx1_1)))), (11, .v (.one (.d (.int .i64 (IntKind.wrap .i64 (vr1))))))]) 0

theorem z833 (vx1_1 : Bool) (vr1 : Int) {r} (hF : z829 vx1_1 vr1 = some r) : Awp prog 0 73 (cL (cR (cR (cR (cR (cR (cR (cR (cR (cR (cR (cR (cR (cB f309)))))))))))))) (Out 0 z832 (z831 vx1_1 vr1) r) (z830 vx1_1 vr1) := by
  unfold z829 at hF
  refine awp_seq ?_
  refine awp_region ?_
  refine aR 1 ?_
  refine aE ?_
  refine cE hF (fun h21 hF => ?_) fun h21 hF => ?_
  · refine awp_true (by kernel_rfl) h21 ?_
    refine awp_region ?_
    refine aR 3 ?_
    refine aE ?_
    exact oO hF [] [] rfl
  · refine awp_false (by kernel_rfl) h21 ?_
    refine awp_skip ?_
    exact oO hF [] [] rfl

def z807 (qx : List UInt8) (qx1 : Int) (qx2 : Int) (r : Int) : TV × Mem := (.tup [.one (.d (.int .i64 r)), .one (.nili)], ⟨[], []⟩)

theorem z808 {qx : List UInt8} {qx1 : Int} {qx2 : Int} {r} (hF : z806 qx qx1 qx2 = some r) : Holds prog 309 [.v (.one (.d (.str qx))), .v (.one (.d (.int .i64 qx1))), .v (.one (.d (.int .i64 qx2)))] ⟨[], []⟩ (Is (z807 qx qx1 qx2 r)) := by
  unfold z806 at hF
  refine holds_of_awp hΓ (fn := f309) (c := cB f309) (A := 0) (nx := 0) (by kernel_rfl) (by kernel_rfl) (by kernel_rfl) (by kernel_rfl) (by kernel_rfl) (by kernel_rfl) (lowc_of (by kernel_rfl)) ?_
  show Awp prog 0 73 (cB f309) _ _
  refine awp_seq ?_
  refine awp_region ?_
  refine aR 2 ?_
  refine aE ?_
  refine awp_seq ?_
  refine awp_seq ?_
  refine awp_region ?_
  refine aR 2 ?_
  refine aE ?_
  refine cE hF (fun h1 hF => ?_) fun h1 hF => ?_
  · refine awp_true (by kernel_rfl) h1 ?_
    refine awp_seq ?_
    exact nE hF
  · refine awp_false (by kernel_rfl) h1 ?_
    refine awp_skip ?_
    refine awp_seq ?_
    refine awp_region ?_
    refine aR 1 ?_
    refine aE ?_
    refine awp_seq ?_
    refine awp_to (st' := z810 qx qx1 qx2) (oT [] []) ?_
    refine bE hF fun x h8 hF => ?_
    obtain ⟨vx2, vx1_1⟩ := x
    refine awp_sub (z813 qx qx1 qx2 h8) ?_
    refine awp_seq ?_
    refine awp_region ?_
    refine aR 1 ?_
    refine aE ?_
    refine awp_seq ?_
    refine bE hF fun vr1 h9 hF => ?_
    refine awp_region ?_
    refine aR 3 ?_
    refine aC (z836 h9) [] [] [] ?_
    refine aR 5 ?_
    refine aE ?_
    refine awp_seq ?_
    refine awp_seq ?_
    refine awp_region ?_
    refine aR 1 ?_
    refine aS (does_nilI (op := .neq) (c := false) rfl (.inr ⟨rfl, rfl⟩) (by kernel_rfl) (by kernel_rfl)) ?_
    refine aR 5 ?_
    refine aE ?_
    refine awp_false (by kernel_rfl) rfl ?_
    refine awp_skip ?_
    refine awp_seq ?_
    refine awp_to (st' := z815 qx2 vx1_1 vr1) (oT [] []) ?_
    refine bE hF fun vx3_1 h11 hF => ?_
    refine awp_sub (z818 qx2 vx1_1 vr1 h11) ?_
    refine awp_seq ?_
    refine gE hF fun h12 hF => ?_
    refine awp_region ?_
    refine aR 3 ?_
    refine aX (x_shl h12) ?_
    refine aR 1 ?_
    refine aE ?_
    refine awp_seq ?_
    refine awp_seq ?_
    refine awp_to (st' := z820 vx1_1 vr1 vx3_1) (oT [] []) ?_
    refine bE hF fun vx4_1 h14 hF => ?_
    refine awp_sub (z823 vx1_1 vr1 vx3_1 h14) ?_
    refine cE hF (fun h15 hF => ?_) fun h15 hF => ?_
    · refine awp_true (by kernel_rfl) h15 ?_
      refine awp_seq ?_
      exact nE hF
    · refine awp_false (by kernel_rfl) h15 ?_
      refine awp_skip ?_
      refine awp_seq ?_
      refine awp_seq ?_
      refine awp_to (st' := z825 vx1_1 vr1 vx3_1) (oT [] []) ?_
      refine bE hF fun vx5_1 h18 hF => ?_
      refine awp_sub (z828 vx1_1 vr1 vx3_1 h18) ?_
      refine cE hF (fun h19 hF => ?_) fun h19 hF => ?_
      · refine awp_true (by kernel_rfl) h19 ?_
        refine awp_seq ?_
        exact nE hF
      · refine awp_false (by kernel_rfl) h19 ?_
        refine awp_skip ?_
        refine awp_seq ?_
        refine awp_region ?_
        refine aR 3 ?_
        refine aE ?_
        refine awp_seq ?_
        refine awp_to (st' := z830 vx1_1 vr1) (oT [] []) ?_
        refine bE hF fun vx6_1 h22 hF => ?_
        refine awp_sub (z833 vx1_1 vr1 h22) ?_
        refine awp_seq ?_
        refine awp_region ?_
        refine aR 3 ?_
        refine aE ?_
        refine awp_ret ?_
        exact oF hF [] []

/-! ### internal/strconv.Atoi -/
def z782 : Bool → AEx
  | _ => .normal

def z781 (qx : List UInt8) : Bool → St
  | vx => Mem.st ⟨[], []⟩ (tl [(0, .v (.one (.d (.str qx)))), (30, .v (.one (.d (.bool vx))))]) 0

def z780 (qx : List UInt8) : St := Mem.st ⟨[], []⟩ (tl [(0, .v (.one (.d (.str qx)))), (4, .v (.one (.d (.int .i64 (qx.length : Int)))))]) 0

theorem z783 (qx : List UInt8) {r} (hF : z779 qx = some r) : Awp prog 0 77 (cL (cL (cR (cR (cB f291))))) (Out 0 z782 (z781 qx) r) (z780 qx) := by
  unfold z779 at hF
  refine cE hF (fun h1 hF => ?_) fun h1 hF => ?_
  · refine awp_region ?_
    refine aR 11 ?_
    refine aB h1 ?_
    refine aR 6 ?_
    refine aE ?_
    exact oO hF [] [] rfl
  · refine awp_region ?_
    refine aR 11 ?_
    refine aB h1 ?_
    refine aR 6 ?_
    refine aE ?_
    exact oO hF [] [] rfl

def z792 : Bool → AEx
  | _ => .normal

def z791 (qx : List UInt8) : Bool → St
  | vx2 => Mem.st ⟨[], []⟩ (tl [(0, .v (.one (.d (.str qx)))), (5, .v (.one (.d (.str qx)))), (39, .v (.one (.d (.bool vx2))))]) 0

def z790 (qx : List UInt8) : St := Mem.st ⟨[], []⟩ (tl [(0, .v (.one (.d (.str qx)))), (5, .v (.one (.d (.str qx))))]) 0

theorem z793 (qx : List UInt8) {r} (hF : z789 qx = some r) : Awp prog 0 77 (cL (cL (cR (cL (cR (cL (cR (cR (cB f291))))))))) (Out 0 z792 (z791 qx) r) (z790 qx) := by
  unfold z789 at hF
  refine bE hF fun vc h4 hF => ?_
  refine cE hF (fun h5 hF => ?_) fun h5 hF => ?_
  · refine awp_region ?_
    refine aR 1 ?_
    refine aX (x_idxS h4) ?_
    refine aB h5 ?_
    refine aR 5 ?_
    refine aE ?_
    exact oO hF [] [] rfl
  · refine awp_region ?_
    refine aR 1 ?_
    refine aX (x_idxS h4) ?_
    refine aB h5 ?_
    refine aR 2 ?_
    refine aX (x_idxS h4) ?_
    refine aR 2 ?_
    refine aE ?_
    exact oO hF [] [] rfl

def z787 : (List UInt8) → AEx
  | _ => .normal

def z786 (qx : List UInt8) : (List UInt8) → St
  | vx3 => Mem.st ⟨[], []⟩ (tl [(0, .v (.one (.d (.str vx3)))), (5, .v (.one (.d (.str qx))))]) 0

def z785 (qx : List UInt8) : St := Mem.st ⟨[], []⟩ (tl [(0, .v (.one (.d (.str qx)))), (5, .v (.one (.d (.str qx))))]) 0

theorem z788 (qx : List UInt8) {r} (hF : z784 qx = some r) : Awp prog 0 77 (cL (cR (cL (cR (cL (cR (cR (cB f291)))))))) (Out 0 z787 (z786 qx) r) (z785 qx) := by
  unfold z784 at hF
  refine awp_seq ?_
  refine awp_to (st' := z790 qx) (oT [] []) ?_
  refine bE hF fun vx2_1 h6 hF => ?_
  refine awp_sub (z793 qx h6) ?_
  refine cE hF (fun h7 hF => ?_) fun h7 hF => ?_
  · refine awp_true (by kernel_rfl) h7 ?_
    refine awp_seq ?_
    refine bE hF fun vs h8 hF => ?_
    refine awp_region ?_
    refine aR 1 ?_
    refine aX (x_sliceS h8) ?_
    refine aR 1 ?_
    refine aE ?_
    refine awp_seq ?_
    refine awp_region ?_
    refine aR 3 ?_
    refine aE ?_
    refine cE hF (fun h9 hF => ?_) fun h9 hF => ?_
    · refine awp_true (by kernel_rfl) h9 ?_
      refine awp_seq ?_
      exact nE hF
    · refine awp_false (by kernel_rfl) h9 ?_
      refine awp_skip ?_
      exact oO hF [] [] rfl
  · refine awp_false (by kernel_rfl) h7 ?_
    refine awp_skip ?_
    exact oO hF [] [] rfl

def z797 : Int → AEx
  | _ => .exit 0

def z796 (qx : List UInt8) (vx3_1 : List UInt8) : Int → St
  | vx6 => Mem.st ⟨[], []⟩ (tl [(5, .v (.one (.d (.str qx)))), (6, .v (.one (.d (.int .i64 vx6))))]) 0

def z795 (qx : List UInt8) (vx3_1 : List UInt8) : Int × Int → St
  | (vx4, vx5) => Mem.st ⟨[], []⟩ (tl [(5, .v (.one (.d (.str qx)))), (6, .v (.one (.d (.int .i64 vx4)))), (47, .v (.one (.d (.lst (List.map (encI .u8) (bytesD vx3_1)))))), (48, .v (.one (.d (.int .i64 ((bytesD vx3_1).length : Int))))), (49, .v (.one (.d (.int .i64 vx5))))]) 0

theorem z798 (qx : List UInt8) (vx3_1 : List UInt8) (s : Int × Int) (r : (Int × Int) ⊕ (Int)) (hF : z794 vx3_1 s = some r) : Awp prog 0 77 (cL (cL (cR (cL (cR (cR (cR (cL (cR (cL (cR (cR (cB f291))))))))))))) (Out 0 (kk z797) (SS (z795 qx vx3_1) (z796 qx vx3_1)) r) (z795 qx vx3_1 s) := by
  obtain ⟨vx4, vx5⟩ := s
  unfold z794 at hF
  refine awp_seq ?_
  refine awp_region ?_
  refine aR 1 ?_
  refine aE ?_
  refine awp_seq ?_
  refine cE hF (fun h12 hF => ?_) fun h12 hF => ?_
  · refine awp_true (by kernel_rfl) h12 ?_
    refine awp_skip ?_
    refine awp_seq ?_
    refine awp_block ?_
    refine awp_seq ?_
    refine bE hF fun vy1 h13 hF => ?_
    refine awp_region ?_
    refine aX (x_idx (encI .u8) h13) ?_
    refine aR 2 ?_
    refine aE ?_
    refine awp_seq ?_
    refine awp_region ?_
    refine aR 3 ?_
    refine aE ?_
    refine awp_seq ?_
    refine awp_seq ?_
    refine awp_region ?_
    refine aR 2 ?_
    refine aE ?_
    refine cE hF (fun h14 hF => ?_) fun h14 hF => ?_
    · refine awp_true (by kernel_rfl) h14 ?_
      refine awp_seq ?_
      exact nE hF
    · refine awp_false (by kernel_rfl) h14 ?_
      refine awp_skip ?_
      refine awp_region ?_
      refine aR 6 ?_
      refine aE ?_
      refine awp_region ?_
      refine aR 2 ?_
      refine aE ?_
      exact oO hF [] [] rfl
  · refine awp_false (by kernel_rfl) h12 ?_
    refine awp_exit ?_
    exact oO hF [] [] rfl

def z802 : Int → AEx
  | _ => .normal

def z801 (qx : List UInt8) (vx6_1 : Int) : Int → St
  | vx7 => Mem.st ⟨[], []⟩ (tl [(6, .v (.one (.d (.int .i64 vx7))))]) 0

def z800 (qx : List UInt8) (vx6_1 : Int) : St := Mem.st ⟨[], []⟩ (tl [(5, .v (.one (.d (.str qx)))), (6, .v (.one (.d (.int .i64 vx6_1))))]) 0

theorem z803 (qx : List UInt8) (vx6_1 : Int) {r} (hF : z799 qx vx6_1 = some r) : Awp prog 0 77 (cL (cR (cR (cR (cR (cL (cR (cL (cR (cR (cB f291))))))))))) (Out 0 z802 (z801 qx vx6_1) r) (z800 qx vx6_1) := by
  unfold z799 at hF
  refine awp_seq ?_
  refine bE hF fun vc1 h17 hF => ?_
  refine awp_region ?_
  refine aR 1 ?_
  refine aX (x_idxS h17) ?_
  refine aR 1 ?_
  refine aE ?_
  refine cE hF (fun h18 hF => ?_) fun h18 hF => ?_
  · refine awp_true (by kernel_rfl) h18 ?_
    refine awp_region ?_
    refine aR 3 ?_
    refine aE ?_
    exact oO hF [] [] rfl
  · refine awp_false (by kernel_rfl) h18 ?_
    refine awp_skip ?_
    exact oO hF [] [] rfl

def z777 (qx : List UInt8) (r : Int) : TV × Mem := (.tup [.one (.d (.int .i64 r)), .one (.nili)], ⟨[], []⟩)

theorem z778 {qx : List UInt8} {r} (hF : z776 qx = some r) : Holds prog 291 [.v (.one (.d (.str qx)))] ⟨[], []⟩ (Is (z777 qx r)) := by
  unfold z776 at hF
  refine holds_of_awp hΓ (fn := f291) (c := cB f291) (A := 0) (nx := 0) (by kernel_rfl) (by kernel_rfl) (by kernel_rfl) (by kernel_rfl) (by kernel_rfl) (by kernel_rfl) (lowc_of (by kernel_rfl)) ?_
  show Awp prog 0 77 (cB f291) _ _
  refine awp_seq ?_
  refine awp_region ?_
  refine aR 2 ?_
  refine aE ?_
  refine awp_seq ?_
  refine awp_region ?_
  refine aR 3 ?_
  refine aE ?_
  refine awp_seq ?_
  refine awp_seq ?_
  refine awp_to (st' := z780 qx) (oT [] []) ?_
  refine bE hF fun vx1 h2 hF => ?_
  refine awp_sub (z783 qx h2) ?_
  refine cE hF (fun h3 hF => ?_) fun h3 hF => ?_
  · refine awp_true (by kernel_rfl) h3 ?_
    refine awp_seq ?_
    refine awp_region ?_
    refine aR 2 ?_
    refine aE ?_
    refine awp_seq ?_
    refine awp_to (st' := z785 qx) (oT [] []) ?_
    refine bE hF fun vx3_1 h11 hF => ?_
    refine awp_sub (z788 qx h11) ?_
    refine awp_seq ?_
    refine awp_region ?_
    refine aR 1 ?_
    refine aE ?_
    refine awp_seq ?_
    refine awp_seq ?_
    refine awp_region ?_
    refine aR 1 ?_
    refine aBs (s := vx3_1) rfl ?_
    refine aL (encI .u8) (bytesD vx3_1) ?_
    refine aR 1 ?_
    refine aE ?_
    refine awp_block ?_
    refine awp_to (st' := z795 qx vx3_1 (0, 0)) (oT [] []) ?_
    refine bE hF fun vx6_1 h16 hF => ?_
    refine awp_sub (awp_loop' (z795 qx vx3_1) z797 (z796 qx vx3_1) (by intro x; exact fun h => nomatch h) h16 (z798 qx vx3_1)) ?_
    refine awp_seq ?_
    refine awp_to (st' := z800 qx vx6_1) (oT [] []) ?_
    refine bE hF fun vx7_1 h19 hF => ?_
    refine awp_sub (z803 qx vx6_1 h19) ?_
    refine awp_seq ?_
    refine awp_region ?_
    refine aR 3 ?_
    refine aE ?_
    refine awp_ret ?_
    exact oF hF [] []
  · refine awp_false (by kernel_rfl) h3 ?_
    refine awp_skip ?_
    refine awp_seq ?_
    refine bE hF fun vr h20 hF => ?_
    refine awp_region ?_
    refine aR 1 ?_
    refine aC (z808 h20) [] [] [] ?_
    refine aR 5 ?_
    refine aE ?_
    refine awp_seq ?_
    refine awp_region ?_
    refine aR 4 ?_
    refine aE ?_
    refine awp_ret ?_
    exact oF hF [] []

/-! ### strconv.Atoi -/
def z804 (qs : List UInt8) (r : Int) : TV × Mem := (.tup [.one (.d (.int .i64 r)), .one (.nili)], ⟨[], []⟩)

theorem z805 {qs : List UInt8} {r} (hF : z775 qs = some r) : Holds prog 252 [.v (.one (.d (.str qs)))] ⟨[], []⟩ (Is (z804 qs r)) := by
  unfold z775 at hF
  refine holds_of_awp hΓ (fn := f252) (c := cB f252) (A := 0) (nx := 0) (by kernel_rfl) (by kernel_rfl) (by kernel_rfl) (by kernel_rfl) (by kernel_rfl) (by kernel_rfl) (lowc_of (by kernel_rfl)) ?_
  show Awp prog 0 18 (cB f252) _ _
  refine awp_seq ?_
  refine awp_region ?_
  refine aR 2 ?_
  refine aE ?_
  refine awp_seq ?_
  refine bE hF fun vr1 h1 hF => ?_
  refine awp_region ?_
  refine aR 1 ?_
  refine aC (z778 h1) [] [] [] ?_
  refine aR 5 ?_
  refine aE ?_
  refine awp_seq ?_
  refine awp_seq ?_
  refine awp_region ?_
  refine aR 1 ?_
  refine aS (does_nilI (op := .neq) (c := false) rfl (.inr ⟨rfl, rfl⟩) (by kernel_rfl) (by kernel_rfl)) ?_
  refine aE ?_
  refine awp_false (by kernel_rfl) rfl ?_
  refine awp_skip ?_
  refine awp_seq ?_
  refine awp_region ?_
  refine aR 3 ?_
  refine aE ?_
  refine awp_ret ?_
  exact oF hF [] []

/-! ### beaconfleet/base.Number -/
def z51 : Bool → AEx
  | _ => .normal

def z50 (qs : List UInt8) (qdigits : Int) (vr : List UInt8) : Bool → St
  | vx => Mem.st ⟨[], []⟩ (tl [(0, .v (.one (.d (.str qs)))), (6, .v (.one (.d (.str vr)))), (36, .v (.one (.d (.bool vx))))]) 0

def z49 (qs : List UInt8) (qdigits : Int) (vr : List UInt8) : St := Mem.st ⟨[], []⟩ (tl [(0, .v (.one (.d (.str qs)))), (1, .v (.one (.d (.int .i64 qdigits)))), (6, .v (.one (.d (.str vr))))]) 0

theorem z52 (qs : List UInt8) (qdigits : Int) (vr : List UInt8) {r} (hF : z48 qs qdigits vr = some r) : Awp prog 0 61 (cL (cL (cR (cR (cB f186))))) (Out 0 z51 (z50 qs qdigits vr) r) (z49 qs qdigits vr) := by
  unfold z48 at hF
  refine cE hF (fun h2 hF => ?_) fun h2 hF => ?_
  · refine awp_region ?_
    refine aR 1 ?_
    refine aB h2 ?_
    refine aR 23 ?_
    refine aE ?_
    exact oO hF [] [] rfl
  · refine cE hF (fun h3 hF => ?_) fun h3 hF => ?_
    · refine awp_region ?_
      refine aR 1 ?_
      refine aB h2 ?_
      refine aR 4 ?_
      refine aB h3 ?_
      refine aR 18 ?_
      refine aE ?_
      exact oO hF [] [] rfl
    · refine bE hF fun vc h4 hF => ?_
      refine cE hF (fun h5 hF => ?_) fun h5 hF => ?_
      · refine cE hF (fun h6 hF => ?_) fun h6 hF => ?_
        · refine awp_region ?_
          refine aR 1 ?_
          refine aB h2 ?_
          refine aR 4 ?_
          refine aB h3 ?_
          refine aR 3 ?_
          refine aX (x_idxS h4) ?_
          refine aB h5 ?_
          refine aR 3 ?_
          refine aB h6 ?_
          refine aR 9 ?_
          refine aE ?_
          exact oO hF [] [] rfl
        · refine awp_region ?_
          refine aR 1 ?_
          refine aB h2 ?_
          refine aR 4 ?_
          refine aB h3 ?_
          refine aR 3 ?_
          refine aX (x_idxS h4) ?_
          refine aB h5 ?_
          refine aR 3 ?_
          refine aB h6 ?_
          refine aR 9 ?_
          refine aE ?_
          exact oO hF [] [] rfl
      · refine awp_region ?_
        refine aR 1 ?_
        refine aB h2 ?_
        refine aR 4 ?_
        refine aB h3 ?_
        refine aR 3 ?_
        refine aX (x_idxS h4) ?_
        refine aB h5 ?_
        refine aR 13 ?_
        refine aE ?_
        exact oO hF [] [] rfl

def z62 : Bool → AEx
  | _ => .normal

def z61 (qs : List UInt8) (vr : List UInt8) (vx2 : Int) : Bool → St
  | vx4 => Mem.st ⟨[], []⟩ (tl [(0, .v (.one (.d (.str qs)))), (6, .v (.one (.d (.str vr)))), (38, .v (.one (.d (.int .i64 (vr.length : Int))))), (39, .v (.one (.d (.int .i64 vx2)))), (51, .v (.one (.d (.bool vx4))))]) 0

def z60 (qs : List UInt8) (vr : List UInt8) (vx2 : Int) : St := Mem.st ⟨[], []⟩ (tl [(0, .v (.one (.d (.str qs)))), (6, .v (.one (.d (.str vr)))), (7, .v (.one (.d (.int .i64 vx2)))), (38, .v (.one (.d (.int .i64 (vr.length : Int))))), (39, .v (.one (.d (.int .i64 vx2))))]) 0

theorem z63 (qs : List UInt8) (vr : List UInt8) (vx2 : Int) {r} (hF : z59 vr vx2 = some r) : Awp prog 0 61 (cL (cR (cL (cL (cR (cR (cL (cL (cR (cL (cR (cR (cR (cB f186)))))))))))))) (Out 0 z62 (z61 qs vr vx2) r) (z60 qs vr vx2) := by
  unfold z59 at hF
  refine bE hF fun vc2 h10 hF => ?_
  refine cE hF (fun h11 hF => ?_) fun h11 hF => ?_
  · refine awp_region ?_
    refine aR 2 ?_
    refine aX (x_idxS h10) ?_
    refine aB h11 ?_
    refine aR 6 ?_
    refine aE ?_
    exact oO hF [] [] rfl
  · refine awp_region ?_
    refine aR 2 ?_
    refine aX (x_idxS h10) ?_
    refine aB h11 ?_
    refine aR 3 ?_
    refine aX (x_idxS h10) ?_
    refine aR 2 ?_
    refine aE ?_
    exact oO hF [] [] rfl

def z57 : Unit ⊕ Unit → AEx
  | .inl _ => .exit 0
  | .inr _ => .ret

def z56 (qs : List UInt8) (vr : List UInt8) : Unit ⊕ Unit → St
  | .inl _ => Mem.st ⟨[], []⟩ (tl [(0, .v (.one (.d (.str qs))))]) 0
  | .inr _ => Mem.st ⟨[], []⟩ (tl [(4, .v (.one (.d (.int .i64 0)))), (5, .v (.one (.d (.bool false))))]) 0

def z55 (qs : List UInt8) (vr : List UInt8) : Int → St
  | vx2 => Mem.st ⟨[], []⟩ (tl [(0, .v (.one (.d (.str qs)))), (6, .v (.one (.d (.str vr)))), (38, .v (.one (.d (.int .i64 (vr.length : Int))))), (39, .v (.one (.d (.int .i64 vx2))))]) 0

theorem z58 (qs : List UInt8) (vr : List UInt8) (vx2 : Int) (r : (Int) ⊕ (Unit ⊕ Unit)) (hF : z54 vr vx2 = some r) : Awp prog 0 61 (cL (cL (cR (cL (cR (cR (cR (cB f186)))))))) (Out 0 (kk z57) (SS (z55 qs vr) (z56 qs vr)) r) (z55 qs vr vx2) := by
  unfold z54 at hF
  refine awp_seq ?_
  refine awp_region ?_
  refine aR 1 ?_
  refine aE ?_
  refine awp_seq ?_
  refine cE hF (fun h9 hF => ?_) fun h9 hF => ?_
  · refine awp_true (by kernel_rfl) h9 ?_
    refine awp_skip ?_
    refine awp_seq ?_
    refine awp_block ?_
    refine awp_seq ?_
    refine awp_region ?_
    refine aR 2 ?_
    refine aE ?_
    refine awp_seq ?_
    refine awp_to (st' := z60 qs vr vx2) (oT [] []) ?_
    refine bE hF fun vx4_1 h12 hF => ?_
    refine awp_sub (z63 qs vr vx2 h12) ?_
    refine cE hF (fun h13 hF => ?_) fun h13 hF => ?_
    · refine awp_true (by kernel_rfl) h13 ?_
      refine awp_seq ?_
      refine awp_region ?_
      refine aR 2 ?_
      refine aE ?_
      refine awp_ret ?_
      exact oO hF [] [] rfl
    · refine awp_false (by kernel_rfl) h13 ?_
      refine awp_skip ?_
      refine awp_region ?_
      refine aR 2 ?_
      refine aE ?_
      exact oO hF [] [] rfl
  · refine awp_false (by kernel_rfl) h9 ?_
    refine awp_exit ?_
    exact oO hF [] [] rfl

def z45 (qs : List UInt8) (qdigits : Int) (r : Int × Bool) : TV × Mem := (.tup [.one (.d (.int .i64 r.1)), .one (.d (.bool r.2))], ⟨[], []⟩)

theorem z47 {qs : List UInt8} {qdigits : Int} {r} (hF : z44 qs qdigits = some r) : Holds prog 186 [.v (.one (.d (.str qs))), .v (.one (.d (.int .i64 qdigits)))] ⟨[], []⟩ (Is (z45 qs qdigits r)) := by
  unfold z44 at hF
  refine holds_of_awp hΓ (fn := f186) (c := cB f186) (A := 0) (nx := 0) (by kernel_rfl) (by kernel_rfl) (by kernel_rfl) (by kernel_rfl) (by kernel_rfl) (by kernel_rfl) (lowc_of (by kernel_rfl)) ?_
  show Awp prog 0 61 (cB f186) _ _
  refine awp_seq ?_
  refine awp_region ?_
  refine aR 2 ?_
  refine aE ?_
  refine awp_seq ?_
  refine bE hF fun vr h1 hF => ?_
  refine awp_region ?_
  refine aR 1 ?_
  refine aC (z980 h1) [] [] [] ?_
  refine aR 1 ?_
  refine aE ?_
  refine awp_seq ?_
  refine awp_seq ?_
  refine awp_to (st' := z49 qs qdigits vr) (oT [] []) ?_
  refine bE hF fun vx1 h7 hF => ?_
  refine awp_sub (z52 qs qdigits vr h7) ?_
  refine cE hF (fun h8 hF => ?_) fun h8 hF => ?_
  · refine awp_true (by kernel_rfl) h8 ?_
    refine awp_seq ?_
    refine awp_region ?_
    refine aR 2 ?_
    refine aE ?_
    refine awp_ret ?_
    exact oF hF [] []
  · refine awp_false (by kernel_rfl) h8 ?_
    refine awp_skip ?_
    refine awp_seq ?_
    refine awp_seq ?_
    refine awp_region ?_
    refine aR 3 ?_
    refine aE ?_
    refine awp_block ?_
    refine awp_to (st' := z55 qs vr 0) (oT [] []) ?_
    refine bE hF fun x h14 hF => ?_
    rcases x with _ | _
    · refine awp_sub (awp_loop' (z55 qs vr) z57 (z56 qs vr) (by intro x; rcases x with x | x <;> exact fun h => nomatch h) h14 (z58 qs vr)) ?_
      refine awp_seq ?_
      refine bE hF fun vr1 h15 hF => ?_
      refine awp_region ?_
      refine aR 1 ?_
      refine aC (z805 h15) [] [] [] ?_
      refine aR 5 ?_
      refine aE ?_
      refine awp_seq ?_
      refine aD ?_
      refine dR 2 ?_
      refine dS (U := []) (stable_nilI (op := .eql) (c := true) rfl (.inl ⟨rfl, rfl⟩) (by kernel_rfl) (by kernel_rfl)) ?_
      refine dR 2 ?_
      refine dE ?_
      refine awp_ret ?_
      exact oF hF [] []
    · refine awp_sub (awp_loop' (z55 qs vr) z57 (z56 qs vr) (by intro x; rcases x with x | x <;> exact fun h => nomatch h) h14 (z58 qs vr)) ?_
      exact oF hF [] []

/-! ### beaconfleet/base.Numbers -/
def z70 : (List Int) ⊕ Unit → AEx
  | .inl _ => .exit 0
  | .inr _ => .ret

def z69 (qwords : List (List UInt8)) (qdigits : Int) : (List Int) ⊕ Unit → St
  | .inl vout1 => Mem.st ⟨[(1, ⟨3, 1, List.map (encI .i64) vout1⟩)], []⟩ (tl [(6, .v (.one (.own 1 none)))]) 2
  | .inr _ => Mem.st ⟨[], []⟩ (tl [(4, .v (.one (.nil))), (5, .v (.one (.d (.bool false))))]) 1

def z68 (qwords : List (List UInt8)) (qdigits : Int) : (List Int) × Int → St
  | (vout, vx) => Mem.st ⟨[(1, ⟨3, 1, List.map (encI .i64) vout⟩)], []⟩ (tl [(1, .v (.one (.d (.int .i64 qdigits)))), (6, .v (.one (.own 1 none))), (11, .v (.one (.d (.lst (List.map encS qwords))))), (12, .v (.one (.d (.int .i64 (qwords.length : Int))))), (13, .v (.one (.d (.int .i64 vx))))]) 2

theorem z71 (qwords : List (List UInt8)) (qdigits : Int) (s : (List Int) × Int) (r : ((List Int) × Int) ⊕ ((List Int) ⊕ Unit)) (hF : z67 qwords qdigits s = some r) : Awp prog 1 31 (cL (cL (cR (cL (cR (cR (cB f142))))))) (Out 1 (kk z70) (SS (z68 qwords qdigits) (z69 qwords qdigits)) r) (z68 qwords qdigits s) := by
  obtain ⟨vout, vx⟩ := s
  unfold z67 at hF
  refine awp_seq ?_
  refine awp_region ?_
  refine aR 1 ?_
  refine aE ?_
  refine awp_seq ?_
  refine cE hF (fun h1 hF => ?_) fun h1 hF => ?_
  · refine awp_true (by kernel_rfl) h1 ?_
    refine awp_skip ?_
    refine awp_seq ?_
    refine awp_block ?_
    refine awp_seq ?_
    refine bE hF fun vy1 h2 hF => ?_
    refine awp_region ?_
    refine aX (x_idx encS h2) ?_
    refine aR 2 ?_
    refine aE ?_
    refine awp_seq ?_
    refine bE hF fun x h3 hF => ?_
    obtain ⟨vr2_1, vr3_1⟩ := x
    refine awp_region ?_
    refine aR 2 ?_
    refine aC (z47 h3) [] [] [] ?_
    refine aR 5 ?_
    refine aE ?_
    refine awp_seq ?_
    refine awp_seq ?_
    refine awp_region ?_
    refine aR 2 ?_
    refine aE ?_
    refine cE hF (fun h4 hF => ?_) fun h4 hF => ?_
    · refine awp_true (by kernel_rfl) h4 ?_
      refine awp_seq ?_
      refine awp_region ?_
      refine aR 2 ?_
      refine aE ?_
      refine awp_ret ?_
      exact oO hF [] [] rfl
    · refine awp_false (by kernel_rfl) h4 ?_
      refine awp_skip ?_
      refine gE hF fun h5 hF => ?_
      refine awp_region ?_
      refine aR 3 ?_
      refine aX (x_app (encI .i64) 1 h5) ?_
      refine aR 1 ?_
      refine aE ?_
      refine awp_region ?_
      refine aR 2 ?_
      refine aE ?_
      exact oO hF [(1, 17002)] [] rfl
  · refine awp_false (by kernel_rfl) h1 ?_
    refine awp_exit ?_
    exact oO hF [] [] rfl

def z65 (qwords : List (List UInt8)) (qdigits : Int) (r : (List Int) × Bool) : TV × Mem := (.tup [.one (.own 1 none), .one (.d (.bool r.2))], ⟨[(1, ⟨3, 1, List.map (encI .i64) r.1⟩)], []⟩)

theorem z66 {qwords : List (List UInt8)} {qdigits : Int} {r} (hF : z64 qwords qdigits = some r) : Holds prog 142 [.v (.one (.own 0 none)), .v (.one (.d (.int .i64 qdigits)))] ⟨[(0, ⟨9, 1, List.map encS qwords⟩)], []⟩ (Is (z65 qwords qdigits r)) := by
  unfold z64 at hF
  refine holds_of_awp hΓ (fn := f142) (c := cB f142) (A := 1) (nx := 1) (by kernel_rfl) (by kernel_rfl) (by kernel_rfl) (by kernel_rfl) (by kernel_rfl) (by kernel_rfl) (lowc_of (by kernel_rfl)) ?_
  show Awp prog 1 31 (cB f142) _ _
  refine awp_seq ?_
  refine awp_region ?_
  refine aR 2 ?_
  refine aE ?_
  refine awp_to (oT (m := ⟨[], []⟩) (ts := [(0, .v (.one (.d (.lst (List.map encS qwords))))), (1, .v (.one (.d (.int .i64 qdigits))))]) (nx := 1) [] []) ?_
  refine awp_seq ?_
  refine awp_region ?_
  refine aR 1 ?_
  refine aE ?_
  refine awp_seq ?_
  refine awp_seq ?_
  refine awp_region ?_
  refine aR 1 ?_
  refine aL encS qwords ?_
  refine aR 1 ?_
  refine aE ?_
  refine awp_block ?_
  refine awp_to (st' := z68 qwords qdigits ([], 0)) (oT [] [1]) ?_
  refine bE hF fun x h6 hF => ?_
  rcases x with vout1_1 | _
  · refine awp_sub (awp_loop' (z68 qwords qdigits) z70 (z69 qwords qdigits) (by intro x; rcases x with x | x <;> exact fun h => nomatch h) h6 (z71 qwords qdigits)) ?_
    refine awp_seq ?_
    refine awp_region ?_
    refine aR 3 ?_
    refine aE ?_
    refine awp_ret ?_
    exact oF hF [] []
  · refine awp_sub (awp_loop' (z68 qwords qdigits) z70 (z69 qwords qdigits) (by intro x; rcases x with x | x <;> exact fun h => nomatch h) h6 (z71 qwords qdigits)) ?_
    exact oF hF [] [1]

/-! ### beaconfleet/base.Version -/
def z98 : Bool → AEx
  | _ => .normal

def z97 (qv : api_Version) : Bool → St
  | vx => Mem.st ⟨[], []⟩ (tl [(2, .v (.one (.d (.bool vx))))]) 0

def z96 (qv : api_Version) : St := Mem.st ⟨[], [(0, [.d (.int .i64 qv.Major), .d (.int .i64 qv.Minor), .d (.int .i64 qv.Patch)])]⟩ (tl [(1, .v (.one (.box 0 0)))]) 1

theorem z99 (qv : api_Version) {r} (hF : z95 qv = some r) : Awp prog 0 19 (cL (cR (cB f144))) (Out 0 z98 (z97 qv) r) (z96 qv) := by
  unfold z95 at hF
  refine bE hF fun vr h1 hF => ?_
  refine cE hF (fun h2 hF => ?_) fun h2 hF => ?_
  · refine bE hF fun vr1 h3 hF => ?_
    refine cE hF (fun h4 hF => ?_) fun h4 hF => ?_
    · refine bE hF fun vr2 h5 hF => ?_
      refine awp_region ?_
      refine aR 2 ?_
      refine aC (z73 h1) [] [] [] ?_
      refine aB h2 ?_
      refine aR 3 ?_
      refine aC (z73 h3) [] [] [] ?_
      refine aB h4 ?_
      refine aR 4 ?_
      refine aC (z73 h5) [] [] [] ?_
      refine aR 3 ?_
      refine aE ?_
      exact oO hF [] [] rfl
    · refine awp_region ?_
      refine aR 2 ?_
      refine aC (z73 h1) [] [] [] ?_
      refine aB h2 ?_
      refine aR 3 ?_
      refine aC (z73 h3) [] [] [] ?_
      refine aB h4 ?_
      refine aR 8 ?_
      refine aE ?_
      exact oO hF [] [] rfl
  · refine awp_region ?_
    refine aR 2 ?_
    refine aC (z73 h1) [] [] [] ?_
    refine aB h2 ?_
    refine aR 13 ?_
    refine aE ?_
    exact oO hF [] [] rfl

def z93 (qv : api_Version) (r : Bool) : TV × Mem := (.v (.one (.d (.bool r))), ⟨[], []⟩)

theorem z94 {qv : api_Version} {r} (hF : z92 qv = some r) : Holds prog 144 [.v (.agg [.d (.int .i64 qv.Major), .d (.int .i64 qv.Minor), .d (.int .i64 qv.Patch)])] ⟨[], []⟩ (Is (z93 qv r)) := by
  unfold z92 at hF
  refine holds_of_awp hΓ (fn := f144) (c := cB f144) (A := 0) (nx := 0) (by kernel_rfl) (by kernel_rfl) (by kernel_rfl) (by kernel_rfl) (by kernel_rfl) (by kernel_rfl) (lowc_of (by kernel_rfl)) ?_
  show Awp prog 0 19 (cB f144) _ _
  refine awp_seq ?_
  refine awp_region ?_
  refine aR 2 ?_
  refine aE ?_
  refine awp_seq ?_
  refine awp_to (st' := z96 qv) (oT [] []) ?_
  refine bE hF fun vx1 h6 hF => ?_
  refine awp_sub (z99 qv h6) ?_
  refine awp_ret ?_
  exact oF hF [] []

/-! ### beaconfleet/campaign.ParseVersion -/
def z130 : Bool → AEx
  | _ => .normal

def z129 (vr : List Int) (vr1_1 : Bool) : Bool → St
  | vx => Mem.st ⟨[], [(0, [.d (.int .i64 0), .d (.int .i64 0), .d (.int .i64 0)])]⟩ (tl [(2, .v (.one (.box 0 0))), (4, .v (.one (.d (.lst (List.map (encI .i64) vr))))), (19, .v (.one (.d (.bool vx))))]) 1

def z128 (vr : List Int) (vr1_1 : Bool) : St := Mem.st ⟨[], [(0, [.d (.int .i64 0), .d (.int .i64 0), .d (.int .i64 0)])]⟩ (tl [(2, .v (.one (.box 0 0))), (4, .v (.one (.d (.lst (List.map (encI .i64) vr))))), (5, .v (.one (.d (.bool vr1_1))))]) 1

theorem z131 (vr : List Int) (vr1_1 : Bool) {r} (hF : z127 vr vr1_1 = some r) : Awp prog 0 36 (cL (cL (cR (cR (cB f68))))) (Out 0 z130 (z129 vr vr1_1) r) (z128 vr vr1_1) := by
  unfold z127 at hF
  refine cE hF (fun h3 hF => ?_) fun h3 hF => ?_
  · refine awp_region ?_
    refine aR 1 ?_
    refine aB h3 ?_
    refine aR 5 ?_
    refine aE ?_
    exact oO hF [] [] rfl
  · refine awp_region ?_
    refine aR 1 ?_
    refine aB h3 ?_
    refine aR 2 ?_
    refine aL (encI .i64) vr ?_
    refine aR 2 ?_
    refine aE ?_
    exact oO hF [] [] rfl

def z125 (qs : List UInt8) (r : api_Version × Int) : TV × Mem := (.tup [.agg [.d (.int .i64 r.1.Major), .d (.int .i64 r.1.Minor), .d (.int .i64 r.1.Patch)], .one (.d (.int .i64 r.2))], ⟨[], []⟩)

theorem z126 {qs : List UInt8} {r} (hF : z124 qs = some r) : Holds prog 68 [.v (.one (.d (.str qs)))] ⟨[], []⟩ (Is (z125 qs r)) := by
  unfold z124 at hF
  refine holds_of_awp hΓ (fn := f68) (c := cB f68) (A := 0) (nx := 0) (by kernel_rfl) (by kernel_rfl) (by kernel_rfl) (by kernel_rfl) (by kernel_rfl) (by kernel_rfl) (lowc_of (by kernel_rfl)) ?_
  show Awp prog 0 36 (cB f68) _ _
  refine awp_seq ?_
  refine awp_region ?_
  refine aR 2 ?_
  refine aE ?_
  refine awp_seq ?_
  refine bE hF fun vr1 h1 hF => ?_
  refine bE hF fun x h2 hF => ?_
  obtain ⟨vr, vr1_1⟩ := x
  refine awp_region ?_
  refine aR 1 ?_
  refine aC (z977 h1) [] [] [] ?_
  refine aC (z66 h2) [(0, 3000)] [] [] ?_
  refine aR 5 ?_
  refine aE ?_
  refine awp_to (oT (m := ⟨[], [(0, [.d (.int .i64 0), .d (.int .i64 0), .d (.int .i64 0)])]⟩) (ts := [(2, .v (.one (.box 0 0))), (4, .v (.one (.d (.lst (List.map (encI .i64) vr))))), (5, .v (.one (.d (.bool vr1_1))))]) (nx := 1) [] []) ?_
  refine awp_seq ?_
  refine awp_seq ?_
  refine awp_to (st' := z128 vr vr1_1) (oT [] []) ?_
  refine bE hF fun vx1 h4 hF => ?_
  refine awp_sub (z131 vr vr1_1 h4) ?_
  refine cE hF (fun h5 hF => ?_) fun h5 hF => ?_
  · refine awp_true (by kernel_rfl) h5 ?_
    refine awp_seq ?_
    refine awp_region ?_
    refine aR 3 ?_
    refine aE ?_
    refine awp_ret ?_
    exact oF hF [] []
  · refine awp_false (by kernel_rfl) h5 ?_
    refine awp_skip ?_
    refine awp_seq ?_
    refine bE hF fun vy h6 hF => ?_
    refine bE hF fun vy1 h7 hF => ?_
    refine bE hF fun vy2 h8 hF => ?_
    refine aD ?_
    refine dR 1 ?_
    refine dX (x_idx (encI .i64) h6) ?_
    refine dR 2 ?_
    refine dX (x_idx (encI .i64) h7) ?_
    refine dR 2 ?_
    refine dX (x_idx (encI .i64) h8) ?_
    refine dR 4 ?_
    refine dE ?_
    refine awp_seq ?_
    refine awp_seq ?_
    refine bE hF fun vr3 h9 hF => ?_
    refine awp_region ?_
    refine aR 1 ?_
    refine aC (z94 h9) [] [] [] ?_
    refine aR 1 ?_
    refine aE ?_
    refine cE hF (fun h10 hF => ?_) fun h10 hF => ?_
    · refine awp_true (by kernel_rfl) h10 ?_
      refine awp_seq ?_
      refine awp_region ?_
      refine aR 3 ?_
      refine aE ?_
      refine awp_ret ?_
      exact oF hF [] []
    · refine awp_false (by kernel_rfl) h10 ?_
      refine awp_skip ?_
      refine awp_seq ?_
      refine awp_region ?_
      refine aR 3 ?_
      refine aE ?_
      refine awp_ret ?_
      exact oF hF [] []

/-! ### beaconfleet/place.isSpot -/
def z491 : Bool → AEx
  | _ => .normal

def z490 (qs : api_Spot) : Bool → St
  | vx => Mem.st ⟨[], []⟩ (tl [(2, .v (.one (.d (.bool vx))))]) 0

def z489 (qs : api_Spot) : St := Mem.st ⟨[], [(0, [.d (.int .i64 qs.X), .d (.int .i64 qs.Y)])]⟩ (tl [(1, .v (.one (.box 0 0)))]) 1

theorem z492 (qs : api_Spot) {r} (hF : z488 qs = some r) : Awp prog 0 13 (cL (cR (cB f145))) (Out 0 z491 (z490 qs) r) (z489 qs) := by
  unfold z488 at hF
  refine bE hF fun vr h1 hF => ?_
  refine cE hF (fun h2 hF => ?_) fun h2 hF => ?_
  · refine bE hF fun vr1 h3 hF => ?_
    refine awp_region ?_
    refine aR 2 ?_
    refine aC (z73 h1) [] [] [] ?_
    refine aB h2 ?_
    refine aR 3 ?_
    refine aC (z73 h3) [] [] [] ?_
    refine aR 3 ?_
    refine aE ?_
    exact oO hF [] [] rfl
  · refine awp_region ?_
    refine aR 2 ?_
    refine aC (z73 h1) [] [] [] ?_
    refine aB h2 ?_
    refine aR 7 ?_
    refine aE ?_
    exact oO hF [] [] rfl

def z486 (qs : api_Spot) (r : Bool) : TV × Mem := (.v (.one (.d (.bool r))), ⟨[], []⟩)

theorem z487 {qs : api_Spot} {r} (hF : z485 qs = some r) : Holds prog 145 [.v (.agg [.d (.int .i64 qs.X), .d (.int .i64 qs.Y)])] ⟨[], []⟩ (Is (z486 qs r)) := by
  unfold z485 at hF
  refine holds_of_awp hΓ (fn := f145) (c := cB f145) (A := 0) (nx := 0) (by kernel_rfl) (by kernel_rfl) (by kernel_rfl) (by kernel_rfl) (by kernel_rfl) (by kernel_rfl) (lowc_of (by kernel_rfl)) ?_
  show Awp prog 0 13 (cB f145) _ _
  refine awp_seq ?_
  refine awp_region ?_
  refine aR 2 ?_
  refine aE ?_
  refine awp_seq ?_
  refine awp_to (st' := z489 qs) (oT [] []) ?_
  refine bE hF fun vx1 h4 hF => ?_
  refine awp_sub (z492 qs h4) ?_
  refine awp_ret ?_
  exact oF hF [] []

/-! ### beaconfleet/place.Cell -/
def z478 : Bool → AEx
  | _ => .normal

def z477 (qs : api_Spot) (qlevel : Int) : Bool → St
  | vx => Mem.st ⟨[], [(0, [.d (.int .i64 qs.X), .d (.int .i64 qs.Y)])]⟩ (tl [(1, .v (.one (.d (.int .i64 qlevel)))), (2, .v (.one (.box 0 0))), (16, .v (.one (.d (.bool vx))))]) 1

def z476 (qs : api_Spot) (qlevel : Int) : St := Mem.st ⟨[], [(0, [.d (.int .i64 qs.X), .d (.int .i64 qs.Y)])]⟩ (tl [(1, .v (.one (.d (.int .i64 qlevel)))), (2, .v (.one (.box 0 0)))]) 1

theorem z479 (qs : api_Spot) (qlevel : Int) {r} (hF : z475 qs qlevel = some r) : Awp prog 0 47 (cL (cL (cR (cB f69)))) (Out 0 z478 (z477 qs qlevel) r) (z476 qs qlevel) := by
  unfold z475 at hF
  refine bE hF fun vr2 h1 hF => ?_
  refine cE hF (fun h2 hF => ?_) fun h2 hF => ?_
  · refine awp_region ?_
    refine aR 1 ?_
    refine aC (z487 h1) [] [] [] ?_
    refine aB h2 ?_
    refine aR 4 ?_
    refine aE ?_
    exact oO hF [] [] rfl
  · refine bE hF fun vr h3 hF => ?_
    refine awp_region ?_
    refine aR 1 ?_
    refine aC (z487 h1) [] [] [] ?_
    refine aB h2 ?_
    refine aR 2 ?_
    refine aC (z73 h3) [] [] [] ?_
    refine aR 1 ?_
    refine aE ?_
    exact oO hF [] [] rfl

def z483 : (List Int) → AEx
  | _ => .exit 0

def z482 (qs : api_Spot) (qlevel : Int) : (List Int) → St
  | vout1 => Mem.st ⟨[(0, ⟨5, 1, List.map (encI .u8) vout1⟩)], []⟩ (tl [(6, .v (.one (.own 0 none)))]) 1

def z481 (qs : api_Spot) (qlevel : Int) : (List Int) × Int × Int → St
  | (vout, vlong, vx2) => Mem.st ⟨[(0, ⟨5, 1, List.map (encI .u8) vout⟩)], []⟩ (tl [(6, .v (.one (.own 0 none))), (7, .v (.one (.d (.int .i64 (IntKind.wrap .i64 (qs.X - (-16384))))))), (8, .v (.one (.d (.int .i64 (IntKind.wrap .i64 (qs.Y - (-16384))))))), (9, .v (.one (.d (.int .i64 vlong)))), (23, .v (.one (.d (.int .i64 qlevel)))), (24, .v (.one (.d (.int .i64 vx2))))]) 1

theorem z484 (qs : api_Spot) (qlevel : Int) (s : (List Int) × Int × Int) (r : ((List Int) × Int × Int) ⊕ ((List Int))) (hF : z480 qs qlevel s = some r) : Awp prog 0 47 (cL (cL (cR (cL (cR (cR (cR (cR (cB f69))))))))) (Out 0 (kk z483) (SS (z481 qs qlevel) (z482 qs qlevel)) r) (z481 qs qlevel s) := by
  obtain ⟨vout, vlong, vx2⟩ := s
  unfold z480 at hF
  refine awp_seq ?_
  refine awp_region ?_
  refine aR 1 ?_
  refine aE ?_
  refine awp_seq ?_
  refine cE hF (fun h6 hF => ?_) fun h6 hF => ?_
  · refine awp_true (by kernel_rfl) h6 ?_
    refine awp_skip ?_
    refine awp_seq ?_
    refine awp_block ?_
    refine awp_seq ?_
    refine awp_region ?_
    refine aR 3 ?_
    refine aE ?_
    refine gE hF fun h7 hF => ?_
    refine gE hF fun h8 hF => ?_
    refine aD ?_
    refine dR 3 ?_
    refine dX (x_quo h7) ?_
    refine dR 5 ?_
    refine dX (x_quo h7) ?_
    refine dR 5 ?_
    refine dX (x_app (encI .u8) 0 h8) ?_
    refine dR 1 ?_
    refine dE ?_
    refine awp_region ?_
    refine aR 2 ?_
    refine aE ?_
    exact oO hF [(0, 19001)] [] rfl
  · refine awp_false (by kernel_rfl) h6 ?_
    refine awp_exit ?_
    exact oO hF [] [] rfl

def z473 (qs : api_Spot) (qlevel : Int) (r : (List UInt8) × Int) : TV × Mem := (.tup [.one (.d (.str r.1)), .one (.d (.int .i64 r.2))], ⟨[], []⟩)

theorem z474 {qs : api_Spot} {qlevel : Int} {r} (hF : z472 qs qlevel = some r) : Holds prog 69 [.v (.agg [.d (.int .i64 qs.X), .d (.int .i64 qs.Y)]), .v (.one (.d (.int .i64 qlevel)))] ⟨[], []⟩ (Is (z473 qs qlevel r)) := by
  unfold z472 at hF
  refine holds_of_awp hΓ (fn := f69) (c := cB f69) (A := 0) (nx := 0) (by kernel_rfl) (by kernel_rfl) (by kernel_rfl) (by kernel_rfl) (by kernel_rfl) (by kernel_rfl) (lowc_of (by kernel_rfl)) ?_
  show Awp prog 0 47 (cB f69) _ _
  refine awp_seq ?_
  refine awp_region ?_
  refine aR 3 ?_
  refine aE ?_
  refine awp_seq ?_
  refine awp_seq ?_
  refine awp_to (st' := z476 qs qlevel) (oT [] []) ?_
  refine bE hF fun vx1 h4 hF => ?_
  refine awp_sub (z479 qs qlevel h4) ?_
  refine cE hF (fun h5 hF => ?_) fun h5 hF => ?_
  · refine awp_true (by kernel_rfl) h5 ?_
    refine awp_seq ?_
    refine awp_region ?_
    refine aR 2 ?_
    refine aE ?_
    refine awp_ret ?_
    exact oF hF [] []
  · refine awp_false (by kernel_rfl) h5 ?_
    refine awp_skip ?_
    refine awp_seq ?_
    refine awp_region ?_
    refine aR 1 ?_
    refine aE ?_
    refine awp_seq ?_
    refine aD ?_
    refine dR 9 ?_
    refine dE ?_
    refine awp_seq ?_
    refine awp_seq ?_
    refine awp_region ?_
    refine aR 2 ?_
    refine aE ?_
    refine awp_block ?_
    refine awp_to (st' := z481 qs qlevel ([], 32768, 0)) (oT [] [0]) ?_
    refine bE hF fun vout1_1 h9 hF => ?_
    refine awp_sub (awp_loop' (z481 qs qlevel) z483 (z482 qs qlevel) (by intro x; exact fun h => nomatch h) h9 (z484 qs qlevel)) ?_
    refine awp_seq ?_
    refine awp_region ?_
    refine aR 1 ?_
    refine aSt (xs := vout1_1) rfl rfl ?_
    refine aR 2 ?_
    refine aE ?_
    refine awp_ret ?_
    exact oF hF [] []

/-! ### beaconfleet/command.Order$1 -/
def z311 (qy : api_Letter) (qx : api_Letter) (r : Unit) : TV × Mem := (.v (.one (.d (.bool (decide (qy.Id = qx.Id))))), ⟨[], [(0, [.d (.str qx.Id), .d (.str qx.Slot), .d (.str qx.Body), .d (.int .i64 qx.Prio), .d (.int .i64 qx.At), .d (.int .i64 qx.Until)])]⟩)

theorem z312 {qy : api_Letter} {qx : api_Letter} {r} (hF : z310 qy qx = some r) : Holds prog 146 [.v (.agg [.d (.str qy.Id), .d (.str qy.Slot), .d (.str qy.Body), .d (.int .i64 qy.Prio), .d (.int .i64 qy.At), .d (.int .i64 qy.Until)]), .v (.one (.box 0 0))] ⟨[], [(0, [.d (.str qx.Id), .d (.str qx.Slot), .d (.str qx.Body), .d (.int .i64 qx.Prio), .d (.int .i64 qx.At), .d (.int .i64 qx.Until)])]⟩ (Is (z311 qy qx r)) := by
  unfold z310 at hF
  refine holds_of_awp hΓ (fn := f146) (c := cB f146) (A := 1) (nx := 1) (by kernel_rfl) (by kernel_rfl) (by kernel_rfl) (by kernel_rfl) (by kernel_rfl) (by kernel_rfl) (lowc_of (by kernel_rfl)) ?_
  show Awp prog 1 9 (cB f146) _ _
  refine awp_seq ?_
  refine awp_region ?_
  refine aR 2 ?_
  refine aE ?_
  refine awp_seq ?_
  refine awp_region ?_
  refine aR 6 ?_
  refine aE ?_
  refine awp_ret ?_
  exact oF hF [] []

/-! ### slices.IndexFunc[[]beaconfleet/api.Letter,beaconfleet/api.Letter] -/
def z633 : Unit ⊕ Int → AEx
  | .inl _ => .exit 0
  | .inr _ => .ret

def z632 (qs : List api_Letter) (qf : api_Letter) : Unit ⊕ Int → St
  | .inl _ => Mem.st ⟨[], [(0, [.d (.str qf.Id), .d (.str qf.Slot), .d (.str qf.Body), .d (.int .i64 qf.Prio), .d (.int .i64 qf.At), .d (.int .i64 qf.Until)])]⟩ (tl []) 1
  | .inr vx1 => Mem.st ⟨[], [(0, [.d (.str qf.Id), .d (.str qf.Slot), .d (.str qf.Body), .d (.int .i64 qf.Prio), .d (.int .i64 qf.At), .d (.int .i64 qf.Until)])]⟩ (tl [(4, .v (.one (.d (.int .i64 vx1))))]) 1

def z631 (qs : List api_Letter) (qf : api_Letter) : Int → St
  | vx => Mem.st ⟨[], [(0, [.d (.str qf.Id), .d (.str qf.Slot), .d (.str qf.Body), .d (.int .i64 qf.Prio), .d (.int .i64 qf.At), .d (.int .i64 qf.Until)])]⟩ (tl [(0, .v (.one (.d (.lst (List.map api_Letter.enc qs))))), (1, .v (.one (.fn 146 [0]))), (7, .v (.one (.d (.int .i64 (qs.length : Int))))), (8, .v (.one (.d (.int .i64 vx))))]) 1

theorem z634 (qs : List api_Letter) (qf : api_Letter) (vx : Int) (r : (Int) ⊕ (Unit ⊕ Int)) (hF : z630 qs qf vx = some r) : Awp prog 1 19 (cL (cL (cR (cL (cR (cB f86)))))) (Out 1 (kk z633) (SS (z631 qs qf) (z632 qs qf)) r) (z631 qs qf vx) := by
  unfold z630 at hF
  refine awp_seq ?_
  refine awp_region ?_
  refine aR 1 ?_
  refine aE ?_
  refine awp_seq ?_
  refine cE hF (fun h1 hF => ?_) fun h1 hF => ?_
  · refine awp_true (by kernel_rfl) h1 ?_
    refine awp_skip ?_
    refine awp_seq ?_
    refine awp_block ?_
    refine awp_seq ?_
    refine awp_region ?_
    refine aR 2 ?_
    refine aE ?_
    refine awp_seq ?_
    refine bE hF fun vy1 h2 hF => ?_
    refine bE hF fun _ h3 hF => ?_
    refine awp_region ?_
    refine aR 3 ?_
    refine aX (x_idx api_Letter.enc h2) ?_
    refine aR 1 ?_
    refine aC (z312 h3) [] [] [] ?_
    refine aE ?_
    refine cE hF (fun h4 hF => ?_) fun h4 hF => ?_
    · refine awp_true (by kernel_rfl) h4 ?_
      refine awp_seq ?_
      refine awp_region ?_
      refine aR 2 ?_
      refine aE ?_
      refine awp_ret ?_
      exact oO hF [] [] rfl
    · refine awp_false (by kernel_rfl) h4 ?_
      refine awp_skip ?_
      refine awp_region ?_
      refine aR 2 ?_
      refine aE ?_
      exact oO hF [] [] rfl
  · refine awp_false (by kernel_rfl) h1 ?_
    refine awp_exit ?_
    exact oO hF [] [] rfl

def z628 (qs : List api_Letter) (qf : api_Letter) (r : Int) : TV × Mem := (.v (.one (.d (.int .i64 r))), ⟨[], [(0, [.d (.str qf.Id), .d (.str qf.Slot), .d (.str qf.Body), .d (.int .i64 qf.Prio), .d (.int .i64 qf.At), .d (.int .i64 qf.Until)])]⟩)

theorem z629 {qs : List api_Letter} {qf : api_Letter} {r} (hF : z627 qs qf = some r) : Holds prog 86 [.v (.one (.d (.lst (List.map api_Letter.enc qs)))), .v (.one (.fn 146 [0]))] ⟨[], [(0, [.d (.str qf.Id), .d (.str qf.Slot), .d (.str qf.Body), .d (.int .i64 qf.Prio), .d (.int .i64 qf.At), .d (.int .i64 qf.Until)])]⟩ (Is (z628 qs qf r)) := by
  unfold z627 at hF
  refine holds_of_awp hΓ (fn := f86) (c := cB f86) (A := 1) (nx := 1) (by kernel_rfl) (by kernel_rfl) (by kernel_rfl) (by kernel_rfl) (by kernel_rfl) (by kernel_rfl) (lowc_of (by kernel_rfl)) ?_
  show Awp prog 1 19 (cB f86) _ _
  refine awp_seq ?_
  refine awp_region ?_
  refine aR 1 ?_
  refine aE ?_
  refine awp_seq ?_
  refine awp_seq ?_
  refine awp_region ?_
  refine aR 1 ?_
  refine aL api_Letter.enc qs ?_
  refine aR 1 ?_
  refine aE ?_
  refine awp_block ?_
  refine awp_to (st' := z631 qs qf 0) (oT [] []) ?_
  refine bE hF fun x h5 hF => ?_
  rcases x with _ | vx1_1
  · refine awp_sub (awp_loop' (z631 qs qf) z633 (z632 qs qf) (by intro x; rcases x with x | x <;> exact fun h => nomatch h) h5 (z634 qs qf)) ?_
    refine awp_seq ?_
    refine awp_region ?_
    refine aR 1 ?_
    refine aE ?_
    refine awp_ret ?_
    exact oF hF [] []
  · refine awp_sub (awp_loop' (z631 qs qf) z633 (z632 qs qf) (by intro x; rcases x with x | x <;> exact fun h => nomatch h) h5 (z634 qs qf)) ?_
    exact oF hF [] []

/-! ### slices.ContainsFunc[[]beaconfleet/api.Letter,beaconfleet/api.Letter] -/
def z608 (qs : List api_Letter) (qf : api_Letter) (r : Bool) : TV × Mem := (.v (.one (.d (.bool r))), ⟨[], [(0, [.d (.str qf.Id), .d (.str qf.Slot), .d (.str qf.Body), .d (.int .i64 qf.Prio), .d (.int .i64 qf.At), .d (.int .i64 qf.Until)])]⟩)

theorem z609 {qs : List api_Letter} {qf : api_Letter} {r} (hF : z607 qs qf = some r) : Holds prog 24 [.v (.one (.d (.lst (List.map api_Letter.enc qs)))), .v (.one (.fn 146 [0]))] ⟨[], [(0, [.d (.str qf.Id), .d (.str qf.Slot), .d (.str qf.Body), .d (.int .i64 qf.Prio), .d (.int .i64 qf.At), .d (.int .i64 qf.Until)])]⟩ (Is (z608 qs qf r)) := by
  unfold z607 at hF
  refine holds_of_awp hΓ (fn := f24) (c := cB f24) (A := 1) (nx := 1) (by kernel_rfl) (by kernel_rfl) (by kernel_rfl) (by kernel_rfl) (by kernel_rfl) (by kernel_rfl) (lowc_of (by kernel_rfl)) ?_
  show Awp prog 1 9 (cB f24) _ _
  refine awp_seq ?_
  refine awp_region ?_
  refine aR 1 ?_
  refine aE ?_
  refine awp_seq ?_
  refine bE hF fun vr h1 hF => ?_
  refine awp_region ?_
  refine aR 2 ?_
  refine aC (z629 h1) [] [] [] ?_
  refine aR 2 ?_
  refine aE ?_
  refine awp_ret ?_
  exact oF hF [] []

/-! ### beaconfleet/command.Order -/
def z319 : Unit ⊕ Int → AEx
  | .inl _ => .exit 0
  | .inr _ => .ret

def z318 (ql : List api_Letter) : Unit ⊕ Int → St
  | .inl _ => Mem.st ⟨[], []⟩ (tl [(0, .v (.one (.d (.lst (List.map api_Letter.enc ql)))))]) 1
  | .inr vx1 => Mem.st ⟨[], []⟩ (tl [(2, .v (.one (.nil))), (3, .v (.one (.d (.int .i64 vx1))))]) 1

def z317 (ql : List api_Letter) : Int → St
  | vx => Mem.st ⟨[], []⟩ (tl [(0, .v (.one (.d (.lst (List.map api_Letter.enc ql))))), (11, .v (.one (.d (.lst (List.map api_Letter.enc ql))))), (12, .v (.one (.d (.int .i64 (ql.length : Int))))), (13, .v (.one (.d (.int .i64 vx))))]) 1

theorem z320 (ql : List api_Letter) (vx : Int) (r : (Int) ⊕ (Unit ⊕ Int)) (hF : z316 ql vx = some r) : Awp prog 1 34 (cL (cL (cR (cL (cR (cR (cB f70))))))) (Out 1 (kk z319) (SS (z317 ql) (z318 ql)) r) (z317 ql vx) := by
  unfold z316 at hF
  refine awp_seq ?_
  refine awp_region ?_
  refine aR 1 ?_
  refine aE ?_
  refine awp_seq ?_
  refine cE hF (fun h2 hF => ?_) fun h2 hF => ?_
  · refine awp_true (by kernel_rfl) h2 ?_
    refine awp_skip ?_
    refine awp_seq ?_
    refine awp_block ?_
    refine awp_seq ?_
    refine bE hF fun vy1 h3 hF => ?_
    refine awp_region ?_
    refine aR 1 ?_
    refine aX (x_idx api_Letter.enc h3) ?_
    refine aR 4 ?_
    refine aE ?_
    refine awp_seq ?_
    refine awp_seq ?_
    refine bE hF fun vr3_1 h4 hF => ?_
    refine awp_region ?_
    refine aR 1 ?_
    refine aC (z161 h4) [] [] [] ?_
    refine aR 1 ?_
    refine aE ?_
    refine awp_seq ?_
    refine awp_region ?_
    refine aR 2 ?_
    refine aE ?_
    refine cE hF (fun h5 hF => ?_) fun h5 hF => ?_
    · refine awp_true (by kernel_rfl) h5 ?_
      refine awp_seq ?_
      refine awp_region ?_
      refine aR 3 ?_
      refine aE ?_
      refine awp_ret ?_
      exact oO hF [] [] rfl
    · refine awp_false (by kernel_rfl) h5 ?_
      refine awp_skip ?_
      refine awp_seq ?_
      refine bE hF fun vl1 h6 hF => ?_
      refine bE hF fun vr1_1 h7 hF => ?_
      refine awp_region ?_
      refine aR 2 ?_
      refine aX (x_slice api_Letter.enc h6) ?_
      refine aR 1 ?_
      refine aC (z609 h7) [(0, 4001)] [] [] ?_
      refine aE ?_
      refine cE hF (fun h8 hF => ?_) fun h8 hF => ?_
      · refine awp_true (by kernel_rfl) h8 ?_
        refine awp_seq ?_
        refine awp_region ?_
        refine aR 2 ?_
        refine aE ?_
        refine awp_ret ?_
        exact oO hF [] [] rfl
      · refine awp_false (by kernel_rfl) h8 ?_
        refine awp_skip ?_
        refine awp_region ?_
        refine aR 2 ?_
        refine aE ?_
        exact oO hF [] [] rfl
  · refine awp_false (by kernel_rfl) h2 ?_
    refine awp_exit ?_
    exact oO hF [] [] rfl

def z314 (ql : List api_Letter) (r : (List api_Letter) × Int) : TV × Mem := (.tup [.one (.own 1 none), .one (.d (.int .i64 r.2))], ⟨[(1, ⟨32, 6, List.map api_Letter.enc r.1⟩)], []⟩)

theorem z315 {ql : List api_Letter} {r} (hF : z313 ql = some r) : Holds prog 70 [.v (.one (.own 0 none))] ⟨[(0, ⟨32, 6, List.map api_Letter.enc ql⟩)], []⟩ (Is (z314 ql r)) := by
  unfold z313 at hF
  refine holds_of_awp hΓ (fn := f70) (c := cB f70) (A := 1) (nx := 1) (by kernel_rfl) (by kernel_rfl) (by kernel_rfl) (by kernel_rfl) (by kernel_rfl) (by kernel_rfl) (lowc_of (by kernel_rfl)) ?_
  show Awp prog 1 34 (cB f70) _ _
  refine awp_seq ?_
  refine awp_region ?_
  refine aR 2 ?_
  refine aE ?_
  refine awp_to (oT (m := ⟨[], []⟩) (ts := [(0, .v (.one (.d (.lst (List.map api_Letter.enc ql)))))]) (nx := 1) [] []) ?_
  refine awp_seq ?_
  refine awp_seq ?_
  refine awp_region ?_
  refine aR 1 ?_
  refine aL api_Letter.enc ql ?_
  refine aR 1 ?_
  refine aE ?_
  refine cE hF (fun h1 hF => ?_) fun h1 hF => ?_
  · refine awp_true (by kernel_rfl) h1 ?_
    refine awp_seq ?_
    refine awp_region ?_
    refine aR 2 ?_
    refine aE ?_
    refine awp_ret ?_
    exact oF hF [] [1]
  · refine awp_false (by kernel_rfl) h1 ?_
    refine awp_skip ?_
    refine awp_seq ?_
    refine awp_seq ?_
    refine awp_region ?_
    refine aR 1 ?_
    refine aL api_Letter.enc ql ?_
    refine aR 1 ?_
    refine aE ?_
    refine awp_block ?_
    refine awp_to (st' := z317 ql 0) (oT [] []) ?_
    refine bE hF fun x h9 hF => ?_
    rcases x with _ | vx1_1
    · refine awp_sub (awp_loop' (z317 ql) z319 (z318 ql) (by intro x; rcases x with x | x <;> exact fun h => nomatch h) h9 (z320 ql)) ?_
      refine awp_seq ?_
      refine bE hF fun vr h10 hF => ?_
      refine awp_region ?_
      refine aR 1 ?_
      refine aC (z588 h10) [] [] [] ?_
      refine aR 1 ?_
      refine aE ?_
      refine awp_seq ?_
      refine bE hF fun vl2 h11 hF => ?_
      refine gE hF fun h12 hF => ?_
      refine awp_region ?_
      refine aR 1 ?_
      refine aCp (z661 h11) ⟨⟨rfl, rfl, pin1 h12⟩, trivial⟩ [(0, 1001)] [] [] ?_
      refine aE ?_
      refine awp_seq ?_
      refine awp_region ?_
      refine aR 3 ?_
      refine aE ?_
      refine awp_ret ?_
      exact oF hF [(1, 1001)] []
    · refine awp_sub (awp_loop' (z317 ql) z319 (z318 ql) (by intro x; rcases x with x | x <;> exact fun h => nomatch h) h9 (z320 ql)) ?_
      exact oF hF [] [1]

/-! ### beaconfleet/fleetkeep2.errs -/
def z435 : Unit ⊕ Int → AEx
  | .inl _ => .exit 0
  | .inr _ => .ret

def z434 (ql : List Int) : Unit ⊕ Int → St
  | .inl _ => Mem.st ⟨[], []⟩ (tl []) 0
  | .inr vx1 => Mem.st ⟨[], []⟩ (tl [(2, .v (.one (.d (.int .i64 vx1))))]) 0

def z433 (ql : List Int) : Int → St
  | vx => Mem.st ⟨[], []⟩ (tl [(5, .v (.one (.d (.lst (List.map (encI .i64) ql))))), (6, .v (.one (.d (.int .i64 (ql.length : Int))))), (7, .v (.one (.d (.int .i64 vx))))]) 0

theorem z436 (ql : List Int) (vx : Int) (r : (Int) ⊕ (Unit ⊕ Int)) (hF : z432 ql vx = some r) : Awp prog 0 15 (cL (cL (cR (cL (cR (cB f71)))))) (Out 0 (kk z435) (SS (z433 ql) (z434 ql)) r) (z433 ql vx) := by
  unfold z432 at hF
  refine awp_seq ?_
  refine awp_region ?_
  refine aR 1 ?_
  refine aE ?_
  refine awp_seq ?_
  refine cE hF (fun h1 hF => ?_) fun h1 hF => ?_
  · refine awp_true (by kernel_rfl) h1 ?_
    refine awp_skip ?_
    refine awp_seq ?_
    refine awp_block ?_
    refine awp_seq ?_
    refine bE hF fun vy1 h2 hF => ?_
    refine awp_region ?_
    refine aX (x_idx (encI .i64) h2) ?_
    refine aR 2 ?_
    refine aE ?_
    refine awp_seq ?_
    refine awp_region ?_
    refine aR 2 ?_
    refine aE ?_
    refine cE hF (fun h3 hF => ?_) fun h3 hF => ?_
    · refine awp_true (by kernel_rfl) h3 ?_
      refine awp_seq ?_
      refine awp_region ?_
      refine aR 2 ?_
      refine aE ?_
      refine awp_ret ?_
      exact oO hF [] [] rfl
    · refine awp_false (by kernel_rfl) h3 ?_
      refine awp_skip ?_
      refine awp_region ?_
      refine aR 2 ?_
      refine aE ?_
      exact oO hF [] [] rfl
  · refine awp_false (by kernel_rfl) h1 ?_
    refine awp_exit ?_
    exact oO hF [] [] rfl

def z430 (ql : List Int) (r : Int) : TV × Mem := (.v (.one (.d (.int .i64 r))), ⟨[], []⟩)

theorem z431 {ql : List Int} {r} (hF : z429 ql = some r) : Holds prog 71 [.v (.one (.d (.lst (List.map (encI .i64) ql))))] ⟨[], []⟩ (Is (z430 ql r)) := by
  unfold z429 at hF
  refine holds_of_awp hΓ (fn := f71) (c := cB f71) (A := 0) (nx := 0) (by kernel_rfl) (by kernel_rfl) (by kernel_rfl) (by kernel_rfl) (by kernel_rfl) (by kernel_rfl) (lowc_of (by kernel_rfl)) ?_
  show Awp prog 0 15 (cB f71) _ _
  refine awp_seq ?_
  refine awp_region ?_
  refine aR 1 ?_
  refine aE ?_
  refine awp_seq ?_
  refine awp_seq ?_
  refine awp_region ?_
  refine aR 1 ?_
  refine aL (encI .i64) ql ?_
  refine aR 1 ?_
  refine aE ?_
  refine awp_block ?_
  refine awp_to (st' := z433 ql 0) (oT [] []) ?_
  refine bE hF fun x h4 hF => ?_
  rcases x with _ | vx1_1
  · refine awp_sub (awp_loop' (z433 ql) z435 (z434 ql) (by intro x; rcases x with x | x <;> exact fun h => nomatch h) h4 (z436 ql)) ?_
    refine awp_seq ?_
    refine awp_region ?_
    refine aR 1 ?_
    refine aE ?_
    refine awp_ret ?_
    exact oF hF [] []
  · refine awp_sub (awp_loop' (z433 ql) z435 (z434 ql) (by intro x; rcases x with x | x <;> exact fun h => nomatch h) h4 (z436 ql)) ?_
    exact oF hF [] []

/-! ### slices.Equal[[]byte,byte] -/
def z625 : Unit ⊕ Unit → AEx
  | .inl _ => .exit 0
  | .inr _ => .ret

def z624 (qs1 : List Int) (qs2 : List Int) : Unit ⊕ Unit → St
  | .inl _ => Mem.st ⟨[], []⟩ (tl []) 0
  | .inr _ => Mem.st ⟨[], []⟩ (tl [(4, .v (.one (.d (.bool false))))]) 0

def z623 (qs1 : List Int) (qs2 : List Int) : Int → St
  | vx => Mem.st ⟨[], []⟩ (tl [(0, .v (.one (.d (.lst (List.map (encI .u8) qs1))))), (1, .v (.one (.d (.lst (List.map (encI .u8) qs2))))), (12, .v (.one (.d (.int .i64 (qs1.length : Int))))), (13, .v (.one (.d (.int .i64 vx))))]) 0

theorem z626 (qs1 : List Int) (qs2 : List Int) (vx : Int) (r : (Int) ⊕ (Unit ⊕ Unit)) (hF : z622 qs1 qs2 vx = some r) : Awp prog 0 26 (cL (cL (cR (cL (cR (cR (cB f44))))))) (Out 0 (kk z625) (SS (z623 qs1 qs2) (z624 qs1 qs2)) r) (z623 qs1 qs2 vx) := by
  unfold z622 at hF
  refine awp_seq ?_
  refine awp_region ?_
  refine aR 1 ?_
  refine aE ?_
  refine awp_seq ?_
  refine cE hF (fun h2 hF => ?_) fun h2 hF => ?_
  · refine awp_true (by kernel_rfl) h2 ?_
    refine awp_skip ?_
    refine awp_seq ?_
    refine awp_block ?_
    refine awp_seq ?_
    refine awp_region ?_
    refine aR 2 ?_
    refine aE ?_
    refine awp_seq ?_
    refine bE hF fun vy2 h3 hF => ?_
    refine bE hF fun vy3 h4 hF => ?_
    refine aD ?_
    refine dR 2 ?_
    refine dX (x_idx (encI .u8) h3) ?_
    refine dR 3 ?_
    refine dX (x_idx (encI .u8) h4) ?_
    refine dR 2 ?_
    refine dE ?_
    refine cE hF (fun h5 hF => ?_) fun h5 hF => ?_
    · refine awp_true (by kernel_rfl) h5 ?_
      refine awp_seq ?_
      refine awp_region ?_
      refine aR 1 ?_
      refine aE ?_
      refine awp_ret ?_
      exact oO hF [] [] rfl
    · refine awp_false (by kernel_rfl) h5 ?_
      refine awp_skip ?_
      refine awp_region ?_
      refine aR 2 ?_
      refine aE ?_
      exact oO hF [] [] rfl
  · refine awp_false (by kernel_rfl) h2 ?_
    refine awp_exit ?_
    exact oO hF [] [] rfl

def z620 (qs1 : List Int) (qs2 : List Int) (r : Bool) : TV × Mem := (.v (.one (.d (.bool r))), ⟨[], []⟩)

theorem z621 {qs1 : List Int} {qs2 : List Int} {r} (hF : z619 qs1 qs2 = some r) : Holds prog 44 [.v (.one (.d (.lst (List.map (encI .u8) qs1)))), .v (.one (.d (.lst (List.map (encI .u8) qs2))))] ⟨[], []⟩ (Is (z620 qs1 qs2 r)) := by
  unfold z619 at hF
  refine holds_of_awp hΓ (fn := f44) (c := cB f44) (A := 0) (nx := 0) (by kernel_rfl) (by kernel_rfl) (by kernel_rfl) (by kernel_rfl) (by kernel_rfl) (by kernel_rfl) (lowc_of (by kernel_rfl)) ?_
  show Awp prog 0 26 (cB f44) _ _
  refine awp_seq ?_
  refine awp_region ?_
  refine aR 1 ?_
  refine aE ?_
  refine awp_seq ?_
  refine awp_seq ?_
  refine awp_region ?_
  refine aR 1 ?_
  refine aL (encI .u8) qs1 ?_
  refine aR 1 ?_
  refine aL (encI .u8) qs2 ?_
  refine aR 1 ?_
  refine aE ?_
  refine cE hF (fun h1 hF => ?_) fun h1 hF => ?_
  · refine awp_true (by kernel_rfl) h1 ?_
    refine awp_seq ?_
    refine awp_region ?_
    refine aR 1 ?_
    refine aE ?_
    refine awp_ret ?_
    exact oF hF [] []
  · refine awp_false (by kernel_rfl) h1 ?_
    refine awp_skip ?_
    refine awp_seq ?_
    refine awp_seq ?_
    refine awp_region ?_
    refine aR 1 ?_
    refine aL (encI .u8) qs1 ?_
    refine aR 1 ?_
    refine aE ?_
    refine awp_block ?_
    refine awp_to (st' := z623 qs1 qs2 0) (oT [] []) ?_
    refine bE hF fun x h6 hF => ?_
    rcases x with _ | _
    · refine awp_sub (awp_loop' (z623 qs1 qs2) z625 (z624 qs1 qs2) (by intro x; rcases x with x | x <;> exact fun h => nomatch h) h6 (z626 qs1 qs2)) ?_
      refine awp_seq ?_
      refine awp_region ?_
      refine aR 1 ?_
      refine aE ?_
      refine awp_ret ?_
      exact oF hF [] []
    · refine awp_sub (awp_loop' (z623 qs1 qs2) z625 (z624 qs1 qs2) (by intro x; rcases x with x | x <;> exact fun h => nomatch h) h6 (z626 qs1 qs2)) ?_
      exact oF hF [] []

/-! ### beaconfleet/fleetkeep2.ready -/
def z443 : Bool → AEx
  | _ => .normal

def z442 (vr5 : List api_Change) (vr6 : Int) (vr : List Int) (vr2 : Int) (vr2_1 : api_Version) (vr4 : Int) (vr1 : List UInt8) (vr3 : Int) (vr2_2 : List api_Letter) (vr4_1 : Int) : Bool → St
  | vx => Mem.st ⟨[], []⟩ (tl [(0, .v (.one (.d (.bool vx))))]) 0

def z441 (vr5 : List api_Change) (vr6 : Int) (vr : List Int) (vr2 : Int) (vr2_1 : api_Version) (vr4 : Int) (vr1 : List UInt8) (vr3 : Int) (vr2_2 : List api_Letter) (vr4_1 : Int) : St := Mem.st ⟨[], [(0, [.d (.int .i64 vr2_1.Major), .d (.int .i64 vr2_1.Minor), .d (.int .i64 vr2_1.Patch)])]⟩ (tl [(1, .v (.one (.d (.lst (List.map api_Change.enc vr5))))), (2, .v (.one (.d (.int .i64 vr6)))), (3, .v (.one (.d (.lst (List.map (encI .u8) vr))))), (4, .v (.one (.d (.int .i64 vr2)))), (5, .v (.one (.box 0 0))), (6, .v (.one (.d (.int .i64 vr4)))), (7, .v (.one (.d (.str vr1)))), (8, .v (.one (.d (.int .i64 vr3)))), (9, .v (.one (.d (.lst (List.map api_Letter.enc vr2_2))))), (10, .v (.one (.d (.int .i64 vr4_1))))]) 1

theorem z444 (vr5 : List api_Change) (vr6 : Int) (vr : List Int) (vr2 : Int) (vr2_1 : api_Version) (vr4 : Int) (vr1 : List UInt8) (vr3 : Int) (vr2_2 : List api_Letter) (vr4_1 : Int) {r} (hF : z440 vr5 vr6 vr vr2 vr2_1 vr4 vr1 vr3 vr2_2 vr4_1 = some r) : Awp prog 0 71 (cL (cR (cR (cR (cR (cR (cR (cB f14)))))))) (Out 0 z443 (z442 vr5 vr6 vr vr2 vr2_1 vr4 vr1 vr3 vr2_2 vr4_1) r) (z441 vr5 vr6 vr vr2 vr2_1 vr4 vr1 vr3 vr2_2 vr4_1) := by
  unfold z440 at hF
  refine bE hF fun vr7 h6 hF => ?_
  refine cE hF (fun h7 hF => ?_) fun h7 hF => ?_
  · refine cE hF (fun h8 hF => ?_) fun h8 hF => ?_
    · refine bE hF fun vr8 h9 hF => ?_
      refine cE hF (fun h10 hF => ?_) fun h10 hF => ?_
      · refine cE hF (fun h11 hF => ?_) fun h11 hF => ?_
        · refine cE hF (fun h12 hF => ?_) fun h12 hF => ?_
          · refine awp_region ?_
            refine aR 6 ?_
            refine aC (z431 h6) [] [] [5001] ?_
            refine aB h7 ?_
            refine aR 2 ?_
            refine aL api_Change.enc vr5 ?_
            refine aB h8 ?_
            refine aR 4 ?_
            refine aCb (z621 h9) [] [] [15001] h10 ?_
            refine aR 4 ?_
            refine aB h11 ?_
            refine aR 3 ?_
            refine aB h12 ?_
            refine aR 3 ?_
            refine aL api_Letter.enc vr2_2 ?_
            refine aR 3 ?_
            refine aE ?_
            exact oO hF [] [] rfl
          · refine awp_region ?_
            refine aR 6 ?_
            refine aC (z431 h6) [] [] [5001] ?_
            refine aB h7 ?_
            refine aR 2 ?_
            refine aL api_Change.enc vr5 ?_
            refine aB h8 ?_
            refine aR 4 ?_
            refine aCb (z621 h9) [] [] [15001] h10 ?_
            refine aR 4 ?_
            refine aB h11 ?_
            refine aR 3 ?_
            refine aB h12 ?_
            refine aR 7 ?_
            refine aE ?_
            exact oO hF [] [] rfl
        · refine awp_region ?_
          refine aR 6 ?_
          refine aC (z431 h6) [] [] [5001] ?_
          refine aB h7 ?_
          refine aR 2 ?_
          refine aL api_Change.enc vr5 ?_
          refine aB h8 ?_
          refine aR 4 ?_
          refine aCb (z621 h9) [] [] [15001] h10 ?_
          refine aR 4 ?_
          refine aB h11 ?_
          refine aR 11 ?_
          refine aE ?_
          exact oO hF [] [] rfl
      · refine awp_region ?_
        refine aR 6 ?_
        refine aC (z431 h6) [] [] [5001] ?_
        refine aB h7 ?_
        refine aR 2 ?_
        refine aL api_Change.enc vr5 ?_
        refine aB h8 ?_
        refine aR 4 ?_
        refine aCb (z621 h9) [] [] [15001] h10 ?_
        refine aR 16 ?_
        refine aE ?_
        exact oO hF [] [] rfl
    · refine awp_region ?_
      refine aR 6 ?_
      refine aC (z431 h6) [] [] [5001] ?_
      refine aB h7 ?_
      refine aR 2 ?_
      refine aL api_Change.enc vr5 ?_
      refine aB h8 ?_
      refine aR 21 ?_
      refine aE ?_
      exact oO hF [] [] rfl
  · refine awp_region ?_
    refine aR 6 ?_
    refine aC (z431 h6) [] [] [5001] ?_
    refine aB h7 ?_
    refine aR 25 ?_
    refine aE ?_
    exact oO hF [] [] rfl

def z438 (r : Bool) : TV × Mem := (.v (.one (.d (.bool r))), ⟨[], []⟩)

theorem z439 {r} (hF : z437 = some r) : Holds prog 14 [] ⟨[], []⟩ (Is (z438  r)) := by
  unfold z437 at hF
  refine holds_of_awp hΓ (fn := f14) (c := cB f14) (A := 0) (nx := 0) (by kernel_rfl) (by kernel_rfl) (by kernel_rfl) (by kernel_rfl) (by kernel_rfl) (by kernel_rfl) (lowc_of (by kernel_rfl)) ?_
  show Awp prog 0 71 (cB f14) _ _
  refine awp_seq ?_
  refine awp_region ?_
  refine aR 1 ?_
  refine aE ?_
  refine awp_seq ?_
  refine bE hF fun x h1 hF => ?_
  obtain ⟨vr5, vr6⟩ := x
  refine awp_region ?_
  refine aR 3 ?_
  refine aC (z1078 h1) [(0, 3000)] [] [] ?_
  refine aR 5 ?_
  refine aE ?_
  refine awp_to (oT (m := ⟨[], []⟩) (ts := [(1, .v (.one (.d (.lst (List.map api_Change.enc vr5))))), (2, .v (.one (.d (.int .i64 vr6))))]) (nx := 0) [] []) ?_
  refine awp_seq ?_
  refine bE hF fun x h2 hF => ?_
  obtain ⟨vr, vr2⟩ := x
  refine awp_region ?_
  refine aR 2 ?_
  refine aC (z529 h2) [(0, 1000)] [] [] ?_
  refine aR 5 ?_
  refine aE ?_
  refine awp_to (oT (m := ⟨[], []⟩) (ts := [(1, .v (.one (.d (.lst (List.map api_Change.enc vr5))))), (2, .v (.one (.d (.int .i64 vr6)))), (3, .v (.one (.d (.lst (List.map (encI .u8) vr))))), (4, .v (.one (.d (.int .i64 vr2))))]) (nx := 0) [] []) ?_
  refine awp_seq ?_
  refine bE hF fun x h3 hF => ?_
  obtain ⟨vr2_1, vr4⟩ := x
  refine awp_region ?_
  refine aC (z126 h3) [] [] [] ?_
  refine aR 6 ?_
  refine aE ?_
  refine awp_seq ?_
  refine bE hF fun x h4 hF => ?_
  obtain ⟨vr1, vr3⟩ := x
  refine awp_region ?_
  refine aR 1 ?_
  refine aC (z474 h4) [] [] [] ?_
  refine aR 5 ?_
  refine aE ?_
  refine awp_seq ?_
  refine bE hF fun x h5 hF => ?_
  obtain ⟨vr2_2, vr4_1⟩ := x
  refine awp_region ?_
  refine aR 2 ?_
  refine aC (z315 h5) [(0, 15000)] [] [] ?_
  refine aR 5 ?_
  refine aE ?_
  refine awp_to (oT (m := ⟨[], [(0, [.d (.int .i64 vr2_1.Major), .d (.int .i64 vr2_1.Minor), .d (.int .i64 vr2_1.Patch)])]⟩) (ts := [(1, .v (.one (.d (.lst (List.map api_Change.enc vr5))))), (2, .v (.one (.d (.int .i64 vr6)))), (3, .v (.one (.d (.lst (List.map (encI .u8) vr))))), (4, .v (.one (.d (.int .i64 vr2)))), (5, .v (.one (.box 0 0))), (6, .v (.one (.d (.int .i64 vr4)))), (7, .v (.one (.d (.str vr1)))), (8, .v (.one (.d (.int .i64 vr3)))), (9, .v (.one (.d (.lst (List.map api_Letter.enc vr2_2))))), (10, .v (.one (.d (.int .i64 vr4_1))))]) (nx := 1) [(0, 4000)] []) ?_
  refine awp_seq ?_
  refine awp_to (st' := z441 vr5 vr6 vr vr2 vr2_1 vr4 vr1 vr3 vr2_2 vr4_1) (oT [] []) ?_
  refine bE hF fun vx1 h13 hF => ?_
  refine awp_sub (z444 vr5 vr6 vr vr2 vr2_1 vr4 vr1 vr3 vr2_2 vr4_1 h13) ?_
  refine awp_ret ?_
  exact oF hF [] []

end Go.Eng
