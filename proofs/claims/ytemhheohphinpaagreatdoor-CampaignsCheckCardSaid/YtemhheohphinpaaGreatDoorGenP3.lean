/-
The code of the Go functions that the law CampaignsCheck reaches does what the plain functions say, part 3.
-/
import Derived.Test.YtemhheohphinpaaGreatDoorGenP2

namespace Go.Eng

open Go Go.Proofs.Tryz

set_option linter.unusedVariables false

set_option maxRecDepth 20000

set_option maxHeartbeats 0

/-! ### internal/strconv.underscoreOK -/
def z906 (qx : List UInt8) : Bool → St
  | vx => Mem.st ⟨[], []⟩ (tl [(0, .c (.s qx)), (3, .c (.d (.int .i32 94))), (4, .i 0), (18, .b vx)]) 0

def z905 (qx : List UInt8) : St := Mem.st ⟨[], []⟩ (tl [(0, .c (.s qx)), (3, .c (.d (.int .i32 94))), (4, .i 0)]) 0

theorem z907 (qx : List UInt8) {r} (hF : z904 qx = some r) : Awp prog 0 94 (cL (cL (cR (cR (cR (cB f237)))))) (Out 0 nrm (z906 qx) r) (z905 qx) := by
  unfold z904 at hF
  refine cE hF (fun h1 hF => ?_) fun h1 hF => ?_
  · refine bE hF fun vc h2 hF => cE hF (fun h3 hF => ?_) fun h3 hF => ?_
    · refine awp_region (aR 2 (aB h1 (aR 2 (aX (x_idxS h2) (aB h3 (aR 6 (aE ?_)))))))
      exact oO hF [] [] rfl
    · refine awp_region (aR 2 (aB h1 (aR 2 (aX (x_idxS h2) (aB h3 (aR 2 (aX (x_idxS h2) (aR 3 (aE ?_)))))))))
      exact oO hF [] [] rfl
  · refine awp_region (aR 2 (aB h1 (aR 10 (aE ?_))))
    exact oO hF [] [] rfl

def z902 (qx : List UInt8) : (List UInt8) → St
  | vx2 => Mem.st ⟨[], []⟩ (tl [(0, .c (.s vx2)), (3, .c (.d (.int .i32 94))), (4, .i 0)]) 0

def z901 (qx : List UInt8) : St := Mem.st ⟨[], []⟩ (tl [(0, .c (.s qx)), (3, .c (.d (.int .i32 94))), (4, .i 0)]) 0

theorem z903 (qx : List UInt8) {r} (hF : z900 qx = some r) : Awp prog 0 94 (cL (cR (cR (cR (cB f237))))) (Out 0 nrm (z902 qx) r) (z901 qx) := by
  unfold z900 at hF
  refine awp_seq (awp_to (st' := z905 qx) (oT [] []) ?_)
  refine bE hF fun vx1 h4 hF => awp_sub (z907 qx h4) ?_
  refine cE hF (fun h5 hF => ?_) fun h5 hF => ?_
  · refine tT h5 (bE hF fun vs h6 hF => awp_region (aR 1 (aX (x_sliceS h6) (aR 1 (aE ?_)))))
    exact oO hF [] [] rfl
  · exact tF h5 (awp_skip (oO hF [] [] rfl))

def z914 (vx2_1 : List UInt8) : Bool → St
  | vx3 => Mem.st ⟨[], []⟩ (tl [(0, .c (.s vx2_1)), (3, .c (.d (.int .i32 94))), (4, .i 0), (5, .b false), (46, .b vx3)]) 0

def z913 (vx2_1 : List UInt8) : St := Mem.st ⟨[], []⟩ (tl [(0, .c (.s vx2_1)), (3, .c (.d (.int .i32 94))), (4, .i 0), (5, .b false)]) 0

theorem z915 (vx2_1 : List UInt8) {r} (hF : z912 vx2_1 = some r) : Awp prog 0 94 (cL (cL (cR (cR (cR (cR (cR (cB f237)))))))) (Out 0 nrm (z914 vx2_1) r) (z913 vx2_1) := by
  unfold z912 at hF
  refine cE hF (fun h8 hF => ?_) fun h8 hF => ?_
  · refine bE hF fun vc1 h9 hF => cE hF (fun h10 hF => ?_) fun h10 hF => ?_
    · refine bE hF fun vc2 h11 hF => bE hF fun _ h12 hF => cE hF (fun h13 hF => ?_) fun h13 hF => ?_
      · refine awp_region (aR 2 (aB h8 (aR 2 (aX (x_idxS h9) (aB h10 (aR 3 (aX (x_idxS h11) (aC (z896 h12) [] [] [] (aB h13 (aR 13 (aE ?_)))))))))))
        exact oO hF [] [] rfl
      · refine cE hF (fun h14 hF => ?_) fun h14 hF => ?_
        · refine awp_region (aR 2 (aB h8 (aR 2 (aX (x_idxS h9) (aB h10 (aR 3 (aX (x_idxS h11) (aC (z896 h12) [] [] [] (aB h13 (aR 2 (aX (x_idxS h11) (aC (z896 h12) [] [] [] (aB h14 ?_)))))))))))))
          refine aR 8 (aE ?_)
          exact oO hF [] [] rfl
        · refine awp_region (aR 2 (aB h8 (aR 2 (aX (x_idxS h9) (aB h10 (aR 3 (aX (x_idxS h11) (aC (z896 h12) [] [] [] (aB h13 (aR 2 (aX (x_idxS h11) (aC (z896 h12) [] [] [] (aB h14 ?_)))))))))))))
          refine aR 3 (aX (x_idxS h11) (aC (z896 h12) [] [] [] (aR 3 (aE ?_))))
          exact oO hF [] [] rfl
    · refine awp_region (aR 2 (aB h8 (aR 2 (aX (x_idxS h9) (aB h10 (aR 19 (aE ?_)))))))
      exact oO hF [] [] rfl
  · refine awp_region (aR 2 (aB h8 (aR 23 (aE ?_))))
    exact oO hF [] [] rfl

def z910 (vx2_1 : List UInt8) : (Int × Int × Bool) → St
  | (vx4, vx5, vx6) => Mem.st ⟨[], []⟩ (tl [(0, .c (.s vx2_1)), (3, .c (.d (.int .i32 vx4))), (4, .i vx5), (5, .b vx6)]) 0

def z909 (vx2_1 : List UInt8) : St := Mem.st ⟨[], []⟩ (tl [(0, .c (.s vx2_1)), (3, .c (.d (.int .i32 94))), (4, .i 0), (5, .b false)]) 0

theorem z911 (vx2_1 : List UInt8) {r} (hF : z908 vx2_1 = some r) : Awp prog 0 94 (cL (cR (cR (cR (cR (cR (cB f237))))))) (Out 0 nrm (z910 vx2_1) r) (z909 vx2_1) := by
  unfold z908 at hF
  refine awp_seq (awp_to (st' := z913 vx2_1) (oT [] []) ?_)
  refine bE hF fun vx3_1 h15 hF => awp_sub (z915 vx2_1 h15) ?_
  refine cE hF (fun h16 hF => ?_) fun h16 hF => ?_
  · refine tT h16 (sR 1 (sR 1 (bE hF fun vc3 h17 hF => bE hF fun _ h18 hF => awp_region (aR 1 (aX (x_idxS h17) (aC (z896 h18) [] [] [] (aR 2 (aE ?_))))))))
    exact oO hF [] [] rfl
  · exact tF h16 (awp_skip (oO hF [] [] rfl))

def z928 (vx2_1 : List UInt8) (vx6_1 : Bool) (vx7 : Int) (vx8 : Int) : Bool → St
  | vx11 => Mem.st ⟨[], []⟩ (tl [(0, .c (.s vx2_1)), (3, .c (.d (.int .i32 vx7))), (4, .i vx8), (5, .b vx6_1), (83, .b vx11)]) 0

def z927 (vx2_1 : List UInt8) (vx6_1 : Bool) (vx7 : Int) (vx8 : Int) : St := Mem.st ⟨[], []⟩ (tl [(0, .c (.s vx2_1)), (3, .c (.d (.int .i32 vx7))), (4, .i vx8), (5, .b vx6_1)]) 0

theorem z929 (vx2_1 : List UInt8) (vx6_1 : Bool) (vx7 : Int) (vx8 : Int) {r} (hF : z926 vx2_1 vx6_1 vx8 = some r) : Awp prog 0 94 (cL (cL (cL (cL (cR (cL (cL (cL (cR (cR (cR (cR (cR (cR (cB f237))))))))))))))) (Out 0 nrm (z928 vx2_1 vx6_1 vx7 vx8) r) (z927 vx2_1 vx6_1 vx7 vx8) := by
  unfold z926 at hF
  refine bE hF fun vc6 h21 hF => cE hF (fun h22 hF => ?_) fun h22 hF => ?_
  · refine cE hF (fun h23 hF => ?_) fun h23 hF => ?_
    · refine awp_region (aR 2 (aX (x_idxS h21) (aB h22 (aR 3 (aX (x_idxS h21) (aB h23 (aR 18 (aE ?_))))))))
      exact oO hF [] [] rfl
    · refine cE hF (fun h24 hF => ?_) fun h24 hF => ?_
      · refine bE hF fun _ h25 hF => cE hF (fun h26 hF => ?_) fun h26 hF => ?_
        · refine awp_region (aR 2 (aX (x_idxS h21) (aB h22 (aR 3 (aX (x_idxS h21) (aB h23 (aR 2 (aB h24 (aR 3 (aX (x_idxS h21) (aC (z896 h25) [] [] [] (aB h26 (aR 4 ?_)))))))))))))
          refine aX (x_idxS h21) (aC (z896 h25) [] [] [] (aR 3 (aE ?_)))
          exact oO hF [] [] rfl
        · refine awp_region (aR 2 (aX (x_idxS h21) (aB h22 (aR 3 (aX (x_idxS h21) (aB h23 (aR 2 (aB h24 (aR 3 (aX (x_idxS h21) (aC (z896 h25) [] [] [] (aB h26 (aR 9 ?_)))))))))))))
          refine aE ?_
          exact oO hF [] [] rfl
      · refine awp_region (aR 2 (aX (x_idxS h21) (aB h22 (aR 3 (aX (x_idxS h21) (aB h23 (aR 2 (aB h24 (aR 15 (aE ?_))))))))))
        exact oO hF [] [] rfl
  · refine cE hF (fun h27 hF => ?_) fun h27 hF => ?_
    · refine bE hF fun _ h28 hF => cE hF (fun h29 hF => ?_) fun h29 hF => ?_
      · refine awp_region (aR 2 (aX (x_idxS h21) (aB h22 (aR 7 (aB h27 (aR 3 (aX (x_idxS h21) (aC (z896 h28) [] [] [] (aB h29 (aR 4 (aX (x_idxS h21) (aC (z896 h28) [] [] [] (aR 3 ?_)))))))))))))
        refine aE ?_
        exact oO hF [] [] rfl
      · refine awp_region (aR 2 (aX (x_idxS h21) (aB h22 (aR 7 (aB h27 (aR 3 (aX (x_idxS h21) (aC (z896 h28) [] [] [] (aB h29 (aR 9 (aE ?_)))))))))))
        exact oO hF [] [] rfl
    · refine awp_region (aR 2 (aX (x_idxS h21) (aB h22 (aR 7 (aB h27 (aR 15 (aE ?_)))))))
      exact oO hF [] [] rfl

def z924 : Int ⊕ Unit → AEx
  | .inl _ => .normal
  | .inr _ => .ret

def z923 (vx2_1 : List UInt8) (vx6_1 : Bool) (vx7 : Int) (vx8 : Int) : Int ⊕ Unit → St
  | .inl vx12 => Mem.st ⟨[], []⟩ (tl [(0, .c (.s vx2_1)), (3, .c (.d (.int .i32 vx12))), (4, .i vx8), (5, .b vx6_1)]) 0
  | .inr _ => Mem.st ⟨[], []⟩ (tl [(2, .b false)]) 0

def z922 (vx2_1 : List UInt8) (vx6_1 : Bool) (vx7 : Int) (vx8 : Int) : St := Mem.st ⟨[], []⟩ (tl [(0, .c (.s vx2_1)), (3, .c (.d (.int .i32 vx7))), (4, .i vx8), (5, .b vx6_1)]) 0

theorem z925 (vx2_1 : List UInt8) (vx6_1 : Bool) (vx7 : Int) (vx8 : Int) {r} (hF : z921 vx2_1 vx6_1 vx7 vx8 = some r) : Awp prog 0 94 (cL (cR (cL (cL (cL (cR (cR (cR (cR (cR (cR (cB f237)))))))))))) (Out 0 z924 (z923 vx2_1 vx6_1 vx7 vx8) r) (z922 vx2_1 vx6_1 vx7 vx8) := by
  unfold z921 at hF
  refine awp_block (awp_seq (awp_seq (awp_to (st' := z927 vx2_1 vx6_1 vx7 vx8) (oT [] []) ?_)))
  refine bE hF fun vx11_1 h30 hF => awp_sub (z929 vx2_1 vx6_1 vx7 vx8 h30) ?_
  refine cE hF (fun h31 hF => ?_) fun h31 hF => ?_
  · refine tT h31 (sR 1 (awp_exit ?_))
    exact oO hF [] [] rfl
  · refine tF h31 (awp_skip (awp_seq (awp_seq (bE hF fun vc7 h32 hF => awp_region (aR 2 (aX (x_idxS h32) (aR 1 (aE ?_))))))))
    refine cE hF (fun h33 hF => ?_) fun h33 hF => ?_
    · refine tT h33 (awp_seq (sR 2 (cE hF (fun h34 hF => ?_) fun h34 hF => ?_)))
      · exact tT h34 (sR 1 (awp_ret (oO hF [] [] rfl)))
      · refine tF h34 (awp_skip (sR 1 (awp_exit ?_)))
        exact oO hF [] [] rfl
    · refine tF h33 (awp_skip (awp_seq (sR 2 (cE hF (fun h35 hF => ?_) fun h35 hF => ?_))))
      · exact tT h35 (sR 1 (awp_ret (oO hF [] [] rfl)))
      · exact tF h35 (awp_skip (gR 1 (oO hF [] [] rfl)))

def z919 : Int ⊕ Unit → AEx
  | .inl _ => .exit 0
  | .inr _ => .ret

def z918 (vx2_1 : List UInt8) (vx6_1 : Bool) : Int ⊕ Unit → St
  | .inl vx13 => Mem.st ⟨[], []⟩ (tl [(3, .c (.d (.int .i32 vx13)))]) 0
  | .inr _ => Mem.st ⟨[], []⟩ (tl [(2, .b false)]) 0

def z917 (vx2_1 : List UInt8) (vx6_1 : Bool) : Int × Int → St
  | (vx7, vx8) => Mem.st ⟨[], []⟩ (tl [(0, .c (.s vx2_1)), (3, .c (.d (.int .i32 vx7))), (4, .i vx8), (5, .b vx6_1)]) 0

theorem z920 (vx2_1 : List UInt8) (vx6_1 : Bool) (s : Int × Int) (r : (Int × Int) ⊕ (Int ⊕ Unit)) (hF : z916 vx2_1 vx6_1 s = some r) : Awp prog 0 94 (cL (cL (cL (cR (cR (cR (cR (cR (cR (cB f237)))))))))) (Out 0 (kk z919) (SS (z917 vx2_1 vx6_1) (z918 vx2_1 vx6_1)) r) (z917 vx2_1 vx6_1 s) := by
  obtain ⟨vx7, vx8⟩ := s
  unfold z916 at hF
  refine awp_seq (sR 4 (cE hF (fun h20 hF => ?_) fun h20 hF => ?_))
  · refine tT h20 (awp_skip (awp_seq (awp_to (st' := z922 vx2_1 vx6_1 vx7 vx8) (oT [] []) ?_)))
    refine bE hF fun x h36 hF => ?_
    rcases x with vx12_1 | _
    · refine awp_sub (z925 vx2_1 vx6_1 vx7 vx8 h36) ?_
      exact gR 3 (oO hF [] [] rfl)
    · refine awp_sub (z925 vx2_1 vx6_1 vx7 vx8 h36) ?_
      exact oO hF [] [] rfl
  · refine tF h20 (awp_exit ?_)
    exact oO hF [] [] rfl

def z898 (qx : List UInt8) (r : Bool) : TV × Mem := (.b r, ⟨[], []⟩)

theorem z899 {qx : List UInt8} {r} (hF : z897 qx = some r) : Holds prog 237 [.c (.s qx)] ⟨[], []⟩ (Is (z898 qx r)) := by
  unfold z897 at hF
  refine hW f237 94 0 0 ?_
  refine sR 1 (sR 1 (sR 1 (awp_seq (awp_to (st' := z901 qx) (oT [] []) ?_))))
  refine bE hF fun vx2_1 h7 hF => awp_sub (z903 qx h7) ?_
  refine sR 1 (awp_seq (awp_to (st' := z909 vx2_1) (oT [] []) ?_))
  refine bE hF fun x h19 hF => ?_
  obtain ⟨vx4_1, vx5_1, vx6_1⟩ := x
  refine awp_sub (z911 vx2_1 h19) ?_
  refine awp_seq (awp_block (awp_to (st' := z917 vx2_1 vx6_1 (vx4_1, vx5_1)) (oT [] []) ?_))
  refine bE hF fun x h37 hF => ?_
  rcases x with vx13_1 | _
  · refine awp_sub (awp_loop' (z917 vx2_1 vx6_1) z919 (z918 vx2_1 vx6_1) (by intro x; rcases x with x | x <;> exact fun h => nomatch h) h37 (z920 vx2_1 vx6_1)) ?_
    exact sR 3 (awp_ret (oF hF [] []))
  · refine awp_sub (awp_loop' (z917 vx2_1 vx6_1) z919 (z918 vx2_1 vx6_1) (by intro x; rcases x with x | x <;> exact fun h => nomatch h) h37 (z920 vx2_1 vx6_1)) ?_
    exact oF hF [] []

/-! ### internal/strconv.ParseUint -/
def z863 (qx : List UInt8) (qx1 : Int) (qx2 : Int) : Bool → St
  | vx => Mem.st ⟨[], []⟩ (tl [(0, .c (.s qx)), (1, .i qx1), (2, .i qx2), (8, .b (decide (qx1 = 0))), (9, .c (.s qx)), (25, .b vx)]) 0

def z862 (qx : List UInt8) (qx1 : Int) (qx2 : Int) : St := Mem.st ⟨[], []⟩ (tl [(0, .c (.s qx)), (1, .i qx1), (2, .i qx2), (8, .b (decide (qx1 = 0))), (9, .c (.s qx))]) 0

theorem z864 (qx : List UInt8) (qx1 : Int) (qx2 : Int) {r} (hF : z861 qx1 = some r) : Awp prog 0 172 (cL (cL (cL (cR (cR (cR (cR (cB f231)))))))) (Out 0 nrm (z863 qx qx1 qx2) r) (z862 qx qx1 qx2) := by
  unfold z861 at hF
  refine cE hF (fun h3 hF => ?_) fun h3 hF => ?_
  · refine awp_region (aR 1 (aB h3 (aR 5 (aE ?_))))
    exact oO hF [] [] rfl
  · refine awp_region (aR 1 (aB h3 (aR 5 (aE ?_))))
    exact oO hF [] [] rfl

def z867 (qx : List UInt8) (qx1 : Int) (qx2 : Int) : Bool → St
  | vx2 => Mem.st ⟨[], []⟩ (tl [(0, .c (.s qx)), (2, .i qx2), (8, .b (decide (qx1 = 0))), (9, .c (.s qx)), (40, .b vx2)]) 0

def z866 (qx : List UInt8) (qx1 : Int) (qx2 : Int) : St := Mem.st ⟨[], []⟩ (tl [(0, .c (.s qx)), (2, .i qx2), (8, .b (decide (qx1 = 0))), (9, .c (.s qx))]) 0

theorem z868 (qx : List UInt8) (qx1 : Int) (qx2 : Int) {r} (hF : z865 qx = some r) : Awp prog 0 172 (cL (cL (cL (cR (cR (cL (cR (cR (cR (cL (cL (cR (cR (cR (cR (cB f231)))))))))))))))) (Out 0 nrm (z867 qx qx1 qx2) r) (z866 qx qx1 qx2) := by
  unfold z865 at hF
  refine cE hF (fun h9 hF => ?_) fun h9 hF => ?_
  · refine bE hF fun vc1 h10 hF => bE hF fun _ h11 hF => awp_region (aR 2 (aB h9 (aR 2 (aX (x_idxS h10) (aC (z896 h11) [] [] [] (aR 3 (aE ?_)))))))
    exact oO hF [] [] rfl
  · refine awp_region (aR 2 (aB h9 (aR 7 (aE ?_))))
    exact oO hF [] [] rfl

def z871 (qx : List UInt8) (qx1 : Int) (qx2 : Int) : Bool → St
  | vx3 => Mem.st ⟨[], []⟩ (tl [(0, .c (.s qx)), (2, .i qx2), (8, .b (decide (qx1 = 0))), (9, .c (.s qx)), (52, .b vx3)]) 0

def z870 (qx : List UInt8) (qx1 : Int) (qx2 : Int) : St := Mem.st ⟨[], []⟩ (tl [(0, .c (.s qx)), (2, .i qx2), (8, .b (decide (qx1 = 0))), (9, .c (.s qx))]) 0

theorem z872 (qx : List UInt8) (qx1 : Int) (qx2 : Int) {r} (hF : z869 qx = some r) : Awp prog 0 172 (cL (cR (cR (cL (cL (cR (cR (cL (cR (cR (cR (cL (cL (cR (cR (cR (cR (cB f231)))))))))))))))))) (Out 0 nrm (z871 qx qx1 qx2) r) (z870 qx qx1 qx2) := by
  unfold z869 at hF
  refine cE hF (fun h15 hF => ?_) fun h15 hF => ?_
  · refine bE hF fun vc2 h16 hF => bE hF fun _ h17 hF => awp_region (aR 2 (aB h15 (aR 2 (aX (x_idxS h16) (aC (z896 h17) [] [] [] (aR 3 (aE ?_)))))))
    exact oO hF [] [] rfl
  · refine awp_region (aR 2 (aB h15 (aR 7 (aE ?_))))
    exact oO hF [] [] rfl

def z875 (qx : List UInt8) (qx1 : Int) (qx2 : Int) : Bool → St
  | vx4 => Mem.st ⟨[], []⟩ (tl [(0, .c (.s qx)), (2, .i qx2), (8, .b (decide (qx1 = 0))), (9, .c (.s qx)), (64, .b vx4)]) 0

def z874 (qx : List UInt8) (qx1 : Int) (qx2 : Int) : St := Mem.st ⟨[], []⟩ (tl [(0, .c (.s qx)), (2, .i qx2), (8, .b (decide (qx1 = 0))), (9, .c (.s qx))]) 0

theorem z876 (qx : List UInt8) (qx1 : Int) (qx2 : Int) {r} (hF : z873 qx = some r) : Awp prog 0 172 (cL (cR (cR (cR (cR (cL (cL (cR (cR (cL (cR (cR (cR (cL (cL (cR (cR (cR (cR (cB f231)))))))))))))))))))) (Out 0 nrm (z875 qx qx1 qx2) r) (z874 qx qx1 qx2) := by
  unfold z873 at hF
  refine cE hF (fun h21 hF => ?_) fun h21 hF => ?_
  · refine bE hF fun vc3 h22 hF => bE hF fun _ h23 hF => awp_region (aR 2 (aB h21 (aR 2 (aX (x_idxS h22) (aC (z896 h23) [] [] [] (aR 3 (aE ?_)))))))
    exact oO hF [] [] rfl
  · refine awp_region (aR 2 (aB h21 (aR 7 (aE ?_))))
    exact oO hF [] [] rfl

def z859 (qx : List UInt8) (qx1 : Int) (qx2 : Int) : ((List UInt8) × Int) → St
  | (vx5, vx6) => Mem.st ⟨[], []⟩ (tl [(0, .c (.s vx5)), (1, .i vx6), (2, .i qx2), (8, .b (decide (qx1 = 0))), (9, .c (.s qx))]) 0

def z858 (qx : List UInt8) (qx1 : Int) (qx2 : Int) : St := Mem.st ⟨[], []⟩ (tl [(0, .c (.s qx)), (1, .i qx1), (2, .i qx2), (8, .b (decide (qx1 = 0))), (9, .c (.s qx))]) 0

theorem z860 (qx : List UInt8) (qx1 : Int) (qx2 : Int) {r} (hF : z828 qx qx1 = some r) : Awp prog 0 172 (cL (cR (cR (cR (cR (cB f231)))))) (Out 0 nrm (z859 qx qx1 qx2) r) (z858 qx qx1 qx2) := by
  unfold z828 at hF
  refine awp_block (awp_seq (awp_to (st' := z862 qx qx1 qx2) (oT [] []) ?_))
  refine bE hF fun vx1 h4 hF => awp_sub (z864 qx qx1 qx2 h4) ?_
  refine cE hF (fun h5 hF => ?_) fun h5 hF => ?_
  · exact tT h5 (awp_skip (oO hF [] [] rfl))
  · refine tF h5 (sR 3 (cE hF (fun h6 hF => ?_) fun h6 hF => ?_))
    · refine tT h6 (sR 1 (awp_seq (bE hF fun vc h7 hF => awp_region (aR 1 (aX (x_idxS h7) (aR 1 (aE ?_)))))))
      refine cE hF (fun h8 hF => ?_) fun h8 hF => ?_
      · refine tT h8 (awp_block (awp_seq (awp_to (st' := z866 qx qx1 qx2) (oT [] []) ?_)))
        refine bE hF fun vx2_1 h12 hF => awp_sub (z868 qx qx1 qx2 h12) ?_
        refine cE hF (fun h13 hF => ?_) fun h13 hF => ?_
        · refine tT h13 (sR 1 (bE hF fun vs h14 hF => awp_region (aR 1 (aX (x_sliceS h14) (aR 1 (aE ?_))))))
          exact oO hF [] [] rfl
        · refine tF h13 (awp_seq (awp_to (st' := z870 qx qx1 qx2) (oT [] []) ?_))
          refine bE hF fun vx3_1 h18 hF => awp_sub (z872 qx qx1 qx2 h18) ?_
          refine cE hF (fun h19 hF => ?_) fun h19 hF => ?_
          · refine tT h19 (sR 1 (bE hF fun vs1 h20 hF => awp_region (aR 1 (aX (x_sliceS h20) (aR 1 (aE ?_))))))
            exact oO hF [] [] rfl
          · refine tF h19 (awp_seq (awp_to (st' := z874 qx qx1 qx2) (oT [] []) ?_))
            refine bE hF fun vx4_1 h24 hF => awp_sub (z876 qx qx1 qx2 h24) ?_
            refine cE hF (fun h25 hF => ?_) fun h25 hF => ?_
            · refine tT h25 (sR 1 (bE hF fun vs2 h26 hF => awp_region (aR 1 (aX (x_sliceS h26) (aR 1 (aE ?_))))))
              exact oO hF [] [] rfl
            · refine tF h25 (sR 1 (bE hF fun vs3 h27 hF => awp_region (aR 1 (aX (x_sliceS h27) (aR 1 (aE ?_))))))
              exact oO hF [] [] rfl
      · exact tF h8 (awp_skip (oO hF [] [] rfl))
    · exact tF h6 (awp_seq (nE hF))

def z883 (qx : List UInt8) (qx1 : Int) (qx2 : Int) (vx5_1 : List UInt8) (vx6_1 : Int) : Bool → St
  | vx7 => Mem.st ⟨[], []⟩ (tl [(0, .c (.s vx5_1)), (1, .i vx6_1), (2, .i qx2), (8, .b (decide (qx1 = 0))), (9, .c (.s qx)), (83, .b vx7)]) 0

def z882 (qx : List UInt8) (qx1 : Int) (qx2 : Int) (vx5_1 : List UInt8) (vx6_1 : Int) : St := Mem.st ⟨[], []⟩ (tl [(0, .c (.s vx5_1)), (1, .i vx6_1), (2, .i qx2), (8, .b (decide (qx1 = 0))), (9, .c (.s qx))]) 0

theorem z884 (qx : List UInt8) (qx1 : Int) (qx2 : Int) (vx5_1 : List UInt8) (vx6_1 : Int) {r} (hF : z881 qx2 = some r) : Awp prog 0 172 (cL (cR (cR (cL (cR (cR (cR (cR (cR (cB f231)))))))))) (Out 0 nrm (z883 qx qx1 qx2 vx5_1 vx6_1) r) (z882 qx qx1 qx2 vx5_1 vx6_1) := by
  unfold z881 at hF
  refine cE hF (fun h31 hF => ?_) fun h31 hF => ?_
  · refine awp_region (aR 1 (aB h31 (aR 4 (aE ?_))))
    exact oO hF [] [] rfl
  · refine awp_region (aR 1 (aB h31 (aR 4 (aE ?_))))
    exact oO hF [] [] rfl

def z879 (qx : List UInt8) (qx1 : Int) (qx2 : Int) (vx5_1 : List UInt8) (vx6_1 : Int) : Int → St
  | vx8 => Mem.st ⟨[], []⟩ (tl [(0, .c (.s vx5_1)), (1, .i vx6_1), (2, .i vx8), (8, .b (decide (qx1 = 0))), (9, .c (.s qx))]) 0

def z878 (qx : List UInt8) (qx1 : Int) (qx2 : Int) (vx5_1 : List UInt8) (vx6_1 : Int) : St := Mem.st ⟨[], []⟩ (tl [(0, .c (.s vx5_1)), (1, .i vx6_1), (2, .i qx2), (8, .b (decide (qx1 = 0))), (9, .c (.s qx))]) 0

theorem z880 (qx : List UInt8) (qx1 : Int) (qx2 : Int) (vx5_1 : List UInt8) (vx6_1 : Int) {r} (hF : z877 qx2 = some r) : Awp prog 0 172 (cL (cR (cR (cR (cR (cR (cB f231))))))) (Out 0 nrm (z879 qx qx1 qx2 vx5_1 vx6_1) r) (z878 qx qx1 qx2 vx5_1 vx6_1) := by
  unfold z877 at hF
  refine sR 2 (cE hF (fun h30 hF => ?_) fun h30 hF => ?_)
  · exact tT h30 (gR 1 (oO hF [] [] rfl))
  · refine tF h30 (awp_seq (awp_to (st' := z882 qx qx1 qx2 vx5_1 vx6_1) (oT [] []) ?_))
    refine bE hF fun vx7_1 h32 hF => awp_sub (z884 qx qx1 qx2 vx5_1 vx6_1 h32) ?_
    refine cE hF (fun h33 hF => ?_) fun h33 hF => ?_
    · exact tT h33 (awp_seq (nE hF))
    · exact tF h33 (awp_skip (oO hF [] [] rfl))

def z887 (qx : List UInt8) (qx1 : Int) (vx5_1 : List UInt8) (vx6_1 : Int) (vx8_1 : Int) : Int → St
  | vx9 => Mem.st ⟨[], []⟩ (tl [(0, .c (.s vx5_1)), (1, .i vx6_1), (2, .i vx8_1), (8, .b (decide (qx1 = 0))), (9, .c (.s qx)), (10, .c (.d (.int .u64 vx9)))]) 0

def z886 (qx : List UInt8) (qx1 : Int) (vx5_1 : List UInt8) (vx6_1 : Int) (vx8_1 : Int) : St := Mem.st ⟨[], []⟩ (tl [(0, .c (.s vx5_1)), (1, .i vx6_1), (2, .i vx8_1), (8, .b (decide (qx1 = 0))), (9, .c (.s qx))]) 0

theorem z888 (qx : List UInt8) (qx1 : Int) (vx5_1 : List UInt8) (vx6_1 : Int) (vx8_1 : Int) {r} (hF : z885 vx6_1 = some r) : Awp prog 0 172 (cL (cR (cR (cR (cR (cR (cR (cR (cB f231))))))))) (Out 0 nrm (z887 qx qx1 vx5_1 vx6_1 vx8_1) r) (z886 qx qx1 vx5_1 vx6_1 vx8_1) := by
  unfold z885 at hF
  refine sR 1 (awp_block (sR 2 (cE hF (fun h36 hF => ?_) fun h36 hF => ?_)))
  · exact tT h36 (gR 1 (oO hF [] [] rfl))
  · refine tF h36 (sR 2 (cE hF (fun h37 hF => ?_) fun h37 hF => ?_))
    · exact tT h37 (gR 1 (oO hF [] [] rfl))
    · refine tF h37 (gE hF fun h38 hF => ?_)
      refine awp_region (aR 2 (aX (x_quo h38) (aR 2 (aE ?_))))
      exact oO hF [] [] rfl

def z840 (qx : List UInt8) (qx1 : Int) (vx5_1 : List UInt8) (vx6_1 : Int) (vx8_1 : Int) (vx9_1 : Int) (vx10 : Bool) (vx11 : Int) (vx12 : Int) (vy1 : Int) : Bool → St
  | vx20 => Mem.st ⟨[], []⟩ (tl [(1, .i vx6_1), (8, .b (decide (qx1 = 0))), (9, .c (.s qx)), (10, .c (.d (.int .u64 vx9_1))), (11, .c (.d (.int .u64 (IntKind.wrap .u64 ((ishl .u64 1 (IntKind.wrap .u64 (vx8_1))) - 1))))), (12, .b vx10), (13, .c (.d (.int .u64 vx11))), (15, .c (.d (.int .u8 vy1))), (99, .c (.l (encI .u8) (bytesD vx5_1))), (100, .i ((bytesD vx5_1).length : Int)), (101, .i vx12), (106, .b vx20)]) 0

def z839 (qx : List UInt8) (qx1 : Int) (vx5_1 : List UInt8) (vx6_1 : Int) (vx8_1 : Int) (vx9_1 : Int) (vx10 : Bool) (vx11 : Int) (vx12 : Int) (vy1 : Int) : St := Mem.st ⟨[], []⟩ (tl [(1, .i vx6_1), (8, .b (decide (qx1 = 0))), (9, .c (.s qx)), (10, .c (.d (.int .u64 vx9_1))), (11, .c (.d (.int .u64 (IntKind.wrap .u64 ((ishl .u64 1 (IntKind.wrap .u64 (vx8_1))) - 1))))), (12, .b vx10), (13, .c (.d (.int .u64 vx11))), (15, .c (.d (.int .u8 vy1))), (99, .c (.l (encI .u8) (bytesD vx5_1))), (100, .i ((bytesD vx5_1).length : Int)), (101, .i vx12)]) 0

theorem z841 (qx : List UInt8) (qx1 : Int) (vx5_1 : List UInt8) (vx6_1 : Int) (vx8_1 : Int) (vx9_1 : Int) (vx10 : Bool) (vx11 : Int) (vx12 : Int) (vy1 : Int) {r} (hF : z838 qx1 vy1 = some r) : Awp prog 0 172 (cL (cL (cL (cR (cR (cL (cL (cR (cR (cL (cL (cR (cL (cR (cR (cR (cR (cR (cR (cR (cR (cR (cR (cR (cB f231))))))))))))))))))))))))) (Out 0 nrm (z840 qx qx1 vx5_1 vx6_1 vx8_1 vx9_1 vx10 vx11 vx12 vy1) r) (z839 qx qx1 vx5_1 vx6_1 vx8_1 vx9_1 vx10 vx11 vx12 vy1) := by
  unfold z838 at hF
  refine cE hF (fun h43 hF => ?_) fun h43 hF => ?_
  · refine awp_region (aR 1 (aB h43 (aR 4 (aE ?_))))
    exact oO hF [] [] rfl
  · refine awp_region (aR 1 (aB h43 (aR 4 (aE ?_))))
    exact oO hF [] [] rfl

def z844 (qx : List UInt8) (qx1 : Int) (vx5_1 : List UInt8) (vx6_1 : Int) (vx8_1 : Int) (vx9_1 : Int) (vx10 : Bool) (vx11 : Int) (vx12 : Int) (vy1 : Int) : Bool → St
  | vx21 => Mem.st ⟨[], []⟩ (tl [(1, .i vx6_1), (8, .b (decide (qx1 = 0))), (9, .c (.s qx)), (10, .c (.d (.int .u64 vx9_1))), (11, .c (.d (.int .u64 (IntKind.wrap .u64 ((ishl .u64 1 (IntKind.wrap .u64 (vx8_1))) - 1))))), (12, .b vx10), (13, .c (.d (.int .u64 vx11))), (15, .c (.d (.int .u8 vy1))), (99, .c (.l (encI .u8) (bytesD vx5_1))), (100, .i ((bytesD vx5_1).length : Int)), (101, .i vx12), (112, .b vx21)]) 0

def z843 (qx : List UInt8) (qx1 : Int) (vx5_1 : List UInt8) (vx6_1 : Int) (vx8_1 : Int) (vx9_1 : Int) (vx10 : Bool) (vx11 : Int) (vx12 : Int) (vy1 : Int) : St := Mem.st ⟨[], []⟩ (tl [(1, .i vx6_1), (8, .b (decide (qx1 = 0))), (9, .c (.s qx)), (10, .c (.d (.int .u64 vx9_1))), (11, .c (.d (.int .u64 (IntKind.wrap .u64 ((ishl .u64 1 (IntKind.wrap .u64 (vx8_1))) - 1))))), (12, .b vx10), (13, .c (.d (.int .u64 vx11))), (15, .c (.d (.int .u8 vy1))), (99, .c (.l (encI .u8) (bytesD vx5_1))), (100, .i ((bytesD vx5_1).length : Int)), (101, .i vx12)]) 0

theorem z845 (qx : List UInt8) (qx1 : Int) (vx5_1 : List UInt8) (vx6_1 : Int) (vx8_1 : Int) (vx9_1 : Int) (vx10 : Bool) (vx11 : Int) (vx12 : Int) (vy1 : Int) {r} (hF : z842 vy1 = some r) : Awp prog 0 172 (cL (cR (cR (cL (cL (cR (cR (cL (cL (cR (cR (cL (cL (cR (cL (cR (cR (cR (cR (cR (cR (cR (cR (cR (cR (cR (cB f231))))))))))))))))))))))))))) (Out 0 nrm (z844 qx qx1 vx5_1 vx6_1 vx8_1 vx9_1 vx10 vx11 vx12 vy1) r) (z843 qx qx1 vx5_1 vx6_1 vx8_1 vx9_1 vx10 vx11 vx12 vy1) := by
  unfold z842 at hF
  refine cE hF (fun h46 hF => ?_) fun h46 hF => ?_
  · refine awp_region (aR 1 (aB h46 (aR 5 (aE ?_))))
    exact oO hF [] [] rfl
  · refine awp_region (aR 1 (aB h46 (aR 5 (aE ?_))))
    exact oO hF [] [] rfl

def z848 (qx : List UInt8) (qx1 : Int) (vx5_1 : List UInt8) (vx6_1 : Int) (vx8_1 : Int) (vx9_1 : Int) (vx10 : Bool) (vx11 : Int) (vx12 : Int) (vy1 : Int) : Bool → St
  | vx22 => Mem.st ⟨[], []⟩ (tl [(1, .i vx6_1), (8, .b (decide (qx1 = 0))), (9, .c (.s qx)), (10, .c (.d (.int .u64 vx9_1))), (11, .c (.d (.int .u64 (IntKind.wrap .u64 ((ishl .u64 1 (IntKind.wrap .u64 (vx8_1))) - 1))))), (12, .b vx10), (13, .c (.d (.int .u64 vx11))), (15, .c (.d (.int .u8 vy1))), (99, .c (.l (encI .u8) (bytesD vx5_1))), (100, .i ((bytesD vx5_1).length : Int)), (101, .i vx12), (121, .b vx22)]) 0

def z847 (qx : List UInt8) (qx1 : Int) (vx5_1 : List UInt8) (vx6_1 : Int) (vx8_1 : Int) (vx9_1 : Int) (vx10 : Bool) (vx11 : Int) (vx12 : Int) (vy1 : Int) : St := Mem.st ⟨[], []⟩ (tl [(1, .i vx6_1), (8, .b (decide (qx1 = 0))), (9, .c (.s qx)), (10, .c (.d (.int .u64 vx9_1))), (11, .c (.d (.int .u64 (IntKind.wrap .u64 ((ishl .u64 1 (IntKind.wrap .u64 (vx8_1))) - 1))))), (12, .b vx10), (13, .c (.d (.int .u64 vx11))), (15, .c (.d (.int .u8 vy1))), (99, .c (.l (encI .u8) (bytesD vx5_1))), (100, .i ((bytesD vx5_1).length : Int)), (101, .i vx12)]) 0

theorem z849 (qx : List UInt8) (qx1 : Int) (vx5_1 : List UInt8) (vx6_1 : Int) (vx8_1 : Int) (vx9_1 : Int) (vx10 : Bool) (vx11 : Int) (vx12 : Int) (vy1 : Int) {r} (hF : z846 vy1 = some r) : Awp prog 0 172 (cL (cR (cR (cR (cR (cL (cL (cR (cR (cL (cL (cR (cR (cL (cL (cR (cL (cR (cR (cR (cR (cR (cR (cR (cR (cR (cR (cR (cB f231))))))))))))))))))))))))))))) (Out 0 nrm (z848 qx qx1 vx5_1 vx6_1 vx8_1 vx9_1 vx10 vx11 vx12 vy1) r) (z847 qx qx1 vx5_1 vx6_1 vx8_1 vx9_1 vx10 vx11 vx12 vy1) := by
  unfold z846 at hF
  refine bE hF fun _ h49 hF => cE hF (fun h50 hF => ?_) fun h50 hF => ?_
  · refine awp_region (aR 1 (aC (z896 h49) [] [] [] (aB h50 (aR 2 (aC (z896 h49) [] [] [] (aR 3 (aE ?_)))))))
    exact oO hF [] [] rfl
  · refine awp_region (aR 1 (aC (z896 h49) [] [] [] (aB h50 (aR 6 (aE ?_)))))
    exact oO hF [] [] rfl

def z836 : Int ⊕ Unit → AEx
  | .inl _ => .normal
  | .inr _ => .exit 4

def z835 (qx : List UInt8) (qx1 : Int) (vx5_1 : List UInt8) (vx6_1 : Int) (vx8_1 : Int) (vx9_1 : Int) (vx10 : Bool) (vx11 : Int) (vx12 : Int) (vy1 : Int) : Int ⊕ Unit → St
  | .inl vx23 => Mem.st ⟨[], []⟩ (tl [(1, .i vx6_1), (8, .b (decide (qx1 = 0))), (9, .c (.s qx)), (10, .c (.d (.int .u64 vx9_1))), (11, .c (.d (.int .u64 (IntKind.wrap .u64 ((ishl .u64 1 (IntKind.wrap .u64 (vx8_1))) - 1))))), (12, .b vx10), (13, .c (.d (.int .u64 vx11))), (16, .c (.d (.int .u8 vx23))), (99, .c (.l (encI .u8) (bytesD vx5_1))), (100, .i ((bytesD vx5_1).length : Int)), (101, .i vx12)]) 0
  | .inr _ => Mem.st ⟨[], []⟩ (tl [(1, .i vx6_1), (8, .b (decide (qx1 = 0))), (9, .c (.s qx)), (10, .c (.d (.int .u64 vx9_1))), (11, .c (.d (.int .u64 (IntKind.wrap .u64 ((ishl .u64 1 (IntKind.wrap .u64 (vx8_1))) - 1))))), (12, .b true), (13, .c (.d (.int .u64 vx11))), (99, .c (.l (encI .u8) (bytesD vx5_1))), (100, .i ((bytesD vx5_1).length : Int)), (101, .i vx12)]) 0

def z834 (qx : List UInt8) (qx1 : Int) (vx5_1 : List UInt8) (vx6_1 : Int) (vx8_1 : Int) (vx9_1 : Int) (vx10 : Bool) (vx11 : Int) (vx12 : Int) (vy1 : Int) : St := Mem.st ⟨[], []⟩ (tl [(1, .i vx6_1), (8, .b (decide (qx1 = 0))), (9, .c (.s qx)), (10, .c (.d (.int .u64 vx9_1))), (11, .c (.d (.int .u64 (IntKind.wrap .u64 ((ishl .u64 1 (IntKind.wrap .u64 (vx8_1))) - 1))))), (12, .b vx10), (13, .c (.d (.int .u64 vx11))), (15, .c (.d (.int .u8 vy1))), (99, .c (.l (encI .u8) (bytesD vx5_1))), (100, .i ((bytesD vx5_1).length : Int)), (101, .i vx12)]) 0

theorem z837 (qx : List UInt8) (qx1 : Int) (vx5_1 : List UInt8) (vx6_1 : Int) (vx8_1 : Int) (vx9_1 : Int) (vx10 : Bool) (vx11 : Int) (vx12 : Int) (vy1 : Int) {r} (hF : z833 qx1 vy1 = some r) : Awp prog 0 172 (cL (cR (cR (cL (cL (cR (cR (cL (cL (cR (cL (cR (cR (cR (cR (cR (cR (cR (cR (cR (cR (cR (cB f231))))))))))))))))))))))) (Out 0 z836 (z835 qx qx1 vx5_1 vx6_1 vx8_1 vx9_1 vx10 vx11 vx12 vy1) r) (z834 qx qx1 vx5_1 vx6_1 vx8_1 vx9_1 vx10 vx11 vx12 vy1) := by
  unfold z833 at hF
  refine awp_block (awp_seq (awp_to (st' := z839 qx qx1 vx5_1 vx6_1 vx8_1 vx9_1 vx10 vx11 vx12 vy1) (oT [] []) ?_))
  refine bE hF fun vx20_1 h44 hF => awp_sub (z841 qx qx1 vx5_1 vx6_1 vx8_1 vx9_1 vx10 vx11 vx12 vy1 h44) ?_
  refine cE hF (fun h45 hF => ?_) fun h45 hF => ?_
  · refine tT h45 (sR 1 (awp_exit ?_))
    exact oO hF [] [] rfl
  · refine tF h45 (awp_seq (awp_to (st' := z843 qx qx1 vx5_1 vx6_1 vx8_1 vx9_1 vx10 vx11 vx12 vy1) (oT [] []) ?_))
    refine bE hF fun vx21_1 h47 hF => awp_sub (z845 qx qx1 vx5_1 vx6_1 vx8_1 vx9_1 vx10 vx11 vx12 vy1 h47) ?_
    refine cE hF (fun h48 hF => ?_) fun h48 hF => ?_
    · exact tT h48 (gR 3 (oO hF [] [] rfl))
    · refine tF h48 (awp_seq (awp_to (st' := z847 qx qx1 vx5_1 vx6_1 vx8_1 vx9_1 vx10 vx11 vx12 vy1) (oT [] []) ?_))
      refine bE hF fun vx22_1 h51 hF => awp_sub (z849 qx qx1 vx5_1 vx6_1 vx8_1 vx9_1 vx10 vx11 vx12 vy1 h51) ?_
      refine cE hF (fun h52 hF => ?_) fun h52 hF => ?_
      · refine tT h52 (bE hF fun _ h53 hF => awp_region (aR 1 (aC (z896 h53) [] [] [] (aR 3 (aE ?_)))))
        exact oO hF [] [] rfl
      · exact tF h52 (awp_seq (nE hF))

def z852 (qx : List UInt8) (qx1 : Int) (vx5_1 : List UInt8) (vx6_1 : Int) (vx8_1 : Int) (vx9_1 : Int) (vx10 : Bool) (vx11 : Int) (vx12 : Int) (vx23_1 : Int) : Bool → St
  | vx24 => Mem.st ⟨[], []⟩ (tl [(1, .i vx6_1), (8, .b (decide (qx1 = 0))), (9, .c (.s qx)), (10, .c (.d (.int .u64 vx9_1))), (11, .c (.d (.int .u64 (IntKind.wrap .u64 ((ishl .u64 1 (IntKind.wrap .u64 (vx8_1))) - 1))))), (12, .b vx10), (17, .c (.d (.int .u64 (IntKind.wrap .u64 ((IntKind.wrap .u64 (vx11 * (IntKind.wrap .u64 (vx6_1)))) + (IntKind.wrap .u64 (vx23_1))))))), (99, .c (.l (encI .u8) (bytesD vx5_1))), (100, .i ((bytesD vx5_1).length : Int)), (101, .i vx12), (159, .b vx24)]) 0

def z851 (qx : List UInt8) (qx1 : Int) (vx5_1 : List UInt8) (vx6_1 : Int) (vx8_1 : Int) (vx9_1 : Int) (vx10 : Bool) (vx11 : Int) (vx12 : Int) (vx23_1 : Int) : St := Mem.st ⟨[], []⟩ (tl [(1, .i vx6_1), (8, .b (decide (qx1 = 0))), (9, .c (.s qx)), (10, .c (.d (.int .u64 vx9_1))), (11, .c (.d (.int .u64 (IntKind.wrap .u64 ((ishl .u64 1 (IntKind.wrap .u64 (vx8_1))) - 1))))), (12, .b vx10), (13, .c (.d (.int .u64 (IntKind.wrap .u64 (vx11 * (IntKind.wrap .u64 (vx6_1))))))), (17, .c (.d (.int .u64 (IntKind.wrap .u64 ((IntKind.wrap .u64 (vx11 * (IntKind.wrap .u64 (vx6_1)))) + (IntKind.wrap .u64 (vx23_1))))))), (99, .c (.l (encI .u8) (bytesD vx5_1))), (100, .i ((bytesD vx5_1).length : Int)), (101, .i vx12)]) 0

theorem z853 (qx : List UInt8) (qx1 : Int) (vx5_1 : List UInt8) (vx6_1 : Int) (vx8_1 : Int) (vx9_1 : Int) (vx10 : Bool) (vx11 : Int) (vx12 : Int) (vx23_1 : Int) {r} (hF : z850 vx6_1 vx8_1 vx11 vx23_1 = some r) : Awp prog 0 172 (cL (cL (cR (cR (cR (cR (cR (cR (cR (cL (cL (cR (cR (cL (cL (cR (cL (cR (cR (cR (cR (cR (cR (cR (cR (cR (cR (cR (cB f231))))))))))))))))))))))))))))) (Out 0 nrm (z852 qx qx1 vx5_1 vx6_1 vx8_1 vx9_1 vx10 vx11 vx12 vx23_1) r) (z851 qx qx1 vx5_1 vx6_1 vx8_1 vx9_1 vx10 vx11 vx12 vx23_1) := by
  unfold z850 at hF
  refine cE hF (fun h60 hF => ?_) fun h60 hF => ?_
  · refine awp_region (aR 2 (aB h60 (aR 5 (aE ?_))))
    exact oO hF [] [] rfl
  · refine awp_region (aR 2 (aB h60 (aR 5 (aE ?_))))
    exact oO hF [] [] rfl

def z831 (qx : List UInt8) (qx1 : Int) (vx5_1 : List UInt8) (vx6_1 : Int) (vx8_1 : Int) (vx9_1 : Int) (vx10 : Bool) (vx11 : Int) (vx12 : Int) : (Bool × Int) → St
  | (vx25, vx26) => Mem.st ⟨[], []⟩ (tl [(1, .i vx6_1), (8, .b (decide (qx1 = 0))), (9, .c (.s qx)), (10, .c (.d (.int .u64 vx9_1))), (11, .c (.d (.int .u64 (IntKind.wrap .u64 ((ishl .u64 1 (IntKind.wrap .u64 (vx8_1))) - 1))))), (12, .b vx25), (13, .c (.d (.int .u64 vx26))), (99, .c (.l (encI .u8) (bytesD vx5_1))), (100, .i ((bytesD vx5_1).length : Int)), (101, .i vx12)]) 0

def z830 (qx : List UInt8) (qx1 : Int) (vx5_1 : List UInt8) (vx6_1 : Int) (vx8_1 : Int) (vx9_1 : Int) (vx10 : Bool) (vx11 : Int) (vx12 : Int) : St := Mem.st ⟨[], []⟩ (tl [(1, .i vx6_1), (8, .b (decide (qx1 = 0))), (9, .c (.s qx)), (10, .c (.d (.int .u64 vx9_1))), (11, .c (.d (.int .u64 (IntKind.wrap .u64 ((ishl .u64 1 (IntKind.wrap .u64 (vx8_1))) - 1))))), (12, .b vx10), (13, .c (.d (.int .u64 vx11))), (99, .c (.l (encI .u8) (bytesD vx5_1))), (100, .i ((bytesD vx5_1).length : Int)), (101, .i vx12)]) 0

theorem z832 (qx : List UInt8) (qx1 : Int) (vx5_1 : List UInt8) (vx6_1 : Int) (vx8_1 : Int) (vx9_1 : Int) (vx10 : Bool) (vx11 : Int) (vx12 : Int) {r} (hF : z829 qx1 vx5_1 vx6_1 vx8_1 vx9_1 vx10 vx11 vx12 = some r) : Awp prog 0 172 (cL (cR (cR (cL (cL (cR (cL (cR (cR (cR (cR (cR (cR (cR (cR (cR (cR (cR (cB f231))))))))))))))))))) (Out 0 nrm (z831 qx qx1 vx5_1 vx6_1 vx8_1 vx9_1 vx10 vx11 vx12) r) (z830 qx qx1 vx5_1 vx6_1 vx8_1 vx9_1 vx10 vx11 vx12) := by
  unfold z829 at hF
  refine awp_block (awp_seq (bE hF fun vy1 h42 hF => awp_region (aX (x_idx (encI .u8) h42) (aR 2 (aE ?_)))))
  refine sR 1 (awp_seq (awp_to (st' := z834 qx qx1 vx5_1 vx6_1 vx8_1 vx9_1 vx10 vx11 vx12 vy1) (oT [] []) ?_))
  refine bE hF fun x h55 hF => ?_
  rcases x with vx23_1 | _
  · refine awp_sub (z837 qx qx1 vx5_1 vx6_1 vx8_1 vx9_1 vx10 vx11 vx12 vy1 h55) ?_
    refine awp_seq (sR 4 (cE hF (fun h56 hF => ?_) fun h56 hF => ?_))
    · exact tT h56 (awp_seq (nE hF))
    · refine tF h56 (awp_skip (awp_seq (sR 3 (cE hF (fun h58 hF => ?_) fun h58 hF => ?_))))
      · exact tT h58 (awp_seq (nE hF))
      · refine tF h58 (awp_skip (sR 5 (sR 5 (awp_seq (awp_seq (awp_to (st' := z851 qx qx1 vx5_1 vx6_1 vx8_1 vx9_1 vx10 vx11 vx12 vx23_1) (oT [] []) ?_))))))
        refine bE hF fun vx24_1 h61 hF => awp_sub (z853 qx qx1 vx5_1 vx6_1 vx8_1 vx9_1 vx10 vx11 vx12 vx23_1 h61) ?_
        refine cE hF (fun h62 hF => ?_) fun h62 hF => ?_
        · exact tT h62 (awp_seq (nE hF))
        · exact tF h62 (awp_skip (gR 2 (oO hF [] [] rfl)))
  · refine awp_sub (z837 qx qx1 vx5_1 vx6_1 vx8_1 vx9_1 vx10 vx11 vx12 vy1 h55) ?_
    exact oO hF [] [] rfl

def z892 : (Bool × Int) → AEx
  | _ => .exit 3

def z891 (qx : List UInt8) (qx1 : Int) (vx5_1 : List UInt8) (vx6_1 : Int) (vx8_1 : Int) (vx9_1 : Int) : (Bool × Int) → St
  | (vx27, vx28) => Mem.st ⟨[], []⟩ (tl [(9, .c (.s qx)), (12, .b vx27), (13, .c (.d (.int .u64 vx28)))]) 0

def z890 (qx : List UInt8) (qx1 : Int) (vx5_1 : List UInt8) (vx6_1 : Int) (vx8_1 : Int) (vx9_1 : Int) : Bool × Int × Int → St
  | (vx10, vx11, vx12) => Mem.st ⟨[], []⟩ (tl [(1, .i vx6_1), (8, .b (decide (qx1 = 0))), (9, .c (.s qx)), (10, .c (.d (.int .u64 vx9_1))), (11, .c (.d (.int .u64 (IntKind.wrap .u64 ((ishl .u64 1 (IntKind.wrap .u64 (vx8_1))) - 1))))), (12, .b vx10), (13, .c (.d (.int .u64 vx11))), (99, .c (.l (encI .u8) (bytesD vx5_1))), (100, .i ((bytesD vx5_1).length : Int)), (101, .i vx12)]) 0

theorem z893 (qx : List UInt8) (qx1 : Int) (vx5_1 : List UInt8) (vx6_1 : Int) (vx8_1 : Int) (vx9_1 : Int) (s : Bool × Int × Int) (r : (Bool × Int × Int) ⊕ ((Bool × Int))) (hF : z889 qx1 vx5_1 vx6_1 vx8_1 vx9_1 s = some r) : Awp prog 0 172 (cL (cL (cR (cL (cR (cR (cR (cR (cR (cR (cR (cR (cR (cR (cR (cB f231)))))))))))))))) (Out 0 (kk z892) (SS (z890 qx qx1 vx5_1 vx6_1 vx8_1 vx9_1) (z891 qx qx1 vx5_1 vx6_1 vx8_1 vx9_1)) r) (z890 qx qx1 vx5_1 vx6_1 vx8_1 vx9_1 s) := by
  obtain ⟨vx10, vx11, vx12⟩ := s
  unfold z889 at hF
  refine sR 1 (awp_seq (cE hF (fun h41 hF => ?_) fun h41 hF => ?_))
  · refine tT h41 (awp_skip (awp_seq (awp_to (st' := z830 qx qx1 vx5_1 vx6_1 vx8_1 vx9_1 vx10 vx11 vx12) (oT [] []) ?_)))
    refine bE hF fun x h64 hF => ?_
    obtain ⟨vx25_1, vx26_1⟩ := x
    refine awp_sub (z832 qx qx1 vx5_1 vx6_1 vx8_1 vx9_1 vx10 vx11 vx12 h64) ?_
    exact gR 2 (oO hF [] [] rfl)
  · refine tF h41 (awp_exit ?_)
    exact oO hF [] [] rfl

def z856 (qx : List UInt8) (vx27_1 : Bool) (vx28_1 : Int) : Bool → St
  | vx29 => Mem.st ⟨[], []⟩ (tl [(13, .c (.d (.int .u64 vx28_1))), (169, .b vx29)]) 0

def z855 (qx : List UInt8) (vx27_1 : Bool) (vx28_1 : Int) : St := Mem.st ⟨[], []⟩ (tl [(9, .c (.s qx)), (12, .b vx27_1), (13, .c (.d (.int .u64 vx28_1)))]) 0

theorem z857 (qx : List UInt8) (vx27_1 : Bool) (vx28_1 : Int) {r} (hF : z854 qx vx27_1 = some r) : Awp prog 0 172 (cL (cL (cR (cR (cR (cR (cR (cR (cR (cR (cR (cR (cR (cR (cB f231))))))))))))))) (Out 0 nrm (z856 qx vx27_1 vx28_1) r) (z855 qx vx27_1 vx28_1) := by
  unfold z854 at hF
  refine cE hF (fun h66 hF => ?_) fun h66 hF => ?_
  · refine bE hF fun vr h67 hF => awp_region (aB h66 (aR 2 (aC (z899 h67) [] [] [] (aR 2 (aE ?_)))))
    exact oO hF [] [] rfl
  · refine awp_region (aB h66 (aR 5 (aE ?_)))
    exact oO hF [] [] rfl

def z826 (qx : List UInt8) (qx1 : Int) (qx2 : Int) (r : Int) : TV × Mem := (.tup [.one (.d (.int .u64 r)), .one (.nili)], ⟨[], []⟩)

theorem z827 {qx : List UInt8} {qx1 : Int} {qx2 : Int} {r} (hF : z825 qx qx1 qx2 = some r) : Holds prog 231 [.c (.s qx), .i qx1, .i qx2] ⟨[], []⟩ (Is (z826 qx qx1 qx2 r)) := by
  unfold z825 at hF
  refine hW f231 172 0 0 ?_
  refine sR 2 (awp_seq (sR 2 (cE hF (fun h1 hF => ?_) fun h1 hF => ?_)))
  · exact tT h1 (awp_seq (nE hF))
  · refine tF h1 (awp_skip (sR 3 (sR 2 (awp_seq (awp_to (st' := z858 qx qx1 qx2) (oT [] []) ?_)))))
    refine bE hF fun x h29 hF => ?_
    obtain ⟨vx5_1, vx6_1⟩ := x
    refine awp_sub (z860 qx qx1 qx2 h29) ?_
    refine awp_seq (awp_to (st' := z878 qx qx1 qx2 vx5_1 vx6_1) (oT [] []) ?_)
    refine bE hF fun vx8_1 h35 hF => awp_sub (z880 qx qx1 qx2 vx5_1 vx6_1 h35) ?_
    refine sR 1 (awp_seq (awp_to (st' := z886 qx qx1 vx5_1 vx6_1 vx8_1) (oT [] []) ?_))
    refine bE hF fun vx9_1 h39 hF => awp_sub (z888 qx qx1 vx5_1 vx6_1 vx8_1 h39) ?_
    refine awp_seq (gE hF fun h40 hF => ?_)
    refine awp_region (aR 2 (aX (x_shl h40) (aR 2 (aE ?_))))
    refine sR 1 (sR 1 (awp_seq (awp_seq (awp_region (aR 1 (aBs (s := vx5_1) rfl ?_))))))
    refine aL (encI .u8) (bytesD vx5_1) (aR 1 (aE ?_))
    refine awp_block (awp_to (st' := z890 qx qx1 vx5_1 vx6_1 vx8_1 vx9_1 (false, 0, 0)) (oT [] []) ?_)
    refine bE hF fun x h65 hF => ?_
    obtain ⟨vx27_1, vx28_1⟩ := x
    refine awp_sub (awp_loop' (z890 qx qx1 vx5_1 vx6_1 vx8_1 vx9_1) z892 (z891 qx qx1 vx5_1 vx6_1 vx8_1 vx9_1) (by intro x; exact fun h => nomatch h) h65 (z893 qx qx1 vx5_1 vx6_1 vx8_1 vx9_1)) ?_
    refine awp_seq (awp_seq (awp_to (st' := z855 qx vx27_1 vx28_1) (oT [] []) ?_))
    refine bE hF fun vx29_1 h68 hF => awp_sub (z857 qx vx27_1 vx28_1 h68) ?_
    refine cE hF (fun h69 hF => ?_) fun h69 hF => ?_
    · exact tT h69 (awp_seq (nE hF))
    · exact tF h69 (awp_skip (sR 3 (awp_ret (oF hF [] []))))

/-! ### internal/strconv.ParseInt -/
def z807 (qx : List UInt8) (qx1 : Int) (qx2 : Int) : ((List UInt8) × Bool) → St
  | (vx, vx1) => Mem.st ⟨[], []⟩ (tl [(0, .c (.s vx)), (1, .i qx1), (2, .i qx2), (8, .b vx1)]) 0

def z806 (qx : List UInt8) (qx1 : Int) (qx2 : Int) : St := Mem.st ⟨[], []⟩ (tl [(0, .c (.s qx)), (1, .i qx1), (2, .i qx2), (8, .b false)]) 0

theorem z808 (qx : List UInt8) (qx1 : Int) (qx2 : Int) {r} (hF : z805 qx = some r) : Awp prog 0 73 (cL (cR (cR (cR (cB f222))))) (Out 0 nrm (z807 qx qx1 qx2) r) (z806 qx qx1 qx2) := by
  unfold z805 at hF
  refine awp_seq (bE hF fun vc h3 hF => awp_region (aR 1 (aX (x_idxS h3) (aE ?_))))
  refine awp_block (sR 2 (cE hF (fun h4 hF => ?_) fun h4 hF => ?_))
  · refine tT h4 (bE hF fun vs h5 hF => awp_region (aR 1 (aX (x_sliceS h5) (aR 1 (aE ?_)))))
    exact oO hF [] [] rfl
  · refine tF h4 (sR 2 (cE hF (fun h6 hF => ?_) fun h6 hF => ?_))
    · refine tT h6 (awp_seq (bE hF fun vs1 h7 hF => awp_region (aR 1 (aX (x_sliceS h7) (aR 1 (aE ?_))))))
      exact gR 1 (oO hF [] [] rfl)
    · exact tF h6 (awp_skip (oO hF [] [] rfl))

def z811 (qx2 : Int) (vx1_1 : Bool) (vr1 : Int) : Int → St
  | vx3 => Mem.st ⟨[], []⟩ (tl [(2, .i vx3), (8, .b vx1_1), (9, .c (.d (.int .u64 vr1)))]) 0

def z810 (qx2 : Int) (vx1_1 : Bool) (vr1 : Int) : St := Mem.st ⟨[], []⟩ (tl [(2, .i qx2), (8, .b vx1_1), (9, .c (.d (.int .u64 vr1)))]) 0

theorem z812 (qx2 : Int) (vx1_1 : Bool) (vr1 : Int) {r} (hF : z809 qx2 = some r) : Awp prog 0 73 (cL (cR (cR (cR (cR (cR (cR (cR (cB f222))))))))) (Out 0 nrm (z811 qx2 vx1_1 vr1) r) (z810 qx2 vx1_1 vr1) := by
  unfold z809 at hF
  refine sR 2 (cE hF (fun h10 hF => ?_) fun h10 hF => ?_)
  · exact tT h10 (gR 1 (oO hF [] [] rfl))
  · exact tF h10 (awp_skip (oO hF [] [] rfl))

def z815 (vx1_1 : Bool) (vr1 : Int) (vx3_1 : Int) : Bool → St
  | vx4 => Mem.st ⟨[], []⟩ (tl [(8, .b vx1_1), (9, .c (.d (.int .u64 vr1))), (10, .c (.d (.int .u64 (ishl .u64 1 (IntKind.wrap .u64 (IntKind.wrap .i64 (vx3_1 - 1))))))), (52, .b vx4)]) 0

def z814 (vx1_1 : Bool) (vr1 : Int) (vx3_1 : Int) : St := Mem.st ⟨[], []⟩ (tl [(8, .b vx1_1), (9, .c (.d (.int .u64 vr1))), (10, .c (.d (.int .u64 (ishl .u64 1 (IntKind.wrap .u64 (IntKind.wrap .i64 (vx3_1 - 1)))))))]) 0

theorem z816 (vx1_1 : Bool) (vr1 : Int) (vx3_1 : Int) {r} (hF : z813 vx1_1 vr1 vx3_1 = some r) : Awp prog 0 73 (cL (cL (cR (cR (cR (cR (cR (cR (cR (cR (cR (cB f222)))))))))))) (Out 0 nrm (z815 vx1_1 vr1 vx3_1) r) (z814 vx1_1 vr1 vx3_1) := by
  unfold z813 at hF
  refine cE hF (fun h13 hF => ?_) fun h13 hF => ?_
  · refine awp_region (aR 1 (aB h13 (aR 5 (aE ?_))))
    exact oO hF [] [] rfl
  · refine awp_region (aR 1 (aB h13 (aR 5 (aE ?_))))
    exact oO hF [] [] rfl

def z819 (vx1_1 : Bool) (vr1 : Int) (vx3_1 : Int) : Bool → St
  | vx5 => Mem.st ⟨[], []⟩ (tl [(8, .b vx1_1), (9, .c (.d (.int .u64 vr1))), (10, .c (.d (.int .u64 (ishl .u64 1 (IntKind.wrap .u64 (IntKind.wrap .i64 (vx3_1 - 1))))))), (62, .b vx5)]) 0

def z818 (vx1_1 : Bool) (vr1 : Int) (vx3_1 : Int) : St := Mem.st ⟨[], []⟩ (tl [(8, .b vx1_1), (9, .c (.d (.int .u64 vr1))), (10, .c (.d (.int .u64 (ishl .u64 1 (IntKind.wrap .u64 (IntKind.wrap .i64 (vx3_1 - 1)))))))]) 0

theorem z820 (vx1_1 : Bool) (vr1 : Int) (vx3_1 : Int) {r} (hF : z817 vx1_1 vr1 vx3_1 = some r) : Awp prog 0 73 (cL (cL (cR (cR (cR (cR (cR (cR (cR (cR (cR (cR (cB f222))))))))))))) (Out 0 nrm (z819 vx1_1 vr1 vx3_1) r) (z818 vx1_1 vr1 vx3_1) := by
  unfold z817 at hF
  refine cE hF (fun h17 hF => ?_) fun h17 hF => ?_
  · refine awp_region (aB h17 (aR 5 (aE ?_)))
    exact oO hF [] [] rfl
  · refine awp_region (aB h17 (aR 5 (aE ?_)))
    exact oO hF [] [] rfl

def z823 (vx1_1 : Bool) (vr1 : Int) : Int → St
  | vx6 => Mem.st ⟨[], []⟩ (tl [(11, .i vx6)]) 0

def z822 (vx1_1 : Bool) (vr1 : Int) : St := Mem.st ⟨[], []⟩ (tl [(8, .b vx1_1), (11, .i (IntKind.wrap .i64 (vr1)))]) 0

theorem z824 (vx1_1 : Bool) (vr1 : Int) {r} (hF : z821 vx1_1 vr1 = some r) : Awp prog 0 73 (cL (cR (cR (cR (cR (cR (cR (cR (cR (cR (cR (cR (cR (cB f222)))))))))))))) (Out 0 nrm (z823 vx1_1 vr1) r) (z822 vx1_1 vr1) := by
  unfold z821 at hF
  refine sR 1 (cE hF (fun h21 hF => ?_) fun h21 hF => ?_)
  · exact tT h21 (gR 3 (oO hF [] [] rfl))
  · exact tF h21 (awp_skip (oO hF [] [] rfl))

def z803 (qx : List UInt8) (qx1 : Int) (qx2 : Int) (r : Int) : TV × Mem := (.tup [.one (.i r), .one (.nili)], ⟨[], []⟩)

theorem z804 {qx : List UInt8} {qx1 : Int} {qx2 : Int} {r} (hF : z802 qx qx1 qx2 = some r) : Holds prog 222 [.c (.s qx), .i qx1, .i qx2] ⟨[], []⟩ (Is (z803 qx qx1 qx2 r)) := by
  unfold z802 at hF
  refine hW f222 73 0 0 ?_
  refine sR 2 (awp_seq (sR 2 (cE hF (fun h1 hF => ?_) fun h1 hF => ?_)))
  · exact tT h1 (awp_seq (nE hF))
  · refine tF h1 (awp_skip (sR 1 (awp_seq (awp_to (st' := z806 qx qx1 qx2) (oT [] []) ?_))))
    refine bE hF fun x h8 hF => ?_
    obtain ⟨vx2, vx1_1⟩ := x
    refine awp_sub (z808 qx qx1 qx2 h8) ?_
    refine sR 1 (awp_seq (bE hF fun vr1 h9 hF => awp_region (aR 3 (aC (z827 h9) [] [] [] (aR 5 (aE ?_))))))
    refine awp_seq (awp_seq (awp_region (aR 1 (aS (does_nilI (op := .neq) (c := false) rfl (.inr ⟨rfl, rfl⟩) (by kernel_rfl) (by kernel_rfl)) ?_))))
    refine aR 5 (aE ?_)
    refine tF rfl (awp_skip (awp_seq (awp_to (st' := z810 qx2 vx1_1 vr1) (oT [] []) ?_)))
    refine bE hF fun vx3_1 h11 hF => awp_sub (z812 qx2 vx1_1 vr1 h11) ?_
    refine awp_seq (gE hF fun h12 hF => ?_)
    refine awp_region (aR 3 (aX (x_shl h12) (aR 1 (aE ?_))))
    refine awp_seq (awp_seq (awp_to (st' := z814 vx1_1 vr1 vx3_1) (oT [] []) ?_))
    refine bE hF fun vx4_1 h14 hF => awp_sub (z816 vx1_1 vr1 vx3_1 h14) ?_
    refine cE hF (fun h15 hF => ?_) fun h15 hF => ?_
    · exact tT h15 (awp_seq (nE hF))
    · refine tF h15 (awp_skip (awp_seq (awp_seq (awp_to (st' := z818 vx1_1 vr1 vx3_1) (oT [] []) ?_))))
      refine bE hF fun vx5_1 h18 hF => awp_sub (z820 vx1_1 vr1 vx3_1 h18) ?_
      refine cE hF (fun h19 hF => ?_) fun h19 hF => ?_
      · exact tT h19 (awp_seq (nE hF))
      · refine tF h19 (awp_skip (sR 3 (awp_seq (awp_to (st' := z822 vx1_1 vr1) (oT [] []) ?_))))
        refine bE hF fun vx6_1 h22 hF => awp_sub (z824 vx1_1 vr1 h22) ?_
        exact sR 3 (awp_ret (oF hF [] []))

/-! ### internal/strconv.Atoi -/
def z781 (qx : List UInt8) : Bool → St
  | vx => Mem.st ⟨[], []⟩ (tl [(0, .c (.s qx)), (30, .b vx)]) 0

def z780 (qx : List UInt8) : St := Mem.st ⟨[], []⟩ (tl [(0, .c (.s qx)), (4, .i (qx.length : Int))]) 0

theorem z782 (qx : List UInt8) {r} (hF : z779 qx = some r) : Awp prog 0 77 (cL (cL (cR (cR (cB f212))))) (Out 0 nrm (z781 qx) r) (z780 qx) := by
  unfold z779 at hF
  refine cE hF (fun h1 hF => ?_) fun h1 hF => ?_
  · refine awp_region (aR 11 (aB h1 (aR 6 (aE ?_))))
    exact oO hF [] [] rfl
  · refine awp_region (aR 11 (aB h1 (aR 6 (aE ?_))))
    exact oO hF [] [] rfl

def z789 (qx : List UInt8) : Bool → St
  | vx2 => Mem.st ⟨[], []⟩ (tl [(0, .c (.s qx)), (5, .c (.s qx)), (39, .b vx2)]) 0

def z788 (qx : List UInt8) : St := Mem.st ⟨[], []⟩ (tl [(0, .c (.s qx)), (5, .c (.s qx))]) 0

theorem z790 (qx : List UInt8) {r} (hF : z787 qx = some r) : Awp prog 0 77 (cL (cL (cR (cL (cR (cL (cR (cR (cB f212))))))))) (Out 0 nrm (z789 qx) r) (z788 qx) := by
  unfold z787 at hF
  refine bE hF fun vc h4 hF => cE hF (fun h5 hF => ?_) fun h5 hF => ?_
  · refine awp_region (aR 1 (aX (x_idxS h4) (aB h5 (aR 5 (aE ?_)))))
    exact oO hF [] [] rfl
  · refine awp_region (aR 1 (aX (x_idxS h4) (aB h5 (aR 2 (aX (x_idxS h4) (aR 2 (aE ?_)))))))
    exact oO hF [] [] rfl

def z785 (qx : List UInt8) : (List UInt8) → St
  | vx3 => Mem.st ⟨[], []⟩ (tl [(0, .c (.s vx3)), (5, .c (.s qx))]) 0

def z784 (qx : List UInt8) : St := Mem.st ⟨[], []⟩ (tl [(0, .c (.s qx)), (5, .c (.s qx))]) 0

theorem z786 (qx : List UInt8) {r} (hF : z783 qx = some r) : Awp prog 0 77 (cL (cR (cL (cR (cL (cR (cR (cB f212)))))))) (Out 0 nrm (z785 qx) r) (z784 qx) := by
  unfold z783 at hF
  refine awp_seq (awp_to (st' := z788 qx) (oT [] []) ?_)
  refine bE hF fun vx2_1 h6 hF => awp_sub (z790 qx h6) ?_
  refine cE hF (fun h7 hF => ?_) fun h7 hF => ?_
  · refine tT h7 (awp_seq (bE hF fun vs h8 hF => awp_region (aR 1 (aX (x_sliceS h8) (aR 1 (aE ?_))))))
    refine sR 3 (cE hF (fun h9 hF => ?_) fun h9 hF => ?_)
    · exact tT h9 (awp_seq (nE hF))
    · exact tF h9 (awp_skip (oO hF [] [] rfl))
  · exact tF h7 (awp_skip (oO hF [] [] rfl))

def z794 : Int → AEx
  | _ => .exit 0

def z793 (qx : List UInt8) (vx3_1 : List UInt8) : Int → St
  | vx6 => Mem.st ⟨[], []⟩ (tl [(5, .c (.s qx)), (6, .i vx6)]) 0

def z792 (qx : List UInt8) (vx3_1 : List UInt8) : Int × Int → St
  | (vx4, vx5) => Mem.st ⟨[], []⟩ (tl [(5, .c (.s qx)), (6, .i vx4), (47, .c (.l (encI .u8) (bytesD vx3_1))), (48, .i ((bytesD vx3_1).length : Int)), (49, .i vx5)]) 0

theorem z795 (qx : List UInt8) (vx3_1 : List UInt8) (s : Int × Int) (r : (Int × Int) ⊕ (Int)) (hF : z791 vx3_1 s = some r) : Awp prog 0 77 (cL (cL (cR (cL (cR (cR (cR (cL (cR (cL (cR (cR (cB f212))))))))))))) (Out 0 (kk z794) (SS (z792 qx vx3_1) (z793 qx vx3_1)) r) (z792 qx vx3_1 s) := by
  obtain ⟨vx4, vx5⟩ := s
  unfold z791 at hF
  refine sR 1 (awp_seq (cE hF (fun h12 hF => ?_) fun h12 hF => ?_))
  · refine tT h12 (awp_skip (awp_seq (awp_block (awp_seq (bE hF fun vy1 h13 hF => awp_region (aX (x_idx (encI .u8) h13) (aR 2 (aE ?_))))))))
    refine sR 3 (awp_seq (sR 2 (cE hF (fun h14 hF => ?_) fun h14 hF => ?_)))
    · exact tT h14 (awp_seq (nE hF))
    · exact tF h14 (awp_skip (gR 6 (gR 2 (oO hF [] [] rfl))))
  · refine tF h12 (awp_exit ?_)
    exact oO hF [] [] rfl

def z798 (qx : List UInt8) (vx6_1 : Int) : Int → St
  | vx7 => Mem.st ⟨[], []⟩ (tl [(6, .i vx7)]) 0

def z797 (qx : List UInt8) (vx6_1 : Int) : St := Mem.st ⟨[], []⟩ (tl [(5, .c (.s qx)), (6, .i vx6_1)]) 0

theorem z799 (qx : List UInt8) (vx6_1 : Int) {r} (hF : z796 qx vx6_1 = some r) : Awp prog 0 77 (cL (cR (cR (cR (cR (cL (cR (cL (cR (cR (cB f212))))))))))) (Out 0 nrm (z798 qx vx6_1) r) (z797 qx vx6_1) := by
  unfold z796 at hF
  refine awp_seq (bE hF fun vc1 h17 hF => awp_region (aR 1 (aX (x_idxS h17) (aR 1 (aE ?_)))))
  refine cE hF (fun h18 hF => ?_) fun h18 hF => ?_
  · exact tT h18 (gR 3 (oO hF [] [] rfl))
  · exact tF h18 (awp_skip (oO hF [] [] rfl))

def z777 (qx : List UInt8) (r : Int) : TV × Mem := (.tup [.one (.i r), .one (.nili)], ⟨[], []⟩)

theorem z778 {qx : List UInt8} {r} (hF : z776 qx = some r) : Holds prog 212 [.c (.s qx)] ⟨[], []⟩ (Is (z777 qx r)) := by
  unfold z776 at hF
  refine hW f212 77 0 0 ?_
  refine sR 2 (sR 3 (awp_seq (awp_seq (awp_to (st' := z780 qx) (oT [] []) ?_))))
  refine bE hF fun vx1 h2 hF => awp_sub (z782 qx h2) ?_
  refine cE hF (fun h3 hF => ?_) fun h3 hF => ?_
  · refine tT h3 (sR 2 (awp_seq (awp_to (st' := z784 qx) (oT [] []) ?_)))
    refine bE hF fun vx3_1 h11 hF => awp_sub (z786 qx h11) ?_
    refine sR 1 (awp_seq (awp_seq (awp_region (aR 1 (aBs (s := vx3_1) rfl ?_)))))
    refine aL (encI .u8) (bytesD vx3_1) (aR 1 (aE ?_))
    refine awp_block (awp_to (st' := z792 qx vx3_1 (0, 0)) (oT [] []) ?_)
    refine bE hF fun vx6_1 h16 hF => awp_sub (awp_loop' (z792 qx vx3_1) z794 (z793 qx vx3_1) (by intro x; exact fun h => nomatch h) h16 (z795 qx vx3_1)) ?_
    refine awp_seq (awp_to (st' := z797 qx vx6_1) (oT [] []) ?_)
    refine bE hF fun vx7_1 h19 hF => awp_sub (z799 qx vx6_1 h19) ?_
    exact sR 3 (awp_ret (oF hF [] []))
  · refine tF h3 (awp_skip (awp_seq (bE hF fun vr h20 hF => awp_region (aR 1 (aC (z804 h20) [] [] [] (aR 5 (aE ?_)))))))
    exact sR 4 (awp_ret (oF hF [] []))

/-! ### strconv.Atoi -/
def z800 (qs : List UInt8) (r : Int) : TV × Mem := (.tup [.one (.i r), .one (.nili)], ⟨[], []⟩)

theorem z801 {qs : List UInt8} {r} (hF : z775 qs = some r) : Holds prog 194 [.c (.s qs)] ⟨[], []⟩ (Is (z800 qs r)) := by
  unfold z775 at hF
  refine hW f194 18 0 0 ?_
  refine sR 2 (awp_seq (bE hF fun vr1 h1 hF => awp_region (aR 1 (aC (z778 h1) [] [] [] (aR 5 (aE ?_))))))
  refine awp_seq (awp_seq (awp_region (aR 1 (aS (does_nilI (op := .neq) (c := false) rfl (.inr ⟨rfl, rfl⟩) (by kernel_rfl) (by kernel_rfl)) ?_))))
  refine aE ?_
  exact tF rfl (awp_skip (sR 3 (awp_ret (oF hF [] []))))

/-! ### beaconfleet/base.Number -/
def z51 (qs : List UInt8) (qdigits : Int) (vr : List UInt8) : Bool → St
  | vx => Mem.st ⟨[], []⟩ (tl [(0, .c (.s qs)), (6, .c (.s vr)), (36, .b vx)]) 0

def z50 (qs : List UInt8) (qdigits : Int) (vr : List UInt8) : St := Mem.st ⟨[], []⟩ (tl [(0, .c (.s qs)), (1, .i qdigits), (6, .c (.s vr))]) 0

theorem z52 (qs : List UInt8) (qdigits : Int) (vr : List UInt8) {r} (hF : z49 qs qdigits vr = some r) : Awp prog 0 61 (cL (cL (cR (cR (cB f156))))) (Out 0 nrm (z51 qs qdigits vr) r) (z50 qs qdigits vr) := by
  unfold z49 at hF
  refine cE hF (fun h2 hF => ?_) fun h2 hF => ?_
  · refine awp_region (aR 1 (aB h2 (aR 23 (aE ?_))))
    exact oO hF [] [] rfl
  · refine cE hF (fun h3 hF => ?_) fun h3 hF => ?_
    · refine awp_region (aR 1 (aB h2 (aR 4 (aB h3 (aR 18 (aE ?_))))))
      exact oO hF [] [] rfl
    · refine bE hF fun vc h4 hF => cE hF (fun h5 hF => ?_) fun h5 hF => ?_
      · refine cE hF (fun h6 hF => ?_) fun h6 hF => ?_
        · refine awp_region (aR 1 (aB h2 (aR 4 (aB h3 (aR 3 (aX (x_idxS h4) (aB h5 (aR 3 (aB h6 (aR 9 (aE ?_)))))))))))
          exact oO hF [] [] rfl
        · refine awp_region (aR 1 (aB h2 (aR 4 (aB h3 (aR 3 (aX (x_idxS h4) (aB h5 (aR 3 (aB h6 (aR 9 (aE ?_)))))))))))
          exact oO hF [] [] rfl
      · refine awp_region (aR 1 (aB h2 (aR 4 (aB h3 (aR 3 (aX (x_idxS h4) (aB h5 (aR 13 (aE ?_)))))))))
        exact oO hF [] [] rfl

def z60 (qs : List UInt8) (vr : List UInt8) (vx2 : Int) : Bool → St
  | vx4 => Mem.st ⟨[], []⟩ (tl [(0, .c (.s qs)), (6, .c (.s vr)), (38, .i (vr.length : Int)), (39, .i vx2), (51, .b vx4)]) 0

def z59 (qs : List UInt8) (vr : List UInt8) (vx2 : Int) : St := Mem.st ⟨[], []⟩ (tl [(0, .c (.s qs)), (6, .c (.s vr)), (7, .i vx2), (38, .i (vr.length : Int)), (39, .i vx2)]) 0

theorem z61 (qs : List UInt8) (vr : List UInt8) (vx2 : Int) {r} (hF : z58 vr vx2 = some r) : Awp prog 0 61 (cL (cR (cL (cL (cR (cR (cL (cL (cR (cL (cR (cR (cR (cB f156)))))))))))))) (Out 0 nrm (z60 qs vr vx2) r) (z59 qs vr vx2) := by
  unfold z58 at hF
  refine bE hF fun vc2 h10 hF => cE hF (fun h11 hF => ?_) fun h11 hF => ?_
  · refine awp_region (aR 2 (aX (x_idxS h10) (aB h11 (aR 6 (aE ?_)))))
    exact oO hF [] [] rfl
  · refine awp_region (aR 2 (aX (x_idxS h10) (aB h11 (aR 3 (aX (x_idxS h10) (aR 2 (aE ?_)))))))
    exact oO hF [] [] rfl

def z56 : Unit ⊕ Unit → AEx
  | .inl _ => .exit 0
  | .inr _ => .ret

def z55 (qs : List UInt8) (vr : List UInt8) : Unit ⊕ Unit → St
  | .inl _ => Mem.st ⟨[], []⟩ (tl [(0, .c (.s qs))]) 0
  | .inr _ => Mem.st ⟨[], []⟩ (tl [(4, .i 0), (5, .b false)]) 0

def z54 (qs : List UInt8) (vr : List UInt8) : Int → St
  | vx2 => Mem.st ⟨[], []⟩ (tl [(0, .c (.s qs)), (6, .c (.s vr)), (38, .i (vr.length : Int)), (39, .i vx2)]) 0

theorem z57 (qs : List UInt8) (vr : List UInt8) (vx2 : Int) (r : (Int) ⊕ (Unit ⊕ Unit)) (hF : z53 vr vx2 = some r) : Awp prog 0 61 (cL (cL (cR (cL (cR (cR (cR (cB f156)))))))) (Out 0 (kk z56) (SS (z54 qs vr) (z55 qs vr)) r) (z54 qs vr vx2) := by
  unfold z53 at hF
  refine sR 1 (awp_seq (cE hF (fun h9 hF => ?_) fun h9 hF => ?_))
  · refine tT h9 (awp_skip (awp_seq (awp_block (sR 2 (awp_seq (awp_to (st' := z59 qs vr vx2) (oT [] []) ?_))))))
    refine bE hF fun vx4_1 h12 hF => awp_sub (z61 qs vr vx2 h12) ?_
    refine cE hF (fun h13 hF => ?_) fun h13 hF => ?_
    · exact tT h13 (sR 2 (awp_ret (oO hF [] [] rfl)))
    · exact tF h13 (awp_skip (gR 2 (oO hF [] [] rfl)))
  · refine tF h9 (awp_exit ?_)
    exact oO hF [] [] rfl

def z47 (qs : List UInt8) (qdigits : Int) (r : Int × Bool) : TV × Mem := (.tup [.one (.i r.1), .one (.t r.2)], ⟨[], []⟩)

theorem z48 {qs : List UInt8} {qdigits : Int} {r} (hF : z46 qs qdigits = some r) : Holds prog 156 [.c (.s qs), .i qdigits] ⟨[], []⟩ (Is (z47 qs qdigits r)) := by
  unfold z46 at hF
  refine hW f156 61 0 0 ?_
  refine sR 2 (awp_seq (bE hF fun vr h1 hF => awp_region (aR 1 (aC (z952 h1) [] [] [] (aR 1 (aE ?_))))))
  refine awp_seq (awp_seq (awp_to (st' := z50 qs qdigits vr) (oT [] []) ?_))
  refine bE hF fun vx1 h7 hF => awp_sub (z52 qs qdigits vr h7) ?_
  refine cE hF (fun h8 hF => ?_) fun h8 hF => ?_
  · exact tT h8 (sR 2 (awp_ret (oF hF [] [])))
  · refine tF h8 (awp_skip (awp_seq (sR 3 (awp_block (awp_to (st' := z54 qs vr 0) (oT [] []) ?_)))))
    refine bE hF fun x h14 hF => ?_
    rcases x with _ | _
    · refine awp_sub (awp_loop' (z54 qs vr) z56 (z55 qs vr) (by intro x; rcases x with x | x <;> exact fun h => nomatch h) h14 (z57 qs vr)) ?_
      refine awp_seq (bE hF fun vr1 h15 hF => awp_region (aR 1 (aC (z801 h15) [] [] [] (aR 5 (aE ?_)))))
      refine awp_seq (aD ?_)
      refine dR 2 ?_
      refine dS (U := []) (stable_nilI (op := .eql) (c := true) rfl (.inl ⟨rfl, rfl⟩) (by kernel_rfl) (by kernel_rfl)) ?_
      refine dR 2 ?_
      refine dE ?_
      exact awp_ret (oF hF [] [])
    · refine awp_sub (awp_loop' (z54 qs vr) z56 (z55 qs vr) (by intro x; rcases x with x | x <;> exact fun h => nomatch h) h14 (z57 qs vr)) ?_
      exact oF hF [] []

/-! ### beaconfleet/base.Numbers -/
def z68 : (List Int) ⊕ Unit → AEx
  | .inl _ => .exit 0
  | .inr _ => .ret

def z67 (qwords : List (List UInt8)) (qdigits : Int) : (List Int) ⊕ Unit → St
  | .inl vout1 => Mem.st ⟨[(1, ⟨3, 1, List.map (encI .i64) vout1⟩)], []⟩ (tl [(6, .c (.own 1 none))]) 2
  | .inr _ => Mem.st ⟨[], []⟩ (tl [(4, .c (.nil)), (5, .b false)]) 1

def z66 (qwords : List (List UInt8)) (qdigits : Int) : (List Int) × Int → St
  | (vout, vx) => Mem.st ⟨[(1, ⟨3, 1, List.map (encI .i64) vout⟩)], []⟩ (tl [(1, .i qdigits), (6, .c (.own 1 none)), (11, .c (.l encS qwords)), (12, .i (qwords.length : Int)), (13, .i vx)]) 2

theorem z69 (qwords : List (List UInt8)) (qdigits : Int) (s : (List Int) × Int) (r : ((List Int) × Int) ⊕ ((List Int) ⊕ Unit)) (hF : z65 qwords qdigits s = some r) : Awp prog 1 31 (cL (cL (cR (cL (cR (cR (cB f126))))))) (Out 1 (kk z68) (SS (z66 qwords qdigits) (z67 qwords qdigits)) r) (z66 qwords qdigits s) := by
  obtain ⟨vout, vx⟩ := s
  unfold z65 at hF
  refine sR 1 (awp_seq (cE hF (fun h1 hF => ?_) fun h1 hF => ?_))
  · refine tT h1 (awp_skip (awp_seq (awp_block (awp_seq (bE hF fun vy1 h2 hF => awp_region (aX (x_idx encS h2) (aR 2 (aE ?_))))))))
    refine awp_seq (bE hF fun x h3 hF => ?_)
    obtain ⟨vr2_1, vr3_1⟩ := x
    refine awp_region (aR 2 (aC (z48 h3) [] [] [] (aR 5 (aE ?_))))
    refine awp_seq (sR 2 (cE hF (fun h4 hF => ?_) fun h4 hF => ?_))
    · exact tT h4 (sR 2 (awp_ret (oO hF [] [] rfl)))
    · refine tF h4 (awp_skip (gE hF fun h5 hF => ?_))
      refine awp_region (aR 3 (aX (x_app (encI .i64) 1 h5) (aR 1 (aE ?_))))
      exact gR 2 (oO hF [(1, 17002)] [] rfl)
  · refine tF h1 (awp_exit ?_)
    exact oO hF [] [] rfl

def z63 (qwords : List (List UInt8)) (qdigits : Int) (r : (List Int) × Bool) : TV × Mem := (.tup [.one (.own 1 none), .one (.t r.2)], ⟨[(1, ⟨3, 1, List.map (encI .i64) r.1⟩)], []⟩)

theorem z64 {qwords : List (List UInt8)} {qdigits : Int} {r} (hF : z62 qwords qdigits = some r) : Holds prog 126 [.c (.own 0 none), .i qdigits] ⟨[(0, ⟨9, 1, List.map encS qwords⟩)], []⟩ (Is (z63 qwords qdigits r)) := by
  unfold z62 at hF
  refine hW f126 31 1 1 ?_
  refine sR 2 (awp_to (oT (m := ⟨[], []⟩) (ts := [(0, .c (.l encS qwords)), (1, .i qdigits)]) (nx := 1) [] []) ?_)
  refine sR 1 (awp_seq (awp_seq (awp_region (aR 1 (aL encS qwords (aR 1 (aE ?_)))))))
  refine awp_block (awp_to (st' := z66 qwords qdigits ([], 0)) (oT [] [1]) ?_)
  refine bE hF fun x h6 hF => ?_
  rcases x with vout1_1 | _
  · refine awp_sub (awp_loop' (z66 qwords qdigits) z68 (z67 qwords qdigits) (by intro x; rcases x with x | x <;> exact fun h => nomatch h) h6 (z69 qwords qdigits)) ?_
    exact sR 3 (awp_ret (oF hF [] []))
  · refine awp_sub (awp_loop' (z66 qwords qdigits) z68 (z67 qwords qdigits) (by intro x; rcases x with x | x <;> exact fun h => nomatch h) h6 (z69 qwords qdigits)) ?_
    exact oF hF [] [1]

/-! ### beaconfleet/campaign.ParseVersion -/
def z170 (vr : List Int) (vr1_1 : Bool) : Bool → St
  | vx => Mem.st ⟨[], [(0, [.i 0, .i 0, .i 0])]⟩ (tl [(2, .c (.box 0 0)), (4, .c (.l (encI .i64) vr)), (19, .b vx)]) 1

def z169 (vr : List Int) (vr1_1 : Bool) : St := Mem.st ⟨[], [(0, [.i 0, .i 0, .i 0])]⟩ (tl [(2, .c (.box 0 0)), (4, .c (.l (encI .i64) vr)), (5, .b vr1_1)]) 1

theorem z171 (vr : List Int) (vr1_1 : Bool) {r} (hF : z168 vr vr1_1 = some r) : Awp prog 0 36 (cL (cL (cR (cR (cB f72))))) (Out 0 nrm (z170 vr vr1_1) r) (z169 vr vr1_1) := by
  unfold z168 at hF
  refine cE hF (fun h3 hF => ?_) fun h3 hF => ?_
  · refine awp_region (aR 1 (aB h3 (aR 5 (aE ?_))))
    exact oO hF [] [] rfl
  · refine awp_region (aR 1 (aB h3 (aR 2 (aL (encI .i64) vr (aR 2 (aE ?_))))))
    exact oO hF [] [] rfl

def z166 (qs : List UInt8) (r : api_Version × Int) : TV × Mem := (.tup [.agg [.i r.1.Major, .i r.1.Minor, .i r.1.Patch], .one (.i r.2)], ⟨[], []⟩)

theorem z167 {qs : List UInt8} {r} (hF : z165 qs = some r) : Holds prog 72 [.c (.s qs)] ⟨[], []⟩ (Is (z166 qs r)) := by
  unfold z165 at hF
  refine hW f72 36 0 0 ?_
  refine sR 2 (awp_seq (bE hF fun vr1 h1 hF => bE hF fun x h2 hF => ?_))
  obtain ⟨vr, vr1_1⟩ := x
  refine awp_region (aR 1 (aC (z949 h1) [] [] [] (aC (z64 h2) [(0, 3000)] [] [] (aR 5 (aE ?_)))))
  refine awp_to (oT (m := ⟨[], [(0, [.i 0, .i 0, .i 0])]⟩) (ts := [(2, .c (.box 0 0)), (4, .c (.l (encI .i64) vr)), (5, .b vr1_1)]) (nx := 1) [] []) ?_
  refine awp_seq (awp_seq (awp_to (st' := z169 vr vr1_1) (oT [] []) ?_))
  refine bE hF fun vx1 h4 hF => awp_sub (z171 vr vr1_1 h4) ?_
  refine cE hF (fun h5 hF => ?_) fun h5 hF => ?_
  · exact tT h5 (sR 3 (awp_ret (oF hF [] [])))
  · refine tF h5 (awp_skip (awp_seq (bE hF fun vy h6 hF => bE hF fun vy1 h7 hF => bE hF fun vy2 h8 hF => aD ?_)))
    refine dR 1 ?_
    refine dX (x_idx (encI .i64) h6) ?_
    refine dR 2 ?_
    refine dX (x_idx (encI .i64) h7) ?_
    refine dR 2 ?_
    refine dX (x_idx (encI .i64) h8) ?_
    refine dR 4 ?_
    refine dE ?_
    refine awp_seq (awp_seq (bE hF fun vr3 h9 hF => awp_region (aR 1 (aC (z78 h9) [] [] [] (aR 1 (aE ?_))))))
    refine cE hF (fun h10 hF => ?_) fun h10 hF => ?_
    · exact tT h10 (sR 3 (awp_ret (oF hF [] [])))
    · exact tF h10 (awp_skip (sR 3 (awp_ret (oF hF [] []))))

/-! ### beaconfleet/fleetlaw2.versioned -/
def z241 (vr2 : api_Version) (vr4 : Int) : Bool → St
  | vx => Mem.st ⟨[], []⟩ (tl [(0, .b vx)]) 0

def z240 (vr2 : api_Version) (vr4 : Int) : St := Mem.st ⟨[], [(0, [.i vr2.Major, .i vr2.Minor, .i vr2.Patch])]⟩ (tl [(1, .c (.box 0 0)), (2, .i vr4)]) 1

theorem z242 (vr2 : api_Version) (vr4 : Int) {r} (hF : z239 vr2 vr4 = some r) : Awp prog 0 14 (cL (cR (cR (cB f22)))) (Out 0 nrm (z241 vr2 vr4) r) (z240 vr2 vr4) := by
  unfold z239 at hF
  refine cE hF (fun h2 hF => ?_) fun h2 hF => ?_
  · refine awp_region (aR 1 (aB h2 (aR 3 (aS (does_eqS (op := .eql) (xs := [.int .i64 vr2.Major, .int .i64 vr2.Minor, .int .i64 vr2.Patch]) (ys := [.int .i64 1, .int .i64 2, .int .i64 3]) (b := (decide (vr2.Major = 1) && (decide (vr2.Minor = 2) && (decide (vr2.Patch = 3) && true)))) (c := (decide (vr2.Major = 1) && (decide (vr2.Minor = 2) && (decide (vr2.Patch = 3) && true)))) rfl (.inl ⟨rfl, rfl⟩) (by kernel_rfl) (by kernel_rfl) (by kernel_rfl) (by kernel_rfl) (by kernel_rfl) (by kernel_rfl)) ?_))))
    refine aR 2 (aE ?_)
    exact oO hF [] [] rfl
  · refine awp_region (aR 1 (aB h2 (aR 6 (aE ?_))))
    exact oO hF [] [] rfl

def z237 (r : Bool) : TV × Mem := (.b r, ⟨[], []⟩)

theorem z238 {r} (hF : z236 = some r) : Holds prog 22 [] ⟨[], []⟩ (Is (z237  r)) := by
  unfold z236 at hF
  refine hW f22 14 0 0 ?_
  refine sR 1 (awp_seq (bE hF fun x h1 hF => ?_))
  obtain ⟨vr2, vr4⟩ := x
  refine awp_region (aC (z167 h1) [] [] [] (aR 6 (aE ?_)))
  refine awp_seq (awp_to (st' := z240 vr2 vr4) (oT [(0, 5000)] []) ?_)
  refine bE hF fun vx1 h3 hF => awp_sub (z242 vr2 vr4 h3) ?_
  exact awp_ret (oF hF [] [])

/-! ### beaconfleet/fleetlaw2.CampaignsCheck -/
def z210 (vr2 : List UInt8) (vr4 : Int) (vr5 : Int) (vr6 : Int) (vr7 : Int) (vr8 : List api_Wave) (vr9 : Int) (vr10 : Int) (vr11 : Int) (vr4_1 : List api_Device) (vr : List UInt8) (vr21 : List api_Mark) (vs12_1 : z253) (vr21_1 : List api_Mark) : (z253 × Bool) → St
  | (vx, vx1) => Mem.st ⟨[], [(0, [.l (encI .i64) vx.L, .i vx.at_]), (1, [.s vr2, .i vr4, .i vr5, .i vr6, .i vr7, .l api_Wave.enc vr8, .i vr9, .i vr10, .i vr11])]⟩ (tl [(3, .c (.box 0 0)), (4, .c (.box 1 0)), (5, .c (.l api_Device.enc vr4_1)), (6, .c (.s vr)), (7, .c (.l api_Mark.enc vr21)), (8, .c (.l api_Mark.enc vr21_1)), (45, .b vx1)]) 2

def z209 (vr2 : List UInt8) (vr4 : Int) (vr5 : Int) (vr6 : Int) (vr7 : Int) (vr8 : List api_Wave) (vr9 : Int) (vr10 : Int) (vr11 : Int) (vr4_1 : List api_Device) (vr : List UInt8) (vr21 : List api_Mark) (vs12_1 : z253) (vr21_1 : List api_Mark) : St := Mem.st ⟨[], [(0, [.l (encI .i64) vs12_1.L, .i vs12_1.at_]), (1, [.s vr2, .i vr4, .i vr5, .i vr6, .i vr7, .l api_Wave.enc vr8, .i vr9, .i vr10, .i vr11])]⟩ (tl [(3, .c (.box 0 0)), (4, .c (.box 1 0)), (5, .c (.l api_Device.enc vr4_1)), (6, .c (.s vr)), (7, .c (.l api_Mark.enc vr21)), (8, .c (.l api_Mark.enc vr21_1))]) 2

theorem z211 (vr2 : List UInt8) (vr4 : Int) (vr5 : Int) (vr6 : Int) (vr7 : Int) (vr8 : List api_Wave) (vr9 : Int) (vr10 : Int) (vr11 : Int) (vr4_1 : List api_Device) (vr : List UInt8) (vr21 : List api_Mark) (vs12_1 : z253) (vr21_1 : List api_Mark) {r} (hF : z208 vr21 vs12_1 = some r) : Awp prog 0 132 (cL (cL (cR (cR (cR (cR (cR (cB f5)))))))) (Out 0 nrm (z210 vr2 vr4 vr5 vr6 vr7 vr8 vr9 vr10 vr11 vr4_1 vr vr21 vs12_1 vr21_1) r) (z209 vr2 vr4 vr5 vr6 vr7 vr8 vr9 vr10 vr11 vr4_1 vr vr21 vs12_1 vr21_1) := by
  unfold z208 at hF
  refine cE hF (fun h8 hF => ?_) fun h8 hF => ?_
  · refine bE hF fun vr12 h9 hF => awp_region (aR 1 (aL api_Mark.enc vr21 (aB h8 (aR 2 (aC (z274 h9) [] [] [] (aR 1 (aE ?_)))))))
    exact oO hF [] [] rfl
  · refine awp_region (aR 1 (aL api_Mark.enc vr21 (aB h8 (aR 4 (aE ?_)))))
    exact oO hF [] [] rfl

def z206 (vr2 : List UInt8) (vr4 : Int) (vr5 : Int) (vr6 : Int) (vr7 : Int) (vr8 : List api_Wave) (vr9 : Int) (vr10 : Int) (vr11 : Int) (vr4_1 : List api_Device) (vr : List UInt8) (vr21 : List api_Mark) (vs12_1 : z253) (vr21_1 : List api_Mark) : (List api_Mark) → St
  | vx3 => Mem.st ⟨[], [(0, [.s vr2, .i vr4, .i vr5, .i vr6, .i vr7, .l api_Wave.enc vr8, .i vr9, .i vr10, .i vr11])]⟩ (tl [(4, .c (.box 0 0)), (5, .c (.l api_Device.enc vr4_1)), (6, .c (.s vr)), (7, .c (.l api_Mark.enc vr21)), (8, .c (.l api_Mark.enc vx3))]) 1

def z205 (vr2 : List UInt8) (vr4 : Int) (vr5 : Int) (vr6 : Int) (vr7 : Int) (vr8 : List api_Wave) (vr9 : Int) (vr10 : Int) (vr11 : Int) (vr4_1 : List api_Device) (vr : List UInt8) (vr21 : List api_Mark) (vs12_1 : z253) (vr21_1 : List api_Mark) : St := Mem.st ⟨[], [(0, [.l (encI .i64) vs12_1.L, .i vs12_1.at_]), (1, [.s vr2, .i vr4, .i vr5, .i vr6, .i vr7, .l api_Wave.enc vr8, .i vr9, .i vr10, .i vr11])]⟩ (tl [(3, .c (.box 0 0)), (4, .c (.box 1 0)), (5, .c (.l api_Device.enc vr4_1)), (6, .c (.s vr)), (7, .c (.l api_Mark.enc vr21)), (8, .c (.l api_Mark.enc vr21_1))]) 2

theorem z207 (vr2 : List UInt8) (vr4 : Int) (vr5 : Int) (vr6 : Int) (vr7 : Int) (vr8 : List api_Wave) (vr9 : Int) (vr10 : Int) (vr11 : Int) (vr4_1 : List api_Device) (vr : List UInt8) (vr21 : List api_Mark) (vs12_1 : z253) (vr21_1 : List api_Mark) {r} (hF : z204 vr21 vs12_1 vr21_1 = some r) : Awp prog 0 132 (cL (cR (cR (cR (cR (cR (cB f5))))))) (Out 0 nrm (z206 vr2 vr4 vr5 vr6 vr7 vr8 vr9 vr10 vr11 vr4_1 vr vr21 vs12_1 vr21_1) r) (z205 vr2 vr4 vr5 vr6 vr7 vr8 vr9 vr10 vr11 vr4_1 vr vr21 vs12_1 vr21_1) := by
  unfold z204 at hF
  refine awp_seq (awp_to (st' := z209 vr2 vr4 vr5 vr6 vr7 vr8 vr9 vr10 vr11 vr4_1 vr vr21 vs12_1 vr21_1) (oT [] []) ?_)
  refine bE hF fun x h10 hF => ?_
  obtain ⟨vx2, vx1_1⟩ := x
  refine awp_sub (z211 vr2 vr4 vr5 vr6 vr7 vr8 vr9 vr10 vr11 vr4_1 vr vr21 vs12_1 vr21_1 h10) ?_
  refine cE hF (fun h11 hF => ?_) fun h11 hF => ?_
  · refine tT h11 (bE hF fun vr3_1 h12 hF => bE hF fun vl h13 hF => bE hF fun vr13 h14 hF => awp_region (aR 3 (aL api_Mark.enc vr21 (aC (z313 h12) [] [] [] (aX (x_sliceN api_Mark.enc h13) (aC (z471 h14) [] [] [] (aR 1 (aE ?_))))))))
    exact oO hF [(0, 1)] [] rfl
  · exact tF h11 (awp_skip (oO hF [(0, 1)] [] rfl))

def z214 (vr2 : List UInt8) (vr4 : Int) (vr5 : Int) (vr6 : Int) (vr7 : Int) (vr8 : List api_Wave) (vr9 : Int) (vr10 : Int) (vr11 : Int) (vr4_1 : List api_Device) (vr : List UInt8) (vr21 : List api_Mark) (vx3_1 : List api_Mark) (vr2_1 : Int) (vr3_2 : Int) (vr3_3 : List api_Mark) (vr4_2 : Int) (vr13_1 : Int) : Bool → St
  | vx4 => Mem.st ⟨[], [(0, [.s vr2, .i vr4, .i vr5, .i vr6, .i vr7, .l api_Wave.enc vr8, .i vr9, .i vr10, .i vr11])]⟩ (tl [(4, .c (.box 0 0)), (6, .c (.s vr)), (7, .c (.l api_Mark.enc vr21)), (8, .c (.l api_Mark.enc vx3_1)), (9, .i vr2_1), (10, .i vr3_2), (11, .c (.l api_Mark.enc vr3_3)), (12, .i vr4_2), (13, .i vr13_1), (84, .b vx4)]) 1

def z213 (vr2 : List UInt8) (vr4 : Int) (vr5 : Int) (vr6 : Int) (vr7 : Int) (vr8 : List api_Wave) (vr9 : Int) (vr10 : Int) (vr11 : Int) (vr4_1 : List api_Device) (vr : List UInt8) (vr21 : List api_Mark) (vx3_1 : List api_Mark) (vr2_1 : Int) (vr3_2 : Int) (vr3_3 : List api_Mark) (vr4_2 : Int) (vr13_1 : Int) : St := Mem.st ⟨[], [(0, [.s vr2, .i vr4, .i vr5, .i vr6, .i vr7, .l api_Wave.enc vr8, .i vr9, .i vr10, .i vr11])]⟩ (tl [(4, .c (.box 0 0)), (5, .c (.l api_Device.enc vr4_1)), (6, .c (.s vr)), (7, .c (.l api_Mark.enc vr21)), (8, .c (.l api_Mark.enc vx3_1)), (9, .i vr2_1), (10, .i vr3_2), (11, .c (.l api_Mark.enc vr3_3)), (12, .i vr4_2), (13, .i vr13_1)]) 1

theorem z215 (vr2 : List UInt8) (vr4 : Int) (vr5 : Int) (vr6 : Int) (vr7 : Int) (vr8 : List api_Wave) (vr9 : Int) (vr10 : Int) (vr11 : Int) (vr4_1 : List api_Device) (vr : List UInt8) (vr21 : List api_Mark) (vx3_1 : List api_Mark) (vr2_1 : Int) (vr3_2 : Int) (vr3_3 : List api_Mark) (vr4_2 : Int) (vr13_1 : Int) {r} (hF : z212 vr2 vr4 vr5 vr6 vr7 vr8 vr9 vr10 vr11 vr4_1 vr21 vr13_1 = some r) : Awp prog 0 132 (cL (cL (cR (cR (cR (cR (cR (cR (cR (cR (cR (cB f5)))))))))))) (Out 0 nrm (z214 vr2 vr4 vr5 vr6 vr7 vr8 vr9 vr10 vr11 vr4_1 vr vr21 vx3_1 vr2_1 vr3_2 vr3_3 vr4_2 vr13_1) r) (z213 vr2 vr4 vr5 vr6 vr7 vr8 vr9 vr10 vr11 vr4_1 vr vr21 vx3_1 vr2_1 vr3_2 vr3_3 vr4_2 vr13_1) := by
  unfold z212 at hF
  refine bE hF fun vr14 h19 hF => cE hF (fun h20 hF => ?_) fun h20 hF => ?_
  · refine awp_region (aR 1 (aC (z105 h19) [] [] [] (aR 1 (aB h20 (aR 14 (aE ?_))))))
    exact oO hF [] [] rfl
  · refine bE hF fun vr7_1 h21 hF => bE hF fun vr15 h22 hF => cE hF (fun h23 hF => ?_) fun h23 hF => ?_
    · refine awp_region (aR 1 (aC (z105 h19) [] [] [] (aR 1 (aB h20 (aR 2 (aC (z125 h21) [] [] [] (aR 1 (aC (z381 h22) [] [] [] (aB h23 (aR 8 (aE ?_)))))))))))
      exact oO hF [] [] rfl
    · refine bE hF fun vr6_1 h24 hF => bE hF fun vr4_3 h25 hF => awp_region (aR 1 (aC (z105 h19) [] [] [] (aR 1 (aB h20 (aR 2 (aC (z125 h21) [] [] [] (aR 1 (aC (z381 h22) [] [] [] (aB h23 (aR 3 (aC (z141 h24) [] [] [] ?_)))))))))))
      refine aR 1 (aC (z403 h25) [] [] [] (aR 2 (aE ?_)))
      exact oO hF [] [] rfl

def z218 (vr2 : List UInt8) (vr4 : Int) (vr5 : Int) (vr6 : Int) (vr7 : Int) (vr8 : List api_Wave) (vr9 : Int) (vr10 : Int) (vr11 : Int) (vr : List UInt8) (vr21 : List api_Mark) (vx3_1 : List api_Mark) (vr2_1 : Int) (vr3_2 : Int) (vr3_3 : List api_Mark) (vr4_2 : Int) (vr13_1 : Int) : (Int × Int) → St
  | (vx5, vx6) => Mem.st ⟨[], []⟩ (tl [(7, .c (.l api_Mark.enc vr21)), (8, .c (.l api_Mark.enc vx3_1)), (9, .i vr2_1), (10, .i vr3_2), (11, .c (.l api_Mark.enc vr3_3)), (12, .i vr4_2), (13, .i vx5), (14, .i vx6)]) 0

def z217 (vr2 : List UInt8) (vr4 : Int) (vr5 : Int) (vr6 : Int) (vr7 : Int) (vr8 : List api_Wave) (vr9 : Int) (vr10 : Int) (vr11 : Int) (vr : List UInt8) (vr21 : List api_Mark) (vx3_1 : List api_Mark) (vr2_1 : Int) (vr3_2 : Int) (vr3_3 : List api_Mark) (vr4_2 : Int) (vr13_1 : Int) : St := Mem.st ⟨[], [(0, [.s vr2, .i vr4, .i vr5, .i vr6, .i vr7, .l api_Wave.enc vr8, .i vr9, .i vr10, .i vr11])]⟩ (tl [(4, .c (.box 0 0)), (6, .c (.s vr)), (7, .c (.l api_Mark.enc vr21)), (8, .c (.l api_Mark.enc vx3_1)), (9, .i vr2_1), (10, .i vr3_2), (11, .c (.l api_Mark.enc vr3_3)), (12, .i vr4_2), (13, .i vr13_1), (14, .i 0)]) 1

theorem z219 (vr2 : List UInt8) (vr4 : Int) (vr5 : Int) (vr6 : Int) (vr7 : Int) (vr8 : List api_Wave) (vr9 : Int) (vr10 : Int) (vr11 : Int) (vr : List UInt8) (vr21 : List api_Mark) (vx3_1 : List api_Mark) (vr2_1 : Int) (vr3_2 : Int) (vr3_3 : List api_Mark) (vr4_2 : Int) (vr13_1 : Int) {r} (hF : z216 vr2 vr4 vr5 vr6 vr7 vr8 vr9 vr10 vr11 vr vr13_1 = some r) : Awp prog 0 132 (cL (cR (cR (cR (cR (cR (cR (cR (cR (cR (cR (cR (cB f5))))))))))))) (Out 0 nrm (z218 vr2 vr4 vr5 vr6 vr7 vr8 vr9 vr10 vr11 vr vr21 vx3_1 vr2_1 vr3_2 vr3_3 vr4_2 vr13_1) r) (z217 vr2 vr4 vr5 vr6 vr7 vr8 vr9 vr10 vr11 vr vr21 vx3_1 vr2_1 vr3_2 vr3_3 vr4_2 vr13_1) := by
  unfold z216 at hF
  refine awp_seq (bE hF fun vr3_4 h28 hF => bE hF fun vr16 h29 hF => bE hF fun vr17 h30 hF => awp_region (aR 2 (aC (z393 h28) [] [] [] (aR 1 (aC (z245 h29) [] [] [] (aR 1 (aC (z230 h30) [] [] [5001] (aR 1 (aE ?_)))))))))
  refine sR 2 (cE hF (fun h31 hF => ?_) fun h31 hF => ?_)
  · refine tT h31 (bE hF fun vr1_1 h32 hF => awp_region (aR 2 (aC (z430 h32) [] [] [] (aR 1 (aE ?_)))))
    exact oO hF [] [] rfl
  · exact tF h31 (awp_skip (oO hF [] [] rfl))

def z222 (vr21 : List api_Mark) (vx3_1 : List api_Mark) (vr2_1 : Int) (vr3_2 : Int) (vr3_3 : List api_Mark) (vr4_2 : Int) (vx5_1 : Int) (vx6_1 : Int) (vr18 : Int) : (Int × (List api_Mark)) → St
  | (vx7, vx8) => Mem.st ⟨[], []⟩ (tl [(9, .i vr2_1), (10, .i vr3_2), (11, .c (.l api_Mark.enc vr3_3)), (12, .i vr4_2), (13, .i vx5_1), (14, .i vx6_1), (15, .i vx7), (16, .c (.l api_Mark.enc vx8))]) 0

def z221 (vr21 : List api_Mark) (vx3_1 : List api_Mark) (vr2_1 : Int) (vr3_2 : Int) (vr3_3 : List api_Mark) (vr4_2 : Int) (vx5_1 : Int) (vx6_1 : Int) (vr18 : Int) : St := Mem.st ⟨[], []⟩ (tl [(7, .c (.l api_Mark.enc vr21)), (8, .c (.l api_Mark.enc vx3_1)), (9, .i vr2_1), (10, .i vr3_2), (11, .c (.l api_Mark.enc vr3_3)), (12, .i vr4_2), (13, .i vx5_1), (14, .i vx6_1), (15, .i vr18), (16, .c (.nil))]) 0

theorem z223 (vr21 : List api_Mark) (vx3_1 : List api_Mark) (vr2_1 : Int) (vr3_2 : Int) (vr3_3 : List api_Mark) (vr4_2 : Int) (vx5_1 : Int) (vx6_1 : Int) (vr18 : Int) {r} (hF : z220 vr21 vx3_1 vr18 = some r) : Awp prog 0 132 (cL (cR (cR (cR (cR (cR (cR (cR (cR (cR (cR (cR (cR (cR (cR (cB f5)))))))))))))))) (Out 0 nrm (z222 vr21 vx3_1 vr2_1 vr3_2 vr3_3 vr4_2 vx5_1 vx6_1 vr18) r) (z221 vr21 vx3_1 vr2_1 vr3_2 vr3_3 vr4_2 vx5_1 vx6_1 vr18) := by
  unfold z220 at hF
  refine sR 2 (cE hF (fun h37 hF => ?_) fun h37 hF => ?_)
  · refine tT h37 (bE hF fun x h38 hF => ?_)
    obtain ⟨vr2_2, vr3_5⟩ := x
    refine awp_region (aR 2 (aC (z415 h38) [] [] [] (aR 5 (aE ?_))))
    exact oO hF [] [] rfl
  · exact tF h37 (awp_skip (oO hF [] [] rfl))

def z226 (vr2_1 : Int) (vr3_2 : Int) (vr3_3 : List api_Mark) (vr4_2 : Int) (vx5_1 : Int) (vx6_1 : Int) (vx7_1 : Int) (vx8_1 : List api_Mark) : Bool → St
  | vx9 => Mem.st ⟨[], []⟩ (tl [(2, .b vx9)]) 0

def z225 (vr2_1 : Int) (vr3_2 : Int) (vr3_3 : List api_Mark) (vr4_2 : Int) (vx5_1 : Int) (vx6_1 : Int) (vx7_1 : Int) (vx8_1 : List api_Mark) : St := Mem.st ⟨[], []⟩ (tl [(9, .i vr2_1), (10, .i vr3_2), (11, .c (.l api_Mark.enc vr3_3)), (12, .i vr4_2), (13, .i vx5_1), (14, .i vx6_1), (15, .i vx7_1), (16, .c (.l api_Mark.enc vx8_1))]) 0

theorem z227 (vr2_1 : Int) (vr3_2 : Int) (vr3_3 : List api_Mark) (vr4_2 : Int) (vx5_1 : Int) (vx6_1 : Int) (vx7_1 : Int) (vx8_1 : List api_Mark) {r} (hF : z224 vr2_1 vr3_2 vr3_3 vr4_2 vx5_1 vx6_1 vx7_1 vx8_1 = some r) : Awp prog 0 132 (cL (cR (cR (cR (cR (cR (cR (cR (cR (cR (cR (cR (cR (cR (cR (cR (cB f5))))))))))))))))) (Out 0 nrm (z226 vr2_1 vr3_2 vr3_3 vr4_2 vx5_1 vx6_1 vx7_1 vx8_1) r) (z225 vr2_1 vr3_2 vr3_3 vr4_2 vx5_1 vx6_1 vx7_1 vx8_1) := by
  unfold z224 at hF
  refine cE hF (fun h40 hF => ?_) fun h40 hF => ?_
  · refine cE hF (fun h41 hF => ?_) fun h41 hF => ?_
    · refine cE hF (fun h42 hF => ?_) fun h42 hF => ?_
      · refine bE hF fun vr19 h43 hF => cE hF (fun h44 hF => ?_) fun h44 hF => ?_
        · refine bE hF fun vr20 h45 hF => awp_region (aR 2 (aB h40 (aR 3 (aB h41 (aR 4 (aB h42 (aR 4 (aCb (z521 h43) [] [] [] h44 ?_))))))))
          refine aR 2 (aC (z238 h45) [] [] [] (aR 2 (aE ?_)))
          exact oO hF [] [] rfl
        · refine awp_region (aR 2 (aB h40 (aR 3 (aB h41 (aR 4 (aB h42 (aR 4 (aCb (z521 h43) [] [] [] h44 ?_))))))))
          refine aR 5 (aE ?_)
          exact oO hF [] [] rfl
      · refine awp_region (aR 2 (aB h40 (aR 3 (aB h41 (aR 4 (aB h42 (aR 10 (aE ?_))))))))
        exact oO hF [] [] rfl
    · refine awp_region (aR 2 (aB h40 (aR 3 (aB h41 (aR 15 (aE ?_))))))
      exact oO hF [] [] rfl
  · refine awp_region (aR 2 (aB h40 (aR 19 (aE ?_))))
    exact oO hF [] [] rfl

def z203 (qx : List Int) (r : Bool) : TV × Mem := (.b r, ⟨[], []⟩)

theorem fleetlaw2_CampaignsCheck_ok {qx : List Int} {r} (hF : fleetlaw2_CampaignsCheck qx = some r) : Holds prog 5 [.c (.l (encI .i64) qx)] ⟨[], []⟩ (Is (z203 qx r)) := by
  unfold fleetlaw2_CampaignsCheck at hF
  refine hW f5 132 0 0 ?_
  refine sR 1 (sR 4 (awp_seq (bE hF fun x h1 hF => ?_)))
  obtain ⟨vs4, vr2, vr4, vr5, vr6, vr7, vr8, vr9, vr10, vr11⟩ := x
  refine bE hF fun x h2 hF => ?_
  obtain ⟨vs5, vr4_1⟩ := x
  refine bE hF fun vr h3 hF => awp_region (aR 1 (aC (z256 h1) [(0, 3000)] [] [] (aR 1 (aC (z263 h2) [(0, 3000)] [] [] (aR 2 (aC (z352 h3) [(0, 3000), (1, 10000)] [] [] (aR 4 (aE ?_))))))))
  refine awp_to (oT (m := ⟨[(2, ⟨103, 4, List.map api_Wave.enc vr8⟩)], [(0, [.l (encI .i64) vs5.L, .i (IntKind.wrap .i64 (vs5.at_ + 1))]), (1, [.s vr2, .i vr4, .i vr5, .i vr6, .i vr7, .own 2 none, .i vr9, .i vr10, .i vr11])]⟩) (ts := [(3, .c (.box 0 0)), (4, .c (.box 1 0)), (5, .c (.l api_Device.enc vr4_1)), (6, .c (.s vr))]) (nx := 3) [(0, 3000), (1, 12000), (2, 6001)] []) ?_
  refine awp_seq (bE hF fun x h4 hF => ?_)
  obtain ⟨vs, vr1⟩ := x
  refine bE hF fun x h5 hF => ?_
  obtain ⟨vs12, vr21⟩ := x
  refine awp_to (oT (m := ⟨[], [(0, [.l (encI .i64) vs5.L, .i (IntKind.wrap .i64 (vs5.at_ + 1))]), (1, [.s vr2, .i vr4, .i vr5, .i vr6, .i vr7, .l api_Wave.enc vr8, .i vr9, .i vr10, .i vr11])]⟩) (ts := [(3, .c (.box 0 0)), (4, .c (.box 1 0)), (5, .c (.l api_Device.enc vr4_1)), (6, .c (.s vr))]) (nx := 3) [] []) ?_
  refine aD ?_
  refine dR 4 ?_
  refine dC (z322 h4) [] [] [] ?_
  refine dC (z280 h5) [] [] [] ?_
  refine dR 1 ?_
  refine dE ?_
  refine awp_to (oT (m := ⟨[], [(0, [.l (encI .i64) vs12.L, .i vs12.at_]), (1, [.s vr2, .i vr4, .i vr5, .i vr6, .i vr7, .l api_Wave.enc vr8, .i vr9, .i vr10, .i vr11])]⟩) (ts := [(3, .c (.box 0 0)), (4, .c (.box 1 0)), (5, .c (.l api_Device.enc vr4_1)), (6, .c (.s vr)), (7, .c (.l api_Mark.enc vr21))]) (nx := 2) [] []) ?_
  refine awp_seq (bE hF fun x h6 hF => ?_)
  obtain ⟨vs1, vr3⟩ := x
  refine bE hF fun x h7 hF => ?_
  obtain ⟨vs12_1, vr21_1⟩ := x
  refine aD ?_
  refine dR 4 ?_
  refine dC (z322 h6) [] [] [] ?_
  refine dC (z280 h7) [] [] [] ?_
  refine dR 1 ?_
  refine dE ?_
  refine awp_to (oT (m := ⟨[], [(0, [.l (encI .i64) vs12_1.L, .i vs12_1.at_]), (1, [.s vr2, .i vr4, .i vr5, .i vr6, .i vr7, .l api_Wave.enc vr8, .i vr9, .i vr10, .i vr11])]⟩) (ts := [(3, .c (.box 0 0)), (4, .c (.box 1 0)), (5, .c (.l api_Device.enc vr4_1)), (6, .c (.s vr)), (7, .c (.l api_Mark.enc vr21)), (8, .c (.l api_Mark.enc vr21_1))]) (nx := 2) [] []) ?_
  refine awp_seq (awp_to (st' := z205 vr2 vr4 vr5 vr6 vr7 vr8 vr9 vr10 vr11 vr4_1 vr vr21 vs12_1 vr21_1) (oT [] []) ?_)
  refine bE hF fun vx3_1 h15 hF => awp_sub (z207 vr2 vr4 vr5 vr6 vr7 vr8 vr9 vr10 vr11 vr4_1 vr vr21 vs12_1 vr21_1 h15) ?_
  refine awp_seq (bE hF fun x h16 hF => ?_)
  obtain ⟨vr2_1, vr3_2⟩ := x
  refine awp_region (aR 2 (aC (z174 h16) [] [] [] (aR 5 (aE ?_))))
  refine awp_seq (bE hF fun x h17 hF => ?_)
  obtain ⟨vr3_3, vr4_2⟩ := x
  refine awp_region (aR 2 (aC (z159 h17) [] [] [] (aR 5 (aE ?_))))
  refine awp_to (oT (m := ⟨[], [(0, [.s vr2, .i vr4, .i vr5, .i vr6, .i vr7, .l api_Wave.enc vr8, .i vr9, .i vr10, .i vr11])]⟩) (ts := [(4, .c (.box 0 0)), (5, .c (.l api_Device.enc vr4_1)), (6, .c (.s vr)), (7, .c (.l api_Mark.enc vr21)), (8, .c (.l api_Mark.enc vx3_1)), (9, .i vr2_1), (10, .i vr3_2), (11, .c (.l api_Mark.enc vr3_3)), (12, .i vr4_2)]) (nx := 1) [] []) ?_
  refine awp_seq (bE hF fun vr13_1 h18 hF => awp_region (aR 1 (aC (z365 h18) [] [] [] (aR 1 (aE ?_)))))
  refine awp_seq (awp_seq (awp_to (st' := z213 vr2 vr4 vr5 vr6 vr7 vr8 vr9 vr10 vr11 vr4_1 vr vr21 vx3_1 vr2_1 vr3_2 vr3_3 vr4_2 vr13_1) (oT [] []) ?_))
  refine bE hF fun vx4_1 h26 hF => awp_sub (z215 vr2 vr4 vr5 vr6 vr7 vr8 vr9 vr10 vr11 vr4_1 vr vr21 vx3_1 vr2_1 vr3_2 vr3_3 vr4_2 vr13_1 h26) ?_
  refine cE hF (fun h27 hF => ?_) fun h27 hF => ?_
  · exact tT h27 (sR 1 (awp_ret (oF hF [] [])))
  · refine tF h27 (awp_skip (sR 1 (awp_seq (awp_to (st' := z217 vr2 vr4 vr5 vr6 vr7 vr8 vr9 vr10 vr11 vr vr21 vx3_1 vr2_1 vr3_2 vr3_3 vr4_2 vr13_1) (oT [] []) ?_))))
    refine bE hF fun x h33 hF => ?_
    obtain ⟨vx5_1, vx6_1⟩ := x
    refine awp_sub (z219 vr2 vr4 vr5 vr6 vr7 vr8 vr9 vr10 vr11 vr vr21 vx3_1 vr2_1 vr3_2 vr3_3 vr4_2 vr13_1 h33) ?_
    refine awp_seq (bE hF fun vr4_4 h34 hF => bE hF fun vr4_5 h35 hF => bE hF fun vr18 h36 hF => awp_region (aR 1 (aC (z403 h34) [] [] [] (aR 1 (aC (z403 h35) [] [] [] (aR 1 (aC (z230 h36) [] [] [4000] (aR 1 (aE ?_)))))))))
    refine sR 1 (awp_seq (awp_to (st' := z221 vr21 vx3_1 vr2_1 vr3_2 vr3_3 vr4_2 vx5_1 vx6_1 vr18) (oT [] []) ?_))
    refine bE hF fun x h39 hF => ?_
    obtain ⟨vx7_1, vx8_1⟩ := x
    refine awp_sub (z223 vr21 vx3_1 vr2_1 vr3_2 vr3_3 vr4_2 vx5_1 vx6_1 vr18 h39) ?_
    refine awp_seq (awp_to (st' := z225 vr2_1 vr3_2 vr3_3 vr4_2 vx5_1 vx6_1 vx7_1 vx8_1) (oT [] []) ?_)
    refine bE hF fun vx9_1 h46 hF => awp_sub (z227 vr2_1 vr3_2 vr3_3 vr4_2 vx5_1 vx6_1 vx7_1 vx8_1 h46) ?_
    exact awp_ret (oF hF [] [])

end Go.Eng
