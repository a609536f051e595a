/-
The code of the Go functions that the law PlacesStay reaches does what the plain functions say, part 3.
-/
import Derived.Test.YtnolfbkibkgolaaGreatDoorGenP2

namespace Go.Eng

open Go Go.Proofs.Tryz

set_option linter.unusedVariables false

set_option maxRecDepth 20000

set_option maxHeartbeats 0

/-! ### beaconfleet/series.Check -/
def z670 (ql : List api_Sample) (vx : Int) (vy2 : api_Sample) : Bool → St
  | vx4 => Mem.st ⟨[], [(0, [.s vy2.Device, .s vy2.Metric, .i vy2.At, .i vy2.Value])]⟩ (tl [(0, .c (.l api_Sample.enc ql)), (3, .i vx), (4, .c (.box 0 0)), (8, .c (.l api_Sample.enc ql)), (9, .i (ql.length : Int)), (10, .i vx), (15, .b vx4)]) 1

def z669 (ql : List api_Sample) (vx : Int) (vy2 : api_Sample) : St := Mem.st ⟨[], [(0, [.s vy2.Device, .s vy2.Metric, .i vy2.At, .i vy2.Value])]⟩ (tl [(0, .c (.l api_Sample.enc ql)), (3, .i vx), (4, .c (.box 0 0)), (8, .c (.l api_Sample.enc ql)), (9, .i (ql.length : Int)), (10, .i vx)]) 1

theorem z671 (ql : List api_Sample) (vx : Int) (vy2 : api_Sample) {r} (hF : z668 vy2 = some r) : Awp prog 0 50 (cL (cL (cR (cL (cL (cR (cR (cL (cL (cR (cL (cR (cR (cB f123)))))))))))))) (Out 0 nrm (z670 ql vx vy2) r) (z669 ql vx vy2) := by
  unfold z668 at hF
  refine bE hF fun vr3 h4 hF => cE hF (fun h5 hF => ?_) fun h5 hF => ?_
  · refine awp_region (aR 2 (aC (z46 h4) [] [] [] (aB h5 (aR 7 (aE ?_)))))
    exact oO hF [] [] rfl
  · refine bE hF fun vr4 h6 hF => awp_region (aR 2 (aC (z46 h4) [] [] [] (aB h5 (aR 3 (aC (z46 h6) [] [] [] (aR 3 (aE ?_)))))))
    exact oO hF [] [] rfl

def z674 (ql : List api_Sample) (vx : Int) (vy2 : api_Sample) : Bool → St
  | vx5 => Mem.st ⟨[], [(0, [.s vy2.Device, .s vy2.Metric, .i vy2.At, .i vy2.Value])]⟩ (tl [(0, .c (.l api_Sample.enc ql)), (3, .i vx), (4, .c (.box 0 0)), (8, .c (.l api_Sample.enc ql)), (9, .i (ql.length : Int)), (10, .i vx), (26, .b vx5)]) 1

def z673 (ql : List api_Sample) (vx : Int) (vy2 : api_Sample) : St := Mem.st ⟨[], [(0, [.s vy2.Device, .s vy2.Metric, .i vy2.At, .i vy2.Value])]⟩ (tl [(0, .c (.l api_Sample.enc ql)), (3, .i vx), (4, .c (.box 0 0)), (8, .c (.l api_Sample.enc ql)), (9, .i (ql.length : Int)), (10, .i vx)]) 1

theorem z675 (ql : List api_Sample) (vx : Int) (vy2 : api_Sample) {r} (hF : z672 vy2 = some r) : Awp prog 0 50 (cL (cR (cR (cL (cR (cL (cL (cR (cR (cL (cL (cR (cL (cR (cR (cB f123)))))))))))))))) (Out 0 nrm (z674 ql vx vy2) r) (z673 ql vx vy2) := by
  unfold z672 at hF
  refine bE hF fun vr1_2 h9 hF => cE hF (fun h10 hF => ?_) fun h10 hF => ?_
  · refine awp_region (aR 2 (aC (z62 h9) [] [] [] (aB h10 (aR 6 (aE ?_)))))
    exact oO hF [] [] rfl
  · refine bE hF fun vr5 h11 hF => awp_region (aR 2 (aC (z62 h9) [] [] [] (aB h10 (aR 3 (aC (z88 h11) [] [] [] (aR 2 (aE ?_)))))))
    exact oO hF [] [] rfl

def z678 (ql : List api_Sample) (vx : Int) (vy2 : api_Sample) : Bool → St
  | vx6 => Mem.st ⟨[], []⟩ (tl [(0, .c (.l api_Sample.enc ql)), (8, .c (.l api_Sample.enc ql)), (9, .i (ql.length : Int)), (10, .i vx), (36, .b vx6)]) 0

def z677 (ql : List api_Sample) (vx : Int) (vy2 : api_Sample) : St := Mem.st ⟨[], [(0, [.s vy2.Device, .s vy2.Metric, .i vy2.At, .i vy2.Value])]⟩ (tl [(0, .c (.l api_Sample.enc ql)), (3, .i vx), (4, .c (.box 0 0)), (8, .c (.l api_Sample.enc ql)), (9, .i (ql.length : Int)), (10, .i vx)]) 1

theorem z679 (ql : List api_Sample) (vx : Int) (vy2 : api_Sample) {r} (hF : z676 ql vx vy2 = some r) : Awp prog 0 50 (cL (cR (cR (cR (cR (cL (cR (cL (cL (cR (cR (cL (cL (cR (cL (cR (cR (cB f123)))))))))))))))))) (Out 0 nrm (z678 ql vx vy2) r) (z677 ql vx vy2) := by
  unfold z676 at hF
  refine cE hF (fun h14 hF => ?_) fun h14 hF => ?_
  · refine bE hF fun vy3 h15 hF => bE hF fun vr2_2 h16 hF => aD ?_
    refine dR 1 ?_
    refine dB h14 ?_
    refine dR 5 ?_
    refine dX (x_idx api_Sample.enc h15) ?_
    refine dR 1 ?_
    refine dC (z685 h16) [] [] [] ?_
    refine dR 3 ?_
    refine dE ?_
    exact oO hF [] [] rfl
  · refine aD ?_
    refine dR 1 ?_
    refine dB h14 ?_
    refine dR 11 ?_
    refine dE ?_
    exact oO hF [] [] rfl

def z666 : Unit ⊕ Int → AEx
  | .inl _ => .exit 0
  | .inr _ => .ret

def z665 (ql : List api_Sample) : Unit ⊕ Int → St
  | .inl _ => Mem.st ⟨[], []⟩ (tl []) 0
  | .inr vx7 => Mem.st ⟨[], []⟩ (tl [(2, .i vx7)]) 0

def z664 (ql : List api_Sample) : Int → St
  | vx => Mem.st ⟨[], []⟩ (tl [(0, .c (.l api_Sample.enc ql)), (8, .c (.l api_Sample.enc ql)), (9, .i (ql.length : Int)), (10, .i vx)]) 0

theorem z667 (ql : List api_Sample) (vx : Int) (r : (Int) ⊕ (Unit ⊕ Int)) (hF : z663 ql vx = some r) : Awp prog 0 50 (cL (cL (cR (cL (cR (cR (cB f123))))))) (Out 0 (kk z666) (SS (z664 ql) (z665 ql)) r) (z664 ql vx) := by
  unfold z663 at hF
  refine sR 1 (awp_seq (cE hF (fun h2 hF => ?_) fun h2 hF => ?_))
  · refine tT h2 (awp_skip (awp_seq (awp_block (awp_seq (bE hF fun vy2 h3 hF => awp_region (aR 1 (aX (x_idx api_Sample.enc h3) (aR 4 (aE ?_)))))))))
    refine awp_block (awp_seq (awp_to (st' := z669 ql vx vy2) (oT [(0, 4000)] []) ?_))
    refine bE hF fun vx4_1 h7 hF => awp_sub (z671 ql vx vy2 h7) ?_
    refine cE hF (fun h8 hF => ?_) fun h8 hF => ?_
    · exact tT h8 (sR 1 (awp_ret (oO hF [] [] rfl)))
    · refine tF h8 (awp_seq (awp_to (st' := z673 ql vx vy2) (oT [] []) ?_))
      refine bE hF fun vx5_1 h12 hF => awp_sub (z675 ql vx vy2 h12) ?_
      refine cE hF (fun h13 hF => ?_) fun h13 hF => ?_
      · exact tT h13 (sR 1 (awp_ret (oO hF [] [] rfl)))
      · refine tF h13 (awp_seq (awp_to (st' := z677 ql vx vy2) (oT [] []) ?_))
        refine bE hF fun vx6_1 h17 hF => awp_sub (z679 ql vx vy2 h17) ?_
        refine cE hF (fun h18 hF => ?_) fun h18 hF => ?_
        · exact tT h18 (sR 1 (awp_ret (oO hF [] [] rfl)))
        · exact tF h18 (awp_skip (gR 2 (oO hF [] [] rfl)))
  · refine tF h2 (awp_exit ?_)
    exact oO hF [] [] rfl

def z661 (ql : List api_Sample) (r : Int) : TV × Mem := (.i r, ⟨[], []⟩)

theorem z662 {ql : List api_Sample} {r} (hF : z650 ql = some r) : Holds prog 123 [.c (.l api_Sample.enc ql)] ⟨[], []⟩ (Is (z661 ql r)) := by
  unfold z650 at hF
  refine hW f123 50 0 0 ?_
  refine sR 1 (awp_seq (awp_seq (awp_region (aR 1 (aL api_Sample.enc ql (aR 1 (aE ?_)))))))
  refine cE hF (fun h1 hF => ?_) fun h1 hF => ?_
  · exact tT h1 (sR 1 (awp_ret (oF hF [] [])))
  · refine tF h1 (awp_skip (awp_seq (awp_seq (awp_region (aR 1 (aL api_Sample.enc ql (aR 1 (aE ?_))))))))
    refine awp_block (awp_to (st' := z664 ql 0) (oT [] []) ?_)
    refine bE hF fun x h19 hF => ?_
    rcases x with _ | vx7_1
    · refine awp_sub (awp_loop' (z664 ql) z666 (z665 ql) (by intro x; rcases x with x | x <;> exact fun h => nomatch h) h19 (z667 ql)) ?_
      exact sR 1 (awp_ret (oF hF [] []))
    · refine awp_sub (awp_loop' (z664 ql) z666 (z665 ql) (by intro x; rcases x with x | x <;> exact fun h => nomatch h) h19 (z667 ql)) ?_
      exact oF hF [] []

/-! ### beaconfleet/series.CheckSeries$1 -/
def z657 (qs : api_Sample) (qx : List api_Sample) : Bool → St
  | vx => Mem.st ⟨[], [(0, [.l api_Sample.enc qx])]⟩ (tl [(3, .b vx)]) 1

def z656 (qs : api_Sample) (qx : List api_Sample) : St := Mem.st ⟨[], [(0, [.l api_Sample.enc qx]), (1, [.s qs.Device, .s qs.Metric, .i qs.At, .i qs.Value])]⟩ (tl [(1, .c (.box 0 0)), (2, .c (.box 1 0))]) 2

theorem z658 (qs : api_Sample) (qx : List api_Sample) {r} (hF : z655 qs qx = some r) : Awp prog 1 20 (cL (cR (cB f125))) (Out 1 nrm (z657 qs qx) r) (z656 qs qx) := by
  unfold z655 at hF
  refine bE hF fun vy h1 hF => cE hF (fun h2 hF => ?_) fun h2 hF => ?_
  · refine aD ?_
    refine dR 3 ?_
    refine dX (x_idx api_Sample.enc h1) ?_
    refine dR 2 ?_
    refine dB h2 ?_
    refine dR 10 ?_
    refine dE ?_
    exact oO hF [] [] rfl
  · refine aD ?_
    refine dR 3 ?_
    refine dX (x_idx api_Sample.enc h1) ?_
    refine dR 2 ?_
    refine dB h2 ?_
    refine dR 4 ?_
    refine dX (x_idx api_Sample.enc h1) ?_
    refine dR 5 ?_
    refine dE ?_
    exact oO hF [] [] rfl

def z653 (qs : api_Sample) (qx : List api_Sample) (r : Bool) : TV × Mem := (.b r, ⟨[], [(0, [.l api_Sample.enc qx])]⟩)

theorem z654 {qs : api_Sample} {qx : List api_Sample} {r} (hF : z652 qs qx = some r) : Holds prog 125 [.v (.agg [.s qs.Device, .s qs.Metric, .i qs.At, .i qs.Value]), .c (.box 0 0)] ⟨[], [(0, [.l api_Sample.enc qx])]⟩ (Is (z653 qs qx r)) := by
  unfold z652 at hF
  refine hW f125 20 1 1 ?_
  refine sR 2 (awp_seq (awp_to (st' := z656 qs qx) (oT [] []) ?_))
  refine bE hF fun vx1 h3 hF => awp_sub (z658 qs qx h3) ?_
  exact awp_ret (oF hF [] [])

/-! ### slices.IndexFunc[[]beaconfleet/api.Sample,beaconfleet/api.Sample] -/
def z895 : Unit ⊕ Int → AEx
  | .inl _ => .exit 0
  | .inr _ => .ret

def z894 (qs : List api_Sample) : Unit ⊕ Int → St
  | .inl _ => Mem.st ⟨[], [(0, [.l api_Sample.enc qs])]⟩ (tl []) 1
  | .inr vx1 => Mem.st ⟨[], [(0, [.l api_Sample.enc qs])]⟩ (tl [(4, .i vx1)]) 1

def z893 (qs : List api_Sample) : Int → St
  | vx => Mem.st ⟨[], [(0, [.l api_Sample.enc qs])]⟩ (tl [(0, .c (.l api_Sample.enc qs)), (1, .c (.fn 125 [0])), (7, .i (qs.length : Int)), (8, .i vx)]) 1

theorem z896 (qs : List api_Sample) (vx : Int) (r : (Int) ⊕ (Unit ⊕ Int)) (hF : z892 qs vx = some r) : Awp prog 1 19 (cL (cL (cR (cL (cR (cB f156)))))) (Out 1 (kk z895) (SS (z893 qs) (z894 qs)) r) (z893 qs vx) := by
  unfold z892 at hF
  refine sR 1 (awp_seq (cE hF (fun h1 hF => ?_) fun h1 hF => ?_))
  · refine tT h1 (awp_skip (awp_seq (awp_block (sR 2 (awp_seq (bE hF fun vy1 h2 hF => bE hF fun vr1 h3 hF => awp_region (aR 3 (aX (x_idx api_Sample.enc h2) (aR 1 (aC (z654 h3) [] [] [] (aE ?_)))))))))))
    refine cE hF (fun h4 hF => ?_) fun h4 hF => ?_
    · exact tT h4 (sR 2 (awp_ret (oO hF [] [] rfl)))
    · exact tF h4 (awp_skip (gR 2 (oO hF [] [] rfl)))
  · refine tF h1 (awp_exit ?_)
    exact oO hF [] [] rfl

def z890 (qs : List api_Sample) (r : Int) : TV × Mem := (.i r, ⟨[], [(0, [.l api_Sample.enc qs])]⟩)

theorem z891 {qs : List api_Sample} {r} (hF : z889 qs = some r) : Holds prog 156 [.c (.l api_Sample.enc qs), .c (.fn 125 [0])] ⟨[], [(0, [.l api_Sample.enc qs])]⟩ (Is (z890 qs r)) := by
  unfold z889 at hF
  refine hW f156 19 1 1 ?_
  refine sR 1 (awp_seq (awp_seq (awp_region (aR 1 (aL api_Sample.enc qs (aR 1 (aE ?_)))))))
  refine awp_block (awp_to (st' := z893 qs 0) (oT [] []) ?_)
  refine bE hF fun x h5 hF => ?_
  rcases x with _ | vx1_1
  · refine awp_sub (awp_loop' (z893 qs) z895 (z894 qs) (by intro x; rcases x with x | x <;> exact fun h => nomatch h) h5 (z896 qs)) ?_
    exact sR 1 (awp_ret (oF hF [] []))
  · refine awp_sub (awp_loop' (z893 qs) z895 (z894 qs) (by intro x; rcases x with x | x <;> exact fun h => nomatch h) h5 (z896 qs)) ?_
    exact oF hF [] []

/-! ### slices.ContainsFunc[[]beaconfleet/api.Sample,beaconfleet/api.Sample] -/
def z827 (qs : List api_Sample) (r : Bool) : TV × Mem := (.b r, ⟨[], [(0, [.l api_Sample.enc qs])]⟩)

theorem z828 {qs : List api_Sample} {r} (hF : z826 qs = some r) : Holds prog 124 [.c (.l api_Sample.enc qs), .c (.fn 125 [0])] ⟨[], [(0, [.l api_Sample.enc qs])]⟩ (Is (z827 qs r)) := by
  unfold z826 at hF
  refine hW f124 9 1 1 ?_
  refine sR 1 (awp_seq (bE hF fun vr2 h1 hF => awp_region (aR 2 (aC (z891 h1) [] [] [] (aR 2 (aE ?_))))))
  exact awp_ret (oF hF [] [])

/-! ### beaconfleet/series.CheckSeries -/
def z659 (ql : List api_Sample) (r : Int) : TV × Mem := (.i r, ⟨[], []⟩)

theorem z660 {ql : List api_Sample} {r} (hF : z651 ql = some r) : Holds prog 82 [.c (.l api_Sample.enc ql)] ⟨[], []⟩ (Is (z659 ql r)) := by
  unfold z651 at hF
  refine hW f82 12 0 0 ?_
  refine sR 2 (awp_seq (awp_seq (bE hF fun vr6 h1 hF => awp_region (aR 1 (aC (z662 h1) [] [] [] (aR 1 (aE ?_)))))))
  refine sR 2 (cE hF (fun h2 hF => ?_) fun h2 hF => ?_)
  · exact tT h2 (sR 2 (awp_ret (oF hF [] [])))
  · refine tF h2 (awp_skip (awp_seq (awp_seq (bE hF fun vr h3 hF => awp_region (aR 2 (aC (z828 h3) [] [] [] (aE ?_)))))))
    refine cE hF (fun h4 hF => ?_) fun h4 hF => ?_
    · exact tT h4 (sR 1 (awp_ret (oF hF [] [])))
    · exact tF h4 (awp_skip (sR 1 (awp_ret (oF hF [] []))))

/-! ### beaconfleet/series.seven -/
def z707 : ((List Int) × Int) → AEx
  | _ => .exit 0

def z706 : ((List Int) × Int) → St
  | (vb1, vn1) => Mem.st ⟨[(0, ⟨5, 1, List.map (encI .u8) vb1⟩)], []⟩ (tl [(0, .c (.own 0 none)), (1, .c (.d (.int .u64 vn1)))]) 1

def z705 : (List Int) × Int → St
  | (vb, vn) => Mem.st ⟨[(0, ⟨5, 1, List.map (encI .u8) vb⟩)], []⟩ (tl [(0, .c (.own 0 none)), (1, .c (.d (.int .u64 vn)))]) 1

theorem z708 (s : (List Int) × Int) (r : ((List Int) × Int) ⊕ (((List Int) × Int))) (hF : z704  s = some r) : Awp prog 0 21 (cL (cL (cL (cR (cB f126))))) (Out 0 (kk z707) (SS (z705 ) (z706 )) r) (z705  s) := by
  obtain ⟨vb, vn⟩ := s
  unfold z704 at hF
  refine awp_seq (sR 2 (cE hF (fun h1 hF => ?_) fun h1 hF => ?_))
  · refine tT h1 (awp_skip (awp_block (gE hF fun h2 hF => ?_)))
    refine awp_region (aR 6 (aX (x_app (encI .u8) 0 h2) (aR 4 (aE ?_))))
    exact oO hF [(0, 8001)] [] rfl
  · refine tF h1 (awp_exit ?_)
    exact oO hF [] [] rfl

def z702 (qn : Int) (r : (List Int)) : TV × Mem := (.c (.own 0 none), ⟨[(0, ⟨5, 1, List.map (encI .u8) r⟩)], []⟩)

theorem z703 {qn : Int} {r} (hF : z701 qn = some r) : Holds prog 126 [.c (.nil), .c (.d (.int .u64 qn))] ⟨[], []⟩ (Is (z702 qn r)) := by
  unfold z701 at hF
  refine hW f126 21 0 0 ?_
  refine sR 1 (awp_seq (awp_block (awp_to (st' := z705  ([], qn)) (oT [] [0]) ?_)))
  refine bE hF fun x h3 hF => ?_
  obtain ⟨vb1_1, vn1_1⟩ := x
  refine awp_sub (awp_loop' (z705 ) z707 (z706 ) (by intro x; exact fun h => nomatch h) h3 (z708 )) ?_
  refine awp_seq (gE hF fun h4 hF => ?_)
  refine awp_region (aR 4 (aX (x_app (encI .u8) 0 h4) (aR 1 (aE ?_))))
  exact awp_ret (oF hF [(0, 4001)] [])

/-! ### beaconfleet/series.doubled -/
def z687 (qn : Int) (r : Int) : TV × Mem := (.c (.d (.int .u64 r)), ⟨[], []⟩)

theorem z688 {qn : Int} {r} (hF : z686 qn = some r) : Holds prog 127 [.i qn] ⟨[], []⟩ (Is (z687 qn r)) := by
  unfold z686 at hF
  refine hW f127 12 0 0 ?_
  refine sR 1 (awp_seq (sR 2 (cE hF (fun h1 hF => ?_) fun h1 hF => ?_)))
  · exact tT h1 (sR 5 (awp_ret (oF hF [] [])))
  · exact tF h1 (awp_skip (sR 4 (awp_ret (oF hF [] []))))

/-! ### beaconfleet/series.seven -/
def z715 : ((List Int) × Int) → AEx
  | _ => .exit 0

def z714 : ((List Int) × Int) → St
  | (vb1, vn1) => Mem.st ⟨[(1, ⟨5, 1, List.map (encI .u8) vb1⟩)], []⟩ (tl [(0, .c (.own 1 none)), (1, .c (.d (.int .u64 vn1)))]) 2

def z713 : (List Int) × Int → St
  | (vb, vn) => Mem.st ⟨[(1, ⟨5, 1, List.map (encI .u8) vb⟩)], []⟩ (tl [(0, .c (.own 1 none)), (1, .c (.d (.int .u64 vn)))]) 2

theorem z716 (s : (List Int) × Int) (r : ((List Int) × Int) ⊕ (((List Int) × Int))) (hF : z712  s = some r) : Awp prog 1 21 (cL (cL (cL (cR (cB f126))))) (Out 1 (kk z715) (SS (z713 ) (z714 )) r) (z713  s) := by
  obtain ⟨vb, vn⟩ := s
  unfold z712 at hF
  refine awp_seq (sR 2 (cE hF (fun h1 hF => ?_) fun h1 hF => ?_))
  · refine tT h1 (awp_skip (awp_block (gE hF fun h2 hF => ?_)))
    refine awp_region (aR 6 (aX (x_app (encI .u8) 1 h2) (aR 4 (aE ?_))))
    exact oO hF [(1, 8002)] [] rfl
  · refine tF h1 (awp_exit ?_)
    exact oO hF [] [] rfl

def z710 (qb : List Int) (qn : Int) (r : (List Int)) : TV × Mem := (.c (.own 1 none), ⟨[(1, ⟨5, 1, List.map (encI .u8) r⟩)], []⟩)

theorem z711 {qb : List Int} {qn : Int} {r} (hF : z709 qb qn = some r) : Holds prog 126 [.c (.own 0 none), .c (.d (.int .u64 qn))] ⟨[(0, ⟨5, 1, List.map (encI .u8) qb⟩)], []⟩ (Is (z710 qb qn r)) := by
  unfold z709 at hF
  refine hW f126 21 1 1 ?_
  refine sR 1 (awp_seq (awp_block (awp_to (st' := z713  (qb, qn)) (oT [(1, 0)] []) ?_)))
  refine bE hF fun x h3 hF => ?_
  obtain ⟨vb1_1, vn1_1⟩ := x
  refine awp_sub (awp_loop' (z713 ) z715 (z714 ) (by intro x; exact fun h => nomatch h) h3 (z716 )) ?_
  refine awp_seq (gE hF fun h4 hF => ?_)
  refine awp_region (aR 4 (aX (x_app (encI .u8) 1 h4) (aR 1 (aE ?_))))
  exact awp_ret (oF hF [(1, 4002)] [])

/-! ### beaconfleet/series.pack -/
def z699 (ql : List api_Sample) (vat : Int) (vby : Int) (vx : Int) (vy1 : api_Sample) (vr8 : List Int) : Int → St
  | vby2 => Mem.st ⟨[(1, ⟨5, 1, List.map (encI .u8) vr8⟩)], [(0, [.s vy1.Device, .s vy1.Metric, .i vy1.At, .i vy1.Value])]⟩ (tl [(3, .c (.own 1 none)), (5, .i vby2), (8, .c (.box 0 0)), (14, .c (.l api_Sample.enc ql)), (15, .i (ql.length : Int)), (16, .i vx)]) 2

def z698 (ql : List api_Sample) (vat : Int) (vby : Int) (vx : Int) (vy1 : api_Sample) (vr8 : List Int) : St := Mem.st ⟨[(1, ⟨5, 1, List.map (encI .u8) vr8⟩)], [(0, [.s vy1.Device, .s vy1.Metric, .i vy1.At, .i vy1.Value])]⟩ (tl [(3, .c (.own 1 none)), (5, .i vby), (7, .i vx), (8, .c (.box 0 0)), (9, .i (IntKind.wrap .i64 (vy1.At - vat))), (14, .c (.l api_Sample.enc ql)), (15, .i (ql.length : Int)), (16, .i vx)]) 2

theorem z700 (ql : List api_Sample) (vat : Int) (vby : Int) (vx : Int) (vy1 : api_Sample) (vr8 : List Int) {r} (hF : z697 vat vby vx vy1 = some r) : Awp prog 0 47 (cL (cR (cR (cR (cR (cL (cL (cR (cR (cL (cL (cR (cL (cR (cR (cR (cB f83))))))))))))))))) (Out 0 nrm (z699 ql vat vby vx vy1 vr8) r) (z698 ql vat vby vx vy1 vr8) := by
  unfold z697 at hF
  refine sR 2 (cE hF (fun h8 hF => ?_) fun h8 hF => ?_)
  · exact tT h8 (gR 2 (oO hF [] [] rfl))
  · exact tF h8 (awp_skip (oO hF [] [] rfl))

def z695 : (List Int) → AEx
  | _ => .exit 0

def z694 (ql : List api_Sample) : (List Int) → St
  | vout1 => Mem.st ⟨[(0, ⟨5, 1, List.map (encI .u8) vout1⟩)], []⟩ (tl [(3, .c (.own 0 none))]) 1

def z693 (ql : List api_Sample) : (List Int) × Int × Int × Int × Int → St
  | (vout, vat, vby, vvalue, vx) => Mem.st ⟨[(0, ⟨5, 1, List.map (encI .u8) vout⟩)], []⟩ (tl [(3, .c (.own 0 none)), (4, .i vat), (5, .i vby), (6, .i vvalue), (14, .c (.l api_Sample.enc ql)), (15, .i (ql.length : Int)), (16, .i vx)]) 1

theorem z696 (ql : List api_Sample) (s : (List Int) × Int × Int × Int × Int) (r : ((List Int) × Int × Int × Int × Int) ⊕ ((List Int))) (hF : z692 ql s = some r) : Awp prog 0 47 (cL (cL (cR (cL (cR (cR (cR (cB f83)))))))) (Out 0 (kk z695) (SS (z693 ql) (z694 ql)) r) (z693 ql s) := by
  obtain ⟨vout, vat, vby, vvalue, vx⟩ := s
  unfold z692 at hF
  refine sR 1 (awp_seq (cE hF (fun h2 hF => ?_) fun h2 hF => ?_))
  · refine tT h2 (awp_skip (awp_seq (awp_block (awp_seq (bE hF fun vy1 h3 hF => awp_region (aR 1 (aX (x_idx api_Sample.enc h3) (aR 4 (aE ?_)))))))))
    refine sR 5 (awp_seq (bE hF fun vr5 h4 hF => bE hF fun vr6 h5 hF => awp_region (aR 4 (aC (z688 h4) [] [] [] (aC (z711 h5) [] [] [] (aR 1 (aE ?_)))))))
    refine awp_seq (bE hF fun vr7 h6 hF => bE hF fun vr8 h7 hF => awp_region (aR 5 (aC (z688 h6) [] [] [] (aC (z711 h7) [(0, 17002)] [] [] (aR 1 (aE ?_))))))
    refine awp_seq (awp_to (st' := z698 ql vat vby vx vy1 vr8) (oT [(0, 4001), (1, 25002)] []) ?_)
    refine bE hF fun vby2_1 h9 hF => awp_sub (z700 ql vat vby vx vy1 vr8 h9) ?_
    refine aD ?_
    refine dR 6 ?_
    refine dE ?_
    exact gR 2 (oO hF [(0, 1)] [] rfl)
  · refine tF h2 (awp_exit ?_)
    exact oO hF [] [] rfl

def z690 (ql : List api_Sample) (r : (List Int)) : TV × Mem := (.c (.own 0 none), ⟨[(0, ⟨5, 1, List.map (encI .u8) r⟩)], []⟩)

theorem z691 {ql : List api_Sample} {r} (hF : z689 ql = some r) : Holds prog 83 [.c (.l api_Sample.enc ql)] ⟨[], []⟩ (Is (z690 ql r)) := by
  unfold z689 at hF
  refine hW f83 47 0 0 ?_
  refine sR 1 (awp_seq (bE hF fun vr h1 hF => awp_region (aR 1 (aL api_Sample.enc ql (aR 1 (aC (z703 h1) [] [] [] (aR 1 (aE ?_))))))))
  refine sR 3 (awp_seq (awp_seq (awp_region (aR 1 (aL api_Sample.enc ql (aR 1 (aE ?_)))))))
  refine awp_block (awp_to (st' := z693 ql (vr, 0, 0, 0, 0)) (oT [(0, 4000)] []) ?_)
  refine bE hF fun vout1_1 h10 hF => awp_sub (awp_loop' (z693 ql) z695 (z694 ql) (by intro x; exact fun h => nomatch h) h10 (z696 ql)) ?_
  exact sR 2 (awp_ret (oF hF [] []))

/-! ### beaconfleet/series.Pack -/
def z681 (ql : List api_Sample) (r : (List Int) × Int) : TV × Mem := (.tup [.one (.own 1 none), .one (.i r.2)], ⟨[(1, ⟨5, 1, List.map (encI .u8) r.1⟩)], []⟩)

theorem z682 {ql : List api_Sample} {r} (hF : z680 ql = some r) : Holds prog 43 [.c (.own 0 none)] ⟨[(0, ⟨87, 4, List.map api_Sample.enc ql⟩)], []⟩ (Is (z681 ql r)) := by
  unfold z680 at hF
  refine hW f43 12 1 1 ?_
  refine sR 2 (awp_to (oT (m := ⟨[], []⟩) (ts := [(0, .c (.l api_Sample.enc ql))]) (nx := 1) [] []) ?_)
  refine awp_seq (awp_seq (bE hF fun vr1 h1 hF => awp_region (aR 1 (aC (z660 h1) [] [] [] (aR 1 (aE ?_))))))
  refine sR 2 (cE hF (fun h2 hF => ?_) fun h2 hF => ?_)
  · exact tT h2 (sR 3 (awp_ret (oF hF [] [1])))
  · refine tF h2 (awp_skip (awp_seq (bE hF fun vr9 h3 hF => awp_region (aR 1 (aC (z691 h3) [] [] [] (aR 2 (aE ?_)))))))
    exact awp_ret (oF hF [(1, 6001)] [])

/-! ### unicode/utf8.RuneCountInString -/
def z1384 : Int → AEx
  | _ => .exit 0

def z1383 (qs : List UInt8) : Int → St
  | vn1 => Mem.st ⟨[], []⟩ (tl [(2, .i vn1)]) 0

def z1382 (qs : List UInt8) : Nat × Int → St
  | (vpos, vn) => Mem.st ⟨[], [(0, [.iters qs vpos])]⟩ (tl [(2, .i vn), (4, .c (.box 0 0))]) 1

theorem z1385 (qs : List UInt8) (s : Nat × Int) (r : (Nat × Int) ⊕ (Int)) (hF : z1381 qs s = some r) : Awp prog 0 10 (cL (cL (cR (cL (cR (cB f185)))))) (Out 0 (kk z1384) (SS (z1382 qs) (z1383 qs)) r) (z1382 qs s) := by
  obtain ⟨vpos, vn⟩ := s
  unfold z1381 at hF
  refine awp_seq (cE hF (fun h1 hF => ?_) fun h1 hF => ?_)
  · refine bE hF fun vd1 h2 hF => awp_region (aX (x_next 0 qs vpos h1 h2) (aR 1 (aE ?_)))
    exact awp_seq (tT rfl (awp_skip (awp_block (gR 3 (oO hF [] [] rfl)))))
  · refine awp_region (aX (x_nextE 0 qs vpos h1) (aR 1 (aE ?_)))
    refine awp_seq (tF rfl (awp_exit ?_))
    exact oO hF [] [] rfl

def z1379 (qs : List UInt8) (r : Int) : TV × Mem := (.i r, ⟨[], []⟩)

theorem z1380 {qs : List UInt8} {r} (hF : z1378 qs = some r) : Holds prog 185 [.c (.s qs)] ⟨[], []⟩ (Is (z1379 qs r)) := by
  unfold z1378 at hF
  refine hW f185 10 0 0 ?_
  refine sR 1 (awp_seq (sR 2 (awp_block (awp_to (st' := z1382 qs ((0 : Nat), 0)) (oT [(0, 2000)] []) ?_))))
  refine bE hF fun vn1_1 h3 hF => awp_sub (awp_loop' (z1382 qs) z1384 (z1383 qs) (by intro x; exact fun h => nomatch h) h3 (z1385 qs)) ?_
  exact sR 2 (awp_ret (oF hF [] []))

/-! ### unicode/utf8.decodeRuneInStringSlow -/
def z1416 (qx : List UInt8) (r : Unit) : TV × Mem := (.tup [.one (.d (.int .i32 65533)), .one (.i 0)], ⟨[], []⟩)

theorem z1417 {qx : List UInt8} {r} (hF : z1415 qx = some r) : Holds prog 211 [.c (.s qx)] ⟨[], []⟩ (Is (z1416 qx r)) := by
  unfold z1415 at hF
  refine hW f211 117 0 0 ?_
  refine sR 2 (sR 3 (awp_seq (sR 2 (cE hF (fun h1 hF => ?_) fun h1 hF => ?_))))
  · exact tT h1 (sR 2 (awp_ret (oF hF [] [])))
  · refine tF h1 (awp_skip (awp_seq (bE hF fun vc h2 hF => awp_region (aR 1 (aX (x_idxS h2) (aR 1 (aE ?_)))))))
    exact awp_seq (nE hF)

/-! ### unicode/utf8.DecodeRuneInString -/
def z1376 (qs : List UInt8) : Bool → St
  | vx => Mem.st ⟨[], []⟩ (tl [(0, .c (.s qs)), (10, .b vx)]) 0

def z1375 (qs : List UInt8) : St := Mem.st ⟨[], []⟩ (tl [(0, .c (.s qs))]) 0

theorem z1377 (qs : List UInt8) {r} (hF : z1374 qs = some r) : Awp prog 0 19 (cL (cL (cR (cB f186)))) (Out 0 nrm (z1376 qs) r) (z1375 qs) := by
  unfold z1374 at hF
  refine cE hF (fun h1 hF => ?_) fun h1 hF => ?_
  · refine bE hF fun vc h2 hF => awp_region (aR 1 (aB h1 (aR 2 (aX (x_idxS h2) (aR 2 (aE ?_))))))
    exact oO hF [] [] rfl
  · refine awp_region (aR 1 (aB h1 (aR 5 (aE ?_))))
    exact oO hF [] [] rfl

def z1372 (qs : List UInt8) (r : Int × Int) : TV × Mem := (.tup [.one (.d (.int .i32 r.1)), .one (.i r.2)], ⟨[], []⟩)

theorem z1373 {qs : List UInt8} {r} (hF : z1371 qs = some r) : Holds prog 186 [.c (.s qs)] ⟨[], []⟩ (Is (z1372 qs r)) := by
  unfold z1371 at hF
  refine hW f186 19 0 0 ?_
  refine sR 2 (awp_seq (awp_seq (awp_to (st' := z1375 qs) (oT [] []) ?_)))
  refine bE hF fun vx1 h3 hF => awp_sub (z1377 qs h3) ?_
  refine cE hF (fun h4 hF => ?_) fun h4 hF => ?_
  · refine tT h4 (awp_seq (bE hF fun vc1 h5 hF => awp_region (aR 1 (aX (x_idxS h5) (aR 3 (aE ?_))))))
    exact awp_ret (oF hF [] [])
  · refine tF h4 (bE hF fun _ h6 hF => awp_region (aR 1 (aC (z1417 h6) [] [] [] (aR 5 (aE ?_)))))
    exact awp_ret (oF hF [] [])

/-! ### strings.explode -/
def z1230 (qs : List UInt8) (qn : Int) (vr : Int) : Bool → St
  | vx => Mem.st ⟨[], []⟩ (tl [(0, .c (.s qs)), (1, .i qn), (5, .i vr), (18, .b vx)]) 0

def z1229 (qs : List UInt8) (qn : Int) (vr : Int) : St := Mem.st ⟨[], []⟩ (tl [(0, .c (.s qs)), (1, .i qn), (5, .i vr)]) 0

theorem z1231 (qs : List UInt8) (qn : Int) (vr : Int) {r} (hF : z1228 qn vr = some r) : Awp prog 0 50 (cL (cL (cR (cR (cB f159))))) (Out 0 nrm (z1230 qs qn vr) r) (z1229 qs qn vr) := by
  unfold z1228 at hF
  refine cE hF (fun h2 hF => ?_) fun h2 hF => ?_
  · refine awp_region (aR 1 (aB h2 (aR 5 (aE ?_))))
    exact oO hF [] [] rfl
  · refine awp_region (aR 1 (aB h2 (aR 5 (aE ?_))))
    exact oO hF [] [] rfl

def z1226 (qs : List UInt8) (qn : Int) (vr : Int) : Int → St
  | vn => Mem.st ⟨[], []⟩ (tl [(0, .c (.s qs)), (1, .i vn)]) 0

def z1225 (qs : List UInt8) (qn : Int) (vr : Int) : St := Mem.st ⟨[], []⟩ (tl [(0, .c (.s qs)), (1, .i qn), (5, .i vr)]) 0

theorem z1227 (qs : List UInt8) (qn : Int) (vr : Int) {r} (hF : z1224 qn vr = some r) : Awp prog 0 50 (cL (cR (cR (cB f159)))) (Out 0 nrm (z1226 qs qn vr) r) (z1225 qs qn vr) := by
  unfold z1224 at hF
  refine awp_seq (awp_to (st' := z1229 qs qn vr) (oT [] []) ?_)
  refine bE hF fun vx1 h3 hF => awp_sub (z1231 qs qn vr h3) ?_
  refine cE hF (fun h4 hF => ?_) fun h4 hF => ?_
  · exact tT h4 (gR 2 (oO hF [] [] rfl))
  · exact tF h4 (awp_skip (oO hF [] [] rfl))

def z1235 : ((List UInt8) × (List (List UInt8))) → AEx
  | _ => .exit 0

def z1234 (vn1 : Int) : ((List UInt8) × (List (List UInt8))) → St
  | (vs5, va1) => Mem.st ⟨[(0, ⟨9, 1, List.map encS va1⟩)], []⟩ (tl [(0, .c (.s vs5)), (1, .i vn1), (6, .c (.own 0 none))]) 1

def z1233 (vn1 : Int) : (List UInt8) × (List (List UInt8)) × Int → St
  | (vs, va, vi) => Mem.st ⟨[(0, ⟨9, 1, List.map encS va⟩)], []⟩ (tl [(0, .c (.s vs)), (1, .i vn1), (6, .c (.own 0 none)), (7, .i vi)]) 1

theorem z1236 (vn1 : Int) (s : (List UInt8) × (List (List UInt8)) × Int) (r : ((List UInt8) × (List (List UInt8)) × Int) ⊕ (((List UInt8) × (List (List UInt8))))) (hF : z1232 vn1 s = some r) : Awp prog 0 50 (cL (cL (cR (cL (cR (cR (cR (cR (cB f159))))))))) (Out 0 (kk z1235) (SS (z1233 vn1) (z1234 vn1)) r) (z1233 vn1 s) := by
  obtain ⟨vs, va, vi⟩ := s
  unfold z1232 at hF
  refine awp_seq (sR 4 (cE hF (fun h7 hF => ?_) fun h7 hF => ?_))
  · refine tT h7 (awp_skip (awp_seq (awp_block (awp_seq (bE hF fun x h8 hF => ?_)))))
    obtain ⟨vr2, vr1_2⟩ := x
    refine awp_region (aR 1 (aC (z1373 h8) [] [] [] (aR 5 (aE ?_))))
    refine awp_seq (bE hF fun vs3 h9 hF => bE hF fun vy1 h10 hF => awp_region (aR 4 (aX (x_sliceS h9) (aX (x_idxO encS 0 h10) (aX (x_stE encS vs3 h10) (aE ?_))))))
    refine bE hF fun vs4 h11 hF => awp_region (aR 2 (aX (x_sliceS h11) (aR 1 (aE ?_))))
    exact gR 3 (oO hF [] [] rfl)
  · refine tF h7 (awp_exit ?_)
    exact oO hF [] [] rfl

def z1239 (vn1 : Int) (vs5_1 : List UInt8) (va1_1 : List (List UInt8)) : (List (List UInt8)) → St
  | va2 => Mem.st ⟨[(0, ⟨9, 1, List.map encS va2⟩)], []⟩ (tl [(6, .c (.own 0 none))]) 1

def z1238 (vn1 : Int) (vs5_1 : List UInt8) (va1_1 : List (List UInt8)) : St := Mem.st ⟨[(0, ⟨9, 1, List.map encS va1_1⟩)], []⟩ (tl [(0, .c (.s vs5_1)), (1, .i vn1), (6, .c (.own 0 none))]) 1

theorem z1240 (vn1 : Int) (vs5_1 : List UInt8) (va1_1 : List (List UInt8)) {r} (hF : z1237 vn1 vs5_1 va1_1 = some r) : Awp prog 0 50 (cL (cR (cR (cR (cR (cR (cB f159))))))) (Out 0 nrm (z1239 vn1 vs5_1 va1_1) r) (z1238 vn1 vs5_1 va1_1) := by
  unfold z1237 at hF
  refine sR 2 (cE hF (fun h13 hF => ?_) fun h13 hF => ?_)
  · refine tT h13 (bE hF fun vy2 h14 hF => awp_region (aR 4 (aX (x_idxO encS 0 h14) (aX (x_stE encS vs5_1 h14) (aE ?_)))))
    exact oO hF [] [] rfl
  · exact tF h13 (awp_skip (oO hF [] [] rfl))

def z1222 (qs : List UInt8) (qn : Int) (r : (List (List UInt8))) : TV × Mem := (.c (.own 0 none), ⟨[(0, ⟨9, 1, List.map encS r⟩)], []⟩)

theorem z1223 {qs : List UInt8} {qn : Int} {r} (hF : z1221 qs qn = some r) : Holds prog 159 [.c (.s qs), .i qn] ⟨[], []⟩ (Is (z1222 qs qn r)) := by
  unfold z1221 at hF
  refine hW f159 50 0 0 ?_
  refine sR 1 (awp_seq (bE hF fun vr h1 hF => awp_region (aR 1 (aC (z1380 h1) [] [] [] (aR 1 (aE ?_))))))
  refine awp_seq (awp_to (st' := z1225 qs qn vr) (oT [] []) ?_)
  refine bE hF fun vn1 h5 hF => awp_sub (z1227 qs qn vr h5) ?_
  refine awp_seq (gE hF fun h6 hF => ?_)
  refine awp_region (aR 1 (aX (x_mk encS ([] : List UInt8) h6) (aR 1 (aE ?_))))
  refine awp_seq (sR 1 (awp_block (awp_to (st' := z1233 vn1 (qs, List.replicate vn1.toNat ([] : List UInt8), 0)) (oT [(0, 1000)] []) ?_)))
  refine bE hF fun x h12 hF => ?_
  obtain ⟨vs5_1, va1_1⟩ := x
  refine awp_sub (awp_loop' (z1233 vn1) z1235 (z1234 vn1) (by intro x; exact fun h => nomatch h) h12 (z1236 vn1)) ?_
  refine awp_seq (awp_to (st' := z1238 vn1 vs5_1 va1_1) (oT [] []) ?_)
  refine bE hF fun va2_1 h15 hF => awp_sub (z1240 vn1 vs5_1 va1_1 h15) ?_
  exact sR 2 (awp_ret (oF hF [] []))

/-! ### strings.Index -/
def z1213 (qs : List UInt8) (qsubstr : List UInt8) (r : Int) : TV × Mem := (.i r, ⟨[], []⟩)

theorem z1214 {qs : List UInt8} {qsubstr : List UInt8} {r} (hF : z1212 qs qsubstr = some r) : Holds prog 161 [.c (.s qs), .c (.s qsubstr)] ⟨[], []⟩ (Is (z1213 qs qsubstr r)) := by
  unfold z1212 at hF
  refine hW f161 8 0 0 ?_
  refine sR 1 (awp_seq (bE hF fun vr h1 hF => awp_region (aR 2 (aC (z1268 h1) [] [] [] (aR 1 (aE ?_))))))
  exact awp_ret (oF hF [] [])

/-! ### strings.Count -/
def z1207 : Int → AEx
  | _ => .ret

def z1206 (qsubstr : List UInt8) : Int → St
  | vx => Mem.st ⟨[], []⟩ (tl [(4, .i vx)]) 0

def z1205 (qsubstr : List UInt8) : (List UInt8) × Int → St
  | (vs, vn) => Mem.st ⟨[], []⟩ (tl [(0, .c (.s vs)), (1, .c (.s qsubstr)), (5, .i vn)]) 0

theorem z1208 (qsubstr : List UInt8) (s : (List UInt8) × Int) (r : ((List UInt8) × Int) ⊕ (Int)) (hF : z1204 qsubstr s = some r) : Awp prog 0 34 (cL (cL (cR (cR (cR (cR (cB f160))))))) (Out 0 (kk z1207) (SS (z1205 qsubstr) (z1206 qsubstr)) r) (z1205 qsubstr s) := by
  obtain ⟨vs, vn⟩ := s
  unfold z1204 at hF
  refine awp_block (awp_seq (bE hF fun vr1_1 h5 hF => awp_region (aR 2 (aC (z1214 h5) [] [] [] (aR 1 (aE ?_))))))
  refine awp_seq (sR 2 (cE hF (fun h6 hF => ?_) fun h6 hF => ?_))
  · exact tT h6 (sR 2 (awp_ret (oO hF [] [] rfl)))
  · refine tF h6 (awp_skip (sR 3 (bE hF fun vs2 h7 hF => awp_region (aR 5 (aX (x_sliceS h7) (aR 1 (aE ?_)))))))
    exact oO hF [] [] rfl

def z1202 (qs : List UInt8) (qsubstr : List UInt8) (r : Int) : TV × Mem := (.i r, ⟨[], []⟩)

theorem z1203 {qs : List UInt8} {qsubstr : List UInt8} {r} (hF : z1201 qs qsubstr = some r) : Holds prog 160 [.c (.s qs), .c (.s qsubstr)] ⟨[], []⟩ (Is (z1202 qs qsubstr r)) := by
  unfold z1201 at hF
  refine hW f160 34 0 0 ?_
  refine sR 1 (awp_seq (sR 3 (cE hF (fun h1 hF => ?_) fun h1 hF => ?_)))
  · refine tT h1 (awp_seq (bE hF fun vr h2 hF => awp_region (aR 1 (aC (z1380 h2) [] [] [] (aR 2 (aE ?_))))))
    exact awp_ret (oF hF [] [])
  · refine tF h1 (awp_skip (awp_seq (sR 3 (cE hF (fun h3 hF => ?_) fun h3 hF => ?_))))
    · refine tT h3 (awp_seq (bE hF fun vc h4 hF => awp_region (aR 2 (aX (x_idxS h4) (aS (does_count (g := 187) (fn := f187) (a := qs) (c := (vc.toNat : Int)) rfl (by kernel_rfl) (by kernel_rfl) (by kernel_rfl) (by kernel_rfl) (by kernel_rfl) (by kernel_rfl)) ?_)))))
      refine aR 1 (aE ?_)
      exact awp_ret (oF hF [] [])
    · refine tF h3 (awp_skip (sR 1 (awp_block (awp_to (st' := z1205 qsubstr (qs, 0)) (oT [] []) ?_))))
      refine bE hF fun vx1 h8 hF => awp_sub (awp_loop' (z1205 qsubstr) z1207 (z1206 qsubstr) (by intro x; exact fun h => nomatch h) h8 (z1208 qsubstr)) ?_
      exact oF hF [] []

/-! ### strings.genSplit -/
def z1246 (qx : List UInt8) (qx1 : List UInt8) (qx2 : Int) (qx3 : Int) : Int → St
  | vx => Mem.st ⟨[], []⟩ (tl [(0, .c (.s qx)), (1, .c (.s qx1)), (2, .i qx2), (3, .i vx)]) 0

def z1245 (qx : List UInt8) (qx1 : List UInt8) (qx2 : Int) (qx3 : Int) : St := Mem.st ⟨[], []⟩ (tl [(0, .c (.s qx)), (1, .c (.s qx1)), (2, .i qx2), (3, .i qx3)]) 0

theorem z1247 (qx : List UInt8) (qx1 : List UInt8) (qx2 : Int) (qx3 : Int) {r} (hF : z1244 qx qx1 qx3 = some r) : Awp prog 0 66 (cL (cR (cR (cR (cB f129))))) (Out 0 nrm (z1246 qx qx1 qx2 qx3) r) (z1245 qx qx1 qx2 qx3) := by
  unfold z1244 at hF
  refine sR 2 (cE hF (fun h4 hF => ?_) fun h4 hF => ?_)
  · refine tT h4 (bE hF fun vr2 h5 hF => awp_region (aR 2 (aC (z1203 h5) [] [] [] (aR 2 (aE ?_)))))
    exact oO hF [] [] rfl
  · exact tF h4 (awp_skip (oO hF [] [] rfl))

def z1251 : ((List UInt8) × (List (List UInt8)) × Int) → AEx
  | _ => .exit 0

def z1250 (qx : List UInt8) (qx1 : List UInt8) (qx2 : Int) (vx1 : Int) : ((List UInt8) × (List (List UInt8)) × Int) → St
  | (vx5, vx6, vx7) => Mem.st ⟨[(0, ⟨9, 1, List.map encS vx6⟩)], []⟩ (tl [(0, .c (.s vx5)), (9, .c (.own 0 none)), (10, .i vx7)]) 1

def z1249 (qx : List UInt8) (qx1 : List UInt8) (qx2 : Int) (vx1 : Int) : (List UInt8) × (List (List UInt8)) × Int → St
  | (vx2, vx3, vx4) => Mem.st ⟨[(0, ⟨9, 1, List.map encS vx3⟩)], []⟩ (tl [(0, .c (.s vx2)), (1, .c (.s qx1)), (2, .i qx2), (3, .i (IntKind.wrap .i64 ((imin vx1 (IntKind.wrap .i64 ((qx.length : Int) + 1))) - 1))), (9, .c (.own 0 none)), (10, .i vx4)]) 1

theorem z1252 (qx : List UInt8) (qx1 : List UInt8) (qx2 : Int) (vx1 : Int) (s : (List UInt8) × (List (List UInt8)) × Int) (r : ((List UInt8) × (List (List UInt8)) × Int) ⊕ (((List UInt8) × (List (List UInt8)) × Int))) (hF : z1248 qx qx1 qx2 vx1 s = some r) : Awp prog 0 66 (cL (cL (cL (cR (cR (cR (cR (cR (cR (cR (cR (cB f129)))))))))))) (Out 0 (kk z1251) (SS (z1249 qx qx1 qx2 vx1) (z1250 qx qx1 qx2 vx1)) r) (z1249 qx qx1 qx2 vx1 s) := by
  obtain ⟨vx2, vx3, vx4⟩ := s
  unfold z1248 at hF
  refine awp_seq (sR 3 (cE hF (fun h8 hF => ?_) fun h8 hF => ?_))
  · refine tT h8 (awp_skip (awp_block (awp_seq (bE hF fun vr1_1 h9 hF => awp_region (aR 2 (aC (z1214 h9) [] [] [] (aR 1 (aE ?_))))))))
    refine awp_seq (sR 2 (cE hF (fun h10 hF => ?_) fun h10 hF => ?_))
    · refine tT h10 (awp_exit ?_)
      exact oO hF [] [] rfl
    · refine tF h10 (awp_skip (awp_seq (bE hF fun vs2 h11 hF => bE hF fun vy1 h12 hF => awp_region (aR 6 (aX (x_sliceS h11) (aX (x_idxO encS 0 h12) (aX (x_stE encS vs2 h12) (aE ?_))))))))
      refine awp_seq (bE hF fun vs3 h13 hF => awp_region (aR 5 (aX (x_sliceS h13) (aR 1 (aE ?_)))))
      exact gR 3 (oO hF [] [] rfl)
  · refine tF h8 (awp_exit ?_)
    exact oO hF [] [] rfl

def z1242 (qx : List UInt8) (qx1 : List UInt8) (qx2 : Int) (qx3 : Int) (r : (List (List UInt8))) : TV × Mem := (.c (.own 0 none), ⟨[(0, ⟨9, 1, List.map encS r⟩)], []⟩)

theorem z1243 {qx : List UInt8} {qx1 : List UInt8} {qx2 : Int} {qx3 : Int} {r} (hF : z1241 qx qx1 qx2 qx3 = some r) : Holds prog 129 [.c (.s qx), .c (.s qx1), .i qx2, .i qx3] ⟨[], []⟩ (Is (z1242 qx qx1 qx2 qx3 r)) := by
  unfold z1241 at hF
  refine hW f129 66 0 0 ?_
  refine sR 1 (awp_seq (sR 2 (cE hF (fun h1 hF => ?_) fun h1 hF => ?_)))
  · exact tT h1 (sR 1 (awp_ret (oF hF [] [0])))
  · refine tF h1 (awp_skip (awp_seq (sR 2 (cE hF (fun h2 hF => ?_) fun h2 hF => ?_))))
    · refine tT h2 (awp_seq (bE hF fun vr3 h3 hF => awp_region (aR 2 (aC (z1223 h3) [] [] [] (aR 1 (aE ?_))))))
      exact awp_ret (oF hF [(0, 7000)] [])
    · refine tF h2 (awp_skip (awp_seq (awp_to (st' := z1245 qx qx1 qx2 qx3) (oT [] []) ?_)))
      refine bE hF fun vx1 h6 hF => awp_sub (z1247 qx qx1 qx2 qx3 h6) ?_
      refine sR 6 (awp_seq (gE hF fun h7 hF => ?_))
      refine awp_region (aR 1 (aX (x_mk encS ([] : List UInt8) h7) (aR 1 (aE ?_))))
      refine sR 3 (sR 1 (awp_seq (awp_block (awp_to (st' := z1249 qx qx1 qx2 vx1 (qx, List.replicate (imin vx1 (IntKind.wrap .i64 ((qx.length : Int) + 1))).toNat ([] : List UInt8), 0)) (oT [(0, 7000)] []) ?_))))
      refine bE hF fun x h14 hF => ?_
      obtain ⟨vx5_1, vx6_1, vx7_1⟩ := x
      refine awp_sub (awp_loop' (z1249 qx qx1 qx2 vx1) z1251 (z1250 qx qx1 qx2 vx1) (by intro x; exact fun h => nomatch h) h14 (z1252 qx qx1 qx2 vx1)) ?_
      refine awp_seq (bE hF fun vy2 h15 hF => awp_region (aR 3 (aX (x_idxO encS 0 h15) (aX (x_stE encS vx5_1 h15) (aE ?_)))))
      refine awp_seq (gE hF fun h16 hF => ?_)
      refine awp_region (aR 3 (aT encS 0 h16 rfl ?_))
      refine aR 1 (aE ?_)
      exact awp_ret (oF hF [(0, 8001)] [])

/-! ### strings.Split -/
def z1216 (qs : List UInt8) (qsep : List UInt8) (r : (List (List UInt8))) : TV × Mem := (.c (.own 0 none), ⟨[(0, ⟨9, 1, List.map encS r⟩)], []⟩)

theorem z1217 {qs : List UInt8} {qsep : List UInt8} {r} (hF : z1215 qs qsep = some r) : Holds prog 85 [.c (.s qs), .c (.s qsep)] ⟨[], []⟩ (Is (z1216 qs qsep r)) := by
  unfold z1215 at hF
  refine hW f85 8 0 0 ?_
  refine sR 1 (awp_seq (bE hF fun vr h1 hF => awp_region (aR 2 (aC (z1243 h1) [] [] [] (aR 1 (aE ?_))))))
  exact awp_ret (oF hF [(0, 3000)] [])

/-! ### internal/stringslite.HasPrefix -/
def z1261 (qs : List UInt8) (qprefix : List UInt8) : Bool → St
  | vx => Mem.st ⟨[], []⟩ (tl [(4, .b vx)]) 0

def z1260 (qs : List UInt8) (qprefix : List UInt8) : St := Mem.st ⟨[], []⟩ (tl [(0, .c (.s qs)), (1, .c (.s qprefix))]) 0

theorem z1262 (qs : List UInt8) (qprefix : List UInt8) {r} (hF : z1259 qs qprefix = some r) : Awp prog 0 18 (cL (cR (cB f205))) (Out 0 nrm (z1261 qs qprefix) r) (z1260 qs qprefix) := by
  unfold z1259 at hF
  refine cE hF (fun h1 hF => ?_) fun h1 hF => ?_
  · refine bE hF fun vs h2 hF => awp_region (aR 4 (aB h1 (aR 4 (aX (x_sliceS h2) (aR 4 (aE ?_))))))
    exact oO hF [] [] rfl
  · refine awp_region (aR 4 (aB h1 (aR 9 (aE ?_))))
    exact oO hF [] [] rfl

def z1257 (qs : List UInt8) (qprefix : List UInt8) (r : Bool) : TV × Mem := (.b r, ⟨[], []⟩)

theorem z1258 {qs : List UInt8} {qprefix : List UInt8} {r} (hF : z1256 qs qprefix = some r) : Holds prog 205 [.c (.s qs), .c (.s qprefix)] ⟨[], []⟩ (Is (z1257 qs qprefix r)) := by
  unfold z1256 at hF
  refine hW f205 18 0 0 ?_
  refine sR 1 (awp_seq (awp_to (st' := z1260 qs qprefix) (oT [] []) ?_))
  refine bE hF fun vx1 h3 hF => awp_sub (z1262 qs qprefix h3) ?_
  exact awp_ret (oF hF [] [])

/-! ### internal/stringslite.TrimPrefix -/
def z1274 (qs : List UInt8) (qprefix : List UInt8) (r : (List UInt8)) : TV × Mem := (.c (.s r), ⟨[], []⟩)

theorem z1275 {qs : List UInt8} {qprefix : List UInt8} {r} (hF : z1273 qs qprefix = some r) : Holds prog 182 [.c (.s qs), .c (.s qprefix)] ⟨[], []⟩ (Is (z1274 qs qprefix r)) := by
  unfold z1273 at hF
  refine hW f182 13 0 0 ?_
  refine sR 1 (awp_seq (awp_seq (bE hF fun vr h1 hF => awp_region (aR 2 (aC (z1258 h1) [] [] [] (aE ?_))))))
  refine cE hF (fun h2 hF => ?_) fun h2 hF => ?_
  · refine tT h2 (awp_seq (bE hF fun vs h3 hF => awp_region (aR 3 (aX (x_sliceS h3) (aR 1 (aE ?_))))))
    exact awp_ret (oF hF [] [])
  · exact tF h2 (awp_skip (sR 2 (awp_ret (oF hF [] []))))

/-! ### strings.TrimPrefix -/
def z1219 (qs : List UInt8) (qprefix : List UInt8) (r : (List UInt8)) : TV × Mem := (.c (.s r), ⟨[], []⟩)

theorem z1220 {qs : List UInt8} {qprefix : List UInt8} {r} (hF : z1218 qs qprefix = some r) : Holds prog 157 [.c (.s qs), .c (.s qprefix)] ⟨[], []⟩ (Is (z1219 qs qprefix r)) := by
  unfold z1218 at hF
  refine hW f157 8 0 0 ?_
  refine sR 1 (awp_seq (bE hF fun vr1 h1 hF => awp_region (aR 2 (aC (z1275 h1) [] [] [] (aR 1 (aE ?_))))))
  exact awp_ret (oF hF [] [])

/-! ### internal/strconv.lower -/
def z1163 (qc : Int) (r : Unit) : TV × Mem := (.c (.d (.int .u8 (ibits .or .u8 qc 32))), ⟨[], []⟩)

theorem z1164 {qc : Int} {r} (hF : z1162 qc = some r) : Holds prog 229 [.c (.d (.int .u8 qc))] ⟨[], []⟩ (Is (z1163 qc r)) := by
  unfold z1162 at hF
  refine hW f229 5 0 0 ?_
  exact sR 1 (sR 3 (awp_ret (oF hF [] [])))

/-! ### internal/strconv.underscoreOK -/
def z1174 (qx : List UInt8) : Bool → St
  | vx => Mem.st ⟨[], []⟩ (tl [(0, .c (.s qx)), (3, .c (.d (.int .i32 94))), (4, .i 0), (18, .b vx)]) 0

def z1173 (qx : List UInt8) : St := Mem.st ⟨[], []⟩ (tl [(0, .c (.s qx)), (3, .c (.d (.int .i32 94))), (4, .i 0)]) 0

theorem z1175 (qx : List UInt8) {r} (hF : z1172 qx = some r) : Awp prog 0 94 (cL (cL (cR (cR (cR (cB f230)))))) (Out 0 nrm (z1174 qx) r) (z1173 qx) := by
  unfold z1172 at hF
  refine cE hF (fun h1 hF => ?_) fun h1 hF => ?_
  · refine bE hF fun vc h2 hF => cE hF (fun h3 hF => ?_) fun h3 hF => ?_
    · refine awp_region (aR 2 (aB h1 (aR 2 (aX (x_idxS h2) (aB h3 (aR 6 (aE ?_)))))))
      exact oO hF [] [] rfl
    · refine awp_region (aR 2 (aB h1 (aR 2 (aX (x_idxS h2) (aB h3 (aR 2 (aX (x_idxS h2) (aR 3 (aE ?_)))))))))
      exact oO hF [] [] rfl
  · refine awp_region (aR 2 (aB h1 (aR 10 (aE ?_))))
    exact oO hF [] [] rfl

def z1170 (qx : List UInt8) : (List UInt8) → St
  | vx2 => Mem.st ⟨[], []⟩ (tl [(0, .c (.s vx2)), (3, .c (.d (.int .i32 94))), (4, .i 0)]) 0

def z1169 (qx : List UInt8) : St := Mem.st ⟨[], []⟩ (tl [(0, .c (.s qx)), (3, .c (.d (.int .i32 94))), (4, .i 0)]) 0

theorem z1171 (qx : List UInt8) {r} (hF : z1168 qx = some r) : Awp prog 0 94 (cL (cR (cR (cR (cB f230))))) (Out 0 nrm (z1170 qx) r) (z1169 qx) := by
  unfold z1168 at hF
  refine awp_seq (awp_to (st' := z1173 qx) (oT [] []) ?_)
  refine bE hF fun vx1 h4 hF => awp_sub (z1175 qx h4) ?_
  refine cE hF (fun h5 hF => ?_) fun h5 hF => ?_
  · refine tT h5 (bE hF fun vs h6 hF => awp_region (aR 1 (aX (x_sliceS h6) (aR 1 (aE ?_)))))
    exact oO hF [] [] rfl
  · exact tF h5 (awp_skip (oO hF [] [] rfl))

def z1182 (vx2_1 : List UInt8) : Bool → St
  | vx3 => Mem.st ⟨[], []⟩ (tl [(0, .c (.s vx2_1)), (3, .c (.d (.int .i32 94))), (4, .i 0), (5, .b false), (46, .b vx3)]) 0

def z1181 (vx2_1 : List UInt8) : St := Mem.st ⟨[], []⟩ (tl [(0, .c (.s vx2_1)), (3, .c (.d (.int .i32 94))), (4, .i 0), (5, .b false)]) 0

theorem z1183 (vx2_1 : List UInt8) {r} (hF : z1180 vx2_1 = some r) : Awp prog 0 94 (cL (cL (cR (cR (cR (cR (cR (cB f230)))))))) (Out 0 nrm (z1182 vx2_1) r) (z1181 vx2_1) := by
  unfold z1180 at hF
  refine cE hF (fun h8 hF => ?_) fun h8 hF => ?_
  · refine bE hF fun vc1 h9 hF => cE hF (fun h10 hF => ?_) fun h10 hF => ?_
    · refine bE hF fun vc2 h11 hF => bE hF fun _ h12 hF => cE hF (fun h13 hF => ?_) fun h13 hF => ?_
      · refine awp_region (aR 2 (aB h8 (aR 2 (aX (x_idxS h9) (aB h10 (aR 3 (aX (x_idxS h11) (aC (z1164 h12) [] [] [] (aB h13 (aR 13 (aE ?_)))))))))))
        exact oO hF [] [] rfl
      · refine cE hF (fun h14 hF => ?_) fun h14 hF => ?_
        · refine awp_region (aR 2 (aB h8 (aR 2 (aX (x_idxS h9) (aB h10 (aR 3 (aX (x_idxS h11) (aC (z1164 h12) [] [] [] (aB h13 (aR 2 (aX (x_idxS h11) (aC (z1164 h12) [] [] [] (aB h14 ?_)))))))))))))
          refine aR 8 (aE ?_)
          exact oO hF [] [] rfl
        · refine awp_region (aR 2 (aB h8 (aR 2 (aX (x_idxS h9) (aB h10 (aR 3 (aX (x_idxS h11) (aC (z1164 h12) [] [] [] (aB h13 (aR 2 (aX (x_idxS h11) (aC (z1164 h12) [] [] [] (aB h14 ?_)))))))))))))
          refine aR 3 (aX (x_idxS h11) (aC (z1164 h12) [] [] [] (aR 3 (aE ?_))))
          exact oO hF [] [] rfl
    · refine awp_region (aR 2 (aB h8 (aR 2 (aX (x_idxS h9) (aB h10 (aR 19 (aE ?_)))))))
      exact oO hF [] [] rfl
  · refine awp_region (aR 2 (aB h8 (aR 23 (aE ?_))))
    exact oO hF [] [] rfl

def z1178 (vx2_1 : List UInt8) : (Int × Int × Bool) → St
  | (vx4, vx5, vx6) => Mem.st ⟨[], []⟩ (tl [(0, .c (.s vx2_1)), (3, .c (.d (.int .i32 vx4))), (4, .i vx5), (5, .b vx6)]) 0

def z1177 (vx2_1 : List UInt8) : St := Mem.st ⟨[], []⟩ (tl [(0, .c (.s vx2_1)), (3, .c (.d (.int .i32 94))), (4, .i 0), (5, .b false)]) 0

theorem z1179 (vx2_1 : List UInt8) {r} (hF : z1176 vx2_1 = some r) : Awp prog 0 94 (cL (cR (cR (cR (cR (cR (cB f230))))))) (Out 0 nrm (z1178 vx2_1) r) (z1177 vx2_1) := by
  unfold z1176 at hF
  refine awp_seq (awp_to (st' := z1181 vx2_1) (oT [] []) ?_)
  refine bE hF fun vx3_1 h15 hF => awp_sub (z1183 vx2_1 h15) ?_
  refine cE hF (fun h16 hF => ?_) fun h16 hF => ?_
  · refine tT h16 (sR 1 (sR 1 (bE hF fun vc3 h17 hF => bE hF fun _ h18 hF => awp_region (aR 1 (aX (x_idxS h17) (aC (z1164 h18) [] [] [] (aR 2 (aE ?_))))))))
    exact oO hF [] [] rfl
  · exact tF h16 (awp_skip (oO hF [] [] rfl))

def z1196 (vx2_1 : List UInt8) (vx6_1 : Bool) (vx7 : Int) (vx8 : Int) : Bool → St
  | vx11 => Mem.st ⟨[], []⟩ (tl [(0, .c (.s vx2_1)), (3, .c (.d (.int .i32 vx7))), (4, .i vx8), (5, .b vx6_1), (83, .b vx11)]) 0

def z1195 (vx2_1 : List UInt8) (vx6_1 : Bool) (vx7 : Int) (vx8 : Int) : St := Mem.st ⟨[], []⟩ (tl [(0, .c (.s vx2_1)), (3, .c (.d (.int .i32 vx7))), (4, .i vx8), (5, .b vx6_1)]) 0

theorem z1197 (vx2_1 : List UInt8) (vx6_1 : Bool) (vx7 : Int) (vx8 : Int) {r} (hF : z1194 vx2_1 vx6_1 vx8 = some r) : Awp prog 0 94 (cL (cL (cL (cL (cR (cL (cL (cL (cR (cR (cR (cR (cR (cR (cB f230))))))))))))))) (Out 0 nrm (z1196 vx2_1 vx6_1 vx7 vx8) r) (z1195 vx2_1 vx6_1 vx7 vx8) := by
  unfold z1194 at hF
  refine bE hF fun vc6 h21 hF => cE hF (fun h22 hF => ?_) fun h22 hF => ?_
  · refine cE hF (fun h23 hF => ?_) fun h23 hF => ?_
    · refine awp_region (aR 2 (aX (x_idxS h21) (aB h22 (aR 3 (aX (x_idxS h21) (aB h23 (aR 18 (aE ?_))))))))
      exact oO hF [] [] rfl
    · refine cE hF (fun h24 hF => ?_) fun h24 hF => ?_
      · refine bE hF fun _ h25 hF => cE hF (fun h26 hF => ?_) fun h26 hF => ?_
        · refine awp_region (aR 2 (aX (x_idxS h21) (aB h22 (aR 3 (aX (x_idxS h21) (aB h23 (aR 2 (aB h24 (aR 3 (aX (x_idxS h21) (aC (z1164 h25) [] [] [] (aB h26 (aR 4 ?_)))))))))))))
          refine aX (x_idxS h21) (aC (z1164 h25) [] [] [] (aR 3 (aE ?_)))
          exact oO hF [] [] rfl
        · refine awp_region (aR 2 (aX (x_idxS h21) (aB h22 (aR 3 (aX (x_idxS h21) (aB h23 (aR 2 (aB h24 (aR 3 (aX (x_idxS h21) (aC (z1164 h25) [] [] [] (aB h26 (aR 9 ?_)))))))))))))
          refine aE ?_
          exact oO hF [] [] rfl
      · refine awp_region (aR 2 (aX (x_idxS h21) (aB h22 (aR 3 (aX (x_idxS h21) (aB h23 (aR 2 (aB h24 (aR 15 (aE ?_))))))))))
        exact oO hF [] [] rfl
  · refine cE hF (fun h27 hF => ?_) fun h27 hF => ?_
    · refine bE hF fun _ h28 hF => cE hF (fun h29 hF => ?_) fun h29 hF => ?_
      · refine awp_region (aR 2 (aX (x_idxS h21) (aB h22 (aR 7 (aB h27 (aR 3 (aX (x_idxS h21) (aC (z1164 h28) [] [] [] (aB h29 (aR 4 (aX (x_idxS h21) (aC (z1164 h28) [] [] [] (aR 3 ?_)))))))))))))
        refine aE ?_
        exact oO hF [] [] rfl
      · refine awp_region (aR 2 (aX (x_idxS h21) (aB h22 (aR 7 (aB h27 (aR 3 (aX (x_idxS h21) (aC (z1164 h28) [] [] [] (aB h29 (aR 9 (aE ?_)))))))))))
        exact oO hF [] [] rfl
    · refine awp_region (aR 2 (aX (x_idxS h21) (aB h22 (aR 7 (aB h27 (aR 15 (aE ?_)))))))
      exact oO hF [] [] rfl

def z1192 : Int ⊕ Unit → AEx
  | .inl _ => .normal
  | .inr _ => .ret

def z1191 (vx2_1 : List UInt8) (vx6_1 : Bool) (vx7 : Int) (vx8 : Int) : Int ⊕ Unit → St
  | .inl vx12 => Mem.st ⟨[], []⟩ (tl [(0, .c (.s vx2_1)), (3, .c (.d (.int .i32 vx12))), (4, .i vx8), (5, .b vx6_1)]) 0
  | .inr _ => Mem.st ⟨[], []⟩ (tl [(2, .b false)]) 0

def z1190 (vx2_1 : List UInt8) (vx6_1 : Bool) (vx7 : Int) (vx8 : Int) : St := Mem.st ⟨[], []⟩ (tl [(0, .c (.s vx2_1)), (3, .c (.d (.int .i32 vx7))), (4, .i vx8), (5, .b vx6_1)]) 0

theorem z1193 (vx2_1 : List UInt8) (vx6_1 : Bool) (vx7 : Int) (vx8 : Int) {r} (hF : z1189 vx2_1 vx6_1 vx7 vx8 = some r) : Awp prog 0 94 (cL (cR (cL (cL (cL (cR (cR (cR (cR (cR (cR (cB f230)))))))))))) (Out 0 z1192 (z1191 vx2_1 vx6_1 vx7 vx8) r) (z1190 vx2_1 vx6_1 vx7 vx8) := by
  unfold z1189 at hF
  refine awp_block (awp_seq (awp_seq (awp_to (st' := z1195 vx2_1 vx6_1 vx7 vx8) (oT [] []) ?_)))
  refine bE hF fun vx11_1 h30 hF => awp_sub (z1197 vx2_1 vx6_1 vx7 vx8 h30) ?_
  refine cE hF (fun h31 hF => ?_) fun h31 hF => ?_
  · refine tT h31 (sR 1 (awp_exit ?_))
    exact oO hF [] [] rfl
  · refine tF h31 (awp_skip (awp_seq (awp_seq (bE hF fun vc7 h32 hF => awp_region (aR 2 (aX (x_idxS h32) (aR 1 (aE ?_))))))))
    refine cE hF (fun h33 hF => ?_) fun h33 hF => ?_
    · refine tT h33 (awp_seq (sR 2 (cE hF (fun h34 hF => ?_) fun h34 hF => ?_)))
      · exact tT h34 (sR 1 (awp_ret (oO hF [] [] rfl)))
      · refine tF h34 (awp_skip (sR 1 (awp_exit ?_)))
        exact oO hF [] [] rfl
    · refine tF h33 (awp_skip (awp_seq (sR 2 (cE hF (fun h35 hF => ?_) fun h35 hF => ?_))))
      · exact tT h35 (sR 1 (awp_ret (oO hF [] [] rfl)))
      · exact tF h35 (awp_skip (gR 1 (oO hF [] [] rfl)))

def z1187 : Int ⊕ Unit → AEx
  | .inl _ => .exit 0
  | .inr _ => .ret

def z1186 (vx2_1 : List UInt8) (vx6_1 : Bool) : Int ⊕ Unit → St
  | .inl vx13 => Mem.st ⟨[], []⟩ (tl [(3, .c (.d (.int .i32 vx13)))]) 0
  | .inr _ => Mem.st ⟨[], []⟩ (tl [(2, .b false)]) 0

def z1185 (vx2_1 : List UInt8) (vx6_1 : Bool) : Int × Int → St
  | (vx7, vx8) => Mem.st ⟨[], []⟩ (tl [(0, .c (.s vx2_1)), (3, .c (.d (.int .i32 vx7))), (4, .i vx8), (5, .b vx6_1)]) 0

theorem z1188 (vx2_1 : List UInt8) (vx6_1 : Bool) (s : Int × Int) (r : (Int × Int) ⊕ (Int ⊕ Unit)) (hF : z1184 vx2_1 vx6_1 s = some r) : Awp prog 0 94 (cL (cL (cL (cR (cR (cR (cR (cR (cR (cB f230)))))))))) (Out 0 (kk z1187) (SS (z1185 vx2_1 vx6_1) (z1186 vx2_1 vx6_1)) r) (z1185 vx2_1 vx6_1 s) := by
  obtain ⟨vx7, vx8⟩ := s
  unfold z1184 at hF
  refine awp_seq (sR 4 (cE hF (fun h20 hF => ?_) fun h20 hF => ?_))
  · refine tT h20 (awp_skip (awp_seq (awp_to (st' := z1190 vx2_1 vx6_1 vx7 vx8) (oT [] []) ?_)))
    refine bE hF fun x h36 hF => ?_
    rcases x with vx12_1 | _
    · refine awp_sub (z1193 vx2_1 vx6_1 vx7 vx8 h36) ?_
      exact gR 3 (oO hF [] [] rfl)
    · refine awp_sub (z1193 vx2_1 vx6_1 vx7 vx8 h36) ?_
      exact oO hF [] [] rfl
  · refine tF h20 (awp_exit ?_)
    exact oO hF [] [] rfl

def z1166 (qx : List UInt8) (r : Bool) : TV × Mem := (.b r, ⟨[], []⟩)

theorem z1167 {qx : List UInt8} {r} (hF : z1165 qx = some r) : Holds prog 230 [.c (.s qx)] ⟨[], []⟩ (Is (z1166 qx r)) := by
  unfold z1165 at hF
  refine hW f230 94 0 0 ?_
  refine sR 1 (sR 1 (sR 1 (awp_seq (awp_to (st' := z1169 qx) (oT [] []) ?_))))
  refine bE hF fun vx2_1 h7 hF => awp_sub (z1171 qx h7) ?_
  refine sR 1 (awp_seq (awp_to (st' := z1177 vx2_1) (oT [] []) ?_))
  refine bE hF fun x h19 hF => ?_
  obtain ⟨vx4_1, vx5_1, vx6_1⟩ := x
  refine awp_sub (z1179 vx2_1 h19) ?_
  refine awp_seq (awp_block (awp_to (st' := z1185 vx2_1 vx6_1 (vx4_1, vx5_1)) (oT [] []) ?_))
  refine bE hF fun x h37 hF => ?_
  rcases x with vx13_1 | _
  · refine awp_sub (awp_loop' (z1185 vx2_1 vx6_1) z1187 (z1186 vx2_1 vx6_1) (by intro x; rcases x with x | x <;> exact fun h => nomatch h) h37 (z1188 vx2_1 vx6_1)) ?_
    exact sR 3 (awp_ret (oF hF [] []))
  · refine awp_sub (awp_loop' (z1185 vx2_1 vx6_1) z1187 (z1186 vx2_1 vx6_1) (by intro x; rcases x with x | x <;> exact fun h => nomatch h) h37 (z1188 vx2_1 vx6_1)) ?_
    exact oF hF [] []

/-! ### internal/strconv.ParseUint -/
def z1131 (qx : List UInt8) (qx1 : Int) (qx2 : Int) : Bool → St
  | vx => Mem.st ⟨[], []⟩ (tl [(0, .c (.s qx)), (1, .i qx1), (2, .i qx2), (8, .b (decide (qx1 = 0))), (9, .c (.s qx)), (25, .b vx)]) 0

def z1130 (qx : List UInt8) (qx1 : Int) (qx2 : Int) : St := Mem.st ⟨[], []⟩ (tl [(0, .c (.s qx)), (1, .i qx1), (2, .i qx2), (8, .b (decide (qx1 = 0))), (9, .c (.s qx))]) 0

theorem z1132 (qx : List UInt8) (qx1 : Int) (qx2 : Int) {r} (hF : z1129 qx1 = some r) : Awp prog 0 172 (cL (cL (cL (cR (cR (cR (cR (cB f222)))))))) (Out 0 nrm (z1131 qx qx1 qx2) r) (z1130 qx qx1 qx2) := by
  unfold z1129 at hF
  refine cE hF (fun h3 hF => ?_) fun h3 hF => ?_
  · refine awp_region (aR 1 (aB h3 (aR 5 (aE ?_))))
    exact oO hF [] [] rfl
  · refine awp_region (aR 1 (aB h3 (aR 5 (aE ?_))))
    exact oO hF [] [] rfl

def z1135 (qx : List UInt8) (qx1 : Int) (qx2 : Int) : Bool → St
  | vx2 => Mem.st ⟨[], []⟩ (tl [(0, .c (.s qx)), (2, .i qx2), (8, .b (decide (qx1 = 0))), (9, .c (.s qx)), (40, .b vx2)]) 0

def z1134 (qx : List UInt8) (qx1 : Int) (qx2 : Int) : St := Mem.st ⟨[], []⟩ (tl [(0, .c (.s qx)), (2, .i qx2), (8, .b (decide (qx1 = 0))), (9, .c (.s qx))]) 0

theorem z1136 (qx : List UInt8) (qx1 : Int) (qx2 : Int) {r} (hF : z1133 qx = some r) : Awp prog 0 172 (cL (cL (cL (cR (cR (cL (cR (cR (cR (cL (cL (cR (cR (cR (cR (cB f222)))))))))))))))) (Out 0 nrm (z1135 qx qx1 qx2) r) (z1134 qx qx1 qx2) := by
  unfold z1133 at hF
  refine cE hF (fun h9 hF => ?_) fun h9 hF => ?_
  · refine bE hF fun vc1 h10 hF => bE hF fun _ h11 hF => awp_region (aR 2 (aB h9 (aR 2 (aX (x_idxS h10) (aC (z1164 h11) [] [] [] (aR 3 (aE ?_)))))))
    exact oO hF [] [] rfl
  · refine awp_region (aR 2 (aB h9 (aR 7 (aE ?_))))
    exact oO hF [] [] rfl

def z1139 (qx : List UInt8) (qx1 : Int) (qx2 : Int) : Bool → St
  | vx3 => Mem.st ⟨[], []⟩ (tl [(0, .c (.s qx)), (2, .i qx2), (8, .b (decide (qx1 = 0))), (9, .c (.s qx)), (52, .b vx3)]) 0

def z1138 (qx : List UInt8) (qx1 : Int) (qx2 : Int) : St := Mem.st ⟨[], []⟩ (tl [(0, .c (.s qx)), (2, .i qx2), (8, .b (decide (qx1 = 0))), (9, .c (.s qx))]) 0

theorem z1140 (qx : List UInt8) (qx1 : Int) (qx2 : Int) {r} (hF : z1137 qx = some r) : Awp prog 0 172 (cL (cR (cR (cL (cL (cR (cR (cL (cR (cR (cR (cL (cL (cR (cR (cR (cR (cB f222)))))))))))))))))) (Out 0 nrm (z1139 qx qx1 qx2) r) (z1138 qx qx1 qx2) := by
  unfold z1137 at hF
  refine cE hF (fun h15 hF => ?_) fun h15 hF => ?_
  · refine bE hF fun vc2 h16 hF => bE hF fun _ h17 hF => awp_region (aR 2 (aB h15 (aR 2 (aX (x_idxS h16) (aC (z1164 h17) [] [] [] (aR 3 (aE ?_)))))))
    exact oO hF [] [] rfl
  · refine awp_region (aR 2 (aB h15 (aR 7 (aE ?_))))
    exact oO hF [] [] rfl

def z1143 (qx : List UInt8) (qx1 : Int) (qx2 : Int) : Bool → St
  | vx4 => Mem.st ⟨[], []⟩ (tl [(0, .c (.s qx)), (2, .i qx2), (8, .b (decide (qx1 = 0))), (9, .c (.s qx)), (64, .b vx4)]) 0

def z1142 (qx : List UInt8) (qx1 : Int) (qx2 : Int) : St := Mem.st ⟨[], []⟩ (tl [(0, .c (.s qx)), (2, .i qx2), (8, .b (decide (qx1 = 0))), (9, .c (.s qx))]) 0

theorem z1144 (qx : List UInt8) (qx1 : Int) (qx2 : Int) {r} (hF : z1141 qx = some r) : Awp prog 0 172 (cL (cR (cR (cR (cR (cL (cL (cR (cR (cL (cR (cR (cR (cL (cL (cR (cR (cR (cR (cB f222)))))))))))))))))))) (Out 0 nrm (z1143 qx qx1 qx2) r) (z1142 qx qx1 qx2) := by
  unfold z1141 at hF
  refine cE hF (fun h21 hF => ?_) fun h21 hF => ?_
  · refine bE hF fun vc3 h22 hF => bE hF fun _ h23 hF => awp_region (aR 2 (aB h21 (aR 2 (aX (x_idxS h22) (aC (z1164 h23) [] [] [] (aR 3 (aE ?_)))))))
    exact oO hF [] [] rfl
  · refine awp_region (aR 2 (aB h21 (aR 7 (aE ?_))))
    exact oO hF [] [] rfl

def z1127 (qx : List UInt8) (qx1 : Int) (qx2 : Int) : ((List UInt8) × Int) → St
  | (vx5, vx6) => Mem.st ⟨[], []⟩ (tl [(0, .c (.s vx5)), (1, .i vx6), (2, .i qx2), (8, .b (decide (qx1 = 0))), (9, .c (.s qx))]) 0

def z1126 (qx : List UInt8) (qx1 : Int) (qx2 : Int) : St := Mem.st ⟨[], []⟩ (tl [(0, .c (.s qx)), (1, .i qx1), (2, .i qx2), (8, .b (decide (qx1 = 0))), (9, .c (.s qx))]) 0

theorem z1128 (qx : List UInt8) (qx1 : Int) (qx2 : Int) {r} (hF : z1096 qx qx1 = some r) : Awp prog 0 172 (cL (cR (cR (cR (cR (cB f222)))))) (Out 0 nrm (z1127 qx qx1 qx2) r) (z1126 qx qx1 qx2) := by
  unfold z1096 at hF
  refine awp_block (awp_seq (awp_to (st' := z1130 qx qx1 qx2) (oT [] []) ?_))
  refine bE hF fun vx1 h4 hF => awp_sub (z1132 qx qx1 qx2 h4) ?_
  refine cE hF (fun h5 hF => ?_) fun h5 hF => ?_
  · exact tT h5 (awp_skip (oO hF [] [] rfl))
  · refine tF h5 (sR 3 (cE hF (fun h6 hF => ?_) fun h6 hF => ?_))
    · refine tT h6 (sR 1 (awp_seq (bE hF fun vc h7 hF => awp_region (aR 1 (aX (x_idxS h7) (aR 1 (aE ?_)))))))
      refine cE hF (fun h8 hF => ?_) fun h8 hF => ?_
      · refine tT h8 (awp_block (awp_seq (awp_to (st' := z1134 qx qx1 qx2) (oT [] []) ?_)))
        refine bE hF fun vx2_1 h12 hF => awp_sub (z1136 qx qx1 qx2 h12) ?_
        refine cE hF (fun h13 hF => ?_) fun h13 hF => ?_
        · refine tT h13 (sR 1 (bE hF fun vs h14 hF => awp_region (aR 1 (aX (x_sliceS h14) (aR 1 (aE ?_))))))
          exact oO hF [] [] rfl
        · refine tF h13 (awp_seq (awp_to (st' := z1138 qx qx1 qx2) (oT [] []) ?_))
          refine bE hF fun vx3_1 h18 hF => awp_sub (z1140 qx qx1 qx2 h18) ?_
          refine cE hF (fun h19 hF => ?_) fun h19 hF => ?_
          · refine tT h19 (sR 1 (bE hF fun vs1 h20 hF => awp_region (aR 1 (aX (x_sliceS h20) (aR 1 (aE ?_))))))
            exact oO hF [] [] rfl
          · refine tF h19 (awp_seq (awp_to (st' := z1142 qx qx1 qx2) (oT [] []) ?_))
            refine bE hF fun vx4_1 h24 hF => awp_sub (z1144 qx qx1 qx2 h24) ?_
            refine cE hF (fun h25 hF => ?_) fun h25 hF => ?_
            · refine tT h25 (sR 1 (bE hF fun vs2 h26 hF => awp_region (aR 1 (aX (x_sliceS h26) (aR 1 (aE ?_))))))
              exact oO hF [] [] rfl
            · refine tF h25 (sR 1 (bE hF fun vs3 h27 hF => awp_region (aR 1 (aX (x_sliceS h27) (aR 1 (aE ?_))))))
              exact oO hF [] [] rfl
      · exact tF h8 (awp_skip (oO hF [] [] rfl))
    · exact tF h6 (awp_seq (nE hF))

def z1151 (qx : List UInt8) (qx1 : Int) (qx2 : Int) (vx5_1 : List UInt8) (vx6_1 : Int) : Bool → St
  | vx7 => Mem.st ⟨[], []⟩ (tl [(0, .c (.s vx5_1)), (1, .i vx6_1), (2, .i qx2), (8, .b (decide (qx1 = 0))), (9, .c (.s qx)), (83, .b vx7)]) 0

def z1150 (qx : List UInt8) (qx1 : Int) (qx2 : Int) (vx5_1 : List UInt8) (vx6_1 : Int) : St := Mem.st ⟨[], []⟩ (tl [(0, .c (.s vx5_1)), (1, .i vx6_1), (2, .i qx2), (8, .b (decide (qx1 = 0))), (9, .c (.s qx))]) 0

theorem z1152 (qx : List UInt8) (qx1 : Int) (qx2 : Int) (vx5_1 : List UInt8) (vx6_1 : Int) {r} (hF : z1149 qx2 = some r) : Awp prog 0 172 (cL (cR (cR (cL (cR (cR (cR (cR (cR (cB f222)))))))))) (Out 0 nrm (z1151 qx qx1 qx2 vx5_1 vx6_1) r) (z1150 qx qx1 qx2 vx5_1 vx6_1) := by
  unfold z1149 at hF
  refine cE hF (fun h31 hF => ?_) fun h31 hF => ?_
  · refine awp_region (aR 1 (aB h31 (aR 4 (aE ?_))))
    exact oO hF [] [] rfl
  · refine awp_region (aR 1 (aB h31 (aR 4 (aE ?_))))
    exact oO hF [] [] rfl

def z1147 (qx : List UInt8) (qx1 : Int) (qx2 : Int) (vx5_1 : List UInt8) (vx6_1 : Int) : Int → St
  | vx8 => Mem.st ⟨[], []⟩ (tl [(0, .c (.s vx5_1)), (1, .i vx6_1), (2, .i vx8), (8, .b (decide (qx1 = 0))), (9, .c (.s qx))]) 0

def z1146 (qx : List UInt8) (qx1 : Int) (qx2 : Int) (vx5_1 : List UInt8) (vx6_1 : Int) : St := Mem.st ⟨[], []⟩ (tl [(0, .c (.s vx5_1)), (1, .i vx6_1), (2, .i qx2), (8, .b (decide (qx1 = 0))), (9, .c (.s qx))]) 0

theorem z1148 (qx : List UInt8) (qx1 : Int) (qx2 : Int) (vx5_1 : List UInt8) (vx6_1 : Int) {r} (hF : z1145 qx2 = some r) : Awp prog 0 172 (cL (cR (cR (cR (cR (cR (cB f222))))))) (Out 0 nrm (z1147 qx qx1 qx2 vx5_1 vx6_1) r) (z1146 qx qx1 qx2 vx5_1 vx6_1) := by
  unfold z1145 at hF
  refine sR 2 (cE hF (fun h30 hF => ?_) fun h30 hF => ?_)
  · exact tT h30 (gR 1 (oO hF [] [] rfl))
  · refine tF h30 (awp_seq (awp_to (st' := z1150 qx qx1 qx2 vx5_1 vx6_1) (oT [] []) ?_))
    refine bE hF fun vx7_1 h32 hF => awp_sub (z1152 qx qx1 qx2 vx5_1 vx6_1 h32) ?_
    refine cE hF (fun h33 hF => ?_) fun h33 hF => ?_
    · exact tT h33 (awp_seq (nE hF))
    · exact tF h33 (awp_skip (oO hF [] [] rfl))

def z1155 (qx : List UInt8) (qx1 : Int) (vx5_1 : List UInt8) (vx6_1 : Int) (vx8_1 : Int) : Int → St
  | vx9 => Mem.st ⟨[], []⟩ (tl [(0, .c (.s vx5_1)), (1, .i vx6_1), (2, .i vx8_1), (8, .b (decide (qx1 = 0))), (9, .c (.s qx)), (10, .c (.d (.int .u64 vx9)))]) 0

def z1154 (qx : List UInt8) (qx1 : Int) (vx5_1 : List UInt8) (vx6_1 : Int) (vx8_1 : Int) : St := Mem.st ⟨[], []⟩ (tl [(0, .c (.s vx5_1)), (1, .i vx6_1), (2, .i vx8_1), (8, .b (decide (qx1 = 0))), (9, .c (.s qx))]) 0

theorem z1156 (qx : List UInt8) (qx1 : Int) (vx5_1 : List UInt8) (vx6_1 : Int) (vx8_1 : Int) {r} (hF : z1153 vx6_1 = some r) : Awp prog 0 172 (cL (cR (cR (cR (cR (cR (cR (cR (cB f222))))))))) (Out 0 nrm (z1155 qx qx1 vx5_1 vx6_1 vx8_1) r) (z1154 qx qx1 vx5_1 vx6_1 vx8_1) := by
  unfold z1153 at hF
  refine sR 1 (awp_block (sR 2 (cE hF (fun h36 hF => ?_) fun h36 hF => ?_)))
  · exact tT h36 (gR 1 (oO hF [] [] rfl))
  · refine tF h36 (sR 2 (cE hF (fun h37 hF => ?_) fun h37 hF => ?_))
    · exact tT h37 (gR 1 (oO hF [] [] rfl))
    · refine tF h37 (gE hF fun h38 hF => ?_)
      refine awp_region (aR 2 (aX (x_quo h38) (aR 2 (aE ?_))))
      exact oO hF [] [] rfl

def z1108 (qx : List UInt8) (qx1 : Int) (vx5_1 : List UInt8) (vx6_1 : Int) (vx8_1 : Int) (vx9_1 : Int) (vx10 : Bool) (vx11 : Int) (vx12 : Int) (vy1 : Int) : Bool → St
  | vx20 => Mem.st ⟨[], []⟩ (tl [(1, .i vx6_1), (8, .b (decide (qx1 = 0))), (9, .c (.s qx)), (10, .c (.d (.int .u64 vx9_1))), (11, .c (.d (.int .u64 (IntKind.wrap .u64 ((ishl .u64 1 (IntKind.wrap .u64 (vx8_1))) - 1))))), (12, .b vx10), (13, .c (.d (.int .u64 vx11))), (15, .c (.d (.int .u8 vy1))), (99, .c (.l (encI .u8) (bytesD vx5_1))), (100, .i ((bytesD vx5_1).length : Int)), (101, .i vx12), (106, .b vx20)]) 0

def z1107 (qx : List UInt8) (qx1 : Int) (vx5_1 : List UInt8) (vx6_1 : Int) (vx8_1 : Int) (vx9_1 : Int) (vx10 : Bool) (vx11 : Int) (vx12 : Int) (vy1 : Int) : St := Mem.st ⟨[], []⟩ (tl [(1, .i vx6_1), (8, .b (decide (qx1 = 0))), (9, .c (.s qx)), (10, .c (.d (.int .u64 vx9_1))), (11, .c (.d (.int .u64 (IntKind.wrap .u64 ((ishl .u64 1 (IntKind.wrap .u64 (vx8_1))) - 1))))), (12, .b vx10), (13, .c (.d (.int .u64 vx11))), (15, .c (.d (.int .u8 vy1))), (99, .c (.l (encI .u8) (bytesD vx5_1))), (100, .i ((bytesD vx5_1).length : Int)), (101, .i vx12)]) 0

theorem z1109 (qx : List UInt8) (qx1 : Int) (vx5_1 : List UInt8) (vx6_1 : Int) (vx8_1 : Int) (vx9_1 : Int) (vx10 : Bool) (vx11 : Int) (vx12 : Int) (vy1 : Int) {r} (hF : z1106 qx1 vy1 = some r) : Awp prog 0 172 (cL (cL (cL (cR (cR (cL (cL (cR (cR (cL (cL (cR (cL (cR (cR (cR (cR (cR (cR (cR (cR (cR (cR (cR (cB f222))))))))))))))))))))))))) (Out 0 nrm (z1108 qx qx1 vx5_1 vx6_1 vx8_1 vx9_1 vx10 vx11 vx12 vy1) r) (z1107 qx qx1 vx5_1 vx6_1 vx8_1 vx9_1 vx10 vx11 vx12 vy1) := by
  unfold z1106 at hF
  refine cE hF (fun h43 hF => ?_) fun h43 hF => ?_
  · refine awp_region (aR 1 (aB h43 (aR 4 (aE ?_))))
    exact oO hF [] [] rfl
  · refine awp_region (aR 1 (aB h43 (aR 4 (aE ?_))))
    exact oO hF [] [] rfl

def z1112 (qx : List UInt8) (qx1 : Int) (vx5_1 : List UInt8) (vx6_1 : Int) (vx8_1 : Int) (vx9_1 : Int) (vx10 : Bool) (vx11 : Int) (vx12 : Int) (vy1 : Int) : Bool → St
  | vx21 => Mem.st ⟨[], []⟩ (tl [(1, .i vx6_1), (8, .b (decide (qx1 = 0))), (9, .c (.s qx)), (10, .c (.d (.int .u64 vx9_1))), (11, .c (.d (.int .u64 (IntKind.wrap .u64 ((ishl .u64 1 (IntKind.wrap .u64 (vx8_1))) - 1))))), (12, .b vx10), (13, .c (.d (.int .u64 vx11))), (15, .c (.d (.int .u8 vy1))), (99, .c (.l (encI .u8) (bytesD vx5_1))), (100, .i ((bytesD vx5_1).length : Int)), (101, .i vx12), (112, .b vx21)]) 0

def z1111 (qx : List UInt8) (qx1 : Int) (vx5_1 : List UInt8) (vx6_1 : Int) (vx8_1 : Int) (vx9_1 : Int) (vx10 : Bool) (vx11 : Int) (vx12 : Int) (vy1 : Int) : St := Mem.st ⟨[], []⟩ (tl [(1, .i vx6_1), (8, .b (decide (qx1 = 0))), (9, .c (.s qx)), (10, .c (.d (.int .u64 vx9_1))), (11, .c (.d (.int .u64 (IntKind.wrap .u64 ((ishl .u64 1 (IntKind.wrap .u64 (vx8_1))) - 1))))), (12, .b vx10), (13, .c (.d (.int .u64 vx11))), (15, .c (.d (.int .u8 vy1))), (99, .c (.l (encI .u8) (bytesD vx5_1))), (100, .i ((bytesD vx5_1).length : Int)), (101, .i vx12)]) 0

theorem z1113 (qx : List UInt8) (qx1 : Int) (vx5_1 : List UInt8) (vx6_1 : Int) (vx8_1 : Int) (vx9_1 : Int) (vx10 : Bool) (vx11 : Int) (vx12 : Int) (vy1 : Int) {r} (hF : z1110 vy1 = some r) : Awp prog 0 172 (cL (cR (cR (cL (cL (cR (cR (cL (cL (cR (cR (cL (cL (cR (cL (cR (cR (cR (cR (cR (cR (cR (cR (cR (cR (cR (cB f222))))))))))))))))))))))))))) (Out 0 nrm (z1112 qx qx1 vx5_1 vx6_1 vx8_1 vx9_1 vx10 vx11 vx12 vy1) r) (z1111 qx qx1 vx5_1 vx6_1 vx8_1 vx9_1 vx10 vx11 vx12 vy1) := by
  unfold z1110 at hF
  refine cE hF (fun h46 hF => ?_) fun h46 hF => ?_
  · refine awp_region (aR 1 (aB h46 (aR 5 (aE ?_))))
    exact oO hF [] [] rfl
  · refine awp_region (aR 1 (aB h46 (aR 5 (aE ?_))))
    exact oO hF [] [] rfl

def z1116 (qx : List UInt8) (qx1 : Int) (vx5_1 : List UInt8) (vx6_1 : Int) (vx8_1 : Int) (vx9_1 : Int) (vx10 : Bool) (vx11 : Int) (vx12 : Int) (vy1 : Int) : Bool → St
  | vx22 => Mem.st ⟨[], []⟩ (tl [(1, .i vx6_1), (8, .b (decide (qx1 = 0))), (9, .c (.s qx)), (10, .c (.d (.int .u64 vx9_1))), (11, .c (.d (.int .u64 (IntKind.wrap .u64 ((ishl .u64 1 (IntKind.wrap .u64 (vx8_1))) - 1))))), (12, .b vx10), (13, .c (.d (.int .u64 vx11))), (15, .c (.d (.int .u8 vy1))), (99, .c (.l (encI .u8) (bytesD vx5_1))), (100, .i ((bytesD vx5_1).length : Int)), (101, .i vx12), (121, .b vx22)]) 0

def z1115 (qx : List UInt8) (qx1 : Int) (vx5_1 : List UInt8) (vx6_1 : Int) (vx8_1 : Int) (vx9_1 : Int) (vx10 : Bool) (vx11 : Int) (vx12 : Int) (vy1 : Int) : St := Mem.st ⟨[], []⟩ (tl [(1, .i vx6_1), (8, .b (decide (qx1 = 0))), (9, .c (.s qx)), (10, .c (.d (.int .u64 vx9_1))), (11, .c (.d (.int .u64 (IntKind.wrap .u64 ((ishl .u64 1 (IntKind.wrap .u64 (vx8_1))) - 1))))), (12, .b vx10), (13, .c (.d (.int .u64 vx11))), (15, .c (.d (.int .u8 vy1))), (99, .c (.l (encI .u8) (bytesD vx5_1))), (100, .i ((bytesD vx5_1).length : Int)), (101, .i vx12)]) 0

theorem z1117 (qx : List UInt8) (qx1 : Int) (vx5_1 : List UInt8) (vx6_1 : Int) (vx8_1 : Int) (vx9_1 : Int) (vx10 : Bool) (vx11 : Int) (vx12 : Int) (vy1 : Int) {r} (hF : z1114 vy1 = some r) : Awp prog 0 172 (cL (cR (cR (cR (cR (cL (cL (cR (cR (cL (cL (cR (cR (cL (cL (cR (cL (cR (cR (cR (cR (cR (cR (cR (cR (cR (cR (cR (cB f222))))))))))))))))))))))))))))) (Out 0 nrm (z1116 qx qx1 vx5_1 vx6_1 vx8_1 vx9_1 vx10 vx11 vx12 vy1) r) (z1115 qx qx1 vx5_1 vx6_1 vx8_1 vx9_1 vx10 vx11 vx12 vy1) := by
  unfold z1114 at hF
  refine bE hF fun _ h49 hF => cE hF (fun h50 hF => ?_) fun h50 hF => ?_
  · refine awp_region (aR 1 (aC (z1164 h49) [] [] [] (aB h50 (aR 2 (aC (z1164 h49) [] [] [] (aR 3 (aE ?_)))))))
    exact oO hF [] [] rfl
  · refine awp_region (aR 1 (aC (z1164 h49) [] [] [] (aB h50 (aR 6 (aE ?_)))))
    exact oO hF [] [] rfl

def z1104 : Int ⊕ Unit → AEx
  | .inl _ => .normal
  | .inr _ => .exit 4

def z1103 (qx : List UInt8) (qx1 : Int) (vx5_1 : List UInt8) (vx6_1 : Int) (vx8_1 : Int) (vx9_1 : Int) (vx10 : Bool) (vx11 : Int) (vx12 : Int) (vy1 : Int) : Int ⊕ Unit → St
  | .inl vx23 => Mem.st ⟨[], []⟩ (tl [(1, .i vx6_1), (8, .b (decide (qx1 = 0))), (9, .c (.s qx)), (10, .c (.d (.int .u64 vx9_1))), (11, .c (.d (.int .u64 (IntKind.wrap .u64 ((ishl .u64 1 (IntKind.wrap .u64 (vx8_1))) - 1))))), (12, .b vx10), (13, .c (.d (.int .u64 vx11))), (16, .c (.d (.int .u8 vx23))), (99, .c (.l (encI .u8) (bytesD vx5_1))), (100, .i ((bytesD vx5_1).length : Int)), (101, .i vx12)]) 0
  | .inr _ => Mem.st ⟨[], []⟩ (tl [(1, .i vx6_1), (8, .b (decide (qx1 = 0))), (9, .c (.s qx)), (10, .c (.d (.int .u64 vx9_1))), (11, .c (.d (.int .u64 (IntKind.wrap .u64 ((ishl .u64 1 (IntKind.wrap .u64 (vx8_1))) - 1))))), (12, .b true), (13, .c (.d (.int .u64 vx11))), (99, .c (.l (encI .u8) (bytesD vx5_1))), (100, .i ((bytesD vx5_1).length : Int)), (101, .i vx12)]) 0

def z1102 (qx : List UInt8) (qx1 : Int) (vx5_1 : List UInt8) (vx6_1 : Int) (vx8_1 : Int) (vx9_1 : Int) (vx10 : Bool) (vx11 : Int) (vx12 : Int) (vy1 : Int) : St := Mem.st ⟨[], []⟩ (tl [(1, .i vx6_1), (8, .b (decide (qx1 = 0))), (9, .c (.s qx)), (10, .c (.d (.int .u64 vx9_1))), (11, .c (.d (.int .u64 (IntKind.wrap .u64 ((ishl .u64 1 (IntKind.wrap .u64 (vx8_1))) - 1))))), (12, .b vx10), (13, .c (.d (.int .u64 vx11))), (15, .c (.d (.int .u8 vy1))), (99, .c (.l (encI .u8) (bytesD vx5_1))), (100, .i ((bytesD vx5_1).length : Int)), (101, .i vx12)]) 0

theorem z1105 (qx : List UInt8) (qx1 : Int) (vx5_1 : List UInt8) (vx6_1 : Int) (vx8_1 : Int) (vx9_1 : Int) (vx10 : Bool) (vx11 : Int) (vx12 : Int) (vy1 : Int) {r} (hF : z1101 qx1 vy1 = some r) : Awp prog 0 172 (cL (cR (cR (cL (cL (cR (cR (cL (cL (cR (cL (cR (cR (cR (cR (cR (cR (cR (cR (cR (cR (cR (cB f222))))))))))))))))))))))) (Out 0 z1104 (z1103 qx qx1 vx5_1 vx6_1 vx8_1 vx9_1 vx10 vx11 vx12 vy1) r) (z1102 qx qx1 vx5_1 vx6_1 vx8_1 vx9_1 vx10 vx11 vx12 vy1) := by
  unfold z1101 at hF
  refine awp_block (awp_seq (awp_to (st' := z1107 qx qx1 vx5_1 vx6_1 vx8_1 vx9_1 vx10 vx11 vx12 vy1) (oT [] []) ?_))
  refine bE hF fun vx20_1 h44 hF => awp_sub (z1109 qx qx1 vx5_1 vx6_1 vx8_1 vx9_1 vx10 vx11 vx12 vy1 h44) ?_
  refine cE hF (fun h45 hF => ?_) fun h45 hF => ?_
  · refine tT h45 (sR 1 (awp_exit ?_))
    exact oO hF [] [] rfl
  · refine tF h45 (awp_seq (awp_to (st' := z1111 qx qx1 vx5_1 vx6_1 vx8_1 vx9_1 vx10 vx11 vx12 vy1) (oT [] []) ?_))
    refine bE hF fun vx21_1 h47 hF => awp_sub (z1113 qx qx1 vx5_1 vx6_1 vx8_1 vx9_1 vx10 vx11 vx12 vy1 h47) ?_
    refine cE hF (fun h48 hF => ?_) fun h48 hF => ?_
    · exact tT h48 (gR 3 (oO hF [] [] rfl))
    · refine tF h48 (awp_seq (awp_to (st' := z1115 qx qx1 vx5_1 vx6_1 vx8_1 vx9_1 vx10 vx11 vx12 vy1) (oT [] []) ?_))
      refine bE hF fun vx22_1 h51 hF => awp_sub (z1117 qx qx1 vx5_1 vx6_1 vx8_1 vx9_1 vx10 vx11 vx12 vy1 h51) ?_
      refine cE hF (fun h52 hF => ?_) fun h52 hF => ?_
      · refine tT h52 (bE hF fun _ h53 hF => awp_region (aR 1 (aC (z1164 h53) [] [] [] (aR 3 (aE ?_)))))
        exact oO hF [] [] rfl
      · exact tF h52 (awp_seq (nE hF))

def z1120 (qx : List UInt8) (qx1 : Int) (vx5_1 : List UInt8) (vx6_1 : Int) (vx8_1 : Int) (vx9_1 : Int) (vx10 : Bool) (vx11 : Int) (vx12 : Int) (vx23_1 : Int) : Bool → St
  | vx24 => Mem.st ⟨[], []⟩ (tl [(1, .i vx6_1), (8, .b (decide (qx1 = 0))), (9, .c (.s qx)), (10, .c (.d (.int .u64 vx9_1))), (11, .c (.d (.int .u64 (IntKind.wrap .u64 ((ishl .u64 1 (IntKind.wrap .u64 (vx8_1))) - 1))))), (12, .b vx10), (17, .c (.d (.int .u64 (IntKind.wrap .u64 ((IntKind.wrap .u64 (vx11 * (IntKind.wrap .u64 (vx6_1)))) + (IntKind.wrap .u64 (vx23_1))))))), (99, .c (.l (encI .u8) (bytesD vx5_1))), (100, .i ((bytesD vx5_1).length : Int)), (101, .i vx12), (159, .b vx24)]) 0

def z1119 (qx : List UInt8) (qx1 : Int) (vx5_1 : List UInt8) (vx6_1 : Int) (vx8_1 : Int) (vx9_1 : Int) (vx10 : Bool) (vx11 : Int) (vx12 : Int) (vx23_1 : Int) : St := Mem.st ⟨[], []⟩ (tl [(1, .i vx6_1), (8, .b (decide (qx1 = 0))), (9, .c (.s qx)), (10, .c (.d (.int .u64 vx9_1))), (11, .c (.d (.int .u64 (IntKind.wrap .u64 ((ishl .u64 1 (IntKind.wrap .u64 (vx8_1))) - 1))))), (12, .b vx10), (13, .c (.d (.int .u64 (IntKind.wrap .u64 (vx11 * (IntKind.wrap .u64 (vx6_1))))))), (17, .c (.d (.int .u64 (IntKind.wrap .u64 ((IntKind.wrap .u64 (vx11 * (IntKind.wrap .u64 (vx6_1)))) + (IntKind.wrap .u64 (vx23_1))))))), (99, .c (.l (encI .u8) (bytesD vx5_1))), (100, .i ((bytesD vx5_1).length : Int)), (101, .i vx12)]) 0

theorem z1121 (qx : List UInt8) (qx1 : Int) (vx5_1 : List UInt8) (vx6_1 : Int) (vx8_1 : Int) (vx9_1 : Int) (vx10 : Bool) (vx11 : Int) (vx12 : Int) (vx23_1 : Int) {r} (hF : z1118 vx6_1 vx8_1 vx11 vx23_1 = some r) : Awp prog 0 172 (cL (cL (cR (cR (cR (cR (cR (cR (cR (cL (cL (cR (cR (cL (cL (cR (cL (cR (cR (cR (cR (cR (cR (cR (cR (cR (cR (cR (cB f222))))))))))))))))))))))))))))) (Out 0 nrm (z1120 qx qx1 vx5_1 vx6_1 vx8_1 vx9_1 vx10 vx11 vx12 vx23_1) r) (z1119 qx qx1 vx5_1 vx6_1 vx8_1 vx9_1 vx10 vx11 vx12 vx23_1) := by
  unfold z1118 at hF
  refine cE hF (fun h60 hF => ?_) fun h60 hF => ?_
  · refine awp_region (aR 2 (aB h60 (aR 5 (aE ?_))))
    exact oO hF [] [] rfl
  · refine awp_region (aR 2 (aB h60 (aR 5 (aE ?_))))
    exact oO hF [] [] rfl

def z1099 (qx : List UInt8) (qx1 : Int) (vx5_1 : List UInt8) (vx6_1 : Int) (vx8_1 : Int) (vx9_1 : Int) (vx10 : Bool) (vx11 : Int) (vx12 : Int) : (Bool × Int) → St
  | (vx25, vx26) => Mem.st ⟨[], []⟩ (tl [(1, .i vx6_1), (8, .b (decide (qx1 = 0))), (9, .c (.s qx)), (10, .c (.d (.int .u64 vx9_1))), (11, .c (.d (.int .u64 (IntKind.wrap .u64 ((ishl .u64 1 (IntKind.wrap .u64 (vx8_1))) - 1))))), (12, .b vx25), (13, .c (.d (.int .u64 vx26))), (99, .c (.l (encI .u8) (bytesD vx5_1))), (100, .i ((bytesD vx5_1).length : Int)), (101, .i vx12)]) 0

def z1098 (qx : List UInt8) (qx1 : Int) (vx5_1 : List UInt8) (vx6_1 : Int) (vx8_1 : Int) (vx9_1 : Int) (vx10 : Bool) (vx11 : Int) (vx12 : Int) : St := Mem.st ⟨[], []⟩ (tl [(1, .i vx6_1), (8, .b (decide (qx1 = 0))), (9, .c (.s qx)), (10, .c (.d (.int .u64 vx9_1))), (11, .c (.d (.int .u64 (IntKind.wrap .u64 ((ishl .u64 1 (IntKind.wrap .u64 (vx8_1))) - 1))))), (12, .b vx10), (13, .c (.d (.int .u64 vx11))), (99, .c (.l (encI .u8) (bytesD vx5_1))), (100, .i ((bytesD vx5_1).length : Int)), (101, .i vx12)]) 0

theorem z1100 (qx : List UInt8) (qx1 : Int) (vx5_1 : List UInt8) (vx6_1 : Int) (vx8_1 : Int) (vx9_1 : Int) (vx10 : Bool) (vx11 : Int) (vx12 : Int) {r} (hF : z1097 qx1 vx5_1 vx6_1 vx8_1 vx9_1 vx10 vx11 vx12 = some r) : Awp prog 0 172 (cL (cR (cR (cL (cL (cR (cL (cR (cR (cR (cR (cR (cR (cR (cR (cR (cR (cR (cB f222))))))))))))))))))) (Out 0 nrm (z1099 qx qx1 vx5_1 vx6_1 vx8_1 vx9_1 vx10 vx11 vx12) r) (z1098 qx qx1 vx5_1 vx6_1 vx8_1 vx9_1 vx10 vx11 vx12) := by
  unfold z1097 at hF
  refine awp_block (awp_seq (bE hF fun vy1 h42 hF => awp_region (aX (x_idx (encI .u8) h42) (aR 2 (aE ?_)))))
  refine sR 1 (awp_seq (awp_to (st' := z1102 qx qx1 vx5_1 vx6_1 vx8_1 vx9_1 vx10 vx11 vx12 vy1) (oT [] []) ?_))
  refine bE hF fun x h55 hF => ?_
  rcases x with vx23_1 | _
  · refine awp_sub (z1105 qx qx1 vx5_1 vx6_1 vx8_1 vx9_1 vx10 vx11 vx12 vy1 h55) ?_
    refine awp_seq (sR 4 (cE hF (fun h56 hF => ?_) fun h56 hF => ?_))
    · exact tT h56 (awp_seq (nE hF))
    · refine tF h56 (awp_skip (awp_seq (sR 3 (cE hF (fun h58 hF => ?_) fun h58 hF => ?_))))
      · exact tT h58 (awp_seq (nE hF))
      · refine tF h58 (awp_skip (sR 5 (sR 5 (awp_seq (awp_seq (awp_to (st' := z1119 qx qx1 vx5_1 vx6_1 vx8_1 vx9_1 vx10 vx11 vx12 vx23_1) (oT [] []) ?_))))))
        refine bE hF fun vx24_1 h61 hF => awp_sub (z1121 qx qx1 vx5_1 vx6_1 vx8_1 vx9_1 vx10 vx11 vx12 vx23_1 h61) ?_
        refine cE hF (fun h62 hF => ?_) fun h62 hF => ?_
        · exact tT h62 (awp_seq (nE hF))
        · exact tF h62 (awp_skip (gR 2 (oO hF [] [] rfl)))
  · refine awp_sub (z1105 qx qx1 vx5_1 vx6_1 vx8_1 vx9_1 vx10 vx11 vx12 vy1 h55) ?_
    exact oO hF [] [] rfl

def z1160 : (Bool × Int) → AEx
  | _ => .exit 3

def z1159 (qx : List UInt8) (qx1 : Int) (vx5_1 : List UInt8) (vx6_1 : Int) (vx8_1 : Int) (vx9_1 : Int) : (Bool × Int) → St
  | (vx27, vx28) => Mem.st ⟨[], []⟩ (tl [(9, .c (.s qx)), (12, .b vx27), (13, .c (.d (.int .u64 vx28)))]) 0

def z1158 (qx : List UInt8) (qx1 : Int) (vx5_1 : List UInt8) (vx6_1 : Int) (vx8_1 : Int) (vx9_1 : Int) : Bool × Int × Int → St
  | (vx10, vx11, vx12) => Mem.st ⟨[], []⟩ (tl [(1, .i vx6_1), (8, .b (decide (qx1 = 0))), (9, .c (.s qx)), (10, .c (.d (.int .u64 vx9_1))), (11, .c (.d (.int .u64 (IntKind.wrap .u64 ((ishl .u64 1 (IntKind.wrap .u64 (vx8_1))) - 1))))), (12, .b vx10), (13, .c (.d (.int .u64 vx11))), (99, .c (.l (encI .u8) (bytesD vx5_1))), (100, .i ((bytesD vx5_1).length : Int)), (101, .i vx12)]) 0

theorem z1161 (qx : List UInt8) (qx1 : Int) (vx5_1 : List UInt8) (vx6_1 : Int) (vx8_1 : Int) (vx9_1 : Int) (s : Bool × Int × Int) (r : (Bool × Int × Int) ⊕ ((Bool × Int))) (hF : z1157 qx1 vx5_1 vx6_1 vx8_1 vx9_1 s = some r) : Awp prog 0 172 (cL (cL (cR (cL (cR (cR (cR (cR (cR (cR (cR (cR (cR (cR (cR (cB f222)))))))))))))))) (Out 0 (kk z1160) (SS (z1158 qx qx1 vx5_1 vx6_1 vx8_1 vx9_1) (z1159 qx qx1 vx5_1 vx6_1 vx8_1 vx9_1)) r) (z1158 qx qx1 vx5_1 vx6_1 vx8_1 vx9_1 s) := by
  obtain ⟨vx10, vx11, vx12⟩ := s
  unfold z1157 at hF
  refine sR 1 (awp_seq (cE hF (fun h41 hF => ?_) fun h41 hF => ?_))
  · refine tT h41 (awp_skip (awp_seq (awp_to (st' := z1098 qx qx1 vx5_1 vx6_1 vx8_1 vx9_1 vx10 vx11 vx12) (oT [] []) ?_)))
    refine bE hF fun x h64 hF => ?_
    obtain ⟨vx25_1, vx26_1⟩ := x
    refine awp_sub (z1100 qx qx1 vx5_1 vx6_1 vx8_1 vx9_1 vx10 vx11 vx12 h64) ?_
    exact gR 2 (oO hF [] [] rfl)
  · refine tF h41 (awp_exit ?_)
    exact oO hF [] [] rfl

def z1124 (qx : List UInt8) (vx27_1 : Bool) (vx28_1 : Int) : Bool → St
  | vx29 => Mem.st ⟨[], []⟩ (tl [(13, .c (.d (.int .u64 vx28_1))), (169, .b vx29)]) 0

def z1123 (qx : List UInt8) (vx27_1 : Bool) (vx28_1 : Int) : St := Mem.st ⟨[], []⟩ (tl [(9, .c (.s qx)), (12, .b vx27_1), (13, .c (.d (.int .u64 vx28_1)))]) 0

theorem z1125 (qx : List UInt8) (vx27_1 : Bool) (vx28_1 : Int) {r} (hF : z1122 qx vx27_1 = some r) : Awp prog 0 172 (cL (cL (cR (cR (cR (cR (cR (cR (cR (cR (cR (cR (cR (cR (cB f222))))))))))))))) (Out 0 nrm (z1124 qx vx27_1 vx28_1) r) (z1123 qx vx27_1 vx28_1) := by
  unfold z1122 at hF
  refine cE hF (fun h66 hF => ?_) fun h66 hF => ?_
  · refine bE hF fun vr h67 hF => awp_region (aB h66 (aR 2 (aC (z1167 h67) [] [] [] (aR 2 (aE ?_)))))
    exact oO hF [] [] rfl
  · refine awp_region (aB h66 (aR 5 (aE ?_)))
    exact oO hF [] [] rfl

def z1094 (qx : List UInt8) (qx1 : Int) (qx2 : Int) (r : Int) : TV × Mem := (.tup [.one (.d (.int .u64 r)), .one (.nili)], ⟨[], []⟩)

theorem z1095 {qx : List UInt8} {qx1 : Int} {qx2 : Int} {r} (hF : z1093 qx qx1 qx2 = some r) : Holds prog 222 [.c (.s qx), .i qx1, .i qx2] ⟨[], []⟩ (Is (z1094 qx qx1 qx2 r)) := by
  unfold z1093 at hF
  refine hW f222 172 0 0 ?_
  refine sR 2 (awp_seq (sR 2 (cE hF (fun h1 hF => ?_) fun h1 hF => ?_)))
  · exact tT h1 (awp_seq (nE hF))
  · refine tF h1 (awp_skip (sR 3 (sR 2 (awp_seq (awp_to (st' := z1126 qx qx1 qx2) (oT [] []) ?_)))))
    refine bE hF fun x h29 hF => ?_
    obtain ⟨vx5_1, vx6_1⟩ := x
    refine awp_sub (z1128 qx qx1 qx2 h29) ?_
    refine awp_seq (awp_to (st' := z1146 qx qx1 qx2 vx5_1 vx6_1) (oT [] []) ?_)
    refine bE hF fun vx8_1 h35 hF => awp_sub (z1148 qx qx1 qx2 vx5_1 vx6_1 h35) ?_
    refine sR 1 (awp_seq (awp_to (st' := z1154 qx qx1 vx5_1 vx6_1 vx8_1) (oT [] []) ?_))
    refine bE hF fun vx9_1 h39 hF => awp_sub (z1156 qx qx1 vx5_1 vx6_1 vx8_1 h39) ?_
    refine awp_seq (gE hF fun h40 hF => ?_)
    refine awp_region (aR 2 (aX (x_shl h40) (aR 2 (aE ?_))))
    refine sR 1 (sR 1 (awp_seq (awp_seq (awp_region (aR 1 (aBs (s := vx5_1) rfl ?_))))))
    refine aL (encI .u8) (bytesD vx5_1) (aR 1 (aE ?_))
    refine awp_block (awp_to (st' := z1158 qx qx1 vx5_1 vx6_1 vx8_1 vx9_1 (false, 0, 0)) (oT [] []) ?_)
    refine bE hF fun x h65 hF => ?_
    obtain ⟨vx27_1, vx28_1⟩ := x
    refine awp_sub (awp_loop' (z1158 qx qx1 vx5_1 vx6_1 vx8_1 vx9_1) z1160 (z1159 qx qx1 vx5_1 vx6_1 vx8_1 vx9_1) (by intro x; exact fun h => nomatch h) h65 (z1161 qx qx1 vx5_1 vx6_1 vx8_1 vx9_1)) ?_
    refine awp_seq (awp_seq (awp_to (st' := z1123 qx vx27_1 vx28_1) (oT [] []) ?_))
    refine bE hF fun vx29_1 h68 hF => awp_sub (z1125 qx vx27_1 vx28_1 h68) ?_
    refine cE hF (fun h69 hF => ?_) fun h69 hF => ?_
    · exact tT h69 (awp_seq (nE hF))
    · exact tF h69 (awp_skip (sR 3 (awp_ret (oF hF [] []))))

/-! ### internal/strconv.ParseInt -/
def z1075 (qx : List UInt8) (qx1 : Int) (qx2 : Int) : ((List UInt8) × Bool) → St
  | (vx, vx1) => Mem.st ⟨[], []⟩ (tl [(0, .c (.s vx)), (1, .i qx1), (2, .i qx2), (8, .b vx1)]) 0

def z1074 (qx : List UInt8) (qx1 : Int) (qx2 : Int) : St := Mem.st ⟨[], []⟩ (tl [(0, .c (.s qx)), (1, .i qx1), (2, .i qx2), (8, .b false)]) 0

theorem z1076 (qx : List UInt8) (qx1 : Int) (qx2 : Int) {r} (hF : z1073 qx = some r) : Awp prog 0 73 (cL (cR (cR (cR (cB f206))))) (Out 0 nrm (z1075 qx qx1 qx2) r) (z1074 qx qx1 qx2) := by
  unfold z1073 at hF
  refine awp_seq (bE hF fun vc h3 hF => awp_region (aR 1 (aX (x_idxS h3) (aE ?_))))
  refine awp_block (sR 2 (cE hF (fun h4 hF => ?_) fun h4 hF => ?_))
  · refine tT h4 (bE hF fun vs h5 hF => awp_region (aR 1 (aX (x_sliceS h5) (aR 1 (aE ?_)))))
    exact oO hF [] [] rfl
  · refine tF h4 (sR 2 (cE hF (fun h6 hF => ?_) fun h6 hF => ?_))
    · refine tT h6 (awp_seq (bE hF fun vs1 h7 hF => awp_region (aR 1 (aX (x_sliceS h7) (aR 1 (aE ?_))))))
      exact gR 1 (oO hF [] [] rfl)
    · exact tF h6 (awp_skip (oO hF [] [] rfl))

def z1079 (qx2 : Int) (vx1_1 : Bool) (vr1 : Int) : Int → St
  | vx3 => Mem.st ⟨[], []⟩ (tl [(2, .i vx3), (8, .b vx1_1), (9, .c (.d (.int .u64 vr1)))]) 0

def z1078 (qx2 : Int) (vx1_1 : Bool) (vr1 : Int) : St := Mem.st ⟨[], []⟩ (tl [(2, .i qx2), (8, .b vx1_1), (9, .c (.d (.int .u64 vr1)))]) 0

theorem z1080 (qx2 : Int) (vx1_1 : Bool) (vr1 : Int) {r} (hF : z1077 qx2 = some r) : Awp prog 0 73 (cL (cR (cR (cR (cR (cR (cR (cR (cB f206))))))))) (Out 0 nrm (z1079 qx2 vx1_1 vr1) r) (z1078 qx2 vx1_1 vr1) := by
  unfold z1077 at hF
  refine sR 2 (cE hF (fun h10 hF => ?_) fun h10 hF => ?_)
  · exact tT h10 (gR 1 (oO hF [] [] rfl))
  · exact tF h10 (awp_skip (oO hF [] [] rfl))

def z1083 (vx1_1 : Bool) (vr1 : Int) (vx3_1 : Int) : Bool → St
  | vx4 => Mem.st ⟨[], []⟩ (tl [(8, .b vx1_1), (9, .c (.d (.int .u64 vr1))), (10, .c (.d (.int .u64 (ishl .u64 1 (IntKind.wrap .u64 (IntKind.wrap .i64 (vx3_1 - 1))))))), (52, .b vx4)]) 0

def z1082 (vx1_1 : Bool) (vr1 : Int) (vx3_1 : Int) : St := Mem.st ⟨[], []⟩ (tl [(8, .b vx1_1), (9, .c (.d (.int .u64 vr1))), (10, .c (.d (.int .u64 (ishl .u64 1 (IntKind.wrap .u64 (IntKind.wrap .i64 (vx3_1 - 1)))))))]) 0

theorem z1084 (vx1_1 : Bool) (vr1 : Int) (vx3_1 : Int) {r} (hF : z1081 vx1_1 vr1 vx3_1 = some r) : Awp prog 0 73 (cL (cL (cR (cR (cR (cR (cR (cR (cR (cR (cR (cB f206)))))))))))) (Out 0 nrm (z1083 vx1_1 vr1 vx3_1) r) (z1082 vx1_1 vr1 vx3_1) := by
  unfold z1081 at hF
  refine cE hF (fun h13 hF => ?_) fun h13 hF => ?_
  · refine awp_region (aR 1 (aB h13 (aR 5 (aE ?_))))
    exact oO hF [] [] rfl
  · refine awp_region (aR 1 (aB h13 (aR 5 (aE ?_))))
    exact oO hF [] [] rfl

def z1087 (vx1_1 : Bool) (vr1 : Int) (vx3_1 : Int) : Bool → St
  | vx5 => Mem.st ⟨[], []⟩ (tl [(8, .b vx1_1), (9, .c (.d (.int .u64 vr1))), (10, .c (.d (.int .u64 (ishl .u64 1 (IntKind.wrap .u64 (IntKind.wrap .i64 (vx3_1 - 1))))))), (62, .b vx5)]) 0

def z1086 (vx1_1 : Bool) (vr1 : Int) (vx3_1 : Int) : St := Mem.st ⟨[], []⟩ (tl [(8, .b vx1_1), (9, .c (.d (.int .u64 vr1))), (10, .c (.d (.int .u64 (ishl .u64 1 (IntKind.wrap .u64 (IntKind.wrap .i64 (vx3_1 - 1)))))))]) 0

theorem z1088 (vx1_1 : Bool) (vr1 : Int) (vx3_1 : Int) {r} (hF : z1085 vx1_1 vr1 vx3_1 = some r) : Awp prog 0 73 (cL (cL (cR (cR (cR (cR (cR (cR (cR (cR (cR (cR (cB f206))))))))))))) (Out 0 nrm (z1087 vx1_1 vr1 vx3_1) r) (z1086 vx1_1 vr1 vx3_1) := by
  unfold z1085 at hF
  refine cE hF (fun h17 hF => ?_) fun h17 hF => ?_
  · refine awp_region (aB h17 (aR 5 (aE ?_)))
    exact oO hF [] [] rfl
  · refine awp_region (aB h17 (aR 5 (aE ?_)))
    exact oO hF [] [] rfl

def z1091 (vx1_1 : Bool) (vr1 : Int) : Int → St
  | vx6 => Mem.st ⟨[], []⟩ (tl [(11, .i vx6)]) 0

def z1090 (vx1_1 : Bool) (vr1 : Int) : St := Mem.st ⟨[], []⟩ (tl [(8, .b vx1_1), (11, .i (IntKind.wrap .i64 (vr1)))]) 0

theorem z1092 (vx1_1 : Bool) (vr1 : Int) {r} (hF : z1089 vx1_1 vr1 = some r) : Awp prog 0 73 (cL (cR (cR (cR (cR (cR (cR (cR (cR (cR (cR (cR (cR (cB f206)))))))))))))) (Out 0 nrm (z1091 vx1_1 vr1) r) (z1090 vx1_1 vr1) := by
  unfold z1089 at hF
  refine sR 1 (cE hF (fun h21 hF => ?_) fun h21 hF => ?_)
  · exact tT h21 (gR 3 (oO hF [] [] rfl))
  · exact tF h21 (awp_skip (oO hF [] [] rfl))

def z1071 (qx : List UInt8) (qx1 : Int) (qx2 : Int) (r : Int) : TV × Mem := (.tup [.one (.i r), .one (.nili)], ⟨[], []⟩)

theorem z1072 {qx : List UInt8} {qx1 : Int} {qx2 : Int} {r} (hF : z1070 qx qx1 qx2 = some r) : Holds prog 206 [.c (.s qx), .i qx1, .i qx2] ⟨[], []⟩ (Is (z1071 qx qx1 qx2 r)) := by
  unfold z1070 at hF
  refine hW f206 73 0 0 ?_
  refine sR 2 (awp_seq (sR 2 (cE hF (fun h1 hF => ?_) fun h1 hF => ?_)))
  · exact tT h1 (awp_seq (nE hF))
  · refine tF h1 (awp_skip (sR 1 (awp_seq (awp_to (st' := z1074 qx qx1 qx2) (oT [] []) ?_))))
    refine bE hF fun x h8 hF => ?_
    obtain ⟨vx2, vx1_1⟩ := x
    refine awp_sub (z1076 qx qx1 qx2 h8) ?_
    refine sR 1 (awp_seq (bE hF fun vr1 h9 hF => awp_region (aR 3 (aC (z1095 h9) [] [] [] (aR 5 (aE ?_))))))
    refine awp_seq (awp_seq (awp_region (aR 1 (aS (does_nilI (op := .neq) (c := false) rfl (.inr ⟨rfl, rfl⟩) (by kernel_rfl) (by kernel_rfl)) ?_))))
    refine aR 5 (aE ?_)
    refine tF rfl (awp_skip (awp_seq (awp_to (st' := z1078 qx2 vx1_1 vr1) (oT [] []) ?_)))
    refine bE hF fun vx3_1 h11 hF => awp_sub (z1080 qx2 vx1_1 vr1 h11) ?_
    refine awp_seq (gE hF fun h12 hF => ?_)
    refine awp_region (aR 3 (aX (x_shl h12) (aR 1 (aE ?_))))
    refine awp_seq (awp_seq (awp_to (st' := z1082 vx1_1 vr1 vx3_1) (oT [] []) ?_))
    refine bE hF fun vx4_1 h14 hF => awp_sub (z1084 vx1_1 vr1 vx3_1 h14) ?_
    refine cE hF (fun h15 hF => ?_) fun h15 hF => ?_
    · exact tT h15 (awp_seq (nE hF))
    · refine tF h15 (awp_skip (awp_seq (awp_seq (awp_to (st' := z1086 vx1_1 vr1 vx3_1) (oT [] []) ?_))))
      refine bE hF fun vx5_1 h18 hF => awp_sub (z1088 vx1_1 vr1 vx3_1 h18) ?_
      refine cE hF (fun h19 hF => ?_) fun h19 hF => ?_
      · exact tT h19 (awp_seq (nE hF))
      · refine tF h19 (awp_skip (sR 3 (awp_seq (awp_to (st' := z1090 vx1_1 vr1) (oT [] []) ?_))))
        refine bE hF fun vx6_1 h22 hF => awp_sub (z1092 vx1_1 vr1 h22) ?_
        exact sR 3 (awp_ret (oF hF [] []))

/-! ### internal/strconv.Atoi -/
def z1049 (qx : List UInt8) : Bool → St
  | vx => Mem.st ⟨[], []⟩ (tl [(0, .c (.s qx)), (30, .b vx)]) 0

def z1048 (qx : List UInt8) : St := Mem.st ⟨[], []⟩ (tl [(0, .c (.s qx)), (4, .i (qx.length : Int))]) 0

theorem z1050 (qx : List UInt8) {r} (hF : z1047 qx = some r) : Awp prog 0 77 (cL (cL (cR (cR (cB f183))))) (Out 0 nrm (z1049 qx) r) (z1048 qx) := by
  unfold z1047 at hF
  refine cE hF (fun h1 hF => ?_) fun h1 hF => ?_
  · refine awp_region (aR 11 (aB h1 (aR 6 (aE ?_))))
    exact oO hF [] [] rfl
  · refine awp_region (aR 11 (aB h1 (aR 6 (aE ?_))))
    exact oO hF [] [] rfl

def z1057 (qx : List UInt8) : Bool → St
  | vx2 => Mem.st ⟨[], []⟩ (tl [(0, .c (.s qx)), (5, .c (.s qx)), (39, .b vx2)]) 0

def z1056 (qx : List UInt8) : St := Mem.st ⟨[], []⟩ (tl [(0, .c (.s qx)), (5, .c (.s qx))]) 0

theorem z1058 (qx : List UInt8) {r} (hF : z1055 qx = some r) : Awp prog 0 77 (cL (cL (cR (cL (cR (cL (cR (cR (cB f183))))))))) (Out 0 nrm (z1057 qx) r) (z1056 qx) := by
  unfold z1055 at hF
  refine bE hF fun vc h4 hF => cE hF (fun h5 hF => ?_) fun h5 hF => ?_
  · refine awp_region (aR 1 (aX (x_idxS h4) (aB h5 (aR 5 (aE ?_)))))
    exact oO hF [] [] rfl
  · refine awp_region (aR 1 (aX (x_idxS h4) (aB h5 (aR 2 (aX (x_idxS h4) (aR 2 (aE ?_)))))))
    exact oO hF [] [] rfl

def z1053 (qx : List UInt8) : (List UInt8) → St
  | vx3 => Mem.st ⟨[], []⟩ (tl [(0, .c (.s vx3)), (5, .c (.s qx))]) 0

def z1052 (qx : List UInt8) : St := Mem.st ⟨[], []⟩ (tl [(0, .c (.s qx)), (5, .c (.s qx))]) 0

theorem z1054 (qx : List UInt8) {r} (hF : z1051 qx = some r) : Awp prog 0 77 (cL (cR (cL (cR (cL (cR (cR (cB f183)))))))) (Out 0 nrm (z1053 qx) r) (z1052 qx) := by
  unfold z1051 at hF
  refine awp_seq (awp_to (st' := z1056 qx) (oT [] []) ?_)
  refine bE hF fun vx2_1 h6 hF => awp_sub (z1058 qx h6) ?_
  refine cE hF (fun h7 hF => ?_) fun h7 hF => ?_
  · refine tT h7 (awp_seq (bE hF fun vs h8 hF => awp_region (aR 1 (aX (x_sliceS h8) (aR 1 (aE ?_))))))
    refine sR 3 (cE hF (fun h9 hF => ?_) fun h9 hF => ?_)
    · exact tT h9 (awp_seq (nE hF))
    · exact tF h9 (awp_skip (oO hF [] [] rfl))
  · exact tF h7 (awp_skip (oO hF [] [] rfl))

def z1062 : Int → AEx
  | _ => .exit 0

def z1061 (qx : List UInt8) (vx3_1 : List UInt8) : Int → St
  | vx6 => Mem.st ⟨[], []⟩ (tl [(5, .c (.s qx)), (6, .i vx6)]) 0

def z1060 (qx : List UInt8) (vx3_1 : List UInt8) : Int × Int → St
  | (vx4, vx5) => Mem.st ⟨[], []⟩ (tl [(5, .c (.s qx)), (6, .i vx4), (47, .c (.l (encI .u8) (bytesD vx3_1))), (48, .i ((bytesD vx3_1).length : Int)), (49, .i vx5)]) 0

theorem z1063 (qx : List UInt8) (vx3_1 : List UInt8) (s : Int × Int) (r : (Int × Int) ⊕ (Int)) (hF : z1059 vx3_1 s = some r) : Awp prog 0 77 (cL (cL (cR (cL (cR (cR (cR (cL (cR (cL (cR (cR (cB f183))))))))))))) (Out 0 (kk z1062) (SS (z1060 qx vx3_1) (z1061 qx vx3_1)) r) (z1060 qx vx3_1 s) := by
  obtain ⟨vx4, vx5⟩ := s
  unfold z1059 at hF
  refine sR 1 (awp_seq (cE hF (fun h12 hF => ?_) fun h12 hF => ?_))
  · refine tT h12 (awp_skip (awp_seq (awp_block (awp_seq (bE hF fun vy1 h13 hF => awp_region (aX (x_idx (encI .u8) h13) (aR 2 (aE ?_))))))))
    refine sR 3 (awp_seq (sR 2 (cE hF (fun h14 hF => ?_) fun h14 hF => ?_)))
    · exact tT h14 (awp_seq (nE hF))
    · exact tF h14 (awp_skip (gR 6 (gR 2 (oO hF [] [] rfl))))
  · refine tF h12 (awp_exit ?_)
    exact oO hF [] [] rfl

def z1066 (qx : List UInt8) (vx6_1 : Int) : Int → St
  | vx7 => Mem.st ⟨[], []⟩ (tl [(6, .i vx7)]) 0

def z1065 (qx : List UInt8) (vx6_1 : Int) : St := Mem.st ⟨[], []⟩ (tl [(5, .c (.s qx)), (6, .i vx6_1)]) 0

theorem z1067 (qx : List UInt8) (vx6_1 : Int) {r} (hF : z1064 qx vx6_1 = some r) : Awp prog 0 77 (cL (cR (cR (cR (cR (cL (cR (cL (cR (cR (cB f183))))))))))) (Out 0 nrm (z1066 qx vx6_1) r) (z1065 qx vx6_1) := by
  unfold z1064 at hF
  refine awp_seq (bE hF fun vc1 h17 hF => awp_region (aR 1 (aX (x_idxS h17) (aR 1 (aE ?_)))))
  refine cE hF (fun h18 hF => ?_) fun h18 hF => ?_
  · exact tT h18 (gR 3 (oO hF [] [] rfl))
  · exact tF h18 (awp_skip (oO hF [] [] rfl))

def z1045 (qx : List UInt8) (r : Int) : TV × Mem := (.tup [.one (.i r), .one (.nili)], ⟨[], []⟩)

theorem z1046 {qx : List UInt8} {r} (hF : z1044 qx = some r) : Holds prog 183 [.c (.s qx)] ⟨[], []⟩ (Is (z1045 qx r)) := by
  unfold z1044 at hF
  refine hW f183 77 0 0 ?_
  refine sR 2 (sR 3 (awp_seq (awp_seq (awp_to (st' := z1048 qx) (oT [] []) ?_))))
  refine bE hF fun vx1 h2 hF => awp_sub (z1050 qx h2) ?_
  refine cE hF (fun h3 hF => ?_) fun h3 hF => ?_
  · refine tT h3 (sR 2 (awp_seq (awp_to (st' := z1052 qx) (oT [] []) ?_)))
    refine bE hF fun vx3_1 h11 hF => awp_sub (z1054 qx h11) ?_
    refine sR 1 (awp_seq (awp_seq (awp_region (aR 1 (aBs (s := vx3_1) rfl ?_)))))
    refine aL (encI .u8) (bytesD vx3_1) (aR 1 (aE ?_))
    refine awp_block (awp_to (st' := z1060 qx vx3_1 (0, 0)) (oT [] []) ?_)
    refine bE hF fun vx6_1 h16 hF => awp_sub (awp_loop' (z1060 qx vx3_1) z1062 (z1061 qx vx3_1) (by intro x; exact fun h => nomatch h) h16 (z1063 qx vx3_1)) ?_
    refine awp_seq (awp_to (st' := z1065 qx vx6_1) (oT [] []) ?_)
    refine bE hF fun vx7_1 h19 hF => awp_sub (z1067 qx vx6_1 h19) ?_
    exact sR 3 (awp_ret (oF hF [] []))
  · refine tF h3 (awp_skip (awp_seq (bE hF fun vr h20 hF => awp_region (aR 1 (aC (z1072 h20) [] [] [] (aR 5 (aE ?_)))))))
    exact sR 4 (awp_ret (oF hF [] []))

/-! ### strconv.Atoi -/
def z1068 (qs : List UInt8) (r : Int) : TV × Mem := (.tup [.one (.i r), .one (.nili)], ⟨[], []⟩)

theorem z1069 {qs : List UInt8} {r} (hF : z1043 qs = some r) : Holds prog 158 [.c (.s qs)] ⟨[], []⟩ (Is (z1068 qs r)) := by
  unfold z1043 at hF
  refine hW f158 18 0 0 ?_
  refine sR 2 (awp_seq (bE hF fun vr1 h1 hF => awp_region (aR 1 (aC (z1046 h1) [] [] [] (aR 5 (aE ?_))))))
  refine awp_seq (awp_seq (awp_region (aR 1 (aS (does_nilI (op := .neq) (c := false) rfl (.inr ⟨rfl, rfl⟩) (by kernel_rfl) (by kernel_rfl)) ?_))))
  refine aE ?_
  exact tF rfl (awp_skip (sR 3 (awp_ret (oF hF [] []))))

/-! ### beaconfleet/base.Number -/
def z68 (qs : List UInt8) (qdigits : Int) (vr : List UInt8) : Bool → St
  | vx => Mem.st ⟨[], []⟩ (tl [(0, .c (.s qs)), (6, .c (.s vr)), (36, .b vx)]) 0

def z67 (qs : List UInt8) (qdigits : Int) (vr : List UInt8) : St := Mem.st ⟨[], []⟩ (tl [(0, .c (.s qs)), (1, .i qdigits), (6, .c (.s vr))]) 0

theorem z69 (qs : List UInt8) (qdigits : Int) (vr : List UInt8) {r} (hF : z66 qs qdigits vr = some r) : Awp prog 0 61 (cL (cL (cR (cR (cB f128))))) (Out 0 nrm (z68 qs qdigits vr) r) (z67 qs qdigits vr) := by
  unfold z66 at hF
  refine cE hF (fun h2 hF => ?_) fun h2 hF => ?_
  · refine awp_region (aR 1 (aB h2 (aR 23 (aE ?_))))
    exact oO hF [] [] rfl
  · refine cE hF (fun h3 hF => ?_) fun h3 hF => ?_
    · refine awp_region (aR 1 (aB h2 (aR 4 (aB h3 (aR 18 (aE ?_))))))
      exact oO hF [] [] rfl
    · refine bE hF fun vc h4 hF => cE hF (fun h5 hF => ?_) fun h5 hF => ?_
      · refine cE hF (fun h6 hF => ?_) fun h6 hF => ?_
        · refine awp_region (aR 1 (aB h2 (aR 4 (aB h3 (aR 3 (aX (x_idxS h4) (aB h5 (aR 3 (aB h6 (aR 9 (aE ?_)))))))))))
          exact oO hF [] [] rfl
        · refine awp_region (aR 1 (aB h2 (aR 4 (aB h3 (aR 3 (aX (x_idxS h4) (aB h5 (aR 3 (aB h6 (aR 9 (aE ?_)))))))))))
          exact oO hF [] [] rfl
      · refine awp_region (aR 1 (aB h2 (aR 4 (aB h3 (aR 3 (aX (x_idxS h4) (aB h5 (aR 13 (aE ?_)))))))))
        exact oO hF [] [] rfl

def z77 (qs : List UInt8) (vr : List UInt8) (vx2 : Int) : Bool → St
  | vx4 => Mem.st ⟨[], []⟩ (tl [(0, .c (.s qs)), (6, .c (.s vr)), (38, .i (vr.length : Int)), (39, .i vx2), (51, .b vx4)]) 0

def z76 (qs : List UInt8) (vr : List UInt8) (vx2 : Int) : St := Mem.st ⟨[], []⟩ (tl [(0, .c (.s qs)), (6, .c (.s vr)), (7, .i vx2), (38, .i (vr.length : Int)), (39, .i vx2)]) 0

theorem z78 (qs : List UInt8) (vr : List UInt8) (vx2 : Int) {r} (hF : z75 vr vx2 = some r) : Awp prog 0 61 (cL (cR (cL (cL (cR (cR (cL (cL (cR (cL (cR (cR (cR (cB f128)))))))))))))) (Out 0 nrm (z77 qs vr vx2) r) (z76 qs vr vx2) := by
  unfold z75 at hF
  refine bE hF fun vc2 h10 hF => cE hF (fun h11 hF => ?_) fun h11 hF => ?_
  · refine awp_region (aR 2 (aX (x_idxS h10) (aB h11 (aR 6 (aE ?_)))))
    exact oO hF [] [] rfl
  · refine awp_region (aR 2 (aX (x_idxS h10) (aB h11 (aR 3 (aX (x_idxS h10) (aR 2 (aE ?_)))))))
    exact oO hF [] [] rfl

def z73 : Unit ⊕ Unit → AEx
  | .inl _ => .exit 0
  | .inr _ => .ret

def z72 (qs : List UInt8) (vr : List UInt8) : Unit ⊕ Unit → St
  | .inl _ => Mem.st ⟨[], []⟩ (tl [(0, .c (.s qs))]) 0
  | .inr _ => Mem.st ⟨[], []⟩ (tl [(4, .i 0), (5, .b false)]) 0

def z71 (qs : List UInt8) (vr : List UInt8) : Int → St
  | vx2 => Mem.st ⟨[], []⟩ (tl [(0, .c (.s qs)), (6, .c (.s vr)), (38, .i (vr.length : Int)), (39, .i vx2)]) 0

theorem z74 (qs : List UInt8) (vr : List UInt8) (vx2 : Int) (r : (Int) ⊕ (Unit ⊕ Unit)) (hF : z70 vr vx2 = some r) : Awp prog 0 61 (cL (cL (cR (cL (cR (cR (cR (cB f128)))))))) (Out 0 (kk z73) (SS (z71 qs vr) (z72 qs vr)) r) (z71 qs vr vx2) := by
  unfold z70 at hF
  refine sR 1 (awp_seq (cE hF (fun h9 hF => ?_) fun h9 hF => ?_))
  · refine tT h9 (awp_skip (awp_seq (awp_block (sR 2 (awp_seq (awp_to (st' := z76 qs vr vx2) (oT [] []) ?_))))))
    refine bE hF fun vx4_1 h12 hF => awp_sub (z78 qs vr vx2 h12) ?_
    refine cE hF (fun h13 hF => ?_) fun h13 hF => ?_
    · exact tT h13 (sR 2 (awp_ret (oO hF [] [] rfl)))
    · exact tF h13 (awp_skip (gR 2 (oO hF [] [] rfl)))
  · refine tF h9 (awp_exit ?_)
    exact oO hF [] [] rfl

def z64 (qs : List UInt8) (qdigits : Int) (r : Int × Bool) : TV × Mem := (.tup [.one (.i r.1), .one (.t r.2)], ⟨[], []⟩)

theorem z65 {qs : List UInt8} {qdigits : Int} {r} (hF : z63 qs qdigits = some r) : Holds prog 128 [.c (.s qs), .i qdigits] ⟨[], []⟩ (Is (z64 qs qdigits r)) := by
  unfold z63 at hF
  refine hW f128 61 0 0 ?_
  refine sR 2 (awp_seq (bE hF fun vr h1 hF => awp_region (aR 1 (aC (z1220 h1) [] [] [] (aR 1 (aE ?_))))))
  refine awp_seq (awp_seq (awp_to (st' := z67 qs qdigits vr) (oT [] []) ?_))
  refine bE hF fun vx1 h7 hF => awp_sub (z69 qs qdigits vr h7) ?_
  refine cE hF (fun h8 hF => ?_) fun h8 hF => ?_
  · exact tT h8 (sR 2 (awp_ret (oF hF [] [])))
  · refine tF h8 (awp_skip (awp_seq (sR 3 (awp_block (awp_to (st' := z71 qs vr 0) (oT [] []) ?_)))))
    refine bE hF fun x h14 hF => ?_
    rcases x with _ | _
    · refine awp_sub (awp_loop' (z71 qs vr) z73 (z72 qs vr) (by intro x; rcases x with x | x <;> exact fun h => nomatch h) h14 (z74 qs vr)) ?_
      refine awp_seq (bE hF fun vr1 h15 hF => awp_region (aR 1 (aC (z1069 h15) [] [] [] (aR 5 (aE ?_)))))
      refine awp_seq (aD ?_)
      refine dR 2 ?_
      refine dS (U := []) (stable_nilI (op := .eql) (c := true) rfl (.inl ⟨rfl, rfl⟩) (by kernel_rfl) (by kernel_rfl)) ?_
      refine dR 2 ?_
      refine dE ?_
      exact awp_ret (oF hF [] [])
    · refine awp_sub (awp_loop' (z71 qs vr) z73 (z72 qs vr) (by intro x; rcases x with x | x <;> exact fun h => nomatch h) h14 (z74 qs vr)) ?_
      exact oF hF [] []

/-! ### beaconfleet/base.Numbers -/
def z85 : (List Int) ⊕ Unit → AEx
  | .inl _ => .exit 0
  | .inr _ => .ret

def z84 (qwords : List (List UInt8)) (qdigits : Int) : (List Int) ⊕ Unit → St
  | .inl vout1 => Mem.st ⟨[(1, ⟨3, 1, List.map (encI .i64) vout1⟩)], []⟩ (tl [(6, .c (.own 1 none))]) 2
  | .inr _ => Mem.st ⟨[], []⟩ (tl [(4, .c (.nil)), (5, .b false)]) 1

def z83 (qwords : List (List UInt8)) (qdigits : Int) : (List Int) × Int → St
  | (vout, vx) => Mem.st ⟨[(1, ⟨3, 1, List.map (encI .i64) vout⟩)], []⟩ (tl [(1, .i qdigits), (6, .c (.own 1 none)), (11, .c (.l encS qwords)), (12, .i (qwords.length : Int)), (13, .i vx)]) 2

theorem z86 (qwords : List (List UInt8)) (qdigits : Int) (s : (List Int) × Int) (r : ((List Int) × Int) ⊕ ((List Int) ⊕ Unit)) (hF : z82 qwords qdigits s = some r) : Awp prog 1 31 (cL (cL (cR (cL (cR (cR (cB f84))))))) (Out 1 (kk z85) (SS (z83 qwords qdigits) (z84 qwords qdigits)) r) (z83 qwords qdigits s) := by
  obtain ⟨vout, vx⟩ := s
  unfold z82 at hF
  refine sR 1 (awp_seq (cE hF (fun h1 hF => ?_) fun h1 hF => ?_))
  · refine tT h1 (awp_skip (awp_seq (awp_block (awp_seq (bE hF fun vy1 h2 hF => awp_region (aX (x_idx encS h2) (aR 2 (aE ?_))))))))
    refine awp_seq (bE hF fun x h3 hF => ?_)
    obtain ⟨vr2_1, vr3_1⟩ := x
    refine awp_region (aR 2 (aC (z65 h3) [] [] [] (aR 5 (aE ?_))))
    refine awp_seq (sR 2 (cE hF (fun h4 hF => ?_) fun h4 hF => ?_))
    · exact tT h4 (sR 2 (awp_ret (oO hF [] [] rfl)))
    · refine tF h4 (awp_skip (gE hF fun h5 hF => ?_))
      refine awp_region (aR 3 (aX (x_app (encI .i64) 1 h5) (aR 1 (aE ?_))))
      exact gR 2 (oO hF [(1, 17002)] [] rfl)
  · refine tF h1 (awp_exit ?_)
    exact oO hF [] [] rfl

def z80 (qwords : List (List UInt8)) (qdigits : Int) (r : (List Int) × Bool) : TV × Mem := (.tup [.one (.own 1 none), .one (.t r.2)], ⟨[(1, ⟨3, 1, List.map (encI .i64) r.1⟩)], []⟩)

theorem z81 {qwords : List (List UInt8)} {qdigits : Int} {r} (hF : z79 qwords qdigits = some r) : Holds prog 84 [.c (.own 0 none), .i qdigits] ⟨[(0, ⟨9, 1, List.map encS qwords⟩)], []⟩ (Is (z80 qwords qdigits r)) := by
  unfold z79 at hF
  refine hW f84 31 1 1 ?_
  refine sR 2 (awp_to (oT (m := ⟨[], []⟩) (ts := [(0, .c (.l encS qwords)), (1, .i qdigits)]) (nx := 1) [] []) ?_)
  refine sR 1 (awp_seq (awp_seq (awp_region (aR 1 (aL encS qwords (aR 1 (aE ?_)))))))
  refine awp_block (awp_to (st' := z83 qwords qdigits ([], 0)) (oT [] [1]) ?_)
  refine bE hF fun x h6 hF => ?_
  rcases x with vout1_1 | _
  · refine awp_sub (awp_loop' (z83 qwords qdigits) z85 (z84 qwords qdigits) (by intro x; rcases x with x | x <;> exact fun h => nomatch h) h6 (z86 qwords qdigits)) ?_
    exact sR 3 (awp_ret (oF hF [] []))
  · refine awp_sub (awp_loop' (z83 qwords qdigits) z85 (z84 qwords qdigits) (by intro x; rcases x with x | x <;> exact fun h => nomatch h) h6 (z86 qwords qdigits)) ?_
    exact oF hF [] [1]

/-! ### beaconfleet/base.Version -/
def z110 (qv : api_Version) : Bool → St
  | vx => Mem.st ⟨[], []⟩ (tl [(2, .b vx)]) 0

def z109 (qv : api_Version) : St := Mem.st ⟨[], [(0, [.i qv.Major, .i qv.Minor, .i qv.Patch])]⟩ (tl [(1, .c (.box 0 0))]) 1

theorem z111 (qv : api_Version) {r} (hF : z108 qv = some r) : Awp prog 0 19 (cL (cR (cB f86))) (Out 0 nrm (z110 qv) r) (z109 qv) := by
  unfold z108 at hF
  refine bE hF fun vr h1 hF => cE hF (fun h2 hF => ?_) fun h2 hF => ?_
  · refine bE hF fun vr1 h3 hF => cE hF (fun h4 hF => ?_) fun h4 hF => ?_
    · refine bE hF fun vr2 h5 hF => awp_region (aR 2 (aC (z88 h1) [] [] [] (aB h2 (aR 3 (aC (z88 h3) [] [] [] (aB h4 (aR 4 (aC (z88 h5) [] [] [] (aR 3 (aE ?_))))))))))
      exact oO hF [] [] rfl
    · refine awp_region (aR 2 (aC (z88 h1) [] [] [] (aB h2 (aR 3 (aC (z88 h3) [] [] [] (aB h4 (aR 8 (aE ?_))))))))
      exact oO hF [] [] rfl
  · refine awp_region (aR 2 (aC (z88 h1) [] [] [] (aB h2 (aR 13 (aE ?_)))))
    exact oO hF [] [] rfl

def z106 (qv : api_Version) (r : Bool) : TV × Mem := (.b r, ⟨[], []⟩)

theorem z107 {qv : api_Version} {r} (hF : z105 qv = some r) : Holds prog 86 [.v (.agg [.i qv.Major, .i qv.Minor, .i qv.Patch])] ⟨[], []⟩ (Is (z106 qv r)) := by
  unfold z105 at hF
  refine hW f86 19 0 0 ?_
  refine sR 2 (awp_seq (awp_to (st' := z109 qv) (oT [] []) ?_))
  refine bE hF fun vx1 h6 hF => awp_sub (z111 qv h6) ?_
  exact awp_ret (oF hF [] [])

/-! ### beaconfleet/campaign.ParseVersion -/
def z140 (vr : List Int) (vr1_1 : Bool) : Bool → St
  | vx => Mem.st ⟨[], [(0, [.i 0, .i 0, .i 0])]⟩ (tl [(2, .c (.box 0 0)), (4, .c (.l (encI .i64) vr)), (19, .b vx)]) 1

def z139 (vr : List Int) (vr1_1 : Bool) : St := Mem.st ⟨[], [(0, [.i 0, .i 0, .i 0])]⟩ (tl [(2, .c (.box 0 0)), (4, .c (.l (encI .i64) vr)), (5, .b vr1_1)]) 1

theorem z141 (vr : List Int) (vr1_1 : Bool) {r} (hF : z138 vr vr1_1 = some r) : Awp prog 0 36 (cL (cL (cR (cR (cB f44))))) (Out 0 nrm (z140 vr vr1_1) r) (z139 vr vr1_1) := by
  unfold z138 at hF
  refine cE hF (fun h3 hF => ?_) fun h3 hF => ?_
  · refine awp_region (aR 1 (aB h3 (aR 5 (aE ?_))))
    exact oO hF [] [] rfl
  · refine awp_region (aR 1 (aB h3 (aR 2 (aL (encI .i64) vr (aR 2 (aE ?_))))))
    exact oO hF [] [] rfl

def z136 (qs : List UInt8) (r : api_Version × Int) : TV × Mem := (.tup [.agg [.i r.1.Major, .i r.1.Minor, .i r.1.Patch], .one (.i r.2)], ⟨[], []⟩)

theorem z137 {qs : List UInt8} {r} (hF : z135 qs = some r) : Holds prog 44 [.c (.s qs)] ⟨[], []⟩ (Is (z136 qs r)) := by
  unfold z135 at hF
  refine hW f44 36 0 0 ?_
  refine sR 2 (awp_seq (bE hF fun vr1 h1 hF => bE hF fun x h2 hF => ?_))
  obtain ⟨vr, vr1_1⟩ := x
  refine awp_region (aR 1 (aC (z1217 h1) [] [] [] (aC (z81 h2) [(0, 3000)] [] [] (aR 5 (aE ?_)))))
  refine awp_to (oT (m := ⟨[], [(0, [.i 0, .i 0, .i 0])]⟩) (ts := [(2, .c (.box 0 0)), (4, .c (.l (encI .i64) vr)), (5, .b vr1_1)]) (nx := 1) [] []) ?_
  refine awp_seq (awp_seq (awp_to (st' := z139 vr vr1_1) (oT [] []) ?_))
  refine bE hF fun vx1 h4 hF => awp_sub (z141 vr vr1_1 h4) ?_
  refine cE hF (fun h5 hF => ?_) fun h5 hF => ?_
  · exact tT h5 (sR 3 (awp_ret (oF hF [] [])))
  · refine tF h5 (awp_skip (awp_seq (bE hF fun vy h6 hF => bE hF fun vy1 h7 hF => bE hF fun vy2 h8 hF => aD ?_)))
    refine dR 1 ?_
    refine dX (x_idx (encI .i64) h6) ?_
    refine dR 2 ?_
    refine dX (x_idx (encI .i64) h7) ?_
    refine dR 2 ?_
    refine dX (x_idx (encI .i64) h8) ?_
    refine dR 4 ?_
    refine dE ?_
    refine awp_seq (awp_seq (bE hF fun vr3 h9 hF => awp_region (aR 1 (aC (z107 h9) [] [] [] (aR 1 (aE ?_))))))
    refine cE hF (fun h10 hF => ?_) fun h10 hF => ?_
    · exact tT h10 (sR 3 (awp_ret (oF hF [] [])))
    · exact tF h10 (awp_skip (sR 3 (awp_ret (oF hF [] []))))

/-! ### beaconfleet/place.Cell -/
def z374 (qs : api_Spot) (qlevel : Int) : Bool → St
  | vx => Mem.st ⟨[], [(0, [.i qs.X, .i qs.Y])]⟩ (tl [(1, .i qlevel), (2, .c (.box 0 0)), (16, .b vx)]) 1

def z373 (qs : api_Spot) (qlevel : Int) : St := Mem.st ⟨[], [(0, [.i qs.X, .i qs.Y])]⟩ (tl [(1, .i qlevel), (2, .c (.box 0 0))]) 1

theorem z375 (qs : api_Spot) (qlevel : Int) {r} (hF : z372 qs qlevel = some r) : Awp prog 0 47 (cL (cL (cR (cB f45)))) (Out 0 nrm (z374 qs qlevel) r) (z373 qs qlevel) := by
  unfold z372 at hF
  refine bE hF fun vr2 h1 hF => cE hF (fun h2 hF => ?_) fun h2 hF => ?_
  · refine awp_region (aR 1 (aC (z576 h1) [] [] [] (aB h2 (aR 4 (aE ?_)))))
    exact oO hF [] [] rfl
  · refine bE hF fun vr h3 hF => awp_region (aR 1 (aC (z576 h1) [] [] [] (aB h2 (aR 2 (aC (z88 h3) [] [] [] (aR 1 (aE ?_)))))))
    exact oO hF [] [] rfl

def z379 : (List Int) → AEx
  | _ => .exit 0

def z378 (qs : api_Spot) (qlevel : Int) : (List Int) → St
  | vout1 => Mem.st ⟨[(0, ⟨5, 1, List.map (encI .u8) vout1⟩)], []⟩ (tl [(6, .c (.own 0 none))]) 1

def z377 (qs : api_Spot) (qlevel : Int) : (List Int) × Int × Int → St
  | (vout, vlong, vx2) => Mem.st ⟨[(0, ⟨5, 1, List.map (encI .u8) vout⟩)], []⟩ (tl [(6, .c (.own 0 none)), (7, .i (IntKind.wrap .i64 (qs.X - (-16384)))), (8, .i (IntKind.wrap .i64 (qs.Y - (-16384)))), (9, .i vlong), (23, .i qlevel), (24, .i vx2)]) 1

theorem z380 (qs : api_Spot) (qlevel : Int) (s : (List Int) × Int × Int) (r : ((List Int) × Int × Int) ⊕ ((List Int))) (hF : z376 qs qlevel s = some r) : Awp prog 0 47 (cL (cL (cR (cL (cR (cR (cR (cR (cB f45))))))))) (Out 0 (kk z379) (SS (z377 qs qlevel) (z378 qs qlevel)) r) (z377 qs qlevel s) := by
  obtain ⟨vout, vlong, vx2⟩ := s
  unfold z376 at hF
  refine sR 1 (awp_seq (cE hF (fun h6 hF => ?_) fun h6 hF => ?_))
  · refine tT h6 (awp_skip (awp_seq (awp_block (sR 3 (gE hF fun h7 hF => ?_)))))
    refine gE hF fun h8 hF => ?_
    refine aD ?_
    refine dR 3 ?_
    refine dX (x_quo h7) ?_
    refine dR 5 ?_
    refine dX (x_quo h7) ?_
    refine dR 5 ?_
    refine dX (x_app (encI .u8) 0 h8) ?_
    refine dR 1 ?_
    refine dE ?_
    exact gR 2 (oO hF [(0, 19001)] [] rfl)
  · refine tF h6 (awp_exit ?_)
    exact oO hF [] [] rfl

def z370 (qs : api_Spot) (qlevel : Int) (r : (List UInt8) × Int) : TV × Mem := (.tup [.one (.s r.1), .one (.i r.2)], ⟨[], []⟩)

theorem z371 {qs : api_Spot} {qlevel : Int} {r} (hF : z369 qs qlevel = some r) : Holds prog 45 [.v (.agg [.i qs.X, .i qs.Y]), .i qlevel] ⟨[], []⟩ (Is (z370 qs qlevel r)) := by
  unfold z369 at hF
  refine hW f45 47 0 0 ?_
  refine sR 3 (awp_seq (awp_seq (awp_to (st' := z373 qs qlevel) (oT [] []) ?_)))
  refine bE hF fun vx1 h4 hF => awp_sub (z375 qs qlevel h4) ?_
  refine cE hF (fun h5 hF => ?_) fun h5 hF => ?_
  · exact tT h5 (sR 2 (awp_ret (oF hF [] [])))
  · refine tF h5 (awp_skip (sR 1 (awp_seq (aD ?_))))
    refine dR 9 ?_
    refine dE ?_
    refine awp_seq (sR 2 (awp_block (awp_to (st' := z377 qs qlevel ([], 32768, 0)) (oT [] [0]) ?_)))
    refine bE hF fun vout1_1 h9 hF => awp_sub (awp_loop' (z377 qs qlevel) z379 (z378 qs qlevel) (by intro x; exact fun h => nomatch h) h9 (z380 qs qlevel)) ?_
    refine awp_seq (awp_region (aR 1 (aSt (xs := vout1_1) rfl rfl ?_)))
    refine aR 2 (aE ?_)
    exact awp_ret (oF hF [] [])

/-! ### beaconfleet/command.CheckLetter -/
def z171 (ql : api_Letter) : Bool → St
  | vx => Mem.st ⟨[], [(0, [.s ql.Id, .s ql.Slot, .s ql.Body, .i ql.Prio, .i ql.At, .i ql.Until])]⟩ (tl [(1, .c (.box 0 0)), (3, .b vx)]) 1

def z170 (ql : api_Letter) : St := Mem.st ⟨[], [(0, [.s ql.Id, .s ql.Slot, .s ql.Body, .i ql.Prio, .i ql.At, .i ql.Until])]⟩ (tl [(1, .c (.box 0 0))]) 1

theorem z172 (ql : api_Letter) {r} (hF : z169 ql = some r) : Awp prog 0 51 (cL (cL (cL (cR (cB f91))))) (Out 0 nrm (z171 ql) r) (z170 ql) := by
  unfold z169 at hF
  refine bE hF fun vr h1 hF => cE hF (fun h2 hF => ?_) fun h2 hF => ?_
  · refine awp_region (aR 2 (aC (z46 h1) [] [] [] (aB h2 (aR 12 (aE ?_)))))
    exact oO hF [] [] rfl
  · refine cE hF (fun h3 hF => ?_) fun h3 hF => ?_
    · refine bE hF fun vr1 h4 hF => awp_region (aR 2 (aC (z46 h1) [] [] [] (aB h2 (aR 3 (aB h3 (aR 3 (aC (z46 h4) [] [] [] (aR 4 (aE ?_)))))))))
      exact oO hF [] [] rfl
    · refine awp_region (aR 2 (aC (z46 h1) [] [] [] (aB h2 (aR 3 (aB h3 (aR 8 (aE ?_)))))))
      exact oO hF [] [] rfl

def z175 (ql : api_Letter) : Bool → St
  | vx2 => Mem.st ⟨[], []⟩ (tl [(29, .b vx2)]) 0

def z174 (ql : api_Letter) : St := Mem.st ⟨[], [(0, [.s ql.Id, .s ql.Slot, .s ql.Body, .i ql.Prio, .i ql.At, .i ql.Until])]⟩ (tl [(1, .c (.box 0 0))]) 1

theorem z176 (ql : api_Letter) {r} (hF : z173 ql = some r) : Awp prog 0 51 (cL (cR (cR (cR (cR (cR (cR (cL (cL (cR (cB f91))))))))))) (Out 0 nrm (z175 ql) r) (z174 ql) := by
  unfold z173 at hF
  refine bE hF fun vr3 h10 hF => cE hF (fun h11 hF => ?_) fun h11 hF => ?_
  · refine awp_region (aR 2 (aCb (z88 h10) [] [] [] h11 ?_))
    refine aR 19 (aE ?_)
    exact oO hF [] [] rfl
  · refine bE hF fun vr1_1 h12 hF => cE hF (fun h13 hF => ?_) fun h13 hF => ?_
    · refine awp_region (aR 2 (aCb (z88 h10) [] [] [] h11 ?_))
      refine aR 3 (aC (z62 h12) [] [] [] (aB h13 (aR 14 (aE ?_))))
      exact oO hF [] [] rfl
    · refine cE hF (fun h14 hF => ?_) fun h14 hF => ?_
      · refine awp_region (aR 2 (aCb (z88 h10) [] [] [] h11 ?_))
        refine aR 3 (aC (z62 h12) [] [] [] (aB h13 (aR 6 (aB h14 (aR 7 (aE ?_))))))
        exact oO hF [] [] rfl
      · refine awp_region (aR 2 (aCb (z88 h10) [] [] [] h11 ?_))
        refine aR 3 (aC (z62 h12) [] [] [] (aB h13 (aR 6 (aB h14 (aR 7 (aE ?_))))))
        exact oO hF [] [] rfl

def z167 (ql : api_Letter) (r : Int) : TV × Mem := (.i r, ⟨[], []⟩)

theorem z168 {ql : api_Letter} {r} (hF : z166 ql = some r) : Holds prog 91 [.v (.agg [.s ql.Id, .s ql.Slot, .s ql.Body, .i ql.Prio, .i ql.At, .i ql.Until])] ⟨[], []⟩ (Is (z167 ql r)) := by
  unfold z166 at hF
  refine hW f91 51 0 0 ?_
  refine sR 2 (awp_seq (awp_block (awp_seq (awp_to (st' := z170 ql) (oT [] []) ?_))))
  refine bE hF fun vx1 h5 hF => awp_sub (z172 ql h5) ?_
  refine cE hF (fun h6 hF => ?_) fun h6 hF => ?_
  · exact tT h6 (sR 1 (awp_ret (oF hF [] [])))
  · refine tF h6 (sR 5 (cE hF (fun h7 hF => ?_) fun h7 hF => ?_))
    · exact tT h7 (sR 1 (awp_ret (oF hF [] [])))
    · refine tF h7 (awp_seq (bE hF fun vr2 h8 hF => awp_region (aR 2 (aC (z95 h8) [] [] [] (aR 2 (aE ?_))))))
      refine cE hF (fun h9 hF => ?_) fun h9 hF => ?_
      · exact tT h9 (sR 1 (awp_ret (oF hF [] [])))
      · refine tF h9 (awp_seq (awp_to (st' := z174 ql) (oT [] []) ?_))
        refine bE hF fun vx2_1 h15 hF => awp_sub (z176 ql h15) ?_
        refine cE hF (fun h16 hF => ?_) fun h16 hF => ?_
        · exact tT h16 (sR 1 (awp_ret (oF hF [] [])))
        · exact tF h16 (awp_skip (sR 1 (awp_ret (oF hF [] []))))

/-! ### beaconfleet/command.Order$1 -/
def z178 (qy : api_Letter) (qx : api_Letter) (r : Unit) : TV × Mem := (.b (decide (qy.Id = qx.Id)), ⟨[], [(0, [.s qx.Id, .s qx.Slot, .s qx.Body, .i qx.Prio, .i qx.At, .i qx.Until])]⟩)

theorem z179 {qy : api_Letter} {qx : api_Letter} {r} (hF : z177 qy qx = some r) : Holds prog 93 [.v (.agg [.s qy.Id, .s qy.Slot, .s qy.Body, .i qy.Prio, .i qy.At, .i qy.Until]), .c (.box 0 0)] ⟨[], [(0, [.s qx.Id, .s qx.Slot, .s qx.Body, .i qx.Prio, .i qx.At, .i qx.Until])]⟩ (Is (z178 qy qx r)) := by
  unfold z177 at hF
  refine hW f93 9 1 1 ?_
  exact sR 2 (sR 6 (awp_ret (oF hF [] [])))

/-! ### slices.IndexFunc[[]beaconfleet/api.Letter,beaconfleet/api.Letter] -/
def z887 : Unit ⊕ Int → AEx
  | .inl _ => .exit 0
  | .inr _ => .ret

def z886 (qs : List api_Letter) (qf : api_Letter) : Unit ⊕ Int → St
  | .inl _ => Mem.st ⟨[], [(0, [.s qf.Id, .s qf.Slot, .s qf.Body, .i qf.Prio, .i qf.At, .i qf.Until])]⟩ (tl []) 1
  | .inr vx1 => Mem.st ⟨[], [(0, [.s qf.Id, .s qf.Slot, .s qf.Body, .i qf.Prio, .i qf.At, .i qf.Until])]⟩ (tl [(4, .i vx1)]) 1

def z885 (qs : List api_Letter) (qf : api_Letter) : Int → St
  | vx => Mem.st ⟨[], [(0, [.s qf.Id, .s qf.Slot, .s qf.Body, .i qf.Prio, .i qf.At, .i qf.Until])]⟩ (tl [(0, .c (.l api_Letter.enc qs)), (1, .c (.fn 93 [0])), (7, .i (qs.length : Int)), (8, .i vx)]) 1

theorem z888 (qs : List api_Letter) (qf : api_Letter) (vx : Int) (r : (Int) ⊕ (Unit ⊕ Int)) (hF : z884 qs qf vx = some r) : Awp prog 1 19 (cL (cL (cR (cL (cR (cB f138)))))) (Out 1 (kk z887) (SS (z885 qs qf) (z886 qs qf)) r) (z885 qs qf vx) := by
  unfold z884 at hF
  refine sR 1 (awp_seq (cE hF (fun h1 hF => ?_) fun h1 hF => ?_))
  · refine tT h1 (awp_skip (awp_seq (awp_block (sR 2 (awp_seq (bE hF fun vy1 h2 hF => bE hF fun _ h3 hF => awp_region (aR 3 (aX (x_idx api_Letter.enc h2) (aR 1 (aC (z179 h3) [] [] [] (aE ?_)))))))))))
    refine cE hF (fun h4 hF => ?_) fun h4 hF => ?_
    · exact tT h4 (sR 2 (awp_ret (oO hF [] [] rfl)))
    · exact tF h4 (awp_skip (gR 2 (oO hF [] [] rfl)))
  · refine tF h1 (awp_exit ?_)
    exact oO hF [] [] rfl

def z882 (qs : List api_Letter) (qf : api_Letter) (r : Int) : TV × Mem := (.i r, ⟨[], [(0, [.s qf.Id, .s qf.Slot, .s qf.Body, .i qf.Prio, .i qf.At, .i qf.Until])]⟩)

theorem z883 {qs : List api_Letter} {qf : api_Letter} {r} (hF : z881 qs qf = some r) : Holds prog 138 [.c (.l api_Letter.enc qs), .c (.fn 93 [0])] ⟨[], [(0, [.s qf.Id, .s qf.Slot, .s qf.Body, .i qf.Prio, .i qf.At, .i qf.Until])]⟩ (Is (z882 qs qf r)) := by
  unfold z881 at hF
  refine hW f138 19 1 1 ?_
  refine sR 1 (awp_seq (awp_seq (awp_region (aR 1 (aL api_Letter.enc qs (aR 1 (aE ?_)))))))
  refine awp_block (awp_to (st' := z885 qs qf 0) (oT [] []) ?_)
  refine bE hF fun x h5 hF => ?_
  rcases x with _ | vx1_1
  · refine awp_sub (awp_loop' (z885 qs qf) z887 (z886 qs qf) (by intro x; rcases x with x | x <;> exact fun h => nomatch h) h5 (z888 qs qf)) ?_
    exact sR 1 (awp_ret (oF hF [] []))
  · refine awp_sub (awp_loop' (z885 qs qf) z887 (z886 qs qf) (by intro x; rcases x with x | x <;> exact fun h => nomatch h) h5 (z888 qs qf)) ?_
    exact oF hF [] []

/-! ### slices.ContainsFunc[[]beaconfleet/api.Letter,beaconfleet/api.Letter] -/
def z824 (qs : List api_Letter) (qf : api_Letter) (r : Bool) : TV × Mem := (.b r, ⟨[], [(0, [.s qf.Id, .s qf.Slot, .s qf.Body, .i qf.Prio, .i qf.At, .i qf.Until])]⟩)

theorem z825 {qs : List api_Letter} {qf : api_Letter} {r} (hF : z823 qs qf = some r) : Holds prog 92 [.c (.l api_Letter.enc qs), .c (.fn 93 [0])] ⟨[], [(0, [.s qf.Id, .s qf.Slot, .s qf.Body, .i qf.Prio, .i qf.At, .i qf.Until])]⟩ (Is (z824 qs qf r)) := by
  unfold z823 at hF
  refine hW f92 9 1 1 ?_
  refine sR 1 (awp_seq (bE hF fun vr h1 hF => awp_region (aR 2 (aC (z883 h1) [] [] [] (aR 2 (aE ?_))))))
  exact awp_ret (oF hF [] [])

/-! ### slices.Clone[[]beaconfleet/api.Letter,beaconfleet/api.Letter] -/
def z738 (qs : List api_Letter) (r : List api_Letter) : TV × Mem := (.c (.own 0 none), ⟨[(0, ⟨109, 6, List.map api_Letter.enc r⟩)], []⟩)

theorem z739 {qs : List api_Letter} {r} (hF : z737 qs = some r) : Holds prog 94 [.c (.l api_Letter.enc qs)] ⟨[], []⟩ (Is (z738 qs r)) := by
  unfold z737 at hF
  refine gE hF fun h1 hF => ?_
  refine hW f94 8 0 0 ?_
  refine sR 1 (awp_seq (awp_seq (awp_region (aR 1 (aN api_Letter.enc qs (fun b hb => ?_) rfl)))))
  refine aE ?_
  cases b with
  | true =>
    obtain rfl := hb rfl
    exact tT rfl (sR 1 (awp_ret (oF hF [] [0])))
  | false =>
    refine tF rfl (awp_skip (awp_seq (awp_region (aR 2 (aX (x_app api_Letter.enc 3000 h1) (aR 1 (aE ?_)))))))
    exact awp_ret (oF hF [(0, 5000)] [])

/-! ### beaconfleet/command.byOrder -/
def z189 (qa : api_Letter) (qb : api_Letter) (r : Int) : TV × Mem := (.i r, ⟨[], []⟩)

theorem z190 {qa : api_Letter} {qb : api_Letter} {r} (hF : z188 qa qb = some r) : Holds prog 96 [.v (.agg [.s qa.Id, .s qa.Slot, .s qa.Body, .i qa.Prio, .i qa.At, .i qa.Until]), .v (.agg [.s qb.Id, .s qb.Slot, .s qb.Body, .i qb.Prio, .i qb.At, .i qb.Until])] ⟨[], []⟩ (Is (z189 qa qb r)) := by
  unfold z188 at hF
  refine hW f96 22 0 0 ?_
  refine sR 3 (awp_seq (bE hF fun vr h1 hF => bE hF fun vr1 h2 hF => bE hF fun _ h3 hF => bE hF fun vr2 h4 hF => aD ?_))
  refine dR 4 ?_
  refine dC (z144 h1) [] [] [] ?_
  refine dR 4 ?_
  refine dC (z144 h2) [] [] [] ?_
  refine dR 4 ?_
  refine dC (z1200 h3) [] [] [] ?_
  refine dR 1 ?_
  refine dC (z154 h4) [] [] [18000] ?_
  refine dR 1 ?_
  refine dE ?_
  exact awp_ret (oF hF [] [])

/-! ### slices.insertionSortCmpFunc[beaconfleet/api.Letter] -/
def z965 (qa : Int) (qb : Int) (vi : Int) (vl3 : List api_Letter) (vj1 : Int) : Bool → St
  | vx4 => Mem.st ⟨[(0, ⟨109, 6, List.map api_Letter.enc vl3⟩)], []⟩ (tl [(0, .c (.own 0 none)), (1, .i qa), (2, .i qb), (3, .c (.fn 96 [])), (8, .i vi), (9, .i vj1), (34, .b vx4)]) 1

def z964 (qa : Int) (qb : Int) (vi : Int) (vl3 : List api_Letter) (vj1 : Int) : St := Mem.st ⟨[(0, ⟨109, 6, List.map api_Letter.enc vl3⟩)], []⟩ (tl [(0, .c (.own 0 none)), (1, .i qa), (2, .i qb), (3, .c (.fn 96 [])), (8, .i vi), (9, .i vj1)]) 1

theorem z966 (qa : Int) (qb : Int) (vi : Int) (vl3 : List api_Letter) (vj1 : Int) {r} (hF : z963 qa vl3 vj1 = some r) : Awp prog 1 53 (cL (cL (cL (cL (cR (cL (cL (cR (cL (cL (cR (cB f167)))))))))))) (Out 1 nrm (z965 qa qb vi vl3 vj1) r) (z964 qa qb vi vl3 vj1) := by
  unfold z963 at hF
  refine cE hF (fun h2 hF => ?_) fun h2 hF => ?_
  · refine bE hF fun vy15 h3 hF => bE hF fun vy16 h4 hF => bE hF fun vr3_3 h5 hF => aD ?_
    refine dR 2 ?_
    refine dB h2 ?_
    refine dR 4 ?_
    refine dX (x_idxO api_Letter.enc 0 h3) ?_
    refine dX (x_ldE api_Letter.enc h3) ?_
    refine dR 3 ?_
    refine dX (x_idxO api_Letter.enc 0 h4) ?_
    refine dX (x_ldE api_Letter.enc h4) ?_
    refine dC (z190 h5) [] [] [] ?_
    refine dR 2 ?_
    refine dE ?_
    exact oO hF [] [] rfl
  · refine aD ?_
    refine dR 2 ?_
    refine dB h2 ?_
    refine dR 14 ?_
    refine dE ?_
    exact oO hF [] [] rfl

def z961 : (List api_Letter) → AEx
  | _ => .exit 2

def z960 (qa : Int) (qb : Int) (vi : Int) : (List api_Letter) → St
  | vl4 => Mem.st ⟨[(0, ⟨109, 6, List.map api_Letter.enc vl4⟩)], []⟩ (tl [(0, .c (.own 0 none)), (1, .i qa), (2, .i qb), (3, .c (.fn 96 [])), (8, .i vi)]) 1

def z959 (qa : Int) (qb : Int) (vi : Int) : (List api_Letter) × Int → St
  | (vl3, vj1) => Mem.st ⟨[(0, ⟨109, 6, List.map api_Letter.enc vl3⟩)], []⟩ (tl [(0, .c (.own 0 none)), (1, .i qa), (2, .i qb), (3, .c (.fn 96 [])), (8, .i vi), (9, .i vj1)]) 1

theorem z962 (qa : Int) (qb : Int) (vi : Int) (s : (List api_Letter) × Int) (r : ((List api_Letter) × Int) ⊕ ((List api_Letter))) (hF : z958 qa s = some r) : Awp prog 1 53 (cL (cL (cR (cL (cL (cR (cL (cL (cR (cB f167)))))))))) (Out 1 (kk z961) (SS (z959 qa qb vi) (z960 qa qb vi)) r) (z959 qa qb vi s) := by
  obtain ⟨vl3, vj1⟩ := s
  unfold z958 at hF
  refine awp_seq (awp_seq (awp_to (st' := z964 qa qb vi vl3 vj1) (oT [] []) ?_))
  refine bE hF fun vx4_1 h6 hF => awp_sub (z966 qa qb vi vl3 vj1 h6) ?_
  refine cE hF (fun h7 hF => ?_) fun h7 hF => ?_
  · refine tT h7 (awp_skip (awp_seq (awp_block (bE hF fun vy17 h8 hF => bE hF fun vy18 h9 hF => bE hF fun vy19 h10 hF => aDw [0] ?_))))
    refine dR 8 ?_
    refine dI api_Letter.enc 0 h8 rfl ?_
    refine dX (x_ldE api_Letter.enc h8) ?_
    refine dR 2 ?_
    refine dI api_Letter.enc 0 h9 rfl ?_
    refine dX (x_ldE api_Letter.enc h9) ?_
    refine dI api_Letter.enc 0 h9 rfl ?_
    refine dW api_Letter.enc vy17 h9 rfl ?_
    refine dI api_Letter.enc 0 h10 rfl ?_
    refine dW api_Letter.enc vy18 h10 rfl ?_
    refine dE ?_
    exact gR 3 (oO hF [] [] rfl)
  · refine tF h7 (awp_exit ?_)
    exact oO hF [] [] rfl

def z956 : (List api_Letter) → AEx
  | _ => .exit 0

def z955 (qa : Int) (qb : Int) : (List api_Letter) → St
  | vl5 => Mem.st ⟨[(0, ⟨109, 6, List.map api_Letter.enc vl5⟩)], []⟩ (tl []) 1

def z954 (qa : Int) (qb : Int) : (List api_Letter) × Int → St
  | (vl, vi) => Mem.st ⟨[(0, ⟨109, 6, List.map api_Letter.enc vl⟩)], []⟩ (tl [(0, .c (.own 0 none)), (1, .i qa), (2, .i qb), (3, .c (.fn 96 [])), (8, .i vi)]) 1

theorem z957 (qa : Int) (qb : Int) (s : (List api_Letter) × Int) (r : ((List api_Letter) × Int) ⊕ ((List api_Letter))) (hF : z953 qa qb s = some r) : Awp prog 1 53 (cL (cL (cR (cB f167)))) (Out 1 (kk z956) (SS (z954 qa qb) (z955 qa qb)) r) (z954 qa qb s) := by
  obtain ⟨vl, vi⟩ := s
  unfold z953 at hF
  refine awp_seq (sR 3 (cE hF (fun h1 hF => ?_) fun h1 hF => ?_))
  · refine tT h1 (awp_skip (awp_seq (awp_block (sR 2 (awp_block (awp_to (st' := z959 qa qb vi (vl, vi)) (oT [] []) ?_))))))
    refine bE hF fun vl4_1 h11 hF => awp_sub (awp_loop' (z959 qa qb vi) z961 (z960 qa qb vi) (by intro x; exact fun h => nomatch h) h11 (z962 qa qb vi)) ?_
    exact gR 3 (oO hF [] [] rfl)
  · refine tF h1 (awp_exit ?_)
    exact oO hF [] [] rfl

def z951 (qdata : List api_Letter) (qa : Int) (qb : Int) (r : (List api_Letter)) : TV × Mem := (.tup [], ⟨[(0, ⟨109, 6, List.map api_Letter.enc r⟩)], []⟩)

theorem z952 {qdata : List api_Letter} {qa : Int} {qb : Int} {r} (hF : z950 qdata qa qb = some r) : Holds prog 167 [.c (.own 0 none), .i qa, .i qb, .c (.fn 96 [])] ⟨[(0, ⟨109, 6, List.map api_Letter.enc qdata⟩)], []⟩ (Is (z951 qdata qa qb r)) := by
  unfold z950 at hF
  refine hW f167 53 1 1 ?_
  refine sR 3 (awp_block (awp_to (st' := z954 qa qb (qdata, IntKind.wrap .i64 (qa + 1))) (oT [] []) ?_))
  refine bE hF fun vl5_1 h12 hF => awp_sub (awp_loop' (z954 qa qb) z956 (z955 qa qb) (by intro x; exact fun h => nomatch h) h12 (z957 qa qb)) ?_
  exact oF hF [] []

/-! ### slices.pdqsortCmpFunc[beaconfleet/api.Letter] -/
def z1007 : (List api_Letter) → AEx
  | _ => .ret

def z1006 (qx : List api_Letter) (qx1 : Int) (qx2 : Int) (qx3 : Int) : (List api_Letter) → St
  | vl => Mem.st ⟨[(0, ⟨109, 6, List.map api_Letter.enc vl⟩)], []⟩ (tl []) 1

def z1005 (qx : List api_Letter) (qx1 : Int) (qx2 : Int) (qx3 : Int) : Unit → St
  | _ => Mem.st ⟨[(0, ⟨109, 6, List.map api_Letter.enc qx⟩)], []⟩ (tl [(0, .c (.own 0 none)), (1, .i qx1), (2, .i qx2), (3, .i qx3), (4, .c (.fn 96 [])), (10, .b true), (11, .b true)]) 1

theorem z1008 (qx : List api_Letter) (qx1 : Int) (qx2 : Int) (qx3 : Int) (s : Unit) (r : (Unit) ⊕ ((List api_Letter))) (hF : z1004 qx qx1 qx2 qx3 s = some r) : Awp prog 1 148 (cL (cL (cR (cR (cB f139))))) (Out 1 (kk z1007) (SS (z1005 qx qx1 qx2 qx3) (z1006 qx qx1 qx2 qx3)) r) (z1005 qx qx1 qx2 qx3 s) := by
  unfold z1004 at hF
  refine awp_block (sR 4 (awp_seq (sR 2 (cE hF (fun h1 hF => ?_) fun h1 hF => ?_))))
  · refine tT h1 (awp_seq (bE hF fun vl6_1 h2 hF => gE hF fun h3 hF => ?_))
    refine awp_region (aR 4 (aCp (z952 h2) ⟨⟨rfl, rfl, pin1 h3⟩, trivial⟩ [] [] [] ?_))
    refine aE ?_
    exact awp_ret (oO hF [] [] rfl)
  · refine tF h1 (awp_skip (awp_seq (sR 2 (cE hF (fun h4 hF => ?_) fun h4 hF => ?_))))
    · exact tT h4 (awp_seq (nE hF))
    · exact tF h4 (awp_skip (awp_seq (sR 2 (tF rfl (awp_skip (awp_seq (nE hF)))))))

def z1002 (qx : List api_Letter) (qx1 : Int) (qx2 : Int) (qx3 : Int) (r : (List api_Letter)) : TV × Mem := (.tup [], ⟨[(0, ⟨109, 6, List.map api_Letter.enc r⟩)], []⟩)

theorem z1003 {qx : List api_Letter} {qx1 : Int} {qx2 : Int} {qx3 : Int} {r} (hF : z1001 qx qx1 qx2 qx3 = some r) : Holds prog 139 [.c (.own 0 none), .i qx1, .i qx2, .i qx3, .c (.fn 96 [])] ⟨[(0, ⟨109, 6, List.map api_Letter.enc qx⟩)], []⟩ (Is (z1002 qx qx1 qx2 qx3 r)) := by
  unfold z1001 at hF
  refine hW f139 148 1 1 ?_
  refine sR 1 (sR 1 (awp_block (awp_to (st' := z1005 qx qx1 qx2 qx3 ()) (oT [] []) ?_)))
  refine bE hF fun vl1 h7 hF => awp_sub (awp_loop' (z1005 qx qx1 qx2 qx3) z1007 (z1006 qx qx1 qx2 qx3) (by intro x; exact fun h => nomatch h) h7 (z1008 qx qx1 qx2 qx3)) ?_
  exact oF hF [] []

/-! ### slices.SortFunc[[]beaconfleet/api.Letter,beaconfleet/api.Letter] -/
def z922 (qx : List api_Letter) (r : (List api_Letter)) : TV × Mem := (.tup [], ⟨[(0, ⟨109, 6, List.map api_Letter.enc r⟩)], []⟩)

theorem z923 {qx : List api_Letter} {r} (hF : z921 qx = some r) : Holds prog 95 [.c (.own 0 none), .c (.fn 96 [])] ⟨[(0, ⟨109, 6, List.map api_Letter.enc qx⟩)], []⟩ (Is (z922 qx r)) := by
  unfold z921 at hF
  refine hW f95 14 1 1 ?_
  refine awp_seq (awp_region (aR 1 (aL api_Letter.enc qx (aR 1 (aE ?_)))))
  refine bE hF fun vr1 h1 hF => bE hF fun vl2 h2 hF => gE hF fun h3 hF => ?_
  refine awp_region (aR 4 (aC (z128 h1) [] [] [] (aR 1 (aCp (z1003 h2) ⟨⟨rfl, rfl, pin1 h3⟩, trivial⟩ [] [] [] ?_))))
  refine aE ?_
  exact oF hF [] []

/-! ### beaconfleet/command.Order -/
def z186 : Unit ⊕ Int → AEx
  | .inl _ => .exit 0
  | .inr _ => .ret

def z185 (ql : List api_Letter) : Unit ⊕ Int → St
  | .inl _ => Mem.st ⟨[], []⟩ (tl [(0, .c (.l api_Letter.enc ql))]) 1
  | .inr vx1 => Mem.st ⟨[], []⟩ (tl [(2, .c (.nil)), (3, .i vx1)]) 1

def z184 (ql : List api_Letter) : Int → St
  | vx => Mem.st ⟨[], []⟩ (tl [(0, .c (.l api_Letter.enc ql)), (11, .c (.l api_Letter.enc ql)), (12, .i (ql.length : Int)), (13, .i vx)]) 1

theorem z187 (ql : List api_Letter) (vx : Int) (r : (Int) ⊕ (Unit ⊕ Int)) (hF : z183 ql vx = some r) : Awp prog 1 34 (cL (cL (cR (cL (cR (cR (cB f49))))))) (Out 1 (kk z186) (SS (z184 ql) (z185 ql)) r) (z184 ql vx) := by
  unfold z183 at hF
  refine sR 1 (awp_seq (cE hF (fun h2 hF => ?_) fun h2 hF => ?_))
  · refine tT h2 (awp_skip (awp_seq (awp_block (awp_seq (bE hF fun vy1 h3 hF => awp_region (aR 1 (aX (x_idx api_Letter.enc h3) (aR 4 (aE ?_)))))))))
    refine awp_seq (awp_seq (bE hF fun vr4_1 h4 hF => awp_region (aR 1 (aC (z168 h4) [] [] [] (aR 1 (aE ?_))))))
    refine sR 2 (cE hF (fun h5 hF => ?_) fun h5 hF => ?_)
    · exact tT h5 (sR 3 (awp_ret (oO hF [] [] rfl)))
    · refine tF h5 (awp_skip (awp_seq (bE hF fun vl1 h6 hF => bE hF fun vr1_1 h7 hF => awp_region (aR 2 (aX (x_slice api_Letter.enc h6) (aR 1 (aC (z825 h7) [(0, 4001)] [] [] (aE ?_))))))))
      refine cE hF (fun h8 hF => ?_) fun h8 hF => ?_
      · exact tT h8 (sR 2 (awp_ret (oO hF [] [] rfl)))
      · exact tF h8 (awp_skip (gR 2 (oO hF [] [] rfl)))
  · refine tF h2 (awp_exit ?_)
    exact oO hF [] [] rfl

def z181 (ql : List api_Letter) (r : (List api_Letter) × Int) : TV × Mem := (.tup [.one (.own 1 none), .one (.i r.2)], ⟨[(1, ⟨109, 6, List.map api_Letter.enc r.1⟩)], []⟩)

theorem z182 {ql : List api_Letter} {r} (hF : z180 ql = some r) : Holds prog 49 [.c (.own 0 none)] ⟨[(0, ⟨109, 6, List.map api_Letter.enc ql⟩)], []⟩ (Is (z181 ql r)) := by
  unfold z180 at hF
  refine hW f49 34 1 1 ?_
  refine sR 2 (awp_to (oT (m := ⟨[], []⟩) (ts := [(0, .c (.l api_Letter.enc ql))]) (nx := 1) [] []) ?_)
  refine awp_seq (awp_seq (awp_region (aR 1 (aL api_Letter.enc ql (aR 1 (aE ?_))))))
  refine cE hF (fun h1 hF => ?_) fun h1 hF => ?_
  · exact tT h1 (sR 2 (awp_ret (oF hF [] [1])))
  · refine tF h1 (awp_skip (awp_seq (awp_seq (awp_region (aR 1 (aL api_Letter.enc ql (aR 1 (aE ?_))))))))
    refine awp_block (awp_to (st' := z184 ql 0) (oT [] []) ?_)
    refine bE hF fun x h9 hF => ?_
    rcases x with _ | vx1_1
    · refine awp_sub (awp_loop' (z184 ql) z186 (z185 ql) (by intro x; rcases x with x | x <;> exact fun h => nomatch h) h9 (z187 ql)) ?_
      refine awp_seq (bE hF fun vr h10 hF => awp_region (aR 1 (aC (z739 h10) [] [] [] (aR 1 (aE ?_)))))
      refine awp_seq (bE hF fun vl2 h11 hF => gE hF fun h12 hF => ?_)
      refine awp_region (aR 1 (aCp (z923 h11) ⟨⟨rfl, rfl, pin1 h12⟩, trivial⟩ [(0, 1001)] [] [] ?_))
      refine aE ?_
      exact sR 3 (awp_ret (oF hF [(1, 1001)] []))
    · refine awp_sub (awp_loop' (z184 ql) z186 (z185 ql) (by intro x; rcases x with x | x <;> exact fun h => nomatch h) h9 (z187 ql)) ?_
      exact oF hF [] [1]

/-! ### beaconfleet/fleetkeep2.errs -/
def z202 : Unit ⊕ Int → AEx
  | .inl _ => .exit 0
  | .inr _ => .ret

def z201 (ql : List Int) : Unit ⊕ Int → St
  | .inl _ => Mem.st ⟨[], []⟩ (tl []) 0
  | .inr vx1 => Mem.st ⟨[], []⟩ (tl [(2, .i vx1)]) 0

def z200 (ql : List Int) : Int → St
  | vx => Mem.st ⟨[], []⟩ (tl [(5, .c (.l (encI .i64) ql)), (6, .i (ql.length : Int)), (7, .i vx)]) 0

theorem z203 (ql : List Int) (vx : Int) (r : (Int) ⊕ (Unit ⊕ Int)) (hF : z199 ql vx = some r) : Awp prog 0 15 (cL (cL (cR (cL (cR (cB f50)))))) (Out 0 (kk z202) (SS (z200 ql) (z201 ql)) r) (z200 ql vx) := by
  unfold z199 at hF
  refine sR 1 (awp_seq (cE hF (fun h1 hF => ?_) fun h1 hF => ?_))
  · refine tT h1 (awp_skip (awp_seq (awp_block (awp_seq (bE hF fun vy1 h2 hF => awp_region (aX (x_idx (encI .i64) h2) (aR 2 (aE ?_))))))))
    refine sR 2 (cE hF (fun h3 hF => ?_) fun h3 hF => ?_)
    · exact tT h3 (sR 2 (awp_ret (oO hF [] [] rfl)))
    · exact tF h3 (awp_skip (gR 2 (oO hF [] [] rfl)))
  · refine tF h1 (awp_exit ?_)
    exact oO hF [] [] rfl

def z197 (ql : List Int) (r : Int) : TV × Mem := (.i r, ⟨[], []⟩)

theorem z198 {ql : List Int} {r} (hF : z196 ql = some r) : Holds prog 50 [.c (.l (encI .i64) ql)] ⟨[], []⟩ (Is (z197 ql r)) := by
  unfold z196 at hF
  refine hW f50 15 0 0 ?_
  refine sR 1 (awp_seq (awp_seq (awp_region (aR 1 (aL (encI .i64) ql (aR 1 (aE ?_)))))))
  refine awp_block (awp_to (st' := z200 ql 0) (oT [] []) ?_)
  refine bE hF fun x h4 hF => ?_
  rcases x with _ | vx1_1
  · refine awp_sub (awp_loop' (z200 ql) z202 (z201 ql) (by intro x; rcases x with x | x <;> exact fun h => nomatch h) h4 (z203 ql)) ?_
    exact sR 1 (awp_ret (oF hF [] []))
  · refine awp_sub (awp_loop' (z200 ql) z202 (z201 ql) (by intro x; rcases x with x | x <;> exact fun h => nomatch h) h4 (z203 ql)) ?_
    exact oF hF [] []

/-! ### slices.Equal[[]byte,byte] -/
def z857 : Unit ⊕ Unit → AEx
  | .inl _ => .exit 0
  | .inr _ => .ret

def z856 (qs1 : List Int) (qs2 : List Int) : Unit ⊕ Unit → St
  | .inl _ => Mem.st ⟨[], []⟩ (tl []) 0
  | .inr _ => Mem.st ⟨[], []⟩ (tl [(4, .b false)]) 0

def z855 (qs1 : List Int) (qs2 : List Int) : Int → St
  | vx => Mem.st ⟨[], []⟩ (tl [(0, .c (.l (encI .u8) qs1)), (1, .c (.l (encI .u8) qs2)), (12, .i (qs1.length : Int)), (13, .i vx)]) 0

theorem z858 (qs1 : List Int) (qs2 : List Int) (vx : Int) (r : (Int) ⊕ (Unit ⊕ Unit)) (hF : z854 qs1 qs2 vx = some r) : Awp prog 0 26 (cL (cL (cR (cL (cR (cR (cB f46))))))) (Out 0 (kk z857) (SS (z855 qs1 qs2) (z856 qs1 qs2)) r) (z855 qs1 qs2 vx) := by
  unfold z854 at hF
  refine sR 1 (awp_seq (cE hF (fun h2 hF => ?_) fun h2 hF => ?_))
  · refine tT h2 (awp_skip (awp_seq (awp_block (sR 2 (awp_seq (bE hF fun vy2 h3 hF => bE hF fun vy3 h4 hF => aD ?_))))))
    refine dR 2 ?_
    refine dX (x_idx (encI .u8) h3) ?_
    refine dR 3 ?_
    refine dX (x_idx (encI .u8) h4) ?_
    refine dR 2 ?_
    refine dE ?_
    refine cE hF (fun h5 hF => ?_) fun h5 hF => ?_
    · exact tT h5 (sR 1 (awp_ret (oO hF [] [] rfl)))
    · exact tF h5 (awp_skip (gR 2 (oO hF [] [] rfl)))
  · refine tF h2 (awp_exit ?_)
    exact oO hF [] [] rfl

def z852 (qs1 : List Int) (qs2 : List Int) (r : Bool) : TV × Mem := (.b r, ⟨[], []⟩)

theorem z853 {qs1 : List Int} {qs2 : List Int} {r} (hF : z851 qs1 qs2 = some r) : Holds prog 46 [.c (.l (encI .u8) qs1), .c (.l (encI .u8) qs2)] ⟨[], []⟩ (Is (z852 qs1 qs2 r)) := by
  unfold z851 at hF
  refine hW f46 26 0 0 ?_
  refine sR 1 (awp_seq (awp_seq (awp_region (aR 1 (aL (encI .u8) qs1 (aR 1 (aL (encI .u8) qs2 (aR 1 (aE ?_)))))))))
  refine cE hF (fun h1 hF => ?_) fun h1 hF => ?_
  · exact tT h1 (sR 1 (awp_ret (oF hF [] [])))
  · refine tF h1 (awp_skip (awp_seq (awp_seq (awp_region (aR 1 (aL (encI .u8) qs1 (aR 1 (aE ?_))))))))
    refine awp_block (awp_to (st' := z855 qs1 qs2 0) (oT [] []) ?_)
    refine bE hF fun x h6 hF => ?_
    rcases x with _ | _
    · refine awp_sub (awp_loop' (z855 qs1 qs2) z857 (z856 qs1 qs2) (by intro x; rcases x with x | x <;> exact fun h => nomatch h) h6 (z858 qs1 qs2)) ?_
      exact sR 1 (awp_ret (oF hF [] []))
    · refine awp_sub (awp_loop' (z855 qs1 qs2) z857 (z856 qs1 qs2) (by intro x; rcases x with x | x <;> exact fun h => nomatch h) h6 (z858 qs1 qs2)) ?_
      exact oF hF [] []

/-! ### beaconfleet/fleetkeep2.ready -/
def z209 (vr5 : List api_Change) (vr6 : Int) (vr : List Int) (vr2 : Int) (vr2_1 : api_Version) (vr4 : Int) (vr1 : List UInt8) (vr3 : Int) (vr2_2 : List api_Letter) (vr3_1 : Int) : Bool → St
  | vx => Mem.st ⟨[], []⟩ (tl [(0, .b vx)]) 0

def z208 (vr5 : List api_Change) (vr6 : Int) (vr : List Int) (vr2 : Int) (vr2_1 : api_Version) (vr4 : Int) (vr1 : List UInt8) (vr3 : Int) (vr2_2 : List api_Letter) (vr3_1 : Int) : St := Mem.st ⟨[], [(0, [.i vr2_1.Major, .i vr2_1.Minor, .i vr2_1.Patch])]⟩ (tl [(1, .c (.l api_Change.enc vr5)), (2, .i vr6), (3, .c (.l (encI .u8) vr)), (4, .i vr2), (5, .c (.box 0 0)), (6, .i vr4), (7, .c (.s vr1)), (8, .i vr3), (9, .c (.l api_Letter.enc vr2_2)), (10, .i vr3_1)]) 1

theorem z210 (vr5 : List api_Change) (vr6 : Int) (vr : List Int) (vr2 : Int) (vr2_1 : api_Version) (vr4 : Int) (vr1 : List UInt8) (vr3 : Int) (vr2_2 : List api_Letter) (vr3_1 : Int) {r} (hF : z207 vr5 vr6 vr vr2 vr2_1 vr4 vr1 vr3 vr2_2 vr3_1 = some r) : Awp prog 0 71 (cL (cR (cR (cR (cR (cR (cR (cB f17)))))))) (Out 0 nrm (z209 vr5 vr6 vr vr2 vr2_1 vr4 vr1 vr3 vr2_2 vr3_1) r) (z208 vr5 vr6 vr vr2 vr2_1 vr4 vr1 vr3 vr2_2 vr3_1) := by
  unfold z207 at hF
  refine bE hF fun vr7 h6 hF => cE hF (fun h7 hF => ?_) fun h7 hF => ?_
  · refine cE hF (fun h8 hF => ?_) fun h8 hF => ?_
    · refine bE hF fun vr8 h9 hF => cE hF (fun h10 hF => ?_) fun h10 hF => ?_
      · refine cE hF (fun h11 hF => ?_) fun h11 hF => ?_
        · refine cE hF (fun h12 hF => ?_) fun h12 hF => ?_
          · refine awp_region (aR 6 (aC (z198 h6) [] [] [5001] (aB h7 (aR 2 (aL api_Change.enc vr5 (aB h8 (aR 4 (aCb (z853 h9) [] [] [15001] h10 ?_))))))))
            refine aR 4 (aB h11 (aR 3 (aB h12 (aR 3 (aL api_Letter.enc vr2_2 (aR 3 (aE ?_)))))))
            exact oO hF [] [] rfl
          · refine awp_region (aR 6 (aC (z198 h6) [] [] [5001] (aB h7 (aR 2 (aL api_Change.enc vr5 (aB h8 (aR 4 (aCb (z853 h9) [] [] [15001] h10 ?_))))))))
            refine aR 4 (aB h11 (aR 3 (aB h12 (aR 7 (aE ?_)))))
            exact oO hF [] [] rfl
        · refine awp_region (aR 6 (aC (z198 h6) [] [] [5001] (aB h7 (aR 2 (aL api_Change.enc vr5 (aB h8 (aR 4 (aCb (z853 h9) [] [] [15001] h10 ?_))))))))
          refine aR 4 (aB h11 (aR 11 (aE ?_)))
          exact oO hF [] [] rfl
      · refine awp_region (aR 6 (aC (z198 h6) [] [] [5001] (aB h7 (aR 2 (aL api_Change.enc vr5 (aB h8 (aR 4 (aCb (z853 h9) [] [] [15001] h10 ?_))))))))
        refine aR 16 (aE ?_)
        exact oO hF [] [] rfl
    · refine awp_region (aR 6 (aC (z198 h6) [] [] [5001] (aB h7 (aR 2 (aL api_Change.enc vr5 (aB h8 (aR 21 (aE ?_))))))))
      exact oO hF [] [] rfl
  · refine awp_region (aR 6 (aC (z198 h6) [] [] [5001] (aB h7 (aR 25 (aE ?_)))))
    exact oO hF [] [] rfl

def z205 (r : Bool) : TV × Mem := (.b r, ⟨[], []⟩)

theorem z206 {r} (hF : z204 = some r) : Holds prog 17 [] ⟨[], []⟩ (Is (z205  r)) := by
  unfold z204 at hF
  refine hW f17 71 0 0 ?_
  refine sR 1 (awp_seq (bE hF fun x h1 hF => ?_))
  obtain ⟨vr5, vr6⟩ := x
  refine awp_region (aR 3 (aC (z1311 h1) [(0, 3000)] [] [] (aR 5 (aE ?_))))
  refine awp_to (oT (m := ⟨[], []⟩) (ts := [(1, .c (.l api_Change.enc vr5)), (2, .i vr6)]) (nx := 0) [] []) ?_
  refine awp_seq (bE hF fun x h2 hF => ?_)
  obtain ⟨vr, vr2⟩ := x
  refine awp_region (aR 2 (aC (z682 h2) [(0, 1000)] [] [] (aR 5 (aE ?_))))
  refine awp_to (oT (m := ⟨[], []⟩) (ts := [(1, .c (.l api_Change.enc vr5)), (2, .i vr6), (3, .c (.l (encI .u8) vr)), (4, .i vr2)]) (nx := 0) [] []) ?_
  refine awp_seq (bE hF fun x h3 hF => ?_)
  obtain ⟨vr2_1, vr4⟩ := x
  refine awp_region (aC (z137 h3) [] [] [] (aR 6 (aE ?_)))
  refine awp_seq (bE hF fun x h4 hF => ?_)
  obtain ⟨vr1, vr3⟩ := x
  refine awp_region (aR 1 (aC (z371 h4) [] [] [] (aR 5 (aE ?_))))
  refine awp_seq (bE hF fun x h5 hF => ?_)
  obtain ⟨vr2_2, vr3_1⟩ := x
  refine awp_region (aR 2 (aC (z182 h5) [(0, 15000)] [] [] (aR 5 (aE ?_))))
  refine awp_to (oT (m := ⟨[], [(0, [.i vr2_1.Major, .i vr2_1.Minor, .i vr2_1.Patch])]⟩) (ts := [(1, .c (.l api_Change.enc vr5)), (2, .i vr6), (3, .c (.l (encI .u8) vr)), (4, .i vr2), (5, .c (.box 0 0)), (6, .i vr4), (7, .c (.s vr1)), (8, .i vr3), (9, .c (.l api_Letter.enc vr2_2)), (10, .i vr3_1)]) (nx := 1) [(0, 4000)] []) ?_
  refine awp_seq (awp_to (st' := z208 vr5 vr6 vr vr2 vr2_1 vr4 vr1 vr3 vr2_2 vr3_1) (oT [] []) ?_)
  refine bE hF fun vx1 h13 hF => awp_sub (z210 vr5 vr6 vr vr2 vr2_1 vr4 vr1 vr3 vr2_2 vr3_1 h13) ?_
  exact awp_ret (oF hF [] [])

/-! ### beaconfleet/fleetkeep2.PlacesStay -/
def z194 (vr9 : List api_Spot) (vr16 : List api_Fix) : Bool → St
  | vx => Mem.st ⟨[], []⟩ (tl [(2, .b vx)]) 0

def z193 (vr9 : List api_Spot) (vr16 : List api_Fix) : St := Mem.st ⟨[(1, ⟨52, 2, List.map api_Spot.enc vr9⟩), (3, ⟨52, 2, List.map api_Spot.enc vr9⟩)], [(0, [.s ([102] : List UInt8), .own 1 none]), (2, [.s ([102] : List UInt8), .own 3 none])]⟩ (tl [(5, .c (.box 0 0)), (6, .c (.l api_Fix.enc vr16)), (7, .c (.box 2 0)), (8, .c (.l api_Fix.enc vr16))]) 4

theorem z195 (vr9 : List api_Spot) (vr16 : List api_Fix) {r} (hF : z192 vr9 vr16 = some r) : Awp prog 0 80 (cL (cR (cR (cR (cR (cR (cR (cR (cR (cR (cR (cR (cR (cR (cB f5))))))))))))))) (Out 0 nrm (z194 vr9 vr16) r) (z193 vr9 vr16) := by
  unfold z192 at hF
  refine bE hF fun vr h15 hF => cE hF (fun h16 hF => ?_) fun h16 hF => ?_
  · refine bE hF fun vr7 h17 hF => cE hF (fun h18 hF => ?_) fun h18 hF => ?_
    · refine bE hF fun vr9_1 h19 hF => awp_region (aR 4 (aCb (z845 h15) [] [] [1, 3] h16 ?_))
      refine aR 3 (aCb (z837 h17) [] [] [] h18 ?_)
      refine aR 2 (aC (z206 h19) [] [] [] (aR 2 (aE ?_)))
      exact oO hF [] [] rfl
    · refine awp_region (aR 4 (aCb (z845 h15) [] [] [1, 3] h16 ?_))
      refine aR 3 (aCb (z837 h17) [] [] [] h18 ?_)
      refine aR 5 (aE ?_)
      exact oO hF [] [] rfl
  · refine awp_region (aR 4 (aCb (z845 h15) [] [] [1, 3] h16 ?_))
    refine aR 9 (aE ?_)
    exact oO hF [] [] rfl

def z191 (qx : List Int) (r : Bool) : TV × Mem := (.b r, ⟨[], []⟩)

theorem fleetkeep2_PlacesStay_ok {qx : List Int} {r} (hF : fleetkeep2_PlacesStay qx = some r) : Holds prog 5 [.c (.l (encI .i64) qx)] ⟨[], []⟩ (Is (z191 qx r)) := by
  unfold fleetkeep2_PlacesStay at hF
  refine hW f5 80 0 0 ?_
  refine sR 1 (sR 8 (awp_seq (bE hF fun x h1 hF => ?_)))
  obtain ⟨vs15, vr9⟩ := x
  refine bE hF fun x h2 hF => ?_
  obtain ⟨vs11, vr16⟩ := x
  refine awp_region (aR 1 (aC (z252 h1) [(0, 3000)] [] [] (aR 1 (aC (z278 h2) [(0, 3000)] [] [] (aR 3 (aE ?_))))))
  refine awp_to (oT (m := ⟨[(2, ⟨52, 2, List.map api_Spot.enc vr9⟩)], [(0, [.l (encI .i64) qx, .i 0]), (1, [.s ([102] : List UInt8), .own 2 none])]⟩) (ts := [(4, .c (.box 0 0)), (5, .c (.box 1 0)), (6, .c (.l api_Fix.enc vr16))]) (nx := 3) [(0, 6000), (1, 13000), (2, 10001)] []) ?_
  refine awp_seq (awp_region (aR 1 (aC (z252 h1) [] [] [] (aR 1 (aC (z278 h2) [] [] [] (aR 3 (aE ?_)))))))
  refine awp_to (oT (m := ⟨[(1, ⟨52, 2, List.map api_Spot.enc vr9⟩), (3, ⟨52, 2, List.map api_Spot.enc vr9⟩)], [(0, [.s ([102] : List UInt8), .own 1 none]), (2, [.s ([102] : List UInt8), .own 3 none])]⟩) (ts := [(5, .c (.box 0 0)), (6, .c (.l api_Fix.enc vr16)), (7, .c (.box 2 0)), (8, .c (.l api_Fix.enc vr16))]) (nx := 4) [(0, 1), (1, 2), (2, 4003), (3, 1004)] []) ?_
  refine awp_seq (bE hF fun x h3 hF => ?_)
  obtain ⟨vr5, vr6⟩ := x
  refine awp_region (aR 2 (aCf (z418 h3) (plainO_one (f := api_Spot.enc) fun _ => by kernel_rfl) [] [] [1] ?_))
  refine aR 5 (aE ?_)
  refine awp_seq (bE hF fun vl2 h4 hF => gE hF fun h5 hF => ?_)
  refine awp_region (aR 1 (aCp (z221 h4) ⟨⟨rfl, rfl, pin1 h5⟩, trivial⟩ [(0, 2004)] [] [] ?_))
  refine aE ?_
  refine awp_seq (bE hF fun x h6 hF => ?_)
  obtain ⟨vr3, vr4⟩ := x
  refine awp_region (aR 1 (aC (z424 h6) [] [] [] (aR 5 (aE ?_))))
  refine awp_seq (bE hF fun vl2_1 h7 hF => gE hF fun h8 hF => ?_)
  refine awp_region (aR 1 (aCp (z213 h7) ⟨⟨rfl, rfl, pin1 h8⟩, trivial⟩ [(0, 11004)] [] [] ?_))
  refine aE ?_
  refine awp_seq (bE hF fun x h9 hF => ?_)
  obtain ⟨vr1, vr2⟩ := x
  refine awp_region (aR 1 (aC (z431 h9) [] [] [] (aR 5 (aE ?_))))
  refine awp_seq (bE hF fun vl2_2 h10 hF => gE hF fun h11 hF => ?_)
  refine awp_region (aR 1 (aCp (z213 h10) ⟨⟨rfl, rfl, pin1 h11⟩, trivial⟩ [(0, 20004)] [] [] ?_))
  refine aE ?_
  refine awp_seq (bE hF fun x h12 hF => ?_)
  obtain ⟨vr2_1, vr3_1⟩ := x
  refine awp_region (aR 1 (aC (z457 h12) [] [] [] (aR 3 (aE ?_))))
  refine awp_seq (bE hF fun x h13 hF => ?_)
  obtain ⟨vr2_2, vr4_1⟩ := x
  refine awp_region (aR 2 (aC (z421 h13) [] [] [1, 3] (aR 3 (aE ?_))))
  refine awp_seq (bE hF fun x h14 hF => ?_)
  obtain ⟨vr3_2, vr4_2⟩ := x
  refine awp_region (aR 1 (aC (z473 h14) [] [] [] (aR 3 (aE ?_))))
  refine awp_seq (awp_to (st' := z193 vr9 vr16) (oT [] []) ?_)
  refine bE hF fun vx1 h20 hF => awp_sub (z195 vr9 vr16 h20) ?_
  exact awp_ret (oF hF [] [])

end Go.Eng
