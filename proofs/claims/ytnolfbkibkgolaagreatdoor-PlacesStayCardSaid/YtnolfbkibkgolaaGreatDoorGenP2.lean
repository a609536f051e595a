/-
The code of the Go functions that the law PlacesStay reaches does what the plain functions say, part 2.
-/
import Derived.Test.YtnolfbkibkgolaaGreatDoorGenP1

namespace Go.Eng

open Go Go.Proofs.Tryz

set_option linter.unusedVariables false

set_option maxRecDepth 20000

set_option maxHeartbeats 0

/-! ### slices.IndexFunc[[]beaconfleet/api.Fix,beaconfleet/api.Fix] -/
def z879 : Unit ⊕ Int → AEx
  | .inl _ => .exit 0
  | .inr _ => .ret

def z878 (qs : List api_Fix) : Unit ⊕ Int → St
  | .inl _ => Mem.st ⟨[], [(0, [.l api_Fix.enc qs])]⟩ (tl []) 1
  | .inr vx1 => Mem.st ⟨[], [(0, [.l api_Fix.enc qs])]⟩ (tl [(4, .i vx1)]) 1

def z877 (qs : List api_Fix) : Int → St
  | vx => Mem.st ⟨[], [(0, [.l api_Fix.enc qs])]⟩ (tl [(0, .c (.l api_Fix.enc qs)), (1, .c (.fn 75 [0])), (7, .i (qs.length : Int)), (8, .i vx)]) 1

theorem z880 (qs : List api_Fix) (vx : Int) (r : (Int) ⊕ (Unit ⊕ Int)) (hF : z876 qs vx = some r) : Awp prog 1 19 (cL (cL (cR (cL (cR (cB f116)))))) (Out 1 (kk z879) (SS (z877 qs) (z878 qs)) r) (z877 qs vx) := by
  unfold z876 at hF
  refine sR 1 (awp_seq (cE hF (fun h1 hF => ?_) fun h1 hF => ?_))
  · refine tT h1 (awp_skip (awp_seq (awp_block (sR 2 (awp_seq (bE hF fun vy1 h2 hF => bE hF fun vr1 h3 hF => awp_region (aR 3 (aX (x_idx api_Fix.enc h2) (aR 1 (aC (z626 h3) [] [] [] (aE ?_)))))))))))
    refine cE hF (fun h4 hF => ?_) fun h4 hF => ?_
    · exact tT h4 (sR 2 (awp_ret (oO hF [] [] rfl)))
    · exact tF h4 (awp_skip (gR 2 (oO hF [] [] rfl)))
  · refine tF h1 (awp_exit ?_)
    exact oO hF [] [] rfl

def z874 (qs : List api_Fix) (r : Int) : TV × Mem := (.i r, ⟨[], [(0, [.l api_Fix.enc qs])]⟩)

theorem z875 {qs : List api_Fix} {r} (hF : z873 qs = some r) : Holds prog 116 [.c (.l api_Fix.enc qs), .c (.fn 75 [0])] ⟨[], [(0, [.l api_Fix.enc qs])]⟩ (Is (z874 qs r)) := by
  unfold z873 at hF
  refine hW f116 19 1 1 ?_
  refine sR 1 (awp_seq (awp_seq (awp_region (aR 1 (aL api_Fix.enc qs (aR 1 (aE ?_)))))))
  refine awp_block (awp_to (st' := z877 qs 0) (oT [] []) ?_)
  refine bE hF fun x h5 hF => ?_
  rcases x with _ | vx1_1
  · refine awp_sub (awp_loop' (z877 qs) z879 (z878 qs) (by intro x; rcases x with x | x <;> exact fun h => nomatch h) h5 (z880 qs)) ?_
    exact sR 1 (awp_ret (oF hF [] []))
  · refine awp_sub (awp_loop' (z877 qs) z879 (z878 qs) (by intro x; rcases x with x | x <;> exact fun h => nomatch h) h5 (z880 qs)) ?_
    exact oF hF [] []

/-! ### slices.ContainsFunc[[]beaconfleet/api.Fix,beaconfleet/api.Fix] -/
def z821 (qs : List api_Fix) (r : Bool) : TV × Mem := (.b r, ⟨[], [(0, [.l api_Fix.enc qs])]⟩)

theorem z822 {qs : List api_Fix} {r} (hF : z820 qs = some r) : Holds prog 74 [.c (.l api_Fix.enc qs), .c (.fn 75 [0])] ⟨[], [(0, [.l api_Fix.enc qs])]⟩ (Is (z821 qs r)) := by
  unfold z820 at hF
  refine hW f74 9 1 1 ?_
  refine sR 1 (awp_seq (bE hF fun vr2 h1 hF => awp_region (aR 2 (aC (z875 h1) [] [] [] (aR 2 (aE ?_))))))
  exact awp_ret (oF hF [] [])

/-! ### beaconfleet/place.trackFault -/
def z627 (ql : List api_Fix) (r : Int) : TV × Mem := (.i r, ⟨[], []⟩)

theorem z628 {ql : List api_Fix} {r} (hF : z623 ql = some r) : Holds prog 32 [.c (.l api_Fix.enc ql)] ⟨[], []⟩ (Is (z627 ql r)) := by
  unfold z623 at hF
  refine hW f32 12 0 0 ?_
  refine sR 2 (awp_seq (awp_seq (bE hF fun vr6 h1 hF => awp_region (aR 1 (aC (z399 h1) [] [] [] (aR 1 (aE ?_)))))))
  refine sR 2 (cE hF (fun h2 hF => ?_) fun h2 hF => ?_)
  · exact tT h2 (sR 2 (awp_ret (oF hF [] [])))
  · refine tF h2 (awp_skip (awp_seq (awp_seq (bE hF fun vr h3 hF => awp_region (aR 2 (aC (z822 h3) [] [] [] (aE ?_)))))))
    refine cE hF (fun h4 hF => ?_) fun h4 hF => ?_
    · exact tT h4 (sR 1 (awp_ret (oF hF [] [])))
    · exact tF h4 (awp_skip (sR 1 (awp_ret (oF hF [] []))))

/-! ### beaconfleet/place.square -/
def z608 (qa : api_Spot) (qb : api_Spot) (r : Unit) : TV × Mem := (.i (IntKind.wrap .i64 ((IntKind.wrap .i64 ((IntKind.wrap .i64 (qa.X - qb.X)) * (IntKind.wrap .i64 (qa.X - qb.X)))) + (IntKind.wrap .i64 ((IntKind.wrap .i64 (qa.Y - qb.Y)) * (IntKind.wrap .i64 (qa.Y - qb.Y)))))), ⟨[], []⟩)

theorem z609 {qa : api_Spot} {qb : api_Spot} {r} (hF : z607 qa qb = some r) : Holds prog 39 [.v (.agg [.i qa.X, .i qa.Y]), .v (.agg [.i qb.X, .i qb.Y])] ⟨[], []⟩ (Is (z608 qa qb r)) := by
  unfold z607 at hF
  refine hW f39 28 0 0 ?_
  exact sR 3 (sR 24 (awp_ret (oF hF [] [])))

/-! ### beaconfleet/base.Gcd -/
def z43 : Int → AEx
  | _ => .exit 0

def z42 : Int → St
  | va1 => Mem.st ⟨[], []⟩ (tl [(0, .i va1)]) 0

def z41 : Int × Int → St
  | (va, vb) => Mem.st ⟨[], []⟩ (tl [(0, .i va), (1, .i vb)]) 0

theorem z44 (s : Int × Int) (r : (Int × Int) ⊕ (Int)) (hF : z40  s = some r) : Awp prog 0 12 (cL (cL (cL (cR (cB f117))))) (Out 0 (kk z43) (SS (z41 ) (z42 )) r) (z41  s) := by
  obtain ⟨va, vb⟩ := s
  unfold z40 at hF
  refine awp_seq (sR 2 (cE hF (fun h1 hF => ?_) fun h1 hF => ?_))
  · refine tT h1 (awp_skip (awp_block (gE hF fun h2 hF => ?_)))
    refine aD ?_
    refine dR 3 ?_
    refine dX (x_rem h2) ?_
    refine dR 2 ?_
    refine dE ?_
    exact oO hF [] [] rfl
  · refine tF h1 (awp_exit ?_)
    exact oO hF [] [] rfl

def z38 (qa : Int) (qb : Int) (r : Int) : TV × Mem := (.i r, ⟨[], []⟩)

theorem z39 {qa : Int} {qb : Int} {r} (hF : base_Gcd qa qb = some r) : Holds prog 117 [.i qa, .i qb] ⟨[], []⟩ (Is (z38 qa qb r)) := by
  unfold base_Gcd at hF
  refine hW f117 12 0 0 ?_
  refine sR 1 (awp_seq (awp_block (awp_to (st' := z41  (qa, qb)) (oT [] []) ?_)))
  refine bE hF fun va1_1 h3 hF => awp_sub (awp_loop' (z41 ) z43 (z42 ) (by intro x; exact fun h => nomatch h) h3 (z44 )) ?_
  exact sR 2 (awp_ret (oF hF [] []))

/-! ### beaconfleet/base.Fraction -/
def z36 (qnum : Int) (qden : Int) (r : api_Fraction) : TV × Mem := (.v (.agg [.i r.Num, .i r.Den]), ⟨[], []⟩)

theorem z37 {qnum : Int} {qden : Int} {r} (hF : z35 qnum qden = some r) : Holds prog 77 [.i qnum, .i qden] ⟨[], []⟩ (Is (z36 qnum qden r)) := by
  unfold z35 at hF
  refine hW f77 19 0 0 ?_
  refine sR 1 (awp_seq (bE hF fun vr h1 hF => awp_region (aR 5 (aC (z39 h1) [] [] [] (aR 1 (aE ?_))))))
  refine awp_seq (gE hF fun h2 hF => ?_)
  refine aD ?_
  refine dR 2 ?_
  refine dX (x_quo h2) ?_
  refine dR 2 ?_
  refine dX (x_quo h2) ?_
  refine dR 2 ?_
  refine dE ?_
  exact awp_ret (oF hF [] [])

/-! ### beaconfleet/place.far -/
def z555 (qa : api_Spot) (qb : api_Spot) (qs : api_Spot) (r : api_Fraction) : TV × Mem := (.v (.agg [.i r.Num, .i r.Den]), ⟨[], []⟩)

theorem z556 {qa : api_Spot} {qb : api_Spot} {qs : api_Spot} {r} (hF : place_far qa qb qs = some r) : Holds prog 35 [.v (.agg [.i qa.X, .i qa.Y]), .v (.agg [.i qb.X, .i qb.Y]), .v (.agg [.i qs.X, .i qs.Y])] ⟨[], []⟩ (Is (z555 qa qb qs r)) := by
  unfold place_far at hF
  refine hW f35 60 0 0 ?_
  refine sR 4 (awp_seq (bE hF fun _ h1 hF => awp_region (aR 2 (aC (z609 h1) [] [] [] (aR 1 (aE ?_))))))
  refine sR 24 (awp_seq (awp_block (sR 3 (cE hF (fun h2 hF => ?_) fun h2 hF => ?_))))
  · refine tT h2 (awp_seq (bE hF fun _ h3 hF => awp_region (aR 2 (aC (z609 h3) [] [] [] (aR 2 (aE ?_))))))
    exact awp_ret (oF hF [] [])
  · refine tF h2 (sR 4 (cE hF (fun h4 hF => ?_) fun h4 hF => ?_))
    · refine tT h4 (awp_seq (bE hF fun _ h5 hF => awp_region (aR 2 (aC (z609 h5) [] [] [] (aR 2 (aE ?_))))))
      exact awp_ret (oF hF [] [])
    · refine tF h4 (awp_skip (awp_seq (bE hF fun _ h6 hF => awp_region (aR 3 (aC (z603 h6) [] [] [] (aR 1 (aE ?_)))))))
      refine awp_seq (bE hF fun vr1 h7 hF => awp_region (aR 4 (aC (z37 h7) [] [] [] (aR 1 (aE ?_)))))
      exact awp_ret (oF hF [] [])

/-! ### math/bits.Mul64 -/
def z130 (qx : Int) (qy : Int) (r : Unit) : TV × Mem := (.tup [.one (.d (.int .u64 (IntKind.wrap .u64 ((IntKind.wrap .u64 ((IntKind.wrap .u64 ((ishr .u64 qx 32) * (ishr .u64 qy 32))) + (ishr .u64 (IntKind.wrap .u64 ((IntKind.wrap .u64 ((ishr .u64 qx 32) * (ibits .and .u64 qy 4294967295))) + (ishr .u64 (IntKind.wrap .u64 ((ibits .and .u64 qx 4294967295) * (ibits .and .u64 qy 4294967295))) 32))) 32))) + (ishr .u64 (IntKind.wrap .u64 ((ibits .and .u64 (IntKind.wrap .u64 ((IntKind.wrap .u64 ((ishr .u64 qx 32) * (ibits .and .u64 qy 4294967295))) + (ishr .u64 (IntKind.wrap .u64 ((ibits .and .u64 qx 4294967295) * (ibits .and .u64 qy 4294967295))) 32))) 4294967295) + (IntKind.wrap .u64 ((ibits .and .u64 qx 4294967295) * (ishr .u64 qy 32))))) 32))))), .one (.d (.int .u64 (IntKind.wrap .u64 (qx * qy))))], ⟨[], []⟩)

theorem z131 {qx : Int} {qy : Int} {r} (hF : z129 qx qy = some r) : Holds prog 118 [.c (.d (.int .u64 qx)), .c (.d (.int .u64 qy))] ⟨[], []⟩ (Is (z130 qx qy r)) := by
  unfold z129 at hF
  refine hW f118 51 0 0 ?_
  exact sR 2 (sR 3 (sR 3 (sR 3 (sR 3 (sR 4 (sR 7 (sR 3 (sR 3 (sR 6 (sR 9 (sR 4 (awp_ret (oF hF [] [])))))))))))))

/-! ### beaconfleet/base.CompareProducts -/
def z13 (qa : Int) (qb : Int) (qc : Int) (qd : Int) : Bool → St
  | vx => Mem.st ⟨[], []⟩ (tl [(9, .c (.d (.int .u64 (IntKind.wrap .u64 ((IntKind.wrap .u64 ((IntKind.wrap .u64 ((ishr .u64 (IntKind.wrap .u64 (qa)) 32) * (ishr .u64 (IntKind.wrap .u64 (qb)) 32))) + (ishr .u64 (IntKind.wrap .u64 ((IntKind.wrap .u64 ((ishr .u64 (IntKind.wrap .u64 (qa)) 32) * (ibits .and .u64 (IntKind.wrap .u64 (qb)) 4294967295))) + (ishr .u64 (IntKind.wrap .u64 ((ibits .and .u64 (IntKind.wrap .u64 (qa)) 4294967295) * (ibits .and .u64 (IntKind.wrap .u64 (qb)) 4294967295))) 32))) 32))) + (ishr .u64 (IntKind.wrap .u64 ((ibits .and .u64 (IntKind.wrap .u64 ((IntKind.wrap .u64 ((ishr .u64 (IntKind.wrap .u64 (qa)) 32) * (ibits .and .u64 (IntKind.wrap .u64 (qb)) 4294967295))) + (ishr .u64 (IntKind.wrap .u64 ((ibits .and .u64 (IntKind.wrap .u64 (qa)) 4294967295) * (ibits .and .u64 (IntKind.wrap .u64 (qb)) 4294967295))) 32))) 4294967295) + (IntKind.wrap .u64 ((ibits .and .u64 (IntKind.wrap .u64 (qa)) 4294967295) * (ishr .u64 (IntKind.wrap .u64 (qb)) 32))))) 32)))))), (10, .c (.d (.int .u64 (IntKind.wrap .u64 ((IntKind.wrap .u64 (qa)) * (IntKind.wrap .u64 (qb))))))), (11, .c (.d (.int .u64 (IntKind.wrap .u64 ((IntKind.wrap .u64 ((IntKind.wrap .u64 ((ishr .u64 (IntKind.wrap .u64 (qc)) 32) * (ishr .u64 (IntKind.wrap .u64 (qd)) 32))) + (ishr .u64 (IntKind.wrap .u64 ((IntKind.wrap .u64 ((ishr .u64 (IntKind.wrap .u64 (qc)) 32) * (ibits .and .u64 (IntKind.wrap .u64 (qd)) 4294967295))) + (ishr .u64 (IntKind.wrap .u64 ((ibits .and .u64 (IntKind.wrap .u64 (qc)) 4294967295) * (ibits .and .u64 (IntKind.wrap .u64 (qd)) 4294967295))) 32))) 32))) + (ishr .u64 (IntKind.wrap .u64 ((ibits .and .u64 (IntKind.wrap .u64 ((IntKind.wrap .u64 ((ishr .u64 (IntKind.wrap .u64 (qc)) 32) * (ibits .and .u64 (IntKind.wrap .u64 (qd)) 4294967295))) + (ishr .u64 (IntKind.wrap .u64 ((ibits .and .u64 (IntKind.wrap .u64 (qc)) 4294967295) * (ibits .and .u64 (IntKind.wrap .u64 (qd)) 4294967295))) 32))) 4294967295) + (IntKind.wrap .u64 ((ibits .and .u64 (IntKind.wrap .u64 (qc)) 4294967295) * (ishr .u64 (IntKind.wrap .u64 (qd)) 32))))) 32)))))), (12, .c (.d (.int .u64 (IntKind.wrap .u64 ((IntKind.wrap .u64 (qc)) * (IntKind.wrap .u64 (qd))))))), (29, .b vx)]) 0

def z12 (qa : Int) (qb : Int) (qc : Int) (qd : Int) : St := Mem.st ⟨[], []⟩ (tl [(9, .c (.d (.int .u64 (IntKind.wrap .u64 ((IntKind.wrap .u64 ((IntKind.wrap .u64 ((ishr .u64 (IntKind.wrap .u64 (qa)) 32) * (ishr .u64 (IntKind.wrap .u64 (qb)) 32))) + (ishr .u64 (IntKind.wrap .u64 ((IntKind.wrap .u64 ((ishr .u64 (IntKind.wrap .u64 (qa)) 32) * (ibits .and .u64 (IntKind.wrap .u64 (qb)) 4294967295))) + (ishr .u64 (IntKind.wrap .u64 ((ibits .and .u64 (IntKind.wrap .u64 (qa)) 4294967295) * (ibits .and .u64 (IntKind.wrap .u64 (qb)) 4294967295))) 32))) 32))) + (ishr .u64 (IntKind.wrap .u64 ((ibits .and .u64 (IntKind.wrap .u64 ((IntKind.wrap .u64 ((ishr .u64 (IntKind.wrap .u64 (qa)) 32) * (ibits .and .u64 (IntKind.wrap .u64 (qb)) 4294967295))) + (ishr .u64 (IntKind.wrap .u64 ((ibits .and .u64 (IntKind.wrap .u64 (qa)) 4294967295) * (ibits .and .u64 (IntKind.wrap .u64 (qb)) 4294967295))) 32))) 4294967295) + (IntKind.wrap .u64 ((ibits .and .u64 (IntKind.wrap .u64 (qa)) 4294967295) * (ishr .u64 (IntKind.wrap .u64 (qb)) 32))))) 32)))))), (10, .c (.d (.int .u64 (IntKind.wrap .u64 ((IntKind.wrap .u64 (qa)) * (IntKind.wrap .u64 (qb))))))), (11, .c (.d (.int .u64 (IntKind.wrap .u64 ((IntKind.wrap .u64 ((IntKind.wrap .u64 ((ishr .u64 (IntKind.wrap .u64 (qc)) 32) * (ishr .u64 (IntKind.wrap .u64 (qd)) 32))) + (ishr .u64 (IntKind.wrap .u64 ((IntKind.wrap .u64 ((ishr .u64 (IntKind.wrap .u64 (qc)) 32) * (ibits .and .u64 (IntKind.wrap .u64 (qd)) 4294967295))) + (ishr .u64 (IntKind.wrap .u64 ((ibits .and .u64 (IntKind.wrap .u64 (qc)) 4294967295) * (ibits .and .u64 (IntKind.wrap .u64 (qd)) 4294967295))) 32))) 32))) + (ishr .u64 (IntKind.wrap .u64 ((ibits .and .u64 (IntKind.wrap .u64 ((IntKind.wrap .u64 ((ishr .u64 (IntKind.wrap .u64 (qc)) 32) * (ibits .and .u64 (IntKind.wrap .u64 (qd)) 4294967295))) + (ishr .u64 (IntKind.wrap .u64 ((ibits .and .u64 (IntKind.wrap .u64 (qc)) 4294967295) * (ibits .and .u64 (IntKind.wrap .u64 (qd)) 4294967295))) 32))) 4294967295) + (IntKind.wrap .u64 ((ibits .and .u64 (IntKind.wrap .u64 (qc)) 4294967295) * (ishr .u64 (IntKind.wrap .u64 (qd)) 32))))) 32)))))), (12, .c (.d (.int .u64 (IntKind.wrap .u64 ((IntKind.wrap .u64 (qc)) * (IntKind.wrap .u64 (qd)))))))]) 0

theorem z14 (qa : Int) (qb : Int) (qc : Int) (qd : Int) {r} (hF : z11 qa qb qc qd = some r) : Awp prog 0 55 (cL (cL (cL (cL (cR (cR (cR (cB f78)))))))) (Out 0 nrm (z13 qa qb qc qd) r) (z12 qa qb qc qd) := by
  unfold z11 at hF
  refine cE hF (fun h3 hF => ?_) fun h3 hF => ?_
  · refine awp_region (aR 2 (aB h3 (aR 6 (aE ?_))))
    exact oO hF [] [] rfl
  · refine awp_region (aR 2 (aB h3 (aR 6 (aE ?_))))
    exact oO hF [] [] rfl

def z9 (qa : Int) (qb : Int) (qc : Int) (qd : Int) : Bool → St
  | vx2 => Mem.st ⟨[], []⟩ (tl [(9, .c (.d (.int .u64 (IntKind.wrap .u64 ((IntKind.wrap .u64 ((IntKind.wrap .u64 ((ishr .u64 (IntKind.wrap .u64 (qa)) 32) * (ishr .u64 (IntKind.wrap .u64 (qb)) 32))) + (ishr .u64 (IntKind.wrap .u64 ((IntKind.wrap .u64 ((ishr .u64 (IntKind.wrap .u64 (qa)) 32) * (ibits .and .u64 (IntKind.wrap .u64 (qb)) 4294967295))) + (ishr .u64 (IntKind.wrap .u64 ((ibits .and .u64 (IntKind.wrap .u64 (qa)) 4294967295) * (ibits .and .u64 (IntKind.wrap .u64 (qb)) 4294967295))) 32))) 32))) + (ishr .u64 (IntKind.wrap .u64 ((ibits .and .u64 (IntKind.wrap .u64 ((IntKind.wrap .u64 ((ishr .u64 (IntKind.wrap .u64 (qa)) 32) * (ibits .and .u64 (IntKind.wrap .u64 (qb)) 4294967295))) + (ishr .u64 (IntKind.wrap .u64 ((ibits .and .u64 (IntKind.wrap .u64 (qa)) 4294967295) * (ibits .and .u64 (IntKind.wrap .u64 (qb)) 4294967295))) 32))) 4294967295) + (IntKind.wrap .u64 ((ibits .and .u64 (IntKind.wrap .u64 (qa)) 4294967295) * (ishr .u64 (IntKind.wrap .u64 (qb)) 32))))) 32)))))), (10, .c (.d (.int .u64 (IntKind.wrap .u64 ((IntKind.wrap .u64 (qa)) * (IntKind.wrap .u64 (qb))))))), (11, .c (.d (.int .u64 (IntKind.wrap .u64 ((IntKind.wrap .u64 ((IntKind.wrap .u64 ((ishr .u64 (IntKind.wrap .u64 (qc)) 32) * (ishr .u64 (IntKind.wrap .u64 (qd)) 32))) + (ishr .u64 (IntKind.wrap .u64 ((IntKind.wrap .u64 ((ishr .u64 (IntKind.wrap .u64 (qc)) 32) * (ibits .and .u64 (IntKind.wrap .u64 (qd)) 4294967295))) + (ishr .u64 (IntKind.wrap .u64 ((ibits .and .u64 (IntKind.wrap .u64 (qc)) 4294967295) * (ibits .and .u64 (IntKind.wrap .u64 (qd)) 4294967295))) 32))) 32))) + (ishr .u64 (IntKind.wrap .u64 ((ibits .and .u64 (IntKind.wrap .u64 ((IntKind.wrap .u64 ((ishr .u64 (IntKind.wrap .u64 (qc)) 32) * (ibits .and .u64 (IntKind.wrap .u64 (qd)) 4294967295))) + (ishr .u64 (IntKind.wrap .u64 ((ibits .and .u64 (IntKind.wrap .u64 (qc)) 4294967295) * (ibits .and .u64 (IntKind.wrap .u64 (qd)) 4294967295))) 32))) 4294967295) + (IntKind.wrap .u64 ((ibits .and .u64 (IntKind.wrap .u64 (qc)) 4294967295) * (ishr .u64 (IntKind.wrap .u64 (qd)) 32))))) 32)))))), (12, .c (.d (.int .u64 (IntKind.wrap .u64 ((IntKind.wrap .u64 (qc)) * (IntKind.wrap .u64 (qd))))))), (29, .b vx2)]) 0

def z8 (qa : Int) (qb : Int) (qc : Int) (qd : Int) : St := Mem.st ⟨[], []⟩ (tl [(9, .c (.d (.int .u64 (IntKind.wrap .u64 ((IntKind.wrap .u64 ((IntKind.wrap .u64 ((ishr .u64 (IntKind.wrap .u64 (qa)) 32) * (ishr .u64 (IntKind.wrap .u64 (qb)) 32))) + (ishr .u64 (IntKind.wrap .u64 ((IntKind.wrap .u64 ((ishr .u64 (IntKind.wrap .u64 (qa)) 32) * (ibits .and .u64 (IntKind.wrap .u64 (qb)) 4294967295))) + (ishr .u64 (IntKind.wrap .u64 ((ibits .and .u64 (IntKind.wrap .u64 (qa)) 4294967295) * (ibits .and .u64 (IntKind.wrap .u64 (qb)) 4294967295))) 32))) 32))) + (ishr .u64 (IntKind.wrap .u64 ((ibits .and .u64 (IntKind.wrap .u64 ((IntKind.wrap .u64 ((ishr .u64 (IntKind.wrap .u64 (qa)) 32) * (ibits .and .u64 (IntKind.wrap .u64 (qb)) 4294967295))) + (ishr .u64 (IntKind.wrap .u64 ((ibits .and .u64 (IntKind.wrap .u64 (qa)) 4294967295) * (ibits .and .u64 (IntKind.wrap .u64 (qb)) 4294967295))) 32))) 4294967295) + (IntKind.wrap .u64 ((ibits .and .u64 (IntKind.wrap .u64 (qa)) 4294967295) * (ishr .u64 (IntKind.wrap .u64 (qb)) 32))))) 32)))))), (10, .c (.d (.int .u64 (IntKind.wrap .u64 ((IntKind.wrap .u64 (qa)) * (IntKind.wrap .u64 (qb))))))), (11, .c (.d (.int .u64 (IntKind.wrap .u64 ((IntKind.wrap .u64 ((IntKind.wrap .u64 ((ishr .u64 (IntKind.wrap .u64 (qc)) 32) * (ishr .u64 (IntKind.wrap .u64 (qd)) 32))) + (ishr .u64 (IntKind.wrap .u64 ((IntKind.wrap .u64 ((ishr .u64 (IntKind.wrap .u64 (qc)) 32) * (ibits .and .u64 (IntKind.wrap .u64 (qd)) 4294967295))) + (ishr .u64 (IntKind.wrap .u64 ((ibits .and .u64 (IntKind.wrap .u64 (qc)) 4294967295) * (ibits .and .u64 (IntKind.wrap .u64 (qd)) 4294967295))) 32))) 32))) + (ishr .u64 (IntKind.wrap .u64 ((ibits .and .u64 (IntKind.wrap .u64 ((IntKind.wrap .u64 ((ishr .u64 (IntKind.wrap .u64 (qc)) 32) * (ibits .and .u64 (IntKind.wrap .u64 (qd)) 4294967295))) + (ishr .u64 (IntKind.wrap .u64 ((ibits .and .u64 (IntKind.wrap .u64 (qc)) 4294967295) * (ibits .and .u64 (IntKind.wrap .u64 (qd)) 4294967295))) 32))) 4294967295) + (IntKind.wrap .u64 ((ibits .and .u64 (IntKind.wrap .u64 (qc)) 4294967295) * (ishr .u64 (IntKind.wrap .u64 (qd)) 32))))) 32)))))), (12, .c (.d (.int .u64 (IntKind.wrap .u64 ((IntKind.wrap .u64 (qc)) * (IntKind.wrap .u64 (qd)))))))]) 0

theorem z10 (qa : Int) (qb : Int) (qc : Int) (qd : Int) {r} (hF : z7 qa qb qc qd = some r) : Awp prog 0 55 (cL (cL (cL (cR (cR (cR (cB f78))))))) (Out 0 nrm (z9 qa qb qc qd) r) (z8 qa qb qc qd) := by
  unfold z7 at hF
  refine awp_seq (awp_to (st' := z12 qa qb qc qd) (oT [] []) ?_)
  refine bE hF fun vx1 h4 hF => awp_sub (z14 qa qb qc qd h4) ?_
  refine cE hF (fun h5 hF => ?_) fun h5 hF => ?_
  · exact tT h5 (awp_skip (oO hF [] [] rfl))
  · refine tF h5 (cE hF (fun h6 hF => ?_) fun h6 hF => ?_)
    · refine awp_region (aR 2 (aB h6 (aR 6 (aE ?_))))
      exact oO hF [] [] rfl
    · refine awp_region (aR 2 (aB h6 (aR 6 (aE ?_))))
      exact oO hF [] [] rfl

def z17 (qa : Int) (qb : Int) (qc : Int) (qd : Int) : Bool → St
  | vx3 => Mem.st ⟨[], []⟩ (tl [(46, .b vx3)]) 0

def z16 (qa : Int) (qb : Int) (qc : Int) (qd : Int) : St := Mem.st ⟨[], []⟩ (tl [(9, .c (.d (.int .u64 (IntKind.wrap .u64 ((IntKind.wrap .u64 ((IntKind.wrap .u64 ((ishr .u64 (IntKind.wrap .u64 (qa)) 32) * (ishr .u64 (IntKind.wrap .u64 (qb)) 32))) + (ishr .u64 (IntKind.wrap .u64 ((IntKind.wrap .u64 ((ishr .u64 (IntKind.wrap .u64 (qa)) 32) * (ibits .and .u64 (IntKind.wrap .u64 (qb)) 4294967295))) + (ishr .u64 (IntKind.wrap .u64 ((ibits .and .u64 (IntKind.wrap .u64 (qa)) 4294967295) * (ibits .and .u64 (IntKind.wrap .u64 (qb)) 4294967295))) 32))) 32))) + (ishr .u64 (IntKind.wrap .u64 ((ibits .and .u64 (IntKind.wrap .u64 ((IntKind.wrap .u64 ((ishr .u64 (IntKind.wrap .u64 (qa)) 32) * (ibits .and .u64 (IntKind.wrap .u64 (qb)) 4294967295))) + (ishr .u64 (IntKind.wrap .u64 ((ibits .and .u64 (IntKind.wrap .u64 (qa)) 4294967295) * (ibits .and .u64 (IntKind.wrap .u64 (qb)) 4294967295))) 32))) 4294967295) + (IntKind.wrap .u64 ((ibits .and .u64 (IntKind.wrap .u64 (qa)) 4294967295) * (ishr .u64 (IntKind.wrap .u64 (qb)) 32))))) 32)))))), (10, .c (.d (.int .u64 (IntKind.wrap .u64 ((IntKind.wrap .u64 (qa)) * (IntKind.wrap .u64 (qb))))))), (11, .c (.d (.int .u64 (IntKind.wrap .u64 ((IntKind.wrap .u64 ((IntKind.wrap .u64 ((ishr .u64 (IntKind.wrap .u64 (qc)) 32) * (ishr .u64 (IntKind.wrap .u64 (qd)) 32))) + (ishr .u64 (IntKind.wrap .u64 ((IntKind.wrap .u64 ((ishr .u64 (IntKind.wrap .u64 (qc)) 32) * (ibits .and .u64 (IntKind.wrap .u64 (qd)) 4294967295))) + (ishr .u64 (IntKind.wrap .u64 ((ibits .and .u64 (IntKind.wrap .u64 (qc)) 4294967295) * (ibits .and .u64 (IntKind.wrap .u64 (qd)) 4294967295))) 32))) 32))) + (ishr .u64 (IntKind.wrap .u64 ((ibits .and .u64 (IntKind.wrap .u64 ((IntKind.wrap .u64 ((ishr .u64 (IntKind.wrap .u64 (qc)) 32) * (ibits .and .u64 (IntKind.wrap .u64 (qd)) 4294967295))) + (ishr .u64 (IntKind.wrap .u64 ((ibits .and .u64 (IntKind.wrap .u64 (qc)) 4294967295) * (ibits .and .u64 (IntKind.wrap .u64 (qd)) 4294967295))) 32))) 4294967295) + (IntKind.wrap .u64 ((ibits .and .u64 (IntKind.wrap .u64 (qc)) 4294967295) * (ishr .u64 (IntKind.wrap .u64 (qd)) 32))))) 32)))))), (12, .c (.d (.int .u64 (IntKind.wrap .u64 ((IntKind.wrap .u64 (qc)) * (IntKind.wrap .u64 (qd)))))))]) 0

theorem z18 (qa : Int) (qb : Int) (qc : Int) (qd : Int) {r} (hF : z15 qa qb qc qd = some r) : Awp prog 0 55 (cL (cR (cR (cL (cL (cR (cR (cR (cB f78))))))))) (Out 0 nrm (z17 qa qb qc qd) r) (z16 qa qb qc qd) := by
  unfold z15 at hF
  refine cE hF (fun h9 hF => ?_) fun h9 hF => ?_
  · refine awp_region (aR 2 (aB h9 (aR 6 (aE ?_))))
    exact oO hF [] [] rfl
  · refine awp_region (aR 2 (aB h9 (aR 6 (aE ?_))))
    exact oO hF [] [] rfl

def z5 (qa : Int) (qb : Int) (qc : Int) (qd : Int) (r : Int) : TV × Mem := (.i r, ⟨[], []⟩)

theorem z6 {qa : Int} {qb : Int} {qc : Int} {qd : Int} {r} (hF : z4 qa qb qc qd = some r) : Holds prog 78 [.i qa, .i qb, .i qc, .i qd] ⟨[], []⟩ (Is (z5 qa qb qc qd r)) := by
  unfold z4 at hF
  refine hW f78 55 0 0 ?_
  refine sR 1 (awp_seq (bE hF fun _ h1 hF => awp_region (aR 4 (aC (z131 h1) [] [] [] (aR 5 (aE ?_))))))
  refine awp_seq (bE hF fun _ h2 hF => awp_region (aR 4 (aC (z131 h2) [] [] [] (aR 5 (aE ?_)))))
  refine awp_seq (awp_block (awp_seq (awp_to (st' := z8 qa qb qc qd) (oT [] []) ?_)))
  refine bE hF fun vx2_1 h7 hF => awp_sub (z10 qa qb qc qd h7) ?_
  refine cE hF (fun h8 hF => ?_) fun h8 hF => ?_
  · exact tT h8 (sR 1 (awp_ret (oF hF [] [])))
  · refine tF h8 (awp_seq (awp_to (st' := z16 qa qb qc qd) (oT [] []) ?_))
    refine bE hF fun vx3_1 h10 hF => awp_sub (z18 qa qb qc qd h10) ?_
    refine cE hF (fun h11 hF => ?_) fun h11 hF => ?_
    · exact tT h11 (sR 1 (awp_ret (oF hF [] [])))
    · exact tF h11 (awp_skip (sR 1 (awp_ret (oF hF [] []))))

/-! ### beaconfleet/place.less -/
def z582 (qa : api_Fraction) (qb : api_Fraction) (r : Bool) : TV × Mem := (.b r, ⟨[], []⟩)

theorem z583 {qa : api_Fraction} {qb : api_Fraction} {r} (hF : z581 qa qb = some r) : Holds prog 37 [.v (.agg [.i qa.Num, .i qa.Den]), .v (.agg [.i qb.Num, .i qb.Den])] ⟨[], []⟩ (Is (z582 qa qb r)) := by
  unfold z581 at hF
  refine hW f37 15 0 0 ?_
  refine sR 3 (awp_seq (bE hF fun vr h1 hF => awp_region (aR 8 (aC (z6 h1) [] [] [] (aR 2 (aE ?_))))))
  exact awp_ret (oF hF [] [])

/-! ### beaconfleet/place.Plain$1 -/
def z443 (qi : Int) (qk : Int) (qx : List Bool) (qx1 : Int) (qx2 : List api_Fix) (r : (List Bool)) : TV × Mem := (.tup [], ⟨[(5, ⟨4, 1, List.map encB r⟩)], [(0, [.own 5 none]), (1, [.i qx1]), (2, [.l api_Fix.enc qx2]), (3, [.fn 34 [0, 1, 2, 3]])]⟩)

def z454 (qi : Int) (qk : Int) (qx : List Bool) (qx1 : Int) (qx2 : List api_Fix) (vaway : api_Fraction) (vbest : Int) (vm : Int) : (api_Fraction × Int) → St
  | (vaway2, vbest2) => Mem.st ⟨[(5, ⟨4, 1, List.map encB ((qx.set qi.toNat true).set qk.toNat true)⟩)], [(0, [.own 5 none]), (1, [.i qx1]), (2, [.l api_Fix.enc qx2]), (3, [.fn 34 [0, 1, 2, 3]]), (6, [.i vaway2.Num, .i vaway2.Den])]⟩ (tl [(0, .i qi), (1, .i qk), (4, .c (.box 2 0)), (5, .c (.box 3 0)), (8, .i vbest2), (9, .c (.box 6 0)), (10, .i vm)]) 7

def z453 (qi : Int) (qk : Int) (qx : List Bool) (qx1 : Int) (qx2 : List api_Fix) (vaway : api_Fraction) (vbest : Int) (vm : Int) : St := Mem.st ⟨[(5, ⟨4, 1, List.map encB ((qx.set qi.toNat true).set qk.toNat true)⟩)], [(0, [.own 5 none]), (1, [.i qx1]), (2, [.l api_Fix.enc qx2]), (3, [.fn 34 [0, 1, 2, 3]]), (6, [.i vaway.Num, .i vaway.Den])]⟩ (tl [(0, .i qi), (1, .i qk), (4, .c (.box 2 0)), (5, .c (.box 3 0)), (8, .i vbest), (9, .c (.box 6 0)), (10, .i vm)]) 7

theorem z455 {recF : Int → Int → (List Bool) → Int → (List api_Fix) → Option ((List Bool))} (ih : ∀ {qi : Int} {qk : Int} {qx : List Bool} {qx1 : Int} {qx2 : List api_Fix} {r}, recF qi qk qx qx1 qx2 = some r → Holds prog 34 [.i qi, .i qk, .c (.box 0 0), .c (.box 1 0), .c (.box 2 0), .c (.box 3 0)] ⟨[(4, ⟨4, 1, List.map encB qx⟩)], [(0, [.own 4 none]), (1, [.i qx1]), (2, [.l api_Fix.enc qx2]), (3, [.fn 34 [0, 1, 2, 3]])]⟩ (Is (z443 qi qk qx qx1 qx2 r))) (qi : Int) (qk : Int) (qx : List Bool) (qx1 : Int) (qx2 : List api_Fix) (vaway : api_Fraction) (vbest : Int) (vm : Int) {r} (hF : z452 recF qi qk qx2 vaway vbest vm = some r) : Awp prog 5 60 (cL (cR (cL (cL (cR (cL (cR (cR (cB f34))))))))) (Out 5 nrm (z454 qi qk qx qx1 qx2 vaway vbest vm) r) (z453 qi qk qx qx1 qx2 vaway vbest vm) := by
  unfold z452 at hF
  refine awp_block (awp_seq (bE hF fun vy5 h4 hF => bE hF fun _ h5 hF => bE hF fun vy6 h6 hF => bE hF fun _ h7 hF => bE hF fun vy7 h8 hF => bE hF fun _ h9 hF => bE hF fun vr2 h10 hF => aD ?_))
  refine dR 2 ?_
  refine dX (x_idx api_Fix.enc h4) ?_
  refine dR 1 ?_
  refine dC (z606 h5) [] [] [] ?_
  refine dR 2 ?_
  refine dX (x_idx api_Fix.enc h6) ?_
  refine dR 1 ?_
  refine dC (z606 h7) [] [] [] ?_
  refine dR 2 ?_
  refine dX (x_idx api_Fix.enc h8) ?_
  refine dR 1 ?_
  refine dC (z606 h9) [] [] [] ?_
  refine dC (z556 h10) [] [] [] ?_
  refine dR 2 ?_
  refine dE ?_
  refine awp_seq (bE hF fun vr1_1 h11 hF => awp_region (aR 2 (aC (z583 h11) [] [] [] (aE ?_))))
  refine cE hF (fun h12 hF => ?_) fun h12 hF => ?_
  · refine tT h12 (aD ?_)
    refine dR 4 ?_
    refine dE ?_
    exact oO hF [] [] rfl
  · exact tF h12 (awp_skip (oO hF [] [] rfl))

def z450 : Int → AEx
  | _ => .exit 0

def z449 (qi : Int) (qk : Int) (qx : List Bool) (qx1 : Int) (qx2 : List api_Fix) : Int → St
  | vbest3 => Mem.st ⟨[(5, ⟨4, 1, List.map encB ((qx.set qi.toNat true).set qk.toNat true)⟩)], [(0, [.own 5 none]), (1, [.i qx1]), (2, [.l api_Fix.enc qx2]), (3, [.fn 34 [0, 1, 2, 3]])]⟩ (tl [(0, .i qi), (1, .i qk), (5, .c (.box 3 0)), (8, .i vbest3)]) 6

def z448 (qi : Int) (qk : Int) (qx : List Bool) (qx1 : Int) (qx2 : List api_Fix) : api_Fraction × Int × Int → St
  | (vaway, vbest, vm) => Mem.st ⟨[(5, ⟨4, 1, List.map encB ((qx.set qi.toNat true).set qk.toNat true)⟩)], [(0, [.own 5 none]), (1, [.i qx1]), (2, [.l api_Fix.enc qx2]), (3, [.fn 34 [0, 1, 2, 3]]), (6, [.i vaway.Num, .i vaway.Den])]⟩ (tl [(0, .i qi), (1, .i qk), (4, .c (.box 2 0)), (5, .c (.box 3 0)), (8, .i vbest), (9, .c (.box 6 0)), (10, .i vm)]) 7

theorem z451 {recF : Int → Int → (List Bool) → Int → (List api_Fix) → Option ((List Bool))} (ih : ∀ {qi : Int} {qk : Int} {qx : List Bool} {qx1 : Int} {qx2 : List api_Fix} {r}, recF qi qk qx qx1 qx2 = some r → Holds prog 34 [.i qi, .i qk, .c (.box 0 0), .c (.box 1 0), .c (.box 2 0), .c (.box 3 0)] ⟨[(4, ⟨4, 1, List.map encB qx⟩)], [(0, [.own 4 none]), (1, [.i qx1]), (2, [.l api_Fix.enc qx2]), (3, [.fn 34 [0, 1, 2, 3]])]⟩ (Is (z443 qi qk qx qx1 qx2 r))) (qi : Int) (qk : Int) (qx : List Bool) (qx1 : Int) (qx2 : List api_Fix) (s : api_Fraction × Int × Int) (r : (api_Fraction × Int × Int) ⊕ (Int)) (hF : z447 recF qi qk qx2 s = some r) : Awp prog 5 60 (cL (cL (cR (cL (cR (cR (cB f34))))))) (Out 5 (kk z450) (SS (z448 qi qk qx qx1 qx2) (z449 qi qk qx qx1 qx2)) r) (z448 qi qk qx qx1 qx2 s) := by
  obtain ⟨vaway, vbest, vm⟩ := s
  unfold z447 at hF
  refine awp_seq (sR 3 (cE hF (fun h3 hF => ?_) fun h3 hF => ?_))
  · refine tT h3 (awp_skip (awp_seq (awp_to (st' := z453 qi qk qx qx1 qx2 vaway vbest vm) (oT [] []) ?_)))
    refine bE hF fun x h13 hF => ?_
    obtain ⟨vaway2_1, vbest2_1⟩ := x
    refine awp_sub (z455 @ih qi qk qx qx1 qx2 vaway vbest vm h13) ?_
    exact gR 3 (oO hF [] [] rfl)
  · refine tF h3 (awp_exit ?_)
    exact oO hF [] [] rfl

theorem z445 (n : Nat) : ∀ {qi : Int} {qk : Int} {qx : List Bool} {qx1 : Int} {qx2 : List api_Fix} {r}, z444 n qi qk qx qx1 qx2 = some r → Holds prog 34 [.i qi, .i qk, .c (.box 0 0), .c (.box 1 0), .c (.box 2 0), .c (.box 3 0)] ⟨[(4, ⟨4, 1, List.map encB qx⟩)], [(0, [.own 4 none]), (1, [.i qx1]), (2, [.l api_Fix.enc qx2]), (3, [.fn 34 [0, 1, 2, 3]])]⟩ (Is (z443 qi qk qx qx1 qx2 r)) := by
  induction n with
  | zero => intro qi qk qx qx1 qx2 r hF; exact nE hF
  | succ n ih =>
    intro qi qk qx qx1 qx2 r hF
    unfold z444 at hF
    refine hW f34 60 5 5 ?_
    refine awp_seq (bE hF fun vy h1 hF => bE hF fun vy1 h2 hF => aDw [4] ?_)
    refine dR 4 ?_
    refine dI encB 4 h1 rfl ?_
    refine dW encB true h1 rfl ?_
    refine dI encB 4 h2 rfl ?_
    refine dW encB true h2 rfl ?_
    refine dE ?_
    refine awp_seq (aD ?_)
    refine dR 7 ?_
    refine dE ?_
    refine awp_seq (sR 3 (awp_block (awp_to (st' := z448 qi qk qx qx1 qx2 (api_Fraction.mk (IntKind.wrap .i64 (qx1 * qx1)) 1, (-1), IntKind.wrap .i64 (qi + 1))) (oT [(5, 4), (6, 12005)] []) ?_)))
    refine bE hF fun vbest3_1 h14 hF => awp_sub (awp_loop' (z448 qi qk qx qx1 qx2) z450 (z449 qi qk qx qx1 qx2) (by intro x; exact fun h => nomatch h) h14 (z451 @ih qi qk qx qx1 qx2)) ?_
    refine sR 2 (cE hF (fun h15 hF => ?_) fun h15 hF => ?_)
    · refine tT h15 (awp_seq (bE hF fun vs h16 hF => awp_region (aR 3 (aC (ih h16) [(4, 5)] [] [] (aE ?_)))))
      refine bE hF fun vs1 h17 hF => awp_region (aR 3 (aC (ih h17) [(4, 5011)] [] [] (aE ?_)))
      exact oF hF [(5, 9011)] []
    · exact tF h15 (awp_skip (oF hF [] []))

theorem z446 {qi : Int} {qk : Int} {qx : List Bool} {qx1 : Int} {qx2 : List api_Fix} {r} (hF : z442 qi qk qx qx1 qx2 = some r) : Holds prog 34 [.i qi, .i qk, .c (.box 0 0), .c (.box 1 0), .c (.box 2 0), .c (.box 3 0)] ⟨[(4, ⟨4, 1, List.map encB qx⟩)], [(0, [.own 4 none]), (1, [.i qx1]), (2, [.l api_Fix.enc qx2]), (3, [.fn 34 [0, 1, 2, 3]])]⟩ (Is (z443 qi qk qx qx1 qx2 r)) :=
  let ⟨n, h⟩ := fixO_some hF
  z445 n h

/-! ### beaconfleet/place.Plain -/
def z460 (ql : List api_Fix) (qmost : Int) : (List Bool) → St
  | vkeep => Mem.st ⟨[(1, ⟨4, 1, List.map encB vkeep⟩)], [(0, [.own 1 none])]⟩ (tl [(7, .c (.box 0 0))]) 2

def z459 (ql : List api_Fix) (qmost : Int) : St := Mem.st ⟨[(2, ⟨4, 1, List.map encB (List.replicate (ql.length : Int).toNat false)⟩)], [(0, [.l api_Fix.enc ql]), (1, [.own 2 none]), (3, [.fn 34 [1, 4, 0, 3]]), (4, [.i qmost])]⟩ (tl [(2, .c (.box 0 0)), (7, .c (.box 1 0)), (8, .c (.box 3 0))]) 5

theorem z461 (ql : List api_Fix) (qmost : Int) {r} (hF : z458 ql qmost = some r) : Awp prog 0 45 (cL (cR (cR (cR (cR (cR (cR (cB f8)))))))) (Out 0 nrm (z460 ql qmost) r) (z459 ql qmost) := by
  unfold z458 at hF
  refine awp_seq (awp_region (aR 1 (aL api_Fix.enc ql (aR 1 (aE ?_)))))
  refine cE hF (fun h6 hF => ?_) fun h6 hF => ?_
  · refine tT h6 (bE hF fun vs2 h7 hF => awp_region (aR 2 (aL api_Fix.enc ql (aR 1 (aC (z446 h7) [(0, 1), (1, 4), (2, 0), (4, 2)] [] [] (aE ?_))))))
    exact oO hF [(0, 1), (1, 7010)] [] rfl
  · exact tF h6 (awp_skip (oO hF [(0, 1), (1, 2)] [] rfl))

def z469 (vkeep1 : List Bool) (vout : List Int) (vx : Int) : (List Int) → St
  | vout2 => Mem.st ⟨[(0, ⟨3, 1, List.map (encI .i64) vout2⟩)], []⟩ (tl [(9, .c (.own 0 none)), (31, .c (.l encB vkeep1)), (32, .i (vkeep1.length : Int)), (33, .i vx)]) 1

def z468 (vkeep1 : List Bool) (vout : List Int) (vx : Int) : St := Mem.st ⟨[(0, ⟨3, 1, List.map (encI .i64) vout⟩)], []⟩ (tl [(9, .c (.own 0 none)), (31, .c (.l encB vkeep1)), (32, .i (vkeep1.length : Int)), (33, .i vx)]) 1

theorem z470 (vkeep1 : List Bool) (vout : List Int) (vx : Int) {r} (hF : z467 vkeep1 vout vx = some r) : Awp prog 0 45 (cL (cR (cR (cL (cL (cR (cL (cR (cR (cR (cR (cR (cR (cR (cR (cB f8)))))))))))))))) (Out 0 nrm (z469 vkeep1 vout vx) r) (z468 vkeep1 vout vx) := by
  unfold z467 at hF
  refine awp_block (awp_seq (bE hF fun vy1 h10 hF => awp_region (aR 1 (aX (x_idx encB h10) (aR 3 (aE ?_))))))
  refine sR 1 (cE hF (fun h11 hF => ?_) fun h11 hF => ?_)
  · refine tT h11 (gE hF fun h12 hF => ?_)
    refine awp_region (aR 3 (aX (x_app (encI .i64) 0 h12) (aR 1 (aE ?_))))
    exact oO hF [(0, 9001)] [] rfl
  · exact tF h11 (awp_skip (oO hF [] [] rfl))

def z465 : (List Int) → AEx
  | _ => .exit 0

def z464 (vkeep1 : List Bool) : (List Int) → St
  | vout3 => Mem.st ⟨[(0, ⟨3, 1, List.map (encI .i64) vout3⟩)], []⟩ (tl [(9, .c (.own 0 none))]) 1

def z463 (vkeep1 : List Bool) : (List Int) × Int → St
  | (vout, vx) => Mem.st ⟨[(0, ⟨3, 1, List.map (encI .i64) vout⟩)], []⟩ (tl [(9, .c (.own 0 none)), (31, .c (.l encB vkeep1)), (32, .i (vkeep1.length : Int)), (33, .i vx)]) 1

theorem z466 (vkeep1 : List Bool) (s : (List Int) × Int) (r : ((List Int) × Int) ⊕ ((List Int))) (hF : z462 vkeep1 s = some r) : Awp prog 0 45 (cL (cL (cR (cL (cR (cR (cR (cR (cR (cR (cR (cR (cB f8))))))))))))) (Out 0 (kk z465) (SS (z463 vkeep1) (z464 vkeep1)) r) (z463 vkeep1 s) := by
  obtain ⟨vout, vx⟩ := s
  unfold z462 at hF
  refine sR 1 (awp_seq (cE hF (fun h9 hF => ?_) fun h9 hF => ?_))
  · refine tT h9 (awp_skip (awp_seq (awp_to (st' := z468 vkeep1 vout vx) (oT [] []) ?_)))
    refine bE hF fun vout2_1 h13 hF => awp_sub (z470 vkeep1 vout vx h13) ?_
    exact gR 2 (oO hF [] [] rfl)
  · refine tF h9 (awp_exit ?_)
    exact oO hF [] [] rfl

def z456 (ql : List api_Fix) (qmost : Int) (r : (List Int) × Int) : TV × Mem := (.tup [.one (.own 0 none), .one (.i r.2)], ⟨[(0, ⟨3, 1, List.map (encI .i64) r.1⟩)], []⟩)

theorem z457 {ql : List api_Fix} {qmost : Int} {r} (hF : z441 ql qmost = some r) : Holds prog 8 [.c (.l api_Fix.enc ql), .i qmost] ⟨[], []⟩ (Is (z456 ql qmost r)) := by
  unfold z441 at hF
  refine hW f8 45 0 0 ?_
  refine sR 4 (awp_seq (awp_seq (bE hF fun vr1 h1 hF => awp_region (aR 1 (aC (z628 h1) [] [] [] (aR 1 (aE ?_)))))))
  refine sR 2 (cE hF (fun h2 hF => ?_) fun h2 hF => ?_)
  · exact tT h2 (sR 3 (awp_ret (oF hF [] [0])))
  · refine tF h2 (awp_skip (awp_seq (awp_seq (bE hF fun vr h3 hF => awp_region (aR 1 (aC (z88 h3) [] [] [] (aE ?_)))))))
    refine cE hF (fun h4 hF => ?_) fun h4 hF => ?_
    · exact tT h4 (sR 2 (awp_ret (oF hF [] [0])))
    · refine tF h4 (awp_skip (awp_seq (gE hF fun h5 hF => ?_)))
      refine awp_region (aR 1 (aL api_Fix.enc ql (aX (x_mk encB false h5) (aR 2 (aE ?_)))))
      refine sR 1 (sR 2 (awp_seq (awp_to (st' := z459 ql qmost) (oT [(1, 14000), (2, 13000), (3, 16000), (4, 1000)] []) ?_)))
      refine bE hF fun vkeep1 h8 hF => awp_sub (z461 ql qmost h8) ?_
      refine sR 1 (awp_seq (awp_seq (awp_region (aR 1 (aL encB vkeep1 (aR 1 (aE ?_)))))))
      refine awp_to (oT (m := ⟨[], []⟩) (ts := [(9, .c (.nil)), (31, .c (.l encB vkeep1)), (32, .i (vkeep1.length : Int)), (33, .i 0)]) (nx := 0) [] []) ?_
      refine awp_block (awp_to (st' := z463 vkeep1 ([], 0)) (oT [] [0]) ?_)
      refine bE hF fun vout3_1 h14 hF => awp_sub (awp_loop' (z463 vkeep1) z465 (z464 vkeep1) (by intro x; exact fun h => nomatch h) h14 (z466 vkeep1)) ?_
      exact sR 3 (awp_ret (oF hF [] []))

/-! ### beaconfleet/place.on -/
def z599 (qa : api_Spot) (qb : api_Spot) (qs : api_Spot) : Bool → St
  | vx => Mem.st ⟨[], []⟩ (tl [(6, .b vx)]) 0

def z598 (qa : api_Spot) (qb : api_Spot) (qs : api_Spot) : St := Mem.st ⟨[], [(0, [.i qa.X, .i qa.Y]), (1, [.i qb.X, .i qb.Y]), (2, [.i qs.X, .i qs.Y])]⟩ (tl [(3, .c (.box 0 0)), (4, .c (.box 1 0)), (5, .c (.box 2 0))]) 3

theorem z600 (qa : api_Spot) (qb : api_Spot) (qs : api_Spot) {r} (hF : z597 qa qb qs = some r) : Awp prog 0 52 (cL (cR (cB f119))) (Out 0 nrm (z599 qa qb qs) r) (z598 qa qb qs) := by
  unfold z597 at hF
  refine bE hF fun _ h1 hF => cE hF (fun h2 hF => ?_) fun h2 hF => ?_
  · refine cE hF (fun h3 hF => ?_) fun h3 hF => ?_
    · refine cE hF (fun h4 hF => ?_) fun h4 hF => ?_
      · refine cE hF (fun h5 hF => ?_) fun h5 hF => ?_
        · refine awp_region (aR 3 (aC (z603 h1) [] [] [] (aB h2 (aR 8 (aB h3 (aR 9 (aB h4 (aR 9 (aB h5 (aR 12 (aE ?_)))))))))))
          exact oO hF [] [] rfl
        · refine awp_region (aR 3 (aC (z603 h1) [] [] [] (aB h2 (aR 8 (aB h3 (aR 9 (aB h4 (aR 9 (aB h5 (aR 12 (aE ?_)))))))))))
          exact oO hF [] [] rfl
      · refine awp_region (aR 3 (aC (z603 h1) [] [] [] (aB h2 (aR 8 (aB h3 (aR 9 (aB h4 (aR 22 (aE ?_)))))))))
        exact oO hF [] [] rfl
    · refine awp_region (aR 3 (aC (z603 h1) [] [] [] (aB h2 (aR 8 (aB h3 (aR 32 (aE ?_)))))))
      exact oO hF [] [] rfl
  · refine awp_region (aR 3 (aC (z603 h1) [] [] [] (aB h2 (aR 41 (aE ?_)))))
    exact oO hF [] [] rfl

def z595 (qa : api_Spot) (qb : api_Spot) (qs : api_Spot) (r : Bool) : TV × Mem := (.b r, ⟨[], []⟩)

theorem z596 {qa : api_Spot} {qb : api_Spot} {qs : api_Spot} {r} (hF : place_on qa qb qs = some r) : Holds prog 119 [.v (.agg [.i qa.X, .i qa.Y]), .v (.agg [.i qb.X, .i qb.Y]), .v (.agg [.i qs.X, .i qs.Y])] ⟨[], []⟩ (Is (z595 qa qb qs r)) := by
  unfold place_on at hF
  refine hW f119 52 0 0 ?_
  refine sR 4 (awp_seq (awp_to (st' := z598 qa qb qs) (oT [(1, 1000), (2, 2000)] []) ?_))
  refine bE hF fun vx1 h6 hF => awp_sub (z600 qa qb qs h6) ?_
  exact awp_ret (oF hF [] [])

/-! ### beaconfleet/place.meets -/
def z589 (qx : api_Spot) (qx1 : api_Spot) (qx2 : api_Spot) (qx3 : api_Spot) : Bool → St
  | vx => Mem.st ⟨[], [(0, [.i qx.X, .i qx.Y]), (1, [.i qx1.X, .i qx1.Y]), (2, [.i qx2.X, .i qx2.Y]), (3, [.i qx3.X, .i qx3.Y])]⟩ (tl [(4, .c (.box 0 0)), (5, .c (.box 1 0)), (6, .c (.box 2 0)), (7, .c (.box 3 0)), (34, .b vx)]) 4

def z588 (qx : api_Spot) (qx1 : api_Spot) (qx2 : api_Spot) (qx3 : api_Spot) : St := Mem.st ⟨[], [(0, [.i qx.X, .i qx.Y]), (1, [.i qx1.X, .i qx1.Y]), (2, [.i qx2.X, .i qx2.Y]), (3, [.i qx3.X, .i qx3.Y])]⟩ (tl [(4, .c (.box 0 0)), (5, .c (.box 1 0)), (6, .c (.box 2 0)), (7, .c (.box 3 0))]) 4

theorem z590 (qx : api_Spot) (qx1 : api_Spot) (qx2 : api_Spot) (qx3 : api_Spot) {r} (hF : z587 qx qx1 qx2 qx3 = some r) : Awp prog 0 65 (cL (cL (cR (cB f110)))) (Out 0 nrm (z589 qx qx1 qx2 qx3) r) (z588 qx qx1 qx2 qx3) := by
  unfold z587 at hF
  refine bE hF fun vr h1 hF => cE hF (fun h2 hF => ?_) fun h2 hF => ?_
  · refine awp_region (aR 3 (aCb (z596 h1) [] [] [] h2 ?_))
    refine aR 18 (aE ?_)
    exact oO hF [] [] rfl
  · refine bE hF fun vr1 h3 hF => cE hF (fun h4 hF => ?_) fun h4 hF => ?_
    · refine awp_region (aR 3 (aCb (z596 h1) [] [] [] h2 ?_))
      refine aR 4 (aCb (z596 h3) [] [] [] h4 ?_)
      refine aR 13 (aE ?_)
      exact oO hF [] [] rfl
    · refine bE hF fun vr2 h5 hF => cE hF (fun h6 hF => ?_) fun h6 hF => ?_
      · refine awp_region (aR 3 (aCb (z596 h1) [] [] [] h2 ?_))
        refine aR 4 (aCb (z596 h3) [] [] [] h4 ?_)
        refine aR 5 (aCb (z596 h5) [] [] [] h6 ?_)
        refine aR 7 (aE ?_)
        exact oO hF [] [] rfl
      · refine bE hF fun vr3 h7 hF => awp_region (aR 3 (aCb (z596 h1) [] [] [] h2 ?_))
        refine aR 4 (aCb (z596 h3) [] [] [] h4 ?_)
        refine aR 5 (aCb (z596 h5) [] [] [] h6 ?_)
        refine aR 5 (aC (z596 h7) [] [] [] (aR 1 (aE ?_)))
        exact oO hF [] [] rfl

def z593 (vr4 : Int) (vr5 : Int) (vr6 : Int) (vr7 : Int) : Bool → St
  | vx2 => Mem.st ⟨[], []⟩ (tl [(8, .b vx2)]) 0

def z592 (vr4 : Int) (vr5 : Int) (vr6 : Int) (vr7 : Int) : St := Mem.st ⟨[], []⟩ (tl [(9, .i vr4), (10, .i vr5), (11, .i vr6), (12, .i vr7)]) 0

theorem z594 (vr4 : Int) (vr5 : Int) (vr6 : Int) (vr7 : Int) {r} (hF : z591 vr4 vr5 vr6 vr7 = some r) : Awp prog 0 65 (cL (cR (cR (cR (cB f110))))) (Out 0 nrm (z593 vr4 vr5 vr6 vr7) r) (z592 vr4 vr5 vr6 vr7) := by
  unfold z591 at hF
  refine cE hF (fun h18 hF => ?_) fun h18 hF => ?_
  · refine awp_region (aR 3 (aB h18 (aR 7 (aE ?_))))
    exact oO hF [] [] rfl
  · refine awp_region (aR 3 (aB h18 (aR 7 (aE ?_))))
    exact oO hF [] [] rfl

def z585 (qx : api_Spot) (qx1 : api_Spot) (qx2 : api_Spot) (qx3 : api_Spot) (r : Bool) : TV × Mem := (.b r, ⟨[], []⟩)

theorem z586 {qx : api_Spot} {qx1 : api_Spot} {qx2 : api_Spot} {qx3 : api_Spot} {r} (hF : z584 qx qx1 qx2 qx3 = some r) : Holds prog 110 [.v (.agg [.i qx.X, .i qx.Y]), .v (.agg [.i qx1.X, .i qx1.Y]), .v (.agg [.i qx2.X, .i qx2.Y]), .v (.agg [.i qx3.X, .i qx3.Y])] ⟨[], []⟩ (Is (z585 qx qx1 qx2 qx3 r)) := by
  unfold z584 at hF
  refine hW f110 65 0 0 ?_
  refine sR 5 (awp_seq (awp_seq (awp_to (st' := z588 qx qx1 qx2 qx3) (oT [(1, 1000), (2, 2000), (3, 3000)] []) ?_)))
  refine bE hF fun vx1 h8 hF => awp_sub (z590 qx qx1 qx2 qx3 h8) ?_
  refine cE hF (fun h9 hF => ?_) fun h9 hF => ?_
  · exact tT h9 (sR 1 (awp_ret (oF hF [] [])))
  · refine tF h9 (awp_skip (awp_seq (bE hF fun _ h10 hF => bE hF fun vr4 h11 hF => bE hF fun _ h12 hF => bE hF fun vr5 h13 hF => bE hF fun _ h14 hF => bE hF fun vr6 h15 hF => bE hF fun _ h16 hF => bE hF fun vr7 h17 hF => aD ?_)))
    refine dR 3 ?_
    refine dC (z603 h10) [] [] [] ?_
    refine dC (z144 h11) [] [] [] ?_
    refine dR 3 ?_
    refine dC (z603 h12) [] [] [] ?_
    refine dC (z144 h13) [] [] [] ?_
    refine dR 3 ?_
    refine dC (z603 h14) [] [] [] ?_
    refine dC (z144 h15) [] [] [] ?_
    refine dR 3 ?_
    refine dC (z603 h16) [] [] [] ?_
    refine dC (z144 h17) [] [] [] ?_
    refine dR 4 ?_
    refine dE ?_
    refine awp_seq (awp_to (st' := z592 vr4 vr5 vr6 vr7) (oT [] []) ?_)
    refine bE hF fun vx2_1 h19 hF => awp_sub (z594 vr4 vr5 vr6 vr7 h19) ?_
    exact awp_ret (oF hF [] [])

/-! ### beaconfleet/place.crossed -/
def z513 (qx : List api_Spot) (vx : Int) (vy6 : api_Spot) (vy7 : api_Spot) (vx8 : Int) (vy10 : api_Spot) (vy11 : api_Spot) : Bool → St
  | vx12 => Mem.st ⟨[], [(0, [.i vy6.X, .i vy6.Y]), (1, [.i vy7.X, .i vy7.Y]), (2, [.i vy10.X, .i vy10.Y]), (3, [.i vy11.X, .i vy11.Y])]⟩ (tl [(0, .c (.l api_Spot.enc qx)), (3, .i (qx.length : Int)), (4, .i vx), (5, .c (.box 0 0)), (6, .c (.box 1 0)), (7, .i vx8), (8, .c (.box 2 0)), (9, .c (.box 3 0)), (10, .b (decide (vx8 = (IntKind.wrap .i64 (vx + 1))))), (11, .b (decide (((IntKind.wrap .i64 (vx8 + 1)).tmod (qx.length : Int)) = vx))), (14, .c (.l api_Spot.enc qx)), (15, .i (qx.length : Int)), (16, .i vx), (56, .b vx12)]) 4

def z512 (qx : List api_Spot) (vx : Int) (vy6 : api_Spot) (vy7 : api_Spot) (vx8 : Int) (vy10 : api_Spot) (vy11 : api_Spot) : St := Mem.st ⟨[], [(0, [.i vy6.X, .i vy6.Y]), (1, [.i vy7.X, .i vy7.Y]), (2, [.i vy10.X, .i vy10.Y]), (3, [.i vy11.X, .i vy11.Y])]⟩ (tl [(0, .c (.l api_Spot.enc qx)), (3, .i (qx.length : Int)), (4, .i vx), (5, .c (.box 0 0)), (6, .c (.box 1 0)), (7, .i vx8), (8, .c (.box 2 0)), (9, .c (.box 3 0)), (10, .b (decide (vx8 = (IntKind.wrap .i64 (vx + 1))))), (11, .b (decide (((IntKind.wrap .i64 (vx8 + 1)).tmod (qx.length : Int)) = vx))), (14, .c (.l api_Spot.enc qx)), (15, .i (qx.length : Int)), (16, .i vx)]) 4

theorem z514 (qx : List api_Spot) (vx : Int) (vy6 : api_Spot) (vy7 : api_Spot) (vx8 : Int) (vy10 : api_Spot) (vy11 : api_Spot) {r} (hF : z511 qx vx vy6 vy7 vx8 vy10 vy11 = some r) : Awp prog 0 99 (cL (cL (cR (cR (cL (cL (cR (cL (cL (cR (cR (cR (cL (cL (cR (cR (cL (cL (cR (cL (cR (cR (cB f79))))))))))))))))))))))) (Out 0 nrm (z513 qx vx vy6 vy7 vx8 vy10 vy11) r) (z512 qx vx vy6 vy7 vx8 vy10 vy11) := by
  unfold z511 at hF
  refine cE hF (fun h9 hF => ?_) fun h9 hF => ?_
  · refine cE hF (fun h10 hF => ?_) fun h10 hF => ?_
    · refine bE hF fun vr8_3 h11 hF => awp_region (aR 1 (aB h9 (aR 2 (aB h10 (aR 6 (aC (z586 h11) [] [] [] (aR 2 (aE ?_))))))))
      exact oO hF [] [] rfl
    · refine awp_region (aR 1 (aB h9 (aR 2 (aB h10 (aR 9 (aE ?_))))))
      exact oO hF [] [] rfl
  · refine awp_region (aR 1 (aB h9 (aR 12 (aE ?_))))
    exact oO hF [] [] rfl

def z517 (qx : List api_Spot) (vx : Int) (vy6 : api_Spot) (vy7 : api_Spot) (vx8 : Int) (vy10 : api_Spot) (vy11 : api_Spot) : Bool → St
  | vx13 => Mem.st ⟨[], [(0, [.i vy6.X, .i vy6.Y]), (1, [.i vy7.X, .i vy7.Y]), (2, [.i vy10.X, .i vy10.Y]), (3, [.i vy11.X, .i vy11.Y])]⟩ (tl [(0, .c (.l api_Spot.enc qx)), (3, .i (qx.length : Int)), (4, .i vx), (5, .c (.box 0 0)), (6, .c (.box 1 0)), (7, .i vx8), (8, .c (.box 2 0)), (9, .c (.box 3 0)), (11, .b (decide (((IntKind.wrap .i64 (vx8 + 1)).tmod (qx.length : Int)) = vx))), (14, .c (.l api_Spot.enc qx)), (15, .i (qx.length : Int)), (16, .i vx), (70, .b vx13)]) 4

def z516 (qx : List api_Spot) (vx : Int) (vy6 : api_Spot) (vy7 : api_Spot) (vx8 : Int) (vy10 : api_Spot) (vy11 : api_Spot) : St := Mem.st ⟨[], [(0, [.i vy6.X, .i vy6.Y]), (1, [.i vy7.X, .i vy7.Y]), (2, [.i vy10.X, .i vy10.Y]), (3, [.i vy11.X, .i vy11.Y])]⟩ (tl [(0, .c (.l api_Spot.enc qx)), (3, .i (qx.length : Int)), (4, .i vx), (5, .c (.box 0 0)), (6, .c (.box 1 0)), (7, .i vx8), (8, .c (.box 2 0)), (9, .c (.box 3 0)), (10, .b (decide (vx8 = (IntKind.wrap .i64 (vx + 1))))), (11, .b (decide (((IntKind.wrap .i64 (vx8 + 1)).tmod (qx.length : Int)) = vx))), (14, .c (.l api_Spot.enc qx)), (15, .i (qx.length : Int)), (16, .i vx)]) 4

theorem z518 (qx : List api_Spot) (vx : Int) (vy6 : api_Spot) (vy7 : api_Spot) (vx8 : Int) (vy10 : api_Spot) (vy11 : api_Spot) {r} (hF : z515 vx vy6 vy7 vx8 vy10 vy11 = some r) : Awp prog 0 99 (cL (cR (cR (cL (cR (cR (cL (cL (cR (cL (cL (cR (cR (cR (cL (cL (cR (cR (cL (cL (cR (cL (cR (cR (cB f79))))))))))))))))))))))))) (Out 0 nrm (z517 qx vx vy6 vy7 vx8 vy10 vy11) r) (z516 qx vx vy6 vy7 vx8 vy10 vy11) := by
  unfold z515 at hF
  refine cE hF (fun h14 hF => ?_) fun h14 hF => ?_
  · refine bE hF fun vr13 h15 hF => cE hF (fun h16 hF => ?_) fun h16 hF => ?_
    · refine awp_region (aB h14 (aR 4 (aCb (z596 h15) [] [] [] h16 ?_)))
      refine aR 8 (aE ?_)
      exact oO hF [] [] rfl
    · refine bE hF fun vr14 h17 hF => awp_region (aB h14 (aR 4 (aCb (z596 h15) [] [] [] h16 ?_)))
      refine aR 4 (aC (z596 h17) [] [] [] (aR 3 (aE ?_)))
      exact oO hF [] [] rfl
  · refine awp_region (aB h14 (aR 13 (aE ?_)))
    exact oO hF [] [] rfl

def z521 (qx : List api_Spot) (vx : Int) (vy6 : api_Spot) (vy7 : api_Spot) (vx8 : Int) (vy10 : api_Spot) (vy11 : api_Spot) : Bool → St
  | vx14 => Mem.st ⟨[], [(0, [.i vy6.X, .i vy6.Y]), (1, [.i vy7.X, .i vy7.Y])]⟩ (tl [(0, .c (.l api_Spot.enc qx)), (3, .i (qx.length : Int)), (4, .i vx), (5, .c (.box 0 0)), (6, .c (.box 1 0)), (7, .i vx8), (14, .c (.l api_Spot.enc qx)), (15, .i (qx.length : Int)), (16, .i vx), (84, .b vx14)]) 2

def z520 (qx : List api_Spot) (vx : Int) (vy6 : api_Spot) (vy7 : api_Spot) (vx8 : Int) (vy10 : api_Spot) (vy11 : api_Spot) : St := Mem.st ⟨[], [(0, [.i vy6.X, .i vy6.Y]), (1, [.i vy7.X, .i vy7.Y]), (2, [.i vy10.X, .i vy10.Y]), (3, [.i vy11.X, .i vy11.Y])]⟩ (tl [(0, .c (.l api_Spot.enc qx)), (3, .i (qx.length : Int)), (4, .i vx), (5, .c (.box 0 0)), (6, .c (.box 1 0)), (7, .i vx8), (8, .c (.box 2 0)), (9, .c (.box 3 0)), (11, .b (decide (((IntKind.wrap .i64 (vx8 + 1)).tmod (qx.length : Int)) = vx))), (14, .c (.l api_Spot.enc qx)), (15, .i (qx.length : Int)), (16, .i vx)]) 4

theorem z522 (qx : List api_Spot) (vx : Int) (vy6 : api_Spot) (vy7 : api_Spot) (vx8 : Int) (vy10 : api_Spot) (vy11 : api_Spot) {r} (hF : z519 qx vx vy6 vy7 vx8 vy10 vy11 = some r) : Awp prog 0 99 (cL (cR (cR (cR (cR (cL (cR (cR (cL (cL (cR (cL (cL (cR (cR (cR (cL (cL (cR (cR (cL (cL (cR (cL (cR (cR (cB f79))))))))))))))))))))))))))) (Out 0 nrm (z521 qx vx vy6 vy7 vx8 vy10 vy11) r) (z520 qx vx vy6 vy7 vx8 vy10 vy11) := by
  unfold z519 at hF
  refine cE hF (fun h20 hF => ?_) fun h20 hF => ?_
  · refine bE hF fun vr15 h21 hF => cE hF (fun h22 hF => ?_) fun h22 hF => ?_
    · refine awp_region (aB h20 (aR 4 (aCb (z596 h21) [] [] [] h22 ?_)))
      refine aR 8 (aE ?_)
      exact oO hF [] [] rfl
    · refine bE hF fun vr16 h23 hF => awp_region (aB h20 (aR 4 (aCb (z596 h21) [] [] [] h22 ?_)))
      refine aR 4 (aC (z596 h23) [] [] [] (aR 3 (aE ?_)))
      exact oO hF [] [] rfl
  · refine awp_region (aB h20 (aR 13 (aE ?_)))
    exact oO hF [] [] rfl

def z509 : Unit ⊕ Unit → AEx
  | .inl _ => .exit 2
  | .inr _ => .ret

def z508 (qx : List api_Spot) (vx : Int) (vy6 : api_Spot) (vy7 : api_Spot) : Unit ⊕ Unit → St
  | .inl _ => Mem.st ⟨[], []⟩ (tl [(0, .c (.l api_Spot.enc qx)), (3, .i (qx.length : Int)), (14, .c (.l api_Spot.enc qx)), (15, .i (qx.length : Int)), (16, .i vx)]) 0
  | .inr _ => Mem.st ⟨[], []⟩ (tl [(2, .b true)]) 0

def z507 (qx : List api_Spot) (vx : Int) (vy6 : api_Spot) (vy7 : api_Spot) : Int → St
  | vx8 => Mem.st ⟨[], [(0, [.i vy6.X, .i vy6.Y]), (1, [.i vy7.X, .i vy7.Y])]⟩ (tl [(0, .c (.l api_Spot.enc qx)), (3, .i (qx.length : Int)), (4, .i vx), (5, .c (.box 0 0)), (6, .c (.box 1 0)), (7, .i vx8), (14, .c (.l api_Spot.enc qx)), (15, .i (qx.length : Int)), (16, .i vx)]) 2

theorem z510 (qx : List api_Spot) (vx : Int) (vy6 : api_Spot) (vy7 : api_Spot) (vx8 : Int) (r : (Int) ⊕ (Unit ⊕ Unit)) (hF : z506 qx vx vy6 vy7 vx8 = some r) : Awp prog 0 99 (cL (cL (cR (cR (cR (cL (cL (cR (cR (cL (cL (cR (cL (cR (cR (cB f79)))))))))))))))) (Out 0 (kk z509) (SS (z507 qx vx vy6 vy7) (z508 qx vx vy6 vy7)) r) (z507 qx vx vy6 vy7 vx8) := by
  unfold z506 at hF
  refine awp_seq (sR 3 (cE hF (fun h5 hF => ?_) fun h5 hF => ?_))
  · refine tT h5 (awp_skip (awp_seq (awp_block (awp_seq (bE hF fun vy10 h6 hF => gE hF fun h7 hF => ?_)))))
    refine bE hF fun vy11 h8 hF => aD ?_
    refine dR 2 ?_
    refine dX (x_idx api_Spot.enc h6) ?_
    refine dR 5 ?_
    refine dX (x_rem h7) ?_
    refine dX (x_idx api_Spot.enc h8) ?_
    refine dR 5 ?_
    refine dE ?_
    refine awp_seq (aD ?_)
    refine dR 7 ?_
    refine dX (x_rem h7) ?_
    refine dR 4 ?_
    refine dE ?_
    refine awp_block (awp_seq (awp_to (st' := z512 qx vx vy6 vy7 vx8 vy10 vy11) (oT [(2, 14002), (3, 15002)] []) ?_))
    refine bE hF fun vx12_1 h12 hF => awp_sub (z514 qx vx vy6 vy7 vx8 vy10 vy11 h12) ?_
    refine cE hF (fun h13 hF => ?_) fun h13 hF => ?_
    · exact tT h13 (sR 1 (awp_ret (oO hF [] [] rfl)))
    · refine tF h13 (awp_seq (awp_to (st' := z516 qx vx vy6 vy7 vx8 vy10 vy11) (oT [] []) ?_))
      refine bE hF fun vx13_1 h18 hF => awp_sub (z518 qx vx vy6 vy7 vx8 vy10 vy11 h18) ?_
      refine cE hF (fun h19 hF => ?_) fun h19 hF => ?_
      · exact tT h19 (sR 1 (awp_ret (oO hF [] [] rfl)))
      · refine tF h19 (awp_seq (awp_to (st' := z520 qx vx vy6 vy7 vx8 vy10 vy11) (oT [] []) ?_))
        refine bE hF fun vx14_1 h24 hF => awp_sub (z522 qx vx vy6 vy7 vx8 vy10 vy11 h24) ?_
        refine cE hF (fun h25 hF => ?_) fun h25 hF => ?_
        · exact tT h25 (sR 1 (awp_ret (oO hF [] [] rfl)))
        · exact tF h25 (awp_skip (gR 3 (oO hF [] [] rfl)))
  · refine tF h5 (awp_exit ?_)
    exact oO hF [] [] rfl

def z504 : Unit ⊕ Unit → AEx
  | .inl _ => .exit 0
  | .inr _ => .ret

def z503 (qx : List api_Spot) : Unit ⊕ Unit → St
  | .inl _ => Mem.st ⟨[], []⟩ (tl []) 0
  | .inr _ => Mem.st ⟨[], []⟩ (tl [(2, .b true)]) 0

def z502 (qx : List api_Spot) : Int → St
  | vx => Mem.st ⟨[], []⟩ (tl [(0, .c (.l api_Spot.enc qx)), (3, .i (qx.length : Int)), (14, .c (.l api_Spot.enc qx)), (15, .i (qx.length : Int)), (16, .i vx)]) 0

theorem z505 (qx : List api_Spot) (vx : Int) (r : (Int) ⊕ (Unit ⊕ Unit)) (hF : z501 qx vx = some r) : Awp prog 0 99 (cL (cL (cR (cL (cR (cR (cB f79))))))) (Out 0 (kk z504) (SS (z502 qx) (z503 qx)) r) (z502 qx vx) := by
  unfold z501 at hF
  refine sR 1 (awp_seq (cE hF (fun h1 hF => ?_) fun h1 hF => ?_))
  · refine tT h1 (awp_skip (awp_seq (awp_block (awp_seq (bE hF fun vy6 h2 hF => awp_region (aR 1 (aX (x_idx api_Spot.enc h2) (aR 4 (aE ?_)))))))))
    refine awp_seq (gE hF fun h3 hF => ?_)
    refine bE hF fun vy7 h4 hF => awp_region (aR 4 (aX (x_rem h3) (aX (x_idx api_Spot.enc h4) (aR 3 (aE ?_)))))
    refine sR 3 (awp_block (awp_to (st' := z507 qx vx vy6 vy7 (IntKind.wrap .i64 (vx + 1))) (oT [(0, 4000), (1, 14000)] []) ?_))
    refine bE hF fun x h26 hF => ?_
    rcases x with _ | _
    · refine awp_sub (awp_loop' (z507 qx vx vy6 vy7) z509 (z508 qx vx vy6 vy7) (by intro x; rcases x with x | x <;> exact fun h => nomatch h) h26 (z510 qx vx vy6 vy7)) ?_
      exact gR 2 (oO hF [] [] rfl)
    · refine awp_sub (awp_loop' (z507 qx vx vy6 vy7) z509 (z508 qx vx vy6 vy7) (by intro x; rcases x with x | x <;> exact fun h => nomatch h) h26 (z510 qx vx vy6 vy7)) ?_
      exact oO hF [] [] rfl
  · refine tF h1 (awp_exit ?_)
    exact oO hF [] [] rfl

def z499 (qx : List api_Spot) (r : Bool) : TV × Mem := (.b r, ⟨[], []⟩)

theorem z500 {qx : List api_Spot} {r} (hF : z498 qx = some r) : Holds prog 79 [.c (.l api_Spot.enc qx)] ⟨[], []⟩ (Is (z499 qx r)) := by
  unfold z498 at hF
  refine hW f79 99 0 0 ?_
  refine sR 1 (awp_seq (awp_region (aR 1 (aL api_Spot.enc qx (aR 1 (aE ?_))))))
  refine awp_seq (awp_seq (awp_region (aR 1 (aL api_Spot.enc qx (aR 1 (aE ?_))))))
  refine awp_block (awp_to (st' := z502 qx 0) (oT [] []) ?_)
  refine bE hF fun x h27 hF => ?_
  rcases x with _ | _
  · refine awp_sub (awp_loop' (z502 qx) z504 (z503 qx) (by intro x; rcases x with x | x <;> exact fun h => nomatch h) h27 (z505 qx)) ?_
    exact sR 1 (awp_ret (oF hF [] []))
  · refine awp_sub (awp_loop' (z502 qx) z504 (z503 qx) (by intro x; rcases x with x | x <;> exact fun h => nomatch h) h27 (z505 qx)) ?_
    exact oF hF [] []

/-! ### beaconfleet/place.CheckFence -/
def z387 : Unit ⊕ Int → AEx
  | .inl _ => .exit 1
  | .inr _ => .ret

def z386 (qf : api_Fence) : Unit ⊕ Int → St
  | .inl _ => Mem.st ⟨[], [(0, [.s qf.Key, .l api_Spot.enc qf.Corners])]⟩ (tl [(1, .c (.box 0 0))]) 1
  | .inr vx1 => Mem.st ⟨[], []⟩ (tl [(2, .i vx1)]) 0

def z385 (qf : api_Fence) : Int → St
  | vx => Mem.st ⟨[], [(0, [.s qf.Key, .l api_Spot.enc qf.Corners])]⟩ (tl [(1, .c (.box 0 0)), (21, .c (.l api_Spot.enc qf.Corners)), (22, .i (qf.Corners.length : Int)), (23, .i vx)]) 1

theorem z388 (qf : api_Fence) (vx : Int) (r : (Int) ⊕ (Unit ⊕ Int)) (hF : z384 qf vx = some r) : Awp prog 0 41 (cL (cL (cR (cL (cR (cR (cB f41))))))) (Out 0 (kk z387) (SS (z385 qf) (z386 qf)) r) (z385 qf vx) := by
  unfold z384 at hF
  refine sR 1 (awp_seq (cE hF (fun h5 hF => ?_) fun h5 hF => ?_))
  · refine tT h5 (awp_skip (awp_seq (awp_block (awp_seq (bE hF fun vy1 h6 hF => awp_region (aR 1 (aX (x_idx api_Spot.enc h6) (aR 4 (aE ?_)))))))))
    refine awp_seq (awp_seq (bE hF fun vr2_1 h7 hF => awp_region (aR 1 (aC (z576 h7) [] [] [] (aR 1 (aE ?_))))))
    refine cE hF (fun h8 hF => ?_) fun h8 hF => ?_
    · exact tT h8 (sR 1 (awp_ret (oO hF [] [] rfl)))
    · refine tF h8 (awp_skip (awp_seq (bE hF fun vl1 h9 hF => bE hF fun vr1_1 h10 hF => aD ?_)))
      refine dR 3 ?_
      refine dX (x_slice api_Spot.enc h9) ?_
      refine dR 1 ?_
      refine dC (z834 h10) [] [] [] ?_
      refine dE ?_
      refine cE hF (fun h11 hF => ?_) fun h11 hF => ?_
      · exact tT h11 (sR 1 (awp_ret (oO hF [] [] rfl)))
      · exact tF h11 (awp_skip (gR 2 (oO hF [] [] rfl)))
  · refine tF h5 (awp_exit ?_)
    exact oO hF [] [] rfl

def z382 (qf : api_Fence) (r : Int) : TV × Mem := (.i r, ⟨[], []⟩)

theorem z383 {qf : api_Fence} {r} (hF : z381 qf = some r) : Holds prog 41 [.v (.agg [.s qf.Key, .l api_Spot.enc qf.Corners])] ⟨[], []⟩ (Is (z382 qf r)) := by
  unfold z381 at hF
  refine hW f41 41 0 0 ?_
  refine sR 2 (awp_seq (awp_block (awp_seq (bE hF fun vr h1 hF => awp_region (aR 2 (aC (z46 h1) [] [] [] (aR 2 (aE ?_))))))))
  refine cE hF (fun h2 hF => ?_) fun h2 hF => ?_
  · exact tT h2 (sR 1 (awp_ret (oF hF [] [])))
  · refine tF h2 (awp_seq (awp_region (aR 2 (aL api_Spot.enc qf.Corners (aR 2 (aE ?_))))))
    refine cE hF (fun h3 hF => ?_) fun h3 hF => ?_
    · exact tT h3 (sR 1 (awp_ret (oF hF [] [])))
    · refine tF h3 (awp_seq (awp_region (aR 2 (aL api_Spot.enc qf.Corners (aR 2 (aE ?_))))))
      refine cE hF (fun h4 hF => ?_) fun h4 hF => ?_
      · exact tT h4 (sR 1 (awp_ret (oF hF [] [])))
      · refine tF h4 (awp_skip (awp_seq (awp_seq (awp_region (aR 2 (aL api_Spot.enc qf.Corners (aR 1 (aE ?_))))))))
        refine awp_block (awp_to (st' := z385 qf 0) (oT [] []) ?_)
        refine bE hF fun x h12 hF => ?_
        rcases x with _ | vx1_1
        · refine awp_sub (awp_loop' (z385 qf) z387 (z386 qf) (by intro x; rcases x with x | x <;> exact fun h => nomatch h) h12 (z388 qf)) ?_
          refine awp_seq (awp_seq (bE hF fun vr17 h13 hF => awp_region (aR 2 (aC (z500 h13) [] [] [] (aE ?_)))))
          refine cE hF (fun h14 hF => ?_) fun h14 hF => ?_
          · exact tT h14 (sR 1 (awp_ret (oF hF [] [])))
          · exact tF h14 (awp_skip (sR 1 (awp_ret (oF hF [] []))))
        · refine awp_sub (awp_loop' (z385 qf) z387 (z386 qf) (by intro x; rcases x with x | x <;> exact fun h => nomatch h) h12 (z388 qf)) ?_
          exact oF hF [] []

/-! ### beaconfleet/place.where$1 -/
def z631 (qa : api_Spot) (qb : api_Spot) (qx : api_Spot) (r : Bool) : TV × Mem := (.b r, ⟨[], [(0, [.i qx.X, .i qx.Y])]⟩)

theorem z632 {qa : api_Spot} {qb : api_Spot} {qx : api_Spot} {r} (hF : z630 qa qb qx = some r) : Holds prog 120 [.v (.agg [.i qa.X, .i qa.Y]), .v (.agg [.i qb.X, .i qb.Y]), .c (.box 0 0)] ⟨[], [(0, [.i qx.X, .i qx.Y])]⟩ (Is (z631 qa qb qx r)) := by
  unfold z630 at hF
  refine hW f120 10 1 1 ?_
  refine sR 3 (awp_seq (bE hF fun vr h1 hF => awp_region (aR 3 (aC (z596 h1) [] [] [] (aR 1 (aE ?_))))))
  exact awp_ret (oF hF [] [])

/-! ### beaconfleet/place.edges -/
def z545 : Unit ⊕ Unit → AEx
  | .inl _ => .exit 0
  | .inr _ => .ret

def z544 (ql : List api_Spot) (qf : api_Spot) : Unit ⊕ Unit → St
  | .inl _ => Mem.st ⟨[], [(0, [.i qf.X, .i qf.Y])]⟩ (tl []) 1
  | .inr _ => Mem.st ⟨[], [(0, [.i qf.X, .i qf.Y])]⟩ (tl [(4, .b true)]) 1

def z543 (ql : List api_Spot) (qf : api_Spot) : Int → St
  | vx => Mem.st ⟨[], [(0, [.i qf.X, .i qf.Y])]⟩ (tl [(0, .c (.l api_Spot.enc ql)), (1, .c (.fn 120 [0])), (7, .c (.l api_Spot.enc ql)), (8, .i (ql.length : Int)), (9, .i vx)]) 1

theorem z546 (ql : List api_Spot) (qf : api_Spot) (vx : Int) (r : (Int) ⊕ (Unit ⊕ Unit)) (hF : z542 ql qf vx = some r) : Awp prog 1 26 (cL (cL (cR (cL (cR (cB f107)))))) (Out 1 (kk z545) (SS (z543 ql qf) (z544 ql qf)) r) (z543 ql qf vx) := by
  unfold z542 at hF
  refine sR 1 (awp_seq (cE hF (fun h1 hF => ?_) fun h1 hF => ?_))
  · refine tT h1 (awp_skip (awp_seq (awp_block (awp_seq (bE hF fun vy2 h2 hF => awp_region (aR 1 (aX (x_idx api_Spot.enc h2) (aR 4 (aE ?_)))))))))
    refine awp_seq (gE hF fun h3 hF => ?_)
    refine bE hF fun vy3 h4 hF => bE hF fun vr1_1 h5 hF => aD ?_
    refine dR 6 ?_
    refine dL api_Spot.enc ql ?_
    refine dX (x_rem h3) ?_
    refine dX (x_idx api_Spot.enc h4) ?_
    refine dR 1 ?_
    refine dC (z632 h5) [] [] [] ?_
    refine dE ?_
    refine cE hF (fun h6 hF => ?_) fun h6 hF => ?_
    · exact tT h6 (sR 1 (awp_ret (oO hF [] [] rfl)))
    · exact tF h6 (awp_skip (gR 2 (oO hF [] [] rfl)))
  · refine tF h1 (awp_exit ?_)
    exact oO hF [] [] rfl

def z540 (ql : List api_Spot) (qf : api_Spot) (r : Bool) : TV × Mem := (.b r, ⟨[], [(0, [.i qf.X, .i qf.Y])]⟩)

theorem z541 {ql : List api_Spot} {qf : api_Spot} {r} (hF : z539 ql qf = some r) : Holds prog 107 [.c (.l api_Spot.enc ql), .c (.fn 120 [0])] ⟨[], [(0, [.i qf.X, .i qf.Y])]⟩ (Is (z540 ql qf r)) := by
  unfold z539 at hF
  refine hW f107 26 1 1 ?_
  refine sR 1 (awp_seq (awp_seq (awp_region (aR 1 (aL api_Spot.enc ql (aR 1 (aE ?_)))))))
  refine awp_block (awp_to (st' := z543 ql qf 0) (oT [] []) ?_)
  refine bE hF fun x h7 hF => ?_
  rcases x with _ | _
  · refine awp_sub (awp_loop' (z543 ql qf) z545 (z544 ql qf) (by intro x; rcases x with x | x <;> exact fun h => nomatch h) h7 (z546 ql qf)) ?_
    exact sR 1 (awp_ret (oF hF [] []))
  · refine awp_sub (awp_loop' (z543 ql qf) z545 (z544 ql qf) (by intro x; rcases x with x | x <;> exact fun h => nomatch h) h7 (z546 ql qf)) ?_
    exact oF hF [] []

/-! ### beaconfleet/place.where$2 -/
def z638 (qa : api_Spot) (qb : api_Spot) (qx : api_Spot) (qx1 : Bool) : (api_Spot × api_Spot) → St
  | (va, vb) => Mem.st ⟨[], [(0, [.i qx.X, .i qx.Y]), (1, [.t qx1]), (2, [.i va.X, .i va.Y]), (3, [.i vb.X, .i vb.Y])]⟩ (tl [(2, .c (.box 0 0)), (3, .c (.box 1 0)), (4, .c (.box 2 0)), (5, .c (.box 3 0))]) 4

def z637 (qa : api_Spot) (qb : api_Spot) (qx : api_Spot) (qx1 : Bool) : St := Mem.st ⟨[], [(0, [.i qx.X, .i qx.Y]), (1, [.t qx1]), (2, [.i qa.X, .i qa.Y]), (3, [.i qb.X, .i qb.Y])]⟩ (tl [(2, .c (.box 0 0)), (3, .c (.box 1 0)), (4, .c (.box 2 0)), (5, .c (.box 3 0))]) 4

theorem z639 (qa : api_Spot) (qb : api_Spot) (qx : api_Spot) (qx1 : Bool) {r} (hF : z636 qa qb = some r) : Awp prog 2 35 (cL (cR (cB f121))) (Out 2 nrm (z638 qa qb qx qx1) r) (z637 qa qb qx qx1) := by
  unfold z636 at hF
  refine sR 5 (cE hF (fun h1 hF => ?_) fun h1 hF => ?_)
  · exact tT h1 (gR 4 (oO hF [] [] rfl))
  · exact tF h1 (awp_skip (oO hF [] [] rfl))

def z646 (qx : api_Spot) (qx1 : Bool) (va1 : api_Spot) (vb1 : api_Spot) : Bool → St
  | vx => Mem.st ⟨[], [(0, [.i qx.X, .i qx.Y]), (1, [.t qx1])]⟩ (tl [(3, .c (.box 1 0)), (32, .b vx)]) 2

def z645 (qx : api_Spot) (qx1 : Bool) (va1 : api_Spot) (vb1 : api_Spot) : St := Mem.st ⟨[], [(0, [.i qx.X, .i qx.Y]), (1, [.t qx1]), (2, [.i va1.X, .i va1.Y]), (3, [.i vb1.X, .i vb1.Y])]⟩ (tl [(2, .c (.box 0 0)), (3, .c (.box 1 0)), (4, .c (.box 2 0)), (5, .c (.box 3 0))]) 4

theorem z647 (qx : api_Spot) (qx1 : Bool) (va1 : api_Spot) (vb1 : api_Spot) {r} (hF : z644 qx va1 vb1 = some r) : Awp prog 2 35 (cL (cL (cR (cR (cB f121))))) (Out 2 nrm (z646 qx qx1 va1 vb1) r) (z645 qx qx1 va1 vb1) := by
  unfold z644 at hF
  refine cE hF (fun h3 hF => ?_) fun h3 hF => ?_
  · refine cE hF (fun h4 hF => ?_) fun h4 hF => ?_
    · refine bE hF fun _ h5 hF => awp_region (aR 4 (aB h3 (aR 5 (aB h4 (aR 5 (aC (z603 h5) [] [] [] (aR 2 (aE ?_))))))))
      exact oO hF [] [] rfl
    · refine awp_region (aR 4 (aB h3 (aR 5 (aB h4 (aR 8 (aE ?_))))))
      exact oO hF [] [] rfl
  · refine awp_region (aR 4 (aB h3 (aR 14 (aE ?_))))
    exact oO hF [] [] rfl

def z642 (qx : api_Spot) (qx1 : Bool) (va1 : api_Spot) (vb1 : api_Spot) : Bool → St
  | vs => Mem.st ⟨[], [(0, [.i qx.X, .i qx.Y]), (1, [.t vs])]⟩ (tl []) 2

def z641 (qx : api_Spot) (qx1 : Bool) (va1 : api_Spot) (vb1 : api_Spot) : St := Mem.st ⟨[], [(0, [.i qx.X, .i qx.Y]), (1, [.t qx1]), (2, [.i va1.X, .i va1.Y]), (3, [.i vb1.X, .i vb1.Y])]⟩ (tl [(2, .c (.box 0 0)), (3, .c (.box 1 0)), (4, .c (.box 2 0)), (5, .c (.box 3 0))]) 4

theorem z643 (qx : api_Spot) (qx1 : Bool) (va1 : api_Spot) (vb1 : api_Spot) {r} (hF : z640 qx qx1 va1 vb1 = some r) : Awp prog 2 35 (cL (cR (cR (cB f121)))) (Out 2 nrm (z642 qx qx1 va1 vb1) r) (z641 qx qx1 va1 vb1) := by
  unfold z640 at hF
  refine awp_seq (awp_to (st' := z645 qx qx1 va1 vb1) (oT [] []) ?_)
  refine bE hF fun vx1 h6 hF => awp_sub (z647 qx qx1 va1 vb1 h6) ?_
  refine cE hF (fun h7 hF => ?_) fun h7 hF => ?_
  · exact tT h7 (gR 3 (oO hF [] [] rfl))
  · exact tF h7 (awp_skip (oO hF [] [] rfl))

def z634 (qa : api_Spot) (qb : api_Spot) (qx : api_Spot) (qx1 : Bool) (r : Bool) : TV × Mem := (.b false, ⟨[], [(0, [.i qx.X, .i qx.Y]), (1, [.t r])]⟩)

theorem z635 {qa : api_Spot} {qb : api_Spot} {qx : api_Spot} {qx1 : Bool} {r} (hF : z633 qa qb qx qx1 = some r) : Holds prog 121 [.v (.agg [.i qa.X, .i qa.Y]), .v (.agg [.i qb.X, .i qb.Y]), .c (.box 0 0), .c (.box 1 0)] ⟨[], [(0, [.i qx.X, .i qx.Y]), (1, [.t qx1])]⟩ (Is (z634 qa qb qx qx1 r)) := by
  unfold z633 at hF
  refine hW f121 35 2 2 ?_
  refine sR 3 (awp_seq (awp_to (st' := z637 qa qb qx qx1) (oT [(3, 1002)] []) ?_))
  refine bE hF fun x h2 hF => ?_
  obtain ⟨va1, vb1⟩ := x
  refine awp_sub (z639 qa qb qx qx1 h2) ?_
  refine awp_seq (awp_to (st' := z641 qx qx1 va1 vb1) (oT [] []) ?_)
  refine bE hF fun vs1 h8 hF => awp_sub (z643 qx qx1 va1 vb1 h8) ?_
  exact sR 1 (awp_ret (oF hF [] []))

/-! ### beaconfleet/place.edges -/
def z553 : Bool → AEx
  | _ => .exit 0

def z552 (ql : List api_Spot) (qf : api_Spot) : Bool → St
  | vs1 => Mem.st ⟨[], [(0, [.i qf.X, .i qf.Y]), (1, [.t vs1])]⟩ (tl []) 2

def z551 (ql : List api_Spot) (qf : api_Spot) : Bool × Int → St
  | (vs, vx) => Mem.st ⟨[], [(0, [.i qf.X, .i qf.Y]), (1, [.t vs])]⟩ (tl [(0, .c (.l api_Spot.enc ql)), (1, .c (.fn 121 [0, 1])), (7, .c (.l api_Spot.enc ql)), (8, .i (ql.length : Int)), (9, .i vx)]) 2

theorem z554 (ql : List api_Spot) (qf : api_Spot) (s : Bool × Int) (r : (Bool × Int) ⊕ (Bool)) (hF : z550 ql qf s = some r) : Awp prog 2 26 (cL (cL (cR (cL (cR (cB f107)))))) (Out 2 (kk z553) (SS (z551 ql qf) (z552 ql qf)) r) (z551 ql qf s) := by
  obtain ⟨vs, vx⟩ := s
  unfold z550 at hF
  refine sR 1 (awp_seq (cE hF (fun h1 hF => ?_) fun h1 hF => ?_))
  · refine tT h1 (awp_skip (awp_seq (awp_block (awp_seq (bE hF fun vy2 h2 hF => awp_region (aR 1 (aX (x_idx api_Spot.enc h2) (aR 4 (aE ?_)))))))))
    refine awp_seq (gE hF fun h3 hF => ?_)
    refine bE hF fun vy3 h4 hF => bE hF fun vs2_1 h5 hF => aD ?_
    refine dR 6 ?_
    refine dL api_Spot.enc ql ?_
    refine dX (x_rem h3) ?_
    refine dX (x_idx api_Spot.enc h4) ?_
    refine dR 1 ?_
    refine dC (z635 h5) [] [] [] ?_
    refine dE ?_
    exact tF rfl (awp_skip (gR 2 (oO hF [] [] rfl)))
  · refine tF h1 (awp_exit ?_)
    exact oO hF [] [] rfl

def z548 (ql : List api_Spot) (qf : api_Spot) (qf1 : Bool) (r : Bool) : TV × Mem := (.b false, ⟨[], [(0, [.i qf.X, .i qf.Y]), (1, [.t r])]⟩)

theorem z549 {ql : List api_Spot} {qf : api_Spot} {qf1 : Bool} {r} (hF : z547 ql qf qf1 = some r) : Holds prog 107 [.c (.l api_Spot.enc ql), .c (.fn 121 [0, 1])] ⟨[], [(0, [.i qf.X, .i qf.Y]), (1, [.t qf1])]⟩ (Is (z548 ql qf qf1 r)) := by
  unfold z547 at hF
  refine hW f107 26 2 2 ?_
  refine sR 1 (awp_seq (awp_seq (awp_region (aR 1 (aL api_Spot.enc ql (aR 1 (aE ?_)))))))
  refine awp_block (awp_to (st' := z551 ql qf (qf1, 0)) (oT [] []) ?_)
  refine bE hF fun vs1_1 h6 hF => awp_sub (awp_loop' (z551 ql qf) z553 (z552 ql qf) (by intro x; exact fun h => nomatch h) h6 (z554 ql qf)) ?_
  exact sR 1 (awp_ret (oF hF [] []))

/-! ### beaconfleet/place.where -/
def z648 (ql : List api_Spot) (qs : api_Spot) (r : Int) : TV × Mem := (.i r, ⟨[], []⟩)

theorem z649 {ql : List api_Spot} {qs : api_Spot} {r} (hF : z629 ql qs = some r) : Holds prog 80 [.c (.l api_Spot.enc ql), .v (.agg [.i qs.X, .i qs.Y])] ⟨[], []⟩ (Is (z648 ql qs r)) := by
  unfold z629 at hF
  refine hW f80 13 0 0 ?_
  refine sR 2 (awp_seq (awp_seq (bE hF fun vr h1 hF => awp_region (aR 2 (aC (z541 h1) [] [] [] (aE ?_))))))
  refine cE hF (fun h2 hF => ?_) fun h2 hF => ?_
  · exact tT h2 (sR 1 (awp_ret (oF hF [] [])))
  · refine tF h2 (awp_skip (sR 2 (awp_seq (bE hF fun vs3 h3 hF => awp_region (aR 2 (aC (z549 h3) [(1, 5000)] [] [] (aE ?_)))))))
    refine awp_seq (sR 1 (cE hF (fun h4 hF => ?_) fun h4 hF => ?_))
    · exact tT h4 (sR 1 (awp_ret (oF hF [] [])))
    · exact tF h4 (awp_skip (sR 1 (awp_ret (oF hF [] []))))

/-! ### beaconfleet/place.touch$1$1 -/
def z613 (qc : api_Spot) (qd : api_Spot) (qx : api_Spot) (qx1 : api_Spot) (r : Bool) : TV × Mem := (.b r, ⟨[], [(0, [.i qx.X, .i qx.Y]), (1, [.i qx1.X, .i qx1.Y])]⟩)

theorem z614 {qc : api_Spot} {qd : api_Spot} {qx : api_Spot} {qx1 : api_Spot} {r} (hF : z612 qc qd qx qx1 = some r) : Holds prog 109 [.v (.agg [.i qc.X, .i qc.Y]), .v (.agg [.i qd.X, .i qd.Y]), .c (.box 0 0), .c (.box 1 0)] ⟨[], [(0, [.i qx.X, .i qx.Y]), (1, [.i qx1.X, .i qx1.Y])]⟩ (Is (z613 qc qd qx qx1 r)) := by
  unfold z612 at hF
  refine hW f109 12 2 2 ?_
  refine sR 3 (awp_seq (bE hF fun vr8 h1 hF => awp_region (aR 4 (aC (z586 h1) [] [] [] (aR 1 (aE ?_))))))
  exact awp_ret (oF hF [] [])

/-! ### beaconfleet/place.edges -/
def z530 : Unit ⊕ Unit → AEx
  | .inl _ => .exit 0
  | .inr _ => .ret

def z529 (ql : List api_Spot) (qf : api_Spot) (qf1 : api_Spot) : Unit ⊕ Unit → St
  | .inl _ => Mem.st ⟨[], [(0, [.i qf.X, .i qf.Y]), (1, [.i qf1.X, .i qf1.Y])]⟩ (tl []) 2
  | .inr _ => Mem.st ⟨[], [(0, [.i qf.X, .i qf.Y]), (1, [.i qf1.X, .i qf1.Y])]⟩ (tl [(4, .b true)]) 2

def z528 (ql : List api_Spot) (qf : api_Spot) (qf1 : api_Spot) : Int → St
  | vx => Mem.st ⟨[], [(0, [.i qf.X, .i qf.Y]), (1, [.i qf1.X, .i qf1.Y])]⟩ (tl [(0, .c (.l api_Spot.enc ql)), (1, .c (.fn 109 [0, 1])), (7, .c (.l api_Spot.enc ql)), (8, .i (ql.length : Int)), (9, .i vx)]) 2

theorem z531 (ql : List api_Spot) (qf : api_Spot) (qf1 : api_Spot) (vx : Int) (r : (Int) ⊕ (Unit ⊕ Unit)) (hF : z527 ql qf qf1 vx = some r) : Awp prog 2 26 (cL (cL (cR (cL (cR (cB f107)))))) (Out 2 (kk z530) (SS (z528 ql qf qf1) (z529 ql qf qf1)) r) (z528 ql qf qf1 vx) := by
  unfold z527 at hF
  refine sR 1 (awp_seq (cE hF (fun h1 hF => ?_) fun h1 hF => ?_))
  · refine tT h1 (awp_skip (awp_seq (awp_block (awp_seq (bE hF fun vy2 h2 hF => awp_region (aR 1 (aX (x_idx api_Spot.enc h2) (aR 4 (aE ?_)))))))))
    refine awp_seq (gE hF fun h3 hF => ?_)
    refine bE hF fun vy3 h4 hF => bE hF fun vr1 h5 hF => aD ?_
    refine dR 6 ?_
    refine dL api_Spot.enc ql ?_
    refine dX (x_rem h3) ?_
    refine dX (x_idx api_Spot.enc h4) ?_
    refine dR 1 ?_
    refine dC (z614 h5) [] [] [] ?_
    refine dE ?_
    refine cE hF (fun h6 hF => ?_) fun h6 hF => ?_
    · exact tT h6 (sR 1 (awp_ret (oO hF [] [] rfl)))
    · exact tF h6 (awp_skip (gR 2 (oO hF [] [] rfl)))
  · refine tF h1 (awp_exit ?_)
    exact oO hF [] [] rfl

def z525 (ql : List api_Spot) (qf : api_Spot) (qf1 : api_Spot) (r : Bool) : TV × Mem := (.b r, ⟨[], [(0, [.i qf.X, .i qf.Y]), (1, [.i qf1.X, .i qf1.Y])]⟩)

theorem z526 {ql : List api_Spot} {qf : api_Spot} {qf1 : api_Spot} {r} (hF : z524 ql qf qf1 = some r) : Holds prog 107 [.c (.l api_Spot.enc ql), .c (.fn 109 [0, 1])] ⟨[], [(0, [.i qf.X, .i qf.Y]), (1, [.i qf1.X, .i qf1.Y])]⟩ (Is (z525 ql qf qf1 r)) := by
  unfold z524 at hF
  refine hW f107 26 2 2 ?_
  refine sR 1 (awp_seq (awp_seq (awp_region (aR 1 (aL api_Spot.enc ql (aR 1 (aE ?_)))))))
  refine awp_block (awp_to (st' := z528 ql qf qf1 0) (oT [] []) ?_)
  refine bE hF fun x h7 hF => ?_
  rcases x with _ | _
  · refine awp_sub (awp_loop' (z528 ql qf qf1) z530 (z529 ql qf qf1) (by intro x; rcases x with x | x <;> exact fun h => nomatch h) h7 (z531 ql qf qf1)) ?_
    exact sR 1 (awp_ret (oF hF [] []))
  · refine awp_sub (awp_loop' (z528 ql qf qf1) z530 (z529 ql qf qf1) (by intro x; rcases x with x | x <;> exact fun h => nomatch h) h7 (z531 ql qf qf1)) ?_
    exact oF hF [] []

/-! ### beaconfleet/place.touch$1 -/
def z615 (qa : api_Spot) (qb : api_Spot) (qx : List api_Spot) (r : Bool) : TV × Mem := (.b r, ⟨[], [(0, [.l api_Spot.enc qx])]⟩)

theorem z616 {qa : api_Spot} {qb : api_Spot} {qx : List api_Spot} {r} (hF : z611 qa qb qx = some r) : Holds prog 108 [.v (.agg [.i qa.X, .i qa.Y]), .v (.agg [.i qb.X, .i qb.Y]), .c (.box 0 0)] ⟨[], [(0, [.l api_Spot.enc qx])]⟩ (Is (z615 qa qb qx r)) := by
  unfold z611 at hF
  refine hW f108 9 1 1 ?_
  refine sR 3 (awp_seq (bE hF fun vr2 h1 hF => awp_region (aR 2 (aC (z526 h1) [(0, 1), (1, 1001)] [] [] (aR 1 (aE ?_))))))
  exact awp_ret (oF hF [] [])

/-! ### beaconfleet/place.edges -/
def z537 : Unit ⊕ Unit → AEx
  | .inl _ => .exit 0
  | .inr _ => .ret

def z536 (ql : List api_Spot) : Unit ⊕ Unit → St
  | .inl _ => Mem.st ⟨[], [(0, [.l api_Spot.enc ql])]⟩ (tl []) 1
  | .inr _ => Mem.st ⟨[], [(0, [.l api_Spot.enc ql])]⟩ (tl [(4, .b true)]) 1

def z535 (ql : List api_Spot) : Int → St
  | vx => Mem.st ⟨[], [(0, [.l api_Spot.enc ql])]⟩ (tl [(0, .c (.l api_Spot.enc ql)), (1, .c (.fn 108 [0])), (7, .c (.l api_Spot.enc ql)), (8, .i (ql.length : Int)), (9, .i vx)]) 1

theorem z538 (ql : List api_Spot) (vx : Int) (r : (Int) ⊕ (Unit ⊕ Unit)) (hF : z534 ql vx = some r) : Awp prog 1 26 (cL (cL (cR (cL (cR (cB f107)))))) (Out 1 (kk z537) (SS (z535 ql) (z536 ql)) r) (z535 ql vx) := by
  unfold z534 at hF
  refine sR 1 (awp_seq (cE hF (fun h1 hF => ?_) fun h1 hF => ?_))
  · refine tT h1 (awp_skip (awp_seq (awp_block (awp_seq (bE hF fun vy2 h2 hF => awp_region (aR 1 (aX (x_idx api_Spot.enc h2) (aR 4 (aE ?_)))))))))
    refine awp_seq (gE hF fun h3 hF => ?_)
    refine bE hF fun vy3 h4 hF => bE hF fun vr1 h5 hF => aD ?_
    refine dR 6 ?_
    refine dL api_Spot.enc ql ?_
    refine dX (x_rem h3) ?_
    refine dX (x_idx api_Spot.enc h4) ?_
    refine dR 1 ?_
    refine dC (z616 h5) [] [] [] ?_
    refine dE ?_
    refine cE hF (fun h6 hF => ?_) fun h6 hF => ?_
    · exact tT h6 (sR 1 (awp_ret (oO hF [] [] rfl)))
    · exact tF h6 (awp_skip (gR 2 (oO hF [] [] rfl)))
  · refine tF h1 (awp_exit ?_)
    exact oO hF [] [] rfl

def z532 (ql : List api_Spot) (r : Bool) : TV × Mem := (.b r, ⟨[], [(0, [.l api_Spot.enc ql])]⟩)

theorem z533 {ql : List api_Spot} {r} (hF : z523 ql = some r) : Holds prog 107 [.c (.l api_Spot.enc ql), .c (.fn 108 [0])] ⟨[], [(0, [.l api_Spot.enc ql])]⟩ (Is (z532 ql r)) := by
  unfold z523 at hF
  refine hW f107 26 1 1 ?_
  refine sR 1 (awp_seq (awp_seq (awp_region (aR 1 (aL api_Spot.enc ql (aR 1 (aE ?_)))))))
  refine awp_block (awp_to (st' := z535 ql 0) (oT [] []) ?_)
  refine bE hF fun x h7 hF => ?_
  rcases x with _ | _
  · refine awp_sub (awp_loop' (z535 ql) z537 (z536 ql) (by intro x; rcases x with x | x <;> exact fun h => nomatch h) h7 (z538 ql)) ?_
    exact sR 1 (awp_ret (oF hF [] []))
  · refine awp_sub (awp_loop' (z535 ql) z537 (z536 ql) (by intro x; rcases x with x | x <;> exact fun h => nomatch h) h7 (z538 ql)) ?_
    exact oF hF [] []

/-! ### beaconfleet/place.touch -/
def z621 (ql : List api_Spot) : Bool → St
  | vx => Mem.st ⟨[], []⟩ (tl [(4, .b vx)]) 0

def z620 (ql : List api_Spot) : St := Mem.st ⟨[], [(0, [.l api_Spot.enc ql])]⟩ (tl [(0, .c (.l api_Spot.enc ql)), (3, .c (.box 0 0))]) 1

theorem z622 (ql : List api_Spot) {r} (hF : z619 ql = some r) : Awp prog 0 24 (cL (cR (cB f67))) (Out 0 nrm (z621 ql) r) (z620 ql) := by
  unfold z619 at hF
  refine bE hF fun vy h1 hF => bE hF fun vr1 h2 hF => cE hF (fun h3 hF => ?_) fun h3 hF => ?_
  · refine aD ?_
    refine dR 2 ?_
    refine dX (x_idx api_Spot.enc h1) ?_
    refine dR 1 ?_
    refine dC (z649 h2) [] [] [] ?_
    refine dB h3 ?_
    refine dR 14 ?_
    refine dE ?_
    exact oO hF [] [] rfl
  · refine bE hF fun vr2 h4 hF => aD ?_
    refine dR 2 ?_
    refine dX (x_idx api_Spot.enc h1) ?_
    refine dR 1 ?_
    refine dC (z649 h2) [] [] [] ?_
    refine dB h3 ?_
    refine dR 3 ?_
    refine dX (x_idx api_Spot.enc h1) ?_
    refine dR 1 ?_
    refine dC (z649 h2) [] [] [] ?_
    refine dB h3 ?_
    refine dR 4 ?_
    refine dC (z533 h4) [] [] [] ?_
    refine dR 2 ?_
    refine dE ?_
    exact oO hF [] [] rfl

def z617 (ql : List api_Spot) (r : Bool) : TV × Mem := (.b r, ⟨[], []⟩)

theorem z618 {ql : List api_Spot} {r} (hF : z610 ql = some r) : Holds prog 67 [.c (.l api_Spot.enc ql), .c (.l api_Spot.enc ql)] ⟨[], []⟩ (Is (z617 ql r)) := by
  unfold z610 at hF
  refine hW f67 24 0 0 ?_
  refine sR 2 (awp_seq (awp_to (st' := z620 ql) (oT [] []) ?_))
  refine bE hF fun vx1 h5 hF => awp_sub (z622 ql h5) ?_
  exact awp_ret (oF hF [] [])

/-! ### beaconfleet/place.Meet -/
def z420 (qf : api_Fence) (r : Bool × Int) : TV × Mem := (.tup [.one (.t r.1), .one (.i r.2)], ⟨[], []⟩)

theorem z421 {qf : api_Fence} {r} (hF : z419 qf = some r) : Holds prog 23 [.v (.agg [.s qf.Key, .l api_Spot.enc qf.Corners]), .v (.agg [.s qf.Key, .l api_Spot.enc qf.Corners])] ⟨[], []⟩ (Is (z420 qf r)) := by
  unfold z419 at hF
  refine hW f23 21 0 0 ?_
  refine sR 4 (awp_seq (awp_seq (bE hF fun vr3 h1 hF => bE hF fun vr h2 hF => aD ?_)))
  refine dR 1 ?_
  refine dC (z383 h1) [] [] [] ?_
  refine dR 1 ?_
  refine dC (z383 h1) [] [] [] ?_
  refine dR 1 ?_
  refine dC (z29 h2) [] [] [8000] ?_
  refine dR 1 ?_
  refine dE ?_
  refine sR 2 (cE hF (fun h3 hF => ?_) fun h3 hF => ?_)
  · exact tT h3 (sR 3 (awp_ret (oF hF [] [])))
  · refine tF h3 (awp_skip (awp_seq (bE hF fun vr1 h4 hF => awp_region (aR 4 (aC (z618 h4) [] [] [] (aR 2 (aE ?_)))))))
    exact awp_ret (oF hF [] [])

/-! ### beaconfleet/place.Stays -/
def z476 (qx : List api_Fix) (qx1 : Int) (qx2 : Int) : Bool → St
  | vx => Mem.st ⟨[], []⟩ (tl [(0, .c (.l api_Fix.enc qx)), (1, .i qx1), (2, .i qx2), (23, .b vx)]) 0

def z475 (qx : List api_Fix) (qx1 : Int) (qx2 : Int) : St := Mem.st ⟨[], []⟩ (tl [(0, .c (.l api_Fix.enc qx)), (1, .i qx1), (2, .i qx2)]) 0

theorem z477 (qx : List api_Fix) (qx1 : Int) (qx2 : Int) {r} (hF : z474 qx1 qx2 = some r) : Awp prog 0 88 (cL (cL (cR (cR (cB f24))))) (Out 0 nrm (z476 qx qx1 qx2) r) (z475 qx qx1 qx2) := by
  unfold z474 at hF
  refine bE hF fun vr h3 hF => cE hF (fun h4 hF => ?_) fun h4 hF => ?_
  · refine awp_region (aR 1 (aCb (z88 h3) [] [] [] h4 ?_))
    refine aR 4 (aE ?_)
    exact oO hF [] [] rfl
  · refine bE hF fun vr2 h5 hF => awp_region (aR 1 (aCb (z88 h3) [] [] [] h4 ?_))
    refine aR 2 (aC (z88 h5) [] [] [] (aR 1 (aE ?_)))
    exact oO hF [] [] rfl

def z490 (qx : List api_Fix) (qx1 : Int) (qx2 : Int) (vx2 : List api_Stay) (vx3 : Int) (vx8 : Int) : Bool → St
  | vx10 => Mem.st ⟨[(0, ⟨121, 4, List.map api_Stay.enc vx2⟩)], []⟩ (tl [(0, .c (.l api_Fix.enc qx)), (1, .i qx1), (2, .i qx2), (9, .c (.own 0 none)), (10, .i vx3), (11, .i vx8), (50, .b vx10)]) 1

def z489 (qx : List api_Fix) (qx1 : Int) (qx2 : Int) (vx2 : List api_Stay) (vx3 : Int) (vx8 : Int) : St := Mem.st ⟨[(0, ⟨121, 4, List.map api_Stay.enc vx2⟩)], []⟩ (tl [(0, .c (.l api_Fix.enc qx)), (1, .i qx1), (2, .i qx2), (9, .c (.own 0 none)), (10, .i vx3), (11, .i vx8)]) 1

theorem z491 (qx : List api_Fix) (qx1 : Int) (qx2 : Int) (vx2 : List api_Stay) (vx3 : Int) (vx8 : Int) {r} (hF : z488 qx qx1 vx3 vx8 = some r) : Awp prog 0 88 (cL (cL (cL (cL (cL (cR (cL (cR (cL (cL (cR (cL (cR (cR (cR (cR (cB f24))))))))))))))))) (Out 0 nrm (z490 qx qx1 qx2 vx2 vx3 vx8) r) (z489 qx qx1 qx2 vx2 vx3 vx8) := by
  unfold z488 at hF
  refine cE hF (fun h9 hF => ?_) fun h9 hF => ?_
  · refine bE hF fun vy8 h10 hF => bE hF fun _ h11 hF => bE hF fun vy9 h12 hF => bE hF fun _ h13 hF => bE hF fun _ h14 hF => aD ?_
    refine dR 2 ?_
    refine dL api_Fix.enc qx ?_
    refine dB h9 ?_
    refine dR 3 ?_
    refine dX (x_idx api_Fix.enc h10) ?_
    refine dR 1 ?_
    refine dC (z606 h11) [] [] [] ?_
    refine dR 2 ?_
    refine dX (x_idx api_Fix.enc h12) ?_
    refine dR 1 ?_
    refine dC (z606 h13) [] [] [] ?_
    refine dC (z609 h14) [] [] [] ?_
    refine dR 5 ?_
    refine dE ?_
    exact oO hF [] [] rfl
  · refine aD ?_
    refine dR 2 ?_
    refine dL api_Fix.enc qx ?_
    refine dB h9 ?_
    refine dR 17 ?_
    refine dE ?_
    exact oO hF [] [] rfl

def z486 : Int → AEx
  | _ => .exit 2

def z485 (qx : List api_Fix) (qx1 : Int) (qx2 : Int) (vx2 : List api_Stay) (vx3 : Int) : Int → St
  | vx11 => Mem.st ⟨[(0, ⟨121, 4, List.map api_Stay.enc vx2⟩)], []⟩ (tl [(0, .c (.l api_Fix.enc qx)), (1, .i qx1), (2, .i qx2), (9, .c (.own 0 none)), (10, .i vx3), (11, .i vx11)]) 1

def z484 (qx : List api_Fix) (qx1 : Int) (qx2 : Int) (vx2 : List api_Stay) (vx3 : Int) : Int → St
  | vx8 => Mem.st ⟨[(0, ⟨121, 4, List.map api_Stay.enc vx2⟩)], []⟩ (tl [(0, .c (.l api_Fix.enc qx)), (1, .i qx1), (2, .i qx2), (9, .c (.own 0 none)), (10, .i vx3), (11, .i vx8)]) 1

theorem z487 (qx : List api_Fix) (qx1 : Int) (qx2 : Int) (vx2 : List api_Stay) (vx3 : Int) (vx8 : Int) (r : (Int) ⊕ (Int)) (hF : z483 qx qx1 vx3 vx8 = some r) : Awp prog 0 88 (cL (cL (cL (cR (cL (cR (cL (cL (cR (cL (cR (cR (cR (cR (cB f24))))))))))))))) (Out 0 (kk z486) (SS (z484 qx qx1 qx2 vx2 vx3) (z485 qx qx1 qx2 vx2 vx3)) r) (z484 qx qx1 qx2 vx2 vx3 vx8) := by
  unfold z483 at hF
  refine awp_seq (awp_seq (awp_to (st' := z489 qx qx1 qx2 vx2 vx3 vx8) (oT [] []) ?_))
  refine bE hF fun vx10_1 h15 hF => awp_sub (z491 qx qx1 qx2 vx2 vx3 vx8 h15) ?_
  refine cE hF (fun h16 hF => ?_) fun h16 hF => ?_
  · exact tT h16 (awp_skip (awp_block (gR 3 (oO hF [] [] rfl))))
  · refine tF h16 (awp_exit ?_)
    exact oO hF [] [] rfl

def z481 : (List api_Stay) → AEx
  | _ => .exit 0

def z480 (qx : List api_Fix) (qx1 : Int) (qx2 : Int) : (List api_Stay) → St
  | vx12 => Mem.st ⟨[(0, ⟨121, 4, List.map api_Stay.enc vx12⟩)], []⟩ (tl [(9, .c (.own 0 none))]) 1

def z479 (qx : List api_Fix) (qx1 : Int) (qx2 : Int) : (List api_Stay) × Int → St
  | (vx2, vx3) => Mem.st ⟨[(0, ⟨121, 4, List.map api_Stay.enc vx2⟩)], []⟩ (tl [(0, .c (.l api_Fix.enc qx)), (1, .i qx1), (2, .i qx2), (9, .c (.own 0 none)), (10, .i vx3)]) 1

theorem z482 (qx : List api_Fix) (qx1 : Int) (qx2 : Int) (s : (List api_Stay) × Int) (r : ((List api_Stay) × Int) ⊕ ((List api_Stay))) (hF : z478 qx qx1 qx2 s = some r) : Awp prog 0 88 (cL (cL (cR (cL (cR (cR (cR (cR (cB f24))))))))) (Out 0 (kk z481) (SS (z479 qx qx1 qx2) (z480 qx qx1 qx2)) r) (z479 qx qx1 qx2 s) := by
  obtain ⟨vx2, vx3⟩ := s
  unfold z478 at hF
  refine awp_seq (awp_seq (awp_region (aR 2 (aL api_Fix.enc qx (aR 1 (aE ?_))))))
  refine cE hF (fun h8 hF => ?_) fun h8 hF => ?_
  · refine tT h8 (awp_skip (awp_block (sR 3 (awp_seq (awp_block (awp_to (st' := z484 qx qx1 qx2 vx2 vx3 (IntKind.wrap .i64 (vx3 + 1))) (oT [] []) ?_))))))
    refine bE hF fun vx11_1 h17 hF => awp_sub (awp_loop' (z484 qx qx1 qx2 vx2 vx3) z486 (z485 qx qx1 qx2 vx2 vx3) (by intro x; exact fun h => nomatch h) h17 (z487 qx qx1 qx2 vx2 vx3)) ?_
    refine awp_seq (bE hF fun vy10 h18 hF => awp_region (aR 3 (aX (x_idx api_Fix.enc h18) (aR 3 (aE ?_)))))
    refine awp_seq (bE hF fun vy11 h19 hF => aD ?_)
    refine dR 4 ?_
    refine dX (x_idx api_Fix.enc h19) ?_
    refine dR 5 ?_
    refine dE ?_
    refine cE hF (fun h20 hF => ?_) fun h20 hF => ?_
    · refine tT h20 (awp_seq (bE hF fun _ h21 hF => gE hF fun h22 hF => ?_))
      refine aD ?_
      refine dR 3 ?_
      refine dX (x_idx api_Fix.enc h19) ?_
      refine dR 6 ?_
      refine dX (x_idx api_Fix.enc h19) ?_
      refine dR 1 ?_
      refine dC (z606 h21) [] [] [] ?_
      refine dR 2 ?_
      refine dX (x_app api_Stay.enc 0 h22) ?_
      refine dR 1 ?_
      refine dE ?_
      exact gR 2 (oO hF [(0, 32001)] [] rfl)
    · exact tF h20 (gR 3 (oO hF [] [] rfl))
  · refine tF h8 (awp_exit ?_)
    exact oO hF [] [] rfl

def z472 (qx : List api_Fix) (qx1 : Int) (qx2 : Int) (r : (List api_Stay) × Int) : TV × Mem := (.tup [.one (.own 0 none), .one (.i r.2)], ⟨[(0, ⟨121, 4, List.map api_Stay.enc r.1⟩)], []⟩)

theorem z473 {qx : List api_Fix} {qx1 : Int} {qx2 : Int} {r} (hF : z471 qx qx1 qx2 = some r) : Holds prog 24 [.c (.l api_Fix.enc qx), .i qx1, .i qx2] ⟨[], []⟩ (Is (z472 qx qx1 qx2 r)) := by
  unfold z471 at hF
  refine hW f24 88 0 0 ?_
  refine sR 2 (awp_seq (awp_seq (bE hF fun vr1 h1 hF => awp_region (aR 1 (aC (z628 h1) [] [] [] (aR 1 (aE ?_)))))))
  refine sR 2 (cE hF (fun h2 hF => ?_) fun h2 hF => ?_)
  · exact tT h2 (sR 3 (awp_ret (oF hF [] [0])))
  · refine tF h2 (awp_skip (awp_seq (awp_seq (awp_to (st' := z475 qx qx1 qx2) (oT [] []) ?_))))
    refine bE hF fun vx1 h6 hF => awp_sub (z477 qx qx1 qx2 h6) ?_
    refine cE hF (fun h7 hF => ?_) fun h7 hF => ?_
    · exact tT h7 (sR 2 (awp_ret (oF hF [] [0])))
    · refine tF h7 (awp_skip (sR 1 (awp_seq (sR 1 (awp_block (awp_to (st' := z479 qx qx1 qx2 ([], 0)) (oT [] [0]) ?_))))))
      refine bE hF fun vx12_1 h23 hF => awp_sub (awp_loop' (z479 qx qx1 qx2) z481 (z480 qx qx1 qx2) (by intro x; exact fun h => nomatch h) h23 (z482 qx qx1 qx2)) ?_
      exact sR 3 (awp_ret (oF hF [] []))

/-! ### slices.Equal[[]beaconfleet/api.Spot,beaconfleet/api.Spot] -/
def z849 : Unit ⊕ Unit → AEx
  | .inl _ => .exit 0
  | .inr _ => .ret

def z848 (qs1 : List api_Spot) : Unit ⊕ Unit → St
  | .inl _ => Mem.st ⟨[], []⟩ (tl []) 0
  | .inr _ => Mem.st ⟨[], []⟩ (tl [(4, .b false)]) 0

def z847 (qs1 : List api_Spot) : Int → St
  | vx => Mem.st ⟨[], []⟩ (tl [(0, .c (.l api_Spot.enc qs1)), (1, .c (.l api_Spot.enc qs1)), (12, .i (qs1.length : Int)), (13, .i vx)]) 0

theorem z850 (qs1 : List api_Spot) (vx : Int) (r : (Int) ⊕ (Unit ⊕ Unit)) (hF : z846 qs1 vx = some r) : Awp prog 0 26 (cL (cL (cR (cL (cR (cR (cB f25))))))) (Out 0 (kk z849) (SS (z847 qs1) (z848 qs1)) r) (z847 qs1 vx) := by
  unfold z846 at hF
  refine sR 1 (awp_seq (cE hF (fun h2 hF => ?_) fun h2 hF => ?_))
  · refine tT h2 (awp_skip (awp_seq (awp_block (sR 2 (awp_seq (bE hF fun vy1 h3 hF => aD ?_))))))
    refine dR 2 ?_
    refine dX (x_idx api_Spot.enc h3) ?_
    refine dR 3 ?_
    refine dX (x_idx api_Spot.enc h3) ?_
    refine dR 1 ?_
    refine dS (U := []) (stable_eqS (op := .neq) (xs := [.int .i64 vy1.X, .int .i64 vy1.Y]) (ys := [.int .i64 vy1.X, .int .i64 vy1.Y]) (b := (decide (vy1.X = vy1.X) && (decide (vy1.Y = vy1.Y) && true))) (c := (!(decide (vy1.X = vy1.X) && (decide (vy1.Y = vy1.Y) && true)))) rfl (.inr ⟨rfl, rfl⟩) (by kernel_rfl) (by kernel_rfl) (by kernel_rfl) (by kernel_rfl) (by kernel_rfl) (by kernel_rfl)) ?_
    refine dE ?_
    refine cE hF (fun h4 hF => ?_) fun h4 hF => ?_
    · exact tT h4 (sR 1 (awp_ret (oO hF [] [] rfl)))
    · exact tF h4 (awp_skip (gR 2 (oO hF [] [] rfl)))
  · refine tF h2 (awp_exit ?_)
    exact oO hF [] [] rfl

def z844 (qs1 : List api_Spot) (r : Bool) : TV × Mem := (.b r, ⟨[], []⟩)

theorem z845 {qs1 : List api_Spot} {r} (hF : z843 qs1 = some r) : Holds prog 25 [.c (.l api_Spot.enc qs1), .c (.l api_Spot.enc qs1)] ⟨[], []⟩ (Is (z844 qs1 r)) := by
  unfold z843 at hF
  refine hW f25 26 0 0 ?_
  refine sR 1 (awp_seq (awp_seq (awp_region (aR 1 (aL api_Spot.enc qs1 (aR 1 (aL api_Spot.enc qs1 (aR 1 (aE ?_)))))))))
  refine cE hF (fun h1 hF => ?_) fun h1 hF => ?_
  · exact tT h1 (sR 1 (awp_ret (oF hF [] [])))
  · refine tF h1 (awp_skip (awp_seq (awp_seq (awp_region (aR 1 (aL api_Spot.enc qs1 (aR 1 (aE ?_))))))))
    refine awp_block (awp_to (st' := z847 qs1 0) (oT [] []) ?_)
    refine bE hF fun x h5 hF => ?_
    rcases x with _ | _
    · refine awp_sub (awp_loop' (z847 qs1) z849 (z848 qs1) (by intro x; rcases x with x | x <;> exact fun h => nomatch h) h5 (z850 qs1)) ?_
      exact sR 1 (awp_ret (oF hF [] []))
    · refine awp_sub (awp_loop' (z847 qs1) z849 (z848 qs1) (by intro x; rcases x with x | x <;> exact fun h => nomatch h) h5 (z850 qs1)) ?_
      exact oF hF [] []

/-! ### slices.Equal[[]beaconfleet/api.Fix,beaconfleet/api.Fix] -/
def z841 : Unit ⊕ Unit → AEx
  | .inl _ => .exit 0
  | .inr _ => .ret

def z840 (qs1 : List api_Fix) : Unit ⊕ Unit → St
  | .inl _ => Mem.st ⟨[], []⟩ (tl []) 0
  | .inr _ => Mem.st ⟨[], []⟩ (tl [(4, .b false)]) 0

def z839 (qs1 : List api_Fix) : Int → St
  | vx => Mem.st ⟨[], []⟩ (tl [(0, .c (.l api_Fix.enc qs1)), (1, .c (.l api_Fix.enc qs1)), (12, .i (qs1.length : Int)), (13, .i vx)]) 0

theorem z842 (qs1 : List api_Fix) (vx : Int) (r : (Int) ⊕ (Unit ⊕ Unit)) (hF : z838 qs1 vx = some r) : Awp prog 0 26 (cL (cL (cR (cL (cR (cR (cB f26))))))) (Out 0 (kk z841) (SS (z839 qs1) (z840 qs1)) r) (z839 qs1 vx) := by
  unfold z838 at hF
  refine sR 1 (awp_seq (cE hF (fun h2 hF => ?_) fun h2 hF => ?_))
  · refine tT h2 (awp_skip (awp_seq (awp_block (sR 2 (awp_seq (bE hF fun vy1 h3 hF => aD ?_))))))
    refine dR 2 ?_
    refine dX (x_idx api_Fix.enc h3) ?_
    refine dR 3 ?_
    refine dX (x_idx api_Fix.enc h3) ?_
    refine dR 1 ?_
    refine dS (U := []) (stable_eqS (op := .neq) (xs := [.str vy1.Device, .int .i64 vy1.At, .int .i64 vy1.X, .int .i64 vy1.Y, .int .i64 vy1.Error]) (ys := [.str vy1.Device, .int .i64 vy1.At, .int .i64 vy1.X, .int .i64 vy1.Y, .int .i64 vy1.Error]) (b := (decide (vy1.Device = vy1.Device) && (decide (vy1.At = vy1.At) && (decide (vy1.X = vy1.X) && (decide (vy1.Y = vy1.Y) && (decide (vy1.Error = vy1.Error) && true)))))) (c := (!(decide (vy1.Device = vy1.Device) && (decide (vy1.At = vy1.At) && (decide (vy1.X = vy1.X) && (decide (vy1.Y = vy1.Y) && (decide (vy1.Error = vy1.Error) && true))))))) rfl (.inr ⟨rfl, rfl⟩) (by kernel_rfl) (by kernel_rfl) (by kernel_rfl) (by kernel_rfl) (by kernel_rfl) (by kernel_rfl)) ?_
    refine dE ?_
    refine cE hF (fun h4 hF => ?_) fun h4 hF => ?_
    · exact tT h4 (sR 1 (awp_ret (oO hF [] [] rfl)))
    · exact tF h4 (awp_skip (gR 2 (oO hF [] [] rfl)))
  · refine tF h2 (awp_exit ?_)
    exact oO hF [] [] rfl

def z836 (qs1 : List api_Fix) (r : Bool) : TV × Mem := (.b r, ⟨[], []⟩)

theorem z837 {qs1 : List api_Fix} {r} (hF : z835 qs1 = some r) : Holds prog 26 [.c (.l api_Fix.enc qs1), .c (.l api_Fix.enc qs1)] ⟨[], []⟩ (Is (z836 qs1 r)) := by
  unfold z835 at hF
  refine hW f26 26 0 0 ?_
  refine sR 1 (awp_seq (awp_seq (awp_region (aR 1 (aL api_Fix.enc qs1 (aR 1 (aL api_Fix.enc qs1 (aR 1 (aE ?_)))))))))
  refine cE hF (fun h1 hF => ?_) fun h1 hF => ?_
  · exact tT h1 (sR 1 (awp_ret (oF hF [] [])))
  · refine tF h1 (awp_skip (awp_seq (awp_seq (awp_region (aR 1 (aL api_Fix.enc qs1 (aR 1 (aE ?_))))))))
    refine awp_block (awp_to (st' := z839 qs1 0) (oT [] []) ?_)
    refine bE hF fun x h5 hF => ?_
    rcases x with _ | _
    · refine awp_sub (awp_loop' (z839 qs1) z841 (z840 qs1) (by intro x; rcases x with x | x <;> exact fun h => nomatch h) h5 (z842 qs1)) ?_
      exact sR 1 (awp_ret (oF hF [] []))
    · refine awp_sub (awp_loop' (z839 qs1) z841 (z840 qs1) (by intro x; rcases x with x | x <;> exact fun h => nomatch h) h5 (z842 qs1)) ?_
      exact oF hF [] []

/-! ### beaconfleet/twin.CheckProps -/
def z1287 : Unit → AEx
  | _ => .exit 0

def z1286 : Unit → St
  | _ => Mem.st ⟨[], [(0, [.nil])]⟩ (tl [(1, .c (.box 0 0))]) 1

def z1285 : Unit → St
  | _ => Mem.st ⟨[], [(0, [.nil])]⟩ (tl [(1, .c (.box 0 0)), (11, .c (.nil)), (12, .i 0), (13, .i 0)]) 1

theorem z1288 (s : Unit) (r : (Unit) ⊕ (Unit)) (hF : z1284  s = some r) : Awp prog 0 57 (cL (cL (cR (cL (cR (cR (cB f88))))))) (Out 0 (kk z1287) (SS (z1285 ) (z1286 )) r) (z1285  s) := by
  unfold z1284 at hF
  refine sR 1 (awp_seq (cE hF (fun h2 hF => ?_) fun h2 hF => ?_))
  · exact tT h2 (awp_skip (awp_seq (awp_block (awp_seq (nE hF)))))
  · refine tF h2 (awp_exit ?_)
    exact oO hF [] [] rfl

def z1292 : Unit → AEx
  | _ => .exit 2

def z1291 : Unit → St
  | _ => Mem.st ⟨[], []⟩ (tl []) 0

def z1290 : Unit → St
  | _ => Mem.st ⟨[], [(0, [.nil])]⟩ (tl [(1, .c (.box 0 0)), (46, .c (.nil)), (47, .i 0), (48, .i 0)]) 1

theorem z1293 (s : Unit) (r : (Unit) ⊕ (Unit)) (hF : z1289  s = some r) : Awp prog 0 57 (cL (cL (cR (cL (cR (cR (cR (cB f88)))))))) (Out 0 (kk z1292) (SS (z1290 ) (z1291 )) r) (z1290  s) := by
  unfold z1289 at hF
  refine sR 1 (awp_seq (cE hF (fun h5 hF => ?_) fun h5 hF => ?_))
  · exact tT h5 (awp_skip (awp_seq (awp_block (awp_seq (nE hF)))))
  · refine tF h5 (awp_exit ?_)
    exact oO hF [] [] rfl

def z1282 (r : Int) : TV × Mem := (.i r, ⟨[], []⟩)

theorem z1283 {r} (hF : z1281 = some r) : Holds prog 88 [.c (.nil)] ⟨[], []⟩ (Is (z1282  r)) := by
  unfold z1281 at hF
  refine hW f88 57 0 0 ?_
  refine sR 2 (awp_seq (sR 3 (cE hF (fun h1 hF => ?_) fun h1 hF => ?_)))
  · exact tT h1 (sR 1 (awp_ret (oF hF [] [])))
  · refine tF h1 (awp_skip (awp_seq (sR 3 (awp_block (awp_to (st' := z1285  ()) (oT [] []) ?_)))))
    refine bE hF fun _ h4 hF => awp_sub (awp_loop' (z1285 ) z1287 (z1286 ) (by intro x; exact fun h => nomatch h) h4 (z1288 )) ?_
    refine awp_seq (sR 3 (awp_block (awp_to (st' := z1290  ()) (oT [] []) ?_)))
    refine bE hF fun _ h7 hF => awp_sub (awp_loop' (z1290 ) z1292 (z1291 ) (by intro x; exact fun h => nomatch h) h7 (z1293 )) ?_
    exact sR 1 (awp_ret (oF hF [] []))

/-! ### internal/stringslite.IndexByte -/
def z1265 (qs : List UInt8) (qc : Int) (r : Unit) : TV × Mem := (.i (Lib.indexByte qs qc.toNat.toUInt8), ⟨[], []⟩)

theorem z1266 {qs : List UInt8} {qc : Int} {r} (hF : z1264 qs qc = some r) : Holds prog 212 [.c (.s qs), .c (.d (.int .u8 qc))] ⟨[], []⟩ (Is (z1265 qs qc r)) := by
  unfold z1264 at hF
  refine hW f212 8 0 0 ?_
  refine sR 1 (awp_seq (awp_region (aR 2 (aS (does_indexByte (g := 226) (fn := f226) (a := qs) (c := qc) rfl (by kernel_rfl) (by kernel_rfl) (by kernel_rfl) (by kernel_rfl) (by kernel_rfl) (by kernel_rfl)) ?_))))
  refine aR 1 (aE ?_)
  exact awp_ret (oF hF [] [])

/-! ### internal/stringslite.Index -/
def z1271 (qx : List UInt8) (qx1 : List UInt8) : Bool → St
  | vx => Mem.st ⟨[], []⟩ (tl [(0, .c (.s qx)), (1, .c (.s qx1)), (5, .i (qx1.length : Int)), (16, .b vx)]) 0

def z1270 (qx : List UInt8) (qx1 : List UInt8) : St := Mem.st ⟨[], []⟩ (tl [(0, .c (.s qx)), (1, .c (.s qx1)), (5, .i (qx1.length : Int))]) 0

theorem z1272 (qx : List UInt8) (qx1 : List UInt8) {r} (hF : z1269 qx qx1 = some r) : Awp prog 0 143 (cL (cL (cL (cR (cR (cB f188)))))) (Out 0 nrm (z1271 qx qx1) r) (z1270 qx qx1) := by
  unfold z1269 at hF
  refine cE hF (fun h1 hF => ?_) fun h1 hF => ?_
  · refine awp_region (aR 1 (aB h1 (aR 6 (aE ?_))))
    exact oO hF [] [] rfl
  · refine awp_region (aR 1 (aB h1 (aR 6 (aE ?_))))
    exact oO hF [] [] rfl

def z1267 (qx : List UInt8) (qx1 : List UInt8) (r : Int) : TV × Mem := (.i r, ⟨[], []⟩)

theorem z1268 {qx : List UInt8} {qx1 : List UInt8} {r} (hF : z1263 qx qx1 = some r) : Holds prog 188 [.c (.s qx), .c (.s qx1)] ⟨[], []⟩ (Is (z1267 qx qx1 r)) := by
  unfold z1263 at hF
  refine hW f188 143 0 0 ?_
  refine sR 1 (sR 3 (awp_seq (awp_block (awp_seq (awp_to (st' := z1270 qx qx1) (oT [] []) ?_)))))
  refine bE hF fun vx1 h2 hF => awp_sub (z1272 qx qx1 h2) ?_
  refine cE hF (fun h3 hF => ?_) fun h3 hF => ?_
  · exact tT h3 (sR 1 (awp_ret (oF hF [] [])))
  · refine tF h3 (sR 3 (cE hF (fun h4 hF => ?_) fun h4 hF => ?_))
    · refine tT h4 (awp_seq (bE hF fun vc h5 hF => bE hF fun _ h6 hF => awp_region (aR 2 (aX (x_idxS h5) (aC (z1266 h6) [] [] [] (aR 1 (aE ?_)))))))
      exact awp_ret (oF hF [] [])
    · refine tF h4 (sR 5 (cE hF (fun h7 hF => ?_) fun h7 hF => ?_))
      · exact tT h7 (sR 1 (awp_ret (oF hF [] [])))
      · exact tF h7 (awp_seq (nE hF))

/-! ### internal/stringslite.Cut -/
def z1254 (qs : List UInt8) (qsep : List UInt8) (r : (List UInt8) × (List UInt8) × Bool) : TV × Mem := (.tup [.one (.s r.1), .one (.s r.2.1), .one (.t r.2.2)], ⟨[], []⟩)

theorem z1255 {qs : List UInt8} {qsep : List UInt8} {r} (hF : z1253 qs qsep = some r) : Holds prog 216 [.c (.s qs), .c (.s qsep)] ⟨[], []⟩ (Is (z1254 qs qsep r)) := by
  unfold z1253 at hF
  refine hW f216 23 0 0 ?_
  refine sR 3 (awp_seq (awp_seq (bE hF fun vr h1 hF => awp_region (aR 2 (aC (z1268 h1) [] [] [] (aR 1 (aE ?_)))))))
  refine sR 2 (cE hF (fun h2 hF => ?_) fun h2 hF => ?_)
  · refine tT h2 (awp_seq (bE hF fun vs h3 hF => bE hF fun vs1 h4 hF => aD ?_))
    refine dR 2 ?_
    refine dX (x_sliceS h3) ?_
    refine dR 5 ?_
    refine dX (x_sliceS h4) ?_
    refine dR 3 ?_
    refine dE ?_
    exact awp_ret (oF hF [] [])
  · exact tF h2 (awp_skip (sR 4 (awp_ret (oF hF [] []))))

/-! ### strings.Cut -/
def z1210 (qs : List UInt8) (qsep : List UInt8) (r : (List UInt8) × (List UInt8) × Bool) : TV × Mem := (.tup [.one (.s r.1), .one (.s r.2.1), .one (.t r.2.2)], ⟨[], []⟩)

theorem z1211 {qs : List UInt8} {qsep : List UInt8} {r} (hF : z1209 qs qsep = some r) : Holds prog 189 [.c (.s qs), .c (.s qsep)] ⟨[], []⟩ (Is (z1210 qs qsep r)) := by
  unfold z1209 at hF
  refine hW f189 13 0 0 ?_
  refine sR 3 (awp_seq (bE hF fun x h1 hF => ?_))
  obtain ⟨vr1, vr2, vr3⟩ := x
  refine awp_region (aR 2 (aC (z1255 h1) [] [] [] (aR 6 (aE ?_))))
  exact awp_ret (oF hF [] [])

/-! ### beaconfleet/base.Dotted -/
def z25 : Unit ⊕ Bool → AEx
  | .inl _ => .exit 0
  | .inr _ => .ret

def z24 (qmost : Int) : Unit ⊕ Bool → St
  | .inl _ => Mem.st ⟨[], []⟩ (tl []) 0
  | .inr vx => Mem.st ⟨[], []⟩ (tl [(4, .b vx)]) 0

def z23 (qmost : Int) : (List UInt8) × Int → St
  | (vs, vn) => Mem.st ⟨[], []⟩ (tl [(0, .c (.s vs)), (1, .i qmost), (5, .i vn)]) 0

theorem z26 (qmost : Int) (s : (List UInt8) × Int) (r : ((List UInt8) × Int) ⊕ (Unit ⊕ Bool)) (hF : z22 qmost s = some r) : Awp prog 0 26 (cL (cL (cR (cL (cR (cB f162)))))) (Out 0 (kk z25) (SS (z23 qmost) (z24 qmost)) r) (z23 qmost s) := by
  obtain ⟨vs, vn⟩ := s
  unfold z22 at hF
  refine awp_seq (sR 3 (cE hF (fun h1 hF => ?_) fun h1 hF => ?_))
  · refine tT h1 (awp_skip (awp_seq (awp_block (awp_seq (bE hF fun x h2 hF => ?_)))))
    obtain ⟨vr2, vr4_1, vr5_1⟩ := x
    refine awp_region (aR 1 (aC (z1211 h2) [] [] [] (aR 7 (aE ?_))))
    refine awp_seq (awp_seq (bE hF fun vr3 h3 hF => awp_region (aR 1 (aC (z46 h3) [] [] [] (aR 1 (aE ?_))))))
    refine cE hF (fun h4 hF => ?_) fun h4 hF => ?_
    · exact tT h4 (sR 1 (awp_ret (oO hF [] [] rfl)))
    · refine tF h4 (awp_skip (awp_seq (sR 2 (cE hF (fun h5 hF => ?_) fun h5 hF => ?_))))
      · exact tT h5 (sR 1 (awp_ret (oO hF [] [] rfl)))
      · exact tF h5 (awp_skip (gR 2 (gR 3 (oO hF [] [] rfl))))
  · refine tF h1 (awp_exit ?_)
    exact oO hF [] [] rfl

def z20 (qs : List UInt8) (qmost : Int) (r : Bool) : TV × Mem := (.b r, ⟨[], []⟩)

theorem z21 {qs : List UInt8} {qmost : Int} {r} (hF : z19 qs qmost = some r) : Holds prog 162 [.c (.s qs), .i qmost] ⟨[], []⟩ (Is (z20 qs qmost r)) := by
  unfold z19 at hF
  refine hW f162 26 0 0 ?_
  refine sR 1 (awp_seq (sR 1 (awp_block (awp_to (st' := z23 qmost (qs, 0)) (oT [] []) ?_))))
  refine bE hF fun x h6 hF => ?_
  rcases x with _ | vx1
  · refine awp_sub (awp_loop' (z23 qmost) z25 (z24 qmost) (by intro x; rcases x with x | x <;> exact fun h => nomatch h) h6 (z26 qmost)) ?_
    exact sR 1 (awp_ret (oF hF [] []))
  · refine awp_sub (awp_loop' (z23 qmost) z25 (z24 qmost) (by intro x; rcases x with x | x <;> exact fun h => nomatch h) h6 (z26 qmost)) ?_
    exact oF hF [] []

/-! ### beaconfleet/twin.isName -/
def z1342 (qs : List UInt8) (r : Bool) : TV × Mem := (.b r, ⟨[], []⟩)

theorem z1343 {qs : List UInt8} {r} (hF : z1341 qs = some r) : Holds prog 130 [.c (.s qs)] ⟨[], []⟩ (Is (z1342 qs r)) := by
  unfold z1341 at hF
  refine hW f130 5 0 0 ?_
  refine sR 1 (awp_seq (bE hF fun vr6 h1 hF => awp_region (aR 1 (aC (z21 h1) [] [] [] (aR 1 (aE ?_))))))
  exact awp_ret (oF hF [] [])

/-! ### unicode/utf8.word[string] -/
def z1419 (qs : List UInt8) (r : Int) : TV × Mem := (.c (.d (.int .u64 r)), ⟨[], []⟩)

theorem z1420 {qs : List UInt8} {r} (hF : z1418 qs = some r) : Holds prog 199 [.c (.s qs)] ⟨[], []⟩ (Is (z1419 qs r)) := by
  unfold z1418 at hF
  refine hW f199 59 0 0 ?_
  refine sR 1 (awp_seq (tF rfl (awp_skip (awp_seq (bE hF fun vc h1 hF => bE hF fun vc1 h2 hF => bE hF fun vc2 h3 hF => bE hF fun vc3 h4 hF => bE hF fun vc4 h5 hF => bE hF fun vc5 h6 hF => bE hF fun vc6 h7 hF => bE hF fun vc7 h8 hF => aD ?_)))))
  refine dR 1 ?_
  refine dX (x_idxS h1) ?_
  refine dR 2 ?_
  refine dX (x_idxS h2) ?_
  refine dR 4 ?_
  refine dX (x_idxS h3) ?_
  refine dR 4 ?_
  refine dX (x_idxS h4) ?_
  refine dR 4 ?_
  refine dX (x_idxS h5) ?_
  refine dR 4 ?_
  refine dX (x_idxS h6) ?_
  refine dR 4 ?_
  refine dX (x_idxS h7) ?_
  refine dR 4 ?_
  refine dX (x_idxS h8) ?_
  refine dR 4 ?_
  refine dE ?_
  exact awp_ret (oF hF [] [])

/-! ### unicode/utf8.ValidString -/
def z1400 (vs12 : List UInt8) : Bool → St
  | vx8 => Mem.st ⟨[], []⟩ (tl [(0, .c (.s vs12)), (24, .b vx8)]) 0

def z1399 (vs12 : List UInt8) : St := Mem.st ⟨[], []⟩ (tl [(0, .c (.s vs12))]) 0

theorem z1401 (vs12 : List UInt8) {r} (hF : z1398 vs12 = some r) : Awp prog 0 169 (cL (cL (cR (cL (cR (cL (cR (cL (cR (cL (cL (cL (cR (cB f166)))))))))))))) (Out 0 nrm (z1400 vs12) r) (z1399 vs12) := by
  unfold z1398 at hF
  refine cE hF (fun h5 hF => ?_) fun h5 hF => ?_
  · refine bE hF fun vr11 h6 hF => awp_region (aR 2 (aB h5 (aR 2 (aC (z1420 h6) [] [] [] (aR 3 (aE ?_))))))
    exact oO hF [] [] rfl
  · refine awp_region (aR 2 (aB h5 (aR 6 (aE ?_))))
    exact oO hF [] [] rfl

def z1404 (vs13 : List UInt8) : Bool → St
  | vx9 => Mem.st ⟨[], []⟩ (tl [(0, .c (.s vs13)), (39, .b vx9)]) 0

def z1403 (vs13 : List UInt8) : St := Mem.st ⟨[], []⟩ (tl [(0, .c (.s vs13))]) 0

theorem z1405 (vs13 : List UInt8) {r} (hF : z1402 vs13 = some r) : Awp prog 0 169 (cL (cR (cL (cR (cL (cR (cL (cR (cL (cR (cL (cR (cL (cL (cL (cR (cB f166))))))))))))))))) (Out 0 nrm (z1404 vs13) r) (z1403 vs13) := by
  unfold z1402 at hF
  refine cE hF (fun h10 hF => ?_) fun h10 hF => ?_
  · refine bE hF fun vr12 h11 hF => bE hF fun vs14 h12 hF => bE hF fun vr13 h13 hF => aD ?_
    refine dR 2 ?_
    refine dB h10 ?_
    refine dR 2 ?_
    refine dC (z1420 h11) [] [] [] ?_
    refine dR 1 ?_
    refine dX (x_sliceS h12) ?_
    refine dC (z1420 h13) [] [] [] ?_
    refine dR 4 ?_
    refine dE ?_
    exact oO hF [] [] rfl
  · refine aD ?_
    refine dR 2 ?_
    refine dB h10 ?_
    refine dR 10 ?_
    refine dE ?_
    exact oO hF [] [] rfl

def z1413 (vx10 : List UInt8) : Bool → St
  | vx12 => Mem.st ⟨[], []⟩ (tl [(0, .c (.s vx10)), (62, .b vx12)]) 0

def z1412 (vx10 : List UInt8) : St := Mem.st ⟨[], []⟩ (tl [(0, .c (.s vx10))]) 0

theorem z1414 (vx10 : List UInt8) {r} (hF : z1411 vx10 = some r) : Awp prog 0 169 (cL (cL (cL (cL (cR (cL (cR (cR (cL (cR (cL (cR (cL (cR (cL (cR (cL (cR (cL (cL (cL (cR (cB f166))))))))))))))))))))))) (Out 0 nrm (z1413 vx10) r) (z1412 vx10) := by
  unfold z1411 at hF
  refine cE hF (fun h17 hF => ?_) fun h17 hF => ?_
  · refine bE hF fun vr18 h18 hF => bE hF fun vs20 h19 hF => bE hF fun vr19 h20 hF => bE hF fun vs21 h21 hF => bE hF fun vr20 h22 hF => bE hF fun vs22 h23 hF => bE hF fun vr21 h24 hF => aD ?_
    refine dR 2 ?_
    refine dB h17 ?_
    refine dR 2 ?_
    refine dC (z1420 h18) [] [] [] ?_
    refine dR 1 ?_
    refine dX (x_sliceS h19) ?_
    refine dC (z1420 h20) [] [] [] ?_
    refine dR 2 ?_
    refine dX (x_sliceS h21) ?_
    refine dC (z1420 h22) [] [] [] ?_
    refine dR 1 ?_
    refine dX (x_sliceS h23) ?_
    refine dC (z1420 h24) [] [] [] ?_
    refine dR 5 ?_
    refine dE ?_
    exact oO hF [] [] rfl
  · refine aD ?_
    refine dR 2 ?_
    refine dB h17 ?_
    refine dR 18 ?_
    refine dE ?_
    exact oO hF [] [] rfl

def z1409 : (List UInt8) → AEx
  | _ => .exit 2

def z1408 : (List UInt8) → St
  | vx13 => Mem.st ⟨[], []⟩ (tl [(0, .c (.s vx13))]) 0

def z1407 : (List UInt8) → St
  | vx10 => Mem.st ⟨[], []⟩ (tl [(0, .c (.s vx10))]) 0

theorem z1410 (vx10 : (List UInt8)) (r : ((List UInt8)) ⊕ ((List UInt8))) (hF : z1406  vx10 = some r) : Awp prog 0 169 (cL (cL (cR (cL (cR (cR (cL (cR (cL (cR (cL (cR (cL (cR (cL (cR (cL (cL (cL (cR (cB f166))))))))))))))))))))) (Out 0 (kk z1409) (SS (z1407 ) (z1408 )) r) (z1407  vx10) := by
  unfold z1406 at hF
  refine awp_seq (awp_seq (awp_to (st' := z1412 vx10) (oT [] []) ?_))
  refine bE hF fun vx12_1 h25 hF => awp_sub (z1414 vx10 h25) ?_
  refine cE hF (fun h26 hF => ?_) fun h26 hF => ?_
  · refine tT h26 (awp_skip (awp_block (bE hF fun vs23 h27 hF => awp_region (aR 1 (aX (x_sliceS h27) (aR 1 (aE ?_)))))))
    exact oO hF [] [] rfl
  · refine tF h26 (awp_exit ?_)
    exact oO hF [] [] rfl

def z1396 (vs12 : List UInt8) : (List UInt8) → St
  | vx14 => Mem.st ⟨[], []⟩ (tl [(0, .c (.s vx14))]) 0

def z1395 (vs12 : List UInt8) : St := Mem.st ⟨[], []⟩ (tl [(0, .c (.s vs12))]) 0

theorem z1397 (vs12 : List UInt8) {r} (hF : z1394 vs12 = some r) : Awp prog 0 169 (cL (cR (cL (cR (cL (cR (cL (cR (cL (cL (cL (cR (cB f166))))))))))))) (Out 0 nrm (z1396 vs12) r) (z1395 vs12) := by
  unfold z1394 at hF
  refine awp_seq (awp_to (st' := z1399 vs12) (oT [] []) ?_)
  refine bE hF fun vx8_1 h7 hF => awp_sub (z1401 vs12 h7) ?_
  refine cE hF (fun h8 hF => ?_) fun h8 hF => ?_
  · refine tT h8 (awp_seq (bE hF fun vs13 h9 hF => awp_region (aR 1 (aX (x_sliceS h9) (aR 1 (aE ?_))))))
    refine awp_seq (awp_to (st' := z1403 vs13) (oT [] []) ?_)
    refine bE hF fun vx9_1 h14 hF => awp_sub (z1405 vs13 h14) ?_
    refine cE hF (fun h15 hF => ?_) fun h15 hF => ?_
    · refine tT h15 (awp_seq (bE hF fun vs15 h16 hF => awp_region (aR 1 (aX (x_sliceS h16) (aR 1 (aE ?_))))))
      refine awp_block (awp_to (st' := z1407  vs15) (oT [] []) ?_)
      refine bE hF fun vx13_1 h28 hF => awp_sub (awp_loop' (z1407 ) z1409 (z1408 ) (by intro x; exact fun h => nomatch h) h28 (z1410 )) ?_
      exact oO hF [] [] rfl
    · exact tF h15 (awp_skip (oO hF [] [] rfl))
  · exact tF h8 (awp_skip (oO hF [] [] rfl))

def z1392 : Unit → AEx
  | _ => .exit 0

def z1391 : Unit → St
  | _ => Mem.st ⟨[], []⟩ (tl []) 0

def z1390 : (List UInt8) → St
  | vx => Mem.st ⟨[], []⟩ (tl [(0, .c (.s vx))]) 0

theorem z1393 (vx : (List UInt8)) (r : ((List UInt8)) ⊕ (Unit)) (hF : z1389  vx = some r) : Awp prog 0 169 (cL (cL (cL (cR (cB f166))))) (Out 0 (kk z1392) (SS (z1390 ) (z1391 )) r) (z1390  vx) := by
  unfold z1389 at hF
  refine awp_seq (sR 3 (cE hF (fun h1 hF => ?_) fun h1 hF => ?_))
  · refine tT h1 (awp_skip (awp_block (awp_seq (bE hF fun vc1 h2 hF => awp_region (aR 1 (aX (x_idxS h2) (aR 1 (aE ?_))))))))
    refine awp_seq (sR 2 (cE hF (fun h3 hF => ?_) fun h3 hF => ?_))
    · refine tT h3 (awp_seq (bE hF fun vs12 h4 hF => awp_region (aR 1 (aX (x_sliceS h4) (aR 1 (aE ?_))))))
      refine awp_seq (awp_to (st' := z1395 vs12) (oT [] []) ?_)
      refine bE hF fun vx14_1 h29 hF => awp_sub (z1397 vs12 h29) ?_
      refine awp_exit ?_
      exact oO hF [] [] rfl
    · exact tF h3 (awp_skip (awp_seq (nE hF)))
  · refine tF h1 (awp_exit ?_)
    exact oO hF [] [] rfl

def z1387 (qx : List UInt8) (r : Unit) : TV × Mem := (.b true, ⟨[], []⟩)

theorem z1388 {qx : List UInt8} {r} (hF : z1386 qx = some r) : Holds prog 166 [.c (.s qx)] ⟨[], []⟩ (Is (z1387 qx r)) := by
  unfold z1386 at hF
  refine hW f166 169 0 0 ?_
  refine sR 1 (awp_seq (awp_block (awp_to (st' := z1390  qx) (oT [] []) ?_)))
  refine bE hF fun _ h30 hF => awp_sub (awp_loop' (z1390 ) z1392 (z1391 ) (by intro x; exact fun h => nomatch h) h30 (z1393 )) ?_
  exact sR 1 (awp_ret (oF hF [] []))

/-! ### beaconfleet/base.Unmarked -/
def z103 (qs : List UInt8) (vx : Int) : Bool → St
  | vx2 => Mem.st ⟨[], []⟩ (tl [(0, .c (.s qs)), (5, .i (qs.length : Int)), (6, .i vx), (18, .b vx2)]) 0

def z102 (qs : List UInt8) (vx : Int) : St := Mem.st ⟨[], []⟩ (tl [(0, .c (.s qs)), (3, .i vx), (5, .i (qs.length : Int)), (6, .i vx)]) 0

theorem z104 (qs : List UInt8) (vx : Int) {r} (hF : z101 qs vx = some r) : Awp prog 0 22 (cL (cR (cL (cL (cR (cR (cL (cL (cR (cL (cR (cB f137)))))))))))) (Out 0 nrm (z103 qs vx) r) (z102 qs vx) := by
  unfold z101 at hF
  refine bE hF fun vc1 h2 hF => cE hF (fun h3 hF => ?_) fun h3 hF => ?_
  · refine awp_region (aR 2 (aX (x_idxS h2) (aB h3 (aR 6 (aE ?_)))))
    exact oO hF [] [] rfl
  · refine awp_region (aR 2 (aX (x_idxS h2) (aB h3 (aR 3 (aX (x_idxS h2) (aR 2 (aE ?_)))))))
    exact oO hF [] [] rfl

def z99 : Unit ⊕ Unit → AEx
  | .inl _ => .exit 0
  | .inr _ => .ret

def z98 (qs : List UInt8) : Unit ⊕ Unit → St
  | .inl _ => Mem.st ⟨[], []⟩ (tl [(0, .c (.s qs))]) 0
  | .inr _ => Mem.st ⟨[], []⟩ (tl [(2, .b false)]) 0

def z97 (qs : List UInt8) : Int → St
  | vx => Mem.st ⟨[], []⟩ (tl [(0, .c (.s qs)), (5, .i (qs.length : Int)), (6, .i vx)]) 0

theorem z100 (qs : List UInt8) (vx : Int) (r : (Int) ⊕ (Unit ⊕ Unit)) (hF : z96 qs vx = some r) : Awp prog 0 22 (cL (cL (cR (cL (cR (cB f137)))))) (Out 0 (kk z99) (SS (z97 qs) (z98 qs)) r) (z97 qs vx) := by
  unfold z96 at hF
  refine sR 1 (awp_seq (cE hF (fun h1 hF => ?_) fun h1 hF => ?_))
  · refine tT h1 (awp_skip (awp_seq (awp_block (sR 2 (awp_seq (awp_to (st' := z102 qs vx) (oT [] []) ?_))))))
    refine bE hF fun vx2_1 h4 hF => awp_sub (z104 qs vx h4) ?_
    refine cE hF (fun h5 hF => ?_) fun h5 hF => ?_
    · exact tT h5 (sR 1 (awp_ret (oO hF [] [] rfl)))
    · exact tF h5 (awp_skip (gR 2 (oO hF [] [] rfl)))
  · refine tF h1 (awp_exit ?_)
    exact oO hF [] [] rfl

def z94 (qs : List UInt8) (r : Bool) : TV × Mem := (.b r, ⟨[], []⟩)

theorem z95 {qs : List UInt8} {r} (hF : z93 qs = some r) : Holds prog 137 [.c (.s qs)] ⟨[], []⟩ (Is (z94 qs r)) := by
  unfold z93 at hF
  refine hW f137 22 0 0 ?_
  refine sR 1 (awp_seq (sR 3 (awp_block (awp_to (st' := z97 qs 0) (oT [] []) ?_))))
  refine bE hF fun x h6 hF => ?_
  rcases x with _ | _
  · refine awp_sub (awp_loop' (z97 qs) z99 (z98 qs) (by intro x; rcases x with x | x <;> exact fun h => nomatch h) h6 (z100 qs)) ?_
    refine awp_seq (bE hF fun _ h7 hF => awp_region (aR 1 (aC (z1388 h7) [] [] [] (aR 1 (aE ?_)))))
    exact awp_ret (oF hF [] [])
  · refine awp_sub (awp_loop' (z97 qs) z99 (z98 qs) (by intro x; rcases x with x | x <;> exact fun h => nomatch h) h6 (z100 qs)) ?_
    exact oF hF [] []

/-! ### beaconfleet/twin.valueFault -/
def z1363 : api_Value ⊕ Unit → AEx
  | .inl _ => .normal
  | .inr _ => .ret

def z1362 (qv : api_Value) : api_Value ⊕ Unit → St
  | .inl vused => Mem.st ⟨[], [(0, [.i qv.Kind, .t qv.Flag, .i qv.Number, .s qv.Words]), (1, [.i vused.Kind, .t vused.Flag, .i vused.Number, .s vused.Words])]⟩ (tl [(1, .c (.box 0 0)), (3, .c (.box 1 0))]) 2
  | .inr _ => Mem.st ⟨[], []⟩ (tl [(2, .i 4)]) 0

def z1361 (qv : api_Value) : St := Mem.st ⟨[], [(0, [.i qv.Kind, .t qv.Flag, .i qv.Number, .s qv.Words]), (1, [.i qv.Kind, .t false, .i 0, .s ([] : List UInt8)])]⟩ (tl [(1, .c (.box 0 0)), (3, .c (.box 1 0))]) 2

theorem z1364 (qv : api_Value) {r} (hF : z1360 qv = some r) : Awp prog 0 44 (cL (cR (cR (cB f131)))) (Out 0 z1363 (z1362 qv) r) (z1361 qv) := by
  unfold z1360 at hF
  refine sR 2 (awp_block (sR 2 (cE hF (fun h1 hF => ?_) fun h1 hF => ?_)))
  · exact tT h1 (awp_skip (oO hF [] [] rfl))
  · refine tF h1 (sR 2 (cE hF (fun h2 hF => ?_) fun h2 hF => ?_))
    · exact tT h2 (gR 4 (oO hF [] [] rfl))
    · refine tF h2 (sR 2 (cE hF (fun h3 hF => ?_) fun h3 hF => ?_))
      · exact tT h3 (gR 4 (oO hF [] [] rfl))
      · refine tF h3 (sR 2 (cE hF (fun h4 hF => ?_) fun h4 hF => ?_))
        · exact tT h4 (gR 4 (oO hF [] [] rfl))
        · exact tF h4 (sR 1 (awp_ret (oO hF [] [] rfl)))

def z1358 (qv : api_Value) (r : Int) : TV × Mem := (.i r, ⟨[], []⟩)

theorem z1359 {qv : api_Value} {r} (hF : z1357 qv = some r) : Holds prog 131 [.v (.agg [.i qv.Kind, .t qv.Flag, .i qv.Number, .s qv.Words])] ⟨[], []⟩ (Is (z1358 qv r)) := by
  unfold z1357 at hF
  refine hW f131 44 0 0 ?_
  refine sR 2 (sR 5 (awp_seq (awp_to (st' := z1361 qv) (oT [(1, 5000)] []) ?_)))
  refine bE hF fun x h5 hF => ?_
  rcases x with vused1 | _
  · refine awp_sub (z1364 qv h5) ?_
    refine awp_seq (awp_block (awp_seq (awp_region (aR 2 (aS (does_eqS (op := .neq) (xs := [.int .i64 qv.Kind, .bool qv.Flag, .int .i64 qv.Number, .str qv.Words]) (ys := [.int .i64 vused1.Kind, .bool vused1.Flag, .int .i64 vused1.Number, .str vused1.Words]) (b := (decide (qv.Kind = vused1.Kind) && ((qv.Flag == vused1.Flag) && (decide (qv.Number = vused1.Number) && (decide (qv.Words = vused1.Words) && true))))) (c := (!(decide (qv.Kind = vused1.Kind) && ((qv.Flag == vused1.Flag) && (decide (qv.Number = vused1.Number) && (decide (qv.Words = vused1.Words) && true)))))) rfl (.inr ⟨rfl, rfl⟩) (by kernel_rfl) (by kernel_rfl) (by kernel_rfl) (by kernel_rfl) (by kernel_rfl) (by kernel_rfl)) ?_)))))
    refine aR 1 (aE ?_)
    refine cE hF (fun h6 hF => ?_) fun h6 hF => ?_
    · exact tT h6 (sR 1 (awp_ret (oF hF [] [])))
    · refine tF h6 (awp_seq (bE hF fun vr h7 hF => awp_region (aR 2 (aC (z88 h7) [] [] [] (aR 1 (aE ?_))))))
      refine cE hF (fun h8 hF => ?_) fun h8 hF => ?_
      · exact tT h8 (sR 1 (awp_ret (oF hF [] [])))
      · refine tF h8 (sR 5 (cE hF (fun h9 hF => ?_) fun h9 hF => ?_))
        · exact tT h9 (sR 1 (awp_ret (oF hF [] [])))
        · refine tF h9 (awp_seq (bE hF fun vr1 h10 hF => awp_region (aR 2 (aC (z95 h10) [] [] [] (aR 2 (aE ?_))))))
          refine cE hF (fun h11 hF => ?_) fun h11 hF => ?_
          · exact tT h11 (sR 1 (awp_ret (oF hF [] [])))
          · exact tF h11 (awp_skip (sR 1 (awp_ret (oF hF [] []))))
  · refine awp_sub (z1364 qv h5) ?_
    exact oF hF [] []

/-! ### beaconfleet/twin.find$1 -/
def z1334 (qp : api_Prop) (qname : List UInt8) (r : Unit) : TV × Mem := (.i (Lib.compareBytes qp.Name qname), ⟨[], []⟩)

theorem z1335 {qp : api_Prop} {qname : List UInt8} {r} (hF : z1333 qp qname = some r) : Holds prog 164 [.v (.agg [.s qp.Name, .i qp.Value.Kind, .t qp.Value.Flag, .i qp.Value.Number, .s qp.Value.Words]), .c (.s qname)] ⟨[], []⟩ (Is (z1334 qp qname r)) := by
  unfold z1333 at hF
  refine hW f164 9 0 0 ?_
  refine sR 2 (awp_seq (bE hF fun _ h1 hF => awp_region (aR 3 (aC (z1200 h1) [] [] [] (aR 1 (aE ?_))))))
  exact awp_ret (oF hF [] [])

/-! ### slices.BinarySearchFunc[[]beaconfleet/api.Prop,beaconfleet/api.Prop,string] -/
def z723 : Int → AEx
  | _ => .exit 0

def z722 (qx : List api_Prop) (qtarget : List UInt8) : Int → St
  | vi1 => Mem.st ⟨[], []⟩ (tl [(0, .c (.l api_Prop.enc qx)), (1, .c (.s qtarget)), (2, .c (.fn 164 [])), (8, .i (qx.length : Int)), (9, .i vi1)]) 0

def z721 (qx : List api_Prop) (qtarget : List UInt8) : Int × Int → St
  | (vi, vj) => Mem.st ⟨[], []⟩ (tl [(0, .c (.l api_Prop.enc qx)), (1, .c (.s qtarget)), (2, .c (.fn 164 [])), (8, .i (qx.length : Int)), (9, .i vi), (10, .i vj)]) 0

theorem z724 (qx : List api_Prop) (qtarget : List UInt8) (s : Int × Int) (r : (Int × Int) ⊕ (Int)) (hF : z720 qx qtarget s = some r) : Awp prog 0 49 (cL (cL (cL (cR (cR (cR (cB f163))))))) (Out 0 (kk z723) (SS (z721 qx qtarget) (z722 qx qtarget)) r) (z721 qx qtarget s) := by
  obtain ⟨vi, vj⟩ := s
  unfold z720 at hF
  refine awp_seq (sR 3 (cE hF (fun h1 hF => ?_) fun h1 hF => ?_))
  · refine tT h1 (awp_skip (awp_block (sR 7 (awp_seq (bE hF fun vy1 h2 hF => bE hF fun _ h3 hF => awp_region (aR 3 (aX (x_idx api_Prop.enc h2) (aR 2 (aC (z1335 h3) [] [] [] (aR 1 (aE ?_)))))))))))
    refine cE hF (fun h4 hF => ?_) fun h4 hF => ?_
    · exact tT h4 (gR 3 (oO hF [] [] rfl))
    · exact tF h4 (gR 2 (oO hF [] [] rfl))
  · refine tF h1 (awp_exit ?_)
    exact oO hF [] [] rfl

def z727 (qx : List api_Prop) (qtarget : List UInt8) (vi1_1 : Int) : Bool → St
  | vx => Mem.st ⟨[], []⟩ (tl [(6, .i vi1_1), (7, .b vx)]) 0

def z726 (qx : List api_Prop) (qtarget : List UInt8) (vi1_1 : Int) : St := Mem.st ⟨[], []⟩ (tl [(0, .c (.l api_Prop.enc qx)), (1, .c (.s qtarget)), (2, .c (.fn 164 [])), (8, .i (qx.length : Int)), (9, .i vi1_1)]) 0

theorem z728 (qx : List api_Prop) (qtarget : List UInt8) (vi1_1 : Int) {r} (hF : z725 qx qtarget vi1_1 = some r) : Awp prog 0 49 (cL (cR (cR (cR (cR (cB f163)))))) (Out 0 nrm (z727 qx qtarget vi1_1) r) (z726 qx qtarget vi1_1) := by
  unfold z725 at hF
  refine cE hF (fun h6 hF => ?_) fun h6 hF => ?_
  · refine bE hF fun vy2 h7 hF => bE hF fun _ h8 hF => awp_region (aR 3 (aB h6 (aR 4 (aX (x_idx api_Prop.enc h7) (aR 2 (aC (z1335 h8) [] [] [] (aR 4 (aE ?_))))))))
    exact oO hF [] [] rfl
  · refine awp_region (aR 3 (aB h6 (aR 12 (aE ?_))))
    exact oO hF [] [] rfl

def z718 (qx : List api_Prop) (qtarget : List UInt8) (r : Int × Bool) : TV × Mem := (.tup [.one (.i r.1), .one (.t r.2)], ⟨[], []⟩)

theorem z719 {qx : List api_Prop} {qtarget : List UInt8} {r} (hF : z717 qx qtarget = some r) : Holds prog 163 [.c (.l api_Prop.enc qx), .c (.s qtarget), .c (.fn 164 [])] ⟨[], []⟩ (Is (z718 qx qtarget r)) := by
  unfold z717 at hF
  refine hW f163 49 0 0 ?_
  refine sR 2 (awp_seq (awp_region (aR 1 (aL api_Prop.enc qx (aR 1 (aE ?_))))))
  refine sR 3 (awp_seq (awp_block (awp_to (st' := z721 qx qtarget (0, (qx.length : Int))) (oT [] []) ?_)))
  refine bE hF fun vi1_1 h5 hF => awp_sub (awp_loop' (z721 qx qtarget) z723 (z722 qx qtarget) (by intro x; exact fun h => nomatch h) h5 (z724 qx qtarget)) ?_
  refine awp_seq (awp_to (st' := z726 qx qtarget vi1_1) (oT [] []) ?_)
  refine bE hF fun vx1 h9 hF => awp_sub (z728 qx qtarget vi1_1 h9) ?_
  exact awp_ret (oF hF [] [])

/-! ### beaconfleet/twin.find -/
def z1336 (ql : List api_Prop) (qname : List UInt8) (r : Int) : TV × Mem := (.i r, ⟨[], []⟩)

theorem z1340 {ql : List api_Prop} {qname : List UInt8} {r} (hF : twin_find ql qname = some r) : Holds prog 134 [.c (.l api_Prop.enc ql), .c (.s qname)] ⟨[], []⟩ (Is (z1336 ql qname r)) := by
  unfold twin_find at hF
  refine hW f134 16 0 0 ?_
  refine sR 1 (awp_seq (bE hF fun x h1 hF => ?_))
  obtain ⟨vr, vr1⟩ := x
  refine awp_region (aR 2 (aC (z719 h1) [] [] [] (aR 5 (aE ?_))))
  refine awp_seq (sR 2 (cE hF (fun h2 hF => ?_) fun h2 hF => ?_))
  · exact tT h2 (sR 1 (awp_ret (oF hF [] [])))
  · exact tF h2 (awp_skip (sR 2 (awp_ret (oF hF [] []))))

/-! ### beaconfleet/twin.CheckProps$1 -/
def z1278 (qs : List UInt8) (qx : List api_Prop) (r : Bool) : TV × Mem := (.b r, ⟨[], [(0, [.l api_Prop.enc qx])]⟩)

theorem z1279 {qs : List UInt8} {qx : List api_Prop} {r} (hF : z1277 qs qx = some r) : Holds prog 133 [.c (.s qs), .c (.box 0 0)] ⟨[], [(0, [.l api_Prop.enc qx])]⟩ (Is (z1278 qs qx r)) := by
  unfold z1277 at hF
  refine hW f133 8 1 1 ?_
  refine sR 1 (awp_seq (bE hF fun vr2 h1 hF => awp_region (aR 2 (aC (z1340 h1) [] [] [] (aR 2 (aE ?_))))))
  exact awp_ret (oF hF [] [])

/-! ### beaconfleet/twin.above -/
def z1331 (qname : List UInt8) (qf : List api_Prop) (vx : Int) : Bool → St
  | vx2 => Mem.st ⟨[], [(0, [.l api_Prop.enc qf])]⟩ (tl [(0, .c (.s qname)), (1, .c (.fn 133 [0])), (7, .i (qname.length : Int)), (8, .i vx), (21, .b vx2)]) 1

def z1330 (qname : List UInt8) (qf : List api_Prop) (vx : Int) : St := Mem.st ⟨[], [(0, [.l api_Prop.enc qf])]⟩ (tl [(0, .c (.s qname)), (1, .c (.fn 133 [0])), (5, .i vx), (7, .i (qname.length : Int)), (8, .i vx)]) 1

theorem z1332 (qname : List UInt8) (qf : List api_Prop) (vx : Int) {r} (hF : z1329 qname qf vx = some r) : Awp prog 1 23 (cL (cR (cL (cL (cR (cR (cL (cL (cR (cL (cR (cB f132)))))))))))) (Out 1 nrm (z1331 qname qf vx) r) (z1330 qname qf vx) := by
  unfold z1329 at hF
  refine bE hF fun vc1 h2 hF => cE hF (fun h3 hF => ?_) fun h3 hF => ?_
  · refine bE hF fun vs1 h4 hF => bE hF fun vr1 h5 hF => awp_region (aR 2 (aX (x_idxS h2) (aB h3 (aR 4 (aX (x_sliceS h4) (aC (z1279 h5) [] [] [] (aR 1 (aE ?_))))))))
    exact oO hF [] [] rfl
  · refine awp_region (aR 2 (aX (x_idxS h2) (aB h3 (aR 7 (aE ?_)))))
    exact oO hF [] [] rfl

def z1327 : Unit ⊕ Unit → AEx
  | .inl _ => .exit 0
  | .inr _ => .ret

def z1326 (qname : List UInt8) (qf : List api_Prop) : Unit ⊕ Unit → St
  | .inl _ => Mem.st ⟨[], [(0, [.l api_Prop.enc qf])]⟩ (tl []) 1
  | .inr _ => Mem.st ⟨[], [(0, [.l api_Prop.enc qf])]⟩ (tl [(4, .b true)]) 1

def z1325 (qname : List UInt8) (qf : List api_Prop) : Int → St
  | vx => Mem.st ⟨[], [(0, [.l api_Prop.enc qf])]⟩ (tl [(0, .c (.s qname)), (1, .c (.fn 133 [0])), (7, .i (qname.length : Int)), (8, .i vx)]) 1

theorem z1328 (qname : List UInt8) (qf : List api_Prop) (vx : Int) (r : (Int) ⊕ (Unit ⊕ Unit)) (hF : z1324 qname qf vx = some r) : Awp prog 1 23 (cL (cL (cR (cL (cR (cB f132)))))) (Out 1 (kk z1327) (SS (z1325 qname qf) (z1326 qname qf)) r) (z1325 qname qf vx) := by
  unfold z1324 at hF
  refine sR 1 (awp_seq (cE hF (fun h1 hF => ?_) fun h1 hF => ?_))
  · refine tT h1 (awp_skip (awp_seq (awp_block (sR 2 (awp_seq (awp_to (st' := z1330 qname qf vx) (oT [] []) ?_))))))
    refine bE hF fun vx2_1 h6 hF => awp_sub (z1332 qname qf vx h6) ?_
    refine cE hF (fun h7 hF => ?_) fun h7 hF => ?_
    · exact tT h7 (sR 1 (awp_ret (oO hF [] [] rfl)))
    · exact tF h7 (awp_skip (gR 2 (oO hF [] [] rfl)))
  · refine tF h1 (awp_exit ?_)
    exact oO hF [] [] rfl

def z1322 (qname : List UInt8) (qf : List api_Prop) (r : Bool) : TV × Mem := (.b r, ⟨[], [(0, [.l api_Prop.enc qf])]⟩)

theorem z1323 {qname : List UInt8} {qf : List api_Prop} {r} (hF : z1321 qname qf = some r) : Holds prog 132 [.c (.s qname), .c (.fn 133 [0])] ⟨[], [(0, [.l api_Prop.enc qf])]⟩ (Is (z1322 qname qf r)) := by
  unfold z1321 at hF
  refine hW f132 23 1 1 ?_
  refine sR 1 (awp_seq (sR 3 (awp_block (awp_to (st' := z1325 qname qf 0) (oT [] []) ?_))))
  refine bE hF fun x h8 hF => ?_
  rcases x with _ | _
  · refine awp_sub (awp_loop' (z1325 qname qf) z1327 (z1326 qname qf) (by intro x; rcases x with x | x <;> exact fun h => nomatch h) h8 (z1328 qname qf)) ?_
    exact sR 1 (awp_ret (oF hF [] []))
  · refine awp_sub (awp_loop' (z1325 qname qf) z1327 (z1326 qname qf) (by intro x; rcases x with x | x <;> exact fun h => nomatch h) h8 (z1328 qname qf)) ?_
    exact oF hF [] []

/-! ### beaconfleet/twin.CheckProps -/
def z1302 (ql : List api_Prop) (vx : Int) (vy2 : api_Prop) : Bool → St
  | vx2 => Mem.st ⟨[], [(0, [.l api_Prop.enc ql])]⟩ (tl [(1, .c (.box 0 0)), (11, .c (.l api_Prop.enc ql)), (12, .i (ql.length : Int)), (13, .i vx), (44, .b vx2)]) 1

def z1301 (ql : List api_Prop) (vx : Int) (vy2 : api_Prop) : St := Mem.st ⟨[], [(0, [.l api_Prop.enc ql]), (1, [.s vy2.Name, .i vy2.Value.Kind, .t vy2.Value.Flag, .i vy2.Value.Number, .s vy2.Value.Words])]⟩ (tl [(1, .c (.box 0 0)), (3, .i vx), (4, .c (.box 1 0)), (11, .c (.l api_Prop.enc ql)), (12, .i (ql.length : Int)), (13, .i vx)]) 2

theorem z1303 (ql : List api_Prop) (vx : Int) (vy2 : api_Prop) {r} (hF : z1300 ql vx vy2 = some r) : Awp prog 0 57 (cL (cR (cR (cR (cR (cL (cL (cR (cR (cL (cL (cR (cL (cR (cR (cB f88)))))))))))))))) (Out 0 nrm (z1302 ql vx vy2) r) (z1301 ql vx vy2) := by
  unfold z1300 at hF
  refine cE hF (fun h9 hF => ?_) fun h9 hF => ?_
  · refine bE hF fun vy3 h10 hF => aD ?_
    refine dR 1 ?_
    refine dB h9 ?_
    refine dR 6 ?_
    refine dX (x_idx api_Prop.enc h10) ?_
    refine dR 4 ?_
    refine dE ?_
    exact oO hF [] [] rfl
  · refine aD ?_
    refine dR 1 ?_
    refine dB h9 ?_
    refine dR 11 ?_
    refine dE ?_
    exact oO hF [] [] rfl

def z1298 : Unit ⊕ Int → AEx
  | .inl _ => .exit 0
  | .inr _ => .ret

def z1297 (ql : List api_Prop) : Unit ⊕ Int → St
  | .inl _ => Mem.st ⟨[], [(0, [.l api_Prop.enc ql])]⟩ (tl [(1, .c (.box 0 0))]) 1
  | .inr vx3 => Mem.st ⟨[], []⟩ (tl [(2, .i vx3)]) 0

def z1296 (ql : List api_Prop) : Int → St
  | vx => Mem.st ⟨[], [(0, [.l api_Prop.enc ql])]⟩ (tl [(1, .c (.box 0 0)), (11, .c (.l api_Prop.enc ql)), (12, .i (ql.length : Int)), (13, .i vx)]) 1

theorem z1299 (ql : List api_Prop) (vx : Int) (r : (Int) ⊕ (Unit ⊕ Int)) (hF : z1295 ql vx = some r) : Awp prog 0 57 (cL (cL (cR (cL (cR (cR (cB f88))))))) (Out 0 (kk z1298) (SS (z1296 ql) (z1297 ql)) r) (z1296 ql vx) := by
  unfold z1295 at hF
  refine sR 1 (awp_seq (cE hF (fun h2 hF => ?_) fun h2 hF => ?_))
  · refine tT h2 (awp_skip (awp_seq (awp_block (awp_seq (bE hF fun vy2 h3 hF => awp_region (aR 1 (aX (x_idx api_Prop.enc h3) (aR 4 (aE ?_)))))))))
    refine awp_seq (awp_seq (bE hF fun vr1 h4 hF => awp_region (aR 2 (aC (z1343 h4) [] [] [] (aR 1 (aE ?_))))))
    refine cE hF (fun h5 hF => ?_) fun h5 hF => ?_
    · exact tT h5 (sR 1 (awp_ret (oO hF [] [] rfl)))
    · refine tF h5 (awp_skip (awp_seq (awp_seq (bE hF fun vr2_1 h6 hF => awp_region (aR 2 (aC (z1359 h6) [] [] [] (aR 1 (aE ?_))))))))
      refine sR 2 (cE hF (fun h7 hF => ?_) fun h7 hF => ?_)
      · exact tT h7 (sR 2 (awp_ret (oO hF [] [] rfl)))
      · refine tF h7 (awp_skip (awp_seq (sR 4 (cE hF (fun h8 hF => ?_) fun h8 hF => ?_))))
        · exact tT h8 (sR 1 (awp_ret (oO hF [] [] rfl)))
        · refine tF h8 (awp_skip (awp_seq (awp_to (st' := z1301 ql vx vy2) (oT [(1, 4001)] []) ?_)))
          refine bE hF fun vx2_1 h11 hF => awp_sub (z1303 ql vx vy2 h11) ?_
          refine cE hF (fun h12 hF => ?_) fun h12 hF => ?_
          · exact tT h12 (sR 1 (awp_ret (oO hF [] [] rfl)))
          · exact tF h12 (awp_skip (gR 2 (oO hF [] [] rfl)))
  · refine tF h2 (awp_exit ?_)
    exact oO hF [] [] rfl

def z1307 : Unit ⊕ Unit → AEx
  | .inl _ => .exit 2
  | .inr _ => .ret

def z1306 (ql : List api_Prop) : Unit ⊕ Unit → St
  | .inl _ => Mem.st ⟨[], []⟩ (tl []) 0
  | .inr _ => Mem.st ⟨[], []⟩ (tl [(2, .i 13)]) 0

def z1305 (ql : List api_Prop) : Int → St
  | vx4 => Mem.st ⟨[], [(0, [.l api_Prop.enc ql])]⟩ (tl [(1, .c (.box 0 0)), (46, .c (.l api_Prop.enc ql)), (47, .i (ql.length : Int)), (48, .i vx4)]) 1

theorem z1308 (ql : List api_Prop) (vx4 : Int) (r : (Int) ⊕ (Unit ⊕ Unit)) (hF : z1304 ql vx4 = some r) : Awp prog 0 57 (cL (cL (cR (cL (cR (cR (cR (cB f88)))))))) (Out 0 (kk z1307) (SS (z1305 ql) (z1306 ql)) r) (z1305 ql vx4) := by
  unfold z1304 at hF
  refine sR 1 (awp_seq (cE hF (fun h14 hF => ?_) fun h14 hF => ?_))
  · refine tT h14 (awp_skip (awp_seq (awp_block (awp_seq (bE hF fun vy5 h15 hF => awp_region (aX (x_idx api_Prop.enc h15) (aR 3 (aE ?_))))))))
    refine awp_seq (bE hF fun vr2_3 h16 hF => awp_region (aR 3 (aC (z1323 h16) [] [] [] (aE ?_))))
    refine cE hF (fun h17 hF => ?_) fun h17 hF => ?_
    · exact tT h17 (sR 1 (awp_ret (oO hF [] [] rfl)))
    · exact tF h17 (awp_skip (gR 2 (oO hF [] [] rfl)))
  · refine tF h14 (awp_exit ?_)
    exact oO hF [] [] rfl

def z1280 (ql : List api_Prop) (r : Int) : TV × Mem := (.i r, ⟨[], []⟩)

theorem z1294 {ql : List api_Prop} {r} (hF : z1276 ql = some r) : Holds prog 88 [.c (.l api_Prop.enc ql)] ⟨[], []⟩ (Is (z1280 ql r)) := by
  unfold z1276 at hF
  refine hW f88 57 0 0 ?_
  refine sR 2 (awp_seq (awp_seq (awp_region (aR 1 (aL api_Prop.enc ql (aR 1 (aE ?_)))))))
  refine cE hF (fun h1 hF => ?_) fun h1 hF => ?_
  · exact tT h1 (sR 1 (awp_ret (oF hF [] [])))
  · refine tF h1 (awp_skip (awp_seq (awp_seq (awp_region (aR 1 (aL api_Prop.enc ql (aR 1 (aE ?_))))))))
    refine awp_block (awp_to (st' := z1296 ql 0) (oT [] []) ?_)
    refine bE hF fun x h13 hF => ?_
    rcases x with _ | vx3_1
    · refine awp_sub (awp_loop' (z1296 ql) z1298 (z1297 ql) (by intro x; rcases x with x | x <;> exact fun h => nomatch h) h13 (z1299 ql)) ?_
      refine awp_seq (awp_seq (awp_region (aR 1 (aL api_Prop.enc ql (aR 1 (aE ?_))))))
      refine awp_block (awp_to (st' := z1305 ql 0) (oT [] []) ?_)
      refine bE hF fun x h18 hF => ?_
      rcases x with _ | _
      · refine awp_sub (awp_loop' (z1305 ql) z1307 (z1306 ql) (by intro x; rcases x with x | x <;> exact fun h => nomatch h) h18 (z1308 ql)) ?_
        exact sR 1 (awp_ret (oF hF [] []))
      · refine awp_sub (awp_loop' (z1305 ql) z1307 (z1306 ql) (by intro x; rcases x with x | x <;> exact fun h => nomatch h) h18 (z1308 ql)) ?_
        exact oF hF [] []
    · refine awp_sub (awp_loop' (z1296 ql) z1298 (z1297 ql) (by intro x; rcases x with x | x <;> exact fun h => nomatch h) h13 (z1299 ql)) ?_
      exact oF hF [] []

/-! ### cmp.isNaN[string] -/
def z164 (qx : List UInt8) (r : Unit) : TV × Mem := (.b (!decide (qx = qx)), ⟨[], []⟩)

theorem z165 {qx : List UInt8} {r} (hF : z163 qx = some r) : Holds prog 220 [.c (.s qx)] ⟨[], []⟩ (Is (z164 qx r)) := by
  unfold z163 at hF
  refine hW f220 6 0 0 ?_
  exact sR 1 (sR 4 (awp_ret (oF hF [] [])))

/-! ### cmp.Less[string] -/
def z150 (qx : List UInt8) (qy : List UInt8) : Bool → St
  | vx => Mem.st ⟨[], []⟩ (tl [(4, .b vx)]) 0

def z149 (qx : List UInt8) (qy : List UInt8) : St := Mem.st ⟨[], []⟩ (tl [(0, .c (.s qx)), (1, .c (.s qy))]) 0

theorem z151 (qx : List UInt8) (qy : List UInt8) {r} (hF : z148 qx qy = some r) : Awp prog 0 17 (cL (cR (cB f196))) (Out 0 nrm (z150 qx qy) r) (z149 qx qy) := by
  unfold z148 at hF
  refine bE hF fun _ h1 hF => cE hF (fun h2 hF => ?_) fun h2 hF => ?_
  · refine bE hF fun _ h3 hF => cE hF (fun h4 hF => ?_) fun h4 hF => ?_
    · refine awp_region (aR 1 (aCb (z165 h1) [] [] [] h2 ?_))
      refine aR 2 (aC (z165 h3) [] [] [] (aB h4 (aR 7 (aE ?_))))
      exact oO hF [] [] rfl
    · refine awp_region (aR 1 (aCb (z165 h1) [] [] [] h2 ?_))
      refine aR 2 (aC (z165 h3) [] [] [] (aB h4 (aR 7 (aE ?_))))
      exact oO hF [] [] rfl
  · refine awp_region (aR 1 (aCb (z165 h1) [] [] [] h2 ?_))
    refine aR 11 (aE ?_)
    exact oO hF [] [] rfl

def z146 (qx : List UInt8) (qy : List UInt8) (r : Bool) : TV × Mem := (.b r, ⟨[], []⟩)

theorem z147 {qx : List UInt8} {qy : List UInt8} {r} (hF : z145 qx qy = some r) : Holds prog 196 [.c (.s qx), .c (.s qy)] ⟨[], []⟩ (Is (z146 qx qy r)) := by
  unfold z145 at hF
  refine hW f196 17 0 0 ?_
  refine sR 1 (awp_seq (awp_to (st' := z149 qx qy) (oT [] []) ?_))
  refine bE hF fun vx1 h5 hF => awp_sub (z151 qx qy h5) ?_
  exact awp_ret (oF hF [] [])

/-! ### slices.insertionSortOrdered[string] -/
def z999 (qa : Int) (qb : Int) (vi : Int) (vl3 : List (List UInt8)) (vj1 : Int) : Bool → St
  | vx4 => Mem.st ⟨[(0, ⟨9, 1, List.map encS vl3⟩)], []⟩ (tl [(0, .c (.own 0 none)), (1, .i qa), (2, .i qb), (6, .i vi), (7, .i vj1), (30, .b vx4)]) 1

def z998 (qa : Int) (qb : Int) (vi : Int) (vl3 : List (List UInt8)) (vj1 : Int) : St := Mem.st ⟨[(0, ⟨9, 1, List.map encS vl3⟩)], []⟩ (tl [(0, .c (.own 0 none)), (1, .i qa), (2, .i qb), (6, .i vi), (7, .i vj1)]) 1

theorem z1000 (qa : Int) (qb : Int) (vi : Int) (vl3 : List (List UInt8)) (vj1 : Int) {r} (hF : z997 qa vl3 vj1 = some r) : Awp prog 1 49 (cL (cL (cL (cL (cR (cL (cL (cR (cL (cL (cR (cB f190)))))))))))) (Out 1 nrm (z999 qa qb vi vl3 vj1) r) (z998 qa qb vi vl3 vj1) := by
  unfold z997 at hF
  refine cE hF (fun h2 hF => ?_) fun h2 hF => ?_
  · refine bE hF fun vy15 h3 hF => bE hF fun vy16 h4 hF => bE hF fun vr3 h5 hF => aD ?_
    refine dR 2 ?_
    refine dB h2 ?_
    refine dR 3 ?_
    refine dX (x_idxO encS 0 h3) ?_
    refine dX (x_ldE encS h3) ?_
    refine dR 3 ?_
    refine dX (x_idxO encS 0 h4) ?_
    refine dX (x_ldE encS h4) ?_
    refine dC (z147 h5) [] [] [] ?_
    refine dR 1 ?_
    refine dE ?_
    exact oO hF [] [] rfl
  · refine aD ?_
    refine dR 2 ?_
    refine dB h2 ?_
    refine dR 12 ?_
    refine dE ?_
    exact oO hF [] [] rfl

def z995 : (List (List UInt8)) → AEx
  | _ => .exit 2

def z994 (qa : Int) (qb : Int) (vi : Int) : (List (List UInt8)) → St
  | vl4 => Mem.st ⟨[(0, ⟨9, 1, List.map encS vl4⟩)], []⟩ (tl [(0, .c (.own 0 none)), (1, .i qa), (2, .i qb), (6, .i vi)]) 1

def z993 (qa : Int) (qb : Int) (vi : Int) : (List (List UInt8)) × Int → St
  | (vl3, vj1) => Mem.st ⟨[(0, ⟨9, 1, List.map encS vl3⟩)], []⟩ (tl [(0, .c (.own 0 none)), (1, .i qa), (2, .i qb), (6, .i vi), (7, .i vj1)]) 1

theorem z996 (qa : Int) (qb : Int) (vi : Int) (s : (List (List UInt8)) × Int) (r : ((List (List UInt8)) × Int) ⊕ ((List (List UInt8)))) (hF : z992 qa s = some r) : Awp prog 1 49 (cL (cL (cR (cL (cL (cR (cL (cL (cR (cB f190)))))))))) (Out 1 (kk z995) (SS (z993 qa qb vi) (z994 qa qb vi)) r) (z993 qa qb vi s) := by
  obtain ⟨vl3, vj1⟩ := s
  unfold z992 at hF
  refine awp_seq (awp_seq (awp_to (st' := z998 qa qb vi vl3 vj1) (oT [] []) ?_))
  refine bE hF fun vx4_1 h6 hF => awp_sub (z1000 qa qb vi vl3 vj1 h6) ?_
  refine cE hF (fun h7 hF => ?_) fun h7 hF => ?_
  · refine tT h7 (awp_skip (awp_seq (awp_block (bE hF fun vy17 h8 hF => bE hF fun vy18 h9 hF => bE hF fun vy19 h10 hF => aDw [0] ?_))))
    refine dR 8 ?_
    refine dI encS 0 h8 rfl ?_
    refine dX (x_ldE encS h8) ?_
    refine dR 2 ?_
    refine dI encS 0 h9 rfl ?_
    refine dX (x_ldE encS h9) ?_
    refine dI encS 0 h9 rfl ?_
    refine dW encS vy17 h9 rfl ?_
    refine dI encS 0 h10 rfl ?_
    refine dW encS vy18 h10 rfl ?_
    refine dE ?_
    exact gR 3 (oO hF [] [] rfl)
  · refine tF h7 (awp_exit ?_)
    exact oO hF [] [] rfl

def z990 : (List (List UInt8)) → AEx
  | _ => .exit 0

def z989 (qa : Int) (qb : Int) : (List (List UInt8)) → St
  | vl5 => Mem.st ⟨[(0, ⟨9, 1, List.map encS vl5⟩)], []⟩ (tl []) 1

def z988 (qa : Int) (qb : Int) : (List (List UInt8)) × Int → St
  | (vl, vi) => Mem.st ⟨[(0, ⟨9, 1, List.map encS vl⟩)], []⟩ (tl [(0, .c (.own 0 none)), (1, .i qa), (2, .i qb), (6, .i vi)]) 1

theorem z991 (qa : Int) (qb : Int) (s : (List (List UInt8)) × Int) (r : ((List (List UInt8)) × Int) ⊕ ((List (List UInt8)))) (hF : z987 qa qb s = some r) : Awp prog 1 49 (cL (cL (cR (cB f190)))) (Out 1 (kk z990) (SS (z988 qa qb) (z989 qa qb)) r) (z988 qa qb s) := by
  obtain ⟨vl, vi⟩ := s
  unfold z987 at hF
  refine awp_seq (sR 3 (cE hF (fun h1 hF => ?_) fun h1 hF => ?_))
  · refine tT h1 (awp_skip (awp_seq (awp_block (sR 2 (awp_block (awp_to (st' := z993 qa qb vi (vl, vi)) (oT [] []) ?_))))))
    refine bE hF fun vl4_1 h11 hF => awp_sub (awp_loop' (z993 qa qb vi) z995 (z994 qa qb vi) (by intro x; exact fun h => nomatch h) h11 (z996 qa qb vi)) ?_
    exact gR 3 (oO hF [] [] rfl)
  · refine tF h1 (awp_exit ?_)
    exact oO hF [] [] rfl

def z985 (qdata : List (List UInt8)) (qa : Int) (qb : Int) (r : (List (List UInt8))) : TV × Mem := (.tup [], ⟨[(0, ⟨9, 1, List.map encS r⟩)], []⟩)

theorem z986 {qdata : List (List UInt8)} {qa : Int} {qb : Int} {r} (hF : z984 qdata qa qb = some r) : Holds prog 190 [.c (.own 0 none), .i qa, .i qb] ⟨[(0, ⟨9, 1, List.map encS qdata⟩)], []⟩ (Is (z985 qdata qa qb r)) := by
  unfold z984 at hF
  refine hW f190 49 1 1 ?_
  refine sR 3 (awp_block (awp_to (st' := z988 qa qb (qdata, IntKind.wrap .i64 (qa + 1))) (oT [] []) ?_))
  refine bE hF fun vl5_1 h12 hF => awp_sub (awp_loop' (z988 qa qb) z990 (z989 qa qb) (by intro x; exact fun h => nomatch h) h12 (z991 qa qb)) ?_
  exact oF hF [] []

/-! ### slices.pdqsortOrdered[string] -/
def z1023 : (List (List UInt8)) → AEx
  | _ => .ret

def z1022 (qx : List (List UInt8)) (qx1 : Int) (qx2 : Int) (qx3 : Int) : (List (List UInt8)) → St
  | vl => Mem.st ⟨[(0, ⟨9, 1, List.map encS vl⟩)], []⟩ (tl []) 1

def z1021 (qx : List (List UInt8)) (qx1 : Int) (qx2 : Int) (qx3 : Int) : Unit → St
  | _ => Mem.st ⟨[(0, ⟨9, 1, List.map encS qx⟩)], []⟩ (tl [(0, .c (.own 0 none)), (1, .i qx1), (2, .i qx2), (3, .i qx3), (8, .b true), (9, .b true)]) 1

theorem z1024 (qx : List (List UInt8)) (qx1 : Int) (qx2 : Int) (qx3 : Int) (s : Unit) (r : (Unit) ⊕ ((List (List UInt8)))) (hF : z1020 qx qx1 qx2 qx3 s = some r) : Awp prog 1 134 (cL (cL (cR (cR (cB f165))))) (Out 1 (kk z1023) (SS (z1021 qx qx1 qx2 qx3) (z1022 qx qx1 qx2 qx3)) r) (z1021 qx qx1 qx2 qx3 s) := by
  unfold z1020 at hF
  refine awp_block (sR 4 (awp_seq (sR 2 (cE hF (fun h1 hF => ?_) fun h1 hF => ?_))))
  · refine tT h1 (awp_seq (bE hF fun vl6_1 h2 hF => gE hF fun h3 hF => ?_))
    refine awp_region (aR 3 (aCp (z986 h2) ⟨⟨rfl, rfl, pin1 h3⟩, trivial⟩ [] [] [] ?_))
    refine aE ?_
    exact awp_ret (oO hF [] [] rfl)
  · refine tF h1 (awp_skip (awp_seq (sR 2 (cE hF (fun h4 hF => ?_) fun h4 hF => ?_))))
    · exact tT h4 (awp_seq (nE hF))
    · exact tF h4 (awp_skip (awp_seq (sR 2 (tF rfl (awp_skip (awp_seq (nE hF)))))))

def z1018 (qx : List (List UInt8)) (qx1 : Int) (qx2 : Int) (qx3 : Int) (r : (List (List UInt8))) : TV × Mem := (.tup [], ⟨[(0, ⟨9, 1, List.map encS r⟩)], []⟩)

theorem z1019 {qx : List (List UInt8)} {qx1 : Int} {qx2 : Int} {qx3 : Int} {r} (hF : z1017 qx qx1 qx2 qx3 = some r) : Holds prog 165 [.c (.own 0 none), .i qx1, .i qx2, .i qx3] ⟨[(0, ⟨9, 1, List.map encS qx⟩)], []⟩ (Is (z1018 qx qx1 qx2 qx3 r)) := by
  unfold z1017 at hF
  refine hW f165 134 1 1 ?_
  refine sR 1 (sR 1 (awp_block (awp_to (st' := z1021 qx qx1 qx2 qx3 ()) (oT [] []) ?_)))
  refine bE hF fun vl1 h7 hF => awp_sub (awp_loop' (z1021 qx qx1 qx2 qx3) z1023 (z1022 qx qx1 qx2 qx3) (by intro x; exact fun h => nomatch h) h7 (z1024 qx qx1 qx2 qx3)) ?_
  exact oF hF [] []

/-! ### slices.Sort[[]string,string] -/
def z931 (qx : List (List UInt8)) (r : (List (List UInt8))) : TV × Mem := (.tup [], ⟨[(0, ⟨9, 1, List.map encS r⟩)], []⟩)

theorem z932 {qx : List (List UInt8)} {r} (hF : z930 qx = some r) : Holds prog 135 [.c (.own 0 none)] ⟨[(0, ⟨9, 1, List.map encS qx⟩)], []⟩ (Is (z931 qx r)) := by
  unfold z930 at hF
  refine hW f135 11 1 1 ?_
  refine awp_seq (awp_region (aR 1 (aL encS qx (aR 1 (aE ?_)))))
  refine bE hF fun vr1 h1 hF => bE hF fun vl2 h2 hF => gE hF fun h3 hF => ?_
  refine awp_region (aR 4 (aC (z128 h1) [] [] [] (aCp (z1019 h2) ⟨⟨rfl, rfl, pin1 h3⟩, trivial⟩ [] [] [] ?_)))
  refine aE ?_
  exact oF hF [] []

/-! ### slices.Compact[[]string,string] -/
def z792 (qs : List (List UInt8)) (vk : Int) (vl4 : List (List UInt8)) (vk6 : Int) (vk2_1 : Int) : ((List (List UInt8)) × Int) → St
  | (vl6, vk8) => Mem.st ⟨[(0, ⟨9, 1, List.map encS vl6⟩)], []⟩ (tl [(0, .c (.own 0 none)), (3, .i vk8), (4, .c (.view 0 vk.toNat ((qs.length : Int).toNat - vk.toNat))), (5, .i vk2_1)]) 1

def z791 (qs : List (List UInt8)) (vk : Int) (vl4 : List (List UInt8)) (vk6 : Int) (vk2_1 : Int) : St := Mem.st ⟨[(0, ⟨9, 1, List.map encS vl4⟩)], []⟩ (tl [(0, .c (.own 0 none)), (3, .i vk6), (4, .c (.view 0 vk.toNat ((qs.length : Int).toNat - vk.toNat))), (5, .i vk2_1)]) 1

theorem z793 (qs : List (List UInt8)) (vk : Int) (vl4 : List (List UInt8)) (vk6 : Int) (vk2_1 : Int) {r} (hF : z790 qs vk vl4 vk6 vk2_1 = some r) : Awp prog 1 61 (cL (cR (cL (cL (cR (cL (cR (cL (cR (cL (cL (cR (cL (cL (cR (cL (cR (cR (cB f136))))))))))))))))))) (Out 1 nrm (z792 qs vk vl4 vk6 vk2_1) r) (z791 qs vk vl4 vk6 vk2_1) := by
  unfold z790 at hF
  refine awp_block (awp_seq (gE hF fun h8 hF => ?_))
  refine bE hF fun vy13 h9 hF => gE hF fun h10 hF => ?_
  refine bE hF fun vy14 h11 hF => aD ?_
  refine dR 2 ?_
  refine dX (x_idxV encS 0 h8 h9) ?_
  refine dX (x_ldE encS h9) ?_
  refine dR 3 ?_
  refine dX (x_idxV encS 0 h10 h11) ?_
  refine dX (x_ldE encS h11) ?_
  refine dR 1 ?_
  refine dE ?_
  refine cE hF (fun h12 hF => ?_) fun h12 hF => ?_
  · refine tT h12 (awp_seq (bE hF fun vy15 h13 hF => awp_region (aR 4 (aX (x_idxV encS 0 h8 h9) (aX (x_ldE encS h9) (aX (x_idxO encS 0 h13) (aX (x_stE encS vy13 h13) (aE ?_))))))))
    exact gR 3 (oO hF [] [] rfl)
  · exact tF h12 (awp_skip (oO hF [] [] rfl))

def z788 : ((List (List UInt8)) × Int) → AEx
  | _ => .exit 2

def z787 (qs : List (List UInt8)) (vk : Int) : ((List (List UInt8)) × Int) → St
  | (vl7, vk9) => Mem.st ⟨[(0, ⟨9, 1, List.map encS vl7⟩)], []⟩ (tl [(0, .c (.own 0 none)), (3, .i vk9)]) 1

def z786 (qs : List (List UInt8)) (vk : Int) : (List (List UInt8)) × Int × Int → St
  | (vl4, vk6, vk2_1) => Mem.st ⟨[(0, ⟨9, 1, List.map encS vl4⟩)], []⟩ (tl [(0, .c (.own 0 none)), (3, .i vk6), (4, .c (.view 0 vk.toNat ((qs.length : Int).toNat - vk.toNat))), (5, .i vk2_1)]) 1

theorem z789 (qs : List (List UInt8)) (vk : Int) (s : (List (List UInt8)) × Int × Int) (r : ((List (List UInt8)) × Int × Int) ⊕ (((List (List UInt8)) × Int))) (hF : z785 qs vk s = some r) : Awp prog 1 61 (cL (cL (cR (cL (cR (cL (cR (cL (cL (cR (cL (cL (cR (cL (cR (cR (cB f136))))))))))))))))) (Out 1 (kk z788) (SS (z786 qs vk) (z787 qs vk)) r) (z786 qs vk s) := by
  obtain ⟨vl4, vk6, vk2_1⟩ := s
  unfold z785 at hF
  refine awp_seq (sR 4 (cE hF (fun h7 hF => ?_) fun h7 hF => ?_))
  · refine tT h7 (awp_skip (awp_seq (awp_to (st' := z791 qs vk vl4 vk6 vk2_1) (oT [] []) ?_)))
    refine bE hF fun x h14 hF => ?_
    obtain ⟨vl6_1, vk8_1⟩ := x
    refine awp_sub (z793 qs vk vl4 vk6 vk2_1 h14) ?_
    exact gR 3 (oO hF [] [] rfl)
  · refine tF h7 (awp_exit ?_)
    exact oO hF [] [] rfl

def z783 : Unit ⊕ (List (List UInt8)) → AEx
  | .inl _ => .exit 0
  | .inr _ => .ret

def z782 (qs : List (List UInt8)) : Unit ⊕ (List (List UInt8)) → St
  | .inl _ => Mem.st ⟨[(0, ⟨9, 1, List.map encS qs⟩)], []⟩ (tl [(0, .c (.own 0 none))]) 1
  | .inr vx => Mem.st ⟨[(1, ⟨9, 1, List.map encS vx⟩)], []⟩ (tl [(2, .c (.own 1 none))]) 2

def z781 (qs : List (List UInt8)) : Int → St
  | vk => Mem.st ⟨[(0, ⟨9, 1, List.map encS qs⟩)], []⟩ (tl [(0, .c (.own 0 none)), (3, .i vk)]) 1

theorem z784 (qs : List (List UInt8)) (vk : Int) (r : (Int) ⊕ (Unit ⊕ (List (List UInt8)))) (hF : z780 qs vk = some r) : Awp prog 1 61 (cL (cL (cR (cL (cR (cR (cB f136))))))) (Out 1 (kk z783) (SS (z781 qs) (z782 qs)) r) (z781 qs vk) := by
  unfold z780 at hF
  refine awp_seq (awp_seq (awp_region (aR 2 (aL encS qs (aR 1 (aE ?_))))))
  refine cE hF (fun h2 hF => ?_) fun h2 hF => ?_
  · refine tT h2 (awp_skip (awp_seq (awp_block (awp_seq (bE hF fun vy8 h3 hF => bE hF fun vy9 h4 hF => aD ?_)))))
    refine dR 2 ?_
    refine dX (x_idxO encS 0 h3) ?_
    refine dX (x_ldE encS h3) ?_
    refine dR 3 ?_
    refine dX (x_idxO encS 0 h4) ?_
    refine dX (x_ldE encS h4) ?_
    refine dR 1 ?_
    refine dE ?_
    refine cE hF (fun h5 hF => ?_) fun h5 hF => ?_
    · refine tT h5 (awp_seq (gE hF fun h6 hF => ?_))
      refine awp_region (aR 2 (aX (x_viewN encS 0 h6) (aR 1 (aE ?_))))
      refine awp_seq (sR 1 (awp_block (awp_to (st' := z786 qs vk (qs, vk, 1)) (oT [] []) ?_)))
      refine bE hF fun x h15 hF => ?_
      obtain ⟨vl7_1, vk9_1⟩ := x
      refine awp_sub (awp_loop' (z786 qs vk) z788 (z787 qs vk) (by intro x; exact fun h => nomatch h) h15 (z789 qs vk)) ?_
      refine awp_seq (gE hF fun h16 hF => ?_)
      refine awp_region (aR 2 (aX (x_viewN encS 0 h16) (aCl encS 0 (xs := vl7_1) (y := ([] : List UInt8)) (lo := vk9_1) (hi := (vl7_1.length : Int)) rfl ?_)))
      refine aE ?_
      refine awp_seq (gE hF fun h17 hF => ?_)
      refine awp_region (aR 2 (aT encS 0 h17 rfl ?_))
      refine aR 1 (aE ?_)
      exact awp_ret (oO hF [(1, 6001)] [] rfl)
    · exact tF h5 (awp_skip (gR 3 (oO hF [] [] rfl)))
  · refine tF h2 (awp_exit ?_)
    exact oO hF [] [] rfl

def z778 (qs : List (List UInt8)) (r : (List (List UInt8))) : TV × Mem := (.c (.own 1 none), ⟨[(1, ⟨9, 1, List.map encS r⟩)], []⟩)

theorem z779 {qs : List (List UInt8)} {r} (hF : z777 qs = some r) : Holds prog 136 [.c (.own 0 none)] ⟨[(0, ⟨9, 1, List.map encS qs⟩)], []⟩ (Is (z778 qs r)) := by
  unfold z777 at hF
  refine hW f136 61 1 1 ?_
  refine sR 1 (awp_seq (awp_seq (awp_region (aR 1 (aL encS qs (aR 1 (aE ?_)))))))
  refine cE hF (fun h1 hF => ?_) fun h1 hF => ?_
  · exact tT h1 (sR 2 (awp_ret (oF hF [(1, 0)] [])))
  · refine tF h1 (awp_skip (awp_seq (sR 1 (awp_block (awp_to (st' := z781 qs 1) (oT [] []) ?_)))))
    refine bE hF fun x h18 hF => ?_
    rcases x with _ | vx1
    · refine awp_sub (awp_loop' (z781 qs) z783 (z782 qs) (by intro x; rcases x with x | x <;> exact fun h => nomatch h) h18 (z784 qs)) ?_
      exact sR 2 (awp_ret (oF hF [(1, 0)] []))
    · refine awp_sub (awp_loop' (z781 qs) z783 (z782 qs) (by intro x; rcases x with x | x <;> exact fun h => nomatch h) h18 (z784 qs)) ?_
      exact oF hF [] []

/-! ### beaconfleet/twin.names -/
def z1355 : (List (List UInt8)) → AEx
  | _ => .exit 2

def z1354 (qlists : List (List api_Prop)) (vx : Int) (vy3 : List api_Prop) : (List (List UInt8)) → St
  | vout4 => Mem.st ⟨[(1, ⟨9, 1, List.map encS vout4⟩)], []⟩ (tl [(3, .c (.own 1 none)), (8, .c (.l (encL api_Prop.enc) qlists)), (9, .i (qlists.length : Int)), (10, .i vx)]) 2

def z1353 (qlists : List (List api_Prop)) (vx : Int) (vy3 : List api_Prop) : (List (List UInt8)) × Int → St
  | (vout3, vx2) => Mem.st ⟨[(1, ⟨9, 1, List.map encS vout3⟩)], []⟩ (tl [(3, .c (.own 1 none)), (8, .c (.l (encL api_Prop.enc) qlists)), (9, .i (qlists.length : Int)), (10, .i vx), (14, .c (.l api_Prop.enc vy3)), (15, .i (vy3.length : Int)), (16, .i vx2)]) 2

theorem z1356 (qlists : List (List api_Prop)) (vx : Int) (vy3 : List api_Prop) (s : (List (List UInt8)) × Int) (r : ((List (List UInt8)) × Int) ⊕ ((List (List UInt8)))) (hF : z1352 vy3 s = some r) : Awp prog 1 31 (cL (cL (cR (cR (cL (cL (cR (cR (cL (cL (cR (cL (cR (cR (cB f89))))))))))))))) (Out 1 (kk z1355) (SS (z1353 qlists vx vy3) (z1354 qlists vx vy3)) r) (z1353 qlists vx vy3 s) := by
  obtain ⟨vout3, vx2⟩ := s
  unfold z1352 at hF
  refine sR 1 (awp_seq (cE hF (fun h3 hF => ?_) fun h3 hF => ?_))
  · refine tT h3 (awp_skip (awp_seq (awp_block (awp_seq (bE hF fun vy5 h4 hF => awp_region (aX (x_idx api_Prop.enc h4) (aR 3 (aE ?_))))))))
    refine gE hF fun h5 hF => ?_
    refine awp_region (aR 4 (aX (x_app encS 1 h5) (aR 1 (aE ?_))))
    exact gR 2 (oO hF [(1, 9002)] [] rfl)
  · refine tF h3 (awp_exit ?_)
    exact oO hF [] [] rfl

def z1350 : (List (List UInt8)) → AEx
  | _ => .exit 0

def z1349 (qlists : List (List api_Prop)) : (List (List UInt8)) → St
  | vout5 => Mem.st ⟨[(1, ⟨9, 1, List.map encS vout5⟩)], []⟩ (tl [(3, .c (.own 1 none))]) 2

def z1348 (qlists : List (List api_Prop)) : (List (List UInt8)) × Int → St
  | (vout, vx) => Mem.st ⟨[(1, ⟨9, 1, List.map encS vout⟩)], []⟩ (tl [(3, .c (.own 1 none)), (8, .c (.l (encL api_Prop.enc) qlists)), (9, .i (qlists.length : Int)), (10, .i vx)]) 2

theorem z1351 (qlists : List (List api_Prop)) (s : (List (List UInt8)) × Int) (r : ((List (List UInt8)) × Int) ⊕ ((List (List UInt8)))) (hF : z1347 qlists s = some r) : Awp prog 1 31 (cL (cL (cR (cL (cR (cR (cB f89))))))) (Out 1 (kk z1350) (SS (z1348 qlists) (z1349 qlists)) r) (z1348 qlists s) := by
  obtain ⟨vout, vx⟩ := s
  unfold z1347 at hF
  refine sR 1 (awp_seq (cE hF (fun h1 hF => ?_) fun h1 hF => ?_))
  · refine tT h1 (awp_skip (awp_seq (awp_block (awp_seq (bE hF fun vy3 h2 hF => awp_region (aX (x_idx (encL api_Prop.enc) h2) (aR 2 (aE ?_))))))))
    refine awp_seq (awp_region (aR 1 (aL api_Prop.enc vy3 (aR 1 (aE ?_)))))
    refine awp_block (awp_to (st' := z1353 qlists vx vy3 (vout, 0)) (oT [] []) ?_)
    refine bE hF fun vout4_1 h6 hF => awp_sub (awp_loop' (z1353 qlists vx vy3) z1355 (z1354 qlists vx vy3) (by intro x; exact fun h => nomatch h) h6 (z1356 qlists vx vy3)) ?_
    exact gR 2 (oO hF [] [] rfl)
  · refine tF h1 (awp_exit ?_)
    exact oO hF [] [] rfl

def z1345 (qlists : List (List api_Prop)) (r : (List (List UInt8))) : TV × Mem := (.c (.own 1 none), ⟨[(1, ⟨9, 1, List.map encS r⟩)], []⟩)

theorem z1346 {qlists : List (List api_Prop)} {r} (hF : z1344 qlists = some r) : Holds prog 89 [.c (.own 0 none)] ⟨[(0, ⟨104, 1, List.map (encL api_Prop.enc) qlists⟩)], []⟩ (Is (z1345 qlists r)) := by
  unfold z1344 at hF
  refine hW f89 31 1 1 ?_
  refine sR 1 (awp_to (oT (m := ⟨[], []⟩) (ts := [(0, .c (.l (encL api_Prop.enc) qlists))]) (nx := 1) [] []) ?_)
  refine sR 1 (awp_seq (awp_seq (awp_region (aR 1 (aL (encL api_Prop.enc) qlists (aR 1 (aE ?_)))))))
  refine awp_block (awp_to (st' := z1348 qlists ([], 0)) (oT [] [1]) ?_)
  refine bE hF fun vout5_1 h7 hF => awp_sub (awp_loop' (z1348 qlists) z1350 (z1349 qlists) (by intro x; exact fun h => nomatch h) h7 (z1351 qlists)) ?_
  refine awp_seq (bE hF fun vl h8 hF => gE hF fun h9 hF => ?_)
  refine awp_region (aR 1 (aCp (z932 h8) ⟨⟨rfl, rfl, pin1 h9⟩, trivial⟩ [(0, 1)] [] [] ?_))
  refine aE ?_
  refine awp_seq (bE hF fun vr h10 hF => awp_region (aR 1 (aC (z779 h10) [(0, 1)] [] [] (aR 1 (aE ?_)))))
  exact awp_ret (oF hF [(1, 3003)] [])

/-! ### slices.BinarySearchFunc[[]beaconfleet/api.Prop,beaconfleet/api.Prop,string] -/
def z735 : Unit → AEx
  | _ => .exit 0

def z734 (qtarget : List UInt8) : Unit → St
  | _ => Mem.st ⟨[], []⟩ (tl [(0, .c (.nil)), (1, .c (.s qtarget)), (2, .c (.fn 164 [])), (8, .i 0), (9, .i 0)]) 0

def z733 (qtarget : List UInt8) : Unit → St
  | _ => Mem.st ⟨[], []⟩ (tl [(0, .c (.nil)), (1, .c (.s qtarget)), (2, .c (.fn 164 [])), (8, .i 0), (9, .i 0), (10, .i 0)]) 0

theorem z736 (qtarget : List UInt8) (s : Unit) (r : (Unit) ⊕ (Unit)) (hF : z732  s = some r) : Awp prog 0 49 (cL (cL (cL (cR (cR (cR (cB f163))))))) (Out 0 (kk z735) (SS (z733 qtarget) (z734 qtarget)) r) (z733 qtarget s) := by
  unfold z732 at hF
  refine awp_seq (sR 3 (cE hF (fun h1 hF => ?_) fun h1 hF => ?_))
  · exact tT h1 (awp_skip (awp_block (sR 7 (awp_seq (nE hF)))))
  · refine tF h1 (awp_exit ?_)
    exact oO hF [] [] rfl

def z730 (qtarget : List UInt8) (r : Unit) : TV × Mem := (.tup [.one (.i 0), .one (.t false)], ⟨[], []⟩)

theorem z731 {qtarget : List UInt8} {r} (hF : z729 qtarget = some r) : Holds prog 163 [.c (.nil), .c (.s qtarget), .c (.fn 164 [])] ⟨[], []⟩ (Is (z730 qtarget r)) := by
  unfold z729 at hF
  refine hW f163 49 0 0 ?_
  refine sR 2 (sR 3 (sR 3 (awp_seq (awp_block (awp_to (st' := z733 qtarget ()) (oT [] []) ?_)))))
  refine bE hF fun _ h3 hF => awp_sub (awp_loop' (z733 qtarget) z735 (z734 qtarget) (by intro x; exact fun h => nomatch h) h3 (z736 qtarget)) ?_
  refine awp_seq (cE hF (fun h4 hF => ?_) fun h4 hF => ?_)
  · exact nE hF
  · refine awp_region (aR 3 (aB h4 (aR 12 (aE ?_))))
    exact awp_ret (oF hF [] [])

/-! ### beaconfleet/twin.find -/
def z1338 (qname : List UInt8) (r : Unit) : TV × Mem := (.i (-1), ⟨[], []⟩)

theorem z1339 {qname : List UInt8} {r} (hF : z1337 qname = some r) : Holds prog 134 [.c (.nil), .c (.s qname)] ⟨[], []⟩ (Is (z1338 qname r)) := by
  unfold z1337 at hF
  refine hW f134 16 0 0 ?_
  refine sR 1 (awp_seq (bE hF fun _ h1 hF => awp_region (aR 2 (aC (z731 h1) [] [] [] (aR 5 (aE ?_))))))
  exact awp_seq (sR 2 (tT rfl (sR 1 (awp_ret (oF hF [] [])))))

/-! ### beaconfleet/twin.valueOf -/
def z1368 (qname : List UInt8) (r : Unit) : TV × Mem := (.v (.agg [.i 0, .t false, .i 0, .s ([] : List UInt8)]), ⟨[], []⟩)

theorem z1369 {qname : List UInt8} {r} (hF : z1367 qname = some r) : Holds prog 90 [.c (.nil), .c (.s qname)] ⟨[], []⟩ (Is (z1368 qname r)) := by
  unfold z1367 at hF
  refine hW f90 17 0 0 ?_
  refine sR 1 (awp_seq (awp_seq (bE hF fun _ h1 hF => awp_region (aR 2 (aC (z1339 h1) [] [] [] (aR 1 (aE ?_)))))))
  refine sR 2 (cE hF (fun h2 hF => ?_) fun h2 hF => ?_)
  · exact tT h2 (awp_seq (nE hF))
  · exact tF h2 (awp_skip (sR 2 (awp_ret (oF hF [] []))))

/-! ### beaconfleet/twin.valueOf -/
def z1366 (ql : List api_Prop) (qname : List UInt8) (r : api_Value) : TV × Mem := (.v (.agg [.i r.Kind, .t r.Flag, .i r.Number, .s r.Words]), ⟨[], []⟩)

theorem z1370 {ql : List api_Prop} {qname : List UInt8} {r} (hF : z1365 ql qname = some r) : Holds prog 90 [.c (.l api_Prop.enc ql), .c (.s qname)] ⟨[], []⟩ (Is (z1366 ql qname r)) := by
  unfold z1365 at hF
  refine hW f90 17 0 0 ?_
  refine sR 1 (awp_seq (awp_seq (bE hF fun vr2 h1 hF => awp_region (aR 2 (aC (z1340 h1) [] [] [] (aR 1 (aE ?_)))))))
  refine sR 2 (cE hF (fun h2 hF => ?_) fun h2 hF => ?_)
  · refine tT h2 (awp_seq (bE hF fun vy h3 hF => awp_region (aR 2 (aX (x_idx api_Prop.enc h3) (aR 3 (aE ?_))))))
    exact awp_ret (oF hF [] [])
  · exact tF h2 (awp_skip (sR 2 (awp_ret (oF hF [] []))))

/-! ### beaconfleet/twin.Differ -/
def z1319 (qb : List api_Prop) (vr1_1 : List (List UInt8)) (vout : List api_Change) (vx : Int) : (List api_Change) → St
  | vout2 => Mem.st ⟨[(1, ⟨148, 9, List.map api_Change.enc vout2⟩)], []⟩ (tl [(0, .c (.nil)), (1, .c (.l api_Prop.enc qb)), (7, .c (.own 1 none)), (24, .c (.l encS vr1_1)), (25, .i (vr1_1.length : Int)), (26, .i vx)]) 2

def z1318 (qb : List api_Prop) (vr1_1 : List (List UInt8)) (vout : List api_Change) (vx : Int) : St := Mem.st ⟨[(1, ⟨148, 9, List.map api_Change.enc vout⟩)], []⟩ (tl [(0, .c (.nil)), (1, .c (.l api_Prop.enc qb)), (7, .c (.own 1 none)), (24, .c (.l encS vr1_1)), (25, .i (vr1_1.length : Int)), (26, .i vx)]) 2

theorem z1320 (qb : List api_Prop) (vr1_1 : List (List UInt8)) (vout : List api_Change) (vx : Int) {r} (hF : z1317 qb vr1_1 vout vx = some r) : Awp prog 1 48 (cL (cR (cR (cL (cL (cR (cL (cR (cR (cR (cB f48))))))))))) (Out 1 nrm (z1319 qb vr1_1 vout vx) r) (z1318 qb vr1_1 vout vx) := by
  unfold z1317 at hF
  refine awp_block (awp_seq (bE hF fun vy1 h7 hF => awp_region (aX (x_idx encS h7) (aR 2 (aE ?_)))))
  refine awp_seq (bE hF fun _ h8 hF => bE hF fun vr4 h9 hF => awp_region (aR 2 (aC (z1369 h8) [] [] [] (aR 2 (aC (z1370 h9) [] [] [] (aR 4 (aE ?_)))))))
  refine awp_seq (awp_region (aR 2 (aS (does_eqS (op := .neq) (xs := [.int .i64 0, .bool false, .int .i64 0, .str ([] : List UInt8)]) (ys := [.int .i64 vr4.Kind, .bool vr4.Flag, .int .i64 vr4.Number, .str vr4.Words]) (b := (decide ((0 : Int) = vr4.Kind) && ((false == vr4.Flag) && (decide ((0 : Int) = vr4.Number) && (decide (([] : List UInt8) = vr4.Words) && true))))) (c := (!(decide ((0 : Int) = vr4.Kind) && ((false == vr4.Flag) && (decide ((0 : Int) = vr4.Number) && (decide (([] : List UInt8) = vr4.Words) && true)))))) rfl (.inr ⟨rfl, rfl⟩) (by kernel_rfl) (by kernel_rfl) (by kernel_rfl) (by kernel_rfl) (by kernel_rfl) (by kernel_rfl)) ?_)))
  refine aE ?_
  refine cE hF (fun h10 hF => ?_) fun h10 hF => ?_
  · refine tT h10 (gE hF fun h11 hF => ?_)
    refine awp_region (aR 6 (aX (x_app api_Change.enc 1 h11) (aR 1 (aE ?_))))
    exact oO hF [(1, 22002)] [] rfl
  · exact tF h10 (awp_skip (oO hF [] [] rfl))

def z1315 : (List api_Change) → AEx
  | _ => .exit 0

def z1314 (qb : List api_Prop) (vr1_1 : List (List UInt8)) : (List api_Change) → St
  | vout3 => Mem.st ⟨[(1, ⟨148, 9, List.map api_Change.enc vout3⟩)], []⟩ (tl [(7, .c (.own 1 none))]) 2

def z1313 (qb : List api_Prop) (vr1_1 : List (List UInt8)) : (List api_Change) × Int → St
  | (vout, vx) => Mem.st ⟨[(1, ⟨148, 9, List.map api_Change.enc vout⟩)], []⟩ (tl [(0, .c (.nil)), (1, .c (.l api_Prop.enc qb)), (7, .c (.own 1 none)), (24, .c (.l encS vr1_1)), (25, .i (vr1_1.length : Int)), (26, .i vx)]) 2

theorem z1316 (qb : List api_Prop) (vr1_1 : List (List UInt8)) (s : (List api_Change) × Int) (r : ((List api_Change) × Int) ⊕ ((List api_Change))) (hF : z1312 qb vr1_1 s = some r) : Awp prog 1 48 (cL (cL (cR (cL (cR (cR (cR (cB f48)))))))) (Out 1 (kk z1315) (SS (z1313 qb vr1_1) (z1314 qb vr1_1)) r) (z1313 qb vr1_1 s) := by
  obtain ⟨vout, vx⟩ := s
  unfold z1312 at hF
  refine sR 1 (awp_seq (cE hF (fun h6 hF => ?_) fun h6 hF => ?_))
  · refine tT h6 (awp_skip (awp_seq (awp_to (st' := z1318 qb vr1_1 vout vx) (oT [] []) ?_)))
    refine bE hF fun vout2_1 h12 hF => awp_sub (z1320 qb vr1_1 vout vx h12) ?_
    exact gR 2 (oO hF [] [] rfl)
  · refine tF h6 (awp_exit ?_)
    exact oO hF [] [] rfl

def z1310 (qb : List api_Prop) (r : (List api_Change) × Int) : TV × Mem := (.tup [.one (.own 1 none), .one (.i r.2)], ⟨[(1, ⟨148, 9, List.map api_Change.enc r.1⟩)], []⟩)

theorem z1311 {qb : List api_Prop} {r} (hF : z1309 qb = some r) : Holds prog 48 [.c (.nil), .c (.own 0 none)] ⟨[(0, ⟨103, 5, List.map api_Prop.enc qb⟩)], []⟩ (Is (z1310 qb r)) := by
  unfold z1309 at hF
  refine hW f48 48 1 1 ?_
  refine sR 2 (awp_to (oT (m := ⟨[], []⟩) (ts := [(0, .c (.nil)), (1, .c (.l api_Prop.enc qb))]) (nx := 1) [] []) ?_)
  refine awp_seq (awp_seq (bE hF fun vr h1 hF => bE hF fun vr3 h2 hF => bE hF fun vr1 h3 hF => awp_region (aR 1 (aC (z1283 h1) [] [] [] (aR 1 (aC (z1294 h2) [] [] [] (aR 1 (aC (z29 h3) [] [] [4001] (aR 1 (aE ?_))))))))))
  refine sR 2 (cE hF (fun h4 hF => ?_) fun h4 hF => ?_)
  · exact tT h4 (sR 3 (awp_ret (oF hF [] [1])))
  · refine tF h4 (awp_skip (sR 1 (awp_seq (awp_seq (bE hF fun vr1_1 h5 hF => awp_region (aR 3 (aC (z1346 h5) [(0, 12001)] [] [] (aL encS vr1_1 (aR 1 (aE ?_))))))))))
    refine awp_to (oT (m := ⟨[], []⟩) (ts := [(0, .c (.nil)), (1, .c (.l api_Prop.enc qb)), (7, .c (.nil)), (24, .c (.l encS vr1_1)), (25, .i (vr1_1.length : Int)), (26, .i 0)]) (nx := 1) [] []) ?_
    refine awp_block (awp_to (st' := z1313 qb vr1_1 ([], 0)) (oT [] [1]) ?_)
    refine bE hF fun vout3_1 h13 hF => awp_sub (awp_loop' (z1313 qb vr1_1) z1315 (z1314 qb vr1_1) (by intro x; exact fun h => nomatch h) h13 (z1316 qb vr1_1)) ?_
    exact sR 3 (awp_ret (oF hF [] []))

/-! ### beaconfleet/series.byDevice -/
def z684 (qa : api_Sample) (qb : api_Sample) (r : Int) : TV × Mem := (.i r, ⟨[], []⟩)

theorem z685 {qa : api_Sample} {qb : api_Sample} {r} (hF : z683 qa qb = some r) : Holds prog 155 [.v (.agg [.s qa.Device, .s qa.Metric, .i qa.At, .i qa.Value]), .v (.agg [.s qb.Device, .s qb.Metric, .i qb.At, .i qb.Value])] ⟨[], []⟩ (Is (z684 qa qb r)) := by
  unfold z683 at hF
  refine hW f155 22 0 0 ?_
  refine sR 3 (awp_seq (bE hF fun _ h1 hF => bE hF fun _ h2 hF => bE hF fun vr h3 hF => bE hF fun vr1 h4 hF => aD ?_))
  refine dR 4 ?_
  refine dC (z1200 h1) [] [] [] ?_
  refine dR 4 ?_
  refine dC (z1200 h2) [] [] [] ?_
  refine dR 4 ?_
  refine dC (z144 h3) [] [] [] ?_
  refine dR 1 ?_
  refine dC (z154 h4) [] [] [18000] ?_
  refine dR 1 ?_
  refine dE ?_
  exact awp_ret (oF hF [] [])

end Go.Eng
