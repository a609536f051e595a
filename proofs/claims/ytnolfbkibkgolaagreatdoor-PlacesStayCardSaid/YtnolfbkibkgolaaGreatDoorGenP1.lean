/-
The code of the Go functions that the law PlacesStay reaches does what the plain functions say, part 1.
-/
import Derived.Test.YtnolfbkibkgolaaGreatDoorGenF

import Derived.Test.YtnolfbkibkgolaaGreatDoorEng9

import Derived.Test.YtnolfbkibkgolaaGreatDoorProg

import Derived.KernelRfl

namespace Go.Eng

open Go Go.Proofs.Tryz

set_option linter.unusedVariables false

set_option maxRecDepth 20000

set_option maxHeartbeats 0

def ti2 : TI := ⟨1, 8, [.d (.int .i64 0)], false, .int .i64⟩

def ti3 : TI := ⟨1, 8, [.d (.int .i64 0)], false, .int .i64⟩

def ti4 : TI := ⟨1, 1, [.d (.bool false)], false, .bool⟩

def ti5 : TI := ⟨1, 1, [.d (.int .u8 0)], false, .int .u8⟩

def ti9 : TI := ⟨1, 16, [.d (.str [])], false, .str⟩

def ti12 : TI := ⟨1, 8, [.d (.int .u64 0)], false, .int .u64⟩

def ti21 : TI := ⟨1, 4, [.d (.int .i32 0)], false, .int .i32⟩

def ti22 : TI := ⟨1, 24, [.nil], false, .slice 3⟩

def ti25 : TI := ⟨2, 32, [.nil, .d (.int .i64 0)], true, .struct [(0, 22), (1, 3)]⟩

def ti26 : TI := ⟨1, 24, [.nil], false, .slice 52⟩

def ti28 : TI := ⟨2, 40, [.d (.str []), .nil], true, .struct [(0, 9), (1, 26)]⟩

def ti30 : TI := ⟨1, 24, [.nil], false, .slice 33⟩

def ti33 : TI := ⟨5, 48, [.d (.str []), .d (.int .i64 0), .d (.int .i64 0), .d (.int .i64 0), .d (.int .i64 0)], true, .struct [(0, 9), (1, 3), (2, 3), (3, 3), (4, 3)]⟩

def ti34 : TI := ⟨1, 8, [.d (.int .i64 0)], false, .int .i64⟩

def ti52 : TI := ⟨2, 16, [.d (.int .i64 0), .d (.int .i64 0)], true, .struct [(0, 3), (1, 3)]⟩

def ti59 : TI := ⟨1, 24, [.nil], false, .slice 121⟩

def ti70 : TI := ⟨1, 24, [.nil], false, .slice 4⟩

def ti71 : TI := ⟨1, 8, [.nilf], false, .other⟩

def ti73 : TI := ⟨2, 16, [.d (.int .i64 0), .d (.int .i64 0)], true, .struct [(0, 3), (1, 3)]⟩

def ti83 : TI := ⟨1, 24, [.nil], false, .slice 5⟩

def ti87 : TI := ⟨4, 48, [.d (.str []), .d (.str []), .d (.int .i64 0), .d (.int .i64 0)], true, .struct [(0, 9), (1, 9), (2, 3), (3, 3)]⟩

def ti88 : TI := ⟨1, 24, [.nil], false, .slice 87⟩

def ti90 : TI := ⟨3, 24, [.d (.int .i64 0), .d (.int .i64 0), .d (.int .i64 0)], true, .struct [(0, 3), (1, 3), (2, 3)]⟩

def ti97 : TI := ⟨1, 24, [.nil], false, .slice 148⟩

def ti101 : TI := ⟨4, 40, [.d (.int .i64 0), .d (.bool false), .d (.int .i64 0), .d (.str [])], true, .struct [(0, 3), (1, 4), (2, 3), (3, 9)]⟩

def ti103 : TI := ⟨5, 56, [.d (.str []), .d (.int .i64 0), .d (.bool false), .d (.int .i64 0), .d (.str [])], true, .struct [(0, 9), (1, 101)]⟩

def ti104 : TI := ⟨1, 24, [.nil], false, .slice 103⟩

def ti105 : TI := ⟨1, 24, [.nil], false, .slice 109⟩

def ti109 : TI := ⟨6, 72, [.d (.str []), .d (.str []), .d (.str []), .d (.int .i64 0), .d (.int .i64 0), .d (.int .i64 0)], true, .struct [(0, 9), (1, 9), (2, 9), (3, 3), (4, 3), (5, 3)]⟩

def ti121 : TI := ⟨4, 32, [.d (.int .i64 0), .d (.int .i64 0), .d (.int .i64 0), .d (.int .i64 0)], true, .struct [(0, 3), (1, 3), (2, 52)]⟩

def ti133 : TI := ⟨1, 24, [.nil], false, .slice 34⟩

def ti141 : TI := ⟨1, 24, [.nil], false, .slice 9⟩

def ti148 : TI := ⟨9, 96, [.d (.str []), .d (.int .i64 0), .d (.bool false), .d (.int .i64 0), .d (.str []), .d (.int .i64 0), .d (.bool false), .d (.int .i64 0), .d (.str [])], true, .struct [(0, 9), (1, 101), (5, 101)]⟩

def ti158 : TI := ⟨1, 8, [.d (.int .u64 0)], false, .int .u64⟩

def ti159 : TI := ⟨1, 24, [.nil], false, .slice 26⟩

def ti161 : TI := ⟨1, 24, [.nil], false, .slice 30⟩

def ti169 : TI := ⟨1, 8, [.d (.int .u64 0)], false, .int .u64⟩

def ti182 : TI := ⟨1, 24, [.nil], false, .slice 104⟩

def ti203 : TI := ⟨1, 16, [.nili], false, .other⟩

def Γ : Types := [(2, ti2), (3, ti3), (4, ti4), (5, ti5), (9, ti9), (12, ti12), (21, ti21), (22, ti22), (25, ti25), (26, ti26), (28, ti28), (30, ti30), (33, ti33), (34, ti34), (52, ti52), (59, ti59), (70, ti70), (71, ti71), (73, ti73), (83, ti83), (87, ti87), (88, ti88), (90, ti90), (97, ti97), (101, ti101), (103, ti103), (104, ti104), (105, ti105), (109, ti109), (121, ti121), (133, ti133), (141, ti141), (148, ti148), (158, ti158), (159, ti159), (161, ti161), (169, ti169), (182, ti182), (203, ti203)]

theorem hΓ : TypesOk prog Γ := typesOk_of (by kernel_rfl)

instance : TOk prog Γ := ⟨hΓ⟩

theorem hm : prog.follows .mixedOrders = true := by kernel_rfl

instance : Mixed prog := ⟨hm⟩

/-! ### beaconfleet/fleetmake.Below -/
def z232 (qx : Int) (qn : Int) : Int → St
  | vx => Mem.st ⟨[], []⟩ (tl [(0, .i vx)]) 0

def z231 (qx : Int) (qn : Int) : St := Mem.st ⟨[], []⟩ (tl [(0, .i (qx.tmod qn)), (1, .i qn)]) 0

theorem z233 (qx : Int) (qn : Int) {r} (hF : z230 qx qn = some r) : Awp prog 0 16 (cL (cR (cR (cR (cB f73))))) (Out 0 nrm (z232 qx qn) r) (z231 qx qn) := by
  unfold z230 at hF
  refine sR 2 (cE hF (fun h3 hF => ?_) fun h3 hF => ?_)
  · exact tT h3 (gR 4 (oO hF [] [] rfl))
  · exact tF h3 (awp_skip (oO hF [] [] rfl))

def z228 (qx : Int) (qn : Int) (r : Int) : TV × Mem := (.i r, ⟨[], []⟩)

theorem z229 {qx : Int} {qn : Int} {r} (hF : z227 qx qn = some r) : Holds prog 73 [.i qx, .i qn] ⟨[], []⟩ (Is (z228 qx qn r)) := by
  unfold z227 at hF
  refine hW f73 16 0 0 ?_
  refine sR 1 (awp_seq (sR 2 (cE hF (fun h1 hF => ?_) fun h1 hF => ?_)))
  · exact tT h1 (sR 1 (awp_ret (oF hF [] [])))
  · refine tF h1 (awp_skip (awp_seq (gE hF fun h2 hF => ?_)))
    refine awp_region (aR 2 (aX (x_rem h2) (aR 1 (aE ?_))))
    refine awp_seq (awp_to (st' := z231 qx qn) (oT [] []) ?_)
    refine bE hF fun vx1 h4 hF => awp_sub (z233 qx qn h4) ?_
    exact sR 2 (awp_ret (oF hF [] []))

/-! ### (*beaconfleet/fleetmake.Stream).Next -/
def z239 (qs : z234) (qn : Int) (r : Int) : TV × Mem := (.i r, ⟨[], [(0, [.l (encI .i64) qs.L, .i (IntKind.wrap .i64 (qs.at_ + 1))])]⟩)

theorem z240 {qs : z234} {qn : Int} {r} (hF : z238 qs qn = some r) : Holds prog 31 [.c (.box 0 0), .i qn] ⟨[], [(0, [.l (encI .i64) qs.L, .i qs.at_])]⟩ (Is (z239 qs qn r)) := by
  unfold z238 at hF
  refine hW f31 64 1 1 ?_
  refine sR 1 (sR 8 (awp_seq (awp_seq (awp_region (aR 4 (aL (encI .i64) qs.L (aR 1 (aE ?_))))))))
  refine cE hF (fun h1 hF => ?_) fun h1 hF => ?_
  · refine tT h1 (awp_seq (bE hF fun vr h2 hF => awp_region (aR 6 (aC (z229 h2) [] [] [] (aR 1 (aE ?_))))))
    exact awp_ret (oF hF [] [])
  · refine tF h1 (awp_skip (awp_seq (gE hF fun h3 hF => ?_)))
    refine aD ?_
    refine dR 9 ?_
    refine dL (encI .i64) qs.L ?_
    refine dX (x_rem h3) ?_
    refine dR 1 ?_
    refine dE ?_
    refine awp_seq (aD ?_)
    refine dR 9 ?_
    refine dL (encI .i64) qs.L ?_
    refine dX (x_quo h3) ?_
    refine dR 1 ?_
    refine dE ?_
    refine awp_seq (bE hF fun vy h4 hF => bE hF fun vr1 h5 hF => bE hF fun vr2 h6 hF => awp_region (aR 5 (aX (x_idx (encI .i64) h4) (aR 1 (aC (z229 h5) [] [] [] (aR 6 (aC (z229 h6) [] [] [] (aR 1 (aE ?_)))))))))
    exact awp_ret (oF hF [] [])

/-! ### (*beaconfleet/fleetmake.Stream).Range -/
def z248 (qs : z234) (qlow : Int) (qhigh : Int) (r : z234 × Int) : TV × Mem := (.i r.2, ⟨[], [(0, [.l (encI .i64) r.1.L, .i r.1.at_])]⟩)

theorem z249 {qs : z234} {qlow : Int} {qhigh : Int} {r} (hF : z247 qs qlow qhigh = some r) : Holds prog 12 [.c (.box 0 0), .i qlow, .i qhigh] ⟨[], [(0, [.l (encI .i64) qs.L, .i qs.at_])]⟩ (Is (z248 qs qlow qhigh r)) := by
  unfold z247 at hF
  refine hW f12 19 1 1 ?_
  refine sR 1 (awp_seq (sR 3 (cE hF (fun h1 hF => ?_) fun h1 hF => ?_)))
  · exact tT h1 (sR 2 (awp_ret (oF hF [] [])))
  · refine tF h1 (awp_skip (awp_seq (bE hF fun vr3 h2 hF => awp_region (aR 6 (aC (z240 h2) [] [] [] (aR 2 (aE ?_)))))))
    exact awp_ret (oF hF [] [])

/-! ### (*beaconfleet/fleetmake.Stream).Pick -/
def z242 (qs : z234) (ql : List Int) (r : Int) : TV × Mem := (.i r, ⟨[], [(0, [.l (encI .i64) qs.L, .i (IntKind.wrap .i64 (qs.at_ + 1))])]⟩)

theorem z243 {qs : z234} {ql : List Int} {r} (hF : z241 qs ql = some r) : Holds prog 29 [.c (.box 0 0), .c (.own 1 none)] ⟨[(1, ⟨3, 1, List.map (encI .i64) ql⟩)], [(0, [.l (encI .i64) qs.L, .i qs.at_])]⟩ (Is (z242 qs ql r)) := by
  unfold z241 at hF
  refine hW f29 12 2 2 ?_
  refine sR 1 (awp_to (oT (m := ⟨[], [(0, [.l (encI .i64) qs.L, .i qs.at_])]⟩) (ts := [(0, .c (.box 0 0)), (1, .c (.l (encI .i64) ql))]) (nx := 2) [] []) ?_)
  refine awp_seq (bE hF fun vr3 h1 hF => bE hF fun vy h2 hF => awp_region (aR 3 (aL (encI .i64) ql (aC (z240 h1) [] [] [] (aX (x_idx (encI .i64) h2) (aR 2 (aE ?_)))))))
  exact awp_ret (oF hF [] [])

/-! ### (*beaconfleet/fleetmake.Stream).Place -/
def z245 (qs : z234) (r : api_Spot) : TV × Mem := (.v (.agg [.i r.X, .i r.Y]), ⟨[], [(0, [.l (encI .i64) qs.L, .i (IntKind.wrap .i64 ((IntKind.wrap .i64 (qs.at_ + 1)) + 1))])]⟩)

theorem z246 {qs : z234} {r} (hF : z244 qs = some r) : Holds prog 27 [.c (.box 0 0)] ⟨[], [(0, [.l (encI .i64) qs.L, .i qs.at_])]⟩ (Is (z245 qs r)) := by
  unfold z244 at hF
  refine hW f27 10 1 1 ?_
  refine sR 1 (awp_seq (bE hF fun vr h1 hF => bE hF fun vr1 h2 hF => awp_region (aR 2 (aC (z243 h1) [(1, 2001)] [] [] (aR 2 (aC (z243 h2) [(1, 5001)] [] [] (aR 2 (aE ?_))))))))
  exact awp_ret (oF hF [] [])

/-! ### (*beaconfleet/fleetmake.Stream).Flip -/
def z236 (qs : z234) (qn : Int) (r : Bool) : TV × Mem := (.b r, ⟨[], [(0, [.l (encI .i64) qs.L, .i (IntKind.wrap .i64 (qs.at_ + 1))])]⟩)

theorem z237 {qs : z234} {qn : Int} {r} (hF : z235 qs qn = some r) : Holds prog 28 [.c (.box 0 0), .i qn] ⟨[], [(0, [.l (encI .i64) qs.L, .i qs.at_])]⟩ (Is (z236 qs qn r)) := by
  unfold z235 at hF
  refine hW f28 9 1 1 ?_
  refine sR 1 (awp_seq (bE hF fun vr3 h1 hF => awp_region (aR 2 (aC (z240 h1) [] [] [] (aR 2 (aE ?_))))))
  exact awp_ret (oF hF [] [])

/-! ### beaconfleet/fleetref2.in -/
def z340 (qn : Int) (qlow : Int) (qhigh : Int) : Bool → St
  | vx => Mem.st ⟨[], []⟩ (tl [(6, .b vx)]) 0

def z339 (qn : Int) (qlow : Int) (qhigh : Int) : St := Mem.st ⟨[], []⟩ (tl [(0, .i qn), (1, .i qlow), (2, .i qhigh)]) 0

theorem z341 (qn : Int) (qlow : Int) (qhigh : Int) {r} (hF : z338 qn qlow qhigh = some r) : Awp prog 0 15 (cL (cR (cB f111))) (Out 0 nrm (z340 qn qlow qhigh) r) (z339 qn qlow qhigh) := by
  unfold z338 at hF
  refine cE hF (fun h1 hF => ?_) fun h1 hF => ?_
  · refine awp_region (aR 2 (aB h1 (aR 6 (aE ?_))))
    exact oO hF [] [] rfl
  · refine awp_region (aR 2 (aB h1 (aR 6 (aE ?_))))
    exact oO hF [] [] rfl

def z336 (qn : Int) (qlow : Int) (qhigh : Int) (r : Bool) : TV × Mem := (.b r, ⟨[], []⟩)

theorem z337 {qn : Int} {qlow : Int} {qhigh : Int} {r} (hF : z335 qn qlow qhigh = some r) : Holds prog 111 [.i qn, .i qlow, .i qhigh] ⟨[], []⟩ (Is (z336 qn qlow qhigh r)) := by
  unfold z335 at hF
  refine hW f111 15 0 0 ?_
  refine sR 1 (awp_seq (awp_to (st' := z339 qn qlow qhigh) (oT [] []) ?_))
  refine bE hF fun vx1 h2 hF => awp_sub (z341 qn qlow qhigh h2) ?_
  exact awp_ret (oF hF [] [])

/-! ### beaconfleet/fleetref2.SpotFault -/
def z324 (qs : api_Spot) : Bool → St
  | vx => Mem.st ⟨[], []⟩ (tl [(12, .b vx)]) 0

def z323 (qs : api_Spot) : St := Mem.st ⟨[], [(0, [.i qs.X, .i qs.Y])]⟩ (tl [(1, .c (.box 0 0))]) 1

theorem z325 (qs : api_Spot) {r} (hF : z322 qs = some r) : Awp prog 0 13 (cL (cL (cR (cB f68)))) (Out 0 nrm (z324 qs) r) (z323 qs) := by
  unfold z322 at hF
  refine bE hF fun vr h1 hF => cE hF (fun h2 hF => ?_) fun h2 hF => ?_
  · refine awp_region (aR 2 (aC (z337 h1) [] [] [] (aB h2 (aR 6 (aE ?_)))))
    exact oO hF [] [] rfl
  · refine bE hF fun vr1 h3 hF => awp_region (aR 2 (aC (z337 h1) [] [] [] (aB h2 (aR 3 (aC (z337 h3) [] [] [] (aR 2 (aE ?_)))))))
    exact oO hF [] [] rfl

def z320 (qs : api_Spot) (r : Int) : TV × Mem := (.i r, ⟨[], []⟩)

theorem z321 {qs : api_Spot} {r} (hF : z319 qs = some r) : Holds prog 68 [.v (.agg [.i qs.X, .i qs.Y])] ⟨[], []⟩ (Is (z320 qs r)) := by
  unfold z319 at hF
  refine hW f68 13 0 0 ?_
  refine sR 2 (awp_seq (awp_seq (awp_to (st' := z323 qs) (oT [] []) ?_)))
  refine bE hF fun vx1 h4 hF => awp_sub (z325 qs h4) ?_
  refine cE hF (fun h5 hF => ?_) fun h5 hF => ?_
  · exact tT h5 (sR 1 (awp_ret (oF hF [] [])))
  · exact tF h5 (awp_skip (sR 1 (awp_ret (oF hF [] []))))

/-! ### slices.Index[[]beaconfleet/api.Spot,beaconfleet/api.Spot] -/
def z911 : Unit ⊕ Int → AEx
  | .inl _ => .exit 0
  | .inr _ => .ret

def z910 (qs : List api_Spot) (qv : api_Spot) : Unit ⊕ Int → St
  | .inl _ => Mem.st ⟨[], []⟩ (tl []) 0
  | .inr vx1 => Mem.st ⟨[], []⟩ (tl [(4, .i vx1)]) 0

def z909 (qs : List api_Spot) (qv : api_Spot) : Int → St
  | vx => Mem.st ⟨[], [(0, [.i qv.X, .i qv.Y])]⟩ (tl [(0, .c (.l api_Spot.enc qs)), (3, .c (.box 0 0)), (7, .i (qs.length : Int)), (8, .i vx)]) 1

theorem z912 (qs : List api_Spot) (qv : api_Spot) (vx : Int) (r : (Int) ⊕ (Unit ⊕ Int)) (hF : z908 qs qv vx = some r) : Awp prog 0 19 (cL (cL (cR (cL (cR (cB f112)))))) (Out 0 (kk z911) (SS (z909 qs qv) (z910 qs qv)) r) (z909 qs qv vx) := by
  unfold z908 at hF
  refine sR 1 (awp_seq (cE hF (fun h1 hF => ?_) fun h1 hF => ?_))
  · refine tT h1 (awp_skip (awp_seq (awp_block (sR 2 (awp_seq (bE hF fun vy1 h2 hF => aD ?_))))))
    refine dR 3 ?_
    refine dX (x_idx api_Spot.enc h2) ?_
    refine dR 1 ?_
    refine dS (U := []) (stable_eqS (op := .eql) (xs := [.int .i64 qv.X, .int .i64 qv.Y]) (ys := [.int .i64 vy1.X, .int .i64 vy1.Y]) (b := (decide (qv.X = vy1.X) && (decide (qv.Y = vy1.Y) && true))) (c := (decide (qv.X = vy1.X) && (decide (qv.Y = vy1.Y) && true))) rfl (.inl ⟨rfl, rfl⟩) (by kernel_rfl) (by kernel_rfl) (by kernel_rfl) (by kernel_rfl) (by kernel_rfl) (by kernel_rfl)) ?_
    refine dE ?_
    refine cE hF (fun h3 hF => ?_) fun h3 hF => ?_
    · exact tT h3 (sR 2 (awp_ret (oO hF [] [] rfl)))
    · exact tF h3 (awp_skip (gR 2 (oO hF [] [] rfl)))
  · refine tF h1 (awp_exit ?_)
    exact oO hF [] [] rfl

def z906 (qs : List api_Spot) (qv : api_Spot) (r : Int) : TV × Mem := (.i r, ⟨[], []⟩)

theorem z907 {qs : List api_Spot} {qv : api_Spot} {r} (hF : z905 qs qv = some r) : Holds prog 112 [.c (.l api_Spot.enc qs), .v (.agg [.i qv.X, .i qv.Y])] ⟨[], []⟩ (Is (z906 qs qv r)) := by
  unfold z905 at hF
  refine hW f112 19 0 0 ?_
  refine sR 2 (awp_seq (awp_seq (awp_region (aR 1 (aL api_Spot.enc qs (aR 1 (aE ?_)))))))
  refine awp_block (awp_to (st' := z909 qs qv 0) (oT [] []) ?_)
  refine bE hF fun x h4 hF => ?_
  rcases x with _ | vx1_1
  · refine awp_sub (awp_loop' (z909 qs qv) z911 (z910 qs qv) (by intro x; rcases x with x | x <;> exact fun h => nomatch h) h4 (z912 qs qv)) ?_
    exact sR 1 (awp_ret (oF hF [] []))
  · refine awp_sub (awp_loop' (z909 qs qv) z911 (z910 qs qv) (by intro x; rcases x with x | x <;> exact fun h => nomatch h) h4 (z912 qs qv)) ?_
    exact oF hF [] []

/-! ### slices.Contains[[]beaconfleet/api.Spot,beaconfleet/api.Spot] -/
def z833 (qs : List api_Spot) (qv : api_Spot) (r : Bool) : TV × Mem := (.b r, ⟨[], []⟩)

theorem z834 {qs : List api_Spot} {qv : api_Spot} {r} (hF : z832 qs qv = some r) : Holds prog 69 [.c (.l api_Spot.enc qs), .v (.agg [.i qv.X, .i qv.Y])] ⟨[], []⟩ (Is (z833 qs qv r)) := by
  unfold z832 at hF
  refine hW f69 9 0 0 ?_
  refine sR 2 (awp_seq (bE hF fun vr h1 hF => awp_region (aR 2 (aC (z907 h1) [] [] [] (aR 2 (aE ?_))))))
  exact awp_ret (oF hF [] [])

/-! ### beaconfleet/fleetref2.edge -/
def z333 (ql : List api_Spot) (qi : Int) (r : api_Spot × api_Spot) : TV × Mem := (.tup [.agg [.i r.1.X, .i r.1.Y], .agg [.i r.2.X, .i r.2.Y]], ⟨[], []⟩)

theorem z334 {ql : List api_Spot} {qi : Int} {r} (hF : z332 ql qi = some r) : Holds prog 70 [.c (.l api_Spot.enc ql), .i qi] ⟨[], []⟩ (Is (z333 ql qi r)) := by
  unfold z332 at hF
  refine hW f70 18 0 0 ?_
  refine sR 2 (awp_seq (bE hF fun vy h1 hF => gE hF fun h2 hF => ?_))
  refine bE hF fun vy1 h3 hF => aD ?_
  refine dR 2 ?_
  refine dX (x_idx api_Spot.enc h1) ?_
  refine dR 5 ?_
  refine dL api_Spot.enc ql ?_
  refine dX (x_rem h2) ?_
  refine dX (x_idx api_Spot.enc h3) ?_
  refine dR 3 ?_
  refine dE ?_
  exact awp_ret (oF hF [] [])

/-! ### beaconfleet/fleetref2.minus -/
def z343 (qa : api_Spot) (qb : api_Spot) (r : Unit) : TV × Mem := (.v (.agg [.i (IntKind.wrap .i64 (qa.X - qb.X)), .i (IntKind.wrap .i64 (qa.Y - qb.Y))]), ⟨[], []⟩)

theorem z344 {qa : api_Spot} {qb : api_Spot} {r} (hF : z342 qa qb = some r) : Holds prog 115 [.v (.agg [.i qa.X, .i qa.Y]), .v (.agg [.i qb.X, .i qb.Y])] ⟨[], []⟩ (Is (z343 qa qb r)) := by
  unfold z342 at hF
  refine hW f115 16 0 0 ?_
  exact sR 3 (sR 12 (awp_ret (oF hF [] [])))

/-! ### beaconfleet/fleetref2.cross -/
def z327 (qa : api_Spot) (qb : api_Spot) (r : Unit) : TV × Mem := (.i (IntKind.wrap .i64 ((IntKind.wrap .i64 (qa.X * qb.Y)) - (IntKind.wrap .i64 (qa.Y * qb.X)))), ⟨[], []⟩)

theorem z328 {qa : api_Spot} {qb : api_Spot} {r} (hF : z326 qa qb = some r) : Holds prog 154 [.v (.agg [.i qa.X, .i qa.Y]), .v (.agg [.i qb.X, .i qb.Y])] ⟨[], []⟩ (Is (z327 qa qb r)) := by
  unfold z326 at hF
  refine hW f154 16 0 0 ?_
  exact sR 3 (sR 12 (awp_ret (oF hF [] [])))

/-! ### beaconfleet/fleetref2.sign -/
def z356 (qn : Int) (r : Int) : TV × Mem := (.i r, ⟨[], []⟩)

theorem z357 {qn : Int} {r} (hF : z355 qn = some r) : Holds prog 153 [.i qn] ⟨[], []⟩ (Is (z356 qn r)) := by
  unfold z355 at hF
  refine hW f153 9 0 0 ?_
  refine sR 1 (awp_seq (awp_block (sR 3 (cE hF (fun h1 hF => ?_) fun h1 hF => ?_))))
  · exact tT h1 (sR 1 (awp_ret (oF hF [] [])))
  · refine tF h1 (sR 3 (cE hF (fun h2 hF => ?_) fun h2 hF => ?_))
    · exact tT h2 (sR 1 (awp_ret (oF hF [] [])))
    · exact tF h2 (awp_skip (sR 1 (awp_ret (oF hF [] []))))

/-! ### beaconfleet/fleetref2.side -/
def z353 (qa : api_Spot) (qb : api_Spot) (qs : api_Spot) (r : Int) : TV × Mem := (.i r, ⟨[], []⟩)

theorem z354 {qa : api_Spot} {qb : api_Spot} {qs : api_Spot} {r} (hF : z352 qa qb qs = some r) : Holds prog 113 [.v (.agg [.i qa.X, .i qa.Y]), .v (.agg [.i qb.X, .i qb.Y]), .v (.agg [.i qs.X, .i qs.Y])] ⟨[], []⟩ (Is (z353 qa qb qs r)) := by
  unfold z352 at hF
  refine hW f113 15 0 0 ?_
  refine sR 4 (awp_seq (bE hF fun _ h1 hF => bE hF fun _ h2 hF => bE hF fun _ h3 hF => bE hF fun vr h4 hF => aD ?_))
  refine dR 2 ?_
  refine dC (z344 h1) [] [] [] ?_
  refine dR 2 ?_
  refine dC (z344 h2) [] [] [] ?_
  refine dC (z328 h3) [] [] [] ?_
  refine dC (z357 h4) [] [] [] ?_
  refine dR 1 ?_
  refine dE ?_
  exact awp_ret (oF hF [] [])

/-! ### beaconfleet/fleetref2.dot -/
def z330 (qa : api_Spot) (qb : api_Spot) (r : Unit) : TV × Mem := (.i (IntKind.wrap .i64 ((IntKind.wrap .i64 (qa.X * qb.X)) + (IntKind.wrap .i64 (qa.Y * qb.Y)))), ⟨[], []⟩)

theorem z331 {qa : api_Spot} {qb : api_Spot} {r} (hF : z329 qa qb = some r) : Holds prog 114 [.v (.agg [.i qa.X, .i qa.Y]), .v (.agg [.i qb.X, .i qb.Y])] ⟨[], []⟩ (Is (z330 qa qb r)) := by
  unfold z329 at hF
  refine hW f114 16 0 0 ?_
  exact sR 3 (sR 12 (awp_ret (oF hF [] [])))

/-! ### beaconfleet/fleetref2.onWay -/
def z350 (qa : api_Spot) (qb : api_Spot) (qs : api_Spot) : Bool → St
  | vx => Mem.st ⟨[], []⟩ (tl [(6, .b vx)]) 0

def z349 (qa : api_Spot) (qb : api_Spot) (qs : api_Spot) : St := Mem.st ⟨[], [(0, [.i qa.X, .i qa.Y]), (1, [.i qb.X, .i qb.Y]), (2, [.i qs.X, .i qs.Y])]⟩ (tl [(3, .c (.box 0 0)), (4, .c (.box 1 0)), (5, .c (.box 2 0))]) 3

theorem z351 (qa : api_Spot) (qb : api_Spot) (qs : api_Spot) {r} (hF : z348 qa qb qs = some r) : Awp prog 0 22 (cL (cR (cB f71))) (Out 0 nrm (z350 qa qb qs) r) (z349 qa qb qs) := by
  unfold z348 at hF
  refine bE hF fun vr1 h1 hF => cE hF (fun h2 hF => ?_) fun h2 hF => ?_
  · refine bE hF fun _ h3 hF => bE hF fun _ h4 hF => bE hF fun _ h5 hF => aD ?_
    refine dR 3 ?_
    refine dC (z354 h1) [] [] [] ?_
    refine dB h2 ?_
    refine dR 3 ?_
    refine dC (z344 h3) [] [] [] ?_
    refine dR 2 ?_
    refine dC (z344 h4) [] [] [] ?_
    refine dC (z331 h5) [] [] [] ?_
    refine dR 3 ?_
    refine dE ?_
    exact oO hF [] [] rfl
  · refine aD ?_
    refine dR 3 ?_
    refine dC (z354 h1) [] [] [] ?_
    refine dB h2 ?_
    refine dR 11 ?_
    refine dE ?_
    exact oO hF [] [] rfl

def z346 (qa : api_Spot) (qb : api_Spot) (qs : api_Spot) (r : Bool) : TV × Mem := (.b r, ⟨[], []⟩)

theorem z347 {qa : api_Spot} {qb : api_Spot} {qs : api_Spot} {r} (hF : z345 qa qb qs = some r) : Holds prog 71 [.v (.agg [.i qa.X, .i qa.Y]), .v (.agg [.i qb.X, .i qb.Y]), .v (.agg [.i qs.X, .i qs.Y])] ⟨[], []⟩ (Is (z346 qa qb qs r)) := by
  unfold z345 at hF
  refine hW f71 22 0 0 ?_
  refine sR 4 (awp_seq (awp_to (st' := z349 qa qb qs) (oT [(1, 1000), (2, 2000)] []) ?_))
  refine bE hF fun vx1 h6 hF => awp_sub (z351 qa qb qs h6) ?_
  exact awp_ret (oF hF [] [])

/-! ### beaconfleet/fleetref2.touches -/
def z363 (qa : api_Spot) (qb : api_Spot) (qc : api_Spot) (qd : api_Spot) : Bool → St
  | vx => Mem.st ⟨[], [(0, [.i qa.X, .i qa.Y]), (1, [.i qb.X, .i qb.Y]), (2, [.i qc.X, .i qc.Y]), (3, [.i qd.X, .i qd.Y])]⟩ (tl [(4, .c (.box 0 0)), (5, .c (.box 1 0)), (6, .c (.box 2 0)), (7, .c (.box 3 0)), (30, .b vx)]) 4

def z362 (qa : api_Spot) (qb : api_Spot) (qc : api_Spot) (qd : api_Spot) : St := Mem.st ⟨[], [(0, [.i qa.X, .i qa.Y]), (1, [.i qb.X, .i qb.Y]), (2, [.i qc.X, .i qc.Y]), (3, [.i qd.X, .i qd.Y])]⟩ (tl [(4, .c (.box 0 0)), (5, .c (.box 1 0)), (6, .c (.box 2 0)), (7, .c (.box 3 0))]) 4

theorem z364 (qa : api_Spot) (qb : api_Spot) (qc : api_Spot) (qd : api_Spot) {r} (hF : z361 qa qb qc qd = some r) : Awp prog 0 53 (cL (cL (cR (cB f72)))) (Out 0 nrm (z363 qa qb qc qd) r) (z362 qa qb qc qd) := by
  unfold z361 at hF
  refine bE hF fun vr h1 hF => cE hF (fun h2 hF => ?_) fun h2 hF => ?_
  · refine awp_region (aR 3 (aCb (z347 h1) [] [] [] h2 ?_))
    refine aR 18 (aE ?_)
    exact oO hF [] [] rfl
  · refine bE hF fun vr1 h3 hF => cE hF (fun h4 hF => ?_) fun h4 hF => ?_
    · refine awp_region (aR 3 (aCb (z347 h1) [] [] [] h2 ?_))
      refine aR 4 (aCb (z347 h3) [] [] [] h4 ?_)
      refine aR 13 (aE ?_)
      exact oO hF [] [] rfl
    · refine bE hF fun vr2 h5 hF => cE hF (fun h6 hF => ?_) fun h6 hF => ?_
      · refine awp_region (aR 3 (aCb (z347 h1) [] [] [] h2 ?_))
        refine aR 4 (aCb (z347 h3) [] [] [] h4 ?_)
        refine aR 5 (aCb (z347 h5) [] [] [] h6 ?_)
        refine aR 7 (aE ?_)
        exact oO hF [] [] rfl
      · refine bE hF fun vr3 h7 hF => awp_region (aR 3 (aCb (z347 h1) [] [] [] h2 ?_))
        refine aR 4 (aCb (z347 h3) [] [] [] h4 ?_)
        refine aR 5 (aCb (z347 h5) [] [] [] h6 ?_)
        refine aR 5 (aC (z347 h7) [] [] [] (aR 1 (aE ?_)))
        exact oO hF [] [] rfl

def z367 (qa : api_Spot) (qb : api_Spot) (qc : api_Spot) (qd : api_Spot) : Bool → St
  | vx2 => Mem.st ⟨[], []⟩ (tl [(8, .b vx2)]) 0

def z366 (qa : api_Spot) (qb : api_Spot) (qc : api_Spot) (qd : api_Spot) : St := Mem.st ⟨[], [(0, [.i qa.X, .i qa.Y]), (1, [.i qb.X, .i qb.Y]), (2, [.i qc.X, .i qc.Y]), (3, [.i qd.X, .i qd.Y])]⟩ (tl [(4, .c (.box 0 0)), (5, .c (.box 1 0)), (6, .c (.box 2 0)), (7, .c (.box 3 0))]) 4

theorem z368 (qa : api_Spot) (qb : api_Spot) (qc : api_Spot) (qd : api_Spot) {r} (hF : z365 qa qb qc qd = some r) : Awp prog 0 53 (cL (cR (cR (cB f72)))) (Out 0 nrm (z367 qa qb qc qd) r) (z366 qa qb qc qd) := by
  unfold z365 at hF
  refine bE hF fun vr1_1 h10 hF => bE hF fun vr1_2 h11 hF => cE hF (fun h12 hF => ?_) fun h12 hF => ?_
  · refine bE hF fun vr1_3 h13 hF => bE hF fun vr1_4 h14 hF => aD ?_
    refine dR 3 ?_
    refine dC (z354 h10) [] [] [] ?_
    refine dR 3 ?_
    refine dC (z354 h11) [] [] [] ?_
    refine dR 1 ?_
    refine dB h12 ?_
    refine dR 4 ?_
    refine dC (z354 h13) [] [] [] ?_
    refine dR 3 ?_
    refine dC (z354 h14) [] [] [] ?_
    refine dR 4 ?_
    refine dE ?_
    exact oO hF [] [] rfl
  · refine aD ?_
    refine dR 3 ?_
    refine dC (z354 h10) [] [] [] ?_
    refine dR 3 ?_
    refine dC (z354 h11) [] [] [] ?_
    refine dR 1 ?_
    refine dB h12 ?_
    refine dR 13 ?_
    refine dE ?_
    exact oO hF [] [] rfl

def z359 (qa : api_Spot) (qb : api_Spot) (qc : api_Spot) (qd : api_Spot) (r : Bool) : TV × Mem := (.b r, ⟨[], []⟩)

theorem z360 {qa : api_Spot} {qb : api_Spot} {qc : api_Spot} {qd : api_Spot} {r} (hF : z358 qa qb qc qd = some r) : Holds prog 72 [.v (.agg [.i qa.X, .i qa.Y]), .v (.agg [.i qb.X, .i qb.Y]), .v (.agg [.i qc.X, .i qc.Y]), .v (.agg [.i qd.X, .i qd.Y])] ⟨[], []⟩ (Is (z359 qa qb qc qd r)) := by
  unfold z358 at hF
  refine hW f72 53 0 0 ?_
  refine sR 5 (awp_seq (awp_seq (awp_to (st' := z362 qa qb qc qd) (oT [(1, 1000), (2, 2000), (3, 3000)] []) ?_)))
  refine bE hF fun vx1 h8 hF => awp_sub (z364 qa qb qc qd h8) ?_
  refine cE hF (fun h9 hF => ?_) fun h9 hF => ?_
  · exact tT h9 (sR 1 (awp_ret (oF hF [] [])))
  · refine tF h9 (awp_skip (awp_seq (awp_to (st' := z366 qa qb qc qd) (oT [] []) ?_)))
    refine bE hF fun vx2_1 h15 hF => awp_sub (z368 qa qb qc qd h15) ?_
    exact awp_ret (oF hF [] [])

/-! ### beaconfleet/fleetref2.CornersFault -/
def z298 : Unit ⊕ Int → AEx
  | .inl _ => .exit 1
  | .inr _ => .ret

def z297 (qx : List api_Spot) : Unit ⊕ Int → St
  | .inl _ => Mem.st ⟨[], []⟩ (tl [(0, .c (.l api_Spot.enc qx))]) 0
  | .inr vx1 => Mem.st ⟨[], []⟩ (tl [(2, .i vx1)]) 0

def z296 (qx : List api_Spot) : Int → St
  | vx => Mem.st ⟨[], []⟩ (tl [(0, .c (.l api_Spot.enc qx)), (20, .c (.l api_Spot.enc qx)), (21, .i (qx.length : Int)), (22, .i vx)]) 0

theorem z299 (qx : List api_Spot) (vx : Int) (r : (Int) ⊕ (Unit ⊕ Int)) (hF : z295 qx vx = some r) : Awp prog 0 90 (cL (cL (cR (cL (cR (cR (cB f30))))))) (Out 0 (kk z298) (SS (z296 qx) (z297 qx)) r) (z296 qx vx) := by
  unfold z295 at hF
  refine sR 1 (awp_seq (cE hF (fun h3 hF => ?_) fun h3 hF => ?_))
  · refine tT h3 (awp_skip (awp_seq (awp_block (awp_seq (bE hF fun vy1 h4 hF => awp_region (aR 1 (aX (x_idx api_Spot.enc h4) (aR 4 (aE ?_)))))))))
    refine awp_seq (awp_seq (bE hF fun vr2_1 h5 hF => awp_region (aR 1 (aC (z321 h5) [] [] [] (aR 1 (aE ?_))))))
    refine sR 2 (cE hF (fun h6 hF => ?_) fun h6 hF => ?_)
    · exact tT h6 (sR 2 (awp_ret (oO hF [] [] rfl)))
    · refine tF h6 (awp_skip (awp_seq (bE hF fun vl1 h7 hF => bE hF fun vr1_1 h8 hF => aD ?_)))
      refine dR 2 ?_
      refine dX (x_slice api_Spot.enc h7) ?_
      refine dR 1 ?_
      refine dC (z834 h8) [] [] [] ?_
      refine dE ?_
      refine cE hF (fun h9 hF => ?_) fun h9 hF => ?_
      · exact tT h9 (sR 1 (awp_ret (oO hF [] [] rfl)))
      · exact tF h9 (awp_skip (gR 2 (oO hF [] [] rfl)))
  · refine tF h3 (awp_exit ?_)
    exact oO hF [] [] rfl

def z317 (qx : List api_Spot) (vx2 : Int) (vr9 : api_Spot) (vr1_5 : api_Spot) (vx6 : Int) (vr13 : api_Spot) (vr1_7 : api_Spot) : Bool → St
  | vx8 => Mem.st ⟨[], [(0, [.i vr9.X, .i vr9.Y]), (1, [.i vr1_5.X, .i vr1_5.Y])]⟩ (tl [(0, .c (.l api_Spot.enc qx)), (6, .i vx2), (7, .c (.box 0 0)), (8, .c (.box 1 0)), (39, .i (qx.length : Int)), (40, .i vx2), (50, .i (qx.length : Int)), (51, .i vx6), (77, .b vx8)]) 2

def z316 (qx : List api_Spot) (vx2 : Int) (vr9 : api_Spot) (vr1_5 : api_Spot) (vx6 : Int) (vr13 : api_Spot) (vr1_7 : api_Spot) : St := Mem.st ⟨[], [(0, [.i vr9.X, .i vr9.Y]), (1, [.i vr1_5.X, .i vr1_5.Y]), (2, [.i vr13.X, .i vr13.Y]), (3, [.i vr1_7.X, .i vr1_7.Y])]⟩ (tl [(0, .c (.l api_Spot.enc qx)), (6, .i vx2), (7, .c (.box 0 0)), (8, .c (.box 1 0)), (10, .c (.box 2 0)), (11, .c (.box 3 0)), (39, .i (qx.length : Int)), (40, .i vx2), (50, .i (qx.length : Int)), (51, .i vx6)]) 4

theorem z318 (qx : List api_Spot) (vx2 : Int) (vr9 : api_Spot) (vr1_5 : api_Spot) (vx6 : Int) (vr13 : api_Spot) (vr1_7 : api_Spot) {r} (hF : z315 vr9 vr1_5 vr13 vr1_7 = some r) : Awp prog 0 90 (cL (cL (cR (cR (cR (cL (cR (cR (cL (cL (cR (cR (cL (cL (cR (cR (cR (cL (cL (cR (cR (cL (cL (cR (cL (cR (cR (cR (cB f30))))))))))))))))))))))))))))) (Out 0 nrm (z317 qx vx2 vr9 vr1_5 vx6 vr13 vr1_7) r) (z316 qx vx2 vr9 vr1_5 vx6 vr13 vr1_7) := by
  unfold z315 at hF
  refine bE hF fun vr14 h17 hF => cE hF (fun h18 hF => ?_) fun h18 hF => ?_
  · refine awp_region (aR 3 (aCb (z347 h17) [] [] [] h18 ?_))
    refine aR 6 (aE ?_)
    exact oO hF [] [] rfl
  · refine bE hF fun vr15 h19 hF => awp_region (aR 3 (aCb (z347 h17) [] [] [] h18 ?_))
    refine aR 4 (aC (z347 h19) [] [] [] (aR 1 (aE ?_)))
    exact oO hF [] [] rfl

def z313 : Unit ⊕ Unit → AEx
  | .inl _ => .normal
  | .inr _ => .ret

def z312 (qx : List api_Spot) (vx2 : Int) (vr9 : api_Spot) (vr1_5 : api_Spot) (vx6 : Int) : Unit ⊕ Unit → St
  | .inl _ => Mem.st ⟨[], [(0, [.i vr9.X, .i vr9.Y]), (1, [.i vr1_5.X, .i vr1_5.Y])]⟩ (tl [(0, .c (.l api_Spot.enc qx)), (6, .i vx2), (7, .c (.box 0 0)), (8, .c (.box 1 0)), (39, .i (qx.length : Int)), (40, .i vx2), (50, .i (qx.length : Int)), (51, .i vx6)]) 2
  | .inr _ => Mem.st ⟨[], []⟩ (tl [(2, .i 13)]) 0

def z311 (qx : List api_Spot) (vx2 : Int) (vr9 : api_Spot) (vr1_5 : api_Spot) (vx6 : Int) : St := Mem.st ⟨[], [(0, [.i vr9.X, .i vr9.Y]), (1, [.i vr1_5.X, .i vr1_5.Y])]⟩ (tl [(0, .c (.l api_Spot.enc qx)), (6, .i vx2), (7, .c (.box 0 0)), (8, .c (.box 1 0)), (39, .i (qx.length : Int)), (40, .i vx2), (50, .i (qx.length : Int)), (51, .i vx6)]) 2

theorem z314 (qx : List api_Spot) (vx2 : Int) (vr9 : api_Spot) (vr1_5 : api_Spot) (vx6 : Int) {r} (hF : z310 qx vx2 vr9 vr1_5 vx6 = some r) : Awp prog 0 90 (cL (cR (cR (cL (cL (cR (cR (cR (cL (cL (cR (cR (cL (cL (cR (cL (cR (cR (cR (cB f30)))))))))))))))))))) (Out 0 z313 (z312 qx vx2 vr9 vr1_5 vx6) r) (z311 qx vx2 vr9 vr1_5 vx6) := by
  unfold z310 at hF
  refine awp_block (sR 2 (awp_seq (bE hF fun x h14 hF => ?_)))
  obtain ⟨vr13, vr1_7⟩ := x
  refine awp_region (aR 2 (aC (z334 h14) [] [] [] (aR 7 (aE ?_))))
  refine awp_block (sR 4 (cE hF (fun h15 hF => ?_) fun h15 hF => ?_))
  · exact tT h15 (awp_skip (oO hF [] [] rfl))
  · refine tF h15 (awp_seq (awp_region (aR 2 (aS (does_eqS (op := .eql) (xs := [.int .i64 vr1_5.X, .int .i64 vr1_5.Y]) (ys := [.int .i64 vr13.X, .int .i64 vr13.Y]) (b := (decide (vr1_5.X = vr13.X) && (decide (vr1_5.Y = vr13.Y) && true))) (c := (decide (vr1_5.X = vr13.X) && (decide (vr1_5.Y = vr13.Y) && true))) rfl (.inl ⟨rfl, rfl⟩) (by kernel_rfl) (by kernel_rfl) (by kernel_rfl) (by kernel_rfl) (by kernel_rfl) (by kernel_rfl)) ?_))))
    refine aR 1 (aE ?_)
    refine cE hF (fun h16 hF => ?_) fun h16 hF => ?_
    · refine tT h16 (awp_seq (awp_to (st' := z316 qx vx2 vr9 vr1_5 vx6 vr13 vr1_7) (oT [(2, 8002), (3, 9002)] []) ?_))
      refine bE hF fun vx8_1 h20 hF => awp_sub (z318 qx vx2 vr9 vr1_5 vx6 vr13 vr1_7 h20) ?_
      refine cE hF (fun h21 hF => ?_) fun h21 hF => ?_
      · exact tT h21 (sR 1 (awp_ret (oO hF [] [] rfl)))
      · exact tF h21 (awp_skip (oO hF [] [] rfl))
    · refine tF h16 (awp_seq (awp_region (aR 2 (aS (does_eqS (op := .eql) (xs := [.int .i64 vr1_7.X, .int .i64 vr1_7.Y]) (ys := [.int .i64 vr9.X, .int .i64 vr9.Y]) (b := (decide (vr1_7.X = vr9.X) && (decide (vr1_7.Y = vr9.Y) && true))) (c := (decide (vr1_7.X = vr9.X) && (decide (vr1_7.Y = vr9.Y) && true))) rfl (.inl ⟨rfl, rfl⟩) (by kernel_rfl) (by kernel_rfl) (by kernel_rfl) (by kernel_rfl) (by kernel_rfl) (by kernel_rfl)) ?_))))
      refine aR 1 (aE ?_)
      refine cE hF (fun h22 hF => ?_) fun h22 hF => ?_
      · exact tT h22 (awp_skip (oO hF [] [] rfl))
      · refine tF h22 (awp_seq (bE hF fun vr4_4 h23 hF => awp_region (aR 4 (aC (z360 h23) [] [] [] (aR 1 (aE ?_))))))
        refine cE hF (fun h24 hF => ?_) fun h24 hF => ?_
        · exact tT h24 (sR 1 (awp_ret (oO hF [] [] rfl)))
        · exact tF h24 (awp_skip (oO hF [] [] rfl))

def z308 : Unit ⊕ Unit → AEx
  | .inl _ => .exit 5
  | .inr _ => .ret

def z307 (qx : List api_Spot) (vx2 : Int) (vr9 : api_Spot) (vr1_5 : api_Spot) : Unit ⊕ Unit → St
  | .inl _ => Mem.st ⟨[], []⟩ (tl [(0, .c (.l api_Spot.enc qx)), (39, .i (qx.length : Int)), (40, .i vx2)]) 0
  | .inr _ => Mem.st ⟨[], []⟩ (tl [(2, .i 13)]) 0

def z306 (qx : List api_Spot) (vx2 : Int) (vr9 : api_Spot) (vr1_5 : api_Spot) : Int → St
  | vx6 => Mem.st ⟨[], [(0, [.i vr9.X, .i vr9.Y]), (1, [.i vr1_5.X, .i vr1_5.Y])]⟩ (tl [(0, .c (.l api_Spot.enc qx)), (6, .i vx2), (7, .c (.box 0 0)), (8, .c (.box 1 0)), (39, .i (qx.length : Int)), (40, .i vx2), (50, .i (qx.length : Int)), (51, .i vx6)]) 2

theorem z309 (qx : List api_Spot) (vx2 : Int) (vr9 : api_Spot) (vr1_5 : api_Spot) (vx6 : Int) (r : (Int) ⊕ (Unit ⊕ Unit)) (hF : z305 qx vx2 vr9 vr1_5 vx6 = some r) : Awp prog 0 90 (cL (cL (cR (cR (cR (cL (cL (cR (cR (cL (cL (cR (cL (cR (cR (cR (cB f30))))))))))))))))) (Out 0 (kk z308) (SS (z306 qx vx2 vr9 vr1_5) (z307 qx vx2 vr9 vr1_5)) r) (z306 qx vx2 vr9 vr1_5 vx6) := by
  unfold z305 at hF
  refine sR 1 (awp_seq (cE hF (fun h13 hF => ?_) fun h13 hF => ?_))
  · refine tT h13 (awp_skip (awp_seq (awp_to (st' := z311 qx vx2 vr9 vr1_5 vx6) (oT [] []) ?_)))
    refine bE hF fun x h25 hF => ?_
    rcases x with _ | _
    · refine awp_sub (z314 qx vx2 vr9 vr1_5 vx6 h25) ?_
      exact gR 2 (oO hF [] [] rfl)
    · refine awp_sub (z314 qx vx2 vr9 vr1_5 vx6 h25) ?_
      exact oO hF [] [] rfl
  · refine tF h13 (awp_exit ?_)
    exact oO hF [] [] rfl

def z303 : Unit ⊕ Unit → AEx
  | .inl _ => .exit 3
  | .inr _ => .ret

def z302 (qx : List api_Spot) : Unit ⊕ Unit → St
  | .inl _ => Mem.st ⟨[], []⟩ (tl []) 0
  | .inr _ => Mem.st ⟨[], []⟩ (tl [(2, .i 13)]) 0

def z301 (qx : List api_Spot) : Int → St
  | vx2 => Mem.st ⟨[], []⟩ (tl [(0, .c (.l api_Spot.enc qx)), (39, .i (qx.length : Int)), (40, .i vx2)]) 0

theorem z304 (qx : List api_Spot) (vx2 : Int) (r : (Int) ⊕ (Unit ⊕ Unit)) (hF : z300 qx vx2 = some r) : Awp prog 0 90 (cL (cL (cR (cL (cR (cR (cR (cB f30)))))))) (Out 0 (kk z303) (SS (z301 qx) (z302 qx)) r) (z301 qx vx2) := by
  unfold z300 at hF
  refine sR 1 (awp_seq (cE hF (fun h11 hF => ?_) fun h11 hF => ?_))
  · refine tT h11 (awp_skip (awp_seq (awp_block (sR 2 (awp_seq (bE hF fun x h12 hF => ?_))))))
    obtain ⟨vr9, vr1_5⟩ := x
    refine awp_region (aR 2 (aC (z334 h12) [] [] [] (aR 7 (aE ?_))))
    refine awp_seq (awp_region (aR 1 (aL api_Spot.enc qx (aR 1 (aE ?_)))))
    refine awp_block (awp_to (st' := z306 qx vx2 vr9 vr1_5 0) (oT [(0, 9000), (1, 10000)] []) ?_)
    refine bE hF fun x h26 hF => ?_
    rcases x with _ | _
    · refine awp_sub (awp_loop' (z306 qx vx2 vr9 vr1_5) z308 (z307 qx vx2 vr9 vr1_5) (by intro x; rcases x with x | x <;> exact fun h => nomatch h) h26 (z309 qx vx2 vr9 vr1_5)) ?_
      exact gR 2 (oO hF [] [] rfl)
    · refine awp_sub (awp_loop' (z306 qx vx2 vr9 vr1_5) z308 (z307 qx vx2 vr9 vr1_5) (by intro x; rcases x with x | x <;> exact fun h => nomatch h) h26 (z309 qx vx2 vr9 vr1_5)) ?_
      exact oO hF [] [] rfl
  · refine tF h11 (awp_exit ?_)
    exact oO hF [] [] rfl

def z293 (qx : List api_Spot) (r : Int) : TV × Mem := (.i r, ⟨[], []⟩)

theorem z294 {qx : List api_Spot} {r} (hF : z292 qx = some r) : Holds prog 30 [.c (.l api_Spot.enc qx)] ⟨[], []⟩ (Is (z293 qx r)) := by
  unfold z292 at hF
  refine hW f30 90 0 0 ?_
  refine sR 1 (awp_seq (awp_block (awp_seq (awp_region (aR 1 (aL api_Spot.enc qx (aR 2 (aE ?_))))))))
  refine cE hF (fun h1 hF => ?_) fun h1 hF => ?_
  · exact tT h1 (sR 1 (awp_ret (oF hF [] [])))
  · refine tF h1 (awp_seq (awp_region (aR 1 (aL api_Spot.enc qx (aR 2 (aE ?_))))))
    refine cE hF (fun h2 hF => ?_) fun h2 hF => ?_
    · exact tT h2 (sR 1 (awp_ret (oF hF [] [])))
    · refine tF h2 (awp_skip (awp_seq (awp_seq (awp_region (aR 1 (aL api_Spot.enc qx (aR 1 (aE ?_))))))))
      refine awp_block (awp_to (st' := z296 qx 0) (oT [] []) ?_)
      refine bE hF fun x h10 hF => ?_
      rcases x with _ | vx1_1
      · refine awp_sub (awp_loop' (z296 qx) z298 (z297 qx) (by intro x; rcases x with x | x <;> exact fun h => nomatch h) h10 (z299 qx)) ?_
        refine awp_seq (awp_seq (awp_region (aR 1 (aL api_Spot.enc qx (aR 1 (aE ?_))))))
        refine awp_block (awp_to (st' := z301 qx 0) (oT [] []) ?_)
        refine bE hF fun x h27 hF => ?_
        rcases x with _ | _
        · refine awp_sub (awp_loop' (z301 qx) z303 (z302 qx) (by intro x; rcases x with x | x <;> exact fun h => nomatch h) h27 (z304 qx)) ?_
          exact sR 1 (awp_ret (oF hF [] []))
        · refine awp_sub (awp_loop' (z301 qx) z303 (z302 qx) (by intro x; rcases x with x | x <;> exact fun h => nomatch h) h27 (z304 qx)) ?_
          exact oF hF [] []
      · refine awp_sub (awp_loop' (z296 qx) z298 (z297 qx) (by intro x; rcases x with x | x <;> exact fun h => nomatch h) h10 (z299 qx)) ?_
        exact oF hF [] []

/-! ### (*beaconfleet/fleetmake.Stream).RightFence -/
def z261 : (z234 × (List api_Spot)) → AEx
  | _ => .exit 2

def z260 (vx : Int) (vr5 : Int) : (z234 × (List api_Spot)) → St
  | (vs9, vx10) => Mem.st ⟨[(3, ⟨52, 2, List.map api_Spot.enc ([api_Spot.mk 0 0, api_Spot.mk 10 0, api_Spot.mk 10 10, api_Spot.mk 0 10] : List api_Spot)⟩), (4, ⟨52, 2, List.map api_Spot.enc vx10⟩)], [(0, [.l (encI .i64) vs9.L, .i vs9.at_]), (1, [.s ([] : List UInt8), .nil]), (2, [.s ([102] : List UInt8), .own 3 none])]⟩ (tl [(0, .c (.box 0 0)), (2, .c (.box 1 0)), (3, .c (.box 2 0)), (4, .c (.own 4 none)), (12, .i vx)]) 5

def z259 (vx : Int) (vr5 : Int) : z234 × (List api_Spot) × Int → St
  | (vs8, vx8, vx9) => Mem.st ⟨[(3, ⟨52, 2, List.map api_Spot.enc ([api_Spot.mk 0 0, api_Spot.mk 10 0, api_Spot.mk 10 10, api_Spot.mk 0 10] : List api_Spot)⟩), (4, ⟨52, 2, List.map api_Spot.enc vx8⟩)], [(0, [.l (encI .i64) vs8.L, .i vs8.at_]), (1, [.s ([] : List UInt8), .nil]), (2, [.s ([102] : List UInt8), .own 3 none])]⟩ (tl [(0, .c (.box 0 0)), (2, .c (.box 1 0)), (3, .c (.box 2 0)), (4, .c (.own 4 none)), (12, .i vx), (15, .i vr5), (16, .i vx9)]) 5

theorem z262 (vx : Int) (vr5 : Int) (s : z234 × (List api_Spot) × Int) (r : (z234 × (List api_Spot) × Int) ⊕ ((z234 × (List api_Spot)))) (hF : z258 vr5 s = some r) : Awp prog 1 82 (cL (cL (cR (cL (cR (cL (cL (cR (cR (cL (cL (cR (cL (cR (cR (cB f6)))))))))))))))) (Out 1 (kk z261) (SS (z259 vx vr5) (z260 vx vr5)) r) (z259 vx vr5 s) := by
  obtain ⟨vs8, vx8, vx9⟩ := s
  unfold z258 at hF
  refine sR 1 (awp_seq (cE hF (fun h3 hF => ?_) fun h3 hF => ?_))
  · refine tT h3 (awp_skip (awp_seq (awp_block (bE hF fun vr2_3 h4 hF => gE hF fun h5 hF => ?_))))
    refine awp_region (aR 2 (aC (z246 h4) [] [] [] (aR 1 (aX (x_app api_Spot.enc 4 h5) (aR 1 (aE ?_))))))
    exact gR 2 (oO hF [(4, 5005)] [] rfl)
  · refine tF h3 (awp_exit ?_)
    exact oO hF [] [] rfl

def z270 : (z234 × (List api_Spot)) → AEx
  | _ => .exit 4

def z269 (vx : Int) (vx10_1 : List api_Spot) : (z234 × (List api_Spot)) → St
  | (vs11, vx13) => Mem.st ⟨[(3, ⟨52, 2, List.map api_Spot.enc ([api_Spot.mk 0 0, api_Spot.mk 10 0, api_Spot.mk 10 10, api_Spot.mk 0 10] : List api_Spot)⟩), (4, ⟨52, 2, List.map api_Spot.enc vx13⟩)], [(0, [.l (encI .i64) vs11.L, .i vs11.at_]), (1, [.s ([] : List UInt8), .nil]), (2, [.s ([102] : List UInt8), .own 3 none])]⟩ (tl [(0, .c (.box 0 0)), (2, .c (.box 1 0)), (3, .c (.box 2 0)), (4, .c (.own 4 none)), (12, .i vx)]) 5

def z268 (vx : Int) (vx10_1 : List api_Spot) : z234 × (List api_Spot) × Int → St
  | (vs10, vx11, vx12) => Mem.st ⟨[(3, ⟨52, 2, List.map api_Spot.enc ([api_Spot.mk 0 0, api_Spot.mk 10 0, api_Spot.mk 10 10, api_Spot.mk 0 10] : List api_Spot)⟩), (4, ⟨52, 2, List.map api_Spot.enc vx11⟩)], [(0, [.l (encI .i64) vs10.L, .i vs10.at_]), (1, [.s ([] : List UInt8), .nil]), (2, [.s ([102] : List UInt8), .own 3 none])]⟩ (tl [(0, .c (.box 0 0)), (2, .c (.box 1 0)), (3, .c (.box 2 0)), (4, .c (.own 4 none)), (12, .i vx), (27, .i (vx10_1.length : Int)), (28, .i vx12)]) 5

theorem z271 (vx : Int) (vx10_1 : List api_Spot) (s : z234 × (List api_Spot) × Int) (r : (z234 × (List api_Spot) × Int) ⊕ ((z234 × (List api_Spot)))) (hF : z267 vx10_1 s = some r) : Awp prog 1 82 (cL (cL (cR (cL (cR (cL (cR (cR (cL (cL (cR (cR (cL (cL (cR (cL (cR (cR (cB f6))))))))))))))))))) (Out 1 (kk z270) (SS (z268 vx vx10_1) (z269 vx vx10_1)) r) (z268 vx vx10_1 s) := by
  obtain ⟨vs10, vx11, vx12⟩ := s
  unfold z267 at hF
  refine sR 1 (awp_seq (cE hF (fun h9 hF => ?_) fun h9 hF => ?_))
  · refine tT h9 (awp_skip (awp_seq (awp_block (sR 2 (bE hF fun vy3 h10 hF => bE hF fun vr8 h11 hF => aDw [4] ?_)))))
    refine dR 2 ?_
    refine dI api_Spot.enc 4 h10 rfl ?_
    refine dR 1 ?_
    refine dX (x_ldE api_Spot.enc h10) ?_
    refine dR 2 ?_
    refine dC (z243 h11) [(1, 9005)] [] [] ?_
    refine dR 1 ?_
    refine dI api_Spot.enc 4 h10 rfl ?_
    refine dR 1 ?_
    refine dW api_Spot.enc (api_Spot.mk (IntKind.wrap .i64 (vy3.X * vr8)) vy3.Y) h10 rfl ?_
    refine dE ?_
    exact gR 2 (oO hF [] [] rfl)
  · refine tF h9 (awp_exit ?_)
    exact oO hF [] [] rfl

def z265 (vx : Int) (vs9_1 : z234) (vx10_1 : List api_Spot) : (z234 × (List api_Spot)) → St
  | (vs12, vx14) => Mem.st ⟨[(3, ⟨52, 2, List.map api_Spot.enc ([api_Spot.mk 0 0, api_Spot.mk 10 0, api_Spot.mk 10 10, api_Spot.mk 0 10] : List api_Spot)⟩), (4, ⟨52, 2, List.map api_Spot.enc vx14⟩)], [(0, [.l (encI .i64) vs12.L, .i vs12.at_]), (1, [.s ([] : List UInt8), .nil]), (2, [.s ([102] : List UInt8), .own 3 none])]⟩ (tl [(0, .c (.box 0 0)), (2, .c (.box 1 0)), (3, .c (.box 2 0)), (4, .c (.own 4 none)), (12, .i vx)]) 5

def z264 (vx : Int) (vs9_1 : z234) (vx10_1 : List api_Spot) : St := Mem.st ⟨[(3, ⟨52, 2, List.map api_Spot.enc ([api_Spot.mk 0 0, api_Spot.mk 10 0, api_Spot.mk 10 10, api_Spot.mk 0 10] : List api_Spot)⟩), (4, ⟨52, 2, List.map api_Spot.enc vx10_1⟩)], [(0, [.l (encI .i64) vs9_1.L, .i vs9_1.at_]), (1, [.s ([] : List UInt8), .nil]), (2, [.s ([102] : List UInt8), .own 3 none])]⟩ (tl [(0, .c (.box 0 0)), (2, .c (.box 1 0)), (3, .c (.box 2 0)), (4, .c (.own 4 none)), (12, .i vx)]) 5

theorem z266 (vx : Int) (vs9_1 : z234) (vx10_1 : List api_Spot) {r} (hF : z263 vs9_1 vx10_1 = some r) : Awp prog 1 82 (cL (cR (cR (cL (cL (cR (cR (cL (cL (cR (cL (cR (cR (cB f6)))))))))))))) (Out 1 nrm (z265 vx vs9_1 vx10_1) r) (z264 vx vs9_1 vx10_1) := by
  unfold z263 at hF
  refine awp_seq (bE hF fun vr6 h7 hF => awp_region (aR 1 (aC (z237 h7) [] [] [] (aE ?_))))
  refine cE hF (fun h8 hF => ?_) fun h8 hF => ?_
  · refine tT h8 (awp_seq (awp_region (aR 1 (aL api_Spot.enc vx10_1 (aR 1 (aE ?_))))))
    refine awp_block (awp_to (st' := z268 vx vx10_1 (z234.mk vs9_1.L (IntKind.wrap .i64 (vs9_1.at_ + 1)), vx10_1, 0)) (oT [] []) ?_)
    refine bE hF fun x h12 hF => ?_
    obtain ⟨vs11_1, vx13_1⟩ := x
    refine awp_sub (awp_loop' (z268 vx vx10_1) z270 (z269 vx vx10_1) (by intro x; exact fun h => nomatch h) h12 (z271 vx vx10_1)) ?_
    exact oO hF [] [] rfl
  · exact tF h8 (awp_skip (oO hF [] [] rfl))

def z256 : z234 ⊕ (z234 × (List api_Spot)) → AEx
  | .inl _ => .exit 0
  | .inr _ => .ret

def z255 : z234 ⊕ (z234 × (List api_Spot)) → St
  | .inl vs13 => Mem.st ⟨[(3, ⟨52, 2, List.map api_Spot.enc ([api_Spot.mk 0 0, api_Spot.mk 10 0, api_Spot.mk 10 10, api_Spot.mk 0 10] : List api_Spot)⟩)], [(0, [.l (encI .i64) vs13.L, .i vs13.at_]), (1, [.s ([] : List UInt8), .nil]), (2, [.s ([102] : List UInt8), .own 3 none])]⟩ (tl [(0, .c (.box 0 0)), (2, .c (.box 1 0)), (3, .c (.box 2 0))]) 4
  | .inr (vs14, vx15) => Mem.st ⟨[(2, ⟨52, 2, List.map api_Spot.enc vx15⟩)], [(0, [.l (encI .i64) vs14.L, .i vs14.at_]), (1, [.s ([102] : List UInt8), .own 2 none])]⟩ (tl [(2, .c (.box 1 0))]) 3

def z254 : z234 × Int → St
  | (vs, vx) => Mem.st ⟨[(3, ⟨52, 2, List.map api_Spot.enc ([api_Spot.mk 0 0, api_Spot.mk 10 0, api_Spot.mk 10 10, api_Spot.mk 0 10] : List api_Spot)⟩)], [(0, [.l (encI .i64) vs.L, .i vs.at_]), (1, [.s ([] : List UInt8), .nil]), (2, [.s ([102] : List UInt8), .own 3 none])]⟩ (tl [(0, .c (.box 0 0)), (2, .c (.box 1 0)), (3, .c (.box 2 0)), (12, .i vx)]) 4

theorem z257 (s : z234 × Int) (r : (z234 × Int) ⊕ (z234 ⊕ (z234 × (List api_Spot)))) (hF : z253  s = some r) : Awp prog 1 82 (cL (cL (cR (cL (cR (cR (cB f6))))))) (Out 1 (kk z256) (SS (z254 ) (z255 )) r) (z254  s) := by
  obtain ⟨vs, vx⟩ := s
  unfold z253 at hF
  refine sR 1 (awp_seq (cE hF (fun h1 hF => ?_) fun h1 hF => ?_))
  · refine tT h1 (awp_skip (awp_seq (awp_block (sR 1 (awp_seq (awp_seq (bE hF fun x h2 hF => ?_)))))))
    obtain ⟨vs7, vr5⟩ := x
    refine awp_region (aR 1 (aC (z249 h2) [] [] [] (aR 1 (aE ?_))))
    refine awp_block (awp_to (st' := z259 vx vr5 (vs7, [], 0)) (oT [] [4]) ?_)
    refine bE hF fun x h6 hF => ?_
    obtain ⟨vs9_1, vx10_1⟩ := x
    refine awp_sub (awp_loop' (z259 vx vr5) z261 (z260 vx vr5) (by intro x; exact fun h => nomatch h) h6 (z262 vx vr5)) ?_
    refine awp_seq (awp_to (st' := z264 vx vs9_1 vx10_1) (oT [] []) ?_)
    refine bE hF fun x h13 hF => ?_
    obtain ⟨vs12_1, vx14_1⟩ := x
    refine awp_sub (z266 vx vs9_1 vx10_1 h13) ?_
    refine awp_seq (bE hF fun vr16_1 h14 hF => awp_region (aR 1 (aC (z294 h14) [] [] [4] (aR 1 (aE ?_)))))
    refine cE hF (fun h15 hF => ?_) fun h15 hF => ?_
    · exact tT h15 (sR 3 (sR 2 (awp_ret (oO hF [(2, 4)] [] rfl))))
    · exact tF h15 (awp_skip (gR 2 (oO hF [] [] rfl)))
  · refine tF h1 (awp_exit ?_)
    exact oO hF [] [] rfl

def z274 (vs13_1 : z234) : (List api_Spot) → St
  | vx16 => Mem.st ⟨[(3, ⟨52, 2, List.map api_Spot.enc vx16⟩)], [(0, [.l (encI .i64) vs13_1.L, .i (IntKind.wrap .i64 (vs13_1.at_ + 1))]), (1, [.s ([] : List UInt8), .nil]), (2, [.s ([102] : List UInt8), .own 3 none])]⟩ (tl [(2, .c (.box 1 0)), (3, .c (.box 2 0))]) 4

def z273 (vs13_1 : z234) : St := Mem.st ⟨[(3, ⟨52, 2, List.map api_Spot.enc ([api_Spot.mk 0 0, api_Spot.mk 10 0, api_Spot.mk 10 10, api_Spot.mk 0 10] : List api_Spot)⟩)], [(0, [.l (encI .i64) vs13_1.L, .i vs13_1.at_]), (1, [.s ([] : List UInt8), .nil]), (2, [.s ([102] : List UInt8), .own 3 none])]⟩ (tl [(0, .c (.box 0 0)), (2, .c (.box 1 0)), (3, .c (.box 2 0))]) 4

theorem z275 (vs13_1 : z234) {r} (hF : z272 vs13_1 = some r) : Awp prog 1 82 (cL (cR (cR (cR (cB f6))))) (Out 1 nrm (z274 vs13_1) r) (z273 vs13_1) := by
  unfold z272 at hF
  refine awp_seq (bE hF fun vr3_1 h17 hF => awp_region (aR 1 (aC (z240 h17) [] [] [] (aE ?_))))
  refine awp_block (sR 2 (cE hF (fun h18 hF => ?_) fun h18 hF => ?_))
  · exact tT h18 (gR 8 (oO hF [(3, 9004)] [] rfl))
  · refine tF h18 (sR 2 (cE hF (fun h19 hF => ?_) fun h19 hF => ?_))
    · exact tT h19 (gR 7 (oO hF [(3, 10004)] [] rfl))
    · refine tF h19 (sR 2 (cE hF (fun h20 hF => ?_) fun h20 hF => ?_))
      · exact tT h20 (gR 11 (oO hF [(3, 16004)] [] rfl))
      · exact tF h20 (awp_skip (oO hF [] [] rfl))

def z251 (qx : z234) (r : z234 × (List api_Spot)) : TV × Mem := (.v (.agg [.s ([102] : List UInt8), .own 1 none]), ⟨[(1, ⟨52, 2, List.map api_Spot.enc r.2⟩)], [(0, [.l (encI .i64) r.1.L, .i r.1.at_])]⟩)

theorem z252 {qx : z234} {r} (hF : z250 qx = some r) : Holds prog 6 [.c (.box 0 0)] ⟨[], [(0, [.l (encI .i64) qx.L, .i qx.at_])]⟩ (Is (z251 qx r)) := by
  unfold z250 at hF
  refine hW f6 82 1 1 ?_
  refine sR 1 (sR 8 (awp_seq (sR 1 (awp_block (awp_to (st' := z254  (qx, 0)) (oT [(2, 7001), (3, 5001)] []) ?_)))))
  refine bE hF fun x h16 hF => ?_
  rcases x with vs13_1 | ⟨vs14_1, vx15_1⟩
  · refine awp_sub (awp_loop' (z254 ) z256 (z255 ) (by intro x; rcases x with x | x <;> exact fun h => nomatch h) h16 (z257 )) ?_
    refine awp_seq (awp_to (st' := z273 vs13_1) (oT [] []) ?_)
    refine bE hF fun vx16_1 h21 hF => awp_sub (z275 vs13_1 h21) ?_
    exact sR 2 (awp_ret (oF hF [(1, 3)] []))
  · refine awp_sub (awp_loop' (z254 ) z256 (z255 ) (by intro x; rcases x with x | x <;> exact fun h => nomatch h) h16 (z257 )) ?_
    exact oF hF [(1, 2)] []

/-! ### (*beaconfleet/fleetmake.Stream).RightTrack -/
def z286 (vr : Int) (vs1 : z234) (vp : api_Spot) (vout : List api_Fix) (vat : Int) (vx : Int) (vr9 : Int) : (z234 × api_Spot) → St
  | (vs8, vp2) => Mem.st ⟨[(2, ⟨33, 5, List.map api_Fix.enc vout⟩)], [(0, [.l (encI .i64) vs8.L, .i vs8.at_]), (1, [.i vp2.X, .i vp2.Y])]⟩ (tl [(0, .c (.box 0 0)), (5, .c (.own 2 none)), (6, .i (IntKind.wrap .i64 (vat + vr9))), (7, .c (.box 1 0)), (13, .i vr), (14, .i vx)]) 3

def z285 (vr : Int) (vs1 : z234) (vp : api_Spot) (vout : List api_Fix) (vat : Int) (vx : Int) (vr9 : Int) : St := Mem.st ⟨[(2, ⟨33, 5, List.map api_Fix.enc vout⟩)], [(0, [.l (encI .i64) vs1.L, .i (IntKind.wrap .i64 (vs1.at_ + 1))]), (1, [.i vp.X, .i vp.Y])]⟩ (tl [(0, .c (.box 0 0)), (5, .c (.own 2 none)), (6, .i (IntKind.wrap .i64 (vat + vr9))), (7, .c (.box 1 0)), (13, .i vr), (14, .i vx)]) 3

theorem z287 (vr : Int) (vs1 : z234) (vp : api_Spot) (vout : List api_Fix) (vat : Int) (vx : Int) (vr9 : Int) {r} (hF : z284 vs1 vp = some r) : Awp prog 1 57 (cL (cR (cL (cL (cR (cR (cL (cL (cR (cL (cR (cR (cR (cR (cB f7))))))))))))))) (Out 1 nrm (z286 vr vs1 vp vout vat vx vr9) r) (z285 vr vs1 vp vout vat vx vr9) := by
  unfold z284 at hF
  refine awp_seq (bE hF fun vr10 h5 hF => awp_region (aR 1 (aC (z237 h5) [] [] [] (aE ?_))))
  refine cE hF (fun h6 hF => ?_) fun h6 hF => ?_
  · refine tT h6 (bE hF fun vr2_2 h7 hF => awp_region (aR 1 (aC (z246 h7) [] [] [] (aR 1 (aE ?_)))))
    exact oO hF [] [] rfl
  · refine tF h6 (bE hF fun x h8 hF => ?_)
    obtain ⟨vs6, vr11⟩ := x
    refine bE hF fun x h9 hF => ?_
    obtain ⟨vs7, vr12⟩ := x
    refine aD ?_
    refine dR 3 ?_
    refine dC (z249 h8) [] [] [] ?_
    refine dR 4 ?_
    refine dC (z249 h9) [] [] [] ?_
    refine dR 3 ?_
    refine dE ?_
    exact oO hF [] [] rfl

def z290 (vr : Int) (vout : List api_Fix) (vat : Int) (vx : Int) (vr9 : Int) (vs8_1 : z234) (vp2_1 : api_Spot) (vr13 : Int) : (z234 × api_Fix) → St
  | (vs9, vx2) => Mem.st ⟨[(3, ⟨33, 5, List.map api_Fix.enc vout⟩)], [(0, [.l (encI .i64) vs9.L, .i vs9.at_]), (1, [.i vp2_1.X, .i vp2_1.Y]), (2, [.s vx2.Device, .i vx2.At, .i vx2.X, .i vx2.Y, .i vx2.Error])]⟩ (tl [(0, .c (.box 0 0)), (5, .c (.own 3 none)), (6, .i (IntKind.wrap .i64 (vat + vr9))), (7, .c (.box 1 0)), (8, .c (.box 2 0)), (13, .i vr), (14, .i vx)]) 4

def z289 (vr : Int) (vout : List api_Fix) (vat : Int) (vx : Int) (vr9 : Int) (vs8_1 : z234) (vp2_1 : api_Spot) (vr13 : Int) : St := Mem.st ⟨[(3, ⟨33, 5, List.map api_Fix.enc vout⟩)], [(0, [.l (encI .i64) vs8_1.L, .i (IntKind.wrap .i64 (vs8_1.at_ + 1))]), (1, [.i vp2_1.X, .i vp2_1.Y]), (2, [.s ([100] : List UInt8), .i (IntKind.wrap .i64 (vat + vr9)), .i vp2_1.X, .i vp2_1.Y, .i vr13])]⟩ (tl [(0, .c (.box 0 0)), (5, .c (.own 3 none)), (6, .i (IntKind.wrap .i64 (vat + vr9))), (7, .c (.box 1 0)), (8, .c (.box 2 0)), (13, .i vr), (14, .i vx)]) 4

theorem z291 (vr : Int) (vout : List api_Fix) (vat : Int) (vx : Int) (vr9 : Int) (vs8_1 : z234) (vp2_1 : api_Spot) (vr13 : Int) {r} (hF : z288 vat vr9 vs8_1 vp2_1 vr13 = some r) : Awp prog 1 57 (cL (cR (cR (cR (cL (cL (cR (cR (cL (cL (cR (cL (cR (cR (cR (cR (cB f7))))))))))))))))) (Out 1 nrm (z290 vr vout vat vx vr9 vs8_1 vp2_1 vr13) r) (z289 vr vout vat vx vr9 vs8_1 vp2_1 vr13) := by
  unfold z288 at hF
  refine awp_seq (bE hF fun vr14 h12 hF => awp_region (aR 1 (aC (z237 h12) [] [] [] (aE ?_))))
  refine cE hF (fun h13 hF => ?_) fun h13 hF => ?_
  · refine tT h13 (bE hF fun vr15 h14 hF => awp_region (aR 2 (aC (z243 h14) [(1, 3004)] [] [] (aR 2 (aE ?_)))))
    exact oO hF [] [] rfl
  · exact tF h13 (awp_skip (oO hF [] [] rfl))

def z282 : (z234 × (List api_Fix)) → AEx
  | _ => .exit 0

def z281 (vr : Int) : (z234 × (List api_Fix)) → St
  | (vs10, vout1) => Mem.st ⟨[(1, ⟨33, 5, List.map api_Fix.enc vout1⟩)], [(0, [.l (encI .i64) vs10.L, .i vs10.at_])]⟩ (tl [(5, .c (.own 1 none))]) 2

def z280 (vr : Int) : z234 × api_Spot × (List api_Fix) × Int × Int → St
  | (vs1, vp, vout, vat, vx) => Mem.st ⟨[(2, ⟨33, 5, List.map api_Fix.enc vout⟩)], [(0, [.l (encI .i64) vs1.L, .i vs1.at_]), (1, [.i vp.X, .i vp.Y])]⟩ (tl [(0, .c (.box 0 0)), (5, .c (.own 2 none)), (6, .i vat), (7, .c (.box 1 0)), (13, .i vr), (14, .i vx)]) 3

theorem z283 (vr : Int) (s : z234 × api_Spot × (List api_Fix) × Int × Int) (r : (z234 × api_Spot × (List api_Fix) × Int × Int) ⊕ ((z234 × (List api_Fix)))) (hF : z279 vr s = some r) : Awp prog 1 57 (cL (cL (cR (cL (cR (cR (cR (cR (cB f7))))))))) (Out 1 (kk z282) (SS (z280 vr) (z281 vr)) r) (z280 vr s) := by
  obtain ⟨vs1, vp, vout, vat, vx⟩ := s
  unfold z279 at hF
  refine sR 1 (awp_seq (cE hF (fun h3 hF => ?_) fun h3 hF => ?_))
  · refine tT h3 (awp_skip (awp_seq (awp_block (awp_seq (bE hF fun vr9 h4 hF => awp_region (aR 3 (aC (z243 h4) [(1, 3003)] [] [] (aR 2 (aE ?_)))))))))
    refine awp_seq (awp_to (st' := z285 vr vs1 vp vout vat vx vr9) (oT [] []) ?_)
    refine bE hF fun x h10 hF => ?_
    obtain ⟨vs8_1, vp2_1⟩ := x
    refine awp_sub (z287 vr vs1 vp vout vat vx vr9 h10) ?_
    refine awp_seq (bE hF fun vr13 h11 hF => aD ?_)
    refine dR 7 ?_
    refine dC (z243 h11) [(1, 6003)] [] [] ?_
    refine dR 3 ?_
    refine dE ?_
    refine awp_seq (awp_to (st' := z289 vr vout vat vx vr9 vs8_1 vp2_1 vr13) (oT [(2, 9003), (3, 2)] []) ?_)
    refine bE hF fun x h15 hF => ?_
    obtain ⟨vs9_1, vx2_1⟩ := x
    refine awp_sub (z291 vr vout vat vx vr9 vs8_1 vp2_1 vr13 h15) ?_
    refine gE hF fun h16 hF => ?_
    refine awp_region (aR 3 (aX (x_app api_Fix.enc 3 h16) (aR 1 (aE ?_))))
    exact gR 2 (oO hF [(2, 3004)] [] rfl)
  · refine tF h3 (awp_exit ?_)
    exact oO hF [(1, 2)] [] rfl

def z277 (qs : z234) (qmost : Int) (r : z234 × (List api_Fix)) : TV × Mem := (.c (.own 1 none), ⟨[(1, ⟨33, 5, List.map api_Fix.enc r.2⟩)], [(0, [.l (encI .i64) r.1.L, .i r.1.at_])]⟩)

theorem z278 {qs : z234} {qmost : Int} {r} (hF : z276 qs qmost = some r) : Holds prog 7 [.c (.box 0 0), .i qmost] ⟨[], [(0, [.l (encI .i64) qs.L, .i qs.at_])]⟩ (Is (z277 qs qmost r)) := by
  unfold z276 at hF
  refine hW f7 57 1 1 ?_
  refine sR 1 (sR 1 (sR 1 (awp_seq (bE hF fun vr2 h1 hF => awp_region (aR 1 (aC (z246 h1) [] [] [] (aR 2 (aE ?_))))))))
  refine awp_seq (awp_seq (bE hF fun x h2 hF => ?_))
  obtain ⟨vs, vr⟩ := x
  refine awp_region (aR 2 (aC (z249 h2) [] [] [] (aR 1 (aE ?_))))
  refine awp_block (awp_to (st' := z280 vr (vs, vr2, [], 0, 0)) (oT [(1, 5001)] [2]) ?_)
  refine bE hF fun x h17 hF => ?_
  obtain ⟨vs10_1, vout1_1⟩ := x
  refine awp_sub (awp_loop' (z280 vr) z282 (z281 vr) (by intro x; exact fun h => nomatch h) h17 (z283 vr)) ?_
  exact sR 2 (awp_ret (oF hF [] []))

/-! ### beaconfleet/base.Out -/
def z91 (qn : Int) (qlow : Int) (qhigh : Int) : Bool → St
  | vx => Mem.st ⟨[], []⟩ (tl [(6, .b vx)]) 0

def z90 (qn : Int) (qlow : Int) (qhigh : Int) : St := Mem.st ⟨[], []⟩ (tl [(0, .i qn), (1, .i qlow), (2, .i qhigh)]) 0

theorem z92 (qn : Int) (qlow : Int) (qhigh : Int) {r} (hF : z89 qn qlow qhigh = some r) : Awp prog 0 15 (cL (cR (cB f33))) (Out 0 nrm (z91 qn qlow qhigh) r) (z90 qn qlow qhigh) := by
  unfold z89 at hF
  refine cE hF (fun h1 hF => ?_) fun h1 hF => ?_
  · refine awp_region (aR 2 (aB h1 (aR 6 (aE ?_))))
    exact oO hF [] [] rfl
  · refine awp_region (aR 2 (aB h1 (aR 6 (aE ?_))))
    exact oO hF [] [] rfl

def z87 (qn : Int) (qlow : Int) (qhigh : Int) (r : Bool) : TV × Mem := (.b r, ⟨[], []⟩)

theorem z88 {qn : Int} {qlow : Int} {qhigh : Int} {r} (hF : base_Out qn qlow qhigh = some r) : Holds prog 33 [.i qn, .i qlow, .i qhigh] ⟨[], []⟩ (Is (z87 qn qlow qhigh r)) := by
  unfold base_Out at hF
  refine hW f33 15 0 0 ?_
  refine sR 1 (awp_seq (awp_to (st' := z90 qn qlow qhigh) (oT [] []) ?_))
  refine bE hF fun vx1 h2 hF => awp_sub (z92 qn qlow qhigh h2) ?_
  exact awp_ret (oF hF [] [])

/-! ### beaconfleet/place.isSpot -/
def z579 (qs : api_Spot) : Bool → St
  | vx => Mem.st ⟨[], []⟩ (tl [(2, .b vx)]) 0

def z578 (qs : api_Spot) : St := Mem.st ⟨[], [(0, [.i qs.X, .i qs.Y])]⟩ (tl [(1, .c (.box 0 0))]) 1

theorem z580 (qs : api_Spot) {r} (hF : z577 qs = some r) : Awp prog 0 13 (cL (cR (cB f53))) (Out 0 nrm (z579 qs) r) (z578 qs) := by
  unfold z577 at hF
  refine bE hF fun vr h1 hF => cE hF (fun h2 hF => ?_) fun h2 hF => ?_
  · refine bE hF fun vr1 h3 hF => awp_region (aR 2 (aC (z88 h1) [] [] [] (aB h2 (aR 3 (aC (z88 h3) [] [] [] (aR 3 (aE ?_)))))))
    exact oO hF [] [] rfl
  · refine awp_region (aR 2 (aC (z88 h1) [] [] [] (aB h2 (aR 7 (aE ?_)))))
    exact oO hF [] [] rfl

def z575 (qs : api_Spot) (r : Bool) : TV × Mem := (.b r, ⟨[], []⟩)

theorem z576 {qs : api_Spot} {r} (hF : z574 qs = some r) : Holds prog 53 [.v (.agg [.i qs.X, .i qs.Y])] ⟨[], []⟩ (Is (z575 qs r)) := by
  unfold z574 at hF
  refine hW f53 13 0 0 ?_
  refine sR 2 (awp_seq (awp_to (st' := z578 qs) (oT [] []) ?_))
  refine bE hF fun vx1 h4 hF => awp_sub (z580 qs h4) ?_
  exact awp_ret (oF hF [] [])

/-! ### beaconfleet/place.Hull$1 -/
def z415 (qs : api_Spot) (r : Bool) : TV × Mem := (.b r, ⟨[], []⟩)

theorem z416 {qs : api_Spot} {r} (hF : z414 qs = some r) : Holds prog 52 [.v (.agg [.i qs.X, .i qs.Y])] ⟨[], []⟩ (Is (z415 qs r)) := by
  unfold z414 at hF
  refine hW f52 6 0 0 ?_
  refine sR 2 (awp_seq (bE hF fun vr2 h1 hF => awp_region (aR 1 (aC (z576 h1) [] [] [] (aR 2 (aE ?_))))))
  exact awp_ret (oF hF [] [])

/-! ### slices.IndexFunc[[]beaconfleet/api.Spot,beaconfleet/api.Spot] -/
def z903 : Unit ⊕ Int → AEx
  | .inl _ => .exit 0
  | .inr _ => .ret

def z902 (qs : List api_Spot) : Unit ⊕ Int → St
  | .inl _ => Mem.st ⟨[], []⟩ (tl []) 0
  | .inr vx1 => Mem.st ⟨[], []⟩ (tl [(4, .i vx1)]) 0

def z901 (qs : List api_Spot) : Int → St
  | vx => Mem.st ⟨[], []⟩ (tl [(0, .c (.l api_Spot.enc qs)), (1, .c (.fn 52 [])), (7, .i (qs.length : Int)), (8, .i vx)]) 0

theorem z904 (qs : List api_Spot) (vx : Int) (r : (Int) ⊕ (Unit ⊕ Int)) (hF : z900 qs vx = some r) : Awp prog 0 19 (cL (cL (cR (cL (cR (cB f97)))))) (Out 0 (kk z903) (SS (z901 qs) (z902 qs)) r) (z901 qs vx) := by
  unfold z900 at hF
  refine sR 1 (awp_seq (cE hF (fun h1 hF => ?_) fun h1 hF => ?_))
  · refine tT h1 (awp_skip (awp_seq (awp_block (sR 2 (awp_seq (bE hF fun vy1 h2 hF => bE hF fun vr1 h3 hF => awp_region (aR 3 (aX (x_idx api_Spot.enc h2) (aR 1 (aC (z416 h3) [] [] [] (aE ?_)))))))))))
    refine cE hF (fun h4 hF => ?_) fun h4 hF => ?_
    · exact tT h4 (sR 2 (awp_ret (oO hF [] [] rfl)))
    · exact tF h4 (awp_skip (gR 2 (oO hF [] [] rfl)))
  · refine tF h1 (awp_exit ?_)
    exact oO hF [] [] rfl

def z898 (qs : List api_Spot) (r : Int) : TV × Mem := (.i r, ⟨[], []⟩)

theorem z899 {qs : List api_Spot} {r} (hF : z897 qs = some r) : Holds prog 97 [.c (.l api_Spot.enc qs), .c (.fn 52 [])] ⟨[], []⟩ (Is (z898 qs r)) := by
  unfold z897 at hF
  refine hW f97 19 0 0 ?_
  refine sR 1 (awp_seq (awp_seq (awp_region (aR 1 (aL api_Spot.enc qs (aR 1 (aE ?_)))))))
  refine awp_block (awp_to (st' := z901 qs 0) (oT [] []) ?_)
  refine bE hF fun x h5 hF => ?_
  rcases x with _ | vx1_1
  · refine awp_sub (awp_loop' (z901 qs) z903 (z902 qs) (by intro x; rcases x with x | x <;> exact fun h => nomatch h) h5 (z904 qs)) ?_
    exact sR 1 (awp_ret (oF hF [] []))
  · refine awp_sub (awp_loop' (z901 qs) z903 (z902 qs) (by intro x; rcases x with x | x <;> exact fun h => nomatch h) h5 (z904 qs)) ?_
    exact oF hF [] []

/-! ### slices.ContainsFunc[[]beaconfleet/api.Spot,beaconfleet/api.Spot] -/
def z830 (qs : List api_Spot) (r : Bool) : TV × Mem := (.b r, ⟨[], []⟩)

theorem z831 {qs : List api_Spot} {r} (hF : z829 qs = some r) : Holds prog 51 [.c (.l api_Spot.enc qs), .c (.fn 52 [])] ⟨[], []⟩ (Is (z830 qs r)) := by
  unfold z829 at hF
  refine hW f51 9 0 0 ?_
  refine sR 1 (awp_seq (bE hF fun vr2 h1 hF => awp_region (aR 2 (aC (z899 h1) [] [] [] (aR 2 (aE ?_))))))
  exact awp_ret (oF hF [] [])

/-! ### slices.Clone[[]beaconfleet/api.Spot,beaconfleet/api.Spot] -/
def z741 (qs : List api_Spot) (r : List api_Spot) : TV × Mem := (.c (.own 0 none), ⟨[(0, ⟨52, 2, List.map api_Spot.enc r⟩)], []⟩)

theorem z742 {qs : List api_Spot} {r} (hF : z740 qs = some r) : Holds prog 54 [.c (.l api_Spot.enc qs)] ⟨[], []⟩ (Is (z741 qs r)) := by
  unfold z740 at hF
  refine gE hF fun h1 hF => ?_
  refine hW f54 8 0 0 ?_
  refine sR 1 (awp_seq (awp_seq (awp_region (aR 1 (aN api_Spot.enc qs (fun b hb => ?_) rfl)))))
  refine aE ?_
  cases b with
  | true =>
    obtain rfl := hb rfl
    exact tT rfl (sR 1 (awp_ret (oF hF [] [0])))
  | false =>
    refine tF rfl (awp_skip (awp_seq (awp_region (aR 2 (aX (x_app api_Spot.enc 3000 h1) (aR 1 (aE ?_)))))))
    exact awp_ret (oF hF [(0, 5000)] [])

/-! ### math/bits.Len64 -/
def z117 (qx : Int) : (Int × Int) → St
  | (vx, vn) => Mem.st ⟨[], []⟩ (tl [(0, .c (.d (.int .u64 vx))), (2, .i vn)]) 0

def z116 (qx : Int) : St := Mem.st ⟨[], []⟩ (tl [(0, .c (.d (.int .u64 qx))), (2, .i 0)]) 0

theorem z118 (qx : Int) {r} (hF : z115 qx = some r) : Awp prog 0 25 (cL (cR (cB f149))) (Out 0 nrm (z117 qx) r) (z116 qx) := by
  unfold z115 at hF
  refine sR 2 (cE hF (fun h1 hF => ?_) fun h1 hF => ?_)
  · exact tT h1 (sR 3 (gR 1 (oO hF [] [] rfl)))
  · exact tF h1 (awp_skip (oO hF [] [] rfl))

def z121 (vx1 : Int) (vn1 : Int) : (Int × Int) → St
  | (vx2, vn2) => Mem.st ⟨[], []⟩ (tl [(0, .c (.d (.int .u64 vx2))), (2, .i vn2)]) 0

def z120 (vx1 : Int) (vn1 : Int) : St := Mem.st ⟨[], []⟩ (tl [(0, .c (.d (.int .u64 vx1))), (2, .i vn1)]) 0

theorem z122 (vx1 : Int) (vn1 : Int) {r} (hF : z119 vx1 vn1 = some r) : Awp prog 0 25 (cL (cR (cR (cB f149)))) (Out 0 nrm (z121 vx1 vn1) r) (z120 vx1 vn1) := by
  unfold z119 at hF
  refine sR 2 (cE hF (fun h3 hF => ?_) fun h3 hF => ?_)
  · exact tT h3 (sR 3 (gR 3 (oO hF [] [] rfl)))
  · exact tF h3 (awp_skip (oO hF [] [] rfl))

def z125 (vx2_1 : Int) (vn2_1 : Int) : (Int × Int) → St
  | (vx3, vn3) => Mem.st ⟨[], []⟩ (tl [(0, .c (.d (.int .u64 vx3))), (2, .i vn3)]) 0

def z124 (vx2_1 : Int) (vn2_1 : Int) : St := Mem.st ⟨[], []⟩ (tl [(0, .c (.d (.int .u64 vx2_1))), (2, .i vn2_1)]) 0

theorem z126 (vx2_1 : Int) (vn2_1 : Int) {r} (hF : z123 vx2_1 vn2_1 = some r) : Awp prog 0 25 (cL (cR (cR (cR (cB f149))))) (Out 0 nrm (z125 vx2_1 vn2_1) r) (z124 vx2_1 vn2_1) := by
  unfold z123 at hF
  refine sR 2 (cE hF (fun h5 hF => ?_) fun h5 hF => ?_)
  · exact tT h5 (sR 3 (gR 3 (oO hF [] [] rfl)))
  · exact tF h5 (awp_skip (oO hF [] [] rfl))

def z113 (qx : Int) (r : Int) : TV × Mem := (.i r, ⟨[], []⟩)

theorem z114 {qx : Int} {r} (hF : z112 qx = some r) : Holds prog 149 [.c (.d (.int .u64 qx))] ⟨[], []⟩ (Is (z113 qx r)) := by
  unfold z112 at hF
  refine hW f149 25 0 0 ?_
  refine sR 1 (awp_seq (awp_to (st' := z116 qx) (oT [] []) ?_))
  refine bE hF fun x h2 hF => ?_
  obtain ⟨vx1, vn1⟩ := x
  refine awp_sub (z118 qx h2) ?_
  refine awp_seq (awp_to (st' := z120 vx1 vn1) (oT [] []) ?_)
  refine bE hF fun x h4 hF => ?_
  obtain ⟨vx2_1, vn2_1⟩ := x
  refine awp_sub (z122 vx1 vn1 h4) ?_
  refine awp_seq (awp_to (st' := z124 vx2_1 vn2_1) (oT [] []) ?_)
  refine bE hF fun x h6 hF => ?_
  obtain ⟨vx3_1, vn3_1⟩ := x
  refine awp_sub (z126 vx2_1 vn2_1 h6) ?_
  refine awp_seq (bE hF fun vc h7 hF => awp_region (aR 3 (aX (x_idxS h7) (aR 3 (aE ?_)))))
  exact awp_ret (oF hF [] [])

/-! ### math/bits.Len -/
def z127 (qx : Int) (r : Int) : TV × Mem := (.i r, ⟨[], []⟩)

theorem z128 {qx : Int} {r} (hF : bits_Len qx = some r) : Holds prog 99 [.c (.d (.int .u64 qx))] ⟨[], []⟩ (Is (z127 qx r)) := by
  unfold bits_Len at hF
  refine hW f99 8 0 0 ?_
  refine sR 1 (awp_seq (tF rfl (awp_skip (awp_seq (bE hF fun vr h1 hF => awp_region (aR 1 (aC (z114 h1) [] [] [] (aR 1 (aE ?_)))))))))
  exact awp_ret (oF hF [] [])

/-! ### cmp.isNaN[int] -/
def z161 (qx : Int) (r : Unit) : TV × Mem := (.b (!decide (qx = qx)), ⟨[], []⟩)

theorem z162 {qx : Int} {r} (hF : z160 qx = some r) : Holds prog 87 [.i qx] ⟨[], []⟩ (Is (z161 qx r)) := by
  unfold z160 at hF
  refine hW f87 6 0 0 ?_
  exact sR 1 (sR 4 (awp_ret (oF hF [] [])))

/-! ### cmp.Compare[int] -/
def z143 (qx : Int) (qy : Int) (r : Int) : TV × Mem := (.i r, ⟨[], []⟩)

theorem z144 {qx : Int} {qy : Int} {r} (hF : z142 qx qy = some r) : Holds prog 101 [.i qx, .i qy] ⟨[], []⟩ (Is (z143 qx qy r)) := by
  unfold z142 at hF
  refine hW f101 20 0 0 ?_
  refine sR 1 (awp_seq (bE hF fun _ h1 hF => awp_region (aR 1 (aC (z162 h1) [] [] [] (aR 1 (aE ?_))))))
  refine awp_seq (bE hF fun _ h2 hF => awp_region (aR 1 (aC (z162 h2) [] [] [] (aR 1 (aE ?_)))))
  refine awp_seq (sR 1 (cE hF (fun h3 hF => ?_) fun h3 hF => ?_))
  · refine tT h3 (awp_seq (sR 1 (cE hF (fun h4 hF => ?_) fun h4 hF => ?_)))
    · exact tT h4 (sR 1 (awp_ret (oF hF [] [])))
    · exact tF h4 (awp_skip (sR 1 (awp_ret (oF hF [] []))))
  · refine tF h3 (awp_skip (awp_seq (sR 1 (cE hF (fun h5 hF => ?_) fun h5 hF => ?_))))
    · exact tT h5 (sR 1 (awp_ret (oF hF [] [])))
    · refine tF h5 (awp_skip (awp_seq (sR 3 (cE hF (fun h6 hF => ?_) fun h6 hF => ?_))))
      · exact tT h6 (sR 1 (awp_ret (oF hF [] [])))
      · refine tF h6 (awp_skip (awp_seq (sR 3 (cE hF (fun h7 hF => ?_) fun h7 hF => ?_))))
        · exact tT h7 (sR 1 (awp_ret (oF hF [] [])))
        · exact tF h7 (awp_skip (sR 1 (awp_ret (oF hF [] []))))

/-! ### cmp.Or[int] -/
def z158 : Unit ⊕ Int → AEx
  | .inl _ => .exit 0
  | .inr _ => .ret

def z157 (qvals : List Int) : Unit ⊕ Int → St
  | .inl _ => Mem.st ⟨[], []⟩ (tl [(3, .i 0)]) 0
  | .inr vx1 => Mem.st ⟨[], []⟩ (tl [(2, .i vx1)]) 0

def z156 (qvals : List Int) : Int → St
  | vx => Mem.st ⟨[], []⟩ (tl [(3, .i 0), (6, .c (.l (encI .i64) qvals)), (7, .i (qvals.length : Int)), (8, .i vx)]) 0

theorem z159 (qvals : List Int) (vx : Int) (r : (Int) ⊕ (Unit ⊕ Int)) (hF : z155 qvals vx = some r) : Awp prog 0 18 (cL (cL (cR (cL (cR (cR (cB f100))))))) (Out 0 (kk z158) (SS (z156 qvals) (z157 qvals)) r) (z156 qvals vx) := by
  unfold z155 at hF
  refine sR 1 (awp_seq (cE hF (fun h1 hF => ?_) fun h1 hF => ?_))
  · refine tT h1 (awp_skip (awp_seq (awp_block (awp_seq (bE hF fun vy1 h2 hF => awp_region (aX (x_idx (encI .i64) h2) (aR 2 (aE ?_))))))))
    refine sR 3 (cE hF (fun h3 hF => ?_) fun h3 hF => ?_)
    · exact tT h3 (sR 2 (awp_ret (oO hF [] [] rfl)))
    · exact tF h3 (awp_skip (gR 2 (oO hF [] [] rfl)))
  · refine tF h1 (awp_exit ?_)
    exact oO hF [] [] rfl

def z153 (qvals : List Int) (r : Int) : TV × Mem := (.i r, ⟨[], []⟩)

theorem z154 {qvals : List Int} {r} (hF : z152 qvals = some r) : Holds prog 100 [.c (.l (encI .i64) qvals)] ⟨[], []⟩ (Is (z153 qvals r)) := by
  unfold z152 at hF
  refine hW f100 18 0 0 ?_
  refine sR 1 (sR 1 (awp_seq (awp_seq (awp_region (aR 1 (aL (encI .i64) qvals (aR 1 (aE ?_))))))))
  refine awp_block (awp_to (st' := z156 qvals 0) (oT [] []) ?_)
  refine bE hF fun x h4 hF => ?_
  rcases x with _ | vx1_1
  · refine awp_sub (awp_loop' (z156 qvals) z158 (z157 qvals) (by intro x; rcases x with x | x <;> exact fun h => nomatch h) h4 (z159 qvals)) ?_
    exact sR 2 (awp_ret (oF hF [] []))
  · refine awp_sub (awp_loop' (z156 qvals) z158 (z157 qvals) (by intro x; rcases x with x | x <;> exact fun h => nomatch h) h4 (z159 qvals)) ?_
    exact oF hF [] []

/-! ### beaconfleet/place.bySpot -/
def z496 (qa : api_Spot) (qb : api_Spot) (r : Int) : TV × Mem := (.i r, ⟨[], []⟩)

theorem z497 {qa : api_Spot} {qb : api_Spot} {r} (hF : z495 qa qb = some r) : Holds prog 56 [.v (.agg [.i qa.X, .i qa.Y]), .v (.agg [.i qb.X, .i qb.Y])] ⟨[], []⟩ (Is (z496 qa qb r)) := by
  unfold z495 at hF
  refine hW f56 17 0 0 ?_
  refine sR 3 (awp_seq (bE hF fun vr h1 hF => bE hF fun vr1 h2 hF => bE hF fun vr2 h3 hF => aD ?_))
  refine dR 4 ?_
  refine dC (z144 h1) [] [] [] ?_
  refine dR 4 ?_
  refine dC (z144 h2) [] [] [] ?_
  refine dR 1 ?_
  refine dC (z154 h3) [] [] [13000] ?_
  refine dR 1 ?_
  refine dE ?_
  exact awp_ret (oF hF [] [])

/-! ### slices.insertionSortCmpFunc[beaconfleet/api.Spot] -/
def z982 (qa : Int) (qb : Int) (vi : Int) (vl3 : List api_Spot) (vj1 : Int) : Bool → St
  | vx4 => Mem.st ⟨[(0, ⟨52, 2, List.map api_Spot.enc vl3⟩)], []⟩ (tl [(0, .c (.own 0 none)), (1, .i qa), (2, .i qb), (3, .c (.fn 56 [])), (8, .i vi), (9, .i vj1), (34, .b vx4)]) 1

def z981 (qa : Int) (qb : Int) (vi : Int) (vl3 : List api_Spot) (vj1 : Int) : St := Mem.st ⟨[(0, ⟨52, 2, List.map api_Spot.enc vl3⟩)], []⟩ (tl [(0, .c (.own 0 none)), (1, .i qa), (2, .i qb), (3, .c (.fn 56 [])), (8, .i vi), (9, .i vj1)]) 1

theorem z983 (qa : Int) (qb : Int) (vi : Int) (vl3 : List api_Spot) (vj1 : Int) {r} (hF : z980 qa vl3 vj1 = some r) : Awp prog 1 53 (cL (cL (cL (cL (cR (cL (cL (cR (cL (cL (cR (cB f140)))))))))))) (Out 1 nrm (z982 qa qb vi vl3 vj1) r) (z981 qa qb vi vl3 vj1) := by
  unfold z980 at hF
  refine cE hF (fun h2 hF => ?_) fun h2 hF => ?_
  · refine bE hF fun vy15 h3 hF => bE hF fun vy16 h4 hF => bE hF fun vr3_3 h5 hF => aD ?_
    refine dR 2 ?_
    refine dB h2 ?_
    refine dR 4 ?_
    refine dX (x_idxO api_Spot.enc 0 h3) ?_
    refine dX (x_ldE api_Spot.enc h3) ?_
    refine dR 3 ?_
    refine dX (x_idxO api_Spot.enc 0 h4) ?_
    refine dX (x_ldE api_Spot.enc h4) ?_
    refine dC (z497 h5) [] [] [] ?_
    refine dR 2 ?_
    refine dE ?_
    exact oO hF [] [] rfl
  · refine aD ?_
    refine dR 2 ?_
    refine dB h2 ?_
    refine dR 14 ?_
    refine dE ?_
    exact oO hF [] [] rfl

def z978 : (List api_Spot) → AEx
  | _ => .exit 2

def z977 (qa : Int) (qb : Int) (vi : Int) : (List api_Spot) → St
  | vl4 => Mem.st ⟨[(0, ⟨52, 2, List.map api_Spot.enc vl4⟩)], []⟩ (tl [(0, .c (.own 0 none)), (1, .i qa), (2, .i qb), (3, .c (.fn 56 [])), (8, .i vi)]) 1

def z976 (qa : Int) (qb : Int) (vi : Int) : (List api_Spot) × Int → St
  | (vl3, vj1) => Mem.st ⟨[(0, ⟨52, 2, List.map api_Spot.enc vl3⟩)], []⟩ (tl [(0, .c (.own 0 none)), (1, .i qa), (2, .i qb), (3, .c (.fn 56 [])), (8, .i vi), (9, .i vj1)]) 1

theorem z979 (qa : Int) (qb : Int) (vi : Int) (s : (List api_Spot) × Int) (r : ((List api_Spot) × Int) ⊕ ((List api_Spot))) (hF : z975 qa s = some r) : Awp prog 1 53 (cL (cL (cR (cL (cL (cR (cL (cL (cR (cB f140)))))))))) (Out 1 (kk z978) (SS (z976 qa qb vi) (z977 qa qb vi)) r) (z976 qa qb vi s) := by
  obtain ⟨vl3, vj1⟩ := s
  unfold z975 at hF
  refine awp_seq (awp_seq (awp_to (st' := z981 qa qb vi vl3 vj1) (oT [] []) ?_))
  refine bE hF fun vx4_1 h6 hF => awp_sub (z983 qa qb vi vl3 vj1 h6) ?_
  refine cE hF (fun h7 hF => ?_) fun h7 hF => ?_
  · refine tT h7 (awp_skip (awp_seq (awp_block (bE hF fun vy17 h8 hF => bE hF fun vy18 h9 hF => bE hF fun vy19 h10 hF => aDw [0] ?_))))
    refine dR 8 ?_
    refine dI api_Spot.enc 0 h8 rfl ?_
    refine dX (x_ldE api_Spot.enc h8) ?_
    refine dR 2 ?_
    refine dI api_Spot.enc 0 h9 rfl ?_
    refine dX (x_ldE api_Spot.enc h9) ?_
    refine dI api_Spot.enc 0 h9 rfl ?_
    refine dW api_Spot.enc vy17 h9 rfl ?_
    refine dI api_Spot.enc 0 h10 rfl ?_
    refine dW api_Spot.enc vy18 h10 rfl ?_
    refine dE ?_
    exact gR 3 (oO hF [] [] rfl)
  · refine tF h7 (awp_exit ?_)
    exact oO hF [] [] rfl

def z973 : (List api_Spot) → AEx
  | _ => .exit 0

def z972 (qa : Int) (qb : Int) : (List api_Spot) → St
  | vl5 => Mem.st ⟨[(0, ⟨52, 2, List.map api_Spot.enc vl5⟩)], []⟩ (tl []) 1

def z971 (qa : Int) (qb : Int) : (List api_Spot) × Int → St
  | (vl, vi) => Mem.st ⟨[(0, ⟨52, 2, List.map api_Spot.enc vl⟩)], []⟩ (tl [(0, .c (.own 0 none)), (1, .i qa), (2, .i qb), (3, .c (.fn 56 [])), (8, .i vi)]) 1

theorem z974 (qa : Int) (qb : Int) (s : (List api_Spot) × Int) (r : ((List api_Spot) × Int) ⊕ ((List api_Spot))) (hF : z970 qa qb s = some r) : Awp prog 1 53 (cL (cL (cR (cB f140)))) (Out 1 (kk z973) (SS (z971 qa qb) (z972 qa qb)) r) (z971 qa qb s) := by
  obtain ⟨vl, vi⟩ := s
  unfold z970 at hF
  refine awp_seq (sR 3 (cE hF (fun h1 hF => ?_) fun h1 hF => ?_))
  · refine tT h1 (awp_skip (awp_seq (awp_block (sR 2 (awp_block (awp_to (st' := z976 qa qb vi (vl, vi)) (oT [] []) ?_))))))
    refine bE hF fun vl4_1 h11 hF => awp_sub (awp_loop' (z976 qa qb vi) z978 (z977 qa qb vi) (by intro x; exact fun h => nomatch h) h11 (z979 qa qb vi)) ?_
    exact gR 3 (oO hF [] [] rfl)
  · refine tF h1 (awp_exit ?_)
    exact oO hF [] [] rfl

def z968 (qdata : List api_Spot) (qa : Int) (qb : Int) (r : (List api_Spot)) : TV × Mem := (.tup [], ⟨[(0, ⟨52, 2, List.map api_Spot.enc r⟩)], []⟩)

theorem z969 {qdata : List api_Spot} {qa : Int} {qb : Int} {r} (hF : z967 qdata qa qb = some r) : Holds prog 140 [.c (.own 0 none), .i qa, .i qb, .c (.fn 56 [])] ⟨[(0, ⟨52, 2, List.map api_Spot.enc qdata⟩)], []⟩ (Is (z968 qdata qa qb r)) := by
  unfold z967 at hF
  refine hW f140 53 1 1 ?_
  refine sR 3 (awp_block (awp_to (st' := z971 qa qb (qdata, IntKind.wrap .i64 (qa + 1))) (oT [] []) ?_))
  refine bE hF fun vl5_1 h12 hF => awp_sub (awp_loop' (z971 qa qb) z973 (z972 qa qb) (by intro x; exact fun h => nomatch h) h12 (z974 qa qb)) ?_
  exact oF hF [] []

/-! ### slices.pdqsortCmpFunc[beaconfleet/api.Spot] -/
def z1015 : (List api_Spot) → AEx
  | _ => .ret

def z1014 (qx : List api_Spot) (qx1 : Int) (qx2 : Int) (qx3 : Int) : (List api_Spot) → St
  | vl => Mem.st ⟨[(0, ⟨52, 2, List.map api_Spot.enc vl⟩)], []⟩ (tl []) 1

def z1013 (qx : List api_Spot) (qx1 : Int) (qx2 : Int) (qx3 : Int) : Unit → St
  | _ => Mem.st ⟨[(0, ⟨52, 2, List.map api_Spot.enc qx⟩)], []⟩ (tl [(0, .c (.own 0 none)), (1, .i qx1), (2, .i qx2), (3, .i qx3), (4, .c (.fn 56 [])), (10, .b true), (11, .b true)]) 1

theorem z1016 (qx : List api_Spot) (qx1 : Int) (qx2 : Int) (qx3 : Int) (s : Unit) (r : (Unit) ⊕ ((List api_Spot))) (hF : z1012 qx qx1 qx2 qx3 s = some r) : Awp prog 1 148 (cL (cL (cR (cR (cB f98))))) (Out 1 (kk z1015) (SS (z1013 qx qx1 qx2 qx3) (z1014 qx qx1 qx2 qx3)) r) (z1013 qx qx1 qx2 qx3 s) := by
  unfold z1012 at hF
  refine awp_block (sR 4 (awp_seq (sR 2 (cE hF (fun h1 hF => ?_) fun h1 hF => ?_))))
  · refine tT h1 (awp_seq (bE hF fun vl6_1 h2 hF => gE hF fun h3 hF => ?_))
    refine awp_region (aR 4 (aCp (z969 h2) ⟨⟨rfl, rfl, pin1 h3⟩, trivial⟩ [] [] [] ?_))
    refine aE ?_
    exact awp_ret (oO hF [] [] rfl)
  · refine tF h1 (awp_skip (awp_seq (sR 2 (cE hF (fun h4 hF => ?_) fun h4 hF => ?_))))
    · exact tT h4 (awp_seq (nE hF))
    · exact tF h4 (awp_skip (awp_seq (sR 2 (tF rfl (awp_skip (awp_seq (nE hF)))))))

def z1010 (qx : List api_Spot) (qx1 : Int) (qx2 : Int) (qx3 : Int) (r : (List api_Spot)) : TV × Mem := (.tup [], ⟨[(0, ⟨52, 2, List.map api_Spot.enc r⟩)], []⟩)

theorem z1011 {qx : List api_Spot} {qx1 : Int} {qx2 : Int} {qx3 : Int} {r} (hF : z1009 qx qx1 qx2 qx3 = some r) : Holds prog 98 [.c (.own 0 none), .i qx1, .i qx2, .i qx3, .c (.fn 56 [])] ⟨[(0, ⟨52, 2, List.map api_Spot.enc qx⟩)], []⟩ (Is (z1010 qx qx1 qx2 qx3 r)) := by
  unfold z1009 at hF
  refine hW f98 148 1 1 ?_
  refine sR 1 (sR 1 (awp_block (awp_to (st' := z1013 qx qx1 qx2 qx3 ()) (oT [] []) ?_)))
  refine bE hF fun vl1 h7 hF => awp_sub (awp_loop' (z1013 qx qx1 qx2 qx3) z1015 (z1014 qx qx1 qx2 qx3) (by intro x; exact fun h => nomatch h) h7 (z1016 qx qx1 qx2 qx3)) ?_
  exact oF hF [] []

/-! ### slices.SortFunc[[]beaconfleet/api.Spot,beaconfleet/api.Spot] -/
def z925 (qx : List api_Spot) (r : (List api_Spot)) : TV × Mem := (.tup [], ⟨[(0, ⟨52, 2, List.map api_Spot.enc r⟩)], []⟩)

theorem z926 {qx : List api_Spot} {r} (hF : z924 qx = some r) : Holds prog 55 [.c (.own 0 none), .c (.fn 56 [])] ⟨[(0, ⟨52, 2, List.map api_Spot.enc qx⟩)], []⟩ (Is (z925 qx r)) := by
  unfold z924 at hF
  refine hW f55 14 1 1 ?_
  refine awp_seq (awp_region (aR 1 (aL api_Spot.enc qx (aR 1 (aE ?_)))))
  refine bE hF fun vr1 h1 hF => bE hF fun vl2 h2 hF => gE hF fun h3 hF => ?_
  refine awp_region (aR 4 (aC (z128 h1) [] [] [] (aR 1 (aCp (z1011 h2) ⟨⟨rfl, rfl, pin1 h3⟩, trivial⟩ [] [] [] ?_))))
  refine aE ?_
  exact oF hF [] []

/-! ### slices.Compact[[]beaconfleet/api.Spot,beaconfleet/api.Spot] -/
def z775 (qs : List api_Spot) (vk : Int) (vl4 : List api_Spot) (vk6 : Int) (vk2_1 : Int) : ((List api_Spot) × Int) → St
  | (vl6, vk8) => Mem.st ⟨[(0, ⟨52, 2, List.map api_Spot.enc vl6⟩)], []⟩ (tl [(0, .c (.own 0 none)), (3, .i vk8), (4, .c (.view 0 vk.toNat ((qs.length : Int).toNat - vk.toNat))), (5, .i vk2_1)]) 1

def z774 (qs : List api_Spot) (vk : Int) (vl4 : List api_Spot) (vk6 : Int) (vk2_1 : Int) : St := Mem.st ⟨[(0, ⟨52, 2, List.map api_Spot.enc vl4⟩)], []⟩ (tl [(0, .c (.own 0 none)), (3, .i vk6), (4, .c (.view 0 vk.toNat ((qs.length : Int).toNat - vk.toNat))), (5, .i vk2_1)]) 1

theorem z776 (qs : List api_Spot) (vk : Int) (vl4 : List api_Spot) (vk6 : Int) (vk2_1 : Int) {r} (hF : z773 qs vk vl4 vk6 vk2_1 = some r) : Awp prog 1 61 (cL (cR (cL (cL (cR (cL (cR (cL (cR (cL (cL (cR (cL (cL (cR (cL (cR (cR (cB f57))))))))))))))))))) (Out 1 nrm (z775 qs vk vl4 vk6 vk2_1) r) (z774 qs vk vl4 vk6 vk2_1) := by
  unfold z773 at hF
  refine awp_block (awp_seq (gE hF fun h8 hF => ?_))
  refine bE hF fun vy13 h9 hF => gE hF fun h10 hF => ?_
  refine bE hF fun vy14 h11 hF => aD ?_
  refine dR 2 ?_
  refine dX (x_idxV api_Spot.enc 0 h8 h9) ?_
  refine dX (x_ldE api_Spot.enc h9) ?_
  refine dR 3 ?_
  refine dX (x_idxV api_Spot.enc 0 h10 h11) ?_
  refine dX (x_ldE api_Spot.enc h11) ?_
  refine dS (U := []) (stable_eqS (op := .neq) (xs := [.int .i64 vy13.X, .int .i64 vy13.Y]) (ys := [.int .i64 vy14.X, .int .i64 vy14.Y]) (b := (decide (vy13.X = vy14.X) && (decide (vy13.Y = vy14.Y) && true))) (c := (!(decide (vy13.X = vy14.X) && (decide (vy13.Y = vy14.Y) && true)))) rfl (.inr ⟨rfl, rfl⟩) (by kernel_rfl) (by kernel_rfl) (by kernel_rfl) (by kernel_rfl) (by kernel_rfl) (by kernel_rfl)) ?_
  refine dE ?_
  refine cE hF (fun h12 hF => ?_) fun h12 hF => ?_
  · refine tT h12 (awp_seq (bE hF fun vy15 h13 hF => awp_region (aR 4 (aX (x_idxV api_Spot.enc 0 h8 h9) (aX (x_ldE api_Spot.enc h9) (aX (x_idxO api_Spot.enc 0 h13) (aX (x_stE api_Spot.enc vy13 h13) (aE ?_))))))))
    exact gR 3 (oO hF [] [] rfl)
  · exact tF h12 (awp_skip (oO hF [] [] rfl))

def z771 : ((List api_Spot) × Int) → AEx
  | _ => .exit 2

def z770 (qs : List api_Spot) (vk : Int) : ((List api_Spot) × Int) → St
  | (vl7, vk9) => Mem.st ⟨[(0, ⟨52, 2, List.map api_Spot.enc vl7⟩)], []⟩ (tl [(0, .c (.own 0 none)), (3, .i vk9)]) 1

def z769 (qs : List api_Spot) (vk : Int) : (List api_Spot) × Int × Int → St
  | (vl4, vk6, vk2_1) => Mem.st ⟨[(0, ⟨52, 2, List.map api_Spot.enc vl4⟩)], []⟩ (tl [(0, .c (.own 0 none)), (3, .i vk6), (4, .c (.view 0 vk.toNat ((qs.length : Int).toNat - vk.toNat))), (5, .i vk2_1)]) 1

theorem z772 (qs : List api_Spot) (vk : Int) (s : (List api_Spot) × Int × Int) (r : ((List api_Spot) × Int × Int) ⊕ (((List api_Spot) × Int))) (hF : z768 qs vk s = some r) : Awp prog 1 61 (cL (cL (cR (cL (cR (cL (cR (cL (cL (cR (cL (cL (cR (cL (cR (cR (cB f57))))))))))))))))) (Out 1 (kk z771) (SS (z769 qs vk) (z770 qs vk)) r) (z769 qs vk s) := by
  obtain ⟨vl4, vk6, vk2_1⟩ := s
  unfold z768 at hF
  refine awp_seq (sR 4 (cE hF (fun h7 hF => ?_) fun h7 hF => ?_))
  · refine tT h7 (awp_skip (awp_seq (awp_to (st' := z774 qs vk vl4 vk6 vk2_1) (oT [] []) ?_)))
    refine bE hF fun x h14 hF => ?_
    obtain ⟨vl6_1, vk8_1⟩ := x
    refine awp_sub (z776 qs vk vl4 vk6 vk2_1 h14) ?_
    exact gR 3 (oO hF [] [] rfl)
  · refine tF h7 (awp_exit ?_)
    exact oO hF [] [] rfl

def z766 : Unit ⊕ (List api_Spot) → AEx
  | .inl _ => .exit 0
  | .inr _ => .ret

def z765 (qs : List api_Spot) : Unit ⊕ (List api_Spot) → St
  | .inl _ => Mem.st ⟨[(0, ⟨52, 2, List.map api_Spot.enc qs⟩)], []⟩ (tl [(0, .c (.own 0 none))]) 1
  | .inr vx => Mem.st ⟨[(1, ⟨52, 2, List.map api_Spot.enc vx⟩)], []⟩ (tl [(2, .c (.own 1 none))]) 2

def z764 (qs : List api_Spot) : Int → St
  | vk => Mem.st ⟨[(0, ⟨52, 2, List.map api_Spot.enc qs⟩)], []⟩ (tl [(0, .c (.own 0 none)), (3, .i vk)]) 1

theorem z767 (qs : List api_Spot) (vk : Int) (r : (Int) ⊕ (Unit ⊕ (List api_Spot))) (hF : z763 qs vk = some r) : Awp prog 1 61 (cL (cL (cR (cL (cR (cR (cB f57))))))) (Out 1 (kk z766) (SS (z764 qs) (z765 qs)) r) (z764 qs vk) := by
  unfold z763 at hF
  refine awp_seq (awp_seq (awp_region (aR 2 (aL api_Spot.enc qs (aR 1 (aE ?_))))))
  refine cE hF (fun h2 hF => ?_) fun h2 hF => ?_
  · refine tT h2 (awp_skip (awp_seq (awp_block (awp_seq (bE hF fun vy8 h3 hF => bE hF fun vy9 h4 hF => aD ?_)))))
    refine dR 2 ?_
    refine dX (x_idxO api_Spot.enc 0 h3) ?_
    refine dX (x_ldE api_Spot.enc h3) ?_
    refine dR 3 ?_
    refine dX (x_idxO api_Spot.enc 0 h4) ?_
    refine dX (x_ldE api_Spot.enc h4) ?_
    refine dS (U := []) (stable_eqS (op := .eql) (xs := [.int .i64 vy8.X, .int .i64 vy8.Y]) (ys := [.int .i64 vy9.X, .int .i64 vy9.Y]) (b := (decide (vy8.X = vy9.X) && (decide (vy8.Y = vy9.Y) && true))) (c := (decide (vy8.X = vy9.X) && (decide (vy8.Y = vy9.Y) && true))) rfl (.inl ⟨rfl, rfl⟩) (by kernel_rfl) (by kernel_rfl) (by kernel_rfl) (by kernel_rfl) (by kernel_rfl) (by kernel_rfl)) ?_
    refine dE ?_
    refine cE hF (fun h5 hF => ?_) fun h5 hF => ?_
    · refine tT h5 (awp_seq (gE hF fun h6 hF => ?_))
      refine awp_region (aR 2 (aX (x_viewN api_Spot.enc 0 h6) (aR 1 (aE ?_))))
      refine awp_seq (sR 1 (awp_block (awp_to (st' := z769 qs vk (qs, vk, 1)) (oT [] []) ?_)))
      refine bE hF fun x h15 hF => ?_
      obtain ⟨vl7_1, vk9_1⟩ := x
      refine awp_sub (awp_loop' (z769 qs vk) z771 (z770 qs vk) (by intro x; exact fun h => nomatch h) h15 (z772 qs vk)) ?_
      refine awp_seq (gE hF fun h16 hF => ?_)
      refine awp_region (aR 2 (aX (x_viewN api_Spot.enc 0 h16) (aCl api_Spot.enc 0 (xs := vl7_1) (y := api_Spot.mk 0 0) (lo := vk9_1) (hi := (vl7_1.length : Int)) rfl ?_)))
      refine aE ?_
      refine awp_seq (gE hF fun h17 hF => ?_)
      refine awp_region (aR 2 (aT api_Spot.enc 0 h17 rfl ?_))
      refine aR 1 (aE ?_)
      exact awp_ret (oO hF [(1, 6001)] [] rfl)
    · exact tF h5 (awp_skip (gR 3 (oO hF [] [] rfl)))
  · refine tF h2 (awp_exit ?_)
    exact oO hF [] [] rfl

def z761 (qs : List api_Spot) (r : (List api_Spot)) : TV × Mem := (.c (.own 1 none), ⟨[(1, ⟨52, 2, List.map api_Spot.enc r⟩)], []⟩)

theorem z762 {qs : List api_Spot} {r} (hF : z760 qs = some r) : Holds prog 57 [.c (.own 0 none)] ⟨[(0, ⟨52, 2, List.map api_Spot.enc qs⟩)], []⟩ (Is (z761 qs r)) := by
  unfold z760 at hF
  refine hW f57 61 1 1 ?_
  refine sR 1 (awp_seq (awp_seq (awp_region (aR 1 (aL api_Spot.enc qs (aR 1 (aE ?_)))))))
  refine cE hF (fun h1 hF => ?_) fun h1 hF => ?_
  · exact tT h1 (sR 2 (awp_ret (oF hF [(1, 0)] [])))
  · refine tF h1 (awp_skip (awp_seq (sR 1 (awp_block (awp_to (st' := z764 qs 1) (oT [] []) ?_)))))
    refine bE hF fun x h18 hF => ?_
    rcases x with _ | vx1
    · refine awp_sub (awp_loop' (z764 qs) z766 (z765 qs) (by intro x; rcases x with x | x <;> exact fun h => nomatch h) h18 (z767 qs)) ?_
      exact sR 2 (awp_ret (oF hF [(1, 0)] []))
    · refine awp_sub (awp_loop' (z764 qs) z766 (z765 qs) (by intro x; rcases x with x | x <;> exact fun h => nomatch h) h18 (z767 qs)) ?_
      exact oF hF [] []

/-! ### beaconfleet/place.side -/
def z602 (qa : api_Spot) (qb : api_Spot) (qs : api_Spot) (r : Unit) : TV × Mem := (.i (IntKind.wrap .i64 ((IntKind.wrap .i64 ((IntKind.wrap .i64 (qb.X - qa.X)) * (IntKind.wrap .i64 (qs.Y - qa.Y)))) - (IntKind.wrap .i64 ((IntKind.wrap .i64 (qb.Y - qa.Y)) * (IntKind.wrap .i64 (qs.X - qa.X)))))), ⟨[], []⟩)

theorem z603 {qa : api_Spot} {qb : api_Spot} {qs : api_Spot} {r} (hF : z601 qa qb qs = some r) : Holds prog 76 [.v (.agg [.i qa.X, .i qa.Y]), .v (.agg [.i qb.X, .i qb.Y]), .v (.agg [.i qs.X, .i qs.Y])] ⟨[], []⟩ (Is (z602 qa qb qs r)) := by
  unfold z601 at hF
  refine hW f76 30 0 0 ?_
  exact sR 4 (sR 24 (awp_ret (oF hF [] [])))

/-! ### beaconfleet/place.half -/
def z572 (ql : List api_Spot) (vx : Int) (vy5 : api_Spot) (vout3 : List api_Spot) (vn1 : Int) : Bool → St
  | vx4 => Mem.st ⟨[(0, ⟨52, 2, List.map api_Spot.enc ql⟩), (2, ⟨52, 2, List.map api_Spot.enc vout3⟩)], [(1, [.i vy5.X, .i vy5.Y])]⟩ (tl [(3, .c (.own 2 none)), (5, .c (.box 1 0)), (6, .i vn1), (7, .c (.own 0 none)), (8, .i (ql.length : Int)), (9, .i vx), (31, .b vx4)]) 3

def z571 (ql : List api_Spot) (vx : Int) (vy5 : api_Spot) (vout3 : List api_Spot) (vn1 : Int) : St := Mem.st ⟨[(0, ⟨52, 2, List.map api_Spot.enc ql⟩), (2, ⟨52, 2, List.map api_Spot.enc vout3⟩)], [(1, [.i vy5.X, .i vy5.Y])]⟩ (tl [(3, .c (.own 2 none)), (5, .c (.box 1 0)), (6, .i vn1), (7, .c (.own 0 none)), (8, .i (ql.length : Int)), (9, .i vx)]) 3

theorem z573 (ql : List api_Spot) (vx : Int) (vy5 : api_Spot) (vout3 : List api_Spot) (vn1 : Int) {r} (hF : z570 vy5 vout3 vn1 = some r) : Awp prog 1 44 (cL (cL (cL (cL (cR (cL (cR (cL (cL (cR (cR (cL (cL (cR (cL (cR (cR (cB f58)))))))))))))))))) (Out 1 nrm (z572 ql vx vy5 vout3 vn1) r) (z571 ql vx vy5 vout3 vn1) := by
  unfold z570 at hF
  refine cE hF (fun h3 hF => ?_) fun h3 hF => ?_
  · refine bE hF fun vy8 h4 hF => bE hF fun vy9 h5 hF => bE hF fun _ h6 hF => aD ?_
    refine dR 1 ?_
    refine dB h3 ?_
    refine dR 4 ?_
    refine dX (x_idxO api_Spot.enc 2 h4) ?_
    refine dX (x_ldE api_Spot.enc h4) ?_
    refine dR 3 ?_
    refine dX (x_idxO api_Spot.enc 2 h5) ?_
    refine dX (x_ldE api_Spot.enc h5) ?_
    refine dR 1 ?_
    refine dC (z603 h6) [] [] [] ?_
    refine dR 2 ?_
    refine dE ?_
    exact oO hF [] [] rfl
  · refine aD ?_
    refine dR 1 ?_
    refine dB h3 ?_
    refine dR 15 ?_
    refine dE ?_
    exact oO hF [] [] rfl

def z568 : (List api_Spot) → AEx
  | _ => .exit 2

def z567 (ql : List api_Spot) (vx : Int) (vy5 : api_Spot) : (List api_Spot) → St
  | vout4 => Mem.st ⟨[(0, ⟨52, 2, List.map api_Spot.enc ql⟩), (2, ⟨52, 2, List.map api_Spot.enc vout4⟩)], [(1, [.i vy5.X, .i vy5.Y])]⟩ (tl [(3, .c (.own 2 none)), (5, .c (.box 1 0)), (7, .c (.own 0 none)), (8, .i (ql.length : Int)), (9, .i vx)]) 3

def z566 (ql : List api_Spot) (vx : Int) (vy5 : api_Spot) : (List api_Spot) × Int → St
  | (vout3, vn1) => Mem.st ⟨[(0, ⟨52, 2, List.map api_Spot.enc ql⟩), (2, ⟨52, 2, List.map api_Spot.enc vout3⟩)], [(1, [.i vy5.X, .i vy5.Y])]⟩ (tl [(3, .c (.own 2 none)), (5, .c (.box 1 0)), (6, .i vn1), (7, .c (.own 0 none)), (8, .i (ql.length : Int)), (9, .i vx)]) 3

theorem z569 (ql : List api_Spot) (vx : Int) (vy5 : api_Spot) (s : (List api_Spot) × Int) (r : ((List api_Spot) × Int) ⊕ ((List api_Spot))) (hF : z565 vy5 s = some r) : Awp prog 1 44 (cL (cL (cR (cL (cR (cL (cL (cR (cR (cL (cL (cR (cL (cR (cR (cB f58)))))))))))))))) (Out 1 (kk z568) (SS (z566 ql vx vy5) (z567 ql vx vy5)) r) (z566 ql vx vy5 s) := by
  obtain ⟨vout3, vn1⟩ := s
  unfold z565 at hF
  refine awp_seq (awp_seq (awp_to (st' := z571 ql vx vy5 vout3 vn1) (oT [] []) ?_))
  refine bE hF fun vx4_1 h7 hF => awp_sub (z573 ql vx vy5 vout3 vn1 h7) ?_
  refine awp_to (oT (m := ⟨[(0, ⟨52, 2, List.map api_Spot.enc ql⟩), (2, ⟨52, 2, List.map api_Spot.enc vout3⟩)], [(1, [.i vy5.X, .i vy5.Y])]⟩) (ts := [(3, .c (.own 2 none)), (5, .c (.box 1 0)), (6, .i vn1), (7, .c (.own 0 none)), (8, .i (ql.length : Int)), (9, .i vx), (31, .b vx4_1)]) (nx := 3) [] []) ?_
  refine cE hF (fun h8 hF => ?_) fun h8 hF => ?_
  · refine tT h8 (awp_skip (awp_to (oT (m := ⟨[(0, ⟨52, 2, List.map api_Spot.enc ql⟩), (2, ⟨52, 2, List.map api_Spot.enc vout3⟩)], [(1, [.i vy5.X, .i vy5.Y])]⟩) (ts := [(3, .c (.own 2 none)), (5, .c (.box 1 0)), (6, .i vn1), (7, .c (.own 0 none)), (8, .i (ql.length : Int)), (9, .i vx)]) (nx := 3) [] []) ?_))
    refine awp_seq (awp_block (gE hF fun h9 hF => ?_))
    refine awp_region (aR 3 (aT api_Spot.enc 2 h9 rfl ?_))
    refine aR 1 (aE ?_)
    refine awp_to (oT (m := ⟨[(0, ⟨52, 2, List.map api_Spot.enc ql⟩), (2, ⟨52, 2, List.map api_Spot.enc (vout3.take (IntKind.wrap .i64 (vn1 - 1)).toNat)⟩)], [(1, [.i vy5.X, .i vy5.Y])]⟩) (ts := [(3, .c (.own 2 none)), (5, .c (.box 1 0)), (6, .i vn1), (7, .c (.own 0 none)), (8, .i (ql.length : Int)), (9, .i vx)]) (nx := 3) [(2, 3003)] []) ?_
    exact gR 3 (oO hF [] [] rfl)
  · refine tF h8 (awp_exit ?_)
    exact oO hF [] [] rfl

def z563 : (List api_Spot) → AEx
  | _ => .exit 0

def z562 (ql : List api_Spot) : (List api_Spot) → St
  | vout5 => Mem.st ⟨[(0, ⟨52, 2, List.map api_Spot.enc ql⟩), (1, ⟨52, 2, List.map api_Spot.enc vout5⟩)], []⟩ (tl [(3, .c (.own 1 none))]) 2

def z561 (ql : List api_Spot) : (List api_Spot) × Int → St
  | (vout, vx) => Mem.st ⟨[(0, ⟨52, 2, List.map api_Spot.enc ql⟩), (1, ⟨52, 2, List.map api_Spot.enc vout⟩)], []⟩ (tl [(3, .c (.own 1 none)), (7, .c (.own 0 none)), (8, .i (ql.length : Int)), (9, .i vx)]) 2

theorem z564 (ql : List api_Spot) (s : (List api_Spot) × Int) (r : ((List api_Spot) × Int) ⊕ ((List api_Spot))) (hF : z560 ql s = some r) : Awp prog 1 44 (cL (cL (cR (cL (cR (cR (cB f58))))))) (Out 1 (kk z563) (SS (z561 ql) (z562 ql)) r) (z561 ql s) := by
  obtain ⟨vout, vx⟩ := s
  unfold z560 at hF
  refine sR 1 (awp_to (oT (m := ⟨[(0, ⟨52, 2, List.map api_Spot.enc ql⟩), (1, ⟨52, 2, List.map api_Spot.enc vout⟩)], []⟩) (ts := [(3, .c (.own 1 none)), (7, .c (.own 0 none)), (8, .i (ql.length : Int)), (9, .i vx), (10, .b (decide (vx < (ql.length : Int))))]) (nx := 2) [] []) ?_)
  refine awp_seq (cE hF (fun h1 hF => ?_) fun h1 hF => ?_)
  · refine tT h1 (awp_skip (awp_to (oT (m := ⟨[(0, ⟨52, 2, List.map api_Spot.enc ql⟩), (1, ⟨52, 2, List.map api_Spot.enc vout⟩)], []⟩) (ts := [(3, .c (.own 1 none)), (7, .c (.own 0 none)), (8, .i (ql.length : Int)), (9, .i vx)]) (nx := 2) [] []) ?_))
    refine awp_seq (awp_block (awp_seq (bE hF fun vy5 h2 hF => awp_region (aX (x_idxO api_Spot.enc 0 h2) (aX (x_ldE api_Spot.enc h2) (aR 2 (aE ?_)))))))
    refine awp_to (oT (m := ⟨[(0, ⟨52, 2, List.map api_Spot.enc ql⟩), (2, ⟨52, 2, List.map api_Spot.enc vout⟩)], [(1, [.i vy5.X, .i vy5.Y])]⟩) (ts := [(3, .c (.own 2 none)), (5, .c (.box 1 0)), (7, .c (.own 0 none)), (8, .i (ql.length : Int)), (9, .i vx)]) (nx := 3) [(1, 2002), (2, 1)] []) ?_
    refine awp_seq (awp_seq (awp_region (aR 1 (aL api_Spot.enc vout (aR 1 (aE ?_))))))
    refine awp_to (oT (m := ⟨[(0, ⟨52, 2, List.map api_Spot.enc ql⟩), (2, ⟨52, 2, List.map api_Spot.enc vout⟩)], [(1, [.i vy5.X, .i vy5.Y])]⟩) (ts := [(3, .c (.own 2 none)), (5, .c (.box 1 0)), (6, .i (vout.length : Int)), (7, .c (.own 0 none)), (8, .i (ql.length : Int)), (9, .i vx)]) (nx := 3) [] []) ?_
    refine awp_block (awp_to (st' := z566 ql vx vy5 (vout, (vout.length : Int))) (oT [] []) ?_)
    refine bE hF fun vout4_1 h10 hF => awp_sub (awp_loop' (z566 ql vx vy5) z568 (z567 ql vx vy5) (by intro x; exact fun h => nomatch h) h10 (z569 ql vx vy5)) ?_
    refine awp_to (oT (m := ⟨[(0, ⟨52, 2, List.map api_Spot.enc ql⟩), (2, ⟨52, 2, List.map api_Spot.enc vout4_1⟩)], [(1, [.i vy5.X, .i vy5.Y])]⟩) (ts := [(3, .c (.own 2 none)), (5, .c (.box 1 0)), (7, .c (.own 0 none)), (8, .i (ql.length : Int)), (9, .i vx)]) (nx := 3) [] []) ?_
    refine gE hF fun h11 hF => ?_
    refine awp_region (aR 3 (aX (x_app api_Spot.enc 2 h11) (aR 1 (aE ?_))))
    refine awp_to (oT (m := ⟨[(0, ⟨52, 2, List.map api_Spot.enc ql⟩), (1, ⟨52, 2, List.map api_Spot.enc (vout4_1 ++ ([vy5] : List api_Spot))⟩)], []⟩) (ts := [(3, .c (.own 1 none)), (7, .c (.own 0 none)), (8, .i (ql.length : Int)), (9, .i vx)]) (nx := 2) [(1, 3003)] []) ?_
    exact gR 2 (oO hF [] [] rfl)
  · refine tF h1 (awp_exit ?_)
    exact oO hF [] [] rfl

def z558 (ql : List api_Spot) (r : (List api_Spot)) : TV × Mem := (.c (.own 1 none), ⟨[(0, ⟨52, 2, List.map api_Spot.enc ql⟩), (1, ⟨52, 2, List.map api_Spot.enc r⟩)], []⟩)

theorem z559 {ql : List api_Spot} {r} (hF : z557 ql = some r) : Holds prog 58 [.c (.own 0 none)] ⟨[(0, ⟨52, 2, List.map api_Spot.enc ql⟩)], []⟩ (Is (z558 ql r)) := by
  unfold z557 at hF
  refine hW f58 44 1 1 ?_
  refine sR 1 (sR 1 (awp_seq (awp_seq (awp_region (aR 1 (aL api_Spot.enc ql (aR 1 (aE ?_))))))))
  refine awp_to (oT (m := ⟨[(0, ⟨52, 2, List.map api_Spot.enc ql⟩)], []⟩) (ts := [(3, .c (.nil)), (7, .c (.own 0 none)), (8, .i (ql.length : Int)), (9, .i 0)]) (nx := 1) [] []) ?_
  refine awp_block (awp_to (st' := z561 ql ([], 0)) (oT [] [1]) ?_)
  refine bE hF fun vout5_1 h12 hF => awp_sub (awp_loop' (z561 ql) z563 (z562 ql) (by intro x; exact fun h => nomatch h) h12 (z564 ql)) ?_
  exact sR 2 (awp_ret (oF hF [] []))

/-! ### slices.Reverse[[]beaconfleet/api.Spot,beaconfleet/api.Spot] -/
def z919 : (List api_Spot) → AEx
  | _ => .exit 0

def z918 : (List api_Spot) → St
  | vl1 => Mem.st ⟨[(0, ⟨52, 2, List.map api_Spot.enc vl1⟩)], []⟩ (tl []) 1

def z917 : (List api_Spot) × Int × Int → St
  | (vl, vi, vj) => Mem.st ⟨[(0, ⟨52, 2, List.map api_Spot.enc vl⟩)], []⟩ (tl [(0, .c (.own 0 none)), (2, .i vi), (3, .i vj)]) 1

theorem z920 (s : (List api_Spot) × Int × Int) (r : ((List api_Spot) × Int × Int) ⊕ ((List api_Spot))) (hF : z916  s = some r) : Awp prog 1 28 (cL (cL (cR (cB f59)))) (Out 1 (kk z919) (SS (z917 ) (z918 )) r) (z917  s) := by
  obtain ⟨vl, vi, vj⟩ := s
  unfold z916 at hF
  refine awp_seq (sR 3 (cE hF (fun h1 hF => ?_) fun h1 hF => ?_))
  · refine tT h1 (awp_skip (awp_seq (awp_block (bE hF fun vy3 h2 hF => bE hF fun vy4 h3 hF => bE hF fun vy5 h4 hF => aDw [0] ?_))))
    refine dR 6 ?_
    refine dI api_Spot.enc 0 h2 rfl ?_
    refine dX (x_ldE api_Spot.enc h2) ?_
    refine dR 2 ?_
    refine dI api_Spot.enc 0 h3 rfl ?_
    refine dX (x_ldE api_Spot.enc h3) ?_
    refine dI api_Spot.enc 0 h3 rfl ?_
    refine dW api_Spot.enc vy3 h3 rfl ?_
    refine dI api_Spot.enc 0 h4 rfl ?_
    refine dW api_Spot.enc vy4 h4 rfl ?_
    refine dE ?_
    exact gR 6 (oO hF [] [] rfl)
  · refine tF h1 (awp_exit ?_)
    exact oO hF [] [] rfl

def z914 (qs : List api_Spot) (r : (List api_Spot)) : TV × Mem := (.tup [], ⟨[(0, ⟨52, 2, List.map api_Spot.enc r⟩)], []⟩)

theorem z915 {qs : List api_Spot} {r} (hF : z913 qs = some r) : Holds prog 59 [.c (.own 0 none)] ⟨[(0, ⟨52, 2, List.map api_Spot.enc qs⟩)], []⟩ (Is (z914 qs r)) := by
  unfold z913 at hF
  refine hW f59 28 1 1 ?_
  refine awp_seq (awp_region (aR 1 (aL api_Spot.enc qs (aR 3 (aE ?_)))))
  refine awp_block (awp_to (st' := z917  (qs, 0, IntKind.wrap .i64 ((qs.length : Int) - 1))) (oT [] []) ?_)
  refine bE hF fun vl1_1 h5 hF => awp_sub (awp_loop' (z917 ) z919 (z918 ) (by intro x; exact fun h => nomatch h) h5 (z920 )) ?_
  exact oF hF [] []

/-! ### slices.Grow[[]beaconfleet/api.Spot,beaconfleet/api.Spot] -/
def z871 (qn : Int) : (List api_Spot) → St
  | vs => Mem.st ⟨[(0, ⟨52, 2, List.map api_Spot.enc vs⟩)], []⟩ (tl [(0, .c (.own 0 none))]) 1

def z870 (qn : Int) : St := Mem.st ⟨[], []⟩ (tl [(0, .c (.nil)), (1, .i qn)]) 0

theorem z872 (qn : Int) {r} (hF : z869 qn = some r) : Awp prog 0 27 (cL (cR (cR (cB f102)))) (Out 0 nrm (z871 qn) r) (z870 qn) := by
  unfold z869 at hF
  refine awp_seq (awp_region (aR 2 (aK rfl ?_)))
  refine aR 5 (aE ?_)
  refine sR 2 (cE hF (fun h3 hF => ?_) fun h3 hF => ?_)
  · refine tT h3 (gE hF fun h4 hF => ?_)
    refine gE hF fun h5 hF => ?_
    refine awp_region (aR 2 (aK rfl ?_))
    refine aSn rfl ?_
    refine aR 1 (aZ api_Spot.enc (api_Spot.mk 0 0) h4 rfl ?_)
    refine aR 2 (aT api_Spot.enc 15000 h5 rfl ?_)
    refine aR 1 (aE ?_)
    exact oO hF [(0, 18000)] [] rfl
  · exact tF h3 (awp_skip (oO hF [] [0] rfl))

def z867 (qn : Int) (r : (List api_Spot)) : TV × Mem := (.c (.own 0 none), ⟨[(0, ⟨52, 2, List.map api_Spot.enc r⟩)], []⟩)

theorem z868 {qn : Int} {r} (hF : z866 qn = some r) : Holds prog 102 [.c (.nil), .i qn] ⟨[], []⟩ (Is (z867 qn r)) := by
  unfold z866 at hF
  refine hW f102 27 0 0 ?_
  refine sR 1 (awp_seq (sR 2 (cE hF (fun h1 hF => ?_) fun h1 hF => ?_)))
  · exact tT h1 (nE hF)
  · refine tF h1 (awp_skip (awp_seq (awp_to (st' := z870 qn) (oT [] []) ?_)))
    refine bE hF fun vs1 h6 hF => awp_sub (z872 qn h6) ?_
    exact sR 2 (awp_ret (oF hF [] []))

/-! ### slices.Concat[[]beaconfleet/api.Spot,beaconfleet/api.Spot] -/
def z813 : Int → AEx
  | _ => .exit 0

def z812 (qslices : List (List api_Spot)) : Int → St
  | vsize1 => Mem.st ⟨[], []⟩ (tl [(0, .c (.l (encL api_Spot.enc) qslices)), (3, .i vsize1)]) 1

def z811 (qslices : List (List api_Spot)) : Int × Int → St
  | (vsize, vx) => Mem.st ⟨[], []⟩ (tl [(0, .c (.l (encL api_Spot.enc) qslices)), (3, .i vsize), (9, .c (.l (encL api_Spot.enc) qslices)), (10, .i (qslices.length : Int)), (11, .i vx)]) 1

theorem z814 (qslices : List (List api_Spot)) (s : Int × Int) (r : (Int × Int) ⊕ (Int)) (hF : z810 qslices s = some r) : Awp prog 1 36 (cL (cL (cR (cL (cR (cR (cB f60))))))) (Out 1 (kk z813) (SS (z811 qslices) (z812 qslices)) r) (z811 qslices s) := by
  obtain ⟨vsize, vx⟩ := s
  unfold z810 at hF
  refine sR 1 (awp_seq (cE hF (fun h1 hF => ?_) fun h1 hF => ?_))
  · refine tT h1 (awp_skip (awp_seq (awp_block (awp_seq (bE hF fun vy1 h2 hF => awp_region (aX (x_idx (encL api_Spot.enc) h2) (aR 2 (aE ?_))))))))
    refine awp_seq (awp_region (aR 2 (aL api_Spot.enc vy1 (aR 2 (aE ?_)))))
    refine sR 2 (cE hF (fun h3 hF => ?_) fun h3 hF => ?_)
    · exact tT h3 (nE hF)
    · exact tF h3 (awp_skip (gR 2 (oO hF [] [] rfl)))
  · refine tF h1 (awp_exit ?_)
    exact oO hF [] [] rfl

def z818 : (List api_Spot) → AEx
  | _ => .exit 2

def z817 (qslices : List (List api_Spot)) : (List api_Spot) → St
  | vnewslice1 => Mem.st ⟨[(1, ⟨52, 2, List.map api_Spot.enc vnewslice1⟩)], []⟩ (tl [(6, .c (.own 1 none))]) 2

def z816 (qslices : List (List api_Spot)) : (List api_Spot) × Int → St
  | (vnewslice, vx1) => Mem.st ⟨[(1, ⟨52, 2, List.map api_Spot.enc vnewslice⟩)], []⟩ (tl [(6, .c (.own 1 none)), (25, .c (.l (encL api_Spot.enc) qslices)), (26, .i (qslices.length : Int)), (27, .i vx1)]) 2

theorem z819 (qslices : List (List api_Spot)) (s : (List api_Spot) × Int) (r : ((List api_Spot) × Int) ⊕ ((List api_Spot))) (hF : z815 qslices s = some r) : Awp prog 1 36 (cL (cL (cR (cL (cR (cR (cR (cR (cB f60))))))))) (Out 1 (kk z818) (SS (z816 qslices) (z817 qslices)) r) (z816 qslices s) := by
  obtain ⟨vnewslice, vx1⟩ := s
  unfold z815 at hF
  refine sR 1 (awp_seq (cE hF (fun h7 hF => ?_) fun h7 hF => ?_))
  · refine tT h7 (awp_skip (awp_seq (awp_block (awp_seq (bE hF fun vy3 h8 hF => awp_region (aX (x_idx (encL api_Spot.enc) h8) (aR 2 (aE ?_))))))))
    refine gE hF fun h9 hF => ?_
    refine awp_region (aR 2 (aX (x_app api_Spot.enc 1 h9) (aR 1 (aE ?_))))
    exact gR 2 (oO hF [(1, 6002)] [] rfl)
  · refine tF h7 (awp_exit ?_)
    exact oO hF [] [] rfl

def z808 (qslices : List (List api_Spot)) (r : (List api_Spot)) : TV × Mem := (.c (.own 1 none), ⟨[(1, ⟨52, 2, List.map api_Spot.enc r⟩)], []⟩)

theorem z809 {qslices : List (List api_Spot)} {r} (hF : z807 qslices = some r) : Holds prog 60 [.c (.own 0 none)] ⟨[(0, ⟨26, 1, List.map (encL api_Spot.enc) qslices⟩)], []⟩ (Is (z808 qslices r)) := by
  unfold z807 at hF
  refine hW f60 36 1 1 ?_
  refine sR 1 (awp_to (oT (m := ⟨[], []⟩) (ts := [(0, .c (.l (encL api_Spot.enc) qslices))]) (nx := 1) [] []) ?_)
  refine sR 1 (awp_seq (awp_seq (awp_region (aR 1 (aL (encL api_Spot.enc) qslices (aR 1 (aE ?_)))))))
  refine awp_block (awp_to (st' := z811 qslices (0, 0)) (oT [] []) ?_)
  refine bE hF fun vsize1_1 h5 hF => awp_sub (awp_loop' (z811 qslices) z813 (z812 qslices) (by intro x; exact fun h => nomatch h) h5 (z814 qslices)) ?_
  refine awp_seq (bE hF fun vr h6 hF => awp_region (aR 1 (aC (z868 h6) [] [] [] (aR 1 (aE ?_)))))
  refine awp_seq (awp_seq (awp_region (aR 1 (aL (encL api_Spot.enc) qslices (aR 1 (aE ?_))))))
  refine awp_block (awp_to (st' := z816 qslices (vr, 0)) (oT [(1, 1001)] []) ?_)
  refine bE hF fun vnewslice1_1 h10 hF => awp_sub (awp_loop' (z816 qslices) z818 (z817 qslices) (by intro x; exact fun h => nomatch h) h10 (z819 qslices)) ?_
  exact sR 2 (awp_ret (oF hF [] []))

/-! ### beaconfleet/place.Hull -/
def z417 (ql : List api_Spot) (r : (List api_Spot) × Int) : TV × Mem := (.tup [.one (.own 0 none), .one (.i r.2)], ⟨[(0, ⟨52, 2, List.map api_Spot.enc r.1⟩)], []⟩)

theorem z418 {ql : List api_Spot} {r} (hF : z413 ql = some r) : Holds prog 18 [.c (.l api_Spot.enc ql)] ⟨[], []⟩ (Is (z417 ql r)) := by
  unfold z413 at hF
  refine hW f18 36 0 0 ?_
  refine sR 2 (awp_seq (awp_seq (awp_region (aR 1 (aL api_Spot.enc ql (aR 1 (aE ?_)))))))
  refine cE hF (fun h1 hF => ?_) fun h1 hF => ?_
  · exact tT h1 (sR 2 (awp_ret (oF hF [] [0])))
  · refine tF h1 (awp_skip (awp_seq (awp_seq (bE hF fun vr h2 hF => awp_region (aR 1 (aC (z831 h2) [] [] [] (aE ?_)))))))
    refine cE hF (fun h3 hF => ?_) fun h3 hF => ?_
    · exact tT h3 (sR 2 (awp_ret (oF hF [] [0])))
    · refine tF h3 (awp_skip (awp_seq (bE hF fun vr1 h4 hF => awp_region (aR 1 (aC (z742 h4) [] [] [] (aR 1 (aE ?_)))))))
      refine awp_seq (bE hF fun vl h5 hF => gE hF fun h6 hF => ?_)
      refine awp_region (aR 1 (aCp (z926 h5) ⟨⟨rfl, rfl, pin1 h6⟩, trivial⟩ [(0, 8000)] [] [] ?_))
      refine aE ?_
      refine awp_seq (bE hF fun vr2 h7 hF => awp_region (aR 1 (aC (z762 h7) [(0, 8000)] [] [] (aR 1 (aE ?_)))))
      refine awp_seq (awp_seq (awp_region (aR 1 (aL api_Spot.enc vr2 (aR 1 (aE ?_))))))
      refine cE hF (fun h8 hF => ?_) fun h8 hF => ?_
      · exact tT h8 (sR 3 (awp_ret (oF hF [(0, 13001)] [])))
      · refine tF h8 (awp_skip (awp_seq (bE hF fun vr3 h9 hF => gE hF fun h10 hF => ?_)))
        refine awp_region (aR 1 (aCp (z559 h9) ⟨⟨rfl, rfl, pin1 h10⟩, trivial, trivial⟩ [(0, 13001)] [] [] ?_))
        refine aR 1 (aE ?_)
        refine awp_to (oT (m := ⟨[(0, ⟨52, 2, List.map api_Spot.enc vr2⟩)], []⟩) (ts := [(4, .c (.own 0 none)), (5, .c (.l api_Spot.enc vr3))]) (nx := 1) [(0, 13001)] []) ?_
        refine awp_seq (bE hF fun vl2 h11 hF => gE hF fun h12 hF => ?_)
        refine awp_region (aR 1 (aCp (z915 h11) ⟨⟨rfl, rfl, pin1 h12⟩, trivial⟩ [] [] [] ?_))
        refine aE ?_
        refine awp_seq (bE hF fun vr4 h13 hF => gE hF fun h14 hF => ?_)
        refine awp_region (aR 1 (aCp (z559 h13) ⟨⟨rfl, rfl, pin1 h14⟩, trivial, trivial⟩ [] [] [] ?_))
        refine aR 1 (aE ?_)
        refine awp_to (oT (m := ⟨[], []⟩) (ts := [(5, .c (.l api_Spot.enc vr3)), (6, .c (.l api_Spot.enc vr4))]) (nx := 0) [] []) ?_
        refine awp_seq (bE hF fun vl1 h15 hF => bE hF fun vr1_1 h16 hF => awp_region (aR 3 (aL api_Spot.enc vr4 (aR 1 (aX (x_slice api_Spot.enc h15) (aR 1 (aC (z809 h16) [(0, 6000)] [] [] (aR 2 (aE ?_)))))))))
        exact awp_ret (oF hF [(0, 7001)] [])

/-! ### beaconfleet/fleetkeep2.spoil[beaconfleet/api.Spot] -/
def z225 : (List api_Spot) → AEx
  | _ => .exit 0

def z224 (ql : List api_Spot) : (List api_Spot) → St
  | vl1 => Mem.st ⟨[(0, ⟨52, 2, List.map api_Spot.enc vl1⟩)], []⟩ (tl []) 1

def z223 (ql : List api_Spot) : (List api_Spot) × Int → St
  | (vl, vx) => Mem.st ⟨[(0, ⟨52, 2, List.map api_Spot.enc vl⟩)], [(1, [.i 0, .i 0])]⟩ (tl [(0, .c (.own 0 none)), (2, .c (.box 1 0)), (5, .i (ql.length : Int)), (6, .i vx)]) 2

theorem z226 (ql : List api_Spot) (s : (List api_Spot) × Int) (r : ((List api_Spot) × Int) ⊕ ((List api_Spot))) (hF : z222 ql s = some r) : Awp prog 1 14 (cL (cL (cR (cR (cB f19))))) (Out 1 (kk z225) (SS (z223 ql) (z224 ql)) r) (z223 ql s) := by
  obtain ⟨vl, vx⟩ := s
  unfold z222 at hF
  refine sR 1 (awp_seq (cE hF (fun h1 hF => ?_) fun h1 hF => ?_))
  · refine tT h1 (awp_skip (awp_seq (awp_block (sR 2 (bE hF fun vy1 h2 hF => awp_region (aR 3 (aX (x_idxO api_Spot.enc 0 h2) (aX (x_stE api_Spot.enc (api_Spot.mk 0 0) h2) (aE ?_)))))))))
    exact gR 2 (oO hF [] [] rfl)
  · refine tF h1 (awp_exit ?_)
    exact oO hF [] [] rfl

def z220 (ql : List api_Spot) (r : (List api_Spot)) : TV × Mem := (.tup [], ⟨[(0, ⟨52, 2, List.map api_Spot.enc r⟩)], []⟩)

theorem z221 {ql : List api_Spot} {r} (hF : z219 ql = some r) : Holds prog 19 [.c (.own 0 none)] ⟨[(0, ⟨52, 2, List.map api_Spot.enc ql⟩)], []⟩ (Is (z220 ql r)) := by
  unfold z219 at hF
  refine hW f19 14 1 1 ?_
  refine sR 1 (awp_seq (awp_region (aR 1 (aL api_Spot.enc ql (aR 1 (aE ?_))))))
  refine awp_block (awp_to (st' := z223 ql (ql, 0)) (oT [] []) ?_)
  refine bE hF fun vl1_1 h3 hF => awp_sub (awp_loop' (z223 ql) z225 (z224 ql) (by intro x; exact fun h => nomatch h) h3 (z226 ql)) ?_
  exact oF hF [] []

/-! ### beaconfleet/base.Key -/
def z49 (qs : List UInt8) : Bool → St
  | vx => Mem.st ⟨[], []⟩ (tl [(0, .c (.s qs)), (21, .b vx)]) 0

def z48 (qs : List UInt8) : St := Mem.st ⟨[], []⟩ (tl [(0, .c (.s qs))]) 0

theorem z50 (qs : List UInt8) {r} (hF : z47 qs = some r) : Awp prog 0 54 (cL (cL (cR (cB f66)))) (Out 0 nrm (z49 qs) r) (z48 qs) := by
  unfold z47 at hF
  refine cE hF (fun h1 hF => ?_) fun h1 hF => ?_
  · refine awp_region (aR 1 (aB h1 (aR 15 (aE ?_))))
    exact oO hF [] [] rfl
  · refine cE hF (fun h2 hF => ?_) fun h2 hF => ?_
    · refine awp_region (aR 1 (aB h1 (aR 3 (aB h2 (aR 11 (aE ?_))))))
      exact oO hF [] [] rfl
    · refine bE hF fun vc h3 hF => cE hF (fun h4 hF => ?_) fun h4 hF => ?_
      · refine awp_region (aR 1 (aB h1 (aR 3 (aB h2 (aR 3 (aX (x_idxS h3) (aB h4 (aR 6 (aE ?_)))))))))
        exact oO hF [] [] rfl
      · refine awp_region (aR 1 (aB h1 (aR 3 (aB h2 (aR 3 (aX (x_idxS h3) (aB h4 (aR 3 (aX (x_idxS h3) (aR 2 (aE ?_)))))))))))
        exact oO hF [] [] rfl

def z58 (qs : List UInt8) (vx2 : Int) (vc2 : UInt8) : Bool → St
  | vx4 => Mem.st ⟨[], []⟩ (tl [(0, .c (.s qs)), (23, .i (qs.length : Int)), (24, .i vx2), (52, .b vx4)]) 0

def z57 (qs : List UInt8) (vx2 : Int) (vc2 : UInt8) : St := Mem.st ⟨[], []⟩ (tl [(0, .c (.s qs)), (4, .c (.d (.int .u8 (vc2.toNat : Int)))), (23, .i (qs.length : Int)), (24, .i vx2)]) 0

theorem z59 (qs : List UInt8) (vx2 : Int) (vc2 : UInt8) {r} (hF : z56 vc2 = some r) : Awp prog 0 54 (cL (cR (cR (cL (cL (cR (cR (cL (cL (cR (cL (cR (cR (cB f66)))))))))))))) (Out 0 nrm (z58 qs vx2 vc2) r) (z57 qs vx2 vc2) := by
  unfold z56 at hF
  refine cE hF (fun h9 hF => ?_) fun h9 hF => ?_
  · refine cE hF (fun h10 hF => ?_) fun h10 hF => ?_
    · refine awp_region (aR 1 (aB h9 (aR 2 (aB h10 (aR 18 (aE ?_))))))
      exact oO hF [] [] rfl
    · refine cE hF (fun h11 hF => ?_) fun h11 hF => ?_
      · refine cE hF (fun h12 hF => ?_) fun h12 hF => ?_
        · refine awp_region (aR 1 (aB h9 (aR 2 (aB h10 (aR 3 (aB h11 (aR 2 (aB h12 (aR 11 (aE ?_))))))))))
          exact oO hF [] [] rfl
        · refine cE hF (fun h13 hF => ?_) fun h13 hF => ?_
          · refine awp_region (aR 1 (aB h9 (aR 2 (aB h10 (aR 3 (aB h11 (aR 2 (aB h12 (aR 4 (aB h13 (aR 6 (aE ?_))))))))))))
            exact oO hF [] [] rfl
          · refine awp_region (aR 1 (aB h9 (aR 2 (aB h10 (aR 3 (aB h11 (aR 2 (aB h12 (aR 4 (aB h13 (aR 6 (aE ?_))))))))))))
            exact oO hF [] [] rfl
      · refine cE hF (fun h14 hF => ?_) fun h14 hF => ?_
        · refine awp_region (aR 1 (aB h9 (aR 2 (aB h10 (aR 3 (aB h11 (aR 7 (aB h14 (aR 6 (aE ?_))))))))))
          exact oO hF [] [] rfl
        · refine awp_region (aR 1 (aB h9 (aR 2 (aB h10 (aR 3 (aB h11 (aR 7 (aB h14 (aR 6 (aE ?_))))))))))
          exact oO hF [] [] rfl
  · refine cE hF (fun h15 hF => ?_) fun h15 hF => ?_
    · refine cE hF (fun h16 hF => ?_) fun h16 hF => ?_
      · refine awp_region (aR 1 (aB h9 (aR 6 (aB h15 (aR 2 (aB h16 (aR 11 (aE ?_))))))))
        exact oO hF [] [] rfl
      · refine cE hF (fun h17 hF => ?_) fun h17 hF => ?_
        · refine awp_region (aR 1 (aB h9 (aR 6 (aB h15 (aR 2 (aB h16 (aR 4 (aB h17 (aR 6 (aE ?_))))))))))
          exact oO hF [] [] rfl
        · refine awp_region (aR 1 (aB h9 (aR 6 (aB h15 (aR 2 (aB h16 (aR 4 (aB h17 (aR 6 (aE ?_))))))))))
          exact oO hF [] [] rfl
    · refine cE hF (fun h18 hF => ?_) fun h18 hF => ?_
      · refine awp_region (aR 1 (aB h9 (aR 6 (aB h15 (aR 7 (aB h18 (aR 6 (aE ?_))))))))
        exact oO hF [] [] rfl
      · refine awp_region (aR 1 (aB h9 (aR 6 (aB h15 (aR 7 (aB h18 (aR 6 (aE ?_))))))))
        exact oO hF [] [] rfl

def z54 : Unit ⊕ Unit → AEx
  | .inl _ => .exit 0
  | .inr _ => .ret

def z53 (qs : List UInt8) : Unit ⊕ Unit → St
  | .inl _ => Mem.st ⟨[], []⟩ (tl []) 0
  | .inr _ => Mem.st ⟨[], []⟩ (tl [(2, .b false)]) 0

def z52 (qs : List UInt8) : Int → St
  | vx2 => Mem.st ⟨[], []⟩ (tl [(0, .c (.s qs)), (23, .i (qs.length : Int)), (24, .i vx2)]) 0

theorem z55 (qs : List UInt8) (vx2 : Int) (r : (Int) ⊕ (Unit ⊕ Unit)) (hF : z51 qs vx2 = some r) : Awp prog 0 54 (cL (cL (cR (cL (cR (cR (cB f66))))))) (Out 0 (kk z54) (SS (z52 qs) (z53 qs)) r) (z52 qs vx2) := by
  unfold z51 at hF
  refine sR 1 (awp_seq (cE hF (fun h7 hF => ?_) fun h7 hF => ?_))
  · refine tT h7 (awp_skip (awp_seq (awp_block (sR 2 (awp_seq (bE hF fun vc2 h8 hF => awp_region (aR 2 (aX (x_idxS h8) (aR 1 (aE ?_))))))))))
    refine awp_seq (awp_to (st' := z57 qs vx2 vc2) (oT [] []) ?_)
    refine bE hF fun vx4_1 h19 hF => awp_sub (z59 qs vx2 vc2 h19) ?_
    refine cE hF (fun h20 hF => ?_) fun h20 hF => ?_
    · exact tT h20 (sR 1 (awp_ret (oO hF [] [] rfl)))
    · exact tF h20 (awp_skip (gR 2 (oO hF [] [] rfl)))
  · refine tF h7 (awp_exit ?_)
    exact oO hF [] [] rfl

def z45 (qs : List UInt8) (r : Bool) : TV × Mem := (.b r, ⟨[], []⟩)

theorem z46 {qs : List UInt8} {r} (hF : base_Key qs = some r) : Holds prog 66 [.c (.s qs)] ⟨[], []⟩ (Is (z45 qs r)) := by
  unfold base_Key at hF
  refine hW f66 54 0 0 ?_
  refine sR 1 (awp_seq (awp_seq (awp_to (st' := z48 qs) (oT [] []) ?_)))
  refine bE hF fun vx1 h5 hF => awp_sub (z50 qs h5) ?_
  refine cE hF (fun h6 hF => ?_) fun h6 hF => ?_
  · exact tT h6 (sR 1 (awp_ret (oF hF [] [])))
  · refine tF h6 (awp_skip (awp_seq (sR 3 (awp_block (awp_to (st' := z52 qs 0) (oT [] []) ?_)))))
    refine bE hF fun x h21 hF => ?_
    rcases x with _ | _
    · refine awp_sub (awp_loop' (z52 qs) z54 (z53 qs) (by intro x; rcases x with x | x <;> exact fun h => nomatch h) h21 (z55 qs)) ?_
      exact sR 1 (awp_ret (oF hF [] []))
    · refine awp_sub (awp_loop' (z52 qs) z54 (z53 qs) (by intro x; rcases x with x | x <;> exact fun h => nomatch h) h21 (z55 qs)) ?_
      exact oF hF [] []

/-! ### beaconfleet/base.Moment -/
def z61 (qn : Int) (r : Bool) : TV × Mem := (.b r, ⟨[], []⟩)

theorem z62 {qn : Int} {r} (hF : z60 qn = some r) : Holds prog 103 [.i qn] ⟨[], []⟩ (Is (z61 qn r)) := by
  unfold z60 at hF
  refine hW f103 6 0 0 ?_
  refine sR 1 (awp_seq (bE hF fun vr h1 hF => awp_region (aR 1 (aC (z88 h1) [] [] [] (aR 2 (aE ?_))))))
  exact awp_ret (oF hF [] [])

/-! ### beaconfleet/place.spot -/
def z605 (qx : api_Fix) (r : Unit) : TV × Mem := (.v (.agg [.i qx.X, .i qx.Y]), ⟨[], []⟩)

theorem z606 {qx : api_Fix} {r} (hF : z604 qx = some r) : Holds prog 36 [.v (.agg [.s qx.Device, .i qx.At, .i qx.X, .i qx.Y, .i qx.Error])] ⟨[], []⟩ (Is (z605 qx r)) := by
  unfold z604 at hF
  refine hW f36 8 0 0 ?_
  exact sR 2 (sR 6 (awp_ret (oF hF [] [])))

/-! ### internal/bytealg.CompareString -/
def z133 (qa : List UInt8) (qb : List UInt8) (r : Unit) : TV × Mem := (.i (Lib.compareBytes qa qb), ⟨[], []⟩)

theorem z134 {qa : List UInt8} {qb : List UInt8} {r} (hF : z132 qa qb = some r) : Holds prog 152 [.c (.s qa), .c (.s qb)] ⟨[], []⟩ (Is (z133 qa qb r)) := by
  unfold z132 at hF
  refine hW f152 8 0 0 ?_
  refine sR 1 (awp_seq (awp_region (aR 2 (aS (does_cmpstring (g := 181) (fn := f181) (a := qa) (b := qb) rfl (by kernel_rfl) (by kernel_rfl) (by kernel_rfl) (by kernel_rfl) (by kernel_rfl) (by kernel_rfl)) ?_))))
  refine aR 1 (aE ?_)
  exact awp_ret (oF hF [] [])

/-! ### strings.Compare -/
def z1199 (qa : List UInt8) (qb : List UInt8) (r : Unit) : TV × Mem := (.i (Lib.compareBytes qa qb), ⟨[], []⟩)

theorem z1200 {qa : List UInt8} {qb : List UInt8} {r} (hF : z1198 qa qb = some r) : Holds prog 106 [.c (.s qa), .c (.s qb)] ⟨[], []⟩ (Is (z1199 qa qb r)) := by
  unfold z1198 at hF
  refine hW f106 8 0 0 ?_
  refine sR 1 (awp_seq (bE hF fun _ h1 hF => awp_region (aR 2 (aC (z134 h1) [] [] [] (aR 1 (aE ?_))))))
  exact awp_ret (oF hF [] [])

/-! ### beaconfleet/place.byDevice -/
def z493 (qa : api_Fix) (qb : api_Fix) (r : Int) : TV × Mem := (.i r, ⟨[], []⟩)

theorem z494 {qa : api_Fix} {qb : api_Fix} {r} (hF : z492 qa qb = some r) : Holds prog 64 [.v (.agg [.s qa.Device, .i qa.At, .i qa.X, .i qa.Y, .i qa.Error]), .v (.agg [.s qb.Device, .i qb.At, .i qb.X, .i qb.Y, .i qb.Error])] ⟨[], []⟩ (Is (z493 qa qb r)) := by
  unfold z492 at hF
  refine hW f64 17 0 0 ?_
  refine sR 3 (awp_seq (bE hF fun _ h1 hF => bE hF fun vr h2 hF => bE hF fun vr1 h3 hF => aD ?_))
  refine dR 4 ?_
  refine dC (z1200 h1) [] [] [] ?_
  refine dR 4 ?_
  refine dC (z144 h2) [] [] [] ?_
  refine dR 1 ?_
  refine dC (z154 h3) [] [] [13000] ?_
  refine dR 1 ?_
  refine dE ?_
  exact awp_ret (oF hF [] [])

/-! ### beaconfleet/place.CheckFixes -/
def z407 (ql : List api_Fix) (vx : Int) (vy2 : api_Fix) : Bool → St
  | vx3 => Mem.st ⟨[], [(0, [.s vy2.Device, .i vy2.At, .i vy2.X, .i vy2.Y, .i vy2.Error])]⟩ (tl [(0, .c (.l api_Fix.enc ql)), (3, .i vx), (4, .c (.box 0 0)), (8, .c (.l api_Fix.enc ql)), (9, .i (ql.length : Int)), (10, .i vx), (20, .b vx3)]) 1

def z406 (ql : List api_Fix) (vx : Int) (vy2 : api_Fix) : St := Mem.st ⟨[], [(0, [.s vy2.Device, .i vy2.At, .i vy2.X, .i vy2.Y, .i vy2.Error])]⟩ (tl [(0, .c (.l api_Fix.enc ql)), (3, .i vx), (4, .c (.box 0 0)), (8, .c (.l api_Fix.enc ql)), (9, .i (ql.length : Int)), (10, .i vx)]) 1

theorem z408 (ql : List api_Fix) (vx : Int) (vy2 : api_Fix) {r} (hF : z405 vy2 = some r) : Awp prog 0 50 (cL (cR (cR (cL (cR (cL (cL (cR (cR (cL (cL (cR (cL (cR (cR (cB f61)))))))))))))))) (Out 0 nrm (z407 ql vx vy2) r) (z406 ql vx vy2) := by
  unfold z405 at hF
  refine bE hF fun vr1_1 h6 hF => cE hF (fun h7 hF => ?_) fun h7 hF => ?_
  · refine awp_region (aR 2 (aC (z62 h6) [] [] [] (aB h7 (aR 12 (aE ?_)))))
    exact oO hF [] [] rfl
  · refine bE hF fun _ h8 hF => bE hF fun vr2_2 h9 hF => cE hF (fun h10 hF => ?_) fun h10 hF => ?_
    · refine awp_region (aR 2 (aC (z62 h6) [] [] [] (aB h7 (aR 2 (aC (z606 h8) [] [] [] (aC (z576 h9) [] [] [] (aB h10 (aR 7 (aE ?_)))))))))
      exact oO hF [] [] rfl
    · refine bE hF fun vr5 h11 hF => awp_region (aR 2 (aC (z62 h6) [] [] [] (aB h7 (aR 2 (aC (z606 h8) [] [] [] (aC (z576 h9) [] [] [] (aB h10 (aR 4 (aC (z88 h11) [] [] [] (aR 2 (aE ?_)))))))))))
      exact oO hF [] [] rfl

def z411 (ql : List api_Fix) (vx : Int) (vy2 : api_Fix) : Bool → St
  | vx4 => Mem.st ⟨[], []⟩ (tl [(0, .c (.l api_Fix.enc ql)), (8, .c (.l api_Fix.enc ql)), (9, .i (ql.length : Int)), (10, .i vx), (36, .b vx4)]) 0

def z410 (ql : List api_Fix) (vx : Int) (vy2 : api_Fix) : St := Mem.st ⟨[], [(0, [.s vy2.Device, .i vy2.At, .i vy2.X, .i vy2.Y, .i vy2.Error])]⟩ (tl [(0, .c (.l api_Fix.enc ql)), (3, .i vx), (4, .c (.box 0 0)), (8, .c (.l api_Fix.enc ql)), (9, .i (ql.length : Int)), (10, .i vx)]) 1

theorem z412 (ql : List api_Fix) (vx : Int) (vy2 : api_Fix) {r} (hF : z409 ql vx vy2 = some r) : Awp prog 0 50 (cL (cR (cR (cR (cR (cL (cR (cL (cL (cR (cR (cL (cL (cR (cL (cR (cR (cB f61)))))))))))))))))) (Out 0 nrm (z411 ql vx vy2) r) (z410 ql vx vy2) := by
  unfold z409 at hF
  refine cE hF (fun h14 hF => ?_) fun h14 hF => ?_
  · refine bE hF fun vy3 h15 hF => bE hF fun vr2_3 h16 hF => aD ?_
    refine dR 1 ?_
    refine dB h14 ?_
    refine dR 5 ?_
    refine dX (x_idx api_Fix.enc h15) ?_
    refine dR 1 ?_
    refine dC (z494 h16) [] [] [] ?_
    refine dR 3 ?_
    refine dE ?_
    exact oO hF [] [] rfl
  · refine aD ?_
    refine dR 1 ?_
    refine dB h14 ?_
    refine dR 11 ?_
    refine dE ?_
    exact oO hF [] [] rfl

def z403 : Unit ⊕ Int → AEx
  | .inl _ => .exit 0
  | .inr _ => .ret

def z402 (ql : List api_Fix) : Unit ⊕ Int → St
  | .inl _ => Mem.st ⟨[], []⟩ (tl []) 0
  | .inr vx5 => Mem.st ⟨[], []⟩ (tl [(2, .i vx5)]) 0

def z401 (ql : List api_Fix) : Int → St
  | vx => Mem.st ⟨[], []⟩ (tl [(0, .c (.l api_Fix.enc ql)), (8, .c (.l api_Fix.enc ql)), (9, .i (ql.length : Int)), (10, .i vx)]) 0

theorem z404 (ql : List api_Fix) (vx : Int) (r : (Int) ⊕ (Unit ⊕ Int)) (hF : z400 ql vx = some r) : Awp prog 0 50 (cL (cL (cR (cL (cR (cR (cB f61))))))) (Out 0 (kk z403) (SS (z401 ql) (z402 ql)) r) (z401 ql vx) := by
  unfold z400 at hF
  refine sR 1 (awp_seq (cE hF (fun h2 hF => ?_) fun h2 hF => ?_))
  · refine tT h2 (awp_skip (awp_seq (awp_block (awp_seq (bE hF fun vy2 h3 hF => awp_region (aR 1 (aX (x_idx api_Fix.enc h3) (aR 4 (aE ?_)))))))))
    refine awp_block (awp_seq (bE hF fun vr4 h4 hF => awp_region (aR 2 (aC (z46 h4) [] [] [] (aR 2 (aE ?_))))))
    refine cE hF (fun h5 hF => ?_) fun h5 hF => ?_
    · exact tT h5 (sR 1 (awp_ret (oO hF [] [] rfl)))
    · refine tF h5 (awp_seq (awp_to (st' := z406 ql vx vy2) (oT [(0, 4000)] []) ?_))
      refine bE hF fun vx3_1 h12 hF => awp_sub (z408 ql vx vy2 h12) ?_
      refine cE hF (fun h13 hF => ?_) fun h13 hF => ?_
      · exact tT h13 (sR 1 (awp_ret (oO hF [] [] rfl)))
      · refine tF h13 (awp_seq (awp_to (st' := z410 ql vx vy2) (oT [] []) ?_))
        refine bE hF fun vx4_1 h17 hF => awp_sub (z412 ql vx vy2 h17) ?_
        refine cE hF (fun h18 hF => ?_) fun h18 hF => ?_
        · exact tT h18 (sR 1 (awp_ret (oO hF [] [] rfl)))
        · exact tF h18 (awp_skip (gR 2 (oO hF [] [] rfl)))
  · refine tF h2 (awp_exit ?_)
    exact oO hF [] [] rfl

def z390 (ql : List api_Fix) (r : Int) : TV × Mem := (.i r, ⟨[], []⟩)

theorem z399 {ql : List api_Fix} {r} (hF : z389 ql = some r) : Holds prog 61 [.c (.l api_Fix.enc ql)] ⟨[], []⟩ (Is (z390 ql r)) := by
  unfold z389 at hF
  refine hW f61 50 0 0 ?_
  refine sR 1 (awp_seq (awp_seq (awp_region (aR 1 (aL api_Fix.enc ql (aR 1 (aE ?_)))))))
  refine cE hF (fun h1 hF => ?_) fun h1 hF => ?_
  · exact tT h1 (sR 1 (awp_ret (oF hF [] [])))
  · refine tF h1 (awp_skip (awp_seq (awp_seq (awp_region (aR 1 (aL api_Fix.enc ql (aR 1 (aE ?_))))))))
    refine awp_block (awp_to (st' := z401 ql 0) (oT [] []) ?_)
    refine bE hF fun x h19 hF => ?_
    rcases x with _ | vx5_1
    · refine awp_sub (awp_loop' (z401 ql) z403 (z402 ql) (by intro x; rcases x with x | x <;> exact fun h => nomatch h) h19 (z404 ql)) ?_
      exact sR 1 (awp_ret (oF hF [] []))
    · refine awp_sub (awp_loop' (z401 ql) z403 (z402 ql) (by intro x; rcases x with x | x <;> exact fun h => nomatch h) h19 (z404 ql)) ?_
      exact oF hF [] []

/-! ### beaconfleet/place.CheckFixes -/
def z397 : Unit → AEx
  | _ => .exit 0

def z396 : Unit → St
  | _ => Mem.st ⟨[], []⟩ (tl []) 0

def z395 : Unit → St
  | _ => Mem.st ⟨[], []⟩ (tl [(0, .c (.nil)), (8, .c (.nil)), (9, .i 0), (10, .i 0)]) 0

theorem z398 (s : Unit) (r : (Unit) ⊕ (Unit)) (hF : z394  s = some r) : Awp prog 0 50 (cL (cL (cR (cL (cR (cR (cB f61))))))) (Out 0 (kk z397) (SS (z395 ) (z396 )) r) (z395  s) := by
  unfold z394 at hF
  refine sR 1 (awp_seq (cE hF (fun h2 hF => ?_) fun h2 hF => ?_))
  · exact tT h2 (awp_skip (awp_seq (awp_block (awp_seq (nE hF)))))
  · refine tF h2 (awp_exit ?_)
    exact oO hF [] [] rfl

def z392 (r : Int) : TV × Mem := (.i r, ⟨[], []⟩)

theorem z393 {r} (hF : z391 = some r) : Holds prog 61 [.c (.nil)] ⟨[], []⟩ (Is (z392  r)) := by
  unfold z391 at hF
  refine hW f61 50 0 0 ?_
  refine sR 1 (awp_seq (sR 3 (cE hF (fun h1 hF => ?_) fun h1 hF => ?_)))
  · exact tT h1 (sR 1 (awp_ret (oF hF [] [])))
  · refine tF h1 (awp_skip (awp_seq (sR 3 (awp_block (awp_to (st' := z395  ()) (oT [] []) ?_)))))
    refine bE hF fun _ h4 hF => awp_sub (awp_loop' (z395 ) z397 (z396 ) (by intro x; exact fun h => nomatch h) h4 (z398 )) ?_
    exact sR 1 (awp_ret (oF hF [] []))

/-! ### beaconfleet/base.First -/
def z33 : Unit ⊕ Int → AEx
  | .inl _ => .exit 0
  | .inr _ => .ret

def z32 (ql : List Int) : Unit ⊕ Int → St
  | .inl _ => Mem.st ⟨[], []⟩ (tl []) 0
  | .inr vx1 => Mem.st ⟨[], []⟩ (tl [(2, .i vx1)]) 0

def z31 (ql : List Int) : Int → St
  | vx => Mem.st ⟨[], []⟩ (tl [(5, .c (.l (encI .i64) ql)), (6, .i (ql.length : Int)), (7, .i vx)]) 0

theorem z34 (ql : List Int) (vx : Int) (r : (Int) ⊕ (Unit ⊕ Int)) (hF : z30 ql vx = some r) : Awp prog 0 15 (cL (cL (cR (cL (cR (cB f40)))))) (Out 0 (kk z33) (SS (z31 ql) (z32 ql)) r) (z31 ql vx) := by
  unfold z30 at hF
  refine sR 1 (awp_seq (cE hF (fun h1 hF => ?_) fun h1 hF => ?_))
  · refine tT h1 (awp_skip (awp_seq (awp_block (awp_seq (bE hF fun vy1 h2 hF => awp_region (aX (x_idx (encI .i64) h2) (aR 2 (aE ?_))))))))
    refine sR 2 (cE hF (fun h3 hF => ?_) fun h3 hF => ?_)
    · exact tT h3 (sR 2 (awp_ret (oO hF [] [] rfl)))
    · exact tF h3 (awp_skip (gR 2 (oO hF [] [] rfl)))
  · refine tF h1 (awp_exit ?_)
    exact oO hF [] [] rfl

def z28 (ql : List Int) (r : Int) : TV × Mem := (.i r, ⟨[], []⟩)

theorem z29 {ql : List Int} {r} (hF : z27 ql = some r) : Holds prog 40 [.c (.l (encI .i64) ql)] ⟨[], []⟩ (Is (z28 ql r)) := by
  unfold z27 at hF
  refine hW f40 15 0 0 ?_
  refine sR 1 (awp_seq (awp_seq (awp_region (aR 1 (aL (encI .i64) ql (aR 1 (aE ?_)))))))
  refine awp_block (awp_to (st' := z31 ql 0) (oT [] []) ?_)
  refine bE hF fun x h4 hF => ?_
  rcases x with _ | vx1_1
  · refine awp_sub (awp_loop' (z31 ql) z33 (z32 ql) (by intro x; rcases x with x | x <;> exact fun h => nomatch h) h4 (z34 ql)) ?_
    exact sR 1 (awp_ret (oF hF [] []))
  · refine awp_sub (awp_loop' (z31 ql) z33 (z32 ql) (by intro x; rcases x with x | x <;> exact fun h => nomatch h) h4 (z34 ql)) ?_
    exact oF hF [] []

/-! ### slices.Grow[[]beaconfleet/api.Fix,beaconfleet/api.Fix] -/
def z864 (qn : Int) : (List api_Fix) → St
  | vs => Mem.st ⟨[(0, ⟨33, 5, List.map api_Fix.enc vs⟩)], []⟩ (tl [(0, .c (.own 0 none))]) 1

def z863 (qn : Int) : St := Mem.st ⟨[], []⟩ (tl [(0, .c (.nil)), (1, .i qn)]) 0

theorem z865 (qn : Int) {r} (hF : z862 qn = some r) : Awp prog 0 27 (cL (cR (cR (cB f104)))) (Out 0 nrm (z864 qn) r) (z863 qn) := by
  unfold z862 at hF
  refine awp_seq (awp_region (aR 2 (aK rfl ?_)))
  refine aR 5 (aE ?_)
  refine sR 2 (cE hF (fun h3 hF => ?_) fun h3 hF => ?_)
  · refine tT h3 (gE hF fun h4 hF => ?_)
    refine gE hF fun h5 hF => ?_
    refine awp_region (aR 2 (aK rfl ?_))
    refine aSn rfl ?_
    refine aR 1 (aZ api_Fix.enc (api_Fix.mk ([] : List UInt8) 0 0 0 0) h4 rfl ?_)
    refine aR 2 (aT api_Fix.enc 15000 h5 rfl ?_)
    refine aR 1 (aE ?_)
    exact oO hF [(0, 18000)] [] rfl
  · exact tF h3 (awp_skip (oO hF [] [0] rfl))

def z860 (qn : Int) (r : (List api_Fix)) : TV × Mem := (.c (.own 0 none), ⟨[(0, ⟨33, 5, List.map api_Fix.enc r⟩)], []⟩)

theorem z861 {qn : Int} {r} (hF : z859 qn = some r) : Holds prog 104 [.c (.nil), .i qn] ⟨[], []⟩ (Is (z860 qn r)) := by
  unfold z859 at hF
  refine hW f104 27 0 0 ?_
  refine sR 1 (awp_seq (sR 2 (cE hF (fun h1 hF => ?_) fun h1 hF => ?_)))
  · exact tT h1 (nE hF)
  · refine tF h1 (awp_skip (awp_seq (awp_to (st' := z863 qn) (oT [] []) ?_)))
    refine bE hF fun vs1 h6 hF => awp_sub (z865 qn h6) ?_
    exact sR 2 (awp_ret (oF hF [] []))

/-! ### slices.Concat[[]beaconfleet/api.Fix,beaconfleet/api.Fix] -/
def z800 : Int → AEx
  | _ => .exit 0

def z799 (qslices : List (List api_Fix)) : Int → St
  | vsize1 => Mem.st ⟨[], []⟩ (tl [(0, .c (.l (encL api_Fix.enc) qslices)), (3, .i vsize1)]) 1

def z798 (qslices : List (List api_Fix)) : Int × Int → St
  | (vsize, vx) => Mem.st ⟨[], []⟩ (tl [(0, .c (.l (encL api_Fix.enc) qslices)), (3, .i vsize), (9, .c (.l (encL api_Fix.enc) qslices)), (10, .i (qslices.length : Int)), (11, .i vx)]) 1

theorem z801 (qslices : List (List api_Fix)) (s : Int × Int) (r : (Int × Int) ⊕ (Int)) (hF : z797 qslices s = some r) : Awp prog 1 36 (cL (cL (cR (cL (cR (cR (cB f62))))))) (Out 1 (kk z800) (SS (z798 qslices) (z799 qslices)) r) (z798 qslices s) := by
  obtain ⟨vsize, vx⟩ := s
  unfold z797 at hF
  refine sR 1 (awp_seq (cE hF (fun h1 hF => ?_) fun h1 hF => ?_))
  · refine tT h1 (awp_skip (awp_seq (awp_block (awp_seq (bE hF fun vy1 h2 hF => awp_region (aX (x_idx (encL api_Fix.enc) h2) (aR 2 (aE ?_))))))))
    refine awp_seq (awp_region (aR 2 (aL api_Fix.enc vy1 (aR 2 (aE ?_)))))
    refine sR 2 (cE hF (fun h3 hF => ?_) fun h3 hF => ?_)
    · exact tT h3 (nE hF)
    · exact tF h3 (awp_skip (gR 2 (oO hF [] [] rfl)))
  · refine tF h1 (awp_exit ?_)
    exact oO hF [] [] rfl

def z805 : (List api_Fix) → AEx
  | _ => .exit 2

def z804 (qslices : List (List api_Fix)) : (List api_Fix) → St
  | vnewslice1 => Mem.st ⟨[(1, ⟨33, 5, List.map api_Fix.enc vnewslice1⟩)], []⟩ (tl [(6, .c (.own 1 none))]) 2

def z803 (qslices : List (List api_Fix)) : (List api_Fix) × Int → St
  | (vnewslice, vx1) => Mem.st ⟨[(1, ⟨33, 5, List.map api_Fix.enc vnewslice⟩)], []⟩ (tl [(6, .c (.own 1 none)), (25, .c (.l (encL api_Fix.enc) qslices)), (26, .i (qslices.length : Int)), (27, .i vx1)]) 2

theorem z806 (qslices : List (List api_Fix)) (s : (List api_Fix) × Int) (r : ((List api_Fix) × Int) ⊕ ((List api_Fix))) (hF : z802 qslices s = some r) : Awp prog 1 36 (cL (cL (cR (cL (cR (cR (cR (cR (cB f62))))))))) (Out 1 (kk z805) (SS (z803 qslices) (z804 qslices)) r) (z803 qslices s) := by
  obtain ⟨vnewslice, vx1⟩ := s
  unfold z802 at hF
  refine sR 1 (awp_seq (cE hF (fun h7 hF => ?_) fun h7 hF => ?_))
  · refine tT h7 (awp_skip (awp_seq (awp_block (awp_seq (bE hF fun vy3 h8 hF => awp_region (aX (x_idx (encL api_Fix.enc) h8) (aR 2 (aE ?_))))))))
    refine gE hF fun h9 hF => ?_
    refine awp_region (aR 2 (aX (x_app api_Fix.enc 1 h9) (aR 1 (aE ?_))))
    exact gR 2 (oO hF [(1, 6002)] [] rfl)
  · refine tF h7 (awp_exit ?_)
    exact oO hF [] [] rfl

def z795 (qslices : List (List api_Fix)) (r : (List api_Fix)) : TV × Mem := (.c (.own 1 none), ⟨[(1, ⟨33, 5, List.map api_Fix.enc r⟩)], []⟩)

theorem z796 {qslices : List (List api_Fix)} {r} (hF : z794 qslices = some r) : Holds prog 62 [.c (.own 0 none)] ⟨[(0, ⟨30, 1, List.map (encL api_Fix.enc) qslices⟩)], []⟩ (Is (z795 qslices r)) := by
  unfold z794 at hF
  refine hW f62 36 1 1 ?_
  refine sR 1 (awp_to (oT (m := ⟨[], []⟩) (ts := [(0, .c (.l (encL api_Fix.enc) qslices))]) (nx := 1) [] []) ?_)
  refine sR 1 (awp_seq (awp_seq (awp_region (aR 1 (aL (encL api_Fix.enc) qslices (aR 1 (aE ?_)))))))
  refine awp_block (awp_to (st' := z798 qslices (0, 0)) (oT [] []) ?_)
  refine bE hF fun vsize1_1 h5 hF => awp_sub (awp_loop' (z798 qslices) z800 (z799 qslices) (by intro x; exact fun h => nomatch h) h5 (z801 qslices)) ?_
  refine awp_seq (bE hF fun vr h6 hF => awp_region (aR 1 (aC (z861 h6) [] [] [] (aR 1 (aE ?_)))))
  refine awp_seq (awp_seq (awp_region (aR 1 (aL (encL api_Fix.enc) qslices (aR 1 (aE ?_))))))
  refine awp_block (awp_to (st' := z803 qslices (vr, 0)) (oT [(1, 1001)] []) ?_)
  refine bE hF fun vnewslice1_1 h10 hF => awp_sub (awp_loop' (z803 qslices) z805 (z804 qslices) (by intro x; exact fun h => nomatch h) h10 (z806 qslices)) ?_
  exact sR 2 (awp_ret (oF hF [] []))

/-! ### slices.insertionSortCmpFunc[beaconfleet/api.Fix] -/
def z948 (qa : Int) (qb : Int) (vi : Int) (vl3 : List api_Fix) (vj1 : Int) : Bool → St
  | vx4 => Mem.st ⟨[(0, ⟨33, 5, List.map api_Fix.enc vl3⟩)], []⟩ (tl [(0, .c (.own 0 none)), (1, .i qa), (2, .i qb), (3, .c (.fn 64 [])), (8, .i vi), (9, .i vj1), (34, .b vx4)]) 1

def z947 (qa : Int) (qb : Int) (vi : Int) (vl3 : List api_Fix) (vj1 : Int) : St := Mem.st ⟨[(0, ⟨33, 5, List.map api_Fix.enc vl3⟩)], []⟩ (tl [(0, .c (.own 0 none)), (1, .i qa), (2, .i qb), (3, .c (.fn 64 [])), (8, .i vi), (9, .i vj1)]) 1

theorem z949 (qa : Int) (qb : Int) (vi : Int) (vl3 : List api_Fix) (vj1 : Int) {r} (hF : z946 qa vl3 vj1 = some r) : Awp prog 1 53 (cL (cL (cL (cL (cR (cL (cL (cR (cL (cL (cR (cB f150)))))))))))) (Out 1 nrm (z948 qa qb vi vl3 vj1) r) (z947 qa qb vi vl3 vj1) := by
  unfold z946 at hF
  refine cE hF (fun h2 hF => ?_) fun h2 hF => ?_
  · refine bE hF fun vy15 h3 hF => bE hF fun vy16 h4 hF => bE hF fun vr2_3 h5 hF => aD ?_
    refine dR 2 ?_
    refine dB h2 ?_
    refine dR 4 ?_
    refine dX (x_idxO api_Fix.enc 0 h3) ?_
    refine dX (x_ldE api_Fix.enc h3) ?_
    refine dR 3 ?_
    refine dX (x_idxO api_Fix.enc 0 h4) ?_
    refine dX (x_ldE api_Fix.enc h4) ?_
    refine dC (z494 h5) [] [] [] ?_
    refine dR 2 ?_
    refine dE ?_
    exact oO hF [] [] rfl
  · refine aD ?_
    refine dR 2 ?_
    refine dB h2 ?_
    refine dR 14 ?_
    refine dE ?_
    exact oO hF [] [] rfl

def z944 : (List api_Fix) → AEx
  | _ => .exit 2

def z943 (qa : Int) (qb : Int) (vi : Int) : (List api_Fix) → St
  | vl4 => Mem.st ⟨[(0, ⟨33, 5, List.map api_Fix.enc vl4⟩)], []⟩ (tl [(0, .c (.own 0 none)), (1, .i qa), (2, .i qb), (3, .c (.fn 64 [])), (8, .i vi)]) 1

def z942 (qa : Int) (qb : Int) (vi : Int) : (List api_Fix) × Int → St
  | (vl3, vj1) => Mem.st ⟨[(0, ⟨33, 5, List.map api_Fix.enc vl3⟩)], []⟩ (tl [(0, .c (.own 0 none)), (1, .i qa), (2, .i qb), (3, .c (.fn 64 [])), (8, .i vi), (9, .i vj1)]) 1

theorem z945 (qa : Int) (qb : Int) (vi : Int) (s : (List api_Fix) × Int) (r : ((List api_Fix) × Int) ⊕ ((List api_Fix))) (hF : z941 qa s = some r) : Awp prog 1 53 (cL (cL (cR (cL (cL (cR (cL (cL (cR (cB f150)))))))))) (Out 1 (kk z944) (SS (z942 qa qb vi) (z943 qa qb vi)) r) (z942 qa qb vi s) := by
  obtain ⟨vl3, vj1⟩ := s
  unfold z941 at hF
  refine awp_seq (awp_seq (awp_to (st' := z947 qa qb vi vl3 vj1) (oT [] []) ?_))
  refine bE hF fun vx4_1 h6 hF => awp_sub (z949 qa qb vi vl3 vj1 h6) ?_
  refine cE hF (fun h7 hF => ?_) fun h7 hF => ?_
  · refine tT h7 (awp_skip (awp_seq (awp_block (bE hF fun vy17 h8 hF => bE hF fun vy18 h9 hF => bE hF fun vy19 h10 hF => aDw [0] ?_))))
    refine dR 8 ?_
    refine dI api_Fix.enc 0 h8 rfl ?_
    refine dX (x_ldE api_Fix.enc h8) ?_
    refine dR 2 ?_
    refine dI api_Fix.enc 0 h9 rfl ?_
    refine dX (x_ldE api_Fix.enc h9) ?_
    refine dI api_Fix.enc 0 h9 rfl ?_
    refine dW api_Fix.enc vy17 h9 rfl ?_
    refine dI api_Fix.enc 0 h10 rfl ?_
    refine dW api_Fix.enc vy18 h10 rfl ?_
    refine dE ?_
    exact gR 3 (oO hF [] [] rfl)
  · refine tF h7 (awp_exit ?_)
    exact oO hF [] [] rfl

def z939 : (List api_Fix) → AEx
  | _ => .exit 0

def z938 (qa : Int) (qb : Int) : (List api_Fix) → St
  | vl5 => Mem.st ⟨[(0, ⟨33, 5, List.map api_Fix.enc vl5⟩)], []⟩ (tl []) 1

def z937 (qa : Int) (qb : Int) : (List api_Fix) × Int → St
  | (vl, vi) => Mem.st ⟨[(0, ⟨33, 5, List.map api_Fix.enc vl⟩)], []⟩ (tl [(0, .c (.own 0 none)), (1, .i qa), (2, .i qb), (3, .c (.fn 64 [])), (8, .i vi)]) 1

theorem z940 (qa : Int) (qb : Int) (s : (List api_Fix) × Int) (r : ((List api_Fix) × Int) ⊕ ((List api_Fix))) (hF : z936 qa qb s = some r) : Awp prog 1 53 (cL (cL (cR (cB f150)))) (Out 1 (kk z939) (SS (z937 qa qb) (z938 qa qb)) r) (z937 qa qb s) := by
  obtain ⟨vl, vi⟩ := s
  unfold z936 at hF
  refine awp_seq (sR 3 (cE hF (fun h1 hF => ?_) fun h1 hF => ?_))
  · refine tT h1 (awp_skip (awp_seq (awp_block (sR 2 (awp_block (awp_to (st' := z942 qa qb vi (vl, vi)) (oT [] []) ?_))))))
    refine bE hF fun vl4_1 h11 hF => awp_sub (awp_loop' (z942 qa qb vi) z944 (z943 qa qb vi) (by intro x; exact fun h => nomatch h) h11 (z945 qa qb vi)) ?_
    exact gR 3 (oO hF [] [] rfl)
  · refine tF h1 (awp_exit ?_)
    exact oO hF [] [] rfl

def z934 (qdata : List api_Fix) (qa : Int) (qb : Int) (r : (List api_Fix)) : TV × Mem := (.tup [], ⟨[(0, ⟨33, 5, List.map api_Fix.enc r⟩)], []⟩)

theorem z935 {qdata : List api_Fix} {qa : Int} {qb : Int} {r} (hF : z933 qdata qa qb = some r) : Holds prog 150 [.c (.own 0 none), .i qa, .i qb, .c (.fn 64 [])] ⟨[(0, ⟨33, 5, List.map api_Fix.enc qdata⟩)], []⟩ (Is (z934 qdata qa qb r)) := by
  unfold z933 at hF
  refine hW f150 53 1 1 ?_
  refine sR 3 (awp_block (awp_to (st' := z937 qa qb (qdata, IntKind.wrap .i64 (qa + 1))) (oT [] []) ?_))
  refine bE hF fun vl5_1 h12 hF => awp_sub (awp_loop' (z937 qa qb) z939 (z938 qa qb) (by intro x; exact fun h => nomatch h) h12 (z940 qa qb)) ?_
  exact oF hF [] []

/-! ### slices.stableCmpFunc[beaconfleet/api.Fix] -/
def z1031 : ((List api_Fix) × Int) → AEx
  | _ => .exit 0

def z1030 (qn : Int) : ((List api_Fix) × Int) → St
  | (vl1, va1) => Mem.st ⟨[(0, ⟨33, 5, List.map api_Fix.enc vl1⟩)], []⟩ (tl [(0, .c (.own 0 none)), (1, .i qn), (2, .c (.fn 64 [])), (6, .i 20), (7, .i va1)]) 1

def z1029 (qn : Int) : (List api_Fix) × Int × Int → St
  | (vl, va, vb) => Mem.st ⟨[(0, ⟨33, 5, List.map api_Fix.enc vl⟩)], []⟩ (tl [(0, .c (.own 0 none)), (1, .i qn), (2, .c (.fn 64 [])), (6, .i 20), (7, .i va), (8, .i vb)]) 1

theorem z1032 (qn : Int) (s : (List api_Fix) × Int × Int) (r : ((List api_Fix) × Int × Int) ⊕ (((List api_Fix) × Int))) (hF : z1028 qn s = some r) : Awp prog 1 63 (cL (cL (cL (cR (cR (cB f105)))))) (Out 1 (kk z1031) (SS (z1029 qn) (z1030 qn)) r) (z1029 qn s) := by
  obtain ⟨vl, va, vb⟩ := s
  unfold z1028 at hF
  refine awp_seq (sR 3 (cE hF (fun h1 hF => ?_) fun h1 hF => ?_))
  · refine tT h1 (awp_skip (awp_block (awp_seq (bE hF fun vl6_1 h2 hF => gE hF fun h3 hF => ?_))))
    refine awp_region (aR 4 (aCp (z935 h2) ⟨⟨rfl, rfl, pin1 h3⟩, trivial⟩ [] [] [] ?_))
    refine aE ?_
    exact sR 2 (gR 4 (oO hF [] [] rfl))
  · refine tF h1 (awp_exit ?_)
    exact oO hF [] [] rfl

def z1041 : Unit → AEx
  | _ => .exit 4

def z1040 (qn : Int) (vl6_2 : List api_Fix) (vblockSize : Int) : Unit → St
  | _ => Mem.st ⟨[(0, ⟨33, 5, List.map api_Fix.enc vl6_2⟩)], []⟩ (tl [(0, .c (.own 0 none)), (1, .i qn), (2, .c (.fn 64 [])), (6, .i vblockSize), (7, .i 0)]) 1

def z1039 (qn : Int) (vl6_2 : List api_Fix) (vblockSize : Int) : Unit → St
  | _ => Mem.st ⟨[(0, ⟨33, 5, List.map api_Fix.enc vl6_2⟩)], []⟩ (tl [(0, .c (.own 0 none)), (1, .i qn), (2, .c (.fn 64 [])), (6, .i vblockSize), (7, .i 0), (8, .i (IntKind.wrap .i64 ((2 : Int) * vblockSize)))]) 1

theorem z1042 (qn : Int) (vl6_2 : List api_Fix) (vblockSize : Int) (s : Unit) (r : (Unit) ⊕ (Unit)) (hF : z1038 qn vblockSize s = some r) : Awp prog 1 63 (cL (cL (cL (cR (cL (cR (cL (cL (cR (cR (cR (cR (cB f105))))))))))))) (Out 1 (kk z1041) (SS (z1039 qn vl6_2 vblockSize) (z1040 qn vl6_2 vblockSize)) r) (z1039 qn vl6_2 vblockSize s) := by
  unfold z1038 at hF
  refine awp_seq (sR 3 (cE hF (fun h8 hF => ?_) fun h8 hF => ?_))
  · exact tT h8 (awp_skip (awp_block (awp_seq (nE hF))))
  · refine tF h8 (awp_exit ?_)
    exact oO hF [] [] rfl

def z1036 : Unit → AEx
  | _ => .exit 2

def z1035 (qn : Int) (vl6_2 : List api_Fix) : Unit → St
  | _ => Mem.st ⟨[(0, ⟨33, 5, List.map api_Fix.enc vl6_2⟩)], []⟩ (tl []) 1

def z1034 (qn : Int) (vl6_2 : List api_Fix) : Int → St
  | vblockSize => Mem.st ⟨[(0, ⟨33, 5, List.map api_Fix.enc vl6_2⟩)], []⟩ (tl [(0, .c (.own 0 none)), (1, .i qn), (2, .c (.fn 64 [])), (6, .i vblockSize)]) 1

theorem z1037 (qn : Int) (vl6_2 : List api_Fix) (vblockSize : Int) (r : (Int) ⊕ (Unit)) (hF : z1033 qn vblockSize = some r) : Awp prog 1 63 (cL (cL (cR (cR (cR (cR (cB f105))))))) (Out 1 (kk z1036) (SS (z1034 qn vl6_2) (z1035 qn vl6_2)) r) (z1034 qn vl6_2 vblockSize) := by
  unfold z1033 at hF
  refine awp_seq (sR 3 (cE hF (fun h7 hF => ?_) fun h7 hF => ?_))
  · refine tT h7 (awp_skip (awp_block (sR 4 (awp_seq (awp_block (awp_to (st' := z1039 qn vl6_2 vblockSize ()) (oT [] []) ?_))))))
    refine bE hF fun _ h10 hF => awp_sub (awp_loop' (z1039 qn vl6_2 vblockSize) z1041 (z1040 qn vl6_2 vblockSize) (by intro x; exact fun h => nomatch h) h10 (z1042 qn vl6_2 vblockSize)) ?_
    refine awp_seq (sR 4 (sR 3 (cE hF (fun h11 hF => ?_) fun h11 hF => ?_)))
    · exact tT h11 (nE hF)
    · exact tF h11 (awp_skip (gR 3 (oO hF [] [] rfl)))
  · refine tF h7 (awp_exit ?_)
    exact oO hF [] [] rfl

def z1026 (qdata : List api_Fix) (qn : Int) (r : (List api_Fix)) : TV × Mem := (.tup [], ⟨[(0, ⟨33, 5, List.map api_Fix.enc r⟩)], []⟩)

theorem z1027 {qdata : List api_Fix} {qn : Int} {r} (hF : z1025 qdata qn = some r) : Holds prog 105 [.c (.own 0 none), .i qn, .c (.fn 64 [])] ⟨[(0, ⟨33, 5, List.map api_Fix.enc qdata⟩)], []⟩ (Is (z1026 qdata qn r)) := by
  unfold z1025 at hF
  refine hW f105 63 1 1 ?_
  refine sR 1 (sR 3 (awp_seq (awp_block (awp_to (st' := z1029 qn (qdata, 0, 20)) (oT [] []) ?_))))
  refine bE hF fun x h4 hF => ?_
  obtain ⟨vl1_1, va1_1⟩ := x
  refine awp_sub (awp_loop' (z1029 qn) z1031 (z1030 qn) (by intro x; exact fun h => nomatch h) h4 (z1032 qn)) ?_
  refine awp_seq (bE hF fun vl6_2 h5 hF => gE hF fun h6 hF => ?_)
  refine awp_region (aR 4 (aCp (z935 h5) ⟨⟨rfl, rfl, pin1 h6⟩, trivial⟩ [] [] [] ?_))
  refine aE ?_
  refine awp_block (awp_to (st' := z1034 qn vl6_2 20) (oT [] []) ?_)
  refine bE hF fun _ h13 hF => awp_sub (awp_loop' (z1034 qn vl6_2) z1036 (z1035 qn vl6_2) (by intro x; exact fun h => nomatch h) h13 (z1037 qn vl6_2)) ?_
  exact oF hF [] []

/-! ### slices.SortStableFunc[[]beaconfleet/api.Fix,beaconfleet/api.Fix] -/
def z928 (qx : List api_Fix) (r : (List api_Fix)) : TV × Mem := (.tup [], ⟨[(0, ⟨33, 5, List.map api_Fix.enc r⟩)], []⟩)

theorem z929 {qx : List api_Fix} {r} (hF : z927 qx = some r) : Holds prog 63 [.c (.own 0 none), .c (.fn 64 [])] ⟨[(0, ⟨33, 5, List.map api_Fix.enc qx⟩)], []⟩ (Is (z928 qx r)) := by
  unfold z927 at hF
  refine hW f63 9 1 1 ?_
  refine bE hF fun vl2 h1 hF => gE hF fun h2 hF => ?_
  refine awp_region (aR 2 (aL api_Fix.enc qx (aR 1 (aCp (z1027 h1) ⟨⟨rfl, rfl, pin1 h2⟩, trivial⟩ [] [] [] ?_))))
  refine aE ?_
  exact oF hF [] []

/-! ### slices.Compact[[]beaconfleet/api.Fix,beaconfleet/api.Fix] -/
def z758 (qs : List api_Fix) (vk : Int) (vl4 : List api_Fix) (vk6 : Int) (vk2_1 : Int) : ((List api_Fix) × Int) → St
  | (vl6, vk8) => Mem.st ⟨[(0, ⟨33, 5, List.map api_Fix.enc vl6⟩)], []⟩ (tl [(0, .c (.own 0 none)), (3, .i vk8), (4, .c (.view 0 vk.toNat ((qs.length : Int).toNat - vk.toNat))), (5, .i vk2_1)]) 1

def z757 (qs : List api_Fix) (vk : Int) (vl4 : List api_Fix) (vk6 : Int) (vk2_1 : Int) : St := Mem.st ⟨[(0, ⟨33, 5, List.map api_Fix.enc vl4⟩)], []⟩ (tl [(0, .c (.own 0 none)), (3, .i vk6), (4, .c (.view 0 vk.toNat ((qs.length : Int).toNat - vk.toNat))), (5, .i vk2_1)]) 1

theorem z759 (qs : List api_Fix) (vk : Int) (vl4 : List api_Fix) (vk6 : Int) (vk2_1 : Int) {r} (hF : z756 qs vk vl4 vk6 vk2_1 = some r) : Awp prog 1 61 (cL (cR (cL (cL (cR (cL (cR (cL (cR (cL (cL (cR (cL (cL (cR (cL (cR (cR (cB f65))))))))))))))))))) (Out 1 nrm (z758 qs vk vl4 vk6 vk2_1) r) (z757 qs vk vl4 vk6 vk2_1) := by
  unfold z756 at hF
  refine awp_block (awp_seq (gE hF fun h8 hF => ?_))
  refine bE hF fun vy13 h9 hF => gE hF fun h10 hF => ?_
  refine bE hF fun vy14 h11 hF => aD ?_
  refine dR 2 ?_
  refine dX (x_idxV api_Fix.enc 0 h8 h9) ?_
  refine dX (x_ldE api_Fix.enc h9) ?_
  refine dR 3 ?_
  refine dX (x_idxV api_Fix.enc 0 h10 h11) ?_
  refine dX (x_ldE api_Fix.enc h11) ?_
  refine dS (U := []) (stable_eqS (op := .neq) (xs := [.str vy13.Device, .int .i64 vy13.At, .int .i64 vy13.X, .int .i64 vy13.Y, .int .i64 vy13.Error]) (ys := [.str vy14.Device, .int .i64 vy14.At, .int .i64 vy14.X, .int .i64 vy14.Y, .int .i64 vy14.Error]) (b := (decide (vy13.Device = vy14.Device) && (decide (vy13.At = vy14.At) && (decide (vy13.X = vy14.X) && (decide (vy13.Y = vy14.Y) && (decide (vy13.Error = vy14.Error) && true)))))) (c := (!(decide (vy13.Device = vy14.Device) && (decide (vy13.At = vy14.At) && (decide (vy13.X = vy14.X) && (decide (vy13.Y = vy14.Y) && (decide (vy13.Error = vy14.Error) && true))))))) rfl (.inr ⟨rfl, rfl⟩) (by kernel_rfl) (by kernel_rfl) (by kernel_rfl) (by kernel_rfl) (by kernel_rfl) (by kernel_rfl)) ?_
  refine dE ?_
  refine cE hF (fun h12 hF => ?_) fun h12 hF => ?_
  · refine tT h12 (awp_seq (bE hF fun vy15 h13 hF => awp_region (aR 4 (aX (x_idxV api_Fix.enc 0 h8 h9) (aX (x_ldE api_Fix.enc h9) (aX (x_idxO api_Fix.enc 0 h13) (aX (x_stE api_Fix.enc vy13 h13) (aE ?_))))))))
    exact gR 3 (oO hF [] [] rfl)
  · exact tF h12 (awp_skip (oO hF [] [] rfl))

def z754 : ((List api_Fix) × Int) → AEx
  | _ => .exit 2

def z753 (qs : List api_Fix) (vk : Int) : ((List api_Fix) × Int) → St
  | (vl7, vk9) => Mem.st ⟨[(0, ⟨33, 5, List.map api_Fix.enc vl7⟩)], []⟩ (tl [(0, .c (.own 0 none)), (3, .i vk9)]) 1

def z752 (qs : List api_Fix) (vk : Int) : (List api_Fix) × Int × Int → St
  | (vl4, vk6, vk2_1) => Mem.st ⟨[(0, ⟨33, 5, List.map api_Fix.enc vl4⟩)], []⟩ (tl [(0, .c (.own 0 none)), (3, .i vk6), (4, .c (.view 0 vk.toNat ((qs.length : Int).toNat - vk.toNat))), (5, .i vk2_1)]) 1

theorem z755 (qs : List api_Fix) (vk : Int) (s : (List api_Fix) × Int × Int) (r : ((List api_Fix) × Int × Int) ⊕ (((List api_Fix) × Int))) (hF : z751 qs vk s = some r) : Awp prog 1 61 (cL (cL (cR (cL (cR (cL (cR (cL (cL (cR (cL (cL (cR (cL (cR (cR (cB f65))))))))))))))))) (Out 1 (kk z754) (SS (z752 qs vk) (z753 qs vk)) r) (z752 qs vk s) := by
  obtain ⟨vl4, vk6, vk2_1⟩ := s
  unfold z751 at hF
  refine awp_seq (sR 4 (cE hF (fun h7 hF => ?_) fun h7 hF => ?_))
  · refine tT h7 (awp_skip (awp_seq (awp_to (st' := z757 qs vk vl4 vk6 vk2_1) (oT [] []) ?_)))
    refine bE hF fun x h14 hF => ?_
    obtain ⟨vl6_1, vk8_1⟩ := x
    refine awp_sub (z759 qs vk vl4 vk6 vk2_1 h14) ?_
    exact gR 3 (oO hF [] [] rfl)
  · refine tF h7 (awp_exit ?_)
    exact oO hF [] [] rfl

def z749 : Unit ⊕ (List api_Fix) → AEx
  | .inl _ => .exit 0
  | .inr _ => .ret

def z748 (qs : List api_Fix) : Unit ⊕ (List api_Fix) → St
  | .inl _ => Mem.st ⟨[(0, ⟨33, 5, List.map api_Fix.enc qs⟩)], []⟩ (tl [(0, .c (.own 0 none))]) 1
  | .inr vx => Mem.st ⟨[(1, ⟨33, 5, List.map api_Fix.enc vx⟩)], []⟩ (tl [(2, .c (.own 1 none))]) 2

def z747 (qs : List api_Fix) : Int → St
  | vk => Mem.st ⟨[(0, ⟨33, 5, List.map api_Fix.enc qs⟩)], []⟩ (tl [(0, .c (.own 0 none)), (3, .i vk)]) 1

theorem z750 (qs : List api_Fix) (vk : Int) (r : (Int) ⊕ (Unit ⊕ (List api_Fix))) (hF : z746 qs vk = some r) : Awp prog 1 61 (cL (cL (cR (cL (cR (cR (cB f65))))))) (Out 1 (kk z749) (SS (z747 qs) (z748 qs)) r) (z747 qs vk) := by
  unfold z746 at hF
  refine awp_seq (awp_seq (awp_region (aR 2 (aL api_Fix.enc qs (aR 1 (aE ?_))))))
  refine cE hF (fun h2 hF => ?_) fun h2 hF => ?_
  · refine tT h2 (awp_skip (awp_seq (awp_block (awp_seq (bE hF fun vy8 h3 hF => bE hF fun vy9 h4 hF => aD ?_)))))
    refine dR 2 ?_
    refine dX (x_idxO api_Fix.enc 0 h3) ?_
    refine dX (x_ldE api_Fix.enc h3) ?_
    refine dR 3 ?_
    refine dX (x_idxO api_Fix.enc 0 h4) ?_
    refine dX (x_ldE api_Fix.enc h4) ?_
    refine dS (U := []) (stable_eqS (op := .eql) (xs := [.str vy8.Device, .int .i64 vy8.At, .int .i64 vy8.X, .int .i64 vy8.Y, .int .i64 vy8.Error]) (ys := [.str vy9.Device, .int .i64 vy9.At, .int .i64 vy9.X, .int .i64 vy9.Y, .int .i64 vy9.Error]) (b := (decide (vy8.Device = vy9.Device) && (decide (vy8.At = vy9.At) && (decide (vy8.X = vy9.X) && (decide (vy8.Y = vy9.Y) && (decide (vy8.Error = vy9.Error) && true)))))) (c := (decide (vy8.Device = vy9.Device) && (decide (vy8.At = vy9.At) && (decide (vy8.X = vy9.X) && (decide (vy8.Y = vy9.Y) && (decide (vy8.Error = vy9.Error) && true)))))) rfl (.inl ⟨rfl, rfl⟩) (by kernel_rfl) (by kernel_rfl) (by kernel_rfl) (by kernel_rfl) (by kernel_rfl) (by kernel_rfl)) ?_
    refine dE ?_
    refine cE hF (fun h5 hF => ?_) fun h5 hF => ?_
    · refine tT h5 (awp_seq (gE hF fun h6 hF => ?_))
      refine awp_region (aR 2 (aX (x_viewN api_Fix.enc 0 h6) (aR 1 (aE ?_))))
      refine awp_seq (sR 1 (awp_block (awp_to (st' := z752 qs vk (qs, vk, 1)) (oT [] []) ?_)))
      refine bE hF fun x h15 hF => ?_
      obtain ⟨vl7_1, vk9_1⟩ := x
      refine awp_sub (awp_loop' (z752 qs vk) z754 (z753 qs vk) (by intro x; exact fun h => nomatch h) h15 (z755 qs vk)) ?_
      refine awp_seq (gE hF fun h16 hF => ?_)
      refine awp_region (aR 2 (aX (x_viewN api_Fix.enc 0 h16) (aCl api_Fix.enc 0 (xs := vl7_1) (y := api_Fix.mk ([] : List UInt8) 0 0 0 0) (lo := vk9_1) (hi := (vl7_1.length : Int)) rfl ?_)))
      refine aE ?_
      refine awp_seq (gE hF fun h17 hF => ?_)
      refine awp_region (aR 2 (aT api_Fix.enc 0 h17 rfl ?_))
      refine aR 1 (aE ?_)
      exact awp_ret (oO hF [(1, 6001)] [] rfl)
    · exact tF h5 (awp_skip (gR 3 (oO hF [] [] rfl)))
  · refine tF h2 (awp_exit ?_)
    exact oO hF [] [] rfl

def z744 (qs : List api_Fix) (r : (List api_Fix)) : TV × Mem := (.c (.own 1 none), ⟨[(1, ⟨33, 5, List.map api_Fix.enc r⟩)], []⟩)

theorem z745 {qs : List api_Fix} {r} (hF : z743 qs = some r) : Holds prog 65 [.c (.own 0 none)] ⟨[(0, ⟨33, 5, List.map api_Fix.enc qs⟩)], []⟩ (Is (z744 qs r)) := by
  unfold z743 at hF
  refine hW f65 61 1 1 ?_
  refine sR 1 (awp_seq (awp_seq (awp_region (aR 1 (aL api_Fix.enc qs (aR 1 (aE ?_)))))))
  refine cE hF (fun h1 hF => ?_) fun h1 hF => ?_
  · exact tT h1 (sR 2 (awp_ret (oF hF [(1, 0)] [])))
  · refine tF h1 (awp_skip (awp_seq (sR 1 (awp_block (awp_to (st' := z747 qs 1) (oT [] []) ?_)))))
    refine bE hF fun x h18 hF => ?_
    rcases x with _ | vx1
    · refine awp_sub (awp_loop' (z747 qs) z749 (z748 qs) (by intro x; rcases x with x | x <;> exact fun h => nomatch h) h18 (z750 qs)) ?_
      exact sR 2 (awp_ret (oF hF [(1, 0)] []))
    · refine awp_sub (awp_loop' (z747 qs) z749 (z748 qs) (by intro x; rcases x with x | x <;> exact fun h => nomatch h) h18 (z750 qs)) ?_
      exact oF hF [] []

/-! ### beaconfleet/place.Merge -/
def z428 : Unit ⊕ Unit → AEx
  | .inl _ => .exit 0
  | .inr _ => .ret

def z427 (vr2 : List api_Fix) : Unit ⊕ Unit → St
  | .inl _ => Mem.st ⟨[(0, ⟨33, 5, List.map api_Fix.enc vr2⟩)], []⟩ (tl [(7, .c (.own 0 none))]) 1
  | .inr _ => Mem.st ⟨[], []⟩ (tl [(4, .c (.nil)), (5, .i 13)]) 0

def z426 (vr2 : List api_Fix) : Int → St
  | vi => Mem.st ⟨[(0, ⟨33, 5, List.map api_Fix.enc vr2⟩)], []⟩ (tl [(7, .c (.own 0 none)), (8, .i vi)]) 1

theorem z429 (vr2 : List api_Fix) (vi : Int) (r : (Int) ⊕ (Unit ⊕ Unit)) (hF : z425 vr2 vi = some r) : Awp prog 0 47 (cL (cL (cR (cL (cR (cR (cR (cR (cR (cB f20)))))))))) (Out 0 (kk z428) (SS (z426 vr2) (z427 vr2)) r) (z426 vr2 vi) := by
  unfold z425 at hF
  refine awp_seq (awp_seq (awp_region (aR 2 (aL api_Fix.enc vr2 (aR 1 (aE ?_))))))
  refine cE hF (fun h9 hF => ?_) fun h9 hF => ?_
  · refine tT h9 (awp_skip (awp_seq (awp_block (awp_seq (bE hF fun vy2 h10 hF => bE hF fun vy3 h11 hF => bE hF fun vr2_2 h12 hF => aD ?_)))))
    refine dR 3 ?_
    refine dX (x_idxO api_Fix.enc 0 h10) ?_
    refine dX (x_ldE api_Fix.enc h10) ?_
    refine dR 2 ?_
    refine dX (x_idxO api_Fix.enc 0 h11) ?_
    refine dX (x_ldE api_Fix.enc h11) ?_
    refine dC (z494 h12) [] [] [] ?_
    refine dR 1 ?_
    refine dE ?_
    refine cE hF (fun h13 hF => ?_) fun h13 hF => ?_
    · exact tT h13 (sR 2 (awp_ret (oO hF [] [] rfl)))
    · exact tF h13 (awp_skip (gR 3 (oO hF [] [] rfl)))
  · refine tF h9 (awp_exit ?_)
    exact oO hF [] [] rfl

def z423 (qa : List api_Fix) (r : (List api_Fix) × Int) : TV × Mem := (.tup [.one (.own 0 none), .one (.i r.2)], ⟨[(0, ⟨33, 5, List.map api_Fix.enc r.1⟩)], []⟩)

theorem z424 {qa : List api_Fix} {r} (hF : z422 qa = some r) : Holds prog 20 [.c (.l api_Fix.enc qa), .c (.nil)] ⟨[], []⟩ (Is (z423 qa r)) := by
  unfold z422 at hF
  refine hW f20 47 0 0 ?_
  refine sR 2 (awp_seq (awp_seq (bE hF fun vr6 h1 hF => bE hF fun vr h2 hF => bE hF fun vr1 h3 hF => awp_region (aR 1 (aC (z399 h1) [] [] [] (aR 1 (aC (z393 h2) [] [] [] (aR 1 (aC (z29 h3) [] [] [6000] (aR 1 ?_))))))))))
  refine aE ?_
  refine sR 2 (cE hF (fun h4 hF => ?_) fun h4 hF => ?_)
  · exact tT h4 (sR 3 (awp_ret (oF hF [] [0])))
  · refine tF h4 (awp_skip (awp_seq (bE hF fun vr1_1 h5 hF => awp_region (aR 3 (aC (z796 h5) [(0, 13000)] [] [] (aR 1 (aE ?_)))))))
    refine awp_seq (bE hF fun vl h6 hF => gE hF fun h7 hF => ?_)
    refine awp_region (aR 1 (aCp (z929 h6) ⟨⟨rfl, rfl, pin1 h7⟩, trivial⟩ [(0, 14001)] [] [] ?_))
    refine aE ?_
    refine awp_seq (bE hF fun vr2 h8 hF => awp_region (aR 1 (aC (z745 h8) [(0, 14001)] [] [] (aR 1 (aE ?_)))))
    refine awp_seq (sR 1 (awp_block (awp_to (st' := z426 vr2 1) (oT [(0, 19001)] []) ?_)))
    refine bE hF fun x h14 hF => ?_
    rcases x with _ | _
    · refine awp_sub (awp_loop' (z426 vr2) z428 (z427 vr2) (by intro x; rcases x with x | x <;> exact fun h => nomatch h) h14 (z429 vr2)) ?_
      refine awp_seq (awp_seq (awp_region (aR 1 (aL api_Fix.enc vr2 (aR 1 (aE ?_))))))
      refine cE hF (fun h15 hF => ?_) fun h15 hF => ?_
      · exact tT h15 (sR 2 (awp_ret (oF hF [] [0])))
      · exact tF h15 (awp_skip (sR 3 (awp_ret (oF hF [] []))))
    · refine awp_sub (awp_loop' (z426 vr2) z428 (z427 vr2) (by intro x; rcases x with x | x <;> exact fun h => nomatch h) h14 (z429 vr2)) ?_
      exact oF hF [] [0]

/-! ### beaconfleet/fleetkeep2.spoil[beaconfleet/api.Fix] -/
def z217 : (List api_Fix) → AEx
  | _ => .exit 0

def z216 (ql : List api_Fix) : (List api_Fix) → St
  | vl1 => Mem.st ⟨[(0, ⟨33, 5, List.map api_Fix.enc vl1⟩)], []⟩ (tl []) 1

def z215 (ql : List api_Fix) : (List api_Fix) × Int → St
  | (vl, vx) => Mem.st ⟨[(0, ⟨33, 5, List.map api_Fix.enc vl⟩)], [(1, [.s ([] : List UInt8), .i 0, .i 0, .i 0, .i 0])]⟩ (tl [(0, .c (.own 0 none)), (2, .c (.box 1 0)), (5, .i (ql.length : Int)), (6, .i vx)]) 2

theorem z218 (ql : List api_Fix) (s : (List api_Fix) × Int) (r : ((List api_Fix) × Int) ⊕ ((List api_Fix))) (hF : z214 ql s = some r) : Awp prog 1 14 (cL (cL (cR (cR (cB f21))))) (Out 1 (kk z217) (SS (z215 ql) (z216 ql)) r) (z215 ql s) := by
  obtain ⟨vl, vx⟩ := s
  unfold z214 at hF
  refine sR 1 (awp_seq (cE hF (fun h1 hF => ?_) fun h1 hF => ?_))
  · refine tT h1 (awp_skip (awp_seq (awp_block (sR 2 (bE hF fun vy1 h2 hF => awp_region (aR 3 (aX (x_idxO api_Fix.enc 0 h2) (aX (x_stE api_Fix.enc (api_Fix.mk ([] : List UInt8) 0 0 0 0) h2) (aE ?_)))))))))
    exact gR 2 (oO hF [] [] rfl)
  · refine tF h1 (awp_exit ?_)
    exact oO hF [] [] rfl

def z212 (ql : List api_Fix) (r : (List api_Fix)) : TV × Mem := (.tup [], ⟨[(0, ⟨33, 5, List.map api_Fix.enc r⟩)], []⟩)

theorem z213 {ql : List api_Fix} {r} (hF : z211 ql = some r) : Holds prog 21 [.c (.own 0 none)] ⟨[(0, ⟨33, 5, List.map api_Fix.enc ql⟩)], []⟩ (Is (z212 ql r)) := by
  unfold z211 at hF
  refine hW f21 14 1 1 ?_
  refine sR 1 (awp_seq (awp_region (aR 1 (aL api_Fix.enc ql (aR 1 (aE ?_))))))
  refine awp_block (awp_to (st' := z215 ql (ql, 0)) (oT [] []) ?_)
  refine bE hF fun vl1_1 h3 hF => awp_sub (awp_loop' (z215 ql) z217 (z216 ql) (by intro x; exact fun h => nomatch h) h3 (z218 ql)) ?_
  exact oF hF [] []

/-! ### beaconfleet/place.Of -/
def z439 (ql : List api_Fix) (qdevice : List UInt8) (vout : List api_Fix) (vx : Int) : (List api_Fix) → St
  | vout2 => Mem.st ⟨[(0, ⟨33, 5, List.map api_Fix.enc vout2⟩)], []⟩ (tl [(1, .c (.s qdevice)), (7, .c (.own 0 none)), (18, .c (.l api_Fix.enc ql)), (19, .i (ql.length : Int)), (20, .i vx)]) 1

def z438 (ql : List api_Fix) (qdevice : List UInt8) (vout : List api_Fix) (vx : Int) : St := Mem.st ⟨[(0, ⟨33, 5, List.map api_Fix.enc vout⟩)], []⟩ (tl [(1, .c (.s qdevice)), (7, .c (.own 0 none)), (18, .c (.l api_Fix.enc ql)), (19, .i (ql.length : Int)), (20, .i vx)]) 1

theorem z440 (ql : List api_Fix) (qdevice : List UInt8) (vout : List api_Fix) (vx : Int) {r} (hF : z437 ql qdevice vout vx = some r) : Awp prog 0 34 (cL (cR (cR (cL (cL (cR (cL (cR (cR (cR (cR (cB f22)))))))))))) (Out 0 nrm (z439 ql qdevice vout vx) r) (z438 ql qdevice vout vx) := by
  unfold z437 at hF
  refine awp_block (awp_seq (bE hF fun vy1 h6 hF => awp_region (aX (x_idx api_Fix.enc h6) (aR 3 (aE ?_)))))
  refine sR 4 (cE hF (fun h7 hF => ?_) fun h7 hF => ?_)
  · refine tT h7 (gE hF fun h8 hF => ?_)
    refine awp_region (aR 3 (aX (x_app api_Fix.enc 0 h8) (aR 1 (aE ?_))))
    exact oO hF [(0, 11001)] [] rfl
  · exact tF h7 (awp_skip (oO hF [] [] rfl))

def z435 : (List api_Fix) → AEx
  | _ => .exit 0

def z434 (ql : List api_Fix) (qdevice : List UInt8) : (List api_Fix) → St
  | vout3 => Mem.st ⟨[(0, ⟨33, 5, List.map api_Fix.enc vout3⟩)], []⟩ (tl [(7, .c (.own 0 none))]) 1

def z433 (ql : List api_Fix) (qdevice : List UInt8) : (List api_Fix) × Int → St
  | (vout, vx) => Mem.st ⟨[(0, ⟨33, 5, List.map api_Fix.enc vout⟩)], []⟩ (tl [(1, .c (.s qdevice)), (7, .c (.own 0 none)), (18, .c (.l api_Fix.enc ql)), (19, .i (ql.length : Int)), (20, .i vx)]) 1

theorem z436 (ql : List api_Fix) (qdevice : List UInt8) (s : (List api_Fix) × Int) (r : ((List api_Fix) × Int) ⊕ ((List api_Fix))) (hF : z432 ql qdevice s = some r) : Awp prog 0 34 (cL (cL (cR (cL (cR (cR (cR (cR (cB f22))))))))) (Out 0 (kk z435) (SS (z433 ql qdevice) (z434 ql qdevice)) r) (z433 ql qdevice s) := by
  obtain ⟨vout, vx⟩ := s
  unfold z432 at hF
  refine sR 1 (awp_seq (cE hF (fun h5 hF => ?_) fun h5 hF => ?_))
  · refine tT h5 (awp_skip (awp_seq (awp_to (st' := z438 ql qdevice vout vx) (oT [] []) ?_)))
    refine bE hF fun vout2_1 h9 hF => awp_sub (z440 ql qdevice vout vx h9) ?_
    exact gR 2 (oO hF [] [] rfl)
  · refine tF h5 (awp_exit ?_)
    exact oO hF [] [] rfl

def z430 (ql : List api_Fix) (qdevice : List UInt8) (r : (List api_Fix) × Int) : TV × Mem := (.tup [.one (.own 0 none), .one (.i r.2)], ⟨[(0, ⟨33, 5, List.map api_Fix.enc r.1⟩)], []⟩)

theorem z431 {ql : List api_Fix} {qdevice : List UInt8} {r} (hF : place_Of ql qdevice = some r) : Holds prog 22 [.c (.l api_Fix.enc ql), .c (.s qdevice)] ⟨[], []⟩ (Is (z430 ql qdevice r)) := by
  unfold place_Of at hF
  refine hW f22 34 0 0 ?_
  refine sR 2 (awp_seq (awp_seq (bE hF fun vr6 h1 hF => awp_region (aR 1 (aC (z399 h1) [] [] [] (aR 1 (aE ?_)))))))
  refine sR 2 (cE hF (fun h2 hF => ?_) fun h2 hF => ?_)
  · exact tT h2 (sR 3 (awp_ret (oF hF [] [0])))
  · refine tF h2 (awp_skip (awp_seq (awp_seq (bE hF fun vr h3 hF => awp_region (aR 1 (aC (z46 h3) [] [] [] (aR 1 (aE ?_))))))))
    refine cE hF (fun h4 hF => ?_) fun h4 hF => ?_
    · exact tT h4 (sR 2 (awp_ret (oF hF [] [0])))
    · refine tF h4 (awp_skip (sR 1 (awp_seq (awp_seq (awp_region (aR 1 (aL api_Fix.enc ql (aR 1 (aE ?_)))))))))
      refine awp_block (awp_to (st' := z433 ql qdevice ([], 0)) (oT [] [0]) ?_)
      refine bE hF fun vout3_1 h10 hF => awp_sub (awp_loop' (z433 ql qdevice) z435 (z434 ql qdevice) (by intro x; exact fun h => nomatch h) h10 (z436 ql qdevice)) ?_
      exact sR 3 (awp_ret (oF hF [] []))

/-! ### beaconfleet/place.trackFault$1 -/
def z625 (qx : api_Fix) (qx1 : List api_Fix) (r : Bool) : TV × Mem := (.b r, ⟨[], [(0, [.l api_Fix.enc qx1])]⟩)

theorem z626 {qx : api_Fix} {qx1 : List api_Fix} {r} (hF : z624 qx qx1 = some r) : Holds prog 75 [.v (.agg [.s qx.Device, .i qx.At, .i qx.X, .i qx.Y, .i qx.Error]), .c (.box 0 0)] ⟨[], [(0, [.l api_Fix.enc qx1])]⟩ (Is (z625 qx qx1 r)) := by
  unfold z624 at hF
  refine hW f75 11 1 1 ?_
  refine sR 2 (awp_seq (bE hF fun vy h1 hF => aD ?_))
  refine dR 3 ?_
  refine dX (x_idx api_Fix.enc h1) ?_
  refine dR 4 ?_
  refine dE ?_
  exact awp_ret (oF hF [] [])

end Go.Eng
