/-
The code of the Go functions that the law CommandsStay reaches does what the plain functions say, part 1.
-/
import Derived.Test.YtfbeijbgfhelfaaGreatDoorGenF

import Derived.Test.YtfbeijbgfhelfaaGreatDoorEng9

import Derived.Test.YtfbeijbgfhelfaaGreatDoorGenS

import Derived.Test.YtfbeijbgfhelfaaGreatDoorProg

import Derived.KernelRfl

namespace Go.Eng

open Go Go.Proofs.Tryz

set_option linter.unusedVariables false

set_option maxRecDepth 20000

set_option maxHeartbeats 0

def ti2 : TI := ⟨1, 8, [.d (.int .i64 0)], false, .int .i64⟩

def ti3 : TI := ⟨1, 8, [.d (.int .i64 0)], false, .int .i64⟩

def ti4 : TI := ⟨1, 1, [.d (.bool false)], false, .bool⟩

def ti5 : TI := ⟨1, 1, [.d (.int .u8 0)], false, .int .u8⟩

def ti9 : TI := ⟨1, 16, [.d (.str [])], false, .str⟩

def ti21 : TI := ⟨1, 4, [.d (.int .i32 0)], false, .int .i32⟩

def ti22 : TI := ⟨1, 24, [.nil], false, .slice 3⟩

def ti25 : TI := ⟨2, 32, [.nil, .d (.int .i64 0)], true, .struct [(0, 22), (1, 3)]⟩

def ti27 : TI := ⟨1, 8, [.nilp], false, .ptr⟩

def ti28 : TI := ⟨1, 8, [.d (.int .i64 0)], false, .int .i64⟩

def ti34 : TI := ⟨1, 24, [.nil], false, .slice 40⟩

def ti36 : TI := ⟨3, 40, [.d (.int .i64 0), .nil, .d (.int .i64 0)], true, .struct [(0, 3), (1, 34), (2, 3)]⟩

def ti40 : TI := ⟨6, 72, [.d (.str []), .d (.str []), .d (.str []), .d (.int .i64 0), .d (.int .i64 0), .d (.int .i64 0)], true, .struct [(0, 9), (1, 9), (2, 9), (3, 3), (4, 3), (5, 3)]⟩

def ti45 : TI := ⟨1, 24, [.nil], false, .slice 9⟩

def ti49 : TI := ⟨4, 32, [.d (.int .i64 0), .d (.int .i64 0), .d (.int .i64 0), .d (.int .i64 0)], true, .struct [(0, 3), (1, 3), (2, 3), (3, 3)]⟩

def ti51 : TI := ⟨1, 8, [.nilp], false, .ptr⟩

def ti56 : TI := ⟨1, 24, [.nil], false, .slice 65⟩

def ti65 : TI := ⟨9, 96, [.d (.str []), .d (.str []), .d (.str []), .d (.int .i64 0), .d (.int .i64 0), .d (.int .i64 0), .d (.int .i64 0), .d (.int .i64 0), .d (.int .i64 0)], true, .struct [(0, 40), (6, 3), (7, 3), (8, 3)]⟩

def ti75 : TI := ⟨1, 24, [.nil], false, .slice 152⟩

def ti77 : TI := ⟨2, 48, [.nil, .nil], true, .struct [(0, 75), (1, 75)]⟩

def ti80 : TI := ⟨3, 32, [.d (.int .i64 0), .d (.str []), .d (.int .i64 0)], true, .struct [(0, 3), (1, 9), (2, 3)]⟩

def ti82 : TI := ⟨1, 24, [.nil], false, .slice 92⟩

def ti90 : TI := ⟨4, 40, [.d (.int .i64 0), .d (.bool false), .d (.int .i64 0), .d (.str [])], true, .struct [(0, 3), (1, 4), (2, 3), (3, 9)]⟩

def ti92 : TI := ⟨9, 96, [.d (.str []), .d (.int .i64 0), .d (.bool false), .d (.int .i64 0), .d (.str []), .d (.int .i64 0), .d (.bool false), .d (.int .i64 0), .d (.str [])], true, .struct [(0, 9), (1, 90), (5, 90)]⟩

def ti109 : TI := ⟨1, 24, [.nil], false, .slice 117⟩

def ti111 : TI := ⟨3, 40, [.d (.int .i64 0), .nil, .d (.int .i64 0)], true, .struct [(0, 3), (1, 109), (2, 3)]⟩

def ti117 : TI := ⟨2, 24, [.d (.str []), .d (.int .i64 0)], true, .struct [(0, 9), (1, 3)]⟩

def ti124 : TI := ⟨1, 8, [.nilm], false, .map 9 65⟩

def ti126 : TI := ⟨6, 48, [.d (.int .i64 0), .d (.int .i64 0), .d (.int .i64 0), .d (.int .i64 0), .nilm, .d (.int .i64 0)], true, .struct [(0, 49), (4, 124), (5, 3)]⟩

def ti145 : TI := ⟨1, 8, [.d (.int .u64 0)], false, .int .u64⟩

def ti147 : TI := ⟨1, 24, [.nil], false, .slice 150⟩

def ti150 : TI := ⟨5, 56, [.d (.str []), .d (.int .i64 0), .d (.bool false), .d (.int .i64 0), .d (.str [])], true, .struct [(0, 9), (1, 90)]⟩

def ti152 : TI := ⟨8, 88, [.d (.str []), .d (.int .i64 0), .d (.bool false), .d (.int .i64 0), .d (.str []), .d (.int .i64 0), .d (.str []), .d (.int .i64 0)], true, .struct [(0, 150), (5, 80)]⟩

def ti154 : TI := ⟨1, 8, [.undef], false, .other⟩

def ti162 : TI := ⟨1, 8, [.nilm], false, .map 9 90⟩

def ti174 : TI := ⟨1, 24, [.nil], false, .slice 28⟩

def ti179 : TI := ⟨1, 24, [.nil], false, .slice 5⟩

def ti183 : TI := ⟨4, 48, [.d (.str []), .d (.str []), .d (.int .i64 0), .d (.int .i64 0)], true, .struct [(0, 9), (1, 9), (2, 3), (3, 3)]⟩

def ti184 : TI := ⟨1, 24, [.nil], false, .slice 183⟩

def ti186 : TI := ⟨3, 24, [.d (.int .i64 0), .d (.int .i64 0), .d (.int .i64 0)], true, .struct [(0, 3), (1, 3), (2, 3)]⟩

def ti192 : TI := ⟨2, 16, [.d (.int .i64 0), .d (.int .i64 0)], true, .struct [(0, 3), (1, 3)]⟩

def ti205 : TI := ⟨1, 16, [.nili], false, .other⟩

def ti233 : TI := ⟨1, 8, [.d (.int .u64 0)], false, .int .u64⟩

def ti237 : TI := ⟨1, 24, [.nil], false, .slice 147⟩

def ti249 : TI := ⟨1, 8, [.nilm], false, .map 9 152⟩

def ti257 : TI := ⟨1, 24, [.nil], false, .slice 56⟩

def ti290 : TI := ⟨1, 24, [.nil], false, .slice 75⟩

def Γ : Types := [(2, ti2), (3, ti3), (4, ti4), (5, ti5), (9, ti9), (21, ti21), (22, ti22), (25, ti25), (27, ti27), (28, ti28), (34, ti34), (36, ti36), (40, ti40), (45, ti45), (49, ti49), (51, ti51), (56, ti56), (65, ti65), (75, ti75), (77, ti77), (80, ti80), (82, ti82), (90, ti90), (92, ti92), (109, ti109), (111, ti111), (117, ti117), (124, ti124), (126, ti126), (145, ti145), (147, ti147), (150, ti150), (152, ti152), (154, ti154), (162, ti162), (174, ti174), (179, ti179), (183, ti183), (184, ti184), (186, ti186), (192, ti192), (205, ti205), (233, ti233), (237, ti237), (249, ti249), (257, ti257), (290, ti290)]

theorem hΓ : TypesOk prog Γ := typesOk_of (by kernel_rfl)

instance : TOk prog Γ := ⟨hΓ⟩

theorem hm : prog.follows .mixedOrders = true := by kernel_rfl

instance : Mixed prog := ⟨hm⟩

/-! ### beaconfleet/fleetmake.Below -/
def z475 (qx : Int) (qn : Int) : Int → St
  | vx => Mem.st ⟨[], []⟩ (tl [(0, .i vx)]) 0

def z474 (qx : Int) (qn : Int) : St := Mem.st ⟨[], []⟩ (tl [(0, .i (qx.tmod qn)), (1, .i qn)]) 0

theorem z476 (qx : Int) (qn : Int) {r} (hF : z473 qx qn = some r) : Awp prog 0 16 (cL (cR (cR (cR (cB f152))))) (Out 0 nrm (z475 qx qn) r) (z474 qx qn) := by
  unfold z473 at hF
  refine sR 2 (cE hF (fun h3 hF => ?_) fun h3 hF => ?_)
  · exact tT h3 (gR 4 (oO hF [] [] rfl))
  · exact tF h3 (awp_skip (oO hF [] [] rfl))

def z471 (qx : Int) (qn : Int) (r : Int) : TV × Mem := (.i r, ⟨[], []⟩)

theorem z472 {qx : Int} {qn : Int} {r} (hF : z470 qx qn = some r) : Holds prog 152 [.i qx, .i qn] ⟨[], []⟩ (Is (z471 qx qn r)) := by
  unfold z470 at hF
  refine hW f152 16 0 0 ?_
  refine sR 1 (awp_seq (sR 2 (cE hF (fun h1 hF => ?_) fun h1 hF => ?_)))
  · exact tT h1 (sR 1 (awp_ret (oF hF [] [])))
  · refine tF h1 (awp_skip (awp_seq (gE hF fun h2 hF => ?_)))
    refine awp_region (aR 2 (aX (x_rem h2) (aR 1 (aE ?_))))
    refine awp_seq (awp_to (st' := z474 qx qn) (oT [] []) ?_)
    refine bE hF fun vx1 h4 hF => awp_sub (z476 qx qn h4) ?_
    exact sR 2 (awp_ret (oF hF [] []))

/-! ### (*beaconfleet/fleetmake.Stream).Next -/
def z507 (qs : z477) (qn : Int) (r : Int) : TV × Mem := (.i r, ⟨[], [(0, [.l (encI .i64) qs.L, .i (IntKind.wrap .i64 (qs.at_ + 1))])]⟩)

theorem z508 {qs : z477} {qn : Int} {r} (hF : z506 qs qn = some r) : Holds prog 54 [.c (.box 0 0), .i qn] ⟨[], [(0, [.l (encI .i64) qs.L, .i qs.at_])]⟩ (Is (z507 qs qn r)) := by
  unfold z506 at hF
  refine hW f54 64 1 1 ?_
  refine sR 1 (sR 8 (awp_seq (awp_seq (awp_region (aR 4 (aL (encI .i64) qs.L (aR 1 (aE ?_))))))))
  refine cE hF (fun h1 hF => ?_) fun h1 hF => ?_
  · refine tT h1 (awp_seq (bE hF fun vr h2 hF => awp_region (aR 6 (aC (z472 h2) [] [] [] (aR 1 (aE ?_))))))
    exact awp_ret (oF hF [] [])
  · refine tF h1 (awp_skip (awp_seq (gE hF fun h3 hF => ?_)))
    refine aD ?_
    refine dR 9 ?_
    refine dL (encI .i64) qs.L ?_
    refine dX (x_rem h3) ?_
    refine dR 1 ?_
    refine dE ?_
    refine awp_seq (aD ?_)
    refine dR 9 ?_
    refine dL (encI .i64) qs.L ?_
    refine dX (x_quo h3) ?_
    refine dR 1 ?_
    refine dE ?_
    refine awp_seq (bE hF fun vy h4 hF => bE hF fun vr1 h5 hF => bE hF fun vr2 h6 hF => awp_region (aR 5 (aX (x_idx (encI .i64) h4) (aR 1 (aC (z472 h5) [] [] [] (aR 6 (aC (z472 h6) [] [] [] (aR 1 (aE ?_)))))))))
    exact awp_ret (oF hF [] [])

/-! ### (*beaconfleet/fleetmake.Stream).Pick -/
def z529 (qs : z477) (ql : List Int) (r : Int) : TV × Mem := (.i r, ⟨[], [(0, [.l (encI .i64) qs.L, .i (IntKind.wrap .i64 (qs.at_ + 1))])]⟩)

theorem z530 {qs : z477} {ql : List Int} {r} (hF : z528 qs ql = some r) : Holds prog 9 [.c (.box 0 0), .c (.own 1 none)] ⟨[(1, ⟨3, 1, List.map (encI .i64) ql⟩)], [(0, [.l (encI .i64) qs.L, .i qs.at_])]⟩ (Is (z529 qs ql r)) := by
  unfold z528 at hF
  refine hW f9 12 2 2 ?_
  refine sR 1 (awp_to (oT (m := ⟨[], [(0, [.l (encI .i64) qs.L, .i qs.at_])]⟩) (ts := [(0, .c (.box 0 0)), (1, .c (.l (encI .i64) ql))]) (nx := 2) [] []) ?_)
  refine awp_seq (bE hF fun vr3 h1 hF => bE hF fun vy h2 hF => awp_region (aR 3 (aL (encI .i64) ql (aC (z508 h1) [] [] [] (aX (x_idx (encI .i64) h2) (aR 2 (aE ?_)))))))
  exact awp_ret (oF hF [] [])

/-! ### beaconfleet/base.Out -/
def z79 (qn : Int) (qlow : Int) (qhigh : Int) : Bool → St
  | vx => Mem.st ⟨[], []⟩ (tl [(6, .b vx)]) 0

def z78 (qn : Int) (qlow : Int) (qhigh : Int) : St := Mem.st ⟨[], []⟩ (tl [(0, .i qn), (1, .i qlow), (2, .i qhigh)]) 0

theorem z80 (qn : Int) (qlow : Int) (qhigh : Int) {r} (hF : z77 qn qlow qhigh = some r) : Awp prog 0 15 (cL (cR (cB f64))) (Out 0 nrm (z79 qn qlow qhigh) r) (z78 qn qlow qhigh) := by
  unfold z77 at hF
  refine cE hF (fun h1 hF => ?_) fun h1 hF => ?_
  · refine awp_region (aR 2 (aB h1 (aR 6 (aE ?_))))
    exact oO hF [] [] rfl
  · refine awp_region (aR 2 (aB h1 (aR 6 (aE ?_))))
    exact oO hF [] [] rfl

def z73 (qn : Int) (qlow : Int) (qhigh : Int) (r : Bool) : TV × Mem := (.b r, ⟨[], []⟩)

theorem z74 {qn : Int} {qlow : Int} {qhigh : Int} {r} (hF : base_Out qn qlow qhigh = some r) : Holds prog 64 [.i qn, .i qlow, .i qhigh] ⟨[], []⟩ (Is (z73 qn qlow qhigh r)) := by
  unfold base_Out at hF
  refine hW f64 15 0 0 ?_
  refine sR 1 (awp_seq (awp_to (st' := z78 qn qlow qhigh) (oT [] []) ?_))
  refine bE hF fun vx1 h2 hF => awp_sub (z80 qn qlow qhigh h2) ?_
  exact awp_ret (oF hF [] [])

/-! ### beaconfleet/command.NewDoer -/
def z248 (qremember : Int) : Unit ⊕ Unit → TV × Mem
  | .inl _ => (.tup [.one (.nilp), .one (.i 1)], ⟨[], []⟩)
  | .inr _ => (.tup [.one (.box 0 0), .one (.i 0)], ⟨[], [(0, [.i qremember, .nil, .i 0])]⟩)

theorem z249 {qremember : Int} {r} (hF : z247 qremember = some r) : Holds prog 10 [.i qremember] ⟨[], []⟩ (Is (z248 qremember r)) := by
  unfold z247 at hF
  refine hW f10 9 0 0 ?_
  refine sR 2 (awp_seq (awp_seq (bE hF fun vr h1 hF => awp_region (aR 1 (aC (z74 h1) [] [] [] (aE ?_))))))
  refine cE hF (fun h2 hF => ?_) fun h2 hF => ?_
  · exact tT h2 (sR 2 (awp_ret (oF hF [] [])))
  · exact tF h2 (awp_skip (sR 5 (awp_ret (oF hF [(0, 6000)] []))))

/-! ### beaconfleet/command.CheckPost -/
def z199 (qp : api_Post) : Bool → St
  | vx => Mem.st ⟨[], []⟩ (tl [(20, .b vx)]) 0

def z198 (qp : api_Post) : St := Mem.st ⟨[], [(0, [.i qp.Room, .i qp.Timeout, .i qp.Tries, .i qp.Kept])]⟩ (tl [(1, .c (.box 0 0))]) 1

theorem z200 (qp : api_Post) {r} (hF : z197 qp = some r) : Awp prog 0 21 (cL (cL (cR (cB f34)))) (Out 0 nrm (z199 qp) r) (z198 qp) := by
  unfold z197 at hF
  refine bE hF fun vr h1 hF => cE hF (fun h2 hF => ?_) fun h2 hF => ?_
  · refine awp_region (aR 2 (aCb (z74 h1) [] [] [] h2 ?_))
    refine aR 15 (aE ?_)
    exact oO hF [] [] rfl
  · refine bE hF fun vr1 h3 hF => cE hF (fun h4 hF => ?_) fun h4 hF => ?_
    · refine awp_region (aR 2 (aCb (z74 h1) [] [] [] h2 ?_))
      refine aR 3 (aCb (z74 h3) [] [] [] h4 ?_)
      refine aR 11 (aE ?_)
      exact oO hF [] [] rfl
    · refine bE hF fun vr2 h5 hF => cE hF (fun h6 hF => ?_) fun h6 hF => ?_
      · refine awp_region (aR 2 (aCb (z74 h1) [] [] [] h2 ?_))
        refine aR 3 (aCb (z74 h3) [] [] [] h4 ?_)
        refine aR 4 (aCb (z74 h5) [] [] [] h6 ?_)
        refine aR 6 (aE ?_)
        exact oO hF [] [] rfl
      · refine bE hF fun vr3 h7 hF => awp_region (aR 2 (aCb (z74 h1) [] [] [] h2 ?_))
        refine aR 3 (aCb (z74 h3) [] [] [] h4 ?_)
        refine aR 4 (aCb (z74 h5) [] [] [] h6 ?_)
        refine aR 4 (aC (z74 h7) [] [] [] (aR 1 (aE ?_)))
        exact oO hF [] [] rfl

def z195 (qp : api_Post) (r : Int) : TV × Mem := (.i r, ⟨[], []⟩)

theorem z196 {qp : api_Post} {r} (hF : z194 qp = some r) : Holds prog 34 [.v (.agg [.i qp.Room, .i qp.Timeout, .i qp.Tries, .i qp.Kept])] ⟨[], []⟩ (Is (z195 qp r)) := by
  unfold z194 at hF
  refine hW f34 21 0 0 ?_
  refine sR 2 (awp_seq (awp_seq (awp_to (st' := z198 qp) (oT [] []) ?_)))
  refine bE hF fun vx1 h8 hF => awp_sub (z200 qp h8) ?_
  refine cE hF (fun h9 hF => ?_) fun h9 hF => ?_
  · exact tT h9 (sR 1 (awp_ret (oF hF [] [])))
  · exact tF h9 (awp_skip (sR 1 (awp_ret (oF hF [] []))))

/-! ### beaconfleet/command.New -/
def z250 (qp : api_Post) : Int ⊕ Unit → TV × Mem
  | .inl vr => (.tup [.one (.nilp), .one (.i vr)], ⟨[], []⟩)
  | .inr _ => (.tup [.one (.box 0 0), .one (.i 0)], ⟨[], [(0, [.i qp.Room, .i qp.Timeout, .i qp.Tries, .i qp.Kept, .mapp 1, .i 0]), (1, [.mapc .str true (List.map (encM D.str api_Note.enc) ([] : List (List UInt8 × api_Note)))])]⟩)

theorem z251 {qp : api_Post} {r} (hF : z246 qp = some r) : Holds prog 22 [.v (.agg [.i qp.Room, .i qp.Timeout, .i qp.Tries, .i qp.Kept])] ⟨[], []⟩ (Is (z250 qp r)) := by
  unfold z246 at hF
  refine hW f22 14 0 0 ?_
  refine sR 3 (awp_seq (awp_seq (bE hF fun vr4 h1 hF => awp_region (aR 1 (aC (z196 h1) [] [] [] (aR 1 (aE ?_)))))))
  refine sR 2 (cE hF (fun h2 hF => ?_) fun h2 hF => ?_)
  · exact tT h2 (sR 3 (awp_ret (oF hF [] [])))
  · refine tF h2 (awp_skip (awp_seq (awp_region (aR 1 (aX (x_map .str true (κ := List UInt8) (β := api_Note) D.str api_Note.enc) (aR 4 (aE ?_)))))))
    exact awp_ret (oF hF [(0, 11000), (1, 9000)] [])

/-! ### beaconfleet/base.Key -/
def z29 (qs : List UInt8) : Bool → St
  | vx => Mem.st ⟨[], []⟩ (tl [(0, .c (.s qs)), (21, .b vx)]) 0

def z28 (qs : List UInt8) : St := Mem.st ⟨[], []⟩ (tl [(0, .c (.s qs))]) 0

theorem z30 (qs : List UInt8) {r} (hF : z27 qs = some r) : Awp prog 0 54 (cL (cL (cR (cB f106)))) (Out 0 nrm (z29 qs) r) (z28 qs) := by
  unfold z27 at hF
  refine cE hF (fun h1 hF => ?_) fun h1 hF => ?_
  · refine awp_region (aR 1 (aB h1 (aR 15 (aE ?_))))
    exact oO hF [] [] rfl
  · refine cE hF (fun h2 hF => ?_) fun h2 hF => ?_
    · refine awp_region (aR 1 (aB h1 (aR 3 (aB h2 (aR 11 (aE ?_))))))
      exact oO hF [] [] rfl
    · refine bE hF fun vc h3 hF => cE hF (fun h4 hF => ?_) fun h4 hF => ?_
      · refine awp_region (aR 1 (aB h1 (aR 3 (aB h2 (aR 3 (aX (x_idxS h3) (aB h4 (aR 6 (aE ?_)))))))))
        exact oO hF [] [] rfl
      · refine awp_region (aR 1 (aB h1 (aR 3 (aB h2 (aR 3 (aX (x_idxS h3) (aB h4 (aR 3 (aX (x_idxS h3) (aR 2 (aE ?_)))))))))))
        exact oO hF [] [] rfl

def z39 (qs : List UInt8) (vx2 : Int) (vc2 : UInt8) : Bool → St
  | vx4 => Mem.st ⟨[], []⟩ (tl [(0, .c (.s qs)), (23, .i (qs.length : Int)), (24, .i vx2), (52, .b vx4)]) 0

def z38 (qs : List UInt8) (vx2 : Int) (vc2 : UInt8) : St := Mem.st ⟨[], []⟩ (tl [(0, .c (.s qs)), (4, .c (.d (.int .u8 (vc2.toNat : Int)))), (23, .i (qs.length : Int)), (24, .i vx2)]) 0

theorem z40 (qs : List UInt8) (vx2 : Int) (vc2 : UInt8) {r} (hF : z36 vc2 = some r) : Awp prog 0 54 (cL (cR (cR (cL (cL (cR (cR (cL (cL (cR (cL (cR (cR (cB f106)))))))))))))) (Out 0 nrm (z39 qs vx2 vc2) r) (z38 qs vx2 vc2) := by
  unfold z36 at hF
  refine cE hF (fun h9 hF => ?_) fun h9 hF => ?_
  · refine cE hF (fun h10 hF => ?_) fun h10 hF => ?_
    · refine awp_region (aR 1 (aB h9 (aR 2 (aB h10 (aR 18 (aE ?_))))))
      exact oO hF [] [] rfl
    · refine cE hF (fun h11 hF => ?_) fun h11 hF => ?_
      · refine cE hF (fun h12 hF => ?_) fun h12 hF => ?_
        · refine awp_region (aR 1 (aB h9 (aR 2 (aB h10 (aR 3 (aB h11 (aR 2 (aB h12 (aR 11 (aE ?_))))))))))
          exact oO hF [] [] rfl
        · refine cE hF (fun h13 hF => ?_) fun h13 hF => ?_
          · refine awp_region (aR 1 (aB h9 (aR 2 (aB h10 (aR 3 (aB h11 (aR 2 (aB h12 (aR 4 (aB h13 (aR 6 (aE ?_))))))))))))
            exact oO hF [] [] rfl
          · refine awp_region (aR 1 (aB h9 (aR 2 (aB h10 (aR 3 (aB h11 (aR 2 (aB h12 (aR 4 (aB h13 (aR 6 (aE ?_))))))))))))
            exact oO hF [] [] rfl
      · refine cE hF (fun h14 hF => ?_) fun h14 hF => ?_
        · refine awp_region (aR 1 (aB h9 (aR 2 (aB h10 (aR 3 (aB h11 (aR 7 (aB h14 (aR 6 (aE ?_))))))))))
          exact oO hF [] [] rfl
        · refine awp_region (aR 1 (aB h9 (aR 2 (aB h10 (aR 3 (aB h11 (aR 7 (aB h14 (aR 6 (aE ?_))))))))))
          exact oO hF [] [] rfl
  · refine cE hF (fun h15 hF => ?_) fun h15 hF => ?_
    · refine cE hF (fun h16 hF => ?_) fun h16 hF => ?_
      · refine awp_region (aR 1 (aB h9 (aR 6 (aB h15 (aR 2 (aB h16 (aR 11 (aE ?_))))))))
        exact oO hF [] [] rfl
      · refine cE hF (fun h17 hF => ?_) fun h17 hF => ?_
        · refine awp_region (aR 1 (aB h9 (aR 6 (aB h15 (aR 2 (aB h16 (aR 4 (aB h17 (aR 6 (aE ?_))))))))))
          exact oO hF [] [] rfl
        · refine awp_region (aR 1 (aB h9 (aR 6 (aB h15 (aR 2 (aB h16 (aR 4 (aB h17 (aR 6 (aE ?_))))))))))
          exact oO hF [] [] rfl
    · refine cE hF (fun h18 hF => ?_) fun h18 hF => ?_
      · refine awp_region (aR 1 (aB h9 (aR 6 (aB h15 (aR 7 (aB h18 (aR 6 (aE ?_))))))))
        exact oO hF [] [] rfl
      · refine awp_region (aR 1 (aB h9 (aR 6 (aB h15 (aR 7 (aB h18 (aR 6 (aE ?_))))))))
        exact oO hF [] [] rfl

def z34 : Unit ⊕ Unit → AEx
  | .inl _ => .exit 0
  | .inr _ => .ret

def z33 (qs : List UInt8) : Unit ⊕ Unit → St
  | .inl _ => Mem.st ⟨[], []⟩ (tl []) 0
  | .inr _ => Mem.st ⟨[], []⟩ (tl [(2, .b false)]) 0

def z32 (qs : List UInt8) : Int → St
  | vx2 => Mem.st ⟨[], []⟩ (tl [(0, .c (.s qs)), (23, .i (qs.length : Int)), (24, .i vx2)]) 0

theorem z35 (qs : List UInt8) (vx2 : Int) (r : (Int) ⊕ (Unit ⊕ Unit)) (hF : z31 qs vx2 = some r) : Awp prog 0 54 (cL (cL (cR (cL (cR (cR (cB f106))))))) (Out 0 (kk z34) (SS (z32 qs) (z33 qs)) r) (z32 qs vx2) := by
  unfold z31 at hF
  refine sR 1 (awp_seq (cE hF (fun h7 hF => ?_) fun h7 hF => ?_))
  · refine tT h7 (awp_skip (awp_seq (awp_block (sR 2 (awp_seq (bE hF fun vc2 h8 hF => awp_region (aR 2 (aX (x_idxS h8) (aR 1 (aE ?_))))))))))
    refine awp_seq (awp_to (st' := z38 qs vx2 vc2) (oT [] []) ?_)
    refine bE hF fun vx4_1 h19 hF => awp_sub (z40 qs vx2 vc2 h19) ?_
    refine cE hF (fun h20 hF => ?_) fun h20 hF => ?_
    · exact tT h20 (sR 1 (awp_ret (oO hF [] [] rfl)))
    · exact tF h20 (awp_skip (gR 2 (oO hF [] [] rfl)))
  · refine tF h7 (awp_exit ?_)
    exact oO hF [] [] rfl

def z25 (qs : List UInt8) (r : Bool) : TV × Mem := (.b r, ⟨[], []⟩)

theorem z26 {qs : List UInt8} {r} (hF : base_Key qs = some r) : Holds prog 106 [.c (.s qs)] ⟨[], []⟩ (Is (z25 qs r)) := by
  unfold base_Key at hF
  refine hW f106 54 0 0 ?_
  refine sR 1 (awp_seq (awp_seq (awp_to (st' := z28 qs) (oT [] []) ?_)))
  refine bE hF fun vx1 h5 hF => awp_sub (z30 qs h5) ?_
  refine cE hF (fun h6 hF => ?_) fun h6 hF => ?_
  · exact tT h6 (sR 1 (awp_ret (oF hF [] [])))
  · refine tF h6 (awp_skip (awp_seq (sR 3 (awp_block (awp_to (st' := z32 qs 0) (oT [] []) ?_)))))
    refine bE hF fun x h21 hF => ?_
    rcases x with _ | _
    · refine awp_sub (awp_loop' (z32 qs) z34 (z33 qs) (by intro x; rcases x with x | x <;> exact fun h => nomatch h) h21 (z35 qs)) ?_
      exact sR 1 (awp_ret (oF hF [] []))
    · refine awp_sub (awp_loop' (z32 qs) z34 (z33 qs) (by intro x; rcases x with x | x <;> exact fun h => nomatch h) h21 (z35 qs)) ?_
      exact oF hF [] []

/-! ### unicode/utf8.ValidString -/
def z1297 (qx : List UInt8) (r : Bool) : TV × Mem := (.b r, ⟨[], []⟩)

theorem z1298 {qx : List UInt8} {r} (hF : utf8_ValidString qx = some r) : Holds prog 190 [.c (.s qx)] ⟨[], []⟩ (Is (z1297 qx r)) := by
  unfold utf8_ValidString at hF
  refine gE hF fun h1 hF => ?_
  obtain rfl := Option.some.inj hF
  have h2 : qx.length ≤ 9223372036854775807 := by simpa using h1
  refine holds_lib (args := [.str qx]) (tv := .b (Lib.validD qx)) ⟨_, cB Go.Proofs.Tryz.f190, Go.Proofs.Tryz.func190, by kernel_rfl, by kernel_rfl⟩ rfl rfl fun w ht => ?_
  refine (Go.Proofs.Any.utf8_ValidString Go.Proofs.Tryz.lays196 ⟨qx.toArray⟩ w (by simpa [ByteArray.size] using h2) (utf8_tabs (ht 1 _ rfl) (ht 2 _ rfl) (by kernel_rfl) (by kernel_rfl))).mono ?_
  rintro e w' ⟨rfl, hb⟩
  exact ⟨rfl, hb⟩

/-! ### beaconfleet/base.Unmarked -/
def z91 (qs : List UInt8) (vx : Int) : Bool → St
  | vx2 => Mem.st ⟨[], []⟩ (tl [(0, .c (.s qs)), (5, .i (qs.length : Int)), (6, .i vx), (18, .b vx2)]) 0

def z90 (qs : List UInt8) (vx : Int) : St := Mem.st ⟨[], []⟩ (tl [(0, .c (.s qs)), (3, .i vx), (5, .i (qs.length : Int)), (6, .i vx)]) 0

theorem z92 (qs : List UInt8) (vx : Int) {r} (hF : z89 qs vx = some r) : Awp prog 0 22 (cL (cR (cL (cL (cR (cR (cL (cL (cR (cL (cR (cB f107)))))))))))) (Out 0 nrm (z91 qs vx) r) (z90 qs vx) := by
  unfold z89 at hF
  refine bE hF fun vc1 h2 hF => cE hF (fun h3 hF => ?_) fun h3 hF => ?_
  · refine awp_region (aR 2 (aX (x_idxS h2) (aB h3 (aR 6 (aE ?_)))))
    exact oO hF [] [] rfl
  · refine awp_region (aR 2 (aX (x_idxS h2) (aB h3 (aR 3 (aX (x_idxS h2) (aR 2 (aE ?_)))))))
    exact oO hF [] [] rfl

def z87 : Unit ⊕ Unit → AEx
  | .inl _ => .exit 0
  | .inr _ => .ret

def z86 (qs : List UInt8) : Unit ⊕ Unit → St
  | .inl _ => Mem.st ⟨[], []⟩ (tl [(0, .c (.s qs))]) 0
  | .inr _ => Mem.st ⟨[], []⟩ (tl [(2, .b false)]) 0

def z85 (qs : List UInt8) : Int → St
  | vx => Mem.st ⟨[], []⟩ (tl [(0, .c (.s qs)), (5, .i (qs.length : Int)), (6, .i vx)]) 0

theorem z88 (qs : List UInt8) (vx : Int) (r : (Int) ⊕ (Unit ⊕ Unit)) (hF : z84 qs vx = some r) : Awp prog 0 22 (cL (cL (cR (cL (cR (cB f107)))))) (Out 0 (kk z87) (SS (z85 qs) (z86 qs)) r) (z85 qs vx) := by
  unfold z84 at hF
  refine sR 1 (awp_seq (cE hF (fun h1 hF => ?_) fun h1 hF => ?_))
  · refine tT h1 (awp_skip (awp_seq (awp_block (sR 2 (awp_seq (awp_to (st' := z90 qs vx) (oT [] []) ?_))))))
    refine bE hF fun vx2_1 h4 hF => awp_sub (z92 qs vx h4) ?_
    refine cE hF (fun h5 hF => ?_) fun h5 hF => ?_
    · exact tT h5 (sR 1 (awp_ret (oO hF [] [] rfl)))
    · exact tF h5 (awp_skip (gR 2 (oO hF [] [] rfl)))
  · refine tF h1 (awp_exit ?_)
    exact oO hF [] [] rfl

def z82 (qs : List UInt8) (r : Bool) : TV × Mem := (.b r, ⟨[], []⟩)

theorem z83 {qs : List UInt8} {r} (hF : z81 qs = some r) : Holds prog 107 [.c (.s qs)] ⟨[], []⟩ (Is (z82 qs r)) := by
  unfold z81 at hF
  refine hW f107 22 0 0 ?_
  refine sR 1 (awp_seq (sR 3 (awp_block (awp_to (st' := z85 qs 0) (oT [] []) ?_))))
  refine bE hF fun x h6 hF => ?_
  rcases x with _ | _
  · refine awp_sub (awp_loop' (z85 qs) z87 (z86 qs) (by intro x; rcases x with x | x <;> exact fun h => nomatch h) h6 (z88 qs)) ?_
    refine awp_seq (bE hF fun vr h7 hF => awp_region (aR 1 (aC (z1298 h7) [] [] [] (aR 1 (aE ?_)))))
    exact awp_ret (oF hF [] [])
  · refine awp_sub (awp_loop' (z85 qs) z87 (z86 qs) (by intro x; rcases x with x | x <;> exact fun h => nomatch h) h6 (z88 qs)) ?_
    exact oF hF [] []

/-! ### beaconfleet/base.Moment -/
def z42 (qn : Int) (r : Bool) : TV × Mem := (.b r, ⟨[], []⟩)

theorem z43 {qn : Int} {r} (hF : z41 qn = some r) : Holds prog 69 [.i qn] ⟨[], []⟩ (Is (z42 qn r)) := by
  unfold z41 at hF
  refine hW f69 6 0 0 ?_
  refine sR 1 (awp_seq (bE hF fun vr h1 hF => awp_region (aR 1 (aC (z74 h1) [] [] [] (aR 2 (aE ?_))))))
  exact awp_ret (oF hF [] [])

/-! ### beaconfleet/command.CheckLetter -/
def z163 (ql : api_Letter) : Bool → St
  | vx => Mem.st ⟨[], [(0, [.s ql.Id, .s ql.Slot, .s ql.Body, .i ql.Prio, .i ql.At, .i ql.Until])]⟩ (tl [(1, .c (.box 0 0)), (3, .b vx)]) 1

def z162 (ql : api_Letter) : St := Mem.st ⟨[], [(0, [.s ql.Id, .s ql.Slot, .s ql.Body, .i ql.Prio, .i ql.At, .i ql.Until])]⟩ (tl [(1, .c (.box 0 0))]) 1

theorem z165 (ql : api_Letter) {r} (hF : z161 ql = some r) : Awp prog 0 51 (cL (cL (cL (cR (cB f32))))) (Out 0 nrm (z163 ql) r) (z162 ql) := by
  unfold z161 at hF
  refine bE hF fun vr h1 hF => cE hF (fun h2 hF => ?_) fun h2 hF => ?_
  · refine awp_region (aR 2 (aC (z26 h1) [] [] [] (aB h2 (aR 12 (aE ?_)))))
    exact oO hF [] [] rfl
  · refine cE hF (fun h3 hF => ?_) fun h3 hF => ?_
    · refine bE hF fun vr1 h4 hF => awp_region (aR 2 (aC (z26 h1) [] [] [] (aB h2 (aR 3 (aB h3 (aR 3 (aC (z26 h4) [] [] [] (aR 4 (aE ?_)))))))))
      exact oO hF [] [] rfl
    · refine awp_region (aR 2 (aC (z26 h1) [] [] [] (aB h2 (aR 3 (aB h3 (aR 8 (aE ?_)))))))
      exact oO hF [] [] rfl

def z168 (ql : api_Letter) : Bool → St
  | vx2 => Mem.st ⟨[], []⟩ (tl [(29, .b vx2)]) 0

def z167 (ql : api_Letter) : St := Mem.st ⟨[], [(0, [.s ql.Id, .s ql.Slot, .s ql.Body, .i ql.Prio, .i ql.At, .i ql.Until])]⟩ (tl [(1, .c (.box 0 0))]) 1

theorem z169 (ql : api_Letter) {r} (hF : z166 ql = some r) : Awp prog 0 51 (cL (cR (cR (cR (cR (cR (cR (cL (cL (cR (cB f32))))))))))) (Out 0 nrm (z168 ql) r) (z167 ql) := by
  unfold z166 at hF
  refine bE hF fun vr2 h10 hF => cE hF (fun h11 hF => ?_) fun h11 hF => ?_
  · refine awp_region (aR 2 (aCb (z74 h10) [] [] [] h11 ?_))
    refine aR 19 (aE ?_)
    exact oO hF [] [] rfl
  · refine bE hF fun vr1_2 h12 hF => cE hF (fun h13 hF => ?_) fun h13 hF => ?_
    · refine awp_region (aR 2 (aCb (z74 h10) [] [] [] h11 ?_))
      refine aR 3 (aC (z43 h12) [] [] [] (aB h13 (aR 14 (aE ?_))))
      exact oO hF [] [] rfl
    · refine cE hF (fun h14 hF => ?_) fun h14 hF => ?_
      · refine awp_region (aR 2 (aCb (z74 h10) [] [] [] h11 ?_))
        refine aR 3 (aC (z43 h12) [] [] [] (aB h13 (aR 6 (aB h14 (aR 7 (aE ?_))))))
        exact oO hF [] [] rfl
      · refine awp_region (aR 2 (aCb (z74 h10) [] [] [] h11 ?_))
        refine aR 3 (aC (z43 h12) [] [] [] (aB h13 (aR 6 (aB h14 (aR 7 (aE ?_))))))
        exact oO hF [] [] rfl

def z159 (ql : api_Letter) (r : Int) : TV × Mem := (.i r, ⟨[], []⟩)

theorem z160 {ql : api_Letter} {r} (hF : z158 ql = some r) : Holds prog 32 [.v (.agg [.s ql.Id, .s ql.Slot, .s ql.Body, .i ql.Prio, .i ql.At, .i ql.Until])] ⟨[], []⟩ (Is (z159 ql r)) := by
  unfold z158 at hF
  refine hW f32 51 0 0 ?_
  refine sR 2 (awp_seq (awp_block (awp_seq (awp_to (st' := z162 ql) (oT [] []) ?_))))
  refine bE hF fun vx1 h5 hF => awp_sub (z165 ql h5) ?_
  refine cE hF (fun h6 hF => ?_) fun h6 hF => ?_
  · exact tT h6 (sR 1 (awp_ret (oF hF [] [])))
  · refine tF h6 (sR 5 (cE hF (fun h7 hF => ?_) fun h7 hF => ?_))
    · exact tT h7 (sR 1 (awp_ret (oF hF [] [])))
    · refine tF h7 (awp_seq (bE hF fun vr1_1 h8 hF => awp_region (aR 2 (aC (z83 h8) [] [] [] (aR 2 (aE ?_))))))
      refine cE hF (fun h9 hF => ?_) fun h9 hF => ?_
      · exact tT h9 (sR 1 (awp_ret (oF hF [] [])))
      · refine tF h9 (awp_seq (awp_to (st' := z167 ql) (oT [] []) ?_))
        refine bE hF fun vx2_1 h15 hF => awp_sub (z169 ql h15) ?_
        refine cE hF (fun h16 hF => ?_) fun h16 hF => ?_
        · exact tT h16 (sR 1 (awp_ret (oF hF [] [])))
        · exact tF h16 (awp_skip (sR 1 (awp_ret (oF hF [] []))))

/-! ### beaconfleet/base.First -/
def z23 : Unit ⊕ Int → AEx
  | .inl _ => .exit 0
  | .inr _ => .ret

def z22 (ql : List Int) : Unit ⊕ Int → St
  | .inl _ => Mem.st ⟨[], []⟩ (tl []) 0
  | .inr vx1 => Mem.st ⟨[], []⟩ (tl [(2, .i vx1)]) 0

def z21 (ql : List Int) : Int → St
  | vx => Mem.st ⟨[], []⟩ (tl [(5, .c (.l (encI .i64) ql)), (6, .i (ql.length : Int)), (7, .i vx)]) 0

theorem z24 (ql : List Int) (vx : Int) (r : (Int) ⊕ (Unit ⊕ Int)) (hF : z19 ql vx = some r) : Awp prog 0 15 (cL (cL (cR (cL (cR (cB f137)))))) (Out 0 (kk z23) (SS (z21 ql) (z22 ql)) r) (z21 ql vx) := by
  unfold z19 at hF
  refine sR 1 (awp_seq (cE hF (fun h1 hF => ?_) fun h1 hF => ?_))
  · refine tT h1 (awp_skip (awp_seq (awp_block (awp_seq (bE hF fun vy1 h2 hF => awp_region (aX (x_idx (encI .i64) h2) (aR 2 (aE ?_))))))))
    refine sR 2 (cE hF (fun h3 hF => ?_) fun h3 hF => ?_)
    · exact tT h3 (sR 2 (awp_ret (oO hF [] [] rfl)))
    · exact tF h3 (awp_skip (gR 2 (oO hF [] [] rfl)))
  · refine tF h1 (awp_exit ?_)
    exact oO hF [] [] rfl

def z17 (ql : List Int) (r : Int) : TV × Mem := (.i r, ⟨[], []⟩)

theorem z18 {ql : List Int} {r} (hF : z16 ql = some r) : Holds prog 137 [.c (.l (encI .i64) ql)] ⟨[], []⟩ (Is (z17 ql r)) := by
  unfold z16 at hF
  refine hW f137 15 0 0 ?_
  refine sR 1 (awp_seq (awp_seq (awp_region (aR 1 (aL (encI .i64) ql (aR 1 (aE ?_)))))))
  refine awp_block (awp_to (st' := z21 ql 0) (oT [] []) ?_)
  refine bE hF fun x h4 hF => ?_
  rcases x with _ | vx1_1
  · refine awp_sub (awp_loop' (z21 ql) z23 (z22 ql) (by intro x; rcases x with x | x <;> exact fun h => nomatch h) h4 (z24 ql)) ?_
    exact sR 1 (awp_ret (oF hF [] []))
  · refine awp_sub (awp_loop' (z21 ql) z23 (z22 ql) (by intro x; rcases x with x | x <;> exact fun h => nomatch h) h4 (z24 ql)) ?_
    exact oF hF [] []

/-! ### beaconfleet/command.ended -/
def z388 (qstate : Int) (r : Unit) : TV × Mem := (.b (decide (3 ≤ qstate)), ⟨[], []⟩)

theorem z389 {qstate : Int} {r} (hF : z387 qstate = some r) : Holds prog 177 [.i qstate] ⟨[], []⟩ (Is (z388 qstate r)) := by
  unfold z387 at hF
  refine hW f177 5 0 0 ?_
  exact sR 1 (sR 3 (awp_ret (oF hF [] [])))

/-! ### math/bits.Len64 -/
def z105 (qx : Int) : (Int × Int) → St
  | (vx, vn) => Mem.st ⟨[], []⟩ (tl [(0, .c (.d (.int .u64 vx))), (2, .i vn)]) 0

def z104 (qx : Int) : St := Mem.st ⟨[], []⟩ (tl [(0, .c (.d (.int .u64 qx))), (2, .i 0)]) 0

theorem z106 (qx : Int) {r} (hF : z103 qx = some r) : Awp prog 0 25 (cL (cR (cB f203))) (Out 0 nrm (z105 qx) r) (z104 qx) := by
  unfold z103 at hF
  refine sR 2 (cE hF (fun h1 hF => ?_) fun h1 hF => ?_)
  · exact tT h1 (sR 3 (gR 1 (oO hF [] [] rfl)))
  · exact tF h1 (awp_skip (oO hF [] [] rfl))

def z110 (vx1 : Int) (vn1 : Int) : (Int × Int) → St
  | (vx2, vn2) => Mem.st ⟨[], []⟩ (tl [(0, .c (.d (.int .u64 vx2))), (2, .i vn2)]) 0

def z108 (vx1 : Int) (vn1 : Int) : St := Mem.st ⟨[], []⟩ (tl [(0, .c (.d (.int .u64 vx1))), (2, .i vn1)]) 0

theorem z111 (vx1 : Int) (vn1 : Int) {r} (hF : z107 vx1 vn1 = some r) : Awp prog 0 25 (cL (cR (cR (cB f203)))) (Out 0 nrm (z110 vx1 vn1) r) (z108 vx1 vn1) := by
  unfold z107 at hF
  refine sR 2 (cE hF (fun h3 hF => ?_) fun h3 hF => ?_)
  · exact tT h3 (sR 3 (gR 3 (oO hF [] [] rfl)))
  · exact tF h3 (awp_skip (oO hF [] [] rfl))

def z114 (vx2_1 : Int) (vn2_1 : Int) : (Int × Int) → St
  | (vx3, vn3) => Mem.st ⟨[], []⟩ (tl [(0, .c (.d (.int .u64 vx3))), (2, .i vn3)]) 0

def z113 (vx2_1 : Int) (vn2_1 : Int) : St := Mem.st ⟨[], []⟩ (tl [(0, .c (.d (.int .u64 vx2_1))), (2, .i vn2_1)]) 0

theorem z115 (vx2_1 : Int) (vn2_1 : Int) {r} (hF : z112 vx2_1 vn2_1 = some r) : Awp prog 0 25 (cL (cR (cR (cR (cB f203))))) (Out 0 nrm (z114 vx2_1 vn2_1) r) (z113 vx2_1 vn2_1) := by
  unfold z112 at hF
  refine sR 2 (cE hF (fun h5 hF => ?_) fun h5 hF => ?_)
  · exact tT h5 (sR 3 (gR 3 (oO hF [] [] rfl)))
  · exact tF h5 (awp_skip (oO hF [] [] rfl))

def z101 (qx : Int) (r : Int) : TV × Mem := (.i r, ⟨[], []⟩)

theorem z102 {qx : Int} {r} (hF : z100 qx = some r) : Holds prog 203 [.c (.d (.int .u64 qx))] ⟨[], []⟩ (Is (z101 qx r)) := by
  unfold z100 at hF
  refine hW f203 25 0 0 ?_
  refine sR 1 (awp_seq (awp_to (st' := z104 qx) (oT [] []) ?_))
  refine bE hF fun x h2 hF => ?_
  obtain ⟨vx1, vn1⟩ := x
  refine awp_sub (z106 qx h2) ?_
  refine awp_seq (awp_to (st' := z108 vx1 vn1) (oT [] []) ?_)
  refine bE hF fun x h4 hF => ?_
  obtain ⟨vx2_1, vn2_1⟩ := x
  refine awp_sub (z111 vx1 vn1 h4) ?_
  refine awp_seq (awp_to (st' := z113 vx2_1 vn2_1) (oT [] []) ?_)
  refine bE hF fun x h6 hF => ?_
  obtain ⟨vx3_1, vn3_1⟩ := x
  refine awp_sub (z115 vx2_1 vn2_1 h6) ?_
  refine awp_seq (bE hF fun vc h7 hF => awp_region (aR 3 (aX (x_idxS h7) (aR 3 (aE ?_)))))
  exact awp_ret (oF hF [] [])

/-! ### math/bits.Len -/
def z116 (qx : Int) (r : Int) : TV × Mem := (.i r, ⟨[], []⟩)

theorem z117 {qx : Int} {r} (hF : bits_Len qx = some r) : Holds prog 111 [.c (.d (.int .u64 qx))] ⟨[], []⟩ (Is (z116 qx r)) := by
  unfold bits_Len at hF
  refine hW f111 8 0 0 ?_
  refine sR 1 (awp_seq (tF rfl (awp_skip (awp_seq (bE hF fun vr h1 hF => awp_region (aR 1 (aC (z102 h1) [] [] [] (aR 1 (aE ?_)))))))))
  exact awp_ret (oF hF [] [])

/-! ### cmp.isNaN[int] -/
def z153 (qx : Int) (r : Unit) : TV × Mem := (.b (!decide (qx = qx)), ⟨[], []⟩)

theorem z154 {qx : Int} {r} (hF : z152 qx = some r) : Holds prog 246 [.i qx] ⟨[], []⟩ (Is (z153 qx r)) := by
  unfold z152 at hF
  refine hW f246 6 0 0 ?_
  exact sR 1 (sR 4 (awp_ret (oF hF [] [])))

/-! ### cmp.Compare[int] -/
def z131 (qx : Int) (qy : Int) (r : Int) : TV × Mem := (.i r, ⟨[], []⟩)

theorem z132 {qx : Int} {qy : Int} {r} (hF : z130 qx qy = some r) : Holds prog 185 [.i qx, .i qy] ⟨[], []⟩ (Is (z131 qx qy r)) := by
  unfold z130 at hF
  refine hW f185 20 0 0 ?_
  refine sR 1 (awp_seq (bE hF fun _ h1 hF => awp_region (aR 1 (aC (z154 h1) [] [] [] (aR 1 (aE ?_))))))
  refine awp_seq (bE hF fun _ h2 hF => awp_region (aR 1 (aC (z154 h2) [] [] [] (aR 1 (aE ?_)))))
  refine awp_seq (sR 1 (cE hF (fun h3 hF => ?_) fun h3 hF => ?_))
  · refine tT h3 (awp_seq (sR 1 (cE hF (fun h4 hF => ?_) fun h4 hF => ?_)))
    · exact tT h4 (sR 1 (awp_ret (oF hF [] [])))
    · exact tF h4 (awp_skip (sR 1 (awp_ret (oF hF [] []))))
  · refine tF h3 (awp_skip (awp_seq (sR 1 (cE hF (fun h5 hF => ?_) fun h5 hF => ?_))))
    · exact tT h5 (sR 1 (awp_ret (oF hF [] [])))
    · refine tF h5 (awp_skip (awp_seq (sR 3 (cE hF (fun h6 hF => ?_) fun h6 hF => ?_))))
      · exact tT h6 (sR 1 (awp_ret (oF hF [] [])))
      · refine tF h6 (awp_skip (awp_seq (sR 3 (cE hF (fun h7 hF => ?_) fun h7 hF => ?_))))
        · exact tT h7 (sR 1 (awp_ret (oF hF [] [])))
        · exact tF h7 (awp_skip (sR 1 (awp_ret (oF hF [] []))))

/-! ### internal/bytealg.CompareString -/
def z120 (qa : List UInt8) (qb : List UInt8) (r : Unit) : TV × Mem := (.i (Lib.compareBytes qa qb), ⟨[], []⟩)

theorem z121 {qa : List UInt8} {qb : List UInt8} {r} (hF : z118 qa qb = some r) : Holds prog 187 [.c (.s qa), .c (.s qb)] ⟨[], []⟩ (Is (z120 qa qb r)) := by
  unfold z118 at hF
  refine hW f187 8 0 0 ?_
  refine sR 1 (awp_seq (awp_region (aR 2 (aS (does_cmpstring (g := 255) (fn := f255) (a := qa) (b := qb) rfl (by kernel_rfl) (by kernel_rfl) (by kernel_rfl) (by kernel_rfl) (by kernel_rfl) (by kernel_rfl)) ?_))))
  refine aR 1 (aE ?_)
  exact awp_ret (oF hF [] [])

/-! ### strings.Compare -/
def z1103 (qa : List UInt8) (qb : List UInt8) (r : Unit) : TV × Mem := (.i (Lib.compareBytes qa qb), ⟨[], []⟩)

theorem z1104 {qa : List UInt8} {qb : List UInt8} {r} (hF : z1102 qa qb = some r) : Holds prog 96 [.c (.s qa), .c (.s qb)] ⟨[], []⟩ (Is (z1103 qa qb r)) := by
  unfold z1102 at hF
  refine hW f96 8 0 0 ?_
  refine sR 1 (awp_seq (bE hF fun _ h1 hF => awp_region (aR 2 (aC (z121 h1) [] [] [] (aR 1 (aE ?_))))))
  exact awp_ret (oF hF [] [])

/-! ### cmp.Or[int] -/
def z150 : Unit ⊕ Int → AEx
  | .inl _ => .exit 0
  | .inr _ => .ret

def z149 (qvals : List Int) : Unit ⊕ Int → St
  | .inl _ => Mem.st ⟨[], []⟩ (tl [(3, .i 0)]) 0
  | .inr vx1 => Mem.st ⟨[], []⟩ (tl [(2, .i vx1)]) 0

def z147 (qvals : List Int) : Int → St
  | vx => Mem.st ⟨[], []⟩ (tl [(3, .i 0), (6, .c (.l (encI .i64) qvals)), (7, .i (qvals.length : Int)), (8, .i vx)]) 0

theorem z151 (qvals : List Int) (vx : Int) (r : (Int) ⊕ (Unit ⊕ Int)) (hF : z145 qvals vx = some r) : Awp prog 0 18 (cL (cL (cR (cL (cR (cR (cB f184))))))) (Out 0 (kk z150) (SS (z147 qvals) (z149 qvals)) r) (z147 qvals vx) := by
  unfold z145 at hF
  refine sR 1 (awp_seq (cE hF (fun h1 hF => ?_) fun h1 hF => ?_))
  · refine tT h1 (awp_skip (awp_seq (awp_block (awp_seq (bE hF fun vy1 h2 hF => awp_region (aX (x_idx (encI .i64) h2) (aR 2 (aE ?_))))))))
    refine sR 3 (cE hF (fun h3 hF => ?_) fun h3 hF => ?_)
    · exact tT h3 (sR 2 (awp_ret (oO hF [] [] rfl)))
    · exact tF h3 (awp_skip (gR 2 (oO hF [] [] rfl)))
  · refine tF h1 (awp_exit ?_)
    exact oO hF [] [] rfl

def z143 (qvals : List Int) (r : Int) : TV × Mem := (.i r, ⟨[], []⟩)

theorem z144 {qvals : List Int} {r} (hF : z142 qvals = some r) : Holds prog 184 [.c (.l (encI .i64) qvals)] ⟨[], []⟩ (Is (z143 qvals r)) := by
  unfold z142 at hF
  refine hW f184 18 0 0 ?_
  refine sR 1 (sR 1 (awp_seq (awp_seq (awp_region (aR 1 (aL (encI .i64) qvals (aR 1 (aE ?_))))))))
  refine awp_block (awp_to (st' := z147 qvals 0) (oT [] []) ?_)
  refine bE hF fun x h4 hF => ?_
  rcases x with _ | vx1_1
  · refine awp_sub (awp_loop' (z147 qvals) z150 (z149 qvals) (by intro x; rcases x with x | x <;> exact fun h => nomatch h) h4 (z151 qvals)) ?_
    exact sR 2 (awp_ret (oF hF [] []))
  · refine awp_sub (awp_loop' (z147 qvals) z150 (z149 qvals) (by intro x; rcases x with x | x <;> exact fun h => nomatch h) h4 (z151 qvals)) ?_
    exact oF hF [] []

/-! ### (*beaconfleet/command.Office).aged$1 -/
def z305 (qa : api_Note) (qb : api_Note) (r : Int) : TV × Mem := (.i r, ⟨[], []⟩)

theorem z306 {qa : api_Note} {qb : api_Note} {r} (hF : z304 qa qb = some r) : Holds prog 183 [.v (.agg [.s qa.Letter.Id, .s qa.Letter.Slot, .s qa.Letter.Body, .i qa.Letter.Prio, .i qa.Letter.At, .i qa.Letter.Until, .i qa.State, .i qa.Tries, .i qa.Since]), .v (.agg [.s qb.Letter.Id, .s qb.Letter.Slot, .s qb.Letter.Body, .i qb.Letter.Prio, .i qb.Letter.At, .i qb.Letter.Until, .i qb.State, .i qb.Tries, .i qb.Since])] ⟨[], []⟩ (Is (z305 qa qb r)) := by
  unfold z304 at hF
  refine hW f183 19 0 0 ?_
  refine sR 3 (awp_seq (bE hF fun vr h1 hF => bE hF fun _ h2 hF => bE hF fun vr1 h3 hF => aD ?_))
  refine dR 4 ?_
  refine dC (z132 h1) [] [] [] ?_
  refine dR 6 ?_
  refine dC (z1104 h2) [] [] [] ?_
  refine dR 1 ?_
  refine dC (z144 h3) [] [] [15000] ?_
  refine dR 1 ?_
  refine dE ?_
  exact awp_ret (oF hF [] [])

/-! ### slices.insertionSortCmpFunc[beaconfleet/api.Note] -/
def z878 (qa : Int) (qb : Int) (vi : Int) (vl3 : List api_Note) (vj1 : Int) : Bool → St
  | vx4 => Mem.st ⟨[(0, ⟨65, 9, List.map api_Note.enc vl3⟩)], []⟩ (tl [(0, .c (.own 0 none)), (1, .i qa), (2, .i qb), (3, .c (.fn 183 [])), (8, .i vi), (9, .i vj1), (34, .b vx4)]) 1

def z877 (qa : Int) (qb : Int) (vi : Int) (vl3 : List api_Note) (vj1 : Int) : St := Mem.st ⟨[(0, ⟨65, 9, List.map api_Note.enc vl3⟩)], []⟩ (tl [(0, .c (.own 0 none)), (1, .i qa), (2, .i qb), (3, .c (.fn 183 [])), (8, .i vi), (9, .i vj1)]) 1

theorem z879 (qa : Int) (qb : Int) (vi : Int) (vl3 : List api_Note) (vj1 : Int) {r} (hF : z876 qa vl3 vj1 = some r) : Awp prog 1 53 (cL (cL (cL (cL (cR (cL (cL (cR (cL (cL (cR (cB f247)))))))))))) (Out 1 nrm (z878 qa qb vi vl3 vj1) r) (z877 qa qb vi vl3 vj1) := by
  unfold z876 at hF
  refine cE hF (fun h2 hF => ?_) fun h2 hF => ?_
  · refine bE hF fun vy15 h3 hF => bE hF fun vy16 h4 hF => bE hF fun vr2_3 h5 hF => aD ?_
    refine dR 2 ?_
    refine dB h2 ?_
    refine dR 4 ?_
    refine dX (x_idxO api_Note.enc 0 h3) ?_
    refine dX (x_ldE api_Note.enc h3) ?_
    refine dR 3 ?_
    refine dX (x_idxO api_Note.enc 0 h4) ?_
    refine dX (x_ldE api_Note.enc h4) ?_
    refine dC (z306 h5) [] [] [] ?_
    refine dR 2 ?_
    refine dE ?_
    exact oO hF [] [] rfl
  · refine aD ?_
    refine dR 2 ?_
    refine dB h2 ?_
    refine dR 14 ?_
    refine dE ?_
    exact oO hF [] [] rfl

def z874 : (List api_Note) → AEx
  | _ => .exit 2

def z873 (qa : Int) (qb : Int) (vi : Int) : (List api_Note) → St
  | vl4 => Mem.st ⟨[(0, ⟨65, 9, List.map api_Note.enc vl4⟩)], []⟩ (tl [(0, .c (.own 0 none)), (1, .i qa), (2, .i qb), (3, .c (.fn 183 [])), (8, .i vi)]) 1

def z872 (qa : Int) (qb : Int) (vi : Int) : (List api_Note) × Int → St
  | (vl3, vj1) => Mem.st ⟨[(0, ⟨65, 9, List.map api_Note.enc vl3⟩)], []⟩ (tl [(0, .c (.own 0 none)), (1, .i qa), (2, .i qb), (3, .c (.fn 183 [])), (8, .i vi), (9, .i vj1)]) 1

theorem z875 (qa : Int) (qb : Int) (vi : Int) (s : (List api_Note) × Int) (r : ((List api_Note) × Int) ⊕ ((List api_Note))) (hF : z871 qa s = some r) : Awp prog 1 53 (cL (cL (cR (cL (cL (cR (cL (cL (cR (cB f247)))))))))) (Out 1 (kk z874) (SS (z872 qa qb vi) (z873 qa qb vi)) r) (z872 qa qb vi s) := by
  obtain ⟨vl3, vj1⟩ := s
  unfold z871 at hF
  refine awp_seq (awp_seq (awp_to (st' := z877 qa qb vi vl3 vj1) (oT [] []) ?_))
  refine bE hF fun vx4_1 h6 hF => awp_sub (z879 qa qb vi vl3 vj1 h6) ?_
  refine cE hF (fun h7 hF => ?_) fun h7 hF => ?_
  · refine tT h7 (awp_skip (awp_seq (awp_block (bE hF fun vy17 h8 hF => bE hF fun vy18 h9 hF => bE hF fun vy19 h10 hF => aDw [0] ?_))))
    refine dR 8 ?_
    refine dI api_Note.enc 0 h8 rfl ?_
    refine dX (x_ldE api_Note.enc h8) ?_
    refine dR 2 ?_
    refine dI api_Note.enc 0 h9 rfl ?_
    refine dX (x_ldE api_Note.enc h9) ?_
    refine dI api_Note.enc 0 h9 rfl ?_
    refine dW api_Note.enc (api_Note.mk (api_Letter.mk vy17.Letter.Id vy17.Letter.Slot vy17.Letter.Body vy17.Letter.Prio vy17.Letter.At vy17.Letter.Until) vy17.State vy17.Tries vy17.Since) h9 rfl ?_
    refine dI api_Note.enc 0 h10 rfl ?_
    refine dW api_Note.enc (api_Note.mk (api_Letter.mk vy18.Letter.Id vy18.Letter.Slot vy18.Letter.Body vy18.Letter.Prio vy18.Letter.At vy18.Letter.Until) vy18.State vy18.Tries vy18.Since) h10 rfl ?_
    refine dE ?_
    exact gR 3 (oO hF [] [] rfl)
  · refine tF h7 (awp_exit ?_)
    exact oO hF [] [] rfl

def z869 : (List api_Note) → AEx
  | _ => .exit 0

def z868 (qa : Int) (qb : Int) : (List api_Note) → St
  | vl5 => Mem.st ⟨[(0, ⟨65, 9, List.map api_Note.enc vl5⟩)], []⟩ (tl []) 1

def z867 (qa : Int) (qb : Int) : (List api_Note) × Int → St
  | (vl, vi) => Mem.st ⟨[(0, ⟨65, 9, List.map api_Note.enc vl⟩)], []⟩ (tl [(0, .c (.own 0 none)), (1, .i qa), (2, .i qb), (3, .c (.fn 183 [])), (8, .i vi)]) 1

theorem z870 (qa : Int) (qb : Int) (s : (List api_Note) × Int) (r : ((List api_Note) × Int) ⊕ ((List api_Note))) (hF : z866 qa qb s = some r) : Awp prog 1 53 (cL (cL (cR (cB f247)))) (Out 1 (kk z869) (SS (z867 qa qb) (z868 qa qb)) r) (z867 qa qb s) := by
  obtain ⟨vl, vi⟩ := s
  unfold z866 at hF
  refine awp_seq (sR 3 (cE hF (fun h1 hF => ?_) fun h1 hF => ?_))
  · refine tT h1 (awp_skip (awp_seq (awp_block (sR 2 (awp_block (awp_to (st' := z872 qa qb vi (vl, vi)) (oT [] []) ?_))))))
    refine bE hF fun vl4_1 h11 hF => awp_sub (awp_loop' (z872 qa qb vi) z874 (z873 qa qb vi) (by intro x; exact fun h => nomatch h) h11 (z875 qa qb vi)) ?_
    exact gR 3 (oO hF [] [] rfl)
  · refine tF h1 (awp_exit ?_)
    exact oO hF [] [] rfl

def z864 (qdata : List api_Note) (qa : Int) (qb : Int) (r : (List api_Note)) : TV × Mem := (.tup [], ⟨[(0, ⟨65, 9, List.map api_Note.enc r⟩)], []⟩)

theorem z865 {qdata : List api_Note} {qa : Int} {qb : Int} {r} (hF : z863 qdata qa qb = some r) : Holds prog 247 [.c (.own 0 none), .i qa, .i qb, .c (.fn 183 [])] ⟨[(0, ⟨65, 9, List.map api_Note.enc qdata⟩)], []⟩ (Is (z864 qdata qa qb r)) := by
  unfold z863 at hF
  refine hW f247 53 1 1 ?_
  refine sR 3 (awp_block (awp_to (st' := z867 qa qb (qdata, IntKind.wrap .i64 (qa + 1))) (oT [] []) ?_))
  refine bE hF fun vl5_1 h12 hF => awp_sub (awp_loop' (z867 qa qb) z869 (z868 qa qb) (by intro x; exact fun h => nomatch h) h12 (z870 qa qb)) ?_
  exact oF hF [] []

/-! ### slices.pdqsortCmpFunc[beaconfleet/api.Note] -/
def z919 : (List api_Note) → AEx
  | _ => .ret

def z918 (qx : List api_Note) (qx1 : Int) (qx2 : Int) (qx3 : Int) : (List api_Note) → St
  | vl => Mem.st ⟨[(0, ⟨65, 9, List.map api_Note.enc vl⟩)], []⟩ (tl []) 1

def z917 (qx : List api_Note) (qx1 : Int) (qx2 : Int) (qx3 : Int) : Unit → St
  | _ => Mem.st ⟨[(0, ⟨65, 9, List.map api_Note.enc qx⟩)], []⟩ (tl [(0, .c (.own 0 none)), (1, .i qx1), (2, .i qx2), (3, .i qx3), (4, .c (.fn 183 [])), (10, .b true), (11, .b true)]) 1

theorem z920 (qx : List api_Note) (qx1 : Int) (qx2 : Int) (qx3 : Int) (s : Unit) (r : (Unit) ⊕ ((List api_Note))) (hF : z916 qx qx1 qx2 qx3 s = some r) : Awp prog 1 148 (cL (cL (cR (cR (cB f186))))) (Out 1 (kk z919) (SS (z917 qx qx1 qx2 qx3) (z918 qx qx1 qx2 qx3)) r) (z917 qx qx1 qx2 qx3 s) := by
  unfold z916 at hF
  refine awp_block (sR 4 (awp_seq (sR 2 (cE hF (fun h1 hF => ?_) fun h1 hF => ?_))))
  · refine tT h1 (awp_seq (bE hF fun vl6_1 h2 hF => gE hF fun h3 hF => ?_))
    refine awp_region (aR 4 (aCp (z865 h2) ⟨⟨rfl, rfl, pin1 h3⟩, trivial⟩ [] [] [] ?_))
    refine aE ?_
    exact awp_ret (oO hF [] [] rfl)
  · refine tF h1 (awp_skip (awp_seq (sR 2 (cE hF (fun h4 hF => ?_) fun h4 hF => ?_))))
    · exact tT h4 (awp_seq (nE hF))
    · exact tF h4 (awp_skip (awp_seq (sR 2 (tF rfl (awp_skip (awp_seq (nE hF)))))))

def z914 (qx : List api_Note) (qx1 : Int) (qx2 : Int) (qx3 : Int) (r : (List api_Note)) : TV × Mem := (.tup [], ⟨[(0, ⟨65, 9, List.map api_Note.enc r⟩)], []⟩)

theorem z915 {qx : List api_Note} {qx1 : Int} {qx2 : Int} {qx3 : Int} {r} (hF : z913 qx qx1 qx2 qx3 = some r) : Holds prog 186 [.c (.own 0 none), .i qx1, .i qx2, .i qx3, .c (.fn 183 [])] ⟨[(0, ⟨65, 9, List.map api_Note.enc qx⟩)], []⟩ (Is (z914 qx qx1 qx2 qx3 r)) := by
  unfold z913 at hF
  refine hW f186 148 1 1 ?_
  refine sR 1 (sR 1 (awp_block (awp_to (st' := z917 qx qx1 qx2 qx3 ()) (oT [] []) ?_)))
  refine bE hF fun vl1 h7 hF => awp_sub (awp_loop' (z917 qx qx1 qx2 qx3) z919 (z918 qx qx1 qx2 qx3) (by intro x; exact fun h => nomatch h) h7 (z920 qx qx1 qx2 qx3)) ?_
  exact oF hF [] []

/-! ### slices.SortFunc[[]beaconfleet/api.Note,beaconfleet/api.Note] -/
def z804 (qx : List api_Note) (r : (List api_Note)) : TV × Mem := (.tup [], ⟨[(0, ⟨65, 9, List.map api_Note.enc r⟩)], []⟩)

theorem z805 {qx : List api_Note} {r} (hF : z803 qx = some r) : Holds prog 94 [.c (.own 0 none), .c (.fn 183 [])] ⟨[(0, ⟨65, 9, List.map api_Note.enc qx⟩)], []⟩ (Is (z804 qx r)) := by
  unfold z803 at hF
  refine hW f94 14 1 1 ?_
  refine awp_seq (awp_region (aR 1 (aL api_Note.enc qx (aR 1 (aE ?_)))))
  refine bE hF fun vr1 h1 hF => bE hF fun vl2 h2 hF => gE hF fun h3 hF => ?_
  refine awp_region (aR 4 (aC (z117 h1) [] [] [] (aR 1 (aCp (z915 h2) ⟨⟨rfl, rfl, pin1 h3⟩, trivial⟩ [] [] [] ?_))))
  refine aE ?_
  exact oF hF [] []

/-! ### beaconfleet/command.pending -/
def z396 : Int → AEx
  | _ => .exit 0

def z395 (qm : List (List UInt8 × api_Note)) (vme : List (Nat × List D × List D)) (vcl : Nat) (vhp : (List.map (encM D.str api_Note.enc) qm).Perm (List.map (·.2) vme)) : Int → St
  | vk1 => Mem.st ⟨[], [(0, [.mapc .str true (List.map (encM D.str api_Note.enc) qm)])]⟩ (tl [(3, .i vk1)]) 1

def z394 (qm : List (List UInt8 × api_Note)) (vme : List (Nat × List D × List D)) (vcl : Nat) (vhp : (List.map (encM D.str api_Note.enc) qm).Perm (List.map (·.2) vme)) (vl : List (List UInt8 × api_Note)) : Int → St
  | vk => Mem.st ⟨[], [(0, [.mapg .str true vme vcl]), (1, [.iterc 0 vme vcl (List.map (encM D.str api_Note.enc) vl) none])]⟩ (tl [(3, .i vk), (7, .c (.box 1 0))]) 2

theorem z397 (qm : List (List UInt8 × api_Note)) (vme : List (Nat × List D × List D)) (vcl : Nat) (vhp : (List.map (encM D.str api_Note.enc) qm).Perm (List.map (·.2) vme)) (vl : List (List UInt8 × api_Note)) (vk : Int) (hE : vl = [] → ∃ x, z393 none vk = some x) (hP : ∀ e l', List.Perm vl (e :: l') → ∃ x, z393 (some e) vk = some x) : Awp prog 1 19 (cL (cL (cR (cL (cR (cR (cB f162))))))) (OutR 1 z396 (z393) (z394 qm vme vcl vhp) (z395 qm vme vcl vhp) vl vk) (z394 qm vme vcl vhp vl vk) := by
  refine awp_seq (awp_region (aNext (ka := .str) (va := true) (me := vme) (cl := vcl) (cur := none) 1 0 (encM D.str api_Note.enc) vl rfl (fun h3 => ?_) (fun ve1 vl2 vb1 h4 => ?_)))
  · obtain ⟨x, hF0⟩ := hE h3
    have hF := hF0
    unfold z393 at hF
    refine aR 1 (aE ?_)
    refine awp_seq (tF rfl (awp_close (ka := .str) (va := true) (me := vme) (cl := vcl) 0 vhp ?_))
    refine awp_exit ?_
    exact outE h3 hF0 (oO hF [] [] rfl)
  · obtain ⟨x, hF0⟩ := hP _ _ h4
    have hF := hF0
    unfold z393 at hF
    refine aR 1 (aE ?_)
    refine awp_seq (tT rfl (awp_skip (awp_block (awp_seq (awp_region (aEntry (ka := .str) (va := true) (me := vme) (cl := vcl) (b := vb1) (rest := List.map (encM D.str api_Note.enc) vl2) 1 0 (encM D.str api_Note.enc) ve1 rfl ?_))))))
    refine aR 3 (aE ?_)
    refine awp_seq (bE hF fun _ h5 hF => awp_region (aR 2 (aC (z389 h5) [] [] [] (aR 1 (aE ?_)))))
    refine cE hF (fun h6 hF => ?_) fun h6 hF => ?_
    · exact tT h6 (gR 3 (outP h4 hF0 (outCur (idM := 0) (me := vme) (cl := vcl) (rest := List.map (encM D.str api_Note.enc) vl2) (cur := some (vb1, (encM D.str api_Note.enc) ve1)) 1 <| oO hF [] [] rfl)))
    · exact tF h6 (awp_skip (outP h4 hF0 (outCur (idM := 0) (me := vme) (cl := vcl) (rest := List.map (encM D.str api_Note.enc) vl2) (cur := some (vb1, (encM D.str api_Note.enc) ve1)) 1 <| oO hF [] [] rfl)))

def z391 (qm : List (List UInt8 × api_Note)) (r : Int) : TV × Mem := (.i r, ⟨[], [(0, [.mapc .str true (List.map (encM D.str api_Note.enc) qm)])]⟩)

theorem z392 {qm : List (List UInt8 × api_Note)} {r} (hF : z390 qm = some r) : Holds prog 162 [.c (.mapp 0)] ⟨[], [(0, [.mapc .str true (List.map (encM D.str api_Note.enc) qm)])]⟩ (Is (z391 qm r)) := by
  unfold z390 at hF
  refine hW f162 19 1 1 ?_
  refine sR 1 (sR 1 (awp_seq (awp_seq (awp_region (aR 1 (aRange (ka := .str) (va := true) 0 (encM D.str api_Note.enc) qm rfl (fun vme vcl vhp => ?_)))))))
  refine aE ?_
  refine awp_block (awp_to (st' := z394 qm vme vcl vhp qm 0) (oT [(1, 3001)] []) ?_)
  refine rG (H := z394 qm vme vcl vhp) (k := z396) (S := z395 qm vme vcl vhp) hF (by intro x; exact fun h => nomatch h) (fun l s => z397 qm vme vcl vhp l s) (fun vk1_1 hF => ?_)
  exact sR 2 (awp_ret (oF hF [] []))

/-! ### (*beaconfleet/fleetmake.Stream).Range -/
def z532 (qs : z477) (qlow : Int) (qhigh : Int) (r : z477 × Int) : TV × Mem := (.i r.2, ⟨[], [(0, [.l (encI .i64) r.1.L, .i r.1.at_])]⟩)

theorem z533 {qs : z477} {qlow : Int} {qhigh : Int} {r} (hF : z531 qs qlow qhigh = some r) : Holds prog 13 [.c (.box 0 0), .i qlow, .i qhigh] ⟨[], [(0, [.l (encI .i64) qs.L, .i qs.at_])]⟩ (Is (z532 qs qlow qhigh r)) := by
  unfold z531 at hF
  refine hW f13 19 1 1 ?_
  refine sR 1 (awp_seq (sR 3 (cE hF (fun h1 hF => ?_) fun h1 hF => ?_)))
  · exact tT h1 (sR 2 (awp_ret (oF hF [] [])))
  · refine tF h1 (awp_skip (awp_seq (bE hF fun vr3 h2 hF => awp_region (aR 6 (aC (z508 h2) [] [] [] (aR 2 (aE ?_)))))))
    exact awp_ret (oF hF [] [])

/-! ### (*beaconfleet/fleetmake.Stream).Flip -/
def z479 (qs : z477) (qn : Int) (r : Bool) : TV × Mem := (.b r, ⟨[], [(0, [.l (encI .i64) qs.L, .i (IntKind.wrap .i64 (qs.at_ + 1))])]⟩)

theorem z480 {qs : z477} {qn : Int} {r} (hF : z478 qs qn = some r) : Holds prog 14 [.c (.box 0 0), .i qn] ⟨[], [(0, [.l (encI .i64) qs.L, .i qs.at_])]⟩ (Is (z479 qs qn r)) := by
  unfold z478 at hF
  refine hW f14 9 1 1 ?_
  refine sR 1 (awp_seq (bE hF fun vr3 h1 hF => awp_region (aR 2 (aC (z508 h1) [] [] [] (aR 2 (aE ?_))))))
  exact awp_ret (oF hF [] [])

/-! ### (*beaconfleet/fleetmake.Stream).Some -/
def z538 (qs : z477) (ql : List (List UInt8)) (r : (List UInt8)) : TV × Mem := (.c (.s r), ⟨[], [(0, [.l (encI .i64) qs.L, .i (IntKind.wrap .i64 (qs.at_ + 1))])]⟩)

theorem z539 {qs : z477} {ql : List (List UInt8)} {r} (hF : z537 qs ql = some r) : Holds prog 24 [.c (.box 0 0), .c (.own 1 none)] ⟨[(1, ⟨9, 1, List.map encS ql⟩)], [(0, [.l (encI .i64) qs.L, .i qs.at_])]⟩ (Is (z538 qs ql r)) := by
  unfold z537 at hF
  refine hW f24 12 2 2 ?_
  refine sR 1 (awp_to (oT (m := ⟨[], [(0, [.l (encI .i64) qs.L, .i qs.at_])]⟩) (ts := [(0, .c (.box 0 0)), (1, .c (.l encS ql))]) (nx := 2) [] []) ?_)
  refine awp_seq (bE hF fun vr3 h1 hF => bE hF fun vy h2 hF => awp_region (aR 3 (aL encS ql (aC (z508 h1) [] [] [] (aX (x_idx encS h2) (aR 2 (aE ?_)))))))
  exact awp_ret (oF hF [] [])

/-! ### (*beaconfleet/fleetmake.Stream).RightLetter -/
def z535 (qs : z477) (qat : Int) (r : api_Letter) : TV × Mem := (.v (.agg [.s r.Id, .s r.Slot, .s r.Body, .i r.Prio, .i r.At, .i r.Until]), ⟨[], [(0, [.l (encI .i64) qs.L, .i (IntKind.wrap .i64 ((IntKind.wrap .i64 ((IntKind.wrap .i64 ((IntKind.wrap .i64 ((IntKind.wrap .i64 (qs.at_ + 1)) + 1)) + 1)) + 1)) + 1))])]⟩)

theorem z536 {qs : z477} {qat : Int} {r} (hF : z534 qs qat = some r) : Holds prog 66 [.c (.box 0 0), .i qat] ⟨[], [(0, [.l (encI .i64) qs.L, .i qs.at_])]⟩ (Is (z535 qs qat r)) := by
  unfold z534 at hF
  refine hW f66 24 1 1 ?_
  refine sR 1 (awp_seq (bE hF fun vr h1 hF => bE hF fun vr1 h2 hF => bE hF fun vr2 h3 hF => bE hF fun vr3 h4 hF => bE hF fun vr4 h5 hF => awp_region (aR 2 (aC (z539 h1) [(1, 2001)] [] [] (aR 2 (aC (z539 h2) [(1, 5001)] [] [] (aR 2 (aC (z539 h3) [(1, 8001)] [] [] ?_))))))))
  refine aR 2 (aC (z530 h4) [(1, 11001)] [] [] (aR 4 (aC (z530 h5) [(1, 16001)] [] [] (aR 3 (aE ?_)))))
  exact awp_ret (oF hF [] [])

/-! ### strings.Repeat -/
def z1122 (qx : List UInt8) (qx1 : Int) (r : List UInt8) : TV × Mem := (.c (.s r), ⟨[], []⟩)

theorem z1123 {qx : List UInt8} {qx1 : Int} {r} (hF : strings_Repeat qx qx1 = some r) : Holds prog 67 [.c (.s qx), .i qx1] ⟨[], []⟩ (Is (z1122 qx qx1 r)) := by
  unfold strings_Repeat at hF
  refine gE hF fun h1 hF => ?_
  obtain rfl := Option.some.inj hF
  have h2 : (0 ≤ qx1 ∧ qx1 ≤ 9223372036854775807) ∧ qx.length * qx1.toNat ≤ 140737488355328 := by simpa using h1
  have h3 : ((qx1.toNat : Nat) : Int) = qx1 := Int.toNat_of_nonneg h2.1.1
  refine holds_lib (args := [.str qx, .int .i64 qx1]) (tv := .c (.s (Lib.repeatL qx qx1.toNat))) ⟨_, cB Go.Proofs.Tryz.f67, Go.Proofs.Tryz.func67, by kernel_rfl, by kernel_rfl⟩ rfl rfl fun w ht => ?_
  have h4 := Go.Proofs.Any.strings_Repeat Go.Proofs.Tryz.lays105 Go.Proofs.Tryz.Builder_Extra_105 ⟨qx.toArray⟩ qx1.toNat w (by omega) (by simpa [ByteArray.size] using h2.2)
  rw [h3] at h4
  exact h4

/-! ### (*beaconfleet/fleetmake.Stream).Odd -/
def z526 (qs : z477) (qlow : Int) (qhigh : Int) (r : z477 × Int) : TV × Mem := (.i r.2, ⟨[], [(0, [.l (encI .i64) r.1.L, .i r.1.at_])]⟩)

theorem z527 {qs : z477} {qlow : Int} {qhigh : Int} {r} (hF : z525 qs qlow qhigh = some r) : Holds prog 68 [.c (.box 0 0), .i qlow, .i qhigh] ⟨[], [(0, [.l (encI .i64) qs.L, .i qs.at_])]⟩ (Is (z526 qs qlow qhigh r)) := by
  unfold z525 at hF
  refine hW f68 22 1 1 ?_
  refine sR 1 (awp_seq (awp_seq (bE hF fun vr h1 hF => awp_region (aR 1 (aC (z480 h1) [] [] [] (aE ?_))))))
  refine cE hF (fun h2 hF => ?_) fun h2 hF => ?_
  · refine tT h2 (awp_seq (bE hF fun vr1 h3 hF => awp_region (aR 8 (aC (z530 h3) [(1, 10001)] [] [] (aR 1 (aE ?_))))))
    exact awp_ret (oF hF [] [])
  · refine tF h2 (awp_skip (awp_seq (bE hF fun x h4 hF => ?_)))
    obtain ⟨vs, vr2⟩ := x
    refine awp_region (aR 3 (aC (z533 h4) [] [] [] (aR 1 (aE ?_))))
    exact awp_ret (oF hF [] [])

/-! ### (*beaconfleet/fleetmake.Stream).Letter -/
def z486 (qs : z477) (vr5 : api_Letter) : (z477 × api_Letter) → St
  | (vs, vl) => Mem.st ⟨[], [(0, [.l (encI .i64) vs.L, .i vs.at_]), (1, [.s ([] : List UInt8), .s ([] : List UInt8), .s ([] : List UInt8), .i 0, .i 0, .i 0]), (2, [.s vl.Id, .s vl.Slot, .s vl.Body, .i vl.Prio, .i vl.At, .i vl.Until])]⟩ (tl [(4, .c (.box 1 0)), (5, .c (.box 2 0))]) 3

def z485 (qs : z477) (vr5 : api_Letter) : St := Mem.st ⟨[], [(0, [.l (encI .i64) qs.L, .i (IntKind.wrap .i64 ((IntKind.wrap .i64 ((IntKind.wrap .i64 ((IntKind.wrap .i64 ((IntKind.wrap .i64 (qs.at_ + 1)) + 1)) + 1)) + 1)) + 1))]), (1, [.s ([] : List UInt8), .s ([] : List UInt8), .s ([] : List UInt8), .i 0, .i 0, .i 0]), (2, [.s vr5.Id, .s vr5.Slot, .s vr5.Body, .i vr5.Prio, .i vr5.At, .i vr5.Until])]⟩ (tl [(0, .c (.box 0 0)), (4, .c (.box 1 0)), (5, .c (.box 2 0))]) 3

theorem z487 (qs : z477) (vr5 : api_Letter) {r} (hF : z484 qs vr5 = some r) : Awp prog 1 44 (cL (cR (cR (cB f15)))) (Out 1 nrm (z486 qs vr5) r) (z485 qs vr5) := by
  unfold z484 at hF
  refine awp_seq (bE hF fun vr h2 hF => awp_region (aR 1 (aC (z480 h2) [] [] [] (aE ?_))))
  refine cE hF (fun h3 hF => ?_) fun h3 hF => ?_
  · refine tT h3 (awp_seq (bE hF fun vr3 h4 hF => awp_region (aR 1 (aC (z508 h4) [] [] [] (aE ?_)))))
    refine awp_block (sR 2 (cE hF (fun h5 hF => ?_) fun h5 hF => ?_))
    · refine tT h5 (bE hF fun vr1 h6 hF => awp_region (aR 2 (aC (z539 h6) [(1, 7003)] [] [] (aR 2 (aE ?_)))))
      exact oO hF [] [] rfl
    · refine tF h5 (sR 2 (cE hF (fun h7 hF => ?_) fun h7 hF => ?_))
      · refine tT h7 (bE hF fun vr2 h8 hF => awp_region (aR 2 (aC (z539 h8) [(1, 9003)] [] [] (aR 2 (aE ?_)))))
        exact oO hF [] [] rfl
      · refine tF h7 (sR 2 (cE hF (fun h9 hF => ?_) fun h9 hF => ?_))
        · refine tT h9 (bE hF fun vr4 h10 hF => bE hF fun vr6 h11 hF => awp_region (aR 1 (aC (z1123 h10) [] [] [] (aR 1 (aC (z539 h11) [(1, 12003)] [] [] (aR 2 (aE ?_)))))))
          exact oO hF [] [] rfl
        · refine tF h9 (sR 2 (cE hF (fun h12 hF => ?_) fun h12 hF => ?_))
          · refine tT h12 (bE hF fun x h13 hF => ?_)
            obtain ⟨vs1, vr3_1⟩ := x
            refine awp_region (aR 1 (aC (z527 h13) [] [] [] (aR 2 (aE ?_))))
            exact oO hF [] [] rfl
          · refine tF h12 (bE hF fun x h14 hF => ?_)
            obtain ⟨vs1_1, vr3_2⟩ := x
            refine bE hF fun x h15 hF => ?_
            obtain ⟨vs1_2, vr3_3⟩ := x
            refine awp_region (aR 1 (aC (z527 h14) [] [] [] (aR 1 (aC (z527 h15) [] [] [] (aR 4 (aE ?_))))))
            exact oO hF [] [] rfl
  · exact tF h3 (awp_skip (oO hF [] [] rfl))

def z482 (qs : z477) (qat : Int) (r : z477 × api_Letter) : TV × Mem := (.v (.agg [.s r.2.Id, .s r.2.Slot, .s r.2.Body, .i r.2.Prio, .i r.2.At, .i r.2.Until]), ⟨[], [(0, [.l (encI .i64) r.1.L, .i r.1.at_])]⟩)

theorem z483 {qs : z477} {qat : Int} {r} (hF : z481 qs qat = some r) : Holds prog 15 [.c (.box 0 0), .i qat] ⟨[], [(0, [.l (encI .i64) qs.L, .i qs.at_])]⟩ (Is (z482 qs qat r)) := by
  unfold z481 at hF
  refine hW f15 44 1 1 ?_
  refine sR 1 (awp_seq (bE hF fun vr5 h1 hF => awp_region (aR 2 (aC (z536 h1) [] [] [] (aR 2 (aE ?_))))))
  refine awp_seq (awp_to (st' := z485 qs vr5) (oT [(2, 4001)] []) ?_)
  refine bE hF fun x h16 hF => ?_
  obtain ⟨vs2, vl1⟩ := x
  refine awp_sub (z487 qs vr5 h16) ?_
  exact sR 2 (awp_ret (oF hF [] []))

/-! ### (*beaconfleet/command.Doer).Do$1 -/
def z204 (qx : z386) (qx1 : api_Letter) (r : Unit) : TV × Mem := (.b (decide (qx.id_ = qx1.Id)), ⟨[], [(0, [.s qx1.Id, .s qx1.Slot, .s qx1.Body, .i qx1.Prio, .i qx1.At, .i qx1.Until])]⟩)

theorem z205 {qx : z386} {qx1 : api_Letter} {r} (hF : z203 qx qx1 = some r) : Holds prog 71 [.v (.agg [.s qx.id_, .i qx.until_]), .c (.box 0 0)] ⟨[], [(0, [.s qx1.Id, .s qx1.Slot, .s qx1.Body, .i qx1.Prio, .i qx1.At, .i qx1.Until])]⟩ (Is (z204 qx qx1 r)) := by
  unfold z203 at hF
  refine hW f71 9 1 1 ?_
  exact sR 2 (sR 6 (awp_ret (oF hF [] [])))

/-! ### slices.IndexFunc[[]beaconfleet/command.done,beaconfleet/command.done] -/
def z795 : Unit ⊕ Int → AEx
  | .inl _ => .exit 0
  | .inr _ => .ret

def z794 (qs : List z386) (qf : api_Letter) : Unit ⊕ Int → St
  | .inl _ => Mem.st ⟨[], [(0, [.s qf.Id, .s qf.Slot, .s qf.Body, .i qf.Prio, .i qf.At, .i qf.Until])]⟩ (tl []) 1
  | .inr vx1 => Mem.st ⟨[], [(0, [.s qf.Id, .s qf.Slot, .s qf.Body, .i qf.Prio, .i qf.At, .i qf.Until])]⟩ (tl [(4, .i vx1)]) 1

def z793 (qs : List z386) (qf : api_Letter) : Int → St
  | vx => Mem.st ⟨[], [(0, [.s qf.Id, .s qf.Slot, .s qf.Body, .i qf.Prio, .i qf.At, .i qf.Until])]⟩ (tl [(0, .c (.l z386.enc qs)), (1, .c (.fn 71 [0])), (7, .i (qs.length : Int)), (8, .i vx)]) 1

theorem z796 (qs : List z386) (qf : api_Letter) (vx : Int) (r : (Int) ⊕ (Unit ⊕ Int)) (hF : z792 qs qf vx = some r) : Awp prog 1 19 (cL (cL (cR (cL (cR (cB f169)))))) (Out 1 (kk z795) (SS (z793 qs qf) (z794 qs qf)) r) (z793 qs qf vx) := by
  unfold z792 at hF
  refine sR 1 (awp_seq (cE hF (fun h1 hF => ?_) fun h1 hF => ?_))
  · refine tT h1 (awp_skip (awp_seq (awp_block (sR 2 (awp_seq (bE hF fun vy1 h2 hF => bE hF fun _ h3 hF => awp_region (aR 3 (aX (x_idx z386.enc h2) (aR 1 (aC (z205 h3) [] [] [] (aE ?_)))))))))))
    refine cE hF (fun h4 hF => ?_) fun h4 hF => ?_
    · exact tT h4 (sR 2 (awp_ret (oO hF [] [] rfl)))
    · exact tF h4 (awp_skip (gR 2 (oO hF [] [] rfl)))
  · refine tF h1 (awp_exit ?_)
    exact oO hF [] [] rfl

def z790 (qs : List z386) (qf : api_Letter) (r : Int) : TV × Mem := (.i r, ⟨[], [(0, [.s qf.Id, .s qf.Slot, .s qf.Body, .i qf.Prio, .i qf.At, .i qf.Until])]⟩)

theorem z791 {qs : List z386} {qf : api_Letter} {r} (hF : z789 qs qf = some r) : Holds prog 169 [.c (.l z386.enc qs), .c (.fn 71 [0])] ⟨[], [(0, [.s qf.Id, .s qf.Slot, .s qf.Body, .i qf.Prio, .i qf.At, .i qf.Until])]⟩ (Is (z790 qs qf r)) := by
  unfold z789 at hF
  refine hW f169 19 1 1 ?_
  refine sR 1 (awp_seq (awp_seq (awp_region (aR 1 (aL z386.enc qs (aR 1 (aE ?_)))))))
  refine awp_block (awp_to (st' := z793 qs qf 0) (oT [] []) ?_)
  refine bE hF fun x h5 hF => ?_
  rcases x with _ | vx1_1
  · refine awp_sub (awp_loop' (z793 qs qf) z795 (z794 qs qf) (by intro x; rcases x with x | x <;> exact fun h => nomatch h) h5 (z796 qs qf)) ?_
    exact sR 1 (awp_ret (oF hF [] []))
  · refine awp_sub (awp_loop' (z793 qs qf) z795 (z794 qs qf) (by intro x; rcases x with x | x <;> exact fun h => nomatch h) h5 (z796 qs qf)) ?_
    exact oF hF [] []

/-! ### slices.ContainsFunc[[]beaconfleet/command.done,beaconfleet/command.done] -/
def z727 (qs : List z386) (qf : api_Letter) (r : Bool) : TV × Mem := (.b r, ⟨[], [(0, [.s qf.Id, .s qf.Slot, .s qf.Body, .i qf.Prio, .i qf.At, .i qf.Until])]⟩)

theorem z728 {qs : List z386} {qf : api_Letter} {r} (hF : z726 qs qf = some r) : Holds prog 70 [.c (.l z386.enc qs), .c (.fn 71 [0])] ⟨[], [(0, [.s qf.Id, .s qf.Slot, .s qf.Body, .i qf.Prio, .i qf.At, .i qf.Until])]⟩ (Is (z727 qs qf r)) := by
  unfold z726 at hF
  refine hW f70 9 1 1 ?_
  refine sR 1 (awp_seq (bE hF fun vr h1 hF => awp_region (aR 2 (aC (z791 h1) [] [] [] (aR 2 (aE ?_))))))
  exact awp_ret (oF hF [] [])

/-! ### slices.Clone[[]beaconfleet/command.done,beaconfleet/command.done] -/
def z670 (qs : List z386) (r : List z386) : TV × Mem := (.c (.own 0 none), ⟨[(0, ⟨117, 2, List.map z386.enc r⟩)], []⟩)

theorem z671 {qs : List z386} {r} (hF : z669 qs = some r) : Holds prog 72 [.c (.l z386.enc qs)] ⟨[], []⟩ (Is (z670 qs r)) := by
  unfold z669 at hF
  refine gE hF fun h1 hF => ?_
  refine hW f72 8 0 0 ?_
  refine sR 1 (awp_seq (awp_seq (awp_region (aR 1 (aN z386.enc qs (fun b hb => ?_) rfl)))))
  refine aE ?_
  cases b with
  | true =>
    obtain rfl := hb rfl
    exact tT rfl (sR 1 (awp_ret (oF hF [] [0])))
  | false =>
    refine tF rfl (awp_skip (awp_seq (awp_region (aR 2 (aX (x_app z386.enc 3000 h1) (aR 1 (aE ?_)))))))
    exact awp_ret (oF hF [(0, 5000)] [])

/-! ### slices.Delete[[]beaconfleet/command.done,beaconfleet/command.done] -/
def z730 (qs : List z386) (qi : Int) (qj : Int) (r : List z386) : TV × Mem := (.c (.own 1 none), ⟨[(1, ⟨117, 2, List.map z386.enc r⟩)], []⟩)

theorem z731 {qs : List z386} {qi : Int} {qj : Int} {r} (hF : z729 qs qi qj = some r) : Holds prog 73 [.c (.own 0 none), .i qi, .i qj] ⟨[(0, ⟨117, 2, List.map z386.enc qs⟩)], []⟩ (Is (z730 qs qi qj r)) := by
  unfold z729 at hF
  refine gE hF fun h1 hF => ?_
  obtain ⟨d1, d2, d3, d4, d5⟩ := del_facts h1
  refine hW f73 33 1 1 ?_
  refine sR 1 (awp_seq (awp_region (aR 4 (aL z386.enc qs (aS3 z386.enc 0 h1 rfl ?_)))))
  refine aE ?_
  refine awp_seq (sR 3 (cE hF (fun h2 hF => ?_) fun h2 hF => ?_))
  · exact tT h2 (sR 2 (awp_ret (oF hF [(1, 0)] [])))
  · refine tF h2 (awp_skip (awp_seq (awp_region (aR 1 (aL z386.enc qs (aR 1 (aE ?_)))))))
    refine awp_seq (aD ?_)
    refine dR 2 ?_
    refine dX (x_pre z386.enc 0 d1) ?_
    refine dR 2 ?_
    refine dX (x_viewN z386.enc 0 d2) ?_
    refine dAD z386.enc 0 d3 rfl ?_
    refine dR 1 ?_
    refine dE ?_
    refine awp_seq (awp_region (aR 4 (aVP z386.enc 19001 (p := qi.toNat + ((qs.length : Int).toNat - qj.toNat)) (xs := delX qs qi qj) (a := delA qs qi qj) (b := (qs.length : Int)) d4 rfl ?_)))
    refine aCl z386.enc 19001 (xs := delX qs qi qj) (y := (z386.mk ([] : List UInt8) 0)) (lo := delA qs qi qj) (hi := (qs.length : Int)) rfl ?_
    refine aE ?_
    refine awp_seq (awp_region (aTM z386.enc 19001 (et := 117) (sz := 2) (p := qi.toNat + ((qs.length : Int).toNat - qj.toNat)) (xs := delY qs qi qj (z386.mk ([] : List UInt8) 0)) rfl ?_))
    refine aR 1 (aE ?_)
    exact awp_ret (oF ((congrArg some (d5 (z386.mk ([] : List UInt8) 0))).trans hF) [(1, 27001)] [])

/-! ### (*beaconfleet/command.Doer).Do -/
def z210 (qx : z201) (qx1 : api_Letter) (qx2 : Int) : Bool → St
  | vx => Mem.st ⟨[], [(0, [.i qx.most_, .l z386.enc qx.l_, .i qx.time_]), (1, [.s qx1.Id, .s qx1.Slot, .s qx1.Body, .i qx1.Prio, .i qx1.At, .i qx1.Until])]⟩ (tl [(0, .c (.box 0 0)), (2, .i qx2), (4, .c (.box 1 0)), (40, .b vx)]) 2

def z209 (qx : z201) (qx1 : api_Letter) (qx2 : Int) : St := Mem.st ⟨[], [(0, [.i qx.most_, .l z386.enc qx.l_, .i qx.time_]), (1, [.s qx1.Id, .s qx1.Slot, .s qx1.Body, .i qx1.Prio, .i qx1.At, .i qx1.Until])]⟩ (tl [(0, .c (.box 0 0)), (2, .i qx2), (4, .c (.box 1 0))]) 2

theorem z211 (qx : z201) (qx1 : api_Letter) (qx2 : Int) {r} (hF : z208 qx qx1 qx2 = some r) : Awp prog 1 101 (cL (cL (cR (cR (cR (cB f16)))))) (Out 1 nrm (z210 qx qx1 qx2) r) (z209 qx qx1 qx2) := by
  unfold z208 at hF
  refine cE hF (fun h6 hF => ?_) fun h6 hF => ?_
  · refine awp_region (aR 3 (aB h6 (aR 8 (aE ?_))))
    exact oO hF [] [] rfl
  · refine bE hF fun vr1_1 h7 hF => awp_region (aR 3 (aB h6 (aR 6 (aC (z728 h7) [(0, 1)] [] [] (aR 1 (aE ?_))))))
    exact oO hF [] [] rfl

def z224 (qx : z201) (qx2 : Int) (vx2 : List z386) (vx8 : Int) (vx9 : Int) : Int → St
  | vx11 => Mem.st ⟨[(1, ⟨117, 2, List.map z386.enc vx2⟩)], [(0, [.i qx.most_, .l z386.enc qx.l_, .i qx.time_])]⟩ (tl [(0, .c (.box 0 0)), (2, .i qx2), (9, .c (.own 1 none)), (10, .i vx11), (64, .c (.own 1 none)), (65, .i (vx2.length : Int)), (66, .i vx9)]) 2

def z223 (qx : z201) (qx2 : Int) (vx2 : List z386) (vx8 : Int) (vx9 : Int) : St := Mem.st ⟨[(1, ⟨117, 2, List.map z386.enc vx2⟩)], [(0, [.i qx.most_, .l z386.enc qx.l_, .i qx.time_])]⟩ (tl [(0, .c (.box 0 0)), (2, .i qx2), (9, .c (.own 1 none)), (10, .i vx8), (64, .c (.own 1 none)), (65, .i (vx2.length : Int)), (66, .i vx9)]) 2

theorem z225 (qx : z201) (qx2 : Int) (vx2 : List z386) (vx8 : Int) (vx9 : Int) {r} (hF : z222 vx2 vx8 vx9 = some r) : Awp prog 1 101 (cL (cR (cR (cL (cL (cR (cL (cR (cL (cR (cL (cL (cL (cR (cR (cR (cR (cR (cB f16))))))))))))))))))) (Out 1 nrm (z224 qx qx2 vx2 vx8 vx9) r) (z223 qx qx2 vx2 vx8 vx9) := by
  unfold z222 at hF
  refine awp_block (awp_seq (bE hF fun vy7 h14 hF => awp_region (aR 1 (aX (x_idxO z386.enc 1 h14) (aX (x_ldE z386.enc h14) (aR 3 (aE ?_)))))))
  refine awp_seq (bE hF fun vy8 h15 hF => aD ?_)
  refine dR 4 ?_
  refine dX (x_idxO z386.enc 1 h15) ?_
  refine dR 1 ?_
  refine dX (x_ldE z386.enc h15) ?_
  refine dR 1 ?_
  refine dE ?_
  refine cE hF (fun h16 hF => ?_) fun h16 hF => ?_
  · exact tT h16 (gR 2 (oO hF [] [] rfl))
  · exact tF h16 (awp_skip (oO hF [] [] rfl))

def z220 : Int → AEx
  | _ => .exit 3

def z219 (qx : z201) (qx2 : Int) (vx2 : List z386) : Int → St
  | vx12 => Mem.st ⟨[(1, ⟨117, 2, List.map z386.enc vx2⟩)], [(0, [.i qx.most_, .l z386.enc qx.l_, .i qx.time_])]⟩ (tl [(0, .c (.box 0 0)), (2, .i qx2), (9, .c (.own 1 none)), (10, .i vx12)]) 2

def z218 (qx : z201) (qx2 : Int) (vx2 : List z386) : Int × Int → St
  | (vx8, vx9) => Mem.st ⟨[(1, ⟨117, 2, List.map z386.enc vx2⟩)], [(0, [.i qx.most_, .l z386.enc qx.l_, .i qx.time_])]⟩ (tl [(0, .c (.box 0 0)), (2, .i qx2), (9, .c (.own 1 none)), (10, .i vx8), (64, .c (.own 1 none)), (65, .i (vx2.length : Int)), (66, .i vx9)]) 2

theorem z221 (qx : z201) (qx2 : Int) (vx2 : List z386) (s : Int × Int) (r : (Int × Int) ⊕ (Int)) (hF : z217 vx2 s = some r) : Awp prog 1 101 (cL (cL (cR (cL (cR (cL (cR (cL (cL (cL (cR (cR (cR (cR (cR (cB f16)))))))))))))))) (Out 1 (kk z220) (SS (z218 qx qx2 vx2) (z219 qx qx2 vx2)) r) (z218 qx qx2 vx2 s) := by
  obtain ⟨vx8, vx9⟩ := s
  unfold z217 at hF
  refine sR 1 (awp_seq (cE hF (fun h13 hF => ?_) fun h13 hF => ?_))
  · refine tT h13 (awp_skip (awp_seq (awp_to (st' := z223 qx qx2 vx2 vx8 vx9) (oT [] []) ?_)))
    refine bE hF fun vx11_1 h17 hF => awp_sub (z225 qx qx2 vx2 vx8 vx9 h17) ?_
    exact gR 2 (oO hF [] [] rfl)
  · refine tF h13 (awp_exit ?_)
    exact oO hF [] [] rfl

def z215 : (List z386) ⊕ Unit → AEx
  | .inl _ => .exit 1
  | .inr _ => .ret

def z214 (qx : z201) (qx2 : Int) : (List z386) ⊕ Unit → St
  | .inl vx13 => Mem.st ⟨[(1, ⟨117, 2, List.map z386.enc vx13⟩)], [(0, [.i qx.most_, .l z386.enc qx.l_, .i qx.time_])]⟩ (tl [(0, .c (.box 0 0)), (2, .i qx2), (9, .c (.own 1 none))]) 2
  | .inr _ => Mem.st ⟨[], [(0, [.i qx.most_, .l z386.enc qx.l_, .i qx.time_])]⟩ (tl [(6, .b false), (7, .i 12)]) 1

def z213 (qx : z201) (qx2 : Int) : (List z386) → St
  | vx2 => Mem.st ⟨[(1, ⟨117, 2, List.map z386.enc vx2⟩)], [(0, [.i qx.most_, .l z386.enc qx.l_, .i qx.time_])]⟩ (tl [(0, .c (.box 0 0)), (2, .i qx2), (9, .c (.own 1 none))]) 2

theorem z216 (qx : z201) (qx2 : Int) (vx2 : (List z386)) (r : ((List z386)) ⊕ ((List z386) ⊕ Unit)) (hF : z212 qx qx2 vx2 = some r) : Awp prog 1 101 (cL (cL (cL (cR (cR (cR (cR (cR (cB f16))))))))) (Out 1 (kk z215) (SS (z213 qx qx2) (z214 qx qx2)) r) (z213 qx qx2 vx2) := by
  unfold z212 at hF
  refine awp_seq (awp_seq (awp_region (aR 1 (aL z386.enc vx2 (aR 5 (aE ?_))))))
  refine cE hF (fun h12 hF => ?_) fun h12 hF => ?_
  · refine tT h12 (awp_skip (awp_block (sR 1 (awp_seq (awp_seq (awp_region (aR 1 (aL z386.enc vx2 (aR 1 (aE ?_))))))))))
    refine awp_block (awp_to (st' := z218 qx qx2 vx2 (0, 0)) (oT [] []) ?_)
    refine bE hF fun vx12_1 h18 hF => awp_sub (awp_loop' (z218 qx qx2 vx2) z220 (z219 qx qx2 vx2) (by intro x; exact fun h => nomatch h) h18 (z221 qx qx2 vx2)) ?_
    refine awp_seq (awp_seq (bE hF fun vy9 h19 hF => awp_region (aR 2 (aX (x_idxO z386.enc 1 h19) (aR 1 (aX (x_ldE z386.enc h19) (aR 2 (aE ?_))))))))
    refine cE hF (fun h20 hF => ?_) fun h20 hF => ?_
    · exact tT h20 (sR 2 (awp_ret (oO hF [] [] rfl)))
    · refine tF h20 (awp_skip (bE hF fun vr4 h21 hF => awp_region (aR 4 (aC (z731 h21) [(0, 1)] [] [] (aR 1 (aE ?_))))))
      exact oO hF [(1, 11003)] [] rfl
  · refine tF h12 (awp_exit ?_)
    exact oO hF [] [] rfl

def z206 (qx : z201) (qx1 : api_Letter) (qx2 : Int) (r : (List z386) × Int × Bool × Int) : TV × Mem := (.tup [.one (.t r.2.2.1), .one (.i r.2.2.2)], ⟨[], [(0, [.i qx.most_, .l z386.enc r.1, .i r.2.1])]⟩)

theorem z207 {qx : z201} {qx1 : api_Letter} {qx2 : Int} {r} (hF : z202 qx qx1 qx2 = some r) : Holds prog 16 [.c (.box 0 0), .v (.agg [.s qx1.Id, .s qx1.Slot, .s qx1.Body, .i qx1.Prio, .i qx1.At, .i qx1.Until]), .i qx2] ⟨[], [(0, [.i qx.most_, .l z386.enc qx.l_, .i qx.time_])]⟩ (Is (z206 qx qx1 qx2 r)) := by
  unfold z202 at hF
  refine hW f16 101 1 1 ?_
  refine sR 3 (awp_seq (awp_seq (bE hF fun vr3 h1 hF => awp_region (aR 1 (aC (z160 h1) [] [] [] (aR 1 (aE ?_)))))))
  refine sR 2 (cE hF (fun h2 hF => ?_) fun h2 hF => ?_)
  · exact tT h2 (sR 3 (awp_ret (oF hF [] [])))
  · refine tF h2 (awp_skip (awp_seq (awp_block (awp_seq (bE hF fun vr1 h3 hF => awp_region (aR 1 (aC (z43 h3) [] [] [] (aR 2 (aE ?_)))))))))
    refine cE hF (fun h4 hF => ?_) fun h4 hF => ?_
    · exact tT h4 (sR 2 (awp_ret (oF hF [] [])))
    · refine tF h4 (sR 7 (cE hF (fun h5 hF => ?_) fun h5 hF => ?_))
      · exact tT h5 (sR 2 (awp_ret (oF hF [] [])))
      · refine tF h5 (awp_skip (awp_seq (awp_seq (awp_to (st' := z209 qx qx1 qx2) (oT [] []) ?_))))
        refine bE hF fun vx1 h8 hF => awp_sub (z211 qx qx1 qx2 h8) ?_
        refine cE hF (fun h9 hF => ?_) fun h9 hF => ?_
        · exact tT h9 (sR 5 (sR 2 (awp_ret (oF hF [] []))))
        · refine tF h9 (awp_skip (awp_seq (bE hF fun vr h10 hF => gE hF fun h11 hF => ?_)))
          refine aD ?_
          refine dR 4 ?_
          refine dC (z671 h10) [] [] [] ?_
          refine dR 6 ?_
          refine dX (x_app z386.enc 4002 h11) ?_
          refine dR 1 ?_
          refine dE ?_
          refine awp_seq (awp_block (awp_to (st' := z213 qx qx2 (vr ++ ([z386.mk qx1.Id qx1.Until] : List z386))) (oT [(1, 11002)] []) ?_))
          refine bE hF fun x h22 hF => ?_
          rcases x with vx13_1 | _
          · refine awp_sub (awp_loop' (z213 qx qx2) z215 (z214 qx qx2) (by intro x; rcases x with x | x <;> exact fun h => nomatch h) h22 (z216 qx qx2)) ?_
            exact sR 10 (sR 2 (awp_ret (oF hF [] [])))
          · refine awp_sub (awp_loop' (z213 qx qx2) z215 (z214 qx qx2) (by intro x; rcases x with x | x <;> exact fun h => nomatch h) h22 (z216 qx qx2)) ?_
            exact oF hF [] []

/-! ### internal/stringslite.IndexByte -/
def z1176 (qs : List UInt8) (qc : Int) (r : Unit) : TV × Mem := (.i (Lib.indexByte qs qc.toNat.toUInt8), ⟨[], []⟩)

theorem z1177 {qs : List UInt8} {qc : Int} {r} (hF : z1175 qs qc = some r) : Holds prog 292 [.c (.s qs), .c (.d (.int .u8 qc))] ⟨[], []⟩ (Is (z1176 qs qc r)) := by
  unfold z1175 at hF
  refine hW f292 8 0 0 ?_
  refine sR 1 (awp_seq (awp_region (aR 2 (aS (does_indexByte (g := 331) (fn := f331) (a := qs) (c := qc) rfl (by kernel_rfl) (by kernel_rfl) (by kernel_rfl) (by kernel_rfl) (by kernel_rfl) (by kernel_rfl)) ?_))))
  refine aR 1 (aE ?_)
  exact awp_ret (oF hF [] [])

/-! ### slices.Clone[[]beaconfleet/api.Letter,beaconfleet/api.Letter] -/
def z667 (qs : List api_Letter) (r : List api_Letter) : TV × Mem := (.c (.own 0 none), ⟨[(0, ⟨40, 6, List.map api_Letter.enc r⟩)], []⟩)

theorem z668 {qs : List api_Letter} {r} (hF : z666 qs = some r) : Holds prog 35 [.c (.l api_Letter.enc qs)] ⟨[], []⟩ (Is (z667 qs r)) := by
  unfold z666 at hF
  refine gE hF fun h1 hF => ?_
  refine hW f35 8 0 0 ?_
  refine sR 1 (awp_seq (awp_seq (awp_region (aR 1 (aN api_Letter.enc qs (fun b hb => ?_) rfl)))))
  refine aE ?_
  cases b with
  | true =>
    obtain rfl := hb rfl
    exact tT rfl (sR 1 (awp_ret (oF hF [] [0])))
  | false =>
    refine tF rfl (awp_skip (awp_seq (awp_region (aR 2 (aX (x_app api_Letter.enc 3000 h1) (aR 1 (aE ?_)))))))
    exact awp_ret (oF hF [(0, 5000)] [])

/-! ### (*beaconfleet/command.Doer).Done -/
def z232 : (List (List UInt8)) → AEx
  | _ => .exit 0

def z231 (qd : z201) : (List (List UInt8)) → St
  | vout1 => Mem.st ⟨[(1, ⟨9, 1, List.map encS vout1⟩)], [(0, [.i qd.most_, .l z386.enc qd.l_, .i qd.time_])]⟩ (tl [(3, .c (.own 1 none))]) 2

def z230 (qd : z201) : (List (List UInt8)) × Int → St
  | (vout, vx) => Mem.st ⟨[(1, ⟨9, 1, List.map encS vout⟩)], [(0, [.i qd.most_, .l z386.enc qd.l_, .i qd.time_])]⟩ (tl [(3, .c (.own 1 none)), (9, .c (.l z386.enc qd.l_)), (10, .i (qd.l_.length : Int)), (11, .i vx)]) 2

theorem z233 (qd : z201) (s : (List (List UInt8)) × Int) (r : ((List (List UInt8)) × Int) ⊕ ((List (List UInt8)))) (hF : z229 qd s = some r) : Awp prog 1 22 (cL (cL (cR (cL (cR (cR (cB f19))))))) (Out 1 (kk z232) (SS (z230 qd) (z231 qd)) r) (z230 qd s) := by
  obtain ⟨vout, vx⟩ := s
  unfold z229 at hF
  refine sR 1 (awp_seq (cE hF (fun h1 hF => ?_) fun h1 hF => ?_))
  · refine tT h1 (awp_skip (awp_seq (awp_block (awp_seq (bE hF fun vy1 h2 hF => awp_region (aX (x_idx z386.enc h2) (aR 3 (aE ?_))))))))
    refine gE hF fun h3 hF => ?_
    refine awp_region (aR 4 (aX (x_app encS 1 h3) (aR 1 (aE ?_))))
    exact gR 2 (oO hF [(1, 9002)] [] rfl)
  · refine tF h1 (awp_exit ?_)
    exact oO hF [] [] rfl

def z227 (qd : z201) (r : (List (List UInt8))) : TV × Mem := (.c (.own 1 none), ⟨[(1, ⟨9, 1, List.map encS r⟩)], [(0, [.i qd.most_, .l z386.enc qd.l_, .i qd.time_])]⟩)

theorem z228 {qd : z201} {r} (hF : z226 qd = some r) : Holds prog 19 [.c (.box 0 0)] ⟨[], [(0, [.i qd.most_, .l z386.enc qd.l_, .i qd.time_])]⟩ (Is (z227 qd r)) := by
  unfold z226 at hF
  refine hW f19 22 1 1 ?_
  refine sR 1 (sR 1 (awp_seq (awp_seq (awp_region (aR 4 (aL z386.enc qd.l_ (aR 1 (aE ?_))))))))
  refine awp_block (awp_to (st' := z230 qd ([], 0)) (oT [] [1]) ?_)
  refine bE hF fun vout1_1 h4 hF => awp_sub (awp_loop' (z230 qd) z232 (z231 qd) (by intro x; exact fun h => nomatch h) h4 (z233 qd)) ?_
  exact sR 2 (awp_ret (oF hF [] []))

/-! ### slices.Equal[[]string,string] -/
def z762 : Unit ⊕ Unit → AEx
  | .inl _ => .exit 0
  | .inr _ => .ret

def z761 (qs1 : List (List UInt8)) (qs2 : List (List UInt8)) : Unit ⊕ Unit → St
  | .inl _ => Mem.st ⟨[], []⟩ (tl []) 0
  | .inr _ => Mem.st ⟨[], []⟩ (tl [(4, .b false)]) 0

def z760 (qs1 : List (List UInt8)) (qs2 : List (List UInt8)) : Int → St
  | vx => Mem.st ⟨[], []⟩ (tl [(0, .c (.l encS qs1)), (1, .c (.l encS qs2)), (12, .i (qs1.length : Int)), (13, .i vx)]) 0

theorem z763 (qs1 : List (List UInt8)) (qs2 : List (List UInt8)) (vx : Int) (r : (Int) ⊕ (Unit ⊕ Unit)) (hF : z759 qs1 qs2 vx = some r) : Awp prog 0 26 (cL (cL (cR (cL (cR (cR (cB f18))))))) (Out 0 (kk z762) (SS (z760 qs1 qs2) (z761 qs1 qs2)) r) (z760 qs1 qs2 vx) := by
  unfold z759 at hF
  refine sR 1 (awp_seq (cE hF (fun h2 hF => ?_) fun h2 hF => ?_))
  · refine tT h2 (awp_skip (awp_seq (awp_block (sR 2 (awp_seq (bE hF fun vy2 h3 hF => bE hF fun vy3 h4 hF => aD ?_))))))
    refine dR 2 ?_
    refine dX (x_idx encS h3) ?_
    refine dR 3 ?_
    refine dX (x_idx encS h4) ?_
    refine dR 2 ?_
    refine dE ?_
    refine cE hF (fun h5 hF => ?_) fun h5 hF => ?_
    · exact tT h5 (sR 1 (awp_ret (oO hF [] [] rfl)))
    · exact tF h5 (awp_skip (gR 2 (oO hF [] [] rfl)))
  · refine tF h2 (awp_exit ?_)
    exact oO hF [] [] rfl

def z757 (qs1 : List (List UInt8)) (qs2 : List (List UInt8)) (r : Bool) : TV × Mem := (.b r, ⟨[], []⟩)

theorem z758 {qs1 : List (List UInt8)} {qs2 : List (List UInt8)} {r} (hF : z756 qs1 qs2 = some r) : Holds prog 18 [.c (.l encS qs1), .c (.l encS qs2)] ⟨[], []⟩ (Is (z757 qs1 qs2 r)) := by
  unfold z756 at hF
  refine hW f18 26 0 0 ?_
  refine sR 1 (awp_seq (awp_seq (awp_region (aR 1 (aL encS qs1 (aR 1 (aL encS qs2 (aR 1 (aE ?_)))))))))
  refine cE hF (fun h1 hF => ?_) fun h1 hF => ?_
  · exact tT h1 (sR 1 (awp_ret (oF hF [] [])))
  · refine tF h1 (awp_skip (awp_seq (awp_seq (awp_region (aR 1 (aL encS qs1 (aR 1 (aE ?_))))))))
    refine awp_block (awp_to (st' := z760 qs1 qs2 0) (oT [] []) ?_)
    refine bE hF fun x h6 hF => ?_
    rcases x with _ | _
    · refine awp_sub (awp_loop' (z760 qs1 qs2) z762 (z761 qs1 qs2) (by intro x; rcases x with x | x <;> exact fun h => nomatch h) h6 (z763 qs1 qs2)) ?_
      exact sR 1 (awp_ret (oF hF [] []))
    · refine awp_sub (awp_loop' (z760 qs1 qs2) z762 (z761 qs1 qs2) (by intro x; rcases x with x | x <;> exact fun h => nomatch h) h6 (z763 qs1 qs2)) ?_
      exact oF hF [] []

/-! ### (*beaconfleet/fleetmake.Stream).Letters$1 -/
def z490 (qa : api_Letter) (qb : api_Letter) (r : Unit) : TV × Mem := (.i (Lib.compareBytes qa.Id qb.Id), ⟨[], []⟩)

theorem z491 {qa : api_Letter} {qb : api_Letter} {r} (hF : z489 qa qb = some r) : Holds prog 100 [.v (.agg [.s qa.Id, .s qa.Slot, .s qa.Body, .i qa.Prio, .i qa.At, .i qa.Until]), .v (.agg [.s qb.Id, .s qb.Slot, .s qb.Body, .i qb.Prio, .i qb.At, .i qb.Until])] ⟨[], []⟩ (Is (z490 qa qb r)) := by
  unfold z489 at hF
  refine hW f100 10 0 0 ?_
  refine sR 3 (awp_seq (bE hF fun _ h1 hF => awp_region (aR 4 (aC (z1104 h1) [] [] [] (aR 1 (aE ?_))))))
  exact awp_ret (oF hF [] [])

/-! ### slices.insertionSortCmpFunc[beaconfleet/api.Letter] -/
def z844 (qa : Int) (qb : Int) (vi : Int) (vl3 : List api_Letter) (vj1 : Int) : Bool → St
  | vx4 => Mem.st ⟨[(0, ⟨40, 6, List.map api_Letter.enc vl3⟩)], []⟩ (tl [(0, .c (.own 0 none)), (1, .i qa), (2, .i qb), (3, .c (.fn 100 [])), (8, .i vi), (9, .i vj1), (34, .b vx4)]) 1

def z843 (qa : Int) (qb : Int) (vi : Int) (vl3 : List api_Letter) (vj1 : Int) : St := Mem.st ⟨[(0, ⟨40, 6, List.map api_Letter.enc vl3⟩)], []⟩ (tl [(0, .c (.own 0 none)), (1, .i qa), (2, .i qb), (3, .c (.fn 100 [])), (8, .i vi), (9, .i vj1)]) 1

theorem z845 (qa : Int) (qb : Int) (vi : Int) (vl3 : List api_Letter) (vj1 : Int) {r} (hF : z842 qa vl3 vj1 = some r) : Awp prog 1 53 (cL (cL (cL (cL (cR (cL (cL (cR (cL (cL (cR (cB f194)))))))))))) (Out 1 nrm (z844 qa qb vi vl3 vj1) r) (z843 qa qb vi vl3 vj1) := by
  unfold z842 at hF
  refine cE hF (fun h2 hF => ?_) fun h2 hF => ?_
  · refine bE hF fun vy15 h3 hF => bE hF fun vy16 h4 hF => bE hF fun _ h5 hF => aD ?_
    refine dR 2 ?_
    refine dB h2 ?_
    refine dR 4 ?_
    refine dX (x_idxO api_Letter.enc 0 h3) ?_
    refine dX (x_ldE api_Letter.enc h3) ?_
    refine dR 3 ?_
    refine dX (x_idxO api_Letter.enc 0 h4) ?_
    refine dX (x_ldE api_Letter.enc h4) ?_
    refine dC (z491 h5) [] [] [] ?_
    refine dR 2 ?_
    refine dE ?_
    exact oO hF [] [] rfl
  · refine aD ?_
    refine dR 2 ?_
    refine dB h2 ?_
    refine dR 14 ?_
    refine dE ?_
    exact oO hF [] [] rfl

def z840 : (List api_Letter) → AEx
  | _ => .exit 2

def z839 (qa : Int) (qb : Int) (vi : Int) : (List api_Letter) → St
  | vl4 => Mem.st ⟨[(0, ⟨40, 6, List.map api_Letter.enc vl4⟩)], []⟩ (tl [(0, .c (.own 0 none)), (1, .i qa), (2, .i qb), (3, .c (.fn 100 [])), (8, .i vi)]) 1

def z838 (qa : Int) (qb : Int) (vi : Int) : (List api_Letter) × Int → St
  | (vl3, vj1) => Mem.st ⟨[(0, ⟨40, 6, List.map api_Letter.enc vl3⟩)], []⟩ (tl [(0, .c (.own 0 none)), (1, .i qa), (2, .i qb), (3, .c (.fn 100 [])), (8, .i vi), (9, .i vj1)]) 1

theorem z841 (qa : Int) (qb : Int) (vi : Int) (s : (List api_Letter) × Int) (r : ((List api_Letter) × Int) ⊕ ((List api_Letter))) (hF : z837 qa s = some r) : Awp prog 1 53 (cL (cL (cR (cL (cL (cR (cL (cL (cR (cB f194)))))))))) (Out 1 (kk z840) (SS (z838 qa qb vi) (z839 qa qb vi)) r) (z838 qa qb vi s) := by
  obtain ⟨vl3, vj1⟩ := s
  unfold z837 at hF
  refine awp_seq (awp_seq (awp_to (st' := z843 qa qb vi vl3 vj1) (oT [] []) ?_))
  refine bE hF fun vx4_1 h6 hF => awp_sub (z845 qa qb vi vl3 vj1 h6) ?_
  refine cE hF (fun h7 hF => ?_) fun h7 hF => ?_
  · refine tT h7 (awp_skip (awp_seq (awp_block (bE hF fun vy17 h8 hF => bE hF fun vy18 h9 hF => bE hF fun vy19 h10 hF => aDw [0] ?_))))
    refine dR 8 ?_
    refine dI api_Letter.enc 0 h8 rfl ?_
    refine dX (x_ldE api_Letter.enc h8) ?_
    refine dR 2 ?_
    refine dI api_Letter.enc 0 h9 rfl ?_
    refine dX (x_ldE api_Letter.enc h9) ?_
    refine dI api_Letter.enc 0 h9 rfl ?_
    refine dW api_Letter.enc vy17 h9 rfl ?_
    refine dI api_Letter.enc 0 h10 rfl ?_
    refine dW api_Letter.enc vy18 h10 rfl ?_
    refine dE ?_
    exact gR 3 (oO hF [] [] rfl)
  · refine tF h7 (awp_exit ?_)
    exact oO hF [] [] rfl

def z835 : (List api_Letter) → AEx
  | _ => .exit 0

def z834 (qa : Int) (qb : Int) : (List api_Letter) → St
  | vl5 => Mem.st ⟨[(0, ⟨40, 6, List.map api_Letter.enc vl5⟩)], []⟩ (tl []) 1

def z833 (qa : Int) (qb : Int) : (List api_Letter) × Int → St
  | (vl, vi) => Mem.st ⟨[(0, ⟨40, 6, List.map api_Letter.enc vl⟩)], []⟩ (tl [(0, .c (.own 0 none)), (1, .i qa), (2, .i qb), (3, .c (.fn 100 [])), (8, .i vi)]) 1

theorem z836 (qa : Int) (qb : Int) (s : (List api_Letter) × Int) (r : ((List api_Letter) × Int) ⊕ ((List api_Letter))) (hF : z832 qa qb s = some r) : Awp prog 1 53 (cL (cL (cR (cB f194)))) (Out 1 (kk z835) (SS (z833 qa qb) (z834 qa qb)) r) (z833 qa qb s) := by
  obtain ⟨vl, vi⟩ := s
  unfold z832 at hF
  refine awp_seq (sR 3 (cE hF (fun h1 hF => ?_) fun h1 hF => ?_))
  · refine tT h1 (awp_skip (awp_seq (awp_block (sR 2 (awp_block (awp_to (st' := z838 qa qb vi (vl, vi)) (oT [] []) ?_))))))
    refine bE hF fun vl4_1 h11 hF => awp_sub (awp_loop' (z838 qa qb vi) z840 (z839 qa qb vi) (by intro x; exact fun h => nomatch h) h11 (z841 qa qb vi)) ?_
    exact gR 3 (oO hF [] [] rfl)
  · refine tF h1 (awp_exit ?_)
    exact oO hF [] [] rfl

def z830 (qdata : List api_Letter) (qa : Int) (qb : Int) (r : (List api_Letter)) : TV × Mem := (.tup [], ⟨[(0, ⟨40, 6, List.map api_Letter.enc r⟩)], []⟩)

theorem z831 {qdata : List api_Letter} {qa : Int} {qb : Int} {r} (hF : z829 qdata qa qb = some r) : Holds prog 194 [.c (.own 0 none), .i qa, .i qb, .c (.fn 100 [])] ⟨[(0, ⟨40, 6, List.map api_Letter.enc qdata⟩)], []⟩ (Is (z830 qdata qa qb r)) := by
  unfold z829 at hF
  refine hW f194 53 1 1 ?_
  refine sR 3 (awp_block (awp_to (st' := z833 qa qb (qdata, IntKind.wrap .i64 (qa + 1))) (oT [] []) ?_))
  refine bE hF fun vl5_1 h12 hF => awp_sub (awp_loop' (z833 qa qb) z835 (z834 qa qb) (by intro x; exact fun h => nomatch h) h12 (z836 qa qb)) ?_
  exact oF hF [] []

/-! ### slices.stableCmpFunc[beaconfleet/api.Letter] -/
def z935 : ((List api_Letter) × Int) → AEx
  | _ => .exit 0

def z934 (qn : Int) : ((List api_Letter) × Int) → St
  | (vl1, va1) => Mem.st ⟨[(0, ⟨40, 6, List.map api_Letter.enc vl1⟩)], []⟩ (tl [(0, .c (.own 0 none)), (1, .i qn), (2, .c (.fn 100 [])), (6, .i 20), (7, .i va1)]) 1

def z933 (qn : Int) : (List api_Letter) × Int × Int → St
  | (vl, va, vb) => Mem.st ⟨[(0, ⟨40, 6, List.map api_Letter.enc vl⟩)], []⟩ (tl [(0, .c (.own 0 none)), (1, .i qn), (2, .c (.fn 100 [])), (6, .i 20), (7, .i va), (8, .i vb)]) 1

theorem z936 (qn : Int) (s : (List api_Letter) × Int × Int) (r : ((List api_Letter) × Int × Int) ⊕ (((List api_Letter) × Int))) (hF : z932 qn s = some r) : Awp prog 1 63 (cL (cL (cL (cR (cR (cB f189)))))) (Out 1 (kk z935) (SS (z933 qn) (z934 qn)) r) (z933 qn s) := by
  obtain ⟨vl, va, vb⟩ := s
  unfold z932 at hF
  refine awp_seq (sR 3 (cE hF (fun h1 hF => ?_) fun h1 hF => ?_))
  · refine tT h1 (awp_skip (awp_block (awp_seq (bE hF fun vl6_1 h2 hF => gE hF fun h3 hF => ?_))))
    refine awp_region (aR 4 (aCp (z831 h2) ⟨⟨rfl, rfl, pin1 h3⟩, trivial⟩ [] [] [] ?_))
    refine aE ?_
    exact sR 2 (gR 4 (oO hF [] [] rfl))
  · refine tF h1 (awp_exit ?_)
    exact oO hF [] [] rfl

def z945 : Unit → AEx
  | _ => .exit 4

def z944 (qn : Int) (vl6_2 : List api_Letter) (vblockSize : Int) : Unit → St
  | _ => Mem.st ⟨[(0, ⟨40, 6, List.map api_Letter.enc vl6_2⟩)], []⟩ (tl [(0, .c (.own 0 none)), (1, .i qn), (2, .c (.fn 100 [])), (6, .i vblockSize), (7, .i 0)]) 1

def z943 (qn : Int) (vl6_2 : List api_Letter) (vblockSize : Int) : Unit → St
  | _ => Mem.st ⟨[(0, ⟨40, 6, List.map api_Letter.enc vl6_2⟩)], []⟩ (tl [(0, .c (.own 0 none)), (1, .i qn), (2, .c (.fn 100 [])), (6, .i vblockSize), (7, .i 0), (8, .i (IntKind.wrap .i64 ((2 : Int) * vblockSize)))]) 1

theorem z946 (qn : Int) (vl6_2 : List api_Letter) (vblockSize : Int) (s : Unit) (r : (Unit) ⊕ (Unit)) (hF : z942 qn vblockSize s = some r) : Awp prog 1 63 (cL (cL (cL (cR (cL (cR (cL (cL (cR (cR (cR (cR (cB f189))))))))))))) (Out 1 (kk z945) (SS (z943 qn vl6_2 vblockSize) (z944 qn vl6_2 vblockSize)) r) (z943 qn vl6_2 vblockSize s) := by
  unfold z942 at hF
  refine awp_seq (sR 3 (cE hF (fun h8 hF => ?_) fun h8 hF => ?_))
  · exact tT h8 (awp_skip (awp_block (awp_seq (nE hF))))
  · refine tF h8 (awp_exit ?_)
    exact oO hF [] [] rfl

def z940 : Unit → AEx
  | _ => .exit 2

def z939 (qn : Int) (vl6_2 : List api_Letter) : Unit → St
  | _ => Mem.st ⟨[(0, ⟨40, 6, List.map api_Letter.enc vl6_2⟩)], []⟩ (tl []) 1

def z938 (qn : Int) (vl6_2 : List api_Letter) : Int → St
  | vblockSize => Mem.st ⟨[(0, ⟨40, 6, List.map api_Letter.enc vl6_2⟩)], []⟩ (tl [(0, .c (.own 0 none)), (1, .i qn), (2, .c (.fn 100 [])), (6, .i vblockSize)]) 1

theorem z941 (qn : Int) (vl6_2 : List api_Letter) (vblockSize : Int) (r : (Int) ⊕ (Unit)) (hF : z937 qn vblockSize = some r) : Awp prog 1 63 (cL (cL (cR (cR (cR (cR (cB f189))))))) (Out 1 (kk z940) (SS (z938 qn vl6_2) (z939 qn vl6_2)) r) (z938 qn vl6_2 vblockSize) := by
  unfold z937 at hF
  refine awp_seq (sR 3 (cE hF (fun h7 hF => ?_) fun h7 hF => ?_))
  · refine tT h7 (awp_skip (awp_block (sR 4 (awp_seq (awp_block (awp_to (st' := z943 qn vl6_2 vblockSize ()) (oT [] []) ?_))))))
    refine bE hF fun _ h10 hF => awp_sub (awp_loop' (z943 qn vl6_2 vblockSize) z945 (z944 qn vl6_2 vblockSize) (by intro x; exact fun h => nomatch h) h10 (z946 qn vl6_2 vblockSize)) ?_
    refine awp_seq (sR 4 (sR 3 (cE hF (fun h11 hF => ?_) fun h11 hF => ?_)))
    · exact tT h11 (nE hF)
    · exact tF h11 (awp_skip (gR 3 (oO hF [] [] rfl)))
  · refine tF h7 (awp_exit ?_)
    exact oO hF [] [] rfl

def z930 (qdata : List api_Letter) (qn : Int) (r : (List api_Letter)) : TV × Mem := (.tup [], ⟨[(0, ⟨40, 6, List.map api_Letter.enc r⟩)], []⟩)

theorem z931 {qdata : List api_Letter} {qn : Int} {r} (hF : z929 qdata qn = some r) : Holds prog 189 [.c (.own 0 none), .i qn, .c (.fn 100 [])] ⟨[(0, ⟨40, 6, List.map api_Letter.enc qdata⟩)], []⟩ (Is (z930 qdata qn r)) := by
  unfold z929 at hF
  refine hW f189 63 1 1 ?_
  refine sR 1 (sR 3 (awp_seq (awp_block (awp_to (st' := z933 qn (qdata, 0, 20)) (oT [] []) ?_))))
  refine bE hF fun x h4 hF => ?_
  obtain ⟨vl1_1, va1_1⟩ := x
  refine awp_sub (awp_loop' (z933 qn) z935 (z934 qn) (by intro x; exact fun h => nomatch h) h4 (z936 qn)) ?_
  refine awp_seq (bE hF fun vl6_2 h5 hF => gE hF fun h6 hF => ?_)
  refine awp_region (aR 4 (aCp (z831 h5) ⟨⟨rfl, rfl, pin1 h6⟩, trivial⟩ [] [] [] ?_))
  refine aE ?_
  refine awp_block (awp_to (st' := z938 qn vl6_2 20) (oT [] []) ?_)
  refine bE hF fun _ h13 hF => awp_sub (awp_loop' (z938 qn vl6_2) z940 (z939 qn vl6_2) (by intro x; exact fun h => nomatch h) h13 (z941 qn vl6_2)) ?_
  exact oF hF [] []

/-! ### slices.SortStableFunc[[]beaconfleet/api.Letter,beaconfleet/api.Letter] -/
def z807 (qx : List api_Letter) (r : (List api_Letter)) : TV × Mem := (.tup [], ⟨[(0, ⟨40, 6, List.map api_Letter.enc r⟩)], []⟩)

theorem z808 {qx : List api_Letter} {r} (hF : z806 qx = some r) : Holds prog 99 [.c (.own 0 none), .c (.fn 100 [])] ⟨[(0, ⟨40, 6, List.map api_Letter.enc qx⟩)], []⟩ (Is (z807 qx r)) := by
  unfold z806 at hF
  refine hW f99 9 1 1 ?_
  refine bE hF fun vl2 h1 hF => gE hF fun h2 hF => ?_
  refine awp_region (aR 2 (aL api_Letter.enc qx (aR 1 (aCp (z931 h1) ⟨⟨rfl, rfl, pin1 h2⟩, trivial⟩ [] [] [] ?_))))
  refine aE ?_
  exact oF hF [] []

/-! ### (*beaconfleet/fleetmake.Stream).Letters$2 -/
def z493 (qa : api_Letter) (qb : api_Letter) (r : Unit) : TV × Mem := (.b (decide (qa.Id = qb.Id)), ⟨[], []⟩)

theorem z494 {qa : api_Letter} {qb : api_Letter} {r} (hF : z492 qa qb = some r) : Holds prog 102 [.v (.agg [.s qa.Id, .s qa.Slot, .s qa.Body, .i qa.Prio, .i qa.At, .i qa.Until]), .v (.agg [.s qb.Id, .s qb.Slot, .s qb.Body, .i qb.Prio, .i qb.At, .i qb.Until])] ⟨[], []⟩ (Is (z493 qa qb r)) := by
  unfold z492 at hF
  refine hW f102 10 0 0 ?_
  exact sR 3 (sR 6 (awp_ret (oF hF [] [])))

/-! ### slices.CompactFunc[[]beaconfleet/api.Letter,beaconfleet/api.Letter] -/
def z687 (qx : List api_Letter) (vx : Int) (vl4 : List api_Letter) (vx6 : Int) (vx7 : Int) : ((List api_Letter) × Int) → St
  | (vl6, vx9) => Mem.st ⟨[(0, ⟨40, 6, List.map api_Letter.enc vl6⟩)], []⟩ (tl [(0, .c (.own 0 none)), (1, .c (.fn 102 [])), (5, .i vx9), (6, .c (.view 0 vx.toNat ((qx.length : Int).toNat - vx.toNat))), (7, .i vx7)]) 1

def z686 (qx : List api_Letter) (vx : Int) (vl4 : List api_Letter) (vx6 : Int) (vx7 : Int) : St := Mem.st ⟨[(0, ⟨40, 6, List.map api_Letter.enc vl4⟩)], []⟩ (tl [(0, .c (.own 0 none)), (1, .c (.fn 102 [])), (5, .i vx6), (6, .c (.view 0 vx.toNat ((qx.length : Int).toNat - vx.toNat))), (7, .i vx7)]) 1

theorem z688 (qx : List api_Letter) (vx : Int) (vl4 : List api_Letter) (vx6 : Int) (vx7 : Int) {r} (hF : z685 qx vx vl4 vx6 vx7 = some r) : Awp prog 1 66 (cL (cR (cL (cL (cR (cL (cR (cL (cR (cL (cL (cR (cL (cL (cR (cL (cR (cR (cB f101))))))))))))))))))) (Out 1 nrm (z687 qx vx vl4 vx6 vx7) r) (z686 qx vx vl4 vx6 vx7) := by
  unfold z685 at hF
  refine awp_block (awp_seq (gE hF fun h9 hF => ?_))
  refine bE hF fun vy13 h10 hF => gE hF fun h11 hF => ?_
  refine bE hF fun vy14 h12 hF => bE hF fun _ h13 hF => aD ?_
  refine dR 3 ?_
  refine dX (x_idxV api_Letter.enc 0 h9 h10) ?_
  refine dX (x_ldE api_Letter.enc h10) ?_
  refine dR 3 ?_
  refine dX (x_idxV api_Letter.enc 0 h11 h12) ?_
  refine dX (x_ldE api_Letter.enc h12) ?_
  refine dC (z494 h13) [] [] [] ?_
  refine dR 1 ?_
  refine dE ?_
  refine cE hF (fun h14 hF => ?_) fun h14 hF => ?_
  · refine tT h14 (awp_seq (bE hF fun vy15 h15 hF => awp_region (aR 4 (aX (x_idxV api_Letter.enc 0 h9 h10) (aX (x_ldE api_Letter.enc h10) (aX (x_idxO api_Letter.enc 0 h15) (aX (x_stE api_Letter.enc vy13 h15) (aE ?_))))))))
    exact gR 3 (oO hF [] [] rfl)
  · exact tF h14 (awp_skip (oO hF [] [] rfl))

def z683 : ((List api_Letter) × Int) → AEx
  | _ => .exit 2

def z682 (qx : List api_Letter) (vx : Int) : ((List api_Letter) × Int) → St
  | (vl7, vx10) => Mem.st ⟨[(0, ⟨40, 6, List.map api_Letter.enc vl7⟩)], []⟩ (tl [(0, .c (.own 0 none)), (5, .i vx10)]) 1

def z681 (qx : List api_Letter) (vx : Int) : (List api_Letter) × Int × Int → St
  | (vl4, vx6, vx7) => Mem.st ⟨[(0, ⟨40, 6, List.map api_Letter.enc vl4⟩)], []⟩ (tl [(0, .c (.own 0 none)), (1, .c (.fn 102 [])), (5, .i vx6), (6, .c (.view 0 vx.toNat ((qx.length : Int).toNat - vx.toNat))), (7, .i vx7)]) 1

theorem z684 (qx : List api_Letter) (vx : Int) (s : (List api_Letter) × Int × Int) (r : ((List api_Letter) × Int × Int) ⊕ (((List api_Letter) × Int))) (hF : z680 qx vx s = some r) : Awp prog 1 66 (cL (cL (cR (cL (cR (cL (cR (cL (cL (cR (cL (cL (cR (cL (cR (cR (cB f101))))))))))))))))) (Out 1 (kk z683) (SS (z681 qx vx) (z682 qx vx)) r) (z681 qx vx s) := by
  obtain ⟨vl4, vx6, vx7⟩ := s
  unfold z680 at hF
  refine awp_seq (sR 4 (cE hF (fun h8 hF => ?_) fun h8 hF => ?_))
  · refine tT h8 (awp_skip (awp_seq (awp_to (st' := z686 qx vx vl4 vx6 vx7) (oT [] []) ?_)))
    refine bE hF fun x h16 hF => ?_
    obtain ⟨vl6_1, vx9_1⟩ := x
    refine awp_sub (z688 qx vx vl4 vx6 vx7 h16) ?_
    exact gR 3 (oO hF [] [] rfl)
  · refine tF h8 (awp_exit ?_)
    exact oO hF [] [] rfl

def z678 : Unit ⊕ (List api_Letter) → AEx
  | .inl _ => .exit 0
  | .inr _ => .ret

def z677 (qx : List api_Letter) : Unit ⊕ (List api_Letter) → St
  | .inl _ => Mem.st ⟨[(0, ⟨40, 6, List.map api_Letter.enc qx⟩)], []⟩ (tl [(0, .c (.own 0 none))]) 1
  | .inr vx11 => Mem.st ⟨[(1, ⟨40, 6, List.map api_Letter.enc vx11⟩)], []⟩ (tl [(4, .c (.own 1 none))]) 2

def z676 (qx : List api_Letter) : Int → St
  | vx => Mem.st ⟨[(0, ⟨40, 6, List.map api_Letter.enc qx⟩)], []⟩ (tl [(0, .c (.own 0 none)), (1, .c (.fn 102 [])), (5, .i vx)]) 1

theorem z679 (qx : List api_Letter) (vx : Int) (r : (Int) ⊕ (Unit ⊕ (List api_Letter))) (hF : z675 qx vx = some r) : Awp prog 1 66 (cL (cL (cR (cL (cR (cR (cB f101))))))) (Out 1 (kk z678) (SS (z676 qx) (z677 qx)) r) (z676 qx vx) := by
  unfold z675 at hF
  refine awp_seq (awp_seq (awp_region (aR 2 (aL api_Letter.enc qx (aR 1 (aE ?_))))))
  refine cE hF (fun h2 hF => ?_) fun h2 hF => ?_
  · refine tT h2 (awp_skip (awp_seq (awp_block (awp_seq (bE hF fun vy8 h3 hF => bE hF fun vy9 h4 hF => bE hF fun _ h5 hF => aD ?_)))))
    refine dR 3 ?_
    refine dX (x_idxO api_Letter.enc 0 h3) ?_
    refine dX (x_ldE api_Letter.enc h3) ?_
    refine dR 3 ?_
    refine dX (x_idxO api_Letter.enc 0 h4) ?_
    refine dX (x_ldE api_Letter.enc h4) ?_
    refine dC (z494 h5) [] [] [] ?_
    refine dE ?_
    refine cE hF (fun h6 hF => ?_) fun h6 hF => ?_
    · refine tT h6 (awp_seq (gE hF fun h7 hF => ?_))
      refine awp_region (aR 2 (aX (x_viewN api_Letter.enc 0 h7) (aR 1 (aE ?_))))
      refine awp_seq (sR 1 (awp_block (awp_to (st' := z681 qx vx (qx, vx, 1)) (oT [] []) ?_)))
      refine bE hF fun x h17 hF => ?_
      obtain ⟨vl7_1, vx10_1⟩ := x
      refine awp_sub (awp_loop' (z681 qx vx) z683 (z682 qx vx) (by intro x; exact fun h => nomatch h) h17 (z684 qx vx)) ?_
      refine awp_seq (gE hF fun h18 hF => ?_)
      refine awp_region (aR 2 (aX (x_viewN api_Letter.enc 0 h18) (aCl api_Letter.enc 0 (xs := vl7_1) (y := api_Letter.mk ([] : List UInt8) ([] : List UInt8) ([] : List UInt8) 0 0 0) (lo := vx10_1) (hi := (vl7_1.length : Int)) rfl ?_)))
      refine aE ?_
      refine awp_seq (gE hF fun h19 hF => ?_)
      refine awp_region (aR 2 (aT api_Letter.enc 0 h19 rfl ?_))
      refine aR 1 (aE ?_)
      exact awp_ret (oO hF [(1, 6001)] [] rfl)
    · exact tF h6 (awp_skip (gR 3 (oO hF [] [] rfl)))
  · refine tF h2 (awp_exit ?_)
    exact oO hF [] [] rfl

def z673 (qx : List api_Letter) (r : (List api_Letter)) : TV × Mem := (.c (.own 1 none), ⟨[(1, ⟨40, 6, List.map api_Letter.enc r⟩)], []⟩)

theorem z674 {qx : List api_Letter} {r} (hF : z672 qx = some r) : Holds prog 101 [.c (.own 0 none), .c (.fn 102 [])] ⟨[(0, ⟨40, 6, List.map api_Letter.enc qx⟩)], []⟩ (Is (z673 qx r)) := by
  unfold z672 at hF
  refine hW f101 66 1 1 ?_
  refine sR 1 (awp_seq (awp_seq (awp_region (aR 1 (aL api_Letter.enc qx (aR 1 (aE ?_)))))))
  refine cE hF (fun h1 hF => ?_) fun h1 hF => ?_
  · exact tT h1 (sR 2 (awp_ret (oF hF [(1, 0)] [])))
  · refine tF h1 (awp_skip (awp_seq (sR 1 (awp_block (awp_to (st' := z676 qx 1) (oT [] []) ?_)))))
    refine bE hF fun x h20 hF => ?_
    rcases x with _ | vx11_1
    · refine awp_sub (awp_loop' (z676 qx) z678 (z677 qx) (by intro x; rcases x with x | x <;> exact fun h => nomatch h) h20 (z679 qx)) ?_
      exact sR 2 (awp_ret (oF hF [(1, 0)] []))
    · refine awp_sub (awp_loop' (z676 qx) z678 (z677 qx) (by intro x; rcases x with x | x <;> exact fun h => nomatch h) h20 (z679 qx)) ?_
      exact oF hF [] []

/-! ### (*beaconfleet/fleetmake.Stream).Letters -/
def z500 : (z477 × (List api_Letter)) → AEx
  | _ => .exit 0

def z499 (qmany : Int) : (z477 × (List api_Letter)) → St
  | (vs1, vout1) => Mem.st ⟨[(1, ⟨40, 6, List.map api_Letter.enc vout1⟩)], [(0, [.l (encI .i64) vs1.L, .i vs1.at_])]⟩ (tl [(0, .c (.box 0 0)), (5, .c (.own 1 none))]) 2

def z498 (qmany : Int) : z477 × (List api_Letter) × Int → St
  | (vs, vout, vx) => Mem.st ⟨[(1, ⟨40, 6, List.map api_Letter.enc vout⟩)], [(0, [.l (encI .i64) vs.L, .i vs.at_])]⟩ (tl [(0, .c (.box 0 0)), (5, .c (.own 1 none)), (6, .i qmany), (7, .i vx)]) 2

theorem z501 (qmany : Int) (s : z477 × (List api_Letter) × Int) (r : (z477 × (List api_Letter) × Int) ⊕ ((z477 × (List api_Letter)))) (hF : z497 qmany s = some r) : Awp prog 1 26 (cL (cL (cR (cL (cR (cR (cB f29))))))) (Out 1 (kk z500) (SS (z498 qmany) (z499 qmany)) r) (z498 qmany s) := by
  obtain ⟨vs, vout, vx⟩ := s
  unfold z497 at hF
  refine sR 1 (awp_seq (cE hF (fun h1 hF => ?_) fun h1 hF => ?_))
  · refine tT h1 (awp_skip (awp_seq (awp_block (bE hF fun vr1 h2 hF => bE hF fun x h3 hF => ?_))))
    obtain ⟨vs3_1, vr7_1⟩ := x
    refine gE hF fun h4 hF => ?_
    refine awp_region (aR 4 (aC (z530 h2) [(1, 4002)] [] [] (aC (z483 h3) [] [] [] (aR 1 (aX (x_app api_Letter.enc 1 h4) (aR 1 (aE ?_)))))))
    exact gR 2 (oO hF [(1, 8002)] [] rfl)
  · refine tF h1 (awp_exit ?_)
    exact oO hF [] [] rfl

def z504 (vs1_1 : z477) (vout1_1 : List api_Letter) : (List api_Letter) → St
  | vout2 => Mem.st ⟨[(1, ⟨40, 6, List.map api_Letter.enc vout2⟩)], [(0, [.l (encI .i64) vs1_1.L, .i (IntKind.wrap .i64 (vs1_1.at_ + 1))])]⟩ (tl [(5, .c (.own 1 none))]) 2

def z503 (vs1_1 : z477) (vout1_1 : List api_Letter) : St := Mem.st ⟨[(1, ⟨40, 6, List.map api_Letter.enc vout1_1⟩)], [(0, [.l (encI .i64) vs1_1.L, .i vs1_1.at_])]⟩ (tl [(0, .c (.box 0 0)), (5, .c (.own 1 none))]) 2

theorem z505 (vs1_1 : z477) (vout1_1 : List api_Letter) {r} (hF : z502 vs1_1 vout1_1 = some r) : Awp prog 1 26 (cL (cR (cR (cR (cB f29))))) (Out 1 nrm (z504 vs1_1 vout1_1) r) (z503 vs1_1 vout1_1) := by
  unfold z502 at hF
  refine awp_seq (bE hF fun vr2 h6 hF => awp_region (aR 1 (aC (z480 h6) [] [] [] (aR 1 (aE ?_)))))
  refine cE hF (fun h7 hF => ?_) fun h7 hF => ?_
  · refine tT h7 (awp_seq (bE hF fun vl h8 hF => gE hF fun h9 hF => ?_))
    refine awp_region (aR 1 (aCp (z808 h8) ⟨⟨rfl, rfl, pin1 h9⟩, trivial⟩ [(0, 1)] [] [] ?_))
    refine aE ?_
    refine bE hF fun vr3 h10 hF => awp_region (aR 1 (aC (z674 h10) [(0, 1)] [] [] (aR 1 (aE ?_))))
    exact oO hF [(1, 6003)] [] rfl
  · exact tF h7 (awp_skip (oO hF [] [] rfl))

def z495 (qs : z477) (qmany : Int) (r : z477 × (List api_Letter)) : TV × Mem := (.c (.own 1 none), ⟨[(1, ⟨40, 6, List.map api_Letter.enc r.2⟩)], [(0, [.l (encI .i64) r.1.L, .i r.1.at_])]⟩)

theorem z496 {qs : z477} {qmany : Int} {r} (hF : z488 qs qmany = some r) : Holds prog 29 [.c (.box 0 0), .i qmany] ⟨[], [(0, [.l (encI .i64) qs.L, .i qs.at_])]⟩ (Is (z495 qs qmany r)) := by
  unfold z488 at hF
  refine hW f29 26 1 1 ?_
  refine sR 1 (sR 1 (awp_seq (sR 2 (awp_block (awp_to (st' := z498 qmany (qs, [], 0)) (oT [] [1]) ?_)))))
  refine bE hF fun x h5 hF => ?_
  obtain ⟨vs1_1, vout1_1⟩ := x
  refine awp_sub (awp_loop' (z498 qmany) z500 (z499 qmany) (by intro x; exact fun h => nomatch h) h5 (z501 qmany)) ?_
  refine awp_seq (awp_to (st' := z503 vs1_1 vout1_1) (oT [] []) ?_)
  refine bE hF fun vout2_1 h11 hF => awp_sub (z505 vs1_1 vout1_1 h11) ?_
  exact sR 2 (awp_ret (oF hF [] []))

/-! ### beaconfleet/command.Order$1 -/
def z366 (qy : api_Letter) (qx : api_Letter) (r : Unit) : TV × Mem := (.b (decide (qy.Id = qx.Id)), ⟨[], [(0, [.s qx.Id, .s qx.Slot, .s qx.Body, .i qx.Prio, .i qx.At, .i qx.Until])]⟩)

theorem z367 {qy : api_Letter} {qx : api_Letter} {r} (hF : z365 qy qx = some r) : Holds prog 103 [.v (.agg [.s qy.Id, .s qy.Slot, .s qy.Body, .i qy.Prio, .i qy.At, .i qy.Until]), .c (.box 0 0)] ⟨[], [(0, [.s qx.Id, .s qx.Slot, .s qx.Body, .i qx.Prio, .i qx.At, .i qx.Until])]⟩ (Is (z366 qy qx r)) := by
  unfold z365 at hF
  refine hW f103 9 1 1 ?_
  exact sR 2 (sR 6 (awp_ret (oF hF [] [])))

/-! ### slices.IndexFunc[[]beaconfleet/api.Letter,beaconfleet/api.Letter] -/
def z777 : Unit ⊕ Int → AEx
  | .inl _ => .exit 0
  | .inr _ => .ret

def z776 (qs : List api_Letter) (qf : api_Letter) : Unit ⊕ Int → St
  | .inl _ => Mem.st ⟨[], [(0, [.s qf.Id, .s qf.Slot, .s qf.Body, .i qf.Prio, .i qf.At, .i qf.Until])]⟩ (tl []) 1
  | .inr vx1 => Mem.st ⟨[], [(0, [.s qf.Id, .s qf.Slot, .s qf.Body, .i qf.Prio, .i qf.At, .i qf.Until])]⟩ (tl [(4, .i vx1)]) 1

def z775 (qs : List api_Letter) (qf : api_Letter) : Int → St
  | vx => Mem.st ⟨[], [(0, [.s qf.Id, .s qf.Slot, .s qf.Body, .i qf.Prio, .i qf.At, .i qf.Until])]⟩ (tl [(0, .c (.l api_Letter.enc qs)), (1, .c (.fn 103 [0])), (7, .i (qs.length : Int)), (8, .i vx)]) 1

theorem z778 (qs : List api_Letter) (qf : api_Letter) (vx : Int) (r : (Int) ⊕ (Unit ⊕ Int)) (hF : z774 qs qf vx = some r) : Awp prog 1 19 (cL (cL (cR (cL (cR (cB f170)))))) (Out 1 (kk z777) (SS (z775 qs qf) (z776 qs qf)) r) (z775 qs qf vx) := by
  unfold z774 at hF
  refine sR 1 (awp_seq (cE hF (fun h1 hF => ?_) fun h1 hF => ?_))
  · refine tT h1 (awp_skip (awp_seq (awp_block (sR 2 (awp_seq (bE hF fun vy1 h2 hF => bE hF fun _ h3 hF => awp_region (aR 3 (aX (x_idx api_Letter.enc h2) (aR 1 (aC (z367 h3) [] [] [] (aE ?_)))))))))))
    refine cE hF (fun h4 hF => ?_) fun h4 hF => ?_
    · exact tT h4 (sR 2 (awp_ret (oO hF [] [] rfl)))
    · exact tF h4 (awp_skip (gR 2 (oO hF [] [] rfl)))
  · refine tF h1 (awp_exit ?_)
    exact oO hF [] [] rfl

def z772 (qs : List api_Letter) (qf : api_Letter) (r : Int) : TV × Mem := (.i r, ⟨[], [(0, [.s qf.Id, .s qf.Slot, .s qf.Body, .i qf.Prio, .i qf.At, .i qf.Until])]⟩)

theorem z773 {qs : List api_Letter} {qf : api_Letter} {r} (hF : z771 qs qf = some r) : Holds prog 170 [.c (.l api_Letter.enc qs), .c (.fn 103 [0])] ⟨[], [(0, [.s qf.Id, .s qf.Slot, .s qf.Body, .i qf.Prio, .i qf.At, .i qf.Until])]⟩ (Is (z772 qs qf r)) := by
  unfold z771 at hF
  refine hW f170 19 1 1 ?_
  refine sR 1 (awp_seq (awp_seq (awp_region (aR 1 (aL api_Letter.enc qs (aR 1 (aE ?_)))))))
  refine awp_block (awp_to (st' := z775 qs qf 0) (oT [] []) ?_)
  refine bE hF fun x h5 hF => ?_
  rcases x with _ | vx1_1
  · refine awp_sub (awp_loop' (z775 qs qf) z777 (z776 qs qf) (by intro x; rcases x with x | x <;> exact fun h => nomatch h) h5 (z778 qs qf)) ?_
    exact sR 1 (awp_ret (oF hF [] []))
  · refine awp_sub (awp_loop' (z775 qs qf) z777 (z776 qs qf) (by intro x; rcases x with x | x <;> exact fun h => nomatch h) h5 (z778 qs qf)) ?_
    exact oF hF [] []

/-! ### slices.ContainsFunc[[]beaconfleet/api.Letter,beaconfleet/api.Letter] -/
def z720 (qs : List api_Letter) (qf : api_Letter) (r : Bool) : TV × Mem := (.b r, ⟨[], [(0, [.s qf.Id, .s qf.Slot, .s qf.Body, .i qf.Prio, .i qf.At, .i qf.Until])]⟩)

theorem z721 {qs : List api_Letter} {qf : api_Letter} {r} (hF : z719 qs qf = some r) : Holds prog 75 [.c (.l api_Letter.enc qs), .c (.fn 103 [0])] ⟨[], [(0, [.s qf.Id, .s qf.Slot, .s qf.Body, .i qf.Prio, .i qf.At, .i qf.Until])]⟩ (Is (z720 qs qf r)) := by
  unfold z719 at hF
  refine hW f75 9 1 1 ?_
  refine sR 1 (awp_seq (bE hF fun vr h1 hF => awp_region (aR 2 (aC (z773 h1) [] [] [] (aR 2 (aE ?_))))))
  exact awp_ret (oF hF [] [])

/-! ### beaconfleet/command.byOrder -/
def z384 (qa : api_Letter) (qb : api_Letter) (r : Int) : TV × Mem := (.i r, ⟨[], []⟩)

theorem z385 {qa : api_Letter} {qb : api_Letter} {r} (hF : z383 qa qb = some r) : Holds prog 104 [.v (.agg [.s qa.Id, .s qa.Slot, .s qa.Body, .i qa.Prio, .i qa.At, .i qa.Until]), .v (.agg [.s qb.Id, .s qb.Slot, .s qb.Body, .i qb.Prio, .i qb.At, .i qb.Until])] ⟨[], []⟩ (Is (z384 qa qb r)) := by
  unfold z383 at hF
  refine hW f104 22 0 0 ?_
  refine sR 3 (awp_seq (bE hF fun vr h1 hF => bE hF fun vr1 h2 hF => bE hF fun _ h3 hF => bE hF fun vr2 h4 hF => aD ?_))
  refine dR 4 ?_
  refine dC (z132 h1) [] [] [] ?_
  refine dR 4 ?_
  refine dC (z132 h2) [] [] [] ?_
  refine dR 4 ?_
  refine dC (z1104 h3) [] [] [] ?_
  refine dR 1 ?_
  refine dC (z144 h4) [] [] [18000] ?_
  refine dR 1 ?_
  refine dE ?_
  exact awp_ret (oF hF [] [])

/-! ### slices.insertionSortCmpFunc[beaconfleet/api.Letter] -/
def z827 (qa : Int) (qb : Int) (vi : Int) (vl3 : List api_Letter) (vj1 : Int) : Bool → St
  | vx4 => Mem.st ⟨[(0, ⟨40, 6, List.map api_Letter.enc vl3⟩)], []⟩ (tl [(0, .c (.own 0 none)), (1, .i qa), (2, .i qb), (3, .c (.fn 104 [])), (8, .i vi), (9, .i vj1), (34, .b vx4)]) 1

def z826 (qa : Int) (qb : Int) (vi : Int) (vl3 : List api_Letter) (vj1 : Int) : St := Mem.st ⟨[(0, ⟨40, 6, List.map api_Letter.enc vl3⟩)], []⟩ (tl [(0, .c (.own 0 none)), (1, .i qa), (2, .i qb), (3, .c (.fn 104 [])), (8, .i vi), (9, .i vj1)]) 1

theorem z828 (qa : Int) (qb : Int) (vi : Int) (vl3 : List api_Letter) (vj1 : Int) {r} (hF : z825 qa vl3 vj1 = some r) : Awp prog 1 53 (cL (cL (cL (cL (cR (cL (cL (cR (cL (cL (cR (cB f194)))))))))))) (Out 1 nrm (z827 qa qb vi vl3 vj1) r) (z826 qa qb vi vl3 vj1) := by
  unfold z825 at hF
  refine cE hF (fun h2 hF => ?_) fun h2 hF => ?_
  · refine bE hF fun vy15 h3 hF => bE hF fun vy16 h4 hF => bE hF fun vr3_3 h5 hF => aD ?_
    refine dR 2 ?_
    refine dB h2 ?_
    refine dR 4 ?_
    refine dX (x_idxO api_Letter.enc 0 h3) ?_
    refine dX (x_ldE api_Letter.enc h3) ?_
    refine dR 3 ?_
    refine dX (x_idxO api_Letter.enc 0 h4) ?_
    refine dX (x_ldE api_Letter.enc h4) ?_
    refine dC (z385 h5) [] [] [] ?_
    refine dR 2 ?_
    refine dE ?_
    exact oO hF [] [] rfl
  · refine aD ?_
    refine dR 2 ?_
    refine dB h2 ?_
    refine dR 14 ?_
    refine dE ?_
    exact oO hF [] [] rfl

def z823 : (List api_Letter) → AEx
  | _ => .exit 2

def z822 (qa : Int) (qb : Int) (vi : Int) : (List api_Letter) → St
  | vl4 => Mem.st ⟨[(0, ⟨40, 6, List.map api_Letter.enc vl4⟩)], []⟩ (tl [(0, .c (.own 0 none)), (1, .i qa), (2, .i qb), (3, .c (.fn 104 [])), (8, .i vi)]) 1

def z821 (qa : Int) (qb : Int) (vi : Int) : (List api_Letter) × Int → St
  | (vl3, vj1) => Mem.st ⟨[(0, ⟨40, 6, List.map api_Letter.enc vl3⟩)], []⟩ (tl [(0, .c (.own 0 none)), (1, .i qa), (2, .i qb), (3, .c (.fn 104 [])), (8, .i vi), (9, .i vj1)]) 1

theorem z824 (qa : Int) (qb : Int) (vi : Int) (s : (List api_Letter) × Int) (r : ((List api_Letter) × Int) ⊕ ((List api_Letter))) (hF : z820 qa s = some r) : Awp prog 1 53 (cL (cL (cR (cL (cL (cR (cL (cL (cR (cB f194)))))))))) (Out 1 (kk z823) (SS (z821 qa qb vi) (z822 qa qb vi)) r) (z821 qa qb vi s) := by
  obtain ⟨vl3, vj1⟩ := s
  unfold z820 at hF
  refine awp_seq (awp_seq (awp_to (st' := z826 qa qb vi vl3 vj1) (oT [] []) ?_))
  refine bE hF fun vx4_1 h6 hF => awp_sub (z828 qa qb vi vl3 vj1 h6) ?_
  refine cE hF (fun h7 hF => ?_) fun h7 hF => ?_
  · refine tT h7 (awp_skip (awp_seq (awp_block (bE hF fun vy17 h8 hF => bE hF fun vy18 h9 hF => bE hF fun vy19 h10 hF => aDw [0] ?_))))
    refine dR 8 ?_
    refine dI api_Letter.enc 0 h8 rfl ?_
    refine dX (x_ldE api_Letter.enc h8) ?_
    refine dR 2 ?_
    refine dI api_Letter.enc 0 h9 rfl ?_
    refine dX (x_ldE api_Letter.enc h9) ?_
    refine dI api_Letter.enc 0 h9 rfl ?_
    refine dW api_Letter.enc vy17 h9 rfl ?_
    refine dI api_Letter.enc 0 h10 rfl ?_
    refine dW api_Letter.enc vy18 h10 rfl ?_
    refine dE ?_
    exact gR 3 (oO hF [] [] rfl)
  · refine tF h7 (awp_exit ?_)
    exact oO hF [] [] rfl

def z818 : (List api_Letter) → AEx
  | _ => .exit 0

def z817 (qa : Int) (qb : Int) : (List api_Letter) → St
  | vl5 => Mem.st ⟨[(0, ⟨40, 6, List.map api_Letter.enc vl5⟩)], []⟩ (tl []) 1

def z816 (qa : Int) (qb : Int) : (List api_Letter) × Int → St
  | (vl, vi) => Mem.st ⟨[(0, ⟨40, 6, List.map api_Letter.enc vl⟩)], []⟩ (tl [(0, .c (.own 0 none)), (1, .i qa), (2, .i qb), (3, .c (.fn 104 [])), (8, .i vi)]) 1

theorem z819 (qa : Int) (qb : Int) (s : (List api_Letter) × Int) (r : ((List api_Letter) × Int) ⊕ ((List api_Letter))) (hF : z815 qa qb s = some r) : Awp prog 1 53 (cL (cL (cR (cB f194)))) (Out 1 (kk z818) (SS (z816 qa qb) (z817 qa qb)) r) (z816 qa qb s) := by
  obtain ⟨vl, vi⟩ := s
  unfold z815 at hF
  refine awp_seq (sR 3 (cE hF (fun h1 hF => ?_) fun h1 hF => ?_))
  · refine tT h1 (awp_skip (awp_seq (awp_block (sR 2 (awp_block (awp_to (st' := z821 qa qb vi (vl, vi)) (oT [] []) ?_))))))
    refine bE hF fun vl4_1 h11 hF => awp_sub (awp_loop' (z821 qa qb vi) z823 (z822 qa qb vi) (by intro x; exact fun h => nomatch h) h11 (z824 qa qb vi)) ?_
    exact gR 3 (oO hF [] [] rfl)
  · refine tF h1 (awp_exit ?_)
    exact oO hF [] [] rfl

def z813 (qdata : List api_Letter) (qa : Int) (qb : Int) (r : (List api_Letter)) : TV × Mem := (.tup [], ⟨[(0, ⟨40, 6, List.map api_Letter.enc r⟩)], []⟩)

theorem z814 {qdata : List api_Letter} {qa : Int} {qb : Int} {r} (hF : z812 qdata qa qb = some r) : Holds prog 194 [.c (.own 0 none), .i qa, .i qb, .c (.fn 104 [])] ⟨[(0, ⟨40, 6, List.map api_Letter.enc qdata⟩)], []⟩ (Is (z813 qdata qa qb r)) := by
  unfold z812 at hF
  refine hW f194 53 1 1 ?_
  refine sR 3 (awp_block (awp_to (st' := z816 qa qb (qdata, IntKind.wrap .i64 (qa + 1))) (oT [] []) ?_))
  refine bE hF fun vl5_1 h12 hF => awp_sub (awp_loop' (z816 qa qb) z818 (z817 qa qb) (by intro x; exact fun h => nomatch h) h12 (z819 qa qb)) ?_
  exact oF hF [] []

/-! ### slices.pdqsortCmpFunc[beaconfleet/api.Letter] -/
def z903 : (List api_Letter) → AEx
  | _ => .ret

def z902 (qx : List api_Letter) (qx1 : Int) (qx2 : Int) (qx3 : Int) : (List api_Letter) → St
  | vl => Mem.st ⟨[(0, ⟨40, 6, List.map api_Letter.enc vl⟩)], []⟩ (tl []) 1

def z901 (qx : List api_Letter) (qx1 : Int) (qx2 : Int) (qx3 : Int) : Unit → St
  | _ => Mem.st ⟨[(0, ⟨40, 6, List.map api_Letter.enc qx⟩)], []⟩ (tl [(0, .c (.own 0 none)), (1, .i qx1), (2, .i qx2), (3, .i qx3), (4, .c (.fn 104 [])), (10, .b true), (11, .b true)]) 1

theorem z904 (qx : List api_Letter) (qx1 : Int) (qx2 : Int) (qx3 : Int) (s : Unit) (r : (Unit) ⊕ ((List api_Letter))) (hF : z900 qx qx1 qx2 qx3 s = some r) : Awp prog 1 148 (cL (cL (cR (cR (cB f110))))) (Out 1 (kk z903) (SS (z901 qx qx1 qx2 qx3) (z902 qx qx1 qx2 qx3)) r) (z901 qx qx1 qx2 qx3 s) := by
  unfold z900 at hF
  refine awp_block (sR 4 (awp_seq (sR 2 (cE hF (fun h1 hF => ?_) fun h1 hF => ?_))))
  · refine tT h1 (awp_seq (bE hF fun vl6_1 h2 hF => gE hF fun h3 hF => ?_))
    refine awp_region (aR 4 (aCp (z814 h2) ⟨⟨rfl, rfl, pin1 h3⟩, trivial⟩ [] [] [] ?_))
    refine aE ?_
    exact awp_ret (oO hF [] [] rfl)
  · refine tF h1 (awp_skip (awp_seq (sR 2 (cE hF (fun h4 hF => ?_) fun h4 hF => ?_))))
    · exact tT h4 (awp_seq (nE hF))
    · exact tF h4 (awp_skip (awp_seq (sR 2 (tF rfl (awp_skip (awp_seq (nE hF)))))))

def z898 (qx : List api_Letter) (qx1 : Int) (qx2 : Int) (qx3 : Int) (r : (List api_Letter)) : TV × Mem := (.tup [], ⟨[(0, ⟨40, 6, List.map api_Letter.enc r⟩)], []⟩)

theorem z899 {qx : List api_Letter} {qx1 : Int} {qx2 : Int} {qx3 : Int} {r} (hF : z897 qx qx1 qx2 qx3 = some r) : Holds prog 110 [.c (.own 0 none), .i qx1, .i qx2, .i qx3, .c (.fn 104 [])] ⟨[(0, ⟨40, 6, List.map api_Letter.enc qx⟩)], []⟩ (Is (z898 qx qx1 qx2 qx3 r)) := by
  unfold z897 at hF
  refine hW f110 148 1 1 ?_
  refine sR 1 (sR 1 (awp_block (awp_to (st' := z901 qx qx1 qx2 qx3 ()) (oT [] []) ?_)))
  refine bE hF fun vl1 h7 hF => awp_sub (awp_loop' (z901 qx qx1 qx2 qx3) z903 (z902 qx qx1 qx2 qx3) (by intro x; exact fun h => nomatch h) h7 (z904 qx qx1 qx2 qx3)) ?_
  exact oF hF [] []

/-! ### slices.SortFunc[[]beaconfleet/api.Letter,beaconfleet/api.Letter] -/
def z798 (qx : List api_Letter) (r : (List api_Letter)) : TV × Mem := (.tup [], ⟨[(0, ⟨40, 6, List.map api_Letter.enc r⟩)], []⟩)

theorem z799 {qx : List api_Letter} {r} (hF : z797 qx = some r) : Holds prog 36 [.c (.own 0 none), .c (.fn 104 [])] ⟨[(0, ⟨40, 6, List.map api_Letter.enc qx⟩)], []⟩ (Is (z798 qx r)) := by
  unfold z797 at hF
  refine hW f36 14 1 1 ?_
  refine awp_seq (awp_region (aR 1 (aL api_Letter.enc qx (aR 1 (aE ?_)))))
  refine bE hF fun vr1 h1 hF => bE hF fun vl2 h2 hF => gE hF fun h3 hF => ?_
  refine awp_region (aR 4 (aC (z117 h1) [] [] [] (aR 1 (aCp (z899 h2) ⟨⟨rfl, rfl, pin1 h3⟩, trivial⟩ [] [] [] ?_))))
  refine aE ?_
  exact oF hF [] []

/-! ### beaconfleet/command.Order -/
def z381 : Unit ⊕ Int → AEx
  | .inl _ => .exit 0
  | .inr _ => .ret

def z380 (ql : List api_Letter) : Unit ⊕ Int → St
  | .inl _ => Mem.st ⟨[], []⟩ (tl [(0, .c (.l api_Letter.enc ql))]) 0
  | .inr vx1 => Mem.st ⟨[], []⟩ (tl [(2, .c (.nil)), (3, .i vx1)]) 0

def z379 (ql : List api_Letter) : Int → St
  | vx => Mem.st ⟨[], []⟩ (tl [(0, .c (.l api_Letter.enc ql)), (11, .c (.l api_Letter.enc ql)), (12, .i (ql.length : Int)), (13, .i vx)]) 0

theorem z382 (ql : List api_Letter) (vx : Int) (r : (Int) ⊕ (Unit ⊕ Int)) (hF : z378 ql vx = some r) : Awp prog 0 34 (cL (cL (cR (cL (cR (cR (cB f30))))))) (Out 0 (kk z381) (SS (z379 ql) (z380 ql)) r) (z379 ql vx) := by
  unfold z378 at hF
  refine sR 1 (awp_seq (cE hF (fun h2 hF => ?_) fun h2 hF => ?_))
  · refine tT h2 (awp_skip (awp_seq (awp_block (awp_seq (bE hF fun vy1 h3 hF => awp_region (aR 1 (aX (x_idx api_Letter.enc h3) (aR 4 (aE ?_)))))))))
    refine awp_seq (awp_seq (bE hF fun vr3_1 h4 hF => awp_region (aR 1 (aC (z160 h4) [] [] [] (aR 1 (aE ?_))))))
    refine sR 2 (cE hF (fun h5 hF => ?_) fun h5 hF => ?_)
    · exact tT h5 (sR 3 (awp_ret (oO hF [] [] rfl)))
    · refine tF h5 (awp_skip (awp_seq (bE hF fun vl1 h6 hF => bE hF fun vr1_1 h7 hF => awp_region (aR 2 (aX (x_slice api_Letter.enc h6) (aR 1 (aC (z721 h7) [(0, 4000)] [] [] (aE ?_))))))))
      refine cE hF (fun h8 hF => ?_) fun h8 hF => ?_
      · exact tT h8 (sR 2 (awp_ret (oO hF [] [] rfl)))
      · exact tF h8 (awp_skip (gR 2 (oO hF [] [] rfl)))
  · refine tF h2 (awp_exit ?_)
    exact oO hF [] [] rfl

def z368 (ql : List api_Letter) (r : (List api_Letter) × Int) : TV × Mem := (.tup [.one (.own 0 none), .one (.i r.2)], ⟨[(0, ⟨40, 6, List.map api_Letter.enc r.1⟩)], []⟩)

theorem z377 {ql : List api_Letter} {r} (hF : z364 ql = some r) : Holds prog 30 [.c (.l api_Letter.enc ql)] ⟨[], []⟩ (Is (z368 ql r)) := by
  unfold z364 at hF
  refine hW f30 34 0 0 ?_
  refine sR 2 (awp_seq (awp_seq (awp_region (aR 1 (aL api_Letter.enc ql (aR 1 (aE ?_)))))))
  refine cE hF (fun h1 hF => ?_) fun h1 hF => ?_
  · exact tT h1 (sR 2 (awp_ret (oF hF [] [0])))
  · refine tF h1 (awp_skip (awp_seq (awp_seq (awp_region (aR 1 (aL api_Letter.enc ql (aR 1 (aE ?_))))))))
    refine awp_block (awp_to (st' := z379 ql 0) (oT [] []) ?_)
    refine bE hF fun x h9 hF => ?_
    rcases x with _ | vx1_1
    · refine awp_sub (awp_loop' (z379 ql) z381 (z380 ql) (by intro x; rcases x with x | x <;> exact fun h => nomatch h) h9 (z382 ql)) ?_
      refine awp_seq (bE hF fun vr h10 hF => awp_region (aR 1 (aC (z668 h10) [] [] [] (aR 1 (aE ?_)))))
      refine awp_seq (bE hF fun vl2 h11 hF => gE hF fun h12 hF => ?_)
      refine awp_region (aR 1 (aCp (z799 h11) ⟨⟨rfl, rfl, pin1 h12⟩, trivial⟩ [(0, 1000)] [] [] ?_))
      refine aE ?_
      exact sR 3 (awp_ret (oF hF [(0, 1000)] []))
    · refine awp_sub (awp_loop' (z379 ql) z381 (z380 ql) (by intro x; rcases x with x | x <;> exact fun h => nomatch h) h9 (z382 ql)) ?_
      exact oF hF [] [0]

/-! ### internal/stringslite.Index -/
def z1182 (qx : List UInt8) (qx1 : List UInt8) : Bool → St
  | vx => Mem.st ⟨[], []⟩ (tl [(0, .c (.s qx)), (1, .c (.s qx1)), (5, .i (qx1.length : Int)), (16, .b vx)]) 0

def z1181 (qx : List UInt8) (qx1 : List UInt8) : St := Mem.st ⟨[], []⟩ (tl [(0, .c (.s qx)), (1, .c (.s qx1)), (5, .i (qx1.length : Int))]) 0

theorem z1183 (qx : List UInt8) (qx1 : List UInt8) {r} (hF : z1180 qx qx1 = some r) : Awp prog 0 143 (cL (cL (cL (cR (cR (cB f344)))))) (Out 0 nrm (z1182 qx qx1) r) (z1181 qx qx1) := by
  unfold z1180 at hF
  refine cE hF (fun h1 hF => ?_) fun h1 hF => ?_
  · refine awp_region (aR 1 (aB h1 (aR 6 (aE ?_))))
    exact oO hF [] [] rfl
  · refine awp_region (aR 1 (aB h1 (aR 6 (aE ?_))))
    exact oO hF [] [] rfl

def z1178 (qx : List UInt8) (qx1 : List UInt8) (r : Int) : TV × Mem := (.i r, ⟨[], []⟩)

theorem z1179 {qx : List UInt8} {qx1 : List UInt8} {r} (hF : z1174 qx qx1 = some r) : Holds prog 344 [.c (.s qx), .c (.s qx1)] ⟨[], []⟩ (Is (z1178 qx qx1 r)) := by
  unfold z1174 at hF
  refine hW f344 143 0 0 ?_
  refine sR 1 (sR 3 (awp_seq (awp_block (awp_seq (awp_to (st' := z1181 qx qx1) (oT [] []) ?_)))))
  refine bE hF fun vx1 h2 hF => awp_sub (z1183 qx qx1 h2) ?_
  refine cE hF (fun h3 hF => ?_) fun h3 hF => ?_
  · exact tT h3 (sR 1 (awp_ret (oF hF [] [])))
  · refine tF h3 (sR 3 (cE hF (fun h4 hF => ?_) fun h4 hF => ?_))
    · refine tT h4 (awp_seq (bE hF fun vc h5 hF => bE hF fun _ h6 hF => awp_region (aR 2 (aX (x_idxS h5) (aC (z1177 h6) [] [] [] (aR 1 (aE ?_)))))))
      exact awp_ret (oF hF [] [])
    · refine tF h4 (sR 5 (cE hF (fun h7 hF => ?_) fun h7 hF => ?_))
      · exact tT h7 (sR 1 (awp_ret (oF hF [] [])))
      · exact tF h7 (awp_seq (nE hF))

/-! ### internal/stringslite.Cut -/
def z1165 (qs : List UInt8) (qsep : List UInt8) (r : (List UInt8) × (List UInt8) × Bool) : TV × Mem := (.tup [.one (.s r.1), .one (.s r.2.1), .one (.t r.2.2)], ⟨[], []⟩)

theorem z1166 {qs : List UInt8} {qsep : List UInt8} {r} (hF : z1164 qs qsep = some r) : Holds prog 340 [.c (.s qs), .c (.s qsep)] ⟨[], []⟩ (Is (z1165 qs qsep r)) := by
  unfold z1164 at hF
  refine hW f340 23 0 0 ?_
  refine sR 3 (awp_seq (awp_seq (bE hF fun vr h1 hF => awp_region (aR 2 (aC (z1179 h1) [] [] [] (aR 1 (aE ?_)))))))
  refine sR 2 (cE hF (fun h2 hF => ?_) fun h2 hF => ?_)
  · refine tT h2 (awp_seq (bE hF fun vs h3 hF => bE hF fun vs1 h4 hF => aD ?_))
    refine dR 2 ?_
    refine dX (x_sliceS h3) ?_
    refine dR 5 ?_
    refine dX (x_sliceS h4) ?_
    refine dR 3 ?_
    refine dE ?_
    exact awp_ret (oF hF [] [])
  · exact tF h2 (awp_skip (sR 4 (awp_ret (oF hF [] []))))

/-! ### strings.Cut -/
def z1115 (qs : List UInt8) (qsep : List UInt8) (r : (List UInt8) × (List UInt8) × Bool) : TV × Mem := (.tup [.one (.s r.1), .one (.s r.2.1), .one (.t r.2.2)], ⟨[], []⟩)

theorem z1116 {qs : List UInt8} {qsep : List UInt8} {r} (hF : z1114 qs qsep = some r) : Holds prog 314 [.c (.s qs), .c (.s qsep)] ⟨[], []⟩ (Is (z1115 qs qsep r)) := by
  unfold z1114 at hF
  refine hW f314 13 0 0 ?_
  refine sR 3 (awp_seq (bE hF fun x h1 hF => ?_))
  obtain ⟨vr1, vr2, vr3⟩ := x
  refine awp_region (aR 2 (aC (z1166 h1) [] [] [] (aR 6 (aE ?_))))
  exact awp_ret (oF hF [] [])

/-! ### beaconfleet/base.Dotted -/
def z14 : Unit ⊕ Bool → AEx
  | .inl _ => .exit 0
  | .inr _ => .ret

def z13 (qmost : Int) : Unit ⊕ Bool → St
  | .inl _ => Mem.st ⟨[], []⟩ (tl []) 0
  | .inr vx => Mem.st ⟨[], []⟩ (tl [(4, .b vx)]) 0

def z11 (qmost : Int) : (List UInt8) × Int → St
  | (vs, vn) => Mem.st ⟨[], []⟩ (tl [(0, .c (.s vs)), (1, .i qmost), (5, .i vn)]) 0

theorem z15 (qmost : Int) (s : (List UInt8) × Int) (r : ((List UInt8) × Int) ⊕ (Unit ⊕ Bool)) (hF : z10 qmost s = some r) : Awp prog 0 26 (cL (cL (cR (cL (cR (cB f273)))))) (Out 0 (kk z14) (SS (z11 qmost) (z13 qmost)) r) (z11 qmost s) := by
  obtain ⟨vs, vn⟩ := s
  unfold z10 at hF
  refine awp_seq (sR 3 (cE hF (fun h1 hF => ?_) fun h1 hF => ?_))
  · refine tT h1 (awp_skip (awp_seq (awp_block (awp_seq (bE hF fun x h2 hF => ?_)))))
    obtain ⟨vr2, vr4_1, vr5_1⟩ := x
    refine awp_region (aR 1 (aC (z1116 h2) [] [] [] (aR 7 (aE ?_))))
    refine awp_seq (awp_seq (bE hF fun vr3 h3 hF => awp_region (aR 1 (aC (z26 h3) [] [] [] (aR 1 (aE ?_))))))
    refine cE hF (fun h4 hF => ?_) fun h4 hF => ?_
    · exact tT h4 (sR 1 (awp_ret (oO hF [] [] rfl)))
    · refine tF h4 (awp_skip (awp_seq (sR 2 (cE hF (fun h5 hF => ?_) fun h5 hF => ?_))))
      · exact tT h5 (sR 1 (awp_ret (oO hF [] [] rfl)))
      · exact tF h5 (awp_skip (gR 2 (gR 3 (oO hF [] [] rfl))))
  · refine tF h1 (awp_exit ?_)
    exact oO hF [] [] rfl

def z7 (qs : List UInt8) (qmost : Int) (r : Bool) : TV × Mem := (.b r, ⟨[], []⟩)

theorem z8 {qs : List UInt8} {qmost : Int} {r} (hF : z6 qs qmost = some r) : Holds prog 273 [.c (.s qs), .i qmost] ⟨[], []⟩ (Is (z7 qs qmost r)) := by
  unfold z6 at hF
  refine hW f273 26 0 0 ?_
  refine sR 1 (awp_seq (sR 1 (awp_block (awp_to (st' := z11 qmost (qs, 0)) (oT [] []) ?_))))
  refine bE hF fun x h6 hF => ?_
  rcases x with _ | vx1
  · refine awp_sub (awp_loop' (z11 qmost) z14 (z13 qmost) (by intro x; rcases x with x | x <;> exact fun h => nomatch h) h6 (z15 qmost)) ?_
    exact sR 1 (awp_ret (oF hF [] []))
  · refine awp_sub (awp_loop' (z11 qmost) z14 (z13 qmost) (by intro x; rcases x with x | x <;> exact fun h => nomatch h) h6 (z15 qmost)) ?_
    exact oF hF [] []

/-! ### beaconfleet/twin.isName -/
def z1253 (qs : List UInt8) (r : Bool) : TV × Mem := (.b r, ⟨[], []⟩)

theorem z1254 {qs : List UInt8} {r} (hF : z1252 qs = some r) : Holds prog 222 [.c (.s qs)] ⟨[], []⟩ (Is (z1253 qs r)) := by
  unfold z1252 at hF
  refine hW f222 5 0 0 ?_
  refine sR 1 (awp_seq (bE hF fun vr6 h1 hF => awp_region (aR 1 (aC (z8 h1) [] [] [] (aR 1 (aE ?_))))))
  exact awp_ret (oF hF [] [])

/-! ### beaconfleet/twin.valueFault -/
def z1274 : api_Value ⊕ Unit → AEx
  | .inl _ => .normal
  | .inr _ => .ret

def z1273 (qv : api_Value) : api_Value ⊕ Unit → St
  | .inl vused => Mem.st ⟨[], [(0, [.i qv.Kind, .t qv.Flag, .i qv.Number, .s qv.Words]), (1, [.i vused.Kind, .t vused.Flag, .i vused.Number, .s vused.Words])]⟩ (tl [(1, .c (.box 0 0)), (3, .c (.box 1 0))]) 2
  | .inr _ => Mem.st ⟨[], []⟩ (tl [(2, .i 4)]) 0

def z1272 (qv : api_Value) : St := Mem.st ⟨[], [(0, [.i qv.Kind, .t qv.Flag, .i qv.Number, .s qv.Words]), (1, [.i qv.Kind, .t false, .i 0, .s ([] : List UInt8)])]⟩ (tl [(1, .c (.box 0 0)), (3, .c (.box 1 0))]) 2

theorem z1275 (qv : api_Value) {r} (hF : z1271 qv = some r) : Awp prog 0 44 (cL (cR (cR (cB f223)))) (Out 0 z1274 (z1273 qv) r) (z1272 qv) := by
  unfold z1271 at hF
  refine sR 2 (awp_block (sR 2 (cE hF (fun h1 hF => ?_) fun h1 hF => ?_)))
  · exact tT h1 (awp_skip (oO hF [] [] rfl))
  · refine tF h1 (sR 2 (cE hF (fun h2 hF => ?_) fun h2 hF => ?_))
    · exact tT h2 (gR 4 (oO hF [] [] rfl))
    · refine tF h2 (sR 2 (cE hF (fun h3 hF => ?_) fun h3 hF => ?_))
      · exact tT h3 (gR 4 (oO hF [] [] rfl))
      · refine tF h3 (sR 2 (cE hF (fun h4 hF => ?_) fun h4 hF => ?_))
        · exact tT h4 (gR 4 (oO hF [] [] rfl))
        · exact tF h4 (sR 1 (awp_ret (oO hF [] [] rfl)))

def z1269 (qv : api_Value) (r : Int) : TV × Mem := (.i r, ⟨[], []⟩)

theorem z1270 {qv : api_Value} {r} (hF : z1268 qv = some r) : Holds prog 223 [.v (.agg [.i qv.Kind, .t qv.Flag, .i qv.Number, .s qv.Words])] ⟨[], []⟩ (Is (z1269 qv r)) := by
  unfold z1268 at hF
  refine hW f223 44 0 0 ?_
  refine sR 2 (sR 5 (awp_seq (awp_to (st' := z1272 qv) (oT [(1, 5000)] []) ?_)))
  refine bE hF fun x h5 hF => ?_
  rcases x with vused1 | _
  · refine awp_sub (z1275 qv h5) ?_
    refine awp_seq (awp_block (awp_seq (awp_region (aR 2 (aS (does_eqS (op := .neq) (xs := [.int .i64 qv.Kind, .bool qv.Flag, .int .i64 qv.Number, .str qv.Words]) (ys := [.int .i64 vused1.Kind, .bool vused1.Flag, .int .i64 vused1.Number, .str vused1.Words]) (b := (decide (qv.Kind = vused1.Kind) && ((qv.Flag == vused1.Flag) && (decide (qv.Number = vused1.Number) && (decide (qv.Words = vused1.Words) && true))))) (c := (!(decide (qv.Kind = vused1.Kind) && ((qv.Flag == vused1.Flag) && (decide (qv.Number = vused1.Number) && (decide (qv.Words = vused1.Words) && true)))))) rfl (.inr ⟨rfl, rfl⟩) (by kernel_rfl) (by kernel_rfl) (by kernel_rfl) (by kernel_rfl) (by kernel_rfl) (by kernel_rfl)) ?_)))))
    refine aR 1 (aE ?_)
    refine cE hF (fun h6 hF => ?_) fun h6 hF => ?_
    · exact tT h6 (sR 1 (awp_ret (oF hF [] [])))
    · refine tF h6 (awp_seq (bE hF fun vr h7 hF => awp_region (aR 2 (aC (z74 h7) [] [] [] (aR 1 (aE ?_))))))
      refine cE hF (fun h8 hF => ?_) fun h8 hF => ?_
      · exact tT h8 (sR 1 (awp_ret (oF hF [] [])))
      · refine tF h8 (sR 5 (cE hF (fun h9 hF => ?_) fun h9 hF => ?_))
        · exact tT h9 (sR 1 (awp_ret (oF hF [] [])))
        · refine tF h9 (awp_seq (bE hF fun vr1 h10 hF => awp_region (aR 2 (aC (z83 h10) [] [] [] (aR 2 (aE ?_))))))
          refine cE hF (fun h11 hF => ?_) fun h11 hF => ?_
          · exact tT h11 (sR 1 (awp_ret (oF hF [] [])))
          · exact tF h11 (awp_skip (sR 1 (awp_ret (oF hF [] []))))
  · refine awp_sub (z1275 qv h5) ?_
    exact oF hF [] []

/-! ### cmp.isNaN[string] -/
def z156 (qx : List UInt8) (r : Unit) : TV × Mem := (.b (!decide (qx = qx)), ⟨[], []⟩)

theorem z157 {qx : List UInt8} {r} (hF : z155 qx = some r) : Holds prog 336 [.c (.s qx)] ⟨[], []⟩ (Is (z156 qx r)) := by
  unfold z155 at hF
  refine hW f336 6 0 0 ?_
  exact sR 1 (sR 4 (awp_ret (oF hF [] [])))

/-! ### cmp.Less[string] -/
def z140 (qx : List UInt8) (qy : List UInt8) : Bool → St
  | vx => Mem.st ⟨[], []⟩ (tl [(4, .b vx)]) 0

def z137 (qx : List UInt8) (qy : List UInt8) : St := Mem.st ⟨[], []⟩ (tl [(0, .c (.s qx)), (1, .c (.s qy))]) 0

theorem z141 (qx : List UInt8) (qy : List UInt8) {r} (hF : z136 qx qy = some r) : Awp prog 0 17 (cL (cR (cB f303))) (Out 0 nrm (z140 qx qy) r) (z137 qx qy) := by
  unfold z136 at hF
  refine bE hF fun _ h1 hF => cE hF (fun h2 hF => ?_) fun h2 hF => ?_
  · refine bE hF fun _ h3 hF => cE hF (fun h4 hF => ?_) fun h4 hF => ?_
    · refine awp_region (aR 1 (aCb (z157 h1) [] [] [] h2 ?_))
      refine aR 2 (aC (z157 h3) [] [] [] (aB h4 (aR 7 (aE ?_))))
      exact oO hF [] [] rfl
    · refine awp_region (aR 1 (aCb (z157 h1) [] [] [] h2 ?_))
      refine aR 2 (aC (z157 h3) [] [] [] (aB h4 (aR 7 (aE ?_))))
      exact oO hF [] [] rfl
  · refine awp_region (aR 1 (aCb (z157 h1) [] [] [] h2 ?_))
    refine aR 11 (aE ?_)
    exact oO hF [] [] rfl

def z134 (qx : List UInt8) (qy : List UInt8) (r : Bool) : TV × Mem := (.b r, ⟨[], []⟩)

theorem z135 {qx : List UInt8} {qy : List UInt8} {r} (hF : z133 qx qy = some r) : Holds prog 303 [.c (.s qx), .c (.s qy)] ⟨[], []⟩ (Is (z134 qx qy r)) := by
  unfold z133 at hF
  refine hW f303 17 0 0 ?_
  refine sR 1 (awp_seq (awp_to (st' := z137 qx qy) (oT [] []) ?_))
  refine bE hF fun vx1 h5 hF => awp_sub (z141 qx qy h5) ?_
  exact awp_ret (oF hF [] [])

/-! ### slices.insertionSortOrdered[string] -/
def z895 (qa : Int) (qb : Int) (vi : Int) (vl3 : List (List UInt8)) (vj1 : Int) : Bool → St
  | vx4 => Mem.st ⟨[(0, ⟨9, 1, List.map encS vl3⟩)], []⟩ (tl [(0, .c (.own 0 none)), (1, .i qa), (2, .i qb), (6, .i vi), (7, .i vj1), (30, .b vx4)]) 1

def z894 (qa : Int) (qb : Int) (vi : Int) (vl3 : List (List UInt8)) (vj1 : Int) : St := Mem.st ⟨[(0, ⟨9, 1, List.map encS vl3⟩)], []⟩ (tl [(0, .c (.own 0 none)), (1, .i qa), (2, .i qb), (6, .i vi), (7, .i vj1)]) 1

theorem z896 (qa : Int) (qb : Int) (vi : Int) (vl3 : List (List UInt8)) (vj1 : Int) {r} (hF : z893 qa vl3 vj1 = some r) : Awp prog 1 49 (cL (cL (cL (cL (cR (cL (cL (cR (cL (cL (cR (cB f297)))))))))))) (Out 1 nrm (z895 qa qb vi vl3 vj1) r) (z894 qa qb vi vl3 vj1) := by
  unfold z893 at hF
  refine cE hF (fun h2 hF => ?_) fun h2 hF => ?_
  · refine bE hF fun vy15 h3 hF => bE hF fun vy16 h4 hF => bE hF fun vr3 h5 hF => aD ?_
    refine dR 2 ?_
    refine dB h2 ?_
    refine dR 3 ?_
    refine dX (x_idxO encS 0 h3) ?_
    refine dX (x_ldE encS h3) ?_
    refine dR 3 ?_
    refine dX (x_idxO encS 0 h4) ?_
    refine dX (x_ldE encS h4) ?_
    refine dC (z135 h5) [] [] [] ?_
    refine dR 1 ?_
    refine dE ?_
    exact oO hF [] [] rfl
  · refine aD ?_
    refine dR 2 ?_
    refine dB h2 ?_
    refine dR 12 ?_
    refine dE ?_
    exact oO hF [] [] rfl

def z891 : (List (List UInt8)) → AEx
  | _ => .exit 2

def z890 (qa : Int) (qb : Int) (vi : Int) : (List (List UInt8)) → St
  | vl4 => Mem.st ⟨[(0, ⟨9, 1, List.map encS vl4⟩)], []⟩ (tl [(0, .c (.own 0 none)), (1, .i qa), (2, .i qb), (6, .i vi)]) 1

def z889 (qa : Int) (qb : Int) (vi : Int) : (List (List UInt8)) × Int → St
  | (vl3, vj1) => Mem.st ⟨[(0, ⟨9, 1, List.map encS vl3⟩)], []⟩ (tl [(0, .c (.own 0 none)), (1, .i qa), (2, .i qb), (6, .i vi), (7, .i vj1)]) 1

theorem z892 (qa : Int) (qb : Int) (vi : Int) (s : (List (List UInt8)) × Int) (r : ((List (List UInt8)) × Int) ⊕ ((List (List UInt8)))) (hF : z888 qa s = some r) : Awp prog 1 49 (cL (cL (cR (cL (cL (cR (cL (cL (cR (cB f297)))))))))) (Out 1 (kk z891) (SS (z889 qa qb vi) (z890 qa qb vi)) r) (z889 qa qb vi s) := by
  obtain ⟨vl3, vj1⟩ := s
  unfold z888 at hF
  refine awp_seq (awp_seq (awp_to (st' := z894 qa qb vi vl3 vj1) (oT [] []) ?_))
  refine bE hF fun vx4_1 h6 hF => awp_sub (z896 qa qb vi vl3 vj1 h6) ?_
  refine cE hF (fun h7 hF => ?_) fun h7 hF => ?_
  · refine tT h7 (awp_skip (awp_seq (awp_block (bE hF fun vy17 h8 hF => bE hF fun vy18 h9 hF => bE hF fun vy19 h10 hF => aDw [0] ?_))))
    refine dR 8 ?_
    refine dI encS 0 h8 rfl ?_
    refine dX (x_ldE encS h8) ?_
    refine dR 2 ?_
    refine dI encS 0 h9 rfl ?_
    refine dX (x_ldE encS h9) ?_
    refine dI encS 0 h9 rfl ?_
    refine dW encS vy17 h9 rfl ?_
    refine dI encS 0 h10 rfl ?_
    refine dW encS vy18 h10 rfl ?_
    refine dE ?_
    exact gR 3 (oO hF [] [] rfl)
  · refine tF h7 (awp_exit ?_)
    exact oO hF [] [] rfl

def z886 : (List (List UInt8)) → AEx
  | _ => .exit 0

def z885 (qa : Int) (qb : Int) : (List (List UInt8)) → St
  | vl5 => Mem.st ⟨[(0, ⟨9, 1, List.map encS vl5⟩)], []⟩ (tl []) 1

def z884 (qa : Int) (qb : Int) : (List (List UInt8)) × Int → St
  | (vl, vi) => Mem.st ⟨[(0, ⟨9, 1, List.map encS vl⟩)], []⟩ (tl [(0, .c (.own 0 none)), (1, .i qa), (2, .i qb), (6, .i vi)]) 1

theorem z887 (qa : Int) (qb : Int) (s : (List (List UInt8)) × Int) (r : ((List (List UInt8)) × Int) ⊕ ((List (List UInt8)))) (hF : z883 qa qb s = some r) : Awp prog 1 49 (cL (cL (cR (cB f297)))) (Out 1 (kk z886) (SS (z884 qa qb) (z885 qa qb)) r) (z884 qa qb s) := by
  obtain ⟨vl, vi⟩ := s
  unfold z883 at hF
  refine awp_seq (sR 3 (cE hF (fun h1 hF => ?_) fun h1 hF => ?_))
  · refine tT h1 (awp_skip (awp_seq (awp_block (sR 2 (awp_block (awp_to (st' := z889 qa qb vi (vl, vi)) (oT [] []) ?_))))))
    refine bE hF fun vl4_1 h11 hF => awp_sub (awp_loop' (z889 qa qb vi) z891 (z890 qa qb vi) (by intro x; exact fun h => nomatch h) h11 (z892 qa qb vi)) ?_
    exact gR 3 (oO hF [] [] rfl)
  · refine tF h1 (awp_exit ?_)
    exact oO hF [] [] rfl

def z881 (qdata : List (List UInt8)) (qa : Int) (qb : Int) (r : (List (List UInt8))) : TV × Mem := (.tup [], ⟨[(0, ⟨9, 1, List.map encS r⟩)], []⟩)

theorem z882 {qdata : List (List UInt8)} {qa : Int} {qb : Int} {r} (hF : z880 qdata qa qb = some r) : Holds prog 297 [.c (.own 0 none), .i qa, .i qb] ⟨[(0, ⟨9, 1, List.map encS qdata⟩)], []⟩ (Is (z881 qdata qa qb r)) := by
  unfold z880 at hF
  refine hW f297 49 1 1 ?_
  refine sR 3 (awp_block (awp_to (st' := z884 qa qb (qdata, IntKind.wrap .i64 (qa + 1))) (oT [] []) ?_))
  refine bE hF fun vl5_1 h12 hF => awp_sub (awp_loop' (z884 qa qb) z886 (z885 qa qb) (by intro x; exact fun h => nomatch h) h12 (z887 qa qb)) ?_
  exact oF hF [] []

/-! ### slices.pdqsortOrdered[string] -/
def z927 : (List (List UInt8)) → AEx
  | _ => .ret

def z926 (qx : List (List UInt8)) (qx1 : Int) (qx2 : Int) (qx3 : Int) : (List (List UInt8)) → St
  | vl => Mem.st ⟨[(0, ⟨9, 1, List.map encS vl⟩)], []⟩ (tl []) 1

def z925 (qx : List (List UInt8)) (qx1 : Int) (qx2 : Int) (qx3 : Int) : Unit → St
  | _ => Mem.st ⟨[(0, ⟨9, 1, List.map encS qx⟩)], []⟩ (tl [(0, .c (.own 0 none)), (1, .i qx1), (2, .i qx2), (3, .i qx3), (8, .b true), (9, .b true)]) 1

theorem z928 (qx : List (List UInt8)) (qx1 : Int) (qx2 : Int) (qx3 : Int) (s : Unit) (r : (Unit) ⊕ ((List (List UInt8)))) (hF : z924 qx qx1 qx2 qx3 s = some r) : Awp prog 1 134 (cL (cL (cR (cR (cB f268))))) (Out 1 (kk z927) (SS (z925 qx qx1 qx2 qx3) (z926 qx qx1 qx2 qx3)) r) (z925 qx qx1 qx2 qx3 s) := by
  unfold z924 at hF
  refine awp_block (sR 4 (awp_seq (sR 2 (cE hF (fun h1 hF => ?_) fun h1 hF => ?_))))
  · refine tT h1 (awp_seq (bE hF fun vl6_1 h2 hF => gE hF fun h3 hF => ?_))
    refine awp_region (aR 3 (aCp (z882 h2) ⟨⟨rfl, rfl, pin1 h3⟩, trivial⟩ [] [] [] ?_))
    refine aE ?_
    exact awp_ret (oO hF [] [] rfl)
  · refine tF h1 (awp_skip (awp_seq (sR 2 (cE hF (fun h4 hF => ?_) fun h4 hF => ?_))))
    · exact tT h4 (awp_seq (nE hF))
    · exact tF h4 (awp_skip (awp_seq (sR 2 (tF rfl (awp_skip (awp_seq (nE hF)))))))

def z922 (qx : List (List UInt8)) (qx1 : Int) (qx2 : Int) (qx3 : Int) (r : (List (List UInt8))) : TV × Mem := (.tup [], ⟨[(0, ⟨9, 1, List.map encS r⟩)], []⟩)

theorem z923 {qx : List (List UInt8)} {qx1 : Int} {qx2 : Int} {qx3 : Int} {r} (hF : z921 qx qx1 qx2 qx3 = some r) : Holds prog 268 [.c (.own 0 none), .i qx1, .i qx2, .i qx3] ⟨[(0, ⟨9, 1, List.map encS qx⟩)], []⟩ (Is (z922 qx qx1 qx2 qx3 r)) := by
  unfold z921 at hF
  refine hW f268 134 1 1 ?_
  refine sR 1 (sR 1 (awp_block (awp_to (st' := z925 qx qx1 qx2 qx3 ()) (oT [] []) ?_)))
  refine bE hF fun vl1 h7 hF => awp_sub (awp_loop' (z925 qx qx1 qx2 qx3) z927 (z926 qx qx1 qx2 qx3) (by intro x; exact fun h => nomatch h) h7 (z928 qx qx1 qx2 qx3)) ?_
  exact oF hF [] []

/-! ### slices.Sort[[]string,string] -/
def z810 (qx : List (List UInt8)) (r : (List (List UInt8))) : TV × Mem := (.tup [], ⟨[(0, ⟨9, 1, List.map encS r⟩)], []⟩)

theorem z811 {qx : List (List UInt8)} {r} (hF : z809 qx = some r) : Holds prog 210 [.c (.own 0 none)] ⟨[(0, ⟨9, 1, List.map encS qx⟩)], []⟩ (Is (z810 qx r)) := by
  unfold z809 at hF
  refine hW f210 11 1 1 ?_
  refine awp_seq (awp_region (aR 1 (aL encS qx (aR 1 (aE ?_)))))
  refine bE hF fun vr1 h1 hF => bE hF fun vl2 h2 hF => gE hF fun h3 hF => ?_
  refine awp_region (aR 4 (aC (z117 h1) [] [] [] (aCp (z923 h2) ⟨⟨rfl, rfl, pin1 h3⟩, trivial⟩ [] [] [] ?_)))
  refine aE ?_
  exact oF hF [] []

/-! ### slices.Compact[[]string,string] -/
def z704 (qs : List (List UInt8)) (vk : Int) (vl4 : List (List UInt8)) (vk6 : Int) (vk2_1 : Int) : ((List (List UInt8)) × Int) → St
  | (vl6, vk8) => Mem.st ⟨[(0, ⟨9, 1, List.map encS vl6⟩)], []⟩ (tl [(0, .c (.own 0 none)), (3, .i vk8), (4, .c (.view 0 vk.toNat ((qs.length : Int).toNat - vk.toNat))), (5, .i vk2_1)]) 1

def z703 (qs : List (List UInt8)) (vk : Int) (vl4 : List (List UInt8)) (vk6 : Int) (vk2_1 : Int) : St := Mem.st ⟨[(0, ⟨9, 1, List.map encS vl4⟩)], []⟩ (tl [(0, .c (.own 0 none)), (3, .i vk6), (4, .c (.view 0 vk.toNat ((qs.length : Int).toNat - vk.toNat))), (5, .i vk2_1)]) 1

theorem z705 (qs : List (List UInt8)) (vk : Int) (vl4 : List (List UInt8)) (vk6 : Int) (vk2_1 : Int) {r} (hF : z702 qs vk vl4 vk6 vk2_1 = some r) : Awp prog 1 61 (cL (cR (cL (cL (cR (cL (cR (cL (cR (cL (cL (cR (cL (cL (cR (cL (cR (cR (cB f211))))))))))))))))))) (Out 1 nrm (z704 qs vk vl4 vk6 vk2_1) r) (z703 qs vk vl4 vk6 vk2_1) := by
  unfold z702 at hF
  refine awp_block (awp_seq (gE hF fun h8 hF => ?_))
  refine bE hF fun vy13 h9 hF => gE hF fun h10 hF => ?_
  refine bE hF fun vy14 h11 hF => aD ?_
  refine dR 2 ?_
  refine dX (x_idxV encS 0 h8 h9) ?_
  refine dX (x_ldE encS h9) ?_
  refine dR 3 ?_
  refine dX (x_idxV encS 0 h10 h11) ?_
  refine dX (x_ldE encS h11) ?_
  refine dR 1 ?_
  refine dE ?_
  refine cE hF (fun h12 hF => ?_) fun h12 hF => ?_
  · refine tT h12 (awp_seq (bE hF fun vy15 h13 hF => awp_region (aR 4 (aX (x_idxV encS 0 h8 h9) (aX (x_ldE encS h9) (aX (x_idxO encS 0 h13) (aX (x_stE encS vy13 h13) (aE ?_))))))))
    exact gR 3 (oO hF [] [] rfl)
  · exact tF h12 (awp_skip (oO hF [] [] rfl))

def z700 : ((List (List UInt8)) × Int) → AEx
  | _ => .exit 2

def z699 (qs : List (List UInt8)) (vk : Int) : ((List (List UInt8)) × Int) → St
  | (vl7, vk9) => Mem.st ⟨[(0, ⟨9, 1, List.map encS vl7⟩)], []⟩ (tl [(0, .c (.own 0 none)), (3, .i vk9)]) 1

def z698 (qs : List (List UInt8)) (vk : Int) : (List (List UInt8)) × Int × Int → St
  | (vl4, vk6, vk2_1) => Mem.st ⟨[(0, ⟨9, 1, List.map encS vl4⟩)], []⟩ (tl [(0, .c (.own 0 none)), (3, .i vk6), (4, .c (.view 0 vk.toNat ((qs.length : Int).toNat - vk.toNat))), (5, .i vk2_1)]) 1

theorem z701 (qs : List (List UInt8)) (vk : Int) (s : (List (List UInt8)) × Int × Int) (r : ((List (List UInt8)) × Int × Int) ⊕ (((List (List UInt8)) × Int))) (hF : z697 qs vk s = some r) : Awp prog 1 61 (cL (cL (cR (cL (cR (cL (cR (cL (cL (cR (cL (cL (cR (cL (cR (cR (cB f211))))))))))))))))) (Out 1 (kk z700) (SS (z698 qs vk) (z699 qs vk)) r) (z698 qs vk s) := by
  obtain ⟨vl4, vk6, vk2_1⟩ := s
  unfold z697 at hF
  refine awp_seq (sR 4 (cE hF (fun h7 hF => ?_) fun h7 hF => ?_))
  · refine tT h7 (awp_skip (awp_seq (awp_to (st' := z703 qs vk vl4 vk6 vk2_1) (oT [] []) ?_)))
    refine bE hF fun x h14 hF => ?_
    obtain ⟨vl6_1, vk8_1⟩ := x
    refine awp_sub (z705 qs vk vl4 vk6 vk2_1 h14) ?_
    exact gR 3 (oO hF [] [] rfl)
  · refine tF h7 (awp_exit ?_)
    exact oO hF [] [] rfl

def z695 : Unit ⊕ (List (List UInt8)) → AEx
  | .inl _ => .exit 0
  | .inr _ => .ret

def z694 (qs : List (List UInt8)) : Unit ⊕ (List (List UInt8)) → St
  | .inl _ => Mem.st ⟨[(0, ⟨9, 1, List.map encS qs⟩)], []⟩ (tl [(0, .c (.own 0 none))]) 1
  | .inr vx => Mem.st ⟨[(1, ⟨9, 1, List.map encS vx⟩)], []⟩ (tl [(2, .c (.own 1 none))]) 2

def z693 (qs : List (List UInt8)) : Int → St
  | vk => Mem.st ⟨[(0, ⟨9, 1, List.map encS qs⟩)], []⟩ (tl [(0, .c (.own 0 none)), (3, .i vk)]) 1

theorem z696 (qs : List (List UInt8)) (vk : Int) (r : (Int) ⊕ (Unit ⊕ (List (List UInt8)))) (hF : z692 qs vk = some r) : Awp prog 1 61 (cL (cL (cR (cL (cR (cR (cB f211))))))) (Out 1 (kk z695) (SS (z693 qs) (z694 qs)) r) (z693 qs vk) := by
  unfold z692 at hF
  refine awp_seq (awp_seq (awp_region (aR 2 (aL encS qs (aR 1 (aE ?_))))))
  refine cE hF (fun h2 hF => ?_) fun h2 hF => ?_
  · refine tT h2 (awp_skip (awp_seq (awp_block (awp_seq (bE hF fun vy8 h3 hF => bE hF fun vy9 h4 hF => aD ?_)))))
    refine dR 2 ?_
    refine dX (x_idxO encS 0 h3) ?_
    refine dX (x_ldE encS h3) ?_
    refine dR 3 ?_
    refine dX (x_idxO encS 0 h4) ?_
    refine dX (x_ldE encS h4) ?_
    refine dR 1 ?_
    refine dE ?_
    refine cE hF (fun h5 hF => ?_) fun h5 hF => ?_
    · refine tT h5 (awp_seq (gE hF fun h6 hF => ?_))
      refine awp_region (aR 2 (aX (x_viewN encS 0 h6) (aR 1 (aE ?_))))
      refine awp_seq (sR 1 (awp_block (awp_to (st' := z698 qs vk (qs, vk, 1)) (oT [] []) ?_)))
      refine bE hF fun x h15 hF => ?_
      obtain ⟨vl7_1, vk9_1⟩ := x
      refine awp_sub (awp_loop' (z698 qs vk) z700 (z699 qs vk) (by intro x; exact fun h => nomatch h) h15 (z701 qs vk)) ?_
      refine awp_seq (gE hF fun h16 hF => ?_)
      refine awp_region (aR 2 (aX (x_viewN encS 0 h16) (aCl encS 0 (xs := vl7_1) (y := ([] : List UInt8)) (lo := vk9_1) (hi := (vl7_1.length : Int)) rfl ?_)))
      refine aE ?_
      refine awp_seq (gE hF fun h17 hF => ?_)
      refine awp_region (aR 2 (aT encS 0 h17 rfl ?_))
      refine aR 1 (aE ?_)
      exact awp_ret (oO hF [(1, 6001)] [] rfl)
    · exact tF h5 (awp_skip (gR 3 (oO hF [] [] rfl)))
  · refine tF h2 (awp_exit ?_)
    exact oO hF [] [] rfl

def z690 (qs : List (List UInt8)) (r : (List (List UInt8))) : TV × Mem := (.c (.own 1 none), ⟨[(1, ⟨9, 1, List.map encS r⟩)], []⟩)

theorem z691 {qs : List (List UInt8)} {r} (hF : z689 qs = some r) : Holds prog 211 [.c (.own 0 none)] ⟨[(0, ⟨9, 1, List.map encS qs⟩)], []⟩ (Is (z690 qs r)) := by
  unfold z689 at hF
  refine hW f211 61 1 1 ?_
  refine sR 1 (awp_seq (awp_seq (awp_region (aR 1 (aL encS qs (aR 1 (aE ?_)))))))
  refine cE hF (fun h1 hF => ?_) fun h1 hF => ?_
  · exact tT h1 (sR 2 (awp_ret (oF hF [(1, 0)] [])))
  · refine tF h1 (awp_skip (awp_seq (sR 1 (awp_block (awp_to (st' := z693 qs 1) (oT [] []) ?_)))))
    refine bE hF fun x h18 hF => ?_
    rcases x with _ | vx1
    · refine awp_sub (awp_loop' (z693 qs) z695 (z694 qs) (by intro x; rcases x with x | x <;> exact fun h => nomatch h) h18 (z696 qs)) ?_
      exact sR 2 (awp_ret (oF hF [(1, 0)] []))
    · refine awp_sub (awp_loop' (z693 qs) z695 (z694 qs) (by intro x; rcases x with x | x <;> exact fun h => nomatch h) h18 (z696 qs)) ?_
      exact oF hF [] []

/-! ### beaconfleet/twin.names -/
def z1266 : (List (List UInt8)) → AEx
  | _ => .exit 2

def z1265 (qlists : List (List api_Prop)) (vx : Int) (vy3 : List api_Prop) : (List (List UInt8)) → St
  | vout4 => Mem.st ⟨[(1, ⟨9, 1, List.map encS vout4⟩)], []⟩ (tl [(3, .c (.own 1 none)), (8, .c (.l (encL api_Prop.enc) qlists)), (9, .i (qlists.length : Int)), (10, .i vx)]) 2

def z1264 (qlists : List (List api_Prop)) (vx : Int) (vy3 : List api_Prop) : (List (List UInt8)) × Int → St
  | (vout3, vx2) => Mem.st ⟨[(1, ⟨9, 1, List.map encS vout3⟩)], []⟩ (tl [(3, .c (.own 1 none)), (8, .c (.l (encL api_Prop.enc) qlists)), (9, .i (qlists.length : Int)), (10, .i vx), (14, .c (.l api_Prop.enc vy3)), (15, .i (vy3.length : Int)), (16, .i vx2)]) 2

theorem z1267 (qlists : List (List api_Prop)) (vx : Int) (vy3 : List api_Prop) (s : (List (List UInt8)) × Int) (r : ((List (List UInt8)) × Int) ⊕ ((List (List UInt8)))) (hF : z1263 vy3 s = some r) : Awp prog 1 31 (cL (cL (cR (cR (cL (cL (cR (cR (cL (cL (cR (cL (cR (cR (cB f119))))))))))))))) (Out 1 (kk z1266) (SS (z1264 qlists vx vy3) (z1265 qlists vx vy3)) r) (z1264 qlists vx vy3 s) := by
  obtain ⟨vout3, vx2⟩ := s
  unfold z1263 at hF
  refine sR 1 (awp_seq (cE hF (fun h3 hF => ?_) fun h3 hF => ?_))
  · refine tT h3 (awp_skip (awp_seq (awp_block (awp_seq (bE hF fun vy5 h4 hF => awp_region (aX (x_idx api_Prop.enc h4) (aR 3 (aE ?_))))))))
    refine gE hF fun h5 hF => ?_
    refine awp_region (aR 4 (aX (x_app encS 1 h5) (aR 1 (aE ?_))))
    exact gR 2 (oO hF [(1, 9002)] [] rfl)
  · refine tF h3 (awp_exit ?_)
    exact oO hF [] [] rfl

def z1261 : (List (List UInt8)) → AEx
  | _ => .exit 0

def z1260 (qlists : List (List api_Prop)) : (List (List UInt8)) → St
  | vout5 => Mem.st ⟨[(1, ⟨9, 1, List.map encS vout5⟩)], []⟩ (tl [(3, .c (.own 1 none))]) 2

def z1259 (qlists : List (List api_Prop)) : (List (List UInt8)) × Int → St
  | (vout, vx) => Mem.st ⟨[(1, ⟨9, 1, List.map encS vout⟩)], []⟩ (tl [(3, .c (.own 1 none)), (8, .c (.l (encL api_Prop.enc) qlists)), (9, .i (qlists.length : Int)), (10, .i vx)]) 2

theorem z1262 (qlists : List (List api_Prop)) (s : (List (List UInt8)) × Int) (r : ((List (List UInt8)) × Int) ⊕ ((List (List UInt8)))) (hF : z1258 qlists s = some r) : Awp prog 1 31 (cL (cL (cR (cL (cR (cR (cB f119))))))) (Out 1 (kk z1261) (SS (z1259 qlists) (z1260 qlists)) r) (z1259 qlists s) := by
  obtain ⟨vout, vx⟩ := s
  unfold z1258 at hF
  refine sR 1 (awp_seq (cE hF (fun h1 hF => ?_) fun h1 hF => ?_))
  · refine tT h1 (awp_skip (awp_seq (awp_block (awp_seq (bE hF fun vy3 h2 hF => awp_region (aX (x_idx (encL api_Prop.enc) h2) (aR 2 (aE ?_))))))))
    refine awp_seq (awp_region (aR 1 (aL api_Prop.enc vy3 (aR 1 (aE ?_)))))
    refine awp_block (awp_to (st' := z1264 qlists vx vy3 (vout, 0)) (oT [] []) ?_)
    refine bE hF fun vout4_1 h6 hF => awp_sub (awp_loop' (z1264 qlists vx vy3) z1266 (z1265 qlists vx vy3) (by intro x; exact fun h => nomatch h) h6 (z1267 qlists vx vy3)) ?_
    exact gR 2 (oO hF [] [] rfl)
  · refine tF h1 (awp_exit ?_)
    exact oO hF [] [] rfl

def z1256 (qlists : List (List api_Prop)) (r : (List (List UInt8))) : TV × Mem := (.c (.own 1 none), ⟨[(1, ⟨9, 1, List.map encS r⟩)], []⟩)

theorem z1257 {qlists : List (List api_Prop)} {r} (hF : z1255 qlists = some r) : Holds prog 119 [.c (.own 0 none)] ⟨[(0, ⟨147, 1, List.map (encL api_Prop.enc) qlists⟩)], []⟩ (Is (z1256 qlists r)) := by
  unfold z1255 at hF
  refine hW f119 31 1 1 ?_
  refine sR 1 (awp_to (oT (m := ⟨[], []⟩) (ts := [(0, .c (.l (encL api_Prop.enc) qlists))]) (nx := 1) [] []) ?_)
  refine sR 1 (awp_seq (awp_seq (awp_region (aR 1 (aL (encL api_Prop.enc) qlists (aR 1 (aE ?_)))))))
  refine awp_block (awp_to (st' := z1259 qlists ([], 0)) (oT [] [1]) ?_)
  refine bE hF fun vout5_1 h7 hF => awp_sub (awp_loop' (z1259 qlists) z1261 (z1260 qlists) (by intro x; exact fun h => nomatch h) h7 (z1262 qlists)) ?_
  refine awp_seq (bE hF fun vl h8 hF => gE hF fun h9 hF => ?_)
  refine awp_region (aR 1 (aCp (z811 h8) ⟨⟨rfl, rfl, pin1 h9⟩, trivial⟩ [(0, 1)] [] [] ?_))
  refine aE ?_
  refine awp_seq (bE hF fun vr h10 hF => awp_region (aR 1 (aC (z691 h10) [(0, 1)] [] [] (aR 1 (aE ?_)))))
  exact awp_ret (oF hF [(1, 3003)] [])

/-! ### beaconfleet/twin.find$1 -/
def z1245 (qp : api_Prop) (qname : List UInt8) (r : Unit) : TV × Mem := (.i (Lib.compareBytes qp.Name qname), ⟨[], []⟩)

theorem z1246 {qp : api_Prop} {qname : List UInt8} {r} (hF : z1244 qp qname = some r) : Holds prog 270 [.v (.agg [.s qp.Name, .i qp.Value.Kind, .t qp.Value.Flag, .i qp.Value.Number, .s qp.Value.Words]), .c (.s qname)] ⟨[], []⟩ (Is (z1245 qp qname r)) := by
  unfold z1244 at hF
  refine hW f270 9 0 0 ?_
  refine sR 2 (awp_seq (bE hF fun _ h1 hF => awp_region (aR 3 (aC (z1104 h1) [] [] [] (aR 1 (aE ?_))))))
  exact awp_ret (oF hF [] [])

end Go.Eng
