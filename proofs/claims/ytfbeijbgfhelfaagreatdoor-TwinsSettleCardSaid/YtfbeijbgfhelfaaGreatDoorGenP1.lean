/-
The code of the Go functions that the law TwinsSettle reaches does what the plain functions say, part 1.
-/
import Derived.Test.YtfbeijbgfhelfaaGreatDoorGenF

import Derived.Test.YtfbeijbgfhelfaaGreatDoorEng9

import Derived.Test.YtfbeijbgfhelfaaGreatDoorGenS

import Derived.Test.YtfbeijbgfhelfaaGreatDoorProg

import Derived.KernelRfl

namespace Go.Eng

open Go Go.Proofs.Tryz

set_option linter.unusedVariables false

set_option maxRecDepth 20000

set_option maxHeartbeats 0

def ti2 : TI := ⟨1, 8, [.d (.int .i64 0)], false, .int .i64⟩

def ti3 : TI := ⟨1, 8, [.d (.int .i64 0)], false, .int .i64⟩

def ti4 : TI := ⟨1, 1, [.d (.bool false)], false, .bool⟩

def ti5 : TI := ⟨1, 1, [.d (.int .u8 0)], false, .int .u8⟩

def ti9 : TI := ⟨1, 16, [.d (.str [])], false, .str⟩

def ti21 : TI := ⟨1, 4, [.d (.int .i32 0)], false, .int .i32⟩

def ti22 : TI := ⟨1, 24, [.nil], false, .slice 3⟩

def ti25 : TI := ⟨2, 32, [.nil, .d (.int .i64 0)], true, .struct [(0, 22), (1, 3)]⟩

def ti27 : TI := ⟨1, 8, [.nilp], false, .ptr⟩

def ti28 : TI := ⟨1, 8, [.d (.int .i64 0)], false, .int .i64⟩

def ti34 : TI := ⟨1, 24, [.nil], false, .slice 40⟩

def ti36 : TI := ⟨3, 40, [.d (.int .i64 0), .nil, .d (.int .i64 0)], true, .struct [(0, 3), (1, 34), (2, 3)]⟩

def ti40 : TI := ⟨6, 72, [.d (.str []), .d (.str []), .d (.str []), .d (.int .i64 0), .d (.int .i64 0), .d (.int .i64 0)], true, .struct [(0, 9), (1, 9), (2, 9), (3, 3), (4, 3), (5, 3)]⟩

def ti45 : TI := ⟨1, 24, [.nil], false, .slice 9⟩

def ti49 : TI := ⟨4, 32, [.d (.int .i64 0), .d (.int .i64 0), .d (.int .i64 0), .d (.int .i64 0)], true, .struct [(0, 3), (1, 3), (2, 3), (3, 3)]⟩

def ti51 : TI := ⟨1, 8, [.nilp], false, .ptr⟩

def ti56 : TI := ⟨1, 24, [.nil], false, .slice 65⟩

def ti65 : TI := ⟨9, 96, [.d (.str []), .d (.str []), .d (.str []), .d (.int .i64 0), .d (.int .i64 0), .d (.int .i64 0), .d (.int .i64 0), .d (.int .i64 0), .d (.int .i64 0)], true, .struct [(0, 40), (6, 3), (7, 3), (8, 3)]⟩

def ti75 : TI := ⟨1, 24, [.nil], false, .slice 152⟩

def ti77 : TI := ⟨2, 48, [.nil, .nil], true, .struct [(0, 75), (1, 75)]⟩

def ti80 : TI := ⟨3, 32, [.d (.int .i64 0), .d (.str []), .d (.int .i64 0)], true, .struct [(0, 3), (1, 9), (2, 3)]⟩

def ti82 : TI := ⟨1, 24, [.nil], false, .slice 92⟩

def ti90 : TI := ⟨4, 40, [.d (.int .i64 0), .d (.bool false), .d (.int .i64 0), .d (.str [])], true, .struct [(0, 3), (1, 4), (2, 3), (3, 9)]⟩

def ti92 : TI := ⟨9, 96, [.d (.str []), .d (.int .i64 0), .d (.bool false), .d (.int .i64 0), .d (.str []), .d (.int .i64 0), .d (.bool false), .d (.int .i64 0), .d (.str [])], true, .struct [(0, 9), (1, 90), (5, 90)]⟩

def ti109 : TI := ⟨1, 24, [.nil], false, .slice 117⟩

def ti111 : TI := ⟨3, 40, [.d (.int .i64 0), .nil, .d (.int .i64 0)], true, .struct [(0, 3), (1, 109), (2, 3)]⟩

def ti117 : TI := ⟨2, 24, [.d (.str []), .d (.int .i64 0)], true, .struct [(0, 9), (1, 3)]⟩

def ti124 : TI := ⟨1, 8, [.nilm], false, .map 9 65⟩

def ti126 : TI := ⟨6, 48, [.d (.int .i64 0), .d (.int .i64 0), .d (.int .i64 0), .d (.int .i64 0), .nilm, .d (.int .i64 0)], true, .struct [(0, 49), (4, 124), (5, 3)]⟩

def ti145 : TI := ⟨1, 8, [.d (.int .u64 0)], false, .int .u64⟩

def ti147 : TI := ⟨1, 24, [.nil], false, .slice 150⟩

def ti150 : TI := ⟨5, 56, [.d (.str []), .d (.int .i64 0), .d (.bool false), .d (.int .i64 0), .d (.str [])], true, .struct [(0, 9), (1, 90)]⟩

def ti152 : TI := ⟨8, 88, [.d (.str []), .d (.int .i64 0), .d (.bool false), .d (.int .i64 0), .d (.str []), .d (.int .i64 0), .d (.str []), .d (.int .i64 0)], true, .struct [(0, 150), (5, 80)]⟩

def ti154 : TI := ⟨1, 8, [.undef], false, .other⟩

def ti162 : TI := ⟨1, 8, [.nilm], false, .map 9 90⟩

def ti174 : TI := ⟨1, 24, [.nil], false, .slice 28⟩

def ti179 : TI := ⟨1, 24, [.nil], false, .slice 5⟩

def ti183 : TI := ⟨4, 48, [.d (.str []), .d (.str []), .d (.int .i64 0), .d (.int .i64 0)], true, .struct [(0, 9), (1, 9), (2, 3), (3, 3)]⟩

def ti184 : TI := ⟨1, 24, [.nil], false, .slice 183⟩

def ti186 : TI := ⟨3, 24, [.d (.int .i64 0), .d (.int .i64 0), .d (.int .i64 0)], true, .struct [(0, 3), (1, 3), (2, 3)]⟩

def ti192 : TI := ⟨2, 16, [.d (.int .i64 0), .d (.int .i64 0)], true, .struct [(0, 3), (1, 3)]⟩

def ti205 : TI := ⟨1, 16, [.nili], false, .other⟩

def ti233 : TI := ⟨1, 8, [.d (.int .u64 0)], false, .int .u64⟩

def ti237 : TI := ⟨1, 24, [.nil], false, .slice 147⟩

def ti249 : TI := ⟨1, 8, [.nilm], false, .map 9 152⟩

def ti257 : TI := ⟨1, 24, [.nil], false, .slice 56⟩

def ti290 : TI := ⟨1, 24, [.nil], false, .slice 75⟩

def Γ : Types := [(2, ti2), (3, ti3), (4, ti4), (5, ti5), (9, ti9), (21, ti21), (22, ti22), (25, ti25), (27, ti27), (28, ti28), (34, ti34), (36, ti36), (40, ti40), (45, ti45), (49, ti49), (51, ti51), (56, ti56), (65, ti65), (75, ti75), (77, ti77), (80, ti80), (82, ti82), (90, ti90), (92, ti92), (109, ti109), (111, ti111), (117, ti117), (124, ti124), (126, ti126), (145, ti145), (147, ti147), (150, ti150), (152, ti152), (154, ti154), (162, ti162), (174, ti174), (179, ti179), (183, ti183), (184, ti184), (186, ti186), (192, ti192), (205, ti205), (233, ti233), (237, ti237), (249, ti249), (257, ti257), (290, ti290)]

theorem hΓ : TypesOk prog Γ := typesOk_of (by kernel_rfl)

instance : TOk prog Γ := ⟨hΓ⟩

theorem hm : prog.follows .mixedOrders = true := by kernel_rfl

instance : Mixed prog := ⟨hm⟩

/-! ### beaconfleet/fleetmake.Below -/
def z175 (qx : Int) (qn : Int) : Int → St
  | vx => Mem.st ⟨[], []⟩ (tl [(0, .i vx)]) 0

def z174 (qx : Int) (qn : Int) : St := Mem.st ⟨[], []⟩ (tl [(0, .i (qx.tmod qn)), (1, .i qn)]) 0

theorem z176 (qx : Int) (qn : Int) {r} (hF : z173 qx qn = some r) : Awp prog 0 16 (cL (cR (cR (cR (cB f152))))) (Out 0 nrm (z175 qx qn) r) (z174 qx qn) := by
  unfold z173 at hF
  refine sR 2 (cE hF (fun h3 hF => ?_) fun h3 hF => ?_)
  · exact tT h3 (gR 4 (oO hF [] [] rfl))
  · exact tF h3 (awp_skip (oO hF [] [] rfl))

def z171 (qx : Int) (qn : Int) (r : Int) : TV × Mem := (.i r, ⟨[], []⟩)

theorem z172 {qx : Int} {qn : Int} {r} (hF : z170 qx qn = some r) : Holds prog 152 [.i qx, .i qn] ⟨[], []⟩ (Is (z171 qx qn r)) := by
  unfold z170 at hF
  refine hW f152 16 0 0 ?_
  refine sR 1 (awp_seq (sR 2 (cE hF (fun h1 hF => ?_) fun h1 hF => ?_)))
  · exact tT h1 (sR 1 (awp_ret (oF hF [] [])))
  · refine tF h1 (awp_skip (awp_seq (gE hF fun h2 hF => ?_)))
    refine awp_region (aR 2 (aX (x_rem h2) (aR 1 (aE ?_))))
    refine awp_seq (awp_to (st' := z174 qx qn) (oT [] []) ?_)
    refine bE hF fun vx1 h4 hF => awp_sub (z176 qx qn h4) ?_
    exact sR 2 (awp_ret (oF hF [] []))

/-! ### (*beaconfleet/fleetmake.Stream).Next -/
def z200 (qs : z177) (qn : Int) (r : Int) : TV × Mem := (.i r, ⟨[], [(0, [.l (encI .i64) qs.L, .i (IntKind.wrap .i64 (qs.at_ + 1))])]⟩)

theorem z201 {qs : z177} {qn : Int} {r} (hF : z199 qs qn = some r) : Holds prog 54 [.c (.box 0 0), .i qn] ⟨[], [(0, [.l (encI .i64) qs.L, .i qs.at_])]⟩ (Is (z200 qs qn r)) := by
  unfold z199 at hF
  refine hW f54 64 1 1 ?_
  refine sR 1 (sR 8 (awp_seq (awp_seq (awp_region (aR 4 (aL (encI .i64) qs.L (aR 1 (aE ?_))))))))
  refine cE hF (fun h1 hF => ?_) fun h1 hF => ?_
  · refine tT h1 (awp_seq (bE hF fun vr h2 hF => awp_region (aR 6 (aC (z172 h2) [] [] [] (aR 1 (aE ?_))))))
    exact awp_ret (oF hF [] [])
  · refine tF h1 (awp_skip (awp_seq (gE hF fun h3 hF => ?_)))
    refine aD ?_
    refine dR 9 ?_
    refine dL (encI .i64) qs.L ?_
    refine dX (x_rem h3) ?_
    refine dR 1 ?_
    refine dE ?_
    refine awp_seq (aD ?_)
    refine dR 9 ?_
    refine dL (encI .i64) qs.L ?_
    refine dX (x_quo h3) ?_
    refine dR 1 ?_
    refine dE ?_
    refine awp_seq (bE hF fun vy h4 hF => bE hF fun vr1 h5 hF => bE hF fun vr2 h6 hF => awp_region (aR 5 (aX (x_idx (encI .i64) h4) (aR 1 (aC (z172 h5) [] [] [] (aR 6 (aC (z172 h6) [] [] [] (aR 1 (aE ?_)))))))))
    exact awp_ret (oF hF [] [])

/-! ### (*beaconfleet/fleetmake.Stream).Pick -/
def z206 (qs : z177) (ql : List Int) (r : Int) : TV × Mem := (.i r, ⟨[], [(0, [.l (encI .i64) qs.L, .i (IntKind.wrap .i64 (qs.at_ + 1))])]⟩)

theorem z207 {qs : z177} {ql : List Int} {r} (hF : z205 qs ql = some r) : Holds prog 9 [.c (.box 0 0), .c (.own 1 none)] ⟨[(1, ⟨3, 1, List.map (encI .i64) ql⟩)], [(0, [.l (encI .i64) qs.L, .i qs.at_])]⟩ (Is (z206 qs ql r)) := by
  unfold z205 at hF
  refine hW f9 12 2 2 ?_
  refine sR 1 (awp_to (oT (m := ⟨[], [(0, [.l (encI .i64) qs.L, .i qs.at_])]⟩) (ts := [(0, .c (.box 0 0)), (1, .c (.l (encI .i64) ql))]) (nx := 2) [] []) ?_)
  refine awp_seq (bE hF fun vr3 h1 hF => bE hF fun vy h2 hF => awp_region (aR 3 (aL (encI .i64) ql (aC (z201 h1) [] [] [] (aX (x_idx (encI .i64) h2) (aR 2 (aE ?_)))))))
  exact awp_ret (oF hF [] [])

/-! ### beaconfleet/base.Out -/
def z58 (qn : Int) (qlow : Int) (qhigh : Int) : Bool → St
  | vx => Mem.st ⟨[], []⟩ (tl [(6, .b vx)]) 0

def z57 (qn : Int) (qlow : Int) (qhigh : Int) : St := Mem.st ⟨[], []⟩ (tl [(0, .i qn), (1, .i qlow), (2, .i qhigh)]) 0

theorem z59 (qn : Int) (qlow : Int) (qhigh : Int) {r} (hF : z56 qn qlow qhigh = some r) : Awp prog 0 15 (cL (cR (cB f64))) (Out 0 nrm (z58 qn qlow qhigh) r) (z57 qn qlow qhigh) := by
  unfold z56 at hF
  refine cE hF (fun h1 hF => ?_) fun h1 hF => ?_
  · refine awp_region (aR 2 (aB h1 (aR 6 (aE ?_))))
    exact oO hF [] [] rfl
  · refine awp_region (aR 2 (aB h1 (aR 6 (aE ?_))))
    exact oO hF [] [] rfl

def z54 (qn : Int) (qlow : Int) (qhigh : Int) (r : Bool) : TV × Mem := (.b r, ⟨[], []⟩)

theorem z55 {qn : Int} {qlow : Int} {qhigh : Int} {r} (hF : base_Out qn qlow qhigh = some r) : Holds prog 64 [.i qn, .i qlow, .i qhigh] ⟨[], []⟩ (Is (z54 qn qlow qhigh r)) := by
  unfold base_Out at hF
  refine hW f64 15 0 0 ?_
  refine sR 1 (awp_seq (awp_to (st' := z57 qn qlow qhigh) (oT [] []) ?_))
  refine bE hF fun vx1 h2 hF => awp_sub (z59 qn qlow qhigh h2) ?_
  exact awp_ret (oF hF [] [])

/-! ### beaconfleet/base.Key -/
def z36 (qs : List UInt8) : Bool → St
  | vx => Mem.st ⟨[], []⟩ (tl [(0, .c (.s qs)), (21, .b vx)]) 0

def z35 (qs : List UInt8) : St := Mem.st ⟨[], []⟩ (tl [(0, .c (.s qs))]) 0

theorem z38 (qs : List UInt8) {r} (hF : z34 qs = some r) : Awp prog 0 54 (cL (cL (cR (cB f106)))) (Out 0 nrm (z36 qs) r) (z35 qs) := by
  unfold z34 at hF
  refine cE hF (fun h1 hF => ?_) fun h1 hF => ?_
  · refine awp_region (aR 1 (aB h1 (aR 15 (aE ?_))))
    exact oO hF [] [] rfl
  · refine cE hF (fun h2 hF => ?_) fun h2 hF => ?_
    · refine awp_region (aR 1 (aB h1 (aR 3 (aB h2 (aR 11 (aE ?_))))))
      exact oO hF [] [] rfl
    · refine bE hF fun vc h3 hF => cE hF (fun h4 hF => ?_) fun h4 hF => ?_
      · refine awp_region (aR 1 (aB h1 (aR 3 (aB h2 (aR 3 (aX (x_idxS h3) (aB h4 (aR 6 (aE ?_)))))))))
        exact oO hF [] [] rfl
      · refine awp_region (aR 1 (aB h1 (aR 3 (aB h2 (aR 3 (aX (x_idxS h3) (aB h4 (aR 3 (aX (x_idxS h3) (aR 2 (aE ?_)))))))))))
        exact oO hF [] [] rfl

def z47 (qs : List UInt8) (vx2 : Int) (vc2 : UInt8) : Bool → St
  | vx4 => Mem.st ⟨[], []⟩ (tl [(0, .c (.s qs)), (23, .i (qs.length : Int)), (24, .i vx2), (52, .b vx4)]) 0

def z45 (qs : List UInt8) (vx2 : Int) (vc2 : UInt8) : St := Mem.st ⟨[], []⟩ (tl [(0, .c (.s qs)), (4, .c (.d (.int .u8 (vc2.toNat : Int)))), (23, .i (qs.length : Int)), (24, .i vx2)]) 0

theorem z48 (qs : List UInt8) (vx2 : Int) (vc2 : UInt8) {r} (hF : z44 vc2 = some r) : Awp prog 0 54 (cL (cR (cR (cL (cL (cR (cR (cL (cL (cR (cL (cR (cR (cB f106)))))))))))))) (Out 0 nrm (z47 qs vx2 vc2) r) (z45 qs vx2 vc2) := by
  unfold z44 at hF
  refine cE hF (fun h9 hF => ?_) fun h9 hF => ?_
  · refine cE hF (fun h10 hF => ?_) fun h10 hF => ?_
    · refine awp_region (aR 1 (aB h9 (aR 2 (aB h10 (aR 18 (aE ?_))))))
      exact oO hF [] [] rfl
    · refine cE hF (fun h11 hF => ?_) fun h11 hF => ?_
      · refine cE hF (fun h12 hF => ?_) fun h12 hF => ?_
        · refine awp_region (aR 1 (aB h9 (aR 2 (aB h10 (aR 3 (aB h11 (aR 2 (aB h12 (aR 11 (aE ?_))))))))))
          exact oO hF [] [] rfl
        · refine cE hF (fun h13 hF => ?_) fun h13 hF => ?_
          · refine awp_region (aR 1 (aB h9 (aR 2 (aB h10 (aR 3 (aB h11 (aR 2 (aB h12 (aR 4 (aB h13 (aR 6 (aE ?_))))))))))))
            exact oO hF [] [] rfl
          · refine awp_region (aR 1 (aB h9 (aR 2 (aB h10 (aR 3 (aB h11 (aR 2 (aB h12 (aR 4 (aB h13 (aR 6 (aE ?_))))))))))))
            exact oO hF [] [] rfl
      · refine cE hF (fun h14 hF => ?_) fun h14 hF => ?_
        · refine awp_region (aR 1 (aB h9 (aR 2 (aB h10 (aR 3 (aB h11 (aR 7 (aB h14 (aR 6 (aE ?_))))))))))
          exact oO hF [] [] rfl
        · refine awp_region (aR 1 (aB h9 (aR 2 (aB h10 (aR 3 (aB h11 (aR 7 (aB h14 (aR 6 (aE ?_))))))))))
          exact oO hF [] [] rfl
  · refine cE hF (fun h15 hF => ?_) fun h15 hF => ?_
    · refine cE hF (fun h16 hF => ?_) fun h16 hF => ?_
      · refine awp_region (aR 1 (aB h9 (aR 6 (aB h15 (aR 2 (aB h16 (aR 11 (aE ?_))))))))
        exact oO hF [] [] rfl
      · refine cE hF (fun h17 hF => ?_) fun h17 hF => ?_
        · refine awp_region (aR 1 (aB h9 (aR 6 (aB h15 (aR 2 (aB h16 (aR 4 (aB h17 (aR 6 (aE ?_))))))))))
          exact oO hF [] [] rfl
        · refine awp_region (aR 1 (aB h9 (aR 6 (aB h15 (aR 2 (aB h16 (aR 4 (aB h17 (aR 6 (aE ?_))))))))))
          exact oO hF [] [] rfl
    · refine cE hF (fun h18 hF => ?_) fun h18 hF => ?_
      · refine awp_region (aR 1 (aB h9 (aR 6 (aB h15 (aR 7 (aB h18 (aR 6 (aE ?_))))))))
        exact oO hF [] [] rfl
      · refine awp_region (aR 1 (aB h9 (aR 6 (aB h15 (aR 7 (aB h18 (aR 6 (aE ?_))))))))
        exact oO hF [] [] rfl

def z42 : Unit ⊕ Unit → AEx
  | .inl _ => .exit 0
  | .inr _ => .ret

def z41 (qs : List UInt8) : Unit ⊕ Unit → St
  | .inl _ => Mem.st ⟨[], []⟩ (tl []) 0
  | .inr _ => Mem.st ⟨[], []⟩ (tl [(2, .b false)]) 0

def z40 (qs : List UInt8) : Int → St
  | vx2 => Mem.st ⟨[], []⟩ (tl [(0, .c (.s qs)), (23, .i (qs.length : Int)), (24, .i vx2)]) 0

theorem z43 (qs : List UInt8) (vx2 : Int) (r : (Int) ⊕ (Unit ⊕ Unit)) (hF : z39 qs vx2 = some r) : Awp prog 0 54 (cL (cL (cR (cL (cR (cR (cB f106))))))) (Out 0 (kk z42) (SS (z40 qs) (z41 qs)) r) (z40 qs vx2) := by
  unfold z39 at hF
  refine sR 1 (awp_seq (cE hF (fun h7 hF => ?_) fun h7 hF => ?_))
  · refine tT h7 (awp_skip (awp_seq (awp_block (sR 2 (awp_seq (bE hF fun vc2 h8 hF => awp_region (aR 2 (aX (x_idxS h8) (aR 1 (aE ?_))))))))))
    refine awp_seq (awp_to (st' := z45 qs vx2 vc2) (oT [] []) ?_)
    refine bE hF fun vx4_1 h19 hF => awp_sub (z48 qs vx2 vc2 h19) ?_
    refine cE hF (fun h20 hF => ?_) fun h20 hF => ?_
    · exact tT h20 (sR 1 (awp_ret (oO hF [] [] rfl)))
    · exact tF h20 (awp_skip (gR 2 (oO hF [] [] rfl)))
  · refine tF h7 (awp_exit ?_)
    exact oO hF [] [] rfl

def z32 (qs : List UInt8) (r : Bool) : TV × Mem := (.b r, ⟨[], []⟩)

theorem z33 {qs : List UInt8} {r} (hF : base_Key qs = some r) : Holds prog 106 [.c (.s qs)] ⟨[], []⟩ (Is (z32 qs r)) := by
  unfold base_Key at hF
  refine hW f106 54 0 0 ?_
  refine sR 1 (awp_seq (awp_seq (awp_to (st' := z35 qs) (oT [] []) ?_)))
  refine bE hF fun vx1 h5 hF => awp_sub (z38 qs h5) ?_
  refine cE hF (fun h6 hF => ?_) fun h6 hF => ?_
  · exact tT h6 (sR 1 (awp_ret (oF hF [] [])))
  · refine tF h6 (awp_skip (awp_seq (sR 3 (awp_block (awp_to (st' := z40 qs 0) (oT [] []) ?_)))))
    refine bE hF fun x h21 hF => ?_
    rcases x with _ | _
    · refine awp_sub (awp_loop' (z40 qs) z42 (z41 qs) (by intro x; rcases x with x | x <;> exact fun h => nomatch h) h21 (z43 qs)) ?_
      exact sR 1 (awp_ret (oF hF [] []))
    · refine awp_sub (awp_loop' (z40 qs) z42 (z41 qs) (by intro x; rcases x with x | x <;> exact fun h => nomatch h) h21 (z43 qs)) ?_
      exact oF hF [] []

/-! ### unicode/utf8.ValidString -/
def z1269 (qx : List UInt8) (r : Bool) : TV × Mem := (.b r, ⟨[], []⟩)

theorem z1270 {qx : List UInt8} {r} (hF : utf8_ValidString qx = some r) : Holds prog 190 [.c (.s qx)] ⟨[], []⟩ (Is (z1269 qx r)) := by
  unfold utf8_ValidString at hF
  refine gE hF fun h1 hF => ?_
  obtain rfl := Option.some.inj hF
  have h2 : qx.length ≤ 9223372036854775807 := by simpa using h1
  refine holds_lib (args := [.str qx]) (tv := .b (Lib.validD qx)) ⟨_, cB Go.Proofs.Tryz.f190, Go.Proofs.Tryz.func190, by kernel_rfl, by kernel_rfl⟩ rfl rfl fun w ht => ?_
  refine (Go.Proofs.Any.utf8_ValidString Go.Proofs.Tryz.lays196 ⟨qx.toArray⟩ w (by simpa [ByteArray.size] using h2) (utf8_tabs (ht 1 _ rfl) (ht 2 _ rfl) (by kernel_rfl) (by kernel_rfl))).mono ?_
  rintro e w' ⟨rfl, hb⟩
  exact ⟨rfl, hb⟩

/-! ### beaconfleet/base.Unmarked -/
def z71 (qs : List UInt8) (vx : Int) : Bool → St
  | vx2 => Mem.st ⟨[], []⟩ (tl [(0, .c (.s qs)), (5, .i (qs.length : Int)), (6, .i vx), (18, .b vx2)]) 0

def z69 (qs : List UInt8) (vx : Int) : St := Mem.st ⟨[], []⟩ (tl [(0, .c (.s qs)), (3, .i vx), (5, .i (qs.length : Int)), (6, .i vx)]) 0

theorem z73 (qs : List UInt8) (vx : Int) {r} (hF : z68 qs vx = some r) : Awp prog 0 22 (cL (cR (cL (cL (cR (cR (cL (cL (cR (cL (cR (cB f107)))))))))))) (Out 0 nrm (z71 qs vx) r) (z69 qs vx) := by
  unfold z68 at hF
  refine bE hF fun vc1 h2 hF => cE hF (fun h3 hF => ?_) fun h3 hF => ?_
  · refine awp_region (aR 2 (aX (x_idxS h2) (aB h3 (aR 6 (aE ?_)))))
    exact oO hF [] [] rfl
  · refine awp_region (aR 2 (aX (x_idxS h2) (aB h3 (aR 3 (aX (x_idxS h2) (aR 2 (aE ?_)))))))
    exact oO hF [] [] rfl

def z66 : Unit ⊕ Unit → AEx
  | .inl _ => .exit 0
  | .inr _ => .ret

def z65 (qs : List UInt8) : Unit ⊕ Unit → St
  | .inl _ => Mem.st ⟨[], []⟩ (tl [(0, .c (.s qs))]) 0
  | .inr _ => Mem.st ⟨[], []⟩ (tl [(2, .b false)]) 0

def z64 (qs : List UInt8) : Int → St
  | vx => Mem.st ⟨[], []⟩ (tl [(0, .c (.s qs)), (5, .i (qs.length : Int)), (6, .i vx)]) 0

theorem z67 (qs : List UInt8) (vx : Int) (r : (Int) ⊕ (Unit ⊕ Unit)) (hF : z63 qs vx = some r) : Awp prog 0 22 (cL (cL (cR (cL (cR (cB f107)))))) (Out 0 (kk z66) (SS (z64 qs) (z65 qs)) r) (z64 qs vx) := by
  unfold z63 at hF
  refine sR 1 (awp_seq (cE hF (fun h1 hF => ?_) fun h1 hF => ?_))
  · refine tT h1 (awp_skip (awp_seq (awp_block (sR 2 (awp_seq (awp_to (st' := z69 qs vx) (oT [] []) ?_))))))
    refine bE hF fun vx2_1 h4 hF => awp_sub (z73 qs vx h4) ?_
    refine cE hF (fun h5 hF => ?_) fun h5 hF => ?_
    · exact tT h5 (sR 1 (awp_ret (oO hF [] [] rfl)))
    · exact tF h5 (awp_skip (gR 2 (oO hF [] [] rfl)))
  · refine tF h1 (awp_exit ?_)
    exact oO hF [] [] rfl

def z61 (qs : List UInt8) (r : Bool) : TV × Mem := (.b r, ⟨[], []⟩)

theorem z62 {qs : List UInt8} {r} (hF : z60 qs = some r) : Holds prog 107 [.c (.s qs)] ⟨[], []⟩ (Is (z61 qs r)) := by
  unfold z60 at hF
  refine hW f107 22 0 0 ?_
  refine sR 1 (awp_seq (sR 3 (awp_block (awp_to (st' := z64 qs 0) (oT [] []) ?_))))
  refine bE hF fun x h6 hF => ?_
  rcases x with _ | _
  · refine awp_sub (awp_loop' (z64 qs) z66 (z65 qs) (by intro x; rcases x with x | x <;> exact fun h => nomatch h) h6 (z67 qs)) ?_
    refine awp_seq (bE hF fun vr h7 hF => awp_region (aR 1 (aC (z1270 h7) [] [] [] (aR 1 (aE ?_)))))
    exact awp_ret (oF hF [] [])
  · refine awp_sub (awp_loop' (z64 qs) z66 (z65 qs) (by intro x; rcases x with x | x <;> exact fun h => nomatch h) h6 (z67 qs)) ?_
    exact oF hF [] []

/-! ### beaconfleet/base.Moment -/
def z50 (qn : Int) (r : Bool) : TV × Mem := (.b r, ⟨[], []⟩)

theorem z52 {qn : Int} {r} (hF : z49 qn = some r) : Holds prog 69 [.i qn] ⟨[], []⟩ (Is (z50 qn r)) := by
  unfold z49 at hF
  refine hW f69 6 0 0 ?_
  refine sR 1 (awp_seq (bE hF fun vr h1 hF => awp_region (aR 1 (aC (z55 h1) [] [] [] (aR 2 (aE ?_))))))
  exact awp_ret (oF hF [] [])

/-! ### beaconfleet/base.First -/
def z30 : Unit ⊕ Int → AEx
  | .inl _ => .exit 0
  | .inr _ => .ret

def z29 (ql : List Int) : Unit ⊕ Int → St
  | .inl _ => Mem.st ⟨[], []⟩ (tl []) 0
  | .inr vx1 => Mem.st ⟨[], []⟩ (tl [(2, .i vx1)]) 0

def z28 (ql : List Int) : Int → St
  | vx => Mem.st ⟨[], []⟩ (tl [(5, .c (.l (encI .i64) ql)), (6, .i (ql.length : Int)), (7, .i vx)]) 0

theorem z31 (ql : List Int) (vx : Int) (r : (Int) ⊕ (Unit ⊕ Int)) (hF : z27 ql vx = some r) : Awp prog 0 15 (cL (cL (cR (cL (cR (cB f137)))))) (Out 0 (kk z30) (SS (z28 ql) (z29 ql)) r) (z28 ql vx) := by
  unfold z27 at hF
  refine sR 1 (awp_seq (cE hF (fun h1 hF => ?_) fun h1 hF => ?_))
  · refine tT h1 (awp_skip (awp_seq (awp_block (awp_seq (bE hF fun vy1 h2 hF => awp_region (aX (x_idx (encI .i64) h2) (aR 2 (aE ?_))))))))
    refine sR 2 (cE hF (fun h3 hF => ?_) fun h3 hF => ?_)
    · exact tT h3 (sR 2 (awp_ret (oO hF [] [] rfl)))
    · exact tF h3 (awp_skip (gR 2 (oO hF [] [] rfl)))
  · refine tF h1 (awp_exit ?_)
    exact oO hF [] [] rfl

def z25 (ql : List Int) (r : Int) : TV × Mem := (.i r, ⟨[], []⟩)

theorem z26 {ql : List Int} {r} (hF : z24 ql = some r) : Holds prog 137 [.c (.l (encI .i64) ql)] ⟨[], []⟩ (Is (z25 ql r)) := by
  unfold z24 at hF
  refine hW f137 15 0 0 ?_
  refine sR 1 (awp_seq (awp_seq (awp_region (aR 1 (aL (encI .i64) ql (aR 1 (aE ?_)))))))
  refine awp_block (awp_to (st' := z28 ql 0) (oT [] []) ?_)
  refine bE hF fun x h4 hF => ?_
  rcases x with _ | vx1_1
  · refine awp_sub (awp_loop' (z28 ql) z30 (z29 ql) (by intro x; rcases x with x | x <;> exact fun h => nomatch h) h4 (z31 ql)) ?_
    exact sR 1 (awp_ret (oF hF [] []))
  · refine awp_sub (awp_loop' (z28 ql) z30 (z29 ql) (by intro x; rcases x with x | x <;> exact fun h => nomatch h) h4 (z31 ql)) ?_
    exact oF hF [] []

/-! ### math/bits.Len64 -/
def z81 (qx : Int) : (Int × Int) → St
  | (vx, vn) => Mem.st ⟨[], []⟩ (tl [(0, .c (.d (.int .u64 vx))), (2, .i vn)]) 0

def z80 (qx : Int) : St := Mem.st ⟨[], []⟩ (tl [(0, .c (.d (.int .u64 qx))), (2, .i 0)]) 0

theorem z82 (qx : Int) {r} (hF : z79 qx = some r) : Awp prog 0 25 (cL (cR (cB f203))) (Out 0 nrm (z81 qx) r) (z80 qx) := by
  unfold z79 at hF
  refine sR 2 (cE hF (fun h1 hF => ?_) fun h1 hF => ?_)
  · exact tT h1 (sR 3 (gR 1 (oO hF [] [] rfl)))
  · exact tF h1 (awp_skip (oO hF [] [] rfl))

def z85 (vx1 : Int) (vn1 : Int) : (Int × Int) → St
  | (vx2, vn2) => Mem.st ⟨[], []⟩ (tl [(0, .c (.d (.int .u64 vx2))), (2, .i vn2)]) 0

def z84 (vx1 : Int) (vn1 : Int) : St := Mem.st ⟨[], []⟩ (tl [(0, .c (.d (.int .u64 vx1))), (2, .i vn1)]) 0

theorem z86 (vx1 : Int) (vn1 : Int) {r} (hF : z83 vx1 vn1 = some r) : Awp prog 0 25 (cL (cR (cR (cB f203)))) (Out 0 nrm (z85 vx1 vn1) r) (z84 vx1 vn1) := by
  unfold z83 at hF
  refine sR 2 (cE hF (fun h3 hF => ?_) fun h3 hF => ?_)
  · exact tT h3 (sR 3 (gR 3 (oO hF [] [] rfl)))
  · exact tF h3 (awp_skip (oO hF [] [] rfl))

def z89 (vx2_1 : Int) (vn2_1 : Int) : (Int × Int) → St
  | (vx3, vn3) => Mem.st ⟨[], []⟩ (tl [(0, .c (.d (.int .u64 vx3))), (2, .i vn3)]) 0

def z88 (vx2_1 : Int) (vn2_1 : Int) : St := Mem.st ⟨[], []⟩ (tl [(0, .c (.d (.int .u64 vx2_1))), (2, .i vn2_1)]) 0

theorem z90 (vx2_1 : Int) (vn2_1 : Int) {r} (hF : z87 vx2_1 vn2_1 = some r) : Awp prog 0 25 (cL (cR (cR (cR (cB f203))))) (Out 0 nrm (z89 vx2_1 vn2_1) r) (z88 vx2_1 vn2_1) := by
  unfold z87 at hF
  refine sR 2 (cE hF (fun h5 hF => ?_) fun h5 hF => ?_)
  · exact tT h5 (sR 3 (gR 3 (oO hF [] [] rfl)))
  · exact tF h5 (awp_skip (oO hF [] [] rfl))

def z77 (qx : Int) (r : Int) : TV × Mem := (.i r, ⟨[], []⟩)

theorem z78 {qx : Int} {r} (hF : z74 qx = some r) : Holds prog 203 [.c (.d (.int .u64 qx))] ⟨[], []⟩ (Is (z77 qx r)) := by
  unfold z74 at hF
  refine hW f203 25 0 0 ?_
  refine sR 1 (awp_seq (awp_to (st' := z80 qx) (oT [] []) ?_))
  refine bE hF fun x h2 hF => ?_
  obtain ⟨vx1, vn1⟩ := x
  refine awp_sub (z82 qx h2) ?_
  refine awp_seq (awp_to (st' := z84 vx1 vn1) (oT [] []) ?_)
  refine bE hF fun x h4 hF => ?_
  obtain ⟨vx2_1, vn2_1⟩ := x
  refine awp_sub (z86 vx1 vn1 h4) ?_
  refine awp_seq (awp_to (st' := z88 vx2_1 vn2_1) (oT [] []) ?_)
  refine bE hF fun x h6 hF => ?_
  obtain ⟨vx3_1, vn3_1⟩ := x
  refine awp_sub (z90 vx2_1 vn2_1 h6) ?_
  refine awp_seq (bE hF fun vc h7 hF => awp_region (aR 3 (aX (x_idxS h7) (aR 3 (aE ?_)))))
  exact awp_ret (oF hF [] [])

/-! ### math/bits.Len -/
def z91 (qx : Int) (r : Int) : TV × Mem := (.i r, ⟨[], []⟩)

theorem z92 {qx : Int} {r} (hF : bits_Len qx = some r) : Holds prog 111 [.c (.d (.int .u64 qx))] ⟨[], []⟩ (Is (z91 qx r)) := by
  unfold bits_Len at hF
  refine hW f111 8 0 0 ?_
  refine sR 1 (awp_seq (tF rfl (awp_skip (awp_seq (bE hF fun vr h1 hF => awp_region (aR 1 (aC (z78 h1) [] [] [] (aR 1 (aE ?_)))))))))
  exact awp_ret (oF hF [] [])

/-! ### cmp.isNaN[int] -/
def z116 (qx : Int) (r : Unit) : TV × Mem := (.b (!decide (qx = qx)), ⟨[], []⟩)

theorem z117 {qx : Int} {r} (hF : z115 qx = some r) : Holds prog 246 [.i qx] ⟨[], []⟩ (Is (z116 qx r)) := by
  unfold z115 at hF
  refine hW f246 6 0 0 ?_
  exact sR 1 (sR 4 (awp_ret (oF hF [] [])))

/-! ### cmp.Compare[int] -/
def z97 (qx : Int) (qy : Int) (r : Int) : TV × Mem := (.i r, ⟨[], []⟩)

theorem z98 {qx : Int} {qy : Int} {r} (hF : z96 qx qy = some r) : Holds prog 185 [.i qx, .i qy] ⟨[], []⟩ (Is (z97 qx qy r)) := by
  unfold z96 at hF
  refine hW f185 20 0 0 ?_
  refine sR 1 (awp_seq (bE hF fun _ h1 hF => awp_region (aR 1 (aC (z117 h1) [] [] [] (aR 1 (aE ?_))))))
  refine awp_seq (bE hF fun _ h2 hF => awp_region (aR 1 (aC (z117 h2) [] [] [] (aR 1 (aE ?_)))))
  refine awp_seq (sR 1 (cE hF (fun h3 hF => ?_) fun h3 hF => ?_))
  · refine tT h3 (awp_seq (sR 1 (cE hF (fun h4 hF => ?_) fun h4 hF => ?_)))
    · exact tT h4 (sR 1 (awp_ret (oF hF [] [])))
    · exact tF h4 (awp_skip (sR 1 (awp_ret (oF hF [] []))))
  · refine tF h3 (awp_skip (awp_seq (sR 1 (cE hF (fun h5 hF => ?_) fun h5 hF => ?_))))
    · exact tT h5 (sR 1 (awp_ret (oF hF [] [])))
    · refine tF h5 (awp_skip (awp_seq (sR 3 (cE hF (fun h6 hF => ?_) fun h6 hF => ?_))))
      · exact tT h6 (sR 1 (awp_ret (oF hF [] [])))
      · refine tF h6 (awp_skip (awp_seq (sR 3 (cE hF (fun h7 hF => ?_) fun h7 hF => ?_))))
        · exact tT h7 (sR 1 (awp_ret (oF hF [] [])))
        · exact tF h7 (awp_skip (sR 1 (awp_ret (oF hF [] []))))

/-! ### internal/bytealg.CompareString -/
def z94 (qa : List UInt8) (qb : List UInt8) (r : Unit) : TV × Mem := (.i (Lib.compareBytes qa qb), ⟨[], []⟩)

theorem z95 {qa : List UInt8} {qb : List UInt8} {r} (hF : z93 qa qb = some r) : Holds prog 187 [.c (.s qa), .c (.s qb)] ⟨[], []⟩ (Is (z94 qa qb r)) := by
  unfold z93 at hF
  refine hW f187 8 0 0 ?_
  refine sR 1 (awp_seq (awp_region (aR 2 (aS (does_cmpstring (g := 255) (fn := f255) (a := qa) (b := qb) rfl (by kernel_rfl) (by kernel_rfl) (by kernel_rfl) (by kernel_rfl) (by kernel_rfl) (by kernel_rfl)) ?_))))
  refine aR 1 (aE ?_)
  exact awp_ret (oF hF [] [])

/-! ### strings.Compare -/
def z906 (qa : List UInt8) (qb : List UInt8) (r : Unit) : TV × Mem := (.i (Lib.compareBytes qa qb), ⟨[], []⟩)

theorem z907 {qa : List UInt8} {qb : List UInt8} {r} (hF : z905 qa qb = some r) : Holds prog 96 [.c (.s qa), .c (.s qb)] ⟨[], []⟩ (Is (z906 qa qb r)) := by
  unfold z905 at hF
  refine hW f96 8 0 0 ?_
  refine sR 1 (awp_seq (bE hF fun _ h1 hF => awp_region (aR 2 (aC (z95 h1) [] [] [] (aR 1 (aE ?_))))))
  exact awp_ret (oF hF [] [])

/-! ### cmp.Or[int] -/
def z113 : Unit ⊕ Int → AEx
  | .inl _ => .exit 0
  | .inr _ => .ret

def z112 (qvals : List Int) : Unit ⊕ Int → St
  | .inl _ => Mem.st ⟨[], []⟩ (tl [(3, .i 0)]) 0
  | .inr vx1 => Mem.st ⟨[], []⟩ (tl [(2, .i vx1)]) 0

def z111 (qvals : List Int) : Int → St
  | vx => Mem.st ⟨[], []⟩ (tl [(3, .i 0), (6, .c (.l (encI .i64) qvals)), (7, .i (qvals.length : Int)), (8, .i vx)]) 0

theorem z114 (qvals : List Int) (vx : Int) (r : (Int) ⊕ (Unit ⊕ Int)) (hF : z110 qvals vx = some r) : Awp prog 0 18 (cL (cL (cR (cL (cR (cR (cB f184))))))) (Out 0 (kk z113) (SS (z111 qvals) (z112 qvals)) r) (z111 qvals vx) := by
  unfold z110 at hF
  refine sR 1 (awp_seq (cE hF (fun h1 hF => ?_) fun h1 hF => ?_))
  · refine tT h1 (awp_skip (awp_seq (awp_block (awp_seq (bE hF fun vy1 h2 hF => awp_region (aX (x_idx (encI .i64) h2) (aR 2 (aE ?_))))))))
    refine sR 3 (cE hF (fun h3 hF => ?_) fun h3 hF => ?_)
    · exact tT h3 (sR 2 (awp_ret (oO hF [] [] rfl)))
    · exact tF h3 (awp_skip (gR 2 (oO hF [] [] rfl)))
  · refine tF h1 (awp_exit ?_)
    exact oO hF [] [] rfl

def z107 (qvals : List Int) (r : Int) : TV × Mem := (.i r, ⟨[], []⟩)

theorem z108 {qvals : List Int} {r} (hF : z106 qvals = some r) : Holds prog 184 [.c (.l (encI .i64) qvals)] ⟨[], []⟩ (Is (z107 qvals r)) := by
  unfold z106 at hF
  refine hW f184 18 0 0 ?_
  refine sR 1 (sR 1 (awp_seq (awp_seq (awp_region (aR 1 (aL (encI .i64) qvals (aR 1 (aE ?_))))))))
  refine awp_block (awp_to (st' := z111 qvals 0) (oT [] []) ?_)
  refine bE hF fun x h4 hF => ?_
  rcases x with _ | vx1_1
  · refine awp_sub (awp_loop' (z111 qvals) z113 (z112 qvals) (by intro x; rcases x with x | x <;> exact fun h => nomatch h) h4 (z114 qvals)) ?_
    exact sR 2 (awp_ret (oF hF [] []))
  · refine awp_sub (awp_loop' (z111 qvals) z113 (z112 qvals) (by intro x; rcases x with x | x <;> exact fun h => nomatch h) h4 (z114 qvals)) ?_
    exact oF hF [] []

/-! ### (*beaconfleet/fleetmake.Stream).Range -/
def z212 (qs : z177) (qlow : Int) (qhigh : Int) (r : z177 × Int) : TV × Mem := (.i r.2, ⟨[], [(0, [.l (encI .i64) r.1.L, .i r.1.at_])]⟩)

theorem z213 {qs : z177} {qlow : Int} {qhigh : Int} {r} (hF : z211 qs qlow qhigh = some r) : Holds prog 13 [.c (.box 0 0), .i qlow, .i qhigh] ⟨[], [(0, [.l (encI .i64) qs.L, .i qs.at_])]⟩ (Is (z212 qs qlow qhigh r)) := by
  unfold z211 at hF
  refine hW f13 19 1 1 ?_
  refine sR 1 (awp_seq (sR 3 (cE hF (fun h1 hF => ?_) fun h1 hF => ?_)))
  · exact tT h1 (sR 2 (awp_ret (oF hF [] [])))
  · refine tF h1 (awp_skip (awp_seq (bE hF fun vr3 h2 hF => awp_region (aR 6 (aC (z201 h2) [] [] [] (aR 2 (aE ?_)))))))
    exact awp_ret (oF hF [] [])

/-! ### (*beaconfleet/fleetmake.Stream).Flip -/
def z197 (qs : z177) (qn : Int) (r : Bool) : TV × Mem := (.b r, ⟨[], [(0, [.l (encI .i64) qs.L, .i (IntKind.wrap .i64 (qs.at_ + 1))])]⟩)

theorem z198 {qs : z177} {qn : Int} {r} (hF : z196 qs qn = some r) : Holds prog 14 [.c (.box 0 0), .i qn] ⟨[], [(0, [.l (encI .i64) qs.L, .i qs.at_])]⟩ (Is (z197 qs qn r)) := by
  unfold z196 at hF
  refine hW f14 9 1 1 ?_
  refine sR 1 (awp_seq (bE hF fun vr3 h1 hF => awp_region (aR 2 (aC (z201 h1) [] [] [] (aR 2 (aE ?_))))))
  exact awp_ret (oF hF [] [])

/-! ### (*beaconfleet/fleetmake.Stream).Some -/
def z248 (qs : z177) (ql : List (List UInt8)) (r : (List UInt8)) : TV × Mem := (.c (.s r), ⟨[], [(0, [.l (encI .i64) qs.L, .i (IntKind.wrap .i64 (qs.at_ + 1))])]⟩)

theorem z249 {qs : z177} {ql : List (List UInt8)} {r} (hF : z247 qs ql = some r) : Holds prog 24 [.c (.box 0 0), .c (.own 1 none)] ⟨[(1, ⟨9, 1, List.map encS ql⟩)], [(0, [.l (encI .i64) qs.L, .i qs.at_])]⟩ (Is (z248 qs ql r)) := by
  unfold z247 at hF
  refine hW f24 12 2 2 ?_
  refine sR 1 (awp_to (oT (m := ⟨[], [(0, [.l (encI .i64) qs.L, .i qs.at_])]⟩) (ts := [(0, .c (.box 0 0)), (1, .c (.l encS ql))]) (nx := 2) [] []) ?_)
  refine awp_seq (bE hF fun vr3 h1 hF => bE hF fun vy h2 hF => awp_region (aR 3 (aL encS ql (aC (z201 h1) [] [] [] (aX (x_idx encS h2) (aR 2 (aE ?_)))))))
  exact awp_ret (oF hF [] [])

/-! ### strings.Repeat -/
def z934 (qx : List UInt8) (qx1 : Int) (r : List UInt8) : TV × Mem := (.c (.s r), ⟨[], []⟩)

theorem z935 {qx : List UInt8} {qx1 : Int} {r} (hF : strings_Repeat qx qx1 = some r) : Holds prog 67 [.c (.s qx), .i qx1] ⟨[], []⟩ (Is (z934 qx qx1 r)) := by
  unfold strings_Repeat at hF
  refine gE hF fun h1 hF => ?_
  obtain rfl := Option.some.inj hF
  have h2 : (0 ≤ qx1 ∧ qx1 ≤ 9223372036854775807) ∧ qx.length * qx1.toNat ≤ 140737488355328 := by simpa using h1
  have h3 : ((qx1.toNat : Nat) : Int) = qx1 := Int.toNat_of_nonneg h2.1.1
  refine holds_lib (args := [.str qx, .int .i64 qx1]) (tv := .c (.s (Lib.repeatL qx qx1.toNat))) ⟨_, cB Go.Proofs.Tryz.f67, Go.Proofs.Tryz.func67, by kernel_rfl, by kernel_rfl⟩ rfl rfl fun w ht => ?_
  have h4 := Go.Proofs.Any.strings_Repeat Go.Proofs.Tryz.lays105 Go.Proofs.Tryz.Builder_Extra_105 ⟨qx.toArray⟩ qx1.toNat w (by omega) (by simpa [ByteArray.size] using h2.2)
  rw [h3] at h4
  exact h4

/-! ### (*beaconfleet/fleetmake.Stream).Odd -/
def z203 (qs : z177) (qlow : Int) (qhigh : Int) (r : z177 × Int) : TV × Mem := (.i r.2, ⟨[], [(0, [.l (encI .i64) r.1.L, .i r.1.at_])]⟩)

theorem z204 {qs : z177} {qlow : Int} {qhigh : Int} {r} (hF : z202 qs qlow qhigh = some r) : Holds prog 68 [.c (.box 0 0), .i qlow, .i qhigh] ⟨[], [(0, [.l (encI .i64) qs.L, .i qs.at_])]⟩ (Is (z203 qs qlow qhigh r)) := by
  unfold z202 at hF
  refine hW f68 22 1 1 ?_
  refine sR 1 (awp_seq (awp_seq (bE hF fun vr h1 hF => awp_region (aR 1 (aC (z198 h1) [] [] [] (aE ?_))))))
  refine cE hF (fun h2 hF => ?_) fun h2 hF => ?_
  · refine tT h2 (awp_seq (bE hF fun vr1 h3 hF => awp_region (aR 8 (aC (z207 h3) [(1, 10001)] [] [] (aR 1 (aE ?_))))))
    exact awp_ret (oF hF [] [])
  · refine tF h2 (awp_skip (awp_seq (bE hF fun x h4 hF => ?_)))
    obtain ⟨vs, vr2⟩ := x
    refine awp_region (aR 3 (aC (z213 h4) [] [] [] (aR 1 (aE ?_))))
    exact awp_ret (oF hF [] [])

/-! ### beaconfleet/fleetref2.in -/
def z532 (qn : Int) (qlow : Int) (qhigh : Int) : Bool → St
  | vx => Mem.st ⟨[], []⟩ (tl [(6, .b vx)]) 0

def z531 (qn : Int) (qlow : Int) (qhigh : Int) : St := Mem.st ⟨[], []⟩ (tl [(0, .i qn), (1, .i qlow), (2, .i qhigh)]) 0

theorem z533 (qn : Int) (qlow : Int) (qhigh : Int) {r} (hF : z530 qn qlow qhigh = some r) : Awp prog 0 15 (cL (cR (cB f79))) (Out 0 nrm (z532 qn qlow qhigh) r) (z531 qn qlow qhigh) := by
  unfold z530 at hF
  refine cE hF (fun h1 hF => ?_) fun h1 hF => ?_
  · refine awp_region (aR 2 (aB h1 (aR 6 (aE ?_))))
    exact oO hF [] [] rfl
  · refine awp_region (aR 2 (aB h1 (aR 6 (aE ?_))))
    exact oO hF [] [] rfl

def z528 (qn : Int) (qlow : Int) (qhigh : Int) (r : Bool) : TV × Mem := (.b r, ⟨[], []⟩)

theorem z529 {qn : Int} {qlow : Int} {qhigh : Int} {r} (hF : z527 qn qlow qhigh = some r) : Holds prog 79 [.i qn, .i qlow, .i qhigh] ⟨[], []⟩ (Is (z528 qn qlow qhigh r)) := by
  unfold z527 at hF
  refine hW f79 15 0 0 ?_
  refine sR 1 (awp_seq (awp_to (st' := z531 qn qlow qhigh) (oT [] []) ?_))
  refine bE hF fun vx1 h2 hF => awp_sub (z533 qn qlow qhigh h2) ?_
  exact awp_ret (oF hF [] [])

/-! ### internal/stringslite.IndexByte -/
def z991 (qs : List UInt8) (qc : Int) (r : Unit) : TV × Mem := (.i (Lib.indexByte qs qc.toNat.toUInt8), ⟨[], []⟩)

theorem z992 {qs : List UInt8} {qc : Int} {r} (hF : z990 qs qc = some r) : Holds prog 292 [.c (.s qs), .c (.d (.int .u8 qc))] ⟨[], []⟩ (Is (z991 qs qc r)) := by
  unfold z990 at hF
  refine hW f292 8 0 0 ?_
  refine sR 1 (awp_seq (awp_region (aR 2 (aS (does_indexByte (g := 331) (fn := f331) (a := qs) (c := qc) rfl (by kernel_rfl) (by kernel_rfl) (by kernel_rfl) (by kernel_rfl) (by kernel_rfl) (by kernel_rfl)) ?_))))
  refine aR 1 (aE ?_)
  exact awp_ret (oF hF [] [])

/-! ### strings.IndexByte -/
def z927 (qs : List UInt8) (qc : Int) (r : Unit) : TV × Mem := (.i (Lib.indexByte qs qc.toNat.toUInt8), ⟨[], []⟩)

theorem z928 {qs : List UInt8} {qc : Int} {r} (hF : z926 qs qc = some r) : Holds prog 258 [.c (.s qs), .c (.d (.int .u8 qc))] ⟨[], []⟩ (Is (z927 qs qc r)) := by
  unfold z926 at hF
  refine hW f258 8 0 0 ?_
  refine sR 1 (awp_seq (bE hF fun _ h1 hF => awp_region (aR 2 (aC (z992 h1) [] [] [] (aR 1 (aE ?_))))))
  exact awp_ret (oF hF [] [])

/-! ### beaconfleet/fleetref2.only -/
def z553 : Unit ⊕ Unit → AEx
  | .inl _ => .exit 0
  | .inr _ => .ret

def z552 (qs : List UInt8) (qsome : List UInt8) : Unit ⊕ Unit → St
  | .inl _ => Mem.st ⟨[], []⟩ (tl []) 0
  | .inr _ => Mem.st ⟨[], []⟩ (tl [(4, .b false)]) 0

def z551 (qs : List UInt8) (qsome : List UInt8) : Int → St
  | vx => Mem.st ⟨[], []⟩ (tl [(0, .c (.s qs)), (1, .c (.s qsome)), (7, .i (qs.length : Int)), (8, .i vx)]) 0

theorem z554 (qs : List UInt8) (qsome : List UInt8) (vx : Int) (r : (Int) ⊕ (Unit ⊕ Unit)) (hF : z550 qs qsome vx = some r) : Awp prog 0 18 (cL (cL (cR (cL (cR (cB f191)))))) (Out 0 (kk z553) (SS (z551 qs qsome) (z552 qs qsome)) r) (z551 qs qsome vx) := by
  unfold z550 at hF
  refine sR 1 (awp_seq (cE hF (fun h1 hF => ?_) fun h1 hF => ?_))
  · refine tT h1 (awp_skip (awp_seq (awp_block (sR 2 (awp_seq (bE hF fun vc1 h2 hF => bE hF fun _ h3 hF => awp_region (aR 3 (aX (x_idxS h2) (aC (z928 h3) [] [] [] (aR 1 (aE ?_)))))))))))
    refine cE hF (fun h4 hF => ?_) fun h4 hF => ?_
    · exact tT h4 (sR 1 (awp_ret (oO hF [] [] rfl)))
    · exact tF h4 (awp_skip (gR 2 (oO hF [] [] rfl)))
  · refine tF h1 (awp_exit ?_)
    exact oO hF [] [] rfl

def z548 (qs : List UInt8) (qsome : List UInt8) (r : Bool) : TV × Mem := (.b r, ⟨[], []⟩)

theorem z549 {qs : List UInt8} {qsome : List UInt8} {r} (hF : z547 qs qsome = some r) : Holds prog 191 [.c (.s qs), .c (.s qsome)] ⟨[], []⟩ (Is (z548 qs qsome r)) := by
  unfold z547 at hF
  refine hW f191 18 0 0 ?_
  refine sR 1 (awp_seq (sR 3 (awp_block (awp_to (st' := z551 qs qsome 0) (oT [] []) ?_))))
  refine bE hF fun x h5 hF => ?_
  rcases x with _ | _
  · refine awp_sub (awp_loop' (z551 qs qsome) z553 (z552 qs qsome) (by intro x; rcases x with x | x <;> exact fun h => nomatch h) h5 (z554 qs qsome)) ?_
    exact sR 1 (awp_ret (oF hF [] []))
  · refine awp_sub (awp_loop' (z551 qs qsome) z553 (z552 qs qsome) (by intro x; rcases x with x | x <;> exact fun h => nomatch h) h5 (z554 qs qsome)) ?_
    exact oF hF [] []

/-! ### beaconfleet/fleetref2.Key -/
def z325 (qs : List UInt8) : Bool → St
  | vx => Mem.st ⟨[], []⟩ (tl [(2, .b vx)]) 0

def z324 (qs : List UInt8) : St := Mem.st ⟨[], []⟩ (tl [(0, .c (.s qs))]) 0

theorem z326 (qs : List UInt8) {r} (hF : z323 qs = some r) : Awp prog 0 15 (cL (cR (cB f108))) (Out 0 nrm (z325 qs) r) (z324 qs) := by
  unfold z323 at hF
  refine bE hF fun vr h1 hF => cE hF (fun h2 hF => ?_) fun h2 hF => ?_
  · refine bE hF fun vs h3 hF => bE hF fun vr1 h4 hF => cE hF (fun h5 hF => ?_) fun h5 hF => ?_
    · refine bE hF fun vr2 h6 hF => awp_region (aR 2 (aCb (z529 h1) [] [] [] h2 ?_))
      refine aR 2 (aX (x_sliceS h3) (aCb (z549 h4) [] [] [] h5 ?_))
      refine aR 3 (aC (z549 h6) [] [] [] (aR 2 (aE ?_)))
      exact oO hF [] [] rfl
    · refine awp_region (aR 2 (aCb (z529 h1) [] [] [] h2 ?_))
      refine aR 2 (aX (x_sliceS h3) (aCb (z549 h4) [] [] [] h5 ?_))
      refine aR 6 (aE ?_)
      exact oO hF [] [] rfl
  · refine awp_region (aR 2 (aCb (z529 h1) [] [] [] h2 ?_))
    refine aR 10 (aE ?_)
    exact oO hF [] [] rfl

def z321 (qs : List UInt8) (r : Bool) : TV × Mem := (.b r, ⟨[], []⟩)

theorem z322 {qs : List UInt8} {r} (hF : z320 qs = some r) : Holds prog 108 [.c (.s qs)] ⟨[], []⟩ (Is (z321 qs r)) := by
  unfold z320 at hF
  refine hW f108 15 0 0 ?_
  refine sR 1 (awp_seq (awp_to (st' := z324 qs) (oT [] []) ?_))
  refine bE hF fun vx1 h7 hF => awp_sub (z326 qs h7) ?_
  exact awp_ret (oF hF [] [])

/-! ### beaconfleet/fleetref2.Printed$1 -/
def z403 (qr : Int) : Bool → St
  | vx => Mem.st ⟨[], []⟩ (tl [(2, .b vx)]) 0

def z402 (qr : Int) : St := Mem.st ⟨[], []⟩ (tl [(0, .c (.d (.int .i32 qr)))]) 0

theorem z404 (qr : Int) {r} (hF : z401 qr = some r) : Awp prog 0 9 (cL (cR (cB f193))) (Out 0 nrm (z403 qr) r) (z402 qr) := by
  unfold z401 at hF
  refine cE hF (fun h1 hF => ?_) fun h1 hF => ?_
  · refine awp_region (aR 1 (aB h1 (aR 5 (aE ?_))))
    exact oO hF [] [] rfl
  · refine awp_region (aR 1 (aB h1 (aR 5 (aE ?_))))
    exact oO hF [] [] rfl

def z399 (qr : Int) (r : Bool) : TV × Mem := (.b r, ⟨[], []⟩)

theorem z400 {qr : Int} {r} (hF : z398 qr = some r) : Holds prog 193 [.c (.d (.int .i32 qr))] ⟨[], []⟩ (Is (z399 qr r)) := by
  unfold z398 at hF
  refine hW f193 9 0 0 ?_
  refine sR 1 (awp_seq (awp_to (st' := z402 qr) (oT [] []) ?_))
  refine bE hF fun vx1 h2 hF => awp_sub (z404 qr h2) ?_
  exact awp_ret (oF hF [] [])

/-! ### strings.indexFunc -/
def z977 : Unit ⊕ Int → AEx
  | .inl _ => .exit 0
  | .inr _ => .ret

def z976 (qs : List UInt8) (qtruth : Bool) : Unit ⊕ Int → St
  | .inl _ => Mem.st ⟨[], []⟩ (tl []) 0
  | .inr vx => Mem.st ⟨[], []⟩ (tl [(6, .i vx)]) 0

def z975 (qs : List UInt8) (qtruth : Bool) : Nat → St
  | vpos => Mem.st ⟨[], [(0, [.iters qs vpos])]⟩ (tl [(1, .c (.fn 193 [])), (2, .b qtruth), (10, .c (.box 0 0))]) 1

theorem z978 (qs : List UInt8) (qtruth : Bool) (vpos : Nat) (r : (Nat) ⊕ (Unit ⊕ Int)) (hF : z974 qs qtruth vpos = some r) : Awp prog 0 21 (cL (cL (cR (cL (cR (cB f293)))))) (Out 0 (kk z977) (SS (z975 qs qtruth) (z976 qs qtruth)) r) (z975 qs qtruth vpos) := by
  unfold z974 at hF
  refine awp_seq (cE hF (fun h1 hF => ?_) fun h1 hF => ?_)
  · refine bE hF fun vd1 h2 hF => awp_region (aX (x_next 0 qs vpos h1 h2) (aR 1 (aE ?_)))
    refine awp_seq (tT rfl (awp_skip (awp_block (sR 4 (awp_seq (bE hF fun vr1 h3 hF => awp_region (aR 2 (aC (z400 h3) [] [] [] (aR 2 (aE ?_))))))))))
    refine cE hF (fun h4 hF => ?_) fun h4 hF => ?_
    · exact tT h4 (sR 2 (awp_ret (oO hF [] [] rfl)))
    · exact tF h4 (awp_skip (oO hF [] [] rfl))
  · refine awp_region (aX (x_nextE 0 qs vpos h1) (aR 1 (aE ?_)))
    refine awp_seq (tF rfl (awp_exit ?_))
    exact oO hF [] [] rfl

def z972 (qs : List UInt8) (qtruth : Bool) (r : Int) : TV × Mem := (.i r, ⟨[], []⟩)

theorem z973 {qs : List UInt8} {qtruth : Bool} {r} (hF : z971 qs qtruth = some r) : Holds prog 293 [.c (.s qs), .c (.fn 193 []), .b qtruth] ⟨[], []⟩ (Is (z972 qs qtruth r)) := by
  unfold z971 at hF
  refine hW f293 21 0 0 ?_
  refine sR 1 (awp_seq (sR 2 (awp_block (awp_to (st' := z975 qs qtruth (0 : Nat)) (oT [(0, 2000)] []) ?_))))
  refine bE hF fun x h5 hF => ?_
  rcases x with _ | vx1
  · refine awp_sub (awp_loop' (z975 qs qtruth) z977 (z976 qs qtruth) (by intro x; rcases x with x | x <;> exact fun h => nomatch h) h5 (z978 qs qtruth)) ?_
    exact sR 1 (awp_ret (oF hF [] []))
  · refine awp_sub (awp_loop' (z975 qs qtruth) z977 (z976 qs qtruth) (by intro x; rcases x with x | x <;> exact fun h => nomatch h) h5 (z978 qs qtruth)) ?_
    exact oF hF [] []

/-! ### strings.IndexFunc -/
def z930 (qs : List UInt8) (r : Int) : TV × Mem := (.i r, ⟨[], []⟩)

theorem z931 {qs : List UInt8} {r} (hF : z929 qs = some r) : Holds prog 259 [.c (.s qs), .c (.fn 193 [])] ⟨[], []⟩ (Is (z930 qs r)) := by
  unfold z929 at hF
  refine hW f259 8 0 0 ?_
  refine sR 1 (awp_seq (bE hF fun vr2 h1 hF => awp_region (aR 2 (aC (z973 h1) [] [] [] (aR 1 (aE ?_))))))
  exact awp_ret (oF hF [] [])

/-! ### strings.ContainsFunc -/
def z909 (qs : List UInt8) (r : Bool) : TV × Mem := (.b r, ⟨[], []⟩)

theorem z910 {qs : List UInt8} {r} (hF : z908 qs = some r) : Holds prog 192 [.c (.s qs), .c (.fn 193 [])] ⟨[], []⟩ (Is (z909 qs r)) := by
  unfold z908 at hF
  refine hW f192 9 0 0 ?_
  refine sR 1 (awp_seq (bE hF fun vr h1 hF => awp_region (aR 2 (aC (z931 h1) [] [] [] (aR 2 (aE ?_))))))
  exact awp_ret (oF hF [] [])

/-! ### beaconfleet/fleetref2.Printed -/
def z409 (qs : List UInt8) : Bool → St
  | vx => Mem.st ⟨[], []⟩ (tl [(2, .b vx)]) 0

def z408 (qs : List UInt8) : St := Mem.st ⟨[], []⟩ (tl [(0, .c (.s qs))]) 0

theorem z410 (qs : List UInt8) {r} (hF : z407 qs = some r) : Awp prog 0 10 (cL (cR (cB f109))) (Out 0 nrm (z409 qs) r) (z408 qs) := by
  unfold z407 at hF
  refine bE hF fun vr h1 hF => cE hF (fun h2 hF => ?_) fun h2 hF => ?_
  · refine bE hF fun vr1 h3 hF => awp_region (aR 1 (aCb (z1270 h1) [] [] [] h2 ?_))
    refine aR 2 (aC (z910 h3) [] [] [] (aR 3 (aE ?_)))
    exact oO hF [] [] rfl
  · refine awp_region (aR 1 (aCb (z1270 h1) [] [] [] h2 ?_))
    refine aR 6 (aE ?_)
    exact oO hF [] [] rfl

def z405 (qs : List UInt8) (r : Bool) : TV × Mem := (.b r, ⟨[], []⟩)

theorem z406 {qs : List UInt8} {r} (hF : z397 qs = some r) : Holds prog 109 [.c (.s qs)] ⟨[], []⟩ (Is (z405 qs r)) := by
  unfold z397 at hF
  refine hW f109 10 0 0 ?_
  refine sR 1 (awp_seq (awp_to (st' := z408 qs) (oT [] []) ?_))
  refine bE hF fun vx1 h4 hF => awp_sub (z410 qs h4) ?_
  exact awp_ret (oF hF [] [])

/-! ### beaconfleet/fleetref2.Moment -/
def z351 (qat : Int) (r : Bool) : TV × Mem := (.b r, ⟨[], []⟩)

theorem z352 {qat : Int} {r} (hF : z350 qat = some r) : Holds prog 74 [.i qat] ⟨[], []⟩ (Is (z351 qat r)) := by
  unfold z350 at hF
  refine hW f74 5 0 0 ?_
  refine sR 1 (awp_seq (bE hF fun vr h1 hF => awp_region (aR 1 (aC (z529 h1) [] [] [] (aR 1 (aE ?_))))))
  exact awp_ret (oF hF [] [])

/-! ### beaconfleet/fleetref2.sign -/
def z556 (qn : Int) (r : Int) : TV × Mem := (.i r, ⟨[], []⟩)

theorem z557 {qn : Int} {r} (hF : z555 qn = some r) : Holds prog 112 [.i qn] ⟨[], []⟩ (Is (z556 qn r)) := by
  unfold z555 at hF
  refine hW f112 9 0 0 ?_
  refine sR 1 (awp_seq (awp_block (sR 3 (cE hF (fun h1 hF => ?_) fun h1 hF => ?_))))
  · exact tT h1 (sR 1 (awp_ret (oF hF [] [])))
  · refine tF h1 (sR 3 (cE hF (fun h2 hF => ?_) fun h2 hF => ?_))
    · exact tT h2 (sR 1 (awp_ret (oF hF [] [])))
    · exact tF h2 (awp_skip (sR 1 (awp_ret (oF hF [] []))))

/-! ### (*beaconfleet/fleetmake.Stream).RightValue -/
def z245 (qs : z177) (r : api_Value) : TV × Mem := (.v (.agg [.i r.Kind, .t r.Flag, .i r.Number, .s r.Words]), ⟨[], [(0, [.l (encI .i64) qs.L, .i (IntKind.wrap .i64 ((IntKind.wrap .i64 (qs.at_ + 1)) + 1))])]⟩)

theorem z246 {qs : z177} {r} (hF : z244 qs = some r) : Holds prog 218 [.c (.box 0 0)] ⟨[], [(0, [.l (encI .i64) qs.L, .i qs.at_])]⟩ (Is (z245 qs r)) := by
  unfold z244 at hF
  refine hW f218 20 1 1 ?_
  refine sR 1 (awp_seq (awp_seq (bE hF fun vr3 h1 hF => awp_region (aR 1 (aC (z201 h1) [] [] [] (aE ?_))))))
  refine awp_block (sR 2 (cE hF (fun h2 hF => ?_) fun h2 hF => ?_))
  · refine tT h2 (awp_seq (bE hF fun vr h3 hF => awp_region (aR 1 (aC (z198 h3) [] [] [] (aR 2 (aE ?_))))))
    exact awp_ret (oF hF [] [])
  · refine tF h2 (sR 2 (cE hF (fun h4 hF => ?_) fun h4 hF => ?_))
    · refine tT h4 (awp_seq (bE hF fun vr1 h5 hF => awp_region (aR 2 (aC (z249 h5) [(1, 8001)] [] [] (aR 2 (aE ?_))))))
      exact awp_ret (oF hF [] [])
    · refine tF h4 (awp_skip (awp_seq (bE hF fun vr2 h6 hF => awp_region (aR 2 (aC (z207 h6) [(1, 8001)] [] [] (aR 2 (aE ?_)))))))
      exact awp_ret (oF hF [] [])

/-! ### (*beaconfleet/fleetmake.Stream).RightStamp -/
def z242 (qs : z177) (r : z177 × api_Stamp) : TV × Mem := (.v (.agg [.i r.2.At, .s r.2.By, .i r.2.No]), ⟨[], [(0, [.l (encI .i64) r.1.L, .i r.1.at_])]⟩)

theorem z243 {qs : z177} {r} (hF : z241 qs = some r) : Holds prog 114 [.c (.box 0 0)] ⟨[], [(0, [.l (encI .i64) qs.L, .i qs.at_])]⟩ (Is (z242 qs r)) := by
  unfold z241 at hF
  refine hW f114 12 1 1 ?_
  refine sR 1 (awp_seq (bE hF fun x h1 hF => ?_))
  obtain ⟨vs, vr⟩ := x
  refine bE hF fun vr1 h2 hF => bE hF fun vr2 h3 hF => awp_region (aR 1 (aC (z213 h1) [] [] [] (aR 2 (aC (z249 h2) [(1, 4001)] [] [] (aR 2 (aC (z207 h3) [(1, 7001)] [] [] (aR 2 (aE ?_))))))))
  exact awp_ret (oF hF [] [])

/-! ### beaconfleet/fleetmake.cellOrder -/
def z268 (qa : api_Cell) (qb : api_Cell) (r : Unit) : TV × Mem := (.i (Lib.compareBytes qa.Prop_.Name qb.Prop_.Name), ⟨[], []⟩)

theorem z269 {qa : api_Cell} {qb : api_Cell} {r} (hF : z267 qa qb = some r) : Holds prog 206 [.v (.agg [.s qa.Prop_.Name, .i qa.Prop_.Value.Kind, .t qa.Prop_.Value.Flag, .i qa.Prop_.Value.Number, .s qa.Prop_.Value.Words, .i qa.Stamp.At, .s qa.Stamp.By, .i qa.Stamp.No]), .v (.agg [.s qb.Prop_.Name, .i qb.Prop_.Value.Kind, .t qb.Prop_.Value.Flag, .i qb.Prop_.Value.Number, .s qb.Prop_.Value.Words, .i qb.Stamp.At, .s qb.Stamp.By, .i qb.Stamp.No])] ⟨[], []⟩ (Is (z268 qa qb r)) := by
  unfold z267 at hF
  refine hW f206 12 0 0 ?_
  refine sR 3 (awp_seq (bE hF fun _ h1 hF => awp_region (aR 6 (aC (z907 h1) [] [] [] (aR 1 (aE ?_))))))
  exact awp_ret (oF hF [] [])

/-! ### slices.insertionSortCmpFunc[beaconfleet/api.Cell] -/
def z775 (qa : Int) (qb : Int) (vi : Int) (vl3 : List api_Cell) (vj1 : Int) : Bool → St
  | vx4 => Mem.st ⟨[(0, ⟨152, 8, List.map api_Cell.enc vl3⟩)], []⟩ (tl [(0, .c (.own 0 none)), (1, .i qa), (2, .i qb), (3, .c (.fn 206 [])), (8, .i vi), (9, .i vj1), (34, .b vx4)]) 1

def z774 (qa : Int) (qb : Int) (vi : Int) (vl3 : List api_Cell) (vj1 : Int) : St := Mem.st ⟨[(0, ⟨152, 8, List.map api_Cell.enc vl3⟩)], []⟩ (tl [(0, .c (.own 0 none)), (1, .i qa), (2, .i qb), (3, .c (.fn 206 [])), (8, .i vi), (9, .i vj1)]) 1

theorem z776 (qa : Int) (qb : Int) (vi : Int) (vl3 : List api_Cell) (vj1 : Int) {r} (hF : z773 qa vl3 vj1 = some r) : Awp prog 1 53 (cL (cL (cL (cL (cR (cL (cL (cR (cL (cL (cR (cB f295)))))))))))) (Out 1 nrm (z775 qa qb vi vl3 vj1) r) (z774 qa qb vi vl3 vj1) := by
  unfold z773 at hF
  refine cE hF (fun h2 hF => ?_) fun h2 hF => ?_
  · refine bE hF fun vy15 h3 hF => bE hF fun vy16 h4 hF => bE hF fun _ h5 hF => aD ?_
    refine dR 2 ?_
    refine dB h2 ?_
    refine dR 4 ?_
    refine dX (x_idxO api_Cell.enc 0 h3) ?_
    refine dX (x_ldE api_Cell.enc h3) ?_
    refine dR 3 ?_
    refine dX (x_idxO api_Cell.enc 0 h4) ?_
    refine dX (x_ldE api_Cell.enc h4) ?_
    refine dC (z269 h5) [] [] [] ?_
    refine dR 2 ?_
    refine dE ?_
    exact oO hF [] [] rfl
  · refine aD ?_
    refine dR 2 ?_
    refine dB h2 ?_
    refine dR 14 ?_
    refine dE ?_
    exact oO hF [] [] rfl

def z771 : (List api_Cell) → AEx
  | _ => .exit 2

def z770 (qa : Int) (qb : Int) (vi : Int) : (List api_Cell) → St
  | vl4 => Mem.st ⟨[(0, ⟨152, 8, List.map api_Cell.enc vl4⟩)], []⟩ (tl [(0, .c (.own 0 none)), (1, .i qa), (2, .i qb), (3, .c (.fn 206 [])), (8, .i vi)]) 1

def z769 (qa : Int) (qb : Int) (vi : Int) : (List api_Cell) × Int → St
  | (vl3, vj1) => Mem.st ⟨[(0, ⟨152, 8, List.map api_Cell.enc vl3⟩)], []⟩ (tl [(0, .c (.own 0 none)), (1, .i qa), (2, .i qb), (3, .c (.fn 206 [])), (8, .i vi), (9, .i vj1)]) 1

theorem z772 (qa : Int) (qb : Int) (vi : Int) (s : (List api_Cell) × Int) (r : ((List api_Cell) × Int) ⊕ ((List api_Cell))) (hF : z768 qa s = some r) : Awp prog 1 53 (cL (cL (cR (cL (cL (cR (cL (cL (cR (cB f295)))))))))) (Out 1 (kk z771) (SS (z769 qa qb vi) (z770 qa qb vi)) r) (z769 qa qb vi s) := by
  obtain ⟨vl3, vj1⟩ := s
  unfold z768 at hF
  refine awp_seq (awp_seq (awp_to (st' := z774 qa qb vi vl3 vj1) (oT [] []) ?_))
  refine bE hF fun vx4_1 h6 hF => awp_sub (z776 qa qb vi vl3 vj1 h6) ?_
  refine cE hF (fun h7 hF => ?_) fun h7 hF => ?_
  · refine tT h7 (awp_skip (awp_seq (awp_block (bE hF fun vy17 h8 hF => bE hF fun vy18 h9 hF => bE hF fun vy19 h10 hF => aDw [0] ?_))))
    refine dR 8 ?_
    refine dI api_Cell.enc 0 h8 rfl ?_
    refine dX (x_ldE api_Cell.enc h8) ?_
    refine dR 2 ?_
    refine dI api_Cell.enc 0 h9 rfl ?_
    refine dX (x_ldE api_Cell.enc h9) ?_
    refine dI api_Cell.enc 0 h9 rfl ?_
    refine dW api_Cell.enc (api_Cell.mk (api_Prop.mk vy17.Prop_.Name (api_Value.mk vy17.Prop_.Value.Kind vy17.Prop_.Value.Flag vy17.Prop_.Value.Number vy17.Prop_.Value.Words)) (api_Stamp.mk vy17.Stamp.At vy17.Stamp.By vy17.Stamp.No)) h9 rfl ?_
    refine dI api_Cell.enc 0 h10 rfl ?_
    refine dW api_Cell.enc (api_Cell.mk (api_Prop.mk vy18.Prop_.Name (api_Value.mk vy18.Prop_.Value.Kind vy18.Prop_.Value.Flag vy18.Prop_.Value.Number vy18.Prop_.Value.Words)) (api_Stamp.mk vy18.Stamp.At vy18.Stamp.By vy18.Stamp.No)) h10 rfl ?_
    refine dE ?_
    exact gR 3 (oO hF [] [] rfl)
  · refine tF h7 (awp_exit ?_)
    exact oO hF [] [] rfl

def z766 : (List api_Cell) → AEx
  | _ => .exit 0

def z765 (qa : Int) (qb : Int) : (List api_Cell) → St
  | vl5 => Mem.st ⟨[(0, ⟨152, 8, List.map api_Cell.enc vl5⟩)], []⟩ (tl []) 1

def z764 (qa : Int) (qb : Int) : (List api_Cell) × Int → St
  | (vl, vi) => Mem.st ⟨[(0, ⟨152, 8, List.map api_Cell.enc vl⟩)], []⟩ (tl [(0, .c (.own 0 none)), (1, .i qa), (2, .i qb), (3, .c (.fn 206 [])), (8, .i vi)]) 1

theorem z767 (qa : Int) (qb : Int) (s : (List api_Cell) × Int) (r : ((List api_Cell) × Int) ⊕ ((List api_Cell))) (hF : z763 qa qb s = some r) : Awp prog 1 53 (cL (cL (cR (cB f295)))) (Out 1 (kk z766) (SS (z764 qa qb) (z765 qa qb)) r) (z764 qa qb s) := by
  obtain ⟨vl, vi⟩ := s
  unfold z763 at hF
  refine awp_seq (sR 3 (cE hF (fun h1 hF => ?_) fun h1 hF => ?_))
  · refine tT h1 (awp_skip (awp_seq (awp_block (sR 2 (awp_block (awp_to (st' := z769 qa qb vi (vl, vi)) (oT [] []) ?_))))))
    refine bE hF fun vl4_1 h11 hF => awp_sub (awp_loop' (z769 qa qb vi) z771 (z770 qa qb vi) (by intro x; exact fun h => nomatch h) h11 (z772 qa qb vi)) ?_
    exact gR 3 (oO hF [] [] rfl)
  · refine tF h1 (awp_exit ?_)
    exact oO hF [] [] rfl

def z761 (qdata : List api_Cell) (qa : Int) (qb : Int) (r : (List api_Cell)) : TV × Mem := (.tup [], ⟨[(0, ⟨152, 8, List.map api_Cell.enc r⟩)], []⟩)

theorem z762 {qdata : List api_Cell} {qa : Int} {qb : Int} {r} (hF : z760 qdata qa qb = some r) : Holds prog 295 [.c (.own 0 none), .i qa, .i qb, .c (.fn 206 [])] ⟨[(0, ⟨152, 8, List.map api_Cell.enc qdata⟩)], []⟩ (Is (z761 qdata qa qb r)) := by
  unfold z760 at hF
  refine hW f295 53 1 1 ?_
  refine sR 3 (awp_block (awp_to (st' := z764 qa qb (qdata, IntKind.wrap .i64 (qa + 1))) (oT [] []) ?_))
  refine bE hF fun vl5_1 h12 hF => awp_sub (awp_loop' (z764 qa qb) z766 (z765 qa qb) (by intro x; exact fun h => nomatch h) h12 (z767 qa qb)) ?_
  exact oF hF [] []

/-! ### slices.stableCmpFunc[beaconfleet/api.Cell] -/
def z875 : ((List api_Cell) × Int) → AEx
  | _ => .exit 0

def z874 (qn : Int) : ((List api_Cell) × Int) → St
  | (vl1, va1) => Mem.st ⟨[(0, ⟨152, 8, List.map api_Cell.enc vl1⟩)], []⟩ (tl [(0, .c (.own 0 none)), (1, .i qn), (2, .c (.fn 206 [])), (6, .i 20), (7, .i va1)]) 1

def z873 (qn : Int) : (List api_Cell) × Int × Int → St
  | (vl, va, vb) => Mem.st ⟨[(0, ⟨152, 8, List.map api_Cell.enc vl⟩)], []⟩ (tl [(0, .c (.own 0 none)), (1, .i qn), (2, .c (.fn 206 [])), (6, .i 20), (7, .i va), (8, .i vb)]) 1

theorem z876 (qn : Int) (s : (List api_Cell) × Int × Int) (r : ((List api_Cell) × Int × Int) ⊕ (((List api_Cell) × Int))) (hF : z872 qn s = some r) : Awp prog 1 63 (cL (cL (cL (cR (cR (cB f267)))))) (Out 1 (kk z875) (SS (z873 qn) (z874 qn)) r) (z873 qn s) := by
  obtain ⟨vl, va, vb⟩ := s
  unfold z872 at hF
  refine awp_seq (sR 3 (cE hF (fun h1 hF => ?_) fun h1 hF => ?_))
  · refine tT h1 (awp_skip (awp_block (awp_seq (bE hF fun vl6_1 h2 hF => gE hF fun h3 hF => ?_))))
    refine awp_region (aR 4 (aCp (z762 h2) ⟨⟨rfl, rfl, pin1 h3⟩, trivial⟩ [] [] [] ?_))
    refine aE ?_
    exact sR 2 (gR 4 (oO hF [] [] rfl))
  · refine tF h1 (awp_exit ?_)
    exact oO hF [] [] rfl

def z885 : Unit → AEx
  | _ => .exit 4

def z884 (qn : Int) (vl6_2 : List api_Cell) (vblockSize : Int) : Unit → St
  | _ => Mem.st ⟨[(0, ⟨152, 8, List.map api_Cell.enc vl6_2⟩)], []⟩ (tl [(0, .c (.own 0 none)), (1, .i qn), (2, .c (.fn 206 [])), (6, .i vblockSize), (7, .i 0)]) 1

def z883 (qn : Int) (vl6_2 : List api_Cell) (vblockSize : Int) : Unit → St
  | _ => Mem.st ⟨[(0, ⟨152, 8, List.map api_Cell.enc vl6_2⟩)], []⟩ (tl [(0, .c (.own 0 none)), (1, .i qn), (2, .c (.fn 206 [])), (6, .i vblockSize), (7, .i 0), (8, .i (IntKind.wrap .i64 ((2 : Int) * vblockSize)))]) 1

theorem z886 (qn : Int) (vl6_2 : List api_Cell) (vblockSize : Int) (s : Unit) (r : (Unit) ⊕ (Unit)) (hF : z882 qn vblockSize s = some r) : Awp prog 1 63 (cL (cL (cL (cR (cL (cR (cL (cL (cR (cR (cR (cR (cB f267))))))))))))) (Out 1 (kk z885) (SS (z883 qn vl6_2 vblockSize) (z884 qn vl6_2 vblockSize)) r) (z883 qn vl6_2 vblockSize s) := by
  unfold z882 at hF
  refine awp_seq (sR 3 (cE hF (fun h8 hF => ?_) fun h8 hF => ?_))
  · exact tT h8 (awp_skip (awp_block (awp_seq (nE hF))))
  · refine tF h8 (awp_exit ?_)
    exact oO hF [] [] rfl

def z880 : Unit → AEx
  | _ => .exit 2

def z879 (qn : Int) (vl6_2 : List api_Cell) : Unit → St
  | _ => Mem.st ⟨[(0, ⟨152, 8, List.map api_Cell.enc vl6_2⟩)], []⟩ (tl []) 1

def z878 (qn : Int) (vl6_2 : List api_Cell) : Int → St
  | vblockSize => Mem.st ⟨[(0, ⟨152, 8, List.map api_Cell.enc vl6_2⟩)], []⟩ (tl [(0, .c (.own 0 none)), (1, .i qn), (2, .c (.fn 206 [])), (6, .i vblockSize)]) 1

theorem z881 (qn : Int) (vl6_2 : List api_Cell) (vblockSize : Int) (r : (Int) ⊕ (Unit)) (hF : z877 qn vblockSize = some r) : Awp prog 1 63 (cL (cL (cR (cR (cR (cR (cB f267))))))) (Out 1 (kk z880) (SS (z878 qn vl6_2) (z879 qn vl6_2)) r) (z878 qn vl6_2 vblockSize) := by
  unfold z877 at hF
  refine awp_seq (sR 3 (cE hF (fun h7 hF => ?_) fun h7 hF => ?_))
  · refine tT h7 (awp_skip (awp_block (sR 4 (awp_seq (awp_block (awp_to (st' := z883 qn vl6_2 vblockSize ()) (oT [] []) ?_))))))
    refine bE hF fun _ h10 hF => awp_sub (awp_loop' (z883 qn vl6_2 vblockSize) z885 (z884 qn vl6_2 vblockSize) (by intro x; exact fun h => nomatch h) h10 (z886 qn vl6_2 vblockSize)) ?_
    refine awp_seq (sR 4 (sR 3 (cE hF (fun h11 hF => ?_) fun h11 hF => ?_)))
    · exact tT h11 (nE hF)
    · exact tF h11 (awp_skip (gR 3 (oO hF [] [] rfl)))
  · refine tF h7 (awp_exit ?_)
    exact oO hF [] [] rfl

def z870 (qdata : List api_Cell) (qn : Int) (r : (List api_Cell)) : TV × Mem := (.tup [], ⟨[(0, ⟨152, 8, List.map api_Cell.enc r⟩)], []⟩)

theorem z871 {qdata : List api_Cell} {qn : Int} {r} (hF : z869 qdata qn = some r) : Holds prog 267 [.c (.own 0 none), .i qn, .c (.fn 206 [])] ⟨[(0, ⟨152, 8, List.map api_Cell.enc qdata⟩)], []⟩ (Is (z870 qdata qn r)) := by
  unfold z869 at hF
  refine hW f267 63 1 1 ?_
  refine sR 1 (sR 3 (awp_seq (awp_block (awp_to (st' := z873 qn (qdata, 0, 20)) (oT [] []) ?_))))
  refine bE hF fun x h4 hF => ?_
  obtain ⟨vl1_1, va1_1⟩ := x
  refine awp_sub (awp_loop' (z873 qn) z875 (z874 qn) (by intro x; exact fun h => nomatch h) h4 (z876 qn)) ?_
  refine awp_seq (bE hF fun vl6_2 h5 hF => gE hF fun h6 hF => ?_)
  refine awp_region (aR 4 (aCp (z762 h5) ⟨⟨rfl, rfl, pin1 h6⟩, trivial⟩ [] [] [] ?_))
  refine aE ?_
  refine awp_block (awp_to (st' := z878 qn vl6_2 20) (oT [] []) ?_)
  refine bE hF fun _ h13 hF => awp_sub (awp_loop' (z878 qn vl6_2) z880 (z879 qn vl6_2) (by intro x; exact fun h => nomatch h) h13 (z881 qn vl6_2)) ?_
  exact oF hF [] []

/-! ### slices.SortStableFunc[[]beaconfleet/api.Cell,beaconfleet/api.Cell] -/
def z752 (qx : List api_Cell) (r : (List api_Cell)) : TV × Mem := (.tup [], ⟨[(0, ⟨152, 8, List.map api_Cell.enc r⟩)], []⟩)

theorem z753 {qx : List api_Cell} {r} (hF : z751 qx = some r) : Holds prog 205 [.c (.own 0 none), .c (.fn 206 [])] ⟨[(0, ⟨152, 8, List.map api_Cell.enc qx⟩)], []⟩ (Is (z752 qx r)) := by
  unfold z751 at hF
  refine hW f205 9 1 1 ?_
  refine bE hF fun vl2 h1 hF => gE hF fun h2 hF => ?_
  refine awp_region (aR 2 (aL api_Cell.enc qx (aR 1 (aCp (z871 h1) ⟨⟨rfl, rfl, pin1 h2⟩, trivial⟩ [] [] [] ?_))))
  refine aE ?_
  exact oF hF [] []

/-! ### (*beaconfleet/fleetmake.Stream).RightCells$1 -/
def z216 (qa : api_Cell) (qb : api_Cell) (r : Unit) : TV × Mem := (.b (decide (qa.Prop_.Name = qb.Prop_.Name)), ⟨[], []⟩)

theorem z217 {qa : api_Cell} {qb : api_Cell} {r} (hF : z215 qa qb = some r) : Holds prog 266 [.v (.agg [.s qa.Prop_.Name, .i qa.Prop_.Value.Kind, .t qa.Prop_.Value.Flag, .i qa.Prop_.Value.Number, .s qa.Prop_.Value.Words, .i qa.Stamp.At, .s qa.Stamp.By, .i qa.Stamp.No]), .v (.agg [.s qb.Prop_.Name, .i qb.Prop_.Value.Kind, .t qb.Prop_.Value.Flag, .i qb.Prop_.Value.Number, .s qb.Prop_.Value.Words, .i qb.Stamp.At, .s qb.Stamp.By, .i qb.Stamp.No])] ⟨[], []⟩ (Is (z216 qa qb r)) := by
  unfold z215 at hF
  refine hW f266 12 0 0 ?_
  exact sR 3 (sR 8 (awp_ret (oF hF [] [])))

/-! ### slices.CompactFunc[[]beaconfleet/api.Cell,beaconfleet/api.Cell] -/
def z602 (qx : List api_Cell) (vx : Int) (vl4 : List api_Cell) (vx6 : Int) (vx7 : Int) : ((List api_Cell) × Int) → St
  | (vl6, vx9) => Mem.st ⟨[(0, ⟨152, 8, List.map api_Cell.enc vl6⟩)], []⟩ (tl [(0, .c (.own 0 none)), (1, .c (.fn 266 [])), (5, .i vx9), (6, .c (.view 0 vx.toNat ((qx.length : Int).toNat - vx.toNat))), (7, .i vx7)]) 1

def z601 (qx : List api_Cell) (vx : Int) (vl4 : List api_Cell) (vx6 : Int) (vx7 : Int) : St := Mem.st ⟨[(0, ⟨152, 8, List.map api_Cell.enc vl4⟩)], []⟩ (tl [(0, .c (.own 0 none)), (1, .c (.fn 266 [])), (5, .i vx6), (6, .c (.view 0 vx.toNat ((qx.length : Int).toNat - vx.toNat))), (7, .i vx7)]) 1

theorem z603 (qx : List api_Cell) (vx : Int) (vl4 : List api_Cell) (vx6 : Int) (vx7 : Int) {r} (hF : z600 qx vx vl4 vx6 vx7 = some r) : Awp prog 1 66 (cL (cR (cL (cL (cR (cL (cR (cL (cR (cL (cL (cR (cL (cL (cR (cL (cR (cR (cB f265))))))))))))))))))) (Out 1 nrm (z602 qx vx vl4 vx6 vx7) r) (z601 qx vx vl4 vx6 vx7) := by
  unfold z600 at hF
  refine awp_block (awp_seq (gE hF fun h9 hF => ?_))
  refine bE hF fun vy13 h10 hF => gE hF fun h11 hF => ?_
  refine bE hF fun vy14 h12 hF => bE hF fun _ h13 hF => aD ?_
  refine dR 3 ?_
  refine dX (x_idxV api_Cell.enc 0 h9 h10) ?_
  refine dX (x_ldE api_Cell.enc h10) ?_
  refine dR 3 ?_
  refine dX (x_idxV api_Cell.enc 0 h11 h12) ?_
  refine dX (x_ldE api_Cell.enc h12) ?_
  refine dC (z217 h13) [] [] [] ?_
  refine dR 1 ?_
  refine dE ?_
  refine cE hF (fun h14 hF => ?_) fun h14 hF => ?_
  · refine tT h14 (awp_seq (bE hF fun vy15 h15 hF => awp_region (aR 4 (aX (x_idxV api_Cell.enc 0 h9 h10) (aX (x_ldE api_Cell.enc h10) (aX (x_idxO api_Cell.enc 0 h15) (aX (x_stE api_Cell.enc (api_Cell.mk (api_Prop.mk vy13.Prop_.Name (api_Value.mk vy13.Prop_.Value.Kind vy13.Prop_.Value.Flag vy13.Prop_.Value.Number vy13.Prop_.Value.Words)) (api_Stamp.mk vy13.Stamp.At vy13.Stamp.By vy13.Stamp.No)) h15) (aE ?_))))))))
    exact gR 3 (oO hF [] [] rfl)
  · exact tF h14 (awp_skip (oO hF [] [] rfl))

def z598 : ((List api_Cell) × Int) → AEx
  | _ => .exit 2

def z597 (qx : List api_Cell) (vx : Int) : ((List api_Cell) × Int) → St
  | (vl7, vx10) => Mem.st ⟨[(0, ⟨152, 8, List.map api_Cell.enc vl7⟩)], []⟩ (tl [(0, .c (.own 0 none)), (5, .i vx10)]) 1

def z596 (qx : List api_Cell) (vx : Int) : (List api_Cell) × Int × Int → St
  | (vl4, vx6, vx7) => Mem.st ⟨[(0, ⟨152, 8, List.map api_Cell.enc vl4⟩)], []⟩ (tl [(0, .c (.own 0 none)), (1, .c (.fn 266 [])), (5, .i vx6), (6, .c (.view 0 vx.toNat ((qx.length : Int).toNat - vx.toNat))), (7, .i vx7)]) 1

theorem z599 (qx : List api_Cell) (vx : Int) (s : (List api_Cell) × Int × Int) (r : ((List api_Cell) × Int × Int) ⊕ (((List api_Cell) × Int))) (hF : z595 qx vx s = some r) : Awp prog 1 66 (cL (cL (cR (cL (cR (cL (cR (cL (cL (cR (cL (cL (cR (cL (cR (cR (cB f265))))))))))))))))) (Out 1 (kk z598) (SS (z596 qx vx) (z597 qx vx)) r) (z596 qx vx s) := by
  obtain ⟨vl4, vx6, vx7⟩ := s
  unfold z595 at hF
  refine awp_seq (sR 4 (cE hF (fun h8 hF => ?_) fun h8 hF => ?_))
  · refine tT h8 (awp_skip (awp_seq (awp_to (st' := z601 qx vx vl4 vx6 vx7) (oT [] []) ?_)))
    refine bE hF fun x h16 hF => ?_
    obtain ⟨vl6_1, vx9_1⟩ := x
    refine awp_sub (z603 qx vx vl4 vx6 vx7 h16) ?_
    exact gR 3 (oO hF [] [] rfl)
  · refine tF h8 (awp_exit ?_)
    exact oO hF [] [] rfl

def z593 : Unit ⊕ (List api_Cell) → AEx
  | .inl _ => .exit 0
  | .inr _ => .ret

def z592 (qx : List api_Cell) : Unit ⊕ (List api_Cell) → St
  | .inl _ => Mem.st ⟨[(0, ⟨152, 8, List.map api_Cell.enc qx⟩)], []⟩ (tl [(0, .c (.own 0 none))]) 1
  | .inr vx11 => Mem.st ⟨[(1, ⟨152, 8, List.map api_Cell.enc vx11⟩)], []⟩ (tl [(4, .c (.own 1 none))]) 2

def z591 (qx : List api_Cell) : Int → St
  | vx => Mem.st ⟨[(0, ⟨152, 8, List.map api_Cell.enc qx⟩)], []⟩ (tl [(0, .c (.own 0 none)), (1, .c (.fn 266 [])), (5, .i vx)]) 1

theorem z594 (qx : List api_Cell) (vx : Int) (r : (Int) ⊕ (Unit ⊕ (List api_Cell))) (hF : z590 qx vx = some r) : Awp prog 1 66 (cL (cL (cR (cL (cR (cR (cB f265))))))) (Out 1 (kk z593) (SS (z591 qx) (z592 qx)) r) (z591 qx vx) := by
  unfold z590 at hF
  refine awp_seq (awp_seq (awp_region (aR 2 (aL api_Cell.enc qx (aR 1 (aE ?_))))))
  refine cE hF (fun h2 hF => ?_) fun h2 hF => ?_
  · refine tT h2 (awp_skip (awp_seq (awp_block (awp_seq (bE hF fun vy8 h3 hF => bE hF fun vy9 h4 hF => bE hF fun _ h5 hF => aD ?_)))))
    refine dR 3 ?_
    refine dX (x_idxO api_Cell.enc 0 h3) ?_
    refine dX (x_ldE api_Cell.enc h3) ?_
    refine dR 3 ?_
    refine dX (x_idxO api_Cell.enc 0 h4) ?_
    refine dX (x_ldE api_Cell.enc h4) ?_
    refine dC (z217 h5) [] [] [] ?_
    refine dE ?_
    refine cE hF (fun h6 hF => ?_) fun h6 hF => ?_
    · refine tT h6 (awp_seq (gE hF fun h7 hF => ?_))
      refine awp_region (aR 2 (aX (x_viewN api_Cell.enc 0 h7) (aR 1 (aE ?_))))
      refine awp_seq (sR 1 (awp_block (awp_to (st' := z596 qx vx (qx, vx, 1)) (oT [] []) ?_)))
      refine bE hF fun x h17 hF => ?_
      obtain ⟨vl7_1, vx10_1⟩ := x
      refine awp_sub (awp_loop' (z596 qx vx) z598 (z597 qx vx) (by intro x; exact fun h => nomatch h) h17 (z599 qx vx)) ?_
      refine awp_seq (gE hF fun h18 hF => ?_)
      refine awp_region (aR 2 (aX (x_viewN api_Cell.enc 0 h18) (aCl api_Cell.enc 0 (xs := vl7_1) (y := api_Cell.mk (api_Prop.mk ([] : List UInt8) (api_Value.mk 0 false 0 ([] : List UInt8))) (api_Stamp.mk 0 ([] : List UInt8) 0)) (lo := vx10_1) (hi := (vl7_1.length : Int)) rfl ?_)))
      refine aE ?_
      refine awp_seq (gE hF fun h19 hF => ?_)
      refine awp_region (aR 2 (aT api_Cell.enc 0 h19 rfl ?_))
      refine aR 1 (aE ?_)
      exact awp_ret (oO hF [(1, 6001)] [] rfl)
    · exact tF h6 (awp_skip (gR 3 (oO hF [] [] rfl)))
  · refine tF h2 (awp_exit ?_)
    exact oO hF [] [] rfl

def z588 (qx : List api_Cell) (r : (List api_Cell)) : TV × Mem := (.c (.own 1 none), ⟨[(1, ⟨152, 8, List.map api_Cell.enc r⟩)], []⟩)

theorem z589 {qx : List api_Cell} {r} (hF : z587 qx = some r) : Holds prog 265 [.c (.own 0 none), .c (.fn 266 [])] ⟨[(0, ⟨152, 8, List.map api_Cell.enc qx⟩)], []⟩ (Is (z588 qx r)) := by
  unfold z587 at hF
  refine hW f265 66 1 1 ?_
  refine sR 1 (awp_seq (awp_seq (awp_region (aR 1 (aL api_Cell.enc qx (aR 1 (aE ?_)))))))
  refine cE hF (fun h1 hF => ?_) fun h1 hF => ?_
  · exact tT h1 (sR 2 (awp_ret (oF hF [(1, 0)] [])))
  · refine tF h1 (awp_skip (awp_seq (sR 1 (awp_block (awp_to (st' := z591 qx 1) (oT [] []) ?_)))))
    refine bE hF fun x h20 hF => ?_
    rcases x with _ | vx11_1
    · refine awp_sub (awp_loop' (z591 qx) z593 (z592 qx) (by intro x; rcases x with x | x <;> exact fun h => nomatch h) h20 (z594 qx)) ?_
      exact sR 2 (awp_ret (oF hF [(1, 0)] []))
    · refine awp_sub (awp_loop' (z591 qx) z593 (z592 qx) (by intro x; rcases x with x | x <;> exact fun h => nomatch h) h20 (z594 qx)) ?_
      exact oF hF [] []

/-! ### (*beaconfleet/fleetmake.Stream).RightCells -/
def z227 (vr : Int) (vout : List api_Cell) (vx : Int) (vr5 : List UInt8) (vr4_1 : api_Value) (vs1_2 : z177) (vr3_1 : api_Stamp) : api_Cell → St
  | vc2 => Mem.st ⟨[(2, ⟨152, 8, List.map api_Cell.enc vout⟩)], [(0, [.l (encI .i64) vs1_2.L, .i (IntKind.wrap .i64 (vs1_2.at_ + 1))]), (1, [.s vc2.Prop_.Name, .i vc2.Prop_.Value.Kind, .t vc2.Prop_.Value.Flag, .i vc2.Prop_.Value.Number, .s vc2.Prop_.Value.Words, .i vc2.Stamp.At, .s vc2.Stamp.By, .i vc2.Stamp.No])]⟩ (tl [(0, .c (.box 0 0)), (3, .c (.own 2 none)), (4, .c (.box 1 0)), (6, .i vr), (7, .i vx)]) 3

def z226 (vr : Int) (vout : List api_Cell) (vx : Int) (vr5 : List UInt8) (vr4_1 : api_Value) (vs1_2 : z177) (vr3_1 : api_Stamp) : St := Mem.st ⟨[(2, ⟨152, 8, List.map api_Cell.enc vout⟩)], [(0, [.l (encI .i64) vs1_2.L, .i vs1_2.at_]), (1, [.s vr5, .i vr4_1.Kind, .t vr4_1.Flag, .i vr4_1.Number, .s vr4_1.Words, .i vr3_1.At, .s vr3_1.By, .i vr3_1.No])]⟩ (tl [(0, .c (.box 0 0)), (3, .c (.own 2 none)), (4, .c (.box 1 0)), (6, .i vr), (7, .i vx)]) 3

theorem z228 (vr : Int) (vout : List api_Cell) (vx : Int) (vr5 : List UInt8) (vr4_1 : api_Value) (vs1_2 : z177) (vr3_1 : api_Stamp) {r} (hF : z225 vr5 vr4_1 vs1_2 vr3_1 = some r) : Awp prog 1 32 (cL (cR (cL (cL (cR (cR (cL (cL (cR (cL (cR (cR (cB f204))))))))))))) (Out 1 nrm (z227 vr vout vx vr5 vr4_1 vs1_2 vr3_1) r) (z226 vr vout vx vr5 vr4_1 vs1_2 vr3_1) := by
  unfold z225 at hF
  refine awp_seq (bE hF fun vr6 h6 hF => awp_region (aR 1 (aC (z198 h6) [] [] [] (aE ?_))))
  refine cE hF (fun h7 hF => ?_) fun h7 hF => ?_
  · exact tT h7 (gR 4 (oO hF [] [] rfl))
  · exact tF h7 (awp_skip (oO hF [] [] rfl))

def z223 : (z177 × (List api_Cell)) → AEx
  | _ => .exit 0

def z222 (vr : Int) : (z177 × (List api_Cell)) → St
  | (vs2, vout1) => Mem.st ⟨[(1, ⟨152, 8, List.map api_Cell.enc vout1⟩)], [(0, [.l (encI .i64) vs2.L, .i vs2.at_])]⟩ (tl [(3, .c (.own 1 none))]) 2

def z221 (vr : Int) : z177 × (List api_Cell) × Int → St
  | (vs1, vout, vx) => Mem.st ⟨[(1, ⟨152, 8, List.map api_Cell.enc vout⟩)], [(0, [.l (encI .i64) vs1.L, .i vs1.at_])]⟩ (tl [(0, .c (.box 0 0)), (3, .c (.own 1 none)), (6, .i vr), (7, .i vx)]) 2

theorem z224 (vr : Int) (s : z177 × (List api_Cell) × Int) (r : (z177 × (List api_Cell) × Int) ⊕ ((z177 × (List api_Cell)))) (hF : z220 vr s = some r) : Awp prog 1 32 (cL (cL (cR (cL (cR (cR (cB f204))))))) (Out 1 (kk z223) (SS (z221 vr) (z222 vr)) r) (z221 vr s) := by
  obtain ⟨vs1, vout, vx⟩ := s
  unfold z220 at hF
  refine sR 1 (awp_seq (cE hF (fun h2 hF => ?_) fun h2 hF => ?_))
  · refine tT h2 (awp_skip (awp_seq (awp_block (awp_seq (bE hF fun vr5 h3 hF => bE hF fun vr4_1 h4 hF => bE hF fun x h5 hF => ?_)))))
    obtain ⟨vs1_2, vr3_1⟩ := x
    refine awp_region (aR 2 (aC (z249 h3) [(1, 2002)] [] [] (aR 1 (aC (z246 h4) [] [] [] (aR 2 (aC (z243 h5) [] [] [] (aR 3 (aE ?_))))))))
    refine awp_seq (awp_to (st' := z226 vr vout vx vr5 vr4_1 vs1_2 vr3_1) (oT [(1, 10002), (2, 1)] []) ?_)
    refine bE hF fun vc2_1 h8 hF => awp_sub (z228 vr vout vx vr5 vr4_1 vs1_2 vr3_1 h8) ?_
    refine gE hF fun h9 hF => ?_
    refine awp_region (aR 3 (aX (x_app api_Cell.enc 2 h9) (aR 1 (aE ?_))))
    exact gR 2 (oO hF [(1, 3003)] [] rfl)
  · refine tF h2 (awp_exit ?_)
    exact oO hF [] [] rfl

def z218 (qs : z177) (r : z177 × (List api_Cell)) : TV × Mem := (.c (.own 1 none), ⟨[(1, ⟨152, 8, List.map api_Cell.enc r.2⟩)], [(0, [.l (encI .i64) r.1.L, .i r.1.at_])]⟩)

theorem z219 {qs : z177} {r} (hF : z214 qs = some r) : Holds prog 204 [.c (.box 0 0)] ⟨[], [(0, [.l (encI .i64) qs.L, .i qs.at_])]⟩ (Is (z218 qs r)) := by
  unfold z214 at hF
  refine hW f204 32 1 1 ?_
  refine sR 1 (sR 1 (awp_seq (awp_seq (bE hF fun x h1 hF => ?_))))
  obtain ⟨vs, vr⟩ := x
  refine awp_region (aR 1 (aC (z213 h1) [] [] [] (aR 1 (aE ?_))))
  refine awp_block (awp_to (st' := z221 vr (vs, [], 0)) (oT [] [1]) ?_)
  refine bE hF fun x h10 hF => ?_
  obtain ⟨vs2_1, vout1_1⟩ := x
  refine awp_sub (awp_loop' (z221 vr) z223 (z222 vr) (by intro x; exact fun h => nomatch h) h10 (z224 vr)) ?_
  refine awp_seq (bE hF fun vl h11 hF => gE hF fun h12 hF => ?_)
  refine awp_region (aR 1 (aCp (z753 h11) ⟨⟨rfl, rfl, pin1 h12⟩, trivial⟩ [(0, 1)] [] [] ?_))
  refine aE ?_
  refine awp_seq (bE hF fun vr7 h13 hF => awp_region (aR 1 (aC (z589 h13) [(0, 1)] [] [] (aR 1 (aE ?_)))))
  exact awp_ret (oF hF [(1, 3003)] [])

/-! ### (*beaconfleet/fleetmake.Stream).PropName -/
def z209 (qs : z177) (r : (List UInt8)) : TV × Mem := (.c (.s r), ⟨[], [(0, [.l (encI .i64) qs.L, .i (IntKind.wrap .i64 ((IntKind.wrap .i64 (qs.at_ + 1)) + 1))])]⟩)

theorem z210 {qs : z177} {r} (hF : z208 qs = some r) : Holds prog 135 [.c (.box 0 0)] ⟨[], [(0, [.l (encI .i64) qs.L, .i qs.at_])]⟩ (Is (z209 qs r)) := by
  unfold z208 at hF
  refine hW f135 12 1 1 ?_
  refine sR 1 (awp_seq (awp_seq (bE hF fun vr h1 hF => awp_region (aR 1 (aC (z198 h1) [] [] [] (aE ?_))))))
  refine cE hF (fun h2 hF => ?_) fun h2 hF => ?_
  · refine tT h2 (awp_seq (bE hF fun vr1 h3 hF => bE hF fun vr2 h4 hF => awp_region (aR 1 (aC (z935 h3) [] [] [] (aR 1 (aC (z249 h4) [(1, 5001)] [] [] (aR 1 (aE ?_))))))))
    exact awp_ret (oF hF [] [])
  · refine tF h2 (awp_skip (awp_seq (bE hF fun vr3 h5 hF => awp_region (aR 2 (aC (z249 h5) [(1, 4001)] [] [] (aR 1 (aE ?_)))))))
    exact awp_ret (oF hF [] [])

/-! ### (*beaconfleet/fleetmake.Stream).Value -/
def z265 (qs : z177) (vr4 : api_Value) : (z177 × api_Value) → St
  | (vs, vv) => Mem.st ⟨[], [(0, [.l (encI .i64) vs.L, .i vs.at_]), (1, [.i 0, .t false, .i 0, .s ([] : List UInt8)]), (2, [.i vv.Kind, .t vv.Flag, .i vv.Number, .s vv.Words])]⟩ (tl [(2, .c (.box 1 0)), (3, .c (.box 2 0))]) 3

def z264 (qs : z177) (vr4 : api_Value) : St := Mem.st ⟨[], [(0, [.l (encI .i64) qs.L, .i (IntKind.wrap .i64 ((IntKind.wrap .i64 ((IntKind.wrap .i64 (qs.at_ + 1)) + 1)) + 1))]), (1, [.i 0, .t false, .i 0, .s ([] : List UInt8)]), (2, [.i vr4.Kind, .t vr4.Flag, .i vr4.Number, .s vr4.Words])]⟩ (tl [(0, .c (.box 0 0)), (2, .c (.box 1 0)), (3, .c (.box 2 0))]) 3

theorem z266 (qs : z177) (vr4 : api_Value) {r} (hF : z263 qs vr4 = some r) : Awp prog 1 39 (cL (cR (cR (cR (cB f136))))) (Out 1 nrm (z265 qs vr4) r) (z264 qs vr4) := by
  unfold z263 at hF
  refine awp_seq (bE hF fun vr1 h4 hF => awp_region (aR 1 (aC (z198 h4) [] [] [] (aE ?_))))
  refine cE hF (fun h5 hF => ?_) fun h5 hF => ?_
  · refine tT h5 (awp_seq (bE hF fun vr3 h6 hF => awp_region (aR 1 (aC (z201 h6) [] [] [] (aE ?_)))))
    refine awp_block (sR 2 (cE hF (fun h7 hF => ?_) fun h7 hF => ?_))
    · refine tT h7 (bE hF fun vr2 h8 hF => awp_region (aR 2 (aC (z207 h8) [(1, 7003)] [] [] (aR 2 (aE ?_)))))
      exact oO hF [] [] rfl
    · refine tF h7 (sR 2 (cE hF (fun h9 hF => ?_) fun h9 hF => ?_))
      · exact tT h9 (gR 5 (oO hF [] [] rfl))
      · refine tF h9 (sR 2 (cE hF (fun h10 hF => ?_) fun h10 hF => ?_))
        · refine tT h10 (bE hF fun x h11 hF => ?_)
          obtain ⟨vs1, vr3_1⟩ := x
          refine awp_region (aR 1 (aC (z204 h11) [] [] [] (aR 2 (aE ?_))))
          exact oO hF [] [] rfl
        · refine tF h10 (sR 2 (cE hF (fun h12 hF => ?_) fun h12 hF => ?_))
          · refine tT h12 (bE hF fun vr5 h13 hF => bE hF fun vr6 h14 hF => awp_region (aR 1 (aC (z935 h13) [] [] [] (aR 1 (aC (z249 h14) [(1, 14003)] [] [] (aR 2 (aE ?_)))))))
            exact oO hF [] [] rfl
          · exact tF h12 (gR 2 (oO hF [] [] rfl))
  · exact tF h5 (awp_skip (oO hF [] [] rfl))

def z261 (qs : z177) (r : z177 × api_Value) : TV × Mem := (.v (.agg [.i r.2.Kind, .t r.2.Flag, .i r.2.Number, .s r.2.Words]), ⟨[], [(0, [.l (encI .i64) r.1.L, .i r.1.at_])]⟩)

theorem z262 {qs : z177} {r} (hF : z260 qs = some r) : Holds prog 136 [.c (.box 0 0)] ⟨[], [(0, [.l (encI .i64) qs.L, .i qs.at_])]⟩ (Is (z261 qs r)) := by
  unfold z260 at hF
  refine hW f136 39 1 1 ?_
  refine sR 1 (awp_seq (bE hF fun vr4 h1 hF => awp_region (aR 1 (aC (z246 h1) [] [] [] (aR 2 (aE ?_))))))
  refine awp_seq (awp_seq (bE hF fun vr h2 hF => awp_region (aR 1 (aC (z198 h2) [] [] [] (aE ?_)))))
  refine cE hF (fun h3 hF => ?_) fun h3 hF => ?_
  · exact tT h3 (sR 2 (awp_ret (oF hF [] [])))
  · refine tF h3 (awp_skip (awp_seq (awp_to (st' := z264 qs vr4) (oT [(2, 3001)] []) ?_)))
    refine bE hF fun x h15 hF => ?_
    obtain ⟨vs2, vv1⟩ := x
    refine awp_sub (z266 qs vr4 h15) ?_
    exact sR 2 (awp_ret (oF hF [] []))

/-! ### (*beaconfleet/fleetmake.Stream).Stamp -/
def z255 (vs1 : z177) (vr3 : api_Stamp) : (z177 × api_Stamp) → St
  | (vs, vt) => Mem.st ⟨[], [(0, [.l (encI .i64) vs.L, .i vs.at_]), (1, [.i 0, .s ([] : List UInt8), .i 0]), (2, [.i vt.At, .s vt.By, .i vt.No])]⟩ (tl [(2, .c (.box 1 0)), (3, .c (.box 2 0))]) 3

def z254 (vs1 : z177) (vr3 : api_Stamp) : St := Mem.st ⟨[], [(0, [.l (encI .i64) vs1.L, .i vs1.at_]), (1, [.i 0, .s ([] : List UInt8), .i 0]), (2, [.i vr3.At, .s vr3.By, .i vr3.No])]⟩ (tl [(0, .c (.box 0 0)), (2, .c (.box 1 0)), (3, .c (.box 2 0))]) 3

theorem z256 (vs1 : z177) (vr3 : api_Stamp) {r} (hF : z253 vs1 vr3 = some r) : Awp prog 1 17 (cL (cR (cR (cB f40)))) (Out 1 nrm (z255 vs1 vr3) r) (z254 vs1 vr3) := by
  unfold z253 at hF
  refine awp_seq (bE hF fun vr h2 hF => awp_region (aR 1 (aC (z198 h2) [] [] [] (aE ?_))))
  refine cE hF (fun h3 hF => ?_) fun h3 hF => ?_
  · refine tT h3 (bE hF fun x h4 hF => ?_)
    obtain ⟨vs1_1, vr3_1⟩ := x
    refine bE hF fun vr1 h5 hF => bE hF fun x h6 hF => ?_
    obtain ⟨vs1_2, vr3_2⟩ := x
    refine awp_region (aR 1 (aC (z204 h4) [] [] [] (aR 2 (aC (z249 h5) [(1, 5003)] [] [] (aR 1 (aC (z204 h6) [] [] [] (aR 2 (aE ?_))))))))
    exact oO hF [] [] rfl
  · exact tF h3 (awp_skip (oO hF [] [] rfl))

def z251 (qs : z177) (r : z177 × api_Stamp) : TV × Mem := (.v (.agg [.i r.2.At, .s r.2.By, .i r.2.No]), ⟨[], [(0, [.l (encI .i64) r.1.L, .i r.1.at_])]⟩)

theorem z252 {qs : z177} {r} (hF : z250 qs = some r) : Holds prog 40 [.c (.box 0 0)] ⟨[], [(0, [.l (encI .i64) qs.L, .i qs.at_])]⟩ (Is (z251 qs r)) := by
  unfold z250 at hF
  refine hW f40 17 1 1 ?_
  refine sR 1 (awp_seq (bE hF fun x h1 hF => ?_))
  obtain ⟨vs1, vr3⟩ := x
  refine awp_region (aR 1 (aC (z243 h1) [] [] [] (aR 2 (aE ?_))))
  refine awp_seq (awp_to (st' := z254 vs1 vr3) (oT [(2, 3001)] []) ?_)
  refine bE hF fun x h7 hF => ?_
  obtain ⟨vs2, vt1⟩ := x
  refine awp_sub (z256 vs1 vr3 h7) ?_
  exact sR 2 (awp_ret (oF hF [] []))

/-! ### (*beaconfleet/fleetmake.Stream).Cells -/
def z183 (vs3 : z177) (vr8 : List api_Cell) : (z177 × (List api_Cell)) → St
  | (vs, vout) => Mem.st ⟨[(1, ⟨152, 8, List.map api_Cell.enc vout⟩)], [(0, [.l (encI .i64) vs.L, .i vs.at_])]⟩ (tl [(3, .c (.own 1 none))]) 2

def z182 (vs3 : z177) (vr8 : List api_Cell) : St := Mem.st ⟨[(1, ⟨152, 8, List.map api_Cell.enc vr8⟩)], [(0, [.l (encI .i64) vs3.L, .i vs3.at_])]⟩ (tl [(0, .c (.box 0 0)), (3, .c (.own 1 none))]) 2

theorem z184 (vs3 : z177) (vr8 : List api_Cell) {r} (hF : z181 vs3 vr8 = some r) : Awp prog 1 24 (cL (cR (cR (cB f113)))) (Out 1 nrm (z183 vs3 vr8) r) (z182 vs3 vr8) := by
  unfold z181 at hF
  refine awp_seq (bE hF fun vr h2 hF => awp_region (aR 1 (aC (z198 h2) [] [] [] (aE ?_))))
  refine cE hF (fun h3 hF => ?_) fun h3 hF => ?_
  · refine tT h3 (awp_seq (bE hF fun vr4 h4 hF => bE hF fun x h5 hF => ?_))
    obtain ⟨vs3_1, vr7⟩ := x
    refine bE hF fun x h6 hF => ?_
    obtain ⟨vs3_2, vr2⟩ := x
    refine gE hF fun h7 hF => ?_
    refine awp_region (aR 2 (aC (z210 h4) [] [] [] (aR 1 (aC (z262 h5) [] [] [] (aR 2 (aC (z252 h6) [] [] [] (aR 2 (aX (x_app api_Cell.enc 1 h7) (aR 1 (aE ?_))))))))))
    refine awp_seq (bE hF fun vr1 h8 hF => awp_region (aR 1 (aC (z198 h8) [] [] [] (aE ?_))))
    refine cE hF (fun h9 hF => ?_) fun h9 hF => ?_
    · refine tT h9 (bE hF fun vl h10 hF => gE hF fun h11 hF => ?_)
      refine awp_region (aR 1 (aCp (z753 h10) ⟨⟨rfl, rfl, pin1 h11⟩, trivial⟩ [(0, 12002)] [] [] ?_))
      refine aE ?_
      exact oO hF [(1, 12002)] [] rfl
    · exact tF h9 (awp_skip (oO hF [(1, 12002)] [] rfl))
  · exact tF h3 (awp_skip (oO hF [] [] rfl))

def z179 (qs : z177) (r : z177 × (List api_Cell)) : TV × Mem := (.c (.own 1 none), ⟨[(1, ⟨152, 8, List.map api_Cell.enc r.2⟩)], [(0, [.l (encI .i64) r.1.L, .i r.1.at_])]⟩)

theorem z180 {qs : z177} {r} (hF : z178 qs = some r) : Holds prog 113 [.c (.box 0 0)] ⟨[], [(0, [.l (encI .i64) qs.L, .i qs.at_])]⟩ (Is (z179 qs r)) := by
  unfold z178 at hF
  refine hW f113 24 1 1 ?_
  refine sR 1 (awp_seq (bE hF fun x h1 hF => ?_))
  obtain ⟨vs3, vr8⟩ := x
  refine awp_region (aR 1 (aC (z219 h1) [] [] [] (aR 1 (aE ?_))))
  refine awp_seq (awp_to (st' := z182 vs3 vr8) (oT [(1, 2002)] []) ?_)
  refine bE hF fun x h12 hF => ?_
  obtain ⟨vs1, vout1⟩ := x
  refine awp_sub (z184 vs3 vr8 h12) ?_
  exact sR 2 (awp_ret (oF hF [] []))

/-! ### (*beaconfleet/fleetmake.Stream).Twin -/
def z258 (qs : z177) (r : z177 × (List api_Cell) × (List api_Cell)) : TV × Mem := (.v (.agg [.own 1 none, .own 2 none]), ⟨[(1, ⟨152, 8, List.map api_Cell.enc r.2.1⟩), (2, ⟨152, 8, List.map api_Cell.enc r.2.2⟩)], [(0, [.l (encI .i64) r.1.L, .i r.1.at_])]⟩)

theorem z259 {qs : z177} {r} (hF : z257 qs = some r) : Holds prog 39 [.c (.box 0 0)] ⟨[], [(0, [.l (encI .i64) qs.L, .i qs.at_])]⟩ (Is (z258 qs r)) := by
  unfold z257 at hF
  refine hW f39 8 1 1 ?_
  refine sR 1 (awp_seq (bE hF fun x h1 hF => ?_))
  obtain ⟨vs2, vr3⟩ := x
  refine bE hF fun x h2 hF => ?_
  obtain ⟨vs2_1, vr3_1⟩ := x
  refine awp_region (aR 1 (aC (z180 h1) [] [] [] (aR 1 (aC (z180 h2) [] [] [] (aR 2 (aE ?_))))))
  exact awp_ret (oF hF [(1, 2002), (2, 4002)] [])

/-! ### internal/stringslite.Index -/
def z997 (qx : List UInt8) (qx1 : List UInt8) : Bool → St
  | vx => Mem.st ⟨[], []⟩ (tl [(0, .c (.s qx)), (1, .c (.s qx1)), (5, .i (qx1.length : Int)), (16, .b vx)]) 0

def z996 (qx : List UInt8) (qx1 : List UInt8) : St := Mem.st ⟨[], []⟩ (tl [(0, .c (.s qx)), (1, .c (.s qx1)), (5, .i (qx1.length : Int))]) 0

theorem z998 (qx : List UInt8) (qx1 : List UInt8) {r} (hF : z995 qx qx1 = some r) : Awp prog 0 143 (cL (cL (cL (cR (cR (cB f344)))))) (Out 0 nrm (z997 qx qx1) r) (z996 qx qx1) := by
  unfold z995 at hF
  refine cE hF (fun h1 hF => ?_) fun h1 hF => ?_
  · refine awp_region (aR 1 (aB h1 (aR 6 (aE ?_))))
    exact oO hF [] [] rfl
  · refine awp_region (aR 1 (aB h1 (aR 6 (aE ?_))))
    exact oO hF [] [] rfl

def z993 (qx : List UInt8) (qx1 : List UInt8) (r : Int) : TV × Mem := (.i r, ⟨[], []⟩)

theorem z994 {qx : List UInt8} {qx1 : List UInt8} {r} (hF : z989 qx qx1 = some r) : Holds prog 344 [.c (.s qx), .c (.s qx1)] ⟨[], []⟩ (Is (z993 qx qx1 r)) := by
  unfold z989 at hF
  refine hW f344 143 0 0 ?_
  refine sR 1 (sR 3 (awp_seq (awp_block (awp_seq (awp_to (st' := z996 qx qx1) (oT [] []) ?_)))))
  refine bE hF fun vx1 h2 hF => awp_sub (z998 qx qx1 h2) ?_
  refine cE hF (fun h3 hF => ?_) fun h3 hF => ?_
  · exact tT h3 (sR 1 (awp_ret (oF hF [] [])))
  · refine tF h3 (sR 3 (cE hF (fun h4 hF => ?_) fun h4 hF => ?_))
    · refine tT h4 (awp_seq (bE hF fun vc h5 hF => bE hF fun _ h6 hF => awp_region (aR 2 (aX (x_idxS h5) (aC (z992 h6) [] [] [] (aR 1 (aE ?_)))))))
      exact awp_ret (oF hF [] [])
    · refine tF h4 (sR 5 (cE hF (fun h7 hF => ?_) fun h7 hF => ?_))
      · exact tT h7 (sR 1 (awp_ret (oF hF [] [])))
      · exact tF h7 (awp_seq (nE hF))

/-! ### internal/stringslite.Cut -/
def z980 (qs : List UInt8) (qsep : List UInt8) (r : (List UInt8) × (List UInt8) × Bool) : TV × Mem := (.tup [.one (.s r.1), .one (.s r.2.1), .one (.t r.2.2)], ⟨[], []⟩)

theorem z981 {qs : List UInt8} {qsep : List UInt8} {r} (hF : z979 qs qsep = some r) : Holds prog 340 [.c (.s qs), .c (.s qsep)] ⟨[], []⟩ (Is (z980 qs qsep r)) := by
  unfold z979 at hF
  refine hW f340 23 0 0 ?_
  refine sR 3 (awp_seq (awp_seq (bE hF fun vr h1 hF => awp_region (aR 2 (aC (z994 h1) [] [] [] (aR 1 (aE ?_)))))))
  refine sR 2 (cE hF (fun h2 hF => ?_) fun h2 hF => ?_)
  · refine tT h2 (awp_seq (bE hF fun vs h3 hF => bE hF fun vs1 h4 hF => aD ?_))
    refine dR 2 ?_
    refine dX (x_sliceS h3) ?_
    refine dR 5 ?_
    refine dX (x_sliceS h4) ?_
    refine dR 3 ?_
    refine dE ?_
    exact awp_ret (oF hF [] [])
  · exact tF h2 (awp_skip (sR 4 (awp_ret (oF hF [] []))))

/-! ### strings.Cut -/
def z920 (qs : List UInt8) (qsep : List UInt8) (r : (List UInt8) × (List UInt8) × Bool) : TV × Mem := (.tup [.one (.s r.1), .one (.s r.2.1), .one (.t r.2.2)], ⟨[], []⟩)

theorem z921 {qs : List UInt8} {qsep : List UInt8} {r} (hF : z919 qs qsep = some r) : Holds prog 314 [.c (.s qs), .c (.s qsep)] ⟨[], []⟩ (Is (z920 qs qsep r)) := by
  unfold z919 at hF
  refine hW f314 13 0 0 ?_
  refine sR 3 (awp_seq (bE hF fun x h1 hF => ?_))
  obtain ⟨vr1, vr2, vr3⟩ := x
  refine awp_region (aR 2 (aC (z981 h1) [] [] [] (aR 6 (aE ?_))))
  exact awp_ret (oF hF [] [])

/-! ### beaconfleet/base.Dotted -/
def z22 : Unit ⊕ Bool → AEx
  | .inl _ => .exit 0
  | .inr _ => .ret

def z21 (qmost : Int) : Unit ⊕ Bool → St
  | .inl _ => Mem.st ⟨[], []⟩ (tl []) 0
  | .inr vx => Mem.st ⟨[], []⟩ (tl [(4, .b vx)]) 0

def z19 (qmost : Int) : (List UInt8) × Int → St
  | (vs, vn) => Mem.st ⟨[], []⟩ (tl [(0, .c (.s vs)), (1, .i qmost), (5, .i vn)]) 0

theorem z23 (qmost : Int) (s : (List UInt8) × Int) (r : ((List UInt8) × Int) ⊕ (Unit ⊕ Bool)) (hF : z18 qmost s = some r) : Awp prog 0 26 (cL (cL (cR (cL (cR (cB f273)))))) (Out 0 (kk z22) (SS (z19 qmost) (z21 qmost)) r) (z19 qmost s) := by
  obtain ⟨vs, vn⟩ := s
  unfold z18 at hF
  refine awp_seq (sR 3 (cE hF (fun h1 hF => ?_) fun h1 hF => ?_))
  · refine tT h1 (awp_skip (awp_seq (awp_block (awp_seq (bE hF fun x h2 hF => ?_)))))
    obtain ⟨vr2, vr4_1, vr5_1⟩ := x
    refine awp_region (aR 1 (aC (z921 h2) [] [] [] (aR 7 (aE ?_))))
    refine awp_seq (awp_seq (bE hF fun vr3 h3 hF => awp_region (aR 1 (aC (z33 h3) [] [] [] (aR 1 (aE ?_))))))
    refine cE hF (fun h4 hF => ?_) fun h4 hF => ?_
    · exact tT h4 (sR 1 (awp_ret (oO hF [] [] rfl)))
    · refine tF h4 (awp_skip (awp_seq (sR 2 (cE hF (fun h5 hF => ?_) fun h5 hF => ?_))))
      · exact tT h5 (sR 1 (awp_ret (oO hF [] [] rfl)))
      · exact tF h5 (awp_skip (gR 2 (gR 3 (oO hF [] [] rfl))))
  · refine tF h1 (awp_exit ?_)
    exact oO hF [] [] rfl

def z16 (qs : List UInt8) (qmost : Int) (r : Bool) : TV × Mem := (.b r, ⟨[], []⟩)

theorem z17 {qs : List UInt8} {qmost : Int} {r} (hF : z15 qs qmost = some r) : Holds prog 273 [.c (.s qs), .i qmost] ⟨[], []⟩ (Is (z16 qs qmost r)) := by
  unfold z15 at hF
  refine hW f273 26 0 0 ?_
  refine sR 1 (awp_seq (sR 1 (awp_block (awp_to (st' := z19 qmost (qs, 0)) (oT [] []) ?_))))
  refine bE hF fun x h6 hF => ?_
  rcases x with _ | vx1
  · refine awp_sub (awp_loop' (z19 qmost) z22 (z21 qmost) (by intro x; rcases x with x | x <;> exact fun h => nomatch h) h6 (z23 qmost)) ?_
    exact sR 1 (awp_ret (oF hF [] []))
  · refine awp_sub (awp_loop' (z19 qmost) z22 (z21 qmost) (by intro x; rcases x with x | x <;> exact fun h => nomatch h) h6 (z23 qmost)) ?_
    exact oF hF [] []

/-! ### beaconfleet/twin.isName -/
def z1171 (qs : List UInt8) (r : Bool) : TV × Mem := (.b r, ⟨[], []⟩)

theorem z1172 {qs : List UInt8} {r} (hF : z1170 qs = some r) : Holds prog 222 [.c (.s qs)] ⟨[], []⟩ (Is (z1171 qs r)) := by
  unfold z1170 at hF
  refine hW f222 5 0 0 ?_
  refine sR 1 (awp_seq (bE hF fun vr6 h1 hF => awp_region (aR 1 (aC (z17 h1) [] [] [] (aR 1 (aE ?_))))))
  exact awp_ret (oF hF [] [])

/-! ### beaconfleet/twin.valueFault -/
def z1230 : api_Value ⊕ Unit → AEx
  | .inl _ => .normal
  | .inr _ => .ret

def z1229 (qv : api_Value) : api_Value ⊕ Unit → St
  | .inl vused => Mem.st ⟨[], [(0, [.i qv.Kind, .t qv.Flag, .i qv.Number, .s qv.Words]), (1, [.i vused.Kind, .t vused.Flag, .i vused.Number, .s vused.Words])]⟩ (tl [(1, .c (.box 0 0)), (3, .c (.box 1 0))]) 2
  | .inr _ => Mem.st ⟨[], []⟩ (tl [(2, .i 4)]) 0

def z1228 (qv : api_Value) : St := Mem.st ⟨[], [(0, [.i qv.Kind, .t qv.Flag, .i qv.Number, .s qv.Words]), (1, [.i qv.Kind, .t false, .i 0, .s ([] : List UInt8)])]⟩ (tl [(1, .c (.box 0 0)), (3, .c (.box 1 0))]) 2

theorem z1231 (qv : api_Value) {r} (hF : z1227 qv = some r) : Awp prog 0 44 (cL (cR (cR (cB f223)))) (Out 0 z1230 (z1229 qv) r) (z1228 qv) := by
  unfold z1227 at hF
  refine sR 2 (awp_block (sR 2 (cE hF (fun h1 hF => ?_) fun h1 hF => ?_)))
  · exact tT h1 (awp_skip (oO hF [] [] rfl))
  · refine tF h1 (sR 2 (cE hF (fun h2 hF => ?_) fun h2 hF => ?_))
    · exact tT h2 (gR 4 (oO hF [] [] rfl))
    · refine tF h2 (sR 2 (cE hF (fun h3 hF => ?_) fun h3 hF => ?_))
      · exact tT h3 (gR 4 (oO hF [] [] rfl))
      · refine tF h3 (sR 2 (cE hF (fun h4 hF => ?_) fun h4 hF => ?_))
        · exact tT h4 (gR 4 (oO hF [] [] rfl))
        · exact tF h4 (sR 1 (awp_ret (oO hF [] [] rfl)))

def z1225 (qv : api_Value) (r : Int) : TV × Mem := (.i r, ⟨[], []⟩)

theorem z1226 {qv : api_Value} {r} (hF : z1224 qv = some r) : Holds prog 223 [.v (.agg [.i qv.Kind, .t qv.Flag, .i qv.Number, .s qv.Words])] ⟨[], []⟩ (Is (z1225 qv r)) := by
  unfold z1224 at hF
  refine hW f223 44 0 0 ?_
  refine sR 2 (sR 5 (awp_seq (awp_to (st' := z1228 qv) (oT [(1, 5000)] []) ?_)))
  refine bE hF fun x h5 hF => ?_
  rcases x with vused1 | _
  · refine awp_sub (z1231 qv h5) ?_
    refine awp_seq (awp_block (awp_seq (awp_region (aR 2 (aS (does_eqS (op := .neq) (xs := [.int .i64 qv.Kind, .bool qv.Flag, .int .i64 qv.Number, .str qv.Words]) (ys := [.int .i64 vused1.Kind, .bool vused1.Flag, .int .i64 vused1.Number, .str vused1.Words]) (b := (decide (qv.Kind = vused1.Kind) && ((qv.Flag == vused1.Flag) && (decide (qv.Number = vused1.Number) && (decide (qv.Words = vused1.Words) && true))))) (c := (!(decide (qv.Kind = vused1.Kind) && ((qv.Flag == vused1.Flag) && (decide (qv.Number = vused1.Number) && (decide (qv.Words = vused1.Words) && true)))))) rfl (.inr ⟨rfl, rfl⟩) (by kernel_rfl) (by kernel_rfl) (by kernel_rfl) (by kernel_rfl) (by kernel_rfl) (by kernel_rfl)) ?_)))))
    refine aR 1 (aE ?_)
    refine cE hF (fun h6 hF => ?_) fun h6 hF => ?_
    · exact tT h6 (sR 1 (awp_ret (oF hF [] [])))
    · refine tF h6 (awp_seq (bE hF fun vr h7 hF => awp_region (aR 2 (aC (z55 h7) [] [] [] (aR 1 (aE ?_))))))
      refine cE hF (fun h8 hF => ?_) fun h8 hF => ?_
      · exact tT h8 (sR 1 (awp_ret (oF hF [] [])))
      · refine tF h8 (sR 5 (cE hF (fun h9 hF => ?_) fun h9 hF => ?_))
        · exact tT h9 (sR 1 (awp_ret (oF hF [] [])))
        · refine tF h9 (awp_seq (bE hF fun vr1 h10 hF => awp_region (aR 2 (aC (z62 h10) [] [] [] (aR 2 (aE ?_))))))
          refine cE hF (fun h11 hF => ?_) fun h11 hF => ?_
          · exact tT h11 (sR 1 (awp_ret (oF hF [] [])))
          · exact tF h11 (awp_skip (sR 1 (awp_ret (oF hF [] []))))
  · refine awp_sub (z1231 qv h5) ?_
    exact oF hF [] []

/-! ### beaconfleet/twin.stampFault -/
def z1219 (qs : api_Stamp) (r : Int) : TV × Mem := (.i r, ⟨[], []⟩)

theorem z1220 {qs : api_Stamp} {r} (hF : z1218 qs = some r) : Holds prog 139 [.v (.agg [.i qs.At, .s qs.By, .i qs.No])] ⟨[], []⟩ (Is (z1219 qs r)) := by
  unfold z1218 at hF
  refine hW f139 17 0 0 ?_
  refine sR 2 (awp_seq (awp_block (awp_seq (bE hF fun vr1 h1 hF => awp_region (aR 2 (aC (z52 h1) [] [] [] (aR 2 (aE ?_))))))))
  refine cE hF (fun h2 hF => ?_) fun h2 hF => ?_
  · exact tT h2 (sR 1 (awp_ret (oF hF [] [])))
  · refine tF h2 (awp_seq (bE hF fun vr h3 hF => awp_region (aR 2 (aC (z33 h3) [] [] [] (aR 2 (aE ?_))))))
    refine cE hF (fun h4 hF => ?_) fun h4 hF => ?_
    · exact tT h4 (sR 1 (awp_ret (oF hF [] [])))
    · refine tF h4 (awp_seq (bE hF fun vr2 h5 hF => awp_region (aR 2 (aC (z55 h5) [] [] [] (aR 1 (aE ?_))))))
      refine cE hF (fun h6 hF => ?_) fun h6 hF => ?_
      · exact tT h6 (sR 1 (awp_ret (oF hF [] [])))
      · exact tF h6 (awp_skip (sR 1 (awp_ret (oF hF [] []))))

/-! ### beaconfleet/twin.CheckCells -/
def z1009 (ql : List api_Cell) (vx : Int) (vy2 : api_Cell) : Bool → St
  | vx2 => Mem.st ⟨[], []⟩ (tl [(0, .c (.l api_Cell.enc ql)), (9, .c (.l api_Cell.enc ql)), (10, .i (ql.length : Int)), (11, .i vx), (47, .b vx2)]) 0

def z1008 (ql : List api_Cell) (vx : Int) (vy2 : api_Cell) : St := Mem.st ⟨[], [(0, [.s vy2.Prop_.Name, .i vy2.Prop_.Value.Kind, .t vy2.Prop_.Value.Flag, .i vy2.Prop_.Value.Number, .s vy2.Prop_.Value.Words, .i vy2.Stamp.At, .s vy2.Stamp.By, .i vy2.Stamp.No])]⟩ (tl [(0, .c (.l api_Cell.enc ql)), (3, .i vx), (4, .c (.box 0 0)), (9, .c (.l api_Cell.enc ql)), (10, .i (ql.length : Int)), (11, .i vx)]) 1

theorem z1010 (ql : List api_Cell) (vx : Int) (vy2 : api_Cell) {r} (hF : z1007 ql vx vy2 = some r) : Awp prog 0 49 (cL (cR (cR (cR (cL (cL (cR (cR (cL (cL (cR (cL (cR (cR (cB f207))))))))))))))) (Out 0 nrm (z1009 ql vx vy2) r) (z1008 ql vx vy2) := by
  unfold z1007 at hF
  refine cE hF (fun h10 hF => ?_) fun h10 hF => ?_
  · refine bE hF fun vy3 h11 hF => aD ?_
    refine dR 1 ?_
    refine dB h10 ?_
    refine dR 7 ?_
    refine dX (x_idx api_Cell.enc h11) ?_
    refine dR 5 ?_
    refine dE ?_
    exact oO hF [] [] rfl
  · refine aD ?_
    refine dR 1 ?_
    refine dB h10 ?_
    refine dR 13 ?_
    refine dE ?_
    exact oO hF [] [] rfl

def z1005 : Unit ⊕ Int → AEx
  | .inl _ => .exit 0
  | .inr _ => .ret

def z1004 (ql : List api_Cell) : Unit ⊕ Int → St
  | .inl _ => Mem.st ⟨[], []⟩ (tl []) 0
  | .inr vx3 => Mem.st ⟨[], []⟩ (tl [(2, .i vx3)]) 0

def z1003 (ql : List api_Cell) : Int → St
  | vx => Mem.st ⟨[], []⟩ (tl [(0, .c (.l api_Cell.enc ql)), (9, .c (.l api_Cell.enc ql)), (10, .i (ql.length : Int)), (11, .i vx)]) 0

theorem z1006 (ql : List api_Cell) (vx : Int) (r : (Int) ⊕ (Unit ⊕ Int)) (hF : z1002 ql vx = some r) : Awp prog 0 49 (cL (cL (cR (cL (cR (cR (cB f207))))))) (Out 0 (kk z1005) (SS (z1003 ql) (z1004 ql)) r) (z1003 ql vx) := by
  unfold z1002 at hF
  refine sR 1 (awp_seq (cE hF (fun h2 hF => ?_) fun h2 hF => ?_))
  · refine tT h2 (awp_skip (awp_seq (awp_block (awp_seq (bE hF fun vy2 h3 hF => awp_region (aR 1 (aX (x_idx api_Cell.enc h3) (aR 4 (aE ?_)))))))))
    refine awp_seq (awp_seq (bE hF fun vr4 h4 hF => awp_region (aR 3 (aC (z1172 h4) [] [] [] (aR 1 (aE ?_))))))
    refine cE hF (fun h5 hF => ?_) fun h5 hF => ?_
    · exact tT h5 (sR 1 (awp_ret (oO hF [] [] rfl)))
    · refine tF h5 (awp_skip (awp_seq (awp_seq (bE hF fun vr2_1 h6 hF => bE hF fun vr3_1 h7 hF => bE hF fun vr5 h8 hF => aD ?_))))
      refine dR 3 ?_
      refine dC (z1226 h6) [] [] [] ?_
      refine dR 2 ?_
      refine dC (z1220 h7) [] [] [] ?_
      refine dR 1 ?_
      refine dC (z26 h8) [] [] [19000] ?_
      refine dR 1 ?_
      refine dE ?_
      refine sR 2 (cE hF (fun h9 hF => ?_) fun h9 hF => ?_)
      · exact tT h9 (sR 2 (awp_ret (oO hF [] [] rfl)))
      · refine tF h9 (awp_skip (awp_seq (awp_to (st' := z1008 ql vx vy2) (oT [(0, 4000)] []) ?_)))
        refine bE hF fun vx2_1 h12 hF => awp_sub (z1010 ql vx vy2 h12) ?_
        refine cE hF (fun h13 hF => ?_) fun h13 hF => ?_
        · exact tT h13 (sR 1 (awp_ret (oO hF [] [] rfl)))
        · exact tF h13 (awp_skip (gR 2 (oO hF [] [] rfl)))
  · refine tF h2 (awp_exit ?_)
    exact oO hF [] [] rfl

def z1000 (ql : List api_Cell) (r : Int) : TV × Mem := (.i r, ⟨[], []⟩)

theorem z1001 {ql : List api_Cell} {r} (hF : z999 ql = some r) : Holds prog 207 [.c (.l api_Cell.enc ql)] ⟨[], []⟩ (Is (z1000 ql r)) := by
  unfold z999 at hF
  refine hW f207 49 0 0 ?_
  refine sR 1 (awp_seq (awp_seq (awp_region (aR 1 (aL api_Cell.enc ql (aR 1 (aE ?_)))))))
  refine cE hF (fun h1 hF => ?_) fun h1 hF => ?_
  · exact tT h1 (sR 1 (awp_ret (oF hF [] [])))
  · refine tF h1 (awp_skip (awp_seq (awp_seq (awp_region (aR 1 (aL api_Cell.enc ql (aR 1 (aE ?_))))))))
    refine awp_block (awp_to (st' := z1003 ql 0) (oT [] []) ?_)
    refine bE hF fun x h14 hF => ?_
    rcases x with _ | vx3_1
    · refine awp_sub (awp_loop' (z1003 ql) z1005 (z1004 ql) (by intro x; rcases x with x | x <;> exact fun h => nomatch h) h14 (z1006 ql)) ?_
      exact sR 1 (awp_ret (oF hF [] []))
    · refine awp_sub (awp_loop' (z1003 ql) z1005 (z1004 ql) (by intro x; rcases x with x | x <;> exact fun h => nomatch h) h14 (z1006 ql)) ?_
      exact oF hF [] []

/-! ### beaconfleet/twin.twinFault -/
def z1222 (qt : api_Twin) (r : Int) : TV × Mem := (.i r, ⟨[], []⟩)

theorem z1223 {qt : api_Twin} {r} (hF : z1221 qt = some r) : Holds prog 115 [.v (.agg [.l api_Cell.enc qt.Desired, .l api_Cell.enc qt.Reported])] ⟨[], []⟩ (Is (z1222 qt r)) := by
  unfold z1221 at hF
  refine hW f115 11 0 0 ?_
  refine sR 2 (awp_seq (bE hF fun vr6 h1 hF => bE hF fun vr6_1 h2 hF => bE hF fun vr h3 hF => aD ?_))
  refine dR 2 ?_
  refine dC (z1001 h1) [] [] [] ?_
  refine dR 2 ?_
  refine dC (z1001 h2) [] [] [] ?_
  refine dR 1 ?_
  refine dC (z26 h3) [] [] [8000] ?_
  refine dR 1 ?_
  refine dE ?_
  exact awp_ret (oF hF [] [])

/-! ### beaconfleet/base.Below -/
def z13 (qname : List UInt8) (qabove : List UInt8) : Bool → St
  | vx => Mem.st ⟨[], []⟩ (tl [(4, .b vx)]) 0

def z11 (qname : List UInt8) (qabove : List UInt8) : St := Mem.st ⟨[], []⟩ (tl [(0, .c (.s qname)), (1, .c (.s qabove))]) 0

theorem z14 (qname : List UInt8) (qabove : List UInt8) {r} (hF : z10 qname qabove = some r) : Awp prog 0 25 (cL (cR (cB f123))) (Out 0 nrm (z13 qname qabove) r) (z11 qname qabove) := by
  unfold z10 at hF
  refine cE hF (fun h1 hF => ?_) fun h1 hF => ?_
  · refine bE hF fun vc h2 hF => cE hF (fun h3 hF => ?_) fun h3 hF => ?_
    · refine bE hF fun vs h4 hF => awp_region (aR 4 (aB h1 (aR 4 (aX (x_idxS h2) (aB h3 (aR 5 (aX (x_sliceS h4) (aR 4 (aE ?_)))))))))
      exact oO hF [] [] rfl
    · refine awp_region (aR 4 (aB h1 (aR 4 (aX (x_idxS h2) (aB h3 (aR 10 (aE ?_)))))))
      exact oO hF [] [] rfl
  · refine awp_region (aR 4 (aB h1 (aR 16 (aE ?_))))
    exact oO hF [] [] rfl

def z7 (qname : List UInt8) (qabove : List UInt8) (r : Bool) : TV × Mem := (.b r, ⟨[], []⟩)

theorem z8 {qname : List UInt8} {qabove : List UInt8} {r} (hF : z6 qname qabove = some r) : Holds prog 123 [.c (.s qname), .c (.s qabove)] ⟨[], []⟩ (Is (z7 qname qabove r)) := by
  unfold z6 at hF
  refine hW f123 25 0 0 ?_
  refine sR 1 (awp_seq (awp_to (st' := z11 qname qabove) (oT [] []) ?_))
  refine bE hF fun vx1 h5 hF => awp_sub (z14 qname qabove h5) ?_
  exact awp_ret (oF hF [] [])

/-! ### beaconfleet/twin.byStamp -/
def z1136 (qa : api_Stamp) (qb : api_Stamp) (r : Int) : TV × Mem := (.i r, ⟨[], []⟩)

theorem z1137 {qa : api_Stamp} {qb : api_Stamp} {r} (hF : z1135 qa qb = some r) : Holds prog 142 [.v (.agg [.i qa.At, .s qa.By, .i qa.No]), .v (.agg [.i qb.At, .s qb.By, .i qb.No])] ⟨[], []⟩ (Is (z1136 qa qb r)) := by
  unfold z1135 at hF
  refine hW f142 22 0 0 ?_
  refine sR 3 (awp_seq (bE hF fun vr h1 hF => bE hF fun _ h2 hF => bE hF fun vr1 h3 hF => bE hF fun vr2 h4 hF => aD ?_))
  refine dR 4 ?_
  refine dC (z98 h1) [] [] [] ?_
  refine dR 4 ?_
  refine dC (z907 h2) [] [] [] ?_
  refine dR 4 ?_
  refine dC (z98 h3) [] [] [] ?_
  refine dR 1 ?_
  refine dC (z108 h4) [] [] [18000] ?_
  refine dR 1 ?_
  refine dE ?_
  exact awp_ret (oF hF [] [])

/-! ### beaconfleet/twin.hides -/
def z1164 (qy : api_Cell) (vr : Bool) (vr1 : Bool) : Bool → St
  | vx => Mem.st ⟨[], []⟩ (tl [(4, .b vx)]) 0

def z1163 (qy : api_Cell) (vr : Bool) (vr1 : Bool) : St := Mem.st ⟨[], [(0, [.s qy.Prop_.Name, .i qy.Prop_.Value.Kind, .t qy.Prop_.Value.Flag, .i qy.Prop_.Value.Number, .s qy.Prop_.Value.Words, .i qy.Stamp.At, .s qy.Stamp.By, .i qy.Stamp.No])]⟩ (tl [(3, .c (.box 0 0)), (5, .b vr), (6, .b vr1)]) 1

theorem z1165 (qy : api_Cell) (vr : Bool) (vr1 : Bool) {r} (hF : z1162 qy vr vr1 = some r) : Awp prog 0 61 (cL (cL (cR (cL (cR (cL (cR (cR (cR (cB f209)))))))))) (Out 0 nrm (z1164 qy vr vr1) r) (z1163 qy vr vr1) := by
  unfold z1162 at hF
  refine cE hF (fun h5 hF => ?_) fun h5 hF => ?_
  · refine awp_region (aB h5 (aR 11 (aE ?_)))
    exact oO hF [] [] rfl
  · refine cE hF (fun h6 hF => ?_) fun h6 hF => ?_
    · refine awp_region (aB h5 (aR 1 (aB h6 (aR 9 (aE ?_)))))
      exact oO hF [] [] rfl
    · refine awp_region (aB h5 (aR 1 (aB h6 (aR 9 (aE ?_)))))
      exact oO hF [] [] rfl

def z1168 (qx : api_Cell) (qy : api_Cell) (vr : Bool) : Bool → St
  | vx2 => Mem.st ⟨[], []⟩ (tl [(4, .b vx2)]) 0

def z1167 (qx : api_Cell) (qy : api_Cell) (vr : Bool) : St := Mem.st ⟨[], [(0, [.s qy.Prop_.Name, .i qy.Prop_.Value.Kind, .t qy.Prop_.Value.Flag, .i qy.Prop_.Value.Number, .s qy.Prop_.Value.Words, .i qy.Stamp.At, .s qy.Stamp.By, .i qy.Stamp.No])]⟩ (tl [(3, .c (.box 0 0)), (5, .b vr), (7, .b (!decide (qx.Prop_.Value.Kind = 0)))]) 1

theorem z1169 (qx : api_Cell) (qy : api_Cell) (vr : Bool) {r} (hF : z1166 qx qy vr = some r) : Awp prog 0 61 (cL (cL (cR (cR (cR (cL (cR (cL (cR (cR (cR (cB f209)))))))))))) (Out 0 nrm (z1168 qx qy vr) r) (z1167 qx qy vr) := by
  unfold z1166 at hF
  refine cE hF (fun h9 hF => ?_) fun h9 hF => ?_
  · refine cE hF (fun h10 hF => ?_) fun h10 hF => ?_
    · refine awp_region (aB h9 (aR 1 (aB h10 (aR 9 (aE ?_)))))
      exact oO hF [] [] rfl
    · refine awp_region (aB h9 (aR 1 (aB h10 (aR 9 (aE ?_)))))
      exact oO hF [] [] rfl
  · refine awp_region (aB h9 (aR 11 (aE ?_)))
    exact oO hF [] [] rfl

def z1160 (qx : api_Cell) (qy : api_Cell) (r : Bool) : TV × Mem := (.b r, ⟨[], []⟩)

theorem z1161 {qx : api_Cell} {qy : api_Cell} {r} (hF : z1159 qx qy = some r) : Holds prog 209 [.v (.agg [.s qx.Prop_.Name, .i qx.Prop_.Value.Kind, .t qx.Prop_.Value.Flag, .i qx.Prop_.Value.Number, .s qx.Prop_.Value.Words, .i qx.Stamp.At, .s qx.Stamp.By, .i qx.Stamp.No]), .v (.agg [.s qy.Prop_.Name, .i qy.Prop_.Value.Kind, .t qy.Prop_.Value.Flag, .i qy.Prop_.Value.Number, .s qy.Prop_.Value.Words, .i qy.Stamp.At, .s qy.Stamp.By, .i qy.Stamp.No])] ⟨[], []⟩ (Is (z1160 qx qy r)) := by
  unfold z1159 at hF
  refine hW f209 61 0 0 ?_
  refine sR 3 (awp_seq (bE hF fun vr h1 hF => bE hF fun vr1 h2 hF => aD ?_))
  refine dR 6 ?_
  refine dC (z8 h1) [] [] [] ?_
  refine dR 6 ?_
  refine dC (z8 h2) [] [] [] ?_
  refine dR 2 ?_
  refine dE ?_
  refine sR 6 (awp_seq (awp_seq (bE hF fun vr3 h3 hF => awp_region (aR 4 (aC (z1137 h3) [] [] [] (aR 1 (aE ?_)))))))
  refine awp_block (sR 3 (cE hF (fun h4 hF => ?_) fun h4 hF => ?_))
  · refine tT h4 (awp_seq (awp_to (st' := z1163 qy vr vr1) (oT [(0, 1000)] []) ?_))
    refine bE hF fun vx1 h7 hF => awp_sub (z1165 qy vr vr1 h7) ?_
    exact awp_ret (oF hF [] [])
  · refine tF h4 (sR 3 (cE hF (fun h8 hF => ?_) fun h8 hF => ?_))
    · refine tT h8 (awp_seq (awp_to (st' := z1167 qx qy vr) (oT [(0, 1000)] []) ?_))
      refine bE hF fun vx2_1 h11 hF => awp_sub (z1169 qx qy vr h11) ?_
      exact awp_ret (oF hF [] [])
    · exact tF h8 (awp_skip (sR 1 (awp_ret (oF hF [] []))))

/-! ### beaconfleet/twin.every -/
def z1139 (qx : api_Cell) (r : Unit) : TV × Mem := (.b true, ⟨[], []⟩)

theorem z1140 {qx : api_Cell} {r} (hF : z1138 qx = some r) : Holds prog 118 [.v (.agg [.s qx.Prop_.Name, .i qx.Prop_.Value.Kind, .t qx.Prop_.Value.Flag, .i qx.Prop_.Value.Number, .s qx.Prop_.Value.Words, .i qx.Stamp.At, .s qx.Stamp.By, .i qx.Stamp.No])] ⟨[], []⟩ (Is (z1139 qx r)) := by
  unfold z1138 at hF
  refine hW f118 3 0 0 ?_
  exact sR 2 (sR 1 (awp_ret (oF hF [] [])))

/-! ### beaconfleet/twin.hidden$1 -/
def z1154 (qx : api_Cell) (qx1 : api_Cell) : Bool → St
  | vx => Mem.st ⟨[], [(0, [.s qx1.Prop_.Name, .i qx1.Prop_.Value.Kind, .t qx1.Prop_.Value.Flag, .i qx1.Prop_.Value.Number, .s qx1.Prop_.Value.Words, .i qx1.Stamp.At, .s qx1.Stamp.By, .i qx1.Stamp.No]), (1, [.fn 118 []])]⟩ (tl [(4, .b vx)]) 2

def z1153 (qx : api_Cell) (qx1 : api_Cell) : St := Mem.st ⟨[], [(0, [.s qx1.Prop_.Name, .i qx1.Prop_.Value.Kind, .t qx1.Prop_.Value.Flag, .i qx1.Prop_.Value.Number, .s qx1.Prop_.Value.Words, .i qx1.Stamp.At, .s qx1.Stamp.By, .i qx1.Stamp.No]), (1, [.fn 118 []]), (2, [.s qx.Prop_.Name, .i qx.Prop_.Value.Kind, .t qx.Prop_.Value.Flag, .i qx.Prop_.Value.Number, .s qx.Prop_.Value.Words, .i qx.Stamp.At, .s qx.Stamp.By, .i qx.Stamp.No])]⟩ (tl [(1, .c (.box 0 0)), (2, .c (.box 1 0)), (3, .c (.box 2 0))]) 3

theorem z1155 (qx : api_Cell) (qx1 : api_Cell) {r} (hF : z1152 qx qx1 = some r) : Awp prog 2 13 (cL (cR (cB f208))) (Out 2 nrm (z1154 qx qx1) r) (z1153 qx qx1) := by
  unfold z1152 at hF
  refine bE hF fun vr2 h1 hF => cE hF (fun h2 hF => ?_) fun h2 hF => ?_
  · refine bE hF fun _ h3 hF => awp_region (aR 2 (aCb (z1161 h1) [] [] [] h2 ?_))
    refine aR 3 (aC (z1140 h3) [] [] [] (aR 2 (aE ?_)))
    exact oO hF [] [] rfl
  · refine awp_region (aR 2 (aCb (z1161 h1) [] [] [] h2 ?_))
    refine aR 6 (aE ?_)
    exact oO hF [] [] rfl

def z1150 (qx : api_Cell) (qx1 : api_Cell) (r : Bool) : TV × Mem := (.b r, ⟨[], [(0, [.s qx1.Prop_.Name, .i qx1.Prop_.Value.Kind, .t qx1.Prop_.Value.Flag, .i qx1.Prop_.Value.Number, .s qx1.Prop_.Value.Words, .i qx1.Stamp.At, .s qx1.Stamp.By, .i qx1.Stamp.No]), (1, [.fn 118 []])]⟩)

theorem z1151 {qx : api_Cell} {qx1 : api_Cell} {r} (hF : z1149 qx qx1 = some r) : Holds prog 208 [.v (.agg [.s qx.Prop_.Name, .i qx.Prop_.Value.Kind, .t qx.Prop_.Value.Flag, .i qx.Prop_.Value.Number, .s qx.Prop_.Value.Words, .i qx.Stamp.At, .s qx.Stamp.By, .i qx.Stamp.No]), .c (.box 0 0), .c (.box 1 0)] ⟨[], [(0, [.s qx1.Prop_.Name, .i qx1.Prop_.Value.Kind, .t qx1.Prop_.Value.Flag, .i qx1.Prop_.Value.Number, .s qx1.Prop_.Value.Words, .i qx1.Stamp.At, .s qx1.Stamp.By, .i qx1.Stamp.No]), (1, [.fn 118 []])]⟩ (Is (z1150 qx qx1 r)) := by
  unfold z1149 at hF
  refine hW f208 13 2 2 ?_
  refine sR 2 (awp_seq (awp_to (st' := z1153 qx qx1) (oT [] []) ?_))
  refine bE hF fun vx1 h4 hF => awp_sub (z1155 qx qx1 h4) ?_
  exact awp_ret (oF hF [] [])

/-! ### slices.IndexFunc[[]beaconfleet/api.Cell,beaconfleet/api.Cell] -/
def z711 : Unit ⊕ Int → AEx
  | .inl _ => .exit 0
  | .inr _ => .ret

def z710 (qs : List api_Cell) (qf : api_Cell) : Unit ⊕ Int → St
  | .inl _ => Mem.st ⟨[], [(0, [.s qf.Prop_.Name, .i qf.Prop_.Value.Kind, .t qf.Prop_.Value.Flag, .i qf.Prop_.Value.Number, .s qf.Prop_.Value.Words, .i qf.Stamp.At, .s qf.Stamp.By, .i qf.Stamp.No]), (1, [.fn 118 []])]⟩ (tl []) 2
  | .inr vx1 => Mem.st ⟨[], [(0, [.s qf.Prop_.Name, .i qf.Prop_.Value.Kind, .t qf.Prop_.Value.Flag, .i qf.Prop_.Value.Number, .s qf.Prop_.Value.Words, .i qf.Stamp.At, .s qf.Stamp.By, .i qf.Stamp.No]), (1, [.fn 118 []])]⟩ (tl [(4, .i vx1)]) 2

def z709 (qs : List api_Cell) (qf : api_Cell) : Int → St
  | vx => Mem.st ⟨[], [(0, [.s qf.Prop_.Name, .i qf.Prop_.Value.Kind, .t qf.Prop_.Value.Flag, .i qf.Prop_.Value.Number, .s qf.Prop_.Value.Words, .i qf.Stamp.At, .s qf.Stamp.By, .i qf.Stamp.No]), (1, [.fn 118 []])]⟩ (tl [(0, .c (.l api_Cell.enc qs)), (1, .c (.fn 208 [0, 1])), (7, .i (qs.length : Int)), (8, .i vx)]) 2

theorem z712 (qs : List api_Cell) (qf : api_Cell) (vx : Int) (r : (Int) ⊕ (Unit ⊕ Int)) (hF : z708 qs qf vx = some r) : Awp prog 2 19 (cL (cL (cR (cL (cR (cB f224)))))) (Out 2 (kk z711) (SS (z709 qs qf) (z710 qs qf)) r) (z709 qs qf vx) := by
  unfold z708 at hF
  refine sR 1 (awp_seq (cE hF (fun h1 hF => ?_) fun h1 hF => ?_))
  · refine tT h1 (awp_skip (awp_seq (awp_block (sR 2 (awp_seq (bE hF fun vy1 h2 hF => bE hF fun vr1 h3 hF => awp_region (aR 3 (aX (x_idx api_Cell.enc h2) (aR 1 (aC (z1151 h3) [] [] [] (aE ?_)))))))))))
    refine cE hF (fun h4 hF => ?_) fun h4 hF => ?_
    · exact tT h4 (sR 2 (awp_ret (oO hF [] [] rfl)))
    · exact tF h4 (awp_skip (gR 2 (oO hF [] [] rfl)))
  · refine tF h1 (awp_exit ?_)
    exact oO hF [] [] rfl

def z706 (qs : List api_Cell) (qf : api_Cell) (r : Int) : TV × Mem := (.i r, ⟨[], [(0, [.s qf.Prop_.Name, .i qf.Prop_.Value.Kind, .t qf.Prop_.Value.Flag, .i qf.Prop_.Value.Number, .s qf.Prop_.Value.Words, .i qf.Stamp.At, .s qf.Stamp.By, .i qf.Stamp.No]), (1, [.fn 118 []])]⟩)

theorem z707 {qs : List api_Cell} {qf : api_Cell} {r} (hF : z705 qs qf = some r) : Holds prog 224 [.c (.l api_Cell.enc qs), .c (.fn 208 [0, 1])] ⟨[], [(0, [.s qf.Prop_.Name, .i qf.Prop_.Value.Kind, .t qf.Prop_.Value.Flag, .i qf.Prop_.Value.Number, .s qf.Prop_.Value.Words, .i qf.Stamp.At, .s qf.Stamp.By, .i qf.Stamp.No]), (1, [.fn 118 []])]⟩ (Is (z706 qs qf r)) := by
  unfold z705 at hF
  refine hW f224 19 2 2 ?_
  refine sR 1 (awp_seq (awp_seq (awp_region (aR 1 (aL api_Cell.enc qs (aR 1 (aE ?_)))))))
  refine awp_block (awp_to (st' := z709 qs qf 0) (oT [] []) ?_)
  refine bE hF fun x h5 hF => ?_
  rcases x with _ | vx1_1
  · refine awp_sub (awp_loop' (z709 qs qf) z711 (z710 qs qf) (by intro x; rcases x with x | x <;> exact fun h => nomatch h) h5 (z712 qs qf)) ?_
    exact sR 1 (awp_ret (oF hF [] []))
  · refine awp_sub (awp_loop' (z709 qs qf) z711 (z710 qs qf) (by intro x; rcases x with x | x <;> exact fun h => nomatch h) h5 (z712 qs qf)) ?_
    exact oF hF [] []

/-! ### slices.ContainsFunc[[]beaconfleet/api.Cell,beaconfleet/api.Cell] -/
def z644 (qs : List api_Cell) (qf : api_Cell) (r : Bool) : TV × Mem := (.b r, ⟨[], [(0, [.s qf.Prop_.Name, .i qf.Prop_.Value.Kind, .t qf.Prop_.Value.Flag, .i qf.Prop_.Value.Number, .s qf.Prop_.Value.Words, .i qf.Stamp.At, .s qf.Stamp.By, .i qf.Stamp.No]), (1, [.fn 118 []])]⟩)

theorem z645 {qs : List api_Cell} {qf : api_Cell} {r} (hF : z643 qs qf = some r) : Holds prog 140 [.c (.l api_Cell.enc qs), .c (.fn 208 [0, 1])] ⟨[], [(0, [.s qf.Prop_.Name, .i qf.Prop_.Value.Kind, .t qf.Prop_.Value.Flag, .i qf.Prop_.Value.Number, .s qf.Prop_.Value.Words, .i qf.Stamp.At, .s qf.Stamp.By, .i qf.Stamp.No]), (1, [.fn 118 []])]⟩ (Is (z644 qs qf r)) := by
  unfold z643 at hF
  refine hW f140 9 2 2 ?_
  refine sR 1 (awp_seq (bE hF fun vr2 h1 hF => awp_region (aR 2 (aC (z707 h1) [] [] [] (aR 2 (aE ?_))))))
  exact awp_ret (oF hF [] [])

/-! ### beaconfleet/twin.hidden -/
def z1157 (ql : List api_Cell) (qy : api_Cell) (r : Bool) : TV × Mem := (.b r, ⟨[], []⟩)

theorem z1158 {ql : List api_Cell} {qy : api_Cell} {r} (hF : z1156 ql qy = some r) : Holds prog 117 [.c (.l api_Cell.enc ql), .v (.agg [.s qy.Prop_.Name, .i qy.Prop_.Value.Kind, .t qy.Prop_.Value.Flag, .i qy.Prop_.Value.Number, .s qy.Prop_.Value.Words, .i qy.Stamp.At, .s qy.Stamp.By, .i qy.Stamp.No]), .c (.fn 118 [])] ⟨[], []⟩ (Is (z1157 ql qy r)) := by
  unfold z1156 at hF
  refine hW f117 10 0 0 ?_
  refine sR 3 (awp_seq (bE hF fun vr h1 hF => awp_region (aR 2 (aC (z645 h1) [(1, 1000)] [] [] (aR 1 (aE ?_))))))
  exact awp_ret (oF hF [] [])

/-! ### beaconfleet/twin.visible -/
def z1252 (ql : List api_Cell) (vout : List api_Prop) (vx : Int) (vy1 : api_Cell) : Bool → St
  | vx2 => Mem.st ⟨[(1, ⟨150, 5, List.map api_Prop.enc vout⟩)], [(0, [.s vy1.Prop_.Name, .i vy1.Prop_.Value.Kind, .t vy1.Prop_.Value.Flag, .i vy1.Prop_.Value.Number, .s vy1.Prop_.Value.Words, .i vy1.Stamp.At, .s vy1.Stamp.By, .i vy1.Stamp.No])]⟩ (tl [(0, .c (.l api_Cell.enc ql)), (3, .c (.own 1 none)), (5, .c (.box 0 0)), (6, .c (.l api_Cell.enc ql)), (7, .i (ql.length : Int)), (8, .i vx), (22, .b vx2)]) 2

def z1251 (ql : List api_Cell) (vout : List api_Prop) (vx : Int) (vy1 : api_Cell) : St := Mem.st ⟨[(1, ⟨150, 5, List.map api_Prop.enc vout⟩)], [(0, [.s vy1.Prop_.Name, .i vy1.Prop_.Value.Kind, .t vy1.Prop_.Value.Flag, .i vy1.Prop_.Value.Number, .s vy1.Prop_.Value.Words, .i vy1.Stamp.At, .s vy1.Stamp.By, .i vy1.Stamp.No])]⟩ (tl [(0, .c (.l api_Cell.enc ql)), (3, .c (.own 1 none)), (5, .c (.box 0 0)), (6, .c (.l api_Cell.enc ql)), (7, .i (ql.length : Int)), (8, .i vx)]) 2

theorem z1253 (ql : List api_Cell) (vout : List api_Prop) (vx : Int) (vy1 : api_Cell) {r} (hF : z1250 ql vy1 = some r) : Awp prog 0 30 (cL (cR (cL (cL (cR (cR (cL (cL (cR (cL (cR (cR (cB f116))))))))))))) (Out 0 nrm (z1252 ql vout vx vy1) r) (z1251 ql vout vx vy1) := by
  unfold z1250 at hF
  refine cE hF (fun h3 hF => ?_) fun h3 hF => ?_
  · refine bE hF fun vr1_1 h4 hF => awp_region (aR 4 (aB h3 (aR 3 (aC (z1158 h4) [] [] [] (aR 2 (aE ?_))))))
    exact oO hF [] [] rfl
  · refine awp_region (aR 4 (aB h3 (aR 6 (aE ?_))))
    exact oO hF [] [] rfl

def z1248 (ql : List api_Cell) (vout : List api_Prop) (vx : Int) : (List api_Prop) → St
  | vout2 => Mem.st ⟨[(0, ⟨150, 5, List.map api_Prop.enc vout2⟩)], []⟩ (tl [(0, .c (.l api_Cell.enc ql)), (3, .c (.own 0 none)), (6, .c (.l api_Cell.enc ql)), (7, .i (ql.length : Int)), (8, .i vx)]) 1

def z1247 (ql : List api_Cell) (vout : List api_Prop) (vx : Int) : St := Mem.st ⟨[(0, ⟨150, 5, List.map api_Prop.enc vout⟩)], []⟩ (tl [(0, .c (.l api_Cell.enc ql)), (3, .c (.own 0 none)), (6, .c (.l api_Cell.enc ql)), (7, .i (ql.length : Int)), (8, .i vx)]) 1

theorem z1249 (ql : List api_Cell) (vout : List api_Prop) (vx : Int) {r} (hF : z1246 ql vout vx = some r) : Awp prog 0 30 (cL (cR (cR (cL (cL (cR (cL (cR (cR (cB f116)))))))))) (Out 0 nrm (z1248 ql vout vx) r) (z1247 ql vout vx) := by
  unfold z1246 at hF
  refine awp_block (awp_seq (bE hF fun vy1 h2 hF => awp_region (aX (x_idx api_Cell.enc h2) (aR 3 (aE ?_)))))
  refine awp_seq (awp_to (st' := z1251 ql vout vx vy1) (oT [(0, 2001), (1, 0)] []) ?_)
  refine bE hF fun vx2_1 h5 hF => awp_sub (z1253 ql vout vx vy1 h5) ?_
  refine cE hF (fun h6 hF => ?_) fun h6 hF => ?_
  · refine tT h6 (gE hF fun h7 hF => ?_)
    refine awp_region (aR 4 (aX (x_app api_Prop.enc 1 h7) (aR 1 (aE ?_))))
    exact oO hF [(0, 4002)] [] rfl
  · exact tF h6 (awp_skip (oO hF [(0, 1)] [] rfl))

def z1244 : (List api_Prop) → AEx
  | _ => .exit 0

def z1243 (ql : List api_Cell) : (List api_Prop) → St
  | vout3 => Mem.st ⟨[(0, ⟨150, 5, List.map api_Prop.enc vout3⟩)], []⟩ (tl [(3, .c (.own 0 none))]) 1

def z1242 (ql : List api_Cell) : (List api_Prop) × Int → St
  | (vout, vx) => Mem.st ⟨[(0, ⟨150, 5, List.map api_Prop.enc vout⟩)], []⟩ (tl [(0, .c (.l api_Cell.enc ql)), (3, .c (.own 0 none)), (6, .c (.l api_Cell.enc ql)), (7, .i (ql.length : Int)), (8, .i vx)]) 1

theorem z1245 (ql : List api_Cell) (s : (List api_Prop) × Int) (r : ((List api_Prop) × Int) ⊕ ((List api_Prop))) (hF : z1241 ql s = some r) : Awp prog 0 30 (cL (cL (cR (cL (cR (cR (cB f116))))))) (Out 0 (kk z1244) (SS (z1242 ql) (z1243 ql)) r) (z1242 ql s) := by
  obtain ⟨vout, vx⟩ := s
  unfold z1241 at hF
  refine sR 1 (awp_seq (cE hF (fun h1 hF => ?_) fun h1 hF => ?_))
  · refine tT h1 (awp_skip (awp_seq (awp_to (st' := z1247 ql vout vx) (oT [] []) ?_)))
    refine bE hF fun vout2_1 h8 hF => awp_sub (z1249 ql vout vx h8) ?_
    exact gR 2 (oO hF [] [] rfl)
  · refine tF h1 (awp_exit ?_)
    exact oO hF [] [] rfl

def z1239 (ql : List api_Cell) (r : (List api_Prop)) : TV × Mem := (.c (.own 0 none), ⟨[(0, ⟨150, 5, List.map api_Prop.enc r⟩)], []⟩)

theorem z1240 {ql : List api_Cell} {r} (hF : z1238 ql = some r) : Holds prog 116 [.c (.l api_Cell.enc ql)] ⟨[], []⟩ (Is (z1239 ql r)) := by
  unfold z1238 at hF
  refine hW f116 30 0 0 ?_
  refine sR 1 (sR 1 (awp_seq (awp_seq (awp_region (aR 1 (aL api_Cell.enc ql (aR 1 (aE ?_))))))))
  refine awp_block (awp_to (st' := z1242 ql ([], 0)) (oT [] [0]) ?_)
  refine bE hF fun vout3_1 h9 hF => awp_sub (awp_loop' (z1242 ql) z1244 (z1243 ql) (by intro x; exact fun h => nomatch h) h9 (z1245 ql)) ?_
  exact sR 2 (awp_ret (oF hF [] []))

/-! ### cmp.isNaN[string] -/
def z120 (qx : List UInt8) (r : Unit) : TV × Mem := (.b (!decide (qx = qx)), ⟨[], []⟩)

theorem z121 {qx : List UInt8} {r} (hF : z118 qx = some r) : Holds prog 336 [.c (.s qx)] ⟨[], []⟩ (Is (z120 qx r)) := by
  unfold z118 at hF
  refine hW f336 6 0 0 ?_
  exact sR 1 (sR 4 (awp_ret (oF hF [] [])))

/-! ### cmp.Less[string] -/
def z104 (qx : List UInt8) (qy : List UInt8) : Bool → St
  | vx => Mem.st ⟨[], []⟩ (tl [(4, .b vx)]) 0

def z103 (qx : List UInt8) (qy : List UInt8) : St := Mem.st ⟨[], []⟩ (tl [(0, .c (.s qx)), (1, .c (.s qy))]) 0

theorem z105 (qx : List UInt8) (qy : List UInt8) {r} (hF : z102 qx qy = some r) : Awp prog 0 17 (cL (cR (cB f303))) (Out 0 nrm (z104 qx qy) r) (z103 qx qy) := by
  unfold z102 at hF
  refine bE hF fun _ h1 hF => cE hF (fun h2 hF => ?_) fun h2 hF => ?_
  · refine bE hF fun _ h3 hF => cE hF (fun h4 hF => ?_) fun h4 hF => ?_
    · refine awp_region (aR 1 (aCb (z121 h1) [] [] [] h2 ?_))
      refine aR 2 (aC (z121 h3) [] [] [] (aB h4 (aR 7 (aE ?_))))
      exact oO hF [] [] rfl
    · refine awp_region (aR 1 (aCb (z121 h1) [] [] [] h2 ?_))
      refine aR 2 (aC (z121 h3) [] [] [] (aB h4 (aR 7 (aE ?_))))
      exact oO hF [] [] rfl
  · refine awp_region (aR 1 (aCb (z121 h1) [] [] [] h2 ?_))
    refine aR 11 (aE ?_)
    exact oO hF [] [] rfl

def z100 (qx : List UInt8) (qy : List UInt8) (r : Bool) : TV × Mem := (.b r, ⟨[], []⟩)

theorem z101 {qx : List UInt8} {qy : List UInt8} {r} (hF : z99 qx qy = some r) : Holds prog 303 [.c (.s qx), .c (.s qy)] ⟨[], []⟩ (Is (z100 qx qy r)) := by
  unfold z99 at hF
  refine hW f303 17 0 0 ?_
  refine sR 1 (awp_seq (awp_to (st' := z103 qx qy) (oT [] []) ?_))
  refine bE hF fun vx1 h5 hF => awp_sub (z105 qx qy h5) ?_
  exact awp_ret (oF hF [] [])

/-! ### slices.insertionSortOrdered[string] -/
def z843 (qa : Int) (qb : Int) (vi : Int) (vl3 : List (List UInt8)) (vj1 : Int) : Bool → St
  | vx4 => Mem.st ⟨[(0, ⟨9, 1, List.map encS vl3⟩)], []⟩ (tl [(0, .c (.own 0 none)), (1, .i qa), (2, .i qb), (6, .i vi), (7, .i vj1), (30, .b vx4)]) 1

def z842 (qa : Int) (qb : Int) (vi : Int) (vl3 : List (List UInt8)) (vj1 : Int) : St := Mem.st ⟨[(0, ⟨9, 1, List.map encS vl3⟩)], []⟩ (tl [(0, .c (.own 0 none)), (1, .i qa), (2, .i qb), (6, .i vi), (7, .i vj1)]) 1

theorem z844 (qa : Int) (qb : Int) (vi : Int) (vl3 : List (List UInt8)) (vj1 : Int) {r} (hF : z841 qa vl3 vj1 = some r) : Awp prog 1 49 (cL (cL (cL (cL (cR (cL (cL (cR (cL (cL (cR (cB f297)))))))))))) (Out 1 nrm (z843 qa qb vi vl3 vj1) r) (z842 qa qb vi vl3 vj1) := by
  unfold z841 at hF
  refine cE hF (fun h2 hF => ?_) fun h2 hF => ?_
  · refine bE hF fun vy15 h3 hF => bE hF fun vy16 h4 hF => bE hF fun vr3 h5 hF => aD ?_
    refine dR 2 ?_
    refine dB h2 ?_
    refine dR 3 ?_
    refine dX (x_idxO encS 0 h3) ?_
    refine dX (x_ldE encS h3) ?_
    refine dR 3 ?_
    refine dX (x_idxO encS 0 h4) ?_
    refine dX (x_ldE encS h4) ?_
    refine dC (z101 h5) [] [] [] ?_
    refine dR 1 ?_
    refine dE ?_
    exact oO hF [] [] rfl
  · refine aD ?_
    refine dR 2 ?_
    refine dB h2 ?_
    refine dR 12 ?_
    refine dE ?_
    exact oO hF [] [] rfl

def z839 : (List (List UInt8)) → AEx
  | _ => .exit 2

def z838 (qa : Int) (qb : Int) (vi : Int) : (List (List UInt8)) → St
  | vl4 => Mem.st ⟨[(0, ⟨9, 1, List.map encS vl4⟩)], []⟩ (tl [(0, .c (.own 0 none)), (1, .i qa), (2, .i qb), (6, .i vi)]) 1

def z837 (qa : Int) (qb : Int) (vi : Int) : (List (List UInt8)) × Int → St
  | (vl3, vj1) => Mem.st ⟨[(0, ⟨9, 1, List.map encS vl3⟩)], []⟩ (tl [(0, .c (.own 0 none)), (1, .i qa), (2, .i qb), (6, .i vi), (7, .i vj1)]) 1

theorem z840 (qa : Int) (qb : Int) (vi : Int) (s : (List (List UInt8)) × Int) (r : ((List (List UInt8)) × Int) ⊕ ((List (List UInt8)))) (hF : z836 qa s = some r) : Awp prog 1 49 (cL (cL (cR (cL (cL (cR (cL (cL (cR (cB f297)))))))))) (Out 1 (kk z839) (SS (z837 qa qb vi) (z838 qa qb vi)) r) (z837 qa qb vi s) := by
  obtain ⟨vl3, vj1⟩ := s
  unfold z836 at hF
  refine awp_seq (awp_seq (awp_to (st' := z842 qa qb vi vl3 vj1) (oT [] []) ?_))
  refine bE hF fun vx4_1 h6 hF => awp_sub (z844 qa qb vi vl3 vj1 h6) ?_
  refine cE hF (fun h7 hF => ?_) fun h7 hF => ?_
  · refine tT h7 (awp_skip (awp_seq (awp_block (bE hF fun vy17 h8 hF => bE hF fun vy18 h9 hF => bE hF fun vy19 h10 hF => aDw [0] ?_))))
    refine dR 8 ?_
    refine dI encS 0 h8 rfl ?_
    refine dX (x_ldE encS h8) ?_
    refine dR 2 ?_
    refine dI encS 0 h9 rfl ?_
    refine dX (x_ldE encS h9) ?_
    refine dI encS 0 h9 rfl ?_
    refine dW encS vy17 h9 rfl ?_
    refine dI encS 0 h10 rfl ?_
    refine dW encS vy18 h10 rfl ?_
    refine dE ?_
    exact gR 3 (oO hF [] [] rfl)
  · refine tF h7 (awp_exit ?_)
    exact oO hF [] [] rfl

def z834 : (List (List UInt8)) → AEx
  | _ => .exit 0

def z833 (qa : Int) (qb : Int) : (List (List UInt8)) → St
  | vl5 => Mem.st ⟨[(0, ⟨9, 1, List.map encS vl5⟩)], []⟩ (tl []) 1

def z832 (qa : Int) (qb : Int) : (List (List UInt8)) × Int → St
  | (vl, vi) => Mem.st ⟨[(0, ⟨9, 1, List.map encS vl⟩)], []⟩ (tl [(0, .c (.own 0 none)), (1, .i qa), (2, .i qb), (6, .i vi)]) 1

theorem z835 (qa : Int) (qb : Int) (s : (List (List UInt8)) × Int) (r : ((List (List UInt8)) × Int) ⊕ ((List (List UInt8)))) (hF : z831 qa qb s = some r) : Awp prog 1 49 (cL (cL (cR (cB f297)))) (Out 1 (kk z834) (SS (z832 qa qb) (z833 qa qb)) r) (z832 qa qb s) := by
  obtain ⟨vl, vi⟩ := s
  unfold z831 at hF
  refine awp_seq (sR 3 (cE hF (fun h1 hF => ?_) fun h1 hF => ?_))
  · refine tT h1 (awp_skip (awp_seq (awp_block (sR 2 (awp_block (awp_to (st' := z837 qa qb vi (vl, vi)) (oT [] []) ?_))))))
    refine bE hF fun vl4_1 h11 hF => awp_sub (awp_loop' (z837 qa qb vi) z839 (z838 qa qb vi) (by intro x; exact fun h => nomatch h) h11 (z840 qa qb vi)) ?_
    exact gR 3 (oO hF [] [] rfl)
  · refine tF h1 (awp_exit ?_)
    exact oO hF [] [] rfl

def z829 (qdata : List (List UInt8)) (qa : Int) (qb : Int) (r : (List (List UInt8))) : TV × Mem := (.tup [], ⟨[(0, ⟨9, 1, List.map encS r⟩)], []⟩)

theorem z830 {qdata : List (List UInt8)} {qa : Int} {qb : Int} {r} (hF : z828 qdata qa qb = some r) : Holds prog 297 [.c (.own 0 none), .i qa, .i qb] ⟨[(0, ⟨9, 1, List.map encS qdata⟩)], []⟩ (Is (z829 qdata qa qb r)) := by
  unfold z828 at hF
  refine hW f297 49 1 1 ?_
  refine sR 3 (awp_block (awp_to (st' := z832 qa qb (qdata, IntKind.wrap .i64 (qa + 1))) (oT [] []) ?_))
  refine bE hF fun vl5_1 h12 hF => awp_sub (awp_loop' (z832 qa qb) z834 (z833 qa qb) (by intro x; exact fun h => nomatch h) h12 (z835 qa qb)) ?_
  exact oF hF [] []

/-! ### slices.pdqsortOrdered[string] -/
def z867 : (List (List UInt8)) → AEx
  | _ => .ret

def z866 (qx : List (List UInt8)) (qx1 : Int) (qx2 : Int) (qx3 : Int) : (List (List UInt8)) → St
  | vl => Mem.st ⟨[(0, ⟨9, 1, List.map encS vl⟩)], []⟩ (tl []) 1

def z865 (qx : List (List UInt8)) (qx1 : Int) (qx2 : Int) (qx3 : Int) : Unit → St
  | _ => Mem.st ⟨[(0, ⟨9, 1, List.map encS qx⟩)], []⟩ (tl [(0, .c (.own 0 none)), (1, .i qx1), (2, .i qx2), (3, .i qx3), (8, .b true), (9, .b true)]) 1

theorem z868 (qx : List (List UInt8)) (qx1 : Int) (qx2 : Int) (qx3 : Int) (s : Unit) (r : (Unit) ⊕ ((List (List UInt8)))) (hF : z864 qx qx1 qx2 qx3 s = some r) : Awp prog 1 134 (cL (cL (cR (cR (cB f268))))) (Out 1 (kk z867) (SS (z865 qx qx1 qx2 qx3) (z866 qx qx1 qx2 qx3)) r) (z865 qx qx1 qx2 qx3 s) := by
  unfold z864 at hF
  refine awp_block (sR 4 (awp_seq (sR 2 (cE hF (fun h1 hF => ?_) fun h1 hF => ?_))))
  · refine tT h1 (awp_seq (bE hF fun vl6_1 h2 hF => gE hF fun h3 hF => ?_))
    refine awp_region (aR 3 (aCp (z830 h2) ⟨⟨rfl, rfl, pin1 h3⟩, trivial⟩ [] [] [] ?_))
    refine aE ?_
    exact awp_ret (oO hF [] [] rfl)
  · refine tF h1 (awp_skip (awp_seq (sR 2 (cE hF (fun h4 hF => ?_) fun h4 hF => ?_))))
    · exact tT h4 (awp_seq (nE hF))
    · exact tF h4 (awp_skip (awp_seq (sR 2 (tF rfl (awp_skip (awp_seq (nE hF)))))))

def z862 (qx : List (List UInt8)) (qx1 : Int) (qx2 : Int) (qx3 : Int) (r : (List (List UInt8))) : TV × Mem := (.tup [], ⟨[(0, ⟨9, 1, List.map encS r⟩)], []⟩)

theorem z863 {qx : List (List UInt8)} {qx1 : Int} {qx2 : Int} {qx3 : Int} {r} (hF : z861 qx qx1 qx2 qx3 = some r) : Holds prog 268 [.c (.own 0 none), .i qx1, .i qx2, .i qx3] ⟨[(0, ⟨9, 1, List.map encS qx⟩)], []⟩ (Is (z862 qx qx1 qx2 qx3 r)) := by
  unfold z861 at hF
  refine hW f268 134 1 1 ?_
  refine sR 1 (sR 1 (awp_block (awp_to (st' := z865 qx qx1 qx2 qx3 ()) (oT [] []) ?_)))
  refine bE hF fun vl1 h7 hF => awp_sub (awp_loop' (z865 qx qx1 qx2 qx3) z867 (z866 qx qx1 qx2 qx3) (by intro x; exact fun h => nomatch h) h7 (z868 qx qx1 qx2 qx3)) ?_
  exact oF hF [] []

/-! ### slices.Sort[[]string,string] -/
def z758 (qx : List (List UInt8)) (r : (List (List UInt8))) : TV × Mem := (.tup [], ⟨[(0, ⟨9, 1, List.map encS r⟩)], []⟩)

theorem z759 {qx : List (List UInt8)} {r} (hF : z757 qx = some r) : Holds prog 210 [.c (.own 0 none)] ⟨[(0, ⟨9, 1, List.map encS qx⟩)], []⟩ (Is (z758 qx r)) := by
  unfold z757 at hF
  refine hW f210 11 1 1 ?_
  refine awp_seq (awp_region (aR 1 (aL encS qx (aR 1 (aE ?_)))))
  refine bE hF fun vr1 h1 hF => bE hF fun vl2 h2 hF => gE hF fun h3 hF => ?_
  refine awp_region (aR 4 (aC (z92 h1) [] [] [] (aCp (z863 h2) ⟨⟨rfl, rfl, pin1 h3⟩, trivial⟩ [] [] [] ?_)))
  refine aE ?_
  exact oF hF [] []

/-! ### slices.Compact[[]string,string] -/
def z619 (qs : List (List UInt8)) (vk : Int) (vl4 : List (List UInt8)) (vk6 : Int) (vk2_1 : Int) : ((List (List UInt8)) × Int) → St
  | (vl6, vk8) => Mem.st ⟨[(0, ⟨9, 1, List.map encS vl6⟩)], []⟩ (tl [(0, .c (.own 0 none)), (3, .i vk8), (4, .c (.view 0 vk.toNat ((qs.length : Int).toNat - vk.toNat))), (5, .i vk2_1)]) 1

def z618 (qs : List (List UInt8)) (vk : Int) (vl4 : List (List UInt8)) (vk6 : Int) (vk2_1 : Int) : St := Mem.st ⟨[(0, ⟨9, 1, List.map encS vl4⟩)], []⟩ (tl [(0, .c (.own 0 none)), (3, .i vk6), (4, .c (.view 0 vk.toNat ((qs.length : Int).toNat - vk.toNat))), (5, .i vk2_1)]) 1

theorem z620 (qs : List (List UInt8)) (vk : Int) (vl4 : List (List UInt8)) (vk6 : Int) (vk2_1 : Int) {r} (hF : z617 qs vk vl4 vk6 vk2_1 = some r) : Awp prog 1 61 (cL (cR (cL (cL (cR (cL (cR (cL (cR (cL (cL (cR (cL (cL (cR (cL (cR (cR (cB f211))))))))))))))))))) (Out 1 nrm (z619 qs vk vl4 vk6 vk2_1) r) (z618 qs vk vl4 vk6 vk2_1) := by
  unfold z617 at hF
  refine awp_block (awp_seq (gE hF fun h8 hF => ?_))
  refine bE hF fun vy13 h9 hF => gE hF fun h10 hF => ?_
  refine bE hF fun vy14 h11 hF => aD ?_
  refine dR 2 ?_
  refine dX (x_idxV encS 0 h8 h9) ?_
  refine dX (x_ldE encS h9) ?_
  refine dR 3 ?_
  refine dX (x_idxV encS 0 h10 h11) ?_
  refine dX (x_ldE encS h11) ?_
  refine dR 1 ?_
  refine dE ?_
  refine cE hF (fun h12 hF => ?_) fun h12 hF => ?_
  · refine tT h12 (awp_seq (bE hF fun vy15 h13 hF => awp_region (aR 4 (aX (x_idxV encS 0 h8 h9) (aX (x_ldE encS h9) (aX (x_idxO encS 0 h13) (aX (x_stE encS vy13 h13) (aE ?_))))))))
    exact gR 3 (oO hF [] [] rfl)
  · exact tF h12 (awp_skip (oO hF [] [] rfl))

def z615 : ((List (List UInt8)) × Int) → AEx
  | _ => .exit 2

def z614 (qs : List (List UInt8)) (vk : Int) : ((List (List UInt8)) × Int) → St
  | (vl7, vk9) => Mem.st ⟨[(0, ⟨9, 1, List.map encS vl7⟩)], []⟩ (tl [(0, .c (.own 0 none)), (3, .i vk9)]) 1

def z613 (qs : List (List UInt8)) (vk : Int) : (List (List UInt8)) × Int × Int → St
  | (vl4, vk6, vk2_1) => Mem.st ⟨[(0, ⟨9, 1, List.map encS vl4⟩)], []⟩ (tl [(0, .c (.own 0 none)), (3, .i vk6), (4, .c (.view 0 vk.toNat ((qs.length : Int).toNat - vk.toNat))), (5, .i vk2_1)]) 1

theorem z616 (qs : List (List UInt8)) (vk : Int) (s : (List (List UInt8)) × Int × Int) (r : ((List (List UInt8)) × Int × Int) ⊕ (((List (List UInt8)) × Int))) (hF : z612 qs vk s = some r) : Awp prog 1 61 (cL (cL (cR (cL (cR (cL (cR (cL (cL (cR (cL (cL (cR (cL (cR (cR (cB f211))))))))))))))))) (Out 1 (kk z615) (SS (z613 qs vk) (z614 qs vk)) r) (z613 qs vk s) := by
  obtain ⟨vl4, vk6, vk2_1⟩ := s
  unfold z612 at hF
  refine awp_seq (sR 4 (cE hF (fun h7 hF => ?_) fun h7 hF => ?_))
  · refine tT h7 (awp_skip (awp_seq (awp_to (st' := z618 qs vk vl4 vk6 vk2_1) (oT [] []) ?_)))
    refine bE hF fun x h14 hF => ?_
    obtain ⟨vl6_1, vk8_1⟩ := x
    refine awp_sub (z620 qs vk vl4 vk6 vk2_1 h14) ?_
    exact gR 3 (oO hF [] [] rfl)
  · refine tF h7 (awp_exit ?_)
    exact oO hF [] [] rfl

def z610 : Unit ⊕ (List (List UInt8)) → AEx
  | .inl _ => .exit 0
  | .inr _ => .ret

def z609 (qs : List (List UInt8)) : Unit ⊕ (List (List UInt8)) → St
  | .inl _ => Mem.st ⟨[(0, ⟨9, 1, List.map encS qs⟩)], []⟩ (tl [(0, .c (.own 0 none))]) 1
  | .inr vx => Mem.st ⟨[(1, ⟨9, 1, List.map encS vx⟩)], []⟩ (tl [(2, .c (.own 1 none))]) 2

def z608 (qs : List (List UInt8)) : Int → St
  | vk => Mem.st ⟨[(0, ⟨9, 1, List.map encS qs⟩)], []⟩ (tl [(0, .c (.own 0 none)), (3, .i vk)]) 1

theorem z611 (qs : List (List UInt8)) (vk : Int) (r : (Int) ⊕ (Unit ⊕ (List (List UInt8)))) (hF : z607 qs vk = some r) : Awp prog 1 61 (cL (cL (cR (cL (cR (cR (cB f211))))))) (Out 1 (kk z610) (SS (z608 qs) (z609 qs)) r) (z608 qs vk) := by
  unfold z607 at hF
  refine awp_seq (awp_seq (awp_region (aR 2 (aL encS qs (aR 1 (aE ?_))))))
  refine cE hF (fun h2 hF => ?_) fun h2 hF => ?_
  · refine tT h2 (awp_skip (awp_seq (awp_block (awp_seq (bE hF fun vy8 h3 hF => bE hF fun vy9 h4 hF => aD ?_)))))
    refine dR 2 ?_
    refine dX (x_idxO encS 0 h3) ?_
    refine dX (x_ldE encS h3) ?_
    refine dR 3 ?_
    refine dX (x_idxO encS 0 h4) ?_
    refine dX (x_ldE encS h4) ?_
    refine dR 1 ?_
    refine dE ?_
    refine cE hF (fun h5 hF => ?_) fun h5 hF => ?_
    · refine tT h5 (awp_seq (gE hF fun h6 hF => ?_))
      refine awp_region (aR 2 (aX (x_viewN encS 0 h6) (aR 1 (aE ?_))))
      refine awp_seq (sR 1 (awp_block (awp_to (st' := z613 qs vk (qs, vk, 1)) (oT [] []) ?_)))
      refine bE hF fun x h15 hF => ?_
      obtain ⟨vl7_1, vk9_1⟩ := x
      refine awp_sub (awp_loop' (z613 qs vk) z615 (z614 qs vk) (by intro x; exact fun h => nomatch h) h15 (z616 qs vk)) ?_
      refine awp_seq (gE hF fun h16 hF => ?_)
      refine awp_region (aR 2 (aX (x_viewN encS 0 h16) (aCl encS 0 (xs := vl7_1) (y := ([] : List UInt8)) (lo := vk9_1) (hi := (vl7_1.length : Int)) rfl ?_)))
      refine aE ?_
      refine awp_seq (gE hF fun h17 hF => ?_)
      refine awp_region (aR 2 (aT encS 0 h17 rfl ?_))
      refine aR 1 (aE ?_)
      exact awp_ret (oO hF [(1, 6001)] [] rfl)
    · exact tF h5 (awp_skip (gR 3 (oO hF [] [] rfl)))
  · refine tF h2 (awp_exit ?_)
    exact oO hF [] [] rfl

def z605 (qs : List (List UInt8)) (r : (List (List UInt8))) : TV × Mem := (.c (.own 1 none), ⟨[(1, ⟨9, 1, List.map encS r⟩)], []⟩)

theorem z606 {qs : List (List UInt8)} {r} (hF : z604 qs = some r) : Holds prog 211 [.c (.own 0 none)] ⟨[(0, ⟨9, 1, List.map encS qs⟩)], []⟩ (Is (z605 qs r)) := by
  unfold z604 at hF
  refine hW f211 61 1 1 ?_
  refine sR 1 (awp_seq (awp_seq (awp_region (aR 1 (aL encS qs (aR 1 (aE ?_)))))))
  refine cE hF (fun h1 hF => ?_) fun h1 hF => ?_
  · exact tT h1 (sR 2 (awp_ret (oF hF [(1, 0)] [])))
  · refine tF h1 (awp_skip (awp_seq (sR 1 (awp_block (awp_to (st' := z608 qs 1) (oT [] []) ?_)))))
    refine bE hF fun x h18 hF => ?_
    rcases x with _ | vx1
    · refine awp_sub (awp_loop' (z608 qs) z610 (z609 qs) (by intro x; rcases x with x | x <;> exact fun h => nomatch h) h18 (z611 qs)) ?_
      exact sR 2 (awp_ret (oF hF [(1, 0)] []))
    · refine awp_sub (awp_loop' (z608 qs) z610 (z609 qs) (by intro x; rcases x with x | x <;> exact fun h => nomatch h) h18 (z611 qs)) ?_
      exact oF hF [] []

/-! ### beaconfleet/twin.names -/
def z1216 : (List (List UInt8)) → AEx
  | _ => .exit 2

def z1215 (qlists : List (List api_Prop)) (vx : Int) (vy3 : List api_Prop) : (List (List UInt8)) → St
  | vout4 => Mem.st ⟨[(1, ⟨9, 1, List.map encS vout4⟩)], []⟩ (tl [(3, .c (.own 1 none)), (8, .c (.l (encL api_Prop.enc) qlists)), (9, .i (qlists.length : Int)), (10, .i vx)]) 2

def z1214 (qlists : List (List api_Prop)) (vx : Int) (vy3 : List api_Prop) : (List (List UInt8)) × Int → St
  | (vout3, vx2) => Mem.st ⟨[(1, ⟨9, 1, List.map encS vout3⟩)], []⟩ (tl [(3, .c (.own 1 none)), (8, .c (.l (encL api_Prop.enc) qlists)), (9, .i (qlists.length : Int)), (10, .i vx), (14, .c (.l api_Prop.enc vy3)), (15, .i (vy3.length : Int)), (16, .i vx2)]) 2

theorem z1217 (qlists : List (List api_Prop)) (vx : Int) (vy3 : List api_Prop) (s : (List (List UInt8)) × Int) (r : ((List (List UInt8)) × Int) ⊕ ((List (List UInt8)))) (hF : z1213 vy3 s = some r) : Awp prog 1 31 (cL (cL (cR (cR (cL (cL (cR (cR (cL (cL (cR (cL (cR (cR (cB f119))))))))))))))) (Out 1 (kk z1216) (SS (z1214 qlists vx vy3) (z1215 qlists vx vy3)) r) (z1214 qlists vx vy3 s) := by
  obtain ⟨vout3, vx2⟩ := s
  unfold z1213 at hF
  refine sR 1 (awp_seq (cE hF (fun h3 hF => ?_) fun h3 hF => ?_))
  · refine tT h3 (awp_skip (awp_seq (awp_block (awp_seq (bE hF fun vy5 h4 hF => awp_region (aX (x_idx api_Prop.enc h4) (aR 3 (aE ?_))))))))
    refine gE hF fun h5 hF => ?_
    refine awp_region (aR 4 (aX (x_app encS 1 h5) (aR 1 (aE ?_))))
    exact gR 2 (oO hF [(1, 9002)] [] rfl)
  · refine tF h3 (awp_exit ?_)
    exact oO hF [] [] rfl

def z1211 : (List (List UInt8)) → AEx
  | _ => .exit 0

def z1210 (qlists : List (List api_Prop)) : (List (List UInt8)) → St
  | vout5 => Mem.st ⟨[(1, ⟨9, 1, List.map encS vout5⟩)], []⟩ (tl [(3, .c (.own 1 none))]) 2

def z1209 (qlists : List (List api_Prop)) : (List (List UInt8)) × Int → St
  | (vout, vx) => Mem.st ⟨[(1, ⟨9, 1, List.map encS vout⟩)], []⟩ (tl [(3, .c (.own 1 none)), (8, .c (.l (encL api_Prop.enc) qlists)), (9, .i (qlists.length : Int)), (10, .i vx)]) 2

theorem z1212 (qlists : List (List api_Prop)) (s : (List (List UInt8)) × Int) (r : ((List (List UInt8)) × Int) ⊕ ((List (List UInt8)))) (hF : z1208 qlists s = some r) : Awp prog 1 31 (cL (cL (cR (cL (cR (cR (cB f119))))))) (Out 1 (kk z1211) (SS (z1209 qlists) (z1210 qlists)) r) (z1209 qlists s) := by
  obtain ⟨vout, vx⟩ := s
  unfold z1208 at hF
  refine sR 1 (awp_seq (cE hF (fun h1 hF => ?_) fun h1 hF => ?_))
  · refine tT h1 (awp_skip (awp_seq (awp_block (awp_seq (bE hF fun vy3 h2 hF => awp_region (aX (x_idx (encL api_Prop.enc) h2) (aR 2 (aE ?_))))))))
    refine awp_seq (awp_region (aR 1 (aL api_Prop.enc vy3 (aR 1 (aE ?_)))))
    refine awp_block (awp_to (st' := z1214 qlists vx vy3 (vout, 0)) (oT [] []) ?_)
    refine bE hF fun vout4_1 h6 hF => awp_sub (awp_loop' (z1214 qlists vx vy3) z1216 (z1215 qlists vx vy3) (by intro x; exact fun h => nomatch h) h6 (z1217 qlists vx vy3)) ?_
    exact gR 2 (oO hF [] [] rfl)
  · refine tF h1 (awp_exit ?_)
    exact oO hF [] [] rfl

def z1206 (qlists : List (List api_Prop)) (r : (List (List UInt8))) : TV × Mem := (.c (.own 1 none), ⟨[(1, ⟨9, 1, List.map encS r⟩)], []⟩)

theorem z1207 {qlists : List (List api_Prop)} {r} (hF : z1205 qlists = some r) : Holds prog 119 [.c (.own 0 none)] ⟨[(0, ⟨147, 1, List.map (encL api_Prop.enc) qlists⟩)], []⟩ (Is (z1206 qlists r)) := by
  unfold z1205 at hF
  refine hW f119 31 1 1 ?_
  refine sR 1 (awp_to (oT (m := ⟨[], []⟩) (ts := [(0, .c (.l (encL api_Prop.enc) qlists))]) (nx := 1) [] []) ?_)
  refine sR 1 (awp_seq (awp_seq (awp_region (aR 1 (aL (encL api_Prop.enc) qlists (aR 1 (aE ?_)))))))
  refine awp_block (awp_to (st' := z1209 qlists ([], 0)) (oT [] [1]) ?_)
  refine bE hF fun vout5_1 h7 hF => awp_sub (awp_loop' (z1209 qlists) z1211 (z1210 qlists) (by intro x; exact fun h => nomatch h) h7 (z1212 qlists)) ?_
  refine awp_seq (bE hF fun vl h8 hF => gE hF fun h9 hF => ?_)
  refine awp_region (aR 1 (aCp (z759 h8) ⟨⟨rfl, rfl, pin1 h9⟩, trivial⟩ [(0, 1)] [] [] ?_))
  refine aE ?_
  refine awp_seq (bE hF fun vr h10 hF => awp_region (aR 1 (aC (z606 h10) [(0, 1)] [] [] (aR 1 (aE ?_)))))
  exact awp_ret (oF hF [(1, 3003)] [])

/-! ### beaconfleet/twin.find$1 -/
def z1142 (qp : api_Prop) (qname : List UInt8) (r : Unit) : TV × Mem := (.i (Lib.compareBytes qp.Name qname), ⟨[], []⟩)

theorem z1143 {qp : api_Prop} {qname : List UInt8} {r} (hF : z1141 qp qname = some r) : Holds prog 270 [.v (.agg [.s qp.Name, .i qp.Value.Kind, .t qp.Value.Flag, .i qp.Value.Number, .s qp.Value.Words]), .c (.s qname)] ⟨[], []⟩ (Is (z1142 qp qname r)) := by
  unfold z1141 at hF
  refine hW f270 9 0 0 ?_
  refine sR 2 (awp_seq (bE hF fun _ h1 hF => awp_region (aR 3 (aC (z907 h1) [] [] [] (aR 1 (aE ?_))))))
  exact awp_ret (oF hF [] [])

/-! ### slices.BinarySearchFunc[[]beaconfleet/api.Prop,beaconfleet/api.Prop,string] -/
def z567 : Int → AEx
  | _ => .exit 0

def z566 (qx : List api_Prop) (qtarget : List UInt8) : Int → St
  | vi1 => Mem.st ⟨[], []⟩ (tl [(0, .c (.l api_Prop.enc qx)), (1, .c (.s qtarget)), (2, .c (.fn 270 [])), (8, .i (qx.length : Int)), (9, .i vi1)]) 0

def z565 (qx : List api_Prop) (qtarget : List UInt8) : Int × Int → St
  | (vi, vj) => Mem.st ⟨[], []⟩ (tl [(0, .c (.l api_Prop.enc qx)), (1, .c (.s qtarget)), (2, .c (.fn 270 [])), (8, .i (qx.length : Int)), (9, .i vi), (10, .i vj)]) 0

theorem z568 (qx : List api_Prop) (qtarget : List UInt8) (s : Int × Int) (r : (Int × Int) ⊕ (Int)) (hF : z564 qx qtarget s = some r) : Awp prog 0 49 (cL (cL (cL (cR (cR (cR (cB f269))))))) (Out 0 (kk z567) (SS (z565 qx qtarget) (z566 qx qtarget)) r) (z565 qx qtarget s) := by
  obtain ⟨vi, vj⟩ := s
  unfold z564 at hF
  refine awp_seq (sR 3 (cE hF (fun h1 hF => ?_) fun h1 hF => ?_))
  · refine tT h1 (awp_skip (awp_block (sR 7 (awp_seq (bE hF fun vy1 h2 hF => bE hF fun _ h3 hF => awp_region (aR 3 (aX (x_idx api_Prop.enc h2) (aR 2 (aC (z1143 h3) [] [] [] (aR 1 (aE ?_)))))))))))
    refine cE hF (fun h4 hF => ?_) fun h4 hF => ?_
    · exact tT h4 (gR 3 (oO hF [] [] rfl))
    · exact tF h4 (gR 2 (oO hF [] [] rfl))
  · refine tF h1 (awp_exit ?_)
    exact oO hF [] [] rfl

def z571 (qx : List api_Prop) (qtarget : List UInt8) (vi1_1 : Int) : Bool → St
  | vx => Mem.st ⟨[], []⟩ (tl [(6, .i vi1_1), (7, .b vx)]) 0

def z570 (qx : List api_Prop) (qtarget : List UInt8) (vi1_1 : Int) : St := Mem.st ⟨[], []⟩ (tl [(0, .c (.l api_Prop.enc qx)), (1, .c (.s qtarget)), (2, .c (.fn 270 [])), (8, .i (qx.length : Int)), (9, .i vi1_1)]) 0

theorem z572 (qx : List api_Prop) (qtarget : List UInt8) (vi1_1 : Int) {r} (hF : z569 qx qtarget vi1_1 = some r) : Awp prog 0 49 (cL (cR (cR (cR (cR (cB f269)))))) (Out 0 nrm (z571 qx qtarget vi1_1) r) (z570 qx qtarget vi1_1) := by
  unfold z569 at hF
  refine cE hF (fun h6 hF => ?_) fun h6 hF => ?_
  · refine bE hF fun vy2 h7 hF => bE hF fun _ h8 hF => awp_region (aR 3 (aB h6 (aR 4 (aX (x_idx api_Prop.enc h7) (aR 2 (aC (z1143 h8) [] [] [] (aR 4 (aE ?_))))))))
    exact oO hF [] [] rfl
  · refine awp_region (aR 3 (aB h6 (aR 12 (aE ?_))))
    exact oO hF [] [] rfl

def z562 (qx : List api_Prop) (qtarget : List UInt8) (r : Int × Bool) : TV × Mem := (.tup [.one (.i r.1), .one (.t r.2)], ⟨[], []⟩)

theorem z563 {qx : List api_Prop} {qtarget : List UInt8} {r} (hF : z561 qx qtarget = some r) : Holds prog 269 [.c (.l api_Prop.enc qx), .c (.s qtarget), .c (.fn 270 [])] ⟨[], []⟩ (Is (z562 qx qtarget r)) := by
  unfold z561 at hF
  refine hW f269 49 0 0 ?_
  refine sR 2 (awp_seq (awp_region (aR 1 (aL api_Prop.enc qx (aR 1 (aE ?_))))))
  refine sR 3 (awp_seq (awp_block (awp_to (st' := z565 qx qtarget (0, (qx.length : Int))) (oT [] []) ?_)))
  refine bE hF fun vi1_1 h5 hF => awp_sub (awp_loop' (z565 qx qtarget) z567 (z566 qx qtarget) (by intro x; exact fun h => nomatch h) h5 (z568 qx qtarget)) ?_
  refine awp_seq (awp_to (st' := z570 qx qtarget vi1_1) (oT [] []) ?_)
  refine bE hF fun vx1 h9 hF => awp_sub (z572 qx qtarget vi1_1 h9) ?_
  exact awp_ret (oF hF [] [])

/-! ### beaconfleet/twin.find -/
def z1144 (ql : List api_Prop) (qname : List UInt8) (r : Int) : TV × Mem := (.i r, ⟨[], []⟩)

theorem z1148 {ql : List api_Prop} {qname : List UInt8} {r} (hF : twin_find ql qname = some r) : Holds prog 212 [.c (.l api_Prop.enc ql), .c (.s qname)] ⟨[], []⟩ (Is (z1144 ql qname r)) := by
  unfold twin_find at hF
  refine hW f212 16 0 0 ?_
  refine sR 1 (awp_seq (bE hF fun x h1 hF => ?_))
  obtain ⟨vr, vr1⟩ := x
  refine awp_region (aR 2 (aC (z563 h1) [] [] [] (aR 5 (aE ?_))))
  refine awp_seq (sR 2 (cE hF (fun h2 hF => ?_) fun h2 hF => ?_))
  · exact tT h2 (sR 1 (awp_ret (oF hF [] [])))
  · exact tF h2 (awp_skip (sR 2 (awp_ret (oF hF [] []))))

/-! ### beaconfleet/twin.valueOf -/
def z1233 (ql : List api_Prop) (qname : List UInt8) (r : api_Value) : TV × Mem := (.v (.agg [.i r.Kind, .t r.Flag, .i r.Number, .s r.Words]), ⟨[], []⟩)

theorem z1237 {ql : List api_Prop} {qname : List UInt8} {r} (hF : z1232 ql qname = some r) : Holds prog 120 [.c (.l api_Prop.enc ql), .c (.s qname)] ⟨[], []⟩ (Is (z1233 ql qname r)) := by
  unfold z1232 at hF
  refine hW f120 17 0 0 ?_
  refine sR 1 (awp_seq (awp_seq (bE hF fun vr2 h1 hF => awp_region (aR 2 (aC (z1148 h1) [] [] [] (aR 1 (aE ?_)))))))
  refine sR 2 (cE hF (fun h2 hF => ?_) fun h2 hF => ?_)
  · refine tT h2 (awp_seq (bE hF fun vy h3 hF => awp_region (aR 2 (aX (x_idx api_Prop.enc h3) (aR 3 (aE ?_))))))
    exact awp_ret (oF hF [] [])
  · exact tF h2 (awp_skip (sR 2 (awp_ret (oF hF [] []))))

/-! ### beaconfleet/twin.Owed$1 -/
def z1073 (qs : List UInt8) (qx : List UInt8) : Bool → St
  | vx => Mem.st ⟨[], [(0, [.s qx])]⟩ (tl [(3, .b vx)]) 1

def z1072 (qs : List UInt8) (qx : List UInt8) : St := Mem.st ⟨[], [(0, [.s qx])]⟩ (tl [(0, .c (.s qs)), (1, .c (.box 0 0))]) 1

theorem z1074 (qs : List UInt8) (qx : List UInt8) {r} (hF : z1071 qs qx = some r) : Awp prog 1 12 (cL (cR (cB f122))) (Out 1 nrm (z1073 qs qx) r) (z1072 qs qx) := by
  unfold z1071 at hF
  refine cE hF (fun h1 hF => ?_) fun h1 hF => ?_
  · refine awp_region (aR 2 (aB h1 (aR 6 (aE ?_))))
    exact oO hF [] [] rfl
  · refine bE hF fun vr h2 hF => awp_region (aR 2 (aB h1 (aR 3 (aC (z8 h2) [] [] [] (aR 2 (aE ?_))))))
    exact oO hF [] [] rfl

def z1069 (qs : List UInt8) (qx : List UInt8) (r : Bool) : TV × Mem := (.b r, ⟨[], [(0, [.s qx])]⟩)

theorem z1070 {qs : List UInt8} {qx : List UInt8} {r} (hF : z1068 qs qx = some r) : Holds prog 122 [.c (.s qs), .c (.box 0 0)] ⟨[], [(0, [.s qx])]⟩ (Is (z1069 qs qx r)) := by
  unfold z1068 at hF
  refine hW f122 12 1 1 ?_
  refine sR 1 (awp_seq (awp_to (st' := z1072 qs qx) (oT [] []) ?_))
  refine bE hF fun vx1 h3 hF => awp_sub (z1074 qs qx h3) ?_
  exact awp_ret (oF hF [] [])

/-! ### slices.IndexFunc[[]string,string] -/
def z743 : Unit ⊕ Int → AEx
  | .inl _ => .exit 0
  | .inr _ => .ret

def z742 (qs : List (List UInt8)) (qf : List UInt8) : Unit ⊕ Int → St
  | .inl _ => Mem.st ⟨[], [(0, [.s qf])]⟩ (tl []) 1
  | .inr vx1 => Mem.st ⟨[], [(0, [.s qf])]⟩ (tl [(4, .i vx1)]) 1

def z741 (qs : List (List UInt8)) (qf : List UInt8) : Int → St
  | vx => Mem.st ⟨[], [(0, [.s qf])]⟩ (tl [(0, .c (.l encS qs)), (1, .c (.fn 122 [0])), (7, .i (qs.length : Int)), (8, .i vx)]) 1

theorem z744 (qs : List (List UInt8)) (qf : List UInt8) (vx : Int) (r : (Int) ⊕ (Unit ⊕ Int)) (hF : z740 qs qf vx = some r) : Awp prog 1 19 (cL (cL (cR (cL (cR (cB f213)))))) (Out 1 (kk z743) (SS (z741 qs qf) (z742 qs qf)) r) (z741 qs qf vx) := by
  unfold z740 at hF
  refine sR 1 (awp_seq (cE hF (fun h1 hF => ?_) fun h1 hF => ?_))
  · refine tT h1 (awp_skip (awp_seq (awp_block (sR 2 (awp_seq (bE hF fun vy1 h2 hF => bE hF fun vr1_1 h3 hF => awp_region (aR 3 (aX (x_idx encS h2) (aR 1 (aC (z1070 h3) [] [] [] (aE ?_)))))))))))
    refine cE hF (fun h4 hF => ?_) fun h4 hF => ?_
    · exact tT h4 (sR 2 (awp_ret (oO hF [] [] rfl)))
    · exact tF h4 (awp_skip (gR 2 (oO hF [] [] rfl)))
  · refine tF h1 (awp_exit ?_)
    exact oO hF [] [] rfl

def z738 (qs : List (List UInt8)) (qf : List UInt8) (r : Int) : TV × Mem := (.i r, ⟨[], [(0, [.s qf])]⟩)

theorem z739 {qs : List (List UInt8)} {qf : List UInt8} {r} (hF : z737 qs qf = some r) : Holds prog 213 [.c (.l encS qs), .c (.fn 122 [0])] ⟨[], [(0, [.s qf])]⟩ (Is (z738 qs qf r)) := by
  unfold z737 at hF
  refine hW f213 19 1 1 ?_
  refine sR 1 (awp_seq (awp_seq (awp_region (aR 1 (aL encS qs (aR 1 (aE ?_)))))))
  refine awp_block (awp_to (st' := z741 qs qf 0) (oT [] []) ?_)
  refine bE hF fun x h5 hF => ?_
  rcases x with _ | vx1_1
  · refine awp_sub (awp_loop' (z741 qs qf) z743 (z742 qs qf) (by intro x; rcases x with x | x <;> exact fun h => nomatch h) h5 (z744 qs qf)) ?_
    exact sR 1 (awp_ret (oF hF [] []))
  · refine awp_sub (awp_loop' (z741 qs qf) z743 (z742 qs qf) (by intro x; rcases x with x | x <;> exact fun h => nomatch h) h5 (z744 qs qf)) ?_
    exact oF hF [] []

/-! ### slices.ContainsFunc[[]string,string] -/
def z656 (qs : List (List UInt8)) (qf : List UInt8) (r : Bool) : TV × Mem := (.b r, ⟨[], [(0, [.s qf])]⟩)

theorem z657 {qs : List (List UInt8)} {qf : List UInt8} {r} (hF : z655 qs qf = some r) : Holds prog 121 [.c (.l encS qs), .c (.fn 122 [0])] ⟨[], [(0, [.s qf])]⟩ (Is (z656 qs qf r)) := by
  unfold z655 at hF
  refine hW f121 9 1 1 ?_
  refine sR 1 (awp_seq (bE hF fun vr h1 hF => awp_region (aR 2 (aC (z739 h1) [] [] [] (aR 2 (aE ?_))))))
  exact awp_ret (oF hF [] [])

/-! ### beaconfleet/twin.Owed$2 -/
def z1076 (qp : api_Prop) (qx : List UInt8) (r : Bool) : TV × Mem := (.b r, ⟨[], [(0, [.s qx])]⟩)

theorem z1077 {qp : api_Prop} {qx : List UInt8} {r} (hF : z1075 qp qx = some r) : Holds prog 125 [.v (.agg [.s qp.Name, .i qp.Value.Kind, .t qp.Value.Flag, .i qp.Value.Number, .s qp.Value.Words]), .c (.box 0 0)] ⟨[], [(0, [.s qx])]⟩ (Is (z1076 qp qx r)) := by
  unfold z1075 at hF
  refine hW f125 8 1 1 ?_
  refine sR 2 (awp_seq (bE hF fun vr h1 hF => awp_region (aR 3 (aC (z8 h1) [] [] [] (aR 1 (aE ?_))))))
  exact awp_ret (oF hF [] [])

/-! ### slices.IndexFunc[[]beaconfleet/api.Prop,beaconfleet/api.Prop] -/
def z727 : Unit ⊕ Int → AEx
  | .inl _ => .exit 0
  | .inr _ => .ret

def z726 (qs : List api_Prop) (qf : List UInt8) : Unit ⊕ Int → St
  | .inl _ => Mem.st ⟨[], [(0, [.s qf])]⟩ (tl []) 1
  | .inr vx1 => Mem.st ⟨[], [(0, [.s qf])]⟩ (tl [(4, .i vx1)]) 1

def z725 (qs : List api_Prop) (qf : List UInt8) : Int → St
  | vx => Mem.st ⟨[], [(0, [.s qf])]⟩ (tl [(0, .c (.l api_Prop.enc qs)), (1, .c (.fn 125 [0])), (7, .i (qs.length : Int)), (8, .i vx)]) 1

theorem z728 (qs : List api_Prop) (qf : List UInt8) (vx : Int) (r : (Int) ⊕ (Unit ⊕ Int)) (hF : z724 qs qf vx = some r) : Awp prog 1 19 (cL (cL (cR (cL (cR (cB f214)))))) (Out 1 (kk z727) (SS (z725 qs qf) (z726 qs qf)) r) (z725 qs qf vx) := by
  unfold z724 at hF
  refine sR 1 (awp_seq (cE hF (fun h1 hF => ?_) fun h1 hF => ?_))
  · refine tT h1 (awp_skip (awp_seq (awp_block (sR 2 (awp_seq (bE hF fun vy1 h2 hF => bE hF fun vr1_1 h3 hF => awp_region (aR 3 (aX (x_idx api_Prop.enc h2) (aR 1 (aC (z1077 h3) [] [] [] (aE ?_)))))))))))
    refine cE hF (fun h4 hF => ?_) fun h4 hF => ?_
    · exact tT h4 (sR 2 (awp_ret (oO hF [] [] rfl)))
    · exact tF h4 (awp_skip (gR 2 (oO hF [] [] rfl)))
  · refine tF h1 (awp_exit ?_)
    exact oO hF [] [] rfl

def z722 (qs : List api_Prop) (qf : List UInt8) (r : Int) : TV × Mem := (.i r, ⟨[], [(0, [.s qf])]⟩)

theorem z723 {qs : List api_Prop} {qf : List UInt8} {r} (hF : z721 qs qf = some r) : Holds prog 214 [.c (.l api_Prop.enc qs), .c (.fn 125 [0])] ⟨[], [(0, [.s qf])]⟩ (Is (z722 qs qf r)) := by
  unfold z721 at hF
  refine hW f214 19 1 1 ?_
  refine sR 1 (awp_seq (awp_seq (awp_region (aR 1 (aL api_Prop.enc qs (aR 1 (aE ?_)))))))
  refine awp_block (awp_to (st' := z725 qs qf 0) (oT [] []) ?_)
  refine bE hF fun x h5 hF => ?_
  rcases x with _ | vx1_1
  · refine awp_sub (awp_loop' (z725 qs qf) z727 (z726 qs qf) (by intro x; rcases x with x | x <;> exact fun h => nomatch h) h5 (z728 qs qf)) ?_
    exact sR 1 (awp_ret (oF hF [] []))
  · refine awp_sub (awp_loop' (z725 qs qf) z727 (z726 qs qf) (by intro x; rcases x with x | x <;> exact fun h => nomatch h) h5 (z728 qs qf)) ?_
    exact oF hF [] []

/-! ### slices.ContainsFunc[[]beaconfleet/api.Prop,beaconfleet/api.Prop] -/
def z650 (qs : List api_Prop) (qf : List UInt8) (r : Bool) : TV × Mem := (.b r, ⟨[], [(0, [.s qf])]⟩)

theorem z651 {qs : List api_Prop} {qf : List UInt8} {r} (hF : z649 qs qf = some r) : Holds prog 124 [.c (.l api_Prop.enc qs), .c (.fn 125 [0])] ⟨[], [(0, [.s qf])]⟩ (Is (z650 qs qf r)) := by
  unfold z649 at hF
  refine hW f124 9 1 1 ?_
  refine sR 1 (awp_seq (bE hF fun vr h1 hF => awp_region (aR 2 (aC (z723 h1) [] [] [] (aR 2 (aE ?_))))))
  exact awp_ret (oF hF [] [])

end Go.Eng
