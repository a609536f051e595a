/-
The code of the Go functions that the law SidesJoined reaches does what the plain functions say, part 1.
-/
import Derived.Test.YtniapnjghlkkfaaGreatDoorGenF

import Derived.Test.YtniapnjghlkkfaaGreatDoorEng9

import Derived.Test.YtniapnjghlkkfaaGreatDoorGenS

import Derived.Test.YtniapnjghlkkfaaGreatDoorProg

import Derived.KernelRfl

namespace Go.Eng

open Go Go.Proofs.Tryz

set_option linter.unusedVariables false

set_option maxRecDepth 20000

set_option maxHeartbeats 0

def ti3 : TI := ⟨1, 8, [.d (.int .i64 0)], false, .int .i64⟩

def ti4 : TI := ⟨1, 1, [.d (.bool false)], false, .bool⟩

def ti5 : TI := ⟨1, 1, [.d (.int .u8 0)], false, .int .u8⟩

def ti9 : TI := ⟨1, 16, [.d (.str [])], false, .str⟩

def ti21 : TI := ⟨1, 4, [.d (.int .i32 0)], false, .int .i32⟩

def ti22 : TI := ⟨1, 24, [.nil], false, .slice 3⟩

def ti25 : TI := ⟨2, 32, [.nil, .d (.int .i64 0)], true, .struct [(0, 22), (1, 3)]⟩

def ti26 : TI := ⟨1, 24, [.nil], false, .slice 43⟩

def ti28 : TI := ⟨1, 8, [.d (.int .i64 0)], false, .int .i64⟩

def ti31 : TI := ⟨1, 24, [.nil], false, .slice 70⟩

def ti35 : TI := ⟨1, 24, [.nil], false, .slice 46⟩

def ti41 : TI := ⟨4, 40, [.d (.int .i64 0), .d (.bool false), .d (.int .i64 0), .d (.str [])], true, .struct [(0, 3), (1, 4), (2, 3), (3, 9)]⟩

def ti43 : TI := ⟨5, 56, [.d (.str []), .d (.int .i64 0), .d (.bool false), .d (.int .i64 0), .d (.str [])], true, .struct [(0, 9), (1, 41)]⟩

def ti46 : TI := ⟨13, 136, [.d (.str []), .d (.int .i64 0), .d (.bool false), .d (.int .i64 0), .d (.str []), .d (.int .i64 0), .d (.bool false), .d (.int .i64 0), .d (.str []), .d (.int .i64 0), .d (.bool false), .d (.int .i64 0), .d (.str [])], true, .struct [(0, 9), (1, 41), (5, 41), (9, 41)]⟩

def ti51 : TI := ⟨1, 24, [.nil], false, .slice 9⟩

def ti68 : TI := ⟨1, 8, [.nilm], false, .map 9 41⟩

def ti70 : TI := ⟨9, 96, [.d (.str []), .d (.int .i64 0), .d (.bool false), .d (.int .i64 0), .d (.str []), .d (.int .i64 0), .d (.bool false), .d (.int .i64 0), .d (.str [])], true, .struct [(0, 9), (1, 41), (5, 41)]⟩

def ti82 : TI := ⟨1, 24, [.nil], false, .slice 28⟩

def ti126 : TI := ⟨1, 8, [.d (.int .u64 0)], false, .int .u64⟩

def ti133 : TI := ⟨1, 24, [.nil], false, .slice 26⟩

def ti161 : TI := ⟨1, 8, [.d (.int .i64 0)], false, .int .i64⟩

def ti170 : TI := ⟨1, 8, [.d (.int .u64 0)], false, .int .u64⟩

def ti196 : TI := ⟨1, 8, [.d (.int .u64 0)], false, .int .u64⟩

def Γ : Types := [(3, ti3), (4, ti4), (5, ti5), (9, ti9), (21, ti21), (22, ti22), (25, ti25), (26, ti26), (28, ti28), (31, ti31), (35, ti35), (41, ti41), (43, ti43), (46, ti46), (51, ti51), (68, ti68), (70, ti70), (82, ti82), (126, ti126), (133, ti133), (161, ti161), (170, ti170), (196, ti196)]

theorem hΓ : TypesOk prog Γ := typesOk_of (by kernel_rfl)

instance : TOk prog Γ := ⟨hΓ⟩

theorem hm : prog.follows .mixedOrders = true := by kernel_rfl

instance : Mixed prog := ⟨hm⟩

/-! ### beaconfleet/fleetmake.Below -/
def fleetmake_Below_x1_S (qx : Int) (qn : Int) : Int → St
  | vx => Mem.st ⟨[], []⟩ (tl [(0, .i vx)]) 0

def fleetmake_Below_x1_I (qx : Int) (qn : Int) : St := Mem.st ⟨[], []⟩ (tl [(0, .i (qx.tmod qn)), (1, .i qn)]) 0

theorem fleetmake_Below_x1_ok (qx : Int) (qn : Int) {r} (hF : fleetmake_Below_x1 qx qn = some r) : Awp prog 0 16 (cL (cR (cR (cR (cB f70))))) (Out 0 nrm (fleetmake_Below_x1_S qx qn) r) (fleetmake_Below_x1_I qx qn) := by
  unfold fleetmake_Below_x1 at hF
  refine sR 2 (cE hF (fun h3 hF => ?_) fun h3 hF => ?_)
  · exact tT h3 (gR 4 (oO hF [] [] rfl))
  · exact tF h3 (awp_skip (oO hF [] [] rfl))

def fleetmake_Below_R (qx : Int) (qn : Int) (r : Int) : TV × Mem := (.i r, ⟨[], []⟩)

theorem fleetmake_Below_ok {qx : Int} {qn : Int} {r} (hF : fleetmake_Below qx qn = some r) : Holds prog 70 [.i qx, .i qn] ⟨[], []⟩ (Is (fleetmake_Below_R qx qn r)) := by
  unfold fleetmake_Below at hF
  refine hW f70 16 0 0 ?_
  refine sR 1 (awp_seq (sR 2 (cE hF (fun h1 hF => ?_) fun h1 hF => ?_)))
  · exact tT h1 (sR 1 (awp_ret (oF hF [] [])))
  · refine tF h1 (awp_skip (awp_seq (gE hF fun h2 hF => ?_)))
    refine awp_region (aR 2 (aX (x_rem h2) (aR 1 (aE ?_))))
    refine awp_seq (awp_to (st' := fleetmake_Below_x1_I qx qn) (oT [] []) ?_)
    refine bE hF fun vx1 h4 hF => awp_sub (fleetmake_Below_x1_ok qx qn h4) ?_
    exact sR 2 (awp_ret (oF hF [] []))

/-! ### (*beaconfleet/fleetmake.Stream).Next -/
def fleetmake_Stream_Next_R (qs : fleetmake_Stream) (qn : Int) (r : Int) : TV × Mem := (.i r, ⟨[], [(0, [.l (encI .i64) qs.L, .i (IntKind.wrap .i64 (qs.at_ + 1))])]⟩)

theorem fleetmake_Stream_Next_ok {qs : fleetmake_Stream} {qn : Int} {r} (hF : fleetmake_Stream_Next qs qn = some r) : Holds prog 30 [.c (.box 0 0), .i qn] ⟨[], [(0, [.l (encI .i64) qs.L, .i qs.at_])]⟩ (Is (fleetmake_Stream_Next_R qs qn r)) := by
  unfold fleetmake_Stream_Next at hF
  refine hW f30 64 1 1 ?_
  refine sR 1 (sR 8 (awp_seq (awp_seq (awp_region (aR 4 (aL (encI .i64) qs.L (aR 1 (aE ?_))))))))
  refine cE hF (fun h1 hF => ?_) fun h1 hF => ?_
  · refine tT h1 (awp_seq (bE hF fun vr h2 hF => awp_region (aR 6 (aC (fleetmake_Below_ok h2) [] [] [] (aR 1 (aE ?_))))))
    exact awp_ret (oF hF [] [])
  · refine tF h1 (awp_skip (awp_seq (gE hF fun h3 hF => ?_)))
    refine aD ?_
    refine dR 9 ?_
    refine dL (encI .i64) qs.L ?_
    refine dX (x_rem h3) ?_
    refine dR 1 ?_
    refine dE ?_
    refine awp_seq (aD ?_)
    refine dR 9 ?_
    refine dL (encI .i64) qs.L ?_
    refine dX (x_quo h3) ?_
    refine dR 1 ?_
    refine dE ?_
    refine awp_seq (bE hF fun vy h4 hF => bE hF fun vr1 h5 hF => bE hF fun vr2 h6 hF => awp_region (aR 5 (aX (x_idx (encI .i64) h4) (aR 1 (aC (fleetmake_Below_ok h5) [] [] [] (aR 6 (aC (fleetmake_Below_ok h6) [] [] [] (aR 1 (aE ?_)))))))))
    exact awp_ret (oF hF [] [])

/-! ### (*beaconfleet/fleetmake.Stream).Range -/
def fleetmake_Stream_Range_R (qs : fleetmake_Stream) (qlow : Int) (qhigh : Int) (r : fleetmake_Stream × Int) : TV × Mem := (.i r.2, ⟨[], [(0, [.l (encI .i64) r.1.L, .i r.1.at_])]⟩)

theorem fleetmake_Stream_Range_ok {qs : fleetmake_Stream} {qlow : Int} {qhigh : Int} {r} (hF : fleetmake_Stream_Range qs qlow qhigh = some r) : Holds prog 16 [.c (.box 0 0), .i qlow, .i qhigh] ⟨[], [(0, [.l (encI .i64) qs.L, .i qs.at_])]⟩ (Is (fleetmake_Stream_Range_R qs qlow qhigh r)) := by
  unfold fleetmake_Stream_Range at hF
  refine hW f16 19 1 1 ?_
  refine sR 1 (awp_seq (sR 3 (cE hF (fun h1 hF => ?_) fun h1 hF => ?_)))
  · exact tT h1 (sR 2 (awp_ret (oF hF [] [])))
  · refine tF h1 (awp_skip (awp_seq (bE hF fun vr3 h2 hF => awp_region (aR 6 (aC (fleetmake_Stream_Next_ok h2) [] [] [] (aR 2 (aE ?_)))))))
    exact awp_ret (oF hF [] [])

/-! ### slices.Clone[[]beaconfleet/api.Prop,beaconfleet/api.Prop] -/
def slices_Clone_api_Prop_api_Prop_R (qs : List api_Prop) (r : List api_Prop) : TV × Mem := (.c (.own 0 none), ⟨[(0, ⟨43, 5, List.map api_Prop.enc r⟩)], []⟩)

theorem slices_Clone_api_Prop_api_Prop_ok {qs : List api_Prop} {r} (hF : slices_Clone_api_Prop_api_Prop qs = some r) : Holds prog 61 [.c (.l api_Prop.enc qs)] ⟨[], []⟩ (Is (slices_Clone_api_Prop_api_Prop_R qs r)) := by
  unfold slices_Clone_api_Prop_api_Prop at hF
  refine gE hF fun h1 hF => ?_
  refine hW f61 8 0 0 ?_
  refine sR 1 (awp_seq (awp_seq (awp_region (aR 1 (aN api_Prop.enc qs (fun b hb => ?_) rfl)))))
  refine aE ?_
  cases b with
  | true =>
    obtain rfl := hb rfl
    exact tT rfl (sR 1 (awp_ret (oF hF [] [0])))
  | false =>
    refine tF rfl (awp_skip (awp_seq (awp_region (aR 2 (aX (x_app api_Prop.enc 3000 h1) (aR 1 (aE ?_)))))))
    exact awp_ret (oF hF [(0, 5000)] [])

/-! ### (*beaconfleet/fleetmake.Stream).Some -/
def fleetmake_Stream_Some_o1_R (qs : fleetmake_Stream) (ql : List (List UInt8)) (r : (List UInt8)) : TV × Mem := (.c (.s r), ⟨[], [(0, [.l (encI .i64) qs.L, .i (IntKind.wrap .i64 (qs.at_ + 1))])]⟩)

theorem fleetmake_Stream_Some_o1_ok {qs : fleetmake_Stream} {ql : List (List UInt8)} {r} (hF : fleetmake_Stream_Some_o1 qs ql = some r) : Holds prog 62 [.c (.box 0 0), .c (.own 1 none)] ⟨[(1, ⟨9, 1, List.map encS ql⟩)], [(0, [.l (encI .i64) qs.L, .i qs.at_])]⟩ (Is (fleetmake_Stream_Some_o1_R qs ql r)) := by
  unfold fleetmake_Stream_Some_o1 at hF
  refine hW f62 12 2 2 ?_
  refine sR 1 (awp_to (oT (m := ⟨[], [(0, [.l (encI .i64) qs.L, .i qs.at_])]⟩) (ts := [(0, .c (.box 0 0)), (1, .c (.l encS ql))]) (nx := 2) [] []) ?_)
  refine awp_seq (bE hF fun vr3 h1 hF => bE hF fun vy h2 hF => awp_region (aR 3 (aL encS ql (aC (fleetmake_Stream_Next_ok h1) [] [] [] (aX (x_idx encS h2) (aR 2 (aE ?_)))))))
  exact awp_ret (oF hF [] [])

/-! ### (*beaconfleet/fleetmake.Stream).Flip -/
def fleetmake_Stream_Flip_R (qs : fleetmake_Stream) (qn : Int) (r : Bool) : TV × Mem := (.b r, ⟨[], [(0, [.l (encI .i64) qs.L, .i (IntKind.wrap .i64 (qs.at_ + 1))])]⟩)

theorem fleetmake_Stream_Flip_ok {qs : fleetmake_Stream} {qn : Int} {r} (hF : fleetmake_Stream_Flip qs qn = some r) : Holds prog 9 [.c (.box 0 0), .i qn] ⟨[], [(0, [.l (encI .i64) qs.L, .i qs.at_])]⟩ (Is (fleetmake_Stream_Flip_R qs qn r)) := by
  unfold fleetmake_Stream_Flip at hF
  refine hW f9 9 1 1 ?_
  refine sR 1 (awp_seq (bE hF fun vr3 h1 hF => awp_region (aR 2 (aC (fleetmake_Stream_Next_ok h1) [] [] [] (aR 2 (aE ?_))))))
  exact awp_ret (oF hF [] [])

/-! ### (*beaconfleet/fleetmake.Stream).Pick -/
def fleetmake_Stream_Pick_o1_R (qs : fleetmake_Stream) (ql : List Int) (r : Int) : TV × Mem := (.i r, ⟨[], [(0, [.l (encI .i64) qs.L, .i (IntKind.wrap .i64 (qs.at_ + 1))])]⟩)

theorem fleetmake_Stream_Pick_o1_ok {qs : fleetmake_Stream} {ql : List Int} {r} (hF : fleetmake_Stream_Pick_o1 qs ql = some r) : Holds prog 65 [.c (.box 0 0), .c (.own 1 none)] ⟨[(1, ⟨3, 1, List.map (encI .i64) ql⟩)], [(0, [.l (encI .i64) qs.L, .i qs.at_])]⟩ (Is (fleetmake_Stream_Pick_o1_R qs ql r)) := by
  unfold fleetmake_Stream_Pick_o1 at hF
  refine hW f65 12 2 2 ?_
  refine sR 1 (awp_to (oT (m := ⟨[], [(0, [.l (encI .i64) qs.L, .i qs.at_])]⟩) (ts := [(0, .c (.box 0 0)), (1, .c (.l (encI .i64) ql))]) (nx := 2) [] []) ?_)
  refine awp_seq (bE hF fun vr3 h1 hF => bE hF fun vy h2 hF => awp_region (aR 3 (aL (encI .i64) ql (aC (fleetmake_Stream_Next_ok h1) [] [] [] (aX (x_idx (encI .i64) h2) (aR 2 (aE ?_)))))))
  exact awp_ret (oF hF [] [])

/-! ### (*beaconfleet/fleetmake.Stream).RightValue -/
def fleetmake_Stream_RightValue_R (qs : fleetmake_Stream) (r : api_Value) : TV × Mem := (.v (.agg [.i r.Kind, .t r.Flag, .i r.Number, .s r.Words]), ⟨[], [(0, [.l (encI .i64) qs.L, .i (IntKind.wrap .i64 ((IntKind.wrap .i64 (qs.at_ + 1)) + 1))])]⟩)

theorem fleetmake_Stream_RightValue_ok {qs : fleetmake_Stream} {r} (hF : fleetmake_Stream_RightValue qs = some r) : Holds prog 63 [.c (.box 0 0)] ⟨[], [(0, [.l (encI .i64) qs.L, .i qs.at_])]⟩ (Is (fleetmake_Stream_RightValue_R qs r)) := by
  unfold fleetmake_Stream_RightValue at hF
  refine hW f63 20 1 1 ?_
  refine sR 1 (awp_seq (awp_seq (bE hF fun vr3 h1 hF => awp_region (aR 1 (aC (fleetmake_Stream_Next_ok h1) [] [] [] (aE ?_))))))
  refine awp_block (sR 2 (cE hF (fun h2 hF => ?_) fun h2 hF => ?_))
  · refine tT h2 (awp_seq (bE hF fun vr h3 hF => awp_region (aR 1 (aC (fleetmake_Stream_Flip_ok h3) [] [] [] (aR 2 (aE ?_))))))
    exact awp_ret (oF hF [] [])
  · refine tF h2 (sR 2 (cE hF (fun h4 hF => ?_) fun h4 hF => ?_))
    · refine tT h4 (awp_seq (bE hF fun vr1 h5 hF => awp_region (aR 2 (aC (fleetmake_Stream_Some_o1_ok h5) [(1, 8001)] [] [] (aR 2 (aE ?_))))))
      exact awp_ret (oF hF [] [])
    · refine tF h4 (awp_skip (awp_seq (bE hF fun vr2 h6 hF => awp_region (aR 2 (aC (fleetmake_Stream_Pick_o1_ok h6) [(1, 8001)] [] [] (aR 2 (aE ?_)))))))
      exact awp_ret (oF hF [] [])

/-! ### math/bits.Len64 -/
def bits_Len64_x1_S (qx : Int) : (Int × Int) → St
  | (vx, vn) => Mem.st ⟨[], []⟩ (tl [(0, .c (.d (.int .u64 vx))), (2, .i vn)]) 0

def bits_Len64_x1_I (qx : Int) : St := Mem.st ⟨[], []⟩ (tl [(0, .c (.d (.int .u64 qx))), (2, .i 0)]) 0

theorem bits_Len64_x1_ok (qx : Int) {r} (hF : bits_Len64_x1 qx = some r) : Awp prog 0 25 (cL (cR (cB f121))) (Out 0 nrm (bits_Len64_x1_S qx) r) (bits_Len64_x1_I qx) := by
  unfold bits_Len64_x1 at hF
  refine sR 2 (cE hF (fun h1 hF => ?_) fun h1 hF => ?_)
  · exact tT h1 (sR 3 (gR 1 (oO hF [] [] rfl)))
  · exact tF h1 (awp_skip (oO hF [] [] rfl))

def bits_Len64_x2_S (vx1 : Int) (vn1 : Int) : (Int × Int) → St
  | (vx2, vn2) => Mem.st ⟨[], []⟩ (tl [(0, .c (.d (.int .u64 vx2))), (2, .i vn2)]) 0

def bits_Len64_x2_I (vx1 : Int) (vn1 : Int) : St := Mem.st ⟨[], []⟩ (tl [(0, .c (.d (.int .u64 vx1))), (2, .i vn1)]) 0

theorem bits_Len64_x2_ok (vx1 : Int) (vn1 : Int) {r} (hF : bits_Len64_x2 vx1 vn1 = some r) : Awp prog 0 25 (cL (cR (cR (cB f121)))) (Out 0 nrm (bits_Len64_x2_S vx1 vn1) r) (bits_Len64_x2_I vx1 vn1) := by
  unfold bits_Len64_x2 at hF
  refine sR 2 (cE hF (fun h3 hF => ?_) fun h3 hF => ?_)
  · exact tT h3 (sR 3 (gR 3 (oO hF [] [] rfl)))
  · exact tF h3 (awp_skip (oO hF [] [] rfl))

def bits_Len64_x3_S (vx2_1 : Int) (vn2_1 : Int) : (Int × Int) → St
  | (vx3, vn3) => Mem.st ⟨[], []⟩ (tl [(0, .c (.d (.int .u64 vx3))), (2, .i vn3)]) 0

def bits_Len64_x3_I (vx2_1 : Int) (vn2_1 : Int) : St := Mem.st ⟨[], []⟩ (tl [(0, .c (.d (.int .u64 vx2_1))), (2, .i vn2_1)]) 0

theorem bits_Len64_x3_ok (vx2_1 : Int) (vn2_1 : Int) {r} (hF : bits_Len64_x3 vx2_1 vn2_1 = some r) : Awp prog 0 25 (cL (cR (cR (cR (cB f121))))) (Out 0 nrm (bits_Len64_x3_S vx2_1 vn2_1) r) (bits_Len64_x3_I vx2_1 vn2_1) := by
  unfold bits_Len64_x3 at hF
  refine sR 2 (cE hF (fun h5 hF => ?_) fun h5 hF => ?_)
  · exact tT h5 (sR 3 (gR 3 (oO hF [] [] rfl)))
  · exact tF h5 (awp_skip (oO hF [] [] rfl))

def bits_Len64_R (qx : Int) (r : Int) : TV × Mem := (.i r, ⟨[], []⟩)

theorem bits_Len64_ok {qx : Int} {r} (hF : bits_Len64 qx = some r) : Holds prog 121 [.c (.d (.int .u64 qx))] ⟨[], []⟩ (Is (bits_Len64_R qx r)) := by
  unfold bits_Len64 at hF
  refine hW f121 25 0 0 ?_
  refine sR 1 (awp_seq (awp_to (st' := bits_Len64_x1_I qx) (oT [] []) ?_))
  refine bE hF fun x h2 hF => ?_
  obtain ⟨vx1, vn1⟩ := x
  refine awp_sub (bits_Len64_x1_ok qx h2) ?_
  refine awp_seq (awp_to (st' := bits_Len64_x2_I vx1 vn1) (oT [] []) ?_)
  refine bE hF fun x h4 hF => ?_
  obtain ⟨vx2_1, vn2_1⟩ := x
  refine awp_sub (bits_Len64_x2_ok vx1 vn1 h4) ?_
  refine awp_seq (awp_to (st' := bits_Len64_x3_I vx2_1 vn2_1) (oT [] []) ?_)
  refine bE hF fun x h6 hF => ?_
  obtain ⟨vx3_1, vn3_1⟩ := x
  refine awp_sub (bits_Len64_x3_ok vx2_1 vn2_1 h6) ?_
  refine awp_seq (bE hF fun vc h7 hF => awp_region (aR 3 (aX (x_idxS h7) (aR 3 (aE ?_)))))
  exact awp_ret (oF hF [] [])

/-! ### math/bits.Len -/
def bits_Len_R (qx : Int) (r : Int) : TV × Mem := (.i r, ⟨[], []⟩)

theorem bits_Len_ok {qx : Int} {r} (hF : bits_Len qx = some r) : Holds prog 68 [.c (.d (.int .u64 qx))] ⟨[], []⟩ (Is (bits_Len_R qx r)) := by
  unfold bits_Len at hF
  refine hW f68 8 0 0 ?_
  refine sR 1 (awp_seq (tF rfl (awp_skip (awp_seq (bE hF fun vr h1 hF => awp_region (aR 1 (aC (bits_Len64_ok h1) [] [] [] (aR 1 (aE ?_)))))))))
  exact awp_ret (oF hF [] [])

/-! ### internal/bytealg.CompareString -/
def bytealg_CompareString_R (qa : List UInt8) (qb : List UInt8) (r : Unit) : TV × Mem := (.i (Lib.compareBytes qa qb), ⟨[], []⟩)

theorem bytealg_CompareString_ok {qa : List UInt8} {qb : List UInt8} {r} (hF : bytealg_CompareString qa qb = some r) : Holds prog 89 [.c (.s qa), .c (.s qb)] ⟨[], []⟩ (Is (bytealg_CompareString_R qa qb r)) := by
  unfold bytealg_CompareString at hF
  refine hW f89 8 0 0 ?_
  refine sR 1 (awp_seq (awp_region (aR 2 (aS (does_cmpstring (g := 135) (fn := f135) (a := qa) (b := qb) rfl (by kernel_rfl) (by kernel_rfl) (by kernel_rfl) (by kernel_rfl) (by kernel_rfl) (by kernel_rfl)) ?_))))
  refine aR 1 (aE ?_)
  exact awp_ret (oF hF [] [])

/-! ### strings.Compare -/
def strings_Compare_R (qa : List UInt8) (qb : List UInt8) (r : Unit) : TV × Mem := (.i (Lib.compareBytes qa qb), ⟨[], []⟩)

theorem strings_Compare_ok {qa : List UInt8} {qb : List UInt8} {r} (hF : strings_Compare qa qb = some r) : Holds prog 44 [.c (.s qa), .c (.s qb)] ⟨[], []⟩ (Is (strings_Compare_R qa qb r)) := by
  unfold strings_Compare at hF
  refine hW f44 8 0 0 ?_
  refine sR 1 (awp_seq (bE hF fun _ h1 hF => awp_region (aR 2 (aC (bytealg_CompareString_ok h1) [] [] [] (aR 1 (aE ?_))))))
  exact awp_ret (oF hF [] [])

/-! ### beaconfleet/fleetmake.propOrder -/
def fleetmake_propOrder_R (qa : api_Prop) (qb : api_Prop) (r : Unit) : TV × Mem := (.i (Lib.compareBytes qa.Name qb.Name), ⟨[], []⟩)

theorem fleetmake_propOrder_ok {qa : api_Prop} {qb : api_Prop} {r} (hF : fleetmake_propOrder qa qb = some r) : Holds prog 27 [.v (.agg [.s qa.Name, .i qa.Value.Kind, .t qa.Value.Flag, .i qa.Value.Number, .s qa.Value.Words]), .v (.agg [.s qb.Name, .i qb.Value.Kind, .t qb.Value.Flag, .i qb.Value.Number, .s qb.Value.Words])] ⟨[], []⟩ (Is (fleetmake_propOrder_R qa qb r)) := by
  unfold fleetmake_propOrder at hF
  refine hW f27 10 0 0 ?_
  refine sR 3 (awp_seq (bE hF fun _ h1 hF => awp_region (aR 4 (aC (strings_Compare_ok h1) [] [] [] (aR 1 (aE ?_))))))
  exact awp_ret (oF hF [] [])

/-! ### slices.insertionSortCmpFunc[beaconfleet/api.Prop] -/
def slices_insertionSortCmpFunc_api_Prop_o0_f3_fleetmake_propOrder_x3_S (qa : Int) (qb : Int) (vi : Int) (vl3 : List api_Prop) (vj1 : Int) : Bool → St
  | vx4 => Mem.st ⟨[(0, ⟨43, 5, List.map api_Prop.enc vl3⟩)], []⟩ (tl [(0, .c (.own 0 none)), (1, .i qa), (2, .i qb), (3, .c (.fn 27 [])), (8, .i vi), (9, .i vj1), (34, .b vx4)]) 1

def slices_insertionSortCmpFunc_api_Prop_o0_f3_fleetmake_propOrder_x3_I (qa : Int) (qb : Int) (vi : Int) (vl3 : List api_Prop) (vj1 : Int) : St := Mem.st ⟨[(0, ⟨43, 5, List.map api_Prop.enc vl3⟩)], []⟩ (tl [(0, .c (.own 0 none)), (1, .i qa), (2, .i qb), (3, .c (.fn 27 [])), (8, .i vi), (9, .i vj1)]) 1

theorem slices_insertionSortCmpFunc_api_Prop_o0_f3_fleetmake_propOrder_x3_ok (qa : Int) (qb : Int) (vi : Int) (vl3 : List api_Prop) (vj1 : Int) {r} (hF : slices_insertionSortCmpFunc_api_Prop_o0_f3_fleetmake_propOrder_x3 qa vl3 vj1 = some r) : Awp prog 1 53 (cL (cL (cL (cL (cR (cL (cL (cR (cL (cL (cR (cB f112)))))))))))) (Out 1 nrm (slices_insertionSortCmpFunc_api_Prop_o0_f3_fleetmake_propOrder_x3_S qa qb vi vl3 vj1) r) (slices_insertionSortCmpFunc_api_Prop_o0_f3_fleetmake_propOrder_x3_I qa qb vi vl3 vj1) := by
  unfold slices_insertionSortCmpFunc_api_Prop_o0_f3_fleetmake_propOrder_x3 at hF
  refine cE hF (fun h2 hF => ?_) fun h2 hF => ?_
  · refine bE hF fun vy15 h3 hF => bE hF fun vy16 h4 hF => bE hF fun _ h5 hF => aD ?_
    refine dR 2 ?_
    refine dB h2 ?_
    refine dR 4 ?_
    refine dX (x_idxO api_Prop.enc 0 h3) ?_
    refine dX (x_ldE api_Prop.enc h3) ?_
    refine dR 3 ?_
    refine dX (x_idxO api_Prop.enc 0 h4) ?_
    refine dX (x_ldE api_Prop.enc h4) ?_
    refine dC (fleetmake_propOrder_ok h5) [] [] [] ?_
    refine dR 2 ?_
    refine dE ?_
    exact oO hF [] [] rfl
  · refine aD ?_
    refine dR 2 ?_
    refine dB h2 ?_
    refine dR 14 ?_
    refine dE ?_
    exact oO hF [] [] rfl

def slices_insertionSortCmpFunc_api_Prop_o0_f3_fleetmake_propOrder_x2_k : (List api_Prop) → AEx
  | _ => .exit 2

def slices_insertionSortCmpFunc_api_Prop_o0_f3_fleetmake_propOrder_x2_S (qa : Int) (qb : Int) (vi : Int) : (List api_Prop) → St
  | vl4 => Mem.st ⟨[(0, ⟨43, 5, List.map api_Prop.enc vl4⟩)], []⟩ (tl [(0, .c (.own 0 none)), (1, .i qa), (2, .i qb), (3, .c (.fn 27 [])), (8, .i vi)]) 1

def slices_insertionSortCmpFunc_api_Prop_o0_f3_fleetmake_propOrder_x2_H (qa : Int) (qb : Int) (vi : Int) : (List api_Prop) × Int → St
  | (vl3, vj1) => Mem.st ⟨[(0, ⟨43, 5, List.map api_Prop.enc vl3⟩)], []⟩ (tl [(0, .c (.own 0 none)), (1, .i qa), (2, .i qb), (3, .c (.fn 27 [])), (8, .i vi), (9, .i vj1)]) 1

theorem slices_insertionSortCmpFunc_api_Prop_o0_f3_fleetmake_propOrder_x2_ok (qa : Int) (qb : Int) (vi : Int) (s : (List api_Prop) × Int) (r : ((List api_Prop) × Int) ⊕ ((List api_Prop))) (hF : slices_insertionSortCmpFunc_api_Prop_o0_f3_fleetmake_propOrder_x2 qa s = some r) : Awp prog 1 53 (cL (cL (cR (cL (cL (cR (cL (cL (cR (cB f112)))))))))) (Out 1 (kk slices_insertionSortCmpFunc_api_Prop_o0_f3_fleetmake_propOrder_x2_k) (SS (slices_insertionSortCmpFunc_api_Prop_o0_f3_fleetmake_propOrder_x2_H qa qb vi) (slices_insertionSortCmpFunc_api_Prop_o0_f3_fleetmake_propOrder_x2_S qa qb vi)) r) (slices_insertionSortCmpFunc_api_Prop_o0_f3_fleetmake_propOrder_x2_H qa qb vi s) := by
  obtain ⟨vl3, vj1⟩ := s
  unfold slices_insertionSortCmpFunc_api_Prop_o0_f3_fleetmake_propOrder_x2 at hF
  refine awp_seq (awp_seq (awp_to (st' := slices_insertionSortCmpFunc_api_Prop_o0_f3_fleetmake_propOrder_x3_I qa qb vi vl3 vj1) (oT [] []) ?_))
  refine bE hF fun vx4_1 h6 hF => awp_sub (slices_insertionSortCmpFunc_api_Prop_o0_f3_fleetmake_propOrder_x3_ok qa qb vi vl3 vj1 h6) ?_
  refine cE hF (fun h7 hF => ?_) fun h7 hF => ?_
  · refine tT h7 (awp_skip (awp_seq (awp_block (bE hF fun vy17 h8 hF => bE hF fun vy18 h9 hF => bE hF fun vy19 h10 hF => aDw [0] ?_))))
    refine dR 8 ?_
    refine dI api_Prop.enc 0 h8 rfl ?_
    refine dX (x_ldE api_Prop.enc h8) ?_
    refine dR 2 ?_
    refine dI api_Prop.enc 0 h9 rfl ?_
    refine dX (x_ldE api_Prop.enc h9) ?_
    refine dI api_Prop.enc 0 h9 rfl ?_
    refine dW api_Prop.enc (api_Prop.mk vy17.Name (api_Value.mk vy17.Value.Kind vy17.Value.Flag vy17.Value.Number vy17.Value.Words)) h9 rfl ?_
    refine dI api_Prop.enc 0 h10 rfl ?_
    refine dW api_Prop.enc (api_Prop.mk vy18.Name (api_Value.mk vy18.Value.Kind vy18.Value.Flag vy18.Value.Number vy18.Value.Words)) h10 rfl ?_
    refine dE ?_
    exact gR 3 (oO hF [] [] rfl)
  · refine tF h7 (awp_exit ?_)
    exact oO hF [] [] rfl

def slices_insertionSortCmpFunc_api_Prop_o0_f3_fleetmake_propOrder_x1_k : (List api_Prop) → AEx
  | _ => .exit 0

def slices_insertionSortCmpFunc_api_Prop_o0_f3_fleetmake_propOrder_x1_S (qa : Int) (qb : Int) : (List api_Prop) → St
  | vl5 => Mem.st ⟨[(0, ⟨43, 5, List.map api_Prop.enc vl5⟩)], []⟩ (tl []) 1

def slices_insertionSortCmpFunc_api_Prop_o0_f3_fleetmake_propOrder_x1_H (qa : Int) (qb : Int) : (List api_Prop) × Int → St
  | (vl, vi) => Mem.st ⟨[(0, ⟨43, 5, List.map api_Prop.enc vl⟩)], []⟩ (tl [(0, .c (.own 0 none)), (1, .i qa), (2, .i qb), (3, .c (.fn 27 [])), (8, .i vi)]) 1

theorem slices_insertionSortCmpFunc_api_Prop_o0_f3_fleetmake_propOrder_x1_ok (qa : Int) (qb : Int) (s : (List api_Prop) × Int) (r : ((List api_Prop) × Int) ⊕ ((List api_Prop))) (hF : slices_insertionSortCmpFunc_api_Prop_o0_f3_fleetmake_propOrder_x1 qa qb s = some r) : Awp prog 1 53 (cL (cL (cR (cB f112)))) (Out 1 (kk slices_insertionSortCmpFunc_api_Prop_o0_f3_fleetmake_propOrder_x1_k) (SS (slices_insertionSortCmpFunc_api_Prop_o0_f3_fleetmake_propOrder_x1_H qa qb) (slices_insertionSortCmpFunc_api_Prop_o0_f3_fleetmake_propOrder_x1_S qa qb)) r) (slices_insertionSortCmpFunc_api_Prop_o0_f3_fleetmake_propOrder_x1_H qa qb s) := by
  obtain ⟨vl, vi⟩ := s
  unfold slices_insertionSortCmpFunc_api_Prop_o0_f3_fleetmake_propOrder_x1 at hF
  refine awp_seq (sR 3 (cE hF (fun h1 hF => ?_) fun h1 hF => ?_))
  · refine tT h1 (awp_skip (awp_seq (awp_block (sR 2 (awp_block (awp_to (st' := slices_insertionSortCmpFunc_api_Prop_o0_f3_fleetmake_propOrder_x2_H qa qb vi (vl, vi)) (oT [] []) ?_))))))
    refine bE hF fun vl4_1 h11 hF => awp_sub (awp_loop' (slices_insertionSortCmpFunc_api_Prop_o0_f3_fleetmake_propOrder_x2_H qa qb vi) slices_insertionSortCmpFunc_api_Prop_o0_f3_fleetmake_propOrder_x2_k (slices_insertionSortCmpFunc_api_Prop_o0_f3_fleetmake_propOrder_x2_S qa qb vi) (by intro x; exact fun h => nomatch h) h11 (slices_insertionSortCmpFunc_api_Prop_o0_f3_fleetmake_propOrder_x2_ok qa qb vi)) ?_
    exact gR 3 (oO hF [] [] rfl)
  · refine tF h1 (awp_exit ?_)
    exact oO hF [] [] rfl

def slices_insertionSortCmpFunc_api_Prop_o0_f3_fleetmake_propOrder_R (qdata : List api_Prop) (qa : Int) (qb : Int) (r : (List api_Prop)) : TV × Mem := (.tup [], ⟨[(0, ⟨43, 5, List.map api_Prop.enc r⟩)], []⟩)

theorem slices_insertionSortCmpFunc_api_Prop_o0_f3_fleetmake_propOrder_ok {qdata : List api_Prop} {qa : Int} {qb : Int} {r} (hF : slices_insertionSortCmpFunc_api_Prop_o0_f3_fleetmake_propOrder qdata qa qb = some r) : Holds prog 112 [.c (.own 0 none), .i qa, .i qb, .c (.fn 27 [])] ⟨[(0, ⟨43, 5, List.map api_Prop.enc qdata⟩)], []⟩ (Is (slices_insertionSortCmpFunc_api_Prop_o0_f3_fleetmake_propOrder_R qdata qa qb r)) := by
  unfold slices_insertionSortCmpFunc_api_Prop_o0_f3_fleetmake_propOrder at hF
  refine hW f112 53 1 1 ?_
  refine sR 3 (awp_block (awp_to (st' := slices_insertionSortCmpFunc_api_Prop_o0_f3_fleetmake_propOrder_x1_H qa qb (qdata, IntKind.wrap .i64 (qa + 1))) (oT [] []) ?_))
  refine bE hF fun vl5_1 h12 hF => awp_sub (awp_loop' (slices_insertionSortCmpFunc_api_Prop_o0_f3_fleetmake_propOrder_x1_H qa qb) slices_insertionSortCmpFunc_api_Prop_o0_f3_fleetmake_propOrder_x1_k (slices_insertionSortCmpFunc_api_Prop_o0_f3_fleetmake_propOrder_x1_S qa qb) (by intro x; exact fun h => nomatch h) h12 (slices_insertionSortCmpFunc_api_Prop_o0_f3_fleetmake_propOrder_x1_ok qa qb)) ?_
  exact oF hF [] []

/-! ### slices.pdqsortCmpFunc[beaconfleet/api.Prop] -/
def slices_pdqsortCmpFunc_api_Prop_o0_f4_fleetmake_propOrder_x1_k : (List api_Prop) → AEx
  | _ => .ret

def slices_pdqsortCmpFunc_api_Prop_o0_f4_fleetmake_propOrder_x1_S (qx : List api_Prop) (qx1 : Int) (qx2 : Int) (qx3 : Int) : (List api_Prop) → St
  | vl => Mem.st ⟨[(0, ⟨43, 5, List.map api_Prop.enc vl⟩)], []⟩ (tl []) 1

def slices_pdqsortCmpFunc_api_Prop_o0_f4_fleetmake_propOrder_x1_H (qx : List api_Prop) (qx1 : Int) (qx2 : Int) (qx3 : Int) : Unit → St
  | _ => Mem.st ⟨[(0, ⟨43, 5, List.map api_Prop.enc qx⟩)], []⟩ (tl [(0, .c (.own 0 none)), (1, .i qx1), (2, .i qx2), (3, .i qx3), (4, .c (.fn 27 [])), (10, .b true), (11, .b true)]) 1

theorem slices_pdqsortCmpFunc_api_Prop_o0_f4_fleetmake_propOrder_x1_ok (qx : List api_Prop) (qx1 : Int) (qx2 : Int) (qx3 : Int) (s : Unit) (r : (Unit) ⊕ ((List api_Prop))) (hF : slices_pdqsortCmpFunc_api_Prop_o0_f4_fleetmake_propOrder_x1 qx qx1 qx2 qx3 s = some r) : Awp prog 1 148 (cL (cL (cR (cR (cB f67))))) (Out 1 (kk slices_pdqsortCmpFunc_api_Prop_o0_f4_fleetmake_propOrder_x1_k) (SS (slices_pdqsortCmpFunc_api_Prop_o0_f4_fleetmake_propOrder_x1_H qx qx1 qx2 qx3) (slices_pdqsortCmpFunc_api_Prop_o0_f4_fleetmake_propOrder_x1_S qx qx1 qx2 qx3)) r) (slices_pdqsortCmpFunc_api_Prop_o0_f4_fleetmake_propOrder_x1_H qx qx1 qx2 qx3 s) := by
  unfold slices_pdqsortCmpFunc_api_Prop_o0_f4_fleetmake_propOrder_x1 at hF
  refine awp_block (sR 4 (awp_seq (sR 2 (cE hF (fun h1 hF => ?_) fun h1 hF => ?_))))
  · refine tT h1 (awp_seq (bE hF fun vl6_1 h2 hF => gE hF fun h3 hF => ?_))
    refine awp_region (aR 4 (aCp (slices_insertionSortCmpFunc_api_Prop_o0_f3_fleetmake_propOrder_ok h2) ⟨⟨rfl, rfl, pin1 h3⟩, trivial⟩ [] [] [] ?_))
    refine aE ?_
    exact awp_ret (oO hF [] [] rfl)
  · refine tF h1 (awp_skip (awp_seq (sR 2 (cE hF (fun h4 hF => ?_) fun h4 hF => ?_))))
    · exact tT h4 (awp_seq (nE hF))
    · exact tF h4 (awp_skip (awp_seq (sR 2 (tF rfl (awp_skip (awp_seq (nE hF)))))))

def slices_pdqsortCmpFunc_api_Prop_o0_f4_fleetmake_propOrder_R (qx : List api_Prop) (qx1 : Int) (qx2 : Int) (qx3 : Int) (r : (List api_Prop)) : TV × Mem := (.tup [], ⟨[(0, ⟨43, 5, List.map api_Prop.enc r⟩)], []⟩)

theorem slices_pdqsortCmpFunc_api_Prop_o0_f4_fleetmake_propOrder_ok {qx : List api_Prop} {qx1 : Int} {qx2 : Int} {qx3 : Int} {r} (hF : slices_pdqsortCmpFunc_api_Prop_o0_f4_fleetmake_propOrder qx qx1 qx2 qx3 = some r) : Holds prog 67 [.c (.own 0 none), .i qx1, .i qx2, .i qx3, .c (.fn 27 [])] ⟨[(0, ⟨43, 5, List.map api_Prop.enc qx⟩)], []⟩ (Is (slices_pdqsortCmpFunc_api_Prop_o0_f4_fleetmake_propOrder_R qx qx1 qx2 qx3 r)) := by
  unfold slices_pdqsortCmpFunc_api_Prop_o0_f4_fleetmake_propOrder at hF
  refine hW f67 148 1 1 ?_
  refine sR 1 (sR 1 (awp_block (awp_to (st' := slices_pdqsortCmpFunc_api_Prop_o0_f4_fleetmake_propOrder_x1_H qx qx1 qx2 qx3 ()) (oT [] []) ?_)))
  refine bE hF fun vl1 h7 hF => awp_sub (awp_loop' (slices_pdqsortCmpFunc_api_Prop_o0_f4_fleetmake_propOrder_x1_H qx qx1 qx2 qx3) slices_pdqsortCmpFunc_api_Prop_o0_f4_fleetmake_propOrder_x1_k (slices_pdqsortCmpFunc_api_Prop_o0_f4_fleetmake_propOrder_x1_S qx qx1 qx2 qx3) (by intro x; exact fun h => nomatch h) h7 (slices_pdqsortCmpFunc_api_Prop_o0_f4_fleetmake_propOrder_x1_ok qx qx1 qx2 qx3)) ?_
  exact oF hF [] []

/-! ### slices.SortFunc[[]beaconfleet/api.Prop,beaconfleet/api.Prop] -/
def slices_SortFunc_api_Prop_api_Prop_o0_f1_fleetmake_propOrder_R (qx : List api_Prop) (r : (List api_Prop)) : TV × Mem := (.tup [], ⟨[(0, ⟨43, 5, List.map api_Prop.enc r⟩)], []⟩)

theorem slices_SortFunc_api_Prop_api_Prop_o0_f1_fleetmake_propOrder_ok {qx : List api_Prop} {r} (hF : slices_SortFunc_api_Prop_api_Prop_o0_f1_fleetmake_propOrder qx = some r) : Holds prog 26 [.c (.own 0 none), .c (.fn 27 [])] ⟨[(0, ⟨43, 5, List.map api_Prop.enc qx⟩)], []⟩ (Is (slices_SortFunc_api_Prop_api_Prop_o0_f1_fleetmake_propOrder_R qx r)) := by
  unfold slices_SortFunc_api_Prop_api_Prop_o0_f1_fleetmake_propOrder at hF
  refine hW f26 14 1 1 ?_
  refine awp_seq (awp_region (aR 1 (aL api_Prop.enc qx (aR 1 (aE ?_)))))
  refine bE hF fun vr1 h1 hF => bE hF fun vl2 h2 hF => gE hF fun h3 hF => ?_
  refine awp_region (aR 4 (aC (bits_Len_ok h1) [] [] [] (aR 1 (aCp (slices_pdqsortCmpFunc_api_Prop_o0_f4_fleetmake_propOrder_ok h2) ⟨⟨rfl, rfl, pin1 h3⟩, trivial⟩ [] [] [] ?_))))
  refine aE ?_
  exact oF hF [] []

/-! ### unicode/utf8.RuneCountInString -/
def utf8_RuneCountInString_x1_k : Int → AEx
  | _ => .exit 0

def utf8_RuneCountInString_x1_S (qs : List UInt8) : Int → St
  | vn1 => Mem.st ⟨[], []⟩ (tl [(2, .i vn1)]) 0

def utf8_RuneCountInString_x1_H (qs : List UInt8) : Nat × Int → St
  | (vpos, vn) => Mem.st ⟨[], [(0, [.iters qs vpos])]⟩ (tl [(2, .i vn), (4, .c (.box 0 0))]) 1

theorem utf8_RuneCountInString_x1_ok (qs : List UInt8) (s : Nat × Int) (r : (Nat × Int) ⊕ (Int)) (hF : utf8_RuneCountInString_x1 qs s = some r) : Awp prog 0 10 (cL (cL (cR (cL (cR (cB f194)))))) (Out 0 (kk utf8_RuneCountInString_x1_k) (SS (utf8_RuneCountInString_x1_H qs) (utf8_RuneCountInString_x1_S qs)) r) (utf8_RuneCountInString_x1_H qs s) := by
  obtain ⟨vpos, vn⟩ := s
  unfold utf8_RuneCountInString_x1 at hF
  refine awp_seq (cE hF (fun h1 hF => ?_) fun h1 hF => ?_)
  · refine bE hF fun vd1 h2 hF => awp_region (aX (x_next 0 qs vpos h1 h2) (aR 1 (aE ?_)))
    exact awp_seq (tT rfl (awp_skip (awp_block (gR 3 (oO hF [] [] rfl)))))
  · refine awp_region (aX (x_nextE 0 qs vpos h1) (aR 1 (aE ?_)))
    refine awp_seq (tF rfl (awp_exit ?_))
    exact oO hF [] [] rfl

def utf8_RuneCountInString_R (qs : List UInt8) (r : Int) : TV × Mem := (.i r, ⟨[], []⟩)

theorem utf8_RuneCountInString_ok {qs : List UInt8} {r} (hF : utf8_RuneCountInString qs = some r) : Holds prog 194 [.c (.s qs)] ⟨[], []⟩ (Is (utf8_RuneCountInString_R qs r)) := by
  unfold utf8_RuneCountInString at hF
  refine hW f194 10 0 0 ?_
  refine sR 1 (awp_seq (sR 2 (awp_block (awp_to (st' := utf8_RuneCountInString_x1_H qs ((0 : Nat), 0)) (oT [(0, 2000)] []) ?_))))
  refine bE hF fun vn1_1 h3 hF => awp_sub (awp_loop' (utf8_RuneCountInString_x1_H qs) utf8_RuneCountInString_x1_k (utf8_RuneCountInString_x1_S qs) (by intro x; exact fun h => nomatch h) h3 (utf8_RuneCountInString_x1_ok qs)) ?_
  exact sR 2 (awp_ret (oF hF [] []))

/-! ### unicode/utf8.decodeRuneInStringSlow -/
def utf8_decodeRuneInStringSlow_R (qx : List UInt8) (r : Unit) : TV × Mem := (.tup [.one (.d (.int .i32 65533)), .one (.i 0)], ⟨[], []⟩)

theorem utf8_decodeRuneInStringSlow_ok {qx : List UInt8} {r} (hF : utf8_decodeRuneInStringSlow qx = some r) : Holds prog 208 [.c (.s qx)] ⟨[], []⟩ (Is (utf8_decodeRuneInStringSlow_R qx r)) := by
  unfold utf8_decodeRuneInStringSlow at hF
  refine hW f208 117 0 0 ?_
  refine sR 2 (sR 3 (awp_seq (sR 2 (cE hF (fun h1 hF => ?_) fun h1 hF => ?_))))
  · exact tT h1 (sR 2 (awp_ret (oF hF [] [])))
  · refine tF h1 (awp_skip (awp_seq (bE hF fun vc h2 hF => awp_region (aR 1 (aX (x_idxS h2) (aR 1 (aE ?_)))))))
    exact awp_seq (nE hF)

/-! ### unicode/utf8.DecodeRuneInString -/
def utf8_DecodeRuneInString_x1_S (qs : List UInt8) : Bool → St
  | vx => Mem.st ⟨[], []⟩ (tl [(0, .c (.s qs)), (10, .b vx)]) 0

def utf8_DecodeRuneInString_x1_I (qs : List UInt8) : St := Mem.st ⟨[], []⟩ (tl [(0, .c (.s qs))]) 0

theorem utf8_DecodeRuneInString_x1_ok (qs : List UInt8) {r} (hF : utf8_DecodeRuneInString_x1 qs = some r) : Awp prog 0 19 (cL (cL (cR (cB f178)))) (Out 0 nrm (utf8_DecodeRuneInString_x1_S qs) r) (utf8_DecodeRuneInString_x1_I qs) := by
  unfold utf8_DecodeRuneInString_x1 at hF
  refine cE hF (fun h1 hF => ?_) fun h1 hF => ?_
  · refine bE hF fun vc h2 hF => awp_region (aR 1 (aB h1 (aR 2 (aX (x_idxS h2) (aR 2 (aE ?_))))))
    exact oO hF [] [] rfl
  · refine awp_region (aR 1 (aB h1 (aR 5 (aE ?_))))
    exact oO hF [] [] rfl

def utf8_DecodeRuneInString_R (qs : List UInt8) (r : Int × Int) : TV × Mem := (.tup [.one (.d (.int .i32 r.1)), .one (.i r.2)], ⟨[], []⟩)

theorem utf8_DecodeRuneInString_ok {qs : List UInt8} {r} (hF : utf8_DecodeRuneInString qs = some r) : Holds prog 178 [.c (.s qs)] ⟨[], []⟩ (Is (utf8_DecodeRuneInString_R qs r)) := by
  unfold utf8_DecodeRuneInString at hF
  refine hW f178 19 0 0 ?_
  refine sR 2 (awp_seq (awp_seq (awp_to (st' := utf8_DecodeRuneInString_x1_I qs) (oT [] []) ?_)))
  refine bE hF fun vx1 h3 hF => awp_sub (utf8_DecodeRuneInString_x1_ok qs h3) ?_
  refine cE hF (fun h4 hF => ?_) fun h4 hF => ?_
  · refine tT h4 (awp_seq (bE hF fun vc1 h5 hF => awp_region (aR 1 (aX (x_idxS h5) (aR 3 (aE ?_))))))
    exact awp_ret (oF hF [] [])
  · refine tF h4 (bE hF fun _ h6 hF => awp_region (aR 1 (aC (utf8_decodeRuneInStringSlow_ok h6) [] [] [] (aR 5 (aE ?_)))))
    exact awp_ret (oF hF [] [])

/-! ### strings.explode -/
def strings_explode_x2_S (qs : List UInt8) (qn : Int) (vr : Int) : Bool → St
  | vx => Mem.st ⟨[], []⟩ (tl [(0, .c (.s qs)), (1, .i qn), (5, .i vr), (18, .b vx)]) 0

def strings_explode_x2_I (qs : List UInt8) (qn : Int) (vr : Int) : St := Mem.st ⟨[], []⟩ (tl [(0, .c (.s qs)), (1, .i qn), (5, .i vr)]) 0

theorem strings_explode_x2_ok (qs : List UInt8) (qn : Int) (vr : Int) {r} (hF : strings_explode_x2 qn vr = some r) : Awp prog 0 50 (cL (cL (cR (cR (cB f158))))) (Out 0 nrm (strings_explode_x2_S qs qn vr) r) (strings_explode_x2_I qs qn vr) := by
  unfold strings_explode_x2 at hF
  refine cE hF (fun h2 hF => ?_) fun h2 hF => ?_
  · refine awp_region (aR 1 (aB h2 (aR 5 (aE ?_))))
    exact oO hF [] [] rfl
  · refine awp_region (aR 1 (aB h2 (aR 5 (aE ?_))))
    exact oO hF [] [] rfl

def strings_explode_x1_S (qs : List UInt8) (qn : Int) (vr : Int) : Int → St
  | vn => Mem.st ⟨[], []⟩ (tl [(0, .c (.s qs)), (1, .i vn)]) 0

def strings_explode_x1_I (qs : List UInt8) (qn : Int) (vr : Int) : St := Mem.st ⟨[], []⟩ (tl [(0, .c (.s qs)), (1, .i qn), (5, .i vr)]) 0

theorem strings_explode_x1_ok (qs : List UInt8) (qn : Int) (vr : Int) {r} (hF : strings_explode_x1 qn vr = some r) : Awp prog 0 50 (cL (cR (cR (cB f158)))) (Out 0 nrm (strings_explode_x1_S qs qn vr) r) (strings_explode_x1_I qs qn vr) := by
  unfold strings_explode_x1 at hF
  refine awp_seq (awp_to (st' := strings_explode_x2_I qs qn vr) (oT [] []) ?_)
  refine bE hF fun vx1 h3 hF => awp_sub (strings_explode_x2_ok qs qn vr h3) ?_
  refine cE hF (fun h4 hF => ?_) fun h4 hF => ?_
  · exact tT h4 (gR 2 (oO hF [] [] rfl))
  · exact tF h4 (awp_skip (oO hF [] [] rfl))

def strings_explode_x3_k : ((List UInt8) × (List (List UInt8))) → AEx
  | _ => .exit 0

def strings_explode_x3_S (vn1 : Int) : ((List UInt8) × (List (List UInt8))) → St
  | (vs5, va1) => Mem.st ⟨[(0, ⟨9, 1, List.map encS va1⟩)], []⟩ (tl [(0, .c (.s vs5)), (1, .i vn1), (6, .c (.own 0 none))]) 1

def strings_explode_x3_H (vn1 : Int) : (List UInt8) × (List (List UInt8)) × Int → St
  | (vs, va, vi) => Mem.st ⟨[(0, ⟨9, 1, List.map encS va⟩)], []⟩ (tl [(0, .c (.s vs)), (1, .i vn1), (6, .c (.own 0 none)), (7, .i vi)]) 1

theorem strings_explode_x3_ok (vn1 : Int) (s : (List UInt8) × (List (List UInt8)) × Int) (r : ((List UInt8) × (List (List UInt8)) × Int) ⊕ (((List UInt8) × (List (List UInt8))))) (hF : strings_explode_x3 vn1 s = some r) : Awp prog 0 50 (cL (cL (cR (cL (cR (cR (cR (cR (cB f158))))))))) (Out 0 (kk strings_explode_x3_k) (SS (strings_explode_x3_H vn1) (strings_explode_x3_S vn1)) r) (strings_explode_x3_H vn1 s) := by
  obtain ⟨vs, va, vi⟩ := s
  unfold strings_explode_x3 at hF
  refine awp_seq (sR 4 (cE hF (fun h7 hF => ?_) fun h7 hF => ?_))
  · refine tT h7 (awp_skip (awp_seq (awp_block (awp_seq (bE hF fun x h8 hF => ?_)))))
    obtain ⟨vr2, vr1_2⟩ := x
    refine awp_region (aR 1 (aC (utf8_DecodeRuneInString_ok h8) [] [] [] (aR 5 (aE ?_))))
    refine awp_seq (bE hF fun vs3 h9 hF => bE hF fun vy1 h10 hF => awp_region (aR 4 (aX (x_sliceS h9) (aX (x_idxO encS 0 h10) (aX (x_stE encS vs3 h10) (aE ?_))))))
    refine bE hF fun vs4 h11 hF => awp_region (aR 2 (aX (x_sliceS h11) (aR 1 (aE ?_))))
    exact gR 3 (oO hF [] [] rfl)
  · refine tF h7 (awp_exit ?_)
    exact oO hF [] [] rfl

def strings_explode_x4_S (vn1 : Int) (vs5_1 : List UInt8) (va1_1 : List (List UInt8)) : (List (List UInt8)) → St
  | va2 => Mem.st ⟨[(0, ⟨9, 1, List.map encS va2⟩)], []⟩ (tl [(6, .c (.own 0 none))]) 1

def strings_explode_x4_I (vn1 : Int) (vs5_1 : List UInt8) (va1_1 : List (List UInt8)) : St := Mem.st ⟨[(0, ⟨9, 1, List.map encS va1_1⟩)], []⟩ (tl [(0, .c (.s vs5_1)), (1, .i vn1), (6, .c (.own 0 none))]) 1

theorem strings_explode_x4_ok (vn1 : Int) (vs5_1 : List UInt8) (va1_1 : List (List UInt8)) {r} (hF : strings_explode_x4 vn1 vs5_1 va1_1 = some r) : Awp prog 0 50 (cL (cR (cR (cR (cR (cR (cB f158))))))) (Out 0 nrm (strings_explode_x4_S vn1 vs5_1 va1_1) r) (strings_explode_x4_I vn1 vs5_1 va1_1) := by
  unfold strings_explode_x4 at hF
  refine sR 2 (cE hF (fun h13 hF => ?_) fun h13 hF => ?_)
  · refine tT h13 (bE hF fun vy2 h14 hF => awp_region (aR 4 (aX (x_idxO encS 0 h14) (aX (x_stE encS vs5_1 h14) (aE ?_)))))
    exact oO hF [] [] rfl
  · exact tF h13 (awp_skip (oO hF [] [] rfl))

def strings_explode_R (qs : List UInt8) (qn : Int) (r : (List (List UInt8))) : TV × Mem := (.c (.own 0 none), ⟨[(0, ⟨9, 1, List.map encS r⟩)], []⟩)

theorem strings_explode_ok {qs : List UInt8} {qn : Int} {r} (hF : strings_explode qs qn = some r) : Holds prog 158 [.c (.s qs), .i qn] ⟨[], []⟩ (Is (strings_explode_R qs qn r)) := by
  unfold strings_explode at hF
  refine hW f158 50 0 0 ?_
  refine sR 1 (awp_seq (bE hF fun vr h1 hF => awp_region (aR 1 (aC (utf8_RuneCountInString_ok h1) [] [] [] (aR 1 (aE ?_))))))
  refine awp_seq (awp_to (st' := strings_explode_x1_I qs qn vr) (oT [] []) ?_)
  refine bE hF fun vn1 h5 hF => awp_sub (strings_explode_x1_ok qs qn vr h5) ?_
  refine awp_seq (gE hF fun h6 hF => ?_)
  refine awp_region (aR 1 (aX (x_mk encS ([] : List UInt8) h6) (aR 1 (aE ?_))))
  refine awp_seq (sR 1 (awp_block (awp_to (st' := strings_explode_x3_H vn1 (qs, List.replicate vn1.toNat ([] : List UInt8), 0)) (oT [(0, 1000)] []) ?_)))
  refine bE hF fun x h12 hF => ?_
  obtain ⟨vs5_1, va1_1⟩ := x
  refine awp_sub (awp_loop' (strings_explode_x3_H vn1) strings_explode_x3_k (strings_explode_x3_S vn1) (by intro x; exact fun h => nomatch h) h12 (strings_explode_x3_ok vn1)) ?_
  refine awp_seq (awp_to (st' := strings_explode_x4_I vn1 vs5_1 va1_1) (oT [] []) ?_)
  refine bE hF fun va2_1 h15 hF => awp_sub (strings_explode_x4_ok vn1 vs5_1 va1_1 h15) ?_
  exact sR 2 (awp_ret (oF hF [] []))

/-! ### internal/stringslite.IndexByte -/
def stringslite_IndexByte_R (qs : List UInt8) (qc : Int) (r : Unit) : TV × Mem := (.i (Lib.indexByte qs qc.toNat.toUInt8), ⟨[], []⟩)

theorem stringslite_IndexByte_ok {qs : List UInt8} {qc : Int} {r} (hF : stringslite_IndexByte qs qc = some r) : Holds prog 197 [.c (.s qs), .c (.d (.int .u8 qc))] ⟨[], []⟩ (Is (stringslite_IndexByte_R qs qc r)) := by
  unfold stringslite_IndexByte at hF
  refine hW f197 8 0 0 ?_
  refine sR 1 (awp_seq (awp_region (aR 2 (aS (does_indexByte (g := 219) (fn := f219) (a := qs) (c := qc) rfl (by kernel_rfl) (by kernel_rfl) (by kernel_rfl) (by kernel_rfl) (by kernel_rfl) (by kernel_rfl)) ?_))))
  refine aR 1 (aE ?_)
  exact awp_ret (oF hF [] [])

/-! ### internal/stringslite.Index -/
def stringslite_Index_x1_S (qx : List UInt8) (qx1 : List UInt8) : Bool → St
  | vx => Mem.st ⟨[], []⟩ (tl [(0, .c (.s qx)), (1, .c (.s qx1)), (5, .i (qx1.length : Int)), (16, .b vx)]) 0

def stringslite_Index_x1_I (qx : List UInt8) (qx1 : List UInt8) : St := Mem.st ⟨[], []⟩ (tl [(0, .c (.s qx)), (1, .c (.s qx1)), (5, .i (qx1.length : Int))]) 0

theorem stringslite_Index_x1_ok (qx : List UInt8) (qx1 : List UInt8) {r} (hF : stringslite_Index_x1 qx qx1 = some r) : Awp prog 0 143 (cL (cL (cL (cR (cR (cB f196)))))) (Out 0 nrm (stringslite_Index_x1_S qx qx1) r) (stringslite_Index_x1_I qx qx1) := by
  unfold stringslite_Index_x1 at hF
  refine cE hF (fun h1 hF => ?_) fun h1 hF => ?_
  · refine awp_region (aR 1 (aB h1 (aR 6 (aE ?_))))
    exact oO hF [] [] rfl
  · refine awp_region (aR 1 (aB h1 (aR 6 (aE ?_))))
    exact oO hF [] [] rfl

def stringslite_Index_R (qx : List UInt8) (qx1 : List UInt8) (r : Int) : TV × Mem := (.i r, ⟨[], []⟩)

theorem stringslite_Index_ok {qx : List UInt8} {qx1 : List UInt8} {r} (hF : stringslite_Index qx qx1 = some r) : Holds prog 196 [.c (.s qx), .c (.s qx1)] ⟨[], []⟩ (Is (stringslite_Index_R qx qx1 r)) := by
  unfold stringslite_Index at hF
  refine hW f196 143 0 0 ?_
  refine sR 1 (sR 3 (awp_seq (awp_block (awp_seq (awp_to (st' := stringslite_Index_x1_I qx qx1) (oT [] []) ?_)))))
  refine bE hF fun vx1 h2 hF => awp_sub (stringslite_Index_x1_ok qx qx1 h2) ?_
  refine cE hF (fun h3 hF => ?_) fun h3 hF => ?_
  · exact tT h3 (sR 1 (awp_ret (oF hF [] [])))
  · refine tF h3 (sR 3 (cE hF (fun h4 hF => ?_) fun h4 hF => ?_))
    · refine tT h4 (awp_seq (bE hF fun vc h5 hF => bE hF fun _ h6 hF => awp_region (aR 2 (aX (x_idxS h5) (aC (stringslite_IndexByte_ok h6) [] [] [] (aR 1 (aE ?_)))))))
      exact awp_ret (oF hF [] [])
    · refine tF h4 (sR 5 (cE hF (fun h7 hF => ?_) fun h7 hF => ?_))
      · exact tT h7 (sR 1 (awp_ret (oF hF [] [])))
      · exact tF h7 (awp_seq (nE hF))

/-! ### strings.Index -/
def strings_Index_R (qs : List UInt8) (qsubstr : List UInt8) (r : Int) : TV × Mem := (.i r, ⟨[], []⟩)

theorem strings_Index_ok {qs : List UInt8} {qsubstr : List UInt8} {r} (hF : strings_Index qs qsubstr = some r) : Holds prog 160 [.c (.s qs), .c (.s qsubstr)] ⟨[], []⟩ (Is (strings_Index_R qs qsubstr r)) := by
  unfold strings_Index at hF
  refine hW f160 8 0 0 ?_
  refine sR 1 (awp_seq (bE hF fun vr h1 hF => awp_region (aR 2 (aC (stringslite_Index_ok h1) [] [] [] (aR 1 (aE ?_))))))
  exact awp_ret (oF hF [] [])

/-! ### strings.Count -/
def strings_Count_x1_k : Int → AEx
  | _ => .ret

def strings_Count_x1_S (qsubstr : List UInt8) : Int → St
  | vx => Mem.st ⟨[], []⟩ (tl [(4, .i vx)]) 0

def strings_Count_x1_H (qsubstr : List UInt8) : (List UInt8) × Int → St
  | (vs, vn) => Mem.st ⟨[], []⟩ (tl [(0, .c (.s vs)), (1, .c (.s qsubstr)), (5, .i vn)]) 0

theorem strings_Count_x1_ok (qsubstr : List UInt8) (s : (List UInt8) × Int) (r : ((List UInt8) × Int) ⊕ (Int)) (hF : strings_Count_x1 qsubstr s = some r) : Awp prog 0 34 (cL (cL (cR (cR (cR (cR (cB f159))))))) (Out 0 (kk strings_Count_x1_k) (SS (strings_Count_x1_H qsubstr) (strings_Count_x1_S qsubstr)) r) (strings_Count_x1_H qsubstr s) := by
  obtain ⟨vs, vn⟩ := s
  unfold strings_Count_x1 at hF
  refine awp_block (awp_seq (bE hF fun vr1_1 h5 hF => awp_region (aR 2 (aC (strings_Index_ok h5) [] [] [] (aR 1 (aE ?_))))))
  refine awp_seq (sR 2 (cE hF (fun h6 hF => ?_) fun h6 hF => ?_))
  · exact tT h6 (sR 2 (awp_ret (oO hF [] [] rfl)))
  · refine tF h6 (awp_skip (sR 3 (bE hF fun vs2 h7 hF => awp_region (aR 5 (aX (x_sliceS h7) (aR 1 (aE ?_)))))))
    exact oO hF [] [] rfl

def strings_Count_R (qs : List UInt8) (qsubstr : List UInt8) (r : Int) : TV × Mem := (.i r, ⟨[], []⟩)

theorem strings_Count_ok {qs : List UInt8} {qsubstr : List UInt8} {r} (hF : strings_Count qs qsubstr = some r) : Holds prog 159 [.c (.s qs), .c (.s qsubstr)] ⟨[], []⟩ (Is (strings_Count_R qs qsubstr r)) := by
  unfold strings_Count at hF
  refine hW f159 34 0 0 ?_
  refine sR 1 (awp_seq (sR 3 (cE hF (fun h1 hF => ?_) fun h1 hF => ?_)))
  · refine tT h1 (awp_seq (bE hF fun vr h2 hF => awp_region (aR 1 (aC (utf8_RuneCountInString_ok h2) [] [] [] (aR 2 (aE ?_))))))
    exact awp_ret (oF hF [] [])
  · refine tF h1 (awp_skip (awp_seq (sR 3 (cE hF (fun h3 hF => ?_) fun h3 hF => ?_))))
    · refine tT h3 (awp_seq (bE hF fun vc h4 hF => awp_region (aR 2 (aX (x_idxS h4) (aS (does_count (g := 195) (fn := f195) (a := qs) (c := (vc.toNat : Int)) rfl (by kernel_rfl) (by kernel_rfl) (by kernel_rfl) (by kernel_rfl) (by kernel_rfl) (by kernel_rfl)) ?_)))))
      refine aR 1 (aE ?_)
      exact awp_ret (oF hF [] [])
    · refine tF h3 (awp_skip (sR 1 (awp_block (awp_to (st' := strings_Count_x1_H qsubstr (qs, 0)) (oT [] []) ?_))))
      refine bE hF fun vx1 h8 hF => awp_sub (awp_loop' (strings_Count_x1_H qsubstr) strings_Count_x1_k (strings_Count_x1_S qsubstr) (by intro x; exact fun h => nomatch h) h8 (strings_Count_x1_ok qsubstr)) ?_
      exact oF hF [] []

/-! ### strings.genSplit -/
def strings_genSplit_x1_S (qx : List UInt8) (qx1 : List UInt8) (qx2 : Int) (qx3 : Int) : Int → St
  | vx => Mem.st ⟨[], []⟩ (tl [(0, .c (.s qx)), (1, .c (.s qx1)), (2, .i qx2), (3, .i vx)]) 0

def strings_genSplit_x1_I (qx : List UInt8) (qx1 : List UInt8) (qx2 : Int) (qx3 : Int) : St := Mem.st ⟨[], []⟩ (tl [(0, .c (.s qx)), (1, .c (.s qx1)), (2, .i qx2), (3, .i qx3)]) 0

theorem strings_genSplit_x1_ok (qx : List UInt8) (qx1 : List UInt8) (qx2 : Int) (qx3 : Int) {r} (hF : strings_genSplit_x1 qx qx1 qx3 = some r) : Awp prog 0 66 (cL (cR (cR (cR (cB f122))))) (Out 0 nrm (strings_genSplit_x1_S qx qx1 qx2 qx3) r) (strings_genSplit_x1_I qx qx1 qx2 qx3) := by
  unfold strings_genSplit_x1 at hF
  refine sR 2 (cE hF (fun h4 hF => ?_) fun h4 hF => ?_)
  · refine tT h4 (bE hF fun vr2 h5 hF => awp_region (aR 2 (aC (strings_Count_ok h5) [] [] [] (aR 2 (aE ?_)))))
    exact oO hF [] [] rfl
  · exact tF h4 (awp_skip (oO hF [] [] rfl))

def strings_genSplit_x2_k : ((List UInt8) × (List (List UInt8)) × Int) → AEx
  | _ => .exit 0

def strings_genSplit_x2_S (qx : List UInt8) (qx1 : List UInt8) (qx2 : Int) (vx1 : Int) : ((List UInt8) × (List (List UInt8)) × Int) → St
  | (vx5, vx6, vx7) => Mem.st ⟨[(0, ⟨9, 1, List.map encS vx6⟩)], []⟩ (tl [(0, .c (.s vx5)), (9, .c (.own 0 none)), (10, .i vx7)]) 1

def strings_genSplit_x2_H (qx : List UInt8) (qx1 : List UInt8) (qx2 : Int) (vx1 : Int) : (List UInt8) × (List (List UInt8)) × Int → St
  | (vx2, vx3, vx4) => Mem.st ⟨[(0, ⟨9, 1, List.map encS vx3⟩)], []⟩ (tl [(0, .c (.s vx2)), (1, .c (.s qx1)), (2, .i qx2), (3, .i (IntKind.wrap .i64 ((imin vx1 (IntKind.wrap .i64 ((qx.length : Int) + 1))) - 1))), (9, .c (.own 0 none)), (10, .i vx4)]) 1

theorem strings_genSplit_x2_ok (qx : List UInt8) (qx1 : List UInt8) (qx2 : Int) (vx1 : Int) (s : (List UInt8) × (List (List UInt8)) × Int) (r : ((List UInt8) × (List (List UInt8)) × Int) ⊕ (((List UInt8) × (List (List UInt8)) × Int))) (hF : strings_genSplit_x2 qx qx1 qx2 vx1 s = some r) : Awp prog 0 66 (cL (cL (cL (cR (cR (cR (cR (cR (cR (cR (cR (cB f122)))))))))))) (Out 0 (kk strings_genSplit_x2_k) (SS (strings_genSplit_x2_H qx qx1 qx2 vx1) (strings_genSplit_x2_S qx qx1 qx2 vx1)) r) (strings_genSplit_x2_H qx qx1 qx2 vx1 s) := by
  obtain ⟨vx2, vx3, vx4⟩ := s
  unfold strings_genSplit_x2 at hF
  refine awp_seq (sR 3 (cE hF (fun h8 hF => ?_) fun h8 hF => ?_))
  · refine tT h8 (awp_skip (awp_block (awp_seq (bE hF fun vr1_1 h9 hF => awp_region (aR 2 (aC (strings_Index_ok h9) [] [] [] (aR 1 (aE ?_))))))))
    refine awp_seq (sR 2 (cE hF (fun h10 hF => ?_) fun h10 hF => ?_))
    · refine tT h10 (awp_exit ?_)
      exact oO hF [] [] rfl
    · refine tF h10 (awp_skip (awp_seq (bE hF fun vs2 h11 hF => bE hF fun vy1 h12 hF => awp_region (aR 6 (aX (x_sliceS h11) (aX (x_idxO encS 0 h12) (aX (x_stE encS vs2 h12) (aE ?_))))))))
      refine awp_seq (bE hF fun vs3 h13 hF => awp_region (aR 5 (aX (x_sliceS h13) (aR 1 (aE ?_)))))
      exact gR 3 (oO hF [] [] rfl)
  · refine tF h8 (awp_exit ?_)
    exact oO hF [] [] rfl

def strings_genSplit_R (qx : List UInt8) (qx1 : List UInt8) (qx2 : Int) (qx3 : Int) (r : (List (List UInt8))) : TV × Mem := (.c (.own 0 none), ⟨[(0, ⟨9, 1, List.map encS r⟩)], []⟩)

theorem strings_genSplit_ok {qx : List UInt8} {qx1 : List UInt8} {qx2 : Int} {qx3 : Int} {r} (hF : strings_genSplit qx qx1 qx2 qx3 = some r) : Holds prog 122 [.c (.s qx), .c (.s qx1), .i qx2, .i qx3] ⟨[], []⟩ (Is (strings_genSplit_R qx qx1 qx2 qx3 r)) := by
  unfold strings_genSplit at hF
  refine hW f122 66 0 0 ?_
  refine sR 1 (awp_seq (sR 2 (cE hF (fun h1 hF => ?_) fun h1 hF => ?_)))
  · exact tT h1 (sR 1 (awp_ret (oF hF [] [0])))
  · refine tF h1 (awp_skip (awp_seq (sR 2 (cE hF (fun h2 hF => ?_) fun h2 hF => ?_))))
    · refine tT h2 (awp_seq (bE hF fun vr3 h3 hF => awp_region (aR 2 (aC (strings_explode_ok h3) [] [] [] (aR 1 (aE ?_))))))
      exact awp_ret (oF hF [(0, 7000)] [])
    · refine tF h2 (awp_skip (awp_seq (awp_to (st' := strings_genSplit_x1_I qx qx1 qx2 qx3) (oT [] []) ?_)))
      refine bE hF fun vx1 h6 hF => awp_sub (strings_genSplit_x1_ok qx qx1 qx2 qx3 h6) ?_
      refine sR 6 (awp_seq (gE hF fun h7 hF => ?_))
      refine awp_region (aR 1 (aX (x_mk encS ([] : List UInt8) h7) (aR 1 (aE ?_))))
      refine sR 3 (sR 1 (awp_seq (awp_block (awp_to (st' := strings_genSplit_x2_H qx qx1 qx2 vx1 (qx, List.replicate (imin vx1 (IntKind.wrap .i64 ((qx.length : Int) + 1))).toNat ([] : List UInt8), 0)) (oT [(0, 7000)] []) ?_))))
      refine bE hF fun x h14 hF => ?_
      obtain ⟨vx5_1, vx6_1, vx7_1⟩ := x
      refine awp_sub (awp_loop' (strings_genSplit_x2_H qx qx1 qx2 vx1) strings_genSplit_x2_k (strings_genSplit_x2_S qx qx1 qx2 vx1) (by intro x; exact fun h => nomatch h) h14 (strings_genSplit_x2_ok qx qx1 qx2 vx1)) ?_
      refine awp_seq (bE hF fun vy2 h15 hF => awp_region (aR 3 (aX (x_idxO encS 0 h15) (aX (x_stE encS vx5_1 h15) (aE ?_)))))
      refine awp_seq (gE hF fun h16 hF => ?_)
      refine awp_region (aR 3 (aT encS 0 h16 rfl ?_))
      refine aR 1 (aE ?_)
      exact awp_ret (oF hF [(0, 8001)] [])

/-! ### strings.Split -/
def strings_Split_R (qs : List UInt8) (qsep : List UInt8) (r : (List (List UInt8))) : TV × Mem := (.c (.own 0 none), ⟨[(0, ⟨9, 1, List.map encS r⟩)], []⟩)

theorem strings_Split_ok {qs : List UInt8} {qsep : List UInt8} {r} (hF : strings_Split qs qsep = some r) : Holds prog 71 [.c (.s qs), .c (.s qsep)] ⟨[], []⟩ (Is (strings_Split_R qs qsep r)) := by
  unfold strings_Split at hF
  refine hW f71 8 0 0 ?_
  refine sR 1 (awp_seq (bE hF fun vr h1 hF => awp_region (aR 2 (aC (strings_genSplit_ok h1) [] [] [] (aR 1 (aE ?_))))))
  exact awp_ret (oF hF [(0, 3000)] [])

/-! ### beaconfleet/fleetref2.in -/
def fleetref2_in_x1_S (qn : Int) (qlow : Int) (qhigh : Int) : Bool → St
  | vx => Mem.st ⟨[], []⟩ (tl [(6, .b vx)]) 0

def fleetref2_in_x1_I (qn : Int) (qlow : Int) (qhigh : Int) : St := Mem.st ⟨[], []⟩ (tl [(0, .i qn), (1, .i qlow), (2, .i qhigh)]) 0

theorem fleetref2_in_x1_ok (qn : Int) (qlow : Int) (qhigh : Int) {r} (hF : fleetref2_in_x1 qn qlow qhigh = some r) : Awp prog 0 15 (cL (cR (cB f75))) (Out 0 nrm (fleetref2_in_x1_S qn qlow qhigh) r) (fleetref2_in_x1_I qn qlow qhigh) := by
  unfold fleetref2_in_x1 at hF
  refine cE hF (fun h1 hF => ?_) fun h1 hF => ?_
  · refine awp_region (aR 2 (aB h1 (aR 6 (aE ?_))))
    exact oO hF [] [] rfl
  · refine awp_region (aR 2 (aB h1 (aR 6 (aE ?_))))
    exact oO hF [] [] rfl

def fleetref2_in_R (qn : Int) (qlow : Int) (qhigh : Int) (r : Bool) : TV × Mem := (.b r, ⟨[], []⟩)

theorem fleetref2_in_ok {qn : Int} {qlow : Int} {qhigh : Int} {r} (hF : fleetref2_in qn qlow qhigh = some r) : Holds prog 75 [.i qn, .i qlow, .i qhigh] ⟨[], []⟩ (Is (fleetref2_in_R qn qlow qhigh r)) := by
  unfold fleetref2_in at hF
  refine hW f75 15 0 0 ?_
  refine sR 1 (awp_seq (awp_to (st' := fleetref2_in_x1_I qn qlow qhigh) (oT [] []) ?_))
  refine bE hF fun vx1 h2 hF => awp_sub (fleetref2_in_x1_ok qn qlow qhigh h2) ?_
  exact awp_ret (oF hF [] [])

/-! ### strings.IndexByte -/
def strings_IndexByte_R (qs : List UInt8) (qc : Int) (r : Unit) : TV × Mem := (.i (Lib.indexByte qs qc.toNat.toUInt8), ⟨[], []⟩)

theorem strings_IndexByte_ok {qs : List UInt8} {qc : Int} {r} (hF : strings_IndexByte qs qc = some r) : Holds prog 161 [.c (.s qs), .c (.d (.int .u8 qc))] ⟨[], []⟩ (Is (strings_IndexByte_R qs qc r)) := by
  unfold strings_IndexByte at hF
  refine hW f161 8 0 0 ?_
  refine sR 1 (awp_seq (bE hF fun _ h1 hF => awp_region (aR 2 (aC (stringslite_IndexByte_ok h1) [] [] [] (aR 1 (aE ?_))))))
  exact awp_ret (oF hF [] [])

/-! ### beaconfleet/fleetref2.only -/
def fleetref2_only_x1_k : Unit ⊕ Unit → AEx
  | .inl _ => .exit 0
  | .inr _ => .ret

def fleetref2_only_x1_S (qs : List UInt8) (qsome : List UInt8) : Unit ⊕ Unit → St
  | .inl _ => Mem.st ⟨[], []⟩ (tl []) 0
  | .inr _ => Mem.st ⟨[], []⟩ (tl [(4, .b false)]) 0

def fleetref2_only_x1_H (qs : List UInt8) (qsome : List UInt8) : Int → St
  | vx => Mem.st ⟨[], []⟩ (tl [(0, .c (.s qs)), (1, .c (.s qsome)), (7, .i (qs.length : Int)), (8, .i vx)]) 0

theorem fleetref2_only_x1_ok (qs : List UInt8) (qsome : List UInt8) (vx : Int) (r : (Int) ⊕ (Unit ⊕ Unit)) (hF : fleetref2_only_x1 qs qsome vx = some r) : Awp prog 0 18 (cL (cL (cR (cL (cR (cB f124)))))) (Out 0 (kk fleetref2_only_x1_k) (SS (fleetref2_only_x1_H qs qsome) (fleetref2_only_x1_S qs qsome)) r) (fleetref2_only_x1_H qs qsome vx) := by
  unfold fleetref2_only_x1 at hF
  refine sR 1 (awp_seq (cE hF (fun h1 hF => ?_) fun h1 hF => ?_))
  · refine tT h1 (awp_skip (awp_seq (awp_block (sR 2 (awp_seq (bE hF fun vc1 h2 hF => bE hF fun _ h3 hF => awp_region (aR 3 (aX (x_idxS h2) (aC (strings_IndexByte_ok h3) [] [] [] (aR 1 (aE ?_)))))))))))
    refine cE hF (fun h4 hF => ?_) fun h4 hF => ?_
    · exact tT h4 (sR 1 (awp_ret (oO hF [] [] rfl)))
    · exact tF h4 (awp_skip (gR 2 (oO hF [] [] rfl)))
  · refine tF h1 (awp_exit ?_)
    exact oO hF [] [] rfl

def fleetref2_only_R (qs : List UInt8) (qsome : List UInt8) (r : Bool) : TV × Mem := (.b r, ⟨[], []⟩)

theorem fleetref2_only_ok {qs : List UInt8} {qsome : List UInt8} {r} (hF : fleetref2_only qs qsome = some r) : Holds prog 124 [.c (.s qs), .c (.s qsome)] ⟨[], []⟩ (Is (fleetref2_only_R qs qsome r)) := by
  unfold fleetref2_only at hF
  refine hW f124 18 0 0 ?_
  refine sR 1 (awp_seq (sR 3 (awp_block (awp_to (st' := fleetref2_only_x1_H qs qsome 0) (oT [] []) ?_))))
  refine bE hF fun x h5 hF => ?_
  rcases x with _ | _
  · refine awp_sub (awp_loop' (fleetref2_only_x1_H qs qsome) fleetref2_only_x1_k (fleetref2_only_x1_S qs qsome) (by intro x; rcases x with x | x <;> exact fun h => nomatch h) h5 (fleetref2_only_x1_ok qs qsome)) ?_
    exact sR 1 (awp_ret (oF hF [] []))
  · refine awp_sub (awp_loop' (fleetref2_only_x1_H qs qsome) fleetref2_only_x1_k (fleetref2_only_x1_S qs qsome) (by intro x; rcases x with x | x <;> exact fun h => nomatch h) h5 (fleetref2_only_x1_ok qs qsome)) ?_
    exact oF hF [] []

/-! ### beaconfleet/fleetref2.Key -/
def fleetref2_Key_x1_S (qs : List UInt8) : Bool → St
  | vx => Mem.st ⟨[], []⟩ (tl [(2, .b vx)]) 0

def fleetref2_Key_x1_I (qs : List UInt8) : St := Mem.st ⟨[], []⟩ (tl [(0, .c (.s qs))]) 0

theorem fleetref2_Key_x1_ok (qs : List UInt8) {r} (hF : fleetref2_Key_x1 qs = some r) : Awp prog 0 15 (cL (cR (cB f74))) (Out 0 nrm (fleetref2_Key_x1_S qs) r) (fleetref2_Key_x1_I qs) := by
  unfold fleetref2_Key_x1 at hF
  refine bE hF fun vr h1 hF => cE hF (fun h2 hF => ?_) fun h2 hF => ?_
  · refine bE hF fun vs h3 hF => bE hF fun vr1 h4 hF => cE hF (fun h5 hF => ?_) fun h5 hF => ?_
    · refine bE hF fun vr2 h6 hF => awp_region (aR 2 (aCb (fleetref2_in_ok h1) [] [] [] h2 ?_))
      refine aR 2 (aX (x_sliceS h3) (aCb (fleetref2_only_ok h4) [] [] [] h5 ?_))
      refine aR 3 (aC (fleetref2_only_ok h6) [] [] [] (aR 2 (aE ?_)))
      exact oO hF [] [] rfl
    · refine awp_region (aR 2 (aCb (fleetref2_in_ok h1) [] [] [] h2 ?_))
      refine aR 2 (aX (x_sliceS h3) (aCb (fleetref2_only_ok h4) [] [] [] h5 ?_))
      refine aR 6 (aE ?_)
      exact oO hF [] [] rfl
  · refine awp_region (aR 2 (aCb (fleetref2_in_ok h1) [] [] [] h2 ?_))
    refine aR 10 (aE ?_)
    exact oO hF [] [] rfl

def fleetref2_Key_R (qs : List UInt8) (r : Bool) : TV × Mem := (.b r, ⟨[], []⟩)

theorem fleetref2_Key_ok {qs : List UInt8} {r} (hF : fleetref2_Key qs = some r) : Holds prog 74 [.c (.s qs)] ⟨[], []⟩ (Is (fleetref2_Key_R qs r)) := by
  unfold fleetref2_Key at hF
  refine hW f74 15 0 0 ?_
  refine sR 1 (awp_seq (awp_to (st' := fleetref2_Key_x1_I qs) (oT [] []) ?_))
  refine bE hF fun vx1 h7 hF => awp_sub (fleetref2_Key_x1_ok qs h7) ?_
  exact awp_ret (oF hF [] [])

/-! ### beaconfleet/fleetref2.PropName$1 -/
def fleetref2_PropName_1_R (qk : List UInt8) (r : Bool) : TV × Mem := (.b r, ⟨[], []⟩)

theorem fleetref2_PropName_1_ok {qk : List UInt8} {r} (hF : fleetref2_PropName_1 qk = some r) : Holds prog 73 [.c (.s qk)] ⟨[], []⟩ (Is (fleetref2_PropName_1_R qk r)) := by
  unfold fleetref2_PropName_1 at hF
  refine hW f73 6 0 0 ?_
  refine sR 1 (awp_seq (bE hF fun vr3 h1 hF => awp_region (aR 1 (aC (fleetref2_Key_ok h1) [] [] [] (aR 2 (aE ?_))))))
  exact awp_ret (oF hF [] [])

/-! ### slices.IndexFunc[[]string,string] -/
def slices_IndexFunc_string_string_f1_fleetref2_PropName_1_x1_k : Unit ⊕ Int → AEx
  | .inl _ => .exit 0
  | .inr _ => .ret

def slices_IndexFunc_string_string_f1_fleetref2_PropName_1_x1_S (qs : List (List UInt8)) : Unit ⊕ Int → St
  | .inl _ => Mem.st ⟨[], []⟩ (tl []) 0
  | .inr vx1 => Mem.st ⟨[], []⟩ (tl [(4, .i vx1)]) 0

def slices_IndexFunc_string_string_f1_fleetref2_PropName_1_x1_H (qs : List (List UInt8)) : Int → St
  | vx => Mem.st ⟨[], []⟩ (tl [(0, .c (.l encS qs)), (1, .c (.fn 73 [])), (7, .i (qs.length : Int)), (8, .i vx)]) 0

theorem slices_IndexFunc_string_string_f1_fleetref2_PropName_1_x1_ok (qs : List (List UInt8)) (vx : Int) (r : (Int) ⊕ (Unit ⊕ Int)) (hF : slices_IndexFunc_string_string_f1_fleetref2_PropName_1_x1 qs vx = some r) : Awp prog 0 19 (cL (cL (cR (cL (cR (cB f123)))))) (Out 0 (kk slices_IndexFunc_string_string_f1_fleetref2_PropName_1_x1_k) (SS (slices_IndexFunc_string_string_f1_fleetref2_PropName_1_x1_H qs) (slices_IndexFunc_string_string_f1_fleetref2_PropName_1_x1_S qs)) r) (slices_IndexFunc_string_string_f1_fleetref2_PropName_1_x1_H qs vx) := by
  unfold slices_IndexFunc_string_string_f1_fleetref2_PropName_1_x1 at hF
  refine sR 1 (awp_seq (cE hF (fun h1 hF => ?_) fun h1 hF => ?_))
  · refine tT h1 (awp_skip (awp_seq (awp_block (sR 2 (awp_seq (bE hF fun vy1 h2 hF => bE hF fun vr1 h3 hF => awp_region (aR 3 (aX (x_idx encS h2) (aR 1 (aC (fleetref2_PropName_1_ok h3) [] [] [] (aE ?_)))))))))))
    refine cE hF (fun h4 hF => ?_) fun h4 hF => ?_
    · exact tT h4 (sR 2 (awp_ret (oO hF [] [] rfl)))
    · exact tF h4 (awp_skip (gR 2 (oO hF [] [] rfl)))
  · refine tF h1 (awp_exit ?_)
    exact oO hF [] [] rfl

def slices_IndexFunc_string_string_f1_fleetref2_PropName_1_R (qs : List (List UInt8)) (r : Int) : TV × Mem := (.i r, ⟨[], []⟩)

theorem slices_IndexFunc_string_string_f1_fleetref2_PropName_1_ok {qs : List (List UInt8)} {r} (hF : slices_IndexFunc_string_string_f1_fleetref2_PropName_1 qs = some r) : Holds prog 123 [.c (.l encS qs), .c (.fn 73 [])] ⟨[], []⟩ (Is (slices_IndexFunc_string_string_f1_fleetref2_PropName_1_R qs r)) := by
  unfold slices_IndexFunc_string_string_f1_fleetref2_PropName_1 at hF
  refine hW f123 19 0 0 ?_
  refine sR 1 (awp_seq (awp_seq (awp_region (aR 1 (aL encS qs (aR 1 (aE ?_)))))))
  refine awp_block (awp_to (st' := slices_IndexFunc_string_string_f1_fleetref2_PropName_1_x1_H qs 0) (oT [] []) ?_)
  refine bE hF fun x h5 hF => ?_
  rcases x with _ | vx1_1
  · refine awp_sub (awp_loop' (slices_IndexFunc_string_string_f1_fleetref2_PropName_1_x1_H qs) slices_IndexFunc_string_string_f1_fleetref2_PropName_1_x1_k (slices_IndexFunc_string_string_f1_fleetref2_PropName_1_x1_S qs) (by intro x; rcases x with x | x <;> exact fun h => nomatch h) h5 (slices_IndexFunc_string_string_f1_fleetref2_PropName_1_x1_ok qs)) ?_
    exact sR 1 (awp_ret (oF hF [] []))
  · refine awp_sub (awp_loop' (slices_IndexFunc_string_string_f1_fleetref2_PropName_1_x1_H qs) slices_IndexFunc_string_string_f1_fleetref2_PropName_1_x1_k (slices_IndexFunc_string_string_f1_fleetref2_PropName_1_x1_S qs) (by intro x; rcases x with x | x <;> exact fun h => nomatch h) h5 (slices_IndexFunc_string_string_f1_fleetref2_PropName_1_x1_ok qs)) ?_
    exact oF hF [] []

/-! ### slices.ContainsFunc[[]string,string] -/
def slices_ContainsFunc_string_string_f1_fleetref2_PropName_1_R (qs : List (List UInt8)) (r : Bool) : TV × Mem := (.b r, ⟨[], []⟩)

theorem slices_ContainsFunc_string_string_f1_fleetref2_PropName_1_ok {qs : List (List UInt8)} {r} (hF : slices_ContainsFunc_string_string_f1_fleetref2_PropName_1 qs = some r) : Holds prog 72 [.c (.l encS qs), .c (.fn 73 [])] ⟨[], []⟩ (Is (slices_ContainsFunc_string_string_f1_fleetref2_PropName_1_R qs r)) := by
  unfold slices_ContainsFunc_string_string_f1_fleetref2_PropName_1 at hF
  refine hW f72 9 0 0 ?_
  refine sR 1 (awp_seq (bE hF fun vr2 h1 hF => awp_region (aR 2 (aC (slices_IndexFunc_string_string_f1_fleetref2_PropName_1_ok h1) [] [] [] (aR 2 (aE ?_))))))
  exact awp_ret (oF hF [] [])

/-! ### beaconfleet/fleetref2.PropName -/
def fleetref2_PropName_x1_S (vr1 : List (List UInt8)) : Bool → St
  | vx => Mem.st ⟨[], []⟩ (tl [(2, .b vx)]) 0

def fleetref2_PropName_x1_I (vr1 : List (List UInt8)) : St := Mem.st ⟨[], []⟩ (tl [(3, .c (.l encS vr1))]) 0

theorem fleetref2_PropName_x1_ok (vr1 : List (List UInt8)) {r} (hF : fleetref2_PropName_x1 vr1 = some r) : Awp prog 0 14 (cL (cR (cR (cB f31)))) (Out 0 nrm (fleetref2_PropName_x1_S vr1) r) (fleetref2_PropName_x1_I vr1) := by
  unfold fleetref2_PropName_x1 at hF
  refine cE hF (fun h2 hF => ?_) fun h2 hF => ?_
  · refine bE hF fun vr h3 hF => awp_region (aR 1 (aL encS vr1 (aB h2 (aR 2 (aC (slices_ContainsFunc_string_string_f1_fleetref2_PropName_1_ok h3) [] [] [] (aR 3 (aE ?_)))))))
    exact oO hF [] [] rfl
  · refine awp_region (aR 1 (aL encS vr1 (aB h2 (aR 6 (aE ?_)))))
    exact oO hF [] [] rfl

def fleetref2_PropName_R (qs : List UInt8) (r : Bool) : TV × Mem := (.b r, ⟨[], []⟩)

theorem fleetref2_PropName_ok {qs : List UInt8} {r} (hF : fleetref2_PropName qs = some r) : Holds prog 31 [.c (.s qs)] ⟨[], []⟩ (Is (fleetref2_PropName_R qs r)) := by
  unfold fleetref2_PropName at hF
  refine hW f31 14 0 0 ?_
  refine sR 1 (awp_seq (bE hF fun vr1 h1 hF => awp_region (aR 1 (aC (strings_Split_ok h1) [] [] [] (aR 1 (aE ?_))))))
  refine awp_to (oT (m := ⟨[], []⟩) (ts := [(3, .c (.l encS vr1))]) (nx := 0) [] []) ?_
  refine awp_seq (awp_to (st' := fleetref2_PropName_x1_I vr1) (oT [] []) ?_)
  refine bE hF fun vx1 h4 hF => awp_sub (fleetref2_PropName_x1_ok vr1 h4) ?_
  exact awp_ret (oF hF [] [])

/-! ### unicode/utf8.ValidString -/
def utf8_ValidString_R (qx : List UInt8) (r : Bool) : TV × Mem := (.b r, ⟨[], []⟩)

theorem utf8_ValidString_ok {qx : List UInt8} {r} (hF : utf8_ValidString qx = some r) : Holds prog 125 [.c (.s qx)] ⟨[], []⟩ (Is (utf8_ValidString_R qx r)) := by
  unfold utf8_ValidString at hF
  refine gE hF fun h1 hF => ?_
  obtain rfl := Option.some.inj hF
  have h2 : qx.length ≤ 9223372036854775807 := by simpa using h1
  refine holds_lib (args := [.str qx]) (tv := .b (Lib.validD qx)) ⟨_, cB Go.Proofs.Tryz.f125, Go.Proofs.Tryz.func125, by kernel_rfl, by kernel_rfl⟩ rfl rfl fun w ht => ?_
  refine (Go.Proofs.Any.utf8_ValidString Go.Proofs.Tryz.lays196 ⟨qx.toArray⟩ w (by simpa [ByteArray.size] using h2) (utf8_tabs (ht 1 _ rfl) (ht 2 _ rfl) (by kernel_rfl) (by kernel_rfl))).mono ?_
  rintro e w' ⟨rfl, hb⟩
  exact ⟨rfl, hb⟩

/-! ### beaconfleet/fleetref2.Printed$1 -/
def fleetref2_Printed_1_x1_S (qr : Int) : Bool → St
  | vx => Mem.st ⟨[], []⟩ (tl [(2, .b vx)]) 0

def fleetref2_Printed_1_x1_I (qr : Int) : St := Mem.st ⟨[], []⟩ (tl [(0, .c (.d (.int .i32 qr)))]) 0

theorem fleetref2_Printed_1_x1_ok (qr : Int) {r} (hF : fleetref2_Printed_1_x1 qr = some r) : Awp prog 0 9 (cL (cR (cB f127))) (Out 0 nrm (fleetref2_Printed_1_x1_S qr) r) (fleetref2_Printed_1_x1_I qr) := by
  unfold fleetref2_Printed_1_x1 at hF
  refine cE hF (fun h1 hF => ?_) fun h1 hF => ?_
  · refine awp_region (aR 1 (aB h1 (aR 5 (aE ?_))))
    exact oO hF [] [] rfl
  · refine awp_region (aR 1 (aB h1 (aR 5 (aE ?_))))
    exact oO hF [] [] rfl

def fleetref2_Printed_1_R (qr : Int) (r : Bool) : TV × Mem := (.b r, ⟨[], []⟩)

theorem fleetref2_Printed_1_ok {qr : Int} {r} (hF : fleetref2_Printed_1 qr = some r) : Holds prog 127 [.c (.d (.int .i32 qr))] ⟨[], []⟩ (Is (fleetref2_Printed_1_R qr r)) := by
  unfold fleetref2_Printed_1 at hF
  refine hW f127 9 0 0 ?_
  refine sR 1 (awp_seq (awp_to (st' := fleetref2_Printed_1_x1_I qr) (oT [] []) ?_))
  refine bE hF fun vx1 h2 hF => awp_sub (fleetref2_Printed_1_x1_ok qr h2) ?_
  exact awp_ret (oF hF [] [])

/-! ### strings.indexFunc -/
def strings_indexFunc_f1_fleetref2_Printed_1_x1_k : Unit ⊕ Int → AEx
  | .inl _ => .exit 0
  | .inr _ => .ret

def strings_indexFunc_f1_fleetref2_Printed_1_x1_S (qs : List UInt8) (qtruth : Bool) : Unit ⊕ Int → St
  | .inl _ => Mem.st ⟨[], []⟩ (tl []) 0
  | .inr vx => Mem.st ⟨[], []⟩ (tl [(6, .i vx)]) 0

def strings_indexFunc_f1_fleetref2_Printed_1_x1_H (qs : List UInt8) (qtruth : Bool) : Nat → St
  | vpos => Mem.st ⟨[], [(0, [.iters qs vpos])]⟩ (tl [(1, .c (.fn 127 [])), (2, .b qtruth), (10, .c (.box 0 0))]) 1

theorem strings_indexFunc_f1_fleetref2_Printed_1_x1_ok (qs : List UInt8) (qtruth : Bool) (vpos : Nat) (r : (Nat) ⊕ (Unit ⊕ Int)) (hF : strings_indexFunc_f1_fleetref2_Printed_1_x1 qs qtruth vpos = some r) : Awp prog 0 21 (cL (cL (cR (cL (cR (cB f198)))))) (Out 0 (kk strings_indexFunc_f1_fleetref2_Printed_1_x1_k) (SS (strings_indexFunc_f1_fleetref2_Printed_1_x1_H qs qtruth) (strings_indexFunc_f1_fleetref2_Printed_1_x1_S qs qtruth)) r) (strings_indexFunc_f1_fleetref2_Printed_1_x1_H qs qtruth vpos) := by
  unfold strings_indexFunc_f1_fleetref2_Printed_1_x1 at hF
  refine awp_seq (cE hF (fun h1 hF => ?_) fun h1 hF => ?_)
  · refine bE hF fun vd1 h2 hF => awp_region (aX (x_next 0 qs vpos h1 h2) (aR 1 (aE ?_)))
    refine awp_seq (tT rfl (awp_skip (awp_block (sR 4 (awp_seq (bE hF fun vr1 h3 hF => awp_region (aR 2 (aC (fleetref2_Printed_1_ok h3) [] [] [] (aR 2 (aE ?_))))))))))
    refine cE hF (fun h4 hF => ?_) fun h4 hF => ?_
    · exact tT h4 (sR 2 (awp_ret (oO hF [] [] rfl)))
    · exact tF h4 (awp_skip (oO hF [] [] rfl))
  · refine awp_region (aX (x_nextE 0 qs vpos h1) (aR 1 (aE ?_)))
    refine awp_seq (tF rfl (awp_exit ?_))
    exact oO hF [] [] rfl

def strings_indexFunc_f1_fleetref2_Printed_1_R (qs : List UInt8) (qtruth : Bool) (r : Int) : TV × Mem := (.i r, ⟨[], []⟩)

theorem strings_indexFunc_f1_fleetref2_Printed_1_ok {qs : List UInt8} {qtruth : Bool} {r} (hF : strings_indexFunc_f1_fleetref2_Printed_1 qs qtruth = some r) : Holds prog 198 [.c (.s qs), .c (.fn 127 []), .b qtruth] ⟨[], []⟩ (Is (strings_indexFunc_f1_fleetref2_Printed_1_R qs qtruth r)) := by
  unfold strings_indexFunc_f1_fleetref2_Printed_1 at hF
  refine hW f198 21 0 0 ?_
  refine sR 1 (awp_seq (sR 2 (awp_block (awp_to (st' := strings_indexFunc_f1_fleetref2_Printed_1_x1_H qs qtruth (0 : Nat)) (oT [(0, 2000)] []) ?_))))
  refine bE hF fun x h5 hF => ?_
  rcases x with _ | vx1
  · refine awp_sub (awp_loop' (strings_indexFunc_f1_fleetref2_Printed_1_x1_H qs qtruth) strings_indexFunc_f1_fleetref2_Printed_1_x1_k (strings_indexFunc_f1_fleetref2_Printed_1_x1_S qs qtruth) (by intro x; rcases x with x | x <;> exact fun h => nomatch h) h5 (strings_indexFunc_f1_fleetref2_Printed_1_x1_ok qs qtruth)) ?_
    exact sR 1 (awp_ret (oF hF [] []))
  · refine awp_sub (awp_loop' (strings_indexFunc_f1_fleetref2_Printed_1_x1_H qs qtruth) strings_indexFunc_f1_fleetref2_Printed_1_x1_k (strings_indexFunc_f1_fleetref2_Printed_1_x1_S qs qtruth) (by intro x; rcases x with x | x <;> exact fun h => nomatch h) h5 (strings_indexFunc_f1_fleetref2_Printed_1_x1_ok qs qtruth)) ?_
    exact oF hF [] []

/-! ### strings.IndexFunc -/
def strings_IndexFunc_f1_fleetref2_Printed_1_R (qs : List UInt8) (r : Int) : TV × Mem := (.i r, ⟨[], []⟩)

theorem strings_IndexFunc_f1_fleetref2_Printed_1_ok {qs : List UInt8} {r} (hF : strings_IndexFunc_f1_fleetref2_Printed_1 qs = some r) : Holds prog 163 [.c (.s qs), .c (.fn 127 [])] ⟨[], []⟩ (Is (strings_IndexFunc_f1_fleetref2_Printed_1_R qs r)) := by
  unfold strings_IndexFunc_f1_fleetref2_Printed_1 at hF
  refine hW f163 8 0 0 ?_
  refine sR 1 (awp_seq (bE hF fun vr2 h1 hF => awp_region (aR 2 (aC (strings_indexFunc_f1_fleetref2_Printed_1_ok h1) [] [] [] (aR 1 (aE ?_))))))
  exact awp_ret (oF hF [] [])

/-! ### strings.ContainsFunc -/
def strings_ContainsFunc_f1_fleetref2_Printed_1_R (qs : List UInt8) (r : Bool) : TV × Mem := (.b r, ⟨[], []⟩)

theorem strings_ContainsFunc_f1_fleetref2_Printed_1_ok {qs : List UInt8} {r} (hF : strings_ContainsFunc_f1_fleetref2_Printed_1 qs = some r) : Holds prog 126 [.c (.s qs), .c (.fn 127 [])] ⟨[], []⟩ (Is (strings_ContainsFunc_f1_fleetref2_Printed_1_R qs r)) := by
  unfold strings_ContainsFunc_f1_fleetref2_Printed_1 at hF
  refine hW f126 9 0 0 ?_
  refine sR 1 (awp_seq (bE hF fun vr h1 hF => awp_region (aR 2 (aC (strings_IndexFunc_f1_fleetref2_Printed_1_ok h1) [] [] [] (aR 2 (aE ?_))))))
  exact awp_ret (oF hF [] [])

/-! ### beaconfleet/fleetref2.Printed -/
def fleetref2_Printed_x1_S (qs : List UInt8) : Bool → St
  | vx => Mem.st ⟨[], []⟩ (tl [(2, .b vx)]) 0

def fleetref2_Printed_x1_I (qs : List UInt8) : St := Mem.st ⟨[], []⟩ (tl [(0, .c (.s qs))]) 0

theorem fleetref2_Printed_x1_ok (qs : List UInt8) {r} (hF : fleetref2_Printed_x1 qs = some r) : Awp prog 0 10 (cL (cR (cB f76))) (Out 0 nrm (fleetref2_Printed_x1_S qs) r) (fleetref2_Printed_x1_I qs) := by
  unfold fleetref2_Printed_x1 at hF
  refine bE hF fun vr h1 hF => cE hF (fun h2 hF => ?_) fun h2 hF => ?_
  · refine bE hF fun vr1 h3 hF => awp_region (aR 1 (aCb (utf8_ValidString_ok h1) [] [] [] h2 ?_))
    refine aR 2 (aC (strings_ContainsFunc_f1_fleetref2_Printed_1_ok h3) [] [] [] (aR 3 (aE ?_)))
    exact oO hF [] [] rfl
  · refine awp_region (aR 1 (aCb (utf8_ValidString_ok h1) [] [] [] h2 ?_))
    refine aR 6 (aE ?_)
    exact oO hF [] [] rfl

def fleetref2_Printed_R (qs : List UInt8) (r : Bool) : TV × Mem := (.b r, ⟨[], []⟩)

theorem fleetref2_Printed_ok {qs : List UInt8} {r} (hF : fleetref2_Printed qs = some r) : Holds prog 76 [.c (.s qs)] ⟨[], []⟩ (Is (fleetref2_Printed_R qs r)) := by
  unfold fleetref2_Printed at hF
  refine hW f76 10 0 0 ?_
  refine sR 1 (awp_seq (awp_to (st' := fleetref2_Printed_x1_I qs) (oT [] []) ?_))
  refine bE hF fun vx1 h4 hF => awp_sub (fleetref2_Printed_x1_ok qs h4) ?_
  exact awp_ret (oF hF [] [])

/-! ### beaconfleet/fleetref2.ValueFault -/
def fleetref2_ValueFault_x1_S (qv : api_Value) : api_Value → St
  | vplain => Mem.st ⟨[], [(0, [.i qv.Kind, .t qv.Flag, .i qv.Number, .s qv.Words]), (1, [.i vplain.Kind, .t vplain.Flag, .i vplain.Number, .s vplain.Words])]⟩ (tl [(1, .c (.box 0 0)), (3, .c (.box 1 0))]) 2

def fleetref2_ValueFault_x1_I (qv : api_Value) : St := Mem.st ⟨[], [(0, [.i qv.Kind, .t qv.Flag, .i qv.Number, .s qv.Words]), (1, [.i qv.Kind, .t false, .i 0, .s ([] : List UInt8)])]⟩ (tl [(1, .c (.box 0 0)), (3, .c (.box 1 0))]) 2

theorem fleetref2_ValueFault_x1_ok (qv : api_Value) {r} (hF : fleetref2_ValueFault_x1 qv = some r) : Awp prog 0 47 (cL (cR (cR (cR (cB f32))))) (Out 0 nrm (fleetref2_ValueFault_x1_S qv) r) (fleetref2_ValueFault_x1_I qv) := by
  unfold fleetref2_ValueFault_x1 at hF
  refine sR 2 (awp_block (sR 2 (cE hF (fun h3 hF => ?_) fun h3 hF => ?_)))
  · exact tT h3 (gR 4 (oO hF [] [] rfl))
  · refine tF h3 (sR 2 (cE hF (fun h4 hF => ?_) fun h4 hF => ?_))
    · exact tT h4 (gR 4 (oO hF [] [] rfl))
    · refine tF h4 (sR 2 (cE hF (fun h5 hF => ?_) fun h5 hF => ?_))
      · exact tT h5 (gR 4 (oO hF [] [] rfl))
      · exact tF h5 (awp_skip (oO hF [] [] rfl))

def fleetref2_ValueFault_R (qv : api_Value) (r : Int) : TV × Mem := (.i r, ⟨[], []⟩)

theorem fleetref2_ValueFault_ok {qv : api_Value} {r} (hF : fleetref2_ValueFault qv = some r) : Holds prog 32 [.v (.agg [.i qv.Kind, .t qv.Flag, .i qv.Number, .s qv.Words])] ⟨[], []⟩ (Is (fleetref2_ValueFault_R qv r)) := by
  unfold fleetref2_ValueFault at hF
  refine hW f32 47 0 0 ?_
  refine sR 2 (awp_seq (awp_seq (bE hF fun vr h1 hF => awp_region (aR 2 (aC (fleetref2_in_ok h1) [] [] [] (aR 1 (aE ?_)))))))
  refine cE hF (fun h2 hF => ?_) fun h2 hF => ?_
  · exact tT h2 (sR 1 (awp_ret (oF hF [] [])))
  · refine tF h2 (awp_skip (sR 5 (awp_seq (awp_to (st' := fleetref2_ValueFault_x1_I qv) (oT [(1, 9000)] []) ?_))))
    refine bE hF fun vplain1 h6 hF => awp_sub (fleetref2_ValueFault_x1_ok qv h6) ?_
    refine awp_seq (awp_block (awp_seq (awp_region (aR 2 (aS (does_eqS (op := .neq) (xs := [.int .i64 vplain1.Kind, .bool vplain1.Flag, .int .i64 vplain1.Number, .str vplain1.Words]) (ys := [.int .i64 qv.Kind, .bool qv.Flag, .int .i64 qv.Number, .str qv.Words]) (b := (decide (vplain1.Kind = qv.Kind) && ((vplain1.Flag == qv.Flag) && (decide (vplain1.Number = qv.Number) && (decide (vplain1.Words = qv.Words) && true))))) (c := (!(decide (vplain1.Kind = qv.Kind) && ((vplain1.Flag == qv.Flag) && (decide (vplain1.Number = qv.Number) && (decide (vplain1.Words = qv.Words) && true)))))) rfl (.inr ⟨rfl, rfl⟩) (by kernel_rfl) (by kernel_rfl) (by kernel_rfl) (by kernel_rfl) (by kernel_rfl) (by kernel_rfl)) ?_)))))
    refine aR 1 (aE ?_)
    refine cE hF (fun h7 hF => ?_) fun h7 hF => ?_
    · exact tT h7 (sR 1 (awp_ret (oF hF [] [])))
    · refine tF h7 (awp_seq (bE hF fun vr1 h8 hF => awp_region (aR 2 (aC (fleetref2_in_ok h8) [] [] [] (aR 2 (aE ?_))))))
      refine cE hF (fun h9 hF => ?_) fun h9 hF => ?_
      · exact tT h9 (sR 1 (awp_ret (oF hF [] [])))
      · refine tF h9 (sR 5 (cE hF (fun h10 hF => ?_) fun h10 hF => ?_))
        · exact tT h10 (sR 1 (awp_ret (oF hF [] [])))
        · refine tF h10 (awp_seq (bE hF fun vr2 h11 hF => awp_region (aR 2 (aC (fleetref2_Printed_ok h11) [] [] [] (aR 2 (aE ?_))))))
          refine cE hF (fun h12 hF => ?_) fun h12 hF => ?_
          · exact tT h12 (sR 1 (awp_ret (oF hF [] [])))
          · exact tF h12 (awp_skip (sR 1 (awp_ret (oF hF [] []))))

/-! ### internal/stringslite.HasPrefix -/
def stringslite_HasPrefix_x1_S (qs : List UInt8) (qprefix : List UInt8) : Bool → St
  | vx => Mem.st ⟨[], []⟩ (tl [(4, .b vx)]) 0

def stringslite_HasPrefix_x1_I (qs : List UInt8) (qprefix : List UInt8) : St := Mem.st ⟨[], []⟩ (tl [(0, .c (.s qs)), (1, .c (.s qprefix))]) 0

theorem stringslite_HasPrefix_x1_ok (qs : List UInt8) (qprefix : List UInt8) {r} (hF : stringslite_HasPrefix_x1 qs qprefix = some r) : Awp prog 0 18 (cL (cR (cB f128))) (Out 0 nrm (stringslite_HasPrefix_x1_S qs qprefix) r) (stringslite_HasPrefix_x1_I qs qprefix) := by
  unfold stringslite_HasPrefix_x1 at hF
  refine cE hF (fun h1 hF => ?_) fun h1 hF => ?_
  · refine bE hF fun vs h2 hF => awp_region (aR 4 (aB h1 (aR 4 (aX (x_sliceS h2) (aR 4 (aE ?_))))))
    exact oO hF [] [] rfl
  · refine awp_region (aR 4 (aB h1 (aR 9 (aE ?_))))
    exact oO hF [] [] rfl

def stringslite_HasPrefix_R (qs : List UInt8) (qprefix : List UInt8) (r : Bool) : TV × Mem := (.b r, ⟨[], []⟩)

theorem stringslite_HasPrefix_ok {qs : List UInt8} {qprefix : List UInt8} {r} (hF : stringslite_HasPrefix qs qprefix = some r) : Holds prog 128 [.c (.s qs), .c (.s qprefix)] ⟨[], []⟩ (Is (stringslite_HasPrefix_R qs qprefix r)) := by
  unfold stringslite_HasPrefix at hF
  refine hW f128 18 0 0 ?_
  refine sR 1 (awp_seq (awp_to (st' := stringslite_HasPrefix_x1_I qs qprefix) (oT [] []) ?_))
  refine bE hF fun vx1 h3 hF => awp_sub (stringslite_HasPrefix_x1_ok qs qprefix h3) ?_
  exact awp_ret (oF hF [] [])

/-! ### strings.HasPrefix -/
def strings_HasPrefix_R (qs : List UInt8) (qprefix : List UInt8) (r : Bool) : TV × Mem := (.b r, ⟨[], []⟩)

theorem strings_HasPrefix_ok {qs : List UInt8} {qprefix : List UInt8} {r} (hF : strings_HasPrefix qs qprefix = some r) : Holds prog 78 [.c (.s qs), .c (.s qprefix)] ⟨[], []⟩ (Is (strings_HasPrefix_R qs qprefix r)) := by
  unfold strings_HasPrefix at hF
  refine hW f78 8 0 0 ?_
  refine sR 1 (awp_seq (bE hF fun vr h1 hF => awp_region (aR 2 (aC (stringslite_HasPrefix_ok h1) [] [] [] (aR 1 (aE ?_))))))
  exact awp_ret (oF hF [] [])

/-! ### beaconfleet/fleetref2.above -/
def fleetref2_above_R (qa : List UInt8) (qb : List UInt8) (r : Bool) : TV × Mem := (.b r, ⟨[], []⟩)

theorem fleetref2_above_ok {qa : List UInt8} {qb : List UInt8} {r} (hF : fleetref2_above qa qb = some r) : Holds prog 35 [.c (.s qa), .c (.s qb)] ⟨[], []⟩ (Is (fleetref2_above_R qa qb r)) := by
  unfold fleetref2_above at hF
  refine hW f35 9 0 0 ?_
  refine sR 1 (awp_seq (gE hF fun h1 hF => ?_))
  refine bE hF fun vr1 h2 hF => awp_region (aR 2 (aX (x_cat h1) (aC (strings_HasPrefix_ok h2) [] [] [] (aR 1 (aE ?_)))))
  exact awp_ret (oF hF [] [])

/-! ### beaconfleet/fleetref2.PropsFault$1 -/
def fleetref2_PropsFault_1_R (qq : api_Prop) (qx : api_Prop) (r : Bool) : TV × Mem := (.b r, ⟨[], [(0, [.s qx.Name, .i qx.Value.Kind, .t qx.Value.Flag, .i qx.Value.Number, .s qx.Value.Words])]⟩)

theorem fleetref2_PropsFault_1_ok {qq : api_Prop} {qx : api_Prop} {r} (hF : fleetref2_PropsFault_1 qq qx = some r) : Holds prog 34 [.v (.agg [.s qq.Name, .i qq.Value.Kind, .t qq.Value.Flag, .i qq.Value.Number, .s qq.Value.Words]), .c (.box 0 0)] ⟨[], [(0, [.s qx.Name, .i qx.Value.Kind, .t qx.Value.Flag, .i qx.Value.Number, .s qx.Value.Words])]⟩ (Is (fleetref2_PropsFault_1_R qq qx r)) := by
  unfold fleetref2_PropsFault_1 at hF
  refine hW f34 9 1 1 ?_
  refine sR 2 (awp_seq (bE hF fun vr h1 hF => awp_region (aR 4 (aC (fleetref2_above_ok h1) [] [] [] (aR 1 (aE ?_))))))
  exact awp_ret (oF hF [] [])

/-! ### slices.IndexFunc[[]beaconfleet/api.Prop,beaconfleet/api.Prop] -/
def slices_IndexFunc_api_Prop_api_Prop_f1_fleetref2_PropsFault_1_x1_k : Unit ⊕ Int → AEx
  | .inl _ => .exit 0
  | .inr _ => .ret

def slices_IndexFunc_api_Prop_api_Prop_f1_fleetref2_PropsFault_1_x1_S (qs : List api_Prop) (qf : api_Prop) : Unit ⊕ Int → St
  | .inl _ => Mem.st ⟨[], [(0, [.s qf.Name, .i qf.Value.Kind, .t qf.Value.Flag, .i qf.Value.Number, .s qf.Value.Words])]⟩ (tl []) 1
  | .inr vx1 => Mem.st ⟨[], [(0, [.s qf.Name, .i qf.Value.Kind, .t qf.Value.Flag, .i qf.Value.Number, .s qf.Value.Words])]⟩ (tl [(4, .i vx1)]) 1

def slices_IndexFunc_api_Prop_api_Prop_f1_fleetref2_PropsFault_1_x1_H (qs : List api_Prop) (qf : api_Prop) : Int → St
  | vx => Mem.st ⟨[], [(0, [.s qf.Name, .i qf.Value.Kind, .t qf.Value.Flag, .i qf.Value.Number, .s qf.Value.Words])]⟩ (tl [(0, .c (.l api_Prop.enc qs)), (1, .c (.fn 34 [0])), (7, .i (qs.length : Int)), (8, .i vx)]) 1

theorem slices_IndexFunc_api_Prop_api_Prop_f1_fleetref2_PropsFault_1_x1_ok (qs : List api_Prop) (qf : api_Prop) (vx : Int) (r : (Int) ⊕ (Unit ⊕ Int)) (hF : slices_IndexFunc_api_Prop_api_Prop_f1_fleetref2_PropsFault_1_x1 qs qf vx = some r) : Awp prog 1 19 (cL (cL (cR (cL (cR (cB f77)))))) (Out 1 (kk slices_IndexFunc_api_Prop_api_Prop_f1_fleetref2_PropsFault_1_x1_k) (SS (slices_IndexFunc_api_Prop_api_Prop_f1_fleetref2_PropsFault_1_x1_H qs qf) (slices_IndexFunc_api_Prop_api_Prop_f1_fleetref2_PropsFault_1_x1_S qs qf)) r) (slices_IndexFunc_api_Prop_api_Prop_f1_fleetref2_PropsFault_1_x1_H qs qf vx) := by
  unfold slices_IndexFunc_api_Prop_api_Prop_f1_fleetref2_PropsFault_1_x1 at hF
  refine sR 1 (awp_seq (cE hF (fun h1 hF => ?_) fun h1 hF => ?_))
  · refine tT h1 (awp_skip (awp_seq (awp_block (sR 2 (awp_seq (bE hF fun vy1 h2 hF => bE hF fun vr1_1 h3 hF => awp_region (aR 3 (aX (x_idx api_Prop.enc h2) (aR 1 (aC (fleetref2_PropsFault_1_ok h3) [] [] [] (aE ?_)))))))))))
    refine cE hF (fun h4 hF => ?_) fun h4 hF => ?_
    · exact tT h4 (sR 2 (awp_ret (oO hF [] [] rfl)))
    · exact tF h4 (awp_skip (gR 2 (oO hF [] [] rfl)))
  · refine tF h1 (awp_exit ?_)
    exact oO hF [] [] rfl

def slices_IndexFunc_api_Prop_api_Prop_f1_fleetref2_PropsFault_1_R (qs : List api_Prop) (qf : api_Prop) (r : Int) : TV × Mem := (.i r, ⟨[], [(0, [.s qf.Name, .i qf.Value.Kind, .t qf.Value.Flag, .i qf.Value.Number, .s qf.Value.Words])]⟩)

theorem slices_IndexFunc_api_Prop_api_Prop_f1_fleetref2_PropsFault_1_ok {qs : List api_Prop} {qf : api_Prop} {r} (hF : slices_IndexFunc_api_Prop_api_Prop_f1_fleetref2_PropsFault_1 qs qf = some r) : Holds prog 77 [.c (.l api_Prop.enc qs), .c (.fn 34 [0])] ⟨[], [(0, [.s qf.Name, .i qf.Value.Kind, .t qf.Value.Flag, .i qf.Value.Number, .s qf.Value.Words])]⟩ (Is (slices_IndexFunc_api_Prop_api_Prop_f1_fleetref2_PropsFault_1_R qs qf r)) := by
  unfold slices_IndexFunc_api_Prop_api_Prop_f1_fleetref2_PropsFault_1 at hF
  refine hW f77 19 1 1 ?_
  refine sR 1 (awp_seq (awp_seq (awp_region (aR 1 (aL api_Prop.enc qs (aR 1 (aE ?_)))))))
  refine awp_block (awp_to (st' := slices_IndexFunc_api_Prop_api_Prop_f1_fleetref2_PropsFault_1_x1_H qs qf 0) (oT [] []) ?_)
  refine bE hF fun x h5 hF => ?_
  rcases x with _ | vx1_1
  · refine awp_sub (awp_loop' (slices_IndexFunc_api_Prop_api_Prop_f1_fleetref2_PropsFault_1_x1_H qs qf) slices_IndexFunc_api_Prop_api_Prop_f1_fleetref2_PropsFault_1_x1_k (slices_IndexFunc_api_Prop_api_Prop_f1_fleetref2_PropsFault_1_x1_S qs qf) (by intro x; rcases x with x | x <;> exact fun h => nomatch h) h5 (slices_IndexFunc_api_Prop_api_Prop_f1_fleetref2_PropsFault_1_x1_ok qs qf)) ?_
    exact sR 1 (awp_ret (oF hF [] []))
  · refine awp_sub (awp_loop' (slices_IndexFunc_api_Prop_api_Prop_f1_fleetref2_PropsFault_1_x1_H qs qf) slices_IndexFunc_api_Prop_api_Prop_f1_fleetref2_PropsFault_1_x1_k (slices_IndexFunc_api_Prop_api_Prop_f1_fleetref2_PropsFault_1_x1_S qs qf) (by intro x; rcases x with x | x <;> exact fun h => nomatch h) h5 (slices_IndexFunc_api_Prop_api_Prop_f1_fleetref2_PropsFault_1_x1_ok qs qf)) ?_
    exact oF hF [] []

/-! ### slices.ContainsFunc[[]beaconfleet/api.Prop,beaconfleet/api.Prop] -/
def slices_ContainsFunc_api_Prop_api_Prop_f1_fleetref2_PropsFault_1_R (qs : List api_Prop) (qf : api_Prop) (r : Bool) : TV × Mem := (.b r, ⟨[], [(0, [.s qf.Name, .i qf.Value.Kind, .t qf.Value.Flag, .i qf.Value.Number, .s qf.Value.Words])]⟩)

theorem slices_ContainsFunc_api_Prop_api_Prop_f1_fleetref2_PropsFault_1_ok {qs : List api_Prop} {qf : api_Prop} {r} (hF : slices_ContainsFunc_api_Prop_api_Prop_f1_fleetref2_PropsFault_1 qs qf = some r) : Holds prog 33 [.c (.l api_Prop.enc qs), .c (.fn 34 [0])] ⟨[], [(0, [.s qf.Name, .i qf.Value.Kind, .t qf.Value.Flag, .i qf.Value.Number, .s qf.Value.Words])]⟩ (Is (slices_ContainsFunc_api_Prop_api_Prop_f1_fleetref2_PropsFault_1_R qs qf r)) := by
  unfold slices_ContainsFunc_api_Prop_api_Prop_f1_fleetref2_PropsFault_1 at hF
  refine hW f33 9 1 1 ?_
  refine sR 1 (awp_seq (bE hF fun vr h1 hF => awp_region (aR 2 (aC (slices_IndexFunc_api_Prop_api_Prop_f1_fleetref2_PropsFault_1_ok h1) [] [] [] (aR 2 (aE ?_))))))
  exact awp_ret (oF hF [] [])

/-! ### beaconfleet/fleetref2.PropsFault -/
def fleetref2_PropsFault_x2_S (ql : List api_Prop) (vx : Int) (vy2 : api_Prop) : Bool → St
  | vx2 => Mem.st ⟨[], []⟩ (tl [(0, .c (.l api_Prop.enc ql)), (11, .c (.l api_Prop.enc ql)), (12, .i (ql.length : Int)), (13, .i vx), (33, .b vx2)]) 0

def fleetref2_PropsFault_x2_I (ql : List api_Prop) (vx : Int) (vy2 : api_Prop) : St := Mem.st ⟨[], [(0, [.s vy2.Name, .i vy2.Value.Kind, .t vy2.Value.Flag, .i vy2.Value.Number, .s vy2.Value.Words])]⟩ (tl [(0, .c (.l api_Prop.enc ql)), (3, .i vx), (4, .c (.box 0 0)), (11, .c (.l api_Prop.enc ql)), (12, .i (ql.length : Int)), (13, .i vx)]) 1

theorem fleetref2_PropsFault_x2_ok (ql : List api_Prop) (vx : Int) (vy2 : api_Prop) {r} (hF : fleetref2_PropsFault_x2 ql vx vy2 = some r) : Awp prog 0 58 (cL (cR (cR (cL (cR (cR (cR (cL (cL (cR (cR (cL (cL (cR (cL (cR (cR (cB f8)))))))))))))))))) (Out 0 nrm (fleetref2_PropsFault_x2_S ql vx vy2) r) (fleetref2_PropsFault_x2_I ql vx vy2) := by
  unfold fleetref2_PropsFault_x2 at hF
  refine cE hF (fun h9 hF => ?_) fun h9 hF => ?_
  · refine bE hF fun vy3 h10 hF => aD ?_
    refine dR 1 ?_
    refine dB h9 ?_
    refine dR 6 ?_
    refine dX (x_idx api_Prop.enc h10) ?_
    refine dR 5 ?_
    refine dE ?_
    exact oO hF [] [] rfl
  · refine aD ?_
    refine dR 1 ?_
    refine dB h9 ?_
    refine dR 12 ?_
    refine dE ?_
    exact oO hF [] [] rfl

def fleetref2_PropsFault_x1_k : Unit ⊕ Int → AEx
  | .inl _ => .exit 0
  | .inr _ => .ret

def fleetref2_PropsFault_x1_S (ql : List api_Prop) : Unit ⊕ Int → St
  | .inl _ => Mem.st ⟨[], []⟩ (tl [(0, .c (.l api_Prop.enc ql))]) 0
  | .inr vx3 => Mem.st ⟨[], []⟩ (tl [(2, .i vx3)]) 0

def fleetref2_PropsFault_x1_H (ql : List api_Prop) : Int → St
  | vx => Mem.st ⟨[], []⟩ (tl [(0, .c (.l api_Prop.enc ql)), (11, .c (.l api_Prop.enc ql)), (12, .i (ql.length : Int)), (13, .i vx)]) 0

theorem fleetref2_PropsFault_x1_ok (ql : List api_Prop) (vx : Int) (r : (Int) ⊕ (Unit ⊕ Int)) (hF : fleetref2_PropsFault_x1 ql vx = some r) : Awp prog 0 58 (cL (cL (cR (cL (cR (cR (cB f8))))))) (Out 0 (kk fleetref2_PropsFault_x1_k) (SS (fleetref2_PropsFault_x1_H ql) (fleetref2_PropsFault_x1_S ql)) r) (fleetref2_PropsFault_x1_H ql vx) := by
  unfold fleetref2_PropsFault_x1 at hF
  refine sR 1 (awp_seq (cE hF (fun h2 hF => ?_) fun h2 hF => ?_))
  · refine tT h2 (awp_skip (awp_seq (awp_block (awp_seq (bE hF fun vy2 h3 hF => awp_region (aR 1 (aX (x_idx api_Prop.enc h3) (aR 4 (aE ?_)))))))))
    refine awp_seq (awp_seq (bE hF fun vr2_1 h4 hF => awp_region (aR 2 (aC (fleetref2_PropName_ok h4) [] [] [] (aR 1 (aE ?_))))))
    refine cE hF (fun h5 hF => ?_) fun h5 hF => ?_
    · exact tT h5 (sR 1 (awp_ret (oO hF [] [] rfl)))
    · refine tF h5 (awp_skip (awp_seq (awp_seq (bE hF fun vr3_1 h6 hF => awp_region (aR 2 (aC (fleetref2_ValueFault_ok h6) [] [] [] (aR 1 (aE ?_))))))))
      refine sR 2 (cE hF (fun h7 hF => ?_) fun h7 hF => ?_)
      · exact tT h7 (sR 2 (awp_ret (oO hF [] [] rfl)))
      · refine tF h7 (awp_skip (awp_block (sR 5 (cE hF (fun h8 hF => ?_) fun h8 hF => ?_))))
        · exact tT h8 (sR 1 (awp_ret (oO hF [] [] rfl)))
        · refine tF h8 (awp_seq (awp_to (st' := fleetref2_PropsFault_x2_I ql vx vy2) (oT [(0, 4000)] []) ?_))
          refine bE hF fun vx2_1 h11 hF => awp_sub (fleetref2_PropsFault_x2_ok ql vx vy2 h11) ?_
          refine cE hF (fun h12 hF => ?_) fun h12 hF => ?_
          · exact tT h12 (sR 1 (awp_ret (oO hF [] [] rfl)))
          · exact tF h12 (awp_skip (gR 2 (oO hF [] [] rfl)))
  · refine tF h2 (awp_exit ?_)
    exact oO hF [] [] rfl

def fleetref2_PropsFault_x3_k : Unit ⊕ Unit → AEx
  | .inl _ => .exit 3
  | .inr _ => .ret

def fleetref2_PropsFault_x3_S (ql : List api_Prop) : Unit ⊕ Unit → St
  | .inl _ => Mem.st ⟨[], []⟩ (tl []) 0
  | .inr _ => Mem.st ⟨[], []⟩ (tl [(2, .i 13)]) 0

def fleetref2_PropsFault_x3_H (ql : List api_Prop) : Int → St
  | vx4 => Mem.st ⟨[], []⟩ (tl [(0, .c (.l api_Prop.enc ql)), (48, .c (.l api_Prop.enc ql)), (49, .i (ql.length : Int)), (50, .i vx4)]) 0

theorem fleetref2_PropsFault_x3_ok (ql : List api_Prop) (vx4 : Int) (r : (Int) ⊕ (Unit ⊕ Unit)) (hF : fleetref2_PropsFault_x3 ql vx4 = some r) : Awp prog 0 58 (cL (cL (cR (cL (cR (cR (cR (cB f8)))))))) (Out 0 (kk fleetref2_PropsFault_x3_k) (SS (fleetref2_PropsFault_x3_H ql) (fleetref2_PropsFault_x3_S ql)) r) (fleetref2_PropsFault_x3_H ql vx4) := by
  unfold fleetref2_PropsFault_x3 at hF
  refine sR 1 (awp_seq (cE hF (fun h14 hF => ?_) fun h14 hF => ?_))
  · refine tT h14 (awp_skip (awp_seq (awp_block (awp_seq (bE hF fun vy5 h15 hF => awp_region (aX (x_idx api_Prop.enc h15) (aR 3 (aE ?_))))))))
    refine awp_seq (bE hF fun vr1_1 h16 hF => awp_region (aR 2 (aC (slices_ContainsFunc_api_Prop_api_Prop_f1_fleetref2_PropsFault_1_ok h16) [(0, 3000)] [] [] (aE ?_))))
    refine cE hF (fun h17 hF => ?_) fun h17 hF => ?_
    · exact tT h17 (sR 1 (awp_ret (oO hF [] [] rfl)))
    · exact tF h17 (awp_skip (gR 2 (oO hF [] [] rfl)))
  · refine tF h14 (awp_exit ?_)
    exact oO hF [] [] rfl

def fleetref2_PropsFault_R (ql : List api_Prop) (r : Int) : TV × Mem := (.i r, ⟨[], []⟩)

theorem fleetref2_PropsFault_ok {ql : List api_Prop} {r} (hF : fleetref2_PropsFault ql = some r) : Holds prog 8 [.c (.l api_Prop.enc ql)] ⟨[], []⟩ (Is (fleetref2_PropsFault_R ql r)) := by
  unfold fleetref2_PropsFault at hF
  refine hW f8 58 0 0 ?_
  refine sR 1 (awp_seq (awp_seq (awp_region (aR 1 (aL api_Prop.enc ql (aR 1 (aE ?_)))))))
  refine cE hF (fun h1 hF => ?_) fun h1 hF => ?_
  · exact tT h1 (sR 1 (awp_ret (oF hF [] [])))
  · refine tF h1 (awp_skip (awp_seq (awp_seq (awp_region (aR 1 (aL api_Prop.enc ql (aR 1 (aE ?_))))))))
    refine awp_block (awp_to (st' := fleetref2_PropsFault_x1_H ql 0) (oT [] []) ?_)
    refine bE hF fun x h13 hF => ?_
    rcases x with _ | vx3_1
    · refine awp_sub (awp_loop' (fleetref2_PropsFault_x1_H ql) fleetref2_PropsFault_x1_k (fleetref2_PropsFault_x1_S ql) (by intro x; rcases x with x | x <;> exact fun h => nomatch h) h13 (fleetref2_PropsFault_x1_ok ql)) ?_
      refine awp_seq (awp_seq (awp_region (aR 1 (aL api_Prop.enc ql (aR 1 (aE ?_))))))
      refine awp_block (awp_to (st' := fleetref2_PropsFault_x3_H ql 0) (oT [] []) ?_)
      refine bE hF fun x h18 hF => ?_
      rcases x with _ | _
      · refine awp_sub (awp_loop' (fleetref2_PropsFault_x3_H ql) fleetref2_PropsFault_x3_k (fleetref2_PropsFault_x3_S ql) (by intro x; rcases x with x | x <;> exact fun h => nomatch h) h18 (fleetref2_PropsFault_x3_ok ql)) ?_
        exact sR 1 (awp_ret (oF hF [] []))
      · refine awp_sub (awp_loop' (fleetref2_PropsFault_x3_H ql) fleetref2_PropsFault_x3_k (fleetref2_PropsFault_x3_S ql) (by intro x; rcases x with x | x <;> exact fun h => nomatch h) h18 (fleetref2_PropsFault_x3_ok ql)) ?_
        exact oF hF [] []
    · refine awp_sub (awp_loop' (fleetref2_PropsFault_x1_H ql) fleetref2_PropsFault_x1_k (fleetref2_PropsFault_x1_S ql) (by intro x; rcases x with x | x <;> exact fun h => nomatch h) h13 (fleetref2_PropsFault_x1_ok ql)) ?_
      exact oF hF [] []

/-! ### (*beaconfleet/fleetmake.Stream).RightProps -/
def fleetmake_Stream_RightProps_x2_S (vr : Int) (vs1 : fleetmake_Stream) (vout : List api_Prop) (vx : Int) : (List api_Prop) → St
  | vout2 => Mem.st ⟨[(1, ⟨43, 5, List.map api_Prop.enc vout2⟩)], [(0, [.l (encI .i64) vs1.L, .i (IntKind.wrap .i64 ((IntKind.wrap .i64 ((IntKind.wrap .i64 (vs1.at_ + 1)) + 1)) + 1))])]⟩ (tl [(0, .c (.box 0 0)), (3, .c (.own 1 none)), (6, .i vr), (7, .i vx)]) 2

def fleetmake_Stream_RightProps_x2_I (vr : Int) (vs1 : fleetmake_Stream) (vout : List api_Prop) (vx : Int) : St := Mem.st ⟨[(1, ⟨43, 5, List.map api_Prop.enc vout⟩)], [(0, [.l (encI .i64) vs1.L, .i vs1.at_])]⟩ (tl [(0, .c (.box 0 0)), (3, .c (.own 1 none)), (6, .i vr), (7, .i vx)]) 2

theorem fleetmake_Stream_RightProps_x2_ok (vr : Int) (vs1 : fleetmake_Stream) (vout : List api_Prop) (vx : Int) {r} (hF : fleetmake_Stream_RightProps_x2 vs1 vout = some r) : Awp prog 1 27 (cL (cR (cR (cL (cL (cR (cL (cR (cR (cB f23)))))))))) (Out 1 nrm (fleetmake_Stream_RightProps_x2_S vr vs1 vout vx) r) (fleetmake_Stream_RightProps_x2_I vr vs1 vout vx) := by
  unfold fleetmake_Stream_RightProps_x2 at hF
  refine awp_block (awp_seq (bE hF fun vr5 h3 hF => bE hF fun vr6 h4 hF => bE hF fun vr4_1 h5 hF => gE hF fun h6 hF => ?_))
  refine awp_region (aR 1 (aCf (slices_Clone_api_Prop_api_Prop_ok h3) (plainO_one (f := api_Prop.enc) fun _ => by kernel_rfl) [] [] [1] ?_))
  refine aR 2 (aC (fleetmake_Stream_Some_o1_ok h4) [(1, 3002)] [] [] (aR 1 (aC (fleetmake_Stream_RightValue_ok h5) [] [] [] (aR 2 (aX (x_app api_Prop.enc 1002 h6) (aR 1 (aE ?_)))))))
  refine awp_seq (bE hF fun vl1 h7 hF => gE hF fun h8 hF => ?_)
  refine awp_region (aR 1 (aCp (slices_SortFunc_api_Prop_api_Prop_o0_f1_fleetmake_propOrder_ok h7) ⟨⟨rfl, rfl, pin1 h8⟩, trivial⟩ [(0, 9002)] [] [] ?_))
  refine aE ?_
  refine awp_seq (bE hF fun vr7 h9 hF => awp_region (aR 1 (aC (fleetref2_PropsFault_ok h9) [] [] [9002] (aR 1 (aE ?_)))))
  refine cE hF (fun h10 hF => ?_) fun h10 hF => ?_
  · exact tT h10 (gR 2 (oO hF [(1, 9002)] [] rfl))
  · exact tF h10 (awp_skip (oO hF [] [] rfl))

def fleetmake_Stream_RightProps_x1_k : (fleetmake_Stream × (List api_Prop)) → AEx
  | _ => .exit 0

def fleetmake_Stream_RightProps_x1_S (vr : Int) : (fleetmake_Stream × (List api_Prop)) → St
  | (vs2, vout3) => Mem.st ⟨[(1, ⟨43, 5, List.map api_Prop.enc vout3⟩)], [(0, [.l (encI .i64) vs2.L, .i vs2.at_])]⟩ (tl [(3, .c (.own 1 none))]) 2

def fleetmake_Stream_RightProps_x1_H (vr : Int) : fleetmake_Stream × (List api_Prop) × Int → St
  | (vs1, vout, vx) => Mem.st ⟨[(1, ⟨43, 5, List.map api_Prop.enc vout⟩)], [(0, [.l (encI .i64) vs1.L, .i vs1.at_])]⟩ (tl [(0, .c (.box 0 0)), (3, .c (.own 1 none)), (6, .i vr), (7, .i vx)]) 2

theorem fleetmake_Stream_RightProps_x1_ok (vr : Int) (s : fleetmake_Stream × (List api_Prop) × Int) (r : (fleetmake_Stream × (List api_Prop) × Int) ⊕ ((fleetmake_Stream × (List api_Prop)))) (hF : fleetmake_Stream_RightProps_x1 vr s = some r) : Awp prog 1 27 (cL (cL (cR (cL (cR (cR (cB f23))))))) (Out 1 (kk fleetmake_Stream_RightProps_x1_k) (SS (fleetmake_Stream_RightProps_x1_H vr) (fleetmake_Stream_RightProps_x1_S vr)) r) (fleetmake_Stream_RightProps_x1_H vr s) := by
  obtain ⟨vs1, vout, vx⟩ := s
  unfold fleetmake_Stream_RightProps_x1 at hF
  refine sR 1 (awp_seq (cE hF (fun h2 hF => ?_) fun h2 hF => ?_))
  · refine tT h2 (awp_skip (awp_seq (awp_to (st' := fleetmake_Stream_RightProps_x2_I vr vs1 vout vx) (oT [] []) ?_)))
    refine bE hF fun vout2_1 h11 hF => awp_sub (fleetmake_Stream_RightProps_x2_ok vr vs1 vout vx h11) ?_
    exact gR 2 (oO hF [] [] rfl)
  · refine tF h2 (awp_exit ?_)
    exact oO hF [] [] rfl

def fleetmake_Stream_RightProps_R (qs : fleetmake_Stream) (r : fleetmake_Stream × (List api_Prop)) : TV × Mem := (.c (.own 1 none), ⟨[(1, ⟨43, 5, List.map api_Prop.enc r.2⟩)], [(0, [.l (encI .i64) r.1.L, .i r.1.at_])]⟩)

theorem fleetmake_Stream_RightProps_ok {qs : fleetmake_Stream} {r} (hF : fleetmake_Stream_RightProps qs = some r) : Holds prog 23 [.c (.box 0 0)] ⟨[], [(0, [.l (encI .i64) qs.L, .i qs.at_])]⟩ (Is (fleetmake_Stream_RightProps_R qs r)) := by
  unfold fleetmake_Stream_RightProps at hF
  refine hW f23 27 1 1 ?_
  refine sR 1 (sR 1 (awp_seq (awp_seq (bE hF fun x h1 hF => ?_))))
  obtain ⟨vs, vr⟩ := x
  refine awp_region (aR 1 (aC (fleetmake_Stream_Range_ok h1) [] [] [] (aR 1 (aE ?_))))
  refine awp_block (awp_to (st' := fleetmake_Stream_RightProps_x1_H vr (vs, [], 0)) (oT [] [1]) ?_)
  refine bE hF fun x h12 hF => ?_
  obtain ⟨vs2_1, vout3_1⟩ := x
  refine awp_sub (awp_loop' (fleetmake_Stream_RightProps_x1_H vr) fleetmake_Stream_RightProps_x1_k (fleetmake_Stream_RightProps_x1_S vr) (by intro x; exact fun h => nomatch h) h12 (fleetmake_Stream_RightProps_x1_ok vr)) ?_
  exact sR 2 (awp_ret (oF hF [] []))

/-! ### strings.Repeat -/
def strings_Repeat_R (qx : List UInt8) (qx1 : Int) (r : List UInt8) : TV × Mem := (.c (.s r), ⟨[], []⟩)

theorem strings_Repeat_ok {qx : List UInt8} {qx1 : Int} {r} (hF : strings_Repeat qx qx1 = some r) : Holds prog 64 [.c (.s qx), .i qx1] ⟨[], []⟩ (Is (strings_Repeat_R qx qx1 r)) := by
  unfold strings_Repeat at hF
  refine gE hF fun h1 hF => ?_
  obtain rfl := Option.some.inj hF
  have h2 : (0 ≤ qx1 ∧ qx1 ≤ 9223372036854775807) ∧ qx.length * qx1.toNat ≤ 140737488355328 := by simpa using h1
  have h3 : ((qx1.toNat : Nat) : Int) = qx1 := Int.toNat_of_nonneg h2.1.1
  refine holds_lib (args := [.str qx, .int .i64 qx1]) (tv := .c (.s (Lib.repeatL qx qx1.toNat))) ⟨_, cB Go.Proofs.Tryz.f64, Go.Proofs.Tryz.func64, by kernel_rfl, by kernel_rfl⟩ rfl rfl fun w ht => ?_
  have h4 := Go.Proofs.Any.strings_Repeat Go.Proofs.Tryz.lays105 Go.Proofs.Tryz.Builder_Extra_105 ⟨qx.toArray⟩ qx1.toNat w (by omega) (by simpa [ByteArray.size] using h2.2)
  rw [h3] at h4
  exact h4

/-! ### (*beaconfleet/fleetmake.Stream).PropName -/
def fleetmake_Stream_PropName_R (qs : fleetmake_Stream) (r : (List UInt8)) : TV × Mem := (.c (.s r), ⟨[], [(0, [.l (encI .i64) qs.L, .i (IntKind.wrap .i64 ((IntKind.wrap .i64 (qs.at_ + 1)) + 1))])]⟩)

theorem fleetmake_Stream_PropName_ok {qs : fleetmake_Stream} {r} (hF : fleetmake_Stream_PropName qs = some r) : Holds prog 24 [.c (.box 0 0)] ⟨[], [(0, [.l (encI .i64) qs.L, .i qs.at_])]⟩ (Is (fleetmake_Stream_PropName_R qs r)) := by
  unfold fleetmake_Stream_PropName at hF
  refine hW f24 12 1 1 ?_
  refine sR 1 (awp_seq (awp_seq (bE hF fun vr h1 hF => awp_region (aR 1 (aC (fleetmake_Stream_Flip_ok h1) [] [] [] (aE ?_))))))
  refine cE hF (fun h2 hF => ?_) fun h2 hF => ?_
  · refine tT h2 (awp_seq (bE hF fun vr1 h3 hF => bE hF fun vr2 h4 hF => awp_region (aR 1 (aC (strings_Repeat_ok h3) [] [] [] (aR 1 (aC (fleetmake_Stream_Some_o1_ok h4) [(1, 5001)] [] [] (aR 1 (aE ?_))))))))
    exact awp_ret (oF hF [] [])
  · refine tF h2 (awp_skip (awp_seq (bE hF fun vr3 h5 hF => awp_region (aR 2 (aC (fleetmake_Stream_Some_o1_ok h5) [(1, 4001)] [] [] (aR 1 (aE ?_)))))))
    exact awp_ret (oF hF [] [])

/-! ### (*beaconfleet/fleetmake.Stream).Odd -/
def fleetmake_Stream_Odd_R (qs : fleetmake_Stream) (qlow : Int) (qhigh : Int) (r : fleetmake_Stream × Int) : TV × Mem := (.i r.2, ⟨[], [(0, [.l (encI .i64) r.1.L, .i r.1.at_])]⟩)

theorem fleetmake_Stream_Odd_ok {qs : fleetmake_Stream} {qlow : Int} {qhigh : Int} {r} (hF : fleetmake_Stream_Odd qs qlow qhigh = some r) : Holds prog 66 [.c (.box 0 0), .i qlow, .i qhigh] ⟨[], [(0, [.l (encI .i64) qs.L, .i qs.at_])]⟩ (Is (fleetmake_Stream_Odd_R qs qlow qhigh r)) := by
  unfold fleetmake_Stream_Odd at hF
  refine hW f66 22 1 1 ?_
  refine sR 1 (awp_seq (awp_seq (bE hF fun vr h1 hF => awp_region (aR 1 (aC (fleetmake_Stream_Flip_ok h1) [] [] [] (aE ?_))))))
  refine cE hF (fun h2 hF => ?_) fun h2 hF => ?_
  · refine tT h2 (awp_seq (bE hF fun vr1 h3 hF => awp_region (aR 8 (aC (fleetmake_Stream_Pick_o1_ok h3) [(1, 10001)] [] [] (aR 1 (aE ?_))))))
    exact awp_ret (oF hF [] [])
  · refine tF h2 (awp_skip (awp_seq (bE hF fun x h4 hF => ?_)))
    obtain ⟨vs, vr2⟩ := x
    refine awp_region (aR 3 (aC (fleetmake_Stream_Range_ok h4) [] [] [] (aR 1 (aE ?_))))
    exact awp_ret (oF hF [] [])

/-! ### (*beaconfleet/fleetmake.Stream).Value -/
def fleetmake_Stream_Value_x1_S (qs : fleetmake_Stream) (vr4 : api_Value) : (fleetmake_Stream × api_Value) → St
  | (vs, vv) => Mem.st ⟨[], [(0, [.l (encI .i64) vs.L, .i vs.at_]), (1, [.i 0, .t false, .i 0, .s ([] : List UInt8)]), (2, [.i vv.Kind, .t vv.Flag, .i vv.Number, .s vv.Words])]⟩ (tl [(2, .c (.box 1 0)), (3, .c (.box 2 0))]) 3

def fleetmake_Stream_Value_x1_I (qs : fleetmake_Stream) (vr4 : api_Value) : St := Mem.st ⟨[], [(0, [.l (encI .i64) qs.L, .i (IntKind.wrap .i64 ((IntKind.wrap .i64 ((IntKind.wrap .i64 (qs.at_ + 1)) + 1)) + 1))]), (1, [.i 0, .t false, .i 0, .s ([] : List UInt8)]), (2, [.i vr4.Kind, .t vr4.Flag, .i vr4.Number, .s vr4.Words])]⟩ (tl [(0, .c (.box 0 0)), (2, .c (.box 1 0)), (3, .c (.box 2 0))]) 3

theorem fleetmake_Stream_Value_x1_ok (qs : fleetmake_Stream) (vr4 : api_Value) {r} (hF : fleetmake_Stream_Value_x1 qs vr4 = some r) : Awp prog 1 39 (cL (cR (cR (cR (cB f25))))) (Out 1 nrm (fleetmake_Stream_Value_x1_S qs vr4) r) (fleetmake_Stream_Value_x1_I qs vr4) := by
  unfold fleetmake_Stream_Value_x1 at hF
  refine awp_seq (bE hF fun vr1 h4 hF => awp_region (aR 1 (aC (fleetmake_Stream_Flip_ok h4) [] [] [] (aE ?_))))
  refine cE hF (fun h5 hF => ?_) fun h5 hF => ?_
  · refine tT h5 (awp_seq (bE hF fun vr3 h6 hF => awp_region (aR 1 (aC (fleetmake_Stream_Next_ok h6) [] [] [] (aE ?_)))))
    refine awp_block (sR 2 (cE hF (fun h7 hF => ?_) fun h7 hF => ?_))
    · refine tT h7 (bE hF fun vr2 h8 hF => awp_region (aR 2 (aC (fleetmake_Stream_Pick_o1_ok h8) [(1, 7003)] [] [] (aR 2 (aE ?_)))))
      exact oO hF [] [] rfl
    · refine tF h7 (sR 2 (cE hF (fun h9 hF => ?_) fun h9 hF => ?_))
      · exact tT h9 (gR 5 (oO hF [] [] rfl))
      · refine tF h9 (sR 2 (cE hF (fun h10 hF => ?_) fun h10 hF => ?_))
        · refine tT h10 (bE hF fun x h11 hF => ?_)
          obtain ⟨vs1, vr3_1⟩ := x
          refine awp_region (aR 1 (aC (fleetmake_Stream_Odd_ok h11) [] [] [] (aR 2 (aE ?_))))
          exact oO hF [] [] rfl
        · refine tF h10 (sR 2 (cE hF (fun h12 hF => ?_) fun h12 hF => ?_))
          · refine tT h12 (bE hF fun vr5 h13 hF => bE hF fun vr6 h14 hF => awp_region (aR 1 (aC (strings_Repeat_ok h13) [] [] [] (aR 1 (aC (fleetmake_Stream_Some_o1_ok h14) [(1, 14003)] [] [] (aR 2 (aE ?_)))))))
            exact oO hF [] [] rfl
          · exact tF h12 (gR 2 (oO hF [] [] rfl))
  · exact tF h5 (awp_skip (oO hF [] [] rfl))

def fleetmake_Stream_Value_R (qs : fleetmake_Stream) (r : fleetmake_Stream × api_Value) : TV × Mem := (.v (.agg [.i r.2.Kind, .t r.2.Flag, .i r.2.Number, .s r.2.Words]), ⟨[], [(0, [.l (encI .i64) r.1.L, .i r.1.at_])]⟩)

theorem fleetmake_Stream_Value_ok {qs : fleetmake_Stream} {r} (hF : fleetmake_Stream_Value qs = some r) : Holds prog 25 [.c (.box 0 0)] ⟨[], [(0, [.l (encI .i64) qs.L, .i qs.at_])]⟩ (Is (fleetmake_Stream_Value_R qs r)) := by
  unfold fleetmake_Stream_Value at hF
  refine hW f25 39 1 1 ?_
  refine sR 1 (awp_seq (bE hF fun vr4 h1 hF => awp_region (aR 1 (aC (fleetmake_Stream_RightValue_ok h1) [] [] [] (aR 2 (aE ?_))))))
  refine awp_seq (awp_seq (bE hF fun vr h2 hF => awp_region (aR 1 (aC (fleetmake_Stream_Flip_ok h2) [] [] [] (aE ?_)))))
  refine cE hF (fun h3 hF => ?_) fun h3 hF => ?_
  · exact tT h3 (sR 2 (awp_ret (oF hF [] [])))
  · refine tF h3 (awp_skip (awp_seq (awp_to (st' := fleetmake_Stream_Value_x1_I qs vr4) (oT [(2, 3001)] []) ?_)))
    refine bE hF fun x h15 hF => ?_
    obtain ⟨vs2, vv1⟩ := x
    refine awp_sub (fleetmake_Stream_Value_x1_ok qs vr4 h15) ?_
    exact sR 2 (awp_ret (oF hF [] []))

/-! ### (*beaconfleet/fleetmake.Stream).Props -/
def fleetmake_Stream_Props_x1_S (vs3 : fleetmake_Stream) (vr8 : List api_Prop) : (fleetmake_Stream × (List api_Prop)) → St
  | (vs, vout) => Mem.st ⟨[(1, ⟨43, 5, List.map api_Prop.enc vout⟩)], [(0, [.l (encI .i64) vs.L, .i vs.at_])]⟩ (tl [(3, .c (.own 1 none))]) 2

def fleetmake_Stream_Props_x1_I (vs3 : fleetmake_Stream) (vr8 : List api_Prop) : St := Mem.st ⟨[(1, ⟨43, 5, List.map api_Prop.enc vr8⟩)], [(0, [.l (encI .i64) vs3.L, .i vs3.at_])]⟩ (tl [(0, .c (.box 0 0)), (3, .c (.own 1 none))]) 2

theorem fleetmake_Stream_Props_x1_ok (vs3 : fleetmake_Stream) (vr8 : List api_Prop) {r} (hF : fleetmake_Stream_Props_x1 vs3 vr8 = some r) : Awp prog 1 21 (cL (cR (cR (cB f5)))) (Out 1 nrm (fleetmake_Stream_Props_x1_S vs3 vr8) r) (fleetmake_Stream_Props_x1_I vs3 vr8) := by
  unfold fleetmake_Stream_Props_x1 at hF
  refine awp_seq (bE hF fun vr h2 hF => awp_region (aR 1 (aC (fleetmake_Stream_Flip_ok h2) [] [] [] (aE ?_))))
  refine cE hF (fun h3 hF => ?_) fun h3 hF => ?_
  · refine tT h3 (awp_seq (bE hF fun vr4 h4 hF => bE hF fun x h5 hF => ?_))
    obtain ⟨vs3_1, vr7⟩ := x
    refine gE hF fun h6 hF => ?_
    refine awp_region (aR 2 (aC (fleetmake_Stream_PropName_ok h4) [] [] [] (aR 1 (aC (fleetmake_Stream_Value_ok h5) [] [] [] (aR 2 (aX (x_app api_Prop.enc 1 h6) (aR 1 (aE ?_))))))))
    refine awp_seq (bE hF fun vr1 h7 hF => awp_region (aR 1 (aC (fleetmake_Stream_Flip_ok h7) [] [] [] (aE ?_))))
    refine cE hF (fun h8 hF => ?_) fun h8 hF => ?_
    · refine tT h8 (bE hF fun vl h9 hF => gE hF fun h10 hF => ?_)
      refine awp_region (aR 1 (aCp (slices_SortFunc_api_Prop_api_Prop_o0_f1_fleetmake_propOrder_ok h9) ⟨⟨rfl, rfl, pin1 h10⟩, trivial⟩ [(0, 9002)] [] [] ?_))
      refine aE ?_
      exact oO hF [(1, 9002)] [] rfl
    · exact tF h8 (awp_skip (oO hF [(1, 9002)] [] rfl))
  · exact tF h3 (awp_skip (oO hF [] [] rfl))

def fleetmake_Stream_Props_R (qs : fleetmake_Stream) (r : fleetmake_Stream × (List api_Prop)) : TV × Mem := (.c (.own 1 none), ⟨[(1, ⟨43, 5, List.map api_Prop.enc r.2⟩)], [(0, [.l (encI .i64) r.1.L, .i r.1.at_])]⟩)

theorem fleetmake_Stream_Props_ok {qs : fleetmake_Stream} {r} (hF : fleetmake_Stream_Props qs = some r) : Holds prog 5 [.c (.box 0 0)] ⟨[], [(0, [.l (encI .i64) qs.L, .i qs.at_])]⟩ (Is (fleetmake_Stream_Props_R qs r)) := by
  unfold fleetmake_Stream_Props at hF
  refine hW f5 21 1 1 ?_
  refine sR 1 (awp_seq (bE hF fun x h1 hF => ?_))
  obtain ⟨vs3, vr8⟩ := x
  refine awp_region (aR 1 (aC (fleetmake_Stream_RightProps_ok h1) [] [] [] (aR 1 (aE ?_))))
  refine awp_seq (awp_to (st' := fleetmake_Stream_Props_x1_I vs3 vr8) (oT [(1, 2002)] []) ?_)
  refine bE hF fun x h11 hF => ?_
  obtain ⟨vs1, vout1⟩ := x
  refine awp_sub (fleetmake_Stream_Props_x1_ok vs3 vr8 h11) ?_
  exact sR 2 (awp_ret (oF hF [] []))

/-! ### cmp.isNaN[string] -/
def cmp_isNaN_string_R (qx : List UInt8) (r : Unit) : TV × Mem := (.b (!decide (qx = qx)), ⟨[], []⟩)

theorem cmp_isNaN_string_ok {qx : List UInt8} {r} (hF : cmp_isNaN_string qx = some r) : Holds prog 203 [.c (.s qx)] ⟨[], []⟩ (Is (cmp_isNaN_string_R qx r)) := by
  unfold cmp_isNaN_string at hF
  refine hW f203 6 0 0 ?_
  exact sR 1 (sR 4 (awp_ret (oF hF [] [])))

/-! ### cmp.Less[string] -/
def cmp_Less_string_x1_S (qx : List UInt8) (qy : List UInt8) : Bool → St
  | vx => Mem.st ⟨[], []⟩ (tl [(4, .b vx)]) 0

def cmp_Less_string_x1_I (qx : List UInt8) (qy : List UInt8) : St := Mem.st ⟨[], []⟩ (tl [(0, .c (.s qx)), (1, .c (.s qy))]) 0

theorem cmp_Less_string_x1_ok (qx : List UInt8) (qy : List UInt8) {r} (hF : cmp_Less_string_x1 qx qy = some r) : Awp prog 0 17 (cL (cR (cB f171))) (Out 0 nrm (cmp_Less_string_x1_S qx qy) r) (cmp_Less_string_x1_I qx qy) := by
  unfold cmp_Less_string_x1 at hF
  refine bE hF fun _ h1 hF => cE hF (fun h2 hF => ?_) fun h2 hF => ?_
  · refine bE hF fun _ h3 hF => cE hF (fun h4 hF => ?_) fun h4 hF => ?_
    · refine awp_region (aR 1 (aCb (cmp_isNaN_string_ok h1) [] [] [] h2 ?_))
      refine aR 2 (aC (cmp_isNaN_string_ok h3) [] [] [] (aB h4 (aR 7 (aE ?_))))
      exact oO hF [] [] rfl
    · refine awp_region (aR 1 (aCb (cmp_isNaN_string_ok h1) [] [] [] h2 ?_))
      refine aR 2 (aC (cmp_isNaN_string_ok h3) [] [] [] (aB h4 (aR 7 (aE ?_))))
      exact oO hF [] [] rfl
  · refine awp_region (aR 1 (aCb (cmp_isNaN_string_ok h1) [] [] [] h2 ?_))
    refine aR 11 (aE ?_)
    exact oO hF [] [] rfl

def cmp_Less_string_R (qx : List UInt8) (qy : List UInt8) (r : Bool) : TV × Mem := (.b r, ⟨[], []⟩)

theorem cmp_Less_string_ok {qx : List UInt8} {qy : List UInt8} {r} (hF : cmp_Less_string qx qy = some r) : Holds prog 171 [.c (.s qx), .c (.s qy)] ⟨[], []⟩ (Is (cmp_Less_string_R qx qy r)) := by
  unfold cmp_Less_string at hF
  refine hW f171 17 0 0 ?_
  refine sR 1 (awp_seq (awp_to (st' := cmp_Less_string_x1_I qx qy) (oT [] []) ?_))
  refine bE hF fun vx1 h5 hF => awp_sub (cmp_Less_string_x1_ok qx qy h5) ?_
  exact awp_ret (oF hF [] [])

/-! ### slices.insertionSortOrdered[string] -/
def slices_insertionSortOrdered_string_o0_x3_S (qa : Int) (qb : Int) (vi : Int) (vl3 : List (List UInt8)) (vj1 : Int) : Bool → St
  | vx4 => Mem.st ⟨[(0, ⟨9, 1, List.map encS vl3⟩)], []⟩ (tl [(0, .c (.own 0 none)), (1, .i qa), (2, .i qb), (6, .i vi), (7, .i vj1), (30, .b vx4)]) 1

def slices_insertionSortOrdered_string_o0_x3_I (qa : Int) (qb : Int) (vi : Int) (vl3 : List (List UInt8)) (vj1 : Int) : St := Mem.st ⟨[(0, ⟨9, 1, List.map encS vl3⟩)], []⟩ (tl [(0, .c (.own 0 none)), (1, .i qa), (2, .i qb), (6, .i vi), (7, .i vj1)]) 1

theorem slices_insertionSortOrdered_string_o0_x3_ok (qa : Int) (qb : Int) (vi : Int) (vl3 : List (List UInt8)) (vj1 : Int) {r} (hF : slices_insertionSortOrdered_string_o0_x3 qa vl3 vj1 = some r) : Awp prog 1 49 (cL (cL (cL (cL (cR (cL (cL (cR (cL (cL (cR (cB f165)))))))))))) (Out 1 nrm (slices_insertionSortOrdered_string_o0_x3_S qa qb vi vl3 vj1) r) (slices_insertionSortOrdered_string_o0_x3_I qa qb vi vl3 vj1) := by
  unfold slices_insertionSortOrdered_string_o0_x3 at hF
  refine cE hF (fun h2 hF => ?_) fun h2 hF => ?_
  · refine bE hF fun vy15 h3 hF => bE hF fun vy16 h4 hF => bE hF fun vr3 h5 hF => aD ?_
    refine dR 2 ?_
    refine dB h2 ?_
    refine dR 3 ?_
    refine dX (x_idxO encS 0 h3) ?_
    refine dX (x_ldE encS h3) ?_
    refine dR 3 ?_
    refine dX (x_idxO encS 0 h4) ?_
    refine dX (x_ldE encS h4) ?_
    refine dC (cmp_Less_string_ok h5) [] [] [] ?_
    refine dR 1 ?_
    refine dE ?_
    exact oO hF [] [] rfl
  · refine aD ?_
    refine dR 2 ?_
    refine dB h2 ?_
    refine dR 12 ?_
    refine dE ?_
    exact oO hF [] [] rfl

def slices_insertionSortOrdered_string_o0_x2_k : (List (List UInt8)) → AEx
  | _ => .exit 2

def slices_insertionSortOrdered_string_o0_x2_S (qa : Int) (qb : Int) (vi : Int) : (List (List UInt8)) → St
  | vl4 => Mem.st ⟨[(0, ⟨9, 1, List.map encS vl4⟩)], []⟩ (tl [(0, .c (.own 0 none)), (1, .i qa), (2, .i qb), (6, .i vi)]) 1

def slices_insertionSortOrdered_string_o0_x2_H (qa : Int) (qb : Int) (vi : Int) : (List (List UInt8)) × Int → St
  | (vl3, vj1) => Mem.st ⟨[(0, ⟨9, 1, List.map encS vl3⟩)], []⟩ (tl [(0, .c (.own 0 none)), (1, .i qa), (2, .i qb), (6, .i vi), (7, .i vj1)]) 1

theorem slices_insertionSortOrdered_string_o0_x2_ok (qa : Int) (qb : Int) (vi : Int) (s : (List (List UInt8)) × Int) (r : ((List (List UInt8)) × Int) ⊕ ((List (List UInt8)))) (hF : slices_insertionSortOrdered_string_o0_x2 qa s = some r) : Awp prog 1 49 (cL (cL (cR (cL (cL (cR (cL (cL (cR (cB f165)))))))))) (Out 1 (kk slices_insertionSortOrdered_string_o0_x2_k) (SS (slices_insertionSortOrdered_string_o0_x2_H qa qb vi) (slices_insertionSortOrdered_string_o0_x2_S qa qb vi)) r) (slices_insertionSortOrdered_string_o0_x2_H qa qb vi s) := by
  obtain ⟨vl3, vj1⟩ := s
  unfold slices_insertionSortOrdered_string_o0_x2 at hF
  refine awp_seq (awp_seq (awp_to (st' := slices_insertionSortOrdered_string_o0_x3_I qa qb vi vl3 vj1) (oT [] []) ?_))
  refine bE hF fun vx4_1 h6 hF => awp_sub (slices_insertionSortOrdered_string_o0_x3_ok qa qb vi vl3 vj1 h6) ?_
  refine cE hF (fun h7 hF => ?_) fun h7 hF => ?_
  · refine tT h7 (awp_skip (awp_seq (awp_block (bE hF fun vy17 h8 hF => bE hF fun vy18 h9 hF => bE hF fun vy19 h10 hF => aDw [0] ?_))))
    refine dR 8 ?_
    refine dI encS 0 h8 rfl ?_
    refine dX (x_ldE encS h8) ?_
    refine dR 2 ?_
    refine dI encS 0 h9 rfl ?_
    refine dX (x_ldE encS h9) ?_
    refine dI encS 0 h9 rfl ?_
    refine dW encS vy17 h9 rfl ?_
    refine dI encS 0 h10 rfl ?_
    refine dW encS vy18 h10 rfl ?_
    refine dE ?_
    exact gR 3 (oO hF [] [] rfl)
  · refine tF h7 (awp_exit ?_)
    exact oO hF [] [] rfl

def slices_insertionSortOrdered_string_o0_x1_k : (List (List UInt8)) → AEx
  | _ => .exit 0

def slices_insertionSortOrdered_string_o0_x1_S (qa : Int) (qb : Int) : (List (List UInt8)) → St
  | vl5 => Mem.st ⟨[(0, ⟨9, 1, List.map encS vl5⟩)], []⟩ (tl []) 1

def slices_insertionSortOrdered_string_o0_x1_H (qa : Int) (qb : Int) : (List (List UInt8)) × Int → St
  | (vl, vi) => Mem.st ⟨[(0, ⟨9, 1, List.map encS vl⟩)], []⟩ (tl [(0, .c (.own 0 none)), (1, .i qa), (2, .i qb), (6, .i vi)]) 1

theorem slices_insertionSortOrdered_string_o0_x1_ok (qa : Int) (qb : Int) (s : (List (List UInt8)) × Int) (r : ((List (List UInt8)) × Int) ⊕ ((List (List UInt8)))) (hF : slices_insertionSortOrdered_string_o0_x1 qa qb s = some r) : Awp prog 1 49 (cL (cL (cR (cB f165)))) (Out 1 (kk slices_insertionSortOrdered_string_o0_x1_k) (SS (slices_insertionSortOrdered_string_o0_x1_H qa qb) (slices_insertionSortOrdered_string_o0_x1_S qa qb)) r) (slices_insertionSortOrdered_string_o0_x1_H qa qb s) := by
  obtain ⟨vl, vi⟩ := s
  unfold slices_insertionSortOrdered_string_o0_x1 at hF
  refine awp_seq (sR 3 (cE hF (fun h1 hF => ?_) fun h1 hF => ?_))
  · refine tT h1 (awp_skip (awp_seq (awp_block (sR 2 (awp_block (awp_to (st' := slices_insertionSortOrdered_string_o0_x2_H qa qb vi (vl, vi)) (oT [] []) ?_))))))
    refine bE hF fun vl4_1 h11 hF => awp_sub (awp_loop' (slices_insertionSortOrdered_string_o0_x2_H qa qb vi) slices_insertionSortOrdered_string_o0_x2_k (slices_insertionSortOrdered_string_o0_x2_S qa qb vi) (by intro x; exact fun h => nomatch h) h11 (slices_insertionSortOrdered_string_o0_x2_ok qa qb vi)) ?_
    exact gR 3 (oO hF [] [] rfl)
  · refine tF h1 (awp_exit ?_)
    exact oO hF [] [] rfl

def slices_insertionSortOrdered_string_o0_R (qdata : List (List UInt8)) (qa : Int) (qb : Int) (r : (List (List UInt8))) : TV × Mem := (.tup [], ⟨[(0, ⟨9, 1, List.map encS r⟩)], []⟩)

theorem slices_insertionSortOrdered_string_o0_ok {qdata : List (List UInt8)} {qa : Int} {qb : Int} {r} (hF : slices_insertionSortOrdered_string_o0 qdata qa qb = some r) : Holds prog 165 [.c (.own 0 none), .i qa, .i qb] ⟨[(0, ⟨9, 1, List.map encS qdata⟩)], []⟩ (Is (slices_insertionSortOrdered_string_o0_R qdata qa qb r)) := by
  unfold slices_insertionSortOrdered_string_o0 at hF
  refine hW f165 49 1 1 ?_
  refine sR 3 (awp_block (awp_to (st' := slices_insertionSortOrdered_string_o0_x1_H qa qb (qdata, IntKind.wrap .i64 (qa + 1))) (oT [] []) ?_))
  refine bE hF fun vl5_1 h12 hF => awp_sub (awp_loop' (slices_insertionSortOrdered_string_o0_x1_H qa qb) slices_insertionSortOrdered_string_o0_x1_k (slices_insertionSortOrdered_string_o0_x1_S qa qb) (by intro x; exact fun h => nomatch h) h12 (slices_insertionSortOrdered_string_o0_x1_ok qa qb)) ?_
  exact oF hF [] []

/-! ### slices.order2Ordered[string] -/
def slices_order2Ordered_string_R (qdata : List (List UInt8)) (qa : Int) (qb : Int) (qswaps : Int) (r : Int × Int × Int) : TV × Mem := (.tup [.one (.i r.2.1), .one (.i r.2.2)], ⟨[], [(0, [.i r.1])]⟩)

theorem slices_order2Ordered_string_ok {qdata : List (List UInt8)} {qa : Int} {qb : Int} {qswaps : Int} {r} (hF : slices_order2Ordered_string qdata qa qb qswaps = some r) : Holds prog 220 [.c (.l encS qdata), .i qa, .i qb, .c (.box 0 0)] ⟨[], [(0, [.i qswaps])]⟩ (Is (slices_order2Ordered_string_R qdata qa qb qswaps r)) := by
  unfold slices_order2Ordered_string at hF
  refine hW f220 28 1 1 ?_
  refine sR 2 (awp_seq (awp_seq (bE hF fun vy h1 hF => bE hF fun vy1 h2 hF => bE hF fun vr h3 hF => aD ?_)))
  refine dR 2 ?_
  refine dX (x_idx encS h1) ?_
  refine dR 3 ?_
  refine dX (x_idx encS h2) ?_
  refine dR 1 ?_
  refine dC (cmp_Less_string_ok h3) [] [] [] ?_
  refine dE ?_
  refine cE hF (fun h4 hF => ?_) fun h4 hF => ?_
  · exact tT h4 (sR 6 (sR 4 (awp_ret (oF hF [] []))))
  · exact tF h4 (awp_skip (sR 4 (awp_ret (oF hF [] []))))

/-! ### slices.medianOrdered[string] -/
def slices_medianOrdered_string_R (qdata : List (List UInt8)) (qa : Int) (qb : Int) (qc : Int) (qswaps : Int) (r : Int × Int) : TV × Mem := (.i r.2, ⟨[], [(0, [.i r.1])]⟩)

theorem slices_medianOrdered_string_ok {qdata : List (List UInt8)} {qa : Int} {qb : Int} {qc : Int} {qswaps : Int} {r} (hF : slices_medianOrdered_string qdata qa qb qc qswaps = some r) : Holds prog 202 [.c (.l encS qdata), .i qa, .i qb, .i qc, .c (.box 0 0)] ⟨[], [(0, [.i qswaps])]⟩ (Is (slices_medianOrdered_string_R qdata qa qb qc qswaps r)) := by
  unfold slices_medianOrdered_string at hF
  refine hW f202 36 1 1 ?_
  refine sR 1 (awp_seq (bE hF fun x h1 hF => ?_))
  obtain ⟨vs, vr1, vr2⟩ := x
  refine awp_region (aR 4 (aC (slices_order2Ordered_string_ok h1) [] [] [] (aR 5 (aE ?_))))
  refine awp_seq (bE hF fun x h2 hF => ?_)
  obtain ⟨vs1, vr1_1, vr2_1⟩ := x
  refine awp_region (aR 4 (aC (slices_order2Ordered_string_ok h2) [] [] [] (aR 5 (aE ?_))))
  refine awp_seq (bE hF fun x h3 hF => ?_)
  obtain ⟨vs2, vr1_2, vr2_2⟩ := x
  refine awp_region (aR 4 (aC (slices_order2Ordered_string_ok h3) [] [] [] (aR 5 (aE ?_))))
  exact sR 2 (awp_ret (oF hF [] []))

/-! ### slices.medianAdjacentOrdered[string] -/
def slices_medianAdjacentOrdered_string_R (qdata : List (List UInt8)) (qa : Int) (qswaps : Int) (r : Int × Int) : TV × Mem := (.i r.2, ⟨[], [(0, [.i r.1])]⟩)

theorem slices_medianAdjacentOrdered_string_ok {qdata : List (List UInt8)} {qa : Int} {qswaps : Int} {r} (hF : slices_medianAdjacentOrdered_string qdata qa qswaps = some r) : Holds prog 201 [.c (.l encS qdata), .i qa, .c (.box 0 0)] ⟨[], [(0, [.i qswaps])]⟩ (Is (slices_medianAdjacentOrdered_string_R qdata qa qswaps r)) := by
  unfold slices_medianAdjacentOrdered_string at hF
  refine hW f201 15 1 1 ?_
  refine sR 1 (awp_seq (bE hF fun x h1 hF => ?_))
  obtain ⟨vs3, vr⟩ := x
  refine awp_region (aR 7 (aC (slices_medianOrdered_string_ok h1) [] [] [] (aR 1 (aE ?_))))
  exact awp_ret (oF hF [] [])

/-! ### slices.choosePivotOrdered[string] -/
def slices_choosePivotOrdered_string_x2_S (qdata : List (List UInt8)) (qa : Int) (qb : Int) : (Int × Int × Int × Int) → St
  | (vswaps, vi, vj, vk) => Mem.st ⟨[], [(0, [.i vswaps])]⟩ (tl [(0, .c (.l encS qdata)), (9, .c (.box 0 0)), (10, .i vi), (11, .i vj), (12, .i vk)]) 1

def slices_choosePivotOrdered_string_x2_I (qdata : List (List UInt8)) (qa : Int) (qb : Int) : St := Mem.st ⟨[], [(0, [.i 0])]⟩ (tl [(0, .c (.l encS qdata)), (8, .i (IntKind.wrap .i64 (qb - qa))), (9, .c (.box 0 0)), (10, .i (IntKind.wrap .i64 (qa + (IntKind.wrap .i64 ((IntKind.wrap .i64 ((IntKind.wrap .i64 (qb - qa)).tdiv 4)) * 1))))), (11, .i (IntKind.wrap .i64 (qa + (IntKind.wrap .i64 ((IntKind.wrap .i64 ((IntKind.wrap .i64 (qb - qa)).tdiv 4)) * 2))))), (12, .i (IntKind.wrap .i64 (qa + (IntKind.wrap .i64 ((IntKind.wrap .i64 ((IntKind.wrap .i64 (qb - qa)).tdiv 4)) * 3)))))]) 1

theorem slices_choosePivotOrdered_string_x2_ok (qdata : List (List UInt8)) (qa : Int) (qb : Int) {r} (hF : slices_choosePivotOrdered_string_x2 qdata qa qb = some r) : Awp prog 0 57 (cL (cL (cR (cL (cR (cR (cR (cR (cR (cR (cB f168))))))))))) (Out 0 nrm (slices_choosePivotOrdered_string_x2_S qdata qa qb) r) (slices_choosePivotOrdered_string_x2_I qdata qa qb) := by
  unfold slices_choosePivotOrdered_string_x2 at hF
  refine sR 2 (cE hF (fun h2 hF => ?_) fun h2 hF => ?_)
  · refine tT h2 (awp_seq (bE hF fun x h3 hF => ?_))
    obtain ⟨vs, vr1⟩ := x
    refine awp_region (aR 2 (aC (slices_medianAdjacentOrdered_string_ok h3) [] [] [] (aR 1 (aE ?_))))
    refine awp_seq (bE hF fun x h4 hF => ?_)
    obtain ⟨vs1, vr1_1⟩ := x
    refine awp_region (aR 2 (aC (slices_medianAdjacentOrdered_string_ok h4) [] [] [] (aR 1 (aE ?_))))
    refine bE hF fun x h5 hF => ?_
    obtain ⟨vs2, vr1_2⟩ := x
    refine awp_region (aR 2 (aC (slices_medianAdjacentOrdered_string_ok h5) [] [] [] (aR 1 (aE ?_))))
    exact oO hF [] [] rfl
  · exact tF h2 (awp_skip (oO hF [] [] rfl))

def slices_choosePivotOrdered_string_x1_S (qdata : List (List UInt8)) (qa : Int) (qb : Int) : (Int × Int) → St
  | (vswaps2, vj2) => Mem.st ⟨[], [(0, [.i vswaps2])]⟩ (tl [(9, .c (.box 0 0)), (11, .i vj2)]) 1

def slices_choosePivotOrdered_string_x1_I (qdata : List (List UInt8)) (qa : Int) (qb : Int) : St := Mem.st ⟨[], [(0, [.i 0])]⟩ (tl [(0, .c (.l encS qdata)), (8, .i (IntKind.wrap .i64 (qb - qa))), (9, .c (.box 0 0)), (10, .i (IntKind.wrap .i64 (qa + (IntKind.wrap .i64 ((IntKind.wrap .i64 ((IntKind.wrap .i64 (qb - qa)).tdiv 4)) * 1))))), (11, .i (IntKind.wrap .i64 (qa + (IntKind.wrap .i64 ((IntKind.wrap .i64 ((IntKind.wrap .i64 (qb - qa)).tdiv 4)) * 2))))), (12, .i (IntKind.wrap .i64 (qa + (IntKind.wrap .i64 ((IntKind.wrap .i64 ((IntKind.wrap .i64 (qb - qa)).tdiv 4)) * 3)))))]) 1

theorem slices_choosePivotOrdered_string_x1_ok (qdata : List (List UInt8)) (qa : Int) (qb : Int) {r} (hF : slices_choosePivotOrdered_string_x1 qdata qa qb = some r) : Awp prog 0 57 (cL (cR (cR (cR (cR (cR (cR (cB f168)))))))) (Out 0 nrm (slices_choosePivotOrdered_string_x1_S qdata qa qb) r) (slices_choosePivotOrdered_string_x1_I qdata qa qb) := by
  unfold slices_choosePivotOrdered_string_x1 at hF
  refine sR 2 (cE hF (fun h1 hF => ?_) fun h1 hF => ?_)
  · refine tT h1 (awp_seq (awp_to (st' := slices_choosePivotOrdered_string_x2_I qdata qa qb) (oT [] []) ?_))
    refine bE hF fun x h6 hF => ?_
    obtain ⟨vswaps1, vi1, vj1, vk1⟩ := x
    refine awp_sub (slices_choosePivotOrdered_string_x2_ok qdata qa qb h6) ?_
    refine bE hF fun x h7 hF => ?_
    obtain ⟨vs3, vr⟩ := x
    refine awp_region (aR 4 (aC (slices_medianOrdered_string_ok h7) [] [] [] (aR 1 (aE ?_))))
    exact oO hF [] [] rfl
  · exact tF h1 (awp_skip (oO hF [] [] rfl))

def slices_choosePivotOrdered_string_R (qdata : List (List UInt8)) (qa : Int) (qb : Int) (r : Int × Int) : TV × Mem := (.tup [.one (.i r.1), .one (.i r.2)], ⟨[], []⟩)

theorem slices_choosePivotOrdered_string_ok {qdata : List (List UInt8)} {qa : Int} {qb : Int} {r} (hF : slices_choosePivotOrdered_string qdata qa qb = some r) : Holds prog 168 [.c (.l encS qdata), .i qa, .i qb] ⟨[], []⟩ (Is (slices_choosePivotOrdered_string_R qdata qa qb r)) := by
  unfold slices_choosePivotOrdered_string at hF
  refine hW f168 57 0 0 ?_
  refine sR 2 (sR 4 (sR 1 (sR 6 (sR 6 (sR 6 (awp_seq (awp_to (st' := slices_choosePivotOrdered_string_x1_I qdata qa qb) (oT [(0, 6000)] []) ?_)))))))
  refine bE hF fun x h8 hF => ?_
  obtain ⟨vswaps2_1, vj2_1⟩ := x
  refine awp_sub (slices_choosePivotOrdered_string_x1_ok qdata qa qb h8) ?_
  refine sR 1 (awp_block (sR 2 (cE hF (fun h9 hF => ?_) fun h9 hF => ?_)))
  · exact tT h9 (sR 3 (awp_ret (oF hF [] [])))
  · refine tF h9 (sR 2 (cE hF (fun h10 hF => ?_) fun h10 hF => ?_))
    · exact tT h10 (sR 3 (awp_ret (oF hF [] [])))
    · exact tF h10 (sR 3 (awp_ret (oF hF [] [])))

/-! ### slices.reverseRangeOrdered[string] -/
def slices_reverseRangeOrdered_string_o0_x1_k : (List (List UInt8)) → AEx
  | _ => .exit 0

def slices_reverseRangeOrdered_string_o0_x1_S : (List (List UInt8)) → St
  | vl1 => Mem.st ⟨[(0, ⟨9, 1, List.map encS vl1⟩)], []⟩ (tl []) 1

def slices_reverseRangeOrdered_string_o0_x1_H : (List (List UInt8)) × Int × Int → St
  | (vl, vi, vj) => Mem.st ⟨[(0, ⟨9, 1, List.map encS vl⟩)], []⟩ (tl [(0, .c (.own 0 none)), (6, .i vi), (7, .i vj)]) 1

theorem slices_reverseRangeOrdered_string_o0_x1_ok (s : (List (List UInt8)) × Int × Int) (r : ((List (List UInt8)) × Int × Int) ⊕ ((List (List UInt8)))) (hF : slices_reverseRangeOrdered_string_o0_x1  s = some r) : Awp prog 1 32 (cL (cL (cR (cR (cB f169))))) (Out 1 (kk slices_reverseRangeOrdered_string_o0_x1_k) (SS (slices_reverseRangeOrdered_string_o0_x1_H ) (slices_reverseRangeOrdered_string_o0_x1_S )) r) (slices_reverseRangeOrdered_string_o0_x1_H  s) := by
  obtain ⟨vl, vi, vj⟩ := s
  unfold slices_reverseRangeOrdered_string_o0_x1 at hF
  refine awp_seq (sR 3 (cE hF (fun h1 hF => ?_) fun h1 hF => ?_))
  · refine tT h1 (awp_skip (awp_block (awp_seq (bE hF fun vy3 h2 hF => bE hF fun vy4 h3 hF => bE hF fun vy5 h4 hF => aDw [0] ?_))))
    refine dR 6 ?_
    refine dI encS 0 h2 rfl ?_
    refine dX (x_ldE encS h2) ?_
    refine dR 2 ?_
    refine dI encS 0 h3 rfl ?_
    refine dX (x_ldE encS h3) ?_
    refine dI encS 0 h3 rfl ?_
    refine dW encS vy3 h3 rfl ?_
    refine dI encS 0 h4 rfl ?_
    refine dW encS vy4 h4 rfl ?_
    refine dE ?_
    exact sR 3 (gR 3 (oO hF [] [] rfl))
  · refine tF h1 (awp_exit ?_)
    exact oO hF [] [] rfl

def slices_reverseRangeOrdered_string_o0_R (qdata : List (List UInt8)) (qa : Int) (qb : Int) (r : (List (List UInt8))) : TV × Mem := (.tup [], ⟨[(0, ⟨9, 1, List.map encS r⟩)], []⟩)

theorem slices_reverseRangeOrdered_string_o0_ok {qdata : List (List UInt8)} {qa : Int} {qb : Int} {r} (hF : slices_reverseRangeOrdered_string_o0 qdata qa qb = some r) : Holds prog 169 [.c (.own 0 none), .i qa, .i qb] ⟨[(0, ⟨9, 1, List.map encS qdata⟩)], []⟩ (Is (slices_reverseRangeOrdered_string_o0_R qdata qa qb r)) := by
  unfold slices_reverseRangeOrdered_string_o0 at hF
  refine hW f169 32 1 1 ?_
  refine sR 2 (sR 3 (awp_block (awp_to (st' := slices_reverseRangeOrdered_string_o0_x1_H  (qdata, qa, IntKind.wrap .i64 (qb - 1))) (oT [] []) ?_)))
  refine bE hF fun vl1_1 h5 hF => awp_sub (awp_loop' (slices_reverseRangeOrdered_string_o0_x1_H ) slices_reverseRangeOrdered_string_o0_x1_k (slices_reverseRangeOrdered_string_o0_x1_S ) (by intro x; exact fun h => nomatch h) h5 (slices_reverseRangeOrdered_string_o0_x1_ok )) ?_
  exact oF hF [] []

/-! ### slices.partialInsertionSortOrdered[string] -/
def slices_partialInsertionSortOrdered_string_o0_x4_S (qx1 : Int) (qx2 : Int) (vl : List (List UInt8)) (vx1 : Int) (vx10 : Int) : Bool → St
  | vx12 => Mem.st ⟨[(0, ⟨9, 1, List.map encS vl⟩)], []⟩ (tl [(0, .c (.own 0 none)), (1, .i qx1), (2, .i qx2), (7, .i vx10), (8, .i vx1), (32, .b vx12)]) 1

def slices_partialInsertionSortOrdered_string_o0_x4_I (qx1 : Int) (qx2 : Int) (vl : List (List UInt8)) (vx1 : Int) (vx10 : Int) : St := Mem.st ⟨[(0, ⟨9, 1, List.map encS vl⟩)], []⟩ (tl [(0, .c (.own 0 none)), (1, .i qx1), (2, .i qx2), (7, .i vx10), (8, .i vx1)]) 1

theorem slices_partialInsertionSortOrdered_string_o0_x4_ok (qx1 : Int) (qx2 : Int) (vl : List (List UInt8)) (vx1 : Int) (vx10 : Int) {r} (hF : slices_partialInsertionSortOrdered_string_o0_x4 qx2 vl vx10 = some r) : Awp prog 1 133 (cL (cL (cL (cL (cL (cL (cL (cR (cL (cL (cR (cL (cR (cR (cB f170))))))))))))))) (Out 1 nrm (slices_partialInsertionSortOrdered_string_o0_x4_S qx1 qx2 vl vx1 vx10) r) (slices_partialInsertionSortOrdered_string_o0_x4_I qx1 qx2 vl vx1 vx10) := by
  unfold slices_partialInsertionSortOrdered_string_o0_x4 at hF
  refine cE hF (fun h2 hF => ?_) fun h2 hF => ?_
  · refine bE hF fun vy21 h3 hF => bE hF fun vy22 h4 hF => bE hF fun vr7 h5 hF => aD ?_
    refine dR 2 ?_
    refine dB h2 ?_
    refine dR 3 ?_
    refine dX (x_idxO encS 0 h3) ?_
    refine dX (x_ldE encS h3) ?_
    refine dR 3 ?_
    refine dX (x_idxO encS 0 h4) ?_
    refine dX (x_ldE encS h4) ?_
    refine dC (cmp_Less_string_ok h5) [] [] [] ?_
    refine dR 2 ?_
    refine dE ?_
    exact oO hF [] [] rfl
  · refine aD ?_
    refine dR 2 ?_
    refine dB h2 ?_
    refine dR 13 ?_
    refine dE ?_
    exact oO hF [] [] rfl

def slices_partialInsertionSortOrdered_string_o0_x3_k : Int → AEx
  | _ => .exit 2

def slices_partialInsertionSortOrdered_string_o0_x3_S (qx1 : Int) (qx2 : Int) (vl : List (List UInt8)) (vx1 : Int) : Int → St
  | vx13 => Mem.st ⟨[(0, ⟨9, 1, List.map encS vl⟩)], []⟩ (tl [(0, .c (.own 0 none)), (1, .i qx1), (2, .i qx2), (7, .i vx13), (8, .i vx1)]) 1

def slices_partialInsertionSortOrdered_string_o0_x3_H (qx1 : Int) (qx2 : Int) (vl : List (List UInt8)) (vx1 : Int) : Int → St
  | vx10 => Mem.st ⟨[(0, ⟨9, 1, List.map encS vl⟩)], []⟩ (tl [(0, .c (.own 0 none)), (1, .i qx1), (2, .i qx2), (7, .i vx10), (8, .i vx1)]) 1

theorem slices_partialInsertionSortOrdered_string_o0_x3_ok (qx1 : Int) (qx2 : Int) (vl : List (List UInt8)) (vx1 : Int) (vx10 : Int) (r : (Int) ⊕ (Int)) (hF : slices_partialInsertionSortOrdered_string_o0_x3 qx2 vl vx10 = some r) : Awp prog 1 133 (cL (cL (cL (cL (cL (cR (cL (cL (cR (cL (cR (cR (cB f170))))))))))))) (Out 1 (kk slices_partialInsertionSortOrdered_string_o0_x3_k) (SS (slices_partialInsertionSortOrdered_string_o0_x3_H qx1 qx2 vl vx1) (slices_partialInsertionSortOrdered_string_o0_x3_S qx1 qx2 vl vx1)) r) (slices_partialInsertionSortOrdered_string_o0_x3_H qx1 qx2 vl vx1 vx10) := by
  unfold slices_partialInsertionSortOrdered_string_o0_x3 at hF
  refine awp_seq (awp_seq (awp_to (st' := slices_partialInsertionSortOrdered_string_o0_x4_I qx1 qx2 vl vx1 vx10) (oT [] []) ?_))
  refine bE hF fun vx12_1 h6 hF => awp_sub (slices_partialInsertionSortOrdered_string_o0_x4_ok qx1 qx2 vl vx1 vx10 h6) ?_
  refine cE hF (fun h7 hF => ?_) fun h7 hF => ?_
  · exact tT h7 (awp_skip (awp_block (gR 3 (oO hF [] [] rfl))))
  · refine tF h7 (awp_exit ?_)
    exact oO hF [] [] rfl

def slices_partialInsertionSortOrdered_string_o0_x6_k : (List (List UInt8)) → AEx
  | _ => .exit 4

def slices_partialInsertionSortOrdered_string_o0_x6_S (qx1 : Int) (qx2 : Int) (vx1 : Int) (vx13_1 : Int) : (List (List UInt8)) → St
  | vl8 => Mem.st ⟨[(0, ⟨9, 1, List.map encS vl8⟩)], []⟩ (tl [(0, .c (.own 0 none)), (1, .i qx1), (2, .i qx2), (7, .i vx13_1), (8, .i vx1)]) 1

def slices_partialInsertionSortOrdered_string_o0_x6_H (qx1 : Int) (qx2 : Int) (vx1 : Int) (vx13_1 : Int) : (List (List UInt8)) × Int → St
  | (vl7, vx14) => Mem.st ⟨[(0, ⟨9, 1, List.map encS vl7⟩)], []⟩ (tl [(0, .c (.own 0 none)), (1, .i qx1), (2, .i qx2), (7, .i vx13_1), (8, .i vx1), (9, .i vx14)]) 1

theorem slices_partialInsertionSortOrdered_string_o0_x6_ok (qx1 : Int) (qx2 : Int) (vx1 : Int) (vx13_1 : Int) (s : (List (List UInt8)) × Int) (r : ((List (List UInt8)) × Int) ⊕ ((List (List UInt8)))) (hF : slices_partialInsertionSortOrdered_string_o0_x6  s = some r) : Awp prog 1 133 (cL (cL (cR (cL (cR (cL (cR (cR (cR (cR (cL (cL (cR (cL (cL (cR (cL (cR (cR (cB f170)))))))))))))))))))) (Out 1 (kk slices_partialInsertionSortOrdered_string_o0_x6_k) (SS (slices_partialInsertionSortOrdered_string_o0_x6_H qx1 qx2 vx1 vx13_1) (slices_partialInsertionSortOrdered_string_o0_x6_S qx1 qx2 vx1 vx13_1)) r) (slices_partialInsertionSortOrdered_string_o0_x6_H qx1 qx2 vx1 vx13_1 s) := by
  obtain ⟨vl7, vx14⟩ := s
  unfold slices_partialInsertionSortOrdered_string_o0_x6 at hF
  refine awp_seq (sR 2 (cE hF (fun h15 hF => ?_) fun h15 hF => ?_))
  · refine tT h15 (awp_skip (awp_seq (awp_block (awp_seq (awp_seq (bE hF fun vy29 h16 hF => bE hF fun vy30 h17 hF => bE hF fun vr9 h18 hF => aD ?_))))))
    refine dR 2 ?_
    refine dX (x_idxO encS 0 h16) ?_
    refine dX (x_ldE encS h16) ?_
    refine dR 3 ?_
    refine dX (x_idxO encS 0 h17) ?_
    refine dX (x_ldE encS h17) ?_
    refine dC (cmp_Less_string_ok h18) [] [] [] ?_
    refine dR 1 ?_
    refine dE ?_
    refine cE hF (fun h19 hF => ?_) fun h19 hF => ?_
    · refine tT h19 (awp_exit ?_)
      exact oO hF [] [] rfl
    · refine tF h19 (awp_skip (bE hF fun vy31 h20 hF => aDw [0] ?_))
      refine dR 8 ?_
      refine dI encS 0 h17 rfl ?_
      refine dX (x_ldE encS h17) ?_
      refine dR 2 ?_
      refine dI encS 0 h16 rfl ?_
      refine dX (x_ldE encS h16) ?_
      refine dI encS 0 h16 rfl ?_
      refine dW encS vy30 h16 rfl ?_
      refine dI encS 0 h20 rfl ?_
      refine dW encS vy29 h20 rfl ?_
      refine dE ?_
      exact gR 3 (oO hF [] [] rfl)
  · refine tF h15 (awp_exit ?_)
    exact oO hF [] [] rfl

def slices_partialInsertionSortOrdered_string_o0_x5_S (qx1 : Int) (qx2 : Int) (vl : List (List UInt8)) (vx1 : Int) (vx13_1 : Int) (vy23 : List UInt8) (vy24 : List UInt8) : (List (List UInt8)) → St
  | vl9 => Mem.st ⟨[(0, ⟨9, 1, List.map encS vl9⟩)], []⟩ (tl [(0, .c (.own 0 none)), (1, .i qx1), (2, .i qx2), (7, .i vx13_1), (8, .i vx1)]) 1

def slices_partialInsertionSortOrdered_string_o0_x5_I (qx1 : Int) (qx2 : Int) (vl : List (List UInt8)) (vx1 : Int) (vx13_1 : Int) (vy23 : List UInt8) (vy24 : List UInt8) : St := Mem.st ⟨[(0, ⟨9, 1, List.map encS ((vl.set vx13_1.toNat vy23).set (IntKind.wrap .i64 (vx13_1 - 1)).toNat vy24)⟩)], []⟩ (tl [(0, .c (.own 0 none)), (1, .i qx1), (2, .i qx2), (7, .i vx13_1), (8, .i vx1)]) 1

theorem slices_partialInsertionSortOrdered_string_o0_x5_ok (qx1 : Int) (qx2 : Int) (vl : List (List UInt8)) (vx1 : Int) (vx13_1 : Int) (vy23 : List UInt8) (vy24 : List UInt8) {r} (hF : slices_partialInsertionSortOrdered_string_o0_x5 qx1 vl vx13_1 vy23 vy24 = some r) : Awp prog 1 133 (cL (cR (cR (cR (cR (cL (cL (cR (cL (cL (cR (cL (cR (cR (cB f170))))))))))))))) (Out 1 nrm (slices_partialInsertionSortOrdered_string_o0_x5_S qx1 qx2 vl vx1 vx13_1 vy23 vy24) r) (slices_partialInsertionSortOrdered_string_o0_x5_I qx1 qx2 vl vx1 vx13_1 vy23 vy24) := by
  unfold slices_partialInsertionSortOrdered_string_o0_x5 at hF
  refine sR 4 (cE hF (fun h14 hF => ?_) fun h14 hF => ?_)
  · refine tT h14 (sR 3 (awp_block (awp_to (st' := slices_partialInsertionSortOrdered_string_o0_x6_H qx1 qx2 vx1 vx13_1 ((vl.set vx13_1.toNat vy23).set (IntKind.wrap .i64 (vx13_1 - 1)).toNat vy24, IntKind.wrap .i64 (vx13_1 - 1))) (oT [] []) ?_)))
    refine bE hF fun vl8_1 h21 hF => awp_sub (awp_loop' (slices_partialInsertionSortOrdered_string_o0_x6_H qx1 qx2 vx1 vx13_1) slices_partialInsertionSortOrdered_string_o0_x6_k (slices_partialInsertionSortOrdered_string_o0_x6_S qx1 qx2 vx1 vx13_1) (by intro x; exact fun h => nomatch h) h21 (slices_partialInsertionSortOrdered_string_o0_x6_ok qx1 qx2 vx1 vx13_1)) ?_
    exact oO hF [] [] rfl
  · exact tF h14 (awp_skip (oO hF [] [] rfl))

def slices_partialInsertionSortOrdered_string_o0_x7_k : (List (List UInt8)) → AEx
  | _ => .exit 6

def slices_partialInsertionSortOrdered_string_o0_x7_S (qx1 : Int) (qx2 : Int) (vx1 : Int) (vx13_1 : Int) : (List (List UInt8)) → St
  | vl11 => Mem.st ⟨[(0, ⟨9, 1, List.map encS vl11⟩)], []⟩ (tl [(0, .c (.own 0 none)), (1, .i qx1), (2, .i qx2), (7, .i vx13_1), (8, .i vx1)]) 1

def slices_partialInsertionSortOrdered_string_o0_x7_H (qx1 : Int) (qx2 : Int) (vx1 : Int) (vx13_1 : Int) : (List (List UInt8)) × Int → St
  | (vl10, vx15) => Mem.st ⟨[(0, ⟨9, 1, List.map encS vl10⟩)], []⟩ (tl [(0, .c (.own 0 none)), (1, .i qx1), (2, .i qx2), (7, .i vx13_1), (8, .i vx1), (10, .i vx15)]) 1

theorem slices_partialInsertionSortOrdered_string_o0_x7_ok (qx1 : Int) (qx2 : Int) (vx1 : Int) (vx13_1 : Int) (s : (List (List UInt8)) × Int) (r : ((List (List UInt8)) × Int) ⊕ ((List (List UInt8)))) (hF : slices_partialInsertionSortOrdered_string_o0_x7 qx2 s = some r) : Awp prog 1 133 (cL (cL (cR (cL (cR (cR (cR (cR (cR (cR (cL (cL (cR (cL (cL (cR (cL (cR (cR (cB f170)))))))))))))))))))) (Out 1 (kk slices_partialInsertionSortOrdered_string_o0_x7_k) (SS (slices_partialInsertionSortOrdered_string_o0_x7_H qx1 qx2 vx1 vx13_1) (slices_partialInsertionSortOrdered_string_o0_x7_S qx1 qx2 vx1 vx13_1)) r) (slices_partialInsertionSortOrdered_string_o0_x7_H qx1 qx2 vx1 vx13_1 s) := by
  obtain ⟨vl10, vx15⟩ := s
  unfold slices_partialInsertionSortOrdered_string_o0_x7 at hF
  refine awp_seq (sR 3 (cE hF (fun h24 hF => ?_) fun h24 hF => ?_))
  · refine tT h24 (awp_skip (awp_seq (awp_block (awp_seq (awp_seq (bE hF fun vy35 h25 hF => bE hF fun vy36 h26 hF => bE hF fun vr11 h27 hF => aD ?_))))))
    refine dR 2 ?_
    refine dX (x_idxO encS 0 h25) ?_
    refine dX (x_ldE encS h25) ?_
    refine dR 3 ?_
    refine dX (x_idxO encS 0 h26) ?_
    refine dX (x_ldE encS h26) ?_
    refine dC (cmp_Less_string_ok h27) [] [] [] ?_
    refine dR 1 ?_
    refine dE ?_
    refine cE hF (fun h28 hF => ?_) fun h28 hF => ?_
    · refine tT h28 (awp_exit ?_)
      exact oO hF [] [] rfl
    · refine tF h28 (awp_skip (bE hF fun vy37 h29 hF => aDw [0] ?_))
      refine dR 8 ?_
      refine dI encS 0 h26 rfl ?_
      refine dX (x_ldE encS h26) ?_
      refine dR 2 ?_
      refine dI encS 0 h25 rfl ?_
      refine dX (x_ldE encS h25) ?_
      refine dI encS 0 h25 rfl ?_
      refine dW encS vy36 h25 rfl ?_
      refine dI encS 0 h29 rfl ?_
      refine dW encS vy35 h29 rfl ?_
      refine dE ?_
      exact gR 3 (oO hF [] [] rfl)
  · refine tF h24 (awp_exit ?_)
    exact oO hF [] [] rfl

def slices_partialInsertionSortOrdered_string_o0_x2_k : ((List (List UInt8)) × Int) ⊕ Bool → AEx
  | .inl _ => .normal
  | .inr _ => .ret

def slices_partialInsertionSortOrdered_string_o0_x2_S (qx1 : Int) (qx2 : Int) (vl : List (List UInt8)) (vx : Int) (vx1 : Int) : ((List (List UInt8)) × Int) ⊕ Bool → St
  | .inl (vl12, vx16) => Mem.st ⟨[(0, ⟨9, 1, List.map encS vl12⟩)], []⟩ (tl [(0, .c (.own 0 none)), (1, .i qx1), (2, .i qx2), (7, .i vx16), (8, .i vx1)]) 1
  | .inr vx17 => Mem.st ⟨[(0, ⟨9, 1, List.map encS vl⟩)], []⟩ (tl [(6, .b vx17)]) 1

def slices_partialInsertionSortOrdered_string_o0_x2_I (qx1 : Int) (qx2 : Int) (vl : List (List UInt8)) (vx : Int) (vx1 : Int) : St := Mem.st ⟨[(0, ⟨9, 1, List.map encS vl⟩)], []⟩ (tl [(0, .c (.own 0 none)), (1, .i qx1), (2, .i qx2), (7, .i vx), (8, .i vx1)]) 1

theorem slices_partialInsertionSortOrdered_string_o0_x2_ok (qx1 : Int) (qx2 : Int) (vl : List (List UInt8)) (vx : Int) (vx1 : Int) {r} (hF : slices_partialInsertionSortOrdered_string_o0_x2 qx1 qx2 vl vx = some r) : Awp prog 1 133 (cL (cR (cL (cL (cR (cL (cR (cR (cB f170))))))))) (Out 1 slices_partialInsertionSortOrdered_string_o0_x2_k (slices_partialInsertionSortOrdered_string_o0_x2_S qx1 qx2 vl vx vx1) r) (slices_partialInsertionSortOrdered_string_o0_x2_I qx1 qx2 vl vx vx1) := by
  unfold slices_partialInsertionSortOrdered_string_o0_x2 at hF
  refine awp_block (awp_seq (awp_block (awp_to (st' := slices_partialInsertionSortOrdered_string_o0_x3_H qx1 qx2 vl vx1 vx) (oT [] []) ?_)))
  refine bE hF fun vx13_1 h8 hF => awp_sub (awp_loop' (slices_partialInsertionSortOrdered_string_o0_x3_H qx1 qx2 vl vx1) slices_partialInsertionSortOrdered_string_o0_x3_k (slices_partialInsertionSortOrdered_string_o0_x3_S qx1 qx2 vl vx1) (by intro x; exact fun h => nomatch h) h8 (slices_partialInsertionSortOrdered_string_o0_x3_ok qx1 qx2 vl vx1)) ?_
  refine awp_seq (sR 3 (cE hF (fun h9 hF => ?_) fun h9 hF => ?_))
  · exact tT h9 (sR 1 (awp_ret (oO hF [] [] rfl)))
  · refine tF h9 (awp_skip (awp_seq (sR 4 (cE hF (fun h10 hF => ?_) fun h10 hF => ?_))))
    · exact tT h10 (sR 1 (awp_ret (oO hF [] [] rfl)))
    · refine tF h10 (awp_skip (awp_seq (bE hF fun vy23 h11 hF => bE hF fun vy24 h12 hF => bE hF fun vy25 h13 hF => aDw [0] ?_)))
      refine dR 8 ?_
      refine dI encS 0 h11 rfl ?_
      refine dX (x_ldE encS h11) ?_
      refine dR 2 ?_
      refine dI encS 0 h12 rfl ?_
      refine dX (x_ldE encS h12) ?_
      refine dI encS 0 h12 rfl ?_
      refine dW encS vy23 h12 rfl ?_
      refine dI encS 0 h13 rfl ?_
      refine dW encS vy24 h13 rfl ?_
      refine dE ?_
      refine awp_seq (awp_to (st' := slices_partialInsertionSortOrdered_string_o0_x5_I qx1 qx2 vl vx1 vx13_1 vy23 vy24) (oT [] []) ?_)
      refine bE hF fun vl9_1 h22 hF => awp_sub (slices_partialInsertionSortOrdered_string_o0_x5_ok qx1 qx2 vl vx1 vx13_1 vy23 vy24 h22) ?_
      refine sR 4 (cE hF (fun h23 hF => ?_) fun h23 hF => ?_)
      · refine tT h23 (sR 3 (awp_block (awp_to (st' := slices_partialInsertionSortOrdered_string_o0_x7_H qx1 qx2 vx1 vx13_1 (vl9_1, IntKind.wrap .i64 (vx13_1 + 1))) (oT [] []) ?_)))
        refine bE hF fun vl11_1 h30 hF => awp_sub (awp_loop' (slices_partialInsertionSortOrdered_string_o0_x7_H qx1 qx2 vx1 vx13_1) slices_partialInsertionSortOrdered_string_o0_x7_k (slices_partialInsertionSortOrdered_string_o0_x7_S qx1 qx2 vx1 vx13_1) (by intro x; exact fun h => nomatch h) h30 (slices_partialInsertionSortOrdered_string_o0_x7_ok qx1 qx2 vx1 vx13_1)) ?_
        exact oO hF [] [] rfl
      · exact tF h23 (awp_skip (oO hF [] [] rfl))

def slices_partialInsertionSortOrdered_string_o0_x1_k : (List (List UInt8)) ⊕ ((List (List UInt8)) × Bool) → AEx
  | .inl _ => .exit 0
  | .inr _ => .ret

def slices_partialInsertionSortOrdered_string_o0_x1_S (qx1 : Int) (qx2 : Int) : (List (List UInt8)) ⊕ ((List (List UInt8)) × Bool) → St
  | .inl vl13 => Mem.st ⟨[(0, ⟨9, 1, List.map encS vl13⟩)], []⟩ (tl []) 1
  | .inr (vl14, vx18) => Mem.st ⟨[(0, ⟨9, 1, List.map encS vl14⟩)], []⟩ (tl [(6, .b vx18)]) 1

def slices_partialInsertionSortOrdered_string_o0_x1_H (qx1 : Int) (qx2 : Int) : (List (List UInt8)) × Int × Int → St
  | (vl, vx, vx1) => Mem.st ⟨[(0, ⟨9, 1, List.map encS vl⟩)], []⟩ (tl [(0, .c (.own 0 none)), (1, .i qx1), (2, .i qx2), (7, .i vx), (8, .i vx1)]) 1

theorem slices_partialInsertionSortOrdered_string_o0_x1_ok (qx1 : Int) (qx2 : Int) (s : (List (List UInt8)) × Int × Int) (r : ((List (List UInt8)) × Int × Int) ⊕ ((List (List UInt8)) ⊕ ((List (List UInt8)) × Bool))) (hF : slices_partialInsertionSortOrdered_string_o0_x1 qx1 qx2 s = some r) : Awp prog 1 133 (cL (cL (cR (cL (cR (cR (cB f170))))))) (Out 1 (kk slices_partialInsertionSortOrdered_string_o0_x1_k) (SS (slices_partialInsertionSortOrdered_string_o0_x1_H qx1 qx2) (slices_partialInsertionSortOrdered_string_o0_x1_S qx1 qx2)) r) (slices_partialInsertionSortOrdered_string_o0_x1_H qx1 qx2 s) := by
  obtain ⟨vl, vx, vx1⟩ := s
  unfold slices_partialInsertionSortOrdered_string_o0_x1 at hF
  refine awp_seq (sR 2 (cE hF (fun h1 hF => ?_) fun h1 hF => ?_))
  · refine tT h1 (awp_skip (awp_seq (awp_to (st' := slices_partialInsertionSortOrdered_string_o0_x2_I qx1 qx2 vl vx vx1) (oT [] []) ?_)))
    refine bE hF fun x h31 hF => ?_
    rcases x with ⟨vl12_1, vx16_1⟩ | vx17_1
    · refine awp_sub (slices_partialInsertionSortOrdered_string_o0_x2_ok qx1 qx2 vl vx vx1 h31) ?_
      exact gR 3 (oO hF [] [] rfl)
    · refine awp_sub (slices_partialInsertionSortOrdered_string_o0_x2_ok qx1 qx2 vl vx vx1 h31) ?_
      exact oO hF [] [] rfl
  · refine tF h1 (awp_exit ?_)
    exact oO hF [] [] rfl

def slices_partialInsertionSortOrdered_string_o0_R (qx : List (List UInt8)) (qx1 : Int) (qx2 : Int) (r : (List (List UInt8)) × Bool) : TV × Mem := (.b r.2, ⟨[(0, ⟨9, 1, List.map encS r.1⟩)], []⟩)

theorem slices_partialInsertionSortOrdered_string_o0_ok {qx : List (List UInt8)} {qx1 : Int} {qx2 : Int} {r} (hF : slices_partialInsertionSortOrdered_string_o0 qx qx1 qx2 = some r) : Holds prog 170 [.c (.own 0 none), .i qx1, .i qx2] ⟨[(0, ⟨9, 1, List.map encS qx⟩)], []⟩ (Is (slices_partialInsertionSortOrdered_string_o0_R qx qx1 qx2 r)) := by
  unfold slices_partialInsertionSortOrdered_string_o0 at hF
  refine hW f170 133 1 1 ?_
  refine sR 1 (sR 3 (awp_seq (sR 1 (awp_block (awp_to (st' := slices_partialInsertionSortOrdered_string_o0_x1_H qx1 qx2 (qx, IntKind.wrap .i64 (qx1 + 1), 0)) (oT [] []) ?_)))))
  refine bE hF fun x h32 hF => ?_
  rcases x with vl13_1 | ⟨vl14_1, vx18_1⟩
  · refine awp_sub (awp_loop' (slices_partialInsertionSortOrdered_string_o0_x1_H qx1 qx2) slices_partialInsertionSortOrdered_string_o0_x1_k (slices_partialInsertionSortOrdered_string_o0_x1_S qx1 qx2) (by intro x; rcases x with x | x <;> exact fun h => nomatch h) h32 (slices_partialInsertionSortOrdered_string_o0_x1_ok qx1 qx2)) ?_
    exact sR 1 (awp_ret (oF hF [] []))
  · refine awp_sub (awp_loop' (slices_partialInsertionSortOrdered_string_o0_x1_H qx1 qx2) slices_partialInsertionSortOrdered_string_o0_x1_k (slices_partialInsertionSortOrdered_string_o0_x1_S qx1 qx2) (by intro x; rcases x with x | x <;> exact fun h => nomatch h) h32 (slices_partialInsertionSortOrdered_string_o0_x1_ok qx1 qx2)) ?_
    exact oF hF [] []

/-! ### slices.partitionEqualOrdered[string] -/
def slices_partitionEqualOrdered_string_o0_x3_S (qx1 : Int) (vl : List (List UInt8)) (vx1 : Int) (vx10 : Int) : Bool → St
  | vx12 => Mem.st ⟨[(0, ⟨9, 1, List.map encS vl⟩)], []⟩ (tl [(0, .c (.own 0 none)), (1, .i qx1), (9, .i vx10), (10, .i vx1), (43, .b vx12)]) 1

def slices_partitionEqualOrdered_string_o0_x3_I (qx1 : Int) (vl : List (List UInt8)) (vx1 : Int) (vx10 : Int) : St := Mem.st ⟨[(0, ⟨9, 1, List.map encS vl⟩)], []⟩ (tl [(0, .c (.own 0 none)), (1, .i qx1), (9, .i vx10), (10, .i vx1)]) 1

theorem slices_partitionEqualOrdered_string_o0_x3_ok (qx1 : Int) (vl : List (List UInt8)) (vx1 : Int) (vx10 : Int) {r} (hF : slices_partitionEqualOrdered_string_o0_x3 qx1 vl vx1 vx10 = some r) : Awp prog 1 84 (cL (cL (cL (cL (cL (cL (cL (cL (cL (cR (cR (cR (cB f172))))))))))))) (Out 1 nrm (slices_partitionEqualOrdered_string_o0_x3_S qx1 vl vx1 vx10) r) (slices_partitionEqualOrdered_string_o0_x3_I qx1 vl vx1 vx10) := by
  unfold slices_partitionEqualOrdered_string_o0_x3 at hF
  refine cE hF (fun h4 hF => ?_) fun h4 hF => ?_
  · refine bE hF fun vy16 h5 hF => bE hF fun vy17 h6 hF => bE hF fun vr5 h7 hF => aD ?_
    refine dR 2 ?_
    refine dB h4 ?_
    refine dR 3 ?_
    refine dX (x_idxO encS 0 h5) ?_
    refine dX (x_ldE encS h5) ?_
    refine dR 2 ?_
    refine dX (x_idxO encS 0 h6) ?_
    refine dX (x_ldE encS h6) ?_
    refine dC (cmp_Less_string_ok h7) [] [] [] ?_
    refine dR 2 ?_
    refine dE ?_
    exact oO hF [] [] rfl
  · refine aD ?_
    refine dR 2 ?_
    refine dB h4 ?_
    refine dR 12 ?_
    refine dE ?_
    exact oO hF [] [] rfl

def slices_partitionEqualOrdered_string_o0_x2_k : Int → AEx
  | _ => .exit 2

def slices_partitionEqualOrdered_string_o0_x2_S (qx1 : Int) (vl : List (List UInt8)) (vx1 : Int) : Int → St
  | vx13 => Mem.st ⟨[(0, ⟨9, 1, List.map encS vl⟩)], []⟩ (tl [(0, .c (.own 0 none)), (1, .i qx1), (9, .i vx13), (10, .i vx1)]) 1

def slices_partitionEqualOrdered_string_o0_x2_H (qx1 : Int) (vl : List (List UInt8)) (vx1 : Int) : Int → St
  | vx10 => Mem.st ⟨[(0, ⟨9, 1, List.map encS vl⟩)], []⟩ (tl [(0, .c (.own 0 none)), (1, .i qx1), (9, .i vx10), (10, .i vx1)]) 1

theorem slices_partitionEqualOrdered_string_o0_x2_ok (qx1 : Int) (vl : List (List UInt8)) (vx1 : Int) (vx10 : Int) (r : (Int) ⊕ (Int)) (hF : slices_partitionEqualOrdered_string_o0_x2 qx1 vl vx1 vx10 = some r) : Awp prog 1 84 (cL (cL (cL (cL (cL (cL (cL (cR (cR (cR (cB f172))))))))))) (Out 1 (kk slices_partitionEqualOrdered_string_o0_x2_k) (SS (slices_partitionEqualOrdered_string_o0_x2_H qx1 vl vx1) (slices_partitionEqualOrdered_string_o0_x2_S qx1 vl vx1)) r) (slices_partitionEqualOrdered_string_o0_x2_H qx1 vl vx1 vx10) := by
  unfold slices_partitionEqualOrdered_string_o0_x2 at hF
  refine awp_seq (awp_seq (awp_to (st' := slices_partitionEqualOrdered_string_o0_x3_I qx1 vl vx1 vx10) (oT [] []) ?_))
  refine bE hF fun vx12_1 h8 hF => awp_sub (slices_partitionEqualOrdered_string_o0_x3_ok qx1 vl vx1 vx10 h8) ?_
  refine cE hF (fun h9 hF => ?_) fun h9 hF => ?_
  · exact tT h9 (awp_skip (awp_block (gR 3 (oO hF [] [] rfl))))
  · refine tF h9 (awp_exit ?_)
    exact oO hF [] [] rfl

def slices_partitionEqualOrdered_string_o0_x5_S (qx1 : Int) (vl : List (List UInt8)) (vx13_1 : Int) (vx14 : Int) : Bool → St
  | vx16 => Mem.st ⟨[(0, ⟨9, 1, List.map encS vl⟩)], []⟩ (tl [(0, .c (.own 0 none)), (1, .i qx1), (9, .i vx13_1), (10, .i vx14), (59, .b vx16)]) 1

def slices_partitionEqualOrdered_string_o0_x5_I (qx1 : Int) (vl : List (List UInt8)) (vx13_1 : Int) (vx14 : Int) : St := Mem.st ⟨[(0, ⟨9, 1, List.map encS vl⟩)], []⟩ (tl [(0, .c (.own 0 none)), (1, .i qx1), (9, .i vx13_1), (10, .i vx14)]) 1

theorem slices_partitionEqualOrdered_string_o0_x5_ok (qx1 : Int) (vl : List (List UInt8)) (vx13_1 : Int) (vx14 : Int) {r} (hF : slices_partitionEqualOrdered_string_o0_x5 qx1 vl vx13_1 vx14 = some r) : Awp prog 1 84 (cL (cL (cL (cL (cL (cR (cL (cL (cL (cL (cR (cR (cR (cB f172)))))))))))))) (Out 1 nrm (slices_partitionEqualOrdered_string_o0_x5_S qx1 vl vx13_1 vx14) r) (slices_partitionEqualOrdered_string_o0_x5_I qx1 vl vx13_1 vx14) := by
  unfold slices_partitionEqualOrdered_string_o0_x5 at hF
  refine cE hF (fun h11 hF => ?_) fun h11 hF => ?_
  · refine bE hF fun vy20 h12 hF => bE hF fun vy21 h13 hF => bE hF fun vr7 h14 hF => aD ?_
    refine dR 2 ?_
    refine dB h11 ?_
    refine dR 3 ?_
    refine dX (x_idxO encS 0 h12) ?_
    refine dX (x_ldE encS h12) ?_
    refine dR 2 ?_
    refine dX (x_idxO encS 0 h13) ?_
    refine dX (x_ldE encS h13) ?_
    refine dC (cmp_Less_string_ok h14) [] [] [] ?_
    refine dR 1 ?_
    refine dE ?_
    exact oO hF [] [] rfl
  · refine aD ?_
    refine dR 2 ?_
    refine dB h11 ?_
    refine dR 11 ?_
    refine dE ?_
    exact oO hF [] [] rfl

def slices_partitionEqualOrdered_string_o0_x4_k : Int → AEx
  | _ => .exit 4

def slices_partitionEqualOrdered_string_o0_x4_S (qx1 : Int) (vl : List (List UInt8)) (vx13_1 : Int) : Int → St
  | vx17 => Mem.st ⟨[(0, ⟨9, 1, List.map encS vl⟩)], []⟩ (tl [(0, .c (.own 0 none)), (1, .i qx1), (9, .i vx13_1), (10, .i vx17)]) 1

def slices_partitionEqualOrdered_string_o0_x4_H (qx1 : Int) (vl : List (List UInt8)) (vx13_1 : Int) : Int → St
  | vx14 => Mem.st ⟨[(0, ⟨9, 1, List.map encS vl⟩)], []⟩ (tl [(0, .c (.own 0 none)), (1, .i qx1), (9, .i vx13_1), (10, .i vx14)]) 1

theorem slices_partitionEqualOrdered_string_o0_x4_ok (qx1 : Int) (vl : List (List UInt8)) (vx13_1 : Int) (vx14 : Int) (r : (Int) ⊕ (Int)) (hF : slices_partitionEqualOrdered_string_o0_x4 qx1 vl vx13_1 vx14 = some r) : Awp prog 1 84 (cL (cL (cL (cR (cL (cL (cL (cL (cR (cR (cR (cB f172)))))))))))) (Out 1 (kk slices_partitionEqualOrdered_string_o0_x4_k) (SS (slices_partitionEqualOrdered_string_o0_x4_H qx1 vl vx13_1) (slices_partitionEqualOrdered_string_o0_x4_S qx1 vl vx13_1)) r) (slices_partitionEqualOrdered_string_o0_x4_H qx1 vl vx13_1 vx14) := by
  unfold slices_partitionEqualOrdered_string_o0_x4 at hF
  refine awp_seq (awp_seq (awp_to (st' := slices_partitionEqualOrdered_string_o0_x5_I qx1 vl vx13_1 vx14) (oT [] []) ?_))
  refine bE hF fun vx16_1 h15 hF => awp_sub (slices_partitionEqualOrdered_string_o0_x5_ok qx1 vl vx13_1 vx14 h15) ?_
  refine cE hF (fun h16 hF => ?_) fun h16 hF => ?_
  · exact tT h16 (awp_skip (awp_block (gR 3 (oO hF [] [] rfl))))
  · refine tF h16 (awp_exit ?_)
    exact oO hF [] [] rfl

def slices_partitionEqualOrdered_string_o0_x1_k : ((List (List UInt8)) × Int) → AEx
  | _ => .exit 0

def slices_partitionEqualOrdered_string_o0_x1_S (qx1 : Int) : ((List (List UInt8)) × Int) → St
  | (vl1, vx18) => Mem.st ⟨[(0, ⟨9, 1, List.map encS vl1⟩)], []⟩ (tl [(9, .i vx18)]) 1

def slices_partitionEqualOrdered_string_o0_x1_H (qx1 : Int) : (List (List UInt8)) × Int × Int → St
  | (vl, vx, vx1) => Mem.st ⟨[(0, ⟨9, 1, List.map encS vl⟩)], []⟩ (tl [(0, .c (.own 0 none)), (1, .i qx1), (9, .i vx), (10, .i vx1)]) 1

theorem slices_partitionEqualOrdered_string_o0_x1_ok (qx1 : Int) (s : (List (List UInt8)) × Int × Int) (r : ((List (List UInt8)) × Int × Int) ⊕ (((List (List UInt8)) × Int))) (hF : slices_partitionEqualOrdered_string_o0_x1 qx1 s = some r) : Awp prog 1 84 (cL (cL (cL (cR (cR (cR (cB f172))))))) (Out 1 (kk slices_partitionEqualOrdered_string_o0_x1_k) (SS (slices_partitionEqualOrdered_string_o0_x1_H qx1) (slices_partitionEqualOrdered_string_o0_x1_S qx1)) r) (slices_partitionEqualOrdered_string_o0_x1_H qx1 s) := by
  obtain ⟨vl, vx, vx1⟩ := s
  unfold slices_partitionEqualOrdered_string_o0_x1 at hF
  refine awp_block (awp_seq (awp_block (awp_to (st' := slices_partitionEqualOrdered_string_o0_x2_H qx1 vl vx1 vx) (oT [] []) ?_)))
  refine bE hF fun vx13_1 h10 hF => awp_sub (awp_loop' (slices_partitionEqualOrdered_string_o0_x2_H qx1 vl vx1) slices_partitionEqualOrdered_string_o0_x2_k (slices_partitionEqualOrdered_string_o0_x2_S qx1 vl vx1) (by intro x; exact fun h => nomatch h) h10 (slices_partitionEqualOrdered_string_o0_x2_ok qx1 vl vx1)) ?_
  refine awp_seq (awp_block (awp_to (st' := slices_partitionEqualOrdered_string_o0_x4_H qx1 vl vx13_1 vx1) (oT [] []) ?_))
  refine bE hF fun vx17_1 h17 hF => awp_sub (awp_loop' (slices_partitionEqualOrdered_string_o0_x4_H qx1 vl vx13_1) slices_partitionEqualOrdered_string_o0_x4_k (slices_partitionEqualOrdered_string_o0_x4_S qx1 vl vx13_1) (by intro x; exact fun h => nomatch h) h17 (slices_partitionEqualOrdered_string_o0_x4_ok qx1 vl vx13_1)) ?_
  refine awp_seq (sR 3 (cE hF (fun h18 hF => ?_) fun h18 hF => ?_))
  · refine tT h18 (awp_exit ?_)
    exact oO hF [] [] rfl
  · refine tF h18 (awp_skip (awp_seq (bE hF fun vy22 h19 hF => bE hF fun vy23 h20 hF => bE hF fun vy24 h21 hF => aDw [0] ?_)))
    refine dR 6 ?_
    refine dI encS 0 h19 rfl ?_
    refine dX (x_ldE encS h19) ?_
    refine dR 2 ?_
    refine dI encS 0 h20 rfl ?_
    refine dX (x_ldE encS h20) ?_
    refine dI encS 0 h20 rfl ?_
    refine dW encS vy22 h20 rfl ?_
    refine dI encS 0 h21 rfl ?_
    refine dW encS vy23 h21 rfl ?_
    refine dE ?_
    exact sR 3 (gR 3 (oO hF [] [] rfl))

def slices_partitionEqualOrdered_string_o0_R (qx : List (List UInt8)) (qx1 : Int) (qx2 : Int) (qx3 : Int) (r : (List (List UInt8)) × Int) : TV × Mem := (.i r.2, ⟨[(0, ⟨9, 1, List.map encS r.1⟩)], []⟩)

theorem slices_partitionEqualOrdered_string_o0_ok {qx : List (List UInt8)} {qx1 : Int} {qx2 : Int} {qx3 : Int} {r} (hF : slices_partitionEqualOrdered_string_o0 qx qx1 qx2 qx3 = some r) : Holds prog 172 [.c (.own 0 none), .i qx1, .i qx2, .i qx3] ⟨[(0, ⟨9, 1, List.map encS qx⟩)], []⟩ (Is (slices_partitionEqualOrdered_string_o0_R qx qx1 qx2 qx3 r)) := by
  unfold slices_partitionEqualOrdered_string_o0 at hF
  refine hW f172 84 1 1 ?_
  refine sR 1 (awp_seq (bE hF fun vy h1 hF => bE hF fun vy1 h2 hF => bE hF fun vy2 h3 hF => aDw [0] ?_))
  refine dR 6 ?_
  refine dI encS 0 h1 rfl ?_
  refine dX (x_ldE encS h1) ?_
  refine dR 2 ?_
  refine dI encS 0 h2 rfl ?_
  refine dX (x_ldE encS h2) ?_
  refine dI encS 0 h2 rfl ?_
  refine dW encS vy h2 rfl ?_
  refine dI encS 0 h3 rfl ?_
  refine dW encS vy1 h3 rfl ?_
  refine dE ?_
  refine sR 6 (awp_seq (awp_block (awp_to (st' := slices_partitionEqualOrdered_string_o0_x1_H qx1 ((qx.set qx1.toNat vy).set qx3.toNat vy1, IntKind.wrap .i64 (qx1 + 1), IntKind.wrap .i64 (qx2 - 1))) (oT [] []) ?_)))
  refine bE hF fun x h22 hF => ?_
  obtain ⟨vl1_1, vx18_1⟩ := x
  refine awp_sub (awp_loop' (slices_partitionEqualOrdered_string_o0_x1_H qx1) slices_partitionEqualOrdered_string_o0_x1_k (slices_partitionEqualOrdered_string_o0_x1_S qx1) (by intro x; exact fun h => nomatch h) h22 (slices_partitionEqualOrdered_string_o0_x1_ok qx1)) ?_
  exact sR 2 (awp_ret (oF hF [] []))

/-! ### slices.partitionOrdered[string] -/
def slices_partitionOrdered_string_o0_x2_S (qx : List (List UInt8)) (qx1 : Int) (qx2 : Int) (qx3 : Int) (vy : List UInt8) (vy1 : List UInt8) (vx : Int) : Bool → St
  | vx2 => Mem.st ⟨[(0, ⟨9, 1, List.map encS ((qx.set qx1.toNat vy).set qx3.toNat vy1)⟩)], []⟩ (tl [(0, .c (.own 0 none)), (1, .i qx1), (10, .i vx), (11, .i (IntKind.wrap .i64 (qx2 - 1))), (43, .b vx2)]) 1

def slices_partitionOrdered_string_o0_x2_I (qx : List (List UInt8)) (qx1 : Int) (qx2 : Int) (qx3 : Int) (vy : List UInt8) (vy1 : List UInt8) (vx : Int) : St := Mem.st ⟨[(0, ⟨9, 1, List.map encS ((qx.set qx1.toNat vy).set qx3.toNat vy1)⟩)], []⟩ (tl [(0, .c (.own 0 none)), (1, .i qx1), (10, .i vx), (11, .i (IntKind.wrap .i64 (qx2 - 1)))]) 1

theorem slices_partitionOrdered_string_o0_x2_ok (qx : List (List UInt8)) (qx1 : Int) (qx2 : Int) (qx3 : Int) (vy : List UInt8) (vy1 : List UInt8) (vx : Int) {r} (hF : slices_partitionOrdered_string_o0_x2 qx qx1 qx2 qx3 vy vy1 vx = some r) : Awp prog 1 168 (cL (cL (cL (cL (cL (cR (cR (cR (cB f173))))))))) (Out 1 nrm (slices_partitionOrdered_string_o0_x2_S qx qx1 qx2 qx3 vy vy1 vx) r) (slices_partitionOrdered_string_o0_x2_I qx qx1 qx2 qx3 vy vy1 vx) := by
  unfold slices_partitionOrdered_string_o0_x2 at hF
  refine cE hF (fun h4 hF => ?_) fun h4 hF => ?_
  · refine bE hF fun vy5 h5 hF => bE hF fun vy6 h6 hF => bE hF fun vr1 h7 hF => aD ?_
    refine dR 2 ?_
    refine dB h4 ?_
    refine dR 3 ?_
    refine dX (x_idxO encS 0 h5) ?_
    refine dX (x_ldE encS h5) ?_
    refine dR 2 ?_
    refine dX (x_idxO encS 0 h6) ?_
    refine dX (x_ldE encS h6) ?_
    refine dC (cmp_Less_string_ok h7) [] [] [] ?_
    refine dR 1 ?_
    refine dE ?_
    exact oO hF [] [] rfl
  · refine aD ?_
    refine dR 2 ?_
    refine dB h4 ?_
    refine dR 11 ?_
    refine dE ?_
    exact oO hF [] [] rfl

def slices_partitionOrdered_string_o0_x1_k : Int → AEx
  | _ => .exit 0

def slices_partitionOrdered_string_o0_x1_S (qx : List (List UInt8)) (qx1 : Int) (qx2 : Int) (qx3 : Int) (vy : List UInt8) (vy1 : List UInt8) : Int → St
  | vx3 => Mem.st ⟨[(0, ⟨9, 1, List.map encS ((qx.set qx1.toNat vy).set qx3.toNat vy1)⟩)], []⟩ (tl [(0, .c (.own 0 none)), (1, .i qx1), (10, .i vx3), (11, .i (IntKind.wrap .i64 (qx2 - 1)))]) 1

def slices_partitionOrdered_string_o0_x1_H (qx : List (List UInt8)) (qx1 : Int) (qx2 : Int) (qx3 : Int) (vy : List UInt8) (vy1 : List UInt8) : Int → St
  | vx => Mem.st ⟨[(0, ⟨9, 1, List.map encS ((qx.set qx1.toNat vy).set qx3.toNat vy1)⟩)], []⟩ (tl [(0, .c (.own 0 none)), (1, .i qx1), (10, .i vx), (11, .i (IntKind.wrap .i64 (qx2 - 1)))]) 1

theorem slices_partitionOrdered_string_o0_x1_ok (qx : List (List UInt8)) (qx1 : Int) (qx2 : Int) (qx3 : Int) (vy : List UInt8) (vy1 : List UInt8) (vx : Int) (r : (Int) ⊕ (Int)) (hF : slices_partitionOrdered_string_o0_x1 qx qx1 qx2 qx3 vy vy1 vx = some r) : Awp prog 1 168 (cL (cL (cL (cR (cR (cR (cB f173))))))) (Out 1 (kk slices_partitionOrdered_string_o0_x1_k) (SS (slices_partitionOrdered_string_o0_x1_H qx qx1 qx2 qx3 vy vy1) (slices_partitionOrdered_string_o0_x1_S qx qx1 qx2 qx3 vy vy1)) r) (slices_partitionOrdered_string_o0_x1_H qx qx1 qx2 qx3 vy vy1 vx) := by
  unfold slices_partitionOrdered_string_o0_x1 at hF
  refine awp_seq (awp_seq (awp_to (st' := slices_partitionOrdered_string_o0_x2_I qx qx1 qx2 qx3 vy vy1 vx) (oT [] []) ?_))
  refine bE hF fun vx2_1 h8 hF => awp_sub (slices_partitionOrdered_string_o0_x2_ok qx qx1 qx2 qx3 vy vy1 vx h8) ?_
  refine cE hF (fun h9 hF => ?_) fun h9 hF => ?_
  · exact tT h9 (awp_skip (awp_block (gR 3 (oO hF [] [] rfl))))
  · refine tF h9 (awp_exit ?_)
    exact oO hF [] [] rfl

def slices_partitionOrdered_string_o0_x4_S (qx : List (List UInt8)) (qx1 : Int) (qx3 : Int) (vy : List UInt8) (vy1 : List UInt8) (vx3_1 : Int) (vx4 : Int) : Bool → St
  | vx6 => Mem.st ⟨[(0, ⟨9, 1, List.map encS ((qx.set qx1.toNat vy).set qx3.toNat vy1)⟩)], []⟩ (tl [(0, .c (.own 0 none)), (1, .i qx1), (10, .i vx3_1), (11, .i vx4), (60, .b vx6)]) 1

def slices_partitionOrdered_string_o0_x4_I (qx : List (List UInt8)) (qx1 : Int) (qx3 : Int) (vy : List UInt8) (vy1 : List UInt8) (vx3_1 : Int) (vx4 : Int) : St := Mem.st ⟨[(0, ⟨9, 1, List.map encS ((qx.set qx1.toNat vy).set qx3.toNat vy1)⟩)], []⟩ (tl [(0, .c (.own 0 none)), (1, .i qx1), (10, .i vx3_1), (11, .i vx4)]) 1

theorem slices_partitionOrdered_string_o0_x4_ok (qx : List (List UInt8)) (qx1 : Int) (qx3 : Int) (vy : List UInt8) (vy1 : List UInt8) (vx3_1 : Int) (vx4 : Int) {r} (hF : slices_partitionOrdered_string_o0_x4 qx qx1 qx3 vy vy1 vx3_1 vx4 = some r) : Awp prog 1 168 (cL (cL (cL (cL (cL (cR (cR (cR (cR (cB f173)))))))))) (Out 1 nrm (slices_partitionOrdered_string_o0_x4_S qx qx1 qx3 vy vy1 vx3_1 vx4) r) (slices_partitionOrdered_string_o0_x4_I qx qx1 qx3 vy vy1 vx3_1 vx4) := by
  unfold slices_partitionOrdered_string_o0_x4 at hF
  refine cE hF (fun h11 hF => ?_) fun h11 hF => ?_
  · refine bE hF fun vy9 h12 hF => bE hF fun vy10 h13 hF => bE hF fun vr3 h14 hF => aD ?_
    refine dR 2 ?_
    refine dB h11 ?_
    refine dR 3 ?_
    refine dX (x_idxO encS 0 h12) ?_
    refine dX (x_ldE encS h12) ?_
    refine dR 2 ?_
    refine dX (x_idxO encS 0 h13) ?_
    refine dX (x_ldE encS h13) ?_
    refine dC (cmp_Less_string_ok h14) [] [] [] ?_
    refine dR 2 ?_
    refine dE ?_
    exact oO hF [] [] rfl
  · refine aD ?_
    refine dR 2 ?_
    refine dB h11 ?_
    refine dR 12 ?_
    refine dE ?_
    exact oO hF [] [] rfl

def slices_partitionOrdered_string_o0_x3_k : Int → AEx
  | _ => .exit 2

def slices_partitionOrdered_string_o0_x3_S (qx : List (List UInt8)) (qx1 : Int) (qx3 : Int) (vy : List UInt8) (vy1 : List UInt8) (vx3_1 : Int) : Int → St
  | vx7 => Mem.st ⟨[(0, ⟨9, 1, List.map encS ((qx.set qx1.toNat vy).set qx3.toNat vy1)⟩)], []⟩ (tl [(0, .c (.own 0 none)), (1, .i qx1), (10, .i vx3_1), (11, .i vx7)]) 1

def slices_partitionOrdered_string_o0_x3_H (qx : List (List UInt8)) (qx1 : Int) (qx3 : Int) (vy : List UInt8) (vy1 : List UInt8) (vx3_1 : Int) : Int → St
  | vx4 => Mem.st ⟨[(0, ⟨9, 1, List.map encS ((qx.set qx1.toNat vy).set qx3.toNat vy1)⟩)], []⟩ (tl [(0, .c (.own 0 none)), (1, .i qx1), (10, .i vx3_1), (11, .i vx4)]) 1

theorem slices_partitionOrdered_string_o0_x3_ok (qx : List (List UInt8)) (qx1 : Int) (qx3 : Int) (vy : List UInt8) (vy1 : List UInt8) (vx3_1 : Int) (vx4 : Int) (r : (Int) ⊕ (Int)) (hF : slices_partitionOrdered_string_o0_x3 qx qx1 qx3 vy vy1 vx3_1 vx4 = some r) : Awp prog 1 168 (cL (cL (cL (cR (cR (cR (cR (cB f173)))))))) (Out 1 (kk slices_partitionOrdered_string_o0_x3_k) (SS (slices_partitionOrdered_string_o0_x3_H qx qx1 qx3 vy vy1 vx3_1) (slices_partitionOrdered_string_o0_x3_S qx qx1 qx3 vy vy1 vx3_1)) r) (slices_partitionOrdered_string_o0_x3_H qx qx1 qx3 vy vy1 vx3_1 vx4) := by
  unfold slices_partitionOrdered_string_o0_x3 at hF
  refine awp_seq (awp_seq (awp_to (st' := slices_partitionOrdered_string_o0_x4_I qx qx1 qx3 vy vy1 vx3_1 vx4) (oT [] []) ?_))
  refine bE hF fun vx6_1 h15 hF => awp_sub (slices_partitionOrdered_string_o0_x4_ok qx qx1 qx3 vy vy1 vx3_1 vx4 h15) ?_
  refine cE hF (fun h16 hF => ?_) fun h16 hF => ?_
  · exact tT h16 (awp_skip (awp_block (gR 3 (oO hF [] [] rfl))))
  · refine tF h16 (awp_exit ?_)
    exact oO hF [] [] rfl

def slices_partitionOrdered_string_o0_x7_S (qx1 : Int) (vl : List (List UInt8)) (vx9 : Int) (vx18 : Int) : Bool → St
  | vx20 => Mem.st ⟨[(0, ⟨9, 1, List.map encS vl⟩)], []⟩ (tl [(0, .c (.own 0 none)), (1, .i qx1), (10, .i vx18), (11, .i vx9), (112, .b vx20)]) 1

def slices_partitionOrdered_string_o0_x7_I (qx1 : Int) (vl : List (List UInt8)) (vx9 : Int) (vx18 : Int) : St := Mem.st ⟨[(0, ⟨9, 1, List.map encS vl⟩)], []⟩ (tl [(0, .c (.own 0 none)), (1, .i qx1), (10, .i vx18), (11, .i vx9)]) 1

theorem slices_partitionOrdered_string_o0_x7_ok (qx1 : Int) (vl : List (List UInt8)) (vx9 : Int) (vx18 : Int) {r} (hF : slices_partitionOrdered_string_o0_x7 qx1 vl vx9 vx18 = some r) : Awp prog 1 168 (cL (cL (cL (cL (cL (cL (cL (cL (cL (cR (cR (cR (cR (cR (cR (cR (cR (cR (cB f173))))))))))))))))))) (Out 1 nrm (slices_partitionOrdered_string_o0_x7_S qx1 vl vx9 vx18) r) (slices_partitionOrdered_string_o0_x7_I qx1 vl vx9 vx18) := by
  unfold slices_partitionOrdered_string_o0_x7 at hF
  refine cE hF (fun h25 hF => ?_) fun h25 hF => ?_
  · refine bE hF fun vy30 h26 hF => bE hF fun vy31 h27 hF => bE hF fun vr9 h28 hF => aD ?_
    refine dR 2 ?_
    refine dB h25 ?_
    refine dR 3 ?_
    refine dX (x_idxO encS 0 h26) ?_
    refine dX (x_ldE encS h26) ?_
    refine dR 2 ?_
    refine dX (x_idxO encS 0 h27) ?_
    refine dX (x_ldE encS h27) ?_
    refine dC (cmp_Less_string_ok h28) [] [] [] ?_
    refine dR 1 ?_
    refine dE ?_
    exact oO hF [] [] rfl
  · refine aD ?_
    refine dR 2 ?_
    refine dB h25 ?_
    refine dR 11 ?_
    refine dE ?_
    exact oO hF [] [] rfl

def slices_partitionOrdered_string_o0_x6_k : Int → AEx
  | _ => .exit 6

def slices_partitionOrdered_string_o0_x6_S (qx1 : Int) (vl : List (List UInt8)) (vx9 : Int) : Int → St
  | vx21 => Mem.st ⟨[(0, ⟨9, 1, List.map encS vl⟩)], []⟩ (tl [(0, .c (.own 0 none)), (1, .i qx1), (10, .i vx21), (11, .i vx9)]) 1

def slices_partitionOrdered_string_o0_x6_H (qx1 : Int) (vl : List (List UInt8)) (vx9 : Int) : Int → St
  | vx18 => Mem.st ⟨[(0, ⟨9, 1, List.map encS vl⟩)], []⟩ (tl [(0, .c (.own 0 none)), (1, .i qx1), (10, .i vx18), (11, .i vx9)]) 1

theorem slices_partitionOrdered_string_o0_x6_ok (qx1 : Int) (vl : List (List UInt8)) (vx9 : Int) (vx18 : Int) (r : (Int) ⊕ (Int)) (hF : slices_partitionOrdered_string_o0_x6 qx1 vl vx9 vx18 = some r) : Awp prog 1 168 (cL (cL (cL (cL (cL (cL (cL (cR (cR (cR (cR (cR (cR (cR (cR (cR (cB f173))))))))))))))))) (Out 1 (kk slices_partitionOrdered_string_o0_x6_k) (SS (slices_partitionOrdered_string_o0_x6_H qx1 vl vx9) (slices_partitionOrdered_string_o0_x6_S qx1 vl vx9)) r) (slices_partitionOrdered_string_o0_x6_H qx1 vl vx9 vx18) := by
  unfold slices_partitionOrdered_string_o0_x6 at hF
  refine awp_seq (awp_seq (awp_to (st' := slices_partitionOrdered_string_o0_x7_I qx1 vl vx9 vx18) (oT [] []) ?_))
  refine bE hF fun vx20_1 h29 hF => awp_sub (slices_partitionOrdered_string_o0_x7_ok qx1 vl vx9 vx18 h29) ?_
  refine cE hF (fun h30 hF => ?_) fun h30 hF => ?_
  · exact tT h30 (awp_skip (awp_block (gR 3 (oO hF [] [] rfl))))
  · refine tF h30 (awp_exit ?_)
    exact oO hF [] [] rfl

def slices_partitionOrdered_string_o0_x9_S (qx1 : Int) (vl : List (List UInt8)) (vx21_1 : Int) (vx22 : Int) : Bool → St
  | vx24 => Mem.st ⟨[(0, ⟨9, 1, List.map encS vl⟩)], []⟩ (tl [(0, .c (.own 0 none)), (1, .i qx1), (10, .i vx21_1), (11, .i vx22), (129, .b vx24)]) 1

def slices_partitionOrdered_string_o0_x9_I (qx1 : Int) (vl : List (List UInt8)) (vx21_1 : Int) (vx22 : Int) : St := Mem.st ⟨[(0, ⟨9, 1, List.map encS vl⟩)], []⟩ (tl [(0, .c (.own 0 none)), (1, .i qx1), (10, .i vx21_1), (11, .i vx22)]) 1

theorem slices_partitionOrdered_string_o0_x9_ok (qx1 : Int) (vl : List (List UInt8)) (vx21_1 : Int) (vx22 : Int) {r} (hF : slices_partitionOrdered_string_o0_x9 qx1 vl vx21_1 vx22 = some r) : Awp prog 1 168 (cL (cL (cL (cL (cL (cR (cL (cL (cL (cL (cR (cR (cR (cR (cR (cR (cR (cR (cR (cB f173)))))))))))))))))))) (Out 1 nrm (slices_partitionOrdered_string_o0_x9_S qx1 vl vx21_1 vx22) r) (slices_partitionOrdered_string_o0_x9_I qx1 vl vx21_1 vx22) := by
  unfold slices_partitionOrdered_string_o0_x9 at hF
  refine cE hF (fun h32 hF => ?_) fun h32 hF => ?_
  · refine bE hF fun vy34 h33 hF => bE hF fun vy35 h34 hF => bE hF fun vr11 h35 hF => aD ?_
    refine dR 2 ?_
    refine dB h32 ?_
    refine dR 3 ?_
    refine dX (x_idxO encS 0 h33) ?_
    refine dX (x_ldE encS h33) ?_
    refine dR 2 ?_
    refine dX (x_idxO encS 0 h34) ?_
    refine dX (x_ldE encS h34) ?_
    refine dC (cmp_Less_string_ok h35) [] [] [] ?_
    refine dR 2 ?_
    refine dE ?_
    exact oO hF [] [] rfl
  · refine aD ?_
    refine dR 2 ?_
    refine dB h32 ?_
    refine dR 12 ?_
    refine dE ?_
    exact oO hF [] [] rfl

def slices_partitionOrdered_string_o0_x8_k : Int → AEx
  | _ => .exit 8

def slices_partitionOrdered_string_o0_x8_S (qx1 : Int) (vl : List (List UInt8)) (vx21_1 : Int) : Int → St
  | vx25 => Mem.st ⟨[(0, ⟨9, 1, List.map encS vl⟩)], []⟩ (tl [(0, .c (.own 0 none)), (1, .i qx1), (10, .i vx21_1), (11, .i vx25)]) 1

def slices_partitionOrdered_string_o0_x8_H (qx1 : Int) (vl : List (List UInt8)) (vx21_1 : Int) : Int → St
  | vx22 => Mem.st ⟨[(0, ⟨9, 1, List.map encS vl⟩)], []⟩ (tl [(0, .c (.own 0 none)), (1, .i qx1), (10, .i vx21_1), (11, .i vx22)]) 1

theorem slices_partitionOrdered_string_o0_x8_ok (qx1 : Int) (vl : List (List UInt8)) (vx21_1 : Int) (vx22 : Int) (r : (Int) ⊕ (Int)) (hF : slices_partitionOrdered_string_o0_x8 qx1 vl vx21_1 vx22 = some r) : Awp prog 1 168 (cL (cL (cL (cR (cL (cL (cL (cL (cR (cR (cR (cR (cR (cR (cR (cR (cR (cB f173)))))))))))))))))) (Out 1 (kk slices_partitionOrdered_string_o0_x8_k) (SS (slices_partitionOrdered_string_o0_x8_H qx1 vl vx21_1) (slices_partitionOrdered_string_o0_x8_S qx1 vl vx21_1)) r) (slices_partitionOrdered_string_o0_x8_H qx1 vl vx21_1 vx22) := by
  unfold slices_partitionOrdered_string_o0_x8 at hF
  refine awp_seq (awp_seq (awp_to (st' := slices_partitionOrdered_string_o0_x9_I qx1 vl vx21_1 vx22) (oT [] []) ?_))
  refine bE hF fun vx24_1 h36 hF => awp_sub (slices_partitionOrdered_string_o0_x9_ok qx1 vl vx21_1 vx22 h36) ?_
  refine cE hF (fun h37 hF => ?_) fun h37 hF => ?_
  · exact tT h37 (awp_skip (awp_block (gR 3 (oO hF [] [] rfl))))
  · refine tF h37 (awp_exit ?_)
    exact oO hF [] [] rfl

def slices_partitionOrdered_string_o0_x5_k : ((List (List UInt8)) × Int) → AEx
  | _ => .exit 4

def slices_partitionOrdered_string_o0_x5_S (qx1 : Int) : ((List (List UInt8)) × Int) → St
  | (vl1, vx26) => Mem.st ⟨[(0, ⟨9, 1, List.map encS vl1⟩)], []⟩ (tl [(0, .c (.own 0 none)), (1, .i qx1), (11, .i vx26)]) 1

def slices_partitionOrdered_string_o0_x5_H (qx1 : Int) : (List (List UInt8)) × Int × Int → St
  | (vl, vx8, vx9) => Mem.st ⟨[(0, ⟨9, 1, List.map encS vl⟩)], []⟩ (tl [(0, .c (.own 0 none)), (1, .i qx1), (10, .i vx8), (11, .i vx9)]) 1

theorem slices_partitionOrdered_string_o0_x5_ok (qx1 : Int) (s : (List (List UInt8)) × Int × Int) (r : ((List (List UInt8)) × Int × Int) ⊕ (((List (List UInt8)) × Int))) (hF : slices_partitionOrdered_string_o0_x5 qx1 s = some r) : Awp prog 1 168 (cL (cL (cL (cR (cR (cR (cR (cR (cR (cR (cR (cR (cB f173))))))))))))) (Out 1 (kk slices_partitionOrdered_string_o0_x5_k) (SS (slices_partitionOrdered_string_o0_x5_H qx1) (slices_partitionOrdered_string_o0_x5_S qx1)) r) (slices_partitionOrdered_string_o0_x5_H qx1 s) := by
  obtain ⟨vl, vx8, vx9⟩ := s
  unfold slices_partitionOrdered_string_o0_x5 at hF
  refine awp_block (awp_seq (awp_block (awp_to (st' := slices_partitionOrdered_string_o0_x6_H qx1 vl vx9 vx8) (oT [] []) ?_)))
  refine bE hF fun vx21_1 h31 hF => awp_sub (awp_loop' (slices_partitionOrdered_string_o0_x6_H qx1 vl vx9) slices_partitionOrdered_string_o0_x6_k (slices_partitionOrdered_string_o0_x6_S qx1 vl vx9) (by intro x; exact fun h => nomatch h) h31 (slices_partitionOrdered_string_o0_x6_ok qx1 vl vx9)) ?_
  refine awp_seq (awp_block (awp_to (st' := slices_partitionOrdered_string_o0_x8_H qx1 vl vx21_1 vx9) (oT [] []) ?_))
  refine bE hF fun vx25_1 h38 hF => awp_sub (awp_loop' (slices_partitionOrdered_string_o0_x8_H qx1 vl vx21_1) slices_partitionOrdered_string_o0_x8_k (slices_partitionOrdered_string_o0_x8_S qx1 vl vx21_1) (by intro x; exact fun h => nomatch h) h38 (slices_partitionOrdered_string_o0_x8_ok qx1 vl vx21_1)) ?_
  refine awp_seq (sR 3 (cE hF (fun h39 hF => ?_) fun h39 hF => ?_))
  · refine tT h39 (awp_exit ?_)
    exact oO hF [] [] rfl
  · refine tF h39 (awp_skip (awp_seq (bE hF fun vy36 h40 hF => bE hF fun vy37 h41 hF => bE hF fun vy38 h42 hF => aDw [0] ?_)))
    refine dR 6 ?_
    refine dI encS 0 h40 rfl ?_
    refine dX (x_ldE encS h40) ?_
    refine dR 2 ?_
    refine dI encS 0 h41 rfl ?_
    refine dX (x_ldE encS h41) ?_
    refine dI encS 0 h41 rfl ?_
    refine dW encS vy36 h41 rfl ?_
    refine dI encS 0 h42 rfl ?_
    refine dW encS vy37 h42 rfl ?_
    refine dE ?_
    exact sR 3 (gR 3 (oO hF [] [] rfl))

def slices_partitionOrdered_string_o0_R (qx : List (List UInt8)) (qx1 : Int) (qx2 : Int) (qx3 : Int) (r : (List (List UInt8)) × Int × Bool) : TV × Mem := (.tup [.one (.i r.2.1), .one (.t r.2.2)], ⟨[(0, ⟨9, 1, List.map encS r.1⟩)], []⟩)

theorem slices_partitionOrdered_string_o0_ok {qx : List (List UInt8)} {qx1 : Int} {qx2 : Int} {qx3 : Int} {r} (hF : slices_partitionOrdered_string_o0 qx qx1 qx2 qx3 = some r) : Holds prog 173 [.c (.own 0 none), .i qx1, .i qx2, .i qx3] ⟨[(0, ⟨9, 1, List.map encS qx⟩)], []⟩ (Is (slices_partitionOrdered_string_o0_R qx qx1 qx2 qx3 r)) := by
  unfold slices_partitionOrdered_string_o0 at hF
  refine hW f173 168 1 1 ?_
  refine sR 2 (awp_seq (bE hF fun vy h1 hF => bE hF fun vy1 h2 hF => bE hF fun vy2 h3 hF => aDw [0] ?_))
  refine dR 6 ?_
  refine dI encS 0 h1 rfl ?_
  refine dX (x_ldE encS h1) ?_
  refine dR 2 ?_
  refine dI encS 0 h2 rfl ?_
  refine dX (x_ldE encS h2) ?_
  refine dI encS 0 h2 rfl ?_
  refine dW encS vy h2 rfl ?_
  refine dI encS 0 h3 rfl ?_
  refine dW encS vy1 h3 rfl ?_
  refine dE ?_
  refine sR 6 (awp_seq (awp_block (awp_to (st' := slices_partitionOrdered_string_o0_x1_H qx qx1 qx2 qx3 vy vy1 (IntKind.wrap .i64 (qx1 + 1))) (oT [] []) ?_)))
  refine bE hF fun vx3_1 h10 hF => awp_sub (awp_loop' (slices_partitionOrdered_string_o0_x1_H qx qx1 qx2 qx3 vy vy1) slices_partitionOrdered_string_o0_x1_k (slices_partitionOrdered_string_o0_x1_S qx qx1 qx2 qx3 vy vy1) (by intro x; exact fun h => nomatch h) h10 (slices_partitionOrdered_string_o0_x1_ok qx qx1 qx2 qx3 vy vy1)) ?_
  refine awp_seq (awp_block (awp_to (st' := slices_partitionOrdered_string_o0_x3_H qx qx1 qx3 vy vy1 vx3_1 (IntKind.wrap .i64 (qx2 - 1))) (oT [] []) ?_))
  refine bE hF fun vx7_1 h17 hF => awp_sub (awp_loop' (slices_partitionOrdered_string_o0_x3_H qx qx1 qx3 vy vy1 vx3_1) slices_partitionOrdered_string_o0_x3_k (slices_partitionOrdered_string_o0_x3_S qx qx1 qx3 vy vy1 vx3_1) (by intro x; exact fun h => nomatch h) h17 (slices_partitionOrdered_string_o0_x3_ok qx qx1 qx3 vy vy1 vx3_1)) ?_
  refine awp_seq (sR 3 (cE hF (fun h18 hF => ?_) fun h18 hF => ?_))
  · refine tT h18 (awp_seq (bE hF fun vy11 h19 hF => bE hF fun vy12 h20 hF => bE hF fun vy13 h21 hF => aDw [0] ?_))
    refine dR 6 ?_
    refine dI encS 0 h19 rfl ?_
    refine dX (x_ldE encS h19) ?_
    refine dR 2 ?_
    refine dI encS 0 h20 rfl ?_
    refine dX (x_ldE encS h20) ?_
    refine dI encS 0 h20 rfl ?_
    refine dW encS vy11 h20 rfl ?_
    refine dI encS 0 h21 rfl ?_
    refine dW encS vy12 h21 rfl ?_
    refine dE ?_
    exact sR 3 (awp_ret (oF hF [] []))
  · refine tF h18 (awp_skip (awp_seq (bE hF fun vy14 h22 hF => bE hF fun vy15 h23 hF => bE hF fun vy16 h24 hF => aDw [0] ?_)))
    refine dR 6 ?_
    refine dI encS 0 h22 rfl ?_
    refine dX (x_ldE encS h22) ?_
    refine dR 2 ?_
    refine dI encS 0 h23 rfl ?_
    refine dX (x_ldE encS h23) ?_
    refine dI encS 0 h23 rfl ?_
    refine dW encS vy14 h23 rfl ?_
    refine dI encS 0 h24 rfl ?_
    refine dW encS vy15 h24 rfl ?_
    refine dE ?_
    refine sR 3 (sR 3 (awp_seq (awp_block (awp_to (st' := slices_partitionOrdered_string_o0_x5_H qx1 ((((qx.set qx1.toNat vy).set qx3.toNat vy1).set vx3_1.toNat vy14).set vx7_1.toNat vy15, IntKind.wrap .i64 (vx3_1 + 1), IntKind.wrap .i64 (vx7_1 - 1))) (oT [] []) ?_))))
    refine bE hF fun x h43 hF => ?_
    obtain ⟨vl1_1, vx26_1⟩ := x
    refine awp_sub (awp_loop' (slices_partitionOrdered_string_o0_x5_H qx1) slices_partitionOrdered_string_o0_x5_k (slices_partitionOrdered_string_o0_x5_S qx1) (by intro x; exact fun h => nomatch h) h43 (slices_partitionOrdered_string_o0_x5_ok qx1)) ?_
    refine awp_seq (bE hF fun vy39 h44 hF => bE hF fun vy40 h45 hF => bE hF fun vy41 h46 hF => aDw [0] ?_)
    refine dR 6 ?_
    refine dI encS 0 h44 rfl ?_
    refine dX (x_ldE encS h44) ?_
    refine dR 2 ?_
    refine dI encS 0 h45 rfl ?_
    refine dX (x_ldE encS h45) ?_
    refine dI encS 0 h45 rfl ?_
    refine dW encS vy39 h45 rfl ?_
    refine dI encS 0 h46 rfl ?_
    refine dW encS vy40 h46 rfl ?_
    refine dE ?_
    exact sR 3 (awp_ret (oF hF [] []))

/-! ### slices.nextPowerOfTwo -/
def slices_nextPowerOfTwo_R (qlength : Int) (r : Int) : TV × Mem := (.c (.d (.int .u64 r)), ⟨[], []⟩)

theorem slices_nextPowerOfTwo_ok {qlength : Int} {r} (hF : slices_nextPowerOfTwo qlength = some r) : Holds prog 154 [.i qlength] ⟨[], []⟩ (Is (slices_nextPowerOfTwo_R qlength r)) := by
  unfold slices_nextPowerOfTwo at hF
  refine hW f154 7 0 0 ?_
  refine sR 1 (awp_seq (bE hF fun vr1 h1 hF => gE hF fun h2 hF => ?_))
  refine awp_region (aR 2 (aC (bits_Len_ok h1) [] [] [] (aX (x_shl h2) (aR 1 (aE ?_)))))
  exact awp_ret (oF hF [] [])

/-! ### (*slices.xorshift).Next -/
def slices_xorshift_Next_R (qr : Int) (r : Unit) : TV × Mem := (.c (.d (.int .u64 (ibits .xor .u64 (ibits .xor .u64 (ibits .xor .u64 qr (ishl .u64 qr 13)) (ishr .u64 (ibits .xor .u64 qr (ishl .u64 qr 13)) 7)) (ishl .u64 (ibits .xor .u64 (ibits .xor .u64 qr (ishl .u64 qr 13)) (ishr .u64 (ibits .xor .u64 qr (ishl .u64 qr 13)) 7)) 17)))), ⟨[], [(0, [.d (.int .u64 (ibits .xor .u64 (ibits .xor .u64 (ibits .xor .u64 qr (ishl .u64 qr 13)) (ishr .u64 (ibits .xor .u64 qr (ishl .u64 qr 13)) 7)) (ishl .u64 (ibits .xor .u64 (ibits .xor .u64 qr (ishl .u64 qr 13)) (ishr .u64 (ibits .xor .u64 qr (ishl .u64 qr 13)) 7)) 17)))])]⟩)

theorem slices_xorshift_Next_ok {qr : Int} {r} (hF : slices_xorshift_Next qr = some r) : Holds prog 155 [.c (.box 0 0)] ⟨[], [(0, [.d (.int .u64 qr)])]⟩ (Is (slices_xorshift_Next_R qr r)) := by
  unfold slices_xorshift_Next at hF
  refine hW f155 33 1 1 ?_
  refine sR 1 (awp_seq (aD ?_))
  refine dR 10 ?_
  refine dE ?_
  refine awp_seq (aD ?_)
  refine dR 10 ?_
  refine dE ?_
  refine awp_seq (aD ?_)
  refine dR 10 ?_
  refine dE ?_
  exact sR 4 (awp_ret (oF hF [] []))

/-! ### slices.breakPatternsOrdered[string] -/
def slices_breakPatternsOrdered_string_o0_x2_S (qx1 : Int) (qx2 : Int) (vr : Int) (vl : List (List UInt8)) (vx : Int) (vx1 : Int) : Int → St
  | vx3 => Mem.st ⟨[(0, ⟨9, 1, List.map encS vl⟩)], [(1, [.d (.int .u64 (ibits .xor .u64 (ibits .xor .u64 (ibits .xor .u64 vx (ishl .u64 vx 13)) (ishr .u64 (ibits .xor .u64 vx (ishl .u64 vx 13)) 7)) (ishl .u64 (ibits .xor .u64 (ibits .xor .u64 vx (ishl .u64 vx 13)) (ishr .u64 (ibits .xor .u64 vx (ishl .u64 vx 13)) 7)) 17)))])]⟩ (tl [(0, .c (.own 0 none)), (1, .i qx1), (6, .i (IntKind.wrap .i64 (qx2 - qx1))), (7, .c (.box 1 0)), (8, .c (.d (.int .u64 vr))), (9, .i vx1), (10, .i vx3)]) 2

def slices_breakPatternsOrdered_string_o0_x2_I (qx1 : Int) (qx2 : Int) (vr : Int) (vl : List (List UInt8)) (vx : Int) (vx1 : Int) : St := Mem.st ⟨[(0, ⟨9, 1, List.map encS vl⟩)], [(1, [.d (.int .u64 (ibits .xor .u64 (ibits .xor .u64 (ibits .xor .u64 vx (ishl .u64 vx 13)) (ishr .u64 (ibits .xor .u64 vx (ishl .u64 vx 13)) 7)) (ishl .u64 (ibits .xor .u64 (ibits .xor .u64 vx (ishl .u64 vx 13)) (ishr .u64 (ibits .xor .u64 vx (ishl .u64 vx 13)) 7)) 17)))])]⟩ (tl [(0, .c (.own 0 none)), (1, .i qx1), (6, .i (IntKind.wrap .i64 (qx2 - qx1))), (7, .c (.box 1 0)), (8, .c (.d (.int .u64 vr))), (9, .i vx1), (10, .i (IntKind.wrap .i64 (ibits .and .u64 (ibits .xor .u64 (ibits .xor .u64 (ibits .xor .u64 vx (ishl .u64 vx 13)) (ishr .u64 (ibits .xor .u64 vx (ishl .u64 vx 13)) 7)) (ishl .u64 (ibits .xor .u64 (ibits .xor .u64 vx (ishl .u64 vx 13)) (ishr .u64 (ibits .xor .u64 vx (ishl .u64 vx 13)) 7)) 17)) (IntKind.wrap .u64 (vr - 1)))))]) 2

theorem slices_breakPatternsOrdered_string_o0_x2_ok (qx1 : Int) (qx2 : Int) (vr : Int) (vl : List (List UInt8)) (vx : Int) (vx1 : Int) {r} (hF : slices_breakPatternsOrdered_string_o0_x2 qx1 qx2 vr vx = some r) : Awp prog 1 65 (cL (cR (cL (cL (cR (cL (cL (cR (cR (cR (cL (cR (cR (cB f167)))))))))))))) (Out 1 nrm (slices_breakPatternsOrdered_string_o0_x2_S qx1 qx2 vr vl vx vx1) r) (slices_breakPatternsOrdered_string_o0_x2_I qx1 qx2 vr vl vx vx1) := by
  unfold slices_breakPatternsOrdered_string_o0_x2 at hF
  refine sR 3 (cE hF (fun h5 hF => ?_) fun h5 hF => ?_)
  · exact tT h5 (gR 4 (oO hF [] [] rfl))
  · exact tF h5 (awp_skip (oO hF [] [] rfl))

def slices_breakPatternsOrdered_string_o0_x1_k : (List (List UInt8)) → AEx
  | _ => .exit 0

def slices_breakPatternsOrdered_string_o0_x1_S (qx1 : Int) (qx2 : Int) (vr : Int) : (List (List UInt8)) → St
  | vl1 => Mem.st ⟨[(0, ⟨9, 1, List.map encS vl1⟩)], []⟩ (tl []) 1

def slices_breakPatternsOrdered_string_o0_x1_H (qx1 : Int) (qx2 : Int) (vr : Int) : (List (List UInt8)) × Int × Int → St
  | (vl, vx, vx1) => Mem.st ⟨[(0, ⟨9, 1, List.map encS vl⟩)], [(1, [.d (.int .u64 vx)])]⟩ (tl [(0, .c (.own 0 none)), (1, .i qx1), (6, .i (IntKind.wrap .i64 (qx2 - qx1))), (7, .c (.box 1 0)), (8, .c (.d (.int .u64 vr))), (9, .i vx1)]) 2

theorem slices_breakPatternsOrdered_string_o0_x1_ok (qx1 : Int) (qx2 : Int) (vr : Int) (s : (List (List UInt8)) × Int × Int) (r : ((List (List UInt8)) × Int × Int) ⊕ ((List (List UInt8)))) (hF : slices_breakPatternsOrdered_string_o0_x1 qx1 qx2 vr s = some r) : Awp prog 1 65 (cL (cL (cR (cR (cR (cL (cR (cR (cB f167))))))))) (Out 1 (kk slices_breakPatternsOrdered_string_o0_x1_k) (SS (slices_breakPatternsOrdered_string_o0_x1_H qx1 qx2 vr) (slices_breakPatternsOrdered_string_o0_x1_S qx1 qx2 vr)) r) (slices_breakPatternsOrdered_string_o0_x1_H qx1 qx2 vr s) := by
  obtain ⟨vl, vx, vx1⟩ := s
  unfold slices_breakPatternsOrdered_string_o0_x1 at hF
  refine awp_seq (sR 8 (cE hF (fun h3 hF => ?_) fun h3 hF => ?_))
  · refine tT h3 (awp_skip (awp_seq (awp_block (awp_seq (bE hF fun _ h4 hF => awp_region (aC (slices_xorshift_Next_ok h4) [(0, 1)] [] [] (aR 5 (aE ?_))))))))
    refine awp_seq (awp_to (st' := slices_breakPatternsOrdered_string_o0_x2_I qx1 qx2 vr vl vx vx1) (oT [] []) ?_)
    refine bE hF fun vx3_1 h6 hF => awp_sub (slices_breakPatternsOrdered_string_o0_x2_ok qx1 qx2 vr vl vx vx1 h6) ?_
    refine bE hF fun vy3 h7 hF => bE hF fun vy4 h8 hF => bE hF fun vy5 h9 hF => aDw [0] ?_
    refine dR 10 ?_
    refine dI encS 0 h7 rfl ?_
    refine dX (x_ldE encS h7) ?_
    refine dR 2 ?_
    refine dI encS 0 h8 rfl ?_
    refine dX (x_ldE encS h8) ?_
    refine dI encS 0 h8 rfl ?_
    refine dW encS vy3 h8 rfl ?_
    refine dI encS 0 h9 rfl ?_
    refine dW encS vy4 h9 rfl ?_
    refine dE ?_
    exact gR 3 (oO hF [] [] rfl)
  · refine tF h3 (awp_exit ?_)
    exact oO hF [] [] rfl

def slices_breakPatternsOrdered_string_o0_R (qx : List (List UInt8)) (qx1 : Int) (qx2 : Int) (r : (List (List UInt8))) : TV × Mem := (.tup [], ⟨[(0, ⟨9, 1, List.map encS r⟩)], []⟩)

theorem slices_breakPatternsOrdered_string_o0_ok {qx : List (List UInt8)} {qx1 : Int} {qx2 : Int} {r} (hF : slices_breakPatternsOrdered_string_o0 qx qx1 qx2 = some r) : Holds prog 167 [.c (.own 0 none), .i qx1, .i qx2] ⟨[(0, ⟨9, 1, List.map encS qx⟩)], []⟩ (Is (slices_breakPatternsOrdered_string_o0_R qx qx1 qx2 r)) := by
  unfold slices_breakPatternsOrdered_string_o0 at hF
  refine hW f167 65 1 1 ?_
  refine sR 4 (sR 2 (cE hF (fun h1 hF => ?_) fun h1 hF => ?_))
  · refine tT h1 (sR 4 (awp_seq (bE hF fun vr h2 hF => awp_region (aR 1 (aC (slices_nextPowerOfTwo_ok h2) [] [] [] (aR 1 (aE ?_)))))))
    refine sR 7 (awp_block (awp_to (st' := slices_breakPatternsOrdered_string_o0_x1_H qx1 qx2 vr (qx, IntKind.wrap .u64 (IntKind.wrap .i64 (qx2 - qx1)), IntKind.wrap .i64 ((IntKind.wrap .i64 (qx1 + (IntKind.wrap .i64 ((IntKind.wrap .i64 ((IntKind.wrap .i64 (qx2 - qx1)).tdiv 4)) * 2)))) - 1))) (oT [(1, 8001)] []) ?_))
    refine bE hF fun vl1_1 h10 hF => awp_sub (awp_loop' (slices_breakPatternsOrdered_string_o0_x1_H qx1 qx2 vr) slices_breakPatternsOrdered_string_o0_x1_k (slices_breakPatternsOrdered_string_o0_x1_S qx1 qx2 vr) (by intro x; exact fun h => nomatch h) h10 (slices_breakPatternsOrdered_string_o0_x1_ok qx1 qx2 vr)) ?_
    exact oF hF [] []
  · exact tF h1 (awp_skip (oF hF [] []))

end Go.Eng
