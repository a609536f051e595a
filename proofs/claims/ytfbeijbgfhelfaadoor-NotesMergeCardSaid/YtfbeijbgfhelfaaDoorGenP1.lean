/-
The code of the Go functions that the law NotesMerge reaches does what the plain functions say, part 1.
-/
import Derived.Test.YtfbeijbgfhelfaaDoorGenF

import Derived.Test.YtfbeijbgfhelfaaDoorEng9

import Derived.Test.YtfbeijbgfhelfaaDoorGenS

import Derived.Test.YtfbeijbgfhelfaaDoorProg

import Derived.KernelRfl

namespace Go.Eng

open Go Go.Proofs.Tryd

set_option linter.unusedVariables false

set_option maxRecDepth 20000

set_option maxHeartbeats 0

def ti3 : TI := ⟨1, 8, [.d (.int .i64 0)], false, .int .i64⟩

def ti4 : TI := ⟨1, 1, [.d (.bool false)], false, .bool⟩

def ti5 : TI := ⟨1, 1, [.d (.int .u8 0)], false, .int .u8⟩

def ti9 : TI := ⟨1, 16, [.d (.str [])], false, .str⟩

def ti21 : TI := ⟨1, 4, [.d (.int .i32 0)], false, .int .i32⟩

def ti22 : TI := ⟨1, 24, [.nil], false, .slice 3⟩

def ti25 : TI := ⟨2, 32, [.nil, .d (.int .i64 0)], true, .struct [(0, 22), (1, 3)]⟩

def ti26 : TI := ⟨1, 24, [.nil], false, .slice 33⟩

def ti31 : TI := ⟨6, 72, [.d (.str []), .d (.str []), .d (.str []), .d (.int .i64 0), .d (.int .i64 0), .d (.int .i64 0)], true, .struct [(0, 9), (1, 9), (2, 9), (3, 3), (4, 3), (5, 3)]⟩

def ti33 : TI := ⟨9, 96, [.d (.str []), .d (.str []), .d (.str []), .d (.int .i64 0), .d (.int .i64 0), .d (.int .i64 0), .d (.int .i64 0), .d (.int .i64 0), .d (.int .i64 0)], true, .struct [(0, 31), (6, 3), (7, 3), (8, 3)]⟩

def ti36 : TI := ⟨1, 8, [.d (.int .i64 0)], false, .int .i64⟩

def ti44 : TI := ⟨1, 24, [.nil], false, .slice 9⟩

def ti52 : TI := ⟨1, 24, [.nil], false, .slice 36⟩

def ti58 : TI := ⟨1, 8, [.nilp], false, .ptr⟩

def ti62 : TI := ⟨4, 32, [.d (.int .i64 0), .d (.int .i64 0), .d (.int .i64 0), .d (.int .i64 0)], true, .struct [(0, 3), (1, 3), (2, 3), (3, 3)]⟩

def ti65 : TI := ⟨1, 24, [.nil], false, .slice 26⟩

def ti68 : TI := ⟨1, 8, [.nilm], false, .map 3 3⟩

def ti71 : TI := ⟨1, 8, [.d (.int .u64 0)], false, .int .u64⟩

def ti73 : TI := ⟨1, 8, [.nilm], false, .map 9 33⟩

def ti75 : TI := ⟨6, 48, [.d (.int .i64 0), .d (.int .i64 0), .d (.int .i64 0), .d (.int .i64 0), .nilm, .d (.int .i64 0)], true, .struct [(0, 62), (4, 73), (5, 3)]⟩

def ti96 : TI := ⟨1, 8, [.d (.int .u64 0)], false, .int .u64⟩

def Γ : Types := [(3, ti3), (4, ti4), (5, ti5), (9, ti9), (21, ti21), (22, ti22), (25, ti25), (26, ti26), (31, ti31), (33, ti33), (36, ti36), (44, ti44), (52, ti52), (58, ti58), (62, ti62), (65, ti65), (68, ti68), (71, ti71), (73, ti73), (75, ti75), (96, ti96)]

theorem hΓ : TypesOk prog Γ := typesOk_of (by kernel_rfl)

instance : TOk prog Γ := ⟨hΓ⟩

theorem hm : prog.follows .mixedOrders = true := by kernel_rfl

instance : Mixed prog := ⟨hm⟩

/-! ### beaconfleet/fleetmake.Below -/
def fleetmake_Below_x1_k : Int → AEx
  | _ => .normal

def fleetmake_Below_x1_S (qx : Int) (qn : Int) : Int → St
  | vx => Mem.st ⟨[], []⟩ (tl [(0, .v (.one (.d (.int .i64 vx))))]) 0

def fleetmake_Below_x1_I (qx : Int) (qn : Int) : St := Mem.st ⟨[], []⟩ (tl [(0, .v (.one (.d (.int .i64 (qx.tmod qn))))), (1, .v (.one (.d (.int .i64 qn))))]) 0

theorem fleetmake_Below_x1_ok (qx : Int) (qn : Int) {r} (hF : fleetmake_Below_x1 qx qn = some r) : Awp prog 0 16 (cL (cR (cR (cR (cB f38))))) (Out 0 fleetmake_Below_x1_k (fleetmake_Below_x1_S qx qn) r) (fleetmake_Below_x1_I qx qn) := by
  unfold fleetmake_Below_x1 at hF
  refine awp_seq ?_
  refine awp_region ?_
  refine aR 2 ?_
  refine aE ?_
  refine cE hF (fun h3 hF => ?_) fun h3 hF => ?_
  · refine awp_true (by kernel_rfl) h3 ?_
    refine awp_region ?_
    refine aR 4 ?_
    refine aE ?_
    exact oO hF [] [] rfl
  · refine awp_false (by kernel_rfl) h3 ?_
    refine awp_skip ?_
    exact oO hF [] [] rfl

def fleetmake_Below_R (qx : Int) (qn : Int) (r : Int) : TV × Mem := (.v (.one (.d (.int .i64 r))), ⟨[], []⟩)

theorem fleetmake_Below_ok {qx : Int} {qn : Int} {r} (hF : fleetmake_Below qx qn = some r) : Holds prog 38 [.v (.one (.d (.int .i64 qx))), .v (.one (.d (.int .i64 qn)))] ⟨[], []⟩ (Is (fleetmake_Below_R qx qn r)) := by
  unfold fleetmake_Below at hF
  refine holds_of_awp hΓ (fn := f38) (c := cB f38) (A := 0) (nx := 0) (by kernel_rfl) (by kernel_rfl) (by kernel_rfl) (by kernel_rfl) (by kernel_rfl) (by kernel_rfl) (lowc_of (by kernel_rfl)) ?_
  show Awp prog 0 16 (cB f38) _ _
  refine awp_seq ?_
  refine awp_region ?_
  refine aR 1 ?_
  refine aE ?_
  refine awp_seq ?_
  refine awp_seq ?_
  refine awp_region ?_
  refine aR 2 ?_
  refine aE ?_
  refine cE hF (fun h1 hF => ?_) fun h1 hF => ?_
  · refine awp_true (by kernel_rfl) h1 ?_
    refine awp_seq ?_
    refine awp_region ?_
    refine aR 1 ?_
    refine aE ?_
    refine awp_ret ?_
    exact oF hF [] []
  · refine awp_false (by kernel_rfl) h1 ?_
    refine awp_skip ?_
    refine awp_seq ?_
    refine gE hF fun h2 hF => ?_
    refine awp_region ?_
    refine aR 2 ?_
    refine aX (x_rem h2) ?_
    refine aR 1 ?_
    refine aE ?_
    refine awp_seq ?_
    refine awp_to (st' := fleetmake_Below_x1_I qx qn) (oT [] []) ?_
    refine bE hF fun vx1 h4 hF => ?_
    refine awp_sub (fleetmake_Below_x1_ok qx qn h4) ?_
    refine awp_seq ?_
    refine awp_region ?_
    refine aR 2 ?_
    refine aE ?_
    refine awp_ret ?_
    exact oF hF [] []

/-! ### (*beaconfleet/fleetmake.Stream).Next -/
def fleetmake_Stream_Next_R (qs : fleetmake_Stream) (qn : Int) (r : Int) : TV × Mem := (.v (.one (.d (.int .i64 r))), ⟨[], [(0, [.d (.lst (List.map (encI .i64) qs.L)), .d (.int .i64 (IntKind.wrap .i64 (qs.at_ + 1)))])]⟩)

theorem fleetmake_Stream_Next_ok {qs : fleetmake_Stream} {qn : Int} {r} (hF : fleetmake_Stream_Next qs qn = some r) : Holds prog 18 [.v (.one (.box 0 0)), .v (.one (.d (.int .i64 qn)))] ⟨[], [(0, [.d (.lst (List.map (encI .i64) qs.L)), .d (.int .i64 qs.at_)])]⟩ (Is (fleetmake_Stream_Next_R qs qn r)) := by
  unfold fleetmake_Stream_Next at hF
  refine holds_of_awp hΓ (fn := f18) (c := cB f18) (A := 1) (nx := 1) (by kernel_rfl) (by kernel_rfl) (by kernel_rfl) (by kernel_rfl) (by kernel_rfl) (by kernel_rfl) (lowc_of (by kernel_rfl)) ?_
  show Awp prog 1 64 (cB f18) _ _
  refine awp_seq ?_
  refine awp_region ?_
  refine aR 1 ?_
  refine aE ?_
  refine awp_seq ?_
  refine awp_region ?_
  refine aR 8 ?_
  refine aE ?_
  refine awp_seq ?_
  refine awp_seq ?_
  refine awp_region ?_
  refine aR 4 ?_
  refine aL (encI .i64) qs.L ?_
  refine aR 1 ?_
  refine aE ?_
  refine cE hF (fun h1 hF => ?_) fun h1 hF => ?_
  · refine awp_true (by kernel_rfl) h1 ?_
    refine awp_seq ?_
    refine bE hF fun vr h2 hF => ?_
    refine awp_region ?_
    refine aR 6 ?_
    refine aC (fleetmake_Below_ok h2) [] [] [] ?_
    refine aR 1 ?_
    refine aE ?_
    refine awp_ret ?_
    exact oF hF [] []
  · refine awp_false (by kernel_rfl) h1 ?_
    refine awp_skip ?_
    refine awp_seq ?_
    refine gE hF fun h3 hF => ?_
    refine aD ?_
    refine dR 9 ?_
    refine dL (encI .i64) qs.L ?_
    refine dX (x_rem h3) ?_
    refine dR 1 ?_
    refine dE ?_
    refine awp_seq ?_
    refine aD ?_
    refine dR 9 ?_
    refine dL (encI .i64) qs.L ?_
    refine dX (x_quo h3) ?_
    refine dR 1 ?_
    refine dE ?_
    refine awp_seq ?_
    refine bE hF fun vy h4 hF => ?_
    refine bE hF fun vr1 h5 hF => ?_
    refine bE hF fun vr2 h6 hF => ?_
    refine awp_region ?_
    refine aR 5 ?_
    refine aX (x_idx (encI .i64) h4) ?_
    refine aR 1 ?_
    refine aC (fleetmake_Below_ok h5) [] [] [] ?_
    refine aR 6 ?_
    refine aC (fleetmake_Below_ok h6) [] [] [] ?_
    refine aR 1 ?_
    refine aE ?_
    refine awp_ret ?_
    exact oF hF [] []

/-! ### (*beaconfleet/fleetmake.Stream).Flip -/
def fleetmake_Stream_Flip_R (qs : fleetmake_Stream) (qn : Int) (r : Bool) : TV × Mem := (.v (.one (.d (.bool r))), ⟨[], [(0, [.d (.lst (List.map (encI .i64) qs.L)), .d (.int .i64 (IntKind.wrap .i64 (qs.at_ + 1)))])]⟩)

theorem fleetmake_Stream_Flip_ok {qs : fleetmake_Stream} {qn : Int} {r} (hF : fleetmake_Stream_Flip qs qn = some r) : Holds prog 5 [.v (.one (.box 0 0)), .v (.one (.d (.int .i64 qn)))] ⟨[], [(0, [.d (.lst (List.map (encI .i64) qs.L)), .d (.int .i64 qs.at_)])]⟩ (Is (fleetmake_Stream_Flip_R qs qn r)) := by
  unfold fleetmake_Stream_Flip at hF
  refine holds_of_awp hΓ (fn := f5) (c := cB f5) (A := 1) (nx := 1) (by kernel_rfl) (by kernel_rfl) (by kernel_rfl) (by kernel_rfl) (by kernel_rfl) (by kernel_rfl) (lowc_of (by kernel_rfl)) ?_
  show Awp prog 1 9 (cB f5) _ _
  refine awp_seq ?_
  refine awp_region ?_
  refine aR 1 ?_
  refine aE ?_
  refine awp_seq ?_
  refine bE hF fun vr3 h1 hF => ?_
  refine awp_region ?_
  refine aR 2 ?_
  refine aC (fleetmake_Stream_Next_ok h1) [] [] [] ?_
  refine aR 2 ?_
  refine aE ?_
  refine awp_ret ?_
  exact oF hF [] []

/-! ### (*beaconfleet/fleetmake.Stream).Some -/
def fleetmake_Stream_Some_o1_R (qs : fleetmake_Stream) (ql : List (List UInt8)) (r : (List UInt8)) : TV × Mem := (.v (.one (.d (.str r))), ⟨[], [(0, [.d (.lst (List.map (encI .i64) qs.L)), .d (.int .i64 (IntKind.wrap .i64 (qs.at_ + 1)))])]⟩)

theorem fleetmake_Stream_Some_o1_ok {qs : fleetmake_Stream} {ql : List (List UInt8)} {r} (hF : fleetmake_Stream_Some_o1 qs ql = some r) : Holds prog 16 [.v (.one (.box 0 0)), .v (.one (.own 1 none))] ⟨[(1, ⟨9, 1, List.map encS ql⟩)], [(0, [.d (.lst (List.map (encI .i64) qs.L)), .d (.int .i64 qs.at_)])]⟩ (Is (fleetmake_Stream_Some_o1_R qs ql r)) := by
  unfold fleetmake_Stream_Some_o1 at hF
  refine holds_of_awp hΓ (fn := f16) (c := cB f16) (A := 2) (nx := 2) (by kernel_rfl) (by kernel_rfl) (by kernel_rfl) (by kernel_rfl) (by kernel_rfl) (by kernel_rfl) (lowc_of (by kernel_rfl)) ?_
  show Awp prog 2 12 (cB f16) _ _
  refine awp_seq ?_
  refine awp_region ?_
  refine aR 1 ?_
  refine aE ?_
  refine awp_to (oT (m := ⟨[], [(0, [.d (.lst (List.map (encI .i64) qs.L)), .d (.int .i64 qs.at_)])]⟩) (ts := [(0, .v (.one (.box 0 0))), (1, .v (.one (.d (.lst (List.map encS ql)))))]) (nx := 2) [] []) ?_
  refine awp_seq ?_
  refine bE hF fun vr3 h1 hF => ?_
  refine bE hF fun vy h2 hF => ?_
  refine awp_region ?_
  refine aR 3 ?_
  refine aL encS ql ?_
  refine aC (fleetmake_Stream_Next_ok h1) [] [] [] ?_
  refine aX (x_idx encS h2) ?_
  refine aR 2 ?_
  refine aE ?_
  refine awp_ret ?_
  exact oF hF [] []

/-! ### (*beaconfleet/fleetmake.Stream).Pick -/
def fleetmake_Stream_Pick_o1_R (qs : fleetmake_Stream) (ql : List Int) (r : Int) : TV × Mem := (.v (.one (.d (.int .i64 r))), ⟨[], [(0, [.d (.lst (List.map (encI .i64) qs.L)), .d (.int .i64 (IntKind.wrap .i64 (qs.at_ + 1)))])]⟩)

theorem fleetmake_Stream_Pick_o1_ok {qs : fleetmake_Stream} {ql : List Int} {r} (hF : fleetmake_Stream_Pick_o1 qs ql = some r) : Holds prog 8 [.v (.one (.box 0 0)), .v (.one (.own 1 none))] ⟨[(1, ⟨3, 1, List.map (encI .i64) ql⟩)], [(0, [.d (.lst (List.map (encI .i64) qs.L)), .d (.int .i64 qs.at_)])]⟩ (Is (fleetmake_Stream_Pick_o1_R qs ql r)) := by
  unfold fleetmake_Stream_Pick_o1 at hF
  refine holds_of_awp hΓ (fn := f8) (c := cB f8) (A := 2) (nx := 2) (by kernel_rfl) (by kernel_rfl) (by kernel_rfl) (by kernel_rfl) (by kernel_rfl) (by kernel_rfl) (lowc_of (by kernel_rfl)) ?_
  show Awp prog 2 12 (cB f8) _ _
  refine awp_seq ?_
  refine awp_region ?_
  refine aR 1 ?_
  refine aE ?_
  refine awp_to (oT (m := ⟨[], [(0, [.d (.lst (List.map (encI .i64) qs.L)), .d (.int .i64 qs.at_)])]⟩) (ts := [(0, .v (.one (.box 0 0))), (1, .v (.one (.d (.lst (List.map (encI .i64) ql)))))]) (nx := 2) [] []) ?_
  refine awp_seq ?_
  refine bE hF fun vr3 h1 hF => ?_
  refine bE hF fun vy h2 hF => ?_
  refine awp_region ?_
  refine aR 3 ?_
  refine aL (encI .i64) ql ?_
  refine aC (fleetmake_Stream_Next_ok h1) [] [] [] ?_
  refine aX (x_idx (encI .i64) h2) ?_
  refine aR 2 ?_
  refine aE ?_
  refine awp_ret ?_
  exact oF hF [] []

/-! ### (*beaconfleet/fleetmake.Stream).Range -/
def fleetmake_Stream_Range_R (qs : fleetmake_Stream) (qlow : Int) (qhigh : Int) (r : fleetmake_Stream × Int) : TV × Mem := (.v (.one (.d (.int .i64 r.2))), ⟨[], [(0, [.d (.lst (List.map (encI .i64) r.1.L)), .d (.int .i64 r.1.at_)])]⟩)

theorem fleetmake_Stream_Range_ok {qs : fleetmake_Stream} {qlow : Int} {qhigh : Int} {r} (hF : fleetmake_Stream_Range qs qlow qhigh = some r) : Holds prog 7 [.v (.one (.box 0 0)), .v (.one (.d (.int .i64 qlow))), .v (.one (.d (.int .i64 qhigh)))] ⟨[], [(0, [.d (.lst (List.map (encI .i64) qs.L)), .d (.int .i64 qs.at_)])]⟩ (Is (fleetmake_Stream_Range_R qs qlow qhigh r)) := by
  unfold fleetmake_Stream_Range at hF
  refine holds_of_awp hΓ (fn := f7) (c := cB f7) (A := 1) (nx := 1) (by kernel_rfl) (by kernel_rfl) (by kernel_rfl) (by kernel_rfl) (by kernel_rfl) (by kernel_rfl) (lowc_of (by kernel_rfl)) ?_
  show Awp prog 1 19 (cB f7) _ _
  refine awp_seq ?_
  refine awp_region ?_
  refine aR 1 ?_
  refine aE ?_
  refine awp_seq ?_
  refine awp_seq ?_
  refine awp_region ?_
  refine aR 3 ?_
  refine aE ?_
  refine cE hF (fun h1 hF => ?_) fun h1 hF => ?_
  · refine awp_true (by kernel_rfl) h1 ?_
    refine awp_seq ?_
    refine awp_region ?_
    refine aR 2 ?_
    refine aE ?_
    refine awp_ret ?_
    exact oF hF [] []
  · refine awp_false (by kernel_rfl) h1 ?_
    refine awp_skip ?_
    refine awp_seq ?_
    refine bE hF fun vr3 h2 hF => ?_
    refine awp_region ?_
    refine aR 6 ?_
    refine aC (fleetmake_Stream_Next_ok h2) [] [] [] ?_
    refine aR 2 ?_
    refine aE ?_
    refine awp_ret ?_
    exact oF hF [] []

/-! ### (*beaconfleet/fleetmake.Stream).Odd -/
def fleetmake_Stream_Odd_R (qs : fleetmake_Stream) (qlow : Int) (qhigh : Int) (r : fleetmake_Stream × Int) : TV × Mem := (.v (.one (.d (.int .i64 r.2))), ⟨[], [(0, [.d (.lst (List.map (encI .i64) r.1.L)), .d (.int .i64 r.1.at_)])]⟩)

theorem fleetmake_Stream_Odd_ok {qs : fleetmake_Stream} {qlow : Int} {qhigh : Int} {r} (hF : fleetmake_Stream_Odd qs qlow qhigh = some r) : Holds prog 17 [.v (.one (.box 0 0)), .v (.one (.d (.int .i64 qlow))), .v (.one (.d (.int .i64 qhigh)))] ⟨[], [(0, [.d (.lst (List.map (encI .i64) qs.L)), .d (.int .i64 qs.at_)])]⟩ (Is (fleetmake_Stream_Odd_R qs qlow qhigh r)) := by
  unfold fleetmake_Stream_Odd at hF
  refine holds_of_awp hΓ (fn := f17) (c := cB f17) (A := 1) (nx := 1) (by kernel_rfl) (by kernel_rfl) (by kernel_rfl) (by kernel_rfl) (by kernel_rfl) (by kernel_rfl) (lowc_of (by kernel_rfl)) ?_
  show Awp prog 1 22 (cB f17) _ _
  refine awp_seq ?_
  refine awp_region ?_
  refine aR 1 ?_
  refine aE ?_
  refine awp_seq ?_
  refine awp_seq ?_
  refine bE hF fun vr h1 hF => ?_
  refine awp_region ?_
  refine aR 1 ?_
  refine aC (fleetmake_Stream_Flip_ok h1) [] [] [] ?_
  refine aE ?_
  refine cE hF (fun h2 hF => ?_) fun h2 hF => ?_
  · refine awp_true (by kernel_rfl) h2 ?_
    refine awp_seq ?_
    refine bE hF fun vr1 h3 hF => ?_
    refine awp_region ?_
    refine aR 8 ?_
    refine aC (fleetmake_Stream_Pick_o1_ok h3) [(1, 10001)] [] [] ?_
    refine aR 1 ?_
    refine aE ?_
    refine awp_ret ?_
    exact oF hF [] []
  · refine awp_false (by kernel_rfl) h2 ?_
    refine awp_skip ?_
    refine awp_seq ?_
    refine bE hF fun x h4 hF => ?_
    obtain ⟨vs, vr2⟩ := x
    refine awp_region ?_
    refine aR 3 ?_
    refine aC (fleetmake_Stream_Range_ok h4) [] [] [] ?_
    refine aR 1 ?_
    refine aE ?_
    refine awp_ret ?_
    exact oF hF [] []

/-! ### (*beaconfleet/fleetmake.Stream).Notes -/
def fleetmake_Stream_Notes_x3_k : (fleetmake_Stream × api_Note) → AEx
  | _ => .normal

def fleetmake_Stream_Notes_x3_S (vout : List api_Note) (vx : Int) (vy1 : List UInt8) (vr10 : List UInt8) (vr11 : List UInt8) (vr12 : Int) (vs4 : fleetmake_Stream) (vr13 : Int) (vr14 : Int) (vr15 : Int) : (fleetmake_Stream × api_Note) → St
  | (vs5, vn2) => Mem.st ⟨[(2, ⟨33, 9, List.map api_Note.enc vout⟩)], [(0, [.d (.lst (List.map (encI .i64) vs5.L)), .d (.int .i64 vs5.at_)]), (1, [.d (.str vn2.Letter.Id), .d (.str vn2.Letter.Slot), .d (.str vn2.Letter.Body), .d (.int .i64 vn2.Letter.Prio), .d (.int .i64 vn2.Letter.At), .d (.int .i64 vn2.Letter.Until), .d (.int .i64 vn2.State), .d (.int .i64 vn2.Tries), .d (.int .i64 vn2.Since)])]⟩ (tl [(0, .v (.one (.box 0 0))), (3, .v (.one (.own 2 none))), (6, .v (.one (.box 1 0))), (7, .v (.one (.d (.lst (List.map encS ([([108, 97] : List UInt8), ([108, 98] : List UInt8), ([108, 99] : List UInt8), ([108, 100] : List UInt8)] : List (List UInt8))))))), (8, .v (.one (.d (.int .i64 (([([108, 97] : List UInt8), ([108, 98] : List UInt8), ([108, 99] : List UInt8), ([108, 100] : List UInt8)] : List (List UInt8)).length : Int))))), (9, .v (.one (.d (.int .i64 vx))))]) 3

def fleetmake_Stream_Notes_x3_I (vout : List api_Note) (vx : Int) (vy1 : List UInt8) (vr10 : List UInt8) (vr11 : List UInt8) (vr12 : Int) (vs4 : fleetmake_Stream) (vr13 : Int) (vr14 : Int) (vr15 : Int) : St := Mem.st ⟨[(2, ⟨33, 9, List.map api_Note.enc vout⟩)], [(0, [.d (.lst (List.map (encI .i64) vs4.L)), .d (.int .i64 (IntKind.wrap .i64 ((IntKind.wrap .i64 (vs4.at_ + 1)) + 1)))]), (1, [.d (.str vy1), .d (.str vr10), .d (.str vr11), .d (.int .i64 vr12), .d (.int .i64 0), .d (.int .i64 100), .d (.int .i64 vr13), .d (.int .i64 vr14), .d (.int .i64 vr15)])]⟩ (tl [(0, .v (.one (.box 0 0))), (3, .v (.one (.own 2 none))), (5, .v (.one (.d (.str vy1)))), (6, .v (.one (.box 1 0))), (7, .v (.one (.d (.lst (List.map encS ([([108, 97] : List UInt8), ([108, 98] : List UInt8), ([108, 99] : List UInt8), ([108, 100] : List UInt8)] : List (List UInt8))))))), (8, .v (.one (.d (.int .i64 (([([108, 97] : List UInt8), ([108, 98] : List UInt8), ([108, 99] : List UInt8), ([108, 100] : List UInt8)] : List (List UInt8)).length : Int))))), (9, .v (.one (.d (.int .i64 vx))))]) 3

theorem fleetmake_Stream_Notes_x3_ok (vout : List api_Note) (vx : Int) (vy1 : List UInt8) (vr10 : List UInt8) (vr11 : List UInt8) (vr12 : Int) (vs4 : fleetmake_Stream) (vr13 : Int) (vr14 : Int) (vr15 : Int) {r} (hF : fleetmake_Stream_Notes_x3 vy1 vr10 vr11 vr12 vs4 vr13 vr14 vr15 = some r) : Awp prog 1 58 (cL (cR (cR (cR (cL (cL (cR (cR (cL (cL (cR (cL (cR (cR (cB f4))))))))))))))) (Out 1 fleetmake_Stream_Notes_x3_k (fleetmake_Stream_Notes_x3_S vout vx vy1 vr10 vr11 vr12 vs4 vr13 vr14 vr15) r) (fleetmake_Stream_Notes_x3_I vout vx vy1 vr10 vr11 vr12 vs4 vr13 vr14 vr15) := by
  unfold fleetmake_Stream_Notes_x3 at hF
  refine awp_seq ?_
  refine bE hF fun vr16 h11 hF => ?_
  refine awp_region ?_
  refine aR 1 ?_
  refine aC (fleetmake_Stream_Flip_ok h11) [] [] [] ?_
  refine aE ?_
  refine cE hF (fun h12 hF => ?_) fun h12 hF => ?_
  · refine awp_true (by kernel_rfl) h12 ?_
    refine bE hF fun vr17 h13 hF => ?_
    refine bE hF fun x h14 hF => ?_
    obtain ⟨vs1_4, vr3_4⟩ := x
    refine bE hF fun x h15 hF => ?_
    obtain ⟨vs1_5, vr3_5⟩ := x
    refine bE hF fun x h16 hF => ?_
    obtain ⟨vs1_6, vr3_6⟩ := x
    refine awp_region ?_
    refine aR 3 ?_
    refine aC (fleetmake_Stream_Some_o1_ok h13) [(1, 4003)] [] [] ?_
    refine aR 1 ?_
    refine aC (fleetmake_Stream_Odd_ok h14) [] [] [] ?_
    refine aR 1 ?_
    refine aC (fleetmake_Stream_Odd_ok h15) [] [] [] ?_
    refine aR 1 ?_
    refine aC (fleetmake_Stream_Odd_ok h16) [] [] [] ?_
    refine aR 9 ?_
    refine aE ?_
    exact oO hF [] [] rfl
  · refine awp_false (by kernel_rfl) h12 ?_
    refine awp_skip ?_
    exact oO hF [] [] rfl

def fleetmake_Stream_Notes_x2_k : (fleetmake_Stream × (List api_Note)) → AEx
  | _ => .normal

def fleetmake_Stream_Notes_x2_S (vs : fleetmake_Stream) (vout : List api_Note) (vx : Int) : (fleetmake_Stream × (List api_Note)) → St
  | (vs6, vout2) => Mem.st ⟨[(1, ⟨33, 9, List.map api_Note.enc vout2⟩)], [(0, [.d (.lst (List.map (encI .i64) vs6.L)), .d (.int .i64 vs6.at_)])]⟩ (tl [(0, .v (.one (.box 0 0))), (3, .v (.one (.own 1 none))), (7, .v (.one (.d (.lst (List.map encS ([([108, 97] : List UInt8), ([108, 98] : List UInt8), ([108, 99] : List UInt8), ([108, 100] : List UInt8)] : List (List UInt8))))))), (8, .v (.one (.d (.int .i64 (([([108, 97] : List UInt8), ([108, 98] : List UInt8), ([108, 99] : List UInt8), ([108, 100] : List UInt8)] : List (List UInt8)).length : Int))))), (9, .v (.one (.d (.int .i64 vx))))]) 2

def fleetmake_Stream_Notes_x2_I (vs : fleetmake_Stream) (vout : List api_Note) (vx : Int) : St := Mem.st ⟨[(1, ⟨33, 9, List.map api_Note.enc vout⟩)], [(0, [.d (.lst (List.map (encI .i64) vs.L)), .d (.int .i64 vs.at_)])]⟩ (tl [(0, .v (.one (.box 0 0))), (3, .v (.one (.own 1 none))), (7, .v (.one (.d (.lst (List.map encS ([([108, 97] : List UInt8), ([108, 98] : List UInt8), ([108, 99] : List UInt8), ([108, 100] : List UInt8)] : List (List UInt8))))))), (8, .v (.one (.d (.int .i64 (([([108, 97] : List UInt8), ([108, 98] : List UInt8), ([108, 99] : List UInt8), ([108, 100] : List UInt8)] : List (List UInt8)).length : Int))))), (9, .v (.one (.d (.int .i64 vx))))]) 2

theorem fleetmake_Stream_Notes_x2_ok (vs : fleetmake_Stream) (vout : List api_Note) (vx : Int) {r} (hF : fleetmake_Stream_Notes_x2 vs vout vx = some r) : Awp prog 1 58 (cL (cR (cR (cL (cL (cR (cL (cR (cR (cB f4)))))))))) (Out 1 fleetmake_Stream_Notes_x2_k (fleetmake_Stream_Notes_x2_S vs vout vx) r) (fleetmake_Stream_Notes_x2_I vs vout vx) := by
  unfold fleetmake_Stream_Notes_x2 at hF
  refine awp_block ?_
  refine awp_seq ?_
  refine bE hF fun vy1 h2 hF => ?_
  refine awp_region ?_
  refine aX (x_idx encS h2) ?_
  refine aR 2 ?_
  refine aE ?_
  refine awp_seq ?_
  refine awp_seq ?_
  refine bE hF fun vr9 h3 hF => ?_
  refine awp_region ?_
  refine aR 1 ?_
  refine aC (fleetmake_Stream_Flip_ok h3) [] [] [] ?_
  refine aE ?_
  refine cE hF (fun h4 hF => ?_) fun h4 hF => ?_
  · refine awp_true (by kernel_rfl) h4 ?_
    refine awp_exit ?_
    exact oO hF [] [] rfl
  · refine awp_false (by kernel_rfl) h4 ?_
    refine awp_skip ?_
    refine awp_seq ?_
    refine bE hF fun vr10 h5 hF => ?_
    refine bE hF fun vr11 h6 hF => ?_
    refine bE hF fun vr12 h7 hF => ?_
    refine bE hF fun x h8 hF => ?_
    obtain ⟨vs4, vr13⟩ := x
    refine bE hF fun vr14 h9 hF => ?_
    refine bE hF fun vr15 h10 hF => ?_
    refine awp_region ?_
    refine aR 3 ?_
    refine aC (fleetmake_Stream_Some_o1_ok h5) [(1, 7002)] [] [] ?_
    refine aR 2 ?_
    refine aC (fleetmake_Stream_Some_o1_ok h6) [(1, 10002)] [] [] ?_
    refine aR 2 ?_
    refine aC (fleetmake_Stream_Pick_o1_ok h7) [(1, 13002)] [] [] ?_
    refine aR 2 ?_
    refine aC (fleetmake_Stream_Range_ok h8) [] [] [] ?_
    refine aR 2 ?_
    refine aC (fleetmake_Stream_Pick_o1_ok h9) [(1, 19002)] [] [] ?_
    refine aR 2 ?_
    refine aC (fleetmake_Stream_Pick_o1_ok h10) [(1, 22002)] [] [] ?_
    refine aR 3 ?_
    refine aE ?_
    refine awp_seq ?_
    refine awp_to (st' := fleetmake_Stream_Notes_x3_I vout vx vy1 vr10 vr11 vr12 vs4 vr13 vr14 vr15) (oT [(1, 25002), (2, 1)] []) ?_
    refine bE hF fun x h17 hF => ?_
    obtain ⟨vs5_1, vn2_1⟩ := x
    refine awp_sub (fleetmake_Stream_Notes_x3_ok vout vx vy1 vr10 vr11 vr12 vs4 vr13 vr14 vr15 h17) ?_
    refine gE hF fun h18 hF => ?_
    refine awp_region ?_
    refine aR 3 ?_
    refine aX (x_app api_Note.enc 2 h18) ?_
    refine aR 1 ?_
    refine aE ?_
    exact oO hF [(1, 3003)] [] rfl

def fleetmake_Stream_Notes_x1_k : (fleetmake_Stream × (List api_Note)) → AEx
  | _ => .exit 0

def fleetmake_Stream_Notes_x1_S : (fleetmake_Stream × (List api_Note)) → St
  | (vs7, vout3) => Mem.st ⟨[(1, ⟨33, 9, List.map api_Note.enc vout3⟩)], [(0, [.d (.lst (List.map (encI .i64) vs7.L)), .d (.int .i64 vs7.at_)])]⟩ (tl [(3, .v (.one (.own 1 none)))]) 2

def fleetmake_Stream_Notes_x1_H : fleetmake_Stream × (List api_Note) × Int → St
  | (vs, vout, vx) => Mem.st ⟨[(1, ⟨33, 9, List.map api_Note.enc vout⟩)], [(0, [.d (.lst (List.map (encI .i64) vs.L)), .d (.int .i64 vs.at_)])]⟩ (tl [(0, .v (.one (.box 0 0))), (3, .v (.one (.own 1 none))), (7, .v (.one (.d (.lst (List.map encS ([([108, 97] : List UInt8), ([108, 98] : List UInt8), ([108, 99] : List UInt8), ([108, 100] : List UInt8)] : List (List UInt8))))))), (8, .v (.one (.d (.int .i64 (([([108, 97] : List UInt8), ([108, 98] : List UInt8), ([108, 99] : List UInt8), ([108, 100] : List UInt8)] : List (List UInt8)).length : Int))))), (9, .v (.one (.d (.int .i64 vx))))]) 2

theorem fleetmake_Stream_Notes_x1_ok (s : fleetmake_Stream × (List api_Note) × Int) (r : (fleetmake_Stream × (List api_Note) × Int) ⊕ ((fleetmake_Stream × (List api_Note)))) (hF : fleetmake_Stream_Notes_x1  s = some r) : Awp prog 1 58 (cL (cL (cR (cL (cR (cR (cB f4))))))) (Out 1 (kk fleetmake_Stream_Notes_x1_k) (SS (fleetmake_Stream_Notes_x1_H ) (fleetmake_Stream_Notes_x1_S )) r) (fleetmake_Stream_Notes_x1_H  s) := by
  obtain ⟨vs, vout, vx⟩ := s
  unfold fleetmake_Stream_Notes_x1 at hF
  refine awp_seq ?_
  refine awp_region ?_
  refine aR 1 ?_
  refine aE ?_
  refine awp_seq ?_
  refine cE hF (fun h1 hF => ?_) fun h1 hF => ?_
  · refine awp_true (by kernel_rfl) h1 ?_
    refine awp_skip ?_
    refine awp_seq ?_
    refine awp_to (st' := fleetmake_Stream_Notes_x2_I vs vout vx) (oT [] []) ?_
    refine bE hF fun x h19 hF => ?_
    obtain ⟨vs6_1, vout2_1⟩ := x
    refine awp_sub (fleetmake_Stream_Notes_x2_ok vs vout vx h19) ?_
    refine awp_region ?_
    refine aR 2 ?_
    refine aE ?_
    exact oO hF [] [] rfl
  · refine awp_false (by kernel_rfl) h1 ?_
    refine awp_exit ?_
    exact oO hF [] [] rfl

def fleetmake_Stream_Notes_R (qs : fleetmake_Stream) (r : fleetmake_Stream × (List api_Note)) : TV × Mem := (.v (.one (.own 1 none)), ⟨[(1, ⟨33, 9, List.map api_Note.enc r.2⟩)], [(0, [.d (.lst (List.map (encI .i64) r.1.L)), .d (.int .i64 r.1.at_)])]⟩)

theorem fleetmake_Stream_Notes_ok {qs : fleetmake_Stream} {r} (hF : fleetmake_Stream_Notes qs = some r) : Holds prog 4 [.v (.one (.box 0 0))] ⟨[], [(0, [.d (.lst (List.map (encI .i64) qs.L)), .d (.int .i64 qs.at_)])]⟩ (Is (fleetmake_Stream_Notes_R qs r)) := by
  unfold fleetmake_Stream_Notes at hF
  refine holds_of_awp hΓ (fn := f4) (c := cB f4) (A := 1) (nx := 1) (by kernel_rfl) (by kernel_rfl) (by kernel_rfl) (by kernel_rfl) (by kernel_rfl) (by kernel_rfl) (lowc_of (by kernel_rfl)) ?_
  show Awp prog 1 58 (cB f4) _ _
  refine awp_seq ?_
  refine awp_region ?_
  refine aR 1 ?_
  refine aE ?_
  refine awp_seq ?_
  refine awp_region ?_
  refine aR 1 ?_
  refine aE ?_
  refine awp_seq ?_
  refine awp_seq ?_
  refine awp_region ?_
  refine aR 1 ?_
  refine aL encS ([([108, 97] : List UInt8), ([108, 98] : List UInt8), ([108, 99] : List UInt8), ([108, 100] : List UInt8)] : List (List UInt8)) ?_
  refine aR 1 ?_
  refine aE ?_
  refine awp_to (oT (m := ⟨[], [(0, [.d (.lst (List.map (encI .i64) qs.L)), .d (.int .i64 qs.at_)])]⟩) (ts := [(0, .v (.one (.box 0 0))), (3, .v (.one (.nil))), (7, .v (.one (.d (.lst (List.map encS ([([108, 97] : List UInt8), ([108, 98] : List UInt8), ([108, 99] : List UInt8), ([108, 100] : List UInt8)] : List (List UInt8))))))), (8, .v (.one (.d (.int .i64 (([([108, 97] : List UInt8), ([108, 98] : List UInt8), ([108, 99] : List UInt8), ([108, 100] : List UInt8)] : List (List UInt8)).length : Int))))), (9, .v (.one (.d (.int .i64 0))))]) (nx := 1) [] []) ?_
  refine awp_block ?_
  refine awp_to (st' := fleetmake_Stream_Notes_x1_H  (qs, [], 0)) (oT [] [1]) ?_
  refine bE hF fun x h20 hF => ?_
  obtain ⟨vs7_1, vout3_1⟩ := x
  refine awp_sub (awp_loop' (fleetmake_Stream_Notes_x1_H ) fleetmake_Stream_Notes_x1_k (fleetmake_Stream_Notes_x1_S ) (by intro x; exact fun h => nomatch h) h20 (fleetmake_Stream_Notes_x1_ok )) ?_
  refine awp_seq ?_
  refine awp_region ?_
  refine aR 2 ?_
  refine aE ?_
  refine awp_ret ?_
  exact oF hF [] []

/-! ### slices.Clone[[]beaconfleet/api.Note,beaconfleet/api.Note] -/
def slices_Clone_api_Note_api_Note_R (qs : List api_Note) (r : List api_Note) : TV × Mem := (.v (.one (.own 0 none)), ⟨[(0, ⟨33, 9, List.map api_Note.enc r⟩)], []⟩)

theorem slices_Clone_api_Note_api_Note_ok {qs : List api_Note} {r} (hF : slices_Clone_api_Note_api_Note qs = some r) : Holds prog 6 [.v (.one (.d (.lst (List.map api_Note.enc qs))))] ⟨[], []⟩ (Is (slices_Clone_api_Note_api_Note_R qs r)) := by
  unfold slices_Clone_api_Note_api_Note at hF
  refine gE hF fun h1 hF => ?_
  refine holds_of_awp hΓ (fn := f6) (c := cB f6) (A := 0) (nx := 0) (by kernel_rfl) (by kernel_rfl) (by kernel_rfl) (by kernel_rfl) (by kernel_rfl) (by kernel_rfl) (lowc_of (by kernel_rfl)) ?_
  show Awp prog 0 8 (cB f6) _ _
  refine awp_seq ?_
  refine awp_region ?_
  refine aR 1 ?_
  refine aE ?_
  refine awp_seq ?_
  refine awp_seq ?_
  refine awp_region ?_
  refine aR 1 ?_
  refine aN api_Note.enc qs (fun b hb => ?_) rfl
  refine aE ?_
  cases b with
  | true =>
    obtain rfl := hb rfl
    refine awp_true (by kernel_rfl) rfl ?_
    refine awp_seq ?_
    refine awp_region ?_
    refine aR 1 ?_
    refine aE ?_
    refine awp_ret ?_
    exact oF hF [] [0]
  | false =>
    refine awp_false (by kernel_rfl) rfl ?_
    refine awp_skip ?_
    refine awp_seq ?_
    refine awp_region ?_
    refine aR 2 ?_
    refine aX (x_app api_Note.enc 3000 h1) ?_
    refine aR 1 ?_
    refine aE ?_
    refine awp_ret ?_
    exact oF hF [(0, 5000)] []

/-! ### beaconfleet/base.Key -/
def base_Key_x1_k : Bool → AEx
  | _ => .normal

def base_Key_x1_S (qs : List UInt8) : Bool → St
  | vx => Mem.st ⟨[], []⟩ (tl [(0, .v (.one (.d (.str qs)))), (21, .v (.one (.d (.bool vx))))]) 0

def base_Key_x1_I (qs : List UInt8) : St := Mem.st ⟨[], []⟩ (tl [(0, .v (.one (.d (.str qs))))]) 0

theorem base_Key_x1_ok (qs : List UInt8) {r} (hF : base_Key_x1 qs = some r) : Awp prog 0 54 (cL (cL (cR (cB f46)))) (Out 0 base_Key_x1_k (base_Key_x1_S qs) r) (base_Key_x1_I qs) := by
  unfold base_Key_x1 at hF
  refine cE hF (fun h1 hF => ?_) fun h1 hF => ?_
  · refine awp_region ?_
    refine aR 1 ?_
    refine aB h1 ?_
    refine aR 15 ?_
    refine aE ?_
    exact oO hF [] [] rfl
  · refine cE hF (fun h2 hF => ?_) fun h2 hF => ?_
    · refine awp_region ?_
      refine aR 1 ?_
      refine aB h1 ?_
      refine aR 3 ?_
      refine aB h2 ?_
      refine aR 11 ?_
      refine aE ?_
      exact oO hF [] [] rfl
    · refine bE hF fun vc h3 hF => ?_
      refine cE hF (fun h4 hF => ?_) fun h4 hF => ?_
      · refine awp_region ?_
        refine aR 1 ?_
        refine aB h1 ?_
        refine aR 3 ?_
        refine aB h2 ?_
        refine aR 3 ?_
        refine aX (x_idxS h3) ?_
        refine aB h4 ?_
        refine aR 6 ?_
        refine aE ?_
        exact oO hF [] [] rfl
      · refine awp_region ?_
        refine aR 1 ?_
        refine aB h1 ?_
        refine aR 3 ?_
        refine aB h2 ?_
        refine aR 3 ?_
        refine aX (x_idxS h3) ?_
        refine aB h4 ?_
        refine aR 3 ?_
        refine aX (x_idxS h3) ?_
        refine aR 2 ?_
        refine aE ?_
        exact oO hF [] [] rfl

def base_Key_x3_k : Bool → AEx
  | _ => .normal

def base_Key_x3_S (qs : List UInt8) (vx2 : Int) (vc2 : UInt8) : Bool → St
  | vx4 => Mem.st ⟨[], []⟩ (tl [(0, .v (.one (.d (.str qs)))), (23, .v (.one (.d (.int .i64 (qs.length : Int))))), (24, .v (.one (.d (.int .i64 vx2)))), (52, .v (.one (.d (.bool vx4))))]) 0

def base_Key_x3_I (qs : List UInt8) (vx2 : Int) (vc2 : UInt8) : St := Mem.st ⟨[], []⟩ (tl [(0, .v (.one (.d (.str qs)))), (4, .v (.one (.d (.int .u8 (vc2.toNat : Int))))), (23, .v (.one (.d (.int .i64 (qs.length : Int))))), (24, .v (.one (.d (.int .i64 vx2))))]) 0

theorem base_Key_x3_ok (qs : List UInt8) (vx2 : Int) (vc2 : UInt8) {r} (hF : base_Key_x3 vc2 = some r) : Awp prog 0 54 (cL (cR (cR (cL (cL (cR (cR (cL (cL (cR (cL (cR (cR (cB f46)))))))))))))) (Out 0 base_Key_x3_k (base_Key_x3_S qs vx2 vc2) r) (base_Key_x3_I qs vx2 vc2) := by
  unfold base_Key_x3 at hF
  refine cE hF (fun h9 hF => ?_) fun h9 hF => ?_
  · refine cE hF (fun h10 hF => ?_) fun h10 hF => ?_
    · refine awp_region ?_
      refine aR 1 ?_
      refine aB h9 ?_
      refine aR 2 ?_
      refine aB h10 ?_
      refine aR 18 ?_
      refine aE ?_
      exact oO hF [] [] rfl
    · refine cE hF (fun h11 hF => ?_) fun h11 hF => ?_
      · refine cE hF (fun h12 hF => ?_) fun h12 hF => ?_
        · refine awp_region ?_
          refine aR 1 ?_
          refine aB h9 ?_
          refine aR 2 ?_
          refine aB h10 ?_
          refine aR 3 ?_
          refine aB h11 ?_
          refine aR 2 ?_
          refine aB h12 ?_
          refine aR 11 ?_
          refine aE ?_
          exact oO hF [] [] rfl
        · refine cE hF (fun h13 hF => ?_) fun h13 hF => ?_
          · refine awp_region ?_
            refine aR 1 ?_
            refine aB h9 ?_
            refine aR 2 ?_
            refine aB h10 ?_
            refine aR 3 ?_
            refine aB h11 ?_
            refine aR 2 ?_
            refine aB h12 ?_
            refine aR 4 ?_
            refine aB h13 ?_
            refine aR 6 ?_
            refine aE ?_
            exact oO hF [] [] rfl
          · refine awp_region ?_
            refine aR 1 ?_
            refine aB h9 ?_
            refine aR 2 ?_
            refine aB h10 ?_
            refine aR 3 ?_
            refine aB h11 ?_
            refine aR 2 ?_
            refine aB h12 ?_
            refine aR 4 ?_
            refine aB h13 ?_
            refine aR 6 ?_
            refine aE ?_
            exact oO hF [] [] rfl
      · refine cE hF (fun h14 hF => ?_) fun h14 hF => ?_
        · refine awp_region ?_
          refine aR 1 ?_
          refine aB h9 ?_
          refine aR 2 ?_
          refine aB h10 ?_
          refine aR 3 ?_
          refine aB h11 ?_
          refine aR 7 ?_
          refine aB h14 ?_
          refine aR 6 ?_
          refine aE ?_
          exact oO hF [] [] rfl
        · refine awp_region ?_
          refine aR 1 ?_
          refine aB h9 ?_
          refine aR 2 ?_
          refine aB h10 ?_
          refine aR 3 ?_
          refine aB h11 ?_
          refine aR 7 ?_
          refine aB h14 ?_
          refine aR 6 ?_
          refine aE ?_
          exact oO hF [] [] rfl
  · refine cE hF (fun h15 hF => ?_) fun h15 hF => ?_
    · refine cE hF (fun h16 hF => ?_) fun h16 hF => ?_
      · refine awp_region ?_
        refine aR 1 ?_
        refine aB h9 ?_
        refine aR 6 ?_
        refine aB h15 ?_
        refine aR 2 ?_
        refine aB h16 ?_
        refine aR 11 ?_
        refine aE ?_
        exact oO hF [] [] rfl
      · refine cE hF (fun h17 hF => ?_) fun h17 hF => ?_
        · refine awp_region ?_
          refine aR 1 ?_
          refine aB h9 ?_
          refine aR 6 ?_
          refine aB h15 ?_
          refine aR 2 ?_
          refine aB h16 ?_
          refine aR 4 ?_
          refine aB h17 ?_
          refine aR 6 ?_
          refine aE ?_
          exact oO hF [] [] rfl
        · refine awp_region ?_
          refine aR 1 ?_
          refine aB h9 ?_
          refine aR 6 ?_
          refine aB h15 ?_
          refine aR 2 ?_
          refine aB h16 ?_
          refine aR 4 ?_
          refine aB h17 ?_
          refine aR 6 ?_
          refine aE ?_
          exact oO hF [] [] rfl
    · refine cE hF (fun h18 hF => ?_) fun h18 hF => ?_
      · refine awp_region ?_
        refine aR 1 ?_
        refine aB h9 ?_
        refine aR 6 ?_
        refine aB h15 ?_
        refine aR 7 ?_
        refine aB h18 ?_
        refine aR 6 ?_
        refine aE ?_
        exact oO hF [] [] rfl
      · refine awp_region ?_
        refine aR 1 ?_
        refine aB h9 ?_
        refine aR 6 ?_
        refine aB h15 ?_
        refine aR 7 ?_
        refine aB h18 ?_
        refine aR 6 ?_
        refine aE ?_
        exact oO hF [] [] rfl

def base_Key_x2_k : Unit ⊕ Unit → AEx
  | .inl _ => .exit 0
  | .inr _ => .ret

def base_Key_x2_S (qs : List UInt8) : Unit ⊕ Unit → St
  | .inl _ => Mem.st ⟨[], []⟩ (tl []) 0
  | .inr _ => Mem.st ⟨[], []⟩ (tl [(2, .v (.one (.d (.bool false))))]) 0

def base_Key_x2_H (qs : List UInt8) : Int → St
  | vx2 => Mem.st ⟨[], []⟩ (tl [(0, .v (.one (.d (.str qs)))), (23, .v (.one (.d (.int .i64 (qs.length : Int))))), (24, .v (.one (.d (.int .i64 vx2))))]) 0

theorem base_Key_x2_ok (qs : List UInt8) (vx2 : Int) (r : (Int) ⊕ (Unit ⊕ Unit)) (hF : base_Key_x2 qs vx2 = some r) : Awp prog 0 54 (cL (cL (cR (cL (cR (cR (cB f46))))))) (Out 0 (kk base_Key_x2_k) (SS (base_Key_x2_H qs) (base_Key_x2_S qs)) r) (base_Key_x2_H qs vx2) := by
  unfold base_Key_x2 at hF
  refine awp_seq ?_
  refine awp_region ?_
  refine aR 1 ?_
  refine aE ?_
  refine awp_seq ?_
  refine cE hF (fun h7 hF => ?_) fun h7 hF => ?_
  · refine awp_true (by kernel_rfl) h7 ?_
    refine awp_skip ?_
    refine awp_seq ?_
    refine awp_block ?_
    refine awp_seq ?_
    refine awp_region ?_
    refine aR 2 ?_
    refine aE ?_
    refine awp_seq ?_
    refine bE hF fun vc2 h8 hF => ?_
    refine awp_region ?_
    refine aR 2 ?_
    refine aX (x_idxS h8) ?_
    refine aR 1 ?_
    refine aE ?_
    refine awp_seq ?_
    refine awp_to (st' := base_Key_x3_I qs vx2 vc2) (oT [] []) ?_
    refine bE hF fun vx4_1 h19 hF => ?_
    refine awp_sub (base_Key_x3_ok qs vx2 vc2 h19) ?_
    refine cE hF (fun h20 hF => ?_) fun h20 hF => ?_
    · refine awp_true (by kernel_rfl) h20 ?_
      refine awp_seq ?_
      refine awp_region ?_
      refine aR 1 ?_
      refine aE ?_
      refine awp_ret ?_
      exact oO hF [] [] rfl
    · refine awp_false (by kernel_rfl) h20 ?_
      refine awp_skip ?_
      refine awp_region ?_
      refine aR 2 ?_
      refine aE ?_
      exact oO hF [] [] rfl
  · refine awp_false (by kernel_rfl) h7 ?_
    refine awp_exit ?_
    exact oO hF [] [] rfl

def base_Key_R (qs : List UInt8) (r : Bool) : TV × Mem := (.v (.one (.d (.bool r))), ⟨[], []⟩)

theorem base_Key_ok {qs : List UInt8} {r} (hF : base_Key qs = some r) : Holds prog 46 [.v (.one (.d (.str qs)))] ⟨[], []⟩ (Is (base_Key_R qs r)) := by
  unfold base_Key at hF
  refine holds_of_awp hΓ (fn := f46) (c := cB f46) (A := 0) (nx := 0) (by kernel_rfl) (by kernel_rfl) (by kernel_rfl) (by kernel_rfl) (by kernel_rfl) (by kernel_rfl) (lowc_of (by kernel_rfl)) ?_
  show Awp prog 0 54 (cB f46) _ _
  refine awp_seq ?_
  refine awp_region ?_
  refine aR 1 ?_
  refine aE ?_
  refine awp_seq ?_
  refine awp_seq ?_
  refine awp_to (st' := base_Key_x1_I qs) (oT [] []) ?_
  refine bE hF fun vx1 h5 hF => ?_
  refine awp_sub (base_Key_x1_ok qs h5) ?_
  refine cE hF (fun h6 hF => ?_) fun h6 hF => ?_
  · refine awp_true (by kernel_rfl) h6 ?_
    refine awp_seq ?_
    refine awp_region ?_
    refine aR 1 ?_
    refine aE ?_
    refine awp_ret ?_
    exact oF hF [] []
  · refine awp_false (by kernel_rfl) h6 ?_
    refine awp_skip ?_
    refine awp_seq ?_
    refine awp_seq ?_
    refine awp_region ?_
    refine aR 3 ?_
    refine aE ?_
    refine awp_block ?_
    refine awp_to (st' := base_Key_x2_H qs 0) (oT [] []) ?_
    refine bE hF fun x h21 hF => ?_
    rcases x with _ | _
    · refine awp_sub (awp_loop' (base_Key_x2_H qs) base_Key_x2_k (base_Key_x2_S qs) (by intro x; rcases x with x | x <;> exact fun h => nomatch h) h21 (base_Key_x2_ok qs)) ?_
      refine awp_seq ?_
      refine awp_region ?_
      refine aR 1 ?_
      refine aE ?_
      refine awp_ret ?_
      exact oF hF [] []
    · refine awp_sub (awp_loop' (base_Key_x2_H qs) base_Key_x2_k (base_Key_x2_S qs) (by intro x; rcases x with x | x <;> exact fun h => nomatch h) h21 (base_Key_x2_ok qs)) ?_
      exact oF hF [] []

/-! ### unicode/utf8.ValidString -/
def utf8_ValidString_R (qx : List UInt8) (r : Bool) : TV × Mem := (.v (.one (.d (.bool r))), ⟨[], []⟩)

theorem utf8_ValidString_ok {qx : List UInt8} {r} (hF : utf8_ValidString qx = some r) : Holds prog 59 [.v (.one (.d (.str qx)))] ⟨[], []⟩ (Is (utf8_ValidString_R qx r)) := by
  unfold utf8_ValidString at hF
  refine gE hF fun h1 hF => ?_
  obtain rfl := Option.some.inj hF
  have h2 : qx.length ≤ 9223372036854775807 := by simpa using h1
  refine holds_lib (args := [.str qx]) (tv := .c (.d (.bool (Lib.validD qx)))) ⟨_, cB Go.Proofs.Tryd.f59, Go.Proofs.Tryd.func59, by kernel_rfl, by kernel_rfl⟩ rfl rfl fun w ht => ?_
  refine (Go.Proofs.Any.utf8_ValidString Go.Proofs.Tryd.lays196 ⟨qx.toArray⟩ w (by simpa [ByteArray.size] using h2) (utf8_tabs (ht 1 _ rfl) (ht 2 _ rfl) (by kernel_rfl) (by kernel_rfl))).mono ?_
  rintro e w' ⟨rfl, hb⟩
  exact ⟨rfl, hb⟩

/-! ### beaconfleet/base.Unmarked -/
def base_Unmarked_x2_k : Bool → AEx
  | _ => .normal

def base_Unmarked_x2_S (qs : List UInt8) (vx : Int) : Bool → St
  | vx2 => Mem.st ⟨[], []⟩ (tl [(0, .v (.one (.d (.str qs)))), (5, .v (.one (.d (.int .i64 (qs.length : Int))))), (6, .v (.one (.d (.int .i64 vx)))), (18, .v (.one (.d (.bool vx2))))]) 0

def base_Unmarked_x2_I (qs : List UInt8) (vx : Int) : St := Mem.st ⟨[], []⟩ (tl [(0, .v (.one (.d (.str qs)))), (3, .v (.one (.d (.int .i64 vx)))), (5, .v (.one (.d (.int .i64 (qs.length : Int))))), (6, .v (.one (.d (.int .i64 vx))))]) 0

theorem base_Unmarked_x2_ok (qs : List UInt8) (vx : Int) {r} (hF : base_Unmarked_x2 qs vx = some r) : Awp prog 0 22 (cL (cR (cL (cL (cR (cR (cL (cL (cR (cL (cR (cB f47)))))))))))) (Out 0 base_Unmarked_x2_k (base_Unmarked_x2_S qs vx) r) (base_Unmarked_x2_I qs vx) := by
  unfold base_Unmarked_x2 at hF
  refine bE hF fun vc1 h2 hF => ?_
  refine cE hF (fun h3 hF => ?_) fun h3 hF => ?_
  · refine awp_region ?_
    refine aR 2 ?_
    refine aX (x_idxS h2) ?_
    refine aB h3 ?_
    refine aR 6 ?_
    refine aE ?_
    exact oO hF [] [] rfl
  · refine awp_region ?_
    refine aR 2 ?_
    refine aX (x_idxS h2) ?_
    refine aB h3 ?_
    refine aR 3 ?_
    refine aX (x_idxS h2) ?_
    refine aR 2 ?_
    refine aE ?_
    exact oO hF [] [] rfl

def base_Unmarked_x1_k : Unit ⊕ Unit → AEx
  | .inl _ => .exit 0
  | .inr _ => .ret

def base_Unmarked_x1_S (qs : List UInt8) : Unit ⊕ Unit → St
  | .inl _ => Mem.st ⟨[], []⟩ (tl [(0, .v (.one (.d (.str qs))))]) 0
  | .inr _ => Mem.st ⟨[], []⟩ (tl [(2, .v (.one (.d (.bool false))))]) 0

def base_Unmarked_x1_H (qs : List UInt8) : Int → St
  | vx => Mem.st ⟨[], []⟩ (tl [(0, .v (.one (.d (.str qs)))), (5, .v (.one (.d (.int .i64 (qs.length : Int))))), (6, .v (.one (.d (.int .i64 vx))))]) 0

theorem base_Unmarked_x1_ok (qs : List UInt8) (vx : Int) (r : (Int) ⊕ (Unit ⊕ Unit)) (hF : base_Unmarked_x1 qs vx = some r) : Awp prog 0 22 (cL (cL (cR (cL (cR (cB f47)))))) (Out 0 (kk base_Unmarked_x1_k) (SS (base_Unmarked_x1_H qs) (base_Unmarked_x1_S qs)) r) (base_Unmarked_x1_H qs vx) := by
  unfold base_Unmarked_x1 at hF
  refine awp_seq ?_
  refine awp_region ?_
  refine aR 1 ?_
  refine aE ?_
  refine awp_seq ?_
  refine cE hF (fun h1 hF => ?_) fun h1 hF => ?_
  · refine awp_true (by kernel_rfl) h1 ?_
    refine awp_skip ?_
    refine awp_seq ?_
    refine awp_block ?_
    refine awp_seq ?_
    refine awp_region ?_
    refine aR 2 ?_
    refine aE ?_
    refine awp_seq ?_
    refine awp_to (st' := base_Unmarked_x2_I qs vx) (oT [] []) ?_
    refine bE hF fun vx2_1 h4 hF => ?_
    refine awp_sub (base_Unmarked_x2_ok qs vx h4) ?_
    refine cE hF (fun h5 hF => ?_) fun h5 hF => ?_
    · refine awp_true (by kernel_rfl) h5 ?_
      refine awp_seq ?_
      refine awp_region ?_
      refine aR 1 ?_
      refine aE ?_
      refine awp_ret ?_
      exact oO hF [] [] rfl
    · refine awp_false (by kernel_rfl) h5 ?_
      refine awp_skip ?_
      refine awp_region ?_
      refine aR 2 ?_
      refine aE ?_
      exact oO hF [] [] rfl
  · refine awp_false (by kernel_rfl) h1 ?_
    refine awp_exit ?_
    exact oO hF [] [] rfl

def base_Unmarked_R (qs : List UInt8) (r : Bool) : TV × Mem := (.v (.one (.d (.bool r))), ⟨[], []⟩)

theorem base_Unmarked_ok {qs : List UInt8} {r} (hF : base_Unmarked qs = some r) : Holds prog 47 [.v (.one (.d (.str qs)))] ⟨[], []⟩ (Is (base_Unmarked_R qs r)) := by
  unfold base_Unmarked at hF
  refine holds_of_awp hΓ (fn := f47) (c := cB f47) (A := 0) (nx := 0) (by kernel_rfl) (by kernel_rfl) (by kernel_rfl) (by kernel_rfl) (by kernel_rfl) (by kernel_rfl) (lowc_of (by kernel_rfl)) ?_
  show Awp prog 0 22 (cB f47) _ _
  refine awp_seq ?_
  refine awp_region ?_
  refine aR 1 ?_
  refine aE ?_
  refine awp_seq ?_
  refine awp_seq ?_
  refine awp_region ?_
  refine aR 3 ?_
  refine aE ?_
  refine awp_block ?_
  refine awp_to (st' := base_Unmarked_x1_H qs 0) (oT [] []) ?_
  refine bE hF fun x h6 hF => ?_
  rcases x with _ | _
  · refine awp_sub (awp_loop' (base_Unmarked_x1_H qs) base_Unmarked_x1_k (base_Unmarked_x1_S qs) (by intro x; rcases x with x | x <;> exact fun h => nomatch h) h6 (base_Unmarked_x1_ok qs)) ?_
    refine awp_seq ?_
    refine bE hF fun vr h7 hF => ?_
    refine awp_region ?_
    refine aR 1 ?_
    refine aC (utf8_ValidString_ok h7) [] [] [] ?_
    refine aR 1 ?_
    refine aE ?_
    refine awp_ret ?_
    exact oF hF [] []
  · refine awp_sub (awp_loop' (base_Unmarked_x1_H qs) base_Unmarked_x1_k (base_Unmarked_x1_S qs) (by intro x; rcases x with x | x <;> exact fun h => nomatch h) h6 (base_Unmarked_x1_ok qs)) ?_
    exact oF hF [] []

/-! ### beaconfleet/base.Out -/
def base_Out_x1_k : Bool → AEx
  | _ => .normal

def base_Out_x1_S (qn : Int) (qlow : Int) (qhigh : Int) : Bool → St
  | vx => Mem.st ⟨[], []⟩ (tl [(6, .v (.one (.d (.bool vx))))]) 0

def base_Out_x1_I (qn : Int) (qlow : Int) (qhigh : Int) : St := Mem.st ⟨[], []⟩ (tl [(0, .v (.one (.d (.int .i64 qn)))), (1, .v (.one (.d (.int .i64 qlow)))), (2, .v (.one (.d (.int .i64 qhigh))))]) 0

theorem base_Out_x1_ok (qn : Int) (qlow : Int) (qhigh : Int) {r} (hF : base_Out_x1 qn qlow qhigh = some r) : Awp prog 0 15 (cL (cR (cB f27))) (Out 0 base_Out_x1_k (base_Out_x1_S qn qlow qhigh) r) (base_Out_x1_I qn qlow qhigh) := by
  unfold base_Out_x1 at hF
  refine cE hF (fun h1 hF => ?_) fun h1 hF => ?_
  · refine awp_region ?_
    refine aR 2 ?_
    refine aB h1 ?_
    refine aR 6 ?_
    refine aE ?_
    exact oO hF [] [] rfl
  · refine awp_region ?_
    refine aR 2 ?_
    refine aB h1 ?_
    refine aR 6 ?_
    refine aE ?_
    exact oO hF [] [] rfl

def base_Out_R (qn : Int) (qlow : Int) (qhigh : Int) (r : Bool) : TV × Mem := (.v (.one (.d (.bool r))), ⟨[], []⟩)

theorem base_Out_ok {qn : Int} {qlow : Int} {qhigh : Int} {r} (hF : base_Out qn qlow qhigh = some r) : Holds prog 27 [.v (.one (.d (.int .i64 qn))), .v (.one (.d (.int .i64 qlow))), .v (.one (.d (.int .i64 qhigh)))] ⟨[], []⟩ (Is (base_Out_R qn qlow qhigh r)) := by
  unfold base_Out at hF
  refine holds_of_awp hΓ (fn := f27) (c := cB f27) (A := 0) (nx := 0) (by kernel_rfl) (by kernel_rfl) (by kernel_rfl) (by kernel_rfl) (by kernel_rfl) (by kernel_rfl) (lowc_of (by kernel_rfl)) ?_
  show Awp prog 0 15 (cB f27) _ _
  refine awp_seq ?_
  refine awp_region ?_
  refine aR 1 ?_
  refine aE ?_
  refine awp_seq ?_
  refine awp_to (st' := base_Out_x1_I qn qlow qhigh) (oT [] []) ?_
  refine bE hF fun vx1 h2 hF => ?_
  refine awp_sub (base_Out_x1_ok qn qlow qhigh h2) ?_
  refine awp_ret ?_
  exact oF hF [] []

/-! ### beaconfleet/base.Moment -/
def base_Moment_R (qn : Int) (r : Bool) : TV × Mem := (.v (.one (.d (.bool r))), ⟨[], []⟩)

theorem base_Moment_ok {qn : Int} {r} (hF : base_Moment qn = some r) : Holds prog 28 [.v (.one (.d (.int .i64 qn)))] ⟨[], []⟩ (Is (base_Moment_R qn r)) := by
  unfold base_Moment at hF
  refine holds_of_awp hΓ (fn := f28) (c := cB f28) (A := 0) (nx := 0) (by kernel_rfl) (by kernel_rfl) (by kernel_rfl) (by kernel_rfl) (by kernel_rfl) (by kernel_rfl) (lowc_of (by kernel_rfl)) ?_
  show Awp prog 0 6 (cB f28) _ _
  refine awp_seq ?_
  refine awp_region ?_
  refine aR 1 ?_
  refine aE ?_
  refine awp_seq ?_
  refine bE hF fun vr h1 hF => ?_
  refine awp_region ?_
  refine aR 1 ?_
  refine aC (base_Out_ok h1) [] [] [] ?_
  refine aR 2 ?_
  refine aE ?_
  refine awp_ret ?_
  exact oF hF [] []

/-! ### beaconfleet/command.CheckLetter -/
def command_CheckLetter_x1_k : Bool → AEx
  | _ => .normal

def command_CheckLetter_x1_S (ql : api_Letter) : Bool → St
  | vx => Mem.st ⟨[], [(0, [.d (.str ql.Id), .d (.str ql.Slot), .d (.str ql.Body), .d (.int .i64 ql.Prio), .d (.int .i64 ql.At), .d (.int .i64 ql.Until)])]⟩ (tl [(1, .v (.one (.box 0 0))), (3, .v (.one (.d (.bool vx))))]) 1

def command_CheckLetter_x1_I (ql : api_Letter) : St := Mem.st ⟨[], [(0, [.d (.str ql.Id), .d (.str ql.Slot), .d (.str ql.Body), .d (.int .i64 ql.Prio), .d (.int .i64 ql.At), .d (.int .i64 ql.Until)])]⟩ (tl [(1, .v (.one (.box 0 0)))]) 1

theorem command_CheckLetter_x1_ok (ql : api_Letter) {r} (hF : command_CheckLetter_x1 ql = some r) : Awp prog 0 51 (cL (cL (cL (cR (cB f26))))) (Out 0 command_CheckLetter_x1_k (command_CheckLetter_x1_S ql) r) (command_CheckLetter_x1_I ql) := by
  unfold command_CheckLetter_x1 at hF
  refine bE hF fun vr h1 hF => ?_
  refine cE hF (fun h2 hF => ?_) fun h2 hF => ?_
  · refine awp_region ?_
    refine aR 2 ?_
    refine aC (base_Key_ok h1) [] [] [] ?_
    refine aB h2 ?_
    refine aR 12 ?_
    refine aE ?_
    exact oO hF [] [] rfl
  · refine cE hF (fun h3 hF => ?_) fun h3 hF => ?_
    · refine bE hF fun vr1 h4 hF => ?_
      refine awp_region ?_
      refine aR 2 ?_
      refine aC (base_Key_ok h1) [] [] [] ?_
      refine aB h2 ?_
      refine aR 3 ?_
      refine aB h3 ?_
      refine aR 3 ?_
      refine aC (base_Key_ok h4) [] [] [] ?_
      refine aR 4 ?_
      refine aE ?_
      exact oO hF [] [] rfl
    · refine awp_region ?_
      refine aR 2 ?_
      refine aC (base_Key_ok h1) [] [] [] ?_
      refine aB h2 ?_
      refine aR 3 ?_
      refine aB h3 ?_
      refine aR 8 ?_
      refine aE ?_
      exact oO hF [] [] rfl

def command_CheckLetter_x2_k : Bool → AEx
  | _ => .normal

def command_CheckLetter_x2_S (ql : api_Letter) : Bool → St
  | vx2 => Mem.st ⟨[], []⟩ (tl [(29, .v (.one (.d (.bool vx2))))]) 0

def command_CheckLetter_x2_I (ql : api_Letter) : St := Mem.st ⟨[], [(0, [.d (.str ql.Id), .d (.str ql.Slot), .d (.str ql.Body), .d (.int .i64 ql.Prio), .d (.int .i64 ql.At), .d (.int .i64 ql.Until)])]⟩ (tl [(1, .v (.one (.box 0 0)))]) 1

theorem command_CheckLetter_x2_ok (ql : api_Letter) {r} (hF : command_CheckLetter_x2 ql = some r) : Awp prog 0 51 (cL (cR (cR (cR (cR (cR (cR (cL (cL (cR (cB f26))))))))))) (Out 0 command_CheckLetter_x2_k (command_CheckLetter_x2_S ql) r) (command_CheckLetter_x2_I ql) := by
  unfold command_CheckLetter_x2 at hF
  refine bE hF fun vr2 h10 hF => ?_
  refine cE hF (fun h11 hF => ?_) fun h11 hF => ?_
  · refine awp_region ?_
    refine aR 2 ?_
    refine aCb (base_Out_ok h10) [] [] [] h11 ?_
    refine aR 19 ?_
    refine aE ?_
    exact oO hF [] [] rfl
  · refine bE hF fun vr1_2 h12 hF => ?_
    refine cE hF (fun h13 hF => ?_) fun h13 hF => ?_
    · refine awp_region ?_
      refine aR 2 ?_
      refine aCb (base_Out_ok h10) [] [] [] h11 ?_
      refine aR 3 ?_
      refine aC (base_Moment_ok h12) [] [] [] ?_
      refine aB h13 ?_
      refine aR 14 ?_
      refine aE ?_
      exact oO hF [] [] rfl
    · refine cE hF (fun h14 hF => ?_) fun h14 hF => ?_
      · refine awp_region ?_
        refine aR 2 ?_
        refine aCb (base_Out_ok h10) [] [] [] h11 ?_
        refine aR 3 ?_
        refine aC (base_Moment_ok h12) [] [] [] ?_
        refine aB h13 ?_
        refine aR 6 ?_
        refine aB h14 ?_
        refine aR 7 ?_
        refine aE ?_
        exact oO hF [] [] rfl
      · refine awp_region ?_
        refine aR 2 ?_
        refine aCb (base_Out_ok h10) [] [] [] h11 ?_
        refine aR 3 ?_
        refine aC (base_Moment_ok h12) [] [] [] ?_
        refine aB h13 ?_
        refine aR 6 ?_
        refine aB h14 ?_
        refine aR 7 ?_
        refine aE ?_
        exact oO hF [] [] rfl

def command_CheckLetter_R (ql : api_Letter) (r : Int) : TV × Mem := (.v (.one (.d (.int .i64 r))), ⟨[], []⟩)

theorem command_CheckLetter_ok {ql : api_Letter} {r} (hF : command_CheckLetter ql = some r) : Holds prog 26 [.v (.agg [.d (.str ql.Id), .d (.str ql.Slot), .d (.str ql.Body), .d (.int .i64 ql.Prio), .d (.int .i64 ql.At), .d (.int .i64 ql.Until)])] ⟨[], []⟩ (Is (command_CheckLetter_R ql r)) := by
  unfold command_CheckLetter at hF
  refine holds_of_awp hΓ (fn := f26) (c := cB f26) (A := 0) (nx := 0) (by kernel_rfl) (by kernel_rfl) (by kernel_rfl) (by kernel_rfl) (by kernel_rfl) (by kernel_rfl) (lowc_of (by kernel_rfl)) ?_
  show Awp prog 0 51 (cB f26) _ _
  refine awp_seq ?_
  refine awp_region ?_
  refine aR 2 ?_
  refine aE ?_
  refine awp_seq ?_
  refine awp_block ?_
  refine awp_seq ?_
  refine awp_to (st' := command_CheckLetter_x1_I ql) (oT [] []) ?_
  refine bE hF fun vx1 h5 hF => ?_
  refine awp_sub (command_CheckLetter_x1_ok ql h5) ?_
  refine cE hF (fun h6 hF => ?_) fun h6 hF => ?_
  · refine awp_true (by kernel_rfl) h6 ?_
    refine awp_seq ?_
    refine awp_region ?_
    refine aR 1 ?_
    refine aE ?_
    refine awp_ret ?_
    exact oF hF [] []
  · refine awp_false (by kernel_rfl) h6 ?_
    refine awp_seq ?_
    refine awp_region ?_
    refine aR 5 ?_
    refine aE ?_
    refine cE hF (fun h7 hF => ?_) fun h7 hF => ?_
    · refine awp_true (by kernel_rfl) h7 ?_
      refine awp_seq ?_
      refine awp_region ?_
      refine aR 1 ?_
      refine aE ?_
      refine awp_ret ?_
      exact oF hF [] []
    · refine awp_false (by kernel_rfl) h7 ?_
      refine awp_seq ?_
      refine bE hF fun vr1_1 h8 hF => ?_
      refine awp_region ?_
      refine aR 2 ?_
      refine aC (base_Unmarked_ok h8) [] [] [] ?_
      refine aR 2 ?_
      refine aE ?_
      refine cE hF (fun h9 hF => ?_) fun h9 hF => ?_
      · refine awp_true (by kernel_rfl) h9 ?_
        refine awp_seq ?_
        refine awp_region ?_
        refine aR 1 ?_
        refine aE ?_
        refine awp_ret ?_
        exact oF hF [] []
      · refine awp_false (by kernel_rfl) h9 ?_
        refine awp_seq ?_
        refine awp_to (st' := command_CheckLetter_x2_I ql) (oT [] []) ?_
        refine bE hF fun vx2_1 h15 hF => ?_
        refine awp_sub (command_CheckLetter_x2_ok ql h15) ?_
        refine cE hF (fun h16 hF => ?_) fun h16 hF => ?_
        · refine awp_true (by kernel_rfl) h16 ?_
          refine awp_seq ?_
          refine awp_region ?_
          refine aR 1 ?_
          refine aE ?_
          refine awp_ret ?_
          exact oF hF [] []
        · refine awp_false (by kernel_rfl) h16 ?_
          refine awp_skip ?_
          refine awp_seq ?_
          refine awp_region ?_
          refine aR 1 ?_
          refine aE ?_
          refine awp_ret ?_
          exact oF hF [] []

/-! ### beaconfleet/command.CheckNotes -/
def command_CheckNotes_x2_k : Bool → AEx
  | _ => .normal

def command_CheckNotes_x2_S (ql : List api_Note) (vx : Int) (vy2 : api_Note) : Bool → St
  | vx3 => Mem.st ⟨[], [(0, [.d (.str vy2.Letter.Id), .d (.str vy2.Letter.Slot), .d (.str vy2.Letter.Body), .d (.int .i64 vy2.Letter.Prio), .d (.int .i64 vy2.Letter.At), .d (.int .i64 vy2.Letter.Until), .d (.int .i64 vy2.State), .d (.int .i64 vy2.Tries), .d (.int .i64 vy2.Since)])]⟩ (tl [(0, .v (.one (.d (.lst (List.map api_Note.enc ql))))), (3, .v (.one (.d (.int .i64 vx)))), (4, .v (.one (.box 0 0))), (9, .v (.one (.d (.lst (List.map api_Note.enc ql))))), (10, .v (.one (.d (.int .i64 (ql.length : Int))))), (11, .v (.one (.d (.int .i64 vx)))), (26, .v (.one (.d (.bool vx3))))]) 1

def command_CheckNotes_x2_I (ql : List api_Note) (vx : Int) (vy2 : api_Note) : St := Mem.st ⟨[], [(0, [.d (.str vy2.Letter.Id), .d (.str vy2.Letter.Slot), .d (.str vy2.Letter.Body), .d (.int .i64 vy2.Letter.Prio), .d (.int .i64 vy2.Letter.At), .d (.int .i64 vy2.Letter.Until), .d (.int .i64 vy2.State), .d (.int .i64 vy2.Tries), .d (.int .i64 vy2.Since)])]⟩ (tl [(0, .v (.one (.d (.lst (List.map api_Note.enc ql))))), (3, .v (.one (.d (.int .i64 vx)))), (4, .v (.one (.box 0 0))), (9, .v (.one (.d (.lst (List.map api_Note.enc ql))))), (10, .v (.one (.d (.int .i64 (ql.length : Int))))), (11, .v (.one (.d (.int .i64 vx))))]) 1

theorem command_CheckNotes_x2_ok (ql : List api_Note) (vx : Int) (vy2 : api_Note) {r} (hF : command_CheckNotes_x2 vy2 = some r) : Awp prog 0 53 (cL (cR (cR (cL (cR (cR (cL (cL (cR (cR (cL (cL (cR (cL (cR (cR (cB f11))))))))))))))))) (Out 0 command_CheckNotes_x2_k (command_CheckNotes_x2_S ql vx vy2) r) (command_CheckNotes_x2_I ql vx vy2) := by
  unfold command_CheckNotes_x2 at hF
  refine bE hF fun vr4 h8 hF => ?_
  refine cE hF (fun h9 hF => ?_) fun h9 hF => ?_
  · refine awp_region ?_
    refine aR 2 ?_
    refine aCb (base_Out_ok h8) [] [] [] h9 ?_
    refine aR 7 ?_
    refine aE ?_
    exact oO hF [] [] rfl
  · refine bE hF fun vr1_2 h10 hF => ?_
    refine awp_region ?_
    refine aR 2 ?_
    refine aCb (base_Out_ok h8) [] [] [] h9 ?_
    refine aR 3 ?_
    refine aC (base_Moment_ok h10) [] [] [] ?_
    refine aR 3 ?_
    refine aE ?_
    exact oO hF [] [] rfl

def command_CheckNotes_x3_k : Bool → AEx
  | _ => .normal

def command_CheckNotes_x3_S (ql : List api_Note) (vx : Int) (vy2 : api_Note) : Bool → St
  | vx4 => Mem.st ⟨[], []⟩ (tl [(0, .v (.one (.d (.lst (List.map api_Note.enc ql))))), (9, .v (.one (.d (.lst (List.map api_Note.enc ql))))), (10, .v (.one (.d (.int .i64 (ql.length : Int))))), (11, .v (.one (.d (.int .i64 vx)))), (36, .v (.one (.d (.bool vx4))))]) 0

def command_CheckNotes_x3_I (ql : List api_Note) (vx : Int) (vy2 : api_Note) : St := Mem.st ⟨[], [(0, [.d (.str vy2.Letter.Id), .d (.str vy2.Letter.Slot), .d (.str vy2.Letter.Body), .d (.int .i64 vy2.Letter.Prio), .d (.int .i64 vy2.Letter.At), .d (.int .i64 vy2.Letter.Until), .d (.int .i64 vy2.State), .d (.int .i64 vy2.Tries), .d (.int .i64 vy2.Since)])]⟩ (tl [(0, .v (.one (.d (.lst (List.map api_Note.enc ql))))), (3, .v (.one (.d (.int .i64 vx)))), (4, .v (.one (.box 0 0))), (9, .v (.one (.d (.lst (List.map api_Note.enc ql))))), (10, .v (.one (.d (.int .i64 (ql.length : Int))))), (11, .v (.one (.d (.int .i64 vx))))]) 1

theorem command_CheckNotes_x3_ok (ql : List api_Note) (vx : Int) (vy2 : api_Note) {r} (hF : command_CheckNotes_x3 ql vx vy2 = some r) : Awp prog 0 53 (cL (cR (cR (cR (cR (cL (cR (cR (cL (cL (cR (cR (cL (cL (cR (cL (cR (cR (cB f11))))))))))))))))))) (Out 0 command_CheckNotes_x3_k (command_CheckNotes_x3_S ql vx vy2) r) (command_CheckNotes_x3_I ql vx vy2) := by
  unfold command_CheckNotes_x3 at hF
  refine cE hF (fun h13 hF => ?_) fun h13 hF => ?_
  · refine bE hF fun vy3 h14 hF => ?_
    refine aD ?_
    refine dR 1 ?_
    refine dB h13 ?_
    refine dR 7 ?_
    refine dX (x_idx api_Note.enc h14) ?_
    refine dR 6 ?_
    refine dE ?_
    exact oO hF [] [] rfl
  · refine aD ?_
    refine dR 1 ?_
    refine dB h13 ?_
    refine dR 14 ?_
    refine dE ?_
    exact oO hF [] [] rfl

def command_CheckNotes_x1_k : Unit ⊕ Int → AEx
  | .inl _ => .exit 0
  | .inr _ => .ret

def command_CheckNotes_x1_S (ql : List api_Note) : Unit ⊕ Int → St
  | .inl _ => Mem.st ⟨[], []⟩ (tl []) 0
  | .inr vx5 => Mem.st ⟨[], []⟩ (tl [(2, .v (.one (.d (.int .i64 vx5))))]) 0

def command_CheckNotes_x1_H (ql : List api_Note) : Int → St
  | vx => Mem.st ⟨[], []⟩ (tl [(0, .v (.one (.d (.lst (List.map api_Note.enc ql))))), (9, .v (.one (.d (.lst (List.map api_Note.enc ql))))), (10, .v (.one (.d (.int .i64 (ql.length : Int))))), (11, .v (.one (.d (.int .i64 vx))))]) 0

theorem command_CheckNotes_x1_ok (ql : List api_Note) (vx : Int) (r : (Int) ⊕ (Unit ⊕ Int)) (hF : command_CheckNotes_x1 ql vx = some r) : Awp prog 0 53 (cL (cL (cR (cL (cR (cR (cB f11))))))) (Out 0 (kk command_CheckNotes_x1_k) (SS (command_CheckNotes_x1_H ql) (command_CheckNotes_x1_S ql)) r) (command_CheckNotes_x1_H ql vx) := by
  unfold command_CheckNotes_x1 at hF
  refine awp_seq ?_
  refine awp_region ?_
  refine aR 1 ?_
  refine aE ?_
  refine awp_seq ?_
  refine cE hF (fun h2 hF => ?_) fun h2 hF => ?_
  · refine awp_true (by kernel_rfl) h2 ?_
    refine awp_skip ?_
    refine awp_seq ?_
    refine awp_block ?_
    refine awp_seq ?_
    refine bE hF fun vy2 h3 hF => ?_
    refine awp_region ?_
    refine aR 1 ?_
    refine aX (x_idx api_Note.enc h3) ?_
    refine aR 4 ?_
    refine aE ?_
    refine awp_seq ?_
    refine awp_seq ?_
    refine bE hF fun vr3_1 h4 hF => ?_
    refine awp_region ?_
    refine aR 2 ?_
    refine aC (command_CheckLetter_ok h4) [] [] [] ?_
    refine aR 1 ?_
    refine aE ?_
    refine awp_seq ?_
    refine awp_region ?_
    refine aR 2 ?_
    refine aE ?_
    refine cE hF (fun h5 hF => ?_) fun h5 hF => ?_
    · refine awp_true (by kernel_rfl) h5 ?_
      refine awp_seq ?_
      refine awp_region ?_
      refine aR 2 ?_
      refine aE ?_
      refine awp_ret ?_
      exact oO hF [] [] rfl
    · refine awp_false (by kernel_rfl) h5 ?_
      refine awp_skip ?_
      refine awp_block ?_
      refine awp_seq ?_
      refine bE hF fun vr2 h6 hF => ?_
      refine awp_region ?_
      refine aR 2 ?_
      refine aC (base_Out_ok h6) [] [] [] ?_
      refine aR 1 ?_
      refine aE ?_
      refine cE hF (fun h7 hF => ?_) fun h7 hF => ?_
      · refine awp_true (by kernel_rfl) h7 ?_
        refine awp_seq ?_
        refine awp_region ?_
        refine aR 1 ?_
        refine aE ?_
        refine awp_ret ?_
        exact oO hF [] [] rfl
      · refine awp_false (by kernel_rfl) h7 ?_
        refine awp_seq ?_
        refine awp_to (st' := command_CheckNotes_x2_I ql vx vy2) (oT [(0, 4000)] []) ?_
        refine bE hF fun vx3_1 h11 hF => ?_
        refine awp_sub (command_CheckNotes_x2_ok ql vx vy2 h11) ?_
        refine cE hF (fun h12 hF => ?_) fun h12 hF => ?_
        · refine awp_true (by kernel_rfl) h12 ?_
          refine awp_seq ?_
          refine awp_region ?_
          refine aR 1 ?_
          refine aE ?_
          refine awp_ret ?_
          exact oO hF [] [] rfl
        · refine awp_false (by kernel_rfl) h12 ?_
          refine awp_seq ?_
          refine awp_to (st' := command_CheckNotes_x3_I ql vx vy2) (oT [] []) ?_
          refine bE hF fun vx4_1 h15 hF => ?_
          refine awp_sub (command_CheckNotes_x3_ok ql vx vy2 h15) ?_
          refine cE hF (fun h16 hF => ?_) fun h16 hF => ?_
          · refine awp_true (by kernel_rfl) h16 ?_
            refine awp_seq ?_
            refine awp_region ?_
            refine aR 1 ?_
            refine aE ?_
            refine awp_ret ?_
            exact oO hF [] [] rfl
          · refine awp_false (by kernel_rfl) h16 ?_
            refine awp_skip ?_
            refine awp_region ?_
            refine aR 2 ?_
            refine aE ?_
            exact oO hF [] [] rfl
  · refine awp_false (by kernel_rfl) h2 ?_
    refine awp_exit ?_
    exact oO hF [] [] rfl

def command_CheckNotes_R (ql : List api_Note) (r : Int) : TV × Mem := (.v (.one (.d (.int .i64 r))), ⟨[], []⟩)

theorem command_CheckNotes_ok {ql : List api_Note} {r} (hF : command_CheckNotes ql = some r) : Holds prog 11 [.v (.one (.d (.lst (List.map api_Note.enc ql))))] ⟨[], []⟩ (Is (command_CheckNotes_R ql r)) := by
  unfold command_CheckNotes at hF
  refine holds_of_awp hΓ (fn := f11) (c := cB f11) (A := 0) (nx := 0) (by kernel_rfl) (by kernel_rfl) (by kernel_rfl) (by kernel_rfl) (by kernel_rfl) (by kernel_rfl) (lowc_of (by kernel_rfl)) ?_
  show Awp prog 0 53 (cB f11) _ _
  refine awp_seq ?_
  refine awp_region ?_
  refine aR 1 ?_
  refine aE ?_
  refine awp_seq ?_
  refine awp_seq ?_
  refine awp_region ?_
  refine aR 1 ?_
  refine aL api_Note.enc ql ?_
  refine aR 1 ?_
  refine aE ?_
  refine cE hF (fun h1 hF => ?_) fun h1 hF => ?_
  · refine awp_true (by kernel_rfl) h1 ?_
    refine awp_seq ?_
    refine awp_region ?_
    refine aR 1 ?_
    refine aE ?_
    refine awp_ret ?_
    exact oF hF [] []
  · refine awp_false (by kernel_rfl) h1 ?_
    refine awp_skip ?_
    refine awp_seq ?_
    refine awp_seq ?_
    refine awp_region ?_
    refine aR 1 ?_
    refine aL api_Note.enc ql ?_
    refine aR 1 ?_
    refine aE ?_
    refine awp_block ?_
    refine awp_to (st' := command_CheckNotes_x1_H ql 0) (oT [] []) ?_
    refine bE hF fun x h17 hF => ?_
    rcases x with _ | vx5_1
    · refine awp_sub (awp_loop' (command_CheckNotes_x1_H ql) command_CheckNotes_x1_k (command_CheckNotes_x1_S ql) (by intro x; rcases x with x | x <;> exact fun h => nomatch h) h17 (command_CheckNotes_x1_ok ql)) ?_
      refine awp_seq ?_
      refine awp_region ?_
      refine aR 1 ?_
      refine aE ?_
      refine awp_ret ?_
      exact oF hF [] []
    · refine awp_sub (awp_loop' (command_CheckNotes_x1_H ql) command_CheckNotes_x1_k (command_CheckNotes_x1_S ql) (by intro x; rcases x with x | x <;> exact fun h => nomatch h) h17 (command_CheckNotes_x1_ok ql)) ?_
      exact oF hF [] []

/-! ### beaconfleet/base.First -/
def base_First_x1_k : Unit ⊕ Int → AEx
  | .inl _ => .exit 0
  | .inr _ => .ret

def base_First_x1_S (ql : List Int) : Unit ⊕ Int → St
  | .inl _ => Mem.st ⟨[], []⟩ (tl []) 0
  | .inr vx1 => Mem.st ⟨[], []⟩ (tl [(2, .v (.one (.d (.int .i64 vx1))))]) 0

def base_First_x1_H (ql : List Int) : Int → St
  | vx => Mem.st ⟨[], []⟩ (tl [(5, .v (.one (.d (.lst (List.map (encI .i64) ql))))), (6, .v (.one (.d (.int .i64 (ql.length : Int))))), (7, .v (.one (.d (.int .i64 vx))))]) 0

theorem base_First_x1_ok (ql : List Int) (vx : Int) (r : (Int) ⊕ (Unit ⊕ Int)) (hF : base_First_x1 ql vx = some r) : Awp prog 0 15 (cL (cL (cR (cL (cR (cB f19)))))) (Out 0 (kk base_First_x1_k) (SS (base_First_x1_H ql) (base_First_x1_S ql)) r) (base_First_x1_H ql vx) := by
  unfold base_First_x1 at hF
  refine awp_seq ?_
  refine awp_region ?_
  refine aR 1 ?_
  refine aE ?_
  refine awp_seq ?_
  refine cE hF (fun h1 hF => ?_) fun h1 hF => ?_
  · refine awp_true (by kernel_rfl) h1 ?_
    refine awp_skip ?_
    refine awp_seq ?_
    refine awp_block ?_
    refine awp_seq ?_
    refine bE hF fun vy1 h2 hF => ?_
    refine awp_region ?_
    refine aX (x_idx (encI .i64) h2) ?_
    refine aR 2 ?_
    refine aE ?_
    refine awp_seq ?_
    refine awp_region ?_
    refine aR 2 ?_
    refine aE ?_
    refine cE hF (fun h3 hF => ?_) fun h3 hF => ?_
    · refine awp_true (by kernel_rfl) h3 ?_
      refine awp_seq ?_
      refine awp_region ?_
      refine aR 2 ?_
      refine aE ?_
      refine awp_ret ?_
      exact oO hF [] [] rfl
    · refine awp_false (by kernel_rfl) h3 ?_
      refine awp_skip ?_
      refine awp_region ?_
      refine aR 2 ?_
      refine aE ?_
      exact oO hF [] [] rfl
  · refine awp_false (by kernel_rfl) h1 ?_
    refine awp_exit ?_
    exact oO hF [] [] rfl

def base_First_R (ql : List Int) (r : Int) : TV × Mem := (.v (.one (.d (.int .i64 r))), ⟨[], []⟩)

theorem base_First_ok {ql : List Int} {r} (hF : base_First ql = some r) : Holds prog 19 [.v (.one (.d (.lst (List.map (encI .i64) ql))))] ⟨[], []⟩ (Is (base_First_R ql r)) := by
  unfold base_First at hF
  refine holds_of_awp hΓ (fn := f19) (c := cB f19) (A := 0) (nx := 0) (by kernel_rfl) (by kernel_rfl) (by kernel_rfl) (by kernel_rfl) (by kernel_rfl) (by kernel_rfl) (lowc_of (by kernel_rfl)) ?_
  show Awp prog 0 15 (cB f19) _ _
  refine awp_seq ?_
  refine awp_region ?_
  refine aR 1 ?_
  refine aE ?_
  refine awp_seq ?_
  refine awp_seq ?_
  refine awp_region ?_
  refine aR 1 ?_
  refine aL (encI .i64) ql ?_
  refine aR 1 ?_
  refine aE ?_
  refine awp_block ?_
  refine awp_to (st' := base_First_x1_H ql 0) (oT [] []) ?_
  refine bE hF fun x h4 hF => ?_
  rcases x with _ | vx1_1
  · refine awp_sub (awp_loop' (base_First_x1_H ql) base_First_x1_k (base_First_x1_S ql) (by intro x; rcases x with x | x <;> exact fun h => nomatch h) h4 (base_First_x1_ok ql)) ?_
    refine awp_seq ?_
    refine awp_region ?_
    refine aR 1 ?_
    refine aE ?_
    refine awp_ret ?_
    exact oF hF [] []
  · refine awp_sub (awp_loop' (base_First_x1_H ql) base_First_x1_k (base_First_x1_S ql) (by intro x; rcases x with x | x <;> exact fun h => nomatch h) h4 (base_First_x1_ok ql)) ?_
    exact oF hF [] []

/-! ### internal/bytealg.CompareString -/
def bytealg_CompareString_R (qa : List UInt8) (qb : List UInt8) (r : Unit) : TV × Mem := (.v (.one (.d (.int .i64 (Lib.compareBytes qa qb)))), ⟨[], []⟩)

theorem bytealg_CompareString_ok {qa : List UInt8} {qb : List UInt8} {r} (hF : bytealg_CompareString qa qb = some r) : Holds prog 39 [.v (.one (.d (.str qa))), .v (.one (.d (.str qb)))] ⟨[], []⟩ (Is (bytealg_CompareString_R qa qb r)) := by
  unfold bytealg_CompareString at hF
  refine holds_of_awp hΓ (fn := f39) (c := cB f39) (A := 0) (nx := 0) (by kernel_rfl) (by kernel_rfl) (by kernel_rfl) (by kernel_rfl) (by kernel_rfl) (by kernel_rfl) (lowc_of (by kernel_rfl)) ?_
  show Awp prog 0 8 (cB f39) _ _
  refine awp_seq ?_
  refine awp_region ?_
  refine aR 1 ?_
  refine aE ?_
  refine awp_seq ?_
  refine awp_region ?_
  refine aR 2 ?_
  refine aS (does_cmpstring (g := 55) (fn := f55) (a := qa) (b := qb) rfl (by kernel_rfl) (by kernel_rfl) (by kernel_rfl) (by kernel_rfl) (by kernel_rfl) (by kernel_rfl)) ?_
  refine aR 1 ?_
  refine aE ?_
  refine awp_ret ?_
  exact oF hF [] []

/-! ### strings.Compare -/
def strings_Compare_R (qa : List UInt8) (qb : List UInt8) (r : Unit) : TV × Mem := (.v (.one (.d (.int .i64 (Lib.compareBytes qa qb)))), ⟨[], []⟩)

theorem strings_Compare_ok {qa : List UInt8} {qb : List UInt8} {r} (hF : strings_Compare qa qb = some r) : Holds prog 20 [.v (.one (.d (.str qa))), .v (.one (.d (.str qb)))] ⟨[], []⟩ (Is (strings_Compare_R qa qb r)) := by
  unfold strings_Compare at hF
  refine holds_of_awp hΓ (fn := f20) (c := cB f20) (A := 0) (nx := 0) (by kernel_rfl) (by kernel_rfl) (by kernel_rfl) (by kernel_rfl) (by kernel_rfl) (by kernel_rfl) (lowc_of (by kernel_rfl)) ?_
  show Awp prog 0 8 (cB f20) _ _
  refine awp_seq ?_
  refine awp_region ?_
  refine aR 1 ?_
  refine aE ?_
  refine awp_seq ?_
  refine bE hF fun _ h1 hF => ?_
  refine awp_region ?_
  refine aR 2 ?_
  refine aC (bytealg_CompareString_ok h1) [] [] [] ?_
  refine aR 1 ?_
  refine aE ?_
  refine awp_ret ?_
  exact oF hF [] []

/-! ### slices.Index[[]int,int] -/
def slices_Index_int_int_x1_k : Unit ⊕ Int → AEx
  | .inl _ => .exit 0
  | .inr _ => .ret

def slices_Index_int_int_x1_S (qs : List Int) (qv : Int) : Unit ⊕ Int → St
  | .inl _ => Mem.st ⟨[], []⟩ (tl []) 0
  | .inr vx1 => Mem.st ⟨[], []⟩ (tl [(4, .v (.one (.d (.int .i64 vx1))))]) 0

def slices_Index_int_int_x1_H (qs : List Int) (qv : Int) : Int → St
  | vx => Mem.st ⟨[], []⟩ (tl [(0, .v (.one (.d (.lst (List.map (encI .i64) qs))))), (1, .v (.one (.d (.int .i64 qv)))), (7, .v (.one (.d (.int .i64 (qs.length : Int))))), (8, .v (.one (.d (.int .i64 vx))))]) 0

theorem slices_Index_int_int_x1_ok (qs : List Int) (qv : Int) (vx : Int) (r : (Int) ⊕ (Unit ⊕ Int)) (hF : slices_Index_int_int_x1 qs qv vx = some r) : Awp prog 0 19 (cL (cL (cR (cL (cR (cB f57)))))) (Out 0 (kk slices_Index_int_int_x1_k) (SS (slices_Index_int_int_x1_H qs qv) (slices_Index_int_int_x1_S qs qv)) r) (slices_Index_int_int_x1_H qs qv vx) := by
  unfold slices_Index_int_int_x1 at hF
  refine awp_seq ?_
  refine awp_region ?_
  refine aR 1 ?_
  refine aE ?_
  refine awp_seq ?_
  refine cE hF (fun h1 hF => ?_) fun h1 hF => ?_
  · refine awp_true (by kernel_rfl) h1 ?_
    refine awp_skip ?_
    refine awp_seq ?_
    refine awp_block ?_
    refine awp_seq ?_
    refine awp_region ?_
    refine aR 2 ?_
    refine aE ?_
    refine awp_seq ?_
    refine bE hF fun vy1 h2 hF => ?_
    refine awp_region ?_
    refine aR 3 ?_
    refine aX (x_idx (encI .i64) h2) ?_
    refine aR 2 ?_
    refine aE ?_
    refine cE hF (fun h3 hF => ?_) fun h3 hF => ?_
    · refine awp_true (by kernel_rfl) h3 ?_
      refine awp_seq ?_
      refine awp_region ?_
      refine aR 2 ?_
      refine aE ?_
      refine awp_ret ?_
      exact oO hF [] [] rfl
    · refine awp_false (by kernel_rfl) h3 ?_
      refine awp_skip ?_
      refine awp_region ?_
      refine aR 2 ?_
      refine aE ?_
      exact oO hF [] [] rfl
  · refine awp_false (by kernel_rfl) h1 ?_
    refine awp_exit ?_
    exact oO hF [] [] rfl

def slices_Index_int_int_R (qs : List Int) (qv : Int) (r : Int) : TV × Mem := (.v (.one (.d (.int .i64 r))), ⟨[], []⟩)

theorem slices_Index_int_int_ok {qs : List Int} {qv : Int} {r} (hF : slices_Index_int_int qs qv = some r) : Holds prog 57 [.v (.one (.d (.lst (List.map (encI .i64) qs)))), .v (.one (.d (.int .i64 qv)))] ⟨[], []⟩ (Is (slices_Index_int_int_R qs qv r)) := by
  unfold slices_Index_int_int at hF
  refine holds_of_awp hΓ (fn := f57) (c := cB f57) (A := 0) (nx := 0) (by kernel_rfl) (by kernel_rfl) (by kernel_rfl) (by kernel_rfl) (by kernel_rfl) (by kernel_rfl) (lowc_of (by kernel_rfl)) ?_
  show Awp prog 0 19 (cB f57) _ _
  refine awp_seq ?_
  refine awp_region ?_
  refine aR 1 ?_
  refine aE ?_
  refine awp_seq ?_
  refine awp_seq ?_
  refine awp_region ?_
  refine aR 1 ?_
  refine aL (encI .i64) qs ?_
  refine aR 1 ?_
  refine aE ?_
  refine awp_block ?_
  refine awp_to (st' := slices_Index_int_int_x1_H qs qv 0) (oT [] []) ?_
  refine bE hF fun x h4 hF => ?_
  rcases x with _ | vx1_1
  · refine awp_sub (awp_loop' (slices_Index_int_int_x1_H qs qv) slices_Index_int_int_x1_k (slices_Index_int_int_x1_S qs qv) (by intro x; rcases x with x | x <;> exact fun h => nomatch h) h4 (slices_Index_int_int_x1_ok qs qv)) ?_
    refine awp_seq ?_
    refine awp_region ?_
    refine aR 1 ?_
    refine aE ?_
    refine awp_ret ?_
    exact oF hF [] []
  · refine awp_sub (awp_loop' (slices_Index_int_int_x1_H qs qv) slices_Index_int_int_x1_k (slices_Index_int_int_x1_S qs qv) (by intro x; rcases x with x | x <;> exact fun h => nomatch h) h4 (slices_Index_int_int_x1_ok qs qv)) ?_
    exact oF hF [] []

/-! ### beaconfleet/command.rank -/
def command_rank_R (qstate : Int) (r : Int) : TV × Mem := (.v (.one (.d (.int .i64 r))), ⟨[], []⟩)

theorem command_rank_ok {qstate : Int} {r} (hF : command_rank qstate = some r) : Holds prog 42 [.v (.one (.d (.int .i64 qstate)))] ⟨[], []⟩ (Is (command_rank_R qstate r)) := by
  unfold command_rank at hF
  refine holds_of_awp hΓ (fn := f42) (c := cB f42) (A := 0) (nx := 0) (by kernel_rfl) (by kernel_rfl) (by kernel_rfl) (by kernel_rfl) (by kernel_rfl) (by kernel_rfl) (lowc_of (by kernel_rfl)) ?_
  show Awp prog 0 7 (cB f42) _ _
  refine awp_seq ?_
  refine awp_region ?_
  refine aR 1 ?_
  refine aE ?_
  refine awp_seq ?_
  refine bE hF fun vr h1 hF => ?_
  refine awp_region ?_
  refine aR 2 ?_
  refine aC (slices_Index_int_int_ok h1) [] [] [1000] ?_
  refine aR 2 ?_
  refine aE ?_
  refine awp_ret ?_
  exact oF hF [] []

/-! ### cmp.isNaN[int] -/
def cmp_isNaN_int_R (qx : Int) (r : Unit) : TV × Mem := (.v (.one (.d (.bool (!decide (qx = qx))))), ⟨[], []⟩)

theorem cmp_isNaN_int_ok {qx : Int} {r} (hF : cmp_isNaN_int qx = some r) : Holds prog 56 [.v (.one (.d (.int .i64 qx)))] ⟨[], []⟩ (Is (cmp_isNaN_int_R qx r)) := by
  unfold cmp_isNaN_int at hF
  refine holds_of_awp hΓ (fn := f56) (c := cB f56) (A := 0) (nx := 0) (by kernel_rfl) (by kernel_rfl) (by kernel_rfl) (by kernel_rfl) (by kernel_rfl) (by kernel_rfl) (lowc_of (by kernel_rfl)) ?_
  show Awp prog 0 6 (cB f56) _ _
  refine awp_seq ?_
  refine awp_region ?_
  refine aR 1 ?_
  refine aE ?_
  refine awp_seq ?_
  refine awp_region ?_
  refine aR 4 ?_
  refine aE ?_
  refine awp_ret ?_
  exact oF hF [] []

/-! ### cmp.Compare[int] -/
def cmp_Compare_int_R (qx : Int) (qy : Int) (r : Int) : TV × Mem := (.v (.one (.d (.int .i64 r))), ⟨[], []⟩)

theorem cmp_Compare_int_ok {qx : Int} {qy : Int} {r} (hF : cmp_Compare_int qx qy = some r) : Holds prog 41 [.v (.one (.d (.int .i64 qx))), .v (.one (.d (.int .i64 qy)))] ⟨[], []⟩ (Is (cmp_Compare_int_R qx qy r)) := by
  unfold cmp_Compare_int at hF
  refine holds_of_awp hΓ (fn := f41) (c := cB f41) (A := 0) (nx := 0) (by kernel_rfl) (by kernel_rfl) (by kernel_rfl) (by kernel_rfl) (by kernel_rfl) (by kernel_rfl) (lowc_of (by kernel_rfl)) ?_
  show Awp prog 0 20 (cB f41) _ _
  refine awp_seq ?_
  refine awp_region ?_
  refine aR 1 ?_
  refine aE ?_
  refine awp_seq ?_
  refine bE hF fun _ h1 hF => ?_
  refine awp_region ?_
  refine aR 1 ?_
  refine aC (cmp_isNaN_int_ok h1) [] [] [] ?_
  refine aR 1 ?_
  refine aE ?_
  refine awp_seq ?_
  refine bE hF fun _ h2 hF => ?_
  refine awp_region ?_
  refine aR 1 ?_
  refine aC (cmp_isNaN_int_ok h2) [] [] [] ?_
  refine aR 1 ?_
  refine aE ?_
  refine awp_seq ?_
  refine awp_seq ?_
  refine awp_region ?_
  refine aR 1 ?_
  refine aE ?_
  refine cE hF (fun h3 hF => ?_) fun h3 hF => ?_
  · refine awp_true (by kernel_rfl) h3 ?_
    refine awp_seq ?_
    refine awp_seq ?_
    refine awp_region ?_
    refine aR 1 ?_
    refine aE ?_
    refine cE hF (fun h4 hF => ?_) fun h4 hF => ?_
    · refine awp_true (by kernel_rfl) h4 ?_
      refine awp_seq ?_
      refine awp_region ?_
      refine aR 1 ?_
      refine aE ?_
      refine awp_ret ?_
      exact oF hF [] []
    · refine awp_false (by kernel_rfl) h4 ?_
      refine awp_skip ?_
      refine awp_seq ?_
      refine awp_region ?_
      refine aR 1 ?_
      refine aE ?_
      refine awp_ret ?_
      exact oF hF [] []
  · refine awp_false (by kernel_rfl) h3 ?_
    refine awp_skip ?_
    refine awp_seq ?_
    refine awp_seq ?_
    refine awp_region ?_
    refine aR 1 ?_
    refine aE ?_
    refine cE hF (fun h5 hF => ?_) fun h5 hF => ?_
    · refine awp_true (by kernel_rfl) h5 ?_
      refine awp_seq ?_
      refine awp_region ?_
      refine aR 1 ?_
      refine aE ?_
      refine awp_ret ?_
      exact oF hF [] []
    · refine awp_false (by kernel_rfl) h5 ?_
      refine awp_skip ?_
      refine awp_seq ?_
      refine awp_seq ?_
      refine awp_region ?_
      refine aR 3 ?_
      refine aE ?_
      refine cE hF (fun h6 hF => ?_) fun h6 hF => ?_
      · refine awp_true (by kernel_rfl) h6 ?_
        refine awp_seq ?_
        refine awp_region ?_
        refine aR 1 ?_
        refine aE ?_
        refine awp_ret ?_
        exact oF hF [] []
      · refine awp_false (by kernel_rfl) h6 ?_
        refine awp_skip ?_
        refine awp_seq ?_
        refine awp_seq ?_
        refine awp_region ?_
        refine aR 3 ?_
        refine aE ?_
        refine cE hF (fun h7 hF => ?_) fun h7 hF => ?_
        · refine awp_true (by kernel_rfl) h7 ?_
          refine awp_seq ?_
          refine awp_region ?_
          refine aR 1 ?_
          refine aE ?_
          refine awp_ret ?_
          exact oF hF [] []
        · refine awp_false (by kernel_rfl) h7 ?_
          refine awp_skip ?_
          refine awp_seq ?_
          refine awp_region ?_
          refine aR 1 ?_
          refine aE ?_
          refine awp_ret ?_
          exact oF hF [] []

/-! ### cmp.Or[int] -/
def cmp_Or_int_x1_k : Unit ⊕ Int → AEx
  | .inl _ => .exit 0
  | .inr _ => .ret

def cmp_Or_int_x1_S (qvals : List Int) : Unit ⊕ Int → St
  | .inl _ => Mem.st ⟨[], []⟩ (tl [(3, .v (.one (.d (.int .i64 0))))]) 0
  | .inr vx1 => Mem.st ⟨[], []⟩ (tl [(2, .v (.one (.d (.int .i64 vx1))))]) 0

def cmp_Or_int_x1_H (qvals : List Int) : Int → St
  | vx => Mem.st ⟨[], []⟩ (tl [(3, .v (.one (.d (.int .i64 0)))), (6, .v (.one (.d (.lst (List.map (encI .i64) qvals))))), (7, .v (.one (.d (.int .i64 (qvals.length : Int))))), (8, .v (.one (.d (.int .i64 vx))))]) 0

theorem cmp_Or_int_x1_ok (qvals : List Int) (vx : Int) (r : (Int) ⊕ (Unit ⊕ Int)) (hF : cmp_Or_int_x1 qvals vx = some r) : Awp prog 0 18 (cL (cL (cR (cL (cR (cR (cB f40))))))) (Out 0 (kk cmp_Or_int_x1_k) (SS (cmp_Or_int_x1_H qvals) (cmp_Or_int_x1_S qvals)) r) (cmp_Or_int_x1_H qvals vx) := by
  unfold cmp_Or_int_x1 at hF
  refine awp_seq ?_
  refine awp_region ?_
  refine aR 1 ?_
  refine aE ?_
  refine awp_seq ?_
  refine cE hF (fun h1 hF => ?_) fun h1 hF => ?_
  · refine awp_true (by kernel_rfl) h1 ?_
    refine awp_skip ?_
    refine awp_seq ?_
    refine awp_block ?_
    refine awp_seq ?_
    refine bE hF fun vy1 h2 hF => ?_
    refine awp_region ?_
    refine aX (x_idx (encI .i64) h2) ?_
    refine aR 2 ?_
    refine aE ?_
    refine awp_seq ?_
    refine awp_region ?_
    refine aR 3 ?_
    refine aE ?_
    refine cE hF (fun h3 hF => ?_) fun h3 hF => ?_
    · refine awp_true (by kernel_rfl) h3 ?_
      refine awp_seq ?_
      refine awp_region ?_
      refine aR 2 ?_
      refine aE ?_
      refine awp_ret ?_
      exact oO hF [] [] rfl
    · refine awp_false (by kernel_rfl) h3 ?_
      refine awp_skip ?_
      refine awp_region ?_
      refine aR 2 ?_
      refine aE ?_
      exact oO hF [] [] rfl
  · refine awp_false (by kernel_rfl) h1 ?_
    refine awp_exit ?_
    exact oO hF [] [] rfl

def cmp_Or_int_R (qvals : List Int) (r : Int) : TV × Mem := (.v (.one (.d (.int .i64 r))), ⟨[], []⟩)

theorem cmp_Or_int_ok {qvals : List Int} {r} (hF : cmp_Or_int qvals = some r) : Holds prog 40 [.v (.one (.d (.lst (List.map (encI .i64) qvals))))] ⟨[], []⟩ (Is (cmp_Or_int_R qvals r)) := by
  unfold cmp_Or_int at hF
  refine holds_of_awp hΓ (fn := f40) (c := cB f40) (A := 0) (nx := 0) (by kernel_rfl) (by kernel_rfl) (by kernel_rfl) (by kernel_rfl) (by kernel_rfl) (by kernel_rfl) (lowc_of (by kernel_rfl)) ?_
  show Awp prog 0 18 (cB f40) _ _
  refine awp_seq ?_
  refine awp_region ?_
  refine aR 1 ?_
  refine aE ?_
  refine awp_seq ?_
  refine awp_region ?_
  refine aR 1 ?_
  refine aE ?_
  refine awp_seq ?_
  refine awp_seq ?_
  refine awp_region ?_
  refine aR 1 ?_
  refine aL (encI .i64) qvals ?_
  refine aR 1 ?_
  refine aE ?_
  refine awp_block ?_
  refine awp_to (st' := cmp_Or_int_x1_H qvals 0) (oT [] []) ?_
  refine bE hF fun x h4 hF => ?_
  rcases x with _ | vx1_1
  · refine awp_sub (awp_loop' (cmp_Or_int_x1_H qvals) cmp_Or_int_x1_k (cmp_Or_int_x1_S qvals) (by intro x; rcases x with x | x <;> exact fun h => nomatch h) h4 (cmp_Or_int_x1_ok qvals)) ?_
    refine awp_seq ?_
    refine awp_region ?_
    refine aR 2 ?_
    refine aE ?_
    refine awp_ret ?_
    exact oF hF [] []
  · refine awp_sub (awp_loop' (cmp_Or_int_x1_H qvals) cmp_Or_int_x1_k (cmp_Or_int_x1_S qvals) (by intro x; rcases x with x | x <;> exact fun h => nomatch h) h4 (cmp_Or_int_x1_ok qvals)) ?_
    exact oF hF [] []

/-! ### beaconfleet/command.further -/
def command_further_R (qa : api_Note) (qb : api_Note) (r : Int) : TV × Mem := (.v (.one (.d (.int .i64 r))), ⟨[], []⟩)

theorem command_further_ok {qa : api_Note} {qb : api_Note} {r} (hF : command_further qa qb = some r) : Holds prog 21 [.v (.agg [.d (.str qa.Letter.Id), .d (.str qa.Letter.Slot), .d (.str qa.Letter.Body), .d (.int .i64 qa.Letter.Prio), .d (.int .i64 qa.Letter.At), .d (.int .i64 qa.Letter.Until), .d (.int .i64 qa.State), .d (.int .i64 qa.Tries), .d (.int .i64 qa.Since)]), .v (.agg [.d (.str qb.Letter.Id), .d (.str qb.Letter.Slot), .d (.str qb.Letter.Body), .d (.int .i64 qb.Letter.Prio), .d (.int .i64 qb.Letter.At), .d (.int .i64 qb.Letter.Until), .d (.int .i64 qb.State), .d (.int .i64 qb.Tries), .d (.int .i64 qb.Since)])] ⟨[], []⟩ (Is (command_further_R qa qb r)) := by
  unfold command_further at hF
  refine holds_of_awp hΓ (fn := f21) (c := cB f21) (A := 0) (nx := 0) (by kernel_rfl) (by kernel_rfl) (by kernel_rfl) (by kernel_rfl) (by kernel_rfl) (by kernel_rfl) (lowc_of (by kernel_rfl)) ?_
  show Awp prog 0 29 (cB f21) _ _
  refine awp_seq ?_
  refine awp_region ?_
  refine aR 3 ?_
  refine aE ?_
  refine awp_seq ?_
  refine bE hF fun vr1 h1 hF => ?_
  refine bE hF fun vr1_1 h2 hF => ?_
  refine bE hF fun vr h3 hF => ?_
  refine bE hF fun vr2 h4 hF => ?_
  refine bE hF fun vr3 h5 hF => ?_
  refine bE hF fun vr4 h6 hF => ?_
  refine bE hF fun vr5 h7 hF => ?_
  refine aD ?_
  refine dR 2 ?_
  refine dC (command_rank_ok h1) [] [] [] ?_
  refine dR 2 ?_
  refine dC (command_rank_ok h2) [] [] [] ?_
  refine dC (cmp_Compare_int_ok h3) [] [] [] ?_
  refine dR 4 ?_
  refine dC (cmp_Compare_int_ok h4) [] [] [] ?_
  refine dR 4 ?_
  refine dC (cmp_Compare_int_ok h5) [] [] [] ?_
  refine dR 4 ?_
  refine dC (cmp_Compare_int_ok h6) [] [] [] ?_
  refine dR 1 ?_
  refine dC (cmp_Or_int_ok h7) [] [] [25000] ?_
  refine dR 1 ?_
  refine dE ?_
  refine awp_ret ?_
  exact oF hF [] []

/-! ### slices.Grow[[]beaconfleet/api.Note,beaconfleet/api.Note] -/
def slices_Grow_api_Note_api_Note_n0_x1_k : (List api_Note) → AEx
  | _ => .normal

def slices_Grow_api_Note_api_Note_n0_x1_S (qn : Int) : (List api_Note) → St
  | vs => Mem.st ⟨[(0, ⟨33, 9, List.map api_Note.enc vs⟩)], []⟩ (tl [(0, .v (.one (.own 0 none)))]) 1

def slices_Grow_api_Note_api_Note_n0_x1_I (qn : Int) : St := Mem.st ⟨[], []⟩ (tl [(0, .v (.one (.nil))), (1, .v (.one (.d (.int .i64 qn))))]) 0

theorem slices_Grow_api_Note_api_Note_n0_x1_ok (qn : Int) {r} (hF : slices_Grow_api_Note_api_Note_n0_x1 qn = some r) : Awp prog 0 27 (cL (cR (cR (cB f43)))) (Out 0 slices_Grow_api_Note_api_Note_n0_x1_k (slices_Grow_api_Note_api_Note_n0_x1_S qn) r) (slices_Grow_api_Note_api_Note_n0_x1_I qn) := by
  unfold slices_Grow_api_Note_api_Note_n0_x1 at hF
  refine awp_seq ?_
  refine awp_region ?_
  refine aR 2 ?_
  refine aK rfl ?_
  refine aR 5 ?_
  refine aE ?_
  refine awp_seq ?_
  refine awp_region ?_
  refine aR 2 ?_
  refine aE ?_
  refine cE hF (fun h3 hF => ?_) fun h3 hF => ?_
  · refine awp_true (by kernel_rfl) h3 ?_
    refine gE hF fun h4 hF => ?_
    refine gE hF fun h5 hF => ?_
    refine awp_region ?_
    refine aR 2 ?_
    refine aK rfl ?_
    refine aSn rfl ?_
    refine aR 1 ?_
    refine aZ api_Note.enc (api_Note.mk (api_Letter.mk ([] : List UInt8) ([] : List UInt8) ([] : List UInt8) 0 0 0) 0 0 0) h4 rfl ?_
    refine aR 2 ?_
    refine aT api_Note.enc 15000 h5 rfl ?_
    refine aR 1 ?_
    refine aE ?_
    exact oO hF [(0, 18000)] [] rfl
  · refine awp_false (by kernel_rfl) h3 ?_
    refine awp_skip ?_
    exact oO hF [] [0] rfl

def slices_Grow_api_Note_api_Note_n0_R (qn : Int) (r : (List api_Note)) : TV × Mem := (.v (.one (.own 0 none)), ⟨[(0, ⟨33, 9, List.map api_Note.enc r⟩)], []⟩)

theorem slices_Grow_api_Note_api_Note_n0_ok {qn : Int} {r} (hF : slices_Grow_api_Note_api_Note_n0 qn = some r) : Holds prog 43 [.v (.one (.nil)), .v (.one (.d (.int .i64 qn)))] ⟨[], []⟩ (Is (slices_Grow_api_Note_api_Note_n0_R qn r)) := by
  unfold slices_Grow_api_Note_api_Note_n0 at hF
  refine holds_of_awp hΓ (fn := f43) (c := cB f43) (A := 0) (nx := 0) (by kernel_rfl) (by kernel_rfl) (by kernel_rfl) (by kernel_rfl) (by kernel_rfl) (by kernel_rfl) (lowc_of (by kernel_rfl)) ?_
  show Awp prog 0 27 (cB f43) _ _
  refine awp_seq ?_
  refine awp_region ?_
  refine aR 1 ?_
  refine aE ?_
  refine awp_seq ?_
  refine awp_seq ?_
  refine awp_region ?_
  refine aR 2 ?_
  refine aE ?_
  refine cE hF (fun h1 hF => ?_) fun h1 hF => ?_
  · refine awp_true (by kernel_rfl) h1 ?_
    exact nE hF
  · refine awp_false (by kernel_rfl) h1 ?_
    refine awp_skip ?_
    refine awp_seq ?_
    refine awp_to (st' := slices_Grow_api_Note_api_Note_n0_x1_I qn) (oT [] []) ?_
    refine bE hF fun vs1 h6 hF => ?_
    refine awp_sub (slices_Grow_api_Note_api_Note_n0_x1_ok qn h6) ?_
    refine awp_seq ?_
    refine awp_region ?_
    refine aR 2 ?_
    refine aE ?_
    refine awp_ret ?_
    exact oF hF [] []

/-! ### slices.Concat[[]beaconfleet/api.Note,beaconfleet/api.Note] -/
def slices_Concat_api_Note_api_Note_o0_x1_k : Int → AEx
  | _ => .exit 0

def slices_Concat_api_Note_api_Note_o0_x1_S (qslices : List (List api_Note)) : Int → St
  | vsize1 => Mem.st ⟨[], []⟩ (tl [(0, .v (.one (.d (.lst (List.map (encL api_Note.enc) qslices))))), (3, .v (.one (.d (.int .i64 vsize1))))]) 1

def slices_Concat_api_Note_api_Note_o0_x1_H (qslices : List (List api_Note)) : Int × Int → St
  | (vsize, vx) => Mem.st ⟨[], []⟩ (tl [(0, .v (.one (.d (.lst (List.map (encL api_Note.enc) qslices))))), (3, .v (.one (.d (.int .i64 vsize)))), (9, .v (.one (.d (.lst (List.map (encL api_Note.enc) qslices))))), (10, .v (.one (.d (.int .i64 (qslices.length : Int))))), (11, .v (.one (.d (.int .i64 vx))))]) 1

theorem slices_Concat_api_Note_api_Note_o0_x1_ok (qslices : List (List api_Note)) (s : Int × Int) (r : (Int × Int) ⊕ (Int)) (hF : slices_Concat_api_Note_api_Note_o0_x1 qslices s = some r) : Awp prog 1 36 (cL (cL (cR (cL (cR (cR (cB f22))))))) (Out 1 (kk slices_Concat_api_Note_api_Note_o0_x1_k) (SS (slices_Concat_api_Note_api_Note_o0_x1_H qslices) (slices_Concat_api_Note_api_Note_o0_x1_S qslices)) r) (slices_Concat_api_Note_api_Note_o0_x1_H qslices s) := by
  obtain ⟨vsize, vx⟩ := s
  unfold slices_Concat_api_Note_api_Note_o0_x1 at hF
  refine awp_seq ?_
  refine awp_region ?_
  refine aR 1 ?_
  refine aE ?_
  refine awp_seq ?_
  refine cE hF (fun h1 hF => ?_) fun h1 hF => ?_
  · refine awp_true (by kernel_rfl) h1 ?_
    refine awp_skip ?_
    refine awp_seq ?_
    refine awp_block ?_
    refine awp_seq ?_
    refine bE hF fun vy1 h2 hF => ?_
    refine awp_region ?_
    refine aX (x_idx (encL api_Note.enc) h2) ?_
    refine aR 2 ?_
    refine aE ?_
    refine awp_seq ?_
    refine awp_region ?_
    refine aR 2 ?_
    refine aL api_Note.enc vy1 ?_
    refine aR 2 ?_
    refine aE ?_
    refine awp_seq ?_
    refine awp_region ?_
    refine aR 2 ?_
    refine aE ?_
    refine cE hF (fun h3 hF => ?_) fun h3 hF => ?_
    · refine awp_true (by kernel_rfl) h3 ?_
      exact nE hF
    · refine awp_false (by kernel_rfl) h3 ?_
      refine awp_skip ?_
      refine awp_region ?_
      refine aR 2 ?_
      refine aE ?_
      exact oO hF [] [] rfl
  · refine awp_false (by kernel_rfl) h1 ?_
    refine awp_exit ?_
    exact oO hF [] [] rfl

def slices_Concat_api_Note_api_Note_o0_x2_k : (List api_Note) → AEx
  | _ => .exit 2

def slices_Concat_api_Note_api_Note_o0_x2_S (qslices : List (List api_Note)) : (List api_Note) → St
  | vnewslice1 => Mem.st ⟨[(1, ⟨33, 9, List.map api_Note.enc vnewslice1⟩)], []⟩ (tl [(6, .v (.one (.own 1 none)))]) 2

def slices_Concat_api_Note_api_Note_o0_x2_H (qslices : List (List api_Note)) : (List api_Note) × Int → St
  | (vnewslice, vx1) => Mem.st ⟨[(1, ⟨33, 9, List.map api_Note.enc vnewslice⟩)], []⟩ (tl [(6, .v (.one (.own 1 none))), (25, .v (.one (.d (.lst (List.map (encL api_Note.enc) qslices))))), (26, .v (.one (.d (.int .i64 (qslices.length : Int))))), (27, .v (.one (.d (.int .i64 vx1))))]) 2

theorem slices_Concat_api_Note_api_Note_o0_x2_ok (qslices : List (List api_Note)) (s : (List api_Note) × Int) (r : ((List api_Note) × Int) ⊕ ((List api_Note))) (hF : slices_Concat_api_Note_api_Note_o0_x2 qslices s = some r) : Awp prog 1 36 (cL (cL (cR (cL (cR (cR (cR (cR (cB f22))))))))) (Out 1 (kk slices_Concat_api_Note_api_Note_o0_x2_k) (SS (slices_Concat_api_Note_api_Note_o0_x2_H qslices) (slices_Concat_api_Note_api_Note_o0_x2_S qslices)) r) (slices_Concat_api_Note_api_Note_o0_x2_H qslices s) := by
  obtain ⟨vnewslice, vx1⟩ := s
  unfold slices_Concat_api_Note_api_Note_o0_x2 at hF
  refine awp_seq ?_
  refine awp_region ?_
  refine aR 1 ?_
  refine aE ?_
  refine awp_seq ?_
  refine cE hF (fun h7 hF => ?_) fun h7 hF => ?_
  · refine awp_true (by kernel_rfl) h7 ?_
    refine awp_skip ?_
    refine awp_seq ?_
    refine awp_block ?_
    refine awp_seq ?_
    refine bE hF fun vy3 h8 hF => ?_
    refine awp_region ?_
    refine aX (x_idx (encL api_Note.enc) h8) ?_
    refine aR 2 ?_
    refine aE ?_
    refine gE hF fun h9 hF => ?_
    refine awp_region ?_
    refine aR 2 ?_
    refine aX (x_app api_Note.enc 1 h9) ?_
    refine aR 1 ?_
    refine aE ?_
    refine awp_region ?_
    refine aR 2 ?_
    refine aE ?_
    exact oO hF [(1, 6002)] [] rfl
  · refine awp_false (by kernel_rfl) h7 ?_
    refine awp_exit ?_
    exact oO hF [] [] rfl

def slices_Concat_api_Note_api_Note_o0_R (qslices : List (List api_Note)) (r : (List api_Note)) : TV × Mem := (.v (.one (.own 1 none)), ⟨[(1, ⟨33, 9, List.map api_Note.enc r⟩)], []⟩)

theorem slices_Concat_api_Note_api_Note_o0_ok {qslices : List (List api_Note)} {r} (hF : slices_Concat_api_Note_api_Note_o0 qslices = some r) : Holds prog 22 [.v (.one (.own 0 none))] ⟨[(0, ⟨26, 1, List.map (encL api_Note.enc) qslices⟩)], []⟩ (Is (slices_Concat_api_Note_api_Note_o0_R qslices r)) := by
  unfold slices_Concat_api_Note_api_Note_o0 at hF
  refine holds_of_awp hΓ (fn := f22) (c := cB f22) (A := 1) (nx := 1) (by kernel_rfl) (by kernel_rfl) (by kernel_rfl) (by kernel_rfl) (by kernel_rfl) (by kernel_rfl) (lowc_of (by kernel_rfl)) ?_
  show Awp prog 1 36 (cB f22) _ _
  refine awp_seq ?_
  refine awp_region ?_
  refine aR 1 ?_
  refine aE ?_
  refine awp_to (oT (m := ⟨[], []⟩) (ts := [(0, .v (.one (.d (.lst (List.map (encL api_Note.enc) qslices)))))]) (nx := 1) [] []) ?_
  refine awp_seq ?_
  refine awp_region ?_
  refine aR 1 ?_
  refine aE ?_
  refine awp_seq ?_
  refine awp_seq ?_
  refine awp_region ?_
  refine aR 1 ?_
  refine aL (encL api_Note.enc) qslices ?_
  refine aR 1 ?_
  refine aE ?_
  refine awp_block ?_
  refine awp_to (st' := slices_Concat_api_Note_api_Note_o0_x1_H qslices (0, 0)) (oT [] []) ?_
  refine bE hF fun vsize1_1 h5 hF => ?_
  refine awp_sub (awp_loop' (slices_Concat_api_Note_api_Note_o0_x1_H qslices) slices_Concat_api_Note_api_Note_o0_x1_k (slices_Concat_api_Note_api_Note_o0_x1_S qslices) (by intro x; exact fun h => nomatch h) h5 (slices_Concat_api_Note_api_Note_o0_x1_ok qslices)) ?_
  refine awp_seq ?_
  refine bE hF fun vr h6 hF => ?_
  refine awp_region ?_
  refine aR 1 ?_
  refine aC (slices_Grow_api_Note_api_Note_n0_ok h6) [] [] [] ?_
  refine aR 1 ?_
  refine aE ?_
  refine awp_seq ?_
  refine awp_seq ?_
  refine awp_region ?_
  refine aR 1 ?_
  refine aL (encL api_Note.enc) qslices ?_
  refine aR 1 ?_
  refine aE ?_
  refine awp_block ?_
  refine awp_to (st' := slices_Concat_api_Note_api_Note_o0_x2_H qslices (vr, 0)) (oT [(1, 1001)] []) ?_
  refine bE hF fun vnewslice1_1 h10 hF => ?_
  refine awp_sub (awp_loop' (slices_Concat_api_Note_api_Note_o0_x2_H qslices) slices_Concat_api_Note_api_Note_o0_x2_k (slices_Concat_api_Note_api_Note_o0_x2_S qslices) (by intro x; exact fun h => nomatch h) h10 (slices_Concat_api_Note_api_Note_o0_x2_ok qslices)) ?_
  refine awp_seq ?_
  refine awp_region ?_
  refine aR 2 ?_
  refine aE ?_
  refine awp_ret ?_
  exact oF hF [] []

/-! ### beaconfleet/command.Merge -/
def command_Merge_x2_k : Bool → AEx
  | _ => .normal

def command_Merge_x2_S (vx : List api_Note) (vx1 : List api_Note) (vx2 : List api_Note) : Bool → St
  | vx5 => Mem.st ⟨[(0, ⟨33, 9, List.map api_Note.enc vx2⟩)], []⟩ (tl [(0, .v (.one (.d (.lst (List.map api_Note.enc vx))))), (1, .v (.one (.d (.lst (List.map api_Note.enc vx1))))), (7, .v (.one (.own 0 none))), (26, .v (.one (.d (.bool vx5))))]) 1

def command_Merge_x2_I (vx : List api_Note) (vx1 : List api_Note) (vx2 : List api_Note) : St := Mem.st ⟨[(0, ⟨33, 9, List.map api_Note.enc vx2⟩)], []⟩ (tl [(0, .v (.one (.d (.lst (List.map api_Note.enc vx))))), (1, .v (.one (.d (.lst (List.map api_Note.enc vx1))))), (7, .v (.one (.own 0 none)))]) 1

theorem command_Merge_x2_ok (vx : List api_Note) (vx1 : List api_Note) (vx2 : List api_Note) {r} (hF : command_Merge_x2 vx vx1 = some r) : Awp prog 0 99 (cL (cL (cL (cL (cL (cR (cR (cR (cB f9))))))))) (Out 0 command_Merge_x2_k (command_Merge_x2_S vx vx1 vx2) r) (command_Merge_x2_I vx vx1 vx2) := by
  unfold command_Merge_x2 at hF
  refine cE hF (fun h5 hF => ?_) fun h5 hF => ?_
  · refine awp_region ?_
    refine aR 1 ?_
    refine aL api_Note.enc vx ?_
    refine aB h5 ?_
    refine aR 2 ?_
    refine aL api_Note.enc vx1 ?_
    refine aR 2 ?_
    refine aE ?_
    exact oO hF [] [] rfl
  · refine awp_region ?_
    refine aR 1 ?_
    refine aL api_Note.enc vx ?_
    refine aB h5 ?_
    refine aR 5 ?_
    refine aE ?_
    exact oO hF [] [] rfl

def command_Merge_x3_k : api_Note → AEx
  | _ => .normal

def command_Merge_x3_S (vx : List api_Note) (vx1 : List api_Note) (vx2 : List api_Note) (vy3 : api_Note) : api_Note → St
  | vx6 => Mem.st ⟨[(1, ⟨33, 9, List.map api_Note.enc vx2⟩)], [(0, [.d (.str vx6.Letter.Id), .d (.str vx6.Letter.Slot), .d (.str vx6.Letter.Body), .d (.int .i64 vx6.Letter.Prio), .d (.int .i64 vx6.Letter.At), .d (.int .i64 vx6.Letter.Until), .d (.int .i64 vx6.State), .d (.int .i64 vx6.Tries), .d (.int .i64 vx6.Since)])]⟩ (tl [(0, .v (.one (.d (.lst (List.map api_Note.enc vx))))), (1, .v (.one (.d (.lst (List.map api_Note.enc vx1))))), (7, .v (.one (.own 1 none))), (9, .v (.one (.box 0 0)))]) 2

def command_Merge_x3_I (vx : List api_Note) (vx1 : List api_Note) (vx2 : List api_Note) (vy3 : api_Note) : St := Mem.st ⟨[(1, ⟨33, 9, List.map api_Note.enc vx2⟩)], [(0, [.d (.str vy3.Letter.Id), .d (.str vy3.Letter.Slot), .d (.str vy3.Letter.Body), .d (.int .i64 vy3.Letter.Prio), .d (.int .i64 vy3.Letter.At), .d (.int .i64 vy3.Letter.Until), .d (.int .i64 vy3.State), .d (.int .i64 vy3.Tries), .d (.int .i64 vy3.Since)])]⟩ (tl [(0, .v (.one (.d (.lst (List.map api_Note.enc vx))))), (1, .v (.one (.d (.lst (List.map api_Note.enc vx1))))), (7, .v (.one (.own 1 none))), (9, .v (.one (.box 0 0)))]) 2

theorem command_Merge_x3_ok (vx : List api_Note) (vx1 : List api_Note) (vx2 : List api_Note) (vy3 : api_Note) {r} (hF : command_Merge_x3 vx1 vy3 = some r) : Awp prog 0 99 (cL (cR (cR (cR (cR (cR (cR (cR (cL (cR (cL (cR (cL (cL (cL (cR (cR (cR (cB f9))))))))))))))))))) (Out 0 command_Merge_x3_k (command_Merge_x3_S vx vx1 vx2 vy3) r) (command_Merge_x3_I vx vx1 vx2 vy3) := by
  unfold command_Merge_x3 at hF
  refine awp_seq ?_
  refine bE hF fun vy5 h18 hF => ?_
  refine bE hF fun vr6_1 h19 hF => ?_
  refine aD ?_
  refine dR 1 ?_
  refine dX (x_idx api_Note.enc h18) ?_
  refine dR 2 ?_
  refine dC (command_further_ok h19) [] [] [] ?_
  refine dR 1 ?_
  refine dE ?_
  refine cE hF (fun h20 hF => ?_) fun h20 hF => ?_
  · refine awp_true (by kernel_rfl) h20 ?_
    refine awp_region ?_
    refine aR 1 ?_
    refine aX (x_idx api_Note.enc h18) ?_
    refine aR 2 ?_
    refine aE ?_
    exact oO hF [] [] rfl
  · refine awp_false (by kernel_rfl) h20 ?_
    refine awp_skip ?_
    exact oO hF [] [] rfl

def command_Merge_x1_k : ((List api_Note) × (List api_Note) × (List api_Note)) ⊕ Unit → AEx
  | .inl _ => .exit 0
  | .inr _ => .ret

def command_Merge_x1_S : ((List api_Note) × (List api_Note) × (List api_Note)) ⊕ Unit → St
  | .inl (vx7, vx8, vx9) => Mem.st ⟨[(0, ⟨33, 9, List.map api_Note.enc vx9⟩)], []⟩ (tl [(0, .v (.one (.d (.lst (List.map api_Note.enc vx7))))), (1, .v (.one (.d (.lst (List.map api_Note.enc vx8))))), (7, .v (.one (.own 0 none)))]) 1
  | .inr _ => Mem.st ⟨[], []⟩ (tl [(4, .v (.one (.nil))), (5, .v (.one (.d (.int .i64 13))))]) 0

def command_Merge_x1_H : (List api_Note) × (List api_Note) × (List api_Note) → St
  | (vx, vx1, vx2) => Mem.st ⟨[(0, ⟨33, 9, List.map api_Note.enc vx2⟩)], []⟩ (tl [(0, .v (.one (.d (.lst (List.map api_Note.enc vx))))), (1, .v (.one (.d (.lst (List.map api_Note.enc vx1))))), (7, .v (.one (.own 0 none)))]) 1

theorem command_Merge_x1_ok (s : (List api_Note) × (List api_Note) × (List api_Note)) (r : ((List api_Note) × (List api_Note) × (List api_Note)) ⊕ (((List api_Note) × (List api_Note) × (List api_Note)) ⊕ Unit)) (hF : command_Merge_x1  s = some r) : Awp prog 0 99 (cL (cL (cL (cR (cR (cR (cB f9))))))) (Out 0 (kk command_Merge_x1_k) (SS (command_Merge_x1_H ) (command_Merge_x1_S )) r) (command_Merge_x1_H  s) := by
  obtain ⟨vx, vx1, vx2⟩ := s
  unfold command_Merge_x1 at hF
  refine awp_seq ?_
  refine awp_seq ?_
  refine awp_to (st' := command_Merge_x2_I vx vx1 vx2) (oT [] []) ?_
  refine bE hF fun vx5_1 h6 hF => ?_
  refine awp_sub (command_Merge_x2_ok vx vx1 vx2 h6) ?_
  refine cE hF (fun h7 hF => ?_) fun h7 hF => ?_
  · refine awp_true (by kernel_rfl) h7 ?_
    refine awp_skip ?_
    refine awp_block ?_
    refine awp_seq ?_
    refine bE hF fun vy3 h8 hF => ?_
    refine bE hF fun vy4 h9 hF => ?_
    refine bE hF fun _ h10 hF => ?_
    refine aD ?_
    refine dR 1 ?_
    refine dX (x_idx api_Note.enc h8) ?_
    refine dR 4 ?_
    refine dX (x_idx api_Note.enc h9) ?_
    refine dR 3 ?_
    refine dC (strings_Compare_ok h10) [] [] [] ?_
    refine dR 1 ?_
    refine dE ?_
    refine awp_block ?_
    refine awp_seq ?_
    refine awp_region ?_
    refine aR 3 ?_
    refine aE ?_
    refine cE hF (fun h11 hF => ?_) fun h11 hF => ?_
    · refine awp_true (by kernel_rfl) h11 ?_
      refine gE hF fun h12 hF => ?_
      refine bE hF fun vl4 h13 hF => ?_
      refine aD ?_
      refine dR 2 ?_
      refine dX (x_idx api_Note.enc h8) ?_
      refine dR 2 ?_
      refine dX (x_app api_Note.enc 0 h12) ?_
      refine dR 1 ?_
      refine dX (x_sliceN api_Note.enc h13) ?_
      refine dR 2 ?_
      refine dE ?_
      exact oO hF [(0, 20001)] [] rfl
    · refine awp_false (by kernel_rfl) h11 ?_
      refine awp_seq ?_
      refine awp_region ?_
      refine aR 3 ?_
      refine aE ?_
      refine cE hF (fun h14 hF => ?_) fun h14 hF => ?_
      · refine awp_true (by kernel_rfl) h14 ?_
        refine gE hF fun h15 hF => ?_
        refine bE hF fun vl5 h16 hF => ?_
        refine aD ?_
        refine dR 2 ?_
        refine dX (x_idx api_Note.enc h9) ?_
        refine dR 2 ?_
        refine dX (x_app api_Note.enc 0 h15) ?_
        refine dR 1 ?_
        refine dX (x_sliceN api_Note.enc h16) ?_
        refine dR 2 ?_
        refine dE ?_
        exact oO hF [(0, 23001)] [] rfl
      · refine awp_false (by kernel_rfl) h14 ?_
        refine awp_seq ?_
        refine aD ?_
        refine dR 1 ?_
        refine dX (x_idx api_Note.enc h8) ?_
        refine dR 3 ?_
        refine dX (x_idx api_Note.enc h9) ?_
        refine dR 2 ?_
        refine dS (U := []) (stable_eqS (op := .neq) (xs := [.str vy3.Letter.Id, .str vy3.Letter.Slot, .str vy3.Letter.Body, .int .i64 vy3.Letter.Prio, .int .i64 vy3.Letter.At, .int .i64 vy3.Letter.Until]) (ys := [.str vy4.Letter.Id, .str vy4.Letter.Slot, .str vy4.Letter.Body, .int .i64 vy4.Letter.Prio, .int .i64 vy4.Letter.At, .int .i64 vy4.Letter.Until]) (b := (decide (vy3.Letter.Id = vy4.Letter.Id) && (decide (vy3.Letter.Slot = vy4.Letter.Slot) && (decide (vy3.Letter.Body = vy4.Letter.Body) && (decide (vy3.Letter.Prio = vy4.Letter.Prio) && (decide (vy3.Letter.At = vy4.Letter.At) && (decide (vy3.Letter.Until = vy4.Letter.Until) && true))))))) (c := (!(decide (vy3.Letter.Id = vy4.Letter.Id) && (decide (vy3.Letter.Slot = vy4.Letter.Slot) && (decide (vy3.Letter.Body = vy4.Letter.Body) && (decide (vy3.Letter.Prio = vy4.Letter.Prio) && (decide (vy3.Letter.At = vy4.Letter.At) && (decide (vy3.Letter.Until = vy4.Letter.Until) && true)))))))) rfl (.inr ⟨rfl, rfl⟩) (by kernel_rfl) (by kernel_rfl) (by kernel_rfl) (by kernel_rfl) (by kernel_rfl) (by kernel_rfl)) ?_
        refine dR 1 ?_
        refine dE ?_
        refine cE hF (fun h17 hF => ?_) fun h17 hF => ?_
        · refine awp_true (by kernel_rfl) h17 ?_
          refine awp_seq ?_
          refine awp_region ?_
          refine aR 2 ?_
          refine aE ?_
          refine awp_ret ?_
          exact oO hF [] [] rfl
        · refine awp_false (by kernel_rfl) h17 ?_
          refine awp_seq ?_
          refine awp_region ?_
          refine aR 1 ?_
          refine aX (x_idx api_Note.enc h8) ?_
          refine aR 3 ?_
          refine aE ?_
          refine awp_seq ?_
          refine awp_to (st' := command_Merge_x3_I vx vx1 vx2 vy3) (oT [(0, 31001), (1, 0)] []) ?_
          refine bE hF fun vx6_1 h21 hF => ?_
          refine awp_sub (command_Merge_x3_ok vx vx1 vx2 vy3 h21) ?_
          refine gE hF fun h22 hF => ?_
          refine bE hF fun vl6 h23 hF => ?_
          refine bE hF fun vl7 h24 hF => ?_
          refine aD ?_
          refine dR 3 ?_
          refine dX (x_app api_Note.enc 1 h22) ?_
          refine dR 1 ?_
          refine dX (x_sliceN api_Note.enc h23) ?_
          refine dR 1 ?_
          refine dX (x_sliceN api_Note.enc h24) ?_
          refine dR 3 ?_
          refine dE ?_
          exact oO hF [(0, 3002)] [] rfl
  · refine awp_false (by kernel_rfl) h7 ?_
    refine awp_exit ?_
    exact oO hF [] [] rfl

def command_Merge_R (qx : List api_Note) (qx1 : List api_Note) (r : (List api_Note) × Int) : TV × Mem := (.tup [.one (.own 0 none), .one (.d (.int .i64 r.2))], ⟨[(0, ⟨33, 9, List.map api_Note.enc r.1⟩)], []⟩)

theorem command_Merge_ok {qx : List api_Note} {qx1 : List api_Note} {r} (hF : command_Merge qx qx1 = some r) : Holds prog 9 [.v (.one (.d (.lst (List.map api_Note.enc qx)))), .v (.one (.d (.lst (List.map api_Note.enc qx1))))] ⟨[], []⟩ (Is (command_Merge_R qx qx1 r)) := by
  unfold command_Merge at hF
  refine holds_of_awp hΓ (fn := f9) (c := cB f9) (A := 0) (nx := 0) (by kernel_rfl) (by kernel_rfl) (by kernel_rfl) (by kernel_rfl) (by kernel_rfl) (by kernel_rfl) (lowc_of (by kernel_rfl)) ?_
  show Awp prog 0 99 (cB f9) _ _
  refine awp_seq ?_
  refine awp_region ?_
  refine aR 2 ?_
  refine aE ?_
  refine awp_seq ?_
  refine awp_seq ?_
  refine bE hF fun vr5 h1 hF => ?_
  refine bE hF fun vr5_1 h2 hF => ?_
  refine bE hF fun vr h3 hF => ?_
  refine awp_region ?_
  refine aR 1 ?_
  refine aC (command_CheckNotes_ok h1) [] [] [] ?_
  refine aR 1 ?_
  refine aC (command_CheckNotes_ok h2) [] [] [] ?_
  refine aR 1 ?_
  refine aC (base_First_ok h3) [] [] [6000] ?_
  refine aR 1 ?_
  refine aE ?_
  refine awp_seq ?_
  refine awp_region ?_
  refine aR 2 ?_
  refine aE ?_
  refine cE hF (fun h4 hF => ?_) fun h4 hF => ?_
  · refine awp_true (by kernel_rfl) h4 ?_
    refine awp_seq ?_
    refine awp_region ?_
    refine aR 3 ?_
    refine aE ?_
    refine awp_ret ?_
    exact oF hF [] [0]
  · refine awp_false (by kernel_rfl) h4 ?_
    refine awp_skip ?_
    refine awp_seq ?_
    refine awp_region ?_
    refine aR 1 ?_
    refine aE ?_
    refine awp_seq ?_
    refine awp_block ?_
    refine awp_to (st' := command_Merge_x1_H  (qx, qx1, [])) (oT [] [0]) ?_
    refine bE hF fun x h25 hF => ?_
    rcases x with ⟨vx7_1, vx8_1, vx9_1⟩ | _
    · refine awp_sub (awp_loop' (command_Merge_x1_H ) command_Merge_x1_k (command_Merge_x1_S ) (by intro x; rcases x with x | x <;> exact fun h => nomatch h) h25 (command_Merge_x1_ok )) ?_
      refine awp_seq ?_
      refine bE hF fun vr1 h26 hF => ?_
      refine awp_region ?_
      refine aR 3 ?_
      refine aF ⟨[], []⟩ [(90, .v (.one (.d (.lst (List.map api_Note.enc vx9_1))))), (91, .v (.one (.d (.lst (List.map api_Note.enc vx7_1))))), (92, .v (.one (.d (.lst (List.map api_Note.enc vx8_1)))))] ?_
      refine aR 1 ?_
      refine aC (slices_Concat_api_Note_api_Note_o0_ok h26) [(0, 3001)] [] [] ?_
      refine aR 1 ?_
      refine aE ?_
      refine awp_seq ?_
      refine awp_seq ?_
      refine awp_region ?_
      refine aR 1 ?_
      refine aL api_Note.enc vr1 ?_
      refine aR 1 ?_
      refine aE ?_
      refine cE hF (fun h27 hF => ?_) fun h27 hF => ?_
      · refine awp_true (by kernel_rfl) h27 ?_
        refine awp_seq ?_
        refine awp_region ?_
        refine aR 2 ?_
        refine aE ?_
        refine awp_ret ?_
        exact oF hF [] [0]
      · refine awp_false (by kernel_rfl) h27 ?_
        refine awp_skip ?_
        refine awp_seq ?_
        refine awp_region ?_
        refine aR 3 ?_
        refine aE ?_
        refine awp_ret ?_
        exact oF hF [(0, 4002)] []
    · refine awp_sub (awp_loop' (command_Merge_x1_H ) command_Merge_x1_k (command_Merge_x1_S ) (by intro x; rcases x with x | x <;> exact fun h => nomatch h) h25 (command_Merge_x1_ok )) ?_
      exact oF hF [] [0]

/-! ### beaconfleet/fleetref2.in -/
def fleetref2_in_x1_k : Bool → AEx
  | _ => .normal

def fleetref2_in_x1_S (qn : Int) (qlow : Int) (qhigh : Int) : Bool → St
  | vx => Mem.st ⟨[], []⟩ (tl [(6, .v (.one (.d (.bool vx))))]) 0

def fleetref2_in_x1_I (qn : Int) (qlow : Int) (qhigh : Int) : St := Mem.st ⟨[], []⟩ (tl [(0, .v (.one (.d (.int .i64 qn)))), (1, .v (.one (.d (.int .i64 qlow)))), (2, .v (.one (.d (.int .i64 qhigh))))]) 0

theorem fleetref2_in_x1_ok (qn : Int) (qlow : Int) (qhigh : Int) {r} (hF : fleetref2_in_x1 qn qlow qhigh = some r) : Awp prog 0 15 (cL (cR (cB f24))) (Out 0 fleetref2_in_x1_k (fleetref2_in_x1_S qn qlow qhigh) r) (fleetref2_in_x1_I qn qlow qhigh) := by
  unfold fleetref2_in_x1 at hF
  refine cE hF (fun h1 hF => ?_) fun h1 hF => ?_
  · refine awp_region ?_
    refine aR 2 ?_
    refine aB h1 ?_
    refine aR 6 ?_
    refine aE ?_
    exact oO hF [] [] rfl
  · refine awp_region ?_
    refine aR 2 ?_
    refine aB h1 ?_
    refine aR 6 ?_
    refine aE ?_
    exact oO hF [] [] rfl

def fleetref2_in_R (qn : Int) (qlow : Int) (qhigh : Int) (r : Bool) : TV × Mem := (.v (.one (.d (.bool r))), ⟨[], []⟩)

theorem fleetref2_in_ok {qn : Int} {qlow : Int} {qhigh : Int} {r} (hF : fleetref2_in qn qlow qhigh = some r) : Holds prog 24 [.v (.one (.d (.int .i64 qn))), .v (.one (.d (.int .i64 qlow))), .v (.one (.d (.int .i64 qhigh)))] ⟨[], []⟩ (Is (fleetref2_in_R qn qlow qhigh r)) := by
  unfold fleetref2_in at hF
  refine holds_of_awp hΓ (fn := f24) (c := cB f24) (A := 0) (nx := 0) (by kernel_rfl) (by kernel_rfl) (by kernel_rfl) (by kernel_rfl) (by kernel_rfl) (by kernel_rfl) (lowc_of (by kernel_rfl)) ?_
  show Awp prog 0 15 (cB f24) _ _
  refine awp_seq ?_
  refine awp_region ?_
  refine aR 1 ?_
  refine aE ?_
  refine awp_seq ?_
  refine awp_to (st' := fleetref2_in_x1_I qn qlow qhigh) (oT [] []) ?_
  refine bE hF fun vx1 h2 hF => ?_
  refine awp_sub (fleetref2_in_x1_ok qn qlow qhigh h2) ?_
  refine awp_ret ?_
  exact oF hF [] []

/-! ### internal/stringslite.IndexByte -/
def stringslite_IndexByte_R (qs : List UInt8) (qc : Int) (r : Unit) : TV × Mem := (.v (.one (.d (.int .i64 (Lib.indexByte qs qc.toNat.toUInt8)))), ⟨[], []⟩)

theorem stringslite_IndexByte_ok {qs : List UInt8} {qc : Int} {r} (hF : stringslite_IndexByte qs qc = some r) : Holds prog 84 [.v (.one (.d (.str qs))), .v (.one (.d (.int .u8 qc)))] ⟨[], []⟩ (Is (stringslite_IndexByte_R qs qc r)) := by
  unfold stringslite_IndexByte at hF
  refine holds_of_awp hΓ (fn := f84) (c := cB f84) (A := 0) (nx := 0) (by kernel_rfl) (by kernel_rfl) (by kernel_rfl) (by kernel_rfl) (by kernel_rfl) (by kernel_rfl) (lowc_of (by kernel_rfl)) ?_
  show Awp prog 0 8 (cB f84) _ _
  refine awp_seq ?_
  refine awp_region ?_
  refine aR 1 ?_
  refine aE ?_
  refine awp_seq ?_
  refine awp_region ?_
  refine aR 2 ?_
  refine aS (does_indexByte (g := 87) (fn := f87) (a := qs) (c := qc) rfl (by kernel_rfl) (by kernel_rfl) (by kernel_rfl) (by kernel_rfl) (by kernel_rfl) (by kernel_rfl)) ?_
  refine aR 1 ?_
  refine aE ?_
  refine awp_ret ?_
  exact oF hF [] []

/-! ### strings.IndexByte -/
def strings_IndexByte_R (qs : List UInt8) (qc : Int) (r : Unit) : TV × Mem := (.v (.one (.d (.int .i64 (Lib.indexByte qs qc.toNat.toUInt8)))), ⟨[], []⟩)

theorem strings_IndexByte_ok {qs : List UInt8} {qc : Int} {r} (hF : strings_IndexByte qs qc = some r) : Holds prog 75 [.v (.one (.d (.str qs))), .v (.one (.d (.int .u8 qc)))] ⟨[], []⟩ (Is (strings_IndexByte_R qs qc r)) := by
  unfold strings_IndexByte at hF
  refine holds_of_awp hΓ (fn := f75) (c := cB f75) (A := 0) (nx := 0) (by kernel_rfl) (by kernel_rfl) (by kernel_rfl) (by kernel_rfl) (by kernel_rfl) (by kernel_rfl) (lowc_of (by kernel_rfl)) ?_
  show Awp prog 0 8 (cB f75) _ _
  refine awp_seq ?_
  refine awp_region ?_
  refine aR 1 ?_
  refine aE ?_
  refine awp_seq ?_
  refine bE hF fun _ h1 hF => ?_
  refine awp_region ?_
  refine aR 2 ?_
  refine aC (stringslite_IndexByte_ok h1) [] [] [] ?_
  refine aR 1 ?_
  refine aE ?_
  refine awp_ret ?_
  exact oF hF [] []

/-! ### beaconfleet/fleetref2.only -/
def fleetref2_only_x1_k : Unit ⊕ Unit → AEx
  | .inl _ => .exit 0
  | .inr _ => .ret

def fleetref2_only_x1_S (qs : List UInt8) (qsome : List UInt8) : Unit ⊕ Unit → St
  | .inl _ => Mem.st ⟨[], []⟩ (tl []) 0
  | .inr _ => Mem.st ⟨[], []⟩ (tl [(4, .v (.one (.d (.bool false))))]) 0

def fleetref2_only_x1_H (qs : List UInt8) (qsome : List UInt8) : Int → St
  | vx => Mem.st ⟨[], []⟩ (tl [(0, .v (.one (.d (.str qs)))), (1, .v (.one (.d (.str qsome)))), (7, .v (.one (.d (.int .i64 (qs.length : Int))))), (8, .v (.one (.d (.int .i64 vx))))]) 0

theorem fleetref2_only_x1_ok (qs : List UInt8) (qsome : List UInt8) (vx : Int) (r : (Int) ⊕ (Unit ⊕ Unit)) (hF : fleetref2_only_x1 qs qsome vx = some r) : Awp prog 0 18 (cL (cL (cR (cL (cR (cB f58)))))) (Out 0 (kk fleetref2_only_x1_k) (SS (fleetref2_only_x1_H qs qsome) (fleetref2_only_x1_S qs qsome)) r) (fleetref2_only_x1_H qs qsome vx) := by
  unfold fleetref2_only_x1 at hF
  refine awp_seq ?_
  refine awp_region ?_
  refine aR 1 ?_
  refine aE ?_
  refine awp_seq ?_
  refine cE hF (fun h1 hF => ?_) fun h1 hF => ?_
  · refine awp_true (by kernel_rfl) h1 ?_
    refine awp_skip ?_
    refine awp_seq ?_
    refine awp_block ?_
    refine awp_seq ?_
    refine awp_region ?_
    refine aR 2 ?_
    refine aE ?_
    refine awp_seq ?_
    refine bE hF fun vc1 h2 hF => ?_
    refine bE hF fun _ h3 hF => ?_
    refine awp_region ?_
    refine aR 3 ?_
    refine aX (x_idxS h2) ?_
    refine aC (strings_IndexByte_ok h3) [] [] [] ?_
    refine aR 1 ?_
    refine aE ?_
    refine cE hF (fun h4 hF => ?_) fun h4 hF => ?_
    · refine awp_true (by kernel_rfl) h4 ?_
      refine awp_seq ?_
      refine awp_region ?_
      refine aR 1 ?_
      refine aE ?_
      refine awp_ret ?_
      exact oO hF [] [] rfl
    · refine awp_false (by kernel_rfl) h4 ?_
      refine awp_skip ?_
      refine awp_region ?_
      refine aR 2 ?_
      refine aE ?_
      exact oO hF [] [] rfl
  · refine awp_false (by kernel_rfl) h1 ?_
    refine awp_exit ?_
    exact oO hF [] [] rfl

def fleetref2_only_R (qs : List UInt8) (qsome : List UInt8) (r : Bool) : TV × Mem := (.v (.one (.d (.bool r))), ⟨[], []⟩)

theorem fleetref2_only_ok {qs : List UInt8} {qsome : List UInt8} {r} (hF : fleetref2_only qs qsome = some r) : Holds prog 58 [.v (.one (.d (.str qs))), .v (.one (.d (.str qsome)))] ⟨[], []⟩ (Is (fleetref2_only_R qs qsome r)) := by
  unfold fleetref2_only at hF
  refine holds_of_awp hΓ (fn := f58) (c := cB f58) (A := 0) (nx := 0) (by kernel_rfl) (by kernel_rfl) (by kernel_rfl) (by kernel_rfl) (by kernel_rfl) (by kernel_rfl) (lowc_of (by kernel_rfl)) ?_
  show Awp prog 0 18 (cB f58) _ _
  refine awp_seq ?_
  refine awp_region ?_
  refine aR 1 ?_
  refine aE ?_
  refine awp_seq ?_
  refine awp_seq ?_
  refine awp_region ?_
  refine aR 3 ?_
  refine aE ?_
  refine awp_block ?_
  refine awp_to (st' := fleetref2_only_x1_H qs qsome 0) (oT [] []) ?_
  refine bE hF fun x h5 hF => ?_
  rcases x with _ | _
  · refine awp_sub (awp_loop' (fleetref2_only_x1_H qs qsome) fleetref2_only_x1_k (fleetref2_only_x1_S qs qsome) (by intro x; rcases x with x | x <;> exact fun h => nomatch h) h5 (fleetref2_only_x1_ok qs qsome)) ?_
    refine awp_seq ?_
    refine awp_region ?_
    refine aR 1 ?_
    refine aE ?_
    refine awp_ret ?_
    exact oF hF [] []
  · refine awp_sub (awp_loop' (fleetref2_only_x1_H qs qsome) fleetref2_only_x1_k (fleetref2_only_x1_S qs qsome) (by intro x; rcases x with x | x <;> exact fun h => nomatch h) h5 (fleetref2_only_x1_ok qs qsome)) ?_
    exact oF hF [] []

/-! ### beaconfleet/fleetref2.Key -/
def fleetref2_Key_x1_k : Bool → AEx
  | _ => .normal

def fleetref2_Key_x1_S (qs : List UInt8) : Bool → St
  | vx => Mem.st ⟨[], []⟩ (tl [(2, .v (.one (.d (.bool vx))))]) 0

def fleetref2_Key_x1_I (qs : List UInt8) : St := Mem.st ⟨[], []⟩ (tl [(0, .v (.one (.d (.str qs))))]) 0

theorem fleetref2_Key_x1_ok (qs : List UInt8) {r} (hF : fleetref2_Key_x1 qs = some r) : Awp prog 0 15 (cL (cR (cB f44))) (Out 0 fleetref2_Key_x1_k (fleetref2_Key_x1_S qs) r) (fleetref2_Key_x1_I qs) := by
  unfold fleetref2_Key_x1 at hF
  refine bE hF fun vr h1 hF => ?_
  refine cE hF (fun h2 hF => ?_) fun h2 hF => ?_
  · refine bE hF fun vs h3 hF => ?_
    refine bE hF fun vr1 h4 hF => ?_
    refine cE hF (fun h5 hF => ?_) fun h5 hF => ?_
    · refine bE hF fun vr2 h6 hF => ?_
      refine awp_region ?_
      refine aR 2 ?_
      refine aCb (fleetref2_in_ok h1) [] [] [] h2 ?_
      refine aR 2 ?_
      refine aX (x_sliceS h3) ?_
      refine aCb (fleetref2_only_ok h4) [] [] [] h5 ?_
      refine aR 3 ?_
      refine aC (fleetref2_only_ok h6) [] [] [] ?_
      refine aR 2 ?_
      refine aE ?_
      exact oO hF [] [] rfl
    · refine awp_region ?_
      refine aR 2 ?_
      refine aCb (fleetref2_in_ok h1) [] [] [] h2 ?_
      refine aR 2 ?_
      refine aX (x_sliceS h3) ?_
      refine aCb (fleetref2_only_ok h4) [] [] [] h5 ?_
      refine aR 6 ?_
      refine aE ?_
      exact oO hF [] [] rfl
  · refine awp_region ?_
    refine aR 2 ?_
    refine aCb (fleetref2_in_ok h1) [] [] [] h2 ?_
    refine aR 10 ?_
    refine aE ?_
    exact oO hF [] [] rfl

def fleetref2_Key_R (qs : List UInt8) (r : Bool) : TV × Mem := (.v (.one (.d (.bool r))), ⟨[], []⟩)

theorem fleetref2_Key_ok {qs : List UInt8} {r} (hF : fleetref2_Key qs = some r) : Holds prog 44 [.v (.one (.d (.str qs)))] ⟨[], []⟩ (Is (fleetref2_Key_R qs r)) := by
  unfold fleetref2_Key at hF
  refine holds_of_awp hΓ (fn := f44) (c := cB f44) (A := 0) (nx := 0) (by kernel_rfl) (by kernel_rfl) (by kernel_rfl) (by kernel_rfl) (by kernel_rfl) (by kernel_rfl) (lowc_of (by kernel_rfl)) ?_
  show Awp prog 0 15 (cB f44) _ _
  refine awp_seq ?_
  refine awp_region ?_
  refine aR 1 ?_
  refine aE ?_
  refine awp_seq ?_
  refine awp_to (st' := fleetref2_Key_x1_I qs) (oT [] []) ?_
  refine bE hF fun vx1 h7 hF => ?_
  refine awp_sub (fleetref2_Key_x1_ok qs h7) ?_
  refine awp_ret ?_
  exact oF hF [] []

/-! ### beaconfleet/fleetref2.Printed$1 -/
def fleetref2_Printed_1_x1_k : Bool → AEx
  | _ => .normal

def fleetref2_Printed_1_x1_S (qr : Int) : Bool → St
  | vx => Mem.st ⟨[], []⟩ (tl [(2, .v (.one (.d (.bool vx))))]) 0

def fleetref2_Printed_1_x1_I (qr : Int) : St := Mem.st ⟨[], []⟩ (tl [(0, .v (.one (.d (.int .i32 qr))))]) 0

theorem fleetref2_Printed_1_x1_ok (qr : Int) {r} (hF : fleetref2_Printed_1_x1 qr = some r) : Awp prog 0 9 (cL (cR (cB f61))) (Out 0 fleetref2_Printed_1_x1_k (fleetref2_Printed_1_x1_S qr) r) (fleetref2_Printed_1_x1_I qr) := by
  unfold fleetref2_Printed_1_x1 at hF
  refine cE hF (fun h1 hF => ?_) fun h1 hF => ?_
  · refine awp_region ?_
    refine aR 1 ?_
    refine aB h1 ?_
    refine aR 5 ?_
    refine aE ?_
    exact oO hF [] [] rfl
  · refine awp_region ?_
    refine aR 1 ?_
    refine aB h1 ?_
    refine aR 5 ?_
    refine aE ?_
    exact oO hF [] [] rfl

def fleetref2_Printed_1_R (qr : Int) (r : Bool) : TV × Mem := (.v (.one (.d (.bool r))), ⟨[], []⟩)

theorem fleetref2_Printed_1_ok {qr : Int} {r} (hF : fleetref2_Printed_1 qr = some r) : Holds prog 61 [.v (.one (.d (.int .i32 qr)))] ⟨[], []⟩ (Is (fleetref2_Printed_1_R qr r)) := by
  unfold fleetref2_Printed_1 at hF
  refine holds_of_awp hΓ (fn := f61) (c := cB f61) (A := 0) (nx := 0) (by kernel_rfl) (by kernel_rfl) (by kernel_rfl) (by kernel_rfl) (by kernel_rfl) (by kernel_rfl) (lowc_of (by kernel_rfl)) ?_
  show Awp prog 0 9 (cB f61) _ _
  refine awp_seq ?_
  refine awp_region ?_
  refine aR 1 ?_
  refine aE ?_
  refine awp_seq ?_
  refine awp_to (st' := fleetref2_Printed_1_x1_I qr) (oT [] []) ?_
  refine bE hF fun vx1 h2 hF => ?_
  refine awp_sub (fleetref2_Printed_1_x1_ok qr h2) ?_
  refine awp_ret ?_
  exact oF hF [] []

/-! ### strings.indexFunc -/
def strings_indexFunc_f1_fleetref2_Printed_1_x1_k : Unit ⊕ Int → AEx
  | .inl _ => .exit 0
  | .inr _ => .ret

def strings_indexFunc_f1_fleetref2_Printed_1_x1_S (qs : List UInt8) (qtruth : Bool) : Unit ⊕ Int → St
  | .inl _ => Mem.st ⟨[], []⟩ (tl []) 0
  | .inr vx => Mem.st ⟨[], []⟩ (tl [(6, .v (.one (.d (.int .i64 vx))))]) 0

def strings_indexFunc_f1_fleetref2_Printed_1_x1_H (qs : List UInt8) (qtruth : Bool) : Nat → St
  | vpos => Mem.st ⟨[], [(0, [.iters qs vpos])]⟩ (tl [(1, .v (.one (.fn 61 []))), (2, .v (.one (.d (.bool qtruth)))), (10, .v (.one (.box 0 0)))]) 1

theorem strings_indexFunc_f1_fleetref2_Printed_1_x1_ok (qs : List UInt8) (qtruth : Bool) (vpos : Nat) (r : (Nat) ⊕ (Unit ⊕ Int)) (hF : strings_indexFunc_f1_fleetref2_Printed_1_x1 qs qtruth vpos = some r) : Awp prog 0 21 (cL (cL (cR (cL (cR (cB f85)))))) (Out 0 (kk strings_indexFunc_f1_fleetref2_Printed_1_x1_k) (SS (strings_indexFunc_f1_fleetref2_Printed_1_x1_H qs qtruth) (strings_indexFunc_f1_fleetref2_Printed_1_x1_S qs qtruth)) r) (strings_indexFunc_f1_fleetref2_Printed_1_x1_H qs qtruth vpos) := by
  unfold strings_indexFunc_f1_fleetref2_Printed_1_x1 at hF
  refine awp_seq ?_
  refine cE hF (fun h1 hF => ?_) fun h1 hF => ?_
  · refine bE hF fun vd1 h2 hF => ?_
    refine awp_region ?_
    refine aX (x_next 0 qs vpos h1 h2) ?_
    refine aR 1 ?_
    refine aE ?_
    refine awp_seq ?_
    refine awp_true (by kernel_rfl) rfl ?_
    refine awp_skip ?_
    refine awp_block ?_
    refine awp_seq ?_
    refine awp_region ?_
    refine aR 4 ?_
    refine aE ?_
    refine awp_seq ?_
    refine bE hF fun vr1 h3 hF => ?_
    refine awp_region ?_
    refine aR 2 ?_
    refine aC (fleetref2_Printed_1_ok h3) [] [] [] ?_
    refine aR 2 ?_
    refine aE ?_
    refine cE hF (fun h4 hF => ?_) fun h4 hF => ?_
    · refine awp_true (by kernel_rfl) h4 ?_
      refine awp_seq ?_
      refine awp_region ?_
      refine aR 2 ?_
      refine aE ?_
      refine awp_ret ?_
      exact oO hF [] [] rfl
    · refine awp_false (by kernel_rfl) h4 ?_
      refine awp_skip ?_
      exact oO hF [] [] rfl
  · refine awp_region ?_
    refine aX (x_nextE 0 qs vpos h1) ?_
    refine aR 1 ?_
    refine aE ?_
    refine awp_seq ?_
    refine awp_false (by kernel_rfl) rfl ?_
    refine awp_exit ?_
    exact oO hF [] [] rfl

def strings_indexFunc_f1_fleetref2_Printed_1_R (qs : List UInt8) (qtruth : Bool) (r : Int) : TV × Mem := (.v (.one (.d (.int .i64 r))), ⟨[], []⟩)

theorem strings_indexFunc_f1_fleetref2_Printed_1_ok {qs : List UInt8} {qtruth : Bool} {r} (hF : strings_indexFunc_f1_fleetref2_Printed_1 qs qtruth = some r) : Holds prog 85 [.v (.one (.d (.str qs))), .v (.one (.fn 61 [])), .v (.one (.d (.bool qtruth)))] ⟨[], []⟩ (Is (strings_indexFunc_f1_fleetref2_Printed_1_R qs qtruth r)) := by
  unfold strings_indexFunc_f1_fleetref2_Printed_1 at hF
  refine holds_of_awp hΓ (fn := f85) (c := cB f85) (A := 0) (nx := 0) (by kernel_rfl) (by kernel_rfl) (by kernel_rfl) (by kernel_rfl) (by kernel_rfl) (by kernel_rfl) (lowc_of (by kernel_rfl)) ?_
  show Awp prog 0 21 (cB f85) _ _
  refine awp_seq ?_
  refine awp_region ?_
  refine aR 1 ?_
  refine aE ?_
  refine awp_seq ?_
  refine awp_seq ?_
  refine awp_region ?_
  refine aR 2 ?_
  refine aE ?_
  refine awp_block ?_
  refine awp_to (st' := strings_indexFunc_f1_fleetref2_Printed_1_x1_H qs qtruth (0 : Nat)) (oT [(0, 2000)] []) ?_
  refine bE hF fun x h5 hF => ?_
  rcases x with _ | vx1
  · refine awp_sub (awp_loop' (strings_indexFunc_f1_fleetref2_Printed_1_x1_H qs qtruth) strings_indexFunc_f1_fleetref2_Printed_1_x1_k (strings_indexFunc_f1_fleetref2_Printed_1_x1_S qs qtruth) (by intro x; rcases x with x | x <;> exact fun h => nomatch h) h5 (strings_indexFunc_f1_fleetref2_Printed_1_x1_ok qs qtruth)) ?_
    refine awp_seq ?_
    refine awp_region ?_
    refine aR 1 ?_
    refine aE ?_
    refine awp_ret ?_
    exact oF hF [] []
  · refine awp_sub (awp_loop' (strings_indexFunc_f1_fleetref2_Printed_1_x1_H qs qtruth) strings_indexFunc_f1_fleetref2_Printed_1_x1_k (strings_indexFunc_f1_fleetref2_Printed_1_x1_S qs qtruth) (by intro x; rcases x with x | x <;> exact fun h => nomatch h) h5 (strings_indexFunc_f1_fleetref2_Printed_1_x1_ok qs qtruth)) ?_
    exact oF hF [] []

/-! ### strings.IndexFunc -/
def strings_IndexFunc_f1_fleetref2_Printed_1_R (qs : List UInt8) (r : Int) : TV × Mem := (.v (.one (.d (.int .i64 r))), ⟨[], []⟩)

theorem strings_IndexFunc_f1_fleetref2_Printed_1_ok {qs : List UInt8} {r} (hF : strings_IndexFunc_f1_fleetref2_Printed_1 qs = some r) : Holds prog 77 [.v (.one (.d (.str qs))), .v (.one (.fn 61 []))] ⟨[], []⟩ (Is (strings_IndexFunc_f1_fleetref2_Printed_1_R qs r)) := by
  unfold strings_IndexFunc_f1_fleetref2_Printed_1 at hF
  refine holds_of_awp hΓ (fn := f77) (c := cB f77) (A := 0) (nx := 0) (by kernel_rfl) (by kernel_rfl) (by kernel_rfl) (by kernel_rfl) (by kernel_rfl) (by kernel_rfl) (lowc_of (by kernel_rfl)) ?_
  show Awp prog 0 8 (cB f77) _ _
  refine awp_seq ?_
  refine awp_region ?_
  refine aR 1 ?_
  refine aE ?_
  refine awp_seq ?_
  refine bE hF fun vr2 h1 hF => ?_
  refine awp_region ?_
  refine aR 2 ?_
  refine aC (strings_indexFunc_f1_fleetref2_Printed_1_ok h1) [] [] [] ?_
  refine aR 1 ?_
  refine aE ?_
  refine awp_ret ?_
  exact oF hF [] []

/-! ### strings.ContainsFunc -/
def strings_ContainsFunc_f1_fleetref2_Printed_1_R (qs : List UInt8) (r : Bool) : TV × Mem := (.v (.one (.d (.bool r))), ⟨[], []⟩)

theorem strings_ContainsFunc_f1_fleetref2_Printed_1_ok {qs : List UInt8} {r} (hF : strings_ContainsFunc_f1_fleetref2_Printed_1 qs = some r) : Holds prog 60 [.v (.one (.d (.str qs))), .v (.one (.fn 61 []))] ⟨[], []⟩ (Is (strings_ContainsFunc_f1_fleetref2_Printed_1_R qs r)) := by
  unfold strings_ContainsFunc_f1_fleetref2_Printed_1 at hF
  refine holds_of_awp hΓ (fn := f60) (c := cB f60) (A := 0) (nx := 0) (by kernel_rfl) (by kernel_rfl) (by kernel_rfl) (by kernel_rfl) (by kernel_rfl) (by kernel_rfl) (lowc_of (by kernel_rfl)) ?_
  show Awp prog 0 9 (cB f60) _ _
  refine awp_seq ?_
  refine awp_region ?_
  refine aR 1 ?_
  refine aE ?_
  refine awp_seq ?_
  refine bE hF fun vr h1 hF => ?_
  refine awp_region ?_
  refine aR 2 ?_
  refine aC (strings_IndexFunc_f1_fleetref2_Printed_1_ok h1) [] [] [] ?_
  refine aR 2 ?_
  refine aE ?_
  refine awp_ret ?_
  exact oF hF [] []

/-! ### beaconfleet/fleetref2.Printed -/
def fleetref2_Printed_x1_k : Bool → AEx
  | _ => .normal

def fleetref2_Printed_x1_S (qs : List UInt8) : Bool → St
  | vx => Mem.st ⟨[], []⟩ (tl [(2, .v (.one (.d (.bool vx))))]) 0

def fleetref2_Printed_x1_I (qs : List UInt8) : St := Mem.st ⟨[], []⟩ (tl [(0, .v (.one (.d (.str qs))))]) 0

theorem fleetref2_Printed_x1_ok (qs : List UInt8) {r} (hF : fleetref2_Printed_x1 qs = some r) : Awp prog 0 10 (cL (cR (cB f45))) (Out 0 fleetref2_Printed_x1_k (fleetref2_Printed_x1_S qs) r) (fleetref2_Printed_x1_I qs) := by
  unfold fleetref2_Printed_x1 at hF
  refine bE hF fun vr h1 hF => ?_
  refine cE hF (fun h2 hF => ?_) fun h2 hF => ?_
  · refine bE hF fun vr1 h3 hF => ?_
    refine awp_region ?_
    refine aR 1 ?_
    refine aCb (utf8_ValidString_ok h1) [] [] [] h2 ?_
    refine aR 2 ?_
    refine aC (strings_ContainsFunc_f1_fleetref2_Printed_1_ok h3) [] [] [] ?_
    refine aR 3 ?_
    refine aE ?_
    exact oO hF [] [] rfl
  · refine awp_region ?_
    refine aR 1 ?_
    refine aCb (utf8_ValidString_ok h1) [] [] [] h2 ?_
    refine aR 6 ?_
    refine aE ?_
    exact oO hF [] [] rfl

def fleetref2_Printed_R (qs : List UInt8) (r : Bool) : TV × Mem := (.v (.one (.d (.bool r))), ⟨[], []⟩)

theorem fleetref2_Printed_ok {qs : List UInt8} {r} (hF : fleetref2_Printed qs = some r) : Holds prog 45 [.v (.one (.d (.str qs)))] ⟨[], []⟩ (Is (fleetref2_Printed_R qs r)) := by
  unfold fleetref2_Printed at hF
  refine holds_of_awp hΓ (fn := f45) (c := cB f45) (A := 0) (nx := 0) (by kernel_rfl) (by kernel_rfl) (by kernel_rfl) (by kernel_rfl) (by kernel_rfl) (by kernel_rfl) (lowc_of (by kernel_rfl)) ?_
  show Awp prog 0 10 (cB f45) _ _
  refine awp_seq ?_
  refine awp_region ?_
  refine aR 1 ?_
  refine aE ?_
  refine awp_seq ?_
  refine awp_to (st' := fleetref2_Printed_x1_I qs) (oT [] []) ?_
  refine bE hF fun vx1 h4 hF => ?_
  refine awp_sub (fleetref2_Printed_x1_ok qs h4) ?_
  refine awp_ret ?_
  exact oF hF [] []

/-! ### beaconfleet/fleetref2.Moment -/
def fleetref2_Moment_R (qat : Int) (r : Bool) : TV × Mem := (.v (.one (.d (.bool r))), ⟨[], []⟩)

theorem fleetref2_Moment_ok {qat : Int} {r} (hF : fleetref2_Moment qat = some r) : Holds prog 25 [.v (.one (.d (.int .i64 qat)))] ⟨[], []⟩ (Is (fleetref2_Moment_R qat r)) := by
  unfold fleetref2_Moment at hF
  refine holds_of_awp hΓ (fn := f25) (c := cB f25) (A := 0) (nx := 0) (by kernel_rfl) (by kernel_rfl) (by kernel_rfl) (by kernel_rfl) (by kernel_rfl) (by kernel_rfl) (lowc_of (by kernel_rfl)) ?_
  show Awp prog 0 5 (cB f25) _ _
  refine awp_seq ?_
  refine awp_region ?_
  refine aR 1 ?_
  refine aE ?_
  refine awp_seq ?_
  refine bE hF fun vr h1 hF => ?_
  refine awp_region ?_
  refine aR 1 ?_
  refine aC (fleetref2_in_ok h1) [] [] [] ?_
  refine aR 1 ?_
  refine aE ?_
  refine awp_ret ?_
  exact oF hF [] []

/-! ### beaconfleet/fleetref2.LetterFault -/
def fleetref2_LetterFault_x1_k : Bool → AEx
  | _ => .normal

def fleetref2_LetterFault_x1_S (ql : api_Letter) : Bool → St
  | vx => Mem.st ⟨[], [(0, [.d (.str ql.Id), .d (.str ql.Slot), .d (.str ql.Body), .d (.int .i64 ql.Prio), .d (.int .i64 ql.At), .d (.int .i64 ql.Until)])]⟩ (tl [(1, .v (.one (.box 0 0))), (3, .v (.one (.d (.bool vx))))]) 1

def fleetref2_LetterFault_x1_I (ql : api_Letter) : St := Mem.st ⟨[], [(0, [.d (.str ql.Id), .d (.str ql.Slot), .d (.str ql.Body), .d (.int .i64 ql.Prio), .d (.int .i64 ql.At), .d (.int .i64 ql.Until)])]⟩ (tl [(1, .v (.one (.box 0 0)))]) 1

theorem fleetref2_LetterFault_x1_ok (ql : api_Letter) {r} (hF : fleetref2_LetterFault_x1 ql = some r) : Awp prog 0 52 (cL (cL (cL (cR (cB f23))))) (Out 0 fleetref2_LetterFault_x1_k (fleetref2_LetterFault_x1_S ql) r) (fleetref2_LetterFault_x1_I ql) := by
  unfold fleetref2_LetterFault_x1 at hF
  refine bE hF fun vr3 h1 hF => ?_
  refine cE hF (fun h2 hF => ?_) fun h2 hF => ?_
  · refine awp_region ?_
    refine aR 2 ?_
    refine aC (fleetref2_Key_ok h1) [] [] [] ?_
    refine aB h2 ?_
    refine aR 12 ?_
    refine aE ?_
    exact oO hF [] [] rfl
  · refine cE hF (fun h3 hF => ?_) fun h3 hF => ?_
    · refine bE hF fun vr3_1 h4 hF => ?_
      refine awp_region ?_
      refine aR 2 ?_
      refine aC (fleetref2_Key_ok h1) [] [] [] ?_
      refine aB h2 ?_
      refine aR 3 ?_
      refine aB h3 ?_
      refine aR 3 ?_
      refine aC (fleetref2_Key_ok h4) [] [] [] ?_
      refine aR 4 ?_
      refine aE ?_
      exact oO hF [] [] rfl
    · refine awp_region ?_
      refine aR 2 ?_
      refine aC (fleetref2_Key_ok h1) [] [] [] ?_
      refine aB h2 ?_
      refine aR 3 ?_
      refine aB h3 ?_
      refine aR 8 ?_
      refine aE ?_
      exact oO hF [] [] rfl

def fleetref2_LetterFault_x2_k : Bool → AEx
  | _ => .normal

def fleetref2_LetterFault_x2_S (ql : api_Letter) : Bool → St
  | vx2 => Mem.st ⟨[], []⟩ (tl [(29, .v (.one (.d (.bool vx2))))]) 0

def fleetref2_LetterFault_x2_I (ql : api_Letter) : St := Mem.st ⟨[], [(0, [.d (.str ql.Id), .d (.str ql.Slot), .d (.str ql.Body), .d (.int .i64 ql.Prio), .d (.int .i64 ql.At), .d (.int .i64 ql.Until)])]⟩ (tl [(1, .v (.one (.box 0 0)))]) 1

theorem fleetref2_LetterFault_x2_ok (ql : api_Letter) {r} (hF : fleetref2_LetterFault_x2 ql = some r) : Awp prog 0 52 (cL (cR (cR (cR (cR (cR (cR (cL (cL (cR (cB f23))))))))))) (Out 0 fleetref2_LetterFault_x2_k (fleetref2_LetterFault_x2_S ql) r) (fleetref2_LetterFault_x2_I ql) := by
  unfold fleetref2_LetterFault_x2 at hF
  refine bE hF fun vr h10 hF => ?_
  refine cE hF (fun h11 hF => ?_) fun h11 hF => ?_
  · refine awp_region ?_
    refine aR 2 ?_
    refine aC (fleetref2_in_ok h10) [] [] [] ?_
    refine aB h11 ?_
    refine aR 19 ?_
    refine aE ?_
    exact oO hF [] [] rfl
  · refine bE hF fun vr1 h12 hF => ?_
    refine cE hF (fun h13 hF => ?_) fun h13 hF => ?_
    · refine awp_region ?_
      refine aR 2 ?_
      refine aC (fleetref2_in_ok h10) [] [] [] ?_
      refine aB h11 ?_
      refine aR 3 ?_
      refine aC (fleetref2_Moment_ok h12) [] [] [] ?_
      refine aB h13 ?_
      refine aR 14 ?_
      refine aE ?_
      exact oO hF [] [] rfl
    · refine cE hF (fun h14 hF => ?_) fun h14 hF => ?_
      · refine awp_region ?_
        refine aR 2 ?_
        refine aC (fleetref2_in_ok h10) [] [] [] ?_
        refine aB h11 ?_
        refine aR 3 ?_
        refine aC (fleetref2_Moment_ok h12) [] [] [] ?_
        refine aB h13 ?_
        refine aR 6 ?_
        refine aB h14 ?_
        refine aR 7 ?_
        refine aE ?_
        exact oO hF [] [] rfl
      · refine awp_region ?_
        refine aR 2 ?_
        refine aC (fleetref2_in_ok h10) [] [] [] ?_
        refine aB h11 ?_
        refine aR 3 ?_
        refine aC (fleetref2_Moment_ok h12) [] [] [] ?_
        refine aB h13 ?_
        refine aR 6 ?_
        refine aB h14 ?_
        refine aR 7 ?_
        refine aE ?_
        exact oO hF [] [] rfl

def fleetref2_LetterFault_R (ql : api_Letter) (r : Int) : TV × Mem := (.v (.one (.d (.int .i64 r))), ⟨[], []⟩)

theorem fleetref2_LetterFault_ok {ql : api_Letter} {r} (hF : fleetref2_LetterFault ql = some r) : Holds prog 23 [.v (.agg [.d (.str ql.Id), .d (.str ql.Slot), .d (.str ql.Body), .d (.int .i64 ql.Prio), .d (.int .i64 ql.At), .d (.int .i64 ql.Until)])] ⟨[], []⟩ (Is (fleetref2_LetterFault_R ql r)) := by
  unfold fleetref2_LetterFault at hF
  refine holds_of_awp hΓ (fn := f23) (c := cB f23) (A := 0) (nx := 0) (by kernel_rfl) (by kernel_rfl) (by kernel_rfl) (by kernel_rfl) (by kernel_rfl) (by kernel_rfl) (lowc_of (by kernel_rfl)) ?_
  show Awp prog 0 52 (cB f23) _ _
  refine awp_seq ?_
  refine awp_region ?_
  refine aR 2 ?_
  refine aE ?_
  refine awp_seq ?_
  refine awp_block ?_
  refine awp_seq ?_
  refine awp_to (st' := fleetref2_LetterFault_x1_I ql) (oT [] []) ?_
  refine bE hF fun vx1 h5 hF => ?_
  refine awp_sub (fleetref2_LetterFault_x1_ok ql h5) ?_
  refine cE hF (fun h6 hF => ?_) fun h6 hF => ?_
  · refine awp_true (by kernel_rfl) h6 ?_
    refine awp_seq ?_
    refine awp_region ?_
    refine aR 1 ?_
    refine aE ?_
    refine awp_ret ?_
    exact oF hF [] []
  · refine awp_false (by kernel_rfl) h6 ?_
    refine awp_seq ?_
    refine awp_region ?_
    refine aR 5 ?_
    refine aE ?_
    refine cE hF (fun h7 hF => ?_) fun h7 hF => ?_
    · refine awp_true (by kernel_rfl) h7 ?_
      refine awp_seq ?_
      refine awp_region ?_
      refine aR 1 ?_
      refine aE ?_
      refine awp_ret ?_
      exact oF hF [] []
    · refine awp_false (by kernel_rfl) h7 ?_
      refine awp_seq ?_
      refine bE hF fun vr2 h8 hF => ?_
      refine awp_region ?_
      refine aR 2 ?_
      refine aC (fleetref2_Printed_ok h8) [] [] [] ?_
      refine aR 2 ?_
      refine aE ?_
      refine cE hF (fun h9 hF => ?_) fun h9 hF => ?_
      · refine awp_true (by kernel_rfl) h9 ?_
        refine awp_seq ?_
        refine awp_region ?_
        refine aR 1 ?_
        refine aE ?_
        refine awp_ret ?_
        exact oF hF [] []
      · refine awp_false (by kernel_rfl) h9 ?_
        refine awp_seq ?_
        refine awp_to (st' := fleetref2_LetterFault_x2_I ql) (oT [] []) ?_
        refine bE hF fun vx2_1 h15 hF => ?_
        refine awp_sub (fleetref2_LetterFault_x2_ok ql h15) ?_
        refine cE hF (fun h16 hF => ?_) fun h16 hF => ?_
        · refine awp_true (by kernel_rfl) h16 ?_
          refine awp_seq ?_
          refine awp_region ?_
          refine aR 1 ?_
          refine aE ?_
          refine awp_ret ?_
          exact oF hF [] []
        · refine awp_false (by kernel_rfl) h16 ?_
          refine awp_skip ?_
          refine awp_seq ?_
          refine awp_region ?_
          refine aR 1 ?_
          refine aE ?_
          refine awp_ret ?_
          exact oF hF [] []

/-! ### beaconfleet/fleetref2.NotesFault -/
def fleetref2_NotesFault_x2_k : Bool → AEx
  | _ => .normal

def fleetref2_NotesFault_x2_S (ql : List api_Note) (vlast : List UInt8) (vx : Int) (vy1 : api_Note) : Bool → St
  | vx2 => Mem.st ⟨[], [(0, [.d (.str vy1.Letter.Id), .d (.str vy1.Letter.Slot), .d (.str vy1.Letter.Body), .d (.int .i64 vy1.Letter.Prio), .d (.int .i64 vy1.Letter.At), .d (.int .i64 vy1.Letter.Until), .d (.int .i64 vy1.State), .d (.int .i64 vy1.Tries), .d (.int .i64 vy1.Since)])]⟩ (tl [(3, .v (.one (.d (.str vlast)))), (5, .v (.one (.box 0 0))), (10, .v (.one (.d (.lst (List.map api_Note.enc ql))))), (11, .v (.one (.d (.int .i64 (ql.length : Int))))), (12, .v (.one (.d (.int .i64 vx)))), (27, .v (.one (.d (.bool vx2))))]) 1

def fleetref2_NotesFault_x2_I (ql : List api_Note) (vlast : List UInt8) (vx : Int) (vy1 : api_Note) : St := Mem.st ⟨[], [(0, [.d (.str vy1.Letter.Id), .d (.str vy1.Letter.Slot), .d (.str vy1.Letter.Body), .d (.int .i64 vy1.Letter.Prio), .d (.int .i64 vy1.Letter.At), .d (.int .i64 vy1.Letter.Until), .d (.int .i64 vy1.State), .d (.int .i64 vy1.Tries), .d (.int .i64 vy1.Since)])]⟩ (tl [(3, .v (.one (.d (.str vlast)))), (5, .v (.one (.box 0 0))), (10, .v (.one (.d (.lst (List.map api_Note.enc ql))))), (11, .v (.one (.d (.int .i64 (ql.length : Int))))), (12, .v (.one (.d (.int .i64 vx))))]) 1

theorem fleetref2_NotesFault_x2_ok (ql : List api_Note) (vlast : List UInt8) (vx : Int) (vy1 : api_Note) {r} (hF : fleetref2_NotesFault_x2 vy1 = some r) : Awp prog 0 48 (cL (cR (cR (cL (cL (cR (cR (cL (cL (cR (cR (cL (cL (cR (cL (cR (cR (cR (cB f10))))))))))))))))))) (Out 0 fleetref2_NotesFault_x2_k (fleetref2_NotesFault_x2_S ql vlast vx vy1) r) (fleetref2_NotesFault_x2_I ql vlast vx vy1) := by
  unfold fleetref2_NotesFault_x2 at hF
  refine bE hF fun vr3 h8 hF => ?_
  refine cE hF (fun h9 hF => ?_) fun h9 hF => ?_
  · refine awp_region ?_
    refine aR 2 ?_
    refine aC (fleetref2_in_ok h8) [] [] [] ?_
    refine aB h9 ?_
    refine aR 7 ?_
    refine aE ?_
    exact oO hF [] [] rfl
  · refine bE hF fun vr1_2 h10 hF => ?_
    refine awp_region ?_
    refine aR 2 ?_
    refine aC (fleetref2_in_ok h8) [] [] [] ?_
    refine aB h9 ?_
    refine aR 3 ?_
    refine aC (fleetref2_Moment_ok h10) [] [] [] ?_
    refine aR 3 ?_
    refine aE ?_
    exact oO hF [] [] rfl

def fleetref2_NotesFault_x1_k : Unit ⊕ Int → AEx
  | .inl _ => .exit 0
  | .inr _ => .ret

def fleetref2_NotesFault_x1_S (ql : List api_Note) : Unit ⊕ Int → St
  | .inl _ => Mem.st ⟨[], []⟩ (tl []) 0
  | .inr vx3 => Mem.st ⟨[], []⟩ (tl [(2, .v (.one (.d (.int .i64 vx3))))]) 0

def fleetref2_NotesFault_x1_H (ql : List api_Note) : (List UInt8) × Int → St
  | (vlast, vx) => Mem.st ⟨[], []⟩ (tl [(3, .v (.one (.d (.str vlast)))), (10, .v (.one (.d (.lst (List.map api_Note.enc ql))))), (11, .v (.one (.d (.int .i64 (ql.length : Int))))), (12, .v (.one (.d (.int .i64 vx))))]) 0

theorem fleetref2_NotesFault_x1_ok (ql : List api_Note) (s : (List UInt8) × Int) (r : ((List UInt8) × Int) ⊕ (Unit ⊕ Int)) (hF : fleetref2_NotesFault_x1 ql s = some r) : Awp prog 0 48 (cL (cL (cR (cL (cR (cR (cR (cB f10)))))))) (Out 0 (kk fleetref2_NotesFault_x1_k) (SS (fleetref2_NotesFault_x1_H ql) (fleetref2_NotesFault_x1_S ql)) r) (fleetref2_NotesFault_x1_H ql s) := by
  obtain ⟨vlast, vx⟩ := s
  unfold fleetref2_NotesFault_x1 at hF
  refine awp_seq ?_
  refine awp_region ?_
  refine aR 1 ?_
  refine aE ?_
  refine awp_seq ?_
  refine cE hF (fun h2 hF => ?_) fun h2 hF => ?_
  · refine awp_true (by kernel_rfl) h2 ?_
    refine awp_skip ?_
    refine awp_seq ?_
    refine awp_block ?_
    refine awp_seq ?_
    refine bE hF fun vy1 h3 hF => ?_
    refine awp_region ?_
    refine aX (x_idx api_Note.enc h3) ?_
    refine aR 3 ?_
    refine aE ?_
    refine awp_seq ?_
    refine awp_seq ?_
    refine bE hF fun vr4_1 h4 hF => ?_
    refine awp_region ?_
    refine aR 2 ?_
    refine aC (fleetref2_LetterFault_ok h4) [] [] [] ?_
    refine aR 1 ?_
    refine aE ?_
    refine awp_seq ?_
    refine awp_region ?_
    refine aR 2 ?_
    refine aE ?_
    refine cE hF (fun h5 hF => ?_) fun h5 hF => ?_
    · refine awp_true (by kernel_rfl) h5 ?_
      refine awp_seq ?_
      refine awp_region ?_
      refine aR 2 ?_
      refine aE ?_
      refine awp_ret ?_
      exact oO hF [] [] rfl
    · refine awp_false (by kernel_rfl) h5 ?_
      refine awp_skip ?_
      refine awp_seq ?_
      refine awp_block ?_
      refine awp_seq ?_
      refine bE hF fun vr2 h6 hF => ?_
      refine awp_region ?_
      refine aR 2 ?_
      refine aC (fleetref2_in_ok h6) [] [] [] ?_
      refine aR 2 ?_
      refine aE ?_
      refine cE hF (fun h7 hF => ?_) fun h7 hF => ?_
      · refine awp_true (by kernel_rfl) h7 ?_
        refine awp_seq ?_
        refine awp_region ?_
        refine aR 1 ?_
        refine aE ?_
        refine awp_ret ?_
        exact oO hF [] [] rfl
      · refine awp_false (by kernel_rfl) h7 ?_
        refine awp_seq ?_
        refine awp_to (st' := fleetref2_NotesFault_x2_I ql vlast vx vy1) (oT [(0, 3000)] []) ?_
        refine bE hF fun vx2_1 h11 hF => ?_
        refine awp_sub (fleetref2_NotesFault_x2_ok ql vlast vx vy1 h11) ?_
        refine cE hF (fun h12 hF => ?_) fun h12 hF => ?_
        · refine awp_true (by kernel_rfl) h12 ?_
          refine awp_seq ?_
          refine awp_region ?_
          refine aR 1 ?_
          refine aE ?_
          refine awp_ret ?_
          exact oO hF [] [] rfl
        · refine awp_false (by kernel_rfl) h12 ?_
          refine awp_seq ?_
          refine awp_region ?_
          refine aR 6 ?_
          refine aE ?_
          refine cE hF (fun h13 hF => ?_) fun h13 hF => ?_
          · refine awp_true (by kernel_rfl) h13 ?_
            refine awp_seq ?_
            refine awp_region ?_
            refine aR 1 ?_
            refine aE ?_
            refine awp_ret ?_
            exact oO hF [] [] rfl
          · refine awp_false (by kernel_rfl) h13 ?_
            refine awp_skip ?_
            refine awp_region ?_
            refine aR 4 ?_
            refine aE ?_
            refine awp_region ?_
            refine aR 2 ?_
            refine aE ?_
            exact oO hF [] [] rfl
  · refine awp_false (by kernel_rfl) h2 ?_
    refine awp_exit ?_
    exact oO hF [] [] rfl

def fleetref2_NotesFault_R (ql : List api_Note) (r : Int) : TV × Mem := (.v (.one (.d (.int .i64 r))), ⟨[], []⟩)

theorem fleetref2_NotesFault_ok {ql : List api_Note} {r} (hF : fleetref2_NotesFault ql = some r) : Holds prog 10 [.v (.one (.d (.lst (List.map api_Note.enc ql))))] ⟨[], []⟩ (Is (fleetref2_NotesFault_R ql r)) := by
  unfold fleetref2_NotesFault at hF
  refine holds_of_awp hΓ (fn := f10) (c := cB f10) (A := 0) (nx := 0) (by kernel_rfl) (by kernel_rfl) (by kernel_rfl) (by kernel_rfl) (by kernel_rfl) (by kernel_rfl) (lowc_of (by kernel_rfl)) ?_
  show Awp prog 0 48 (cB f10) _ _
  refine awp_seq ?_
  refine awp_region ?_
  refine aR 1 ?_
  refine aE ?_
  refine awp_seq ?_
  refine awp_seq ?_
  refine awp_region ?_
  refine aR 1 ?_
  refine aL api_Note.enc ql ?_
  refine aR 1 ?_
  refine aE ?_
  refine cE hF (fun h1 hF => ?_) fun h1 hF => ?_
  · refine awp_true (by kernel_rfl) h1 ?_
    refine awp_seq ?_
    refine awp_region ?_
    refine aR 1 ?_
    refine aE ?_
    refine awp_ret ?_
    exact oF hF [] []
  · refine awp_false (by kernel_rfl) h1 ?_
    refine awp_skip ?_
    refine awp_seq ?_
    refine awp_region ?_
    refine aR 1 ?_
    refine aE ?_
    refine awp_seq ?_
    refine awp_seq ?_
    refine awp_region ?_
    refine aR 1 ?_
    refine aL api_Note.enc ql ?_
    refine aR 1 ?_
    refine aE ?_
    refine awp_block ?_
    refine awp_to (st' := fleetref2_NotesFault_x1_H ql (([] : List UInt8), 0)) (oT [] []) ?_
    refine bE hF fun x h14 hF => ?_
    rcases x with _ | vx3_1
    · refine awp_sub (awp_loop' (fleetref2_NotesFault_x1_H ql) fleetref2_NotesFault_x1_k (fleetref2_NotesFault_x1_S ql) (by intro x; rcases x with x | x <;> exact fun h => nomatch h) h14 (fleetref2_NotesFault_x1_ok ql)) ?_
      refine awp_seq ?_
      refine awp_region ?_
      refine aR 1 ?_
      refine aE ?_
      refine awp_ret ?_
      exact oF hF [] []
    · refine awp_sub (awp_loop' (fleetref2_NotesFault_x1_H ql) fleetref2_NotesFault_x1_k (fleetref2_NotesFault_x1_S ql) (by intro x; rcases x with x | x <;> exact fun h => nomatch h) h14 (fleetref2_NotesFault_x1_ok ql)) ?_
      exact oF hF [] []

/-! ### beaconfleet/fleetlaw2.errs -/
def fleetlaw2_errs_x1_k : Unit ⊕ Int → AEx
  | .inl _ => .exit 0
  | .inr _ => .ret

def fleetlaw2_errs_x1_S (ql : List Int) : Unit ⊕ Int → St
  | .inl _ => Mem.st ⟨[], []⟩ (tl []) 0
  | .inr vx1 => Mem.st ⟨[], []⟩ (tl [(2, .v (.one (.d (.int .i64 vx1))))]) 0

def fleetlaw2_errs_x1_H (ql : List Int) : Int → St
  | vx => Mem.st ⟨[], []⟩ (tl [(5, .v (.one (.d (.lst (List.map (encI .i64) ql))))), (6, .v (.one (.d (.int .i64 (ql.length : Int))))), (7, .v (.one (.d (.int .i64 vx))))]) 0

theorem fleetlaw2_errs_x1_ok (ql : List Int) (vx : Int) (r : (Int) ⊕ (Unit ⊕ Int)) (hF : fleetlaw2_errs_x1 ql vx = some r) : Awp prog 0 15 (cL (cL (cR (cL (cR (cB f12)))))) (Out 0 (kk fleetlaw2_errs_x1_k) (SS (fleetlaw2_errs_x1_H ql) (fleetlaw2_errs_x1_S ql)) r) (fleetlaw2_errs_x1_H ql vx) := by
  unfold fleetlaw2_errs_x1 at hF
  refine awp_seq ?_
  refine awp_region ?_
  refine aR 1 ?_
  refine aE ?_
  refine awp_seq ?_
  refine cE hF (fun h1 hF => ?_) fun h1 hF => ?_
  · refine awp_true (by kernel_rfl) h1 ?_
    refine awp_skip ?_
    refine awp_seq ?_
    refine awp_block ?_
    refine awp_seq ?_
    refine bE hF fun vy1 h2 hF => ?_
    refine awp_region ?_
    refine aX (x_idx (encI .i64) h2) ?_
    refine aR 2 ?_
    refine aE ?_
    refine awp_seq ?_
    refine awp_region ?_
    refine aR 2 ?_
    refine aE ?_
    refine cE hF (fun h3 hF => ?_) fun h3 hF => ?_
    · refine awp_true (by kernel_rfl) h3 ?_
      refine awp_seq ?_
      refine awp_region ?_
      refine aR 2 ?_
      refine aE ?_
      refine awp_ret ?_
      exact oO hF [] [] rfl
    · refine awp_false (by kernel_rfl) h3 ?_
      refine awp_skip ?_
      refine awp_region ?_
      refine aR 2 ?_
      refine aE ?_
      exact oO hF [] [] rfl
  · refine awp_false (by kernel_rfl) h1 ?_
    refine awp_exit ?_
    exact oO hF [] [] rfl

def fleetlaw2_errs_R (ql : List Int) (r : Int) : TV × Mem := (.v (.one (.d (.int .i64 r))), ⟨[], []⟩)

theorem fleetlaw2_errs_ok {ql : List Int} {r} (hF : fleetlaw2_errs ql = some r) : Holds prog 12 [.v (.one (.d (.lst (List.map (encI .i64) ql))))] ⟨[], []⟩ (Is (fleetlaw2_errs_R ql r)) := by
  unfold fleetlaw2_errs at hF
  refine holds_of_awp hΓ (fn := f12) (c := cB f12) (A := 0) (nx := 0) (by kernel_rfl) (by kernel_rfl) (by kernel_rfl) (by kernel_rfl) (by kernel_rfl) (by kernel_rfl) (lowc_of (by kernel_rfl)) ?_
  show Awp prog 0 15 (cB f12) _ _
  refine awp_seq ?_
  refine awp_region ?_
  refine aR 1 ?_
  refine aE ?_
  refine awp_seq ?_
  refine awp_seq ?_
  refine awp_region ?_
  refine aR 1 ?_
  refine aL (encI .i64) ql ?_
  refine aR 1 ?_
  refine aE ?_
  refine awp_block ?_
  refine awp_to (st' := fleetlaw2_errs_x1_H ql 0) (oT [] []) ?_
  refine bE hF fun x h4 hF => ?_
  rcases x with _ | vx1_1
  · refine awp_sub (awp_loop' (fleetlaw2_errs_x1_H ql) fleetlaw2_errs_x1_k (fleetlaw2_errs_x1_S ql) (by intro x; rcases x with x | x <;> exact fun h => nomatch h) h4 (fleetlaw2_errs_x1_ok ql)) ?_
    refine awp_seq ?_
    refine awp_region ?_
    refine aR 1 ?_
    refine aE ?_
    refine awp_ret ?_
    exact oF hF [] []
  · refine awp_sub (awp_loop' (fleetlaw2_errs_x1_H ql) fleetlaw2_errs_x1_k (fleetlaw2_errs_x1_S ql) (by intro x; rcases x with x | x <;> exact fun h => nomatch h) h4 (fleetlaw2_errs_x1_ok ql)) ?_
    exact oF hF [] []

/-! ### beaconfleet/fleetref2.NotesOf$1 -/
def fleetref2_NotesOf_1_R (qo : api_Note) (qx : api_Note) (r : Unit) : TV × Mem := (.v (.one (.d (.bool (decide (qo.Letter.Id = qx.Letter.Id))))), ⟨[], [(0, [.d (.str qx.Letter.Id), .d (.str qx.Letter.Slot), .d (.str qx.Letter.Body), .d (.int .i64 qx.Letter.Prio), .d (.int .i64 qx.Letter.At), .d (.int .i64 qx.Letter.Until), .d (.int .i64 qx.State), .d (.int .i64 qx.Tries), .d (.int .i64 qx.Since)])]⟩)

theorem fleetref2_NotesOf_1_ok {qo : api_Note} {qx : api_Note} {r} (hF : fleetref2_NotesOf_1 qo qx = some r) : Holds prog 30 [.v (.agg [.d (.str qo.Letter.Id), .d (.str qo.Letter.Slot), .d (.str qo.Letter.Body), .d (.int .i64 qo.Letter.Prio), .d (.int .i64 qo.Letter.At), .d (.int .i64 qo.Letter.Until), .d (.int .i64 qo.State), .d (.int .i64 qo.Tries), .d (.int .i64 qo.Since)]), .v (.one (.box 0 0))] ⟨[], [(0, [.d (.str qx.Letter.Id), .d (.str qx.Letter.Slot), .d (.str qx.Letter.Body), .d (.int .i64 qx.Letter.Prio), .d (.int .i64 qx.Letter.At), .d (.int .i64 qx.Letter.Until), .d (.int .i64 qx.State), .d (.int .i64 qx.Tries), .d (.int .i64 qx.Since)])]⟩ (Is (fleetref2_NotesOf_1_R qo qx r)) := by
  unfold fleetref2_NotesOf_1 at hF
  refine holds_of_awp hΓ (fn := f30) (c := cB f30) (A := 1) (nx := 1) (by kernel_rfl) (by kernel_rfl) (by kernel_rfl) (by kernel_rfl) (by kernel_rfl) (by kernel_rfl) (lowc_of (by kernel_rfl)) ?_
  show Awp prog 1 11 (cB f30) _ _
  refine awp_seq ?_
  refine awp_region ?_
  refine aR 2 ?_
  refine aE ?_
  refine awp_seq ?_
  refine awp_region ?_
  refine aR 8 ?_
  refine aE ?_
  refine awp_ret ?_
  exact oF hF [] []

/-! ### slices.IndexFunc[[]beaconfleet/api.Note,beaconfleet/api.Note] -/
def slices_IndexFunc_api_Note_api_Note_f1_fleetref2_NotesOf_1_x1_k : Unit ⊕ Int → AEx
  | .inl _ => .exit 0
  | .inr _ => .ret

def slices_IndexFunc_api_Note_api_Note_f1_fleetref2_NotesOf_1_x1_S (qs : List api_Note) (qf : api_Note) : Unit ⊕ Int → St
  | .inl _ => Mem.st ⟨[], [(0, [.d (.str qf.Letter.Id), .d (.str qf.Letter.Slot), .d (.str qf.Letter.Body), .d (.int .i64 qf.Letter.Prio), .d (.int .i64 qf.Letter.At), .d (.int .i64 qf.Letter.Until), .d (.int .i64 qf.State), .d (.int .i64 qf.Tries), .d (.int .i64 qf.Since)])]⟩ (tl []) 1
  | .inr vx1 => Mem.st ⟨[], [(0, [.d (.str qf.Letter.Id), .d (.str qf.Letter.Slot), .d (.str qf.Letter.Body), .d (.int .i64 qf.Letter.Prio), .d (.int .i64 qf.Letter.At), .d (.int .i64 qf.Letter.Until), .d (.int .i64 qf.State), .d (.int .i64 qf.Tries), .d (.int .i64 qf.Since)])]⟩ (tl [(4, .v (.one (.d (.int .i64 vx1))))]) 1

def slices_IndexFunc_api_Note_api_Note_f1_fleetref2_NotesOf_1_x1_H (qs : List api_Note) (qf : api_Note) : Int → St
  | vx => Mem.st ⟨[], [(0, [.d (.str qf.Letter.Id), .d (.str qf.Letter.Slot), .d (.str qf.Letter.Body), .d (.int .i64 qf.Letter.Prio), .d (.int .i64 qf.Letter.At), .d (.int .i64 qf.Letter.Until), .d (.int .i64 qf.State), .d (.int .i64 qf.Tries), .d (.int .i64 qf.Since)])]⟩ (tl [(0, .v (.one (.d (.lst (List.map api_Note.enc qs))))), (1, .v (.one (.fn 30 [0]))), (7, .v (.one (.d (.int .i64 (qs.length : Int))))), (8, .v (.one (.d (.int .i64 vx))))]) 1

theorem slices_IndexFunc_api_Note_api_Note_f1_fleetref2_NotesOf_1_x1_ok (qs : List api_Note) (qf : api_Note) (vx : Int) (r : (Int) ⊕ (Unit ⊕ Int)) (hF : slices_IndexFunc_api_Note_api_Note_f1_fleetref2_NotesOf_1_x1 qs qf vx = some r) : Awp prog 1 19 (cL (cL (cR (cL (cR (cB f29)))))) (Out 1 (kk slices_IndexFunc_api_Note_api_Note_f1_fleetref2_NotesOf_1_x1_k) (SS (slices_IndexFunc_api_Note_api_Note_f1_fleetref2_NotesOf_1_x1_H qs qf) (slices_IndexFunc_api_Note_api_Note_f1_fleetref2_NotesOf_1_x1_S qs qf)) r) (slices_IndexFunc_api_Note_api_Note_f1_fleetref2_NotesOf_1_x1_H qs qf vx) := by
  unfold slices_IndexFunc_api_Note_api_Note_f1_fleetref2_NotesOf_1_x1 at hF
  refine awp_seq ?_
  refine awp_region ?_
  refine aR 1 ?_
  refine aE ?_
  refine awp_seq ?_
  refine cE hF (fun h1 hF => ?_) fun h1 hF => ?_
  · refine awp_true (by kernel_rfl) h1 ?_
    refine awp_skip ?_
    refine awp_seq ?_
    refine awp_block ?_
    refine awp_seq ?_
    refine awp_region ?_
    refine aR 2 ?_
    refine aE ?_
    refine awp_seq ?_
    refine bE hF fun vy1 h2 hF => ?_
    refine bE hF fun _ h3 hF => ?_
    refine awp_region ?_
    refine aR 3 ?_
    refine aX (x_idx api_Note.enc h2) ?_
    refine aR 1 ?_
    refine aC (fleetref2_NotesOf_1_ok h3) [] [] [] ?_
    refine aE ?_
    refine cE hF (fun h4 hF => ?_) fun h4 hF => ?_
    · refine awp_true (by kernel_rfl) h4 ?_
      refine awp_seq ?_
      refine awp_region ?_
      refine aR 2 ?_
      refine aE ?_
      refine awp_ret ?_
      exact oO hF [] [] rfl
    · refine awp_false (by kernel_rfl) h4 ?_
      refine awp_skip ?_
      refine awp_region ?_
      refine aR 2 ?_
      refine aE ?_
      exact oO hF [] [] rfl
  · refine awp_false (by kernel_rfl) h1 ?_
    refine awp_exit ?_
    exact oO hF [] [] rfl

def slices_IndexFunc_api_Note_api_Note_f1_fleetref2_NotesOf_1_R (qs : List api_Note) (qf : api_Note) (r : Int) : TV × Mem := (.v (.one (.d (.int .i64 r))), ⟨[], [(0, [.d (.str qf.Letter.Id), .d (.str qf.Letter.Slot), .d (.str qf.Letter.Body), .d (.int .i64 qf.Letter.Prio), .d (.int .i64 qf.Letter.At), .d (.int .i64 qf.Letter.Until), .d (.int .i64 qf.State), .d (.int .i64 qf.Tries), .d (.int .i64 qf.Since)])]⟩)

theorem slices_IndexFunc_api_Note_api_Note_f1_fleetref2_NotesOf_1_ok {qs : List api_Note} {qf : api_Note} {r} (hF : slices_IndexFunc_api_Note_api_Note_f1_fleetref2_NotesOf_1 qs qf = some r) : Holds prog 29 [.v (.one (.d (.lst (List.map api_Note.enc qs)))), .v (.one (.fn 30 [0]))] ⟨[], [(0, [.d (.str qf.Letter.Id), .d (.str qf.Letter.Slot), .d (.str qf.Letter.Body), .d (.int .i64 qf.Letter.Prio), .d (.int .i64 qf.Letter.At), .d (.int .i64 qf.Letter.Until), .d (.int .i64 qf.State), .d (.int .i64 qf.Tries), .d (.int .i64 qf.Since)])]⟩ (Is (slices_IndexFunc_api_Note_api_Note_f1_fleetref2_NotesOf_1_R qs qf r)) := by
  unfold slices_IndexFunc_api_Note_api_Note_f1_fleetref2_NotesOf_1 at hF
  refine holds_of_awp hΓ (fn := f29) (c := cB f29) (A := 1) (nx := 1) (by kernel_rfl) (by kernel_rfl) (by kernel_rfl) (by kernel_rfl) (by kernel_rfl) (by kernel_rfl) (lowc_of (by kernel_rfl)) ?_
  show Awp prog 1 19 (cB f29) _ _
  refine awp_seq ?_
  refine awp_region ?_
  refine aR 1 ?_
  refine aE ?_
  refine awp_seq ?_
  refine awp_seq ?_
  refine awp_region ?_
  refine aR 1 ?_
  refine aL api_Note.enc qs ?_
  refine aR 1 ?_
  refine aE ?_
  refine awp_block ?_
  refine awp_to (st' := slices_IndexFunc_api_Note_api_Note_f1_fleetref2_NotesOf_1_x1_H qs qf 0) (oT [] []) ?_
  refine bE hF fun x h5 hF => ?_
  rcases x with _ | vx1_1
  · refine awp_sub (awp_loop' (slices_IndexFunc_api_Note_api_Note_f1_fleetref2_NotesOf_1_x1_H qs qf) slices_IndexFunc_api_Note_api_Note_f1_fleetref2_NotesOf_1_x1_k (slices_IndexFunc_api_Note_api_Note_f1_fleetref2_NotesOf_1_x1_S qs qf) (by intro x; rcases x with x | x <;> exact fun h => nomatch h) h5 (slices_IndexFunc_api_Note_api_Note_f1_fleetref2_NotesOf_1_x1_ok qs qf)) ?_
    refine awp_seq ?_
    refine awp_region ?_
    refine aR 1 ?_
    refine aE ?_
    refine awp_ret ?_
    exact oF hF [] []
  · refine awp_sub (awp_loop' (slices_IndexFunc_api_Note_api_Note_f1_fleetref2_NotesOf_1_x1_H qs qf) slices_IndexFunc_api_Note_api_Note_f1_fleetref2_NotesOf_1_x1_k (slices_IndexFunc_api_Note_api_Note_f1_fleetref2_NotesOf_1_x1_S qs qf) (by intro x; rcases x with x | x <;> exact fun h => nomatch h) h5 (slices_IndexFunc_api_Note_api_Note_f1_fleetref2_NotesOf_1_x1_ok qs qf)) ?_
    exact oF hF [] []

/-! ### beaconfleet/fleetref2.gone -/
def fleetref2_gone_R (qn : api_Note) (r : (List Int)) : TV × Mem := (.v (.one (.own 0 none)), ⟨[(0, ⟨3, 1, List.map (encI .i64) r⟩)], []⟩)

theorem fleetref2_gone_ok {qn : api_Note} {r} (hF : fleetref2_gone qn = some r) : Holds prog 32 [.v (.agg [.d (.str qn.Letter.Id), .d (.str qn.Letter.Slot), .d (.str qn.Letter.Body), .d (.int .i64 qn.Letter.Prio), .d (.int .i64 qn.Letter.At), .d (.int .i64 qn.Letter.Until), .d (.int .i64 qn.State), .d (.int .i64 qn.Tries), .d (.int .i64 qn.Since)])] ⟨[], []⟩ (Is (fleetref2_gone_R qn r)) := by
  unfold fleetref2_gone at hF
  refine holds_of_awp hΓ (fn := f32) (c := cB f32) (A := 0) (nx := 0) (by kernel_rfl) (by kernel_rfl) (by kernel_rfl) (by kernel_rfl) (by kernel_rfl) (by kernel_rfl) (lowc_of (by kernel_rfl)) ?_
  show Awp prog 0 19 (cB f32) _ _
  refine awp_seq ?_
  refine awp_region ?_
  refine aR 2 ?_
  refine aE ?_
  refine awp_seq ?_
  refine bE hF fun ve h1 hF => ?_
  refine awp_region ?_
  refine aX (x_map (.int .i64) false (κ := Int) (β := Int) (D.int .i64) (encI .i64)) ?_
  refine aIns 2000 (.int .i64) false (l := ([] : List (Int × Int))) (key := (3 : Int)) (v := (5 : Int)) (D.int .i64) (encI .i64) rfl ?_
  refine aIns 2000 (.int .i64) false (l := aput ([] : List (Int × Int)) (3 : Int) (5 : Int)) (key := (4 : Int)) (v := (4 : Int)) (D.int .i64) (encI .i64) rfl ?_
  refine aIns 2000 (.int .i64) false (l := aput (aput ([] : List (Int × Int)) (3 : Int) (5 : Int)) (4 : Int) (4 : Int)) (key := (7 : Int)) (v := (3 : Int)) (D.int .i64) (encI .i64) rfl ?_
  refine aIns 2000 (.int .i64) false (l := aput (aput (aput ([] : List (Int × Int)) (3 : Int) (5 : Int)) (4 : Int) (4 : Int)) (7 : Int) (3 : Int)) (key := (5 : Int)) (v := (2 : Int)) (D.int .i64) (encI .i64) rfl ?_
  refine aIns 2000 (.int .i64) false (l := aput (aput (aput (aput ([] : List (Int × Int)) (3 : Int) (5 : Int)) (4 : Int) (4 : Int)) (7 : Int) (3 : Int)) (5 : Int) (2 : Int)) (key := (6 : Int)) (v := (1 : Int)) (D.int .i64) (encI .i64) rfl ?_
  refine aR 3 ?_
  refine aX (x_get 2000 false (D.int .i64) (encI .i64) h1) ?_
  refine aR 1 ?_
  refine aE ?_
  refine awp_seq ?_
  refine awp_region ?_
  refine aR 11 ?_
  refine aE ?_
  refine awp_ret ?_
  exact oF hF [(0, 22000)] []

/-! ### slices.Compare[[]int,int] -/
def slices_Compare_int_int_x1_k : Unit ⊕ Int → AEx
  | .inl _ => .exit 0
  | .inr _ => .ret

def slices_Compare_int_int_x1_S (qs1 : List Int) (qs2 : List Int) : Unit ⊕ Int → St
  | .inl _ => Mem.st ⟨[], []⟩ (tl [(0, .v (.one (.d (.lst (List.map (encI .i64) qs1))))), (1, .v (.one (.d (.lst (List.map (encI .i64) qs2)))))]) 0
  | .inr vx1 => Mem.st ⟨[], []⟩ (tl [(4, .v (.one (.d (.int .i64 vx1))))]) 0

def slices_Compare_int_int_x1_H (qs1 : List Int) (qs2 : List Int) : Int → St
  | vx => Mem.st ⟨[], []⟩ (tl [(0, .v (.one (.d (.lst (List.map (encI .i64) qs1))))), (1, .v (.one (.d (.lst (List.map (encI .i64) qs2))))), (9, .v (.one (.d (.lst (List.map (encI .i64) qs1))))), (10, .v (.one (.d (.int .i64 (qs1.length : Int))))), (11, .v (.one (.d (.int .i64 vx))))]) 0

theorem slices_Compare_int_int_x1_ok (qs1 : List Int) (qs2 : List Int) (vx : Int) (r : (Int) ⊕ (Unit ⊕ Int)) (hF : slices_Compare_int_int_x1 qs1 qs2 vx = some r) : Awp prog 0 36 (cL (cL (cR (cL (cR (cB f31)))))) (Out 0 (kk slices_Compare_int_int_x1_k) (SS (slices_Compare_int_int_x1_H qs1 qs2) (slices_Compare_int_int_x1_S qs1 qs2)) r) (slices_Compare_int_int_x1_H qs1 qs2 vx) := by
  unfold slices_Compare_int_int_x1 at hF
  refine awp_seq ?_
  refine awp_region ?_
  refine aR 1 ?_
  refine aE ?_
  refine awp_seq ?_
  refine cE hF (fun h1 hF => ?_) fun h1 hF => ?_
  · refine awp_true (by kernel_rfl) h1 ?_
    refine awp_skip ?_
    refine awp_seq ?_
    refine awp_block ?_
    refine awp_seq ?_
    refine bE hF fun vy2 h2 hF => ?_
    refine awp_region ?_
    refine aR 1 ?_
    refine aX (x_idx (encI .i64) h2) ?_
    refine aR 3 ?_
    refine aE ?_
    refine awp_seq ?_
    refine awp_seq ?_
    refine awp_region ?_
    refine aR 2 ?_
    refine aL (encI .i64) qs2 ?_
    refine aR 1 ?_
    refine aE ?_
    refine cE hF (fun h3 hF => ?_) fun h3 hF => ?_
    · refine awp_true (by kernel_rfl) h3 ?_
      refine awp_seq ?_
      refine awp_region ?_
      refine aR 1 ?_
      refine aE ?_
      refine awp_ret ?_
      exact oO hF [] [] rfl
    · refine awp_false (by kernel_rfl) h3 ?_
      refine awp_skip ?_
      refine awp_seq ?_
      refine bE hF fun vy3 h4 hF => ?_
      refine awp_region ?_
      refine aR 2 ?_
      refine aX (x_idx (encI .i64) h4) ?_
      refine aR 2 ?_
      refine aE ?_
      refine awp_seq ?_
      refine bE hF fun vr1 h5 hF => ?_
      refine awp_region ?_
      refine aR 2 ?_
      refine aC (cmp_Compare_int_ok h5) [] [] [] ?_
      refine aR 1 ?_
      refine aE ?_
      refine awp_seq ?_
      refine awp_region ?_
      refine aR 2 ?_
      refine aE ?_
      refine cE hF (fun h6 hF => ?_) fun h6 hF => ?_
      · refine awp_true (by kernel_rfl) h6 ?_
        refine awp_seq ?_
        refine awp_region ?_
        refine aR 2 ?_
        refine aE ?_
        refine awp_ret ?_
        exact oO hF [] [] rfl
      · refine awp_false (by kernel_rfl) h6 ?_
        refine awp_skip ?_
        refine awp_region ?_
        refine aR 2 ?_
        refine aE ?_
        exact oO hF [] [] rfl
  · refine awp_false (by kernel_rfl) h1 ?_
    refine awp_exit ?_
    exact oO hF [] [] rfl

def slices_Compare_int_int_R (qs1 : List Int) (qs2 : List Int) (r : Int) : TV × Mem := (.v (.one (.d (.int .i64 r))), ⟨[], []⟩)

theorem slices_Compare_int_int_ok {qs1 : List Int} {qs2 : List Int} {r} (hF : slices_Compare_int_int qs1 qs2 = some r) : Holds prog 31 [.v (.one (.d (.lst (List.map (encI .i64) qs1)))), .v (.one (.d (.lst (List.map (encI .i64) qs2))))] ⟨[], []⟩ (Is (slices_Compare_int_int_R qs1 qs2 r)) := by
  unfold slices_Compare_int_int at hF
  refine holds_of_awp hΓ (fn := f31) (c := cB f31) (A := 0) (nx := 0) (by kernel_rfl) (by kernel_rfl) (by kernel_rfl) (by kernel_rfl) (by kernel_rfl) (by kernel_rfl) (lowc_of (by kernel_rfl)) ?_
  show Awp prog 0 36 (cB f31) _ _
  refine awp_seq ?_
  refine awp_region ?_
  refine aR 1 ?_
  refine aE ?_
  refine awp_seq ?_
  refine awp_seq ?_
  refine awp_region ?_
  refine aR 1 ?_
  refine aL (encI .i64) qs1 ?_
  refine aR 1 ?_
  refine aE ?_
  refine awp_block ?_
  refine awp_to (st' := slices_Compare_int_int_x1_H qs1 qs2 0) (oT [] []) ?_
  refine bE hF fun x h7 hF => ?_
  rcases x with _ | vx1_1
  · refine awp_sub (awp_loop' (slices_Compare_int_int_x1_H qs1 qs2) slices_Compare_int_int_x1_k (slices_Compare_int_int_x1_S qs1 qs2) (by intro x; rcases x with x | x <;> exact fun h => nomatch h) h7 (slices_Compare_int_int_x1_ok qs1 qs2)) ?_
    refine awp_seq ?_
    refine awp_seq ?_
    refine awp_region ?_
    refine aR 1 ?_
    refine aL (encI .i64) qs1 ?_
    refine aR 1 ?_
    refine aL (encI .i64) qs2 ?_
    refine aR 1 ?_
    refine aE ?_
    refine cE hF (fun h8 hF => ?_) fun h8 hF => ?_
    · refine awp_true (by kernel_rfl) h8 ?_
      refine awp_seq ?_
      refine awp_region ?_
      refine aR 1 ?_
      refine aE ?_
      refine awp_ret ?_
      exact oF hF [] []
    · refine awp_false (by kernel_rfl) h8 ?_
      refine awp_skip ?_
      refine awp_seq ?_
      refine awp_region ?_
      refine aR 1 ?_
      refine aE ?_
      refine awp_ret ?_
      exact oF hF [] []
  · refine awp_sub (awp_loop' (slices_Compare_int_int_x1_H qs1 qs2) slices_Compare_int_int_x1_k (slices_Compare_int_int_x1_S qs1 qs2) (by intro x; rcases x with x | x <;> exact fun h => nomatch h) h7 (slices_Compare_int_int_x1_ok qs1 qs2)) ?_
    exact oF hF [] []

/-! ### math/bits.Len64 -/
def bits_Len64_x1_k : (Int × Int) → AEx
  | _ => .normal

def bits_Len64_x1_S (qx : Int) : (Int × Int) → St
  | (vx, vn) => Mem.st ⟨[], []⟩ (tl [(0, .v (.one (.d (.int .u64 vx)))), (2, .v (.one (.d (.int .i64 vn))))]) 0

def bits_Len64_x1_I (qx : Int) : St := Mem.st ⟨[], []⟩ (tl [(0, .v (.one (.d (.int .u64 qx)))), (2, .v (.one (.d (.int .i64 0))))]) 0

theorem bits_Len64_x1_ok (qx : Int) {r} (hF : bits_Len64_x1 qx = some r) : Awp prog 0 25 (cL (cR (cB f71))) (Out 0 bits_Len64_x1_k (bits_Len64_x1_S qx) r) (bits_Len64_x1_I qx) := by
  unfold bits_Len64_x1 at hF
  refine awp_seq ?_
  refine awp_region ?_
  refine aR 2 ?_
  refine aE ?_
  refine cE hF (fun h1 hF => ?_) fun h1 hF => ?_
  · refine awp_true (by kernel_rfl) h1 ?_
    refine awp_seq ?_
    refine awp_region ?_
    refine aR 3 ?_
    refine aE ?_
    refine awp_region ?_
    refine aR 1 ?_
    refine aE ?_
    exact oO hF [] [] rfl
  · refine awp_false (by kernel_rfl) h1 ?_
    refine awp_skip ?_
    exact oO hF [] [] rfl

def bits_Len64_x2_k : (Int × Int) → AEx
  | _ => .normal

def bits_Len64_x2_S (vx1 : Int) (vn1 : Int) : (Int × Int) → St
  | (vx2, vn2) => Mem.st ⟨[], []⟩ (tl [(0, .v (.one (.d (.int .u64 vx2)))), (2, .v (.one (.d (.int .i64 vn2))))]) 0

def bits_Len64_x2_I (vx1 : Int) (vn1 : Int) : St := Mem.st ⟨[], []⟩ (tl [(0, .v (.one (.d (.int .u64 vx1)))), (2, .v (.one (.d (.int .i64 vn1))))]) 0

theorem bits_Len64_x2_ok (vx1 : Int) (vn1 : Int) {r} (hF : bits_Len64_x2 vx1 vn1 = some r) : Awp prog 0 25 (cL (cR (cR (cB f71)))) (Out 0 bits_Len64_x2_k (bits_Len64_x2_S vx1 vn1) r) (bits_Len64_x2_I vx1 vn1) := by
  unfold bits_Len64_x2 at hF
  refine awp_seq ?_
  refine awp_region ?_
  refine aR 2 ?_
  refine aE ?_
  refine cE hF (fun h3 hF => ?_) fun h3 hF => ?_
  · refine awp_true (by kernel_rfl) h3 ?_
    refine awp_seq ?_
    refine awp_region ?_
    refine aR 3 ?_
    refine aE ?_
    refine awp_region ?_
    refine aR 3 ?_
    refine aE ?_
    exact oO hF [] [] rfl
  · refine awp_false (by kernel_rfl) h3 ?_
    refine awp_skip ?_
    exact oO hF [] [] rfl

def bits_Len64_x3_k : (Int × Int) → AEx
  | _ => .normal

def bits_Len64_x3_S (vx2_1 : Int) (vn2_1 : Int) : (Int × Int) → St
  | (vx3, vn3) => Mem.st ⟨[], []⟩ (tl [(0, .v (.one (.d (.int .u64 vx3)))), (2, .v (.one (.d (.int .i64 vn3))))]) 0

def bits_Len64_x3_I (vx2_1 : Int) (vn2_1 : Int) : St := Mem.st ⟨[], []⟩ (tl [(0, .v (.one (.d (.int .u64 vx2_1)))), (2, .v (.one (.d (.int .i64 vn2_1))))]) 0

theorem bits_Len64_x3_ok (vx2_1 : Int) (vn2_1 : Int) {r} (hF : bits_Len64_x3 vx2_1 vn2_1 = some r) : Awp prog 0 25 (cL (cR (cR (cR (cB f71))))) (Out 0 bits_Len64_x3_k (bits_Len64_x3_S vx2_1 vn2_1) r) (bits_Len64_x3_I vx2_1 vn2_1) := by
  unfold bits_Len64_x3 at hF
  refine awp_seq ?_
  refine awp_region ?_
  refine aR 2 ?_
  refine aE ?_
  refine cE hF (fun h5 hF => ?_) fun h5 hF => ?_
  · refine awp_true (by kernel_rfl) h5 ?_
    refine awp_seq ?_
    refine awp_region ?_
    refine aR 3 ?_
    refine aE ?_
    refine awp_region ?_
    refine aR 3 ?_
    refine aE ?_
    exact oO hF [] [] rfl
  · refine awp_false (by kernel_rfl) h5 ?_
    refine awp_skip ?_
    exact oO hF [] [] rfl

def bits_Len64_R (qx : Int) (r : Int) : TV × Mem := (.v (.one (.d (.int .i64 r))), ⟨[], []⟩)

theorem bits_Len64_ok {qx : Int} {r} (hF : bits_Len64 qx = some r) : Holds prog 71 [.v (.one (.d (.int .u64 qx)))] ⟨[], []⟩ (Is (bits_Len64_R qx r)) := by
  unfold bits_Len64 at hF
  refine holds_of_awp hΓ (fn := f71) (c := cB f71) (A := 0) (nx := 0) (by kernel_rfl) (by kernel_rfl) (by kernel_rfl) (by kernel_rfl) (by kernel_rfl) (by kernel_rfl) (lowc_of (by kernel_rfl)) ?_
  show Awp prog 0 25 (cB f71) _ _
  refine awp_seq ?_
  refine awp_region ?_
  refine aR 1 ?_
  refine aE ?_
  refine awp_seq ?_
  refine awp_to (st' := bits_Len64_x1_I qx) (oT [] []) ?_
  refine bE hF fun x h2 hF => ?_
  obtain ⟨vx1, vn1⟩ := x
  refine awp_sub (bits_Len64_x1_ok qx h2) ?_
  refine awp_seq ?_
  refine awp_to (st' := bits_Len64_x2_I vx1 vn1) (oT [] []) ?_
  refine bE hF fun x h4 hF => ?_
  obtain ⟨vx2_1, vn2_1⟩ := x
  refine awp_sub (bits_Len64_x2_ok vx1 vn1 h4) ?_
  refine awp_seq ?_
  refine awp_to (st' := bits_Len64_x3_I vx2_1 vn2_1) (oT [] []) ?_
  refine bE hF fun x h6 hF => ?_
  obtain ⟨vx3_1, vn3_1⟩ := x
  refine awp_sub (bits_Len64_x3_ok vx2_1 vn2_1 h6) ?_
  refine awp_seq ?_
  refine bE hF fun vc h7 hF => ?_
  refine awp_region ?_
  refine aR 3 ?_
  refine aX (x_idxS h7) ?_
  refine aR 3 ?_
  refine aE ?_
  refine awp_ret ?_
  exact oF hF [] []

/-! ### math/bits.Len -/
def bits_Len_R (qx : Int) (r : Int) : TV × Mem := (.v (.one (.d (.int .i64 r))), ⟨[], []⟩)

theorem bits_Len_ok {qx : Int} {r} (hF : bits_Len qx = some r) : Holds prog 49 [.v (.one (.d (.int .u64 qx)))] ⟨[], []⟩ (Is (bits_Len_R qx r)) := by
  unfold bits_Len at hF
  refine holds_of_awp hΓ (fn := f49) (c := cB f49) (A := 0) (nx := 0) (by kernel_rfl) (by kernel_rfl) (by kernel_rfl) (by kernel_rfl) (by kernel_rfl) (by kernel_rfl) (lowc_of (by kernel_rfl)) ?_
  show Awp prog 0 8 (cB f49) _ _
  refine awp_seq ?_
  refine awp_region ?_
  refine aR 1 ?_
  refine aE ?_
  refine awp_seq ?_
  refine awp_false (by kernel_rfl) rfl ?_
  refine awp_skip ?_
  refine awp_seq ?_
  refine bE hF fun vr h1 hF => ?_
  refine awp_region ?_
  refine aR 1 ?_
  refine aC (bits_Len64_ok h1) [] [] [] ?_
  refine aR 1 ?_
  refine aE ?_
  refine awp_ret ?_
  exact oF hF [] []

/-! ### beaconfleet/fleetref2.NotesOf$2 -/
def fleetref2_NotesOf_2_R (qx : api_Note) (qy : api_Note) (r : Unit) : TV × Mem := (.v (.one (.d (.int .i64 (Lib.compareBytes qx.Letter.Id qy.Letter.Id)))), ⟨[], []⟩)

theorem fleetref2_NotesOf_2_ok {qx : api_Note} {qy : api_Note} {r} (hF : fleetref2_NotesOf_2 qx qy = some r) : Holds prog 34 [.v (.agg [.d (.str qx.Letter.Id), .d (.str qx.Letter.Slot), .d (.str qx.Letter.Body), .d (.int .i64 qx.Letter.Prio), .d (.int .i64 qx.Letter.At), .d (.int .i64 qx.Letter.Until), .d (.int .i64 qx.State), .d (.int .i64 qx.Tries), .d (.int .i64 qx.Since)]), .v (.agg [.d (.str qy.Letter.Id), .d (.str qy.Letter.Slot), .d (.str qy.Letter.Body), .d (.int .i64 qy.Letter.Prio), .d (.int .i64 qy.Letter.At), .d (.int .i64 qy.Letter.Until), .d (.int .i64 qy.State), .d (.int .i64 qy.Tries), .d (.int .i64 qy.Since)])] ⟨[], []⟩ (Is (fleetref2_NotesOf_2_R qx qy r)) := by
  unfold fleetref2_NotesOf_2 at hF
  refine holds_of_awp hΓ (fn := f34) (c := cB f34) (A := 0) (nx := 0) (by kernel_rfl) (by kernel_rfl) (by kernel_rfl) (by kernel_rfl) (by kernel_rfl) (by kernel_rfl) (lowc_of (by kernel_rfl)) ?_
  show Awp prog 0 12 (cB f34) _ _
  refine awp_seq ?_
  refine awp_region ?_
  refine aR 3 ?_
  refine aE ?_
  refine awp_seq ?_
  refine bE hF fun _ h1 hF => ?_
  refine awp_region ?_
  refine aR 6 ?_
  refine aC (strings_Compare_ok h1) [] [] [] ?_
  refine aR 1 ?_
  refine aE ?_
  refine awp_ret ?_
  exact oF hF [] []

/-! ### slices.insertionSortCmpFunc[beaconfleet/api.Note] -/
def slices_insertionSortCmpFunc_api_Note_o0_f3_fleetref2_NotesOf_2_x3_k : Bool → AEx
  | _ => .normal

def slices_insertionSortCmpFunc_api_Note_o0_f3_fleetref2_NotesOf_2_x3_S (qa : Int) (qb : Int) (vi : Int) (vl3 : List api_Note) (vj1 : Int) : Bool → St
  | vx4 => Mem.st ⟨[(0, ⟨33, 9, List.map api_Note.enc vl3⟩)], []⟩ (tl [(0, .v (.one (.own 0 none))), (1, .v (.one (.d (.int .i64 qa)))), (2, .v (.one (.d (.int .i64 qb)))), (3, .v (.one (.fn 34 []))), (8, .v (.one (.d (.int .i64 vi)))), (9, .v (.one (.d (.int .i64 vj1)))), (34, .v (.one (.d (.bool vx4))))]) 1

def slices_insertionSortCmpFunc_api_Note_o0_f3_fleetref2_NotesOf_2_x3_I (qa : Int) (qb : Int) (vi : Int) (vl3 : List api_Note) (vj1 : Int) : St := Mem.st ⟨[(0, ⟨33, 9, List.map api_Note.enc vl3⟩)], []⟩ (tl [(0, .v (.one (.own 0 none))), (1, .v (.one (.d (.int .i64 qa)))), (2, .v (.one (.d (.int .i64 qb)))), (3, .v (.one (.fn 34 []))), (8, .v (.one (.d (.int .i64 vi)))), (9, .v (.one (.d (.int .i64 vj1))))]) 1

theorem slices_insertionSortCmpFunc_api_Note_o0_f3_fleetref2_NotesOf_2_x3_ok (qa : Int) (qb : Int) (vi : Int) (vl3 : List api_Note) (vj1 : Int) {r} (hF : slices_insertionSortCmpFunc_api_Note_o0_f3_fleetref2_NotesOf_2_x3 qa vl3 vj1 = some r) : Awp prog 1 53 (cL (cL (cL (cL (cR (cL (cL (cR (cL (cL (cR (cB f62)))))))))))) (Out 1 slices_insertionSortCmpFunc_api_Note_o0_f3_fleetref2_NotesOf_2_x3_k (slices_insertionSortCmpFunc_api_Note_o0_f3_fleetref2_NotesOf_2_x3_S qa qb vi vl3 vj1) r) (slices_insertionSortCmpFunc_api_Note_o0_f3_fleetref2_NotesOf_2_x3_I qa qb vi vl3 vj1) := by
  unfold slices_insertionSortCmpFunc_api_Note_o0_f3_fleetref2_NotesOf_2_x3 at hF
  refine cE hF (fun h2 hF => ?_) fun h2 hF => ?_
  · refine bE hF fun vy15 h3 hF => ?_
    refine bE hF fun vy16 h4 hF => ?_
    refine bE hF fun _ h5 hF => ?_
    refine aD ?_
    refine dR 2 ?_
    refine dB h2 ?_
    refine dR 4 ?_
    refine dX (x_idxO api_Note.enc 0 h3) ?_
    refine dX (x_ldE api_Note.enc h3) ?_
    refine dR 3 ?_
    refine dX (x_idxO api_Note.enc 0 h4) ?_
    refine dX (x_ldE api_Note.enc h4) ?_
    refine dC (fleetref2_NotesOf_2_ok h5) [] [] [] ?_
    refine dR 2 ?_
    refine dE ?_
    exact oO hF [] [] rfl
  · refine aD ?_
    refine dR 2 ?_
    refine dB h2 ?_
    refine dR 14 ?_
    refine dE ?_
    exact oO hF [] [] rfl

def slices_insertionSortCmpFunc_api_Note_o0_f3_fleetref2_NotesOf_2_x2_k : (List api_Note) → AEx
  | _ => .exit 2

def slices_insertionSortCmpFunc_api_Note_o0_f3_fleetref2_NotesOf_2_x2_S (qa : Int) (qb : Int) (vi : Int) : (List api_Note) → St
  | vl4 => Mem.st ⟨[(0, ⟨33, 9, List.map api_Note.enc vl4⟩)], []⟩ (tl [(0, .v (.one (.own 0 none))), (1, .v (.one (.d (.int .i64 qa)))), (2, .v (.one (.d (.int .i64 qb)))), (3, .v (.one (.fn 34 []))), (8, .v (.one (.d (.int .i64 vi))))]) 1

def slices_insertionSortCmpFunc_api_Note_o0_f3_fleetref2_NotesOf_2_x2_H (qa : Int) (qb : Int) (vi : Int) : (List api_Note) × Int → St
  | (vl3, vj1) => Mem.st ⟨[(0, ⟨33, 9, List.map api_Note.enc vl3⟩)], []⟩ (tl [(0, .v (.one (.own 0 none))), (1, .v (.one (.d (.int .i64 qa)))), (2, .v (.one (.d (.int .i64 qb)))), (3, .v (.one (.fn 34 []))), (8, .v (.one (.d (.int .i64 vi)))), (9, .v (.one (.d (.int .i64 vj1))))]) 1

theorem slices_insertionSortCmpFunc_api_Note_o0_f3_fleetref2_NotesOf_2_x2_ok (qa : Int) (qb : Int) (vi : Int) (s : (List api_Note) × Int) (r : ((List api_Note) × Int) ⊕ ((List api_Note))) (hF : slices_insertionSortCmpFunc_api_Note_o0_f3_fleetref2_NotesOf_2_x2 qa s = some r) : Awp prog 1 53 (cL (cL (cR (cL (cL (cR (cL (cL (cR (cB f62)))))))))) (Out 1 (kk slices_insertionSortCmpFunc_api_Note_o0_f3_fleetref2_NotesOf_2_x2_k) (SS (slices_insertionSortCmpFunc_api_Note_o0_f3_fleetref2_NotesOf_2_x2_H qa qb vi) (slices_insertionSortCmpFunc_api_Note_o0_f3_fleetref2_NotesOf_2_x2_S qa qb vi)) r) (slices_insertionSortCmpFunc_api_Note_o0_f3_fleetref2_NotesOf_2_x2_H qa qb vi s) := by
  obtain ⟨vl3, vj1⟩ := s
  unfold slices_insertionSortCmpFunc_api_Note_o0_f3_fleetref2_NotesOf_2_x2 at hF
  refine awp_seq ?_
  refine awp_seq ?_
  refine awp_to (st' := slices_insertionSortCmpFunc_api_Note_o0_f3_fleetref2_NotesOf_2_x3_I qa qb vi vl3 vj1) (oT [] []) ?_
  refine bE hF fun vx4_1 h6 hF => ?_
  refine awp_sub (slices_insertionSortCmpFunc_api_Note_o0_f3_fleetref2_NotesOf_2_x3_ok qa qb vi vl3 vj1 h6) ?_
  refine cE hF (fun h7 hF => ?_) fun h7 hF => ?_
  · refine awp_true (by kernel_rfl) h7 ?_
    refine awp_skip ?_
    refine awp_seq ?_
    refine awp_block ?_
    refine bE hF fun vy17 h8 hF => ?_
    refine bE hF fun vy18 h9 hF => ?_
    refine bE hF fun vy19 h10 hF => ?_
    refine aDw [0] ?_
    refine dR 8 ?_
    refine dI api_Note.enc 0 h8 rfl ?_
    refine dX (x_ldE api_Note.enc h8) ?_
    refine dR 2 ?_
    refine dI api_Note.enc 0 h9 rfl ?_
    refine dX (x_ldE api_Note.enc h9) ?_
    refine dI api_Note.enc 0 h9 rfl ?_
    refine dW api_Note.enc (api_Note.mk (api_Letter.mk vy17.Letter.Id vy17.Letter.Slot vy17.Letter.Body vy17.Letter.Prio vy17.Letter.At vy17.Letter.Until) vy17.State vy17.Tries vy17.Since) h9 rfl ?_
    refine dI api_Note.enc 0 h10 rfl ?_
    refine dW api_Note.enc (api_Note.mk (api_Letter.mk vy18.Letter.Id vy18.Letter.Slot vy18.Letter.Body vy18.Letter.Prio vy18.Letter.At vy18.Letter.Until) vy18.State vy18.Tries vy18.Since) h10 rfl ?_
    refine dE ?_
    refine awp_region ?_
    refine aR 3 ?_
    refine aE ?_
    exact oO hF [] [] rfl
  · refine awp_false (by kernel_rfl) h7 ?_
    refine awp_exit ?_
    exact oO hF [] [] rfl

def slices_insertionSortCmpFunc_api_Note_o0_f3_fleetref2_NotesOf_2_x1_k : (List api_Note) → AEx
  | _ => .exit 0

def slices_insertionSortCmpFunc_api_Note_o0_f3_fleetref2_NotesOf_2_x1_S (qa : Int) (qb : Int) : (List api_Note) → St
  | vl5 => Mem.st ⟨[(0, ⟨33, 9, List.map api_Note.enc vl5⟩)], []⟩ (tl []) 1

def slices_insertionSortCmpFunc_api_Note_o0_f3_fleetref2_NotesOf_2_x1_H (qa : Int) (qb : Int) : (List api_Note) × Int → St
  | (vl, vi) => Mem.st ⟨[(0, ⟨33, 9, List.map api_Note.enc vl⟩)], []⟩ (tl [(0, .v (.one (.own 0 none))), (1, .v (.one (.d (.int .i64 qa)))), (2, .v (.one (.d (.int .i64 qb)))), (3, .v (.one (.fn 34 []))), (8, .v (.one (.d (.int .i64 vi))))]) 1

theorem slices_insertionSortCmpFunc_api_Note_o0_f3_fleetref2_NotesOf_2_x1_ok (qa : Int) (qb : Int) (s : (List api_Note) × Int) (r : ((List api_Note) × Int) ⊕ ((List api_Note))) (hF : slices_insertionSortCmpFunc_api_Note_o0_f3_fleetref2_NotesOf_2_x1 qa qb s = some r) : Awp prog 1 53 (cL (cL (cR (cB f62)))) (Out 1 (kk slices_insertionSortCmpFunc_api_Note_o0_f3_fleetref2_NotesOf_2_x1_k) (SS (slices_insertionSortCmpFunc_api_Note_o0_f3_fleetref2_NotesOf_2_x1_H qa qb) (slices_insertionSortCmpFunc_api_Note_o0_f3_fleetref2_NotesOf_2_x1_S qa qb)) r) (slices_insertionSortCmpFunc_api_Note_o0_f3_fleetref2_NotesOf_2_x1_H qa qb s) := by
  obtain ⟨vl, vi⟩ := s
  unfold slices_insertionSortCmpFunc_api_Note_o0_f3_fleetref2_NotesOf_2_x1 at hF
  refine awp_seq ?_
  refine awp_seq ?_
  refine awp_region ?_
  refine aR 3 ?_
  refine aE ?_
  refine cE hF (fun h1 hF => ?_) fun h1 hF => ?_
  · refine awp_true (by kernel_rfl) h1 ?_
    refine awp_skip ?_
    refine awp_seq ?_
    refine awp_block ?_
    refine awp_seq ?_
    refine awp_region ?_
    refine aR 2 ?_
    refine aE ?_
    refine awp_block ?_
    refine awp_to (st' := slices_insertionSortCmpFunc_api_Note_o0_f3_fleetref2_NotesOf_2_x2_H qa qb vi (vl, vi)) (oT [] []) ?_
    refine bE hF fun vl4_1 h11 hF => ?_
    refine awp_sub (awp_loop' (slices_insertionSortCmpFunc_api_Note_o0_f3_fleetref2_NotesOf_2_x2_H qa qb vi) slices_insertionSortCmpFunc_api_Note_o0_f3_fleetref2_NotesOf_2_x2_k (slices_insertionSortCmpFunc_api_Note_o0_f3_fleetref2_NotesOf_2_x2_S qa qb vi) (by intro x; exact fun h => nomatch h) h11 (slices_insertionSortCmpFunc_api_Note_o0_f3_fleetref2_NotesOf_2_x2_ok qa qb vi)) ?_
    refine awp_region ?_
    refine aR 3 ?_
    refine aE ?_
    exact oO hF [] [] rfl
  · refine awp_false (by kernel_rfl) h1 ?_
    refine awp_exit ?_
    exact oO hF [] [] rfl

def slices_insertionSortCmpFunc_api_Note_o0_f3_fleetref2_NotesOf_2_R (qdata : List api_Note) (qa : Int) (qb : Int) (r : (List api_Note)) : TV × Mem := (.tup [], ⟨[(0, ⟨33, 9, List.map api_Note.enc r⟩)], []⟩)

theorem slices_insertionSortCmpFunc_api_Note_o0_f3_fleetref2_NotesOf_2_ok {qdata : List api_Note} {qa : Int} {qb : Int} {r} (hF : slices_insertionSortCmpFunc_api_Note_o0_f3_fleetref2_NotesOf_2 qdata qa qb = some r) : Holds prog 62 [.v (.one (.own 0 none)), .v (.one (.d (.int .i64 qa))), .v (.one (.d (.int .i64 qb))), .v (.one (.fn 34 []))] ⟨[(0, ⟨33, 9, List.map api_Note.enc qdata⟩)], []⟩ (Is (slices_insertionSortCmpFunc_api_Note_o0_f3_fleetref2_NotesOf_2_R qdata qa qb r)) := by
  unfold slices_insertionSortCmpFunc_api_Note_o0_f3_fleetref2_NotesOf_2 at hF
  refine holds_of_awp hΓ (fn := f62) (c := cB f62) (A := 1) (nx := 1) (by kernel_rfl) (by kernel_rfl) (by kernel_rfl) (by kernel_rfl) (by kernel_rfl) (by kernel_rfl) (lowc_of (by kernel_rfl)) ?_
  show Awp prog 1 53 (cB f62) _ _
  refine awp_seq ?_
  refine awp_region ?_
  refine aR 3 ?_
  refine aE ?_
  refine awp_block ?_
  refine awp_to (st' := slices_insertionSortCmpFunc_api_Note_o0_f3_fleetref2_NotesOf_2_x1_H qa qb (qdata, IntKind.wrap .i64 (qa + 1))) (oT [] []) ?_
  refine bE hF fun vl5_1 h12 hF => ?_
  refine awp_sub (awp_loop' (slices_insertionSortCmpFunc_api_Note_o0_f3_fleetref2_NotesOf_2_x1_H qa qb) slices_insertionSortCmpFunc_api_Note_o0_f3_fleetref2_NotesOf_2_x1_k (slices_insertionSortCmpFunc_api_Note_o0_f3_fleetref2_NotesOf_2_x1_S qa qb) (by intro x; exact fun h => nomatch h) h12 (slices_insertionSortCmpFunc_api_Note_o0_f3_fleetref2_NotesOf_2_x1_ok qa qb)) ?_
  exact oF hF [] []

/-! ### slices.pdqsortCmpFunc[beaconfleet/api.Note] -/
def slices_pdqsortCmpFunc_api_Note_o0_f4_fleetref2_NotesOf_2_x1_k : (List api_Note) → AEx
  | _ => .ret

def slices_pdqsortCmpFunc_api_Note_o0_f4_fleetref2_NotesOf_2_x1_S (qx : List api_Note) (qx1 : Int) (qx2 : Int) (qx3 : Int) : (List api_Note) → St
  | vl => Mem.st ⟨[(0, ⟨33, 9, List.map api_Note.enc vl⟩)], []⟩ (tl []) 1

def slices_pdqsortCmpFunc_api_Note_o0_f4_fleetref2_NotesOf_2_x1_H (qx : List api_Note) (qx1 : Int) (qx2 : Int) (qx3 : Int) : Unit → St
  | _ => Mem.st ⟨[(0, ⟨33, 9, List.map api_Note.enc qx⟩)], []⟩ (tl [(0, .v (.one (.own 0 none))), (1, .v (.one (.d (.int .i64 qx1)))), (2, .v (.one (.d (.int .i64 qx2)))), (3, .v (.one (.d (.int .i64 qx3)))), (4, .v (.one (.fn 34 []))), (10, .v (.one (.d (.bool true)))), (11, .v (.one (.d (.bool true))))]) 1

theorem slices_pdqsortCmpFunc_api_Note_o0_f4_fleetref2_NotesOf_2_x1_ok (qx : List api_Note) (qx1 : Int) (qx2 : Int) (qx3 : Int) (s : Unit) (r : (Unit) ⊕ ((List api_Note))) (hF : slices_pdqsortCmpFunc_api_Note_o0_f4_fleetref2_NotesOf_2_x1 qx qx1 qx2 qx3 s = some r) : Awp prog 1 148 (cL (cL (cR (cR (cB f48))))) (Out 1 (kk slices_pdqsortCmpFunc_api_Note_o0_f4_fleetref2_NotesOf_2_x1_k) (SS (slices_pdqsortCmpFunc_api_Note_o0_f4_fleetref2_NotesOf_2_x1_H qx qx1 qx2 qx3) (slices_pdqsortCmpFunc_api_Note_o0_f4_fleetref2_NotesOf_2_x1_S qx qx1 qx2 qx3)) r) (slices_pdqsortCmpFunc_api_Note_o0_f4_fleetref2_NotesOf_2_x1_H qx qx1 qx2 qx3 s) := by
  unfold slices_pdqsortCmpFunc_api_Note_o0_f4_fleetref2_NotesOf_2_x1 at hF
  refine awp_block ?_
  refine awp_seq ?_
  refine awp_region ?_
  refine aR 4 ?_
  refine aE ?_
  refine awp_seq ?_
  refine awp_seq ?_
  refine awp_region ?_
  refine aR 2 ?_
  refine aE ?_
  refine cE hF (fun h1 hF => ?_) fun h1 hF => ?_
  · refine awp_true (by kernel_rfl) h1 ?_
    refine awp_seq ?_
    refine bE hF fun vl6_1 h2 hF => ?_
    refine gE hF fun h3 hF => ?_
    refine awp_region ?_
    refine aR 4 ?_
    refine aCp (slices_insertionSortCmpFunc_api_Note_o0_f3_fleetref2_NotesOf_2_ok h2) ⟨⟨rfl, rfl, pin1 h3⟩, trivial⟩ [] [] [] ?_
    refine aE ?_
    refine awp_ret ?_
    exact oO hF [] [] rfl
  · refine awp_false (by kernel_rfl) h1 ?_
    refine awp_skip ?_
    refine awp_seq ?_
    refine awp_seq ?_
    refine awp_region ?_
    refine aR 2 ?_
    refine aE ?_
    refine cE hF (fun h4 hF => ?_) fun h4 hF => ?_
    · refine awp_true (by kernel_rfl) h4 ?_
      refine awp_seq ?_
      exact nE hF
    · refine awp_false (by kernel_rfl) h4 ?_
      refine awp_skip ?_
      refine awp_seq ?_
      refine awp_seq ?_
      refine awp_region ?_
      refine aR 2 ?_
      refine aE ?_
      refine awp_false (by kernel_rfl) rfl ?_
      refine awp_skip ?_
      refine awp_seq ?_
      exact nE hF

def slices_pdqsortCmpFunc_api_Note_o0_f4_fleetref2_NotesOf_2_R (qx : List api_Note) (qx1 : Int) (qx2 : Int) (qx3 : Int) (r : (List api_Note)) : TV × Mem := (.tup [], ⟨[(0, ⟨33, 9, List.map api_Note.enc r⟩)], []⟩)

theorem slices_pdqsortCmpFunc_api_Note_o0_f4_fleetref2_NotesOf_2_ok {qx : List api_Note} {qx1 : Int} {qx2 : Int} {qx3 : Int} {r} (hF : slices_pdqsortCmpFunc_api_Note_o0_f4_fleetref2_NotesOf_2 qx qx1 qx2 qx3 = some r) : Holds prog 48 [.v (.one (.own 0 none)), .v (.one (.d (.int .i64 qx1))), .v (.one (.d (.int .i64 qx2))), .v (.one (.d (.int .i64 qx3))), .v (.one (.fn 34 []))] ⟨[(0, ⟨33, 9, List.map api_Note.enc qx⟩)], []⟩ (Is (slices_pdqsortCmpFunc_api_Note_o0_f4_fleetref2_NotesOf_2_R qx qx1 qx2 qx3 r)) := by
  unfold slices_pdqsortCmpFunc_api_Note_o0_f4_fleetref2_NotesOf_2 at hF
  refine holds_of_awp hΓ (fn := f48) (c := cB f48) (A := 1) (nx := 1) (by kernel_rfl) (by kernel_rfl) (by kernel_rfl) (by kernel_rfl) (by kernel_rfl) (by kernel_rfl) (lowc_of (by kernel_rfl)) ?_
  show Awp prog 1 148 (cB f48) _ _
  refine awp_seq ?_
  refine awp_region ?_
  refine aR 1 ?_
  refine aE ?_
  refine awp_seq ?_
  refine awp_region ?_
  refine aR 1 ?_
  refine aE ?_
  refine awp_block ?_
  refine awp_to (st' := slices_pdqsortCmpFunc_api_Note_o0_f4_fleetref2_NotesOf_2_x1_H qx qx1 qx2 qx3 ()) (oT [] []) ?_
  refine bE hF fun vl1 h7 hF => ?_
  refine awp_sub (awp_loop' (slices_pdqsortCmpFunc_api_Note_o0_f4_fleetref2_NotesOf_2_x1_H qx qx1 qx2 qx3) slices_pdqsortCmpFunc_api_Note_o0_f4_fleetref2_NotesOf_2_x1_k (slices_pdqsortCmpFunc_api_Note_o0_f4_fleetref2_NotesOf_2_x1_S qx qx1 qx2 qx3) (by intro x; exact fun h => nomatch h) h7 (slices_pdqsortCmpFunc_api_Note_o0_f4_fleetref2_NotesOf_2_x1_ok qx qx1 qx2 qx3)) ?_
  exact oF hF [] []

/-! ### slices.SortFunc[[]beaconfleet/api.Note,beaconfleet/api.Note] -/
def slices_SortFunc_api_Note_api_Note_o0_f1_fleetref2_NotesOf_2_R (qx : List api_Note) (r : (List api_Note)) : TV × Mem := (.tup [], ⟨[(0, ⟨33, 9, List.map api_Note.enc r⟩)], []⟩)

theorem slices_SortFunc_api_Note_api_Note_o0_f1_fleetref2_NotesOf_2_ok {qx : List api_Note} {r} (hF : slices_SortFunc_api_Note_api_Note_o0_f1_fleetref2_NotesOf_2 qx = some r) : Holds prog 33 [.v (.one (.own 0 none)), .v (.one (.fn 34 []))] ⟨[(0, ⟨33, 9, List.map api_Note.enc qx⟩)], []⟩ (Is (slices_SortFunc_api_Note_api_Note_o0_f1_fleetref2_NotesOf_2_R qx r)) := by
  unfold slices_SortFunc_api_Note_api_Note_o0_f1_fleetref2_NotesOf_2 at hF
  refine holds_of_awp hΓ (fn := f33) (c := cB f33) (A := 1) (nx := 1) (by kernel_rfl) (by kernel_rfl) (by kernel_rfl) (by kernel_rfl) (by kernel_rfl) (by kernel_rfl) (lowc_of (by kernel_rfl)) ?_
  show Awp prog 1 14 (cB f33) _ _
  refine awp_seq ?_
  refine awp_region ?_
  refine aR 1 ?_
  refine aL api_Note.enc qx ?_
  refine aR 1 ?_
  refine aE ?_
  refine bE hF fun vr1 h1 hF => ?_
  refine bE hF fun vl2 h2 hF => ?_
  refine gE hF fun h3 hF => ?_
  refine awp_region ?_
  refine aR 4 ?_
  refine aC (bits_Len_ok h1) [] [] [] ?_
  refine aR 1 ?_
  refine aCp (slices_pdqsortCmpFunc_api_Note_o0_f4_fleetref2_NotesOf_2_ok h2) ⟨⟨rfl, rfl, pin1 h3⟩, trivial⟩ [] [] [] ?_
  refine aE ?_
  exact oF hF [] []

/-! ### beaconfleet/fleetref2.NotesOf -/
def fleetref2_NotesOf_o1_x2_k : (List api_Note) ⊕ Unit → AEx
  | .inl _ => .normal
  | .inr _ => .ret

def fleetref2_NotesOf_o1_x2_S (qb : List api_Note) (vout : List api_Note) (vx : Int) : (List api_Note) ⊕ Unit → St
  | .inl vout2 => Mem.st ⟨[(1, ⟨33, 9, List.map api_Note.enc vout2⟩)], []⟩ (tl [(6, .v (.one (.own 1 none))), (12, .v (.one (.d (.lst (List.map api_Note.enc qb))))), (13, .v (.one (.d (.int .i64 (qb.length : Int))))), (14, .v (.one (.d (.int .i64 vx))))]) 2
  | .inr _ => Mem.st ⟨[], []⟩ (tl [(4, .v (.one (.nil))), (5, .v (.one (.d (.int .i64 13))))]) 1

def fleetref2_NotesOf_o1_x2_I (qb : List api_Note) (vout : List api_Note) (vx : Int) : St := Mem.st ⟨[(1, ⟨33, 9, List.map api_Note.enc vout⟩)], []⟩ (tl [(6, .v (.one (.own 1 none))), (12, .v (.one (.d (.lst (List.map api_Note.enc qb))))), (13, .v (.one (.d (.int .i64 (qb.length : Int))))), (14, .v (.one (.d (.int .i64 vx))))]) 2

theorem fleetref2_NotesOf_o1_x2_ok (qb : List api_Note) (vout : List api_Note) (vx : Int) {r} (hF : fleetref2_NotesOf_o1_x2 qb vout vx = some r) : Awp prog 1 58 (cL (cR (cR (cL (cL (cR (cL (cR (cR (cB f13)))))))))) (Out 1 fleetref2_NotesOf_o1_x2_k (fleetref2_NotesOf_o1_x2_S qb vout vx) r) (fleetref2_NotesOf_o1_x2_I qb vout vx) := by
  unfold fleetref2_NotesOf_o1_x2 at hF
  refine awp_block ?_
  refine awp_seq ?_
  refine bE hF fun vy2 h3 hF => ?_
  refine awp_region ?_
  refine aX (x_idx api_Note.enc h3) ?_
  refine aR 3 ?_
  refine aE ?_
  refine awp_seq ?_
  refine bE hF fun vr4 h4 hF => ?_
  refine awp_region ?_
  refine aR 2 ?_
  refine aC (slices_IndexFunc_api_Note_api_Note_f1_fleetref2_NotesOf_1_ok h4) [(0, 2002)] [] [1] ?_
  refine aR 1 ?_
  refine aE ?_
  refine awp_block ?_
  refine awp_seq ?_
  refine awp_region ?_
  refine aR 3 ?_
  refine aE ?_
  refine cE hF (fun h5 hF => ?_) fun h5 hF => ?_
  · refine awp_true (by kernel_rfl) h5 ?_
    refine gE hF fun h6 hF => ?_
    refine awp_region ?_
    refine aR 3 ?_
    refine aX (x_app api_Note.enc 1 h6) ?_
    refine aR 1 ?_
    refine aE ?_
    exact oO hF [(1, 14002)] [] rfl
  · refine awp_false (by kernel_rfl) h5 ?_
    refine awp_seq ?_
    refine bE hF fun vy3 h7 hF => ?_
    refine aD ?_
    refine dR 2 ?_
    refine dX (x_idxO api_Note.enc 1 h7) ?_
    refine dR 1 ?_
    refine dX (x_ldE api_Note.enc h7) ?_
    refine dR 2 ?_
    refine dS (U := []) (stable_eqS (op := .neq) (xs := [.str vy3.Letter.Id, .str vy3.Letter.Slot, .str vy3.Letter.Body, .int .i64 vy3.Letter.Prio, .int .i64 vy3.Letter.At, .int .i64 vy3.Letter.Until]) (ys := [.str vy2.Letter.Id, .str vy2.Letter.Slot, .str vy2.Letter.Body, .int .i64 vy2.Letter.Prio, .int .i64 vy2.Letter.At, .int .i64 vy2.Letter.Until]) (b := (decide (vy3.Letter.Id = vy2.Letter.Id) && (decide (vy3.Letter.Slot = vy2.Letter.Slot) && (decide (vy3.Letter.Body = vy2.Letter.Body) && (decide (vy3.Letter.Prio = vy2.Letter.Prio) && (decide (vy3.Letter.At = vy2.Letter.At) && (decide (vy3.Letter.Until = vy2.Letter.Until) && true))))))) (c := (!(decide (vy3.Letter.Id = vy2.Letter.Id) && (decide (vy3.Letter.Slot = vy2.Letter.Slot) && (decide (vy3.Letter.Body = vy2.Letter.Body) && (decide (vy3.Letter.Prio = vy2.Letter.Prio) && (decide (vy3.Letter.At = vy2.Letter.At) && (decide (vy3.Letter.Until = vy2.Letter.Until) && true)))))))) rfl (.inr ⟨rfl, rfl⟩) (by kernel_rfl) (by kernel_rfl) (by kernel_rfl) (by kernel_rfl) (by kernel_rfl) (by kernel_rfl)) ?_
    refine dR 1 ?_
    refine dE ?_
    refine cE hF (fun h8 hF => ?_) fun h8 hF => ?_
    · refine awp_true (by kernel_rfl) h8 ?_
      refine awp_seq ?_
      refine awp_region ?_
      refine aR 2 ?_
      refine aE ?_
      refine awp_ret ?_
      exact oO hF [] [] rfl
    · refine awp_false (by kernel_rfl) h8 ?_
      refine awp_seq ?_
      refine bE hF fun vr5 h9 hF => ?_
      refine bE hF fun vr6 h10 hF => ?_
      refine bE hF fun vr2_2 h11 hF => ?_
      refine aD ?_
      refine dR 1 ?_
      refine dC (fleetref2_gone_ok h9) [] [] [] ?_
      refine dR 2 ?_
      refine dX (x_idxO api_Note.enc 1 h7) ?_
      refine dX (x_ldE api_Note.enc h7) ?_
      refine dC (fleetref2_gone_ok h10) [] [] [] ?_
      refine dC (slices_Compare_int_int_ok h11) [] [] [21002, 26002] ?_
      refine dR 2 ?_
      refine dE ?_
      refine cE hF (fun h12 hF => ?_) fun h12 hF => ?_
      · refine awp_true (by kernel_rfl) h12 ?_
        refine awp_region ?_
        refine aR 3 ?_
        refine aX (x_idxO api_Note.enc 1 h7) ?_
        refine aX (x_stE api_Note.enc (api_Note.mk (api_Letter.mk vy2.Letter.Id vy2.Letter.Slot vy2.Letter.Body vy2.Letter.Prio vy2.Letter.At vy2.Letter.Until) vy2.State vy2.Tries vy2.Since) h7) ?_
        refine aE ?_
        exact oO hF [] [] rfl
      · refine awp_false (by kernel_rfl) h12 ?_
        refine awp_skip ?_
        exact oO hF [] [] rfl

def fleetref2_NotesOf_o1_x1_k : (List api_Note) ⊕ Unit → AEx
  | .inl _ => .exit 0
  | .inr _ => .ret

def fleetref2_NotesOf_o1_x1_S (qb : List api_Note) : (List api_Note) ⊕ Unit → St
  | .inl vout3 => Mem.st ⟨[(1, ⟨33, 9, List.map api_Note.enc vout3⟩)], []⟩ (tl [(6, .v (.one (.own 1 none)))]) 2
  | .inr _ => Mem.st ⟨[], []⟩ (tl [(4, .v (.one (.nil))), (5, .v (.one (.d (.int .i64 13))))]) 1

def fleetref2_NotesOf_o1_x1_H (qb : List api_Note) : (List api_Note) × Int → St
  | (vout, vx) => Mem.st ⟨[(1, ⟨33, 9, List.map api_Note.enc vout⟩)], []⟩ (tl [(6, .v (.one (.own 1 none))), (12, .v (.one (.d (.lst (List.map api_Note.enc qb))))), (13, .v (.one (.d (.int .i64 (qb.length : Int))))), (14, .v (.one (.d (.int .i64 vx))))]) 2

theorem fleetref2_NotesOf_o1_x1_ok (qb : List api_Note) (s : (List api_Note) × Int) (r : ((List api_Note) × Int) ⊕ ((List api_Note) ⊕ Unit)) (hF : fleetref2_NotesOf_o1_x1 qb s = some r) : Awp prog 1 58 (cL (cL (cR (cL (cR (cR (cB f13))))))) (Out 1 (kk fleetref2_NotesOf_o1_x1_k) (SS (fleetref2_NotesOf_o1_x1_H qb) (fleetref2_NotesOf_o1_x1_S qb)) r) (fleetref2_NotesOf_o1_x1_H qb s) := by
  obtain ⟨vout, vx⟩ := s
  unfold fleetref2_NotesOf_o1_x1 at hF
  refine awp_seq ?_
  refine awp_region ?_
  refine aR 1 ?_
  refine aE ?_
  refine awp_seq ?_
  refine cE hF (fun h2 hF => ?_) fun h2 hF => ?_
  · refine awp_true (by kernel_rfl) h2 ?_
    refine awp_skip ?_
    refine awp_seq ?_
    refine awp_to (st' := fleetref2_NotesOf_o1_x2_I qb vout vx) (oT [] []) ?_
    refine bE hF fun x h13 hF => ?_
    rcases x with vout2_1 | _
    · refine awp_sub (fleetref2_NotesOf_o1_x2_ok qb vout vx h13) ?_
      refine awp_region ?_
      refine aR 2 ?_
      refine aE ?_
      exact oO hF [] [] rfl
    · refine awp_sub (fleetref2_NotesOf_o1_x2_ok qb vout vx h13) ?_
      exact oO hF [] [] rfl
  · refine awp_false (by kernel_rfl) h2 ?_
    refine awp_exit ?_
    exact oO hF [] [] rfl

def fleetref2_NotesOf_o1_R (qa : List api_Note) (qb : List api_Note) (r : (List api_Note) × Int) : TV × Mem := (.tup [.one (.own 1 none), .one (.d (.int .i64 r.2))], ⟨[(1, ⟨33, 9, List.map api_Note.enc r.1⟩)], []⟩)

theorem fleetref2_NotesOf_o1_ok {qa : List api_Note} {qb : List api_Note} {r} (hF : fleetref2_NotesOf_o1 qa qb = some r) : Holds prog 13 [.v (.one (.d (.lst (List.map api_Note.enc qa)))), .v (.one (.own 0 none))] ⟨[(0, ⟨33, 9, List.map api_Note.enc qb⟩)], []⟩ (Is (fleetref2_NotesOf_o1_R qa qb r)) := by
  unfold fleetref2_NotesOf_o1 at hF
  refine holds_of_awp hΓ (fn := f13) (c := cB f13) (A := 1) (nx := 1) (by kernel_rfl) (by kernel_rfl) (by kernel_rfl) (by kernel_rfl) (by kernel_rfl) (by kernel_rfl) (lowc_of (by kernel_rfl)) ?_
  show Awp prog 1 58 (cB f13) _ _
  refine awp_seq ?_
  refine awp_region ?_
  refine aR 2 ?_
  refine aE ?_
  refine awp_to (oT (m := ⟨[], []⟩) (ts := [(0, .v (.one (.d (.lst (List.map api_Note.enc qa))))), (1, .v (.one (.d (.lst (List.map api_Note.enc qb)))))]) (nx := 1) [] []) ?_
  refine awp_seq ?_
  refine bE hF fun vr h1 hF => ?_
  refine awp_region ?_
  refine aR 1 ?_
  refine aC (slices_Clone_api_Note_api_Note_ok h1) [] [] [] ?_
  refine aR 1 ?_
  refine aE ?_
  refine awp_seq ?_
  refine awp_seq ?_
  refine awp_region ?_
  refine aR 1 ?_
  refine aL api_Note.enc qb ?_
  refine aR 1 ?_
  refine aE ?_
  refine awp_block ?_
  refine awp_to (st' := fleetref2_NotesOf_o1_x1_H qb (vr, 0)) (oT [(1, 1001)] []) ?_
  refine bE hF fun x h14 hF => ?_
  rcases x with vout3_1 | _
  · refine awp_sub (awp_loop' (fleetref2_NotesOf_o1_x1_H qb) fleetref2_NotesOf_o1_x1_k (fleetref2_NotesOf_o1_x1_S qb) (by intro x; rcases x with x | x <;> exact fun h => nomatch h) h14 (fleetref2_NotesOf_o1_x1_ok qb)) ?_
    refine awp_seq ?_
    refine bE hF fun vl h15 hF => ?_
    refine gE hF fun h16 hF => ?_
    refine awp_region ?_
    refine aR 1 ?_
    refine aCp (slices_SortFunc_api_Note_api_Note_o0_f1_fleetref2_NotesOf_2_ok h15) ⟨⟨rfl, rfl, pin1 h16⟩, trivial⟩ [(0, 1)] [] [] ?_
    refine aE ?_
    refine awp_seq ?_
    refine awp_seq ?_
    refine awp_region ?_
    refine aR 1 ?_
    refine aL api_Note.enc vl ?_
    refine aR 1 ?_
    refine aE ?_
    refine cE hF (fun h17 hF => ?_) fun h17 hF => ?_
    · refine awp_true (by kernel_rfl) h17 ?_
      refine awp_seq ?_
      refine awp_region ?_
      refine aR 2 ?_
      refine aE ?_
      refine awp_ret ?_
      exact oF hF [] [1]
    · refine awp_false (by kernel_rfl) h17 ?_
      refine awp_skip ?_
      refine awp_seq ?_
      refine awp_region ?_
      refine aR 3 ?_
      refine aE ?_
      refine awp_ret ?_
      exact oF hF [] []
  · refine awp_sub (awp_loop' (fleetref2_NotesOf_o1_x1_H qb) fleetref2_NotesOf_o1_x1_k (fleetref2_NotesOf_o1_x1_S qb) (by intro x; rcases x with x | x <;> exact fun h => nomatch h) h14 (fleetref2_NotesOf_o1_x1_ok qb)) ?_
    exact oF hF [] [1]

/-! ### slices.Equal[[]beaconfleet/api.Note,beaconfleet/api.Note] -/
def slices_Equal_api_Note_api_Note_x1_k : Unit ⊕ Unit → AEx
  | .inl _ => .exit 0
  | .inr _ => .ret

def slices_Equal_api_Note_api_Note_x1_S (qs1 : List api_Note) (qs2 : List api_Note) : Unit ⊕ Unit → St
  | .inl _ => Mem.st ⟨[], []⟩ (tl []) 0
  | .inr _ => Mem.st ⟨[], []⟩ (tl [(4, .v (.one (.d (.bool false))))]) 0

def slices_Equal_api_Note_api_Note_x1_H (qs1 : List api_Note) (qs2 : List api_Note) : Int → St
  | vx => Mem.st ⟨[], []⟩ (tl [(0, .v (.one (.d (.lst (List.map api_Note.enc qs1))))), (1, .v (.one (.d (.lst (List.map api_Note.enc qs2))))), (12, .v (.one (.d (.int .i64 (qs1.length : Int))))), (13, .v (.one (.d (.int .i64 vx))))]) 0

theorem slices_Equal_api_Note_api_Note_x1_ok (qs1 : List api_Note) (qs2 : List api_Note) (vx : Int) (r : (Int) ⊕ (Unit ⊕ Unit)) (hF : slices_Equal_api_Note_api_Note_x1 qs1 qs2 vx = some r) : Awp prog 0 26 (cL (cL (cR (cL (cR (cR (cB f14))))))) (Out 0 (kk slices_Equal_api_Note_api_Note_x1_k) (SS (slices_Equal_api_Note_api_Note_x1_H qs1 qs2) (slices_Equal_api_Note_api_Note_x1_S qs1 qs2)) r) (slices_Equal_api_Note_api_Note_x1_H qs1 qs2 vx) := by
  unfold slices_Equal_api_Note_api_Note_x1 at hF
  refine awp_seq ?_
  refine awp_region ?_
  refine aR 1 ?_
  refine aE ?_
  refine awp_seq ?_
  refine cE hF (fun h2 hF => ?_) fun h2 hF => ?_
  · refine awp_true (by kernel_rfl) h2 ?_
    refine awp_skip ?_
    refine awp_seq ?_
    refine awp_block ?_
    refine awp_seq ?_
    refine awp_region ?_
    refine aR 2 ?_
    refine aE ?_
    refine awp_seq ?_
    refine bE hF fun vy2 h3 hF => ?_
    refine bE hF fun vy3 h4 hF => ?_
    refine aD ?_
    refine dR 2 ?_
    refine dX (x_idx api_Note.enc h3) ?_
    refine dR 3 ?_
    refine dX (x_idx api_Note.enc h4) ?_
    refine dR 1 ?_
    refine dS (U := []) (stable_eqS (op := .neq) (xs := [.str vy2.Letter.Id, .str vy2.Letter.Slot, .str vy2.Letter.Body, .int .i64 vy2.Letter.Prio, .int .i64 vy2.Letter.At, .int .i64 vy2.Letter.Until, .int .i64 vy2.State, .int .i64 vy2.Tries, .int .i64 vy2.Since]) (ys := [.str vy3.Letter.Id, .str vy3.Letter.Slot, .str vy3.Letter.Body, .int .i64 vy3.Letter.Prio, .int .i64 vy3.Letter.At, .int .i64 vy3.Letter.Until, .int .i64 vy3.State, .int .i64 vy3.Tries, .int .i64 vy3.Since]) (b := ((decide (vy2.Letter.Id = vy3.Letter.Id) && (decide (vy2.Letter.Slot = vy3.Letter.Slot) && (decide (vy2.Letter.Body = vy3.Letter.Body) && (decide (vy2.Letter.Prio = vy3.Letter.Prio) && (decide (vy2.Letter.At = vy3.Letter.At) && (decide (vy2.Letter.Until = vy3.Letter.Until) && true)))))) && (decide (vy2.State = vy3.State) && (decide (vy2.Tries = vy3.Tries) && (decide (vy2.Since = vy3.Since) && true))))) (c := (!((decide (vy2.Letter.Id = vy3.Letter.Id) && (decide (vy2.Letter.Slot = vy3.Letter.Slot) && (decide (vy2.Letter.Body = vy3.Letter.Body) && (decide (vy2.Letter.Prio = vy3.Letter.Prio) && (decide (vy2.Letter.At = vy3.Letter.At) && (decide (vy2.Letter.Until = vy3.Letter.Until) && true)))))) && (decide (vy2.State = vy3.State) && (decide (vy2.Tries = vy3.Tries) && (decide (vy2.Since = vy3.Since) && true)))))) rfl (.inr ⟨rfl, rfl⟩) (by kernel_rfl) (by kernel_rfl) (by kernel_rfl) (by kernel_rfl) (by kernel_rfl) (by kernel_rfl)) ?_
    refine dE ?_
    refine cE hF (fun h5 hF => ?_) fun h5 hF => ?_
    · refine awp_true (by kernel_rfl) h5 ?_
      refine awp_seq ?_
      refine awp_region ?_
      refine aR 1 ?_
      refine aE ?_
      refine awp_ret ?_
      exact oO hF [] [] rfl
    · refine awp_false (by kernel_rfl) h5 ?_
      refine awp_skip ?_
      refine awp_region ?_
      refine aR 2 ?_
      refine aE ?_
      exact oO hF [] [] rfl
  · refine awp_false (by kernel_rfl) h2 ?_
    refine awp_exit ?_
    exact oO hF [] [] rfl

def slices_Equal_api_Note_api_Note_R (qs1 : List api_Note) (qs2 : List api_Note) (r : Bool) : TV × Mem := (.v (.one (.d (.bool r))), ⟨[], []⟩)

theorem slices_Equal_api_Note_api_Note_ok {qs1 : List api_Note} {qs2 : List api_Note} {r} (hF : slices_Equal_api_Note_api_Note qs1 qs2 = some r) : Holds prog 14 [.v (.one (.d (.lst (List.map api_Note.enc qs1)))), .v (.one (.d (.lst (List.map api_Note.enc qs2))))] ⟨[], []⟩ (Is (slices_Equal_api_Note_api_Note_R qs1 qs2 r)) := by
  unfold slices_Equal_api_Note_api_Note at hF
  refine holds_of_awp hΓ (fn := f14) (c := cB f14) (A := 0) (nx := 0) (by kernel_rfl) (by kernel_rfl) (by kernel_rfl) (by kernel_rfl) (by kernel_rfl) (by kernel_rfl) (lowc_of (by kernel_rfl)) ?_
  show Awp prog 0 26 (cB f14) _ _
  refine awp_seq ?_
  refine awp_region ?_
  refine aR 1 ?_
  refine aE ?_
  refine awp_seq ?_
  refine awp_seq ?_
  refine awp_region ?_
  refine aR 1 ?_
  refine aL api_Note.enc qs1 ?_
  refine aR 1 ?_
  refine aL api_Note.enc qs2 ?_
  refine aR 1 ?_
  refine aE ?_
  refine cE hF (fun h1 hF => ?_) fun h1 hF => ?_
  · refine awp_true (by kernel_rfl) h1 ?_
    refine awp_seq ?_
    refine awp_region ?_
    refine aR 1 ?_
    refine aE ?_
    refine awp_ret ?_
    exact oF hF [] []
  · refine awp_false (by kernel_rfl) h1 ?_
    refine awp_skip ?_
    refine awp_seq ?_
    refine awp_seq ?_
    refine awp_region ?_
    refine aR 1 ?_
    refine aL api_Note.enc qs1 ?_
    refine aR 1 ?_
    refine aE ?_
    refine awp_block ?_
    refine awp_to (st' := slices_Equal_api_Note_api_Note_x1_H qs1 qs2 0) (oT [] []) ?_
    refine bE hF fun x h6 hF => ?_
    rcases x with _ | _
    · refine awp_sub (awp_loop' (slices_Equal_api_Note_api_Note_x1_H qs1 qs2) slices_Equal_api_Note_api_Note_x1_k (slices_Equal_api_Note_api_Note_x1_S qs1 qs2) (by intro x; rcases x with x | x <;> exact fun h => nomatch h) h6 (slices_Equal_api_Note_api_Note_x1_ok qs1 qs2)) ?_
      refine awp_seq ?_
      refine awp_region ?_
      refine aR 1 ?_
      refine aE ?_
      refine awp_ret ?_
      exact oF hF [] []
    · refine awp_sub (awp_loop' (slices_Equal_api_Note_api_Note_x1_H qs1 qs2) slices_Equal_api_Note_api_Note_x1_k (slices_Equal_api_Note_api_Note_x1_S qs1 qs2) (by intro x; rcases x with x | x <;> exact fun h => nomatch h) h6 (slices_Equal_api_Note_api_Note_x1_ok qs1 qs2)) ?_
      exact oF hF [] []

/-! ### beaconfleet/command.CheckPost -/
def command_CheckPost_x1_k : Bool → AEx
  | _ => .normal

def command_CheckPost_x1_S (qp : api_Post) : Bool → St
  | vx => Mem.st ⟨[], []⟩ (tl [(20, .v (.one (.d (.bool vx))))]) 0

def command_CheckPost_x1_I (qp : api_Post) : St := Mem.st ⟨[], [(0, [.d (.int .i64 qp.Room), .d (.int .i64 qp.Timeout), .d (.int .i64 qp.Tries), .d (.int .i64 qp.Kept)])]⟩ (tl [(1, .v (.one (.box 0 0)))]) 1

theorem command_CheckPost_x1_ok (qp : api_Post) {r} (hF : command_CheckPost_x1 qp = some r) : Awp prog 0 21 (cL (cL (cR (cB f50)))) (Out 0 command_CheckPost_x1_k (command_CheckPost_x1_S qp) r) (command_CheckPost_x1_I qp) := by
  unfold command_CheckPost_x1 at hF
  refine bE hF fun vr h1 hF => ?_
  refine cE hF (fun h2 hF => ?_) fun h2 hF => ?_
  · refine awp_region ?_
    refine aR 2 ?_
    refine aCb (base_Out_ok h1) [] [] [] h2 ?_
    refine aR 15 ?_
    refine aE ?_
    exact oO hF [] [] rfl
  · refine bE hF fun vr1 h3 hF => ?_
    refine cE hF (fun h4 hF => ?_) fun h4 hF => ?_
    · refine awp_region ?_
      refine aR 2 ?_
      refine aCb (base_Out_ok h1) [] [] [] h2 ?_
      refine aR 3 ?_
      refine aCb (base_Out_ok h3) [] [] [] h4 ?_
      refine aR 11 ?_
      refine aE ?_
      exact oO hF [] [] rfl
    · refine bE hF fun vr2 h5 hF => ?_
      refine cE hF (fun h6 hF => ?_) fun h6 hF => ?_
      · refine awp_region ?_
        refine aR 2 ?_
        refine aCb (base_Out_ok h1) [] [] [] h2 ?_
        refine aR 3 ?_
        refine aCb (base_Out_ok h3) [] [] [] h4 ?_
        refine aR 4 ?_
        refine aCb (base_Out_ok h5) [] [] [] h6 ?_
        refine aR 6 ?_
        refine aE ?_
        exact oO hF [] [] rfl
      · refine bE hF fun vr3 h7 hF => ?_
        refine awp_region ?_
        refine aR 2 ?_
        refine aCb (base_Out_ok h1) [] [] [] h2 ?_
        refine aR 3 ?_
        refine aCb (base_Out_ok h3) [] [] [] h4 ?_
        refine aR 4 ?_
        refine aCb (base_Out_ok h5) [] [] [] h6 ?_
        refine aR 4 ?_
        refine aC (base_Out_ok h7) [] [] [] ?_
        refine aR 1 ?_
        refine aE ?_
        exact oO hF [] [] rfl

def command_CheckPost_R (qp : api_Post) (r : Int) : TV × Mem := (.v (.one (.d (.int .i64 r))), ⟨[], []⟩)

theorem command_CheckPost_ok {qp : api_Post} {r} (hF : command_CheckPost qp = some r) : Holds prog 50 [.v (.agg [.d (.int .i64 qp.Room), .d (.int .i64 qp.Timeout), .d (.int .i64 qp.Tries), .d (.int .i64 qp.Kept)])] ⟨[], []⟩ (Is (command_CheckPost_R qp r)) := by
  unfold command_CheckPost at hF
  refine holds_of_awp hΓ (fn := f50) (c := cB f50) (A := 0) (nx := 0) (by kernel_rfl) (by kernel_rfl) (by kernel_rfl) (by kernel_rfl) (by kernel_rfl) (by kernel_rfl) (lowc_of (by kernel_rfl)) ?_
  show Awp prog 0 21 (cB f50) _ _
  refine awp_seq ?_
  refine awp_region ?_
  refine aR 2 ?_
  refine aE ?_
  refine awp_seq ?_
  refine awp_seq ?_
  refine awp_to (st' := command_CheckPost_x1_I qp) (oT [] []) ?_
  refine bE hF fun vx1 h8 hF => ?_
  refine awp_sub (command_CheckPost_x1_ok qp h8) ?_
  refine cE hF (fun h9 hF => ?_) fun h9 hF => ?_
  · refine awp_true (by kernel_rfl) h9 ?_
    refine awp_seq ?_
    refine awp_region ?_
    refine aR 1 ?_
    refine aE ?_
    refine awp_ret ?_
    exact oF hF [] []
  · refine awp_false (by kernel_rfl) h9 ?_
    refine awp_skip ?_
    refine awp_seq ?_
    refine awp_region ?_
    refine aR 1 ?_
    refine aE ?_
    refine awp_ret ?_
    exact oF hF [] []

/-! ### beaconfleet/command.New -/
def command_New_R (qp : api_Post) : Int ⊕ Unit → TV × Mem
  | .inl vr => (.tup [.one (.nilp), .one (.d (.int .i64 vr))], ⟨[], []⟩)
  | .inr _ => (.tup [.one (.box 0 0), .one (.d (.int .i64 0))], ⟨[], [(0, [.d (.int .i64 qp.Room), .d (.int .i64 qp.Timeout), .d (.int .i64 qp.Tries), .d (.int .i64 qp.Kept), .mapp 1, .d (.int .i64 0)]), (1, [.mapc .str true (List.map (encM D.str api_Note.enc) ([] : List (List UInt8 × api_Note)))])]⟩)

theorem command_New_ok {qp : api_Post} {r} (hF : command_New qp = some r) : Holds prog 35 [.v (.agg [.d (.int .i64 qp.Room), .d (.int .i64 qp.Timeout), .d (.int .i64 qp.Tries), .d (.int .i64 qp.Kept)])] ⟨[], []⟩ (Is (command_New_R qp r)) := by
  unfold command_New at hF
  refine holds_of_awp hΓ (fn := f35) (c := cB f35) (A := 0) (nx := 0) (by kernel_rfl) (by kernel_rfl) (by kernel_rfl) (by kernel_rfl) (by kernel_rfl) (by kernel_rfl) (lowc_of (by kernel_rfl)) ?_
  show Awp prog 0 14 (cB f35) _ _
  refine awp_seq ?_
  refine awp_region ?_
  refine aR 3 ?_
  refine aE ?_
  refine awp_seq ?_
  refine awp_seq ?_
  refine bE hF fun vr4 h1 hF => ?_
  refine awp_region ?_
  refine aR 1 ?_
  refine aC (command_CheckPost_ok h1) [] [] [] ?_
  refine aR 1 ?_
  refine aE ?_
  refine awp_seq ?_
  refine awp_region ?_
  refine aR 2 ?_
  refine aE ?_
  refine cE hF (fun h2 hF => ?_) fun h2 hF => ?_
  · refine awp_true (by kernel_rfl) h2 ?_
    refine awp_seq ?_
    refine awp_region ?_
    refine aR 3 ?_
    refine aE ?_
    refine awp_ret ?_
    exact oF hF [] []
  · refine awp_false (by kernel_rfl) h2 ?_
    refine awp_skip ?_
    refine awp_seq ?_
    refine awp_region ?_
    refine aR 1 ?_
    refine aX (x_map .str true (κ := List UInt8) (β := api_Note) D.str api_Note.enc) ?_
    refine aR 4 ?_
    refine aE ?_
    refine awp_ret ?_
    exact oF hF [(0, 11000), (1, 9000)] []

/-! ### (*beaconfleet/command.Office).timeFault -/
def command_Office_timeFault_R (qo : Int) (qo1 : Int) (qm : List (List UInt8 × api_Note)) (qat : Int) (r : Int) : TV × Mem := (.v (.one (.d (.int .i64 r))), ⟨[], [(0, [.d (.int .i64 qo), .d (.int .i64 qo), .d (.int .i64 qo), .d (.int .i64 qo1), .mapp 1, .d (.int .i64 qo1)]), (1, [.mapc .str true (List.map (encM D.str api_Note.enc) qm)])]⟩)

theorem command_Office_timeFault_ok {qo : Int} {qo1 : Int} {qm : List (List UInt8 × api_Note)} {qat : Int} {r} (hF : command_Office_timeFault qo qo1 qm qat = some r) : Holds prog 51 [.v (.one (.box 0 0)), .v (.one (.d (.int .i64 qat)))] ⟨[], [(0, [.d (.int .i64 qo), .d (.int .i64 qo), .d (.int .i64 qo), .d (.int .i64 qo1), .mapp 1, .d (.int .i64 qo1)]), (1, [.mapc .str true (List.map (encM D.str api_Note.enc) qm)])]⟩ (Is (command_Office_timeFault_R qo qo1 qm qat r)) := by
  unfold command_Office_timeFault at hF
  refine holds_of_awp hΓ (fn := f51) (c := cB f51) (A := 2) (nx := 2) (by kernel_rfl) (by kernel_rfl) (by kernel_rfl) (by kernel_rfl) (by kernel_rfl) (by kernel_rfl) (lowc_of (by kernel_rfl)) ?_
  show Awp prog 2 16 (cB f51) _ _
  refine awp_seq ?_
  refine awp_region ?_
  refine aR 1 ?_
  refine aE ?_
  refine awp_seq ?_
  refine awp_block ?_
  refine awp_seq ?_
  refine bE hF fun vr1 h1 hF => ?_
  refine awp_region ?_
  refine aR 1 ?_
  refine aC (base_Moment_ok h1) [] [] [] ?_
  refine aR 2 ?_
  refine aE ?_
  refine cE hF (fun h2 hF => ?_) fun h2 hF => ?_
  · refine awp_true (by kernel_rfl) h2 ?_
    refine awp_seq ?_
    refine awp_region ?_
    refine aR 1 ?_
    refine aE ?_
    refine awp_ret ?_
    exact oF hF [] []
  · refine awp_false (by kernel_rfl) h2 ?_
    refine awp_seq ?_
    refine awp_region ?_
    refine aR 7 ?_
    refine aE ?_
    refine cE hF (fun h3 hF => ?_) fun h3 hF => ?_
    · refine awp_true (by kernel_rfl) h3 ?_
      refine awp_seq ?_
      refine awp_region ?_
      refine aR 1 ?_
      refine aE ?_
      refine awp_ret ?_
      exact oF hF [] []
    · refine awp_false (by kernel_rfl) h3 ?_
      refine awp_skip ?_
      refine awp_seq ?_
      refine awp_region ?_
      refine aR 1 ?_
      refine aE ?_
      refine awp_ret ?_
      exact oF hF [] []

/-! ### beaconfleet/command.ended -/
def command_ended_R (qstate : Int) (r : Unit) : TV × Mem := (.v (.one (.d (.bool (decide (3 ≤ qstate))))), ⟨[], []⟩)

theorem command_ended_ok {qstate : Int} {r} (hF : command_ended qstate = some r) : Holds prog 73 [.v (.one (.d (.int .i64 qstate)))] ⟨[], []⟩ (Is (command_ended_R qstate r)) := by
  unfold command_ended at hF
  refine holds_of_awp hΓ (fn := f73) (c := cB f73) (A := 0) (nx := 0) (by kernel_rfl) (by kernel_rfl) (by kernel_rfl) (by kernel_rfl) (by kernel_rfl) (by kernel_rfl) (lowc_of (by kernel_rfl)) ?_
  show Awp prog 0 5 (cB f73) _ _
  refine awp_seq ?_
  refine awp_region ?_
  refine aR 1 ?_
  refine aE ?_
  refine awp_seq ?_
  refine awp_region ?_
  refine aR 3 ?_
  refine aE ?_
  refine awp_ret ?_
  exact oF hF [] []

/-! ### (*beaconfleet/command.Office).turn -/
def command_Office_turn_R (qo : Int) (qo1 : Int) (qn : api_Note) (qme0 : List (Nat × List D × List D)) (qcl0 : Nat) (r : Int) : TV × Mem := (.v (.one (.d (.int .i64 r))), ⟨[], [(0, [.d (.int .i64 qo), .d (.int .i64 qo), .d (.int .i64 qo), .d (.int .i64 qo1), .mapp 1, .d (.int .i64 qo1)]), (1, [.mapg .str true qme0 qcl0])]⟩)

theorem command_Office_turn_ok {qo : Int} {qo1 : Int} {qn : api_Note} {qme0 : List (Nat × List D × List D)} {qcl0 : Nat} {r} (hF : command_Office_turn qo qo1 qn = some r) : Holds prog 83 [.v (.one (.box 0 0)), .v (.agg [.d (.str qn.Letter.Id), .d (.str qn.Letter.Slot), .d (.str qn.Letter.Body), .d (.int .i64 qn.Letter.Prio), .d (.int .i64 qn.Letter.At), .d (.int .i64 qn.Letter.Until), .d (.int .i64 qn.State), .d (.int .i64 qn.Tries), .d (.int .i64 qn.Since)])] ⟨[], [(0, [.d (.int .i64 qo), .d (.int .i64 qo), .d (.int .i64 qo), .d (.int .i64 qo1), .mapp 1, .d (.int .i64 qo1)]), (1, [.mapg .str true qme0 qcl0])]⟩ (Is (command_Office_turn_R qo qo1 qn qme0 qcl0 r)) := by
  unfold command_Office_turn at hF
  refine holds_of_awp hΓ (fn := f83) (c := cB f83) (A := 2) (nx := 2) (by kernel_rfl) (by kernel_rfl) (by kernel_rfl) (by kernel_rfl) (by kernel_rfl) (by kernel_rfl) (lowc_of (by kernel_rfl)) ?_
  show Awp prog 2 23 (cB f83) _ _
  refine awp_seq ?_
  refine awp_region ?_
  refine aR 2 ?_
  refine aE ?_
  refine awp_seq ?_
  refine awp_seq ?_
  refine awp_region ?_
  refine aR 3 ?_
  refine aE ?_
  refine cE hF (fun h1 hF => ?_) fun h1 hF => ?_
  · refine awp_true (by kernel_rfl) h1 ?_
    refine awp_seq ?_
    refine aD ?_
    refine dR 13 ?_
    refine dE ?_
    refine awp_ret ?_
    exact oF hF [] []
  · refine awp_false (by kernel_rfl) h1 ?_
    refine awp_skip ?_
    refine awp_seq ?_
    refine awp_region ?_
    refine aR 4 ?_
    refine aE ?_
    refine awp_ret ?_
    exact oF hF [] []

/-! ### (*beaconfleet/command.Office).grown -/
def command_Office_grown_x1_k : api_Note → AEx
  | _ => .exit 0

def command_Office_grown_x1_S (qo : Int) (qo1 : Int) (qat : Int) (qme0 : List (Nat × List D × List D)) (qcl0 : Nat) : api_Note → St
  | vn1 => Mem.st ⟨[], [(0, [.d (.int .i64 qo), .d (.int .i64 qo), .d (.int .i64 qo), .d (.int .i64 qo1), .mapp 1, .d (.int .i64 qo1)]), (1, [.mapg .str true qme0 qcl0]), (2, [.d (.str vn1.Letter.Id), .d (.str vn1.Letter.Slot), .d (.str vn1.Letter.Body), .d (.int .i64 vn1.Letter.Prio), .d (.int .i64 vn1.Letter.At), .d (.int .i64 vn1.Letter.Until), .d (.int .i64 vn1.State), .d (.int .i64 vn1.Tries), .d (.int .i64 vn1.Since)]), (3, [.d (.str ([] : List UInt8)), .d (.str ([] : List UInt8)), .d (.str ([] : List UInt8)), .d (.int .i64 0), .d (.int .i64 0), .d (.int .i64 0), .d (.int .i64 0), .d (.int .i64 0), .d (.int .i64 0)])]⟩ (tl [(4, .v (.one (.box 2 0))), (6, .v (.one (.box 3 0)))]) 4

def command_Office_grown_x1_H (qo : Int) (qo1 : Int) (qat : Int) (qme0 : List (Nat × List D × List D)) (qcl0 : Nat) : api_Note → St
  | vn => Mem.st ⟨[], [(0, [.d (.int .i64 qo), .d (.int .i64 qo), .d (.int .i64 qo), .d (.int .i64 qo1), .mapp 1, .d (.int .i64 qo1)]), (1, [.mapg .str true qme0 qcl0]), (2, [.d (.str vn.Letter.Id), .d (.str vn.Letter.Slot), .d (.str vn.Letter.Body), .d (.int .i64 vn.Letter.Prio), .d (.int .i64 vn.Letter.At), .d (.int .i64 vn.Letter.Until), .d (.int .i64 vn.State), .d (.int .i64 vn.Tries), .d (.int .i64 vn.Since)]), (3, [.d (.str ([] : List UInt8)), .d (.str ([] : List UInt8)), .d (.str ([] : List UInt8)), .d (.int .i64 0), .d (.int .i64 0), .d (.int .i64 0), .d (.int .i64 0), .d (.int .i64 0), .d (.int .i64 0)])]⟩ (tl [(0, .v (.one (.box 0 0))), (2, .v (.one (.d (.int .i64 qat)))), (4, .v (.one (.box 2 0))), (6, .v (.one (.box 3 0)))]) 4

theorem command_Office_grown_x1_ok (qo : Int) (qo1 : Int) (qat : Int) (qme0 : List (Nat × List D × List D)) (qcl0 : Nat) (vn : api_Note) (r : (api_Note) ⊕ (api_Note)) (hF : command_Office_grown_x1 qo qo1 qat vn = some r) : Awp prog 2 39 (cL (cL (cL (cR (cB f72))))) (Out 2 (kk command_Office_grown_x1_k) (SS (command_Office_grown_x1_H qo qo1 qat qme0 qcl0) (command_Office_grown_x1_S qo qo1 qat qme0 qcl0)) r) (command_Office_grown_x1_H qo qo1 qat qme0 qcl0 vn) := by
  unfold command_Office_grown_x1 at hF
  refine awp_seq ?_
  refine awp_seq ?_
  refine bE hF fun _ h1 hF => ?_
  refine awp_region ?_
  refine aR 2 ?_
  refine aC (command_ended_ok h1) [] [] [] ?_
  refine aR 1 ?_
  refine aE ?_
  refine cE hF (fun h2 hF => ?_) fun h2 hF => ?_
  · refine awp_true (by kernel_rfl) h2 ?_
    refine awp_skip ?_
    refine awp_block ?_
    refine awp_seq ?_
    refine bE hF fun vr1 h3 hF => ?_
    refine awp_region ?_
    refine aR 2 ?_
    refine aC (command_Office_turn_ok (qme0 := qme0) (qcl0 := qcl0) h3) [] [] [] ?_
    refine aR 1 ?_
    refine aE ?_
    refine awp_seq ?_
    refine awp_seq ?_
    refine awp_region ?_
    refine aR 3 ?_
    refine aE ?_
    refine cE hF (fun h4 hF => ?_) fun h4 hF => ?_
    · refine awp_true (by kernel_rfl) h4 ?_
      refine awp_exit ?_
      exact oO hF [] [] rfl
    · refine awp_false (by kernel_rfl) h4 ?_
      refine awp_skip ?_
      refine awp_seq ?_
      refine awp_region ?_
      refine aR 3 ?_
      refine aE ?_
      refine awp_block ?_
      refine awp_seq ?_
      refine awp_region ?_
      refine aR 6 ?_
      refine aE ?_
      refine cE hF (fun h5 hF => ?_) fun h5 hF => ?_
      · refine awp_true (by kernel_rfl) h5 ?_
        refine awp_region ?_
        refine aR 2 ?_
        refine aE ?_
        exact oO hF [] [] rfl
      · refine awp_false (by kernel_rfl) h5 ?_
        refine awp_seq ?_
        refine aD ?_
        refine dR 9 ?_
        refine dE ?_
        refine cE hF (fun h6 hF => ?_) fun h6 hF => ?_
        · refine awp_true (by kernel_rfl) h6 ?_
          refine awp_region ?_
          refine aR 2 ?_
          refine aE ?_
          exact oO hF [] [] rfl
        · refine awp_false (by kernel_rfl) h6 ?_
          refine awp_region ?_
          refine aR 2 ?_
          refine aE ?_
          exact oO hF [] [] rfl
  · refine awp_false (by kernel_rfl) h2 ?_
    refine awp_exit ?_
    exact oO hF [] [] rfl

def command_Office_grown_R (qo : Int) (qo1 : Int) (qn : api_Note) (qat : Int) (qme0 : List (Nat × List D × List D)) (qcl0 : Nat) (r : api_Note) : TV × Mem := (.v (.agg [.d (.str r.Letter.Id), .d (.str r.Letter.Slot), .d (.str r.Letter.Body), .d (.int .i64 r.Letter.Prio), .d (.int .i64 r.Letter.At), .d (.int .i64 r.Letter.Until), .d (.int .i64 r.State), .d (.int .i64 r.Tries), .d (.int .i64 r.Since)]), ⟨[], [(0, [.d (.int .i64 qo), .d (.int .i64 qo), .d (.int .i64 qo), .d (.int .i64 qo1), .mapp 1, .d (.int .i64 qo1)]), (1, [.mapg .str true qme0 qcl0])]⟩)

theorem command_Office_grown_ok {qo : Int} {qo1 : Int} {qn : api_Note} {qat : Int} {qme0 : List (Nat × List D × List D)} {qcl0 : Nat} {r} (hF : command_Office_grown qo qo1 qn qat = some r) : Holds prog 72 [.v (.one (.box 0 0)), .v (.agg [.d (.str qn.Letter.Id), .d (.str qn.Letter.Slot), .d (.str qn.Letter.Body), .d (.int .i64 qn.Letter.Prio), .d (.int .i64 qn.Letter.At), .d (.int .i64 qn.Letter.Until), .d (.int .i64 qn.State), .d (.int .i64 qn.Tries), .d (.int .i64 qn.Since)]), .v (.one (.d (.int .i64 qat)))] ⟨[], [(0, [.d (.int .i64 qo), .d (.int .i64 qo), .d (.int .i64 qo), .d (.int .i64 qo1), .mapp 1, .d (.int .i64 qo1)]), (1, [.mapg .str true qme0 qcl0])]⟩ (Is (command_Office_grown_R qo qo1 qn qat qme0 qcl0 r)) := by
  unfold command_Office_grown at hF
  refine holds_of_awp hΓ (fn := f72) (c := cB f72) (A := 2) (nx := 2) (by kernel_rfl) (by kernel_rfl) (by kernel_rfl) (by kernel_rfl) (by kernel_rfl) (by kernel_rfl) (lowc_of (by kernel_rfl)) ?_
  show Awp prog 2 39 (cB f72) _ _
  refine awp_seq ?_
  refine awp_region ?_
  refine aR 2 ?_
  refine aE ?_
  refine awp_seq ?_
  refine awp_block ?_
  refine awp_to (st' := command_Office_grown_x1_H qo qo1 qat qme0 qcl0 (api_Note.mk (api_Letter.mk qn.Letter.Id qn.Letter.Slot qn.Letter.Body qn.Letter.Prio qn.Letter.At qn.Letter.Until) qn.State qn.Tries qn.Since)) (oT [(3, 1002)] []) ?_
  refine bE hF fun vn1_1 h7 hF => ?_
  refine awp_sub (awp_loop' (command_Office_grown_x1_H qo qo1 qat qme0 qcl0) command_Office_grown_x1_k (command_Office_grown_x1_S qo qo1 qat qme0 qcl0) (by intro x; exact fun h => nomatch h) h7 (command_Office_grown_x1_ok qo qo1 qat qme0 qcl0)) ?_
  refine awp_seq ?_
  refine awp_region ?_
  refine aR 2 ?_
  refine aE ?_
  refine awp_ret ?_
  exact oF hF [] []

/-! ### (*beaconfleet/command.Office).aged$1 -/
def command_Office_aged_1_R (qa : api_Note) (qb : api_Note) (r : Int) : TV × Mem := (.v (.one (.d (.int .i64 r))), ⟨[], []⟩)

theorem command_Office_aged_1_ok {qa : api_Note} {qb : api_Note} {r} (hF : command_Office_aged_1 qa qb = some r) : Holds prog 74 [.v (.agg [.d (.str qa.Letter.Id), .d (.str qa.Letter.Slot), .d (.str qa.Letter.Body), .d (.int .i64 qa.Letter.Prio), .d (.int .i64 qa.Letter.At), .d (.int .i64 qa.Letter.Until), .d (.int .i64 qa.State), .d (.int .i64 qa.Tries), .d (.int .i64 qa.Since)]), .v (.agg [.d (.str qb.Letter.Id), .d (.str qb.Letter.Slot), .d (.str qb.Letter.Body), .d (.int .i64 qb.Letter.Prio), .d (.int .i64 qb.Letter.At), .d (.int .i64 qb.Letter.Until), .d (.int .i64 qb.State), .d (.int .i64 qb.Tries), .d (.int .i64 qb.Since)])] ⟨[], []⟩ (Is (command_Office_aged_1_R qa qb r)) := by
  unfold command_Office_aged_1 at hF
  refine holds_of_awp hΓ (fn := f74) (c := cB f74) (A := 0) (nx := 0) (by kernel_rfl) (by kernel_rfl) (by kernel_rfl) (by kernel_rfl) (by kernel_rfl) (by kernel_rfl) (lowc_of (by kernel_rfl)) ?_
  show Awp prog 0 19 (cB f74) _ _
  refine awp_seq ?_
  refine awp_region ?_
  refine aR 3 ?_
  refine aE ?_
  refine awp_seq ?_
  refine bE hF fun vr h1 hF => ?_
  refine bE hF fun _ h2 hF => ?_
  refine bE hF fun vr1 h3 hF => ?_
  refine aD ?_
  refine dR 4 ?_
  refine dC (cmp_Compare_int_ok h1) [] [] [] ?_
  refine dR 6 ?_
  refine dC (strings_Compare_ok h2) [] [] [] ?_
  refine dR 1 ?_
  refine dC (cmp_Or_int_ok h3) [] [] [15000] ?_
  refine dR 1 ?_
  refine dE ?_
  refine awp_ret ?_
  exact oF hF [] []

/-! ### slices.insertionSortCmpFunc[beaconfleet/api.Note] -/
def slices_insertionSortCmpFunc_api_Note_o0_f3_command_Office_aged_1_x3_k : Bool → AEx
  | _ => .normal

def slices_insertionSortCmpFunc_api_Note_o0_f3_command_Office_aged_1_x3_S (qa : Int) (qb : Int) (vi : Int) (vl3 : List api_Note) (vj1 : Int) : Bool → St
  | vx4 => Mem.st ⟨[(0, ⟨33, 9, List.map api_Note.enc vl3⟩)], []⟩ (tl [(0, .v (.one (.own 0 none))), (1, .v (.one (.d (.int .i64 qa)))), (2, .v (.one (.d (.int .i64 qb)))), (3, .v (.one (.fn 74 []))), (8, .v (.one (.d (.int .i64 vi)))), (9, .v (.one (.d (.int .i64 vj1)))), (34, .v (.one (.d (.bool vx4))))]) 1

def slices_insertionSortCmpFunc_api_Note_o0_f3_command_Office_aged_1_x3_I (qa : Int) (qb : Int) (vi : Int) (vl3 : List api_Note) (vj1 : Int) : St := Mem.st ⟨[(0, ⟨33, 9, List.map api_Note.enc vl3⟩)], []⟩ (tl [(0, .v (.one (.own 0 none))), (1, .v (.one (.d (.int .i64 qa)))), (2, .v (.one (.d (.int .i64 qb)))), (3, .v (.one (.fn 74 []))), (8, .v (.one (.d (.int .i64 vi)))), (9, .v (.one (.d (.int .i64 vj1))))]) 1

theorem slices_insertionSortCmpFunc_api_Note_o0_f3_command_Office_aged_1_x3_ok (qa : Int) (qb : Int) (vi : Int) (vl3 : List api_Note) (vj1 : Int) {r} (hF : slices_insertionSortCmpFunc_api_Note_o0_f3_command_Office_aged_1_x3 qa vl3 vj1 = some r) : Awp prog 1 53 (cL (cL (cL (cL (cR (cL (cL (cR (cL (cL (cR (cB f62)))))))))))) (Out 1 slices_insertionSortCmpFunc_api_Note_o0_f3_command_Office_aged_1_x3_k (slices_insertionSortCmpFunc_api_Note_o0_f3_command_Office_aged_1_x3_S qa qb vi vl3 vj1) r) (slices_insertionSortCmpFunc_api_Note_o0_f3_command_Office_aged_1_x3_I qa qb vi vl3 vj1) := by
  unfold slices_insertionSortCmpFunc_api_Note_o0_f3_command_Office_aged_1_x3 at hF
  refine cE hF (fun h2 hF => ?_) fun h2 hF => ?_
  · refine bE hF fun vy15 h3 hF => ?_
    refine bE hF fun vy16 h4 hF => ?_
    refine bE hF fun vr2_3 h5 hF => ?_
    refine aD ?_
    refine dR 2 ?_
    refine dB h2 ?_
    refine dR 4 ?_
    refine dX (x_idxO api_Note.enc 0 h3) ?_
    refine dX (x_ldE api_Note.enc h3) ?_
    refine dR 3 ?_
    refine dX (x_idxO api_Note.enc 0 h4) ?_
    refine dX (x_ldE api_Note.enc h4) ?_
    refine dC (command_Office_aged_1_ok h5) [] [] [] ?_
    refine dR 2 ?_
    refine dE ?_
    exact oO hF [] [] rfl
  · refine aD ?_
    refine dR 2 ?_
    refine dB h2 ?_
    refine dR 14 ?_
    refine dE ?_
    exact oO hF [] [] rfl

def slices_insertionSortCmpFunc_api_Note_o0_f3_command_Office_aged_1_x2_k : (List api_Note) → AEx
  | _ => .exit 2

def slices_insertionSortCmpFunc_api_Note_o0_f3_command_Office_aged_1_x2_S (qa : Int) (qb : Int) (vi : Int) : (List api_Note) → St
  | vl4 => Mem.st ⟨[(0, ⟨33, 9, List.map api_Note.enc vl4⟩)], []⟩ (tl [(0, .v (.one (.own 0 none))), (1, .v (.one (.d (.int .i64 qa)))), (2, .v (.one (.d (.int .i64 qb)))), (3, .v (.one (.fn 74 []))), (8, .v (.one (.d (.int .i64 vi))))]) 1

def slices_insertionSortCmpFunc_api_Note_o0_f3_command_Office_aged_1_x2_H (qa : Int) (qb : Int) (vi : Int) : (List api_Note) × Int → St
  | (vl3, vj1) => Mem.st ⟨[(0, ⟨33, 9, List.map api_Note.enc vl3⟩)], []⟩ (tl [(0, .v (.one (.own 0 none))), (1, .v (.one (.d (.int .i64 qa)))), (2, .v (.one (.d (.int .i64 qb)))), (3, .v (.one (.fn 74 []))), (8, .v (.one (.d (.int .i64 vi)))), (9, .v (.one (.d (.int .i64 vj1))))]) 1

theorem slices_insertionSortCmpFunc_api_Note_o0_f3_command_Office_aged_1_x2_ok (qa : Int) (qb : Int) (vi : Int) (s : (List api_Note) × Int) (r : ((List api_Note) × Int) ⊕ ((List api_Note))) (hF : slices_insertionSortCmpFunc_api_Note_o0_f3_command_Office_aged_1_x2 qa s = some r) : Awp prog 1 53 (cL (cL (cR (cL (cL (cR (cL (cL (cR (cB f62)))))))))) (Out 1 (kk slices_insertionSortCmpFunc_api_Note_o0_f3_command_Office_aged_1_x2_k) (SS (slices_insertionSortCmpFunc_api_Note_o0_f3_command_Office_aged_1_x2_H qa qb vi) (slices_insertionSortCmpFunc_api_Note_o0_f3_command_Office_aged_1_x2_S qa qb vi)) r) (slices_insertionSortCmpFunc_api_Note_o0_f3_command_Office_aged_1_x2_H qa qb vi s) := by
  obtain ⟨vl3, vj1⟩ := s
  unfold slices_insertionSortCmpFunc_api_Note_o0_f3_command_Office_aged_1_x2 at hF
  refine awp_seq ?_
  refine awp_seq ?_
  refine awp_to (st' := slices_insertionSortCmpFunc_api_Note_o0_f3_command_Office_aged_1_x3_I qa qb vi vl3 vj1) (oT [] []) ?_
  refine bE hF fun vx4_1 h6 hF => ?_
  refine awp_sub (slices_insertionSortCmpFunc_api_Note_o0_f3_command_Office_aged_1_x3_ok qa qb vi vl3 vj1 h6) ?_
  refine cE hF (fun h7 hF => ?_) fun h7 hF => ?_
  · refine awp_true (by kernel_rfl) h7 ?_
    refine awp_skip ?_
    refine awp_seq ?_
    refine awp_block ?_
    refine bE hF fun vy17 h8 hF => ?_
    refine bE hF fun vy18 h9 hF => ?_
    refine bE hF fun vy19 h10 hF => ?_
    refine aDw [0] ?_
    refine dR 8 ?_
    refine dI api_Note.enc 0 h8 rfl ?_
    refine dX (x_ldE api_Note.enc h8) ?_
    refine dR 2 ?_
    refine dI api_Note.enc 0 h9 rfl ?_
    refine dX (x_ldE api_Note.enc h9) ?_
    refine dI api_Note.enc 0 h9 rfl ?_
    refine dW api_Note.enc (api_Note.mk (api_Letter.mk vy17.Letter.Id vy17.Letter.Slot vy17.Letter.Body vy17.Letter.Prio vy17.Letter.At vy17.Letter.Until) vy17.State vy17.Tries vy17.Since) h9 rfl ?_
    refine dI api_Note.enc 0 h10 rfl ?_
    refine dW api_Note.enc (api_Note.mk (api_Letter.mk vy18.Letter.Id vy18.Letter.Slot vy18.Letter.Body vy18.Letter.Prio vy18.Letter.At vy18.Letter.Until) vy18.State vy18.Tries vy18.Since) h10 rfl ?_
    refine dE ?_
    refine awp_region ?_
    refine aR 3 ?_
    refine aE ?_
    exact oO hF [] [] rfl
  · refine awp_false (by kernel_rfl) h7 ?_
    refine awp_exit ?_
    exact oO hF [] [] rfl

def slices_insertionSortCmpFunc_api_Note_o0_f3_command_Office_aged_1_x1_k : (List api_Note) → AEx
  | _ => .exit 0

def slices_insertionSortCmpFunc_api_Note_o0_f3_command_Office_aged_1_x1_S (qa : Int) (qb : Int) : (List api_Note) → St
  | vl5 => Mem.st ⟨[(0, ⟨33, 9, List.map api_Note.enc vl5⟩)], []⟩ (tl []) 1

def slices_insertionSortCmpFunc_api_Note_o0_f3_command_Office_aged_1_x1_H (qa : Int) (qb : Int) : (List api_Note) × Int → St
  | (vl, vi) => Mem.st ⟨[(0, ⟨33, 9, List.map api_Note.enc vl⟩)], []⟩ (tl [(0, .v (.one (.own 0 none))), (1, .v (.one (.d (.int .i64 qa)))), (2, .v (.one (.d (.int .i64 qb)))), (3, .v (.one (.fn 74 []))), (8, .v (.one (.d (.int .i64 vi))))]) 1

theorem slices_insertionSortCmpFunc_api_Note_o0_f3_command_Office_aged_1_x1_ok (qa : Int) (qb : Int) (s : (List api_Note) × Int) (r : ((List api_Note) × Int) ⊕ ((List api_Note))) (hF : slices_insertionSortCmpFunc_api_Note_o0_f3_command_Office_aged_1_x1 qa qb s = some r) : Awp prog 1 53 (cL (cL (cR (cB f62)))) (Out 1 (kk slices_insertionSortCmpFunc_api_Note_o0_f3_command_Office_aged_1_x1_k) (SS (slices_insertionSortCmpFunc_api_Note_o0_f3_command_Office_aged_1_x1_H qa qb) (slices_insertionSortCmpFunc_api_Note_o0_f3_command_Office_aged_1_x1_S qa qb)) r) (slices_insertionSortCmpFunc_api_Note_o0_f3_command_Office_aged_1_x1_H qa qb s) := by
  obtain ⟨vl, vi⟩ := s
  unfold slices_insertionSortCmpFunc_api_Note_o0_f3_command_Office_aged_1_x1 at hF
  refine awp_seq ?_
  refine awp_seq ?_
  refine awp_region ?_
  refine aR 3 ?_
  refine aE ?_
  refine cE hF (fun h1 hF => ?_) fun h1 hF => ?_
  · refine awp_true (by kernel_rfl) h1 ?_
    refine awp_skip ?_
    refine awp_seq ?_
    refine awp_block ?_
    refine awp_seq ?_
    refine awp_region ?_
    refine aR 2 ?_
    refine aE ?_
    refine awp_block ?_
    refine awp_to (st' := slices_insertionSortCmpFunc_api_Note_o0_f3_command_Office_aged_1_x2_H qa qb vi (vl, vi)) (oT [] []) ?_
    refine bE hF fun vl4_1 h11 hF => ?_
    refine awp_sub (awp_loop' (slices_insertionSortCmpFunc_api_Note_o0_f3_command_Office_aged_1_x2_H qa qb vi) slices_insertionSortCmpFunc_api_Note_o0_f3_command_Office_aged_1_x2_k (slices_insertionSortCmpFunc_api_Note_o0_f3_command_Office_aged_1_x2_S qa qb vi) (by intro x; exact fun h => nomatch h) h11 (slices_insertionSortCmpFunc_api_Note_o0_f3_command_Office_aged_1_x2_ok qa qb vi)) ?_
    refine awp_region ?_
    refine aR 3 ?_
    refine aE ?_
    exact oO hF [] [] rfl
  · refine awp_false (by kernel_rfl) h1 ?_
    refine awp_exit ?_
    exact oO hF [] [] rfl

def slices_insertionSortCmpFunc_api_Note_o0_f3_command_Office_aged_1_R (qdata : List api_Note) (qa : Int) (qb : Int) (r : (List api_Note)) : TV × Mem := (.tup [], ⟨[(0, ⟨33, 9, List.map api_Note.enc r⟩)], []⟩)

theorem slices_insertionSortCmpFunc_api_Note_o0_f3_command_Office_aged_1_ok {qdata : List api_Note} {qa : Int} {qb : Int} {r} (hF : slices_insertionSortCmpFunc_api_Note_o0_f3_command_Office_aged_1 qdata qa qb = some r) : Holds prog 62 [.v (.one (.own 0 none)), .v (.one (.d (.int .i64 qa))), .v (.one (.d (.int .i64 qb))), .v (.one (.fn 74 []))] ⟨[(0, ⟨33, 9, List.map api_Note.enc qdata⟩)], []⟩ (Is (slices_insertionSortCmpFunc_api_Note_o0_f3_command_Office_aged_1_R qdata qa qb r)) := by
  unfold slices_insertionSortCmpFunc_api_Note_o0_f3_command_Office_aged_1 at hF
  refine holds_of_awp hΓ (fn := f62) (c := cB f62) (A := 1) (nx := 1) (by kernel_rfl) (by kernel_rfl) (by kernel_rfl) (by kernel_rfl) (by kernel_rfl) (by kernel_rfl) (lowc_of (by kernel_rfl)) ?_
  show Awp prog 1 53 (cB f62) _ _
  refine awp_seq ?_
  refine awp_region ?_
  refine aR 3 ?_
  refine aE ?_
  refine awp_block ?_
  refine awp_to (st' := slices_insertionSortCmpFunc_api_Note_o0_f3_command_Office_aged_1_x1_H qa qb (qdata, IntKind.wrap .i64 (qa + 1))) (oT [] []) ?_
  refine bE hF fun vl5_1 h12 hF => ?_
  refine awp_sub (awp_loop' (slices_insertionSortCmpFunc_api_Note_o0_f3_command_Office_aged_1_x1_H qa qb) slices_insertionSortCmpFunc_api_Note_o0_f3_command_Office_aged_1_x1_k (slices_insertionSortCmpFunc_api_Note_o0_f3_command_Office_aged_1_x1_S qa qb) (by intro x; exact fun h => nomatch h) h12 (slices_insertionSortCmpFunc_api_Note_o0_f3_command_Office_aged_1_x1_ok qa qb)) ?_
  exact oF hF [] []

/-! ### slices.pdqsortCmpFunc[beaconfleet/api.Note] -/
def slices_pdqsortCmpFunc_api_Note_o0_f4_command_Office_aged_1_x1_k : (List api_Note) → AEx
  | _ => .ret

def slices_pdqsortCmpFunc_api_Note_o0_f4_command_Office_aged_1_x1_S (qx : List api_Note) (qx1 : Int) (qx2 : Int) (qx3 : Int) : (List api_Note) → St
  | vl => Mem.st ⟨[(0, ⟨33, 9, List.map api_Note.enc vl⟩)], []⟩ (tl []) 1

def slices_pdqsortCmpFunc_api_Note_o0_f4_command_Office_aged_1_x1_H (qx : List api_Note) (qx1 : Int) (qx2 : Int) (qx3 : Int) : Unit → St
  | _ => Mem.st ⟨[(0, ⟨33, 9, List.map api_Note.enc qx⟩)], []⟩ (tl [(0, .v (.one (.own 0 none))), (1, .v (.one (.d (.int .i64 qx1)))), (2, .v (.one (.d (.int .i64 qx2)))), (3, .v (.one (.d (.int .i64 qx3)))), (4, .v (.one (.fn 74 []))), (10, .v (.one (.d (.bool true)))), (11, .v (.one (.d (.bool true))))]) 1

theorem slices_pdqsortCmpFunc_api_Note_o0_f4_command_Office_aged_1_x1_ok (qx : List api_Note) (qx1 : Int) (qx2 : Int) (qx3 : Int) (s : Unit) (r : (Unit) ⊕ ((List api_Note))) (hF : slices_pdqsortCmpFunc_api_Note_o0_f4_command_Office_aged_1_x1 qx qx1 qx2 qx3 s = some r) : Awp prog 1 148 (cL (cL (cR (cR (cB f48))))) (Out 1 (kk slices_pdqsortCmpFunc_api_Note_o0_f4_command_Office_aged_1_x1_k) (SS (slices_pdqsortCmpFunc_api_Note_o0_f4_command_Office_aged_1_x1_H qx qx1 qx2 qx3) (slices_pdqsortCmpFunc_api_Note_o0_f4_command_Office_aged_1_x1_S qx qx1 qx2 qx3)) r) (slices_pdqsortCmpFunc_api_Note_o0_f4_command_Office_aged_1_x1_H qx qx1 qx2 qx3 s) := by
  unfold slices_pdqsortCmpFunc_api_Note_o0_f4_command_Office_aged_1_x1 at hF
  refine awp_block ?_
  refine awp_seq ?_
  refine awp_region ?_
  refine aR 4 ?_
  refine aE ?_
  refine awp_seq ?_
  refine awp_seq ?_
  refine awp_region ?_
  refine aR 2 ?_
  refine aE ?_
  refine cE hF (fun h1 hF => ?_) fun h1 hF => ?_
  · refine awp_true (by kernel_rfl) h1 ?_
    refine awp_seq ?_
    refine bE hF fun vl6_1 h2 hF => ?_
    refine gE hF fun h3 hF => ?_
    refine awp_region ?_
    refine aR 4 ?_
    refine aCp (slices_insertionSortCmpFunc_api_Note_o0_f3_command_Office_aged_1_ok h2) ⟨⟨rfl, rfl, pin1 h3⟩, trivial⟩ [] [] [] ?_
    refine aE ?_
    refine awp_ret ?_
    exact oO hF [] [] rfl
  · refine awp_false (by kernel_rfl) h1 ?_
    refine awp_skip ?_
    refine awp_seq ?_
    refine awp_seq ?_
    refine awp_region ?_
    refine aR 2 ?_
    refine aE ?_
    refine cE hF (fun h4 hF => ?_) fun h4 hF => ?_
    · refine awp_true (by kernel_rfl) h4 ?_
      refine awp_seq ?_
      exact nE hF
    · refine awp_false (by kernel_rfl) h4 ?_
      refine awp_skip ?_
      refine awp_seq ?_
      refine awp_seq ?_
      refine awp_region ?_
      refine aR 2 ?_
      refine aE ?_
      refine awp_false (by kernel_rfl) rfl ?_
      refine awp_skip ?_
      refine awp_seq ?_
      exact nE hF

def slices_pdqsortCmpFunc_api_Note_o0_f4_command_Office_aged_1_R (qx : List api_Note) (qx1 : Int) (qx2 : Int) (qx3 : Int) (r : (List api_Note)) : TV × Mem := (.tup [], ⟨[(0, ⟨33, 9, List.map api_Note.enc r⟩)], []⟩)

theorem slices_pdqsortCmpFunc_api_Note_o0_f4_command_Office_aged_1_ok {qx : List api_Note} {qx1 : Int} {qx2 : Int} {qx3 : Int} {r} (hF : slices_pdqsortCmpFunc_api_Note_o0_f4_command_Office_aged_1 qx qx1 qx2 qx3 = some r) : Holds prog 48 [.v (.one (.own 0 none)), .v (.one (.d (.int .i64 qx1))), .v (.one (.d (.int .i64 qx2))), .v (.one (.d (.int .i64 qx3))), .v (.one (.fn 74 []))] ⟨[(0, ⟨33, 9, List.map api_Note.enc qx⟩)], []⟩ (Is (slices_pdqsortCmpFunc_api_Note_o0_f4_command_Office_aged_1_R qx qx1 qx2 qx3 r)) := by
  unfold slices_pdqsortCmpFunc_api_Note_o0_f4_command_Office_aged_1 at hF
  refine holds_of_awp hΓ (fn := f48) (c := cB f48) (A := 1) (nx := 1) (by kernel_rfl) (by kernel_rfl) (by kernel_rfl) (by kernel_rfl) (by kernel_rfl) (by kernel_rfl) (lowc_of (by kernel_rfl)) ?_
  show Awp prog 1 148 (cB f48) _ _
  refine awp_seq ?_
  refine awp_region ?_
  refine aR 1 ?_
  refine aE ?_
  refine awp_seq ?_
  refine awp_region ?_
  refine aR 1 ?_
  refine aE ?_
  refine awp_block ?_
  refine awp_to (st' := slices_pdqsortCmpFunc_api_Note_o0_f4_command_Office_aged_1_x1_H qx qx1 qx2 qx3 ()) (oT [] []) ?_
  refine bE hF fun vl1 h7 hF => ?_
  refine awp_sub (awp_loop' (slices_pdqsortCmpFunc_api_Note_o0_f4_command_Office_aged_1_x1_H qx qx1 qx2 qx3) slices_pdqsortCmpFunc_api_Note_o0_f4_command_Office_aged_1_x1_k (slices_pdqsortCmpFunc_api_Note_o0_f4_command_Office_aged_1_x1_S qx qx1 qx2 qx3) (by intro x; exact fun h => nomatch h) h7 (slices_pdqsortCmpFunc_api_Note_o0_f4_command_Office_aged_1_x1_ok qx qx1 qx2 qx3)) ?_
  exact oF hF [] []

/-! ### slices.SortFunc[[]beaconfleet/api.Note,beaconfleet/api.Note] -/
def slices_SortFunc_api_Note_api_Note_o0_f1_command_Office_aged_1_R (qx : List api_Note) (r : (List api_Note)) : TV × Mem := (.tup [], ⟨[(0, ⟨33, 9, List.map api_Note.enc r⟩)], []⟩)

theorem slices_SortFunc_api_Note_api_Note_o0_f1_command_Office_aged_1_ok {qx : List api_Note} {r} (hF : slices_SortFunc_api_Note_api_Note_o0_f1_command_Office_aged_1 qx = some r) : Holds prog 33 [.v (.one (.own 0 none)), .v (.one (.fn 74 []))] ⟨[(0, ⟨33, 9, List.map api_Note.enc qx⟩)], []⟩ (Is (slices_SortFunc_api_Note_api_Note_o0_f1_command_Office_aged_1_R qx r)) := by
  unfold slices_SortFunc_api_Note_api_Note_o0_f1_command_Office_aged_1 at hF
  refine holds_of_awp hΓ (fn := f33) (c := cB f33) (A := 1) (nx := 1) (by kernel_rfl) (by kernel_rfl) (by kernel_rfl) (by kernel_rfl) (by kernel_rfl) (by kernel_rfl) (lowc_of (by kernel_rfl)) ?_
  show Awp prog 1 14 (cB f33) _ _
  refine awp_seq ?_
  refine awp_region ?_
  refine aR 1 ?_
  refine aL api_Note.enc qx ?_
  refine aR 1 ?_
  refine aE ?_
  refine bE hF fun vr1 h1 hF => ?_
  refine bE hF fun vl2 h2 hF => ?_
  refine gE hF fun h3 hF => ?_
  refine awp_region ?_
  refine aR 4 ?_
  refine aC (bits_Len_ok h1) [] [] [] ?_
  refine aR 1 ?_
  refine aCp (slices_pdqsortCmpFunc_api_Note_o0_f4_command_Office_aged_1_ok h2) ⟨⟨rfl, rfl, pin1 h3⟩, trivial⟩ [] [] [] ?_
  refine aE ?_
  exact oF hF [] []

/-! ### (*beaconfleet/command.Office).aged -/
def command_Office_aged_x1_k : ((List (List UInt8 × api_Note)) × (List api_Note)) → AEx
  | _ => .exit 0

def command_Office_aged_x1_S (qo : Int) (qo1 : Int) (qm : List (List UInt8 × api_Note)) (qat : Int) (vme : List (Nat × List D × List D)) (vcl : Nat) (vhp : (List.map (encM D.str api_Note.enc) qm).Perm (List.map (·.2) vme)) : ((List (List UInt8 × api_Note)) × (List api_Note)) → St
  | (vm1, vover1) => Mem.st ⟨[(3, ⟨33, 9, List.map api_Note.enc vover1⟩)], [(0, [.d (.int .i64 qo), .d (.int .i64 qo), .d (.int .i64 qo), .d (.int .i64 qo1), .mapp 1, .d (.int .i64 qo1)]), (1, [.mapc .str true (List.map (encM D.str api_Note.enc) qm)]), (2, [.mapc .str true (List.map (encM D.str api_Note.enc) vm1)])]⟩ (tl [(0, .v (.one (.box 0 0))), (5, .v (.one (.mapp 2))), (6, .v (.one (.own 3 none)))]) 4

def command_Office_aged_x1_H (qo : Int) (qo1 : Int) (qm : List (List UInt8 × api_Note)) (qat : Int) (vme : List (Nat × List D × List D)) (vcl : Nat) (vhp : (List.map (encM D.str api_Note.enc) qm).Perm (List.map (·.2) vme)) (vl : List (List UInt8 × api_Note)) : (List (List UInt8 × api_Note)) × (List api_Note) → St
  | (vm, vover) => Mem.st ⟨[(4, ⟨33, 9, List.map api_Note.enc vover⟩)], [(0, [.d (.int .i64 qo), .d (.int .i64 qo), .d (.int .i64 qo), .d (.int .i64 qo1), .mapp 1, .d (.int .i64 qo1)]), (1, [.mapg .str true vme vcl]), (2, [.iterc 1 vme vcl (List.map (encM D.str api_Note.enc) vl) none]), (3, [.mapc .str true (List.map (encM D.str api_Note.enc) vm)])]⟩ (tl [(0, .v (.one (.box 0 0))), (1, .v (.one (.d (.int .i64 qat)))), (5, .v (.one (.mapp 3))), (6, .v (.one (.own 4 none))), (16, .v (.one (.box 2 0)))]) 5

theorem command_Office_aged_x1_ok (qo : Int) (qo1 : Int) (qm : List (List UInt8 × api_Note)) (qat : Int) (vme : List (Nat × List D × List D)) (vcl : Nat) (vhp : (List.map (encM D.str api_Note.enc) qm).Perm (List.map (·.2) vme)) (vl : List (List UInt8 × api_Note)) (s : (List (List UInt8 × api_Note)) × (List api_Note)) (hE : vl = [] → ∃ x, command_Office_aged_x1 qo qo1 qat none s = some x) (hP : ∀ e l', List.Perm vl (e :: l') → ∃ x, command_Office_aged_x1 qo qo1 qat (some e) s = some x) : Awp prog 2 60 (cL (cL (cR (cL (cR (cR (cR (cB f52)))))))) (OutR 2 command_Office_aged_x1_k (command_Office_aged_x1 qo qo1 qat) (command_Office_aged_x1_H qo qo1 qm qat vme vcl vhp) (command_Office_aged_x1_S qo qo1 qm qat vme vcl vhp) vl s) (command_Office_aged_x1_H qo qo1 qm qat vme vcl vhp vl s) := by
  obtain ⟨vm, vover⟩ := s
  refine awp_seq ?_
  refine awp_region ?_
  refine aNext (ka := .str) (va := true) (me := vme) (cl := vcl) (cur := none) 2 1 (encM D.str api_Note.enc) vl rfl (fun h3 => ?_) (fun ve1 vl2 vb1 h4 => ?_)
  · obtain ⟨x, hF0⟩ := hE h3
    have hF := hF0
    unfold command_Office_aged_x1 at hF
    refine aR 1 ?_
    refine aE ?_
    refine awp_seq ?_
    refine awp_false (by kernel_rfl) rfl ?_
    refine awp_close (ka := .str) (va := true) (me := vme) (cl := vcl) 1 vhp ?_
    refine awp_exit ?_
    exact outE h3 hF0 (oO hF [(2, 3), (3, 4)] [] rfl)
  · obtain ⟨x, hF0⟩ := hP _ _ h4
    have hF := hF0
    unfold command_Office_aged_x1 at hF
    refine aR 1 ?_
    refine aE ?_
    refine awp_seq ?_
    refine awp_true (by kernel_rfl) rfl ?_
    refine awp_skip ?_
    refine awp_block ?_
    refine awp_seq ?_
    refine awp_region ?_
    refine aEntry (ka := .str) (va := true) (me := vme) (cl := vcl) (b := vb1) (rest := List.map (encM D.str api_Note.enc) vl2) 2 1 (encM D.str api_Note.enc) ve1 rfl ?_
    refine aR 5 ?_
    refine aE ?_
    refine awp_seq ?_
    refine bE hF fun vr2_1 h5 hF => ?_
    refine awp_region ?_
    refine aR 3 ?_
    refine aC (command_Office_grown_ok (qme0 := vme) (qcl0 := vcl) h5) [] [] [] ?_
    refine aR 1 ?_
    refine aE ?_
    refine awp_seq ?_
    refine awp_region ?_
    refine aR 3 ?_
    refine aPut 3 .str true (l := vm) (key := ve1.1) (v := (api_Note.mk (api_Letter.mk vr2_1.Letter.Id vr2_1.Letter.Slot vr2_1.Letter.Body vr2_1.Letter.Prio vr2_1.Letter.At vr2_1.Letter.Until) vr2_1.State vr2_1.Tries vr2_1.Since)) D.str api_Note.enc rfl ?_
    refine aE ?_
    refine awp_seq ?_
    refine bE hF fun _ h6 hF => ?_
    refine awp_region ?_
    refine aR 2 ?_
    refine aC (command_ended_ok h6) [] [] [] ?_
    refine aE ?_
    refine cE hF (fun h7 hF => ?_) fun h7 hF => ?_
    · refine awp_true (by kernel_rfl) h7 ?_
      refine gE hF fun h8 hF => ?_
      refine awp_region ?_
      refine aR 3 ?_
      refine aX (x_app api_Note.enc 4 h8) ?_
      refine aR 1 ?_
      refine aE ?_
      exact outP h4 hF0 (outCur (idM := 1) (me := vme) (cl := vcl) (rest := List.map (encM D.str api_Note.enc) vl2) (cur := some (vb1, (encM D.str api_Note.enc) ve1)) 2 <| oO hF [(4, 23005)] [] rfl)
    · refine awp_false (by kernel_rfl) h7 ?_
      refine awp_skip ?_
      exact outP h4 hF0 (outCur (idM := 1) (me := vme) (cl := vcl) (rest := List.map (encM D.str api_Note.enc) vl2) (cur := some (vb1, (encM D.str api_Note.enc) ve1)) 2 <| oO hF [] [] rfl)

def command_Office_aged_x2_k : (List (List UInt8 × api_Note)) → AEx
  | _ => .exit 2

def command_Office_aged_x2_S (qo : Int) (qo1 : Int) (qm : List (List UInt8 × api_Note)) (vl3 : List api_Note) : (List (List UInt8 × api_Note)) → St
  | vm3 => Mem.st ⟨[], [(0, [.d (.int .i64 qo), .d (.int .i64 qo), .d (.int .i64 qo), .d (.int .i64 qo1), .mapp 1, .d (.int .i64 qo1)]), (1, [.mapc .str true (List.map (encM D.str api_Note.enc) qm)]), (2, [.mapc .str true (List.map (encM D.str api_Note.enc) vm3)])]⟩ (tl [(5, .v (.one (.mapp 2)))]) 3

def command_Office_aged_x2_H (qo : Int) (qo1 : Int) (qm : List (List UInt8 × api_Note)) (vl3 : List api_Note) : (List (List UInt8 × api_Note)) × Int → St
  | (vm2, vx) => Mem.st ⟨[], [(0, [.d (.int .i64 qo), .d (.int .i64 qo), .d (.int .i64 qo), .d (.int .i64 qo1), .mapp 1, .d (.int .i64 qo1)]), (1, [.mapc .str true (List.map (encM D.str api_Note.enc) qm)]), (2, [.mapc .str true (List.map (encM D.str api_Note.enc) vm2)])]⟩ (tl [(5, .v (.one (.mapp 2))), (48, .v (.one (.d (.lst (List.map api_Note.enc (vl3.take (imax 0 (IntKind.wrap .i64 ((vl3.length : Int) - qo1))).toNat)))))), (49, .v (.one (.d (.int .i64 ((vl3.take (imax 0 (IntKind.wrap .i64 ((vl3.length : Int) - qo1))).toNat).length : Int))))), (50, .v (.one (.d (.int .i64 vx))))]) 3

theorem command_Office_aged_x2_ok (qo : Int) (qo1 : Int) (qm : List (List UInt8 × api_Note)) (vl3 : List api_Note) (s : (List (List UInt8 × api_Note)) × Int) (r : ((List (List UInt8 × api_Note)) × Int) ⊕ ((List (List UInt8 × api_Note)))) (hF : command_Office_aged_x2 qo1 vl3 s = some r) : Awp prog 2 60 (cL (cL (cR (cL (cR (cR (cR (cR (cR (cB f52)))))))))) (Out 2 (kk command_Office_aged_x2_k) (SS (command_Office_aged_x2_H qo qo1 qm vl3) (command_Office_aged_x2_S qo qo1 qm vl3)) r) (command_Office_aged_x2_H qo qo1 qm vl3 s) := by
  obtain ⟨vm2, vx⟩ := s
  unfold command_Office_aged_x2 at hF
  refine awp_seq ?_
  refine awp_region ?_
  refine aR 1 ?_
  refine aE ?_
  refine awp_seq ?_
  refine cE hF (fun h13 hF => ?_) fun h13 hF => ?_
  · refine awp_true (by kernel_rfl) h13 ?_
    refine awp_skip ?_
    refine awp_seq ?_
    refine awp_block ?_
    refine awp_seq ?_
    refine bE hF fun vy1 h14 hF => ?_
    refine awp_region ?_
    refine aX (x_idx api_Note.enc h14) ?_
    refine aR 3 ?_
    refine aE ?_
    refine awp_region ?_
    refine aR 4 ?_
    refine aDel 2 .str true (l := vm2) (key := vy1.Letter.Id) D.str api_Note.enc rfl ?_
    refine aE ?_
    refine awp_region ?_
    refine aR 2 ?_
    refine aE ?_
    exact oO hF [] [] rfl
  · refine awp_false (by kernel_rfl) h13 ?_
    refine awp_exit ?_
    exact oO hF [] [] rfl

def command_Office_aged_R (qo : Int) (qo1 : Int) (qm : List (List UInt8 × api_Note)) (qat : Int) (r : (List (List UInt8 × api_Note))) : TV × Mem := (.v (.one (.mapp 2)), ⟨[], [(0, [.d (.int .i64 qo), .d (.int .i64 qo), .d (.int .i64 qo), .d (.int .i64 qo1), .mapp 1, .d (.int .i64 qo1)]), (1, [.mapc .str true (List.map (encM D.str api_Note.enc) qm)]), (2, [.mapc .str true (List.map (encM D.str api_Note.enc) r)])]⟩)

theorem command_Office_aged_ok {qo : Int} {qo1 : Int} {qm : List (List UInt8 × api_Note)} {qat : Int} {r} (hF : command_Office_aged qo qo1 qm qat = some r) : Holds prog 52 [.v (.one (.box 0 0)), .v (.one (.d (.int .i64 qat)))] ⟨[], [(0, [.d (.int .i64 qo), .d (.int .i64 qo), .d (.int .i64 qo), .d (.int .i64 qo1), .mapp 1, .d (.int .i64 qo1)]), (1, [.mapc .str true (List.map (encM D.str api_Note.enc) qm)])]⟩ (Is (command_Office_aged_R qo qo1 qm qat r)) := by
  unfold command_Office_aged at hF
  refine holds_of_awp hΓ (fn := f52) (c := cB f52) (A := 2) (nx := 2) (by kernel_rfl) (by kernel_rfl) (by kernel_rfl) (by kernel_rfl) (by kernel_rfl) (by kernel_rfl) (lowc_of (by kernel_rfl)) ?_
  show Awp prog 2 60 (cB f52) _ _
  refine awp_seq ?_
  refine awp_region ?_
  refine aR 1 ?_
  refine aE ?_
  refine awp_seq ?_
  refine awp_region ?_
  refine aX (x_map .str true (κ := List UInt8) (β := api_Note) D.str api_Note.enc) ?_
  refine aR 1 ?_
  refine aE ?_
  refine awp_seq ?_
  refine awp_region ?_
  refine aR 1 ?_
  refine aE ?_
  refine awp_seq ?_
  refine awp_seq ?_
  refine awp_region ?_
  refine aR 4 ?_
  refine aRange (ka := .str) (va := true) 1 (encM D.str api_Note.enc) qm rfl (fun vme vcl vhp => ?_)
  refine aE ?_
  refine awp_block ?_
  refine awp_to (st' := command_Office_aged_x1_H qo qo1 qm qat vme vcl vhp qm (([] : List (List UInt8 × api_Note)), [])) (oT [(2, 8002), (3, 1002)] [4]) ?_
  refine rG (H := command_Office_aged_x1_H qo qo1 qm qat vme vcl vhp) (k := command_Office_aged_x1_k) (S := command_Office_aged_x1_S qo qo1 qm qat vme vcl vhp) hF (by intro x; exact fun h => nomatch h) (fun l s => command_Office_aged_x1_ok qo qo1 qm qat vme vcl vhp l s) (fun x hF => ?_)
  obtain ⟨vm1_1, vover1_1⟩ := x
  refine awp_seq ?_
  refine bE hF fun vl3 h10 hF => ?_
  refine gE hF fun h11 hF => ?_
  refine awp_region ?_
  refine aR 1 ?_
  refine aCp (slices_SortFunc_api_Note_api_Note_o0_f1_command_Office_aged_1_ok h10) ⟨⟨rfl, rfl, pin1 h11⟩, trivial⟩ [(0, 3)] [] [] ?_
  refine aE ?_
  refine awp_seq ?_
  refine awp_seq ?_
  refine gE hF fun h12 hF => ?_
  refine awp_region ?_
  refine aR 2 ?_
  refine aL api_Note.enc vl3 ?_
  refine aR 7 ?_
  refine aT api_Note.enc 3 h12 rfl ?_
  refine aL api_Note.enc (vl3.take (imax 0 (IntKind.wrap .i64 ((vl3.length : Int) - qo1))).toNat) ?_
  refine aR 1 ?_
  refine aE ?_
  refine awp_to (oT (m := ⟨[], [(0, [.d (.int .i64 qo), .d (.int .i64 qo), .d (.int .i64 qo), .d (.int .i64 qo1), .mapp 1, .d (.int .i64 qo1)]), (1, [.mapc .str true (List.map (encM D.str api_Note.enc) qm)]), (2, [.mapc .str true (List.map (encM D.str api_Note.enc) vm1_1)])]⟩) (ts := [(5, .v (.one (.mapp 2))), (48, .v (.one (.d (.lst (List.map api_Note.enc (vl3.take (imax 0 (IntKind.wrap .i64 ((vl3.length : Int) - qo1))).toNat)))))), (49, .v (.one (.d (.int .i64 ((vl3.take (imax 0 (IntKind.wrap .i64 ((vl3.length : Int) - qo1))).toNat).length : Int))))), (50, .v (.one (.d (.int .i64 0))))]) (nx := 3) [] []) ?_
  refine awp_block ?_
  refine awp_to (st' := command_Office_aged_x2_H qo qo1 qm vl3 (vm1_1, 0)) (oT [] []) ?_
  refine bE hF fun vm3_1 h15 hF => ?_
  refine awp_sub (awp_loop' (command_Office_aged_x2_H qo qo1 qm vl3) command_Office_aged_x2_k (command_Office_aged_x2_S qo qo1 qm vl3) (by intro x; exact fun h => nomatch h) h15 (command_Office_aged_x2_ok qo qo1 qm vl3)) ?_
  refine awp_seq ?_
  refine awp_region ?_
  refine aR 2 ?_
  refine aE ?_
  refine awp_ret ?_
  exact oF hF [] []

/-! ### beaconfleet/command.pending -/
def command_pending_x1_k : Int → AEx
  | _ => .exit 0

def command_pending_x1_S (qm : List (List UInt8 × api_Note)) (vme : List (Nat × List D × List D)) (vcl : Nat) (vhp : (List.map (encM D.str api_Note.enc) qm).Perm (List.map (·.2) vme)) : Int → St
  | vk1 => Mem.st ⟨[], [(0, [.mapc .str true (List.map (encM D.str api_Note.enc) qm)])]⟩ (tl [(3, .v (.one (.d (.int .i64 vk1))))]) 1

def command_pending_x1_H (qm : List (List UInt8 × api_Note)) (vme : List (Nat × List D × List D)) (vcl : Nat) (vhp : (List.map (encM D.str api_Note.enc) qm).Perm (List.map (·.2) vme)) (vl : List (List UInt8 × api_Note)) : Int → St
  | vk => Mem.st ⟨[], [(0, [.mapg .str true vme vcl]), (1, [.iterc 0 vme vcl (List.map (encM D.str api_Note.enc) vl) none])]⟩ (tl [(3, .v (.one (.d (.int .i64 vk)))), (7, .v (.one (.box 1 0)))]) 2

theorem command_pending_x1_ok (qm : List (List UInt8 × api_Note)) (vme : List (Nat × List D × List D)) (vcl : Nat) (vhp : (List.map (encM D.str api_Note.enc) qm).Perm (List.map (·.2) vme)) (vl : List (List UInt8 × api_Note)) (vk : Int) (hE : vl = [] → ∃ x, command_pending_x1 none vk = some x) (hP : ∀ e l', List.Perm vl (e :: l') → ∃ x, command_pending_x1 (some e) vk = some x) : Awp prog 1 19 (cL (cL (cR (cL (cR (cR (cB f53))))))) (OutR 1 command_pending_x1_k (command_pending_x1) (command_pending_x1_H qm vme vcl vhp) (command_pending_x1_S qm vme vcl vhp) vl vk) (command_pending_x1_H qm vme vcl vhp vl vk) := by
  refine awp_seq ?_
  refine awp_region ?_
  refine aNext (ka := .str) (va := true) (me := vme) (cl := vcl) (cur := none) 1 0 (encM D.str api_Note.enc) vl rfl (fun h3 => ?_) (fun ve1 vl2 vb1 h4 => ?_)
  · obtain ⟨x, hF0⟩ := hE h3
    have hF := hF0
    unfold command_pending_x1 at hF
    refine aR 1 ?_
    refine aE ?_
    refine awp_seq ?_
    refine awp_false (by kernel_rfl) rfl ?_
    refine awp_close (ka := .str) (va := true) (me := vme) (cl := vcl) 0 vhp ?_
    refine awp_exit ?_
    exact outE h3 hF0 (oO hF [] [] rfl)
  · obtain ⟨x, hF0⟩ := hP _ _ h4
    have hF := hF0
    unfold command_pending_x1 at hF
    refine aR 1 ?_
    refine aE ?_
    refine awp_seq ?_
    refine awp_true (by kernel_rfl) rfl ?_
    refine awp_skip ?_
    refine awp_block ?_
    refine awp_seq ?_
    refine awp_region ?_
    refine aEntry (ka := .str) (va := true) (me := vme) (cl := vcl) (b := vb1) (rest := List.map (encM D.str api_Note.enc) vl2) 1 0 (encM D.str api_Note.enc) ve1 rfl ?_
    refine aR 3 ?_
    refine aE ?_
    refine awp_seq ?_
    refine bE hF fun _ h5 hF => ?_
    refine awp_region ?_
    refine aR 2 ?_
    refine aC (command_ended_ok h5) [] [] [] ?_
    refine aR 1 ?_
    refine aE ?_
    refine cE hF (fun h6 hF => ?_) fun h6 hF => ?_
    · refine awp_true (by kernel_rfl) h6 ?_
      refine awp_region ?_
      refine aR 3 ?_
      refine aE ?_
      exact outP h4 hF0 (outCur (idM := 0) (me := vme) (cl := vcl) (rest := List.map (encM D.str api_Note.enc) vl2) (cur := some (vb1, (encM D.str api_Note.enc) ve1)) 1 <| oO hF [] [] rfl)
    · refine awp_false (by kernel_rfl) h6 ?_
      refine awp_skip ?_
      exact outP h4 hF0 (outCur (idM := 0) (me := vme) (cl := vcl) (rest := List.map (encM D.str api_Note.enc) vl2) (cur := some (vb1, (encM D.str api_Note.enc) ve1)) 1 <| oO hF [] [] rfl)

def command_pending_R (qm : List (List UInt8 × api_Note)) (r : Int) : TV × Mem := (.v (.one (.d (.int .i64 r))), ⟨[], [(0, [.mapc .str true (List.map (encM D.str api_Note.enc) qm)])]⟩)

theorem command_pending_ok {qm : List (List UInt8 × api_Note)} {r} (hF : command_pending qm = some r) : Holds prog 53 [.v (.one (.mapp 0))] ⟨[], [(0, [.mapc .str true (List.map (encM D.str api_Note.enc) qm)])]⟩ (Is (command_pending_R qm r)) := by
  unfold command_pending at hF
  refine holds_of_awp hΓ (fn := f53) (c := cB f53) (A := 1) (nx := 1) (by kernel_rfl) (by kernel_rfl) (by kernel_rfl) (by kernel_rfl) (by kernel_rfl) (by kernel_rfl) (lowc_of (by kernel_rfl)) ?_
  show Awp prog 1 19 (cB f53) _ _
  refine awp_seq ?_
  refine awp_region ?_
  refine aR 1 ?_
  refine aE ?_
  refine awp_seq ?_
  refine awp_region ?_
  refine aR 1 ?_
  refine aE ?_
  refine awp_seq ?_
  refine awp_seq ?_
  refine awp_region ?_
  refine aR 1 ?_
  refine aRange (ka := .str) (va := true) 0 (encM D.str api_Note.enc) qm rfl (fun vme vcl vhp => ?_)
  refine aE ?_
  refine awp_block ?_
  refine awp_to (st' := command_pending_x1_H qm vme vcl vhp qm 0) (oT [(1, 3001)] []) ?_
  refine rG (H := command_pending_x1_H qm vme vcl vhp) (k := command_pending_x1_k) (S := command_pending_x1_S qm vme vcl vhp) hF (by intro x; exact fun h => nomatch h) (fun l s => command_pending_x1_ok qm vme vcl vhp l s) (fun vk1_1 hF => ?_)
  refine awp_seq ?_
  refine awp_region ?_
  refine aR 2 ?_
  refine aE ?_
  refine awp_ret ?_
  exact oF hF [] []

/-! ### (*beaconfleet/command.Office).keep -/
def command_Office_keep_R (qo : Int) (qo1 : Int) (qm : List (List UInt8 × api_Note)) (qm1 : List (List UInt8 × api_Note)) (qat : Int) (r : Unit) : TV × Mem := (.tup [], ⟨[], [(0, [.d (.int .i64 qo), .d (.int .i64 qo), .d (.int .i64 qo), .d (.int .i64 qo1), .mapp 2, .d (.int .i64 qat)]), (1, [.mapc .str true (List.map (encM D.str api_Note.enc) qm)]), (2, [.mapc .str true (List.map (encM D.str api_Note.enc) qm1)])]⟩)

theorem command_Office_keep_ok {qo : Int} {qo1 : Int} {qm : List (List UInt8 × api_Note)} {qm1 : List (List UInt8 × api_Note)} {qat : Int} {r} (hF : command_Office_keep qo qo1 qm qm1 qat = some r) : Holds prog 54 [.v (.one (.box 0 0)), .v (.one (.mapp 2)), .v (.one (.d (.int .i64 qat)))] ⟨[], [(0, [.d (.int .i64 qo), .d (.int .i64 qo), .d (.int .i64 qo), .d (.int .i64 qo1), .mapp 1, .d (.int .i64 qo1)]), (1, [.mapc .str true (List.map (encM D.str api_Note.enc) qm)]), (2, [.mapc .str true (List.map (encM D.str api_Note.enc) qm1)])]⟩ (Is (command_Office_keep_R qo qo1 qm qm1 qat r)) := by
  unfold command_Office_keep at hF
  refine holds_of_awp hΓ (fn := f54) (c := cB f54) (A := 3) (nx := 3) (by kernel_rfl) (by kernel_rfl) (by kernel_rfl) (by kernel_rfl) (by kernel_rfl) (by kernel_rfl) (lowc_of (by kernel_rfl)) ?_
  show Awp prog 3 14 (cB f54) _ _
  refine awp_region ?_
  refine aR 10 ?_
  refine aE ?_
  exact oF hF [] []

end Go.Eng
