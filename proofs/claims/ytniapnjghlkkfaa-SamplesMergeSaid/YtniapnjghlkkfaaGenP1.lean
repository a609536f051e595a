/-
The code of the Go functions that the law SamplesMerge reaches does what the plain functions say, part 1.
-/
import Derived.Test.YtniapnjghlkkfaaGenF

import Derived.Test.YtniapnjghlkkfaaEng9

import Derived.Test.YtniapnjghlkkfaaProg

import Derived.KernelRfl

namespace Go.Eng

open Go Go.Proofs.Try

set_option linter.unusedVariables false

set_option maxRecDepth 20000

set_option maxHeartbeats 0

def ti3 : TI := ⟨1, 8, [.d (.int .i64 0)], false, .int .i64⟩

def ti5 : TI := ⟨1, 1, [.d (.int .u8 0)], false, .int .u8⟩

def ti9 : TI := ⟨1, 16, [.d (.str [])], false, .str⟩

def ti22 : TI := ⟨1, 24, [.nil], false, .slice 3⟩

def ti25 : TI := ⟨2, 32, [.nil, .d (.int .i64 0)], true, .struct [(0, 22), (1, 3)]⟩

def ti26 : TI := ⟨1, 24, [.nil], false, .slice 32⟩

def ti32 : TI := ⟨4, 48, [.d (.str []), .d (.str []), .d (.int .i64 0), .d (.int .i64 0)], true, .struct [(0, 9), (1, 9), (2, 3), (3, 3)]⟩

def ti36 : TI := ⟨2, 16, [.d (.int .i64 0), .d (.int .i64 0)], true, .struct [(0, 3), (1, 3)]⟩

def ti38 : TI := ⟨1, 8, [.d (.int .i64 0)], false, .int .i64⟩

def ti57 : TI := ⟨1, 24, [.nil], false, .slice 9⟩

def ti65 : TI := ⟨1, 24, [.nil], false, .slice 38⟩

def ti69 : TI := ⟨1, 24, [.nil], false, .slice 5⟩

def ti75 : TI := ⟨1, 24, [.nil], false, .slice 26⟩

def ti79 : TI := ⟨1, 8, [.d (.int .u64 0)], false, .int .u64⟩

def ti85 : TI := ⟨1, 8, [.d (.int .i64 0)], false, .int .i64⟩

def ti95 : TI := ⟨1, 8, [.d (.int .u64 0)], false, .int .u64⟩

def ti98 : TI := ⟨1, 8, [.d (.int .u64 0)], false, .int .u64⟩

def Γ : Types := [(3, ti3), (5, ti5), (9, ti9), (22, ti22), (25, ti25), (26, ti26), (32, ti32), (36, ti36), (38, ti38), (57, ti57), (65, ti65), (69, ti69), (75, ti75), (79, ti79), (85, ti85), (95, ti95), (98, ti98)]

theorem hΓ : TypesOk prog Γ := typesOk_of (by kernel_rfl)

instance : TOk prog Γ := ⟨hΓ⟩

theorem hm : prog.follows .mixedOrders = true := by kernel_rfl

instance : Mixed prog := ⟨hm⟩

/-! ### beaconfleet/fleetmake.Below -/
def fleetmake_Below_x1_k : Int → AEx
  | _ => .normal

def fleetmake_Below_x1_S (qx : Int) (qn : Int) : Int → St
  | vx => Mem.st ⟨[], []⟩ (tl [(0, .v (.one (.d (.int .i64 vx))))]) 0

def fleetmake_Below_x1_I (qx : Int) (qn : Int) : St := Mem.st ⟨[], []⟩ (tl [(0, .v (.one (.d (.int .i64 (qx.tmod qn))))), (1, .v (.one (.d (.int .i64 qn))))]) 0

theorem fleetmake_Below_x1_ok (qx : Int) (qn : Int) {r} (hF : fleetmake_Below_x1 qx qn = some r) : Awp prog 0 16 (cL (cR (cR (cR (cB f32))))) (Out 0 fleetmake_Below_x1_k (fleetmake_Below_x1_S qx qn) r) (fleetmake_Below_x1_I qx qn) := by
  unfold fleetmake_Below_x1 at hF
  refine awp_seq ?_
  refine awp_region ?_
  refine aR 2 ?_
  refine aE ?_
  refine cE hF (fun h3 hF => ?_) fun h3 hF => ?_
  · refine awp_true (by kernel_rfl) h3 ?_
    refine awp_region ?_
    refine aR 4 ?_
    refine aE ?_
    exact oO hF [] [] rfl
  · refine awp_false (by kernel_rfl) h3 ?_
    refine awp_skip ?_
    exact oO hF [] [] rfl

def fleetmake_Below_R (qx : Int) (qn : Int) (r : Int) : TV × Mem := (.v (.one (.d (.int .i64 r))), ⟨[], []⟩)

theorem fleetmake_Below_ok {qx : Int} {qn : Int} {r} (hF : fleetmake_Below qx qn = some r) : Holds prog 32 [.v (.one (.d (.int .i64 qx))), .v (.one (.d (.int .i64 qn)))] ⟨[], []⟩ (Is (fleetmake_Below_R qx qn r)) := by
  unfold fleetmake_Below at hF
  refine holds_of_awp hΓ (fn := f32) (c := cB f32) (A := 0) (nx := 0) (by kernel_rfl) (by kernel_rfl) (by kernel_rfl) (by kernel_rfl) (by kernel_rfl) (by kernel_rfl) (lowc_of (by kernel_rfl)) ?_
  show Awp prog 0 16 (cB f32) _ _
  refine awp_seq ?_
  refine awp_region ?_
  refine aR 1 ?_
  refine aE ?_
  refine awp_seq ?_
  refine awp_seq ?_
  refine awp_region ?_
  refine aR 2 ?_
  refine aE ?_
  refine cE hF (fun h1 hF => ?_) fun h1 hF => ?_
  · refine awp_true (by kernel_rfl) h1 ?_
    refine awp_seq ?_
    refine awp_region ?_
    refine aR 1 ?_
    refine aE ?_
    refine awp_ret ?_
    exact oF hF [] []
  · refine awp_false (by kernel_rfl) h1 ?_
    refine awp_skip ?_
    refine awp_seq ?_
    refine gE hF fun h2 hF => ?_
    refine awp_region ?_
    refine aR 2 ?_
    refine aX (x_rem h2) ?_
    refine aR 1 ?_
    refine aE ?_
    refine awp_seq ?_
    refine awp_to (st' := fleetmake_Below_x1_I qx qn) (oT [] []) ?_
    refine bE hF fun vx1 h4 hF => ?_
    refine awp_sub (fleetmake_Below_x1_ok qx qn h4) ?_
    refine awp_seq ?_
    refine awp_region ?_
    refine aR 2 ?_
    refine aE ?_
    refine awp_ret ?_
    exact oF hF [] []

/-! ### (*beaconfleet/fleetmake.Stream).Next -/
def fleetmake_Stream_Next_R (qs : fleetmake_Stream) (qn : Int) (r : Int) : TV × Mem := (.v (.one (.d (.int .i64 r))), ⟨[], [(0, [.d (.lst (List.map (encI .i64) qs.L)), .d (.int .i64 (IntKind.wrap .i64 (qs.at_ + 1)))])]⟩)

theorem fleetmake_Stream_Next_ok {qs : fleetmake_Stream} {qn : Int} {r} (hF : fleetmake_Stream_Next qs qn = some r) : Holds prog 8 [.v (.one (.box 0 0)), .v (.one (.d (.int .i64 qn)))] ⟨[], [(0, [.d (.lst (List.map (encI .i64) qs.L)), .d (.int .i64 qs.at_)])]⟩ (Is (fleetmake_Stream_Next_R qs qn r)) := by
  unfold fleetmake_Stream_Next at hF
  refine holds_of_awp hΓ (fn := f8) (c := cB f8) (A := 1) (nx := 1) (by kernel_rfl) (by kernel_rfl) (by kernel_rfl) (by kernel_rfl) (by kernel_rfl) (by kernel_rfl) (lowc_of (by kernel_rfl)) ?_
  show Awp prog 1 64 (cB f8) _ _
  refine awp_seq ?_
  refine awp_region ?_
  refine aR 1 ?_
  refine aE ?_
  refine awp_seq ?_
  refine awp_region ?_
  refine aR 8 ?_
  refine aE ?_
  refine awp_seq ?_
  refine awp_seq ?_
  refine awp_region ?_
  refine aR 4 ?_
  refine aL (encI .i64) qs.L ?_
  refine aR 1 ?_
  refine aE ?_
  refine cE hF (fun h1 hF => ?_) fun h1 hF => ?_
  · refine awp_true (by kernel_rfl) h1 ?_
    refine awp_seq ?_
    refine bE hF fun vr h2 hF => ?_
    refine awp_region ?_
    refine aR 6 ?_
    refine aC (fleetmake_Below_ok h2) [] [] [] ?_
    refine aR 1 ?_
    refine aE ?_
    refine awp_ret ?_
    exact oF hF [] []
  · refine awp_false (by kernel_rfl) h1 ?_
    refine awp_skip ?_
    refine awp_seq ?_
    refine gE hF fun h3 hF => ?_
    refine aD ?_
    refine dR 9 ?_
    refine dL (encI .i64) qs.L ?_
    refine dX (x_rem h3) ?_
    refine dR 1 ?_
    refine dE ?_
    refine awp_seq ?_
    refine aD ?_
    refine dR 9 ?_
    refine dL (encI .i64) qs.L ?_
    refine dX (x_quo h3) ?_
    refine dR 1 ?_
    refine dE ?_
    refine awp_seq ?_
    refine bE hF fun vy h4 hF => ?_
    refine bE hF fun vr1 h5 hF => ?_
    refine bE hF fun vr2 h6 hF => ?_
    refine awp_region ?_
    refine aR 5 ?_
    refine aX (x_idx (encI .i64) h4) ?_
    refine aR 1 ?_
    refine aC (fleetmake_Below_ok h5) [] [] [] ?_
    refine aR 6 ?_
    refine aC (fleetmake_Below_ok h6) [] [] [] ?_
    refine aR 1 ?_
    refine aE ?_
    refine awp_ret ?_
    exact oF hF [] []

/-! ### (*beaconfleet/fleetmake.Stream).Range -/
def fleetmake_Stream_Range_R (qs : fleetmake_Stream) (qlow : Int) (qhigh : Int) (r : fleetmake_Stream × Int) : TV × Mem := (.v (.one (.d (.int .i64 r.2))), ⟨[], [(0, [.d (.lst (List.map (encI .i64) r.1.L)), .d (.int .i64 r.1.at_)])]⟩)

theorem fleetmake_Stream_Range_ok {qs : fleetmake_Stream} {qlow : Int} {qhigh : Int} {r} (hF : fleetmake_Stream_Range qs qlow qhigh = some r) : Holds prog 5 [.v (.one (.box 0 0)), .v (.one (.d (.int .i64 qlow))), .v (.one (.d (.int .i64 qhigh)))] ⟨[], [(0, [.d (.lst (List.map (encI .i64) qs.L)), .d (.int .i64 qs.at_)])]⟩ (Is (fleetmake_Stream_Range_R qs qlow qhigh r)) := by
  unfold fleetmake_Stream_Range at hF
  refine holds_of_awp hΓ (fn := f5) (c := cB f5) (A := 1) (nx := 1) (by kernel_rfl) (by kernel_rfl) (by kernel_rfl) (by kernel_rfl) (by kernel_rfl) (by kernel_rfl) (lowc_of (by kernel_rfl)) ?_
  show Awp prog 1 19 (cB f5) _ _
  refine awp_seq ?_
  refine awp_region ?_
  refine aR 1 ?_
  refine aE ?_
  refine awp_seq ?_
  refine awp_seq ?_
  refine awp_region ?_
  refine aR 3 ?_
  refine aE ?_
  refine cE hF (fun h1 hF => ?_) fun h1 hF => ?_
  · refine awp_true (by kernel_rfl) h1 ?_
    refine awp_seq ?_
    refine awp_region ?_
    refine aR 2 ?_
    refine aE ?_
    refine awp_ret ?_
    exact oF hF [] []
  · refine awp_false (by kernel_rfl) h1 ?_
    refine awp_skip ?_
    refine awp_seq ?_
    refine bE hF fun vr3 h2 hF => ?_
    refine awp_region ?_
    refine aR 6 ?_
    refine aC (fleetmake_Stream_Next_ok h2) [] [] [] ?_
    refine aR 2 ?_
    refine aE ?_
    refine awp_ret ?_
    exact oF hF [] []

/-! ### (*beaconfleet/fleetmake.Stream).Some -/
def fleetmake_Stream_Some_o1_R (qs : fleetmake_Stream) (ql : List (List UInt8)) (r : (List UInt8)) : TV × Mem := (.v (.one (.d (.str r))), ⟨[], [(0, [.d (.lst (List.map (encI .i64) qs.L)), .d (.int .i64 (IntKind.wrap .i64 (qs.at_ + 1)))])]⟩)

theorem fleetmake_Stream_Some_o1_ok {qs : fleetmake_Stream} {ql : List (List UInt8)} {r} (hF : fleetmake_Stream_Some_o1 qs ql = some r) : Holds prog 9 [.v (.one (.box 0 0)), .v (.one (.own 1 none))] ⟨[(1, ⟨9, 1, List.map encS ql⟩)], [(0, [.d (.lst (List.map (encI .i64) qs.L)), .d (.int .i64 qs.at_)])]⟩ (Is (fleetmake_Stream_Some_o1_R qs ql r)) := by
  unfold fleetmake_Stream_Some_o1 at hF
  refine holds_of_awp hΓ (fn := f9) (c := cB f9) (A := 2) (nx := 2) (by kernel_rfl) (by kernel_rfl) (by kernel_rfl) (by kernel_rfl) (by kernel_rfl) (by kernel_rfl) (lowc_of (by kernel_rfl)) ?_
  show Awp prog 2 12 (cB f9) _ _
  refine awp_seq ?_
  refine awp_region ?_
  refine aR 1 ?_
  refine aE ?_
  refine awp_to (oT (m := ⟨[], [(0, [.d (.lst (List.map (encI .i64) qs.L)), .d (.int .i64 qs.at_)])]⟩) (ts := [(0, .v (.one (.box 0 0))), (1, .v (.one (.d (.lst (List.map encS ql)))))]) (nx := 2) [] []) ?_
  refine awp_seq ?_
  refine bE hF fun vr3 h1 hF => ?_
  refine bE hF fun vy h2 hF => ?_
  refine awp_region ?_
  refine aR 3 ?_
  refine aL encS ql ?_
  refine aC (fleetmake_Stream_Next_ok h1) [] [] [] ?_
  refine aX (x_idx encS h2) ?_
  refine aR 2 ?_
  refine aE ?_
  refine awp_ret ?_
  exact oF hF [] []

/-! ### (*beaconfleet/fleetmake.Stream).Pick -/
def fleetmake_Stream_Pick_o1_R (qs : fleetmake_Stream) (ql : List Int) (r : Int) : TV × Mem := (.v (.one (.d (.int .i64 r))), ⟨[], [(0, [.d (.lst (List.map (encI .i64) qs.L)), .d (.int .i64 (IntKind.wrap .i64 (qs.at_ + 1)))])]⟩)

theorem fleetmake_Stream_Pick_o1_ok {qs : fleetmake_Stream} {ql : List Int} {r} (hF : fleetmake_Stream_Pick_o1 qs ql = some r) : Holds prog 26 [.v (.one (.box 0 0)), .v (.one (.own 1 none))] ⟨[(1, ⟨3, 1, List.map (encI .i64) ql⟩)], [(0, [.d (.lst (List.map (encI .i64) qs.L)), .d (.int .i64 qs.at_)])]⟩ (Is (fleetmake_Stream_Pick_o1_R qs ql r)) := by
  unfold fleetmake_Stream_Pick_o1 at hF
  refine holds_of_awp hΓ (fn := f26) (c := cB f26) (A := 2) (nx := 2) (by kernel_rfl) (by kernel_rfl) (by kernel_rfl) (by kernel_rfl) (by kernel_rfl) (by kernel_rfl) (lowc_of (by kernel_rfl)) ?_
  show Awp prog 2 12 (cB f26) _ _
  refine awp_seq ?_
  refine awp_region ?_
  refine aR 1 ?_
  refine aE ?_
  refine awp_to (oT (m := ⟨[], [(0, [.d (.lst (List.map (encI .i64) qs.L)), .d (.int .i64 qs.at_)])]⟩) (ts := [(0, .v (.one (.box 0 0))), (1, .v (.one (.d (.lst (List.map (encI .i64) ql)))))]) (nx := 2) [] []) ?_
  refine awp_seq ?_
  refine bE hF fun vr3 h1 hF => ?_
  refine bE hF fun vy h2 hF => ?_
  refine awp_region ?_
  refine aR 3 ?_
  refine aL (encI .i64) ql ?_
  refine aC (fleetmake_Stream_Next_ok h1) [] [] [] ?_
  refine aX (x_idx (encI .i64) h2) ?_
  refine aR 2 ?_
  refine aE ?_
  refine awp_ret ?_
  exact oF hF [] []

/-! ### cmp.isNaN[string] -/
def cmp_isNaN_string_R (qx : List UInt8) (r : Unit) : TV × Mem := (.v (.one (.d (.bool (!decide (qx = qx))))), ⟨[], []⟩)

theorem cmp_isNaN_string_ok {qx : List UInt8} {r} (hF : cmp_isNaN_string qx = some r) : Holds prog 85 [.v (.one (.d (.str qx)))] ⟨[], []⟩ (Is (cmp_isNaN_string_R qx r)) := by
  unfold cmp_isNaN_string at hF
  refine holds_of_awp hΓ (fn := f85) (c := cB f85) (A := 0) (nx := 0) (by kernel_rfl) (by kernel_rfl) (by kernel_rfl) (by kernel_rfl) (by kernel_rfl) (by kernel_rfl) (lowc_of (by kernel_rfl)) ?_
  show Awp prog 0 6 (cB f85) _ _
  refine awp_seq ?_
  refine awp_region ?_
  refine aR 1 ?_
  refine aE ?_
  refine awp_seq ?_
  refine awp_region ?_
  refine aR 4 ?_
  refine aE ?_
  refine awp_ret ?_
  exact oF hF [] []

/-! ### cmp.Compare[string] -/
def cmp_Compare_string_R (qx : List UInt8) (qy : List UInt8) (r : Int) : TV × Mem := (.v (.one (.d (.int .i64 r))), ⟨[], []⟩)

theorem cmp_Compare_string_ok {qx : List UInt8} {qy : List UInt8} {r} (hF : cmp_Compare_string qx qy = some r) : Holds prog 69 [.v (.one (.d (.str qx))), .v (.one (.d (.str qy)))] ⟨[], []⟩ (Is (cmp_Compare_string_R qx qy r)) := by
  unfold cmp_Compare_string at hF
  refine holds_of_awp hΓ (fn := f69) (c := cB f69) (A := 0) (nx := 0) (by kernel_rfl) (by kernel_rfl) (by kernel_rfl) (by kernel_rfl) (by kernel_rfl) (by kernel_rfl) (lowc_of (by kernel_rfl)) ?_
  show Awp prog 0 20 (cB f69) _ _
  refine awp_seq ?_
  refine awp_region ?_
  refine aR 1 ?_
  refine aE ?_
  refine awp_seq ?_
  refine bE hF fun _ h1 hF => ?_
  refine awp_region ?_
  refine aR 1 ?_
  refine aC (cmp_isNaN_string_ok h1) [] [] [] ?_
  refine aR 1 ?_
  refine aE ?_
  refine awp_seq ?_
  refine bE hF fun _ h2 hF => ?_
  refine awp_region ?_
  refine aR 1 ?_
  refine aC (cmp_isNaN_string_ok h2) [] [] [] ?_
  refine aR 1 ?_
  refine aE ?_
  refine awp_seq ?_
  refine awp_seq ?_
  refine awp_region ?_
  refine aR 1 ?_
  refine aE ?_
  refine cE hF (fun h3 hF => ?_) fun h3 hF => ?_
  · refine awp_true (by kernel_rfl) h3 ?_
    refine awp_seq ?_
    refine awp_seq ?_
    refine awp_region ?_
    refine aR 1 ?_
    refine aE ?_
    refine cE hF (fun h4 hF => ?_) fun h4 hF => ?_
    · refine awp_true (by kernel_rfl) h4 ?_
      refine awp_seq ?_
      refine awp_region ?_
      refine aR 1 ?_
      refine aE ?_
      refine awp_ret ?_
      exact oF hF [] []
    · refine awp_false (by kernel_rfl) h4 ?_
      refine awp_skip ?_
      refine awp_seq ?_
      refine awp_region ?_
      refine aR 1 ?_
      refine aE ?_
      refine awp_ret ?_
      exact oF hF [] []
  · refine awp_false (by kernel_rfl) h3 ?_
    refine awp_skip ?_
    refine awp_seq ?_
    refine awp_seq ?_
    refine awp_region ?_
    refine aR 1 ?_
    refine aE ?_
    refine cE hF (fun h5 hF => ?_) fun h5 hF => ?_
    · refine awp_true (by kernel_rfl) h5 ?_
      refine awp_seq ?_
      refine awp_region ?_
      refine aR 1 ?_
      refine aE ?_
      refine awp_ret ?_
      exact oF hF [] []
    · refine awp_false (by kernel_rfl) h5 ?_
      refine awp_skip ?_
      refine awp_seq ?_
      refine awp_seq ?_
      refine awp_region ?_
      refine aR 3 ?_
      refine aE ?_
      refine cE hF (fun h6 hF => ?_) fun h6 hF => ?_
      · refine awp_true (by kernel_rfl) h6 ?_
        refine awp_seq ?_
        refine awp_region ?_
        refine aR 1 ?_
        refine aE ?_
        refine awp_ret ?_
        exact oF hF [] []
      · refine awp_false (by kernel_rfl) h6 ?_
        refine awp_skip ?_
        refine awp_seq ?_
        refine awp_seq ?_
        refine awp_region ?_
        refine aR 3 ?_
        refine aE ?_
        refine cE hF (fun h7 hF => ?_) fun h7 hF => ?_
        · refine awp_true (by kernel_rfl) h7 ?_
          refine awp_seq ?_
          refine awp_region ?_
          refine aR 1 ?_
          refine aE ?_
          refine awp_ret ?_
          exact oF hF [] []
        · refine awp_false (by kernel_rfl) h7 ?_
          refine awp_skip ?_
          refine awp_seq ?_
          refine awp_region ?_
          refine aR 1 ?_
          refine aE ?_
          refine awp_ret ?_
          exact oF hF [] []

/-! ### slices.Compare[[]string,string] -/
def slices_Compare_string_string_x1_k : Unit ⊕ Int → AEx
  | .inl _ => .exit 0
  | .inr _ => .ret

def slices_Compare_string_string_x1_S (qs1 : List (List UInt8)) (qs2 : List (List UInt8)) : Unit ⊕ Int → St
  | .inl _ => Mem.st ⟨[], []⟩ (tl [(0, .v (.one (.d (.lst (List.map encS qs1))))), (1, .v (.one (.d (.lst (List.map encS qs2)))))]) 0
  | .inr vx1 => Mem.st ⟨[], []⟩ (tl [(4, .v (.one (.d (.int .i64 vx1))))]) 0

def slices_Compare_string_string_x1_H (qs1 : List (List UInt8)) (qs2 : List (List UInt8)) : Int → St
  | vx => Mem.st ⟨[], []⟩ (tl [(0, .v (.one (.d (.lst (List.map encS qs1))))), (1, .v (.one (.d (.lst (List.map encS qs2))))), (9, .v (.one (.d (.lst (List.map encS qs1))))), (10, .v (.one (.d (.int .i64 (qs1.length : Int))))), (11, .v (.one (.d (.int .i64 vx))))]) 0

theorem slices_Compare_string_string_x1_ok (qs1 : List (List UInt8)) (qs2 : List (List UInt8)) (vx : Int) (r : (Int) ⊕ (Unit ⊕ Int)) (hF : slices_Compare_string_string_x1 qs1 qs2 vx = some r) : Awp prog 0 36 (cL (cL (cR (cL (cR (cB f56)))))) (Out 0 (kk slices_Compare_string_string_x1_k) (SS (slices_Compare_string_string_x1_H qs1 qs2) (slices_Compare_string_string_x1_S qs1 qs2)) r) (slices_Compare_string_string_x1_H qs1 qs2 vx) := by
  unfold slices_Compare_string_string_x1 at hF
  refine awp_seq ?_
  refine awp_region ?_
  refine aR 1 ?_
  refine aE ?_
  refine awp_seq ?_
  refine cE hF (fun h1 hF => ?_) fun h1 hF => ?_
  · refine awp_true (by kernel_rfl) h1 ?_
    refine awp_skip ?_
    refine awp_seq ?_
    refine awp_block ?_
    refine awp_seq ?_
    refine bE hF fun vy2 h2 hF => ?_
    refine awp_region ?_
    refine aR 1 ?_
    refine aX (x_idx encS h2) ?_
    refine aR 3 ?_
    refine aE ?_
    refine awp_seq ?_
    refine awp_seq ?_
    refine awp_region ?_
    refine aR 2 ?_
    refine aL encS qs2 ?_
    refine aR 1 ?_
    refine aE ?_
    refine cE hF (fun h3 hF => ?_) fun h3 hF => ?_
    · refine awp_true (by kernel_rfl) h3 ?_
      refine awp_seq ?_
      refine awp_region ?_
      refine aR 1 ?_
      refine aE ?_
      refine awp_ret ?_
      exact oO hF [] [] rfl
    · refine awp_false (by kernel_rfl) h3 ?_
      refine awp_skip ?_
      refine awp_seq ?_
      refine bE hF fun vy3 h4 hF => ?_
      refine awp_region ?_
      refine aR 2 ?_
      refine aX (x_idx encS h4) ?_
      refine aR 2 ?_
      refine aE ?_
      refine awp_seq ?_
      refine bE hF fun vr1 h5 hF => ?_
      refine awp_region ?_
      refine aR 2 ?_
      refine aC (cmp_Compare_string_ok h5) [] [] [] ?_
      refine aR 1 ?_
      refine aE ?_
      refine awp_seq ?_
      refine awp_region ?_
      refine aR 2 ?_
      refine aE ?_
      refine cE hF (fun h6 hF => ?_) fun h6 hF => ?_
      · refine awp_true (by kernel_rfl) h6 ?_
        refine awp_seq ?_
        refine awp_region ?_
        refine aR 2 ?_
        refine aE ?_
        refine awp_ret ?_
        exact oO hF [] [] rfl
      · refine awp_false (by kernel_rfl) h6 ?_
        refine awp_skip ?_
        refine awp_region ?_
        refine aR 2 ?_
        refine aE ?_
        exact oO hF [] [] rfl
  · refine awp_false (by kernel_rfl) h1 ?_
    refine awp_exit ?_
    exact oO hF [] [] rfl

def slices_Compare_string_string_R (qs1 : List (List UInt8)) (qs2 : List (List UInt8)) (r : Int) : TV × Mem := (.v (.one (.d (.int .i64 r))), ⟨[], []⟩)

theorem slices_Compare_string_string_ok {qs1 : List (List UInt8)} {qs2 : List (List UInt8)} {r} (hF : slices_Compare_string_string qs1 qs2 = some r) : Holds prog 56 [.v (.one (.d (.lst (List.map encS qs1)))), .v (.one (.d (.lst (List.map encS qs2))))] ⟨[], []⟩ (Is (slices_Compare_string_string_R qs1 qs2 r)) := by
  unfold slices_Compare_string_string at hF
  refine holds_of_awp hΓ (fn := f56) (c := cB f56) (A := 0) (nx := 0) (by kernel_rfl) (by kernel_rfl) (by kernel_rfl) (by kernel_rfl) (by kernel_rfl) (by kernel_rfl) (lowc_of (by kernel_rfl)) ?_
  show Awp prog 0 36 (cB f56) _ _
  refine awp_seq ?_
  refine awp_region ?_
  refine aR 1 ?_
  refine aE ?_
  refine awp_seq ?_
  refine awp_seq ?_
  refine awp_region ?_
  refine aR 1 ?_
  refine aL encS qs1 ?_
  refine aR 1 ?_
  refine aE ?_
  refine awp_block ?_
  refine awp_to (st' := slices_Compare_string_string_x1_H qs1 qs2 0) (oT [] []) ?_
  refine bE hF fun x h7 hF => ?_
  rcases x with _ | vx1_1
  · refine awp_sub (awp_loop' (slices_Compare_string_string_x1_H qs1 qs2) slices_Compare_string_string_x1_k (slices_Compare_string_string_x1_S qs1 qs2) (by intro x; rcases x with x | x <;> exact fun h => nomatch h) h7 (slices_Compare_string_string_x1_ok qs1 qs2)) ?_
    refine awp_seq ?_
    refine awp_seq ?_
    refine awp_region ?_
    refine aR 1 ?_
    refine aL encS qs1 ?_
    refine aR 1 ?_
    refine aL encS qs2 ?_
    refine aR 1 ?_
    refine aE ?_
    refine cE hF (fun h8 hF => ?_) fun h8 hF => ?_
    · refine awp_true (by kernel_rfl) h8 ?_
      refine awp_seq ?_
      refine awp_region ?_
      refine aR 1 ?_
      refine aE ?_
      refine awp_ret ?_
      exact oF hF [] []
    · refine awp_false (by kernel_rfl) h8 ?_
      refine awp_skip ?_
      refine awp_seq ?_
      refine awp_region ?_
      refine aR 1 ?_
      refine aE ?_
      refine awp_ret ?_
      exact oF hF [] []
  · refine awp_sub (awp_loop' (slices_Compare_string_string_x1_H qs1 qs2) slices_Compare_string_string_x1_k (slices_Compare_string_string_x1_S qs1 qs2) (by intro x; rcases x with x | x <;> exact fun h => nomatch h) h7 (slices_Compare_string_string_x1_ok qs1 qs2)) ?_
    exact oF hF [] []

/-! ### beaconfleet/fleetref2.sign -/
def fleetref2_sign_R (qn : Int) (r : Int) : TV × Mem := (.v (.one (.d (.int .i64 r))), ⟨[], []⟩)

theorem fleetref2_sign_ok {qn : Int} {r} (hF : fleetref2_sign qn = some r) : Holds prog 57 [.v (.one (.d (.int .i64 qn)))] ⟨[], []⟩ (Is (fleetref2_sign_R qn r)) := by
  unfold fleetref2_sign at hF
  refine holds_of_awp hΓ (fn := f57) (c := cB f57) (A := 0) (nx := 0) (by kernel_rfl) (by kernel_rfl) (by kernel_rfl) (by kernel_rfl) (by kernel_rfl) (by kernel_rfl) (lowc_of (by kernel_rfl)) ?_
  show Awp prog 0 9 (cB f57) _ _
  refine awp_seq ?_
  refine awp_region ?_
  refine aR 1 ?_
  refine aE ?_
  refine awp_seq ?_
  refine awp_block ?_
  refine awp_seq ?_
  refine awp_region ?_
  refine aR 3 ?_
  refine aE ?_
  refine cE hF (fun h1 hF => ?_) fun h1 hF => ?_
  · refine awp_true (by kernel_rfl) h1 ?_
    refine awp_seq ?_
    refine awp_region ?_
    refine aR 1 ?_
    refine aE ?_
    refine awp_ret ?_
    exact oF hF [] []
  · refine awp_false (by kernel_rfl) h1 ?_
    refine awp_seq ?_
    refine awp_region ?_
    refine aR 3 ?_
    refine aE ?_
    refine cE hF (fun h2 hF => ?_) fun h2 hF => ?_
    · refine awp_true (by kernel_rfl) h2 ?_
      refine awp_seq ?_
      refine awp_region ?_
      refine aR 1 ?_
      refine aE ?_
      refine awp_ret ?_
      exact oF hF [] []
    · refine awp_false (by kernel_rfl) h2 ?_
      refine awp_skip ?_
      refine awp_seq ?_
      refine awp_region ?_
      refine aR 1 ?_
      refine aE ?_
      refine awp_ret ?_
      exact oF hF [] []

/-! ### beaconfleet/fleetref2.SampleOrder -/
def fleetref2_SampleOrder_R (qa : api_Sample) (qb : api_Sample) (r : Int) : TV × Mem := (.v (.one (.d (.int .i64 r))), ⟨[], []⟩)

theorem fleetref2_SampleOrder_ok {qa : api_Sample} {qb : api_Sample} {r} (hF : fleetref2_SampleOrder qa qb = some r) : Holds prog 28 [.v (.agg [.d (.str qa.Device), .d (.str qa.Metric), .d (.int .i64 qa.At), .d (.int .i64 qa.Value)]), .v (.agg [.d (.str qb.Device), .d (.str qb.Metric), .d (.int .i64 qb.At), .d (.int .i64 qb.Value)])] ⟨[], []⟩ (Is (fleetref2_SampleOrder_R qa qb r)) := by
  unfold fleetref2_SampleOrder at hF
  refine holds_of_awp hΓ (fn := f28) (c := cB f28) (A := 0) (nx := 0) (by kernel_rfl) (by kernel_rfl) (by kernel_rfl) (by kernel_rfl) (by kernel_rfl) (by kernel_rfl) (lowc_of (by kernel_rfl)) ?_
  show Awp prog 0 26 (cB f28) _ _
  refine awp_seq ?_
  refine awp_region ?_
  refine aR 3 ?_
  refine aE ?_
  refine awp_seq ?_
  refine awp_seq ?_
  refine bE hF fun vr2 h1 hF => ?_
  refine awp_region ?_
  refine aR 10 ?_
  refine aC (slices_Compare_string_string_ok h1) [] [] [7000, 12000] ?_
  refine aR 1 ?_
  refine aE ?_
  refine awp_seq ?_
  refine awp_region ?_
  refine aR 2 ?_
  refine aE ?_
  refine cE hF (fun h2 hF => ?_) fun h2 hF => ?_
  · refine awp_true (by kernel_rfl) h2 ?_
    refine awp_seq ?_
    refine awp_region ?_
    refine aR 2 ?_
    refine aE ?_
    refine awp_ret ?_
    exact oF hF [] []
  · refine awp_false (by kernel_rfl) h2 ?_
    refine awp_skip ?_
    refine awp_seq ?_
    refine bE hF fun vr h3 hF => ?_
    refine awp_region ?_
    refine aR 5 ?_
    refine aC (fleetref2_sign_ok h3) [] [] [] ?_
    refine aR 1 ?_
    refine aE ?_
    refine awp_ret ?_
    exact oF hF [] []

/-! ### slices.insertionSortCmpFunc[beaconfleet/api.Sample] -/
def slices_insertionSortCmpFunc_api_Sample_o0_f3_fleetref2_SampleOrder_x3_k : Bool → AEx
  | _ => .normal

def slices_insertionSortCmpFunc_api_Sample_o0_f3_fleetref2_SampleOrder_x3_S (qa : Int) (qb : Int) (vi : Int) (vl3 : List api_Sample) (vj1 : Int) : Bool → St
  | vx4 => Mem.st ⟨[(0, ⟨32, 4, List.map api_Sample.enc vl3⟩)], []⟩ (tl [(0, .v (.one (.own 0 none))), (1, .v (.one (.d (.int .i64 qa)))), (2, .v (.one (.d (.int .i64 qb)))), (3, .v (.one (.fn 28 []))), (8, .v (.one (.d (.int .i64 vi)))), (9, .v (.one (.d (.int .i64 vj1)))), (34, .v (.one (.d (.bool vx4))))]) 1

def slices_insertionSortCmpFunc_api_Sample_o0_f3_fleetref2_SampleOrder_x3_I (qa : Int) (qb : Int) (vi : Int) (vl3 : List api_Sample) (vj1 : Int) : St := Mem.st ⟨[(0, ⟨32, 4, List.map api_Sample.enc vl3⟩)], []⟩ (tl [(0, .v (.one (.own 0 none))), (1, .v (.one (.d (.int .i64 qa)))), (2, .v (.one (.d (.int .i64 qb)))), (3, .v (.one (.fn 28 []))), (8, .v (.one (.d (.int .i64 vi)))), (9, .v (.one (.d (.int .i64 vj1))))]) 1

theorem slices_insertionSortCmpFunc_api_Sample_o0_f3_fleetref2_SampleOrder_x3_ok (qa : Int) (qb : Int) (vi : Int) (vl3 : List api_Sample) (vj1 : Int) {r} (hF : slices_insertionSortCmpFunc_api_Sample_o0_f3_fleetref2_SampleOrder_x3 qa vl3 vj1 = some r) : Awp prog 1 53 (cL (cL (cL (cL (cR (cL (cL (cR (cL (cL (cR (cB f67)))))))))))) (Out 1 slices_insertionSortCmpFunc_api_Sample_o0_f3_fleetref2_SampleOrder_x3_k (slices_insertionSortCmpFunc_api_Sample_o0_f3_fleetref2_SampleOrder_x3_S qa qb vi vl3 vj1) r) (slices_insertionSortCmpFunc_api_Sample_o0_f3_fleetref2_SampleOrder_x3_I qa qb vi vl3 vj1) := by
  unfold slices_insertionSortCmpFunc_api_Sample_o0_f3_fleetref2_SampleOrder_x3 at hF
  refine cE hF (fun h2 hF => ?_) fun h2 hF => ?_
  · refine bE hF fun vy15 h3 hF => ?_
    refine bE hF fun vy16 h4 hF => ?_
    refine bE hF fun vr1_3 h5 hF => ?_
    refine aD ?_
    refine dR 2 ?_
    refine dB h2 ?_
    refine dR 4 ?_
    refine dX (x_idxO api_Sample.enc 0 h3) ?_
    refine dX (x_ldE api_Sample.enc h3) ?_
    refine dR 3 ?_
    refine dX (x_idxO api_Sample.enc 0 h4) ?_
    refine dX (x_ldE api_Sample.enc h4) ?_
    refine dC (fleetref2_SampleOrder_ok h5) [] [] [] ?_
    refine dR 2 ?_
    refine dE ?_
    exact oO hF [] [] rfl
  · refine aD ?_
    refine dR 2 ?_
    refine dB h2 ?_
    refine dR 14 ?_
    refine dE ?_
    exact oO hF [] [] rfl

def slices_insertionSortCmpFunc_api_Sample_o0_f3_fleetref2_SampleOrder_x2_k : (List api_Sample) → AEx
  | _ => .exit 2

def slices_insertionSortCmpFunc_api_Sample_o0_f3_fleetref2_SampleOrder_x2_S (qa : Int) (qb : Int) (vi : Int) : (List api_Sample) → St
  | vl4 => Mem.st ⟨[(0, ⟨32, 4, List.map api_Sample.enc vl4⟩)], []⟩ (tl [(0, .v (.one (.own 0 none))), (1, .v (.one (.d (.int .i64 qa)))), (2, .v (.one (.d (.int .i64 qb)))), (3, .v (.one (.fn 28 []))), (8, .v (.one (.d (.int .i64 vi))))]) 1

def slices_insertionSortCmpFunc_api_Sample_o0_f3_fleetref2_SampleOrder_x2_H (qa : Int) (qb : Int) (vi : Int) : (List api_Sample) × Int → St
  | (vl3, vj1) => Mem.st ⟨[(0, ⟨32, 4, List.map api_Sample.enc vl3⟩)], []⟩ (tl [(0, .v (.one (.own 0 none))), (1, .v (.one (.d (.int .i64 qa)))), (2, .v (.one (.d (.int .i64 qb)))), (3, .v (.one (.fn 28 []))), (8, .v (.one (.d (.int .i64 vi)))), (9, .v (.one (.d (.int .i64 vj1))))]) 1

theorem slices_insertionSortCmpFunc_api_Sample_o0_f3_fleetref2_SampleOrder_x2_ok (qa : Int) (qb : Int) (vi : Int) (s : (List api_Sample) × Int) (r : ((List api_Sample) × Int) ⊕ ((List api_Sample))) (hF : slices_insertionSortCmpFunc_api_Sample_o0_f3_fleetref2_SampleOrder_x2 qa s = some r) : Awp prog 1 53 (cL (cL (cR (cL (cL (cR (cL (cL (cR (cB f67)))))))))) (Out 1 (kk slices_insertionSortCmpFunc_api_Sample_o0_f3_fleetref2_SampleOrder_x2_k) (SS (slices_insertionSortCmpFunc_api_Sample_o0_f3_fleetref2_SampleOrder_x2_H qa qb vi) (slices_insertionSortCmpFunc_api_Sample_o0_f3_fleetref2_SampleOrder_x2_S qa qb vi)) r) (slices_insertionSortCmpFunc_api_Sample_o0_f3_fleetref2_SampleOrder_x2_H qa qb vi s) := by
  obtain ⟨vl3, vj1⟩ := s
  unfold slices_insertionSortCmpFunc_api_Sample_o0_f3_fleetref2_SampleOrder_x2 at hF
  refine awp_seq ?_
  refine awp_seq ?_
  refine awp_to (st' := slices_insertionSortCmpFunc_api_Sample_o0_f3_fleetref2_SampleOrder_x3_I qa qb vi vl3 vj1) (oT [] []) ?_
  refine bE hF fun vx4_1 h6 hF => ?_
  refine awp_sub (slices_insertionSortCmpFunc_api_Sample_o0_f3_fleetref2_SampleOrder_x3_ok qa qb vi vl3 vj1 h6) ?_
  refine cE hF (fun h7 hF => ?_) fun h7 hF => ?_
  · refine awp_true (by kernel_rfl) h7 ?_
    refine awp_skip ?_
    refine awp_seq ?_
    refine awp_block ?_
    refine bE hF fun vy17 h8 hF => ?_
    refine bE hF fun vy18 h9 hF => ?_
    refine bE hF fun vy19 h10 hF => ?_
    refine aDw [0] ?_
    refine dR 8 ?_
    refine dI api_Sample.enc 0 h8 rfl ?_
    refine dX (x_ldE api_Sample.enc h8) ?_
    refine dR 2 ?_
    refine dI api_Sample.enc 0 h9 rfl ?_
    refine dX (x_ldE api_Sample.enc h9) ?_
    refine dI api_Sample.enc 0 h9 rfl ?_
    refine dW api_Sample.enc vy17 h9 rfl ?_
    refine dI api_Sample.enc 0 h10 rfl ?_
    refine dW api_Sample.enc vy18 h10 rfl ?_
    refine dE ?_
    refine awp_region ?_
    refine aR 3 ?_
    refine aE ?_
    exact oO hF [] [] rfl
  · refine awp_false (by kernel_rfl) h7 ?_
    refine awp_exit ?_
    exact oO hF [] [] rfl

def slices_insertionSortCmpFunc_api_Sample_o0_f3_fleetref2_SampleOrder_x1_k : (List api_Sample) → AEx
  | _ => .exit 0

def slices_insertionSortCmpFunc_api_Sample_o0_f3_fleetref2_SampleOrder_x1_S (qa : Int) (qb : Int) : (List api_Sample) → St
  | vl5 => Mem.st ⟨[(0, ⟨32, 4, List.map api_Sample.enc vl5⟩)], []⟩ (tl []) 1

def slices_insertionSortCmpFunc_api_Sample_o0_f3_fleetref2_SampleOrder_x1_H (qa : Int) (qb : Int) : (List api_Sample) × Int → St
  | (vl, vi) => Mem.st ⟨[(0, ⟨32, 4, List.map api_Sample.enc vl⟩)], []⟩ (tl [(0, .v (.one (.own 0 none))), (1, .v (.one (.d (.int .i64 qa)))), (2, .v (.one (.d (.int .i64 qb)))), (3, .v (.one (.fn 28 []))), (8, .v (.one (.d (.int .i64 vi))))]) 1

theorem slices_insertionSortCmpFunc_api_Sample_o0_f3_fleetref2_SampleOrder_x1_ok (qa : Int) (qb : Int) (s : (List api_Sample) × Int) (r : ((List api_Sample) × Int) ⊕ ((List api_Sample))) (hF : slices_insertionSortCmpFunc_api_Sample_o0_f3_fleetref2_SampleOrder_x1 qa qb s = some r) : Awp prog 1 53 (cL (cL (cR (cB f67)))) (Out 1 (kk slices_insertionSortCmpFunc_api_Sample_o0_f3_fleetref2_SampleOrder_x1_k) (SS (slices_insertionSortCmpFunc_api_Sample_o0_f3_fleetref2_SampleOrder_x1_H qa qb) (slices_insertionSortCmpFunc_api_Sample_o0_f3_fleetref2_SampleOrder_x1_S qa qb)) r) (slices_insertionSortCmpFunc_api_Sample_o0_f3_fleetref2_SampleOrder_x1_H qa qb s) := by
  obtain ⟨vl, vi⟩ := s
  unfold slices_insertionSortCmpFunc_api_Sample_o0_f3_fleetref2_SampleOrder_x1 at hF
  refine awp_seq ?_
  refine awp_seq ?_
  refine awp_region ?_
  refine aR 3 ?_
  refine aE ?_
  refine cE hF (fun h1 hF => ?_) fun h1 hF => ?_
  · refine awp_true (by kernel_rfl) h1 ?_
    refine awp_skip ?_
    refine awp_seq ?_
    refine awp_block ?_
    refine awp_seq ?_
    refine awp_region ?_
    refine aR 2 ?_
    refine aE ?_
    refine awp_block ?_
    refine awp_to (st' := slices_insertionSortCmpFunc_api_Sample_o0_f3_fleetref2_SampleOrder_x2_H qa qb vi (vl, vi)) (oT [] []) ?_
    refine bE hF fun vl4_1 h11 hF => ?_
    refine awp_sub (awp_loop' (slices_insertionSortCmpFunc_api_Sample_o0_f3_fleetref2_SampleOrder_x2_H qa qb vi) slices_insertionSortCmpFunc_api_Sample_o0_f3_fleetref2_SampleOrder_x2_k (slices_insertionSortCmpFunc_api_Sample_o0_f3_fleetref2_SampleOrder_x2_S qa qb vi) (by intro x; exact fun h => nomatch h) h11 (slices_insertionSortCmpFunc_api_Sample_o0_f3_fleetref2_SampleOrder_x2_ok qa qb vi)) ?_
    refine awp_region ?_
    refine aR 3 ?_
    refine aE ?_
    exact oO hF [] [] rfl
  · refine awp_false (by kernel_rfl) h1 ?_
    refine awp_exit ?_
    exact oO hF [] [] rfl

def slices_insertionSortCmpFunc_api_Sample_o0_f3_fleetref2_SampleOrder_R (qdata : List api_Sample) (qa : Int) (qb : Int) (r : (List api_Sample)) : TV × Mem := (.tup [], ⟨[(0, ⟨32, 4, List.map api_Sample.enc r⟩)], []⟩)

theorem slices_insertionSortCmpFunc_api_Sample_o0_f3_fleetref2_SampleOrder_ok {qdata : List api_Sample} {qa : Int} {qb : Int} {r} (hF : slices_insertionSortCmpFunc_api_Sample_o0_f3_fleetref2_SampleOrder qdata qa qb = some r) : Holds prog 67 [.v (.one (.own 0 none)), .v (.one (.d (.int .i64 qa))), .v (.one (.d (.int .i64 qb))), .v (.one (.fn 28 []))] ⟨[(0, ⟨32, 4, List.map api_Sample.enc qdata⟩)], []⟩ (Is (slices_insertionSortCmpFunc_api_Sample_o0_f3_fleetref2_SampleOrder_R qdata qa qb r)) := by
  unfold slices_insertionSortCmpFunc_api_Sample_o0_f3_fleetref2_SampleOrder at hF
  refine holds_of_awp hΓ (fn := f67) (c := cB f67) (A := 1) (nx := 1) (by kernel_rfl) (by kernel_rfl) (by kernel_rfl) (by kernel_rfl) (by kernel_rfl) (by kernel_rfl) (lowc_of (by kernel_rfl)) ?_
  show Awp prog 1 53 (cB f67) _ _
  refine awp_seq ?_
  refine awp_region ?_
  refine aR 3 ?_
  refine aE ?_
  refine awp_block ?_
  refine awp_to (st' := slices_insertionSortCmpFunc_api_Sample_o0_f3_fleetref2_SampleOrder_x1_H qa qb (qdata, IntKind.wrap .i64 (qa + 1))) (oT [] []) ?_
  refine bE hF fun vl5_1 h12 hF => ?_
  refine awp_sub (awp_loop' (slices_insertionSortCmpFunc_api_Sample_o0_f3_fleetref2_SampleOrder_x1_H qa qb) slices_insertionSortCmpFunc_api_Sample_o0_f3_fleetref2_SampleOrder_x1_k (slices_insertionSortCmpFunc_api_Sample_o0_f3_fleetref2_SampleOrder_x1_S qa qb) (by intro x; exact fun h => nomatch h) h12 (slices_insertionSortCmpFunc_api_Sample_o0_f3_fleetref2_SampleOrder_x1_ok qa qb)) ?_
  exact oF hF [] []

/-! ### slices.stableCmpFunc[beaconfleet/api.Sample] -/
def slices_stableCmpFunc_api_Sample_o0_f2_fleetref2_SampleOrder_x1_k : ((List api_Sample) × Int) → AEx
  | _ => .exit 0

def slices_stableCmpFunc_api_Sample_o0_f2_fleetref2_SampleOrder_x1_S (qn : Int) : ((List api_Sample) × Int) → St
  | (vl1, va1) => Mem.st ⟨[(0, ⟨32, 4, List.map api_Sample.enc vl1⟩)], []⟩ (tl [(0, .v (.one (.own 0 none))), (1, .v (.one (.d (.int .i64 qn)))), (2, .v (.one (.fn 28 []))), (6, .v (.one (.d (.int .i64 20)))), (7, .v (.one (.d (.int .i64 va1))))]) 1

def slices_stableCmpFunc_api_Sample_o0_f2_fleetref2_SampleOrder_x1_H (qn : Int) : (List api_Sample) × Int × Int → St
  | (vl, va, vb) => Mem.st ⟨[(0, ⟨32, 4, List.map api_Sample.enc vl⟩)], []⟩ (tl [(0, .v (.one (.own 0 none))), (1, .v (.one (.d (.int .i64 qn)))), (2, .v (.one (.fn 28 []))), (6, .v (.one (.d (.int .i64 20)))), (7, .v (.one (.d (.int .i64 va)))), (8, .v (.one (.d (.int .i64 vb))))]) 1

theorem slices_stableCmpFunc_api_Sample_o0_f2_fleetref2_SampleOrder_x1_ok (qn : Int) (s : (List api_Sample) × Int × Int) (r : ((List api_Sample) × Int × Int) ⊕ (((List api_Sample) × Int))) (hF : slices_stableCmpFunc_api_Sample_o0_f2_fleetref2_SampleOrder_x1 qn s = some r) : Awp prog 1 63 (cL (cL (cL (cR (cR (cB f55)))))) (Out 1 (kk slices_stableCmpFunc_api_Sample_o0_f2_fleetref2_SampleOrder_x1_k) (SS (slices_stableCmpFunc_api_Sample_o0_f2_fleetref2_SampleOrder_x1_H qn) (slices_stableCmpFunc_api_Sample_o0_f2_fleetref2_SampleOrder_x1_S qn)) r) (slices_stableCmpFunc_api_Sample_o0_f2_fleetref2_SampleOrder_x1_H qn s) := by
  obtain ⟨vl, va, vb⟩ := s
  unfold slices_stableCmpFunc_api_Sample_o0_f2_fleetref2_SampleOrder_x1 at hF
  refine awp_seq ?_
  refine awp_seq ?_
  refine awp_region ?_
  refine aR 3 ?_
  refine aE ?_
  refine cE hF (fun h1 hF => ?_) fun h1 hF => ?_
  · refine awp_true (by kernel_rfl) h1 ?_
    refine awp_skip ?_
    refine awp_block ?_
    refine awp_seq ?_
    refine bE hF fun vl6_1 h2 hF => ?_
    refine gE hF fun h3 hF => ?_
    refine awp_region ?_
    refine aR 4 ?_
    refine aCp (slices_insertionSortCmpFunc_api_Sample_o0_f3_fleetref2_SampleOrder_ok h2) ⟨⟨rfl, rfl, pin1 h3⟩, trivial⟩ [] [] [] ?_
    refine aE ?_
    refine awp_seq ?_
    refine awp_region ?_
    refine aR 2 ?_
    refine aE ?_
    refine awp_region ?_
    refine aR 4 ?_
    refine aE ?_
    exact oO hF [] [] rfl
  · refine awp_false (by kernel_rfl) h1 ?_
    refine awp_exit ?_
    exact oO hF [] [] rfl

def slices_stableCmpFunc_api_Sample_o0_f2_fleetref2_SampleOrder_x3_k : Unit → AEx
  | _ => .exit 4

def slices_stableCmpFunc_api_Sample_o0_f2_fleetref2_SampleOrder_x3_S (qn : Int) (vl6_2 : List api_Sample) (vblockSize : Int) : Unit → St
  | _ => Mem.st ⟨[(0, ⟨32, 4, List.map api_Sample.enc vl6_2⟩)], []⟩ (tl [(0, .v (.one (.own 0 none))), (1, .v (.one (.d (.int .i64 qn)))), (2, .v (.one (.fn 28 []))), (6, .v (.one (.d (.int .i64 vblockSize)))), (7, .v (.one (.d (.int .i64 0))))]) 1

def slices_stableCmpFunc_api_Sample_o0_f2_fleetref2_SampleOrder_x3_H (qn : Int) (vl6_2 : List api_Sample) (vblockSize : Int) : Unit → St
  | _ => Mem.st ⟨[(0, ⟨32, 4, List.map api_Sample.enc vl6_2⟩)], []⟩ (tl [(0, .v (.one (.own 0 none))), (1, .v (.one (.d (.int .i64 qn)))), (2, .v (.one (.fn 28 []))), (6, .v (.one (.d (.int .i64 vblockSize)))), (7, .v (.one (.d (.int .i64 0)))), (8, .v (.one (.d (.int .i64 (IntKind.wrap .i64 ((2 : Int) * vblockSize))))))]) 1

theorem slices_stableCmpFunc_api_Sample_o0_f2_fleetref2_SampleOrder_x3_ok (qn : Int) (vl6_2 : List api_Sample) (vblockSize : Int) (s : Unit) (r : (Unit) ⊕ (Unit)) (hF : slices_stableCmpFunc_api_Sample_o0_f2_fleetref2_SampleOrder_x3 qn vblockSize s = some r) : Awp prog 1 63 (cL (cL (cL (cR (cL (cR (cL (cL (cR (cR (cR (cR (cB f55))))))))))))) (Out 1 (kk slices_stableCmpFunc_api_Sample_o0_f2_fleetref2_SampleOrder_x3_k) (SS (slices_stableCmpFunc_api_Sample_o0_f2_fleetref2_SampleOrder_x3_H qn vl6_2 vblockSize) (slices_stableCmpFunc_api_Sample_o0_f2_fleetref2_SampleOrder_x3_S qn vl6_2 vblockSize)) r) (slices_stableCmpFunc_api_Sample_o0_f2_fleetref2_SampleOrder_x3_H qn vl6_2 vblockSize s) := by
  unfold slices_stableCmpFunc_api_Sample_o0_f2_fleetref2_SampleOrder_x3 at hF
  refine awp_seq ?_
  refine awp_seq ?_
  refine awp_region ?_
  refine aR 3 ?_
  refine aE ?_
  refine cE hF (fun h8 hF => ?_) fun h8 hF => ?_
  · refine awp_true (by kernel_rfl) h8 ?_
    refine awp_skip ?_
    refine awp_block ?_
    refine awp_seq ?_
    exact nE hF
  · refine awp_false (by kernel_rfl) h8 ?_
    refine awp_exit ?_
    exact oO hF [] [] rfl

def slices_stableCmpFunc_api_Sample_o0_f2_fleetref2_SampleOrder_x2_k : Unit → AEx
  | _ => .exit 2

def slices_stableCmpFunc_api_Sample_o0_f2_fleetref2_SampleOrder_x2_S (qn : Int) (vl6_2 : List api_Sample) : Unit → St
  | _ => Mem.st ⟨[(0, ⟨32, 4, List.map api_Sample.enc vl6_2⟩)], []⟩ (tl []) 1

def slices_stableCmpFunc_api_Sample_o0_f2_fleetref2_SampleOrder_x2_H (qn : Int) (vl6_2 : List api_Sample) : Int → St
  | vblockSize => Mem.st ⟨[(0, ⟨32, 4, List.map api_Sample.enc vl6_2⟩)], []⟩ (tl [(0, .v (.one (.own 0 none))), (1, .v (.one (.d (.int .i64 qn)))), (2, .v (.one (.fn 28 []))), (6, .v (.one (.d (.int .i64 vblockSize))))]) 1

theorem slices_stableCmpFunc_api_Sample_o0_f2_fleetref2_SampleOrder_x2_ok (qn : Int) (vl6_2 : List api_Sample) (vblockSize : Int) (r : (Int) ⊕ (Unit)) (hF : slices_stableCmpFunc_api_Sample_o0_f2_fleetref2_SampleOrder_x2 qn vblockSize = some r) : Awp prog 1 63 (cL (cL (cR (cR (cR (cR (cB f55))))))) (Out 1 (kk slices_stableCmpFunc_api_Sample_o0_f2_fleetref2_SampleOrder_x2_k) (SS (slices_stableCmpFunc_api_Sample_o0_f2_fleetref2_SampleOrder_x2_H qn vl6_2) (slices_stableCmpFunc_api_Sample_o0_f2_fleetref2_SampleOrder_x2_S qn vl6_2)) r) (slices_stableCmpFunc_api_Sample_o0_f2_fleetref2_SampleOrder_x2_H qn vl6_2 vblockSize) := by
  unfold slices_stableCmpFunc_api_Sample_o0_f2_fleetref2_SampleOrder_x2 at hF
  refine awp_seq ?_
  refine awp_seq ?_
  refine awp_region ?_
  refine aR 3 ?_
  refine aE ?_
  refine cE hF (fun h7 hF => ?_) fun h7 hF => ?_
  · refine awp_true (by kernel_rfl) h7 ?_
    refine awp_skip ?_
    refine awp_block ?_
    refine awp_seq ?_
    refine awp_region ?_
    refine aR 4 ?_
    refine aE ?_
    refine awp_seq ?_
    refine awp_block ?_
    refine awp_to (st' := slices_stableCmpFunc_api_Sample_o0_f2_fleetref2_SampleOrder_x3_H qn vl6_2 vblockSize ()) (oT [] []) ?_
    refine bE hF fun _ h10 hF => ?_
    refine awp_sub (awp_loop' (slices_stableCmpFunc_api_Sample_o0_f2_fleetref2_SampleOrder_x3_H qn vl6_2 vblockSize) slices_stableCmpFunc_api_Sample_o0_f2_fleetref2_SampleOrder_x3_k (slices_stableCmpFunc_api_Sample_o0_f2_fleetref2_SampleOrder_x3_S qn vl6_2 vblockSize) (by intro x; exact fun h => nomatch h) h10 (slices_stableCmpFunc_api_Sample_o0_f2_fleetref2_SampleOrder_x3_ok qn vl6_2 vblockSize)) ?_
    refine awp_seq ?_
    refine awp_seq ?_
    refine awp_region ?_
    refine aR 4 ?_
    refine aE ?_
    refine awp_seq ?_
    refine awp_region ?_
    refine aR 3 ?_
    refine aE ?_
    refine cE hF (fun h11 hF => ?_) fun h11 hF => ?_
    · refine awp_true (by kernel_rfl) h11 ?_
      exact nE hF
    · refine awp_false (by kernel_rfl) h11 ?_
      refine awp_skip ?_
      refine awp_region ?_
      refine aR 3 ?_
      refine aE ?_
      exact oO hF [] [] rfl
  · refine awp_false (by kernel_rfl) h7 ?_
    refine awp_exit ?_
    exact oO hF [] [] rfl

def slices_stableCmpFunc_api_Sample_o0_f2_fleetref2_SampleOrder_R (qdata : List api_Sample) (qn : Int) (r : (List api_Sample)) : TV × Mem := (.tup [], ⟨[(0, ⟨32, 4, List.map api_Sample.enc r⟩)], []⟩)

theorem slices_stableCmpFunc_api_Sample_o0_f2_fleetref2_SampleOrder_ok {qdata : List api_Sample} {qn : Int} {r} (hF : slices_stableCmpFunc_api_Sample_o0_f2_fleetref2_SampleOrder qdata qn = some r) : Holds prog 55 [.v (.one (.own 0 none)), .v (.one (.d (.int .i64 qn))), .v (.one (.fn 28 []))] ⟨[(0, ⟨32, 4, List.map api_Sample.enc qdata⟩)], []⟩ (Is (slices_stableCmpFunc_api_Sample_o0_f2_fleetref2_SampleOrder_R qdata qn r)) := by
  unfold slices_stableCmpFunc_api_Sample_o0_f2_fleetref2_SampleOrder at hF
  refine holds_of_awp hΓ (fn := f55) (c := cB f55) (A := 1) (nx := 1) (by kernel_rfl) (by kernel_rfl) (by kernel_rfl) (by kernel_rfl) (by kernel_rfl) (by kernel_rfl) (lowc_of (by kernel_rfl)) ?_
  show Awp prog 1 63 (cB f55) _ _
  refine awp_seq ?_
  refine awp_region ?_
  refine aR 1 ?_
  refine aE ?_
  refine awp_seq ?_
  refine awp_region ?_
  refine aR 3 ?_
  refine aE ?_
  refine awp_seq ?_
  refine awp_block ?_
  refine awp_to (st' := slices_stableCmpFunc_api_Sample_o0_f2_fleetref2_SampleOrder_x1_H qn (qdata, 0, 20)) (oT [] []) ?_
  refine bE hF fun x h4 hF => ?_
  obtain ⟨vl1_1, va1_1⟩ := x
  refine awp_sub (awp_loop' (slices_stableCmpFunc_api_Sample_o0_f2_fleetref2_SampleOrder_x1_H qn) slices_stableCmpFunc_api_Sample_o0_f2_fleetref2_SampleOrder_x1_k (slices_stableCmpFunc_api_Sample_o0_f2_fleetref2_SampleOrder_x1_S qn) (by intro x; exact fun h => nomatch h) h4 (slices_stableCmpFunc_api_Sample_o0_f2_fleetref2_SampleOrder_x1_ok qn)) ?_
  refine awp_seq ?_
  refine bE hF fun vl6_2 h5 hF => ?_
  refine gE hF fun h6 hF => ?_
  refine awp_region ?_
  refine aR 4 ?_
  refine aCp (slices_insertionSortCmpFunc_api_Sample_o0_f3_fleetref2_SampleOrder_ok h5) ⟨⟨rfl, rfl, pin1 h6⟩, trivial⟩ [] [] [] ?_
  refine aE ?_
  refine awp_block ?_
  refine awp_to (st' := slices_stableCmpFunc_api_Sample_o0_f2_fleetref2_SampleOrder_x2_H qn vl6_2 20) (oT [] []) ?_
  refine bE hF fun _ h13 hF => ?_
  refine awp_sub (awp_loop' (slices_stableCmpFunc_api_Sample_o0_f2_fleetref2_SampleOrder_x2_H qn vl6_2) slices_stableCmpFunc_api_Sample_o0_f2_fleetref2_SampleOrder_x2_k (slices_stableCmpFunc_api_Sample_o0_f2_fleetref2_SampleOrder_x2_S qn vl6_2) (by intro x; exact fun h => nomatch h) h13 (slices_stableCmpFunc_api_Sample_o0_f2_fleetref2_SampleOrder_x2_ok qn vl6_2)) ?_
  exact oF hF [] []

/-! ### slices.SortStableFunc[[]beaconfleet/api.Sample,beaconfleet/api.Sample] -/
def slices_SortStableFunc_api_Sample_api_Sample_o0_f1_fleetref2_SampleOrder_R (qx : List api_Sample) (r : (List api_Sample)) : TV × Mem := (.tup [], ⟨[(0, ⟨32, 4, List.map api_Sample.enc r⟩)], []⟩)

theorem slices_SortStableFunc_api_Sample_api_Sample_o0_f1_fleetref2_SampleOrder_ok {qx : List api_Sample} {r} (hF : slices_SortStableFunc_api_Sample_api_Sample_o0_f1_fleetref2_SampleOrder qx = some r) : Holds prog 27 [.v (.one (.own 0 none)), .v (.one (.fn 28 []))] ⟨[(0, ⟨32, 4, List.map api_Sample.enc qx⟩)], []⟩ (Is (slices_SortStableFunc_api_Sample_api_Sample_o0_f1_fleetref2_SampleOrder_R qx r)) := by
  unfold slices_SortStableFunc_api_Sample_api_Sample_o0_f1_fleetref2_SampleOrder at hF
  refine holds_of_awp hΓ (fn := f27) (c := cB f27) (A := 1) (nx := 1) (by kernel_rfl) (by kernel_rfl) (by kernel_rfl) (by kernel_rfl) (by kernel_rfl) (by kernel_rfl) (lowc_of (by kernel_rfl)) ?_
  show Awp prog 1 9 (cB f27) _ _
  refine bE hF fun vl2 h1 hF => ?_
  refine gE hF fun h2 hF => ?_
  refine awp_region ?_
  refine aR 2 ?_
  refine aL api_Sample.enc qx ?_
  refine aR 1 ?_
  refine aCp (slices_stableCmpFunc_api_Sample_o0_f2_fleetref2_SampleOrder_ok h1) ⟨⟨rfl, rfl, pin1 h2⟩, trivial⟩ [] [] [] ?_
  refine aE ?_
  exact oF hF [] []

/-! ### (*beaconfleet/fleetmake.Stream).Flip -/
def fleetmake_Stream_Flip_R (qs : fleetmake_Stream) (qn : Int) (r : Bool) : TV × Mem := (.v (.one (.d (.bool r))), ⟨[], [(0, [.d (.lst (List.map (encI .i64) qs.L)), .d (.int .i64 (IntKind.wrap .i64 (qs.at_ + 1)))])]⟩)

theorem fleetmake_Stream_Flip_ok {qs : fleetmake_Stream} {qn : Int} {r} (hF : fleetmake_Stream_Flip qs qn = some r) : Holds prog 6 [.v (.one (.box 0 0)), .v (.one (.d (.int .i64 qn)))] ⟨[], [(0, [.d (.lst (List.map (encI .i64) qs.L)), .d (.int .i64 qs.at_)])]⟩ (Is (fleetmake_Stream_Flip_R qs qn r)) := by
  unfold fleetmake_Stream_Flip at hF
  refine holds_of_awp hΓ (fn := f6) (c := cB f6) (A := 1) (nx := 1) (by kernel_rfl) (by kernel_rfl) (by kernel_rfl) (by kernel_rfl) (by kernel_rfl) (by kernel_rfl) (lowc_of (by kernel_rfl)) ?_
  show Awp prog 1 9 (cB f6) _ _
  refine awp_seq ?_
  refine awp_region ?_
  refine aR 1 ?_
  refine aE ?_
  refine awp_seq ?_
  refine bE hF fun vr3 h1 hF => ?_
  refine awp_region ?_
  refine aR 2 ?_
  refine aC (fleetmake_Stream_Next_ok h1) [] [] [] ?_
  refine aR 2 ?_
  refine aE ?_
  refine awp_ret ?_
  exact oF hF [] []

/-! ### (*beaconfleet/fleetmake.Stream).Samples$1 -/
def fleetmake_Stream_Samples_1_R (qa : api_Sample) (qb : api_Sample) (r : Bool) : TV × Mem := (.v (.one (.d (.bool r))), ⟨[], []⟩)

theorem fleetmake_Stream_Samples_1_ok {qa : api_Sample} {qb : api_Sample} {r} (hF : fleetmake_Stream_Samples_1 qa qb = some r) : Holds prog 30 [.v (.agg [.d (.str qa.Device), .d (.str qa.Metric), .d (.int .i64 qa.At), .d (.int .i64 qa.Value)]), .v (.agg [.d (.str qb.Device), .d (.str qb.Metric), .d (.int .i64 qb.At), .d (.int .i64 qb.Value)])] ⟨[], []⟩ (Is (fleetmake_Stream_Samples_1_R qa qb r)) := by
  unfold fleetmake_Stream_Samples_1 at hF
  refine holds_of_awp hΓ (fn := f30) (c := cB f30) (A := 0) (nx := 0) (by kernel_rfl) (by kernel_rfl) (by kernel_rfl) (by kernel_rfl) (by kernel_rfl) (by kernel_rfl) (lowc_of (by kernel_rfl)) ?_
  show Awp prog 0 9 (cB f30) _ _
  refine awp_seq ?_
  refine awp_region ?_
  refine aR 3 ?_
  refine aE ?_
  refine awp_seq ?_
  refine bE hF fun vr1 h1 hF => ?_
  refine awp_region ?_
  refine aR 2 ?_
  refine aC (fleetref2_SampleOrder_ok h1) [] [] [] ?_
  refine aR 2 ?_
  refine aE ?_
  refine awp_ret ?_
  exact oF hF [] []

/-! ### slices.CompactFunc[[]beaconfleet/api.Sample,beaconfleet/api.Sample] -/
def slices_CompactFunc_api_Sample_api_Sample_o0_f1_fleetmake_Stream_Samples_1_x3_k : ((List api_Sample) × Int) → AEx
  | _ => .normal

def slices_CompactFunc_api_Sample_api_Sample_o0_f1_fleetmake_Stream_Samples_1_x3_S (qx : List api_Sample) (vx : Int) (vl4 : List api_Sample) (vx6 : Int) (vx7 : Int) : ((List api_Sample) × Int) → St
  | (vl6, vx9) => Mem.st ⟨[(0, ⟨32, 4, List.map api_Sample.enc vl6⟩)], []⟩ (tl [(0, .v (.one (.own 0 none))), (1, .v (.one (.fn 30 []))), (5, .v (.one (.d (.int .i64 vx9)))), (6, .v (.one (.view 0 vx.toNat ((qx.length : Int).toNat - vx.toNat)))), (7, .v (.one (.d (.int .i64 vx7))))]) 1

def slices_CompactFunc_api_Sample_api_Sample_o0_f1_fleetmake_Stream_Samples_1_x3_I (qx : List api_Sample) (vx : Int) (vl4 : List api_Sample) (vx6 : Int) (vx7 : Int) : St := Mem.st ⟨[(0, ⟨32, 4, List.map api_Sample.enc vl4⟩)], []⟩ (tl [(0, .v (.one (.own 0 none))), (1, .v (.one (.fn 30 []))), (5, .v (.one (.d (.int .i64 vx6)))), (6, .v (.one (.view 0 vx.toNat ((qx.length : Int).toNat - vx.toNat)))), (7, .v (.one (.d (.int .i64 vx7))))]) 1

theorem slices_CompactFunc_api_Sample_api_Sample_o0_f1_fleetmake_Stream_Samples_1_x3_ok (qx : List api_Sample) (vx : Int) (vl4 : List api_Sample) (vx6 : Int) (vx7 : Int) {r} (hF : slices_CompactFunc_api_Sample_api_Sample_o0_f1_fleetmake_Stream_Samples_1_x3 qx vx vl4 vx6 vx7 = some r) : Awp prog 1 66 (cL (cR (cL (cL (cR (cL (cR (cL (cR (cL (cL (cR (cL (cL (cR (cL (cR (cR (cB f29))))))))))))))))))) (Out 1 slices_CompactFunc_api_Sample_api_Sample_o0_f1_fleetmake_Stream_Samples_1_x3_k (slices_CompactFunc_api_Sample_api_Sample_o0_f1_fleetmake_Stream_Samples_1_x3_S qx vx vl4 vx6 vx7) r) (slices_CompactFunc_api_Sample_api_Sample_o0_f1_fleetmake_Stream_Samples_1_x3_I qx vx vl4 vx6 vx7) := by
  unfold slices_CompactFunc_api_Sample_api_Sample_o0_f1_fleetmake_Stream_Samples_1_x3 at hF
  refine awp_block ?_
  refine awp_seq ?_
  refine gE hF fun h9 hF => ?_
  refine bE hF fun vy13 h10 hF => ?_
  refine gE hF fun h11 hF => ?_
  refine bE hF fun vy14 h12 hF => ?_
  refine bE hF fun vr5 h13 hF => ?_
  refine aD ?_
  refine dR 3 ?_
  refine dX (x_idxV api_Sample.enc 0 h9 h10) ?_
  refine dX (x_ldE api_Sample.enc h10) ?_
  refine dR 3 ?_
  refine dX (x_idxV api_Sample.enc 0 h11 h12) ?_
  refine dX (x_ldE api_Sample.enc h12) ?_
  refine dC (fleetmake_Stream_Samples_1_ok h13) [] [] [] ?_
  refine dR 1 ?_
  refine dE ?_
  refine cE hF (fun h14 hF => ?_) fun h14 hF => ?_
  · refine awp_true (by kernel_rfl) h14 ?_
    refine awp_seq ?_
    refine bE hF fun vy15 h15 hF => ?_
    refine awp_region ?_
    refine aR 4 ?_
    refine aX (x_idxV api_Sample.enc 0 h9 h10) ?_
    refine aX (x_ldE api_Sample.enc h10) ?_
    refine aX (x_idxO api_Sample.enc 0 h15) ?_
    refine aX (x_stE api_Sample.enc vy13 h15) ?_
    refine aE ?_
    refine awp_region ?_
    refine aR 3 ?_
    refine aE ?_
    exact oO hF [] [] rfl
  · refine awp_false (by kernel_rfl) h14 ?_
    refine awp_skip ?_
    exact oO hF [] [] rfl

def slices_CompactFunc_api_Sample_api_Sample_o0_f1_fleetmake_Stream_Samples_1_x2_k : ((List api_Sample) × Int) → AEx
  | _ => .exit 2

def slices_CompactFunc_api_Sample_api_Sample_o0_f1_fleetmake_Stream_Samples_1_x2_S (qx : List api_Sample) (vx : Int) : ((List api_Sample) × Int) → St
  | (vl7, vx10) => Mem.st ⟨[(0, ⟨32, 4, List.map api_Sample.enc vl7⟩)], []⟩ (tl [(0, .v (.one (.own 0 none))), (5, .v (.one (.d (.int .i64 vx10))))]) 1

def slices_CompactFunc_api_Sample_api_Sample_o0_f1_fleetmake_Stream_Samples_1_x2_H (qx : List api_Sample) (vx : Int) : (List api_Sample) × Int × Int → St
  | (vl4, vx6, vx7) => Mem.st ⟨[(0, ⟨32, 4, List.map api_Sample.enc vl4⟩)], []⟩ (tl [(0, .v (.one (.own 0 none))), (1, .v (.one (.fn 30 []))), (5, .v (.one (.d (.int .i64 vx6)))), (6, .v (.one (.view 0 vx.toNat ((qx.length : Int).toNat - vx.toNat)))), (7, .v (.one (.d (.int .i64 vx7))))]) 1

theorem slices_CompactFunc_api_Sample_api_Sample_o0_f1_fleetmake_Stream_Samples_1_x2_ok (qx : List api_Sample) (vx : Int) (s : (List api_Sample) × Int × Int) (r : ((List api_Sample) × Int × Int) ⊕ (((List api_Sample) × Int))) (hF : slices_CompactFunc_api_Sample_api_Sample_o0_f1_fleetmake_Stream_Samples_1_x2 qx vx s = some r) : Awp prog 1 66 (cL (cL (cR (cL (cR (cL (cR (cL (cL (cR (cL (cL (cR (cL (cR (cR (cB f29))))))))))))))))) (Out 1 (kk slices_CompactFunc_api_Sample_api_Sample_o0_f1_fleetmake_Stream_Samples_1_x2_k) (SS (slices_CompactFunc_api_Sample_api_Sample_o0_f1_fleetmake_Stream_Samples_1_x2_H qx vx) (slices_CompactFunc_api_Sample_api_Sample_o0_f1_fleetmake_Stream_Samples_1_x2_S qx vx)) r) (slices_CompactFunc_api_Sample_api_Sample_o0_f1_fleetmake_Stream_Samples_1_x2_H qx vx s) := by
  obtain ⟨vl4, vx6, vx7⟩ := s
  unfold slices_CompactFunc_api_Sample_api_Sample_o0_f1_fleetmake_Stream_Samples_1_x2 at hF
  refine awp_seq ?_
  refine awp_seq ?_
  refine awp_region ?_
  refine aR 4 ?_
  refine aE ?_
  refine cE hF (fun h8 hF => ?_) fun h8 hF => ?_
  · refine awp_true (by kernel_rfl) h8 ?_
    refine awp_skip ?_
    refine awp_seq ?_
    refine awp_to (st' := slices_CompactFunc_api_Sample_api_Sample_o0_f1_fleetmake_Stream_Samples_1_x3_I qx vx vl4 vx6 vx7) (oT [] []) ?_
    refine bE hF fun x h16 hF => ?_
    obtain ⟨vl6_1, vx9_1⟩ := x
    refine awp_sub (slices_CompactFunc_api_Sample_api_Sample_o0_f1_fleetmake_Stream_Samples_1_x3_ok qx vx vl4 vx6 vx7 h16) ?_
    refine awp_region ?_
    refine aR 3 ?_
    refine aE ?_
    exact oO hF [] [] rfl
  · refine awp_false (by kernel_rfl) h8 ?_
    refine awp_exit ?_
    exact oO hF [] [] rfl

def slices_CompactFunc_api_Sample_api_Sample_o0_f1_fleetmake_Stream_Samples_1_x1_k : Unit ⊕ (List api_Sample) → AEx
  | .inl _ => .exit 0
  | .inr _ => .ret

def slices_CompactFunc_api_Sample_api_Sample_o0_f1_fleetmake_Stream_Samples_1_x1_S (qx : List api_Sample) : Unit ⊕ (List api_Sample) → St
  | .inl _ => Mem.st ⟨[(0, ⟨32, 4, List.map api_Sample.enc qx⟩)], []⟩ (tl [(0, .v (.one (.own 0 none)))]) 1
  | .inr vx11 => Mem.st ⟨[(1, ⟨32, 4, List.map api_Sample.enc vx11⟩)], []⟩ (tl [(4, .v (.one (.own 1 none)))]) 2

def slices_CompactFunc_api_Sample_api_Sample_o0_f1_fleetmake_Stream_Samples_1_x1_H (qx : List api_Sample) : Int → St
  | vx => Mem.st ⟨[(0, ⟨32, 4, List.map api_Sample.enc qx⟩)], []⟩ (tl [(0, .v (.one (.own 0 none))), (1, .v (.one (.fn 30 []))), (5, .v (.one (.d (.int .i64 vx))))]) 1

theorem slices_CompactFunc_api_Sample_api_Sample_o0_f1_fleetmake_Stream_Samples_1_x1_ok (qx : List api_Sample) (vx : Int) (r : (Int) ⊕ (Unit ⊕ (List api_Sample))) (hF : slices_CompactFunc_api_Sample_api_Sample_o0_f1_fleetmake_Stream_Samples_1_x1 qx vx = some r) : Awp prog 1 66 (cL (cL (cR (cL (cR (cR (cB f29))))))) (Out 1 (kk slices_CompactFunc_api_Sample_api_Sample_o0_f1_fleetmake_Stream_Samples_1_x1_k) (SS (slices_CompactFunc_api_Sample_api_Sample_o0_f1_fleetmake_Stream_Samples_1_x1_H qx) (slices_CompactFunc_api_Sample_api_Sample_o0_f1_fleetmake_Stream_Samples_1_x1_S qx)) r) (slices_CompactFunc_api_Sample_api_Sample_o0_f1_fleetmake_Stream_Samples_1_x1_H qx vx) := by
  unfold slices_CompactFunc_api_Sample_api_Sample_o0_f1_fleetmake_Stream_Samples_1_x1 at hF
  refine awp_seq ?_
  refine awp_seq ?_
  refine awp_region ?_
  refine aR 2 ?_
  refine aL api_Sample.enc qx ?_
  refine aR 1 ?_
  refine aE ?_
  refine cE hF (fun h2 hF => ?_) fun h2 hF => ?_
  · refine awp_true (by kernel_rfl) h2 ?_
    refine awp_skip ?_
    refine awp_seq ?_
    refine awp_block ?_
    refine awp_seq ?_
    refine bE hF fun vy8 h3 hF => ?_
    refine bE hF fun vy9 h4 hF => ?_
    refine bE hF fun vr3 h5 hF => ?_
    refine aD ?_
    refine dR 3 ?_
    refine dX (x_idxO api_Sample.enc 0 h3) ?_
    refine dX (x_ldE api_Sample.enc h3) ?_
    refine dR 3 ?_
    refine dX (x_idxO api_Sample.enc 0 h4) ?_
    refine dX (x_ldE api_Sample.enc h4) ?_
    refine dC (fleetmake_Stream_Samples_1_ok h5) [] [] [] ?_
    refine dE ?_
    refine cE hF (fun h6 hF => ?_) fun h6 hF => ?_
    · refine awp_true (by kernel_rfl) h6 ?_
      refine awp_seq ?_
      refine gE hF fun h7 hF => ?_
      refine awp_region ?_
      refine aR 2 ?_
      refine aX (x_viewN api_Sample.enc 0 h7) ?_
      refine aR 1 ?_
      refine aE ?_
      refine awp_seq ?_
      refine awp_seq ?_
      refine awp_region ?_
      refine aR 1 ?_
      refine aE ?_
      refine awp_block ?_
      refine awp_to (st' := slices_CompactFunc_api_Sample_api_Sample_o0_f1_fleetmake_Stream_Samples_1_x2_H qx vx (qx, vx, 1)) (oT [] []) ?_
      refine bE hF fun x h17 hF => ?_
      obtain ⟨vl7_1, vx10_1⟩ := x
      refine awp_sub (awp_loop' (slices_CompactFunc_api_Sample_api_Sample_o0_f1_fleetmake_Stream_Samples_1_x2_H qx vx) slices_CompactFunc_api_Sample_api_Sample_o0_f1_fleetmake_Stream_Samples_1_x2_k (slices_CompactFunc_api_Sample_api_Sample_o0_f1_fleetmake_Stream_Samples_1_x2_S qx vx) (by intro x; exact fun h => nomatch h) h17 (slices_CompactFunc_api_Sample_api_Sample_o0_f1_fleetmake_Stream_Samples_1_x2_ok qx vx)) ?_
      refine awp_seq ?_
      refine gE hF fun h18 hF => ?_
      refine awp_region ?_
      refine aR 2 ?_
      refine aX (x_viewN api_Sample.enc 0 h18) ?_
      refine aCl api_Sample.enc 0 (xs := vl7_1) (y := api_Sample.mk ([] : List UInt8) ([] : List UInt8) 0 0) (lo := vx10_1) (hi := (vl7_1.length : Int)) rfl ?_
      refine aE ?_
      refine awp_seq ?_
      refine gE hF fun h19 hF => ?_
      refine awp_region ?_
      refine aR 2 ?_
      refine aT api_Sample.enc 0 h19 rfl ?_
      refine aR 1 ?_
      refine aE ?_
      refine awp_ret ?_
      exact oO hF [(1, 6001)] [] rfl
    · refine awp_false (by kernel_rfl) h6 ?_
      refine awp_skip ?_
      refine awp_region ?_
      refine aR 3 ?_
      refine aE ?_
      exact oO hF [] [] rfl
  · refine awp_false (by kernel_rfl) h2 ?_
    refine awp_exit ?_
    exact oO hF [] [] rfl

def slices_CompactFunc_api_Sample_api_Sample_o0_f1_fleetmake_Stream_Samples_1_R (qx : List api_Sample) (r : (List api_Sample)) : TV × Mem := (.v (.one (.own 1 none)), ⟨[(1, ⟨32, 4, List.map api_Sample.enc r⟩)], []⟩)

theorem slices_CompactFunc_api_Sample_api_Sample_o0_f1_fleetmake_Stream_Samples_1_ok {qx : List api_Sample} {r} (hF : slices_CompactFunc_api_Sample_api_Sample_o0_f1_fleetmake_Stream_Samples_1 qx = some r) : Holds prog 29 [.v (.one (.own 0 none)), .v (.one (.fn 30 []))] ⟨[(0, ⟨32, 4, List.map api_Sample.enc qx⟩)], []⟩ (Is (slices_CompactFunc_api_Sample_api_Sample_o0_f1_fleetmake_Stream_Samples_1_R qx r)) := by
  unfold slices_CompactFunc_api_Sample_api_Sample_o0_f1_fleetmake_Stream_Samples_1 at hF
  refine holds_of_awp hΓ (fn := f29) (c := cB f29) (A := 1) (nx := 1) (by kernel_rfl) (by kernel_rfl) (by kernel_rfl) (by kernel_rfl) (by kernel_rfl) (by kernel_rfl) (lowc_of (by kernel_rfl)) ?_
  show Awp prog 1 66 (cB f29) _ _
  refine awp_seq ?_
  refine awp_region ?_
  refine aR 1 ?_
  refine aE ?_
  refine awp_seq ?_
  refine awp_seq ?_
  refine awp_region ?_
  refine aR 1 ?_
  refine aL api_Sample.enc qx ?_
  refine aR 1 ?_
  refine aE ?_
  refine cE hF (fun h1 hF => ?_) fun h1 hF => ?_
  · refine awp_true (by kernel_rfl) h1 ?_
    refine awp_seq ?_
    refine awp_region ?_
    refine aR 2 ?_
    refine aE ?_
    refine awp_ret ?_
    exact oF hF [(1, 0)] []
  · refine awp_false (by kernel_rfl) h1 ?_
    refine awp_skip ?_
    refine awp_seq ?_
    refine awp_seq ?_
    refine awp_region ?_
    refine aR 1 ?_
    refine aE ?_
    refine awp_block ?_
    refine awp_to (st' := slices_CompactFunc_api_Sample_api_Sample_o0_f1_fleetmake_Stream_Samples_1_x1_H qx 1) (oT [] []) ?_
    refine bE hF fun x h20 hF => ?_
    rcases x with _ | vx11_1
    · refine awp_sub (awp_loop' (slices_CompactFunc_api_Sample_api_Sample_o0_f1_fleetmake_Stream_Samples_1_x1_H qx) slices_CompactFunc_api_Sample_api_Sample_o0_f1_fleetmake_Stream_Samples_1_x1_k (slices_CompactFunc_api_Sample_api_Sample_o0_f1_fleetmake_Stream_Samples_1_x1_S qx) (by intro x; rcases x with x | x <;> exact fun h => nomatch h) h20 (slices_CompactFunc_api_Sample_api_Sample_o0_f1_fleetmake_Stream_Samples_1_x1_ok qx)) ?_
      refine awp_seq ?_
      refine awp_region ?_
      refine aR 2 ?_
      refine aE ?_
      refine awp_ret ?_
      exact oF hF [(1, 0)] []
    · refine awp_sub (awp_loop' (slices_CompactFunc_api_Sample_api_Sample_o0_f1_fleetmake_Stream_Samples_1_x1_H qx) slices_CompactFunc_api_Sample_api_Sample_o0_f1_fleetmake_Stream_Samples_1_x1_k (slices_CompactFunc_api_Sample_api_Sample_o0_f1_fleetmake_Stream_Samples_1_x1_S qx) (by intro x; rcases x with x | x <;> exact fun h => nomatch h) h20 (slices_CompactFunc_api_Sample_api_Sample_o0_f1_fleetmake_Stream_Samples_1_x1_ok qx)) ?_
      exact oF hF [] []

/-! ### (*beaconfleet/fleetmake.Stream).Odd -/
def fleetmake_Stream_Odd_R (qs : fleetmake_Stream) (qlow : Int) (qhigh : Int) (r : fleetmake_Stream × Int) : TV × Mem := (.v (.one (.d (.int .i64 r.2))), ⟨[], [(0, [.d (.lst (List.map (encI .i64) r.1.L)), .d (.int .i64 r.1.at_)])]⟩)

theorem fleetmake_Stream_Odd_ok {qs : fleetmake_Stream} {qlow : Int} {qhigh : Int} {r} (hF : fleetmake_Stream_Odd qs qlow qhigh = some r) : Holds prog 31 [.v (.one (.box 0 0)), .v (.one (.d (.int .i64 qlow))), .v (.one (.d (.int .i64 qhigh)))] ⟨[], [(0, [.d (.lst (List.map (encI .i64) qs.L)), .d (.int .i64 qs.at_)])]⟩ (Is (fleetmake_Stream_Odd_R qs qlow qhigh r)) := by
  unfold fleetmake_Stream_Odd at hF
  refine holds_of_awp hΓ (fn := f31) (c := cB f31) (A := 1) (nx := 1) (by kernel_rfl) (by kernel_rfl) (by kernel_rfl) (by kernel_rfl) (by kernel_rfl) (by kernel_rfl) (lowc_of (by kernel_rfl)) ?_
  show Awp prog 1 22 (cB f31) _ _
  refine awp_seq ?_
  refine awp_region ?_
  refine aR 1 ?_
  refine aE ?_
  refine awp_seq ?_
  refine awp_seq ?_
  refine bE hF fun vr h1 hF => ?_
  refine awp_region ?_
  refine aR 1 ?_
  refine aC (fleetmake_Stream_Flip_ok h1) [] [] [] ?_
  refine aE ?_
  refine cE hF (fun h2 hF => ?_) fun h2 hF => ?_
  · refine awp_true (by kernel_rfl) h2 ?_
    refine awp_seq ?_
    refine bE hF fun vr1 h3 hF => ?_
    refine awp_region ?_
    refine aR 8 ?_
    refine aC (fleetmake_Stream_Pick_o1_ok h3) [(1, 10001)] [] [] ?_
    refine aR 1 ?_
    refine aE ?_
    refine awp_ret ?_
    exact oF hF [] []
  · refine awp_false (by kernel_rfl) h2 ?_
    refine awp_skip ?_
    refine awp_seq ?_
    refine bE hF fun x h4 hF => ?_
    obtain ⟨vs, vr2⟩ := x
    refine awp_region ?_
    refine aR 3 ?_
    refine aC (fleetmake_Stream_Range_ok h4) [] [] [] ?_
    refine aR 1 ?_
    refine aE ?_
    refine awp_ret ?_
    exact oF hF [] []

/-! ### (*beaconfleet/fleetmake.Stream).Samples -/
def fleetmake_Stream_Samples_x1_k : (fleetmake_Stream × (List api_Sample)) → AEx
  | _ => .exit 0

def fleetmake_Stream_Samples_x1_S (qx1 : Int) : (fleetmake_Stream × (List api_Sample)) → St
  | (vs1, vx2) => Mem.st ⟨[(1, ⟨32, 4, List.map api_Sample.enc vx2⟩)], [(0, [.d (.lst (List.map (encI .i64) vs1.L)), .d (.int .i64 vs1.at_)])]⟩ (tl [(0, .v (.one (.box 0 0))), (5, .v (.one (.own 1 none)))]) 2

def fleetmake_Stream_Samples_x1_H (qx1 : Int) : fleetmake_Stream × (List api_Sample) × Int → St
  | (vs, vx, vx1) => Mem.st ⟨[(1, ⟨32, 4, List.map api_Sample.enc vx⟩)], [(0, [.d (.lst (List.map (encI .i64) vs.L)), .d (.int .i64 vs.at_)])]⟩ (tl [(0, .v (.one (.box 0 0))), (5, .v (.one (.own 1 none))), (7, .v (.one (.d (.int .i64 qx1)))), (8, .v (.one (.d (.int .i64 vx1))))]) 2

theorem fleetmake_Stream_Samples_x1_ok (qx1 : Int) (s : fleetmake_Stream × (List api_Sample) × Int) (r : (fleetmake_Stream × (List api_Sample) × Int) ⊕ ((fleetmake_Stream × (List api_Sample)))) (hF : fleetmake_Stream_Samples_x1 qx1 s = some r) : Awp prog 1 68 (cL (cL (cR (cL (cR (cR (cB f4))))))) (Out 1 (kk fleetmake_Stream_Samples_x1_k) (SS (fleetmake_Stream_Samples_x1_H qx1) (fleetmake_Stream_Samples_x1_S qx1)) r) (fleetmake_Stream_Samples_x1_H qx1 s) := by
  obtain ⟨vs, vx, vx1⟩ := s
  unfold fleetmake_Stream_Samples_x1 at hF
  refine awp_seq ?_
  refine awp_region ?_
  refine aR 1 ?_
  refine aE ?_
  refine awp_seq ?_
  refine cE hF (fun h1 hF => ?_) fun h1 hF => ?_
  · refine awp_true (by kernel_rfl) h1 ?_
    refine awp_skip ?_
    refine awp_seq ?_
    refine awp_block ?_
    refine bE hF fun vr4 h2 hF => ?_
    refine bE hF fun vr5 h3 hF => ?_
    refine bE hF fun vr6 h4 hF => ?_
    refine bE hF fun vr7 h5 hF => ?_
    refine gE hF fun h6 hF => ?_
    refine awp_region ?_
    refine aR 3 ?_
    refine aC (fleetmake_Stream_Some_o1_ok h2) [(1, 3002)] [] [] ?_
    refine aR 2 ?_
    refine aC (fleetmake_Stream_Some_o1_ok h3) [(1, 6002)] [] [] ?_
    refine aR 2 ?_
    refine aC (fleetmake_Stream_Pick_o1_ok h4) [(1, 9002)] [] [] ?_
    refine aR 2 ?_
    refine aC (fleetmake_Stream_Pick_o1_ok h5) [(1, 12002)] [] [] ?_
    refine aR 2 ?_
    refine aX (x_app api_Sample.enc 1 h6) ?_
    refine aR 1 ?_
    refine aE ?_
    refine awp_region ?_
    refine aR 2 ?_
    refine aE ?_
    exact oO hF [(1, 16002)] [] rfl
  · refine awp_false (by kernel_rfl) h1 ?_
    refine awp_exit ?_
    exact oO hF [] [] rfl

def fleetmake_Stream_Samples_x2_k : (List api_Sample) → AEx
  | _ => .normal

def fleetmake_Stream_Samples_x2_S (vs1_1 : fleetmake_Stream) (vl : List api_Sample) : (List api_Sample) → St
  | vx3 => Mem.st ⟨[(1, ⟨32, 4, List.map api_Sample.enc vx3⟩)], [(0, [.d (.lst (List.map (encI .i64) vs1_1.L)), .d (.int .i64 (IntKind.wrap .i64 (vs1_1.at_ + 1)))])]⟩ (tl [(0, .v (.one (.box 0 0))), (5, .v (.one (.own 1 none)))]) 2

def fleetmake_Stream_Samples_x2_I (vs1_1 : fleetmake_Stream) (vl : List api_Sample) : St := Mem.st ⟨[(1, ⟨32, 4, List.map api_Sample.enc vl⟩)], [(0, [.d (.lst (List.map (encI .i64) vs1_1.L)), .d (.int .i64 vs1_1.at_)])]⟩ (tl [(0, .v (.one (.box 0 0))), (5, .v (.one (.own 1 none)))]) 2

theorem fleetmake_Stream_Samples_x2_ok (vs1_1 : fleetmake_Stream) (vl : List api_Sample) {r} (hF : fleetmake_Stream_Samples_x2 vs1_1 vl = some r) : Awp prog 1 68 (cL (cR (cR (cR (cR (cB f4)))))) (Out 1 fleetmake_Stream_Samples_x2_k (fleetmake_Stream_Samples_x2_S vs1_1 vl) r) (fleetmake_Stream_Samples_x2_I vs1_1 vl) := by
  unfold fleetmake_Stream_Samples_x2 at hF
  refine awp_seq ?_
  refine bE hF fun vr8 h10 hF => ?_
  refine awp_region ?_
  refine aR 1 ?_
  refine aC (fleetmake_Stream_Flip_ok h10) [] [] [] ?_
  refine aR 1 ?_
  refine aE ?_
  refine cE hF (fun h11 hF => ?_) fun h11 hF => ?_
  · refine awp_true (by kernel_rfl) h11 ?_
    refine bE hF fun vr6_1 h12 hF => ?_
    refine awp_region ?_
    refine aR 1 ?_
    refine aC (slices_CompactFunc_api_Sample_api_Sample_o0_f1_fleetmake_Stream_Samples_1_ok h12) [(0, 1)] [] [] ?_
    refine aR 1 ?_
    refine aE ?_
    exact oO hF [(1, 4003)] [] rfl
  · refine awp_false (by kernel_rfl) h11 ?_
    refine awp_skip ?_
    exact oO hF [] [] rfl

def fleetmake_Stream_Samples_x4_k : (fleetmake_Stream × Bool) → AEx
  | _ => .normal

def fleetmake_Stream_Samples_x4_S (vs1_1 : fleetmake_Stream) (vx3_1 : List api_Sample) : (fleetmake_Stream × Bool) → St
  | (vs2, vx4) => Mem.st ⟨[(1, ⟨32, 4, List.map api_Sample.enc vx3_1⟩)], [(0, [.d (.lst (List.map (encI .i64) vs2.L)), .d (.int .i64 vs2.at_)])]⟩ (tl [(0, .v (.one (.box 0 0))), (5, .v (.one (.own 1 none))), (40, .v (.one (.d (.bool vx4))))]) 2

def fleetmake_Stream_Samples_x4_I (vs1_1 : fleetmake_Stream) (vx3_1 : List api_Sample) : St := Mem.st ⟨[(1, ⟨32, 4, List.map api_Sample.enc vx3_1⟩)], [(0, [.d (.lst (List.map (encI .i64) vs1_1.L)), .d (.int .i64 (IntKind.wrap .i64 (vs1_1.at_ + 1)))])]⟩ (tl [(0, .v (.one (.box 0 0))), (5, .v (.one (.own 1 none)))]) 2

theorem fleetmake_Stream_Samples_x4_ok (vs1_1 : fleetmake_Stream) (vx3_1 : List api_Sample) {r} (hF : fleetmake_Stream_Samples_x4 vs1_1 vx3_1 = some r) : Awp prog 1 68 (cL (cL (cR (cR (cR (cR (cR (cB f4)))))))) (Out 1 fleetmake_Stream_Samples_x4_k (fleetmake_Stream_Samples_x4_S vs1_1 vx3_1) r) (fleetmake_Stream_Samples_x4_I vs1_1 vx3_1) := by
  unfold fleetmake_Stream_Samples_x4 at hF
  refine cE hF (fun h14 hF => ?_) fun h14 hF => ?_
  · refine bE hF fun vr9 h15 hF => ?_
    refine awp_region ?_
    refine aR 1 ?_
    refine aL api_Sample.enc vx3_1 ?_
    refine aB h14 ?_
    refine aR 2 ?_
    refine aC (fleetmake_Stream_Flip_ok h15) [] [] [] ?_
    refine aR 1 ?_
    refine aE ?_
    exact oO hF [] [] rfl
  · refine awp_region ?_
    refine aR 1 ?_
    refine aL api_Sample.enc vx3_1 ?_
    refine aB h14 ?_
    refine aR 4 ?_
    refine aE ?_
    exact oO hF [] [] rfl

def fleetmake_Stream_Samples_x3_k : (fleetmake_Stream × (List api_Sample)) → AEx
  | _ => .normal

def fleetmake_Stream_Samples_x3_S (vs1_1 : fleetmake_Stream) (vx3_1 : List api_Sample) : (fleetmake_Stream × (List api_Sample)) → St
  | (vs3, vx5) => Mem.st ⟨[(1, ⟨32, 4, List.map api_Sample.enc vx5⟩)], [(0, [.d (.lst (List.map (encI .i64) vs3.L)), .d (.int .i64 vs3.at_)])]⟩ (tl [(5, .v (.one (.own 1 none)))]) 2

def fleetmake_Stream_Samples_x3_I (vs1_1 : fleetmake_Stream) (vx3_1 : List api_Sample) : St := Mem.st ⟨[(1, ⟨32, 4, List.map api_Sample.enc vx3_1⟩)], [(0, [.d (.lst (List.map (encI .i64) vs1_1.L)), .d (.int .i64 (IntKind.wrap .i64 (vs1_1.at_ + 1)))])]⟩ (tl [(0, .v (.one (.box 0 0))), (5, .v (.one (.own 1 none)))]) 2

theorem fleetmake_Stream_Samples_x3_ok (vs1_1 : fleetmake_Stream) (vx3_1 : List api_Sample) {r} (hF : fleetmake_Stream_Samples_x3 vs1_1 vx3_1 = some r) : Awp prog 1 68 (cL (cR (cR (cR (cR (cR (cB f4))))))) (Out 1 fleetmake_Stream_Samples_x3_k (fleetmake_Stream_Samples_x3_S vs1_1 vx3_1) r) (fleetmake_Stream_Samples_x3_I vs1_1 vx3_1) := by
  unfold fleetmake_Stream_Samples_x3 at hF
  refine awp_seq ?_
  refine awp_to (st' := fleetmake_Stream_Samples_x4_I vs1_1 vx3_1) (oT [] []) ?_
  refine bE hF fun x h16 hF => ?_
  obtain ⟨vs2_1, vx4_1⟩ := x
  refine awp_sub (fleetmake_Stream_Samples_x4_ok vs1_1 vx3_1 h16) ?_
  refine cE hF (fun h17 hF => ?_) fun h17 hF => ?_
  · refine awp_true (by kernel_rfl) h17 ?_
    refine awp_seq ?_
    refine bE hF fun vr3_1 h18 hF => ?_
    refine bE hF fun vy h19 hF => ?_
    refine awp_region ?_
    refine aR 3 ?_
    refine aL api_Sample.enc vx3_1 ?_
    refine aC (fleetmake_Stream_Next_ok h18) [] [] [] ?_
    refine aX (x_idxO api_Sample.enc 1 h19) ?_
    refine aR 1 ?_
    refine aE ?_
    refine bE hF fun vr10 h20 hF => ?_
    refine bE hF fun x h21 hF => ?_
    obtain ⟨vs1_2, vr3_2⟩ := x
    refine bE hF fun x h22 hF => ?_
    obtain ⟨vs1_3, vr3_3⟩ := x
    refine awp_region ?_
    refine aR 7 ?_
    refine aX (x_ldE api_Sample.enc h19) ?_
    refine aR 1 ?_
    refine aC (fleetmake_Stream_Some_o1_ok h20) [(1, 15002)] [] [] ?_
    refine aR 1 ?_
    refine aC (fleetmake_Stream_Odd_ok h21) [] [] [] ?_
    refine aR 1 ?_
    refine aC (fleetmake_Stream_Odd_ok h22) [] [] [] ?_
    refine aR 2 ?_
    refine aX (x_stE api_Sample.enc (api_Sample.mk vr10 vy.Metric vy.At vy.Value) h19) ?_
    refine aR 2 ?_
    refine aX (x_stE api_Sample.enc (api_Sample.mk vr10 vy.Metric vr3_2 vy.Value) (at_set (z := (api_Sample.mk vr10 vy.Metric vy.At vy.Value)) h19)) ?_
    refine aR 2 ?_
    refine aX (x_stE api_Sample.enc (api_Sample.mk vr10 vy.Metric vr3_2 vr3_3) (at_set (z := (api_Sample.mk vr10 vy.Metric vr3_2 vy.Value)) (at_set (z := (api_Sample.mk vr10 vy.Metric vy.At vy.Value)) h19))) ?_
    refine aE ?_
    exact oO hF [] [] rfl
  · refine awp_false (by kernel_rfl) h17 ?_
    refine awp_skip ?_
    exact oO hF [] [] rfl

def fleetmake_Stream_Samples_R (qx : fleetmake_Stream) (qx1 : Int) (r : fleetmake_Stream × (List api_Sample)) : TV × Mem := (.v (.one (.own 1 none)), ⟨[(1, ⟨32, 4, List.map api_Sample.enc r.2⟩)], [(0, [.d (.lst (List.map (encI .i64) r.1.L)), .d (.int .i64 r.1.at_)])]⟩)

theorem fleetmake_Stream_Samples_ok {qx : fleetmake_Stream} {qx1 : Int} {r} (hF : fleetmake_Stream_Samples qx qx1 = some r) : Holds prog 4 [.v (.one (.box 0 0)), .v (.one (.d (.int .i64 qx1)))] ⟨[], [(0, [.d (.lst (List.map (encI .i64) qx.L)), .d (.int .i64 qx.at_)])]⟩ (Is (fleetmake_Stream_Samples_R qx qx1 r)) := by
  unfold fleetmake_Stream_Samples at hF
  refine holds_of_awp hΓ (fn := f4) (c := cB f4) (A := 1) (nx := 1) (by kernel_rfl) (by kernel_rfl) (by kernel_rfl) (by kernel_rfl) (by kernel_rfl) (by kernel_rfl) (lowc_of (by kernel_rfl)) ?_
  show Awp prog 1 68 (cB f4) _ _
  refine awp_seq ?_
  refine awp_region ?_
  refine aR 1 ?_
  refine aE ?_
  refine awp_seq ?_
  refine awp_region ?_
  refine aR 1 ?_
  refine aE ?_
  refine awp_seq ?_
  refine awp_seq ?_
  refine awp_region ?_
  refine aR 2 ?_
  refine aE ?_
  refine awp_block ?_
  refine awp_to (st' := fleetmake_Stream_Samples_x1_H qx1 (qx, [], 0)) (oT [] [1]) ?_
  refine bE hF fun x h7 hF => ?_
  obtain ⟨vs1_1, vx2_1⟩ := x
  refine awp_sub (awp_loop' (fleetmake_Stream_Samples_x1_H qx1) fleetmake_Stream_Samples_x1_k (fleetmake_Stream_Samples_x1_S qx1) (by intro x; exact fun h => nomatch h) h7 (fleetmake_Stream_Samples_x1_ok qx1)) ?_
  refine awp_seq ?_
  refine bE hF fun vl h8 hF => ?_
  refine gE hF fun h9 hF => ?_
  refine awp_region ?_
  refine aR 1 ?_
  refine aCp (slices_SortStableFunc_api_Sample_api_Sample_o0_f1_fleetref2_SampleOrder_ok h8) ⟨⟨rfl, rfl, pin1 h9⟩, trivial⟩ [(0, 1)] [] [] ?_
  refine aE ?_
  refine awp_seq ?_
  refine awp_to (st' := fleetmake_Stream_Samples_x2_I vs1_1 vl) (oT [] []) ?_
  refine bE hF fun vx3_1 h13 hF => ?_
  refine awp_sub (fleetmake_Stream_Samples_x2_ok vs1_1 vl h13) ?_
  refine awp_seq ?_
  refine awp_to (st' := fleetmake_Stream_Samples_x3_I vs1_1 vx3_1) (oT [] []) ?_
  refine bE hF fun x h23 hF => ?_
  obtain ⟨vs3_1, vx5_1⟩ := x
  refine awp_sub (fleetmake_Stream_Samples_x3_ok vs1_1 vx3_1 h23) ?_
  refine awp_seq ?_
  refine awp_region ?_
  refine aR 2 ?_
  refine aE ?_
  refine awp_ret ?_
  exact oF hF [] []

/-! ### slices.Clone[[]beaconfleet/api.Sample,beaconfleet/api.Sample] -/
def slices_Clone_api_Sample_api_Sample_R (qs : List api_Sample) (r : List api_Sample) : TV × Mem := (.v (.one (.own 0 none)), ⟨[(0, ⟨32, 4, List.map api_Sample.enc r⟩)], []⟩)

theorem slices_Clone_api_Sample_api_Sample_ok {qs : List api_Sample} {r} (hF : slices_Clone_api_Sample_api_Sample qs = some r) : Holds prog 7 [.v (.one (.d (.lst (List.map api_Sample.enc qs))))] ⟨[], []⟩ (Is (slices_Clone_api_Sample_api_Sample_R qs r)) := by
  unfold slices_Clone_api_Sample_api_Sample at hF
  refine gE hF fun h1 hF => ?_
  refine holds_of_awp hΓ (fn := f7) (c := cB f7) (A := 0) (nx := 0) (by kernel_rfl) (by kernel_rfl) (by kernel_rfl) (by kernel_rfl) (by kernel_rfl) (by kernel_rfl) (lowc_of (by kernel_rfl)) ?_
  show Awp prog 0 8 (cB f7) _ _
  refine awp_seq ?_
  refine awp_region ?_
  refine aR 1 ?_
  refine aE ?_
  refine awp_seq ?_
  refine awp_seq ?_
  refine awp_region ?_
  refine aR 1 ?_
  refine aN api_Sample.enc qs (fun b hb => ?_) rfl
  refine aE ?_
  cases b with
  | true =>
    obtain rfl := hb rfl
    refine awp_true (by kernel_rfl) rfl ?_
    refine awp_seq ?_
    refine awp_region ?_
    refine aR 1 ?_
    refine aE ?_
    refine awp_ret ?_
    exact oF hF [] [0]
  | false =>
    refine awp_false (by kernel_rfl) rfl ?_
    refine awp_skip ?_
    refine awp_seq ?_
    refine awp_region ?_
    refine aR 2 ?_
    refine aX (x_app api_Sample.enc 3000 h1) ?_
    refine aR 1 ?_
    refine aE ?_
    refine awp_ret ?_
    exact oF hF [(0, 5000)] []

/-! ### (*beaconfleet/fleetmake.Stream).Frame -/
def fleetmake_Stream_Frame_x2_k : (fleetmake_Stream × Bool) → AEx
  | _ => .normal

def fleetmake_Stream_Frame_x2_S (qs : fleetmake_Stream) (vr : Int) (vr1 : Int) : (fleetmake_Stream × Bool) → St
  | (vs, vx) => Mem.st ⟨[], [(0, [.d (.lst (List.map (encI .i64) vs.L)), .d (.int .i64 vs.at_)]), (1, [.d (.int .i64 0), .d (.int .i64 0)]), (2, [.d (.int .i64 vr), .d (.int .i64 vr1)])]⟩ (tl [(0, .v (.one (.box 0 0))), (2, .v (.one (.box 1 0))), (3, .v (.one (.box 2 0))), (20, .v (.one (.d (.bool vx))))]) 3

def fleetmake_Stream_Frame_x2_I (qs : fleetmake_Stream) (vr : Int) (vr1 : Int) : St := Mem.st ⟨[], [(0, [.d (.lst (List.map (encI .i64) qs.L)), .d (.int .i64 (IntKind.wrap .i64 ((IntKind.wrap .i64 (qs.at_ + 1)) + 1)))]), (1, [.d (.int .i64 0), .d (.int .i64 0)]), (2, [.d (.int .i64 vr), .d (.int .i64 vr1)])]⟩ (tl [(0, .v (.one (.box 0 0))), (2, .v (.one (.box 1 0))), (3, .v (.one (.box 2 0)))]) 3

theorem fleetmake_Stream_Frame_x2_ok (qs : fleetmake_Stream) (vr : Int) (vr1 : Int) {r} (hF : fleetmake_Stream_Frame_x2 qs vr vr1 = some r) : Awp prog 1 39 (cL (cL (cR (cR (cB f10))))) (Out 1 fleetmake_Stream_Frame_x2_k (fleetmake_Stream_Frame_x2_S qs vr vr1) r) (fleetmake_Stream_Frame_x2_I qs vr vr1) := by
  unfold fleetmake_Stream_Frame_x2 at hF
  refine cE hF (fun h3 hF => ?_) fun h3 hF => ?_
  · refine bE hF fun vr2 h4 hF => ?_
    refine awp_region ?_
    refine aR 4 ?_
    refine aB h3 ?_
    refine aR 2 ?_
    refine aC (fleetmake_Stream_Flip_ok h4) [] [] [] ?_
    refine aR 2 ?_
    refine aE ?_
    exact oO hF [] [] rfl
  · refine awp_region ?_
    refine aR 4 ?_
    refine aB h3 ?_
    refine aR 5 ?_
    refine aE ?_
    exact oO hF [] [] rfl

def fleetmake_Stream_Frame_x1_k : (fleetmake_Stream × api_Window) → AEx
  | _ => .normal

def fleetmake_Stream_Frame_x1_S (qs : fleetmake_Stream) (vr : Int) (vr1 : Int) : (fleetmake_Stream × api_Window) → St
  | (vs2, vw) => Mem.st ⟨[], [(0, [.d (.lst (List.map (encI .i64) vs2.L)), .d (.int .i64 vs2.at_)]), (1, [.d (.int .i64 0), .d (.int .i64 0)]), (2, [.d (.int .i64 vw.From), .d (.int .i64 vw.To)])]⟩ (tl [(0, .v (.one (.box 0 0))), (2, .v (.one (.box 1 0))), (3, .v (.one (.box 2 0)))]) 3

def fleetmake_Stream_Frame_x1_I (qs : fleetmake_Stream) (vr : Int) (vr1 : Int) : St := Mem.st ⟨[], [(0, [.d (.lst (List.map (encI .i64) qs.L)), .d (.int .i64 (IntKind.wrap .i64 ((IntKind.wrap .i64 (qs.at_ + 1)) + 1)))]), (1, [.d (.int .i64 0), .d (.int .i64 0)]), (2, [.d (.int .i64 vr), .d (.int .i64 vr1)])]⟩ (tl [(0, .v (.one (.box 0 0))), (2, .v (.one (.box 1 0))), (3, .v (.one (.box 2 0)))]) 3

theorem fleetmake_Stream_Frame_x1_ok (qs : fleetmake_Stream) (vr : Int) (vr1 : Int) {r} (hF : fleetmake_Stream_Frame_x1 qs vr vr1 = some r) : Awp prog 1 39 (cL (cR (cR (cB f10)))) (Out 1 fleetmake_Stream_Frame_x1_k (fleetmake_Stream_Frame_x1_S qs vr vr1) r) (fleetmake_Stream_Frame_x1_I qs vr vr1) := by
  unfold fleetmake_Stream_Frame_x1 at hF
  refine awp_seq ?_
  refine awp_to (st' := fleetmake_Stream_Frame_x2_I qs vr vr1) (oT [] []) ?_
  refine bE hF fun x h5 hF => ?_
  obtain ⟨vs1, vx1⟩ := x
  refine awp_sub (fleetmake_Stream_Frame_x2_ok qs vr vr1 h5) ?_
  refine cE hF (fun h6 hF => ?_) fun h6 hF => ?_
  · refine awp_true (by kernel_rfl) h6 ?_
    refine awp_region ?_
    refine aR 2 ?_
    refine aE ?_
    exact oO hF [] [] rfl
  · refine awp_false (by kernel_rfl) h6 ?_
    refine awp_skip ?_
    exact oO hF [] [] rfl

def fleetmake_Stream_Frame_x3_k : (fleetmake_Stream × api_Window) → AEx
  | _ => .normal

def fleetmake_Stream_Frame_x3_S (vs2_1 : fleetmake_Stream) (vw1 : api_Window) : (fleetmake_Stream × api_Window) → St
  | (vs3, vw2) => Mem.st ⟨[], [(0, [.d (.lst (List.map (encI .i64) vs3.L)), .d (.int .i64 vs3.at_)]), (1, [.d (.int .i64 0), .d (.int .i64 0)]), (2, [.d (.int .i64 vw2.From), .d (.int .i64 vw2.To)])]⟩ (tl [(0, .v (.one (.box 0 0))), (2, .v (.one (.box 1 0))), (3, .v (.one (.box 2 0)))]) 3

def fleetmake_Stream_Frame_x3_I (vs2_1 : fleetmake_Stream) (vw1 : api_Window) : St := Mem.st ⟨[], [(0, [.d (.lst (List.map (encI .i64) vs2_1.L)), .d (.int .i64 vs2_1.at_)]), (1, [.d (.int .i64 0), .d (.int .i64 0)]), (2, [.d (.int .i64 vw1.From), .d (.int .i64 vw1.To)])]⟩ (tl [(0, .v (.one (.box 0 0))), (2, .v (.one (.box 1 0))), (3, .v (.one (.box 2 0)))]) 3

theorem fleetmake_Stream_Frame_x3_ok (vs2_1 : fleetmake_Stream) (vw1 : api_Window) {r} (hF : fleetmake_Stream_Frame_x3 vs2_1 vw1 = some r) : Awp prog 1 39 (cL (cR (cR (cR (cB f10))))) (Out 1 fleetmake_Stream_Frame_x3_k (fleetmake_Stream_Frame_x3_S vs2_1 vw1) r) (fleetmake_Stream_Frame_x3_I vs2_1 vw1) := by
  unfold fleetmake_Stream_Frame_x3 at hF
  refine awp_seq ?_
  refine bE hF fun vr3 h8 hF => ?_
  refine awp_region ?_
  refine aR 1 ?_
  refine aC (fleetmake_Stream_Flip_ok h8) [] [] [] ?_
  refine aE ?_
  refine cE hF (fun h9 hF => ?_) fun h9 hF => ?_
  · refine awp_true (by kernel_rfl) h9 ?_
    refine bE hF fun x h10 hF => ?_
    obtain ⟨vs1_1, vr3_1⟩ := x
    refine bE hF fun x h11 hF => ?_
    obtain ⟨vs1_2, vr3_2⟩ := x
    refine awp_region ?_
    refine aR 1 ?_
    refine aC (fleetmake_Stream_Odd_ok h10) [] [] [] ?_
    refine aR 1 ?_
    refine aC (fleetmake_Stream_Odd_ok h11) [] [] [] ?_
    refine aR 2 ?_
    refine aE ?_
    exact oO hF [] [] rfl
  · refine awp_false (by kernel_rfl) h9 ?_
    refine awp_skip ?_
    exact oO hF [] [] rfl

def fleetmake_Stream_Frame_x4_k : (fleetmake_Stream × api_Window) → AEx
  | _ => .normal

def fleetmake_Stream_Frame_x4_S (vs3_1 : fleetmake_Stream) (vw2_1 : api_Window) : (fleetmake_Stream × api_Window) → St
  | (vs4, vw3) => Mem.st ⟨[], [(0, [.d (.lst (List.map (encI .i64) vs4.L)), .d (.int .i64 vs4.at_)]), (1, [.d (.int .i64 0), .d (.int .i64 0)]), (2, [.d (.int .i64 vw3.From), .d (.int .i64 vw3.To)])]⟩ (tl [(2, .v (.one (.box 1 0))), (3, .v (.one (.box 2 0)))]) 3

def fleetmake_Stream_Frame_x4_I (vs3_1 : fleetmake_Stream) (vw2_1 : api_Window) : St := Mem.st ⟨[], [(0, [.d (.lst (List.map (encI .i64) vs3_1.L)), .d (.int .i64 vs3_1.at_)]), (1, [.d (.int .i64 0), .d (.int .i64 0)]), (2, [.d (.int .i64 vw2_1.From), .d (.int .i64 vw2_1.To)])]⟩ (tl [(0, .v (.one (.box 0 0))), (2, .v (.one (.box 1 0))), (3, .v (.one (.box 2 0)))]) 3

theorem fleetmake_Stream_Frame_x4_ok (vs3_1 : fleetmake_Stream) (vw2_1 : api_Window) {r} (hF : fleetmake_Stream_Frame_x4 vs3_1 vw2_1 = some r) : Awp prog 1 39 (cL (cR (cR (cR (cR (cB f10)))))) (Out 1 fleetmake_Stream_Frame_x4_k (fleetmake_Stream_Frame_x4_S vs3_1 vw2_1) r) (fleetmake_Stream_Frame_x4_I vs3_1 vw2_1) := by
  unfold fleetmake_Stream_Frame_x4 at hF
  refine awp_seq ?_
  refine bE hF fun vr4 h13 hF => ?_
  refine awp_region ?_
  refine aR 1 ?_
  refine aC (fleetmake_Stream_Flip_ok h13) [] [] [] ?_
  refine aE ?_
  refine cE hF (fun h14 hF => ?_) fun h14 hF => ?_
  · refine awp_true (by kernel_rfl) h14 ?_
    refine bE hF fun vr5 h15 hF => ?_
    refine bE hF fun vr6 h16 hF => ?_
    refine awp_region ?_
    refine aR 2 ?_
    refine aC (fleetmake_Stream_Pick_o1_ok h15) [(1, 3003)] [] [] ?_
    refine aR 2 ?_
    refine aC (fleetmake_Stream_Pick_o1_ok h16) [(1, 6003)] [] [] ?_
    refine aR 2 ?_
    refine aE ?_
    exact oO hF [] [] rfl
  · refine awp_false (by kernel_rfl) h14 ?_
    refine awp_skip ?_
    exact oO hF [] [] rfl

def fleetmake_Stream_Frame_R (qs : fleetmake_Stream) (r : fleetmake_Stream × api_Window) : TV × Mem := (.v (.agg [.d (.int .i64 r.2.From), .d (.int .i64 r.2.To)]), ⟨[], [(0, [.d (.lst (List.map (encI .i64) r.1.L)), .d (.int .i64 r.1.at_)])]⟩)

theorem fleetmake_Stream_Frame_ok {qs : fleetmake_Stream} {r} (hF : fleetmake_Stream_Frame qs = some r) : Holds prog 10 [.v (.one (.box 0 0))] ⟨[], [(0, [.d (.lst (List.map (encI .i64) qs.L)), .d (.int .i64 qs.at_)])]⟩ (Is (fleetmake_Stream_Frame_R qs r)) := by
  unfold fleetmake_Stream_Frame at hF
  refine holds_of_awp hΓ (fn := f10) (c := cB f10) (A := 1) (nx := 1) (by kernel_rfl) (by kernel_rfl) (by kernel_rfl) (by kernel_rfl) (by kernel_rfl) (by kernel_rfl) (lowc_of (by kernel_rfl)) ?_
  show Awp prog 1 39 (cB f10) _ _
  refine awp_seq ?_
  refine awp_region ?_
  refine aR 1 ?_
  refine aE ?_
  refine awp_seq ?_
  refine bE hF fun vr h1 hF => ?_
  refine bE hF fun vr1 h2 hF => ?_
  refine awp_region ?_
  refine aR 2 ?_
  refine aC (fleetmake_Stream_Pick_o1_ok h1) [(1, 2001)] [] [] ?_
  refine aR 2 ?_
  refine aC (fleetmake_Stream_Pick_o1_ok h2) [(1, 5001)] [] [] ?_
  refine aR 3 ?_
  refine aE ?_
  refine awp_seq ?_
  refine awp_to (st' := fleetmake_Stream_Frame_x1_I qs vr vr1) (oT [(2, 8001)] []) ?_
  refine bE hF fun x h7 hF => ?_
  obtain ⟨vs2_1, vw1⟩ := x
  refine awp_sub (fleetmake_Stream_Frame_x1_ok qs vr vr1 h7) ?_
  refine awp_seq ?_
  refine awp_to (st' := fleetmake_Stream_Frame_x3_I vs2_1 vw1) (oT [] []) ?_
  refine bE hF fun x h12 hF => ?_
  obtain ⟨vs3_1, vw2_1⟩ := x
  refine awp_sub (fleetmake_Stream_Frame_x3_ok vs2_1 vw1 h12) ?_
  refine awp_seq ?_
  refine awp_to (st' := fleetmake_Stream_Frame_x4_I vs3_1 vw2_1) (oT [] []) ?_
  refine bE hF fun x h17 hF => ?_
  obtain ⟨vs4_1, vw3_1⟩ := x
  refine awp_sub (fleetmake_Stream_Frame_x4_ok vs3_1 vw2_1 h17) ?_
  refine awp_seq ?_
  refine awp_region ?_
  refine aR 2 ?_
  refine aE ?_
  refine awp_ret ?_
  exact oF hF [] []

/-! ### (*beaconfleet/fleetmake.Stream).RightSeries -/
def fleetmake_Stream_RightSeries_x1_k : (fleetmake_Stream × (List api_Sample)) → AEx
  | _ => .exit 0

def fleetmake_Stream_RightSeries_x1_S (qlow : Int) (vr : Int) : (fleetmake_Stream × (List api_Sample)) → St
  | (vs2, vout1) => Mem.st ⟨[(1, ⟨32, 4, List.map api_Sample.enc vout1⟩)], [(0, [.d (.lst (List.map (encI .i64) vs2.L)), .d (.int .i64 vs2.at_)])]⟩ (tl [(7, .v (.one (.own 1 none)))]) 2

def fleetmake_Stream_RightSeries_x1_H (qlow : Int) (vr : Int) : fleetmake_Stream × (List api_Sample) × Int × Int → St
  | (vs1, vout, vat, vx) => Mem.st ⟨[(1, ⟨32, 4, List.map api_Sample.enc vout⟩)], [(0, [.d (.lst (List.map (encI .i64) vs1.L)), .d (.int .i64 vs1.at_)])]⟩ (tl [(0, .v (.one (.box 0 0))), (2, .v (.one (.d (.int .i64 qlow)))), (7, .v (.one (.own 1 none))), (8, .v (.one (.d (.int .i64 vat)))), (11, .v (.one (.d (.int .i64 vr)))), (12, .v (.one (.d (.int .i64 vx))))]) 2

theorem fleetmake_Stream_RightSeries_x1_ok (qlow : Int) (vr : Int) (s : fleetmake_Stream × (List api_Sample) × Int × Int) (r : (fleetmake_Stream × (List api_Sample) × Int × Int) ⊕ ((fleetmake_Stream × (List api_Sample)))) (hF : fleetmake_Stream_RightSeries_x1 qlow vr s = some r) : Awp prog 1 31 (cL (cL (cR (cL (cR (cR (cR (cB f33)))))))) (Out 1 (kk fleetmake_Stream_RightSeries_x1_k) (SS (fleetmake_Stream_RightSeries_x1_H qlow vr) (fleetmake_Stream_RightSeries_x1_S qlow vr)) r) (fleetmake_Stream_RightSeries_x1_H qlow vr s) := by
  obtain ⟨vs1, vout, vat, vx⟩ := s
  unfold fleetmake_Stream_RightSeries_x1 at hF
  refine awp_seq ?_
  refine awp_region ?_
  refine aR 1 ?_
  refine aE ?_
  refine awp_seq ?_
  refine cE hF (fun h2 hF => ?_) fun h2 hF => ?_
  · refine awp_true (by kernel_rfl) h2 ?_
    refine awp_skip ?_
    refine awp_seq ?_
    refine awp_block ?_
    refine awp_seq ?_
    refine bE hF fun vr3 h3 hF => ?_
    refine awp_region ?_
    refine aR 3 ?_
    refine aC (fleetmake_Stream_Pick_o1_ok h3) [(1, 3002)] [] [] ?_
    refine aR 2 ?_
    refine aE ?_
    refine bE hF fun vr4 h4 hF => ?_
    refine gE hF fun h5 hF => ?_
    refine awp_region ?_
    refine aR 5 ?_
    refine aC (fleetmake_Stream_Pick_o1_ok h4) [(1, 11002)] [] [] ?_
    refine aR 3 ?_
    refine aX (x_app api_Sample.enc 1 h5) ?_
    refine aR 1 ?_
    refine aE ?_
    refine awp_region ?_
    refine aR 2 ?_
    refine aE ?_
    exact oO hF [(1, 16002)] [] rfl
  · refine awp_false (by kernel_rfl) h2 ?_
    refine awp_exit ?_
    exact oO hF [] [] rfl

def fleetmake_Stream_RightSeries_R (qs : fleetmake_Stream) (qmost : Int) (qlow : Int) (r : fleetmake_Stream × (List api_Sample)) : TV × Mem := (.v (.one (.own 1 none)), ⟨[(1, ⟨32, 4, List.map api_Sample.enc r.2⟩)], [(0, [.d (.lst (List.map (encI .i64) r.1.L)), .d (.int .i64 r.1.at_)])]⟩)

theorem fleetmake_Stream_RightSeries_ok {qs : fleetmake_Stream} {qmost : Int} {qlow : Int} {r} (hF : fleetmake_Stream_RightSeries qs qmost qlow = some r) : Holds prog 33 [.v (.one (.box 0 0)), .v (.one (.d (.int .i64 qmost))), .v (.one (.d (.int .i64 qlow)))] ⟨[], [(0, [.d (.lst (List.map (encI .i64) qs.L)), .d (.int .i64 qs.at_)])]⟩ (Is (fleetmake_Stream_RightSeries_R qs qmost qlow r)) := by
  unfold fleetmake_Stream_RightSeries at hF
  refine holds_of_awp hΓ (fn := f33) (c := cB f33) (A := 1) (nx := 1) (by kernel_rfl) (by kernel_rfl) (by kernel_rfl) (by kernel_rfl) (by kernel_rfl) (by kernel_rfl) (lowc_of (by kernel_rfl)) ?_
  show Awp prog 1 31 (cB f33) _ _
  refine awp_seq ?_
  refine awp_region ?_
  refine aR 1 ?_
  refine aE ?_
  refine awp_seq ?_
  refine awp_region ?_
  refine aR 1 ?_
  refine aE ?_
  refine awp_seq ?_
  refine awp_region ?_
  refine aR 1 ?_
  refine aE ?_
  refine awp_seq ?_
  refine awp_seq ?_
  refine bE hF fun x h1 hF => ?_
  obtain ⟨vs, vr⟩ := x
  refine awp_region ?_
  refine aR 2 ?_
  refine aC (fleetmake_Stream_Range_ok h1) [] [] [] ?_
  refine aR 1 ?_
  refine aE ?_
  refine awp_block ?_
  refine awp_to (st' := fleetmake_Stream_RightSeries_x1_H qlow vr (vs, [], 0, 0)) (oT [] [1]) ?_
  refine bE hF fun x h6 hF => ?_
  obtain ⟨vs2_1, vout1_1⟩ := x
  refine awp_sub (awp_loop' (fleetmake_Stream_RightSeries_x1_H qlow vr) fleetmake_Stream_RightSeries_x1_k (fleetmake_Stream_RightSeries_x1_S qlow vr) (by intro x; exact fun h => nomatch h) h6 (fleetmake_Stream_RightSeries_x1_ok qlow vr)) ?_
  refine awp_seq ?_
  refine awp_region ?_
  refine aR 2 ?_
  refine aE ?_
  refine awp_ret ?_
  exact oF hF [] []

/-! ### (*beaconfleet/fleetmake.Stream).Series -/
def fleetmake_Stream_Series_x2_k : (fleetmake_Stream × Bool) → AEx
  | _ => .normal

def fleetmake_Stream_Series_x2_S (vs3 : fleetmake_Stream) (vr5 : List api_Sample) : (fleetmake_Stream × Bool) → St
  | (vs, vx) => Mem.st ⟨[(1, ⟨32, 4, List.map api_Sample.enc vr5⟩)], [(0, [.d (.lst (List.map (encI .i64) vs.L)), .d (.int .i64 vs.at_)])]⟩ (tl [(0, .v (.one (.box 0 0))), (5, .v (.one (.own 1 none))), (20, .v (.one (.d (.bool vx))))]) 2

def fleetmake_Stream_Series_x2_I (vs3 : fleetmake_Stream) (vr5 : List api_Sample) : St := Mem.st ⟨[(1, ⟨32, 4, List.map api_Sample.enc vr5⟩)], [(0, [.d (.lst (List.map (encI .i64) vs3.L)), .d (.int .i64 vs3.at_)])]⟩ (tl [(0, .v (.one (.box 0 0))), (5, .v (.one (.own 1 none)))]) 2

theorem fleetmake_Stream_Series_x2_ok (vs3 : fleetmake_Stream) (vr5 : List api_Sample) {r} (hF : fleetmake_Stream_Series_x2 vs3 vr5 = some r) : Awp prog 1 82 (cL (cL (cR (cR (cB f11))))) (Out 1 fleetmake_Stream_Series_x2_k (fleetmake_Stream_Series_x2_S vs3 vr5) r) (fleetmake_Stream_Series_x2_I vs3 vr5) := by
  unfold fleetmake_Stream_Series_x2 at hF
  refine cE hF (fun h3 hF => ?_) fun h3 hF => ?_
  · refine bE hF fun vr1 h4 hF => ?_
    refine awp_region ?_
    refine aR 1 ?_
    refine aL api_Sample.enc vr5 ?_
    refine aB h3 ?_
    refine aR 2 ?_
    refine aC (fleetmake_Stream_Flip_ok h4) [] [] [] ?_
    refine aR 1 ?_
    refine aE ?_
    exact oO hF [] [] rfl
  · refine awp_region ?_
    refine aR 1 ?_
    refine aL api_Sample.enc vr5 ?_
    refine aB h3 ?_
    refine aR 4 ?_
    refine aE ?_
    exact oO hF [] [] rfl

def fleetmake_Stream_Series_x1_k : (fleetmake_Stream × (List api_Sample)) → AEx
  | _ => .normal

def fleetmake_Stream_Series_x1_S (vs3 : fleetmake_Stream) (vr5 : List api_Sample) : (fleetmake_Stream × (List api_Sample)) → St
  | (vs2, vx2) => Mem.st ⟨[(1, ⟨32, 4, List.map api_Sample.enc vx2⟩)], [(0, [.d (.lst (List.map (encI .i64) vs2.L)), .d (.int .i64 vs2.at_)])]⟩ (tl [(0, .v (.one (.box 0 0))), (5, .v (.one (.own 1 none)))]) 2

def fleetmake_Stream_Series_x1_I (vs3 : fleetmake_Stream) (vr5 : List api_Sample) : St := Mem.st ⟨[(1, ⟨32, 4, List.map api_Sample.enc vr5⟩)], [(0, [.d (.lst (List.map (encI .i64) vs3.L)), .d (.int .i64 vs3.at_)])]⟩ (tl [(0, .v (.one (.box 0 0))), (5, .v (.one (.own 1 none)))]) 2

theorem fleetmake_Stream_Series_x1_ok (vs3 : fleetmake_Stream) (vr5 : List api_Sample) {r} (hF : fleetmake_Stream_Series_x1 vs3 vr5 = some r) : Awp prog 1 82 (cL (cR (cR (cB f11)))) (Out 1 fleetmake_Stream_Series_x1_k (fleetmake_Stream_Series_x1_S vs3 vr5) r) (fleetmake_Stream_Series_x1_I vs3 vr5) := by
  unfold fleetmake_Stream_Series_x1 at hF
  refine awp_seq ?_
  refine awp_to (st' := fleetmake_Stream_Series_x2_I vs3 vr5) (oT [] []) ?_
  refine bE hF fun x h5 hF => ?_
  obtain ⟨vs1, vx1⟩ := x
  refine awp_sub (fleetmake_Stream_Series_x2_ok vs3 vr5 h5) ?_
  refine cE hF (fun h6 hF => ?_) fun h6 hF => ?_
  · refine awp_true (by kernel_rfl) h6 ?_
    refine awp_seq ?_
    refine bE hF fun vr3 h7 hF => ?_
    refine bE hF fun vy h8 hF => ?_
    refine awp_region ?_
    refine aR 3 ?_
    refine aL api_Sample.enc vr5 ?_
    refine aC (fleetmake_Stream_Next_ok h7) [] [] [] ?_
    refine aX (x_idxO api_Sample.enc 1 h8) ?_
    refine aR 1 ?_
    refine aE ?_
    refine awp_seq ?_
    refine bE hF fun vr3_1 h9 hF => ?_
    refine awp_region ?_
    refine aR 1 ?_
    refine aC (fleetmake_Stream_Next_ok h9) [] [] [] ?_
    refine aE ?_
    refine awp_block ?_
    refine awp_seq ?_
    refine awp_region ?_
    refine aR 2 ?_
    refine aE ?_
    refine cE hF (fun h10 hF => ?_) fun h10 hF => ?_
    · refine awp_true (by kernel_rfl) h10 ?_
      refine bE hF fun vr2 h11 hF => ?_
      refine awp_region ?_
      refine aR 3 ?_
      refine aC (fleetmake_Stream_Some_o1_ok h11) [(1, 13002)] [] [] ?_
      refine aR 2 ?_
      refine aX (x_stE api_Sample.enc (api_Sample.mk vr2 vy.Metric vy.At vy.Value) h8) ?_
      refine aE ?_
      exact oO hF [] [] rfl
    · refine awp_false (by kernel_rfl) h10 ?_
      refine awp_seq ?_
      refine awp_region ?_
      refine aR 2 ?_
      refine aE ?_
      refine cE hF (fun h12 hF => ?_) fun h12 hF => ?_
      · refine awp_true (by kernel_rfl) h12 ?_
        refine bE hF fun vr4 h13 hF => ?_
        refine awp_region ?_
        refine aR 3 ?_
        refine aC (fleetmake_Stream_Some_o1_ok h13) [(1, 15002)] [] [] ?_
        refine aR 2 ?_
        refine aX (x_stE api_Sample.enc (api_Sample.mk vy.Device vr4 vy.At vy.Value) h8) ?_
        refine aE ?_
        exact oO hF [] [] rfl
      · refine awp_false (by kernel_rfl) h12 ?_
        refine awp_seq ?_
        refine awp_region ?_
        refine aR 2 ?_
        refine aE ?_
        refine cE hF (fun h14 hF => ?_) fun h14 hF => ?_
        · refine awp_true (by kernel_rfl) h14 ?_
          refine bE hF fun x h15 hF => ?_
          obtain ⟨vs1_1, vr3_2⟩ := x
          refine awp_region ?_
          refine aR 2 ?_
          refine aC (fleetmake_Stream_Odd_ok h15) [] [] [] ?_
          refine aR 2 ?_
          refine aX (x_stE api_Sample.enc (api_Sample.mk vy.Device vy.Metric vr3_2 vy.Value) h8) ?_
          refine aE ?_
          exact oO hF [] [] rfl
        · refine awp_false (by kernel_rfl) h14 ?_
          refine bE hF fun x h16 hF => ?_
          obtain ⟨vs1_2, vr3_3⟩ := x
          refine awp_region ?_
          refine aR 2 ?_
          refine aC (fleetmake_Stream_Odd_ok h16) [] [] [] ?_
          refine aR 2 ?_
          refine aX (x_stE api_Sample.enc (api_Sample.mk vy.Device vy.Metric vy.At vr3_3) h8) ?_
          refine aE ?_
          exact oO hF [] [] rfl
  · refine awp_false (by kernel_rfl) h6 ?_
    refine awp_skip ?_
    exact oO hF [] [] rfl

def fleetmake_Stream_Series_x4_k : (fleetmake_Stream × Bool) → AEx
  | _ => .normal

def fleetmake_Stream_Series_x4_S (vs2_1 : fleetmake_Stream) (vx2_1 : List api_Sample) : (fleetmake_Stream × Bool) → St
  | (vs4, vx3) => Mem.st ⟨[(1, ⟨32, 4, List.map api_Sample.enc vx2_1⟩)], [(0, [.d (.lst (List.map (encI .i64) vs4.L)), .d (.int .i64 vs4.at_)])]⟩ (tl [(0, .v (.one (.box 0 0))), (5, .v (.one (.own 1 none))), (63, .v (.one (.d (.bool vx3))))]) 2

def fleetmake_Stream_Series_x4_I (vs2_1 : fleetmake_Stream) (vx2_1 : List api_Sample) : St := Mem.st ⟨[(1, ⟨32, 4, List.map api_Sample.enc vx2_1⟩)], [(0, [.d (.lst (List.map (encI .i64) vs2_1.L)), .d (.int .i64 vs2_1.at_)])]⟩ (tl [(0, .v (.one (.box 0 0))), (5, .v (.one (.own 1 none)))]) 2

theorem fleetmake_Stream_Series_x4_ok (vs2_1 : fleetmake_Stream) (vx2_1 : List api_Sample) {r} (hF : fleetmake_Stream_Series_x4 vs2_1 vx2_1 = some r) : Awp prog 1 82 (cL (cL (cR (cR (cR (cB f11)))))) (Out 1 fleetmake_Stream_Series_x4_k (fleetmake_Stream_Series_x4_S vs2_1 vx2_1) r) (fleetmake_Stream_Series_x4_I vs2_1 vx2_1) := by
  unfold fleetmake_Stream_Series_x4 at hF
  refine cE hF (fun h18 hF => ?_) fun h18 hF => ?_
  · refine bE hF fun vr6 h19 hF => ?_
    refine awp_region ?_
    refine aR 1 ?_
    refine aL api_Sample.enc vx2_1 ?_
    refine aB h18 ?_
    refine aR 2 ?_
    refine aC (fleetmake_Stream_Flip_ok h19) [] [] [] ?_
    refine aR 1 ?_
    refine aE ?_
    exact oO hF [] [] rfl
  · refine awp_region ?_
    refine aR 1 ?_
    refine aL api_Sample.enc vx2_1 ?_
    refine aB h18 ?_
    refine aR 4 ?_
    refine aE ?_
    exact oO hF [] [] rfl

def fleetmake_Stream_Series_x3_k : (fleetmake_Stream × (List api_Sample)) → AEx
  | _ => .normal

def fleetmake_Stream_Series_x3_S (vs2_1 : fleetmake_Stream) (vx2_1 : List api_Sample) : (fleetmake_Stream × (List api_Sample)) → St
  | (vs5, vx4) => Mem.st ⟨[(1, ⟨32, 4, List.map api_Sample.enc vx4⟩)], [(0, [.d (.lst (List.map (encI .i64) vs5.L)), .d (.int .i64 vs5.at_)])]⟩ (tl [(5, .v (.one (.own 1 none)))]) 2

def fleetmake_Stream_Series_x3_I (vs2_1 : fleetmake_Stream) (vx2_1 : List api_Sample) : St := Mem.st ⟨[(1, ⟨32, 4, List.map api_Sample.enc vx2_1⟩)], [(0, [.d (.lst (List.map (encI .i64) vs2_1.L)), .d (.int .i64 vs2_1.at_)])]⟩ (tl [(0, .v (.one (.box 0 0))), (5, .v (.one (.own 1 none)))]) 2

theorem fleetmake_Stream_Series_x3_ok (vs2_1 : fleetmake_Stream) (vx2_1 : List api_Sample) {r} (hF : fleetmake_Stream_Series_x3 vs2_1 vx2_1 = some r) : Awp prog 1 82 (cL (cR (cR (cR (cB f11))))) (Out 1 fleetmake_Stream_Series_x3_k (fleetmake_Stream_Series_x3_S vs2_1 vx2_1) r) (fleetmake_Stream_Series_x3_I vs2_1 vx2_1) := by
  unfold fleetmake_Stream_Series_x3 at hF
  refine awp_seq ?_
  refine awp_to (st' := fleetmake_Stream_Series_x4_I vs2_1 vx2_1) (oT [] []) ?_
  refine bE hF fun x h20 hF => ?_
  obtain ⟨vs4_1, vx3_1⟩ := x
  refine awp_sub (fleetmake_Stream_Series_x4_ok vs2_1 vx2_1 h20) ?_
  refine cE hF (fun h21 hF => ?_) fun h21 hF => ?_
  · refine awp_true (by kernel_rfl) h21 ?_
    refine awp_seq ?_
    refine bE hF fun vy1 h22 hF => ?_
    refine awp_region ?_
    refine aR 2 ?_
    refine aL api_Sample.enc vx2_1 ?_
    refine aR 1 ?_
    refine aX (x_idxO api_Sample.enc 1 h22) ?_
    refine aR 1 ?_
    refine aE ?_
    refine bE hF fun vr7 h23 hF => ?_
    refine bE hF fun vr8 h24 hF => ?_
    refine awp_region ?_
    refine aR 4 ?_
    refine aC (fleetmake_Stream_Pick_o1_ok h23) [(1, 9002)] [] [] ?_
    refine aR 2 ?_
    refine aC (fleetmake_Stream_Pick_o1_ok h24) [(1, 12002)] [] [] ?_
    refine aR 2 ?_
    refine aX (x_stE api_Sample.enc (api_Sample.mk vy1.Device vy1.Metric vr7 vy1.Value) h22) ?_
    refine aR 2 ?_
    refine aX (x_stE api_Sample.enc (api_Sample.mk vy1.Device vy1.Metric vr7 vr8) (at_set (z := (api_Sample.mk vy1.Device vy1.Metric vr7 vy1.Value)) h22)) ?_
    refine aE ?_
    exact oO hF [] [] rfl
  · refine awp_false (by kernel_rfl) h21 ?_
    refine awp_skip ?_
    exact oO hF [] [] rfl

def fleetmake_Stream_Series_R (qx : fleetmake_Stream) (qx1 : Int) (r : fleetmake_Stream × (List api_Sample)) : TV × Mem := (.v (.one (.own 1 none)), ⟨[(1, ⟨32, 4, List.map api_Sample.enc r.2⟩)], [(0, [.d (.lst (List.map (encI .i64) r.1.L)), .d (.int .i64 r.1.at_)])]⟩)

theorem fleetmake_Stream_Series_ok {qx : fleetmake_Stream} {qx1 : Int} {r} (hF : fleetmake_Stream_Series qx qx1 = some r) : Holds prog 11 [.v (.one (.box 0 0)), .v (.one (.d (.int .i64 qx1)))] ⟨[], [(0, [.d (.lst (List.map (encI .i64) qx.L)), .d (.int .i64 qx.at_)])]⟩ (Is (fleetmake_Stream_Series_R qx qx1 r)) := by
  unfold fleetmake_Stream_Series at hF
  refine holds_of_awp hΓ (fn := f11) (c := cB f11) (A := 1) (nx := 1) (by kernel_rfl) (by kernel_rfl) (by kernel_rfl) (by kernel_rfl) (by kernel_rfl) (by kernel_rfl) (lowc_of (by kernel_rfl)) ?_
  show Awp prog 1 82 (cB f11) _ _
  refine awp_seq ?_
  refine awp_region ?_
  refine aR 1 ?_
  refine aE ?_
  refine awp_seq ?_
  refine bE hF fun vr h1 hF => ?_
  refine bE hF fun x h2 hF => ?_
  obtain ⟨vs3, vr5⟩ := x
  refine awp_region ?_
  refine aR 4 ?_
  refine aC (fleetmake_Stream_Pick_o1_ok h1) [(1, 4001)] [] [] ?_
  refine aC (fleetmake_Stream_RightSeries_ok h2) [] [] [] ?_
  refine aR 1 ?_
  refine aE ?_
  refine awp_seq ?_
  refine awp_to (st' := fleetmake_Stream_Series_x1_I vs3 vr5) (oT [(1, 6002)] []) ?_
  refine bE hF fun x h17 hF => ?_
  obtain ⟨vs2_1, vx2_1⟩ := x
  refine awp_sub (fleetmake_Stream_Series_x1_ok vs3 vr5 h17) ?_
  refine awp_seq ?_
  refine awp_to (st' := fleetmake_Stream_Series_x3_I vs2_1 vx2_1) (oT [] []) ?_
  refine bE hF fun x h25 hF => ?_
  obtain ⟨vs5_1, vx4_1⟩ := x
  refine awp_sub (fleetmake_Stream_Series_x3_ok vs2_1 vx2_1 h25) ?_
  refine awp_seq ?_
  refine awp_region ?_
  refine aR 2 ?_
  refine aE ?_
  refine awp_ret ?_
  exact oF hF [] []

/-! ### beaconfleet/base.Key -/
def base_Key_x1_k : Bool → AEx
  | _ => .normal

def base_Key_x1_S (qs : List UInt8) : Bool → St
  | vx => Mem.st ⟨[], []⟩ (tl [(0, .v (.one (.d (.str qs)))), (21, .v (.one (.d (.bool vx))))]) 0

def base_Key_x1_I (qs : List UInt8) : St := Mem.st ⟨[], []⟩ (tl [(0, .v (.one (.d (.str qs))))]) 0

theorem base_Key_x1_ok (qs : List UInt8) {r} (hF : base_Key_x1 qs = some r) : Awp prog 0 54 (cL (cL (cR (cB f39)))) (Out 0 base_Key_x1_k (base_Key_x1_S qs) r) (base_Key_x1_I qs) := by
  unfold base_Key_x1 at hF
  refine cE hF (fun h1 hF => ?_) fun h1 hF => ?_
  · refine awp_region ?_
    refine aR 1 ?_
    refine aB h1 ?_
    refine aR 15 ?_
    refine aE ?_
    exact oO hF [] [] rfl
  · refine cE hF (fun h2 hF => ?_) fun h2 hF => ?_
    · refine awp_region ?_
      refine aR 1 ?_
      refine aB h1 ?_
      refine aR 3 ?_
      refine aB h2 ?_
      refine aR 11 ?_
      refine aE ?_
      exact oO hF [] [] rfl
    · refine bE hF fun vc h3 hF => ?_
      refine cE hF (fun h4 hF => ?_) fun h4 hF => ?_
      · refine awp_region ?_
        refine aR 1 ?_
        refine aB h1 ?_
        refine aR 3 ?_
        refine aB h2 ?_
        refine aR 3 ?_
        refine aX (x_idxS h3) ?_
        refine aB h4 ?_
        refine aR 6 ?_
        refine aE ?_
        exact oO hF [] [] rfl
      · refine awp_region ?_
        refine aR 1 ?_
        refine aB h1 ?_
        refine aR 3 ?_
        refine aB h2 ?_
        refine aR 3 ?_
        refine aX (x_idxS h3) ?_
        refine aB h4 ?_
        refine aR 3 ?_
        refine aX (x_idxS h3) ?_
        refine aR 2 ?_
        refine aE ?_
        exact oO hF [] [] rfl

def base_Key_x3_k : Bool → AEx
  | _ => .normal

def base_Key_x3_S (qs : List UInt8) (vx2 : Int) (vc2 : UInt8) : Bool → St
  | vx4 => Mem.st ⟨[], []⟩ (tl [(0, .v (.one (.d (.str qs)))), (23, .v (.one (.d (.int .i64 (qs.length : Int))))), (24, .v (.one (.d (.int .i64 vx2)))), (52, .v (.one (.d (.bool vx4))))]) 0

def base_Key_x3_I (qs : List UInt8) (vx2 : Int) (vc2 : UInt8) : St := Mem.st ⟨[], []⟩ (tl [(0, .v (.one (.d (.str qs)))), (4, .v (.one (.d (.int .u8 (vc2.toNat : Int))))), (23, .v (.one (.d (.int .i64 (qs.length : Int))))), (24, .v (.one (.d (.int .i64 vx2))))]) 0

theorem base_Key_x3_ok (qs : List UInt8) (vx2 : Int) (vc2 : UInt8) {r} (hF : base_Key_x3 vc2 = some r) : Awp prog 0 54 (cL (cR (cR (cL (cL (cR (cR (cL (cL (cR (cL (cR (cR (cB f39)))))))))))))) (Out 0 base_Key_x3_k (base_Key_x3_S qs vx2 vc2) r) (base_Key_x3_I qs vx2 vc2) := by
  unfold base_Key_x3 at hF
  refine cE hF (fun h9 hF => ?_) fun h9 hF => ?_
  · refine cE hF (fun h10 hF => ?_) fun h10 hF => ?_
    · refine awp_region ?_
      refine aR 1 ?_
      refine aB h9 ?_
      refine aR 2 ?_
      refine aB h10 ?_
      refine aR 18 ?_
      refine aE ?_
      exact oO hF [] [] rfl
    · refine cE hF (fun h11 hF => ?_) fun h11 hF => ?_
      · refine cE hF (fun h12 hF => ?_) fun h12 hF => ?_
        · refine awp_region ?_
          refine aR 1 ?_
          refine aB h9 ?_
          refine aR 2 ?_
          refine aB h10 ?_
          refine aR 3 ?_
          refine aB h11 ?_
          refine aR 2 ?_
          refine aB h12 ?_
          refine aR 11 ?_
          refine aE ?_
          exact oO hF [] [] rfl
        · refine cE hF (fun h13 hF => ?_) fun h13 hF => ?_
          · refine awp_region ?_
            refine aR 1 ?_
            refine aB h9 ?_
            refine aR 2 ?_
            refine aB h10 ?_
            refine aR 3 ?_
            refine aB h11 ?_
            refine aR 2 ?_
            refine aB h12 ?_
            refine aR 4 ?_
            refine aB h13 ?_
            refine aR 6 ?_
            refine aE ?_
            exact oO hF [] [] rfl
          · refine awp_region ?_
            refine aR 1 ?_
            refine aB h9 ?_
            refine aR 2 ?_
            refine aB h10 ?_
            refine aR 3 ?_
            refine aB h11 ?_
            refine aR 2 ?_
            refine aB h12 ?_
            refine aR 4 ?_
            refine aB h13 ?_
            refine aR 6 ?_
            refine aE ?_
            exact oO hF [] [] rfl
      · refine cE hF (fun h14 hF => ?_) fun h14 hF => ?_
        · refine awp_region ?_
          refine aR 1 ?_
          refine aB h9 ?_
          refine aR 2 ?_
          refine aB h10 ?_
          refine aR 3 ?_
          refine aB h11 ?_
          refine aR 7 ?_
          refine aB h14 ?_
          refine aR 6 ?_
          refine aE ?_
          exact oO hF [] [] rfl
        · refine awp_region ?_
          refine aR 1 ?_
          refine aB h9 ?_
          refine aR 2 ?_
          refine aB h10 ?_
          refine aR 3 ?_
          refine aB h11 ?_
          refine aR 7 ?_
          refine aB h14 ?_
          refine aR 6 ?_
          refine aE ?_
          exact oO hF [] [] rfl
  · refine cE hF (fun h15 hF => ?_) fun h15 hF => ?_
    · refine cE hF (fun h16 hF => ?_) fun h16 hF => ?_
      · refine awp_region ?_
        refine aR 1 ?_
        refine aB h9 ?_
        refine aR 6 ?_
        refine aB h15 ?_
        refine aR 2 ?_
        refine aB h16 ?_
        refine aR 11 ?_
        refine aE ?_
        exact oO hF [] [] rfl
      · refine cE hF (fun h17 hF => ?_) fun h17 hF => ?_
        · refine awp_region ?_
          refine aR 1 ?_
          refine aB h9 ?_
          refine aR 6 ?_
          refine aB h15 ?_
          refine aR 2 ?_
          refine aB h16 ?_
          refine aR 4 ?_
          refine aB h17 ?_
          refine aR 6 ?_
          refine aE ?_
          exact oO hF [] [] rfl
        · refine awp_region ?_
          refine aR 1 ?_
          refine aB h9 ?_
          refine aR 6 ?_
          refine aB h15 ?_
          refine aR 2 ?_
          refine aB h16 ?_
          refine aR 4 ?_
          refine aB h17 ?_
          refine aR 6 ?_
          refine aE ?_
          exact oO hF [] [] rfl
    · refine cE hF (fun h18 hF => ?_) fun h18 hF => ?_
      · refine awp_region ?_
        refine aR 1 ?_
        refine aB h9 ?_
        refine aR 6 ?_
        refine aB h15 ?_
        refine aR 7 ?_
        refine aB h18 ?_
        refine aR 6 ?_
        refine aE ?_
        exact oO hF [] [] rfl
      · refine awp_region ?_
        refine aR 1 ?_
        refine aB h9 ?_
        refine aR 6 ?_
        refine aB h15 ?_
        refine aR 7 ?_
        refine aB h18 ?_
        refine aR 6 ?_
        refine aE ?_
        exact oO hF [] [] rfl

def base_Key_x2_k : Unit ⊕ Unit → AEx
  | .inl _ => .exit 0
  | .inr _ => .ret

def base_Key_x2_S (qs : List UInt8) : Unit ⊕ Unit → St
  | .inl _ => Mem.st ⟨[], []⟩ (tl []) 0
  | .inr _ => Mem.st ⟨[], []⟩ (tl [(2, .v (.one (.d (.bool false))))]) 0

def base_Key_x2_H (qs : List UInt8) : Int → St
  | vx2 => Mem.st ⟨[], []⟩ (tl [(0, .v (.one (.d (.str qs)))), (23, .v (.one (.d (.int .i64 (qs.length : Int))))), (24, .v (.one (.d (.int .i64 vx2))))]) 0

theorem base_Key_x2_ok (qs : List UInt8) (vx2 : Int) (r : (Int) ⊕ (Unit ⊕ Unit)) (hF : base_Key_x2 qs vx2 = some r) : Awp prog 0 54 (cL (cL (cR (cL (cR (cR (cB f39))))))) (Out 0 (kk base_Key_x2_k) (SS (base_Key_x2_H qs) (base_Key_x2_S qs)) r) (base_Key_x2_H qs vx2) := by
  unfold base_Key_x2 at hF
  refine awp_seq ?_
  refine awp_region ?_
  refine aR 1 ?_
  refine aE ?_
  refine awp_seq ?_
  refine cE hF (fun h7 hF => ?_) fun h7 hF => ?_
  · refine awp_true (by kernel_rfl) h7 ?_
    refine awp_skip ?_
    refine awp_seq ?_
    refine awp_block ?_
    refine awp_seq ?_
    refine awp_region ?_
    refine aR 2 ?_
    refine aE ?_
    refine awp_seq ?_
    refine bE hF fun vc2 h8 hF => ?_
    refine awp_region ?_
    refine aR 2 ?_
    refine aX (x_idxS h8) ?_
    refine aR 1 ?_
    refine aE ?_
    refine awp_seq ?_
    refine awp_to (st' := base_Key_x3_I qs vx2 vc2) (oT [] []) ?_
    refine bE hF fun vx4_1 h19 hF => ?_
    refine awp_sub (base_Key_x3_ok qs vx2 vc2 h19) ?_
    refine cE hF (fun h20 hF => ?_) fun h20 hF => ?_
    · refine awp_true (by kernel_rfl) h20 ?_
      refine awp_seq ?_
      refine awp_region ?_
      refine aR 1 ?_
      refine aE ?_
      refine awp_ret ?_
      exact oO hF [] [] rfl
    · refine awp_false (by kernel_rfl) h20 ?_
      refine awp_skip ?_
      refine awp_region ?_
      refine aR 2 ?_
      refine aE ?_
      exact oO hF [] [] rfl
  · refine awp_false (by kernel_rfl) h7 ?_
    refine awp_exit ?_
    exact oO hF [] [] rfl

def base_Key_R (qs : List UInt8) (r : Bool) : TV × Mem := (.v (.one (.d (.bool r))), ⟨[], []⟩)

theorem base_Key_ok {qs : List UInt8} {r} (hF : base_Key qs = some r) : Holds prog 39 [.v (.one (.d (.str qs)))] ⟨[], []⟩ (Is (base_Key_R qs r)) := by
  unfold base_Key at hF
  refine holds_of_awp hΓ (fn := f39) (c := cB f39) (A := 0) (nx := 0) (by kernel_rfl) (by kernel_rfl) (by kernel_rfl) (by kernel_rfl) (by kernel_rfl) (by kernel_rfl) (lowc_of (by kernel_rfl)) ?_
  show Awp prog 0 54 (cB f39) _ _
  refine awp_seq ?_
  refine awp_region ?_
  refine aR 1 ?_
  refine aE ?_
  refine awp_seq ?_
  refine awp_seq ?_
  refine awp_to (st' := base_Key_x1_I qs) (oT [] []) ?_
  refine bE hF fun vx1 h5 hF => ?_
  refine awp_sub (base_Key_x1_ok qs h5) ?_
  refine cE hF (fun h6 hF => ?_) fun h6 hF => ?_
  · refine awp_true (by kernel_rfl) h6 ?_
    refine awp_seq ?_
    refine awp_region ?_
    refine aR 1 ?_
    refine aE ?_
    refine awp_ret ?_
    exact oF hF [] []
  · refine awp_false (by kernel_rfl) h6 ?_
    refine awp_skip ?_
    refine awp_seq ?_
    refine awp_seq ?_
    refine awp_region ?_
    refine aR 3 ?_
    refine aE ?_
    refine awp_block ?_
    refine awp_to (st' := base_Key_x2_H qs 0) (oT [] []) ?_
    refine bE hF fun x h21 hF => ?_
    rcases x with _ | _
    · refine awp_sub (awp_loop' (base_Key_x2_H qs) base_Key_x2_k (base_Key_x2_S qs) (by intro x; rcases x with x | x <;> exact fun h => nomatch h) h21 (base_Key_x2_ok qs)) ?_
      refine awp_seq ?_
      refine awp_region ?_
      refine aR 1 ?_
      refine aE ?_
      refine awp_ret ?_
      exact oF hF [] []
    · refine awp_sub (awp_loop' (base_Key_x2_H qs) base_Key_x2_k (base_Key_x2_S qs) (by intro x; rcases x with x | x <;> exact fun h => nomatch h) h21 (base_Key_x2_ok qs)) ?_
      exact oF hF [] []

/-! ### beaconfleet/base.Out -/
def base_Out_x1_k : Bool → AEx
  | _ => .normal

def base_Out_x1_S (qn : Int) (qlow : Int) (qhigh : Int) : Bool → St
  | vx => Mem.st ⟨[], []⟩ (tl [(6, .v (.one (.d (.bool vx))))]) 0

def base_Out_x1_I (qn : Int) (qlow : Int) (qhigh : Int) : St := Mem.st ⟨[], []⟩ (tl [(0, .v (.one (.d (.int .i64 qn)))), (1, .v (.one (.d (.int .i64 qlow)))), (2, .v (.one (.d (.int .i64 qhigh))))]) 0

theorem base_Out_x1_ok (qn : Int) (qlow : Int) (qhigh : Int) {r} (hF : base_Out_x1 qn qlow qhigh = some r) : Awp prog 0 15 (cL (cR (cB f45))) (Out 0 base_Out_x1_k (base_Out_x1_S qn qlow qhigh) r) (base_Out_x1_I qn qlow qhigh) := by
  unfold base_Out_x1 at hF
  refine cE hF (fun h1 hF => ?_) fun h1 hF => ?_
  · refine awp_region ?_
    refine aR 2 ?_
    refine aB h1 ?_
    refine aR 6 ?_
    refine aE ?_
    exact oO hF [] [] rfl
  · refine awp_region ?_
    refine aR 2 ?_
    refine aB h1 ?_
    refine aR 6 ?_
    refine aE ?_
    exact oO hF [] [] rfl

def base_Out_R (qn : Int) (qlow : Int) (qhigh : Int) (r : Bool) : TV × Mem := (.v (.one (.d (.bool r))), ⟨[], []⟩)

theorem base_Out_ok {qn : Int} {qlow : Int} {qhigh : Int} {r} (hF : base_Out qn qlow qhigh = some r) : Holds prog 45 [.v (.one (.d (.int .i64 qn))), .v (.one (.d (.int .i64 qlow))), .v (.one (.d (.int .i64 qhigh)))] ⟨[], []⟩ (Is (base_Out_R qn qlow qhigh r)) := by
  unfold base_Out at hF
  refine holds_of_awp hΓ (fn := f45) (c := cB f45) (A := 0) (nx := 0) (by kernel_rfl) (by kernel_rfl) (by kernel_rfl) (by kernel_rfl) (by kernel_rfl) (by kernel_rfl) (lowc_of (by kernel_rfl)) ?_
  show Awp prog 0 15 (cB f45) _ _
  refine awp_seq ?_
  refine awp_region ?_
  refine aR 1 ?_
  refine aE ?_
  refine awp_seq ?_
  refine awp_to (st' := base_Out_x1_I qn qlow qhigh) (oT [] []) ?_
  refine bE hF fun vx1 h2 hF => ?_
  refine awp_sub (base_Out_x1_ok qn qlow qhigh h2) ?_
  refine awp_ret ?_
  exact oF hF [] []

/-! ### beaconfleet/base.Moment -/
def base_Moment_R (qn : Int) (r : Bool) : TV × Mem := (.v (.one (.d (.bool r))), ⟨[], []⟩)

theorem base_Moment_ok {qn : Int} {r} (hF : base_Moment qn = some r) : Holds prog 44 [.v (.one (.d (.int .i64 qn)))] ⟨[], []⟩ (Is (base_Moment_R qn r)) := by
  unfold base_Moment at hF
  refine holds_of_awp hΓ (fn := f44) (c := cB f44) (A := 0) (nx := 0) (by kernel_rfl) (by kernel_rfl) (by kernel_rfl) (by kernel_rfl) (by kernel_rfl) (by kernel_rfl) (lowc_of (by kernel_rfl)) ?_
  show Awp prog 0 6 (cB f44) _ _
  refine awp_seq ?_
  refine awp_region ?_
  refine aR 1 ?_
  refine aE ?_
  refine awp_seq ?_
  refine bE hF fun vr h1 hF => ?_
  refine awp_region ?_
  refine aR 1 ?_
  refine aC (base_Out_ok h1) [] [] [] ?_
  refine aR 2 ?_
  refine aE ?_
  refine awp_ret ?_
  exact oF hF [] []

/-! ### internal/bytealg.CompareString -/
def bytealg_CompareString_R (qa : List UInt8) (qb : List UInt8) (r : Unit) : TV × Mem := (.v (.one (.d (.int .i64 (Lib.compareBytes qa qb)))), ⟨[], []⟩)

theorem bytealg_CompareString_ok {qa : List UInt8} {qb : List UInt8} {r} (hF : bytealg_CompareString qa qb = some r) : Holds prog 79 [.v (.one (.d (.str qa))), .v (.one (.d (.str qb)))] ⟨[], []⟩ (Is (bytealg_CompareString_R qa qb r)) := by
  unfold bytealg_CompareString at hF
  refine holds_of_awp hΓ (fn := f79) (c := cB f79) (A := 0) (nx := 0) (by kernel_rfl) (by kernel_rfl) (by kernel_rfl) (by kernel_rfl) (by kernel_rfl) (by kernel_rfl) (lowc_of (by kernel_rfl)) ?_
  show Awp prog 0 8 (cB f79) _ _
  refine awp_seq ?_
  refine awp_region ?_
  refine aR 1 ?_
  refine aE ?_
  refine awp_seq ?_
  refine awp_region ?_
  refine aR 2 ?_
  refine aS (does_cmpstring (g := 91) (fn := f91) (a := qa) (b := qb) rfl (by kernel_rfl) (by kernel_rfl) (by kernel_rfl) (by kernel_rfl) (by kernel_rfl) (by kernel_rfl)) ?_
  refine aR 1 ?_
  refine aE ?_
  refine awp_ret ?_
  exact oF hF [] []

/-! ### strings.Compare -/
def strings_Compare_R (qa : List UInt8) (qb : List UInt8) (r : Unit) : TV × Mem := (.v (.one (.d (.int .i64 (Lib.compareBytes qa qb)))), ⟨[], []⟩)

theorem strings_Compare_ok {qa : List UInt8} {qb : List UInt8} {r} (hF : strings_Compare qa qb = some r) : Holds prog 62 [.v (.one (.d (.str qa))), .v (.one (.d (.str qb)))] ⟨[], []⟩ (Is (strings_Compare_R qa qb r)) := by
  unfold strings_Compare at hF
  refine holds_of_awp hΓ (fn := f62) (c := cB f62) (A := 0) (nx := 0) (by kernel_rfl) (by kernel_rfl) (by kernel_rfl) (by kernel_rfl) (by kernel_rfl) (by kernel_rfl) (lowc_of (by kernel_rfl)) ?_
  show Awp prog 0 8 (cB f62) _ _
  refine awp_seq ?_
  refine awp_region ?_
  refine aR 1 ?_
  refine aE ?_
  refine awp_seq ?_
  refine bE hF fun _ h1 hF => ?_
  refine awp_region ?_
  refine aR 2 ?_
  refine aC (bytealg_CompareString_ok h1) [] [] [] ?_
  refine aR 1 ?_
  refine aE ?_
  refine awp_ret ?_
  exact oF hF [] []

/-! ### cmp.isNaN[int] -/
def cmp_isNaN_int_R (qx : Int) (r : Unit) : TV × Mem := (.v (.one (.d (.bool (!decide (qx = qx))))), ⟨[], []⟩)

theorem cmp_isNaN_int_ok {qx : Int} {r} (hF : cmp_isNaN_int qx = some r) : Holds prog 80 [.v (.one (.d (.int .i64 qx)))] ⟨[], []⟩ (Is (cmp_isNaN_int_R qx r)) := by
  unfold cmp_isNaN_int at hF
  refine holds_of_awp hΓ (fn := f80) (c := cB f80) (A := 0) (nx := 0) (by kernel_rfl) (by kernel_rfl) (by kernel_rfl) (by kernel_rfl) (by kernel_rfl) (by kernel_rfl) (lowc_of (by kernel_rfl)) ?_
  show Awp prog 0 6 (cB f80) _ _
  refine awp_seq ?_
  refine awp_region ?_
  refine aR 1 ?_
  refine aE ?_
  refine awp_seq ?_
  refine awp_region ?_
  refine aR 4 ?_
  refine aE ?_
  refine awp_ret ?_
  exact oF hF [] []

/-! ### cmp.Compare[int] -/
def cmp_Compare_int_R (qx : Int) (qy : Int) (r : Int) : TV × Mem := (.v (.one (.d (.int .i64 r))), ⟨[], []⟩)

theorem cmp_Compare_int_ok {qx : Int} {qy : Int} {r} (hF : cmp_Compare_int qx qy = some r) : Holds prog 63 [.v (.one (.d (.int .i64 qx))), .v (.one (.d (.int .i64 qy)))] ⟨[], []⟩ (Is (cmp_Compare_int_R qx qy r)) := by
  unfold cmp_Compare_int at hF
  refine holds_of_awp hΓ (fn := f63) (c := cB f63) (A := 0) (nx := 0) (by kernel_rfl) (by kernel_rfl) (by kernel_rfl) (by kernel_rfl) (by kernel_rfl) (by kernel_rfl) (lowc_of (by kernel_rfl)) ?_
  show Awp prog 0 20 (cB f63) _ _
  refine awp_seq ?_
  refine awp_region ?_
  refine aR 1 ?_
  refine aE ?_
  refine awp_seq ?_
  refine bE hF fun _ h1 hF => ?_
  refine awp_region ?_
  refine aR 1 ?_
  refine aC (cmp_isNaN_int_ok h1) [] [] [] ?_
  refine aR 1 ?_
  refine aE ?_
  refine awp_seq ?_
  refine bE hF fun _ h2 hF => ?_
  refine awp_region ?_
  refine aR 1 ?_
  refine aC (cmp_isNaN_int_ok h2) [] [] [] ?_
  refine aR 1 ?_
  refine aE ?_
  refine awp_seq ?_
  refine awp_seq ?_
  refine awp_region ?_
  refine aR 1 ?_
  refine aE ?_
  refine cE hF (fun h3 hF => ?_) fun h3 hF => ?_
  · refine awp_true (by kernel_rfl) h3 ?_
    refine awp_seq ?_
    refine awp_seq ?_
    refine awp_region ?_
    refine aR 1 ?_
    refine aE ?_
    refine cE hF (fun h4 hF => ?_) fun h4 hF => ?_
    · refine awp_true (by kernel_rfl) h4 ?_
      refine awp_seq ?_
      refine awp_region ?_
      refine aR 1 ?_
      refine aE ?_
      refine awp_ret ?_
      exact oF hF [] []
    · refine awp_false (by kernel_rfl) h4 ?_
      refine awp_skip ?_
      refine awp_seq ?_
      refine awp_region ?_
      refine aR 1 ?_
      refine aE ?_
      refine awp_ret ?_
      exact oF hF [] []
  · refine awp_false (by kernel_rfl) h3 ?_
    refine awp_skip ?_
    refine awp_seq ?_
    refine awp_seq ?_
    refine awp_region ?_
    refine aR 1 ?_
    refine aE ?_
    refine cE hF (fun h5 hF => ?_) fun h5 hF => ?_
    · refine awp_true (by kernel_rfl) h5 ?_
      refine awp_seq ?_
      refine awp_region ?_
      refine aR 1 ?_
      refine aE ?_
      refine awp_ret ?_
      exact oF hF [] []
    · refine awp_false (by kernel_rfl) h5 ?_
      refine awp_skip ?_
      refine awp_seq ?_
      refine awp_seq ?_
      refine awp_region ?_
      refine aR 3 ?_
      refine aE ?_
      refine cE hF (fun h6 hF => ?_) fun h6 hF => ?_
      · refine awp_true (by kernel_rfl) h6 ?_
        refine awp_seq ?_
        refine awp_region ?_
        refine aR 1 ?_
        refine aE ?_
        refine awp_ret ?_
        exact oF hF [] []
      · refine awp_false (by kernel_rfl) h6 ?_
        refine awp_skip ?_
        refine awp_seq ?_
        refine awp_seq ?_
        refine awp_region ?_
        refine aR 3 ?_
        refine aE ?_
        refine cE hF (fun h7 hF => ?_) fun h7 hF => ?_
        · refine awp_true (by kernel_rfl) h7 ?_
          refine awp_seq ?_
          refine awp_region ?_
          refine aR 1 ?_
          refine aE ?_
          refine awp_ret ?_
          exact oF hF [] []
        · refine awp_false (by kernel_rfl) h7 ?_
          refine awp_skip ?_
          refine awp_seq ?_
          refine awp_region ?_
          refine aR 1 ?_
          refine aE ?_
          refine awp_ret ?_
          exact oF hF [] []

/-! ### cmp.Or[int] -/
def cmp_Or_int_x1_k : Unit ⊕ Int → AEx
  | .inl _ => .exit 0
  | .inr _ => .ret

def cmp_Or_int_x1_S (qvals : List Int) : Unit ⊕ Int → St
  | .inl _ => Mem.st ⟨[], []⟩ (tl [(3, .v (.one (.d (.int .i64 0))))]) 0
  | .inr vx1 => Mem.st ⟨[], []⟩ (tl [(2, .v (.one (.d (.int .i64 vx1))))]) 0

def cmp_Or_int_x1_H (qvals : List Int) : Int → St
  | vx => Mem.st ⟨[], []⟩ (tl [(3, .v (.one (.d (.int .i64 0)))), (6, .v (.one (.d (.lst (List.map (encI .i64) qvals))))), (7, .v (.one (.d (.int .i64 (qvals.length : Int))))), (8, .v (.one (.d (.int .i64 vx))))]) 0

theorem cmp_Or_int_x1_ok (qvals : List Int) (vx : Int) (r : (Int) ⊕ (Unit ⊕ Int)) (hF : cmp_Or_int_x1 qvals vx = some r) : Awp prog 0 18 (cL (cL (cR (cL (cR (cR (cB f61))))))) (Out 0 (kk cmp_Or_int_x1_k) (SS (cmp_Or_int_x1_H qvals) (cmp_Or_int_x1_S qvals)) r) (cmp_Or_int_x1_H qvals vx) := by
  unfold cmp_Or_int_x1 at hF
  refine awp_seq ?_
  refine awp_region ?_
  refine aR 1 ?_
  refine aE ?_
  refine awp_seq ?_
  refine cE hF (fun h1 hF => ?_) fun h1 hF => ?_
  · refine awp_true (by kernel_rfl) h1 ?_
    refine awp_skip ?_
    refine awp_seq ?_
    refine awp_block ?_
    refine awp_seq ?_
    refine bE hF fun vy1 h2 hF => ?_
    refine awp_region ?_
    refine aX (x_idx (encI .i64) h2) ?_
    refine aR 2 ?_
    refine aE ?_
    refine awp_seq ?_
    refine awp_region ?_
    refine aR 3 ?_
    refine aE ?_
    refine cE hF (fun h3 hF => ?_) fun h3 hF => ?_
    · refine awp_true (by kernel_rfl) h3 ?_
      refine awp_seq ?_
      refine awp_region ?_
      refine aR 2 ?_
      refine aE ?_
      refine awp_ret ?_
      exact oO hF [] [] rfl
    · refine awp_false (by kernel_rfl) h3 ?_
      refine awp_skip ?_
      refine awp_region ?_
      refine aR 2 ?_
      refine aE ?_
      exact oO hF [] [] rfl
  · refine awp_false (by kernel_rfl) h1 ?_
    refine awp_exit ?_
    exact oO hF [] [] rfl

def cmp_Or_int_R (qvals : List Int) (r : Int) : TV × Mem := (.v (.one (.d (.int .i64 r))), ⟨[], []⟩)

theorem cmp_Or_int_ok {qvals : List Int} {r} (hF : cmp_Or_int qvals = some r) : Holds prog 61 [.v (.one (.d (.lst (List.map (encI .i64) qvals))))] ⟨[], []⟩ (Is (cmp_Or_int_R qvals r)) := by
  unfold cmp_Or_int at hF
  refine holds_of_awp hΓ (fn := f61) (c := cB f61) (A := 0) (nx := 0) (by kernel_rfl) (by kernel_rfl) (by kernel_rfl) (by kernel_rfl) (by kernel_rfl) (by kernel_rfl) (lowc_of (by kernel_rfl)) ?_
  show Awp prog 0 18 (cB f61) _ _
  refine awp_seq ?_
  refine awp_region ?_
  refine aR 1 ?_
  refine aE ?_
  refine awp_seq ?_
  refine awp_region ?_
  refine aR 1 ?_
  refine aE ?_
  refine awp_seq ?_
  refine awp_seq ?_
  refine awp_region ?_
  refine aR 1 ?_
  refine aL (encI .i64) qvals ?_
  refine aR 1 ?_
  refine aE ?_
  refine awp_block ?_
  refine awp_to (st' := cmp_Or_int_x1_H qvals 0) (oT [] []) ?_
  refine bE hF fun x h4 hF => ?_
  rcases x with _ | vx1_1
  · refine awp_sub (awp_loop' (cmp_Or_int_x1_H qvals) cmp_Or_int_x1_k (cmp_Or_int_x1_S qvals) (by intro x; rcases x with x | x <;> exact fun h => nomatch h) h4 (cmp_Or_int_x1_ok qvals)) ?_
    refine awp_seq ?_
    refine awp_region ?_
    refine aR 2 ?_
    refine aE ?_
    refine awp_ret ?_
    exact oF hF [] []
  · refine awp_sub (awp_loop' (cmp_Or_int_x1_H qvals) cmp_Or_int_x1_k (cmp_Or_int_x1_S qvals) (by intro x; rcases x with x | x <;> exact fun h => nomatch h) h4 (cmp_Or_int_x1_ok qvals)) ?_
    exact oF hF [] []

/-! ### beaconfleet/series.byDevice -/
def series_byDevice_R (qa : api_Sample) (qb : api_Sample) (r : Int) : TV × Mem := (.v (.one (.d (.int .i64 r))), ⟨[], []⟩)

theorem series_byDevice_ok {qa : api_Sample} {qb : api_Sample} {r} (hF : series_byDevice qa qb = some r) : Holds prog 37 [.v (.agg [.d (.str qa.Device), .d (.str qa.Metric), .d (.int .i64 qa.At), .d (.int .i64 qa.Value)]), .v (.agg [.d (.str qb.Device), .d (.str qb.Metric), .d (.int .i64 qb.At), .d (.int .i64 qb.Value)])] ⟨[], []⟩ (Is (series_byDevice_R qa qb r)) := by
  unfold series_byDevice at hF
  refine holds_of_awp hΓ (fn := f37) (c := cB f37) (A := 0) (nx := 0) (by kernel_rfl) (by kernel_rfl) (by kernel_rfl) (by kernel_rfl) (by kernel_rfl) (by kernel_rfl) (lowc_of (by kernel_rfl)) ?_
  show Awp prog 0 22 (cB f37) _ _
  refine awp_seq ?_
  refine awp_region ?_
  refine aR 3 ?_
  refine aE ?_
  refine awp_seq ?_
  refine bE hF fun _ h1 hF => ?_
  refine bE hF fun _ h2 hF => ?_
  refine bE hF fun vr h3 hF => ?_
  refine bE hF fun vr1 h4 hF => ?_
  refine aD ?_
  refine dR 4 ?_
  refine dC (strings_Compare_ok h1) [] [] [] ?_
  refine dR 4 ?_
  refine dC (strings_Compare_ok h2) [] [] [] ?_
  refine dR 4 ?_
  refine dC (cmp_Compare_int_ok h3) [] [] [] ?_
  refine dR 1 ?_
  refine dC (cmp_Or_int_ok h4) [] [] [18000] ?_
  refine dR 1 ?_
  refine dE ?_
  refine awp_ret ?_
  exact oF hF [] []

/-! ### beaconfleet/series.Check -/
def series_Check_x2_k : Bool → AEx
  | _ => .normal

def series_Check_x2_S (ql : List api_Sample) (vx : Int) (vy2 : api_Sample) : Bool → St
  | vx4 => Mem.st ⟨[], [(0, [.d (.str vy2.Device), .d (.str vy2.Metric), .d (.int .i64 vy2.At), .d (.int .i64 vy2.Value)])]⟩ (tl [(0, .v (.one (.d (.lst (List.map api_Sample.enc ql))))), (3, .v (.one (.d (.int .i64 vx)))), (4, .v (.one (.box 0 0))), (8, .v (.one (.d (.lst (List.map api_Sample.enc ql))))), (9, .v (.one (.d (.int .i64 (ql.length : Int))))), (10, .v (.one (.d (.int .i64 vx)))), (15, .v (.one (.d (.bool vx4))))]) 1

def series_Check_x2_I (ql : List api_Sample) (vx : Int) (vy2 : api_Sample) : St := Mem.st ⟨[], [(0, [.d (.str vy2.Device), .d (.str vy2.Metric), .d (.int .i64 vy2.At), .d (.int .i64 vy2.Value)])]⟩ (tl [(0, .v (.one (.d (.lst (List.map api_Sample.enc ql))))), (3, .v (.one (.d (.int .i64 vx)))), (4, .v (.one (.box 0 0))), (8, .v (.one (.d (.lst (List.map api_Sample.enc ql))))), (9, .v (.one (.d (.int .i64 (ql.length : Int))))), (10, .v (.one (.d (.int .i64 vx))))]) 1

theorem series_Check_x2_ok (ql : List api_Sample) (vx : Int) (vy2 : api_Sample) {r} (hF : series_Check_x2 vy2 = some r) : Awp prog 0 50 (cL (cL (cR (cL (cL (cR (cR (cL (cL (cR (cL (cR (cR (cB f15)))))))))))))) (Out 0 series_Check_x2_k (series_Check_x2_S ql vx vy2) r) (series_Check_x2_I ql vx vy2) := by
  unfold series_Check_x2 at hF
  refine bE hF fun vr3 h4 hF => ?_
  refine cE hF (fun h5 hF => ?_) fun h5 hF => ?_
  · refine awp_region ?_
    refine aR 2 ?_
    refine aC (base_Key_ok h4) [] [] [] ?_
    refine aB h5 ?_
    refine aR 7 ?_
    refine aE ?_
    exact oO hF [] [] rfl
  · refine bE hF fun vr4 h6 hF => ?_
    refine awp_region ?_
    refine aR 2 ?_
    refine aC (base_Key_ok h4) [] [] [] ?_
    refine aB h5 ?_
    refine aR 3 ?_
    refine aC (base_Key_ok h6) [] [] [] ?_
    refine aR 3 ?_
    refine aE ?_
    exact oO hF [] [] rfl

def series_Check_x3_k : Bool → AEx
  | _ => .normal

def series_Check_x3_S (ql : List api_Sample) (vx : Int) (vy2 : api_Sample) : Bool → St
  | vx5 => Mem.st ⟨[], [(0, [.d (.str vy2.Device), .d (.str vy2.Metric), .d (.int .i64 vy2.At), .d (.int .i64 vy2.Value)])]⟩ (tl [(0, .v (.one (.d (.lst (List.map api_Sample.enc ql))))), (3, .v (.one (.d (.int .i64 vx)))), (4, .v (.one (.box 0 0))), (8, .v (.one (.d (.lst (List.map api_Sample.enc ql))))), (9, .v (.one (.d (.int .i64 (ql.length : Int))))), (10, .v (.one (.d (.int .i64 vx)))), (26, .v (.one (.d (.bool vx5))))]) 1

def series_Check_x3_I (ql : List api_Sample) (vx : Int) (vy2 : api_Sample) : St := Mem.st ⟨[], [(0, [.d (.str vy2.Device), .d (.str vy2.Metric), .d (.int .i64 vy2.At), .d (.int .i64 vy2.Value)])]⟩ (tl [(0, .v (.one (.d (.lst (List.map api_Sample.enc ql))))), (3, .v (.one (.d (.int .i64 vx)))), (4, .v (.one (.box 0 0))), (8, .v (.one (.d (.lst (List.map api_Sample.enc ql))))), (9, .v (.one (.d (.int .i64 (ql.length : Int))))), (10, .v (.one (.d (.int .i64 vx))))]) 1

theorem series_Check_x3_ok (ql : List api_Sample) (vx : Int) (vy2 : api_Sample) {r} (hF : series_Check_x3 vy2 = some r) : Awp prog 0 50 (cL (cR (cR (cL (cR (cL (cL (cR (cR (cL (cL (cR (cL (cR (cR (cB f15)))))))))))))))) (Out 0 series_Check_x3_k (series_Check_x3_S ql vx vy2) r) (series_Check_x3_I ql vx vy2) := by
  unfold series_Check_x3 at hF
  refine bE hF fun vr1_2 h9 hF => ?_
  refine cE hF (fun h10 hF => ?_) fun h10 hF => ?_
  · refine awp_region ?_
    refine aR 2 ?_
    refine aC (base_Moment_ok h9) [] [] [] ?_
    refine aB h10 ?_
    refine aR 6 ?_
    refine aE ?_
    exact oO hF [] [] rfl
  · refine bE hF fun vr5 h11 hF => ?_
    refine awp_region ?_
    refine aR 2 ?_
    refine aC (base_Moment_ok h9) [] [] [] ?_
    refine aB h10 ?_
    refine aR 3 ?_
    refine aC (base_Out_ok h11) [] [] [] ?_
    refine aR 2 ?_
    refine aE ?_
    exact oO hF [] [] rfl

def series_Check_x4_k : Bool → AEx
  | _ => .normal

def series_Check_x4_S (ql : List api_Sample) (vx : Int) (vy2 : api_Sample) : Bool → St
  | vx6 => Mem.st ⟨[], []⟩ (tl [(0, .v (.one (.d (.lst (List.map api_Sample.enc ql))))), (8, .v (.one (.d (.lst (List.map api_Sample.enc ql))))), (9, .v (.one (.d (.int .i64 (ql.length : Int))))), (10, .v (.one (.d (.int .i64 vx)))), (36, .v (.one (.d (.bool vx6))))]) 0

def series_Check_x4_I (ql : List api_Sample) (vx : Int) (vy2 : api_Sample) : St := Mem.st ⟨[], [(0, [.d (.str vy2.Device), .d (.str vy2.Metric), .d (.int .i64 vy2.At), .d (.int .i64 vy2.Value)])]⟩ (tl [(0, .v (.one (.d (.lst (List.map api_Sample.enc ql))))), (3, .v (.one (.d (.int .i64 vx)))), (4, .v (.one (.box 0 0))), (8, .v (.one (.d (.lst (List.map api_Sample.enc ql))))), (9, .v (.one (.d (.int .i64 (ql.length : Int))))), (10, .v (.one (.d (.int .i64 vx))))]) 1

theorem series_Check_x4_ok (ql : List api_Sample) (vx : Int) (vy2 : api_Sample) {r} (hF : series_Check_x4 ql vx vy2 = some r) : Awp prog 0 50 (cL (cR (cR (cR (cR (cL (cR (cL (cL (cR (cR (cL (cL (cR (cL (cR (cR (cB f15)))))))))))))))))) (Out 0 series_Check_x4_k (series_Check_x4_S ql vx vy2) r) (series_Check_x4_I ql vx vy2) := by
  unfold series_Check_x4 at hF
  refine cE hF (fun h14 hF => ?_) fun h14 hF => ?_
  · refine bE hF fun vy3 h15 hF => ?_
    refine bE hF fun vr2_2 h16 hF => ?_
    refine aD ?_
    refine dR 1 ?_
    refine dB h14 ?_
    refine dR 5 ?_
    refine dX (x_idx api_Sample.enc h15) ?_
    refine dR 1 ?_
    refine dC (series_byDevice_ok h16) [] [] [] ?_
    refine dR 3 ?_
    refine dE ?_
    exact oO hF [] [] rfl
  · refine aD ?_
    refine dR 1 ?_
    refine dB h14 ?_
    refine dR 11 ?_
    refine dE ?_
    exact oO hF [] [] rfl

def series_Check_x1_k : Unit ⊕ Int → AEx
  | .inl _ => .exit 0
  | .inr _ => .ret

def series_Check_x1_S (ql : List api_Sample) : Unit ⊕ Int → St
  | .inl _ => Mem.st ⟨[], []⟩ (tl []) 0
  | .inr vx7 => Mem.st ⟨[], []⟩ (tl [(2, .v (.one (.d (.int .i64 vx7))))]) 0

def series_Check_x1_H (ql : List api_Sample) : Int → St
  | vx => Mem.st ⟨[], []⟩ (tl [(0, .v (.one (.d (.lst (List.map api_Sample.enc ql))))), (8, .v (.one (.d (.lst (List.map api_Sample.enc ql))))), (9, .v (.one (.d (.int .i64 (ql.length : Int))))), (10, .v (.one (.d (.int .i64 vx))))]) 0

theorem series_Check_x1_ok (ql : List api_Sample) (vx : Int) (r : (Int) ⊕ (Unit ⊕ Int)) (hF : series_Check_x1 ql vx = some r) : Awp prog 0 50 (cL (cL (cR (cL (cR (cR (cB f15))))))) (Out 0 (kk series_Check_x1_k) (SS (series_Check_x1_H ql) (series_Check_x1_S ql)) r) (series_Check_x1_H ql vx) := by
  unfold series_Check_x1 at hF
  refine awp_seq ?_
  refine awp_region ?_
  refine aR 1 ?_
  refine aE ?_
  refine awp_seq ?_
  refine cE hF (fun h2 hF => ?_) fun h2 hF => ?_
  · refine awp_true (by kernel_rfl) h2 ?_
    refine awp_skip ?_
    refine awp_seq ?_
    refine awp_block ?_
    refine awp_seq ?_
    refine bE hF fun vy2 h3 hF => ?_
    refine awp_region ?_
    refine aR 1 ?_
    refine aX (x_idx api_Sample.enc h3) ?_
    refine aR 4 ?_
    refine aE ?_
    refine awp_block ?_
    refine awp_seq ?_
    refine awp_to (st' := series_Check_x2_I ql vx vy2) (oT [(0, 4000)] []) ?_
    refine bE hF fun vx4_1 h7 hF => ?_
    refine awp_sub (series_Check_x2_ok ql vx vy2 h7) ?_
    refine cE hF (fun h8 hF => ?_) fun h8 hF => ?_
    · refine awp_true (by kernel_rfl) h8 ?_
      refine awp_seq ?_
      refine awp_region ?_
      refine aR 1 ?_
      refine aE ?_
      refine awp_ret ?_
      exact oO hF [] [] rfl
    · refine awp_false (by kernel_rfl) h8 ?_
      refine awp_seq ?_
      refine awp_to (st' := series_Check_x3_I ql vx vy2) (oT [] []) ?_
      refine bE hF fun vx5_1 h12 hF => ?_
      refine awp_sub (series_Check_x3_ok ql vx vy2 h12) ?_
      refine cE hF (fun h13 hF => ?_) fun h13 hF => ?_
      · refine awp_true (by kernel_rfl) h13 ?_
        refine awp_seq ?_
        refine awp_region ?_
        refine aR 1 ?_
        refine aE ?_
        refine awp_ret ?_
        exact oO hF [] [] rfl
      · refine awp_false (by kernel_rfl) h13 ?_
        refine awp_seq ?_
        refine awp_to (st' := series_Check_x4_I ql vx vy2) (oT [] []) ?_
        refine bE hF fun vx6_1 h17 hF => ?_
        refine awp_sub (series_Check_x4_ok ql vx vy2 h17) ?_
        refine cE hF (fun h18 hF => ?_) fun h18 hF => ?_
        · refine awp_true (by kernel_rfl) h18 ?_
          refine awp_seq ?_
          refine awp_region ?_
          refine aR 1 ?_
          refine aE ?_
          refine awp_ret ?_
          exact oO hF [] [] rfl
        · refine awp_false (by kernel_rfl) h18 ?_
          refine awp_skip ?_
          refine awp_region ?_
          refine aR 2 ?_
          refine aE ?_
          exact oO hF [] [] rfl
  · refine awp_false (by kernel_rfl) h2 ?_
    refine awp_exit ?_
    exact oO hF [] [] rfl

def series_Check_R (ql : List api_Sample) (r : Int) : TV × Mem := (.v (.one (.d (.int .i64 r))), ⟨[], []⟩)

theorem series_Check_ok {ql : List api_Sample} {r} (hF : series_Check ql = some r) : Holds prog 15 [.v (.one (.d (.lst (List.map api_Sample.enc ql))))] ⟨[], []⟩ (Is (series_Check_R ql r)) := by
  unfold series_Check at hF
  refine holds_of_awp hΓ (fn := f15) (c := cB f15) (A := 0) (nx := 0) (by kernel_rfl) (by kernel_rfl) (by kernel_rfl) (by kernel_rfl) (by kernel_rfl) (by kernel_rfl) (lowc_of (by kernel_rfl)) ?_
  show Awp prog 0 50 (cB f15) _ _
  refine awp_seq ?_
  refine awp_region ?_
  refine aR 1 ?_
  refine aE ?_
  refine awp_seq ?_
  refine awp_seq ?_
  refine awp_region ?_
  refine aR 1 ?_
  refine aL api_Sample.enc ql ?_
  refine aR 1 ?_
  refine aE ?_
  refine cE hF (fun h1 hF => ?_) fun h1 hF => ?_
  · refine awp_true (by kernel_rfl) h1 ?_
    refine awp_seq ?_
    refine awp_region ?_
    refine aR 1 ?_
    refine aE ?_
    refine awp_ret ?_
    exact oF hF [] []
  · refine awp_false (by kernel_rfl) h1 ?_
    refine awp_skip ?_
    refine awp_seq ?_
    refine awp_seq ?_
    refine awp_region ?_
    refine aR 1 ?_
    refine aL api_Sample.enc ql ?_
    refine aR 1 ?_
    refine aE ?_
    refine awp_block ?_
    refine awp_to (st' := series_Check_x1_H ql 0) (oT [] []) ?_
    refine bE hF fun x h19 hF => ?_
    rcases x with _ | vx7_1
    · refine awp_sub (awp_loop' (series_Check_x1_H ql) series_Check_x1_k (series_Check_x1_S ql) (by intro x; rcases x with x | x <;> exact fun h => nomatch h) h19 (series_Check_x1_ok ql)) ?_
      refine awp_seq ?_
      refine awp_region ?_
      refine aR 1 ?_
      refine aE ?_
      refine awp_ret ?_
      exact oF hF [] []
    · refine awp_sub (awp_loop' (series_Check_x1_H ql) series_Check_x1_k (series_Check_x1_S ql) (by intro x; rcases x with x | x <;> exact fun h => nomatch h) h19 (series_Check_x1_ok ql)) ?_
      exact oF hF [] []

/-! ### beaconfleet/base.First -/
def base_First_x1_k : Unit ⊕ Int → AEx
  | .inl _ => .exit 0
  | .inr _ => .ret

def base_First_x1_S (ql : List Int) : Unit ⊕ Int → St
  | .inl _ => Mem.st ⟨[], []⟩ (tl []) 0
  | .inr vx1 => Mem.st ⟨[], []⟩ (tl [(2, .v (.one (.d (.int .i64 vx1))))]) 0

def base_First_x1_H (ql : List Int) : Int → St
  | vx => Mem.st ⟨[], []⟩ (tl [(5, .v (.one (.d (.lst (List.map (encI .i64) ql))))), (6, .v (.one (.d (.int .i64 (ql.length : Int))))), (7, .v (.one (.d (.int .i64 vx))))]) 0

theorem base_First_x1_ok (ql : List Int) (vx : Int) (r : (Int) ⊕ (Unit ⊕ Int)) (hF : base_First_x1 ql vx = some r) : Awp prog 0 15 (cL (cL (cR (cL (cR (cB f34)))))) (Out 0 (kk base_First_x1_k) (SS (base_First_x1_H ql) (base_First_x1_S ql)) r) (base_First_x1_H ql vx) := by
  unfold base_First_x1 at hF
  refine awp_seq ?_
  refine awp_region ?_
  refine aR 1 ?_
  refine aE ?_
  refine awp_seq ?_
  refine cE hF (fun h1 hF => ?_) fun h1 hF => ?_
  · refine awp_true (by kernel_rfl) h1 ?_
    refine awp_skip ?_
    refine awp_seq ?_
    refine awp_block ?_
    refine awp_seq ?_
    refine bE hF fun vy1 h2 hF => ?_
    refine awp_region ?_
    refine aX (x_idx (encI .i64) h2) ?_
    refine aR 2 ?_
    refine aE ?_
    refine awp_seq ?_
    refine awp_region ?_
    refine aR 2 ?_
    refine aE ?_
    refine cE hF (fun h3 hF => ?_) fun h3 hF => ?_
    · refine awp_true (by kernel_rfl) h3 ?_
      refine awp_seq ?_
      refine awp_region ?_
      refine aR 2 ?_
      refine aE ?_
      refine awp_ret ?_
      exact oO hF [] [] rfl
    · refine awp_false (by kernel_rfl) h3 ?_
      refine awp_skip ?_
      refine awp_region ?_
      refine aR 2 ?_
      refine aE ?_
      exact oO hF [] [] rfl
  · refine awp_false (by kernel_rfl) h1 ?_
    refine awp_exit ?_
    exact oO hF [] [] rfl

def base_First_R (ql : List Int) (r : Int) : TV × Mem := (.v (.one (.d (.int .i64 r))), ⟨[], []⟩)

theorem base_First_ok {ql : List Int} {r} (hF : base_First ql = some r) : Holds prog 34 [.v (.one (.d (.lst (List.map (encI .i64) ql))))] ⟨[], []⟩ (Is (base_First_R ql r)) := by
  unfold base_First at hF
  refine holds_of_awp hΓ (fn := f34) (c := cB f34) (A := 0) (nx := 0) (by kernel_rfl) (by kernel_rfl) (by kernel_rfl) (by kernel_rfl) (by kernel_rfl) (by kernel_rfl) (lowc_of (by kernel_rfl)) ?_
  show Awp prog 0 15 (cB f34) _ _
  refine awp_seq ?_
  refine awp_region ?_
  refine aR 1 ?_
  refine aE ?_
  refine awp_seq ?_
  refine awp_seq ?_
  refine awp_region ?_
  refine aR 1 ?_
  refine aL (encI .i64) ql ?_
  refine aR 1 ?_
  refine aE ?_
  refine awp_block ?_
  refine awp_to (st' := base_First_x1_H ql 0) (oT [] []) ?_
  refine bE hF fun x h4 hF => ?_
  rcases x with _ | vx1_1
  · refine awp_sub (awp_loop' (base_First_x1_H ql) base_First_x1_k (base_First_x1_S ql) (by intro x; rcases x with x | x <;> exact fun h => nomatch h) h4 (base_First_x1_ok ql)) ?_
    refine awp_seq ?_
    refine awp_region ?_
    refine aR 1 ?_
    refine aE ?_
    refine awp_ret ?_
    exact oF hF [] []
  · refine awp_sub (awp_loop' (base_First_x1_H ql) base_First_x1_k (base_First_x1_S ql) (by intro x; rcases x with x | x <;> exact fun h => nomatch h) h4 (base_First_x1_ok ql)) ?_
    exact oF hF [] []

/-! ### slices.Grow[[]beaconfleet/api.Sample,beaconfleet/api.Sample] -/
def slices_Grow_api_Sample_api_Sample_n0_x1_k : (List api_Sample) → AEx
  | _ => .normal

def slices_Grow_api_Sample_api_Sample_n0_x1_S (qn : Int) : (List api_Sample) → St
  | vs => Mem.st ⟨[(0, ⟨32, 4, List.map api_Sample.enc vs⟩)], []⟩ (tl [(0, .v (.one (.own 0 none)))]) 1

def slices_Grow_api_Sample_api_Sample_n0_x1_I (qn : Int) : St := Mem.st ⟨[], []⟩ (tl [(0, .v (.one (.nil))), (1, .v (.one (.d (.int .i64 qn))))]) 0

theorem slices_Grow_api_Sample_api_Sample_n0_x1_ok (qn : Int) {r} (hF : slices_Grow_api_Sample_api_Sample_n0_x1 qn = some r) : Awp prog 0 27 (cL (cR (cR (cB f58)))) (Out 0 slices_Grow_api_Sample_api_Sample_n0_x1_k (slices_Grow_api_Sample_api_Sample_n0_x1_S qn) r) (slices_Grow_api_Sample_api_Sample_n0_x1_I qn) := by
  unfold slices_Grow_api_Sample_api_Sample_n0_x1 at hF
  refine awp_seq ?_
  refine awp_region ?_
  refine aR 2 ?_
  refine aK rfl ?_
  refine aR 5 ?_
  refine aE ?_
  refine awp_seq ?_
  refine awp_region ?_
  refine aR 2 ?_
  refine aE ?_
  refine cE hF (fun h3 hF => ?_) fun h3 hF => ?_
  · refine awp_true (by kernel_rfl) h3 ?_
    refine gE hF fun h4 hF => ?_
    refine gE hF fun h5 hF => ?_
    refine awp_region ?_
    refine aR 2 ?_
    refine aK rfl ?_
    refine aSn rfl ?_
    refine aR 1 ?_
    refine aZ api_Sample.enc (api_Sample.mk ([] : List UInt8) ([] : List UInt8) 0 0) h4 rfl ?_
    refine aR 2 ?_
    refine aT api_Sample.enc 15000 h5 rfl ?_
    refine aR 1 ?_
    refine aE ?_
    exact oO hF [(0, 18000)] [] rfl
  · refine awp_false (by kernel_rfl) h3 ?_
    refine awp_skip ?_
    exact oO hF [] [0] rfl

def slices_Grow_api_Sample_api_Sample_n0_R (qn : Int) (r : (List api_Sample)) : TV × Mem := (.v (.one (.own 0 none)), ⟨[(0, ⟨32, 4, List.map api_Sample.enc r⟩)], []⟩)

theorem slices_Grow_api_Sample_api_Sample_n0_ok {qn : Int} {r} (hF : slices_Grow_api_Sample_api_Sample_n0 qn = some r) : Holds prog 58 [.v (.one (.nil)), .v (.one (.d (.int .i64 qn)))] ⟨[], []⟩ (Is (slices_Grow_api_Sample_api_Sample_n0_R qn r)) := by
  unfold slices_Grow_api_Sample_api_Sample_n0 at hF
  refine holds_of_awp hΓ (fn := f58) (c := cB f58) (A := 0) (nx := 0) (by kernel_rfl) (by kernel_rfl) (by kernel_rfl) (by kernel_rfl) (by kernel_rfl) (by kernel_rfl) (lowc_of (by kernel_rfl)) ?_
  show Awp prog 0 27 (cB f58) _ _
  refine awp_seq ?_
  refine awp_region ?_
  refine aR 1 ?_
  refine aE ?_
  refine awp_seq ?_
  refine awp_seq ?_
  refine awp_region ?_
  refine aR 2 ?_
  refine aE ?_
  refine cE hF (fun h1 hF => ?_) fun h1 hF => ?_
  · refine awp_true (by kernel_rfl) h1 ?_
    exact nE hF
  · refine awp_false (by kernel_rfl) h1 ?_
    refine awp_skip ?_
    refine awp_seq ?_
    refine awp_to (st' := slices_Grow_api_Sample_api_Sample_n0_x1_I qn) (oT [] []) ?_
    refine bE hF fun vs1 h6 hF => ?_
    refine awp_sub (slices_Grow_api_Sample_api_Sample_n0_x1_ok qn h6) ?_
    refine awp_seq ?_
    refine awp_region ?_
    refine aR 2 ?_
    refine aE ?_
    refine awp_ret ?_
    exact oF hF [] []

/-! ### slices.Concat[[]beaconfleet/api.Sample,beaconfleet/api.Sample] -/
def slices_Concat_api_Sample_api_Sample_o0_x1_k : Int → AEx
  | _ => .exit 0

def slices_Concat_api_Sample_api_Sample_o0_x1_S (qslices : List (List api_Sample)) : Int → St
  | vsize1 => Mem.st ⟨[], []⟩ (tl [(0, .v (.one (.d (.lst (List.map (encL api_Sample.enc) qslices))))), (3, .v (.one (.d (.int .i64 vsize1))))]) 1

def slices_Concat_api_Sample_api_Sample_o0_x1_H (qslices : List (List api_Sample)) : Int × Int → St
  | (vsize, vx) => Mem.st ⟨[], []⟩ (tl [(0, .v (.one (.d (.lst (List.map (encL api_Sample.enc) qslices))))), (3, .v (.one (.d (.int .i64 vsize)))), (9, .v (.one (.d (.lst (List.map (encL api_Sample.enc) qslices))))), (10, .v (.one (.d (.int .i64 (qslices.length : Int))))), (11, .v (.one (.d (.int .i64 vx))))]) 1

theorem slices_Concat_api_Sample_api_Sample_o0_x1_ok (qslices : List (List api_Sample)) (s : Int × Int) (r : (Int × Int) ⊕ (Int)) (hF : slices_Concat_api_Sample_api_Sample_o0_x1 qslices s = some r) : Awp prog 1 36 (cL (cL (cR (cL (cR (cR (cB f35))))))) (Out 1 (kk slices_Concat_api_Sample_api_Sample_o0_x1_k) (SS (slices_Concat_api_Sample_api_Sample_o0_x1_H qslices) (slices_Concat_api_Sample_api_Sample_o0_x1_S qslices)) r) (slices_Concat_api_Sample_api_Sample_o0_x1_H qslices s) := by
  obtain ⟨vsize, vx⟩ := s
  unfold slices_Concat_api_Sample_api_Sample_o0_x1 at hF
  refine awp_seq ?_
  refine awp_region ?_
  refine aR 1 ?_
  refine aE ?_
  refine awp_seq ?_
  refine cE hF (fun h1 hF => ?_) fun h1 hF => ?_
  · refine awp_true (by kernel_rfl) h1 ?_
    refine awp_skip ?_
    refine awp_seq ?_
    refine awp_block ?_
    refine awp_seq ?_
    refine bE hF fun vy1 h2 hF => ?_
    refine awp_region ?_
    refine aX (x_idx (encL api_Sample.enc) h2) ?_
    refine aR 2 ?_
    refine aE ?_
    refine awp_seq ?_
    refine awp_region ?_
    refine aR 2 ?_
    refine aL api_Sample.enc vy1 ?_
    refine aR 2 ?_
    refine aE ?_
    refine awp_seq ?_
    refine awp_region ?_
    refine aR 2 ?_
    refine aE ?_
    refine cE hF (fun h3 hF => ?_) fun h3 hF => ?_
    · refine awp_true (by kernel_rfl) h3 ?_
      exact nE hF
    · refine awp_false (by kernel_rfl) h3 ?_
      refine awp_skip ?_
      refine awp_region ?_
      refine aR 2 ?_
      refine aE ?_
      exact oO hF [] [] rfl
  · refine awp_false (by kernel_rfl) h1 ?_
    refine awp_exit ?_
    exact oO hF [] [] rfl

def slices_Concat_api_Sample_api_Sample_o0_x2_k : (List api_Sample) → AEx
  | _ => .exit 2

def slices_Concat_api_Sample_api_Sample_o0_x2_S (qslices : List (List api_Sample)) : (List api_Sample) → St
  | vnewslice1 => Mem.st ⟨[(1, ⟨32, 4, List.map api_Sample.enc vnewslice1⟩)], []⟩ (tl [(6, .v (.one (.own 1 none)))]) 2

def slices_Concat_api_Sample_api_Sample_o0_x2_H (qslices : List (List api_Sample)) : (List api_Sample) × Int → St
  | (vnewslice, vx1) => Mem.st ⟨[(1, ⟨32, 4, List.map api_Sample.enc vnewslice⟩)], []⟩ (tl [(6, .v (.one (.own 1 none))), (25, .v (.one (.d (.lst (List.map (encL api_Sample.enc) qslices))))), (26, .v (.one (.d (.int .i64 (qslices.length : Int))))), (27, .v (.one (.d (.int .i64 vx1))))]) 2

theorem slices_Concat_api_Sample_api_Sample_o0_x2_ok (qslices : List (List api_Sample)) (s : (List api_Sample) × Int) (r : ((List api_Sample) × Int) ⊕ ((List api_Sample))) (hF : slices_Concat_api_Sample_api_Sample_o0_x2 qslices s = some r) : Awp prog 1 36 (cL (cL (cR (cL (cR (cR (cR (cR (cB f35))))))))) (Out 1 (kk slices_Concat_api_Sample_api_Sample_o0_x2_k) (SS (slices_Concat_api_Sample_api_Sample_o0_x2_H qslices) (slices_Concat_api_Sample_api_Sample_o0_x2_S qslices)) r) (slices_Concat_api_Sample_api_Sample_o0_x2_H qslices s) := by
  obtain ⟨vnewslice, vx1⟩ := s
  unfold slices_Concat_api_Sample_api_Sample_o0_x2 at hF
  refine awp_seq ?_
  refine awp_region ?_
  refine aR 1 ?_
  refine aE ?_
  refine awp_seq ?_
  refine cE hF (fun h7 hF => ?_) fun h7 hF => ?_
  · refine awp_true (by kernel_rfl) h7 ?_
    refine awp_skip ?_
    refine awp_seq ?_
    refine awp_block ?_
    refine awp_seq ?_
    refine bE hF fun vy3 h8 hF => ?_
    refine awp_region ?_
    refine aX (x_idx (encL api_Sample.enc) h8) ?_
    refine aR 2 ?_
    refine aE ?_
    refine gE hF fun h9 hF => ?_
    refine awp_region ?_
    refine aR 2 ?_
    refine aX (x_app api_Sample.enc 1 h9) ?_
    refine aR 1 ?_
    refine aE ?_
    refine awp_region ?_
    refine aR 2 ?_
    refine aE ?_
    exact oO hF [(1, 6002)] [] rfl
  · refine awp_false (by kernel_rfl) h7 ?_
    refine awp_exit ?_
    exact oO hF [] [] rfl

def slices_Concat_api_Sample_api_Sample_o0_R (qslices : List (List api_Sample)) (r : (List api_Sample)) : TV × Mem := (.v (.one (.own 1 none)), ⟨[(1, ⟨32, 4, List.map api_Sample.enc r⟩)], []⟩)

theorem slices_Concat_api_Sample_api_Sample_o0_ok {qslices : List (List api_Sample)} {r} (hF : slices_Concat_api_Sample_api_Sample_o0 qslices = some r) : Holds prog 35 [.v (.one (.own 0 none))] ⟨[(0, ⟨26, 1, List.map (encL api_Sample.enc) qslices⟩)], []⟩ (Is (slices_Concat_api_Sample_api_Sample_o0_R qslices r)) := by
  unfold slices_Concat_api_Sample_api_Sample_o0 at hF
  refine holds_of_awp hΓ (fn := f35) (c := cB f35) (A := 1) (nx := 1) (by kernel_rfl) (by kernel_rfl) (by kernel_rfl) (by kernel_rfl) (by kernel_rfl) (by kernel_rfl) (lowc_of (by kernel_rfl)) ?_
  show Awp prog 1 36 (cB f35) _ _
  refine awp_seq ?_
  refine awp_region ?_
  refine aR 1 ?_
  refine aE ?_
  refine awp_to (oT (m := ⟨[], []⟩) (ts := [(0, .v (.one (.d (.lst (List.map (encL api_Sample.enc) qslices)))))]) (nx := 1) [] []) ?_
  refine awp_seq ?_
  refine awp_region ?_
  refine aR 1 ?_
  refine aE ?_
  refine awp_seq ?_
  refine awp_seq ?_
  refine awp_region ?_
  refine aR 1 ?_
  refine aL (encL api_Sample.enc) qslices ?_
  refine aR 1 ?_
  refine aE ?_
  refine awp_block ?_
  refine awp_to (st' := slices_Concat_api_Sample_api_Sample_o0_x1_H qslices (0, 0)) (oT [] []) ?_
  refine bE hF fun vsize1_1 h5 hF => ?_
  refine awp_sub (awp_loop' (slices_Concat_api_Sample_api_Sample_o0_x1_H qslices) slices_Concat_api_Sample_api_Sample_o0_x1_k (slices_Concat_api_Sample_api_Sample_o0_x1_S qslices) (by intro x; exact fun h => nomatch h) h5 (slices_Concat_api_Sample_api_Sample_o0_x1_ok qslices)) ?_
  refine awp_seq ?_
  refine bE hF fun vr h6 hF => ?_
  refine awp_region ?_
  refine aR 1 ?_
  refine aC (slices_Grow_api_Sample_api_Sample_n0_ok h6) [] [] [] ?_
  refine aR 1 ?_
  refine aE ?_
  refine awp_seq ?_
  refine awp_seq ?_
  refine awp_region ?_
  refine aR 1 ?_
  refine aL (encL api_Sample.enc) qslices ?_
  refine aR 1 ?_
  refine aE ?_
  refine awp_block ?_
  refine awp_to (st' := slices_Concat_api_Sample_api_Sample_o0_x2_H qslices (vr, 0)) (oT [(1, 1001)] []) ?_
  refine bE hF fun vnewslice1_1 h10 hF => ?_
  refine awp_sub (awp_loop' (slices_Concat_api_Sample_api_Sample_o0_x2_H qslices) slices_Concat_api_Sample_api_Sample_o0_x2_k (slices_Concat_api_Sample_api_Sample_o0_x2_S qslices) (by intro x; exact fun h => nomatch h) h10 (slices_Concat_api_Sample_api_Sample_o0_x2_ok qslices)) ?_
  refine awp_seq ?_
  refine awp_region ?_
  refine aR 2 ?_
  refine aE ?_
  refine awp_ret ?_
  exact oF hF [] []

/-! ### math/bits.Len64 -/
def bits_Len64_x1_k : (Int × Int) → AEx
  | _ => .normal

def bits_Len64_x1_S (qx : Int) : (Int × Int) → St
  | (vx, vn) => Mem.st ⟨[], []⟩ (tl [(0, .v (.one (.d (.int .u64 vx)))), (2, .v (.one (.d (.int .i64 vn))))]) 0

def bits_Len64_x1_I (qx : Int) : St := Mem.st ⟨[], []⟩ (tl [(0, .v (.one (.d (.int .u64 qx)))), (2, .v (.one (.d (.int .i64 0))))]) 0

theorem bits_Len64_x1_ok (qx : Int) {r} (hF : bits_Len64_x1 qx = some r) : Awp prog 0 25 (cL (cR (cB f78))) (Out 0 bits_Len64_x1_k (bits_Len64_x1_S qx) r) (bits_Len64_x1_I qx) := by
  unfold bits_Len64_x1 at hF
  refine awp_seq ?_
  refine awp_region ?_
  refine aR 2 ?_
  refine aE ?_
  refine cE hF (fun h1 hF => ?_) fun h1 hF => ?_
  · refine awp_true (by kernel_rfl) h1 ?_
    refine awp_seq ?_
    refine awp_region ?_
    refine aR 3 ?_
    refine aE ?_
    refine awp_region ?_
    refine aR 1 ?_
    refine aE ?_
    exact oO hF [] [] rfl
  · refine awp_false (by kernel_rfl) h1 ?_
    refine awp_skip ?_
    exact oO hF [] [] rfl

def bits_Len64_x2_k : (Int × Int) → AEx
  | _ => .normal

def bits_Len64_x2_S (vx1 : Int) (vn1 : Int) : (Int × Int) → St
  | (vx2, vn2) => Mem.st ⟨[], []⟩ (tl [(0, .v (.one (.d (.int .u64 vx2)))), (2, .v (.one (.d (.int .i64 vn2))))]) 0

def bits_Len64_x2_I (vx1 : Int) (vn1 : Int) : St := Mem.st ⟨[], []⟩ (tl [(0, .v (.one (.d (.int .u64 vx1)))), (2, .v (.one (.d (.int .i64 vn1))))]) 0

theorem bits_Len64_x2_ok (vx1 : Int) (vn1 : Int) {r} (hF : bits_Len64_x2 vx1 vn1 = some r) : Awp prog 0 25 (cL (cR (cR (cB f78)))) (Out 0 bits_Len64_x2_k (bits_Len64_x2_S vx1 vn1) r) (bits_Len64_x2_I vx1 vn1) := by
  unfold bits_Len64_x2 at hF
  refine awp_seq ?_
  refine awp_region ?_
  refine aR 2 ?_
  refine aE ?_
  refine cE hF (fun h3 hF => ?_) fun h3 hF => ?_
  · refine awp_true (by kernel_rfl) h3 ?_
    refine awp_seq ?_
    refine awp_region ?_
    refine aR 3 ?_
    refine aE ?_
    refine awp_region ?_
    refine aR 3 ?_
    refine aE ?_
    exact oO hF [] [] rfl
  · refine awp_false (by kernel_rfl) h3 ?_
    refine awp_skip ?_
    exact oO hF [] [] rfl

def bits_Len64_x3_k : (Int × Int) → AEx
  | _ => .normal

def bits_Len64_x3_S (vx2_1 : Int) (vn2_1 : Int) : (Int × Int) → St
  | (vx3, vn3) => Mem.st ⟨[], []⟩ (tl [(0, .v (.one (.d (.int .u64 vx3)))), (2, .v (.one (.d (.int .i64 vn3))))]) 0

def bits_Len64_x3_I (vx2_1 : Int) (vn2_1 : Int) : St := Mem.st ⟨[], []⟩ (tl [(0, .v (.one (.d (.int .u64 vx2_1)))), (2, .v (.one (.d (.int .i64 vn2_1))))]) 0

theorem bits_Len64_x3_ok (vx2_1 : Int) (vn2_1 : Int) {r} (hF : bits_Len64_x3 vx2_1 vn2_1 = some r) : Awp prog 0 25 (cL (cR (cR (cR (cB f78))))) (Out 0 bits_Len64_x3_k (bits_Len64_x3_S vx2_1 vn2_1) r) (bits_Len64_x3_I vx2_1 vn2_1) := by
  unfold bits_Len64_x3 at hF
  refine awp_seq ?_
  refine awp_region ?_
  refine aR 2 ?_
  refine aE ?_
  refine cE hF (fun h5 hF => ?_) fun h5 hF => ?_
  · refine awp_true (by kernel_rfl) h5 ?_
    refine awp_seq ?_
    refine awp_region ?_
    refine aR 3 ?_
    refine aE ?_
    refine awp_region ?_
    refine aR 3 ?_
    refine aE ?_
    exact oO hF [] [] rfl
  · refine awp_false (by kernel_rfl) h5 ?_
    refine awp_skip ?_
    exact oO hF [] [] rfl

def bits_Len64_R (qx : Int) (r : Int) : TV × Mem := (.v (.one (.d (.int .i64 r))), ⟨[], []⟩)

theorem bits_Len64_ok {qx : Int} {r} (hF : bits_Len64 qx = some r) : Holds prog 78 [.v (.one (.d (.int .u64 qx)))] ⟨[], []⟩ (Is (bits_Len64_R qx r)) := by
  unfold bits_Len64 at hF
  refine holds_of_awp hΓ (fn := f78) (c := cB f78) (A := 0) (nx := 0) (by kernel_rfl) (by kernel_rfl) (by kernel_rfl) (by kernel_rfl) (by kernel_rfl) (by kernel_rfl) (lowc_of (by kernel_rfl)) ?_
  show Awp prog 0 25 (cB f78) _ _
  refine awp_seq ?_
  refine awp_region ?_
  refine aR 1 ?_
  refine aE ?_
  refine awp_seq ?_
  refine awp_to (st' := bits_Len64_x1_I qx) (oT [] []) ?_
  refine bE hF fun x h2 hF => ?_
  obtain ⟨vx1, vn1⟩ := x
  refine awp_sub (bits_Len64_x1_ok qx h2) ?_
  refine awp_seq ?_
  refine awp_to (st' := bits_Len64_x2_I vx1 vn1) (oT [] []) ?_
  refine bE hF fun x h4 hF => ?_
  obtain ⟨vx2_1, vn2_1⟩ := x
  refine awp_sub (bits_Len64_x2_ok vx1 vn1 h4) ?_
  refine awp_seq ?_
  refine awp_to (st' := bits_Len64_x3_I vx2_1 vn2_1) (oT [] []) ?_
  refine bE hF fun x h6 hF => ?_
  obtain ⟨vx3_1, vn3_1⟩ := x
  refine awp_sub (bits_Len64_x3_ok vx2_1 vn2_1 h6) ?_
  refine awp_seq ?_
  refine bE hF fun vc h7 hF => ?_
  refine awp_region ?_
  refine aR 3 ?_
  refine aX (x_idxS h7) ?_
  refine aR 3 ?_
  refine aE ?_
  refine awp_ret ?_
  exact oF hF [] []

/-! ### math/bits.Len -/
def bits_Len_R (qx : Int) (r : Int) : TV × Mem := (.v (.one (.d (.int .i64 r))), ⟨[], []⟩)

theorem bits_Len_ok {qx : Int} {r} (hF : bits_Len qx = some r) : Holds prog 60 [.v (.one (.d (.int .u64 qx)))] ⟨[], []⟩ (Is (bits_Len_R qx r)) := by
  unfold bits_Len at hF
  refine holds_of_awp hΓ (fn := f60) (c := cB f60) (A := 0) (nx := 0) (by kernel_rfl) (by kernel_rfl) (by kernel_rfl) (by kernel_rfl) (by kernel_rfl) (by kernel_rfl) (lowc_of (by kernel_rfl)) ?_
  show Awp prog 0 8 (cB f60) _ _
  refine awp_seq ?_
  refine awp_region ?_
  refine aR 1 ?_
  refine aE ?_
  refine awp_seq ?_
  refine awp_false (by kernel_rfl) rfl ?_
  refine awp_skip ?_
  refine awp_seq ?_
  refine bE hF fun vr h1 hF => ?_
  refine awp_region ?_
  refine aR 1 ?_
  refine aC (bits_Len64_ok h1) [] [] [] ?_
  refine aR 1 ?_
  refine aE ?_
  refine awp_ret ?_
  exact oF hF [] []

/-! ### slices.insertionSortCmpFunc[beaconfleet/api.Sample] -/
def slices_insertionSortCmpFunc_api_Sample_o0_f3_series_byDevice_x3_k : Bool → AEx
  | _ => .normal

def slices_insertionSortCmpFunc_api_Sample_o0_f3_series_byDevice_x3_S (qa : Int) (qb : Int) (vi : Int) (vl3 : List api_Sample) (vj1 : Int) : Bool → St
  | vx4 => Mem.st ⟨[(0, ⟨32, 4, List.map api_Sample.enc vl3⟩)], []⟩ (tl [(0, .v (.one (.own 0 none))), (1, .v (.one (.d (.int .i64 qa)))), (2, .v (.one (.d (.int .i64 qb)))), (3, .v (.one (.fn 37 []))), (8, .v (.one (.d (.int .i64 vi)))), (9, .v (.one (.d (.int .i64 vj1)))), (34, .v (.one (.d (.bool vx4))))]) 1

def slices_insertionSortCmpFunc_api_Sample_o0_f3_series_byDevice_x3_I (qa : Int) (qb : Int) (vi : Int) (vl3 : List api_Sample) (vj1 : Int) : St := Mem.st ⟨[(0, ⟨32, 4, List.map api_Sample.enc vl3⟩)], []⟩ (tl [(0, .v (.one (.own 0 none))), (1, .v (.one (.d (.int .i64 qa)))), (2, .v (.one (.d (.int .i64 qb)))), (3, .v (.one (.fn 37 []))), (8, .v (.one (.d (.int .i64 vi)))), (9, .v (.one (.d (.int .i64 vj1))))]) 1

theorem slices_insertionSortCmpFunc_api_Sample_o0_f3_series_byDevice_x3_ok (qa : Int) (qb : Int) (vi : Int) (vl3 : List api_Sample) (vj1 : Int) {r} (hF : slices_insertionSortCmpFunc_api_Sample_o0_f3_series_byDevice_x3 qa vl3 vj1 = some r) : Awp prog 1 53 (cL (cL (cL (cL (cR (cL (cL (cR (cL (cL (cR (cB f67)))))))))))) (Out 1 slices_insertionSortCmpFunc_api_Sample_o0_f3_series_byDevice_x3_k (slices_insertionSortCmpFunc_api_Sample_o0_f3_series_byDevice_x3_S qa qb vi vl3 vj1) r) (slices_insertionSortCmpFunc_api_Sample_o0_f3_series_byDevice_x3_I qa qb vi vl3 vj1) := by
  unfold slices_insertionSortCmpFunc_api_Sample_o0_f3_series_byDevice_x3 at hF
  refine cE hF (fun h2 hF => ?_) fun h2 hF => ?_
  · refine bE hF fun vy15 h3 hF => ?_
    refine bE hF fun vy16 h4 hF => ?_
    refine bE hF fun vr2_3 h5 hF => ?_
    refine aD ?_
    refine dR 2 ?_
    refine dB h2 ?_
    refine dR 4 ?_
    refine dX (x_idxO api_Sample.enc 0 h3) ?_
    refine dX (x_ldE api_Sample.enc h3) ?_
    refine dR 3 ?_
    refine dX (x_idxO api_Sample.enc 0 h4) ?_
    refine dX (x_ldE api_Sample.enc h4) ?_
    refine dC (series_byDevice_ok h5) [] [] [] ?_
    refine dR 2 ?_
    refine dE ?_
    exact oO hF [] [] rfl
  · refine aD ?_
    refine dR 2 ?_
    refine dB h2 ?_
    refine dR 14 ?_
    refine dE ?_
    exact oO hF [] [] rfl

def slices_insertionSortCmpFunc_api_Sample_o0_f3_series_byDevice_x2_k : (List api_Sample) → AEx
  | _ => .exit 2

def slices_insertionSortCmpFunc_api_Sample_o0_f3_series_byDevice_x2_S (qa : Int) (qb : Int) (vi : Int) : (List api_Sample) → St
  | vl4 => Mem.st ⟨[(0, ⟨32, 4, List.map api_Sample.enc vl4⟩)], []⟩ (tl [(0, .v (.one (.own 0 none))), (1, .v (.one (.d (.int .i64 qa)))), (2, .v (.one (.d (.int .i64 qb)))), (3, .v (.one (.fn 37 []))), (8, .v (.one (.d (.int .i64 vi))))]) 1

def slices_insertionSortCmpFunc_api_Sample_o0_f3_series_byDevice_x2_H (qa : Int) (qb : Int) (vi : Int) : (List api_Sample) × Int → St
  | (vl3, vj1) => Mem.st ⟨[(0, ⟨32, 4, List.map api_Sample.enc vl3⟩)], []⟩ (tl [(0, .v (.one (.own 0 none))), (1, .v (.one (.d (.int .i64 qa)))), (2, .v (.one (.d (.int .i64 qb)))), (3, .v (.one (.fn 37 []))), (8, .v (.one (.d (.int .i64 vi)))), (9, .v (.one (.d (.int .i64 vj1))))]) 1

theorem slices_insertionSortCmpFunc_api_Sample_o0_f3_series_byDevice_x2_ok (qa : Int) (qb : Int) (vi : Int) (s : (List api_Sample) × Int) (r : ((List api_Sample) × Int) ⊕ ((List api_Sample))) (hF : slices_insertionSortCmpFunc_api_Sample_o0_f3_series_byDevice_x2 qa s = some r) : Awp prog 1 53 (cL (cL (cR (cL (cL (cR (cL (cL (cR (cB f67)))))))))) (Out 1 (kk slices_insertionSortCmpFunc_api_Sample_o0_f3_series_byDevice_x2_k) (SS (slices_insertionSortCmpFunc_api_Sample_o0_f3_series_byDevice_x2_H qa qb vi) (slices_insertionSortCmpFunc_api_Sample_o0_f3_series_byDevice_x2_S qa qb vi)) r) (slices_insertionSortCmpFunc_api_Sample_o0_f3_series_byDevice_x2_H qa qb vi s) := by
  obtain ⟨vl3, vj1⟩ := s
  unfold slices_insertionSortCmpFunc_api_Sample_o0_f3_series_byDevice_x2 at hF
  refine awp_seq ?_
  refine awp_seq ?_
  refine awp_to (st' := slices_insertionSortCmpFunc_api_Sample_o0_f3_series_byDevice_x3_I qa qb vi vl3 vj1) (oT [] []) ?_
  refine bE hF fun vx4_1 h6 hF => ?_
  refine awp_sub (slices_insertionSortCmpFunc_api_Sample_o0_f3_series_byDevice_x3_ok qa qb vi vl3 vj1 h6) ?_
  refine cE hF (fun h7 hF => ?_) fun h7 hF => ?_
  · refine awp_true (by kernel_rfl) h7 ?_
    refine awp_skip ?_
    refine awp_seq ?_
    refine awp_block ?_
    refine bE hF fun vy17 h8 hF => ?_
    refine bE hF fun vy18 h9 hF => ?_
    refine bE hF fun vy19 h10 hF => ?_
    refine aDw [0] ?_
    refine dR 8 ?_
    refine dI api_Sample.enc 0 h8 rfl ?_
    refine dX (x_ldE api_Sample.enc h8) ?_
    refine dR 2 ?_
    refine dI api_Sample.enc 0 h9 rfl ?_
    refine dX (x_ldE api_Sample.enc h9) ?_
    refine dI api_Sample.enc 0 h9 rfl ?_
    refine dW api_Sample.enc vy17 h9 rfl ?_
    refine dI api_Sample.enc 0 h10 rfl ?_
    refine dW api_Sample.enc vy18 h10 rfl ?_
    refine dE ?_
    refine awp_region ?_
    refine aR 3 ?_
    refine aE ?_
    exact oO hF [] [] rfl
  · refine awp_false (by kernel_rfl) h7 ?_
    refine awp_exit ?_
    exact oO hF [] [] rfl

def slices_insertionSortCmpFunc_api_Sample_o0_f3_series_byDevice_x1_k : (List api_Sample) → AEx
  | _ => .exit 0

def slices_insertionSortCmpFunc_api_Sample_o0_f3_series_byDevice_x1_S (qa : Int) (qb : Int) : (List api_Sample) → St
  | vl5 => Mem.st ⟨[(0, ⟨32, 4, List.map api_Sample.enc vl5⟩)], []⟩ (tl []) 1

def slices_insertionSortCmpFunc_api_Sample_o0_f3_series_byDevice_x1_H (qa : Int) (qb : Int) : (List api_Sample) × Int → St
  | (vl, vi) => Mem.st ⟨[(0, ⟨32, 4, List.map api_Sample.enc vl⟩)], []⟩ (tl [(0, .v (.one (.own 0 none))), (1, .v (.one (.d (.int .i64 qa)))), (2, .v (.one (.d (.int .i64 qb)))), (3, .v (.one (.fn 37 []))), (8, .v (.one (.d (.int .i64 vi))))]) 1

theorem slices_insertionSortCmpFunc_api_Sample_o0_f3_series_byDevice_x1_ok (qa : Int) (qb : Int) (s : (List api_Sample) × Int) (r : ((List api_Sample) × Int) ⊕ ((List api_Sample))) (hF : slices_insertionSortCmpFunc_api_Sample_o0_f3_series_byDevice_x1 qa qb s = some r) : Awp prog 1 53 (cL (cL (cR (cB f67)))) (Out 1 (kk slices_insertionSortCmpFunc_api_Sample_o0_f3_series_byDevice_x1_k) (SS (slices_insertionSortCmpFunc_api_Sample_o0_f3_series_byDevice_x1_H qa qb) (slices_insertionSortCmpFunc_api_Sample_o0_f3_series_byDevice_x1_S qa qb)) r) (slices_insertionSortCmpFunc_api_Sample_o0_f3_series_byDevice_x1_H qa qb s) := by
  obtain ⟨vl, vi⟩ := s
  unfold slices_insertionSortCmpFunc_api_Sample_o0_f3_series_byDevice_x1 at hF
  refine awp_seq ?_
  refine awp_seq ?_
  refine awp_region ?_
  refine aR 3 ?_
  refine aE ?_
  refine cE hF (fun h1 hF => ?_) fun h1 hF => ?_
  · refine awp_true (by kernel_rfl) h1 ?_
    refine awp_skip ?_
    refine awp_seq ?_
    refine awp_block ?_
    refine awp_seq ?_
    refine awp_region ?_
    refine aR 2 ?_
    refine aE ?_
    refine awp_block ?_
    refine awp_to (st' := slices_insertionSortCmpFunc_api_Sample_o0_f3_series_byDevice_x2_H qa qb vi (vl, vi)) (oT [] []) ?_
    refine bE hF fun vl4_1 h11 hF => ?_
    refine awp_sub (awp_loop' (slices_insertionSortCmpFunc_api_Sample_o0_f3_series_byDevice_x2_H qa qb vi) slices_insertionSortCmpFunc_api_Sample_o0_f3_series_byDevice_x2_k (slices_insertionSortCmpFunc_api_Sample_o0_f3_series_byDevice_x2_S qa qb vi) (by intro x; exact fun h => nomatch h) h11 (slices_insertionSortCmpFunc_api_Sample_o0_f3_series_byDevice_x2_ok qa qb vi)) ?_
    refine awp_region ?_
    refine aR 3 ?_
    refine aE ?_
    exact oO hF [] [] rfl
  · refine awp_false (by kernel_rfl) h1 ?_
    refine awp_exit ?_
    exact oO hF [] [] rfl

def slices_insertionSortCmpFunc_api_Sample_o0_f3_series_byDevice_R (qdata : List api_Sample) (qa : Int) (qb : Int) (r : (List api_Sample)) : TV × Mem := (.tup [], ⟨[(0, ⟨32, 4, List.map api_Sample.enc r⟩)], []⟩)

theorem slices_insertionSortCmpFunc_api_Sample_o0_f3_series_byDevice_ok {qdata : List api_Sample} {qa : Int} {qb : Int} {r} (hF : slices_insertionSortCmpFunc_api_Sample_o0_f3_series_byDevice qdata qa qb = some r) : Holds prog 67 [.v (.one (.own 0 none)), .v (.one (.d (.int .i64 qa))), .v (.one (.d (.int .i64 qb))), .v (.one (.fn 37 []))] ⟨[(0, ⟨32, 4, List.map api_Sample.enc qdata⟩)], []⟩ (Is (slices_insertionSortCmpFunc_api_Sample_o0_f3_series_byDevice_R qdata qa qb r)) := by
  unfold slices_insertionSortCmpFunc_api_Sample_o0_f3_series_byDevice at hF
  refine holds_of_awp hΓ (fn := f67) (c := cB f67) (A := 1) (nx := 1) (by kernel_rfl) (by kernel_rfl) (by kernel_rfl) (by kernel_rfl) (by kernel_rfl) (by kernel_rfl) (lowc_of (by kernel_rfl)) ?_
  show Awp prog 1 53 (cB f67) _ _
  refine awp_seq ?_
  refine awp_region ?_
  refine aR 3 ?_
  refine aE ?_
  refine awp_block ?_
  refine awp_to (st' := slices_insertionSortCmpFunc_api_Sample_o0_f3_series_byDevice_x1_H qa qb (qdata, IntKind.wrap .i64 (qa + 1))) (oT [] []) ?_
  refine bE hF fun vl5_1 h12 hF => ?_
  refine awp_sub (awp_loop' (slices_insertionSortCmpFunc_api_Sample_o0_f3_series_byDevice_x1_H qa qb) slices_insertionSortCmpFunc_api_Sample_o0_f3_series_byDevice_x1_k (slices_insertionSortCmpFunc_api_Sample_o0_f3_series_byDevice_x1_S qa qb) (by intro x; exact fun h => nomatch h) h12 (slices_insertionSortCmpFunc_api_Sample_o0_f3_series_byDevice_x1_ok qa qb)) ?_
  exact oF hF [] []

/-! ### slices.order2CmpFunc[beaconfleet/api.Sample] -/
def slices_order2CmpFunc_api_Sample_f4_series_byDevice_R (qdata : List api_Sample) (qa : Int) (qb : Int) (qswaps : Int) (r : Int × Int × Int) : TV × Mem := (.tup [.one (.d (.int .i64 r.2.1)), .one (.d (.int .i64 r.2.2))], ⟨[], [(0, [.d (.int .i64 r.1)])]⟩)

theorem slices_order2CmpFunc_api_Sample_f4_series_byDevice_ok {qdata : List api_Sample} {qa : Int} {qb : Int} {qswaps : Int} {r} (hF : slices_order2CmpFunc_api_Sample_f4_series_byDevice qdata qa qb qswaps = some r) : Holds prog 94 [.v (.one (.d (.lst (List.map api_Sample.enc qdata)))), .v (.one (.d (.int .i64 qa))), .v (.one (.d (.int .i64 qb))), .v (.one (.box 0 0)), .v (.one (.fn 37 []))] ⟨[], [(0, [.d (.int .i64 qswaps)])]⟩ (Is (slices_order2CmpFunc_api_Sample_f4_series_byDevice_R qdata qa qb qswaps r)) := by
  unfold slices_order2CmpFunc_api_Sample_f4_series_byDevice at hF
  refine holds_of_awp hΓ (fn := f94) (c := cB f94) (A := 1) (nx := 1) (by kernel_rfl) (by kernel_rfl) (by kernel_rfl) (by kernel_rfl) (by kernel_rfl) (by kernel_rfl) (lowc_of (by kernel_rfl)) ?_
  show Awp prog 1 32 (cB f94) _ _
  refine awp_seq ?_
  refine awp_region ?_
  refine aR 2 ?_
  refine aE ?_
  refine awp_seq ?_
  refine awp_seq ?_
  refine bE hF fun vy h1 hF => ?_
  refine bE hF fun vy1 h2 hF => ?_
  refine bE hF fun vr2 h3 hF => ?_
  refine aD ?_
  refine dR 3 ?_
  refine dX (x_idx api_Sample.enc h1) ?_
  refine dR 3 ?_
  refine dX (x_idx api_Sample.enc h2) ?_
  refine dR 1 ?_
  refine dC (series_byDevice_ok h3) [] [] [] ?_
  refine dR 1 ?_
  refine dE ?_
  refine cE hF (fun h4 hF => ?_) fun h4 hF => ?_
  · refine awp_true (by kernel_rfl) h4 ?_
    refine awp_seq ?_
    refine awp_region ?_
    refine aR 6 ?_
    refine aE ?_
    refine awp_seq ?_
    refine awp_region ?_
    refine aR 4 ?_
    refine aE ?_
    refine awp_ret ?_
    exact oF hF [] []
  · refine awp_false (by kernel_rfl) h4 ?_
    refine awp_skip ?_
    refine awp_seq ?_
    refine awp_region ?_
    refine aR 4 ?_
    refine aE ?_
    refine awp_ret ?_
    exact oF hF [] []

/-! ### slices.medianCmpFunc[beaconfleet/api.Sample] -/
def slices_medianCmpFunc_api_Sample_f5_series_byDevice_R (qdata : List api_Sample) (qa : Int) (qb : Int) (qc : Int) (qswaps : Int) (r : Int × Int) : TV × Mem := (.v (.one (.d (.int .i64 r.2))), ⟨[], [(0, [.d (.int .i64 r.1)])]⟩)

theorem slices_medianCmpFunc_api_Sample_f5_series_byDevice_ok {qdata : List api_Sample} {qa : Int} {qb : Int} {qc : Int} {qswaps : Int} {r} (hF : slices_medianCmpFunc_api_Sample_f5_series_byDevice qdata qa qb qc qswaps = some r) : Holds prog 90 [.v (.one (.d (.lst (List.map api_Sample.enc qdata)))), .v (.one (.d (.int .i64 qa))), .v (.one (.d (.int .i64 qb))), .v (.one (.d (.int .i64 qc))), .v (.one (.box 0 0)), .v (.one (.fn 37 []))] ⟨[], [(0, [.d (.int .i64 qswaps)])]⟩ (Is (slices_medianCmpFunc_api_Sample_f5_series_byDevice_R qdata qa qb qc qswaps r)) := by
  unfold slices_medianCmpFunc_api_Sample_f5_series_byDevice at hF
  refine holds_of_awp hΓ (fn := f90) (c := cB f90) (A := 1) (nx := 1) (by kernel_rfl) (by kernel_rfl) (by kernel_rfl) (by kernel_rfl) (by kernel_rfl) (by kernel_rfl) (lowc_of (by kernel_rfl)) ?_
  show Awp prog 1 41 (cB f90) _ _
  refine awp_seq ?_
  refine awp_region ?_
  refine aR 1 ?_
  refine aE ?_
  refine awp_seq ?_
  refine bE hF fun x h1 hF => ?_
  obtain ⟨vs, vr, vr1⟩ := x
  refine awp_region ?_
  refine aR 5 ?_
  refine aC (slices_order2CmpFunc_api_Sample_f4_series_byDevice_ok h1) [] [] [] ?_
  refine aR 5 ?_
  refine aE ?_
  refine awp_seq ?_
  refine bE hF fun x h2 hF => ?_
  obtain ⟨vs1, vr2, vr1_1⟩ := x
  refine awp_region ?_
  refine aR 5 ?_
  refine aC (slices_order2CmpFunc_api_Sample_f4_series_byDevice_ok h2) [] [] [] ?_
  refine aR 5 ?_
  refine aE ?_
  refine awp_seq ?_
  refine bE hF fun x h3 hF => ?_
  obtain ⟨vs2, vr3, vr1_2⟩ := x
  refine awp_region ?_
  refine aR 5 ?_
  refine aC (slices_order2CmpFunc_api_Sample_f4_series_byDevice_ok h3) [] [] [] ?_
  refine aR 5 ?_
  refine aE ?_
  refine awp_seq ?_
  refine awp_region ?_
  refine aR 2 ?_
  refine aE ?_
  refine awp_ret ?_
  exact oF hF [] []

/-! ### slices.medianAdjacentCmpFunc[beaconfleet/api.Sample] -/
def slices_medianAdjacentCmpFunc_api_Sample_f3_series_byDevice_R (qdata : List api_Sample) (qa : Int) (qswaps : Int) (r : Int × Int) : TV × Mem := (.v (.one (.d (.int .i64 r.2))), ⟨[], [(0, [.d (.int .i64 r.1)])]⟩)

theorem slices_medianAdjacentCmpFunc_api_Sample_f3_series_byDevice_ok {qdata : List api_Sample} {qa : Int} {qswaps : Int} {r} (hF : slices_medianAdjacentCmpFunc_api_Sample_f3_series_byDevice qdata qa qswaps = some r) : Holds prog 89 [.v (.one (.d (.lst (List.map api_Sample.enc qdata)))), .v (.one (.d (.int .i64 qa))), .v (.one (.box 0 0)), .v (.one (.fn 37 []))] ⟨[], [(0, [.d (.int .i64 qswaps)])]⟩ (Is (slices_medianAdjacentCmpFunc_api_Sample_f3_series_byDevice_R qdata qa qswaps r)) := by
  unfold slices_medianAdjacentCmpFunc_api_Sample_f3_series_byDevice at hF
  refine holds_of_awp hΓ (fn := f89) (c := cB f89) (A := 1) (nx := 1) (by kernel_rfl) (by kernel_rfl) (by kernel_rfl) (by kernel_rfl) (by kernel_rfl) (by kernel_rfl) (lowc_of (by kernel_rfl)) ?_
  show Awp prog 1 18 (cB f89) _ _
  refine awp_seq ?_
  refine awp_region ?_
  refine aR 1 ?_
  refine aE ?_
  refine awp_seq ?_
  refine bE hF fun x h1 hF => ?_
  obtain ⟨vs3, vr4⟩ := x
  refine awp_region ?_
  refine aR 8 ?_
  refine aC (slices_medianCmpFunc_api_Sample_f5_series_byDevice_ok h1) [] [] [] ?_
  refine aR 1 ?_
  refine aE ?_
  refine awp_ret ?_
  exact oF hF [] []

/-! ### slices.choosePivotCmpFunc[beaconfleet/api.Sample] -/
def slices_choosePivotCmpFunc_api_Sample_f3_series_byDevice_x2_k : (Int × Int × Int × Int) → AEx
  | _ => .normal

def slices_choosePivotCmpFunc_api_Sample_f3_series_byDevice_x2_S (qdata : List api_Sample) (qa : Int) (qb : Int) : (Int × Int × Int × Int) → St
  | (vswaps, vi, vj, vk) => Mem.st ⟨[], [(0, [.d (.int .i64 vswaps)])]⟩ (tl [(0, .v (.one (.d (.lst (List.map api_Sample.enc qdata))))), (3, .v (.one (.fn 37 []))), (11, .v (.one (.box 0 0))), (12, .v (.one (.d (.int .i64 vi)))), (13, .v (.one (.d (.int .i64 vj)))), (14, .v (.one (.d (.int .i64 vk))))]) 1

def slices_choosePivotCmpFunc_api_Sample_f3_series_byDevice_x2_I (qdata : List api_Sample) (qa : Int) (qb : Int) : St := Mem.st ⟨[], [(0, [.d (.int .i64 0)])]⟩ (tl [(0, .v (.one (.d (.lst (List.map api_Sample.enc qdata))))), (3, .v (.one (.fn 37 []))), (10, .v (.one (.d (.int .i64 (IntKind.wrap .i64 (qb - qa)))))), (11, .v (.one (.box 0 0))), (12, .v (.one (.d (.int .i64 (IntKind.wrap .i64 (qa + (IntKind.wrap .i64 ((IntKind.wrap .i64 ((IntKind.wrap .i64 (qb - qa)).tdiv 4)) * 1)))))))), (13, .v (.one (.d (.int .i64 (IntKind.wrap .i64 (qa + (IntKind.wrap .i64 ((IntKind.wrap .i64 ((IntKind.wrap .i64 (qb - qa)).tdiv 4)) * 2)))))))), (14, .v (.one (.d (.int .i64 (IntKind.wrap .i64 (qa + (IntKind.wrap .i64 ((IntKind.wrap .i64 ((IntKind.wrap .i64 (qb - qa)).tdiv 4)) * 3))))))))]) 1

theorem slices_choosePivotCmpFunc_api_Sample_f3_series_byDevice_x2_ok (qdata : List api_Sample) (qa : Int) (qb : Int) {r} (hF : slices_choosePivotCmpFunc_api_Sample_f3_series_byDevice_x2 qdata qa qb = some r) : Awp prog 0 63 (cL (cL (cR (cL (cR (cR (cR (cR (cR (cR (cB f72))))))))))) (Out 0 slices_choosePivotCmpFunc_api_Sample_f3_series_byDevice_x2_k (slices_choosePivotCmpFunc_api_Sample_f3_series_byDevice_x2_S qdata qa qb) r) (slices_choosePivotCmpFunc_api_Sample_f3_series_byDevice_x2_I qdata qa qb) := by
  unfold slices_choosePivotCmpFunc_api_Sample_f3_series_byDevice_x2 at hF
  refine awp_seq ?_
  refine awp_region ?_
  refine aR 2 ?_
  refine aE ?_
  refine cE hF (fun h2 hF => ?_) fun h2 hF => ?_
  · refine awp_true (by kernel_rfl) h2 ?_
    refine awp_seq ?_
    refine bE hF fun x h3 hF => ?_
    obtain ⟨vs, vr⟩ := x
    refine awp_region ?_
    refine aR 3 ?_
    refine aC (slices_medianAdjacentCmpFunc_api_Sample_f3_series_byDevice_ok h3) [] [] [] ?_
    refine aR 1 ?_
    refine aE ?_
    refine awp_seq ?_
    refine bE hF fun x h4 hF => ?_
    obtain ⟨vs1, vr1⟩ := x
    refine awp_region ?_
    refine aR 3 ?_
    refine aC (slices_medianAdjacentCmpFunc_api_Sample_f3_series_byDevice_ok h4) [] [] [] ?_
    refine aR 1 ?_
    refine aE ?_
    refine bE hF fun x h5 hF => ?_
    obtain ⟨vs2, vr2⟩ := x
    refine awp_region ?_
    refine aR 3 ?_
    refine aC (slices_medianAdjacentCmpFunc_api_Sample_f3_series_byDevice_ok h5) [] [] [] ?_
    refine aR 1 ?_
    refine aE ?_
    exact oO hF [] [] rfl
  · refine awp_false (by kernel_rfl) h2 ?_
    refine awp_skip ?_
    exact oO hF [] [] rfl

def slices_choosePivotCmpFunc_api_Sample_f3_series_byDevice_x1_k : (Int × Int) → AEx
  | _ => .normal

def slices_choosePivotCmpFunc_api_Sample_f3_series_byDevice_x1_S (qdata : List api_Sample) (qa : Int) (qb : Int) : (Int × Int) → St
  | (vswaps2, vj2) => Mem.st ⟨[], [(0, [.d (.int .i64 vswaps2)])]⟩ (tl [(11, .v (.one (.box 0 0))), (13, .v (.one (.d (.int .i64 vj2))))]) 1

def slices_choosePivotCmpFunc_api_Sample_f3_series_byDevice_x1_I (qdata : List api_Sample) (qa : Int) (qb : Int) : St := Mem.st ⟨[], [(0, [.d (.int .i64 0)])]⟩ (tl [(0, .v (.one (.d (.lst (List.map api_Sample.enc qdata))))), (3, .v (.one (.fn 37 []))), (10, .v (.one (.d (.int .i64 (IntKind.wrap .i64 (qb - qa)))))), (11, .v (.one (.box 0 0))), (12, .v (.one (.d (.int .i64 (IntKind.wrap .i64 (qa + (IntKind.wrap .i64 ((IntKind.wrap .i64 ((IntKind.wrap .i64 (qb - qa)).tdiv 4)) * 1)))))))), (13, .v (.one (.d (.int .i64 (IntKind.wrap .i64 (qa + (IntKind.wrap .i64 ((IntKind.wrap .i64 ((IntKind.wrap .i64 (qb - qa)).tdiv 4)) * 2)))))))), (14, .v (.one (.d (.int .i64 (IntKind.wrap .i64 (qa + (IntKind.wrap .i64 ((IntKind.wrap .i64 ((IntKind.wrap .i64 (qb - qa)).tdiv 4)) * 3))))))))]) 1

theorem slices_choosePivotCmpFunc_api_Sample_f3_series_byDevice_x1_ok (qdata : List api_Sample) (qa : Int) (qb : Int) {r} (hF : slices_choosePivotCmpFunc_api_Sample_f3_series_byDevice_x1 qdata qa qb = some r) : Awp prog 0 63 (cL (cR (cR (cR (cR (cR (cR (cB f72)))))))) (Out 0 slices_choosePivotCmpFunc_api_Sample_f3_series_byDevice_x1_k (slices_choosePivotCmpFunc_api_Sample_f3_series_byDevice_x1_S qdata qa qb) r) (slices_choosePivotCmpFunc_api_Sample_f3_series_byDevice_x1_I qdata qa qb) := by
  unfold slices_choosePivotCmpFunc_api_Sample_f3_series_byDevice_x1 at hF
  refine awp_seq ?_
  refine awp_region ?_
  refine aR 2 ?_
  refine aE ?_
  refine cE hF (fun h1 hF => ?_) fun h1 hF => ?_
  · refine awp_true (by kernel_rfl) h1 ?_
    refine awp_seq ?_
    refine awp_to (st' := slices_choosePivotCmpFunc_api_Sample_f3_series_byDevice_x2_I qdata qa qb) (oT [] []) ?_
    refine bE hF fun x h6 hF => ?_
    obtain ⟨vswaps1, vi1, vj1, vk1⟩ := x
    refine awp_sub (slices_choosePivotCmpFunc_api_Sample_f3_series_byDevice_x2_ok qdata qa qb h6) ?_
    refine bE hF fun x h7 hF => ?_
    obtain ⟨vs3, vr4⟩ := x
    refine awp_region ?_
    refine aR 5 ?_
    refine aC (slices_medianCmpFunc_api_Sample_f5_series_byDevice_ok h7) [] [] [] ?_
    refine aR 1 ?_
    refine aE ?_
    exact oO hF [] [] rfl
  · refine awp_false (by kernel_rfl) h1 ?_
    refine awp_skip ?_
    exact oO hF [] [] rfl

def slices_choosePivotCmpFunc_api_Sample_f3_series_byDevice_R (qdata : List api_Sample) (qa : Int) (qb : Int) (r : Int × Int) : TV × Mem := (.tup [.one (.d (.int .i64 r.1)), .one (.d (.int .i64 r.2))], ⟨[], []⟩)

theorem slices_choosePivotCmpFunc_api_Sample_f3_series_byDevice_ok {qdata : List api_Sample} {qa : Int} {qb : Int} {r} (hF : slices_choosePivotCmpFunc_api_Sample_f3_series_byDevice qdata qa qb = some r) : Holds prog 72 [.v (.one (.d (.lst (List.map api_Sample.enc qdata)))), .v (.one (.d (.int .i64 qa))), .v (.one (.d (.int .i64 qb))), .v (.one (.fn 37 []))] ⟨[], []⟩ (Is (slices_choosePivotCmpFunc_api_Sample_f3_series_byDevice_R qdata qa qb r)) := by
  unfold slices_choosePivotCmpFunc_api_Sample_f3_series_byDevice at hF
  refine holds_of_awp hΓ (fn := f72) (c := cB f72) (A := 0) (nx := 0) (by kernel_rfl) (by kernel_rfl) (by kernel_rfl) (by kernel_rfl) (by kernel_rfl) (by kernel_rfl) (lowc_of (by kernel_rfl)) ?_
  show Awp prog 0 63 (cB f72) _ _
  refine awp_seq ?_
  refine awp_region ?_
  refine aR 2 ?_
  refine aE ?_
  refine awp_seq ?_
  refine awp_region ?_
  refine aR 4 ?_
  refine aE ?_
  refine awp_seq ?_
  refine awp_region ?_
  refine aR 1 ?_
  refine aE ?_
  refine awp_seq ?_
  refine awp_region ?_
  refine aR 6 ?_
  refine aE ?_
  refine awp_seq ?_
  refine awp_region ?_
  refine aR 6 ?_
  refine aE ?_
  refine awp_seq ?_
  refine awp_region ?_
  refine aR 6 ?_
  refine aE ?_
  refine awp_seq ?_
  refine awp_to (st' := slices_choosePivotCmpFunc_api_Sample_f3_series_byDevice_x1_I qdata qa qb) (oT [(0, 6000)] []) ?_
  refine bE hF fun x h8 hF => ?_
  obtain ⟨vswaps2_1, vj2_1⟩ := x
  refine awp_sub (slices_choosePivotCmpFunc_api_Sample_f3_series_byDevice_x1_ok qdata qa qb h8) ?_
  refine awp_seq ?_
  refine awp_region ?_
  refine aR 1 ?_
  refine aE ?_
  refine awp_block ?_
  refine awp_seq ?_
  refine awp_region ?_
  refine aR 2 ?_
  refine aE ?_
  refine cE hF (fun h9 hF => ?_) fun h9 hF => ?_
  · refine awp_true (by kernel_rfl) h9 ?_
    refine awp_seq ?_
    refine awp_region ?_
    refine aR 3 ?_
    refine aE ?_
    refine awp_ret ?_
    exact oF hF [] []
  · refine awp_false (by kernel_rfl) h9 ?_
    refine awp_seq ?_
    refine awp_region ?_
    refine aR 2 ?_
    refine aE ?_
    refine cE hF (fun h10 hF => ?_) fun h10 hF => ?_
    · refine awp_true (by kernel_rfl) h10 ?_
      refine awp_seq ?_
      refine awp_region ?_
      refine aR 3 ?_
      refine aE ?_
      refine awp_ret ?_
      exact oF hF [] []
    · refine awp_false (by kernel_rfl) h10 ?_
      refine awp_seq ?_
      refine awp_region ?_
      refine aR 3 ?_
      refine aE ?_
      refine awp_ret ?_
      exact oF hF [] []

/-! ### slices.reverseRangeCmpFunc[beaconfleet/api.Sample] -/
def slices_reverseRangeCmpFunc_api_Sample_o0_f3_series_byDevice_x1_k : (List api_Sample) → AEx
  | _ => .exit 0

def slices_reverseRangeCmpFunc_api_Sample_o0_f3_series_byDevice_x1_S : (List api_Sample) → St
  | vl1 => Mem.st ⟨[(0, ⟨32, 4, List.map api_Sample.enc vl1⟩)], []⟩ (tl []) 1

def slices_reverseRangeCmpFunc_api_Sample_o0_f3_series_byDevice_x1_H : (List api_Sample) × Int × Int → St
  | (vl, vi, vj) => Mem.st ⟨[(0, ⟨32, 4, List.map api_Sample.enc vl⟩)], []⟩ (tl [(0, .v (.one (.own 0 none))), (8, .v (.one (.d (.int .i64 vi)))), (9, .v (.one (.d (.int .i64 vj))))]) 1

theorem slices_reverseRangeCmpFunc_api_Sample_o0_f3_series_byDevice_x1_ok (s : (List api_Sample) × Int × Int) (r : ((List api_Sample) × Int × Int) ⊕ ((List api_Sample))) (hF : slices_reverseRangeCmpFunc_api_Sample_o0_f3_series_byDevice_x1  s = some r) : Awp prog 1 34 (cL (cL (cR (cR (cB f73))))) (Out 1 (kk slices_reverseRangeCmpFunc_api_Sample_o0_f3_series_byDevice_x1_k) (SS (slices_reverseRangeCmpFunc_api_Sample_o0_f3_series_byDevice_x1_H ) (slices_reverseRangeCmpFunc_api_Sample_o0_f3_series_byDevice_x1_S )) r) (slices_reverseRangeCmpFunc_api_Sample_o0_f3_series_byDevice_x1_H  s) := by
  obtain ⟨vl, vi, vj⟩ := s
  unfold slices_reverseRangeCmpFunc_api_Sample_o0_f3_series_byDevice_x1 at hF
  refine awp_seq ?_
  refine awp_seq ?_
  refine awp_region ?_
  refine aR 3 ?_
  refine aE ?_
  refine cE hF (fun h1 hF => ?_) fun h1 hF => ?_
  · refine awp_true (by kernel_rfl) h1 ?_
    refine awp_skip ?_
    refine awp_block ?_
    refine awp_seq ?_
    refine bE hF fun vy3 h2 hF => ?_
    refine bE hF fun vy4 h3 hF => ?_
    refine bE hF fun vy5 h4 hF => ?_
    refine aDw [0] ?_
    refine dR 6 ?_
    refine dI api_Sample.enc 0 h2 rfl ?_
    refine dX (x_ldE api_Sample.enc h2) ?_
    refine dR 2 ?_
    refine dI api_Sample.enc 0 h3 rfl ?_
    refine dX (x_ldE api_Sample.enc h3) ?_
    refine dI api_Sample.enc 0 h3 rfl ?_
    refine dW api_Sample.enc vy3 h3 rfl ?_
    refine dI api_Sample.enc 0 h4 rfl ?_
    refine dW api_Sample.enc vy4 h4 rfl ?_
    refine dE ?_
    refine awp_seq ?_
    refine awp_region ?_
    refine aR 3 ?_
    refine aE ?_
    refine awp_region ?_
    refine aR 3 ?_
    refine aE ?_
    exact oO hF [] [] rfl
  · refine awp_false (by kernel_rfl) h1 ?_
    refine awp_exit ?_
    exact oO hF [] [] rfl

def slices_reverseRangeCmpFunc_api_Sample_o0_f3_series_byDevice_R (qdata : List api_Sample) (qa : Int) (qb : Int) (r : (List api_Sample)) : TV × Mem := (.tup [], ⟨[(0, ⟨32, 4, List.map api_Sample.enc r⟩)], []⟩)

theorem slices_reverseRangeCmpFunc_api_Sample_o0_f3_series_byDevice_ok {qdata : List api_Sample} {qa : Int} {qb : Int} {r} (hF : slices_reverseRangeCmpFunc_api_Sample_o0_f3_series_byDevice qdata qa qb = some r) : Holds prog 73 [.v (.one (.own 0 none)), .v (.one (.d (.int .i64 qa))), .v (.one (.d (.int .i64 qb))), .v (.one (.fn 37 []))] ⟨[(0, ⟨32, 4, List.map api_Sample.enc qdata⟩)], []⟩ (Is (slices_reverseRangeCmpFunc_api_Sample_o0_f3_series_byDevice_R qdata qa qb r)) := by
  unfold slices_reverseRangeCmpFunc_api_Sample_o0_f3_series_byDevice at hF
  refine holds_of_awp hΓ (fn := f73) (c := cB f73) (A := 1) (nx := 1) (by kernel_rfl) (by kernel_rfl) (by kernel_rfl) (by kernel_rfl) (by kernel_rfl) (by kernel_rfl) (lowc_of (by kernel_rfl)) ?_
  show Awp prog 1 34 (cB f73) _ _
  refine awp_seq ?_
  refine awp_region ?_
  refine aR 2 ?_
  refine aE ?_
  refine awp_seq ?_
  refine awp_region ?_
  refine aR 3 ?_
  refine aE ?_
  refine awp_block ?_
  refine awp_to (st' := slices_reverseRangeCmpFunc_api_Sample_o0_f3_series_byDevice_x1_H  (qdata, qa, IntKind.wrap .i64 (qb - 1))) (oT [] []) ?_
  refine bE hF fun vl1_1 h5 hF => ?_
  refine awp_sub (awp_loop' (slices_reverseRangeCmpFunc_api_Sample_o0_f3_series_byDevice_x1_H ) slices_reverseRangeCmpFunc_api_Sample_o0_f3_series_byDevice_x1_k (slices_reverseRangeCmpFunc_api_Sample_o0_f3_series_byDevice_x1_S ) (by intro x; exact fun h => nomatch h) h5 (slices_reverseRangeCmpFunc_api_Sample_o0_f3_series_byDevice_x1_ok )) ?_
  exact oF hF [] []

/-! ### slices.partialInsertionSortCmpFunc[beaconfleet/api.Sample] -/
def slices_partialInsertionSortCmpFunc_api_Sample_o0_f3_series_byDevice_x4_k : Bool → AEx
  | _ => .normal

def slices_partialInsertionSortCmpFunc_api_Sample_o0_f3_series_byDevice_x4_S (qx1 : Int) (qx2 : Int) (vl : List api_Sample) (vx1 : Int) (vx10 : Int) : Bool → St
  | vx12 => Mem.st ⟨[(0, ⟨32, 4, List.map api_Sample.enc vl⟩)], []⟩ (tl [(0, .v (.one (.own 0 none))), (1, .v (.one (.d (.int .i64 qx1)))), (2, .v (.one (.d (.int .i64 qx2)))), (3, .v (.one (.fn 37 []))), (9, .v (.one (.d (.int .i64 vx10)))), (10, .v (.one (.d (.int .i64 vx1)))), (36, .v (.one (.d (.bool vx12))))]) 1

def slices_partialInsertionSortCmpFunc_api_Sample_o0_f3_series_byDevice_x4_I (qx1 : Int) (qx2 : Int) (vl : List api_Sample) (vx1 : Int) (vx10 : Int) : St := Mem.st ⟨[(0, ⟨32, 4, List.map api_Sample.enc vl⟩)], []⟩ (tl [(0, .v (.one (.own 0 none))), (1, .v (.one (.d (.int .i64 qx1)))), (2, .v (.one (.d (.int .i64 qx2)))), (3, .v (.one (.fn 37 []))), (9, .v (.one (.d (.int .i64 vx10)))), (10, .v (.one (.d (.int .i64 vx1))))]) 1

theorem slices_partialInsertionSortCmpFunc_api_Sample_o0_f3_series_byDevice_x4_ok (qx1 : Int) (qx2 : Int) (vl : List api_Sample) (vx1 : Int) (vx10 : Int) {r} (hF : slices_partialInsertionSortCmpFunc_api_Sample_o0_f3_series_byDevice_x4 qx2 vl vx10 = some r) : Awp prog 1 141 (cL (cL (cL (cL (cL (cL (cL (cR (cL (cL (cR (cL (cR (cR (cB f74))))))))))))))) (Out 1 slices_partialInsertionSortCmpFunc_api_Sample_o0_f3_series_byDevice_x4_k (slices_partialInsertionSortCmpFunc_api_Sample_o0_f3_series_byDevice_x4_S qx1 qx2 vl vx1 vx10) r) (slices_partialInsertionSortCmpFunc_api_Sample_o0_f3_series_byDevice_x4_I qx1 qx2 vl vx1 vx10) := by
  unfold slices_partialInsertionSortCmpFunc_api_Sample_o0_f3_series_byDevice_x4 at hF
  refine cE hF (fun h2 hF => ?_) fun h2 hF => ?_
  · refine bE hF fun vy21 h3 hF => ?_
    refine bE hF fun vy22 h4 hF => ?_
    refine bE hF fun vr2_7 h5 hF => ?_
    refine aD ?_
    refine dR 2 ?_
    refine dB h2 ?_
    refine dR 4 ?_
    refine dX (x_idxO api_Sample.enc 0 h3) ?_
    refine dX (x_ldE api_Sample.enc h3) ?_
    refine dR 3 ?_
    refine dX (x_idxO api_Sample.enc 0 h4) ?_
    refine dX (x_ldE api_Sample.enc h4) ?_
    refine dC (series_byDevice_ok h5) [] [] [] ?_
    refine dR 3 ?_
    refine dE ?_
    exact oO hF [] [] rfl
  · refine aD ?_
    refine dR 2 ?_
    refine dB h2 ?_
    refine dR 15 ?_
    refine dE ?_
    exact oO hF [] [] rfl

def slices_partialInsertionSortCmpFunc_api_Sample_o0_f3_series_byDevice_x3_k : Int → AEx
  | _ => .exit 2

def slices_partialInsertionSortCmpFunc_api_Sample_o0_f3_series_byDevice_x3_S (qx1 : Int) (qx2 : Int) (vl : List api_Sample) (vx1 : Int) : Int → St
  | vx13 => Mem.st ⟨[(0, ⟨32, 4, List.map api_Sample.enc vl⟩)], []⟩ (tl [(0, .v (.one (.own 0 none))), (1, .v (.one (.d (.int .i64 qx1)))), (2, .v (.one (.d (.int .i64 qx2)))), (3, .v (.one (.fn 37 []))), (9, .v (.one (.d (.int .i64 vx13)))), (10, .v (.one (.d (.int .i64 vx1))))]) 1

def slices_partialInsertionSortCmpFunc_api_Sample_o0_f3_series_byDevice_x3_H (qx1 : Int) (qx2 : Int) (vl : List api_Sample) (vx1 : Int) : Int → St
  | vx10 => Mem.st ⟨[(0, ⟨32, 4, List.map api_Sample.enc vl⟩)], []⟩ (tl [(0, .v (.one (.own 0 none))), (1, .v (.one (.d (.int .i64 qx1)))), (2, .v (.one (.d (.int .i64 qx2)))), (3, .v (.one (.fn 37 []))), (9, .v (.one (.d (.int .i64 vx10)))), (10, .v (.one (.d (.int .i64 vx1))))]) 1

theorem slices_partialInsertionSortCmpFunc_api_Sample_o0_f3_series_byDevice_x3_ok (qx1 : Int) (qx2 : Int) (vl : List api_Sample) (vx1 : Int) (vx10 : Int) (r : (Int) ⊕ (Int)) (hF : slices_partialInsertionSortCmpFunc_api_Sample_o0_f3_series_byDevice_x3 qx2 vl vx10 = some r) : Awp prog 1 141 (cL (cL (cL (cL (cL (cR (cL (cL (cR (cL (cR (cR (cB f74))))))))))))) (Out 1 (kk slices_partialInsertionSortCmpFunc_api_Sample_o0_f3_series_byDevice_x3_k) (SS (slices_partialInsertionSortCmpFunc_api_Sample_o0_f3_series_byDevice_x3_H qx1 qx2 vl vx1) (slices_partialInsertionSortCmpFunc_api_Sample_o0_f3_series_byDevice_x3_S qx1 qx2 vl vx1)) r) (slices_partialInsertionSortCmpFunc_api_Sample_o0_f3_series_byDevice_x3_H qx1 qx2 vl vx1 vx10) := by
  unfold slices_partialInsertionSortCmpFunc_api_Sample_o0_f3_series_byDevice_x3 at hF
  refine awp_seq ?_
  refine awp_seq ?_
  refine awp_to (st' := slices_partialInsertionSortCmpFunc_api_Sample_o0_f3_series_byDevice_x4_I qx1 qx2 vl vx1 vx10) (oT [] []) ?_
  refine bE hF fun vx12_1 h6 hF => ?_
  refine awp_sub (slices_partialInsertionSortCmpFunc_api_Sample_o0_f3_series_byDevice_x4_ok qx1 qx2 vl vx1 vx10 h6) ?_
  refine cE hF (fun h7 hF => ?_) fun h7 hF => ?_
  · refine awp_true (by kernel_rfl) h7 ?_
    refine awp_skip ?_
    refine awp_block ?_
    refine awp_region ?_
    refine aR 3 ?_
    refine aE ?_
    exact oO hF [] [] rfl
  · refine awp_false (by kernel_rfl) h7 ?_
    refine awp_exit ?_
    exact oO hF [] [] rfl

def slices_partialInsertionSortCmpFunc_api_Sample_o0_f3_series_byDevice_x6_k : (List api_Sample) → AEx
  | _ => .exit 4

def slices_partialInsertionSortCmpFunc_api_Sample_o0_f3_series_byDevice_x6_S (qx1 : Int) (qx2 : Int) (vx1 : Int) (vx13_1 : Int) : (List api_Sample) → St
  | vl8 => Mem.st ⟨[(0, ⟨32, 4, List.map api_Sample.enc vl8⟩)], []⟩ (tl [(0, .v (.one (.own 0 none))), (1, .v (.one (.d (.int .i64 qx1)))), (2, .v (.one (.d (.int .i64 qx2)))), (3, .v (.one (.fn 37 []))), (9, .v (.one (.d (.int .i64 vx13_1)))), (10, .v (.one (.d (.int .i64 vx1))))]) 1

def slices_partialInsertionSortCmpFunc_api_Sample_o0_f3_series_byDevice_x6_H (qx1 : Int) (qx2 : Int) (vx1 : Int) (vx13_1 : Int) : (List api_Sample) × Int → St
  | (vl7, vx14) => Mem.st ⟨[(0, ⟨32, 4, List.map api_Sample.enc vl7⟩)], []⟩ (tl [(0, .v (.one (.own 0 none))), (1, .v (.one (.d (.int .i64 qx1)))), (2, .v (.one (.d (.int .i64 qx2)))), (3, .v (.one (.fn 37 []))), (9, .v (.one (.d (.int .i64 vx13_1)))), (10, .v (.one (.d (.int .i64 vx1)))), (11, .v (.one (.d (.int .i64 vx14))))]) 1

theorem slices_partialInsertionSortCmpFunc_api_Sample_o0_f3_series_byDevice_x6_ok (qx1 : Int) (qx2 : Int) (vx1 : Int) (vx13_1 : Int) (s : (List api_Sample) × Int) (r : ((List api_Sample) × Int) ⊕ ((List api_Sample))) (hF : slices_partialInsertionSortCmpFunc_api_Sample_o0_f3_series_byDevice_x6  s = some r) : Awp prog 1 141 (cL (cL (cR (cL (cR (cL (cR (cR (cR (cR (cL (cL (cR (cL (cL (cR (cL (cR (cR (cB f74)))))))))))))))))))) (Out 1 (kk slices_partialInsertionSortCmpFunc_api_Sample_o0_f3_series_byDevice_x6_k) (SS (slices_partialInsertionSortCmpFunc_api_Sample_o0_f3_series_byDevice_x6_H qx1 qx2 vx1 vx13_1) (slices_partialInsertionSortCmpFunc_api_Sample_o0_f3_series_byDevice_x6_S qx1 qx2 vx1 vx13_1)) r) (slices_partialInsertionSortCmpFunc_api_Sample_o0_f3_series_byDevice_x6_H qx1 qx2 vx1 vx13_1 s) := by
  obtain ⟨vl7, vx14⟩ := s
  unfold slices_partialInsertionSortCmpFunc_api_Sample_o0_f3_series_byDevice_x6 at hF
  refine awp_seq ?_
  refine awp_seq ?_
  refine awp_region ?_
  refine aR 2 ?_
  refine aE ?_
  refine cE hF (fun h15 hF => ?_) fun h15 hF => ?_
  · refine awp_true (by kernel_rfl) h15 ?_
    refine awp_skip ?_
    refine awp_seq ?_
    refine awp_block ?_
    refine awp_seq ?_
    refine awp_seq ?_
    refine bE hF fun vy29 h16 hF => ?_
    refine bE hF fun vy30 h17 hF => ?_
    refine bE hF fun vr2_9 h18 hF => ?_
    refine aD ?_
    refine dR 3 ?_
    refine dX (x_idxO api_Sample.enc 0 h16) ?_
    refine dX (x_ldE api_Sample.enc h16) ?_
    refine dR 3 ?_
    refine dX (x_idxO api_Sample.enc 0 h17) ?_
    refine dX (x_ldE api_Sample.enc h17) ?_
    refine dC (series_byDevice_ok h18) [] [] [] ?_
    refine dR 2 ?_
    refine dE ?_
    refine cE hF (fun h19 hF => ?_) fun h19 hF => ?_
    · refine awp_true (by kernel_rfl) h19 ?_
      refine awp_exit ?_
      exact oO hF [] [] rfl
    · refine awp_false (by kernel_rfl) h19 ?_
      refine awp_skip ?_
      refine bE hF fun vy31 h20 hF => ?_
      refine aDw [0] ?_
      refine dR 8 ?_
      refine dI api_Sample.enc 0 h17 rfl ?_
      refine dX (x_ldE api_Sample.enc h17) ?_
      refine dR 2 ?_
      refine dI api_Sample.enc 0 h16 rfl ?_
      refine dX (x_ldE api_Sample.enc h16) ?_
      refine dI api_Sample.enc 0 h16 rfl ?_
      refine dW api_Sample.enc vy30 h16 rfl ?_
      refine dI api_Sample.enc 0 h20 rfl ?_
      refine dW api_Sample.enc vy29 h20 rfl ?_
      refine dE ?_
      refine awp_region ?_
      refine aR 3 ?_
      refine aE ?_
      exact oO hF [] [] rfl
  · refine awp_false (by kernel_rfl) h15 ?_
    refine awp_exit ?_
    exact oO hF [] [] rfl

def slices_partialInsertionSortCmpFunc_api_Sample_o0_f3_series_byDevice_x5_k : (List api_Sample) → AEx
  | _ => .normal

def slices_partialInsertionSortCmpFunc_api_Sample_o0_f3_series_byDevice_x5_S (qx1 : Int) (qx2 : Int) (vl : List api_Sample) (vx1 : Int) (vx13_1 : Int) (vy23 : api_Sample) (vy24 : api_Sample) : (List api_Sample) → St
  | vl9 => Mem.st ⟨[(0, ⟨32, 4, List.map api_Sample.enc vl9⟩)], []⟩ (tl [(0, .v (.one (.own 0 none))), (1, .v (.one (.d (.int .i64 qx1)))), (2, .v (.one (.d (.int .i64 qx2)))), (3, .v (.one (.fn 37 []))), (9, .v (.one (.d (.int .i64 vx13_1)))), (10, .v (.one (.d (.int .i64 vx1))))]) 1

def slices_partialInsertionSortCmpFunc_api_Sample_o0_f3_series_byDevice_x5_I (qx1 : Int) (qx2 : Int) (vl : List api_Sample) (vx1 : Int) (vx13_1 : Int) (vy23 : api_Sample) (vy24 : api_Sample) : St := Mem.st ⟨[(0, ⟨32, 4, List.map api_Sample.enc ((vl.set vx13_1.toNat vy23).set (IntKind.wrap .i64 (vx13_1 - 1)).toNat vy24)⟩)], []⟩ (tl [(0, .v (.one (.own 0 none))), (1, .v (.one (.d (.int .i64 qx1)))), (2, .v (.one (.d (.int .i64 qx2)))), (3, .v (.one (.fn 37 []))), (9, .v (.one (.d (.int .i64 vx13_1)))), (10, .v (.one (.d (.int .i64 vx1))))]) 1

theorem slices_partialInsertionSortCmpFunc_api_Sample_o0_f3_series_byDevice_x5_ok (qx1 : Int) (qx2 : Int) (vl : List api_Sample) (vx1 : Int) (vx13_1 : Int) (vy23 : api_Sample) (vy24 : api_Sample) {r} (hF : slices_partialInsertionSortCmpFunc_api_Sample_o0_f3_series_byDevice_x5 qx1 vl vx13_1 vy23 vy24 = some r) : Awp prog 1 141 (cL (cR (cR (cR (cR (cL (cL (cR (cL (cL (cR (cL (cR (cR (cB f74))))))))))))))) (Out 1 slices_partialInsertionSortCmpFunc_api_Sample_o0_f3_series_byDevice_x5_k (slices_partialInsertionSortCmpFunc_api_Sample_o0_f3_series_byDevice_x5_S qx1 qx2 vl vx1 vx13_1 vy23 vy24) r) (slices_partialInsertionSortCmpFunc_api_Sample_o0_f3_series_byDevice_x5_I qx1 qx2 vl vx1 vx13_1 vy23 vy24) := by
  unfold slices_partialInsertionSortCmpFunc_api_Sample_o0_f3_series_byDevice_x5 at hF
  refine awp_seq ?_
  refine awp_region ?_
  refine aR 4 ?_
  refine aE ?_
  refine cE hF (fun h14 hF => ?_) fun h14 hF => ?_
  · refine awp_true (by kernel_rfl) h14 ?_
    refine awp_seq ?_
    refine awp_region ?_
    refine aR 3 ?_
    refine aE ?_
    refine awp_block ?_
    refine awp_to (st' := slices_partialInsertionSortCmpFunc_api_Sample_o0_f3_series_byDevice_x6_H qx1 qx2 vx1 vx13_1 ((vl.set vx13_1.toNat vy23).set (IntKind.wrap .i64 (vx13_1 - 1)).toNat vy24, IntKind.wrap .i64 (vx13_1 - 1))) (oT [] []) ?_
    refine bE hF fun vl8_1 h21 hF => ?_
    refine awp_sub (awp_loop' (slices_partialInsertionSortCmpFunc_api_Sample_o0_f3_series_byDevice_x6_H qx1 qx2 vx1 vx13_1) slices_partialInsertionSortCmpFunc_api_Sample_o0_f3_series_byDevice_x6_k (slices_partialInsertionSortCmpFunc_api_Sample_o0_f3_series_byDevice_x6_S qx1 qx2 vx1 vx13_1) (by intro x; exact fun h => nomatch h) h21 (slices_partialInsertionSortCmpFunc_api_Sample_o0_f3_series_byDevice_x6_ok qx1 qx2 vx1 vx13_1)) ?_
    exact oO hF [] [] rfl
  · refine awp_false (by kernel_rfl) h14 ?_
    refine awp_skip ?_
    exact oO hF [] [] rfl

def slices_partialInsertionSortCmpFunc_api_Sample_o0_f3_series_byDevice_x7_k : (List api_Sample) → AEx
  | _ => .exit 6

def slices_partialInsertionSortCmpFunc_api_Sample_o0_f3_series_byDevice_x7_S (qx1 : Int) (qx2 : Int) (vx1 : Int) (vx13_1 : Int) : (List api_Sample) → St
  | vl11 => Mem.st ⟨[(0, ⟨32, 4, List.map api_Sample.enc vl11⟩)], []⟩ (tl [(0, .v (.one (.own 0 none))), (1, .v (.one (.d (.int .i64 qx1)))), (2, .v (.one (.d (.int .i64 qx2)))), (3, .v (.one (.fn 37 []))), (9, .v (.one (.d (.int .i64 vx13_1)))), (10, .v (.one (.d (.int .i64 vx1))))]) 1

def slices_partialInsertionSortCmpFunc_api_Sample_o0_f3_series_byDevice_x7_H (qx1 : Int) (qx2 : Int) (vx1 : Int) (vx13_1 : Int) : (List api_Sample) × Int → St
  | (vl10, vx15) => Mem.st ⟨[(0, ⟨32, 4, List.map api_Sample.enc vl10⟩)], []⟩ (tl [(0, .v (.one (.own 0 none))), (1, .v (.one (.d (.int .i64 qx1)))), (2, .v (.one (.d (.int .i64 qx2)))), (3, .v (.one (.fn 37 []))), (9, .v (.one (.d (.int .i64 vx13_1)))), (10, .v (.one (.d (.int .i64 vx1)))), (12, .v (.one (.d (.int .i64 vx15))))]) 1

theorem slices_partialInsertionSortCmpFunc_api_Sample_o0_f3_series_byDevice_x7_ok (qx1 : Int) (qx2 : Int) (vx1 : Int) (vx13_1 : Int) (s : (List api_Sample) × Int) (r : ((List api_Sample) × Int) ⊕ ((List api_Sample))) (hF : slices_partialInsertionSortCmpFunc_api_Sample_o0_f3_series_byDevice_x7 qx2 s = some r) : Awp prog 1 141 (cL (cL (cR (cL (cR (cR (cR (cR (cR (cR (cL (cL (cR (cL (cL (cR (cL (cR (cR (cB f74)))))))))))))))))))) (Out 1 (kk slices_partialInsertionSortCmpFunc_api_Sample_o0_f3_series_byDevice_x7_k) (SS (slices_partialInsertionSortCmpFunc_api_Sample_o0_f3_series_byDevice_x7_H qx1 qx2 vx1 vx13_1) (slices_partialInsertionSortCmpFunc_api_Sample_o0_f3_series_byDevice_x7_S qx1 qx2 vx1 vx13_1)) r) (slices_partialInsertionSortCmpFunc_api_Sample_o0_f3_series_byDevice_x7_H qx1 qx2 vx1 vx13_1 s) := by
  obtain ⟨vl10, vx15⟩ := s
  unfold slices_partialInsertionSortCmpFunc_api_Sample_o0_f3_series_byDevice_x7 at hF
  refine awp_seq ?_
  refine awp_seq ?_
  refine awp_region ?_
  refine aR 3 ?_
  refine aE ?_
  refine cE hF (fun h24 hF => ?_) fun h24 hF => ?_
  · refine awp_true (by kernel_rfl) h24 ?_
    refine awp_skip ?_
    refine awp_seq ?_
    refine awp_block ?_
    refine awp_seq ?_
    refine awp_seq ?_
    refine bE hF fun vy35 h25 hF => ?_
    refine bE hF fun vy36 h26 hF => ?_
    refine bE hF fun vr2_11 h27 hF => ?_
    refine aD ?_
    refine dR 3 ?_
    refine dX (x_idxO api_Sample.enc 0 h25) ?_
    refine dX (x_ldE api_Sample.enc h25) ?_
    refine dR 3 ?_
    refine dX (x_idxO api_Sample.enc 0 h26) ?_
    refine dX (x_ldE api_Sample.enc h26) ?_
    refine dC (series_byDevice_ok h27) [] [] [] ?_
    refine dR 2 ?_
    refine dE ?_
    refine cE hF (fun h28 hF => ?_) fun h28 hF => ?_
    · refine awp_true (by kernel_rfl) h28 ?_
      refine awp_exit ?_
      exact oO hF [] [] rfl
    · refine awp_false (by kernel_rfl) h28 ?_
      refine awp_skip ?_
      refine bE hF fun vy37 h29 hF => ?_
      refine aDw [0] ?_
      refine dR 8 ?_
      refine dI api_Sample.enc 0 h26 rfl ?_
      refine dX (x_ldE api_Sample.enc h26) ?_
      refine dR 2 ?_
      refine dI api_Sample.enc 0 h25 rfl ?_
      refine dX (x_ldE api_Sample.enc h25) ?_
      refine dI api_Sample.enc 0 h25 rfl ?_
      refine dW api_Sample.enc vy36 h25 rfl ?_
      refine dI api_Sample.enc 0 h29 rfl ?_
      refine dW api_Sample.enc vy35 h29 rfl ?_
      refine dE ?_
      refine awp_region ?_
      refine aR 3 ?_
      refine aE ?_
      exact oO hF [] [] rfl
  · refine awp_false (by kernel_rfl) h24 ?_
    refine awp_exit ?_
    exact oO hF [] [] rfl

def slices_partialInsertionSortCmpFunc_api_Sample_o0_f3_series_byDevice_x2_k : ((List api_Sample) × Int) ⊕ Bool → AEx
  | .inl _ => .normal
  | .inr _ => .ret

def slices_partialInsertionSortCmpFunc_api_Sample_o0_f3_series_byDevice_x2_S (qx1 : Int) (qx2 : Int) (vl : List api_Sample) (vx : Int) (vx1 : Int) : ((List api_Sample) × Int) ⊕ Bool → St
  | .inl (vl12, vx16) => Mem.st ⟨[(0, ⟨32, 4, List.map api_Sample.enc vl12⟩)], []⟩ (tl [(0, .v (.one (.own 0 none))), (1, .v (.one (.d (.int .i64 qx1)))), (2, .v (.one (.d (.int .i64 qx2)))), (3, .v (.one (.fn 37 []))), (9, .v (.one (.d (.int .i64 vx16)))), (10, .v (.one (.d (.int .i64 vx1))))]) 1
  | .inr vx17 => Mem.st ⟨[(0, ⟨32, 4, List.map api_Sample.enc vl⟩)], []⟩ (tl [(8, .v (.one (.d (.bool vx17))))]) 1

def slices_partialInsertionSortCmpFunc_api_Sample_o0_f3_series_byDevice_x2_I (qx1 : Int) (qx2 : Int) (vl : List api_Sample) (vx : Int) (vx1 : Int) : St := Mem.st ⟨[(0, ⟨32, 4, List.map api_Sample.enc vl⟩)], []⟩ (tl [(0, .v (.one (.own 0 none))), (1, .v (.one (.d (.int .i64 qx1)))), (2, .v (.one (.d (.int .i64 qx2)))), (3, .v (.one (.fn 37 []))), (9, .v (.one (.d (.int .i64 vx)))), (10, .v (.one (.d (.int .i64 vx1))))]) 1

theorem slices_partialInsertionSortCmpFunc_api_Sample_o0_f3_series_byDevice_x2_ok (qx1 : Int) (qx2 : Int) (vl : List api_Sample) (vx : Int) (vx1 : Int) {r} (hF : slices_partialInsertionSortCmpFunc_api_Sample_o0_f3_series_byDevice_x2 qx1 qx2 vl vx = some r) : Awp prog 1 141 (cL (cR (cL (cL (cR (cL (cR (cR (cB f74))))))))) (Out 1 slices_partialInsertionSortCmpFunc_api_Sample_o0_f3_series_byDevice_x2_k (slices_partialInsertionSortCmpFunc_api_Sample_o0_f3_series_byDevice_x2_S qx1 qx2 vl vx vx1) r) (slices_partialInsertionSortCmpFunc_api_Sample_o0_f3_series_byDevice_x2_I qx1 qx2 vl vx vx1) := by
  unfold slices_partialInsertionSortCmpFunc_api_Sample_o0_f3_series_byDevice_x2 at hF
  refine awp_block ?_
  refine awp_seq ?_
  refine awp_block ?_
  refine awp_to (st' := slices_partialInsertionSortCmpFunc_api_Sample_o0_f3_series_byDevice_x3_H qx1 qx2 vl vx1 vx) (oT [] []) ?_
  refine bE hF fun vx13_1 h8 hF => ?_
  refine awp_sub (awp_loop' (slices_partialInsertionSortCmpFunc_api_Sample_o0_f3_series_byDevice_x3_H qx1 qx2 vl vx1) slices_partialInsertionSortCmpFunc_api_Sample_o0_f3_series_byDevice_x3_k (slices_partialInsertionSortCmpFunc_api_Sample_o0_f3_series_byDevice_x3_S qx1 qx2 vl vx1) (by intro x; exact fun h => nomatch h) h8 (slices_partialInsertionSortCmpFunc_api_Sample_o0_f3_series_byDevice_x3_ok qx1 qx2 vl vx1)) ?_
  refine awp_seq ?_
  refine awp_seq ?_
  refine awp_region ?_
  refine aR 3 ?_
  refine aE ?_
  refine cE hF (fun h9 hF => ?_) fun h9 hF => ?_
  · refine awp_true (by kernel_rfl) h9 ?_
    refine awp_seq ?_
    refine awp_region ?_
    refine aR 1 ?_
    refine aE ?_
    refine awp_ret ?_
    exact oO hF [] [] rfl
  · refine awp_false (by kernel_rfl) h9 ?_
    refine awp_skip ?_
    refine awp_seq ?_
    refine awp_seq ?_
    refine awp_region ?_
    refine aR 4 ?_
    refine aE ?_
    refine cE hF (fun h10 hF => ?_) fun h10 hF => ?_
    · refine awp_true (by kernel_rfl) h10 ?_
      refine awp_seq ?_
      refine awp_region ?_
      refine aR 1 ?_
      refine aE ?_
      refine awp_ret ?_
      exact oO hF [] [] rfl
    · refine awp_false (by kernel_rfl) h10 ?_
      refine awp_skip ?_
      refine awp_seq ?_
      refine bE hF fun vy23 h11 hF => ?_
      refine bE hF fun vy24 h12 hF => ?_
      refine bE hF fun vy25 h13 hF => ?_
      refine aDw [0] ?_
      refine dR 8 ?_
      refine dI api_Sample.enc 0 h11 rfl ?_
      refine dX (x_ldE api_Sample.enc h11) ?_
      refine dR 2 ?_
      refine dI api_Sample.enc 0 h12 rfl ?_
      refine dX (x_ldE api_Sample.enc h12) ?_
      refine dI api_Sample.enc 0 h12 rfl ?_
      refine dW api_Sample.enc vy23 h12 rfl ?_
      refine dI api_Sample.enc 0 h13 rfl ?_
      refine dW api_Sample.enc vy24 h13 rfl ?_
      refine dE ?_
      refine awp_seq ?_
      refine awp_to (st' := slices_partialInsertionSortCmpFunc_api_Sample_o0_f3_series_byDevice_x5_I qx1 qx2 vl vx1 vx13_1 vy23 vy24) (oT [] []) ?_
      refine bE hF fun vl9_1 h22 hF => ?_
      refine awp_sub (slices_partialInsertionSortCmpFunc_api_Sample_o0_f3_series_byDevice_x5_ok qx1 qx2 vl vx1 vx13_1 vy23 vy24 h22) ?_
      refine awp_seq ?_
      refine awp_region ?_
      refine aR 4 ?_
      refine aE ?_
      refine cE hF (fun h23 hF => ?_) fun h23 hF => ?_
      · refine awp_true (by kernel_rfl) h23 ?_
        refine awp_seq ?_
        refine awp_region ?_
        refine aR 3 ?_
        refine aE ?_
        refine awp_block ?_
        refine awp_to (st' := slices_partialInsertionSortCmpFunc_api_Sample_o0_f3_series_byDevice_x7_H qx1 qx2 vx1 vx13_1 (vl9_1, IntKind.wrap .i64 (vx13_1 + 1))) (oT [] []) ?_
        refine bE hF fun vl11_1 h30 hF => ?_
        refine awp_sub (awp_loop' (slices_partialInsertionSortCmpFunc_api_Sample_o0_f3_series_byDevice_x7_H qx1 qx2 vx1 vx13_1) slices_partialInsertionSortCmpFunc_api_Sample_o0_f3_series_byDevice_x7_k (slices_partialInsertionSortCmpFunc_api_Sample_o0_f3_series_byDevice_x7_S qx1 qx2 vx1 vx13_1) (by intro x; exact fun h => nomatch h) h30 (slices_partialInsertionSortCmpFunc_api_Sample_o0_f3_series_byDevice_x7_ok qx1 qx2 vx1 vx13_1)) ?_
        exact oO hF [] [] rfl
      · refine awp_false (by kernel_rfl) h23 ?_
        refine awp_skip ?_
        exact oO hF [] [] rfl

def slices_partialInsertionSortCmpFunc_api_Sample_o0_f3_series_byDevice_x1_k : (List api_Sample) ⊕ ((List api_Sample) × Bool) → AEx
  | .inl _ => .exit 0
  | .inr _ => .ret

def slices_partialInsertionSortCmpFunc_api_Sample_o0_f3_series_byDevice_x1_S (qx1 : Int) (qx2 : Int) : (List api_Sample) ⊕ ((List api_Sample) × Bool) → St
  | .inl vl13 => Mem.st ⟨[(0, ⟨32, 4, List.map api_Sample.enc vl13⟩)], []⟩ (tl []) 1
  | .inr (vl14, vx18) => Mem.st ⟨[(0, ⟨32, 4, List.map api_Sample.enc vl14⟩)], []⟩ (tl [(8, .v (.one (.d (.bool vx18))))]) 1

def slices_partialInsertionSortCmpFunc_api_Sample_o0_f3_series_byDevice_x1_H (qx1 : Int) (qx2 : Int) : (List api_Sample) × Int × Int → St
  | (vl, vx, vx1) => Mem.st ⟨[(0, ⟨32, 4, List.map api_Sample.enc vl⟩)], []⟩ (tl [(0, .v (.one (.own 0 none))), (1, .v (.one (.d (.int .i64 qx1)))), (2, .v (.one (.d (.int .i64 qx2)))), (3, .v (.one (.fn 37 []))), (9, .v (.one (.d (.int .i64 vx)))), (10, .v (.one (.d (.int .i64 vx1))))]) 1

theorem slices_partialInsertionSortCmpFunc_api_Sample_o0_f3_series_byDevice_x1_ok (qx1 : Int) (qx2 : Int) (s : (List api_Sample) × Int × Int) (r : ((List api_Sample) × Int × Int) ⊕ ((List api_Sample) ⊕ ((List api_Sample) × Bool))) (hF : slices_partialInsertionSortCmpFunc_api_Sample_o0_f3_series_byDevice_x1 qx1 qx2 s = some r) : Awp prog 1 141 (cL (cL (cR (cL (cR (cR (cB f74))))))) (Out 1 (kk slices_partialInsertionSortCmpFunc_api_Sample_o0_f3_series_byDevice_x1_k) (SS (slices_partialInsertionSortCmpFunc_api_Sample_o0_f3_series_byDevice_x1_H qx1 qx2) (slices_partialInsertionSortCmpFunc_api_Sample_o0_f3_series_byDevice_x1_S qx1 qx2)) r) (slices_partialInsertionSortCmpFunc_api_Sample_o0_f3_series_byDevice_x1_H qx1 qx2 s) := by
  obtain ⟨vl, vx, vx1⟩ := s
  unfold slices_partialInsertionSortCmpFunc_api_Sample_o0_f3_series_byDevice_x1 at hF
  refine awp_seq ?_
  refine awp_seq ?_
  refine awp_region ?_
  refine aR 2 ?_
  refine aE ?_
  refine cE hF (fun h1 hF => ?_) fun h1 hF => ?_
  · refine awp_true (by kernel_rfl) h1 ?_
    refine awp_skip ?_
    refine awp_seq ?_
    refine awp_to (st' := slices_partialInsertionSortCmpFunc_api_Sample_o0_f3_series_byDevice_x2_I qx1 qx2 vl vx vx1) (oT [] []) ?_
    refine bE hF fun x h31 hF => ?_
    rcases x with ⟨vl12_1, vx16_1⟩ | vx17_1
    · refine awp_sub (slices_partialInsertionSortCmpFunc_api_Sample_o0_f3_series_byDevice_x2_ok qx1 qx2 vl vx vx1 h31) ?_
      refine awp_region ?_
      refine aR 3 ?_
      refine aE ?_
      exact oO hF [] [] rfl
    · refine awp_sub (slices_partialInsertionSortCmpFunc_api_Sample_o0_f3_series_byDevice_x2_ok qx1 qx2 vl vx vx1 h31) ?_
      exact oO hF [] [] rfl
  · refine awp_false (by kernel_rfl) h1 ?_
    refine awp_exit ?_
    exact oO hF [] [] rfl

def slices_partialInsertionSortCmpFunc_api_Sample_o0_f3_series_byDevice_R (qx : List api_Sample) (qx1 : Int) (qx2 : Int) (r : (List api_Sample) × Bool) : TV × Mem := (.v (.one (.d (.bool r.2))), ⟨[(0, ⟨32, 4, List.map api_Sample.enc r.1⟩)], []⟩)

theorem slices_partialInsertionSortCmpFunc_api_Sample_o0_f3_series_byDevice_ok {qx : List api_Sample} {qx1 : Int} {qx2 : Int} {r} (hF : slices_partialInsertionSortCmpFunc_api_Sample_o0_f3_series_byDevice qx qx1 qx2 = some r) : Holds prog 74 [.v (.one (.own 0 none)), .v (.one (.d (.int .i64 qx1))), .v (.one (.d (.int .i64 qx2))), .v (.one (.fn 37 []))] ⟨[(0, ⟨32, 4, List.map api_Sample.enc qx⟩)], []⟩ (Is (slices_partialInsertionSortCmpFunc_api_Sample_o0_f3_series_byDevice_R qx qx1 qx2 r)) := by
  unfold slices_partialInsertionSortCmpFunc_api_Sample_o0_f3_series_byDevice at hF
  refine holds_of_awp hΓ (fn := f74) (c := cB f74) (A := 1) (nx := 1) (by kernel_rfl) (by kernel_rfl) (by kernel_rfl) (by kernel_rfl) (by kernel_rfl) (by kernel_rfl) (lowc_of (by kernel_rfl)) ?_
  show Awp prog 1 141 (cB f74) _ _
  refine awp_seq ?_
  refine awp_region ?_
  refine aR 1 ?_
  refine aE ?_
  refine awp_seq ?_
  refine awp_region ?_
  refine aR 3 ?_
  refine aE ?_
  refine awp_seq ?_
  refine awp_seq ?_
  refine awp_region ?_
  refine aR 1 ?_
  refine aE ?_
  refine awp_block ?_
  refine awp_to (st' := slices_partialInsertionSortCmpFunc_api_Sample_o0_f3_series_byDevice_x1_H qx1 qx2 (qx, IntKind.wrap .i64 (qx1 + 1), 0)) (oT [] []) ?_
  refine bE hF fun x h32 hF => ?_
  rcases x with vl13_1 | ⟨vl14_1, vx18_1⟩
  · refine awp_sub (awp_loop' (slices_partialInsertionSortCmpFunc_api_Sample_o0_f3_series_byDevice_x1_H qx1 qx2) slices_partialInsertionSortCmpFunc_api_Sample_o0_f3_series_byDevice_x1_k (slices_partialInsertionSortCmpFunc_api_Sample_o0_f3_series_byDevice_x1_S qx1 qx2) (by intro x; rcases x with x | x <;> exact fun h => nomatch h) h32 (slices_partialInsertionSortCmpFunc_api_Sample_o0_f3_series_byDevice_x1_ok qx1 qx2)) ?_
    refine awp_seq ?_
    refine awp_region ?_
    refine aR 1 ?_
    refine aE ?_
    refine awp_ret ?_
    exact oF hF [] []
  · refine awp_sub (awp_loop' (slices_partialInsertionSortCmpFunc_api_Sample_o0_f3_series_byDevice_x1_H qx1 qx2) slices_partialInsertionSortCmpFunc_api_Sample_o0_f3_series_byDevice_x1_k (slices_partialInsertionSortCmpFunc_api_Sample_o0_f3_series_byDevice_x1_S qx1 qx2) (by intro x; rcases x with x | x <;> exact fun h => nomatch h) h32 (slices_partialInsertionSortCmpFunc_api_Sample_o0_f3_series_byDevice_x1_ok qx1 qx2)) ?_
    exact oF hF [] []

/-! ### slices.partitionEqualCmpFunc[beaconfleet/api.Sample] -/
def slices_partitionEqualCmpFunc_api_Sample_o0_f4_series_byDevice_x3_k : Bool → AEx
  | _ => .normal

def slices_partitionEqualCmpFunc_api_Sample_o0_f4_series_byDevice_x3_S (qx1 : Int) (vl : List api_Sample) (vx1 : Int) (vx10 : Int) : Bool → St
  | vx12 => Mem.st ⟨[(0, ⟨32, 4, List.map api_Sample.enc vl⟩)], []⟩ (tl [(0, .v (.one (.own 0 none))), (1, .v (.one (.d (.int .i64 qx1)))), (4, .v (.one (.fn 37 []))), (11, .v (.one (.d (.int .i64 vx10)))), (12, .v (.one (.d (.int .i64 vx1)))), (47, .v (.one (.d (.bool vx12))))]) 1

def slices_partitionEqualCmpFunc_api_Sample_o0_f4_series_byDevice_x3_I (qx1 : Int) (vl : List api_Sample) (vx1 : Int) (vx10 : Int) : St := Mem.st ⟨[(0, ⟨32, 4, List.map api_Sample.enc vl⟩)], []⟩ (tl [(0, .v (.one (.own 0 none))), (1, .v (.one (.d (.int .i64 qx1)))), (4, .v (.one (.fn 37 []))), (11, .v (.one (.d (.int .i64 vx10)))), (12, .v (.one (.d (.int .i64 vx1))))]) 1

theorem slices_partitionEqualCmpFunc_api_Sample_o0_f4_series_byDevice_x3_ok (qx1 : Int) (vl : List api_Sample) (vx1 : Int) (vx10 : Int) {r} (hF : slices_partitionEqualCmpFunc_api_Sample_o0_f4_series_byDevice_x3 qx1 vl vx1 vx10 = some r) : Awp prog 1 90 (cL (cL (cL (cL (cL (cL (cL (cL (cL (cR (cR (cR (cB f75))))))))))))) (Out 1 slices_partitionEqualCmpFunc_api_Sample_o0_f4_series_byDevice_x3_k (slices_partitionEqualCmpFunc_api_Sample_o0_f4_series_byDevice_x3_S qx1 vl vx1 vx10) r) (slices_partitionEqualCmpFunc_api_Sample_o0_f4_series_byDevice_x3_I qx1 vl vx1 vx10) := by
  unfold slices_partitionEqualCmpFunc_api_Sample_o0_f4_series_byDevice_x3 at hF
  refine cE hF (fun h4 hF => ?_) fun h4 hF => ?_
  · refine bE hF fun vy16 h5 hF => ?_
    refine bE hF fun vy17 h6 hF => ?_
    refine bE hF fun vr2_5 h7 hF => ?_
    refine aD ?_
    refine dR 2 ?_
    refine dB h4 ?_
    refine dR 4 ?_
    refine dX (x_idxO api_Sample.enc 0 h5) ?_
    refine dX (x_ldE api_Sample.enc h5) ?_
    refine dR 2 ?_
    refine dX (x_idxO api_Sample.enc 0 h6) ?_
    refine dX (x_ldE api_Sample.enc h6) ?_
    refine dC (series_byDevice_ok h7) [] [] [] ?_
    refine dR 3 ?_
    refine dE ?_
    exact oO hF [] [] rfl
  · refine aD ?_
    refine dR 2 ?_
    refine dB h4 ?_
    refine dR 14 ?_
    refine dE ?_
    exact oO hF [] [] rfl

def slices_partitionEqualCmpFunc_api_Sample_o0_f4_series_byDevice_x2_k : Int → AEx
  | _ => .exit 2

def slices_partitionEqualCmpFunc_api_Sample_o0_f4_series_byDevice_x2_S (qx1 : Int) (vl : List api_Sample) (vx1 : Int) : Int → St
  | vx13 => Mem.st ⟨[(0, ⟨32, 4, List.map api_Sample.enc vl⟩)], []⟩ (tl [(0, .v (.one (.own 0 none))), (1, .v (.one (.d (.int .i64 qx1)))), (4, .v (.one (.fn 37 []))), (11, .v (.one (.d (.int .i64 vx13)))), (12, .v (.one (.d (.int .i64 vx1))))]) 1

def slices_partitionEqualCmpFunc_api_Sample_o0_f4_series_byDevice_x2_H (qx1 : Int) (vl : List api_Sample) (vx1 : Int) : Int → St
  | vx10 => Mem.st ⟨[(0, ⟨32, 4, List.map api_Sample.enc vl⟩)], []⟩ (tl [(0, .v (.one (.own 0 none))), (1, .v (.one (.d (.int .i64 qx1)))), (4, .v (.one (.fn 37 []))), (11, .v (.one (.d (.int .i64 vx10)))), (12, .v (.one (.d (.int .i64 vx1))))]) 1

theorem slices_partitionEqualCmpFunc_api_Sample_o0_f4_series_byDevice_x2_ok (qx1 : Int) (vl : List api_Sample) (vx1 : Int) (vx10 : Int) (r : (Int) ⊕ (Int)) (hF : slices_partitionEqualCmpFunc_api_Sample_o0_f4_series_byDevice_x2 qx1 vl vx1 vx10 = some r) : Awp prog 1 90 (cL (cL (cL (cL (cL (cL (cL (cR (cR (cR (cB f75))))))))))) (Out 1 (kk slices_partitionEqualCmpFunc_api_Sample_o0_f4_series_byDevice_x2_k) (SS (slices_partitionEqualCmpFunc_api_Sample_o0_f4_series_byDevice_x2_H qx1 vl vx1) (slices_partitionEqualCmpFunc_api_Sample_o0_f4_series_byDevice_x2_S qx1 vl vx1)) r) (slices_partitionEqualCmpFunc_api_Sample_o0_f4_series_byDevice_x2_H qx1 vl vx1 vx10) := by
  unfold slices_partitionEqualCmpFunc_api_Sample_o0_f4_series_byDevice_x2 at hF
  refine awp_seq ?_
  refine awp_seq ?_
  refine awp_to (st' := slices_partitionEqualCmpFunc_api_Sample_o0_f4_series_byDevice_x3_I qx1 vl vx1 vx10) (oT [] []) ?_
  refine bE hF fun vx12_1 h8 hF => ?_
  refine awp_sub (slices_partitionEqualCmpFunc_api_Sample_o0_f4_series_byDevice_x3_ok qx1 vl vx1 vx10 h8) ?_
  refine cE hF (fun h9 hF => ?_) fun h9 hF => ?_
  · refine awp_true (by kernel_rfl) h9 ?_
    refine awp_skip ?_
    refine awp_block ?_
    refine awp_region ?_
    refine aR 3 ?_
    refine aE ?_
    exact oO hF [] [] rfl
  · refine awp_false (by kernel_rfl) h9 ?_
    refine awp_exit ?_
    exact oO hF [] [] rfl

def slices_partitionEqualCmpFunc_api_Sample_o0_f4_series_byDevice_x5_k : Bool → AEx
  | _ => .normal

def slices_partitionEqualCmpFunc_api_Sample_o0_f4_series_byDevice_x5_S (qx1 : Int) (vl : List api_Sample) (vx13_1 : Int) (vx14 : Int) : Bool → St
  | vx16 => Mem.st ⟨[(0, ⟨32, 4, List.map api_Sample.enc vl⟩)], []⟩ (tl [(0, .v (.one (.own 0 none))), (1, .v (.one (.d (.int .i64 qx1)))), (4, .v (.one (.fn 37 []))), (11, .v (.one (.d (.int .i64 vx13_1)))), (12, .v (.one (.d (.int .i64 vx14)))), (65, .v (.one (.d (.bool vx16))))]) 1

def slices_partitionEqualCmpFunc_api_Sample_o0_f4_series_byDevice_x5_I (qx1 : Int) (vl : List api_Sample) (vx13_1 : Int) (vx14 : Int) : St := Mem.st ⟨[(0, ⟨32, 4, List.map api_Sample.enc vl⟩)], []⟩ (tl [(0, .v (.one (.own 0 none))), (1, .v (.one (.d (.int .i64 qx1)))), (4, .v (.one (.fn 37 []))), (11, .v (.one (.d (.int .i64 vx13_1)))), (12, .v (.one (.d (.int .i64 vx14))))]) 1

theorem slices_partitionEqualCmpFunc_api_Sample_o0_f4_series_byDevice_x5_ok (qx1 : Int) (vl : List api_Sample) (vx13_1 : Int) (vx14 : Int) {r} (hF : slices_partitionEqualCmpFunc_api_Sample_o0_f4_series_byDevice_x5 qx1 vl vx13_1 vx14 = some r) : Awp prog 1 90 (cL (cL (cL (cL (cL (cR (cL (cL (cL (cL (cR (cR (cR (cB f75)))))))))))))) (Out 1 slices_partitionEqualCmpFunc_api_Sample_o0_f4_series_byDevice_x5_k (slices_partitionEqualCmpFunc_api_Sample_o0_f4_series_byDevice_x5_S qx1 vl vx13_1 vx14) r) (slices_partitionEqualCmpFunc_api_Sample_o0_f4_series_byDevice_x5_I qx1 vl vx13_1 vx14) := by
  unfold slices_partitionEqualCmpFunc_api_Sample_o0_f4_series_byDevice_x5 at hF
  refine cE hF (fun h11 hF => ?_) fun h11 hF => ?_
  · refine bE hF fun vy20 h12 hF => ?_
    refine bE hF fun vy21 h13 hF => ?_
    refine bE hF fun vr2_7 h14 hF => ?_
    refine aD ?_
    refine dR 2 ?_
    refine dB h11 ?_
    refine dR 4 ?_
    refine dX (x_idxO api_Sample.enc 0 h12) ?_
    refine dX (x_ldE api_Sample.enc h12) ?_
    refine dR 2 ?_
    refine dX (x_idxO api_Sample.enc 0 h13) ?_
    refine dX (x_ldE api_Sample.enc h13) ?_
    refine dC (series_byDevice_ok h14) [] [] [] ?_
    refine dR 2 ?_
    refine dE ?_
    exact oO hF [] [] rfl
  · refine aD ?_
    refine dR 2 ?_
    refine dB h11 ?_
    refine dR 13 ?_
    refine dE ?_
    exact oO hF [] [] rfl

def slices_partitionEqualCmpFunc_api_Sample_o0_f4_series_byDevice_x4_k : Int → AEx
  | _ => .exit 4

def slices_partitionEqualCmpFunc_api_Sample_o0_f4_series_byDevice_x4_S (qx1 : Int) (vl : List api_Sample) (vx13_1 : Int) : Int → St
  | vx17 => Mem.st ⟨[(0, ⟨32, 4, List.map api_Sample.enc vl⟩)], []⟩ (tl [(0, .v (.one (.own 0 none))), (1, .v (.one (.d (.int .i64 qx1)))), (4, .v (.one (.fn 37 []))), (11, .v (.one (.d (.int .i64 vx13_1)))), (12, .v (.one (.d (.int .i64 vx17))))]) 1

def slices_partitionEqualCmpFunc_api_Sample_o0_f4_series_byDevice_x4_H (qx1 : Int) (vl : List api_Sample) (vx13_1 : Int) : Int → St
  | vx14 => Mem.st ⟨[(0, ⟨32, 4, List.map api_Sample.enc vl⟩)], []⟩ (tl [(0, .v (.one (.own 0 none))), (1, .v (.one (.d (.int .i64 qx1)))), (4, .v (.one (.fn 37 []))), (11, .v (.one (.d (.int .i64 vx13_1)))), (12, .v (.one (.d (.int .i64 vx14))))]) 1

theorem slices_partitionEqualCmpFunc_api_Sample_o0_f4_series_byDevice_x4_ok (qx1 : Int) (vl : List api_Sample) (vx13_1 : Int) (vx14 : Int) (r : (Int) ⊕ (Int)) (hF : slices_partitionEqualCmpFunc_api_Sample_o0_f4_series_byDevice_x4 qx1 vl vx13_1 vx14 = some r) : Awp prog 1 90 (cL (cL (cL (cR (cL (cL (cL (cL (cR (cR (cR (cB f75)))))))))))) (Out 1 (kk slices_partitionEqualCmpFunc_api_Sample_o0_f4_series_byDevice_x4_k) (SS (slices_partitionEqualCmpFunc_api_Sample_o0_f4_series_byDevice_x4_H qx1 vl vx13_1) (slices_partitionEqualCmpFunc_api_Sample_o0_f4_series_byDevice_x4_S qx1 vl vx13_1)) r) (slices_partitionEqualCmpFunc_api_Sample_o0_f4_series_byDevice_x4_H qx1 vl vx13_1 vx14) := by
  unfold slices_partitionEqualCmpFunc_api_Sample_o0_f4_series_byDevice_x4 at hF
  refine awp_seq ?_
  refine awp_seq ?_
  refine awp_to (st' := slices_partitionEqualCmpFunc_api_Sample_o0_f4_series_byDevice_x5_I qx1 vl vx13_1 vx14) (oT [] []) ?_
  refine bE hF fun vx16_1 h15 hF => ?_
  refine awp_sub (slices_partitionEqualCmpFunc_api_Sample_o0_f4_series_byDevice_x5_ok qx1 vl vx13_1 vx14 h15) ?_
  refine cE hF (fun h16 hF => ?_) fun h16 hF => ?_
  · refine awp_true (by kernel_rfl) h16 ?_
    refine awp_skip ?_
    refine awp_block ?_
    refine awp_region ?_
    refine aR 3 ?_
    refine aE ?_
    exact oO hF [] [] rfl
  · refine awp_false (by kernel_rfl) h16 ?_
    refine awp_exit ?_
    exact oO hF [] [] rfl

def slices_partitionEqualCmpFunc_api_Sample_o0_f4_series_byDevice_x1_k : ((List api_Sample) × Int) → AEx
  | _ => .exit 0

def slices_partitionEqualCmpFunc_api_Sample_o0_f4_series_byDevice_x1_S (qx1 : Int) : ((List api_Sample) × Int) → St
  | (vl1, vx18) => Mem.st ⟨[(0, ⟨32, 4, List.map api_Sample.enc vl1⟩)], []⟩ (tl [(11, .v (.one (.d (.int .i64 vx18))))]) 1

def slices_partitionEqualCmpFunc_api_Sample_o0_f4_series_byDevice_x1_H (qx1 : Int) : (List api_Sample) × Int × Int → St
  | (vl, vx, vx1) => Mem.st ⟨[(0, ⟨32, 4, List.map api_Sample.enc vl⟩)], []⟩ (tl [(0, .v (.one (.own 0 none))), (1, .v (.one (.d (.int .i64 qx1)))), (4, .v (.one (.fn 37 []))), (11, .v (.one (.d (.int .i64 vx)))), (12, .v (.one (.d (.int .i64 vx1))))]) 1

theorem slices_partitionEqualCmpFunc_api_Sample_o0_f4_series_byDevice_x1_ok (qx1 : Int) (s : (List api_Sample) × Int × Int) (r : ((List api_Sample) × Int × Int) ⊕ (((List api_Sample) × Int))) (hF : slices_partitionEqualCmpFunc_api_Sample_o0_f4_series_byDevice_x1 qx1 s = some r) : Awp prog 1 90 (cL (cL (cL (cR (cR (cR (cB f75))))))) (Out 1 (kk slices_partitionEqualCmpFunc_api_Sample_o0_f4_series_byDevice_x1_k) (SS (slices_partitionEqualCmpFunc_api_Sample_o0_f4_series_byDevice_x1_H qx1) (slices_partitionEqualCmpFunc_api_Sample_o0_f4_series_byDevice_x1_S qx1)) r) (slices_partitionEqualCmpFunc_api_Sample_o0_f4_series_byDevice_x1_H qx1 s) := by
  obtain ⟨vl, vx, vx1⟩ := s
  unfold slices_partitionEqualCmpFunc_api_Sample_o0_f4_series_byDevice_x1 at hF
  refine awp_block ?_
  refine awp_seq ?_
  refine awp_block ?_
  refine awp_to (st' := slices_partitionEqualCmpFunc_api_Sample_o0_f4_series_byDevice_x2_H qx1 vl vx1 vx) (oT [] []) ?_
  refine bE hF fun vx13_1 h10 hF => ?_
  refine awp_sub (awp_loop' (slices_partitionEqualCmpFunc_api_Sample_o0_f4_series_byDevice_x2_H qx1 vl vx1) slices_partitionEqualCmpFunc_api_Sample_o0_f4_series_byDevice_x2_k (slices_partitionEqualCmpFunc_api_Sample_o0_f4_series_byDevice_x2_S qx1 vl vx1) (by intro x; exact fun h => nomatch h) h10 (slices_partitionEqualCmpFunc_api_Sample_o0_f4_series_byDevice_x2_ok qx1 vl vx1)) ?_
  refine awp_seq ?_
  refine awp_block ?_
  refine awp_to (st' := slices_partitionEqualCmpFunc_api_Sample_o0_f4_series_byDevice_x4_H qx1 vl vx13_1 vx1) (oT [] []) ?_
  refine bE hF fun vx17_1 h17 hF => ?_
  refine awp_sub (awp_loop' (slices_partitionEqualCmpFunc_api_Sample_o0_f4_series_byDevice_x4_H qx1 vl vx13_1) slices_partitionEqualCmpFunc_api_Sample_o0_f4_series_byDevice_x4_k (slices_partitionEqualCmpFunc_api_Sample_o0_f4_series_byDevice_x4_S qx1 vl vx13_1) (by intro x; exact fun h => nomatch h) h17 (slices_partitionEqualCmpFunc_api_Sample_o0_f4_series_byDevice_x4_ok qx1 vl vx13_1)) ?_
  refine awp_seq ?_
  refine awp_seq ?_
  refine awp_region ?_
  refine aR 3 ?_
  refine aE ?_
  refine cE hF (fun h18 hF => ?_) fun h18 hF => ?_
  · refine awp_true (by kernel_rfl) h18 ?_
    refine awp_exit ?_
    exact oO hF [] [] rfl
  · refine awp_false (by kernel_rfl) h18 ?_
    refine awp_skip ?_
    refine awp_seq ?_
    refine bE hF fun vy22 h19 hF => ?_
    refine bE hF fun vy23 h20 hF => ?_
    refine bE hF fun vy24 h21 hF => ?_
    refine aDw [0] ?_
    refine dR 6 ?_
    refine dI api_Sample.enc 0 h19 rfl ?_
    refine dX (x_ldE api_Sample.enc h19) ?_
    refine dR 2 ?_
    refine dI api_Sample.enc 0 h20 rfl ?_
    refine dX (x_ldE api_Sample.enc h20) ?_
    refine dI api_Sample.enc 0 h20 rfl ?_
    refine dW api_Sample.enc vy22 h20 rfl ?_
    refine dI api_Sample.enc 0 h21 rfl ?_
    refine dW api_Sample.enc vy23 h21 rfl ?_
    refine dE ?_
    refine awp_seq ?_
    refine awp_region ?_
    refine aR 3 ?_
    refine aE ?_
    refine awp_region ?_
    refine aR 3 ?_
    refine aE ?_
    exact oO hF [] [] rfl

def slices_partitionEqualCmpFunc_api_Sample_o0_f4_series_byDevice_R (qx : List api_Sample) (qx1 : Int) (qx2 : Int) (qx3 : Int) (r : (List api_Sample) × Int) : TV × Mem := (.v (.one (.d (.int .i64 r.2))), ⟨[(0, ⟨32, 4, List.map api_Sample.enc r.1⟩)], []⟩)

theorem slices_partitionEqualCmpFunc_api_Sample_o0_f4_series_byDevice_ok {qx : List api_Sample} {qx1 : Int} {qx2 : Int} {qx3 : Int} {r} (hF : slices_partitionEqualCmpFunc_api_Sample_o0_f4_series_byDevice qx qx1 qx2 qx3 = some r) : Holds prog 75 [.v (.one (.own 0 none)), .v (.one (.d (.int .i64 qx1))), .v (.one (.d (.int .i64 qx2))), .v (.one (.d (.int .i64 qx3))), .v (.one (.fn 37 []))] ⟨[(0, ⟨32, 4, List.map api_Sample.enc qx⟩)], []⟩ (Is (slices_partitionEqualCmpFunc_api_Sample_o0_f4_series_byDevice_R qx qx1 qx2 qx3 r)) := by
  unfold slices_partitionEqualCmpFunc_api_Sample_o0_f4_series_byDevice at hF
  refine holds_of_awp hΓ (fn := f75) (c := cB f75) (A := 1) (nx := 1) (by kernel_rfl) (by kernel_rfl) (by kernel_rfl) (by kernel_rfl) (by kernel_rfl) (by kernel_rfl) (lowc_of (by kernel_rfl)) ?_
  show Awp prog 1 90 (cB f75) _ _
  refine awp_seq ?_
  refine awp_region ?_
  refine aR 1 ?_
  refine aE ?_
  refine awp_seq ?_
  refine bE hF fun vy h1 hF => ?_
  refine bE hF fun vy1 h2 hF => ?_
  refine bE hF fun vy2 h3 hF => ?_
  refine aDw [0] ?_
  refine dR 6 ?_
  refine dI api_Sample.enc 0 h1 rfl ?_
  refine dX (x_ldE api_Sample.enc h1) ?_
  refine dR 2 ?_
  refine dI api_Sample.enc 0 h2 rfl ?_
  refine dX (x_ldE api_Sample.enc h2) ?_
  refine dI api_Sample.enc 0 h2 rfl ?_
  refine dW api_Sample.enc vy h2 rfl ?_
  refine dI api_Sample.enc 0 h3 rfl ?_
  refine dW api_Sample.enc vy1 h3 rfl ?_
  refine dE ?_
  refine awp_seq ?_
  refine awp_region ?_
  refine aR 6 ?_
  refine aE ?_
  refine awp_seq ?_
  refine awp_block ?_
  refine awp_to (st' := slices_partitionEqualCmpFunc_api_Sample_o0_f4_series_byDevice_x1_H qx1 ((qx.set qx1.toNat vy).set qx3.toNat vy1, IntKind.wrap .i64 (qx1 + 1), IntKind.wrap .i64 (qx2 - 1))) (oT [] []) ?_
  refine bE hF fun x h22 hF => ?_
  obtain ⟨vl1_1, vx18_1⟩ := x
  refine awp_sub (awp_loop' (slices_partitionEqualCmpFunc_api_Sample_o0_f4_series_byDevice_x1_H qx1) slices_partitionEqualCmpFunc_api_Sample_o0_f4_series_byDevice_x1_k (slices_partitionEqualCmpFunc_api_Sample_o0_f4_series_byDevice_x1_S qx1) (by intro x; exact fun h => nomatch h) h22 (slices_partitionEqualCmpFunc_api_Sample_o0_f4_series_byDevice_x1_ok qx1)) ?_
  refine awp_seq ?_
  refine awp_region ?_
  refine aR 2 ?_
  refine aE ?_
  refine awp_ret ?_
  exact oF hF [] []

/-! ### slices.partitionCmpFunc[beaconfleet/api.Sample] -/
def slices_partitionCmpFunc_api_Sample_o0_f4_series_byDevice_x2_k : Bool → AEx
  | _ => .normal

def slices_partitionCmpFunc_api_Sample_o0_f4_series_byDevice_x2_S (qx : List api_Sample) (qx1 : Int) (qx2 : Int) (qx3 : Int) (vy : api_Sample) (vy1 : api_Sample) (vx : Int) : Bool → St
  | vx2 => Mem.st ⟨[(0, ⟨32, 4, List.map api_Sample.enc ((qx.set qx1.toNat vy).set qx3.toNat vy1)⟩)], []⟩ (tl [(0, .v (.one (.own 0 none))), (1, .v (.one (.d (.int .i64 qx1)))), (4, .v (.one (.fn 37 []))), (12, .v (.one (.d (.int .i64 vx)))), (13, .v (.one (.d (.int .i64 (IntKind.wrap .i64 (qx2 - 1)))))), (47, .v (.one (.d (.bool vx2))))]) 1

def slices_partitionCmpFunc_api_Sample_o0_f4_series_byDevice_x2_I (qx : List api_Sample) (qx1 : Int) (qx2 : Int) (qx3 : Int) (vy : api_Sample) (vy1 : api_Sample) (vx : Int) : St := Mem.st ⟨[(0, ⟨32, 4, List.map api_Sample.enc ((qx.set qx1.toNat vy).set qx3.toNat vy1)⟩)], []⟩ (tl [(0, .v (.one (.own 0 none))), (1, .v (.one (.d (.int .i64 qx1)))), (4, .v (.one (.fn 37 []))), (12, .v (.one (.d (.int .i64 vx)))), (13, .v (.one (.d (.int .i64 (IntKind.wrap .i64 (qx2 - 1))))))]) 1

theorem slices_partitionCmpFunc_api_Sample_o0_f4_series_byDevice_x2_ok (qx : List api_Sample) (qx1 : Int) (qx2 : Int) (qx3 : Int) (vy : api_Sample) (vy1 : api_Sample) (vx : Int) {r} (hF : slices_partitionCmpFunc_api_Sample_o0_f4_series_byDevice_x2 qx qx1 qx2 qx3 vy vy1 vx = some r) : Awp prog 1 178 (cL (cL (cL (cL (cL (cR (cR (cR (cB f76))))))))) (Out 1 slices_partitionCmpFunc_api_Sample_o0_f4_series_byDevice_x2_k (slices_partitionCmpFunc_api_Sample_o0_f4_series_byDevice_x2_S qx qx1 qx2 qx3 vy vy1 vx) r) (slices_partitionCmpFunc_api_Sample_o0_f4_series_byDevice_x2_I qx qx1 qx2 qx3 vy vy1 vx) := by
  unfold slices_partitionCmpFunc_api_Sample_o0_f4_series_byDevice_x2 at hF
  refine cE hF (fun h4 hF => ?_) fun h4 hF => ?_
  · refine bE hF fun vy5 h5 hF => ?_
    refine bE hF fun vy6 h6 hF => ?_
    refine bE hF fun vr2_1 h7 hF => ?_
    refine aD ?_
    refine dR 2 ?_
    refine dB h4 ?_
    refine dR 4 ?_
    refine dX (x_idxO api_Sample.enc 0 h5) ?_
    refine dX (x_ldE api_Sample.enc h5) ?_
    refine dR 2 ?_
    refine dX (x_idxO api_Sample.enc 0 h6) ?_
    refine dX (x_ldE api_Sample.enc h6) ?_
    refine dC (series_byDevice_ok h7) [] [] [] ?_
    refine dR 2 ?_
    refine dE ?_
    exact oO hF [] [] rfl
  · refine aD ?_
    refine dR 2 ?_
    refine dB h4 ?_
    refine dR 13 ?_
    refine dE ?_
    exact oO hF [] [] rfl

def slices_partitionCmpFunc_api_Sample_o0_f4_series_byDevice_x1_k : Int → AEx
  | _ => .exit 0

def slices_partitionCmpFunc_api_Sample_o0_f4_series_byDevice_x1_S (qx : List api_Sample) (qx1 : Int) (qx2 : Int) (qx3 : Int) (vy : api_Sample) (vy1 : api_Sample) : Int → St
  | vx3 => Mem.st ⟨[(0, ⟨32, 4, List.map api_Sample.enc ((qx.set qx1.toNat vy).set qx3.toNat vy1)⟩)], []⟩ (tl [(0, .v (.one (.own 0 none))), (1, .v (.one (.d (.int .i64 qx1)))), (4, .v (.one (.fn 37 []))), (12, .v (.one (.d (.int .i64 vx3)))), (13, .v (.one (.d (.int .i64 (IntKind.wrap .i64 (qx2 - 1))))))]) 1

def slices_partitionCmpFunc_api_Sample_o0_f4_series_byDevice_x1_H (qx : List api_Sample) (qx1 : Int) (qx2 : Int) (qx3 : Int) (vy : api_Sample) (vy1 : api_Sample) : Int → St
  | vx => Mem.st ⟨[(0, ⟨32, 4, List.map api_Sample.enc ((qx.set qx1.toNat vy).set qx3.toNat vy1)⟩)], []⟩ (tl [(0, .v (.one (.own 0 none))), (1, .v (.one (.d (.int .i64 qx1)))), (4, .v (.one (.fn 37 []))), (12, .v (.one (.d (.int .i64 vx)))), (13, .v (.one (.d (.int .i64 (IntKind.wrap .i64 (qx2 - 1))))))]) 1

theorem slices_partitionCmpFunc_api_Sample_o0_f4_series_byDevice_x1_ok (qx : List api_Sample) (qx1 : Int) (qx2 : Int) (qx3 : Int) (vy : api_Sample) (vy1 : api_Sample) (vx : Int) (r : (Int) ⊕ (Int)) (hF : slices_partitionCmpFunc_api_Sample_o0_f4_series_byDevice_x1 qx qx1 qx2 qx3 vy vy1 vx = some r) : Awp prog 1 178 (cL (cL (cL (cR (cR (cR (cB f76))))))) (Out 1 (kk slices_partitionCmpFunc_api_Sample_o0_f4_series_byDevice_x1_k) (SS (slices_partitionCmpFunc_api_Sample_o0_f4_series_byDevice_x1_H qx qx1 qx2 qx3 vy vy1) (slices_partitionCmpFunc_api_Sample_o0_f4_series_byDevice_x1_S qx qx1 qx2 qx3 vy vy1)) r) (slices_partitionCmpFunc_api_Sample_o0_f4_series_byDevice_x1_H qx qx1 qx2 qx3 vy vy1 vx) := by
  unfold slices_partitionCmpFunc_api_Sample_o0_f4_series_byDevice_x1 at hF
  refine awp_seq ?_
  refine awp_seq ?_
  refine awp_to (st' := slices_partitionCmpFunc_api_Sample_o0_f4_series_byDevice_x2_I qx qx1 qx2 qx3 vy vy1 vx) (oT [] []) ?_
  refine bE hF fun vx2_1 h8 hF => ?_
  refine awp_sub (slices_partitionCmpFunc_api_Sample_o0_f4_series_byDevice_x2_ok qx qx1 qx2 qx3 vy vy1 vx h8) ?_
  refine cE hF (fun h9 hF => ?_) fun h9 hF => ?_
  · refine awp_true (by kernel_rfl) h9 ?_
    refine awp_skip ?_
    refine awp_block ?_
    refine awp_region ?_
    refine aR 3 ?_
    refine aE ?_
    exact oO hF [] [] rfl
  · refine awp_false (by kernel_rfl) h9 ?_
    refine awp_exit ?_
    exact oO hF [] [] rfl

def slices_partitionCmpFunc_api_Sample_o0_f4_series_byDevice_x4_k : Bool → AEx
  | _ => .normal

def slices_partitionCmpFunc_api_Sample_o0_f4_series_byDevice_x4_S (qx : List api_Sample) (qx1 : Int) (qx3 : Int) (vy : api_Sample) (vy1 : api_Sample) (vx3_1 : Int) (vx4 : Int) : Bool → St
  | vx6 => Mem.st ⟨[(0, ⟨32, 4, List.map api_Sample.enc ((qx.set qx1.toNat vy).set qx3.toNat vy1)⟩)], []⟩ (tl [(0, .v (.one (.own 0 none))), (1, .v (.one (.d (.int .i64 qx1)))), (4, .v (.one (.fn 37 []))), (12, .v (.one (.d (.int .i64 vx3_1)))), (13, .v (.one (.d (.int .i64 vx4)))), (66, .v (.one (.d (.bool vx6))))]) 1

def slices_partitionCmpFunc_api_Sample_o0_f4_series_byDevice_x4_I (qx : List api_Sample) (qx1 : Int) (qx3 : Int) (vy : api_Sample) (vy1 : api_Sample) (vx3_1 : Int) (vx4 : Int) : St := Mem.st ⟨[(0, ⟨32, 4, List.map api_Sample.enc ((qx.set qx1.toNat vy).set qx3.toNat vy1)⟩)], []⟩ (tl [(0, .v (.one (.own 0 none))), (1, .v (.one (.d (.int .i64 qx1)))), (4, .v (.one (.fn 37 []))), (12, .v (.one (.d (.int .i64 vx3_1)))), (13, .v (.one (.d (.int .i64 vx4))))]) 1

theorem slices_partitionCmpFunc_api_Sample_o0_f4_series_byDevice_x4_ok (qx : List api_Sample) (qx1 : Int) (qx3 : Int) (vy : api_Sample) (vy1 : api_Sample) (vx3_1 : Int) (vx4 : Int) {r} (hF : slices_partitionCmpFunc_api_Sample_o0_f4_series_byDevice_x4 qx qx1 qx3 vy vy1 vx3_1 vx4 = some r) : Awp prog 1 178 (cL (cL (cL (cL (cL (cR (cR (cR (cR (cB f76)))))))))) (Out 1 slices_partitionCmpFunc_api_Sample_o0_f4_series_byDevice_x4_k (slices_partitionCmpFunc_api_Sample_o0_f4_series_byDevice_x4_S qx qx1 qx3 vy vy1 vx3_1 vx4) r) (slices_partitionCmpFunc_api_Sample_o0_f4_series_byDevice_x4_I qx qx1 qx3 vy vy1 vx3_1 vx4) := by
  unfold slices_partitionCmpFunc_api_Sample_o0_f4_series_byDevice_x4 at hF
  refine cE hF (fun h11 hF => ?_) fun h11 hF => ?_
  · refine bE hF fun vy9 h12 hF => ?_
    refine bE hF fun vy10 h13 hF => ?_
    refine bE hF fun vr2_3 h14 hF => ?_
    refine aD ?_
    refine dR 2 ?_
    refine dB h11 ?_
    refine dR 4 ?_
    refine dX (x_idxO api_Sample.enc 0 h12) ?_
    refine dX (x_ldE api_Sample.enc h12) ?_
    refine dR 2 ?_
    refine dX (x_idxO api_Sample.enc 0 h13) ?_
    refine dX (x_ldE api_Sample.enc h13) ?_
    refine dC (series_byDevice_ok h14) [] [] [] ?_
    refine dR 3 ?_
    refine dE ?_
    exact oO hF [] [] rfl
  · refine aD ?_
    refine dR 2 ?_
    refine dB h11 ?_
    refine dR 14 ?_
    refine dE ?_
    exact oO hF [] [] rfl

def slices_partitionCmpFunc_api_Sample_o0_f4_series_byDevice_x3_k : Int → AEx
  | _ => .exit 2

def slices_partitionCmpFunc_api_Sample_o0_f4_series_byDevice_x3_S (qx : List api_Sample) (qx1 : Int) (qx3 : Int) (vy : api_Sample) (vy1 : api_Sample) (vx3_1 : Int) : Int → St
  | vx7 => Mem.st ⟨[(0, ⟨32, 4, List.map api_Sample.enc ((qx.set qx1.toNat vy).set qx3.toNat vy1)⟩)], []⟩ (tl [(0, .v (.one (.own 0 none))), (1, .v (.one (.d (.int .i64 qx1)))), (4, .v (.one (.fn 37 []))), (12, .v (.one (.d (.int .i64 vx3_1)))), (13, .v (.one (.d (.int .i64 vx7))))]) 1

def slices_partitionCmpFunc_api_Sample_o0_f4_series_byDevice_x3_H (qx : List api_Sample) (qx1 : Int) (qx3 : Int) (vy : api_Sample) (vy1 : api_Sample) (vx3_1 : Int) : Int → St
  | vx4 => Mem.st ⟨[(0, ⟨32, 4, List.map api_Sample.enc ((qx.set qx1.toNat vy).set qx3.toNat vy1)⟩)], []⟩ (tl [(0, .v (.one (.own 0 none))), (1, .v (.one (.d (.int .i64 qx1)))), (4, .v (.one (.fn 37 []))), (12, .v (.one (.d (.int .i64 vx3_1)))), (13, .v (.one (.d (.int .i64 vx4))))]) 1

theorem slices_partitionCmpFunc_api_Sample_o0_f4_series_byDevice_x3_ok (qx : List api_Sample) (qx1 : Int) (qx3 : Int) (vy : api_Sample) (vy1 : api_Sample) (vx3_1 : Int) (vx4 : Int) (r : (Int) ⊕ (Int)) (hF : slices_partitionCmpFunc_api_Sample_o0_f4_series_byDevice_x3 qx qx1 qx3 vy vy1 vx3_1 vx4 = some r) : Awp prog 1 178 (cL (cL (cL (cR (cR (cR (cR (cB f76)))))))) (Out 1 (kk slices_partitionCmpFunc_api_Sample_o0_f4_series_byDevice_x3_k) (SS (slices_partitionCmpFunc_api_Sample_o0_f4_series_byDevice_x3_H qx qx1 qx3 vy vy1 vx3_1) (slices_partitionCmpFunc_api_Sample_o0_f4_series_byDevice_x3_S qx qx1 qx3 vy vy1 vx3_1)) r) (slices_partitionCmpFunc_api_Sample_o0_f4_series_byDevice_x3_H qx qx1 qx3 vy vy1 vx3_1 vx4) := by
  unfold slices_partitionCmpFunc_api_Sample_o0_f4_series_byDevice_x3 at hF
  refine awp_seq ?_
  refine awp_seq ?_
  refine awp_to (st' := slices_partitionCmpFunc_api_Sample_o0_f4_series_byDevice_x4_I qx qx1 qx3 vy vy1 vx3_1 vx4) (oT [] []) ?_
  refine bE hF fun vx6_1 h15 hF => ?_
  refine awp_sub (slices_partitionCmpFunc_api_Sample_o0_f4_series_byDevice_x4_ok qx qx1 qx3 vy vy1 vx3_1 vx4 h15) ?_
  refine cE hF (fun h16 hF => ?_) fun h16 hF => ?_
  · refine awp_true (by kernel_rfl) h16 ?_
    refine awp_skip ?_
    refine awp_block ?_
    refine awp_region ?_
    refine aR 3 ?_
    refine aE ?_
    exact oO hF [] [] rfl
  · refine awp_false (by kernel_rfl) h16 ?_
    refine awp_exit ?_
    exact oO hF [] [] rfl

def slices_partitionCmpFunc_api_Sample_o0_f4_series_byDevice_x7_k : Bool → AEx
  | _ => .normal

def slices_partitionCmpFunc_api_Sample_o0_f4_series_byDevice_x7_S (qx1 : Int) (vl : List api_Sample) (vx9 : Int) (vx18 : Int) : Bool → St
  | vx20 => Mem.st ⟨[(0, ⟨32, 4, List.map api_Sample.enc vl⟩)], []⟩ (tl [(0, .v (.one (.own 0 none))), (1, .v (.one (.d (.int .i64 qx1)))), (4, .v (.one (.fn 37 []))), (12, .v (.one (.d (.int .i64 vx18)))), (13, .v (.one (.d (.int .i64 vx9)))), (120, .v (.one (.d (.bool vx20))))]) 1

def slices_partitionCmpFunc_api_Sample_o0_f4_series_byDevice_x7_I (qx1 : Int) (vl : List api_Sample) (vx9 : Int) (vx18 : Int) : St := Mem.st ⟨[(0, ⟨32, 4, List.map api_Sample.enc vl⟩)], []⟩ (tl [(0, .v (.one (.own 0 none))), (1, .v (.one (.d (.int .i64 qx1)))), (4, .v (.one (.fn 37 []))), (12, .v (.one (.d (.int .i64 vx18)))), (13, .v (.one (.d (.int .i64 vx9))))]) 1

theorem slices_partitionCmpFunc_api_Sample_o0_f4_series_byDevice_x7_ok (qx1 : Int) (vl : List api_Sample) (vx9 : Int) (vx18 : Int) {r} (hF : slices_partitionCmpFunc_api_Sample_o0_f4_series_byDevice_x7 qx1 vl vx9 vx18 = some r) : Awp prog 1 178 (cL (cL (cL (cL (cL (cL (cL (cL (cL (cR (cR (cR (cR (cR (cR (cR (cR (cR (cB f76))))))))))))))))))) (Out 1 slices_partitionCmpFunc_api_Sample_o0_f4_series_byDevice_x7_k (slices_partitionCmpFunc_api_Sample_o0_f4_series_byDevice_x7_S qx1 vl vx9 vx18) r) (slices_partitionCmpFunc_api_Sample_o0_f4_series_byDevice_x7_I qx1 vl vx9 vx18) := by
  unfold slices_partitionCmpFunc_api_Sample_o0_f4_series_byDevice_x7 at hF
  refine cE hF (fun h25 hF => ?_) fun h25 hF => ?_
  · refine bE hF fun vy30 h26 hF => ?_
    refine bE hF fun vy31 h27 hF => ?_
    refine bE hF fun vr2_9 h28 hF => ?_
    refine aD ?_
    refine dR 2 ?_
    refine dB h25 ?_
    refine dR 4 ?_
    refine dX (x_idxO api_Sample.enc 0 h26) ?_
    refine dX (x_ldE api_Sample.enc h26) ?_
    refine dR 2 ?_
    refine dX (x_idxO api_Sample.enc 0 h27) ?_
    refine dX (x_ldE api_Sample.enc h27) ?_
    refine dC (series_byDevice_ok h28) [] [] [] ?_
    refine dR 2 ?_
    refine dE ?_
    exact oO hF [] [] rfl
  · refine aD ?_
    refine dR 2 ?_
    refine dB h25 ?_
    refine dR 13 ?_
    refine dE ?_
    exact oO hF [] [] rfl

def slices_partitionCmpFunc_api_Sample_o0_f4_series_byDevice_x6_k : Int → AEx
  | _ => .exit 6

def slices_partitionCmpFunc_api_Sample_o0_f4_series_byDevice_x6_S (qx1 : Int) (vl : List api_Sample) (vx9 : Int) : Int → St
  | vx21 => Mem.st ⟨[(0, ⟨32, 4, List.map api_Sample.enc vl⟩)], []⟩ (tl [(0, .v (.one (.own 0 none))), (1, .v (.one (.d (.int .i64 qx1)))), (4, .v (.one (.fn 37 []))), (12, .v (.one (.d (.int .i64 vx21)))), (13, .v (.one (.d (.int .i64 vx9))))]) 1

def slices_partitionCmpFunc_api_Sample_o0_f4_series_byDevice_x6_H (qx1 : Int) (vl : List api_Sample) (vx9 : Int) : Int → St
  | vx18 => Mem.st ⟨[(0, ⟨32, 4, List.map api_Sample.enc vl⟩)], []⟩ (tl [(0, .v (.one (.own 0 none))), (1, .v (.one (.d (.int .i64 qx1)))), (4, .v (.one (.fn 37 []))), (12, .v (.one (.d (.int .i64 vx18)))), (13, .v (.one (.d (.int .i64 vx9))))]) 1

theorem slices_partitionCmpFunc_api_Sample_o0_f4_series_byDevice_x6_ok (qx1 : Int) (vl : List api_Sample) (vx9 : Int) (vx18 : Int) (r : (Int) ⊕ (Int)) (hF : slices_partitionCmpFunc_api_Sample_o0_f4_series_byDevice_x6 qx1 vl vx9 vx18 = some r) : Awp prog 1 178 (cL (cL (cL (cL (cL (cL (cL (cR (cR (cR (cR (cR (cR (cR (cR (cR (cB f76))))))))))))))))) (Out 1 (kk slices_partitionCmpFunc_api_Sample_o0_f4_series_byDevice_x6_k) (SS (slices_partitionCmpFunc_api_Sample_o0_f4_series_byDevice_x6_H qx1 vl vx9) (slices_partitionCmpFunc_api_Sample_o0_f4_series_byDevice_x6_S qx1 vl vx9)) r) (slices_partitionCmpFunc_api_Sample_o0_f4_series_byDevice_x6_H qx1 vl vx9 vx18) := by
  unfold slices_partitionCmpFunc_api_Sample_o0_f4_series_byDevice_x6 at hF
  refine awp_seq ?_
  refine awp_seq ?_
  refine awp_to (st' := slices_partitionCmpFunc_api_Sample_o0_f4_series_byDevice_x7_I qx1 vl vx9 vx18) (oT [] []) ?_
  refine bE hF fun vx20_1 h29 hF => ?_
  refine awp_sub (slices_partitionCmpFunc_api_Sample_o0_f4_series_byDevice_x7_ok qx1 vl vx9 vx18 h29) ?_
  refine cE hF (fun h30 hF => ?_) fun h30 hF => ?_
  · refine awp_true (by kernel_rfl) h30 ?_
    refine awp_skip ?_
    refine awp_block ?_
    refine awp_region ?_
    refine aR 3 ?_
    refine aE ?_
    exact oO hF [] [] rfl
  · refine awp_false (by kernel_rfl) h30 ?_
    refine awp_exit ?_
    exact oO hF [] [] rfl

def slices_partitionCmpFunc_api_Sample_o0_f4_series_byDevice_x9_k : Bool → AEx
  | _ => .normal

def slices_partitionCmpFunc_api_Sample_o0_f4_series_byDevice_x9_S (qx1 : Int) (vl : List api_Sample) (vx21_1 : Int) (vx22 : Int) : Bool → St
  | vx24 => Mem.st ⟨[(0, ⟨32, 4, List.map api_Sample.enc vl⟩)], []⟩ (tl [(0, .v (.one (.own 0 none))), (1, .v (.one (.d (.int .i64 qx1)))), (4, .v (.one (.fn 37 []))), (12, .v (.one (.d (.int .i64 vx21_1)))), (13, .v (.one (.d (.int .i64 vx22)))), (139, .v (.one (.d (.bool vx24))))]) 1

def slices_partitionCmpFunc_api_Sample_o0_f4_series_byDevice_x9_I (qx1 : Int) (vl : List api_Sample) (vx21_1 : Int) (vx22 : Int) : St := Mem.st ⟨[(0, ⟨32, 4, List.map api_Sample.enc vl⟩)], []⟩ (tl [(0, .v (.one (.own 0 none))), (1, .v (.one (.d (.int .i64 qx1)))), (4, .v (.one (.fn 37 []))), (12, .v (.one (.d (.int .i64 vx21_1)))), (13, .v (.one (.d (.int .i64 vx22))))]) 1

theorem slices_partitionCmpFunc_api_Sample_o0_f4_series_byDevice_x9_ok (qx1 : Int) (vl : List api_Sample) (vx21_1 : Int) (vx22 : Int) {r} (hF : slices_partitionCmpFunc_api_Sample_o0_f4_series_byDevice_x9 qx1 vl vx21_1 vx22 = some r) : Awp prog 1 178 (cL (cL (cL (cL (cL (cR (cL (cL (cL (cL (cR (cR (cR (cR (cR (cR (cR (cR (cR (cB f76)))))))))))))))))))) (Out 1 slices_partitionCmpFunc_api_Sample_o0_f4_series_byDevice_x9_k (slices_partitionCmpFunc_api_Sample_o0_f4_series_byDevice_x9_S qx1 vl vx21_1 vx22) r) (slices_partitionCmpFunc_api_Sample_o0_f4_series_byDevice_x9_I qx1 vl vx21_1 vx22) := by
  unfold slices_partitionCmpFunc_api_Sample_o0_f4_series_byDevice_x9 at hF
  refine cE hF (fun h32 hF => ?_) fun h32 hF => ?_
  · refine bE hF fun vy34 h33 hF => ?_
    refine bE hF fun vy35 h34 hF => ?_
    refine bE hF fun vr2_11 h35 hF => ?_
    refine aD ?_
    refine dR 2 ?_
    refine dB h32 ?_
    refine dR 4 ?_
    refine dX (x_idxO api_Sample.enc 0 h33) ?_
    refine dX (x_ldE api_Sample.enc h33) ?_
    refine dR 2 ?_
    refine dX (x_idxO api_Sample.enc 0 h34) ?_
    refine dX (x_ldE api_Sample.enc h34) ?_
    refine dC (series_byDevice_ok h35) [] [] [] ?_
    refine dR 3 ?_
    refine dE ?_
    exact oO hF [] [] rfl
  · refine aD ?_
    refine dR 2 ?_
    refine dB h32 ?_
    refine dR 14 ?_
    refine dE ?_
    exact oO hF [] [] rfl

def slices_partitionCmpFunc_api_Sample_o0_f4_series_byDevice_x8_k : Int → AEx
  | _ => .exit 8

def slices_partitionCmpFunc_api_Sample_o0_f4_series_byDevice_x8_S (qx1 : Int) (vl : List api_Sample) (vx21_1 : Int) : Int → St
  | vx25 => Mem.st ⟨[(0, ⟨32, 4, List.map api_Sample.enc vl⟩)], []⟩ (tl [(0, .v (.one (.own 0 none))), (1, .v (.one (.d (.int .i64 qx1)))), (4, .v (.one (.fn 37 []))), (12, .v (.one (.d (.int .i64 vx21_1)))), (13, .v (.one (.d (.int .i64 vx25))))]) 1

def slices_partitionCmpFunc_api_Sample_o0_f4_series_byDevice_x8_H (qx1 : Int) (vl : List api_Sample) (vx21_1 : Int) : Int → St
  | vx22 => Mem.st ⟨[(0, ⟨32, 4, List.map api_Sample.enc vl⟩)], []⟩ (tl [(0, .v (.one (.own 0 none))), (1, .v (.one (.d (.int .i64 qx1)))), (4, .v (.one (.fn 37 []))), (12, .v (.one (.d (.int .i64 vx21_1)))), (13, .v (.one (.d (.int .i64 vx22))))]) 1

theorem slices_partitionCmpFunc_api_Sample_o0_f4_series_byDevice_x8_ok (qx1 : Int) (vl : List api_Sample) (vx21_1 : Int) (vx22 : Int) (r : (Int) ⊕ (Int)) (hF : slices_partitionCmpFunc_api_Sample_o0_f4_series_byDevice_x8 qx1 vl vx21_1 vx22 = some r) : Awp prog 1 178 (cL (cL (cL (cR (cL (cL (cL (cL (cR (cR (cR (cR (cR (cR (cR (cR (cR (cB f76)))))))))))))))))) (Out 1 (kk slices_partitionCmpFunc_api_Sample_o0_f4_series_byDevice_x8_k) (SS (slices_partitionCmpFunc_api_Sample_o0_f4_series_byDevice_x8_H qx1 vl vx21_1) (slices_partitionCmpFunc_api_Sample_o0_f4_series_byDevice_x8_S qx1 vl vx21_1)) r) (slices_partitionCmpFunc_api_Sample_o0_f4_series_byDevice_x8_H qx1 vl vx21_1 vx22) := by
  unfold slices_partitionCmpFunc_api_Sample_o0_f4_series_byDevice_x8 at hF
  refine awp_seq ?_
  refine awp_seq ?_
  refine awp_to (st' := slices_partitionCmpFunc_api_Sample_o0_f4_series_byDevice_x9_I qx1 vl vx21_1 vx22) (oT [] []) ?_
  refine bE hF fun vx24_1 h36 hF => ?_
  refine awp_sub (slices_partitionCmpFunc_api_Sample_o0_f4_series_byDevice_x9_ok qx1 vl vx21_1 vx22 h36) ?_
  refine cE hF (fun h37 hF => ?_) fun h37 hF => ?_
  · refine awp_true (by kernel_rfl) h37 ?_
    refine awp_skip ?_
    refine awp_block ?_
    refine awp_region ?_
    refine aR 3 ?_
    refine aE ?_
    exact oO hF [] [] rfl
  · refine awp_false (by kernel_rfl) h37 ?_
    refine awp_exit ?_
    exact oO hF [] [] rfl

def slices_partitionCmpFunc_api_Sample_o0_f4_series_byDevice_x5_k : ((List api_Sample) × Int) → AEx
  | _ => .exit 4

def slices_partitionCmpFunc_api_Sample_o0_f4_series_byDevice_x5_S (qx1 : Int) : ((List api_Sample) × Int) → St
  | (vl1, vx26) => Mem.st ⟨[(0, ⟨32, 4, List.map api_Sample.enc vl1⟩)], []⟩ (tl [(0, .v (.one (.own 0 none))), (1, .v (.one (.d (.int .i64 qx1)))), (13, .v (.one (.d (.int .i64 vx26))))]) 1

def slices_partitionCmpFunc_api_Sample_o0_f4_series_byDevice_x5_H (qx1 : Int) : (List api_Sample) × Int × Int → St
  | (vl, vx8, vx9) => Mem.st ⟨[(0, ⟨32, 4, List.map api_Sample.enc vl⟩)], []⟩ (tl [(0, .v (.one (.own 0 none))), (1, .v (.one (.d (.int .i64 qx1)))), (4, .v (.one (.fn 37 []))), (12, .v (.one (.d (.int .i64 vx8)))), (13, .v (.one (.d (.int .i64 vx9))))]) 1

theorem slices_partitionCmpFunc_api_Sample_o0_f4_series_byDevice_x5_ok (qx1 : Int) (s : (List api_Sample) × Int × Int) (r : ((List api_Sample) × Int × Int) ⊕ (((List api_Sample) × Int))) (hF : slices_partitionCmpFunc_api_Sample_o0_f4_series_byDevice_x5 qx1 s = some r) : Awp prog 1 178 (cL (cL (cL (cR (cR (cR (cR (cR (cR (cR (cR (cR (cB f76))))))))))))) (Out 1 (kk slices_partitionCmpFunc_api_Sample_o0_f4_series_byDevice_x5_k) (SS (slices_partitionCmpFunc_api_Sample_o0_f4_series_byDevice_x5_H qx1) (slices_partitionCmpFunc_api_Sample_o0_f4_series_byDevice_x5_S qx1)) r) (slices_partitionCmpFunc_api_Sample_o0_f4_series_byDevice_x5_H qx1 s) := by
  obtain ⟨vl, vx8, vx9⟩ := s
  unfold slices_partitionCmpFunc_api_Sample_o0_f4_series_byDevice_x5 at hF
  refine awp_block ?_
  refine awp_seq ?_
  refine awp_block ?_
  refine awp_to (st' := slices_partitionCmpFunc_api_Sample_o0_f4_series_byDevice_x6_H qx1 vl vx9 vx8) (oT [] []) ?_
  refine bE hF fun vx21_1 h31 hF => ?_
  refine awp_sub (awp_loop' (slices_partitionCmpFunc_api_Sample_o0_f4_series_byDevice_x6_H qx1 vl vx9) slices_partitionCmpFunc_api_Sample_o0_f4_series_byDevice_x6_k (slices_partitionCmpFunc_api_Sample_o0_f4_series_byDevice_x6_S qx1 vl vx9) (by intro x; exact fun h => nomatch h) h31 (slices_partitionCmpFunc_api_Sample_o0_f4_series_byDevice_x6_ok qx1 vl vx9)) ?_
  refine awp_seq ?_
  refine awp_block ?_
  refine awp_to (st' := slices_partitionCmpFunc_api_Sample_o0_f4_series_byDevice_x8_H qx1 vl vx21_1 vx9) (oT [] []) ?_
  refine bE hF fun vx25_1 h38 hF => ?_
  refine awp_sub (awp_loop' (slices_partitionCmpFunc_api_Sample_o0_f4_series_byDevice_x8_H qx1 vl vx21_1) slices_partitionCmpFunc_api_Sample_o0_f4_series_byDevice_x8_k (slices_partitionCmpFunc_api_Sample_o0_f4_series_byDevice_x8_S qx1 vl vx21_1) (by intro x; exact fun h => nomatch h) h38 (slices_partitionCmpFunc_api_Sample_o0_f4_series_byDevice_x8_ok qx1 vl vx21_1)) ?_
  refine awp_seq ?_
  refine awp_seq ?_
  refine awp_region ?_
  refine aR 3 ?_
  refine aE ?_
  refine cE hF (fun h39 hF => ?_) fun h39 hF => ?_
  · refine awp_true (by kernel_rfl) h39 ?_
    refine awp_exit ?_
    exact oO hF [] [] rfl
  · refine awp_false (by kernel_rfl) h39 ?_
    refine awp_skip ?_
    refine awp_seq ?_
    refine bE hF fun vy36 h40 hF => ?_
    refine bE hF fun vy37 h41 hF => ?_
    refine bE hF fun vy38 h42 hF => ?_
    refine aDw [0] ?_
    refine dR 6 ?_
    refine dI api_Sample.enc 0 h40 rfl ?_
    refine dX (x_ldE api_Sample.enc h40) ?_
    refine dR 2 ?_
    refine dI api_Sample.enc 0 h41 rfl ?_
    refine dX (x_ldE api_Sample.enc h41) ?_
    refine dI api_Sample.enc 0 h41 rfl ?_
    refine dW api_Sample.enc vy36 h41 rfl ?_
    refine dI api_Sample.enc 0 h42 rfl ?_
    refine dW api_Sample.enc vy37 h42 rfl ?_
    refine dE ?_
    refine awp_seq ?_
    refine awp_region ?_
    refine aR 3 ?_
    refine aE ?_
    refine awp_region ?_
    refine aR 3 ?_
    refine aE ?_
    exact oO hF [] [] rfl

def slices_partitionCmpFunc_api_Sample_o0_f4_series_byDevice_R (qx : List api_Sample) (qx1 : Int) (qx2 : Int) (qx3 : Int) (r : (List api_Sample) × Int × Bool) : TV × Mem := (.tup [.one (.d (.int .i64 r.2.1)), .one (.d (.bool r.2.2))], ⟨[(0, ⟨32, 4, List.map api_Sample.enc r.1⟩)], []⟩)

theorem slices_partitionCmpFunc_api_Sample_o0_f4_series_byDevice_ok {qx : List api_Sample} {qx1 : Int} {qx2 : Int} {qx3 : Int} {r} (hF : slices_partitionCmpFunc_api_Sample_o0_f4_series_byDevice qx qx1 qx2 qx3 = some r) : Holds prog 76 [.v (.one (.own 0 none)), .v (.one (.d (.int .i64 qx1))), .v (.one (.d (.int .i64 qx2))), .v (.one (.d (.int .i64 qx3))), .v (.one (.fn 37 []))] ⟨[(0, ⟨32, 4, List.map api_Sample.enc qx⟩)], []⟩ (Is (slices_partitionCmpFunc_api_Sample_o0_f4_series_byDevice_R qx qx1 qx2 qx3 r)) := by
  unfold slices_partitionCmpFunc_api_Sample_o0_f4_series_byDevice at hF
  refine holds_of_awp hΓ (fn := f76) (c := cB f76) (A := 1) (nx := 1) (by kernel_rfl) (by kernel_rfl) (by kernel_rfl) (by kernel_rfl) (by kernel_rfl) (by kernel_rfl) (lowc_of (by kernel_rfl)) ?_
  show Awp prog 1 178 (cB f76) _ _
  refine awp_seq ?_
  refine awp_region ?_
  refine aR 2 ?_
  refine aE ?_
  refine awp_seq ?_
  refine bE hF fun vy h1 hF => ?_
  refine bE hF fun vy1 h2 hF => ?_
  refine bE hF fun vy2 h3 hF => ?_
  refine aDw [0] ?_
  refine dR 6 ?_
  refine dI api_Sample.enc 0 h1 rfl ?_
  refine dX (x_ldE api_Sample.enc h1) ?_
  refine dR 2 ?_
  refine dI api_Sample.enc 0 h2 rfl ?_
  refine dX (x_ldE api_Sample.enc h2) ?_
  refine dI api_Sample.enc 0 h2 rfl ?_
  refine dW api_Sample.enc vy h2 rfl ?_
  refine dI api_Sample.enc 0 h3 rfl ?_
  refine dW api_Sample.enc vy1 h3 rfl ?_
  refine dE ?_
  refine awp_seq ?_
  refine awp_region ?_
  refine aR 6 ?_
  refine aE ?_
  refine awp_seq ?_
  refine awp_block ?_
  refine awp_to (st' := slices_partitionCmpFunc_api_Sample_o0_f4_series_byDevice_x1_H qx qx1 qx2 qx3 vy vy1 (IntKind.wrap .i64 (qx1 + 1))) (oT [] []) ?_
  refine bE hF fun vx3_1 h10 hF => ?_
  refine awp_sub (awp_loop' (slices_partitionCmpFunc_api_Sample_o0_f4_series_byDevice_x1_H qx qx1 qx2 qx3 vy vy1) slices_partitionCmpFunc_api_Sample_o0_f4_series_byDevice_x1_k (slices_partitionCmpFunc_api_Sample_o0_f4_series_byDevice_x1_S qx qx1 qx2 qx3 vy vy1) (by intro x; exact fun h => nomatch h) h10 (slices_partitionCmpFunc_api_Sample_o0_f4_series_byDevice_x1_ok qx qx1 qx2 qx3 vy vy1)) ?_
  refine awp_seq ?_
  refine awp_block ?_
  refine awp_to (st' := slices_partitionCmpFunc_api_Sample_o0_f4_series_byDevice_x3_H qx qx1 qx3 vy vy1 vx3_1 (IntKind.wrap .i64 (qx2 - 1))) (oT [] []) ?_
  refine bE hF fun vx7_1 h17 hF => ?_
  refine awp_sub (awp_loop' (slices_partitionCmpFunc_api_Sample_o0_f4_series_byDevice_x3_H qx qx1 qx3 vy vy1 vx3_1) slices_partitionCmpFunc_api_Sample_o0_f4_series_byDevice_x3_k (slices_partitionCmpFunc_api_Sample_o0_f4_series_byDevice_x3_S qx qx1 qx3 vy vy1 vx3_1) (by intro x; exact fun h => nomatch h) h17 (slices_partitionCmpFunc_api_Sample_o0_f4_series_byDevice_x3_ok qx qx1 qx3 vy vy1 vx3_1)) ?_
  refine awp_seq ?_
  refine awp_seq ?_
  refine awp_region ?_
  refine aR 3 ?_
  refine aE ?_
  refine cE hF (fun h18 hF => ?_) fun h18 hF => ?_
  · refine awp_true (by kernel_rfl) h18 ?_
    refine awp_seq ?_
    refine bE hF fun vy11 h19 hF => ?_
    refine bE hF fun vy12 h20 hF => ?_
    refine bE hF fun vy13 h21 hF => ?_
    refine aDw [0] ?_
    refine dR 6 ?_
    refine dI api_Sample.enc 0 h19 rfl ?_
    refine dX (x_ldE api_Sample.enc h19) ?_
    refine dR 2 ?_
    refine dI api_Sample.enc 0 h20 rfl ?_
    refine dX (x_ldE api_Sample.enc h20) ?_
    refine dI api_Sample.enc 0 h20 rfl ?_
    refine dW api_Sample.enc vy11 h20 rfl ?_
    refine dI api_Sample.enc 0 h21 rfl ?_
    refine dW api_Sample.enc vy12 h21 rfl ?_
    refine dE ?_
    refine awp_seq ?_
    refine awp_region ?_
    refine aR 3 ?_
    refine aE ?_
    refine awp_ret ?_
    exact oF hF [] []
  · refine awp_false (by kernel_rfl) h18 ?_
    refine awp_skip ?_
    refine awp_seq ?_
    refine bE hF fun vy14 h22 hF => ?_
    refine bE hF fun vy15 h23 hF => ?_
    refine bE hF fun vy16 h24 hF => ?_
    refine aDw [0] ?_
    refine dR 6 ?_
    refine dI api_Sample.enc 0 h22 rfl ?_
    refine dX (x_ldE api_Sample.enc h22) ?_
    refine dR 2 ?_
    refine dI api_Sample.enc 0 h23 rfl ?_
    refine dX (x_ldE api_Sample.enc h23) ?_
    refine dI api_Sample.enc 0 h23 rfl ?_
    refine dW api_Sample.enc vy14 h23 rfl ?_
    refine dI api_Sample.enc 0 h24 rfl ?_
    refine dW api_Sample.enc vy15 h24 rfl ?_
    refine dE ?_
    refine awp_seq ?_
    refine awp_region ?_
    refine aR 3 ?_
    refine aE ?_
    refine awp_seq ?_
    refine awp_region ?_
    refine aR 3 ?_
    refine aE ?_
    refine awp_seq ?_
    refine awp_block ?_
    refine awp_to (st' := slices_partitionCmpFunc_api_Sample_o0_f4_series_byDevice_x5_H qx1 ((((qx.set qx1.toNat vy).set qx3.toNat vy1).set vx3_1.toNat vy14).set vx7_1.toNat vy15, IntKind.wrap .i64 (vx3_1 + 1), IntKind.wrap .i64 (vx7_1 - 1))) (oT [] []) ?_
    refine bE hF fun x h43 hF => ?_
    obtain ⟨vl1_1, vx26_1⟩ := x
    refine awp_sub (awp_loop' (slices_partitionCmpFunc_api_Sample_o0_f4_series_byDevice_x5_H qx1) slices_partitionCmpFunc_api_Sample_o0_f4_series_byDevice_x5_k (slices_partitionCmpFunc_api_Sample_o0_f4_series_byDevice_x5_S qx1) (by intro x; exact fun h => nomatch h) h43 (slices_partitionCmpFunc_api_Sample_o0_f4_series_byDevice_x5_ok qx1)) ?_
    refine awp_seq ?_
    refine bE hF fun vy39 h44 hF => ?_
    refine bE hF fun vy40 h45 hF => ?_
    refine bE hF fun vy41 h46 hF => ?_
    refine aDw [0] ?_
    refine dR 6 ?_
    refine dI api_Sample.enc 0 h44 rfl ?_
    refine dX (x_ldE api_Sample.enc h44) ?_
    refine dR 2 ?_
    refine dI api_Sample.enc 0 h45 rfl ?_
    refine dX (x_ldE api_Sample.enc h45) ?_
    refine dI api_Sample.enc 0 h45 rfl ?_
    refine dW api_Sample.enc vy39 h45 rfl ?_
    refine dI api_Sample.enc 0 h46 rfl ?_
    refine dW api_Sample.enc vy40 h46 rfl ?_
    refine dE ?_
    refine awp_seq ?_
    refine awp_region ?_
    refine aR 3 ?_
    refine aE ?_
    refine awp_ret ?_
    exact oF hF [] []

/-! ### slices.nextPowerOfTwo -/
def slices_nextPowerOfTwo_R (qlength : Int) (r : Int) : TV × Mem := (.v (.one (.d (.int .u64 r))), ⟨[], []⟩)

theorem slices_nextPowerOfTwo_ok {qlength : Int} {r} (hF : slices_nextPowerOfTwo qlength = some r) : Holds prog 87 [.v (.one (.d (.int .i64 qlength)))] ⟨[], []⟩ (Is (slices_nextPowerOfTwo_R qlength r)) := by
  unfold slices_nextPowerOfTwo at hF
  refine holds_of_awp hΓ (fn := f87) (c := cB f87) (A := 0) (nx := 0) (by kernel_rfl) (by kernel_rfl) (by kernel_rfl) (by kernel_rfl) (by kernel_rfl) (by kernel_rfl) (lowc_of (by kernel_rfl)) ?_
  show Awp prog 0 7 (cB f87) _ _
  refine awp_seq ?_
  refine awp_region ?_
  refine aR 1 ?_
  refine aE ?_
  refine awp_seq ?_
  refine bE hF fun vr1 h1 hF => ?_
  refine gE hF fun h2 hF => ?_
  refine awp_region ?_
  refine aR 2 ?_
  refine aC (bits_Len_ok h1) [] [] [] ?_
  refine aX (x_shl h2) ?_
  refine aR 1 ?_
  refine aE ?_
  refine awp_ret ?_
  exact oF hF [] []

/-! ### (*slices.xorshift).Next -/
def slices_xorshift_Next_R (qr : Int) (r : Unit) : TV × Mem := (.v (.one (.d (.int .u64 (ibits .xor .u64 (ibits .xor .u64 (ibits .xor .u64 qr (ishl .u64 qr 13)) (ishr .u64 (ibits .xor .u64 qr (ishl .u64 qr 13)) 7)) (ishl .u64 (ibits .xor .u64 (ibits .xor .u64 qr (ishl .u64 qr 13)) (ishr .u64 (ibits .xor .u64 qr (ishl .u64 qr 13)) 7)) 17))))), ⟨[], [(0, [.d (.int .u64 (ibits .xor .u64 (ibits .xor .u64 (ibits .xor .u64 qr (ishl .u64 qr 13)) (ishr .u64 (ibits .xor .u64 qr (ishl .u64 qr 13)) 7)) (ishl .u64 (ibits .xor .u64 (ibits .xor .u64 qr (ishl .u64 qr 13)) (ishr .u64 (ibits .xor .u64 qr (ishl .u64 qr 13)) 7)) 17)))])]⟩)

theorem slices_xorshift_Next_ok {qr : Int} {r} (hF : slices_xorshift_Next qr = some r) : Holds prog 88 [.v (.one (.box 0 0))] ⟨[], [(0, [.d (.int .u64 qr)])]⟩ (Is (slices_xorshift_Next_R qr r)) := by
  unfold slices_xorshift_Next at hF
  refine holds_of_awp hΓ (fn := f88) (c := cB f88) (A := 1) (nx := 1) (by kernel_rfl) (by kernel_rfl) (by kernel_rfl) (by kernel_rfl) (by kernel_rfl) (by kernel_rfl) (lowc_of (by kernel_rfl)) ?_
  show Awp prog 1 33 (cB f88) _ _
  refine awp_seq ?_
  refine awp_region ?_
  refine aR 1 ?_
  refine aE ?_
  refine awp_seq ?_
  refine aD ?_
  refine dR 10 ?_
  refine dE ?_
  refine awp_seq ?_
  refine aD ?_
  refine dR 10 ?_
  refine dE ?_
  refine awp_seq ?_
  refine aD ?_
  refine dR 10 ?_
  refine dE ?_
  refine awp_seq ?_
  refine awp_region ?_
  refine aR 4 ?_
  refine aE ?_
  refine awp_ret ?_
  exact oF hF [] []

end Go.Eng
