/-
The code of the Go functions that the law CellsNest reaches does what the plain functions say, part 1.
-/
import Derived.Test.YtgjgjnfglkdgaaaGreatDoorGenF

import Derived.Test.YtgjgjnfglkdgaaaGreatDoorEng4

import Derived.Test.YtgjgjnfglkdgaaaGreatDoorGenS

import Derived.Test.YtgjgjnfglkdgaaaGreatDoorProg

import Derived.KernelRfl

namespace Go.Eng

open Go Go.Proofs.Tryz

set_option linter.unusedVariables false

set_option maxRecDepth 20000

set_option maxHeartbeats 0

def ti2 : TI := ⟨1, 8, [.d (.int .i64 0)], false, .int .i64⟩

def ti3 : TI := ⟨1, 8, [.d (.int .i64 0)], false, .int .i64⟩

def ti4 : TI := ⟨1, 1, [.d (.bool false)], false, .bool⟩

def ti5 : TI := ⟨1, 1, [.d (.int .u8 0)], false, .int .u8⟩

def ti9 : TI := ⟨1, 16, [.d (.str [])], false, .str⟩

def ti21 : TI := ⟨1, 4, [.d (.int .i32 0)], false, .int .i32⟩

def ti22 : TI := ⟨1, 24, [.nil], false, .slice 3⟩

def ti25 : TI := ⟨2, 32, [.nil, .d (.int .i64 0)], true, .struct [(0, 22), (1, 3)]⟩

def ti26 : TI := ⟨1, 24, [.nil], false, .slice 43⟩

def ti28 : TI := ⟨2, 40, [.d (.str []), .nil], true, .struct [(0, 9), (1, 26)]⟩

def ti31 : TI := ⟨1, 8, [.d (.int .i64 0)], false, .int .i64⟩

def ti34 : TI := ⟨1, 24, [.nil], false, .slice 9⟩

def ti43 : TI := ⟨2, 16, [.d (.int .i64 0), .d (.int .i64 0)], true, .struct [(0, 3), (1, 3)]⟩

def ti61 : TI := ⟨1, 24, [.nil], false, .slice 5⟩

def ti65 : TI := ⟨4, 48, [.d (.str []), .d (.str []), .d (.int .i64 0), .d (.int .i64 0)], true, .struct [(0, 9), (1, 9), (2, 3), (3, 3)]⟩

def ti66 : TI := ⟨1, 24, [.nil], false, .slice 65⟩

def ti68 : TI := ⟨3, 24, [.d (.int .i64 0), .d (.int .i64 0), .d (.int .i64 0)], true, .struct [(0, 3), (1, 3), (2, 3)]⟩

def ti78 : TI := ⟨1, 24, [.nil], false, .slice 31⟩

def ti81 : TI := ⟨1, 24, [.nil], false, .slice 122⟩

def ti85 : TI := ⟨4, 40, [.d (.int .i64 0), .d (.bool false), .d (.int .i64 0), .d (.str [])], true, .struct [(0, 3), (1, 4), (2, 3), (3, 9)]⟩

def ti87 : TI := ⟨5, 56, [.d (.str []), .d (.int .i64 0), .d (.bool false), .d (.int .i64 0), .d (.str [])], true, .struct [(0, 9), (1, 85)]⟩

def ti88 : TI := ⟨1, 24, [.nil], false, .slice 87⟩

def ti89 : TI := ⟨1, 24, [.nil], false, .slice 93⟩

def ti93 : TI := ⟨6, 72, [.d (.str []), .d (.str []), .d (.str []), .d (.int .i64 0), .d (.int .i64 0), .d (.int .i64 0)], true, .struct [(0, 9), (1, 9), (2, 9), (3, 3), (4, 3), (5, 3)]⟩

def ti112 : TI := ⟨256, 256, [.d (.bool false), .d (.bool false), .d (.bool false), .d (.bool false), .d (.bool false), .d (.bool false), .d (.bool false), .d (.bool false), .d (.bool false), .d (.bool false), .d (.bool false), .d (.bool false), .d (.bool false), .d (.bool false), .d (.bool false), .d (.bool false), .d (.bool false), .d (.bool false), .d (.bool false), .d (.bool false), .d (.bool false), .d (.bool false), .d (.bool false), .d (.bool false), .d (.bool false), .d (.bool false), .d (.bool false), .d (.bool false), .d (.bool false), .d (.bool false), .d (.bool false), .d (.bool false), .d (.bool false), .d (.bool false), .d (.bool false), .d (.bool false), .d (.bool false), .d (.bool false), .d (.bool false), .d (.bool false), .d (.bool false), .d (.bool false), .d (.bool false), .d (.bool false), .d (.bool false), .d (.bool false), .d (.bool false), .d (.bool false), .d (.bool false), .d (.bool false), .d (.bool false), .d (.bool false), .d (.bool false), .d (.bool false), .d (.bool false), .d (.bool false), .d (.bool false), .d (.bool false), .d (.bool false), .d (.bool false), .d (.bool false), .d (.bool false), .d (.bool false), .d (.bool false), .d (.bool false), .d (.bool false), .d (.bool false), .d (.bool false), .d (.bool false), .d (.bool false), .d (.bool false), .d (.bool false), .d (.bool false), .d (.bool false), .d (.bool false), .d (.bool false), .d (.bool false), .d (.bool false), .d (.bool false), .d (.bool false), .d (.bool false), .d (.bool false), .d (.bool false), .d (.bool false), .d (.bool false), .d (.bool false), .d (.bool false), .d (.bool false), .d (.bool false), .d (.bool false), .d (.bool false), .d (.bool false), .d (.bool false), .d (.bool false), .d (.bool false), .d (.bool false), .d (.bool false), .d (.bool false), .d (.bool false), .d (.bool false), .d (.bool false), .d (.bool false), .d (.bool false), .d (.bool false), .d (.bool false), .d (.bool false), .d (.bool false), .d (.bool false), .d (.bool false), .d (.bool false), .d (.bool false), .d (.bool false), .d (.bool false), .d (.bool false), .d (.bool false), .d (.bool false), .d (.bool false), .d (.bool false), .d (.bool false), .d (.bool false), .d (.bool false), .d (.bool false), .d (.bool false), .d (.bool false), .d (.bool false), .d (.bool false), .d (.bool false), .d (.bool false), .d (.bool false), .d (.bool false), .d (.bool false), .d (.bool false), .d (.bool false), .d (.bool false), .d (.bool false), .d (.bool false), .d (.bool false), .d (.bool false), .d (.bool false), .d (.bool false), .d (.bool false), .d (.bool false), .d (.bool false), .d (.bool false), .d (.bool false), .d (.bool false), .d (.bool false), .d (.bool false), .d (.bool false), .d (.bool false), .d (.bool false), .d (.bool false), .d (.bool false), .d (.bool false), .d (.bool false), .d (.bool false), .d (.bool false), .d (.bool false), .d (.bool false), .d (.bool false), .d (.bool false), .d (.bool false), .d (.bool false), .d (.bool false), .d (.bool false), .d (.bool false), .d (.bool false), .d (.bool false), .d (.bool false), .d (.bool false), .d (.bool false), .d (.bool false), .d (.bool false), .d (.bool false), .d (.bool false), .d (.bool false), .d (.bool false), .d (.bool false), .d (.bool false), .d (.bool false), .d (.bool false), .d (.bool false), .d (.bool false), .d (.bool false), .d (.bool false), .d (.bool false), .d (.bool false), .d (.bool false), .d (.bool false), .d (.bool false), .d (.bool false), .d (.bool false), .d (.bool false), .d (.bool false), .d (.bool false), .d (.bool false), .d (.bool false), .d (.bool false), .d (.bool false), .d (.bool false), .d (.bool false), .d (.bool false), .d (.bool false), .d (.bool false), .d (.bool false), .d (.bool false), .d (.bool false), .d (.bool false), .d (.bool false), .d (.bool false), .d (.bool false), .d (.bool false), .d (.bool false), .d (.bool false), .d (.bool false), .d (.bool false), .d (.bool false), .d (.bool false), .d (.bool false), .d (.bool false), .d (.bool false), .d (.bool false), .d (.bool false), .d (.bool false), .d (.bool false), .d (.bool false), .d (.bool false), .d (.bool false), .d (.bool false), .d (.bool false), .d (.bool false), .d (.bool false), .d (.bool false), .d (.bool false), .d (.bool false), .d (.bool false), .d (.bool false), .d (.bool false), .d (.bool false), .d (.bool false), .d (.bool false), .d (.bool false), .d (.bool false), .d (.bool false), .d (.bool false), .d (.bool false), .d (.bool false), .d (.bool false), .d (.bool false), .d (.bool false), .d (.bool false), .d (.bool false), .d (.bool false), .d (.bool false), .d (.bool false), .d (.bool false)], true, .array 256 4⟩

def ti122 : TI := ⟨9, 96, [.d (.str []), .d (.int .i64 0), .d (.bool false), .d (.int .i64 0), .d (.str []), .d (.int .i64 0), .d (.bool false), .d (.int .i64 0), .d (.str [])], true, .struct [(0, 9), (1, 85), (5, 85)]⟩

def ti134 : TI := ⟨1, 8, [.d (.int .u64 0)], false, .int .u64⟩

def ti146 : TI := ⟨1, 24, [.nil], false, .slice 88⟩

def ti152 : TI := ⟨1, 8, [.d (.int .u64 0)], false, .int .u64⟩

def ti157 : TI := ⟨1, 16, [.nili], false, .other⟩

def Γ : Types := [(2, ti2), (3, ti3), (4, ti4), (5, ti5), (9, ti9), (21, ti21), (22, ti22), (25, ti25), (26, ti26), (28, ti28), (31, ti31), (34, ti34), (43, ti43), (61, ti61), (65, ti65), (66, ti66), (68, ti68), (78, ti78), (81, ti81), (85, ti85), (87, ti87), (88, ti88), (89, ti89), (93, ti93), (112, ti112), (122, ti122), (134, ti134), (146, ti146), (152, ti152), (157, ti157)]

theorem hΓ : TypesOk prog Γ := typesOk_of (by kernel_rfl)

instance : TOk prog Γ := ⟨hΓ⟩

theorem hm : prog.follows .mixedOrders = true := by kernel_rfl

instance : Mixed prog := ⟨hm⟩

/-! ### beaconfleet/fleetmake.Below -/
def z243 : Int → AEx
  | _ => .normal

def z242 (qx : Int) (qn : Int) : Int → St
  | vx => Mem.st ⟨[], []⟩ (tl [(0, .v (.one (.d (.int .i64 vx))))]) 0

def z241 (qx : Int) (qn : Int) : St := Mem.st ⟨[], []⟩ (tl [(0, .v (.one (.d (.int .i64 (qx.tmod qn))))), (1, .v (.one (.d (.int .i64 qn))))]) 0

theorem z244 (qx : Int) (qn : Int) {r} (hF : z240 qx qn = some r) : Awp prog 0 16 (cL (cR (cR (cR (cB f47))))) (Out 0 z243 (z242 qx qn) r) (z241 qx qn) := by
  unfold z240 at hF
  refine awp_seq ?_
  refine awp_region ?_
  refine aR 2 ?_
  refine aE ?_
  refine cE hF (fun h3 hF => ?_) fun h3 hF => ?_
  · refine awp_true (by kernel_rfl) h3 ?_
    refine awp_region ?_
    refine aR 4 ?_
    refine aE ?_
    exact oO hF [] [] rfl
  · refine awp_false (by kernel_rfl) h3 ?_
    refine awp_skip ?_
    exact oO hF [] [] rfl

def z238 (qx : Int) (qn : Int) (r : Int) : TV × Mem := (.v (.one (.d (.int .i64 r))), ⟨[], []⟩)

theorem z239 {qx : Int} {qn : Int} {r} (hF : z237 qx qn = some r) : Holds prog 47 [.v (.one (.d (.int .i64 qx))), .v (.one (.d (.int .i64 qn)))] ⟨[], []⟩ (Is (z238 qx qn r)) := by
  unfold z237 at hF
  refine holds_of_awp hΓ (fn := f47) (c := cB f47) (A := 0) (nx := 0) (by kernel_rfl) (by kernel_rfl) (by kernel_rfl) (by kernel_rfl) (by kernel_rfl) (by kernel_rfl) (lowc_of (by kernel_rfl)) ?_
  show Awp prog 0 16 (cB f47) _ _
  refine awp_seq ?_
  refine awp_region ?_
  refine aR 1 ?_
  refine aE ?_
  refine awp_seq ?_
  refine awp_seq ?_
  refine awp_region ?_
  refine aR 2 ?_
  refine aE ?_
  refine cE hF (fun h1 hF => ?_) fun h1 hF => ?_
  · refine awp_true (by kernel_rfl) h1 ?_
    refine awp_seq ?_
    refine awp_region ?_
    refine aR 1 ?_
    refine aE ?_
    refine awp_ret ?_
    exact oF hF [] []
  · refine awp_false (by kernel_rfl) h1 ?_
    refine awp_skip ?_
    refine awp_seq ?_
    refine gE hF fun h2 hF => ?_
    refine awp_region ?_
    refine aR 2 ?_
    refine aX (x_rem h2) ?_
    refine aR 1 ?_
    refine aE ?_
    refine awp_seq ?_
    refine awp_to (st' := z241 qx qn) (oT [] []) ?_
    refine bE hF fun vx1 h4 hF => ?_
    refine awp_sub (z244 qx qn h4) ?_
    refine awp_seq ?_
    refine awp_region ?_
    refine aR 2 ?_
    refine aE ?_
    refine awp_ret ?_
    exact oF hF [] []

/-! ### (*beaconfleet/fleetmake.Stream).Next -/
def z250 (qs : z245) (qn : Int) (r : Int) : TV × Mem := (.v (.one (.d (.int .i64 r))), ⟨[], [(0, [.d (.lst (List.map (encI .i64) qs.L)), .d (.int .i64 (IntKind.wrap .i64 (qs.at_ + 1)))])]⟩)

theorem z251 {qs : z245} {qn : Int} {r} (hF : z249 qs qn = some r) : Holds prog 23 [.v (.one (.box 0 0)), .v (.one (.d (.int .i64 qn)))] ⟨[], [(0, [.d (.lst (List.map (encI .i64) qs.L)), .d (.int .i64 qs.at_)])]⟩ (Is (z250 qs qn r)) := by
  unfold z249 at hF
  refine holds_of_awp hΓ (fn := f23) (c := cB f23) (A := 1) (nx := 1) (by kernel_rfl) (by kernel_rfl) (by kernel_rfl) (by kernel_rfl) (by kernel_rfl) (by kernel_rfl) (lowc_of (by kernel_rfl)) ?_
  show Awp prog 1 64 (cB f23) _ _
  refine awp_seq ?_
  refine awp_region ?_
  refine aR 1 ?_
  refine aE ?_
  refine awp_seq ?_
  refine awp_region ?_
  refine aR 8 ?_
  refine aE ?_
  refine awp_seq ?_
  refine awp_seq ?_
  refine awp_region ?_
  refine aR 4 ?_
  refine aL (encI .i64) qs.L ?_
  refine aR 1 ?_
  refine aE ?_
  refine cE hF (fun h1 hF => ?_) fun h1 hF => ?_
  · refine awp_true (by kernel_rfl) h1 ?_
    refine awp_seq ?_
    refine bE hF fun vr h2 hF => ?_
    refine awp_region ?_
    refine aR 6 ?_
    refine aC (z239 h2) [] [] [] ?_
    refine aR 1 ?_
    refine aE ?_
    refine awp_ret ?_
    exact oF hF [] []
  · refine awp_false (by kernel_rfl) h1 ?_
    refine awp_skip ?_
    refine awp_seq ?_
    refine gE hF fun h3 hF => ?_
    refine aD ?_
    refine dR 9 ?_
    refine dL (encI .i64) qs.L ?_
    refine dX (x_rem h3) ?_
    refine dR 1 ?_
    refine dE ?_
    refine awp_seq ?_
    refine aD ?_
    refine dR 9 ?_
    refine dL (encI .i64) qs.L ?_
    refine dX (x_quo h3) ?_
    refine dR 1 ?_
    refine dE ?_
    refine awp_seq ?_
    refine bE hF fun vy h4 hF => ?_
    refine bE hF fun vr1 h5 hF => ?_
    refine bE hF fun vr2 h6 hF => ?_
    refine awp_region ?_
    refine aR 5 ?_
    refine aX (x_idx (encI .i64) h4) ?_
    refine aR 1 ?_
    refine aC (z239 h5) [] [] [] ?_
    refine aR 6 ?_
    refine aC (z239 h6) [] [] [] ?_
    refine aR 1 ?_
    refine aE ?_
    refine awp_ret ?_
    exact oF hF [] []

/-! ### (*beaconfleet/fleetmake.Stream).Range -/
def z259 (qs : z245) (qlow : Int) (qhigh : Int) (r : z245 × Int) : TV × Mem := (.v (.one (.d (.int .i64 r.2))), ⟨[], [(0, [.d (.lst (List.map (encI .i64) r.1.L)), .d (.int .i64 r.1.at_)])]⟩)

theorem z260 {qs : z245} {qlow : Int} {qhigh : Int} {r} (hF : z258 qs qlow qhigh = some r) : Holds prog 6 [.v (.one (.box 0 0)), .v (.one (.d (.int .i64 qlow))), .v (.one (.d (.int .i64 qhigh)))] ⟨[], [(0, [.d (.lst (List.map (encI .i64) qs.L)), .d (.int .i64 qs.at_)])]⟩ (Is (z259 qs qlow qhigh r)) := by
  unfold z258 at hF
  refine holds_of_awp hΓ (fn := f6) (c := cB f6) (A := 1) (nx := 1) (by kernel_rfl) (by kernel_rfl) (by kernel_rfl) (by kernel_rfl) (by kernel_rfl) (by kernel_rfl) (lowc_of (by kernel_rfl)) ?_
  show Awp prog 1 19 (cB f6) _ _
  refine awp_seq ?_
  refine awp_region ?_
  refine aR 1 ?_
  refine aE ?_
  refine awp_seq ?_
  refine awp_seq ?_
  refine awp_region ?_
  refine aR 3 ?_
  refine aE ?_
  refine cE hF (fun h1 hF => ?_) fun h1 hF => ?_
  · refine awp_true (by kernel_rfl) h1 ?_
    refine awp_seq ?_
    refine awp_region ?_
    refine aR 2 ?_
    refine aE ?_
    refine awp_ret ?_
    exact oF hF [] []
  · refine awp_false (by kernel_rfl) h1 ?_
    refine awp_skip ?_
    refine awp_seq ?_
    refine bE hF fun vr3 h2 hF => ?_
    refine awp_region ?_
    refine aR 6 ?_
    refine aC (z251 h2) [] [] [] ?_
    refine aR 2 ?_
    refine aE ?_
    refine awp_ret ?_
    exact oF hF [] []

/-! ### (*beaconfleet/fleetmake.Stream).Pick -/
def z253 (qs : z245) (ql : List Int) (r : Int) : TV × Mem := (.v (.one (.d (.int .i64 r))), ⟨[], [(0, [.d (.lst (List.map (encI .i64) qs.L)), .d (.int .i64 (IntKind.wrap .i64 (qs.at_ + 1)))])]⟩)

theorem z254 {qs : z245} {ql : List Int} {r} (hF : z252 qs ql = some r) : Holds prog 21 [.v (.one (.box 0 0)), .v (.one (.own 1 none))] ⟨[(1, ⟨3, 1, List.map (encI .i64) ql⟩)], [(0, [.d (.lst (List.map (encI .i64) qs.L)), .d (.int .i64 qs.at_)])]⟩ (Is (z253 qs ql r)) := by
  unfold z252 at hF
  refine holds_of_awp hΓ (fn := f21) (c := cB f21) (A := 2) (nx := 2) (by kernel_rfl) (by kernel_rfl) (by kernel_rfl) (by kernel_rfl) (by kernel_rfl) (by kernel_rfl) (lowc_of (by kernel_rfl)) ?_
  show Awp prog 2 12 (cB f21) _ _
  refine awp_seq ?_
  refine awp_region ?_
  refine aR 1 ?_
  refine aE ?_
  refine awp_to (oT (m := ⟨[], [(0, [.d (.lst (List.map (encI .i64) qs.L)), .d (.int .i64 qs.at_)])]⟩) (ts := [(0, .v (.one (.box 0 0))), (1, .v (.one (.d (.lst (List.map (encI .i64) ql)))))]) (nx := 2) [] []) ?_
  refine awp_seq ?_
  refine bE hF fun vr3 h1 hF => ?_
  refine bE hF fun vy h2 hF => ?_
  refine awp_region ?_
  refine aR 3 ?_
  refine aL (encI .i64) ql ?_
  refine aC (z251 h1) [] [] [] ?_
  refine aX (x_idx (encI .i64) h2) ?_
  refine aR 2 ?_
  refine aE ?_
  refine awp_ret ?_
  exact oF hF [] []

/-! ### (*beaconfleet/fleetmake.Stream).Place -/
def z256 (qs : z245) (r : api_Spot) : TV × Mem := (.v (.agg [.d (.int .i64 r.X), .d (.int .i64 r.Y)]), ⟨[], [(0, [.d (.lst (List.map (encI .i64) qs.L)), .d (.int .i64 (IntKind.wrap .i64 ((IntKind.wrap .i64 (qs.at_ + 1)) + 1)))])]⟩)

theorem z257 {qs : z245} {r} (hF : z255 qs = some r) : Holds prog 16 [.v (.one (.box 0 0))] ⟨[], [(0, [.d (.lst (List.map (encI .i64) qs.L)), .d (.int .i64 qs.at_)])]⟩ (Is (z256 qs r)) := by
  unfold z255 at hF
  refine holds_of_awp hΓ (fn := f16) (c := cB f16) (A := 1) (nx := 1) (by kernel_rfl) (by kernel_rfl) (by kernel_rfl) (by kernel_rfl) (by kernel_rfl) (by kernel_rfl) (lowc_of (by kernel_rfl)) ?_
  show Awp prog 1 10 (cB f16) _ _
  refine awp_seq ?_
  refine awp_region ?_
  refine aR 1 ?_
  refine aE ?_
  refine awp_seq ?_
  refine bE hF fun vr h1 hF => ?_
  refine bE hF fun vr1 h2 hF => ?_
  refine awp_region ?_
  refine aR 2 ?_
  refine aC (z254 h1) [(1, 2001)] [] [] ?_
  refine aR 2 ?_
  refine aC (z254 h2) [(1, 5001)] [] [] ?_
  refine aR 2 ?_
  refine aE ?_
  refine awp_ret ?_
  exact oF hF [] []

/-! ### (*beaconfleet/fleetmake.Stream).Flip -/
def z247 (qs : z245) (qn : Int) (r : Bool) : TV × Mem := (.v (.one (.d (.bool r))), ⟨[], [(0, [.d (.lst (List.map (encI .i64) qs.L)), .d (.int .i64 (IntKind.wrap .i64 (qs.at_ + 1)))])]⟩)

theorem z248 {qs : z245} {qn : Int} {r} (hF : z246 qs qn = some r) : Holds prog 20 [.v (.one (.box 0 0)), .v (.one (.d (.int .i64 qn)))] ⟨[], [(0, [.d (.lst (List.map (encI .i64) qs.L)), .d (.int .i64 qs.at_)])]⟩ (Is (z247 qs qn r)) := by
  unfold z246 at hF
  refine holds_of_awp hΓ (fn := f20) (c := cB f20) (A := 1) (nx := 1) (by kernel_rfl) (by kernel_rfl) (by kernel_rfl) (by kernel_rfl) (by kernel_rfl) (by kernel_rfl) (lowc_of (by kernel_rfl)) ?_
  show Awp prog 1 9 (cB f20) _ _
  refine awp_seq ?_
  refine awp_region ?_
  refine aR 1 ?_
  refine aE ?_
  refine awp_seq ?_
  refine bE hF fun vr3 h1 hF => ?_
  refine awp_region ?_
  refine aR 2 ?_
  refine aC (z251 h1) [] [] [] ?_
  refine aR 2 ?_
  refine aE ?_
  refine awp_ret ?_
  exact oF hF [] []

/-! ### beaconfleet/fleetref2.in -/
def z340 : Bool → AEx
  | _ => .normal

def z339 (qn : Int) (qlow : Int) (qhigh : Int) : Bool → St
  | vx => Mem.st ⟨[], []⟩ (tl [(6, .v (.one (.d (.bool vx))))]) 0

def z338 (qn : Int) (qlow : Int) (qhigh : Int) : St := Mem.st ⟨[], []⟩ (tl [(0, .v (.one (.d (.int .i64 qn)))), (1, .v (.one (.d (.int .i64 qlow)))), (2, .v (.one (.d (.int .i64 qhigh))))]) 0

theorem z341 (qn : Int) (qlow : Int) (qhigh : Int) {r} (hF : z337 qn qlow qhigh = some r) : Awp prog 0 15 (cL (cR (cB f80))) (Out 0 z340 (z339 qn qlow qhigh) r) (z338 qn qlow qhigh) := by
  unfold z337 at hF
  refine cE hF (fun h1 hF => ?_) fun h1 hF => ?_
  · refine awp_region ?_
    refine aR 2 ?_
    refine aB h1 ?_
    refine aR 6 ?_
    refine aE ?_
    exact oO hF [] [] rfl
  · refine awp_region ?_
    refine aR 2 ?_
    refine aB h1 ?_
    refine aR 6 ?_
    refine aE ?_
    exact oO hF [] [] rfl

def z335 (qn : Int) (qlow : Int) (qhigh : Int) (r : Bool) : TV × Mem := (.v (.one (.d (.bool r))), ⟨[], []⟩)

theorem z336 {qn : Int} {qlow : Int} {qhigh : Int} {r} (hF : z334 qn qlow qhigh = some r) : Holds prog 80 [.v (.one (.d (.int .i64 qn))), .v (.one (.d (.int .i64 qlow))), .v (.one (.d (.int .i64 qhigh)))] ⟨[], []⟩ (Is (z335 qn qlow qhigh r)) := by
  unfold z334 at hF
  refine holds_of_awp hΓ (fn := f80) (c := cB f80) (A := 0) (nx := 0) (by kernel_rfl) (by kernel_rfl) (by kernel_rfl) (by kernel_rfl) (by kernel_rfl) (by kernel_rfl) (lowc_of (by kernel_rfl)) ?_
  show Awp prog 0 15 (cB f80) _ _
  refine awp_seq ?_
  refine awp_region ?_
  refine aR 1 ?_
  refine aE ?_
  refine awp_seq ?_
  refine awp_to (st' := z338 qn qlow qhigh) (oT [] []) ?_
  refine bE hF fun vx1 h2 hF => ?_
  refine awp_sub (z341 qn qlow qhigh h2) ?_
  refine awp_ret ?_
  exact oF hF [] []

/-! ### beaconfleet/fleetref2.SpotFault -/
def z323 : Bool → AEx
  | _ => .normal

def z322 (qs : api_Spot) : Bool → St
  | vx => Mem.st ⟨[], []⟩ (tl [(12, .v (.one (.d (.bool vx))))]) 0

def z321 (qs : api_Spot) : St := Mem.st ⟨[], [(0, [.d (.int .i64 qs.X), .d (.int .i64 qs.Y)])]⟩ (tl [(1, .v (.one (.box 0 0)))]) 1

theorem z324 (qs : api_Spot) {r} (hF : z320 qs = some r) : Awp prog 0 13 (cL (cL (cR (cB f42)))) (Out 0 z323 (z322 qs) r) (z321 qs) := by
  unfold z320 at hF
  refine bE hF fun vr h1 hF => ?_
  refine cE hF (fun h2 hF => ?_) fun h2 hF => ?_
  · refine awp_region ?_
    refine aR 2 ?_
    refine aC (z336 h1) [] [] [] ?_
    refine aB h2 ?_
    refine aR 6 ?_
    refine aE ?_
    exact oO hF [] [] rfl
  · refine bE hF fun vr1 h3 hF => ?_
    refine awp_region ?_
    refine aR 2 ?_
    refine aC (z336 h1) [] [] [] ?_
    refine aB h2 ?_
    refine aR 3 ?_
    refine aC (z336 h3) [] [] [] ?_
    refine aR 2 ?_
    refine aE ?_
    exact oO hF [] [] rfl

def z318 (qs : api_Spot) (r : Int) : TV × Mem := (.v (.one (.d (.int .i64 r))), ⟨[], []⟩)

theorem z319 {qs : api_Spot} {r} (hF : z317 qs = some r) : Holds prog 42 [.v (.agg [.d (.int .i64 qs.X), .d (.int .i64 qs.Y)])] ⟨[], []⟩ (Is (z318 qs r)) := by
  unfold z317 at hF
  refine holds_of_awp hΓ (fn := f42) (c := cB f42) (A := 0) (nx := 0) (by kernel_rfl) (by kernel_rfl) (by kernel_rfl) (by kernel_rfl) (by kernel_rfl) (by kernel_rfl) (lowc_of (by kernel_rfl)) ?_
  show Awp prog 0 13 (cB f42) _ _
  refine awp_seq ?_
  refine awp_region ?_
  refine aR 2 ?_
  refine aE ?_
  refine awp_seq ?_
  refine awp_seq ?_
  refine awp_to (st' := z321 qs) (oT [] []) ?_
  refine bE hF fun vx1 h4 hF => ?_
  refine awp_sub (z324 qs h4) ?_
  refine cE hF (fun h5 hF => ?_) fun h5 hF => ?_
  · refine awp_true (by kernel_rfl) h5 ?_
    refine awp_seq ?_
    refine awp_region ?_
    refine aR 1 ?_
    refine aE ?_
    refine awp_ret ?_
    exact oF hF [] []
  · refine awp_false (by kernel_rfl) h5 ?_
    refine awp_skip ?_
    refine awp_seq ?_
    refine awp_region ?_
    refine aR 1 ?_
    refine aE ?_
    refine awp_ret ?_
    exact oF hF [] []

/-! ### slices.Index[[]beaconfleet/api.Spot,beaconfleet/api.Spot] -/
def z743 : Unit ⊕ Int → AEx
  | .inl _ => .exit 0
  | .inr _ => .ret

def z742 (qs : List api_Spot) (qv : api_Spot) : Unit ⊕ Int → St
  | .inl _ => Mem.st ⟨[], []⟩ (tl []) 0
  | .inr vx1 => Mem.st ⟨[], []⟩ (tl [(4, .v (.one (.d (.int .i64 vx1))))]) 0

def z741 (qs : List api_Spot) (qv : api_Spot) : Int → St
  | vx => Mem.st ⟨[], [(0, [.d (.int .i64 qv.X), .d (.int .i64 qv.Y)])]⟩ (tl [(0, .v (.one (.d (.lst (List.map api_Spot.enc qs))))), (3, .v (.one (.box 0 0))), (7, .v (.one (.d (.int .i64 (qs.length : Int))))), (8, .v (.one (.d (.int .i64 vx))))]) 1

theorem z744 (qs : List api_Spot) (qv : api_Spot) (vx : Int) (r : (Int) ⊕ (Unit ⊕ Int)) (hF : z740 qs qv vx = some r) : Awp prog 0 19 (cL (cL (cR (cL (cR (cB f81)))))) (Out 0 (kk z743) (SS (z741 qs qv) (z742 qs qv)) r) (z741 qs qv vx) := by
  unfold z740 at hF
  refine awp_seq ?_
  refine awp_region ?_
  refine aR 1 ?_
  refine aE ?_
  refine awp_seq ?_
  refine cE hF (fun h1 hF => ?_) fun h1 hF => ?_
  · refine awp_true (by kernel_rfl) h1 ?_
    refine awp_skip ?_
    refine awp_seq ?_
    refine awp_block ?_
    refine awp_seq ?_
    refine awp_region ?_
    refine aR 2 ?_
    refine aE ?_
    refine awp_seq ?_
    refine bE hF fun vy1 h2 hF => ?_
    refine aD ?_
    refine dR 3 ?_
    refine dX (x_idx api_Spot.enc h2) ?_
    refine dR 1 ?_
    refine dS (U := []) (stable_eqS (op := .eql) (xs := [.int .i64 qv.X, .int .i64 qv.Y]) (ys := [.int .i64 vy1.X, .int .i64 vy1.Y]) (b := (decide (qv.X = vy1.X) && (decide (qv.Y = vy1.Y) && true))) (c := (decide (qv.X = vy1.X) && (decide (qv.Y = vy1.Y) && true))) rfl (.inl ⟨rfl, rfl⟩) (by kernel_rfl) (by kernel_rfl) (by kernel_rfl) (by kernel_rfl) (by kernel_rfl) (by kernel_rfl)) ?_
    refine dE ?_
    refine cE hF (fun h3 hF => ?_) fun h3 hF => ?_
    · refine awp_true (by kernel_rfl) h3 ?_
      refine awp_seq ?_
      refine awp_region ?_
      refine aR 2 ?_
      refine aE ?_
      refine awp_ret ?_
      exact oO hF [] [] rfl
    · refine awp_false (by kernel_rfl) h3 ?_
      refine awp_skip ?_
      refine awp_region ?_
      refine aR 2 ?_
      refine aE ?_
      exact oO hF [] [] rfl
  · refine awp_false (by kernel_rfl) h1 ?_
    refine awp_exit ?_
    exact oO hF [] [] rfl

def z738 (qs : List api_Spot) (qv : api_Spot) (r : Int) : TV × Mem := (.v (.one (.d (.int .i64 r))), ⟨[], []⟩)

theorem z739 {qs : List api_Spot} {qv : api_Spot} {r} (hF : z737 qs qv = some r) : Holds prog 81 [.v (.one (.d (.lst (List.map api_Spot.enc qs)))), .v (.agg [.d (.int .i64 qv.X), .d (.int .i64 qv.Y)])] ⟨[], []⟩ (Is (z738 qs qv r)) := by
  unfold z737 at hF
  refine holds_of_awp hΓ (fn := f81) (c := cB f81) (A := 0) (nx := 0) (by kernel_rfl) (by kernel_rfl) (by kernel_rfl) (by kernel_rfl) (by kernel_rfl) (by kernel_rfl) (lowc_of (by kernel_rfl)) ?_
  show Awp prog 0 19 (cB f81) _ _
  refine awp_seq ?_
  refine awp_region ?_
  refine aR 2 ?_
  refine aE ?_
  refine awp_seq ?_
  refine awp_seq ?_
  refine awp_region ?_
  refine aR 1 ?_
  refine aL api_Spot.enc qs ?_
  refine aR 1 ?_
  refine aE ?_
  refine awp_block ?_
  refine awp_to (st' := z741 qs qv 0) (oT [] []) ?_
  refine bE hF fun x h4 hF => ?_
  rcases x with _ | vx1_1
  · refine awp_sub (awp_loop' (z741 qs qv) z743 (z742 qs qv) (by intro x; rcases x with x | x <;> exact fun h => nomatch h) h4 (z744 qs qv)) ?_
    refine awp_seq ?_
    refine awp_region ?_
    refine aR 1 ?_
    refine aE ?_
    refine awp_ret ?_
    exact oF hF [] []
  · refine awp_sub (awp_loop' (z741 qs qv) z743 (z742 qs qv) (by intro x; rcases x with x | x <;> exact fun h => nomatch h) h4 (z744 qs qv)) ?_
    exact oF hF [] []

/-! ### slices.Contains[[]beaconfleet/api.Spot,beaconfleet/api.Spot] -/
def z708 (qs : List api_Spot) (qv : api_Spot) (r : Bool) : TV × Mem := (.v (.one (.d (.bool r))), ⟨[], []⟩)

theorem z709 {qs : List api_Spot} {qv : api_Spot} {r} (hF : z707 qs qv = some r) : Holds prog 43 [.v (.one (.d (.lst (List.map api_Spot.enc qs)))), .v (.agg [.d (.int .i64 qv.X), .d (.int .i64 qv.Y)])] ⟨[], []⟩ (Is (z708 qs qv r)) := by
  unfold z707 at hF
  refine holds_of_awp hΓ (fn := f43) (c := cB f43) (A := 0) (nx := 0) (by kernel_rfl) (by kernel_rfl) (by kernel_rfl) (by kernel_rfl) (by kernel_rfl) (by kernel_rfl) (lowc_of (by kernel_rfl)) ?_
  show Awp prog 0 9 (cB f43) _ _
  refine awp_seq ?_
  refine awp_region ?_
  refine aR 2 ?_
  refine aE ?_
  refine awp_seq ?_
  refine bE hF fun vr h1 hF => ?_
  refine awp_region ?_
  refine aR 2 ?_
  refine aC (z739 h1) [] [] [] ?_
  refine aR 2 ?_
  refine aE ?_
  refine awp_ret ?_
  exact oF hF [] []

/-! ### beaconfleet/fleetref2.edge -/
def z332 (ql : List api_Spot) (qi : Int) (r : api_Spot × api_Spot) : TV × Mem := (.tup [.agg [.d (.int .i64 r.1.X), .d (.int .i64 r.1.Y)], .agg [.d (.int .i64 r.2.X), .d (.int .i64 r.2.Y)]], ⟨[], []⟩)

theorem z333 {ql : List api_Spot} {qi : Int} {r} (hF : z331 ql qi = some r) : Holds prog 44 [.v (.one (.d (.lst (List.map api_Spot.enc ql)))), .v (.one (.d (.int .i64 qi)))] ⟨[], []⟩ (Is (z332 ql qi r)) := by
  unfold z331 at hF
  refine holds_of_awp hΓ (fn := f44) (c := cB f44) (A := 0) (nx := 0) (by kernel_rfl) (by kernel_rfl) (by kernel_rfl) (by kernel_rfl) (by kernel_rfl) (by kernel_rfl) (lowc_of (by kernel_rfl)) ?_
  show Awp prog 0 18 (cB f44) _ _
  refine awp_seq ?_
  refine awp_region ?_
  refine aR 2 ?_
  refine aE ?_
  refine awp_seq ?_
  refine bE hF fun vy h1 hF => ?_
  refine gE hF fun h2 hF => ?_
  refine bE hF fun vy1 h3 hF => ?_
  refine aD ?_
  refine dR 2 ?_
  refine dX (x_idx api_Spot.enc h1) ?_
  refine dR 5 ?_
  refine dL api_Spot.enc ql ?_
  refine dX (x_rem h2) ?_
  refine dX (x_idx api_Spot.enc h3) ?_
  refine dR 3 ?_
  refine dE ?_
  refine awp_ret ?_
  exact oF hF [] []

/-! ### beaconfleet/fleetref2.minus -/
def z343 (qa : api_Spot) (qb : api_Spot) (r : Unit) : TV × Mem := (.v (.agg [.d (.int .i64 (IntKind.wrap .i64 (qa.X - qb.X))), .d (.int .i64 (IntKind.wrap .i64 (qa.Y - qb.Y)))]), ⟨[], []⟩)

theorem z344 {qa : api_Spot} {qb : api_Spot} {r} (hF : z342 qa qb = some r) : Holds prog 84 [.v (.agg [.d (.int .i64 qa.X), .d (.int .i64 qa.Y)]), .v (.agg [.d (.int .i64 qb.X), .d (.int .i64 qb.Y)])] ⟨[], []⟩ (Is (z343 qa qb r)) := by
  unfold z342 at hF
  refine holds_of_awp hΓ (fn := f84) (c := cB f84) (A := 0) (nx := 0) (by kernel_rfl) (by kernel_rfl) (by kernel_rfl) (by kernel_rfl) (by kernel_rfl) (by kernel_rfl) (lowc_of (by kernel_rfl)) ?_
  show Awp prog 0 16 (cB f84) _ _
  refine awp_seq ?_
  refine awp_region ?_
  refine aR 3 ?_
  refine aE ?_
  refine awp_seq ?_
  refine awp_region ?_
  refine aR 12 ?_
  refine aE ?_
  refine awp_ret ?_
  exact oF hF [] []

/-! ### beaconfleet/fleetref2.cross -/
def z326 (qa : api_Spot) (qb : api_Spot) (r : Unit) : TV × Mem := (.v (.one (.d (.int .i64 (IntKind.wrap .i64 ((IntKind.wrap .i64 (qa.X * qb.Y)) - (IntKind.wrap .i64 (qa.Y * qb.X))))))), ⟨[], []⟩)

theorem z327 {qa : api_Spot} {qb : api_Spot} {r} (hF : z325 qa qb = some r) : Holds prog 112 [.v (.agg [.d (.int .i64 qa.X), .d (.int .i64 qa.Y)]), .v (.agg [.d (.int .i64 qb.X), .d (.int .i64 qb.Y)])] ⟨[], []⟩ (Is (z326 qa qb r)) := by
  unfold z325 at hF
  refine holds_of_awp hΓ (fn := f112) (c := cB f112) (A := 0) (nx := 0) (by kernel_rfl) (by kernel_rfl) (by kernel_rfl) (by kernel_rfl) (by kernel_rfl) (by kernel_rfl) (lowc_of (by kernel_rfl)) ?_
  show Awp prog 0 16 (cB f112) _ _
  refine awp_seq ?_
  refine awp_region ?_
  refine aR 3 ?_
  refine aE ?_
  refine awp_seq ?_
  refine awp_region ?_
  refine aR 12 ?_
  refine aE ?_
  refine awp_ret ?_
  exact oF hF [] []

/-! ### beaconfleet/fleetref2.sign -/
def z357 (qn : Int) (r : Int) : TV × Mem := (.v (.one (.d (.int .i64 r))), ⟨[], []⟩)

theorem z358 {qn : Int} {r} (hF : z356 qn = some r) : Holds prog 111 [.v (.one (.d (.int .i64 qn)))] ⟨[], []⟩ (Is (z357 qn r)) := by
  unfold z356 at hF
  refine holds_of_awp hΓ (fn := f111) (c := cB f111) (A := 0) (nx := 0) (by kernel_rfl) (by kernel_rfl) (by kernel_rfl) (by kernel_rfl) (by kernel_rfl) (by kernel_rfl) (lowc_of (by kernel_rfl)) ?_
  show Awp prog 0 9 (cB f111) _ _
  refine awp_seq ?_
  refine awp_region ?_
  refine aR 1 ?_
  refine aE ?_
  refine awp_seq ?_
  refine awp_block ?_
  refine awp_seq ?_
  refine awp_region ?_
  refine aR 3 ?_
  refine aE ?_
  refine cE hF (fun h1 hF => ?_) fun h1 hF => ?_
  · refine awp_true (by kernel_rfl) h1 ?_
    refine awp_seq ?_
    refine awp_region ?_
    refine aR 1 ?_
    refine aE ?_
    refine awp_ret ?_
    exact oF hF [] []
  · refine awp_false (by kernel_rfl) h1 ?_
    refine awp_seq ?_
    refine awp_region ?_
    refine aR 3 ?_
    refine aE ?_
    refine cE hF (fun h2 hF => ?_) fun h2 hF => ?_
    · refine awp_true (by kernel_rfl) h2 ?_
      refine awp_seq ?_
      refine awp_region ?_
      refine aR 1 ?_
      refine aE ?_
      refine awp_ret ?_
      exact oF hF [] []
    · refine awp_false (by kernel_rfl) h2 ?_
      refine awp_skip ?_
      refine awp_seq ?_
      refine awp_region ?_
      refine aR 1 ?_
      refine aE ?_
      refine awp_ret ?_
      exact oF hF [] []

/-! ### beaconfleet/fleetref2.side -/
def z354 (qa : api_Spot) (qb : api_Spot) (qs : api_Spot) (r : Int) : TV × Mem := (.v (.one (.d (.int .i64 r))), ⟨[], []⟩)

theorem z355 {qa : api_Spot} {qb : api_Spot} {qs : api_Spot} {r} (hF : z353 qa qb qs = some r) : Holds prog 82 [.v (.agg [.d (.int .i64 qa.X), .d (.int .i64 qa.Y)]), .v (.agg [.d (.int .i64 qb.X), .d (.int .i64 qb.Y)]), .v (.agg [.d (.int .i64 qs.X), .d (.int .i64 qs.Y)])] ⟨[], []⟩ (Is (z354 qa qb qs r)) := by
  unfold z353 at hF
  refine holds_of_awp hΓ (fn := f82) (c := cB f82) (A := 0) (nx := 0) (by kernel_rfl) (by kernel_rfl) (by kernel_rfl) (by kernel_rfl) (by kernel_rfl) (by kernel_rfl) (lowc_of (by kernel_rfl)) ?_
  show Awp prog 0 15 (cB f82) _ _
  refine awp_seq ?_
  refine awp_region ?_
  refine aR 4 ?_
  refine aE ?_
  refine awp_seq ?_
  refine bE hF fun _ h1 hF => ?_
  refine bE hF fun _ h2 hF => ?_
  refine bE hF fun _ h3 hF => ?_
  refine bE hF fun vr h4 hF => ?_
  refine aD ?_
  refine dR 2 ?_
  refine dC (z344 h1) [] [] [] ?_
  refine dR 2 ?_
  refine dC (z344 h2) [] [] [] ?_
  refine dC (z327 h3) [] [] [] ?_
  refine dC (z358 h4) [] [] [] ?_
  refine dR 1 ?_
  refine dE ?_
  refine awp_ret ?_
  exact oF hF [] []

/-! ### beaconfleet/fleetref2.dot -/
def z329 (qa : api_Spot) (qb : api_Spot) (r : Unit) : TV × Mem := (.v (.one (.d (.int .i64 (IntKind.wrap .i64 ((IntKind.wrap .i64 (qa.X * qb.X)) + (IntKind.wrap .i64 (qa.Y * qb.Y))))))), ⟨[], []⟩)

theorem z330 {qa : api_Spot} {qb : api_Spot} {r} (hF : z328 qa qb = some r) : Holds prog 83 [.v (.agg [.d (.int .i64 qa.X), .d (.int .i64 qa.Y)]), .v (.agg [.d (.int .i64 qb.X), .d (.int .i64 qb.Y)])] ⟨[], []⟩ (Is (z329 qa qb r)) := by
  unfold z328 at hF
  refine holds_of_awp hΓ (fn := f83) (c := cB f83) (A := 0) (nx := 0) (by kernel_rfl) (by kernel_rfl) (by kernel_rfl) (by kernel_rfl) (by kernel_rfl) (by kernel_rfl) (lowc_of (by kernel_rfl)) ?_
  show Awp prog 0 16 (cB f83) _ _
  refine awp_seq ?_
  refine awp_region ?_
  refine aR 3 ?_
  refine aE ?_
  refine awp_seq ?_
  refine awp_region ?_
  refine aR 12 ?_
  refine aE ?_
  refine awp_ret ?_
  exact oF hF [] []

/-! ### beaconfleet/fleetref2.onWay -/
def z351 : Bool → AEx
  | _ => .normal

def z350 (qa : api_Spot) (qb : api_Spot) (qs : api_Spot) : Bool → St
  | vx => Mem.st ⟨[], []⟩ (tl [(6, .v (.one (.d (.bool vx))))]) 0

def z349 (qa : api_Spot) (qb : api_Spot) (qs : api_Spot) : St := Mem.st ⟨[], [(0, [.d (.int .i64 qa.X), .d (.int .i64 qa.Y)]), (1, [.d (.int .i64 qb.X), .d (.int .i64 qb.Y)]), (2, [.d (.int .i64 qs.X), .d (.int .i64 qs.Y)])]⟩ (tl [(3, .v (.one (.box 0 0))), (4, .v (.one (.box 1 0))), (5, .v (.one (.box 2 0)))]) 3

theorem z352 (qa : api_Spot) (qb : api_Spot) (qs : api_Spot) {r} (hF : z348 qa qb qs = some r) : Awp prog 0 22 (cL (cR (cB f45))) (Out 0 z351 (z350 qa qb qs) r) (z349 qa qb qs) := by
  unfold z348 at hF
  refine bE hF fun vr1 h1 hF => ?_
  refine cE hF (fun h2 hF => ?_) fun h2 hF => ?_
  · refine bE hF fun _ h3 hF => ?_
    refine bE hF fun _ h4 hF => ?_
    refine bE hF fun _ h5 hF => ?_
    refine aD ?_
    refine dR 3 ?_
    refine dC (z355 h1) [] [] [] ?_
    refine dB h2 ?_
    refine dR 3 ?_
    refine dC (z344 h3) [] [] [] ?_
    refine dR 2 ?_
    refine dC (z344 h4) [] [] [] ?_
    refine dC (z330 h5) [] [] [] ?_
    refine dR 3 ?_
    refine dE ?_
    exact oO hF [] [] rfl
  · refine aD ?_
    refine dR 3 ?_
    refine dC (z355 h1) [] [] [] ?_
    refine dB h2 ?_
    refine dR 11 ?_
    refine dE ?_
    exact oO hF [] [] rfl

def z346 (qa : api_Spot) (qb : api_Spot) (qs : api_Spot) (r : Bool) : TV × Mem := (.v (.one (.d (.bool r))), ⟨[], []⟩)

theorem z347 {qa : api_Spot} {qb : api_Spot} {qs : api_Spot} {r} (hF : z345 qa qb qs = some r) : Holds prog 45 [.v (.agg [.d (.int .i64 qa.X), .d (.int .i64 qa.Y)]), .v (.agg [.d (.int .i64 qb.X), .d (.int .i64 qb.Y)]), .v (.agg [.d (.int .i64 qs.X), .d (.int .i64 qs.Y)])] ⟨[], []⟩ (Is (z346 qa qb qs r)) := by
  unfold z345 at hF
  refine holds_of_awp hΓ (fn := f45) (c := cB f45) (A := 0) (nx := 0) (by kernel_rfl) (by kernel_rfl) (by kernel_rfl) (by kernel_rfl) (by kernel_rfl) (by kernel_rfl) (lowc_of (by kernel_rfl)) ?_
  show Awp prog 0 22 (cB f45) _ _
  refine awp_seq ?_
  refine awp_region ?_
  refine aR 4 ?_
  refine aE ?_
  refine awp_seq ?_
  refine awp_to (st' := z349 qa qb qs) (oT [(1, 1000), (2, 2000)] []) ?_
  refine bE hF fun vx1 h6 hF => ?_
  refine awp_sub (z352 qa qb qs h6) ?_
  refine awp_ret ?_
  exact oF hF [] []

/-! ### beaconfleet/fleetref2.touches -/
def z365 : Bool → AEx
  | _ => .normal

def z364 (qa : api_Spot) (qb : api_Spot) (qc : api_Spot) (qd : api_Spot) : Bool → St
  | vx => Mem.st ⟨[], [(0, [.d (.int .i64 qa.X), .d (.int .i64 qa.Y)]), (1, [.d (.int .i64 qb.X), .d (.int .i64 qb.Y)]), (2, [.d (.int .i64 qc.X), .d (.int .i64 qc.Y)]), (3, [.d (.int .i64 qd.X), .d (.int .i64 qd.Y)])]⟩ (tl [(4, .v (.one (.box 0 0))), (5, .v (.one (.box 1 0))), (6, .v (.one (.box 2 0))), (7, .v (.one (.box 3 0))), (30, .v (.one (.d (.bool vx))))]) 4

def z363 (qa : api_Spot) (qb : api_Spot) (qc : api_Spot) (qd : api_Spot) : St := Mem.st ⟨[], [(0, [.d (.int .i64 qa.X), .d (.int .i64 qa.Y)]), (1, [.d (.int .i64 qb.X), .d (.int .i64 qb.Y)]), (2, [.d (.int .i64 qc.X), .d (.int .i64 qc.Y)]), (3, [.d (.int .i64 qd.X), .d (.int .i64 qd.Y)])]⟩ (tl [(4, .v (.one (.box 0 0))), (5, .v (.one (.box 1 0))), (6, .v (.one (.box 2 0))), (7, .v (.one (.box 3 0)))]) 4

theorem z366 (qa : api_Spot) (qb : api_Spot) (qc : api_Spot) (qd : api_Spot) {r} (hF : z362 qa qb qc qd = some r) : Awp prog 0 53 (cL (cL (cR (cB f46)))) (Out 0 z365 (z364 qa qb qc qd) r) (z363 qa qb qc qd) := by
  unfold z362 at hF
  refine bE hF fun vr h1 hF => ?_
  refine cE hF (fun h2 hF => ?_) fun h2 hF => ?_
  · refine awp_region ?_
    refine aR 3 ?_
    refine aCb (z347 h1) [] [] [] h2 ?_
    refine aR 18 ?_
    refine aE ?_
    exact oO hF [] [] rfl
  · refine bE hF fun vr1 h3 hF => ?_
    refine cE hF (fun h4 hF => ?_) fun h4 hF => ?_
    · refine awp_region ?_
      refine aR 3 ?_
      refine aCb (z347 h1) [] [] [] h2 ?_
      refine aR 4 ?_
      refine aCb (z347 h3) [] [] [] h4 ?_
      refine aR 13 ?_
      refine aE ?_
      exact oO hF [] [] rfl
    · refine bE hF fun vr2 h5 hF => ?_
      refine cE hF (fun h6 hF => ?_) fun h6 hF => ?_
      · refine awp_region ?_
        refine aR 3 ?_
        refine aCb (z347 h1) [] [] [] h2 ?_
        refine aR 4 ?_
        refine aCb (z347 h3) [] [] [] h4 ?_
        refine aR 5 ?_
        refine aCb (z347 h5) [] [] [] h6 ?_
        refine aR 7 ?_
        refine aE ?_
        exact oO hF [] [] rfl
      · refine bE hF fun vr3 h7 hF => ?_
        refine awp_region ?_
        refine aR 3 ?_
        refine aCb (z347 h1) [] [] [] h2 ?_
        refine aR 4 ?_
        refine aCb (z347 h3) [] [] [] h4 ?_
        refine aR 5 ?_
        refine aCb (z347 h5) [] [] [] h6 ?_
        refine aR 5 ?_
        refine aC (z347 h7) [] [] [] ?_
        refine aR 1 ?_
        refine aE ?_
        exact oO hF [] [] rfl

def z370 : Bool → AEx
  | _ => .normal

def z369 (qa : api_Spot) (qb : api_Spot) (qc : api_Spot) (qd : api_Spot) : Bool → St
  | vx2 => Mem.st ⟨[], []⟩ (tl [(8, .v (.one (.d (.bool vx2))))]) 0

def z368 (qa : api_Spot) (qb : api_Spot) (qc : api_Spot) (qd : api_Spot) : St := Mem.st ⟨[], [(0, [.d (.int .i64 qa.X), .d (.int .i64 qa.Y)]), (1, [.d (.int .i64 qb.X), .d (.int .i64 qb.Y)]), (2, [.d (.int .i64 qc.X), .d (.int .i64 qc.Y)]), (3, [.d (.int .i64 qd.X), .d (.int .i64 qd.Y)])]⟩ (tl [(4, .v (.one (.box 0 0))), (5, .v (.one (.box 1 0))), (6, .v (.one (.box 2 0))), (7, .v (.one (.box 3 0)))]) 4

theorem z371 (qa : api_Spot) (qb : api_Spot) (qc : api_Spot) (qd : api_Spot) {r} (hF : z367 qa qb qc qd = some r) : Awp prog 0 53 (cL (cR (cR (cB f46)))) (Out 0 z370 (z369 qa qb qc qd) r) (z368 qa qb qc qd) := by
  unfold z367 at hF
  refine bE hF fun vr1_1 h10 hF => ?_
  refine bE hF fun vr1_2 h11 hF => ?_
  refine cE hF (fun h12 hF => ?_) fun h12 hF => ?_
  · refine bE hF fun vr1_3 h13 hF => ?_
    refine bE hF fun vr1_4 h14 hF => ?_
    refine aD ?_
    refine dR 3 ?_
    refine dC (z355 h10) [] [] [] ?_
    refine dR 3 ?_
    refine dC (z355 h11) [] [] [] ?_
    refine dR 1 ?_
    refine dB h12 ?_
    refine dR 4 ?_
    refine dC (z355 h13) [] [] [] ?_
    refine dR 3 ?_
    refine dC (z355 h14) [] [] [] ?_
    refine dR 4 ?_
    refine dE ?_
    exact oO hF [] [] rfl
  · refine aD ?_
    refine dR 3 ?_
    refine dC (z355 h10) [] [] [] ?_
    refine dR 3 ?_
    refine dC (z355 h11) [] [] [] ?_
    refine dR 1 ?_
    refine dB h12 ?_
    refine dR 13 ?_
    refine dE ?_
    exact oO hF [] [] rfl

def z360 (qa : api_Spot) (qb : api_Spot) (qc : api_Spot) (qd : api_Spot) (r : Bool) : TV × Mem := (.v (.one (.d (.bool r))), ⟨[], []⟩)

theorem z361 {qa : api_Spot} {qb : api_Spot} {qc : api_Spot} {qd : api_Spot} {r} (hF : z359 qa qb qc qd = some r) : Holds prog 46 [.v (.agg [.d (.int .i64 qa.X), .d (.int .i64 qa.Y)]), .v (.agg [.d (.int .i64 qb.X), .d (.int .i64 qb.Y)]), .v (.agg [.d (.int .i64 qc.X), .d (.int .i64 qc.Y)]), .v (.agg [.d (.int .i64 qd.X), .d (.int .i64 qd.Y)])] ⟨[], []⟩ (Is (z360 qa qb qc qd r)) := by
  unfold z359 at hF
  refine holds_of_awp hΓ (fn := f46) (c := cB f46) (A := 0) (nx := 0) (by kernel_rfl) (by kernel_rfl) (by kernel_rfl) (by kernel_rfl) (by kernel_rfl) (by kernel_rfl) (lowc_of (by kernel_rfl)) ?_
  show Awp prog 0 53 (cB f46) _ _
  refine awp_seq ?_
  refine awp_region ?_
  refine aR 5 ?_
  refine aE ?_
  refine awp_seq ?_
  refine awp_seq ?_
  refine awp_to (st' := z363 qa qb qc qd) (oT [(1, 1000), (2, 2000), (3, 3000)] []) ?_
  refine bE hF fun vx1 h8 hF => ?_
  refine awp_sub (z366 qa qb qc qd h8) ?_
  refine cE hF (fun h9 hF => ?_) fun h9 hF => ?_
  · refine awp_true (by kernel_rfl) h9 ?_
    refine awp_seq ?_
    refine awp_region ?_
    refine aR 1 ?_
    refine aE ?_
    refine awp_ret ?_
    exact oF hF [] []
  · refine awp_false (by kernel_rfl) h9 ?_
    refine awp_skip ?_
    refine awp_seq ?_
    refine awp_to (st' := z368 qa qb qc qd) (oT [] []) ?_
    refine bE hF fun vx2_1 h15 hF => ?_
    refine awp_sub (z371 qa qb qc qd h15) ?_
    refine awp_ret ?_
    exact oF hF [] []

/-! ### beaconfleet/fleetref2.CornersFault -/
def z295 : Unit ⊕ Int → AEx
  | .inl _ => .exit 1
  | .inr _ => .ret

def z294 (qx : List api_Spot) : Unit ⊕ Int → St
  | .inl _ => Mem.st ⟨[], []⟩ (tl [(0, .v (.one (.d (.lst (List.map api_Spot.enc qx)))))]) 0
  | .inr vx1 => Mem.st ⟨[], []⟩ (tl [(2, .v (.one (.d (.int .i64 vx1))))]) 0

def z293 (qx : List api_Spot) : Int → St
  | vx => Mem.st ⟨[], []⟩ (tl [(0, .v (.one (.d (.lst (List.map api_Spot.enc qx))))), (20, .v (.one (.d (.lst (List.map api_Spot.enc qx))))), (21, .v (.one (.d (.int .i64 (qx.length : Int))))), (22, .v (.one (.d (.int .i64 vx))))]) 0

theorem z296 (qx : List api_Spot) (vx : Int) (r : (Int) ⊕ (Unit ⊕ Int)) (hF : z292 qx vx = some r) : Awp prog 0 90 (cL (cL (cR (cL (cR (cR (cB f22))))))) (Out 0 (kk z295) (SS (z293 qx) (z294 qx)) r) (z293 qx vx) := by
  unfold z292 at hF
  refine awp_seq ?_
  refine awp_region ?_
  refine aR 1 ?_
  refine aE ?_
  refine awp_seq ?_
  refine cE hF (fun h3 hF => ?_) fun h3 hF => ?_
  · refine awp_true (by kernel_rfl) h3 ?_
    refine awp_skip ?_
    refine awp_seq ?_
    refine awp_block ?_
    refine awp_seq ?_
    refine bE hF fun vy1 h4 hF => ?_
    refine awp_region ?_
    refine aR 1 ?_
    refine aX (x_idx api_Spot.enc h4) ?_
    refine aR 4 ?_
    refine aE ?_
    refine awp_seq ?_
    refine awp_seq ?_
    refine bE hF fun vr2_1 h5 hF => ?_
    refine awp_region ?_
    refine aR 1 ?_
    refine aC (z319 h5) [] [] [] ?_
    refine aR 1 ?_
    refine aE ?_
    refine awp_seq ?_
    refine awp_region ?_
    refine aR 2 ?_
    refine aE ?_
    refine cE hF (fun h6 hF => ?_) fun h6 hF => ?_
    · refine awp_true (by kernel_rfl) h6 ?_
      refine awp_seq ?_
      refine awp_region ?_
      refine aR 2 ?_
      refine aE ?_
      refine awp_ret ?_
      exact oO hF [] [] rfl
    · refine awp_false (by kernel_rfl) h6 ?_
      refine awp_skip ?_
      refine awp_seq ?_
      refine bE hF fun vl1 h7 hF => ?_
      refine bE hF fun vr1_1 h8 hF => ?_
      refine aD ?_
      refine dR 2 ?_
      refine dX (x_slice api_Spot.enc h7) ?_
      refine dR 1 ?_
      refine dC (z709 h8) [] [] [] ?_
      refine dE ?_
      refine cE hF (fun h9 hF => ?_) fun h9 hF => ?_
      · refine awp_true (by kernel_rfl) h9 ?_
        refine awp_seq ?_
        refine awp_region ?_
        refine aR 1 ?_
        refine aE ?_
        refine awp_ret ?_
        exact oO hF [] [] rfl
      · refine awp_false (by kernel_rfl) h9 ?_
        refine awp_skip ?_
        refine awp_region ?_
        refine aR 2 ?_
        refine aE ?_
        exact oO hF [] [] rfl
  · refine awp_false (by kernel_rfl) h3 ?_
    refine awp_exit ?_
    exact oO hF [] [] rfl

def z315 : Bool → AEx
  | _ => .normal

def z314 (qx : List api_Spot) (vx2 : Int) (vr9 : api_Spot) (vr1_5 : api_Spot) (vx6 : Int) (vr13 : api_Spot) (vr1_7 : api_Spot) : Bool → St
  | vx8 => Mem.st ⟨[], [(0, [.d (.int .i64 vr9.X), .d (.int .i64 vr9.Y)]), (1, [.d (.int .i64 vr1_5.X), .d (.int .i64 vr1_5.Y)])]⟩ (tl [(0, .v (.one (.d (.lst (List.map api_Spot.enc qx))))), (6, .v (.one (.d (.int .i64 vx2)))), (7, .v (.one (.box 0 0))), (8, .v (.one (.box 1 0))), (39, .v (.one (.d (.int .i64 (qx.length : Int))))), (40, .v (.one (.d (.int .i64 vx2)))), (50, .v (.one (.d (.int .i64 (qx.length : Int))))), (51, .v (.one (.d (.int .i64 vx6)))), (77, .v (.one (.d (.bool vx8))))]) 2

def z313 (qx : List api_Spot) (vx2 : Int) (vr9 : api_Spot) (vr1_5 : api_Spot) (vx6 : Int) (vr13 : api_Spot) (vr1_7 : api_Spot) : St := Mem.st ⟨[], [(0, [.d (.int .i64 vr9.X), .d (.int .i64 vr9.Y)]), (1, [.d (.int .i64 vr1_5.X), .d (.int .i64 vr1_5.Y)]), (2, [.d (.int .i64 vr13.X), .d (.int .i64 vr13.Y)]), (3, [.d (.int .i64 vr1_7.X), .d (.int .i64 vr1_7.Y)])]⟩ (tl [(0, .v (.one (.d (.lst (List.map api_Spot.enc qx))))), (6, .v (.one (.d (.int .i64 vx2)))), (7, .v (.one (.box 0 0))), (8, .v (.one (.box 1 0))), (10, .v (.one (.box 2 0))), (11, .v (.one (.box 3 0))), (39, .v (.one (.d (.int .i64 (qx.length : Int))))), (40, .v (.one (.d (.int .i64 vx2)))), (50, .v (.one (.d (.int .i64 (qx.length : Int))))), (51, .v (.one (.d (.int .i64 vx6))))]) 4

theorem z316 (qx : List api_Spot) (vx2 : Int) (vr9 : api_Spot) (vr1_5 : api_Spot) (vx6 : Int) (vr13 : api_Spot) (vr1_7 : api_Spot) {r} (hF : z312 vr9 vr1_5 vr13 vr1_7 = some r) : Awp prog 0 90 (cL (cL (cR (cR (cR (cL (cR (cR (cL (cL (cR (cR (cL (cL (cR (cR (cR (cL (cL (cR (cR (cL (cL (cR (cL (cR (cR (cR (cB f22))))))))))))))))))))))))))))) (Out 0 z315 (z314 qx vx2 vr9 vr1_5 vx6 vr13 vr1_7) r) (z313 qx vx2 vr9 vr1_5 vx6 vr13 vr1_7) := by
  unfold z312 at hF
  refine bE hF fun vr14 h17 hF => ?_
  refine cE hF (fun h18 hF => ?_) fun h18 hF => ?_
  · refine awp_region ?_
    refine aR 3 ?_
    refine aCb (z347 h17) [] [] [] h18 ?_
    refine aR 6 ?_
    refine aE ?_
    exact oO hF [] [] rfl
  · refine bE hF fun vr15 h19 hF => ?_
    refine awp_region ?_
    refine aR 3 ?_
    refine aCb (z347 h17) [] [] [] h18 ?_
    refine aR 4 ?_
    refine aC (z347 h19) [] [] [] ?_
    refine aR 1 ?_
    refine aE ?_
    exact oO hF [] [] rfl

def z310 : Unit ⊕ Unit → AEx
  | .inl _ => .normal
  | .inr _ => .ret

def z309 (qx : List api_Spot) (vx2 : Int) (vr9 : api_Spot) (vr1_5 : api_Spot) (vx6 : Int) : Unit ⊕ Unit → St
  | .inl _ => Mem.st ⟨[], [(0, [.d (.int .i64 vr9.X), .d (.int .i64 vr9.Y)]), (1, [.d (.int .i64 vr1_5.X), .d (.int .i64 vr1_5.Y)])]⟩ (tl [(0, .v (.one (.d (.lst (List.map api_Spot.enc qx))))), (6, .v (.one (.d (.int .i64 vx2)))), (7, .v (.one (.box 0 0))), (8, .v (.one (.box 1 0))), (39, .v (.one (.d (.int .i64 (qx.length : Int))))), (40, .v (.one (.d (.int .i64 vx2)))), (50, .v (.one (.d (.int .i64 (qx.length : Int))))), (51, .v (.one (.d (.int .i64 vx6))))]) 2
  | .inr _ => Mem.st ⟨[], []⟩ (tl [(2, .v (.one (.d (.int .i64 13))))]) 0

def z308 (qx : List api_Spot) (vx2 : Int) (vr9 : api_Spot) (vr1_5 : api_Spot) (vx6 : Int) : St := Mem.st ⟨[], [(0, [.d (.int .i64 vr9.X), .d (.int .i64 vr9.Y)]), (1, [.d (.int .i64 vr1_5.X), .d (.int .i64 vr1_5.Y)])]⟩ (tl [(0, .v (.one (.d (.lst (List.map api_Spot.enc qx))))), (6, .v (.one (.d (.int .i64 vx2)))), (7, .v (.one (.box 0 0))), (8, .v (.one (.box 1 0))), (39, .v (.one (.d (.int .i64 (qx.length : Int))))), (40, .v (.one (.d (.int .i64 vx2)))), (50, .v (.one (.d (.int .i64 (qx.length : Int))))), (51, .v (.one (.d (.int .i64 vx6))))]) 2

theorem z311 (qx : List api_Spot) (vx2 : Int) (vr9 : api_Spot) (vr1_5 : api_Spot) (vx6 : Int) {r} (hF : z307 qx vx2 vr9 vr1_5 vx6 = some r) : Awp prog 0 90 (cL (cR (cR (cL (cL (cR (cR (cR (cL (cL (cR (cR (cL (cL (cR (cL (cR (cR (cR (cB f22)))))))))))))))))))) (Out 0 z310 (z309 qx vx2 vr9 vr1_5 vx6) r) (z308 qx vx2 vr9 vr1_5 vx6) := by
  unfold z307 at hF
  refine awp_block ?_
  refine awp_seq ?_
  refine awp_region ?_
  refine aR 2 ?_
  refine aE ?_
  refine awp_seq ?_
  refine bE hF fun x h14 hF => ?_
  obtain ⟨vr13, vr1_7⟩ := x
  refine awp_region ?_
  refine aR 2 ?_
  refine aC (z333 h14) [] [] [] ?_
  refine aR 7 ?_
  refine aE ?_
  refine awp_block ?_
  refine awp_seq ?_
  refine awp_region ?_
  refine aR 4 ?_
  refine aE ?_
  refine cE hF (fun h15 hF => ?_) fun h15 hF => ?_
  · refine awp_true (by kernel_rfl) h15 ?_
    refine awp_skip ?_
    exact oO hF [] [] rfl
  · refine awp_false (by kernel_rfl) h15 ?_
    refine awp_seq ?_
    refine awp_region ?_
    refine aR 2 ?_
    refine aS (does_eqS (op := .eql) (xs := [.int .i64 vr1_5.X, .int .i64 vr1_5.Y]) (ys := [.int .i64 vr13.X, .int .i64 vr13.Y]) (b := (decide (vr1_5.X = vr13.X) && (decide (vr1_5.Y = vr13.Y) && true))) (c := (decide (vr1_5.X = vr13.X) && (decide (vr1_5.Y = vr13.Y) && true))) rfl (.inl ⟨rfl, rfl⟩) (by kernel_rfl) (by kernel_rfl) (by kernel_rfl) (by kernel_rfl) (by kernel_rfl) (by kernel_rfl)) ?_
    refine aR 1 ?_
    refine aE ?_
    refine cE hF (fun h16 hF => ?_) fun h16 hF => ?_
    · refine awp_true (by kernel_rfl) h16 ?_
      refine awp_seq ?_
      refine awp_to (st' := z313 qx vx2 vr9 vr1_5 vx6 vr13 vr1_7) (oT [(2, 8002), (3, 9002)] []) ?_
      refine bE hF fun vx8_1 h20 hF => ?_
      refine awp_sub (z316 qx vx2 vr9 vr1_5 vx6 vr13 vr1_7 h20) ?_
      refine cE hF (fun h21 hF => ?_) fun h21 hF => ?_
      · refine awp_true (by kernel_rfl) h21 ?_
        refine awp_seq ?_
        refine awp_region ?_
        refine aR 1 ?_
        refine aE ?_
        refine awp_ret ?_
        exact oO hF [] [] rfl
      · refine awp_false (by kernel_rfl) h21 ?_
        refine awp_skip ?_
        exact oO hF [] [] rfl
    · refine awp_false (by kernel_rfl) h16 ?_
      refine awp_seq ?_
      refine awp_region ?_
      refine aR 2 ?_
      refine aS (does_eqS (op := .eql) (xs := [.int .i64 vr1_7.X, .int .i64 vr1_7.Y]) (ys := [.int .i64 vr9.X, .int .i64 vr9.Y]) (b := (decide (vr1_7.X = vr9.X) && (decide (vr1_7.Y = vr9.Y) && true))) (c := (decide (vr1_7.X = vr9.X) && (decide (vr1_7.Y = vr9.Y) && true))) rfl (.inl ⟨rfl, rfl⟩) (by kernel_rfl) (by kernel_rfl) (by kernel_rfl) (by kernel_rfl) (by kernel_rfl) (by kernel_rfl)) ?_
      refine aR 1 ?_
      refine aE ?_
      refine cE hF (fun h22 hF => ?_) fun h22 hF => ?_
      · refine awp_true (by kernel_rfl) h22 ?_
        refine awp_skip ?_
        exact oO hF [] [] rfl
      · refine awp_false (by kernel_rfl) h22 ?_
        refine awp_seq ?_
        refine bE hF fun vr4_4 h23 hF => ?_
        refine awp_region ?_
        refine aR 4 ?_
        refine aC (z361 h23) [] [] [] ?_
        refine aR 1 ?_
        refine aE ?_
        refine cE hF (fun h24 hF => ?_) fun h24 hF => ?_
        · refine awp_true (by kernel_rfl) h24 ?_
          refine awp_seq ?_
          refine awp_region ?_
          refine aR 1 ?_
          refine aE ?_
          refine awp_ret ?_
          exact oO hF [] [] rfl
        · refine awp_false (by kernel_rfl) h24 ?_
          refine awp_skip ?_
          exact oO hF [] [] rfl

def z305 : Unit ⊕ Unit → AEx
  | .inl _ => .exit 5
  | .inr _ => .ret

def z304 (qx : List api_Spot) (vx2 : Int) (vr9 : api_Spot) (vr1_5 : api_Spot) : Unit ⊕ Unit → St
  | .inl _ => Mem.st ⟨[], []⟩ (tl [(0, .v (.one (.d (.lst (List.map api_Spot.enc qx))))), (39, .v (.one (.d (.int .i64 (qx.length : Int))))), (40, .v (.one (.d (.int .i64 vx2))))]) 0
  | .inr _ => Mem.st ⟨[], []⟩ (tl [(2, .v (.one (.d (.int .i64 13))))]) 0

def z303 (qx : List api_Spot) (vx2 : Int) (vr9 : api_Spot) (vr1_5 : api_Spot) : Int → St
  | vx6 => Mem.st ⟨[], [(0, [.d (.int .i64 vr9.X), .d (.int .i64 vr9.Y)]), (1, [.d (.int .i64 vr1_5.X), .d (.int .i64 vr1_5.Y)])]⟩ (tl [(0, .v (.one (.d (.lst (List.map api_Spot.enc qx))))), (6, .v (.one (.d (.int .i64 vx2)))), (7, .v (.one (.box 0 0))), (8, .v (.one (.box 1 0))), (39, .v (.one (.d (.int .i64 (qx.length : Int))))), (40, .v (.one (.d (.int .i64 vx2)))), (50, .v (.one (.d (.int .i64 (qx.length : Int))))), (51, .v (.one (.d (.int .i64 vx6))))]) 2

theorem z306 (qx : List api_Spot) (vx2 : Int) (vr9 : api_Spot) (vr1_5 : api_Spot) (vx6 : Int) (r : (Int) ⊕ (Unit ⊕ Unit)) (hF : z302 qx vx2 vr9 vr1_5 vx6 = some r) : Awp prog 0 90 (cL (cL (cR (cR (cR (cL (cL (cR (cR (cL (cL (cR (cL (cR (cR (cR (cB f22))))))))))))))))) (Out 0 (kk z305) (SS (z303 qx vx2 vr9 vr1_5) (z304 qx vx2 vr9 vr1_5)) r) (z303 qx vx2 vr9 vr1_5 vx6) := by
  unfold z302 at hF
  refine awp_seq ?_
  refine awp_region ?_
  refine aR 1 ?_
  refine aE ?_
  refine awp_seq ?_
  refine cE hF (fun h13 hF => ?_) fun h13 hF => ?_
  · refine awp_true (by kernel_rfl) h13 ?_
    refine awp_skip ?_
    refine awp_seq ?_
    refine awp_to (st' := z308 qx vx2 vr9 vr1_5 vx6) (oT [] []) ?_
    refine bE hF fun x h25 hF => ?_
    rcases x with _ | _
    · refine awp_sub (z311 qx vx2 vr9 vr1_5 vx6 h25) ?_
      refine awp_region ?_
      refine aR 2 ?_
      refine aE ?_
      exact oO hF [] [] rfl
    · refine awp_sub (z311 qx vx2 vr9 vr1_5 vx6 h25) ?_
      exact oO hF [] [] rfl
  · refine awp_false (by kernel_rfl) h13 ?_
    refine awp_exit ?_
    exact oO hF [] [] rfl

def z300 : Unit ⊕ Unit → AEx
  | .inl _ => .exit 3
  | .inr _ => .ret

def z299 (qx : List api_Spot) : Unit ⊕ Unit → St
  | .inl _ => Mem.st ⟨[], []⟩ (tl []) 0
  | .inr _ => Mem.st ⟨[], []⟩ (tl [(2, .v (.one (.d (.int .i64 13))))]) 0

def z298 (qx : List api_Spot) : Int → St
  | vx2 => Mem.st ⟨[], []⟩ (tl [(0, .v (.one (.d (.lst (List.map api_Spot.enc qx))))), (39, .v (.one (.d (.int .i64 (qx.length : Int))))), (40, .v (.one (.d (.int .i64 vx2))))]) 0

theorem z301 (qx : List api_Spot) (vx2 : Int) (r : (Int) ⊕ (Unit ⊕ Unit)) (hF : z297 qx vx2 = some r) : Awp prog 0 90 (cL (cL (cR (cL (cR (cR (cR (cB f22)))))))) (Out 0 (kk z300) (SS (z298 qx) (z299 qx)) r) (z298 qx vx2) := by
  unfold z297 at hF
  refine awp_seq ?_
  refine awp_region ?_
  refine aR 1 ?_
  refine aE ?_
  refine awp_seq ?_
  refine cE hF (fun h11 hF => ?_) fun h11 hF => ?_
  · refine awp_true (by kernel_rfl) h11 ?_
    refine awp_skip ?_
    refine awp_seq ?_
    refine awp_block ?_
    refine awp_seq ?_
    refine awp_region ?_
    refine aR 2 ?_
    refine aE ?_
    refine awp_seq ?_
    refine bE hF fun x h12 hF => ?_
    obtain ⟨vr9, vr1_5⟩ := x
    refine awp_region ?_
    refine aR 2 ?_
    refine aC (z333 h12) [] [] [] ?_
    refine aR 7 ?_
    refine aE ?_
    refine awp_seq ?_
    refine awp_region ?_
    refine aR 1 ?_
    refine aL api_Spot.enc qx ?_
    refine aR 1 ?_
    refine aE ?_
    refine awp_block ?_
    refine awp_to (st' := z303 qx vx2 vr9 vr1_5 0) (oT [(0, 9000), (1, 10000)] []) ?_
    refine bE hF fun x h26 hF => ?_
    rcases x with _ | _
    · refine awp_sub (awp_loop' (z303 qx vx2 vr9 vr1_5) z305 (z304 qx vx2 vr9 vr1_5) (by intro x; rcases x with x | x <;> exact fun h => nomatch h) h26 (z306 qx vx2 vr9 vr1_5)) ?_
      refine awp_region ?_
      refine aR 2 ?_
      refine aE ?_
      exact oO hF [] [] rfl
    · refine awp_sub (awp_loop' (z303 qx vx2 vr9 vr1_5) z305 (z304 qx vx2 vr9 vr1_5) (by intro x; rcases x with x | x <;> exact fun h => nomatch h) h26 (z306 qx vx2 vr9 vr1_5)) ?_
      exact oO hF [] [] rfl
  · refine awp_false (by kernel_rfl) h11 ?_
    refine awp_exit ?_
    exact oO hF [] [] rfl

def z290 (qx : List api_Spot) (r : Int) : TV × Mem := (.v (.one (.d (.int .i64 r))), ⟨[], []⟩)

theorem z291 {qx : List api_Spot} {r} (hF : z289 qx = some r) : Holds prog 22 [.v (.one (.d (.lst (List.map api_Spot.enc qx))))] ⟨[], []⟩ (Is (z290 qx r)) := by
  unfold z289 at hF
  refine holds_of_awp hΓ (fn := f22) (c := cB f22) (A := 0) (nx := 0) (by kernel_rfl) (by kernel_rfl) (by kernel_rfl) (by kernel_rfl) (by kernel_rfl) (by kernel_rfl) (lowc_of (by kernel_rfl)) ?_
  show Awp prog 0 90 (cB f22) _ _
  refine awp_seq ?_
  refine awp_region ?_
  refine aR 1 ?_
  refine aE ?_
  refine awp_seq ?_
  refine awp_block ?_
  refine awp_seq ?_
  refine awp_region ?_
  refine aR 1 ?_
  refine aL api_Spot.enc qx ?_
  refine aR 2 ?_
  refine aE ?_
  refine cE hF (fun h1 hF => ?_) fun h1 hF => ?_
  · refine awp_true (by kernel_rfl) h1 ?_
    refine awp_seq ?_
    refine awp_region ?_
    refine aR 1 ?_
    refine aE ?_
    refine awp_ret ?_
    exact oF hF [] []
  · refine awp_false (by kernel_rfl) h1 ?_
    refine awp_seq ?_
    refine awp_region ?_
    refine aR 1 ?_
    refine aL api_Spot.enc qx ?_
    refine aR 2 ?_
    refine aE ?_
    refine cE hF (fun h2 hF => ?_) fun h2 hF => ?_
    · refine awp_true (by kernel_rfl) h2 ?_
      refine awp_seq ?_
      refine awp_region ?_
      refine aR 1 ?_
      refine aE ?_
      refine awp_ret ?_
      exact oF hF [] []
    · refine awp_false (by kernel_rfl) h2 ?_
      refine awp_skip ?_
      refine awp_seq ?_
      refine awp_seq ?_
      refine awp_region ?_
      refine aR 1 ?_
      refine aL api_Spot.enc qx ?_
      refine aR 1 ?_
      refine aE ?_
      refine awp_block ?_
      refine awp_to (st' := z293 qx 0) (oT [] []) ?_
      refine bE hF fun x h10 hF => ?_
      rcases x with _ | vx1_1
      · refine awp_sub (awp_loop' (z293 qx) z295 (z294 qx) (by intro x; rcases x with x | x <;> exact fun h => nomatch h) h10 (z296 qx)) ?_
        refine awp_seq ?_
        refine awp_seq ?_
        refine awp_region ?_
        refine aR 1 ?_
        refine aL api_Spot.enc qx ?_
        refine aR 1 ?_
        refine aE ?_
        refine awp_block ?_
        refine awp_to (st' := z298 qx 0) (oT [] []) ?_
        refine bE hF fun x h27 hF => ?_
        rcases x with _ | _
        · refine awp_sub (awp_loop' (z298 qx) z300 (z299 qx) (by intro x; rcases x with x | x <;> exact fun h => nomatch h) h27 (z301 qx)) ?_
          refine awp_seq ?_
          refine awp_region ?_
          refine aR 1 ?_
          refine aE ?_
          refine awp_ret ?_
          exact oF hF [] []
        · refine awp_sub (awp_loop' (z298 qx) z300 (z299 qx) (by intro x; rcases x with x | x <;> exact fun h => nomatch h) h27 (z301 qx)) ?_
          exact oF hF [] []
      · refine awp_sub (awp_loop' (z293 qx) z295 (z294 qx) (by intro x; rcases x with x | x <;> exact fun h => nomatch h) h10 (z296 qx)) ?_
        exact oF hF [] []

/-! ### (*beaconfleet/fleetmake.Stream).RightFence -/
def z272 : (z245 × (List api_Spot)) → AEx
  | _ => .exit 2

def z271 (vx : Int) (vr5 : Int) : (z245 × (List api_Spot)) → St
  | (vs9, vx10) => Mem.st ⟨[(3, ⟨43, 2, List.map api_Spot.enc ([api_Spot.mk 0 0, api_Spot.mk 10 0, api_Spot.mk 10 10, api_Spot.mk 0 10] : List api_Spot)⟩), (4, ⟨43, 2, List.map api_Spot.enc vx10⟩)], [(0, [.d (.lst (List.map (encI .i64) vs9.L)), .d (.int .i64 vs9.at_)]), (1, [.d (.str ([] : List UInt8)), .nil]), (2, [.d (.str ([102] : List UInt8)), .own 3 none])]⟩ (tl [(0, .v (.one (.box 0 0))), (2, .v (.one (.box 1 0))), (3, .v (.one (.box 2 0))), (4, .v (.one (.own 4 none))), (12, .v (.one (.d (.int .i64 vx))))]) 5

def z270 (vx : Int) (vr5 : Int) : z245 × (List api_Spot) × Int → St
  | (vs8, vx8, vx9) => Mem.st ⟨[(3, ⟨43, 2, List.map api_Spot.enc ([api_Spot.mk 0 0, api_Spot.mk 10 0, api_Spot.mk 10 10, api_Spot.mk 0 10] : List api_Spot)⟩), (4, ⟨43, 2, List.map api_Spot.enc vx8⟩)], [(0, [.d (.lst (List.map (encI .i64) vs8.L)), .d (.int .i64 vs8.at_)]), (1, [.d (.str ([] : List UInt8)), .nil]), (2, [.d (.str ([102] : List UInt8)), .own 3 none])]⟩ (tl [(0, .v (.one (.box 0 0))), (2, .v (.one (.box 1 0))), (3, .v (.one (.box 2 0))), (4, .v (.one (.own 4 none))), (12, .v (.one (.d (.int .i64 vx)))), (15, .v (.one (.d (.int .i64 vr5)))), (16, .v (.one (.d (.int .i64 vx9))))]) 5

theorem z273 (vx : Int) (vr5 : Int) (s : z245 × (List api_Spot) × Int) (r : (z245 × (List api_Spot) × Int) ⊕ ((z245 × (List api_Spot)))) (hF : z269 vr5 s = some r) : Awp prog 1 82 (cL (cL (cR (cL (cR (cL (cL (cR (cR (cL (cL (cR (cL (cR (cR (cB f5)))))))))))))))) (Out 1 (kk z272) (SS (z270 vx vr5) (z271 vx vr5)) r) (z270 vx vr5 s) := by
  obtain ⟨vs8, vx8, vx9⟩ := s
  unfold z269 at hF
  refine awp_seq ?_
  refine awp_region ?_
  refine aR 1 ?_
  refine aE ?_
  refine awp_seq ?_
  refine cE hF (fun h3 hF => ?_) fun h3 hF => ?_
  · refine awp_true (by kernel_rfl) h3 ?_
    refine awp_skip ?_
    refine awp_seq ?_
    refine awp_block ?_
    refine bE hF fun vr2_3 h4 hF => ?_
    refine gE hF fun h5 hF => ?_
    refine awp_region ?_
    refine aR 2 ?_
    refine aC (z257 h4) [] [] [] ?_
    refine aR 1 ?_
    refine aX (x_app api_Spot.enc 4 h5) ?_
    refine aR 1 ?_
    refine aE ?_
    refine awp_region ?_
    refine aR 2 ?_
    refine aE ?_
    exact oO hF [(4, 5005)] [] rfl
  · refine awp_false (by kernel_rfl) h3 ?_
    refine awp_exit ?_
    exact oO hF [] [] rfl

def z282 : (z245 × (List api_Spot)) → AEx
  | _ => .exit 4

def z281 (vx : Int) (vx10_1 : List api_Spot) : (z245 × (List api_Spot)) → St
  | (vs11, vx13) => Mem.st ⟨[(3, ⟨43, 2, List.map api_Spot.enc ([api_Spot.mk 0 0, api_Spot.mk 10 0, api_Spot.mk 10 10, api_Spot.mk 0 10] : List api_Spot)⟩), (4, ⟨43, 2, List.map api_Spot.enc vx13⟩)], [(0, [.d (.lst (List.map (encI .i64) vs11.L)), .d (.int .i64 vs11.at_)]), (1, [.d (.str ([] : List UInt8)), .nil]), (2, [.d (.str ([102] : List UInt8)), .own 3 none])]⟩ (tl [(0, .v (.one (.box 0 0))), (2, .v (.one (.box 1 0))), (3, .v (.one (.box 2 0))), (4, .v (.one (.own 4 none))), (12, .v (.one (.d (.int .i64 vx))))]) 5

def z280 (vx : Int) (vx10_1 : List api_Spot) : z245 × (List api_Spot) × Int → St
  | (vs10, vx11, vx12) => Mem.st ⟨[(3, ⟨43, 2, List.map api_Spot.enc ([api_Spot.mk 0 0, api_Spot.mk 10 0, api_Spot.mk 10 10, api_Spot.mk 0 10] : List api_Spot)⟩), (4, ⟨43, 2, List.map api_Spot.enc vx11⟩)], [(0, [.d (.lst (List.map (encI .i64) vs10.L)), .d (.int .i64 vs10.at_)]), (1, [.d (.str ([] : List UInt8)), .nil]), (2, [.d (.str ([102] : List UInt8)), .own 3 none])]⟩ (tl [(0, .v (.one (.box 0 0))), (2, .v (.one (.box 1 0))), (3, .v (.one (.box 2 0))), (4, .v (.one (.own 4 none))), (12, .v (.one (.d (.int .i64 vx)))), (27, .v (.one (.d (.int .i64 (vx10_1.length : Int))))), (28, .v (.one (.d (.int .i64 vx12))))]) 5

theorem z283 (vx : Int) (vx10_1 : List api_Spot) (s : z245 × (List api_Spot) × Int) (r : (z245 × (List api_Spot) × Int) ⊕ ((z245 × (List api_Spot)))) (hF : z279 vx10_1 s = some r) : Awp prog 1 82 (cL (cL (cR (cL (cR (cL (cR (cR (cL (cL (cR (cR (cL (cL (cR (cL (cR (cR (cB f5))))))))))))))))))) (Out 1 (kk z282) (SS (z280 vx vx10_1) (z281 vx vx10_1)) r) (z280 vx vx10_1 s) := by
  obtain ⟨vs10, vx11, vx12⟩ := s
  unfold z279 at hF
  refine awp_seq ?_
  refine awp_region ?_
  refine aR 1 ?_
  refine aE ?_
  refine awp_seq ?_
  refine cE hF (fun h9 hF => ?_) fun h9 hF => ?_
  · refine awp_true (by kernel_rfl) h9 ?_
    refine awp_skip ?_
    refine awp_seq ?_
    refine awp_block ?_
    refine awp_seq ?_
    refine awp_region ?_
    refine aR 2 ?_
    refine aE ?_
    refine bE hF fun vy3 h10 hF => ?_
    refine bE hF fun vr8 h11 hF => ?_
    refine aDw [4] ?_
    refine dR 2 ?_
    refine dI api_Spot.enc 4 h10 rfl ?_
    refine dR 1 ?_
    refine dX (x_ldE api_Spot.enc h10) ?_
    refine dR 2 ?_
    refine dC (z254 h11) [(1, 9005)] [] [] ?_
    refine dR 1 ?_
    refine dI api_Spot.enc 4 h10 rfl ?_
    refine dR 1 ?_
    refine dW api_Spot.enc (api_Spot.mk (IntKind.wrap .i64 (vy3.X * vr8)) vy3.Y) h10 rfl ?_
    refine dE ?_
    refine awp_region ?_
    refine aR 2 ?_
    refine aE ?_
    exact oO hF [] [] rfl
  · refine awp_false (by kernel_rfl) h9 ?_
    refine awp_exit ?_
    exact oO hF [] [] rfl

def z277 : (z245 × (List api_Spot)) → AEx
  | _ => .normal

def z276 (vx : Int) (vs9_1 : z245) (vx10_1 : List api_Spot) : (z245 × (List api_Spot)) → St
  | (vs12, vx14) => Mem.st ⟨[(3, ⟨43, 2, List.map api_Spot.enc ([api_Spot.mk 0 0, api_Spot.mk 10 0, api_Spot.mk 10 10, api_Spot.mk 0 10] : List api_Spot)⟩), (4, ⟨43, 2, List.map api_Spot.enc vx14⟩)], [(0, [.d (.lst (List.map (encI .i64) vs12.L)), .d (.int .i64 vs12.at_)]), (1, [.d (.str ([] : List UInt8)), .nil]), (2, [.d (.str ([102] : List UInt8)), .own 3 none])]⟩ (tl [(0, .v (.one (.box 0 0))), (2, .v (.one (.box 1 0))), (3, .v (.one (.box 2 0))), (4, .v (.one (.own 4 none))), (12, .v (.one (.d (.int .i64 vx))))]) 5

def z275 (vx : Int) (vs9_1 : z245) (vx10_1 : List api_Spot) : St := Mem.st ⟨[(3, ⟨43, 2, List.map api_Spot.enc ([api_Spot.mk 0 0, api_Spot.mk 10 0, api_Spot.mk 10 10, api_Spot.mk 0 10] : List api_Spot)⟩), (4, ⟨43, 2, List.map api_Spot.enc vx10_1⟩)], [(0, [.d (.lst (List.map (encI .i64) vs9_1.L)), .d (.int .i64 vs9_1.at_)]), (1, [.d (.str ([] : List UInt8)), .nil]), (2, [.d (.str ([102] : List UInt8)), .own 3 none])]⟩ (tl [(0, .v (.one (.box 0 0))), (2, .v (.one (.box 1 0))), (3, .v (.one (.box 2 0))), (4, .v (.one (.own 4 none))), (12, .v (.one (.d (.int .i64 vx))))]) 5

theorem z278 (vx : Int) (vs9_1 : z245) (vx10_1 : List api_Spot) {r} (hF : z274 vs9_1 vx10_1 = some r) : Awp prog 1 82 (cL (cR (cR (cL (cL (cR (cR (cL (cL (cR (cL (cR (cR (cB f5)))))))))))))) (Out 1 z277 (z276 vx vs9_1 vx10_1) r) (z275 vx vs9_1 vx10_1) := by
  unfold z274 at hF
  refine awp_seq ?_
  refine bE hF fun vr6 h7 hF => ?_
  refine awp_region ?_
  refine aR 1 ?_
  refine aC (z248 h7) [] [] [] ?_
  refine aE ?_
  refine cE hF (fun h8 hF => ?_) fun h8 hF => ?_
  · refine awp_true (by kernel_rfl) h8 ?_
    refine awp_seq ?_
    refine awp_region ?_
    refine aR 1 ?_
    refine aL api_Spot.enc vx10_1 ?_
    refine aR 1 ?_
    refine aE ?_
    refine awp_block ?_
    refine awp_to (st' := z280 vx vx10_1 (z245.mk vs9_1.L (IntKind.wrap .i64 (vs9_1.at_ + 1)), vx10_1, 0)) (oT [] []) ?_
    refine bE hF fun x h12 hF => ?_
    obtain ⟨vs11_1, vx13_1⟩ := x
    refine awp_sub (awp_loop' (z280 vx vx10_1) z282 (z281 vx vx10_1) (by intro x; exact fun h => nomatch h) h12 (z283 vx vx10_1)) ?_
    exact oO hF [] [] rfl
  · refine awp_false (by kernel_rfl) h8 ?_
    refine awp_skip ?_
    exact oO hF [] [] rfl

def z267 : z245 ⊕ (z245 × (List api_Spot)) → AEx
  | .inl _ => .exit 0
  | .inr _ => .ret

def z266 : z245 ⊕ (z245 × (List api_Spot)) → St
  | .inl vs13 => Mem.st ⟨[(3, ⟨43, 2, List.map api_Spot.enc ([api_Spot.mk 0 0, api_Spot.mk 10 0, api_Spot.mk 10 10, api_Spot.mk 0 10] : List api_Spot)⟩)], [(0, [.d (.lst (List.map (encI .i64) vs13.L)), .d (.int .i64 vs13.at_)]), (1, [.d (.str ([] : List UInt8)), .nil]), (2, [.d (.str ([102] : List UInt8)), .own 3 none])]⟩ (tl [(0, .v (.one (.box 0 0))), (2, .v (.one (.box 1 0))), (3, .v (.one (.box 2 0)))]) 4
  | .inr (vs14, vx15) => Mem.st ⟨[(2, ⟨43, 2, List.map api_Spot.enc vx15⟩)], [(0, [.d (.lst (List.map (encI .i64) vs14.L)), .d (.int .i64 vs14.at_)]), (1, [.d (.str ([102] : List UInt8)), .own 2 none])]⟩ (tl [(2, .v (.one (.box 1 0)))]) 3

def z265 : z245 × Int → St
  | (vs, vx) => Mem.st ⟨[(3, ⟨43, 2, List.map api_Spot.enc ([api_Spot.mk 0 0, api_Spot.mk 10 0, api_Spot.mk 10 10, api_Spot.mk 0 10] : List api_Spot)⟩)], [(0, [.d (.lst (List.map (encI .i64) vs.L)), .d (.int .i64 vs.at_)]), (1, [.d (.str ([] : List UInt8)), .nil]), (2, [.d (.str ([102] : List UInt8)), .own 3 none])]⟩ (tl [(0, .v (.one (.box 0 0))), (2, .v (.one (.box 1 0))), (3, .v (.one (.box 2 0))), (12, .v (.one (.d (.int .i64 vx))))]) 4

theorem z268 (s : z245 × Int) (r : (z245 × Int) ⊕ (z245 ⊕ (z245 × (List api_Spot)))) (hF : z264  s = some r) : Awp prog 1 82 (cL (cL (cR (cL (cR (cR (cB f5))))))) (Out 1 (kk z267) (SS (z265 ) (z266 )) r) (z265  s) := by
  obtain ⟨vs, vx⟩ := s
  unfold z264 at hF
  refine awp_seq ?_
  refine awp_region ?_
  refine aR 1 ?_
  refine aE ?_
  refine awp_seq ?_
  refine cE hF (fun h1 hF => ?_) fun h1 hF => ?_
  · refine awp_true (by kernel_rfl) h1 ?_
    refine awp_skip ?_
    refine awp_seq ?_
    refine awp_block ?_
    refine awp_seq ?_
    refine awp_region ?_
    refine aR 1 ?_
    refine aE ?_
    refine awp_seq ?_
    refine awp_seq ?_
    refine bE hF fun x h2 hF => ?_
    obtain ⟨vs7, vr5⟩ := x
    refine awp_region ?_
    refine aR 1 ?_
    refine aC (z260 h2) [] [] [] ?_
    refine aR 1 ?_
    refine aE ?_
    refine awp_block ?_
    refine awp_to (st' := z270 vx vr5 (vs7, [], 0)) (oT [] [4]) ?_
    refine bE hF fun x h6 hF => ?_
    obtain ⟨vs9_1, vx10_1⟩ := x
    refine awp_sub (awp_loop' (z270 vx vr5) z272 (z271 vx vr5) (by intro x; exact fun h => nomatch h) h6 (z273 vx vr5)) ?_
    refine awp_seq ?_
    refine awp_to (st' := z275 vx vs9_1 vx10_1) (oT [] []) ?_
    refine bE hF fun x h13 hF => ?_
    obtain ⟨vs12_1, vx14_1⟩ := x
    refine awp_sub (z278 vx vs9_1 vx10_1 h13) ?_
    refine awp_seq ?_
    refine bE hF fun vr16_1 h14 hF => ?_
    refine awp_region ?_
    refine aR 1 ?_
    refine aC (z291 h14) [] [] [4] ?_
    refine aR 1 ?_
    refine aE ?_
    refine cE hF (fun h15 hF => ?_) fun h15 hF => ?_
    · refine awp_true (by kernel_rfl) h15 ?_
      refine awp_seq ?_
      refine awp_region ?_
      refine aR 3 ?_
      refine aE ?_
      refine awp_seq ?_
      refine awp_region ?_
      refine aR 2 ?_
      refine aE ?_
      refine awp_ret ?_
      exact oO hF [(2, 4)] [] rfl
    · refine awp_false (by kernel_rfl) h15 ?_
      refine awp_skip ?_
      refine awp_region ?_
      refine aR 2 ?_
      refine aE ?_
      exact oO hF [] [] rfl
  · refine awp_false (by kernel_rfl) h1 ?_
    refine awp_exit ?_
    exact oO hF [] [] rfl

def z287 : (List api_Spot) → AEx
  | _ => .normal

def z286 (vs13_1 : z245) : (List api_Spot) → St
  | vx16 => Mem.st ⟨[(3, ⟨43, 2, List.map api_Spot.enc vx16⟩)], [(0, [.d (.lst (List.map (encI .i64) vs13_1.L)), .d (.int .i64 (IntKind.wrap .i64 (vs13_1.at_ + 1)))]), (1, [.d (.str ([] : List UInt8)), .nil]), (2, [.d (.str ([102] : List UInt8)), .own 3 none])]⟩ (tl [(2, .v (.one (.box 1 0))), (3, .v (.one (.box 2 0)))]) 4

def z285 (vs13_1 : z245) : St := Mem.st ⟨[(3, ⟨43, 2, List.map api_Spot.enc ([api_Spot.mk 0 0, api_Spot.mk 10 0, api_Spot.mk 10 10, api_Spot.mk 0 10] : List api_Spot)⟩)], [(0, [.d (.lst (List.map (encI .i64) vs13_1.L)), .d (.int .i64 vs13_1.at_)]), (1, [.d (.str ([] : List UInt8)), .nil]), (2, [.d (.str ([102] : List UInt8)), .own 3 none])]⟩ (tl [(0, .v (.one (.box 0 0))), (2, .v (.one (.box 1 0))), (3, .v (.one (.box 2 0)))]) 4

theorem z288 (vs13_1 : z245) {r} (hF : z284 vs13_1 = some r) : Awp prog 1 82 (cL (cR (cR (cR (cB f5))))) (Out 1 z287 (z286 vs13_1) r) (z285 vs13_1) := by
  unfold z284 at hF
  refine awp_seq ?_
  refine bE hF fun vr3_1 h17 hF => ?_
  refine awp_region ?_
  refine aR 1 ?_
  refine aC (z251 h17) [] [] [] ?_
  refine aE ?_
  refine awp_block ?_
  refine awp_seq ?_
  refine awp_region ?_
  refine aR 2 ?_
  refine aE ?_
  refine cE hF (fun h18 hF => ?_) fun h18 hF => ?_
  · refine awp_true (by kernel_rfl) h18 ?_
    refine awp_region ?_
    refine aR 8 ?_
    refine aE ?_
    exact oO hF [(3, 9004)] [] rfl
  · refine awp_false (by kernel_rfl) h18 ?_
    refine awp_seq ?_
    refine awp_region ?_
    refine aR 2 ?_
    refine aE ?_
    refine cE hF (fun h19 hF => ?_) fun h19 hF => ?_
    · refine awp_true (by kernel_rfl) h19 ?_
      refine awp_region ?_
      refine aR 7 ?_
      refine aE ?_
      exact oO hF [(3, 10004)] [] rfl
    · refine awp_false (by kernel_rfl) h19 ?_
      refine awp_seq ?_
      refine awp_region ?_
      refine aR 2 ?_
      refine aE ?_
      refine cE hF (fun h20 hF => ?_) fun h20 hF => ?_
      · refine awp_true (by kernel_rfl) h20 ?_
        refine awp_region ?_
        refine aR 11 ?_
        refine aE ?_
        exact oO hF [(3, 16004)] [] rfl
      · refine awp_false (by kernel_rfl) h20 ?_
        refine awp_skip ?_
        exact oO hF [] [] rfl

def z262 (qx : z245) (r : z245 × (List api_Spot)) : TV × Mem := (.v (.agg [.d (.str ([102] : List UInt8)), .own 1 none]), ⟨[(1, ⟨43, 2, List.map api_Spot.enc r.2⟩)], [(0, [.d (.lst (List.map (encI .i64) r.1.L)), .d (.int .i64 r.1.at_)])]⟩)

theorem z263 {qx : z245} {r} (hF : z261 qx = some r) : Holds prog 5 [.v (.one (.box 0 0))] ⟨[], [(0, [.d (.lst (List.map (encI .i64) qx.L)), .d (.int .i64 qx.at_)])]⟩ (Is (z262 qx r)) := by
  unfold z261 at hF
  refine holds_of_awp hΓ (fn := f5) (c := cB f5) (A := 1) (nx := 1) (by kernel_rfl) (by kernel_rfl) (by kernel_rfl) (by kernel_rfl) (by kernel_rfl) (by kernel_rfl) (lowc_of (by kernel_rfl)) ?_
  show Awp prog 1 82 (cB f5) _ _
  refine awp_seq ?_
  refine awp_region ?_
  refine aR 1 ?_
  refine aE ?_
  refine awp_seq ?_
  refine awp_region ?_
  refine aR 8 ?_
  refine aE ?_
  refine awp_seq ?_
  refine awp_seq ?_
  refine awp_region ?_
  refine aR 1 ?_
  refine aE ?_
  refine awp_block ?_
  refine awp_to (st' := z265  (qx, 0)) (oT [(2, 7001), (3, 5001)] []) ?_
  refine bE hF fun x h16 hF => ?_
  rcases x with vs13_1 | ⟨vs14_1, vx15_1⟩
  · refine awp_sub (awp_loop' (z265 ) z267 (z266 ) (by intro x; rcases x with x | x <;> exact fun h => nomatch h) h16 (z268 )) ?_
    refine awp_seq ?_
    refine awp_to (st' := z285 vs13_1) (oT [] []) ?_
    refine bE hF fun vx16_1 h21 hF => ?_
    refine awp_sub (z288 vs13_1 h21) ?_
    refine awp_seq ?_
    refine awp_region ?_
    refine aR 2 ?_
    refine aE ?_
    refine awp_ret ?_
    exact oF hF [(1, 3)] []
  · refine awp_sub (awp_loop' (z265 ) z267 (z266 ) (by intro x; rcases x with x | x <;> exact fun h => nomatch h) h16 (z268 )) ?_
    exact oF hF [(1, 2)] []

/-! ### beaconfleet/base.Key -/
def z31 : Bool → AEx
  | _ => .normal

def z30 (qs : List UInt8) : Bool → St
  | vx => Mem.st ⟨[], []⟩ (tl [(0, .v (.one (.d (.str qs)))), (21, .v (.one (.d (.bool vx))))]) 0

def z29 (qs : List UInt8) : St := Mem.st ⟨[], []⟩ (tl [(0, .v (.one (.d (.str qs))))]) 0

theorem z32 (qs : List UInt8) {r} (hF : z28 qs = some r) : Awp prog 0 54 (cL (cL (cR (cB f48)))) (Out 0 z31 (z30 qs) r) (z29 qs) := by
  unfold z28 at hF
  refine cE hF (fun h1 hF => ?_) fun h1 hF => ?_
  · refine awp_region ?_
    refine aR 1 ?_
    refine aB h1 ?_
    refine aR 15 ?_
    refine aE ?_
    exact oO hF [] [] rfl
  · refine cE hF (fun h2 hF => ?_) fun h2 hF => ?_
    · refine awp_region ?_
      refine aR 1 ?_
      refine aB h1 ?_
      refine aR 3 ?_
      refine aB h2 ?_
      refine aR 11 ?_
      refine aE ?_
      exact oO hF [] [] rfl
    · refine bE hF fun vc h3 hF => ?_
      refine cE hF (fun h4 hF => ?_) fun h4 hF => ?_
      · refine awp_region ?_
        refine aR 1 ?_
        refine aB h1 ?_
        refine aR 3 ?_
        refine aB h2 ?_
        refine aR 3 ?_
        refine aX (x_idxS h3) ?_
        refine aB h4 ?_
        refine aR 6 ?_
        refine aE ?_
        exact oO hF [] [] rfl
      · refine awp_region ?_
        refine aR 1 ?_
        refine aB h1 ?_
        refine aR 3 ?_
        refine aB h2 ?_
        refine aR 3 ?_
        refine aX (x_idxS h3) ?_
        refine aB h4 ?_
        refine aR 3 ?_
        refine aX (x_idxS h3) ?_
        refine aR 2 ?_
        refine aE ?_
        exact oO hF [] [] rfl

def z42 : Bool → AEx
  | _ => .normal

def z41 (qs : List UInt8) (vx2 : Int) (vc2 : UInt8) : Bool → St
  | vx4 => Mem.st ⟨[], []⟩ (tl [(0, .v (.one (.d (.str qs)))), (23, .v (.one (.d (.int .i64 (qs.length : Int))))), (24, .v (.one (.d (.int .i64 vx2)))), (52, .v (.one (.d (.bool vx4))))]) 0

def z40 (qs : List UInt8) (vx2 : Int) (vc2 : UInt8) : St := Mem.st ⟨[], []⟩ (tl [(0, .v (.one (.d (.str qs)))), (4, .v (.one (.d (.int .u8 (vc2.toNat : Int))))), (23, .v (.one (.d (.int .i64 (qs.length : Int))))), (24, .v (.one (.d (.int .i64 vx2))))]) 0

theorem z43 (qs : List UInt8) (vx2 : Int) (vc2 : UInt8) {r} (hF : z39 vc2 = some r) : Awp prog 0 54 (cL (cR (cR (cL (cL (cR (cR (cL (cL (cR (cL (cR (cR (cB f48)))))))))))))) (Out 0 z42 (z41 qs vx2 vc2) r) (z40 qs vx2 vc2) := by
  unfold z39 at hF
  refine cE hF (fun h9 hF => ?_) fun h9 hF => ?_
  · refine cE hF (fun h10 hF => ?_) fun h10 hF => ?_
    · refine awp_region ?_
      refine aR 1 ?_
      refine aB h9 ?_
      refine aR 2 ?_
      refine aB h10 ?_
      refine aR 18 ?_
      refine aE ?_
      exact oO hF [] [] rfl
    · refine cE hF (fun h11 hF => ?_) fun h11 hF => ?_
      · refine cE hF (fun h12 hF => ?_) fun h12 hF => ?_
        · refine awp_region ?_
          refine aR 1 ?_
          refine aB h9 ?_
          refine aR 2 ?_
          refine aB h10 ?_
          refine aR 3 ?_
          refine aB h11 ?_
          refine aR 2 ?_
          refine aB h12 ?_
          refine aR 11 ?_
          refine aE ?_
          exact oO hF [] [] rfl
        · refine cE hF (fun h13 hF => ?_) fun h13 hF => ?_
          · refine awp_region ?_
            refine aR 1 ?_
            refine aB h9 ?_
            refine aR 2 ?_
            refine aB h10 ?_
            refine aR 3 ?_
            refine aB h11 ?_
            refine aR 2 ?_
            refine aB h12 ?_
            refine aR 4 ?_
            refine aB h13 ?_
            refine aR 6 ?_
            refine aE ?_
            exact oO hF [] [] rfl
          · refine awp_region ?_
            refine aR 1 ?_
            refine aB h9 ?_
            refine aR 2 ?_
            refine aB h10 ?_
            refine aR 3 ?_
            refine aB h11 ?_
            refine aR 2 ?_
            refine aB h12 ?_
            refine aR 4 ?_
            refine aB h13 ?_
            refine aR 6 ?_
            refine aE ?_
            exact oO hF [] [] rfl
      · refine cE hF (fun h14 hF => ?_) fun h14 hF => ?_
        · refine awp_region ?_
          refine aR 1 ?_
          refine aB h9 ?_
          refine aR 2 ?_
          refine aB h10 ?_
          refine aR 3 ?_
          refine aB h11 ?_
          refine aR 7 ?_
          refine aB h14 ?_
          refine aR 6 ?_
          refine aE ?_
          exact oO hF [] [] rfl
        · refine awp_region ?_
          refine aR 1 ?_
          refine aB h9 ?_
          refine aR 2 ?_
          refine aB h10 ?_
          refine aR 3 ?_
          refine aB h11 ?_
          refine aR 7 ?_
          refine aB h14 ?_
          refine aR 6 ?_
          refine aE ?_
          exact oO hF [] [] rfl
  · refine cE hF (fun h15 hF => ?_) fun h15 hF => ?_
    · refine cE hF (fun h16 hF => ?_) fun h16 hF => ?_
      · refine awp_region ?_
        refine aR 1 ?_
        refine aB h9 ?_
        refine aR 6 ?_
        refine aB h15 ?_
        refine aR 2 ?_
        refine aB h16 ?_
        refine aR 11 ?_
        refine aE ?_
        exact oO hF [] [] rfl
      · refine cE hF (fun h17 hF => ?_) fun h17 hF => ?_
        · refine awp_region ?_
          refine aR 1 ?_
          refine aB h9 ?_
          refine aR 6 ?_
          refine aB h15 ?_
          refine aR 2 ?_
          refine aB h16 ?_
          refine aR 4 ?_
          refine aB h17 ?_
          refine aR 6 ?_
          refine aE ?_
          exact oO hF [] [] rfl
        · refine awp_region ?_
          refine aR 1 ?_
          refine aB h9 ?_
          refine aR 6 ?_
          refine aB h15 ?_
          refine aR 2 ?_
          refine aB h16 ?_
          refine aR 4 ?_
          refine aB h17 ?_
          refine aR 6 ?_
          refine aE ?_
          exact oO hF [] [] rfl
    · refine cE hF (fun h18 hF => ?_) fun h18 hF => ?_
      · refine awp_region ?_
        refine aR 1 ?_
        refine aB h9 ?_
        refine aR 6 ?_
        refine aB h15 ?_
        refine aR 7 ?_
        refine aB h18 ?_
        refine aR 6 ?_
        refine aE ?_
        exact oO hF [] [] rfl
      · refine awp_region ?_
        refine aR 1 ?_
        refine aB h9 ?_
        refine aR 6 ?_
        refine aB h15 ?_
        refine aR 7 ?_
        refine aB h18 ?_
        refine aR 6 ?_
        refine aE ?_
        exact oO hF [] [] rfl

def z36 : Unit ⊕ Unit → AEx
  | .inl _ => .exit 0
  | .inr _ => .ret

def z35 (qs : List UInt8) : Unit ⊕ Unit → St
  | .inl _ => Mem.st ⟨[], []⟩ (tl []) 0
  | .inr _ => Mem.st ⟨[], []⟩ (tl [(2, .v (.one (.d (.bool false))))]) 0

def z34 (qs : List UInt8) : Int → St
  | vx2 => Mem.st ⟨[], []⟩ (tl [(0, .v (.one (.d (.str qs)))), (23, .v (.one (.d (.int .i64 (qs.length : Int))))), (24, .v (.one (.d (.int .i64 vx2))))]) 0

theorem z38 (qs : List UInt8) (vx2 : Int) (r : (Int) ⊕ (Unit ⊕ Unit)) (hF : z33 qs vx2 = some r) : Awp prog 0 54 (cL (cL (cR (cL (cR (cR (cB f48))))))) (Out 0 (kk z36) (SS (z34 qs) (z35 qs)) r) (z34 qs vx2) := by
  unfold z33 at hF
  refine awp_seq ?_
  refine awp_region ?_
  refine aR 1 ?_
  refine aE ?_
  refine awp_seq ?_
  refine cE hF (fun h7 hF => ?_) fun h7 hF => ?_
  · refine awp_true (by kernel_rfl) h7 ?_
    refine awp_skip ?_
    refine awp_seq ?_
    refine awp_block ?_
    refine awp_seq ?_
    refine awp_region ?_
    refine aR 2 ?_
    refine aE ?_
    refine awp_seq ?_
    refine bE hF fun vc2 h8 hF => ?_
    refine awp_region ?_
    refine aR 2 ?_
    refine aX (x_idxS h8) ?_
    refine aR 1 ?_
    refine aE ?_
    refine awp_seq ?_
    refine awp_to (st' := z40 qs vx2 vc2) (oT [] []) ?_
    refine bE hF fun vx4_1 h19 hF => ?_
    refine awp_sub (z43 qs vx2 vc2 h19) ?_
    refine cE hF (fun h20 hF => ?_) fun h20 hF => ?_
    · refine awp_true (by kernel_rfl) h20 ?_
      refine awp_seq ?_
      refine awp_region ?_
      refine aR 1 ?_
      refine aE ?_
      refine awp_ret ?_
      exact oO hF [] [] rfl
    · refine awp_false (by kernel_rfl) h20 ?_
      refine awp_skip ?_
      refine awp_region ?_
      refine aR 2 ?_
      refine aE ?_
      exact oO hF [] [] rfl
  · refine awp_false (by kernel_rfl) h7 ?_
    refine awp_exit ?_
    exact oO hF [] [] rfl

def z26 (qs : List UInt8) (r : Bool) : TV × Mem := (.v (.one (.d (.bool r))), ⟨[], []⟩)

theorem z27 {qs : List UInt8} {r} (hF : base_Key qs = some r) : Holds prog 48 [.v (.one (.d (.str qs)))] ⟨[], []⟩ (Is (z26 qs r)) := by
  unfold base_Key at hF
  refine holds_of_awp hΓ (fn := f48) (c := cB f48) (A := 0) (nx := 0) (by kernel_rfl) (by kernel_rfl) (by kernel_rfl) (by kernel_rfl) (by kernel_rfl) (by kernel_rfl) (lowc_of (by kernel_rfl)) ?_
  show Awp prog 0 54 (cB f48) _ _
  refine awp_seq ?_
  refine awp_region ?_
  refine aR 1 ?_
  refine aE ?_
  refine awp_seq ?_
  refine awp_seq ?_
  refine awp_to (st' := z29 qs) (oT [] []) ?_
  refine bE hF fun vx1 h5 hF => ?_
  refine awp_sub (z32 qs h5) ?_
  refine cE hF (fun h6 hF => ?_) fun h6 hF => ?_
  · refine awp_true (by kernel_rfl) h6 ?_
    refine awp_seq ?_
    refine awp_region ?_
    refine aR 1 ?_
    refine aE ?_
    refine awp_ret ?_
    exact oF hF [] []
  · refine awp_false (by kernel_rfl) h6 ?_
    refine awp_skip ?_
    refine awp_seq ?_
    refine awp_seq ?_
    refine awp_region ?_
    refine aR 3 ?_
    refine aE ?_
    refine awp_block ?_
    refine awp_to (st' := z34 qs 0) (oT [] []) ?_
    refine bE hF fun x h21 hF => ?_
    rcases x with _ | _
    · refine awp_sub (awp_loop' (z34 qs) z36 (z35 qs) (by intro x; rcases x with x | x <;> exact fun h => nomatch h) h21 (z38 qs)) ?_
      refine awp_seq ?_
      refine awp_region ?_
      refine aR 1 ?_
      refine aE ?_
      refine awp_ret ?_
      exact oF hF [] []
    · refine awp_sub (awp_loop' (z34 qs) z36 (z35 qs) (by intro x; rcases x with x | x <;> exact fun h => nomatch h) h21 (z38 qs)) ?_
      exact oF hF [] []

/-! ### beaconfleet/base.Out -/
def z81 : Bool → AEx
  | _ => .normal

def z80 (qn : Int) (qlow : Int) (qhigh : Int) : Bool → St
  | vx => Mem.st ⟨[], []⟩ (tl [(6, .v (.one (.d (.bool vx))))]) 0

def z79 (qn : Int) (qlow : Int) (qhigh : Int) : St := Mem.st ⟨[], []⟩ (tl [(0, .v (.one (.d (.int .i64 qn)))), (1, .v (.one (.d (.int .i64 qlow)))), (2, .v (.one (.d (.int .i64 qhigh))))]) 0

theorem z82 (qn : Int) (qlow : Int) (qhigh : Int) {r} (hF : z78 qn qlow qhigh = some r) : Awp prog 0 15 (cL (cR (cB f27))) (Out 0 z81 (z80 qn qlow qhigh) r) (z79 qn qlow qhigh) := by
  unfold z78 at hF
  refine cE hF (fun h1 hF => ?_) fun h1 hF => ?_
  · refine awp_region ?_
    refine aR 2 ?_
    refine aB h1 ?_
    refine aR 6 ?_
    refine aE ?_
    exact oO hF [] [] rfl
  · refine awp_region ?_
    refine aR 2 ?_
    refine aB h1 ?_
    refine aR 6 ?_
    refine aE ?_
    exact oO hF [] [] rfl

def z76 (qn : Int) (qlow : Int) (qhigh : Int) (r : Bool) : TV × Mem := (.v (.one (.d (.bool r))), ⟨[], []⟩)

theorem z77 {qn : Int} {qlow : Int} {qhigh : Int} {r} (hF : base_Out qn qlow qhigh = some r) : Holds prog 27 [.v (.one (.d (.int .i64 qn))), .v (.one (.d (.int .i64 qlow))), .v (.one (.d (.int .i64 qhigh)))] ⟨[], []⟩ (Is (z76 qn qlow qhigh r)) := by
  unfold base_Out at hF
  refine holds_of_awp hΓ (fn := f27) (c := cB f27) (A := 0) (nx := 0) (by kernel_rfl) (by kernel_rfl) (by kernel_rfl) (by kernel_rfl) (by kernel_rfl) (by kernel_rfl) (lowc_of (by kernel_rfl)) ?_
  show Awp prog 0 15 (cB f27) _ _
  refine awp_seq ?_
  refine awp_region ?_
  refine aR 1 ?_
  refine aE ?_
  refine awp_seq ?_
  refine awp_to (st' := z79 qn qlow qhigh) (oT [] []) ?_
  refine bE hF fun vx1 h2 hF => ?_
  refine awp_sub (z82 qn qlow qhigh h2) ?_
  refine awp_ret ?_
  exact oF hF [] []

/-! ### beaconfleet/place.isSpot -/
def z511 : Bool → AEx
  | _ => .normal

def z510 (qs : api_Spot) : Bool → St
  | vx => Mem.st ⟨[], []⟩ (tl [(2, .v (.one (.d (.bool vx))))]) 0

def z509 (qs : api_Spot) : St := Mem.st ⟨[], [(0, [.d (.int .i64 qs.X), .d (.int .i64 qs.Y)])]⟩ (tl [(1, .v (.one (.box 0 0)))]) 1

theorem z512 (qs : api_Spot) {r} (hF : z508 qs = some r) : Awp prog 0 13 (cL (cR (cB f34))) (Out 0 z511 (z510 qs) r) (z509 qs) := by
  unfold z508 at hF
  refine bE hF fun vr h1 hF => ?_
  refine cE hF (fun h2 hF => ?_) fun h2 hF => ?_
  · refine bE hF fun vr1 h3 hF => ?_
    refine awp_region ?_
    refine aR 2 ?_
    refine aC (z77 h1) [] [] [] ?_
    refine aB h2 ?_
    refine aR 3 ?_
    refine aC (z77 h3) [] [] [] ?_
    refine aR 3 ?_
    refine aE ?_
    exact oO hF [] [] rfl
  · refine awp_region ?_
    refine aR 2 ?_
    refine aC (z77 h1) [] [] [] ?_
    refine aB h2 ?_
    refine aR 7 ?_
    refine aE ?_
    exact oO hF [] [] rfl

def z506 (qs : api_Spot) (r : Bool) : TV × Mem := (.v (.one (.d (.bool r))), ⟨[], []⟩)

theorem z507 {qs : api_Spot} {r} (hF : z505 qs = some r) : Holds prog 34 [.v (.agg [.d (.int .i64 qs.X), .d (.int .i64 qs.Y)])] ⟨[], []⟩ (Is (z506 qs r)) := by
  unfold z505 at hF
  refine holds_of_awp hΓ (fn := f34) (c := cB f34) (A := 0) (nx := 0) (by kernel_rfl) (by kernel_rfl) (by kernel_rfl) (by kernel_rfl) (by kernel_rfl) (by kernel_rfl) (lowc_of (by kernel_rfl)) ?_
  show Awp prog 0 13 (cB f34) _ _
  refine awp_seq ?_
  refine awp_region ?_
  refine aR 2 ?_
  refine aE ?_
  refine awp_seq ?_
  refine awp_to (st' := z509 qs) (oT [] []) ?_
  refine bE hF fun vx1 h4 hF => ?_
  refine awp_sub (z512 qs h4) ?_
  refine awp_ret ?_
  exact oF hF [] []

/-! ### beaconfleet/place.side -/
def z534 (qa : api_Spot) (qb : api_Spot) (qs : api_Spot) (r : Unit) : TV × Mem := (.v (.one (.d (.int .i64 (IntKind.wrap .i64 ((IntKind.wrap .i64 ((IntKind.wrap .i64 (qb.X - qa.X)) * (IntKind.wrap .i64 (qs.Y - qa.Y)))) - (IntKind.wrap .i64 ((IntKind.wrap .i64 (qb.Y - qa.Y)) * (IntKind.wrap .i64 (qs.X - qa.X))))))))), ⟨[], []⟩)

theorem z535 {qa : api_Spot} {qb : api_Spot} {qs : api_Spot} {r} (hF : z533 qa qb qs = some r) : Holds prog 69 [.v (.agg [.d (.int .i64 qa.X), .d (.int .i64 qa.Y)]), .v (.agg [.d (.int .i64 qb.X), .d (.int .i64 qb.Y)]), .v (.agg [.d (.int .i64 qs.X), .d (.int .i64 qs.Y)])] ⟨[], []⟩ (Is (z534 qa qb qs r)) := by
  unfold z533 at hF
  refine holds_of_awp hΓ (fn := f69) (c := cB f69) (A := 0) (nx := 0) (by kernel_rfl) (by kernel_rfl) (by kernel_rfl) (by kernel_rfl) (by kernel_rfl) (by kernel_rfl) (lowc_of (by kernel_rfl)) ?_
  show Awp prog 0 30 (cB f69) _ _
  refine awp_seq ?_
  refine awp_region ?_
  refine aR 4 ?_
  refine aE ?_
  refine awp_seq ?_
  refine awp_region ?_
  refine aR 24 ?_
  refine aE ?_
  refine awp_ret ?_
  exact oF hF [] []

/-! ### beaconfleet/place.on -/
def z531 : Bool → AEx
  | _ => .normal

def z530 (qa : api_Spot) (qb : api_Spot) (qs : api_Spot) : Bool → St
  | vx => Mem.st ⟨[], []⟩ (tl [(6, .v (.one (.d (.bool vx))))]) 0

def z529 (qa : api_Spot) (qb : api_Spot) (qs : api_Spot) : St := Mem.st ⟨[], [(0, [.d (.int .i64 qa.X), .d (.int .i64 qa.Y)]), (1, [.d (.int .i64 qb.X), .d (.int .i64 qb.Y)]), (2, [.d (.int .i64 qs.X), .d (.int .i64 qs.Y)])]⟩ (tl [(3, .v (.one (.box 0 0))), (4, .v (.one (.box 1 0))), (5, .v (.one (.box 2 0)))]) 3

theorem z532 (qa : api_Spot) (qb : api_Spot) (qs : api_Spot) {r} (hF : z528 qa qb qs = some r) : Awp prog 0 52 (cL (cR (cB f67))) (Out 0 z531 (z530 qa qb qs) r) (z529 qa qb qs) := by
  unfold z528 at hF
  refine bE hF fun _ h1 hF => ?_
  refine cE hF (fun h2 hF => ?_) fun h2 hF => ?_
  · refine cE hF (fun h3 hF => ?_) fun h3 hF => ?_
    · refine cE hF (fun h4 hF => ?_) fun h4 hF => ?_
      · refine cE hF (fun h5 hF => ?_) fun h5 hF => ?_
        · refine awp_region ?_
          refine aR 3 ?_
          refine aC (z535 h1) [] [] [] ?_
          refine aB h2 ?_
          refine aR 8 ?_
          refine aB h3 ?_
          refine aR 9 ?_
          refine aB h4 ?_
          refine aR 9 ?_
          refine aB h5 ?_
          refine aR 12 ?_
          refine aE ?_
          exact oO hF [] [] rfl
        · refine awp_region ?_
          refine aR 3 ?_
          refine aC (z535 h1) [] [] [] ?_
          refine aB h2 ?_
          refine aR 8 ?_
          refine aB h3 ?_
          refine aR 9 ?_
          refine aB h4 ?_
          refine aR 9 ?_
          refine aB h5 ?_
          refine aR 12 ?_
          refine aE ?_
          exact oO hF [] [] rfl
      · refine awp_region ?_
        refine aR 3 ?_
        refine aC (z535 h1) [] [] [] ?_
        refine aB h2 ?_
        refine aR 8 ?_
        refine aB h3 ?_
        refine aR 9 ?_
        refine aB h4 ?_
        refine aR 22 ?_
        refine aE ?_
        exact oO hF [] [] rfl
    · refine awp_region ?_
      refine aR 3 ?_
      refine aC (z535 h1) [] [] [] ?_
      refine aB h2 ?_
      refine aR 8 ?_
      refine aB h3 ?_
      refine aR 32 ?_
      refine aE ?_
      exact oO hF [] [] rfl
  · refine awp_region ?_
    refine aR 3 ?_
    refine aC (z535 h1) [] [] [] ?_
    refine aB h2 ?_
    refine aR 41 ?_
    refine aE ?_
    exact oO hF [] [] rfl

def z526 (qa : api_Spot) (qb : api_Spot) (qs : api_Spot) (r : Bool) : TV × Mem := (.v (.one (.d (.bool r))), ⟨[], []⟩)

theorem z527 {qa : api_Spot} {qb : api_Spot} {qs : api_Spot} {r} (hF : place_on qa qb qs = some r) : Holds prog 67 [.v (.agg [.d (.int .i64 qa.X), .d (.int .i64 qa.Y)]), .v (.agg [.d (.int .i64 qb.X), .d (.int .i64 qb.Y)]), .v (.agg [.d (.int .i64 qs.X), .d (.int .i64 qs.Y)])] ⟨[], []⟩ (Is (z526 qa qb qs r)) := by
  unfold place_on at hF
  refine holds_of_awp hΓ (fn := f67) (c := cB f67) (A := 0) (nx := 0) (by kernel_rfl) (by kernel_rfl) (by kernel_rfl) (by kernel_rfl) (by kernel_rfl) (by kernel_rfl) (lowc_of (by kernel_rfl)) ?_
  show Awp prog 0 52 (cB f67) _ _
  refine awp_seq ?_
  refine awp_region ?_
  refine aR 4 ?_
  refine aE ?_
  refine awp_seq ?_
  refine awp_to (st' := z529 qa qb qs) (oT [(1, 1000), (2, 2000)] []) ?_
  refine bE hF fun vx1 h6 hF => ?_
  refine awp_sub (z532 qa qb qs h6) ?_
  refine awp_ret ?_
  exact oF hF [] []

/-! ### cmp.isNaN[int] -/
def z162 (qx : Int) (r : Unit) : TV × Mem := (.v (.one (.d (.bool (!decide (qx = qx))))), ⟨[], []⟩)

theorem z163 {qx : Int} {r} (hF : z161 qx = some r) : Holds prog 113 [.v (.one (.d (.int .i64 qx)))] ⟨[], []⟩ (Is (z162 qx r)) := by
  unfold z161 at hF
  refine holds_of_awp hΓ (fn := f113) (c := cB f113) (A := 0) (nx := 0) (by kernel_rfl) (by kernel_rfl) (by kernel_rfl) (by kernel_rfl) (by kernel_rfl) (by kernel_rfl) (lowc_of (by kernel_rfl)) ?_
  show Awp prog 0 6 (cB f113) _ _
  refine awp_seq ?_
  refine awp_region ?_
  refine aR 1 ?_
  refine aE ?_
  refine awp_seq ?_
  refine awp_region ?_
  refine aR 4 ?_
  refine aE ?_
  refine awp_ret ?_
  exact oF hF [] []

/-! ### cmp.Compare[int] -/
def z143 (qx : Int) (qy : Int) (r : Int) : TV × Mem := (.v (.one (.d (.int .i64 r))), ⟨[], []⟩)

theorem z144 {qx : Int} {qy : Int} {r} (hF : z142 qx qy = some r) : Holds prog 85 [.v (.one (.d (.int .i64 qx))), .v (.one (.d (.int .i64 qy)))] ⟨[], []⟩ (Is (z143 qx qy r)) := by
  unfold z142 at hF
  refine holds_of_awp hΓ (fn := f85) (c := cB f85) (A := 0) (nx := 0) (by kernel_rfl) (by kernel_rfl) (by kernel_rfl) (by kernel_rfl) (by kernel_rfl) (by kernel_rfl) (lowc_of (by kernel_rfl)) ?_
  show Awp prog 0 20 (cB f85) _ _
  refine awp_seq ?_
  refine awp_region ?_
  refine aR 1 ?_
  refine aE ?_
  refine awp_seq ?_
  refine bE hF fun _ h1 hF => ?_
  refine awp_region ?_
  refine aR 1 ?_
  refine aC (z163 h1) [] [] [] ?_
  refine aR 1 ?_
  refine aE ?_
  refine awp_seq ?_
  refine bE hF fun _ h2 hF => ?_
  refine awp_region ?_
  refine aR 1 ?_
  refine aC (z163 h2) [] [] [] ?_
  refine aR 1 ?_
  refine aE ?_
  refine awp_seq ?_
  refine awp_seq ?_
  refine awp_region ?_
  refine aR 1 ?_
  refine aE ?_
  refine cE hF (fun h3 hF => ?_) fun h3 hF => ?_
  · refine awp_true (by kernel_rfl) h3 ?_
    refine awp_seq ?_
    refine awp_seq ?_
    refine awp_region ?_
    refine aR 1 ?_
    refine aE ?_
    refine cE hF (fun h4 hF => ?_) fun h4 hF => ?_
    · refine awp_true (by kernel_rfl) h4 ?_
      refine awp_seq ?_
      refine awp_region ?_
      refine aR 1 ?_
      refine aE ?_
      refine awp_ret ?_
      exact oF hF [] []
    · refine awp_false (by kernel_rfl) h4 ?_
      refine awp_skip ?_
      refine awp_seq ?_
      refine awp_region ?_
      refine aR 1 ?_
      refine aE ?_
      refine awp_ret ?_
      exact oF hF [] []
  · refine awp_false (by kernel_rfl) h3 ?_
    refine awp_skip ?_
    refine awp_seq ?_
    refine awp_seq ?_
    refine awp_region ?_
    refine aR 1 ?_
    refine aE ?_
    refine cE hF (fun h5 hF => ?_) fun h5 hF => ?_
    · refine awp_true (by kernel_rfl) h5 ?_
      refine awp_seq ?_
      refine awp_region ?_
      refine aR 1 ?_
      refine aE ?_
      refine awp_ret ?_
      exact oF hF [] []
    · refine awp_false (by kernel_rfl) h5 ?_
      refine awp_skip ?_
      refine awp_seq ?_
      refine awp_seq ?_
      refine awp_region ?_
      refine aR 3 ?_
      refine aE ?_
      refine cE hF (fun h6 hF => ?_) fun h6 hF => ?_
      · refine awp_true (by kernel_rfl) h6 ?_
        refine awp_seq ?_
        refine awp_region ?_
        refine aR 1 ?_
        refine aE ?_
        refine awp_ret ?_
        exact oF hF [] []
      · refine awp_false (by kernel_rfl) h6 ?_
        refine awp_skip ?_
        refine awp_seq ?_
        refine awp_seq ?_
        refine awp_region ?_
        refine aR 3 ?_
        refine aE ?_
        refine cE hF (fun h7 hF => ?_) fun h7 hF => ?_
        · refine awp_true (by kernel_rfl) h7 ?_
          refine awp_seq ?_
          refine awp_region ?_
          refine aR 1 ?_
          refine aE ?_
          refine awp_ret ?_
          exact oF hF [] []
        · refine awp_false (by kernel_rfl) h7 ?_
          refine awp_skip ?_
          refine awp_seq ?_
          refine awp_region ?_
          refine aR 1 ?_
          refine aE ?_
          refine awp_ret ?_
          exact oF hF [] []

/-! ### beaconfleet/place.meets -/
def z519 : Bool → AEx
  | _ => .normal

def z518 (qx : api_Spot) (qx1 : api_Spot) (qx2 : api_Spot) (qx3 : api_Spot) : Bool → St
  | vx => Mem.st ⟨[], [(0, [.d (.int .i64 qx.X), .d (.int .i64 qx.Y)]), (1, [.d (.int .i64 qx1.X), .d (.int .i64 qx1.Y)]), (2, [.d (.int .i64 qx2.X), .d (.int .i64 qx2.Y)]), (3, [.d (.int .i64 qx3.X), .d (.int .i64 qx3.Y)])]⟩ (tl [(4, .v (.one (.box 0 0))), (5, .v (.one (.box 1 0))), (6, .v (.one (.box 2 0))), (7, .v (.one (.box 3 0))), (34, .v (.one (.d (.bool vx))))]) 4

def z517 (qx : api_Spot) (qx1 : api_Spot) (qx2 : api_Spot) (qx3 : api_Spot) : St := Mem.st ⟨[], [(0, [.d (.int .i64 qx.X), .d (.int .i64 qx.Y)]), (1, [.d (.int .i64 qx1.X), .d (.int .i64 qx1.Y)]), (2, [.d (.int .i64 qx2.X), .d (.int .i64 qx2.Y)]), (3, [.d (.int .i64 qx3.X), .d (.int .i64 qx3.Y)])]⟩ (tl [(4, .v (.one (.box 0 0))), (5, .v (.one (.box 1 0))), (6, .v (.one (.box 2 0))), (7, .v (.one (.box 3 0)))]) 4

theorem z520 (qx : api_Spot) (qx1 : api_Spot) (qx2 : api_Spot) (qx3 : api_Spot) {r} (hF : z516 qx qx1 qx2 qx3 = some r) : Awp prog 0 65 (cL (cL (cR (cB f53)))) (Out 0 z519 (z518 qx qx1 qx2 qx3) r) (z517 qx qx1 qx2 qx3) := by
  unfold z516 at hF
  refine bE hF fun vr h1 hF => ?_
  refine cE hF (fun h2 hF => ?_) fun h2 hF => ?_
  · refine awp_region ?_
    refine aR 3 ?_
    refine aCb (z527 h1) [] [] [] h2 ?_
    refine aR 18 ?_
    refine aE ?_
    exact oO hF [] [] rfl
  · refine bE hF fun vr1 h3 hF => ?_
    refine cE hF (fun h4 hF => ?_) fun h4 hF => ?_
    · refine awp_region ?_
      refine aR 3 ?_
      refine aCb (z527 h1) [] [] [] h2 ?_
      refine aR 4 ?_
      refine aCb (z527 h3) [] [] [] h4 ?_
      refine aR 13 ?_
      refine aE ?_
      exact oO hF [] [] rfl
    · refine bE hF fun vr2 h5 hF => ?_
      refine cE hF (fun h6 hF => ?_) fun h6 hF => ?_
      · refine awp_region ?_
        refine aR 3 ?_
        refine aCb (z527 h1) [] [] [] h2 ?_
        refine aR 4 ?_
        refine aCb (z527 h3) [] [] [] h4 ?_
        refine aR 5 ?_
        refine aCb (z527 h5) [] [] [] h6 ?_
        refine aR 7 ?_
        refine aE ?_
        exact oO hF [] [] rfl
      · refine bE hF fun vr3 h7 hF => ?_
        refine awp_region ?_
        refine aR 3 ?_
        refine aCb (z527 h1) [] [] [] h2 ?_
        refine aR 4 ?_
        refine aCb (z527 h3) [] [] [] h4 ?_
        refine aR 5 ?_
        refine aCb (z527 h5) [] [] [] h6 ?_
        refine aR 5 ?_
        refine aC (z527 h7) [] [] [] ?_
        refine aR 1 ?_
        refine aE ?_
        exact oO hF [] [] rfl

def z524 : Bool → AEx
  | _ => .normal

def z523 (vr4 : Int) (vr5 : Int) (vr6 : Int) (vr7 : Int) : Bool → St
  | vx2 => Mem.st ⟨[], []⟩ (tl [(8, .v (.one (.d (.bool vx2))))]) 0

def z522 (vr4 : Int) (vr5 : Int) (vr6 : Int) (vr7 : Int) : St := Mem.st ⟨[], []⟩ (tl [(9, .v (.one (.d (.int .i64 vr4)))), (10, .v (.one (.d (.int .i64 vr5)))), (11, .v (.one (.d (.int .i64 vr6)))), (12, .v (.one (.d (.int .i64 vr7))))]) 0

theorem z525 (vr4 : Int) (vr5 : Int) (vr6 : Int) (vr7 : Int) {r} (hF : z521 vr4 vr5 vr6 vr7 = some r) : Awp prog 0 65 (cL (cR (cR (cR (cB f53))))) (Out 0 z524 (z523 vr4 vr5 vr6 vr7) r) (z522 vr4 vr5 vr6 vr7) := by
  unfold z521 at hF
  refine cE hF (fun h18 hF => ?_) fun h18 hF => ?_
  · refine awp_region ?_
    refine aR 3 ?_
    refine aB h18 ?_
    refine aR 7 ?_
    refine aE ?_
    exact oO hF [] [] rfl
  · refine awp_region ?_
    refine aR 3 ?_
    refine aB h18 ?_
    refine aR 7 ?_
    refine aE ?_
    exact oO hF [] [] rfl

def z514 (qx : api_Spot) (qx1 : api_Spot) (qx2 : api_Spot) (qx3 : api_Spot) (r : Bool) : TV × Mem := (.v (.one (.d (.bool r))), ⟨[], []⟩)

theorem z515 {qx : api_Spot} {qx1 : api_Spot} {qx2 : api_Spot} {qx3 : api_Spot} {r} (hF : z513 qx qx1 qx2 qx3 = some r) : Holds prog 53 [.v (.agg [.d (.int .i64 qx.X), .d (.int .i64 qx.Y)]), .v (.agg [.d (.int .i64 qx1.X), .d (.int .i64 qx1.Y)]), .v (.agg [.d (.int .i64 qx2.X), .d (.int .i64 qx2.Y)]), .v (.agg [.d (.int .i64 qx3.X), .d (.int .i64 qx3.Y)])] ⟨[], []⟩ (Is (z514 qx qx1 qx2 qx3 r)) := by
  unfold z513 at hF
  refine holds_of_awp hΓ (fn := f53) (c := cB f53) (A := 0) (nx := 0) (by kernel_rfl) (by kernel_rfl) (by kernel_rfl) (by kernel_rfl) (by kernel_rfl) (by kernel_rfl) (lowc_of (by kernel_rfl)) ?_
  show Awp prog 0 65 (cB f53) _ _
  refine awp_seq ?_
  refine awp_region ?_
  refine aR 5 ?_
  refine aE ?_
  refine awp_seq ?_
  refine awp_seq ?_
  refine awp_to (st' := z517 qx qx1 qx2 qx3) (oT [(1, 1000), (2, 2000), (3, 3000)] []) ?_
  refine bE hF fun vx1 h8 hF => ?_
  refine awp_sub (z520 qx qx1 qx2 qx3 h8) ?_
  refine cE hF (fun h9 hF => ?_) fun h9 hF => ?_
  · refine awp_true (by kernel_rfl) h9 ?_
    refine awp_seq ?_
    refine awp_region ?_
    refine aR 1 ?_
    refine aE ?_
    refine awp_ret ?_
    exact oF hF [] []
  · refine awp_false (by kernel_rfl) h9 ?_
    refine awp_skip ?_
    refine awp_seq ?_
    refine bE hF fun _ h10 hF => ?_
    refine bE hF fun vr4 h11 hF => ?_
    refine bE hF fun _ h12 hF => ?_
    refine bE hF fun vr5 h13 hF => ?_
    refine bE hF fun _ h14 hF => ?_
    refine bE hF fun vr6 h15 hF => ?_
    refine bE hF fun _ h16 hF => ?_
    refine bE hF fun vr7 h17 hF => ?_
    refine aD ?_
    refine dR 3 ?_
    refine dC (z535 h10) [] [] [] ?_
    refine dC (z144 h11) [] [] [] ?_
    refine dR 3 ?_
    refine dC (z535 h12) [] [] [] ?_
    refine dC (z144 h13) [] [] [] ?_
    refine dR 3 ?_
    refine dC (z535 h14) [] [] [] ?_
    refine dC (z144 h15) [] [] [] ?_
    refine dR 3 ?_
    refine dC (z535 h16) [] [] [] ?_
    refine dC (z144 h17) [] [] [] ?_
    refine dR 4 ?_
    refine dE ?_
    refine awp_seq ?_
    refine awp_to (st' := z522 vr4 vr5 vr6 vr7) (oT [] []) ?_
    refine bE hF fun vx2_1 h19 hF => ?_
    refine awp_sub (z525 vr4 vr5 vr6 vr7 h19) ?_
    refine awp_ret ?_
    exact oF hF [] []

/-! ### beaconfleet/place.crossed -/
def z461 : Bool → AEx
  | _ => .normal

def z460 (qx : List api_Spot) (vx : Int) (vy6 : api_Spot) (vy7 : api_Spot) (vx8 : Int) (vy10 : api_Spot) (vy11 : api_Spot) : Bool → St
  | vx12 => Mem.st ⟨[], [(0, [.d (.int .i64 vy6.X), .d (.int .i64 vy6.Y)]), (1, [.d (.int .i64 vy7.X), .d (.int .i64 vy7.Y)]), (2, [.d (.int .i64 vy10.X), .d (.int .i64 vy10.Y)]), (3, [.d (.int .i64 vy11.X), .d (.int .i64 vy11.Y)])]⟩ (tl [(0, .v (.one (.d (.lst (List.map api_Spot.enc qx))))), (3, .v (.one (.d (.int .i64 (qx.length : Int))))), (4, .v (.one (.d (.int .i64 vx)))), (5, .v (.one (.box 0 0))), (6, .v (.one (.box 1 0))), (7, .v (.one (.d (.int .i64 vx8)))), (8, .v (.one (.box 2 0))), (9, .v (.one (.box 3 0))), (10, .v (.one (.d (.bool (decide (vx8 = (IntKind.wrap .i64 (vx + 1)))))))), (11, .v (.one (.d (.bool (decide (((IntKind.wrap .i64 (vx8 + 1)).tmod (qx.length : Int)) = vx)))))), (14, .v (.one (.d (.lst (List.map api_Spot.enc qx))))), (15, .v (.one (.d (.int .i64 (qx.length : Int))))), (16, .v (.one (.d (.int .i64 vx)))), (56, .v (.one (.d (.bool vx12))))]) 4

def z459 (qx : List api_Spot) (vx : Int) (vy6 : api_Spot) (vy7 : api_Spot) (vx8 : Int) (vy10 : api_Spot) (vy11 : api_Spot) : St := Mem.st ⟨[], [(0, [.d (.int .i64 vy6.X), .d (.int .i64 vy6.Y)]), (1, [.d (.int .i64 vy7.X), .d (.int .i64 vy7.Y)]), (2, [.d (.int .i64 vy10.X), .d (.int .i64 vy10.Y)]), (3, [.d (.int .i64 vy11.X), .d (.int .i64 vy11.Y)])]⟩ (tl [(0, .v (.one (.d (.lst (List.map api_Spot.enc qx))))), (3, .v (.one (.d (.int .i64 (qx.length : Int))))), (4, .v (.one (.d (.int .i64 vx)))), (5, .v (.one (.box 0 0))), (6, .v (.one (.box 1 0))), (7, .v (.one (.d (.int .i64 vx8)))), (8, .v (.one (.box 2 0))), (9, .v (.one (.box 3 0))), (10, .v (.one (.d (.bool (decide (vx8 = (IntKind.wrap .i64 (vx + 1)))))))), (11, .v (.one (.d (.bool (decide (((IntKind.wrap .i64 (vx8 + 1)).tmod (qx.length : Int)) = vx)))))), (14, .v (.one (.d (.lst (List.map api_Spot.enc qx))))), (15, .v (.one (.d (.int .i64 (qx.length : Int))))), (16, .v (.one (.d (.int .i64 vx))))]) 4

theorem z462 (qx : List api_Spot) (vx : Int) (vy6 : api_Spot) (vy7 : api_Spot) (vx8 : Int) (vy10 : api_Spot) (vy11 : api_Spot) {r} (hF : z458 qx vx vy6 vy7 vx8 vy10 vy11 = some r) : Awp prog 0 99 (cL (cL (cR (cR (cL (cL (cR (cL (cL (cR (cR (cR (cL (cL (cR (cR (cL (cL (cR (cL (cR (cR (cB f49))))))))))))))))))))))) (Out 0 z461 (z460 qx vx vy6 vy7 vx8 vy10 vy11) r) (z459 qx vx vy6 vy7 vx8 vy10 vy11) := by
  unfold z458 at hF
  refine cE hF (fun h9 hF => ?_) fun h9 hF => ?_
  · refine cE hF (fun h10 hF => ?_) fun h10 hF => ?_
    · refine bE hF fun vr8_3 h11 hF => ?_
      refine awp_region ?_
      refine aR 1 ?_
      refine aB h9 ?_
      refine aR 2 ?_
      refine aB h10 ?_
      refine aR 6 ?_
      refine aC (z515 h11) [] [] [] ?_
      refine aR 2 ?_
      refine aE ?_
      exact oO hF [] [] rfl
    · refine awp_region ?_
      refine aR 1 ?_
      refine aB h9 ?_
      refine aR 2 ?_
      refine aB h10 ?_
      refine aR 9 ?_
      refine aE ?_
      exact oO hF [] [] rfl
  · refine awp_region ?_
    refine aR 1 ?_
    refine aB h9 ?_
    refine aR 12 ?_
    refine aE ?_
    exact oO hF [] [] rfl

def z466 : Bool → AEx
  | _ => .normal

def z465 (qx : List api_Spot) (vx : Int) (vy6 : api_Spot) (vy7 : api_Spot) (vx8 : Int) (vy10 : api_Spot) (vy11 : api_Spot) : Bool → St
  | vx13 => Mem.st ⟨[], [(0, [.d (.int .i64 vy6.X), .d (.int .i64 vy6.Y)]), (1, [.d (.int .i64 vy7.X), .d (.int .i64 vy7.Y)]), (2, [.d (.int .i64 vy10.X), .d (.int .i64 vy10.Y)]), (3, [.d (.int .i64 vy11.X), .d (.int .i64 vy11.Y)])]⟩ (tl [(0, .v (.one (.d (.lst (List.map api_Spot.enc qx))))), (3, .v (.one (.d (.int .i64 (qx.length : Int))))), (4, .v (.one (.d (.int .i64 vx)))), (5, .v (.one (.box 0 0))), (6, .v (.one (.box 1 0))), (7, .v (.one (.d (.int .i64 vx8)))), (8, .v (.one (.box 2 0))), (9, .v (.one (.box 3 0))), (11, .v (.one (.d (.bool (decide (((IntKind.wrap .i64 (vx8 + 1)).tmod (qx.length : Int)) = vx)))))), (14, .v (.one (.d (.lst (List.map api_Spot.enc qx))))), (15, .v (.one (.d (.int .i64 (qx.length : Int))))), (16, .v (.one (.d (.int .i64 vx)))), (70, .v (.one (.d (.bool vx13))))]) 4

def z464 (qx : List api_Spot) (vx : Int) (vy6 : api_Spot) (vy7 : api_Spot) (vx8 : Int) (vy10 : api_Spot) (vy11 : api_Spot) : St := Mem.st ⟨[], [(0, [.d (.int .i64 vy6.X), .d (.int .i64 vy6.Y)]), (1, [.d (.int .i64 vy7.X), .d (.int .i64 vy7.Y)]), (2, [.d (.int .i64 vy10.X), .d (.int .i64 vy10.Y)]), (3, [.d (.int .i64 vy11.X), .d (.int .i64 vy11.Y)])]⟩ (tl [(0, .v (.one (.d (.lst (List.map api_Spot.enc qx))))), (3, .v (.one (.d (.int .i64 (qx.length : Int))))), (4, .v (.one (.d (.int .i64 vx)))), (5, .v (.one (.box 0 0))), (6, .v (.one (.box 1 0))), (7, .v (.one (.d (.int .i64 vx8)))), (8, .v (.one (.box 2 0))), (9, .v (.one (.box 3 0))), (10, .v (.one (.d (.bool (decide (vx8 = (IntKind.wrap .i64 (vx + 1)))))))), (11, .v (.one (.d (.bool (decide (((IntKind.wrap .i64 (vx8 + 1)).tmod (qx.length : Int)) = vx)))))), (14, .v (.one (.d (.lst (List.map api_Spot.enc qx))))), (15, .v (.one (.d (.int .i64 (qx.length : Int))))), (16, .v (.one (.d (.int .i64 vx))))]) 4

theorem z467 (qx : List api_Spot) (vx : Int) (vy6 : api_Spot) (vy7 : api_Spot) (vx8 : Int) (vy10 : api_Spot) (vy11 : api_Spot) {r} (hF : z463 vx vy6 vy7 vx8 vy10 vy11 = some r) : Awp prog 0 99 (cL (cR (cR (cL (cR (cR (cL (cL (cR (cL (cL (cR (cR (cR (cL (cL (cR (cR (cL (cL (cR (cL (cR (cR (cB f49))))))))))))))))))))))))) (Out 0 z466 (z465 qx vx vy6 vy7 vx8 vy10 vy11) r) (z464 qx vx vy6 vy7 vx8 vy10 vy11) := by
  unfold z463 at hF
  refine cE hF (fun h14 hF => ?_) fun h14 hF => ?_
  · refine bE hF fun vr13 h15 hF => ?_
    refine cE hF (fun h16 hF => ?_) fun h16 hF => ?_
    · refine awp_region ?_
      refine aB h14 ?_
      refine aR 4 ?_
      refine aCb (z527 h15) [] [] [] h16 ?_
      refine aR 8 ?_
      refine aE ?_
      exact oO hF [] [] rfl
    · refine bE hF fun vr14 h17 hF => ?_
      refine awp_region ?_
      refine aB h14 ?_
      refine aR 4 ?_
      refine aCb (z527 h15) [] [] [] h16 ?_
      refine aR 4 ?_
      refine aC (z527 h17) [] [] [] ?_
      refine aR 3 ?_
      refine aE ?_
      exact oO hF [] [] rfl
  · refine awp_region ?_
    refine aB h14 ?_
    refine aR 13 ?_
    refine aE ?_
    exact oO hF [] [] rfl

def z471 : Bool → AEx
  | _ => .normal

def z470 (qx : List api_Spot) (vx : Int) (vy6 : api_Spot) (vy7 : api_Spot) (vx8 : Int) (vy10 : api_Spot) (vy11 : api_Spot) : Bool → St
  | vx14 => Mem.st ⟨[], [(0, [.d (.int .i64 vy6.X), .d (.int .i64 vy6.Y)]), (1, [.d (.int .i64 vy7.X), .d (.int .i64 vy7.Y)])]⟩ (tl [(0, .v (.one (.d (.lst (List.map api_Spot.enc qx))))), (3, .v (.one (.d (.int .i64 (qx.length : Int))))), (4, .v (.one (.d (.int .i64 vx)))), (5, .v (.one (.box 0 0))), (6, .v (.one (.box 1 0))), (7, .v (.one (.d (.int .i64 vx8)))), (14, .v (.one (.d (.lst (List.map api_Spot.enc qx))))), (15, .v (.one (.d (.int .i64 (qx.length : Int))))), (16, .v (.one (.d (.int .i64 vx)))), (84, .v (.one (.d (.bool vx14))))]) 2

def z469 (qx : List api_Spot) (vx : Int) (vy6 : api_Spot) (vy7 : api_Spot) (vx8 : Int) (vy10 : api_Spot) (vy11 : api_Spot) : St := Mem.st ⟨[], [(0, [.d (.int .i64 vy6.X), .d (.int .i64 vy6.Y)]), (1, [.d (.int .i64 vy7.X), .d (.int .i64 vy7.Y)]), (2, [.d (.int .i64 vy10.X), .d (.int .i64 vy10.Y)]), (3, [.d (.int .i64 vy11.X), .d (.int .i64 vy11.Y)])]⟩ (tl [(0, .v (.one (.d (.lst (List.map api_Spot.enc qx))))), (3, .v (.one (.d (.int .i64 (qx.length : Int))))), (4, .v (.one (.d (.int .i64 vx)))), (5, .v (.one (.box 0 0))), (6, .v (.one (.box 1 0))), (7, .v (.one (.d (.int .i64 vx8)))), (8, .v (.one (.box 2 0))), (9, .v (.one (.box 3 0))), (11, .v (.one (.d (.bool (decide (((IntKind.wrap .i64 (vx8 + 1)).tmod (qx.length : Int)) = vx)))))), (14, .v (.one (.d (.lst (List.map api_Spot.enc qx))))), (15, .v (.one (.d (.int .i64 (qx.length : Int))))), (16, .v (.one (.d (.int .i64 vx))))]) 4

theorem z472 (qx : List api_Spot) (vx : Int) (vy6 : api_Spot) (vy7 : api_Spot) (vx8 : Int) (vy10 : api_Spot) (vy11 : api_Spot) {r} (hF : z468 qx vx vy6 vy7 vx8 vy10 vy11 = some r) : Awp prog 0 99 (cL (cR (cR (cR (cR (cL (cR (cR (cL (cL (cR (cL (cL (cR (cR (cR (cL (cL (cR (cR (cL (cL (cR (cL (cR (cR (cB f49))))))))))))))))))))))))))) (Out 0 z471 (z470 qx vx vy6 vy7 vx8 vy10 vy11) r) (z469 qx vx vy6 vy7 vx8 vy10 vy11) := by
  unfold z468 at hF
  refine cE hF (fun h20 hF => ?_) fun h20 hF => ?_
  · refine bE hF fun vr15 h21 hF => ?_
    refine cE hF (fun h22 hF => ?_) fun h22 hF => ?_
    · refine awp_region ?_
      refine aB h20 ?_
      refine aR 4 ?_
      refine aCb (z527 h21) [] [] [] h22 ?_
      refine aR 8 ?_
      refine aE ?_
      exact oO hF [] [] rfl
    · refine bE hF fun vr16 h23 hF => ?_
      refine awp_region ?_
      refine aB h20 ?_
      refine aR 4 ?_
      refine aCb (z527 h21) [] [] [] h22 ?_
      refine aR 4 ?_
      refine aC (z527 h23) [] [] [] ?_
      refine aR 3 ?_
      refine aE ?_
      exact oO hF [] [] rfl
  · refine awp_region ?_
    refine aB h20 ?_
    refine aR 13 ?_
    refine aE ?_
    exact oO hF [] [] rfl

def z456 : Unit ⊕ Unit → AEx
  | .inl _ => .exit 2
  | .inr _ => .ret

def z455 (qx : List api_Spot) (vx : Int) (vy6 : api_Spot) (vy7 : api_Spot) : Unit ⊕ Unit → St
  | .inl _ => Mem.st ⟨[], []⟩ (tl [(0, .v (.one (.d (.lst (List.map api_Spot.enc qx))))), (3, .v (.one (.d (.int .i64 (qx.length : Int))))), (14, .v (.one (.d (.lst (List.map api_Spot.enc qx))))), (15, .v (.one (.d (.int .i64 (qx.length : Int))))), (16, .v (.one (.d (.int .i64 vx))))]) 0
  | .inr _ => Mem.st ⟨[], []⟩ (tl [(2, .v (.one (.d (.bool true))))]) 0

def z454 (qx : List api_Spot) (vx : Int) (vy6 : api_Spot) (vy7 : api_Spot) : Int → St
  | vx8 => Mem.st ⟨[], [(0, [.d (.int .i64 vy6.X), .d (.int .i64 vy6.Y)]), (1, [.d (.int .i64 vy7.X), .d (.int .i64 vy7.Y)])]⟩ (tl [(0, .v (.one (.d (.lst (List.map api_Spot.enc qx))))), (3, .v (.one (.d (.int .i64 (qx.length : Int))))), (4, .v (.one (.d (.int .i64 vx)))), (5, .v (.one (.box 0 0))), (6, .v (.one (.box 1 0))), (7, .v (.one (.d (.int .i64 vx8)))), (14, .v (.one (.d (.lst (List.map api_Spot.enc qx))))), (15, .v (.one (.d (.int .i64 (qx.length : Int))))), (16, .v (.one (.d (.int .i64 vx))))]) 2

theorem z457 (qx : List api_Spot) (vx : Int) (vy6 : api_Spot) (vy7 : api_Spot) (vx8 : Int) (r : (Int) ⊕ (Unit ⊕ Unit)) (hF : z453 qx vx vy6 vy7 vx8 = some r) : Awp prog 0 99 (cL (cL (cR (cR (cR (cL (cL (cR (cR (cL (cL (cR (cL (cR (cR (cB f49)))))))))))))))) (Out 0 (kk z456) (SS (z454 qx vx vy6 vy7) (z455 qx vx vy6 vy7)) r) (z454 qx vx vy6 vy7 vx8) := by
  unfold z453 at hF
  refine awp_seq ?_
  refine awp_seq ?_
  refine awp_region ?_
  refine aR 3 ?_
  refine aE ?_
  refine cE hF (fun h5 hF => ?_) fun h5 hF => ?_
  · refine awp_true (by kernel_rfl) h5 ?_
    refine awp_skip ?_
    refine awp_seq ?_
    refine awp_block ?_
    refine awp_seq ?_
    refine bE hF fun vy10 h6 hF => ?_
    refine gE hF fun h7 hF => ?_
    refine bE hF fun vy11 h8 hF => ?_
    refine aD ?_
    refine dR 2 ?_
    refine dX (x_idx api_Spot.enc h6) ?_
    refine dR 5 ?_
    refine dX (x_rem h7) ?_
    refine dX (x_idx api_Spot.enc h8) ?_
    refine dR 5 ?_
    refine dE ?_
    refine awp_seq ?_
    refine aD ?_
    refine dR 7 ?_
    refine dX (x_rem h7) ?_
    refine dR 4 ?_
    refine dE ?_
    refine awp_block ?_
    refine awp_seq ?_
    refine awp_to (st' := z459 qx vx vy6 vy7 vx8 vy10 vy11) (oT [(2, 14002), (3, 15002)] []) ?_
    refine bE hF fun vx12_1 h12 hF => ?_
    refine awp_sub (z462 qx vx vy6 vy7 vx8 vy10 vy11 h12) ?_
    refine cE hF (fun h13 hF => ?_) fun h13 hF => ?_
    · refine awp_true (by kernel_rfl) h13 ?_
      refine awp_seq ?_
      refine awp_region ?_
      refine aR 1 ?_
      refine aE ?_
      refine awp_ret ?_
      exact oO hF [] [] rfl
    · refine awp_false (by kernel_rfl) h13 ?_
      refine awp_seq ?_
      refine awp_to (st' := z464 qx vx vy6 vy7 vx8 vy10 vy11) (oT [] []) ?_
      refine bE hF fun vx13_1 h18 hF => ?_
      refine awp_sub (z467 qx vx vy6 vy7 vx8 vy10 vy11 h18) ?_
      refine cE hF (fun h19 hF => ?_) fun h19 hF => ?_
      · refine awp_true (by kernel_rfl) h19 ?_
        refine awp_seq ?_
        refine awp_region ?_
        refine aR 1 ?_
        refine aE ?_
        refine awp_ret ?_
        exact oO hF [] [] rfl
      · refine awp_false (by kernel_rfl) h19 ?_
        refine awp_seq ?_
        refine awp_to (st' := z469 qx vx vy6 vy7 vx8 vy10 vy11) (oT [] []) ?_
        refine bE hF fun vx14_1 h24 hF => ?_
        refine awp_sub (z472 qx vx vy6 vy7 vx8 vy10 vy11 h24) ?_
        refine cE hF (fun h25 hF => ?_) fun h25 hF => ?_
        · refine awp_true (by kernel_rfl) h25 ?_
          refine awp_seq ?_
          refine awp_region ?_
          refine aR 1 ?_
          refine aE ?_
          refine awp_ret ?_
          exact oO hF [] [] rfl
        · refine awp_false (by kernel_rfl) h25 ?_
          refine awp_skip ?_
          refine awp_region ?_
          refine aR 3 ?_
          refine aE ?_
          exact oO hF [] [] rfl
  · refine awp_false (by kernel_rfl) h5 ?_
    refine awp_exit ?_
    exact oO hF [] [] rfl

def z451 : Unit ⊕ Unit → AEx
  | .inl _ => .exit 0
  | .inr _ => .ret

def z450 (qx : List api_Spot) : Unit ⊕ Unit → St
  | .inl _ => Mem.st ⟨[], []⟩ (tl []) 0
  | .inr _ => Mem.st ⟨[], []⟩ (tl [(2, .v (.one (.d (.bool true))))]) 0

def z449 (qx : List api_Spot) : Int → St
  | vx => Mem.st ⟨[], []⟩ (tl [(0, .v (.one (.d (.lst (List.map api_Spot.enc qx))))), (3, .v (.one (.d (.int .i64 (qx.length : Int))))), (14, .v (.one (.d (.lst (List.map api_Spot.enc qx))))), (15, .v (.one (.d (.int .i64 (qx.length : Int))))), (16, .v (.one (.d (.int .i64 vx))))]) 0

theorem z452 (qx : List api_Spot) (vx : Int) (r : (Int) ⊕ (Unit ⊕ Unit)) (hF : z448 qx vx = some r) : Awp prog 0 99 (cL (cL (cR (cL (cR (cR (cB f49))))))) (Out 0 (kk z451) (SS (z449 qx) (z450 qx)) r) (z449 qx vx) := by
  unfold z448 at hF
  refine awp_seq ?_
  refine awp_region ?_
  refine aR 1 ?_
  refine aE ?_
  refine awp_seq ?_
  refine cE hF (fun h1 hF => ?_) fun h1 hF => ?_
  · refine awp_true (by kernel_rfl) h1 ?_
    refine awp_skip ?_
    refine awp_seq ?_
    refine awp_block ?_
    refine awp_seq ?_
    refine bE hF fun vy6 h2 hF => ?_
    refine awp_region ?_
    refine aR 1 ?_
    refine aX (x_idx api_Spot.enc h2) ?_
    refine aR 4 ?_
    refine aE ?_
    refine awp_seq ?_
    refine gE hF fun h3 hF => ?_
    refine bE hF fun vy7 h4 hF => ?_
    refine awp_region ?_
    refine aR 4 ?_
    refine aX (x_rem h3) ?_
    refine aX (x_idx api_Spot.enc h4) ?_
    refine aR 3 ?_
    refine aE ?_
    refine awp_seq ?_
    refine awp_region ?_
    refine aR 3 ?_
    refine aE ?_
    refine awp_block ?_
    refine awp_to (st' := z454 qx vx vy6 vy7 (IntKind.wrap .i64 (vx + 1))) (oT [(0, 4000), (1, 14000)] []) ?_
    refine bE hF fun x h26 hF => ?_
    rcases x with _ | _
    · refine awp_sub (awp_loop' (z454 qx vx vy6 vy7) z456 (z455 qx vx vy6 vy7) (by intro x; rcases x with x | x <;> exact fun h => nomatch h) h26 (z457 qx vx vy6 vy7)) ?_
      refine awp_region ?_
      refine aR 2 ?_
      refine aE ?_
      exact oO hF [] [] rfl
    · refine awp_sub (awp_loop' (z454 qx vx vy6 vy7) z456 (z455 qx vx vy6 vy7) (by intro x; rcases x with x | x <;> exact fun h => nomatch h) h26 (z457 qx vx vy6 vy7)) ?_
      exact oO hF [] [] rfl
  · refine awp_false (by kernel_rfl) h1 ?_
    refine awp_exit ?_
    exact oO hF [] [] rfl

def z446 (qx : List api_Spot) (r : Bool) : TV × Mem := (.v (.one (.d (.bool r))), ⟨[], []⟩)

theorem z447 {qx : List api_Spot} {r} (hF : z445 qx = some r) : Holds prog 49 [.v (.one (.d (.lst (List.map api_Spot.enc qx))))] ⟨[], []⟩ (Is (z446 qx r)) := by
  unfold z445 at hF
  refine holds_of_awp hΓ (fn := f49) (c := cB f49) (A := 0) (nx := 0) (by kernel_rfl) (by kernel_rfl) (by kernel_rfl) (by kernel_rfl) (by kernel_rfl) (by kernel_rfl) (lowc_of (by kernel_rfl)) ?_
  show Awp prog 0 99 (cB f49) _ _
  refine awp_seq ?_
  refine awp_region ?_
  refine aR 1 ?_
  refine aE ?_
  refine awp_seq ?_
  refine awp_region ?_
  refine aR 1 ?_
  refine aL api_Spot.enc qx ?_
  refine aR 1 ?_
  refine aE ?_
  refine awp_seq ?_
  refine awp_seq ?_
  refine awp_region ?_
  refine aR 1 ?_
  refine aL api_Spot.enc qx ?_
  refine aR 1 ?_
  refine aE ?_
  refine awp_block ?_
  refine awp_to (st' := z449 qx 0) (oT [] []) ?_
  refine bE hF fun x h27 hF => ?_
  rcases x with _ | _
  · refine awp_sub (awp_loop' (z449 qx) z451 (z450 qx) (by intro x; rcases x with x | x <;> exact fun h => nomatch h) h27 (z452 qx)) ?_
    refine awp_seq ?_
    refine awp_region ?_
    refine aR 1 ?_
    refine aE ?_
    refine awp_ret ?_
    exact oF hF [] []
  · refine awp_sub (awp_loop' (z449 qx) z451 (z450 qx) (by intro x; rcases x with x | x <;> exact fun h => nomatch h) h27 (z452 qx)) ?_
    exact oF hF [] []

/-! ### beaconfleet/place.CheckFence -/
def z402 : Unit ⊕ Int → AEx
  | .inl _ => .exit 1
  | .inr _ => .ret

def z401 (qf : api_Fence) : Unit ⊕ Int → St
  | .inl _ => Mem.st ⟨[], [(0, [.d (.str qf.Key), .d (.lst (List.map api_Spot.enc qf.Corners))])]⟩ (tl [(1, .v (.one (.box 0 0)))]) 1
  | .inr vx1 => Mem.st ⟨[], []⟩ (tl [(2, .v (.one (.d (.int .i64 vx1))))]) 0

def z400 (qf : api_Fence) : Int → St
  | vx => Mem.st ⟨[], [(0, [.d (.str qf.Key), .d (.lst (List.map api_Spot.enc qf.Corners))])]⟩ (tl [(1, .v (.one (.box 0 0))), (21, .v (.one (.d (.lst (List.map api_Spot.enc qf.Corners))))), (22, .v (.one (.d (.int .i64 (qf.Corners.length : Int))))), (23, .v (.one (.d (.int .i64 vx))))]) 1

theorem z403 (qf : api_Fence) (vx : Int) (r : (Int) ⊕ (Unit ⊕ Int)) (hF : z399 qf vx = some r) : Awp prog 0 41 (cL (cL (cR (cL (cR (cR (cB f25))))))) (Out 0 (kk z402) (SS (z400 qf) (z401 qf)) r) (z400 qf vx) := by
  unfold z399 at hF
  refine awp_seq ?_
  refine awp_region ?_
  refine aR 1 ?_
  refine aE ?_
  refine awp_seq ?_
  refine cE hF (fun h5 hF => ?_) fun h5 hF => ?_
  · refine awp_true (by kernel_rfl) h5 ?_
    refine awp_skip ?_
    refine awp_seq ?_
    refine awp_block ?_
    refine awp_seq ?_
    refine bE hF fun vy1 h6 hF => ?_
    refine awp_region ?_
    refine aR 1 ?_
    refine aX (x_idx api_Spot.enc h6) ?_
    refine aR 4 ?_
    refine aE ?_
    refine awp_seq ?_
    refine awp_seq ?_
    refine bE hF fun vr2_1 h7 hF => ?_
    refine awp_region ?_
    refine aR 1 ?_
    refine aC (z507 h7) [] [] [] ?_
    refine aR 1 ?_
    refine aE ?_
    refine cE hF (fun h8 hF => ?_) fun h8 hF => ?_
    · refine awp_true (by kernel_rfl) h8 ?_
      refine awp_seq ?_
      refine awp_region ?_
      refine aR 1 ?_
      refine aE ?_
      refine awp_ret ?_
      exact oO hF [] [] rfl
    · refine awp_false (by kernel_rfl) h8 ?_
      refine awp_skip ?_
      refine awp_seq ?_
      refine bE hF fun vl1 h9 hF => ?_
      refine bE hF fun vr1_1 h10 hF => ?_
      refine aD ?_
      refine dR 3 ?_
      refine dX (x_slice api_Spot.enc h9) ?_
      refine dR 1 ?_
      refine dC (z709 h10) [] [] [] ?_
      refine dE ?_
      refine cE hF (fun h11 hF => ?_) fun h11 hF => ?_
      · refine awp_true (by kernel_rfl) h11 ?_
        refine awp_seq ?_
        refine awp_region ?_
        refine aR 1 ?_
        refine aE ?_
        refine awp_ret ?_
        exact oO hF [] [] rfl
      · refine awp_false (by kernel_rfl) h11 ?_
        refine awp_skip ?_
        refine awp_region ?_
        refine aR 2 ?_
        refine aE ?_
        exact oO hF [] [] rfl
  · refine awp_false (by kernel_rfl) h5 ?_
    refine awp_exit ?_
    exact oO hF [] [] rfl

def z397 (qf : api_Fence) (r : Int) : TV × Mem := (.v (.one (.d (.int .i64 r))), ⟨[], []⟩)

theorem z398 {qf : api_Fence} {r} (hF : z396 qf = some r) : Holds prog 25 [.v (.agg [.d (.str qf.Key), .d (.lst (List.map api_Spot.enc qf.Corners))])] ⟨[], []⟩ (Is (z397 qf r)) := by
  unfold z396 at hF
  refine holds_of_awp hΓ (fn := f25) (c := cB f25) (A := 0) (nx := 0) (by kernel_rfl) (by kernel_rfl) (by kernel_rfl) (by kernel_rfl) (by kernel_rfl) (by kernel_rfl) (lowc_of (by kernel_rfl)) ?_
  show Awp prog 0 41 (cB f25) _ _
  refine awp_seq ?_
  refine awp_region ?_
  refine aR 2 ?_
  refine aE ?_
  refine awp_seq ?_
  refine awp_block ?_
  refine awp_seq ?_
  refine bE hF fun vr h1 hF => ?_
  refine awp_region ?_
  refine aR 2 ?_
  refine aC (z27 h1) [] [] [] ?_
  refine aR 2 ?_
  refine aE ?_
  refine cE hF (fun h2 hF => ?_) fun h2 hF => ?_
  · refine awp_true (by kernel_rfl) h2 ?_
    refine awp_seq ?_
    refine awp_region ?_
    refine aR 1 ?_
    refine aE ?_
    refine awp_ret ?_
    exact oF hF [] []
  · refine awp_false (by kernel_rfl) h2 ?_
    refine awp_seq ?_
    refine awp_region ?_
    refine aR 2 ?_
    refine aL api_Spot.enc qf.Corners ?_
    refine aR 2 ?_
    refine aE ?_
    refine cE hF (fun h3 hF => ?_) fun h3 hF => ?_
    · refine awp_true (by kernel_rfl) h3 ?_
      refine awp_seq ?_
      refine awp_region ?_
      refine aR 1 ?_
      refine aE ?_
      refine awp_ret ?_
      exact oF hF [] []
    · refine awp_false (by kernel_rfl) h3 ?_
      refine awp_seq ?_
      refine awp_region ?_
      refine aR 2 ?_
      refine aL api_Spot.enc qf.Corners ?_
      refine aR 2 ?_
      refine aE ?_
      refine cE hF (fun h4 hF => ?_) fun h4 hF => ?_
      · refine awp_true (by kernel_rfl) h4 ?_
        refine awp_seq ?_
        refine awp_region ?_
        refine aR 1 ?_
        refine aE ?_
        refine awp_ret ?_
        exact oF hF [] []
      · refine awp_false (by kernel_rfl) h4 ?_
        refine awp_skip ?_
        refine awp_seq ?_
        refine awp_seq ?_
        refine awp_region ?_
        refine aR 2 ?_
        refine aL api_Spot.enc qf.Corners ?_
        refine aR 1 ?_
        refine aE ?_
        refine awp_block ?_
        refine awp_to (st' := z400 qf 0) (oT [] []) ?_
        refine bE hF fun x h12 hF => ?_
        rcases x with _ | vx1_1
        · refine awp_sub (awp_loop' (z400 qf) z402 (z401 qf) (by intro x; rcases x with x | x <;> exact fun h => nomatch h) h12 (z403 qf)) ?_
          refine awp_seq ?_
          refine awp_seq ?_
          refine bE hF fun vr17 h13 hF => ?_
          refine awp_region ?_
          refine aR 2 ?_
          refine aC (z447 h13) [] [] [] ?_
          refine aE ?_
          refine cE hF (fun h14 hF => ?_) fun h14 hF => ?_
          · refine awp_true (by kernel_rfl) h14 ?_
            refine awp_seq ?_
            refine awp_region ?_
            refine aR 1 ?_
            refine aE ?_
            refine awp_ret ?_
            exact oF hF [] []
          · refine awp_false (by kernel_rfl) h14 ?_
            refine awp_skip ?_
            refine awp_seq ?_
            refine awp_region ?_
            refine aR 1 ?_
            refine aE ?_
            refine awp_ret ?_
            exact oF hF [] []
        · refine awp_sub (awp_loop' (z400 qf) z402 (z401 qf) (by intro x; rcases x with x | x <;> exact fun h => nomatch h) h12 (z403 qf)) ?_
          exact oF hF [] []

/-! ### beaconfleet/base.First -/
def z24 : Unit ⊕ Int → AEx
  | .inl _ => .exit 0
  | .inr _ => .ret

def z23 (ql : List Int) : Unit ⊕ Int → St
  | .inl _ => Mem.st ⟨[], []⟩ (tl []) 0
  | .inr vx1 => Mem.st ⟨[], []⟩ (tl [(2, .v (.one (.d (.int .i64 vx1))))]) 0

def z22 (ql : List Int) : Int → St
  | vx => Mem.st ⟨[], []⟩ (tl [(5, .v (.one (.d (.lst (List.map (encI .i64) ql))))), (6, .v (.one (.d (.int .i64 (ql.length : Int))))), (7, .v (.one (.d (.int .i64 vx))))]) 0

theorem z25 (ql : List Int) (vx : Int) (r : (Int) ⊕ (Unit ⊕ Int)) (hF : z19 ql vx = some r) : Awp prog 0 15 (cL (cL (cR (cL (cR (cB f24)))))) (Out 0 (kk z24) (SS (z22 ql) (z23 ql)) r) (z22 ql vx) := by
  unfold z19 at hF
  refine awp_seq ?_
  refine awp_region ?_
  refine aR 1 ?_
  refine aE ?_
  refine awp_seq ?_
  refine cE hF (fun h1 hF => ?_) fun h1 hF => ?_
  · refine awp_true (by kernel_rfl) h1 ?_
    refine awp_skip ?_
    refine awp_seq ?_
    refine awp_block ?_
    refine awp_seq ?_
    refine bE hF fun vy1 h2 hF => ?_
    refine awp_region ?_
    refine aX (x_idx (encI .i64) h2) ?_
    refine aR 2 ?_
    refine aE ?_
    refine awp_seq ?_
    refine awp_region ?_
    refine aR 2 ?_
    refine aE ?_
    refine cE hF (fun h3 hF => ?_) fun h3 hF => ?_
    · refine awp_true (by kernel_rfl) h3 ?_
      refine awp_seq ?_
      refine awp_region ?_
      refine aR 2 ?_
      refine aE ?_
      refine awp_ret ?_
      exact oO hF [] [] rfl
    · refine awp_false (by kernel_rfl) h3 ?_
      refine awp_skip ?_
      refine awp_region ?_
      refine aR 2 ?_
      refine aE ?_
      exact oO hF [] [] rfl
  · refine awp_false (by kernel_rfl) h1 ?_
    refine awp_exit ?_
    exact oO hF [] [] rfl

def z17 (ql : List Int) (r : Int) : TV × Mem := (.v (.one (.d (.int .i64 r))), ⟨[], []⟩)

theorem z18 {ql : List Int} {r} (hF : z16 ql = some r) : Holds prog 24 [.v (.one (.d (.lst (List.map (encI .i64) ql))))] ⟨[], []⟩ (Is (z17 ql r)) := by
  unfold z16 at hF
  refine holds_of_awp hΓ (fn := f24) (c := cB f24) (A := 0) (nx := 0) (by kernel_rfl) (by kernel_rfl) (by kernel_rfl) (by kernel_rfl) (by kernel_rfl) (by kernel_rfl) (lowc_of (by kernel_rfl)) ?_
  show Awp prog 0 15 (cB f24) _ _
  refine awp_seq ?_
  refine awp_region ?_
  refine aR 1 ?_
  refine aE ?_
  refine awp_seq ?_
  refine awp_seq ?_
  refine awp_region ?_
  refine aR 1 ?_
  refine aL (encI .i64) ql ?_
  refine aR 1 ?_
  refine aE ?_
  refine awp_block ?_
  refine awp_to (st' := z22 ql 0) (oT [] []) ?_
  refine bE hF fun x h4 hF => ?_
  rcases x with _ | vx1_1
  · refine awp_sub (awp_loop' (z22 ql) z24 (z23 ql) (by intro x; rcases x with x | x <;> exact fun h => nomatch h) h4 (z25 ql)) ?_
    refine awp_seq ?_
    refine awp_region ?_
    refine aR 1 ?_
    refine aE ?_
    refine awp_ret ?_
    exact oF hF [] []
  · refine awp_sub (awp_loop' (z22 ql) z24 (z23 ql) (by intro x; rcases x with x | x <;> exact fun h => nomatch h) h4 (z25 ql)) ?_
    exact oF hF [] []

/-! ### beaconfleet/place.where$1 -/
def z565 (qa : api_Spot) (qb : api_Spot) (qx : api_Spot) (r : Bool) : TV × Mem := (.v (.one (.d (.bool r))), ⟨[], [(0, [.d (.int .i64 qx.X), .d (.int .i64 qx.Y)])]⟩)

theorem z566 {qa : api_Spot} {qb : api_Spot} {qx : api_Spot} {r} (hF : z564 qa qb qx = some r) : Holds prog 66 [.v (.agg [.d (.int .i64 qa.X), .d (.int .i64 qa.Y)]), .v (.agg [.d (.int .i64 qb.X), .d (.int .i64 qb.Y)]), .v (.one (.box 0 0))] ⟨[], [(0, [.d (.int .i64 qx.X), .d (.int .i64 qx.Y)])]⟩ (Is (z565 qa qb qx r)) := by
  unfold z564 at hF
  refine holds_of_awp hΓ (fn := f66) (c := cB f66) (A := 1) (nx := 1) (by kernel_rfl) (by kernel_rfl) (by kernel_rfl) (by kernel_rfl) (by kernel_rfl) (by kernel_rfl) (lowc_of (by kernel_rfl)) ?_
  show Awp prog 1 10 (cB f66) _ _
  refine awp_seq ?_
  refine awp_region ?_
  refine aR 3 ?_
  refine aE ?_
  refine awp_seq ?_
  refine bE hF fun vr h1 hF => ?_
  refine awp_region ?_
  refine aR 3 ?_
  refine aC (z527 h1) [] [] [] ?_
  refine aR 1 ?_
  refine aE ?_
  refine awp_ret ?_
  exact oF hF [] []

/-! ### beaconfleet/place.edges -/
def z495 : Unit ⊕ Unit → AEx
  | .inl _ => .exit 0
  | .inr _ => .ret

def z494 (ql : List api_Spot) (qf : api_Spot) : Unit ⊕ Unit → St
  | .inl _ => Mem.st ⟨[], [(0, [.d (.int .i64 qf.X), .d (.int .i64 qf.Y)])]⟩ (tl []) 1
  | .inr _ => Mem.st ⟨[], [(0, [.d (.int .i64 qf.X), .d (.int .i64 qf.Y)])]⟩ (tl [(4, .v (.one (.d (.bool true))))]) 1

def z493 (ql : List api_Spot) (qf : api_Spot) : Int → St
  | vx => Mem.st ⟨[], [(0, [.d (.int .i64 qf.X), .d (.int .i64 qf.Y)])]⟩ (tl [(0, .v (.one (.d (.lst (List.map api_Spot.enc ql))))), (1, .v (.one (.fn 66 [0]))), (7, .v (.one (.d (.lst (List.map api_Spot.enc ql))))), (8, .v (.one (.d (.int .i64 (ql.length : Int))))), (9, .v (.one (.d (.int .i64 vx))))]) 1

theorem z496 (ql : List api_Spot) (qf : api_Spot) (vx : Int) (r : (Int) ⊕ (Unit ⊕ Unit)) (hF : z492 ql qf vx = some r) : Awp prog 1 26 (cL (cL (cR (cL (cR (cB f50)))))) (Out 1 (kk z495) (SS (z493 ql qf) (z494 ql qf)) r) (z493 ql qf vx) := by
  unfold z492 at hF
  refine awp_seq ?_
  refine awp_region ?_
  refine aR 1 ?_
  refine aE ?_
  refine awp_seq ?_
  refine cE hF (fun h1 hF => ?_) fun h1 hF => ?_
  · refine awp_true (by kernel_rfl) h1 ?_
    refine awp_skip ?_
    refine awp_seq ?_
    refine awp_block ?_
    refine awp_seq ?_
    refine bE hF fun vy2 h2 hF => ?_
    refine awp_region ?_
    refine aR 1 ?_
    refine aX (x_idx api_Spot.enc h2) ?_
    refine aR 4 ?_
    refine aE ?_
    refine awp_seq ?_
    refine gE hF fun h3 hF => ?_
    refine bE hF fun vy3 h4 hF => ?_
    refine bE hF fun vr1_1 h5 hF => ?_
    refine aD ?_
    refine dR 6 ?_
    refine dL api_Spot.enc ql ?_
    refine dX (x_rem h3) ?_
    refine dX (x_idx api_Spot.enc h4) ?_
    refine dR 1 ?_
    refine dC (z566 h5) [] [] [] ?_
    refine dE ?_
    refine cE hF (fun h6 hF => ?_) fun h6 hF => ?_
    · refine awp_true (by kernel_rfl) h6 ?_
      refine awp_seq ?_
      refine awp_region ?_
      refine aR 1 ?_
      refine aE ?_
      refine awp_ret ?_
      exact oO hF [] [] rfl
    · refine awp_false (by kernel_rfl) h6 ?_
      refine awp_skip ?_
      refine awp_region ?_
      refine aR 2 ?_
      refine aE ?_
      exact oO hF [] [] rfl
  · refine awp_false (by kernel_rfl) h1 ?_
    refine awp_exit ?_
    exact oO hF [] [] rfl

def z490 (ql : List api_Spot) (qf : api_Spot) (r : Bool) : TV × Mem := (.v (.one (.d (.bool r))), ⟨[], [(0, [.d (.int .i64 qf.X), .d (.int .i64 qf.Y)])]⟩)

theorem z491 {ql : List api_Spot} {qf : api_Spot} {r} (hF : z489 ql qf = some r) : Holds prog 50 [.v (.one (.d (.lst (List.map api_Spot.enc ql)))), .v (.one (.fn 66 [0]))] ⟨[], [(0, [.d (.int .i64 qf.X), .d (.int .i64 qf.Y)])]⟩ (Is (z490 ql qf r)) := by
  unfold z489 at hF
  refine holds_of_awp hΓ (fn := f50) (c := cB f50) (A := 1) (nx := 1) (by kernel_rfl) (by kernel_rfl) (by kernel_rfl) (by kernel_rfl) (by kernel_rfl) (by kernel_rfl) (lowc_of (by kernel_rfl)) ?_
  show Awp prog 1 26 (cB f50) _ _
  refine awp_seq ?_
  refine awp_region ?_
  refine aR 1 ?_
  refine aE ?_
  refine awp_seq ?_
  refine awp_seq ?_
  refine awp_region ?_
  refine aR 1 ?_
  refine aL api_Spot.enc ql ?_
  refine aR 1 ?_
  refine aE ?_
  refine awp_block ?_
  refine awp_to (st' := z493 ql qf 0) (oT [] []) ?_
  refine bE hF fun x h7 hF => ?_
  rcases x with _ | _
  · refine awp_sub (awp_loop' (z493 ql qf) z495 (z494 ql qf) (by intro x; rcases x with x | x <;> exact fun h => nomatch h) h7 (z496 ql qf)) ?_
    refine awp_seq ?_
    refine awp_region ?_
    refine aR 1 ?_
    refine aE ?_
    refine awp_ret ?_
    exact oF hF [] []
  · refine awp_sub (awp_loop' (z493 ql qf) z495 (z494 ql qf) (by intro x; rcases x with x | x <;> exact fun h => nomatch h) h7 (z496 ql qf)) ?_
    exact oF hF [] []

/-! ### beaconfleet/place.where$2 -/
def z573 : (api_Spot × api_Spot) → AEx
  | _ => .normal

def z572 (qa : api_Spot) (qb : api_Spot) (qx : api_Spot) (qx1 : Bool) : (api_Spot × api_Spot) → St
  | (va, vb) => Mem.st ⟨[], [(0, [.d (.int .i64 qx.X), .d (.int .i64 qx.Y)]), (1, [.d (.bool qx1)]), (2, [.d (.int .i64 va.X), .d (.int .i64 va.Y)]), (3, [.d (.int .i64 vb.X), .d (.int .i64 vb.Y)])]⟩ (tl [(2, .v (.one (.box 0 0))), (3, .v (.one (.box 1 0))), (4, .v (.one (.box 2 0))), (5, .v (.one (.box 3 0)))]) 4

def z571 (qa : api_Spot) (qb : api_Spot) (qx : api_Spot) (qx1 : Bool) : St := Mem.st ⟨[], [(0, [.d (.int .i64 qx.X), .d (.int .i64 qx.Y)]), (1, [.d (.bool qx1)]), (2, [.d (.int .i64 qa.X), .d (.int .i64 qa.Y)]), (3, [.d (.int .i64 qb.X), .d (.int .i64 qb.Y)])]⟩ (tl [(2, .v (.one (.box 0 0))), (3, .v (.one (.box 1 0))), (4, .v (.one (.box 2 0))), (5, .v (.one (.box 3 0)))]) 4

theorem z574 (qa : api_Spot) (qb : api_Spot) (qx : api_Spot) (qx1 : Bool) {r} (hF : z570 qa qb = some r) : Awp prog 2 35 (cL (cR (cB f68))) (Out 2 z573 (z572 qa qb qx qx1) r) (z571 qa qb qx qx1) := by
  unfold z570 at hF
  refine awp_seq ?_
  refine awp_region ?_
  refine aR 5 ?_
  refine aE ?_
  refine cE hF (fun h1 hF => ?_) fun h1 hF => ?_
  · refine awp_true (by kernel_rfl) h1 ?_
    refine awp_region ?_
    refine aR 4 ?_
    refine aE ?_
    exact oO hF [] [] rfl
  · refine awp_false (by kernel_rfl) h1 ?_
    refine awp_skip ?_
    exact oO hF [] [] rfl

def z583 : Bool → AEx
  | _ => .normal

def z582 (qx : api_Spot) (qx1 : Bool) (va1 : api_Spot) (vb1 : api_Spot) : Bool → St
  | vx => Mem.st ⟨[], [(0, [.d (.int .i64 qx.X), .d (.int .i64 qx.Y)]), (1, [.d (.bool qx1)])]⟩ (tl [(3, .v (.one (.box 1 0))), (32, .v (.one (.d (.bool vx))))]) 2

def z581 (qx : api_Spot) (qx1 : Bool) (va1 : api_Spot) (vb1 : api_Spot) : St := Mem.st ⟨[], [(0, [.d (.int .i64 qx.X), .d (.int .i64 qx.Y)]), (1, [.d (.bool qx1)]), (2, [.d (.int .i64 va1.X), .d (.int .i64 va1.Y)]), (3, [.d (.int .i64 vb1.X), .d (.int .i64 vb1.Y)])]⟩ (tl [(2, .v (.one (.box 0 0))), (3, .v (.one (.box 1 0))), (4, .v (.one (.box 2 0))), (5, .v (.one (.box 3 0)))]) 4

theorem z584 (qx : api_Spot) (qx1 : Bool) (va1 : api_Spot) (vb1 : api_Spot) {r} (hF : z580 qx va1 vb1 = some r) : Awp prog 2 35 (cL (cL (cR (cR (cB f68))))) (Out 2 z583 (z582 qx qx1 va1 vb1) r) (z581 qx qx1 va1 vb1) := by
  unfold z580 at hF
  refine cE hF (fun h3 hF => ?_) fun h3 hF => ?_
  · refine cE hF (fun h4 hF => ?_) fun h4 hF => ?_
    · refine bE hF fun _ h5 hF => ?_
      refine awp_region ?_
      refine aR 4 ?_
      refine aB h3 ?_
      refine aR 5 ?_
      refine aB h4 ?_
      refine aR 5 ?_
      refine aC (z535 h5) [] [] [] ?_
      refine aR 2 ?_
      refine aE ?_
      exact oO hF [] [] rfl
    · refine awp_region ?_
      refine aR 4 ?_
      refine aB h3 ?_
      refine aR 5 ?_
      refine aB h4 ?_
      refine aR 8 ?_
      refine aE ?_
      exact oO hF [] [] rfl
  · refine awp_region ?_
    refine aR 4 ?_
    refine aB h3 ?_
    refine aR 14 ?_
    refine aE ?_
    exact oO hF [] [] rfl

def z578 : Bool → AEx
  | _ => .normal

def z577 (qx : api_Spot) (qx1 : Bool) (va1 : api_Spot) (vb1 : api_Spot) : Bool → St
  | vs => Mem.st ⟨[], [(0, [.d (.int .i64 qx.X), .d (.int .i64 qx.Y)]), (1, [.d (.bool vs)])]⟩ (tl []) 2

def z576 (qx : api_Spot) (qx1 : Bool) (va1 : api_Spot) (vb1 : api_Spot) : St := Mem.st ⟨[], [(0, [.d (.int .i64 qx.X), .d (.int .i64 qx.Y)]), (1, [.d (.bool qx1)]), (2, [.d (.int .i64 va1.X), .d (.int .i64 va1.Y)]), (3, [.d (.int .i64 vb1.X), .d (.int .i64 vb1.Y)])]⟩ (tl [(2, .v (.one (.box 0 0))), (3, .v (.one (.box 1 0))), (4, .v (.one (.box 2 0))), (5, .v (.one (.box 3 0)))]) 4

theorem z579 (qx : api_Spot) (qx1 : Bool) (va1 : api_Spot) (vb1 : api_Spot) {r} (hF : z575 qx qx1 va1 vb1 = some r) : Awp prog 2 35 (cL (cR (cR (cB f68)))) (Out 2 z578 (z577 qx qx1 va1 vb1) r) (z576 qx qx1 va1 vb1) := by
  unfold z575 at hF
  refine awp_seq ?_
  refine awp_to (st' := z581 qx qx1 va1 vb1) (oT [] []) ?_
  refine bE hF fun vx1 h6 hF => ?_
  refine awp_sub (z584 qx qx1 va1 vb1 h6) ?_
  refine cE hF (fun h7 hF => ?_) fun h7 hF => ?_
  · refine awp_true (by kernel_rfl) h7 ?_
    refine awp_region ?_
    refine aR 3 ?_
    refine aE ?_
    exact oO hF [] [] rfl
  · refine awp_false (by kernel_rfl) h7 ?_
    refine awp_skip ?_
    exact oO hF [] [] rfl

def z568 (qa : api_Spot) (qb : api_Spot) (qx : api_Spot) (qx1 : Bool) (r : Bool) : TV × Mem := (.v (.one (.d (.bool false))), ⟨[], [(0, [.d (.int .i64 qx.X), .d (.int .i64 qx.Y)]), (1, [.d (.bool r)])]⟩)

theorem z569 {qa : api_Spot} {qb : api_Spot} {qx : api_Spot} {qx1 : Bool} {r} (hF : z567 qa qb qx qx1 = some r) : Holds prog 68 [.v (.agg [.d (.int .i64 qa.X), .d (.int .i64 qa.Y)]), .v (.agg [.d (.int .i64 qb.X), .d (.int .i64 qb.Y)]), .v (.one (.box 0 0)), .v (.one (.box 1 0))] ⟨[], [(0, [.d (.int .i64 qx.X), .d (.int .i64 qx.Y)]), (1, [.d (.bool qx1)])]⟩ (Is (z568 qa qb qx qx1 r)) := by
  unfold z567 at hF
  refine holds_of_awp hΓ (fn := f68) (c := cB f68) (A := 2) (nx := 2) (by kernel_rfl) (by kernel_rfl) (by kernel_rfl) (by kernel_rfl) (by kernel_rfl) (by kernel_rfl) (lowc_of (by kernel_rfl)) ?_
  show Awp prog 2 35 (cB f68) _ _
  refine awp_seq ?_
  refine awp_region ?_
  refine aR 3 ?_
  refine aE ?_
  refine awp_seq ?_
  refine awp_to (st' := z571 qa qb qx qx1) (oT [(3, 1002)] []) ?_
  refine bE hF fun x h2 hF => ?_
  obtain ⟨va1, vb1⟩ := x
  refine awp_sub (z574 qa qb qx qx1 h2) ?_
  refine awp_seq ?_
  refine awp_to (st' := z576 qx qx1 va1 vb1) (oT [] []) ?_
  refine bE hF fun vs1 h8 hF => ?_
  refine awp_sub (z579 qx qx1 va1 vb1 h8) ?_
  refine awp_seq ?_
  refine awp_region ?_
  refine aR 1 ?_
  refine aE ?_
  refine awp_ret ?_
  exact oF hF [] []

/-! ### beaconfleet/place.edges -/
def z503 : Bool → AEx
  | _ => .exit 0

def z502 (ql : List api_Spot) (qf : api_Spot) : Bool → St
  | vs1 => Mem.st ⟨[], [(0, [.d (.int .i64 qf.X), .d (.int .i64 qf.Y)]), (1, [.d (.bool vs1)])]⟩ (tl []) 2

def z501 (ql : List api_Spot) (qf : api_Spot) : Bool × Int → St
  | (vs, vx) => Mem.st ⟨[], [(0, [.d (.int .i64 qf.X), .d (.int .i64 qf.Y)]), (1, [.d (.bool vs)])]⟩ (tl [(0, .v (.one (.d (.lst (List.map api_Spot.enc ql))))), (1, .v (.one (.fn 68 [0, 1]))), (7, .v (.one (.d (.lst (List.map api_Spot.enc ql))))), (8, .v (.one (.d (.int .i64 (ql.length : Int))))), (9, .v (.one (.d (.int .i64 vx))))]) 2

theorem z504 (ql : List api_Spot) (qf : api_Spot) (s : Bool × Int) (r : (Bool × Int) ⊕ (Bool)) (hF : z500 ql qf s = some r) : Awp prog 2 26 (cL (cL (cR (cL (cR (cB f50)))))) (Out 2 (kk z503) (SS (z501 ql qf) (z502 ql qf)) r) (z501 ql qf s) := by
  obtain ⟨vs, vx⟩ := s
  unfold z500 at hF
  refine awp_seq ?_
  refine awp_region ?_
  refine aR 1 ?_
  refine aE ?_
  refine awp_seq ?_
  refine cE hF (fun h1 hF => ?_) fun h1 hF => ?_
  · refine awp_true (by kernel_rfl) h1 ?_
    refine awp_skip ?_
    refine awp_seq ?_
    refine awp_block ?_
    refine awp_seq ?_
    refine bE hF fun vy2 h2 hF => ?_
    refine awp_region ?_
    refine aR 1 ?_
    refine aX (x_idx api_Spot.enc h2) ?_
    refine aR 4 ?_
    refine aE ?_
    refine awp_seq ?_
    refine gE hF fun h3 hF => ?_
    refine bE hF fun vy3 h4 hF => ?_
    refine bE hF fun vs2_1 h5 hF => ?_
    refine aD ?_
    refine dR 6 ?_
    refine dL api_Spot.enc ql ?_
    refine dX (x_rem h3) ?_
    refine dX (x_idx api_Spot.enc h4) ?_
    refine dR 1 ?_
    refine dC (z569 h5) [] [] [] ?_
    refine dE ?_
    refine awp_false (by kernel_rfl) rfl ?_
    refine awp_skip ?_
    refine awp_region ?_
    refine aR 2 ?_
    refine aE ?_
    exact oO hF [] [] rfl
  · refine awp_false (by kernel_rfl) h1 ?_
    refine awp_exit ?_
    exact oO hF [] [] rfl

def z498 (ql : List api_Spot) (qf : api_Spot) (qf1 : Bool) (r : Bool) : TV × Mem := (.v (.one (.d (.bool false))), ⟨[], [(0, [.d (.int .i64 qf.X), .d (.int .i64 qf.Y)]), (1, [.d (.bool r)])]⟩)

theorem z499 {ql : List api_Spot} {qf : api_Spot} {qf1 : Bool} {r} (hF : z497 ql qf qf1 = some r) : Holds prog 50 [.v (.one (.d (.lst (List.map api_Spot.enc ql)))), .v (.one (.fn 68 [0, 1]))] ⟨[], [(0, [.d (.int .i64 qf.X), .d (.int .i64 qf.Y)]), (1, [.d (.bool qf1)])]⟩ (Is (z498 ql qf qf1 r)) := by
  unfold z497 at hF
  refine holds_of_awp hΓ (fn := f50) (c := cB f50) (A := 2) (nx := 2) (by kernel_rfl) (by kernel_rfl) (by kernel_rfl) (by kernel_rfl) (by kernel_rfl) (by kernel_rfl) (lowc_of (by kernel_rfl)) ?_
  show Awp prog 2 26 (cB f50) _ _
  refine awp_seq ?_
  refine awp_region ?_
  refine aR 1 ?_
  refine aE ?_
  refine awp_seq ?_
  refine awp_seq ?_
  refine awp_region ?_
  refine aR 1 ?_
  refine aL api_Spot.enc ql ?_
  refine aR 1 ?_
  refine aE ?_
  refine awp_block ?_
  refine awp_to (st' := z501 ql qf (qf1, 0)) (oT [] []) ?_
  refine bE hF fun vs1_1 h6 hF => ?_
  refine awp_sub (awp_loop' (z501 ql qf) z503 (z502 ql qf) (by intro x; exact fun h => nomatch h) h6 (z504 ql qf)) ?_
  refine awp_seq ?_
  refine awp_region ?_
  refine aR 1 ?_
  refine aE ?_
  refine awp_ret ?_
  exact oF hF [] []

/-! ### beaconfleet/place.where -/
def z585 (ql : List api_Spot) (qs : api_Spot) (r : Int) : TV × Mem := (.v (.one (.d (.int .i64 r))), ⟨[], []⟩)

theorem z586 {ql : List api_Spot} {qs : api_Spot} {r} (hF : z563 ql qs = some r) : Holds prog 38 [.v (.one (.d (.lst (List.map api_Spot.enc ql)))), .v (.agg [.d (.int .i64 qs.X), .d (.int .i64 qs.Y)])] ⟨[], []⟩ (Is (z585 ql qs r)) := by
  unfold z563 at hF
  refine holds_of_awp hΓ (fn := f38) (c := cB f38) (A := 0) (nx := 0) (by kernel_rfl) (by kernel_rfl) (by kernel_rfl) (by kernel_rfl) (by kernel_rfl) (by kernel_rfl) (lowc_of (by kernel_rfl)) ?_
  show Awp prog 0 13 (cB f38) _ _
  refine awp_seq ?_
  refine awp_region ?_
  refine aR 2 ?_
  refine aE ?_
  refine awp_seq ?_
  refine awp_seq ?_
  refine bE hF fun vr h1 hF => ?_
  refine awp_region ?_
  refine aR 2 ?_
  refine aC (z491 h1) [] [] [] ?_
  refine aE ?_
  refine cE hF (fun h2 hF => ?_) fun h2 hF => ?_
  · refine awp_true (by kernel_rfl) h2 ?_
    refine awp_seq ?_
    refine awp_region ?_
    refine aR 1 ?_
    refine aE ?_
    refine awp_ret ?_
    exact oF hF [] []
  · refine awp_false (by kernel_rfl) h2 ?_
    refine awp_skip ?_
    refine awp_seq ?_
    refine awp_region ?_
    refine aR 2 ?_
    refine aE ?_
    refine awp_seq ?_
    refine bE hF fun vs3 h3 hF => ?_
    refine awp_region ?_
    refine aR 2 ?_
    refine aC (z499 h3) [(1, 5000)] [] [] ?_
    refine aE ?_
    refine awp_seq ?_
    refine awp_seq ?_
    refine awp_region ?_
    refine aR 1 ?_
    refine aE ?_
    refine cE hF (fun h4 hF => ?_) fun h4 hF => ?_
    · refine awp_true (by kernel_rfl) h4 ?_
      refine awp_seq ?_
      refine awp_region ?_
      refine aR 1 ?_
      refine aE ?_
      refine awp_ret ?_
      exact oF hF [] []
    · refine awp_false (by kernel_rfl) h4 ?_
      refine awp_skip ?_
      refine awp_seq ?_
      refine awp_region ?_
      refine aR 1 ?_
      refine aE ?_
      refine awp_ret ?_
      exact oF hF [] []

/-! ### beaconfleet/place.touch$1$1 -/
def z552 (qc : api_Spot) (qd : api_Spot) (qx : api_Spot) (qx1 : api_Spot) (r : Bool) : TV × Mem := (.v (.one (.d (.bool r))), ⟨[], [(0, [.d (.int .i64 qx.X), .d (.int .i64 qx.Y)]), (1, [.d (.int .i64 qx1.X), .d (.int .i64 qx1.Y)])]⟩)

theorem z553 {qc : api_Spot} {qd : api_Spot} {qx : api_Spot} {qx1 : api_Spot} {r} (hF : z551 qc qd qx qx1 = some r) : Holds prog 52 [.v (.agg [.d (.int .i64 qc.X), .d (.int .i64 qc.Y)]), .v (.agg [.d (.int .i64 qd.X), .d (.int .i64 qd.Y)]), .v (.one (.box 0 0)), .v (.one (.box 1 0))] ⟨[], [(0, [.d (.int .i64 qx.X), .d (.int .i64 qx.Y)]), (1, [.d (.int .i64 qx1.X), .d (.int .i64 qx1.Y)])]⟩ (Is (z552 qc qd qx qx1 r)) := by
  unfold z551 at hF
  refine holds_of_awp hΓ (fn := f52) (c := cB f52) (A := 2) (nx := 2) (by kernel_rfl) (by kernel_rfl) (by kernel_rfl) (by kernel_rfl) (by kernel_rfl) (by kernel_rfl) (lowc_of (by kernel_rfl)) ?_
  show Awp prog 2 12 (cB f52) _ _
  refine awp_seq ?_
  refine awp_region ?_
  refine aR 3 ?_
  refine aE ?_
  refine awp_seq ?_
  refine bE hF fun vr8 h1 hF => ?_
  refine awp_region ?_
  refine aR 4 ?_
  refine aC (z515 h1) [] [] [] ?_
  refine aR 1 ?_
  refine aE ?_
  refine awp_ret ?_
  exact oF hF [] []

/-! ### beaconfleet/place.edges -/
def z480 : Unit ⊕ Unit → AEx
  | .inl _ => .exit 0
  | .inr _ => .ret

def z479 (ql : List api_Spot) (qf : api_Spot) (qf1 : api_Spot) : Unit ⊕ Unit → St
  | .inl _ => Mem.st ⟨[], [(0, [.d (.int .i64 qf.X), .d (.int .i64 qf.Y)]), (1, [.d (.int .i64 qf1.X), .d (.int .i64 qf1.Y)])]⟩ (tl []) 2
  | .inr _ => Mem.st ⟨[], [(0, [.d (.int .i64 qf.X), .d (.int .i64 qf.Y)]), (1, [.d (.int .i64 qf1.X), .d (.int .i64 qf1.Y)])]⟩ (tl [(4, .v (.one (.d (.bool true))))]) 2

def z478 (ql : List api_Spot) (qf : api_Spot) (qf1 : api_Spot) : Int → St
  | vx => Mem.st ⟨[], [(0, [.d (.int .i64 qf.X), .d (.int .i64 qf.Y)]), (1, [.d (.int .i64 qf1.X), .d (.int .i64 qf1.Y)])]⟩ (tl [(0, .v (.one (.d (.lst (List.map api_Spot.enc ql))))), (1, .v (.one (.fn 52 [0, 1]))), (7, .v (.one (.d (.lst (List.map api_Spot.enc ql))))), (8, .v (.one (.d (.int .i64 (ql.length : Int))))), (9, .v (.one (.d (.int .i64 vx))))]) 2

theorem z481 (ql : List api_Spot) (qf : api_Spot) (qf1 : api_Spot) (vx : Int) (r : (Int) ⊕ (Unit ⊕ Unit)) (hF : z477 ql qf qf1 vx = some r) : Awp prog 2 26 (cL (cL (cR (cL (cR (cB f50)))))) (Out 2 (kk z480) (SS (z478 ql qf qf1) (z479 ql qf qf1)) r) (z478 ql qf qf1 vx) := by
  unfold z477 at hF
  refine awp_seq ?_
  refine awp_region ?_
  refine aR 1 ?_
  refine aE ?_
  refine awp_seq ?_
  refine cE hF (fun h1 hF => ?_) fun h1 hF => ?_
  · refine awp_true (by kernel_rfl) h1 ?_
    refine awp_skip ?_
    refine awp_seq ?_
    refine awp_block ?_
    refine awp_seq ?_
    refine bE hF fun vy2 h2 hF => ?_
    refine awp_region ?_
    refine aR 1 ?_
    refine aX (x_idx api_Spot.enc h2) ?_
    refine aR 4 ?_
    refine aE ?_
    refine awp_seq ?_
    refine gE hF fun h3 hF => ?_
    refine bE hF fun vy3 h4 hF => ?_
    refine bE hF fun vr1 h5 hF => ?_
    refine aD ?_
    refine dR 6 ?_
    refine dL api_Spot.enc ql ?_
    refine dX (x_rem h3) ?_
    refine dX (x_idx api_Spot.enc h4) ?_
    refine dR 1 ?_
    refine dC (z553 h5) [] [] [] ?_
    refine dE ?_
    refine cE hF (fun h6 hF => ?_) fun h6 hF => ?_
    · refine awp_true (by kernel_rfl) h6 ?_
      refine awp_seq ?_
      refine awp_region ?_
      refine aR 1 ?_
      refine aE ?_
      refine awp_ret ?_
      exact oO hF [] [] rfl
    · refine awp_false (by kernel_rfl) h6 ?_
      refine awp_skip ?_
      refine awp_region ?_
      refine aR 2 ?_
      refine aE ?_
      exact oO hF [] [] rfl
  · refine awp_false (by kernel_rfl) h1 ?_
    refine awp_exit ?_
    exact oO hF [] [] rfl

def z475 (ql : List api_Spot) (qf : api_Spot) (qf1 : api_Spot) (r : Bool) : TV × Mem := (.v (.one (.d (.bool r))), ⟨[], [(0, [.d (.int .i64 qf.X), .d (.int .i64 qf.Y)]), (1, [.d (.int .i64 qf1.X), .d (.int .i64 qf1.Y)])]⟩)

theorem z476 {ql : List api_Spot} {qf : api_Spot} {qf1 : api_Spot} {r} (hF : z474 ql qf qf1 = some r) : Holds prog 50 [.v (.one (.d (.lst (List.map api_Spot.enc ql)))), .v (.one (.fn 52 [0, 1]))] ⟨[], [(0, [.d (.int .i64 qf.X), .d (.int .i64 qf.Y)]), (1, [.d (.int .i64 qf1.X), .d (.int .i64 qf1.Y)])]⟩ (Is (z475 ql qf qf1 r)) := by
  unfold z474 at hF
  refine holds_of_awp hΓ (fn := f50) (c := cB f50) (A := 2) (nx := 2) (by kernel_rfl) (by kernel_rfl) (by kernel_rfl) (by kernel_rfl) (by kernel_rfl) (by kernel_rfl) (lowc_of (by kernel_rfl)) ?_
  show Awp prog 2 26 (cB f50) _ _
  refine awp_seq ?_
  refine awp_region ?_
  refine aR 1 ?_
  refine aE ?_
  refine awp_seq ?_
  refine awp_seq ?_
  refine awp_region ?_
  refine aR 1 ?_
  refine aL api_Spot.enc ql ?_
  refine aR 1 ?_
  refine aE ?_
  refine awp_block ?_
  refine awp_to (st' := z478 ql qf qf1 0) (oT [] []) ?_
  refine bE hF fun x h7 hF => ?_
  rcases x with _ | _
  · refine awp_sub (awp_loop' (z478 ql qf qf1) z480 (z479 ql qf qf1) (by intro x; rcases x with x | x <;> exact fun h => nomatch h) h7 (z481 ql qf qf1)) ?_
    refine awp_seq ?_
    refine awp_region ?_
    refine aR 1 ?_
    refine aE ?_
    refine awp_ret ?_
    exact oF hF [] []
  · refine awp_sub (awp_loop' (z478 ql qf qf1) z480 (z479 ql qf qf1) (by intro x; rcases x with x | x <;> exact fun h => nomatch h) h7 (z481 ql qf qf1)) ?_
    exact oF hF [] []

/-! ### beaconfleet/place.touch$1 -/
def z554 (qa : api_Spot) (qb : api_Spot) (qx : List api_Spot) (r : Bool) : TV × Mem := (.v (.one (.d (.bool r))), ⟨[], [(0, [.d (.lst (List.map api_Spot.enc qx))])]⟩)

theorem z555 {qa : api_Spot} {qb : api_Spot} {qx : List api_Spot} {r} (hF : z550 qa qb qx = some r) : Holds prog 51 [.v (.agg [.d (.int .i64 qa.X), .d (.int .i64 qa.Y)]), .v (.agg [.d (.int .i64 qb.X), .d (.int .i64 qb.Y)]), .v (.one (.box 0 0))] ⟨[], [(0, [.d (.lst (List.map api_Spot.enc qx))])]⟩ (Is (z554 qa qb qx r)) := by
  unfold z550 at hF
  refine holds_of_awp hΓ (fn := f51) (c := cB f51) (A := 1) (nx := 1) (by kernel_rfl) (by kernel_rfl) (by kernel_rfl) (by kernel_rfl) (by kernel_rfl) (by kernel_rfl) (lowc_of (by kernel_rfl)) ?_
  show Awp prog 1 9 (cB f51) _ _
  refine awp_seq ?_
  refine awp_region ?_
  refine aR 3 ?_
  refine aE ?_
  refine awp_seq ?_
  refine bE hF fun vr2 h1 hF => ?_
  refine awp_region ?_
  refine aR 2 ?_
  refine aC (z476 h1) [(0, 1), (1, 1001)] [] [] ?_
  refine aR 1 ?_
  refine aE ?_
  refine awp_ret ?_
  exact oF hF [] []

/-! ### beaconfleet/place.edges -/
def z487 : Unit ⊕ Unit → AEx
  | .inl _ => .exit 0
  | .inr _ => .ret

def z486 (ql : List api_Spot) (qf : List api_Spot) : Unit ⊕ Unit → St
  | .inl _ => Mem.st ⟨[], [(0, [.d (.lst (List.map api_Spot.enc qf))])]⟩ (tl []) 1
  | .inr _ => Mem.st ⟨[], [(0, [.d (.lst (List.map api_Spot.enc qf))])]⟩ (tl [(4, .v (.one (.d (.bool true))))]) 1

def z485 (ql : List api_Spot) (qf : List api_Spot) : Int → St
  | vx => Mem.st ⟨[], [(0, [.d (.lst (List.map api_Spot.enc qf))])]⟩ (tl [(0, .v (.one (.d (.lst (List.map api_Spot.enc ql))))), (1, .v (.one (.fn 51 [0]))), (7, .v (.one (.d (.lst (List.map api_Spot.enc ql))))), (8, .v (.one (.d (.int .i64 (ql.length : Int))))), (9, .v (.one (.d (.int .i64 vx))))]) 1

theorem z488 (ql : List api_Spot) (qf : List api_Spot) (vx : Int) (r : (Int) ⊕ (Unit ⊕ Unit)) (hF : z484 ql qf vx = some r) : Awp prog 1 26 (cL (cL (cR (cL (cR (cB f50)))))) (Out 1 (kk z487) (SS (z485 ql qf) (z486 ql qf)) r) (z485 ql qf vx) := by
  unfold z484 at hF
  refine awp_seq ?_
  refine awp_region ?_
  refine aR 1 ?_
  refine aE ?_
  refine awp_seq ?_
  refine cE hF (fun h1 hF => ?_) fun h1 hF => ?_
  · refine awp_true (by kernel_rfl) h1 ?_
    refine awp_skip ?_
    refine awp_seq ?_
    refine awp_block ?_
    refine awp_seq ?_
    refine bE hF fun vy2 h2 hF => ?_
    refine awp_region ?_
    refine aR 1 ?_
    refine aX (x_idx api_Spot.enc h2) ?_
    refine aR 4 ?_
    refine aE ?_
    refine awp_seq ?_
    refine gE hF fun h3 hF => ?_
    refine bE hF fun vy3 h4 hF => ?_
    refine bE hF fun vr1 h5 hF => ?_
    refine aD ?_
    refine dR 6 ?_
    refine dL api_Spot.enc ql ?_
    refine dX (x_rem h3) ?_
    refine dX (x_idx api_Spot.enc h4) ?_
    refine dR 1 ?_
    refine dC (z555 h5) [] [] [] ?_
    refine dE ?_
    refine cE hF (fun h6 hF => ?_) fun h6 hF => ?_
    · refine awp_true (by kernel_rfl) h6 ?_
      refine awp_seq ?_
      refine awp_region ?_
      refine aR 1 ?_
      refine aE ?_
      refine awp_ret ?_
      exact oO hF [] [] rfl
    · refine awp_false (by kernel_rfl) h6 ?_
      refine awp_skip ?_
      refine awp_region ?_
      refine aR 2 ?_
      refine aE ?_
      exact oO hF [] [] rfl
  · refine awp_false (by kernel_rfl) h1 ?_
    refine awp_exit ?_
    exact oO hF [] [] rfl

def z482 (ql : List api_Spot) (qf : List api_Spot) (r : Bool) : TV × Mem := (.v (.one (.d (.bool r))), ⟨[], [(0, [.d (.lst (List.map api_Spot.enc qf))])]⟩)

theorem z483 {ql : List api_Spot} {qf : List api_Spot} {r} (hF : z473 ql qf = some r) : Holds prog 50 [.v (.one (.d (.lst (List.map api_Spot.enc ql)))), .v (.one (.fn 51 [0]))] ⟨[], [(0, [.d (.lst (List.map api_Spot.enc qf))])]⟩ (Is (z482 ql qf r)) := by
  unfold z473 at hF
  refine holds_of_awp hΓ (fn := f50) (c := cB f50) (A := 1) (nx := 1) (by kernel_rfl) (by kernel_rfl) (by kernel_rfl) (by kernel_rfl) (by kernel_rfl) (by kernel_rfl) (lowc_of (by kernel_rfl)) ?_
  show Awp prog 1 26 (cB f50) _ _
  refine awp_seq ?_
  refine awp_region ?_
  refine aR 1 ?_
  refine aE ?_
  refine awp_seq ?_
  refine awp_seq ?_
  refine awp_region ?_
  refine aR 1 ?_
  refine aL api_Spot.enc ql ?_
  refine aR 1 ?_
  refine aE ?_
  refine awp_block ?_
  refine awp_to (st' := z485 ql qf 0) (oT [] []) ?_
  refine bE hF fun x h7 hF => ?_
  rcases x with _ | _
  · refine awp_sub (awp_loop' (z485 ql qf) z487 (z486 ql qf) (by intro x; rcases x with x | x <;> exact fun h => nomatch h) h7 (z488 ql qf)) ?_
    refine awp_seq ?_
    refine awp_region ?_
    refine aR 1 ?_
    refine aE ?_
    refine awp_ret ?_
    exact oF hF [] []
  · refine awp_sub (awp_loop' (z485 ql qf) z487 (z486 ql qf) (by intro x; rcases x with x | x <;> exact fun h => nomatch h) h7 (z488 ql qf)) ?_
    exact oF hF [] []

/-! ### beaconfleet/place.touch -/
def z561 : Bool → AEx
  | _ => .normal

def z560 (ql : List api_Spot) (qm : List api_Spot) : Bool → St
  | vx => Mem.st ⟨[], []⟩ (tl [(4, .v (.one (.d (.bool vx))))]) 0

def z559 (ql : List api_Spot) (qm : List api_Spot) : St := Mem.st ⟨[], [(0, [.d (.lst (List.map api_Spot.enc qm))])]⟩ (tl [(0, .v (.one (.d (.lst (List.map api_Spot.enc ql))))), (3, .v (.one (.box 0 0)))]) 1

theorem z562 (ql : List api_Spot) (qm : List api_Spot) {r} (hF : z558 ql qm = some r) : Awp prog 0 24 (cL (cR (cB f26))) (Out 0 z561 (z560 ql qm) r) (z559 ql qm) := by
  unfold z558 at hF
  refine bE hF fun vy h1 hF => ?_
  refine bE hF fun vr1 h2 hF => ?_
  refine cE hF (fun h3 hF => ?_) fun h3 hF => ?_
  · refine aD ?_
    refine dR 2 ?_
    refine dX (x_idx api_Spot.enc h1) ?_
    refine dR 1 ?_
    refine dC (z586 h2) [] [] [] ?_
    refine dB h3 ?_
    refine dR 14 ?_
    refine dE ?_
    exact oO hF [] [] rfl
  · refine bE hF fun vy1 h4 hF => ?_
    refine bE hF fun vr1_1 h5 hF => ?_
    refine cE hF (fun h6 hF => ?_) fun h6 hF => ?_
    · refine aD ?_
      refine dR 2 ?_
      refine dX (x_idx api_Spot.enc h1) ?_
      refine dR 1 ?_
      refine dC (z586 h2) [] [] [] ?_
      refine dB h3 ?_
      refine dR 3 ?_
      refine dX (x_idx api_Spot.enc h4) ?_
      refine dR 1 ?_
      refine dC (z586 h5) [] [] [] ?_
      refine dB h6 ?_
      refine dR 7 ?_
      refine dE ?_
      exact oO hF [] [] rfl
    · refine bE hF fun vr2 h7 hF => ?_
      refine aD ?_
      refine dR 2 ?_
      refine dX (x_idx api_Spot.enc h1) ?_
      refine dR 1 ?_
      refine dC (z586 h2) [] [] [] ?_
      refine dB h3 ?_
      refine dR 3 ?_
      refine dX (x_idx api_Spot.enc h4) ?_
      refine dR 1 ?_
      refine dC (z586 h5) [] [] [] ?_
      refine dB h6 ?_
      refine dR 4 ?_
      refine dC (z483 h7) [] [] [] ?_
      refine dR 2 ?_
      refine dE ?_
      exact oO hF [] [] rfl

def z556 (ql : List api_Spot) (qm : List api_Spot) (r : Bool) : TV × Mem := (.v (.one (.d (.bool r))), ⟨[], []⟩)

theorem z557 {ql : List api_Spot} {qm : List api_Spot} {r} (hF : z549 ql qm = some r) : Holds prog 26 [.v (.one (.d (.lst (List.map api_Spot.enc ql)))), .v (.one (.d (.lst (List.map api_Spot.enc qm))))] ⟨[], []⟩ (Is (z556 ql qm r)) := by
  unfold z549 at hF
  refine holds_of_awp hΓ (fn := f26) (c := cB f26) (A := 0) (nx := 0) (by kernel_rfl) (by kernel_rfl) (by kernel_rfl) (by kernel_rfl) (by kernel_rfl) (by kernel_rfl) (lowc_of (by kernel_rfl)) ?_
  show Awp prog 0 24 (cB f26) _ _
  refine awp_seq ?_
  refine awp_region ?_
  refine aR 2 ?_
  refine aE ?_
  refine awp_seq ?_
  refine awp_to (st' := z559 ql qm) (oT [] []) ?_
  refine bE hF fun vx1 h8 hF => ?_
  refine awp_sub (z562 ql qm h8) ?_
  refine awp_ret ?_
  exact oF hF [] []

/-! ### beaconfleet/place.cellBox -/
def z413 : (api_Spot × Int) → AEx
  | _ => .exit 0

def z412 (qkey : List UInt8) : (api_Spot × Int) → St
  | (vs1, vlong1) => Mem.st ⟨[], [(0, [.d (.int .i64 0), .d (.int .i64 0)]), (1, [.d (.int .i64 vs1.X), .d (.int .i64 vs1.Y)])]⟩ (tl [(2, .v (.one (.box 0 0))), (4, .v (.one (.box 1 0))), (5, .v (.one (.d (.int .i64 vlong1))))]) 2

def z411 (qkey : List UInt8) : api_Spot × Int × Int → St
  | (vs, vlong, vx) => Mem.st ⟨[], [(0, [.d (.int .i64 0), .d (.int .i64 0)]), (1, [.d (.int .i64 vs.X), .d (.int .i64 vs.Y)])]⟩ (tl [(0, .v (.one (.d (.str qkey)))), (2, .v (.one (.box 0 0))), (4, .v (.one (.box 1 0))), (5, .v (.one (.d (.int .i64 vlong)))), (9, .v (.one (.d (.int .i64 (qkey.length : Int))))), (10, .v (.one (.d (.int .i64 vx))))]) 2

theorem z414 (qkey : List UInt8) (s : api_Spot × Int × Int) (r : (api_Spot × Int × Int) ⊕ ((api_Spot × Int))) (hF : z410 qkey s = some r) : Awp prog 0 42 (cL (cL (cR (cL (cR (cR (cB f36))))))) (Out 0 (kk z413) (SS (z411 qkey) (z412 qkey)) r) (z411 qkey s) := by
  obtain ⟨vs, vlong, vx⟩ := s
  unfold z410 at hF
  refine awp_seq ?_
  refine awp_region ?_
  refine aR 1 ?_
  refine aE ?_
  refine awp_seq ?_
  refine cE hF (fun h1 hF => ?_) fun h1 hF => ?_
  · refine awp_true (by kernel_rfl) h1 ?_
    refine awp_skip ?_
    refine awp_seq ?_
    refine awp_block ?_
    refine awp_seq ?_
    refine awp_region ?_
    refine aR 2 ?_
    refine aE ?_
    refine awp_seq ?_
    refine awp_region ?_
    refine aR 3 ?_
    refine aE ?_
    refine awp_seq ?_
    refine bE hF fun vc1 h2 hF => ?_
    refine aD ?_
    refine dR 4 ?_
    refine dX (x_idxS h2) ?_
    refine dR 8 ?_
    refine dE ?_
    refine aD ?_
    refine dR 4 ?_
    refine dX (x_idxS h2) ?_
    refine dR 8 ?_
    refine dE ?_
    refine awp_region ?_
    refine aR 2 ?_
    refine aE ?_
    exact oO hF [] [] rfl
  · refine awp_false (by kernel_rfl) h1 ?_
    refine awp_exit ?_
    exact oO hF [] [] rfl

def z408 (qkey : List UInt8) (r : api_Spot × Int) : TV × Mem := (.tup [.agg [.d (.int .i64 r.1.X), .d (.int .i64 r.1.Y)], .one (.d (.int .i64 r.2))], ⟨[], []⟩)

theorem z409 {qkey : List UInt8} {r} (hF : z407 qkey = some r) : Holds prog 36 [.v (.one (.d (.str qkey)))] ⟨[], []⟩ (Is (z408 qkey r)) := by
  unfold z407 at hF
  refine holds_of_awp hΓ (fn := f36) (c := cB f36) (A := 0) (nx := 0) (by kernel_rfl) (by kernel_rfl) (by kernel_rfl) (by kernel_rfl) (by kernel_rfl) (by kernel_rfl) (lowc_of (by kernel_rfl)) ?_
  show Awp prog 0 42 (cB f36) _ _
  refine awp_seq ?_
  refine awp_region ?_
  refine aR 2 ?_
  refine aE ?_
  refine awp_seq ?_
  refine awp_region ?_
  refine aR 4 ?_
  refine aE ?_
  refine awp_seq ?_
  refine awp_seq ?_
  refine awp_region ?_
  refine aR 3 ?_
  refine aE ?_
  refine awp_block ?_
  refine awp_to (st' := z411 qkey (api_Spot.mk (-16384) (-16384), 32768, 0)) (oT [(1, 3000)] []) ?_
  refine bE hF fun x h3 hF => ?_
  obtain ⟨vs1_1, vlong1_1⟩ := x
  refine awp_sub (awp_loop' (z411 qkey) z413 (z412 qkey) (by intro x; exact fun h => nomatch h) h3 (z414 qkey)) ?_
  refine awp_seq ?_
  refine awp_region ?_
  refine aR 4 ?_
  refine aE ?_
  refine awp_ret ?_
  exact oF hF [] []

/-! ### beaconfleet/place.cells -/
def z431 (qx : List api_Spot) (qx1 : List UInt8) (qx2 : Int) (qx3 : List (List UInt8)) (r : (List (List UInt8))) : TV × Mem := (.v (.one (.own 1 none)), ⟨[(1, ⟨9, 1, List.map encS r⟩)], []⟩)

def z438 : Bool → AEx
  | _ => .normal

def z437 (qx : List api_Spot) (qx1 : List UInt8) (qx2 : Int) (qx3 : List (List UInt8)) (vr : api_Spot) (vr1 : Int) : Bool → St
  | vx => Mem.st ⟨[(1, ⟨9, 1, List.map encS qx3⟩)], []⟩ (tl [(0, .v (.one (.d (.lst (List.map api_Spot.enc qx))))), (1, .v (.one (.d (.str qx1)))), (2, .v (.one (.d (.int .i64 qx2)))), (3, .v (.one (.own 1 none))), (52, .v (.one (.d (.bool vx))))]) 2

def z436 (qx : List api_Spot) (qx1 : List UInt8) (qx2 : Int) (qx3 : List (List UInt8)) (vr : api_Spot) (vr1 : Int) : St := Mem.st ⟨[(1, ⟨9, 1, List.map encS qx3⟩)], []⟩ (tl [(0, .v (.one (.d (.lst (List.map api_Spot.enc qx))))), (1, .v (.one (.d (.str qx1)))), (2, .v (.one (.d (.int .i64 qx2)))), (3, .v (.one (.own 1 none))), (11, .v (.one (.d (.lst (List.map api_Spot.enc ([vr, api_Spot.mk (IntKind.wrap .i64 (vr.X + vr1)) vr.Y, api_Spot.mk (IntKind.wrap .i64 (vr.X + vr1)) (IntKind.wrap .i64 (vr.Y + vr1)), api_Spot.mk vr.X (IntKind.wrap .i64 (vr.Y + vr1))] : List api_Spot))))))]) 2

theorem z439 {recF : (List api_Spot) → (List UInt8) → Int → (List (List UInt8)) → Option ((List (List UInt8)))} (ih : ∀ {qx : List api_Spot} {qx1 : List UInt8} {qx2 : Int} {qx3 : List (List UInt8)} {r}, recF qx qx1 qx2 qx3 = some r → Holds prog 28 [.v (.one (.d (.lst (List.map api_Spot.enc qx)))), .v (.one (.d (.str qx1))), .v (.one (.d (.int .i64 qx2))), .v (.one (.own 0 none))] ⟨[(0, ⟨9, 1, List.map encS qx3⟩)], []⟩ (Is (z431 qx qx1 qx2 qx3 r))) (qx : List api_Spot) (qx1 : List UInt8) (qx2 : Int) (qx3 : List (List UInt8)) (vr : api_Spot) (vr1 : Int) {r} (hF : z435 recF qx qx3 vr vr1 = some r) : Awp prog 1 77 (cL (cL (cR (cR (cR (cB f28)))))) (Out 1 z438 (z437 qx qx1 qx2 qx3 vr vr1) r) (z436 qx qx1 qx2 qx3 vr vr1) := by
  unfold z435 at hF
  refine cE hF (fun h2 hF => ?_) fun h2 hF => ?_
  · refine awp_region ?_
    refine aR 1 ?_
    refine aL encS qx3 ?_
    refine aB h2 ?_
    refine aR 6 ?_
    refine aE ?_
    exact oO hF [] [] rfl
  · refine bE hF fun vr2 h3 hF => ?_
    refine awp_region ?_
    refine aR 1 ?_
    refine aL encS qx3 ?_
    refine aB h2 ?_
    refine aR 3 ?_
    refine aC (z557 h3) [] [] [] ?_
    refine aR 2 ?_
    refine aE ?_
    exact oO hF [] [] rfl

def z443 : (List (List UInt8)) → AEx
  | _ => .exit 0

def z442 (qx : List api_Spot) (qx1 : List UInt8) (qx2 : Int) : (List (List UInt8)) → St
  | vx4 => Mem.st ⟨[(1, ⟨9, 1, List.map encS vx4⟩)], []⟩ (tl [(3, .v (.one (.own 1 none)))]) 2

def z441 (qx : List api_Spot) (qx1 : List UInt8) (qx2 : Int) : (List (List UInt8)) × Int → St
  | (vx2, vx3) => Mem.st ⟨[(1, ⟨9, 1, List.map encS vx2⟩)], []⟩ (tl [(0, .v (.one (.d (.lst (List.map api_Spot.enc qx))))), (1, .v (.one (.d (.str qx1)))), (2, .v (.one (.d (.int .i64 qx2)))), (3, .v (.one (.own 1 none))), (62, .v (.one (.d (.lst (List.map encS ([([48] : List UInt8), ([49] : List UInt8), ([50] : List UInt8), ([51] : List UInt8)] : List (List UInt8))))))), (63, .v (.one (.d (.int .i64 (([([48] : List UInt8), ([49] : List UInt8), ([50] : List UInt8), ([51] : List UInt8)] : List (List UInt8)).length : Int))))), (64, .v (.one (.d (.int .i64 vx3))))]) 2

theorem z444 {recF : (List api_Spot) → (List UInt8) → Int → (List (List UInt8)) → Option ((List (List UInt8)))} (ih : ∀ {qx : List api_Spot} {qx1 : List UInt8} {qx2 : Int} {qx3 : List (List UInt8)} {r}, recF qx qx1 qx2 qx3 = some r → Holds prog 28 [.v (.one (.d (.lst (List.map api_Spot.enc qx)))), .v (.one (.d (.str qx1))), .v (.one (.d (.int .i64 qx2))), .v (.one (.own 0 none))] ⟨[(0, ⟨9, 1, List.map encS qx3⟩)], []⟩ (Is (z431 qx qx1 qx2 qx3 r))) (qx : List api_Spot) (qx1 : List UInt8) (qx2 : Int) (s : (List (List UInt8)) × Int) (r : ((List (List UInt8)) × Int) ⊕ ((List (List UInt8)))) (hF : z440 recF qx qx1 qx2 s = some r) : Awp prog 1 77 (cL (cL (cR (cL (cR (cR (cR (cR (cR (cB f28)))))))))) (Out 1 (kk z443) (SS (z441 qx qx1 qx2) (z442 qx qx1 qx2)) r) (z441 qx qx1 qx2 s) := by
  obtain ⟨vx2, vx3⟩ := s
  unfold z440 at hF
  refine awp_seq ?_
  refine awp_region ?_
  refine aR 1 ?_
  refine aE ?_
  refine awp_seq ?_
  refine cE hF (fun h8 hF => ?_) fun h8 hF => ?_
  · refine awp_true (by kernel_rfl) h8 ?_
    refine awp_skip ?_
    refine awp_seq ?_
    refine awp_block ?_
    refine awp_seq ?_
    refine bE hF fun vy1 h9 hF => ?_
    refine awp_region ?_
    refine aX (x_idx encS h9) ?_
    refine aR 2 ?_
    refine aE ?_
    refine gE hF fun h10 hF => ?_
    refine bE hF fun vr3_1 h11 hF => ?_
    refine awp_region ?_
    refine aR 3 ?_
    refine aX (x_cat h10) ?_
    refine aR 2 ?_
    refine aC (ih h11) [(0, 1)] [] [] ?_
    refine aR 1 ?_
    refine aE ?_
    refine awp_region ?_
    refine aR 2 ?_
    refine aE ?_
    exact oO hF [(1, 10003)] [] rfl
  · refine awp_false (by kernel_rfl) h8 ?_
    refine awp_exit ?_
    exact oO hF [] [] rfl

theorem z433 (n : Nat) : ∀ {qx : List api_Spot} {qx1 : List UInt8} {qx2 : Int} {qx3 : List (List UInt8)} {r}, z432 n qx qx1 qx2 qx3 = some r → Holds prog 28 [.v (.one (.d (.lst (List.map api_Spot.enc qx)))), .v (.one (.d (.str qx1))), .v (.one (.d (.int .i64 qx2))), .v (.one (.own 0 none))] ⟨[(0, ⟨9, 1, List.map encS qx3⟩)], []⟩ (Is (z431 qx qx1 qx2 qx3 r)) := by
  induction n with
  | zero => intro qx qx1 qx2 qx3 r hF; exact nE hF
  | succ n ih =>
    intro qx qx1 qx2 qx3 r hF
    unfold z432 at hF
    refine holds_of_awp hΓ (fn := f28) (c := cB f28) (A := 1) (nx := 1) (by kernel_rfl) (by kernel_rfl) (by kernel_rfl) (by kernel_rfl) (by kernel_rfl) (by kernel_rfl) (lowc_of (by kernel_rfl)) ?_
    show Awp prog 1 77 (cB f28) _ _
    refine awp_seq ?_
    refine awp_region ?_
    refine aR 1 ?_
    refine aE ?_
    refine awp_seq ?_
    refine bE hF fun x h1 hF => ?_
    obtain ⟨vr, vr1⟩ := x
    refine awp_region ?_
    refine aR 1 ?_
    refine aC (z409 h1) [] [] [] ?_
    refine aR 6 ?_
    refine aE ?_
    refine awp_seq ?_
    refine awp_region ?_
    refine aR 26 ?_
    refine aE ?_
    refine awp_to (oT (m := ⟨[(1, ⟨9, 1, List.map encS qx3⟩)], []⟩) (ts := [(0, .v (.one (.d (.lst (List.map api_Spot.enc qx))))), (1, .v (.one (.d (.str qx1)))), (2, .v (.one (.d (.int .i64 qx2)))), (3, .v (.one (.own 1 none))), (11, .v (.one (.d (.lst (List.map api_Spot.enc ([vr, api_Spot.mk (IntKind.wrap .i64 (vr.X + vr1)) vr.Y, api_Spot.mk (IntKind.wrap .i64 (vr.X + vr1)) (IntKind.wrap .i64 (vr.Y + vr1)), api_Spot.mk vr.X (IntKind.wrap .i64 (vr.Y + vr1))] : List api_Spot))))))]) (nx := 2) [(1, 0)] []) ?_
    refine awp_seq ?_
    refine awp_seq ?_
    refine awp_to (st' := z436 qx qx1 qx2 qx3 vr vr1) (oT [] []) ?_
    refine bE hF fun vx1 h4 hF => ?_
    refine awp_sub (z439 @ih qx qx1 qx2 qx3 vr vr1 h4) ?_
    refine cE hF (fun h5 hF => ?_) fun h5 hF => ?_
    · refine awp_true (by kernel_rfl) h5 ?_
      refine awp_seq ?_
      refine awp_region ?_
      refine aR 2 ?_
      refine aE ?_
      refine awp_ret ?_
      exact oF hF [] []
    · refine awp_false (by kernel_rfl) h5 ?_
      refine awp_skip ?_
      refine awp_seq ?_
      refine awp_seq ?_
      refine awp_region ?_
      refine aR 4 ?_
      refine aE ?_
      refine cE hF (fun h6 hF => ?_) fun h6 hF => ?_
      · refine awp_true (by kernel_rfl) h6 ?_
        refine awp_seq ?_
        refine gE hF fun h7 hF => ?_
        refine awp_region ?_
        refine aR 3 ?_
        refine aX (x_app encS 1 h7) ?_
        refine aR 1 ?_
        refine aE ?_
        refine awp_ret ?_
        exact oF hF [(1, 7002)] []
      · refine awp_false (by kernel_rfl) h6 ?_
        refine awp_skip ?_
        refine awp_seq ?_
        refine awp_seq ?_
        refine awp_region ?_
        refine aR 1 ?_
        refine aL encS ([([48] : List UInt8), ([49] : List UInt8), ([50] : List UInt8), ([51] : List UInt8)] : List (List UInt8)) ?_
        refine aR 1 ?_
        refine aE ?_
        refine awp_to (oT (m := ⟨[(1, ⟨9, 1, List.map encS qx3⟩)], []⟩) (ts := [(0, .v (.one (.d (.lst (List.map api_Spot.enc qx))))), (1, .v (.one (.d (.str qx1)))), (2, .v (.one (.d (.int .i64 qx2)))), (3, .v (.one (.own 1 none))), (62, .v (.one (.d (.lst (List.map encS ([([48] : List UInt8), ([49] : List UInt8), ([50] : List UInt8), ([51] : List UInt8)] : List (List UInt8))))))), (63, .v (.one (.d (.int .i64 (([([48] : List UInt8), ([49] : List UInt8), ([50] : List UInt8), ([51] : List UInt8)] : List (List UInt8)).length : Int))))), (64, .v (.one (.d (.int .i64 0))))]) (nx := 2) [] []) ?_
        refine awp_block ?_
        refine awp_to (st' := z441 qx qx1 qx2 (qx3, 0)) (oT [] []) ?_
        refine bE hF fun vx4_1 h12 hF => ?_
        refine awp_sub (awp_loop' (z441 qx qx1 qx2) z443 (z442 qx qx1 qx2) (by intro x; exact fun h => nomatch h) h12 (z444 @ih qx qx1 qx2)) ?_
        refine awp_seq ?_
        refine awp_region ?_
        refine aR 2 ?_
        refine aE ?_
        refine awp_ret ?_
        exact oF hF [] []

theorem z434 {qx : List api_Spot} {qx1 : List UInt8} {qx2 : Int} {qx3 : List (List UInt8)} {r} (hF : z430 qx qx1 qx2 qx3 = some r) : Holds prog 28 [.v (.one (.d (.lst (List.map api_Spot.enc qx)))), .v (.one (.d (.str qx1))), .v (.one (.d (.int .i64 qx2))), .v (.one (.own 0 none))] ⟨[(0, ⟨9, 1, List.map encS qx3⟩)], []⟩ (Is (z431 qx qx1 qx2 qx3 r)) :=
  let ⟨n, h⟩ := fixO_some hF
  z433 n h

/-! ### beaconfleet/place.cells -/
def z416 (qx : List api_Spot) (qx1 : List UInt8) (qx2 : Int) (r : (List (List UInt8))) : TV × Mem := (.v (.one (.own 0 none)), ⟨[(0, ⟨9, 1, List.map encS r⟩)], []⟩)

def z423 : Bool → AEx
  | _ => .normal

def z422 (qx : List api_Spot) (qx1 : List UInt8) (qx2 : Int) (vr : api_Spot) (vr1 : Int) : Bool → St
  | vx => Mem.st ⟨[], []⟩ (tl [(0, .v (.one (.d (.lst (List.map api_Spot.enc qx))))), (1, .v (.one (.d (.str qx1)))), (2, .v (.one (.d (.int .i64 qx2)))), (3, .v (.one (.nil))), (52, .v (.one (.d (.bool vx))))]) 0

def z421 (qx : List api_Spot) (qx1 : List UInt8) (qx2 : Int) (vr : api_Spot) (vr1 : Int) : St := Mem.st ⟨[], []⟩ (tl [(0, .v (.one (.d (.lst (List.map api_Spot.enc qx))))), (1, .v (.one (.d (.str qx1)))), (2, .v (.one (.d (.int .i64 qx2)))), (3, .v (.one (.nil))), (11, .v (.one (.d (.lst (List.map api_Spot.enc ([vr, api_Spot.mk (IntKind.wrap .i64 (vr.X + vr1)) vr.Y, api_Spot.mk (IntKind.wrap .i64 (vr.X + vr1)) (IntKind.wrap .i64 (vr.Y + vr1)), api_Spot.mk vr.X (IntKind.wrap .i64 (vr.Y + vr1))] : List api_Spot))))))]) 0

theorem z424 {recF : (List api_Spot) → (List UInt8) → Int → Option ((List (List UInt8)))} (ih : ∀ {qx : List api_Spot} {qx1 : List UInt8} {qx2 : Int} {r}, recF qx qx1 qx2 = some r → Holds prog 28 [.v (.one (.d (.lst (List.map api_Spot.enc qx)))), .v (.one (.d (.str qx1))), .v (.one (.d (.int .i64 qx2))), .v (.one (.nil))] ⟨[], []⟩ (Is (z416 qx qx1 qx2 r))) (qx : List api_Spot) (qx1 : List UInt8) (qx2 : Int) (vr : api_Spot) (vr1 : Int) {r} (hF : z420 recF qx vr vr1 = some r) : Awp prog 0 77 (cL (cL (cR (cR (cR (cB f28)))))) (Out 0 z423 (z422 qx qx1 qx2 vr vr1) r) (z421 qx qx1 qx2 vr vr1) := by
  unfold z420 at hF
  refine cE hF (fun h2 hF => ?_) fun h2 hF => ?_
  · refine awp_region ?_
    refine aR 2 ?_
    refine aB h2 ?_
    refine aR 6 ?_
    refine aE ?_
    exact oO hF [] [] rfl
  · refine bE hF fun vr2 h3 hF => ?_
    refine awp_region ?_
    refine aR 2 ?_
    refine aB h2 ?_
    refine aR 3 ?_
    refine aC (z557 h3) [] [] [] ?_
    refine aR 2 ?_
    refine aE ?_
    exact oO hF [] [] rfl

def z428 : (List (List UInt8)) → AEx
  | _ => .exit 0

def z427 (qx : List api_Spot) (qx1 : List UInt8) (qx2 : Int) : (List (List UInt8)) → St
  | vx4 => Mem.st ⟨[(0, ⟨9, 1, List.map encS vx4⟩)], []⟩ (tl [(3, .v (.one (.own 0 none)))]) 1

def z426 (qx : List api_Spot) (qx1 : List UInt8) (qx2 : Int) : (List (List UInt8)) × Int → St
  | (vx2, vx3) => Mem.st ⟨[(0, ⟨9, 1, List.map encS vx2⟩)], []⟩ (tl [(0, .v (.one (.d (.lst (List.map api_Spot.enc qx))))), (1, .v (.one (.d (.str qx1)))), (2, .v (.one (.d (.int .i64 qx2)))), (3, .v (.one (.own 0 none))), (62, .v (.one (.d (.lst (List.map encS ([([48] : List UInt8), ([49] : List UInt8), ([50] : List UInt8), ([51] : List UInt8)] : List (List UInt8))))))), (63, .v (.one (.d (.int .i64 (([([48] : List UInt8), ([49] : List UInt8), ([50] : List UInt8), ([51] : List UInt8)] : List (List UInt8)).length : Int))))), (64, .v (.one (.d (.int .i64 vx3))))]) 1

theorem z429 {recF : (List api_Spot) → (List UInt8) → Int → Option ((List (List UInt8)))} (ih : ∀ {qx : List api_Spot} {qx1 : List UInt8} {qx2 : Int} {r}, recF qx qx1 qx2 = some r → Holds prog 28 [.v (.one (.d (.lst (List.map api_Spot.enc qx)))), .v (.one (.d (.str qx1))), .v (.one (.d (.int .i64 qx2))), .v (.one (.nil))] ⟨[], []⟩ (Is (z416 qx qx1 qx2 r))) (qx : List api_Spot) (qx1 : List UInt8) (qx2 : Int) (s : (List (List UInt8)) × Int) (r : ((List (List UInt8)) × Int) ⊕ ((List (List UInt8)))) (hF : z425 recF qx qx1 qx2 s = some r) : Awp prog 0 77 (cL (cL (cR (cL (cR (cR (cR (cR (cR (cB f28)))))))))) (Out 0 (kk z428) (SS (z426 qx qx1 qx2) (z427 qx qx1 qx2)) r) (z426 qx qx1 qx2 s) := by
  obtain ⟨vx2, vx3⟩ := s
  unfold z425 at hF
  refine awp_seq ?_
  refine awp_region ?_
  refine aR 1 ?_
  refine aE ?_
  refine awp_seq ?_
  refine cE hF (fun h7 hF => ?_) fun h7 hF => ?_
  · refine awp_true (by kernel_rfl) h7 ?_
    refine awp_skip ?_
    refine awp_seq ?_
    refine awp_block ?_
    refine awp_seq ?_
    refine bE hF fun vy1 h8 hF => ?_
    refine awp_region ?_
    refine aX (x_idx encS h8) ?_
    refine aR 2 ?_
    refine aE ?_
    refine gE hF fun h9 hF => ?_
    refine bE hF fun vr4_1 h10 hF => ?_
    refine awp_region ?_
    refine aR 3 ?_
    refine aX (x_cat h9) ?_
    refine aR 2 ?_
    refine aC (z434 h10) [] [] [] ?_
    refine aR 1 ?_
    refine aE ?_
    refine awp_region ?_
    refine aR 2 ?_
    refine aE ?_
    exact oO hF [(0, 10002)] [] rfl
  · refine awp_false (by kernel_rfl) h7 ?_
    refine awp_exit ?_
    exact oO hF [] [] rfl

theorem z418 (n : Nat) : ∀ {qx : List api_Spot} {qx1 : List UInt8} {qx2 : Int} {r}, z417 n qx qx1 qx2 = some r → Holds prog 28 [.v (.one (.d (.lst (List.map api_Spot.enc qx)))), .v (.one (.d (.str qx1))), .v (.one (.d (.int .i64 qx2))), .v (.one (.nil))] ⟨[], []⟩ (Is (z416 qx qx1 qx2 r)) := by
  induction n with
  | zero => intro qx qx1 qx2 r hF; exact nE hF
  | succ n ih =>
    intro qx qx1 qx2 r hF
    unfold z417 at hF
    refine holds_of_awp hΓ (fn := f28) (c := cB f28) (A := 0) (nx := 0) (by kernel_rfl) (by kernel_rfl) (by kernel_rfl) (by kernel_rfl) (by kernel_rfl) (by kernel_rfl) (lowc_of (by kernel_rfl)) ?_
    show Awp prog 0 77 (cB f28) _ _
    refine awp_seq ?_
    refine awp_region ?_
    refine aR 1 ?_
    refine aE ?_
    refine awp_seq ?_
    refine bE hF fun x h1 hF => ?_
    obtain ⟨vr, vr1⟩ := x
    refine awp_region ?_
    refine aR 1 ?_
    refine aC (z409 h1) [] [] [] ?_
    refine aR 6 ?_
    refine aE ?_
    refine awp_seq ?_
    refine awp_region ?_
    refine aR 26 ?_
    refine aE ?_
    refine awp_to (oT (m := ⟨[], []⟩) (ts := [(0, .v (.one (.d (.lst (List.map api_Spot.enc qx))))), (1, .v (.one (.d (.str qx1)))), (2, .v (.one (.d (.int .i64 qx2)))), (3, .v (.one (.nil))), (11, .v (.one (.d (.lst (List.map api_Spot.enc ([vr, api_Spot.mk (IntKind.wrap .i64 (vr.X + vr1)) vr.Y, api_Spot.mk (IntKind.wrap .i64 (vr.X + vr1)) (IntKind.wrap .i64 (vr.Y + vr1)), api_Spot.mk vr.X (IntKind.wrap .i64 (vr.Y + vr1))] : List api_Spot))))))]) (nx := 0) [] []) ?_
    refine awp_seq ?_
    refine awp_seq ?_
    refine awp_to (st' := z421 qx qx1 qx2 vr vr1) (oT [] []) ?_
    refine bE hF fun vx1 h4 hF => ?_
    refine awp_sub (z424 @ih qx qx1 qx2 vr vr1 h4) ?_
    refine cE hF (fun h5 hF => ?_) fun h5 hF => ?_
    · refine awp_true (by kernel_rfl) h5 ?_
      refine awp_seq ?_
      refine awp_region ?_
      refine aR 2 ?_
      refine aE ?_
      refine awp_ret ?_
      exact oF hF [] [0]
    · refine awp_false (by kernel_rfl) h5 ?_
      refine awp_skip ?_
      refine awp_seq ?_
      refine awp_seq ?_
      refine awp_region ?_
      refine aR 4 ?_
      refine aE ?_
      refine cE hF (fun h6 hF => ?_) fun h6 hF => ?_
      · refine awp_true (by kernel_rfl) h6 ?_
        refine awp_seq ?_
        refine awp_region ?_
        refine aR 3 ?_
        refine aX (x_appN encS ([qx1] : List (List UInt8)) (by kernel_rfl)) ?_
        refine aR 1 ?_
        refine aE ?_
        refine awp_ret ?_
        exact oF hF [(0, 7000)] []
      · refine awp_false (by kernel_rfl) h6 ?_
        refine awp_skip ?_
        refine awp_seq ?_
        refine awp_seq ?_
        refine awp_region ?_
        refine aR 1 ?_
        refine aL encS ([([48] : List UInt8), ([49] : List UInt8), ([50] : List UInt8), ([51] : List UInt8)] : List (List UInt8)) ?_
        refine aR 1 ?_
        refine aE ?_
        refine awp_to (oT (m := ⟨[], []⟩) (ts := [(0, .v (.one (.d (.lst (List.map api_Spot.enc qx))))), (1, .v (.one (.d (.str qx1)))), (2, .v (.one (.d (.int .i64 qx2)))), (3, .v (.one (.nil))), (62, .v (.one (.d (.lst (List.map encS ([([48] : List UInt8), ([49] : List UInt8), ([50] : List UInt8), ([51] : List UInt8)] : List (List UInt8))))))), (63, .v (.one (.d (.int .i64 (([([48] : List UInt8), ([49] : List UInt8), ([50] : List UInt8), ([51] : List UInt8)] : List (List UInt8)).length : Int))))), (64, .v (.one (.d (.int .i64 0))))]) (nx := 0) [] []) ?_
        refine awp_block ?_
        refine awp_to (st' := z426 qx qx1 qx2 ([], 0)) (oT [] [0]) ?_
        refine bE hF fun vx4_1 h11 hF => ?_
        refine awp_sub (awp_loop' (z426 qx qx1 qx2) z428 (z427 qx qx1 qx2) (by intro x; exact fun h => nomatch h) h11 (z429 @ih qx qx1 qx2)) ?_
        refine awp_seq ?_
        refine awp_region ?_
        refine aR 2 ?_
        refine aE ?_
        refine awp_ret ?_
        exact oF hF [] []

theorem z419 {qx : List api_Spot} {qx1 : List UInt8} {qx2 : Int} {r} (hF : z415 qx qx1 qx2 = some r) : Holds prog 28 [.v (.one (.d (.lst (List.map api_Spot.enc qx)))), .v (.one (.d (.str qx1))), .v (.one (.d (.int .i64 qx2))), .v (.one (.nil))] ⟨[], []⟩ (Is (z416 qx qx1 qx2 r)) :=
  let ⟨n, h⟩ := fixO_some hF
  z418 n h

/-! ### beaconfleet/place.Cells -/
def z394 (qf : api_Fence) (qlevel : Int) (r : (List (List UInt8)) × Int) : TV × Mem := (.tup [.one (.own 0 none), .one (.d (.int .i64 r.2))], ⟨[(0, ⟨9, 1, List.map encS r.1⟩)], []⟩)

theorem z395 {qf : api_Fence} {qlevel : Int} {r} (hF : z393 qf qlevel = some r) : Holds prog 8 [.v (.agg [.d (.str qf.Key), .d (.lst (List.map api_Spot.enc qf.Corners))]), .v (.one (.d (.int .i64 qlevel)))] ⟨[], []⟩ (Is (z394 qf qlevel r)) := by
  unfold z393 at hF
  refine holds_of_awp hΓ (fn := f8) (c := cB f8) (A := 0) (nx := 0) (by kernel_rfl) (by kernel_rfl) (by kernel_rfl) (by kernel_rfl) (by kernel_rfl) (by kernel_rfl) (lowc_of (by kernel_rfl)) ?_
  show Awp prog 0 23 (cB f8) _ _
  refine awp_seq ?_
  refine awp_region ?_
  refine aR 3 ?_
  refine aE ?_
  refine awp_seq ?_
  refine awp_seq ?_
  refine bE hF fun vr3 h1 hF => ?_
  refine awp_region ?_
  refine aR 1 ?_
  refine aC (z398 h1) [] [] [] ?_
  refine aR 1 ?_
  refine aE ?_
  refine awp_seq ?_
  refine awp_region ?_
  refine aR 2 ?_
  refine aE ?_
  refine cE hF (fun h2 hF => ?_) fun h2 hF => ?_
  · refine awp_true (by kernel_rfl) h2 ?_
    refine awp_seq ?_
    refine awp_region ?_
    refine aR 3 ?_
    refine aE ?_
    refine awp_ret ?_
    exact oF hF [] [0]
  · refine awp_false (by kernel_rfl) h2 ?_
    refine awp_skip ?_
    refine awp_seq ?_
    refine awp_seq ?_
    refine bE hF fun vr h3 hF => ?_
    refine awp_region ?_
    refine aR 1 ?_
    refine aC (z77 h3) [] [] [] ?_
    refine aE ?_
    refine cE hF (fun h4 hF => ?_) fun h4 hF => ?_
    · refine awp_true (by kernel_rfl) h4 ?_
      refine awp_seq ?_
      refine awp_region ?_
      refine aR 2 ?_
      refine aE ?_
      refine awp_ret ?_
      exact oF hF [] [0]
    · refine awp_false (by kernel_rfl) h4 ?_
      refine awp_skip ?_
      refine awp_seq ?_
      refine bE hF fun vr3_1 h5 hF => ?_
      refine awp_region ?_
      refine aR 3 ?_
      refine aC (z419 h5) [] [] [] ?_
      refine aR 1 ?_
      refine aE ?_
      refine awp_seq ?_
      refine awp_seq ?_
      refine awp_region ?_
      refine aR 1 ?_
      refine aL encS vr3_1 ?_
      refine aR 1 ?_
      refine aE ?_
      refine cE hF (fun h6 hF => ?_) fun h6 hF => ?_
      · refine awp_true (by kernel_rfl) h6 ?_
        refine awp_seq ?_
        refine awp_region ?_
        refine aR 2 ?_
        refine aE ?_
        refine awp_ret ?_
        exact oF hF [] [0]
      · refine awp_false (by kernel_rfl) h6 ?_
        refine awp_skip ?_
        refine awp_seq ?_
        refine awp_region ?_
        refine aR 3 ?_
        refine aE ?_
        refine awp_ret ?_
        exact oF hF [(0, 13000)] []

/-! ### beaconfleet/base.Moment -/
def z45 (qn : Int) (r : Bool) : TV × Mem := (.v (.one (.d (.bool r))), ⟨[], []⟩)

theorem z47 {qn : Int} {r} (hF : z44 qn = some r) : Holds prog 105 [.v (.one (.d (.int .i64 qn)))] ⟨[], []⟩ (Is (z45 qn r)) := by
  unfold z44 at hF
  refine holds_of_awp hΓ (fn := f105) (c := cB f105) (A := 0) (nx := 0) (by kernel_rfl) (by kernel_rfl) (by kernel_rfl) (by kernel_rfl) (by kernel_rfl) (by kernel_rfl) (lowc_of (by kernel_rfl)) ?_
  show Awp prog 0 6 (cB f105) _ _
  refine awp_seq ?_
  refine awp_region ?_
  refine aR 1 ?_
  refine aE ?_
  refine awp_seq ?_
  refine bE hF fun vr h1 hF => ?_
  refine awp_region ?_
  refine aR 1 ?_
  refine aC (z77 h1) [] [] [] ?_
  refine aR 2 ?_
  refine aE ?_
  refine awp_ret ?_
  exact oF hF [] []

/-! ### internal/bytealg.CompareString -/
def z130 (qa : List UInt8) (qb : List UInt8) (r : Unit) : TV × Mem := (.v (.one (.d (.int .i64 (Lib.compareBytes qa qb)))), ⟨[], []⟩)

theorem z131 {qa : List UInt8} {qb : List UInt8} {r} (hF : z129 qa qb = some r) : Holds prog 139 [.v (.one (.d (.str qa))), .v (.one (.d (.str qb)))] ⟨[], []⟩ (Is (z130 qa qb r)) := by
  unfold z129 at hF
  refine holds_of_awp hΓ (fn := f139) (c := cB f139) (A := 0) (nx := 0) (by kernel_rfl) (by kernel_rfl) (by kernel_rfl) (by kernel_rfl) (by kernel_rfl) (by kernel_rfl) (lowc_of (by kernel_rfl)) ?_
  show Awp prog 0 8 (cB f139) _ _
  refine awp_seq ?_
  refine awp_region ?_
  refine aR 1 ?_
  refine aE ?_
  refine awp_seq ?_
  refine awp_region ?_
  refine aR 2 ?_
  refine aS (does_cmpstring (g := 165) (fn := f165) (a := qa) (b := qb) rfl (by kernel_rfl) (by kernel_rfl) (by kernel_rfl) (by kernel_rfl) (by kernel_rfl) (by kernel_rfl)) ?_
  refine aR 1 ?_
  refine aE ?_
  refine awp_ret ?_
  exact oF hF [] []

/-! ### strings.Compare -/
def z1003 (qa : List UInt8) (qb : List UInt8) (r : Unit) : TV × Mem := (.v (.one (.d (.int .i64 (Lib.compareBytes qa qb)))), ⟨[], []⟩)

theorem z1004 {qa : List UInt8} {qb : List UInt8} {r} (hF : z1002 qa qb = some r) : Holds prog 110 [.v (.one (.d (.str qa))), .v (.one (.d (.str qb)))] ⟨[], []⟩ (Is (z1003 qa qb r)) := by
  unfold z1002 at hF
  refine holds_of_awp hΓ (fn := f110) (c := cB f110) (A := 0) (nx := 0) (by kernel_rfl) (by kernel_rfl) (by kernel_rfl) (by kernel_rfl) (by kernel_rfl) (by kernel_rfl) (lowc_of (by kernel_rfl)) ?_
  show Awp prog 0 8 (cB f110) _ _
  refine awp_seq ?_
  refine awp_region ?_
  refine aR 1 ?_
  refine aE ?_
  refine awp_seq ?_
  refine bE hF fun _ h1 hF => ?_
  refine awp_region ?_
  refine aR 2 ?_
  refine aC (z131 h1) [] [] [] ?_
  refine aR 1 ?_
  refine aE ?_
  refine awp_ret ?_
  exact oF hF [] []

/-! ### cmp.Or[int] -/
def z159 : Unit ⊕ Int → AEx
  | .inl _ => .exit 0
  | .inr _ => .ret

def z158 (qvals : List Int) : Unit ⊕ Int → St
  | .inl _ => Mem.st ⟨[], []⟩ (tl [(3, .v (.one (.d (.int .i64 0))))]) 0
  | .inr vx1 => Mem.st ⟨[], []⟩ (tl [(2, .v (.one (.d (.int .i64 vx1))))]) 0

def z157 (qvals : List Int) : Int → St
  | vx => Mem.st ⟨[], []⟩ (tl [(3, .v (.one (.d (.int .i64 0)))), (6, .v (.one (.d (.lst (List.map (encI .i64) qvals))))), (7, .v (.one (.d (.int .i64 (qvals.length : Int))))), (8, .v (.one (.d (.int .i64 vx))))]) 0

theorem z160 (qvals : List Int) (vx : Int) (r : (Int) ⊕ (Unit ⊕ Int)) (hF : z156 qvals vx = some r) : Awp prog 0 18 (cL (cL (cR (cL (cR (cR (cB f109))))))) (Out 0 (kk z159) (SS (z157 qvals) (z158 qvals)) r) (z157 qvals vx) := by
  unfold z156 at hF
  refine awp_seq ?_
  refine awp_region ?_
  refine aR 1 ?_
  refine aE ?_
  refine awp_seq ?_
  refine cE hF (fun h1 hF => ?_) fun h1 hF => ?_
  · refine awp_true (by kernel_rfl) h1 ?_
    refine awp_skip ?_
    refine awp_seq ?_
    refine awp_block ?_
    refine awp_seq ?_
    refine bE hF fun vy1 h2 hF => ?_
    refine awp_region ?_
    refine aX (x_idx (encI .i64) h2) ?_
    refine aR 2 ?_
    refine aE ?_
    refine awp_seq ?_
    refine awp_region ?_
    refine aR 3 ?_
    refine aE ?_
    refine cE hF (fun h3 hF => ?_) fun h3 hF => ?_
    · refine awp_true (by kernel_rfl) h3 ?_
      refine awp_seq ?_
      refine awp_region ?_
      refine aR 2 ?_
      refine aE ?_
      refine awp_ret ?_
      exact oO hF [] [] rfl
    · refine awp_false (by kernel_rfl) h3 ?_
      refine awp_skip ?_
      refine awp_region ?_
      refine aR 2 ?_
      refine aE ?_
      exact oO hF [] [] rfl
  · refine awp_false (by kernel_rfl) h1 ?_
    refine awp_exit ?_
    exact oO hF [] [] rfl

def z154 (qvals : List Int) (r : Int) : TV × Mem := (.v (.one (.d (.int .i64 r))), ⟨[], []⟩)

theorem z155 {qvals : List Int} {r} (hF : z153 qvals = some r) : Holds prog 109 [.v (.one (.d (.lst (List.map (encI .i64) qvals))))] ⟨[], []⟩ (Is (z154 qvals r)) := by
  unfold z153 at hF
  refine holds_of_awp hΓ (fn := f109) (c := cB f109) (A := 0) (nx := 0) (by kernel_rfl) (by kernel_rfl) (by kernel_rfl) (by kernel_rfl) (by kernel_rfl) (by kernel_rfl) (lowc_of (by kernel_rfl)) ?_
  show Awp prog 0 18 (cB f109) _ _
  refine awp_seq ?_
  refine awp_region ?_
  refine aR 1 ?_
  refine aE ?_
  refine awp_seq ?_
  refine awp_region ?_
  refine aR 1 ?_
  refine aE ?_
  refine awp_seq ?_
  refine awp_seq ?_
  refine awp_region ?_
  refine aR 1 ?_
  refine aL (encI .i64) qvals ?_
  refine aR 1 ?_
  refine aE ?_
  refine awp_block ?_
  refine awp_to (st' := z157 qvals 0) (oT [] []) ?_
  refine bE hF fun x h4 hF => ?_
  rcases x with _ | vx1_1
  · refine awp_sub (awp_loop' (z157 qvals) z159 (z158 qvals) (by intro x; rcases x with x | x <;> exact fun h => nomatch h) h4 (z160 qvals)) ?_
    refine awp_seq ?_
    refine awp_region ?_
    refine aR 2 ?_
    refine aE ?_
    refine awp_ret ?_
    exact oF hF [] []
  · refine awp_sub (awp_loop' (z157 qvals) z159 (z158 qvals) (by intro x; rcases x with x | x <;> exact fun h => nomatch h) h4 (z160 qvals)) ?_
    exact oF hF [] []

/-! ### beaconfleet/series.byDevice -/
def z625 (qa : api_Sample) (qb : api_Sample) (r : Int) : TV × Mem := (.v (.one (.d (.int .i64 r))), ⟨[], []⟩)

theorem z626 {qa : api_Sample} {qb : api_Sample} {r} (hF : z624 qa qb = some r) : Holds prog 114 [.v (.agg [.d (.str qa.Device), .d (.str qa.Metric), .d (.int .i64 qa.At), .d (.int .i64 qa.Value)]), .v (.agg [.d (.str qb.Device), .d (.str qb.Metric), .d (.int .i64 qb.At), .d (.int .i64 qb.Value)])] ⟨[], []⟩ (Is (z625 qa qb r)) := by
  unfold z624 at hF
  refine holds_of_awp hΓ (fn := f114) (c := cB f114) (A := 0) (nx := 0) (by kernel_rfl) (by kernel_rfl) (by kernel_rfl) (by kernel_rfl) (by kernel_rfl) (by kernel_rfl) (lowc_of (by kernel_rfl)) ?_
  show Awp prog 0 22 (cB f114) _ _
  refine awp_seq ?_
  refine awp_region ?_
  refine aR 3 ?_
  refine aE ?_
  refine awp_seq ?_
  refine bE hF fun _ h1 hF => ?_
  refine bE hF fun _ h2 hF => ?_
  refine bE hF fun vr h3 hF => ?_
  refine bE hF fun vr1 h4 hF => ?_
  refine aD ?_
  refine dR 4 ?_
  refine dC (z1004 h1) [] [] [] ?_
  refine dR 4 ?_
  refine dC (z1004 h2) [] [] [] ?_
  refine dR 4 ?_
  refine dC (z144 h3) [] [] [] ?_
  refine dR 1 ?_
  refine dC (z155 h4) [] [] [18000] ?_
  refine dR 1 ?_
  refine dE ?_
  refine awp_ret ?_
  exact oF hF [] []

/-! ### beaconfleet/series.Check -/
def z609 : Bool → AEx
  | _ => .normal

def z608 (ql : List api_Sample) (vx : Int) (vy2 : api_Sample) : Bool → St
  | vx4 => Mem.st ⟨[], [(0, [.d (.str vy2.Device), .d (.str vy2.Metric), .d (.int .i64 vy2.At), .d (.int .i64 vy2.Value)])]⟩ (tl [(0, .v (.one (.d (.lst (List.map api_Sample.enc ql))))), (3, .v (.one (.d (.int .i64 vx)))), (4, .v (.one (.box 0 0))), (8, .v (.one (.d (.lst (List.map api_Sample.enc ql))))), (9, .v (.one (.d (.int .i64 (ql.length : Int))))), (10, .v (.one (.d (.int .i64 vx)))), (15, .v (.one (.d (.bool vx4))))]) 1

def z607 (ql : List api_Sample) (vx : Int) (vy2 : api_Sample) : St := Mem.st ⟨[], [(0, [.d (.str vy2.Device), .d (.str vy2.Metric), .d (.int .i64 vy2.At), .d (.int .i64 vy2.Value)])]⟩ (tl [(0, .v (.one (.d (.lst (List.map api_Sample.enc ql))))), (3, .v (.one (.d (.int .i64 vx)))), (4, .v (.one (.box 0 0))), (8, .v (.one (.d (.lst (List.map api_Sample.enc ql))))), (9, .v (.one (.d (.int .i64 (ql.length : Int))))), (10, .v (.one (.d (.int .i64 vx))))]) 1

theorem z610 (ql : List api_Sample) (vx : Int) (vy2 : api_Sample) {r} (hF : z606 vy2 = some r) : Awp prog 0 50 (cL (cL (cR (cL (cL (cR (cR (cL (cL (cR (cL (cR (cR (cB f86)))))))))))))) (Out 0 z609 (z608 ql vx vy2) r) (z607 ql vx vy2) := by
  unfold z606 at hF
  refine bE hF fun vr3 h4 hF => ?_
  refine cE hF (fun h5 hF => ?_) fun h5 hF => ?_
  · refine awp_region ?_
    refine aR 2 ?_
    refine aC (z27 h4) [] [] [] ?_
    refine aB h5 ?_
    refine aR 7 ?_
    refine aE ?_
    exact oO hF [] [] rfl
  · refine bE hF fun vr4 h6 hF => ?_
    refine awp_region ?_
    refine aR 2 ?_
    refine aC (z27 h4) [] [] [] ?_
    refine aB h5 ?_
    refine aR 3 ?_
    refine aC (z27 h6) [] [] [] ?_
    refine aR 3 ?_
    refine aE ?_
    exact oO hF [] [] rfl

def z614 : Bool → AEx
  | _ => .normal

def z613 (ql : List api_Sample) (vx : Int) (vy2 : api_Sample) : Bool → St
  | vx5 => Mem.st ⟨[], [(0, [.d (.str vy2.Device), .d (.str vy2.Metric), .d (.int .i64 vy2.At), .d (.int .i64 vy2.Value)])]⟩ (tl [(0, .v (.one (.d (.lst (List.map api_Sample.enc ql))))), (3, .v (.one (.d (.int .i64 vx)))), (4, .v (.one (.box 0 0))), (8, .v (.one (.d (.lst (List.map api_Sample.enc ql))))), (9, .v (.one (.d (.int .i64 (ql.length : Int))))), (10, .v (.one (.d (.int .i64 vx)))), (26, .v (.one (.d (.bool vx5))))]) 1

def z612 (ql : List api_Sample) (vx : Int) (vy2 : api_Sample) : St := Mem.st ⟨[], [(0, [.d (.str vy2.Device), .d (.str vy2.Metric), .d (.int .i64 vy2.At), .d (.int .i64 vy2.Value)])]⟩ (tl [(0, .v (.one (.d (.lst (List.map api_Sample.enc ql))))), (3, .v (.one (.d (.int .i64 vx)))), (4, .v (.one (.box 0 0))), (8, .v (.one (.d (.lst (List.map api_Sample.enc ql))))), (9, .v (.one (.d (.int .i64 (ql.length : Int))))), (10, .v (.one (.d (.int .i64 vx))))]) 1

theorem z615 (ql : List api_Sample) (vx : Int) (vy2 : api_Sample) {r} (hF : z611 vy2 = some r) : Awp prog 0 50 (cL (cR (cR (cL (cR (cL (cL (cR (cR (cL (cL (cR (cL (cR (cR (cB f86)))))))))))))))) (Out 0 z614 (z613 ql vx vy2) r) (z612 ql vx vy2) := by
  unfold z611 at hF
  refine bE hF fun vr1_2 h9 hF => ?_
  refine cE hF (fun h10 hF => ?_) fun h10 hF => ?_
  · refine awp_region ?_
    refine aR 2 ?_
    refine aC (z47 h9) [] [] [] ?_
    refine aB h10 ?_
    refine aR 6 ?_
    refine aE ?_
    exact oO hF [] [] rfl
  · refine bE hF fun vr5 h11 hF => ?_
    refine awp_region ?_
    refine aR 2 ?_
    refine aC (z47 h9) [] [] [] ?_
    refine aB h10 ?_
    refine aR 3 ?_
    refine aC (z77 h11) [] [] [] ?_
    refine aR 2 ?_
    refine aE ?_
    exact oO hF [] [] rfl

def z619 : Bool → AEx
  | _ => .normal

def z618 (ql : List api_Sample) (vx : Int) (vy2 : api_Sample) : Bool → St
  | vx6 => Mem.st ⟨[], []⟩ (tl [(0, .v (.one (.d (.lst (List.map api_Sample.enc ql))))), (8, .v (.one (.d (.lst (List.map api_Sample.enc ql))))), (9, .v (.one (.d (.int .i64 (ql.length : Int))))), (10, .v (.one (.d (.int .i64 vx)))), (36, .v (.one (.d (.bool vx6))))]) 0

def z617 (ql : List api_Sample) (vx : Int) (vy2 : api_Sample) : St := Mem.st ⟨[], [(0, [.d (.str vy2.Device), .d (.str vy2.Metric), .d (.int .i64 vy2.At), .d (.int .i64 vy2.Value)])]⟩ (tl [(0, .v (.one (.d (.lst (List.map api_Sample.enc ql))))), (3, .v (.one (.d (.int .i64 vx)))), (4, .v (.one (.box 0 0))), (8, .v (.one (.d (.lst (List.map api_Sample.enc ql))))), (9, .v (.one (.d (.int .i64 (ql.length : Int))))), (10, .v (.one (.d (.int .i64 vx))))]) 1

theorem z620 (ql : List api_Sample) (vx : Int) (vy2 : api_Sample) {r} (hF : z616 ql vx vy2 = some r) : Awp prog 0 50 (cL (cR (cR (cR (cR (cL (cR (cL (cL (cR (cR (cL (cL (cR (cL (cR (cR (cB f86)))))))))))))))))) (Out 0 z619 (z618 ql vx vy2) r) (z617 ql vx vy2) := by
  unfold z616 at hF
  refine cE hF (fun h14 hF => ?_) fun h14 hF => ?_
  · refine bE hF fun vy3 h15 hF => ?_
    refine bE hF fun vr2_2 h16 hF => ?_
    refine aD ?_
    refine dR 1 ?_
    refine dB h14 ?_
    refine dR 5 ?_
    refine dX (x_idx api_Sample.enc h15) ?_
    refine dR 1 ?_
    refine dC (z626 h16) [] [] [] ?_
    refine dR 3 ?_
    refine dE ?_
    exact oO hF [] [] rfl
  · refine aD ?_
    refine dR 1 ?_
    refine dB h14 ?_
    refine dR 11 ?_
    refine dE ?_
    exact oO hF [] [] rfl

def z604 : Unit ⊕ Int → AEx
  | .inl _ => .exit 0
  | .inr _ => .ret

def z603 (ql : List api_Sample) : Unit ⊕ Int → St
  | .inl _ => Mem.st ⟨[], []⟩ (tl []) 0
  | .inr vx7 => Mem.st ⟨[], []⟩ (tl [(2, .v (.one (.d (.int .i64 vx7))))]) 0

def z602 (ql : List api_Sample) : Int → St
  | vx => Mem.st ⟨[], []⟩ (tl [(0, .v (.one (.d (.lst (List.map api_Sample.enc ql))))), (8, .v (.one (.d (.lst (List.map api_Sample.enc ql))))), (9, .v (.one (.d (.int .i64 (ql.length : Int))))), (10, .v (.one (.d (.int .i64 vx))))]) 0

theorem z605 (ql : List api_Sample) (vx : Int) (r : (Int) ⊕ (Unit ⊕ Int)) (hF : z601 ql vx = some r) : Awp prog 0 50 (cL (cL (cR (cL (cR (cR (cB f86))))))) (Out 0 (kk z604) (SS (z602 ql) (z603 ql)) r) (z602 ql vx) := by
  unfold z601 at hF
  refine awp_seq ?_
  refine awp_region ?_
  refine aR 1 ?_
  refine aE ?_
  refine awp_seq ?_
  refine cE hF (fun h2 hF => ?_) fun h2 hF => ?_
  · refine awp_true (by kernel_rfl) h2 ?_
    refine awp_skip ?_
    refine awp_seq ?_
    refine awp_block ?_
    refine awp_seq ?_
    refine bE hF fun vy2 h3 hF => ?_
    refine awp_region ?_
    refine aR 1 ?_
    refine aX (x_idx api_Sample.enc h3) ?_
    refine aR 4 ?_
    refine aE ?_
    refine awp_block ?_
    refine awp_seq ?_
    refine awp_to (st' := z607 ql vx vy2) (oT [(0, 4000)] []) ?_
    refine bE hF fun vx4_1 h7 hF => ?_
    refine awp_sub (z610 ql vx vy2 h7) ?_
    refine cE hF (fun h8 hF => ?_) fun h8 hF => ?_
    · refine awp_true (by kernel_rfl) h8 ?_
      refine awp_seq ?_
      refine awp_region ?_
      refine aR 1 ?_
      refine aE ?_
      refine awp_ret ?_
      exact oO hF [] [] rfl
    · refine awp_false (by kernel_rfl) h8 ?_
      refine awp_seq ?_
      refine awp_to (st' := z612 ql vx vy2) (oT [] []) ?_
      refine bE hF fun vx5_1 h12 hF => ?_
      refine awp_sub (z615 ql vx vy2 h12) ?_
      refine cE hF (fun h13 hF => ?_) fun h13 hF => ?_
      · refine awp_true (by kernel_rfl) h13 ?_
        refine awp_seq ?_
        refine awp_region ?_
        refine aR 1 ?_
        refine aE ?_
        refine awp_ret ?_
        exact oO hF [] [] rfl
      · refine awp_false (by kernel_rfl) h13 ?_
        refine awp_seq ?_
        refine awp_to (st' := z617 ql vx vy2) (oT [] []) ?_
        refine bE hF fun vx6_1 h17 hF => ?_
        refine awp_sub (z620 ql vx vy2 h17) ?_
        refine cE hF (fun h18 hF => ?_) fun h18 hF => ?_
        · refine awp_true (by kernel_rfl) h18 ?_
          refine awp_seq ?_
          refine awp_region ?_
          refine aR 1 ?_
          refine aE ?_
          refine awp_ret ?_
          exact oO hF [] [] rfl
        · refine awp_false (by kernel_rfl) h18 ?_
          refine awp_skip ?_
          refine awp_region ?_
          refine aR 2 ?_
          refine aE ?_
          exact oO hF [] [] rfl
  · refine awp_false (by kernel_rfl) h2 ?_
    refine awp_exit ?_
    exact oO hF [] [] rfl

def z599 (ql : List api_Sample) (r : Int) : TV × Mem := (.v (.one (.d (.int .i64 r))), ⟨[], []⟩)

theorem z600 {ql : List api_Sample} {r} (hF : z587 ql = some r) : Holds prog 86 [.v (.one (.d (.lst (List.map api_Sample.enc ql))))] ⟨[], []⟩ (Is (z599 ql r)) := by
  unfold z587 at hF
  refine holds_of_awp hΓ (fn := f86) (c := cB f86) (A := 0) (nx := 0) (by kernel_rfl) (by kernel_rfl) (by kernel_rfl) (by kernel_rfl) (by kernel_rfl) (by kernel_rfl) (lowc_of (by kernel_rfl)) ?_
  show Awp prog 0 50 (cB f86) _ _
  refine awp_seq ?_
  refine awp_region ?_
  refine aR 1 ?_
  refine aE ?_
  refine awp_seq ?_
  refine awp_seq ?_
  refine awp_region ?_
  refine aR 1 ?_
  refine aL api_Sample.enc ql ?_
  refine aR 1 ?_
  refine aE ?_
  refine cE hF (fun h1 hF => ?_) fun h1 hF => ?_
  · refine awp_true (by kernel_rfl) h1 ?_
    refine awp_seq ?_
    refine awp_region ?_
    refine aR 1 ?_
    refine aE ?_
    refine awp_ret ?_
    exact oF hF [] []
  · refine awp_false (by kernel_rfl) h1 ?_
    refine awp_skip ?_
    refine awp_seq ?_
    refine awp_seq ?_
    refine awp_region ?_
    refine aR 1 ?_
    refine aL api_Sample.enc ql ?_
    refine aR 1 ?_
    refine aE ?_
    refine awp_block ?_
    refine awp_to (st' := z602 ql 0) (oT [] []) ?_
    refine bE hF fun x h19 hF => ?_
    rcases x with _ | vx7_1
    · refine awp_sub (awp_loop' (z602 ql) z604 (z603 ql) (by intro x; rcases x with x | x <;> exact fun h => nomatch h) h19 (z605 ql)) ?_
      refine awp_seq ?_
      refine awp_region ?_
      refine aR 1 ?_
      refine aE ?_
      refine awp_ret ?_
      exact oF hF [] []
    · refine awp_sub (awp_loop' (z602 ql) z604 (z603 ql) (by intro x; rcases x with x | x <;> exact fun h => nomatch h) h19 (z605 ql)) ?_
      exact oF hF [] []

/-! ### beaconfleet/series.CheckSeries$1 -/
def z595 : Bool → AEx
  | _ => .normal

def z594 (qs : api_Sample) (qx : List api_Sample) : Bool → St
  | vx => Mem.st ⟨[], [(0, [.d (.lst (List.map api_Sample.enc qx))])]⟩ (tl [(3, .v (.one (.d (.bool vx))))]) 1

def z593 (qs : api_Sample) (qx : List api_Sample) : St := Mem.st ⟨[], [(0, [.d (.lst (List.map api_Sample.enc qx))]), (1, [.d (.str qs.Device), .d (.str qs.Metric), .d (.int .i64 qs.At), .d (.int .i64 qs.Value)])]⟩ (tl [(1, .v (.one (.box 0 0))), (2, .v (.one (.box 1 0)))]) 2

theorem z596 (qs : api_Sample) (qx : List api_Sample) {r} (hF : z592 qs qx = some r) : Awp prog 1 20 (cL (cR (cB f88))) (Out 1 z595 (z594 qs qx) r) (z593 qs qx) := by
  unfold z592 at hF
  refine bE hF fun vy h1 hF => ?_
  refine cE hF (fun h2 hF => ?_) fun h2 hF => ?_
  · refine aD ?_
    refine dR 3 ?_
    refine dX (x_idx api_Sample.enc h1) ?_
    refine dR 2 ?_
    refine dB h2 ?_
    refine dR 10 ?_
    refine dE ?_
    exact oO hF [] [] rfl
  · refine aD ?_
    refine dR 3 ?_
    refine dX (x_idx api_Sample.enc h1) ?_
    refine dR 2 ?_
    refine dB h2 ?_
    refine dR 4 ?_
    refine dX (x_idx api_Sample.enc h1) ?_
    refine dR 5 ?_
    refine dE ?_
    exact oO hF [] [] rfl

def z590 (qs : api_Sample) (qx : List api_Sample) (r : Bool) : TV × Mem := (.v (.one (.d (.bool r))), ⟨[], [(0, [.d (.lst (List.map api_Sample.enc qx))])]⟩)

theorem z591 {qs : api_Sample} {qx : List api_Sample} {r} (hF : z589 qs qx = some r) : Holds prog 88 [.v (.agg [.d (.str qs.Device), .d (.str qs.Metric), .d (.int .i64 qs.At), .d (.int .i64 qs.Value)]), .v (.one (.box 0 0))] ⟨[], [(0, [.d (.lst (List.map api_Sample.enc qx))])]⟩ (Is (z590 qs qx r)) := by
  unfold z589 at hF
  refine holds_of_awp hΓ (fn := f88) (c := cB f88) (A := 1) (nx := 1) (by kernel_rfl) (by kernel_rfl) (by kernel_rfl) (by kernel_rfl) (by kernel_rfl) (by kernel_rfl) (lowc_of (by kernel_rfl)) ?_
  show Awp prog 1 20 (cB f88) _ _
  refine awp_seq ?_
  refine awp_region ?_
  refine aR 2 ?_
  refine aE ?_
  refine awp_seq ?_
  refine awp_to (st' := z593 qs qx) (oT [] []) ?_
  refine bE hF fun vx1 h3 hF => ?_
  refine awp_sub (z596 qs qx h3) ?_
  refine awp_ret ?_
  exact oF hF [] []

/-! ### slices.IndexFunc[[]beaconfleet/api.Sample,beaconfleet/api.Sample] -/
def z735 : Unit ⊕ Int → AEx
  | .inl _ => .exit 0
  | .inr _ => .ret

def z734 (qs : List api_Sample) : Unit ⊕ Int → St
  | .inl _ => Mem.st ⟨[], [(0, [.d (.lst (List.map api_Sample.enc qs))])]⟩ (tl []) 1
  | .inr vx1 => Mem.st ⟨[], [(0, [.d (.lst (List.map api_Sample.enc qs))])]⟩ (tl [(4, .v (.one (.d (.int .i64 vx1))))]) 1

def z733 (qs : List api_Sample) : Int → St
  | vx => Mem.st ⟨[], [(0, [.d (.lst (List.map api_Sample.enc qs))])]⟩ (tl [(0, .v (.one (.d (.lst (List.map api_Sample.enc qs))))), (1, .v (.one (.fn 88 [0]))), (7, .v (.one (.d (.int .i64 (qs.length : Int))))), (8, .v (.one (.d (.int .i64 vx))))]) 1

theorem z736 (qs : List api_Sample) (vx : Int) (r : (Int) ⊕ (Unit ⊕ Int)) (hF : z732 qs vx = some r) : Awp prog 1 19 (cL (cL (cR (cL (cR (cB f115)))))) (Out 1 (kk z735) (SS (z733 qs) (z734 qs)) r) (z733 qs vx) := by
  unfold z732 at hF
  refine awp_seq ?_
  refine awp_region ?_
  refine aR 1 ?_
  refine aE ?_
  refine awp_seq ?_
  refine cE hF (fun h1 hF => ?_) fun h1 hF => ?_
  · refine awp_true (by kernel_rfl) h1 ?_
    refine awp_skip ?_
    refine awp_seq ?_
    refine awp_block ?_
    refine awp_seq ?_
    refine awp_region ?_
    refine aR 2 ?_
    refine aE ?_
    refine awp_seq ?_
    refine bE hF fun vy1 h2 hF => ?_
    refine bE hF fun vr1 h3 hF => ?_
    refine awp_region ?_
    refine aR 3 ?_
    refine aX (x_idx api_Sample.enc h2) ?_
    refine aR 1 ?_
    refine aC (z591 h3) [] [] [] ?_
    refine aE ?_
    refine cE hF (fun h4 hF => ?_) fun h4 hF => ?_
    · refine awp_true (by kernel_rfl) h4 ?_
      refine awp_seq ?_
      refine awp_region ?_
      refine aR 2 ?_
      refine aE ?_
      refine awp_ret ?_
      exact oO hF [] [] rfl
    · refine awp_false (by kernel_rfl) h4 ?_
      refine awp_skip ?_
      refine awp_region ?_
      refine aR 2 ?_
      refine aE ?_
      exact oO hF [] [] rfl
  · refine awp_false (by kernel_rfl) h1 ?_
    refine awp_exit ?_
    exact oO hF [] [] rfl

def z730 (qs : List api_Sample) (r : Int) : TV × Mem := (.v (.one (.d (.int .i64 r))), ⟨[], [(0, [.d (.lst (List.map api_Sample.enc qs))])]⟩)

theorem z731 {qs : List api_Sample} {r} (hF : z729 qs = some r) : Holds prog 115 [.v (.one (.d (.lst (List.map api_Sample.enc qs)))), .v (.one (.fn 88 [0]))] ⟨[], [(0, [.d (.lst (List.map api_Sample.enc qs))])]⟩ (Is (z730 qs r)) := by
  unfold z729 at hF
  refine holds_of_awp hΓ (fn := f115) (c := cB f115) (A := 1) (nx := 1) (by kernel_rfl) (by kernel_rfl) (by kernel_rfl) (by kernel_rfl) (by kernel_rfl) (by kernel_rfl) (lowc_of (by kernel_rfl)) ?_
  show Awp prog 1 19 (cB f115) _ _
  refine awp_seq ?_
  refine awp_region ?_
  refine aR 1 ?_
  refine aE ?_
  refine awp_seq ?_
  refine awp_seq ?_
  refine awp_region ?_
  refine aR 1 ?_
  refine aL api_Sample.enc qs ?_
  refine aR 1 ?_
  refine aE ?_
  refine awp_block ?_
  refine awp_to (st' := z733 qs 0) (oT [] []) ?_
  refine bE hF fun x h5 hF => ?_
  rcases x with _ | vx1_1
  · refine awp_sub (awp_loop' (z733 qs) z735 (z734 qs) (by intro x; rcases x with x | x <;> exact fun h => nomatch h) h5 (z736 qs)) ?_
    refine awp_seq ?_
    refine awp_region ?_
    refine aR 1 ?_
    refine aE ?_
    refine awp_ret ?_
    exact oF hF [] []
  · refine awp_sub (awp_loop' (z733 qs) z735 (z734 qs) (by intro x; rcases x with x | x <;> exact fun h => nomatch h) h5 (z736 qs)) ?_
    exact oF hF [] []

/-! ### slices.ContainsFunc[[]beaconfleet/api.Sample,beaconfleet/api.Sample] -/
def z705 (qs : List api_Sample) (r : Bool) : TV × Mem := (.v (.one (.d (.bool r))), ⟨[], [(0, [.d (.lst (List.map api_Sample.enc qs))])]⟩)

theorem z706 {qs : List api_Sample} {r} (hF : z704 qs = some r) : Holds prog 87 [.v (.one (.d (.lst (List.map api_Sample.enc qs)))), .v (.one (.fn 88 [0]))] ⟨[], [(0, [.d (.lst (List.map api_Sample.enc qs))])]⟩ (Is (z705 qs r)) := by
  unfold z704 at hF
  refine holds_of_awp hΓ (fn := f87) (c := cB f87) (A := 1) (nx := 1) (by kernel_rfl) (by kernel_rfl) (by kernel_rfl) (by kernel_rfl) (by kernel_rfl) (by kernel_rfl) (lowc_of (by kernel_rfl)) ?_
  show Awp prog 1 9 (cB f87) _ _
  refine awp_seq ?_
  refine awp_region ?_
  refine aR 1 ?_
  refine aE ?_
  refine awp_seq ?_
  refine bE hF fun vr2 h1 hF => ?_
  refine awp_region ?_
  refine aR 2 ?_
  refine aC (z731 h1) [] [] [] ?_
  refine aR 2 ?_
  refine aE ?_
  refine awp_ret ?_
  exact oF hF [] []

/-! ### beaconfleet/series.CheckSeries -/
def z597 (ql : List api_Sample) (r : Int) : TV × Mem := (.v (.one (.d (.int .i64 r))), ⟨[], []⟩)

theorem z598 {ql : List api_Sample} {r} (hF : z588 ql = some r) : Holds prog 54 [.v (.one (.d (.lst (List.map api_Sample.enc ql))))] ⟨[], []⟩ (Is (z597 ql r)) := by
  unfold z588 at hF
  refine holds_of_awp hΓ (fn := f54) (c := cB f54) (A := 0) (nx := 0) (by kernel_rfl) (by kernel_rfl) (by kernel_rfl) (by kernel_rfl) (by kernel_rfl) (by kernel_rfl) (lowc_of (by kernel_rfl)) ?_
  show Awp prog 0 12 (cB f54) _ _
  refine awp_seq ?_
  refine awp_region ?_
  refine aR 2 ?_
  refine aE ?_
  refine awp_seq ?_
  refine awp_seq ?_
  refine bE hF fun vr6 h1 hF => ?_
  refine awp_region ?_
  refine aR 1 ?_
  refine aC (z600 h1) [] [] [] ?_
  refine aR 1 ?_
  refine aE ?_
  refine awp_seq ?_
  refine awp_region ?_
  refine aR 2 ?_
  refine aE ?_
  refine cE hF (fun h2 hF => ?_) fun h2 hF => ?_
  · refine awp_true (by kernel_rfl) h2 ?_
    refine awp_seq ?_
    refine awp_region ?_
    refine aR 2 ?_
    refine aE ?_
    refine awp_ret ?_
    exact oF hF [] []
  · refine awp_false (by kernel_rfl) h2 ?_
    refine awp_skip ?_
    refine awp_seq ?_
    refine awp_seq ?_
    refine bE hF fun vr h3 hF => ?_
    refine awp_region ?_
    refine aR 2 ?_
    refine aC (z706 h3) [] [] [] ?_
    refine aE ?_
    refine cE hF (fun h4 hF => ?_) fun h4 hF => ?_
    · refine awp_true (by kernel_rfl) h4 ?_
      refine awp_seq ?_
      refine awp_region ?_
      refine aR 1 ?_
      refine aE ?_
      refine awp_ret ?_
      exact oF hF [] []
    · refine awp_false (by kernel_rfl) h4 ?_
      refine awp_skip ?_
      refine awp_seq ?_
      refine awp_region ?_
      refine aR 1 ?_
      refine aE ?_
      refine awp_ret ?_
      exact oF hF [] []

/-! ### beaconfleet/series.seven -/
def z649 : ((List Int) × Int) → AEx
  | _ => .exit 0

def z648 : ((List Int) × Int) → St
  | (vb1, vn1) => Mem.st ⟨[(0, ⟨5, 1, List.map (encI .u8) vb1⟩)], []⟩ (tl [(0, .v (.one (.own 0 none))), (1, .v (.one (.d (.int .u64 vn1))))]) 1

def z647 : (List Int) × Int → St
  | (vb, vn) => Mem.st ⟨[(0, ⟨5, 1, List.map (encI .u8) vb⟩)], []⟩ (tl [(0, .v (.one (.own 0 none))), (1, .v (.one (.d (.int .u64 vn))))]) 1

theorem z650 (s : (List Int) × Int) (r : ((List Int) × Int) ⊕ (((List Int) × Int))) (hF : z646  s = some r) : Awp prog 0 21 (cL (cL (cL (cR (cB f89))))) (Out 0 (kk z649) (SS (z647 ) (z648 )) r) (z647  s) := by
  obtain ⟨vb, vn⟩ := s
  unfold z646 at hF
  refine awp_seq ?_
  refine awp_seq ?_
  refine awp_region ?_
  refine aR 2 ?_
  refine aE ?_
  refine cE hF (fun h1 hF => ?_) fun h1 hF => ?_
  · refine awp_true (by kernel_rfl) h1 ?_
    refine awp_skip ?_
    refine awp_block ?_
    refine gE hF fun h2 hF => ?_
    refine awp_region ?_
    refine aR 6 ?_
    refine aX (x_app (encI .u8) 0 h2) ?_
    refine aR 4 ?_
    refine aE ?_
    exact oO hF [(0, 8001)] [] rfl
  · refine awp_false (by kernel_rfl) h1 ?_
    refine awp_exit ?_
    exact oO hF [] [] rfl

def z644 (qn : Int) (r : (List Int)) : TV × Mem := (.v (.one (.own 0 none)), ⟨[(0, ⟨5, 1, List.map (encI .u8) r⟩)], []⟩)

theorem z645 {qn : Int} {r} (hF : z643 qn = some r) : Holds prog 89 [.v (.one (.nil)), .v (.one (.d (.int .u64 qn)))] ⟨[], []⟩ (Is (z644 qn r)) := by
  unfold z643 at hF
  refine holds_of_awp hΓ (fn := f89) (c := cB f89) (A := 0) (nx := 0) (by kernel_rfl) (by kernel_rfl) (by kernel_rfl) (by kernel_rfl) (by kernel_rfl) (by kernel_rfl) (lowc_of (by kernel_rfl)) ?_
  show Awp prog 0 21 (cB f89) _ _
  refine awp_seq ?_
  refine awp_region ?_
  refine aR 1 ?_
  refine aE ?_
  refine awp_seq ?_
  refine awp_block ?_
  refine awp_to (st' := z647  ([], qn)) (oT [] [0]) ?_
  refine bE hF fun x h3 hF => ?_
  obtain ⟨vb1_1, vn1_1⟩ := x
  refine awp_sub (awp_loop' (z647 ) z649 (z648 ) (by intro x; exact fun h => nomatch h) h3 (z650 )) ?_
  refine awp_seq ?_
  refine gE hF fun h4 hF => ?_
  refine awp_region ?_
  refine aR 4 ?_
  refine aX (x_app (encI .u8) 0 h4) ?_
  refine aR 1 ?_
  refine aE ?_
  refine awp_ret ?_
  exact oF hF [(0, 4001)] []

/-! ### beaconfleet/series.doubled -/
def z628 (qn : Int) (r : Int) : TV × Mem := (.v (.one (.d (.int .u64 r))), ⟨[], []⟩)

theorem z629 {qn : Int} {r} (hF : z627 qn = some r) : Holds prog 90 [.v (.one (.d (.int .i64 qn)))] ⟨[], []⟩ (Is (z628 qn r)) := by
  unfold z627 at hF
  refine holds_of_awp hΓ (fn := f90) (c := cB f90) (A := 0) (nx := 0) (by kernel_rfl) (by kernel_rfl) (by kernel_rfl) (by kernel_rfl) (by kernel_rfl) (by kernel_rfl) (lowc_of (by kernel_rfl)) ?_
  show Awp prog 0 12 (cB f90) _ _
  refine awp_seq ?_
  refine awp_region ?_
  refine aR 1 ?_
  refine aE ?_
  refine awp_seq ?_
  refine awp_seq ?_
  refine awp_region ?_
  refine aR 2 ?_
  refine aE ?_
  refine cE hF (fun h1 hF => ?_) fun h1 hF => ?_
  · refine awp_true (by kernel_rfl) h1 ?_
    refine awp_seq ?_
    refine awp_region ?_
    refine aR 5 ?_
    refine aE ?_
    refine awp_ret ?_
    exact oF hF [] []
  · refine awp_false (by kernel_rfl) h1 ?_
    refine awp_skip ?_
    refine awp_seq ?_
    refine awp_region ?_
    refine aR 4 ?_
    refine aE ?_
    refine awp_ret ?_
    exact oF hF [] []

/-! ### beaconfleet/series.seven -/
def z657 : ((List Int) × Int) → AEx
  | _ => .exit 0

def z656 : ((List Int) × Int) → St
  | (vb1, vn1) => Mem.st ⟨[(1, ⟨5, 1, List.map (encI .u8) vb1⟩)], []⟩ (tl [(0, .v (.one (.own 1 none))), (1, .v (.one (.d (.int .u64 vn1))))]) 2

def z655 : (List Int) × Int → St
  | (vb, vn) => Mem.st ⟨[(1, ⟨5, 1, List.map (encI .u8) vb⟩)], []⟩ (tl [(0, .v (.one (.own 1 none))), (1, .v (.one (.d (.int .u64 vn))))]) 2

theorem z658 (s : (List Int) × Int) (r : ((List Int) × Int) ⊕ (((List Int) × Int))) (hF : z654  s = some r) : Awp prog 1 21 (cL (cL (cL (cR (cB f89))))) (Out 1 (kk z657) (SS (z655 ) (z656 )) r) (z655  s) := by
  obtain ⟨vb, vn⟩ := s
  unfold z654 at hF
  refine awp_seq ?_
  refine awp_seq ?_
  refine awp_region ?_
  refine aR 2 ?_
  refine aE ?_
  refine cE hF (fun h1 hF => ?_) fun h1 hF => ?_
  · refine awp_true (by kernel_rfl) h1 ?_
    refine awp_skip ?_
    refine awp_block ?_
    refine gE hF fun h2 hF => ?_
    refine awp_region ?_
    refine aR 6 ?_
    refine aX (x_app (encI .u8) 1 h2) ?_
    refine aR 4 ?_
    refine aE ?_
    exact oO hF [(1, 8002)] [] rfl
  · refine awp_false (by kernel_rfl) h1 ?_
    refine awp_exit ?_
    exact oO hF [] [] rfl

def z652 (qb : List Int) (qn : Int) (r : (List Int)) : TV × Mem := (.v (.one (.own 1 none)), ⟨[(1, ⟨5, 1, List.map (encI .u8) r⟩)], []⟩)

theorem z653 {qb : List Int} {qn : Int} {r} (hF : z651 qb qn = some r) : Holds prog 89 [.v (.one (.own 0 none)), .v (.one (.d (.int .u64 qn)))] ⟨[(0, ⟨5, 1, List.map (encI .u8) qb⟩)], []⟩ (Is (z652 qb qn r)) := by
  unfold z651 at hF
  refine holds_of_awp hΓ (fn := f89) (c := cB f89) (A := 1) (nx := 1) (by kernel_rfl) (by kernel_rfl) (by kernel_rfl) (by kernel_rfl) (by kernel_rfl) (by kernel_rfl) (lowc_of (by kernel_rfl)) ?_
  show Awp prog 1 21 (cB f89) _ _
  refine awp_seq ?_
  refine awp_region ?_
  refine aR 1 ?_
  refine aE ?_
  refine awp_seq ?_
  refine awp_block ?_
  refine awp_to (st' := z655  (qb, qn)) (oT [(1, 0)] []) ?_
  refine bE hF fun x h3 hF => ?_
  obtain ⟨vb1_1, vn1_1⟩ := x
  refine awp_sub (awp_loop' (z655 ) z657 (z656 ) (by intro x; exact fun h => nomatch h) h3 (z658 )) ?_
  refine awp_seq ?_
  refine gE hF fun h4 hF => ?_
  refine awp_region ?_
  refine aR 4 ?_
  refine aX (x_app (encI .u8) 1 h4) ?_
  refine aR 1 ?_
  refine aE ?_
  refine awp_ret ?_
  exact oF hF [(1, 4002)] []

/-! ### beaconfleet/series.pack -/
def z641 : Int → AEx
  | _ => .normal

def z640 (ql : List api_Sample) (vat : Int) (vby : Int) (vx : Int) (vy1 : api_Sample) (vr8 : List Int) : Int → St
  | vby2 => Mem.st ⟨[(1, ⟨5, 1, List.map (encI .u8) vr8⟩)], [(0, [.d (.str vy1.Device), .d (.str vy1.Metric), .d (.int .i64 vy1.At), .d (.int .i64 vy1.Value)])]⟩ (tl [(3, .v (.one (.own 1 none))), (5, .v (.one (.d (.int .i64 vby2)))), (8, .v (.one (.box 0 0))), (14, .v (.one (.d (.lst (List.map api_Sample.enc ql))))), (15, .v (.one (.d (.int .i64 (ql.length : Int))))), (16, .v (.one (.d (.int .i64 vx))))]) 2

def z639 (ql : List api_Sample) (vat : Int) (vby : Int) (vx : Int) (vy1 : api_Sample) (vr8 : List Int) : St := Mem.st ⟨[(1, ⟨5, 1, List.map (encI .u8) vr8⟩)], [(0, [.d (.str vy1.Device), .d (.str vy1.Metric), .d (.int .i64 vy1.At), .d (.int .i64 vy1.Value)])]⟩ (tl [(3, .v (.one (.own 1 none))), (5, .v (.one (.d (.int .i64 vby)))), (7, .v (.one (.d (.int .i64 vx)))), (8, .v (.one (.box 0 0))), (9, .v (.one (.d (.int .i64 (IntKind.wrap .i64 (vy1.At - vat)))))), (14, .v (.one (.d (.lst (List.map api_Sample.enc ql))))), (15, .v (.one (.d (.int .i64 (ql.length : Int))))), (16, .v (.one (.d (.int .i64 vx))))]) 2

theorem z642 (ql : List api_Sample) (vat : Int) (vby : Int) (vx : Int) (vy1 : api_Sample) (vr8 : List Int) {r} (hF : z638 vat vby vx vy1 = some r) : Awp prog 0 47 (cL (cR (cR (cR (cR (cL (cL (cR (cR (cL (cL (cR (cL (cR (cR (cR (cB f55))))))))))))))))) (Out 0 z641 (z640 ql vat vby vx vy1 vr8) r) (z639 ql vat vby vx vy1 vr8) := by
  unfold z638 at hF
  refine awp_seq ?_
  refine awp_region ?_
  refine aR 2 ?_
  refine aE ?_
  refine cE hF (fun h8 hF => ?_) fun h8 hF => ?_
  · refine awp_true (by kernel_rfl) h8 ?_
    refine awp_region ?_
    refine aR 2 ?_
    refine aE ?_
    exact oO hF [] [] rfl
  · refine awp_false (by kernel_rfl) h8 ?_
    refine awp_skip ?_
    exact oO hF [] [] rfl

def z636 : (List Int) → AEx
  | _ => .exit 0

def z635 (ql : List api_Sample) : (List Int) → St
  | vout1 => Mem.st ⟨[(0, ⟨5, 1, List.map (encI .u8) vout1⟩)], []⟩ (tl [(3, .v (.one (.own 0 none)))]) 1

def z634 (ql : List api_Sample) : (List Int) × Int × Int × Int × Int → St
  | (vout, vat, vby, vvalue, vx) => Mem.st ⟨[(0, ⟨5, 1, List.map (encI .u8) vout⟩)], []⟩ (tl [(3, .v (.one (.own 0 none))), (4, .v (.one (.d (.int .i64 vat)))), (5, .v (.one (.d (.int .i64 vby)))), (6, .v (.one (.d (.int .i64 vvalue)))), (14, .v (.one (.d (.lst (List.map api_Sample.enc ql))))), (15, .v (.one (.d (.int .i64 (ql.length : Int))))), (16, .v (.one (.d (.int .i64 vx))))]) 1

theorem z637 (ql : List api_Sample) (s : (List Int) × Int × Int × Int × Int) (r : ((List Int) × Int × Int × Int × Int) ⊕ ((List Int))) (hF : z633 ql s = some r) : Awp prog 0 47 (cL (cL (cR (cL (cR (cR (cR (cB f55)))))))) (Out 0 (kk z636) (SS (z634 ql) (z635 ql)) r) (z634 ql s) := by
  obtain ⟨vout, vat, vby, vvalue, vx⟩ := s
  unfold z633 at hF
  refine awp_seq ?_
  refine awp_region ?_
  refine aR 1 ?_
  refine aE ?_
  refine awp_seq ?_
  refine cE hF (fun h2 hF => ?_) fun h2 hF => ?_
  · refine awp_true (by kernel_rfl) h2 ?_
    refine awp_skip ?_
    refine awp_seq ?_
    refine awp_block ?_
    refine awp_seq ?_
    refine bE hF fun vy1 h3 hF => ?_
    refine awp_region ?_
    refine aR 1 ?_
    refine aX (x_idx api_Sample.enc h3) ?_
    refine aR 4 ?_
    refine aE ?_
    refine awp_seq ?_
    refine awp_region ?_
    refine aR 5 ?_
    refine aE ?_
    refine awp_seq ?_
    refine bE hF fun vr5 h4 hF => ?_
    refine bE hF fun vr6 h5 hF => ?_
    refine awp_region ?_
    refine aR 4 ?_
    refine aC (z629 h4) [] [] [] ?_
    refine aC (z653 h5) [] [] [] ?_
    refine aR 1 ?_
    refine aE ?_
    refine awp_seq ?_
    refine bE hF fun vr7 h6 hF => ?_
    refine bE hF fun vr8 h7 hF => ?_
    refine awp_region ?_
    refine aR 5 ?_
    refine aC (z629 h6) [] [] [] ?_
    refine aC (z653 h7) [(0, 17002)] [] [] ?_
    refine aR 1 ?_
    refine aE ?_
    refine awp_seq ?_
    refine awp_to (st' := z639 ql vat vby vx vy1 vr8) (oT [(0, 4001), (1, 25002)] []) ?_
    refine bE hF fun vby2_1 h9 hF => ?_
    refine awp_sub (z642 ql vat vby vx vy1 vr8 h9) ?_
    refine aD ?_
    refine dR 6 ?_
    refine dE ?_
    refine awp_region ?_
    refine aR 2 ?_
    refine aE ?_
    exact oO hF [(0, 1)] [] rfl
  · refine awp_false (by kernel_rfl) h2 ?_
    refine awp_exit ?_
    exact oO hF [] [] rfl

def z631 (ql : List api_Sample) (r : (List Int)) : TV × Mem := (.v (.one (.own 0 none)), ⟨[(0, ⟨5, 1, List.map (encI .u8) r⟩)], []⟩)

theorem z632 {ql : List api_Sample} {r} (hF : z630 ql = some r) : Holds prog 55 [.v (.one (.d (.lst (List.map api_Sample.enc ql))))] ⟨[], []⟩ (Is (z631 ql r)) := by
  unfold z630 at hF
  refine holds_of_awp hΓ (fn := f55) (c := cB f55) (A := 0) (nx := 0) (by kernel_rfl) (by kernel_rfl) (by kernel_rfl) (by kernel_rfl) (by kernel_rfl) (by kernel_rfl) (lowc_of (by kernel_rfl)) ?_
  show Awp prog 0 47 (cB f55) _ _
  refine awp_seq ?_
  refine awp_region ?_
  refine aR 1 ?_
  refine aE ?_
  refine awp_seq ?_
  refine bE hF fun vr h1 hF => ?_
  refine awp_region ?_
  refine aR 1 ?_
  refine aL api_Sample.enc ql ?_
  refine aR 1 ?_
  refine aC (z645 h1) [] [] [] ?_
  refine aR 1 ?_
  refine aE ?_
  refine awp_seq ?_
  refine awp_region ?_
  refine aR 3 ?_
  refine aE ?_
  refine awp_seq ?_
  refine awp_seq ?_
  refine awp_region ?_
  refine aR 1 ?_
  refine aL api_Sample.enc ql ?_
  refine aR 1 ?_
  refine aE ?_
  refine awp_block ?_
  refine awp_to (st' := z634 ql (vr, 0, 0, 0, 0)) (oT [(0, 4000)] []) ?_
  refine bE hF fun vout1_1 h10 hF => ?_
  refine awp_sub (awp_loop' (z634 ql) z636 (z635 ql) (by intro x; exact fun h => nomatch h) h10 (z637 ql)) ?_
  refine awp_seq ?_
  refine awp_region ?_
  refine aR 2 ?_
  refine aE ?_
  refine awp_ret ?_
  exact oF hF [] []

/-! ### beaconfleet/series.Pack -/
def z622 (ql : List api_Sample) (r : (List Int) × Int) : TV × Mem := (.tup [.one (.own 1 none), .one (.d (.int .i64 r.2))], ⟨[(1, ⟨5, 1, List.map (encI .u8) r.1⟩)], []⟩)

theorem z623 {ql : List api_Sample} {r} (hF : z621 ql = some r) : Holds prog 29 [.v (.one (.own 0 none))] ⟨[(0, ⟨65, 4, List.map api_Sample.enc ql⟩)], []⟩ (Is (z622 ql r)) := by
  unfold z621 at hF
  refine holds_of_awp hΓ (fn := f29) (c := cB f29) (A := 1) (nx := 1) (by kernel_rfl) (by kernel_rfl) (by kernel_rfl) (by kernel_rfl) (by kernel_rfl) (by kernel_rfl) (lowc_of (by kernel_rfl)) ?_
  show Awp prog 1 12 (cB f29) _ _
  refine awp_seq ?_
  refine awp_region ?_
  refine aR 2 ?_
  refine aE ?_
  refine awp_to (oT (m := ⟨[], []⟩) (ts := [(0, .v (.one (.d (.lst (List.map api_Sample.enc ql)))))]) (nx := 1) [] []) ?_
  refine awp_seq ?_
  refine awp_seq ?_
  refine bE hF fun vr1 h1 hF => ?_
  refine awp_region ?_
  refine aR 1 ?_
  refine aC (z598 h1) [] [] [] ?_
  refine aR 1 ?_
  refine aE ?_
  refine awp_seq ?_
  refine awp_region ?_
  refine aR 2 ?_
  refine aE ?_
  refine cE hF (fun h2 hF => ?_) fun h2 hF => ?_
  · refine awp_true (by kernel_rfl) h2 ?_
    refine awp_seq ?_
    refine awp_region ?_
    refine aR 3 ?_
    refine aE ?_
    refine awp_ret ?_
    exact oF hF [] [1]
  · refine awp_false (by kernel_rfl) h2 ?_
    refine awp_skip ?_
    refine awp_seq ?_
    refine bE hF fun vr9 h3 hF => ?_
    refine awp_region ?_
    refine aR 1 ?_
    refine aC (z632 h3) [] [] [] ?_
    refine aR 2 ?_
    refine aE ?_
    refine awp_ret ?_
    exact oF hF [(1, 6001)] []

/-! ### internal/stringslite.IndexByte -/
def z1138 (qs : List UInt8) (qc : Int) (r : Unit) : TV × Mem := (.v (.one (.d (.int .i64 (Lib.indexByte qs qc.toNat.toUInt8)))), ⟨[], []⟩)

theorem z1139 {qs : List UInt8} {qc : Int} {r} (hF : z1137 qs qc = some r) : Holds prog 172 [.v (.one (.d (.str qs))), .v (.one (.d (.int .u8 qc)))] ⟨[], []⟩ (Is (z1138 qs qc r)) := by
  unfold z1137 at hF
  refine holds_of_awp hΓ (fn := f172) (c := cB f172) (A := 0) (nx := 0) (by kernel_rfl) (by kernel_rfl) (by kernel_rfl) (by kernel_rfl) (by kernel_rfl) (by kernel_rfl) (lowc_of (by kernel_rfl)) ?_
  show Awp prog 0 8 (cB f172) _ _
  refine awp_seq ?_
  refine awp_region ?_
  refine aR 1 ?_
  refine aE ?_
  refine awp_seq ?_
  refine awp_region ?_
  refine aR 2 ?_
  refine aS (does_indexByte (g := 183) (fn := f183) (a := qs) (c := qc) rfl (by kernel_rfl) (by kernel_rfl) (by kernel_rfl) (by kernel_rfl) (by kernel_rfl) (by kernel_rfl)) ?_
  refine aR 1 ?_
  refine aE ?_
  refine awp_ret ?_
  exact oF hF [] []

/-! ### internal/stringslite.Index -/
def z1145 : Bool → AEx
  | _ => .normal

def z1144 (qx : List UInt8) (qx1 : List UInt8) : Bool → St
  | vx => Mem.st ⟨[], []⟩ (tl [(0, .v (.one (.d (.str qx)))), (1, .v (.one (.d (.str qx1)))), (5, .v (.one (.d (.int .i64 (qx1.length : Int))))), (16, .v (.one (.d (.bool vx))))]) 0

def z1143 (qx : List UInt8) (qx1 : List UInt8) : St := Mem.st ⟨[], []⟩ (tl [(0, .v (.one (.d (.str qx)))), (1, .v (.one (.d (.str qx1)))), (5, .v (.one (.d (.int .i64 (qx1.length : Int)))))]) 0

theorem z1146 (qx : List UInt8) (qx1 : List UInt8) {r} (hF : z1142 qx qx1 = some r) : Awp prog 0 143 (cL (cL (cL (cR (cR (cB f145)))))) (Out 0 z1145 (z1144 qx qx1) r) (z1143 qx qx1) := by
  unfold z1142 at hF
  refine cE hF (fun h1 hF => ?_) fun h1 hF => ?_
  · refine awp_region ?_
    refine aR 1 ?_
    refine aB h1 ?_
    refine aR 6 ?_
    refine aE ?_
    exact oO hF [] [] rfl
  · refine awp_region ?_
    refine aR 1 ?_
    refine aB h1 ?_
    refine aR 6 ?_
    refine aE ?_
    exact oO hF [] [] rfl

def z1140 (qx : List UInt8) (qx1 : List UInt8) (r : Int) : TV × Mem := (.v (.one (.d (.int .i64 r))), ⟨[], []⟩)

theorem z1141 {qx : List UInt8} {qx1 : List UInt8} {r} (hF : z1136 qx qx1 = some r) : Holds prog 145 [.v (.one (.d (.str qx))), .v (.one (.d (.str qx1)))] ⟨[], []⟩ (Is (z1140 qx qx1 r)) := by
  unfold z1136 at hF
  refine holds_of_awp hΓ (fn := f145) (c := cB f145) (A := 0) (nx := 0) (by kernel_rfl) (by kernel_rfl) (by kernel_rfl) (by kernel_rfl) (by kernel_rfl) (by kernel_rfl) (lowc_of (by kernel_rfl)) ?_
  show Awp prog 0 143 (cB f145) _ _
  refine awp_seq ?_
  refine awp_region ?_
  refine aR 1 ?_
  refine aE ?_
  refine awp_seq ?_
  refine awp_region ?_
  refine aR 3 ?_
  refine aE ?_
  refine awp_seq ?_
  refine awp_block ?_
  refine awp_seq ?_
  refine awp_to (st' := z1143 qx qx1) (oT [] []) ?_
  refine bE hF fun vx1 h2 hF => ?_
  refine awp_sub (z1146 qx qx1 h2) ?_
  refine cE hF (fun h3 hF => ?_) fun h3 hF => ?_
  · refine awp_true (by kernel_rfl) h3 ?_
    refine awp_seq ?_
    refine awp_region ?_
    refine aR 1 ?_
    refine aE ?_
    refine awp_ret ?_
    exact oF hF [] []
  · refine awp_false (by kernel_rfl) h3 ?_
    refine awp_seq ?_
    refine awp_region ?_
    refine aR 3 ?_
    refine aE ?_
    refine cE hF (fun h4 hF => ?_) fun h4 hF => ?_
    · refine awp_true (by kernel_rfl) h4 ?_
      refine awp_seq ?_
      refine bE hF fun vc h5 hF => ?_
      refine bE hF fun _ h6 hF => ?_
      refine awp_region ?_
      refine aR 2 ?_
      refine aX (x_idxS h5) ?_
      refine aC (z1139 h6) [] [] [] ?_
      refine aR 1 ?_
      refine aE ?_
      refine awp_ret ?_
      exact oF hF [] []
    · refine awp_false (by kernel_rfl) h4 ?_
      refine awp_seq ?_
      refine awp_region ?_
      refine aR 5 ?_
      refine aE ?_
      refine cE hF (fun h7 hF => ?_) fun h7 hF => ?_
      · refine awp_true (by kernel_rfl) h7 ?_
        refine awp_seq ?_
        refine awp_region ?_
        refine aR 1 ?_
        refine aE ?_
        refine awp_ret ?_
        exact oF hF [] []
      · refine awp_false (by kernel_rfl) h7 ?_
        refine awp_seq ?_
        exact nE hF

/-! ### strings.Index -/
def z1017 (qs : List UInt8) (qsubstr : List UInt8) (r : Int) : TV × Mem := (.v (.one (.d (.int .i64 r))), ⟨[], []⟩)

theorem z1018 {qs : List UInt8} {qsubstr : List UInt8} {r} (hF : z1016 qs qsubstr = some r) : Holds prog 120 [.v (.one (.d (.str qs))), .v (.one (.d (.str qsubstr)))] ⟨[], []⟩ (Is (z1017 qs qsubstr r)) := by
  unfold z1016 at hF
  refine holds_of_awp hΓ (fn := f120) (c := cB f120) (A := 0) (nx := 0) (by kernel_rfl) (by kernel_rfl) (by kernel_rfl) (by kernel_rfl) (by kernel_rfl) (by kernel_rfl) (lowc_of (by kernel_rfl)) ?_
  show Awp prog 0 8 (cB f120) _ _
  refine awp_seq ?_
  refine awp_region ?_
  refine aR 1 ?_
  refine aE ?_
  refine awp_seq ?_
  refine bE hF fun vr h1 hF => ?_
  refine awp_region ?_
  refine aR 2 ?_
  refine aC (z1141 h1) [] [] [] ?_
  refine aR 1 ?_
  refine aE ?_
  refine awp_ret ?_
  exact oF hF [] []

/-! ### strings.Count -/
def z1011 : Int → AEx
  | _ => .ret

def z1010 (qsubstr : List UInt8) : Int → St
  | vx => Mem.st ⟨[], []⟩ (tl [(4, .v (.one (.d (.int .i64 vx))))]) 0

def z1009 (qsubstr : List UInt8) : (List UInt8) × Int → St
  | (vs, vn) => Mem.st ⟨[], []⟩ (tl [(0, .v (.one (.d (.str vs)))), (1, .v (.one (.d (.str qsubstr)))), (5, .v (.one (.d (.int .i64 vn))))]) 0

theorem z1012 (qsubstr : List UInt8) (s : (List UInt8) × Int) (r : ((List UInt8) × Int) ⊕ (Int)) (hF : z1008 qsubstr s = some r) : Awp prog 0 34 (cL (cL (cR (cR (cR (cR (cB f119))))))) (Out 0 (kk z1011) (SS (z1009 qsubstr) (z1010 qsubstr)) r) (z1009 qsubstr s) := by
  obtain ⟨vs, vn⟩ := s
  unfold z1008 at hF
  refine awp_block ?_
  refine awp_seq ?_
  refine bE hF fun vr1_1 h4 hF => ?_
  refine awp_region ?_
  refine aR 2 ?_
  refine aC (z1018 h4) [] [] [] ?_
  refine aR 1 ?_
  refine aE ?_
  refine awp_seq ?_
  refine awp_seq ?_
  refine awp_region ?_
  refine aR 2 ?_
  refine aE ?_
  refine cE hF (fun h5 hF => ?_) fun h5 hF => ?_
  · refine awp_true (by kernel_rfl) h5 ?_
    refine awp_seq ?_
    refine awp_region ?_
    refine aR 2 ?_
    refine aE ?_
    refine awp_ret ?_
    exact oO hF [] [] rfl
  · refine awp_false (by kernel_rfl) h5 ?_
    refine awp_skip ?_
    refine awp_seq ?_
    refine awp_region ?_
    refine aR 3 ?_
    refine aE ?_
    refine bE hF fun vs2 h6 hF => ?_
    refine awp_region ?_
    refine aR 5 ?_
    refine aX (x_sliceS h6) ?_
    refine aR 1 ?_
    refine aE ?_
    exact oO hF [] [] rfl

def z1006 (qs : List UInt8) (qsubstr : List UInt8) (r : Int) : TV × Mem := (.v (.one (.d (.int .i64 r))), ⟨[], []⟩)

theorem z1007 {qs : List UInt8} {qsubstr : List UInt8} {r} (hF : z1005 qs qsubstr = some r) : Holds prog 119 [.v (.one (.d (.str qs))), .v (.one (.d (.str qsubstr)))] ⟨[], []⟩ (Is (z1006 qs qsubstr r)) := by
  unfold z1005 at hF
  refine holds_of_awp hΓ (fn := f119) (c := cB f119) (A := 0) (nx := 0) (by kernel_rfl) (by kernel_rfl) (by kernel_rfl) (by kernel_rfl) (by kernel_rfl) (by kernel_rfl) (lowc_of (by kernel_rfl)) ?_
  show Awp prog 0 34 (cB f119) _ _
  refine awp_seq ?_
  refine awp_region ?_
  refine aR 1 ?_
  refine aE ?_
  refine awp_seq ?_
  refine awp_seq ?_
  refine awp_region ?_
  refine aR 3 ?_
  refine aE ?_
  refine cE hF (fun h1 hF => ?_) fun h1 hF => ?_
  · refine awp_true (by kernel_rfl) h1 ?_
    refine awp_seq ?_
    exact nE hF
  · refine awp_false (by kernel_rfl) h1 ?_
    refine awp_skip ?_
    refine awp_seq ?_
    refine awp_seq ?_
    refine awp_region ?_
    refine aR 3 ?_
    refine aE ?_
    refine cE hF (fun h2 hF => ?_) fun h2 hF => ?_
    · refine awp_true (by kernel_rfl) h2 ?_
      refine awp_seq ?_
      refine bE hF fun vc h3 hF => ?_
      refine awp_region ?_
      refine aR 2 ?_
      refine aX (x_idxS h3) ?_
      refine aS (does_count (g := 144) (fn := f144) (a := qs) (c := (vc.toNat : Int)) rfl (by kernel_rfl) (by kernel_rfl) (by kernel_rfl) (by kernel_rfl) (by kernel_rfl) (by kernel_rfl)) ?_
      refine aR 1 ?_
      refine aE ?_
      refine awp_ret ?_
      exact oF hF [] []
    · refine awp_false (by kernel_rfl) h2 ?_
      refine awp_skip ?_
      refine awp_seq ?_
      refine awp_region ?_
      refine aR 1 ?_
      refine aE ?_
      refine awp_block ?_
      refine awp_to (st' := z1009 qsubstr (qs, 0)) (oT [] []) ?_
      refine bE hF fun vx1 h7 hF => ?_
      refine awp_sub (awp_loop' (z1009 qsubstr) z1011 (z1010 qsubstr) (by intro x; exact fun h => nomatch h) h7 (z1012 qsubstr)) ?_
      exact oF hF [] []

/-! ### strings.genSplit -/
def z1047 : Int → AEx
  | _ => .normal

def z1046 (qx : List UInt8) (qx1 : List UInt8) (qx2 : Int) (qx3 : Int) : Int → St
  | vx => Mem.st ⟨[], []⟩ (tl [(0, .v (.one (.d (.str qx)))), (1, .v (.one (.d (.str qx1)))), (2, .v (.one (.d (.int .i64 qx2)))), (3, .v (.one (.d (.int .i64 vx))))]) 0

def z1045 (qx : List UInt8) (qx1 : List UInt8) (qx2 : Int) (qx3 : Int) : St := Mem.st ⟨[], []⟩ (tl [(0, .v (.one (.d (.str qx)))), (1, .v (.one (.d (.str qx1)))), (2, .v (.one (.d (.int .i64 qx2)))), (3, .v (.one (.d (.int .i64 qx3))))]) 0

theorem z1048 (qx : List UInt8) (qx1 : List UInt8) (qx2 : Int) (qx3 : Int) {r} (hF : z1044 qx qx1 qx3 = some r) : Awp prog 0 66 (cL (cR (cR (cR (cB f92))))) (Out 0 z1047 (z1046 qx qx1 qx2 qx3) r) (z1045 qx qx1 qx2 qx3) := by
  unfold z1044 at hF
  refine awp_seq ?_
  refine awp_region ?_
  refine aR 2 ?_
  refine aE ?_
  refine cE hF (fun h3 hF => ?_) fun h3 hF => ?_
  · refine awp_true (by kernel_rfl) h3 ?_
    refine bE hF fun vr h4 hF => ?_
    refine awp_region ?_
    refine aR 2 ?_
    refine aC (z1007 h4) [] [] [] ?_
    refine aR 2 ?_
    refine aE ?_
    exact oO hF [] [] rfl
  · refine awp_false (by kernel_rfl) h3 ?_
    refine awp_skip ?_
    exact oO hF [] [] rfl

def z1052 : ((List UInt8) × (List (List UInt8)) × Int) → AEx
  | _ => .exit 0

def z1051 (qx : List UInt8) (qx1 : List UInt8) (qx2 : Int) (vx1 : Int) : ((List UInt8) × (List (List UInt8)) × Int) → St
  | (vx5, vx6, vx7) => Mem.st ⟨[(0, ⟨9, 1, List.map encS vx6⟩)], []⟩ (tl [(0, .v (.one (.d (.str vx5)))), (9, .v (.one (.own 0 none))), (10, .v (.one (.d (.int .i64 vx7))))]) 1

def z1050 (qx : List UInt8) (qx1 : List UInt8) (qx2 : Int) (vx1 : Int) : (List UInt8) × (List (List UInt8)) × Int → St
  | (vx2, vx3, vx4) => Mem.st ⟨[(0, ⟨9, 1, List.map encS vx3⟩)], []⟩ (tl [(0, .v (.one (.d (.str vx2)))), (1, .v (.one (.d (.str qx1)))), (2, .v (.one (.d (.int .i64 qx2)))), (3, .v (.one (.d (.int .i64 (IntKind.wrap .i64 ((imin vx1 (IntKind.wrap .i64 ((qx.length : Int) + 1))) - 1)))))), (9, .v (.one (.own 0 none))), (10, .v (.one (.d (.int .i64 vx4))))]) 1

theorem z1053 (qx : List UInt8) (qx1 : List UInt8) (qx2 : Int) (vx1 : Int) (s : (List UInt8) × (List (List UInt8)) × Int) (r : ((List UInt8) × (List (List UInt8)) × Int) ⊕ (((List UInt8) × (List (List UInt8)) × Int))) (hF : z1049 qx qx1 qx2 vx1 s = some r) : Awp prog 0 66 (cL (cL (cL (cR (cR (cR (cR (cR (cR (cR (cR (cB f92)))))))))))) (Out 0 (kk z1052) (SS (z1050 qx qx1 qx2 vx1) (z1051 qx qx1 qx2 vx1)) r) (z1050 qx qx1 qx2 vx1 s) := by
  obtain ⟨vx2, vx3, vx4⟩ := s
  unfold z1049 at hF
  refine awp_seq ?_
  refine awp_seq ?_
  refine awp_region ?_
  refine aR 3 ?_
  refine aE ?_
  refine cE hF (fun h7 hF => ?_) fun h7 hF => ?_
  · refine awp_true (by kernel_rfl) h7 ?_
    refine awp_skip ?_
    refine awp_block ?_
    refine awp_seq ?_
    refine bE hF fun vr1_1 h8 hF => ?_
    refine awp_region ?_
    refine aR 2 ?_
    refine aC (z1018 h8) [] [] [] ?_
    refine aR 1 ?_
    refine aE ?_
    refine awp_seq ?_
    refine awp_seq ?_
    refine awp_region ?_
    refine aR 2 ?_
    refine aE ?_
    refine cE hF (fun h9 hF => ?_) fun h9 hF => ?_
    · refine awp_true (by kernel_rfl) h9 ?_
      refine awp_exit ?_
      exact oO hF [] [] rfl
    · refine awp_false (by kernel_rfl) h9 ?_
      refine awp_skip ?_
      refine awp_seq ?_
      refine bE hF fun vs2 h10 hF => ?_
      refine bE hF fun vy1 h11 hF => ?_
      refine awp_region ?_
      refine aR 6 ?_
      refine aX (x_sliceS h10) ?_
      refine aX (x_idxO encS 0 h11) ?_
      refine aX (x_stE encS vs2 h11) ?_
      refine aE ?_
      refine awp_seq ?_
      refine bE hF fun vs3 h12 hF => ?_
      refine awp_region ?_
      refine aR 5 ?_
      refine aX (x_sliceS h12) ?_
      refine aR 1 ?_
      refine aE ?_
      refine awp_region ?_
      refine aR 3 ?_
      refine aE ?_
      exact oO hF [] [] rfl
  · refine awp_false (by kernel_rfl) h7 ?_
    refine awp_exit ?_
    exact oO hF [] [] rfl

def z1042 (qx : List UInt8) (qx1 : List UInt8) (qx2 : Int) (qx3 : Int) (r : (List (List UInt8))) : TV × Mem := (.v (.one (.own 0 none)), ⟨[(0, ⟨9, 1, List.map encS r⟩)], []⟩)

theorem z1043 {qx : List UInt8} {qx1 : List UInt8} {qx2 : Int} {qx3 : Int} {r} (hF : z1041 qx qx1 qx2 qx3 = some r) : Holds prog 92 [.v (.one (.d (.str qx))), .v (.one (.d (.str qx1))), .v (.one (.d (.int .i64 qx2))), .v (.one (.d (.int .i64 qx3)))] ⟨[], []⟩ (Is (z1042 qx qx1 qx2 qx3 r)) := by
  unfold z1041 at hF
  refine holds_of_awp hΓ (fn := f92) (c := cB f92) (A := 0) (nx := 0) (by kernel_rfl) (by kernel_rfl) (by kernel_rfl) (by kernel_rfl) (by kernel_rfl) (by kernel_rfl) (lowc_of (by kernel_rfl)) ?_
  show Awp prog 0 66 (cB f92) _ _
  refine awp_seq ?_
  refine awp_region ?_
  refine aR 1 ?_
  refine aE ?_
  refine awp_seq ?_
  refine awp_seq ?_
  refine awp_region ?_
  refine aR 2 ?_
  refine aE ?_
  refine cE hF (fun h1 hF => ?_) fun h1 hF => ?_
  · refine awp_true (by kernel_rfl) h1 ?_
    refine awp_seq ?_
    refine awp_region ?_
    refine aR 1 ?_
    refine aE ?_
    refine awp_ret ?_
    exact oF hF [] [0]
  · refine awp_false (by kernel_rfl) h1 ?_
    refine awp_skip ?_
    refine awp_seq ?_
    refine awp_seq ?_
    refine awp_region ?_
    refine aR 2 ?_
    refine aE ?_
    refine cE hF (fun h2 hF => ?_) fun h2 hF => ?_
    · refine awp_true (by kernel_rfl) h2 ?_
      refine awp_seq ?_
      exact nE hF
    · refine awp_false (by kernel_rfl) h2 ?_
      refine awp_skip ?_
      refine awp_seq ?_
      refine awp_to (st' := z1045 qx qx1 qx2 qx3) (oT [] []) ?_
      refine bE hF fun vx1 h5 hF => ?_
      refine awp_sub (z1048 qx qx1 qx2 qx3 h5) ?_
      refine awp_seq ?_
      refine awp_region ?_
      refine aR 6 ?_
      refine aE ?_
      refine awp_seq ?_
      refine gE hF fun h6 hF => ?_
      refine awp_region ?_
      refine aR 1 ?_
      refine aX (x_mk encS ([] : List UInt8) h6) ?_
      refine aR 1 ?_
      refine aE ?_
      refine awp_seq ?_
      refine awp_region ?_
      refine aR 3 ?_
      refine aE ?_
      refine awp_seq ?_
      refine awp_region ?_
      refine aR 1 ?_
      refine aE ?_
      refine awp_seq ?_
      refine awp_block ?_
      refine awp_to (st' := z1050 qx qx1 qx2 vx1 (qx, List.replicate (imin vx1 (IntKind.wrap .i64 ((qx.length : Int) + 1))).toNat ([] : List UInt8), 0)) (oT [(0, 7000)] []) ?_
      refine bE hF fun x h13 hF => ?_
      obtain ⟨vx5_1, vx6_1, vx7_1⟩ := x
      refine awp_sub (awp_loop' (z1050 qx qx1 qx2 vx1) z1052 (z1051 qx qx1 qx2 vx1) (by intro x; exact fun h => nomatch h) h13 (z1053 qx qx1 qx2 vx1)) ?_
      refine awp_seq ?_
      refine bE hF fun vy2 h14 hF => ?_
      refine awp_region ?_
      refine aR 3 ?_
      refine aX (x_idxO encS 0 h14) ?_
      refine aX (x_stE encS vx5_1 h14) ?_
      refine aE ?_
      refine awp_seq ?_
      refine gE hF fun h15 hF => ?_
      refine awp_region ?_
      refine aR 3 ?_
      refine aT encS 0 h15 rfl ?_
      refine aR 1 ?_
      refine aE ?_
      refine awp_ret ?_
      exact oF hF [(0, 8001)] []

/-! ### strings.Split -/
def z1020 (qs : List UInt8) (qsep : List UInt8) (r : (List (List UInt8))) : TV × Mem := (.v (.one (.own 0 none)), ⟨[(0, ⟨9, 1, List.map encS r⟩)], []⟩)

theorem z1021 {qs : List UInt8} {qsep : List UInt8} {r} (hF : z1019 qs qsep = some r) : Holds prog 57 [.v (.one (.d (.str qs))), .v (.one (.d (.str qsep)))] ⟨[], []⟩ (Is (z1020 qs qsep r)) := by
  unfold z1019 at hF
  refine holds_of_awp hΓ (fn := f57) (c := cB f57) (A := 0) (nx := 0) (by kernel_rfl) (by kernel_rfl) (by kernel_rfl) (by kernel_rfl) (by kernel_rfl) (by kernel_rfl) (lowc_of (by kernel_rfl)) ?_
  show Awp prog 0 8 (cB f57) _ _
  refine awp_seq ?_
  refine awp_region ?_
  refine aR 1 ?_
  refine aE ?_
  refine awp_seq ?_
  refine bE hF fun vr2 h1 hF => ?_
  refine awp_region ?_
  refine aR 2 ?_
  refine aC (z1043 h1) [] [] [] ?_
  refine aR 1 ?_
  refine aE ?_
  refine awp_ret ?_
  exact oF hF [(0, 3000)] []

/-! ### internal/stringslite.HasPrefix -/
def z1134 : Bool → AEx
  | _ => .normal

def z1133 (qs : List UInt8) (qprefix : List UInt8) : Bool → St
  | vx => Mem.st ⟨[], []⟩ (tl [(4, .v (.one (.d (.bool vx))))]) 0

def z1132 (qs : List UInt8) (qprefix : List UInt8) : St := Mem.st ⟨[], []⟩ (tl [(0, .v (.one (.d (.str qs)))), (1, .v (.one (.d (.str qprefix))))]) 0

theorem z1135 (qs : List UInt8) (qprefix : List UInt8) {r} (hF : z1131 qs qprefix = some r) : Awp prog 0 18 (cL (cR (cB f166))) (Out 0 z1134 (z1133 qs qprefix) r) (z1132 qs qprefix) := by
  unfold z1131 at hF
  refine cE hF (fun h1 hF => ?_) fun h1 hF => ?_
  · refine bE hF fun vs h2 hF => ?_
    refine awp_region ?_
    refine aR 4 ?_
    refine aB h1 ?_
    refine aR 4 ?_
    refine aX (x_sliceS h2) ?_
    refine aR 4 ?_
    refine aE ?_
    exact oO hF [] [] rfl
  · refine awp_region ?_
    refine aR 4 ?_
    refine aB h1 ?_
    refine aR 9 ?_
    refine aE ?_
    exact oO hF [] [] rfl

def z1129 (qs : List UInt8) (qprefix : List UInt8) (r : Bool) : TV × Mem := (.v (.one (.d (.bool r))), ⟨[], []⟩)

theorem z1130 {qs : List UInt8} {qprefix : List UInt8} {r} (hF : z1128 qs qprefix = some r) : Holds prog 166 [.v (.one (.d (.str qs))), .v (.one (.d (.str qprefix)))] ⟨[], []⟩ (Is (z1129 qs qprefix r)) := by
  unfold z1128 at hF
  refine holds_of_awp hΓ (fn := f166) (c := cB f166) (A := 0) (nx := 0) (by kernel_rfl) (by kernel_rfl) (by kernel_rfl) (by kernel_rfl) (by kernel_rfl) (by kernel_rfl) (lowc_of (by kernel_rfl)) ?_
  show Awp prog 0 18 (cB f166) _ _
  refine awp_seq ?_
  refine awp_region ?_
  refine aR 1 ?_
  refine aE ?_
  refine awp_seq ?_
  refine awp_to (st' := z1132 qs qprefix) (oT [] []) ?_
  refine bE hF fun vx1 h3 hF => ?_
  refine awp_sub (z1135 qs qprefix h3) ?_
  refine awp_ret ?_
  exact oF hF [] []

/-! ### internal/stringslite.TrimPrefix -/
def z1148 (qs : List UInt8) (qprefix : List UInt8) (r : (List UInt8)) : TV × Mem := (.v (.one (.d (.str r))), ⟨[], []⟩)

theorem z1149 {qs : List UInt8} {qprefix : List UInt8} {r} (hF : z1147 qs qprefix = some r) : Holds prog 140 [.v (.one (.d (.str qs))), .v (.one (.d (.str qprefix)))] ⟨[], []⟩ (Is (z1148 qs qprefix r)) := by
  unfold z1147 at hF
  refine holds_of_awp hΓ (fn := f140) (c := cB f140) (A := 0) (nx := 0) (by kernel_rfl) (by kernel_rfl) (by kernel_rfl) (by kernel_rfl) (by kernel_rfl) (by kernel_rfl) (lowc_of (by kernel_rfl)) ?_
  show Awp prog 0 13 (cB f140) _ _
  refine awp_seq ?_
  refine awp_region ?_
  refine aR 1 ?_
  refine aE ?_
  refine awp_seq ?_
  refine awp_seq ?_
  refine bE hF fun vr h1 hF => ?_
  refine awp_region ?_
  refine aR 2 ?_
  refine aC (z1130 h1) [] [] [] ?_
  refine aE ?_
  refine cE hF (fun h2 hF => ?_) fun h2 hF => ?_
  · refine awp_true (by kernel_rfl) h2 ?_
    refine awp_seq ?_
    refine bE hF fun vs h3 hF => ?_
    refine awp_region ?_
    refine aR 3 ?_
    refine aX (x_sliceS h3) ?_
    refine aR 1 ?_
    refine aE ?_
    refine awp_ret ?_
    exact oF hF [] []
  · refine awp_false (by kernel_rfl) h2 ?_
    refine awp_skip ?_
    refine awp_seq ?_
    refine awp_region ?_
    refine aR 2 ?_
    refine aE ?_
    refine awp_ret ?_
    exact oF hF [] []

/-! ### strings.TrimPrefix -/
def z1024 (qs : List UInt8) (qprefix : List UInt8) (r : (List UInt8)) : TV × Mem := (.v (.one (.d (.str r))), ⟨[], []⟩)

theorem z1025 {qs : List UInt8} {qprefix : List UInt8} {r} (hF : z1023 qs qprefix = some r) : Holds prog 116 [.v (.one (.d (.str qs))), .v (.one (.d (.str qprefix)))] ⟨[], []⟩ (Is (z1024 qs qprefix r)) := by
  unfold z1023 at hF
  refine holds_of_awp hΓ (fn := f116) (c := cB f116) (A := 0) (nx := 0) (by kernel_rfl) (by kernel_rfl) (by kernel_rfl) (by kernel_rfl) (by kernel_rfl) (by kernel_rfl) (lowc_of (by kernel_rfl)) ?_
  show Awp prog 0 8 (cB f116) _ _
  refine awp_seq ?_
  refine awp_region ?_
  refine aR 1 ?_
  refine aE ?_
  refine awp_seq ?_
  refine bE hF fun vr1 h1 hF => ?_
  refine awp_region ?_
  refine aR 2 ?_
  refine aC (z1149 h1) [] [] [] ?_
  refine aR 1 ?_
  refine aE ?_
  refine awp_ret ?_
  exact oF hF [] []

/-! ### internal/strconv.lower -/
def z962 (qc : Int) (r : Unit) : TV × Mem := (.v (.one (.d (.int .u8 (ibits .or .u8 qc 32)))), ⟨[], []⟩)

theorem z963 {qc : Int} {r} (hF : z961 qc = some r) : Holds prog 186 [.v (.one (.d (.int .u8 qc)))] ⟨[], []⟩ (Is (z962 qc r)) := by
  unfold z961 at hF
  refine holds_of_awp hΓ (fn := f186) (c := cB f186) (A := 0) (nx := 0) (by kernel_rfl) (by kernel_rfl) (by kernel_rfl) (by kernel_rfl) (by kernel_rfl) (by kernel_rfl) (lowc_of (by kernel_rfl)) ?_
  show Awp prog 0 5 (cB f186) _ _
  refine awp_seq ?_
  refine awp_region ?_
  refine aR 1 ?_
  refine aE ?_
  refine awp_seq ?_
  refine awp_region ?_
  refine aR 3 ?_
  refine aE ?_
  refine awp_ret ?_
  exact oF hF [] []

end Go.Eng
