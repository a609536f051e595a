/-
The code of the Go functions that the law LettersEnd reaches does what the plain functions say, part 1.
-/
import Derived.Test.YtigejlfinklddaaGreatDoorGenF

import Derived.Test.YtigejlfinklddaaGreatDoorEng8

import Derived.Test.YtigejlfinklddaaGreatDoorGenS

import Derived.Test.YtigejlfinklddaaGreatDoorProg

import Derived.KernelRfl

namespace Go.Eng

open Go Go.Proofs.Tryz

set_option linter.unusedVariables false

set_option maxRecDepth 20000

set_option maxHeartbeats 0

def ti2 : TI := ⟨1, 8, [.d (.int .i64 0)], false, .int .i64⟩

def ti3 : TI := ⟨1, 8, [.d (.int .i64 0)], false, .int .i64⟩

def ti4 : TI := ⟨1, 1, [.d (.bool false)], false, .bool⟩

def ti5 : TI := ⟨1, 1, [.d (.int .u8 0)], false, .int .u8⟩

def ti9 : TI := ⟨1, 16, [.d (.str [])], false, .str⟩

def ti21 : TI := ⟨1, 4, [.d (.int .i32 0)], false, .int .i32⟩

def ti22 : TI := ⟨1, 24, [.nil], false, .slice 3⟩

def ti25 : TI := ⟨2, 32, [.nil, .d (.int .i64 0)], true, .struct [(0, 22), (1, 3)]⟩

def ti27 : TI := ⟨1, 8, [.d (.int .i64 0)], false, .int .i64⟩

def ti32 : TI := ⟨6, 72, [.d (.str []), .d (.str []), .d (.str []), .d (.int .i64 0), .d (.int .i64 0), .d (.int .i64 0)], true, .struct [(0, 9), (1, 9), (2, 9), (3, 3), (4, 3), (5, 3)]⟩

def ti33 : TI := ⟨1, 24, [.nil], false, .slice 32⟩

def ti34 : TI := ⟨1, 24, [.nil], false, .slice 9⟩

def ti43 : TI := ⟨4, 32, [.d (.int .i64 0), .d (.int .i64 0), .d (.int .i64 0), .d (.int .i64 0)], true, .struct [(0, 3), (1, 3), (2, 3), (3, 3)]⟩

def ti45 : TI := ⟨1, 8, [.nilp], false, .ptr⟩

def ti55 : TI := ⟨1, 24, [.nil], false, .slice 60⟩

def ti60 : TI := ⟨9, 96, [.d (.str []), .d (.str []), .d (.str []), .d (.int .i64 0), .d (.int .i64 0), .d (.int .i64 0), .d (.int .i64 0), .d (.int .i64 0), .d (.int .i64 0)], true, .struct [(0, 32), (6, 3), (7, 3), (8, 3)]⟩

def ti66 : TI := ⟨1, 24, [.nil], false, .slice 76⟩

def ti70 : TI := ⟨1, 24, [.nil], false, .slice 5⟩

def ti76 : TI := ⟨4, 48, [.d (.str []), .d (.str []), .d (.int .i64 0), .d (.int .i64 0)], true, .struct [(0, 9), (1, 9), (2, 3), (3, 3)]⟩

def ti94 : TI := ⟨1, 24, [.nil], false, .slice 102⟩

def ti100 : TI := ⟨4, 40, [.d (.int .i64 0), .d (.bool false), .d (.int .i64 0), .d (.str [])], true, .struct [(0, 3), (1, 4), (2, 3), (3, 9)]⟩

def ti102 : TI := ⟨5, 56, [.d (.str []), .d (.int .i64 0), .d (.bool false), .d (.int .i64 0), .d (.str [])], true, .struct [(0, 9), (1, 100)]⟩

def ti131 : TI := ⟨1, 24, [.nil], false, .slice 205⟩

def ti137 : TI := ⟨3, 24, [.d (.int .i64 0), .d (.int .i64 0), .d (.int .i64 0)], true, .struct [(0, 3), (1, 3), (2, 3)]⟩

def ti143 : TI := ⟨2, 16, [.d (.int .i64 0), .d (.int .i64 0)], true, .struct [(0, 3), (1, 3)]⟩

def ti147 : TI := ⟨1, 8, [.nilm], false, .map 9 60⟩

def ti149 : TI := ⟨6, 48, [.d (.int .i64 0), .d (.int .i64 0), .d (.int .i64 0), .d (.int .i64 0), .nilm, .d (.int .i64 0)], true, .struct [(0, 43), (4, 147), (5, 3)]⟩

def ti183 : TI := ⟨1, 8, [.d (.int .u64 0)], false, .int .u64⟩

def ti205 : TI := ⟨9, 96, [.d (.str []), .d (.int .i64 0), .d (.bool false), .d (.int .i64 0), .d (.str []), .d (.int .i64 0), .d (.bool false), .d (.int .i64 0), .d (.str [])], true, .struct [(0, 9), (1, 100), (5, 100)]⟩

def ti219 : TI := ⟨1, 24, [.nil], false, .slice 27⟩

def ti223 : TI := ⟨1, 8, [.d (.int .u64 0)], false, .int .u64⟩

def ti247 : TI := ⟨1, 24, [.nil], false, .slice 94⟩

def ti302 : TI := ⟨1, 16, [.nili], false, .other⟩

def Γ : Types := [(2, ti2), (3, ti3), (4, ti4), (5, ti5), (9, ti9), (21, ti21), (22, ti22), (25, ti25), (27, ti27), (32, ti32), (33, ti33), (34, ti34), (43, ti43), (45, ti45), (55, ti55), (60, ti60), (66, ti66), (70, ti70), (76, ti76), (94, ti94), (100, ti100), (102, ti102), (131, ti131), (137, ti137), (143, ti143), (147, ti147), (149, ti149), (183, ti183), (205, ti205), (219, ti219), (223, ti223), (247, ti247), (302, ti302)]

theorem hΓ : TypesOk prog Γ := typesOk_of (by kernel_rfl)

instance : TOk prog Γ := ⟨hΓ⟩

theorem hm : prog.follows .mixedOrders = true := by kernel_rfl

instance : Mixed prog := ⟨hm⟩

/-! ### beaconfleet/fleetmake.Below -/
def z451 : Int → AEx
  | _ => .normal

def z450 (qx : Int) (qn : Int) : Int → St
  | vx => Mem.st ⟨[], []⟩ (tl [(0, .v (.one (.d (.int .i64 vx))))]) 0

def z449 (qx : Int) (qn : Int) : St := Mem.st ⟨[], []⟩ (tl [(0, .v (.one (.d (.int .i64 (qx.tmod qn))))), (1, .v (.one (.d (.int .i64 qn))))]) 0

theorem z452 (qx : Int) (qn : Int) {r} (hF : z448 qx qn = some r) : Awp prog 0 16 (cL (cR (cR (cR (cB f58))))) (Out 0 z451 (z450 qx qn) r) (z449 qx qn) := by
  unfold z448 at hF
  refine awp_seq ?_
  refine awp_region ?_
  refine aR 2 ?_
  refine aE ?_
  refine cE hF (fun h3 hF => ?_) fun h3 hF => ?_
  · refine awp_true (by kernel_rfl) h3 ?_
    refine awp_region ?_
    refine aR 4 ?_
    refine aE ?_
    exact oO hF [] [] rfl
  · refine awp_false (by kernel_rfl) h3 ?_
    refine awp_skip ?_
    exact oO hF [] [] rfl

def z446 (qx : Int) (qn : Int) (r : Int) : TV × Mem := (.v (.one (.d (.int .i64 r))), ⟨[], []⟩)

theorem z447 {qx : Int} {qn : Int} {r} (hF : z445 qx qn = some r) : Holds prog 58 [.v (.one (.d (.int .i64 qx))), .v (.one (.d (.int .i64 qn)))] ⟨[], []⟩ (Is (z446 qx qn r)) := by
  unfold z445 at hF
  refine holds_of_awp hΓ (fn := f58) (c := cB f58) (A := 0) (nx := 0) (by kernel_rfl) (by kernel_rfl) (by kernel_rfl) (by kernel_rfl) (by kernel_rfl) (by kernel_rfl) (lowc_of (by kernel_rfl)) ?_
  show Awp prog 0 16 (cB f58) _ _
  refine awp_seq ?_
  refine awp_region ?_
  refine aR 1 ?_
  refine aE ?_
  refine awp_seq ?_
  refine awp_seq ?_
  refine awp_region ?_
  refine aR 2 ?_
  refine aE ?_
  refine cE hF (fun h1 hF => ?_) fun h1 hF => ?_
  · refine awp_true (by kernel_rfl) h1 ?_
    refine awp_seq ?_
    refine awp_region ?_
    refine aR 1 ?_
    refine aE ?_
    refine awp_ret ?_
    exact oF hF [] []
  · refine awp_false (by kernel_rfl) h1 ?_
    refine awp_skip ?_
    refine awp_seq ?_
    refine gE hF fun h2 hF => ?_
    refine awp_region ?_
    refine aR 2 ?_
    refine aX (x_rem h2) ?_
    refine aR 1 ?_
    refine aE ?_
    refine awp_seq ?_
    refine awp_to (st' := z449 qx qn) (oT [] []) ?_
    refine bE hF fun vx1 h4 hF => ?_
    refine awp_sub (z452 qx qn h4) ?_
    refine awp_seq ?_
    refine awp_region ?_
    refine aR 2 ?_
    refine aE ?_
    refine awp_ret ?_
    exact oF hF [] []

/-! ### (*beaconfleet/fleetmake.Stream).Next -/
def z455 (qs : z453) (qn : Int) (r : Int) : TV × Mem := (.v (.one (.d (.int .i64 r))), ⟨[], [(0, [.d (.lst (List.map (encI .i64) qs.L)), .d (.int .i64 (IntKind.wrap .i64 (qs.at_ + 1)))])]⟩)

theorem z456 {qs : z453} {qn : Int} {r} (hF : z454 qs qn = some r) : Holds prog 11 [.v (.one (.box 0 0)), .v (.one (.d (.int .i64 qn)))] ⟨[], [(0, [.d (.lst (List.map (encI .i64) qs.L)), .d (.int .i64 qs.at_)])]⟩ (Is (z455 qs qn r)) := by
  unfold z454 at hF
  refine holds_of_awp hΓ (fn := f11) (c := cB f11) (A := 1) (nx := 1) (by kernel_rfl) (by kernel_rfl) (by kernel_rfl) (by kernel_rfl) (by kernel_rfl) (by kernel_rfl) (lowc_of (by kernel_rfl)) ?_
  show Awp prog 1 64 (cB f11) _ _
  refine awp_seq ?_
  refine awp_region ?_
  refine aR 1 ?_
  refine aE ?_
  refine awp_seq ?_
  refine awp_region ?_
  refine aR 8 ?_
  refine aE ?_
  refine awp_seq ?_
  refine awp_seq ?_
  refine awp_region ?_
  refine aR 4 ?_
  refine aL (encI .i64) qs.L ?_
  refine aR 1 ?_
  refine aE ?_
  refine cE hF (fun h1 hF => ?_) fun h1 hF => ?_
  · refine awp_true (by kernel_rfl) h1 ?_
    refine awp_seq ?_
    refine bE hF fun vr h2 hF => ?_
    refine awp_region ?_
    refine aR 6 ?_
    refine aC (z447 h2) [] [] [] ?_
    refine aR 1 ?_
    refine aE ?_
    refine awp_ret ?_
    exact oF hF [] []
  · refine awp_false (by kernel_rfl) h1 ?_
    refine awp_skip ?_
    refine awp_seq ?_
    refine gE hF fun h3 hF => ?_
    refine aD ?_
    refine dR 9 ?_
    refine dL (encI .i64) qs.L ?_
    refine dX (x_rem h3) ?_
    refine dR 1 ?_
    refine dE ?_
    refine awp_seq ?_
    refine aD ?_
    refine dR 9 ?_
    refine dL (encI .i64) qs.L ?_
    refine dX (x_quo h3) ?_
    refine dR 1 ?_
    refine dE ?_
    refine awp_seq ?_
    refine bE hF fun vy h4 hF => ?_
    refine bE hF fun vr1 h5 hF => ?_
    refine bE hF fun vr2 h6 hF => ?_
    refine awp_region ?_
    refine aR 5 ?_
    refine aX (x_idx (encI .i64) h4) ?_
    refine aR 1 ?_
    refine aC (z447 h5) [] [] [] ?_
    refine aR 6 ?_
    refine aC (z447 h6) [] [] [] ?_
    refine aR 1 ?_
    refine aE ?_
    refine awp_ret ?_
    exact oF hF [] []

/-! ### (*beaconfleet/fleetmake.Stream).Pick -/
def z458 (qs : z453) (ql : List Int) (r : Int) : TV × Mem := (.v (.one (.d (.int .i64 r))), ⟨[], [(0, [.d (.lst (List.map (encI .i64) qs.L)), .d (.int .i64 (IntKind.wrap .i64 (qs.at_ + 1)))])]⟩)

theorem z459 {qs : z453} {ql : List Int} {r} (hF : z457 qs ql = some r) : Holds prog 10 [.v (.one (.box 0 0)), .v (.one (.own 1 none))] ⟨[(1, ⟨3, 1, List.map (encI .i64) ql⟩)], [(0, [.d (.lst (List.map (encI .i64) qs.L)), .d (.int .i64 qs.at_)])]⟩ (Is (z458 qs ql r)) := by
  unfold z457 at hF
  refine holds_of_awp hΓ (fn := f10) (c := cB f10) (A := 2) (nx := 2) (by kernel_rfl) (by kernel_rfl) (by kernel_rfl) (by kernel_rfl) (by kernel_rfl) (by kernel_rfl) (lowc_of (by kernel_rfl)) ?_
  show Awp prog 2 12 (cB f10) _ _
  refine awp_seq ?_
  refine awp_region ?_
  refine aR 1 ?_
  refine aE ?_
  refine awp_to (oT (m := ⟨[], [(0, [.d (.lst (List.map (encI .i64) qs.L)), .d (.int .i64 qs.at_)])]⟩) (ts := [(0, .v (.one (.box 0 0))), (1, .v (.one (.d (.lst (List.map (encI .i64) ql)))))]) (nx := 2) [] []) ?_
  refine awp_seq ?_
  refine bE hF fun vr3 h1 hF => ?_
  refine bE hF fun vy h2 hF => ?_
  refine awp_region ?_
  refine aR 3 ?_
  refine aL (encI .i64) ql ?_
  refine aC (z456 h1) [] [] [] ?_
  refine aX (x_idx (encI .i64) h2) ?_
  refine aR 2 ?_
  refine aE ?_
  refine awp_ret ?_
  exact oF hF [] []

/-! ### (*beaconfleet/fleetmake.Stream).RightPost -/
def z467 (qs : z453) (r : api_Post) : TV × Mem := (.v (.agg [.d (.int .i64 r.Room), .d (.int .i64 r.Timeout), .d (.int .i64 r.Tries), .d (.int .i64 r.Kept)]), ⟨[], [(0, [.d (.lst (List.map (encI .i64) qs.L)), .d (.int .i64 (IntKind.wrap .i64 ((IntKind.wrap .i64 ((IntKind.wrap .i64 ((IntKind.wrap .i64 (qs.at_ + 1)) + 1)) + 1)) + 1)))])]⟩)

theorem z468 {qs : z453} {r} (hF : z466 qs = some r) : Holds prog 15 [.v (.one (.box 0 0))] ⟨[], [(0, [.d (.lst (List.map (encI .i64) qs.L)), .d (.int .i64 qs.at_)])]⟩ (Is (z467 qs r)) := by
  unfold z466 at hF
  refine holds_of_awp hΓ (fn := f15) (c := cB f15) (A := 1) (nx := 1) (by kernel_rfl) (by kernel_rfl) (by kernel_rfl) (by kernel_rfl) (by kernel_rfl) (by kernel_rfl) (lowc_of (by kernel_rfl)) ?_
  show Awp prog 1 16 (cB f15) _ _
  refine awp_seq ?_
  refine awp_region ?_
  refine aR 1 ?_
  refine aE ?_
  refine awp_seq ?_
  refine bE hF fun vr h1 hF => ?_
  refine bE hF fun vr1 h2 hF => ?_
  refine bE hF fun vr2 h3 hF => ?_
  refine bE hF fun vr3 h4 hF => ?_
  refine awp_region ?_
  refine aR 2 ?_
  refine aC (z459 h1) [(1, 2001)] [] [] ?_
  refine aR 2 ?_
  refine aC (z459 h2) [(1, 5001)] [] [] ?_
  refine aR 2 ?_
  refine aC (z459 h3) [(1, 8001)] [] [] ?_
  refine aR 2 ?_
  refine aC (z459 h4) [(1, 11001)] [] [] ?_
  refine aR 2 ?_
  refine aE ?_
  refine awp_ret ?_
  exact oF hF [] []

/-! ### beaconfleet/base.Out -/
def z77 : Bool → AEx
  | _ => .normal

def z76 (qn : Int) (qlow : Int) (qhigh : Int) : Bool → St
  | vx => Mem.st ⟨[], []⟩ (tl [(6, .v (.one (.d (.bool vx))))]) 0

def z75 (qn : Int) (qlow : Int) (qhigh : Int) : St := Mem.st ⟨[], []⟩ (tl [(0, .v (.one (.d (.int .i64 qn)))), (1, .v (.one (.d (.int .i64 qlow)))), (2, .v (.one (.d (.int .i64 qhigh))))]) 0

theorem z78 (qn : Int) (qlow : Int) (qhigh : Int) {r} (hF : z74 qn qlow qhigh = some r) : Awp prog 0 15 (cL (cR (cB f57))) (Out 0 z77 (z76 qn qlow qhigh) r) (z75 qn qlow qhigh) := by
  unfold z74 at hF
  refine cE hF (fun h1 hF => ?_) fun h1 hF => ?_
  · refine awp_region ?_
    refine aR 2 ?_
    refine aB h1 ?_
    refine aR 6 ?_
    refine aE ?_
    exact oO hF [] [] rfl
  · refine awp_region ?_
    refine aR 2 ?_
    refine aB h1 ?_
    refine aR 6 ?_
    refine aE ?_
    exact oO hF [] [] rfl

def z72 (qn : Int) (qlow : Int) (qhigh : Int) (r : Bool) : TV × Mem := (.v (.one (.d (.bool r))), ⟨[], []⟩)

theorem z73 {qn : Int} {qlow : Int} {qhigh : Int} {r} (hF : base_Out qn qlow qhigh = some r) : Holds prog 57 [.v (.one (.d (.int .i64 qn))), .v (.one (.d (.int .i64 qlow))), .v (.one (.d (.int .i64 qhigh)))] ⟨[], []⟩ (Is (z72 qn qlow qhigh r)) := by
  unfold base_Out at hF
  refine holds_of_awp hΓ (fn := f57) (c := cB f57) (A := 0) (nx := 0) (by kernel_rfl) (by kernel_rfl) (by kernel_rfl) (by kernel_rfl) (by kernel_rfl) (by kernel_rfl) (lowc_of (by kernel_rfl)) ?_
  show Awp prog 0 15 (cB f57) _ _
  refine awp_seq ?_
  refine awp_region ?_
  refine aR 1 ?_
  refine aE ?_
  refine awp_seq ?_
  refine awp_to (st' := z75 qn qlow qhigh) (oT [] []) ?_
  refine bE hF fun vx1 h2 hF => ?_
  refine awp_sub (z78 qn qlow qhigh h2) ?_
  refine awp_ret ?_
  exact oF hF [] []

/-! ### beaconfleet/command.CheckPost -/
def z196 : Bool → AEx
  | _ => .normal

def z195 (qp : api_Post) : Bool → St
  | vx => Mem.st ⟨[], []⟩ (tl [(20, .v (.one (.d (.bool vx))))]) 0

def z194 (qp : api_Post) : St := Mem.st ⟨[], [(0, [.d (.int .i64 qp.Room), .d (.int .i64 qp.Timeout), .d (.int .i64 qp.Tries), .d (.int .i64 qp.Kept)])]⟩ (tl [(1, .v (.one (.box 0 0)))]) 1

theorem z197 (qp : api_Post) {r} (hF : z193 qp = some r) : Awp prog 0 21 (cL (cL (cR (cB f72)))) (Out 0 z196 (z195 qp) r) (z194 qp) := by
  unfold z193 at hF
  refine bE hF fun vr h1 hF => ?_
  refine cE hF (fun h2 hF => ?_) fun h2 hF => ?_
  · refine awp_region ?_
    refine aR 2 ?_
    refine aCb (z73 h1) [] [] [] h2 ?_
    refine aR 15 ?_
    refine aE ?_
    exact oO hF [] [] rfl
  · refine bE hF fun vr1 h3 hF => ?_
    refine cE hF (fun h4 hF => ?_) fun h4 hF => ?_
    · refine awp_region ?_
      refine aR 2 ?_
      refine aCb (z73 h1) [] [] [] h2 ?_
      refine aR 3 ?_
      refine aCb (z73 h3) [] [] [] h4 ?_
      refine aR 11 ?_
      refine aE ?_
      exact oO hF [] [] rfl
    · refine bE hF fun vr2 h5 hF => ?_
      refine cE hF (fun h6 hF => ?_) fun h6 hF => ?_
      · refine awp_region ?_
        refine aR 2 ?_
        refine aCb (z73 h1) [] [] [] h2 ?_
        refine aR 3 ?_
        refine aCb (z73 h3) [] [] [] h4 ?_
        refine aR 4 ?_
        refine aCb (z73 h5) [] [] [] h6 ?_
        refine aR 6 ?_
        refine aE ?_
        exact oO hF [] [] rfl
      · refine bE hF fun vr3 h7 hF => ?_
        refine awp_region ?_
        refine aR 2 ?_
        refine aCb (z73 h1) [] [] [] h2 ?_
        refine aR 3 ?_
        refine aCb (z73 h3) [] [] [] h4 ?_
        refine aR 4 ?_
        refine aCb (z73 h5) [] [] [] h6 ?_
        refine aR 4 ?_
        refine aC (z73 h7) [] [] [] ?_
        refine aR 1 ?_
        refine aE ?_
        exact oO hF [] [] rfl

def z191 (qp : api_Post) (r : Int) : TV × Mem := (.v (.one (.d (.int .i64 r))), ⟨[], []⟩)

theorem z192 {qp : api_Post} {r} (hF : z190 qp = some r) : Holds prog 72 [.v (.agg [.d (.int .i64 qp.Room), .d (.int .i64 qp.Timeout), .d (.int .i64 qp.Tries), .d (.int .i64 qp.Kept)])] ⟨[], []⟩ (Is (z191 qp r)) := by
  unfold z190 at hF
  refine holds_of_awp hΓ (fn := f72) (c := cB f72) (A := 0) (nx := 0) (by kernel_rfl) (by kernel_rfl) (by kernel_rfl) (by kernel_rfl) (by kernel_rfl) (by kernel_rfl) (lowc_of (by kernel_rfl)) ?_
  show Awp prog 0 21 (cB f72) _ _
  refine awp_seq ?_
  refine awp_region ?_
  refine aR 2 ?_
  refine aE ?_
  refine awp_seq ?_
  refine awp_seq ?_
  refine awp_to (st' := z194 qp) (oT [] []) ?_
  refine bE hF fun vx1 h8 hF => ?_
  refine awp_sub (z197 qp h8) ?_
  refine cE hF (fun h9 hF => ?_) fun h9 hF => ?_
  · refine awp_true (by kernel_rfl) h9 ?_
    refine awp_seq ?_
    refine awp_region ?_
    refine aR 1 ?_
    refine aE ?_
    refine awp_ret ?_
    exact oF hF [] []
  · refine awp_false (by kernel_rfl) h9 ?_
    refine awp_skip ?_
    refine awp_seq ?_
    refine awp_region ?_
    refine aR 1 ?_
    refine aE ?_
    refine awp_ret ?_
    exact oF hF [] []

/-! ### beaconfleet/command.New -/
def z199 (qp : api_Post) : Int ⊕ Unit → TV × Mem
  | .inl vr => (.tup [.one (.nilp), .one (.d (.int .i64 vr))], ⟨[], []⟩)
  | .inr _ => (.tup [.one (.box 0 0), .one (.d (.int .i64 0))], ⟨[], [(0, [.d (.int .i64 qp.Room), .d (.int .i64 qp.Timeout), .d (.int .i64 qp.Tries), .d (.int .i64 qp.Kept), .mapp 1, .d (.int .i64 0)]), (1, [.mapc .str true (List.map (encM D.str api_Note.enc) ([] : List (List UInt8 × api_Note)))])]⟩)

theorem z200 {qp : api_Post} {r} (hF : z198 qp = some r) : Holds prog 16 [.v (.agg [.d (.int .i64 qp.Room), .d (.int .i64 qp.Timeout), .d (.int .i64 qp.Tries), .d (.int .i64 qp.Kept)])] ⟨[], []⟩ (Is (z199 qp r)) := by
  unfold z198 at hF
  refine holds_of_awp hΓ (fn := f16) (c := cB f16) (A := 0) (nx := 0) (by kernel_rfl) (by kernel_rfl) (by kernel_rfl) (by kernel_rfl) (by kernel_rfl) (by kernel_rfl) (lowc_of (by kernel_rfl)) ?_
  show Awp prog 0 14 (cB f16) _ _
  refine awp_seq ?_
  refine awp_region ?_
  refine aR 3 ?_
  refine aE ?_
  refine awp_seq ?_
  refine awp_seq ?_
  refine bE hF fun vr4 h1 hF => ?_
  refine awp_region ?_
  refine aR 1 ?_
  refine aC (z192 h1) [] [] [] ?_
  refine aR 1 ?_
  refine aE ?_
  refine awp_seq ?_
  refine awp_region ?_
  refine aR 2 ?_
  refine aE ?_
  refine cE hF (fun h2 hF => ?_) fun h2 hF => ?_
  · refine awp_true (by kernel_rfl) h2 ?_
    refine awp_seq ?_
    refine awp_region ?_
    refine aR 3 ?_
    refine aE ?_
    refine awp_ret ?_
    exact oF hF [] []
  · refine awp_false (by kernel_rfl) h2 ?_
    refine awp_skip ?_
    refine awp_seq ?_
    refine awp_region ?_
    refine aR 1 ?_
    refine aX (x_map .str true (κ := List UInt8) (β := api_Note) D.str api_Note.enc) ?_
    refine aR 4 ?_
    refine aE ?_
    refine awp_ret ?_
    exact oF hF [(0, 11000), (1, 9000)] []

/-! ### (*beaconfleet/fleetmake.Stream).Range -/
def z461 (qs : z453) (qlow : Int) (qhigh : Int) (r : z453 × Int) : TV × Mem := (.v (.one (.d (.int .i64 r.2))), ⟨[], [(0, [.d (.lst (List.map (encI .i64) r.1.L)), .d (.int .i64 r.1.at_)])]⟩)

theorem z462 {qs : z453} {qlow : Int} {qhigh : Int} {r} (hF : z460 qs qlow qhigh = some r) : Holds prog 9 [.v (.one (.box 0 0)), .v (.one (.d (.int .i64 qlow))), .v (.one (.d (.int .i64 qhigh)))] ⟨[], [(0, [.d (.lst (List.map (encI .i64) qs.L)), .d (.int .i64 qs.at_)])]⟩ (Is (z461 qs qlow qhigh r)) := by
  unfold z460 at hF
  refine holds_of_awp hΓ (fn := f9) (c := cB f9) (A := 1) (nx := 1) (by kernel_rfl) (by kernel_rfl) (by kernel_rfl) (by kernel_rfl) (by kernel_rfl) (by kernel_rfl) (lowc_of (by kernel_rfl)) ?_
  show Awp prog 1 19 (cB f9) _ _
  refine awp_seq ?_
  refine awp_region ?_
  refine aR 1 ?_
  refine aE ?_
  refine awp_seq ?_
  refine awp_seq ?_
  refine awp_region ?_
  refine aR 3 ?_
  refine aE ?_
  refine cE hF (fun h1 hF => ?_) fun h1 hF => ?_
  · refine awp_true (by kernel_rfl) h1 ?_
    refine awp_seq ?_
    refine awp_region ?_
    refine aR 2 ?_
    refine aE ?_
    refine awp_ret ?_
    exact oF hF [] []
  · refine awp_false (by kernel_rfl) h1 ?_
    refine awp_skip ?_
    refine awp_seq ?_
    refine bE hF fun vr3 h2 hF => ?_
    refine awp_region ?_
    refine aR 6 ?_
    refine aC (z456 h2) [] [] [] ?_
    refine aR 2 ?_
    refine aE ?_
    refine awp_ret ?_
    exact oF hF [] []

/-! ### (*beaconfleet/fleetmake.Stream).Some -/
def z470 (qs : z453) (ql : List (List UInt8)) (r : (List UInt8)) : TV × Mem := (.v (.one (.d (.str r))), ⟨[], [(0, [.d (.lst (List.map (encI .i64) qs.L)), .d (.int .i64 (IntKind.wrap .i64 (qs.at_ + 1)))])]⟩)

theorem z471 {qs : z453} {ql : List (List UInt8)} {r} (hF : z469 qs ql = some r) : Holds prog 26 [.v (.one (.box 0 0)), .v (.one (.own 1 none))] ⟨[(1, ⟨9, 1, List.map encS ql⟩)], [(0, [.d (.lst (List.map (encI .i64) qs.L)), .d (.int .i64 qs.at_)])]⟩ (Is (z470 qs ql r)) := by
  unfold z469 at hF
  refine holds_of_awp hΓ (fn := f26) (c := cB f26) (A := 2) (nx := 2) (by kernel_rfl) (by kernel_rfl) (by kernel_rfl) (by kernel_rfl) (by kernel_rfl) (by kernel_rfl) (lowc_of (by kernel_rfl)) ?_
  show Awp prog 2 12 (cB f26) _ _
  refine awp_seq ?_
  refine awp_region ?_
  refine aR 1 ?_
  refine aE ?_
  refine awp_to (oT (m := ⟨[], [(0, [.d (.lst (List.map (encI .i64) qs.L)), .d (.int .i64 qs.at_)])]⟩) (ts := [(0, .v (.one (.box 0 0))), (1, .v (.one (.d (.lst (List.map encS ql)))))]) (nx := 2) [] []) ?_
  refine awp_seq ?_
  refine bE hF fun vr3 h1 hF => ?_
  refine bE hF fun vy h2 hF => ?_
  refine awp_region ?_
  refine aR 3 ?_
  refine aL encS ql ?_
  refine aC (z456 h1) [] [] [] ?_
  refine aX (x_idx encS h2) ?_
  refine aR 2 ?_
  refine aE ?_
  refine awp_ret ?_
  exact oF hF [] []

/-! ### (*beaconfleet/fleetmake.Stream).RightLetter -/
def z464 (qs : z453) (qat : Int) (r : api_Letter) : TV × Mem := (.v (.agg [.d (.str r.Id), .d (.str r.Slot), .d (.str r.Body), .d (.int .i64 r.Prio), .d (.int .i64 r.At), .d (.int .i64 r.Until)]), ⟨[], [(0, [.d (.lst (List.map (encI .i64) qs.L)), .d (.int .i64 (IntKind.wrap .i64 ((IntKind.wrap .i64 ((IntKind.wrap .i64 ((IntKind.wrap .i64 ((IntKind.wrap .i64 (qs.at_ + 1)) + 1)) + 1)) + 1)) + 1)))])]⟩)

theorem z465 {qs : z453} {qat : Int} {r} (hF : z463 qs qat = some r) : Holds prog 17 [.v (.one (.box 0 0)), .v (.one (.d (.int .i64 qat)))] ⟨[], [(0, [.d (.lst (List.map (encI .i64) qs.L)), .d (.int .i64 qs.at_)])]⟩ (Is (z464 qs qat r)) := by
  unfold z463 at hF
  refine holds_of_awp hΓ (fn := f17) (c := cB f17) (A := 1) (nx := 1) (by kernel_rfl) (by kernel_rfl) (by kernel_rfl) (by kernel_rfl) (by kernel_rfl) (by kernel_rfl) (lowc_of (by kernel_rfl)) ?_
  show Awp prog 1 24 (cB f17) _ _
  refine awp_seq ?_
  refine awp_region ?_
  refine aR 1 ?_
  refine aE ?_
  refine awp_seq ?_
  refine bE hF fun vr h1 hF => ?_
  refine bE hF fun vr1 h2 hF => ?_
  refine bE hF fun vr2 h3 hF => ?_
  refine bE hF fun vr3 h4 hF => ?_
  refine bE hF fun vr4 h5 hF => ?_
  refine awp_region ?_
  refine aR 2 ?_
  refine aC (z471 h1) [(1, 2001)] [] [] ?_
  refine aR 2 ?_
  refine aC (z471 h2) [(1, 5001)] [] [] ?_
  refine aR 2 ?_
  refine aC (z471 h3) [(1, 8001)] [] [] ?_
  refine aR 2 ?_
  refine aC (z459 h4) [(1, 11001)] [] [] ?_
  refine aR 4 ?_
  refine aC (z459 h5) [(1, 16001)] [] [] ?_
  refine aR 3 ?_
  refine aE ?_
  refine awp_ret ?_
  exact oF hF [] []

/-! ### beaconfleet/base.Key -/
def z29 : Bool → AEx
  | _ => .normal

def z28 (qs : List UInt8) : Bool → St
  | vx => Mem.st ⟨[], []⟩ (tl [(0, .v (.one (.d (.str qs)))), (21, .v (.one (.d (.bool vx))))]) 0

def z27 (qs : List UInt8) : St := Mem.st ⟨[], []⟩ (tl [(0, .v (.one (.d (.str qs))))]) 0

theorem z30 (qs : List UInt8) {r} (hF : z26 qs = some r) : Awp prog 0 54 (cL (cL (cR (cB f101)))) (Out 0 z29 (z28 qs) r) (z27 qs) := by
  unfold z26 at hF
  refine cE hF (fun h1 hF => ?_) fun h1 hF => ?_
  · refine awp_region ?_
    refine aR 1 ?_
    refine aB h1 ?_
    refine aR 15 ?_
    refine aE ?_
    exact oO hF [] [] rfl
  · refine cE hF (fun h2 hF => ?_) fun h2 hF => ?_
    · refine awp_region ?_
      refine aR 1 ?_
      refine aB h1 ?_
      refine aR 3 ?_
      refine aB h2 ?_
      refine aR 11 ?_
      refine aE ?_
      exact oO hF [] [] rfl
    · refine bE hF fun vc h3 hF => ?_
      refine cE hF (fun h4 hF => ?_) fun h4 hF => ?_
      · refine awp_region ?_
        refine aR 1 ?_
        refine aB h1 ?_
        refine aR 3 ?_
        refine aB h2 ?_
        refine aR 3 ?_
        refine aX (x_idxS h3) ?_
        refine aB h4 ?_
        refine aR 6 ?_
        refine aE ?_
        exact oO hF [] [] rfl
      · refine awp_region ?_
        refine aR 1 ?_
        refine aB h1 ?_
        refine aR 3 ?_
        refine aB h2 ?_
        refine aR 3 ?_
        refine aX (x_idxS h3) ?_
        refine aB h4 ?_
        refine aR 3 ?_
        refine aX (x_idxS h3) ?_
        refine aR 2 ?_
        refine aE ?_
        exact oO hF [] [] rfl

def z39 : Bool → AEx
  | _ => .normal

def z38 (qs : List UInt8) (vx2 : Int) (vc2 : UInt8) : Bool → St
  | vx4 => Mem.st ⟨[], []⟩ (tl [(0, .v (.one (.d (.str qs)))), (23, .v (.one (.d (.int .i64 (qs.length : Int))))), (24, .v (.one (.d (.int .i64 vx2)))), (52, .v (.one (.d (.bool vx4))))]) 0

def z37 (qs : List UInt8) (vx2 : Int) (vc2 : UInt8) : St := Mem.st ⟨[], []⟩ (tl [(0, .v (.one (.d (.str qs)))), (4, .v (.one (.d (.int .u8 (vc2.toNat : Int))))), (23, .v (.one (.d (.int .i64 (qs.length : Int))))), (24, .v (.one (.d (.int .i64 vx2))))]) 0

theorem z40 (qs : List UInt8) (vx2 : Int) (vc2 : UInt8) {r} (hF : z36 vc2 = some r) : Awp prog 0 54 (cL (cR (cR (cL (cL (cR (cR (cL (cL (cR (cL (cR (cR (cB f101)))))))))))))) (Out 0 z39 (z38 qs vx2 vc2) r) (z37 qs vx2 vc2) := by
  unfold z36 at hF
  refine cE hF (fun h9 hF => ?_) fun h9 hF => ?_
  · refine cE hF (fun h10 hF => ?_) fun h10 hF => ?_
    · refine awp_region ?_
      refine aR 1 ?_
      refine aB h9 ?_
      refine aR 2 ?_
      refine aB h10 ?_
      refine aR 18 ?_
      refine aE ?_
      exact oO hF [] [] rfl
    · refine cE hF (fun h11 hF => ?_) fun h11 hF => ?_
      · refine cE hF (fun h12 hF => ?_) fun h12 hF => ?_
        · refine awp_region ?_
          refine aR 1 ?_
          refine aB h9 ?_
          refine aR 2 ?_
          refine aB h10 ?_
          refine aR 3 ?_
          refine aB h11 ?_
          refine aR 2 ?_
          refine aB h12 ?_
          refine aR 11 ?_
          refine aE ?_
          exact oO hF [] [] rfl
        · refine cE hF (fun h13 hF => ?_) fun h13 hF => ?_
          · refine awp_region ?_
            refine aR 1 ?_
            refine aB h9 ?_
            refine aR 2 ?_
            refine aB h10 ?_
            refine aR 3 ?_
            refine aB h11 ?_
            refine aR 2 ?_
            refine aB h12 ?_
            refine aR 4 ?_
            refine aB h13 ?_
            refine aR 6 ?_
            refine aE ?_
            exact oO hF [] [] rfl
          · refine awp_region ?_
            refine aR 1 ?_
            refine aB h9 ?_
            refine aR 2 ?_
            refine aB h10 ?_
            refine aR 3 ?_
            refine aB h11 ?_
            refine aR 2 ?_
            refine aB h12 ?_
            refine aR 4 ?_
            refine aB h13 ?_
            refine aR 6 ?_
            refine aE ?_
            exact oO hF [] [] rfl
      · refine cE hF (fun h14 hF => ?_) fun h14 hF => ?_
        · refine awp_region ?_
          refine aR 1 ?_
          refine aB h9 ?_
          refine aR 2 ?_
          refine aB h10 ?_
          refine aR 3 ?_
          refine aB h11 ?_
          refine aR 7 ?_
          refine aB h14 ?_
          refine aR 6 ?_
          refine aE ?_
          exact oO hF [] [] rfl
        · refine awp_region ?_
          refine aR 1 ?_
          refine aB h9 ?_
          refine aR 2 ?_
          refine aB h10 ?_
          refine aR 3 ?_
          refine aB h11 ?_
          refine aR 7 ?_
          refine aB h14 ?_
          refine aR 6 ?_
          refine aE ?_
          exact oO hF [] [] rfl
  · refine cE hF (fun h15 hF => ?_) fun h15 hF => ?_
    · refine cE hF (fun h16 hF => ?_) fun h16 hF => ?_
      · refine awp_region ?_
        refine aR 1 ?_
        refine aB h9 ?_
        refine aR 6 ?_
        refine aB h15 ?_
        refine aR 2 ?_
        refine aB h16 ?_
        refine aR 11 ?_
        refine aE ?_
        exact oO hF [] [] rfl
      · refine cE hF (fun h17 hF => ?_) fun h17 hF => ?_
        · refine awp_region ?_
          refine aR 1 ?_
          refine aB h9 ?_
          refine aR 6 ?_
          refine aB h15 ?_
          refine aR 2 ?_
          refine aB h16 ?_
          refine aR 4 ?_
          refine aB h17 ?_
          refine aR 6 ?_
          refine aE ?_
          exact oO hF [] [] rfl
        · refine awp_region ?_
          refine aR 1 ?_
          refine aB h9 ?_
          refine aR 6 ?_
          refine aB h15 ?_
          refine aR 2 ?_
          refine aB h16 ?_
          refine aR 4 ?_
          refine aB h17 ?_
          refine aR 6 ?_
          refine aE ?_
          exact oO hF [] [] rfl
    · refine cE hF (fun h18 hF => ?_) fun h18 hF => ?_
      · refine awp_region ?_
        refine aR 1 ?_
        refine aB h9 ?_
        refine aR 6 ?_
        refine aB h15 ?_
        refine aR 7 ?_
        refine aB h18 ?_
        refine aR 6 ?_
        refine aE ?_
        exact oO hF [] [] rfl
      · refine awp_region ?_
        refine aR 1 ?_
        refine aB h9 ?_
        refine aR 6 ?_
        refine aB h15 ?_
        refine aR 7 ?_
        refine aB h18 ?_
        refine aR 6 ?_
        refine aE ?_
        exact oO hF [] [] rfl

def z34 : Unit ⊕ Unit → AEx
  | .inl _ => .exit 0
  | .inr _ => .ret

def z33 (qs : List UInt8) : Unit ⊕ Unit → St
  | .inl _ => Mem.st ⟨[], []⟩ (tl []) 0
  | .inr _ => Mem.st ⟨[], []⟩ (tl [(2, .v (.one (.d (.bool false))))]) 0

def z32 (qs : List UInt8) : Int → St
  | vx2 => Mem.st ⟨[], []⟩ (tl [(0, .v (.one (.d (.str qs)))), (23, .v (.one (.d (.int .i64 (qs.length : Int))))), (24, .v (.one (.d (.int .i64 vx2))))]) 0

theorem z35 (qs : List UInt8) (vx2 : Int) (r : (Int) ⊕ (Unit ⊕ Unit)) (hF : z31 qs vx2 = some r) : Awp prog 0 54 (cL (cL (cR (cL (cR (cR (cB f101))))))) (Out 0 (kk z34) (SS (z32 qs) (z33 qs)) r) (z32 qs vx2) := by
  unfold z31 at hF
  refine awp_seq ?_
  refine awp_region ?_
  refine aR 1 ?_
  refine aE ?_
  refine awp_seq ?_
  refine cE hF (fun h7 hF => ?_) fun h7 hF => ?_
  · refine awp_true (by kernel_rfl) h7 ?_
    refine awp_skip ?_
    refine awp_seq ?_
    refine awp_block ?_
    refine awp_seq ?_
    refine awp_region ?_
    refine aR 2 ?_
    refine aE ?_
    refine awp_seq ?_
    refine bE hF fun vc2 h8 hF => ?_
    refine awp_region ?_
    refine aR 2 ?_
    refine aX (x_idxS h8) ?_
    refine aR 1 ?_
    refine aE ?_
    refine awp_seq ?_
    refine awp_to (st' := z37 qs vx2 vc2) (oT [] []) ?_
    refine bE hF fun vx4_1 h19 hF => ?_
    refine awp_sub (z40 qs vx2 vc2 h19) ?_
    refine cE hF (fun h20 hF => ?_) fun h20 hF => ?_
    · refine awp_true (by kernel_rfl) h20 ?_
      refine awp_seq ?_
      refine awp_region ?_
      refine aR 1 ?_
      refine aE ?_
      refine awp_ret ?_
      exact oO hF [] [] rfl
    · refine awp_false (by kernel_rfl) h20 ?_
      refine awp_skip ?_
      refine awp_region ?_
      refine aR 2 ?_
      refine aE ?_
      exact oO hF [] [] rfl
  · refine awp_false (by kernel_rfl) h7 ?_
    refine awp_exit ?_
    exact oO hF [] [] rfl

def z24 (qs : List UInt8) (r : Bool) : TV × Mem := (.v (.one (.d (.bool r))), ⟨[], []⟩)

theorem z25 {qs : List UInt8} {r} (hF : base_Key qs = some r) : Holds prog 101 [.v (.one (.d (.str qs)))] ⟨[], []⟩ (Is (z24 qs r)) := by
  unfold base_Key at hF
  refine holds_of_awp hΓ (fn := f101) (c := cB f101) (A := 0) (nx := 0) (by kernel_rfl) (by kernel_rfl) (by kernel_rfl) (by kernel_rfl) (by kernel_rfl) (by kernel_rfl) (lowc_of (by kernel_rfl)) ?_
  show Awp prog 0 54 (cB f101) _ _
  refine awp_seq ?_
  refine awp_region ?_
  refine aR 1 ?_
  refine aE ?_
  refine awp_seq ?_
  refine awp_seq ?_
  refine awp_to (st' := z27 qs) (oT [] []) ?_
  refine bE hF fun vx1 h5 hF => ?_
  refine awp_sub (z30 qs h5) ?_
  refine cE hF (fun h6 hF => ?_) fun h6 hF => ?_
  · refine awp_true (by kernel_rfl) h6 ?_
    refine awp_seq ?_
    refine awp_region ?_
    refine aR 1 ?_
    refine aE ?_
    refine awp_ret ?_
    exact oF hF [] []
  · refine awp_false (by kernel_rfl) h6 ?_
    refine awp_skip ?_
    refine awp_seq ?_
    refine awp_seq ?_
    refine awp_region ?_
    refine aR 3 ?_
    refine aE ?_
    refine awp_block ?_
    refine awp_to (st' := z32 qs 0) (oT [] []) ?_
    refine bE hF fun x h21 hF => ?_
    rcases x with _ | _
    · refine awp_sub (awp_loop' (z32 qs) z34 (z33 qs) (by intro x; rcases x with x | x <;> exact fun h => nomatch h) h21 (z35 qs)) ?_
      refine awp_seq ?_
      refine awp_region ?_
      refine aR 1 ?_
      refine aE ?_
      refine awp_ret ?_
      exact oF hF [] []
    · refine awp_sub (awp_loop' (z32 qs) z34 (z33 qs) (by intro x; rcases x with x | x <;> exact fun h => nomatch h) h21 (z35 qs)) ?_
      exact oF hF [] []

/-! ### unicode/utf8.ValidString -/
def z1156 (qx : List UInt8) (r : Bool) : TV × Mem := (.v (.one (.d (.bool r))), ⟨[], []⟩)

theorem z1157 {qx : List UInt8} {r} (hF : utf8_ValidString qx = some r) : Holds prog 183 [.v (.one (.d (.str qx)))] ⟨[], []⟩ (Is (z1156 qx r)) := by
  unfold utf8_ValidString at hF
  refine gE hF fun h1 hF => ?_
  obtain rfl := Option.some.inj hF
  have h2 : qx.length ≤ 9223372036854775807 := by simpa using h1
  refine holds_lib (args := [.str qx]) (tv := .c (.d (.bool (Lib.validD qx)))) ⟨_, cB Go.Proofs.Tryz.f183, Go.Proofs.Tryz.func183, by kernel_rfl, by kernel_rfl⟩ rfl rfl fun w ht => ?_
  refine (Go.Proofs.Any.utf8_ValidString Go.Proofs.Tryz.lays196 ⟨qx.toArray⟩ w (by simpa [ByteArray.size] using h2) (utf8_tabs (ht 1 _ rfl) (ht 2 _ rfl) (by kernel_rfl) (by kernel_rfl))).mono ?_
  rintro e w' ⟨rfl, hb⟩
  exact ⟨rfl, hb⟩

/-! ### beaconfleet/base.Unmarked -/
def z90 : Bool → AEx
  | _ => .normal

def z89 (qs : List UInt8) (vx : Int) : Bool → St
  | vx2 => Mem.st ⟨[], []⟩ (tl [(0, .v (.one (.d (.str qs)))), (5, .v (.one (.d (.int .i64 (qs.length : Int))))), (6, .v (.one (.d (.int .i64 vx)))), (18, .v (.one (.d (.bool vx2))))]) 0

def z88 (qs : List UInt8) (vx : Int) : St := Mem.st ⟨[], []⟩ (tl [(0, .v (.one (.d (.str qs)))), (3, .v (.one (.d (.int .i64 vx)))), (5, .v (.one (.d (.int .i64 (qs.length : Int))))), (6, .v (.one (.d (.int .i64 vx))))]) 0

theorem z91 (qs : List UInt8) (vx : Int) {r} (hF : z87 qs vx = some r) : Awp prog 0 22 (cL (cR (cL (cL (cR (cR (cL (cL (cR (cL (cR (cB f139)))))))))))) (Out 0 z90 (z89 qs vx) r) (z88 qs vx) := by
  unfold z87 at hF
  refine bE hF fun vc1 h2 hF => ?_
  refine cE hF (fun h3 hF => ?_) fun h3 hF => ?_
  · refine awp_region ?_
    refine aR 2 ?_
    refine aX (x_idxS h2) ?_
    refine aB h3 ?_
    refine aR 6 ?_
    refine aE ?_
    exact oO hF [] [] rfl
  · refine awp_region ?_
    refine aR 2 ?_
    refine aX (x_idxS h2) ?_
    refine aB h3 ?_
    refine aR 3 ?_
    refine aX (x_idxS h2) ?_
    refine aR 2 ?_
    refine aE ?_
    exact oO hF [] [] rfl

def z85 : Unit ⊕ Unit → AEx
  | .inl _ => .exit 0
  | .inr _ => .ret

def z84 (qs : List UInt8) : Unit ⊕ Unit → St
  | .inl _ => Mem.st ⟨[], []⟩ (tl [(0, .v (.one (.d (.str qs))))]) 0
  | .inr _ => Mem.st ⟨[], []⟩ (tl [(2, .v (.one (.d (.bool false))))]) 0

def z83 (qs : List UInt8) : Int → St
  | vx => Mem.st ⟨[], []⟩ (tl [(0, .v (.one (.d (.str qs)))), (5, .v (.one (.d (.int .i64 (qs.length : Int))))), (6, .v (.one (.d (.int .i64 vx))))]) 0

theorem z86 (qs : List UInt8) (vx : Int) (r : (Int) ⊕ (Unit ⊕ Unit)) (hF : z82 qs vx = some r) : Awp prog 0 22 (cL (cL (cR (cL (cR (cB f139)))))) (Out 0 (kk z85) (SS (z83 qs) (z84 qs)) r) (z83 qs vx) := by
  unfold z82 at hF
  refine awp_seq ?_
  refine awp_region ?_
  refine aR 1 ?_
  refine aE ?_
  refine awp_seq ?_
  refine cE hF (fun h1 hF => ?_) fun h1 hF => ?_
  · refine awp_true (by kernel_rfl) h1 ?_
    refine awp_skip ?_
    refine awp_seq ?_
    refine awp_block ?_
    refine awp_seq ?_
    refine awp_region ?_
    refine aR 2 ?_
    refine aE ?_
    refine awp_seq ?_
    refine awp_to (st' := z88 qs vx) (oT [] []) ?_
    refine bE hF fun vx2_1 h4 hF => ?_
    refine awp_sub (z91 qs vx h4) ?_
    refine cE hF (fun h5 hF => ?_) fun h5 hF => ?_
    · refine awp_true (by kernel_rfl) h5 ?_
      refine awp_seq ?_
      refine awp_region ?_
      refine aR 1 ?_
      refine aE ?_
      refine awp_ret ?_
      exact oO hF [] [] rfl
    · refine awp_false (by kernel_rfl) h5 ?_
      refine awp_skip ?_
      refine awp_region ?_
      refine aR 2 ?_
      refine aE ?_
      exact oO hF [] [] rfl
  · refine awp_false (by kernel_rfl) h1 ?_
    refine awp_exit ?_
    exact oO hF [] [] rfl

def z80 (qs : List UInt8) (r : Bool) : TV × Mem := (.v (.one (.d (.bool r))), ⟨[], []⟩)

theorem z81 {qs : List UInt8} {r} (hF : z79 qs = some r) : Holds prog 139 [.v (.one (.d (.str qs)))] ⟨[], []⟩ (Is (z80 qs r)) := by
  unfold z79 at hF
  refine holds_of_awp hΓ (fn := f139) (c := cB f139) (A := 0) (nx := 0) (by kernel_rfl) (by kernel_rfl) (by kernel_rfl) (by kernel_rfl) (by kernel_rfl) (by kernel_rfl) (lowc_of (by kernel_rfl)) ?_
  show Awp prog 0 22 (cB f139) _ _
  refine awp_seq ?_
  refine awp_region ?_
  refine aR 1 ?_
  refine aE ?_
  refine awp_seq ?_
  refine awp_seq ?_
  refine awp_region ?_
  refine aR 3 ?_
  refine aE ?_
  refine awp_block ?_
  refine awp_to (st' := z83 qs 0) (oT [] []) ?_
  refine bE hF fun x h6 hF => ?_
  rcases x with _ | _
  · refine awp_sub (awp_loop' (z83 qs) z85 (z84 qs) (by intro x; rcases x with x | x <;> exact fun h => nomatch h) h6 (z86 qs)) ?_
    refine awp_seq ?_
    refine bE hF fun vr h7 hF => ?_
    refine awp_region ?_
    refine aR 1 ?_
    refine aC (z1157 h7) [] [] [] ?_
    refine aR 1 ?_
    refine aE ?_
    refine awp_ret ?_
    exact oF hF [] []
  · refine awp_sub (awp_loop' (z83 qs) z85 (z84 qs) (by intro x; rcases x with x | x <;> exact fun h => nomatch h) h6 (z86 qs)) ?_
    exact oF hF [] []

/-! ### beaconfleet/base.Moment -/
def z42 (qn : Int) (r : Bool) : TV × Mem := (.v (.one (.d (.bool r))), ⟨[], []⟩)

theorem z43 {qn : Int} {r} (hF : z41 qn = some r) : Holds prog 60 [.v (.one (.d (.int .i64 qn)))] ⟨[], []⟩ (Is (z42 qn r)) := by
  unfold z41 at hF
  refine holds_of_awp hΓ (fn := f60) (c := cB f60) (A := 0) (nx := 0) (by kernel_rfl) (by kernel_rfl) (by kernel_rfl) (by kernel_rfl) (by kernel_rfl) (by kernel_rfl) (lowc_of (by kernel_rfl)) ?_
  show Awp prog 0 6 (cB f60) _ _
  refine awp_seq ?_
  refine awp_region ?_
  refine aR 1 ?_
  refine aE ?_
  refine awp_seq ?_
  refine bE hF fun vr h1 hF => ?_
  refine awp_region ?_
  refine aR 1 ?_
  refine aC (z73 h1) [] [] [] ?_
  refine aR 2 ?_
  refine aE ?_
  refine awp_ret ?_
  exact oF hF [] []

/-! ### beaconfleet/command.CheckLetter -/
def z165 : Bool → AEx
  | _ => .normal

def z164 (ql : api_Letter) : Bool → St
  | vx => Mem.st ⟨[], [(0, [.d (.str ql.Id), .d (.str ql.Slot), .d (.str ql.Body), .d (.int .i64 ql.Prio), .d (.int .i64 ql.At), .d (.int .i64 ql.Until)])]⟩ (tl [(1, .v (.one (.box 0 0))), (3, .v (.one (.d (.bool vx))))]) 1

def z163 (ql : api_Letter) : St := Mem.st ⟨[], [(0, [.d (.str ql.Id), .d (.str ql.Slot), .d (.str ql.Body), .d (.int .i64 ql.Prio), .d (.int .i64 ql.At), .d (.int .i64 ql.Until)])]⟩ (tl [(1, .v (.one (.box 0 0)))]) 1

theorem z166 (ql : api_Letter) {r} (hF : z162 ql = some r) : Awp prog 0 51 (cL (cL (cL (cR (cB f59))))) (Out 0 z165 (z164 ql) r) (z163 ql) := by
  unfold z162 at hF
  refine bE hF fun vr h1 hF => ?_
  refine cE hF (fun h2 hF => ?_) fun h2 hF => ?_
  · refine awp_region ?_
    refine aR 2 ?_
    refine aC (z25 h1) [] [] [] ?_
    refine aB h2 ?_
    refine aR 12 ?_
    refine aE ?_
    exact oO hF [] [] rfl
  · refine cE hF (fun h3 hF => ?_) fun h3 hF => ?_
    · refine bE hF fun vr1 h4 hF => ?_
      refine awp_region ?_
      refine aR 2 ?_
      refine aC (z25 h1) [] [] [] ?_
      refine aB h2 ?_
      refine aR 3 ?_
      refine aB h3 ?_
      refine aR 3 ?_
      refine aC (z25 h4) [] [] [] ?_
      refine aR 4 ?_
      refine aE ?_
      exact oO hF [] [] rfl
    · refine awp_region ?_
      refine aR 2 ?_
      refine aC (z25 h1) [] [] [] ?_
      refine aB h2 ?_
      refine aR 3 ?_
      refine aB h3 ?_
      refine aR 8 ?_
      refine aE ?_
      exact oO hF [] [] rfl

def z170 : Bool → AEx
  | _ => .normal

def z169 (ql : api_Letter) : Bool → St
  | vx2 => Mem.st ⟨[], []⟩ (tl [(29, .v (.one (.d (.bool vx2))))]) 0

def z168 (ql : api_Letter) : St := Mem.st ⟨[], [(0, [.d (.str ql.Id), .d (.str ql.Slot), .d (.str ql.Body), .d (.int .i64 ql.Prio), .d (.int .i64 ql.At), .d (.int .i64 ql.Until)])]⟩ (tl [(1, .v (.one (.box 0 0)))]) 1

theorem z171 (ql : api_Letter) {r} (hF : z167 ql = some r) : Awp prog 0 51 (cL (cR (cR (cR (cR (cR (cR (cL (cL (cR (cB f59))))))))))) (Out 0 z170 (z169 ql) r) (z168 ql) := by
  unfold z167 at hF
  refine bE hF fun vr2 h10 hF => ?_
  refine cE hF (fun h11 hF => ?_) fun h11 hF => ?_
  · refine awp_region ?_
    refine aR 2 ?_
    refine aCb (z73 h10) [] [] [] h11 ?_
    refine aR 19 ?_
    refine aE ?_
    exact oO hF [] [] rfl
  · refine bE hF fun vr1_2 h12 hF => ?_
    refine cE hF (fun h13 hF => ?_) fun h13 hF => ?_
    · refine awp_region ?_
      refine aR 2 ?_
      refine aCb (z73 h10) [] [] [] h11 ?_
      refine aR 3 ?_
      refine aC (z43 h12) [] [] [] ?_
      refine aB h13 ?_
      refine aR 14 ?_
      refine aE ?_
      exact oO hF [] [] rfl
    · refine cE hF (fun h14 hF => ?_) fun h14 hF => ?_
      · refine awp_region ?_
        refine aR 2 ?_
        refine aCb (z73 h10) [] [] [] h11 ?_
        refine aR 3 ?_
        refine aC (z43 h12) [] [] [] ?_
        refine aB h13 ?_
        refine aR 6 ?_
        refine aB h14 ?_
        refine aR 7 ?_
        refine aE ?_
        exact oO hF [] [] rfl
      · refine awp_region ?_
        refine aR 2 ?_
        refine aCb (z73 h10) [] [] [] h11 ?_
        refine aR 3 ?_
        refine aC (z43 h12) [] [] [] ?_
        refine aB h13 ?_
        refine aR 6 ?_
        refine aB h14 ?_
        refine aR 7 ?_
        refine aE ?_
        exact oO hF [] [] rfl

def z160 (ql : api_Letter) (r : Int) : TV × Mem := (.v (.one (.d (.int .i64 r))), ⟨[], []⟩)

theorem z161 {ql : api_Letter} {r} (hF : z159 ql = some r) : Holds prog 59 [.v (.agg [.d (.str ql.Id), .d (.str ql.Slot), .d (.str ql.Body), .d (.int .i64 ql.Prio), .d (.int .i64 ql.At), .d (.int .i64 ql.Until)])] ⟨[], []⟩ (Is (z160 ql r)) := by
  unfold z159 at hF
  refine holds_of_awp hΓ (fn := f59) (c := cB f59) (A := 0) (nx := 0) (by kernel_rfl) (by kernel_rfl) (by kernel_rfl) (by kernel_rfl) (by kernel_rfl) (by kernel_rfl) (lowc_of (by kernel_rfl)) ?_
  show Awp prog 0 51 (cB f59) _ _
  refine awp_seq ?_
  refine awp_region ?_
  refine aR 2 ?_
  refine aE ?_
  refine awp_seq ?_
  refine awp_block ?_
  refine awp_seq ?_
  refine awp_to (st' := z163 ql) (oT [] []) ?_
  refine bE hF fun vx1 h5 hF => ?_
  refine awp_sub (z166 ql h5) ?_
  refine cE hF (fun h6 hF => ?_) fun h6 hF => ?_
  · refine awp_true (by kernel_rfl) h6 ?_
    refine awp_seq ?_
    refine awp_region ?_
    refine aR 1 ?_
    refine aE ?_
    refine awp_ret ?_
    exact oF hF [] []
  · refine awp_false (by kernel_rfl) h6 ?_
    refine awp_seq ?_
    refine awp_region ?_
    refine aR 5 ?_
    refine aE ?_
    refine cE hF (fun h7 hF => ?_) fun h7 hF => ?_
    · refine awp_true (by kernel_rfl) h7 ?_
      refine awp_seq ?_
      refine awp_region ?_
      refine aR 1 ?_
      refine aE ?_
      refine awp_ret ?_
      exact oF hF [] []
    · refine awp_false (by kernel_rfl) h7 ?_
      refine awp_seq ?_
      refine bE hF fun vr1_1 h8 hF => ?_
      refine awp_region ?_
      refine aR 2 ?_
      refine aC (z81 h8) [] [] [] ?_
      refine aR 2 ?_
      refine aE ?_
      refine cE hF (fun h9 hF => ?_) fun h9 hF => ?_
      · refine awp_true (by kernel_rfl) h9 ?_
        refine awp_seq ?_
        refine awp_region ?_
        refine aR 1 ?_
        refine aE ?_
        refine awp_ret ?_
        exact oF hF [] []
      · refine awp_false (by kernel_rfl) h9 ?_
        refine awp_seq ?_
        refine awp_to (st' := z168 ql) (oT [] []) ?_
        refine bE hF fun vx2_1 h15 hF => ?_
        refine awp_sub (z171 ql h15) ?_
        refine cE hF (fun h16 hF => ?_) fun h16 hF => ?_
        · refine awp_true (by kernel_rfl) h16 ?_
          refine awp_seq ?_
          refine awp_region ?_
          refine aR 1 ?_
          refine aE ?_
          refine awp_ret ?_
          exact oF hF [] []
        · refine awp_false (by kernel_rfl) h16 ?_
          refine awp_skip ?_
          refine awp_seq ?_
          refine awp_region ?_
          refine aR 1 ?_
          refine aE ?_
          refine awp_ret ?_
          exact oF hF [] []

/-! ### (*beaconfleet/command.Office).timeFault -/
def z305 (qo : Int) (qo1 : Int) (qo2 : Int) (qo3 : Int) (qm : List (List UInt8 × api_Note)) (qo4 : Int) (qat : Int) (r : Int) : TV × Mem := (.v (.one (.d (.int .i64 r))), ⟨[], [(0, [.d (.int .i64 qo), .d (.int .i64 qo1), .d (.int .i64 qo2), .d (.int .i64 qo3), .mapp 1, .d (.int .i64 qo4)]), (1, [.mapc .str true (List.map (encM D.str api_Note.enc) qm)])]⟩)

theorem z306 {qo : Int} {qo1 : Int} {qo2 : Int} {qo3 : Int} {qm : List (List UInt8 × api_Note)} {qo4 : Int} {qat : Int} {r} (hF : z304 qo qo1 qo2 qo3 qm qo4 qat = some r) : Holds prog 74 [.v (.one (.box 0 0)), .v (.one (.d (.int .i64 qat)))] ⟨[], [(0, [.d (.int .i64 qo), .d (.int .i64 qo1), .d (.int .i64 qo2), .d (.int .i64 qo3), .mapp 1, .d (.int .i64 qo4)]), (1, [.mapc .str true (List.map (encM D.str api_Note.enc) qm)])]⟩ (Is (z305 qo qo1 qo2 qo3 qm qo4 qat r)) := by
  unfold z304 at hF
  refine holds_of_awp hΓ (fn := f74) (c := cB f74) (A := 2) (nx := 2) (by kernel_rfl) (by kernel_rfl) (by kernel_rfl) (by kernel_rfl) (by kernel_rfl) (by kernel_rfl) (lowc_of (by kernel_rfl)) ?_
  show Awp prog 2 16 (cB f74) _ _
  refine awp_seq ?_
  refine awp_region ?_
  refine aR 1 ?_
  refine aE ?_
  refine awp_seq ?_
  refine awp_block ?_
  refine awp_seq ?_
  refine bE hF fun vr1 h1 hF => ?_
  refine awp_region ?_
  refine aR 1 ?_
  refine aC (z43 h1) [] [] [] ?_
  refine aR 2 ?_
  refine aE ?_
  refine cE hF (fun h2 hF => ?_) fun h2 hF => ?_
  · refine awp_true (by kernel_rfl) h2 ?_
    refine awp_seq ?_
    refine awp_region ?_
    refine aR 1 ?_
    refine aE ?_
    refine awp_ret ?_
    exact oF hF [] []
  · refine awp_false (by kernel_rfl) h2 ?_
    refine awp_seq ?_
    refine awp_region ?_
    refine aR 7 ?_
    refine aE ?_
    refine cE hF (fun h3 hF => ?_) fun h3 hF => ?_
    · refine awp_true (by kernel_rfl) h3 ?_
      refine awp_seq ?_
      refine awp_region ?_
      refine aR 1 ?_
      refine aE ?_
      refine awp_ret ?_
      exact oF hF [] []
    · refine awp_false (by kernel_rfl) h3 ?_
      refine awp_skip ?_
      refine awp_seq ?_
      refine awp_region ?_
      refine aR 1 ?_
      refine aE ?_
      refine awp_ret ?_
      exact oF hF [] []

/-! ### beaconfleet/base.First -/
def z22 : Unit ⊕ Int → AEx
  | .inl _ => .exit 0
  | .inr _ => .ret

def z21 (ql : List Int) : Unit ⊕ Int → St
  | .inl _ => Mem.st ⟨[], []⟩ (tl []) 0
  | .inr vx1 => Mem.st ⟨[], []⟩ (tl [(2, .v (.one (.d (.int .i64 vx1))))]) 0

def z20 (ql : List Int) : Int → St
  | vx => Mem.st ⟨[], []⟩ (tl [(5, .v (.one (.d (.lst (List.map (encI .i64) ql))))), (6, .v (.one (.d (.int .i64 (ql.length : Int))))), (7, .v (.one (.d (.int .i64 vx))))]) 0

theorem z23 (ql : List Int) (vx : Int) (r : (Int) ⊕ (Unit ⊕ Int)) (hF : z19 ql vx = some r) : Awp prog 0 15 (cL (cL (cR (cL (cR (cB f73)))))) (Out 0 (kk z22) (SS (z20 ql) (z21 ql)) r) (z20 ql vx) := by
  unfold z19 at hF
  refine awp_seq ?_
  refine awp_region ?_
  refine aR 1 ?_
  refine aE ?_
  refine awp_seq ?_
  refine cE hF (fun h1 hF => ?_) fun h1 hF => ?_
  · refine awp_true (by kernel_rfl) h1 ?_
    refine awp_skip ?_
    refine awp_seq ?_
    refine awp_block ?_
    refine awp_seq ?_
    refine bE hF fun vy1 h2 hF => ?_
    refine awp_region ?_
    refine aX (x_idx (encI .i64) h2) ?_
    refine aR 2 ?_
    refine aE ?_
    refine awp_seq ?_
    refine awp_region ?_
    refine aR 2 ?_
    refine aE ?_
    refine cE hF (fun h3 hF => ?_) fun h3 hF => ?_
    · refine awp_true (by kernel_rfl) h3 ?_
      refine awp_seq ?_
      refine awp_region ?_
      refine aR 2 ?_
      refine aE ?_
      refine awp_ret ?_
      exact oO hF [] [] rfl
    · refine awp_false (by kernel_rfl) h3 ?_
      refine awp_skip ?_
      refine awp_region ?_
      refine aR 2 ?_
      refine aE ?_
      exact oO hF [] [] rfl
  · refine awp_false (by kernel_rfl) h1 ?_
    refine awp_exit ?_
    exact oO hF [] [] rfl

def z17 (ql : List Int) (r : Int) : TV × Mem := (.v (.one (.d (.int .i64 r))), ⟨[], []⟩)

theorem z18 {ql : List Int} {r} (hF : z16 ql = some r) : Holds prog 73 [.v (.one (.d (.lst (List.map (encI .i64) ql))))] ⟨[], []⟩ (Is (z17 ql r)) := by
  unfold z16 at hF
  refine holds_of_awp hΓ (fn := f73) (c := cB f73) (A := 0) (nx := 0) (by kernel_rfl) (by kernel_rfl) (by kernel_rfl) (by kernel_rfl) (by kernel_rfl) (by kernel_rfl) (lowc_of (by kernel_rfl)) ?_
  show Awp prog 0 15 (cB f73) _ _
  refine awp_seq ?_
  refine awp_region ?_
  refine aR 1 ?_
  refine aE ?_
  refine awp_seq ?_
  refine awp_seq ?_
  refine awp_region ?_
  refine aR 1 ?_
  refine aL (encI .i64) ql ?_
  refine aR 1 ?_
  refine aE ?_
  refine awp_block ?_
  refine awp_to (st' := z20 ql 0) (oT [] []) ?_
  refine bE hF fun x h4 hF => ?_
  rcases x with _ | vx1_1
  · refine awp_sub (awp_loop' (z20 ql) z22 (z21 ql) (by intro x; rcases x with x | x <;> exact fun h => nomatch h) h4 (z23 ql)) ?_
    refine awp_seq ?_
    refine awp_region ?_
    refine aR 1 ?_
    refine aE ?_
    refine awp_ret ?_
    exact oF hF [] []
  · refine awp_sub (awp_loop' (z20 ql) z22 (z21 ql) (by intro x; rcases x with x | x <;> exact fun h => nomatch h) h4 (z23 ql)) ?_
    exact oF hF [] []

/-! ### beaconfleet/command.ended -/
def z325 (qstate : Int) (r : Unit) : TV × Mem := (.v (.one (.d (.bool (decide (3 ≤ qstate))))), ⟨[], []⟩)

theorem z326 {qstate : Int} {r} (hF : z324 qstate = some r) : Holds prog 82 [.v (.one (.d (.int .i64 qstate)))] ⟨[], []⟩ (Is (z325 qstate r)) := by
  unfold z324 at hF
  refine holds_of_awp hΓ (fn := f82) (c := cB f82) (A := 0) (nx := 0) (by kernel_rfl) (by kernel_rfl) (by kernel_rfl) (by kernel_rfl) (by kernel_rfl) (by kernel_rfl) (lowc_of (by kernel_rfl)) ?_
  show Awp prog 0 5 (cB f82) _ _
  refine awp_seq ?_
  refine awp_region ?_
  refine aR 1 ?_
  refine aE ?_
  refine awp_seq ?_
  refine awp_region ?_
  refine aR 3 ?_
  refine aE ?_
  refine awp_ret ?_
  exact oF hF [] []

/-! ### (*beaconfleet/command.Office).turn -/
def z308 (qo : Int) (qo1 : Int) (qo2 : Int) (qo3 : Int) (qo4 : Int) (qn : api_Note) (qme0 : List (Nat × List D × List D)) (qcl0 : Nat) (r : Int) : TV × Mem := (.v (.one (.d (.int .i64 r))), ⟨[], [(0, [.d (.int .i64 qo), .d (.int .i64 qo1), .d (.int .i64 qo2), .d (.int .i64 qo3), .mapp 1, .d (.int .i64 qo4)]), (1, [.mapg .str true qme0 qcl0])]⟩)

theorem z309 {qo : Int} {qo1 : Int} {qo2 : Int} {qo3 : Int} {qo4 : Int} {qn : api_Note} {qme0 : List (Nat × List D × List D)} {qcl0 : Nat} {r} (hF : z307 qo qo1 qo2 qo3 qo4 qn = some r) : Holds prog 81 [.v (.one (.box 0 0)), .v (.agg [.d (.str qn.Letter.Id), .d (.str qn.Letter.Slot), .d (.str qn.Letter.Body), .d (.int .i64 qn.Letter.Prio), .d (.int .i64 qn.Letter.At), .d (.int .i64 qn.Letter.Until), .d (.int .i64 qn.State), .d (.int .i64 qn.Tries), .d (.int .i64 qn.Since)])] ⟨[], [(0, [.d (.int .i64 qo), .d (.int .i64 qo1), .d (.int .i64 qo2), .d (.int .i64 qo3), .mapp 1, .d (.int .i64 qo4)]), (1, [.mapg .str true qme0 qcl0])]⟩ (Is (z308 qo qo1 qo2 qo3 qo4 qn qme0 qcl0 r)) := by
  unfold z307 at hF
  refine holds_of_awp hΓ (fn := f81) (c := cB f81) (A := 2) (nx := 2) (by kernel_rfl) (by kernel_rfl) (by kernel_rfl) (by kernel_rfl) (by kernel_rfl) (by kernel_rfl) (lowc_of (by kernel_rfl)) ?_
  show Awp prog 2 23 (cB f81) _ _
  refine awp_seq ?_
  refine awp_region ?_
  refine aR 2 ?_
  refine aE ?_
  refine awp_seq ?_
  refine awp_seq ?_
  refine awp_region ?_
  refine aR 3 ?_
  refine aE ?_
  refine cE hF (fun h1 hF => ?_) fun h1 hF => ?_
  · refine awp_true (by kernel_rfl) h1 ?_
    refine awp_seq ?_
    refine aD ?_
    refine dR 13 ?_
    refine dE ?_
    refine awp_ret ?_
    exact oF hF [] []
  · refine awp_false (by kernel_rfl) h1 ?_
    refine awp_skip ?_
    refine awp_seq ?_
    refine awp_region ?_
    refine aR 4 ?_
    refine aE ?_
    refine awp_ret ?_
    exact oF hF [] []

/-! ### (*beaconfleet/command.Office).grown -/
def z299 : api_Note → AEx
  | _ => .exit 0

def z298 (qo : Int) (qo1 : Int) (qo2 : Int) (qo3 : Int) (qo4 : Int) (qat : Int) (qme0 : List (Nat × List D × List D)) (qcl0 : Nat) : api_Note → St
  | vn1 => Mem.st ⟨[], [(0, [.d (.int .i64 qo), .d (.int .i64 qo1), .d (.int .i64 qo2), .d (.int .i64 qo3), .mapp 1, .d (.int .i64 qo4)]), (1, [.mapg .str true qme0 qcl0]), (2, [.d (.str vn1.Letter.Id), .d (.str vn1.Letter.Slot), .d (.str vn1.Letter.Body), .d (.int .i64 vn1.Letter.Prio), .d (.int .i64 vn1.Letter.At), .d (.int .i64 vn1.Letter.Until), .d (.int .i64 vn1.State), .d (.int .i64 vn1.Tries), .d (.int .i64 vn1.Since)]), (3, [.d (.str ([] : List UInt8)), .d (.str ([] : List UInt8)), .d (.str ([] : List UInt8)), .d (.int .i64 0), .d (.int .i64 0), .d (.int .i64 0), .d (.int .i64 0), .d (.int .i64 0), .d (.int .i64 0)])]⟩ (tl [(4, .v (.one (.box 2 0))), (6, .v (.one (.box 3 0)))]) 4

def z297 (qo : Int) (qo1 : Int) (qo2 : Int) (qo3 : Int) (qo4 : Int) (qat : Int) (qme0 : List (Nat × List D × List D)) (qcl0 : Nat) : api_Note → St
  | vn => Mem.st ⟨[], [(0, [.d (.int .i64 qo), .d (.int .i64 qo1), .d (.int .i64 qo2), .d (.int .i64 qo3), .mapp 1, .d (.int .i64 qo4)]), (1, [.mapg .str true qme0 qcl0]), (2, [.d (.str vn.Letter.Id), .d (.str vn.Letter.Slot), .d (.str vn.Letter.Body), .d (.int .i64 vn.Letter.Prio), .d (.int .i64 vn.Letter.At), .d (.int .i64 vn.Letter.Until), .d (.int .i64 vn.State), .d (.int .i64 vn.Tries), .d (.int .i64 vn.Since)]), (3, [.d (.str ([] : List UInt8)), .d (.str ([] : List UInt8)), .d (.str ([] : List UInt8)), .d (.int .i64 0), .d (.int .i64 0), .d (.int .i64 0), .d (.int .i64 0), .d (.int .i64 0), .d (.int .i64 0)])]⟩ (tl [(0, .v (.one (.box 0 0))), (2, .v (.one (.d (.int .i64 qat)))), (4, .v (.one (.box 2 0))), (6, .v (.one (.box 3 0)))]) 4

theorem z300 (qo : Int) (qo1 : Int) (qo2 : Int) (qo3 : Int) (qo4 : Int) (qat : Int) (qme0 : List (Nat × List D × List D)) (qcl0 : Nat) (vn : api_Note) (r : (api_Note) ⊕ (api_Note)) (hF : z296 qo qo1 qo2 qo3 qo4 qat vn = some r) : Awp prog 2 39 (cL (cL (cL (cR (cB f147))))) (Out 2 (kk z299) (SS (z297 qo qo1 qo2 qo3 qo4 qat qme0 qcl0) (z298 qo qo1 qo2 qo3 qo4 qat qme0 qcl0)) r) (z297 qo qo1 qo2 qo3 qo4 qat qme0 qcl0 vn) := by
  unfold z296 at hF
  refine awp_seq ?_
  refine awp_seq ?_
  refine bE hF fun _ h1 hF => ?_
  refine awp_region ?_
  refine aR 2 ?_
  refine aC (z326 h1) [] [] [] ?_
  refine aR 1 ?_
  refine aE ?_
  refine cE hF (fun h2 hF => ?_) fun h2 hF => ?_
  · refine awp_true (by kernel_rfl) h2 ?_
    refine awp_skip ?_
    refine awp_block ?_
    refine awp_seq ?_
    refine bE hF fun vr1 h3 hF => ?_
    refine awp_region ?_
    refine aR 2 ?_
    refine aC (z309 (qme0 := qme0) (qcl0 := qcl0) h3) [] [] [] ?_
    refine aR 1 ?_
    refine aE ?_
    refine awp_seq ?_
    refine awp_seq ?_
    refine awp_region ?_
    refine aR 3 ?_
    refine aE ?_
    refine cE hF (fun h4 hF => ?_) fun h4 hF => ?_
    · refine awp_true (by kernel_rfl) h4 ?_
      refine awp_exit ?_
      exact oO hF [] [] rfl
    · refine awp_false (by kernel_rfl) h4 ?_
      refine awp_skip ?_
      refine awp_seq ?_
      refine awp_region ?_
      refine aR 3 ?_
      refine aE ?_
      refine awp_block ?_
      refine awp_seq ?_
      refine awp_region ?_
      refine aR 6 ?_
      refine aE ?_
      refine cE hF (fun h5 hF => ?_) fun h5 hF => ?_
      · refine awp_true (by kernel_rfl) h5 ?_
        refine awp_region ?_
        refine aR 2 ?_
        refine aE ?_
        exact oO hF [] [] rfl
      · refine awp_false (by kernel_rfl) h5 ?_
        refine awp_seq ?_
        refine aD ?_
        refine dR 9 ?_
        refine dE ?_
        refine cE hF (fun h6 hF => ?_) fun h6 hF => ?_
        · refine awp_true (by kernel_rfl) h6 ?_
          refine awp_region ?_
          refine aR 2 ?_
          refine aE ?_
          exact oO hF [] [] rfl
        · refine awp_false (by kernel_rfl) h6 ?_
          refine awp_region ?_
          refine aR 2 ?_
          refine aE ?_
          exact oO hF [] [] rfl
  · refine awp_false (by kernel_rfl) h2 ?_
    refine awp_exit ?_
    exact oO hF [] [] rfl

def z294 (qo : Int) (qo1 : Int) (qo2 : Int) (qo3 : Int) (qo4 : Int) (qn : api_Note) (qat : Int) (qme0 : List (Nat × List D × List D)) (qcl0 : Nat) (r : api_Note) : TV × Mem := (.v (.agg [.d (.str r.Letter.Id), .d (.str r.Letter.Slot), .d (.str r.Letter.Body), .d (.int .i64 r.Letter.Prio), .d (.int .i64 r.Letter.At), .d (.int .i64 r.Letter.Until), .d (.int .i64 r.State), .d (.int .i64 r.Tries), .d (.int .i64 r.Since)]), ⟨[], [(0, [.d (.int .i64 qo), .d (.int .i64 qo1), .d (.int .i64 qo2), .d (.int .i64 qo3), .mapp 1, .d (.int .i64 qo4)]), (1, [.mapg .str true qme0 qcl0])]⟩)

theorem z295 {qo : Int} {qo1 : Int} {qo2 : Int} {qo3 : Int} {qo4 : Int} {qn : api_Note} {qat : Int} {qme0 : List (Nat × List D × List D)} {qcl0 : Nat} {r} (hF : z293 qo qo1 qo2 qo3 qo4 qn qat = some r) : Holds prog 147 [.v (.one (.box 0 0)), .v (.agg [.d (.str qn.Letter.Id), .d (.str qn.Letter.Slot), .d (.str qn.Letter.Body), .d (.int .i64 qn.Letter.Prio), .d (.int .i64 qn.Letter.At), .d (.int .i64 qn.Letter.Until), .d (.int .i64 qn.State), .d (.int .i64 qn.Tries), .d (.int .i64 qn.Since)]), .v (.one (.d (.int .i64 qat)))] ⟨[], [(0, [.d (.int .i64 qo), .d (.int .i64 qo1), .d (.int .i64 qo2), .d (.int .i64 qo3), .mapp 1, .d (.int .i64 qo4)]), (1, [.mapg .str true qme0 qcl0])]⟩ (Is (z294 qo qo1 qo2 qo3 qo4 qn qat qme0 qcl0 r)) := by
  unfold z293 at hF
  refine holds_of_awp hΓ (fn := f147) (c := cB f147) (A := 2) (nx := 2) (by kernel_rfl) (by kernel_rfl) (by kernel_rfl) (by kernel_rfl) (by kernel_rfl) (by kernel_rfl) (lowc_of (by kernel_rfl)) ?_
  show Awp prog 2 39 (cB f147) _ _
  refine awp_seq ?_
  refine awp_region ?_
  refine aR 2 ?_
  refine aE ?_
  refine awp_seq ?_
  refine awp_block ?_
  refine awp_to (st' := z297 qo qo1 qo2 qo3 qo4 qat qme0 qcl0 (api_Note.mk (api_Letter.mk qn.Letter.Id qn.Letter.Slot qn.Letter.Body qn.Letter.Prio qn.Letter.At qn.Letter.Until) qn.State qn.Tries qn.Since)) (oT [(3, 1002)] []) ?_
  refine bE hF fun vn1_1 h7 hF => ?_
  refine awp_sub (awp_loop' (z297 qo qo1 qo2 qo3 qo4 qat qme0 qcl0) z299 (z298 qo qo1 qo2 qo3 qo4 qat qme0 qcl0) (by intro x; exact fun h => nomatch h) h7 (z300 qo qo1 qo2 qo3 qo4 qat qme0 qcl0)) ?_
  refine awp_seq ?_
  refine awp_region ?_
  refine aR 2 ?_
  refine aE ?_
  refine awp_ret ?_
  exact oF hF [] []

/-! ### math/bits.Len64 -/
def z106 : (Int × Int) → AEx
  | _ => .normal

def z105 (qx : Int) : (Int × Int) → St
  | (vx, vn) => Mem.st ⟨[], []⟩ (tl [(0, .v (.one (.d (.int .u64 vx)))), (2, .v (.one (.d (.int .i64 vn))))]) 0

def z104 (qx : Int) : St := Mem.st ⟨[], []⟩ (tl [(0, .v (.one (.d (.int .u64 qx)))), (2, .v (.one (.d (.int .i64 0))))]) 0

theorem z107 (qx : Int) {r} (hF : z103 qx = some r) : Awp prog 0 25 (cL (cR (cB f198))) (Out 0 z106 (z105 qx) r) (z104 qx) := by
  unfold z103 at hF
  refine awp_seq ?_
  refine awp_region ?_
  refine aR 2 ?_
  refine aE ?_
  refine cE hF (fun h1 hF => ?_) fun h1 hF => ?_
  · refine awp_true (by kernel_rfl) h1 ?_
    refine awp_seq ?_
    refine awp_region ?_
    refine aR 3 ?_
    refine aE ?_
    refine awp_region ?_
    refine aR 1 ?_
    refine aE ?_
    exact oO hF [] [] rfl
  · refine awp_false (by kernel_rfl) h1 ?_
    refine awp_skip ?_
    exact oO hF [] [] rfl

def z111 : (Int × Int) → AEx
  | _ => .normal

def z110 (vx1 : Int) (vn1 : Int) : (Int × Int) → St
  | (vx2, vn2) => Mem.st ⟨[], []⟩ (tl [(0, .v (.one (.d (.int .u64 vx2)))), (2, .v (.one (.d (.int .i64 vn2))))]) 0

def z109 (vx1 : Int) (vn1 : Int) : St := Mem.st ⟨[], []⟩ (tl [(0, .v (.one (.d (.int .u64 vx1)))), (2, .v (.one (.d (.int .i64 vn1))))]) 0

theorem z112 (vx1 : Int) (vn1 : Int) {r} (hF : z108 vx1 vn1 = some r) : Awp prog 0 25 (cL (cR (cR (cB f198)))) (Out 0 z111 (z110 vx1 vn1) r) (z109 vx1 vn1) := by
  unfold z108 at hF
  refine awp_seq ?_
  refine awp_region ?_
  refine aR 2 ?_
  refine aE ?_
  refine cE hF (fun h3 hF => ?_) fun h3 hF => ?_
  · refine awp_true (by kernel_rfl) h3 ?_
    refine awp_seq ?_
    refine awp_region ?_
    refine aR 3 ?_
    refine aE ?_
    refine awp_region ?_
    refine aR 3 ?_
    refine aE ?_
    exact oO hF [] [] rfl
  · refine awp_false (by kernel_rfl) h3 ?_
    refine awp_skip ?_
    exact oO hF [] [] rfl

def z116 : (Int × Int) → AEx
  | _ => .normal

def z115 (vx2_1 : Int) (vn2_1 : Int) : (Int × Int) → St
  | (vx3, vn3) => Mem.st ⟨[], []⟩ (tl [(0, .v (.one (.d (.int .u64 vx3)))), (2, .v (.one (.d (.int .i64 vn3))))]) 0

def z114 (vx2_1 : Int) (vn2_1 : Int) : St := Mem.st ⟨[], []⟩ (tl [(0, .v (.one (.d (.int .u64 vx2_1)))), (2, .v (.one (.d (.int .i64 vn2_1))))]) 0

theorem z117 (vx2_1 : Int) (vn2_1 : Int) {r} (hF : z113 vx2_1 vn2_1 = some r) : Awp prog 0 25 (cL (cR (cR (cR (cB f198))))) (Out 0 z116 (z115 vx2_1 vn2_1) r) (z114 vx2_1 vn2_1) := by
  unfold z113 at hF
  refine awp_seq ?_
  refine awp_region ?_
  refine aR 2 ?_
  refine aE ?_
  refine cE hF (fun h5 hF => ?_) fun h5 hF => ?_
  · refine awp_true (by kernel_rfl) h5 ?_
    refine awp_seq ?_
    refine awp_region ?_
    refine aR 3 ?_
    refine aE ?_
    refine awp_region ?_
    refine aR 3 ?_
    refine aE ?_
    exact oO hF [] [] rfl
  · refine awp_false (by kernel_rfl) h5 ?_
    refine awp_skip ?_
    exact oO hF [] [] rfl

def z101 (qx : Int) (r : Int) : TV × Mem := (.v (.one (.d (.int .i64 r))), ⟨[], []⟩)

theorem z102 {qx : Int} {r} (hF : z100 qx = some r) : Holds prog 198 [.v (.one (.d (.int .u64 qx)))] ⟨[], []⟩ (Is (z101 qx r)) := by
  unfold z100 at hF
  refine holds_of_awp hΓ (fn := f198) (c := cB f198) (A := 0) (nx := 0) (by kernel_rfl) (by kernel_rfl) (by kernel_rfl) (by kernel_rfl) (by kernel_rfl) (by kernel_rfl) (lowc_of (by kernel_rfl)) ?_
  show Awp prog 0 25 (cB f198) _ _
  refine awp_seq ?_
  refine awp_region ?_
  refine aR 1 ?_
  refine aE ?_
  refine awp_seq ?_
  refine awp_to (st' := z104 qx) (oT [] []) ?_
  refine bE hF fun x h2 hF => ?_
  obtain ⟨vx1, vn1⟩ := x
  refine awp_sub (z107 qx h2) ?_
  refine awp_seq ?_
  refine awp_to (st' := z109 vx1 vn1) (oT [] []) ?_
  refine bE hF fun x h4 hF => ?_
  obtain ⟨vx2_1, vn2_1⟩ := x
  refine awp_sub (z112 vx1 vn1 h4) ?_
  refine awp_seq ?_
  refine awp_to (st' := z114 vx2_1 vn2_1) (oT [] []) ?_
  refine bE hF fun x h6 hF => ?_
  obtain ⟨vx3_1, vn3_1⟩ := x
  refine awp_sub (z117 vx2_1 vn2_1 h6) ?_
  refine awp_seq ?_
  refine bE hF fun vc h7 hF => ?_
  refine awp_region ?_
  refine aR 3 ?_
  refine aX (x_idxS h7) ?_
  refine aR 3 ?_
  refine aE ?_
  refine awp_ret ?_
  exact oF hF [] []

/-! ### math/bits.Len -/
def z118 (qx : Int) (r : Int) : TV × Mem := (.v (.one (.d (.int .i64 r))), ⟨[], []⟩)

theorem z120 {qx : Int} {r} (hF : bits_Len qx = some r) : Holds prog 152 [.v (.one (.d (.int .u64 qx)))] ⟨[], []⟩ (Is (z118 qx r)) := by
  unfold bits_Len at hF
  refine holds_of_awp hΓ (fn := f152) (c := cB f152) (A := 0) (nx := 0) (by kernel_rfl) (by kernel_rfl) (by kernel_rfl) (by kernel_rfl) (by kernel_rfl) (by kernel_rfl) (lowc_of (by kernel_rfl)) ?_
  show Awp prog 0 8 (cB f152) _ _
  refine awp_seq ?_
  refine awp_region ?_
  refine aR 1 ?_
  refine aE ?_
  refine awp_seq ?_
  refine awp_false (by kernel_rfl) rfl ?_
  refine awp_skip ?_
  refine awp_seq ?_
  refine bE hF fun vr h1 hF => ?_
  refine awp_region ?_
  refine aR 1 ?_
  refine aC (z102 h1) [] [] [] ?_
  refine aR 1 ?_
  refine aE ?_
  refine awp_ret ?_
  exact oF hF [] []

/-! ### cmp.isNaN[int] -/
def z154 (qx : Int) (r : Unit) : TV × Mem := (.v (.one (.d (.bool (!decide (qx = qx))))), ⟨[], []⟩)

theorem z155 {qx : Int} {r} (hF : z153 qx = some r) : Holds prog 188 [.v (.one (.d (.int .i64 qx)))] ⟨[], []⟩ (Is (z154 qx r)) := by
  unfold z153 at hF
  refine holds_of_awp hΓ (fn := f188) (c := cB f188) (A := 0) (nx := 0) (by kernel_rfl) (by kernel_rfl) (by kernel_rfl) (by kernel_rfl) (by kernel_rfl) (by kernel_rfl) (lowc_of (by kernel_rfl)) ?_
  show Awp prog 0 6 (cB f188) _ _
  refine awp_seq ?_
  refine awp_region ?_
  refine aR 1 ?_
  refine aE ?_
  refine awp_seq ?_
  refine awp_region ?_
  refine aR 4 ?_
  refine aE ?_
  refine awp_ret ?_
  exact oF hF [] []

/-! ### cmp.Compare[int] -/
def z133 (qx : Int) (qy : Int) (r : Int) : TV × Mem := (.v (.one (.d (.int .i64 r))), ⟨[], []⟩)

theorem z134 {qx : Int} {qy : Int} {r} (hF : z132 qx qy = some r) : Holds prog 150 [.v (.one (.d (.int .i64 qx))), .v (.one (.d (.int .i64 qy)))] ⟨[], []⟩ (Is (z133 qx qy r)) := by
  unfold z132 at hF
  refine holds_of_awp hΓ (fn := f150) (c := cB f150) (A := 0) (nx := 0) (by kernel_rfl) (by kernel_rfl) (by kernel_rfl) (by kernel_rfl) (by kernel_rfl) (by kernel_rfl) (lowc_of (by kernel_rfl)) ?_
  show Awp prog 0 20 (cB f150) _ _
  refine awp_seq ?_
  refine awp_region ?_
  refine aR 1 ?_
  refine aE ?_
  refine awp_seq ?_
  refine bE hF fun _ h1 hF => ?_
  refine awp_region ?_
  refine aR 1 ?_
  refine aC (z155 h1) [] [] [] ?_
  refine aR 1 ?_
  refine aE ?_
  refine awp_seq ?_
  refine bE hF fun _ h2 hF => ?_
  refine awp_region ?_
  refine aR 1 ?_
  refine aC (z155 h2) [] [] [] ?_
  refine aR 1 ?_
  refine aE ?_
  refine awp_seq ?_
  refine awp_seq ?_
  refine awp_region ?_
  refine aR 1 ?_
  refine aE ?_
  refine cE hF (fun h3 hF => ?_) fun h3 hF => ?_
  · refine awp_true (by kernel_rfl) h3 ?_
    refine awp_seq ?_
    refine awp_seq ?_
    refine awp_region ?_
    refine aR 1 ?_
    refine aE ?_
    refine cE hF (fun h4 hF => ?_) fun h4 hF => ?_
    · refine awp_true (by kernel_rfl) h4 ?_
      refine awp_seq ?_
      refine awp_region ?_
      refine aR 1 ?_
      refine aE ?_
      refine awp_ret ?_
      exact oF hF [] []
    · refine awp_false (by kernel_rfl) h4 ?_
      refine awp_skip ?_
      refine awp_seq ?_
      refine awp_region ?_
      refine aR 1 ?_
      refine aE ?_
      refine awp_ret ?_
      exact oF hF [] []
  · refine awp_false (by kernel_rfl) h3 ?_
    refine awp_skip ?_
    refine awp_seq ?_
    refine awp_seq ?_
    refine awp_region ?_
    refine aR 1 ?_
    refine aE ?_
    refine cE hF (fun h5 hF => ?_) fun h5 hF => ?_
    · refine awp_true (by kernel_rfl) h5 ?_
      refine awp_seq ?_
      refine awp_region ?_
      refine aR 1 ?_
      refine aE ?_
      refine awp_ret ?_
      exact oF hF [] []
    · refine awp_false (by kernel_rfl) h5 ?_
      refine awp_skip ?_
      refine awp_seq ?_
      refine awp_seq ?_
      refine awp_region ?_
      refine aR 3 ?_
      refine aE ?_
      refine cE hF (fun h6 hF => ?_) fun h6 hF => ?_
      · refine awp_true (by kernel_rfl) h6 ?_
        refine awp_seq ?_
        refine awp_region ?_
        refine aR 1 ?_
        refine aE ?_
        refine awp_ret ?_
        exact oF hF [] []
      · refine awp_false (by kernel_rfl) h6 ?_
        refine awp_skip ?_
        refine awp_seq ?_
        refine awp_seq ?_
        refine awp_region ?_
        refine aR 3 ?_
        refine aE ?_
        refine cE hF (fun h7 hF => ?_) fun h7 hF => ?_
        · refine awp_true (by kernel_rfl) h7 ?_
          refine awp_seq ?_
          refine awp_region ?_
          refine aR 1 ?_
          refine aE ?_
          refine awp_ret ?_
          exact oF hF [] []
        · refine awp_false (by kernel_rfl) h7 ?_
          refine awp_skip ?_
          refine awp_seq ?_
          refine awp_region ?_
          refine aR 1 ?_
          refine aE ?_
          refine awp_ret ?_
          exact oF hF [] []

/-! ### internal/bytealg.CompareString -/
def z122 (qa : List UInt8) (qb : List UInt8) (r : Unit) : TV × Mem := (.v (.one (.d (.int .i64 (Lib.compareBytes qa qb)))), ⟨[], []⟩)

theorem z123 {qa : List UInt8} {qb : List UInt8} {r} (hF : z121 qa qb = some r) : Holds prog 154 [.v (.one (.d (.str qa))), .v (.one (.d (.str qb)))] ⟨[], []⟩ (Is (z122 qa qb r)) := by
  unfold z121 at hF
  refine holds_of_awp hΓ (fn := f154) (c := cB f154) (A := 0) (nx := 0) (by kernel_rfl) (by kernel_rfl) (by kernel_rfl) (by kernel_rfl) (by kernel_rfl) (by kernel_rfl) (lowc_of (by kernel_rfl)) ?_
  show Awp prog 0 8 (cB f154) _ _
  refine awp_seq ?_
  refine awp_region ?_
  refine aR 1 ?_
  refine aE ?_
  refine awp_seq ?_
  refine awp_region ?_
  refine aR 2 ?_
  refine aS (does_cmpstring (g := 207) (fn := f207) (a := qa) (b := qb) rfl (by kernel_rfl) (by kernel_rfl) (by kernel_rfl) (by kernel_rfl) (by kernel_rfl) (by kernel_rfl)) ?_
  refine aR 1 ?_
  refine aE ?_
  refine awp_ret ?_
  exact oF hF [] []

/-! ### strings.Compare -/
def z959 (qa : List UInt8) (qb : List UInt8) (r : Unit) : TV × Mem := (.v (.one (.d (.int .i64 (Lib.compareBytes qa qb)))), ⟨[], []⟩)

theorem z960 {qa : List UInt8} {qb : List UInt8} {r} (hF : z958 qa qb = some r) : Holds prog 85 [.v (.one (.d (.str qa))), .v (.one (.d (.str qb)))] ⟨[], []⟩ (Is (z959 qa qb r)) := by
  unfold z958 at hF
  refine holds_of_awp hΓ (fn := f85) (c := cB f85) (A := 0) (nx := 0) (by kernel_rfl) (by kernel_rfl) (by kernel_rfl) (by kernel_rfl) (by kernel_rfl) (by kernel_rfl) (lowc_of (by kernel_rfl)) ?_
  show Awp prog 0 8 (cB f85) _ _
  refine awp_seq ?_
  refine awp_region ?_
  refine aR 1 ?_
  refine aE ?_
  refine awp_seq ?_
  refine bE hF fun _ h1 hF => ?_
  refine awp_region ?_
  refine aR 2 ?_
  refine aC (z123 h1) [] [] [] ?_
  refine aR 1 ?_
  refine aE ?_
  refine awp_ret ?_
  exact oF hF [] []

/-! ### cmp.Or[int] -/
def z151 : Unit ⊕ Int → AEx
  | .inl _ => .exit 0
  | .inr _ => .ret

def z150 (qvals : List Int) : Unit ⊕ Int → St
  | .inl _ => Mem.st ⟨[], []⟩ (tl [(3, .v (.one (.d (.int .i64 0))))]) 0
  | .inr vx1 => Mem.st ⟨[], []⟩ (tl [(2, .v (.one (.d (.int .i64 vx1))))]) 0

def z149 (qvals : List Int) : Int → St
  | vx => Mem.st ⟨[], []⟩ (tl [(3, .v (.one (.d (.int .i64 0)))), (6, .v (.one (.d (.lst (List.map (encI .i64) qvals))))), (7, .v (.one (.d (.int .i64 (qvals.length : Int))))), (8, .v (.one (.d (.int .i64 vx))))]) 0

theorem z152 (qvals : List Int) (vx : Int) (r : (Int) ⊕ (Unit ⊕ Int)) (hF : z148 qvals vx = some r) : Awp prog 0 18 (cL (cL (cR (cL (cR (cR (cB f149))))))) (Out 0 (kk z151) (SS (z149 qvals) (z150 qvals)) r) (z149 qvals vx) := by
  unfold z148 at hF
  refine awp_seq ?_
  refine awp_region ?_
  refine aR 1 ?_
  refine aE ?_
  refine awp_seq ?_
  refine cE hF (fun h1 hF => ?_) fun h1 hF => ?_
  · refine awp_true (by kernel_rfl) h1 ?_
    refine awp_skip ?_
    refine awp_seq ?_
    refine awp_block ?_
    refine awp_seq ?_
    refine bE hF fun vy1 h2 hF => ?_
    refine awp_region ?_
    refine aX (x_idx (encI .i64) h2) ?_
    refine aR 2 ?_
    refine aE ?_
    refine awp_seq ?_
    refine awp_region ?_
    refine aR 3 ?_
    refine aE ?_
    refine cE hF (fun h3 hF => ?_) fun h3 hF => ?_
    · refine awp_true (by kernel_rfl) h3 ?_
      refine awp_seq ?_
      refine awp_region ?_
      refine aR 2 ?_
      refine aE ?_
      refine awp_ret ?_
      exact oO hF [] [] rfl
    · refine awp_false (by kernel_rfl) h3 ?_
      refine awp_skip ?_
      refine awp_region ?_
      refine aR 2 ?_
      refine aE ?_
      exact oO hF [] [] rfl
  · refine awp_false (by kernel_rfl) h1 ?_
    refine awp_exit ?_
    exact oO hF [] [] rfl

def z146 (qvals : List Int) (r : Int) : TV × Mem := (.v (.one (.d (.int .i64 r))), ⟨[], []⟩)

theorem z147 {qvals : List Int} {r} (hF : z145 qvals = some r) : Holds prog 149 [.v (.one (.d (.lst (List.map (encI .i64) qvals))))] ⟨[], []⟩ (Is (z146 qvals r)) := by
  unfold z145 at hF
  refine holds_of_awp hΓ (fn := f149) (c := cB f149) (A := 0) (nx := 0) (by kernel_rfl) (by kernel_rfl) (by kernel_rfl) (by kernel_rfl) (by kernel_rfl) (by kernel_rfl) (lowc_of (by kernel_rfl)) ?_
  show Awp prog 0 18 (cB f149) _ _
  refine awp_seq ?_
  refine awp_region ?_
  refine aR 1 ?_
  refine aE ?_
  refine awp_seq ?_
  refine awp_region ?_
  refine aR 1 ?_
  refine aE ?_
  refine awp_seq ?_
  refine awp_seq ?_
  refine awp_region ?_
  refine aR 1 ?_
  refine aL (encI .i64) qvals ?_
  refine aR 1 ?_
  refine aE ?_
  refine awp_block ?_
  refine awp_to (st' := z149 qvals 0) (oT [] []) ?_
  refine bE hF fun x h4 hF => ?_
  rcases x with _ | vx1_1
  · refine awp_sub (awp_loop' (z149 qvals) z151 (z150 qvals) (by intro x; rcases x with x | x <;> exact fun h => nomatch h) h4 (z152 qvals)) ?_
    refine awp_seq ?_
    refine awp_region ?_
    refine aR 2 ?_
    refine aE ?_
    refine awp_ret ?_
    exact oF hF [] []
  · refine awp_sub (awp_loop' (z149 qvals) z151 (z150 qvals) (by intro x; rcases x with x | x <;> exact fun h => nomatch h) h4 (z152 qvals)) ?_
    exact oF hF [] []

/-! ### (*beaconfleet/command.Office).aged$1 -/
def z279 (qa : api_Note) (qb : api_Note) (r : Int) : TV × Mem := (.v (.one (.d (.int .i64 r))), ⟨[], []⟩)

theorem z280 {qa : api_Note} {qb : api_Note} {r} (hF : z278 qa qb = some r) : Holds prog 148 [.v (.agg [.d (.str qa.Letter.Id), .d (.str qa.Letter.Slot), .d (.str qa.Letter.Body), .d (.int .i64 qa.Letter.Prio), .d (.int .i64 qa.Letter.At), .d (.int .i64 qa.Letter.Until), .d (.int .i64 qa.State), .d (.int .i64 qa.Tries), .d (.int .i64 qa.Since)]), .v (.agg [.d (.str qb.Letter.Id), .d (.str qb.Letter.Slot), .d (.str qb.Letter.Body), .d (.int .i64 qb.Letter.Prio), .d (.int .i64 qb.Letter.At), .d (.int .i64 qb.Letter.Until), .d (.int .i64 qb.State), .d (.int .i64 qb.Tries), .d (.int .i64 qb.Since)])] ⟨[], []⟩ (Is (z279 qa qb r)) := by
  unfold z278 at hF
  refine holds_of_awp hΓ (fn := f148) (c := cB f148) (A := 0) (nx := 0) (by kernel_rfl) (by kernel_rfl) (by kernel_rfl) (by kernel_rfl) (by kernel_rfl) (by kernel_rfl) (lowc_of (by kernel_rfl)) ?_
  show Awp prog 0 19 (cB f148) _ _
  refine awp_seq ?_
  refine awp_region ?_
  refine aR 3 ?_
  refine aE ?_
  refine awp_seq ?_
  refine bE hF fun vr h1 hF => ?_
  refine bE hF fun _ h2 hF => ?_
  refine bE hF fun vr1 h3 hF => ?_
  refine aD ?_
  refine dR 4 ?_
  refine dC (z134 h1) [] [] [] ?_
  refine dR 6 ?_
  refine dC (z960 h2) [] [] [] ?_
  refine dR 1 ?_
  refine dC (z147 h3) [] [] [15000] ?_
  refine dR 1 ?_
  refine dE ?_
  refine awp_ret ?_
  exact oF hF [] []

/-! ### slices.insertionSortCmpFunc[beaconfleet/api.Note] -/
def z723 : Bool → AEx
  | _ => .normal

def z722 (qa : Int) (qb : Int) (vi : Int) (vl3 : List api_Note) (vj1 : Int) : Bool → St
  | vx4 => Mem.st ⟨[(0, ⟨60, 9, List.map api_Note.enc vl3⟩)], []⟩ (tl [(0, .v (.one (.own 0 none))), (1, .v (.one (.d (.int .i64 qa)))), (2, .v (.one (.d (.int .i64 qb)))), (3, .v (.one (.fn 148 []))), (8, .v (.one (.d (.int .i64 vi)))), (9, .v (.one (.d (.int .i64 vj1)))), (34, .v (.one (.d (.bool vx4))))]) 1

def z721 (qa : Int) (qb : Int) (vi : Int) (vl3 : List api_Note) (vj1 : Int) : St := Mem.st ⟨[(0, ⟨60, 9, List.map api_Note.enc vl3⟩)], []⟩ (tl [(0, .v (.one (.own 0 none))), (1, .v (.one (.d (.int .i64 qa)))), (2, .v (.one (.d (.int .i64 qb)))), (3, .v (.one (.fn 148 []))), (8, .v (.one (.d (.int .i64 vi)))), (9, .v (.one (.d (.int .i64 vj1))))]) 1

theorem z724 (qa : Int) (qb : Int) (vi : Int) (vl3 : List api_Note) (vj1 : Int) {r} (hF : z720 qa vl3 vj1 = some r) : Awp prog 1 53 (cL (cL (cL (cL (cR (cL (cL (cR (cL (cL (cR (cB f199)))))))))))) (Out 1 z723 (z722 qa qb vi vl3 vj1) r) (z721 qa qb vi vl3 vj1) := by
  unfold z720 at hF
  refine cE hF (fun h2 hF => ?_) fun h2 hF => ?_
  · refine bE hF fun vy15 h3 hF => ?_
    refine bE hF fun vy16 h4 hF => ?_
    refine bE hF fun vr2_3 h5 hF => ?_
    refine aD ?_
    refine dR 2 ?_
    refine dB h2 ?_
    refine dR 4 ?_
    refine dX (x_idxO api_Note.enc 0 h3) ?_
    refine dX (x_ldE api_Note.enc h3) ?_
    refine dR 3 ?_
    refine dX (x_idxO api_Note.enc 0 h4) ?_
    refine dX (x_ldE api_Note.enc h4) ?_
    refine dC (z280 h5) [] [] [] ?_
    refine dR 2 ?_
    refine dE ?_
    exact oO hF [] [] rfl
  · refine aD ?_
    refine dR 2 ?_
    refine dB h2 ?_
    refine dR 14 ?_
    refine dE ?_
    exact oO hF [] [] rfl

def z718 : (List api_Note) → AEx
  | _ => .exit 2

def z717 (qa : Int) (qb : Int) (vi : Int) : (List api_Note) → St
  | vl4 => Mem.st ⟨[(0, ⟨60, 9, List.map api_Note.enc vl4⟩)], []⟩ (tl [(0, .v (.one (.own 0 none))), (1, .v (.one (.d (.int .i64 qa)))), (2, .v (.one (.d (.int .i64 qb)))), (3, .v (.one (.fn 148 []))), (8, .v (.one (.d (.int .i64 vi))))]) 1

def z716 (qa : Int) (qb : Int) (vi : Int) : (List api_Note) × Int → St
  | (vl3, vj1) => Mem.st ⟨[(0, ⟨60, 9, List.map api_Note.enc vl3⟩)], []⟩ (tl [(0, .v (.one (.own 0 none))), (1, .v (.one (.d (.int .i64 qa)))), (2, .v (.one (.d (.int .i64 qb)))), (3, .v (.one (.fn 148 []))), (8, .v (.one (.d (.int .i64 vi)))), (9, .v (.one (.d (.int .i64 vj1))))]) 1

theorem z719 (qa : Int) (qb : Int) (vi : Int) (s : (List api_Note) × Int) (r : ((List api_Note) × Int) ⊕ ((List api_Note))) (hF : z715 qa s = some r) : Awp prog 1 53 (cL (cL (cR (cL (cL (cR (cL (cL (cR (cB f199)))))))))) (Out 1 (kk z718) (SS (z716 qa qb vi) (z717 qa qb vi)) r) (z716 qa qb vi s) := by
  obtain ⟨vl3, vj1⟩ := s
  unfold z715 at hF
  refine awp_seq ?_
  refine awp_seq ?_
  refine awp_to (st' := z721 qa qb vi vl3 vj1) (oT [] []) ?_
  refine bE hF fun vx4_1 h6 hF => ?_
  refine awp_sub (z724 qa qb vi vl3 vj1 h6) ?_
  refine cE hF (fun h7 hF => ?_) fun h7 hF => ?_
  · refine awp_true (by kernel_rfl) h7 ?_
    refine awp_skip ?_
    refine awp_seq ?_
    refine awp_block ?_
    refine bE hF fun vy17 h8 hF => ?_
    refine bE hF fun vy18 h9 hF => ?_
    refine bE hF fun vy19 h10 hF => ?_
    refine aDw [0] ?_
    refine dR 8 ?_
    refine dI api_Note.enc 0 h8 rfl ?_
    refine dX (x_ldE api_Note.enc h8) ?_
    refine dR 2 ?_
    refine dI api_Note.enc 0 h9 rfl ?_
    refine dX (x_ldE api_Note.enc h9) ?_
    refine dI api_Note.enc 0 h9 rfl ?_
    refine dW api_Note.enc (api_Note.mk (api_Letter.mk vy17.Letter.Id vy17.Letter.Slot vy17.Letter.Body vy17.Letter.Prio vy17.Letter.At vy17.Letter.Until) vy17.State vy17.Tries vy17.Since) h9 rfl ?_
    refine dI api_Note.enc 0 h10 rfl ?_
    refine dW api_Note.enc (api_Note.mk (api_Letter.mk vy18.Letter.Id vy18.Letter.Slot vy18.Letter.Body vy18.Letter.Prio vy18.Letter.At vy18.Letter.Until) vy18.State vy18.Tries vy18.Since) h10 rfl ?_
    refine dE ?_
    refine awp_region ?_
    refine aR 3 ?_
    refine aE ?_
    exact oO hF [] [] rfl
  · refine awp_false (by kernel_rfl) h7 ?_
    refine awp_exit ?_
    exact oO hF [] [] rfl

def z713 : (List api_Note) → AEx
  | _ => .exit 0

def z712 (qa : Int) (qb : Int) : (List api_Note) → St
  | vl5 => Mem.st ⟨[(0, ⟨60, 9, List.map api_Note.enc vl5⟩)], []⟩ (tl []) 1

def z711 (qa : Int) (qb : Int) : (List api_Note) × Int → St
  | (vl, vi) => Mem.st ⟨[(0, ⟨60, 9, List.map api_Note.enc vl⟩)], []⟩ (tl [(0, .v (.one (.own 0 none))), (1, .v (.one (.d (.int .i64 qa)))), (2, .v (.one (.d (.int .i64 qb)))), (3, .v (.one (.fn 148 []))), (8, .v (.one (.d (.int .i64 vi))))]) 1

theorem z714 (qa : Int) (qb : Int) (s : (List api_Note) × Int) (r : ((List api_Note) × Int) ⊕ ((List api_Note))) (hF : z710 qa qb s = some r) : Awp prog 1 53 (cL (cL (cR (cB f199)))) (Out 1 (kk z713) (SS (z711 qa qb) (z712 qa qb)) r) (z711 qa qb s) := by
  obtain ⟨vl, vi⟩ := s
  unfold z710 at hF
  refine awp_seq ?_
  refine awp_seq ?_
  refine awp_region ?_
  refine aR 3 ?_
  refine aE ?_
  refine cE hF (fun h1 hF => ?_) fun h1 hF => ?_
  · refine awp_true (by kernel_rfl) h1 ?_
    refine awp_skip ?_
    refine awp_seq ?_
    refine awp_block ?_
    refine awp_seq ?_
    refine awp_region ?_
    refine aR 2 ?_
    refine aE ?_
    refine awp_block ?_
    refine awp_to (st' := z716 qa qb vi (vl, vi)) (oT [] []) ?_
    refine bE hF fun vl4_1 h11 hF => ?_
    refine awp_sub (awp_loop' (z716 qa qb vi) z718 (z717 qa qb vi) (by intro x; exact fun h => nomatch h) h11 (z719 qa qb vi)) ?_
    refine awp_region ?_
    refine aR 3 ?_
    refine aE ?_
    exact oO hF [] [] rfl
  · refine awp_false (by kernel_rfl) h1 ?_
    refine awp_exit ?_
    exact oO hF [] [] rfl

def z708 (qdata : List api_Note) (qa : Int) (qb : Int) (r : (List api_Note)) : TV × Mem := (.tup [], ⟨[(0, ⟨60, 9, List.map api_Note.enc r⟩)], []⟩)

theorem z709 {qdata : List api_Note} {qa : Int} {qb : Int} {r} (hF : z707 qdata qa qb = some r) : Holds prog 199 [.v (.one (.own 0 none)), .v (.one (.d (.int .i64 qa))), .v (.one (.d (.int .i64 qb))), .v (.one (.fn 148 []))] ⟨[(0, ⟨60, 9, List.map api_Note.enc qdata⟩)], []⟩ (Is (z708 qdata qa qb r)) := by
  unfold z707 at hF
  refine holds_of_awp hΓ (fn := f199) (c := cB f199) (A := 1) (nx := 1) (by kernel_rfl) (by kernel_rfl) (by kernel_rfl) (by kernel_rfl) (by kernel_rfl) (by kernel_rfl) (lowc_of (by kernel_rfl)) ?_
  show Awp prog 1 53 (cB f199) _ _
  refine awp_seq ?_
  refine awp_region ?_
  refine aR 3 ?_
  refine aE ?_
  refine awp_block ?_
  refine awp_to (st' := z711 qa qb (qdata, IntKind.wrap .i64 (qa + 1))) (oT [] []) ?_
  refine bE hF fun vl5_1 h12 hF => ?_
  refine awp_sub (awp_loop' (z711 qa qb) z713 (z712 qa qb) (by intro x; exact fun h => nomatch h) h12 (z714 qa qb)) ?_
  exact oF hF [] []

/-! ### slices.pdqsortCmpFunc[beaconfleet/api.Note] -/
def z765 : (List api_Note) → AEx
  | _ => .ret

def z764 (qx : List api_Note) (qx1 : Int) (qx2 : Int) (qx3 : Int) : (List api_Note) → St
  | vl => Mem.st ⟨[(0, ⟨60, 9, List.map api_Note.enc vl⟩)], []⟩ (tl []) 1

def z763 (qx : List api_Note) (qx1 : Int) (qx2 : Int) (qx3 : Int) : Unit → St
  | _ => Mem.st ⟨[(0, ⟨60, 9, List.map api_Note.enc qx⟩)], []⟩ (tl [(0, .v (.one (.own 0 none))), (1, .v (.one (.d (.int .i64 qx1)))), (2, .v (.one (.d (.int .i64 qx2)))), (3, .v (.one (.d (.int .i64 qx3)))), (4, .v (.one (.fn 148 []))), (10, .v (.one (.d (.bool true)))), (11, .v (.one (.d (.bool true))))]) 1

theorem z766 (qx : List api_Note) (qx1 : Int) (qx2 : Int) (qx3 : Int) (s : Unit) (r : (Unit) ⊕ ((List api_Note))) (hF : z762 qx qx1 qx2 qx3 s = some r) : Awp prog 1 148 (cL (cL (cR (cR (cB f153))))) (Out 1 (kk z765) (SS (z763 qx qx1 qx2 qx3) (z764 qx qx1 qx2 qx3)) r) (z763 qx qx1 qx2 qx3 s) := by
  unfold z762 at hF
  refine awp_block ?_
  refine awp_seq ?_
  refine awp_region ?_
  refine aR 4 ?_
  refine aE ?_
  refine awp_seq ?_
  refine awp_seq ?_
  refine awp_region ?_
  refine aR 2 ?_
  refine aE ?_
  refine cE hF (fun h1 hF => ?_) fun h1 hF => ?_
  · refine awp_true (by kernel_rfl) h1 ?_
    refine awp_seq ?_
    refine bE hF fun vl6_1 h2 hF => ?_
    refine gE hF fun h3 hF => ?_
    refine awp_region ?_
    refine aR 4 ?_
    refine aCp (z709 h2) ⟨⟨rfl, rfl, pin1 h3⟩, trivial⟩ [] [] [] ?_
    refine aE ?_
    refine awp_ret ?_
    exact oO hF [] [] rfl
  · refine awp_false (by kernel_rfl) h1 ?_
    refine awp_skip ?_
    refine awp_seq ?_
    refine awp_seq ?_
    refine awp_region ?_
    refine aR 2 ?_
    refine aE ?_
    refine cE hF (fun h4 hF => ?_) fun h4 hF => ?_
    · refine awp_true (by kernel_rfl) h4 ?_
      refine awp_seq ?_
      exact nE hF
    · refine awp_false (by kernel_rfl) h4 ?_
      refine awp_skip ?_
      refine awp_seq ?_
      refine awp_seq ?_
      refine awp_region ?_
      refine aR 2 ?_
      refine aE ?_
      refine awp_false (by kernel_rfl) rfl ?_
      refine awp_skip ?_
      refine awp_seq ?_
      exact nE hF

def z760 (qx : List api_Note) (qx1 : Int) (qx2 : Int) (qx3 : Int) (r : (List api_Note)) : TV × Mem := (.tup [], ⟨[(0, ⟨60, 9, List.map api_Note.enc r⟩)], []⟩)

theorem z761 {qx : List api_Note} {qx1 : Int} {qx2 : Int} {qx3 : Int} {r} (hF : z759 qx qx1 qx2 qx3 = some r) : Holds prog 153 [.v (.one (.own 0 none)), .v (.one (.d (.int .i64 qx1))), .v (.one (.d (.int .i64 qx2))), .v (.one (.d (.int .i64 qx3))), .v (.one (.fn 148 []))] ⟨[(0, ⟨60, 9, List.map api_Note.enc qx⟩)], []⟩ (Is (z760 qx qx1 qx2 qx3 r)) := by
  unfold z759 at hF
  refine holds_of_awp hΓ (fn := f153) (c := cB f153) (A := 1) (nx := 1) (by kernel_rfl) (by kernel_rfl) (by kernel_rfl) (by kernel_rfl) (by kernel_rfl) (by kernel_rfl) (lowc_of (by kernel_rfl)) ?_
  show Awp prog 1 148 (cB f153) _ _
  refine awp_seq ?_
  refine awp_region ?_
  refine aR 1 ?_
  refine aE ?_
  refine awp_seq ?_
  refine awp_region ?_
  refine aR 1 ?_
  refine aE ?_
  refine awp_block ?_
  refine awp_to (st' := z763 qx qx1 qx2 qx3 ()) (oT [] []) ?_
  refine bE hF fun vl1 h7 hF => ?_
  refine awp_sub (awp_loop' (z763 qx qx1 qx2 qx3) z765 (z764 qx qx1 qx2 qx3) (by intro x; exact fun h => nomatch h) h7 (z766 qx qx1 qx2 qx3)) ?_
  exact oF hF [] []

/-! ### slices.SortFunc[[]beaconfleet/api.Note,beaconfleet/api.Note] -/
def z666 (qx : List api_Note) (r : (List api_Note)) : TV × Mem := (.tup [], ⟨[(0, ⟨60, 9, List.map api_Note.enc r⟩)], []⟩)

theorem z667 {qx : List api_Note} {r} (hF : z665 qx = some r) : Holds prog 83 [.v (.one (.own 0 none)), .v (.one (.fn 148 []))] ⟨[(0, ⟨60, 9, List.map api_Note.enc qx⟩)], []⟩ (Is (z666 qx r)) := by
  unfold z665 at hF
  refine holds_of_awp hΓ (fn := f83) (c := cB f83) (A := 1) (nx := 1) (by kernel_rfl) (by kernel_rfl) (by kernel_rfl) (by kernel_rfl) (by kernel_rfl) (by kernel_rfl) (lowc_of (by kernel_rfl)) ?_
  show Awp prog 1 14 (cB f83) _ _
  refine awp_seq ?_
  refine awp_region ?_
  refine aR 1 ?_
  refine aL api_Note.enc qx ?_
  refine aR 1 ?_
  refine aE ?_
  refine bE hF fun vr1 h1 hF => ?_
  refine bE hF fun vl2 h2 hF => ?_
  refine gE hF fun h3 hF => ?_
  refine awp_region ?_
  refine aR 4 ?_
  refine aC (z120 h1) [] [] [] ?_
  refine aR 1 ?_
  refine aCp (z761 h2) ⟨⟨rfl, rfl, pin1 h3⟩, trivial⟩ [] [] [] ?_
  refine aE ?_
  exact oF hF [] []

/-! ### (*beaconfleet/command.Office).aged -/
def z286 : ((List (List UInt8 × api_Note)) × (List api_Note)) → AEx
  | _ => .exit 0

def z285 (qo : Int) (qo1 : Int) (qo2 : Int) (qo3 : Int) (qm : List (List UInt8 × api_Note)) (qo4 : Int) (qat : Int) (vme : List (Nat × List D × List D)) (vcl : Nat) (vhp : (List.map (encM D.str api_Note.enc) qm).Perm (List.map (·.2) vme)) : ((List (List UInt8 × api_Note)) × (List api_Note)) → St
  | (vm1, vover1) => Mem.st ⟨[(3, ⟨60, 9, List.map api_Note.enc vover1⟩)], [(0, [.d (.int .i64 qo), .d (.int .i64 qo1), .d (.int .i64 qo2), .d (.int .i64 qo3), .mapp 1, .d (.int .i64 qo4)]), (1, [.mapc .str true (List.map (encM D.str api_Note.enc) qm)]), (2, [.mapc .str true (List.map (encM D.str api_Note.enc) vm1)])]⟩ (tl [(0, .v (.one (.box 0 0))), (5, .v (.one (.mapp 2))), (6, .v (.one (.own 3 none)))]) 4

def z284 (qo : Int) (qo1 : Int) (qo2 : Int) (qo3 : Int) (qm : List (List UInt8 × api_Note)) (qo4 : Int) (qat : Int) (vme : List (Nat × List D × List D)) (vcl : Nat) (vhp : (List.map (encM D.str api_Note.enc) qm).Perm (List.map (·.2) vme)) (vl : List (List UInt8 × api_Note)) : (List (List UInt8 × api_Note)) × (List api_Note) → St
  | (vm, vover) => Mem.st ⟨[(4, ⟨60, 9, List.map api_Note.enc vover⟩)], [(0, [.d (.int .i64 qo), .d (.int .i64 qo1), .d (.int .i64 qo2), .d (.int .i64 qo3), .mapp 1, .d (.int .i64 qo4)]), (1, [.mapg .str true vme vcl]), (2, [.iterc 1 vme vcl (List.map (encM D.str api_Note.enc) vl) none]), (3, [.mapc .str true (List.map (encM D.str api_Note.enc) vm)])]⟩ (tl [(0, .v (.one (.box 0 0))), (1, .v (.one (.d (.int .i64 qat)))), (5, .v (.one (.mapp 3))), (6, .v (.one (.own 4 none))), (16, .v (.one (.box 2 0)))]) 5

theorem z287 (qo : Int) (qo1 : Int) (qo2 : Int) (qo3 : Int) (qm : List (List UInt8 × api_Note)) (qo4 : Int) (qat : Int) (vme : List (Nat × List D × List D)) (vcl : Nat) (vhp : (List.map (encM D.str api_Note.enc) qm).Perm (List.map (·.2) vme)) (vl : List (List UInt8 × api_Note)) (s : (List (List UInt8 × api_Note)) × (List api_Note)) (hE : vl = [] → ∃ x, z283 qo qo1 qo2 qo3 qo4 qat none s = some x) (hP : ∀ e l', List.Perm vl (e :: l') → ∃ x, z283 qo qo1 qo2 qo3 qo4 qat (some e) s = some x) : Awp prog 2 60 (cL (cL (cR (cL (cR (cR (cR (cB f75)))))))) (OutR 2 z286 (z283 qo qo1 qo2 qo3 qo4 qat) (z284 qo qo1 qo2 qo3 qm qo4 qat vme vcl vhp) (z285 qo qo1 qo2 qo3 qm qo4 qat vme vcl vhp) vl s) (z284 qo qo1 qo2 qo3 qm qo4 qat vme vcl vhp vl s) := by
  obtain ⟨vm, vover⟩ := s
  refine awp_seq ?_
  refine awp_region ?_
  refine aNext (ka := .str) (va := true) (me := vme) (cl := vcl) (cur := none) 2 1 (encM D.str api_Note.enc) vl rfl (fun h3 => ?_) (fun ve1 vl2 vb1 h4 => ?_)
  · obtain ⟨x, hF0⟩ := hE h3
    have hF := hF0
    unfold z283 at hF
    refine aR 1 ?_
    refine aE ?_
    refine awp_seq ?_
    refine awp_false (by kernel_rfl) rfl ?_
    refine awp_close (ka := .str) (va := true) (me := vme) (cl := vcl) 1 vhp ?_
    refine awp_exit ?_
    exact outE h3 hF0 (oO hF [(2, 3), (3, 4)] [] rfl)
  · obtain ⟨x, hF0⟩ := hP _ _ h4
    have hF := hF0
    unfold z283 at hF
    refine aR 1 ?_
    refine aE ?_
    refine awp_seq ?_
    refine awp_true (by kernel_rfl) rfl ?_
    refine awp_skip ?_
    refine awp_block ?_
    refine awp_seq ?_
    refine awp_region ?_
    refine aEntry (ka := .str) (va := true) (me := vme) (cl := vcl) (b := vb1) (rest := List.map (encM D.str api_Note.enc) vl2) 2 1 (encM D.str api_Note.enc) ve1 rfl ?_
    refine aR 5 ?_
    refine aE ?_
    refine awp_seq ?_
    refine bE hF fun vr2_1 h5 hF => ?_
    refine awp_region ?_
    refine aR 3 ?_
    refine aC (z295 (qme0 := vme) (qcl0 := vcl) h5) [] [] [] ?_
    refine aR 1 ?_
    refine aE ?_
    refine awp_seq ?_
    refine awp_region ?_
    refine aR 3 ?_
    refine aPut 3 .str true (l := vm) (key := ve1.1) (v := (api_Note.mk (api_Letter.mk vr2_1.Letter.Id vr2_1.Letter.Slot vr2_1.Letter.Body vr2_1.Letter.Prio vr2_1.Letter.At vr2_1.Letter.Until) vr2_1.State vr2_1.Tries vr2_1.Since)) D.str api_Note.enc rfl ?_
    refine aE ?_
    refine awp_seq ?_
    refine bE hF fun _ h6 hF => ?_
    refine awp_region ?_
    refine aR 2 ?_
    refine aC (z326 h6) [] [] [] ?_
    refine aE ?_
    refine cE hF (fun h7 hF => ?_) fun h7 hF => ?_
    · refine awp_true (by kernel_rfl) h7 ?_
      refine gE hF fun h8 hF => ?_
      refine awp_region ?_
      refine aR 3 ?_
      refine aX (x_app api_Note.enc 4 h8) ?_
      refine aR 1 ?_
      refine aE ?_
      exact outP h4 hF0 (outCur (idM := 1) (me := vme) (cl := vcl) (rest := List.map (encM D.str api_Note.enc) vl2) (cur := some (vb1, (encM D.str api_Note.enc) ve1)) 2 <| oO hF [(4, 23005)] [] rfl)
    · refine awp_false (by kernel_rfl) h7 ?_
      refine awp_skip ?_
      exact outP h4 hF0 (outCur (idM := 1) (me := vme) (cl := vcl) (rest := List.map (encM D.str api_Note.enc) vl2) (cur := some (vb1, (encM D.str api_Note.enc) ve1)) 2 <| oO hF [] [] rfl)

def z291 : (List (List UInt8 × api_Note)) → AEx
  | _ => .exit 2

def z290 (qo : Int) (qo1 : Int) (qo2 : Int) (qo3 : Int) (qm : List (List UInt8 × api_Note)) (qo4 : Int) (vl3 : List api_Note) : (List (List UInt8 × api_Note)) → St
  | vm3 => Mem.st ⟨[], [(0, [.d (.int .i64 qo), .d (.int .i64 qo1), .d (.int .i64 qo2), .d (.int .i64 qo3), .mapp 1, .d (.int .i64 qo4)]), (1, [.mapc .str true (List.map (encM D.str api_Note.enc) qm)]), (2, [.mapc .str true (List.map (encM D.str api_Note.enc) vm3)])]⟩ (tl [(5, .v (.one (.mapp 2)))]) 3

def z289 (qo : Int) (qo1 : Int) (qo2 : Int) (qo3 : Int) (qm : List (List UInt8 × api_Note)) (qo4 : Int) (vl3 : List api_Note) : (List (List UInt8 × api_Note)) × Int → St
  | (vm2, vx) => Mem.st ⟨[], [(0, [.d (.int .i64 qo), .d (.int .i64 qo1), .d (.int .i64 qo2), .d (.int .i64 qo3), .mapp 1, .d (.int .i64 qo4)]), (1, [.mapc .str true (List.map (encM D.str api_Note.enc) qm)]), (2, [.mapc .str true (List.map (encM D.str api_Note.enc) vm2)])]⟩ (tl [(5, .v (.one (.mapp 2))), (48, .v (.one (.d (.lst (List.map api_Note.enc (vl3.take (imax 0 (IntKind.wrap .i64 ((vl3.length : Int) - qo3))).toNat)))))), (49, .v (.one (.d (.int .i64 ((vl3.take (imax 0 (IntKind.wrap .i64 ((vl3.length : Int) - qo3))).toNat).length : Int))))), (50, .v (.one (.d (.int .i64 vx))))]) 3

theorem z292 (qo : Int) (qo1 : Int) (qo2 : Int) (qo3 : Int) (qm : List (List UInt8 × api_Note)) (qo4 : Int) (vl3 : List api_Note) (s : (List (List UInt8 × api_Note)) × Int) (r : ((List (List UInt8 × api_Note)) × Int) ⊕ ((List (List UInt8 × api_Note)))) (hF : z288 qo3 vl3 s = some r) : Awp prog 2 60 (cL (cL (cR (cL (cR (cR (cR (cR (cR (cB f75)))))))))) (Out 2 (kk z291) (SS (z289 qo qo1 qo2 qo3 qm qo4 vl3) (z290 qo qo1 qo2 qo3 qm qo4 vl3)) r) (z289 qo qo1 qo2 qo3 qm qo4 vl3 s) := by
  obtain ⟨vm2, vx⟩ := s
  unfold z288 at hF
  refine awp_seq ?_
  refine awp_region ?_
  refine aR 1 ?_
  refine aE ?_
  refine awp_seq ?_
  refine cE hF (fun h13 hF => ?_) fun h13 hF => ?_
  · refine awp_true (by kernel_rfl) h13 ?_
    refine awp_skip ?_
    refine awp_seq ?_
    refine awp_block ?_
    refine awp_seq ?_
    refine bE hF fun vy1 h14 hF => ?_
    refine awp_region ?_
    refine aX (x_idx api_Note.enc h14) ?_
    refine aR 3 ?_
    refine aE ?_
    refine awp_region ?_
    refine aR 4 ?_
    refine aDel 2 .str true (l := vm2) (key := vy1.Letter.Id) D.str api_Note.enc rfl ?_
    refine aE ?_
    refine awp_region ?_
    refine aR 2 ?_
    refine aE ?_
    exact oO hF [] [] rfl
  · refine awp_false (by kernel_rfl) h13 ?_
    refine awp_exit ?_
    exact oO hF [] [] rfl

def z281 (qo : Int) (qo1 : Int) (qo2 : Int) (qo3 : Int) (qm : List (List UInt8 × api_Note)) (qo4 : Int) (qat : Int) (r : (List (List UInt8 × api_Note))) : TV × Mem := (.v (.one (.mapp 2)), ⟨[], [(0, [.d (.int .i64 qo), .d (.int .i64 qo1), .d (.int .i64 qo2), .d (.int .i64 qo3), .mapp 1, .d (.int .i64 qo4)]), (1, [.mapc .str true (List.map (encM D.str api_Note.enc) qm)]), (2, [.mapc .str true (List.map (encM D.str api_Note.enc) r)])]⟩)

theorem z282 {qo : Int} {qo1 : Int} {qo2 : Int} {qo3 : Int} {qm : List (List UInt8 × api_Note)} {qo4 : Int} {qat : Int} {r} (hF : z277 qo qo1 qo2 qo3 qm qo4 qat = some r) : Holds prog 75 [.v (.one (.box 0 0)), .v (.one (.d (.int .i64 qat)))] ⟨[], [(0, [.d (.int .i64 qo), .d (.int .i64 qo1), .d (.int .i64 qo2), .d (.int .i64 qo3), .mapp 1, .d (.int .i64 qo4)]), (1, [.mapc .str true (List.map (encM D.str api_Note.enc) qm)])]⟩ (Is (z281 qo qo1 qo2 qo3 qm qo4 qat r)) := by
  unfold z277 at hF
  refine holds_of_awp hΓ (fn := f75) (c := cB f75) (A := 2) (nx := 2) (by kernel_rfl) (by kernel_rfl) (by kernel_rfl) (by kernel_rfl) (by kernel_rfl) (by kernel_rfl) (lowc_of (by kernel_rfl)) ?_
  show Awp prog 2 60 (cB f75) _ _
  refine awp_seq ?_
  refine awp_region ?_
  refine aR 1 ?_
  refine aE ?_
  refine awp_seq ?_
  refine awp_region ?_
  refine aX (x_map .str true (κ := List UInt8) (β := api_Note) D.str api_Note.enc) ?_
  refine aR 1 ?_
  refine aE ?_
  refine awp_seq ?_
  refine awp_region ?_
  refine aR 1 ?_
  refine aE ?_
  refine awp_seq ?_
  refine awp_seq ?_
  refine awp_region ?_
  refine aR 4 ?_
  refine aRange (ka := .str) (va := true) 1 (encM D.str api_Note.enc) qm rfl (fun vme vcl vhp => ?_)
  refine aE ?_
  refine awp_block ?_
  refine awp_to (st' := z284 qo qo1 qo2 qo3 qm qo4 qat vme vcl vhp qm (([] : List (List UInt8 × api_Note)), [])) (oT [(2, 8002), (3, 1002)] [4]) ?_
  refine rG (H := z284 qo qo1 qo2 qo3 qm qo4 qat vme vcl vhp) (k := z286) (S := z285 qo qo1 qo2 qo3 qm qo4 qat vme vcl vhp) hF (by intro x; exact fun h => nomatch h) (fun l s => z287 qo qo1 qo2 qo3 qm qo4 qat vme vcl vhp l s) (fun x hF => ?_)
  obtain ⟨vm1_1, vover1_1⟩ := x
  refine awp_seq ?_
  refine bE hF fun vl3 h10 hF => ?_
  refine gE hF fun h11 hF => ?_
  refine awp_region ?_
  refine aR 1 ?_
  refine aCp (z667 h10) ⟨⟨rfl, rfl, pin1 h11⟩, trivial⟩ [(0, 3)] [] [] ?_
  refine aE ?_
  refine awp_seq ?_
  refine awp_seq ?_
  refine gE hF fun h12 hF => ?_
  refine awp_region ?_
  refine aR 2 ?_
  refine aL api_Note.enc vl3 ?_
  refine aR 7 ?_
  refine aT api_Note.enc 3 h12 rfl ?_
  refine aL api_Note.enc (vl3.take (imax 0 (IntKind.wrap .i64 ((vl3.length : Int) - qo3))).toNat) ?_
  refine aR 1 ?_
  refine aE ?_
  refine awp_to (oT (m := ⟨[], [(0, [.d (.int .i64 qo), .d (.int .i64 qo1), .d (.int .i64 qo2), .d (.int .i64 qo3), .mapp 1, .d (.int .i64 qo4)]), (1, [.mapc .str true (List.map (encM D.str api_Note.enc) qm)]), (2, [.mapc .str true (List.map (encM D.str api_Note.enc) vm1_1)])]⟩) (ts := [(5, .v (.one (.mapp 2))), (48, .v (.one (.d (.lst (List.map api_Note.enc (vl3.take (imax 0 (IntKind.wrap .i64 ((vl3.length : Int) - qo3))).toNat)))))), (49, .v (.one (.d (.int .i64 ((vl3.take (imax 0 (IntKind.wrap .i64 ((vl3.length : Int) - qo3))).toNat).length : Int))))), (50, .v (.one (.d (.int .i64 0))))]) (nx := 3) [] []) ?_
  refine awp_block ?_
  refine awp_to (st' := z289 qo qo1 qo2 qo3 qm qo4 vl3 (vm1_1, 0)) (oT [] []) ?_
  refine bE hF fun vm3_1 h15 hF => ?_
  refine awp_sub (awp_loop' (z289 qo qo1 qo2 qo3 qm qo4 vl3) z291 (z290 qo qo1 qo2 qo3 qm qo4 vl3) (by intro x; exact fun h => nomatch h) h15 (z292 qo qo1 qo2 qo3 qm qo4 vl3)) ?_
  refine awp_seq ?_
  refine awp_region ?_
  refine aR 2 ?_
  refine aE ?_
  refine awp_ret ?_
  exact oF hF [] []

/-! ### beaconfleet/command.pending -/
def z333 : Int → AEx
  | _ => .exit 0

def z332 (qm : List (List UInt8 × api_Note)) (vme : List (Nat × List D × List D)) (vcl : Nat) (vhp : (List.map (encM D.str api_Note.enc) qm).Perm (List.map (·.2) vme)) : Int → St
  | vk1 => Mem.st ⟨[], [(0, [.mapc .str true (List.map (encM D.str api_Note.enc) qm)])]⟩ (tl [(3, .v (.one (.d (.int .i64 vk1))))]) 1

def z331 (qm : List (List UInt8 × api_Note)) (vme : List (Nat × List D × List D)) (vcl : Nat) (vhp : (List.map (encM D.str api_Note.enc) qm).Perm (List.map (·.2) vme)) (vl : List (List UInt8 × api_Note)) : Int → St
  | vk => Mem.st ⟨[], [(0, [.mapg .str true vme vcl]), (1, [.iterc 0 vme vcl (List.map (encM D.str api_Note.enc) vl) none])]⟩ (tl [(3, .v (.one (.d (.int .i64 vk)))), (7, .v (.one (.box 1 0)))]) 2

theorem z334 (qm : List (List UInt8 × api_Note)) (vme : List (Nat × List D × List D)) (vcl : Nat) (vhp : (List.map (encM D.str api_Note.enc) qm).Perm (List.map (·.2) vme)) (vl : List (List UInt8 × api_Note)) (vk : Int) (hE : vl = [] → ∃ x, z330 none vk = some x) (hP : ∀ e l', List.Perm vl (e :: l') → ∃ x, z330 (some e) vk = some x) : Awp prog 1 19 (cL (cL (cR (cL (cR (cR (cB f76))))))) (OutR 1 z333 (z330) (z331 qm vme vcl vhp) (z332 qm vme vcl vhp) vl vk) (z331 qm vme vcl vhp vl vk) := by
  refine awp_seq ?_
  refine awp_region ?_
  refine aNext (ka := .str) (va := true) (me := vme) (cl := vcl) (cur := none) 1 0 (encM D.str api_Note.enc) vl rfl (fun h3 => ?_) (fun ve1 vl2 vb1 h4 => ?_)
  · obtain ⟨x, hF0⟩ := hE h3
    have hF := hF0
    unfold z330 at hF
    refine aR 1 ?_
    refine aE ?_
    refine awp_seq ?_
    refine awp_false (by kernel_rfl) rfl ?_
    refine awp_close (ka := .str) (va := true) (me := vme) (cl := vcl) 0 vhp ?_
    refine awp_exit ?_
    exact outE h3 hF0 (oO hF [] [] rfl)
  · obtain ⟨x, hF0⟩ := hP _ _ h4
    have hF := hF0
    unfold z330 at hF
    refine aR 1 ?_
    refine aE ?_
    refine awp_seq ?_
    refine awp_true (by kernel_rfl) rfl ?_
    refine awp_skip ?_
    refine awp_block ?_
    refine awp_seq ?_
    refine awp_region ?_
    refine aEntry (ka := .str) (va := true) (me := vme) (cl := vcl) (b := vb1) (rest := List.map (encM D.str api_Note.enc) vl2) 1 0 (encM D.str api_Note.enc) ve1 rfl ?_
    refine aR 3 ?_
    refine aE ?_
    refine awp_seq ?_
    refine bE hF fun _ h5 hF => ?_
    refine awp_region ?_
    refine aR 2 ?_
    refine aC (z326 h5) [] [] [] ?_
    refine aR 1 ?_
    refine aE ?_
    refine cE hF (fun h6 hF => ?_) fun h6 hF => ?_
    · refine awp_true (by kernel_rfl) h6 ?_
      refine awp_region ?_
      refine aR 3 ?_
      refine aE ?_
      exact outP h4 hF0 (outCur (idM := 0) (me := vme) (cl := vcl) (rest := List.map (encM D.str api_Note.enc) vl2) (cur := some (vb1, (encM D.str api_Note.enc) ve1)) 1 <| oO hF [] [] rfl)
    · refine awp_false (by kernel_rfl) h6 ?_
      refine awp_skip ?_
      exact outP h4 hF0 (outCur (idM := 0) (me := vme) (cl := vcl) (rest := List.map (encM D.str api_Note.enc) vl2) (cur := some (vb1, (encM D.str api_Note.enc) ve1)) 1 <| oO hF [] [] rfl)

def z328 (qm : List (List UInt8 × api_Note)) (r : Int) : TV × Mem := (.v (.one (.d (.int .i64 r))), ⟨[], [(0, [.mapc .str true (List.map (encM D.str api_Note.enc) qm)])]⟩)

theorem z329 {qm : List (List UInt8 × api_Note)} {r} (hF : z327 qm = some r) : Holds prog 76 [.v (.one (.mapp 0))] ⟨[], [(0, [.mapc .str true (List.map (encM D.str api_Note.enc) qm)])]⟩ (Is (z328 qm r)) := by
  unfold z327 at hF
  refine holds_of_awp hΓ (fn := f76) (c := cB f76) (A := 1) (nx := 1) (by kernel_rfl) (by kernel_rfl) (by kernel_rfl) (by kernel_rfl) (by kernel_rfl) (by kernel_rfl) (lowc_of (by kernel_rfl)) ?_
  show Awp prog 1 19 (cB f76) _ _
  refine awp_seq ?_
  refine awp_region ?_
  refine aR 1 ?_
  refine aE ?_
  refine awp_seq ?_
  refine awp_region ?_
  refine aR 1 ?_
  refine aE ?_
  refine awp_seq ?_
  refine awp_seq ?_
  refine awp_region ?_
  refine aR 1 ?_
  refine aRange (ka := .str) (va := true) 0 (encM D.str api_Note.enc) qm rfl (fun vme vcl vhp => ?_)
  refine aE ?_
  refine awp_block ?_
  refine awp_to (st' := z331 qm vme vcl vhp qm 0) (oT [(1, 3001)] []) ?_
  refine rG (H := z331 qm vme vcl vhp) (k := z333) (S := z332 qm vme vcl vhp) hF (by intro x; exact fun h => nomatch h) (fun l s => z334 qm vme vcl vhp l s) (fun vk1_1 hF => ?_)
  refine awp_seq ?_
  refine awp_region ?_
  refine aR 2 ?_
  refine aE ?_
  refine awp_ret ?_
  exact oF hF [] []

/-! ### (*beaconfleet/command.Office).keep -/
def z302 (qo : Int) (qo1 : Int) (qo2 : Int) (qo3 : Int) (qm : List (List UInt8 × api_Note)) (qo4 : Int) (qm1 : List (List UInt8 × api_Note)) (qat : Int) (r : Unit) : TV × Mem := (.tup [], ⟨[], [(0, [.d (.int .i64 qo), .d (.int .i64 qo1), .d (.int .i64 qo2), .d (.int .i64 qo3), .mapp 2, .d (.int .i64 qat)]), (1, [.mapc .str true (List.map (encM D.str api_Note.enc) qm)]), (2, [.mapc .str true (List.map (encM D.str api_Note.enc) qm1)])]⟩)

theorem z303 {qo : Int} {qo1 : Int} {qo2 : Int} {qo3 : Int} {qm : List (List UInt8 × api_Note)} {qo4 : Int} {qm1 : List (List UInt8 × api_Note)} {qat : Int} {r} (hF : z301 qo qo1 qo2 qo3 qm qo4 qm1 qat = some r) : Holds prog 77 [.v (.one (.box 0 0)), .v (.one (.mapp 2)), .v (.one (.d (.int .i64 qat)))] ⟨[], [(0, [.d (.int .i64 qo), .d (.int .i64 qo1), .d (.int .i64 qo2), .d (.int .i64 qo3), .mapp 1, .d (.int .i64 qo4)]), (1, [.mapc .str true (List.map (encM D.str api_Note.enc) qm)]), (2, [.mapc .str true (List.map (encM D.str api_Note.enc) qm1)])]⟩ (Is (z302 qo qo1 qo2 qo3 qm qo4 qm1 qat r)) := by
  unfold z301 at hF
  refine holds_of_awp hΓ (fn := f77) (c := cB f77) (A := 3) (nx := 3) (by kernel_rfl) (by kernel_rfl) (by kernel_rfl) (by kernel_rfl) (by kernel_rfl) (by kernel_rfl) (lowc_of (by kernel_rfl)) ?_
  show Awp prog 3 14 (cB f77) _ _
  refine awp_region ?_
  refine aR 10 ?_
  refine aE ?_
  exact oF hF [] []

/-! ### (*beaconfleet/command.Office).Put -/
def z249 : Bool → AEx
  | _ => .normal

def z248 (qx : Int) (qx1 : Int) (qx2 : Int) (qx3 : Int) (qm : List (List UInt8 × api_Note)) (qx4 : Int) (qx5 : api_Letter) (vm4 : List (List UInt8 × api_Note)) (vme : List (Nat × List D × List D)) (vcl : Nat) (vhp : (List.map (encM D.str api_Note.enc) vm4).Perm (List.map (·.2) vme)) (vx : List UInt8) (ve2 : (List UInt8 × api_Note)) (vl2 : List (List UInt8 × api_Note)) (vb1 : Nat) : Bool → St
  | vx2 => Mem.st ⟨[], [(0, [.d (.int .i64 qx), .d (.int .i64 qx1), .d (.int .i64 qx2), .d (.int .i64 qx3), .mapp 1, .d (.int .i64 qx4)]), (1, [.mapc .str true (List.map (encM D.str api_Note.enc) qm)]), (2, [.d (.str qx5.Id), .d (.str qx5.Slot), .d (.str qx5.Body), .d (.int .i64 qx5.Prio), .d (.int .i64 qx5.At), .d (.int .i64 qx5.Until)]), (3, [.iterc 4 vme vcl (List.map (encM D.str api_Note.enc) vl2) (some (vb1, (encM D.str api_Note.enc) ve2))]), (4, [.mapg .str true vme vcl])]⟩ (tl [(0, .v (.one (.box 0 0))), (3, .v (.one (.box 2 0))), (6, .v (.one (.mapp 4))), (9, .v (.one (.d (.str vx)))), (10, .v (.one (.d (.str ve2.1)))), (38, .v (.one (.box 3 0))), (64, .v (.one (.d (.bool vx2))))]) 5

def z247 (qx : Int) (qx1 : Int) (qx2 : Int) (qx3 : Int) (qm : List (List UInt8 × api_Note)) (qx4 : Int) (qx5 : api_Letter) (vm4 : List (List UInt8 × api_Note)) (vme : List (Nat × List D × List D)) (vcl : Nat) (vhp : (List.map (encM D.str api_Note.enc) vm4).Perm (List.map (·.2) vme)) (vx : List UInt8) (ve2 : (List UInt8 × api_Note)) (vl2 : List (List UInt8 × api_Note)) (vb1 : Nat) : St := Mem.st ⟨[], [(0, [.d (.int .i64 qx), .d (.int .i64 qx1), .d (.int .i64 qx2), .d (.int .i64 qx3), .mapp 1, .d (.int .i64 qx4)]), (1, [.mapc .str true (List.map (encM D.str api_Note.enc) qm)]), (2, [.d (.str qx5.Id), .d (.str qx5.Slot), .d (.str qx5.Body), .d (.int .i64 qx5.Prio), .d (.int .i64 qx5.At), .d (.int .i64 qx5.Until)]), (3, [.d (.str ve2.2.Letter.Id), .d (.str ve2.2.Letter.Slot), .d (.str ve2.2.Letter.Body), .d (.int .i64 ve2.2.Letter.Prio), .d (.int .i64 ve2.2.Letter.At), .d (.int .i64 ve2.2.Letter.Until), .d (.int .i64 ve2.2.State), .d (.int .i64 ve2.2.Tries), .d (.int .i64 ve2.2.Since)]), (4, [.iterc 5 vme vcl (List.map (encM D.str api_Note.enc) vl2) (some (vb1, (encM D.str api_Note.enc) ve2))]), (5, [.mapg .str true vme vcl])]⟩ (tl [(0, .v (.one (.box 0 0))), (3, .v (.one (.box 2 0))), (6, .v (.one (.mapp 5))), (9, .v (.one (.d (.str vx)))), (10, .v (.one (.d (.str ve2.1)))), (11, .v (.one (.box 3 0))), (38, .v (.one (.box 4 0)))]) 6

theorem z250 (qx : Int) (qx1 : Int) (qx2 : Int) (qx3 : Int) (qm : List (List UInt8 × api_Note)) (qx4 : Int) (qx5 : api_Letter) (vm4 : List (List UInt8 × api_Note)) (vme : List (Nat × List D × List D)) (vcl : Nat) (vhp : (List.map (encM D.str api_Note.enc) vm4).Perm (List.map (·.2) vme)) (vx : List UInt8) (ve2 : (List UInt8 × api_Note)) (vl2 : List (List UInt8 × api_Note)) (vb1 : Nat) {r} (hF : z246 qx5 ve2 = some r) : Awp prog 2 103 (cL (cR (cL (cR (cR (cL (cL (cR (cL (cR (cR (cR (cR (cR (cB f18))))))))))))))) (Out 2 z249 (z248 qx qx1 qx2 qx3 qm qx4 qx5 vm4 vme vcl vhp vx ve2 vl2 vb1) r) (z247 qx qx1 qx2 qx3 qm qx4 qx5 vm4 vme vcl vhp vx ve2 vl2 vb1) := by
  unfold z246 at hF
  refine cE hF (fun h13 hF => ?_) fun h13 hF => ?_
  · refine cE hF (fun h14 hF => ?_) fun h14 hF => ?_
    · refine cE hF (fun h15 hF => ?_) fun h15 hF => ?_
      · refine awp_region ?_
        refine aR 2 ?_
        refine aB h13 ?_
        refine aR 6 ?_
        refine aB h14 ?_
        refine aR 4 ?_
        refine aB h15 ?_
        refine aR 6 ?_
        refine aE ?_
        exact oO hF [(3, 4), (4, 5)] [] rfl
      · refine awp_region ?_
        refine aR 2 ?_
        refine aB h13 ?_
        refine aR 6 ?_
        refine aB h14 ?_
        refine aR 4 ?_
        refine aB h15 ?_
        refine aR 6 ?_
        refine aE ?_
        exact oO hF [(3, 4), (4, 5)] [] rfl
    · refine awp_region ?_
      refine aR 2 ?_
      refine aB h13 ?_
      refine aR 6 ?_
      refine aB h14 ?_
      refine aR 11 ?_
      refine aE ?_
      exact oO hF [(3, 4), (4, 5)] [] rfl
  · refine awp_region ?_
    refine aR 2 ?_
    refine aB h13 ?_
    refine aR 18 ?_
    refine aE ?_
    exact oO hF [(3, 4), (4, 5)] [] rfl

def z244 : (List UInt8) → AEx
  | _ => .exit 0

def z243 (qx : Int) (qx1 : Int) (qx2 : Int) (qx3 : Int) (qm : List (List UInt8 × api_Note)) (qx4 : Int) (qx5 : api_Letter) (vm4 : List (List UInt8 × api_Note)) (vme : List (Nat × List D × List D)) (vcl : Nat) (vhp : (List.map (encM D.str api_Note.enc) vm4).Perm (List.map (·.2) vme)) : (List UInt8) → St
  | vx3 => Mem.st ⟨[], [(0, [.d (.int .i64 qx), .d (.int .i64 qx1), .d (.int .i64 qx2), .d (.int .i64 qx3), .mapp 1, .d (.int .i64 qx4)]), (1, [.mapc .str true (List.map (encM D.str api_Note.enc) qm)]), (2, [.d (.str qx5.Id), .d (.str qx5.Slot), .d (.str qx5.Body), .d (.int .i64 qx5.Prio), .d (.int .i64 qx5.At), .d (.int .i64 qx5.Until)]), (3, [.mapc .str true (List.map (encM D.str api_Note.enc) vm4)])]⟩ (tl [(0, .v (.one (.box 0 0))), (3, .v (.one (.box 2 0))), (6, .v (.one (.mapp 3))), (9, .v (.one (.d (.str vx3))))]) 4

def z242 (qx : Int) (qx1 : Int) (qx2 : Int) (qx3 : Int) (qm : List (List UInt8 × api_Note)) (qx4 : Int) (qx5 : api_Letter) (vm4 : List (List UInt8 × api_Note)) (vme : List (Nat × List D × List D)) (vcl : Nat) (vhp : (List.map (encM D.str api_Note.enc) vm4).Perm (List.map (·.2) vme)) (vl : List (List UInt8 × api_Note)) : (List UInt8) → St
  | vx => Mem.st ⟨[], [(0, [.d (.int .i64 qx), .d (.int .i64 qx1), .d (.int .i64 qx2), .d (.int .i64 qx3), .mapp 1, .d (.int .i64 qx4)]), (1, [.mapc .str true (List.map (encM D.str api_Note.enc) qm)]), (2, [.d (.str qx5.Id), .d (.str qx5.Slot), .d (.str qx5.Body), .d (.int .i64 qx5.Prio), .d (.int .i64 qx5.At), .d (.int .i64 qx5.Until)]), (3, [.iterc 4 vme vcl (List.map (encM D.str api_Note.enc) vl) none]), (4, [.mapg .str true vme vcl])]⟩ (tl [(0, .v (.one (.box 0 0))), (3, .v (.one (.box 2 0))), (6, .v (.one (.mapp 4))), (9, .v (.one (.d (.str vx)))), (38, .v (.one (.box 3 0)))]) 5

theorem z245 (qx : Int) (qx1 : Int) (qx2 : Int) (qx3 : Int) (qm : List (List UInt8 × api_Note)) (qx4 : Int) (qx5 : api_Letter) (vm4 : List (List UInt8 × api_Note)) (vme : List (Nat × List D × List D)) (vcl : Nat) (vhp : (List.map (encM D.str api_Note.enc) vm4).Perm (List.map (·.2) vme)) (vl : List (List UInt8 × api_Note)) (vx : (List UInt8)) (hE : vl = [] → ∃ x, z241 qx5 none vx = some x) (hP : ∀ e l', List.Perm vl (e :: l') → ∃ x, z241 qx5 (some e) vx = some x) : Awp prog 2 103 (cL (cL (cR (cL (cR (cR (cR (cR (cR (cB f18)))))))))) (OutR 2 z244 (z241 qx5) (z242 qx qx1 qx2 qx3 qm qx4 qx5 vm4 vme vcl vhp) (z243 qx qx1 qx2 qx3 qm qx4 qx5 vm4 vme vcl vhp) vl vx) (z242 qx qx1 qx2 qx3 qm qx4 qx5 vm4 vme vcl vhp vl vx) := by
  refine awp_seq ?_
  refine awp_region ?_
  refine aNext (ka := .str) (va := true) (me := vme) (cl := vcl) (cur := none) 3 4 (encM D.str api_Note.enc) vl rfl (fun h11 => ?_) (fun ve2 vl2 vb1 h12 => ?_)
  · obtain ⟨x, hF0⟩ := hE h11
    have hF := hF0
    unfold z241 at hF
    refine aR 1 ?_
    refine aE ?_
    refine awp_seq ?_
    refine awp_false (by kernel_rfl) rfl ?_
    refine awp_close (ka := .str) (va := true) (me := vme) (cl := vcl) 4 vhp ?_
    refine awp_exit ?_
    exact outE h11 hF0 (oO hF [(3, 4)] [] rfl)
  · obtain ⟨x, hF0⟩ := hP _ _ h12
    have hF := hF0
    unfold z241 at hF
    refine aR 1 ?_
    refine aE ?_
    refine awp_seq ?_
    refine awp_true (by kernel_rfl) rfl ?_
    refine awp_skip ?_
    refine awp_block ?_
    refine awp_seq ?_
    refine awp_region ?_
    refine aEntry (ka := .str) (va := true) (me := vme) (cl := vcl) (b := vb1) (rest := List.map (encM D.str api_Note.enc) vl2) 3 4 (encM D.str api_Note.enc) ve2 rfl ?_
    refine aR 5 ?_
    refine aE ?_
    refine awp_seq ?_
    refine awp_to (st' := z247 qx qx1 qx2 qx3 qm qx4 qx5 vm4 vme vcl vhp vx ve2 vl2 vb1) (oT [(3, 5005), (4, 3), (5, 4)] []) ?_
    refine bE hF fun vx2_1 h16 hF => ?_
    refine awp_sub (z250 qx qx1 qx2 qx3 qm qx4 qx5 vm4 vme vcl vhp vx ve2 vl2 vb1 h16) ?_
    refine cE hF (fun h17 hF => ?_) fun h17 hF => ?_
    · refine awp_true (by kernel_rfl) h17 ?_
      refine awp_region ?_
      refine aR 2 ?_
      refine aE ?_
      exact outP h12 hF0 (outCur (idM := 4) (me := vme) (cl := vcl) (rest := List.map (encM D.str api_Note.enc) vl2) (cur := some (vb1, (encM D.str api_Note.enc) ve2)) 3 <| oO hF [] [] rfl)
    · refine awp_false (by kernel_rfl) h17 ?_
      refine awp_skip ?_
      exact outP h12 hF0 (outCur (idM := 4) (me := vme) (cl := vcl) (rest := List.map (encM D.str api_Note.enc) vl2) (cur := some (vb1, (encM D.str api_Note.enc) ve2)) 3 <| oO hF [] [] rfl)

def z254 : Int → AEx
  | _ => .normal

def z253 (qx : Int) (qx1 : Int) (qx2 : Int) (qx3 : Int) (qm : List (List UInt8 × api_Note)) (qx4 : Int) (qx5 : api_Letter) (vm4 : List (List UInt8 × api_Note)) (vx3_1 : List UInt8) : Int → St
  | vx4 => Mem.st ⟨[], [(0, [.d (.int .i64 qx), .d (.int .i64 qx1), .d (.int .i64 qx2), .d (.int .i64 qx3), .mapp 1, .d (.int .i64 qx4)]), (1, [.mapc .str true (List.map (encM D.str api_Note.enc) qm)]), (2, [.d (.str qx5.Id), .d (.str qx5.Slot), .d (.str qx5.Body), .d (.int .i64 qx5.Prio), .d (.int .i64 qx5.At), .d (.int .i64 qx5.Until)]), (3, [.mapc .str true (List.map (encM D.str api_Note.enc) vm4)])]⟩ (tl [(0, .v (.one (.box 0 0))), (3, .v (.one (.box 2 0))), (6, .v (.one (.mapp 3))), (9, .v (.one (.d (.str vx3_1)))), (12, .v (.one (.d (.int .i64 vx4))))]) 4

def z252 (qx : Int) (qx1 : Int) (qx2 : Int) (qx3 : Int) (qm : List (List UInt8 × api_Note)) (qx4 : Int) (qx5 : api_Letter) (vm4 : List (List UInt8 × api_Note)) (vx3_1 : List UInt8) : St := Mem.st ⟨[], [(0, [.d (.int .i64 qx), .d (.int .i64 qx1), .d (.int .i64 qx2), .d (.int .i64 qx3), .mapp 1, .d (.int .i64 qx4)]), (1, [.mapc .str true (List.map (encM D.str api_Note.enc) qm)]), (2, [.d (.str qx5.Id), .d (.str qx5.Slot), .d (.str qx5.Body), .d (.int .i64 qx5.Prio), .d (.int .i64 qx5.At), .d (.int .i64 qx5.Until)]), (3, [.mapc .str true (List.map (encM D.str api_Note.enc) vm4)])]⟩ (tl [(0, .v (.one (.box 0 0))), (3, .v (.one (.box 2 0))), (6, .v (.one (.mapp 3))), (9, .v (.one (.d (.str vx3_1)))), (12, .v (.one (.d (.int .i64 qx))))]) 4

theorem z255 (qx : Int) (qx1 : Int) (qx2 : Int) (qx3 : Int) (qm : List (List UInt8 × api_Note)) (qx4 : Int) (qx5 : api_Letter) (vm4 : List (List UInt8 × api_Note)) (vx3_1 : List UInt8) {r} (hF : z251 qx vx3_1 = some r) : Awp prog 2 103 (cL (cR (cR (cR (cR (cR (cR (cR (cB f18))))))))) (Out 2 z254 (z253 qx qx1 qx2 qx3 qm qx4 qx5 vm4 vx3_1) r) (z252 qx qx1 qx2 qx3 qm qx4 qx5 vm4 vx3_1) := by
  unfold z251 at hF
  refine awp_seq ?_
  refine awp_region ?_
  refine aR 2 ?_
  refine aE ?_
  refine cE hF (fun h19 hF => ?_) fun h19 hF => ?_
  · refine awp_true (by kernel_rfl) h19 ?_
    refine awp_region ?_
    refine aR 3 ?_
    refine aE ?_
    exact oO hF [] [] rfl
  · refine awp_false (by kernel_rfl) h19 ?_
    refine awp_skip ?_
    exact oO hF [] [] rfl

def z259 : (List (List UInt8 × api_Note)) → AEx
  | _ => .normal

def z258 (qx : Int) (qx1 : Int) (qx2 : Int) (qx3 : Int) (qm : List (List UInt8 × api_Note)) (qx4 : Int) (qx5 : api_Letter) (vm4 : List (List UInt8 × api_Note)) (vx3_1 : List UInt8) : (List (List UInt8 × api_Note)) → St
  | vm => Mem.st ⟨[], [(0, [.d (.int .i64 qx), .d (.int .i64 qx1), .d (.int .i64 qx2), .d (.int .i64 qx3), .mapp 1, .d (.int .i64 qx4)]), (1, [.mapc .str true (List.map (encM D.str api_Note.enc) qm)]), (2, [.d (.str qx5.Id), .d (.str qx5.Slot), .d (.str qx5.Body), .d (.int .i64 qx5.Prio), .d (.int .i64 qx5.At), .d (.int .i64 qx5.Until)]), (3, [.mapc .str true (List.map (encM D.str api_Note.enc) vm)])]⟩ (tl [(0, .v (.one (.box 0 0))), (3, .v (.one (.box 2 0))), (6, .v (.one (.mapp 3)))]) 4

def z257 (qx : Int) (qx1 : Int) (qx2 : Int) (qx3 : Int) (qm : List (List UInt8 × api_Note)) (qx4 : Int) (qx5 : api_Letter) (vm4 : List (List UInt8 × api_Note)) (vx3_1 : List UInt8) : St := Mem.st ⟨[], [(0, [.d (.int .i64 qx), .d (.int .i64 qx1), .d (.int .i64 qx2), .d (.int .i64 qx3), .mapp 1, .d (.int .i64 qx4)]), (1, [.mapc .str true (List.map (encM D.str api_Note.enc) qm)]), (2, [.d (.str qx5.Id), .d (.str qx5.Slot), .d (.str qx5.Body), .d (.int .i64 qx5.Prio), .d (.int .i64 qx5.At), .d (.int .i64 qx5.Until)]), (3, [.mapc .str true (List.map (encM D.str api_Note.enc) vm4)])]⟩ (tl [(0, .v (.one (.box 0 0))), (3, .v (.one (.box 2 0))), (6, .v (.one (.mapp 3))), (9, .v (.one (.d (.str vx3_1))))]) 4

theorem z260 (qx : Int) (qx1 : Int) (qx2 : Int) (qx3 : Int) (qm : List (List UInt8 × api_Note)) (qx4 : Int) (qx5 : api_Letter) (vm4 : List (List UInt8 × api_Note)) (vx3_1 : List UInt8) {r} (hF : z256 qx5 vm4 vx3_1 = some r) : Awp prog 2 103 (cL (cR (cR (cR (cR (cR (cR (cR (cR (cR (cB f18))))))))))) (Out 2 z259 (z258 qx qx1 qx2 qx3 qm qx4 qx5 vm4 vx3_1) r) (z257 qx qx1 qx2 qx3 qm qx4 qx5 vm4 vx3_1) := by
  unfold z256 at hF
  refine awp_seq ?_
  refine awp_region ?_
  refine aR 2 ?_
  refine aE ?_
  refine cE hF (fun h23 hF => ?_) fun h23 hF => ?_
  · refine awp_true (by kernel_rfl) h23 ?_
    refine awp_seq ?_
    refine bE hF fun ve3 h24 hF => ?_
    refine awp_region ?_
    refine aR 2 ?_
    refine aX (x_get 3 true D.str api_Note.enc h24) ?_
    refine aR 2 ?_
    refine aE ?_
    refine awp_seq ?_
    refine aD ?_
    refine dR 6 ?_
    refine dE ?_
    refine awp_region ?_
    refine aR 3 ?_
    refine aPut 3 .str true (l := vm4) (key := vx3_1) (v := (api_Note.mk (api_Letter.mk ve3.Letter.Id ve3.Letter.Slot ve3.Letter.Body ve3.Letter.Prio ve3.Letter.At ve3.Letter.Until) 6 ve3.Tries qx5.At)) D.str api_Note.enc rfl ?_
    refine aE ?_
    exact oO hF [] [] rfl
  · refine awp_false (by kernel_rfl) h23 ?_
    refine awp_skip ?_
    exact oO hF [] [] rfl

def z239 (qx : Int) (qx1 : Int) (qx2 : Int) (qx3 : Int) (qm : List (List UInt8 × api_Note)) (qx4 : Int) (qx5 : api_Letter) : Int ⊕ (List (List UInt8 × api_Note)) → TV × Mem
  | .inl vr4 => (.v (.one (.d (.int .i64 vr4))), ⟨[], [(0, [.d (.int .i64 qx), .d (.int .i64 qx1), .d (.int .i64 qx2), .d (.int .i64 qx3), .mapp 1, .d (.int .i64 qx4)]), (1, [.mapc .str true (List.map (encM D.str api_Note.enc) qm)])]⟩)
  | .inr vm2 => (.v (.one (.d (.int .i64 0))), ⟨[], [(0, [.d (.int .i64 qx), .d (.int .i64 qx1), .d (.int .i64 qx2), .d (.int .i64 qx3), .mapp 2, .d (.int .i64 qx5.At)]), (1, [.mapc .str true (List.map (encM D.str api_Note.enc) qm)]), (2, [.mapc .str true (List.map (encM D.str api_Note.enc) vm2)])]⟩)

theorem z240 {qx : Int} {qx1 : Int} {qx2 : Int} {qx3 : Int} {qm : List (List UInt8 × api_Note)} {qx4 : Int} {qx5 : api_Letter} {r} (hF : z238 qx qx1 qx2 qx3 qm qx4 qx5 = some r) : Holds prog 18 [.v (.one (.box 0 0)), .v (.agg [.d (.str qx5.Id), .d (.str qx5.Slot), .d (.str qx5.Body), .d (.int .i64 qx5.Prio), .d (.int .i64 qx5.At), .d (.int .i64 qx5.Until)])] ⟨[], [(0, [.d (.int .i64 qx), .d (.int .i64 qx1), .d (.int .i64 qx2), .d (.int .i64 qx3), .mapp 1, .d (.int .i64 qx4)]), (1, [.mapc .str true (List.map (encM D.str api_Note.enc) qm)])]⟩ (Is (z239 qx qx1 qx2 qx3 qm qx4 qx5 r)) := by
  unfold z238 at hF
  refine holds_of_awp hΓ (fn := f18) (c := cB f18) (A := 2) (nx := 2) (by kernel_rfl) (by kernel_rfl) (by kernel_rfl) (by kernel_rfl) (by kernel_rfl) (by kernel_rfl) (lowc_of (by kernel_rfl)) ?_
  show Awp prog 2 103 (cB f18) _ _
  refine awp_seq ?_
  refine awp_region ?_
  refine aR 2 ?_
  refine aE ?_
  refine awp_seq ?_
  refine awp_seq ?_
  refine bE hF fun vr3 h1 hF => ?_
  refine bE hF fun vr h2 hF => ?_
  refine bE hF fun vr1 h3 hF => ?_
  refine aD ?_
  refine dR 1 ?_
  refine dC (z161 h1) [] [] [] ?_
  refine dR 3 ?_
  refine dC (z306 h2) [] [] [] ?_
  refine dR 1 ?_
  refine dC (z18 h3) [] [] [8002] ?_
  refine dR 1 ?_
  refine dE ?_
  refine awp_seq ?_
  refine awp_region ?_
  refine aR 2 ?_
  refine aE ?_
  refine cE hF (fun h4 hF => ?_) fun h4 hF => ?_
  · refine awp_true (by kernel_rfl) h4 ?_
    refine awp_seq ?_
    refine awp_region ?_
    refine aR 2 ?_
    refine aE ?_
    refine awp_ret ?_
    exact oF hF [] []
  · refine awp_false (by kernel_rfl) h4 ?_
    refine awp_skip ?_
    refine awp_seq ?_
    refine bE hF fun vm4 h5 hF => ?_
    refine awp_region ?_
    refine aR 3 ?_
    refine aC (z282 h5) [] [] [] ?_
    refine aR 1 ?_
    refine aE ?_
    refine awp_seq ?_
    refine awp_seq ?_
    refine bE hF fun ve h6 hF => ?_
    refine bE hF fun vis h7 hF => ?_
    refine awp_region ?_
    refine aR 3 ?_
    refine aX (x_getO 16004 true D.str api_Note.enc h6 h7) ?_
    refine aR 6 ?_
    refine aE ?_
    refine awp_seq ?_
    refine awp_region ?_
    refine aR 1 ?_
    refine aE ?_
    refine cE hF (fun h8 hF => ?_) fun h8 hF => ?_
    · refine awp_true (by kernel_rfl) h8 ?_
      refine awp_seq ?_
      refine awp_region ?_
      refine aR 1 ?_
      refine aE ?_
      refine awp_ret ?_
      exact oF hF [] []
    · refine awp_false (by kernel_rfl) h8 ?_
      refine awp_skip ?_
      refine awp_seq ?_
      refine awp_region ?_
      refine aR 1 ?_
      refine aE ?_
      refine awp_seq ?_
      refine awp_seq ?_
      refine awp_region ?_
      refine aR 1 ?_
      refine aRange (ka := .str) (va := true) 16004 (encM D.str api_Note.enc) vm4 rfl (fun vme vcl vhp => ?_)
      refine aE ?_
      refine awp_block ?_
      refine awp_to (st' := z242 qx qx1 qx2 qx3 qm qx4 qx5 vm4 vme vcl vhp vm4 ([] : List UInt8)) (oT [(3, 31002), (4, 16004)] []) ?_
      refine rG (H := z242 qx qx1 qx2 qx3 qm qx4 qx5 vm4 vme vcl vhp) (k := z244) (S := z243 qx qx1 qx2 qx3 qm qx4 qx5 vm4 vme vcl vhp) hF (by intro x; exact fun h => nomatch h) (fun l s => z245 qx qx1 qx2 qx3 qm qx4 qx5 vm4 vme vcl vhp l s) (fun vx3_1 hF => ?_)
      refine awp_seq ?_
      refine awp_region ?_
      refine aR 6 ?_
      refine aE ?_
      refine awp_seq ?_
      refine awp_to (st' := z252 qx qx1 qx2 qx3 qm qx4 qx5 vm4 vx3_1) (oT [] []) ?_
      refine bE hF fun vx4_1 h20 hF => ?_
      refine awp_sub (z255 qx qx1 qx2 qx3 qm qx4 qx5 vm4 vx3_1 h20) ?_
      refine awp_seq ?_
      refine awp_seq ?_
      refine bE hF fun vr2 h21 hF => ?_
      refine awp_region ?_
      refine aR 1 ?_
      refine aC (z329 h21) [(0, 3)] [] [] ?_
      refine aR 2 ?_
      refine aE ?_
      refine cE hF (fun h22 hF => ?_) fun h22 hF => ?_
      · refine awp_true (by kernel_rfl) h22 ?_
        refine awp_seq ?_
        refine awp_region ?_
        refine aR 1 ?_
        refine aE ?_
        refine awp_ret ?_
        exact oF hF [] []
      · refine awp_false (by kernel_rfl) h22 ?_
        refine awp_skip ?_
        refine awp_seq ?_
        refine awp_to (st' := z257 qx qx1 qx2 qx3 qm qx4 qx5 vm4 vx3_1) (oT [] []) ?_
        refine bE hF fun vm1 h25 hF => ?_
        refine awp_sub (z260 qx qx1 qx2 qx3 qm qx4 qx5 vm4 vx3_1 h25) ?_
        refine awp_seq ?_
        refine awp_region ?_
        refine aR 7 ?_
        refine aPut 3 .str true (l := vm1) (key := qx5.Id) (v := (api_Note.mk qx5 1 0 qx5.At)) D.str api_Note.enc rfl ?_
        refine aE ?_
        refine awp_seq ?_
        refine bE hF fun _ h26 hF => ?_
        refine awp_region ?_
        refine aR 4 ?_
        refine aC (z303 h26) [(2, 3)] [] [] ?_
        refine aE ?_
        refine awp_seq ?_
        refine awp_region ?_
        refine aR 1 ?_
        refine aE ?_
        refine awp_ret ?_
        exact oF hF [(2, 3)] []

/-! ### beaconfleet/command.byOrder -/
def z322 (qa : api_Letter) (qb : api_Letter) (r : Int) : TV × Mem := (.v (.one (.d (.int .i64 r))), ⟨[], []⟩)

theorem z323 {qa : api_Letter} {qb : api_Letter} {r} (hF : z321 qa qb = some r) : Holds prog 79 [.v (.agg [.d (.str qa.Id), .d (.str qa.Slot), .d (.str qa.Body), .d (.int .i64 qa.Prio), .d (.int .i64 qa.At), .d (.int .i64 qa.Until)]), .v (.agg [.d (.str qb.Id), .d (.str qb.Slot), .d (.str qb.Body), .d (.int .i64 qb.Prio), .d (.int .i64 qb.At), .d (.int .i64 qb.Until)])] ⟨[], []⟩ (Is (z322 qa qb r)) := by
  unfold z321 at hF
  refine holds_of_awp hΓ (fn := f79) (c := cB f79) (A := 0) (nx := 0) (by kernel_rfl) (by kernel_rfl) (by kernel_rfl) (by kernel_rfl) (by kernel_rfl) (by kernel_rfl) (lowc_of (by kernel_rfl)) ?_
  show Awp prog 0 22 (cB f79) _ _
  refine awp_seq ?_
  refine awp_region ?_
  refine aR 3 ?_
  refine aE ?_
  refine awp_seq ?_
  refine bE hF fun vr h1 hF => ?_
  refine bE hF fun vr1 h2 hF => ?_
  refine bE hF fun _ h3 hF => ?_
  refine bE hF fun vr2 h4 hF => ?_
  refine aD ?_
  refine dR 4 ?_
  refine dC (z134 h1) [] [] [] ?_
  refine dR 4 ?_
  refine dC (z134 h2) [] [] [] ?_
  refine dR 4 ?_
  refine dC (z960 h3) [] [] [] ?_
  refine dR 1 ?_
  refine dC (z147 h4) [] [] [18000] ?_
  refine dR 1 ?_
  refine dE ?_
  refine awp_ret ?_
  exact oF hF [] []

/-! ### slices.insertionSortCmpFunc[beaconfleet/api.Letter] -/
def z687 : Bool → AEx
  | _ => .normal

def z686 (qa : Int) (qb : Int) (vi : Int) (vl3 : List api_Letter) (vj1 : Int) : Bool → St
  | vx4 => Mem.st ⟨[(0, ⟨32, 6, List.map api_Letter.enc vl3⟩)], []⟩ (tl [(0, .v (.one (.own 0 none))), (1, .v (.one (.d (.int .i64 qa)))), (2, .v (.one (.d (.int .i64 qb)))), (3, .v (.one (.fn 79 []))), (8, .v (.one (.d (.int .i64 vi)))), (9, .v (.one (.d (.int .i64 vj1)))), (34, .v (.one (.d (.bool vx4))))]) 1

def z685 (qa : Int) (qb : Int) (vi : Int) (vl3 : List api_Letter) (vj1 : Int) : St := Mem.st ⟨[(0, ⟨32, 6, List.map api_Letter.enc vl3⟩)], []⟩ (tl [(0, .v (.one (.own 0 none))), (1, .v (.one (.d (.int .i64 qa)))), (2, .v (.one (.d (.int .i64 qb)))), (3, .v (.one (.fn 79 []))), (8, .v (.one (.d (.int .i64 vi)))), (9, .v (.one (.d (.int .i64 vj1))))]) 1

theorem z688 (qa : Int) (qb : Int) (vi : Int) (vl3 : List api_Letter) (vj1 : Int) {r} (hF : z684 qa vl3 vj1 = some r) : Awp prog 1 53 (cL (cL (cL (cL (cR (cL (cL (cR (cL (cL (cR (cB f189)))))))))))) (Out 1 z687 (z686 qa qb vi vl3 vj1) r) (z685 qa qb vi vl3 vj1) := by
  unfold z684 at hF
  refine cE hF (fun h2 hF => ?_) fun h2 hF => ?_
  · refine bE hF fun vy15 h3 hF => ?_
    refine bE hF fun vy16 h4 hF => ?_
    refine bE hF fun vr3_3 h5 hF => ?_
    refine aD ?_
    refine dR 2 ?_
    refine dB h2 ?_
    refine dR 4 ?_
    refine dX (x_idxO api_Letter.enc 0 h3) ?_
    refine dX (x_ldE api_Letter.enc h3) ?_
    refine dR 3 ?_
    refine dX (x_idxO api_Letter.enc 0 h4) ?_
    refine dX (x_ldE api_Letter.enc h4) ?_
    refine dC (z323 h5) [] [] [] ?_
    refine dR 2 ?_
    refine dE ?_
    exact oO hF [] [] rfl
  · refine aD ?_
    refine dR 2 ?_
    refine dB h2 ?_
    refine dR 14 ?_
    refine dE ?_
    exact oO hF [] [] rfl

def z682 : (List api_Letter) → AEx
  | _ => .exit 2

def z681 (qa : Int) (qb : Int) (vi : Int) : (List api_Letter) → St
  | vl4 => Mem.st ⟨[(0, ⟨32, 6, List.map api_Letter.enc vl4⟩)], []⟩ (tl [(0, .v (.one (.own 0 none))), (1, .v (.one (.d (.int .i64 qa)))), (2, .v (.one (.d (.int .i64 qb)))), (3, .v (.one (.fn 79 []))), (8, .v (.one (.d (.int .i64 vi))))]) 1

def z680 (qa : Int) (qb : Int) (vi : Int) : (List api_Letter) × Int → St
  | (vl3, vj1) => Mem.st ⟨[(0, ⟨32, 6, List.map api_Letter.enc vl3⟩)], []⟩ (tl [(0, .v (.one (.own 0 none))), (1, .v (.one (.d (.int .i64 qa)))), (2, .v (.one (.d (.int .i64 qb)))), (3, .v (.one (.fn 79 []))), (8, .v (.one (.d (.int .i64 vi)))), (9, .v (.one (.d (.int .i64 vj1))))]) 1

theorem z683 (qa : Int) (qb : Int) (vi : Int) (s : (List api_Letter) × Int) (r : ((List api_Letter) × Int) ⊕ ((List api_Letter))) (hF : z679 qa s = some r) : Awp prog 1 53 (cL (cL (cR (cL (cL (cR (cL (cL (cR (cB f189)))))))))) (Out 1 (kk z682) (SS (z680 qa qb vi) (z681 qa qb vi)) r) (z680 qa qb vi s) := by
  obtain ⟨vl3, vj1⟩ := s
  unfold z679 at hF
  refine awp_seq ?_
  refine awp_seq ?_
  refine awp_to (st' := z685 qa qb vi vl3 vj1) (oT [] []) ?_
  refine bE hF fun vx4_1 h6 hF => ?_
  refine awp_sub (z688 qa qb vi vl3 vj1 h6) ?_
  refine cE hF (fun h7 hF => ?_) fun h7 hF => ?_
  · refine awp_true (by kernel_rfl) h7 ?_
    refine awp_skip ?_
    refine awp_seq ?_
    refine awp_block ?_
    refine bE hF fun vy17 h8 hF => ?_
    refine bE hF fun vy18 h9 hF => ?_
    refine bE hF fun vy19 h10 hF => ?_
    refine aDw [0] ?_
    refine dR 8 ?_
    refine dI api_Letter.enc 0 h8 rfl ?_
    refine dX (x_ldE api_Letter.enc h8) ?_
    refine dR 2 ?_
    refine dI api_Letter.enc 0 h9 rfl ?_
    refine dX (x_ldE api_Letter.enc h9) ?_
    refine dI api_Letter.enc 0 h9 rfl ?_
    refine dW api_Letter.enc vy17 h9 rfl ?_
    refine dI api_Letter.enc 0 h10 rfl ?_
    refine dW api_Letter.enc vy18 h10 rfl ?_
    refine dE ?_
    refine awp_region ?_
    refine aR 3 ?_
    refine aE ?_
    exact oO hF [] [] rfl
  · refine awp_false (by kernel_rfl) h7 ?_
    refine awp_exit ?_
    exact oO hF [] [] rfl

def z677 : (List api_Letter) → AEx
  | _ => .exit 0

def z676 (qa : Int) (qb : Int) : (List api_Letter) → St
  | vl5 => Mem.st ⟨[(0, ⟨32, 6, List.map api_Letter.enc vl5⟩)], []⟩ (tl []) 1

def z675 (qa : Int) (qb : Int) : (List api_Letter) × Int → St
  | (vl, vi) => Mem.st ⟨[(0, ⟨32, 6, List.map api_Letter.enc vl⟩)], []⟩ (tl [(0, .v (.one (.own 0 none))), (1, .v (.one (.d (.int .i64 qa)))), (2, .v (.one (.d (.int .i64 qb)))), (3, .v (.one (.fn 79 []))), (8, .v (.one (.d (.int .i64 vi))))]) 1

theorem z678 (qa : Int) (qb : Int) (s : (List api_Letter) × Int) (r : ((List api_Letter) × Int) ⊕ ((List api_Letter))) (hF : z674 qa qb s = some r) : Awp prog 1 53 (cL (cL (cR (cB f189)))) (Out 1 (kk z677) (SS (z675 qa qb) (z676 qa qb)) r) (z675 qa qb s) := by
  obtain ⟨vl, vi⟩ := s
  unfold z674 at hF
  refine awp_seq ?_
  refine awp_seq ?_
  refine awp_region ?_
  refine aR 3 ?_
  refine aE ?_
  refine cE hF (fun h1 hF => ?_) fun h1 hF => ?_
  · refine awp_true (by kernel_rfl) h1 ?_
    refine awp_skip ?_
    refine awp_seq ?_
    refine awp_block ?_
    refine awp_seq ?_
    refine awp_region ?_
    refine aR 2 ?_
    refine aE ?_
    refine awp_block ?_
    refine awp_to (st' := z680 qa qb vi (vl, vi)) (oT [] []) ?_
    refine bE hF fun vl4_1 h11 hF => ?_
    refine awp_sub (awp_loop' (z680 qa qb vi) z682 (z681 qa qb vi) (by intro x; exact fun h => nomatch h) h11 (z683 qa qb vi)) ?_
    refine awp_region ?_
    refine aR 3 ?_
    refine aE ?_
    exact oO hF [] [] rfl
  · refine awp_false (by kernel_rfl) h1 ?_
    refine awp_exit ?_
    exact oO hF [] [] rfl

def z672 (qdata : List api_Letter) (qa : Int) (qb : Int) (r : (List api_Letter)) : TV × Mem := (.tup [], ⟨[(0, ⟨32, 6, List.map api_Letter.enc r⟩)], []⟩)

theorem z673 {qdata : List api_Letter} {qa : Int} {qb : Int} {r} (hF : z671 qdata qa qb = some r) : Holds prog 189 [.v (.one (.own 0 none)), .v (.one (.d (.int .i64 qa))), .v (.one (.d (.int .i64 qb))), .v (.one (.fn 79 []))] ⟨[(0, ⟨32, 6, List.map api_Letter.enc qdata⟩)], []⟩ (Is (z672 qdata qa qb r)) := by
  unfold z671 at hF
  refine holds_of_awp hΓ (fn := f189) (c := cB f189) (A := 1) (nx := 1) (by kernel_rfl) (by kernel_rfl) (by kernel_rfl) (by kernel_rfl) (by kernel_rfl) (by kernel_rfl) (lowc_of (by kernel_rfl)) ?_
  show Awp prog 1 53 (cB f189) _ _
  refine awp_seq ?_
  refine awp_region ?_
  refine aR 3 ?_
  refine aE ?_
  refine awp_block ?_
  refine awp_to (st' := z675 qa qb (qdata, IntKind.wrap .i64 (qa + 1))) (oT [] []) ?_
  refine bE hF fun vl5_1 h12 hF => ?_
  refine awp_sub (awp_loop' (z675 qa qb) z677 (z676 qa qb) (by intro x; exact fun h => nomatch h) h12 (z678 qa qb)) ?_
  exact oF hF [] []

/-! ### slices.pdqsortCmpFunc[beaconfleet/api.Letter] -/
def z749 : (List api_Letter) → AEx
  | _ => .ret

def z748 (qx : List api_Letter) (qx1 : Int) (qx2 : Int) (qx3 : Int) : (List api_Letter) → St
  | vl => Mem.st ⟨[(0, ⟨32, 6, List.map api_Letter.enc vl⟩)], []⟩ (tl []) 1

def z747 (qx : List api_Letter) (qx1 : Int) (qx2 : Int) (qx3 : Int) : Unit → St
  | _ => Mem.st ⟨[(0, ⟨32, 6, List.map api_Letter.enc qx⟩)], []⟩ (tl [(0, .v (.one (.own 0 none))), (1, .v (.one (.d (.int .i64 qx1)))), (2, .v (.one (.d (.int .i64 qx2)))), (3, .v (.one (.d (.int .i64 qx3)))), (4, .v (.one (.fn 79 []))), (10, .v (.one (.d (.bool true)))), (11, .v (.one (.d (.bool true))))]) 1

theorem z750 (qx : List api_Letter) (qx1 : Int) (qx2 : Int) (qx3 : Int) (s : Unit) (r : (Unit) ⊕ ((List api_Letter))) (hF : z746 qx qx1 qx2 qx3 s = some r) : Awp prog 1 148 (cL (cL (cR (cR (cB f151))))) (Out 1 (kk z749) (SS (z747 qx qx1 qx2 qx3) (z748 qx qx1 qx2 qx3)) r) (z747 qx qx1 qx2 qx3 s) := by
  unfold z746 at hF
  refine awp_block ?_
  refine awp_seq ?_
  refine awp_region ?_
  refine aR 4 ?_
  refine aE ?_
  refine awp_seq ?_
  refine awp_seq ?_
  refine awp_region ?_
  refine aR 2 ?_
  refine aE ?_
  refine cE hF (fun h1 hF => ?_) fun h1 hF => ?_
  · refine awp_true (by kernel_rfl) h1 ?_
    refine awp_seq ?_
    refine bE hF fun vl6_1 h2 hF => ?_
    refine gE hF fun h3 hF => ?_
    refine awp_region ?_
    refine aR 4 ?_
    refine aCp (z673 h2) ⟨⟨rfl, rfl, pin1 h3⟩, trivial⟩ [] [] [] ?_
    refine aE ?_
    refine awp_ret ?_
    exact oO hF [] [] rfl
  · refine awp_false (by kernel_rfl) h1 ?_
    refine awp_skip ?_
    refine awp_seq ?_
    refine awp_seq ?_
    refine awp_region ?_
    refine aR 2 ?_
    refine aE ?_
    refine cE hF (fun h4 hF => ?_) fun h4 hF => ?_
    · refine awp_true (by kernel_rfl) h4 ?_
      refine awp_seq ?_
      exact nE hF
    · refine awp_false (by kernel_rfl) h4 ?_
      refine awp_skip ?_
      refine awp_seq ?_
      refine awp_seq ?_
      refine awp_region ?_
      refine aR 2 ?_
      refine aE ?_
      refine awp_false (by kernel_rfl) rfl ?_
      refine awp_skip ?_
      refine awp_seq ?_
      exact nE hF

def z744 (qx : List api_Letter) (qx1 : Int) (qx2 : Int) (qx3 : Int) (r : (List api_Letter)) : TV × Mem := (.tup [], ⟨[(0, ⟨32, 6, List.map api_Letter.enc r⟩)], []⟩)

theorem z745 {qx : List api_Letter} {qx1 : Int} {qx2 : Int} {qx3 : Int} {r} (hF : z743 qx qx1 qx2 qx3 = some r) : Holds prog 151 [.v (.one (.own 0 none)), .v (.one (.d (.int .i64 qx1))), .v (.one (.d (.int .i64 qx2))), .v (.one (.d (.int .i64 qx3))), .v (.one (.fn 79 []))] ⟨[(0, ⟨32, 6, List.map api_Letter.enc qx⟩)], []⟩ (Is (z744 qx qx1 qx2 qx3 r)) := by
  unfold z743 at hF
  refine holds_of_awp hΓ (fn := f151) (c := cB f151) (A := 1) (nx := 1) (by kernel_rfl) (by kernel_rfl) (by kernel_rfl) (by kernel_rfl) (by kernel_rfl) (by kernel_rfl) (lowc_of (by kernel_rfl)) ?_
  show Awp prog 1 148 (cB f151) _ _
  refine awp_seq ?_
  refine awp_region ?_
  refine aR 1 ?_
  refine aE ?_
  refine awp_seq ?_
  refine awp_region ?_
  refine aR 1 ?_
  refine aE ?_
  refine awp_block ?_
  refine awp_to (st' := z747 qx qx1 qx2 qx3 ()) (oT [] []) ?_
  refine bE hF fun vl1 h7 hF => ?_
  refine awp_sub (awp_loop' (z747 qx qx1 qx2 qx3) z749 (z748 qx qx1 qx2 qx3) (by intro x; exact fun h => nomatch h) h7 (z750 qx qx1 qx2 qx3)) ?_
  exact oF hF [] []

/-! ### slices.SortFunc[[]beaconfleet/api.Letter,beaconfleet/api.Letter] -/
def z660 (qx : List api_Letter) (r : (List api_Letter)) : TV × Mem := (.tup [], ⟨[(0, ⟨32, 6, List.map api_Letter.enc r⟩)], []⟩)

theorem z661 {qx : List api_Letter} {r} (hF : z659 qx = some r) : Holds prog 78 [.v (.one (.own 0 none)), .v (.one (.fn 79 []))] ⟨[(0, ⟨32, 6, List.map api_Letter.enc qx⟩)], []⟩ (Is (z660 qx r)) := by
  unfold z659 at hF
  refine holds_of_awp hΓ (fn := f78) (c := cB f78) (A := 1) (nx := 1) (by kernel_rfl) (by kernel_rfl) (by kernel_rfl) (by kernel_rfl) (by kernel_rfl) (by kernel_rfl) (lowc_of (by kernel_rfl)) ?_
  show Awp prog 1 14 (cB f78) _ _
  refine awp_seq ?_
  refine awp_region ?_
  refine aR 1 ?_
  refine aL api_Letter.enc qx ?_
  refine aR 1 ?_
  refine aE ?_
  refine bE hF fun vr1 h1 hF => ?_
  refine bE hF fun vl2 h2 hF => ?_
  refine gE hF fun h3 hF => ?_
  refine awp_region ?_
  refine aR 4 ?_
  refine aC (z120 h1) [] [] [] ?_
  refine aR 1 ?_
  refine aCp (z745 h2) ⟨⟨rfl, rfl, pin1 h3⟩, trivial⟩ [] [] [] ?_
  refine aE ?_
  exact oF hF [] []

/-! ### slices.Clone[[]beaconfleet/api.Letter,beaconfleet/api.Letter] -/
def z587 (qs : List api_Letter) (r : List api_Letter) : TV × Mem := (.v (.one (.own 0 none)), ⟨[(0, ⟨32, 6, List.map api_Letter.enc r⟩)], []⟩)

theorem z588 {qs : List api_Letter} {r} (hF : z586 qs = some r) : Holds prog 80 [.v (.one (.d (.lst (List.map api_Letter.enc qs))))] ⟨[], []⟩ (Is (z587 qs r)) := by
  unfold z586 at hF
  refine gE hF fun h1 hF => ?_
  refine holds_of_awp hΓ (fn := f80) (c := cB f80) (A := 0) (nx := 0) (by kernel_rfl) (by kernel_rfl) (by kernel_rfl) (by kernel_rfl) (by kernel_rfl) (by kernel_rfl) (lowc_of (by kernel_rfl)) ?_
  show Awp prog 0 8 (cB f80) _ _
  refine awp_seq ?_
  refine awp_region ?_
  refine aR 1 ?_
  refine aE ?_
  refine awp_seq ?_
  refine awp_seq ?_
  refine awp_region ?_
  refine aR 1 ?_
  refine aN api_Letter.enc qs (fun b hb => ?_) rfl
  refine aE ?_
  cases b with
  | true =>
    obtain rfl := hb rfl
    refine awp_true (by kernel_rfl) rfl ?_
    refine awp_seq ?_
    refine awp_region ?_
    refine aR 1 ?_
    refine aE ?_
    refine awp_ret ?_
    exact oF hF [] [0]
  | false =>
    refine awp_false (by kernel_rfl) rfl ?_
    refine awp_skip ?_
    refine awp_seq ?_
    refine awp_region ?_
    refine aR 2 ?_
    refine aX (x_app api_Letter.enc 3000 h1) ?_
    refine aR 1 ?_
    refine aE ?_
    refine awp_ret ?_
    exact oF hF [(0, 5000)] []

/-! ### (*beaconfleet/command.Office).Fetch -/
def z220 : (List api_Letter) → AEx
  | _ => .exit 0

def z219 (qx : Int) (qx1 : Int) (qx2 : Int) (qx3 : Int) (qm : List (List UInt8 × api_Note)) (qx4 : Int) (qx5 : Int) (qx6 : Int) (vm4 : List (List UInt8 × api_Note)) (vme : List (Nat × List D × List D)) (vcl : Nat) (vhp : (List.map (encM D.str api_Note.enc) vm4).Perm (List.map (·.2) vme)) : (List api_Letter) → St
  | vx1 => Mem.st ⟨[(3, ⟨32, 6, List.map api_Letter.enc vx1⟩)], [(0, [.d (.int .i64 qx), .d (.int .i64 qx1), .d (.int .i64 qx2), .d (.int .i64 qx3), .mapp 1, .d (.int .i64 qx4)]), (1, [.mapc .str true (List.map (encM D.str api_Note.enc) qm)]), (2, [.mapc .str true (List.map (encM D.str api_Note.enc) vm4)])]⟩ (tl [(0, .v (.one (.box 0 0))), (1, .v (.one (.d (.int .i64 qx5)))), (2, .v (.one (.d (.int .i64 qx6)))), (9, .v (.one (.mapp 2))), (10, .v (.one (.own 3 none)))]) 4

def z218 (qx : Int) (qx1 : Int) (qx2 : Int) (qx3 : Int) (qm : List (List UInt8 × api_Note)) (qx4 : Int) (qx5 : Int) (qx6 : Int) (vm4 : List (List UInt8 × api_Note)) (vme : List (Nat × List D × List D)) (vcl : Nat) (vhp : (List.map (encM D.str api_Note.enc) vm4).Perm (List.map (·.2) vme)) (vl : List (List UInt8 × api_Note)) : (List api_Letter) → St
  | vx => Mem.st ⟨[(4, ⟨32, 6, List.map api_Letter.enc vx⟩)], [(0, [.d (.int .i64 qx), .d (.int .i64 qx1), .d (.int .i64 qx2), .d (.int .i64 qx3), .mapp 1, .d (.int .i64 qx4)]), (1, [.mapc .str true (List.map (encM D.str api_Note.enc) qm)]), (2, [.iterc 3 vme vcl (List.map (encM D.str api_Note.enc) vl) none]), (3, [.mapg .str true vme vcl])]⟩ (tl [(0, .v (.one (.box 0 0))), (1, .v (.one (.d (.int .i64 qx5)))), (2, .v (.one (.d (.int .i64 qx6)))), (9, .v (.one (.mapp 3))), (10, .v (.one (.own 4 none))), (28, .v (.one (.box 2 0)))]) 5

theorem z221 (qx : Int) (qx1 : Int) (qx2 : Int) (qx3 : Int) (qm : List (List UInt8 × api_Note)) (qx4 : Int) (qx5 : Int) (qx6 : Int) (vm4 : List (List UInt8 × api_Note)) (vme : List (Nat × List D × List D)) (vcl : Nat) (vhp : (List.map (encM D.str api_Note.enc) vm4).Perm (List.map (·.2) vme)) (vl : List (List UInt8 × api_Note)) (vx : (List api_Letter)) (hE : vl = [] → ∃ x, z217 none vx = some x) (hP : ∀ e l', List.Perm vl (e :: l') → ∃ x, z217 (some e) vx = some x) : Awp prog 2 77 (cL (cL (cR (cL (cR (cR (cR (cR (cR (cB f19)))))))))) (OutR 2 z220 (z217) (z218 qx qx1 qx2 qx3 qm qx4 qx5 qx6 vm4 vme vcl vhp) (z219 qx qx1 qx2 qx3 qm qx4 qx5 qx6 vm4 vme vcl vhp) vl vx) (z218 qx qx1 qx2 qx3 qm qx4 qx5 qx6 vm4 vme vcl vhp vl vx) := by
  refine awp_seq ?_
  refine awp_region ?_
  refine aNext (ka := .str) (va := true) (me := vme) (cl := vcl) (cur := none) 2 3 (encM D.str api_Note.enc) vl rfl (fun h8 => ?_) (fun ve1 vl2 vb1 h9 => ?_)
  · obtain ⟨x, hF0⟩ := hE h8
    have hF := hF0
    unfold z217 at hF
    refine aR 1 ?_
    refine aE ?_
    refine awp_seq ?_
    refine awp_false (by kernel_rfl) rfl ?_
    refine awp_close (ka := .str) (va := true) (me := vme) (cl := vcl) 3 vhp ?_
    refine awp_exit ?_
    exact outE h8 hF0 (oO hF [(2, 3), (3, 4)] [] rfl)
  · obtain ⟨x, hF0⟩ := hP _ _ h9
    have hF := hF0
    unfold z217 at hF
    refine aR 1 ?_
    refine aE ?_
    refine awp_seq ?_
    refine awp_true (by kernel_rfl) rfl ?_
    refine awp_skip ?_
    refine awp_block ?_
    refine awp_seq ?_
    refine awp_region ?_
    refine aEntry (ka := .str) (va := true) (me := vme) (cl := vcl) (b := vb1) (rest := List.map (encM D.str api_Note.enc) vl2) 2 3 (encM D.str api_Note.enc) ve1 rfl ?_
    refine aR 3 ?_
    refine aE ?_
    refine awp_seq ?_
    refine awp_region ?_
    refine aR 3 ?_
    refine aE ?_
    refine cE hF (fun h10 hF => ?_) fun h10 hF => ?_
    · refine awp_true (by kernel_rfl) h10 ?_
      refine gE hF fun h11 hF => ?_
      refine awp_region ?_
      refine aR 4 ?_
      refine aX (x_app api_Letter.enc 4 h11) ?_
      refine aR 1 ?_
      refine aE ?_
      exact outP h9 hF0 (outCur (idM := 3) (me := vme) (cl := vcl) (rest := List.map (encM D.str api_Note.enc) vl2) (cur := some (vb1, (encM D.str api_Note.enc) ve1)) 2 <| oO hF [(4, 13005)] [] rfl)
    · refine awp_false (by kernel_rfl) h10 ?_
      refine awp_skip ?_
      exact outP h9 hF0 (outCur (idM := 3) (me := vme) (cl := vcl) (rest := List.map (encM D.str api_Note.enc) vl2) (cur := some (vb1, (encM D.str api_Note.enc) ve1)) 2 <| oO hF [] [] rfl)

def z225 : (List (List UInt8 × api_Note)) → AEx
  | _ => .exit 2

def z224 (qx : Int) (qx1 : Int) (qx2 : Int) (qx3 : Int) (qm : List (List UInt8 × api_Note)) (qx4 : Int) (qx5 : Int) (vr2 : List api_Letter) : (List (List UInt8 × api_Note)) → St
  | vm1 => Mem.st ⟨[(3, ⟨32, 6, List.map api_Letter.enc vr2⟩)], [(0, [.d (.int .i64 qx), .d (.int .i64 qx1), .d (.int .i64 qx2), .d (.int .i64 qx3), .mapp 1, .d (.int .i64 qx4)]), (1, [.mapc .str true (List.map (encM D.str api_Note.enc) qm)]), (2, [.mapc .str true (List.map (encM D.str api_Note.enc) vm1)])]⟩ (tl [(0, .v (.one (.box 0 0))), (1, .v (.one (.d (.int .i64 qx5)))), (9, .v (.one (.mapp 2))), (10, .v (.one (.own 3 none)))]) 4

def z223 (qx : Int) (qx1 : Int) (qx2 : Int) (qx3 : Int) (qm : List (List UInt8 × api_Note)) (qx4 : Int) (qx5 : Int) (vr2 : List api_Letter) : (List (List UInt8 × api_Note)) × Int → St
  | (vm, vx2) => Mem.st ⟨[(3, ⟨32, 6, List.map api_Letter.enc vr2⟩)], [(0, [.d (.int .i64 qx), .d (.int .i64 qx1), .d (.int .i64 qx2), .d (.int .i64 qx3), .mapp 1, .d (.int .i64 qx4)]), (1, [.mapc .str true (List.map (encM D.str api_Note.enc) qm)]), (2, [.mapc .str true (List.map (encM D.str api_Note.enc) vm)])]⟩ (tl [(0, .v (.one (.box 0 0))), (1, .v (.one (.d (.int .i64 qx5)))), (9, .v (.one (.mapp 2))), (10, .v (.one (.own 3 none))), (50, .v (.one (.own 3 none))), (51, .v (.one (.d (.int .i64 (vr2.length : Int))))), (52, .v (.one (.d (.int .i64 vx2))))]) 4

theorem z226 (qx : Int) (qx1 : Int) (qx2 : Int) (qx3 : Int) (qm : List (List UInt8 × api_Note)) (qx4 : Int) (qx5 : Int) (vr2 : List api_Letter) (s : (List (List UInt8 × api_Note)) × Int) (r : ((List (List UInt8 × api_Note)) × Int) ⊕ ((List (List UInt8 × api_Note)))) (hF : z222 qx5 vr2 s = some r) : Awp prog 2 77 (cL (cL (cR (cL (cR (cR (cR (cR (cR (cR (cR (cR (cB f19))))))))))))) (Out 2 (kk z225) (SS (z223 qx qx1 qx2 qx3 qm qx4 qx5 vr2) (z224 qx qx1 qx2 qx3 qm qx4 qx5 vr2)) r) (z223 qx qx1 qx2 qx3 qm qx4 qx5 vr2 s) := by
  obtain ⟨vm, vx2⟩ := s
  unfold z222 at hF
  refine awp_seq ?_
  refine awp_region ?_
  refine aR 1 ?_
  refine aE ?_
  refine awp_seq ?_
  refine cE hF (fun h17 hF => ?_) fun h17 hF => ?_
  · refine awp_true (by kernel_rfl) h17 ?_
    refine awp_skip ?_
    refine awp_seq ?_
    refine awp_block ?_
    refine awp_seq ?_
    refine bE hF fun vy1 h18 hF => ?_
    refine awp_region ?_
    refine aX (x_idxO api_Letter.enc 3 h18) ?_
    refine aX (x_ldE api_Letter.enc h18) ?_
    refine aR 2 ?_
    refine aE ?_
    refine awp_seq ?_
    refine bE hF fun ve3 h19 hF => ?_
    refine awp_region ?_
    refine aR 3 ?_
    refine aX (x_get 2 true D.str api_Note.enc h19) ?_
    refine aR 2 ?_
    refine aE ?_
    refine awp_seq ?_
    refine awp_region ?_
    refine aR 5 ?_
    refine aE ?_
    refine awp_seq ?_
    refine awp_region ?_
    refine aR 5 ?_
    refine aE ?_
    refine awp_region ?_
    refine aR 4 ?_
    refine aPut 2 .str true (l := vm) (key := vy1.Id) (v := (api_Note.mk (api_Letter.mk ve3.Letter.Id ve3.Letter.Slot ve3.Letter.Body ve3.Letter.Prio ve3.Letter.At ve3.Letter.Until) 2 (IntKind.wrap .i64 (ve3.Tries + 1)) qx5)) D.str api_Note.enc rfl ?_
    refine aE ?_
    refine awp_region ?_
    refine aR 2 ?_
    refine aE ?_
    exact oO hF [] [] rfl
  · refine awp_false (by kernel_rfl) h17 ?_
    refine awp_exit ?_
    exact oO hF [] [] rfl

def z215 (qx : Int) (qx1 : Int) (qx2 : Int) (qx3 : Int) (qm : List (List UInt8 × api_Note)) (qx4 : Int) (qx5 : Int) (qx6 : Int) : Int ⊕ ((List (List UInt8 × api_Note)) × (List api_Letter)) → TV × Mem
  | .inl vr3 => (.tup [.one (.nil), .one (.d (.int .i64 vr3))], ⟨[], [(0, [.d (.int .i64 qx), .d (.int .i64 qx1), .d (.int .i64 qx2), .d (.int .i64 qx3), .mapp 1, .d (.int .i64 qx4)]), (1, [.mapc .str true (List.map (encM D.str api_Note.enc) qm)])]⟩)
  | .inr (vm2, vr4) => (.tup [.one (.own 3 none), .one (.d (.int .i64 0))], ⟨[(3, ⟨32, 6, List.map api_Letter.enc vr4⟩)], [(0, [.d (.int .i64 qx), .d (.int .i64 qx1), .d (.int .i64 qx2), .d (.int .i64 qx3), .mapp 2, .d (.int .i64 qx5)]), (1, [.mapc .str true (List.map (encM D.str api_Note.enc) qm)]), (2, [.mapc .str true (List.map (encM D.str api_Note.enc) vm2)])]⟩)

theorem z216 {qx : Int} {qx1 : Int} {qx2 : Int} {qx3 : Int} {qm : List (List UInt8 × api_Note)} {qx4 : Int} {qx5 : Int} {qx6 : Int} {r} (hF : z214 qx qx1 qx2 qx3 qm qx4 qx5 qx6 = some r) : Holds prog 19 [.v (.one (.box 0 0)), .v (.one (.d (.int .i64 qx5))), .v (.one (.d (.int .i64 qx6)))] ⟨[], [(0, [.d (.int .i64 qx), .d (.int .i64 qx1), .d (.int .i64 qx2), .d (.int .i64 qx3), .mapp 1, .d (.int .i64 qx4)]), (1, [.mapc .str true (List.map (encM D.str api_Note.enc) qm)])]⟩ (Is (z215 qx qx1 qx2 qx3 qm qx4 qx5 qx6 r)) := by
  unfold z214 at hF
  refine holds_of_awp hΓ (fn := f19) (c := cB f19) (A := 2) (nx := 2) (by kernel_rfl) (by kernel_rfl) (by kernel_rfl) (by kernel_rfl) (by kernel_rfl) (by kernel_rfl) (lowc_of (by kernel_rfl)) ?_
  show Awp prog 2 77 (cB f19) _ _
  refine awp_seq ?_
  refine awp_region ?_
  refine aR 2 ?_
  refine aE ?_
  refine awp_seq ?_
  refine awp_seq ?_
  refine bE hF fun vr h1 hF => ?_
  refine awp_region ?_
  refine aR 2 ?_
  refine aC (z306 h1) [] [] [] ?_
  refine aR 1 ?_
  refine aE ?_
  refine awp_seq ?_
  refine awp_region ?_
  refine aR 2 ?_
  refine aE ?_
  refine cE hF (fun h2 hF => ?_) fun h2 hF => ?_
  · refine awp_true (by kernel_rfl) h2 ?_
    refine awp_seq ?_
    refine awp_region ?_
    refine aR 3 ?_
    refine aE ?_
    refine awp_ret ?_
    exact oF hF [] []
  · refine awp_false (by kernel_rfl) h2 ?_
    refine awp_skip ?_
    refine awp_seq ?_
    refine awp_seq ?_
    refine bE hF fun vr1 h3 hF => ?_
    refine awp_region ?_
    refine aR 1 ?_
    refine aC (z73 h3) [] [] [] ?_
    refine aE ?_
    refine cE hF (fun h4 hF => ?_) fun h4 hF => ?_
    · refine awp_true (by kernel_rfl) h4 ?_
      refine awp_seq ?_
      refine awp_region ?_
      refine aR 2 ?_
      refine aE ?_
      refine awp_ret ?_
      exact oF hF [] []
    · refine awp_false (by kernel_rfl) h4 ?_
      refine awp_skip ?_
      refine awp_seq ?_
      refine bE hF fun vm4 h5 hF => ?_
      refine awp_region ?_
      refine aR 2 ?_
      refine aC (z282 h5) [] [] [] ?_
      refine aR 1 ?_
      refine aE ?_
      refine awp_seq ?_
      refine awp_region ?_
      refine aR 1 ?_
      refine aE ?_
      refine awp_seq ?_
      refine awp_seq ?_
      refine awp_region ?_
      refine aR 1 ?_
      refine aRange (ka := .str) (va := true) 12004 (encM D.str api_Note.enc) vm4 rfl (fun vme vcl vhp => ?_)
      refine aE ?_
      refine awp_block ?_
      refine awp_to (st' := z218 qx qx1 qx2 qx3 qm qx4 qx5 qx6 vm4 vme vcl vhp vm4 []) (oT [(2, 16002), (3, 12004)] [4]) ?_
      refine rG (H := z218 qx qx1 qx2 qx3 qm qx4 qx5 qx6 vm4 vme vcl vhp) (k := z220) (S := z219 qx qx1 qx2 qx3 qm qx4 qx5 qx6 vm4 vme vcl vhp) hF (by intro x; exact fun h => nomatch h) (fun l s => z221 qx qx1 qx2 qx3 qm qx4 qx5 qx6 vm4 vme vcl vhp l s) (fun vx1_1 hF => ?_)
      refine awp_seq ?_
      refine bE hF fun vl3 h13 hF => ?_
      refine gE hF fun h14 hF => ?_
      refine awp_region ?_
      refine aR 1 ?_
      refine aCp (z661 h13) ⟨⟨rfl, rfl, pin1 h14⟩, trivial⟩ [(0, 3)] [] [] ?_
      refine aE ?_
      refine awp_seq ?_
      refine awp_to (oT (m := ⟨[], [(0, [.d (.int .i64 qx), .d (.int .i64 qx1), .d (.int .i64 qx2), .d (.int .i64 qx3), .mapp 1, .d (.int .i64 qx4)]), (1, [.mapc .str true (List.map (encM D.str api_Note.enc) qm)]), (2, [.mapc .str true (List.map (encM D.str api_Note.enc) vm4)])]⟩) (ts := [(0, .v (.one (.box 0 0))), (1, .v (.one (.d (.int .i64 qx5)))), (2, .v (.one (.d (.int .i64 qx6)))), (9, .v (.one (.mapp 2))), (10, .v (.one (.d (.lst (List.map api_Letter.enc vl3)))))]) (nx := 2004) [] []) ?_
      refine bE hF fun vl4 h15 hF => ?_
      refine bE hF fun vr2 h16 hF => ?_
      refine awp_region ?_
      refine aR 3 ?_
      refine aL api_Letter.enc vl3 ?_
      refine aR 1 ?_
      refine aX (x_slice api_Letter.enc h15) ?_
      refine aC (z588 h16) [] [] [] ?_
      refine aR 1 ?_
      refine aE ?_
      refine awp_seq ?_
      refine awp_seq ?_
      refine awp_region ?_
      refine aR 1 ?_
      refine aL api_Letter.enc vr2 ?_
      refine aR 1 ?_
      refine aE ?_
      refine awp_block ?_
      refine awp_to (st' := z223 qx qx1 qx2 qx3 qm qx4 qx5 vr2 (vm4, 0)) (oT [(3, 8004)] []) ?_
      refine bE hF fun vm1_1 h20 hF => ?_
      refine awp_sub (awp_loop' (z223 qx qx1 qx2 qx3 qm qx4 qx5 vr2) z225 (z224 qx qx1 qx2 qx3 qm qx4 qx5 vr2) (by intro x; exact fun h => nomatch h) h20 (z226 qx qx1 qx2 qx3 qm qx4 qx5 vr2)) ?_
      refine awp_seq ?_
      refine bE hF fun _ h21 hF => ?_
      refine awp_region ?_
      refine aR 3 ?_
      refine aC (z303 h21) [] [] [] ?_
      refine aE ?_
      refine awp_seq ?_
      refine awp_region ?_
      refine aR 3 ?_
      refine aE ?_
      refine awp_ret ?_
      exact oF hF [] []

/-! ### (*beaconfleet/command.Office).Wake -/
def z275 : Bool → AEx
  | _ => .normal

def z274 (qo : Int) (qo1 : Int) (qo2 : Int) (qo3 : Int) (qm : List (List UInt8 × api_Note)) (qat : Int) (vm4 : List (List UInt8 × api_Note)) (vme : List (Nat × List D × List D)) (vcl : Nat) (vhp : (List.map (encM D.str api_Note.enc) vm4).Perm (List.map (·.2) vme)) (vnext : Int) (ve1 : (List UInt8 × api_Note)) (vl2 : List (List UInt8 × api_Note)) (vb1 : Nat) (vr2 : Int) : Bool → St
  | vx2 => Mem.st ⟨[], [(0, [.d (.int .i64 qo), .d (.int .i64 qo1), .d (.int .i64 qo2), .d (.int .i64 qo3), .mapp 2, .d (.int .i64 qat)]), (1, [.mapc .str true (List.map (encM D.str api_Note.enc) qm)]), (2, [.mapg .str true vme vcl]), (3, [.iterc 2 vme vcl (List.map (encM D.str api_Note.enc) vl2) (some (vb1, (encM D.str api_Note.enc) ve1))])]⟩ (tl [(0, .v (.one (.box 0 0))), (7, .v (.one (.d (.int .i64 vnext)))), (10, .v (.one (.d (.int .i64 vr2)))), (27, .v (.one (.box 3 0))), (47, .v (.one (.d (.bool vx2))))]) 4

def z273 (qo : Int) (qo1 : Int) (qo2 : Int) (qo3 : Int) (qm : List (List UInt8 × api_Note)) (qat : Int) (vm4 : List (List UInt8 × api_Note)) (vme : List (Nat × List D × List D)) (vcl : Nat) (vhp : (List.map (encM D.str api_Note.enc) vm4).Perm (List.map (·.2) vme)) (vnext : Int) (ve1 : (List UInt8 × api_Note)) (vl2 : List (List UInt8 × api_Note)) (vb1 : Nat) (vr2 : Int) : St := Mem.st ⟨[], [(0, [.d (.int .i64 qo), .d (.int .i64 qo1), .d (.int .i64 qo2), .d (.int .i64 qo3), .mapp 2, .d (.int .i64 qat)]), (1, [.mapc .str true (List.map (encM D.str api_Note.enc) qm)]), (2, [.mapg .str true vme vcl]), (3, [.d (.str ve1.2.Letter.Id), .d (.str ve1.2.Letter.Slot), .d (.str ve1.2.Letter.Body), .d (.int .i64 ve1.2.Letter.Prio), .d (.int .i64 ve1.2.Letter.At), .d (.int .i64 ve1.2.Letter.Until), .d (.int .i64 ve1.2.State), .d (.int .i64 ve1.2.Tries), .d (.int .i64 ve1.2.Since)]), (4, [.iterc 2 vme vcl (List.map (encM D.str api_Note.enc) vl2) (some (vb1, (encM D.str api_Note.enc) ve1))])]⟩ (tl [(0, .v (.one (.box 0 0))), (7, .v (.one (.d (.int .i64 vnext)))), (9, .v (.one (.box 3 0))), (10, .v (.one (.d (.int .i64 vr2)))), (27, .v (.one (.box 4 0)))]) 5

theorem z276 (qo : Int) (qo1 : Int) (qo2 : Int) (qo3 : Int) (qm : List (List UInt8 × api_Note)) (qat : Int) (vm4 : List (List UInt8 × api_Note)) (vme : List (Nat × List D × List D)) (vcl : Nat) (vhp : (List.map (encM D.str api_Note.enc) vm4).Perm (List.map (·.2) vme)) (vnext : Int) (ve1 : (List UInt8 × api_Note)) (vl2 : List (List UInt8 × api_Note)) (vb1 : Nat) (vr2 : Int) {r} (hF : z272 vnext ve1 vr2 = some r) : Awp prog 2 50 (cL (cR (cR (cL (cR (cR (cL (cL (cR (cL (cR (cR (cR (cR (cB f21))))))))))))))) (Out 2 z275 (z274 qo qo1 qo2 qo3 qm qat vm4 vme vcl vhp vnext ve1 vl2 vb1 vr2) r) (z273 qo qo1 qo2 qo3 qm qat vm4 vme vcl vhp vnext ve1 vl2 vb1 vr2) := by
  unfold z272 at hF
  refine bE hF fun _ h10 hF => ?_
  refine cE hF (fun h11 hF => ?_) fun h11 hF => ?_
  · refine cE hF (fun h12 hF => ?_) fun h12 hF => ?_
    · refine awp_region ?_
      refine aR 2 ?_
      refine aC (z326 h10) [] [] [] ?_
      refine aB h11 ?_
      refine aR 2 ?_
      refine aB h12 ?_
      refine aR 6 ?_
      refine aE ?_
      exact oO hF [(3, 4)] [] rfl
    · refine awp_region ?_
      refine aR 2 ?_
      refine aC (z326 h10) [] [] [] ?_
      refine aB h11 ?_
      refine aR 2 ?_
      refine aB h12 ?_
      refine aR 6 ?_
      refine aE ?_
      exact oO hF [(3, 4)] [] rfl
  · refine awp_region ?_
    refine aR 2 ?_
    refine aC (z326 h10) [] [] [] ?_
    refine aB h11 ?_
    refine aR 9 ?_
    refine aE ?_
    exact oO hF [(3, 4)] [] rfl

def z270 : Int → AEx
  | _ => .exit 0

def z269 (qo : Int) (qo1 : Int) (qo2 : Int) (qo3 : Int) (qm : List (List UInt8 × api_Note)) (qat : Int) (vm4 : List (List UInt8 × api_Note)) (vme : List (Nat × List D × List D)) (vcl : Nat) (vhp : (List.map (encM D.str api_Note.enc) vm4).Perm (List.map (·.2) vme)) : Int → St
  | vnext1 => Mem.st ⟨[], [(0, [.d (.int .i64 qo), .d (.int .i64 qo1), .d (.int .i64 qo2), .d (.int .i64 qo3), .mapp 2, .d (.int .i64 qat)]), (1, [.mapc .str true (List.map (encM D.str api_Note.enc) qm)]), (2, [.mapc .str true (List.map (encM D.str api_Note.enc) vm4)])]⟩ (tl [(7, .v (.one (.d (.int .i64 vnext1))))]) 3

def z268 (qo : Int) (qo1 : Int) (qo2 : Int) (qo3 : Int) (qm : List (List UInt8 × api_Note)) (qat : Int) (vm4 : List (List UInt8 × api_Note)) (vme : List (Nat × List D × List D)) (vcl : Nat) (vhp : (List.map (encM D.str api_Note.enc) vm4).Perm (List.map (·.2) vme)) (vl : List (List UInt8 × api_Note)) : Int → St
  | vnext => Mem.st ⟨[], [(0, [.d (.int .i64 qo), .d (.int .i64 qo1), .d (.int .i64 qo2), .d (.int .i64 qo3), .mapp 2, .d (.int .i64 qat)]), (1, [.mapc .str true (List.map (encM D.str api_Note.enc) qm)]), (2, [.mapg .str true vme vcl]), (3, [.iterc 2 vme vcl (List.map (encM D.str api_Note.enc) vl) none])]⟩ (tl [(0, .v (.one (.box 0 0))), (7, .v (.one (.d (.int .i64 vnext)))), (27, .v (.one (.box 3 0)))]) 4

theorem z271 (qo : Int) (qo1 : Int) (qo2 : Int) (qo3 : Int) (qm : List (List UInt8 × api_Note)) (qat : Int) (vm4 : List (List UInt8 × api_Note)) (vme : List (Nat × List D × List D)) (vcl : Nat) (vhp : (List.map (encM D.str api_Note.enc) vm4).Perm (List.map (·.2) vme)) (vl : List (List UInt8 × api_Note)) (vnext : Int) (hE : vl = [] → ∃ x, z267 qo qo1 qo2 qo3 qat none vnext = some x) (hP : ∀ e l', List.Perm vl (e :: l') → ∃ x, z267 qo qo1 qo2 qo3 qat (some e) vnext = some x) : Awp prog 2 50 (cL (cL (cR (cL (cR (cR (cR (cR (cB f21))))))))) (OutR 2 z270 (z267 qo qo1 qo2 qo3 qat) (z268 qo qo1 qo2 qo3 qm qat vm4 vme vcl vhp) (z269 qo qo1 qo2 qo3 qm qat vm4 vme vcl vhp) vl vnext) (z268 qo qo1 qo2 qo3 qm qat vm4 vme vcl vhp vl vnext) := by
  refine awp_seq ?_
  refine awp_region ?_
  refine aNext (ka := .str) (va := true) (me := vme) (cl := vcl) (cur := none) 3 2 (encM D.str api_Note.enc) vl rfl (fun h7 => ?_) (fun ve1 vl2 vb1 h8 => ?_)
  · obtain ⟨x, hF0⟩ := hE h7
    have hF := hF0
    unfold z267 at hF
    refine aR 1 ?_
    refine aE ?_
    refine awp_seq ?_
    refine awp_false (by kernel_rfl) rfl ?_
    refine awp_close (ka := .str) (va := true) (me := vme) (cl := vcl) 2 vhp ?_
    refine awp_exit ?_
    exact outE h7 hF0 (oO hF [] [] rfl)
  · obtain ⟨x, hF0⟩ := hP _ _ h8
    have hF := hF0
    unfold z267 at hF
    refine aR 1 ?_
    refine aE ?_
    refine awp_seq ?_
    refine awp_true (by kernel_rfl) rfl ?_
    refine awp_skip ?_
    refine awp_block ?_
    refine awp_seq ?_
    refine awp_region ?_
    refine aEntry (ka := .str) (va := true) (me := vme) (cl := vcl) (b := vb1) (rest := List.map (encM D.str api_Note.enc) vl2) 3 2 (encM D.str api_Note.enc) ve1 rfl ?_
    refine aR 3 ?_
    refine aE ?_
    refine awp_seq ?_
    refine bE hF fun vr2 h9 hF => ?_
    refine awp_region ?_
    refine aR 2 ?_
    refine aC (z309 (qme0 := vme) (qcl0 := vcl) h9) [(1, 2)] [] [] ?_
    refine aR 1 ?_
    refine aE ?_
    refine awp_seq ?_
    refine awp_to (st' := z273 qo qo1 qo2 qo3 qm qat vm4 vme vcl vhp vnext ve1 vl2 vb1 vr2) (oT [(3, 4004), (4, 3)] []) ?_
    refine bE hF fun vx2_1 h13 hF => ?_
    refine awp_sub (z276 qo qo1 qo2 qo3 qm qat vm4 vme vcl vhp vnext ve1 vl2 vb1 vr2 h13) ?_
    refine cE hF (fun h14 hF => ?_) fun h14 hF => ?_
    · refine awp_true (by kernel_rfl) h14 ?_
      refine awp_region ?_
      refine aR 2 ?_
      refine aE ?_
      exact outP h8 hF0 (outCur (idM := 2) (me := vme) (cl := vcl) (rest := List.map (encM D.str api_Note.enc) vl2) (cur := some (vb1, (encM D.str api_Note.enc) ve1)) 3 <| oO hF [] [] rfl)
    · refine awp_false (by kernel_rfl) h14 ?_
      refine awp_skip ?_
      exact outP h8 hF0 (outCur (idM := 2) (me := vme) (cl := vcl) (rest := List.map (encM D.str api_Note.enc) vl2) (cur := some (vb1, (encM D.str api_Note.enc) ve1)) 3 <| oO hF [] [] rfl)

def z265 (qo : Int) (qo1 : Int) (qo2 : Int) (qo3 : Int) (qm : List (List UInt8 × api_Note)) (qo4 : Int) (qat : Int) : Int ⊕ ((List (List UInt8 × api_Note)) × Int) → TV × Mem
  | .inl vr3 => (.tup [.one (.d (.int .i64 0)), .one (.d (.int .i64 vr3))], ⟨[], [(0, [.d (.int .i64 qo), .d (.int .i64 qo1), .d (.int .i64 qo2), .d (.int .i64 qo3), .mapp 1, .d (.int .i64 qo4)]), (1, [.mapc .str true (List.map (encM D.str api_Note.enc) qm)])]⟩)
  | .inr (vm, vr4) => (.tup [.one (.d (.int .i64 vr4)), .one (.d (.int .i64 0))], ⟨[], [(0, [.d (.int .i64 qo), .d (.int .i64 qo1), .d (.int .i64 qo2), .d (.int .i64 qo3), .mapp 2, .d (.int .i64 qat)]), (1, [.mapc .str true (List.map (encM D.str api_Note.enc) qm)]), (2, [.mapc .str true (List.map (encM D.str api_Note.enc) vm)])]⟩)

theorem z266 {qo : Int} {qo1 : Int} {qo2 : Int} {qo3 : Int} {qm : List (List UInt8 × api_Note)} {qo4 : Int} {qat : Int} {r} (hF : z264 qo qo1 qo2 qo3 qm qo4 qat = some r) : Holds prog 21 [.v (.one (.box 0 0)), .v (.one (.d (.int .i64 qat)))] ⟨[], [(0, [.d (.int .i64 qo), .d (.int .i64 qo1), .d (.int .i64 qo2), .d (.int .i64 qo3), .mapp 1, .d (.int .i64 qo4)]), (1, [.mapc .str true (List.map (encM D.str api_Note.enc) qm)])]⟩ (Is (z265 qo qo1 qo2 qo3 qm qo4 qat r)) := by
  unfold z264 at hF
  refine holds_of_awp hΓ (fn := f21) (c := cB f21) (A := 2) (nx := 2) (by kernel_rfl) (by kernel_rfl) (by kernel_rfl) (by kernel_rfl) (by kernel_rfl) (by kernel_rfl) (lowc_of (by kernel_rfl)) ?_
  show Awp prog 2 50 (cB f21) _ _
  refine awp_seq ?_
  refine awp_region ?_
  refine aR 2 ?_
  refine aE ?_
  refine awp_seq ?_
  refine awp_seq ?_
  refine bE hF fun vr h1 hF => ?_
  refine awp_region ?_
  refine aR 2 ?_
  refine aC (z306 h1) [] [] [] ?_
  refine aR 1 ?_
  refine aE ?_
  refine awp_seq ?_
  refine awp_region ?_
  refine aR 2 ?_
  refine aE ?_
  refine cE hF (fun h2 hF => ?_) fun h2 hF => ?_
  · refine awp_true (by kernel_rfl) h2 ?_
    refine awp_seq ?_
    refine awp_region ?_
    refine aR 3 ?_
    refine aE ?_
    refine awp_ret ?_
    exact oF hF [] []
  · refine awp_false (by kernel_rfl) h2 ?_
    refine awp_skip ?_
    refine awp_seq ?_
    refine bE hF fun vm4 h3 hF => ?_
    refine bE hF fun _ h4 hF => ?_
    refine awp_region ?_
    refine aR 3 ?_
    refine aC (z282 h3) [] [] [] ?_
    refine aR 1 ?_
    refine aC (z303 h4) [(2, 11004)] [] [] ?_
    refine aE ?_
    refine awp_seq ?_
    refine awp_region ?_
    refine aR 1 ?_
    refine aE ?_
    refine awp_seq ?_
    refine awp_seq ?_
    refine awp_region ?_
    refine aR 4 ?_
    refine aRange (ka := .str) (va := true) 11004 (encM D.str api_Note.enc) vm4 rfl (fun vme vcl vhp => ?_)
    refine aE ?_
    refine awp_block ?_
    refine awp_to (st' := z268 qo qo1 qo2 qo3 qm qat vm4 vme vcl vhp vm4 (-1)) (oT [(2, 11004), (3, 19002)] []) ?_
    refine rG (H := z268 qo qo1 qo2 qo3 qm qat vm4 vme vcl vhp) (k := z270) (S := z269 qo qo1 qo2 qo3 qm qat vm4 vme vcl vhp) hF (by intro x; exact fun h => nomatch h) (fun l s => z271 qo qo1 qo2 qo3 qm qat vm4 vme vcl vhp l s) (fun vnext1_1 hF => ?_)
    refine awp_seq ?_
    refine awp_region ?_
    refine aR 3 ?_
    refine aE ?_
    refine awp_ret ?_
    exact oF hF [] []

/-! ### (*beaconfleet/command.Office).Notes$1 -/
def z229 (qa : api_Note) (qb : api_Note) (r : Unit) : TV × Mem := (.v (.one (.d (.int .i64 (Lib.compareBytes qa.Letter.Id qb.Letter.Id)))), ⟨[], []⟩)

theorem z230 {qa : api_Note} {qb : api_Note} {r} (hF : z228 qa qb = some r) : Holds prog 84 [.v (.agg [.d (.str qa.Letter.Id), .d (.str qa.Letter.Slot), .d (.str qa.Letter.Body), .d (.int .i64 qa.Letter.Prio), .d (.int .i64 qa.Letter.At), .d (.int .i64 qa.Letter.Until), .d (.int .i64 qa.State), .d (.int .i64 qa.Tries), .d (.int .i64 qa.Since)]), .v (.agg [.d (.str qb.Letter.Id), .d (.str qb.Letter.Slot), .d (.str qb.Letter.Body), .d (.int .i64 qb.Letter.Prio), .d (.int .i64 qb.Letter.At), .d (.int .i64 qb.Letter.Until), .d (.int .i64 qb.State), .d (.int .i64 qb.Tries), .d (.int .i64 qb.Since)])] ⟨[], []⟩ (Is (z229 qa qb r)) := by
  unfold z228 at hF
  refine holds_of_awp hΓ (fn := f84) (c := cB f84) (A := 0) (nx := 0) (by kernel_rfl) (by kernel_rfl) (by kernel_rfl) (by kernel_rfl) (by kernel_rfl) (by kernel_rfl) (lowc_of (by kernel_rfl)) ?_
  show Awp prog 0 12 (cB f84) _ _
  refine awp_seq ?_
  refine awp_region ?_
  refine aR 3 ?_
  refine aE ?_
  refine awp_seq ?_
  refine bE hF fun _ h1 hF => ?_
  refine awp_region ?_
  refine aR 6 ?_
  refine aC (z960 h1) [] [] [] ?_
  refine aR 1 ?_
  refine aE ?_
  refine awp_ret ?_
  exact oF hF [] []

/-! ### slices.insertionSortCmpFunc[beaconfleet/api.Note] -/
def z705 : Bool → AEx
  | _ => .normal

def z704 (qa : Int) (qb : Int) (vi : Int) (vl3 : List api_Note) (vj1 : Int) : Bool → St
  | vx4 => Mem.st ⟨[(0, ⟨60, 9, List.map api_Note.enc vl3⟩)], []⟩ (tl [(0, .v (.one (.own 0 none))), (1, .v (.one (.d (.int .i64 qa)))), (2, .v (.one (.d (.int .i64 qb)))), (3, .v (.one (.fn 84 []))), (8, .v (.one (.d (.int .i64 vi)))), (9, .v (.one (.d (.int .i64 vj1)))), (34, .v (.one (.d (.bool vx4))))]) 1

def z703 (qa : Int) (qb : Int) (vi : Int) (vl3 : List api_Note) (vj1 : Int) : St := Mem.st ⟨[(0, ⟨60, 9, List.map api_Note.enc vl3⟩)], []⟩ (tl [(0, .v (.one (.own 0 none))), (1, .v (.one (.d (.int .i64 qa)))), (2, .v (.one (.d (.int .i64 qb)))), (3, .v (.one (.fn 84 []))), (8, .v (.one (.d (.int .i64 vi)))), (9, .v (.one (.d (.int .i64 vj1))))]) 1

theorem z706 (qa : Int) (qb : Int) (vi : Int) (vl3 : List api_Note) (vj1 : Int) {r} (hF : z702 qa vl3 vj1 = some r) : Awp prog 1 53 (cL (cL (cL (cL (cR (cL (cL (cR (cL (cL (cR (cB f199)))))))))))) (Out 1 z705 (z704 qa qb vi vl3 vj1) r) (z703 qa qb vi vl3 vj1) := by
  unfold z702 at hF
  refine cE hF (fun h2 hF => ?_) fun h2 hF => ?_
  · refine bE hF fun vy15 h3 hF => ?_
    refine bE hF fun vy16 h4 hF => ?_
    refine bE hF fun _ h5 hF => ?_
    refine aD ?_
    refine dR 2 ?_
    refine dB h2 ?_
    refine dR 4 ?_
    refine dX (x_idxO api_Note.enc 0 h3) ?_
    refine dX (x_ldE api_Note.enc h3) ?_
    refine dR 3 ?_
    refine dX (x_idxO api_Note.enc 0 h4) ?_
    refine dX (x_ldE api_Note.enc h4) ?_
    refine dC (z230 h5) [] [] [] ?_
    refine dR 2 ?_
    refine dE ?_
    exact oO hF [] [] rfl
  · refine aD ?_
    refine dR 2 ?_
    refine dB h2 ?_
    refine dR 14 ?_
    refine dE ?_
    exact oO hF [] [] rfl

def z700 : (List api_Note) → AEx
  | _ => .exit 2

def z699 (qa : Int) (qb : Int) (vi : Int) : (List api_Note) → St
  | vl4 => Mem.st ⟨[(0, ⟨60, 9, List.map api_Note.enc vl4⟩)], []⟩ (tl [(0, .v (.one (.own 0 none))), (1, .v (.one (.d (.int .i64 qa)))), (2, .v (.one (.d (.int .i64 qb)))), (3, .v (.one (.fn 84 []))), (8, .v (.one (.d (.int .i64 vi))))]) 1

def z698 (qa : Int) (qb : Int) (vi : Int) : (List api_Note) × Int → St
  | (vl3, vj1) => Mem.st ⟨[(0, ⟨60, 9, List.map api_Note.enc vl3⟩)], []⟩ (tl [(0, .v (.one (.own 0 none))), (1, .v (.one (.d (.int .i64 qa)))), (2, .v (.one (.d (.int .i64 qb)))), (3, .v (.one (.fn 84 []))), (8, .v (.one (.d (.int .i64 vi)))), (9, .v (.one (.d (.int .i64 vj1))))]) 1

theorem z701 (qa : Int) (qb : Int) (vi : Int) (s : (List api_Note) × Int) (r : ((List api_Note) × Int) ⊕ ((List api_Note))) (hF : z697 qa s = some r) : Awp prog 1 53 (cL (cL (cR (cL (cL (cR (cL (cL (cR (cB f199)))))))))) (Out 1 (kk z700) (SS (z698 qa qb vi) (z699 qa qb vi)) r) (z698 qa qb vi s) := by
  obtain ⟨vl3, vj1⟩ := s
  unfold z697 at hF
  refine awp_seq ?_
  refine awp_seq ?_
  refine awp_to (st' := z703 qa qb vi vl3 vj1) (oT [] []) ?_
  refine bE hF fun vx4_1 h6 hF => ?_
  refine awp_sub (z706 qa qb vi vl3 vj1 h6) ?_
  refine cE hF (fun h7 hF => ?_) fun h7 hF => ?_
  · refine awp_true (by kernel_rfl) h7 ?_
    refine awp_skip ?_
    refine awp_seq ?_
    refine awp_block ?_
    refine bE hF fun vy17 h8 hF => ?_
    refine bE hF fun vy18 h9 hF => ?_
    refine bE hF fun vy19 h10 hF => ?_
    refine aDw [0] ?_
    refine dR 8 ?_
    refine dI api_Note.enc 0 h8 rfl ?_
    refine dX (x_ldE api_Note.enc h8) ?_
    refine dR 2 ?_
    refine dI api_Note.enc 0 h9 rfl ?_
    refine dX (x_ldE api_Note.enc h9) ?_
    refine dI api_Note.enc 0 h9 rfl ?_
    refine dW api_Note.enc (api_Note.mk (api_Letter.mk vy17.Letter.Id vy17.Letter.Slot vy17.Letter.Body vy17.Letter.Prio vy17.Letter.At vy17.Letter.Until) vy17.State vy17.Tries vy17.Since) h9 rfl ?_
    refine dI api_Note.enc 0 h10 rfl ?_
    refine dW api_Note.enc (api_Note.mk (api_Letter.mk vy18.Letter.Id vy18.Letter.Slot vy18.Letter.Body vy18.Letter.Prio vy18.Letter.At vy18.Letter.Until) vy18.State vy18.Tries vy18.Since) h10 rfl ?_
    refine dE ?_
    refine awp_region ?_
    refine aR 3 ?_
    refine aE ?_
    exact oO hF [] [] rfl
  · refine awp_false (by kernel_rfl) h7 ?_
    refine awp_exit ?_
    exact oO hF [] [] rfl

def z695 : (List api_Note) → AEx
  | _ => .exit 0

def z694 (qa : Int) (qb : Int) : (List api_Note) → St
  | vl5 => Mem.st ⟨[(0, ⟨60, 9, List.map api_Note.enc vl5⟩)], []⟩ (tl []) 1

def z693 (qa : Int) (qb : Int) : (List api_Note) × Int → St
  | (vl, vi) => Mem.st ⟨[(0, ⟨60, 9, List.map api_Note.enc vl⟩)], []⟩ (tl [(0, .v (.one (.own 0 none))), (1, .v (.one (.d (.int .i64 qa)))), (2, .v (.one (.d (.int .i64 qb)))), (3, .v (.one (.fn 84 []))), (8, .v (.one (.d (.int .i64 vi))))]) 1

theorem z696 (qa : Int) (qb : Int) (s : (List api_Note) × Int) (r : ((List api_Note) × Int) ⊕ ((List api_Note))) (hF : z692 qa qb s = some r) : Awp prog 1 53 (cL (cL (cR (cB f199)))) (Out 1 (kk z695) (SS (z693 qa qb) (z694 qa qb)) r) (z693 qa qb s) := by
  obtain ⟨vl, vi⟩ := s
  unfold z692 at hF
  refine awp_seq ?_
  refine awp_seq ?_
  refine awp_region ?_
  refine aR 3 ?_
  refine aE ?_
  refine cE hF (fun h1 hF => ?_) fun h1 hF => ?_
  · refine awp_true (by kernel_rfl) h1 ?_
    refine awp_skip ?_
    refine awp_seq ?_
    refine awp_block ?_
    refine awp_seq ?_
    refine awp_region ?_
    refine aR 2 ?_
    refine aE ?_
    refine awp_block ?_
    refine awp_to (st' := z698 qa qb vi (vl, vi)) (oT [] []) ?_
    refine bE hF fun vl4_1 h11 hF => ?_
    refine awp_sub (awp_loop' (z698 qa qb vi) z700 (z699 qa qb vi) (by intro x; exact fun h => nomatch h) h11 (z701 qa qb vi)) ?_
    refine awp_region ?_
    refine aR 3 ?_
    refine aE ?_
    exact oO hF [] [] rfl
  · refine awp_false (by kernel_rfl) h1 ?_
    refine awp_exit ?_
    exact oO hF [] [] rfl

def z690 (qdata : List api_Note) (qa : Int) (qb : Int) (r : (List api_Note)) : TV × Mem := (.tup [], ⟨[(0, ⟨60, 9, List.map api_Note.enc r⟩)], []⟩)

theorem z691 {qdata : List api_Note} {qa : Int} {qb : Int} {r} (hF : z689 qdata qa qb = some r) : Holds prog 199 [.v (.one (.own 0 none)), .v (.one (.d (.int .i64 qa))), .v (.one (.d (.int .i64 qb))), .v (.one (.fn 84 []))] ⟨[(0, ⟨60, 9, List.map api_Note.enc qdata⟩)], []⟩ (Is (z690 qdata qa qb r)) := by
  unfold z689 at hF
  refine holds_of_awp hΓ (fn := f199) (c := cB f199) (A := 1) (nx := 1) (by kernel_rfl) (by kernel_rfl) (by kernel_rfl) (by kernel_rfl) (by kernel_rfl) (by kernel_rfl) (lowc_of (by kernel_rfl)) ?_
  show Awp prog 1 53 (cB f199) _ _
  refine awp_seq ?_
  refine awp_region ?_
  refine aR 3 ?_
  refine aE ?_
  refine awp_block ?_
  refine awp_to (st' := z693 qa qb (qdata, IntKind.wrap .i64 (qa + 1))) (oT [] []) ?_
  refine bE hF fun vl5_1 h12 hF => ?_
  refine awp_sub (awp_loop' (z693 qa qb) z695 (z694 qa qb) (by intro x; exact fun h => nomatch h) h12 (z696 qa qb)) ?_
  exact oF hF [] []

/-! ### slices.pdqsortCmpFunc[beaconfleet/api.Note] -/
def z757 : (List api_Note) → AEx
  | _ => .ret

def z756 (qx : List api_Note) (qx1 : Int) (qx2 : Int) (qx3 : Int) : (List api_Note) → St
  | vl => Mem.st ⟨[(0, ⟨60, 9, List.map api_Note.enc vl⟩)], []⟩ (tl []) 1

def z755 (qx : List api_Note) (qx1 : Int) (qx2 : Int) (qx3 : Int) : Unit → St
  | _ => Mem.st ⟨[(0, ⟨60, 9, List.map api_Note.enc qx⟩)], []⟩ (tl [(0, .v (.one (.own 0 none))), (1, .v (.one (.d (.int .i64 qx1)))), (2, .v (.one (.d (.int .i64 qx2)))), (3, .v (.one (.d (.int .i64 qx3)))), (4, .v (.one (.fn 84 []))), (10, .v (.one (.d (.bool true)))), (11, .v (.one (.d (.bool true))))]) 1

theorem z758 (qx : List api_Note) (qx1 : Int) (qx2 : Int) (qx3 : Int) (s : Unit) (r : (Unit) ⊕ ((List api_Note))) (hF : z754 qx qx1 qx2 qx3 s = some r) : Awp prog 1 148 (cL (cL (cR (cR (cB f153))))) (Out 1 (kk z757) (SS (z755 qx qx1 qx2 qx3) (z756 qx qx1 qx2 qx3)) r) (z755 qx qx1 qx2 qx3 s) := by
  unfold z754 at hF
  refine awp_block ?_
  refine awp_seq ?_
  refine awp_region ?_
  refine aR 4 ?_
  refine aE ?_
  refine awp_seq ?_
  refine awp_seq ?_
  refine awp_region ?_
  refine aR 2 ?_
  refine aE ?_
  refine cE hF (fun h1 hF => ?_) fun h1 hF => ?_
  · refine awp_true (by kernel_rfl) h1 ?_
    refine awp_seq ?_
    refine bE hF fun vl6_1 h2 hF => ?_
    refine gE hF fun h3 hF => ?_
    refine awp_region ?_
    refine aR 4 ?_
    refine aCp (z691 h2) ⟨⟨rfl, rfl, pin1 h3⟩, trivial⟩ [] [] [] ?_
    refine aE ?_
    refine awp_ret ?_
    exact oO hF [] [] rfl
  · refine awp_false (by kernel_rfl) h1 ?_
    refine awp_skip ?_
    refine awp_seq ?_
    refine awp_seq ?_
    refine awp_region ?_
    refine aR 2 ?_
    refine aE ?_
    refine cE hF (fun h4 hF => ?_) fun h4 hF => ?_
    · refine awp_true (by kernel_rfl) h4 ?_
      refine awp_seq ?_
      exact nE hF
    · refine awp_false (by kernel_rfl) h4 ?_
      refine awp_skip ?_
      refine awp_seq ?_
      refine awp_seq ?_
      refine awp_region ?_
      refine aR 2 ?_
      refine aE ?_
      refine awp_false (by kernel_rfl) rfl ?_
      refine awp_skip ?_
      refine awp_seq ?_
      exact nE hF

def z752 (qx : List api_Note) (qx1 : Int) (qx2 : Int) (qx3 : Int) (r : (List api_Note)) : TV × Mem := (.tup [], ⟨[(0, ⟨60, 9, List.map api_Note.enc r⟩)], []⟩)

theorem z753 {qx : List api_Note} {qx1 : Int} {qx2 : Int} {qx3 : Int} {r} (hF : z751 qx qx1 qx2 qx3 = some r) : Holds prog 153 [.v (.one (.own 0 none)), .v (.one (.d (.int .i64 qx1))), .v (.one (.d (.int .i64 qx2))), .v (.one (.d (.int .i64 qx3))), .v (.one (.fn 84 []))] ⟨[(0, ⟨60, 9, List.map api_Note.enc qx⟩)], []⟩ (Is (z752 qx qx1 qx2 qx3 r)) := by
  unfold z751 at hF
  refine holds_of_awp hΓ (fn := f153) (c := cB f153) (A := 1) (nx := 1) (by kernel_rfl) (by kernel_rfl) (by kernel_rfl) (by kernel_rfl) (by kernel_rfl) (by kernel_rfl) (lowc_of (by kernel_rfl)) ?_
  show Awp prog 1 148 (cB f153) _ _
  refine awp_seq ?_
  refine awp_region ?_
  refine aR 1 ?_
  refine aE ?_
  refine awp_seq ?_
  refine awp_region ?_
  refine aR 1 ?_
  refine aE ?_
  refine awp_block ?_
  refine awp_to (st' := z755 qx qx1 qx2 qx3 ()) (oT [] []) ?_
  refine bE hF fun vl1 h7 hF => ?_
  refine awp_sub (awp_loop' (z755 qx qx1 qx2 qx3) z757 (z756 qx qx1 qx2 qx3) (by intro x; exact fun h => nomatch h) h7 (z758 qx qx1 qx2 qx3)) ?_
  exact oF hF [] []

/-! ### slices.SortFunc[[]beaconfleet/api.Note,beaconfleet/api.Note] -/
def z663 (qx : List api_Note) (r : (List api_Note)) : TV × Mem := (.tup [], ⟨[(0, ⟨60, 9, List.map api_Note.enc r⟩)], []⟩)

theorem z664 {qx : List api_Note} {r} (hF : z662 qx = some r) : Holds prog 83 [.v (.one (.own 0 none)), .v (.one (.fn 84 []))] ⟨[(0, ⟨60, 9, List.map api_Note.enc qx⟩)], []⟩ (Is (z663 qx r)) := by
  unfold z662 at hF
  refine holds_of_awp hΓ (fn := f83) (c := cB f83) (A := 1) (nx := 1) (by kernel_rfl) (by kernel_rfl) (by kernel_rfl) (by kernel_rfl) (by kernel_rfl) (by kernel_rfl) (lowc_of (by kernel_rfl)) ?_
  show Awp prog 1 14 (cB f83) _ _
  refine awp_seq ?_
  refine awp_region ?_
  refine aR 1 ?_
  refine aL api_Note.enc qx ?_
  refine aR 1 ?_
  refine aE ?_
  refine bE hF fun vr1 h1 hF => ?_
  refine bE hF fun vl2 h2 hF => ?_
  refine gE hF fun h3 hF => ?_
  refine awp_region ?_
  refine aR 4 ?_
  refine aC (z120 h1) [] [] [] ?_
  refine aR 1 ?_
  refine aCp (z753 h2) ⟨⟨rfl, rfl, pin1 h3⟩, trivial⟩ [] [] [] ?_
  refine aE ?_
  exact oF hF [] []

/-! ### (*beaconfleet/command.Office).Notes -/
def z236 : (List api_Note) → AEx
  | _ => .exit 0

def z235 (qo : Int) (qo1 : Int) (qo2 : Int) (qo3 : Int) (qm : List (List UInt8 × api_Note)) (qat : Int) (vm4 : List (List UInt8 × api_Note)) (vme : List (Nat × List D × List D)) (vcl : Nat) (vhp : (List.map (encM D.str api_Note.enc) vm4).Perm (List.map (·.2) vme)) : (List api_Note) → St
  | vout1 => Mem.st ⟨[(3, ⟨60, 9, List.map api_Note.enc vout1⟩)], [(0, [.d (.int .i64 qo), .d (.int .i64 qo1), .d (.int .i64 qo2), .d (.int .i64 qo3), .mapp 2, .d (.int .i64 qat)]), (1, [.mapc .str true (List.map (encM D.str api_Note.enc) qm)]), (2, [.mapc .str true (List.map (encM D.str api_Note.enc) vm4)])]⟩ (tl [(7, .v (.one (.own 3 none)))]) 4

def z234 (qo : Int) (qo1 : Int) (qo2 : Int) (qo3 : Int) (qm : List (List UInt8 × api_Note)) (qat : Int) (vm4 : List (List UInt8 × api_Note)) (vme : List (Nat × List D × List D)) (vcl : Nat) (vhp : (List.map (encM D.str api_Note.enc) vm4).Perm (List.map (·.2) vme)) (vl : List (List UInt8 × api_Note)) : (List api_Note) → St
  | vout => Mem.st ⟨[(4, ⟨60, 9, List.map api_Note.enc vout⟩)], [(0, [.d (.int .i64 qo), .d (.int .i64 qo1), .d (.int .i64 qo2), .d (.int .i64 qo3), .mapp 2, .d (.int .i64 qat)]), (1, [.mapc .str true (List.map (encM D.str api_Note.enc) qm)]), (2, [.mapg .str true vme vcl]), (3, [.iterc 2 vme vcl (List.map (encM D.str api_Note.enc) vl) none])]⟩ (tl [(7, .v (.one (.own 4 none))), (26, .v (.one (.box 3 0)))]) 5

theorem z237 (qo : Int) (qo1 : Int) (qo2 : Int) (qo3 : Int) (qm : List (List UInt8 × api_Note)) (qat : Int) (vm4 : List (List UInt8 × api_Note)) (vme : List (Nat × List D × List D)) (vcl : Nat) (vhp : (List.map (encM D.str api_Note.enc) vm4).Perm (List.map (·.2) vme)) (vl : List (List UInt8 × api_Note)) (vout : (List api_Note)) (hE : vl = [] → ∃ x, z233 none vout = some x) (hP : ∀ e l', List.Perm vl (e :: l') → ∃ x, z233 (some e) vout = some x) : Awp prog 2 38 (cL (cL (cR (cL (cR (cR (cR (cR (cB f22))))))))) (OutR 2 z236 (z233) (z234 qo qo1 qo2 qo3 qm qat vm4 vme vcl vhp) (z235 qo qo1 qo2 qo3 qm qat vm4 vme vcl vhp) vl vout) (z234 qo qo1 qo2 qo3 qm qat vm4 vme vcl vhp vl vout) := by
  refine awp_seq ?_
  refine awp_region ?_
  refine aNext (ka := .str) (va := true) (me := vme) (cl := vcl) (cur := none) 3 2 (encM D.str api_Note.enc) vl rfl (fun h7 => ?_) (fun ve1 vl2 vb1 h8 => ?_)
  · obtain ⟨x, hF0⟩ := hE h7
    have hF := hF0
    unfold z233 at hF
    refine aR 1 ?_
    refine aE ?_
    refine awp_seq ?_
    refine awp_false (by kernel_rfl) rfl ?_
    refine awp_close (ka := .str) (va := true) (me := vme) (cl := vcl) 2 vhp ?_
    refine awp_exit ?_
    exact outE h7 hF0 (oO hF [(3, 4)] [] rfl)
  · obtain ⟨x, hF0⟩ := hP _ _ h8
    have hF := hF0
    unfold z233 at hF
    refine aR 1 ?_
    refine aE ?_
    refine awp_seq ?_
    refine awp_true (by kernel_rfl) rfl ?_
    refine awp_skip ?_
    refine awp_block ?_
    refine awp_seq ?_
    refine awp_region ?_
    refine aEntry (ka := .str) (va := true) (me := vme) (cl := vcl) (b := vb1) (rest := List.map (encM D.str api_Note.enc) vl2) 3 2 (encM D.str api_Note.enc) ve1 rfl ?_
    refine aR 3 ?_
    refine aE ?_
    refine gE hF fun h9 hF => ?_
    refine awp_region ?_
    refine aR 3 ?_
    refine aX (x_app api_Note.enc 4 h9) ?_
    refine aR 1 ?_
    refine aE ?_
    exact outP h8 hF0 (outCur (idM := 2) (me := vme) (cl := vcl) (rest := List.map (encM D.str api_Note.enc) vl2) (cur := some (vb1, (encM D.str api_Note.enc) ve1)) 3 <| oO hF [(4, 9005)] [] rfl)

def z231 (qo : Int) (qo1 : Int) (qo2 : Int) (qo3 : Int) (qm : List (List UInt8 × api_Note)) (qo4 : Int) (qat : Int) : Int ⊕ ((List (List UInt8 × api_Note)) × (List api_Note)) → TV × Mem
  | .inl vr1 => (.tup [.one (.nil), .one (.d (.int .i64 vr1))], ⟨[], [(0, [.d (.int .i64 qo), .d (.int .i64 qo1), .d (.int .i64 qo2), .d (.int .i64 qo3), .mapp 1, .d (.int .i64 qo4)]), (1, [.mapc .str true (List.map (encM D.str api_Note.enc) qm)])]⟩)
  | .inr (vm, vr2) => (.tup [.one (.own 3 none), .one (.d (.int .i64 0))], ⟨[(3, ⟨60, 9, List.map api_Note.enc vr2⟩)], [(0, [.d (.int .i64 qo), .d (.int .i64 qo1), .d (.int .i64 qo2), .d (.int .i64 qo3), .mapp 2, .d (.int .i64 qat)]), (1, [.mapc .str true (List.map (encM D.str api_Note.enc) qm)]), (2, [.mapc .str true (List.map (encM D.str api_Note.enc) vm)])]⟩)

theorem z232 {qo : Int} {qo1 : Int} {qo2 : Int} {qo3 : Int} {qm : List (List UInt8 × api_Note)} {qo4 : Int} {qat : Int} {r} (hF : z227 qo qo1 qo2 qo3 qm qo4 qat = some r) : Holds prog 22 [.v (.one (.box 0 0)), .v (.one (.d (.int .i64 qat)))] ⟨[], [(0, [.d (.int .i64 qo), .d (.int .i64 qo1), .d (.int .i64 qo2), .d (.int .i64 qo3), .mapp 1, .d (.int .i64 qo4)]), (1, [.mapc .str true (List.map (encM D.str api_Note.enc) qm)])]⟩ (Is (z231 qo qo1 qo2 qo3 qm qo4 qat r)) := by
  unfold z227 at hF
  refine holds_of_awp hΓ (fn := f22) (c := cB f22) (A := 2) (nx := 2) (by kernel_rfl) (by kernel_rfl) (by kernel_rfl) (by kernel_rfl) (by kernel_rfl) (by kernel_rfl) (lowc_of (by kernel_rfl)) ?_
  show Awp prog 2 38 (cB f22) _ _
  refine awp_seq ?_
  refine awp_region ?_
  refine aR 2 ?_
  refine aE ?_
  refine awp_seq ?_
  refine awp_seq ?_
  refine bE hF fun vr h1 hF => ?_
  refine awp_region ?_
  refine aR 2 ?_
  refine aC (z306 h1) [] [] [] ?_
  refine aR 1 ?_
  refine aE ?_
  refine awp_seq ?_
  refine awp_region ?_
  refine aR 2 ?_
  refine aE ?_
  refine cE hF (fun h2 hF => ?_) fun h2 hF => ?_
  · refine awp_true (by kernel_rfl) h2 ?_
    refine awp_seq ?_
    refine awp_region ?_
    refine aR 3 ?_
    refine aE ?_
    refine awp_ret ?_
    exact oF hF [] []
  · refine awp_false (by kernel_rfl) h2 ?_
    refine awp_skip ?_
    refine awp_seq ?_
    refine bE hF fun vm4 h3 hF => ?_
    refine bE hF fun _ h4 hF => ?_
    refine awp_region ?_
    refine aR 3 ?_
    refine aC (z282 h3) [] [] [] ?_
    refine aR 1 ?_
    refine aC (z303 h4) [(2, 11004)] [] [] ?_
    refine aE ?_
    refine awp_seq ?_
    refine awp_region ?_
    refine aR 1 ?_
    refine aE ?_
    refine awp_seq ?_
    refine awp_seq ?_
    refine awp_region ?_
    refine aR 4 ?_
    refine aRange (ka := .str) (va := true) 11004 (encM D.str api_Note.enc) vm4 rfl (fun vme vcl vhp => ?_)
    refine aE ?_
    refine awp_block ?_
    refine awp_to (st' := z234 qo qo1 qo2 qo3 qm qat vm4 vme vcl vhp vm4 []) (oT [(2, 11004), (3, 19002)] [4]) ?_
    refine rG (H := z234 qo qo1 qo2 qo3 qm qat vm4 vme vcl vhp) (k := z236) (S := z235 qo qo1 qo2 qo3 qm qat vm4 vme vcl vhp) hF (by intro x; exact fun h => nomatch h) (fun l s => z237 qo qo1 qo2 qo3 qm qat vm4 vme vcl vhp l s) (fun vout1_1 hF => ?_)
    refine awp_seq ?_
    refine bE hF fun vl3 h11 hF => ?_
    refine gE hF fun h12 hF => ?_
    refine awp_region ?_
    refine aR 1 ?_
    refine aCp (z664 h11) ⟨⟨rfl, rfl, pin1 h12⟩, trivial⟩ [(0, 3)] [] [] ?_
    refine aE ?_
    refine awp_seq ?_
    refine awp_region ?_
    refine aR 3 ?_
    refine aE ?_
    refine awp_ret ?_
    exact oF hF [] []

/-! ### beaconfleet/twin.CheckProps -/
def z1053 : Unit → AEx
  | _ => .exit 0

def z1052 : Unit → St
  | _ => Mem.st ⟨[], [(0, [.nil])]⟩ (tl [(1, .v (.one (.box 0 0)))]) 1

def z1051 : Unit → St
  | _ => Mem.st ⟨[], [(0, [.nil])]⟩ (tl [(1, .v (.one (.box 0 0))), (11, .v (.one (.nil))), (12, .v (.one (.d (.int .i64 0)))), (13, .v (.one (.d (.int .i64 0))))]) 1

theorem z1054 (s : Unit) (r : (Unit) ⊕ (Unit)) (hF : z1050  s = some r) : Awp prog 0 57 (cL (cL (cR (cL (cR (cR (cB f129))))))) (Out 0 (kk z1053) (SS (z1051 ) (z1052 )) r) (z1051  s) := by
  unfold z1050 at hF
  refine awp_seq ?_
  refine awp_region ?_
  refine aR 1 ?_
  refine aE ?_
  refine awp_seq ?_
  refine cE hF (fun h2 hF => ?_) fun h2 hF => ?_
  · refine awp_true (by kernel_rfl) h2 ?_
    refine awp_skip ?_
    refine awp_seq ?_
    refine awp_block ?_
    refine awp_seq ?_
    exact nE hF
  · refine awp_false (by kernel_rfl) h2 ?_
    refine awp_exit ?_
    exact oO hF [] [] rfl

def z1058 : Unit → AEx
  | _ => .exit 2

def z1057 : Unit → St
  | _ => Mem.st ⟨[], []⟩ (tl []) 0

def z1056 : Unit → St
  | _ => Mem.st ⟨[], [(0, [.nil])]⟩ (tl [(1, .v (.one (.box 0 0))), (46, .v (.one (.nil))), (47, .v (.one (.d (.int .i64 0)))), (48, .v (.one (.d (.int .i64 0))))]) 1

theorem z1059 (s : Unit) (r : (Unit) ⊕ (Unit)) (hF : z1055  s = some r) : Awp prog 0 57 (cL (cL (cR (cL (cR (cR (cR (cB f129)))))))) (Out 0 (kk z1058) (SS (z1056 ) (z1057 )) r) (z1056  s) := by
  unfold z1055 at hF
  refine awp_seq ?_
  refine awp_region ?_
  refine aR 1 ?_
  refine aE ?_
  refine awp_seq ?_
  refine cE hF (fun h5 hF => ?_) fun h5 hF => ?_
  · refine awp_true (by kernel_rfl) h5 ?_
    refine awp_skip ?_
    refine awp_seq ?_
    refine awp_block ?_
    refine awp_seq ?_
    exact nE hF
  · refine awp_false (by kernel_rfl) h5 ?_
    refine awp_exit ?_
    exact oO hF [] [] rfl

def z1048 (r : Int) : TV × Mem := (.v (.one (.d (.int .i64 r))), ⟨[], []⟩)

theorem z1049 {r} (hF : z1047 = some r) : Holds prog 129 [.v (.one (.nil))] ⟨[], []⟩ (Is (z1048  r)) := by
  unfold z1047 at hF
  refine holds_of_awp hΓ (fn := f129) (c := cB f129) (A := 0) (nx := 0) (by kernel_rfl) (by kernel_rfl) (by kernel_rfl) (by kernel_rfl) (by kernel_rfl) (by kernel_rfl) (lowc_of (by kernel_rfl)) ?_
  show Awp prog 0 57 (cB f129) _ _
  refine awp_seq ?_
  refine awp_region ?_
  refine aR 2 ?_
  refine aE ?_
  refine awp_seq ?_
  refine awp_seq ?_
  refine awp_region ?_
  refine aR 3 ?_
  refine aE ?_
  refine cE hF (fun h1 hF => ?_) fun h1 hF => ?_
  · refine awp_true (by kernel_rfl) h1 ?_
    refine awp_seq ?_
    refine awp_region ?_
    refine aR 1 ?_
    refine aE ?_
    refine awp_ret ?_
    exact oF hF [] []
  · refine awp_false (by kernel_rfl) h1 ?_
    refine awp_skip ?_
    refine awp_seq ?_
    refine awp_seq ?_
    refine awp_region ?_
    refine aR 3 ?_
    refine aE ?_
    refine awp_block ?_
    refine awp_to (st' := z1051  ()) (oT [] []) ?_
    refine bE hF fun _ h4 hF => ?_
    refine awp_sub (awp_loop' (z1051 ) z1053 (z1052 ) (by intro x; exact fun h => nomatch h) h4 (z1054 )) ?_
    refine awp_seq ?_
    refine awp_seq ?_
    refine awp_region ?_
    refine aR 3 ?_
    refine aE ?_
    refine awp_block ?_
    refine awp_to (st' := z1056  ()) (oT [] []) ?_
    refine bE hF fun _ h7 hF => ?_
    refine awp_sub (awp_loop' (z1056 ) z1058 (z1057 ) (by intro x; exact fun h => nomatch h) h7 (z1059 )) ?_
    refine awp_seq ?_
    refine awp_region ?_
    refine aR 1 ?_
    refine aE ?_
    refine awp_ret ?_
    exact oF hF [] []

/-! ### internal/stringslite.IndexByte -/
def z1030 (qs : List UInt8) (qc : Int) (r : Unit) : TV × Mem := (.v (.one (.d (.int .i64 (Lib.indexByte qs qc.toNat.toUInt8)))), ⟨[], []⟩)

theorem z1031 {qs : List UInt8} {qc : Int} {r} (hF : z1029 qs qc = some r) : Holds prog 315 [.v (.one (.d (.str qs))), .v (.one (.d (.int .u8 qc)))] ⟨[], []⟩ (Is (z1030 qs qc r)) := by
  unfold z1029 at hF
  refine holds_of_awp hΓ (fn := f315) (c := cB f315) (A := 0) (nx := 0) (by kernel_rfl) (by kernel_rfl) (by kernel_rfl) (by kernel_rfl) (by kernel_rfl) (by kernel_rfl) (lowc_of (by kernel_rfl)) ?_
  show Awp prog 0 8 (cB f315) _ _
  refine awp_seq ?_
  refine awp_region ?_
  refine aR 1 ?_
  refine aE ?_
  refine awp_seq ?_
  refine awp_region ?_
  refine aR 2 ?_
  refine aS (does_indexByte (g := 325) (fn := f325) (a := qs) (c := qc) rfl (by kernel_rfl) (by kernel_rfl) (by kernel_rfl) (by kernel_rfl) (by kernel_rfl) (by kernel_rfl)) ?_
  refine aR 1 ?_
  refine aE ?_
  refine awp_ret ?_
  exact oF hF [] []

/-! ### internal/stringslite.Index -/
def z1037 : Bool → AEx
  | _ => .normal

def z1036 (qx : List UInt8) (qx1 : List UInt8) : Bool → St
  | vx => Mem.st ⟨[], []⟩ (tl [(0, .v (.one (.d (.str qx)))), (1, .v (.one (.d (.str qx1)))), (5, .v (.one (.d (.int .i64 (qx1.length : Int))))), (16, .v (.one (.d (.bool vx))))]) 0

def z1035 (qx : List UInt8) (qx1 : List UInt8) : St := Mem.st ⟨[], []⟩ (tl [(0, .v (.one (.d (.str qx)))), (1, .v (.one (.d (.str qx1)))), (5, .v (.one (.d (.int .i64 (qx1.length : Int)))))]) 0

theorem z1038 (qx : List UInt8) (qx1 : List UInt8) {r} (hF : z1034 qx qx1 = some r) : Awp prog 0 143 (cL (cL (cL (cR (cR (cB f296)))))) (Out 0 z1037 (z1036 qx qx1) r) (z1035 qx qx1) := by
  unfold z1034 at hF
  refine cE hF (fun h1 hF => ?_) fun h1 hF => ?_
  · refine awp_region ?_
    refine aR 1 ?_
    refine aB h1 ?_
    refine aR 6 ?_
    refine aE ?_
    exact oO hF [] [] rfl
  · refine awp_region ?_
    refine aR 1 ?_
    refine aB h1 ?_
    refine aR 6 ?_
    refine aE ?_
    exact oO hF [] [] rfl

def z1032 (qx : List UInt8) (qx1 : List UInt8) (r : Int) : TV × Mem := (.v (.one (.d (.int .i64 r))), ⟨[], []⟩)

theorem z1033 {qx : List UInt8} {qx1 : List UInt8} {r} (hF : z1028 qx qx1 = some r) : Holds prog 296 [.v (.one (.d (.str qx))), .v (.one (.d (.str qx1)))] ⟨[], []⟩ (Is (z1032 qx qx1 r)) := by
  unfold z1028 at hF
  refine holds_of_awp hΓ (fn := f296) (c := cB f296) (A := 0) (nx := 0) (by kernel_rfl) (by kernel_rfl) (by kernel_rfl) (by kernel_rfl) (by kernel_rfl) (by kernel_rfl) (lowc_of (by kernel_rfl)) ?_
  show Awp prog 0 143 (cB f296) _ _
  refine awp_seq ?_
  refine awp_region ?_
  refine aR 1 ?_
  refine aE ?_
  refine awp_seq ?_
  refine awp_region ?_
  refine aR 3 ?_
  refine aE ?_
  refine awp_seq ?_
  refine awp_block ?_
  refine awp_seq ?_
  refine awp_to (st' := z1035 qx qx1) (oT [] []) ?_
  refine bE hF fun vx1 h2 hF => ?_
  refine awp_sub (z1038 qx qx1 h2) ?_
  refine cE hF (fun h3 hF => ?_) fun h3 hF => ?_
  · refine awp_true (by kernel_rfl) h3 ?_
    refine awp_seq ?_
    refine awp_region ?_
    refine aR 1 ?_
    refine aE ?_
    refine awp_ret ?_
    exact oF hF [] []
  · refine awp_false (by kernel_rfl) h3 ?_
    refine awp_seq ?_
    refine awp_region ?_
    refine aR 3 ?_
    refine aE ?_
    refine cE hF (fun h4 hF => ?_) fun h4 hF => ?_
    · refine awp_true (by kernel_rfl) h4 ?_
      refine awp_seq ?_
      refine bE hF fun vc h5 hF => ?_
      refine bE hF fun _ h6 hF => ?_
      refine awp_region ?_
      refine aR 2 ?_
      refine aX (x_idxS h5) ?_
      refine aC (z1031 h6) [] [] [] ?_
      refine aR 1 ?_
      refine aE ?_
      refine awp_ret ?_
      exact oF hF [] []
    · refine awp_false (by kernel_rfl) h4 ?_
      refine awp_seq ?_
      refine awp_region ?_
      refine aR 5 ?_
      refine aE ?_
      refine cE hF (fun h7 hF => ?_) fun h7 hF => ?_
      · refine awp_true (by kernel_rfl) h7 ?_
        refine awp_seq ?_
        refine awp_region ?_
        refine aR 1 ?_
        refine aE ?_
        refine awp_ret ?_
        exact oF hF [] []
      · refine awp_false (by kernel_rfl) h7 ?_
        refine awp_seq ?_
        exact nE hF

/-! ### internal/stringslite.Cut -/
def z1018 (qs : List UInt8) (qsep : List UInt8) (r : (List UInt8) × (List UInt8) × Bool) : TV × Mem := (.tup [.one (.d (.str r.1)), .one (.d (.str r.2.1)), .one (.d (.bool r.2.2))], ⟨[], []⟩)

theorem z1019 {qs : List UInt8} {qsep : List UInt8} {r} (hF : z1017 qs qsep = some r) : Holds prog 280 [.v (.one (.d (.str qs))), .v (.one (.d (.str qsep)))] ⟨[], []⟩ (Is (z1018 qs qsep r)) := by
  unfold z1017 at hF
  refine holds_of_awp hΓ (fn := f280) (c := cB f280) (A := 0) (nx := 0) (by kernel_rfl) (by kernel_rfl) (by kernel_rfl) (by kernel_rfl) (by kernel_rfl) (by kernel_rfl) (lowc_of (by kernel_rfl)) ?_
  show Awp prog 0 23 (cB f280) _ _
  refine awp_seq ?_
  refine awp_region ?_
  refine aR 3 ?_
  refine aE ?_
  refine awp_seq ?_
  refine awp_seq ?_
  refine bE hF fun vr h1 hF => ?_
  refine awp_region ?_
  refine aR 2 ?_
  refine aC (z1033 h1) [] [] [] ?_
  refine aR 1 ?_
  refine aE ?_
  refine awp_seq ?_
  refine awp_region ?_
  refine aR 2 ?_
  refine aE ?_
  refine cE hF (fun h2 hF => ?_) fun h2 hF => ?_
  · refine awp_true (by kernel_rfl) h2 ?_
    refine awp_seq ?_
    refine bE hF fun vs h3 hF => ?_
    refine bE hF fun vs1 h4 hF => ?_
    refine aD ?_
    refine dR 2 ?_
    refine dX (x_sliceS h3) ?_
    refine dR 5 ?_
    refine dX (x_sliceS h4) ?_
    refine dR 3 ?_
    refine dE ?_
    refine awp_ret ?_
    exact oF hF [] []
  · refine awp_false (by kernel_rfl) h2 ?_
    refine awp_skip ?_
    refine awp_seq ?_
    refine awp_region ?_
    refine aR 4 ?_
    refine aE ?_
    refine awp_ret ?_
    exact oF hF [] []

/-! ### strings.Cut -/
def z970 (qs : List UInt8) (qsep : List UInt8) (r : (List UInt8) × (List UInt8) × Bool) : TV × Mem := (.tup [.one (.d (.str r.1)), .one (.d (.str r.2.1)), .one (.d (.bool r.2.2))], ⟨[], []⟩)

theorem z971 {qs : List UInt8} {qsep : List UInt8} {r} (hF : z969 qs qsep = some r) : Holds prog 248 [.v (.one (.d (.str qs))), .v (.one (.d (.str qsep)))] ⟨[], []⟩ (Is (z970 qs qsep r)) := by
  unfold z969 at hF
  refine holds_of_awp hΓ (fn := f248) (c := cB f248) (A := 0) (nx := 0) (by kernel_rfl) (by kernel_rfl) (by kernel_rfl) (by kernel_rfl) (by kernel_rfl) (by kernel_rfl) (lowc_of (by kernel_rfl)) ?_
  show Awp prog 0 13 (cB f248) _ _
  refine awp_seq ?_
  refine awp_region ?_
  refine aR 3 ?_
  refine aE ?_
  refine awp_seq ?_
  refine bE hF fun x h1 hF => ?_
  obtain ⟨vr1, vr2, vr3⟩ := x
  refine awp_region ?_
  refine aR 2 ?_
  refine aC (z1019 h1) [] [] [] ?_
  refine aR 6 ?_
  refine aE ?_
  refine awp_ret ?_
  exact oF hF [] []

/-! ### beaconfleet/base.Dotted -/
def z14 : Unit ⊕ Bool → AEx
  | .inl _ => .exit 0
  | .inr _ => .ret

def z13 (qmost : Int) : Unit ⊕ Bool → St
  | .inl _ => Mem.st ⟨[], []⟩ (tl []) 0
  | .inr vx => Mem.st ⟨[], []⟩ (tl [(4, .v (.one (.d (.bool vx))))]) 0

def z11 (qmost : Int) : (List UInt8) × Int → St
  | (vs, vn) => Mem.st ⟨[], []⟩ (tl [(0, .v (.one (.d (.str vs)))), (1, .v (.one (.d (.int .i64 qmost)))), (5, .v (.one (.d (.int .i64 vn))))]) 0

theorem z15 (qmost : Int) (s : (List UInt8) × Int) (r : ((List UInt8) × Int) ⊕ (Unit ⊕ Bool)) (hF : z10 qmost s = some r) : Awp prog 0 26 (cL (cL (cR (cL (cR (cB f182)))))) (Out 0 (kk z14) (SS (z11 qmost) (z13 qmost)) r) (z11 qmost s) := by
  obtain ⟨vs, vn⟩ := s
  unfold z10 at hF
  refine awp_seq ?_
  refine awp_seq ?_
  refine awp_region ?_
  refine aR 3 ?_
  refine aE ?_
  refine cE hF (fun h1 hF => ?_) fun h1 hF => ?_
  · refine awp_true (by kernel_rfl) h1 ?_
    refine awp_skip ?_
    refine awp_seq ?_
    refine awp_block ?_
    refine awp_seq ?_
    refine bE hF fun x h2 hF => ?_
    obtain ⟨vr2, vr4_1, vr5_1⟩ := x
    refine awp_region ?_
    refine aR 1 ?_
    refine aC (z971 h2) [] [] [] ?_
    refine aR 7 ?_
    refine aE ?_
    refine awp_seq ?_
    refine awp_seq ?_
    refine bE hF fun vr3 h3 hF => ?_
    refine awp_region ?_
    refine aR 1 ?_
    refine aC (z25 h3) [] [] [] ?_
    refine aR 1 ?_
    refine aE ?_
    refine cE hF (fun h4 hF => ?_) fun h4 hF => ?_
    · refine awp_true (by kernel_rfl) h4 ?_
      refine awp_seq ?_
      refine awp_region ?_
      refine aR 1 ?_
      refine aE ?_
      refine awp_ret ?_
      exact oO hF [] [] rfl
    · refine awp_false (by kernel_rfl) h4 ?_
      refine awp_skip ?_
      refine awp_seq ?_
      refine awp_seq ?_
      refine awp_region ?_
      refine aR 2 ?_
      refine aE ?_
      refine cE hF (fun h5 hF => ?_) fun h5 hF => ?_
      · refine awp_true (by kernel_rfl) h5 ?_
        refine awp_seq ?_
        refine awp_region ?_
        refine aR 1 ?_
        refine aE ?_
        refine awp_ret ?_
        exact oO hF [] [] rfl
      · refine awp_false (by kernel_rfl) h5 ?_
        refine awp_skip ?_
        refine awp_region ?_
        refine aR 2 ?_
        refine aE ?_
        refine awp_region ?_
        refine aR 3 ?_
        refine aE ?_
        exact oO hF [] [] rfl
  · refine awp_false (by kernel_rfl) h1 ?_
    refine awp_exit ?_
    exact oO hF [] [] rfl

def z7 (qs : List UInt8) (qmost : Int) (r : Bool) : TV × Mem := (.v (.one (.d (.bool r))), ⟨[], []⟩)

theorem z8 {qs : List UInt8} {qmost : Int} {r} (hF : z6 qs qmost = some r) : Holds prog 182 [.v (.one (.d (.str qs))), .v (.one (.d (.int .i64 qmost)))] ⟨[], []⟩ (Is (z7 qs qmost r)) := by
  unfold z6 at hF
  refine holds_of_awp hΓ (fn := f182) (c := cB f182) (A := 0) (nx := 0) (by kernel_rfl) (by kernel_rfl) (by kernel_rfl) (by kernel_rfl) (by kernel_rfl) (by kernel_rfl) (lowc_of (by kernel_rfl)) ?_
  show Awp prog 0 26 (cB f182) _ _
  refine awp_seq ?_
  refine awp_region ?_
  refine aR 1 ?_
  refine aE ?_
  refine awp_seq ?_
  refine awp_seq ?_
  refine awp_region ?_
  refine aR 1 ?_
  refine aE ?_
  refine awp_block ?_
  refine awp_to (st' := z11 qmost (qs, 0)) (oT [] []) ?_
  refine bE hF fun x h6 hF => ?_
  rcases x with _ | vx1
  · refine awp_sub (awp_loop' (z11 qmost) z14 (z13 qmost) (by intro x; rcases x with x | x <;> exact fun h => nomatch h) h6 (z15 qmost)) ?_
    refine awp_seq ?_
    refine awp_region ?_
    refine aR 1 ?_
    refine aE ?_
    refine awp_ret ?_
    exact oF hF [] []
  · refine awp_sub (awp_loop' (z11 qmost) z14 (z13 qmost) (by intro x; rcases x with x | x <;> exact fun h => nomatch h) h6 (z15 qmost)) ?_
    exact oF hF [] []

/-! ### beaconfleet/twin.isName -/
def z1111 (qs : List UInt8) (r : Bool) : TV × Mem := (.v (.one (.d (.bool r))), ⟨[], []⟩)

theorem z1112 {qs : List UInt8} {r} (hF : z1110 qs = some r) : Holds prog 130 [.v (.one (.d (.str qs)))] ⟨[], []⟩ (Is (z1111 qs r)) := by
  unfold z1110 at hF
  refine holds_of_awp hΓ (fn := f130) (c := cB f130) (A := 0) (nx := 0) (by kernel_rfl) (by kernel_rfl) (by kernel_rfl) (by kernel_rfl) (by kernel_rfl) (by kernel_rfl) (lowc_of (by kernel_rfl)) ?_
  show Awp prog 0 5 (cB f130) _ _
  refine awp_seq ?_
  refine awp_region ?_
  refine aR 1 ?_
  refine aE ?_
  refine awp_seq ?_
  refine bE hF fun vr6 h1 hF => ?_
  refine awp_region ?_
  refine aR 1 ?_
  refine aC (z8 h1) [] [] [] ?_
  refine aR 1 ?_
  refine aE ?_
  refine awp_ret ?_
  exact oF hF [] []

/-! ### beaconfleet/twin.valueFault -/
def z1132 : api_Value ⊕ Unit → AEx
  | .inl _ => .normal
  | .inr _ => .ret

def z1131 (qv : api_Value) : api_Value ⊕ Unit → St
  | .inl vused => Mem.st ⟨[], [(0, [.d (.int .i64 qv.Kind), .d (.bool qv.Flag), .d (.int .i64 qv.Number), .d (.str qv.Words)]), (1, [.d (.int .i64 vused.Kind), .d (.bool vused.Flag), .d (.int .i64 vused.Number), .d (.str vused.Words)])]⟩ (tl [(1, .v (.one (.box 0 0))), (3, .v (.one (.box 1 0)))]) 2
  | .inr _ => Mem.st ⟨[], []⟩ (tl [(2, .v (.one (.d (.int .i64 4))))]) 0

def z1130 (qv : api_Value) : St := Mem.st ⟨[], [(0, [.d (.int .i64 qv.Kind), .d (.bool qv.Flag), .d (.int .i64 qv.Number), .d (.str qv.Words)]), (1, [.d (.int .i64 qv.Kind), .d (.bool false), .d (.int .i64 0), .d (.str ([] : List UInt8))])]⟩ (tl [(1, .v (.one (.box 0 0))), (3, .v (.one (.box 1 0)))]) 2

theorem z1133 (qv : api_Value) {r} (hF : z1129 qv = some r) : Awp prog 0 44 (cL (cR (cR (cB f174)))) (Out 0 z1132 (z1131 qv) r) (z1130 qv) := by
  unfold z1129 at hF
  refine awp_seq ?_
  refine awp_region ?_
  refine aR 2 ?_
  refine aE ?_
  refine awp_block ?_
  refine awp_seq ?_
  refine awp_region ?_
  refine aR 2 ?_
  refine aE ?_
  refine cE hF (fun h1 hF => ?_) fun h1 hF => ?_
  · refine awp_true (by kernel_rfl) h1 ?_
    refine awp_skip ?_
    exact oO hF [] [] rfl
  · refine awp_false (by kernel_rfl) h1 ?_
    refine awp_seq ?_
    refine awp_region ?_
    refine aR 2 ?_
    refine aE ?_
    refine cE hF (fun h2 hF => ?_) fun h2 hF => ?_
    · refine awp_true (by kernel_rfl) h2 ?_
      refine awp_region ?_
      refine aR 4 ?_
      refine aE ?_
      exact oO hF [] [] rfl
    · refine awp_false (by kernel_rfl) h2 ?_
      refine awp_seq ?_
      refine awp_region ?_
      refine aR 2 ?_
      refine aE ?_
      refine cE hF (fun h3 hF => ?_) fun h3 hF => ?_
      · refine awp_true (by kernel_rfl) h3 ?_
        refine awp_region ?_
        refine aR 4 ?_
        refine aE ?_
        exact oO hF [] [] rfl
      · refine awp_false (by kernel_rfl) h3 ?_
        refine awp_seq ?_
        refine awp_region ?_
        refine aR 2 ?_
        refine aE ?_
        refine cE hF (fun h4 hF => ?_) fun h4 hF => ?_
        · refine awp_true (by kernel_rfl) h4 ?_
          refine awp_region ?_
          refine aR 4 ?_
          refine aE ?_
          exact oO hF [] [] rfl
        · refine awp_false (by kernel_rfl) h4 ?_
          refine awp_seq ?_
          refine awp_region ?_
          refine aR 1 ?_
          refine aE ?_
          refine awp_ret ?_
          exact oO hF [] [] rfl

def z1127 (qv : api_Value) (r : Int) : TV × Mem := (.v (.one (.d (.int .i64 r))), ⟨[], []⟩)

theorem z1128 {qv : api_Value} {r} (hF : z1126 qv = some r) : Holds prog 174 [.v (.agg [.d (.int .i64 qv.Kind), .d (.bool qv.Flag), .d (.int .i64 qv.Number), .d (.str qv.Words)])] ⟨[], []⟩ (Is (z1127 qv r)) := by
  unfold z1126 at hF
  refine holds_of_awp hΓ (fn := f174) (c := cB f174) (A := 0) (nx := 0) (by kernel_rfl) (by kernel_rfl) (by kernel_rfl) (by kernel_rfl) (by kernel_rfl) (by kernel_rfl) (lowc_of (by kernel_rfl)) ?_
  show Awp prog 0 44 (cB f174) _ _
  refine awp_seq ?_
  refine awp_region ?_
  refine aR 2 ?_
  refine aE ?_
  refine awp_seq ?_
  refine awp_region ?_
  refine aR 5 ?_
  refine aE ?_
  refine awp_seq ?_
  refine awp_to (st' := z1130 qv) (oT [(1, 5000)] []) ?_
  refine bE hF fun x h5 hF => ?_
  rcases x with vused1 | _
  · refine awp_sub (z1133 qv h5) ?_
    refine awp_seq ?_
    refine awp_block ?_
    refine awp_seq ?_
    refine awp_region ?_
    refine aR 2 ?_
    refine aS (does_eqS (op := .neq) (xs := [.int .i64 qv.Kind, .bool qv.Flag, .int .i64 qv.Number, .str qv.Words]) (ys := [.int .i64 vused1.Kind, .bool vused1.Flag, .int .i64 vused1.Number, .str vused1.Words]) (b := (decide (qv.Kind = vused1.Kind) && ((qv.Flag == vused1.Flag) && (decide (qv.Number = vused1.Number) && (decide (qv.Words = vused1.Words) && true))))) (c := (!(decide (qv.Kind = vused1.Kind) && ((qv.Flag == vused1.Flag) && (decide (qv.Number = vused1.Number) && (decide (qv.Words = vused1.Words) && true)))))) rfl (.inr ⟨rfl, rfl⟩) (by kernel_rfl) (by kernel_rfl) (by kernel_rfl) (by kernel_rfl) (by kernel_rfl) (by kernel_rfl)) ?_
    refine aR 1 ?_
    refine aE ?_
    refine cE hF (fun h6 hF => ?_) fun h6 hF => ?_
    · refine awp_true (by kernel_rfl) h6 ?_
      refine awp_seq ?_
      refine awp_region ?_
      refine aR 1 ?_
      refine aE ?_
      refine awp_ret ?_
      exact oF hF [] []
    · refine awp_false (by kernel_rfl) h6 ?_
      refine awp_seq ?_
      refine bE hF fun vr h7 hF => ?_
      refine awp_region ?_
      refine aR 2 ?_
      refine aC (z73 h7) [] [] [] ?_
      refine aR 1 ?_
      refine aE ?_
      refine cE hF (fun h8 hF => ?_) fun h8 hF => ?_
      · refine awp_true (by kernel_rfl) h8 ?_
        refine awp_seq ?_
        refine awp_region ?_
        refine aR 1 ?_
        refine aE ?_
        refine awp_ret ?_
        exact oF hF [] []
      · refine awp_false (by kernel_rfl) h8 ?_
        refine awp_seq ?_
        refine awp_region ?_
        refine aR 5 ?_
        refine aE ?_
        refine cE hF (fun h9 hF => ?_) fun h9 hF => ?_
        · refine awp_true (by kernel_rfl) h9 ?_
          refine awp_seq ?_
          refine awp_region ?_
          refine aR 1 ?_
          refine aE ?_
          refine awp_ret ?_
          exact oF hF [] []
        · refine awp_false (by kernel_rfl) h9 ?_
          refine awp_seq ?_
          refine bE hF fun vr1 h10 hF => ?_
          refine awp_region ?_
          refine aR 2 ?_
          refine aC (z81 h10) [] [] [] ?_
          refine aR 2 ?_
          refine aE ?_
          refine cE hF (fun h11 hF => ?_) fun h11 hF => ?_
          · refine awp_true (by kernel_rfl) h11 ?_
            refine awp_seq ?_
            refine awp_region ?_
            refine aR 1 ?_
            refine aE ?_
            refine awp_ret ?_
            exact oF hF [] []
          · refine awp_false (by kernel_rfl) h11 ?_
            refine awp_skip ?_
            refine awp_seq ?_
            refine awp_region ?_
            refine aR 1 ?_
            refine aE ?_
            refine awp_ret ?_
            exact oF hF [] []
  · refine awp_sub (z1133 qv h5) ?_
    exact oF hF [] []

/-! ### beaconfleet/twin.find$1 -/
def z1103 (qp : api_Prop) (qname : List UInt8) (r : Unit) : TV × Mem := (.v (.one (.d (.int .i64 (Lib.compareBytes qp.Name qname)))), ⟨[], []⟩)

theorem z1104 {qp : api_Prop} {qname : List UInt8} {r} (hF : z1102 qp qname = some r) : Holds prog 247 [.v (.agg [.d (.str qp.Name), .d (.int .i64 qp.Value.Kind), .d (.bool qp.Value.Flag), .d (.int .i64 qp.Value.Number), .d (.str qp.Value.Words)]), .v (.one (.d (.str qname)))] ⟨[], []⟩ (Is (z1103 qp qname r)) := by
  unfold z1102 at hF
  refine holds_of_awp hΓ (fn := f247) (c := cB f247) (A := 0) (nx := 0) (by kernel_rfl) (by kernel_rfl) (by kernel_rfl) (by kernel_rfl) (by kernel_rfl) (by kernel_rfl) (lowc_of (by kernel_rfl)) ?_
  show Awp prog 0 9 (cB f247) _ _
  refine awp_seq ?_
  refine awp_region ?_
  refine aR 2 ?_
  refine aE ?_
  refine awp_seq ?_
  refine bE hF fun _ h1 hF => ?_
  refine awp_region ?_
  refine aR 3 ?_
  refine aC (z960 h1) [] [] [] ?_
  refine aR 1 ?_
  refine aE ?_
  refine awp_ret ?_
  exact oF hF [] []

/-! ### slices.BinarySearchFunc[[]beaconfleet/api.Prop,beaconfleet/api.Prop,string] -/
def z571 : Int → AEx
  | _ => .exit 0

def z570 (qx : List api_Prop) (qtarget : List UInt8) : Int → St
  | vi1 => Mem.st ⟨[], []⟩ (tl [(0, .v (.one (.d (.lst (List.map api_Prop.enc qx))))), (1, .v (.one (.d (.str qtarget)))), (2, .v (.one (.fn 247 []))), (8, .v (.one (.d (.int .i64 (qx.length : Int))))), (9, .v (.one (.d (.int .i64 vi1))))]) 0

def z569 (qx : List api_Prop) (qtarget : List UInt8) : Int × Int → St
  | (vi, vj) => Mem.st ⟨[], []⟩ (tl [(0, .v (.one (.d (.lst (List.map api_Prop.enc qx))))), (1, .v (.one (.d (.str qtarget)))), (2, .v (.one (.fn 247 []))), (8, .v (.one (.d (.int .i64 (qx.length : Int))))), (9, .v (.one (.d (.int .i64 vi)))), (10, .v (.one (.d (.int .i64 vj))))]) 0

theorem z572 (qx : List api_Prop) (qtarget : List UInt8) (s : Int × Int) (r : (Int × Int) ⊕ (Int)) (hF : z568 qx qtarget s = some r) : Awp prog 0 49 (cL (cL (cL (cR (cR (cR (cB f246))))))) (Out 0 (kk z571) (SS (z569 qx qtarget) (z570 qx qtarget)) r) (z569 qx qtarget s) := by
  obtain ⟨vi, vj⟩ := s
  unfold z568 at hF
  refine awp_seq ?_
  refine awp_seq ?_
  refine awp_region ?_
  refine aR 3 ?_
  refine aE ?_
  refine cE hF (fun h1 hF => ?_) fun h1 hF => ?_
  · refine awp_true (by kernel_rfl) h1 ?_
    refine awp_skip ?_
    refine awp_block ?_
    refine awp_seq ?_
    refine awp_region ?_
    refine aR 7 ?_
    refine aE ?_
    refine awp_seq ?_
    refine bE hF fun vy1 h2 hF => ?_
    refine bE hF fun _ h3 hF => ?_
    refine awp_region ?_
    refine aR 3 ?_
    refine aX (x_idx api_Prop.enc h2) ?_
    refine aR 2 ?_
    refine aC (z1104 h3) [] [] [] ?_
    refine aR 1 ?_
    refine aE ?_
    refine cE hF (fun h4 hF => ?_) fun h4 hF => ?_
    · refine awp_true (by kernel_rfl) h4 ?_
      refine awp_region ?_
      refine aR 3 ?_
      refine aE ?_
      exact oO hF [] [] rfl
    · refine awp_false (by kernel_rfl) h4 ?_
      refine awp_region ?_
      refine aR 2 ?_
      refine aE ?_
      exact oO hF [] [] rfl
  · refine awp_false (by kernel_rfl) h1 ?_
    refine awp_exit ?_
    exact oO hF [] [] rfl

def z576 : Bool → AEx
  | _ => .normal

def z575 (qx : List api_Prop) (qtarget : List UInt8) (vi1_1 : Int) : Bool → St
  | vx => Mem.st ⟨[], []⟩ (tl [(6, .v (.one (.d (.int .i64 vi1_1)))), (7, .v (.one (.d (.bool vx))))]) 0

def z574 (qx : List api_Prop) (qtarget : List UInt8) (vi1_1 : Int) : St := Mem.st ⟨[], []⟩ (tl [(0, .v (.one (.d (.lst (List.map api_Prop.enc qx))))), (1, .v (.one (.d (.str qtarget)))), (2, .v (.one (.fn 247 []))), (8, .v (.one (.d (.int .i64 (qx.length : Int))))), (9, .v (.one (.d (.int .i64 vi1_1))))]) 0

theorem z577 (qx : List api_Prop) (qtarget : List UInt8) (vi1_1 : Int) {r} (hF : z573 qx qtarget vi1_1 = some r) : Awp prog 0 49 (cL (cR (cR (cR (cR (cB f246)))))) (Out 0 z576 (z575 qx qtarget vi1_1) r) (z574 qx qtarget vi1_1) := by
  unfold z573 at hF
  refine cE hF (fun h6 hF => ?_) fun h6 hF => ?_
  · refine bE hF fun vy2 h7 hF => ?_
    refine bE hF fun _ h8 hF => ?_
    refine awp_region ?_
    refine aR 3 ?_
    refine aB h6 ?_
    refine aR 4 ?_
    refine aX (x_idx api_Prop.enc h7) ?_
    refine aR 2 ?_
    refine aC (z1104 h8) [] [] [] ?_
    refine aR 4 ?_
    refine aE ?_
    exact oO hF [] [] rfl
  · refine awp_region ?_
    refine aR 3 ?_
    refine aB h6 ?_
    refine aR 12 ?_
    refine aE ?_
    exact oO hF [] [] rfl

def z566 (qx : List api_Prop) (qtarget : List UInt8) (r : Int × Bool) : TV × Mem := (.tup [.one (.d (.int .i64 r.1)), .one (.d (.bool r.2))], ⟨[], []⟩)

theorem z567 {qx : List api_Prop} {qtarget : List UInt8} {r} (hF : z565 qx qtarget = some r) : Holds prog 246 [.v (.one (.d (.lst (List.map api_Prop.enc qx)))), .v (.one (.d (.str qtarget))), .v (.one (.fn 247 []))] ⟨[], []⟩ (Is (z566 qx qtarget r)) := by
  unfold z565 at hF
  refine holds_of_awp hΓ (fn := f246) (c := cB f246) (A := 0) (nx := 0) (by kernel_rfl) (by kernel_rfl) (by kernel_rfl) (by kernel_rfl) (by kernel_rfl) (by kernel_rfl) (lowc_of (by kernel_rfl)) ?_
  show Awp prog 0 49 (cB f246) _ _
  refine awp_seq ?_
  refine awp_region ?_
  refine aR 2 ?_
  refine aE ?_
  refine awp_seq ?_
  refine awp_region ?_
  refine aR 1 ?_
  refine aL api_Prop.enc qx ?_
  refine aR 1 ?_
  refine aE ?_
  refine awp_seq ?_
  refine awp_region ?_
  refine aR 3 ?_
  refine aE ?_
  refine awp_seq ?_
  refine awp_block ?_
  refine awp_to (st' := z569 qx qtarget (0, (qx.length : Int))) (oT [] []) ?_
  refine bE hF fun vi1_1 h5 hF => ?_
  refine awp_sub (awp_loop' (z569 qx qtarget) z571 (z570 qx qtarget) (by intro x; exact fun h => nomatch h) h5 (z572 qx qtarget)) ?_
  refine awp_seq ?_
  refine awp_to (st' := z574 qx qtarget vi1_1) (oT [] []) ?_
  refine bE hF fun vx1 h9 hF => ?_
  refine awp_sub (z577 qx qtarget vi1_1 h9) ?_
  refine awp_ret ?_
  exact oF hF [] []

/-! ### beaconfleet/twin.find -/
def z1105 (ql : List api_Prop) (qname : List UInt8) (r : Int) : TV × Mem := (.v (.one (.d (.int .i64 r))), ⟨[], []⟩)

theorem z1109 {ql : List api_Prop} {qname : List UInt8} {r} (hF : twin_find ql qname = some r) : Holds prog 181 [.v (.one (.d (.lst (List.map api_Prop.enc ql)))), .v (.one (.d (.str qname)))] ⟨[], []⟩ (Is (z1105 ql qname r)) := by
  unfold twin_find at hF
  refine holds_of_awp hΓ (fn := f181) (c := cB f181) (A := 0) (nx := 0) (by kernel_rfl) (by kernel_rfl) (by kernel_rfl) (by kernel_rfl) (by kernel_rfl) (by kernel_rfl) (lowc_of (by kernel_rfl)) ?_
  show Awp prog 0 16 (cB f181) _ _
  refine awp_seq ?_
  refine awp_region ?_
  refine aR 1 ?_
  refine aE ?_
  refine awp_seq ?_
  refine bE hF fun x h1 hF => ?_
  obtain ⟨vr, vr1⟩ := x
  refine awp_region ?_
  refine aR 2 ?_
  refine aC (z567 h1) [] [] [] ?_
  refine aR 5 ?_
  refine aE ?_
  refine awp_seq ?_
  refine awp_seq ?_
  refine awp_region ?_
  refine aR 2 ?_
  refine aE ?_
  refine cE hF (fun h2 hF => ?_) fun h2 hF => ?_
  · refine awp_true (by kernel_rfl) h2 ?_
    refine awp_seq ?_
    refine awp_region ?_
    refine aR 1 ?_
    refine aE ?_
    refine awp_ret ?_
    exact oF hF [] []
  · refine awp_false (by kernel_rfl) h2 ?_
    refine awp_skip ?_
    refine awp_seq ?_
    refine awp_region ?_
    refine aR 2 ?_
    refine aE ?_
    refine awp_ret ?_
    exact oF hF [] []

/-! ### beaconfleet/twin.CheckProps$1 -/
def z1044 (qs : List UInt8) (qx : List api_Prop) (r : Bool) : TV × Mem := (.v (.one (.d (.bool r))), ⟨[], [(0, [.d (.lst (List.map api_Prop.enc qx))])]⟩)

theorem z1045 {qs : List UInt8} {qx : List api_Prop} {r} (hF : z1043 qs qx = some r) : Holds prog 180 [.v (.one (.d (.str qs))), .v (.one (.box 0 0))] ⟨[], [(0, [.d (.lst (List.map api_Prop.enc qx))])]⟩ (Is (z1044 qs qx r)) := by
  unfold z1043 at hF
  refine holds_of_awp hΓ (fn := f180) (c := cB f180) (A := 1) (nx := 1) (by kernel_rfl) (by kernel_rfl) (by kernel_rfl) (by kernel_rfl) (by kernel_rfl) (by kernel_rfl) (lowc_of (by kernel_rfl)) ?_
  show Awp prog 1 8 (cB f180) _ _
  refine awp_seq ?_
  refine awp_region ?_
  refine aR 1 ?_
  refine aE ?_
  refine awp_seq ?_
  refine bE hF fun vr2 h1 hF => ?_
  refine awp_region ?_
  refine aR 2 ?_
  refine aC (z1109 h1) [] [] [] ?_
  refine aR 2 ?_
  refine aE ?_
  refine awp_ret ?_
  exact oF hF [] []

/-! ### beaconfleet/twin.above -/
def z1100 : Bool → AEx
  | _ => .normal

def z1099 (qname : List UInt8) (qf : List api_Prop) (vx : Int) : Bool → St
  | vx2 => Mem.st ⟨[], [(0, [.d (.lst (List.map api_Prop.enc qf))])]⟩ (tl [(0, .v (.one (.d (.str qname)))), (1, .v (.one (.fn 180 [0]))), (7, .v (.one (.d (.int .i64 (qname.length : Int))))), (8, .v (.one (.d (.int .i64 vx)))), (21, .v (.one (.d (.bool vx2))))]) 1

def z1098 (qname : List UInt8) (qf : List api_Prop) (vx : Int) : St := Mem.st ⟨[], [(0, [.d (.lst (List.map api_Prop.enc qf))])]⟩ (tl [(0, .v (.one (.d (.str qname)))), (1, .v (.one (.fn 180 [0]))), (5, .v (.one (.d (.int .i64 vx)))), (7, .v (.one (.d (.int .i64 (qname.length : Int))))), (8, .v (.one (.d (.int .i64 vx))))]) 1

theorem z1101 (qname : List UInt8) (qf : List api_Prop) (vx : Int) {r} (hF : z1097 qname qf vx = some r) : Awp prog 1 23 (cL (cR (cL (cL (cR (cR (cL (cL (cR (cL (cR (cB f179)))))))))))) (Out 1 z1100 (z1099 qname qf vx) r) (z1098 qname qf vx) := by
  unfold z1097 at hF
  refine bE hF fun vc1 h2 hF => ?_
  refine cE hF (fun h3 hF => ?_) fun h3 hF => ?_
  · refine bE hF fun vs1 h4 hF => ?_
    refine bE hF fun vr1 h5 hF => ?_
    refine awp_region ?_
    refine aR 2 ?_
    refine aX (x_idxS h2) ?_
    refine aB h3 ?_
    refine aR 4 ?_
    refine aX (x_sliceS h4) ?_
    refine aC (z1045 h5) [] [] [] ?_
    refine aR 1 ?_
    refine aE ?_
    exact oO hF [] [] rfl
  · refine awp_region ?_
    refine aR 2 ?_
    refine aX (x_idxS h2) ?_
    refine aB h3 ?_
    refine aR 7 ?_
    refine aE ?_
    exact oO hF [] [] rfl

def z1095 : Unit ⊕ Unit → AEx
  | .inl _ => .exit 0
  | .inr _ => .ret

def z1094 (qname : List UInt8) (qf : List api_Prop) : Unit ⊕ Unit → St
  | .inl _ => Mem.st ⟨[], [(0, [.d (.lst (List.map api_Prop.enc qf))])]⟩ (tl []) 1
  | .inr _ => Mem.st ⟨[], [(0, [.d (.lst (List.map api_Prop.enc qf))])]⟩ (tl [(4, .v (.one (.d (.bool true))))]) 1

def z1093 (qname : List UInt8) (qf : List api_Prop) : Int → St
  | vx => Mem.st ⟨[], [(0, [.d (.lst (List.map api_Prop.enc qf))])]⟩ (tl [(0, .v (.one (.d (.str qname)))), (1, .v (.one (.fn 180 [0]))), (7, .v (.one (.d (.int .i64 (qname.length : Int))))), (8, .v (.one (.d (.int .i64 vx))))]) 1

theorem z1096 (qname : List UInt8) (qf : List api_Prop) (vx : Int) (r : (Int) ⊕ (Unit ⊕ Unit)) (hF : z1092 qname qf vx = some r) : Awp prog 1 23 (cL (cL (cR (cL (cR (cB f179)))))) (Out 1 (kk z1095) (SS (z1093 qname qf) (z1094 qname qf)) r) (z1093 qname qf vx) := by
  unfold z1092 at hF
  refine awp_seq ?_
  refine awp_region ?_
  refine aR 1 ?_
  refine aE ?_
  refine awp_seq ?_
  refine cE hF (fun h1 hF => ?_) fun h1 hF => ?_
  · refine awp_true (by kernel_rfl) h1 ?_
    refine awp_skip ?_
    refine awp_seq ?_
    refine awp_block ?_
    refine awp_seq ?_
    refine awp_region ?_
    refine aR 2 ?_
    refine aE ?_
    refine awp_seq ?_
    refine awp_to (st' := z1098 qname qf vx) (oT [] []) ?_
    refine bE hF fun vx2_1 h6 hF => ?_
    refine awp_sub (z1101 qname qf vx h6) ?_
    refine cE hF (fun h7 hF => ?_) fun h7 hF => ?_
    · refine awp_true (by kernel_rfl) h7 ?_
      refine awp_seq ?_
      refine awp_region ?_
      refine aR 1 ?_
      refine aE ?_
      refine awp_ret ?_
      exact oO hF [] [] rfl
    · refine awp_false (by kernel_rfl) h7 ?_
      refine awp_skip ?_
      refine awp_region ?_
      refine aR 2 ?_
      refine aE ?_
      exact oO hF [] [] rfl
  · refine awp_false (by kernel_rfl) h1 ?_
    refine awp_exit ?_
    exact oO hF [] [] rfl

def z1090 (qname : List UInt8) (qf : List api_Prop) (r : Bool) : TV × Mem := (.v (.one (.d (.bool r))), ⟨[], [(0, [.d (.lst (List.map api_Prop.enc qf))])]⟩)

theorem z1091 {qname : List UInt8} {qf : List api_Prop} {r} (hF : z1089 qname qf = some r) : Holds prog 179 [.v (.one (.d (.str qname))), .v (.one (.fn 180 [0]))] ⟨[], [(0, [.d (.lst (List.map api_Prop.enc qf))])]⟩ (Is (z1090 qname qf r)) := by
  unfold z1089 at hF
  refine holds_of_awp hΓ (fn := f179) (c := cB f179) (A := 1) (nx := 1) (by kernel_rfl) (by kernel_rfl) (by kernel_rfl) (by kernel_rfl) (by kernel_rfl) (by kernel_rfl) (lowc_of (by kernel_rfl)) ?_
  show Awp prog 1 23 (cB f179) _ _
  refine awp_seq ?_
  refine awp_region ?_
  refine aR 1 ?_
  refine aE ?_
  refine awp_seq ?_
  refine awp_seq ?_
  refine awp_region ?_
  refine aR 3 ?_
  refine aE ?_
  refine awp_block ?_
  refine awp_to (st' := z1093 qname qf 0) (oT [] []) ?_
  refine bE hF fun x h8 hF => ?_
  rcases x with _ | _
  · refine awp_sub (awp_loop' (z1093 qname qf) z1095 (z1094 qname qf) (by intro x; rcases x with x | x <;> exact fun h => nomatch h) h8 (z1096 qname qf)) ?_
    refine awp_seq ?_
    refine awp_region ?_
    refine aR 1 ?_
    refine aE ?_
    refine awp_ret ?_
    exact oF hF [] []
  · refine awp_sub (awp_loop' (z1093 qname qf) z1095 (z1094 qname qf) (by intro x; rcases x with x | x <;> exact fun h => nomatch h) h8 (z1096 qname qf)) ?_
    exact oF hF [] []

/-! ### beaconfleet/twin.CheckProps -/
def z1069 : Bool → AEx
  | _ => .normal

def z1068 (ql : List api_Prop) (vx : Int) (vy2 : api_Prop) : Bool → St
  | vx2 => Mem.st ⟨[], [(0, [.d (.lst (List.map api_Prop.enc ql))])]⟩ (tl [(1, .v (.one (.box 0 0))), (11, .v (.one (.d (.lst (List.map api_Prop.enc ql))))), (12, .v (.one (.d (.int .i64 (ql.length : Int))))), (13, .v (.one (.d (.int .i64 vx)))), (44, .v (.one (.d (.bool vx2))))]) 1

def z1067 (ql : List api_Prop) (vx : Int) (vy2 : api_Prop) : St := Mem.st ⟨[], [(0, [.d (.lst (List.map api_Prop.enc ql))]), (1, [.d (.str vy2.Name), .d (.int .i64 vy2.Value.Kind), .d (.bool vy2.Value.Flag), .d (.int .i64 vy2.Value.Number), .d (.str vy2.Value.Words)])]⟩ (tl [(1, .v (.one (.box 0 0))), (3, .v (.one (.d (.int .i64 vx)))), (4, .v (.one (.box 1 0))), (11, .v (.one (.d (.lst (List.map api_Prop.enc ql))))), (12, .v (.one (.d (.int .i64 (ql.length : Int))))), (13, .v (.one (.d (.int .i64 vx))))]) 2

theorem z1070 (ql : List api_Prop) (vx : Int) (vy2 : api_Prop) {r} (hF : z1066 ql vx vy2 = some r) : Awp prog 0 57 (cL (cR (cR (cR (cR (cL (cL (cR (cR (cL (cL (cR (cL (cR (cR (cB f129)))))))))))))))) (Out 0 z1069 (z1068 ql vx vy2) r) (z1067 ql vx vy2) := by
  unfold z1066 at hF
  refine cE hF (fun h9 hF => ?_) fun h9 hF => ?_
  · refine bE hF fun vy3 h10 hF => ?_
    refine aD ?_
    refine dR 1 ?_
    refine dB h9 ?_
    refine dR 6 ?_
    refine dX (x_idx api_Prop.enc h10) ?_
    refine dR 4 ?_
    refine dE ?_
    exact oO hF [] [] rfl
  · refine aD ?_
    refine dR 1 ?_
    refine dB h9 ?_
    refine dR 11 ?_
    refine dE ?_
    exact oO hF [] [] rfl

def z1064 : Unit ⊕ Int → AEx
  | .inl _ => .exit 0
  | .inr _ => .ret

def z1063 (ql : List api_Prop) : Unit ⊕ Int → St
  | .inl _ => Mem.st ⟨[], [(0, [.d (.lst (List.map api_Prop.enc ql))])]⟩ (tl [(1, .v (.one (.box 0 0)))]) 1
  | .inr vx3 => Mem.st ⟨[], []⟩ (tl [(2, .v (.one (.d (.int .i64 vx3))))]) 0

def z1062 (ql : List api_Prop) : Int → St
  | vx => Mem.st ⟨[], [(0, [.d (.lst (List.map api_Prop.enc ql))])]⟩ (tl [(1, .v (.one (.box 0 0))), (11, .v (.one (.d (.lst (List.map api_Prop.enc ql))))), (12, .v (.one (.d (.int .i64 (ql.length : Int))))), (13, .v (.one (.d (.int .i64 vx))))]) 1

theorem z1065 (ql : List api_Prop) (vx : Int) (r : (Int) ⊕ (Unit ⊕ Int)) (hF : z1061 ql vx = some r) : Awp prog 0 57 (cL (cL (cR (cL (cR (cR (cB f129))))))) (Out 0 (kk z1064) (SS (z1062 ql) (z1063 ql)) r) (z1062 ql vx) := by
  unfold z1061 at hF
  refine awp_seq ?_
  refine awp_region ?_
  refine aR 1 ?_
  refine aE ?_
  refine awp_seq ?_
  refine cE hF (fun h2 hF => ?_) fun h2 hF => ?_
  · refine awp_true (by kernel_rfl) h2 ?_
    refine awp_skip ?_
    refine awp_seq ?_
    refine awp_block ?_
    refine awp_seq ?_
    refine bE hF fun vy2 h3 hF => ?_
    refine awp_region ?_
    refine aR 1 ?_
    refine aX (x_idx api_Prop.enc h3) ?_
    refine aR 4 ?_
    refine aE ?_
    refine awp_seq ?_
    refine awp_seq ?_
    refine bE hF fun vr1 h4 hF => ?_
    refine awp_region ?_
    refine aR 2 ?_
    refine aC (z1112 h4) [] [] [] ?_
    refine aR 1 ?_
    refine aE ?_
    refine cE hF (fun h5 hF => ?_) fun h5 hF => ?_
    · refine awp_true (by kernel_rfl) h5 ?_
      refine awp_seq ?_
      refine awp_region ?_
      refine aR 1 ?_
      refine aE ?_
      refine awp_ret ?_
      exact oO hF [] [] rfl
    · refine awp_false (by kernel_rfl) h5 ?_
      refine awp_skip ?_
      refine awp_seq ?_
      refine awp_seq ?_
      refine bE hF fun vr2_1 h6 hF => ?_
      refine awp_region ?_
      refine aR 2 ?_
      refine aC (z1128 h6) [] [] [] ?_
      refine aR 1 ?_
      refine aE ?_
      refine awp_seq ?_
      refine awp_region ?_
      refine aR 2 ?_
      refine aE ?_
      refine cE hF (fun h7 hF => ?_) fun h7 hF => ?_
      · refine awp_true (by kernel_rfl) h7 ?_
        refine awp_seq ?_
        refine awp_region ?_
        refine aR 2 ?_
        refine aE ?_
        refine awp_ret ?_
        exact oO hF [] [] rfl
      · refine awp_false (by kernel_rfl) h7 ?_
        refine awp_skip ?_
        refine awp_seq ?_
        refine awp_seq ?_
        refine awp_region ?_
        refine aR 4 ?_
        refine aE ?_
        refine cE hF (fun h8 hF => ?_) fun h8 hF => ?_
        · refine awp_true (by kernel_rfl) h8 ?_
          refine awp_seq ?_
          refine awp_region ?_
          refine aR 1 ?_
          refine aE ?_
          refine awp_ret ?_
          exact oO hF [] [] rfl
        · refine awp_false (by kernel_rfl) h8 ?_
          refine awp_skip ?_
          refine awp_seq ?_
          refine awp_to (st' := z1067 ql vx vy2) (oT [(1, 4001)] []) ?_
          refine bE hF fun vx2_1 h11 hF => ?_
          refine awp_sub (z1070 ql vx vy2 h11) ?_
          refine cE hF (fun h12 hF => ?_) fun h12 hF => ?_
          · refine awp_true (by kernel_rfl) h12 ?_
            refine awp_seq ?_
            refine awp_region ?_
            refine aR 1 ?_
            refine aE ?_
            refine awp_ret ?_
            exact oO hF [] [] rfl
          · refine awp_false (by kernel_rfl) h12 ?_
            refine awp_skip ?_
            refine awp_region ?_
            refine aR 2 ?_
            refine aE ?_
            exact oO hF [] [] rfl
  · refine awp_false (by kernel_rfl) h2 ?_
    refine awp_exit ?_
    exact oO hF [] [] rfl

def z1074 : Unit ⊕ Unit → AEx
  | .inl _ => .exit 2
  | .inr _ => .ret

def z1073 (ql : List api_Prop) : Unit ⊕ Unit → St
  | .inl _ => Mem.st ⟨[], []⟩ (tl []) 0
  | .inr _ => Mem.st ⟨[], []⟩ (tl [(2, .v (.one (.d (.int .i64 13))))]) 0

def z1072 (ql : List api_Prop) : Int → St
  | vx4 => Mem.st ⟨[], [(0, [.d (.lst (List.map api_Prop.enc ql))])]⟩ (tl [(1, .v (.one (.box 0 0))), (46, .v (.one (.d (.lst (List.map api_Prop.enc ql))))), (47, .v (.one (.d (.int .i64 (ql.length : Int))))), (48, .v (.one (.d (.int .i64 vx4))))]) 1

theorem z1075 (ql : List api_Prop) (vx4 : Int) (r : (Int) ⊕ (Unit ⊕ Unit)) (hF : z1071 ql vx4 = some r) : Awp prog 0 57 (cL (cL (cR (cL (cR (cR (cR (cB f129)))))))) (Out 0 (kk z1074) (SS (z1072 ql) (z1073 ql)) r) (z1072 ql vx4) := by
  unfold z1071 at hF
  refine awp_seq ?_
  refine awp_region ?_
  refine aR 1 ?_
  refine aE ?_
  refine awp_seq ?_
  refine cE hF (fun h14 hF => ?_) fun h14 hF => ?_
  · refine awp_true (by kernel_rfl) h14 ?_
    refine awp_skip ?_
    refine awp_seq ?_
    refine awp_block ?_
    refine awp_seq ?_
    refine bE hF fun vy5 h15 hF => ?_
    refine awp_region ?_
    refine aX (x_idx api_Prop.enc h15) ?_
    refine aR 3 ?_
    refine aE ?_
    refine awp_seq ?_
    refine bE hF fun vr2_3 h16 hF => ?_
    refine awp_region ?_
    refine aR 3 ?_
    refine aC (z1091 h16) [] [] [] ?_
    refine aE ?_
    refine cE hF (fun h17 hF => ?_) fun h17 hF => ?_
    · refine awp_true (by kernel_rfl) h17 ?_
      refine awp_seq ?_
      refine awp_region ?_
      refine aR 1 ?_
      refine aE ?_
      refine awp_ret ?_
      exact oO hF [] [] rfl
    · refine awp_false (by kernel_rfl) h17 ?_
      refine awp_skip ?_
      refine awp_region ?_
      refine aR 2 ?_
      refine aE ?_
      exact oO hF [] [] rfl
  · refine awp_false (by kernel_rfl) h14 ?_
    refine awp_exit ?_
    exact oO hF [] [] rfl

def z1046 (ql : List api_Prop) (r : Int) : TV × Mem := (.v (.one (.d (.int .i64 r))), ⟨[], []⟩)

theorem z1060 {ql : List api_Prop} {r} (hF : z1042 ql = some r) : Holds prog 129 [.v (.one (.d (.lst (List.map api_Prop.enc ql))))] ⟨[], []⟩ (Is (z1046 ql r)) := by
  unfold z1042 at hF
  refine holds_of_awp hΓ (fn := f129) (c := cB f129) (A := 0) (nx := 0) (by kernel_rfl) (by kernel_rfl) (by kernel_rfl) (by kernel_rfl) (by kernel_rfl) (by kernel_rfl) (lowc_of (by kernel_rfl)) ?_
  show Awp prog 0 57 (cB f129) _ _
  refine awp_seq ?_
  refine awp_region ?_
  refine aR 2 ?_
  refine aE ?_
  refine awp_seq ?_
  refine awp_seq ?_
  refine awp_region ?_
  refine aR 1 ?_
  refine aL api_Prop.enc ql ?_
  refine aR 1 ?_
  refine aE ?_
  refine cE hF (fun h1 hF => ?_) fun h1 hF => ?_
  · refine awp_true (by kernel_rfl) h1 ?_
    refine awp_seq ?_
    refine awp_region ?_
    refine aR 1 ?_
    refine aE ?_
    refine awp_ret ?_
    exact oF hF [] []
  · refine awp_false (by kernel_rfl) h1 ?_
    refine awp_skip ?_
    refine awp_seq ?_
    refine awp_seq ?_
    refine awp_region ?_
    refine aR 1 ?_
    refine aL api_Prop.enc ql ?_
    refine aR 1 ?_
    refine aE ?_
    refine awp_block ?_
    refine awp_to (st' := z1062 ql 0) (oT [] []) ?_
    refine bE hF fun x h13 hF => ?_
    rcases x with _ | vx3_1
    · refine awp_sub (awp_loop' (z1062 ql) z1064 (z1063 ql) (by intro x; rcases x with x | x <;> exact fun h => nomatch h) h13 (z1065 ql)) ?_
      refine awp_seq ?_
      refine awp_seq ?_
      refine awp_region ?_
      refine aR 1 ?_
      refine aL api_Prop.enc ql ?_
      refine aR 1 ?_
      refine aE ?_
      refine awp_block ?_
      refine awp_to (st' := z1072 ql 0) (oT [] []) ?_
      refine bE hF fun x h18 hF => ?_
      rcases x with _ | _
      · refine awp_sub (awp_loop' (z1072 ql) z1074 (z1073 ql) (by intro x; rcases x with x | x <;> exact fun h => nomatch h) h18 (z1075 ql)) ?_
        refine awp_seq ?_
        refine awp_region ?_
        refine aR 1 ?_
        refine aE ?_
        refine awp_ret ?_
        exact oF hF [] []
      · refine awp_sub (awp_loop' (z1072 ql) z1074 (z1073 ql) (by intro x; rcases x with x | x <;> exact fun h => nomatch h) h18 (z1075 ql)) ?_
        exact oF hF [] []
    · refine awp_sub (awp_loop' (z1062 ql) z1064 (z1063 ql) (by intro x; rcases x with x | x <;> exact fun h => nomatch h) h13 (z1065 ql)) ?_
      exact oF hF [] []

/-! ### cmp.isNaN[string] -/
def z157 (qx : List UInt8) (r : Unit) : TV × Mem := (.v (.one (.d (.bool (!decide (qx = qx))))), ⟨[], []⟩)

theorem z158 {qx : List UInt8} {r} (hF : z156 qx = some r) : Holds prog 308 [.v (.one (.d (.str qx)))] ⟨[], []⟩ (Is (z157 qx r)) := by
  unfold z156 at hF
  refine holds_of_awp hΓ (fn := f308) (c := cB f308) (A := 0) (nx := 0) (by kernel_rfl) (by kernel_rfl) (by kernel_rfl) (by kernel_rfl) (by kernel_rfl) (by kernel_rfl) (lowc_of (by kernel_rfl)) ?_
  show Awp prog 0 6 (cB f308) _ _
  refine awp_seq ?_
  refine awp_region ?_
  refine aR 1 ?_
  refine aE ?_
  refine awp_seq ?_
  refine awp_region ?_
  refine aR 4 ?_
  refine aE ?_
  refine awp_ret ?_
  exact oF hF [] []

/-! ### cmp.Less[string] -/
def z143 : Bool → AEx
  | _ => .normal

def z142 (qx : List UInt8) (qy : List UInt8) : Bool → St
  | vx => Mem.st ⟨[], []⟩ (tl [(4, .v (.one (.d (.bool vx))))]) 0

def z141 (qx : List UInt8) (qy : List UInt8) : St := Mem.st ⟨[], []⟩ (tl [(0, .v (.one (.d (.str qx)))), (1, .v (.one (.d (.str qy))))]) 0

theorem z144 (qx : List UInt8) (qy : List UInt8) {r} (hF : z140 qx qy = some r) : Awp prog 0 17 (cL (cR (cB f287))) (Out 0 z143 (z142 qx qy) r) (z141 qx qy) := by
  unfold z140 at hF
  refine bE hF fun _ h1 hF => ?_
  refine cE hF (fun h2 hF => ?_) fun h2 hF => ?_
  · refine bE hF fun _ h3 hF => ?_
    refine cE hF (fun h4 hF => ?_) fun h4 hF => ?_
    · refine awp_region ?_
      refine aR 1 ?_
      refine aCb (z158 h1) [] [] [] h2 ?_
      refine aR 2 ?_
      refine aC (z158 h3) [] [] [] ?_
      refine aB h4 ?_
      refine aR 7 ?_
      refine aE ?_
      exact oO hF [] [] rfl
    · refine awp_region ?_
      refine aR 1 ?_
      refine aCb (z158 h1) [] [] [] h2 ?_
      refine aR 2 ?_
      refine aC (z158 h3) [] [] [] ?_
      refine aB h4 ?_
      refine aR 7 ?_
      refine aE ?_
      exact oO hF [] [] rfl
  · refine awp_region ?_
    refine aR 1 ?_
    refine aCb (z158 h1) [] [] [] h2 ?_
    refine aR 11 ?_
    refine aE ?_
    exact oO hF [] [] rfl

def z136 (qx : List UInt8) (qy : List UInt8) (r : Bool) : TV × Mem := (.v (.one (.d (.bool r))), ⟨[], []⟩)

theorem z137 {qx : List UInt8} {qy : List UInt8} {r} (hF : z135 qx qy = some r) : Holds prog 287 [.v (.one (.d (.str qx))), .v (.one (.d (.str qy)))] ⟨[], []⟩ (Is (z136 qx qy r)) := by
  unfold z135 at hF
  refine holds_of_awp hΓ (fn := f287) (c := cB f287) (A := 0) (nx := 0) (by kernel_rfl) (by kernel_rfl) (by kernel_rfl) (by kernel_rfl) (by kernel_rfl) (by kernel_rfl) (lowc_of (by kernel_rfl)) ?_
  show Awp prog 0 17 (cB f287) _ _
  refine awp_seq ?_
  refine awp_region ?_
  refine aR 1 ?_
  refine aE ?_
  refine awp_seq ?_
  refine awp_to (st' := z141 qx qy) (oT [] []) ?_
  refine bE hF fun vx1 h5 hF => ?_
  refine awp_sub (z144 qx qy h5) ?_
  refine awp_ret ?_
  exact oF hF [] []

end Go.Eng
