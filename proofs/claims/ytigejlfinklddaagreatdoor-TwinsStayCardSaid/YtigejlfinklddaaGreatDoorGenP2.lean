/-
The code of the Go functions that the law TwinsStay reaches does what the plain functions say, part 2.
-/
import Derived.Test.YtigejlfinklddaaGreatDoorGenP1

namespace Go.Eng

open Go Go.Proofs.Tryz

set_option linter.unusedVariables false

set_option maxRecDepth 20000

set_option maxHeartbeats 0

/-! ### beaconfleet/twin.merged -/
def z1376 : Bool → AEx
  | _ => .normal

def z1375 (vr : List api_Cell) (vr2 : Int) : Bool → St
  | vx => Mem.st ⟨[(0, ⟨106, 8, List.map api_Cell.enc vr⟩)], []⟩ (tl [(6, .v (.one (.own 0 none))), (7, .v (.one (.d (.int .i64 vr2)))), (20, .v (.one (.d (.bool vx))))]) 1

def z1374 (vr : List api_Cell) (vr2 : Int) : St := Mem.st ⟨[(0, ⟨106, 8, List.map api_Cell.enc vr⟩)], []⟩ (tl [(6, .v (.one (.own 0 none))), (7, .v (.one (.d (.int .i64 vr2))))]) 1

theorem z1377 (vr : List api_Cell) (vr2 : Int) {r} (hF : z1373 vr vr2 = some r) : Awp prog 0 25 (cL (cL (cR (cR (cB f123))))) (Out 0 z1376 (z1375 vr vr2) r) (z1374 vr vr2) := by
  unfold z1373 at hF
  refine cE hF (fun h2 hF => ?_) fun h2 hF => ?_
  · refine awp_region ?_
    refine aR 1 ?_
    refine aB h2 ?_
    refine aR 2 ?_
    refine aL api_Cell.enc vr ?_
    refine aR 2 ?_
    refine aE ?_
    exact oO hF [] [] rfl
  · refine awp_region ?_
    refine aR 1 ?_
    refine aB h2 ?_
    refine aR 5 ?_
    refine aE ?_
    exact oO hF [] [] rfl

def z1371 : Int → AEx
  | _ => .normal

def z1370 (vr : List api_Cell) (vr2 : Int) : Int → St
  | ve => Mem.st ⟨[(0, ⟨106, 8, List.map api_Cell.enc vr⟩)], []⟩ (tl [(6, .v (.one (.own 0 none))), (7, .v (.one (.d (.int .i64 ve))))]) 1

def z1369 (vr : List api_Cell) (vr2 : Int) : St := Mem.st ⟨[(0, ⟨106, 8, List.map api_Cell.enc vr⟩)], []⟩ (tl [(6, .v (.one (.own 0 none))), (7, .v (.one (.d (.int .i64 vr2))))]) 1

theorem z1372 (vr : List api_Cell) (vr2 : Int) {r} (hF : z1368 vr vr2 = some r) : Awp prog 0 25 (cL (cR (cR (cB f123)))) (Out 0 z1371 (z1370 vr vr2) r) (z1369 vr vr2) := by
  unfold z1368 at hF
  refine awp_seq ?_
  refine awp_to (st' := z1374 vr vr2) (oT [] []) ?_
  refine bE hF fun vx1 h3 hF => ?_
  refine awp_sub (z1377 vr vr2 h3) ?_
  refine cE hF (fun h4 hF => ?_) fun h4 hF => ?_
  · refine awp_true (by kernel_rfl) h4 ?_
    refine awp_region ?_
    refine aR 1 ?_
    refine aE ?_
    exact oO hF [] [] rfl
  · refine awp_false (by kernel_rfl) h4 ?_
    refine awp_skip ?_
    exact oO hF [] [] rfl

def z1353 (qa : List api_Cell) (qb : List api_Cell) (r : (List api_Cell) × Int) : TV × Mem := (.tup [.one (.own 0 none), .one (.d (.int .i64 r.2))], ⟨[(0, ⟨106, 8, List.map api_Cell.enc r.1⟩)], []⟩)

theorem z1367 {qa : List api_Cell} {qb : List api_Cell} {r} (hF : z1352 qa qb = some r) : Holds prog 123 [.v (.one (.d (.lst (List.map api_Cell.enc qa)))), .v (.one (.d (.lst (List.map api_Cell.enc qb))))] ⟨[], []⟩ (Is (z1353 qa qb r)) := by
  unfold z1352 at hF
  refine holds_of_awp hΓ (fn := f123) (c := cB f123) (A := 0) (nx := 0) (by kernel_rfl) (by kernel_rfl) (by kernel_rfl) (by kernel_rfl) (by kernel_rfl) (by kernel_rfl) (lowc_of (by kernel_rfl)) ?_
  show Awp prog 0 25 (cB f123) _ _
  refine awp_seq ?_
  refine awp_region ?_
  refine aR 2 ?_
  refine aE ?_
  refine awp_seq ?_
  refine bE hF fun x h1 hF => ?_
  obtain ⟨vr, vr2⟩ := x
  refine awp_region ?_
  refine aR 2 ?_
  refine aC (z1331 h1) [] [] [] ?_
  refine aR 5 ?_
  refine aE ?_
  refine awp_seq ?_
  refine awp_to (st' := z1369 vr vr2) (oT [(0, 4000)] []) ?_
  refine bE hF fun ve1 h5 hF => ?_
  refine awp_sub (z1372 vr vr2 h5) ?_
  refine awp_seq ?_
  refine awp_seq ?_
  refine awp_region ?_
  refine aR 2 ?_
  refine aE ?_
  refine cE hF (fun h6 hF => ?_) fun h6 hF => ?_
  · refine awp_true (by kernel_rfl) h6 ?_
    refine awp_seq ?_
    refine awp_region ?_
    refine aR 3 ?_
    refine aE ?_
    refine awp_ret ?_
    exact oF hF [] [0]
  · refine awp_false (by kernel_rfl) h6 ?_
    refine awp_skip ?_
    refine awp_seq ?_
    refine awp_region ?_
    refine aR 3 ?_
    refine aE ?_
    refine awp_ret ?_
    exact oF hF [] []

/-! ### beaconfleet/twin.Merge -/
def z1232 (qa : List api_Cell) (qb : List api_Cell) (r : (List api_Cell) × Int) : TV × Mem := (.tup [.one (.own 0 none), .one (.d (.int .i64 r.2))], ⟨[(0, ⟨106, 8, List.map api_Cell.enc r.1⟩)], []⟩)

theorem z1233 {qa : List api_Cell} {qb : List api_Cell} {r} (hF : z1231 qa qb = some r) : Holds prog 47 [.v (.one (.d (.lst (List.map api_Cell.enc qa)))), .v (.one (.d (.lst (List.map api_Cell.enc qb))))] ⟨[], []⟩ (Is (z1232 qa qb r)) := by
  unfold z1231 at hF
  refine holds_of_awp hΓ (fn := f47) (c := cB f47) (A := 0) (nx := 0) (by kernel_rfl) (by kernel_rfl) (by kernel_rfl) (by kernel_rfl) (by kernel_rfl) (by kernel_rfl) (lowc_of (by kernel_rfl)) ?_
  show Awp prog 0 21 (cB f47) _ _
  refine awp_seq ?_
  refine awp_region ?_
  refine aR 2 ?_
  refine aE ?_
  refine awp_seq ?_
  refine awp_seq ?_
  refine bE hF fun vr6 h1 hF => ?_
  refine bE hF fun vr6_1 h2 hF => ?_
  refine bE hF fun vr h3 hF => ?_
  refine awp_region ?_
  refine aR 1 ?_
  refine aC (z1131 h1) [] [] [] ?_
  refine aR 1 ?_
  refine aC (z1131 h2) [] [] [] ?_
  refine aR 1 ?_
  refine aC (z26 h3) [] [] [6000] ?_
  refine aR 1 ?_
  refine aE ?_
  refine awp_seq ?_
  refine awp_region ?_
  refine aR 2 ?_
  refine aE ?_
  refine cE hF (fun h4 hF => ?_) fun h4 hF => ?_
  · refine awp_true (by kernel_rfl) h4 ?_
    refine awp_seq ?_
    refine awp_region ?_
    refine aR 3 ?_
    refine aE ?_
    refine awp_ret ?_
    exact oF hF [] [0]
  · refine awp_false (by kernel_rfl) h4 ?_
    refine awp_skip ?_
    refine awp_seq ?_
    refine bE hF fun x h5 hF => ?_
    obtain ⟨vr1, vr3⟩ := x
    refine awp_region ?_
    refine aR 2 ?_
    refine aC (z1367 h5) [] [] [] ?_
    refine aR 4 ?_
    refine aE ?_
    refine awp_ret ?_
    exact oF hF [(0, 13000)] []

/-! ### beaconfleet/fleetkeep2.spoil[beaconfleet/api.Cell] -/
def z222 : (List api_Cell) → AEx
  | _ => .exit 0

def z221 (ql : List api_Cell) : (List api_Cell) → St
  | vl1 => Mem.st ⟨[(0, ⟨106, 8, List.map api_Cell.enc vl1⟩)], []⟩ (tl []) 1

def z220 (ql : List api_Cell) : (List api_Cell) × Int → St
  | (vl, vx) => Mem.st ⟨[(0, ⟨106, 8, List.map api_Cell.enc vl⟩)], [(1, [.d (.str ([] : List UInt8)), .d (.int .i64 0), .d (.bool false), .d (.int .i64 0), .d (.str ([] : List UInt8)), .d (.int .i64 0), .d (.str ([] : List UInt8)), .d (.int .i64 0)])]⟩ (tl [(0, .v (.one (.own 0 none))), (2, .v (.one (.box 1 0))), (5, .v (.one (.d (.int .i64 (ql.length : Int))))), (6, .v (.one (.d (.int .i64 vx))))]) 2

theorem z223 (ql : List api_Cell) (s : (List api_Cell) × Int) (r : ((List api_Cell) × Int) ⊕ ((List api_Cell))) (hF : z219 ql s = some r) : Awp prog 1 14 (cL (cL (cR (cR (cB f48))))) (Out 1 (kk z222) (SS (z220 ql) (z221 ql)) r) (z220 ql s) := by
  obtain ⟨vl, vx⟩ := s
  unfold z219 at hF
  refine awp_seq ?_
  refine awp_region ?_
  refine aR 1 ?_
  refine aE ?_
  refine awp_seq ?_
  refine cE hF (fun h1 hF => ?_) fun h1 hF => ?_
  · refine awp_true (by kernel_rfl) h1 ?_
    refine awp_skip ?_
    refine awp_seq ?_
    refine awp_block ?_
    refine awp_seq ?_
    refine awp_region ?_
    refine aR 2 ?_
    refine aE ?_
    refine bE hF fun vy1 h2 hF => ?_
    refine awp_region ?_
    refine aR 3 ?_
    refine aX (x_idxO api_Cell.enc 0 h2) ?_
    refine aX (x_stE api_Cell.enc (api_Cell.mk (api_Prop.mk ([] : List UInt8) (api_Value.mk 0 false 0 ([] : List UInt8))) (api_Stamp.mk 0 ([] : List UInt8) 0)) h2) ?_
    refine aE ?_
    refine awp_region ?_
    refine aR 2 ?_
    refine aE ?_
    exact oO hF [] [] rfl
  · refine awp_false (by kernel_rfl) h1 ?_
    refine awp_exit ?_
    exact oO hF [] [] rfl

def z217 (ql : List api_Cell) (r : (List api_Cell)) : TV × Mem := (.tup [], ⟨[(0, ⟨106, 8, List.map api_Cell.enc r⟩)], []⟩)

theorem z218 {ql : List api_Cell} {r} (hF : z216 ql = some r) : Holds prog 48 [.v (.one (.own 0 none))] ⟨[(0, ⟨106, 8, List.map api_Cell.enc ql⟩)], []⟩ (Is (z217 ql r)) := by
  unfold z216 at hF
  refine holds_of_awp hΓ (fn := f48) (c := cB f48) (A := 1) (nx := 1) (by kernel_rfl) (by kernel_rfl) (by kernel_rfl) (by kernel_rfl) (by kernel_rfl) (by kernel_rfl) (lowc_of (by kernel_rfl)) ?_
  show Awp prog 1 14 (cB f48) _ _
  refine awp_seq ?_
  refine awp_region ?_
  refine aR 1 ?_
  refine aE ?_
  refine awp_seq ?_
  refine awp_region ?_
  refine aR 1 ?_
  refine aL api_Cell.enc ql ?_
  refine aR 1 ?_
  refine aE ?_
  refine awp_block ?_
  refine awp_to (st' := z220 ql (ql, 0)) (oT [] []) ?_
  refine bE hF fun vl1_1 h3 hF => ?_
  refine awp_sub (awp_loop' (z220 ql) z222 (z221 ql) (by intro x; exact fun h => nomatch h) h3 (z223 ql)) ?_
  exact oF hF [] []

/-! ### beaconfleet/base.Below -/
def z14 : Bool → AEx
  | _ => .normal

def z13 (qname : List UInt8) (qabove : List UInt8) : Bool → St
  | vx => Mem.st ⟨[], []⟩ (tl [(4, .v (.one (.d (.bool vx))))]) 0

def z11 (qname : List UInt8) (qabove : List UInt8) : St := Mem.st ⟨[], []⟩ (tl [(0, .v (.one (.d (.str qname)))), (1, .v (.one (.d (.str qabove))))]) 0

theorem z15 (qname : List UInt8) (qabove : List UInt8) {r} (hF : z10 qname qabove = some r) : Awp prog 0 25 (cL (cR (cB f127))) (Out 0 z14 (z13 qname qabove) r) (z11 qname qabove) := by
  unfold z10 at hF
  refine cE hF (fun h1 hF => ?_) fun h1 hF => ?_
  · refine bE hF fun vc h2 hF => ?_
    refine cE hF (fun h3 hF => ?_) fun h3 hF => ?_
    · refine bE hF fun vs h4 hF => ?_
      refine awp_region ?_
      refine aR 4 ?_
      refine aB h1 ?_
      refine aR 4 ?_
      refine aX (x_idxS h2) ?_
      refine aB h3 ?_
      refine aR 5 ?_
      refine aX (x_sliceS h4) ?_
      refine aR 4 ?_
      refine aE ?_
      exact oO hF [] [] rfl
    · refine awp_region ?_
      refine aR 4 ?_
      refine aB h1 ?_
      refine aR 4 ?_
      refine aX (x_idxS h2) ?_
      refine aB h3 ?_
      refine aR 10 ?_
      refine aE ?_
      exact oO hF [] [] rfl
  · refine awp_region ?_
    refine aR 4 ?_
    refine aB h1 ?_
    refine aR 16 ?_
    refine aE ?_
    exact oO hF [] [] rfl

def z7 (qname : List UInt8) (qabove : List UInt8) (r : Bool) : TV × Mem := (.v (.one (.d (.bool r))), ⟨[], []⟩)

theorem z8 {qname : List UInt8} {qabove : List UInt8} {r} (hF : z6 qname qabove = some r) : Holds prog 127 [.v (.one (.d (.str qname))), .v (.one (.d (.str qabove)))] ⟨[], []⟩ (Is (z7 qname qabove r)) := by
  unfold z6 at hF
  refine holds_of_awp hΓ (fn := f127) (c := cB f127) (A := 0) (nx := 0) (by kernel_rfl) (by kernel_rfl) (by kernel_rfl) (by kernel_rfl) (by kernel_rfl) (by kernel_rfl) (lowc_of (by kernel_rfl)) ?_
  show Awp prog 0 25 (cB f127) _ _
  refine awp_seq ?_
  refine awp_region ?_
  refine aR 1 ?_
  refine aE ?_
  refine awp_seq ?_
  refine awp_to (st' := z11 qname qabove) (oT [] []) ?_
  refine bE hF fun vx1 h5 hF => ?_
  refine awp_sub (z15 qname qabove h5) ?_
  refine awp_ret ?_
  exact oF hF [] []

/-! ### beaconfleet/twin.hides -/
def z1306 : Bool → AEx
  | _ => .normal

def z1305 (qy : api_Cell) (vr : Bool) (vr1 : Bool) : Bool → St
  | vx => Mem.st ⟨[], []⟩ (tl [(4, .v (.one (.d (.bool vx))))]) 0

def z1304 (qy : api_Cell) (vr : Bool) (vr1 : Bool) : St := Mem.st ⟨[], [(0, [.d (.str qy.Prop_.Name), .d (.int .i64 qy.Prop_.Value.Kind), .d (.bool qy.Prop_.Value.Flag), .d (.int .i64 qy.Prop_.Value.Number), .d (.str qy.Prop_.Value.Words), .d (.int .i64 qy.Stamp.At), .d (.str qy.Stamp.By), .d (.int .i64 qy.Stamp.No)])]⟩ (tl [(3, .v (.one (.box 0 0))), (5, .v (.one (.d (.bool vr)))), (6, .v (.one (.d (.bool vr1))))]) 1

theorem z1307 (qy : api_Cell) (vr : Bool) (vr1 : Bool) {r} (hF : z1303 qy vr vr1 = some r) : Awp prog 0 61 (cL (cL (cR (cL (cR (cL (cR (cR (cR (cB f177)))))))))) (Out 0 z1306 (z1305 qy vr vr1) r) (z1304 qy vr vr1) := by
  unfold z1303 at hF
  refine cE hF (fun h5 hF => ?_) fun h5 hF => ?_
  · refine awp_region ?_
    refine aB h5 ?_
    refine aR 11 ?_
    refine aE ?_
    exact oO hF [] [] rfl
  · refine cE hF (fun h6 hF => ?_) fun h6 hF => ?_
    · refine awp_region ?_
      refine aB h5 ?_
      refine aR 1 ?_
      refine aB h6 ?_
      refine aR 9 ?_
      refine aE ?_
      exact oO hF [] [] rfl
    · refine awp_region ?_
      refine aB h5 ?_
      refine aR 1 ?_
      refine aB h6 ?_
      refine aR 9 ?_
      refine aE ?_
      exact oO hF [] [] rfl

def z1311 : Bool → AEx
  | _ => .normal

def z1310 (qx : api_Cell) (qy : api_Cell) (vr : Bool) : Bool → St
  | vx2 => Mem.st ⟨[], []⟩ (tl [(4, .v (.one (.d (.bool vx2))))]) 0

def z1309 (qx : api_Cell) (qy : api_Cell) (vr : Bool) : St := Mem.st ⟨[], [(0, [.d (.str qy.Prop_.Name), .d (.int .i64 qy.Prop_.Value.Kind), .d (.bool qy.Prop_.Value.Flag), .d (.int .i64 qy.Prop_.Value.Number), .d (.str qy.Prop_.Value.Words), .d (.int .i64 qy.Stamp.At), .d (.str qy.Stamp.By), .d (.int .i64 qy.Stamp.No)])]⟩ (tl [(3, .v (.one (.box 0 0))), (5, .v (.one (.d (.bool vr)))), (7, .v (.one (.d (.bool (!decide (qx.Prop_.Value.Kind = 0))))))]) 1

theorem z1312 (qx : api_Cell) (qy : api_Cell) (vr : Bool) {r} (hF : z1308 qx qy vr = some r) : Awp prog 0 61 (cL (cL (cR (cR (cR (cL (cR (cL (cR (cR (cR (cB f177)))))))))))) (Out 0 z1311 (z1310 qx qy vr) r) (z1309 qx qy vr) := by
  unfold z1308 at hF
  refine cE hF (fun h9 hF => ?_) fun h9 hF => ?_
  · refine cE hF (fun h10 hF => ?_) fun h10 hF => ?_
    · refine awp_region ?_
      refine aB h9 ?_
      refine aR 1 ?_
      refine aB h10 ?_
      refine aR 9 ?_
      refine aE ?_
      exact oO hF [] [] rfl
    · refine awp_region ?_
      refine aB h9 ?_
      refine aR 1 ?_
      refine aB h10 ?_
      refine aR 9 ?_
      refine aE ?_
      exact oO hF [] [] rfl
  · refine awp_region ?_
    refine aB h9 ?_
    refine aR 11 ?_
    refine aE ?_
    exact oO hF [] [] rfl

def z1301 (qx : api_Cell) (qy : api_Cell) (r : Bool) : TV × Mem := (.v (.one (.d (.bool r))), ⟨[], []⟩)

theorem z1302 {qx : api_Cell} {qy : api_Cell} {r} (hF : z1300 qx qy = some r) : Holds prog 177 [.v (.agg [.d (.str qx.Prop_.Name), .d (.int .i64 qx.Prop_.Value.Kind), .d (.bool qx.Prop_.Value.Flag), .d (.int .i64 qx.Prop_.Value.Number), .d (.str qx.Prop_.Value.Words), .d (.int .i64 qx.Stamp.At), .d (.str qx.Stamp.By), .d (.int .i64 qx.Stamp.No)]), .v (.agg [.d (.str qy.Prop_.Name), .d (.int .i64 qy.Prop_.Value.Kind), .d (.bool qy.Prop_.Value.Flag), .d (.int .i64 qy.Prop_.Value.Number), .d (.str qy.Prop_.Value.Words), .d (.int .i64 qy.Stamp.At), .d (.str qy.Stamp.By), .d (.int .i64 qy.Stamp.No)])] ⟨[], []⟩ (Is (z1301 qx qy r)) := by
  unfold z1300 at hF
  refine holds_of_awp hΓ (fn := f177) (c := cB f177) (A := 0) (nx := 0) (by kernel_rfl) (by kernel_rfl) (by kernel_rfl) (by kernel_rfl) (by kernel_rfl) (by kernel_rfl) (lowc_of (by kernel_rfl)) ?_
  show Awp prog 0 61 (cB f177) _ _
  refine awp_seq ?_
  refine awp_region ?_
  refine aR 3 ?_
  refine aE ?_
  refine awp_seq ?_
  refine bE hF fun vr h1 hF => ?_
  refine bE hF fun vr1 h2 hF => ?_
  refine aD ?_
  refine dR 6 ?_
  refine dC (z8 h1) [] [] [] ?_
  refine dR 6 ?_
  refine dC (z8 h2) [] [] [] ?_
  refine dR 2 ?_
  refine dE ?_
  refine awp_seq ?_
  refine awp_region ?_
  refine aR 6 ?_
  refine aE ?_
  refine awp_seq ?_
  refine awp_seq ?_
  refine bE hF fun vr3 h3 hF => ?_
  refine awp_region ?_
  refine aR 4 ?_
  refine aC (z1280 h3) [] [] [] ?_
  refine aR 1 ?_
  refine aE ?_
  refine awp_block ?_
  refine awp_seq ?_
  refine awp_region ?_
  refine aR 3 ?_
  refine aE ?_
  refine cE hF (fun h4 hF => ?_) fun h4 hF => ?_
  · refine awp_true (by kernel_rfl) h4 ?_
    refine awp_seq ?_
    refine awp_to (st' := z1304 qy vr vr1) (oT [(0, 1000)] []) ?_
    refine bE hF fun vx1 h7 hF => ?_
    refine awp_sub (z1307 qy vr vr1 h7) ?_
    refine awp_ret ?_
    exact oF hF [] []
  · refine awp_false (by kernel_rfl) h4 ?_
    refine awp_seq ?_
    refine awp_region ?_
    refine aR 3 ?_
    refine aE ?_
    refine cE hF (fun h8 hF => ?_) fun h8 hF => ?_
    · refine awp_true (by kernel_rfl) h8 ?_
      refine awp_seq ?_
      refine awp_to (st' := z1309 qx qy vr) (oT [(0, 1000)] []) ?_
      refine bE hF fun vx2_1 h11 hF => ?_
      refine awp_sub (z1312 qx qy vr h11) ?_
      refine awp_ret ?_
      exact oF hF [] []
    · refine awp_false (by kernel_rfl) h8 ?_
      refine awp_skip ?_
      refine awp_seq ?_
      refine awp_region ?_
      refine aR 1 ?_
      refine aE ?_
      refine awp_ret ?_
      exact oF hF [] []

/-! ### beaconfleet/twin.Compact$1 -/
def z1186 (qc : api_Cell) (qx : Int) (r : Unit) : TV × Mem := (.v (.one (.d (.bool (decide (qc.Stamp.At < qx))))), ⟨[], [(0, [.d (.int .i64 qx)])]⟩)

theorem z1187 {qc : api_Cell} {qx : Int} {r} (hF : z1185 qc qx = some r) : Holds prog 124 [.v (.agg [.d (.str qc.Prop_.Name), .d (.int .i64 qc.Prop_.Value.Kind), .d (.bool qc.Prop_.Value.Flag), .d (.int .i64 qc.Prop_.Value.Number), .d (.str qc.Prop_.Value.Words), .d (.int .i64 qc.Stamp.At), .d (.str qc.Stamp.By), .d (.int .i64 qc.Stamp.No)]), .v (.one (.box 0 0))] ⟨[], [(0, [.d (.int .i64 qx)])]⟩ (Is (z1186 qc qx r)) := by
  unfold z1185 at hF
  refine holds_of_awp hΓ (fn := f124) (c := cB f124) (A := 1) (nx := 1) (by kernel_rfl) (by kernel_rfl) (by kernel_rfl) (by kernel_rfl) (by kernel_rfl) (by kernel_rfl) (lowc_of (by kernel_rfl)) ?_
  show Awp prog 1 9 (cB f124) _ _
  refine awp_seq ?_
  refine awp_region ?_
  refine aR 2 ?_
  refine aE ?_
  refine awp_seq ?_
  refine awp_region ?_
  refine aR 6 ?_
  refine aE ?_
  refine awp_ret ?_
  exact oF hF [] []

/-! ### beaconfleet/twin.hidden$1 -/
def z1295 : Bool → AEx
  | _ => .normal

def z1294 (qx : api_Cell) (qx1 : api_Cell) (qx2 : Int) : Bool → St
  | vx => Mem.st ⟨[], [(0, [.d (.str qx1.Prop_.Name), .d (.int .i64 qx1.Prop_.Value.Kind), .d (.bool qx1.Prop_.Value.Flag), .d (.int .i64 qx1.Prop_.Value.Number), .d (.str qx1.Prop_.Value.Words), .d (.int .i64 qx1.Stamp.At), .d (.str qx1.Stamp.By), .d (.int .i64 qx1.Stamp.No)]), (1, [.fn 124 [2]]), (2, [.d (.int .i64 qx2)])]⟩ (tl [(4, .v (.one (.d (.bool vx))))]) 3

def z1293 (qx : api_Cell) (qx1 : api_Cell) (qx2 : Int) : St := Mem.st ⟨[], [(0, [.d (.str qx1.Prop_.Name), .d (.int .i64 qx1.Prop_.Value.Kind), .d (.bool qx1.Prop_.Value.Flag), .d (.int .i64 qx1.Prop_.Value.Number), .d (.str qx1.Prop_.Value.Words), .d (.int .i64 qx1.Stamp.At), .d (.str qx1.Stamp.By), .d (.int .i64 qx1.Stamp.No)]), (1, [.fn 124 [2]]), (2, [.d (.int .i64 qx2)]), (3, [.d (.str qx.Prop_.Name), .d (.int .i64 qx.Prop_.Value.Kind), .d (.bool qx.Prop_.Value.Flag), .d (.int .i64 qx.Prop_.Value.Number), .d (.str qx.Prop_.Value.Words), .d (.int .i64 qx.Stamp.At), .d (.str qx.Stamp.By), .d (.int .i64 qx.Stamp.No)])]⟩ (tl [(1, .v (.one (.box 0 0))), (2, .v (.one (.box 1 0))), (3, .v (.one (.box 3 0)))]) 4

theorem z1296 (qx : api_Cell) (qx1 : api_Cell) (qx2 : Int) {r} (hF : z1292 qx qx1 qx2 = some r) : Awp prog 3 13 (cL (cR (cB f176))) (Out 3 z1295 (z1294 qx qx1 qx2) r) (z1293 qx qx1 qx2) := by
  unfold z1292 at hF
  refine bE hF fun vr2 h1 hF => ?_
  refine cE hF (fun h2 hF => ?_) fun h2 hF => ?_
  · refine bE hF fun _ h3 hF => ?_
    refine awp_region ?_
    refine aR 2 ?_
    refine aCb (z1302 h1) [] [] [] h2 ?_
    refine aR 3 ?_
    refine aC (z1187 h3) [(0, 2)] [] [] ?_
    refine aR 2 ?_
    refine aE ?_
    exact oO hF [] [] rfl
  · refine awp_region ?_
    refine aR 2 ?_
    refine aCb (z1302 h1) [] [] [] h2 ?_
    refine aR 6 ?_
    refine aE ?_
    exact oO hF [] [] rfl

def z1290 (qx : api_Cell) (qx1 : api_Cell) (qx2 : Int) (r : Bool) : TV × Mem := (.v (.one (.d (.bool r))), ⟨[], [(0, [.d (.str qx1.Prop_.Name), .d (.int .i64 qx1.Prop_.Value.Kind), .d (.bool qx1.Prop_.Value.Flag), .d (.int .i64 qx1.Prop_.Value.Number), .d (.str qx1.Prop_.Value.Words), .d (.int .i64 qx1.Stamp.At), .d (.str qx1.Stamp.By), .d (.int .i64 qx1.Stamp.No)]), (1, [.fn 124 [2]]), (2, [.d (.int .i64 qx2)])]⟩)

theorem z1291 {qx : api_Cell} {qx1 : api_Cell} {qx2 : Int} {r} (hF : z1289 qx qx1 qx2 = some r) : Holds prog 176 [.v (.agg [.d (.str qx.Prop_.Name), .d (.int .i64 qx.Prop_.Value.Kind), .d (.bool qx.Prop_.Value.Flag), .d (.int .i64 qx.Prop_.Value.Number), .d (.str qx.Prop_.Value.Words), .d (.int .i64 qx.Stamp.At), .d (.str qx.Stamp.By), .d (.int .i64 qx.Stamp.No)]), .v (.one (.box 0 0)), .v (.one (.box 1 0))] ⟨[], [(0, [.d (.str qx1.Prop_.Name), .d (.int .i64 qx1.Prop_.Value.Kind), .d (.bool qx1.Prop_.Value.Flag), .d (.int .i64 qx1.Prop_.Value.Number), .d (.str qx1.Prop_.Value.Words), .d (.int .i64 qx1.Stamp.At), .d (.str qx1.Stamp.By), .d (.int .i64 qx1.Stamp.No)]), (1, [.fn 124 [2]]), (2, [.d (.int .i64 qx2)])]⟩ (Is (z1290 qx qx1 qx2 r)) := by
  unfold z1289 at hF
  refine holds_of_awp hΓ (fn := f176) (c := cB f176) (A := 3) (nx := 3) (by kernel_rfl) (by kernel_rfl) (by kernel_rfl) (by kernel_rfl) (by kernel_rfl) (by kernel_rfl) (lowc_of (by kernel_rfl)) ?_
  show Awp prog 3 13 (cB f176) _ _
  refine awp_seq ?_
  refine awp_region ?_
  refine aR 2 ?_
  refine aE ?_
  refine awp_seq ?_
  refine awp_to (st' := z1293 qx qx1 qx2) (oT [] []) ?_
  refine bE hF fun vx1 h4 hF => ?_
  refine awp_sub (z1296 qx qx1 qx2 h4) ?_
  refine awp_ret ?_
  exact oF hF [] []

/-! ### slices.IndexFunc[[]beaconfleet/api.Cell,beaconfleet/api.Cell] -/
def z627 : Unit ⊕ Int → AEx
  | .inl _ => .exit 0
  | .inr _ => .ret

def z626 (qs : List api_Cell) (qf : api_Cell) (qf1 : Int) : Unit ⊕ Int → St
  | .inl _ => Mem.st ⟨[], [(0, [.d (.str qf.Prop_.Name), .d (.int .i64 qf.Prop_.Value.Kind), .d (.bool qf.Prop_.Value.Flag), .d (.int .i64 qf.Prop_.Value.Number), .d (.str qf.Prop_.Value.Words), .d (.int .i64 qf.Stamp.At), .d (.str qf.Stamp.By), .d (.int .i64 qf.Stamp.No)]), (1, [.fn 124 [2]]), (2, [.d (.int .i64 qf1)])]⟩ (tl []) 3
  | .inr vx1 => Mem.st ⟨[], [(0, [.d (.str qf.Prop_.Name), .d (.int .i64 qf.Prop_.Value.Kind), .d (.bool qf.Prop_.Value.Flag), .d (.int .i64 qf.Prop_.Value.Number), .d (.str qf.Prop_.Value.Words), .d (.int .i64 qf.Stamp.At), .d (.str qf.Stamp.By), .d (.int .i64 qf.Stamp.No)]), (1, [.fn 124 [2]]), (2, [.d (.int .i64 qf1)])]⟩ (tl [(4, .v (.one (.d (.int .i64 vx1))))]) 3

def z625 (qs : List api_Cell) (qf : api_Cell) (qf1 : Int) : Int → St
  | vx => Mem.st ⟨[], [(0, [.d (.str qf.Prop_.Name), .d (.int .i64 qf.Prop_.Value.Kind), .d (.bool qf.Prop_.Value.Flag), .d (.int .i64 qf.Prop_.Value.Number), .d (.str qf.Prop_.Value.Words), .d (.int .i64 qf.Stamp.At), .d (.str qf.Stamp.By), .d (.int .i64 qf.Stamp.No)]), (1, [.fn 124 [2]]), (2, [.d (.int .i64 qf1)])]⟩ (tl [(0, .v (.one (.d (.lst (List.map api_Cell.enc qs))))), (1, .v (.one (.fn 176 [0, 1]))), (7, .v (.one (.d (.int .i64 (qs.length : Int))))), (8, .v (.one (.d (.int .i64 vx))))]) 3

theorem z628 (qs : List api_Cell) (qf : api_Cell) (qf1 : Int) (vx : Int) (r : (Int) ⊕ (Unit ⊕ Int)) (hF : z624 qs qf qf1 vx = some r) : Awp prog 3 19 (cL (cL (cR (cL (cR (cB f178)))))) (Out 3 (kk z627) (SS (z625 qs qf qf1) (z626 qs qf qf1)) r) (z625 qs qf qf1 vx) := by
  unfold z624 at hF
  refine awp_seq ?_
  refine awp_region ?_
  refine aR 1 ?_
  refine aE ?_
  refine awp_seq ?_
  refine cE hF (fun h1 hF => ?_) fun h1 hF => ?_
  · refine awp_true (by kernel_rfl) h1 ?_
    refine awp_skip ?_
    refine awp_seq ?_
    refine awp_block ?_
    refine awp_seq ?_
    refine awp_region ?_
    refine aR 2 ?_
    refine aE ?_
    refine awp_seq ?_
    refine bE hF fun vy1 h2 hF => ?_
    refine bE hF fun vr1 h3 hF => ?_
    refine awp_region ?_
    refine aR 3 ?_
    refine aX (x_idx api_Cell.enc h2) ?_
    refine aR 1 ?_
    refine aC (z1291 h3) [] [] [] ?_
    refine aE ?_
    refine cE hF (fun h4 hF => ?_) fun h4 hF => ?_
    · refine awp_true (by kernel_rfl) h4 ?_
      refine awp_seq ?_
      refine awp_region ?_
      refine aR 2 ?_
      refine aE ?_
      refine awp_ret ?_
      exact oO hF [] [] rfl
    · refine awp_false (by kernel_rfl) h4 ?_
      refine awp_skip ?_
      refine awp_region ?_
      refine aR 2 ?_
      refine aE ?_
      exact oO hF [] [] rfl
  · refine awp_false (by kernel_rfl) h1 ?_
    refine awp_exit ?_
    exact oO hF [] [] rfl

def z622 (qs : List api_Cell) (qf : api_Cell) (qf1 : Int) (r : Int) : TV × Mem := (.v (.one (.d (.int .i64 r))), ⟨[], [(0, [.d (.str qf.Prop_.Name), .d (.int .i64 qf.Prop_.Value.Kind), .d (.bool qf.Prop_.Value.Flag), .d (.int .i64 qf.Prop_.Value.Number), .d (.str qf.Prop_.Value.Words), .d (.int .i64 qf.Stamp.At), .d (.str qf.Stamp.By), .d (.int .i64 qf.Stamp.No)]), (1, [.fn 124 [2]]), (2, [.d (.int .i64 qf1)])]⟩)

theorem z623 {qs : List api_Cell} {qf : api_Cell} {qf1 : Int} {r} (hF : z621 qs qf qf1 = some r) : Holds prog 178 [.v (.one (.d (.lst (List.map api_Cell.enc qs)))), .v (.one (.fn 176 [0, 1]))] ⟨[], [(0, [.d (.str qf.Prop_.Name), .d (.int .i64 qf.Prop_.Value.Kind), .d (.bool qf.Prop_.Value.Flag), .d (.int .i64 qf.Prop_.Value.Number), .d (.str qf.Prop_.Value.Words), .d (.int .i64 qf.Stamp.At), .d (.str qf.Stamp.By), .d (.int .i64 qf.Stamp.No)]), (1, [.fn 124 [2]]), (2, [.d (.int .i64 qf1)])]⟩ (Is (z622 qs qf qf1 r)) := by
  unfold z621 at hF
  refine holds_of_awp hΓ (fn := f178) (c := cB f178) (A := 3) (nx := 3) (by kernel_rfl) (by kernel_rfl) (by kernel_rfl) (by kernel_rfl) (by kernel_rfl) (by kernel_rfl) (lowc_of (by kernel_rfl)) ?_
  show Awp prog 3 19 (cB f178) _ _
  refine awp_seq ?_
  refine awp_region ?_
  refine aR 1 ?_
  refine aE ?_
  refine awp_seq ?_
  refine awp_seq ?_
  refine awp_region ?_
  refine aR 1 ?_
  refine aL api_Cell.enc qs ?_
  refine aR 1 ?_
  refine aE ?_
  refine awp_block ?_
  refine awp_to (st' := z625 qs qf qf1 0) (oT [] []) ?_
  refine bE hF fun x h5 hF => ?_
  rcases x with _ | vx1_1
  · refine awp_sub (awp_loop' (z625 qs qf qf1) z627 (z626 qs qf qf1) (by intro x; rcases x with x | x <;> exact fun h => nomatch h) h5 (z628 qs qf qf1)) ?_
    refine awp_seq ?_
    refine awp_region ?_
    refine aR 1 ?_
    refine aE ?_
    refine awp_ret ?_
    exact oF hF [] []
  · refine awp_sub (awp_loop' (z625 qs qf qf1) z627 (z626 qs qf qf1) (by intro x; rcases x with x | x <;> exact fun h => nomatch h) h5 (z628 qs qf qf1)) ?_
    exact oF hF [] []

/-! ### slices.ContainsFunc[[]beaconfleet/api.Cell,beaconfleet/api.Cell] -/
def z559 (qs : List api_Cell) (qf : api_Cell) (qf1 : Int) (r : Bool) : TV × Mem := (.v (.one (.d (.bool r))), ⟨[], [(0, [.d (.str qf.Prop_.Name), .d (.int .i64 qf.Prop_.Value.Kind), .d (.bool qf.Prop_.Value.Flag), .d (.int .i64 qf.Prop_.Value.Number), .d (.str qf.Prop_.Value.Words), .d (.int .i64 qf.Stamp.At), .d (.str qf.Stamp.By), .d (.int .i64 qf.Stamp.No)]), (1, [.fn 124 [2]]), (2, [.d (.int .i64 qf1)])]⟩)

theorem z560 {qs : List api_Cell} {qf : api_Cell} {qf1 : Int} {r} (hF : z558 qs qf qf1 = some r) : Holds prog 128 [.v (.one (.d (.lst (List.map api_Cell.enc qs)))), .v (.one (.fn 176 [0, 1]))] ⟨[], [(0, [.d (.str qf.Prop_.Name), .d (.int .i64 qf.Prop_.Value.Kind), .d (.bool qf.Prop_.Value.Flag), .d (.int .i64 qf.Prop_.Value.Number), .d (.str qf.Prop_.Value.Words), .d (.int .i64 qf.Stamp.At), .d (.str qf.Stamp.By), .d (.int .i64 qf.Stamp.No)]), (1, [.fn 124 [2]]), (2, [.d (.int .i64 qf1)])]⟩ (Is (z559 qs qf qf1 r)) := by
  unfold z558 at hF
  refine holds_of_awp hΓ (fn := f128) (c := cB f128) (A := 3) (nx := 3) (by kernel_rfl) (by kernel_rfl) (by kernel_rfl) (by kernel_rfl) (by kernel_rfl) (by kernel_rfl) (lowc_of (by kernel_rfl)) ?_
  show Awp prog 3 9 (cB f128) _ _
  refine awp_seq ?_
  refine awp_region ?_
  refine aR 1 ?_
  refine aE ?_
  refine awp_seq ?_
  refine bE hF fun vr2 h1 hF => ?_
  refine awp_region ?_
  refine aR 2 ?_
  refine aC (z623 h1) [] [] [] ?_
  refine aR 2 ?_
  refine aE ?_
  refine awp_ret ?_
  exact oF hF [] []

/-! ### beaconfleet/twin.hidden -/
def z1298 (ql : List api_Cell) (qy : api_Cell) (qcounts : Int) (r : Bool) : TV × Mem := (.v (.one (.d (.bool r))), ⟨[], [(0, [.d (.int .i64 qcounts)])]⟩)

theorem z1299 {ql : List api_Cell} {qy : api_Cell} {qcounts : Int} {r} (hF : z1297 ql qy qcounts = some r) : Holds prog 125 [.v (.one (.d (.lst (List.map api_Cell.enc ql)))), .v (.agg [.d (.str qy.Prop_.Name), .d (.int .i64 qy.Prop_.Value.Kind), .d (.bool qy.Prop_.Value.Flag), .d (.int .i64 qy.Prop_.Value.Number), .d (.str qy.Prop_.Value.Words), .d (.int .i64 qy.Stamp.At), .d (.str qy.Stamp.By), .d (.int .i64 qy.Stamp.No)]), .v (.one (.fn 124 [0]))] ⟨[], [(0, [.d (.int .i64 qcounts)])]⟩ (Is (z1298 ql qy qcounts r)) := by
  unfold z1297 at hF
  refine holds_of_awp hΓ (fn := f125) (c := cB f125) (A := 1) (nx := 1) (by kernel_rfl) (by kernel_rfl) (by kernel_rfl) (by kernel_rfl) (by kernel_rfl) (by kernel_rfl) (lowc_of (by kernel_rfl)) ?_
  show Awp prog 1 10 (cB f125) _ _
  refine awp_seq ?_
  refine awp_region ?_
  refine aR 3 ?_
  refine aE ?_
  refine awp_seq ?_
  refine bE hF fun vr h1 hF => ?_
  refine awp_region ?_
  refine aR 2 ?_
  refine aC (z560 h1) [(0, 1), (1, 1001), (2, 0)] [] [] ?_
  refine aR 1 ?_
  refine aE ?_
  refine awp_ret ?_
  exact oF hF [] []

/-! ### beaconfleet/twin.Compact$2 -/
def z1189 (qx : api_Cell) (qx1 : api_Cell) (r : Bool) : TV × Mem := (.v (.one (.d (.bool r))), ⟨[], [(0, [.d (.str qx1.Prop_.Name), .d (.int .i64 qx1.Prop_.Value.Kind), .d (.bool qx1.Prop_.Value.Flag), .d (.int .i64 qx1.Prop_.Value.Number), .d (.str qx1.Prop_.Value.Words), .d (.int .i64 qx1.Stamp.At), .d (.str qx1.Stamp.By), .d (.int .i64 qx1.Stamp.No)])]⟩)

theorem z1190 {qx : api_Cell} {qx1 : api_Cell} {r} (hF : z1188 qx qx1 = some r) : Holds prog 126 [.v (.agg [.d (.str qx.Prop_.Name), .d (.int .i64 qx.Prop_.Value.Kind), .d (.bool qx.Prop_.Value.Flag), .d (.int .i64 qx.Prop_.Value.Number), .d (.str qx.Prop_.Value.Words), .d (.int .i64 qx.Stamp.At), .d (.str qx.Stamp.By), .d (.int .i64 qx.Stamp.No)]), .v (.one (.box 0 0))] ⟨[], [(0, [.d (.str qx1.Prop_.Name), .d (.int .i64 qx1.Prop_.Value.Kind), .d (.bool qx1.Prop_.Value.Flag), .d (.int .i64 qx1.Prop_.Value.Number), .d (.str qx1.Prop_.Value.Words), .d (.int .i64 qx1.Stamp.At), .d (.str qx1.Stamp.By), .d (.int .i64 qx1.Stamp.No)])]⟩ (Is (z1189 qx qx1 r)) := by
  unfold z1188 at hF
  refine holds_of_awp hΓ (fn := f126) (c := cB f126) (A := 1) (nx := 1) (by kernel_rfl) (by kernel_rfl) (by kernel_rfl) (by kernel_rfl) (by kernel_rfl) (by kernel_rfl) (lowc_of (by kernel_rfl)) ?_
  show Awp prog 1 11 (cB f126) _ _
  refine awp_seq ?_
  refine awp_region ?_
  refine aR 2 ?_
  refine aE ?_
  refine awp_seq ?_
  refine bE hF fun vr h1 hF => ?_
  refine awp_region ?_
  refine aR 6 ?_
  refine aC (z8 h1) [] [] [] ?_
  refine aR 1 ?_
  refine aE ?_
  refine awp_ret ?_
  exact oF hF [] []

/-! ### slices.IndexFunc[[]beaconfleet/api.Cell,beaconfleet/api.Cell] -/
def z611 : Unit ⊕ Int → AEx
  | .inl _ => .exit 0
  | .inr _ => .ret

def z610 (qs : List api_Cell) (qf : api_Cell) : Unit ⊕ Int → St
  | .inl _ => Mem.st ⟨[], [(0, [.d (.str qf.Prop_.Name), .d (.int .i64 qf.Prop_.Value.Kind), .d (.bool qf.Prop_.Value.Flag), .d (.int .i64 qf.Prop_.Value.Number), .d (.str qf.Prop_.Value.Words), .d (.int .i64 qf.Stamp.At), .d (.str qf.Stamp.By), .d (.int .i64 qf.Stamp.No)])]⟩ (tl []) 1
  | .inr vx1 => Mem.st ⟨[], [(0, [.d (.str qf.Prop_.Name), .d (.int .i64 qf.Prop_.Value.Kind), .d (.bool qf.Prop_.Value.Flag), .d (.int .i64 qf.Prop_.Value.Number), .d (.str qf.Prop_.Value.Words), .d (.int .i64 qf.Stamp.At), .d (.str qf.Stamp.By), .d (.int .i64 qf.Stamp.No)])]⟩ (tl [(4, .v (.one (.d (.int .i64 vx1))))]) 1

def z609 (qs : List api_Cell) (qf : api_Cell) : Int → St
  | vx => Mem.st ⟨[], [(0, [.d (.str qf.Prop_.Name), .d (.int .i64 qf.Prop_.Value.Kind), .d (.bool qf.Prop_.Value.Flag), .d (.int .i64 qf.Prop_.Value.Number), .d (.str qf.Prop_.Value.Words), .d (.int .i64 qf.Stamp.At), .d (.str qf.Stamp.By), .d (.int .i64 qf.Stamp.No)])]⟩ (tl [(0, .v (.one (.d (.lst (List.map api_Cell.enc qs))))), (1, .v (.one (.fn 126 [0]))), (7, .v (.one (.d (.int .i64 (qs.length : Int))))), (8, .v (.one (.d (.int .i64 vx))))]) 1

theorem z612 (qs : List api_Cell) (qf : api_Cell) (vx : Int) (r : (Int) ⊕ (Unit ⊕ Int)) (hF : z608 qs qf vx = some r) : Awp prog 1 19 (cL (cL (cR (cL (cR (cB f178)))))) (Out 1 (kk z611) (SS (z609 qs qf) (z610 qs qf)) r) (z609 qs qf vx) := by
  unfold z608 at hF
  refine awp_seq ?_
  refine awp_region ?_
  refine aR 1 ?_
  refine aE ?_
  refine awp_seq ?_
  refine cE hF (fun h1 hF => ?_) fun h1 hF => ?_
  · refine awp_true (by kernel_rfl) h1 ?_
    refine awp_skip ?_
    refine awp_seq ?_
    refine awp_block ?_
    refine awp_seq ?_
    refine awp_region ?_
    refine aR 2 ?_
    refine aE ?_
    refine awp_seq ?_
    refine bE hF fun vy1 h2 hF => ?_
    refine bE hF fun vr1_1 h3 hF => ?_
    refine awp_region ?_
    refine aR 3 ?_
    refine aX (x_idx api_Cell.enc h2) ?_
    refine aR 1 ?_
    refine aC (z1190 h3) [] [] [] ?_
    refine aE ?_
    refine cE hF (fun h4 hF => ?_) fun h4 hF => ?_
    · refine awp_true (by kernel_rfl) h4 ?_
      refine awp_seq ?_
      refine awp_region ?_
      refine aR 2 ?_
      refine aE ?_
      refine awp_ret ?_
      exact oO hF [] [] rfl
    · refine awp_false (by kernel_rfl) h4 ?_
      refine awp_skip ?_
      refine awp_region ?_
      refine aR 2 ?_
      refine aE ?_
      exact oO hF [] [] rfl
  · refine awp_false (by kernel_rfl) h1 ?_
    refine awp_exit ?_
    exact oO hF [] [] rfl

def z606 (qs : List api_Cell) (qf : api_Cell) (r : Int) : TV × Mem := (.v (.one (.d (.int .i64 r))), ⟨[], [(0, [.d (.str qf.Prop_.Name), .d (.int .i64 qf.Prop_.Value.Kind), .d (.bool qf.Prop_.Value.Flag), .d (.int .i64 qf.Prop_.Value.Number), .d (.str qf.Prop_.Value.Words), .d (.int .i64 qf.Stamp.At), .d (.str qf.Stamp.By), .d (.int .i64 qf.Stamp.No)])]⟩)

theorem z607 {qs : List api_Cell} {qf : api_Cell} {r} (hF : z605 qs qf = some r) : Holds prog 178 [.v (.one (.d (.lst (List.map api_Cell.enc qs)))), .v (.one (.fn 126 [0]))] ⟨[], [(0, [.d (.str qf.Prop_.Name), .d (.int .i64 qf.Prop_.Value.Kind), .d (.bool qf.Prop_.Value.Flag), .d (.int .i64 qf.Prop_.Value.Number), .d (.str qf.Prop_.Value.Words), .d (.int .i64 qf.Stamp.At), .d (.str qf.Stamp.By), .d (.int .i64 qf.Stamp.No)])]⟩ (Is (z606 qs qf r)) := by
  unfold z605 at hF
  refine holds_of_awp hΓ (fn := f178) (c := cB f178) (A := 1) (nx := 1) (by kernel_rfl) (by kernel_rfl) (by kernel_rfl) (by kernel_rfl) (by kernel_rfl) (by kernel_rfl) (lowc_of (by kernel_rfl)) ?_
  show Awp prog 1 19 (cB f178) _ _
  refine awp_seq ?_
  refine awp_region ?_
  refine aR 1 ?_
  refine aE ?_
  refine awp_seq ?_
  refine awp_seq ?_
  refine awp_region ?_
  refine aR 1 ?_
  refine aL api_Cell.enc qs ?_
  refine aR 1 ?_
  refine aE ?_
  refine awp_block ?_
  refine awp_to (st' := z609 qs qf 0) (oT [] []) ?_
  refine bE hF fun x h5 hF => ?_
  rcases x with _ | vx1_1
  · refine awp_sub (awp_loop' (z609 qs qf) z611 (z610 qs qf) (by intro x; rcases x with x | x <;> exact fun h => nomatch h) h5 (z612 qs qf)) ?_
    refine awp_seq ?_
    refine awp_region ?_
    refine aR 1 ?_
    refine aE ?_
    refine awp_ret ?_
    exact oF hF [] []
  · refine awp_sub (awp_loop' (z609 qs qf) z611 (z610 qs qf) (by intro x; rcases x with x | x <;> exact fun h => nomatch h) h5 (z612 qs qf)) ?_
    exact oF hF [] []

/-! ### slices.ContainsFunc[[]beaconfleet/api.Cell,beaconfleet/api.Cell] -/
def z553 (qs : List api_Cell) (qf : api_Cell) (r : Bool) : TV × Mem := (.v (.one (.d (.bool r))), ⟨[], [(0, [.d (.str qf.Prop_.Name), .d (.int .i64 qf.Prop_.Value.Kind), .d (.bool qf.Prop_.Value.Flag), .d (.int .i64 qf.Prop_.Value.Number), .d (.str qf.Prop_.Value.Words), .d (.int .i64 qf.Stamp.At), .d (.str qf.Stamp.By), .d (.int .i64 qf.Stamp.No)])]⟩)

theorem z554 {qs : List api_Cell} {qf : api_Cell} {r} (hF : z552 qs qf = some r) : Holds prog 128 [.v (.one (.d (.lst (List.map api_Cell.enc qs)))), .v (.one (.fn 126 [0]))] ⟨[], [(0, [.d (.str qf.Prop_.Name), .d (.int .i64 qf.Prop_.Value.Kind), .d (.bool qf.Prop_.Value.Flag), .d (.int .i64 qf.Prop_.Value.Number), .d (.str qf.Prop_.Value.Words), .d (.int .i64 qf.Stamp.At), .d (.str qf.Stamp.By), .d (.int .i64 qf.Stamp.No)])]⟩ (Is (z553 qs qf r)) := by
  unfold z552 at hF
  refine holds_of_awp hΓ (fn := f128) (c := cB f128) (A := 1) (nx := 1) (by kernel_rfl) (by kernel_rfl) (by kernel_rfl) (by kernel_rfl) (by kernel_rfl) (by kernel_rfl) (lowc_of (by kernel_rfl)) ?_
  show Awp prog 1 9 (cB f128) _ _
  refine awp_seq ?_
  refine awp_region ?_
  refine aR 1 ?_
  refine aE ?_
  refine awp_seq ?_
  refine bE hF fun vr h1 hF => ?_
  refine awp_region ?_
  refine aR 2 ?_
  refine aC (z607 h1) [] [] [] ?_
  refine aR 2 ?_
  refine aE ?_
  refine awp_ret ?_
  exact oF hF [] []

/-! ### beaconfleet/twin.Compact -/
def z1201 : (List api_Cell) → AEx
  | _ => .normal

def z1200 (qx : List api_Cell) (qx1 : Int) (vx : List api_Cell) (vx1 : Int) : (List api_Cell) → St
  | vx3 => Mem.st ⟨[(1, ⟨106, 8, List.map api_Cell.enc vx3⟩)], [(0, [.d (.int .i64 qx1)])]⟩ (tl [(0, .v (.one (.d (.lst (List.map api_Cell.enc qx))))), (7, .v (.one (.fn 124 [0]))), (8, .v (.one (.own 1 none))), (9, .v (.one (.nil))), (23, .v (.one (.d (.lst (List.map api_Cell.enc qx))))), (24, .v (.one (.d (.int .i64 (qx.length : Int))))), (25, .v (.one (.d (.int .i64 vx1))))]) 2

def z1199 (qx : List api_Cell) (qx1 : Int) (vx : List api_Cell) (vx1 : Int) : St := Mem.st ⟨[(1, ⟨106, 8, List.map api_Cell.enc vx⟩)], [(0, [.d (.int .i64 qx1)])]⟩ (tl [(0, .v (.one (.d (.lst (List.map api_Cell.enc qx))))), (7, .v (.one (.fn 124 [0]))), (8, .v (.one (.own 1 none))), (9, .v (.one (.nil))), (23, .v (.one (.d (.lst (List.map api_Cell.enc qx))))), (24, .v (.one (.d (.int .i64 (qx.length : Int))))), (25, .v (.one (.d (.int .i64 vx1))))]) 2

theorem z1202 (qx : List api_Cell) (qx1 : Int) (vx : List api_Cell) (vx1 : Int) {r} (hF : z1198 qx qx1 vx vx1 = some r) : Awp prog 0 68 (cL (cR (cR (cL (cL (cR (cL (cR (cR (cR (cR (cR (cB f49))))))))))))) (Out 0 z1201 (z1200 qx qx1 vx vx1) r) (z1199 qx qx1 vx vx1) := by
  unfold z1198 at hF
  refine awp_block ?_
  refine awp_seq ?_
  refine bE hF fun vy1 h6 hF => ?_
  refine awp_region ?_
  refine aX (x_idx api_Cell.enc h6) ?_
  refine aR 3 ?_
  refine aE ?_
  refine awp_seq ?_
  refine bE hF fun vr1_1 h7 hF => ?_
  refine awp_region ?_
  refine aR 3 ?_
  refine aC (z1299 h7) [] [] [] ?_
  refine aR 1 ?_
  refine aE ?_
  refine cE hF (fun h8 hF => ?_) fun h8 hF => ?_
  · refine awp_true (by kernel_rfl) h8 ?_
    refine gE hF fun h9 hF => ?_
    refine awp_region ?_
    refine aR 3 ?_
    refine aX (x_app api_Cell.enc 1 h9) ?_
    refine aR 1 ?_
    refine aE ?_
    exact oO hF [(1, 12002)] [] rfl
  · refine awp_false (by kernel_rfl) h8 ?_
    refine awp_skip ?_
    exact oO hF [] [] rfl

def z1196 : (List api_Cell) → AEx
  | _ => .exit 0

def z1195 (qx : List api_Cell) (qx1 : Int) : (List api_Cell) → St
  | vx4 => Mem.st ⟨[(1, ⟨106, 8, List.map api_Cell.enc vx4⟩)], [(0, [.d (.int .i64 qx1)])]⟩ (tl [(7, .v (.one (.fn 124 [0]))), (8, .v (.one (.own 1 none))), (9, .v (.one (.nil)))]) 2

def z1194 (qx : List api_Cell) (qx1 : Int) : (List api_Cell) × Int → St
  | (vx, vx1) => Mem.st ⟨[(1, ⟨106, 8, List.map api_Cell.enc vx⟩)], [(0, [.d (.int .i64 qx1)])]⟩ (tl [(0, .v (.one (.d (.lst (List.map api_Cell.enc qx))))), (7, .v (.one (.fn 124 [0]))), (8, .v (.one (.own 1 none))), (9, .v (.one (.nil))), (23, .v (.one (.d (.lst (List.map api_Cell.enc qx))))), (24, .v (.one (.d (.int .i64 (qx.length : Int))))), (25, .v (.one (.d (.int .i64 vx1))))]) 2

theorem z1197 (qx : List api_Cell) (qx1 : Int) (s : (List api_Cell) × Int) (r : ((List api_Cell) × Int) ⊕ ((List api_Cell))) (hF : z1193 qx qx1 s = some r) : Awp prog 0 68 (cL (cL (cR (cL (cR (cR (cR (cR (cR (cB f49)))))))))) (Out 0 (kk z1196) (SS (z1194 qx qx1) (z1195 qx qx1)) r) (z1194 qx qx1 s) := by
  obtain ⟨vx, vx1⟩ := s
  unfold z1193 at hF
  refine awp_seq ?_
  refine awp_region ?_
  refine aR 1 ?_
  refine aE ?_
  refine awp_seq ?_
  refine cE hF (fun h5 hF => ?_) fun h5 hF => ?_
  · refine awp_true (by kernel_rfl) h5 ?_
    refine awp_skip ?_
    refine awp_seq ?_
    refine awp_to (st' := z1199 qx qx1 vx vx1) (oT [] []) ?_
    refine bE hF fun vx3_1 h10 hF => ?_
    refine awp_sub (z1202 qx qx1 vx vx1 h10) ?_
    refine awp_region ?_
    refine aR 2 ?_
    refine aE ?_
    exact oO hF [] [] rfl
  · refine awp_false (by kernel_rfl) h5 ?_
    refine awp_exit ?_
    exact oO hF [] [] rfl

def z1216 : Bool → AEx
  | _ => .normal

def z1215 (qx1 : Int) (vx4_1 : List api_Cell) (vx5 : List api_Cell) (vx6 : Int) (vy3 : api_Cell) : Bool → St
  | vx9 => Mem.st ⟨[(2, ⟨106, 8, List.map api_Cell.enc vx4_1⟩), (3, ⟨106, 8, List.map api_Cell.enc vx5⟩)], [(0, [.d (.str vy3.Prop_.Name), .d (.int .i64 vy3.Prop_.Value.Kind), .d (.bool vy3.Prop_.Value.Flag), .d (.int .i64 vy3.Prop_.Value.Number), .d (.str vy3.Prop_.Value.Words), .d (.int .i64 vy3.Stamp.At), .d (.str vy3.Stamp.By), .d (.int .i64 vy3.Stamp.No)]), (1, [.d (.int .i64 qx1)])]⟩ (tl [(7, .v (.one (.fn 124 [1]))), (8, .v (.one (.own 2 none))), (9, .v (.one (.own 3 none))), (13, .v (.one (.box 0 0))), (39, .v (.one (.own 2 none))), (40, .v (.one (.d (.int .i64 (vx4_1.length : Int))))), (41, .v (.one (.d (.int .i64 vx6)))), (61, .v (.one (.d (.bool vx9))))]) 4

def z1214 (qx1 : Int) (vx4_1 : List api_Cell) (vx5 : List api_Cell) (vx6 : Int) (vy3 : api_Cell) : St := Mem.st ⟨[(2, ⟨106, 8, List.map api_Cell.enc vx4_1⟩), (3, ⟨106, 8, List.map api_Cell.enc vx5⟩)], [(0, [.d (.str vy3.Prop_.Name), .d (.int .i64 vy3.Prop_.Value.Kind), .d (.bool vy3.Prop_.Value.Flag), .d (.int .i64 vy3.Prop_.Value.Number), .d (.str vy3.Prop_.Value.Words), .d (.int .i64 vy3.Stamp.At), .d (.str vy3.Stamp.By), .d (.int .i64 vy3.Stamp.No)]), (1, [.d (.int .i64 qx1)])]⟩ (tl [(7, .v (.one (.fn 124 [1]))), (8, .v (.one (.own 2 none))), (9, .v (.one (.own 3 none))), (13, .v (.one (.box 0 0))), (14, .v (.one (.fn 126 [0]))), (39, .v (.one (.own 2 none))), (40, .v (.one (.d (.int .i64 (vx4_1.length : Int))))), (41, .v (.one (.d (.int .i64 vx6))))]) 4

theorem z1217 (qx1 : Int) (vx4_1 : List api_Cell) (vx5 : List api_Cell) (vx6 : Int) (vy3 : api_Cell) {r} (hF : z1213 qx1 vx4_1 vy3 = some r) : Awp prog 0 68 (cL (cR (cR (cL (cL (cR (cR (cL (cL (cR (cL (cR (cR (cR (cR (cR (cR (cB f49)))))))))))))))))) (Out 0 z1216 (z1215 qx1 vx4_1 vx5 vx6 vy3) r) (z1214 qx1 vx4_1 vx5 vx6 vy3) := by
  unfold z1213 at hF
  refine cE hF (fun h14 hF => ?_) fun h14 hF => ?_
  · refine awp_region ?_
    refine aR 4 ?_
    refine aB h14 ?_
    refine aR 11 ?_
    refine aE ?_
    exact oO hF [] [] rfl
  · refine bE hF fun _ h15 hF => ?_
    refine cE hF (fun h16 hF => ?_) fun h16 hF => ?_
    · refine awp_region ?_
      refine aR 4 ?_
      refine aB h14 ?_
      refine aR 3 ?_
      refine aC (z1187 h15) [(0, 1)] [] [] ?_
      refine aB h16 ?_
      refine aR 6 ?_
      refine aE ?_
      exact oO hF [] [] rfl
    · refine bE hF fun vr1_3 h17 hF => ?_
      refine awp_region ?_
      refine aR 4 ?_
      refine aB h14 ?_
      refine aR 3 ?_
      refine aC (z1187 h15) [(0, 1)] [] [] ?_
      refine aB h16 ?_
      refine aR 4 ?_
      refine aC (z554 h17) [] [] [2] ?_
      refine aR 1 ?_
      refine aE ?_
      exact oO hF [] [] rfl

def z1211 : (List api_Cell) → AEx
  | _ => .normal

def z1210 (qx1 : Int) (vx4_1 : List api_Cell) (vx5 : List api_Cell) (vx6 : Int) : (List api_Cell) → St
  | vx10 => Mem.st ⟨[(1, ⟨106, 8, List.map api_Cell.enc vx4_1⟩), (2, ⟨106, 8, List.map api_Cell.enc vx10⟩)], [(0, [.d (.int .i64 qx1)])]⟩ (tl [(7, .v (.one (.fn 124 [0]))), (8, .v (.one (.own 1 none))), (9, .v (.one (.own 2 none))), (39, .v (.one (.own 1 none))), (40, .v (.one (.d (.int .i64 (vx4_1.length : Int))))), (41, .v (.one (.d (.int .i64 vx6))))]) 3

def z1209 (qx1 : Int) (vx4_1 : List api_Cell) (vx5 : List api_Cell) (vx6 : Int) : St := Mem.st ⟨[(1, ⟨106, 8, List.map api_Cell.enc vx4_1⟩), (2, ⟨106, 8, List.map api_Cell.enc vx5⟩)], [(0, [.d (.int .i64 qx1)])]⟩ (tl [(7, .v (.one (.fn 124 [0]))), (8, .v (.one (.own 1 none))), (9, .v (.one (.own 2 none))), (39, .v (.one (.own 1 none))), (40, .v (.one (.d (.int .i64 (vx4_1.length : Int))))), (41, .v (.one (.d (.int .i64 vx6))))]) 3

theorem z1212 (qx1 : Int) (vx4_1 : List api_Cell) (vx5 : List api_Cell) (vx6 : Int) {r} (hF : z1208 qx1 vx4_1 vx5 vx6 = some r) : Awp prog 0 68 (cL (cR (cR (cL (cL (cR (cL (cR (cR (cR (cR (cR (cR (cB f49)))))))))))))) (Out 0 z1211 (z1210 qx1 vx4_1 vx5 vx6) r) (z1209 qx1 vx4_1 vx5 vx6) := by
  unfold z1208 at hF
  refine awp_block ?_
  refine awp_seq ?_
  refine bE hF fun vy3 h13 hF => ?_
  refine awp_region ?_
  refine aX (x_idxO api_Cell.enc 1 h13) ?_
  refine aX (x_ldE api_Cell.enc h13) ?_
  refine aR 2 ?_
  refine aE ?_
  refine awp_seq ?_
  refine awp_region ?_
  refine aR 2 ?_
  refine aE ?_
  refine awp_seq ?_
  refine awp_to (st' := z1214 qx1 vx4_1 vx5 vx6 vy3) (oT [(0, 2003), (1, 0), (2, 1), (3, 2)] []) ?_
  refine bE hF fun vx9_1 h18 hF => ?_
  refine awp_sub (z1217 qx1 vx4_1 vx5 vx6 vy3 h18) ?_
  refine cE hF (fun h19 hF => ?_) fun h19 hF => ?_
  · refine awp_true (by kernel_rfl) h19 ?_
    refine gE hF fun h20 hF => ?_
    refine awp_region ?_
    refine aR 3 ?_
    refine aX (x_app api_Cell.enc 3 h20) ?_
    refine aR 1 ?_
    refine aE ?_
    exact oO hF [(0, 1), (1, 2), (2, 3004)] [] rfl
  · refine awp_false (by kernel_rfl) h19 ?_
    refine awp_skip ?_
    exact oO hF [(0, 1), (1, 2), (2, 3)] [] rfl

def z1206 : (List api_Cell) → AEx
  | _ => .exit 2

def z1205 (qx1 : Int) (vx4_1 : List api_Cell) : (List api_Cell) → St
  | vx11 => Mem.st ⟨[(0, ⟨106, 8, List.map api_Cell.enc vx11⟩)], []⟩ (tl [(9, .v (.one (.own 0 none)))]) 1

def z1204 (qx1 : Int) (vx4_1 : List api_Cell) : (List api_Cell) × Int → St
  | (vx5, vx6) => Mem.st ⟨[(1, ⟨106, 8, List.map api_Cell.enc vx4_1⟩), (2, ⟨106, 8, List.map api_Cell.enc vx5⟩)], [(0, [.d (.int .i64 qx1)])]⟩ (tl [(7, .v (.one (.fn 124 [0]))), (8, .v (.one (.own 1 none))), (9, .v (.one (.own 2 none))), (39, .v (.one (.own 1 none))), (40, .v (.one (.d (.int .i64 (vx4_1.length : Int))))), (41, .v (.one (.d (.int .i64 vx6))))]) 3

theorem z1207 (qx1 : Int) (vx4_1 : List api_Cell) (s : (List api_Cell) × Int) (r : ((List api_Cell) × Int) ⊕ ((List api_Cell))) (hF : z1203 qx1 vx4_1 s = some r) : Awp prog 0 68 (cL (cL (cR (cL (cR (cR (cR (cR (cR (cR (cB f49))))))))))) (Out 0 (kk z1206) (SS (z1204 qx1 vx4_1) (z1205 qx1 vx4_1)) r) (z1204 qx1 vx4_1 s) := by
  obtain ⟨vx5, vx6⟩ := s
  unfold z1203 at hF
  refine awp_seq ?_
  refine awp_region ?_
  refine aR 1 ?_
  refine aE ?_
  refine awp_seq ?_
  refine cE hF (fun h12 hF => ?_) fun h12 hF => ?_
  · refine awp_true (by kernel_rfl) h12 ?_
    refine awp_skip ?_
    refine awp_seq ?_
    refine awp_to (st' := z1209 qx1 vx4_1 vx5 vx6) (oT [] []) ?_
    refine bE hF fun vx10_1 h21 hF => ?_
    refine awp_sub (z1212 qx1 vx4_1 vx5 vx6 h21) ?_
    refine awp_region ?_
    refine aR 2 ?_
    refine aE ?_
    exact oO hF [] [] rfl
  · refine awp_false (by kernel_rfl) h12 ?_
    refine awp_exit ?_
    exact oO hF [(0, 2)] [] rfl

def z1191 (qx : List api_Cell) (qx1 : Int) (r : (List api_Cell) × Int) : TV × Mem := (.tup [.one (.own 0 none), .one (.d (.int .i64 r.2))], ⟨[(0, ⟨106, 8, List.map api_Cell.enc r.1⟩)], []⟩)

theorem z1192 {qx : List api_Cell} {qx1 : Int} {r} (hF : z1184 qx qx1 = some r) : Holds prog 49 [.v (.one (.d (.lst (List.map api_Cell.enc qx)))), .v (.one (.d (.int .i64 qx1)))] ⟨[], []⟩ (Is (z1191 qx qx1 r)) := by
  unfold z1184 at hF
  refine holds_of_awp hΓ (fn := f49) (c := cB f49) (A := 0) (nx := 0) (by kernel_rfl) (by kernel_rfl) (by kernel_rfl) (by kernel_rfl) (by kernel_rfl) (by kernel_rfl) (lowc_of (by kernel_rfl)) ?_
  show Awp prog 0 68 (cB f49) _ _
  refine awp_seq ?_
  refine awp_region ?_
  refine aR 3 ?_
  refine aE ?_
  refine awp_seq ?_
  refine awp_seq ?_
  refine bE hF fun vr6 h1 hF => ?_
  refine awp_region ?_
  refine aR 1 ?_
  refine aC (z1131 h1) [] [] [] ?_
  refine aR 1 ?_
  refine aE ?_
  refine awp_seq ?_
  refine awp_region ?_
  refine aR 2 ?_
  refine aE ?_
  refine cE hF (fun h2 hF => ?_) fun h2 hF => ?_
  · refine awp_true (by kernel_rfl) h2 ?_
    refine awp_seq ?_
    refine awp_region ?_
    refine aR 3 ?_
    refine aE ?_
    refine awp_ret ?_
    exact oF hF [] [0]
  · refine awp_false (by kernel_rfl) h2 ?_
    refine awp_skip ?_
    refine awp_seq ?_
    refine awp_seq ?_
    refine bE hF fun vr h3 hF => ?_
    refine awp_region ?_
    refine aR 1 ?_
    refine aC (z81 h3) [] [] [] ?_
    refine aE ?_
    refine cE hF (fun h4 hF => ?_) fun h4 hF => ?_
    · refine awp_true (by kernel_rfl) h4 ?_
      refine awp_seq ?_
      refine awp_region ?_
      refine aR 2 ?_
      refine aE ?_
      refine awp_ret ?_
      exact oF hF [] [0]
    · refine awp_false (by kernel_rfl) h4 ?_
      refine awp_skip ?_
      refine awp_seq ?_
      refine awp_region ?_
      refine aR 2 ?_
      refine aE ?_
      refine awp_seq ?_
      refine awp_region ?_
      refine aR 2 ?_
      refine aE ?_
      refine awp_seq ?_
      refine awp_seq ?_
      refine awp_region ?_
      refine aR 1 ?_
      refine aL api_Cell.enc qx ?_
      refine aR 1 ?_
      refine aE ?_
      refine awp_block ?_
      refine awp_to (st' := z1194 qx qx1 ([], 0)) (oT [] [1]) ?_
      refine bE hF fun vx4_1 h11 hF => ?_
      refine awp_sub (awp_loop' (z1194 qx qx1) z1196 (z1195 qx qx1) (by intro x; exact fun h => nomatch h) h11 (z1197 qx qx1)) ?_
      refine awp_seq ?_
      refine awp_seq ?_
      refine awp_region ?_
      refine aR 1 ?_
      refine aL api_Cell.enc vx4_1 ?_
      refine aR 1 ?_
      refine aE ?_
      refine awp_block ?_
      refine awp_to (st' := z1204 qx1 vx4_1 ([], 0)) (oT [] [2]) ?_
      refine bE hF fun vx11_1 h22 hF => ?_
      refine awp_sub (awp_loop' (z1204 qx1 vx4_1) z1206 (z1205 qx1 vx4_1) (by intro x; exact fun h => nomatch h) h22 (z1207 qx1 vx4_1)) ?_
      refine awp_seq ?_
      refine awp_region ?_
      refine aR 3 ?_
      refine aE ?_
      refine awp_ret ?_
      exact oF hF [] []

/-! ### beaconfleet/twin.Set -/
def z1234 (ql : List api_Cell) (qp : api_Prop) (qs : api_Stamp) (r : (List api_Cell) × Int) : TV × Mem := (.tup [.one (.own 0 none), .one (.d (.int .i64 r.2))], ⟨[(0, ⟨106, 8, List.map api_Cell.enc r.1⟩)], []⟩)

theorem z1235 {ql : List api_Cell} {qp : api_Prop} {qs : api_Stamp} {r} (hF : twin_Set ql qp qs = some r) : Holds prog 50 [.v (.one (.d (.lst (List.map api_Cell.enc ql)))), .v (.agg [.d (.str qp.Name), .d (.int .i64 qp.Value.Kind), .d (.bool qp.Value.Flag), .d (.int .i64 qp.Value.Number), .d (.str qp.Value.Words)]), .v (.agg [.d (.int .i64 qs.At), .d (.str qs.By), .d (.int .i64 qs.No)])] ⟨[], []⟩ (Is (z1234 ql qp qs r)) := by
  unfold twin_Set at hF
  refine holds_of_awp hΓ (fn := f50) (c := cB f50) (A := 0) (nx := 0) (by kernel_rfl) (by kernel_rfl) (by kernel_rfl) (by kernel_rfl) (by kernel_rfl) (by kernel_rfl) (lowc_of (by kernel_rfl)) ?_
  show Awp prog 0 32 (cB f50) _ _
  refine awp_seq ?_
  refine awp_region ?_
  refine aR 4 ?_
  refine aE ?_
  refine awp_seq ?_
  refine awp_region ?_
  refine aR 5 ?_
  refine aE ?_
  refine awp_to (oT (m := ⟨[], [(0, [.d (.str qp.Name), .d (.int .i64 qp.Value.Kind), .d (.bool qp.Value.Flag), .d (.int .i64 qp.Value.Number), .d (.str qp.Value.Words)])]⟩) (ts := [(0, .v (.one (.d (.lst (List.map api_Cell.enc ql))))), (4, .v (.one (.box 0 0))), (8, .v (.one (.d (.lst (List.map api_Cell.enc ([api_Cell.mk (api_Prop.mk qp.Name (api_Value.mk qp.Value.Kind qp.Value.Flag qp.Value.Number qp.Value.Words)) qs] : List api_Cell))))))]) (nx := 1) [] []) ?_
  refine awp_seq ?_
  refine awp_seq ?_
  refine bE hF fun vr6 h1 hF => ?_
  refine bE hF fun vr6_1 h2 hF => ?_
  refine bE hF fun vr h3 hF => ?_
  refine awp_region ?_
  refine aR 1 ?_
  refine aC (z1131 h1) [] [] [] ?_
  refine aR 1 ?_
  refine aC (z1131 h2) [] [] [] ?_
  refine aR 1 ?_
  refine aC (z26 h3) [] [] [4001] ?_
  refine aR 1 ?_
  refine aE ?_
  refine awp_seq ?_
  refine awp_region ?_
  refine aR 2 ?_
  refine aE ?_
  refine cE hF (fun h4 hF => ?_) fun h4 hF => ?_
  · refine awp_true (by kernel_rfl) h4 ?_
    refine awp_seq ?_
    refine awp_region ?_
    refine aR 3 ?_
    refine aE ?_
    refine awp_ret ?_
    exact oF hF [] [0]
  · refine awp_false (by kernel_rfl) h4 ?_
    refine awp_skip ?_
    refine awp_seq ?_
    refine awp_seq ?_
    refine awp_region ?_
    refine aR 4 ?_
    refine aE ?_
    refine cE hF (fun h5 hF => ?_) fun h5 hF => ?_
    · refine awp_true (by kernel_rfl) h5 ?_
      refine awp_seq ?_
      refine awp_region ?_
      refine aR 2 ?_
      refine aE ?_
      refine awp_ret ?_
      exact oF hF [] [0]
    · refine awp_false (by kernel_rfl) h5 ?_
      refine awp_skip ?_
      refine awp_seq ?_
      refine bE hF fun x h6 hF => ?_
      obtain ⟨vr1, vr3⟩ := x
      refine awp_region ?_
      refine aR 2 ?_
      refine aC (z1367 h6) [] [] [] ?_
      refine aR 4 ?_
      refine aE ?_
      refine awp_ret ?_
      exact oF hF [(0, 15001)] []

/-! ### beaconfleet/twin.find$1 -/
def z1282 (qp : api_Prop) (qname : List UInt8) (r : Unit) : TV × Mem := (.v (.one (.d (.int .i64 (Lib.compareBytes qp.Name qname)))), ⟨[], []⟩)

theorem z1283 {qp : api_Prop} {qname : List UInt8} {r} (hF : z1281 qp qname = some r) : Holds prog 247 [.v (.agg [.d (.str qp.Name), .d (.int .i64 qp.Value.Kind), .d (.bool qp.Value.Flag), .d (.int .i64 qp.Value.Number), .d (.str qp.Value.Words)]), .v (.one (.d (.str qname)))] ⟨[], []⟩ (Is (z1282 qp qname r)) := by
  unfold z1281 at hF
  refine holds_of_awp hΓ (fn := f247) (c := cB f247) (A := 0) (nx := 0) (by kernel_rfl) (by kernel_rfl) (by kernel_rfl) (by kernel_rfl) (by kernel_rfl) (by kernel_rfl) (lowc_of (by kernel_rfl)) ?_
  show Awp prog 0 9 (cB f247) _ _
  refine awp_seq ?_
  refine awp_region ?_
  refine aR 2 ?_
  refine aE ?_
  refine awp_seq ?_
  refine bE hF fun _ h1 hF => ?_
  refine awp_region ?_
  refine aR 3 ?_
  refine aC (z1001 h1) [] [] [] ?_
  refine aR 1 ?_
  refine aE ?_
  refine awp_ret ?_
  exact oF hF [] []

/-! ### slices.BinarySearchFunc[[]beaconfleet/api.Prop,beaconfleet/api.Prop,string] -/
def z479 : Int → AEx
  | _ => .exit 0

def z478 (qx : List api_Prop) (qtarget : List UInt8) : Int → St
  | vi1 => Mem.st ⟨[], []⟩ (tl [(0, .v (.one (.d (.lst (List.map api_Prop.enc qx))))), (1, .v (.one (.d (.str qtarget)))), (2, .v (.one (.fn 247 []))), (8, .v (.one (.d (.int .i64 (qx.length : Int))))), (9, .v (.one (.d (.int .i64 vi1))))]) 0

def z477 (qx : List api_Prop) (qtarget : List UInt8) : Int × Int → St
  | (vi, vj) => Mem.st ⟨[], []⟩ (tl [(0, .v (.one (.d (.lst (List.map api_Prop.enc qx))))), (1, .v (.one (.d (.str qtarget)))), (2, .v (.one (.fn 247 []))), (8, .v (.one (.d (.int .i64 (qx.length : Int))))), (9, .v (.one (.d (.int .i64 vi)))), (10, .v (.one (.d (.int .i64 vj))))]) 0

theorem z480 (qx : List api_Prop) (qtarget : List UInt8) (s : Int × Int) (r : (Int × Int) ⊕ (Int)) (hF : z476 qx qtarget s = some r) : Awp prog 0 49 (cL (cL (cL (cR (cR (cR (cB f246))))))) (Out 0 (kk z479) (SS (z477 qx qtarget) (z478 qx qtarget)) r) (z477 qx qtarget s) := by
  obtain ⟨vi, vj⟩ := s
  unfold z476 at hF
  refine awp_seq ?_
  refine awp_seq ?_
  refine awp_region ?_
  refine aR 3 ?_
  refine aE ?_
  refine cE hF (fun h1 hF => ?_) fun h1 hF => ?_
  · refine awp_true (by kernel_rfl) h1 ?_
    refine awp_skip ?_
    refine awp_block ?_
    refine awp_seq ?_
    refine awp_region ?_
    refine aR 7 ?_
    refine aE ?_
    refine awp_seq ?_
    refine bE hF fun vy1 h2 hF => ?_
    refine bE hF fun _ h3 hF => ?_
    refine awp_region ?_
    refine aR 3 ?_
    refine aX (x_idx api_Prop.enc h2) ?_
    refine aR 2 ?_
    refine aC (z1283 h3) [] [] [] ?_
    refine aR 1 ?_
    refine aE ?_
    refine cE hF (fun h4 hF => ?_) fun h4 hF => ?_
    · refine awp_true (by kernel_rfl) h4 ?_
      refine awp_region ?_
      refine aR 3 ?_
      refine aE ?_
      exact oO hF [] [] rfl
    · refine awp_false (by kernel_rfl) h4 ?_
      refine awp_region ?_
      refine aR 2 ?_
      refine aE ?_
      exact oO hF [] [] rfl
  · refine awp_false (by kernel_rfl) h1 ?_
    refine awp_exit ?_
    exact oO hF [] [] rfl

def z484 : Bool → AEx
  | _ => .normal

def z483 (qx : List api_Prop) (qtarget : List UInt8) (vi1_1 : Int) : Bool → St
  | vx => Mem.st ⟨[], []⟩ (tl [(6, .v (.one (.d (.int .i64 vi1_1)))), (7, .v (.one (.d (.bool vx))))]) 0

def z482 (qx : List api_Prop) (qtarget : List UInt8) (vi1_1 : Int) : St := Mem.st ⟨[], []⟩ (tl [(0, .v (.one (.d (.lst (List.map api_Prop.enc qx))))), (1, .v (.one (.d (.str qtarget)))), (2, .v (.one (.fn 247 []))), (8, .v (.one (.d (.int .i64 (qx.length : Int))))), (9, .v (.one (.d (.int .i64 vi1_1))))]) 0

theorem z485 (qx : List api_Prop) (qtarget : List UInt8) (vi1_1 : Int) {r} (hF : z481 qx qtarget vi1_1 = some r) : Awp prog 0 49 (cL (cR (cR (cR (cR (cB f246)))))) (Out 0 z484 (z483 qx qtarget vi1_1) r) (z482 qx qtarget vi1_1) := by
  unfold z481 at hF
  refine cE hF (fun h6 hF => ?_) fun h6 hF => ?_
  · refine bE hF fun vy2 h7 hF => ?_
    refine bE hF fun _ h8 hF => ?_
    refine awp_region ?_
    refine aR 3 ?_
    refine aB h6 ?_
    refine aR 4 ?_
    refine aX (x_idx api_Prop.enc h7) ?_
    refine aR 2 ?_
    refine aC (z1283 h8) [] [] [] ?_
    refine aR 4 ?_
    refine aE ?_
    exact oO hF [] [] rfl
  · refine awp_region ?_
    refine aR 3 ?_
    refine aB h6 ?_
    refine aR 12 ?_
    refine aE ?_
    exact oO hF [] [] rfl

def z474 (qx : List api_Prop) (qtarget : List UInt8) (r : Int × Bool) : TV × Mem := (.tup [.one (.d (.int .i64 r.1)), .one (.d (.bool r.2))], ⟨[], []⟩)

theorem z475 {qx : List api_Prop} {qtarget : List UInt8} {r} (hF : z473 qx qtarget = some r) : Holds prog 246 [.v (.one (.d (.lst (List.map api_Prop.enc qx)))), .v (.one (.d (.str qtarget))), .v (.one (.fn 247 []))] ⟨[], []⟩ (Is (z474 qx qtarget r)) := by
  unfold z473 at hF
  refine holds_of_awp hΓ (fn := f246) (c := cB f246) (A := 0) (nx := 0) (by kernel_rfl) (by kernel_rfl) (by kernel_rfl) (by kernel_rfl) (by kernel_rfl) (by kernel_rfl) (lowc_of (by kernel_rfl)) ?_
  show Awp prog 0 49 (cB f246) _ _
  refine awp_seq ?_
  refine awp_region ?_
  refine aR 2 ?_
  refine aE ?_
  refine awp_seq ?_
  refine awp_region ?_
  refine aR 1 ?_
  refine aL api_Prop.enc qx ?_
  refine aR 1 ?_
  refine aE ?_
  refine awp_seq ?_
  refine awp_region ?_
  refine aR 3 ?_
  refine aE ?_
  refine awp_seq ?_
  refine awp_block ?_
  refine awp_to (st' := z477 qx qtarget (0, (qx.length : Int))) (oT [] []) ?_
  refine bE hF fun vi1_1 h5 hF => ?_
  refine awp_sub (awp_loop' (z477 qx qtarget) z479 (z478 qx qtarget) (by intro x; exact fun h => nomatch h) h5 (z480 qx qtarget)) ?_
  refine awp_seq ?_
  refine awp_to (st' := z482 qx qtarget vi1_1) (oT [] []) ?_
  refine bE hF fun vx1 h9 hF => ?_
  refine awp_sub (z485 qx qtarget vi1_1 h9) ?_
  refine awp_ret ?_
  exact oF hF [] []

/-! ### beaconfleet/twin.find -/
def z1284 (ql : List api_Prop) (qname : List UInt8) (r : Int) : TV × Mem := (.v (.one (.d (.int .i64 r))), ⟨[], []⟩)

theorem z1288 {ql : List api_Prop} {qname : List UInt8} {r} (hF : twin_find ql qname = some r) : Holds prog 181 [.v (.one (.d (.lst (List.map api_Prop.enc ql)))), .v (.one (.d (.str qname)))] ⟨[], []⟩ (Is (z1284 ql qname r)) := by
  unfold twin_find at hF
  refine holds_of_awp hΓ (fn := f181) (c := cB f181) (A := 0) (nx := 0) (by kernel_rfl) (by kernel_rfl) (by kernel_rfl) (by kernel_rfl) (by kernel_rfl) (by kernel_rfl) (lowc_of (by kernel_rfl)) ?_
  show Awp prog 0 16 (cB f181) _ _
  refine awp_seq ?_
  refine awp_region ?_
  refine aR 1 ?_
  refine aE ?_
  refine awp_seq ?_
  refine bE hF fun x h1 hF => ?_
  obtain ⟨vr, vr1⟩ := x
  refine awp_region ?_
  refine aR 2 ?_
  refine aC (z475 h1) [] [] [] ?_
  refine aR 5 ?_
  refine aE ?_
  refine awp_seq ?_
  refine awp_seq ?_
  refine awp_region ?_
  refine aR 2 ?_
  refine aE ?_
  refine cE hF (fun h2 hF => ?_) fun h2 hF => ?_
  · refine awp_true (by kernel_rfl) h2 ?_
    refine awp_seq ?_
    refine awp_region ?_
    refine aR 1 ?_
    refine aE ?_
    refine awp_ret ?_
    exact oF hF [] []
  · refine awp_false (by kernel_rfl) h2 ?_
    refine awp_skip ?_
    refine awp_seq ?_
    refine awp_region ?_
    refine aR 2 ?_
    refine aE ?_
    refine awp_ret ?_
    exact oF hF [] []

/-! ### beaconfleet/twin.CheckProps$1 -/
def z1152 (qs : List UInt8) (qx : List api_Prop) (r : Bool) : TV × Mem := (.v (.one (.d (.bool r))), ⟨[], [(0, [.d (.lst (List.map api_Prop.enc qx))])]⟩)

theorem z1153 {qs : List UInt8} {qx : List api_Prop} {r} (hF : z1151 qs qx = some r) : Holds prog 180 [.v (.one (.d (.str qs))), .v (.one (.box 0 0))] ⟨[], [(0, [.d (.lst (List.map api_Prop.enc qx))])]⟩ (Is (z1152 qs qx r)) := by
  unfold z1151 at hF
  refine holds_of_awp hΓ (fn := f180) (c := cB f180) (A := 1) (nx := 1) (by kernel_rfl) (by kernel_rfl) (by kernel_rfl) (by kernel_rfl) (by kernel_rfl) (by kernel_rfl) (lowc_of (by kernel_rfl)) ?_
  show Awp prog 1 8 (cB f180) _ _
  refine awp_seq ?_
  refine awp_region ?_
  refine aR 1 ?_
  refine aE ?_
  refine awp_seq ?_
  refine bE hF fun vr2 h1 hF => ?_
  refine awp_region ?_
  refine aR 2 ?_
  refine aC (z1288 h1) [] [] [] ?_
  refine aR 2 ?_
  refine aE ?_
  refine awp_ret ?_
  exact oF hF [] []

/-! ### beaconfleet/twin.above -/
def z1276 : Bool → AEx
  | _ => .normal

def z1275 (qname : List UInt8) (qf : List api_Prop) (vx : Int) : Bool → St
  | vx2 => Mem.st ⟨[], [(0, [.d (.lst (List.map api_Prop.enc qf))])]⟩ (tl [(0, .v (.one (.d (.str qname)))), (1, .v (.one (.fn 180 [0]))), (7, .v (.one (.d (.int .i64 (qname.length : Int))))), (8, .v (.one (.d (.int .i64 vx)))), (21, .v (.one (.d (.bool vx2))))]) 1

def z1274 (qname : List UInt8) (qf : List api_Prop) (vx : Int) : St := Mem.st ⟨[], [(0, [.d (.lst (List.map api_Prop.enc qf))])]⟩ (tl [(0, .v (.one (.d (.str qname)))), (1, .v (.one (.fn 180 [0]))), (5, .v (.one (.d (.int .i64 vx)))), (7, .v (.one (.d (.int .i64 (qname.length : Int))))), (8, .v (.one (.d (.int .i64 vx))))]) 1

theorem z1277 (qname : List UInt8) (qf : List api_Prop) (vx : Int) {r} (hF : z1273 qname qf vx = some r) : Awp prog 1 23 (cL (cR (cL (cL (cR (cR (cL (cL (cR (cL (cR (cB f179)))))))))))) (Out 1 z1276 (z1275 qname qf vx) r) (z1274 qname qf vx) := by
  unfold z1273 at hF
  refine bE hF fun vc1 h2 hF => ?_
  refine cE hF (fun h3 hF => ?_) fun h3 hF => ?_
  · refine bE hF fun vs1 h4 hF => ?_
    refine bE hF fun vr1 h5 hF => ?_
    refine awp_region ?_
    refine aR 2 ?_
    refine aX (x_idxS h2) ?_
    refine aB h3 ?_
    refine aR 4 ?_
    refine aX (x_sliceS h4) ?_
    refine aC (z1153 h5) [] [] [] ?_
    refine aR 1 ?_
    refine aE ?_
    exact oO hF [] [] rfl
  · refine awp_region ?_
    refine aR 2 ?_
    refine aX (x_idxS h2) ?_
    refine aB h3 ?_
    refine aR 7 ?_
    refine aE ?_
    exact oO hF [] [] rfl

def z1271 : Unit ⊕ Unit → AEx
  | .inl _ => .exit 0
  | .inr _ => .ret

def z1270 (qname : List UInt8) (qf : List api_Prop) : Unit ⊕ Unit → St
  | .inl _ => Mem.st ⟨[], [(0, [.d (.lst (List.map api_Prop.enc qf))])]⟩ (tl []) 1
  | .inr _ => Mem.st ⟨[], [(0, [.d (.lst (List.map api_Prop.enc qf))])]⟩ (tl [(4, .v (.one (.d (.bool true))))]) 1

def z1269 (qname : List UInt8) (qf : List api_Prop) : Int → St
  | vx => Mem.st ⟨[], [(0, [.d (.lst (List.map api_Prop.enc qf))])]⟩ (tl [(0, .v (.one (.d (.str qname)))), (1, .v (.one (.fn 180 [0]))), (7, .v (.one (.d (.int .i64 (qname.length : Int))))), (8, .v (.one (.d (.int .i64 vx))))]) 1

theorem z1272 (qname : List UInt8) (qf : List api_Prop) (vx : Int) (r : (Int) ⊕ (Unit ⊕ Unit)) (hF : z1268 qname qf vx = some r) : Awp prog 1 23 (cL (cL (cR (cL (cR (cB f179)))))) (Out 1 (kk z1271) (SS (z1269 qname qf) (z1270 qname qf)) r) (z1269 qname qf vx) := by
  unfold z1268 at hF
  refine awp_seq ?_
  refine awp_region ?_
  refine aR 1 ?_
  refine aE ?_
  refine awp_seq ?_
  refine cE hF (fun h1 hF => ?_) fun h1 hF => ?_
  · refine awp_true (by kernel_rfl) h1 ?_
    refine awp_skip ?_
    refine awp_seq ?_
    refine awp_block ?_
    refine awp_seq ?_
    refine awp_region ?_
    refine aR 2 ?_
    refine aE ?_
    refine awp_seq ?_
    refine awp_to (st' := z1274 qname qf vx) (oT [] []) ?_
    refine bE hF fun vx2_1 h6 hF => ?_
    refine awp_sub (z1277 qname qf vx h6) ?_
    refine cE hF (fun h7 hF => ?_) fun h7 hF => ?_
    · refine awp_true (by kernel_rfl) h7 ?_
      refine awp_seq ?_
      refine awp_region ?_
      refine aR 1 ?_
      refine aE ?_
      refine awp_ret ?_
      exact oO hF [] [] rfl
    · refine awp_false (by kernel_rfl) h7 ?_
      refine awp_skip ?_
      refine awp_region ?_
      refine aR 2 ?_
      refine aE ?_
      exact oO hF [] [] rfl
  · refine awp_false (by kernel_rfl) h1 ?_
    refine awp_exit ?_
    exact oO hF [] [] rfl

def z1266 (qname : List UInt8) (qf : List api_Prop) (r : Bool) : TV × Mem := (.v (.one (.d (.bool r))), ⟨[], [(0, [.d (.lst (List.map api_Prop.enc qf))])]⟩)

theorem z1267 {qname : List UInt8} {qf : List api_Prop} {r} (hF : z1265 qname qf = some r) : Holds prog 179 [.v (.one (.d (.str qname))), .v (.one (.fn 180 [0]))] ⟨[], [(0, [.d (.lst (List.map api_Prop.enc qf))])]⟩ (Is (z1266 qname qf r)) := by
  unfold z1265 at hF
  refine holds_of_awp hΓ (fn := f179) (c := cB f179) (A := 1) (nx := 1) (by kernel_rfl) (by kernel_rfl) (by kernel_rfl) (by kernel_rfl) (by kernel_rfl) (by kernel_rfl) (lowc_of (by kernel_rfl)) ?_
  show Awp prog 1 23 (cB f179) _ _
  refine awp_seq ?_
  refine awp_region ?_
  refine aR 1 ?_
  refine aE ?_
  refine awp_seq ?_
  refine awp_seq ?_
  refine awp_region ?_
  refine aR 3 ?_
  refine aE ?_
  refine awp_block ?_
  refine awp_to (st' := z1269 qname qf 0) (oT [] []) ?_
  refine bE hF fun x h8 hF => ?_
  rcases x with _ | _
  · refine awp_sub (awp_loop' (z1269 qname qf) z1271 (z1270 qname qf) (by intro x; rcases x with x | x <;> exact fun h => nomatch h) h8 (z1272 qname qf)) ?_
    refine awp_seq ?_
    refine awp_region ?_
    refine aR 1 ?_
    refine aE ?_
    refine awp_ret ?_
    exact oF hF [] []
  · refine awp_sub (awp_loop' (z1269 qname qf) z1271 (z1270 qname qf) (by intro x; rcases x with x | x <;> exact fun h => nomatch h) h8 (z1272 qname qf)) ?_
    exact oF hF [] []

/-! ### beaconfleet/twin.CheckProps -/
def z1177 : Bool → AEx
  | _ => .normal

def z1176 (ql : List api_Prop) (vx : Int) (vy2 : api_Prop) : Bool → St
  | vx2 => Mem.st ⟨[], [(0, [.d (.lst (List.map api_Prop.enc ql))])]⟩ (tl [(1, .v (.one (.box 0 0))), (11, .v (.one (.d (.lst (List.map api_Prop.enc ql))))), (12, .v (.one (.d (.int .i64 (ql.length : Int))))), (13, .v (.one (.d (.int .i64 vx)))), (44, .v (.one (.d (.bool vx2))))]) 1

def z1175 (ql : List api_Prop) (vx : Int) (vy2 : api_Prop) : St := Mem.st ⟨[], [(0, [.d (.lst (List.map api_Prop.enc ql))]), (1, [.d (.str vy2.Name), .d (.int .i64 vy2.Value.Kind), .d (.bool vy2.Value.Flag), .d (.int .i64 vy2.Value.Number), .d (.str vy2.Value.Words)])]⟩ (tl [(1, .v (.one (.box 0 0))), (3, .v (.one (.d (.int .i64 vx)))), (4, .v (.one (.box 1 0))), (11, .v (.one (.d (.lst (List.map api_Prop.enc ql))))), (12, .v (.one (.d (.int .i64 (ql.length : Int))))), (13, .v (.one (.d (.int .i64 vx))))]) 2

theorem z1178 (ql : List api_Prop) (vx : Int) (vy2 : api_Prop) {r} (hF : z1174 ql vx vy2 = some r) : Awp prog 0 57 (cL (cR (cR (cR (cR (cL (cL (cR (cR (cL (cL (cR (cL (cR (cR (cB f129)))))))))))))))) (Out 0 z1177 (z1176 ql vx vy2) r) (z1175 ql vx vy2) := by
  unfold z1174 at hF
  refine cE hF (fun h9 hF => ?_) fun h9 hF => ?_
  · refine bE hF fun vy3 h10 hF => ?_
    refine aD ?_
    refine dR 1 ?_
    refine dB h9 ?_
    refine dR 6 ?_
    refine dX (x_idx api_Prop.enc h10) ?_
    refine dR 4 ?_
    refine dE ?_
    exact oO hF [] [] rfl
  · refine aD ?_
    refine dR 1 ?_
    refine dB h9 ?_
    refine dR 11 ?_
    refine dE ?_
    exact oO hF [] [] rfl

def z1172 : Unit ⊕ Int → AEx
  | .inl _ => .exit 0
  | .inr _ => .ret

def z1171 (ql : List api_Prop) : Unit ⊕ Int → St
  | .inl _ => Mem.st ⟨[], [(0, [.d (.lst (List.map api_Prop.enc ql))])]⟩ (tl [(1, .v (.one (.box 0 0)))]) 1
  | .inr vx3 => Mem.st ⟨[], []⟩ (tl [(2, .v (.one (.d (.int .i64 vx3))))]) 0

def z1170 (ql : List api_Prop) : Int → St
  | vx => Mem.st ⟨[], [(0, [.d (.lst (List.map api_Prop.enc ql))])]⟩ (tl [(1, .v (.one (.box 0 0))), (11, .v (.one (.d (.lst (List.map api_Prop.enc ql))))), (12, .v (.one (.d (.int .i64 (ql.length : Int))))), (13, .v (.one (.d (.int .i64 vx))))]) 1

theorem z1173 (ql : List api_Prop) (vx : Int) (r : (Int) ⊕ (Unit ⊕ Int)) (hF : z1169 ql vx = some r) : Awp prog 0 57 (cL (cL (cR (cL (cR (cR (cB f129))))))) (Out 0 (kk z1172) (SS (z1170 ql) (z1171 ql)) r) (z1170 ql vx) := by
  unfold z1169 at hF
  refine awp_seq ?_
  refine awp_region ?_
  refine aR 1 ?_
  refine aE ?_
  refine awp_seq ?_
  refine cE hF (fun h2 hF => ?_) fun h2 hF => ?_
  · refine awp_true (by kernel_rfl) h2 ?_
    refine awp_skip ?_
    refine awp_seq ?_
    refine awp_block ?_
    refine awp_seq ?_
    refine bE hF fun vy2 h3 hF => ?_
    refine awp_region ?_
    refine aR 1 ?_
    refine aX (x_idx api_Prop.enc h3) ?_
    refine aR 4 ?_
    refine aE ?_
    refine awp_seq ?_
    refine awp_seq ?_
    refine bE hF fun vr1 h4 hF => ?_
    refine awp_region ?_
    refine aR 2 ?_
    refine aC (z1315 h4) [] [] [] ?_
    refine aR 1 ?_
    refine aE ?_
    refine cE hF (fun h5 hF => ?_) fun h5 hF => ?_
    · refine awp_true (by kernel_rfl) h5 ?_
      refine awp_seq ?_
      refine awp_region ?_
      refine aR 1 ?_
      refine aE ?_
      refine awp_ret ?_
      exact oO hF [] [] rfl
    · refine awp_false (by kernel_rfl) h5 ?_
      refine awp_skip ?_
      refine awp_seq ?_
      refine awp_seq ?_
      refine bE hF fun vr2_1 h6 hF => ?_
      refine awp_region ?_
      refine aR 2 ?_
      refine aC (z1399 h6) [] [] [] ?_
      refine aR 1 ?_
      refine aE ?_
      refine awp_seq ?_
      refine awp_region ?_
      refine aR 2 ?_
      refine aE ?_
      refine cE hF (fun h7 hF => ?_) fun h7 hF => ?_
      · refine awp_true (by kernel_rfl) h7 ?_
        refine awp_seq ?_
        refine awp_region ?_
        refine aR 2 ?_
        refine aE ?_
        refine awp_ret ?_
        exact oO hF [] [] rfl
      · refine awp_false (by kernel_rfl) h7 ?_
        refine awp_skip ?_
        refine awp_seq ?_
        refine awp_seq ?_
        refine awp_region ?_
        refine aR 4 ?_
        refine aE ?_
        refine cE hF (fun h8 hF => ?_) fun h8 hF => ?_
        · refine awp_true (by kernel_rfl) h8 ?_
          refine awp_seq ?_
          refine awp_region ?_
          refine aR 1 ?_
          refine aE ?_
          refine awp_ret ?_
          exact oO hF [] [] rfl
        · refine awp_false (by kernel_rfl) h8 ?_
          refine awp_skip ?_
          refine awp_seq ?_
          refine awp_to (st' := z1175 ql vx vy2) (oT [(1, 4001)] []) ?_
          refine bE hF fun vx2_1 h11 hF => ?_
          refine awp_sub (z1178 ql vx vy2 h11) ?_
          refine cE hF (fun h12 hF => ?_) fun h12 hF => ?_
          · refine awp_true (by kernel_rfl) h12 ?_
            refine awp_seq ?_
            refine awp_region ?_
            refine aR 1 ?_
            refine aE ?_
            refine awp_ret ?_
            exact oO hF [] [] rfl
          · refine awp_false (by kernel_rfl) h12 ?_
            refine awp_skip ?_
            refine awp_region ?_
            refine aR 2 ?_
            refine aE ?_
            exact oO hF [] [] rfl
  · refine awp_false (by kernel_rfl) h2 ?_
    refine awp_exit ?_
    exact oO hF [] [] rfl

def z1182 : Unit ⊕ Unit → AEx
  | .inl _ => .exit 2
  | .inr _ => .ret

def z1181 (ql : List api_Prop) : Unit ⊕ Unit → St
  | .inl _ => Mem.st ⟨[], []⟩ (tl []) 0
  | .inr _ => Mem.st ⟨[], []⟩ (tl [(2, .v (.one (.d (.int .i64 13))))]) 0

def z1180 (ql : List api_Prop) : Int → St
  | vx4 => Mem.st ⟨[], [(0, [.d (.lst (List.map api_Prop.enc ql))])]⟩ (tl [(1, .v (.one (.box 0 0))), (46, .v (.one (.d (.lst (List.map api_Prop.enc ql))))), (47, .v (.one (.d (.int .i64 (ql.length : Int))))), (48, .v (.one (.d (.int .i64 vx4))))]) 1

theorem z1183 (ql : List api_Prop) (vx4 : Int) (r : (Int) ⊕ (Unit ⊕ Unit)) (hF : z1179 ql vx4 = some r) : Awp prog 0 57 (cL (cL (cR (cL (cR (cR (cR (cB f129)))))))) (Out 0 (kk z1182) (SS (z1180 ql) (z1181 ql)) r) (z1180 ql vx4) := by
  unfold z1179 at hF
  refine awp_seq ?_
  refine awp_region ?_
  refine aR 1 ?_
  refine aE ?_
  refine awp_seq ?_
  refine cE hF (fun h14 hF => ?_) fun h14 hF => ?_
  · refine awp_true (by kernel_rfl) h14 ?_
    refine awp_skip ?_
    refine awp_seq ?_
    refine awp_block ?_
    refine awp_seq ?_
    refine bE hF fun vy5 h15 hF => ?_
    refine awp_region ?_
    refine aX (x_idx api_Prop.enc h15) ?_
    refine aR 3 ?_
    refine aE ?_
    refine awp_seq ?_
    refine bE hF fun vr2_3 h16 hF => ?_
    refine awp_region ?_
    refine aR 3 ?_
    refine aC (z1267 h16) [] [] [] ?_
    refine aE ?_
    refine cE hF (fun h17 hF => ?_) fun h17 hF => ?_
    · refine awp_true (by kernel_rfl) h17 ?_
      refine awp_seq ?_
      refine awp_region ?_
      refine aR 1 ?_
      refine aE ?_
      refine awp_ret ?_
      exact oO hF [] [] rfl
    · refine awp_false (by kernel_rfl) h17 ?_
      refine awp_skip ?_
      refine awp_region ?_
      refine aR 2 ?_
      refine aE ?_
      exact oO hF [] [] rfl
  · refine awp_false (by kernel_rfl) h14 ?_
    refine awp_exit ?_
    exact oO hF [] [] rfl

def z1154 (ql : List api_Prop) (r : Int) : TV × Mem := (.v (.one (.d (.int .i64 r))), ⟨[], []⟩)

theorem z1168 {ql : List api_Prop} {r} (hF : z1150 ql = some r) : Holds prog 129 [.v (.one (.d (.lst (List.map api_Prop.enc ql))))] ⟨[], []⟩ (Is (z1154 ql r)) := by
  unfold z1150 at hF
  refine holds_of_awp hΓ (fn := f129) (c := cB f129) (A := 0) (nx := 0) (by kernel_rfl) (by kernel_rfl) (by kernel_rfl) (by kernel_rfl) (by kernel_rfl) (by kernel_rfl) (lowc_of (by kernel_rfl)) ?_
  show Awp prog 0 57 (cB f129) _ _
  refine awp_seq ?_
  refine awp_region ?_
  refine aR 2 ?_
  refine aE ?_
  refine awp_seq ?_
  refine awp_seq ?_
  refine awp_region ?_
  refine aR 1 ?_
  refine aL api_Prop.enc ql ?_
  refine aR 1 ?_
  refine aE ?_
  refine cE hF (fun h1 hF => ?_) fun h1 hF => ?_
  · refine awp_true (by kernel_rfl) h1 ?_
    refine awp_seq ?_
    refine awp_region ?_
    refine aR 1 ?_
    refine aE ?_
    refine awp_ret ?_
    exact oF hF [] []
  · refine awp_false (by kernel_rfl) h1 ?_
    refine awp_skip ?_
    refine awp_seq ?_
    refine awp_seq ?_
    refine awp_region ?_
    refine aR 1 ?_
    refine aL api_Prop.enc ql ?_
    refine aR 1 ?_
    refine aE ?_
    refine awp_block ?_
    refine awp_to (st' := z1170 ql 0) (oT [] []) ?_
    refine bE hF fun x h13 hF => ?_
    rcases x with _ | vx3_1
    · refine awp_sub (awp_loop' (z1170 ql) z1172 (z1171 ql) (by intro x; rcases x with x | x <;> exact fun h => nomatch h) h13 (z1173 ql)) ?_
      refine awp_seq ?_
      refine awp_seq ?_
      refine awp_region ?_
      refine aR 1 ?_
      refine aL api_Prop.enc ql ?_
      refine aR 1 ?_
      refine aE ?_
      refine awp_block ?_
      refine awp_to (st' := z1180 ql 0) (oT [] []) ?_
      refine bE hF fun x h18 hF => ?_
      rcases x with _ | _
      · refine awp_sub (awp_loop' (z1180 ql) z1182 (z1181 ql) (by intro x; rcases x with x | x <;> exact fun h => nomatch h) h18 (z1183 ql)) ?_
        refine awp_seq ?_
        refine awp_region ?_
        refine aR 1 ?_
        refine aE ?_
        refine awp_ret ?_
        exact oF hF [] []
      · refine awp_sub (awp_loop' (z1180 ql) z1182 (z1181 ql) (by intro x; rcases x with x | x <;> exact fun h => nomatch h) h18 (z1183 ql)) ?_
        exact oF hF [] []
    · refine awp_sub (awp_loop' (z1170 ql) z1172 (z1171 ql) (by intro x; rcases x with x | x <;> exact fun h => nomatch h) h13 (z1173 ql)) ?_
      exact oF hF [] []

/-! ### beaconfleet/twin.Under -/
def z1263 : Bool → AEx
  | _ => .normal

def z1262 (ql : List api_Prop) (qname : List UInt8) (vout : List api_Prop) (vx : Int) (vy1 : api_Prop) : Bool → St
  | vx2 => Mem.st ⟨[(1, ⟨102, 5, List.map api_Prop.enc vout⟩)], [(0, [.d (.str vy1.Name), .d (.int .i64 vy1.Value.Kind), .d (.bool vy1.Value.Flag), .d (.int .i64 vy1.Value.Number), .d (.str vy1.Value.Words)])]⟩ (tl [(1, .v (.one (.d (.str qname)))), (7, .v (.one (.own 1 none))), (9, .v (.one (.box 0 0))), (18, .v (.one (.d (.lst (List.map api_Prop.enc ql))))), (19, .v (.one (.d (.int .i64 (ql.length : Int))))), (20, .v (.one (.d (.int .i64 vx)))), (33, .v (.one (.d (.bool vx2))))]) 2

def z1261 (ql : List api_Prop) (qname : List UInt8) (vout : List api_Prop) (vx : Int) (vy1 : api_Prop) : St := Mem.st ⟨[(1, ⟨102, 5, List.map api_Prop.enc vout⟩)], [(0, [.d (.str vy1.Name), .d (.int .i64 vy1.Value.Kind), .d (.bool vy1.Value.Flag), .d (.int .i64 vy1.Value.Number), .d (.str vy1.Value.Words)])]⟩ (tl [(1, .v (.one (.d (.str qname)))), (7, .v (.one (.own 1 none))), (9, .v (.one (.box 0 0))), (18, .v (.one (.d (.lst (List.map api_Prop.enc ql))))), (19, .v (.one (.d (.int .i64 (ql.length : Int))))), (20, .v (.one (.d (.int .i64 vx))))]) 2

theorem z1264 (ql : List api_Prop) (qname : List UInt8) (vout : List api_Prop) (vx : Int) (vy1 : api_Prop) {r} (hF : z1260 qname vy1 = some r) : Awp prog 0 40 (cL (cR (cL (cL (cR (cR (cL (cL (cR (cL (cR (cR (cR (cR (cB f51))))))))))))))) (Out 0 z1263 (z1262 ql qname vout vx vy1) r) (z1261 ql qname vout vx vy1) := by
  unfold z1260 at hF
  refine cE hF (fun h7 hF => ?_) fun h7 hF => ?_
  · refine awp_region ?_
    refine aR 3 ?_
    refine aB h7 ?_
    refine aR 6 ?_
    refine aE ?_
    exact oO hF [] [] rfl
  · refine bE hF fun vr2 h8 hF => ?_
    refine awp_region ?_
    refine aR 3 ?_
    refine aB h7 ?_
    refine aR 4 ?_
    refine aC (z8 h8) [] [] [] ?_
    refine aR 1 ?_
    refine aE ?_
    exact oO hF [] [] rfl

def z1258 : (List api_Prop) → AEx
  | _ => .normal

def z1257 (ql : List api_Prop) (qname : List UInt8) (vout : List api_Prop) (vx : Int) : (List api_Prop) → St
  | vout2 => Mem.st ⟨[(0, ⟨102, 5, List.map api_Prop.enc vout2⟩)], []⟩ (tl [(1, .v (.one (.d (.str qname)))), (7, .v (.one (.own 0 none))), (18, .v (.one (.d (.lst (List.map api_Prop.enc ql))))), (19, .v (.one (.d (.int .i64 (ql.length : Int))))), (20, .v (.one (.d (.int .i64 vx))))]) 1

def z1256 (ql : List api_Prop) (qname : List UInt8) (vout : List api_Prop) (vx : Int) : St := Mem.st ⟨[(0, ⟨102, 5, List.map api_Prop.enc vout⟩)], []⟩ (tl [(1, .v (.one (.d (.str qname)))), (7, .v (.one (.own 0 none))), (18, .v (.one (.d (.lst (List.map api_Prop.enc ql))))), (19, .v (.one (.d (.int .i64 (ql.length : Int))))), (20, .v (.one (.d (.int .i64 vx))))]) 1

theorem z1259 (ql : List api_Prop) (qname : List UInt8) (vout : List api_Prop) (vx : Int) {r} (hF : z1255 ql qname vout vx = some r) : Awp prog 0 40 (cL (cR (cR (cL (cL (cR (cL (cR (cR (cR (cR (cB f51)))))))))))) (Out 0 z1258 (z1257 ql qname vout vx) r) (z1256 ql qname vout vx) := by
  unfold z1255 at hF
  refine awp_block ?_
  refine awp_seq ?_
  refine bE hF fun vy1 h6 hF => ?_
  refine awp_region ?_
  refine aX (x_idx api_Prop.enc h6) ?_
  refine aR 3 ?_
  refine aE ?_
  refine awp_seq ?_
  refine awp_to (st' := z1261 ql qname vout vx vy1) (oT [(0, 2001), (1, 0)] []) ?_
  refine bE hF fun vx2_1 h9 hF => ?_
  refine awp_sub (z1264 ql qname vout vx vy1 h9) ?_
  refine cE hF (fun h10 hF => ?_) fun h10 hF => ?_
  · refine awp_true (by kernel_rfl) h10 ?_
    refine gE hF fun h11 hF => ?_
    refine awp_region ?_
    refine aR 3 ?_
    refine aX (x_app api_Prop.enc 1 h11) ?_
    refine aR 1 ?_
    refine aE ?_
    exact oO hF [(0, 3002)] [] rfl
  · refine awp_false (by kernel_rfl) h10 ?_
    refine awp_skip ?_
    exact oO hF [(0, 1)] [] rfl

def z1253 : (List api_Prop) → AEx
  | _ => .exit 0

def z1252 (ql : List api_Prop) (qname : List UInt8) : (List api_Prop) → St
  | vout3 => Mem.st ⟨[(0, ⟨102, 5, List.map api_Prop.enc vout3⟩)], []⟩ (tl [(7, .v (.one (.own 0 none)))]) 1

def z1251 (ql : List api_Prop) (qname : List UInt8) : (List api_Prop) × Int → St
  | (vout, vx) => Mem.st ⟨[(0, ⟨102, 5, List.map api_Prop.enc vout⟩)], []⟩ (tl [(1, .v (.one (.d (.str qname)))), (7, .v (.one (.own 0 none))), (18, .v (.one (.d (.lst (List.map api_Prop.enc ql))))), (19, .v (.one (.d (.int .i64 (ql.length : Int))))), (20, .v (.one (.d (.int .i64 vx))))]) 1

theorem z1254 (ql : List api_Prop) (qname : List UInt8) (s : (List api_Prop) × Int) (r : ((List api_Prop) × Int) ⊕ ((List api_Prop))) (hF : z1250 ql qname s = some r) : Awp prog 0 40 (cL (cL (cR (cL (cR (cR (cR (cR (cB f51))))))))) (Out 0 (kk z1253) (SS (z1251 ql qname) (z1252 ql qname)) r) (z1251 ql qname s) := by
  obtain ⟨vout, vx⟩ := s
  unfold z1250 at hF
  refine awp_seq ?_
  refine awp_region ?_
  refine aR 1 ?_
  refine aE ?_
  refine awp_seq ?_
  refine cE hF (fun h5 hF => ?_) fun h5 hF => ?_
  · refine awp_true (by kernel_rfl) h5 ?_
    refine awp_skip ?_
    refine awp_seq ?_
    refine awp_to (st' := z1256 ql qname vout vx) (oT [] []) ?_
    refine bE hF fun vout2_1 h12 hF => ?_
    refine awp_sub (z1259 ql qname vout vx h12) ?_
    refine awp_region ?_
    refine aR 2 ?_
    refine aE ?_
    exact oO hF [] [] rfl
  · refine awp_false (by kernel_rfl) h5 ?_
    refine awp_exit ?_
    exact oO hF [] [] rfl

def z1248 (ql : List api_Prop) (qname : List UInt8) (r : (List api_Prop) × Int) : TV × Mem := (.tup [.one (.own 0 none), .one (.d (.int .i64 r.2))], ⟨[(0, ⟨102, 5, List.map api_Prop.enc r.1⟩)], []⟩)

theorem z1249 {ql : List api_Prop} {qname : List UInt8} {r} (hF : z1247 ql qname = some r) : Holds prog 51 [.v (.one (.d (.lst (List.map api_Prop.enc ql)))), .v (.one (.d (.str qname)))] ⟨[], []⟩ (Is (z1248 ql qname r)) := by
  unfold z1247 at hF
  refine holds_of_awp hΓ (fn := f51) (c := cB f51) (A := 0) (nx := 0) (by kernel_rfl) (by kernel_rfl) (by kernel_rfl) (by kernel_rfl) (by kernel_rfl) (by kernel_rfl) (lowc_of (by kernel_rfl)) ?_
  show Awp prog 0 40 (cB f51) _ _
  refine awp_seq ?_
  refine awp_region ?_
  refine aR 2 ?_
  refine aE ?_
  refine awp_seq ?_
  refine awp_seq ?_
  refine bE hF fun vr3 h1 hF => ?_
  refine awp_region ?_
  refine aR 1 ?_
  refine aC (z1168 h1) [] [] [] ?_
  refine aR 1 ?_
  refine aE ?_
  refine awp_seq ?_
  refine awp_region ?_
  refine aR 2 ?_
  refine aE ?_
  refine cE hF (fun h2 hF => ?_) fun h2 hF => ?_
  · refine awp_true (by kernel_rfl) h2 ?_
    refine awp_seq ?_
    refine awp_region ?_
    refine aR 3 ?_
    refine aE ?_
    refine awp_ret ?_
    exact oF hF [] [0]
  · refine awp_false (by kernel_rfl) h2 ?_
    refine awp_skip ?_
    refine awp_seq ?_
    refine awp_seq ?_
    refine bE hF fun vr h3 hF => ?_
    refine awp_region ?_
    refine aR 1 ?_
    refine aC (z1315 h3) [] [] [] ?_
    refine aR 1 ?_
    refine aE ?_
    refine cE hF (fun h4 hF => ?_) fun h4 hF => ?_
    · refine awp_true (by kernel_rfl) h4 ?_
      refine awp_seq ?_
      refine awp_region ?_
      refine aR 2 ?_
      refine aE ?_
      refine awp_ret ?_
      exact oF hF [] [0]
    · refine awp_false (by kernel_rfl) h4 ?_
      refine awp_skip ?_
      refine awp_seq ?_
      refine awp_region ?_
      refine aR 1 ?_
      refine aE ?_
      refine awp_seq ?_
      refine awp_seq ?_
      refine awp_region ?_
      refine aR 1 ?_
      refine aL api_Prop.enc ql ?_
      refine aR 1 ?_
      refine aE ?_
      refine awp_block ?_
      refine awp_to (st' := z1251 ql qname ([], 0)) (oT [] [0]) ?_
      refine bE hF fun vout3_1 h13 hF => ?_
      refine awp_sub (awp_loop' (z1251 ql qname) z1253 (z1252 ql qname) (by intro x; exact fun h => nomatch h) h13 (z1254 ql qname)) ?_
      refine awp_seq ?_
      refine awp_region ?_
      refine aR 3 ?_
      refine aE ?_
      refine awp_ret ?_
      exact oF hF [] []

/-! ### beaconfleet/fleetkeep2.spoil[beaconfleet/api.Prop] -/
def z230 : (List api_Prop) → AEx
  | _ => .exit 0

def z229 (ql : List api_Prop) : (List api_Prop) → St
  | vl1 => Mem.st ⟨[(0, ⟨102, 5, List.map api_Prop.enc vl1⟩)], []⟩ (tl []) 1

def z228 (ql : List api_Prop) : (List api_Prop) × Int → St
  | (vl, vx) => Mem.st ⟨[(0, ⟨102, 5, List.map api_Prop.enc vl⟩)], [(1, [.d (.str ([] : List UInt8)), .d (.int .i64 0), .d (.bool false), .d (.int .i64 0), .d (.str ([] : List UInt8))])]⟩ (tl [(0, .v (.one (.own 0 none))), (2, .v (.one (.box 1 0))), (5, .v (.one (.d (.int .i64 (ql.length : Int))))), (6, .v (.one (.d (.int .i64 vx))))]) 2

theorem z231 (ql : List api_Prop) (s : (List api_Prop) × Int) (r : ((List api_Prop) × Int) ⊕ ((List api_Prop))) (hF : z227 ql s = some r) : Awp prog 1 14 (cL (cL (cR (cR (cB f52))))) (Out 1 (kk z230) (SS (z228 ql) (z229 ql)) r) (z228 ql s) := by
  obtain ⟨vl, vx⟩ := s
  unfold z227 at hF
  refine awp_seq ?_
  refine awp_region ?_
  refine aR 1 ?_
  refine aE ?_
  refine awp_seq ?_
  refine cE hF (fun h1 hF => ?_) fun h1 hF => ?_
  · refine awp_true (by kernel_rfl) h1 ?_
    refine awp_skip ?_
    refine awp_seq ?_
    refine awp_block ?_
    refine awp_seq ?_
    refine awp_region ?_
    refine aR 2 ?_
    refine aE ?_
    refine bE hF fun vy1 h2 hF => ?_
    refine awp_region ?_
    refine aR 3 ?_
    refine aX (x_idxO api_Prop.enc 0 h2) ?_
    refine aX (x_stE api_Prop.enc (api_Prop.mk ([] : List UInt8) (api_Value.mk 0 false 0 ([] : List UInt8))) h2) ?_
    refine aE ?_
    refine awp_region ?_
    refine aR 2 ?_
    refine aE ?_
    exact oO hF [] [] rfl
  · refine awp_false (by kernel_rfl) h1 ?_
    refine awp_exit ?_
    exact oO hF [] [] rfl

def z225 (ql : List api_Prop) (r : (List api_Prop)) : TV × Mem := (.tup [], ⟨[(0, ⟨102, 5, List.map api_Prop.enc r⟩)], []⟩)

theorem z226 {ql : List api_Prop} {r} (hF : z224 ql = some r) : Holds prog 52 [.v (.one (.own 0 none))] ⟨[(0, ⟨102, 5, List.map api_Prop.enc ql⟩)], []⟩ (Is (z225 ql r)) := by
  unfold z224 at hF
  refine holds_of_awp hΓ (fn := f52) (c := cB f52) (A := 1) (nx := 1) (by kernel_rfl) (by kernel_rfl) (by kernel_rfl) (by kernel_rfl) (by kernel_rfl) (by kernel_rfl) (lowc_of (by kernel_rfl)) ?_
  show Awp prog 1 14 (cB f52) _ _
  refine awp_seq ?_
  refine awp_region ?_
  refine aR 1 ?_
  refine aE ?_
  refine awp_seq ?_
  refine awp_region ?_
  refine aR 1 ?_
  refine aL api_Prop.enc ql ?_
  refine aR 1 ?_
  refine aE ?_
  refine awp_block ?_
  refine awp_to (st' := z228 ql (ql, 0)) (oT [] []) ?_
  refine bE hF fun vl1_1 h3 hF => ?_
  refine awp_sub (awp_loop' (z228 ql) z230 (z229 ql) (by intro x; exact fun h => nomatch h) h3 (z231 ql)) ?_
  exact oF hF [] []

/-! ### beaconfleet/twin.CheckChanges -/
def z1148 : Unit → AEx
  | _ => .exit 0

def z1147 : Unit → St
  | _ => Mem.st ⟨[], []⟩ (tl []) 0

def z1146 : Unit → St
  | _ => Mem.st ⟨[], []⟩ (tl [(0, .v (.one (.nil))), (9, .v (.one (.nil))), (10, .v (.one (.d (.int .i64 0)))), (11, .v (.one (.d (.int .i64 0))))]) 0

theorem z1149 (s : Unit) (r : (Unit) ⊕ (Unit)) (hF : z1145  s = some r) : Awp prog 0 50 (cL (cL (cR (cL (cR (cR (cB f131))))))) (Out 0 (kk z1148) (SS (z1146 ) (z1147 )) r) (z1146  s) := by
  unfold z1145 at hF
  refine awp_seq ?_
  refine awp_region ?_
  refine aR 1 ?_
  refine aE ?_
  refine awp_seq ?_
  refine cE hF (fun h2 hF => ?_) fun h2 hF => ?_
  · refine awp_true (by kernel_rfl) h2 ?_
    refine awp_skip ?_
    refine awp_seq ?_
    refine awp_block ?_
    refine awp_seq ?_
    exact nE hF
  · refine awp_false (by kernel_rfl) h2 ?_
    refine awp_exit ?_
    exact oO hF [] [] rfl

def z1143 (r : Int) : TV × Mem := (.v (.one (.d (.int .i64 r))), ⟨[], []⟩)

theorem z1144 {r} (hF : z1142 = some r) : Holds prog 131 [.v (.one (.nil))] ⟨[], []⟩ (Is (z1143  r)) := by
  unfold z1142 at hF
  refine holds_of_awp hΓ (fn := f131) (c := cB f131) (A := 0) (nx := 0) (by kernel_rfl) (by kernel_rfl) (by kernel_rfl) (by kernel_rfl) (by kernel_rfl) (by kernel_rfl) (lowc_of (by kernel_rfl)) ?_
  show Awp prog 0 50 (cB f131) _ _
  refine awp_seq ?_
  refine awp_region ?_
  refine aR 1 ?_
  refine aE ?_
  refine awp_seq ?_
  refine awp_seq ?_
  refine awp_region ?_
  refine aR 3 ?_
  refine aE ?_
  refine cE hF (fun h1 hF => ?_) fun h1 hF => ?_
  · refine awp_true (by kernel_rfl) h1 ?_
    refine awp_seq ?_
    refine awp_region ?_
    refine aR 1 ?_
    refine aE ?_
    refine awp_ret ?_
    exact oF hF [] []
  · refine awp_false (by kernel_rfl) h1 ?_
    refine awp_skip ?_
    refine awp_seq ?_
    refine awp_seq ?_
    refine awp_region ?_
    refine aR 3 ?_
    refine aE ?_
    refine awp_block ?_
    refine awp_to (st' := z1146  ()) (oT [] []) ?_
    refine bE hF fun _ h4 hF => ?_
    refine awp_sub (awp_loop' (z1146 ) z1148 (z1147 ) (by intro x; exact fun h => nomatch h) h4 (z1149 )) ?_
    refine awp_seq ?_
    refine awp_region ?_
    refine aR 1 ?_
    refine aE ?_
    refine awp_ret ?_
    exact oF hF [] []

/-! ### beaconfleet/twin.Apply$1 -/
def z1104 (qa : api_Prop) (qb : api_Prop) (r : Unit) : TV × Mem := (.v (.one (.d (.int .i64 (Lib.compareBytes qa.Name qb.Name)))), ⟨[], []⟩)

theorem z1105 {qa : api_Prop} {qb : api_Prop} {r} (hF : z1103 qa qb = some r) : Holds prog 133 [.v (.agg [.d (.str qa.Name), .d (.int .i64 qa.Value.Kind), .d (.bool qa.Value.Flag), .d (.int .i64 qa.Value.Number), .d (.str qa.Value.Words)]), .v (.agg [.d (.str qb.Name), .d (.int .i64 qb.Value.Kind), .d (.bool qb.Value.Flag), .d (.int .i64 qb.Value.Number), .d (.str qb.Value.Words)])] ⟨[], []⟩ (Is (z1104 qa qb r)) := by
  unfold z1103 at hF
  refine holds_of_awp hΓ (fn := f133) (c := cB f133) (A := 0) (nx := 0) (by kernel_rfl) (by kernel_rfl) (by kernel_rfl) (by kernel_rfl) (by kernel_rfl) (by kernel_rfl) (lowc_of (by kernel_rfl)) ?_
  show Awp prog 0 10 (cB f133) _ _
  refine awp_seq ?_
  refine awp_region ?_
  refine aR 3 ?_
  refine aE ?_
  refine awp_seq ?_
  refine bE hF fun _ h1 hF => ?_
  refine awp_region ?_
  refine aR 4 ?_
  refine aC (z1001 h1) [] [] [] ?_
  refine aR 1 ?_
  refine aE ?_
  refine awp_ret ?_
  exact oF hF [] []

/-! ### slices.insertionSortCmpFunc[beaconfleet/api.Prop] -/
def z746 : Bool → AEx
  | _ => .normal

def z745 (qa : Int) (qb : Int) (vi : Int) (vl3 : List api_Prop) (vj1 : Int) : Bool → St
  | vx4 => Mem.st ⟨[(0, ⟨102, 5, List.map api_Prop.enc vl3⟩)], []⟩ (tl [(0, .v (.one (.own 0 none))), (1, .v (.one (.d (.int .i64 qa)))), (2, .v (.one (.d (.int .i64 qb)))), (3, .v (.one (.fn 133 []))), (8, .v (.one (.d (.int .i64 vi)))), (9, .v (.one (.d (.int .i64 vj1)))), (34, .v (.one (.d (.bool vx4))))]) 1

def z744 (qa : Int) (qb : Int) (vi : Int) (vl3 : List api_Prop) (vj1 : Int) : St := Mem.st ⟨[(0, ⟨102, 5, List.map api_Prop.enc vl3⟩)], []⟩ (tl [(0, .v (.one (.own 0 none))), (1, .v (.one (.d (.int .i64 qa)))), (2, .v (.one (.d (.int .i64 qb)))), (3, .v (.one (.fn 133 []))), (8, .v (.one (.d (.int .i64 vi)))), (9, .v (.one (.d (.int .i64 vj1))))]) 1

theorem z747 (qa : Int) (qb : Int) (vi : Int) (vl3 : List api_Prop) (vj1 : Int) {r} (hF : z743 qa vl3 vj1 = some r) : Awp prog 1 53 (cL (cL (cL (cL (cR (cL (cL (cR (cL (cL (cR (cB f230)))))))))))) (Out 1 z746 (z745 qa qb vi vl3 vj1) r) (z744 qa qb vi vl3 vj1) := by
  unfold z743 at hF
  refine cE hF (fun h2 hF => ?_) fun h2 hF => ?_
  · refine bE hF fun vy15 h3 hF => ?_
    refine bE hF fun vy16 h4 hF => ?_
    refine bE hF fun _ h5 hF => ?_
    refine aD ?_
    refine dR 2 ?_
    refine dB h2 ?_
    refine dR 4 ?_
    refine dX (x_idxO api_Prop.enc 0 h3) ?_
    refine dX (x_ldE api_Prop.enc h3) ?_
    refine dR 3 ?_
    refine dX (x_idxO api_Prop.enc 0 h4) ?_
    refine dX (x_ldE api_Prop.enc h4) ?_
    refine dC (z1105 h5) [] [] [] ?_
    refine dR 2 ?_
    refine dE ?_
    exact oO hF [] [] rfl
  · refine aD ?_
    refine dR 2 ?_
    refine dB h2 ?_
    refine dR 14 ?_
    refine dE ?_
    exact oO hF [] [] rfl

def z741 : (List api_Prop) → AEx
  | _ => .exit 2

def z740 (qa : Int) (qb : Int) (vi : Int) : (List api_Prop) → St
  | vl4 => Mem.st ⟨[(0, ⟨102, 5, List.map api_Prop.enc vl4⟩)], []⟩ (tl [(0, .v (.one (.own 0 none))), (1, .v (.one (.d (.int .i64 qa)))), (2, .v (.one (.d (.int .i64 qb)))), (3, .v (.one (.fn 133 []))), (8, .v (.one (.d (.int .i64 vi))))]) 1

def z739 (qa : Int) (qb : Int) (vi : Int) : (List api_Prop) × Int → St
  | (vl3, vj1) => Mem.st ⟨[(0, ⟨102, 5, List.map api_Prop.enc vl3⟩)], []⟩ (tl [(0, .v (.one (.own 0 none))), (1, .v (.one (.d (.int .i64 qa)))), (2, .v (.one (.d (.int .i64 qb)))), (3, .v (.one (.fn 133 []))), (8, .v (.one (.d (.int .i64 vi)))), (9, .v (.one (.d (.int .i64 vj1))))]) 1

theorem z742 (qa : Int) (qb : Int) (vi : Int) (s : (List api_Prop) × Int) (r : ((List api_Prop) × Int) ⊕ ((List api_Prop))) (hF : z738 qa s = some r) : Awp prog 1 53 (cL (cL (cR (cL (cL (cR (cL (cL (cR (cB f230)))))))))) (Out 1 (kk z741) (SS (z739 qa qb vi) (z740 qa qb vi)) r) (z739 qa qb vi s) := by
  obtain ⟨vl3, vj1⟩ := s
  unfold z738 at hF
  refine awp_seq ?_
  refine awp_seq ?_
  refine awp_to (st' := z744 qa qb vi vl3 vj1) (oT [] []) ?_
  refine bE hF fun vx4_1 h6 hF => ?_
  refine awp_sub (z747 qa qb vi vl3 vj1 h6) ?_
  refine cE hF (fun h7 hF => ?_) fun h7 hF => ?_
  · refine awp_true (by kernel_rfl) h7 ?_
    refine awp_skip ?_
    refine awp_seq ?_
    refine awp_block ?_
    refine bE hF fun vy17 h8 hF => ?_
    refine bE hF fun vy18 h9 hF => ?_
    refine bE hF fun vy19 h10 hF => ?_
    refine aDw [0] ?_
    refine dR 8 ?_
    refine dI api_Prop.enc 0 h8 rfl ?_
    refine dX (x_ldE api_Prop.enc h8) ?_
    refine dR 2 ?_
    refine dI api_Prop.enc 0 h9 rfl ?_
    refine dX (x_ldE api_Prop.enc h9) ?_
    refine dI api_Prop.enc 0 h9 rfl ?_
    refine dW api_Prop.enc (api_Prop.mk vy17.Name (api_Value.mk vy17.Value.Kind vy17.Value.Flag vy17.Value.Number vy17.Value.Words)) h9 rfl ?_
    refine dI api_Prop.enc 0 h10 rfl ?_
    refine dW api_Prop.enc (api_Prop.mk vy18.Name (api_Value.mk vy18.Value.Kind vy18.Value.Flag vy18.Value.Number vy18.Value.Words)) h10 rfl ?_
    refine dE ?_
    refine awp_region ?_
    refine aR 3 ?_
    refine aE ?_
    exact oO hF [] [] rfl
  · refine awp_false (by kernel_rfl) h7 ?_
    refine awp_exit ?_
    exact oO hF [] [] rfl

def z736 : (List api_Prop) → AEx
  | _ => .exit 0

def z735 (qa : Int) (qb : Int) : (List api_Prop) → St
  | vl5 => Mem.st ⟨[(0, ⟨102, 5, List.map api_Prop.enc vl5⟩)], []⟩ (tl []) 1

def z734 (qa : Int) (qb : Int) : (List api_Prop) × Int → St
  | (vl, vi) => Mem.st ⟨[(0, ⟨102, 5, List.map api_Prop.enc vl⟩)], []⟩ (tl [(0, .v (.one (.own 0 none))), (1, .v (.one (.d (.int .i64 qa)))), (2, .v (.one (.d (.int .i64 qb)))), (3, .v (.one (.fn 133 []))), (8, .v (.one (.d (.int .i64 vi))))]) 1

theorem z737 (qa : Int) (qb : Int) (s : (List api_Prop) × Int) (r : ((List api_Prop) × Int) ⊕ ((List api_Prop))) (hF : z733 qa qb s = some r) : Awp prog 1 53 (cL (cL (cR (cB f230)))) (Out 1 (kk z736) (SS (z734 qa qb) (z735 qa qb)) r) (z734 qa qb s) := by
  obtain ⟨vl, vi⟩ := s
  unfold z733 at hF
  refine awp_seq ?_
  refine awp_seq ?_
  refine awp_region ?_
  refine aR 3 ?_
  refine aE ?_
  refine cE hF (fun h1 hF => ?_) fun h1 hF => ?_
  · refine awp_true (by kernel_rfl) h1 ?_
    refine awp_skip ?_
    refine awp_seq ?_
    refine awp_block ?_
    refine awp_seq ?_
    refine awp_region ?_
    refine aR 2 ?_
    refine aE ?_
    refine awp_block ?_
    refine awp_to (st' := z739 qa qb vi (vl, vi)) (oT [] []) ?_
    refine bE hF fun vl4_1 h11 hF => ?_
    refine awp_sub (awp_loop' (z739 qa qb vi) z741 (z740 qa qb vi) (by intro x; exact fun h => nomatch h) h11 (z742 qa qb vi)) ?_
    refine awp_region ?_
    refine aR 3 ?_
    refine aE ?_
    exact oO hF [] [] rfl
  · refine awp_false (by kernel_rfl) h1 ?_
    refine awp_exit ?_
    exact oO hF [] [] rfl

def z731 (qdata : List api_Prop) (qa : Int) (qb : Int) (r : (List api_Prop)) : TV × Mem := (.tup [], ⟨[(0, ⟨102, 5, List.map api_Prop.enc r⟩)], []⟩)

theorem z732 {qdata : List api_Prop} {qa : Int} {qb : Int} {r} (hF : z730 qdata qa qb = some r) : Holds prog 230 [.v (.one (.own 0 none)), .v (.one (.d (.int .i64 qa))), .v (.one (.d (.int .i64 qb))), .v (.one (.fn 133 []))] ⟨[(0, ⟨102, 5, List.map api_Prop.enc qdata⟩)], []⟩ (Is (z731 qdata qa qb r)) := by
  unfold z730 at hF
  refine holds_of_awp hΓ (fn := f230) (c := cB f230) (A := 1) (nx := 1) (by kernel_rfl) (by kernel_rfl) (by kernel_rfl) (by kernel_rfl) (by kernel_rfl) (by kernel_rfl) (lowc_of (by kernel_rfl)) ?_
  show Awp prog 1 53 (cB f230) _ _
  refine awp_seq ?_
  refine awp_region ?_
  refine aR 3 ?_
  refine aE ?_
  refine awp_block ?_
  refine awp_to (st' := z734 qa qb (qdata, IntKind.wrap .i64 (qa + 1))) (oT [] []) ?_
  refine bE hF fun vl5_1 h12 hF => ?_
  refine awp_sub (awp_loop' (z734 qa qb) z736 (z735 qa qb) (by intro x; exact fun h => nomatch h) h12 (z737 qa qb)) ?_
  exact oF hF [] []

/-! ### slices.pdqsortCmpFunc[beaconfleet/api.Prop] -/
def z788 : (List api_Prop) → AEx
  | _ => .ret

def z787 (qx : List api_Prop) (qx1 : Int) (qx2 : Int) (qx3 : Int) : (List api_Prop) → St
  | vl => Mem.st ⟨[(0, ⟨102, 5, List.map api_Prop.enc vl⟩)], []⟩ (tl []) 1

def z786 (qx : List api_Prop) (qx1 : Int) (qx2 : Int) (qx3 : Int) : Unit → St
  | _ => Mem.st ⟨[(0, ⟨102, 5, List.map api_Prop.enc qx⟩)], []⟩ (tl [(0, .v (.one (.own 0 none))), (1, .v (.one (.d (.int .i64 qx1)))), (2, .v (.one (.d (.int .i64 qx2)))), (3, .v (.one (.d (.int .i64 qx3)))), (4, .v (.one (.fn 133 []))), (10, .v (.one (.d (.bool true)))), (11, .v (.one (.d (.bool true))))]) 1

theorem z789 (qx : List api_Prop) (qx1 : Int) (qx2 : Int) (qx3 : Int) (s : Unit) (r : (Unit) ⊕ ((List api_Prop))) (hF : z785 qx qx1 qx2 qx3 s = some r) : Awp prog 1 148 (cL (cL (cR (cR (cB f168))))) (Out 1 (kk z788) (SS (z786 qx qx1 qx2 qx3) (z787 qx qx1 qx2 qx3)) r) (z786 qx qx1 qx2 qx3 s) := by
  unfold z785 at hF
  refine awp_block ?_
  refine awp_seq ?_
  refine awp_region ?_
  refine aR 4 ?_
  refine aE ?_
  refine awp_seq ?_
  refine awp_seq ?_
  refine awp_region ?_
  refine aR 2 ?_
  refine aE ?_
  refine cE hF (fun h1 hF => ?_) fun h1 hF => ?_
  · refine awp_true (by kernel_rfl) h1 ?_
    refine awp_seq ?_
    refine bE hF fun vl6_1 h2 hF => ?_
    refine gE hF fun h3 hF => ?_
    refine awp_region ?_
    refine aR 4 ?_
    refine aCp (z732 h2) ⟨⟨rfl, rfl, pin1 h3⟩, trivial⟩ [] [] [] ?_
    refine aE ?_
    refine awp_ret ?_
    exact oO hF [] [] rfl
  · refine awp_false (by kernel_rfl) h1 ?_
    refine awp_skip ?_
    refine awp_seq ?_
    refine awp_seq ?_
    refine awp_region ?_
    refine aR 2 ?_
    refine aE ?_
    refine cE hF (fun h4 hF => ?_) fun h4 hF => ?_
    · refine awp_true (by kernel_rfl) h4 ?_
      refine awp_seq ?_
      exact nE hF
    · refine awp_false (by kernel_rfl) h4 ?_
      refine awp_skip ?_
      refine awp_seq ?_
      refine awp_seq ?_
      refine awp_region ?_
      refine aR 2 ?_
      refine aE ?_
      refine awp_false (by kernel_rfl) rfl ?_
      refine awp_skip ?_
      refine awp_seq ?_
      exact nE hF

def z783 (qx : List api_Prop) (qx1 : Int) (qx2 : Int) (qx3 : Int) (r : (List api_Prop)) : TV × Mem := (.tup [], ⟨[(0, ⟨102, 5, List.map api_Prop.enc r⟩)], []⟩)

theorem z784 {qx : List api_Prop} {qx1 : Int} {qx2 : Int} {qx3 : Int} {r} (hF : z782 qx qx1 qx2 qx3 = some r) : Holds prog 168 [.v (.one (.own 0 none)), .v (.one (.d (.int .i64 qx1))), .v (.one (.d (.int .i64 qx2))), .v (.one (.d (.int .i64 qx3))), .v (.one (.fn 133 []))] ⟨[(0, ⟨102, 5, List.map api_Prop.enc qx⟩)], []⟩ (Is (z783 qx qx1 qx2 qx3 r)) := by
  unfold z782 at hF
  refine holds_of_awp hΓ (fn := f168) (c := cB f168) (A := 1) (nx := 1) (by kernel_rfl) (by kernel_rfl) (by kernel_rfl) (by kernel_rfl) (by kernel_rfl) (by kernel_rfl) (lowc_of (by kernel_rfl)) ?_
  show Awp prog 1 148 (cB f168) _ _
  refine awp_seq ?_
  refine awp_region ?_
  refine aR 1 ?_
  refine aE ?_
  refine awp_seq ?_
  refine awp_region ?_
  refine aR 1 ?_
  refine aE ?_
  refine awp_block ?_
  refine awp_to (st' := z786 qx qx1 qx2 qx3 ()) (oT [] []) ?_
  refine bE hF fun vl1 h7 hF => ?_
  refine awp_sub (awp_loop' (z786 qx qx1 qx2 qx3) z788 (z787 qx qx1 qx2 qx3) (by intro x; exact fun h => nomatch h) h7 (z789 qx qx1 qx2 qx3)) ?_
  exact oF hF [] []

/-! ### slices.SortFunc[[]beaconfleet/api.Prop,beaconfleet/api.Prop] -/
def z668 (qx : List api_Prop) (r : (List api_Prop)) : TV × Mem := (.tup [], ⟨[(0, ⟨102, 5, List.map api_Prop.enc r⟩)], []⟩)

theorem z669 {qx : List api_Prop} {r} (hF : z667 qx = some r) : Holds prog 119 [.v (.one (.own 0 none)), .v (.one (.fn 133 []))] ⟨[(0, ⟨102, 5, List.map api_Prop.enc qx⟩)], []⟩ (Is (z668 qx r)) := by
  unfold z667 at hF
  refine holds_of_awp hΓ (fn := f119) (c := cB f119) (A := 1) (nx := 1) (by kernel_rfl) (by kernel_rfl) (by kernel_rfl) (by kernel_rfl) (by kernel_rfl) (by kernel_rfl) (lowc_of (by kernel_rfl)) ?_
  show Awp prog 1 14 (cB f119) _ _
  refine awp_seq ?_
  refine awp_region ?_
  refine aR 1 ?_
  refine aL api_Prop.enc qx ?_
  refine aR 1 ?_
  refine aE ?_
  refine bE hF fun vr1 h1 hF => ?_
  refine bE hF fun vl2 h2 hF => ?_
  refine gE hF fun h3 hF => ?_
  refine awp_region ?_
  refine aR 4 ?_
  refine aC (z128 h1) [] [] [] ?_
  refine aR 1 ?_
  refine aCp (z784 h2) ⟨⟨rfl, rfl, pin1 h3⟩, trivial⟩ [] [] [] ?_
  refine aE ?_
  exact oF hF [] []

/-! ### beaconfleet/twin.Apply -/
def z1112 : Unit → AEx
  | _ => .exit 0

def z1111 (qx : List api_Prop) : Unit → St
  | _ => Mem.st ⟨[], [(0, [.mapc .str true (List.map (encM D.str api_Value.enc) ([] : List (List UInt8 × api_Value)))])]⟩ (tl [(0, .v (.one (.d (.lst (List.map api_Prop.enc qx))))), (1, .v (.one (.nil))), (7, .v (.one (.mapp 0)))]) 1

def z1110 (qx : List api_Prop) : Unit → St
  | _ => Mem.st ⟨[], [(0, [.mapc .str true (List.map (encM D.str api_Value.enc) ([] : List (List UInt8 × api_Value)))])]⟩ (tl [(0, .v (.one (.d (.lst (List.map api_Prop.enc qx))))), (1, .v (.one (.nil))), (7, .v (.one (.mapp 0))), (28, .v (.one (.nil))), (29, .v (.one (.d (.int .i64 0)))), (30, .v (.one (.d (.int .i64 0))))]) 1

theorem z1113 (qx : List api_Prop) (s : Unit) (r : (Unit) ⊕ (Unit)) (hF : z1109  s = some r) : Awp prog 0 94 (cL (cL (cR (cL (cR (cR (cR (cB f53)))))))) (Out 0 (kk z1112) (SS (z1110 qx) (z1111 qx)) r) (z1110 qx s) := by
  unfold z1109 at hF
  refine awp_seq ?_
  refine awp_region ?_
  refine aR 1 ?_
  refine aE ?_
  refine awp_seq ?_
  refine cE hF (fun h5 hF => ?_) fun h5 hF => ?_
  · refine awp_true (by kernel_rfl) h5 ?_
    refine awp_skip ?_
    refine awp_seq ?_
    refine awp_block ?_
    refine awp_seq ?_
    exact nE hF
  · refine awp_false (by kernel_rfl) h5 ?_
    refine awp_exit ?_
    exact oO hF [] [] rfl

def z1122 : (List api_Prop) → AEx
  | _ => .normal

def z1121 (qx : List api_Prop) (vx : List api_Prop) (vx1 : Int) : (List api_Prop) → St
  | vx3 => Mem.st ⟨[(1, ⟨102, 5, List.map api_Prop.enc vx3⟩)], [(0, [.mapc .str true (List.map (encM D.str api_Value.enc) ([] : List (List UInt8 × api_Value)))])]⟩ (tl [(1, .v (.one (.nil))), (7, .v (.one (.mapp 0))), (10, .v (.one (.own 1 none))), (47, .v (.one (.d (.lst (List.map api_Prop.enc qx))))), (48, .v (.one (.d (.int .i64 (qx.length : Int))))), (49, .v (.one (.d (.int .i64 vx1))))]) 2

def z1120 (qx : List api_Prop) (vx : List api_Prop) (vx1 : Int) : St := Mem.st ⟨[(1, ⟨102, 5, List.map api_Prop.enc vx⟩)], [(0, [.mapc .str true (List.map (encM D.str api_Value.enc) ([] : List (List UInt8 × api_Value)))])]⟩ (tl [(1, .v (.one (.nil))), (7, .v (.one (.mapp 0))), (10, .v (.one (.own 1 none))), (47, .v (.one (.d (.lst (List.map api_Prop.enc qx))))), (48, .v (.one (.d (.int .i64 (qx.length : Int))))), (49, .v (.one (.d (.int .i64 vx1))))]) 2

theorem z1123 (qx : List api_Prop) (vx : List api_Prop) (vx1 : Int) {r} (hF : z1119 qx vx vx1 = some r) : Awp prog 0 94 (cL (cR (cR (cL (cL (cR (cL (cR (cR (cR (cR (cR (cB f53))))))))))))) (Out 0 z1122 (z1121 qx vx vx1) r) (z1120 qx vx vx1) := by
  unfold z1119 at hF
  refine awp_block ?_
  refine awp_seq ?_
  refine bE hF fun vy1 h9 hF => ?_
  refine awp_region ?_
  refine aX (x_idx api_Prop.enc h9) ?_
  refine aR 3 ?_
  refine aE ?_
  refine awp_seq ?_
  refine bE hF fun ve1 h10 hF => ?_
  refine bE hF fun vis1 h11 hF => ?_
  refine awp_region ?_
  refine aR 3 ?_
  refine aX (x_getO 0 true D.str api_Value.enc h10 h11) ?_
  refine aR 6 ?_
  refine aE ?_
  refine awp_seq ?_
  refine awp_region ?_
  refine aR 2 ?_
  refine aE ?_
  refine cE hF (fun h12 hF => ?_) fun h12 hF => ?_
  · refine awp_true (by kernel_rfl) h12 ?_
    refine gE hF fun h13 hF => ?_
    refine awp_region ?_
    refine aR 3 ?_
    refine aX (x_app api_Prop.enc 1 h13) ?_
    refine aR 1 ?_
    refine aE ?_
    exact oO hF [(1, 19002)] [] rfl
  · refine awp_false (by kernel_rfl) h12 ?_
    refine awp_skip ?_
    exact oO hF [] [] rfl

def z1117 : (List api_Prop) → AEx
  | _ => .exit 2

def z1116 (qx : List api_Prop) : (List api_Prop) → St
  | vx4 => Mem.st ⟨[(0, ⟨102, 5, List.map api_Prop.enc vx4⟩)], []⟩ (tl [(1, .v (.one (.nil))), (10, .v (.one (.own 0 none)))]) 1

def z1115 (qx : List api_Prop) : (List api_Prop) × Int → St
  | (vx, vx1) => Mem.st ⟨[(1, ⟨102, 5, List.map api_Prop.enc vx⟩)], [(0, [.mapc .str true (List.map (encM D.str api_Value.enc) ([] : List (List UInt8 × api_Value)))])]⟩ (tl [(1, .v (.one (.nil))), (7, .v (.one (.mapp 0))), (10, .v (.one (.own 1 none))), (47, .v (.one (.d (.lst (List.map api_Prop.enc qx))))), (48, .v (.one (.d (.int .i64 (qx.length : Int))))), (49, .v (.one (.d (.int .i64 vx1))))]) 2

theorem z1118 (qx : List api_Prop) (s : (List api_Prop) × Int) (r : ((List api_Prop) × Int) ⊕ ((List api_Prop))) (hF : z1114 qx s = some r) : Awp prog 0 94 (cL (cL (cR (cL (cR (cR (cR (cR (cR (cB f53)))))))))) (Out 0 (kk z1117) (SS (z1115 qx) (z1116 qx)) r) (z1115 qx s) := by
  obtain ⟨vx, vx1⟩ := s
  unfold z1114 at hF
  refine awp_seq ?_
  refine awp_region ?_
  refine aR 1 ?_
  refine aE ?_
  refine awp_seq ?_
  refine cE hF (fun h8 hF => ?_) fun h8 hF => ?_
  · refine awp_true (by kernel_rfl) h8 ?_
    refine awp_skip ?_
    refine awp_seq ?_
    refine awp_to (st' := z1120 qx vx vx1) (oT [] []) ?_
    refine bE hF fun vx3_1 h14 hF => ?_
    refine awp_sub (z1123 qx vx vx1 h14) ?_
    refine awp_region ?_
    refine aR 2 ?_
    refine aE ?_
    exact oO hF [] [] rfl
  · refine awp_false (by kernel_rfl) h8 ?_
    refine awp_exit ?_
    exact oO hF [(0, 1)] [] rfl

def z1127 : Unit → AEx
  | _ => .exit 4

def z1126 (vx4_1 : List api_Prop) : Unit → St
  | _ => Mem.st ⟨[(0, ⟨102, 5, List.map api_Prop.enc vx4_1⟩)], []⟩ (tl [(10, .v (.one (.own 0 none)))]) 1

def z1125 (vx4_1 : List api_Prop) : Unit → St
  | _ => Mem.st ⟨[(0, ⟨102, 5, List.map api_Prop.enc vx4_1⟩)], []⟩ (tl [(10, .v (.one (.own 0 none))), (67, .v (.one (.nil))), (68, .v (.one (.d (.int .i64 0)))), (69, .v (.one (.d (.int .i64 0))))]) 1

theorem z1128 (vx4_1 : List api_Prop) (s : Unit) (r : (Unit) ⊕ (Unit)) (hF : z1124  s = some r) : Awp prog 0 94 (cL (cL (cR (cL (cR (cR (cR (cR (cR (cR (cB f53))))))))))) (Out 0 (kk z1127) (SS (z1125 vx4_1) (z1126 vx4_1)) r) (z1125 vx4_1 s) := by
  unfold z1124 at hF
  refine awp_seq ?_
  refine awp_region ?_
  refine aR 1 ?_
  refine aE ?_
  refine awp_seq ?_
  refine cE hF (fun h16 hF => ?_) fun h16 hF => ?_
  · refine awp_true (by kernel_rfl) h16 ?_
    refine awp_skip ?_
    refine awp_seq ?_
    refine awp_block ?_
    refine awp_seq ?_
    exact nE hF
  · refine awp_false (by kernel_rfl) h16 ?_
    refine awp_exit ?_
    exact oO hF [] [] rfl

def z1107 (qx : List api_Prop) (r : (List api_Prop) × Int) : TV × Mem := (.tup [.one (.own 0 none), .one (.d (.int .i64 r.2))], ⟨[(0, ⟨102, 5, List.map api_Prop.enc r.1⟩)], []⟩)

theorem z1108 {qx : List api_Prop} {r} (hF : z1106 qx = some r) : Holds prog 53 [.v (.one (.d (.lst (List.map api_Prop.enc qx)))), .v (.one (.nil))] ⟨[], []⟩ (Is (z1107 qx r)) := by
  unfold z1106 at hF
  refine holds_of_awp hΓ (fn := f53) (c := cB f53) (A := 0) (nx := 0) (by kernel_rfl) (by kernel_rfl) (by kernel_rfl) (by kernel_rfl) (by kernel_rfl) (by kernel_rfl) (lowc_of (by kernel_rfl)) ?_
  show Awp prog 0 94 (cB f53) _ _
  refine awp_seq ?_
  refine awp_region ?_
  refine aR 2 ?_
  refine aE ?_
  refine awp_seq ?_
  refine awp_seq ?_
  refine bE hF fun vr3 h1 hF => ?_
  refine bE hF fun vr h2 hF => ?_
  refine bE hF fun vr1 h3 hF => ?_
  refine awp_region ?_
  refine aR 1 ?_
  refine aC (z1168 h1) [] [] [] ?_
  refine aR 1 ?_
  refine aC (z1144 h2) [] [] [] ?_
  refine aR 1 ?_
  refine aC (z26 h3) [] [] [6000] ?_
  refine aR 1 ?_
  refine aE ?_
  refine awp_seq ?_
  refine awp_region ?_
  refine aR 2 ?_
  refine aE ?_
  refine cE hF (fun h4 hF => ?_) fun h4 hF => ?_
  · refine awp_true (by kernel_rfl) h4 ?_
    refine awp_seq ?_
    refine awp_region ?_
    refine aR 3 ?_
    refine aE ?_
    refine awp_ret ?_
    exact oF hF [] [0]
  · refine awp_false (by kernel_rfl) h4 ?_
    refine awp_skip ?_
    refine awp_seq ?_
    refine awp_region ?_
    refine aX (x_map .str true (κ := List UInt8) (β := api_Value) D.str api_Value.enc) ?_
    refine aR 1 ?_
    refine aE ?_
    refine awp_seq ?_
    refine awp_seq ?_
    refine awp_region ?_
    refine aR 3 ?_
    refine aE ?_
    refine awp_block ?_
    refine awp_to (st' := z1110 qx ()) (oT [(0, 11000)] []) ?_
    refine bE hF fun _ h7 hF => ?_
    refine awp_sub (awp_loop' (z1110 qx) z1112 (z1111 qx) (by intro x; exact fun h => nomatch h) h7 (z1113 qx)) ?_
    refine awp_seq ?_
    refine awp_region ?_
    refine aR 1 ?_
    refine aE ?_
    refine awp_seq ?_
    refine awp_seq ?_
    refine awp_region ?_
    refine aR 1 ?_
    refine aL api_Prop.enc qx ?_
    refine aR 1 ?_
    refine aE ?_
    refine awp_block ?_
    refine awp_to (st' := z1115 qx ([], 0)) (oT [] [1]) ?_
    refine bE hF fun vx4_1 h15 hF => ?_
    refine awp_sub (awp_loop' (z1115 qx) z1117 (z1116 qx) (by intro x; exact fun h => nomatch h) h15 (z1118 qx)) ?_
    refine awp_seq ?_
    refine awp_seq ?_
    refine awp_region ?_
    refine aR 3 ?_
    refine aE ?_
    refine awp_block ?_
    refine awp_to (st' := z1125 vx4_1 ()) (oT [] []) ?_
    refine bE hF fun _ h18 hF => ?_
    refine awp_sub (awp_loop' (z1125 vx4_1) z1127 (z1126 vx4_1) (by intro x; exact fun h => nomatch h) h18 (z1128 vx4_1)) ?_
    refine awp_seq ?_
    refine bE hF fun vl h19 hF => ?_
    refine gE hF fun h20 hF => ?_
    refine awp_region ?_
    refine aR 1 ?_
    refine aCp (z669 h19) ⟨⟨rfl, rfl, pin1 h20⟩, trivial⟩ [] [] [] ?_
    refine aE ?_
    refine awp_seq ?_
    refine awp_seq ?_
    refine bE hF fun vr3_1 h21 hF => ?_
    refine awp_region ?_
    refine aR 1 ?_
    refine aC (z1168 h21) [] [] [0] ?_
    refine aR 1 ?_
    refine aE ?_
    refine awp_seq ?_
    refine awp_region ?_
    refine aR 2 ?_
    refine aE ?_
    refine cE hF (fun h22 hF => ?_) fun h22 hF => ?_
    · refine awp_true (by kernel_rfl) h22 ?_
      refine awp_seq ?_
      refine awp_region ?_
      refine aR 3 ?_
      refine aE ?_
      refine awp_ret ?_
      exact oF hF [] [0]
    · refine awp_false (by kernel_rfl) h22 ?_
      refine awp_skip ?_
      refine awp_seq ?_
      refine awp_region ?_
      refine aR 3 ?_
      refine aE ?_
      refine awp_ret ?_
      exact oF hF [] []

/-! ### beaconfleet/twin.twinFault -/
def z1395 (qt : api_Twin) (r : Int) : TV × Mem := (.v (.one (.d (.int .i64 r))), ⟨[], []⟩)

theorem z1396 {qt : api_Twin} {r} (hF : z1394 qt = some r) : Holds prog 134 [.v (.agg [.d (.lst (List.map api_Cell.enc qt.Desired)), .d (.lst (List.map api_Cell.enc qt.Reported))])] ⟨[], []⟩ (Is (z1395 qt r)) := by
  unfold z1394 at hF
  refine holds_of_awp hΓ (fn := f134) (c := cB f134) (A := 0) (nx := 0) (by kernel_rfl) (by kernel_rfl) (by kernel_rfl) (by kernel_rfl) (by kernel_rfl) (by kernel_rfl) (lowc_of (by kernel_rfl)) ?_
  show Awp prog 0 11 (cB f134) _ _
  refine awp_seq ?_
  refine awp_region ?_
  refine aR 2 ?_
  refine aE ?_
  refine awp_seq ?_
  refine bE hF fun vr6 h1 hF => ?_
  refine bE hF fun vr6_1 h2 hF => ?_
  refine bE hF fun vr h3 hF => ?_
  refine aD ?_
  refine dR 2 ?_
  refine dC (z1131 h1) [] [] [] ?_
  refine dR 2 ?_
  refine dC (z1131 h2) [] [] [] ?_
  refine dR 1 ?_
  refine dC (z26 h3) [] [] [8000] ?_
  refine dR 1 ?_
  refine dE ?_
  refine awp_ret ?_
  exact oF hF [] []

/-! ### beaconfleet/twin.Take$1 -/
def z1237 (qx : api_Cell) (qx1 : api_Stamp) (r : Bool) : TV × Mem := (.v (.one (.d (.bool r))), ⟨[], [(0, [.d (.int .i64 qx1.At), .d (.str qx1.By), .d (.int .i64 qx1.No)])]⟩)

theorem z1238 {qx : api_Cell} {qx1 : api_Stamp} {r} (hF : z1236 qx qx1 = some r) : Holds prog 136 [.v (.agg [.d (.str qx.Prop_.Name), .d (.int .i64 qx.Prop_.Value.Kind), .d (.bool qx.Prop_.Value.Flag), .d (.int .i64 qx.Prop_.Value.Number), .d (.str qx.Prop_.Value.Words), .d (.int .i64 qx.Stamp.At), .d (.str qx.Stamp.By), .d (.int .i64 qx.Stamp.No)]), .v (.one (.box 0 0))] ⟨[], [(0, [.d (.int .i64 qx1.At), .d (.str qx1.By), .d (.int .i64 qx1.No)])]⟩ (Is (z1237 qx qx1 r)) := by
  unfold z1236 at hF
  refine holds_of_awp hΓ (fn := f136) (c := cB f136) (A := 1) (nx := 1) (by kernel_rfl) (by kernel_rfl) (by kernel_rfl) (by kernel_rfl) (by kernel_rfl) (by kernel_rfl) (lowc_of (by kernel_rfl)) ?_
  show Awp prog 1 9 (cB f136) _ _
  refine awp_seq ?_
  refine awp_region ?_
  refine aR 2 ?_
  refine aE ?_
  refine awp_seq ?_
  refine bE hF fun vr3 h1 hF => ?_
  refine awp_region ?_
  refine aR 3 ?_
  refine aC (z1280 h1) [] [] [] ?_
  refine aR 2 ?_
  refine aE ?_
  refine awp_ret ?_
  exact oF hF [] []

/-! ### slices.IndexFunc[[]beaconfleet/api.Cell,beaconfleet/api.Cell] -/
def z619 : Unit ⊕ Int → AEx
  | .inl _ => .exit 0
  | .inr _ => .ret

def z618 (qs : List api_Cell) (qf : api_Stamp) : Unit ⊕ Int → St
  | .inl _ => Mem.st ⟨[], [(0, [.d (.int .i64 qf.At), .d (.str qf.By), .d (.int .i64 qf.No)])]⟩ (tl []) 1
  | .inr vx1 => Mem.st ⟨[], [(0, [.d (.int .i64 qf.At), .d (.str qf.By), .d (.int .i64 qf.No)])]⟩ (tl [(4, .v (.one (.d (.int .i64 vx1))))]) 1

def z617 (qs : List api_Cell) (qf : api_Stamp) : Int → St
  | vx => Mem.st ⟨[], [(0, [.d (.int .i64 qf.At), .d (.str qf.By), .d (.int .i64 qf.No)])]⟩ (tl [(0, .v (.one (.d (.lst (List.map api_Cell.enc qs))))), (1, .v (.one (.fn 136 [0]))), (7, .v (.one (.d (.int .i64 (qs.length : Int))))), (8, .v (.one (.d (.int .i64 vx))))]) 1

theorem z620 (qs : List api_Cell) (qf : api_Stamp) (vx : Int) (r : (Int) ⊕ (Unit ⊕ Int)) (hF : z616 qs qf vx = some r) : Awp prog 1 19 (cL (cL (cR (cL (cR (cB f178)))))) (Out 1 (kk z619) (SS (z617 qs qf) (z618 qs qf)) r) (z617 qs qf vx) := by
  unfold z616 at hF
  refine awp_seq ?_
  refine awp_region ?_
  refine aR 1 ?_
  refine aE ?_
  refine awp_seq ?_
  refine cE hF (fun h1 hF => ?_) fun h1 hF => ?_
  · refine awp_true (by kernel_rfl) h1 ?_
    refine awp_skip ?_
    refine awp_seq ?_
    refine awp_block ?_
    refine awp_seq ?_
    refine awp_region ?_
    refine aR 2 ?_
    refine aE ?_
    refine awp_seq ?_
    refine bE hF fun vy1 h2 hF => ?_
    refine bE hF fun vr1 h3 hF => ?_
    refine awp_region ?_
    refine aR 3 ?_
    refine aX (x_idx api_Cell.enc h2) ?_
    refine aR 1 ?_
    refine aC (z1238 h3) [] [] [] ?_
    refine aE ?_
    refine cE hF (fun h4 hF => ?_) fun h4 hF => ?_
    · refine awp_true (by kernel_rfl) h4 ?_
      refine awp_seq ?_
      refine awp_region ?_
      refine aR 2 ?_
      refine aE ?_
      refine awp_ret ?_
      exact oO hF [] [] rfl
    · refine awp_false (by kernel_rfl) h4 ?_
      refine awp_skip ?_
      refine awp_region ?_
      refine aR 2 ?_
      refine aE ?_
      exact oO hF [] [] rfl
  · refine awp_false (by kernel_rfl) h1 ?_
    refine awp_exit ?_
    exact oO hF [] [] rfl

def z614 (qs : List api_Cell) (qf : api_Stamp) (r : Int) : TV × Mem := (.v (.one (.d (.int .i64 r))), ⟨[], [(0, [.d (.int .i64 qf.At), .d (.str qf.By), .d (.int .i64 qf.No)])]⟩)

theorem z615 {qs : List api_Cell} {qf : api_Stamp} {r} (hF : z613 qs qf = some r) : Holds prog 178 [.v (.one (.d (.lst (List.map api_Cell.enc qs)))), .v (.one (.fn 136 [0]))] ⟨[], [(0, [.d (.int .i64 qf.At), .d (.str qf.By), .d (.int .i64 qf.No)])]⟩ (Is (z614 qs qf r)) := by
  unfold z613 at hF
  refine holds_of_awp hΓ (fn := f178) (c := cB f178) (A := 1) (nx := 1) (by kernel_rfl) (by kernel_rfl) (by kernel_rfl) (by kernel_rfl) (by kernel_rfl) (by kernel_rfl) (lowc_of (by kernel_rfl)) ?_
  show Awp prog 1 19 (cB f178) _ _
  refine awp_seq ?_
  refine awp_region ?_
  refine aR 1 ?_
  refine aE ?_
  refine awp_seq ?_
  refine awp_seq ?_
  refine awp_region ?_
  refine aR 1 ?_
  refine aL api_Cell.enc qs ?_
  refine aR 1 ?_
  refine aE ?_
  refine awp_block ?_
  refine awp_to (st' := z617 qs qf 0) (oT [] []) ?_
  refine bE hF fun x h5 hF => ?_
  rcases x with _ | vx1_1
  · refine awp_sub (awp_loop' (z617 qs qf) z619 (z618 qs qf) (by intro x; rcases x with x | x <;> exact fun h => nomatch h) h5 (z620 qs qf)) ?_
    refine awp_seq ?_
    refine awp_region ?_
    refine aR 1 ?_
    refine aE ?_
    refine awp_ret ?_
    exact oF hF [] []
  · refine awp_sub (awp_loop' (z617 qs qf) z619 (z618 qs qf) (by intro x; rcases x with x | x <;> exact fun h => nomatch h) h5 (z620 qs qf)) ?_
    exact oF hF [] []

/-! ### slices.ContainsFunc[[]beaconfleet/api.Cell,beaconfleet/api.Cell] -/
def z556 (qs : List api_Cell) (qf : api_Stamp) (r : Bool) : TV × Mem := (.v (.one (.d (.bool r))), ⟨[], [(0, [.d (.int .i64 qf.At), .d (.str qf.By), .d (.int .i64 qf.No)])]⟩)

theorem z557 {qs : List api_Cell} {qf : api_Stamp} {r} (hF : z555 qs qf = some r) : Holds prog 128 [.v (.one (.d (.lst (List.map api_Cell.enc qs)))), .v (.one (.fn 136 [0]))] ⟨[], [(0, [.d (.int .i64 qf.At), .d (.str qf.By), .d (.int .i64 qf.No)])]⟩ (Is (z556 qs qf r)) := by
  unfold z555 at hF
  refine holds_of_awp hΓ (fn := f128) (c := cB f128) (A := 1) (nx := 1) (by kernel_rfl) (by kernel_rfl) (by kernel_rfl) (by kernel_rfl) (by kernel_rfl) (by kernel_rfl) (lowc_of (by kernel_rfl)) ?_
  show Awp prog 1 9 (cB f128) _ _
  refine awp_seq ?_
  refine awp_region ?_
  refine aR 1 ?_
  refine aE ?_
  refine awp_seq ?_
  refine bE hF fun vr2 h1 hF => ?_
  refine awp_region ?_
  refine aR 2 ?_
  refine aC (z615 h1) [] [] [] ?_
  refine aR 2 ?_
  refine aE ?_
  refine awp_ret ?_
  exact oF hF [] []

/-! ### beaconfleet/twin.joined -/
def z1329 : Bool → AEx
  | _ => .normal

def z1328 (qx : List api_Cell) : Bool → St
  | vx2 => Mem.st ⟨[], []⟩ (tl [(0, .v (.one (.d (.lst (List.map api_Cell.enc qx))))), (1, .v (.one (.nil))), (6, .v (.one (.nil))), (16, .v (.one (.d (.bool vx2))))]) 0

def z1327 (qx : List api_Cell) : St := Mem.st ⟨[], []⟩ (tl [(0, .v (.one (.d (.lst (List.map api_Cell.enc qx))))), (1, .v (.one (.nil))), (6, .v (.one (.nil)))]) 0

theorem z1330 (qx : List api_Cell) {r} (hF : z1326 qx = some r) : Awp prog 0 99 (cL (cL (cL (cL (cL (cR (cR (cB f175)))))))) (Out 0 z1329 (z1328 qx) r) (z1327 qx) := by
  unfold z1326 at hF
  refine cE hF (fun h1 hF => ?_) fun h1 hF => ?_
  · refine awp_region ?_
    refine aR 1 ?_
    refine aL api_Cell.enc qx ?_
    refine aB h1 ?_
    refine aR 5 ?_
    refine aE ?_
    exact oO hF [] [] rfl
  · refine awp_region ?_
    refine aR 1 ?_
    refine aL api_Cell.enc qx ?_
    refine aB h1 ?_
    refine aR 5 ?_
    refine aE ?_
    exact oO hF [] [] rfl

def z1324 : Unit → AEx
  | _ => .exit 0

def z1323 (qx : List api_Cell) : Unit → St
  | _ => Mem.st ⟨[], []⟩ (tl [(0, .v (.one (.d (.lst (List.map api_Cell.enc qx))))), (1, .v (.one (.nil))), (6, .v (.one (.nil)))]) 0

def z1322 (qx : List api_Cell) : Unit → St
  | _ => Mem.st ⟨[], []⟩ (tl [(0, .v (.one (.d (.lst (List.map api_Cell.enc qx))))), (1, .v (.one (.nil))), (6, .v (.one (.nil)))]) 0

theorem z1325 (qx : List api_Cell) (s : Unit) (r : (Unit) ⊕ (Unit)) (hF : z1321 qx s = some r) : Awp prog 0 99 (cL (cL (cL (cR (cR (cB f175)))))) (Out 0 (kk z1324) (SS (z1322 qx) (z1323 qx)) r) (z1322 qx s) := by
  unfold z1321 at hF
  refine awp_seq ?_
  refine awp_seq ?_
  refine awp_to (st' := z1327 qx) (oT [] []) ?_
  refine bE hF fun vx2_1 h2 hF => ?_
  refine awp_sub (z1330 qx h2) ?_
  refine cE hF (fun h3 hF => ?_) fun h3 hF => ?_
  · refine awp_true (by kernel_rfl) h3 ?_
    refine awp_skip ?_
    refine awp_block ?_
    refine awp_seq ?_
    refine awp_seq ?_
    refine bE hF fun vy1 h4 hF => ?_
    exact nE hF
  · refine awp_false (by kernel_rfl) h3 ?_
    refine awp_exit ?_
    exact oO hF [] [] rfl

def z1319 (qx : List api_Cell) (r : (List api_Cell)) : TV × Mem := (.tup [.one (.own 0 none), .one (.d (.int .i64 0))], ⟨[(0, ⟨106, 8, List.map api_Cell.enc r⟩)], []⟩)

theorem z1320 {qx : List api_Cell} {r} (hF : z1318 qx = some r) : Holds prog 175 [.v (.one (.d (.lst (List.map api_Cell.enc qx)))), .v (.one (.nil))] ⟨[], []⟩ (Is (z1319 qx r)) := by
  unfold z1318 at hF
  refine holds_of_awp hΓ (fn := f175) (c := cB f175) (A := 0) (nx := 0) (by kernel_rfl) (by kernel_rfl) (by kernel_rfl) (by kernel_rfl) (by kernel_rfl) (by kernel_rfl) (lowc_of (by kernel_rfl)) ?_
  show Awp prog 0 99 (cB f175) _ _
  refine awp_seq ?_
  refine awp_region ?_
  refine aR 2 ?_
  refine aE ?_
  refine awp_seq ?_
  refine awp_region ?_
  refine aR 1 ?_
  refine aE ?_
  refine awp_seq ?_
  refine awp_block ?_
  refine awp_to (st' := z1322 qx ()) (oT [] []) ?_
  refine bE hF fun _ h6 hF => ?_
  refine awp_sub (awp_loop' (z1322 qx) z1324 (z1323 qx) (by intro x; exact fun h => nomatch h) h6 (z1325 qx)) ?_
  refine awp_seq ?_
  refine bE hF fun vr1 h7 hF => ?_
  refine awp_region ?_
  refine aR 4 ?_
  refine aC (z541 h7) [(0, 3000)] [] [] ?_
  refine aR 2 ?_
  refine aE ?_
  refine awp_ret ?_
  exact oF hF [(0, 4001)] []

/-! ### beaconfleet/twin.merged -/
def z1365 : Bool → AEx
  | _ => .normal

def z1364 (vr : List api_Cell) : Bool → St
  | vx => Mem.st ⟨[(0, ⟨106, 8, List.map api_Cell.enc vr⟩)], []⟩ (tl [(6, .v (.one (.own 0 none))), (7, .v (.one (.d (.int .i64 0)))), (20, .v (.one (.d (.bool vx))))]) 1

def z1363 (vr : List api_Cell) : St := Mem.st ⟨[(0, ⟨106, 8, List.map api_Cell.enc vr⟩)], []⟩ (tl [(6, .v (.one (.own 0 none))), (7, .v (.one (.d (.int .i64 0))))]) 1

theorem z1366 (vr : List api_Cell) {r} (hF : z1362 vr = some r) : Awp prog 0 25 (cL (cL (cR (cR (cB f123))))) (Out 0 z1365 (z1364 vr) r) (z1363 vr) := by
  unfold z1362 at hF
  refine cE hF (fun h2 hF => ?_) fun h2 hF => ?_
  · refine awp_region ?_
    refine aR 1 ?_
    refine aB h2 ?_
    refine aR 2 ?_
    refine aL api_Cell.enc vr ?_
    refine aR 2 ?_
    refine aE ?_
    exact oO hF [] [] rfl
  · refine awp_region ?_
    refine aR 1 ?_
    refine aB h2 ?_
    refine aR 5 ?_
    refine aE ?_
    exact oO hF [] [] rfl

def z1360 : Int → AEx
  | _ => .normal

def z1359 (vr : List api_Cell) : Int → St
  | ve => Mem.st ⟨[(0, ⟨106, 8, List.map api_Cell.enc vr⟩)], []⟩ (tl [(6, .v (.one (.own 0 none))), (7, .v (.one (.d (.int .i64 ve))))]) 1

def z1358 (vr : List api_Cell) : St := Mem.st ⟨[(0, ⟨106, 8, List.map api_Cell.enc vr⟩)], []⟩ (tl [(6, .v (.one (.own 0 none))), (7, .v (.one (.d (.int .i64 0))))]) 1

theorem z1361 (vr : List api_Cell) {r} (hF : z1357 vr = some r) : Awp prog 0 25 (cL (cR (cR (cB f123)))) (Out 0 z1360 (z1359 vr) r) (z1358 vr) := by
  unfold z1357 at hF
  refine awp_seq ?_
  refine awp_to (st' := z1363 vr) (oT [] []) ?_
  refine bE hF fun vx1 h3 hF => ?_
  refine awp_sub (z1366 vr h3) ?_
  refine cE hF (fun h4 hF => ?_) fun h4 hF => ?_
  · refine awp_true (by kernel_rfl) h4 ?_
    refine awp_region ?_
    refine aR 1 ?_
    refine aE ?_
    exact oO hF [] [] rfl
  · refine awp_false (by kernel_rfl) h4 ?_
    refine awp_skip ?_
    exact oO hF [] [] rfl

def z1355 (qa : List api_Cell) (r : (List api_Cell) × Int) : TV × Mem := (.tup [.one (.own 0 none), .one (.d (.int .i64 r.2))], ⟨[(0, ⟨106, 8, List.map api_Cell.enc r.1⟩)], []⟩)

theorem z1356 {qa : List api_Cell} {r} (hF : z1354 qa = some r) : Holds prog 123 [.v (.one (.d (.lst (List.map api_Cell.enc qa)))), .v (.one (.nil))] ⟨[], []⟩ (Is (z1355 qa r)) := by
  unfold z1354 at hF
  refine holds_of_awp hΓ (fn := f123) (c := cB f123) (A := 0) (nx := 0) (by kernel_rfl) (by kernel_rfl) (by kernel_rfl) (by kernel_rfl) (by kernel_rfl) (by kernel_rfl) (lowc_of (by kernel_rfl)) ?_
  show Awp prog 0 25 (cB f123) _ _
  refine awp_seq ?_
  refine awp_region ?_
  refine aR 2 ?_
  refine aE ?_
  refine awp_seq ?_
  refine bE hF fun vr h1 hF => ?_
  refine awp_region ?_
  refine aR 2 ?_
  refine aC (z1320 h1) [] [] [] ?_
  refine aR 5 ?_
  refine aE ?_
  refine awp_seq ?_
  refine awp_to (st' := z1358 vr) (oT [(0, 4000)] []) ?_
  refine bE hF fun ve1 h5 hF => ?_
  refine awp_sub (z1361 vr h5) ?_
  refine awp_seq ?_
  refine awp_seq ?_
  refine awp_region ?_
  refine aR 2 ?_
  refine aE ?_
  refine cE hF (fun h6 hF => ?_) fun h6 hF => ?_
  · refine awp_true (by kernel_rfl) h6 ?_
    refine awp_seq ?_
    refine awp_region ?_
    refine aR 3 ?_
    refine aE ?_
    refine awp_ret ?_
    exact oF hF [] [0]
  · refine awp_false (by kernel_rfl) h6 ?_
    refine awp_skip ?_
    refine awp_seq ?_
    refine awp_region ?_
    refine aR 3 ?_
    refine aE ?_
    refine awp_ret ?_
    exact oF hF [] []

/-! ### slices.Clone[[]beaconfleet/api.Cell,beaconfleet/api.Cell] -/
def z495 (qs : List api_Cell) (r : List api_Cell) : TV × Mem := (.v (.one (.own 0 none)), ⟨[(0, ⟨106, 8, List.map api_Cell.enc r⟩)], []⟩)

theorem z496 {qs : List api_Cell} {r} (hF : z494 qs = some r) : Holds prog 138 [.v (.one (.d (.lst (List.map api_Cell.enc qs))))] ⟨[], []⟩ (Is (z495 qs r)) := by
  unfold z494 at hF
  refine gE hF fun h1 hF => ?_
  refine holds_of_awp hΓ (fn := f138) (c := cB f138) (A := 0) (nx := 0) (by kernel_rfl) (by kernel_rfl) (by kernel_rfl) (by kernel_rfl) (by kernel_rfl) (by kernel_rfl) (lowc_of (by kernel_rfl)) ?_
  show Awp prog 0 8 (cB f138) _ _
  refine awp_seq ?_
  refine awp_region ?_
  refine aR 1 ?_
  refine aE ?_
  refine awp_seq ?_
  refine awp_seq ?_
  refine awp_region ?_
  refine aR 1 ?_
  refine aN api_Cell.enc qs (fun b hb => ?_) rfl
  refine aE ?_
  cases b with
  | true =>
    obtain rfl := hb rfl
    refine awp_true (by kernel_rfl) rfl ?_
    refine awp_seq ?_
    refine awp_region ?_
    refine aR 1 ?_
    refine aE ?_
    refine awp_ret ?_
    exact oF hF [] [0]
  | false =>
    refine awp_false (by kernel_rfl) rfl ?_
    refine awp_skip ?_
    refine awp_seq ?_
    refine awp_region ?_
    refine aR 2 ?_
    refine aX (x_app api_Cell.enc 3000 h1) ?_
    refine aR 1 ?_
    refine aE ?_
    refine awp_ret ?_
    exact oF hF [(0, 5000)] []

/-! ### beaconfleet/twin.Take -/
def z1245 : Unit → AEx
  | _ => .exit 0

def z1244 (qt : api_Twin) (qs : api_Stamp) : Unit → St
  | _ => Mem.st ⟨[], [(0, [.d (.lst (List.map api_Cell.enc qt.Desired)), .d (.lst (List.map api_Cell.enc qt.Reported))]), (1, [.nil, .nil])]⟩ (tl [(3, .v (.one (.box 0 0))), (6, .v (.one (.box 1 0))), (9, .v (.one (.nil)))]) 2

def z1243 (qt : api_Twin) (qs : api_Stamp) : Unit → St
  | _ => Mem.st ⟨[], [(0, [.d (.lst (List.map api_Cell.enc qt.Desired)), .d (.lst (List.map api_Cell.enc qt.Reported))]), (1, [.d (.int .i64 qs.At), .d (.str qs.By), .d (.int .i64 qs.No)]), (2, [.nil, .nil])]⟩ (tl [(3, .v (.one (.box 0 0))), (5, .v (.one (.box 1 0))), (6, .v (.one (.box 2 0))), (9, .v (.one (.nil))), (31, .v (.one (.nil))), (32, .v (.one (.d (.int .i64 0)))), (33, .v (.one (.d (.int .i64 0))))]) 3

theorem z1246 (qt : api_Twin) (qs : api_Stamp) (s : Unit) (r : (Unit) ⊕ (Unit)) (hF : z1242  s = some r) : Awp prog 0 64 (cL (cL (cR (cL (cR (cR (cR (cR (cB f54))))))))) (Out 0 (kk z1245) (SS (z1243 qt qs) (z1244 qt qs)) r) (z1243 qt qs s) := by
  unfold z1242 at hF
  refine awp_seq ?_
  refine awp_region ?_
  refine aR 1 ?_
  refine aE ?_
  refine awp_seq ?_
  refine cE hF (fun h8 hF => ?_) fun h8 hF => ?_
  · refine awp_true (by kernel_rfl) h8 ?_
    refine awp_skip ?_
    refine awp_seq ?_
    refine awp_block ?_
    refine awp_seq ?_
    exact nE hF
  · refine awp_false (by kernel_rfl) h8 ?_
    refine awp_exit ?_
    exact oO hF [(1, 2)] [] rfl

def z1240 (qt : api_Twin) (qs : api_Stamp) (r : (List api_Cell) × (List api_Cell) × Int) : TV × Mem := (.tup [.agg [.own 0 none, .own 1 none], .one (.d (.int .i64 r.2.2))], ⟨[(0, ⟨106, 8, List.map api_Cell.enc r.1⟩), (1, ⟨106, 8, List.map api_Cell.enc r.2.1⟩)], []⟩)

theorem z1241 {qt : api_Twin} {qs : api_Stamp} {r} (hF : z1239 qt qs = some r) : Holds prog 54 [.v (.agg [.d (.lst (List.map api_Cell.enc qt.Desired)), .d (.lst (List.map api_Cell.enc qt.Reported))]), .v (.one (.nil)), .v (.agg [.d (.int .i64 qs.At), .d (.str qs.By), .d (.int .i64 qs.No)])] ⟨[], []⟩ (Is (z1240 qt qs r)) := by
  unfold z1239 at hF
  refine holds_of_awp hΓ (fn := f54) (c := cB f54) (A := 0) (nx := 0) (by kernel_rfl) (by kernel_rfl) (by kernel_rfl) (by kernel_rfl) (by kernel_rfl) (by kernel_rfl) (lowc_of (by kernel_rfl)) ?_
  show Awp prog 0 64 (cB f54) _ _
  refine awp_seq ?_
  refine awp_region ?_
  refine aR 4 ?_
  refine aE ?_
  refine awp_seq ?_
  refine awp_seq ?_
  refine bE hF fun vr1 h1 hF => ?_
  refine bE hF fun vr h2 hF => ?_
  refine bE hF fun vr3 h3 hF => ?_
  refine bE hF fun vr2 h4 hF => ?_
  refine aD ?_
  refine dR 1 ?_
  refine dC (z1396 h1) [] [] [] ?_
  refine dR 1 ?_
  refine dC (z1144 h2) [] [] [] ?_
  refine dR 1 ?_
  refine dC (z1393 h3) [] [] [] ?_
  refine dR 1 ?_
  refine dC (z26 h4) [] [] [10000] ?_
  refine dR 1 ?_
  refine dE ?_
  refine awp_seq ?_
  refine awp_region ?_
  refine aR 2 ?_
  refine aE ?_
  refine cE hF (fun h5 hF => ?_) fun h5 hF => ?_
  · refine awp_true (by kernel_rfl) h5 ?_
    refine awp_seq ?_
    refine awp_region ?_
    refine aR 4 ?_
    refine aE ?_
    refine awp_ret ?_
    exact oF hF [] [0, 1]
  · refine awp_false (by kernel_rfl) h5 ?_
    refine awp_skip ?_
    refine awp_seq ?_
    refine awp_seq ?_
    refine bE hF fun vr4 h6 hF => ?_
    refine awp_region ?_
    refine aR 3 ?_
    refine aC (z557 h6) [(0, 1000)] [] [] ?_
    refine aE ?_
    refine cE hF (fun h7 hF => ?_) fun h7 hF => ?_
    · refine awp_true (by kernel_rfl) h7 ?_
      refine awp_seq ?_
      refine awp_region ?_
      refine aR 3 ?_
      refine aE ?_
      refine awp_ret ?_
      exact oF hF [] [0, 1]
    · refine awp_false (by kernel_rfl) h7 ?_
      refine awp_skip ?_
      refine awp_seq ?_
      refine awp_region ?_
      refine aR 1 ?_
      refine aE ?_
      refine awp_seq ?_
      refine awp_seq ?_
      refine awp_region ?_
      refine aR 3 ?_
      refine aE ?_
      refine awp_block ?_
      refine awp_to (st' := z1243 qt qs ()) (oT [(1, 1000), (2, 2000)] []) ?_
      refine bE hF fun _ h10 hF => ?_
      refine awp_sub (awp_loop' (z1243 qt qs) z1245 (z1244 qt qs) (by intro x; exact fun h => nomatch h) h10 (z1246 qt qs)) ?_
      refine awp_seq ?_
      refine bE hF fun x h11 hF => ?_
      obtain ⟨vr1_1, vr2_1⟩ := x
      refine awp_region ?_
      refine aR 3 ?_
      refine aC (z1356 h11) [] [] [] ?_
      refine aR 5 ?_
      refine aE ?_
      refine awp_seq ?_
      refine awp_seq ?_
      refine awp_region ?_
      refine aR 2 ?_
      refine aE ?_
      refine cE hF (fun h12 hF => ?_) fun h12 hF => ?_
      · refine awp_true (by kernel_rfl) h12 ?_
        refine awp_seq ?_
        refine awp_region ?_
        refine aR 4 ?_
        refine aE ?_
        refine awp_ret ?_
        exact oF hF [] [0, 1]
      · refine awp_false (by kernel_rfl) h12 ?_
        refine awp_skip ?_
        refine awp_seq ?_
        refine bE hF fun vr5 h13 hF => ?_
        refine awp_region ?_
        refine aR 2 ?_
        refine aC (z496 h13) [] [] [] ?_
        refine aR 4 ?_
        refine aE ?_
        refine awp_ret ?_
        exact oF hF [(0, 13002), (1, 3002)] []

/-! ### slices.Equal[[]beaconfleet/api.Cell,beaconfleet/api.Cell] -/
def z579 : Unit ⊕ Unit → AEx
  | .inl _ => .exit 0
  | .inr _ => .ret

def z578 (qs1 : List api_Cell) : Unit ⊕ Unit → St
  | .inl _ => Mem.st ⟨[], []⟩ (tl []) 0
  | .inr _ => Mem.st ⟨[], []⟩ (tl [(4, .v (.one (.d (.bool false))))]) 0

def z577 (qs1 : List api_Cell) : Int → St
  | vx => Mem.st ⟨[], []⟩ (tl [(0, .v (.one (.d (.lst (List.map api_Cell.enc qs1))))), (1, .v (.one (.d (.lst (List.map api_Cell.enc qs1))))), (12, .v (.one (.d (.int .i64 (qs1.length : Int))))), (13, .v (.one (.d (.int .i64 vx))))]) 0

theorem z580 (qs1 : List api_Cell) (vx : Int) (r : (Int) ⊕ (Unit ⊕ Unit)) (hF : z576 qs1 vx = some r) : Awp prog 0 26 (cL (cL (cR (cL (cR (cR (cB f55))))))) (Out 0 (kk z579) (SS (z577 qs1) (z578 qs1)) r) (z577 qs1 vx) := by
  unfold z576 at hF
  refine awp_seq ?_
  refine awp_region ?_
  refine aR 1 ?_
  refine aE ?_
  refine awp_seq ?_
  refine cE hF (fun h2 hF => ?_) fun h2 hF => ?_
  · refine awp_true (by kernel_rfl) h2 ?_
    refine awp_skip ?_
    refine awp_seq ?_
    refine awp_block ?_
    refine awp_seq ?_
    refine awp_region ?_
    refine aR 2 ?_
    refine aE ?_
    refine awp_seq ?_
    refine bE hF fun vy1 h3 hF => ?_
    refine aD ?_
    refine dR 2 ?_
    refine dX (x_idx api_Cell.enc h3) ?_
    refine dR 3 ?_
    refine dX (x_idx api_Cell.enc h3) ?_
    refine dR 1 ?_
    refine dS (U := []) (stable_eqS (op := .neq) (xs := [.str vy1.Prop_.Name, .int .i64 vy1.Prop_.Value.Kind, .bool vy1.Prop_.Value.Flag, .int .i64 vy1.Prop_.Value.Number, .str vy1.Prop_.Value.Words, .int .i64 vy1.Stamp.At, .str vy1.Stamp.By, .int .i64 vy1.Stamp.No]) (ys := [.str vy1.Prop_.Name, .int .i64 vy1.Prop_.Value.Kind, .bool vy1.Prop_.Value.Flag, .int .i64 vy1.Prop_.Value.Number, .str vy1.Prop_.Value.Words, .int .i64 vy1.Stamp.At, .str vy1.Stamp.By, .int .i64 vy1.Stamp.No]) (b := ((decide (vy1.Prop_.Name = vy1.Prop_.Name) && ((decide (vy1.Prop_.Value.Kind = vy1.Prop_.Value.Kind) && ((vy1.Prop_.Value.Flag == vy1.Prop_.Value.Flag) && (decide (vy1.Prop_.Value.Number = vy1.Prop_.Value.Number) && (decide (vy1.Prop_.Value.Words = vy1.Prop_.Value.Words) && true)))) && true)) && ((decide (vy1.Stamp.At = vy1.Stamp.At) && (decide (vy1.Stamp.By = vy1.Stamp.By) && (decide (vy1.Stamp.No = vy1.Stamp.No) && true))) && true))) (c := (!((decide (vy1.Prop_.Name = vy1.Prop_.Name) && ((decide (vy1.Prop_.Value.Kind = vy1.Prop_.Value.Kind) && ((vy1.Prop_.Value.Flag == vy1.Prop_.Value.Flag) && (decide (vy1.Prop_.Value.Number = vy1.Prop_.Value.Number) && (decide (vy1.Prop_.Value.Words = vy1.Prop_.Value.Words) && true)))) && true)) && ((decide (vy1.Stamp.At = vy1.Stamp.At) && (decide (vy1.Stamp.By = vy1.Stamp.By) && (decide (vy1.Stamp.No = vy1.Stamp.No) && true))) && true)))) rfl (.inr ⟨rfl, rfl⟩) (by kernel_rfl) (by kernel_rfl) (by kernel_rfl) (by kernel_rfl) (by kernel_rfl) (by kernel_rfl)) ?_
    refine dE ?_
    refine cE hF (fun h4 hF => ?_) fun h4 hF => ?_
    · refine awp_true (by kernel_rfl) h4 ?_
      refine awp_seq ?_
      refine awp_region ?_
      refine aR 1 ?_
      refine aE ?_
      refine awp_ret ?_
      exact oO hF [] [] rfl
    · refine awp_false (by kernel_rfl) h4 ?_
      refine awp_skip ?_
      refine awp_region ?_
      refine aR 2 ?_
      refine aE ?_
      exact oO hF [] [] rfl
  · refine awp_false (by kernel_rfl) h2 ?_
    refine awp_exit ?_
    exact oO hF [] [] rfl

def z574 (qs1 : List api_Cell) (r : Bool) : TV × Mem := (.v (.one (.d (.bool r))), ⟨[], []⟩)

theorem z575 {qs1 : List api_Cell} {r} (hF : z573 qs1 = some r) : Holds prog 55 [.v (.one (.d (.lst (List.map api_Cell.enc qs1)))), .v (.one (.d (.lst (List.map api_Cell.enc qs1))))] ⟨[], []⟩ (Is (z574 qs1 r)) := by
  unfold z573 at hF
  refine holds_of_awp hΓ (fn := f55) (c := cB f55) (A := 0) (nx := 0) (by kernel_rfl) (by kernel_rfl) (by kernel_rfl) (by kernel_rfl) (by kernel_rfl) (by kernel_rfl) (lowc_of (by kernel_rfl)) ?_
  show Awp prog 0 26 (cB f55) _ _
  refine awp_seq ?_
  refine awp_region ?_
  refine aR 1 ?_
  refine aE ?_
  refine awp_seq ?_
  refine awp_seq ?_
  refine awp_region ?_
  refine aR 1 ?_
  refine aL api_Cell.enc qs1 ?_
  refine aR 1 ?_
  refine aL api_Cell.enc qs1 ?_
  refine aR 1 ?_
  refine aE ?_
  refine cE hF (fun h1 hF => ?_) fun h1 hF => ?_
  · refine awp_true (by kernel_rfl) h1 ?_
    refine awp_seq ?_
    refine awp_region ?_
    refine aR 1 ?_
    refine aE ?_
    refine awp_ret ?_
    exact oF hF [] []
  · refine awp_false (by kernel_rfl) h1 ?_
    refine awp_skip ?_
    refine awp_seq ?_
    refine awp_seq ?_
    refine awp_region ?_
    refine aR 1 ?_
    refine aL api_Cell.enc qs1 ?_
    refine aR 1 ?_
    refine aE ?_
    refine awp_block ?_
    refine awp_to (st' := z577 qs1 0) (oT [] []) ?_
    refine bE hF fun x h5 hF => ?_
    rcases x with _ | _
    · refine awp_sub (awp_loop' (z577 qs1) z579 (z578 qs1) (by intro x; rcases x with x | x <;> exact fun h => nomatch h) h5 (z580 qs1)) ?_
      refine awp_seq ?_
      refine awp_region ?_
      refine aR 1 ?_
      refine aE ?_
      refine awp_ret ?_
      exact oF hF [] []
    · refine awp_sub (awp_loop' (z577 qs1) z579 (z578 qs1) (by intro x; rcases x with x | x <;> exact fun h => nomatch h) h5 (z580 qs1)) ?_
      exact oF hF [] []

/-! ### slices.Equal[[]beaconfleet/api.Prop,beaconfleet/api.Prop] -/
def z587 : Unit ⊕ Unit → AEx
  | .inl _ => .exit 0
  | .inr _ => .ret

def z586 (qs1 : List api_Prop) : Unit ⊕ Unit → St
  | .inl _ => Mem.st ⟨[], []⟩ (tl []) 0
  | .inr _ => Mem.st ⟨[], []⟩ (tl [(4, .v (.one (.d (.bool false))))]) 0

def z585 (qs1 : List api_Prop) : Int → St
  | vx => Mem.st ⟨[], []⟩ (tl [(0, .v (.one (.d (.lst (List.map api_Prop.enc qs1))))), (1, .v (.one (.d (.lst (List.map api_Prop.enc qs1))))), (12, .v (.one (.d (.int .i64 (qs1.length : Int))))), (13, .v (.one (.d (.int .i64 vx))))]) 0

theorem z588 (qs1 : List api_Prop) (vx : Int) (r : (Int) ⊕ (Unit ⊕ Unit)) (hF : z584 qs1 vx = some r) : Awp prog 0 26 (cL (cL (cR (cL (cR (cR (cB f56))))))) (Out 0 (kk z587) (SS (z585 qs1) (z586 qs1)) r) (z585 qs1 vx) := by
  unfold z584 at hF
  refine awp_seq ?_
  refine awp_region ?_
  refine aR 1 ?_
  refine aE ?_
  refine awp_seq ?_
  refine cE hF (fun h2 hF => ?_) fun h2 hF => ?_
  · refine awp_true (by kernel_rfl) h2 ?_
    refine awp_skip ?_
    refine awp_seq ?_
    refine awp_block ?_
    refine awp_seq ?_
    refine awp_region ?_
    refine aR 2 ?_
    refine aE ?_
    refine awp_seq ?_
    refine bE hF fun vy1 h3 hF => ?_
    refine aD ?_
    refine dR 2 ?_
    refine dX (x_idx api_Prop.enc h3) ?_
    refine dR 3 ?_
    refine dX (x_idx api_Prop.enc h3) ?_
    refine dR 1 ?_
    refine dS (U := []) (stable_eqS (op := .neq) (xs := [.str vy1.Name, .int .i64 vy1.Value.Kind, .bool vy1.Value.Flag, .int .i64 vy1.Value.Number, .str vy1.Value.Words]) (ys := [.str vy1.Name, .int .i64 vy1.Value.Kind, .bool vy1.Value.Flag, .int .i64 vy1.Value.Number, .str vy1.Value.Words]) (b := (decide (vy1.Name = vy1.Name) && ((decide (vy1.Value.Kind = vy1.Value.Kind) && ((vy1.Value.Flag == vy1.Value.Flag) && (decide (vy1.Value.Number = vy1.Value.Number) && (decide (vy1.Value.Words = vy1.Value.Words) && true)))) && true))) (c := (!(decide (vy1.Name = vy1.Name) && ((decide (vy1.Value.Kind = vy1.Value.Kind) && ((vy1.Value.Flag == vy1.Value.Flag) && (decide (vy1.Value.Number = vy1.Value.Number) && (decide (vy1.Value.Words = vy1.Value.Words) && true)))) && true)))) rfl (.inr ⟨rfl, rfl⟩) (by kernel_rfl) (by kernel_rfl) (by kernel_rfl) (by kernel_rfl) (by kernel_rfl) (by kernel_rfl)) ?_
    refine dE ?_
    refine cE hF (fun h4 hF => ?_) fun h4 hF => ?_
    · refine awp_true (by kernel_rfl) h4 ?_
      refine awp_seq ?_
      refine awp_region ?_
      refine aR 1 ?_
      refine aE ?_
      refine awp_ret ?_
      exact oO hF [] [] rfl
    · refine awp_false (by kernel_rfl) h4 ?_
      refine awp_skip ?_
      refine awp_region ?_
      refine aR 2 ?_
      refine aE ?_
      exact oO hF [] [] rfl
  · refine awp_false (by kernel_rfl) h2 ?_
    refine awp_exit ?_
    exact oO hF [] [] rfl

def z582 (qs1 : List api_Prop) (r : Bool) : TV × Mem := (.v (.one (.d (.bool r))), ⟨[], []⟩)

theorem z583 {qs1 : List api_Prop} {r} (hF : z581 qs1 = some r) : Holds prog 56 [.v (.one (.d (.lst (List.map api_Prop.enc qs1)))), .v (.one (.d (.lst (List.map api_Prop.enc qs1))))] ⟨[], []⟩ (Is (z582 qs1 r)) := by
  unfold z581 at hF
  refine holds_of_awp hΓ (fn := f56) (c := cB f56) (A := 0) (nx := 0) (by kernel_rfl) (by kernel_rfl) (by kernel_rfl) (by kernel_rfl) (by kernel_rfl) (by kernel_rfl) (lowc_of (by kernel_rfl)) ?_
  show Awp prog 0 26 (cB f56) _ _
  refine awp_seq ?_
  refine awp_region ?_
  refine aR 1 ?_
  refine aE ?_
  refine awp_seq ?_
  refine awp_seq ?_
  refine awp_region ?_
  refine aR 1 ?_
  refine aL api_Prop.enc qs1 ?_
  refine aR 1 ?_
  refine aL api_Prop.enc qs1 ?_
  refine aR 1 ?_
  refine aE ?_
  refine cE hF (fun h1 hF => ?_) fun h1 hF => ?_
  · refine awp_true (by kernel_rfl) h1 ?_
    refine awp_seq ?_
    refine awp_region ?_
    refine aR 1 ?_
    refine aE ?_
    refine awp_ret ?_
    exact oF hF [] []
  · refine awp_false (by kernel_rfl) h1 ?_
    refine awp_skip ?_
    refine awp_seq ?_
    refine awp_seq ?_
    refine awp_region ?_
    refine aR 1 ?_
    refine aL api_Prop.enc qs1 ?_
    refine aR 1 ?_
    refine aE ?_
    refine awp_block ?_
    refine awp_to (st' := z585 qs1 0) (oT [] []) ?_
    refine bE hF fun x h5 hF => ?_
    rcases x with _ | _
    · refine awp_sub (awp_loop' (z585 qs1) z587 (z586 qs1) (by intro x; rcases x with x | x <;> exact fun h => nomatch h) h5 (z588 qs1)) ?_
      refine awp_seq ?_
      refine awp_region ?_
      refine aR 1 ?_
      refine aE ?_
      refine awp_ret ?_
      exact oF hF [] []
    · refine awp_sub (awp_loop' (z585 qs1) z587 (z586 qs1) (by intro x; rcases x with x | x <;> exact fun h => nomatch h) h5 (z588 qs1)) ?_
      exact oF hF [] []

/-! ### beaconfleet/twin.CheckProps -/
def z1161 : Unit → AEx
  | _ => .exit 0

def z1160 : Unit → St
  | _ => Mem.st ⟨[], [(0, [.nil])]⟩ (tl [(1, .v (.one (.box 0 0)))]) 1

def z1159 : Unit → St
  | _ => Mem.st ⟨[], [(0, [.nil])]⟩ (tl [(1, .v (.one (.box 0 0))), (11, .v (.one (.nil))), (12, .v (.one (.d (.int .i64 0)))), (13, .v (.one (.d (.int .i64 0))))]) 1

theorem z1162 (s : Unit) (r : (Unit) ⊕ (Unit)) (hF : z1158  s = some r) : Awp prog 0 57 (cL (cL (cR (cL (cR (cR (cB f129))))))) (Out 0 (kk z1161) (SS (z1159 ) (z1160 )) r) (z1159  s) := by
  unfold z1158 at hF
  refine awp_seq ?_
  refine awp_region ?_
  refine aR 1 ?_
  refine aE ?_
  refine awp_seq ?_
  refine cE hF (fun h2 hF => ?_) fun h2 hF => ?_
  · refine awp_true (by kernel_rfl) h2 ?_
    refine awp_skip ?_
    refine awp_seq ?_
    refine awp_block ?_
    refine awp_seq ?_
    exact nE hF
  · refine awp_false (by kernel_rfl) h2 ?_
    refine awp_exit ?_
    exact oO hF [] [] rfl

def z1166 : Unit → AEx
  | _ => .exit 2

def z1165 : Unit → St
  | _ => Mem.st ⟨[], []⟩ (tl []) 0

def z1164 : Unit → St
  | _ => Mem.st ⟨[], [(0, [.nil])]⟩ (tl [(1, .v (.one (.box 0 0))), (46, .v (.one (.nil))), (47, .v (.one (.d (.int .i64 0)))), (48, .v (.one (.d (.int .i64 0))))]) 1

theorem z1167 (s : Unit) (r : (Unit) ⊕ (Unit)) (hF : z1163  s = some r) : Awp prog 0 57 (cL (cL (cR (cL (cR (cR (cR (cB f129)))))))) (Out 0 (kk z1166) (SS (z1164 ) (z1165 )) r) (z1164  s) := by
  unfold z1163 at hF
  refine awp_seq ?_
  refine awp_region ?_
  refine aR 1 ?_
  refine aE ?_
  refine awp_seq ?_
  refine cE hF (fun h5 hF => ?_) fun h5 hF => ?_
  · refine awp_true (by kernel_rfl) h5 ?_
    refine awp_skip ?_
    refine awp_seq ?_
    refine awp_block ?_
    refine awp_seq ?_
    exact nE hF
  · refine awp_false (by kernel_rfl) h5 ?_
    refine awp_exit ?_
    exact oO hF [] [] rfl

def z1156 (r : Int) : TV × Mem := (.v (.one (.d (.int .i64 r))), ⟨[], []⟩)

theorem z1157 {r} (hF : z1155 = some r) : Holds prog 129 [.v (.one (.nil))] ⟨[], []⟩ (Is (z1156  r)) := by
  unfold z1155 at hF
  refine holds_of_awp hΓ (fn := f129) (c := cB f129) (A := 0) (nx := 0) (by kernel_rfl) (by kernel_rfl) (by kernel_rfl) (by kernel_rfl) (by kernel_rfl) (by kernel_rfl) (lowc_of (by kernel_rfl)) ?_
  show Awp prog 0 57 (cB f129) _ _
  refine awp_seq ?_
  refine awp_region ?_
  refine aR 2 ?_
  refine aE ?_
  refine awp_seq ?_
  refine awp_seq ?_
  refine awp_region ?_
  refine aR 3 ?_
  refine aE ?_
  refine cE hF (fun h1 hF => ?_) fun h1 hF => ?_
  · refine awp_true (by kernel_rfl) h1 ?_
    refine awp_seq ?_
    refine awp_region ?_
    refine aR 1 ?_
    refine aE ?_
    refine awp_ret ?_
    exact oF hF [] []
  · refine awp_false (by kernel_rfl) h1 ?_
    refine awp_skip ?_
    refine awp_seq ?_
    refine awp_seq ?_
    refine awp_region ?_
    refine aR 3 ?_
    refine aE ?_
    refine awp_block ?_
    refine awp_to (st' := z1159  ()) (oT [] []) ?_
    refine bE hF fun _ h4 hF => ?_
    refine awp_sub (awp_loop' (z1159 ) z1161 (z1160 ) (by intro x; exact fun h => nomatch h) h4 (z1162 )) ?_
    refine awp_seq ?_
    refine awp_seq ?_
    refine awp_region ?_
    refine aR 3 ?_
    refine aE ?_
    refine awp_block ?_
    refine awp_to (st' := z1164  ()) (oT [] []) ?_
    refine bE hF fun _ h7 hF => ?_
    refine awp_sub (awp_loop' (z1164 ) z1166 (z1165 ) (by intro x; exact fun h => nomatch h) h7 (z1167 )) ?_
    refine awp_seq ?_
    refine awp_region ?_
    refine aR 1 ?_
    refine aE ?_
    refine awp_ret ?_
    exact oF hF [] []

/-! ### cmp.isNaN[string] -/
def z165 (qx : List UInt8) (r : Unit) : TV × Mem := (.v (.one (.d (.bool (!decide (qx = qx))))), ⟨[], []⟩)

theorem z166 {qx : List UInt8} {r} (hF : z164 qx = some r) : Holds prog 308 [.v (.one (.d (.str qx)))] ⟨[], []⟩ (Is (z165 qx r)) := by
  unfold z164 at hF
  refine holds_of_awp hΓ (fn := f308) (c := cB f308) (A := 0) (nx := 0) (by kernel_rfl) (by kernel_rfl) (by kernel_rfl) (by kernel_rfl) (by kernel_rfl) (by kernel_rfl) (lowc_of (by kernel_rfl)) ?_
  show Awp prog 0 6 (cB f308) _ _
  refine awp_seq ?_
  refine awp_region ?_
  refine aR 1 ?_
  refine aE ?_
  refine awp_seq ?_
  refine awp_region ?_
  refine aR 4 ?_
  refine aE ?_
  refine awp_ret ?_
  exact oF hF [] []

/-! ### cmp.Less[string] -/
def z151 : Bool → AEx
  | _ => .normal

def z150 (qx : List UInt8) (qy : List UInt8) : Bool → St
  | vx => Mem.st ⟨[], []⟩ (tl [(4, .v (.one (.d (.bool vx))))]) 0

def z149 (qx : List UInt8) (qy : List UInt8) : St := Mem.st ⟨[], []⟩ (tl [(0, .v (.one (.d (.str qx)))), (1, .v (.one (.d (.str qy))))]) 0

theorem z152 (qx : List UInt8) (qy : List UInt8) {r} (hF : z148 qx qy = some r) : Awp prog 0 17 (cL (cR (cB f287))) (Out 0 z151 (z150 qx qy) r) (z149 qx qy) := by
  unfold z148 at hF
  refine bE hF fun _ h1 hF => ?_
  refine cE hF (fun h2 hF => ?_) fun h2 hF => ?_
  · refine bE hF fun _ h3 hF => ?_
    refine cE hF (fun h4 hF => ?_) fun h4 hF => ?_
    · refine awp_region ?_
      refine aR 1 ?_
      refine aCb (z166 h1) [] [] [] h2 ?_
      refine aR 2 ?_
      refine aC (z166 h3) [] [] [] ?_
      refine aB h4 ?_
      refine aR 7 ?_
      refine aE ?_
      exact oO hF [] [] rfl
    · refine awp_region ?_
      refine aR 1 ?_
      refine aCb (z166 h1) [] [] [] h2 ?_
      refine aR 2 ?_
      refine aC (z166 h3) [] [] [] ?_
      refine aB h4 ?_
      refine aR 7 ?_
      refine aE ?_
      exact oO hF [] [] rfl
  · refine awp_region ?_
    refine aR 1 ?_
    refine aCb (z166 h1) [] [] [] h2 ?_
    refine aR 11 ?_
    refine aE ?_
    exact oO hF [] [] rfl

def z146 (qx : List UInt8) (qy : List UInt8) (r : Bool) : TV × Mem := (.v (.one (.d (.bool r))), ⟨[], []⟩)

theorem z147 {qx : List UInt8} {qy : List UInt8} {r} (hF : z145 qx qy = some r) : Holds prog 287 [.v (.one (.d (.str qx))), .v (.one (.d (.str qy)))] ⟨[], []⟩ (Is (z146 qx qy r)) := by
  unfold z145 at hF
  refine holds_of_awp hΓ (fn := f287) (c := cB f287) (A := 0) (nx := 0) (by kernel_rfl) (by kernel_rfl) (by kernel_rfl) (by kernel_rfl) (by kernel_rfl) (by kernel_rfl) (lowc_of (by kernel_rfl)) ?_
  show Awp prog 0 17 (cB f287) _ _
  refine awp_seq ?_
  refine awp_region ?_
  refine aR 1 ?_
  refine aE ?_
  refine awp_seq ?_
  refine awp_to (st' := z149 qx qy) (oT [] []) ?_
  refine bE hF fun vx1 h5 hF => ?_
  refine awp_sub (z152 qx qy h5) ?_
  refine awp_ret ?_
  exact oF hF [] []

/-! ### slices.insertionSortOrdered[string] -/
def z764 : Bool → AEx
  | _ => .normal

def z763 (qa : Int) (qb : Int) (vi : Int) (vl3 : List (List UInt8)) (vj1 : Int) : Bool → St
  | vx4 => Mem.st ⟨[(0, ⟨9, 1, List.map encS vl3⟩)], []⟩ (tl [(0, .v (.one (.own 0 none))), (1, .v (.one (.d (.int .i64 qa)))), (2, .v (.one (.d (.int .i64 qb)))), (6, .v (.one (.d (.int .i64 vi)))), (7, .v (.one (.d (.int .i64 vj1)))), (30, .v (.one (.d (.bool vx4))))]) 1

def z762 (qa : Int) (qb : Int) (vi : Int) (vl3 : List (List UInt8)) (vj1 : Int) : St := Mem.st ⟨[(0, ⟨9, 1, List.map encS vl3⟩)], []⟩ (tl [(0, .v (.one (.own 0 none))), (1, .v (.one (.d (.int .i64 qa)))), (2, .v (.one (.d (.int .i64 qb)))), (6, .v (.one (.d (.int .i64 vi)))), (7, .v (.one (.d (.int .i64 vj1))))]) 1

theorem z765 (qa : Int) (qb : Int) (vi : Int) (vl3 : List (List UInt8)) (vj1 : Int) {r} (hF : z761 qa vl3 vj1 = some r) : Awp prog 1 49 (cL (cL (cL (cL (cR (cL (cL (cR (cL (cL (cR (cB f281)))))))))))) (Out 1 z764 (z763 qa qb vi vl3 vj1) r) (z762 qa qb vi vl3 vj1) := by
  unfold z761 at hF
  refine cE hF (fun h2 hF => ?_) fun h2 hF => ?_
  · refine bE hF fun vy15 h3 hF => ?_
    refine bE hF fun vy16 h4 hF => ?_
    refine bE hF fun vr3 h5 hF => ?_
    refine aD ?_
    refine dR 2 ?_
    refine dB h2 ?_
    refine dR 3 ?_
    refine dX (x_idxO encS 0 h3) ?_
    refine dX (x_ldE encS h3) ?_
    refine dR 3 ?_
    refine dX (x_idxO encS 0 h4) ?_
    refine dX (x_ldE encS h4) ?_
    refine dC (z147 h5) [] [] [] ?_
    refine dR 1 ?_
    refine dE ?_
    exact oO hF [] [] rfl
  · refine aD ?_
    refine dR 2 ?_
    refine dB h2 ?_
    refine dR 12 ?_
    refine dE ?_
    exact oO hF [] [] rfl

def z759 : (List (List UInt8)) → AEx
  | _ => .exit 2

def z758 (qa : Int) (qb : Int) (vi : Int) : (List (List UInt8)) → St
  | vl4 => Mem.st ⟨[(0, ⟨9, 1, List.map encS vl4⟩)], []⟩ (tl [(0, .v (.one (.own 0 none))), (1, .v (.one (.d (.int .i64 qa)))), (2, .v (.one (.d (.int .i64 qb)))), (6, .v (.one (.d (.int .i64 vi))))]) 1

def z757 (qa : Int) (qb : Int) (vi : Int) : (List (List UInt8)) × Int → St
  | (vl3, vj1) => Mem.st ⟨[(0, ⟨9, 1, List.map encS vl3⟩)], []⟩ (tl [(0, .v (.one (.own 0 none))), (1, .v (.one (.d (.int .i64 qa)))), (2, .v (.one (.d (.int .i64 qb)))), (6, .v (.one (.d (.int .i64 vi)))), (7, .v (.one (.d (.int .i64 vj1))))]) 1

theorem z760 (qa : Int) (qb : Int) (vi : Int) (s : (List (List UInt8)) × Int) (r : ((List (List UInt8)) × Int) ⊕ ((List (List UInt8)))) (hF : z756 qa s = some r) : Awp prog 1 49 (cL (cL (cR (cL (cL (cR (cL (cL (cR (cB f281)))))))))) (Out 1 (kk z759) (SS (z757 qa qb vi) (z758 qa qb vi)) r) (z757 qa qb vi s) := by
  obtain ⟨vl3, vj1⟩ := s
  unfold z756 at hF
  refine awp_seq ?_
  refine awp_seq ?_
  refine awp_to (st' := z762 qa qb vi vl3 vj1) (oT [] []) ?_
  refine bE hF fun vx4_1 h6 hF => ?_
  refine awp_sub (z765 qa qb vi vl3 vj1 h6) ?_
  refine cE hF (fun h7 hF => ?_) fun h7 hF => ?_
  · refine awp_true (by kernel_rfl) h7 ?_
    refine awp_skip ?_
    refine awp_seq ?_
    refine awp_block ?_
    refine bE hF fun vy17 h8 hF => ?_
    refine bE hF fun vy18 h9 hF => ?_
    refine bE hF fun vy19 h10 hF => ?_
    refine aDw [0] ?_
    refine dR 8 ?_
    refine dI encS 0 h8 rfl ?_
    refine dX (x_ldE encS h8) ?_
    refine dR 2 ?_
    refine dI encS 0 h9 rfl ?_
    refine dX (x_ldE encS h9) ?_
    refine dI encS 0 h9 rfl ?_
    refine dW encS vy17 h9 rfl ?_
    refine dI encS 0 h10 rfl ?_
    refine dW encS vy18 h10 rfl ?_
    refine dE ?_
    refine awp_region ?_
    refine aR 3 ?_
    refine aE ?_
    exact oO hF [] [] rfl
  · refine awp_false (by kernel_rfl) h7 ?_
    refine awp_exit ?_
    exact oO hF [] [] rfl

def z754 : (List (List UInt8)) → AEx
  | _ => .exit 0

def z753 (qa : Int) (qb : Int) : (List (List UInt8)) → St
  | vl5 => Mem.st ⟨[(0, ⟨9, 1, List.map encS vl5⟩)], []⟩ (tl []) 1

def z752 (qa : Int) (qb : Int) : (List (List UInt8)) × Int → St
  | (vl, vi) => Mem.st ⟨[(0, ⟨9, 1, List.map encS vl⟩)], []⟩ (tl [(0, .v (.one (.own 0 none))), (1, .v (.one (.d (.int .i64 qa)))), (2, .v (.one (.d (.int .i64 qb)))), (6, .v (.one (.d (.int .i64 vi))))]) 1

theorem z755 (qa : Int) (qb : Int) (s : (List (List UInt8)) × Int) (r : ((List (List UInt8)) × Int) ⊕ ((List (List UInt8)))) (hF : z751 qa qb s = some r) : Awp prog 1 49 (cL (cL (cR (cB f281)))) (Out 1 (kk z754) (SS (z752 qa qb) (z753 qa qb)) r) (z752 qa qb s) := by
  obtain ⟨vl, vi⟩ := s
  unfold z751 at hF
  refine awp_seq ?_
  refine awp_seq ?_
  refine awp_region ?_
  refine aR 3 ?_
  refine aE ?_
  refine cE hF (fun h1 hF => ?_) fun h1 hF => ?_
  · refine awp_true (by kernel_rfl) h1 ?_
    refine awp_skip ?_
    refine awp_seq ?_
    refine awp_block ?_
    refine awp_seq ?_
    refine awp_region ?_
    refine aR 2 ?_
    refine aE ?_
    refine awp_block ?_
    refine awp_to (st' := z757 qa qb vi (vl, vi)) (oT [] []) ?_
    refine bE hF fun vl4_1 h11 hF => ?_
    refine awp_sub (awp_loop' (z757 qa qb vi) z759 (z758 qa qb vi) (by intro x; exact fun h => nomatch h) h11 (z760 qa qb vi)) ?_
    refine awp_region ?_
    refine aR 3 ?_
    refine aE ?_
    exact oO hF [] [] rfl
  · refine awp_false (by kernel_rfl) h1 ?_
    refine awp_exit ?_
    exact oO hF [] [] rfl

def z749 (qdata : List (List UInt8)) (qa : Int) (qb : Int) (r : (List (List UInt8))) : TV × Mem := (.tup [], ⟨[(0, ⟨9, 1, List.map encS r⟩)], []⟩)

theorem z750 {qdata : List (List UInt8)} {qa : Int} {qb : Int} {r} (hF : z748 qdata qa qb = some r) : Holds prog 281 [.v (.one (.own 0 none)), .v (.one (.d (.int .i64 qa))), .v (.one (.d (.int .i64 qb)))] ⟨[(0, ⟨9, 1, List.map encS qdata⟩)], []⟩ (Is (z749 qdata qa qb r)) := by
  unfold z748 at hF
  refine holds_of_awp hΓ (fn := f281) (c := cB f281) (A := 1) (nx := 1) (by kernel_rfl) (by kernel_rfl) (by kernel_rfl) (by kernel_rfl) (by kernel_rfl) (by kernel_rfl) (lowc_of (by kernel_rfl)) ?_
  show Awp prog 1 49 (cB f281) _ _
  refine awp_seq ?_
  refine awp_region ?_
  refine aR 3 ?_
  refine aE ?_
  refine awp_block ?_
  refine awp_to (st' := z752 qa qb (qdata, IntKind.wrap .i64 (qa + 1))) (oT [] []) ?_
  refine bE hF fun vl5_1 h12 hF => ?_
  refine awp_sub (awp_loop' (z752 qa qb) z754 (z753 qa qb) (by intro x; exact fun h => nomatch h) h12 (z755 qa qb)) ?_
  exact oF hF [] []

/-! ### slices.pdqsortOrdered[string] -/
def z796 : (List (List UInt8)) → AEx
  | _ => .ret

def z795 (qx : List (List UInt8)) (qx1 : Int) (qx2 : Int) (qx3 : Int) : (List (List UInt8)) → St
  | vl => Mem.st ⟨[(0, ⟨9, 1, List.map encS vl⟩)], []⟩ (tl []) 1

def z794 (qx : List (List UInt8)) (qx1 : Int) (qx2 : Int) (qx3 : Int) : Unit → St
  | _ => Mem.st ⟨[(0, ⟨9, 1, List.map encS qx⟩)], []⟩ (tl [(0, .v (.one (.own 0 none))), (1, .v (.one (.d (.int .i64 qx1)))), (2, .v (.one (.d (.int .i64 qx2)))), (3, .v (.one (.d (.int .i64 qx3)))), (8, .v (.one (.d (.bool true)))), (9, .v (.one (.d (.bool true))))]) 1

theorem z797 (qx : List (List UInt8)) (qx1 : Int) (qx2 : Int) (qx3 : Int) (s : Unit) (r : (Unit) ⊕ ((List (List UInt8)))) (hF : z793 qx qx1 qx2 qx3 s = some r) : Awp prog 1 134 (cL (cL (cR (cR (cB f250))))) (Out 1 (kk z796) (SS (z794 qx qx1 qx2 qx3) (z795 qx qx1 qx2 qx3)) r) (z794 qx qx1 qx2 qx3 s) := by
  unfold z793 at hF
  refine awp_block ?_
  refine awp_seq ?_
  refine awp_region ?_
  refine aR 4 ?_
  refine aE ?_
  refine awp_seq ?_
  refine awp_seq ?_
  refine awp_region ?_
  refine aR 2 ?_
  refine aE ?_
  refine cE hF (fun h1 hF => ?_) fun h1 hF => ?_
  · refine awp_true (by kernel_rfl) h1 ?_
    refine awp_seq ?_
    refine bE hF fun vl6_1 h2 hF => ?_
    refine gE hF fun h3 hF => ?_
    refine awp_region ?_
    refine aR 3 ?_
    refine aCp (z750 h2) ⟨⟨rfl, rfl, pin1 h3⟩, trivial⟩ [] [] [] ?_
    refine aE ?_
    refine awp_ret ?_
    exact oO hF [] [] rfl
  · refine awp_false (by kernel_rfl) h1 ?_
    refine awp_skip ?_
    refine awp_seq ?_
    refine awp_seq ?_
    refine awp_region ?_
    refine aR 2 ?_
    refine aE ?_
    refine cE hF (fun h4 hF => ?_) fun h4 hF => ?_
    · refine awp_true (by kernel_rfl) h4 ?_
      refine awp_seq ?_
      exact nE hF
    · refine awp_false (by kernel_rfl) h4 ?_
      refine awp_skip ?_
      refine awp_seq ?_
      refine awp_seq ?_
      refine awp_region ?_
      refine aR 2 ?_
      refine aE ?_
      refine awp_false (by kernel_rfl) rfl ?_
      refine awp_skip ?_
      refine awp_seq ?_
      exact nE hF

def z791 (qx : List (List UInt8)) (qx1 : Int) (qx2 : Int) (qx3 : Int) (r : (List (List UInt8))) : TV × Mem := (.tup [], ⟨[(0, ⟨9, 1, List.map encS r⟩)], []⟩)

theorem z792 {qx : List (List UInt8)} {qx1 : Int} {qx2 : Int} {qx3 : Int} {r} (hF : z790 qx qx1 qx2 qx3 = some r) : Holds prog 250 [.v (.one (.own 0 none)), .v (.one (.d (.int .i64 qx1))), .v (.one (.d (.int .i64 qx2))), .v (.one (.d (.int .i64 qx3)))] ⟨[(0, ⟨9, 1, List.map encS qx⟩)], []⟩ (Is (z791 qx qx1 qx2 qx3 r)) := by
  unfold z790 at hF
  refine holds_of_awp hΓ (fn := f250) (c := cB f250) (A := 1) (nx := 1) (by kernel_rfl) (by kernel_rfl) (by kernel_rfl) (by kernel_rfl) (by kernel_rfl) (by kernel_rfl) (lowc_of (by kernel_rfl)) ?_
  show Awp prog 1 134 (cB f250) _ _
  refine awp_seq ?_
  refine awp_region ?_
  refine aR 1 ?_
  refine aE ?_
  refine awp_seq ?_
  refine awp_region ?_
  refine aR 1 ?_
  refine aE ?_
  refine awp_block ?_
  refine awp_to (st' := z794 qx qx1 qx2 qx3 ()) (oT [] []) ?_
  refine bE hF fun vl1 h7 hF => ?_
  refine awp_sub (awp_loop' (z794 qx qx1 qx2 qx3) z796 (z795 qx qx1 qx2 qx3) (by intro x; exact fun h => nomatch h) h7 (z797 qx qx1 qx2 qx3)) ?_
  exact oF hF [] []

/-! ### slices.Sort[[]string,string] -/
def z674 (qx : List (List UInt8)) (r : (List (List UInt8))) : TV × Mem := (.tup [], ⟨[(0, ⟨9, 1, List.map encS r⟩)], []⟩)

theorem z675 {qx : List (List UInt8)} {r} (hF : z673 qx = some r) : Holds prog 184 [.v (.one (.own 0 none))] ⟨[(0, ⟨9, 1, List.map encS qx⟩)], []⟩ (Is (z674 qx r)) := by
  unfold z673 at hF
  refine holds_of_awp hΓ (fn := f184) (c := cB f184) (A := 1) (nx := 1) (by kernel_rfl) (by kernel_rfl) (by kernel_rfl) (by kernel_rfl) (by kernel_rfl) (by kernel_rfl) (lowc_of (by kernel_rfl)) ?_
  show Awp prog 1 11 (cB f184) _ _
  refine awp_seq ?_
  refine awp_region ?_
  refine aR 1 ?_
  refine aL encS qx ?_
  refine aR 1 ?_
  refine aE ?_
  refine bE hF fun vr1 h1 hF => ?_
  refine bE hF fun vl2 h2 hF => ?_
  refine gE hF fun h3 hF => ?_
  refine awp_region ?_
  refine aR 4 ?_
  refine aC (z128 h1) [] [] [] ?_
  refine aCp (z792 h2) ⟨⟨rfl, rfl, pin1 h3⟩, trivial⟩ [] [] [] ?_
  refine aE ?_
  exact oF hF [] []

/-! ### slices.Compact[[]string,string] -/
def z537 : ((List (List UInt8)) × Int) → AEx
  | _ => .normal

def z536 (qs : List (List UInt8)) (vk : Int) (vl4 : List (List UInt8)) (vk6 : Int) (vk2_1 : Int) : ((List (List UInt8)) × Int) → St
  | (vl6, vk8) => Mem.st ⟨[(0, ⟨9, 1, List.map encS vl6⟩)], []⟩ (tl [(0, .v (.one (.own 0 none))), (3, .v (.one (.d (.int .i64 vk8)))), (4, .v (.one (.view 0 vk.toNat ((qs.length : Int).toNat - vk.toNat)))), (5, .v (.one (.d (.int .i64 vk2_1))))]) 1

def z535 (qs : List (List UInt8)) (vk : Int) (vl4 : List (List UInt8)) (vk6 : Int) (vk2_1 : Int) : St := Mem.st ⟨[(0, ⟨9, 1, List.map encS vl4⟩)], []⟩ (tl [(0, .v (.one (.own 0 none))), (3, .v (.one (.d (.int .i64 vk6)))), (4, .v (.one (.view 0 vk.toNat ((qs.length : Int).toNat - vk.toNat)))), (5, .v (.one (.d (.int .i64 vk2_1))))]) 1

theorem z538 (qs : List (List UInt8)) (vk : Int) (vl4 : List (List UInt8)) (vk6 : Int) (vk2_1 : Int) {r} (hF : z534 qs vk vl4 vk6 vk2_1 = some r) : Awp prog 1 61 (cL (cR (cL (cL (cR (cL (cR (cL (cR (cL (cL (cR (cL (cL (cR (cL (cR (cR (cB f185))))))))))))))))))) (Out 1 z537 (z536 qs vk vl4 vk6 vk2_1) r) (z535 qs vk vl4 vk6 vk2_1) := by
  unfold z534 at hF
  refine awp_block ?_
  refine awp_seq ?_
  refine gE hF fun h8 hF => ?_
  refine bE hF fun vy13 h9 hF => ?_
  refine gE hF fun h10 hF => ?_
  refine bE hF fun vy14 h11 hF => ?_
  refine aD ?_
  refine dR 2 ?_
  refine dX (x_idxV encS 0 h8 h9) ?_
  refine dX (x_ldE encS h9) ?_
  refine dR 3 ?_
  refine dX (x_idxV encS 0 h10 h11) ?_
  refine dX (x_ldE encS h11) ?_
  refine dR 1 ?_
  refine dE ?_
  refine cE hF (fun h12 hF => ?_) fun h12 hF => ?_
  · refine awp_true (by kernel_rfl) h12 ?_
    refine awp_seq ?_
    refine bE hF fun vy15 h13 hF => ?_
    refine awp_region ?_
    refine aR 4 ?_
    refine aX (x_idxV encS 0 h8 h9) ?_
    refine aX (x_ldE encS h9) ?_
    refine aX (x_idxO encS 0 h13) ?_
    refine aX (x_stE encS vy13 h13) ?_
    refine aE ?_
    refine awp_region ?_
    refine aR 3 ?_
    refine aE ?_
    exact oO hF [] [] rfl
  · refine awp_false (by kernel_rfl) h12 ?_
    refine awp_skip ?_
    exact oO hF [] [] rfl

def z532 : ((List (List UInt8)) × Int) → AEx
  | _ => .exit 2

def z531 (qs : List (List UInt8)) (vk : Int) : ((List (List UInt8)) × Int) → St
  | (vl7, vk9) => Mem.st ⟨[(0, ⟨9, 1, List.map encS vl7⟩)], []⟩ (tl [(0, .v (.one (.own 0 none))), (3, .v (.one (.d (.int .i64 vk9))))]) 1

def z530 (qs : List (List UInt8)) (vk : Int) : (List (List UInt8)) × Int × Int → St
  | (vl4, vk6, vk2_1) => Mem.st ⟨[(0, ⟨9, 1, List.map encS vl4⟩)], []⟩ (tl [(0, .v (.one (.own 0 none))), (3, .v (.one (.d (.int .i64 vk6)))), (4, .v (.one (.view 0 vk.toNat ((qs.length : Int).toNat - vk.toNat)))), (5, .v (.one (.d (.int .i64 vk2_1))))]) 1

theorem z533 (qs : List (List UInt8)) (vk : Int) (s : (List (List UInt8)) × Int × Int) (r : ((List (List UInt8)) × Int × Int) ⊕ (((List (List UInt8)) × Int))) (hF : z529 qs vk s = some r) : Awp prog 1 61 (cL (cL (cR (cL (cR (cL (cR (cL (cL (cR (cL (cL (cR (cL (cR (cR (cB f185))))))))))))))))) (Out 1 (kk z532) (SS (z530 qs vk) (z531 qs vk)) r) (z530 qs vk s) := by
  obtain ⟨vl4, vk6, vk2_1⟩ := s
  unfold z529 at hF
  refine awp_seq ?_
  refine awp_seq ?_
  refine awp_region ?_
  refine aR 4 ?_
  refine aE ?_
  refine cE hF (fun h7 hF => ?_) fun h7 hF => ?_
  · refine awp_true (by kernel_rfl) h7 ?_
    refine awp_skip ?_
    refine awp_seq ?_
    refine awp_to (st' := z535 qs vk vl4 vk6 vk2_1) (oT [] []) ?_
    refine bE hF fun x h14 hF => ?_
    obtain ⟨vl6_1, vk8_1⟩ := x
    refine awp_sub (z538 qs vk vl4 vk6 vk2_1 h14) ?_
    refine awp_region ?_
    refine aR 3 ?_
    refine aE ?_
    exact oO hF [] [] rfl
  · refine awp_false (by kernel_rfl) h7 ?_
    refine awp_exit ?_
    exact oO hF [] [] rfl

def z527 : Unit ⊕ (List (List UInt8)) → AEx
  | .inl _ => .exit 0
  | .inr _ => .ret

def z526 (qs : List (List UInt8)) : Unit ⊕ (List (List UInt8)) → St
  | .inl _ => Mem.st ⟨[(0, ⟨9, 1, List.map encS qs⟩)], []⟩ (tl [(0, .v (.one (.own 0 none)))]) 1
  | .inr vx => Mem.st ⟨[(1, ⟨9, 1, List.map encS vx⟩)], []⟩ (tl [(2, .v (.one (.own 1 none)))]) 2

def z525 (qs : List (List UInt8)) : Int → St
  | vk => Mem.st ⟨[(0, ⟨9, 1, List.map encS qs⟩)], []⟩ (tl [(0, .v (.one (.own 0 none))), (3, .v (.one (.d (.int .i64 vk))))]) 1

theorem z528 (qs : List (List UInt8)) (vk : Int) (r : (Int) ⊕ (Unit ⊕ (List (List UInt8)))) (hF : z524 qs vk = some r) : Awp prog 1 61 (cL (cL (cR (cL (cR (cR (cB f185))))))) (Out 1 (kk z527) (SS (z525 qs) (z526 qs)) r) (z525 qs vk) := by
  unfold z524 at hF
  refine awp_seq ?_
  refine awp_seq ?_
  refine awp_region ?_
  refine aR 2 ?_
  refine aL encS qs ?_
  refine aR 1 ?_
  refine aE ?_
  refine cE hF (fun h2 hF => ?_) fun h2 hF => ?_
  · refine awp_true (by kernel_rfl) h2 ?_
    refine awp_skip ?_
    refine awp_seq ?_
    refine awp_block ?_
    refine awp_seq ?_
    refine bE hF fun vy8 h3 hF => ?_
    refine bE hF fun vy9 h4 hF => ?_
    refine aD ?_
    refine dR 2 ?_
    refine dX (x_idxO encS 0 h3) ?_
    refine dX (x_ldE encS h3) ?_
    refine dR 3 ?_
    refine dX (x_idxO encS 0 h4) ?_
    refine dX (x_ldE encS h4) ?_
    refine dR 1 ?_
    refine dE ?_
    refine cE hF (fun h5 hF => ?_) fun h5 hF => ?_
    · refine awp_true (by kernel_rfl) h5 ?_
      refine awp_seq ?_
      refine gE hF fun h6 hF => ?_
      refine awp_region ?_
      refine aR 2 ?_
      refine aX (x_viewN encS 0 h6) ?_
      refine aR 1 ?_
      refine aE ?_
      refine awp_seq ?_
      refine awp_seq ?_
      refine awp_region ?_
      refine aR 1 ?_
      refine aE ?_
      refine awp_block ?_
      refine awp_to (st' := z530 qs vk (qs, vk, 1)) (oT [] []) ?_
      refine bE hF fun x h15 hF => ?_
      obtain ⟨vl7_1, vk9_1⟩ := x
      refine awp_sub (awp_loop' (z530 qs vk) z532 (z531 qs vk) (by intro x; exact fun h => nomatch h) h15 (z533 qs vk)) ?_
      refine awp_seq ?_
      refine gE hF fun h16 hF => ?_
      refine awp_region ?_
      refine aR 2 ?_
      refine aX (x_viewN encS 0 h16) ?_
      refine aCl encS 0 (xs := vl7_1) (y := ([] : List UInt8)) (lo := vk9_1) (hi := (vl7_1.length : Int)) rfl ?_
      refine aE ?_
      refine awp_seq ?_
      refine gE hF fun h17 hF => ?_
      refine awp_region ?_
      refine aR 2 ?_
      refine aT encS 0 h17 rfl ?_
      refine aR 1 ?_
      refine aE ?_
      refine awp_ret ?_
      exact oO hF [(1, 6001)] [] rfl
    · refine awp_false (by kernel_rfl) h5 ?_
      refine awp_skip ?_
      refine awp_region ?_
      refine aR 3 ?_
      refine aE ?_
      exact oO hF [] [] rfl
  · refine awp_false (by kernel_rfl) h2 ?_
    refine awp_exit ?_
    exact oO hF [] [] rfl

def z522 (qs : List (List UInt8)) (r : (List (List UInt8))) : TV × Mem := (.v (.one (.own 1 none)), ⟨[(1, ⟨9, 1, List.map encS r⟩)], []⟩)

theorem z523 {qs : List (List UInt8)} {r} (hF : z521 qs = some r) : Holds prog 185 [.v (.one (.own 0 none))] ⟨[(0, ⟨9, 1, List.map encS qs⟩)], []⟩ (Is (z522 qs r)) := by
  unfold z521 at hF
  refine holds_of_awp hΓ (fn := f185) (c := cB f185) (A := 1) (nx := 1) (by kernel_rfl) (by kernel_rfl) (by kernel_rfl) (by kernel_rfl) (by kernel_rfl) (by kernel_rfl) (lowc_of (by kernel_rfl)) ?_
  show Awp prog 1 61 (cB f185) _ _
  refine awp_seq ?_
  refine awp_region ?_
  refine aR 1 ?_
  refine aE ?_
  refine awp_seq ?_
  refine awp_seq ?_
  refine awp_region ?_
  refine aR 1 ?_
  refine aL encS qs ?_
  refine aR 1 ?_
  refine aE ?_
  refine cE hF (fun h1 hF => ?_) fun h1 hF => ?_
  · refine awp_true (by kernel_rfl) h1 ?_
    refine awp_seq ?_
    refine awp_region ?_
    refine aR 2 ?_
    refine aE ?_
    refine awp_ret ?_
    exact oF hF [(1, 0)] []
  · refine awp_false (by kernel_rfl) h1 ?_
    refine awp_skip ?_
    refine awp_seq ?_
    refine awp_seq ?_
    refine awp_region ?_
    refine aR 1 ?_
    refine aE ?_
    refine awp_block ?_
    refine awp_to (st' := z525 qs 1) (oT [] []) ?_
    refine bE hF fun x h18 hF => ?_
    rcases x with _ | vx1
    · refine awp_sub (awp_loop' (z525 qs) z527 (z526 qs) (by intro x; rcases x with x | x <;> exact fun h => nomatch h) h18 (z528 qs)) ?_
      refine awp_seq ?_
      refine awp_region ?_
      refine aR 2 ?_
      refine aE ?_
      refine awp_ret ?_
      exact oF hF [(1, 0)] []
    · refine awp_sub (awp_loop' (z525 qs) z527 (z526 qs) (by intro x; rcases x with x | x <;> exact fun h => nomatch h) h18 (z528 qs)) ?_
      exact oF hF [] []

/-! ### beaconfleet/twin.names -/
def z1389 : (List (List UInt8)) → AEx
  | _ => .exit 2

def z1388 (qlists : List (List api_Prop)) (vx : Int) (vy3 : List api_Prop) : (List (List UInt8)) → St
  | vout4 => Mem.st ⟨[(1, ⟨9, 1, List.map encS vout4⟩)], []⟩ (tl [(3, .v (.one (.own 1 none))), (8, .v (.one (.d (.lst (List.map (encL api_Prop.enc) qlists))))), (9, .v (.one (.d (.int .i64 (qlists.length : Int))))), (10, .v (.one (.d (.int .i64 vx))))]) 2

def z1387 (qlists : List (List api_Prop)) (vx : Int) (vy3 : List api_Prop) : (List (List UInt8)) × Int → St
  | (vout3, vx2) => Mem.st ⟨[(1, ⟨9, 1, List.map encS vout3⟩)], []⟩ (tl [(3, .v (.one (.own 1 none))), (8, .v (.one (.d (.lst (List.map (encL api_Prop.enc) qlists))))), (9, .v (.one (.d (.int .i64 (qlists.length : Int))))), (10, .v (.one (.d (.int .i64 vx)))), (14, .v (.one (.d (.lst (List.map api_Prop.enc vy3))))), (15, .v (.one (.d (.int .i64 (vy3.length : Int))))), (16, .v (.one (.d (.int .i64 vx2))))]) 2

theorem z1390 (qlists : List (List api_Prop)) (vx : Int) (vy3 : List api_Prop) (s : (List (List UInt8)) × Int) (r : ((List (List UInt8)) × Int) ⊕ ((List (List UInt8)))) (hF : z1386 vy3 s = some r) : Awp prog 1 31 (cL (cL (cR (cR (cL (cL (cR (cR (cL (cL (cR (cL (cR (cR (cB f141))))))))))))))) (Out 1 (kk z1389) (SS (z1387 qlists vx vy3) (z1388 qlists vx vy3)) r) (z1387 qlists vx vy3 s) := by
  obtain ⟨vout3, vx2⟩ := s
  unfold z1386 at hF
  refine awp_seq ?_
  refine awp_region ?_
  refine aR 1 ?_
  refine aE ?_
  refine awp_seq ?_
  refine cE hF (fun h3 hF => ?_) fun h3 hF => ?_
  · refine awp_true (by kernel_rfl) h3 ?_
    refine awp_skip ?_
    refine awp_seq ?_
    refine awp_block ?_
    refine awp_seq ?_
    refine bE hF fun vy5 h4 hF => ?_
    refine awp_region ?_
    refine aX (x_idx api_Prop.enc h4) ?_
    refine aR 3 ?_
    refine aE ?_
    refine gE hF fun h5 hF => ?_
    refine awp_region ?_
    refine aR 4 ?_
    refine aX (x_app encS 1 h5) ?_
    refine aR 1 ?_
    refine aE ?_
    refine awp_region ?_
    refine aR 2 ?_
    refine aE ?_
    exact oO hF [(1, 9002)] [] rfl
  · refine awp_false (by kernel_rfl) h3 ?_
    refine awp_exit ?_
    exact oO hF [] [] rfl

def z1384 : (List (List UInt8)) → AEx
  | _ => .exit 0

def z1383 (qlists : List (List api_Prop)) : (List (List UInt8)) → St
  | vout5 => Mem.st ⟨[(1, ⟨9, 1, List.map encS vout5⟩)], []⟩ (tl [(3, .v (.one (.own 1 none)))]) 2

def z1382 (qlists : List (List api_Prop)) : (List (List UInt8)) × Int → St
  | (vout, vx) => Mem.st ⟨[(1, ⟨9, 1, List.map encS vout⟩)], []⟩ (tl [(3, .v (.one (.own 1 none))), (8, .v (.one (.d (.lst (List.map (encL api_Prop.enc) qlists))))), (9, .v (.one (.d (.int .i64 (qlists.length : Int))))), (10, .v (.one (.d (.int .i64 vx))))]) 2

theorem z1385 (qlists : List (List api_Prop)) (s : (List (List UInt8)) × Int) (r : ((List (List UInt8)) × Int) ⊕ ((List (List UInt8)))) (hF : z1381 qlists s = some r) : Awp prog 1 31 (cL (cL (cR (cL (cR (cR (cB f141))))))) (Out 1 (kk z1384) (SS (z1382 qlists) (z1383 qlists)) r) (z1382 qlists s) := by
  obtain ⟨vout, vx⟩ := s
  unfold z1381 at hF
  refine awp_seq ?_
  refine awp_region ?_
  refine aR 1 ?_
  refine aE ?_
  refine awp_seq ?_
  refine cE hF (fun h1 hF => ?_) fun h1 hF => ?_
  · refine awp_true (by kernel_rfl) h1 ?_
    refine awp_skip ?_
    refine awp_seq ?_
    refine awp_block ?_
    refine awp_seq ?_
    refine bE hF fun vy3 h2 hF => ?_
    refine awp_region ?_
    refine aX (x_idx (encL api_Prop.enc) h2) ?_
    refine aR 2 ?_
    refine aE ?_
    refine awp_seq ?_
    refine awp_region ?_
    refine aR 1 ?_
    refine aL api_Prop.enc vy3 ?_
    refine aR 1 ?_
    refine aE ?_
    refine awp_block ?_
    refine awp_to (st' := z1387 qlists vx vy3 (vout, 0)) (oT [] []) ?_
    refine bE hF fun vout4_1 h6 hF => ?_
    refine awp_sub (awp_loop' (z1387 qlists vx vy3) z1389 (z1388 qlists vx vy3) (by intro x; exact fun h => nomatch h) h6 (z1390 qlists vx vy3)) ?_
    refine awp_region ?_
    refine aR 2 ?_
    refine aE ?_
    exact oO hF [] [] rfl
  · refine awp_false (by kernel_rfl) h1 ?_
    refine awp_exit ?_
    exact oO hF [] [] rfl

def z1379 (qlists : List (List api_Prop)) (r : (List (List UInt8))) : TV × Mem := (.v (.one (.own 1 none)), ⟨[(1, ⟨9, 1, List.map encS r⟩)], []⟩)

theorem z1380 {qlists : List (List api_Prop)} {r} (hF : z1378 qlists = some r) : Holds prog 141 [.v (.one (.own 0 none))] ⟨[(0, ⟨94, 1, List.map (encL api_Prop.enc) qlists⟩)], []⟩ (Is (z1379 qlists r)) := by
  unfold z1378 at hF
  refine holds_of_awp hΓ (fn := f141) (c := cB f141) (A := 1) (nx := 1) (by kernel_rfl) (by kernel_rfl) (by kernel_rfl) (by kernel_rfl) (by kernel_rfl) (by kernel_rfl) (lowc_of (by kernel_rfl)) ?_
  show Awp prog 1 31 (cB f141) _ _
  refine awp_seq ?_
  refine awp_region ?_
  refine aR 1 ?_
  refine aE ?_
  refine awp_to (oT (m := ⟨[], []⟩) (ts := [(0, .v (.one (.d (.lst (List.map (encL api_Prop.enc) qlists)))))]) (nx := 1) [] []) ?_
  refine awp_seq ?_
  refine awp_region ?_
  refine aR 1 ?_
  refine aE ?_
  refine awp_seq ?_
  refine awp_seq ?_
  refine awp_region ?_
  refine aR 1 ?_
  refine aL (encL api_Prop.enc) qlists ?_
  refine aR 1 ?_
  refine aE ?_
  refine awp_block ?_
  refine awp_to (st' := z1382 qlists ([], 0)) (oT [] [1]) ?_
  refine bE hF fun vout5_1 h7 hF => ?_
  refine awp_sub (awp_loop' (z1382 qlists) z1384 (z1383 qlists) (by intro x; exact fun h => nomatch h) h7 (z1385 qlists)) ?_
  refine awp_seq ?_
  refine bE hF fun vl h8 hF => ?_
  refine gE hF fun h9 hF => ?_
  refine awp_region ?_
  refine aR 1 ?_
  refine aCp (z675 h8) ⟨⟨rfl, rfl, pin1 h9⟩, trivial⟩ [(0, 1)] [] [] ?_
  refine aE ?_
  refine awp_seq ?_
  refine bE hF fun vr h10 hF => ?_
  refine awp_region ?_
  refine aR 1 ?_
  refine aC (z523 h10) [(0, 1)] [] [] ?_
  refine aR 1 ?_
  refine aE ?_
  refine awp_ret ?_
  exact oF hF [(1, 3003)] []

/-! ### slices.BinarySearchFunc[[]beaconfleet/api.Prop,beaconfleet/api.Prop,string] -/
def z492 : Unit → AEx
  | _ => .exit 0

def z491 (qtarget : List UInt8) : Unit → St
  | _ => Mem.st ⟨[], []⟩ (tl [(0, .v (.one (.nil))), (1, .v (.one (.d (.str qtarget)))), (2, .v (.one (.fn 247 []))), (8, .v (.one (.d (.int .i64 0)))), (9, .v (.one (.d (.int .i64 0))))]) 0

def z490 (qtarget : List UInt8) : Unit → St
  | _ => Mem.st ⟨[], []⟩ (tl [(0, .v (.one (.nil))), (1, .v (.one (.d (.str qtarget)))), (2, .v (.one (.fn 247 []))), (8, .v (.one (.d (.int .i64 0)))), (9, .v (.one (.d (.int .i64 0)))), (10, .v (.one (.d (.int .i64 0))))]) 0

theorem z493 (qtarget : List UInt8) (s : Unit) (r : (Unit) ⊕ (Unit)) (hF : z489  s = some r) : Awp prog 0 49 (cL (cL (cL (cR (cR (cR (cB f246))))))) (Out 0 (kk z492) (SS (z490 qtarget) (z491 qtarget)) r) (z490 qtarget s) := by
  unfold z489 at hF
  refine awp_seq ?_
  refine awp_seq ?_
  refine awp_region ?_
  refine aR 3 ?_
  refine aE ?_
  refine cE hF (fun h1 hF => ?_) fun h1 hF => ?_
  · refine awp_true (by kernel_rfl) h1 ?_
    refine awp_skip ?_
    refine awp_block ?_
    refine awp_seq ?_
    refine awp_region ?_
    refine aR 7 ?_
    refine aE ?_
    refine awp_seq ?_
    exact nE hF
  · refine awp_false (by kernel_rfl) h1 ?_
    refine awp_exit ?_
    exact oO hF [] [] rfl

def z487 (qtarget : List UInt8) (r : Unit) : TV × Mem := (.tup [.one (.d (.int .i64 0)), .one (.d (.bool false))], ⟨[], []⟩)

theorem z488 {qtarget : List UInt8} {r} (hF : z486 qtarget = some r) : Holds prog 246 [.v (.one (.nil)), .v (.one (.d (.str qtarget))), .v (.one (.fn 247 []))] ⟨[], []⟩ (Is (z487 qtarget r)) := by
  unfold z486 at hF
  refine holds_of_awp hΓ (fn := f246) (c := cB f246) (A := 0) (nx := 0) (by kernel_rfl) (by kernel_rfl) (by kernel_rfl) (by kernel_rfl) (by kernel_rfl) (by kernel_rfl) (lowc_of (by kernel_rfl)) ?_
  show Awp prog 0 49 (cB f246) _ _
  refine awp_seq ?_
  refine awp_region ?_
  refine aR 2 ?_
  refine aE ?_
  refine awp_seq ?_
  refine awp_region ?_
  refine aR 3 ?_
  refine aE ?_
  refine awp_seq ?_
  refine awp_region ?_
  refine aR 3 ?_
  refine aE ?_
  refine awp_seq ?_
  refine awp_block ?_
  refine awp_to (st' := z490 qtarget ()) (oT [] []) ?_
  refine bE hF fun _ h3 hF => ?_
  refine awp_sub (awp_loop' (z490 qtarget) z492 (z491 qtarget) (by intro x; exact fun h => nomatch h) h3 (z493 qtarget)) ?_
  refine awp_seq ?_
  refine cE hF (fun h4 hF => ?_) fun h4 hF => ?_
  · exact nE hF
  · refine awp_region ?_
    refine aR 3 ?_
    refine aB h4 ?_
    refine aR 12 ?_
    refine aE ?_
    refine awp_ret ?_
    exact oF hF [] []

/-! ### beaconfleet/twin.find -/
def z1286 (qname : List UInt8) (r : Unit) : TV × Mem := (.v (.one (.d (.int .i64 (-1)))), ⟨[], []⟩)

theorem z1287 {qname : List UInt8} {r} (hF : z1285 qname = some r) : Holds prog 181 [.v (.one (.nil)), .v (.one (.d (.str qname)))] ⟨[], []⟩ (Is (z1286 qname r)) := by
  unfold z1285 at hF
  refine holds_of_awp hΓ (fn := f181) (c := cB f181) (A := 0) (nx := 0) (by kernel_rfl) (by kernel_rfl) (by kernel_rfl) (by kernel_rfl) (by kernel_rfl) (by kernel_rfl) (lowc_of (by kernel_rfl)) ?_
  show Awp prog 0 16 (cB f181) _ _
  refine awp_seq ?_
  refine awp_region ?_
  refine aR 1 ?_
  refine aE ?_
  refine awp_seq ?_
  refine bE hF fun _ h1 hF => ?_
  refine awp_region ?_
  refine aR 2 ?_
  refine aC (z488 h1) [] [] [] ?_
  refine aR 5 ?_
  refine aE ?_
  refine awp_seq ?_
  refine awp_seq ?_
  refine awp_region ?_
  refine aR 2 ?_
  refine aE ?_
  refine awp_true (by kernel_rfl) rfl ?_
  refine awp_seq ?_
  refine awp_region ?_
  refine aR 1 ?_
  refine aE ?_
  refine awp_ret ?_
  exact oF hF [] []

/-! ### beaconfleet/twin.valueOf -/
def z1408 (qname : List UInt8) (r : Unit) : TV × Mem := (.v (.agg [.d (.int .i64 0), .d (.bool false), .d (.int .i64 0), .d (.str ([] : List UInt8))]), ⟨[], []⟩)

theorem z1409 {qname : List UInt8} {r} (hF : z1407 qname = some r) : Holds prog 132 [.v (.one (.nil)), .v (.one (.d (.str qname)))] ⟨[], []⟩ (Is (z1408 qname r)) := by
  unfold z1407 at hF
  refine holds_of_awp hΓ (fn := f132) (c := cB f132) (A := 0) (nx := 0) (by kernel_rfl) (by kernel_rfl) (by kernel_rfl) (by kernel_rfl) (by kernel_rfl) (by kernel_rfl) (lowc_of (by kernel_rfl)) ?_
  show Awp prog 0 17 (cB f132) _ _
  refine awp_seq ?_
  refine awp_region ?_
  refine aR 1 ?_
  refine aE ?_
  refine awp_seq ?_
  refine awp_seq ?_
  refine bE hF fun _ h1 hF => ?_
  refine awp_region ?_
  refine aR 2 ?_
  refine aC (z1287 h1) [] [] [] ?_
  refine aR 1 ?_
  refine aE ?_
  refine awp_seq ?_
  refine awp_region ?_
  refine aR 2 ?_
  refine aE ?_
  refine cE hF (fun h2 hF => ?_) fun h2 hF => ?_
  · refine awp_true (by kernel_rfl) h2 ?_
    refine awp_seq ?_
    exact nE hF
  · refine awp_false (by kernel_rfl) h2 ?_
    refine awp_skip ?_
    refine awp_seq ?_
    refine awp_region ?_
    refine aR 2 ?_
    refine aE ?_
    refine awp_ret ?_
    exact oF hF [] []

/-! ### beaconfleet/twin.valueOf -/
def z1406 (ql : List api_Prop) (qname : List UInt8) (r : api_Value) : TV × Mem := (.v (.agg [.d (.int .i64 r.Kind), .d (.bool r.Flag), .d (.int .i64 r.Number), .d (.str r.Words)]), ⟨[], []⟩)

theorem z1410 {ql : List api_Prop} {qname : List UInt8} {r} (hF : z1405 ql qname = some r) : Holds prog 132 [.v (.one (.d (.lst (List.map api_Prop.enc ql)))), .v (.one (.d (.str qname)))] ⟨[], []⟩ (Is (z1406 ql qname r)) := by
  unfold z1405 at hF
  refine holds_of_awp hΓ (fn := f132) (c := cB f132) (A := 0) (nx := 0) (by kernel_rfl) (by kernel_rfl) (by kernel_rfl) (by kernel_rfl) (by kernel_rfl) (by kernel_rfl) (lowc_of (by kernel_rfl)) ?_
  show Awp prog 0 17 (cB f132) _ _
  refine awp_seq ?_
  refine awp_region ?_
  refine aR 1 ?_
  refine aE ?_
  refine awp_seq ?_
  refine awp_seq ?_
  refine bE hF fun vr2 h1 hF => ?_
  refine awp_region ?_
  refine aR 2 ?_
  refine aC (z1288 h1) [] [] [] ?_
  refine aR 1 ?_
  refine aE ?_
  refine awp_seq ?_
  refine awp_region ?_
  refine aR 2 ?_
  refine aE ?_
  refine cE hF (fun h2 hF => ?_) fun h2 hF => ?_
  · refine awp_true (by kernel_rfl) h2 ?_
    refine awp_seq ?_
    refine bE hF fun vy h3 hF => ?_
    refine awp_region ?_
    refine aR 2 ?_
    refine aX (x_idx api_Prop.enc h3) ?_
    refine aR 3 ?_
    refine aE ?_
    refine awp_ret ?_
    exact oF hF [] []
  · refine awp_false (by kernel_rfl) h2 ?_
    refine awp_skip ?_
    refine awp_seq ?_
    refine awp_region ?_
    refine aR 2 ?_
    refine aE ?_
    refine awp_ret ?_
    exact oF hF [] []

/-! ### beaconfleet/twin.Differ -/
def z1229 : (List api_Change) → AEx
  | _ => .normal

def z1228 (qb : List api_Prop) (vr1_1 : List (List UInt8)) (vout : List api_Change) (vx : Int) : (List api_Change) → St
  | vout2 => Mem.st ⟨[(1, ⟨205, 9, List.map api_Change.enc vout2⟩)], []⟩ (tl [(0, .v (.one (.nil))), (1, .v (.one (.d (.lst (List.map api_Prop.enc qb))))), (7, .v (.one (.own 1 none))), (24, .v (.one (.d (.lst (List.map encS vr1_1))))), (25, .v (.one (.d (.int .i64 (vr1_1.length : Int))))), (26, .v (.one (.d (.int .i64 vx))))]) 2

def z1227 (qb : List api_Prop) (vr1_1 : List (List UInt8)) (vout : List api_Change) (vx : Int) : St := Mem.st ⟨[(1, ⟨205, 9, List.map api_Change.enc vout⟩)], []⟩ (tl [(0, .v (.one (.nil))), (1, .v (.one (.d (.lst (List.map api_Prop.enc qb))))), (7, .v (.one (.own 1 none))), (24, .v (.one (.d (.lst (List.map encS vr1_1))))), (25, .v (.one (.d (.int .i64 (vr1_1.length : Int))))), (26, .v (.one (.d (.int .i64 vx))))]) 2

theorem z1230 (qb : List api_Prop) (vr1_1 : List (List UInt8)) (vout : List api_Change) (vx : Int) {r} (hF : z1226 qb vr1_1 vout vx = some r) : Awp prog 1 48 (cL (cR (cR (cL (cL (cR (cL (cR (cR (cR (cB f66))))))))))) (Out 1 z1229 (z1228 qb vr1_1 vout vx) r) (z1227 qb vr1_1 vout vx) := by
  unfold z1226 at hF
  refine awp_block ?_
  refine awp_seq ?_
  refine bE hF fun vy1 h7 hF => ?_
  refine awp_region ?_
  refine aX (x_idx encS h7) ?_
  refine aR 2 ?_
  refine aE ?_
  refine awp_seq ?_
  refine bE hF fun _ h8 hF => ?_
  refine bE hF fun vr4 h9 hF => ?_
  refine awp_region ?_
  refine aR 2 ?_
  refine aC (z1409 h8) [] [] [] ?_
  refine aR 2 ?_
  refine aC (z1410 h9) [] [] [] ?_
  refine aR 4 ?_
  refine aE ?_
  refine awp_seq ?_
  refine awp_region ?_
  refine aR 2 ?_
  refine aS (does_eqS (op := .neq) (xs := [.int .i64 0, .bool false, .int .i64 0, .str ([] : List UInt8)]) (ys := [.int .i64 vr4.Kind, .bool vr4.Flag, .int .i64 vr4.Number, .str vr4.Words]) (b := (decide ((0 : Int) = vr4.Kind) && ((false == vr4.Flag) && (decide ((0 : Int) = vr4.Number) && (decide (([] : List UInt8) = vr4.Words) && true))))) (c := (!(decide ((0 : Int) = vr4.Kind) && ((false == vr4.Flag) && (decide ((0 : Int) = vr4.Number) && (decide (([] : List UInt8) = vr4.Words) && true)))))) rfl (.inr ⟨rfl, rfl⟩) (by kernel_rfl) (by kernel_rfl) (by kernel_rfl) (by kernel_rfl) (by kernel_rfl) (by kernel_rfl)) ?_
  refine aE ?_
  refine cE hF (fun h10 hF => ?_) fun h10 hF => ?_
  · refine awp_true (by kernel_rfl) h10 ?_
    refine gE hF fun h11 hF => ?_
    refine awp_region ?_
    refine aR 6 ?_
    refine aX (x_app api_Change.enc 1 h11) ?_
    refine aR 1 ?_
    refine aE ?_
    exact oO hF [(1, 22002)] [] rfl
  · refine awp_false (by kernel_rfl) h10 ?_
    refine awp_skip ?_
    exact oO hF [] [] rfl

def z1224 : (List api_Change) → AEx
  | _ => .exit 0

def z1223 (qb : List api_Prop) (vr1_1 : List (List UInt8)) : (List api_Change) → St
  | vout3 => Mem.st ⟨[(1, ⟨205, 9, List.map api_Change.enc vout3⟩)], []⟩ (tl [(7, .v (.one (.own 1 none)))]) 2

def z1222 (qb : List api_Prop) (vr1_1 : List (List UInt8)) : (List api_Change) × Int → St
  | (vout, vx) => Mem.st ⟨[(1, ⟨205, 9, List.map api_Change.enc vout⟩)], []⟩ (tl [(0, .v (.one (.nil))), (1, .v (.one (.d (.lst (List.map api_Prop.enc qb))))), (7, .v (.one (.own 1 none))), (24, .v (.one (.d (.lst (List.map encS vr1_1))))), (25, .v (.one (.d (.int .i64 (vr1_1.length : Int))))), (26, .v (.one (.d (.int .i64 vx))))]) 2

theorem z1225 (qb : List api_Prop) (vr1_1 : List (List UInt8)) (s : (List api_Change) × Int) (r : ((List api_Change) × Int) ⊕ ((List api_Change))) (hF : z1221 qb vr1_1 s = some r) : Awp prog 1 48 (cL (cL (cR (cL (cR (cR (cR (cB f66)))))))) (Out 1 (kk z1224) (SS (z1222 qb vr1_1) (z1223 qb vr1_1)) r) (z1222 qb vr1_1 s) := by
  obtain ⟨vout, vx⟩ := s
  unfold z1221 at hF
  refine awp_seq ?_
  refine awp_region ?_
  refine aR 1 ?_
  refine aE ?_
  refine awp_seq ?_
  refine cE hF (fun h6 hF => ?_) fun h6 hF => ?_
  · refine awp_true (by kernel_rfl) h6 ?_
    refine awp_skip ?_
    refine awp_seq ?_
    refine awp_to (st' := z1227 qb vr1_1 vout vx) (oT [] []) ?_
    refine bE hF fun vout2_1 h12 hF => ?_
    refine awp_sub (z1230 qb vr1_1 vout vx h12) ?_
    refine awp_region ?_
    refine aR 2 ?_
    refine aE ?_
    exact oO hF [] [] rfl
  · refine awp_false (by kernel_rfl) h6 ?_
    refine awp_exit ?_
    exact oO hF [] [] rfl

def z1219 (qb : List api_Prop) (r : (List api_Change) × Int) : TV × Mem := (.tup [.one (.own 1 none), .one (.d (.int .i64 r.2))], ⟨[(1, ⟨205, 9, List.map api_Change.enc r.1⟩)], []⟩)

theorem z1220 {qb : List api_Prop} {r} (hF : z1218 qb = some r) : Holds prog 66 [.v (.one (.nil)), .v (.one (.own 0 none))] ⟨[(0, ⟨102, 5, List.map api_Prop.enc qb⟩)], []⟩ (Is (z1219 qb r)) := by
  unfold z1218 at hF
  refine holds_of_awp hΓ (fn := f66) (c := cB f66) (A := 1) (nx := 1) (by kernel_rfl) (by kernel_rfl) (by kernel_rfl) (by kernel_rfl) (by kernel_rfl) (by kernel_rfl) (lowc_of (by kernel_rfl)) ?_
  show Awp prog 1 48 (cB f66) _ _
  refine awp_seq ?_
  refine awp_region ?_
  refine aR 2 ?_
  refine aE ?_
  refine awp_to (oT (m := ⟨[], []⟩) (ts := [(0, .v (.one (.nil))), (1, .v (.one (.d (.lst (List.map api_Prop.enc qb)))))]) (nx := 1) [] []) ?_
  refine awp_seq ?_
  refine awp_seq ?_
  refine bE hF fun vr h1 hF => ?_
  refine bE hF fun vr3 h2 hF => ?_
  refine bE hF fun vr1 h3 hF => ?_
  refine awp_region ?_
  refine aR 1 ?_
  refine aC (z1157 h1) [] [] [] ?_
  refine aR 1 ?_
  refine aC (z1168 h2) [] [] [] ?_
  refine aR 1 ?_
  refine aC (z26 h3) [] [] [4001] ?_
  refine aR 1 ?_
  refine aE ?_
  refine awp_seq ?_
  refine awp_region ?_
  refine aR 2 ?_
  refine aE ?_
  refine cE hF (fun h4 hF => ?_) fun h4 hF => ?_
  · refine awp_true (by kernel_rfl) h4 ?_
    refine awp_seq ?_
    refine awp_region ?_
    refine aR 3 ?_
    refine aE ?_
    refine awp_ret ?_
    exact oF hF [] [1]
  · refine awp_false (by kernel_rfl) h4 ?_
    refine awp_skip ?_
    refine awp_seq ?_
    refine awp_region ?_
    refine aR 1 ?_
    refine aE ?_
    refine awp_seq ?_
    refine awp_seq ?_
    refine bE hF fun vr1_1 h5 hF => ?_
    refine awp_region ?_
    refine aR 3 ?_
    refine aC (z1380 h5) [(0, 12001)] [] [] ?_
    refine aL encS vr1_1 ?_
    refine aR 1 ?_
    refine aE ?_
    refine awp_to (oT (m := ⟨[], []⟩) (ts := [(0, .v (.one (.nil))), (1, .v (.one (.d (.lst (List.map api_Prop.enc qb))))), (7, .v (.one (.nil))), (24, .v (.one (.d (.lst (List.map encS vr1_1))))), (25, .v (.one (.d (.int .i64 (vr1_1.length : Int))))), (26, .v (.one (.d (.int .i64 0))))]) (nx := 1) [] []) ?_
    refine awp_block ?_
    refine awp_to (st' := z1222 qb vr1_1 ([], 0)) (oT [] [1]) ?_
    refine bE hF fun vout3_1 h13 hF => ?_
    refine awp_sub (awp_loop' (z1222 qb vr1_1) z1224 (z1223 qb vr1_1) (by intro x; exact fun h => nomatch h) h13 (z1225 qb vr1_1)) ?_
    refine awp_seq ?_
    refine awp_region ?_
    refine aR 3 ?_
    refine aE ?_
    refine awp_ret ?_
    exact oF hF [] []

/-! ### beaconfleet/series.byDevice -/
def z439 (qa : api_Sample) (qb : api_Sample) (r : Int) : TV × Mem := (.v (.one (.d (.int .i64 r))), ⟨[], []⟩)

theorem z440 {qa : api_Sample} {qb : api_Sample} {r} (hF : z438 qa qb = some r) : Holds prog 94 [.v (.agg [.d (.str qa.Device), .d (.str qa.Metric), .d (.int .i64 qa.At), .d (.int .i64 qa.Value)]), .v (.agg [.d (.str qb.Device), .d (.str qb.Metric), .d (.int .i64 qb.At), .d (.int .i64 qb.Value)])] ⟨[], []⟩ (Is (z439 qa qb r)) := by
  unfold z438 at hF
  refine holds_of_awp hΓ (fn := f94) (c := cB f94) (A := 0) (nx := 0) (by kernel_rfl) (by kernel_rfl) (by kernel_rfl) (by kernel_rfl) (by kernel_rfl) (by kernel_rfl) (lowc_of (by kernel_rfl)) ?_
  show Awp prog 0 22 (cB f94) _ _
  refine awp_seq ?_
  refine awp_region ?_
  refine aR 3 ?_
  refine aE ?_
  refine awp_seq ?_
  refine bE hF fun _ h1 hF => ?_
  refine bE hF fun _ h2 hF => ?_
  refine bE hF fun vr h3 hF => ?_
  refine bE hF fun vr1 h4 hF => ?_
  refine aD ?_
  refine dR 4 ?_
  refine dC (z1001 h1) [] [] [] ?_
  refine dR 4 ?_
  refine dC (z1001 h2) [] [] [] ?_
  refine dR 4 ?_
  refine dC (z144 h3) [] [] [] ?_
  refine dR 1 ?_
  refine dC (z155 h4) [] [] [18000] ?_
  refine dR 1 ?_
  refine dE ?_
  refine awp_ret ?_
  exact oF hF [] []

/-! ### beaconfleet/series.Check -/
def z423 : Bool → AEx
  | _ => .normal

def z422 (ql : List api_Sample) (vx : Int) (vy2 : api_Sample) : Bool → St
  | vx4 => Mem.st ⟨[], [(0, [.d (.str vy2.Device), .d (.str vy2.Metric), .d (.int .i64 vy2.At), .d (.int .i64 vy2.Value)])]⟩ (tl [(0, .v (.one (.d (.lst (List.map api_Sample.enc ql))))), (3, .v (.one (.d (.int .i64 vx)))), (4, .v (.one (.box 0 0))), (8, .v (.one (.d (.lst (List.map api_Sample.enc ql))))), (9, .v (.one (.d (.int .i64 (ql.length : Int))))), (10, .v (.one (.d (.int .i64 vx)))), (15, .v (.one (.d (.bool vx4))))]) 1

def z421 (ql : List api_Sample) (vx : Int) (vy2 : api_Sample) : St := Mem.st ⟨[], [(0, [.d (.str vy2.Device), .d (.str vy2.Metric), .d (.int .i64 vy2.At), .d (.int .i64 vy2.Value)])]⟩ (tl [(0, .v (.one (.d (.lst (List.map api_Sample.enc ql))))), (3, .v (.one (.d (.int .i64 vx)))), (4, .v (.one (.box 0 0))), (8, .v (.one (.d (.lst (List.map api_Sample.enc ql))))), (9, .v (.one (.d (.int .i64 (ql.length : Int))))), (10, .v (.one (.d (.int .i64 vx))))]) 1

theorem z424 (ql : List api_Sample) (vx : Int) (vy2 : api_Sample) {r} (hF : z420 vy2 = some r) : Awp prog 0 50 (cL (cL (cR (cL (cL (cR (cR (cL (cL (cR (cL (cR (cR (cB f91)))))))))))))) (Out 0 z423 (z422 ql vx vy2) r) (z421 ql vx vy2) := by
  unfold z420 at hF
  refine bE hF fun vr3 h4 hF => ?_
  refine cE hF (fun h5 hF => ?_) fun h5 hF => ?_
  · refine awp_region ?_
    refine aR 2 ?_
    refine aC (z33 h4) [] [] [] ?_
    refine aB h5 ?_
    refine aR 7 ?_
    refine aE ?_
    exact oO hF [] [] rfl
  · refine bE hF fun vr4 h6 hF => ?_
    refine awp_region ?_
    refine aR 2 ?_
    refine aC (z33 h4) [] [] [] ?_
    refine aB h5 ?_
    refine aR 3 ?_
    refine aC (z33 h6) [] [] [] ?_
    refine aR 3 ?_
    refine aE ?_
    exact oO hF [] [] rfl

def z428 : Bool → AEx
  | _ => .normal

def z427 (ql : List api_Sample) (vx : Int) (vy2 : api_Sample) : Bool → St
  | vx5 => Mem.st ⟨[], [(0, [.d (.str vy2.Device), .d (.str vy2.Metric), .d (.int .i64 vy2.At), .d (.int .i64 vy2.Value)])]⟩ (tl [(0, .v (.one (.d (.lst (List.map api_Sample.enc ql))))), (3, .v (.one (.d (.int .i64 vx)))), (4, .v (.one (.box 0 0))), (8, .v (.one (.d (.lst (List.map api_Sample.enc ql))))), (9, .v (.one (.d (.int .i64 (ql.length : Int))))), (10, .v (.one (.d (.int .i64 vx)))), (26, .v (.one (.d (.bool vx5))))]) 1

def z426 (ql : List api_Sample) (vx : Int) (vy2 : api_Sample) : St := Mem.st ⟨[], [(0, [.d (.str vy2.Device), .d (.str vy2.Metric), .d (.int .i64 vy2.At), .d (.int .i64 vy2.Value)])]⟩ (tl [(0, .v (.one (.d (.lst (List.map api_Sample.enc ql))))), (3, .v (.one (.d (.int .i64 vx)))), (4, .v (.one (.box 0 0))), (8, .v (.one (.d (.lst (List.map api_Sample.enc ql))))), (9, .v (.one (.d (.int .i64 (ql.length : Int))))), (10, .v (.one (.d (.int .i64 vx))))]) 1

theorem z429 (ql : List api_Sample) (vx : Int) (vy2 : api_Sample) {r} (hF : z425 vy2 = some r) : Awp prog 0 50 (cL (cR (cR (cL (cR (cL (cL (cR (cR (cL (cL (cR (cL (cR (cR (cB f91)))))))))))))))) (Out 0 z428 (z427 ql vx vy2) r) (z426 ql vx vy2) := by
  unfold z425 at hF
  refine bE hF fun vr1_2 h9 hF => ?_
  refine cE hF (fun h10 hF => ?_) fun h10 hF => ?_
  · refine awp_region ?_
    refine aR 2 ?_
    refine aC (z52 h9) [] [] [] ?_
    refine aB h10 ?_
    refine aR 6 ?_
    refine aE ?_
    exact oO hF [] [] rfl
  · refine bE hF fun vr5 h11 hF => ?_
    refine awp_region ?_
    refine aR 2 ?_
    refine aC (z52 h9) [] [] [] ?_
    refine aB h10 ?_
    refine aR 3 ?_
    refine aC (z81 h11) [] [] [] ?_
    refine aR 2 ?_
    refine aE ?_
    exact oO hF [] [] rfl

def z433 : Bool → AEx
  | _ => .normal

def z432 (ql : List api_Sample) (vx : Int) (vy2 : api_Sample) : Bool → St
  | vx6 => Mem.st ⟨[], []⟩ (tl [(0, .v (.one (.d (.lst (List.map api_Sample.enc ql))))), (8, .v (.one (.d (.lst (List.map api_Sample.enc ql))))), (9, .v (.one (.d (.int .i64 (ql.length : Int))))), (10, .v (.one (.d (.int .i64 vx)))), (36, .v (.one (.d (.bool vx6))))]) 0

def z431 (ql : List api_Sample) (vx : Int) (vy2 : api_Sample) : St := Mem.st ⟨[], [(0, [.d (.str vy2.Device), .d (.str vy2.Metric), .d (.int .i64 vy2.At), .d (.int .i64 vy2.Value)])]⟩ (tl [(0, .v (.one (.d (.lst (List.map api_Sample.enc ql))))), (3, .v (.one (.d (.int .i64 vx)))), (4, .v (.one (.box 0 0))), (8, .v (.one (.d (.lst (List.map api_Sample.enc ql))))), (9, .v (.one (.d (.int .i64 (ql.length : Int))))), (10, .v (.one (.d (.int .i64 vx))))]) 1

theorem z434 (ql : List api_Sample) (vx : Int) (vy2 : api_Sample) {r} (hF : z430 ql vx vy2 = some r) : Awp prog 0 50 (cL (cR (cR (cR (cR (cL (cR (cL (cL (cR (cR (cL (cL (cR (cL (cR (cR (cB f91)))))))))))))))))) (Out 0 z433 (z432 ql vx vy2) r) (z431 ql vx vy2) := by
  unfold z430 at hF
  refine cE hF (fun h14 hF => ?_) fun h14 hF => ?_
  · refine bE hF fun vy3 h15 hF => ?_
    refine bE hF fun vr2_2 h16 hF => ?_
    refine aD ?_
    refine dR 1 ?_
    refine dB h14 ?_
    refine dR 5 ?_
    refine dX (x_idx api_Sample.enc h15) ?_
    refine dR 1 ?_
    refine dC (z440 h16) [] [] [] ?_
    refine dR 3 ?_
    refine dE ?_
    exact oO hF [] [] rfl
  · refine aD ?_
    refine dR 1 ?_
    refine dB h14 ?_
    refine dR 11 ?_
    refine dE ?_
    exact oO hF [] [] rfl

def z418 : Unit ⊕ Int → AEx
  | .inl _ => .exit 0
  | .inr _ => .ret

def z417 (ql : List api_Sample) : Unit ⊕ Int → St
  | .inl _ => Mem.st ⟨[], []⟩ (tl []) 0
  | .inr vx7 => Mem.st ⟨[], []⟩ (tl [(2, .v (.one (.d (.int .i64 vx7))))]) 0

def z416 (ql : List api_Sample) : Int → St
  | vx => Mem.st ⟨[], []⟩ (tl [(0, .v (.one (.d (.lst (List.map api_Sample.enc ql))))), (8, .v (.one (.d (.lst (List.map api_Sample.enc ql))))), (9, .v (.one (.d (.int .i64 (ql.length : Int))))), (10, .v (.one (.d (.int .i64 vx))))]) 0

theorem z419 (ql : List api_Sample) (vx : Int) (r : (Int) ⊕ (Unit ⊕ Int)) (hF : z415 ql vx = some r) : Awp prog 0 50 (cL (cL (cR (cL (cR (cR (cB f91))))))) (Out 0 (kk z418) (SS (z416 ql) (z417 ql)) r) (z416 ql vx) := by
  unfold z415 at hF
  refine awp_seq ?_
  refine awp_region ?_
  refine aR 1 ?_
  refine aE ?_
  refine awp_seq ?_
  refine cE hF (fun h2 hF => ?_) fun h2 hF => ?_
  · refine awp_true (by kernel_rfl) h2 ?_
    refine awp_skip ?_
    refine awp_seq ?_
    refine awp_block ?_
    refine awp_seq ?_
    refine bE hF fun vy2 h3 hF => ?_
    refine awp_region ?_
    refine aR 1 ?_
    refine aX (x_idx api_Sample.enc h3) ?_
    refine aR 4 ?_
    refine aE ?_
    refine awp_block ?_
    refine awp_seq ?_
    refine awp_to (st' := z421 ql vx vy2) (oT [(0, 4000)] []) ?_
    refine bE hF fun vx4_1 h7 hF => ?_
    refine awp_sub (z424 ql vx vy2 h7) ?_
    refine cE hF (fun h8 hF => ?_) fun h8 hF => ?_
    · refine awp_true (by kernel_rfl) h8 ?_
      refine awp_seq ?_
      refine awp_region ?_
      refine aR 1 ?_
      refine aE ?_
      refine awp_ret ?_
      exact oO hF [] [] rfl
    · refine awp_false (by kernel_rfl) h8 ?_
      refine awp_seq ?_
      refine awp_to (st' := z426 ql vx vy2) (oT [] []) ?_
      refine bE hF fun vx5_1 h12 hF => ?_
      refine awp_sub (z429 ql vx vy2 h12) ?_
      refine cE hF (fun h13 hF => ?_) fun h13 hF => ?_
      · refine awp_true (by kernel_rfl) h13 ?_
        refine awp_seq ?_
        refine awp_region ?_
        refine aR 1 ?_
        refine aE ?_
        refine awp_ret ?_
        exact oO hF [] [] rfl
      · refine awp_false (by kernel_rfl) h13 ?_
        refine awp_seq ?_
        refine awp_to (st' := z431 ql vx vy2) (oT [] []) ?_
        refine bE hF fun vx6_1 h17 hF => ?_
        refine awp_sub (z434 ql vx vy2 h17) ?_
        refine cE hF (fun h18 hF => ?_) fun h18 hF => ?_
        · refine awp_true (by kernel_rfl) h18 ?_
          refine awp_seq ?_
          refine awp_region ?_
          refine aR 1 ?_
          refine aE ?_
          refine awp_ret ?_
          exact oO hF [] [] rfl
        · refine awp_false (by kernel_rfl) h18 ?_
          refine awp_skip ?_
          refine awp_region ?_
          refine aR 2 ?_
          refine aE ?_
          exact oO hF [] [] rfl
  · refine awp_false (by kernel_rfl) h2 ?_
    refine awp_exit ?_
    exact oO hF [] [] rfl

def z413 (ql : List api_Sample) (r : Int) : TV × Mem := (.v (.one (.d (.int .i64 r))), ⟨[], []⟩)

theorem z414 {ql : List api_Sample} {r} (hF : z401 ql = some r) : Holds prog 91 [.v (.one (.d (.lst (List.map api_Sample.enc ql))))] ⟨[], []⟩ (Is (z413 ql r)) := by
  unfold z401 at hF
  refine holds_of_awp hΓ (fn := f91) (c := cB f91) (A := 0) (nx := 0) (by kernel_rfl) (by kernel_rfl) (by kernel_rfl) (by kernel_rfl) (by kernel_rfl) (by kernel_rfl) (lowc_of (by kernel_rfl)) ?_
  show Awp prog 0 50 (cB f91) _ _
  refine awp_seq ?_
  refine awp_region ?_
  refine aR 1 ?_
  refine aE ?_
  refine awp_seq ?_
  refine awp_seq ?_
  refine awp_region ?_
  refine aR 1 ?_
  refine aL api_Sample.enc ql ?_
  refine aR 1 ?_
  refine aE ?_
  refine cE hF (fun h1 hF => ?_) fun h1 hF => ?_
  · refine awp_true (by kernel_rfl) h1 ?_
    refine awp_seq ?_
    refine awp_region ?_
    refine aR 1 ?_
    refine aE ?_
    refine awp_ret ?_
    exact oF hF [] []
  · refine awp_false (by kernel_rfl) h1 ?_
    refine awp_skip ?_
    refine awp_seq ?_
    refine awp_seq ?_
    refine awp_region ?_
    refine aR 1 ?_
    refine aL api_Sample.enc ql ?_
    refine aR 1 ?_
    refine aE ?_
    refine awp_block ?_
    refine awp_to (st' := z416 ql 0) (oT [] []) ?_
    refine bE hF fun x h19 hF => ?_
    rcases x with _ | vx7_1
    · refine awp_sub (awp_loop' (z416 ql) z418 (z417 ql) (by intro x; rcases x with x | x <;> exact fun h => nomatch h) h19 (z419 ql)) ?_
      refine awp_seq ?_
      refine awp_region ?_
      refine aR 1 ?_
      refine aE ?_
      refine awp_ret ?_
      exact oF hF [] []
    · refine awp_sub (awp_loop' (z416 ql) z418 (z417 ql) (by intro x; rcases x with x | x <;> exact fun h => nomatch h) h19 (z419 ql)) ?_
      exact oF hF [] []

/-! ### beaconfleet/series.CheckSeries$1 -/
def z409 : Bool → AEx
  | _ => .normal

def z408 (qs : api_Sample) (qx : List api_Sample) : Bool → St
  | vx => Mem.st ⟨[], [(0, [.d (.lst (List.map api_Sample.enc qx))])]⟩ (tl [(3, .v (.one (.d (.bool vx))))]) 1

def z407 (qs : api_Sample) (qx : List api_Sample) : St := Mem.st ⟨[], [(0, [.d (.lst (List.map api_Sample.enc qx))]), (1, [.d (.str qs.Device), .d (.str qs.Metric), .d (.int .i64 qs.At), .d (.int .i64 qs.Value)])]⟩ (tl [(1, .v (.one (.box 0 0))), (2, .v (.one (.box 1 0)))]) 2

theorem z410 (qs : api_Sample) (qx : List api_Sample) {r} (hF : z406 qs qx = some r) : Awp prog 1 20 (cL (cR (cB f162))) (Out 1 z409 (z408 qs qx) r) (z407 qs qx) := by
  unfold z406 at hF
  refine bE hF fun vy h1 hF => ?_
  refine cE hF (fun h2 hF => ?_) fun h2 hF => ?_
  · refine aD ?_
    refine dR 3 ?_
    refine dX (x_idx api_Sample.enc h1) ?_
    refine dR 2 ?_
    refine dB h2 ?_
    refine dR 10 ?_
    refine dE ?_
    exact oO hF [] [] rfl
  · refine aD ?_
    refine dR 3 ?_
    refine dX (x_idx api_Sample.enc h1) ?_
    refine dR 2 ?_
    refine dB h2 ?_
    refine dR 4 ?_
    refine dX (x_idx api_Sample.enc h1) ?_
    refine dR 5 ?_
    refine dE ?_
    exact oO hF [] [] rfl

def z404 (qs : api_Sample) (qx : List api_Sample) (r : Bool) : TV × Mem := (.v (.one (.d (.bool r))), ⟨[], [(0, [.d (.lst (List.map api_Sample.enc qx))])]⟩)

theorem z405 {qs : api_Sample} {qx : List api_Sample} {r} (hF : z403 qs qx = some r) : Holds prog 162 [.v (.agg [.d (.str qs.Device), .d (.str qs.Metric), .d (.int .i64 qs.At), .d (.int .i64 qs.Value)]), .v (.one (.box 0 0))] ⟨[], [(0, [.d (.lst (List.map api_Sample.enc qx))])]⟩ (Is (z404 qs qx r)) := by
  unfold z403 at hF
  refine holds_of_awp hΓ (fn := f162) (c := cB f162) (A := 1) (nx := 1) (by kernel_rfl) (by kernel_rfl) (by kernel_rfl) (by kernel_rfl) (by kernel_rfl) (by kernel_rfl) (lowc_of (by kernel_rfl)) ?_
  show Awp prog 1 20 (cB f162) _ _
  refine awp_seq ?_
  refine awp_region ?_
  refine aR 2 ?_
  refine aE ?_
  refine awp_seq ?_
  refine awp_to (st' := z407 qs qx) (oT [] []) ?_
  refine bE hF fun vx1 h3 hF => ?_
  refine awp_sub (z410 qs qx h3) ?_
  refine awp_ret ?_
  exact oF hF [] []

/-! ### slices.IndexFunc[[]beaconfleet/api.Sample,beaconfleet/api.Sample] -/
def z651 : Unit ⊕ Int → AEx
  | .inl _ => .exit 0
  | .inr _ => .ret

def z650 (qs : List api_Sample) : Unit ⊕ Int → St
  | .inl _ => Mem.st ⟨[], [(0, [.d (.lst (List.map api_Sample.enc qs))])]⟩ (tl []) 1
  | .inr vx1 => Mem.st ⟨[], [(0, [.d (.lst (List.map api_Sample.enc qs))])]⟩ (tl [(4, .v (.one (.d (.int .i64 vx1))))]) 1

def z649 (qs : List api_Sample) : Int → St
  | vx => Mem.st ⟨[], [(0, [.d (.lst (List.map api_Sample.enc qs))])]⟩ (tl [(0, .v (.one (.d (.lst (List.map api_Sample.enc qs))))), (1, .v (.one (.fn 162 [0]))), (7, .v (.one (.d (.int .i64 (qs.length : Int))))), (8, .v (.one (.d (.int .i64 vx))))]) 1

theorem z652 (qs : List api_Sample) (vx : Int) (r : (Int) ⊕ (Unit ⊕ Int)) (hF : z648 qs vx = some r) : Awp prog 1 19 (cL (cL (cR (cL (cR (cB f218)))))) (Out 1 (kk z651) (SS (z649 qs) (z650 qs)) r) (z649 qs vx) := by
  unfold z648 at hF
  refine awp_seq ?_
  refine awp_region ?_
  refine aR 1 ?_
  refine aE ?_
  refine awp_seq ?_
  refine cE hF (fun h1 hF => ?_) fun h1 hF => ?_
  · refine awp_true (by kernel_rfl) h1 ?_
    refine awp_skip ?_
    refine awp_seq ?_
    refine awp_block ?_
    refine awp_seq ?_
    refine awp_region ?_
    refine aR 2 ?_
    refine aE ?_
    refine awp_seq ?_
    refine bE hF fun vy1 h2 hF => ?_
    refine bE hF fun vr1 h3 hF => ?_
    refine awp_region ?_
    refine aR 3 ?_
    refine aX (x_idx api_Sample.enc h2) ?_
    refine aR 1 ?_
    refine aC (z405 h3) [] [] [] ?_
    refine aE ?_
    refine cE hF (fun h4 hF => ?_) fun h4 hF => ?_
    · refine awp_true (by kernel_rfl) h4 ?_
      refine awp_seq ?_
      refine awp_region ?_
      refine aR 2 ?_
      refine aE ?_
      refine awp_ret ?_
      exact oO hF [] [] rfl
    · refine awp_false (by kernel_rfl) h4 ?_
      refine awp_skip ?_
      refine awp_region ?_
      refine aR 2 ?_
      refine aE ?_
      exact oO hF [] [] rfl
  · refine awp_false (by kernel_rfl) h1 ?_
    refine awp_exit ?_
    exact oO hF [] [] rfl

def z646 (qs : List api_Sample) (r : Int) : TV × Mem := (.v (.one (.d (.int .i64 r))), ⟨[], [(0, [.d (.lst (List.map api_Sample.enc qs))])]⟩)

theorem z647 {qs : List api_Sample} {r} (hF : z645 qs = some r) : Holds prog 218 [.v (.one (.d (.lst (List.map api_Sample.enc qs)))), .v (.one (.fn 162 [0]))] ⟨[], [(0, [.d (.lst (List.map api_Sample.enc qs))])]⟩ (Is (z646 qs r)) := by
  unfold z645 at hF
  refine holds_of_awp hΓ (fn := f218) (c := cB f218) (A := 1) (nx := 1) (by kernel_rfl) (by kernel_rfl) (by kernel_rfl) (by kernel_rfl) (by kernel_rfl) (by kernel_rfl) (lowc_of (by kernel_rfl)) ?_
  show Awp prog 1 19 (cB f218) _ _
  refine awp_seq ?_
  refine awp_region ?_
  refine aR 1 ?_
  refine aE ?_
  refine awp_seq ?_
  refine awp_seq ?_
  refine awp_region ?_
  refine aR 1 ?_
  refine aL api_Sample.enc qs ?_
  refine aR 1 ?_
  refine aE ?_
  refine awp_block ?_
  refine awp_to (st' := z649 qs 0) (oT [] []) ?_
  refine bE hF fun x h5 hF => ?_
  rcases x with _ | vx1_1
  · refine awp_sub (awp_loop' (z649 qs) z651 (z650 qs) (by intro x; rcases x with x | x <;> exact fun h => nomatch h) h5 (z652 qs)) ?_
    refine awp_seq ?_
    refine awp_region ?_
    refine aR 1 ?_
    refine aE ?_
    refine awp_ret ?_
    exact oF hF [] []
  · refine awp_sub (awp_loop' (z649 qs) z651 (z650 qs) (by intro x; rcases x with x | x <;> exact fun h => nomatch h) h5 (z652 qs)) ?_
    exact oF hF [] []

/-! ### slices.ContainsFunc[[]beaconfleet/api.Sample,beaconfleet/api.Sample] -/
def z568 (qs : List api_Sample) (r : Bool) : TV × Mem := (.v (.one (.d (.bool r))), ⟨[], [(0, [.d (.lst (List.map api_Sample.enc qs))])]⟩)

theorem z569 {qs : List api_Sample} {r} (hF : z567 qs = some r) : Holds prog 161 [.v (.one (.d (.lst (List.map api_Sample.enc qs)))), .v (.one (.fn 162 [0]))] ⟨[], [(0, [.d (.lst (List.map api_Sample.enc qs))])]⟩ (Is (z568 qs r)) := by
  unfold z567 at hF
  refine holds_of_awp hΓ (fn := f161) (c := cB f161) (A := 1) (nx := 1) (by kernel_rfl) (by kernel_rfl) (by kernel_rfl) (by kernel_rfl) (by kernel_rfl) (by kernel_rfl) (lowc_of (by kernel_rfl)) ?_
  show Awp prog 1 9 (cB f161) _ _
  refine awp_seq ?_
  refine awp_region ?_
  refine aR 1 ?_
  refine aE ?_
  refine awp_seq ?_
  refine bE hF fun vr2 h1 hF => ?_
  refine awp_region ?_
  refine aR 2 ?_
  refine aC (z647 h1) [] [] [] ?_
  refine aR 2 ?_
  refine aE ?_
  refine awp_ret ?_
  exact oF hF [] []

/-! ### beaconfleet/series.CheckSeries -/
def z411 (ql : List api_Sample) (r : Int) : TV × Mem := (.v (.one (.d (.int .i64 r))), ⟨[], []⟩)

theorem z412 {ql : List api_Sample} {r} (hF : z402 ql = some r) : Holds prog 96 [.v (.one (.d (.lst (List.map api_Sample.enc ql))))] ⟨[], []⟩ (Is (z411 ql r)) := by
  unfold z402 at hF
  refine holds_of_awp hΓ (fn := f96) (c := cB f96) (A := 0) (nx := 0) (by kernel_rfl) (by kernel_rfl) (by kernel_rfl) (by kernel_rfl) (by kernel_rfl) (by kernel_rfl) (lowc_of (by kernel_rfl)) ?_
  show Awp prog 0 12 (cB f96) _ _
  refine awp_seq ?_
  refine awp_region ?_
  refine aR 2 ?_
  refine aE ?_
  refine awp_seq ?_
  refine awp_seq ?_
  refine bE hF fun vr6 h1 hF => ?_
  refine awp_region ?_
  refine aR 1 ?_
  refine aC (z414 h1) [] [] [] ?_
  refine aR 1 ?_
  refine aE ?_
  refine awp_seq ?_
  refine awp_region ?_
  refine aR 2 ?_
  refine aE ?_
  refine cE hF (fun h2 hF => ?_) fun h2 hF => ?_
  · refine awp_true (by kernel_rfl) h2 ?_
    refine awp_seq ?_
    refine awp_region ?_
    refine aR 2 ?_
    refine aE ?_
    refine awp_ret ?_
    exact oF hF [] []
  · refine awp_false (by kernel_rfl) h2 ?_
    refine awp_skip ?_
    refine awp_seq ?_
    refine awp_seq ?_
    refine bE hF fun vr h3 hF => ?_
    refine awp_region ?_
    refine aR 2 ?_
    refine aC (z569 h3) [] [] [] ?_
    refine aE ?_
    refine cE hF (fun h4 hF => ?_) fun h4 hF => ?_
    · refine awp_true (by kernel_rfl) h4 ?_
      refine awp_seq ?_
      refine awp_region ?_
      refine aR 1 ?_
      refine aE ?_
      refine awp_ret ?_
      exact oF hF [] []
    · refine awp_false (by kernel_rfl) h4 ?_
      refine awp_skip ?_
      refine awp_seq ?_
      refine awp_region ?_
      refine aR 1 ?_
      refine aE ?_
      refine awp_ret ?_
      exact oF hF [] []

/-! ### beaconfleet/series.seven -/
def z463 : ((List Int) × Int) → AEx
  | _ => .exit 0

def z462 : ((List Int) × Int) → St
  | (vb1, vn1) => Mem.st ⟨[(0, ⟨5, 1, List.map (encI .u8) vb1⟩)], []⟩ (tl [(0, .v (.one (.own 0 none))), (1, .v (.one (.d (.int .u64 vn1))))]) 1

def z461 : (List Int) × Int → St
  | (vb, vn) => Mem.st ⟨[(0, ⟨5, 1, List.map (encI .u8) vb⟩)], []⟩ (tl [(0, .v (.one (.own 0 none))), (1, .v (.one (.d (.int .u64 vn))))]) 1

theorem z464 (s : (List Int) × Int) (r : ((List Int) × Int) ⊕ (((List Int) × Int))) (hF : z460  s = some r) : Awp prog 0 21 (cL (cL (cL (cR (cB f165))))) (Out 0 (kk z463) (SS (z461 ) (z462 )) r) (z461  s) := by
  obtain ⟨vb, vn⟩ := s
  unfold z460 at hF
  refine awp_seq ?_
  refine awp_seq ?_
  refine awp_region ?_
  refine aR 2 ?_
  refine aE ?_
  refine cE hF (fun h1 hF => ?_) fun h1 hF => ?_
  · refine awp_true (by kernel_rfl) h1 ?_
    refine awp_skip ?_
    refine awp_block ?_
    refine gE hF fun h2 hF => ?_
    refine awp_region ?_
    refine aR 6 ?_
    refine aX (x_app (encI .u8) 0 h2) ?_
    refine aR 4 ?_
    refine aE ?_
    exact oO hF [(0, 8001)] [] rfl
  · refine awp_false (by kernel_rfl) h1 ?_
    refine awp_exit ?_
    exact oO hF [] [] rfl

def z458 (qn : Int) (r : (List Int)) : TV × Mem := (.v (.one (.own 0 none)), ⟨[(0, ⟨5, 1, List.map (encI .u8) r⟩)], []⟩)

theorem z459 {qn : Int} {r} (hF : z457 qn = some r) : Holds prog 165 [.v (.one (.nil)), .v (.one (.d (.int .u64 qn)))] ⟨[], []⟩ (Is (z458 qn r)) := by
  unfold z457 at hF
  refine holds_of_awp hΓ (fn := f165) (c := cB f165) (A := 0) (nx := 0) (by kernel_rfl) (by kernel_rfl) (by kernel_rfl) (by kernel_rfl) (by kernel_rfl) (by kernel_rfl) (lowc_of (by kernel_rfl)) ?_
  show Awp prog 0 21 (cB f165) _ _
  refine awp_seq ?_
  refine awp_region ?_
  refine aR 1 ?_
  refine aE ?_
  refine awp_seq ?_
  refine awp_block ?_
  refine awp_to (st' := z461  ([], qn)) (oT [] [0]) ?_
  refine bE hF fun x h3 hF => ?_
  obtain ⟨vb1_1, vn1_1⟩ := x
  refine awp_sub (awp_loop' (z461 ) z463 (z462 ) (by intro x; exact fun h => nomatch h) h3 (z464 )) ?_
  refine awp_seq ?_
  refine gE hF fun h4 hF => ?_
  refine awp_region ?_
  refine aR 4 ?_
  refine aX (x_app (encI .u8) 0 h4) ?_
  refine aR 1 ?_
  refine aE ?_
  refine awp_ret ?_
  exact oF hF [(0, 4001)] []

/-! ### beaconfleet/series.doubled -/
def z442 (qn : Int) (r : Int) : TV × Mem := (.v (.one (.d (.int .u64 r))), ⟨[], []⟩)

theorem z443 {qn : Int} {r} (hF : z441 qn = some r) : Holds prog 166 [.v (.one (.d (.int .i64 qn)))] ⟨[], []⟩ (Is (z442 qn r)) := by
  unfold z441 at hF
  refine holds_of_awp hΓ (fn := f166) (c := cB f166) (A := 0) (nx := 0) (by kernel_rfl) (by kernel_rfl) (by kernel_rfl) (by kernel_rfl) (by kernel_rfl) (by kernel_rfl) (lowc_of (by kernel_rfl)) ?_
  show Awp prog 0 12 (cB f166) _ _
  refine awp_seq ?_
  refine awp_region ?_
  refine aR 1 ?_
  refine aE ?_
  refine awp_seq ?_
  refine awp_seq ?_
  refine awp_region ?_
  refine aR 2 ?_
  refine aE ?_
  refine cE hF (fun h1 hF => ?_) fun h1 hF => ?_
  · refine awp_true (by kernel_rfl) h1 ?_
    refine awp_seq ?_
    refine awp_region ?_
    refine aR 5 ?_
    refine aE ?_
    refine awp_ret ?_
    exact oF hF [] []
  · refine awp_false (by kernel_rfl) h1 ?_
    refine awp_skip ?_
    refine awp_seq ?_
    refine awp_region ?_
    refine aR 4 ?_
    refine aE ?_
    refine awp_ret ?_
    exact oF hF [] []

/-! ### beaconfleet/series.seven -/
def z471 : ((List Int) × Int) → AEx
  | _ => .exit 0

def z470 : ((List Int) × Int) → St
  | (vb1, vn1) => Mem.st ⟨[(1, ⟨5, 1, List.map (encI .u8) vb1⟩)], []⟩ (tl [(0, .v (.one (.own 1 none))), (1, .v (.one (.d (.int .u64 vn1))))]) 2

def z469 : (List Int) × Int → St
  | (vb, vn) => Mem.st ⟨[(1, ⟨5, 1, List.map (encI .u8) vb⟩)], []⟩ (tl [(0, .v (.one (.own 1 none))), (1, .v (.one (.d (.int .u64 vn))))]) 2

theorem z472 (s : (List Int) × Int) (r : ((List Int) × Int) ⊕ (((List Int) × Int))) (hF : z468  s = some r) : Awp prog 1 21 (cL (cL (cL (cR (cB f165))))) (Out 1 (kk z471) (SS (z469 ) (z470 )) r) (z469  s) := by
  obtain ⟨vb, vn⟩ := s
  unfold z468 at hF
  refine awp_seq ?_
  refine awp_seq ?_
  refine awp_region ?_
  refine aR 2 ?_
  refine aE ?_
  refine cE hF (fun h1 hF => ?_) fun h1 hF => ?_
  · refine awp_true (by kernel_rfl) h1 ?_
    refine awp_skip ?_
    refine awp_block ?_
    refine gE hF fun h2 hF => ?_
    refine awp_region ?_
    refine aR 6 ?_
    refine aX (x_app (encI .u8) 1 h2) ?_
    refine aR 4 ?_
    refine aE ?_
    exact oO hF [(1, 8002)] [] rfl
  · refine awp_false (by kernel_rfl) h1 ?_
    refine awp_exit ?_
    exact oO hF [] [] rfl

def z466 (qb : List Int) (qn : Int) (r : (List Int)) : TV × Mem := (.v (.one (.own 1 none)), ⟨[(1, ⟨5, 1, List.map (encI .u8) r⟩)], []⟩)

theorem z467 {qb : List Int} {qn : Int} {r} (hF : z465 qb qn = some r) : Holds prog 165 [.v (.one (.own 0 none)), .v (.one (.d (.int .u64 qn)))] ⟨[(0, ⟨5, 1, List.map (encI .u8) qb⟩)], []⟩ (Is (z466 qb qn r)) := by
  unfold z465 at hF
  refine holds_of_awp hΓ (fn := f165) (c := cB f165) (A := 1) (nx := 1) (by kernel_rfl) (by kernel_rfl) (by kernel_rfl) (by kernel_rfl) (by kernel_rfl) (by kernel_rfl) (lowc_of (by kernel_rfl)) ?_
  show Awp prog 1 21 (cB f165) _ _
  refine awp_seq ?_
  refine awp_region ?_
  refine aR 1 ?_
  refine aE ?_
  refine awp_seq ?_
  refine awp_block ?_
  refine awp_to (st' := z469  (qb, qn)) (oT [(1, 0)] []) ?_
  refine bE hF fun x h3 hF => ?_
  obtain ⟨vb1_1, vn1_1⟩ := x
  refine awp_sub (awp_loop' (z469 ) z471 (z470 ) (by intro x; exact fun h => nomatch h) h3 (z472 )) ?_
  refine awp_seq ?_
  refine gE hF fun h4 hF => ?_
  refine awp_region ?_
  refine aR 4 ?_
  refine aX (x_app (encI .u8) 1 h4) ?_
  refine aR 1 ?_
  refine aE ?_
  refine awp_ret ?_
  exact oF hF [(1, 4002)] []

/-! ### beaconfleet/series.pack -/
def z455 : Int → AEx
  | _ => .normal

def z454 (ql : List api_Sample) (vat : Int) (vby : Int) (vx : Int) (vy1 : api_Sample) (vr8 : List Int) : Int → St
  | vby2 => Mem.st ⟨[(1, ⟨5, 1, List.map (encI .u8) vr8⟩)], [(0, [.d (.str vy1.Device), .d (.str vy1.Metric), .d (.int .i64 vy1.At), .d (.int .i64 vy1.Value)])]⟩ (tl [(3, .v (.one (.own 1 none))), (5, .v (.one (.d (.int .i64 vby2)))), (8, .v (.one (.box 0 0))), (14, .v (.one (.d (.lst (List.map api_Sample.enc ql))))), (15, .v (.one (.d (.int .i64 (ql.length : Int))))), (16, .v (.one (.d (.int .i64 vx))))]) 2

def z453 (ql : List api_Sample) (vat : Int) (vby : Int) (vx : Int) (vy1 : api_Sample) (vr8 : List Int) : St := Mem.st ⟨[(1, ⟨5, 1, List.map (encI .u8) vr8⟩)], [(0, [.d (.str vy1.Device), .d (.str vy1.Metric), .d (.int .i64 vy1.At), .d (.int .i64 vy1.Value)])]⟩ (tl [(3, .v (.one (.own 1 none))), (5, .v (.one (.d (.int .i64 vby)))), (7, .v (.one (.d (.int .i64 vx)))), (8, .v (.one (.box 0 0))), (9, .v (.one (.d (.int .i64 (IntKind.wrap .i64 (vy1.At - vat)))))), (14, .v (.one (.d (.lst (List.map api_Sample.enc ql))))), (15, .v (.one (.d (.int .i64 (ql.length : Int))))), (16, .v (.one (.d (.int .i64 vx))))]) 2

theorem z456 (ql : List api_Sample) (vat : Int) (vby : Int) (vx : Int) (vy1 : api_Sample) (vr8 : List Int) {r} (hF : z452 vat vby vx vy1 = some r) : Awp prog 0 47 (cL (cR (cR (cR (cR (cL (cL (cR (cR (cL (cL (cR (cL (cR (cR (cR (cB f111))))))))))))))))) (Out 0 z455 (z454 ql vat vby vx vy1 vr8) r) (z453 ql vat vby vx vy1 vr8) := by
  unfold z452 at hF
  refine awp_seq ?_
  refine awp_region ?_
  refine aR 2 ?_
  refine aE ?_
  refine cE hF (fun h8 hF => ?_) fun h8 hF => ?_
  · refine awp_true (by kernel_rfl) h8 ?_
    refine awp_region ?_
    refine aR 2 ?_
    refine aE ?_
    exact oO hF [] [] rfl
  · refine awp_false (by kernel_rfl) h8 ?_
    refine awp_skip ?_
    exact oO hF [] [] rfl

def z450 : (List Int) → AEx
  | _ => .exit 0

def z449 (ql : List api_Sample) : (List Int) → St
  | vout1 => Mem.st ⟨[(0, ⟨5, 1, List.map (encI .u8) vout1⟩)], []⟩ (tl [(3, .v (.one (.own 0 none)))]) 1

def z448 (ql : List api_Sample) : (List Int) × Int × Int × Int × Int → St
  | (vout, vat, vby, vvalue, vx) => Mem.st ⟨[(0, ⟨5, 1, List.map (encI .u8) vout⟩)], []⟩ (tl [(3, .v (.one (.own 0 none))), (4, .v (.one (.d (.int .i64 vat)))), (5, .v (.one (.d (.int .i64 vby)))), (6, .v (.one (.d (.int .i64 vvalue)))), (14, .v (.one (.d (.lst (List.map api_Sample.enc ql))))), (15, .v (.one (.d (.int .i64 (ql.length : Int))))), (16, .v (.one (.d (.int .i64 vx))))]) 1

theorem z451 (ql : List api_Sample) (s : (List Int) × Int × Int × Int × Int) (r : ((List Int) × Int × Int × Int × Int) ⊕ ((List Int))) (hF : z447 ql s = some r) : Awp prog 0 47 (cL (cL (cR (cL (cR (cR (cR (cB f111)))))))) (Out 0 (kk z450) (SS (z448 ql) (z449 ql)) r) (z448 ql s) := by
  obtain ⟨vout, vat, vby, vvalue, vx⟩ := s
  unfold z447 at hF
  refine awp_seq ?_
  refine awp_region ?_
  refine aR 1 ?_
  refine aE ?_
  refine awp_seq ?_
  refine cE hF (fun h2 hF => ?_) fun h2 hF => ?_
  · refine awp_true (by kernel_rfl) h2 ?_
    refine awp_skip ?_
    refine awp_seq ?_
    refine awp_block ?_
    refine awp_seq ?_
    refine bE hF fun vy1 h3 hF => ?_
    refine awp_region ?_
    refine aR 1 ?_
    refine aX (x_idx api_Sample.enc h3) ?_
    refine aR 4 ?_
    refine aE ?_
    refine awp_seq ?_
    refine awp_region ?_
    refine aR 5 ?_
    refine aE ?_
    refine awp_seq ?_
    refine bE hF fun vr5 h4 hF => ?_
    refine bE hF fun vr6 h5 hF => ?_
    refine awp_region ?_
    refine aR 4 ?_
    refine aC (z443 h4) [] [] [] ?_
    refine aC (z467 h5) [] [] [] ?_
    refine aR 1 ?_
    refine aE ?_
    refine awp_seq ?_
    refine bE hF fun vr7 h6 hF => ?_
    refine bE hF fun vr8 h7 hF => ?_
    refine awp_region ?_
    refine aR 5 ?_
    refine aC (z443 h6) [] [] [] ?_
    refine aC (z467 h7) [(0, 17002)] [] [] ?_
    refine aR 1 ?_
    refine aE ?_
    refine awp_seq ?_
    refine awp_to (st' := z453 ql vat vby vx vy1 vr8) (oT [(0, 4001), (1, 25002)] []) ?_
    refine bE hF fun vby2_1 h9 hF => ?_
    refine awp_sub (z456 ql vat vby vx vy1 vr8 h9) ?_
    refine aD ?_
    refine dR 6 ?_
    refine dE ?_
    refine awp_region ?_
    refine aR 2 ?_
    refine aE ?_
    exact oO hF [(0, 1)] [] rfl
  · refine awp_false (by kernel_rfl) h2 ?_
    refine awp_exit ?_
    exact oO hF [] [] rfl

def z445 (ql : List api_Sample) (r : (List Int)) : TV × Mem := (.v (.one (.own 0 none)), ⟨[(0, ⟨5, 1, List.map (encI .u8) r⟩)], []⟩)

theorem z446 {ql : List api_Sample} {r} (hF : z444 ql = some r) : Holds prog 111 [.v (.one (.d (.lst (List.map api_Sample.enc ql))))] ⟨[], []⟩ (Is (z445 ql r)) := by
  unfold z444 at hF
  refine holds_of_awp hΓ (fn := f111) (c := cB f111) (A := 0) (nx := 0) (by kernel_rfl) (by kernel_rfl) (by kernel_rfl) (by kernel_rfl) (by kernel_rfl) (by kernel_rfl) (lowc_of (by kernel_rfl)) ?_
  show Awp prog 0 47 (cB f111) _ _
  refine awp_seq ?_
  refine awp_region ?_
  refine aR 1 ?_
  refine aE ?_
  refine awp_seq ?_
  refine bE hF fun vr h1 hF => ?_
  refine awp_region ?_
  refine aR 1 ?_
  refine aL api_Sample.enc ql ?_
  refine aR 1 ?_
  refine aC (z459 h1) [] [] [] ?_
  refine aR 1 ?_
  refine aE ?_
  refine awp_seq ?_
  refine awp_region ?_
  refine aR 3 ?_
  refine aE ?_
  refine awp_seq ?_
  refine awp_seq ?_
  refine awp_region ?_
  refine aR 1 ?_
  refine aL api_Sample.enc ql ?_
  refine aR 1 ?_
  refine aE ?_
  refine awp_block ?_
  refine awp_to (st' := z448 ql (vr, 0, 0, 0, 0)) (oT [(0, 4000)] []) ?_
  refine bE hF fun vout1_1 h10 hF => ?_
  refine awp_sub (awp_loop' (z448 ql) z450 (z449 ql) (by intro x; exact fun h => nomatch h) h10 (z451 ql)) ?_
  refine awp_seq ?_
  refine awp_region ?_
  refine aR 2 ?_
  refine aE ?_
  refine awp_ret ?_
  exact oF hF [] []

/-! ### beaconfleet/series.Pack -/
def z436 (ql : List api_Sample) (r : (List Int) × Int) : TV × Mem := (.tup [.one (.own 1 none), .one (.d (.int .i64 r.2))], ⟨[(1, ⟨5, 1, List.map (encI .u8) r.1⟩)], []⟩)

theorem z437 {ql : List api_Sample} {r} (hF : z435 ql = some r) : Holds prog 67 [.v (.one (.own 0 none))] ⟨[(0, ⟨76, 4, List.map api_Sample.enc ql⟩)], []⟩ (Is (z436 ql r)) := by
  unfold z435 at hF
  refine holds_of_awp hΓ (fn := f67) (c := cB f67) (A := 1) (nx := 1) (by kernel_rfl) (by kernel_rfl) (by kernel_rfl) (by kernel_rfl) (by kernel_rfl) (by kernel_rfl) (lowc_of (by kernel_rfl)) ?_
  show Awp prog 1 12 (cB f67) _ _
  refine awp_seq ?_
  refine awp_region ?_
  refine aR 2 ?_
  refine aE ?_
  refine awp_to (oT (m := ⟨[], []⟩) (ts := [(0, .v (.one (.d (.lst (List.map api_Sample.enc ql)))))]) (nx := 1) [] []) ?_
  refine awp_seq ?_
  refine awp_seq ?_
  refine bE hF fun vr1 h1 hF => ?_
  refine awp_region ?_
  refine aR 1 ?_
  refine aC (z412 h1) [] [] [] ?_
  refine aR 1 ?_
  refine aE ?_
  refine awp_seq ?_
  refine awp_region ?_
  refine aR 2 ?_
  refine aE ?_
  refine cE hF (fun h2 hF => ?_) fun h2 hF => ?_
  · refine awp_true (by kernel_rfl) h2 ?_
    refine awp_seq ?_
    refine awp_region ?_
    refine aR 3 ?_
    refine aE ?_
    refine awp_ret ?_
    exact oF hF [] [1]
  · refine awp_false (by kernel_rfl) h2 ?_
    refine awp_skip ?_
    refine awp_seq ?_
    refine bE hF fun vr9 h3 hF => ?_
    refine awp_region ?_
    refine aR 1 ?_
    refine aC (z446 h3) [] [] [] ?_
    refine aR 2 ?_
    refine aE ?_
    refine awp_ret ?_
    exact oF hF [(1, 6001)] []

/-! ### internal/stringslite.TrimPrefix -/
def z1101 (qs : List UInt8) (qprefix : List UInt8) (r : (List UInt8)) : TV × Mem := (.v (.one (.d (.str r))), ⟨[], []⟩)

theorem z1102 {qs : List UInt8} {qprefix : List UInt8} {r} (hF : z1100 qs qprefix = some r) : Holds prog 290 [.v (.one (.d (.str qs))), .v (.one (.d (.str qprefix)))] ⟨[], []⟩ (Is (z1101 qs qprefix r)) := by
  unfold z1100 at hF
  refine holds_of_awp hΓ (fn := f290) (c := cB f290) (A := 0) (nx := 0) (by kernel_rfl) (by kernel_rfl) (by kernel_rfl) (by kernel_rfl) (by kernel_rfl) (by kernel_rfl) (lowc_of (by kernel_rfl)) ?_
  show Awp prog 0 13 (cB f290) _ _
  refine awp_seq ?_
  refine awp_region ?_
  refine aR 1 ?_
  refine aE ?_
  refine awp_seq ?_
  refine awp_seq ?_
  refine bE hF fun vr h1 hF => ?_
  refine awp_region ?_
  refine aR 2 ?_
  refine aC (z1083 h1) [] [] [] ?_
  refine aE ?_
  refine cE hF (fun h2 hF => ?_) fun h2 hF => ?_
  · refine awp_true (by kernel_rfl) h2 ?_
    refine awp_seq ?_
    refine bE hF fun vs h3 hF => ?_
    refine awp_region ?_
    refine aR 3 ?_
    refine aX (x_sliceS h3) ?_
    refine aR 1 ?_
    refine aE ?_
    refine awp_ret ?_
    exact oF hF [] []
  · refine awp_false (by kernel_rfl) h2 ?_
    refine awp_skip ?_
    refine awp_seq ?_
    refine awp_region ?_
    refine aR 2 ?_
    refine aE ?_
    refine awp_ret ?_
    exact oF hF [] []

/-! ### strings.TrimPrefix -/
def z1032 (qs : List UInt8) (qprefix : List UInt8) (r : (List UInt8)) : TV × Mem := (.v (.one (.d (.str r))), ⟨[], []⟩)

theorem z1033 {qs : List UInt8} {qprefix : List UInt8} {r} (hF : z1031 qs qprefix = some r) : Holds prog 251 [.v (.one (.d (.str qs))), .v (.one (.d (.str qprefix)))] ⟨[], []⟩ (Is (z1032 qs qprefix r)) := by
  unfold z1031 at hF
  refine holds_of_awp hΓ (fn := f251) (c := cB f251) (A := 0) (nx := 0) (by kernel_rfl) (by kernel_rfl) (by kernel_rfl) (by kernel_rfl) (by kernel_rfl) (by kernel_rfl) (lowc_of (by kernel_rfl)) ?_
  show Awp prog 0 8 (cB f251) _ _
  refine awp_seq ?_
  refine awp_region ?_
  refine aR 1 ?_
  refine aE ?_
  refine awp_seq ?_
  refine bE hF fun vr1 h1 hF => ?_
  refine awp_region ?_
  refine aR 2 ?_
  refine aC (z1102 h1) [] [] [] ?_
  refine aR 1 ?_
  refine aE ?_
  refine awp_ret ?_
  exact oF hF [] []

/-! ### internal/strconv.lower -/
def z959 (qc : Int) (r : Unit) : TV × Mem := (.v (.one (.d (.int .u8 (ibits .or .u8 qc 32)))), ⟨[], []⟩)

theorem z960 {qc : Int} {r} (hF : z958 qc = some r) : Holds prog 327 [.v (.one (.d (.int .u8 qc)))] ⟨[], []⟩ (Is (z959 qc r)) := by
  unfold z958 at hF
  refine holds_of_awp hΓ (fn := f327) (c := cB f327) (A := 0) (nx := 0) (by kernel_rfl) (by kernel_rfl) (by kernel_rfl) (by kernel_rfl) (by kernel_rfl) (by kernel_rfl) (lowc_of (by kernel_rfl)) ?_
  show Awp prog 0 5 (cB f327) _ _
  refine awp_seq ?_
  refine awp_region ?_
  refine aR 1 ?_
  refine aE ?_
  refine awp_seq ?_
  refine awp_region ?_
  refine aR 3 ?_
  refine aE ?_
  refine awp_ret ?_
  exact oF hF [] []

end Go.Eng
