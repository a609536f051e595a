/-
The code of the Go functions that the law TwinsComeToRest reaches does what the plain functions say, part 2.
-/
import Derived.Test.YtpibhcioeojcdaaGreatDoorGenP1

namespace Go.Eng

open Go Go.Proofs.Tryz

set_option linter.unusedVariables false

set_option maxRecDepth 20000

set_option maxHeartbeats 0

/-! ### beaconfleet/series.pack -/
def series_pack_x2_k : Int → AEx
  | _ => .normal

def series_pack_x2_S (ql : List api_Sample) (vat : Int) (vby : Int) (vx : Int) (vy1 : api_Sample) (vr8 : List Int) : Int → St
  | vby2 => Mem.st ⟨[(1, ⟨5, 1, List.map (encI .u8) vr8⟩)], [(0, [.d (.str vy1.Device), .d (.str vy1.Metric), .d (.int .i64 vy1.At), .d (.int .i64 vy1.Value)])]⟩ (tl [(3, .v (.one (.own 1 none))), (5, .v (.one (.d (.int .i64 vby2)))), (8, .v (.one (.box 0 0))), (14, .v (.one (.d (.lst (List.map api_Sample.enc ql))))), (15, .v (.one (.d (.int .i64 (ql.length : Int))))), (16, .v (.one (.d (.int .i64 vx))))]) 2

def series_pack_x2_I (ql : List api_Sample) (vat : Int) (vby : Int) (vx : Int) (vy1 : api_Sample) (vr8 : List Int) : St := Mem.st ⟨[(1, ⟨5, 1, List.map (encI .u8) vr8⟩)], [(0, [.d (.str vy1.Device), .d (.str vy1.Metric), .d (.int .i64 vy1.At), .d (.int .i64 vy1.Value)])]⟩ (tl [(3, .v (.one (.own 1 none))), (5, .v (.one (.d (.int .i64 vby)))), (7, .v (.one (.d (.int .i64 vx)))), (8, .v (.one (.box 0 0))), (9, .v (.one (.d (.int .i64 (IntKind.wrap .i64 (vy1.At - vat)))))), (14, .v (.one (.d (.lst (List.map api_Sample.enc ql))))), (15, .v (.one (.d (.int .i64 (ql.length : Int))))), (16, .v (.one (.d (.int .i64 vx))))]) 2

theorem series_pack_x2_ok (ql : List api_Sample) (vat : Int) (vby : Int) (vx : Int) (vy1 : api_Sample) (vr8 : List Int) {r} (hF : series_pack_x2 vat vby vx vy1 = some r) : Awp prog 0 47 (cL (cR (cR (cR (cR (cL (cL (cR (cR (cL (cL (cR (cL (cR (cR (cR (cB f185))))))))))))))))) (Out 0 series_pack_x2_k (series_pack_x2_S ql vat vby vx vy1 vr8) r) (series_pack_x2_I ql vat vby vx vy1 vr8) := by
  unfold series_pack_x2 at hF
  refine awp_seq ?_
  refine awp_region ?_
  refine aR 2 ?_
  refine aE ?_
  refine cE hF (fun h8 hF => ?_) fun h8 hF => ?_
  · refine awp_true (by kernel_rfl) h8 ?_
    refine awp_region ?_
    refine aR 2 ?_
    refine aE ?_
    exact oO hF [] [] rfl
  · refine awp_false (by kernel_rfl) h8 ?_
    refine awp_skip ?_
    exact oO hF [] [] rfl

def series_pack_x1_k : (List Int) → AEx
  | _ => .exit 0

def series_pack_x1_S (ql : List api_Sample) : (List Int) → St
  | vout1 => Mem.st ⟨[(0, ⟨5, 1, List.map (encI .u8) vout1⟩)], []⟩ (tl [(3, .v (.one (.own 0 none)))]) 1

def series_pack_x1_H (ql : List api_Sample) : (List Int) × Int × Int × Int × Int → St
  | (vout, vat, vby, vvalue, vx) => Mem.st ⟨[(0, ⟨5, 1, List.map (encI .u8) vout⟩)], []⟩ (tl [(3, .v (.one (.own 0 none))), (4, .v (.one (.d (.int .i64 vat)))), (5, .v (.one (.d (.int .i64 vby)))), (6, .v (.one (.d (.int .i64 vvalue)))), (14, .v (.one (.d (.lst (List.map api_Sample.enc ql))))), (15, .v (.one (.d (.int .i64 (ql.length : Int))))), (16, .v (.one (.d (.int .i64 vx))))]) 1

theorem series_pack_x1_ok (ql : List api_Sample) (s : (List Int) × Int × Int × Int × Int) (r : ((List Int) × Int × Int × Int × Int) ⊕ ((List Int))) (hF : series_pack_x1 ql s = some r) : Awp prog 0 47 (cL (cL (cR (cL (cR (cR (cR (cB f185)))))))) (Out 0 (kk series_pack_x1_k) (SS (series_pack_x1_H ql) (series_pack_x1_S ql)) r) (series_pack_x1_H ql s) := by
  obtain ⟨vout, vat, vby, vvalue, vx⟩ := s
  unfold series_pack_x1 at hF
  refine awp_seq ?_
  refine awp_region ?_
  refine aR 1 ?_
  refine aE ?_
  refine awp_seq ?_
  refine cE hF (fun h2 hF => ?_) fun h2 hF => ?_
  · refine awp_true (by kernel_rfl) h2 ?_
    refine awp_skip ?_
    refine awp_seq ?_
    refine awp_block ?_
    refine awp_seq ?_
    refine bE hF fun vy1 h3 hF => ?_
    refine awp_region ?_
    refine aR 1 ?_
    refine aX (x_idx api_Sample.enc h3) ?_
    refine aR 4 ?_
    refine aE ?_
    refine awp_seq ?_
    refine awp_region ?_
    refine aR 5 ?_
    refine aE ?_
    refine awp_seq ?_
    refine bE hF fun vr5 h4 hF => ?_
    refine bE hF fun vr6 h5 hF => ?_
    refine awp_region ?_
    refine aR 4 ?_
    refine aC (series_doubled_ok h4) [] [] [] ?_
    refine aC (series_seven_o0_ok h5) [] [] [] ?_
    refine aR 1 ?_
    refine aE ?_
    refine awp_seq ?_
    refine bE hF fun vr7 h6 hF => ?_
    refine bE hF fun vr8 h7 hF => ?_
    refine awp_region ?_
    refine aR 5 ?_
    refine aC (series_doubled_ok h6) [] [] [] ?_
    refine aC (series_seven_o0_ok h7) [(0, 17002)] [] [] ?_
    refine aR 1 ?_
    refine aE ?_
    refine awp_seq ?_
    refine awp_to (st' := series_pack_x2_I ql vat vby vx vy1 vr8) (oT [(0, 4001), (1, 25002)] []) ?_
    refine bE hF fun vby2_1 h9 hF => ?_
    refine awp_sub (series_pack_x2_ok ql vat vby vx vy1 vr8 h9) ?_
    refine aD ?_
    refine dR 6 ?_
    refine dE ?_
    refine awp_region ?_
    refine aR 2 ?_
    refine aE ?_
    exact oO hF [(0, 1)] [] rfl
  · refine awp_false (by kernel_rfl) h2 ?_
    refine awp_exit ?_
    exact oO hF [] [] rfl

def series_pack_R (ql : List api_Sample) (r : (List Int)) : TV × Mem := (.v (.one (.own 0 none)), ⟨[(0, ⟨5, 1, List.map (encI .u8) r⟩)], []⟩)

theorem series_pack_ok {ql : List api_Sample} {r} (hF : series_pack ql = some r) : Holds prog 185 [.v (.one (.d (.lst (List.map api_Sample.enc ql))))] ⟨[], []⟩ (Is (series_pack_R ql r)) := by
  unfold series_pack at hF
  refine holds_of_awp hΓ (fn := f185) (c := cB f185) (A := 0) (nx := 0) (by kernel_rfl) (by kernel_rfl) (by kernel_rfl) (by kernel_rfl) (by kernel_rfl) (by kernel_rfl) (lowc_of (by kernel_rfl)) ?_
  show Awp prog 0 47 (cB f185) _ _
  refine awp_seq ?_
  refine awp_region ?_
  refine aR 1 ?_
  refine aE ?_
  refine awp_seq ?_
  refine bE hF fun vr h1 hF => ?_
  refine awp_region ?_
  refine aR 1 ?_
  refine aL api_Sample.enc ql ?_
  refine aR 1 ?_
  refine aC (series_seven_n0_ok h1) [] [] [] ?_
  refine aR 1 ?_
  refine aE ?_
  refine awp_seq ?_
  refine awp_region ?_
  refine aR 3 ?_
  refine aE ?_
  refine awp_seq ?_
  refine awp_seq ?_
  refine awp_region ?_
  refine aR 1 ?_
  refine aL api_Sample.enc ql ?_
  refine aR 1 ?_
  refine aE ?_
  refine awp_block ?_
  refine awp_to (st' := series_pack_x1_H ql (vr, 0, 0, 0, 0)) (oT [(0, 4000)] []) ?_
  refine bE hF fun vout1_1 h10 hF => ?_
  refine awp_sub (awp_loop' (series_pack_x1_H ql) series_pack_x1_k (series_pack_x1_S ql) (by intro x; exact fun h => nomatch h) h10 (series_pack_x1_ok ql)) ?_
  refine awp_seq ?_
  refine awp_region ?_
  refine aR 2 ?_
  refine aE ?_
  refine awp_ret ?_
  exact oF hF [] []

/-! ### beaconfleet/series.Pack -/
def series_Pack_o0_R (ql : List api_Sample) (r : (List Int) × Int) : TV × Mem := (.tup [.one (.own 1 none), .one (.d (.int .i64 r.2))], ⟨[(1, ⟨5, 1, List.map (encI .u8) r.1⟩)], []⟩)

theorem series_Pack_o0_ok {ql : List api_Sample} {r} (hF : series_Pack_o0 ql = some r) : Holds prog 142 [.v (.one (.own 0 none))] ⟨[(0, ⟨157, 4, List.map api_Sample.enc ql⟩)], []⟩ (Is (series_Pack_o0_R ql r)) := by
  unfold series_Pack_o0 at hF
  refine holds_of_awp hΓ (fn := f142) (c := cB f142) (A := 1) (nx := 1) (by kernel_rfl) (by kernel_rfl) (by kernel_rfl) (by kernel_rfl) (by kernel_rfl) (by kernel_rfl) (lowc_of (by kernel_rfl)) ?_
  show Awp prog 1 12 (cB f142) _ _
  refine awp_seq ?_
  refine awp_region ?_
  refine aR 2 ?_
  refine aE ?_
  refine awp_to (oT (m := ⟨[], []⟩) (ts := [(0, .v (.one (.d (.lst (List.map api_Sample.enc ql)))))]) (nx := 1) [] []) ?_
  refine awp_seq ?_
  refine awp_seq ?_
  refine bE hF fun vr1 h1 hF => ?_
  refine awp_region ?_
  refine aR 1 ?_
  refine aC (series_CheckSeries_ok h1) [] [] [] ?_
  refine aR 1 ?_
  refine aE ?_
  refine awp_seq ?_
  refine awp_region ?_
  refine aR 2 ?_
  refine aE ?_
  refine cE hF (fun h2 hF => ?_) fun h2 hF => ?_
  · refine awp_true (by kernel_rfl) h2 ?_
    refine awp_seq ?_
    refine awp_region ?_
    refine aR 3 ?_
    refine aE ?_
    refine awp_ret ?_
    exact oF hF [] [1]
  · refine awp_false (by kernel_rfl) h2 ?_
    refine awp_skip ?_
    refine awp_seq ?_
    refine bE hF fun vr9 h3 hF => ?_
    refine awp_region ?_
    refine aR 1 ?_
    refine aC (series_pack_ok h3) [] [] [] ?_
    refine aR 2 ?_
    refine aE ?_
    refine awp_ret ?_
    exact oF hF [(1, 6001)] []

/-! ### strings.Index -/
def strings_Index_R (qs : List UInt8) (qsubstr : List UInt8) (r : Int) : TV × Mem := (.v (.one (.d (.int .i64 r))), ⟨[], []⟩)

theorem strings_Index_ok {qs : List UInt8} {qsubstr : List UInt8} {r} (hF : strings_Index qs qsubstr = some r) : Holds prog 218 [.v (.one (.d (.str qs))), .v (.one (.d (.str qsubstr)))] ⟨[], []⟩ (Is (strings_Index_R qs qsubstr r)) := by
  unfold strings_Index at hF
  refine holds_of_awp hΓ (fn := f218) (c := cB f218) (A := 0) (nx := 0) (by kernel_rfl) (by kernel_rfl) (by kernel_rfl) (by kernel_rfl) (by kernel_rfl) (by kernel_rfl) (lowc_of (by kernel_rfl)) ?_
  show Awp prog 0 8 (cB f218) _ _
  refine awp_seq ?_
  refine awp_region ?_
  refine aR 1 ?_
  refine aE ?_
  refine awp_seq ?_
  refine bE hF fun vr h1 hF => ?_
  refine awp_region ?_
  refine aR 2 ?_
  refine aC (stringslite_Index_ok h1) [] [] [] ?_
  refine aR 1 ?_
  refine aE ?_
  refine awp_ret ?_
  exact oF hF [] []

/-! ### strings.Count -/
def strings_Count_x1_k : Int → AEx
  | _ => .ret

def strings_Count_x1_S (qsubstr : List UInt8) : Int → St
  | vx => Mem.st ⟨[], []⟩ (tl [(4, .v (.one (.d (.int .i64 vx))))]) 0

def strings_Count_x1_H (qsubstr : List UInt8) : (List UInt8) × Int → St
  | (vs, vn) => Mem.st ⟨[], []⟩ (tl [(0, .v (.one (.d (.str vs)))), (1, .v (.one (.d (.str qsubstr)))), (5, .v (.one (.d (.int .i64 vn))))]) 0

theorem strings_Count_x1_ok (qsubstr : List UInt8) (s : (List UInt8) × Int) (r : ((List UInt8) × Int) ⊕ (Int)) (hF : strings_Count_x1 qsubstr s = some r) : Awp prog 0 34 (cL (cL (cR (cR (cR (cR (cB f217))))))) (Out 0 (kk strings_Count_x1_k) (SS (strings_Count_x1_H qsubstr) (strings_Count_x1_S qsubstr)) r) (strings_Count_x1_H qsubstr s) := by
  obtain ⟨vs, vn⟩ := s
  unfold strings_Count_x1 at hF
  refine awp_block ?_
  refine awp_seq ?_
  refine bE hF fun vr1_1 h4 hF => ?_
  refine awp_region ?_
  refine aR 2 ?_
  refine aC (strings_Index_ok h4) [] [] [] ?_
  refine aR 1 ?_
  refine aE ?_
  refine awp_seq ?_
  refine awp_seq ?_
  refine awp_region ?_
  refine aR 2 ?_
  refine aE ?_
  refine cE hF (fun h5 hF => ?_) fun h5 hF => ?_
  · refine awp_true (by kernel_rfl) h5 ?_
    refine awp_seq ?_
    refine awp_region ?_
    refine aR 2 ?_
    refine aE ?_
    refine awp_ret ?_
    exact oO hF [] [] rfl
  · refine awp_false (by kernel_rfl) h5 ?_
    refine awp_skip ?_
    refine awp_seq ?_
    refine awp_region ?_
    refine aR 3 ?_
    refine aE ?_
    refine bE hF fun vs2 h6 hF => ?_
    refine awp_region ?_
    refine aR 5 ?_
    refine aX (x_sliceS h6) ?_
    refine aR 1 ?_
    refine aE ?_
    exact oO hF [] [] rfl

def strings_Count_R (qs : List UInt8) (qsubstr : List UInt8) (r : Int) : TV × Mem := (.v (.one (.d (.int .i64 r))), ⟨[], []⟩)

theorem strings_Count_ok {qs : List UInt8} {qsubstr : List UInt8} {r} (hF : strings_Count qs qsubstr = some r) : Holds prog 217 [.v (.one (.d (.str qs))), .v (.one (.d (.str qsubstr)))] ⟨[], []⟩ (Is (strings_Count_R qs qsubstr r)) := by
  unfold strings_Count at hF
  refine holds_of_awp hΓ (fn := f217) (c := cB f217) (A := 0) (nx := 0) (by kernel_rfl) (by kernel_rfl) (by kernel_rfl) (by kernel_rfl) (by kernel_rfl) (by kernel_rfl) (lowc_of (by kernel_rfl)) ?_
  show Awp prog 0 34 (cB f217) _ _
  refine awp_seq ?_
  refine awp_region ?_
  refine aR 1 ?_
  refine aE ?_
  refine awp_seq ?_
  refine awp_seq ?_
  refine awp_region ?_
  refine aR 3 ?_
  refine aE ?_
  refine cE hF (fun h1 hF => ?_) fun h1 hF => ?_
  · refine awp_true (by kernel_rfl) h1 ?_
    refine awp_seq ?_
    exact nE hF
  · refine awp_false (by kernel_rfl) h1 ?_
    refine awp_skip ?_
    refine awp_seq ?_
    refine awp_seq ?_
    refine awp_region ?_
    refine aR 3 ?_
    refine aE ?_
    refine cE hF (fun h2 hF => ?_) fun h2 hF => ?_
    · refine awp_true (by kernel_rfl) h2 ?_
      refine awp_seq ?_
      refine bE hF fun vc h3 hF => ?_
      refine awp_region ?_
      refine aR 2 ?_
      refine aX (x_idxS h3) ?_
      refine aS (does_count (g := 259) (fn := f259) (a := qs) (c := (vc.toNat : Int)) rfl (by kernel_rfl) (by kernel_rfl) (by kernel_rfl) (by kernel_rfl) (by kernel_rfl) (by kernel_rfl)) ?_
      refine aR 1 ?_
      refine aE ?_
      refine awp_ret ?_
      exact oF hF [] []
    · refine awp_false (by kernel_rfl) h2 ?_
      refine awp_skip ?_
      refine awp_seq ?_
      refine awp_region ?_
      refine aR 1 ?_
      refine aE ?_
      refine awp_block ?_
      refine awp_to (st' := strings_Count_x1_H qsubstr (qs, 0)) (oT [] []) ?_
      refine bE hF fun vx1 h7 hF => ?_
      refine awp_sub (awp_loop' (strings_Count_x1_H qsubstr) strings_Count_x1_k (strings_Count_x1_S qsubstr) (by intro x; exact fun h => nomatch h) h7 (strings_Count_x1_ok qsubstr)) ?_
      exact oF hF [] []

/-! ### strings.genSplit -/
def strings_genSplit_x1_k : Int → AEx
  | _ => .normal

def strings_genSplit_x1_S (qx : List UInt8) (qx1 : List UInt8) (qx2 : Int) (qx3 : Int) : Int → St
  | vx => Mem.st ⟨[], []⟩ (tl [(0, .v (.one (.d (.str qx)))), (1, .v (.one (.d (.str qx1)))), (2, .v (.one (.d (.int .i64 qx2)))), (3, .v (.one (.d (.int .i64 vx))))]) 0

def strings_genSplit_x1_I (qx : List UInt8) (qx1 : List UInt8) (qx2 : Int) (qx3 : Int) : St := Mem.st ⟨[], []⟩ (tl [(0, .v (.one (.d (.str qx)))), (1, .v (.one (.d (.str qx1)))), (2, .v (.one (.d (.int .i64 qx2)))), (3, .v (.one (.d (.int .i64 qx3))))]) 0

theorem strings_genSplit_x1_ok (qx : List UInt8) (qx1 : List UInt8) (qx2 : Int) (qx3 : Int) {r} (hF : strings_genSplit_x1 qx qx1 qx3 = some r) : Awp prog 0 66 (cL (cR (cR (cR (cB f172))))) (Out 0 strings_genSplit_x1_k (strings_genSplit_x1_S qx qx1 qx2 qx3) r) (strings_genSplit_x1_I qx qx1 qx2 qx3) := by
  unfold strings_genSplit_x1 at hF
  refine awp_seq ?_
  refine awp_region ?_
  refine aR 2 ?_
  refine aE ?_
  refine cE hF (fun h3 hF => ?_) fun h3 hF => ?_
  · refine awp_true (by kernel_rfl) h3 ?_
    refine bE hF fun vr h4 hF => ?_
    refine awp_region ?_
    refine aR 2 ?_
    refine aC (strings_Count_ok h4) [] [] [] ?_
    refine aR 2 ?_
    refine aE ?_
    exact oO hF [] [] rfl
  · refine awp_false (by kernel_rfl) h3 ?_
    refine awp_skip ?_
    exact oO hF [] [] rfl

def strings_genSplit_x2_k : ((List UInt8) × (List (List UInt8)) × Int) → AEx
  | _ => .exit 0

def strings_genSplit_x2_S (qx : List UInt8) (qx1 : List UInt8) (qx2 : Int) (vx1 : Int) : ((List UInt8) × (List (List UInt8)) × Int) → St
  | (vx5, vx6, vx7) => Mem.st ⟨[(0, ⟨9, 1, List.map encS vx6⟩)], []⟩ (tl [(0, .v (.one (.d (.str vx5)))), (9, .v (.one (.own 0 none))), (10, .v (.one (.d (.int .i64 vx7))))]) 1

def strings_genSplit_x2_H (qx : List UInt8) (qx1 : List UInt8) (qx2 : Int) (vx1 : Int) : (List UInt8) × (List (List UInt8)) × Int → St
  | (vx2, vx3, vx4) => Mem.st ⟨[(0, ⟨9, 1, List.map encS vx3⟩)], []⟩ (tl [(0, .v (.one (.d (.str vx2)))), (1, .v (.one (.d (.str qx1)))), (2, .v (.one (.d (.int .i64 qx2)))), (3, .v (.one (.d (.int .i64 (IntKind.wrap .i64 ((imin vx1 (IntKind.wrap .i64 ((qx.length : Int) + 1))) - 1)))))), (9, .v (.one (.own 0 none))), (10, .v (.one (.d (.int .i64 vx4))))]) 1

theorem strings_genSplit_x2_ok (qx : List UInt8) (qx1 : List UInt8) (qx2 : Int) (vx1 : Int) (s : (List UInt8) × (List (List UInt8)) × Int) (r : ((List UInt8) × (List (List UInt8)) × Int) ⊕ (((List UInt8) × (List (List UInt8)) × Int))) (hF : strings_genSplit_x2 qx qx1 qx2 vx1 s = some r) : Awp prog 0 66 (cL (cL (cL (cR (cR (cR (cR (cR (cR (cR (cR (cB f172)))))))))))) (Out 0 (kk strings_genSplit_x2_k) (SS (strings_genSplit_x2_H qx qx1 qx2 vx1) (strings_genSplit_x2_S qx qx1 qx2 vx1)) r) (strings_genSplit_x2_H qx qx1 qx2 vx1 s) := by
  obtain ⟨vx2, vx3, vx4⟩ := s
  unfold strings_genSplit_x2 at hF
  refine awp_seq ?_
  refine awp_seq ?_
  refine awp_region ?_
  refine aR 3 ?_
  refine aE ?_
  refine cE hF (fun h7 hF => ?_) fun h7 hF => ?_
  · refine awp_true (by kernel_rfl) h7 ?_
    refine awp_skip ?_
    refine awp_block ?_
    refine awp_seq ?_
    refine bE hF fun vr1_1 h8 hF => ?_
    refine awp_region ?_
    refine aR 2 ?_
    refine aC (strings_Index_ok h8) [] [] [] ?_
    refine aR 1 ?_
    refine aE ?_
    refine awp_seq ?_
    refine awp_seq ?_
    refine awp_region ?_
    refine aR 2 ?_
    refine aE ?_
    refine cE hF (fun h9 hF => ?_) fun h9 hF => ?_
    · refine awp_true (by kernel_rfl) h9 ?_
      refine awp_exit ?_
      exact oO hF [] [] rfl
    · refine awp_false (by kernel_rfl) h9 ?_
      refine awp_skip ?_
      refine awp_seq ?_
      refine bE hF fun vs2 h10 hF => ?_
      refine bE hF fun vy1 h11 hF => ?_
      refine awp_region ?_
      refine aR 6 ?_
      refine aX (x_sliceS h10) ?_
      refine aX (x_idxO encS 0 h11) ?_
      refine aX (x_stE encS vs2 h11) ?_
      refine aE ?_
      refine awp_seq ?_
      refine bE hF fun vs3 h12 hF => ?_
      refine awp_region ?_
      refine aR 5 ?_
      refine aX (x_sliceS h12) ?_
      refine aR 1 ?_
      refine aE ?_
      refine awp_region ?_
      refine aR 3 ?_
      refine aE ?_
      exact oO hF [] [] rfl
  · refine awp_false (by kernel_rfl) h7 ?_
    refine awp_exit ?_
    exact oO hF [] [] rfl

def strings_genSplit_R (qx : List UInt8) (qx1 : List UInt8) (qx2 : Int) (qx3 : Int) (r : (List (List UInt8))) : TV × Mem := (.v (.one (.own 0 none)), ⟨[(0, ⟨9, 1, List.map encS r⟩)], []⟩)

theorem strings_genSplit_ok {qx : List UInt8} {qx1 : List UInt8} {qx2 : Int} {qx3 : Int} {r} (hF : strings_genSplit qx qx1 qx2 qx3 = some r) : Holds prog 172 [.v (.one (.d (.str qx))), .v (.one (.d (.str qx1))), .v (.one (.d (.int .i64 qx2))), .v (.one (.d (.int .i64 qx3)))] ⟨[], []⟩ (Is (strings_genSplit_R qx qx1 qx2 qx3 r)) := by
  unfold strings_genSplit at hF
  refine holds_of_awp hΓ (fn := f172) (c := cB f172) (A := 0) (nx := 0) (by kernel_rfl) (by kernel_rfl) (by kernel_rfl) (by kernel_rfl) (by kernel_rfl) (by kernel_rfl) (lowc_of (by kernel_rfl)) ?_
  show Awp prog 0 66 (cB f172) _ _
  refine awp_seq ?_
  refine awp_region ?_
  refine aR 1 ?_
  refine aE ?_
  refine awp_seq ?_
  refine awp_seq ?_
  refine awp_region ?_
  refine aR 2 ?_
  refine aE ?_
  refine cE hF (fun h1 hF => ?_) fun h1 hF => ?_
  · refine awp_true (by kernel_rfl) h1 ?_
    refine awp_seq ?_
    refine awp_region ?_
    refine aR 1 ?_
    refine aE ?_
    refine awp_ret ?_
    exact oF hF [] [0]
  · refine awp_false (by kernel_rfl) h1 ?_
    refine awp_skip ?_
    refine awp_seq ?_
    refine awp_seq ?_
    refine awp_region ?_
    refine aR 2 ?_
    refine aE ?_
    refine cE hF (fun h2 hF => ?_) fun h2 hF => ?_
    · refine awp_true (by kernel_rfl) h2 ?_
      refine awp_seq ?_
      exact nE hF
    · refine awp_false (by kernel_rfl) h2 ?_
      refine awp_skip ?_
      refine awp_seq ?_
      refine awp_to (st' := strings_genSplit_x1_I qx qx1 qx2 qx3) (oT [] []) ?_
      refine bE hF fun vx1 h5 hF => ?_
      refine awp_sub (strings_genSplit_x1_ok qx qx1 qx2 qx3 h5) ?_
      refine awp_seq ?_
      refine awp_region ?_
      refine aR 6 ?_
      refine aE ?_
      refine awp_seq ?_
      refine gE hF fun h6 hF => ?_
      refine awp_region ?_
      refine aR 1 ?_
      refine aX (x_mk encS ([] : List UInt8) h6) ?_
      refine aR 1 ?_
      refine aE ?_
      refine awp_seq ?_
      refine awp_region ?_
      refine aR 3 ?_
      refine aE ?_
      refine awp_seq ?_
      refine awp_region ?_
      refine aR 1 ?_
      refine aE ?_
      refine awp_seq ?_
      refine awp_block ?_
      refine awp_to (st' := strings_genSplit_x2_H qx qx1 qx2 vx1 (qx, List.replicate (imin vx1 (IntKind.wrap .i64 ((qx.length : Int) + 1))).toNat ([] : List UInt8), 0)) (oT [(0, 7000)] []) ?_
      refine bE hF fun x h13 hF => ?_
      obtain ⟨vx5_1, vx6_1, vx7_1⟩ := x
      refine awp_sub (awp_loop' (strings_genSplit_x2_H qx qx1 qx2 vx1) strings_genSplit_x2_k (strings_genSplit_x2_S qx qx1 qx2 vx1) (by intro x; exact fun h => nomatch h) h13 (strings_genSplit_x2_ok qx qx1 qx2 vx1)) ?_
      refine awp_seq ?_
      refine bE hF fun vy2 h14 hF => ?_
      refine awp_region ?_
      refine aR 3 ?_
      refine aX (x_idxO encS 0 h14) ?_
      refine aX (x_stE encS vx5_1 h14) ?_
      refine aE ?_
      refine awp_seq ?_
      refine gE hF fun h15 hF => ?_
      refine awp_region ?_
      refine aR 3 ?_
      refine aT encS 0 h15 rfl ?_
      refine aR 1 ?_
      refine aE ?_
      refine awp_ret ?_
      exact oF hF [(0, 8001)] []

/-! ### strings.Split -/
def strings_Split_R (qs : List UInt8) (qsep : List UInt8) (r : (List (List UInt8))) : TV × Mem := (.v (.one (.own 0 none)), ⟨[(0, ⟨9, 1, List.map encS r⟩)], []⟩)

theorem strings_Split_ok {qs : List UInt8} {qsep : List UInt8} {r} (hF : strings_Split qs qsep = some r) : Holds prog 105 [.v (.one (.d (.str qs))), .v (.one (.d (.str qsep)))] ⟨[], []⟩ (Is (strings_Split_R qs qsep r)) := by
  unfold strings_Split at hF
  refine holds_of_awp hΓ (fn := f105) (c := cB f105) (A := 0) (nx := 0) (by kernel_rfl) (by kernel_rfl) (by kernel_rfl) (by kernel_rfl) (by kernel_rfl) (by kernel_rfl) (lowc_of (by kernel_rfl)) ?_
  show Awp prog 0 8 (cB f105) _ _
  refine awp_seq ?_
  refine awp_region ?_
  refine aR 1 ?_
  refine aE ?_
  refine awp_seq ?_
  refine bE hF fun vr2 h1 hF => ?_
  refine awp_region ?_
  refine aR 2 ?_
  refine aC (strings_genSplit_ok h1) [] [] [] ?_
  refine aR 1 ?_
  refine aE ?_
  refine awp_ret ?_
  exact oF hF [(0, 3000)] []

/-! ### internal/stringslite.HasPrefix -/
def stringslite_HasPrefix_x1_k : Bool → AEx
  | _ => .normal

def stringslite_HasPrefix_x1_S (qs : List UInt8) (qprefix : List UInt8) : Bool → St
  | vx => Mem.st ⟨[], []⟩ (tl [(4, .v (.one (.d (.bool vx))))]) 0

def stringslite_HasPrefix_x1_I (qs : List UInt8) (qprefix : List UInt8) : St := Mem.st ⟨[], []⟩ (tl [(0, .v (.one (.d (.str qs)))), (1, .v (.one (.d (.str qprefix))))]) 0

theorem stringslite_HasPrefix_x1_ok (qs : List UInt8) (qprefix : List UInt8) {r} (hF : stringslite_HasPrefix_x1 qs qprefix = some r) : Awp prog 0 18 (cL (cR (cB f199))) (Out 0 stringslite_HasPrefix_x1_k (stringslite_HasPrefix_x1_S qs qprefix) r) (stringslite_HasPrefix_x1_I qs qprefix) := by
  unfold stringslite_HasPrefix_x1 at hF
  refine cE hF (fun h1 hF => ?_) fun h1 hF => ?_
  · refine bE hF fun vs h2 hF => ?_
    refine awp_region ?_
    refine aR 4 ?_
    refine aB h1 ?_
    refine aR 4 ?_
    refine aX (x_sliceS h2) ?_
    refine aR 4 ?_
    refine aE ?_
    exact oO hF [] [] rfl
  · refine awp_region ?_
    refine aR 4 ?_
    refine aB h1 ?_
    refine aR 9 ?_
    refine aE ?_
    exact oO hF [] [] rfl

def stringslite_HasPrefix_R (qs : List UInt8) (qprefix : List UInt8) (r : Bool) : TV × Mem := (.v (.one (.d (.bool r))), ⟨[], []⟩)

theorem stringslite_HasPrefix_ok {qs : List UInt8} {qprefix : List UInt8} {r} (hF : stringslite_HasPrefix qs qprefix = some r) : Holds prog 199 [.v (.one (.d (.str qs))), .v (.one (.d (.str qprefix)))] ⟨[], []⟩ (Is (stringslite_HasPrefix_R qs qprefix r)) := by
  unfold stringslite_HasPrefix at hF
  refine holds_of_awp hΓ (fn := f199) (c := cB f199) (A := 0) (nx := 0) (by kernel_rfl) (by kernel_rfl) (by kernel_rfl) (by kernel_rfl) (by kernel_rfl) (by kernel_rfl) (lowc_of (by kernel_rfl)) ?_
  show Awp prog 0 18 (cB f199) _ _
  refine awp_seq ?_
  refine awp_region ?_
  refine aR 1 ?_
  refine aE ?_
  refine awp_seq ?_
  refine awp_to (st' := stringslite_HasPrefix_x1_I qs qprefix) (oT [] []) ?_
  refine bE hF fun vx1 h3 hF => ?_
  refine awp_sub (stringslite_HasPrefix_x1_ok qs qprefix h3) ?_
  refine awp_ret ?_
  exact oF hF [] []

/-! ### internal/stringslite.TrimPrefix -/
def stringslite_TrimPrefix_R (qs : List UInt8) (qprefix : List UInt8) (r : (List UInt8)) : TV × Mem := (.v (.one (.d (.str r))), ⟨[], []⟩)

theorem stringslite_TrimPrefix_ok {qs : List UInt8} {qprefix : List UInt8} {r} (hF : stringslite_TrimPrefix qs qprefix = some r) : Holds prog 290 [.v (.one (.d (.str qs))), .v (.one (.d (.str qprefix)))] ⟨[], []⟩ (Is (stringslite_TrimPrefix_R qs qprefix r)) := by
  unfold stringslite_TrimPrefix at hF
  refine holds_of_awp hΓ (fn := f290) (c := cB f290) (A := 0) (nx := 0) (by kernel_rfl) (by kernel_rfl) (by kernel_rfl) (by kernel_rfl) (by kernel_rfl) (by kernel_rfl) (lowc_of (by kernel_rfl)) ?_
  show Awp prog 0 13 (cB f290) _ _
  refine awp_seq ?_
  refine awp_region ?_
  refine aR 1 ?_
  refine aE ?_
  refine awp_seq ?_
  refine awp_seq ?_
  refine bE hF fun vr h1 hF => ?_
  refine awp_region ?_
  refine aR 2 ?_
  refine aC (stringslite_HasPrefix_ok h1) [] [] [] ?_
  refine aE ?_
  refine cE hF (fun h2 hF => ?_) fun h2 hF => ?_
  · refine awp_true (by kernel_rfl) h2 ?_
    refine awp_seq ?_
    refine bE hF fun vs h3 hF => ?_
    refine awp_region ?_
    refine aR 3 ?_
    refine aX (x_sliceS h3) ?_
    refine aR 1 ?_
    refine aE ?_
    refine awp_ret ?_
    exact oF hF [] []
  · refine awp_false (by kernel_rfl) h2 ?_
    refine awp_skip ?_
    refine awp_seq ?_
    refine awp_region ?_
    refine aR 2 ?_
    refine aE ?_
    refine awp_ret ?_
    exact oF hF [] []

/-! ### strings.TrimPrefix -/
def strings_TrimPrefix_R (qs : List UInt8) (qprefix : List UInt8) (r : (List UInt8)) : TV × Mem := (.v (.one (.d (.str r))), ⟨[], []⟩)

theorem strings_TrimPrefix_ok {qs : List UInt8} {qprefix : List UInt8} {r} (hF : strings_TrimPrefix qs qprefix = some r) : Holds prog 267 [.v (.one (.d (.str qs))), .v (.one (.d (.str qprefix)))] ⟨[], []⟩ (Is (strings_TrimPrefix_R qs qprefix r)) := by
  unfold strings_TrimPrefix at hF
  refine holds_of_awp hΓ (fn := f267) (c := cB f267) (A := 0) (nx := 0) (by kernel_rfl) (by kernel_rfl) (by kernel_rfl) (by kernel_rfl) (by kernel_rfl) (by kernel_rfl) (lowc_of (by kernel_rfl)) ?_
  show Awp prog 0 8 (cB f267) _ _
  refine awp_seq ?_
  refine awp_region ?_
  refine aR 1 ?_
  refine aE ?_
  refine awp_seq ?_
  refine bE hF fun vr1 h1 hF => ?_
  refine awp_region ?_
  refine aR 2 ?_
  refine aC (stringslite_TrimPrefix_ok h1) [] [] [] ?_
  refine aR 1 ?_
  refine aE ?_
  refine awp_ret ?_
  exact oF hF [] []

/-! ### internal/strconv.lower -/
def strconv_lower_R (qc : Int) (r : Unit) : TV × Mem := (.v (.one (.d (.int .u8 (ibits .or .u8 qc 32)))), ⟨[], []⟩)

theorem strconv_lower_ok {qc : Int} {r} (hF : strconv_lower qc = some r) : Holds prog 308 [.v (.one (.d (.int .u8 qc)))] ⟨[], []⟩ (Is (strconv_lower_R qc r)) := by
  unfold strconv_lower at hF
  refine holds_of_awp hΓ (fn := f308) (c := cB f308) (A := 0) (nx := 0) (by kernel_rfl) (by kernel_rfl) (by kernel_rfl) (by kernel_rfl) (by kernel_rfl) (by kernel_rfl) (lowc_of (by kernel_rfl)) ?_
  show Awp prog 0 5 (cB f308) _ _
  refine awp_seq ?_
  refine awp_region ?_
  refine aR 1 ?_
  refine aE ?_
  refine awp_seq ?_
  refine awp_region ?_
  refine aR 3 ?_
  refine aE ?_
  refine awp_ret ?_
  exact oF hF [] []

/-! ### internal/strconv.underscoreOK -/
def strconv_underscoreOK_x2_k : Bool → AEx
  | _ => .normal

def strconv_underscoreOK_x2_S (qx : List UInt8) : Bool → St
  | vx => Mem.st ⟨[], []⟩ (tl [(0, .v (.one (.d (.str qx)))), (3, .v (.one (.d (.int .i32 94)))), (4, .v (.one (.d (.int .i64 0)))), (18, .v (.one (.d (.bool vx))))]) 0

def strconv_underscoreOK_x2_I (qx : List UInt8) : St := Mem.st ⟨[], []⟩ (tl [(0, .v (.one (.d (.str qx)))), (3, .v (.one (.d (.int .i32 94)))), (4, .v (.one (.d (.int .i64 0))))]) 0

theorem strconv_underscoreOK_x2_ok (qx : List UInt8) {r} (hF : strconv_underscoreOK_x2 qx = some r) : Awp prog 0 94 (cL (cL (cR (cR (cR (cB f309)))))) (Out 0 strconv_underscoreOK_x2_k (strconv_underscoreOK_x2_S qx) r) (strconv_underscoreOK_x2_I qx) := by
  unfold strconv_underscoreOK_x2 at hF
  refine cE hF (fun h1 hF => ?_) fun h1 hF => ?_
  · refine bE hF fun vc h2 hF => ?_
    refine cE hF (fun h3 hF => ?_) fun h3 hF => ?_
    · refine awp_region ?_
      refine aR 2 ?_
      refine aB h1 ?_
      refine aR 2 ?_
      refine aX (x_idxS h2) ?_
      refine aB h3 ?_
      refine aR 6 ?_
      refine aE ?_
      exact oO hF [] [] rfl
    · refine awp_region ?_
      refine aR 2 ?_
      refine aB h1 ?_
      refine aR 2 ?_
      refine aX (x_idxS h2) ?_
      refine aB h3 ?_
      refine aR 2 ?_
      refine aX (x_idxS h2) ?_
      refine aR 3 ?_
      refine aE ?_
      exact oO hF [] [] rfl
  · refine awp_region ?_
    refine aR 2 ?_
    refine aB h1 ?_
    refine aR 10 ?_
    refine aE ?_
    exact oO hF [] [] rfl

def strconv_underscoreOK_x1_k : (List UInt8) → AEx
  | _ => .normal

def strconv_underscoreOK_x1_S (qx : List UInt8) : (List UInt8) → St
  | vx2 => Mem.st ⟨[], []⟩ (tl [(0, .v (.one (.d (.str vx2)))), (3, .v (.one (.d (.int .i32 94)))), (4, .v (.one (.d (.int .i64 0))))]) 0

def strconv_underscoreOK_x1_I (qx : List UInt8) : St := Mem.st ⟨[], []⟩ (tl [(0, .v (.one (.d (.str qx)))), (3, .v (.one (.d (.int .i32 94)))), (4, .v (.one (.d (.int .i64 0))))]) 0

theorem strconv_underscoreOK_x1_ok (qx : List UInt8) {r} (hF : strconv_underscoreOK_x1 qx = some r) : Awp prog 0 94 (cL (cR (cR (cR (cB f309))))) (Out 0 strconv_underscoreOK_x1_k (strconv_underscoreOK_x1_S qx) r) (strconv_underscoreOK_x1_I qx) := by
  unfold strconv_underscoreOK_x1 at hF
  refine awp_seq ?_
  refine awp_to (st' := strconv_underscoreOK_x2_I qx) (oT [] []) ?_
  refine bE hF fun vx1 h4 hF => ?_
  refine awp_sub (strconv_underscoreOK_x2_ok qx h4) ?_
  refine cE hF (fun h5 hF => ?_) fun h5 hF => ?_
  · refine awp_true (by kernel_rfl) h5 ?_
    refine bE hF fun vs h6 hF => ?_
    refine awp_region ?_
    refine aR 1 ?_
    refine aX (x_sliceS h6) ?_
    refine aR 1 ?_
    refine aE ?_
    exact oO hF [] [] rfl
  · refine awp_false (by kernel_rfl) h5 ?_
    refine awp_skip ?_
    exact oO hF [] [] rfl

def strconv_underscoreOK_x4_k : Bool → AEx
  | _ => .normal

def strconv_underscoreOK_x4_S (vx2_1 : List UInt8) : Bool → St
  | vx3 => Mem.st ⟨[], []⟩ (tl [(0, .v (.one (.d (.str vx2_1)))), (3, .v (.one (.d (.int .i32 94)))), (4, .v (.one (.d (.int .i64 0)))), (5, .v (.one (.d (.bool false)))), (46, .v (.one (.d (.bool vx3))))]) 0

def strconv_underscoreOK_x4_I (vx2_1 : List UInt8) : St := Mem.st ⟨[], []⟩ (tl [(0, .v (.one (.d (.str vx2_1)))), (3, .v (.one (.d (.int .i32 94)))), (4, .v (.one (.d (.int .i64 0)))), (5, .v (.one (.d (.bool false))))]) 0

theorem strconv_underscoreOK_x4_ok (vx2_1 : List UInt8) {r} (hF : strconv_underscoreOK_x4 vx2_1 = some r) : Awp prog 0 94 (cL (cL (cR (cR (cR (cR (cR (cB f309)))))))) (Out 0 strconv_underscoreOK_x4_k (strconv_underscoreOK_x4_S vx2_1) r) (strconv_underscoreOK_x4_I vx2_1) := by
  unfold strconv_underscoreOK_x4 at hF
  refine cE hF (fun h8 hF => ?_) fun h8 hF => ?_
  · refine bE hF fun vc1 h9 hF => ?_
    refine cE hF (fun h10 hF => ?_) fun h10 hF => ?_
    · refine bE hF fun vc2 h11 hF => ?_
      refine bE hF fun _ h12 hF => ?_
      refine cE hF (fun h13 hF => ?_) fun h13 hF => ?_
      · refine awp_region ?_
        refine aR 2 ?_
        refine aB h8 ?_
        refine aR 2 ?_
        refine aX (x_idxS h9) ?_
        refine aB h10 ?_
        refine aR 3 ?_
        refine aX (x_idxS h11) ?_
        refine aC (strconv_lower_ok h12) [] [] [] ?_
        refine aB h13 ?_
        refine aR 13 ?_
        refine aE ?_
        exact oO hF [] [] rfl
      · refine cE hF (fun h14 hF => ?_) fun h14 hF => ?_
        · refine awp_region ?_
          refine aR 2 ?_
          refine aB h8 ?_
          refine aR 2 ?_
          refine aX (x_idxS h9) ?_
          refine aB h10 ?_
          refine aR 3 ?_
          refine aX (x_idxS h11) ?_
          refine aC (strconv_lower_ok h12) [] [] [] ?_
          refine aB h13 ?_
          refine aR 2 ?_
          refine aX (x_idxS h11) ?_
          refine aC (strconv_lower_ok h12) [] [] [] ?_
          refine aB h14 ?_
          refine aR 8 ?_
          refine aE ?_
          exact oO hF [] [] rfl
        · refine awp_region ?_
          refine aR 2 ?_
          refine aB h8 ?_
          refine aR 2 ?_
          refine aX (x_idxS h9) ?_
          refine aB h10 ?_
          refine aR 3 ?_
          refine aX (x_idxS h11) ?_
          refine aC (strconv_lower_ok h12) [] [] [] ?_
          refine aB h13 ?_
          refine aR 2 ?_
          refine aX (x_idxS h11) ?_
          refine aC (strconv_lower_ok h12) [] [] [] ?_
          refine aB h14 ?_
          refine aR 3 ?_
          refine aX (x_idxS h11) ?_
          refine aC (strconv_lower_ok h12) [] [] [] ?_
          refine aR 3 ?_
          refine aE ?_
          exact oO hF [] [] rfl
    · refine awp_region ?_
      refine aR 2 ?_
      refine aB h8 ?_
      refine aR 2 ?_
      refine aX (x_idxS h9) ?_
      refine aB h10 ?_
      refine aR 19 ?_
      refine aE ?_
      exact oO hF [] [] rfl
  · refine awp_region ?_
    refine aR 2 ?_
    refine aB h8 ?_
    refine aR 23 ?_
    refine aE ?_
    exact oO hF [] [] rfl

def strconv_underscoreOK_x3_k : (Int × Int × Bool) → AEx
  | _ => .normal

def strconv_underscoreOK_x3_S (vx2_1 : List UInt8) : (Int × Int × Bool) → St
  | (vx4, vx5, vx6) => Mem.st ⟨[], []⟩ (tl [(0, .v (.one (.d (.str vx2_1)))), (3, .v (.one (.d (.int .i32 vx4)))), (4, .v (.one (.d (.int .i64 vx5)))), (5, .v (.one (.d (.bool vx6))))]) 0

def strconv_underscoreOK_x3_I (vx2_1 : List UInt8) : St := Mem.st ⟨[], []⟩ (tl [(0, .v (.one (.d (.str vx2_1)))), (3, .v (.one (.d (.int .i32 94)))), (4, .v (.one (.d (.int .i64 0)))), (5, .v (.one (.d (.bool false))))]) 0

theorem strconv_underscoreOK_x3_ok (vx2_1 : List UInt8) {r} (hF : strconv_underscoreOK_x3 vx2_1 = some r) : Awp prog 0 94 (cL (cR (cR (cR (cR (cR (cB f309))))))) (Out 0 strconv_underscoreOK_x3_k (strconv_underscoreOK_x3_S vx2_1) r) (strconv_underscoreOK_x3_I vx2_1) := by
  unfold strconv_underscoreOK_x3 at hF
  refine awp_seq ?_
  refine awp_to (st' := strconv_underscoreOK_x4_I vx2_1) (oT [] []) ?_
  refine bE hF fun vx3_1 h15 hF => ?_
  refine awp_sub (strconv_underscoreOK_x4_ok vx2_1 h15) ?_
  refine cE hF (fun h16 hF => ?_) fun h16 hF => ?_
  · refine awp_true (by kernel_rfl) h16 ?_
    refine awp_seq ?_
    refine awp_region ?_
    refine aR 1 ?_
    refine aE ?_
    refine awp_seq ?_
    refine awp_region ?_
    refine aR 1 ?_
    refine aE ?_
    refine bE hF fun vc3 h17 hF => ?_
    refine bE hF fun _ h18 hF => ?_
    refine awp_region ?_
    refine aR 1 ?_
    refine aX (x_idxS h17) ?_
    refine aC (strconv_lower_ok h18) [] [] [] ?_
    refine aR 2 ?_
    refine aE ?_
    exact oO hF [] [] rfl
  · refine awp_false (by kernel_rfl) h16 ?_
    refine awp_skip ?_
    exact oO hF [] [] rfl

def strconv_underscoreOK_x7_k : Bool → AEx
  | _ => .normal

def strconv_underscoreOK_x7_S (vx2_1 : List UInt8) (vx6_1 : Bool) (vx7 : Int) (vx8 : Int) : Bool → St
  | vx11 => Mem.st ⟨[], []⟩ (tl [(0, .v (.one (.d (.str vx2_1)))), (3, .v (.one (.d (.int .i32 vx7)))), (4, .v (.one (.d (.int .i64 vx8)))), (5, .v (.one (.d (.bool vx6_1)))), (83, .v (.one (.d (.bool vx11))))]) 0

def strconv_underscoreOK_x7_I (vx2_1 : List UInt8) (vx6_1 : Bool) (vx7 : Int) (vx8 : Int) : St := Mem.st ⟨[], []⟩ (tl [(0, .v (.one (.d (.str vx2_1)))), (3, .v (.one (.d (.int .i32 vx7)))), (4, .v (.one (.d (.int .i64 vx8)))), (5, .v (.one (.d (.bool vx6_1))))]) 0

theorem strconv_underscoreOK_x7_ok (vx2_1 : List UInt8) (vx6_1 : Bool) (vx7 : Int) (vx8 : Int) {r} (hF : strconv_underscoreOK_x7 vx2_1 vx6_1 vx8 = some r) : Awp prog 0 94 (cL (cL (cL (cL (cR (cL (cL (cL (cR (cR (cR (cR (cR (cR (cB f309))))))))))))))) (Out 0 strconv_underscoreOK_x7_k (strconv_underscoreOK_x7_S vx2_1 vx6_1 vx7 vx8) r) (strconv_underscoreOK_x7_I vx2_1 vx6_1 vx7 vx8) := by
  unfold strconv_underscoreOK_x7 at hF
  refine bE hF fun vc6 h21 hF => ?_
  refine cE hF (fun h22 hF => ?_) fun h22 hF => ?_
  · refine cE hF (fun h23 hF => ?_) fun h23 hF => ?_
    · refine awp_region ?_
      refine aR 2 ?_
      refine aX (x_idxS h21) ?_
      refine aB h22 ?_
      refine aR 3 ?_
      refine aX (x_idxS h21) ?_
      refine aB h23 ?_
      refine aR 18 ?_
      refine aE ?_
      exact oO hF [] [] rfl
    · refine cE hF (fun h24 hF => ?_) fun h24 hF => ?_
      · refine bE hF fun _ h25 hF => ?_
        refine cE hF (fun h26 hF => ?_) fun h26 hF => ?_
        · refine awp_region ?_
          refine aR 2 ?_
          refine aX (x_idxS h21) ?_
          refine aB h22 ?_
          refine aR 3 ?_
          refine aX (x_idxS h21) ?_
          refine aB h23 ?_
          refine aR 2 ?_
          refine aB h24 ?_
          refine aR 3 ?_
          refine aX (x_idxS h21) ?_
          refine aC (strconv_lower_ok h25) [] [] [] ?_
          refine aB h26 ?_
          refine aR 4 ?_
          refine aX (x_idxS h21) ?_
          refine aC (strconv_lower_ok h25) [] [] [] ?_
          refine aR 3 ?_
          refine aE ?_
          exact oO hF [] [] rfl
        · refine awp_region ?_
          refine aR 2 ?_
          refine aX (x_idxS h21) ?_
          refine aB h22 ?_
          refine aR 3 ?_
          refine aX (x_idxS h21) ?_
          refine aB h23 ?_
          refine aR 2 ?_
          refine aB h24 ?_
          refine aR 3 ?_
          refine aX (x_idxS h21) ?_
          refine aC (strconv_lower_ok h25) [] [] [] ?_
          refine aB h26 ?_
          refine aR 9 ?_
          refine aE ?_
          exact oO hF [] [] rfl
      · refine awp_region ?_
        refine aR 2 ?_
        refine aX (x_idxS h21) ?_
        refine aB h22 ?_
        refine aR 3 ?_
        refine aX (x_idxS h21) ?_
        refine aB h23 ?_
        refine aR 2 ?_
        refine aB h24 ?_
        refine aR 15 ?_
        refine aE ?_
        exact oO hF [] [] rfl
  · refine cE hF (fun h27 hF => ?_) fun h27 hF => ?_
    · refine bE hF fun _ h28 hF => ?_
      refine cE hF (fun h29 hF => ?_) fun h29 hF => ?_
      · refine awp_region ?_
        refine aR 2 ?_
        refine aX (x_idxS h21) ?_
        refine aB h22 ?_
        refine aR 7 ?_
        refine aB h27 ?_
        refine aR 3 ?_
        refine aX (x_idxS h21) ?_
        refine aC (strconv_lower_ok h28) [] [] [] ?_
        refine aB h29 ?_
        refine aR 4 ?_
        refine aX (x_idxS h21) ?_
        refine aC (strconv_lower_ok h28) [] [] [] ?_
        refine aR 3 ?_
        refine aE ?_
        exact oO hF [] [] rfl
      · refine awp_region ?_
        refine aR 2 ?_
        refine aX (x_idxS h21) ?_
        refine aB h22 ?_
        refine aR 7 ?_
        refine aB h27 ?_
        refine aR 3 ?_
        refine aX (x_idxS h21) ?_
        refine aC (strconv_lower_ok h28) [] [] [] ?_
        refine aB h29 ?_
        refine aR 9 ?_
        refine aE ?_
        exact oO hF [] [] rfl
    · refine awp_region ?_
      refine aR 2 ?_
      refine aX (x_idxS h21) ?_
      refine aB h22 ?_
      refine aR 7 ?_
      refine aB h27 ?_
      refine aR 15 ?_
      refine aE ?_
      exact oO hF [] [] rfl

def strconv_underscoreOK_x6_k : Int ⊕ Unit → AEx
  | .inl _ => .normal
  | .inr _ => .ret

def strconv_underscoreOK_x6_S (vx2_1 : List UInt8) (vx6_1 : Bool) (vx7 : Int) (vx8 : Int) : Int ⊕ Unit → St
  | .inl vx12 => Mem.st ⟨[], []⟩ (tl [(0, .v (.one (.d (.str vx2_1)))), (3, .v (.one (.d (.int .i32 vx12)))), (4, .v (.one (.d (.int .i64 vx8)))), (5, .v (.one (.d (.bool vx6_1))))]) 0
  | .inr _ => Mem.st ⟨[], []⟩ (tl [(2, .v (.one (.d (.bool false))))]) 0

def strconv_underscoreOK_x6_I (vx2_1 : List UInt8) (vx6_1 : Bool) (vx7 : Int) (vx8 : Int) : St := Mem.st ⟨[], []⟩ (tl [(0, .v (.one (.d (.str vx2_1)))), (3, .v (.one (.d (.int .i32 vx7)))), (4, .v (.one (.d (.int .i64 vx8)))), (5, .v (.one (.d (.bool vx6_1))))]) 0

theorem strconv_underscoreOK_x6_ok (vx2_1 : List UInt8) (vx6_1 : Bool) (vx7 : Int) (vx8 : Int) {r} (hF : strconv_underscoreOK_x6 vx2_1 vx6_1 vx7 vx8 = some r) : Awp prog 0 94 (cL (cR (cL (cL (cL (cR (cR (cR (cR (cR (cR (cB f309)))))))))))) (Out 0 strconv_underscoreOK_x6_k (strconv_underscoreOK_x6_S vx2_1 vx6_1 vx7 vx8) r) (strconv_underscoreOK_x6_I vx2_1 vx6_1 vx7 vx8) := by
  unfold strconv_underscoreOK_x6 at hF
  refine awp_block ?_
  refine awp_seq ?_
  refine awp_seq ?_
  refine awp_to (st' := strconv_underscoreOK_x7_I vx2_1 vx6_1 vx7 vx8) (oT [] []) ?_
  refine bE hF fun vx11_1 h30 hF => ?_
  refine awp_sub (strconv_underscoreOK_x7_ok vx2_1 vx6_1 vx7 vx8 h30) ?_
  refine cE hF (fun h31 hF => ?_) fun h31 hF => ?_
  · refine awp_true (by kernel_rfl) h31 ?_
    refine awp_seq ?_
    refine awp_region ?_
    refine aR 1 ?_
    refine aE ?_
    refine awp_exit ?_
    exact oO hF [] [] rfl
  · refine awp_false (by kernel_rfl) h31 ?_
    refine awp_skip ?_
    refine awp_seq ?_
    refine awp_seq ?_
    refine bE hF fun vc7 h32 hF => ?_
    refine awp_region ?_
    refine aR 2 ?_
    refine aX (x_idxS h32) ?_
    refine aR 1 ?_
    refine aE ?_
    refine cE hF (fun h33 hF => ?_) fun h33 hF => ?_
    · refine awp_true (by kernel_rfl) h33 ?_
      refine awp_seq ?_
      refine awp_seq ?_
      refine awp_region ?_
      refine aR 2 ?_
      refine aE ?_
      refine cE hF (fun h34 hF => ?_) fun h34 hF => ?_
      · refine awp_true (by kernel_rfl) h34 ?_
        refine awp_seq ?_
        refine awp_region ?_
        refine aR 1 ?_
        refine aE ?_
        refine awp_ret ?_
        exact oO hF [] [] rfl
      · refine awp_false (by kernel_rfl) h34 ?_
        refine awp_skip ?_
        refine awp_seq ?_
        refine awp_region ?_
        refine aR 1 ?_
        refine aE ?_
        refine awp_exit ?_
        exact oO hF [] [] rfl
    · refine awp_false (by kernel_rfl) h33 ?_
      refine awp_skip ?_
      refine awp_seq ?_
      refine awp_seq ?_
      refine awp_region ?_
      refine aR 2 ?_
      refine aE ?_
      refine cE hF (fun h35 hF => ?_) fun h35 hF => ?_
      · refine awp_true (by kernel_rfl) h35 ?_
        refine awp_seq ?_
        refine awp_region ?_
        refine aR 1 ?_
        refine aE ?_
        refine awp_ret ?_
        exact oO hF [] [] rfl
      · refine awp_false (by kernel_rfl) h35 ?_
        refine awp_skip ?_
        refine awp_region ?_
        refine aR 1 ?_
        refine aE ?_
        exact oO hF [] [] rfl

def strconv_underscoreOK_x5_k : Int ⊕ Unit → AEx
  | .inl _ => .exit 0
  | .inr _ => .ret

def strconv_underscoreOK_x5_S (vx2_1 : List UInt8) (vx6_1 : Bool) : Int ⊕ Unit → St
  | .inl vx13 => Mem.st ⟨[], []⟩ (tl [(3, .v (.one (.d (.int .i32 vx13))))]) 0
  | .inr _ => Mem.st ⟨[], []⟩ (tl [(2, .v (.one (.d (.bool false))))]) 0

def strconv_underscoreOK_x5_H (vx2_1 : List UInt8) (vx6_1 : Bool) : Int × Int → St
  | (vx7, vx8) => Mem.st ⟨[], []⟩ (tl [(0, .v (.one (.d (.str vx2_1)))), (3, .v (.one (.d (.int .i32 vx7)))), (4, .v (.one (.d (.int .i64 vx8)))), (5, .v (.one (.d (.bool vx6_1))))]) 0

theorem strconv_underscoreOK_x5_ok (vx2_1 : List UInt8) (vx6_1 : Bool) (s : Int × Int) (r : (Int × Int) ⊕ (Int ⊕ Unit)) (hF : strconv_underscoreOK_x5 vx2_1 vx6_1 s = some r) : Awp prog 0 94 (cL (cL (cL (cR (cR (cR (cR (cR (cR (cB f309)))))))))) (Out 0 (kk strconv_underscoreOK_x5_k) (SS (strconv_underscoreOK_x5_H vx2_1 vx6_1) (strconv_underscoreOK_x5_S vx2_1 vx6_1)) r) (strconv_underscoreOK_x5_H vx2_1 vx6_1 s) := by
  obtain ⟨vx7, vx8⟩ := s
  unfold strconv_underscoreOK_x5 at hF
  refine awp_seq ?_
  refine awp_seq ?_
  refine awp_region ?_
  refine aR 4 ?_
  refine aE ?_
  refine cE hF (fun h20 hF => ?_) fun h20 hF => ?_
  · refine awp_true (by kernel_rfl) h20 ?_
    refine awp_skip ?_
    refine awp_seq ?_
    refine awp_to (st' := strconv_underscoreOK_x6_I vx2_1 vx6_1 vx7 vx8) (oT [] []) ?_
    refine bE hF fun x h36 hF => ?_
    rcases x with vx12_1 | _
    · refine awp_sub (strconv_underscoreOK_x6_ok vx2_1 vx6_1 vx7 vx8 h36) ?_
      refine awp_region ?_
      refine aR 3 ?_
      refine aE ?_
      exact oO hF [] [] rfl
    · refine awp_sub (strconv_underscoreOK_x6_ok vx2_1 vx6_1 vx7 vx8 h36) ?_
      exact oO hF [] [] rfl
  · refine awp_false (by kernel_rfl) h20 ?_
    refine awp_exit ?_
    exact oO hF [] [] rfl

def strconv_underscoreOK_R (qx : List UInt8) (r : Bool) : TV × Mem := (.v (.one (.d (.bool r))), ⟨[], []⟩)

theorem strconv_underscoreOK_ok {qx : List UInt8} {r} (hF : strconv_underscoreOK qx = some r) : Holds prog 309 [.v (.one (.d (.str qx)))] ⟨[], []⟩ (Is (strconv_underscoreOK_R qx r)) := by
  unfold strconv_underscoreOK at hF
  refine holds_of_awp hΓ (fn := f309) (c := cB f309) (A := 0) (nx := 0) (by kernel_rfl) (by kernel_rfl) (by kernel_rfl) (by kernel_rfl) (by kernel_rfl) (by kernel_rfl) (lowc_of (by kernel_rfl)) ?_
  show Awp prog 0 94 (cB f309) _ _
  refine awp_seq ?_
  refine awp_region ?_
  refine aR 1 ?_
  refine aE ?_
  refine awp_seq ?_
  refine awp_region ?_
  refine aR 1 ?_
  refine aE ?_
  refine awp_seq ?_
  refine awp_region ?_
  refine aR 1 ?_
  refine aE ?_
  refine awp_seq ?_
  refine awp_to (st' := strconv_underscoreOK_x1_I qx) (oT [] []) ?_
  refine bE hF fun vx2_1 h7 hF => ?_
  refine awp_sub (strconv_underscoreOK_x1_ok qx h7) ?_
  refine awp_seq ?_
  refine awp_region ?_
  refine aR 1 ?_
  refine aE ?_
  refine awp_seq ?_
  refine awp_to (st' := strconv_underscoreOK_x3_I vx2_1) (oT [] []) ?_
  refine bE hF fun x h19 hF => ?_
  obtain ⟨vx4_1, vx5_1, vx6_1⟩ := x
  refine awp_sub (strconv_underscoreOK_x3_ok vx2_1 h19) ?_
  refine awp_seq ?_
  refine awp_block ?_
  refine awp_to (st' := strconv_underscoreOK_x5_H vx2_1 vx6_1 (vx4_1, vx5_1)) (oT [] []) ?_
  refine bE hF fun x h37 hF => ?_
  rcases x with vx13_1 | _
  · refine awp_sub (awp_loop' (strconv_underscoreOK_x5_H vx2_1 vx6_1) strconv_underscoreOK_x5_k (strconv_underscoreOK_x5_S vx2_1 vx6_1) (by intro x; rcases x with x | x <;> exact fun h => nomatch h) h37 (strconv_underscoreOK_x5_ok vx2_1 vx6_1)) ?_
    refine awp_seq ?_
    refine awp_region ?_
    refine aR 3 ?_
    refine aE ?_
    refine awp_ret ?_
    exact oF hF [] []
  · refine awp_sub (awp_loop' (strconv_underscoreOK_x5_H vx2_1 vx6_1) strconv_underscoreOK_x5_k (strconv_underscoreOK_x5_S vx2_1 vx6_1) (by intro x; rcases x with x | x <;> exact fun h => nomatch h) h37 (strconv_underscoreOK_x5_ok vx2_1 vx6_1)) ?_
    exact oF hF [] []

/-! ### internal/strconv.ParseUint -/
def strconv_ParseUint_x2_k : Bool → AEx
  | _ => .normal

def strconv_ParseUint_x2_S (qx : List UInt8) (qx1 : Int) (qx2 : Int) : Bool → St
  | vx => Mem.st ⟨[], []⟩ (tl [(0, .v (.one (.d (.str qx)))), (1, .v (.one (.d (.int .i64 qx1)))), (2, .v (.one (.d (.int .i64 qx2)))), (8, .v (.one (.d (.bool (decide (qx1 = 0)))))), (9, .v (.one (.d (.str qx)))), (25, .v (.one (.d (.bool vx))))]) 0

def strconv_ParseUint_x2_I (qx : List UInt8) (qx1 : Int) (qx2 : Int) : St := Mem.st ⟨[], []⟩ (tl [(0, .v (.one (.d (.str qx)))), (1, .v (.one (.d (.int .i64 qx1)))), (2, .v (.one (.d (.int .i64 qx2)))), (8, .v (.one (.d (.bool (decide (qx1 = 0)))))), (9, .v (.one (.d (.str qx))))]) 0

theorem strconv_ParseUint_x2_ok (qx : List UInt8) (qx1 : Int) (qx2 : Int) {r} (hF : strconv_ParseUint_x2 qx1 = some r) : Awp prog 0 172 (cL (cL (cL (cR (cR (cR (cR (cB f304)))))))) (Out 0 strconv_ParseUint_x2_k (strconv_ParseUint_x2_S qx qx1 qx2) r) (strconv_ParseUint_x2_I qx qx1 qx2) := by
  unfold strconv_ParseUint_x2 at hF
  refine cE hF (fun h3 hF => ?_) fun h3 hF => ?_
  · refine awp_region ?_
    refine aR 1 ?_
    refine aB h3 ?_
    refine aR 5 ?_
    refine aE ?_
    exact oO hF [] [] rfl
  · refine awp_region ?_
    refine aR 1 ?_
    refine aB h3 ?_
    refine aR 5 ?_
    refine aE ?_
    exact oO hF [] [] rfl

def strconv_ParseUint_x3_k : Bool → AEx
  | _ => .normal

def strconv_ParseUint_x3_S (qx : List UInt8) (qx1 : Int) (qx2 : Int) : Bool → St
  | vx2 => Mem.st ⟨[], []⟩ (tl [(0, .v (.one (.d (.str qx)))), (2, .v (.one (.d (.int .i64 qx2)))), (8, .v (.one (.d (.bool (decide (qx1 = 0)))))), (9, .v (.one (.d (.str qx)))), (40, .v (.one (.d (.bool vx2))))]) 0

def strconv_ParseUint_x3_I (qx : List UInt8) (qx1 : Int) (qx2 : Int) : St := Mem.st ⟨[], []⟩ (tl [(0, .v (.one (.d (.str qx)))), (2, .v (.one (.d (.int .i64 qx2)))), (8, .v (.one (.d (.bool (decide (qx1 = 0)))))), (9, .v (.one (.d (.str qx))))]) 0

theorem strconv_ParseUint_x3_ok (qx : List UInt8) (qx1 : Int) (qx2 : Int) {r} (hF : strconv_ParseUint_x3 qx = some r) : Awp prog 0 172 (cL (cL (cL (cR (cR (cL (cR (cR (cR (cL (cL (cR (cR (cR (cR (cB f304)))))))))))))))) (Out 0 strconv_ParseUint_x3_k (strconv_ParseUint_x3_S qx qx1 qx2) r) (strconv_ParseUint_x3_I qx qx1 qx2) := by
  unfold strconv_ParseUint_x3 at hF
  refine cE hF (fun h9 hF => ?_) fun h9 hF => ?_
  · refine bE hF fun vc1 h10 hF => ?_
    refine bE hF fun _ h11 hF => ?_
    refine awp_region ?_
    refine aR 2 ?_
    refine aB h9 ?_
    refine aR 2 ?_
    refine aX (x_idxS h10) ?_
    refine aC (strconv_lower_ok h11) [] [] [] ?_
    refine aR 3 ?_
    refine aE ?_
    exact oO hF [] [] rfl
  · refine awp_region ?_
    refine aR 2 ?_
    refine aB h9 ?_
    refine aR 7 ?_
    refine aE ?_
    exact oO hF [] [] rfl

def strconv_ParseUint_x4_k : Bool → AEx
  | _ => .normal

def strconv_ParseUint_x4_S (qx : List UInt8) (qx1 : Int) (qx2 : Int) : Bool → St
  | vx3 => Mem.st ⟨[], []⟩ (tl [(0, .v (.one (.d (.str qx)))), (2, .v (.one (.d (.int .i64 qx2)))), (8, .v (.one (.d (.bool (decide (qx1 = 0)))))), (9, .v (.one (.d (.str qx)))), (52, .v (.one (.d (.bool vx3))))]) 0

def strconv_ParseUint_x4_I (qx : List UInt8) (qx1 : Int) (qx2 : Int) : St := Mem.st ⟨[], []⟩ (tl [(0, .v (.one (.d (.str qx)))), (2, .v (.one (.d (.int .i64 qx2)))), (8, .v (.one (.d (.bool (decide (qx1 = 0)))))), (9, .v (.one (.d (.str qx))))]) 0

theorem strconv_ParseUint_x4_ok (qx : List UInt8) (qx1 : Int) (qx2 : Int) {r} (hF : strconv_ParseUint_x4 qx = some r) : Awp prog 0 172 (cL (cR (cR (cL (cL (cR (cR (cL (cR (cR (cR (cL (cL (cR (cR (cR (cR (cB f304)))))))))))))))))) (Out 0 strconv_ParseUint_x4_k (strconv_ParseUint_x4_S qx qx1 qx2) r) (strconv_ParseUint_x4_I qx qx1 qx2) := by
  unfold strconv_ParseUint_x4 at hF
  refine cE hF (fun h15 hF => ?_) fun h15 hF => ?_
  · refine bE hF fun vc2 h16 hF => ?_
    refine bE hF fun _ h17 hF => ?_
    refine awp_region ?_
    refine aR 2 ?_
    refine aB h15 ?_
    refine aR 2 ?_
    refine aX (x_idxS h16) ?_
    refine aC (strconv_lower_ok h17) [] [] [] ?_
    refine aR 3 ?_
    refine aE ?_
    exact oO hF [] [] rfl
  · refine awp_region ?_
    refine aR 2 ?_
    refine aB h15 ?_
    refine aR 7 ?_
    refine aE ?_
    exact oO hF [] [] rfl

def strconv_ParseUint_x5_k : Bool → AEx
  | _ => .normal

def strconv_ParseUint_x5_S (qx : List UInt8) (qx1 : Int) (qx2 : Int) : Bool → St
  | vx4 => Mem.st ⟨[], []⟩ (tl [(0, .v (.one (.d (.str qx)))), (2, .v (.one (.d (.int .i64 qx2)))), (8, .v (.one (.d (.bool (decide (qx1 = 0)))))), (9, .v (.one (.d (.str qx)))), (64, .v (.one (.d (.bool vx4))))]) 0

def strconv_ParseUint_x5_I (qx : List UInt8) (qx1 : Int) (qx2 : Int) : St := Mem.st ⟨[], []⟩ (tl [(0, .v (.one (.d (.str qx)))), (2, .v (.one (.d (.int .i64 qx2)))), (8, .v (.one (.d (.bool (decide (qx1 = 0)))))), (9, .v (.one (.d (.str qx))))]) 0

theorem strconv_ParseUint_x5_ok (qx : List UInt8) (qx1 : Int) (qx2 : Int) {r} (hF : strconv_ParseUint_x5 qx = some r) : Awp prog 0 172 (cL (cR (cR (cR (cR (cL (cL (cR (cR (cL (cR (cR (cR (cL (cL (cR (cR (cR (cR (cB f304)))))))))))))))))))) (Out 0 strconv_ParseUint_x5_k (strconv_ParseUint_x5_S qx qx1 qx2) r) (strconv_ParseUint_x5_I qx qx1 qx2) := by
  unfold strconv_ParseUint_x5 at hF
  refine cE hF (fun h21 hF => ?_) fun h21 hF => ?_
  · refine bE hF fun vc3 h22 hF => ?_
    refine bE hF fun _ h23 hF => ?_
    refine awp_region ?_
    refine aR 2 ?_
    refine aB h21 ?_
    refine aR 2 ?_
    refine aX (x_idxS h22) ?_
    refine aC (strconv_lower_ok h23) [] [] [] ?_
    refine aR 3 ?_
    refine aE ?_
    exact oO hF [] [] rfl
  · refine awp_region ?_
    refine aR 2 ?_
    refine aB h21 ?_
    refine aR 7 ?_
    refine aE ?_
    exact oO hF [] [] rfl

def strconv_ParseUint_x1_k : ((List UInt8) × Int) → AEx
  | _ => .normal

def strconv_ParseUint_x1_S (qx : List UInt8) (qx1 : Int) (qx2 : Int) : ((List UInt8) × Int) → St
  | (vx5, vx6) => Mem.st ⟨[], []⟩ (tl [(0, .v (.one (.d (.str vx5)))), (1, .v (.one (.d (.int .i64 vx6)))), (2, .v (.one (.d (.int .i64 qx2)))), (8, .v (.one (.d (.bool (decide (qx1 = 0)))))), (9, .v (.one (.d (.str qx))))]) 0

def strconv_ParseUint_x1_I (qx : List UInt8) (qx1 : Int) (qx2 : Int) : St := Mem.st ⟨[], []⟩ (tl [(0, .v (.one (.d (.str qx)))), (1, .v (.one (.d (.int .i64 qx1)))), (2, .v (.one (.d (.int .i64 qx2)))), (8, .v (.one (.d (.bool (decide (qx1 = 0)))))), (9, .v (.one (.d (.str qx))))]) 0

theorem strconv_ParseUint_x1_ok (qx : List UInt8) (qx1 : Int) (qx2 : Int) {r} (hF : strconv_ParseUint_x1 qx qx1 = some r) : Awp prog 0 172 (cL (cR (cR (cR (cR (cB f304)))))) (Out 0 strconv_ParseUint_x1_k (strconv_ParseUint_x1_S qx qx1 qx2) r) (strconv_ParseUint_x1_I qx qx1 qx2) := by
  unfold strconv_ParseUint_x1 at hF
  refine awp_block ?_
  refine awp_seq ?_
  refine awp_to (st' := strconv_ParseUint_x2_I qx qx1 qx2) (oT [] []) ?_
  refine bE hF fun vx1 h4 hF => ?_
  refine awp_sub (strconv_ParseUint_x2_ok qx qx1 qx2 h4) ?_
  refine cE hF (fun h5 hF => ?_) fun h5 hF => ?_
  · refine awp_true (by kernel_rfl) h5 ?_
    refine awp_skip ?_
    exact oO hF [] [] rfl
  · refine awp_false (by kernel_rfl) h5 ?_
    refine awp_seq ?_
    refine awp_region ?_
    refine aR 3 ?_
    refine aE ?_
    refine cE hF (fun h6 hF => ?_) fun h6 hF => ?_
    · refine awp_true (by kernel_rfl) h6 ?_
      refine awp_seq ?_
      refine awp_region ?_
      refine aR 1 ?_
      refine aE ?_
      refine awp_seq ?_
      refine bE hF fun vc h7 hF => ?_
      refine awp_region ?_
      refine aR 1 ?_
      refine aX (x_idxS h7) ?_
      refine aR 1 ?_
      refine aE ?_
      refine cE hF (fun h8 hF => ?_) fun h8 hF => ?_
      · refine awp_true (by kernel_rfl) h8 ?_
        refine awp_block ?_
        refine awp_seq ?_
        refine awp_to (st' := strconv_ParseUint_x3_I qx qx1 qx2) (oT [] []) ?_
        refine bE hF fun vx2_1 h12 hF => ?_
        refine awp_sub (strconv_ParseUint_x3_ok qx qx1 qx2 h12) ?_
        refine cE hF (fun h13 hF => ?_) fun h13 hF => ?_
        · refine awp_true (by kernel_rfl) h13 ?_
          refine awp_seq ?_
          refine awp_region ?_
          refine aR 1 ?_
          refine aE ?_
          refine bE hF fun vs h14 hF => ?_
          refine awp_region ?_
          refine aR 1 ?_
          refine aX (x_sliceS h14) ?_
          refine aR 1 ?_
          refine aE ?_
          exact oO hF [] [] rfl
        · refine awp_false (by kernel_rfl) h13 ?_
          refine awp_seq ?_
          refine awp_to (st' := strconv_ParseUint_x4_I qx qx1 qx2) (oT [] []) ?_
          refine bE hF fun vx3_1 h18 hF => ?_
          refine awp_sub (strconv_ParseUint_x4_ok qx qx1 qx2 h18) ?_
          refine cE hF (fun h19 hF => ?_) fun h19 hF => ?_
          · refine awp_true (by kernel_rfl) h19 ?_
            refine awp_seq ?_
            refine awp_region ?_
            refine aR 1 ?_
            refine aE ?_
            refine bE hF fun vs1 h20 hF => ?_
            refine awp_region ?_
            refine aR 1 ?_
            refine aX (x_sliceS h20) ?_
            refine aR 1 ?_
            refine aE ?_
            exact oO hF [] [] rfl
          · refine awp_false (by kernel_rfl) h19 ?_
            refine awp_seq ?_
            refine awp_to (st' := strconv_ParseUint_x5_I qx qx1 qx2) (oT [] []) ?_
            refine bE hF fun vx4_1 h24 hF => ?_
            refine awp_sub (strconv_ParseUint_x5_ok qx qx1 qx2 h24) ?_
            refine cE hF (fun h25 hF => ?_) fun h25 hF => ?_
            · refine awp_true (by kernel_rfl) h25 ?_
              refine awp_seq ?_
              refine awp_region ?_
              refine aR 1 ?_
              refine aE ?_
              refine bE hF fun vs2 h26 hF => ?_
              refine awp_region ?_
              refine aR 1 ?_
              refine aX (x_sliceS h26) ?_
              refine aR 1 ?_
              refine aE ?_
              exact oO hF [] [] rfl
            · refine awp_false (by kernel_rfl) h25 ?_
              refine awp_seq ?_
              refine awp_region ?_
              refine aR 1 ?_
              refine aE ?_
              refine bE hF fun vs3 h27 hF => ?_
              refine awp_region ?_
              refine aR 1 ?_
              refine aX (x_sliceS h27) ?_
              refine aR 1 ?_
              refine aE ?_
              exact oO hF [] [] rfl
      · refine awp_false (by kernel_rfl) h8 ?_
        refine awp_skip ?_
        exact oO hF [] [] rfl
    · refine awp_false (by kernel_rfl) h6 ?_
      refine awp_seq ?_
      exact nE hF

def strconv_ParseUint_x7_k : Bool → AEx
  | _ => .normal

def strconv_ParseUint_x7_S (qx : List UInt8) (qx1 : Int) (qx2 : Int) (vx5_1 : List UInt8) (vx6_1 : Int) : Bool → St
  | vx7 => Mem.st ⟨[], []⟩ (tl [(0, .v (.one (.d (.str vx5_1)))), (1, .v (.one (.d (.int .i64 vx6_1)))), (2, .v (.one (.d (.int .i64 qx2)))), (8, .v (.one (.d (.bool (decide (qx1 = 0)))))), (9, .v (.one (.d (.str qx)))), (83, .v (.one (.d (.bool vx7))))]) 0

def strconv_ParseUint_x7_I (qx : List UInt8) (qx1 : Int) (qx2 : Int) (vx5_1 : List UInt8) (vx6_1 : Int) : St := Mem.st ⟨[], []⟩ (tl [(0, .v (.one (.d (.str vx5_1)))), (1, .v (.one (.d (.int .i64 vx6_1)))), (2, .v (.one (.d (.int .i64 qx2)))), (8, .v (.one (.d (.bool (decide (qx1 = 0)))))), (9, .v (.one (.d (.str qx))))]) 0

theorem strconv_ParseUint_x7_ok (qx : List UInt8) (qx1 : Int) (qx2 : Int) (vx5_1 : List UInt8) (vx6_1 : Int) {r} (hF : strconv_ParseUint_x7 qx2 = some r) : Awp prog 0 172 (cL (cR (cR (cL (cR (cR (cR (cR (cR (cB f304)))))))))) (Out 0 strconv_ParseUint_x7_k (strconv_ParseUint_x7_S qx qx1 qx2 vx5_1 vx6_1) r) (strconv_ParseUint_x7_I qx qx1 qx2 vx5_1 vx6_1) := by
  unfold strconv_ParseUint_x7 at hF
  refine cE hF (fun h31 hF => ?_) fun h31 hF => ?_
  · refine awp_region ?_
    refine aR 1 ?_
    refine aB h31 ?_
    refine aR 4 ?_
    refine aE ?_
    exact oO hF [] [] rfl
  · refine awp_region ?_
    refine aR 1 ?_
    refine aB h31 ?_
    refine aR 4 ?_
    refine aE ?_
    exact oO hF [] [] rfl

def strconv_ParseUint_x6_k : Int → AEx
  | _ => .normal

def strconv_ParseUint_x6_S (qx : List UInt8) (qx1 : Int) (qx2 : Int) (vx5_1 : List UInt8) (vx6_1 : Int) : Int → St
  | vx8 => Mem.st ⟨[], []⟩ (tl [(0, .v (.one (.d (.str vx5_1)))), (1, .v (.one (.d (.int .i64 vx6_1)))), (2, .v (.one (.d (.int .i64 vx8)))), (8, .v (.one (.d (.bool (decide (qx1 = 0)))))), (9, .v (.one (.d (.str qx))))]) 0

def strconv_ParseUint_x6_I (qx : List UInt8) (qx1 : Int) (qx2 : Int) (vx5_1 : List UInt8) (vx6_1 : Int) : St := Mem.st ⟨[], []⟩ (tl [(0, .v (.one (.d (.str vx5_1)))), (1, .v (.one (.d (.int .i64 vx6_1)))), (2, .v (.one (.d (.int .i64 qx2)))), (8, .v (.one (.d (.bool (decide (qx1 = 0)))))), (9, .v (.one (.d (.str qx))))]) 0

theorem strconv_ParseUint_x6_ok (qx : List UInt8) (qx1 : Int) (qx2 : Int) (vx5_1 : List UInt8) (vx6_1 : Int) {r} (hF : strconv_ParseUint_x6 qx2 = some r) : Awp prog 0 172 (cL (cR (cR (cR (cR (cR (cB f304))))))) (Out 0 strconv_ParseUint_x6_k (strconv_ParseUint_x6_S qx qx1 qx2 vx5_1 vx6_1) r) (strconv_ParseUint_x6_I qx qx1 qx2 vx5_1 vx6_1) := by
  unfold strconv_ParseUint_x6 at hF
  refine awp_seq ?_
  refine awp_region ?_
  refine aR 2 ?_
  refine aE ?_
  refine cE hF (fun h30 hF => ?_) fun h30 hF => ?_
  · refine awp_true (by kernel_rfl) h30 ?_
    refine awp_region ?_
    refine aR 1 ?_
    refine aE ?_
    exact oO hF [] [] rfl
  · refine awp_false (by kernel_rfl) h30 ?_
    refine awp_seq ?_
    refine awp_to (st' := strconv_ParseUint_x7_I qx qx1 qx2 vx5_1 vx6_1) (oT [] []) ?_
    refine bE hF fun vx7_1 h32 hF => ?_
    refine awp_sub (strconv_ParseUint_x7_ok qx qx1 qx2 vx5_1 vx6_1 h32) ?_
    refine cE hF (fun h33 hF => ?_) fun h33 hF => ?_
    · refine awp_true (by kernel_rfl) h33 ?_
      refine awp_seq ?_
      exact nE hF
    · refine awp_false (by kernel_rfl) h33 ?_
      refine awp_skip ?_
      exact oO hF [] [] rfl

def strconv_ParseUint_x8_k : Int → AEx
  | _ => .normal

def strconv_ParseUint_x8_S (qx : List UInt8) (qx1 : Int) (vx5_1 : List UInt8) (vx6_1 : Int) (vx8_1 : Int) : Int → St
  | vx9 => Mem.st ⟨[], []⟩ (tl [(0, .v (.one (.d (.str vx5_1)))), (1, .v (.one (.d (.int .i64 vx6_1)))), (2, .v (.one (.d (.int .i64 vx8_1)))), (8, .v (.one (.d (.bool (decide (qx1 = 0)))))), (9, .v (.one (.d (.str qx)))), (10, .v (.one (.d (.int .u64 vx9))))]) 0

def strconv_ParseUint_x8_I (qx : List UInt8) (qx1 : Int) (vx5_1 : List UInt8) (vx6_1 : Int) (vx8_1 : Int) : St := Mem.st ⟨[], []⟩ (tl [(0, .v (.one (.d (.str vx5_1)))), (1, .v (.one (.d (.int .i64 vx6_1)))), (2, .v (.one (.d (.int .i64 vx8_1)))), (8, .v (.one (.d (.bool (decide (qx1 = 0)))))), (9, .v (.one (.d (.str qx))))]) 0

theorem strconv_ParseUint_x8_ok (qx : List UInt8) (qx1 : Int) (vx5_1 : List UInt8) (vx6_1 : Int) (vx8_1 : Int) {r} (hF : strconv_ParseUint_x8 vx6_1 = some r) : Awp prog 0 172 (cL (cR (cR (cR (cR (cR (cR (cR (cB f304))))))))) (Out 0 strconv_ParseUint_x8_k (strconv_ParseUint_x8_S qx qx1 vx5_1 vx6_1 vx8_1) r) (strconv_ParseUint_x8_I qx qx1 vx5_1 vx6_1 vx8_1) := by
  unfold strconv_ParseUint_x8 at hF
  refine awp_seq ?_
  refine awp_region ?_
  refine aR 1 ?_
  refine aE ?_
  refine awp_block ?_
  refine awp_seq ?_
  refine awp_region ?_
  refine aR 2 ?_
  refine aE ?_
  refine cE hF (fun h36 hF => ?_) fun h36 hF => ?_
  · refine awp_true (by kernel_rfl) h36 ?_
    refine awp_region ?_
    refine aR 1 ?_
    refine aE ?_
    exact oO hF [] [] rfl
  · refine awp_false (by kernel_rfl) h36 ?_
    refine awp_seq ?_
    refine awp_region ?_
    refine aR 2 ?_
    refine aE ?_
    refine cE hF (fun h37 hF => ?_) fun h37 hF => ?_
    · refine awp_true (by kernel_rfl) h37 ?_
      refine awp_region ?_
      refine aR 1 ?_
      refine aE ?_
      exact oO hF [] [] rfl
    · refine awp_false (by kernel_rfl) h37 ?_
      refine gE hF fun h38 hF => ?_
      refine awp_region ?_
      refine aR 2 ?_
      refine aX (x_quo h38) ?_
      refine aR 2 ?_
      refine aE ?_
      exact oO hF [] [] rfl

def strconv_ParseUint_x12_k : Bool → AEx
  | _ => .normal

def strconv_ParseUint_x12_S (qx : List UInt8) (qx1 : Int) (vx5_1 : List UInt8) (vx6_1 : Int) (vx8_1 : Int) (vx9_1 : Int) (vx10 : Bool) (vx11 : Int) (vx12 : Int) (vy1 : Int) : Bool → St
  | vx20 => Mem.st ⟨[], []⟩ (tl [(1, .v (.one (.d (.int .i64 vx6_1)))), (8, .v (.one (.d (.bool (decide (qx1 = 0)))))), (9, .v (.one (.d (.str qx)))), (10, .v (.one (.d (.int .u64 vx9_1)))), (11, .v (.one (.d (.int .u64 (IntKind.wrap .u64 ((ishl .u64 1 (IntKind.wrap .u64 (vx8_1))) - 1)))))), (12, .v (.one (.d (.bool vx10)))), (13, .v (.one (.d (.int .u64 vx11)))), (15, .v (.one (.d (.int .u8 vy1)))), (99, .v (.one (.d (.lst (List.map (encI .u8) (bytesD vx5_1)))))), (100, .v (.one (.d (.int .i64 ((bytesD vx5_1).length : Int))))), (101, .v (.one (.d (.int .i64 vx12)))), (106, .v (.one (.d (.bool vx20))))]) 0

def strconv_ParseUint_x12_I (qx : List UInt8) (qx1 : Int) (vx5_1 : List UInt8) (vx6_1 : Int) (vx8_1 : Int) (vx9_1 : Int) (vx10 : Bool) (vx11 : Int) (vx12 : Int) (vy1 : Int) : St := Mem.st ⟨[], []⟩ (tl [(1, .v (.one (.d (.int .i64 vx6_1)))), (8, .v (.one (.d (.bool (decide (qx1 = 0)))))), (9, .v (.one (.d (.str qx)))), (10, .v (.one (.d (.int .u64 vx9_1)))), (11, .v (.one (.d (.int .u64 (IntKind.wrap .u64 ((ishl .u64 1 (IntKind.wrap .u64 (vx8_1))) - 1)))))), (12, .v (.one (.d (.bool vx10)))), (13, .v (.one (.d (.int .u64 vx11)))), (15, .v (.one (.d (.int .u8 vy1)))), (99, .v (.one (.d (.lst (List.map (encI .u8) (bytesD vx5_1)))))), (100, .v (.one (.d (.int .i64 ((bytesD vx5_1).length : Int))))), (101, .v (.one (.d (.int .i64 vx12))))]) 0

theorem strconv_ParseUint_x12_ok (qx : List UInt8) (qx1 : Int) (vx5_1 : List UInt8) (vx6_1 : Int) (vx8_1 : Int) (vx9_1 : Int) (vx10 : Bool) (vx11 : Int) (vx12 : Int) (vy1 : Int) {r} (hF : strconv_ParseUint_x12 qx1 vy1 = some r) : Awp prog 0 172 (cL (cL (cL (cR (cR (cL (cL (cR (cR (cL (cL (cR (cL (cR (cR (cR (cR (cR (cR (cR (cR (cR (cR (cR (cB f304))))))))))))))))))))))))) (Out 0 strconv_ParseUint_x12_k (strconv_ParseUint_x12_S qx qx1 vx5_1 vx6_1 vx8_1 vx9_1 vx10 vx11 vx12 vy1) r) (strconv_ParseUint_x12_I qx qx1 vx5_1 vx6_1 vx8_1 vx9_1 vx10 vx11 vx12 vy1) := by
  unfold strconv_ParseUint_x12 at hF
  refine cE hF (fun h43 hF => ?_) fun h43 hF => ?_
  · refine awp_region ?_
    refine aR 1 ?_
    refine aB h43 ?_
    refine aR 4 ?_
    refine aE ?_
    exact oO hF [] [] rfl
  · refine awp_region ?_
    refine aR 1 ?_
    refine aB h43 ?_
    refine aR 4 ?_
    refine aE ?_
    exact oO hF [] [] rfl

def strconv_ParseUint_x13_k : Bool → AEx
  | _ => .normal

def strconv_ParseUint_x13_S (qx : List UInt8) (qx1 : Int) (vx5_1 : List UInt8) (vx6_1 : Int) (vx8_1 : Int) (vx9_1 : Int) (vx10 : Bool) (vx11 : Int) (vx12 : Int) (vy1 : Int) : Bool → St
  | vx21 => Mem.st ⟨[], []⟩ (tl [(1, .v (.one (.d (.int .i64 vx6_1)))), (8, .v (.one (.d (.bool (decide (qx1 = 0)))))), (9, .v (.one (.d (.str qx)))), (10, .v (.one (.d (.int .u64 vx9_1)))), (11, .v (.one (.d (.int .u64 (IntKind.wrap .u64 ((ishl .u64 1 (IntKind.wrap .u64 (vx8_1))) - 1)))))), (12, .v (.one (.d (.bool vx10)))), (13, .v (.one (.d (.int .u64 vx11)))), (15, .v (.one (.d (.int .u8 vy1)))), (99, .v (.one (.d (.lst (List.map (encI .u8) (bytesD vx5_1)))))), (100, .v (.one (.d (.int .i64 ((bytesD vx5_1).length : Int))))), (101, .v (.one (.d (.int .i64 vx12)))), (112, .v (.one (.d (.bool vx21))))]) 0

def strconv_ParseUint_x13_I (qx : List UInt8) (qx1 : Int) (vx5_1 : List UInt8) (vx6_1 : Int) (vx8_1 : Int) (vx9_1 : Int) (vx10 : Bool) (vx11 : Int) (vx12 : Int) (vy1 : Int) : St := Mem.st ⟨[], []⟩ (tl [(1, .v (.one (.d (.int .i64 vx6_1)))), (8, .v (.one (.d (.bool (decide (qx1 = 0)))))), (9, .v (.one (.d (.str qx)))), (10, .v (.one (.d (.int .u64 vx9_1)))), (11, .v (.one (.d (.int .u64 (IntKind.wrap .u64 ((ishl .u64 1 (IntKind.wrap .u64 (vx8_1))) - 1)))))), (12, .v (.one (.d (.bool vx10)))), (13, .v (.one (.d (.int .u64 vx11)))), (15, .v (.one (.d (.int .u8 vy1)))), (99, .v (.one (.d (.lst (List.map (encI .u8) (bytesD vx5_1)))))), (100, .v (.one (.d (.int .i64 ((bytesD vx5_1).length : Int))))), (101, .v (.one (.d (.int .i64 vx12))))]) 0

theorem strconv_ParseUint_x13_ok (qx : List UInt8) (qx1 : Int) (vx5_1 : List UInt8) (vx6_1 : Int) (vx8_1 : Int) (vx9_1 : Int) (vx10 : Bool) (vx11 : Int) (vx12 : Int) (vy1 : Int) {r} (hF : strconv_ParseUint_x13 vy1 = some r) : Awp prog 0 172 (cL (cR (cR (cL (cL (cR (cR (cL (cL (cR (cR (cL (cL (cR (cL (cR (cR (cR (cR (cR (cR (cR (cR (cR (cR (cR (cB f304))))))))))))))))))))))))))) (Out 0 strconv_ParseUint_x13_k (strconv_ParseUint_x13_S qx qx1 vx5_1 vx6_1 vx8_1 vx9_1 vx10 vx11 vx12 vy1) r) (strconv_ParseUint_x13_I qx qx1 vx5_1 vx6_1 vx8_1 vx9_1 vx10 vx11 vx12 vy1) := by
  unfold strconv_ParseUint_x13 at hF
  refine cE hF (fun h46 hF => ?_) fun h46 hF => ?_
  · refine awp_region ?_
    refine aR 1 ?_
    refine aB h46 ?_
    refine aR 5 ?_
    refine aE ?_
    exact oO hF [] [] rfl
  · refine awp_region ?_
    refine aR 1 ?_
    refine aB h46 ?_
    refine aR 5 ?_
    refine aE ?_
    exact oO hF [] [] rfl

def strconv_ParseUint_x14_k : Bool → AEx
  | _ => .normal

def strconv_ParseUint_x14_S (qx : List UInt8) (qx1 : Int) (vx5_1 : List UInt8) (vx6_1 : Int) (vx8_1 : Int) (vx9_1 : Int) (vx10 : Bool) (vx11 : Int) (vx12 : Int) (vy1 : Int) : Bool → St
  | vx22 => Mem.st ⟨[], []⟩ (tl [(1, .v (.one (.d (.int .i64 vx6_1)))), (8, .v (.one (.d (.bool (decide (qx1 = 0)))))), (9, .v (.one (.d (.str qx)))), (10, .v (.one (.d (.int .u64 vx9_1)))), (11, .v (.one (.d (.int .u64 (IntKind.wrap .u64 ((ishl .u64 1 (IntKind.wrap .u64 (vx8_1))) - 1)))))), (12, .v (.one (.d (.bool vx10)))), (13, .v (.one (.d (.int .u64 vx11)))), (15, .v (.one (.d (.int .u8 vy1)))), (99, .v (.one (.d (.lst (List.map (encI .u8) (bytesD vx5_1)))))), (100, .v (.one (.d (.int .i64 ((bytesD vx5_1).length : Int))))), (101, .v (.one (.d (.int .i64 vx12)))), (121, .v (.one (.d (.bool vx22))))]) 0

def strconv_ParseUint_x14_I (qx : List UInt8) (qx1 : Int) (vx5_1 : List UInt8) (vx6_1 : Int) (vx8_1 : Int) (vx9_1 : Int) (vx10 : Bool) (vx11 : Int) (vx12 : Int) (vy1 : Int) : St := Mem.st ⟨[], []⟩ (tl [(1, .v (.one (.d (.int .i64 vx6_1)))), (8, .v (.one (.d (.bool (decide (qx1 = 0)))))), (9, .v (.one (.d (.str qx)))), (10, .v (.one (.d (.int .u64 vx9_1)))), (11, .v (.one (.d (.int .u64 (IntKind.wrap .u64 ((ishl .u64 1 (IntKind.wrap .u64 (vx8_1))) - 1)))))), (12, .v (.one (.d (.bool vx10)))), (13, .v (.one (.d (.int .u64 vx11)))), (15, .v (.one (.d (.int .u8 vy1)))), (99, .v (.one (.d (.lst (List.map (encI .u8) (bytesD vx5_1)))))), (100, .v (.one (.d (.int .i64 ((bytesD vx5_1).length : Int))))), (101, .v (.one (.d (.int .i64 vx12))))]) 0

theorem strconv_ParseUint_x14_ok (qx : List UInt8) (qx1 : Int) (vx5_1 : List UInt8) (vx6_1 : Int) (vx8_1 : Int) (vx9_1 : Int) (vx10 : Bool) (vx11 : Int) (vx12 : Int) (vy1 : Int) {r} (hF : strconv_ParseUint_x14 vy1 = some r) : Awp prog 0 172 (cL (cR (cR (cR (cR (cL (cL (cR (cR (cL (cL (cR (cR (cL (cL (cR (cL (cR (cR (cR (cR (cR (cR (cR (cR (cR (cR (cR (cB f304))))))))))))))))))))))))))))) (Out 0 strconv_ParseUint_x14_k (strconv_ParseUint_x14_S qx qx1 vx5_1 vx6_1 vx8_1 vx9_1 vx10 vx11 vx12 vy1) r) (strconv_ParseUint_x14_I qx qx1 vx5_1 vx6_1 vx8_1 vx9_1 vx10 vx11 vx12 vy1) := by
  unfold strconv_ParseUint_x14 at hF
  refine bE hF fun _ h49 hF => ?_
  refine cE hF (fun h50 hF => ?_) fun h50 hF => ?_
  · refine awp_region ?_
    refine aR 1 ?_
    refine aC (strconv_lower_ok h49) [] [] [] ?_
    refine aB h50 ?_
    refine aR 2 ?_
    refine aC (strconv_lower_ok h49) [] [] [] ?_
    refine aR 3 ?_
    refine aE ?_
    exact oO hF [] [] rfl
  · refine awp_region ?_
    refine aR 1 ?_
    refine aC (strconv_lower_ok h49) [] [] [] ?_
    refine aB h50 ?_
    refine aR 6 ?_
    refine aE ?_
    exact oO hF [] [] rfl

def strconv_ParseUint_x11_k : Int ⊕ Unit → AEx
  | .inl _ => .normal
  | .inr _ => .exit 4

def strconv_ParseUint_x11_S (qx : List UInt8) (qx1 : Int) (vx5_1 : List UInt8) (vx6_1 : Int) (vx8_1 : Int) (vx9_1 : Int) (vx10 : Bool) (vx11 : Int) (vx12 : Int) (vy1 : Int) : Int ⊕ Unit → St
  | .inl vx23 => Mem.st ⟨[], []⟩ (tl [(1, .v (.one (.d (.int .i64 vx6_1)))), (8, .v (.one (.d (.bool (decide (qx1 = 0)))))), (9, .v (.one (.d (.str qx)))), (10, .v (.one (.d (.int .u64 vx9_1)))), (11, .v (.one (.d (.int .u64 (IntKind.wrap .u64 ((ishl .u64 1 (IntKind.wrap .u64 (vx8_1))) - 1)))))), (12, .v (.one (.d (.bool vx10)))), (13, .v (.one (.d (.int .u64 vx11)))), (16, .v (.one (.d (.int .u8 vx23)))), (99, .v (.one (.d (.lst (List.map (encI .u8) (bytesD vx5_1)))))), (100, .v (.one (.d (.int .i64 ((bytesD vx5_1).length : Int))))), (101, .v (.one (.d (.int .i64 vx12))))]) 0
  | .inr _ => Mem.st ⟨[], []⟩ (tl [(1, .v (.one (.d (.int .i64 vx6_1)))), (8, .v (.one (.d (.bool (decide (qx1 = 0)))))), (9, .v (.one (.d (.str qx)))), (10, .v (.one (.d (.int .u64 vx9_1)))), (11, .v (.one (.d (.int .u64 (IntKind.wrap .u64 ((ishl .u64 1 (IntKind.wrap .u64 (vx8_1))) - 1)))))), (12, .v (.one (.d (.bool true)))), (13, .v (.one (.d (.int .u64 vx11)))), (99, .v (.one (.d (.lst (List.map (encI .u8) (bytesD vx5_1)))))), (100, .v (.one (.d (.int .i64 ((bytesD vx5_1).length : Int))))), (101, .v (.one (.d (.int .i64 vx12))))]) 0

def strconv_ParseUint_x11_I (qx : List UInt8) (qx1 : Int) (vx5_1 : List UInt8) (vx6_1 : Int) (vx8_1 : Int) (vx9_1 : Int) (vx10 : Bool) (vx11 : Int) (vx12 : Int) (vy1 : Int) : St := Mem.st ⟨[], []⟩ (tl [(1, .v (.one (.d (.int .i64 vx6_1)))), (8, .v (.one (.d (.bool (decide (qx1 = 0)))))), (9, .v (.one (.d (.str qx)))), (10, .v (.one (.d (.int .u64 vx9_1)))), (11, .v (.one (.d (.int .u64 (IntKind.wrap .u64 ((ishl .u64 1 (IntKind.wrap .u64 (vx8_1))) - 1)))))), (12, .v (.one (.d (.bool vx10)))), (13, .v (.one (.d (.int .u64 vx11)))), (15, .v (.one (.d (.int .u8 vy1)))), (99, .v (.one (.d (.lst (List.map (encI .u8) (bytesD vx5_1)))))), (100, .v (.one (.d (.int .i64 ((bytesD vx5_1).length : Int))))), (101, .v (.one (.d (.int .i64 vx12))))]) 0

theorem strconv_ParseUint_x11_ok (qx : List UInt8) (qx1 : Int) (vx5_1 : List UInt8) (vx6_1 : Int) (vx8_1 : Int) (vx9_1 : Int) (vx10 : Bool) (vx11 : Int) (vx12 : Int) (vy1 : Int) {r} (hF : strconv_ParseUint_x11 qx1 vy1 = some r) : Awp prog 0 172 (cL (cR (cR (cL (cL (cR (cR (cL (cL (cR (cL (cR (cR (cR (cR (cR (cR (cR (cR (cR (cR (cR (cB f304))))))))))))))))))))))) (Out 0 strconv_ParseUint_x11_k (strconv_ParseUint_x11_S qx qx1 vx5_1 vx6_1 vx8_1 vx9_1 vx10 vx11 vx12 vy1) r) (strconv_ParseUint_x11_I qx qx1 vx5_1 vx6_1 vx8_1 vx9_1 vx10 vx11 vx12 vy1) := by
  unfold strconv_ParseUint_x11 at hF
  refine awp_block ?_
  refine awp_seq ?_
  refine awp_to (st' := strconv_ParseUint_x12_I qx qx1 vx5_1 vx6_1 vx8_1 vx9_1 vx10 vx11 vx12 vy1) (oT [] []) ?_
  refine bE hF fun vx20_1 h44 hF => ?_
  refine awp_sub (strconv_ParseUint_x12_ok qx qx1 vx5_1 vx6_1 vx8_1 vx9_1 vx10 vx11 vx12 vy1 h44) ?_
  refine cE hF (fun h45 hF => ?_) fun h45 hF => ?_
  · refine awp_true (by kernel_rfl) h45 ?_
    refine awp_seq ?_
    refine awp_region ?_
    refine aR 1 ?_
    refine aE ?_
    refine awp_exit ?_
    exact oO hF [] [] rfl
  · refine awp_false (by kernel_rfl) h45 ?_
    refine awp_seq ?_
    refine awp_to (st' := strconv_ParseUint_x13_I qx qx1 vx5_1 vx6_1 vx8_1 vx9_1 vx10 vx11 vx12 vy1) (oT [] []) ?_
    refine bE hF fun vx21_1 h47 hF => ?_
    refine awp_sub (strconv_ParseUint_x13_ok qx qx1 vx5_1 vx6_1 vx8_1 vx9_1 vx10 vx11 vx12 vy1 h47) ?_
    refine cE hF (fun h48 hF => ?_) fun h48 hF => ?_
    · refine awp_true (by kernel_rfl) h48 ?_
      refine awp_region ?_
      refine aR 3 ?_
      refine aE ?_
      exact oO hF [] [] rfl
    · refine awp_false (by kernel_rfl) h48 ?_
      refine awp_seq ?_
      refine awp_to (st' := strconv_ParseUint_x14_I qx qx1 vx5_1 vx6_1 vx8_1 vx9_1 vx10 vx11 vx12 vy1) (oT [] []) ?_
      refine bE hF fun vx22_1 h51 hF => ?_
      refine awp_sub (strconv_ParseUint_x14_ok qx qx1 vx5_1 vx6_1 vx8_1 vx9_1 vx10 vx11 vx12 vy1 h51) ?_
      refine cE hF (fun h52 hF => ?_) fun h52 hF => ?_
      · refine awp_true (by kernel_rfl) h52 ?_
        refine bE hF fun _ h53 hF => ?_
        refine awp_region ?_
        refine aR 1 ?_
        refine aC (strconv_lower_ok h53) [] [] [] ?_
        refine aR 3 ?_
        refine aE ?_
        exact oO hF [] [] rfl
      · refine awp_false (by kernel_rfl) h52 ?_
        refine awp_seq ?_
        exact nE hF

def strconv_ParseUint_x15_k : Bool → AEx
  | _ => .normal

def strconv_ParseUint_x15_S (qx : List UInt8) (qx1 : Int) (vx5_1 : List UInt8) (vx6_1 : Int) (vx8_1 : Int) (vx9_1 : Int) (vx10 : Bool) (vx11 : Int) (vx12 : Int) (vx23_1 : Int) : Bool → St
  | vx24 => Mem.st ⟨[], []⟩ (tl [(1, .v (.one (.d (.int .i64 vx6_1)))), (8, .v (.one (.d (.bool (decide (qx1 = 0)))))), (9, .v (.one (.d (.str qx)))), (10, .v (.one (.d (.int .u64 vx9_1)))), (11, .v (.one (.d (.int .u64 (IntKind.wrap .u64 ((ishl .u64 1 (IntKind.wrap .u64 (vx8_1))) - 1)))))), (12, .v (.one (.d (.bool vx10)))), (17, .v (.one (.d (.int .u64 (IntKind.wrap .u64 ((IntKind.wrap .u64 (vx11 * (IntKind.wrap .u64 (vx6_1)))) + (IntKind.wrap .u64 (vx23_1)))))))), (99, .v (.one (.d (.lst (List.map (encI .u8) (bytesD vx5_1)))))), (100, .v (.one (.d (.int .i64 ((bytesD vx5_1).length : Int))))), (101, .v (.one (.d (.int .i64 vx12)))), (159, .v (.one (.d (.bool vx24))))]) 0

def strconv_ParseUint_x15_I (qx : List UInt8) (qx1 : Int) (vx5_1 : List UInt8) (vx6_1 : Int) (vx8_1 : Int) (vx9_1 : Int) (vx10 : Bool) (vx11 : Int) (vx12 : Int) (vx23_1 : Int) : St := Mem.st ⟨[], []⟩ (tl [(1, .v (.one (.d (.int .i64 vx6_1)))), (8, .v (.one (.d (.bool (decide (qx1 = 0)))))), (9, .v (.one (.d (.str qx)))), (10, .v (.one (.d (.int .u64 vx9_1)))), (11, .v (.one (.d (.int .u64 (IntKind.wrap .u64 ((ishl .u64 1 (IntKind.wrap .u64 (vx8_1))) - 1)))))), (12, .v (.one (.d (.bool vx10)))), (13, .v (.one (.d (.int .u64 (IntKind.wrap .u64 (vx11 * (IntKind.wrap .u64 (vx6_1)))))))), (17, .v (.one (.d (.int .u64 (IntKind.wrap .u64 ((IntKind.wrap .u64 (vx11 * (IntKind.wrap .u64 (vx6_1)))) + (IntKind.wrap .u64 (vx23_1)))))))), (99, .v (.one (.d (.lst (List.map (encI .u8) (bytesD vx5_1)))))), (100, .v (.one (.d (.int .i64 ((bytesD vx5_1).length : Int))))), (101, .v (.one (.d (.int .i64 vx12))))]) 0

theorem strconv_ParseUint_x15_ok (qx : List UInt8) (qx1 : Int) (vx5_1 : List UInt8) (vx6_1 : Int) (vx8_1 : Int) (vx9_1 : Int) (vx10 : Bool) (vx11 : Int) (vx12 : Int) (vx23_1 : Int) {r} (hF : strconv_ParseUint_x15 vx6_1 vx8_1 vx11 vx23_1 = some r) : Awp prog 0 172 (cL (cL (cR (cR (cR (cR (cR (cR (cR (cL (cL (cR (cR (cL (cL (cR (cL (cR (cR (cR (cR (cR (cR (cR (cR (cR (cR (cR (cB f304))))))))))))))))))))))))))))) (Out 0 strconv_ParseUint_x15_k (strconv_ParseUint_x15_S qx qx1 vx5_1 vx6_1 vx8_1 vx9_1 vx10 vx11 vx12 vx23_1) r) (strconv_ParseUint_x15_I qx qx1 vx5_1 vx6_1 vx8_1 vx9_1 vx10 vx11 vx12 vx23_1) := by
  unfold strconv_ParseUint_x15 at hF
  refine cE hF (fun h60 hF => ?_) fun h60 hF => ?_
  · refine awp_region ?_
    refine aR 2 ?_
    refine aB h60 ?_
    refine aR 5 ?_
    refine aE ?_
    exact oO hF [] [] rfl
  · refine awp_region ?_
    refine aR 2 ?_
    refine aB h60 ?_
    refine aR 5 ?_
    refine aE ?_
    exact oO hF [] [] rfl

def strconv_ParseUint_x10_k : (Bool × Int) → AEx
  | _ => .normal

def strconv_ParseUint_x10_S (qx : List UInt8) (qx1 : Int) (vx5_1 : List UInt8) (vx6_1 : Int) (vx8_1 : Int) (vx9_1 : Int) (vx10 : Bool) (vx11 : Int) (vx12 : Int) : (Bool × Int) → St
  | (vx25, vx26) => Mem.st ⟨[], []⟩ (tl [(1, .v (.one (.d (.int .i64 vx6_1)))), (8, .v (.one (.d (.bool (decide (qx1 = 0)))))), (9, .v (.one (.d (.str qx)))), (10, .v (.one (.d (.int .u64 vx9_1)))), (11, .v (.one (.d (.int .u64 (IntKind.wrap .u64 ((ishl .u64 1 (IntKind.wrap .u64 (vx8_1))) - 1)))))), (12, .v (.one (.d (.bool vx25)))), (13, .v (.one (.d (.int .u64 vx26)))), (99, .v (.one (.d (.lst (List.map (encI .u8) (bytesD vx5_1)))))), (100, .v (.one (.d (.int .i64 ((bytesD vx5_1).length : Int))))), (101, .v (.one (.d (.int .i64 vx12))))]) 0

def strconv_ParseUint_x10_I (qx : List UInt8) (qx1 : Int) (vx5_1 : List UInt8) (vx6_1 : Int) (vx8_1 : Int) (vx9_1 : Int) (vx10 : Bool) (vx11 : Int) (vx12 : Int) : St := Mem.st ⟨[], []⟩ (tl [(1, .v (.one (.d (.int .i64 vx6_1)))), (8, .v (.one (.d (.bool (decide (qx1 = 0)))))), (9, .v (.one (.d (.str qx)))), (10, .v (.one (.d (.int .u64 vx9_1)))), (11, .v (.one (.d (.int .u64 (IntKind.wrap .u64 ((ishl .u64 1 (IntKind.wrap .u64 (vx8_1))) - 1)))))), (12, .v (.one (.d (.bool vx10)))), (13, .v (.one (.d (.int .u64 vx11)))), (99, .v (.one (.d (.lst (List.map (encI .u8) (bytesD vx5_1)))))), (100, .v (.one (.d (.int .i64 ((bytesD vx5_1).length : Int))))), (101, .v (.one (.d (.int .i64 vx12))))]) 0

theorem strconv_ParseUint_x10_ok (qx : List UInt8) (qx1 : Int) (vx5_1 : List UInt8) (vx6_1 : Int) (vx8_1 : Int) (vx9_1 : Int) (vx10 : Bool) (vx11 : Int) (vx12 : Int) {r} (hF : strconv_ParseUint_x10 qx1 vx5_1 vx6_1 vx8_1 vx9_1 vx10 vx11 vx12 = some r) : Awp prog 0 172 (cL (cR (cR (cL (cL (cR (cL (cR (cR (cR (cR (cR (cR (cR (cR (cR (cR (cR (cB f304))))))))))))))))))) (Out 0 strconv_ParseUint_x10_k (strconv_ParseUint_x10_S qx qx1 vx5_1 vx6_1 vx8_1 vx9_1 vx10 vx11 vx12) r) (strconv_ParseUint_x10_I qx qx1 vx5_1 vx6_1 vx8_1 vx9_1 vx10 vx11 vx12) := by
  unfold strconv_ParseUint_x10 at hF
  refine awp_block ?_
  refine awp_seq ?_
  refine bE hF fun vy1 h42 hF => ?_
  refine awp_region ?_
  refine aX (x_idx (encI .u8) h42) ?_
  refine aR 2 ?_
  refine aE ?_
  refine awp_seq ?_
  refine awp_region ?_
  refine aR 1 ?_
  refine aE ?_
  refine awp_seq ?_
  refine awp_to (st' := strconv_ParseUint_x11_I qx qx1 vx5_1 vx6_1 vx8_1 vx9_1 vx10 vx11 vx12 vy1) (oT [] []) ?_
  refine bE hF fun x h55 hF => ?_
  rcases x with vx23_1 | _
  · refine awp_sub (strconv_ParseUint_x11_ok qx qx1 vx5_1 vx6_1 vx8_1 vx9_1 vx10 vx11 vx12 vy1 h55) ?_
    refine awp_seq ?_
    refine awp_seq ?_
    refine awp_region ?_
    refine aR 4 ?_
    refine aE ?_
    refine cE hF (fun h56 hF => ?_) fun h56 hF => ?_
    · refine awp_true (by kernel_rfl) h56 ?_
      refine awp_seq ?_
      exact nE hF
    · refine awp_false (by kernel_rfl) h56 ?_
      refine awp_skip ?_
      refine awp_seq ?_
      refine awp_seq ?_
      refine awp_region ?_
      refine aR 3 ?_
      refine aE ?_
      refine cE hF (fun h58 hF => ?_) fun h58 hF => ?_
      · refine awp_true (by kernel_rfl) h58 ?_
        refine awp_seq ?_
        exact nE hF
      · refine awp_false (by kernel_rfl) h58 ?_
        refine awp_skip ?_
        refine awp_seq ?_
        refine awp_region ?_
        refine aR 5 ?_
        refine aE ?_
        refine awp_seq ?_
        refine awp_region ?_
        refine aR 5 ?_
        refine aE ?_
        refine awp_seq ?_
        refine awp_seq ?_
        refine awp_to (st' := strconv_ParseUint_x15_I qx qx1 vx5_1 vx6_1 vx8_1 vx9_1 vx10 vx11 vx12 vx23_1) (oT [] []) ?_
        refine bE hF fun vx24_1 h61 hF => ?_
        refine awp_sub (strconv_ParseUint_x15_ok qx qx1 vx5_1 vx6_1 vx8_1 vx9_1 vx10 vx11 vx12 vx23_1 h61) ?_
        refine cE hF (fun h62 hF => ?_) fun h62 hF => ?_
        · refine awp_true (by kernel_rfl) h62 ?_
          refine awp_seq ?_
          exact nE hF
        · refine awp_false (by kernel_rfl) h62 ?_
          refine awp_skip ?_
          refine awp_region ?_
          refine aR 2 ?_
          refine aE ?_
          exact oO hF [] [] rfl
  · refine awp_sub (strconv_ParseUint_x11_ok qx qx1 vx5_1 vx6_1 vx8_1 vx9_1 vx10 vx11 vx12 vy1 h55) ?_
    exact oO hF [] [] rfl

def strconv_ParseUint_x9_k : (Bool × Int) → AEx
  | _ => .exit 3

def strconv_ParseUint_x9_S (qx : List UInt8) (qx1 : Int) (vx5_1 : List UInt8) (vx6_1 : Int) (vx8_1 : Int) (vx9_1 : Int) : (Bool × Int) → St
  | (vx27, vx28) => Mem.st ⟨[], []⟩ (tl [(9, .v (.one (.d (.str qx)))), (12, .v (.one (.d (.bool vx27)))), (13, .v (.one (.d (.int .u64 vx28))))]) 0

def strconv_ParseUint_x9_H (qx : List UInt8) (qx1 : Int) (vx5_1 : List UInt8) (vx6_1 : Int) (vx8_1 : Int) (vx9_1 : Int) : Bool × Int × Int → St
  | (vx10, vx11, vx12) => Mem.st ⟨[], []⟩ (tl [(1, .v (.one (.d (.int .i64 vx6_1)))), (8, .v (.one (.d (.bool (decide (qx1 = 0)))))), (9, .v (.one (.d (.str qx)))), (10, .v (.one (.d (.int .u64 vx9_1)))), (11, .v (.one (.d (.int .u64 (IntKind.wrap .u64 ((ishl .u64 1 (IntKind.wrap .u64 (vx8_1))) - 1)))))), (12, .v (.one (.d (.bool vx10)))), (13, .v (.one (.d (.int .u64 vx11)))), (99, .v (.one (.d (.lst (List.map (encI .u8) (bytesD vx5_1)))))), (100, .v (.one (.d (.int .i64 ((bytesD vx5_1).length : Int))))), (101, .v (.one (.d (.int .i64 vx12))))]) 0

theorem strconv_ParseUint_x9_ok (qx : List UInt8) (qx1 : Int) (vx5_1 : List UInt8) (vx6_1 : Int) (vx8_1 : Int) (vx9_1 : Int) (s : Bool × Int × Int) (r : (Bool × Int × Int) ⊕ ((Bool × Int))) (hF : strconv_ParseUint_x9 qx1 vx5_1 vx6_1 vx8_1 vx9_1 s = some r) : Awp prog 0 172 (cL (cL (cR (cL (cR (cR (cR (cR (cR (cR (cR (cR (cR (cR (cR (cB f304)))))))))))))))) (Out 0 (kk strconv_ParseUint_x9_k) (SS (strconv_ParseUint_x9_H qx qx1 vx5_1 vx6_1 vx8_1 vx9_1) (strconv_ParseUint_x9_S qx qx1 vx5_1 vx6_1 vx8_1 vx9_1)) r) (strconv_ParseUint_x9_H qx qx1 vx5_1 vx6_1 vx8_1 vx9_1 s) := by
  obtain ⟨vx10, vx11, vx12⟩ := s
  unfold strconv_ParseUint_x9 at hF
  refine awp_seq ?_
  refine awp_region ?_
  refine aR 1 ?_
  refine aE ?_
  refine awp_seq ?_
  refine cE hF (fun h41 hF => ?_) fun h41 hF => ?_
  · refine awp_true (by kernel_rfl) h41 ?_
    refine awp_skip ?_
    refine awp_seq ?_
    refine awp_to (st' := strconv_ParseUint_x10_I qx qx1 vx5_1 vx6_1 vx8_1 vx9_1 vx10 vx11 vx12) (oT [] []) ?_
    refine bE hF fun x h64 hF => ?_
    obtain ⟨vx25_1, vx26_1⟩ := x
    refine awp_sub (strconv_ParseUint_x10_ok qx qx1 vx5_1 vx6_1 vx8_1 vx9_1 vx10 vx11 vx12 h64) ?_
    refine awp_region ?_
    refine aR 2 ?_
    refine aE ?_
    exact oO hF [] [] rfl
  · refine awp_false (by kernel_rfl) h41 ?_
    refine awp_exit ?_
    exact oO hF [] [] rfl

def strconv_ParseUint_x16_k : Bool → AEx
  | _ => .normal

def strconv_ParseUint_x16_S (qx : List UInt8) (vx27_1 : Bool) (vx28_1 : Int) : Bool → St
  | vx29 => Mem.st ⟨[], []⟩ (tl [(13, .v (.one (.d (.int .u64 vx28_1)))), (169, .v (.one (.d (.bool vx29))))]) 0

def strconv_ParseUint_x16_I (qx : List UInt8) (vx27_1 : Bool) (vx28_1 : Int) : St := Mem.st ⟨[], []⟩ (tl [(9, .v (.one (.d (.str qx)))), (12, .v (.one (.d (.bool vx27_1)))), (13, .v (.one (.d (.int .u64 vx28_1))))]) 0

theorem strconv_ParseUint_x16_ok (qx : List UInt8) (vx27_1 : Bool) (vx28_1 : Int) {r} (hF : strconv_ParseUint_x16 qx vx27_1 = some r) : Awp prog 0 172 (cL (cL (cR (cR (cR (cR (cR (cR (cR (cR (cR (cR (cR (cR (cB f304))))))))))))))) (Out 0 strconv_ParseUint_x16_k (strconv_ParseUint_x16_S qx vx27_1 vx28_1) r) (strconv_ParseUint_x16_I qx vx27_1 vx28_1) := by
  unfold strconv_ParseUint_x16 at hF
  refine cE hF (fun h66 hF => ?_) fun h66 hF => ?_
  · refine bE hF fun vr h67 hF => ?_
    refine awp_region ?_
    refine aB h66 ?_
    refine aR 2 ?_
    refine aC (strconv_underscoreOK_ok h67) [] [] [] ?_
    refine aR 2 ?_
    refine aE ?_
    exact oO hF [] [] rfl
  · refine awp_region ?_
    refine aB h66 ?_
    refine aR 5 ?_
    refine aE ?_
    exact oO hF [] [] rfl

def strconv_ParseUint_R (qx : List UInt8) (qx1 : Int) (qx2 : Int) (r : Int) : TV × Mem := (.tup [.one (.d (.int .u64 r)), .one (.nili)], ⟨[], []⟩)

theorem strconv_ParseUint_ok {qx : List UInt8} {qx1 : Int} {qx2 : Int} {r} (hF : strconv_ParseUint qx qx1 qx2 = some r) : Holds prog 304 [.v (.one (.d (.str qx))), .v (.one (.d (.int .i64 qx1))), .v (.one (.d (.int .i64 qx2)))] ⟨[], []⟩ (Is (strconv_ParseUint_R qx qx1 qx2 r)) := by
  unfold strconv_ParseUint at hF
  refine holds_of_awp hΓ (fn := f304) (c := cB f304) (A := 0) (nx := 0) (by kernel_rfl) (by kernel_rfl) (by kernel_rfl) (by kernel_rfl) (by kernel_rfl) (by kernel_rfl) (lowc_of (by kernel_rfl)) ?_
  show Awp prog 0 172 (cB f304) _ _
  refine awp_seq ?_
  refine awp_region ?_
  refine aR 2 ?_
  refine aE ?_
  refine awp_seq ?_
  refine awp_seq ?_
  refine awp_region ?_
  refine aR 2 ?_
  refine aE ?_
  refine cE hF (fun h1 hF => ?_) fun h1 hF => ?_
  · refine awp_true (by kernel_rfl) h1 ?_
    refine awp_seq ?_
    exact nE hF
  · refine awp_false (by kernel_rfl) h1 ?_
    refine awp_skip ?_
    refine awp_seq ?_
    refine awp_region ?_
    refine aR 3 ?_
    refine aE ?_
    refine awp_seq ?_
    refine awp_region ?_
    refine aR 2 ?_
    refine aE ?_
    refine awp_seq ?_
    refine awp_to (st' := strconv_ParseUint_x1_I qx qx1 qx2) (oT [] []) ?_
    refine bE hF fun x h29 hF => ?_
    obtain ⟨vx5_1, vx6_1⟩ := x
    refine awp_sub (strconv_ParseUint_x1_ok qx qx1 qx2 h29) ?_
    refine awp_seq ?_
    refine awp_to (st' := strconv_ParseUint_x6_I qx qx1 qx2 vx5_1 vx6_1) (oT [] []) ?_
    refine bE hF fun vx8_1 h35 hF => ?_
    refine awp_sub (strconv_ParseUint_x6_ok qx qx1 qx2 vx5_1 vx6_1 h35) ?_
    refine awp_seq ?_
    refine awp_region ?_
    refine aR 1 ?_
    refine aE ?_
    refine awp_seq ?_
    refine awp_to (st' := strconv_ParseUint_x8_I qx qx1 vx5_1 vx6_1 vx8_1) (oT [] []) ?_
    refine bE hF fun vx9_1 h39 hF => ?_
    refine awp_sub (strconv_ParseUint_x8_ok qx qx1 vx5_1 vx6_1 vx8_1 h39) ?_
    refine awp_seq ?_
    refine gE hF fun h40 hF => ?_
    refine awp_region ?_
    refine aR 2 ?_
    refine aX (x_shl h40) ?_
    refine aR 2 ?_
    refine aE ?_
    refine awp_seq ?_
    refine awp_region ?_
    refine aR 1 ?_
    refine aE ?_
    refine awp_seq ?_
    refine awp_region ?_
    refine aR 1 ?_
    refine aE ?_
    refine awp_seq ?_
    refine awp_seq ?_
    refine awp_region ?_
    refine aR 1 ?_
    refine aBs (s := vx5_1) rfl ?_
    refine aL (encI .u8) (bytesD vx5_1) ?_
    refine aR 1 ?_
    refine aE ?_
    refine awp_block ?_
    refine awp_to (st' := strconv_ParseUint_x9_H qx qx1 vx5_1 vx6_1 vx8_1 vx9_1 (false, 0, 0)) (oT [] []) ?_
    refine bE hF fun x h65 hF => ?_
    obtain ⟨vx27_1, vx28_1⟩ := x
    refine awp_sub (awp_loop' (strconv_ParseUint_x9_H qx qx1 vx5_1 vx6_1 vx8_1 vx9_1) strconv_ParseUint_x9_k (strconv_ParseUint_x9_S qx qx1 vx5_1 vx6_1 vx8_1 vx9_1) (by intro x; exact fun h => nomatch h) h65 (strconv_ParseUint_x9_ok qx qx1 vx5_1 vx6_1 vx8_1 vx9_1)) ?_
    refine awp_seq ?_
    refine awp_seq ?_
    refine awp_to (st' := strconv_ParseUint_x16_I qx vx27_1 vx28_1) (oT [] []) ?_
    refine bE hF fun vx29_1 h68 hF => ?_
    refine awp_sub (strconv_ParseUint_x16_ok qx vx27_1 vx28_1 h68) ?_
    refine cE hF (fun h69 hF => ?_) fun h69 hF => ?_
    · refine awp_true (by kernel_rfl) h69 ?_
      refine awp_seq ?_
      exact nE hF
    · refine awp_false (by kernel_rfl) h69 ?_
      refine awp_skip ?_
      refine awp_seq ?_
      refine awp_region ?_
      refine aR 3 ?_
      refine aE ?_
      refine awp_ret ?_
      exact oF hF [] []

/-! ### internal/strconv.ParseInt -/
def strconv_ParseInt_x1_k : ((List UInt8) × Bool) → AEx
  | _ => .normal

def strconv_ParseInt_x1_S (qx : List UInt8) (qx1 : Int) (qx2 : Int) : ((List UInt8) × Bool) → St
  | (vx, vx1) => Mem.st ⟨[], []⟩ (tl [(0, .v (.one (.d (.str vx)))), (1, .v (.one (.d (.int .i64 qx1)))), (2, .v (.one (.d (.int .i64 qx2)))), (8, .v (.one (.d (.bool vx1))))]) 0

def strconv_ParseInt_x1_I (qx : List UInt8) (qx1 : Int) (qx2 : Int) : St := Mem.st ⟨[], []⟩ (tl [(0, .v (.one (.d (.str qx)))), (1, .v (.one (.d (.int .i64 qx1)))), (2, .v (.one (.d (.int .i64 qx2)))), (8, .v (.one (.d (.bool false))))]) 0

theorem strconv_ParseInt_x1_ok (qx : List UInt8) (qx1 : Int) (qx2 : Int) {r} (hF : strconv_ParseInt_x1 qx = some r) : Awp prog 0 73 (cL (cR (cR (cR (cB f298))))) (Out 0 strconv_ParseInt_x1_k (strconv_ParseInt_x1_S qx qx1 qx2) r) (strconv_ParseInt_x1_I qx qx1 qx2) := by
  unfold strconv_ParseInt_x1 at hF
  refine awp_seq ?_
  refine bE hF fun vc h3 hF => ?_
  refine awp_region ?_
  refine aR 1 ?_
  refine aX (x_idxS h3) ?_
  refine aE ?_
  refine awp_block ?_
  refine awp_seq ?_
  refine awp_region ?_
  refine aR 2 ?_
  refine aE ?_
  refine cE hF (fun h4 hF => ?_) fun h4 hF => ?_
  · refine awp_true (by kernel_rfl) h4 ?_
    refine bE hF fun vs h5 hF => ?_
    refine awp_region ?_
    refine aR 1 ?_
    refine aX (x_sliceS h5) ?_
    refine aR 1 ?_
    refine aE ?_
    exact oO hF [] [] rfl
  · refine awp_false (by kernel_rfl) h4 ?_
    refine awp_seq ?_
    refine awp_region ?_
    refine aR 2 ?_
    refine aE ?_
    refine cE hF (fun h6 hF => ?_) fun h6 hF => ?_
    · refine awp_true (by kernel_rfl) h6 ?_
      refine awp_seq ?_
      refine bE hF fun vs1 h7 hF => ?_
      refine awp_region ?_
      refine aR 1 ?_
      refine aX (x_sliceS h7) ?_
      refine aR 1 ?_
      refine aE ?_
      refine awp_region ?_
      refine aR 1 ?_
      refine aE ?_
      exact oO hF [] [] rfl
    · refine awp_false (by kernel_rfl) h6 ?_
      refine awp_skip ?_
      exact oO hF [] [] rfl

def strconv_ParseInt_x2_k : Int → AEx
  | _ => .normal

def strconv_ParseInt_x2_S (qx2 : Int) (vx1_1 : Bool) (vr1 : Int) : Int → St
  | vx3 => Mem.st ⟨[], []⟩ (tl [(2, .v (.one (.d (.int .i64 vx3)))), (8, .v (.one (.d (.bool vx1_1)))), (9, .v (.one (.d (.int .u64 vr1))))]) 0

def strconv_ParseInt_x2_I (qx2 : Int) (vx1_1 : Bool) (vr1 : Int) : St := Mem.st ⟨[], []⟩ (tl [(2, .v (.one (.d (.int .i64 qx2)))), (8, .v (.one (.d (.bool vx1_1)))), (9, .v (.one (.d (.int .u64 vr1))))]) 0

theorem strconv_ParseInt_x2_ok (qx2 : Int) (vx1_1 : Bool) (vr1 : Int) {r} (hF : strconv_ParseInt_x2 qx2 = some r) : Awp prog 0 73 (cL (cR (cR (cR (cR (cR (cR (cR (cB f298))))))))) (Out 0 strconv_ParseInt_x2_k (strconv_ParseInt_x2_S qx2 vx1_1 vr1) r) (strconv_ParseInt_x2_I qx2 vx1_1 vr1) := by
  unfold strconv_ParseInt_x2 at hF
  refine awp_seq ?_
  refine awp_region ?_
  refine aR 2 ?_
  refine aE ?_
  refine cE hF (fun h10 hF => ?_) fun h10 hF => ?_
  · refine awp_true (by kernel_rfl) h10 ?_
    refine awp_region ?_
    refine aR 1 ?_
    refine aE ?_
    exact oO hF [] [] rfl
  · refine awp_false (by kernel_rfl) h10 ?_
    refine awp_skip ?_
    exact oO hF [] [] rfl

def strconv_ParseInt_x3_k : Bool → AEx
  | _ => .normal

def strconv_ParseInt_x3_S (vx1_1 : Bool) (vr1 : Int) (vx3_1 : Int) : Bool → St
  | vx4 => Mem.st ⟨[], []⟩ (tl [(8, .v (.one (.d (.bool vx1_1)))), (9, .v (.one (.d (.int .u64 vr1)))), (10, .v (.one (.d (.int .u64 (ishl .u64 1 (IntKind.wrap .u64 (IntKind.wrap .i64 (vx3_1 - 1)))))))), (52, .v (.one (.d (.bool vx4))))]) 0

def strconv_ParseInt_x3_I (vx1_1 : Bool) (vr1 : Int) (vx3_1 : Int) : St := Mem.st ⟨[], []⟩ (tl [(8, .v (.one (.d (.bool vx1_1)))), (9, .v (.one (.d (.int .u64 vr1)))), (10, .v (.one (.d (.int .u64 (ishl .u64 1 (IntKind.wrap .u64 (IntKind.wrap .i64 (vx3_1 - 1))))))))]) 0

theorem strconv_ParseInt_x3_ok (vx1_1 : Bool) (vr1 : Int) (vx3_1 : Int) {r} (hF : strconv_ParseInt_x3 vx1_1 vr1 vx3_1 = some r) : Awp prog 0 73 (cL (cL (cR (cR (cR (cR (cR (cR (cR (cR (cR (cB f298)))))))))))) (Out 0 strconv_ParseInt_x3_k (strconv_ParseInt_x3_S vx1_1 vr1 vx3_1) r) (strconv_ParseInt_x3_I vx1_1 vr1 vx3_1) := by
  unfold strconv_ParseInt_x3 at hF
  refine cE hF (fun h13 hF => ?_) fun h13 hF => ?_
  · refine awp_region ?_
    refine aR 1 ?_
    refine aB h13 ?_
    refine aR 5 ?_
    refine aE ?_
    exact oO hF [] [] rfl
  · refine awp_region ?_
    refine aR 1 ?_
    refine aB h13 ?_
    refine aR 5 ?_
    refine aE ?_
    exact oO hF [] [] rfl

def strconv_ParseInt_x4_k : Bool → AEx
  | _ => .normal

def strconv_ParseInt_x4_S (vx1_1 : Bool) (vr1 : Int) (vx3_1 : Int) : Bool → St
  | vx5 => Mem.st ⟨[], []⟩ (tl [(8, .v (.one (.d (.bool vx1_1)))), (9, .v (.one (.d (.int .u64 vr1)))), (10, .v (.one (.d (.int .u64 (ishl .u64 1 (IntKind.wrap .u64 (IntKind.wrap .i64 (vx3_1 - 1)))))))), (62, .v (.one (.d (.bool vx5))))]) 0

def strconv_ParseInt_x4_I (vx1_1 : Bool) (vr1 : Int) (vx3_1 : Int) : St := Mem.st ⟨[], []⟩ (tl [(8, .v (.one (.d (.bool vx1_1)))), (9, .v (.one (.d (.int .u64 vr1)))), (10, .v (.one (.d (.int .u64 (ishl .u64 1 (IntKind.wrap .u64 (IntKind.wrap .i64 (vx3_1 - 1))))))))]) 0

theorem strconv_ParseInt_x4_ok (vx1_1 : Bool) (vr1 : Int) (vx3_1 : Int) {r} (hF : strconv_ParseInt_x4 vx1_1 vr1 vx3_1 = some r) : Awp prog 0 73 (cL (cL (cR (cR (cR (cR (cR (cR (cR (cR (cR (cR (cB f298))))))))))))) (Out 0 strconv_ParseInt_x4_k (strconv_ParseInt_x4_S vx1_1 vr1 vx3_1) r) (strconv_ParseInt_x4_I vx1_1 vr1 vx3_1) := by
  unfold strconv_ParseInt_x4 at hF
  refine cE hF (fun h17 hF => ?_) fun h17 hF => ?_
  · refine awp_region ?_
    refine aB h17 ?_
    refine aR 5 ?_
    refine aE ?_
    exact oO hF [] [] rfl
  · refine awp_region ?_
    refine aB h17 ?_
    refine aR 5 ?_
    refine aE ?_
    exact oO hF [] [] rfl

def strconv_ParseInt_x5_k : Int → AEx
  | _ => .normal

def strconv_ParseInt_x5_S (vx1_1 : Bool) (vr1 : Int) : Int → St
  | vx6 => Mem.st ⟨[], []⟩ (tl [(11, .v (.one (.d (.int .i64 vx6))))]) 0

def strconv_ParseInt_x5_I (vx1_1 : Bool) (vr1 : Int) : St := Mem.st ⟨[], []⟩ (tl [(8, .v (.one (.d (.bool vx1_1)))), (11, .v (.one (.d (.int .i64 (IntKind.wrap .i64 (vr1))))))]) 0

theorem strconv_ParseInt_x5_ok (vx1_1 : Bool) (vr1 : Int) {r} (hF : strconv_ParseInt_x5 vx1_1 vr1 = some r) : Awp prog 0 73 (cL (cR (cR (cR (cR (cR (cR (cR (cR (cR (cR (cR (cR (cB f298)))))))))))))) (Out 0 strconv_ParseInt_x5_k (strconv_ParseInt_x5_S vx1_1 vr1) r) (strconv_ParseInt_x5_I vx1_1 vr1) := by
  unfold strconv_ParseInt_x5 at hF
  refine awp_seq ?_
  refine awp_region ?_
  refine aR 1 ?_
  refine aE ?_
  refine cE hF (fun h21 hF => ?_) fun h21 hF => ?_
  · refine awp_true (by kernel_rfl) h21 ?_
    refine awp_region ?_
    refine aR 3 ?_
    refine aE ?_
    exact oO hF [] [] rfl
  · refine awp_false (by kernel_rfl) h21 ?_
    refine awp_skip ?_
    exact oO hF [] [] rfl

def strconv_ParseInt_R (qx : List UInt8) (qx1 : Int) (qx2 : Int) (r : Int) : TV × Mem := (.tup [.one (.d (.int .i64 r)), .one (.nili)], ⟨[], []⟩)

theorem strconv_ParseInt_ok {qx : List UInt8} {qx1 : Int} {qx2 : Int} {r} (hF : strconv_ParseInt qx qx1 qx2 = some r) : Holds prog 298 [.v (.one (.d (.str qx))), .v (.one (.d (.int .i64 qx1))), .v (.one (.d (.int .i64 qx2)))] ⟨[], []⟩ (Is (strconv_ParseInt_R qx qx1 qx2 r)) := by
  unfold strconv_ParseInt at hF
  refine holds_of_awp hΓ (fn := f298) (c := cB f298) (A := 0) (nx := 0) (by kernel_rfl) (by kernel_rfl) (by kernel_rfl) (by kernel_rfl) (by kernel_rfl) (by kernel_rfl) (lowc_of (by kernel_rfl)) ?_
  show Awp prog 0 73 (cB f298) _ _
  refine awp_seq ?_
  refine awp_region ?_
  refine aR 2 ?_
  refine aE ?_
  refine awp_seq ?_
  refine awp_seq ?_
  refine awp_region ?_
  refine aR 2 ?_
  refine aE ?_
  refine cE hF (fun h1 hF => ?_) fun h1 hF => ?_
  · refine awp_true (by kernel_rfl) h1 ?_
    refine awp_seq ?_
    exact nE hF
  · refine awp_false (by kernel_rfl) h1 ?_
    refine awp_skip ?_
    refine awp_seq ?_
    refine awp_region ?_
    refine aR 1 ?_
    refine aE ?_
    refine awp_seq ?_
    refine awp_to (st' := strconv_ParseInt_x1_I qx qx1 qx2) (oT [] []) ?_
    refine bE hF fun x h8 hF => ?_
    obtain ⟨vx2, vx1_1⟩ := x
    refine awp_sub (strconv_ParseInt_x1_ok qx qx1 qx2 h8) ?_
    refine awp_seq ?_
    refine awp_region ?_
    refine aR 1 ?_
    refine aE ?_
    refine awp_seq ?_
    refine bE hF fun vr1 h9 hF => ?_
    refine awp_region ?_
    refine aR 3 ?_
    refine aC (strconv_ParseUint_ok h9) [] [] [] ?_
    refine aR 5 ?_
    refine aE ?_
    refine awp_seq ?_
    refine awp_seq ?_
    refine awp_region ?_
    refine aR 1 ?_
    refine aS (does_nilI (op := .neq) (c := false) rfl (.inr ⟨rfl, rfl⟩) (by kernel_rfl) (by kernel_rfl)) ?_
    refine aR 5 ?_
    refine aE ?_
    refine awp_false (by kernel_rfl) rfl ?_
    refine awp_skip ?_
    refine awp_seq ?_
    refine awp_to (st' := strconv_ParseInt_x2_I qx2 vx1_1 vr1) (oT [] []) ?_
    refine bE hF fun vx3_1 h11 hF => ?_
    refine awp_sub (strconv_ParseInt_x2_ok qx2 vx1_1 vr1 h11) ?_
    refine awp_seq ?_
    refine gE hF fun h12 hF => ?_
    refine awp_region ?_
    refine aR 3 ?_
    refine aX (x_shl h12) ?_
    refine aR 1 ?_
    refine aE ?_
    refine awp_seq ?_
    refine awp_seq ?_
    refine awp_to (st' := strconv_ParseInt_x3_I vx1_1 vr1 vx3_1) (oT [] []) ?_
    refine bE hF fun vx4_1 h14 hF => ?_
    refine awp_sub (strconv_ParseInt_x3_ok vx1_1 vr1 vx3_1 h14) ?_
    refine cE hF (fun h15 hF => ?_) fun h15 hF => ?_
    · refine awp_true (by kernel_rfl) h15 ?_
      refine awp_seq ?_
      exact nE hF
    · refine awp_false (by kernel_rfl) h15 ?_
      refine awp_skip ?_
      refine awp_seq ?_
      refine awp_seq ?_
      refine awp_to (st' := strconv_ParseInt_x4_I vx1_1 vr1 vx3_1) (oT [] []) ?_
      refine bE hF fun vx5_1 h18 hF => ?_
      refine awp_sub (strconv_ParseInt_x4_ok vx1_1 vr1 vx3_1 h18) ?_
      refine cE hF (fun h19 hF => ?_) fun h19 hF => ?_
      · refine awp_true (by kernel_rfl) h19 ?_
        refine awp_seq ?_
        exact nE hF
      · refine awp_false (by kernel_rfl) h19 ?_
        refine awp_skip ?_
        refine awp_seq ?_
        refine awp_region ?_
        refine aR 3 ?_
        refine aE ?_
        refine awp_seq ?_
        refine awp_to (st' := strconv_ParseInt_x5_I vx1_1 vr1) (oT [] []) ?_
        refine bE hF fun vx6_1 h22 hF => ?_
        refine awp_sub (strconv_ParseInt_x5_ok vx1_1 vr1 h22) ?_
        refine awp_seq ?_
        refine awp_region ?_
        refine aR 3 ?_
        refine aE ?_
        refine awp_ret ?_
        exact oF hF [] []

/-! ### internal/strconv.Atoi -/
def strconv_Atoi_2_x1_k : Bool → AEx
  | _ => .normal

def strconv_Atoi_2_x1_S (qx : List UInt8) : Bool → St
  | vx => Mem.st ⟨[], []⟩ (tl [(0, .v (.one (.d (.str qx)))), (30, .v (.one (.d (.bool vx))))]) 0

def strconv_Atoi_2_x1_I (qx : List UInt8) : St := Mem.st ⟨[], []⟩ (tl [(0, .v (.one (.d (.str qx)))), (4, .v (.one (.d (.int .i64 (qx.length : Int)))))]) 0

theorem strconv_Atoi_2_x1_ok (qx : List UInt8) {r} (hF : strconv_Atoi_2_x1 qx = some r) : Awp prog 0 77 (cL (cL (cR (cR (cB f291))))) (Out 0 strconv_Atoi_2_x1_k (strconv_Atoi_2_x1_S qx) r) (strconv_Atoi_2_x1_I qx) := by
  unfold strconv_Atoi_2_x1 at hF
  refine cE hF (fun h1 hF => ?_) fun h1 hF => ?_
  · refine awp_region ?_
    refine aR 11 ?_
    refine aB h1 ?_
    refine aR 6 ?_
    refine aE ?_
    exact oO hF [] [] rfl
  · refine awp_region ?_
    refine aR 11 ?_
    refine aB h1 ?_
    refine aR 6 ?_
    refine aE ?_
    exact oO hF [] [] rfl

def strconv_Atoi_2_x3_k : Bool → AEx
  | _ => .normal

def strconv_Atoi_2_x3_S (qx : List UInt8) : Bool → St
  | vx2 => Mem.st ⟨[], []⟩ (tl [(0, .v (.one (.d (.str qx)))), (5, .v (.one (.d (.str qx)))), (39, .v (.one (.d (.bool vx2))))]) 0

def strconv_Atoi_2_x3_I (qx : List UInt8) : St := Mem.st ⟨[], []⟩ (tl [(0, .v (.one (.d (.str qx)))), (5, .v (.one (.d (.str qx))))]) 0

theorem strconv_Atoi_2_x3_ok (qx : List UInt8) {r} (hF : strconv_Atoi_2_x3 qx = some r) : Awp prog 0 77 (cL (cL (cR (cL (cR (cL (cR (cR (cB f291))))))))) (Out 0 strconv_Atoi_2_x3_k (strconv_Atoi_2_x3_S qx) r) (strconv_Atoi_2_x3_I qx) := by
  unfold strconv_Atoi_2_x3 at hF
  refine bE hF fun vc h4 hF => ?_
  refine cE hF (fun h5 hF => ?_) fun h5 hF => ?_
  · refine awp_region ?_
    refine aR 1 ?_
    refine aX (x_idxS h4) ?_
    refine aB h5 ?_
    refine aR 5 ?_
    refine aE ?_
    exact oO hF [] [] rfl
  · refine awp_region ?_
    refine aR 1 ?_
    refine aX (x_idxS h4) ?_
    refine aB h5 ?_
    refine aR 2 ?_
    refine aX (x_idxS h4) ?_
    refine aR 2 ?_
    refine aE ?_
    exact oO hF [] [] rfl

def strconv_Atoi_2_x2_k : (List UInt8) → AEx
  | _ => .normal

def strconv_Atoi_2_x2_S (qx : List UInt8) : (List UInt8) → St
  | vx3 => Mem.st ⟨[], []⟩ (tl [(0, .v (.one (.d (.str vx3)))), (5, .v (.one (.d (.str qx))))]) 0

def strconv_Atoi_2_x2_I (qx : List UInt8) : St := Mem.st ⟨[], []⟩ (tl [(0, .v (.one (.d (.str qx)))), (5, .v (.one (.d (.str qx))))]) 0

theorem strconv_Atoi_2_x2_ok (qx : List UInt8) {r} (hF : strconv_Atoi_2_x2 qx = some r) : Awp prog 0 77 (cL (cR (cL (cR (cL (cR (cR (cB f291)))))))) (Out 0 strconv_Atoi_2_x2_k (strconv_Atoi_2_x2_S qx) r) (strconv_Atoi_2_x2_I qx) := by
  unfold strconv_Atoi_2_x2 at hF
  refine awp_seq ?_
  refine awp_to (st' := strconv_Atoi_2_x3_I qx) (oT [] []) ?_
  refine bE hF fun vx2_1 h6 hF => ?_
  refine awp_sub (strconv_Atoi_2_x3_ok qx h6) ?_
  refine cE hF (fun h7 hF => ?_) fun h7 hF => ?_
  · refine awp_true (by kernel_rfl) h7 ?_
    refine awp_seq ?_
    refine bE hF fun vs h8 hF => ?_
    refine awp_region ?_
    refine aR 1 ?_
    refine aX (x_sliceS h8) ?_
    refine aR 1 ?_
    refine aE ?_
    refine awp_seq ?_
    refine awp_region ?_
    refine aR 3 ?_
    refine aE ?_
    refine cE hF (fun h9 hF => ?_) fun h9 hF => ?_
    · refine awp_true (by kernel_rfl) h9 ?_
      refine awp_seq ?_
      exact nE hF
    · refine awp_false (by kernel_rfl) h9 ?_
      refine awp_skip ?_
      exact oO hF [] [] rfl
  · refine awp_false (by kernel_rfl) h7 ?_
    refine awp_skip ?_
    exact oO hF [] [] rfl

def strconv_Atoi_2_x4_k : Int → AEx
  | _ => .exit 0

def strconv_Atoi_2_x4_S (qx : List UInt8) (vx3_1 : List UInt8) : Int → St
  | vx6 => Mem.st ⟨[], []⟩ (tl [(5, .v (.one (.d (.str qx)))), (6, .v (.one (.d (.int .i64 vx6))))]) 0

def strconv_Atoi_2_x4_H (qx : List UInt8) (vx3_1 : List UInt8) : Int × Int → St
  | (vx4, vx5) => Mem.st ⟨[], []⟩ (tl [(5, .v (.one (.d (.str qx)))), (6, .v (.one (.d (.int .i64 vx4)))), (47, .v (.one (.d (.lst (List.map (encI .u8) (bytesD vx3_1)))))), (48, .v (.one (.d (.int .i64 ((bytesD vx3_1).length : Int))))), (49, .v (.one (.d (.int .i64 vx5))))]) 0

theorem strconv_Atoi_2_x4_ok (qx : List UInt8) (vx3_1 : List UInt8) (s : Int × Int) (r : (Int × Int) ⊕ (Int)) (hF : strconv_Atoi_2_x4 vx3_1 s = some r) : Awp prog 0 77 (cL (cL (cR (cL (cR (cR (cR (cL (cR (cL (cR (cR (cB f291))))))))))))) (Out 0 (kk strconv_Atoi_2_x4_k) (SS (strconv_Atoi_2_x4_H qx vx3_1) (strconv_Atoi_2_x4_S qx vx3_1)) r) (strconv_Atoi_2_x4_H qx vx3_1 s) := by
  obtain ⟨vx4, vx5⟩ := s
  unfold strconv_Atoi_2_x4 at hF
  refine awp_seq ?_
  refine awp_region ?_
  refine aR 1 ?_
  refine aE ?_
  refine awp_seq ?_
  refine cE hF (fun h12 hF => ?_) fun h12 hF => ?_
  · refine awp_true (by kernel_rfl) h12 ?_
    refine awp_skip ?_
    refine awp_seq ?_
    refine awp_block ?_
    refine awp_seq ?_
    refine bE hF fun vy1 h13 hF => ?_
    refine awp_region ?_
    refine aX (x_idx (encI .u8) h13) ?_
    refine aR 2 ?_
    refine aE ?_
    refine awp_seq ?_
    refine awp_region ?_
    refine aR 3 ?_
    refine aE ?_
    refine awp_seq ?_
    refine awp_seq ?_
    refine awp_region ?_
    refine aR 2 ?_
    refine aE ?_
    refine cE hF (fun h14 hF => ?_) fun h14 hF => ?_
    · refine awp_true (by kernel_rfl) h14 ?_
      refine awp_seq ?_
      exact nE hF
    · refine awp_false (by kernel_rfl) h14 ?_
      refine awp_skip ?_
      refine awp_region ?_
      refine aR 6 ?_
      refine aE ?_
      refine awp_region ?_
      refine aR 2 ?_
      refine aE ?_
      exact oO hF [] [] rfl
  · refine awp_false (by kernel_rfl) h12 ?_
    refine awp_exit ?_
    exact oO hF [] [] rfl

def strconv_Atoi_2_x5_k : Int → AEx
  | _ => .normal

def strconv_Atoi_2_x5_S (qx : List UInt8) (vx6_1 : Int) : Int → St
  | vx7 => Mem.st ⟨[], []⟩ (tl [(6, .v (.one (.d (.int .i64 vx7))))]) 0

def strconv_Atoi_2_x5_I (qx : List UInt8) (vx6_1 : Int) : St := Mem.st ⟨[], []⟩ (tl [(5, .v (.one (.d (.str qx)))), (6, .v (.one (.d (.int .i64 vx6_1))))]) 0

theorem strconv_Atoi_2_x5_ok (qx : List UInt8) (vx6_1 : Int) {r} (hF : strconv_Atoi_2_x5 qx vx6_1 = some r) : Awp prog 0 77 (cL (cR (cR (cR (cR (cL (cR (cL (cR (cR (cB f291))))))))))) (Out 0 strconv_Atoi_2_x5_k (strconv_Atoi_2_x5_S qx vx6_1) r) (strconv_Atoi_2_x5_I qx vx6_1) := by
  unfold strconv_Atoi_2_x5 at hF
  refine awp_seq ?_
  refine bE hF fun vc1 h17 hF => ?_
  refine awp_region ?_
  refine aR 1 ?_
  refine aX (x_idxS h17) ?_
  refine aR 1 ?_
  refine aE ?_
  refine cE hF (fun h18 hF => ?_) fun h18 hF => ?_
  · refine awp_true (by kernel_rfl) h18 ?_
    refine awp_region ?_
    refine aR 3 ?_
    refine aE ?_
    exact oO hF [] [] rfl
  · refine awp_false (by kernel_rfl) h18 ?_
    refine awp_skip ?_
    exact oO hF [] [] rfl

def strconv_Atoi_2_R (qx : List UInt8) (r : Int) : TV × Mem := (.tup [.one (.d (.int .i64 r)), .one (.nili)], ⟨[], []⟩)

theorem strconv_Atoi_2_ok {qx : List UInt8} {r} (hF : strconv_Atoi_2 qx = some r) : Holds prog 291 [.v (.one (.d (.str qx)))] ⟨[], []⟩ (Is (strconv_Atoi_2_R qx r)) := by
  unfold strconv_Atoi_2 at hF
  refine holds_of_awp hΓ (fn := f291) (c := cB f291) (A := 0) (nx := 0) (by kernel_rfl) (by kernel_rfl) (by kernel_rfl) (by kernel_rfl) (by kernel_rfl) (by kernel_rfl) (lowc_of (by kernel_rfl)) ?_
  show Awp prog 0 77 (cB f291) _ _
  refine awp_seq ?_
  refine awp_region ?_
  refine aR 2 ?_
  refine aE ?_
  refine awp_seq ?_
  refine awp_region ?_
  refine aR 3 ?_
  refine aE ?_
  refine awp_seq ?_
  refine awp_seq ?_
  refine awp_to (st' := strconv_Atoi_2_x1_I qx) (oT [] []) ?_
  refine bE hF fun vx1 h2 hF => ?_
  refine awp_sub (strconv_Atoi_2_x1_ok qx h2) ?_
  refine cE hF (fun h3 hF => ?_) fun h3 hF => ?_
  · refine awp_true (by kernel_rfl) h3 ?_
    refine awp_seq ?_
    refine awp_region ?_
    refine aR 2 ?_
    refine aE ?_
    refine awp_seq ?_
    refine awp_to (st' := strconv_Atoi_2_x2_I qx) (oT [] []) ?_
    refine bE hF fun vx3_1 h11 hF => ?_
    refine awp_sub (strconv_Atoi_2_x2_ok qx h11) ?_
    refine awp_seq ?_
    refine awp_region ?_
    refine aR 1 ?_
    refine aE ?_
    refine awp_seq ?_
    refine awp_seq ?_
    refine awp_region ?_
    refine aR 1 ?_
    refine aBs (s := vx3_1) rfl ?_
    refine aL (encI .u8) (bytesD vx3_1) ?_
    refine aR 1 ?_
    refine aE ?_
    refine awp_block ?_
    refine awp_to (st' := strconv_Atoi_2_x4_H qx vx3_1 (0, 0)) (oT [] []) ?_
    refine bE hF fun vx6_1 h16 hF => ?_
    refine awp_sub (awp_loop' (strconv_Atoi_2_x4_H qx vx3_1) strconv_Atoi_2_x4_k (strconv_Atoi_2_x4_S qx vx3_1) (by intro x; exact fun h => nomatch h) h16 (strconv_Atoi_2_x4_ok qx vx3_1)) ?_
    refine awp_seq ?_
    refine awp_to (st' := strconv_Atoi_2_x5_I qx vx6_1) (oT [] []) ?_
    refine bE hF fun vx7_1 h19 hF => ?_
    refine awp_sub (strconv_Atoi_2_x5_ok qx vx6_1 h19) ?_
    refine awp_seq ?_
    refine awp_region ?_
    refine aR 3 ?_
    refine aE ?_
    refine awp_ret ?_
    exact oF hF [] []
  · refine awp_false (by kernel_rfl) h3 ?_
    refine awp_skip ?_
    refine awp_seq ?_
    refine bE hF fun vr h20 hF => ?_
    refine awp_region ?_
    refine aR 1 ?_
    refine aC (strconv_ParseInt_ok h20) [] [] [] ?_
    refine aR 5 ?_
    refine aE ?_
    refine awp_seq ?_
    refine awp_region ?_
    refine aR 4 ?_
    refine aE ?_
    refine awp_ret ?_
    exact oF hF [] []

/-! ### strconv.Atoi -/
def strconv_Atoi_R (qs : List UInt8) (r : Int) : TV × Mem := (.tup [.one (.d (.int .i64 r)), .one (.nili)], ⟨[], []⟩)

theorem strconv_Atoi_ok {qs : List UInt8} {r} (hF : strconv_Atoi qs = some r) : Holds prog 268 [.v (.one (.d (.str qs)))] ⟨[], []⟩ (Is (strconv_Atoi_R qs r)) := by
  unfold strconv_Atoi at hF
  refine holds_of_awp hΓ (fn := f268) (c := cB f268) (A := 0) (nx := 0) (by kernel_rfl) (by kernel_rfl) (by kernel_rfl) (by kernel_rfl) (by kernel_rfl) (by kernel_rfl) (lowc_of (by kernel_rfl)) ?_
  show Awp prog 0 18 (cB f268) _ _
  refine awp_seq ?_
  refine awp_region ?_
  refine aR 2 ?_
  refine aE ?_
  refine awp_seq ?_
  refine bE hF fun vr1 h1 hF => ?_
  refine awp_region ?_
  refine aR 1 ?_
  refine aC (strconv_Atoi_2_ok h1) [] [] [] ?_
  refine aR 5 ?_
  refine aE ?_
  refine awp_seq ?_
  refine awp_seq ?_
  refine awp_region ?_
  refine aR 1 ?_
  refine aS (does_nilI (op := .neq) (c := false) rfl (.inr ⟨rfl, rfl⟩) (by kernel_rfl) (by kernel_rfl)) ?_
  refine aE ?_
  refine awp_false (by kernel_rfl) rfl ?_
  refine awp_skip ?_
  refine awp_seq ?_
  refine awp_region ?_
  refine aR 3 ?_
  refine aE ?_
  refine awp_ret ?_
  exact oF hF [] []

/-! ### beaconfleet/base.Number -/
def base_Number_x1_k : Bool → AEx
  | _ => .normal

def base_Number_x1_S (qs : List UInt8) (qdigits : Int) (vr : List UInt8) : Bool → St
  | vx => Mem.st ⟨[], []⟩ (tl [(0, .v (.one (.d (.str qs)))), (6, .v (.one (.d (.str vr)))), (36, .v (.one (.d (.bool vx))))]) 0

def base_Number_x1_I (qs : List UInt8) (qdigits : Int) (vr : List UInt8) : St := Mem.st ⟨[], []⟩ (tl [(0, .v (.one (.d (.str qs)))), (1, .v (.one (.d (.int .i64 qdigits)))), (6, .v (.one (.d (.str vr))))]) 0

theorem base_Number_x1_ok (qs : List UInt8) (qdigits : Int) (vr : List UInt8) {r} (hF : base_Number_x1 qs qdigits vr = some r) : Awp prog 0 61 (cL (cL (cR (cR (cB f234))))) (Out 0 base_Number_x1_k (base_Number_x1_S qs qdigits vr) r) (base_Number_x1_I qs qdigits vr) := by
  unfold base_Number_x1 at hF
  refine cE hF (fun h2 hF => ?_) fun h2 hF => ?_
  · refine awp_region ?_
    refine aR 1 ?_
    refine aB h2 ?_
    refine aR 23 ?_
    refine aE ?_
    exact oO hF [] [] rfl
  · refine cE hF (fun h3 hF => ?_) fun h3 hF => ?_
    · refine awp_region ?_
      refine aR 1 ?_
      refine aB h2 ?_
      refine aR 4 ?_
      refine aB h3 ?_
      refine aR 18 ?_
      refine aE ?_
      exact oO hF [] [] rfl
    · refine bE hF fun vc h4 hF => ?_
      refine cE hF (fun h5 hF => ?_) fun h5 hF => ?_
      · refine cE hF (fun h6 hF => ?_) fun h6 hF => ?_
        · refine awp_region ?_
          refine aR 1 ?_
          refine aB h2 ?_
          refine aR 4 ?_
          refine aB h3 ?_
          refine aR 3 ?_
          refine aX (x_idxS h4) ?_
          refine aB h5 ?_
          refine aR 3 ?_
          refine aB h6 ?_
          refine aR 9 ?_
          refine aE ?_
          exact oO hF [] [] rfl
        · refine awp_region ?_
          refine aR 1 ?_
          refine aB h2 ?_
          refine aR 4 ?_
          refine aB h3 ?_
          refine aR 3 ?_
          refine aX (x_idxS h4) ?_
          refine aB h5 ?_
          refine aR 3 ?_
          refine aB h6 ?_
          refine aR 9 ?_
          refine aE ?_
          exact oO hF [] [] rfl
      · refine awp_region ?_
        refine aR 1 ?_
        refine aB h2 ?_
        refine aR 4 ?_
        refine aB h3 ?_
        refine aR 3 ?_
        refine aX (x_idxS h4) ?_
        refine aB h5 ?_
        refine aR 13 ?_
        refine aE ?_
        exact oO hF [] [] rfl

def base_Number_x3_k : Bool → AEx
  | _ => .normal

def base_Number_x3_S (qs : List UInt8) (vr : List UInt8) (vx2 : Int) : Bool → St
  | vx4 => Mem.st ⟨[], []⟩ (tl [(0, .v (.one (.d (.str qs)))), (6, .v (.one (.d (.str vr)))), (38, .v (.one (.d (.int .i64 (vr.length : Int))))), (39, .v (.one (.d (.int .i64 vx2)))), (51, .v (.one (.d (.bool vx4))))]) 0

def base_Number_x3_I (qs : List UInt8) (vr : List UInt8) (vx2 : Int) : St := Mem.st ⟨[], []⟩ (tl [(0, .v (.one (.d (.str qs)))), (6, .v (.one (.d (.str vr)))), (7, .v (.one (.d (.int .i64 vx2)))), (38, .v (.one (.d (.int .i64 (vr.length : Int))))), (39, .v (.one (.d (.int .i64 vx2))))]) 0

theorem base_Number_x3_ok (qs : List UInt8) (vr : List UInt8) (vx2 : Int) {r} (hF : base_Number_x3 vr vx2 = some r) : Awp prog 0 61 (cL (cR (cL (cL (cR (cR (cL (cL (cR (cL (cR (cR (cR (cB f234)))))))))))))) (Out 0 base_Number_x3_k (base_Number_x3_S qs vr vx2) r) (base_Number_x3_I qs vr vx2) := by
  unfold base_Number_x3 at hF
  refine bE hF fun vc2 h10 hF => ?_
  refine cE hF (fun h11 hF => ?_) fun h11 hF => ?_
  · refine awp_region ?_
    refine aR 2 ?_
    refine aX (x_idxS h10) ?_
    refine aB h11 ?_
    refine aR 6 ?_
    refine aE ?_
    exact oO hF [] [] rfl
  · refine awp_region ?_
    refine aR 2 ?_
    refine aX (x_idxS h10) ?_
    refine aB h11 ?_
    refine aR 3 ?_
    refine aX (x_idxS h10) ?_
    refine aR 2 ?_
    refine aE ?_
    exact oO hF [] [] rfl

def base_Number_x2_k : Unit ⊕ Unit → AEx
  | .inl _ => .exit 0
  | .inr _ => .ret

def base_Number_x2_S (qs : List UInt8) (vr : List UInt8) : Unit ⊕ Unit → St
  | .inl _ => Mem.st ⟨[], []⟩ (tl [(0, .v (.one (.d (.str qs))))]) 0
  | .inr _ => Mem.st ⟨[], []⟩ (tl [(4, .v (.one (.d (.int .i64 0)))), (5, .v (.one (.d (.bool false))))]) 0

def base_Number_x2_H (qs : List UInt8) (vr : List UInt8) : Int → St
  | vx2 => Mem.st ⟨[], []⟩ (tl [(0, .v (.one (.d (.str qs)))), (6, .v (.one (.d (.str vr)))), (38, .v (.one (.d (.int .i64 (vr.length : Int))))), (39, .v (.one (.d (.int .i64 vx2))))]) 0

theorem base_Number_x2_ok (qs : List UInt8) (vr : List UInt8) (vx2 : Int) (r : (Int) ⊕ (Unit ⊕ Unit)) (hF : base_Number_x2 vr vx2 = some r) : Awp prog 0 61 (cL (cL (cR (cL (cR (cR (cR (cB f234)))))))) (Out 0 (kk base_Number_x2_k) (SS (base_Number_x2_H qs vr) (base_Number_x2_S qs vr)) r) (base_Number_x2_H qs vr vx2) := by
  unfold base_Number_x2 at hF
  refine awp_seq ?_
  refine awp_region ?_
  refine aR 1 ?_
  refine aE ?_
  refine awp_seq ?_
  refine cE hF (fun h9 hF => ?_) fun h9 hF => ?_
  · refine awp_true (by kernel_rfl) h9 ?_
    refine awp_skip ?_
    refine awp_seq ?_
    refine awp_block ?_
    refine awp_seq ?_
    refine awp_region ?_
    refine aR 2 ?_
    refine aE ?_
    refine awp_seq ?_
    refine awp_to (st' := base_Number_x3_I qs vr vx2) (oT [] []) ?_
    refine bE hF fun vx4_1 h12 hF => ?_
    refine awp_sub (base_Number_x3_ok qs vr vx2 h12) ?_
    refine cE hF (fun h13 hF => ?_) fun h13 hF => ?_
    · refine awp_true (by kernel_rfl) h13 ?_
      refine awp_seq ?_
      refine awp_region ?_
      refine aR 2 ?_
      refine aE ?_
      refine awp_ret ?_
      exact oO hF [] [] rfl
    · refine awp_false (by kernel_rfl) h13 ?_
      refine awp_skip ?_
      refine awp_region ?_
      refine aR 2 ?_
      refine aE ?_
      exact oO hF [] [] rfl
  · refine awp_false (by kernel_rfl) h9 ?_
    refine awp_exit ?_
    exact oO hF [] [] rfl

def base_Number_R (qs : List UInt8) (qdigits : Int) (r : Int × Bool) : TV × Mem := (.tup [.one (.d (.int .i64 r.1)), .one (.d (.bool r.2))], ⟨[], []⟩)

theorem base_Number_ok {qs : List UInt8} {qdigits : Int} {r} (hF : base_Number qs qdigits = some r) : Holds prog 234 [.v (.one (.d (.str qs))), .v (.one (.d (.int .i64 qdigits)))] ⟨[], []⟩ (Is (base_Number_R qs qdigits r)) := by
  unfold base_Number at hF
  refine holds_of_awp hΓ (fn := f234) (c := cB f234) (A := 0) (nx := 0) (by kernel_rfl) (by kernel_rfl) (by kernel_rfl) (by kernel_rfl) (by kernel_rfl) (by kernel_rfl) (lowc_of (by kernel_rfl)) ?_
  show Awp prog 0 61 (cB f234) _ _
  refine awp_seq ?_
  refine awp_region ?_
  refine aR 2 ?_
  refine aE ?_
  refine awp_seq ?_
  refine bE hF fun vr h1 hF => ?_
  refine awp_region ?_
  refine aR 1 ?_
  refine aC (strings_TrimPrefix_ok h1) [] [] [] ?_
  refine aR 1 ?_
  refine aE ?_
  refine awp_seq ?_
  refine awp_seq ?_
  refine awp_to (st' := base_Number_x1_I qs qdigits vr) (oT [] []) ?_
  refine bE hF fun vx1 h7 hF => ?_
  refine awp_sub (base_Number_x1_ok qs qdigits vr h7) ?_
  refine cE hF (fun h8 hF => ?_) fun h8 hF => ?_
  · refine awp_true (by kernel_rfl) h8 ?_
    refine awp_seq ?_
    refine awp_region ?_
    refine aR 2 ?_
    refine aE ?_
    refine awp_ret ?_
    exact oF hF [] []
  · refine awp_false (by kernel_rfl) h8 ?_
    refine awp_skip ?_
    refine awp_seq ?_
    refine awp_seq ?_
    refine awp_region ?_
    refine aR 3 ?_
    refine aE ?_
    refine awp_block ?_
    refine awp_to (st' := base_Number_x2_H qs vr 0) (oT [] []) ?_
    refine bE hF fun x h14 hF => ?_
    rcases x with _ | _
    · refine awp_sub (awp_loop' (base_Number_x2_H qs vr) base_Number_x2_k (base_Number_x2_S qs vr) (by intro x; rcases x with x | x <;> exact fun h => nomatch h) h14 (base_Number_x2_ok qs vr)) ?_
      refine awp_seq ?_
      refine bE hF fun vr1 h15 hF => ?_
      refine awp_region ?_
      refine aR 1 ?_
      refine aC (strconv_Atoi_ok h15) [] [] [] ?_
      refine aR 5 ?_
      refine aE ?_
      refine awp_seq ?_
      refine aD ?_
      refine dR 2 ?_
      refine dS (U := []) (stable_nilI (op := .eql) (c := true) rfl (.inl ⟨rfl, rfl⟩) (by kernel_rfl) (by kernel_rfl)) ?_
      refine dR 2 ?_
      refine dE ?_
      refine awp_ret ?_
      exact oF hF [] []
    · refine awp_sub (awp_loop' (base_Number_x2_H qs vr) base_Number_x2_k (base_Number_x2_S qs vr) (by intro x; rcases x with x | x <;> exact fun h => nomatch h) h14 (base_Number_x2_ok qs vr)) ?_
      exact oF hF [] []

/-! ### beaconfleet/base.Numbers -/
def base_Numbers_o0_x1_k : (List Int) ⊕ Unit → AEx
  | .inl _ => .exit 0
  | .inr _ => .ret

def base_Numbers_o0_x1_S (qwords : List (List UInt8)) (qdigits : Int) : (List Int) ⊕ Unit → St
  | .inl vout1 => Mem.st ⟨[(1, ⟨3, 1, List.map (encI .i64) vout1⟩)], []⟩ (tl [(6, .v (.one (.own 1 none)))]) 2
  | .inr _ => Mem.st ⟨[], []⟩ (tl [(4, .v (.one (.nil))), (5, .v (.one (.d (.bool false))))]) 1

def base_Numbers_o0_x1_H (qwords : List (List UInt8)) (qdigits : Int) : (List Int) × Int → St
  | (vout, vx) => Mem.st ⟨[(1, ⟨3, 1, List.map (encI .i64) vout⟩)], []⟩ (tl [(1, .v (.one (.d (.int .i64 qdigits)))), (6, .v (.one (.own 1 none))), (11, .v (.one (.d (.lst (List.map encS qwords))))), (12, .v (.one (.d (.int .i64 (qwords.length : Int))))), (13, .v (.one (.d (.int .i64 vx))))]) 2

theorem base_Numbers_o0_x1_ok (qwords : List (List UInt8)) (qdigits : Int) (s : (List Int) × Int) (r : ((List Int) × Int) ⊕ ((List Int) ⊕ Unit)) (hF : base_Numbers_o0_x1 qwords qdigits s = some r) : Awp prog 1 31 (cL (cL (cR (cL (cR (cR (cB f186))))))) (Out 1 (kk base_Numbers_o0_x1_k) (SS (base_Numbers_o0_x1_H qwords qdigits) (base_Numbers_o0_x1_S qwords qdigits)) r) (base_Numbers_o0_x1_H qwords qdigits s) := by
  obtain ⟨vout, vx⟩ := s
  unfold base_Numbers_o0_x1 at hF
  refine awp_seq ?_
  refine awp_region ?_
  refine aR 1 ?_
  refine aE ?_
  refine awp_seq ?_
  refine cE hF (fun h1 hF => ?_) fun h1 hF => ?_
  · refine awp_true (by kernel_rfl) h1 ?_
    refine awp_skip ?_
    refine awp_seq ?_
    refine awp_block ?_
    refine awp_seq ?_
    refine bE hF fun vy1 h2 hF => ?_
    refine awp_region ?_
    refine aX (x_idx encS h2) ?_
    refine aR 2 ?_
    refine aE ?_
    refine awp_seq ?_
    refine bE hF fun x h3 hF => ?_
    obtain ⟨vr2_1, vr3_1⟩ := x
    refine awp_region ?_
    refine aR 2 ?_
    refine aC (base_Number_ok h3) [] [] [] ?_
    refine aR 5 ?_
    refine aE ?_
    refine awp_seq ?_
    refine awp_seq ?_
    refine awp_region ?_
    refine aR 2 ?_
    refine aE ?_
    refine cE hF (fun h4 hF => ?_) fun h4 hF => ?_
    · refine awp_true (by kernel_rfl) h4 ?_
      refine awp_seq ?_
      refine awp_region ?_
      refine aR 2 ?_
      refine aE ?_
      refine awp_ret ?_
      exact oO hF [] [] rfl
    · refine awp_false (by kernel_rfl) h4 ?_
      refine awp_skip ?_
      refine gE hF fun h5 hF => ?_
      refine awp_region ?_
      refine aR 3 ?_
      refine aX (x_app (encI .i64) 1 h5) ?_
      refine aR 1 ?_
      refine aE ?_
      refine awp_region ?_
      refine aR 2 ?_
      refine aE ?_
      exact oO hF [(1, 17002)] [] rfl
  · refine awp_false (by kernel_rfl) h1 ?_
    refine awp_exit ?_
    exact oO hF [] [] rfl

def base_Numbers_o0_R (qwords : List (List UInt8)) (qdigits : Int) (r : (List Int) × Bool) : TV × Mem := (.tup [.one (.own 1 none), .one (.d (.bool r.2))], ⟨[(1, ⟨3, 1, List.map (encI .i64) r.1⟩)], []⟩)

theorem base_Numbers_o0_ok {qwords : List (List UInt8)} {qdigits : Int} {r} (hF : base_Numbers_o0 qwords qdigits = some r) : Holds prog 186 [.v (.one (.own 0 none)), .v (.one (.d (.int .i64 qdigits)))] ⟨[(0, ⟨9, 1, List.map encS qwords⟩)], []⟩ (Is (base_Numbers_o0_R qwords qdigits r)) := by
  unfold base_Numbers_o0 at hF
  refine holds_of_awp hΓ (fn := f186) (c := cB f186) (A := 1) (nx := 1) (by kernel_rfl) (by kernel_rfl) (by kernel_rfl) (by kernel_rfl) (by kernel_rfl) (by kernel_rfl) (lowc_of (by kernel_rfl)) ?_
  show Awp prog 1 31 (cB f186) _ _
  refine awp_seq ?_
  refine awp_region ?_
  refine aR 2 ?_
  refine aE ?_
  refine awp_to (oT (m := ⟨[], []⟩) (ts := [(0, .v (.one (.d (.lst (List.map encS qwords))))), (1, .v (.one (.d (.int .i64 qdigits))))]) (nx := 1) [] []) ?_
  refine awp_seq ?_
  refine awp_region ?_
  refine aR 1 ?_
  refine aE ?_
  refine awp_seq ?_
  refine awp_seq ?_
  refine awp_region ?_
  refine aR 1 ?_
  refine aL encS qwords ?_
  refine aR 1 ?_
  refine aE ?_
  refine awp_block ?_
  refine awp_to (st' := base_Numbers_o0_x1_H qwords qdigits ([], 0)) (oT [] [1]) ?_
  refine bE hF fun x h6 hF => ?_
  rcases x with vout1_1 | _
  · refine awp_sub (awp_loop' (base_Numbers_o0_x1_H qwords qdigits) base_Numbers_o0_x1_k (base_Numbers_o0_x1_S qwords qdigits) (by intro x; rcases x with x | x <;> exact fun h => nomatch h) h6 (base_Numbers_o0_x1_ok qwords qdigits)) ?_
    refine awp_seq ?_
    refine awp_region ?_
    refine aR 3 ?_
    refine aE ?_
    refine awp_ret ?_
    exact oF hF [] []
  · refine awp_sub (awp_loop' (base_Numbers_o0_x1_H qwords qdigits) base_Numbers_o0_x1_k (base_Numbers_o0_x1_S qwords qdigits) (by intro x; rcases x with x | x <;> exact fun h => nomatch h) h6 (base_Numbers_o0_x1_ok qwords qdigits)) ?_
    exact oF hF [] [1]

/-! ### beaconfleet/base.Version -/
def base_Version_x1_k : Bool → AEx
  | _ => .normal

def base_Version_x1_S (qv : api_Version) : Bool → St
  | vx => Mem.st ⟨[], []⟩ (tl [(2, .v (.one (.d (.bool vx))))]) 0

def base_Version_x1_I (qv : api_Version) : St := Mem.st ⟨[], [(0, [.d (.int .i64 qv.Major), .d (.int .i64 qv.Minor), .d (.int .i64 qv.Patch)])]⟩ (tl [(1, .v (.one (.box 0 0)))]) 1

theorem base_Version_x1_ok (qv : api_Version) {r} (hF : base_Version_x1 qv = some r) : Awp prog 0 19 (cL (cR (cB f187))) (Out 0 base_Version_x1_k (base_Version_x1_S qv) r) (base_Version_x1_I qv) := by
  unfold base_Version_x1 at hF
  refine bE hF fun vr h1 hF => ?_
  refine cE hF (fun h2 hF => ?_) fun h2 hF => ?_
  · refine bE hF fun vr1 h3 hF => ?_
    refine cE hF (fun h4 hF => ?_) fun h4 hF => ?_
    · refine bE hF fun vr2 h5 hF => ?_
      refine awp_region ?_
      refine aR 2 ?_
      refine aC (base_Out_ok h1) [] [] [] ?_
      refine aB h2 ?_
      refine aR 3 ?_
      refine aC (base_Out_ok h3) [] [] [] ?_
      refine aB h4 ?_
      refine aR 4 ?_
      refine aC (base_Out_ok h5) [] [] [] ?_
      refine aR 3 ?_
      refine aE ?_
      exact oO hF [] [] rfl
    · refine awp_region ?_
      refine aR 2 ?_
      refine aC (base_Out_ok h1) [] [] [] ?_
      refine aB h2 ?_
      refine aR 3 ?_
      refine aC (base_Out_ok h3) [] [] [] ?_
      refine aB h4 ?_
      refine aR 8 ?_
      refine aE ?_
      exact oO hF [] [] rfl
  · refine awp_region ?_
    refine aR 2 ?_
    refine aC (base_Out_ok h1) [] [] [] ?_
    refine aB h2 ?_
    refine aR 13 ?_
    refine aE ?_
    exact oO hF [] [] rfl

def base_Version_R (qv : api_Version) (r : Bool) : TV × Mem := (.v (.one (.d (.bool r))), ⟨[], []⟩)

theorem base_Version_ok {qv : api_Version} {r} (hF : base_Version qv = some r) : Holds prog 187 [.v (.agg [.d (.int .i64 qv.Major), .d (.int .i64 qv.Minor), .d (.int .i64 qv.Patch)])] ⟨[], []⟩ (Is (base_Version_R qv r)) := by
  unfold base_Version at hF
  refine holds_of_awp hΓ (fn := f187) (c := cB f187) (A := 0) (nx := 0) (by kernel_rfl) (by kernel_rfl) (by kernel_rfl) (by kernel_rfl) (by kernel_rfl) (by kernel_rfl) (lowc_of (by kernel_rfl)) ?_
  show Awp prog 0 19 (cB f187) _ _
  refine awp_seq ?_
  refine awp_region ?_
  refine aR 2 ?_
  refine aE ?_
  refine awp_seq ?_
  refine awp_to (st' := base_Version_x1_I qv) (oT [] []) ?_
  refine bE hF fun vx1 h6 hF => ?_
  refine awp_sub (base_Version_x1_ok qv h6) ?_
  refine awp_ret ?_
  exact oF hF [] []

/-! ### beaconfleet/campaign.ParseVersion -/
def campaign_ParseVersion_x1_k : Bool → AEx
  | _ => .normal

def campaign_ParseVersion_x1_S (vr1 : List Int) (vr1_1 : Bool) : Bool → St
  | vx => Mem.st ⟨[], [(0, [.d (.int .i64 0), .d (.int .i64 0), .d (.int .i64 0)])]⟩ (tl [(2, .v (.one (.box 0 0))), (4, .v (.one (.d (.lst (List.map (encI .i64) vr1))))), (19, .v (.one (.d (.bool vx))))]) 1

def campaign_ParseVersion_x1_I (vr1 : List Int) (vr1_1 : Bool) : St := Mem.st ⟨[], [(0, [.d (.int .i64 0), .d (.int .i64 0), .d (.int .i64 0)])]⟩ (tl [(2, .v (.one (.box 0 0))), (4, .v (.one (.d (.lst (List.map (encI .i64) vr1))))), (5, .v (.one (.d (.bool vr1_1))))]) 1

theorem campaign_ParseVersion_x1_ok (vr1 : List Int) (vr1_1 : Bool) {r} (hF : campaign_ParseVersion_x1 vr1 vr1_1 = some r) : Awp prog 0 36 (cL (cL (cR (cR (cB f143))))) (Out 0 campaign_ParseVersion_x1_k (campaign_ParseVersion_x1_S vr1 vr1_1) r) (campaign_ParseVersion_x1_I vr1 vr1_1) := by
  unfold campaign_ParseVersion_x1 at hF
  refine cE hF (fun h3 hF => ?_) fun h3 hF => ?_
  · refine awp_region ?_
    refine aR 1 ?_
    refine aB h3 ?_
    refine aR 5 ?_
    refine aE ?_
    exact oO hF [] [] rfl
  · refine awp_region ?_
    refine aR 1 ?_
    refine aB h3 ?_
    refine aR 2 ?_
    refine aL (encI .i64) vr1 ?_
    refine aR 2 ?_
    refine aE ?_
    exact oO hF [] [] rfl

def campaign_ParseVersion_R (qs : List UInt8) (r : api_Version × Int) : TV × Mem := (.tup [.agg [.d (.int .i64 r.1.Major), .d (.int .i64 r.1.Minor), .d (.int .i64 r.1.Patch)], .one (.d (.int .i64 r.2))], ⟨[], []⟩)

theorem campaign_ParseVersion_ok {qs : List UInt8} {r} (hF : campaign_ParseVersion qs = some r) : Holds prog 143 [.v (.one (.d (.str qs)))] ⟨[], []⟩ (Is (campaign_ParseVersion_R qs r)) := by
  unfold campaign_ParseVersion at hF
  refine holds_of_awp hΓ (fn := f143) (c := cB f143) (A := 0) (nx := 0) (by kernel_rfl) (by kernel_rfl) (by kernel_rfl) (by kernel_rfl) (by kernel_rfl) (by kernel_rfl) (lowc_of (by kernel_rfl)) ?_
  show Awp prog 0 36 (cB f143) _ _
  refine awp_seq ?_
  refine awp_region ?_
  refine aR 2 ?_
  refine aE ?_
  refine awp_seq ?_
  refine bE hF fun vr h1 hF => ?_
  refine bE hF fun x h2 hF => ?_
  obtain ⟨vr1, vr1_1⟩ := x
  refine awp_region ?_
  refine aR 1 ?_
  refine aC (strings_Split_ok h1) [] [] [] ?_
  refine aC (base_Numbers_o0_ok h2) [(0, 3000)] [] [] ?_
  refine aR 5 ?_
  refine aE ?_
  refine awp_to (oT (m := ⟨[], [(0, [.d (.int .i64 0), .d (.int .i64 0), .d (.int .i64 0)])]⟩) (ts := [(2, .v (.one (.box 0 0))), (4, .v (.one (.d (.lst (List.map (encI .i64) vr1))))), (5, .v (.one (.d (.bool vr1_1))))]) (nx := 1) [] []) ?_
  refine awp_seq ?_
  refine awp_seq ?_
  refine awp_to (st' := campaign_ParseVersion_x1_I vr1 vr1_1) (oT [] []) ?_
  refine bE hF fun vx1 h4 hF => ?_
  refine awp_sub (campaign_ParseVersion_x1_ok vr1 vr1_1 h4) ?_
  refine cE hF (fun h5 hF => ?_) fun h5 hF => ?_
  · refine awp_true (by kernel_rfl) h5 ?_
    refine awp_seq ?_
    refine awp_region ?_
    refine aR 3 ?_
    refine aE ?_
    refine awp_ret ?_
    exact oF hF [] []
  · refine awp_false (by kernel_rfl) h5 ?_
    refine awp_skip ?_
    refine awp_seq ?_
    refine bE hF fun vy h6 hF => ?_
    refine bE hF fun vy1 h7 hF => ?_
    refine bE hF fun vy2 h8 hF => ?_
    refine aD ?_
    refine dR 1 ?_
    refine dX (x_idx (encI .i64) h6) ?_
    refine dR 2 ?_
    refine dX (x_idx (encI .i64) h7) ?_
    refine dR 2 ?_
    refine dX (x_idx (encI .i64) h8) ?_
    refine dR 4 ?_
    refine dE ?_
    refine awp_seq ?_
    refine awp_seq ?_
    refine bE hF fun vr3 h9 hF => ?_
    refine awp_region ?_
    refine aR 1 ?_
    refine aC (base_Version_ok h9) [] [] [] ?_
    refine aR 1 ?_
    refine aE ?_
    refine cE hF (fun h10 hF => ?_) fun h10 hF => ?_
    · refine awp_true (by kernel_rfl) h10 ?_
      refine awp_seq ?_
      refine awp_region ?_
      refine aR 3 ?_
      refine aE ?_
      refine awp_ret ?_
      exact oF hF [] []
    · refine awp_false (by kernel_rfl) h10 ?_
      refine awp_skip ?_
      refine awp_seq ?_
      refine awp_region ?_
      refine aR 3 ?_
      refine aE ?_
      refine awp_ret ?_
      exact oF hF [] []

/-! ### beaconfleet/place.isSpot -/
def place_isSpot_x1_k : Bool → AEx
  | _ => .normal

def place_isSpot_x1_S (qs : api_Spot) : Bool → St
  | vx => Mem.st ⟨[], []⟩ (tl [(2, .v (.one (.d (.bool vx))))]) 0

def place_isSpot_x1_I (qs : api_Spot) : St := Mem.st ⟨[], [(0, [.d (.int .i64 qs.X), .d (.int .i64 qs.Y)])]⟩ (tl [(1, .v (.one (.box 0 0)))]) 1

theorem place_isSpot_x1_ok (qs : api_Spot) {r} (hF : place_isSpot_x1 qs = some r) : Awp prog 0 13 (cL (cR (cB f188))) (Out 0 place_isSpot_x1_k (place_isSpot_x1_S qs) r) (place_isSpot_x1_I qs) := by
  unfold place_isSpot_x1 at hF
  refine bE hF fun vr h1 hF => ?_
  refine cE hF (fun h2 hF => ?_) fun h2 hF => ?_
  · refine bE hF fun vr1 h3 hF => ?_
    refine awp_region ?_
    refine aR 2 ?_
    refine aC (base_Out_ok h1) [] [] [] ?_
    refine aB h2 ?_
    refine aR 3 ?_
    refine aC (base_Out_ok h3) [] [] [] ?_
    refine aR 3 ?_
    refine aE ?_
    exact oO hF [] [] rfl
  · refine awp_region ?_
    refine aR 2 ?_
    refine aC (base_Out_ok h1) [] [] [] ?_
    refine aB h2 ?_
    refine aR 7 ?_
    refine aE ?_
    exact oO hF [] [] rfl

def place_isSpot_R (qs : api_Spot) (r : Bool) : TV × Mem := (.v (.one (.d (.bool r))), ⟨[], []⟩)

theorem place_isSpot_ok {qs : api_Spot} {r} (hF : place_isSpot qs = some r) : Holds prog 188 [.v (.agg [.d (.int .i64 qs.X), .d (.int .i64 qs.Y)])] ⟨[], []⟩ (Is (place_isSpot_R qs r)) := by
  unfold place_isSpot at hF
  refine holds_of_awp hΓ (fn := f188) (c := cB f188) (A := 0) (nx := 0) (by kernel_rfl) (by kernel_rfl) (by kernel_rfl) (by kernel_rfl) (by kernel_rfl) (by kernel_rfl) (lowc_of (by kernel_rfl)) ?_
  show Awp prog 0 13 (cB f188) _ _
  refine awp_seq ?_
  refine awp_region ?_
  refine aR 2 ?_
  refine aE ?_
  refine awp_seq ?_
  refine awp_to (st' := place_isSpot_x1_I qs) (oT [] []) ?_
  refine bE hF fun vx1 h4 hF => ?_
  refine awp_sub (place_isSpot_x1_ok qs h4) ?_
  refine awp_ret ?_
  exact oF hF [] []

/-! ### beaconfleet/place.Cell -/
def place_Cell_x1_k : Bool → AEx
  | _ => .normal

def place_Cell_x1_S (qs : api_Spot) (qlevel : Int) : Bool → St
  | vx => Mem.st ⟨[], [(0, [.d (.int .i64 qs.X), .d (.int .i64 qs.Y)])]⟩ (tl [(1, .v (.one (.d (.int .i64 qlevel)))), (2, .v (.one (.box 0 0))), (16, .v (.one (.d (.bool vx))))]) 1

def place_Cell_x1_I (qs : api_Spot) (qlevel : Int) : St := Mem.st ⟨[], [(0, [.d (.int .i64 qs.X), .d (.int .i64 qs.Y)])]⟩ (tl [(1, .v (.one (.d (.int .i64 qlevel)))), (2, .v (.one (.box 0 0)))]) 1

theorem place_Cell_x1_ok (qs : api_Spot) (qlevel : Int) {r} (hF : place_Cell_x1 qs qlevel = some r) : Awp prog 0 47 (cL (cL (cR (cB f144)))) (Out 0 place_Cell_x1_k (place_Cell_x1_S qs qlevel) r) (place_Cell_x1_I qs qlevel) := by
  unfold place_Cell_x1 at hF
  refine bE hF fun vr2 h1 hF => ?_
  refine cE hF (fun h2 hF => ?_) fun h2 hF => ?_
  · refine awp_region ?_
    refine aR 1 ?_
    refine aC (place_isSpot_ok h1) [] [] [] ?_
    refine aB h2 ?_
    refine aR 4 ?_
    refine aE ?_
    exact oO hF [] [] rfl
  · refine bE hF fun vr h3 hF => ?_
    refine awp_region ?_
    refine aR 1 ?_
    refine aC (place_isSpot_ok h1) [] [] [] ?_
    refine aB h2 ?_
    refine aR 2 ?_
    refine aC (base_Out_ok h3) [] [] [] ?_
    refine aR 1 ?_
    refine aE ?_
    exact oO hF [] [] rfl

def place_Cell_x2_k : (List Int) → AEx
  | _ => .exit 0

def place_Cell_x2_S (qs : api_Spot) (qlevel : Int) : (List Int) → St
  | vout1 => Mem.st ⟨[(0, ⟨5, 1, List.map (encI .u8) vout1⟩)], []⟩ (tl [(6, .v (.one (.own 0 none)))]) 1

def place_Cell_x2_H (qs : api_Spot) (qlevel : Int) : (List Int) × Int × Int → St
  | (vout, vlong, vx2) => Mem.st ⟨[(0, ⟨5, 1, List.map (encI .u8) vout⟩)], []⟩ (tl [(6, .v (.one (.own 0 none))), (7, .v (.one (.d (.int .i64 (IntKind.wrap .i64 (qs.X - (-16384))))))), (8, .v (.one (.d (.int .i64 (IntKind.wrap .i64 (qs.Y - (-16384))))))), (9, .v (.one (.d (.int .i64 vlong)))), (23, .v (.one (.d (.int .i64 qlevel)))), (24, .v (.one (.d (.int .i64 vx2))))]) 1

theorem place_Cell_x2_ok (qs : api_Spot) (qlevel : Int) (s : (List Int) × Int × Int) (r : ((List Int) × Int × Int) ⊕ ((List Int))) (hF : place_Cell_x2 qs qlevel s = some r) : Awp prog 0 47 (cL (cL (cR (cL (cR (cR (cR (cR (cB f144))))))))) (Out 0 (kk place_Cell_x2_k) (SS (place_Cell_x2_H qs qlevel) (place_Cell_x2_S qs qlevel)) r) (place_Cell_x2_H qs qlevel s) := by
  obtain ⟨vout, vlong, vx2⟩ := s
  unfold place_Cell_x2 at hF
  refine awp_seq ?_
  refine awp_region ?_
  refine aR 1 ?_
  refine aE ?_
  refine awp_seq ?_
  refine cE hF (fun h6 hF => ?_) fun h6 hF => ?_
  · refine awp_true (by kernel_rfl) h6 ?_
    refine awp_skip ?_
    refine awp_seq ?_
    refine awp_block ?_
    refine awp_seq ?_
    refine awp_region ?_
    refine aR 3 ?_
    refine aE ?_
    refine gE hF fun h7 hF => ?_
    refine gE hF fun h8 hF => ?_
    refine aD ?_
    refine dR 3 ?_
    refine dX (x_quo h7) ?_
    refine dR 5 ?_
    refine dX (x_quo h7) ?_
    refine dR 5 ?_
    refine dX (x_app (encI .u8) 0 h8) ?_
    refine dR 1 ?_
    refine dE ?_
    refine awp_region ?_
    refine aR 2 ?_
    refine aE ?_
    exact oO hF [(0, 19001)] [] rfl
  · refine awp_false (by kernel_rfl) h6 ?_
    refine awp_exit ?_
    exact oO hF [] [] rfl

def place_Cell_R (qs : api_Spot) (qlevel : Int) (r : (List UInt8) × Int) : TV × Mem := (.tup [.one (.d (.str r.1)), .one (.d (.int .i64 r.2))], ⟨[], []⟩)

theorem place_Cell_ok {qs : api_Spot} {qlevel : Int} {r} (hF : place_Cell qs qlevel = some r) : Holds prog 144 [.v (.agg [.d (.int .i64 qs.X), .d (.int .i64 qs.Y)]), .v (.one (.d (.int .i64 qlevel)))] ⟨[], []⟩ (Is (place_Cell_R qs qlevel r)) := by
  unfold place_Cell at hF
  refine holds_of_awp hΓ (fn := f144) (c := cB f144) (A := 0) (nx := 0) (by kernel_rfl) (by kernel_rfl) (by kernel_rfl) (by kernel_rfl) (by kernel_rfl) (by kernel_rfl) (lowc_of (by kernel_rfl)) ?_
  show Awp prog 0 47 (cB f144) _ _
  refine awp_seq ?_
  refine awp_region ?_
  refine aR 3 ?_
  refine aE ?_
  refine awp_seq ?_
  refine awp_seq ?_
  refine awp_to (st' := place_Cell_x1_I qs qlevel) (oT [] []) ?_
  refine bE hF fun vx1 h4 hF => ?_
  refine awp_sub (place_Cell_x1_ok qs qlevel h4) ?_
  refine cE hF (fun h5 hF => ?_) fun h5 hF => ?_
  · refine awp_true (by kernel_rfl) h5 ?_
    refine awp_seq ?_
    refine awp_region ?_
    refine aR 2 ?_
    refine aE ?_
    refine awp_ret ?_
    exact oF hF [] []
  · refine awp_false (by kernel_rfl) h5 ?_
    refine awp_skip ?_
    refine awp_seq ?_
    refine awp_region ?_
    refine aR 1 ?_
    refine aE ?_
    refine awp_seq ?_
    refine aD ?_
    refine dR 9 ?_
    refine dE ?_
    refine awp_seq ?_
    refine awp_seq ?_
    refine awp_region ?_
    refine aR 2 ?_
    refine aE ?_
    refine awp_block ?_
    refine awp_to (st' := place_Cell_x2_H qs qlevel ([], 32768, 0)) (oT [] [0]) ?_
    refine bE hF fun vout1_1 h9 hF => ?_
    refine awp_sub (awp_loop' (place_Cell_x2_H qs qlevel) place_Cell_x2_k (place_Cell_x2_S qs qlevel) (by intro x; exact fun h => nomatch h) h9 (place_Cell_x2_ok qs qlevel)) ?_
    refine awp_seq ?_
    refine awp_region ?_
    refine aR 1 ?_
    refine aSt (xs := vout1_1) rfl rfl ?_
    refine aR 2 ?_
    refine aE ?_
    refine awp_ret ?_
    exact oF hF [] []

/-! ### beaconfleet/command.CheckLetter -/
def command_CheckLetter_x1_k : Bool → AEx
  | _ => .normal

def command_CheckLetter_x1_S (ql : api_Letter) : Bool → St
  | vx => Mem.st ⟨[], [(0, [.d (.str ql.Id), .d (.str ql.Slot), .d (.str ql.Body), .d (.int .i64 ql.Prio), .d (.int .i64 ql.At), .d (.int .i64 ql.Until)])]⟩ (tl [(1, .v (.one (.box 0 0))), (3, .v (.one (.d (.bool vx))))]) 1

def command_CheckLetter_x1_I (ql : api_Letter) : St := Mem.st ⟨[], [(0, [.d (.str ql.Id), .d (.str ql.Slot), .d (.str ql.Body), .d (.int .i64 ql.Prio), .d (.int .i64 ql.At), .d (.int .i64 ql.Until)])]⟩ (tl [(1, .v (.one (.box 0 0)))]) 1

theorem command_CheckLetter_x1_ok (ql : api_Letter) {r} (hF : command_CheckLetter_x1 ql = some r) : Awp prog 0 51 (cL (cL (cL (cR (cB f135))))) (Out 0 command_CheckLetter_x1_k (command_CheckLetter_x1_S ql) r) (command_CheckLetter_x1_I ql) := by
  unfold command_CheckLetter_x1 at hF
  refine bE hF fun vr h1 hF => ?_
  refine cE hF (fun h2 hF => ?_) fun h2 hF => ?_
  · refine awp_region ?_
    refine aR 2 ?_
    refine aC (base_Key_ok h1) [] [] [] ?_
    refine aB h2 ?_
    refine aR 12 ?_
    refine aE ?_
    exact oO hF [] [] rfl
  · refine cE hF (fun h3 hF => ?_) fun h3 hF => ?_
    · refine bE hF fun vr1 h4 hF => ?_
      refine awp_region ?_
      refine aR 2 ?_
      refine aC (base_Key_ok h1) [] [] [] ?_
      refine aB h2 ?_
      refine aR 3 ?_
      refine aB h3 ?_
      refine aR 3 ?_
      refine aC (base_Key_ok h4) [] [] [] ?_
      refine aR 4 ?_
      refine aE ?_
      exact oO hF [] [] rfl
    · refine awp_region ?_
      refine aR 2 ?_
      refine aC (base_Key_ok h1) [] [] [] ?_
      refine aB h2 ?_
      refine aR 3 ?_
      refine aB h3 ?_
      refine aR 8 ?_
      refine aE ?_
      exact oO hF [] [] rfl

def command_CheckLetter_x2_k : Bool → AEx
  | _ => .normal

def command_CheckLetter_x2_S (ql : api_Letter) : Bool → St
  | vx2 => Mem.st ⟨[], []⟩ (tl [(29, .v (.one (.d (.bool vx2))))]) 0

def command_CheckLetter_x2_I (ql : api_Letter) : St := Mem.st ⟨[], [(0, [.d (.str ql.Id), .d (.str ql.Slot), .d (.str ql.Body), .d (.int .i64 ql.Prio), .d (.int .i64 ql.At), .d (.int .i64 ql.Until)])]⟩ (tl [(1, .v (.one (.box 0 0)))]) 1

theorem command_CheckLetter_x2_ok (ql : api_Letter) {r} (hF : command_CheckLetter_x2 ql = some r) : Awp prog 0 51 (cL (cR (cR (cR (cR (cR (cR (cL (cL (cR (cB f135))))))))))) (Out 0 command_CheckLetter_x2_k (command_CheckLetter_x2_S ql) r) (command_CheckLetter_x2_I ql) := by
  unfold command_CheckLetter_x2 at hF
  refine bE hF fun vr2 h10 hF => ?_
  refine cE hF (fun h11 hF => ?_) fun h11 hF => ?_
  · refine awp_region ?_
    refine aR 2 ?_
    refine aCb (base_Out_ok h10) [] [] [] h11 ?_
    refine aR 19 ?_
    refine aE ?_
    exact oO hF [] [] rfl
  · refine bE hF fun vr1_2 h12 hF => ?_
    refine cE hF (fun h13 hF => ?_) fun h13 hF => ?_
    · refine awp_region ?_
      refine aR 2 ?_
      refine aCb (base_Out_ok h10) [] [] [] h11 ?_
      refine aR 3 ?_
      refine aC (base_Moment_ok h12) [] [] [] ?_
      refine aB h13 ?_
      refine aR 14 ?_
      refine aE ?_
      exact oO hF [] [] rfl
    · refine cE hF (fun h14 hF => ?_) fun h14 hF => ?_
      · refine awp_region ?_
        refine aR 2 ?_
        refine aCb (base_Out_ok h10) [] [] [] h11 ?_
        refine aR 3 ?_
        refine aC (base_Moment_ok h12) [] [] [] ?_
        refine aB h13 ?_
        refine aR 6 ?_
        refine aB h14 ?_
        refine aR 7 ?_
        refine aE ?_
        exact oO hF [] [] rfl
      · refine awp_region ?_
        refine aR 2 ?_
        refine aCb (base_Out_ok h10) [] [] [] h11 ?_
        refine aR 3 ?_
        refine aC (base_Moment_ok h12) [] [] [] ?_
        refine aB h13 ?_
        refine aR 6 ?_
        refine aB h14 ?_
        refine aR 7 ?_
        refine aE ?_
        exact oO hF [] [] rfl

def command_CheckLetter_R (ql : api_Letter) (r : Int) : TV × Mem := (.v (.one (.d (.int .i64 r))), ⟨[], []⟩)

theorem command_CheckLetter_ok {ql : api_Letter} {r} (hF : command_CheckLetter ql = some r) : Holds prog 135 [.v (.agg [.d (.str ql.Id), .d (.str ql.Slot), .d (.str ql.Body), .d (.int .i64 ql.Prio), .d (.int .i64 ql.At), .d (.int .i64 ql.Until)])] ⟨[], []⟩ (Is (command_CheckLetter_R ql r)) := by
  unfold command_CheckLetter at hF
  refine holds_of_awp hΓ (fn := f135) (c := cB f135) (A := 0) (nx := 0) (by kernel_rfl) (by kernel_rfl) (by kernel_rfl) (by kernel_rfl) (by kernel_rfl) (by kernel_rfl) (lowc_of (by kernel_rfl)) ?_
  show Awp prog 0 51 (cB f135) _ _
  refine awp_seq ?_
  refine awp_region ?_
  refine aR 2 ?_
  refine aE ?_
  refine awp_seq ?_
  refine awp_block ?_
  refine awp_seq ?_
  refine awp_to (st' := command_CheckLetter_x1_I ql) (oT [] []) ?_
  refine bE hF fun vx1 h5 hF => ?_
  refine awp_sub (command_CheckLetter_x1_ok ql h5) ?_
  refine cE hF (fun h6 hF => ?_) fun h6 hF => ?_
  · refine awp_true (by kernel_rfl) h6 ?_
    refine awp_seq ?_
    refine awp_region ?_
    refine aR 1 ?_
    refine aE ?_
    refine awp_ret ?_
    exact oF hF [] []
  · refine awp_false (by kernel_rfl) h6 ?_
    refine awp_seq ?_
    refine awp_region ?_
    refine aR 5 ?_
    refine aE ?_
    refine cE hF (fun h7 hF => ?_) fun h7 hF => ?_
    · refine awp_true (by kernel_rfl) h7 ?_
      refine awp_seq ?_
      refine awp_region ?_
      refine aR 1 ?_
      refine aE ?_
      refine awp_ret ?_
      exact oF hF [] []
    · refine awp_false (by kernel_rfl) h7 ?_
      refine awp_seq ?_
      refine bE hF fun vr1_1 h8 hF => ?_
      refine awp_region ?_
      refine aR 2 ?_
      refine aC (base_Unmarked_ok h8) [] [] [] ?_
      refine aR 2 ?_
      refine aE ?_
      refine cE hF (fun h9 hF => ?_) fun h9 hF => ?_
      · refine awp_true (by kernel_rfl) h9 ?_
        refine awp_seq ?_
        refine awp_region ?_
        refine aR 1 ?_
        refine aE ?_
        refine awp_ret ?_
        exact oF hF [] []
      · refine awp_false (by kernel_rfl) h9 ?_
        refine awp_seq ?_
        refine awp_to (st' := command_CheckLetter_x2_I ql) (oT [] []) ?_
        refine bE hF fun vx2_1 h15 hF => ?_
        refine awp_sub (command_CheckLetter_x2_ok ql h15) ?_
        refine cE hF (fun h16 hF => ?_) fun h16 hF => ?_
        · refine awp_true (by kernel_rfl) h16 ?_
          refine awp_seq ?_
          refine awp_region ?_
          refine aR 1 ?_
          refine aE ?_
          refine awp_ret ?_
          exact oF hF [] []
        · refine awp_false (by kernel_rfl) h16 ?_
          refine awp_skip ?_
          refine awp_seq ?_
          refine awp_region ?_
          refine aR 1 ?_
          refine aE ?_
          refine awp_ret ?_
          exact oF hF [] []

/-! ### beaconfleet/command.Order$1 -/
def command_Order_1_R (qy : api_Letter) (qx : api_Letter) (r : Unit) : TV × Mem := (.v (.one (.d (.bool (decide (qy.Id = qx.Id))))), ⟨[], [(0, [.d (.str qx.Id), .d (.str qx.Slot), .d (.str qx.Body), .d (.int .i64 qx.Prio), .d (.int .i64 qx.At), .d (.int .i64 qx.Until)])]⟩)

theorem command_Order_1_ok {qy : api_Letter} {qx : api_Letter} {r} (hF : command_Order_1 qy qx = some r) : Holds prog 190 [.v (.agg [.d (.str qy.Id), .d (.str qy.Slot), .d (.str qy.Body), .d (.int .i64 qy.Prio), .d (.int .i64 qy.At), .d (.int .i64 qy.Until)]), .v (.one (.box 0 0))] ⟨[], [(0, [.d (.str qx.Id), .d (.str qx.Slot), .d (.str qx.Body), .d (.int .i64 qx.Prio), .d (.int .i64 qx.At), .d (.int .i64 qx.Until)])]⟩ (Is (command_Order_1_R qy qx r)) := by
  unfold command_Order_1 at hF
  refine holds_of_awp hΓ (fn := f190) (c := cB f190) (A := 1) (nx := 1) (by kernel_rfl) (by kernel_rfl) (by kernel_rfl) (by kernel_rfl) (by kernel_rfl) (by kernel_rfl) (lowc_of (by kernel_rfl)) ?_
  show Awp prog 1 9 (cB f190) _ _
  refine awp_seq ?_
  refine awp_region ?_
  refine aR 2 ?_
  refine aE ?_
  refine awp_seq ?_
  refine awp_region ?_
  refine aR 6 ?_
  refine aE ?_
  refine awp_ret ?_
  exact oF hF [] []

/-! ### slices.IndexFunc[[]beaconfleet/api.Letter,beaconfleet/api.Letter] -/
def slices_IndexFunc_api_Letter_api_Letter_f1_command_Order_1_x1_k : Unit ⊕ Int → AEx
  | .inl _ => .exit 0
  | .inr _ => .ret

def slices_IndexFunc_api_Letter_api_Letter_f1_command_Order_1_x1_S (qs : List api_Letter) (qf : api_Letter) : Unit ⊕ Int → St
  | .inl _ => Mem.st ⟨[], [(0, [.d (.str qf.Id), .d (.str qf.Slot), .d (.str qf.Body), .d (.int .i64 qf.Prio), .d (.int .i64 qf.At), .d (.int .i64 qf.Until)])]⟩ (tl []) 1
  | .inr vx1 => Mem.st ⟨[], [(0, [.d (.str qf.Id), .d (.str qf.Slot), .d (.str qf.Body), .d (.int .i64 qf.Prio), .d (.int .i64 qf.At), .d (.int .i64 qf.Until)])]⟩ (tl [(4, .v (.one (.d (.int .i64 vx1))))]) 1

def slices_IndexFunc_api_Letter_api_Letter_f1_command_Order_1_x1_H (qs : List api_Letter) (qf : api_Letter) : Int → St
  | vx => Mem.st ⟨[], [(0, [.d (.str qf.Id), .d (.str qf.Slot), .d (.str qf.Body), .d (.int .i64 qf.Prio), .d (.int .i64 qf.At), .d (.int .i64 qf.Until)])]⟩ (tl [(0, .v (.one (.d (.lst (List.map api_Letter.enc qs))))), (1, .v (.one (.fn 190 [0]))), (7, .v (.one (.d (.int .i64 (qs.length : Int))))), (8, .v (.one (.d (.int .i64 vx))))]) 1

theorem slices_IndexFunc_api_Letter_api_Letter_f1_command_Order_1_x1_ok (qs : List api_Letter) (qf : api_Letter) (vx : Int) (r : (Int) ⊕ (Unit ⊕ Int)) (hF : slices_IndexFunc_api_Letter_api_Letter_f1_command_Order_1_x1 qs qf vx = some r) : Awp prog 1 19 (cL (cL (cR (cL (cR (cB f235)))))) (Out 1 (kk slices_IndexFunc_api_Letter_api_Letter_f1_command_Order_1_x1_k) (SS (slices_IndexFunc_api_Letter_api_Letter_f1_command_Order_1_x1_H qs qf) (slices_IndexFunc_api_Letter_api_Letter_f1_command_Order_1_x1_S qs qf)) r) (slices_IndexFunc_api_Letter_api_Letter_f1_command_Order_1_x1_H qs qf vx) := by
  unfold slices_IndexFunc_api_Letter_api_Letter_f1_command_Order_1_x1 at hF
  refine awp_seq ?_
  refine awp_region ?_
  refine aR 1 ?_
  refine aE ?_
  refine awp_seq ?_
  refine cE hF (fun h1 hF => ?_) fun h1 hF => ?_
  · refine awp_true (by kernel_rfl) h1 ?_
    refine awp_skip ?_
    refine awp_seq ?_
    refine awp_block ?_
    refine awp_seq ?_
    refine awp_region ?_
    refine aR 2 ?_
    refine aE ?_
    refine awp_seq ?_
    refine bE hF fun vy1 h2 hF => ?_
    refine bE hF fun _ h3 hF => ?_
    refine awp_region ?_
    refine aR 3 ?_
    refine aX (x_idx api_Letter.enc h2) ?_
    refine aR 1 ?_
    refine aC (command_Order_1_ok h3) [] [] [] ?_
    refine aE ?_
    refine cE hF (fun h4 hF => ?_) fun h4 hF => ?_
    · refine awp_true (by kernel_rfl) h4 ?_
      refine awp_seq ?_
      refine awp_region ?_
      refine aR 2 ?_
      refine aE ?_
      refine awp_ret ?_
      exact oO hF [] [] rfl
    · refine awp_false (by kernel_rfl) h4 ?_
      refine awp_skip ?_
      refine awp_region ?_
      refine aR 2 ?_
      refine aE ?_
      exact oO hF [] [] rfl
  · refine awp_false (by kernel_rfl) h1 ?_
    refine awp_exit ?_
    exact oO hF [] [] rfl

def slices_IndexFunc_api_Letter_api_Letter_f1_command_Order_1_R (qs : List api_Letter) (qf : api_Letter) (r : Int) : TV × Mem := (.v (.one (.d (.int .i64 r))), ⟨[], [(0, [.d (.str qf.Id), .d (.str qf.Slot), .d (.str qf.Body), .d (.int .i64 qf.Prio), .d (.int .i64 qf.At), .d (.int .i64 qf.Until)])]⟩)

theorem slices_IndexFunc_api_Letter_api_Letter_f1_command_Order_1_ok {qs : List api_Letter} {qf : api_Letter} {r} (hF : slices_IndexFunc_api_Letter_api_Letter_f1_command_Order_1 qs qf = some r) : Holds prog 235 [.v (.one (.d (.lst (List.map api_Letter.enc qs)))), .v (.one (.fn 190 [0]))] ⟨[], [(0, [.d (.str qf.Id), .d (.str qf.Slot), .d (.str qf.Body), .d (.int .i64 qf.Prio), .d (.int .i64 qf.At), .d (.int .i64 qf.Until)])]⟩ (Is (slices_IndexFunc_api_Letter_api_Letter_f1_command_Order_1_R qs qf r)) := by
  unfold slices_IndexFunc_api_Letter_api_Letter_f1_command_Order_1 at hF
  refine holds_of_awp hΓ (fn := f235) (c := cB f235) (A := 1) (nx := 1) (by kernel_rfl) (by kernel_rfl) (by kernel_rfl) (by kernel_rfl) (by kernel_rfl) (by kernel_rfl) (lowc_of (by kernel_rfl)) ?_
  show Awp prog 1 19 (cB f235) _ _
  refine awp_seq ?_
  refine awp_region ?_
  refine aR 1 ?_
  refine aE ?_
  refine awp_seq ?_
  refine awp_seq ?_
  refine awp_region ?_
  refine aR 1 ?_
  refine aL api_Letter.enc qs ?_
  refine aR 1 ?_
  refine aE ?_
  refine awp_block ?_
  refine awp_to (st' := slices_IndexFunc_api_Letter_api_Letter_f1_command_Order_1_x1_H qs qf 0) (oT [] []) ?_
  refine bE hF fun x h5 hF => ?_
  rcases x with _ | vx1_1
  · refine awp_sub (awp_loop' (slices_IndexFunc_api_Letter_api_Letter_f1_command_Order_1_x1_H qs qf) slices_IndexFunc_api_Letter_api_Letter_f1_command_Order_1_x1_k (slices_IndexFunc_api_Letter_api_Letter_f1_command_Order_1_x1_S qs qf) (by intro x; rcases x with x | x <;> exact fun h => nomatch h) h5 (slices_IndexFunc_api_Letter_api_Letter_f1_command_Order_1_x1_ok qs qf)) ?_
    refine awp_seq ?_
    refine awp_region ?_
    refine aR 1 ?_
    refine aE ?_
    refine awp_ret ?_
    exact oF hF [] []
  · refine awp_sub (awp_loop' (slices_IndexFunc_api_Letter_api_Letter_f1_command_Order_1_x1_H qs qf) slices_IndexFunc_api_Letter_api_Letter_f1_command_Order_1_x1_k (slices_IndexFunc_api_Letter_api_Letter_f1_command_Order_1_x1_S qs qf) (by intro x; rcases x with x | x <;> exact fun h => nomatch h) h5 (slices_IndexFunc_api_Letter_api_Letter_f1_command_Order_1_x1_ok qs qf)) ?_
    exact oF hF [] []

/-! ### slices.ContainsFunc[[]beaconfleet/api.Letter,beaconfleet/api.Letter] -/
def slices_ContainsFunc_api_Letter_api_Letter_f1_command_Order_1_R (qs : List api_Letter) (qf : api_Letter) (r : Bool) : TV × Mem := (.v (.one (.d (.bool r))), ⟨[], [(0, [.d (.str qf.Id), .d (.str qf.Slot), .d (.str qf.Body), .d (.int .i64 qf.Prio), .d (.int .i64 qf.At), .d (.int .i64 qf.Until)])]⟩)

theorem slices_ContainsFunc_api_Letter_api_Letter_f1_command_Order_1_ok {qs : List api_Letter} {qf : api_Letter} {r} (hF : slices_ContainsFunc_api_Letter_api_Letter_f1_command_Order_1 qs qf = some r) : Holds prog 189 [.v (.one (.d (.lst (List.map api_Letter.enc qs)))), .v (.one (.fn 190 [0]))] ⟨[], [(0, [.d (.str qf.Id), .d (.str qf.Slot), .d (.str qf.Body), .d (.int .i64 qf.Prio), .d (.int .i64 qf.At), .d (.int .i64 qf.Until)])]⟩ (Is (slices_ContainsFunc_api_Letter_api_Letter_f1_command_Order_1_R qs qf r)) := by
  unfold slices_ContainsFunc_api_Letter_api_Letter_f1_command_Order_1 at hF
  refine holds_of_awp hΓ (fn := f189) (c := cB f189) (A := 1) (nx := 1) (by kernel_rfl) (by kernel_rfl) (by kernel_rfl) (by kernel_rfl) (by kernel_rfl) (by kernel_rfl) (lowc_of (by kernel_rfl)) ?_
  show Awp prog 1 9 (cB f189) _ _
  refine awp_seq ?_
  refine awp_region ?_
  refine aR 1 ?_
  refine aE ?_
  refine awp_seq ?_
  refine bE hF fun vr h1 hF => ?_
  refine awp_region ?_
  refine aR 2 ?_
  refine aC (slices_IndexFunc_api_Letter_api_Letter_f1_command_Order_1_ok h1) [] [] [] ?_
  refine aR 2 ?_
  refine aE ?_
  refine awp_ret ?_
  exact oF hF [] []

/-! ### slices.Clone[[]beaconfleet/api.Letter,beaconfleet/api.Letter] -/
def slices_Clone_api_Letter_api_Letter_R (qs : List api_Letter) (r : List api_Letter) : TV × Mem := (.v (.one (.own 0 none)), ⟨[(0, ⟨104, 6, List.map api_Letter.enc r⟩)], []⟩)

theorem slices_Clone_api_Letter_api_Letter_ok {qs : List api_Letter} {r} (hF : slices_Clone_api_Letter_api_Letter qs = some r) : Holds prog 191 [.v (.one (.d (.lst (List.map api_Letter.enc qs))))] ⟨[], []⟩ (Is (slices_Clone_api_Letter_api_Letter_R qs r)) := by
  unfold slices_Clone_api_Letter_api_Letter at hF
  refine gE hF fun h1 hF => ?_
  refine holds_of_awp hΓ (fn := f191) (c := cB f191) (A := 0) (nx := 0) (by kernel_rfl) (by kernel_rfl) (by kernel_rfl) (by kernel_rfl) (by kernel_rfl) (by kernel_rfl) (lowc_of (by kernel_rfl)) ?_
  show Awp prog 0 8 (cB f191) _ _
  refine awp_seq ?_
  refine awp_region ?_
  refine aR 1 ?_
  refine aE ?_
  refine awp_seq ?_
  refine awp_seq ?_
  refine awp_region ?_
  refine aR 1 ?_
  refine aN api_Letter.enc qs (fun b hb => ?_) rfl
  refine aE ?_
  cases b with
  | true =>
    obtain rfl := hb rfl
    refine awp_true (by kernel_rfl) rfl ?_
    refine awp_seq ?_
    refine awp_region ?_
    refine aR 1 ?_
    refine aE ?_
    refine awp_ret ?_
    exact oF hF [] [0]
  | false =>
    refine awp_false (by kernel_rfl) rfl ?_
    refine awp_skip ?_
    refine awp_seq ?_
    refine awp_region ?_
    refine aR 2 ?_
    refine aX (x_app api_Letter.enc 3000 h1) ?_
    refine aR 1 ?_
    refine aE ?_
    refine awp_ret ?_
    exact oF hF [(0, 5000)] []

/-! ### beaconfleet/command.byOrder -/
def command_byOrder_R (qa : api_Letter) (qb : api_Letter) (r : Int) : TV × Mem := (.v (.one (.d (.int .i64 r))), ⟨[], []⟩)

theorem command_byOrder_ok {qa : api_Letter} {qb : api_Letter} {r} (hF : command_byOrder qa qb = some r) : Holds prog 193 [.v (.agg [.d (.str qa.Id), .d (.str qa.Slot), .d (.str qa.Body), .d (.int .i64 qa.Prio), .d (.int .i64 qa.At), .d (.int .i64 qa.Until)]), .v (.agg [.d (.str qb.Id), .d (.str qb.Slot), .d (.str qb.Body), .d (.int .i64 qb.Prio), .d (.int .i64 qb.At), .d (.int .i64 qb.Until)])] ⟨[], []⟩ (Is (command_byOrder_R qa qb r)) := by
  unfold command_byOrder at hF
  refine holds_of_awp hΓ (fn := f193) (c := cB f193) (A := 0) (nx := 0) (by kernel_rfl) (by kernel_rfl) (by kernel_rfl) (by kernel_rfl) (by kernel_rfl) (by kernel_rfl) (lowc_of (by kernel_rfl)) ?_
  show Awp prog 0 22 (cB f193) _ _
  refine awp_seq ?_
  refine awp_region ?_
  refine aR 3 ?_
  refine aE ?_
  refine awp_seq ?_
  refine bE hF fun vr h1 hF => ?_
  refine bE hF fun vr1 h2 hF => ?_
  refine bE hF fun _ h3 hF => ?_
  refine bE hF fun vr2 h4 hF => ?_
  refine aD ?_
  refine dR 4 ?_
  refine dC (cmp_Compare_int_ok h1) [] [] [] ?_
  refine dR 4 ?_
  refine dC (cmp_Compare_int_ok h2) [] [] [] ?_
  refine dR 4 ?_
  refine dC (strings_Compare_ok h3) [] [] [] ?_
  refine dR 1 ?_
  refine dC (cmp_Or_int_ok h4) [] [] [18000] ?_
  refine dR 1 ?_
  refine dE ?_
  refine awp_ret ?_
  exact oF hF [] []

/-! ### slices.insertionSortCmpFunc[beaconfleet/api.Letter] -/
def slices_insertionSortCmpFunc_api_Letter_o0_f3_command_byOrder_x3_k : Bool → AEx
  | _ => .normal

def slices_insertionSortCmpFunc_api_Letter_o0_f3_command_byOrder_x3_S (qa : Int) (qb : Int) (vi : Int) (vl3 : List api_Letter) (vj1 : Int) : Bool → St
  | vx4 => Mem.st ⟨[(0, ⟨104, 6, List.map api_Letter.enc vl3⟩)], []⟩ (tl [(0, .v (.one (.own 0 none))), (1, .v (.one (.d (.int .i64 qa)))), (2, .v (.one (.d (.int .i64 qb)))), (3, .v (.one (.fn 193 []))), (8, .v (.one (.d (.int .i64 vi)))), (9, .v (.one (.d (.int .i64 vj1)))), (34, .v (.one (.d (.bool vx4))))]) 1

def slices_insertionSortCmpFunc_api_Letter_o0_f3_command_byOrder_x3_I (qa : Int) (qb : Int) (vi : Int) (vl3 : List api_Letter) (vj1 : Int) : St := Mem.st ⟨[(0, ⟨104, 6, List.map api_Letter.enc vl3⟩)], []⟩ (tl [(0, .v (.one (.own 0 none))), (1, .v (.one (.d (.int .i64 qa)))), (2, .v (.one (.d (.int .i64 qb)))), (3, .v (.one (.fn 193 []))), (8, .v (.one (.d (.int .i64 vi)))), (9, .v (.one (.d (.int .i64 vj1))))]) 1

theorem slices_insertionSortCmpFunc_api_Letter_o0_f3_command_byOrder_x3_ok (qa : Int) (qb : Int) (vi : Int) (vl3 : List api_Letter) (vj1 : Int) {r} (hF : slices_insertionSortCmpFunc_api_Letter_o0_f3_command_byOrder_x3 qa vl3 vj1 = some r) : Awp prog 1 53 (cL (cL (cL (cL (cR (cL (cL (cR (cL (cL (cR (cB f269)))))))))))) (Out 1 slices_insertionSortCmpFunc_api_Letter_o0_f3_command_byOrder_x3_k (slices_insertionSortCmpFunc_api_Letter_o0_f3_command_byOrder_x3_S qa qb vi vl3 vj1) r) (slices_insertionSortCmpFunc_api_Letter_o0_f3_command_byOrder_x3_I qa qb vi vl3 vj1) := by
  unfold slices_insertionSortCmpFunc_api_Letter_o0_f3_command_byOrder_x3 at hF
  refine cE hF (fun h2 hF => ?_) fun h2 hF => ?_
  · refine bE hF fun vy15 h3 hF => ?_
    refine bE hF fun vy16 h4 hF => ?_
    refine bE hF fun vr3_3 h5 hF => ?_
    refine aD ?_
    refine dR 2 ?_
    refine dB h2 ?_
    refine dR 4 ?_
    refine dX (x_idxO api_Letter.enc 0 h3) ?_
    refine dX (x_ldE api_Letter.enc h3) ?_
    refine dR 3 ?_
    refine dX (x_idxO api_Letter.enc 0 h4) ?_
    refine dX (x_ldE api_Letter.enc h4) ?_
    refine dC (command_byOrder_ok h5) [] [] [] ?_
    refine dR 2 ?_
    refine dE ?_
    exact oO hF [] [] rfl
  · refine aD ?_
    refine dR 2 ?_
    refine dB h2 ?_
    refine dR 14 ?_
    refine dE ?_
    exact oO hF [] [] rfl

def slices_insertionSortCmpFunc_api_Letter_o0_f3_command_byOrder_x2_k : (List api_Letter) → AEx
  | _ => .exit 2

def slices_insertionSortCmpFunc_api_Letter_o0_f3_command_byOrder_x2_S (qa : Int) (qb : Int) (vi : Int) : (List api_Letter) → St
  | vl4 => Mem.st ⟨[(0, ⟨104, 6, List.map api_Letter.enc vl4⟩)], []⟩ (tl [(0, .v (.one (.own 0 none))), (1, .v (.one (.d (.int .i64 qa)))), (2, .v (.one (.d (.int .i64 qb)))), (3, .v (.one (.fn 193 []))), (8, .v (.one (.d (.int .i64 vi))))]) 1

def slices_insertionSortCmpFunc_api_Letter_o0_f3_command_byOrder_x2_H (qa : Int) (qb : Int) (vi : Int) : (List api_Letter) × Int → St
  | (vl3, vj1) => Mem.st ⟨[(0, ⟨104, 6, List.map api_Letter.enc vl3⟩)], []⟩ (tl [(0, .v (.one (.own 0 none))), (1, .v (.one (.d (.int .i64 qa)))), (2, .v (.one (.d (.int .i64 qb)))), (3, .v (.one (.fn 193 []))), (8, .v (.one (.d (.int .i64 vi)))), (9, .v (.one (.d (.int .i64 vj1))))]) 1

theorem slices_insertionSortCmpFunc_api_Letter_o0_f3_command_byOrder_x2_ok (qa : Int) (qb : Int) (vi : Int) (s : (List api_Letter) × Int) (r : ((List api_Letter) × Int) ⊕ ((List api_Letter))) (hF : slices_insertionSortCmpFunc_api_Letter_o0_f3_command_byOrder_x2 qa s = some r) : Awp prog 1 53 (cL (cL (cR (cL (cL (cR (cL (cL (cR (cB f269)))))))))) (Out 1 (kk slices_insertionSortCmpFunc_api_Letter_o0_f3_command_byOrder_x2_k) (SS (slices_insertionSortCmpFunc_api_Letter_o0_f3_command_byOrder_x2_H qa qb vi) (slices_insertionSortCmpFunc_api_Letter_o0_f3_command_byOrder_x2_S qa qb vi)) r) (slices_insertionSortCmpFunc_api_Letter_o0_f3_command_byOrder_x2_H qa qb vi s) := by
  obtain ⟨vl3, vj1⟩ := s
  unfold slices_insertionSortCmpFunc_api_Letter_o0_f3_command_byOrder_x2 at hF
  refine awp_seq ?_
  refine awp_seq ?_
  refine awp_to (st' := slices_insertionSortCmpFunc_api_Letter_o0_f3_command_byOrder_x3_I qa qb vi vl3 vj1) (oT [] []) ?_
  refine bE hF fun vx4_1 h6 hF => ?_
  refine awp_sub (slices_insertionSortCmpFunc_api_Letter_o0_f3_command_byOrder_x3_ok qa qb vi vl3 vj1 h6) ?_
  refine cE hF (fun h7 hF => ?_) fun h7 hF => ?_
  · refine awp_true (by kernel_rfl) h7 ?_
    refine awp_skip ?_
    refine awp_seq ?_
    refine awp_block ?_
    refine bE hF fun vy17 h8 hF => ?_
    refine bE hF fun vy18 h9 hF => ?_
    refine bE hF fun vy19 h10 hF => ?_
    refine aDw [0] ?_
    refine dR 8 ?_
    refine dI api_Letter.enc 0 h8 rfl ?_
    refine dX (x_ldE api_Letter.enc h8) ?_
    refine dR 2 ?_
    refine dI api_Letter.enc 0 h9 rfl ?_
    refine dX (x_ldE api_Letter.enc h9) ?_
    refine dI api_Letter.enc 0 h9 rfl ?_
    refine dW api_Letter.enc vy17 h9 rfl ?_
    refine dI api_Letter.enc 0 h10 rfl ?_
    refine dW api_Letter.enc vy18 h10 rfl ?_
    refine dE ?_
    refine awp_region ?_
    refine aR 3 ?_
    refine aE ?_
    exact oO hF [] [] rfl
  · refine awp_false (by kernel_rfl) h7 ?_
    refine awp_exit ?_
    exact oO hF [] [] rfl

def slices_insertionSortCmpFunc_api_Letter_o0_f3_command_byOrder_x1_k : (List api_Letter) → AEx
  | _ => .exit 0

def slices_insertionSortCmpFunc_api_Letter_o0_f3_command_byOrder_x1_S (qa : Int) (qb : Int) : (List api_Letter) → St
  | vl5 => Mem.st ⟨[(0, ⟨104, 6, List.map api_Letter.enc vl5⟩)], []⟩ (tl []) 1

def slices_insertionSortCmpFunc_api_Letter_o0_f3_command_byOrder_x1_H (qa : Int) (qb : Int) : (List api_Letter) × Int → St
  | (vl, vi) => Mem.st ⟨[(0, ⟨104, 6, List.map api_Letter.enc vl⟩)], []⟩ (tl [(0, .v (.one (.own 0 none))), (1, .v (.one (.d (.int .i64 qa)))), (2, .v (.one (.d (.int .i64 qb)))), (3, .v (.one (.fn 193 []))), (8, .v (.one (.d (.int .i64 vi))))]) 1

theorem slices_insertionSortCmpFunc_api_Letter_o0_f3_command_byOrder_x1_ok (qa : Int) (qb : Int) (s : (List api_Letter) × Int) (r : ((List api_Letter) × Int) ⊕ ((List api_Letter))) (hF : slices_insertionSortCmpFunc_api_Letter_o0_f3_command_byOrder_x1 qa qb s = some r) : Awp prog 1 53 (cL (cL (cR (cB f269)))) (Out 1 (kk slices_insertionSortCmpFunc_api_Letter_o0_f3_command_byOrder_x1_k) (SS (slices_insertionSortCmpFunc_api_Letter_o0_f3_command_byOrder_x1_H qa qb) (slices_insertionSortCmpFunc_api_Letter_o0_f3_command_byOrder_x1_S qa qb)) r) (slices_insertionSortCmpFunc_api_Letter_o0_f3_command_byOrder_x1_H qa qb s) := by
  obtain ⟨vl, vi⟩ := s
  unfold slices_insertionSortCmpFunc_api_Letter_o0_f3_command_byOrder_x1 at hF
  refine awp_seq ?_
  refine awp_seq ?_
  refine awp_region ?_
  refine aR 3 ?_
  refine aE ?_
  refine cE hF (fun h1 hF => ?_) fun h1 hF => ?_
  · refine awp_true (by kernel_rfl) h1 ?_
    refine awp_skip ?_
    refine awp_seq ?_
    refine awp_block ?_
    refine awp_seq ?_
    refine awp_region ?_
    refine aR 2 ?_
    refine aE ?_
    refine awp_block ?_
    refine awp_to (st' := slices_insertionSortCmpFunc_api_Letter_o0_f3_command_byOrder_x2_H qa qb vi (vl, vi)) (oT [] []) ?_
    refine bE hF fun vl4_1 h11 hF => ?_
    refine awp_sub (awp_loop' (slices_insertionSortCmpFunc_api_Letter_o0_f3_command_byOrder_x2_H qa qb vi) slices_insertionSortCmpFunc_api_Letter_o0_f3_command_byOrder_x2_k (slices_insertionSortCmpFunc_api_Letter_o0_f3_command_byOrder_x2_S qa qb vi) (by intro x; exact fun h => nomatch h) h11 (slices_insertionSortCmpFunc_api_Letter_o0_f3_command_byOrder_x2_ok qa qb vi)) ?_
    refine awp_region ?_
    refine aR 3 ?_
    refine aE ?_
    exact oO hF [] [] rfl
  · refine awp_false (by kernel_rfl) h1 ?_
    refine awp_exit ?_
    exact oO hF [] [] rfl

def slices_insertionSortCmpFunc_api_Letter_o0_f3_command_byOrder_R (qdata : List api_Letter) (qa : Int) (qb : Int) (r : (List api_Letter)) : TV × Mem := (.tup [], ⟨[(0, ⟨104, 6, List.map api_Letter.enc r⟩)], []⟩)

theorem slices_insertionSortCmpFunc_api_Letter_o0_f3_command_byOrder_ok {qdata : List api_Letter} {qa : Int} {qb : Int} {r} (hF : slices_insertionSortCmpFunc_api_Letter_o0_f3_command_byOrder qdata qa qb = some r) : Holds prog 269 [.v (.one (.own 0 none)), .v (.one (.d (.int .i64 qa))), .v (.one (.d (.int .i64 qb))), .v (.one (.fn 193 []))] ⟨[(0, ⟨104, 6, List.map api_Letter.enc qdata⟩)], []⟩ (Is (slices_insertionSortCmpFunc_api_Letter_o0_f3_command_byOrder_R qdata qa qb r)) := by
  unfold slices_insertionSortCmpFunc_api_Letter_o0_f3_command_byOrder at hF
  refine holds_of_awp hΓ (fn := f269) (c := cB f269) (A := 1) (nx := 1) (by kernel_rfl) (by kernel_rfl) (by kernel_rfl) (by kernel_rfl) (by kernel_rfl) (by kernel_rfl) (lowc_of (by kernel_rfl)) ?_
  show Awp prog 1 53 (cB f269) _ _
  refine awp_seq ?_
  refine awp_region ?_
  refine aR 3 ?_
  refine aE ?_
  refine awp_block ?_
  refine awp_to (st' := slices_insertionSortCmpFunc_api_Letter_o0_f3_command_byOrder_x1_H qa qb (qdata, IntKind.wrap .i64 (qa + 1))) (oT [] []) ?_
  refine bE hF fun vl5_1 h12 hF => ?_
  refine awp_sub (awp_loop' (slices_insertionSortCmpFunc_api_Letter_o0_f3_command_byOrder_x1_H qa qb) slices_insertionSortCmpFunc_api_Letter_o0_f3_command_byOrder_x1_k (slices_insertionSortCmpFunc_api_Letter_o0_f3_command_byOrder_x1_S qa qb) (by intro x; exact fun h => nomatch h) h12 (slices_insertionSortCmpFunc_api_Letter_o0_f3_command_byOrder_x1_ok qa qb)) ?_
  exact oF hF [] []

/-! ### slices.pdqsortCmpFunc[beaconfleet/api.Letter] -/
def slices_pdqsortCmpFunc_api_Letter_o0_f4_command_byOrder_x1_k : (List api_Letter) → AEx
  | _ => .ret

def slices_pdqsortCmpFunc_api_Letter_o0_f4_command_byOrder_x1_S (qx : List api_Letter) (qx1 : Int) (qx2 : Int) (qx3 : Int) : (List api_Letter) → St
  | vl => Mem.st ⟨[(0, ⟨104, 6, List.map api_Letter.enc vl⟩)], []⟩ (tl []) 1

def slices_pdqsortCmpFunc_api_Letter_o0_f4_command_byOrder_x1_H (qx : List api_Letter) (qx1 : Int) (qx2 : Int) (qx3 : Int) : Unit → St
  | _ => Mem.st ⟨[(0, ⟨104, 6, List.map api_Letter.enc qx⟩)], []⟩ (tl [(0, .v (.one (.own 0 none))), (1, .v (.one (.d (.int .i64 qx1)))), (2, .v (.one (.d (.int .i64 qx2)))), (3, .v (.one (.d (.int .i64 qx3)))), (4, .v (.one (.fn 193 []))), (10, .v (.one (.d (.bool true)))), (11, .v (.one (.d (.bool true))))]) 1

theorem slices_pdqsortCmpFunc_api_Letter_o0_f4_command_byOrder_x1_ok (qx : List api_Letter) (qx1 : Int) (qx2 : Int) (qx3 : Int) (s : Unit) (r : (Unit) ⊕ ((List api_Letter))) (hF : slices_pdqsortCmpFunc_api_Letter_o0_f4_command_byOrder_x1 qx qx1 qx2 qx3 s = some r) : Awp prog 1 148 (cL (cL (cR (cR (cB f236))))) (Out 1 (kk slices_pdqsortCmpFunc_api_Letter_o0_f4_command_byOrder_x1_k) (SS (slices_pdqsortCmpFunc_api_Letter_o0_f4_command_byOrder_x1_H qx qx1 qx2 qx3) (slices_pdqsortCmpFunc_api_Letter_o0_f4_command_byOrder_x1_S qx qx1 qx2 qx3)) r) (slices_pdqsortCmpFunc_api_Letter_o0_f4_command_byOrder_x1_H qx qx1 qx2 qx3 s) := by
  unfold slices_pdqsortCmpFunc_api_Letter_o0_f4_command_byOrder_x1 at hF
  refine awp_block ?_
  refine awp_seq ?_
  refine awp_region ?_
  refine aR 4 ?_
  refine aE ?_
  refine awp_seq ?_
  refine awp_seq ?_
  refine awp_region ?_
  refine aR 2 ?_
  refine aE ?_
  refine cE hF (fun h1 hF => ?_) fun h1 hF => ?_
  · refine awp_true (by kernel_rfl) h1 ?_
    refine awp_seq ?_
    refine bE hF fun vl6_1 h2 hF => ?_
    refine gE hF fun h3 hF => ?_
    refine awp_region ?_
    refine aR 4 ?_
    refine aCp (slices_insertionSortCmpFunc_api_Letter_o0_f3_command_byOrder_ok h2) ⟨⟨rfl, rfl, pin1 h3⟩, trivial⟩ [] [] [] ?_
    refine aE ?_
    refine awp_ret ?_
    exact oO hF [] [] rfl
  · refine awp_false (by kernel_rfl) h1 ?_
    refine awp_skip ?_
    refine awp_seq ?_
    refine awp_seq ?_
    refine awp_region ?_
    refine aR 2 ?_
    refine aE ?_
    refine cE hF (fun h4 hF => ?_) fun h4 hF => ?_
    · refine awp_true (by kernel_rfl) h4 ?_
      refine awp_seq ?_
      exact nE hF
    · refine awp_false (by kernel_rfl) h4 ?_
      refine awp_skip ?_
      refine awp_seq ?_
      refine awp_seq ?_
      refine awp_region ?_
      refine aR 2 ?_
      refine aE ?_
      refine awp_false (by kernel_rfl) rfl ?_
      refine awp_skip ?_
      refine awp_seq ?_
      exact nE hF

def slices_pdqsortCmpFunc_api_Letter_o0_f4_command_byOrder_R (qx : List api_Letter) (qx1 : Int) (qx2 : Int) (qx3 : Int) (r : (List api_Letter)) : TV × Mem := (.tup [], ⟨[(0, ⟨104, 6, List.map api_Letter.enc r⟩)], []⟩)

theorem slices_pdqsortCmpFunc_api_Letter_o0_f4_command_byOrder_ok {qx : List api_Letter} {qx1 : Int} {qx2 : Int} {qx3 : Int} {r} (hF : slices_pdqsortCmpFunc_api_Letter_o0_f4_command_byOrder qx qx1 qx2 qx3 = some r) : Holds prog 236 [.v (.one (.own 0 none)), .v (.one (.d (.int .i64 qx1))), .v (.one (.d (.int .i64 qx2))), .v (.one (.d (.int .i64 qx3))), .v (.one (.fn 193 []))] ⟨[(0, ⟨104, 6, List.map api_Letter.enc qx⟩)], []⟩ (Is (slices_pdqsortCmpFunc_api_Letter_o0_f4_command_byOrder_R qx qx1 qx2 qx3 r)) := by
  unfold slices_pdqsortCmpFunc_api_Letter_o0_f4_command_byOrder at hF
  refine holds_of_awp hΓ (fn := f236) (c := cB f236) (A := 1) (nx := 1) (by kernel_rfl) (by kernel_rfl) (by kernel_rfl) (by kernel_rfl) (by kernel_rfl) (by kernel_rfl) (lowc_of (by kernel_rfl)) ?_
  show Awp prog 1 148 (cB f236) _ _
  refine awp_seq ?_
  refine awp_region ?_
  refine aR 1 ?_
  refine aE ?_
  refine awp_seq ?_
  refine awp_region ?_
  refine aR 1 ?_
  refine aE ?_
  refine awp_block ?_
  refine awp_to (st' := slices_pdqsortCmpFunc_api_Letter_o0_f4_command_byOrder_x1_H qx qx1 qx2 qx3 ()) (oT [] []) ?_
  refine bE hF fun vl1 h7 hF => ?_
  refine awp_sub (awp_loop' (slices_pdqsortCmpFunc_api_Letter_o0_f4_command_byOrder_x1_H qx qx1 qx2 qx3) slices_pdqsortCmpFunc_api_Letter_o0_f4_command_byOrder_x1_k (slices_pdqsortCmpFunc_api_Letter_o0_f4_command_byOrder_x1_S qx qx1 qx2 qx3) (by intro x; exact fun h => nomatch h) h7 (slices_pdqsortCmpFunc_api_Letter_o0_f4_command_byOrder_x1_ok qx qx1 qx2 qx3)) ?_
  exact oF hF [] []

/-! ### slices.SortFunc[[]beaconfleet/api.Letter,beaconfleet/api.Letter] -/
def slices_SortFunc_api_Letter_api_Letter_o0_f1_command_byOrder_R (qx : List api_Letter) (r : (List api_Letter)) : TV × Mem := (.tup [], ⟨[(0, ⟨104, 6, List.map api_Letter.enc r⟩)], []⟩)

theorem slices_SortFunc_api_Letter_api_Letter_o0_f1_command_byOrder_ok {qx : List api_Letter} {r} (hF : slices_SortFunc_api_Letter_api_Letter_o0_f1_command_byOrder qx = some r) : Holds prog 192 [.v (.one (.own 0 none)), .v (.one (.fn 193 []))] ⟨[(0, ⟨104, 6, List.map api_Letter.enc qx⟩)], []⟩ (Is (slices_SortFunc_api_Letter_api_Letter_o0_f1_command_byOrder_R qx r)) := by
  unfold slices_SortFunc_api_Letter_api_Letter_o0_f1_command_byOrder at hF
  refine holds_of_awp hΓ (fn := f192) (c := cB f192) (A := 1) (nx := 1) (by kernel_rfl) (by kernel_rfl) (by kernel_rfl) (by kernel_rfl) (by kernel_rfl) (by kernel_rfl) (lowc_of (by kernel_rfl)) ?_
  show Awp prog 1 14 (cB f192) _ _
  refine awp_seq ?_
  refine awp_region ?_
  refine aR 1 ?_
  refine aL api_Letter.enc qx ?_
  refine aR 1 ?_
  refine aE ?_
  refine bE hF fun vr1 h1 hF => ?_
  refine bE hF fun vl2 h2 hF => ?_
  refine gE hF fun h3 hF => ?_
  refine awp_region ?_
  refine aR 4 ?_
  refine aC (bits_Len_ok h1) [] [] [] ?_
  refine aR 1 ?_
  refine aCp (slices_pdqsortCmpFunc_api_Letter_o0_f4_command_byOrder_ok h2) ⟨⟨rfl, rfl, pin1 h3⟩, trivial⟩ [] [] [] ?_
  refine aE ?_
  exact oF hF [] []

/-! ### beaconfleet/command.Order -/
def command_Order_o0_x1_k : Unit ⊕ Int → AEx
  | .inl _ => .exit 0
  | .inr _ => .ret

def command_Order_o0_x1_S (ql : List api_Letter) : Unit ⊕ Int → St
  | .inl _ => Mem.st ⟨[], []⟩ (tl [(0, .v (.one (.d (.lst (List.map api_Letter.enc ql)))))]) 1
  | .inr vx1 => Mem.st ⟨[], []⟩ (tl [(2, .v (.one (.nil))), (3, .v (.one (.d (.int .i64 vx1))))]) 1

def command_Order_o0_x1_H (ql : List api_Letter) : Int → St
  | vx => Mem.st ⟨[], []⟩ (tl [(0, .v (.one (.d (.lst (List.map api_Letter.enc ql))))), (11, .v (.one (.d (.lst (List.map api_Letter.enc ql))))), (12, .v (.one (.d (.int .i64 (ql.length : Int))))), (13, .v (.one (.d (.int .i64 vx))))]) 1

theorem command_Order_o0_x1_ok (ql : List api_Letter) (vx : Int) (r : (Int) ⊕ (Unit ⊕ Int)) (hF : command_Order_o0_x1 ql vx = some r) : Awp prog 1 34 (cL (cL (cR (cL (cR (cR (cB f145))))))) (Out 1 (kk command_Order_o0_x1_k) (SS (command_Order_o0_x1_H ql) (command_Order_o0_x1_S ql)) r) (command_Order_o0_x1_H ql vx) := by
  unfold command_Order_o0_x1 at hF
  refine awp_seq ?_
  refine awp_region ?_
  refine aR 1 ?_
  refine aE ?_
  refine awp_seq ?_
  refine cE hF (fun h2 hF => ?_) fun h2 hF => ?_
  · refine awp_true (by kernel_rfl) h2 ?_
    refine awp_skip ?_
    refine awp_seq ?_
    refine awp_block ?_
    refine awp_seq ?_
    refine bE hF fun vy1 h3 hF => ?_
    refine awp_region ?_
    refine aR 1 ?_
    refine aX (x_idx api_Letter.enc h3) ?_
    refine aR 4 ?_
    refine aE ?_
    refine awp_seq ?_
    refine awp_seq ?_
    refine bE hF fun vr3_1 h4 hF => ?_
    refine awp_region ?_
    refine aR 1 ?_
    refine aC (command_CheckLetter_ok h4) [] [] [] ?_
    refine aR 1 ?_
    refine aE ?_
    refine awp_seq ?_
    refine awp_region ?_
    refine aR 2 ?_
    refine aE ?_
    refine cE hF (fun h5 hF => ?_) fun h5 hF => ?_
    · refine awp_true (by kernel_rfl) h5 ?_
      refine awp_seq ?_
      refine awp_region ?_
      refine aR 3 ?_
      refine aE ?_
      refine awp_ret ?_
      exact oO hF [] [] rfl
    · refine awp_false (by kernel_rfl) h5 ?_
      refine awp_skip ?_
      refine awp_seq ?_
      refine bE hF fun vl1 h6 hF => ?_
      refine bE hF fun vr1_1 h7 hF => ?_
      refine awp_region ?_
      refine aR 2 ?_
      refine aX (x_slice api_Letter.enc h6) ?_
      refine aR 1 ?_
      refine aC (slices_ContainsFunc_api_Letter_api_Letter_f1_command_Order_1_ok h7) [(0, 4001)] [] [] ?_
      refine aE ?_
      refine cE hF (fun h8 hF => ?_) fun h8 hF => ?_
      · refine awp_true (by kernel_rfl) h8 ?_
        refine awp_seq ?_
        refine awp_region ?_
        refine aR 2 ?_
        refine aE ?_
        refine awp_ret ?_
        exact oO hF [] [] rfl
      · refine awp_false (by kernel_rfl) h8 ?_
        refine awp_skip ?_
        refine awp_region ?_
        refine aR 2 ?_
        refine aE ?_
        exact oO hF [] [] rfl
  · refine awp_false (by kernel_rfl) h2 ?_
    refine awp_exit ?_
    exact oO hF [] [] rfl

def command_Order_o0_R (ql : List api_Letter) (r : (List api_Letter) × Int) : TV × Mem := (.tup [.one (.own 1 none), .one (.d (.int .i64 r.2))], ⟨[(1, ⟨104, 6, List.map api_Letter.enc r.1⟩)], []⟩)

theorem command_Order_o0_ok {ql : List api_Letter} {r} (hF : command_Order_o0 ql = some r) : Holds prog 145 [.v (.one (.own 0 none))] ⟨[(0, ⟨104, 6, List.map api_Letter.enc ql⟩)], []⟩ (Is (command_Order_o0_R ql r)) := by
  unfold command_Order_o0 at hF
  refine holds_of_awp hΓ (fn := f145) (c := cB f145) (A := 1) (nx := 1) (by kernel_rfl) (by kernel_rfl) (by kernel_rfl) (by kernel_rfl) (by kernel_rfl) (by kernel_rfl) (lowc_of (by kernel_rfl)) ?_
  show Awp prog 1 34 (cB f145) _ _
  refine awp_seq ?_
  refine awp_region ?_
  refine aR 2 ?_
  refine aE ?_
  refine awp_to (oT (m := ⟨[], []⟩) (ts := [(0, .v (.one (.d (.lst (List.map api_Letter.enc ql)))))]) (nx := 1) [] []) ?_
  refine awp_seq ?_
  refine awp_seq ?_
  refine awp_region ?_
  refine aR 1 ?_
  refine aL api_Letter.enc ql ?_
  refine aR 1 ?_
  refine aE ?_
  refine cE hF (fun h1 hF => ?_) fun h1 hF => ?_
  · refine awp_true (by kernel_rfl) h1 ?_
    refine awp_seq ?_
    refine awp_region ?_
    refine aR 2 ?_
    refine aE ?_
    refine awp_ret ?_
    exact oF hF [] [1]
  · refine awp_false (by kernel_rfl) h1 ?_
    refine awp_skip ?_
    refine awp_seq ?_
    refine awp_seq ?_
    refine awp_region ?_
    refine aR 1 ?_
    refine aL api_Letter.enc ql ?_
    refine aR 1 ?_
    refine aE ?_
    refine awp_block ?_
    refine awp_to (st' := command_Order_o0_x1_H ql 0) (oT [] []) ?_
    refine bE hF fun x h9 hF => ?_
    rcases x with _ | vx1_1
    · refine awp_sub (awp_loop' (command_Order_o0_x1_H ql) command_Order_o0_x1_k (command_Order_o0_x1_S ql) (by intro x; rcases x with x | x <;> exact fun h => nomatch h) h9 (command_Order_o0_x1_ok ql)) ?_
      refine awp_seq ?_
      refine bE hF fun vr h10 hF => ?_
      refine awp_region ?_
      refine aR 1 ?_
      refine aC (slices_Clone_api_Letter_api_Letter_ok h10) [] [] [] ?_
      refine aR 1 ?_
      refine aE ?_
      refine awp_seq ?_
      refine bE hF fun vl2 h11 hF => ?_
      refine gE hF fun h12 hF => ?_
      refine awp_region ?_
      refine aR 1 ?_
      refine aCp (slices_SortFunc_api_Letter_api_Letter_o0_f1_command_byOrder_ok h11) ⟨⟨rfl, rfl, pin1 h12⟩, trivial⟩ [(0, 1001)] [] [] ?_
      refine aE ?_
      refine awp_seq ?_
      refine awp_region ?_
      refine aR 3 ?_
      refine aE ?_
      refine awp_ret ?_
      exact oF hF [(1, 1001)] []
    · refine awp_sub (awp_loop' (command_Order_o0_x1_H ql) command_Order_o0_x1_k (command_Order_o0_x1_S ql) (by intro x; rcases x with x | x <;> exact fun h => nomatch h) h9 (command_Order_o0_x1_ok ql)) ?_
      exact oF hF [] [1]

/-! ### beaconfleet/fleetkeep2.errs -/
def fleetkeep2_errs_x1_k : Unit ⊕ Int → AEx
  | .inl _ => .exit 0
  | .inr _ => .ret

def fleetkeep2_errs_x1_S (ql : List Int) : Unit ⊕ Int → St
  | .inl _ => Mem.st ⟨[], []⟩ (tl []) 0
  | .inr vx1 => Mem.st ⟨[], []⟩ (tl [(2, .v (.one (.d (.int .i64 vx1))))]) 0

def fleetkeep2_errs_x1_H (ql : List Int) : Int → St
  | vx => Mem.st ⟨[], []⟩ (tl [(5, .v (.one (.d (.lst (List.map (encI .i64) ql))))), (6, .v (.one (.d (.int .i64 (ql.length : Int))))), (7, .v (.one (.d (.int .i64 vx))))]) 0

theorem fleetkeep2_errs_x1_ok (ql : List Int) (vx : Int) (r : (Int) ⊕ (Unit ⊕ Int)) (hF : fleetkeep2_errs_x1 ql vx = some r) : Awp prog 0 15 (cL (cL (cR (cL (cR (cB f73)))))) (Out 0 (kk fleetkeep2_errs_x1_k) (SS (fleetkeep2_errs_x1_H ql) (fleetkeep2_errs_x1_S ql)) r) (fleetkeep2_errs_x1_H ql vx) := by
  unfold fleetkeep2_errs_x1 at hF
  refine awp_seq ?_
  refine awp_region ?_
  refine aR 1 ?_
  refine aE ?_
  refine awp_seq ?_
  refine cE hF (fun h1 hF => ?_) fun h1 hF => ?_
  · refine awp_true (by kernel_rfl) h1 ?_
    refine awp_skip ?_
    refine awp_seq ?_
    refine awp_block ?_
    refine awp_seq ?_
    refine bE hF fun vy1 h2 hF => ?_
    refine awp_region ?_
    refine aX (x_idx (encI .i64) h2) ?_
    refine aR 2 ?_
    refine aE ?_
    refine awp_seq ?_
    refine awp_region ?_
    refine aR 2 ?_
    refine aE ?_
    refine cE hF (fun h3 hF => ?_) fun h3 hF => ?_
    · refine awp_true (by kernel_rfl) h3 ?_
      refine awp_seq ?_
      refine awp_region ?_
      refine aR 2 ?_
      refine aE ?_
      refine awp_ret ?_
      exact oO hF [] [] rfl
    · refine awp_false (by kernel_rfl) h3 ?_
      refine awp_skip ?_
      refine awp_region ?_
      refine aR 2 ?_
      refine aE ?_
      exact oO hF [] [] rfl
  · refine awp_false (by kernel_rfl) h1 ?_
    refine awp_exit ?_
    exact oO hF [] [] rfl

def fleetkeep2_errs_R (ql : List Int) (r : Int) : TV × Mem := (.v (.one (.d (.int .i64 r))), ⟨[], []⟩)

theorem fleetkeep2_errs_ok {ql : List Int} {r} (hF : fleetkeep2_errs ql = some r) : Holds prog 73 [.v (.one (.d (.lst (List.map (encI .i64) ql))))] ⟨[], []⟩ (Is (fleetkeep2_errs_R ql r)) := by
  unfold fleetkeep2_errs at hF
  refine holds_of_awp hΓ (fn := f73) (c := cB f73) (A := 0) (nx := 0) (by kernel_rfl) (by kernel_rfl) (by kernel_rfl) (by kernel_rfl) (by kernel_rfl) (by kernel_rfl) (lowc_of (by kernel_rfl)) ?_
  show Awp prog 0 15 (cB f73) _ _
  refine awp_seq ?_
  refine awp_region ?_
  refine aR 1 ?_
  refine aE ?_
  refine awp_seq ?_
  refine awp_seq ?_
  refine awp_region ?_
  refine aR 1 ?_
  refine aL (encI .i64) ql ?_
  refine aR 1 ?_
  refine aE ?_
  refine awp_block ?_
  refine awp_to (st' := fleetkeep2_errs_x1_H ql 0) (oT [] []) ?_
  refine bE hF fun x h4 hF => ?_
  rcases x with _ | vx1_1
  · refine awp_sub (awp_loop' (fleetkeep2_errs_x1_H ql) fleetkeep2_errs_x1_k (fleetkeep2_errs_x1_S ql) (by intro x; rcases x with x | x <;> exact fun h => nomatch h) h4 (fleetkeep2_errs_x1_ok ql)) ?_
    refine awp_seq ?_
    refine awp_region ?_
    refine aR 1 ?_
    refine aE ?_
    refine awp_ret ?_
    exact oF hF [] []
  · refine awp_sub (awp_loop' (fleetkeep2_errs_x1_H ql) fleetkeep2_errs_x1_k (fleetkeep2_errs_x1_S ql) (by intro x; rcases x with x | x <;> exact fun h => nomatch h) h4 (fleetkeep2_errs_x1_ok ql)) ?_
    exact oF hF [] []

/-! ### slices.Equal[[]byte,byte] -/
def slices_Equal_byte_byte_x1_k : Unit ⊕ Unit → AEx
  | .inl _ => .exit 0
  | .inr _ => .ret

def slices_Equal_byte_byte_x1_S (qs1 : List Int) (qs2 : List Int) : Unit ⊕ Unit → St
  | .inl _ => Mem.st ⟨[], []⟩ (tl []) 0
  | .inr _ => Mem.st ⟨[], []⟩ (tl [(4, .v (.one (.d (.bool false))))]) 0

def slices_Equal_byte_byte_x1_H (qs1 : List Int) (qs2 : List Int) : Int → St
  | vx => Mem.st ⟨[], []⟩ (tl [(0, .v (.one (.d (.lst (List.map (encI .u8) qs1))))), (1, .v (.one (.d (.lst (List.map (encI .u8) qs2))))), (12, .v (.one (.d (.int .i64 (qs1.length : Int))))), (13, .v (.one (.d (.int .i64 vx))))]) 0

theorem slices_Equal_byte_byte_x1_ok (qs1 : List Int) (qs2 : List Int) (vx : Int) (r : (Int) ⊕ (Unit ⊕ Unit)) (hF : slices_Equal_byte_byte_x1 qs1 qs2 vx = some r) : Awp prog 0 26 (cL (cL (cR (cL (cR (cR (cB f146))))))) (Out 0 (kk slices_Equal_byte_byte_x1_k) (SS (slices_Equal_byte_byte_x1_H qs1 qs2) (slices_Equal_byte_byte_x1_S qs1 qs2)) r) (slices_Equal_byte_byte_x1_H qs1 qs2 vx) := by
  unfold slices_Equal_byte_byte_x1 at hF
  refine awp_seq ?_
  refine awp_region ?_
  refine aR 1 ?_
  refine aE ?_
  refine awp_seq ?_
  refine cE hF (fun h2 hF => ?_) fun h2 hF => ?_
  · refine awp_true (by kernel_rfl) h2 ?_
    refine awp_skip ?_
    refine awp_seq ?_
    refine awp_block ?_
    refine awp_seq ?_
    refine awp_region ?_
    refine aR 2 ?_
    refine aE ?_
    refine awp_seq ?_
    refine bE hF fun vy2 h3 hF => ?_
    refine bE hF fun vy3 h4 hF => ?_
    refine aD ?_
    refine dR 2 ?_
    refine dX (x_idx (encI .u8) h3) ?_
    refine dR 3 ?_
    refine dX (x_idx (encI .u8) h4) ?_
    refine dR 2 ?_
    refine dE ?_
    refine cE hF (fun h5 hF => ?_) fun h5 hF => ?_
    · refine awp_true (by kernel_rfl) h5 ?_
      refine awp_seq ?_
      refine awp_region ?_
      refine aR 1 ?_
      refine aE ?_
      refine awp_ret ?_
      exact oO hF [] [] rfl
    · refine awp_false (by kernel_rfl) h5 ?_
      refine awp_skip ?_
      refine awp_region ?_
      refine aR 2 ?_
      refine aE ?_
      exact oO hF [] [] rfl
  · refine awp_false (by kernel_rfl) h2 ?_
    refine awp_exit ?_
    exact oO hF [] [] rfl

def slices_Equal_byte_byte_R (qs1 : List Int) (qs2 : List Int) (r : Bool) : TV × Mem := (.v (.one (.d (.bool r))), ⟨[], []⟩)

theorem slices_Equal_byte_byte_ok {qs1 : List Int} {qs2 : List Int} {r} (hF : slices_Equal_byte_byte qs1 qs2 = some r) : Holds prog 146 [.v (.one (.d (.lst (List.map (encI .u8) qs1)))), .v (.one (.d (.lst (List.map (encI .u8) qs2))))] ⟨[], []⟩ (Is (slices_Equal_byte_byte_R qs1 qs2 r)) := by
  unfold slices_Equal_byte_byte at hF
  refine holds_of_awp hΓ (fn := f146) (c := cB f146) (A := 0) (nx := 0) (by kernel_rfl) (by kernel_rfl) (by kernel_rfl) (by kernel_rfl) (by kernel_rfl) (by kernel_rfl) (lowc_of (by kernel_rfl)) ?_
  show Awp prog 0 26 (cB f146) _ _
  refine awp_seq ?_
  refine awp_region ?_
  refine aR 1 ?_
  refine aE ?_
  refine awp_seq ?_
  refine awp_seq ?_
  refine awp_region ?_
  refine aR 1 ?_
  refine aL (encI .u8) qs1 ?_
  refine aR 1 ?_
  refine aL (encI .u8) qs2 ?_
  refine aR 1 ?_
  refine aE ?_
  refine cE hF (fun h1 hF => ?_) fun h1 hF => ?_
  · refine awp_true (by kernel_rfl) h1 ?_
    refine awp_seq ?_
    refine awp_region ?_
    refine aR 1 ?_
    refine aE ?_
    refine awp_ret ?_
    exact oF hF [] []
  · refine awp_false (by kernel_rfl) h1 ?_
    refine awp_skip ?_
    refine awp_seq ?_
    refine awp_seq ?_
    refine awp_region ?_
    refine aR 1 ?_
    refine aL (encI .u8) qs1 ?_
    refine aR 1 ?_
    refine aE ?_
    refine awp_block ?_
    refine awp_to (st' := slices_Equal_byte_byte_x1_H qs1 qs2 0) (oT [] []) ?_
    refine bE hF fun x h6 hF => ?_
    rcases x with _ | _
    · refine awp_sub (awp_loop' (slices_Equal_byte_byte_x1_H qs1 qs2) slices_Equal_byte_byte_x1_k (slices_Equal_byte_byte_x1_S qs1 qs2) (by intro x; rcases x with x | x <;> exact fun h => nomatch h) h6 (slices_Equal_byte_byte_x1_ok qs1 qs2)) ?_
      refine awp_seq ?_
      refine awp_region ?_
      refine aR 1 ?_
      refine aE ?_
      refine awp_ret ?_
      exact oF hF [] []
    · refine awp_sub (awp_loop' (slices_Equal_byte_byte_x1_H qs1 qs2) slices_Equal_byte_byte_x1_k (slices_Equal_byte_byte_x1_S qs1 qs2) (by intro x; rcases x with x | x <;> exact fun h => nomatch h) h6 (slices_Equal_byte_byte_x1_ok qs1 qs2)) ?_
      exact oF hF [] []

/-! ### beaconfleet/fleetkeep2.ready -/
def fleetkeep2_ready_x1_k : Bool → AEx
  | _ => .normal

def fleetkeep2_ready_x1_S (vr5 : List api_Change) (vr6 : Int) (vr : List Int) (vr2 : Int) (vr2_1 : api_Version) (vr4 : Int) (vr1 : List UInt8) (vr3 : Int) (vr2_2 : List api_Letter) (vr4_1 : Int) : Bool → St
  | vx => Mem.st ⟨[], []⟩ (tl [(0, .v (.one (.d (.bool vx))))]) 0

def fleetkeep2_ready_x1_I (vr5 : List api_Change) (vr6 : Int) (vr : List Int) (vr2 : Int) (vr2_1 : api_Version) (vr4 : Int) (vr1 : List UInt8) (vr3 : Int) (vr2_2 : List api_Letter) (vr4_1 : Int) : St := Mem.st ⟨[], [(0, [.d (.int .i64 vr2_1.Major), .d (.int .i64 vr2_1.Minor), .d (.int .i64 vr2_1.Patch)])]⟩ (tl [(1, .v (.one (.d (.lst (List.map api_Change.enc vr5))))), (2, .v (.one (.d (.int .i64 vr6)))), (3, .v (.one (.d (.lst (List.map (encI .u8) vr))))), (4, .v (.one (.d (.int .i64 vr2)))), (5, .v (.one (.box 0 0))), (6, .v (.one (.d (.int .i64 vr4)))), (7, .v (.one (.d (.str vr1)))), (8, .v (.one (.d (.int .i64 vr3)))), (9, .v (.one (.d (.lst (List.map api_Letter.enc vr2_2))))), (10, .v (.one (.d (.int .i64 vr4_1))))]) 1

theorem fleetkeep2_ready_x1_ok (vr5 : List api_Change) (vr6 : Int) (vr : List Int) (vr2 : Int) (vr2_1 : api_Version) (vr4 : Int) (vr1 : List UInt8) (vr3 : Int) (vr2_2 : List api_Letter) (vr4_1 : Int) {r} (hF : fleetkeep2_ready_x1 vr5 vr6 vr vr2 vr2_1 vr4 vr1 vr3 vr2_2 vr4_1 = some r) : Awp prog 0 71 (cL (cR (cR (cR (cR (cR (cR (cB f71)))))))) (Out 0 fleetkeep2_ready_x1_k (fleetkeep2_ready_x1_S vr5 vr6 vr vr2 vr2_1 vr4 vr1 vr3 vr2_2 vr4_1) r) (fleetkeep2_ready_x1_I vr5 vr6 vr vr2 vr2_1 vr4 vr1 vr3 vr2_2 vr4_1) := by
  unfold fleetkeep2_ready_x1 at hF
  refine bE hF fun vr7 h6 hF => ?_
  refine cE hF (fun h7 hF => ?_) fun h7 hF => ?_
  · refine cE hF (fun h8 hF => ?_) fun h8 hF => ?_
    · refine bE hF fun vr8 h9 hF => ?_
      refine cE hF (fun h10 hF => ?_) fun h10 hF => ?_
      · refine cE hF (fun h11 hF => ?_) fun h11 hF => ?_
        · refine cE hF (fun h12 hF => ?_) fun h12 hF => ?_
          · refine awp_region ?_
            refine aR 6 ?_
            refine aC (fleetkeep2_errs_ok h6) [] [] [5001] ?_
            refine aB h7 ?_
            refine aR 2 ?_
            refine aL api_Change.enc vr5 ?_
            refine aB h8 ?_
            refine aR 4 ?_
            refine aCb (slices_Equal_byte_byte_ok h9) [] [] [15001] h10 ?_
            refine aR 4 ?_
            refine aB h11 ?_
            refine aR 3 ?_
            refine aB h12 ?_
            refine aR 3 ?_
            refine aL api_Letter.enc vr2_2 ?_
            refine aR 3 ?_
            refine aE ?_
            exact oO hF [] [] rfl
          · refine awp_region ?_
            refine aR 6 ?_
            refine aC (fleetkeep2_errs_ok h6) [] [] [5001] ?_
            refine aB h7 ?_
            refine aR 2 ?_
            refine aL api_Change.enc vr5 ?_
            refine aB h8 ?_
            refine aR 4 ?_
            refine aCb (slices_Equal_byte_byte_ok h9) [] [] [15001] h10 ?_
            refine aR 4 ?_
            refine aB h11 ?_
            refine aR 3 ?_
            refine aB h12 ?_
            refine aR 7 ?_
            refine aE ?_
            exact oO hF [] [] rfl
        · refine awp_region ?_
          refine aR 6 ?_
          refine aC (fleetkeep2_errs_ok h6) [] [] [5001] ?_
          refine aB h7 ?_
          refine aR 2 ?_
          refine aL api_Change.enc vr5 ?_
          refine aB h8 ?_
          refine aR 4 ?_
          refine aCb (slices_Equal_byte_byte_ok h9) [] [] [15001] h10 ?_
          refine aR 4 ?_
          refine aB h11 ?_
          refine aR 11 ?_
          refine aE ?_
          exact oO hF [] [] rfl
      · refine awp_region ?_
        refine aR 6 ?_
        refine aC (fleetkeep2_errs_ok h6) [] [] [5001] ?_
        refine aB h7 ?_
        refine aR 2 ?_
        refine aL api_Change.enc vr5 ?_
        refine aB h8 ?_
        refine aR 4 ?_
        refine aCb (slices_Equal_byte_byte_ok h9) [] [] [15001] h10 ?_
        refine aR 16 ?_
        refine aE ?_
        exact oO hF [] [] rfl
    · refine awp_region ?_
      refine aR 6 ?_
      refine aC (fleetkeep2_errs_ok h6) [] [] [5001] ?_
      refine aB h7 ?_
      refine aR 2 ?_
      refine aL api_Change.enc vr5 ?_
      refine aB h8 ?_
      refine aR 21 ?_
      refine aE ?_
      exact oO hF [] [] rfl
  · refine awp_region ?_
    refine aR 6 ?_
    refine aC (fleetkeep2_errs_ok h6) [] [] [5001] ?_
    refine aB h7 ?_
    refine aR 25 ?_
    refine aE ?_
    exact oO hF [] [] rfl

def fleetkeep2_ready_R (r : Bool) : TV × Mem := (.v (.one (.d (.bool r))), ⟨[], []⟩)

theorem fleetkeep2_ready_ok {r} (hF : fleetkeep2_ready = some r) : Holds prog 71 [] ⟨[], []⟩ (Is (fleetkeep2_ready_R  r)) := by
  unfold fleetkeep2_ready at hF
  refine holds_of_awp hΓ (fn := f71) (c := cB f71) (A := 0) (nx := 0) (by kernel_rfl) (by kernel_rfl) (by kernel_rfl) (by kernel_rfl) (by kernel_rfl) (by kernel_rfl) (lowc_of (by kernel_rfl)) ?_
  show Awp prog 0 71 (cB f71) _ _
  refine awp_seq ?_
  refine awp_region ?_
  refine aR 1 ?_
  refine aE ?_
  refine awp_seq ?_
  refine bE hF fun x h1 hF => ?_
  obtain ⟨vr5, vr6⟩ := x
  refine awp_region ?_
  refine aR 3 ?_
  refine aC (twin_Differ_n0_o1_ok h1) [(0, 3000)] [] [] ?_
  refine aR 5 ?_
  refine aE ?_
  refine awp_to (oT (m := ⟨[], []⟩) (ts := [(1, .v (.one (.d (.lst (List.map api_Change.enc vr5))))), (2, .v (.one (.d (.int .i64 vr6))))]) (nx := 0) [] []) ?_
  refine awp_seq ?_
  refine bE hF fun x h2 hF => ?_
  obtain ⟨vr, vr2⟩ := x
  refine awp_region ?_
  refine aR 2 ?_
  refine aC (series_Pack_o0_ok h2) [(0, 1000)] [] [] ?_
  refine aR 5 ?_
  refine aE ?_
  refine awp_to (oT (m := ⟨[], []⟩) (ts := [(1, .v (.one (.d (.lst (List.map api_Change.enc vr5))))), (2, .v (.one (.d (.int .i64 vr6)))), (3, .v (.one (.d (.lst (List.map (encI .u8) vr))))), (4, .v (.one (.d (.int .i64 vr2))))]) (nx := 0) [] []) ?_
  refine awp_seq ?_
  refine bE hF fun x h3 hF => ?_
  obtain ⟨vr2_1, vr4⟩ := x
  refine awp_region ?_
  refine aC (campaign_ParseVersion_ok h3) [] [] [] ?_
  refine aR 6 ?_
  refine aE ?_
  refine awp_seq ?_
  refine bE hF fun x h4 hF => ?_
  obtain ⟨vr1, vr3⟩ := x
  refine awp_region ?_
  refine aR 1 ?_
  refine aC (place_Cell_ok h4) [] [] [] ?_
  refine aR 5 ?_
  refine aE ?_
  refine awp_seq ?_
  refine bE hF fun x h5 hF => ?_
  obtain ⟨vr2_2, vr4_1⟩ := x
  refine awp_region ?_
  refine aR 2 ?_
  refine aC (command_Order_o0_ok h5) [(0, 15000)] [] [] ?_
  refine aR 5 ?_
  refine aE ?_
  refine awp_to (oT (m := ⟨[], [(0, [.d (.int .i64 vr2_1.Major), .d (.int .i64 vr2_1.Minor), .d (.int .i64 vr2_1.Patch)])]⟩) (ts := [(1, .v (.one (.d (.lst (List.map api_Change.enc vr5))))), (2, .v (.one (.d (.int .i64 vr6)))), (3, .v (.one (.d (.lst (List.map (encI .u8) vr))))), (4, .v (.one (.d (.int .i64 vr2)))), (5, .v (.one (.box 0 0))), (6, .v (.one (.d (.int .i64 vr4)))), (7, .v (.one (.d (.str vr1)))), (8, .v (.one (.d (.int .i64 vr3)))), (9, .v (.one (.d (.lst (List.map api_Letter.enc vr2_2))))), (10, .v (.one (.d (.int .i64 vr4_1))))]) (nx := 1) [(0, 4000)] []) ?_
  refine awp_seq ?_
  refine awp_to (st' := fleetkeep2_ready_x1_I vr5 vr6 vr vr2 vr2_1 vr4 vr1 vr3 vr2_2 vr4_1) (oT [] []) ?_
  refine bE hF fun vx1 h13 hF => ?_
  refine awp_sub (fleetkeep2_ready_x1_ok vr5 vr6 vr vr2 vr2_1 vr4 vr1 vr3 vr2_2 vr4_1 h13) ?_
  refine awp_ret ?_
  exact oF hF [] []

/-! ### beaconfleet/base.Below -/
def base_Below_x1_k : Bool → AEx
  | _ => .normal

def base_Below_x1_S (qname : List UInt8) (qabove : List UInt8) : Bool → St
  | vx => Mem.st ⟨[], []⟩ (tl [(4, .v (.one (.d (.bool vx))))]) 0

def base_Below_x1_I (qname : List UInt8) (qabove : List UInt8) : St := Mem.st ⟨[], []⟩ (tl [(0, .v (.one (.d (.str qname)))), (1, .v (.one (.d (.str qabove))))]) 0

theorem base_Below_x1_ok (qname : List UInt8) (qabove : List UInt8) {r} (hF : base_Below_x1 qname qabove = some r) : Awp prog 0 25 (cL (cR (cB f82))) (Out 0 base_Below_x1_k (base_Below_x1_S qname qabove) r) (base_Below_x1_I qname qabove) := by
  unfold base_Below_x1 at hF
  refine cE hF (fun h1 hF => ?_) fun h1 hF => ?_
  · refine bE hF fun vc h2 hF => ?_
    refine cE hF (fun h3 hF => ?_) fun h3 hF => ?_
    · refine bE hF fun vs h4 hF => ?_
      refine awp_region ?_
      refine aR 4 ?_
      refine aB h1 ?_
      refine aR 4 ?_
      refine aX (x_idxS h2) ?_
      refine aB h3 ?_
      refine aR 5 ?_
      refine aX (x_sliceS h4) ?_
      refine aR 4 ?_
      refine aE ?_
      exact oO hF [] [] rfl
    · refine awp_region ?_
      refine aR 4 ?_
      refine aB h1 ?_
      refine aR 4 ?_
      refine aX (x_idxS h2) ?_
      refine aB h3 ?_
      refine aR 10 ?_
      refine aE ?_
      exact oO hF [] [] rfl
  · refine awp_region ?_
    refine aR 4 ?_
    refine aB h1 ?_
    refine aR 16 ?_
    refine aE ?_
    exact oO hF [] [] rfl

def base_Below_R (qname : List UInt8) (qabove : List UInt8) (r : Bool) : TV × Mem := (.v (.one (.d (.bool r))), ⟨[], []⟩)

theorem base_Below_ok {qname : List UInt8} {qabove : List UInt8} {r} (hF : base_Below qname qabove = some r) : Holds prog 82 [.v (.one (.d (.str qname))), .v (.one (.d (.str qabove)))] ⟨[], []⟩ (Is (base_Below_R qname qabove r)) := by
  unfold base_Below at hF
  refine holds_of_awp hΓ (fn := f82) (c := cB f82) (A := 0) (nx := 0) (by kernel_rfl) (by kernel_rfl) (by kernel_rfl) (by kernel_rfl) (by kernel_rfl) (by kernel_rfl) (lowc_of (by kernel_rfl)) ?_
  show Awp prog 0 25 (cB f82) _ _
  refine awp_seq ?_
  refine awp_region ?_
  refine aR 1 ?_
  refine aE ?_
  refine awp_seq ?_
  refine awp_to (st' := base_Below_x1_I qname qabove) (oT [] []) ?_
  refine bE hF fun vx1 h5 hF => ?_
  refine awp_sub (base_Below_x1_ok qname qabove h5) ?_
  refine awp_ret ?_
  exact oF hF [] []

/-! ### beaconfleet/twin.hides -/
def twin_hides_x1_k : Bool → AEx
  | _ => .normal

def twin_hides_x1_S (qy : api_Cell) (vr : Bool) (vr1 : Bool) : Bool → St
  | vx => Mem.st ⟨[], []⟩ (tl [(4, .v (.one (.d (.bool vx))))]) 0

def twin_hides_x1_I (qy : api_Cell) (vr : Bool) (vr1 : Bool) : St := Mem.st ⟨[], [(0, [.d (.str qy.Prop_.Name), .d (.int .i64 qy.Prop_.Value.Kind), .d (.bool qy.Prop_.Value.Flag), .d (.int .i64 qy.Prop_.Value.Number), .d (.str qy.Prop_.Value.Words), .d (.int .i64 qy.Stamp.At), .d (.str qy.Stamp.By), .d (.int .i64 qy.Stamp.No)])]⟩ (tl [(3, .v (.one (.box 0 0))), (5, .v (.one (.d (.bool vr)))), (6, .v (.one (.d (.bool vr1))))]) 1

theorem twin_hides_x1_ok (qy : api_Cell) (vr : Bool) (vr1 : Bool) {r} (hF : twin_hides_x1 qy vr vr1 = some r) : Awp prog 0 61 (cL (cL (cR (cL (cR (cL (cR (cR (cR (cB f151)))))))))) (Out 0 twin_hides_x1_k (twin_hides_x1_S qy vr vr1) r) (twin_hides_x1_I qy vr vr1) := by
  unfold twin_hides_x1 at hF
  refine cE hF (fun h5 hF => ?_) fun h5 hF => ?_
  · refine awp_region ?_
    refine aB h5 ?_
    refine aR 11 ?_
    refine aE ?_
    exact oO hF [] [] rfl
  · refine cE hF (fun h6 hF => ?_) fun h6 hF => ?_
    · refine awp_region ?_
      refine aB h5 ?_
      refine aR 1 ?_
      refine aB h6 ?_
      refine aR 9 ?_
      refine aE ?_
      exact oO hF [] [] rfl
    · refine awp_region ?_
      refine aB h5 ?_
      refine aR 1 ?_
      refine aB h6 ?_
      refine aR 9 ?_
      refine aE ?_
      exact oO hF [] [] rfl

def twin_hides_x2_k : Bool → AEx
  | _ => .normal

def twin_hides_x2_S (qx : api_Cell) (qy : api_Cell) (vr : Bool) : Bool → St
  | vx2 => Mem.st ⟨[], []⟩ (tl [(4, .v (.one (.d (.bool vx2))))]) 0

def twin_hides_x2_I (qx : api_Cell) (qy : api_Cell) (vr : Bool) : St := Mem.st ⟨[], [(0, [.d (.str qy.Prop_.Name), .d (.int .i64 qy.Prop_.Value.Kind), .d (.bool qy.Prop_.Value.Flag), .d (.int .i64 qy.Prop_.Value.Number), .d (.str qy.Prop_.Value.Words), .d (.int .i64 qy.Stamp.At), .d (.str qy.Stamp.By), .d (.int .i64 qy.Stamp.No)])]⟩ (tl [(3, .v (.one (.box 0 0))), (5, .v (.one (.d (.bool vr)))), (7, .v (.one (.d (.bool (!decide (qx.Prop_.Value.Kind = 0))))))]) 1

theorem twin_hides_x2_ok (qx : api_Cell) (qy : api_Cell) (vr : Bool) {r} (hF : twin_hides_x2 qx qy vr = some r) : Awp prog 0 61 (cL (cL (cR (cR (cR (cL (cR (cL (cR (cR (cR (cB f151)))))))))))) (Out 0 twin_hides_x2_k (twin_hides_x2_S qx qy vr) r) (twin_hides_x2_I qx qy vr) := by
  unfold twin_hides_x2 at hF
  refine cE hF (fun h9 hF => ?_) fun h9 hF => ?_
  · refine cE hF (fun h10 hF => ?_) fun h10 hF => ?_
    · refine awp_region ?_
      refine aB h9 ?_
      refine aR 1 ?_
      refine aB h10 ?_
      refine aR 9 ?_
      refine aE ?_
      exact oO hF [] [] rfl
    · refine awp_region ?_
      refine aB h9 ?_
      refine aR 1 ?_
      refine aB h10 ?_
      refine aR 9 ?_
      refine aE ?_
      exact oO hF [] [] rfl
  · refine awp_region ?_
    refine aB h9 ?_
    refine aR 11 ?_
    refine aE ?_
    exact oO hF [] [] rfl

def twin_hides_R (qx : api_Cell) (qy : api_Cell) (r : Bool) : TV × Mem := (.v (.one (.d (.bool r))), ⟨[], []⟩)

theorem twin_hides_ok {qx : api_Cell} {qy : api_Cell} {r} (hF : twin_hides qx qy = some r) : Holds prog 151 [.v (.agg [.d (.str qx.Prop_.Name), .d (.int .i64 qx.Prop_.Value.Kind), .d (.bool qx.Prop_.Value.Flag), .d (.int .i64 qx.Prop_.Value.Number), .d (.str qx.Prop_.Value.Words), .d (.int .i64 qx.Stamp.At), .d (.str qx.Stamp.By), .d (.int .i64 qx.Stamp.No)]), .v (.agg [.d (.str qy.Prop_.Name), .d (.int .i64 qy.Prop_.Value.Kind), .d (.bool qy.Prop_.Value.Flag), .d (.int .i64 qy.Prop_.Value.Number), .d (.str qy.Prop_.Value.Words), .d (.int .i64 qy.Stamp.At), .d (.str qy.Stamp.By), .d (.int .i64 qy.Stamp.No)])] ⟨[], []⟩ (Is (twin_hides_R qx qy r)) := by
  unfold twin_hides at hF
  refine holds_of_awp hΓ (fn := f151) (c := cB f151) (A := 0) (nx := 0) (by kernel_rfl) (by kernel_rfl) (by kernel_rfl) (by kernel_rfl) (by kernel_rfl) (by kernel_rfl) (lowc_of (by kernel_rfl)) ?_
  show Awp prog 0 61 (cB f151) _ _
  refine awp_seq ?_
  refine awp_region ?_
  refine aR 3 ?_
  refine aE ?_
  refine awp_seq ?_
  refine bE hF fun vr h1 hF => ?_
  refine bE hF fun vr1 h2 hF => ?_
  refine aD ?_
  refine dR 6 ?_
  refine dC (base_Below_ok h1) [] [] [] ?_
  refine dR 6 ?_
  refine dC (base_Below_ok h2) [] [] [] ?_
  refine dR 2 ?_
  refine dE ?_
  refine awp_seq ?_
  refine awp_region ?_
  refine aR 6 ?_
  refine aE ?_
  refine awp_seq ?_
  refine awp_seq ?_
  refine bE hF fun vr3 h3 hF => ?_
  refine awp_region ?_
  refine aR 4 ?_
  refine aC (twin_byStamp_ok h3) [] [] [] ?_
  refine aR 1 ?_
  refine aE ?_
  refine awp_block ?_
  refine awp_seq ?_
  refine awp_region ?_
  refine aR 3 ?_
  refine aE ?_
  refine cE hF (fun h4 hF => ?_) fun h4 hF => ?_
  · refine awp_true (by kernel_rfl) h4 ?_
    refine awp_seq ?_
    refine awp_to (st' := twin_hides_x1_I qy vr vr1) (oT [(0, 1000)] []) ?_
    refine bE hF fun vx1 h7 hF => ?_
    refine awp_sub (twin_hides_x1_ok qy vr vr1 h7) ?_
    refine awp_ret ?_
    exact oF hF [] []
  · refine awp_false (by kernel_rfl) h4 ?_
    refine awp_seq ?_
    refine awp_region ?_
    refine aR 3 ?_
    refine aE ?_
    refine cE hF (fun h8 hF => ?_) fun h8 hF => ?_
    · refine awp_true (by kernel_rfl) h8 ?_
      refine awp_seq ?_
      refine awp_to (st' := twin_hides_x2_I qx qy vr) (oT [(0, 1000)] []) ?_
      refine bE hF fun vx2_1 h11 hF => ?_
      refine awp_sub (twin_hides_x2_ok qx qy vr h11) ?_
      refine awp_ret ?_
      exact oF hF [] []
    · refine awp_false (by kernel_rfl) h8 ?_
      refine awp_skip ?_
      refine awp_seq ?_
      refine awp_region ?_
      refine aR 1 ?_
      refine aE ?_
      refine awp_ret ?_
      exact oF hF [] []

/-! ### beaconfleet/twin.every -/
def twin_every_R (qx : api_Cell) (r : Unit) : TV × Mem := (.v (.one (.d (.bool true))), ⟨[], []⟩)

theorem twin_every_ok {qx : api_Cell} {r} (hF : twin_every qx = some r) : Holds prog 125 [.v (.agg [.d (.str qx.Prop_.Name), .d (.int .i64 qx.Prop_.Value.Kind), .d (.bool qx.Prop_.Value.Flag), .d (.int .i64 qx.Prop_.Value.Number), .d (.str qx.Prop_.Value.Words), .d (.int .i64 qx.Stamp.At), .d (.str qx.Stamp.By), .d (.int .i64 qx.Stamp.No)])] ⟨[], []⟩ (Is (twin_every_R qx r)) := by
  unfold twin_every at hF
  refine holds_of_awp hΓ (fn := f125) (c := cB f125) (A := 0) (nx := 0) (by kernel_rfl) (by kernel_rfl) (by kernel_rfl) (by kernel_rfl) (by kernel_rfl) (by kernel_rfl) (lowc_of (by kernel_rfl)) ?_
  show Awp prog 0 3 (cB f125) _ _
  refine awp_seq ?_
  refine awp_region ?_
  refine aR 2 ?_
  refine aE ?_
  refine awp_seq ?_
  refine awp_region ?_
  refine aR 1 ?_
  refine aE ?_
  refine awp_ret ?_
  exact oF hF [] []

/-! ### beaconfleet/twin.hidden$1 -/
def twin_hidden_1_x1_k : Bool → AEx
  | _ => .normal

def twin_hidden_1_x1_S (qx : api_Cell) (qx1 : api_Cell) : Bool → St
  | vx => Mem.st ⟨[], [(0, [.d (.str qx1.Prop_.Name), .d (.int .i64 qx1.Prop_.Value.Kind), .d (.bool qx1.Prop_.Value.Flag), .d (.int .i64 qx1.Prop_.Value.Number), .d (.str qx1.Prop_.Value.Words), .d (.int .i64 qx1.Stamp.At), .d (.str qx1.Stamp.By), .d (.int .i64 qx1.Stamp.No)]), (1, [.fn 125 []])]⟩ (tl [(4, .v (.one (.d (.bool vx))))]) 2

def twin_hidden_1_x1_I (qx : api_Cell) (qx1 : api_Cell) : St := Mem.st ⟨[], [(0, [.d (.str qx1.Prop_.Name), .d (.int .i64 qx1.Prop_.Value.Kind), .d (.bool qx1.Prop_.Value.Flag), .d (.int .i64 qx1.Prop_.Value.Number), .d (.str qx1.Prop_.Value.Words), .d (.int .i64 qx1.Stamp.At), .d (.str qx1.Stamp.By), .d (.int .i64 qx1.Stamp.No)]), (1, [.fn 125 []]), (2, [.d (.str qx.Prop_.Name), .d (.int .i64 qx.Prop_.Value.Kind), .d (.bool qx.Prop_.Value.Flag), .d (.int .i64 qx.Prop_.Value.Number), .d (.str qx.Prop_.Value.Words), .d (.int .i64 qx.Stamp.At), .d (.str qx.Stamp.By), .d (.int .i64 qx.Stamp.No)])]⟩ (tl [(1, .v (.one (.box 0 0))), (2, .v (.one (.box 1 0))), (3, .v (.one (.box 2 0)))]) 3

theorem twin_hidden_1_x1_ok (qx : api_Cell) (qx1 : api_Cell) {r} (hF : twin_hidden_1_x1 qx qx1 = some r) : Awp prog 2 13 (cL (cR (cB f150))) (Out 2 twin_hidden_1_x1_k (twin_hidden_1_x1_S qx qx1) r) (twin_hidden_1_x1_I qx qx1) := by
  unfold twin_hidden_1_x1 at hF
  refine bE hF fun vr2 h1 hF => ?_
  refine cE hF (fun h2 hF => ?_) fun h2 hF => ?_
  · refine bE hF fun _ h3 hF => ?_
    refine awp_region ?_
    refine aR 2 ?_
    refine aCb (twin_hides_ok h1) [] [] [] h2 ?_
    refine aR 3 ?_
    refine aC (twin_every_ok h3) [] [] [] ?_
    refine aR 2 ?_
    refine aE ?_
    exact oO hF [] [] rfl
  · refine awp_region ?_
    refine aR 2 ?_
    refine aCb (twin_hides_ok h1) [] [] [] h2 ?_
    refine aR 6 ?_
    refine aE ?_
    exact oO hF [] [] rfl

def twin_hidden_1_R (qx : api_Cell) (qx1 : api_Cell) (r : Bool) : TV × Mem := (.v (.one (.d (.bool r))), ⟨[], [(0, [.d (.str qx1.Prop_.Name), .d (.int .i64 qx1.Prop_.Value.Kind), .d (.bool qx1.Prop_.Value.Flag), .d (.int .i64 qx1.Prop_.Value.Number), .d (.str qx1.Prop_.Value.Words), .d (.int .i64 qx1.Stamp.At), .d (.str qx1.Stamp.By), .d (.int .i64 qx1.Stamp.No)]), (1, [.fn 125 []])]⟩)

theorem twin_hidden_1_ok {qx : api_Cell} {qx1 : api_Cell} {r} (hF : twin_hidden_1 qx qx1 = some r) : Holds prog 150 [.v (.agg [.d (.str qx.Prop_.Name), .d (.int .i64 qx.Prop_.Value.Kind), .d (.bool qx.Prop_.Value.Flag), .d (.int .i64 qx.Prop_.Value.Number), .d (.str qx.Prop_.Value.Words), .d (.int .i64 qx.Stamp.At), .d (.str qx.Stamp.By), .d (.int .i64 qx.Stamp.No)]), .v (.one (.box 0 0)), .v (.one (.box 1 0))] ⟨[], [(0, [.d (.str qx1.Prop_.Name), .d (.int .i64 qx1.Prop_.Value.Kind), .d (.bool qx1.Prop_.Value.Flag), .d (.int .i64 qx1.Prop_.Value.Number), .d (.str qx1.Prop_.Value.Words), .d (.int .i64 qx1.Stamp.At), .d (.str qx1.Stamp.By), .d (.int .i64 qx1.Stamp.No)]), (1, [.fn 125 []])]⟩ (Is (twin_hidden_1_R qx qx1 r)) := by
  unfold twin_hidden_1 at hF
  refine holds_of_awp hΓ (fn := f150) (c := cB f150) (A := 2) (nx := 2) (by kernel_rfl) (by kernel_rfl) (by kernel_rfl) (by kernel_rfl) (by kernel_rfl) (by kernel_rfl) (lowc_of (by kernel_rfl)) ?_
  show Awp prog 2 13 (cB f150) _ _
  refine awp_seq ?_
  refine awp_region ?_
  refine aR 2 ?_
  refine aE ?_
  refine awp_seq ?_
  refine awp_to (st' := twin_hidden_1_x1_I qx qx1) (oT [] []) ?_
  refine bE hF fun vx1 h4 hF => ?_
  refine awp_sub (twin_hidden_1_x1_ok qx qx1 h4) ?_
  refine awp_ret ?_
  exact oF hF [] []

/-! ### slices.IndexFunc[[]beaconfleet/api.Cell,beaconfleet/api.Cell] -/
def slices_IndexFunc_api_Cell_api_Cell_f1_twin_hidden_1_x1_k : Unit ⊕ Int → AEx
  | .inl _ => .exit 0
  | .inr _ => .ret

def slices_IndexFunc_api_Cell_api_Cell_f1_twin_hidden_1_x1_S (qs : List api_Cell) (qf : api_Cell) : Unit ⊕ Int → St
  | .inl _ => Mem.st ⟨[], [(0, [.d (.str qf.Prop_.Name), .d (.int .i64 qf.Prop_.Value.Kind), .d (.bool qf.Prop_.Value.Flag), .d (.int .i64 qf.Prop_.Value.Number), .d (.str qf.Prop_.Value.Words), .d (.int .i64 qf.Stamp.At), .d (.str qf.Stamp.By), .d (.int .i64 qf.Stamp.No)]), (1, [.fn 125 []])]⟩ (tl []) 2
  | .inr vx1 => Mem.st ⟨[], [(0, [.d (.str qf.Prop_.Name), .d (.int .i64 qf.Prop_.Value.Kind), .d (.bool qf.Prop_.Value.Flag), .d (.int .i64 qf.Prop_.Value.Number), .d (.str qf.Prop_.Value.Words), .d (.int .i64 qf.Stamp.At), .d (.str qf.Stamp.By), .d (.int .i64 qf.Stamp.No)]), (1, [.fn 125 []])]⟩ (tl [(4, .v (.one (.d (.int .i64 vx1))))]) 2

def slices_IndexFunc_api_Cell_api_Cell_f1_twin_hidden_1_x1_H (qs : List api_Cell) (qf : api_Cell) : Int → St
  | vx => Mem.st ⟨[], [(0, [.d (.str qf.Prop_.Name), .d (.int .i64 qf.Prop_.Value.Kind), .d (.bool qf.Prop_.Value.Flag), .d (.int .i64 qf.Prop_.Value.Number), .d (.str qf.Prop_.Value.Words), .d (.int .i64 qf.Stamp.At), .d (.str qf.Stamp.By), .d (.int .i64 qf.Stamp.No)]), (1, [.fn 125 []])]⟩ (tl [(0, .v (.one (.d (.lst (List.map api_Cell.enc qs))))), (1, .v (.one (.fn 150 [0, 1]))), (7, .v (.one (.d (.int .i64 (qs.length : Int))))), (8, .v (.one (.d (.int .i64 vx))))]) 2

theorem slices_IndexFunc_api_Cell_api_Cell_f1_twin_hidden_1_x1_ok (qs : List api_Cell) (qf : api_Cell) (vx : Int) (r : (Int) ⊕ (Unit ⊕ Int)) (hF : slices_IndexFunc_api_Cell_api_Cell_f1_twin_hidden_1_x1 qs qf vx = some r) : Awp prog 2 19 (cL (cL (cR (cL (cR (cB f152)))))) (Out 2 (kk slices_IndexFunc_api_Cell_api_Cell_f1_twin_hidden_1_x1_k) (SS (slices_IndexFunc_api_Cell_api_Cell_f1_twin_hidden_1_x1_H qs qf) (slices_IndexFunc_api_Cell_api_Cell_f1_twin_hidden_1_x1_S qs qf)) r) (slices_IndexFunc_api_Cell_api_Cell_f1_twin_hidden_1_x1_H qs qf vx) := by
  unfold slices_IndexFunc_api_Cell_api_Cell_f1_twin_hidden_1_x1 at hF
  refine awp_seq ?_
  refine awp_region ?_
  refine aR 1 ?_
  refine aE ?_
  refine awp_seq ?_
  refine cE hF (fun h1 hF => ?_) fun h1 hF => ?_
  · refine awp_true (by kernel_rfl) h1 ?_
    refine awp_skip ?_
    refine awp_seq ?_
    refine awp_block ?_
    refine awp_seq ?_
    refine awp_region ?_
    refine aR 2 ?_
    refine aE ?_
    refine awp_seq ?_
    refine bE hF fun vy1 h2 hF => ?_
    refine bE hF fun vr1 h3 hF => ?_
    refine awp_region ?_
    refine aR 3 ?_
    refine aX (x_idx api_Cell.enc h2) ?_
    refine aR 1 ?_
    refine aC (twin_hidden_1_ok h3) [] [] [] ?_
    refine aE ?_
    refine cE hF (fun h4 hF => ?_) fun h4 hF => ?_
    · refine awp_true (by kernel_rfl) h4 ?_
      refine awp_seq ?_
      refine awp_region ?_
      refine aR 2 ?_
      refine aE ?_
      refine awp_ret ?_
      exact oO hF [] [] rfl
    · refine awp_false (by kernel_rfl) h4 ?_
      refine awp_skip ?_
      refine awp_region ?_
      refine aR 2 ?_
      refine aE ?_
      exact oO hF [] [] rfl
  · refine awp_false (by kernel_rfl) h1 ?_
    refine awp_exit ?_
    exact oO hF [] [] rfl

def slices_IndexFunc_api_Cell_api_Cell_f1_twin_hidden_1_R (qs : List api_Cell) (qf : api_Cell) (r : Int) : TV × Mem := (.v (.one (.d (.int .i64 r))), ⟨[], [(0, [.d (.str qf.Prop_.Name), .d (.int .i64 qf.Prop_.Value.Kind), .d (.bool qf.Prop_.Value.Flag), .d (.int .i64 qf.Prop_.Value.Number), .d (.str qf.Prop_.Value.Words), .d (.int .i64 qf.Stamp.At), .d (.str qf.Stamp.By), .d (.int .i64 qf.Stamp.No)]), (1, [.fn 125 []])]⟩)

theorem slices_IndexFunc_api_Cell_api_Cell_f1_twin_hidden_1_ok {qs : List api_Cell} {qf : api_Cell} {r} (hF : slices_IndexFunc_api_Cell_api_Cell_f1_twin_hidden_1 qs qf = some r) : Holds prog 152 [.v (.one (.d (.lst (List.map api_Cell.enc qs)))), .v (.one (.fn 150 [0, 1]))] ⟨[], [(0, [.d (.str qf.Prop_.Name), .d (.int .i64 qf.Prop_.Value.Kind), .d (.bool qf.Prop_.Value.Flag), .d (.int .i64 qf.Prop_.Value.Number), .d (.str qf.Prop_.Value.Words), .d (.int .i64 qf.Stamp.At), .d (.str qf.Stamp.By), .d (.int .i64 qf.Stamp.No)]), (1, [.fn 125 []])]⟩ (Is (slices_IndexFunc_api_Cell_api_Cell_f1_twin_hidden_1_R qs qf r)) := by
  unfold slices_IndexFunc_api_Cell_api_Cell_f1_twin_hidden_1 at hF
  refine holds_of_awp hΓ (fn := f152) (c := cB f152) (A := 2) (nx := 2) (by kernel_rfl) (by kernel_rfl) (by kernel_rfl) (by kernel_rfl) (by kernel_rfl) (by kernel_rfl) (lowc_of (by kernel_rfl)) ?_
  show Awp prog 2 19 (cB f152) _ _
  refine awp_seq ?_
  refine awp_region ?_
  refine aR 1 ?_
  refine aE ?_
  refine awp_seq ?_
  refine awp_seq ?_
  refine awp_region ?_
  refine aR 1 ?_
  refine aL api_Cell.enc qs ?_
  refine aR 1 ?_
  refine aE ?_
  refine awp_block ?_
  refine awp_to (st' := slices_IndexFunc_api_Cell_api_Cell_f1_twin_hidden_1_x1_H qs qf 0) (oT [] []) ?_
  refine bE hF fun x h5 hF => ?_
  rcases x with _ | vx1_1
  · refine awp_sub (awp_loop' (slices_IndexFunc_api_Cell_api_Cell_f1_twin_hidden_1_x1_H qs qf) slices_IndexFunc_api_Cell_api_Cell_f1_twin_hidden_1_x1_k (slices_IndexFunc_api_Cell_api_Cell_f1_twin_hidden_1_x1_S qs qf) (by intro x; rcases x with x | x <;> exact fun h => nomatch h) h5 (slices_IndexFunc_api_Cell_api_Cell_f1_twin_hidden_1_x1_ok qs qf)) ?_
    refine awp_seq ?_
    refine awp_region ?_
    refine aR 1 ?_
    refine aE ?_
    refine awp_ret ?_
    exact oF hF [] []
  · refine awp_sub (awp_loop' (slices_IndexFunc_api_Cell_api_Cell_f1_twin_hidden_1_x1_H qs qf) slices_IndexFunc_api_Cell_api_Cell_f1_twin_hidden_1_x1_k (slices_IndexFunc_api_Cell_api_Cell_f1_twin_hidden_1_x1_S qs qf) (by intro x; rcases x with x | x <;> exact fun h => nomatch h) h5 (slices_IndexFunc_api_Cell_api_Cell_f1_twin_hidden_1_x1_ok qs qf)) ?_
    exact oF hF [] []

/-! ### slices.ContainsFunc[[]beaconfleet/api.Cell,beaconfleet/api.Cell] -/
def slices_ContainsFunc_api_Cell_api_Cell_f1_twin_hidden_1_R (qs : List api_Cell) (qf : api_Cell) (r : Bool) : TV × Mem := (.v (.one (.d (.bool r))), ⟨[], [(0, [.d (.str qf.Prop_.Name), .d (.int .i64 qf.Prop_.Value.Kind), .d (.bool qf.Prop_.Value.Flag), .d (.int .i64 qf.Prop_.Value.Number), .d (.str qf.Prop_.Value.Words), .d (.int .i64 qf.Stamp.At), .d (.str qf.Stamp.By), .d (.int .i64 qf.Stamp.No)]), (1, [.fn 125 []])]⟩)

theorem slices_ContainsFunc_api_Cell_api_Cell_f1_twin_hidden_1_ok {qs : List api_Cell} {qf : api_Cell} {r} (hF : slices_ContainsFunc_api_Cell_api_Cell_f1_twin_hidden_1 qs qf = some r) : Holds prog 83 [.v (.one (.d (.lst (List.map api_Cell.enc qs)))), .v (.one (.fn 150 [0, 1]))] ⟨[], [(0, [.d (.str qf.Prop_.Name), .d (.int .i64 qf.Prop_.Value.Kind), .d (.bool qf.Prop_.Value.Flag), .d (.int .i64 qf.Prop_.Value.Number), .d (.str qf.Prop_.Value.Words), .d (.int .i64 qf.Stamp.At), .d (.str qf.Stamp.By), .d (.int .i64 qf.Stamp.No)]), (1, [.fn 125 []])]⟩ (Is (slices_ContainsFunc_api_Cell_api_Cell_f1_twin_hidden_1_R qs qf r)) := by
  unfold slices_ContainsFunc_api_Cell_api_Cell_f1_twin_hidden_1 at hF
  refine holds_of_awp hΓ (fn := f83) (c := cB f83) (A := 2) (nx := 2) (by kernel_rfl) (by kernel_rfl) (by kernel_rfl) (by kernel_rfl) (by kernel_rfl) (by kernel_rfl) (lowc_of (by kernel_rfl)) ?_
  show Awp prog 2 9 (cB f83) _ _
  refine awp_seq ?_
  refine awp_region ?_
  refine aR 1 ?_
  refine aE ?_
  refine awp_seq ?_
  refine bE hF fun vr2 h1 hF => ?_
  refine awp_region ?_
  refine aR 2 ?_
  refine aC (slices_IndexFunc_api_Cell_api_Cell_f1_twin_hidden_1_ok h1) [] [] [] ?_
  refine aR 2 ?_
  refine aE ?_
  refine awp_ret ?_
  exact oF hF [] []

/-! ### beaconfleet/twin.hidden -/
def twin_hidden_f2_twin_every_R (ql : List api_Cell) (qy : api_Cell) (r : Bool) : TV × Mem := (.v (.one (.d (.bool r))), ⟨[], []⟩)

theorem twin_hidden_f2_twin_every_ok {ql : List api_Cell} {qy : api_Cell} {r} (hF : twin_hidden_f2_twin_every ql qy = some r) : Holds prog 80 [.v (.one (.d (.lst (List.map api_Cell.enc ql)))), .v (.agg [.d (.str qy.Prop_.Name), .d (.int .i64 qy.Prop_.Value.Kind), .d (.bool qy.Prop_.Value.Flag), .d (.int .i64 qy.Prop_.Value.Number), .d (.str qy.Prop_.Value.Words), .d (.int .i64 qy.Stamp.At), .d (.str qy.Stamp.By), .d (.int .i64 qy.Stamp.No)]), .v (.one (.fn 125 []))] ⟨[], []⟩ (Is (twin_hidden_f2_twin_every_R ql qy r)) := by
  unfold twin_hidden_f2_twin_every at hF
  refine holds_of_awp hΓ (fn := f80) (c := cB f80) (A := 0) (nx := 0) (by kernel_rfl) (by kernel_rfl) (by kernel_rfl) (by kernel_rfl) (by kernel_rfl) (by kernel_rfl) (lowc_of (by kernel_rfl)) ?_
  show Awp prog 0 10 (cB f80) _ _
  refine awp_seq ?_
  refine awp_region ?_
  refine aR 3 ?_
  refine aE ?_
  refine awp_seq ?_
  refine bE hF fun vr h1 hF => ?_
  refine awp_region ?_
  refine aR 2 ?_
  refine aC (slices_ContainsFunc_api_Cell_api_Cell_f1_twin_hidden_1_ok h1) [(1, 1000)] [] [] ?_
  refine aR 1 ?_
  refine aE ?_
  refine awp_ret ?_
  exact oF hF [] []

/-! ### beaconfleet/twin.visible -/
def twin_visible_x3_k : Bool → AEx
  | _ => .normal

def twin_visible_x3_S (ql : List api_Cell) (vout : List api_Prop) (vx : Int) (vy1 : api_Cell) : Bool → St
  | vx2 => Mem.st ⟨[(1, ⟨44, 5, List.map api_Prop.enc vout⟩)], [(0, [.d (.str vy1.Prop_.Name), .d (.int .i64 vy1.Prop_.Value.Kind), .d (.bool vy1.Prop_.Value.Flag), .d (.int .i64 vy1.Prop_.Value.Number), .d (.str vy1.Prop_.Value.Words), .d (.int .i64 vy1.Stamp.At), .d (.str vy1.Stamp.By), .d (.int .i64 vy1.Stamp.No)])]⟩ (tl [(0, .v (.one (.d (.lst (List.map api_Cell.enc ql))))), (3, .v (.one (.own 1 none))), (5, .v (.one (.box 0 0))), (6, .v (.one (.d (.lst (List.map api_Cell.enc ql))))), (7, .v (.one (.d (.int .i64 (ql.length : Int))))), (8, .v (.one (.d (.int .i64 vx)))), (22, .v (.one (.d (.bool vx2))))]) 2

def twin_visible_x3_I (ql : List api_Cell) (vout : List api_Prop) (vx : Int) (vy1 : api_Cell) : St := Mem.st ⟨[(1, ⟨44, 5, List.map api_Prop.enc vout⟩)], [(0, [.d (.str vy1.Prop_.Name), .d (.int .i64 vy1.Prop_.Value.Kind), .d (.bool vy1.Prop_.Value.Flag), .d (.int .i64 vy1.Prop_.Value.Number), .d (.str vy1.Prop_.Value.Words), .d (.int .i64 vy1.Stamp.At), .d (.str vy1.Stamp.By), .d (.int .i64 vy1.Stamp.No)])]⟩ (tl [(0, .v (.one (.d (.lst (List.map api_Cell.enc ql))))), (3, .v (.one (.own 1 none))), (5, .v (.one (.box 0 0))), (6, .v (.one (.d (.lst (List.map api_Cell.enc ql))))), (7, .v (.one (.d (.int .i64 (ql.length : Int))))), (8, .v (.one (.d (.int .i64 vx))))]) 2

theorem twin_visible_x3_ok (ql : List api_Cell) (vout : List api_Prop) (vx : Int) (vy1 : api_Cell) {r} (hF : twin_visible_x3 ql vy1 = some r) : Awp prog 0 30 (cL (cR (cL (cL (cR (cR (cL (cL (cR (cL (cR (cR (cB f77))))))))))))) (Out 0 twin_visible_x3_k (twin_visible_x3_S ql vout vx vy1) r) (twin_visible_x3_I ql vout vx vy1) := by
  unfold twin_visible_x3 at hF
  refine cE hF (fun h3 hF => ?_) fun h3 hF => ?_
  · refine bE hF fun vr1_1 h4 hF => ?_
    refine awp_region ?_
    refine aR 4 ?_
    refine aB h3 ?_
    refine aR 3 ?_
    refine aC (twin_hidden_f2_twin_every_ok h4) [] [] [] ?_
    refine aR 2 ?_
    refine aE ?_
    exact oO hF [] [] rfl
  · refine awp_region ?_
    refine aR 4 ?_
    refine aB h3 ?_
    refine aR 6 ?_
    refine aE ?_
    exact oO hF [] [] rfl

def twin_visible_x2_k : (List api_Prop) → AEx
  | _ => .normal

def twin_visible_x2_S (ql : List api_Cell) (vout : List api_Prop) (vx : Int) : (List api_Prop) → St
  | vout2 => Mem.st ⟨[(0, ⟨44, 5, List.map api_Prop.enc vout2⟩)], []⟩ (tl [(0, .v (.one (.d (.lst (List.map api_Cell.enc ql))))), (3, .v (.one (.own 0 none))), (6, .v (.one (.d (.lst (List.map api_Cell.enc ql))))), (7, .v (.one (.d (.int .i64 (ql.length : Int))))), (8, .v (.one (.d (.int .i64 vx))))]) 1

def twin_visible_x2_I (ql : List api_Cell) (vout : List api_Prop) (vx : Int) : St := Mem.st ⟨[(0, ⟨44, 5, List.map api_Prop.enc vout⟩)], []⟩ (tl [(0, .v (.one (.d (.lst (List.map api_Cell.enc ql))))), (3, .v (.one (.own 0 none))), (6, .v (.one (.d (.lst (List.map api_Cell.enc ql))))), (7, .v (.one (.d (.int .i64 (ql.length : Int))))), (8, .v (.one (.d (.int .i64 vx))))]) 1

theorem twin_visible_x2_ok (ql : List api_Cell) (vout : List api_Prop) (vx : Int) {r} (hF : twin_visible_x2 ql vout vx = some r) : Awp prog 0 30 (cL (cR (cR (cL (cL (cR (cL (cR (cR (cB f77)))))))))) (Out 0 twin_visible_x2_k (twin_visible_x2_S ql vout vx) r) (twin_visible_x2_I ql vout vx) := by
  unfold twin_visible_x2 at hF
  refine awp_block ?_
  refine awp_seq ?_
  refine bE hF fun vy1 h2 hF => ?_
  refine awp_region ?_
  refine aX (x_idx api_Cell.enc h2) ?_
  refine aR 3 ?_
  refine aE ?_
  refine awp_seq ?_
  refine awp_to (st' := twin_visible_x3_I ql vout vx vy1) (oT [(0, 2001), (1, 0)] []) ?_
  refine bE hF fun vx2_1 h5 hF => ?_
  refine awp_sub (twin_visible_x3_ok ql vout vx vy1 h5) ?_
  refine cE hF (fun h6 hF => ?_) fun h6 hF => ?_
  · refine awp_true (by kernel_rfl) h6 ?_
    refine gE hF fun h7 hF => ?_
    refine awp_region ?_
    refine aR 4 ?_
    refine aX (x_app api_Prop.enc 1 h7) ?_
    refine aR 1 ?_
    refine aE ?_
    exact oO hF [(0, 4002)] [] rfl
  · refine awp_false (by kernel_rfl) h6 ?_
    refine awp_skip ?_
    exact oO hF [(0, 1)] [] rfl

def twin_visible_x1_k : (List api_Prop) → AEx
  | _ => .exit 0

def twin_visible_x1_S (ql : List api_Cell) : (List api_Prop) → St
  | vout3 => Mem.st ⟨[(0, ⟨44, 5, List.map api_Prop.enc vout3⟩)], []⟩ (tl [(3, .v (.one (.own 0 none)))]) 1

def twin_visible_x1_H (ql : List api_Cell) : (List api_Prop) × Int → St
  | (vout, vx) => Mem.st ⟨[(0, ⟨44, 5, List.map api_Prop.enc vout⟩)], []⟩ (tl [(0, .v (.one (.d (.lst (List.map api_Cell.enc ql))))), (3, .v (.one (.own 0 none))), (6, .v (.one (.d (.lst (List.map api_Cell.enc ql))))), (7, .v (.one (.d (.int .i64 (ql.length : Int))))), (8, .v (.one (.d (.int .i64 vx))))]) 1

theorem twin_visible_x1_ok (ql : List api_Cell) (s : (List api_Prop) × Int) (r : ((List api_Prop) × Int) ⊕ ((List api_Prop))) (hF : twin_visible_x1 ql s = some r) : Awp prog 0 30 (cL (cL (cR (cL (cR (cR (cB f77))))))) (Out 0 (kk twin_visible_x1_k) (SS (twin_visible_x1_H ql) (twin_visible_x1_S ql)) r) (twin_visible_x1_H ql s) := by
  obtain ⟨vout, vx⟩ := s
  unfold twin_visible_x1 at hF
  refine awp_seq ?_
  refine awp_region ?_
  refine aR 1 ?_
  refine aE ?_
  refine awp_seq ?_
  refine cE hF (fun h1 hF => ?_) fun h1 hF => ?_
  · refine awp_true (by kernel_rfl) h1 ?_
    refine awp_skip ?_
    refine awp_seq ?_
    refine awp_to (st' := twin_visible_x2_I ql vout vx) (oT [] []) ?_
    refine bE hF fun vout2_1 h8 hF => ?_
    refine awp_sub (twin_visible_x2_ok ql vout vx h8) ?_
    refine awp_region ?_
    refine aR 2 ?_
    refine aE ?_
    exact oO hF [] [] rfl
  · refine awp_false (by kernel_rfl) h1 ?_
    refine awp_exit ?_
    exact oO hF [] [] rfl

def twin_visible_R (ql : List api_Cell) (r : (List api_Prop)) : TV × Mem := (.v (.one (.own 0 none)), ⟨[(0, ⟨44, 5, List.map api_Prop.enc r⟩)], []⟩)

theorem twin_visible_ok {ql : List api_Cell} {r} (hF : twin_visible ql = some r) : Holds prog 77 [.v (.one (.d (.lst (List.map api_Cell.enc ql))))] ⟨[], []⟩ (Is (twin_visible_R ql r)) := by
  unfold twin_visible at hF
  refine holds_of_awp hΓ (fn := f77) (c := cB f77) (A := 0) (nx := 0) (by kernel_rfl) (by kernel_rfl) (by kernel_rfl) (by kernel_rfl) (by kernel_rfl) (by kernel_rfl) (lowc_of (by kernel_rfl)) ?_
  show Awp prog 0 30 (cB f77) _ _
  refine awp_seq ?_
  refine awp_region ?_
  refine aR 1 ?_
  refine aE ?_
  refine awp_seq ?_
  refine awp_region ?_
  refine aR 1 ?_
  refine aE ?_
  refine awp_seq ?_
  refine awp_seq ?_
  refine awp_region ?_
  refine aR 1 ?_
  refine aL api_Cell.enc ql ?_
  refine aR 1 ?_
  refine aE ?_
  refine awp_block ?_
  refine awp_to (st' := twin_visible_x1_H ql ([], 0)) (oT [] [0]) ?_
  refine bE hF fun vout3_1 h9 hF => ?_
  refine awp_sub (awp_loop' (twin_visible_x1_H ql) twin_visible_x1_k (twin_visible_x1_S ql) (by intro x; exact fun h => nomatch h) h9 (twin_visible_x1_ok ql)) ?_
  refine awp_seq ?_
  refine awp_region ?_
  refine aR 2 ?_
  refine aE ?_
  refine awp_ret ?_
  exact oF hF [] []

/-! ### beaconfleet/twin.Visible -/
def twin_Visible_R (ql : List api_Cell) (r : (List api_Prop) × Int) : TV × Mem := (.tup [.one (.own 0 none), .one (.d (.int .i64 r.2))], ⟨[(0, ⟨44, 5, List.map api_Prop.enc r.1⟩)], []⟩)

theorem twin_Visible_ok {ql : List api_Cell} {r} (hF : twin_Visible ql = some r) : Holds prog 15 [.v (.one (.d (.lst (List.map api_Cell.enc ql))))] ⟨[], []⟩ (Is (twin_Visible_R ql r)) := by
  unfold twin_Visible at hF
  refine holds_of_awp hΓ (fn := f15) (c := cB f15) (A := 0) (nx := 0) (by kernel_rfl) (by kernel_rfl) (by kernel_rfl) (by kernel_rfl) (by kernel_rfl) (by kernel_rfl) (lowc_of (by kernel_rfl)) ?_
  show Awp prog 0 12 (cB f15) _ _
  refine awp_seq ?_
  refine awp_region ?_
  refine aR 2 ?_
  refine aE ?_
  refine awp_seq ?_
  refine awp_seq ?_
  refine bE hF fun vr6 h1 hF => ?_
  refine awp_region ?_
  refine aR 1 ?_
  refine aC (twin_CheckCells_ok h1) [] [] [] ?_
  refine aR 1 ?_
  refine aE ?_
  refine awp_seq ?_
  refine awp_region ?_
  refine aR 2 ?_
  refine aE ?_
  refine cE hF (fun h2 hF => ?_) fun h2 hF => ?_
  · refine awp_true (by kernel_rfl) h2 ?_
    refine awp_seq ?_
    refine awp_region ?_
    refine aR 3 ?_
    refine aE ?_
    refine awp_ret ?_
    exact oF hF [] [0]
  · refine awp_false (by kernel_rfl) h2 ?_
    refine awp_skip ?_
    refine awp_seq ?_
    refine bE hF fun vr h3 hF => ?_
    refine awp_region ?_
    refine aR 1 ?_
    refine aC (twin_visible_ok h3) [] [] [] ?_
    refine aR 2 ?_
    refine aE ?_
    refine awp_ret ?_
    exact oF hF [(0, 8000)] []

/-! ### (*beaconfleet/fleetmake.Stream).RightTwin -/
def fleetmake_Stream_RightTwin_R (qs : fleetmake_Stream) (r : fleetmake_Stream × (List api_Cell) × (List api_Cell)) : TV × Mem := (.v (.agg [.own 1 none, .own 2 none]), ⟨[(1, ⟨49, 8, List.map api_Cell.enc r.2.1⟩), (2, ⟨49, 8, List.map api_Cell.enc r.2.2⟩)], [(0, [.d (.lst (List.map (encI .i64) r.1.L)), .d (.int .i64 r.1.at_)])]⟩)

theorem fleetmake_Stream_RightTwin_ok {qs : fleetmake_Stream} {r} (hF : fleetmake_Stream_RightTwin qs = some r) : Holds prog 74 [.v (.one (.box 0 0))] ⟨[], [(0, [.d (.lst (List.map (encI .i64) qs.L)), .d (.int .i64 qs.at_)])]⟩ (Is (fleetmake_Stream_RightTwin_R qs r)) := by
  unfold fleetmake_Stream_RightTwin at hF
  refine holds_of_awp hΓ (fn := f74) (c := cB f74) (A := 1) (nx := 1) (by kernel_rfl) (by kernel_rfl) (by kernel_rfl) (by kernel_rfl) (by kernel_rfl) (by kernel_rfl) (lowc_of (by kernel_rfl)) ?_
  show Awp prog 1 8 (cB f74) _ _
  refine awp_seq ?_
  refine awp_region ?_
  refine aR 1 ?_
  refine aE ?_
  refine awp_seq ?_
  refine bE hF fun x h1 hF => ?_
  obtain ⟨vs3, vr8⟩ := x
  refine bE hF fun x h2 hF => ?_
  obtain ⟨vs3_1, vr8_1⟩ := x
  refine awp_region ?_
  refine aR 1 ?_
  refine aC (fleetmake_Stream_RightCells_ok h1) [] [] [] ?_
  refine aR 1 ?_
  refine aC (fleetmake_Stream_RightCells_ok h2) [] [] [] ?_
  refine aR 2 ?_
  refine aE ?_
  refine awp_ret ?_
  exact oF hF [(1, 2002), (2, 4002)] []

/-! ### beaconfleet/twin.twinFault -/
def twin_twinFault_R (qt : api_Twin) (r : Int) : TV × Mem := (.v (.one (.d (.int .i64 r))), ⟨[], []⟩)

theorem twin_twinFault_ok {qt : api_Twin} {r} (hF : twin_twinFault qt = some r) : Holds prog 124 [.v (.agg [.d (.lst (List.map api_Cell.enc qt.Desired)), .d (.lst (List.map api_Cell.enc qt.Reported))])] ⟨[], []⟩ (Is (twin_twinFault_R qt r)) := by
  unfold twin_twinFault at hF
  refine holds_of_awp hΓ (fn := f124) (c := cB f124) (A := 0) (nx := 0) (by kernel_rfl) (by kernel_rfl) (by kernel_rfl) (by kernel_rfl) (by kernel_rfl) (by kernel_rfl) (lowc_of (by kernel_rfl)) ?_
  show Awp prog 0 11 (cB f124) _ _
  refine awp_seq ?_
  refine awp_region ?_
  refine aR 2 ?_
  refine aE ?_
  refine awp_seq ?_
  refine bE hF fun vr6 h1 hF => ?_
  refine bE hF fun vr6_1 h2 hF => ?_
  refine bE hF fun vr h3 hF => ?_
  refine aD ?_
  refine dR 2 ?_
  refine dC (twin_CheckCells_ok h1) [] [] [] ?_
  refine dR 2 ?_
  refine dC (twin_CheckCells_ok h2) [] [] [] ?_
  refine dR 1 ?_
  refine dC (base_First_ok h3) [] [] [8000] ?_
  refine dR 1 ?_
  refine dE ?_
  refine awp_ret ?_
  exact oF hF [] []

/-! ### beaconfleet/twin.Owed$1 -/
def twin_Owed_1_x1_k : Bool → AEx
  | _ => .normal

def twin_Owed_1_x1_S (qs : List UInt8) (qx : List UInt8) : Bool → St
  | vx => Mem.st ⟨[], [(0, [.d (.str qx)])]⟩ (tl [(3, .v (.one (.d (.bool vx))))]) 1

def twin_Owed_1_x1_I (qs : List UInt8) (qx : List UInt8) : St := Mem.st ⟨[], [(0, [.d (.str qx)])]⟩ (tl [(0, .v (.one (.d (.str qs)))), (1, .v (.one (.box 0 0)))]) 1

theorem twin_Owed_1_x1_ok (qs : List UInt8) (qx : List UInt8) {r} (hF : twin_Owed_1_x1 qs qx = some r) : Awp prog 1 12 (cL (cR (cB f126))) (Out 1 twin_Owed_1_x1_k (twin_Owed_1_x1_S qs qx) r) (twin_Owed_1_x1_I qs qx) := by
  unfold twin_Owed_1_x1 at hF
  refine cE hF (fun h1 hF => ?_) fun h1 hF => ?_
  · refine awp_region ?_
    refine aR 2 ?_
    refine aB h1 ?_
    refine aR 6 ?_
    refine aE ?_
    exact oO hF [] [] rfl
  · refine bE hF fun vr h2 hF => ?_
    refine awp_region ?_
    refine aR 2 ?_
    refine aB h1 ?_
    refine aR 3 ?_
    refine aC (base_Below_ok h2) [] [] [] ?_
    refine aR 2 ?_
    refine aE ?_
    exact oO hF [] [] rfl

def twin_Owed_1_R (qs : List UInt8) (qx : List UInt8) (r : Bool) : TV × Mem := (.v (.one (.d (.bool r))), ⟨[], [(0, [.d (.str qx)])]⟩)

theorem twin_Owed_1_ok {qs : List UInt8} {qx : List UInt8} {r} (hF : twin_Owed_1 qs qx = some r) : Holds prog 126 [.v (.one (.d (.str qs))), .v (.one (.box 0 0))] ⟨[], [(0, [.d (.str qx)])]⟩ (Is (twin_Owed_1_R qs qx r)) := by
  unfold twin_Owed_1 at hF
  refine holds_of_awp hΓ (fn := f126) (c := cB f126) (A := 1) (nx := 1) (by kernel_rfl) (by kernel_rfl) (by kernel_rfl) (by kernel_rfl) (by kernel_rfl) (by kernel_rfl) (lowc_of (by kernel_rfl)) ?_
  show Awp prog 1 12 (cB f126) _ _
  refine awp_seq ?_
  refine awp_region ?_
  refine aR 1 ?_
  refine aE ?_
  refine awp_seq ?_
  refine awp_to (st' := twin_Owed_1_x1_I qs qx) (oT [] []) ?_
  refine bE hF fun vx1 h3 hF => ?_
  refine awp_sub (twin_Owed_1_x1_ok qs qx h3) ?_
  refine awp_ret ?_
  exact oF hF [] []

/-! ### slices.IndexFunc[[]string,string] -/
def slices_IndexFunc_string_string_f1_twin_Owed_1_x1_k : Unit ⊕ Int → AEx
  | .inl _ => .exit 0
  | .inr _ => .ret

def slices_IndexFunc_string_string_f1_twin_Owed_1_x1_S (qs : List (List UInt8)) (qf : List UInt8) : Unit ⊕ Int → St
  | .inl _ => Mem.st ⟨[], [(0, [.d (.str qf)])]⟩ (tl []) 1
  | .inr vx1 => Mem.st ⟨[], [(0, [.d (.str qf)])]⟩ (tl [(4, .v (.one (.d (.int .i64 vx1))))]) 1

def slices_IndexFunc_string_string_f1_twin_Owed_1_x1_H (qs : List (List UInt8)) (qf : List UInt8) : Int → St
  | vx => Mem.st ⟨[], [(0, [.d (.str qf)])]⟩ (tl [(0, .v (.one (.d (.lst (List.map encS qs))))), (1, .v (.one (.fn 126 [0]))), (7, .v (.one (.d (.int .i64 (qs.length : Int))))), (8, .v (.one (.d (.int .i64 vx))))]) 1

theorem slices_IndexFunc_string_string_f1_twin_Owed_1_x1_ok (qs : List (List UInt8)) (qf : List UInt8) (vx : Int) (r : (Int) ⊕ (Unit ⊕ Int)) (hF : slices_IndexFunc_string_string_f1_twin_Owed_1_x1 qs qf vx = some r) : Awp prog 1 19 (cL (cL (cR (cL (cR (cB f173)))))) (Out 1 (kk slices_IndexFunc_string_string_f1_twin_Owed_1_x1_k) (SS (slices_IndexFunc_string_string_f1_twin_Owed_1_x1_H qs qf) (slices_IndexFunc_string_string_f1_twin_Owed_1_x1_S qs qf)) r) (slices_IndexFunc_string_string_f1_twin_Owed_1_x1_H qs qf vx) := by
  unfold slices_IndexFunc_string_string_f1_twin_Owed_1_x1 at hF
  refine awp_seq ?_
  refine awp_region ?_
  refine aR 1 ?_
  refine aE ?_
  refine awp_seq ?_
  refine cE hF (fun h1 hF => ?_) fun h1 hF => ?_
  · refine awp_true (by kernel_rfl) h1 ?_
    refine awp_skip ?_
    refine awp_seq ?_
    refine awp_block ?_
    refine awp_seq ?_
    refine awp_region ?_
    refine aR 2 ?_
    refine aE ?_
    refine awp_seq ?_
    refine bE hF fun vy1 h2 hF => ?_
    refine bE hF fun vr1_1 h3 hF => ?_
    refine awp_region ?_
    refine aR 3 ?_
    refine aX (x_idx encS h2) ?_
    refine aR 1 ?_
    refine aC (twin_Owed_1_ok h3) [] [] [] ?_
    refine aE ?_
    refine cE hF (fun h4 hF => ?_) fun h4 hF => ?_
    · refine awp_true (by kernel_rfl) h4 ?_
      refine awp_seq ?_
      refine awp_region ?_
      refine aR 2 ?_
      refine aE ?_
      refine awp_ret ?_
      exact oO hF [] [] rfl
    · refine awp_false (by kernel_rfl) h4 ?_
      refine awp_skip ?_
      refine awp_region ?_
      refine aR 2 ?_
      refine aE ?_
      exact oO hF [] [] rfl
  · refine awp_false (by kernel_rfl) h1 ?_
    refine awp_exit ?_
    exact oO hF [] [] rfl

def slices_IndexFunc_string_string_f1_twin_Owed_1_R (qs : List (List UInt8)) (qf : List UInt8) (r : Int) : TV × Mem := (.v (.one (.d (.int .i64 r))), ⟨[], [(0, [.d (.str qf)])]⟩)

theorem slices_IndexFunc_string_string_f1_twin_Owed_1_ok {qs : List (List UInt8)} {qf : List UInt8} {r} (hF : slices_IndexFunc_string_string_f1_twin_Owed_1 qs qf = some r) : Holds prog 173 [.v (.one (.d (.lst (List.map encS qs)))), .v (.one (.fn 126 [0]))] ⟨[], [(0, [.d (.str qf)])]⟩ (Is (slices_IndexFunc_string_string_f1_twin_Owed_1_R qs qf r)) := by
  unfold slices_IndexFunc_string_string_f1_twin_Owed_1 at hF
  refine holds_of_awp hΓ (fn := f173) (c := cB f173) (A := 1) (nx := 1) (by kernel_rfl) (by kernel_rfl) (by kernel_rfl) (by kernel_rfl) (by kernel_rfl) (by kernel_rfl) (lowc_of (by kernel_rfl)) ?_
  show Awp prog 1 19 (cB f173) _ _
  refine awp_seq ?_
  refine awp_region ?_
  refine aR 1 ?_
  refine aE ?_
  refine awp_seq ?_
  refine awp_seq ?_
  refine awp_region ?_
  refine aR 1 ?_
  refine aL encS qs ?_
  refine aR 1 ?_
  refine aE ?_
  refine awp_block ?_
  refine awp_to (st' := slices_IndexFunc_string_string_f1_twin_Owed_1_x1_H qs qf 0) (oT [] []) ?_
  refine bE hF fun x h5 hF => ?_
  rcases x with _ | vx1_1
  · refine awp_sub (awp_loop' (slices_IndexFunc_string_string_f1_twin_Owed_1_x1_H qs qf) slices_IndexFunc_string_string_f1_twin_Owed_1_x1_k (slices_IndexFunc_string_string_f1_twin_Owed_1_x1_S qs qf) (by intro x; rcases x with x | x <;> exact fun h => nomatch h) h5 (slices_IndexFunc_string_string_f1_twin_Owed_1_x1_ok qs qf)) ?_
    refine awp_seq ?_
    refine awp_region ?_
    refine aR 1 ?_
    refine aE ?_
    refine awp_ret ?_
    exact oF hF [] []
  · refine awp_sub (awp_loop' (slices_IndexFunc_string_string_f1_twin_Owed_1_x1_H qs qf) slices_IndexFunc_string_string_f1_twin_Owed_1_x1_k (slices_IndexFunc_string_string_f1_twin_Owed_1_x1_S qs qf) (by intro x; rcases x with x | x <;> exact fun h => nomatch h) h5 (slices_IndexFunc_string_string_f1_twin_Owed_1_x1_ok qs qf)) ?_
    exact oF hF [] []

/-! ### slices.ContainsFunc[[]string,string] -/
def slices_ContainsFunc_string_string_f1_twin_Owed_1_R (qs : List (List UInt8)) (qf : List UInt8) (r : Bool) : TV × Mem := (.v (.one (.d (.bool r))), ⟨[], [(0, [.d (.str qf)])]⟩)

theorem slices_ContainsFunc_string_string_f1_twin_Owed_1_ok {qs : List (List UInt8)} {qf : List UInt8} {r} (hF : slices_ContainsFunc_string_string_f1_twin_Owed_1 qs qf = some r) : Holds prog 106 [.v (.one (.d (.lst (List.map encS qs)))), .v (.one (.fn 126 [0]))] ⟨[], [(0, [.d (.str qf)])]⟩ (Is (slices_ContainsFunc_string_string_f1_twin_Owed_1_R qs qf r)) := by
  unfold slices_ContainsFunc_string_string_f1_twin_Owed_1 at hF
  refine holds_of_awp hΓ (fn := f106) (c := cB f106) (A := 1) (nx := 1) (by kernel_rfl) (by kernel_rfl) (by kernel_rfl) (by kernel_rfl) (by kernel_rfl) (by kernel_rfl) (lowc_of (by kernel_rfl)) ?_
  show Awp prog 1 9 (cB f106) _ _
  refine awp_seq ?_
  refine awp_region ?_
  refine aR 1 ?_
  refine aE ?_
  refine awp_seq ?_
  refine bE hF fun vr h1 hF => ?_
  refine awp_region ?_
  refine aR 2 ?_
  refine aC (slices_IndexFunc_string_string_f1_twin_Owed_1_ok h1) [] [] [] ?_
  refine aR 2 ?_
  refine aE ?_
  refine awp_ret ?_
  exact oF hF [] []

/-! ### beaconfleet/twin.Owed$2 -/
def twin_Owed_2_R (qp : api_Prop) (qx : List UInt8) (r : Bool) : TV × Mem := (.v (.one (.d (.bool r))), ⟨[], [(0, [.d (.str qx)])]⟩)

theorem twin_Owed_2_ok {qp : api_Prop} {qx : List UInt8} {r} (hF : twin_Owed_2 qp qx = some r) : Holds prog 127 [.v (.agg [.d (.str qp.Name), .d (.int .i64 qp.Value.Kind), .d (.bool qp.Value.Flag), .d (.int .i64 qp.Value.Number), .d (.str qp.Value.Words)]), .v (.one (.box 0 0))] ⟨[], [(0, [.d (.str qx)])]⟩ (Is (twin_Owed_2_R qp qx r)) := by
  unfold twin_Owed_2 at hF
  refine holds_of_awp hΓ (fn := f127) (c := cB f127) (A := 1) (nx := 1) (by kernel_rfl) (by kernel_rfl) (by kernel_rfl) (by kernel_rfl) (by kernel_rfl) (by kernel_rfl) (lowc_of (by kernel_rfl)) ?_
  show Awp prog 1 8 (cB f127) _ _
  refine awp_seq ?_
  refine awp_region ?_
  refine aR 2 ?_
  refine aE ?_
  refine awp_seq ?_
  refine bE hF fun vr h1 hF => ?_
  refine awp_region ?_
  refine aR 3 ?_
  refine aC (base_Below_ok h1) [] [] [] ?_
  refine aR 1 ?_
  refine aE ?_
  refine awp_ret ?_
  exact oF hF [] []

/-! ### slices.IndexFunc[[]beaconfleet/api.Prop,beaconfleet/api.Prop] -/
def slices_IndexFunc_api_Prop_api_Prop_f1_twin_Owed_2_x1_k : Unit ⊕ Int → AEx
  | .inl _ => .exit 0
  | .inr _ => .ret

def slices_IndexFunc_api_Prop_api_Prop_f1_twin_Owed_2_x1_S (qs : List api_Prop) (qf : List UInt8) : Unit ⊕ Int → St
  | .inl _ => Mem.st ⟨[], [(0, [.d (.str qf)])]⟩ (tl []) 1
  | .inr vx1 => Mem.st ⟨[], [(0, [.d (.str qf)])]⟩ (tl [(4, .v (.one (.d (.int .i64 vx1))))]) 1

def slices_IndexFunc_api_Prop_api_Prop_f1_twin_Owed_2_x1_H (qs : List api_Prop) (qf : List UInt8) : Int → St
  | vx => Mem.st ⟨[], [(0, [.d (.str qf)])]⟩ (tl [(0, .v (.one (.d (.lst (List.map api_Prop.enc qs))))), (1, .v (.one (.fn 127 [0]))), (7, .v (.one (.d (.int .i64 (qs.length : Int))))), (8, .v (.one (.d (.int .i64 vx))))]) 1

theorem slices_IndexFunc_api_Prop_api_Prop_f1_twin_Owed_2_x1_ok (qs : List api_Prop) (qf : List UInt8) (vx : Int) (r : (Int) ⊕ (Unit ⊕ Int)) (hF : slices_IndexFunc_api_Prop_api_Prop_f1_twin_Owed_2_x1 qs qf vx = some r) : Awp prog 1 19 (cL (cL (cR (cL (cR (cB f160)))))) (Out 1 (kk slices_IndexFunc_api_Prop_api_Prop_f1_twin_Owed_2_x1_k) (SS (slices_IndexFunc_api_Prop_api_Prop_f1_twin_Owed_2_x1_H qs qf) (slices_IndexFunc_api_Prop_api_Prop_f1_twin_Owed_2_x1_S qs qf)) r) (slices_IndexFunc_api_Prop_api_Prop_f1_twin_Owed_2_x1_H qs qf vx) := by
  unfold slices_IndexFunc_api_Prop_api_Prop_f1_twin_Owed_2_x1 at hF
  refine awp_seq ?_
  refine awp_region ?_
  refine aR 1 ?_
  refine aE ?_
  refine awp_seq ?_
  refine cE hF (fun h1 hF => ?_) fun h1 hF => ?_
  · refine awp_true (by kernel_rfl) h1 ?_
    refine awp_skip ?_
    refine awp_seq ?_
    refine awp_block ?_
    refine awp_seq ?_
    refine awp_region ?_
    refine aR 2 ?_
    refine aE ?_
    refine awp_seq ?_
    refine bE hF fun vy1 h2 hF => ?_
    refine bE hF fun vr1_1 h3 hF => ?_
    refine awp_region ?_
    refine aR 3 ?_
    refine aX (x_idx api_Prop.enc h2) ?_
    refine aR 1 ?_
    refine aC (twin_Owed_2_ok h3) [] [] [] ?_
    refine aE ?_
    refine cE hF (fun h4 hF => ?_) fun h4 hF => ?_
    · refine awp_true (by kernel_rfl) h4 ?_
      refine awp_seq ?_
      refine awp_region ?_
      refine aR 2 ?_
      refine aE ?_
      refine awp_ret ?_
      exact oO hF [] [] rfl
    · refine awp_false (by kernel_rfl) h4 ?_
      refine awp_skip ?_
      refine awp_region ?_
      refine aR 2 ?_
      refine aE ?_
      exact oO hF [] [] rfl
  · refine awp_false (by kernel_rfl) h1 ?_
    refine awp_exit ?_
    exact oO hF [] [] rfl

def slices_IndexFunc_api_Prop_api_Prop_f1_twin_Owed_2_R (qs : List api_Prop) (qf : List UInt8) (r : Int) : TV × Mem := (.v (.one (.d (.int .i64 r))), ⟨[], [(0, [.d (.str qf)])]⟩)

theorem slices_IndexFunc_api_Prop_api_Prop_f1_twin_Owed_2_ok {qs : List api_Prop} {qf : List UInt8} {r} (hF : slices_IndexFunc_api_Prop_api_Prop_f1_twin_Owed_2 qs qf = some r) : Holds prog 160 [.v (.one (.d (.lst (List.map api_Prop.enc qs)))), .v (.one (.fn 127 [0]))] ⟨[], [(0, [.d (.str qf)])]⟩ (Is (slices_IndexFunc_api_Prop_api_Prop_f1_twin_Owed_2_R qs qf r)) := by
  unfold slices_IndexFunc_api_Prop_api_Prop_f1_twin_Owed_2 at hF
  refine holds_of_awp hΓ (fn := f160) (c := cB f160) (A := 1) (nx := 1) (by kernel_rfl) (by kernel_rfl) (by kernel_rfl) (by kernel_rfl) (by kernel_rfl) (by kernel_rfl) (lowc_of (by kernel_rfl)) ?_
  show Awp prog 1 19 (cB f160) _ _
  refine awp_seq ?_
  refine awp_region ?_
  refine aR 1 ?_
  refine aE ?_
  refine awp_seq ?_
  refine awp_seq ?_
  refine awp_region ?_
  refine aR 1 ?_
  refine aL api_Prop.enc qs ?_
  refine aR 1 ?_
  refine aE ?_
  refine awp_block ?_
  refine awp_to (st' := slices_IndexFunc_api_Prop_api_Prop_f1_twin_Owed_2_x1_H qs qf 0) (oT [] []) ?_
  refine bE hF fun x h5 hF => ?_
  rcases x with _ | vx1_1
  · refine awp_sub (awp_loop' (slices_IndexFunc_api_Prop_api_Prop_f1_twin_Owed_2_x1_H qs qf) slices_IndexFunc_api_Prop_api_Prop_f1_twin_Owed_2_x1_k (slices_IndexFunc_api_Prop_api_Prop_f1_twin_Owed_2_x1_S qs qf) (by intro x; rcases x with x | x <;> exact fun h => nomatch h) h5 (slices_IndexFunc_api_Prop_api_Prop_f1_twin_Owed_2_x1_ok qs qf)) ?_
    refine awp_seq ?_
    refine awp_region ?_
    refine aR 1 ?_
    refine aE ?_
    refine awp_ret ?_
    exact oF hF [] []
  · refine awp_sub (awp_loop' (slices_IndexFunc_api_Prop_api_Prop_f1_twin_Owed_2_x1_H qs qf) slices_IndexFunc_api_Prop_api_Prop_f1_twin_Owed_2_x1_k (slices_IndexFunc_api_Prop_api_Prop_f1_twin_Owed_2_x1_S qs qf) (by intro x; rcases x with x | x <;> exact fun h => nomatch h) h5 (slices_IndexFunc_api_Prop_api_Prop_f1_twin_Owed_2_x1_ok qs qf)) ?_
    exact oF hF [] []

/-! ### slices.ContainsFunc[[]beaconfleet/api.Prop,beaconfleet/api.Prop] -/
def slices_ContainsFunc_api_Prop_api_Prop_f1_twin_Owed_2_R (qs : List api_Prop) (qf : List UInt8) (r : Bool) : TV × Mem := (.v (.one (.d (.bool r))), ⟨[], [(0, [.d (.str qf)])]⟩)

theorem slices_ContainsFunc_api_Prop_api_Prop_f1_twin_Owed_2_ok {qs : List api_Prop} {qf : List UInt8} {r} (hF : slices_ContainsFunc_api_Prop_api_Prop_f1_twin_Owed_2 qs qf = some r) : Holds prog 93 [.v (.one (.d (.lst (List.map api_Prop.enc qs)))), .v (.one (.fn 127 [0]))] ⟨[], [(0, [.d (.str qf)])]⟩ (Is (slices_ContainsFunc_api_Prop_api_Prop_f1_twin_Owed_2_R qs qf r)) := by
  unfold slices_ContainsFunc_api_Prop_api_Prop_f1_twin_Owed_2 at hF
  refine holds_of_awp hΓ (fn := f93) (c := cB f93) (A := 1) (nx := 1) (by kernel_rfl) (by kernel_rfl) (by kernel_rfl) (by kernel_rfl) (by kernel_rfl) (by kernel_rfl) (lowc_of (by kernel_rfl)) ?_
  show Awp prog 1 9 (cB f93) _ _
  refine awp_seq ?_
  refine awp_region ?_
  refine aR 1 ?_
  refine aE ?_
  refine awp_seq ?_
  refine bE hF fun vr h1 hF => ?_
  refine awp_region ?_
  refine aR 2 ?_
  refine aC (slices_IndexFunc_api_Prop_api_Prop_f1_twin_Owed_2_ok h1) [] [] [] ?_
  refine aR 2 ?_
  refine aE ?_
  refine awp_ret ?_
  exact oF hF [] []

/-! ### beaconfleet/twin.Owed -/
def twin_Owed_x3_k : Bool → AEx
  | _ => .normal

def twin_Owed_x3_S (qx : api_Twin) (vr : List api_Prop) (vr2 : List api_Prop) (vx : List (List UInt8)) (vx1 : Int) (vy1 : api_Cell) : Bool → St
  | vx4 => Mem.st ⟨[(2, ⟨9, 1, List.map encS vx⟩)], [(0, [.d (.lst (List.map api_Cell.enc qx.Desired)), .d (.lst (List.map api_Cell.enc qx.Reported))]), (1, [.d (.str vy1.Prop_.Name), .d (.int .i64 vy1.Prop_.Value.Kind), .d (.bool vy1.Prop_.Value.Flag), .d (.int .i64 vy1.Prop_.Value.Number), .d (.str vy1.Prop_.Value.Words), .d (.int .i64 vy1.Stamp.At), .d (.str vy1.Stamp.By), .d (.int .i64 vy1.Stamp.No)])]⟩ (tl [(1, .v (.one (.box 0 0))), (5, .v (.one (.d (.lst (List.map api_Prop.enc vr))))), (6, .v (.one (.d (.lst (List.map api_Prop.enc vr2))))), (7, .v (.one (.own 2 none))), (9, .v (.one (.box 1 0))), (27, .v (.one (.d (.lst (List.map api_Cell.enc qx.Desired))))), (28, .v (.one (.d (.int .i64 (qx.Desired.length : Int))))), (29, .v (.one (.d (.int .i64 vx1)))), (44, .v (.one (.d (.bool vx4))))]) 3

def twin_Owed_x3_I (qx : api_Twin) (vr : List api_Prop) (vr2 : List api_Prop) (vx : List (List UInt8)) (vx1 : Int) (vy1 : api_Cell) : St := Mem.st ⟨[(2, ⟨9, 1, List.map encS vx⟩)], [(0, [.d (.lst (List.map api_Cell.enc qx.Desired)), .d (.lst (List.map api_Cell.enc qx.Reported))]), (1, [.d (.str vy1.Prop_.Name), .d (.int .i64 vy1.Prop_.Value.Kind), .d (.bool vy1.Prop_.Value.Flag), .d (.int .i64 vy1.Prop_.Value.Number), .d (.str vy1.Prop_.Value.Words), .d (.int .i64 vy1.Stamp.At), .d (.str vy1.Stamp.By), .d (.int .i64 vy1.Stamp.No)])]⟩ (tl [(1, .v (.one (.box 0 0))), (5, .v (.one (.d (.lst (List.map api_Prop.enc vr))))), (6, .v (.one (.d (.lst (List.map api_Prop.enc vr2))))), (7, .v (.one (.own 2 none))), (9, .v (.one (.box 1 0))), (27, .v (.one (.d (.lst (List.map api_Cell.enc qx.Desired))))), (28, .v (.one (.d (.int .i64 (qx.Desired.length : Int))))), (29, .v (.one (.d (.int .i64 vx1))))]) 3

theorem twin_Owed_x3_ok (qx : api_Twin) (vr : List api_Prop) (vr2 : List api_Prop) (vx : List (List UInt8)) (vx1 : Int) (vy1 : api_Cell) {r} (hF : twin_Owed_x3 qx vy1 = some r) : Awp prog 0 94 (cL (cR (cL (cL (cR (cR (cL (cL (cR (cL (cR (cR (cR (cR (cB f58))))))))))))))) (Out 0 twin_Owed_x3_k (twin_Owed_x3_S qx vr vr2 vx vx1 vy1) r) (twin_Owed_x3_I qx vr vr2 vx vx1 vy1) := by
  unfold twin_Owed_x3 at hF
  refine cE hF (fun h7 hF => ?_) fun h7 hF => ?_
  · refine bE hF fun vr1_2 h8 hF => ?_
    refine awp_region ?_
    refine aR 4 ?_
    refine aB h7 ?_
    refine aR 4 ?_
    refine aC (twin_hidden_f2_twin_every_ok h8) [] [] [] ?_
    refine aR 2 ?_
    refine aE ?_
    exact oO hF [] [] rfl
  · refine awp_region ?_
    refine aR 4 ?_
    refine aB h7 ?_
    refine aR 7 ?_
    refine aE ?_
    exact oO hF [] [] rfl

def twin_Owed_x2_k : (List (List UInt8)) → AEx
  | _ => .normal

def twin_Owed_x2_S (qx : api_Twin) (vr : List api_Prop) (vr2 : List api_Prop) (vx : List (List UInt8)) (vx1 : Int) : (List (List UInt8)) → St
  | vx5 => Mem.st ⟨[(1, ⟨9, 1, List.map encS vx5⟩)], [(0, [.d (.lst (List.map api_Cell.enc qx.Desired)), .d (.lst (List.map api_Cell.enc qx.Reported))])]⟩ (tl [(1, .v (.one (.box 0 0))), (5, .v (.one (.d (.lst (List.map api_Prop.enc vr))))), (6, .v (.one (.d (.lst (List.map api_Prop.enc vr2))))), (7, .v (.one (.own 1 none))), (27, .v (.one (.d (.lst (List.map api_Cell.enc qx.Desired))))), (28, .v (.one (.d (.int .i64 (qx.Desired.length : Int))))), (29, .v (.one (.d (.int .i64 vx1))))]) 2

def twin_Owed_x2_I (qx : api_Twin) (vr : List api_Prop) (vr2 : List api_Prop) (vx : List (List UInt8)) (vx1 : Int) : St := Mem.st ⟨[(1, ⟨9, 1, List.map encS vx⟩)], [(0, [.d (.lst (List.map api_Cell.enc qx.Desired)), .d (.lst (List.map api_Cell.enc qx.Reported))])]⟩ (tl [(1, .v (.one (.box 0 0))), (5, .v (.one (.d (.lst (List.map api_Prop.enc vr))))), (6, .v (.one (.d (.lst (List.map api_Prop.enc vr2))))), (7, .v (.one (.own 1 none))), (27, .v (.one (.d (.lst (List.map api_Cell.enc qx.Desired))))), (28, .v (.one (.d (.int .i64 (qx.Desired.length : Int))))), (29, .v (.one (.d (.int .i64 vx1))))]) 2

theorem twin_Owed_x2_ok (qx : api_Twin) (vr : List api_Prop) (vr2 : List api_Prop) (vx : List (List UInt8)) (vx1 : Int) {r} (hF : twin_Owed_x2 qx vx vx1 = some r) : Awp prog 0 94 (cL (cR (cR (cL (cL (cR (cL (cR (cR (cR (cR (cB f58)))))))))))) (Out 0 twin_Owed_x2_k (twin_Owed_x2_S qx vr vr2 vx vx1) r) (twin_Owed_x2_I qx vr vr2 vx vx1) := by
  unfold twin_Owed_x2 at hF
  refine awp_block ?_
  refine awp_seq ?_
  refine bE hF fun vy1 h6 hF => ?_
  refine awp_region ?_
  refine aX (x_idx api_Cell.enc h6) ?_
  refine aR 3 ?_
  refine aE ?_
  refine awp_seq ?_
  refine awp_to (st' := twin_Owed_x3_I qx vr vr2 vx vx1 vy1) (oT [(1, 2002), (2, 1)] []) ?_
  refine bE hF fun vx4_1 h9 hF => ?_
  refine awp_sub (twin_Owed_x3_ok qx vr vr2 vx vx1 vy1 h9) ?_
  refine cE hF (fun h10 hF => ?_) fun h10 hF => ?_
  · refine awp_true (by kernel_rfl) h10 ?_
    refine gE hF fun h11 hF => ?_
    refine awp_region ?_
    refine aR 5 ?_
    refine aX (x_app encS 2 h11) ?_
    refine aR 1 ?_
    refine aE ?_
    exact oO hF [(1, 5003)] [] rfl
  · refine awp_false (by kernel_rfl) h10 ?_
    refine awp_skip ?_
    exact oO hF [(1, 2)] [] rfl

def twin_Owed_x1_k : (List (List UInt8)) → AEx
  | _ => .exit 0

def twin_Owed_x1_S (qx : api_Twin) (vr : List api_Prop) (vr2 : List api_Prop) : (List (List UInt8)) → St
  | vx6 => Mem.st ⟨[(0, ⟨9, 1, List.map encS vx6⟩)], []⟩ (tl [(5, .v (.one (.d (.lst (List.map api_Prop.enc vr))))), (6, .v (.one (.d (.lst (List.map api_Prop.enc vr2))))), (7, .v (.one (.own 0 none)))]) 1

def twin_Owed_x1_H (qx : api_Twin) (vr : List api_Prop) (vr2 : List api_Prop) : (List (List UInt8)) × Int → St
  | (vx, vx1) => Mem.st ⟨[(1, ⟨9, 1, List.map encS vx⟩)], [(0, [.d (.lst (List.map api_Cell.enc qx.Desired)), .d (.lst (List.map api_Cell.enc qx.Reported))])]⟩ (tl [(1, .v (.one (.box 0 0))), (5, .v (.one (.d (.lst (List.map api_Prop.enc vr))))), (6, .v (.one (.d (.lst (List.map api_Prop.enc vr2))))), (7, .v (.one (.own 1 none))), (27, .v (.one (.d (.lst (List.map api_Cell.enc qx.Desired))))), (28, .v (.one (.d (.int .i64 (qx.Desired.length : Int))))), (29, .v (.one (.d (.int .i64 vx1))))]) 2

theorem twin_Owed_x1_ok (qx : api_Twin) (vr : List api_Prop) (vr2 : List api_Prop) (s : (List (List UInt8)) × Int) (r : ((List (List UInt8)) × Int) ⊕ ((List (List UInt8)))) (hF : twin_Owed_x1 qx s = some r) : Awp prog 0 94 (cL (cL (cR (cL (cR (cR (cR (cR (cB f58))))))))) (Out 0 (kk twin_Owed_x1_k) (SS (twin_Owed_x1_H qx vr vr2) (twin_Owed_x1_S qx vr vr2)) r) (twin_Owed_x1_H qx vr vr2 s) := by
  obtain ⟨vx, vx1⟩ := s
  unfold twin_Owed_x1 at hF
  refine awp_seq ?_
  refine awp_region ?_
  refine aR 1 ?_
  refine aE ?_
  refine awp_seq ?_
  refine cE hF (fun h5 hF => ?_) fun h5 hF => ?_
  · refine awp_true (by kernel_rfl) h5 ?_
    refine awp_skip ?_
    refine awp_seq ?_
    refine awp_to (st' := twin_Owed_x2_I qx vr vr2 vx vx1) (oT [] []) ?_
    refine bE hF fun vx5_1 h12 hF => ?_
    refine awp_sub (twin_Owed_x2_ok qx vr vr2 vx vx1 h12) ?_
    refine awp_region ?_
    refine aR 2 ?_
    refine aE ?_
    exact oO hF [] [] rfl
  · refine awp_false (by kernel_rfl) h5 ?_
    refine awp_exit ?_
    exact oO hF [(0, 1)] [] rfl

def twin_Owed_x6_k : Bool → AEx
  | _ => .normal

def twin_Owed_x6_S (vr : List api_Prop) (vr2 : List api_Prop) (vx6_1 : List (List UInt8)) (vr1_3 : List (List UInt8)) (vx7 : List api_Change) (vx8 : Int) (vy3 : List UInt8) (vr5 : api_Value) (vr6 : api_Value) : Bool → St
  | vx11 => Mem.st ⟨[(3, ⟨9, 1, List.map encS vx6_1⟩), (4, ⟨79, 9, List.map api_Change.enc vx7⟩)], [(0, [.d (.str vy3)]), (1, [.d (.int .i64 vr5.Kind), .d (.bool vr5.Flag), .d (.int .i64 vr5.Number), .d (.str vr5.Words)]), (2, [.d (.int .i64 vr6.Kind), .d (.bool vr6.Flag), .d (.int .i64 vr6.Number), .d (.str vr6.Words)])]⟩ (tl [(5, .v (.one (.d (.lst (List.map api_Prop.enc vr))))), (6, .v (.one (.d (.lst (List.map api_Prop.enc vr2))))), (7, .v (.one (.own 3 none))), (10, .v (.one (.own 4 none))), (12, .v (.one (.box 0 0))), (13, .v (.one (.box 1 0))), (14, .v (.one (.box 2 0))), (55, .v (.one (.d (.lst (List.map encS vr1_3))))), (56, .v (.one (.d (.int .i64 (vr1_3.length : Int))))), (57, .v (.one (.d (.int .i64 vx8)))), (81, .v (.one (.d (.bool vx11))))]) 5

def twin_Owed_x6_I (vr : List api_Prop) (vr2 : List api_Prop) (vx6_1 : List (List UInt8)) (vr1_3 : List (List UInt8)) (vx7 : List api_Change) (vx8 : Int) (vy3 : List UInt8) (vr5 : api_Value) (vr6 : api_Value) : St := Mem.st ⟨[(3, ⟨9, 1, List.map encS vx6_1⟩), (4, ⟨79, 9, List.map api_Change.enc vx7⟩)], [(0, [.d (.str vy3)]), (1, [.d (.int .i64 vr5.Kind), .d (.bool vr5.Flag), .d (.int .i64 vr5.Number), .d (.str vr5.Words)]), (2, [.d (.int .i64 vr6.Kind), .d (.bool vr6.Flag), .d (.int .i64 vr6.Number), .d (.str vr6.Words)])]⟩ (tl [(5, .v (.one (.d (.lst (List.map api_Prop.enc vr))))), (6, .v (.one (.d (.lst (List.map api_Prop.enc vr2))))), (7, .v (.one (.own 3 none))), (10, .v (.one (.own 4 none))), (12, .v (.one (.box 0 0))), (13, .v (.one (.box 1 0))), (14, .v (.one (.box 2 0))), (55, .v (.one (.d (.lst (List.map encS vr1_3))))), (56, .v (.one (.d (.int .i64 (vr1_3.length : Int))))), (57, .v (.one (.d (.int .i64 vx8))))]) 5

theorem twin_Owed_x6_ok (vr : List api_Prop) (vr2 : List api_Prop) (vx6_1 : List (List UInt8)) (vr1_3 : List (List UInt8)) (vx7 : List api_Change) (vx8 : Int) (vy3 : List UInt8) (vr5 : api_Value) (vr6 : api_Value) {r} (hF : twin_Owed_x6 vr vx6_1 vy3 vr6 = some r) : Awp prog 0 94 (cL (cL (cR (cR (cL (cL (cR (cR (cL (cL (cR (cL (cR (cR (cR (cR (cR (cR (cB f58))))))))))))))))))) (Out 0 twin_Owed_x6_k (twin_Owed_x6_S vr vr2 vx6_1 vr1_3 vx7 vx8 vy3 vr5 vr6) r) (twin_Owed_x6_I vr vr2 vx6_1 vr1_3 vx7 vx8 vy3 vr5 vr6) := by
  unfold twin_Owed_x6 at hF
  refine cE hF (fun h19 hF => ?_) fun h19 hF => ?_
  · refine bE hF fun vr1_6 h20 hF => ?_
    refine cE hF (fun h21 hF => ?_) fun h21 hF => ?_
    · refine bE hF fun vr1_7 h22 hF => ?_
      refine awp_region ?_
      refine aR 2 ?_
      refine aB h19 ?_
      refine aR 3 ?_
      refine aC (slices_ContainsFunc_string_string_f1_twin_Owed_1_ok h20) [] [] [3] ?_
      refine aB h21 ?_
      refine aR 4 ?_
      refine aC (slices_ContainsFunc_api_Prop_api_Prop_f1_twin_Owed_2_ok h22) [] [] [] ?_
      refine aR 2 ?_
      refine aE ?_
      exact oO hF [] [] rfl
    · refine awp_region ?_
      refine aR 2 ?_
      refine aB h19 ?_
      refine aR 3 ?_
      refine aC (slices_ContainsFunc_string_string_f1_twin_Owed_1_ok h20) [] [] [3] ?_
      refine aB h21 ?_
      refine aR 7 ?_
      refine aE ?_
      exact oO hF [] [] rfl
  · refine awp_region ?_
    refine aR 2 ?_
    refine aB h19 ?_
    refine aR 12 ?_
    refine aE ?_
    exact oO hF [] [] rfl

def twin_Owed_x5_k : (List api_Change) → AEx
  | _ => .normal

def twin_Owed_x5_S (vr : List api_Prop) (vr2 : List api_Prop) (vx6_1 : List (List UInt8)) (vr1_3 : List (List UInt8)) (vx7 : List api_Change) (vx8 : Int) : (List api_Change) → St
  | vx12 => Mem.st ⟨[(0, ⟨9, 1, List.map encS vx6_1⟩), (1, ⟨79, 9, List.map api_Change.enc vx12⟩)], []⟩ (tl [(5, .v (.one (.d (.lst (List.map api_Prop.enc vr))))), (6, .v (.one (.d (.lst (List.map api_Prop.enc vr2))))), (7, .v (.one (.own 0 none))), (10, .v (.one (.own 1 none))), (55, .v (.one (.d (.lst (List.map encS vr1_3))))), (56, .v (.one (.d (.int .i64 (vr1_3.length : Int))))), (57, .v (.one (.d (.int .i64 vx8))))]) 2

def twin_Owed_x5_I (vr : List api_Prop) (vr2 : List api_Prop) (vx6_1 : List (List UInt8)) (vr1_3 : List (List UInt8)) (vx7 : List api_Change) (vx8 : Int) : St := Mem.st ⟨[(0, ⟨9, 1, List.map encS vx6_1⟩), (1, ⟨79, 9, List.map api_Change.enc vx7⟩)], []⟩ (tl [(5, .v (.one (.d (.lst (List.map api_Prop.enc vr))))), (6, .v (.one (.d (.lst (List.map api_Prop.enc vr2))))), (7, .v (.one (.own 0 none))), (10, .v (.one (.own 1 none))), (55, .v (.one (.d (.lst (List.map encS vr1_3))))), (56, .v (.one (.d (.int .i64 (vr1_3.length : Int))))), (57, .v (.one (.d (.int .i64 vx8))))]) 2

theorem twin_Owed_x5_ok (vr : List api_Prop) (vr2 : List api_Prop) (vx6_1 : List (List UInt8)) (vr1_3 : List (List UInt8)) (vx7 : List api_Change) (vx8 : Int) {r} (hF : twin_Owed_x5 vr vr2 vx6_1 vr1_3 vx7 vx8 = some r) : Awp prog 0 94 (cL (cR (cR (cL (cL (cR (cL (cR (cR (cR (cR (cR (cR (cB f58)))))))))))))) (Out 0 twin_Owed_x5_k (twin_Owed_x5_S vr vr2 vx6_1 vr1_3 vx7 vx8) r) (twin_Owed_x5_I vr vr2 vx6_1 vr1_3 vx7 vx8) := by
  unfold twin_Owed_x5 at hF
  refine awp_block ?_
  refine awp_seq ?_
  refine bE hF fun vy3 h16 hF => ?_
  refine awp_region ?_
  refine aX (x_idx encS h16) ?_
  refine aR 3 ?_
  refine aE ?_
  refine awp_seq ?_
  refine bE hF fun vr5 h17 hF => ?_
  refine bE hF fun vr6 h18 hF => ?_
  refine aD ?_
  refine dR 2 ?_
  refine dC (twin_valueOf_ok h17) [] [] [] ?_
  refine dR 2 ?_
  refine dC (twin_valueOf_ok h18) [] [] [] ?_
  refine dR 4 ?_
  refine dE ?_
  refine awp_seq ?_
  refine awp_seq ?_
  refine awp_to (st' := twin_Owed_x6_I vr vr2 vx6_1 vr1_3 vx7 vx8 vy3 vr5 vr6) (oT [(0, 2002), (1, 10002), (2, 11002), (3, 0), (4, 1)] []) ?_
  refine bE hF fun vx11_1 h23 hF => ?_
  refine awp_sub (twin_Owed_x6_ok vr vr2 vx6_1 vr1_3 vx7 vx8 vy3 vr5 vr6 h23) ?_
  refine cE hF (fun h24 hF => ?_) fun h24 hF => ?_
  · refine awp_true (by kernel_rfl) h24 ?_
    refine awp_exit ?_
    exact oO hF [(0, 3), (1, 4)] [] rfl
  · refine awp_false (by kernel_rfl) h24 ?_
    refine awp_skip ?_
    refine awp_seq ?_
    refine awp_region ?_
    refine aR 2 ?_
    refine aS (does_eqS (op := .neq) (xs := [.int .i64 vr5.Kind, .bool vr5.Flag, .int .i64 vr5.Number, .str vr5.Words]) (ys := [.int .i64 vr6.Kind, .bool vr6.Flag, .int .i64 vr6.Number, .str vr6.Words]) (b := (decide (vr5.Kind = vr6.Kind) && ((vr5.Flag == vr6.Flag) && (decide (vr5.Number = vr6.Number) && (decide (vr5.Words = vr6.Words) && true))))) (c := (!(decide (vr5.Kind = vr6.Kind) && ((vr5.Flag == vr6.Flag) && (decide (vr5.Number = vr6.Number) && (decide (vr5.Words = vr6.Words) && true)))))) rfl (.inr ⟨rfl, rfl⟩) (by kernel_rfl) (by kernel_rfl) (by kernel_rfl) (by kernel_rfl) (by kernel_rfl) (by kernel_rfl)) ?_
    refine aE ?_
    refine cE hF (fun h25 hF => ?_) fun h25 hF => ?_
    · refine awp_true (by kernel_rfl) h25 ?_
      refine gE hF fun h26 hF => ?_
      refine awp_region ?_
      refine aR 6 ?_
      refine aX (x_app api_Change.enc 4 h26) ?_
      refine aR 1 ?_
      refine aE ?_
      exact oO hF [(0, 3), (1, 9005)] [] rfl
    · refine awp_false (by kernel_rfl) h25 ?_
      refine awp_skip ?_
      exact oO hF [(0, 3), (1, 4)] [] rfl

def twin_Owed_x4_k : (List api_Change) → AEx
  | _ => .exit 2

def twin_Owed_x4_S (vr : List api_Prop) (vr2 : List api_Prop) (vx6_1 : List (List UInt8)) (vr1_3 : List (List UInt8)) : (List api_Change) → St
  | vx13 => Mem.st ⟨[(0, ⟨79, 9, List.map api_Change.enc vx13⟩)], []⟩ (tl [(10, .v (.one (.own 0 none)))]) 1

def twin_Owed_x4_H (vr : List api_Prop) (vr2 : List api_Prop) (vx6_1 : List (List UInt8)) (vr1_3 : List (List UInt8)) : (List api_Change) × Int → St
  | (vx7, vx8) => Mem.st ⟨[(0, ⟨9, 1, List.map encS vx6_1⟩), (1, ⟨79, 9, List.map api_Change.enc vx7⟩)], []⟩ (tl [(5, .v (.one (.d (.lst (List.map api_Prop.enc vr))))), (6, .v (.one (.d (.lst (List.map api_Prop.enc vr2))))), (7, .v (.one (.own 0 none))), (10, .v (.one (.own 1 none))), (55, .v (.one (.d (.lst (List.map encS vr1_3))))), (56, .v (.one (.d (.int .i64 (vr1_3.length : Int))))), (57, .v (.one (.d (.int .i64 vx8))))]) 2

theorem twin_Owed_x4_ok (vr : List api_Prop) (vr2 : List api_Prop) (vx6_1 : List (List UInt8)) (vr1_3 : List (List UInt8)) (s : (List api_Change) × Int) (r : ((List api_Change) × Int) ⊕ ((List api_Change))) (hF : twin_Owed_x4 vr vr2 vx6_1 vr1_3 s = some r) : Awp prog 0 94 (cL (cL (cR (cL (cR (cR (cR (cR (cR (cR (cB f58))))))))))) (Out 0 (kk twin_Owed_x4_k) (SS (twin_Owed_x4_H vr vr2 vx6_1 vr1_3) (twin_Owed_x4_S vr vr2 vx6_1 vr1_3)) r) (twin_Owed_x4_H vr vr2 vx6_1 vr1_3 s) := by
  obtain ⟨vx7, vx8⟩ := s
  unfold twin_Owed_x4 at hF
  refine awp_seq ?_
  refine awp_region ?_
  refine aR 1 ?_
  refine aE ?_
  refine awp_seq ?_
  refine cE hF (fun h15 hF => ?_) fun h15 hF => ?_
  · refine awp_true (by kernel_rfl) h15 ?_
    refine awp_skip ?_
    refine awp_seq ?_
    refine awp_to (st' := twin_Owed_x5_I vr vr2 vx6_1 vr1_3 vx7 vx8) (oT [] []) ?_
    refine bE hF fun vx12_1 h27 hF => ?_
    refine awp_sub (twin_Owed_x5_ok vr vr2 vx6_1 vr1_3 vx7 vx8 h27) ?_
    refine awp_region ?_
    refine aR 2 ?_
    refine aE ?_
    exact oO hF [] [] rfl
  · refine awp_false (by kernel_rfl) h15 ?_
    refine awp_exit ?_
    exact oO hF [(0, 1)] [] rfl

def twin_Owed_R (qx : api_Twin) (r : (List api_Change) × Int) : TV × Mem := (.tup [.one (.own 0 none), .one (.d (.int .i64 r.2))], ⟨[(0, ⟨79, 9, List.map api_Change.enc r.1⟩)], []⟩)

theorem twin_Owed_ok {qx : api_Twin} {r} (hF : twin_Owed qx = some r) : Holds prog 58 [.v (.agg [.d (.lst (List.map api_Cell.enc qx.Desired)), .d (.lst (List.map api_Cell.enc qx.Reported))])] ⟨[], []⟩ (Is (twin_Owed_R qx r)) := by
  unfold twin_Owed at hF
  refine holds_of_awp hΓ (fn := f58) (c := cB f58) (A := 0) (nx := 0) (by kernel_rfl) (by kernel_rfl) (by kernel_rfl) (by kernel_rfl) (by kernel_rfl) (by kernel_rfl) (lowc_of (by kernel_rfl)) ?_
  show Awp prog 0 94 (cB f58) _ _
  refine awp_seq ?_
  refine awp_region ?_
  refine aR 3 ?_
  refine aE ?_
  refine awp_seq ?_
  refine awp_seq ?_
  refine bE hF fun vr1 h1 hF => ?_
  refine awp_region ?_
  refine aR 1 ?_
  refine aC (twin_twinFault_ok h1) [] [] [] ?_
  refine aR 1 ?_
  refine aE ?_
  refine awp_seq ?_
  refine awp_region ?_
  refine aR 2 ?_
  refine aE ?_
  refine cE hF (fun h2 hF => ?_) fun h2 hF => ?_
  · refine awp_true (by kernel_rfl) h2 ?_
    refine awp_seq ?_
    refine awp_region ?_
    refine aR 3 ?_
    refine aE ?_
    refine awp_ret ?_
    exact oF hF [] [0]
  · refine awp_false (by kernel_rfl) h2 ?_
    refine awp_skip ?_
    refine awp_seq ?_
    refine bE hF fun vr h3 hF => ?_
    refine bE hF fun vr2 h4 hF => ?_
    refine aD ?_
    refine dR 2 ?_
    refine dC (twin_visible_ok h3) [] [] [] ?_
    refine dR 2 ?_
    refine dC (twin_visible_ok h4) [] [] [] ?_
    refine dR 2 ?_
    refine dE ?_
    refine awp_to (oT (m := ⟨[], [(0, [.d (.lst (List.map api_Cell.enc qx.Desired)), .d (.lst (List.map api_Cell.enc qx.Reported))])]⟩) (ts := [(1, .v (.one (.box 0 0))), (5, .v (.one (.d (.lst (List.map api_Prop.enc vr))))), (6, .v (.one (.d (.lst (List.map api_Prop.enc vr2)))))]) (nx := 1) [] []) ?_
    refine awp_seq ?_
    refine awp_region ?_
    refine aR 1 ?_
    refine aE ?_
    refine awp_seq ?_
    refine awp_seq ?_
    refine awp_region ?_
    refine aR 2 ?_
    refine aL api_Cell.enc qx.Desired ?_
    refine aR 1 ?_
    refine aE ?_
    refine awp_block ?_
    refine awp_to (st' := twin_Owed_x1_H qx vr vr2 ([], 0)) (oT [] [1]) ?_
    refine bE hF fun vx6_1 h13 hF => ?_
    refine awp_sub (awp_loop' (twin_Owed_x1_H qx vr vr2) twin_Owed_x1_k (twin_Owed_x1_S qx vr vr2) (by intro x; exact fun h => nomatch h) h13 (twin_Owed_x1_ok qx vr vr2)) ?_
    refine awp_seq ?_
    refine awp_region ?_
    refine aR 1 ?_
    refine aE ?_
    refine awp_seq ?_
    refine awp_seq ?_
    refine bE hF fun vr1_3 h14 hF => ?_
    refine awp_region ?_
    refine aR 3 ?_
    refine aC (twin_names_o0_ok h14) [(0, 3001)] [] [] ?_
    refine aL encS vr1_3 ?_
    refine aR 1 ?_
    refine aE ?_
    refine awp_to (oT (m := ⟨[(0, ⟨9, 1, List.map encS vx6_1⟩)], []⟩) (ts := [(5, .v (.one (.d (.lst (List.map api_Prop.enc vr))))), (6, .v (.one (.d (.lst (List.map api_Prop.enc vr2))))), (7, .v (.one (.own 0 none))), (10, .v (.one (.nil))), (55, .v (.one (.d (.lst (List.map encS vr1_3))))), (56, .v (.one (.d (.int .i64 (vr1_3.length : Int))))), (57, .v (.one (.d (.int .i64 0))))]) (nx := 1) [] []) ?_
    refine awp_block ?_
    refine awp_to (st' := twin_Owed_x4_H vr vr2 vx6_1 vr1_3 ([], 0)) (oT [] [1]) ?_
    refine bE hF fun vx13_1 h28 hF => ?_
    refine awp_sub (awp_loop' (twin_Owed_x4_H vr vr2 vx6_1 vr1_3) twin_Owed_x4_k (twin_Owed_x4_S vr vr2 vx6_1 vr1_3) (by intro x; exact fun h => nomatch h) h28 (twin_Owed_x4_ok vr vr2 vx6_1 vr1_3)) ?_
    refine awp_seq ?_
    refine awp_region ?_
    refine aR 3 ?_
    refine aE ?_
    refine awp_ret ?_
    exact oF hF [] []

end Go.Eng
