/-
The code of the Go functions that the law VersionsRead reaches does what the plain functions say, part 2.
-/
import Derived.Test.YtemhheohphinpaaDoorGenP1

namespace Go.Eng

open Go Go.Proofs.Tryd

set_option linter.unusedVariables false

set_option maxRecDepth 20000

set_option maxHeartbeats 0

/-! ### beaconfleet/base.Key -/
def base_Key_x1_k : Bool → AEx
  | _ => .normal

def base_Key_x1_S (qs : List UInt8) : Bool → St
  | vx => Mem.st ⟨[], []⟩ (tl [(0, .v (.one (.d (.str qs)))), (21, .v (.one (.d (.bool vx))))]) 0

def base_Key_x1_I (qs : List UInt8) : St := Mem.st ⟨[], []⟩ (tl [(0, .v (.one (.d (.str qs))))]) 0

theorem base_Key_x1_ok (qs : List UInt8) {r} (hF : base_Key_x1 qs = some r) : Awp prog 0 54 (cL (cL (cR (cB f36)))) (Out 0 base_Key_x1_k (base_Key_x1_S qs) r) (base_Key_x1_I qs) := by
  unfold base_Key_x1 at hF
  refine cE hF (fun h1 hF => ?_) fun h1 hF => ?_
  · refine awp_region ?_
    refine aR 1 ?_
    refine aB h1 ?_
    refine aR 15 ?_
    refine aE ?_
    exact oO hF [] [] rfl
  · refine cE hF (fun h2 hF => ?_) fun h2 hF => ?_
    · refine awp_region ?_
      refine aR 1 ?_
      refine aB h1 ?_
      refine aR 3 ?_
      refine aB h2 ?_
      refine aR 11 ?_
      refine aE ?_
      exact oO hF [] [] rfl
    · refine bE hF fun vc h3 hF => ?_
      refine cE hF (fun h4 hF => ?_) fun h4 hF => ?_
      · refine awp_region ?_
        refine aR 1 ?_
        refine aB h1 ?_
        refine aR 3 ?_
        refine aB h2 ?_
        refine aR 3 ?_
        refine aX (x_idxS h3) ?_
        refine aB h4 ?_
        refine aR 6 ?_
        refine aE ?_
        exact oO hF [] [] rfl
      · refine awp_region ?_
        refine aR 1 ?_
        refine aB h1 ?_
        refine aR 3 ?_
        refine aB h2 ?_
        refine aR 3 ?_
        refine aX (x_idxS h3) ?_
        refine aB h4 ?_
        refine aR 3 ?_
        refine aX (x_idxS h3) ?_
        refine aR 2 ?_
        refine aE ?_
        exact oO hF [] [] rfl

def base_Key_x3_k : Bool → AEx
  | _ => .normal

def base_Key_x3_S (qs : List UInt8) (vx2 : Int) (vc2 : UInt8) : Bool → St
  | vx4 => Mem.st ⟨[], []⟩ (tl [(0, .v (.one (.d (.str qs)))), (23, .v (.one (.d (.int .i64 (qs.length : Int))))), (24, .v (.one (.d (.int .i64 vx2)))), (52, .v (.one (.d (.bool vx4))))]) 0

def base_Key_x3_I (qs : List UInt8) (vx2 : Int) (vc2 : UInt8) : St := Mem.st ⟨[], []⟩ (tl [(0, .v (.one (.d (.str qs)))), (4, .v (.one (.d (.int .u8 (vc2.toNat : Int))))), (23, .v (.one (.d (.int .i64 (qs.length : Int))))), (24, .v (.one (.d (.int .i64 vx2))))]) 0

theorem base_Key_x3_ok (qs : List UInt8) (vx2 : Int) (vc2 : UInt8) {r} (hF : base_Key_x3 vc2 = some r) : Awp prog 0 54 (cL (cR (cR (cL (cL (cR (cR (cL (cL (cR (cL (cR (cR (cB f36)))))))))))))) (Out 0 base_Key_x3_k (base_Key_x3_S qs vx2 vc2) r) (base_Key_x3_I qs vx2 vc2) := by
  unfold base_Key_x3 at hF
  refine cE hF (fun h9 hF => ?_) fun h9 hF => ?_
  · refine cE hF (fun h10 hF => ?_) fun h10 hF => ?_
    · refine awp_region ?_
      refine aR 1 ?_
      refine aB h9 ?_
      refine aR 2 ?_
      refine aB h10 ?_
      refine aR 18 ?_
      refine aE ?_
      exact oO hF [] [] rfl
    · refine cE hF (fun h11 hF => ?_) fun h11 hF => ?_
      · refine cE hF (fun h12 hF => ?_) fun h12 hF => ?_
        · refine awp_region ?_
          refine aR 1 ?_
          refine aB h9 ?_
          refine aR 2 ?_
          refine aB h10 ?_
          refine aR 3 ?_
          refine aB h11 ?_
          refine aR 2 ?_
          refine aB h12 ?_
          refine aR 11 ?_
          refine aE ?_
          exact oO hF [] [] rfl
        · refine cE hF (fun h13 hF => ?_) fun h13 hF => ?_
          · refine awp_region ?_
            refine aR 1 ?_
            refine aB h9 ?_
            refine aR 2 ?_
            refine aB h10 ?_
            refine aR 3 ?_
            refine aB h11 ?_
            refine aR 2 ?_
            refine aB h12 ?_
            refine aR 4 ?_
            refine aB h13 ?_
            refine aR 6 ?_
            refine aE ?_
            exact oO hF [] [] rfl
          · refine awp_region ?_
            refine aR 1 ?_
            refine aB h9 ?_
            refine aR 2 ?_
            refine aB h10 ?_
            refine aR 3 ?_
            refine aB h11 ?_
            refine aR 2 ?_
            refine aB h12 ?_
            refine aR 4 ?_
            refine aB h13 ?_
            refine aR 6 ?_
            refine aE ?_
            exact oO hF [] [] rfl
      · refine cE hF (fun h14 hF => ?_) fun h14 hF => ?_
        · refine awp_region ?_
          refine aR 1 ?_
          refine aB h9 ?_
          refine aR 2 ?_
          refine aB h10 ?_
          refine aR 3 ?_
          refine aB h11 ?_
          refine aR 7 ?_
          refine aB h14 ?_
          refine aR 6 ?_
          refine aE ?_
          exact oO hF [] [] rfl
        · refine awp_region ?_
          refine aR 1 ?_
          refine aB h9 ?_
          refine aR 2 ?_
          refine aB h10 ?_
          refine aR 3 ?_
          refine aB h11 ?_
          refine aR 7 ?_
          refine aB h14 ?_
          refine aR 6 ?_
          refine aE ?_
          exact oO hF [] [] rfl
  · refine cE hF (fun h15 hF => ?_) fun h15 hF => ?_
    · refine cE hF (fun h16 hF => ?_) fun h16 hF => ?_
      · refine awp_region ?_
        refine aR 1 ?_
        refine aB h9 ?_
        refine aR 6 ?_
        refine aB h15 ?_
        refine aR 2 ?_
        refine aB h16 ?_
        refine aR 11 ?_
        refine aE ?_
        exact oO hF [] [] rfl
      · refine cE hF (fun h17 hF => ?_) fun h17 hF => ?_
        · refine awp_region ?_
          refine aR 1 ?_
          refine aB h9 ?_
          refine aR 6 ?_
          refine aB h15 ?_
          refine aR 2 ?_
          refine aB h16 ?_
          refine aR 4 ?_
          refine aB h17 ?_
          refine aR 6 ?_
          refine aE ?_
          exact oO hF [] [] rfl
        · refine awp_region ?_
          refine aR 1 ?_
          refine aB h9 ?_
          refine aR 6 ?_
          refine aB h15 ?_
          refine aR 2 ?_
          refine aB h16 ?_
          refine aR 4 ?_
          refine aB h17 ?_
          refine aR 6 ?_
          refine aE ?_
          exact oO hF [] [] rfl
    · refine cE hF (fun h18 hF => ?_) fun h18 hF => ?_
      · refine awp_region ?_
        refine aR 1 ?_
        refine aB h9 ?_
        refine aR 6 ?_
        refine aB h15 ?_
        refine aR 7 ?_
        refine aB h18 ?_
        refine aR 6 ?_
        refine aE ?_
        exact oO hF [] [] rfl
      · refine awp_region ?_
        refine aR 1 ?_
        refine aB h9 ?_
        refine aR 6 ?_
        refine aB h15 ?_
        refine aR 7 ?_
        refine aB h18 ?_
        refine aR 6 ?_
        refine aE ?_
        exact oO hF [] [] rfl

def base_Key_x2_k : Unit ⊕ Unit → AEx
  | .inl _ => .exit 0
  | .inr _ => .ret

def base_Key_x2_S (qs : List UInt8) : Unit ⊕ Unit → St
  | .inl _ => Mem.st ⟨[], []⟩ (tl []) 0
  | .inr _ => Mem.st ⟨[], []⟩ (tl [(2, .v (.one (.d (.bool false))))]) 0

def base_Key_x2_H (qs : List UInt8) : Int → St
  | vx2 => Mem.st ⟨[], []⟩ (tl [(0, .v (.one (.d (.str qs)))), (23, .v (.one (.d (.int .i64 (qs.length : Int))))), (24, .v (.one (.d (.int .i64 vx2))))]) 0

theorem base_Key_x2_ok (qs : List UInt8) (vx2 : Int) (r : (Int) ⊕ (Unit ⊕ Unit)) (hF : base_Key_x2 qs vx2 = some r) : Awp prog 0 54 (cL (cL (cR (cL (cR (cR (cB f36))))))) (Out 0 (kk base_Key_x2_k) (SS (base_Key_x2_H qs) (base_Key_x2_S qs)) r) (base_Key_x2_H qs vx2) := by
  unfold base_Key_x2 at hF
  refine awp_seq ?_
  refine awp_region ?_
  refine aR 1 ?_
  refine aE ?_
  refine awp_seq ?_
  refine cE hF (fun h7 hF => ?_) fun h7 hF => ?_
  · refine awp_true (by kernel_rfl) h7 ?_
    refine awp_skip ?_
    refine awp_seq ?_
    refine awp_block ?_
    refine awp_seq ?_
    refine awp_region ?_
    refine aR 2 ?_
    refine aE ?_
    refine awp_seq ?_
    refine bE hF fun vc2 h8 hF => ?_
    refine awp_region ?_
    refine aR 2 ?_
    refine aX (x_idxS h8) ?_
    refine aR 1 ?_
    refine aE ?_
    refine awp_seq ?_
    refine awp_to (st' := base_Key_x3_I qs vx2 vc2) (oT [] []) ?_
    refine bE hF fun vx4_1 h19 hF => ?_
    refine awp_sub (base_Key_x3_ok qs vx2 vc2 h19) ?_
    refine cE hF (fun h20 hF => ?_) fun h20 hF => ?_
    · refine awp_true (by kernel_rfl) h20 ?_
      refine awp_seq ?_
      refine awp_region ?_
      refine aR 1 ?_
      refine aE ?_
      refine awp_ret ?_
      exact oO hF [] [] rfl
    · refine awp_false (by kernel_rfl) h20 ?_
      refine awp_skip ?_
      refine awp_region ?_
      refine aR 2 ?_
      refine aE ?_
      exact oO hF [] [] rfl
  · refine awp_false (by kernel_rfl) h7 ?_
    refine awp_exit ?_
    exact oO hF [] [] rfl

def base_Key_R (qs : List UInt8) (r : Bool) : TV × Mem := (.v (.one (.d (.bool r))), ⟨[], []⟩)

theorem base_Key_ok {qs : List UInt8} {r} (hF : base_Key qs = some r) : Holds prog 36 [.v (.one (.d (.str qs)))] ⟨[], []⟩ (Is (base_Key_R qs r)) := by
  unfold base_Key at hF
  refine holds_of_awp hΓ (fn := f36) (c := cB f36) (A := 0) (nx := 0) (by kernel_rfl) (by kernel_rfl) (by kernel_rfl) (by kernel_rfl) (by kernel_rfl) (by kernel_rfl) (lowc_of (by kernel_rfl)) ?_
  show Awp prog 0 54 (cB f36) _ _
  refine awp_seq ?_
  refine awp_region ?_
  refine aR 1 ?_
  refine aE ?_
  refine awp_seq ?_
  refine awp_seq ?_
  refine awp_to (st' := base_Key_x1_I qs) (oT [] []) ?_
  refine bE hF fun vx1 h5 hF => ?_
  refine awp_sub (base_Key_x1_ok qs h5) ?_
  refine cE hF (fun h6 hF => ?_) fun h6 hF => ?_
  · refine awp_true (by kernel_rfl) h6 ?_
    refine awp_seq ?_
    refine awp_region ?_
    refine aR 1 ?_
    refine aE ?_
    refine awp_ret ?_
    exact oF hF [] []
  · refine awp_false (by kernel_rfl) h6 ?_
    refine awp_skip ?_
    refine awp_seq ?_
    refine awp_seq ?_
    refine awp_region ?_
    refine aR 3 ?_
    refine aE ?_
    refine awp_block ?_
    refine awp_to (st' := base_Key_x2_H qs 0) (oT [] []) ?_
    refine bE hF fun x h21 hF => ?_
    rcases x with _ | _
    · refine awp_sub (awp_loop' (base_Key_x2_H qs) base_Key_x2_k (base_Key_x2_S qs) (by intro x; rcases x with x | x <;> exact fun h => nomatch h) h21 (base_Key_x2_ok qs)) ?_
      refine awp_seq ?_
      refine awp_region ?_
      refine aR 1 ?_
      refine aE ?_
      refine awp_ret ?_
      exact oF hF [] []
    · refine awp_sub (awp_loop' (base_Key_x2_H qs) base_Key_x2_k (base_Key_x2_S qs) (by intro x; rcases x with x | x <;> exact fun h => nomatch h) h21 (base_Key_x2_ok qs)) ?_
      exact oF hF [] []

/-! ### beaconfleet/campaign.covers$1 -/
def campaign_covers_1_x1_k : Bool → AEx
  | _ => .normal

def campaign_covers_1_x1_S (qr : api_Range) (qx : api_Version) : Bool → St
  | vx => Mem.st ⟨[], [(0, [.d (.int .i64 qx.Major), .d (.int .i64 qx.Minor), .d (.int .i64 qx.Patch)])]⟩ (tl [(3, .v (.one (.d (.bool vx))))]) 1

def campaign_covers_1_x1_I (qr : api_Range) (qx : api_Version) : St := Mem.st ⟨[], [(0, [.d (.int .i64 qx.Major), .d (.int .i64 qx.Minor), .d (.int .i64 qx.Patch)]), (1, [.d (.int .i64 qr.Low.Major), .d (.int .i64 qr.Low.Minor), .d (.int .i64 qr.Low.Patch), .d (.int .i64 qr.High.Major), .d (.int .i64 qr.High.Minor), .d (.int .i64 qr.High.Patch)])]⟩ (tl [(1, .v (.one (.box 0 0))), (2, .v (.one (.box 1 0)))]) 2

theorem campaign_covers_1_x1_ok (qr : api_Range) (qx : api_Version) {r} (hF : campaign_covers_1_x1 qr qx = some r) : Awp prog 1 16 (cL (cR (cB f63))) (Out 1 campaign_covers_1_x1_k (campaign_covers_1_x1_S qr qx) r) (campaign_covers_1_x1_I qr qx) := by
  unfold campaign_covers_1_x1 at hF
  refine bE hF fun vr4 h1 hF => ?_
  refine cE hF (fun h2 hF => ?_) fun h2 hF => ?_
  · refine bE hF fun vr4_1 h3 hF => ?_
    refine awp_region ?_
    refine aR 3 ?_
    refine aC (campaign_Compare_ok h1) [] [] [] ?_
    refine aB h2 ?_
    refine aR 4 ?_
    refine aC (campaign_Compare_ok h3) [] [] [] ?_
    refine aR 3 ?_
    refine aE ?_
    exact oO hF [] [] rfl
  · refine awp_region ?_
    refine aR 3 ?_
    refine aC (campaign_Compare_ok h1) [] [] [] ?_
    refine aB h2 ?_
    refine aR 8 ?_
    refine aE ?_
    exact oO hF [] [] rfl

def campaign_covers_1_R (qr : api_Range) (qx : api_Version) (r : Bool) : TV × Mem := (.v (.one (.d (.bool r))), ⟨[], [(0, [.d (.int .i64 qx.Major), .d (.int .i64 qx.Minor), .d (.int .i64 qx.Patch)])]⟩)

theorem campaign_covers_1_ok {qr : api_Range} {qx : api_Version} {r} (hF : campaign_covers_1 qr qx = some r) : Holds prog 63 [.v (.agg [.d (.int .i64 qr.Low.Major), .d (.int .i64 qr.Low.Minor), .d (.int .i64 qr.Low.Patch), .d (.int .i64 qr.High.Major), .d (.int .i64 qr.High.Minor), .d (.int .i64 qr.High.Patch)]), .v (.one (.box 0 0))] ⟨[], [(0, [.d (.int .i64 qx.Major), .d (.int .i64 qx.Minor), .d (.int .i64 qx.Patch)])]⟩ (Is (campaign_covers_1_R qr qx r)) := by
  unfold campaign_covers_1 at hF
  refine holds_of_awp hΓ (fn := f63) (c := cB f63) (A := 1) (nx := 1) (by kernel_rfl) (by kernel_rfl) (by kernel_rfl) (by kernel_rfl) (by kernel_rfl) (by kernel_rfl) (lowc_of (by kernel_rfl)) ?_
  show Awp prog 1 16 (cB f63) _ _
  refine awp_seq ?_
  refine awp_region ?_
  refine aR 2 ?_
  refine aE ?_
  refine awp_seq ?_
  refine awp_to (st' := campaign_covers_1_x1_I qr qx) (oT [] []) ?_
  refine bE hF fun vx1 h4 hF => ?_
  refine awp_sub (campaign_covers_1_x1_ok qr qx h4) ?_
  refine awp_ret ?_
  exact oF hF [] []

/-! ### slices.IndexFunc[[]beaconfleet/api.Range,beaconfleet/api.Range] -/
def slices_IndexFunc_api_Range_api_Range_f1_campaign_covers_1_x1_k : Unit ⊕ Int → AEx
  | .inl _ => .exit 0
  | .inr _ => .ret

def slices_IndexFunc_api_Range_api_Range_f1_campaign_covers_1_x1_S (qs : List api_Range) (qf : api_Version) : Unit ⊕ Int → St
  | .inl _ => Mem.st ⟨[], [(0, [.d (.int .i64 qf.Major), .d (.int .i64 qf.Minor), .d (.int .i64 qf.Patch)])]⟩ (tl []) 1
  | .inr vx1 => Mem.st ⟨[], [(0, [.d (.int .i64 qf.Major), .d (.int .i64 qf.Minor), .d (.int .i64 qf.Patch)])]⟩ (tl [(4, .v (.one (.d (.int .i64 vx1))))]) 1

def slices_IndexFunc_api_Range_api_Range_f1_campaign_covers_1_x1_H (qs : List api_Range) (qf : api_Version) : Int → St
  | vx => Mem.st ⟨[], [(0, [.d (.int .i64 qf.Major), .d (.int .i64 qf.Minor), .d (.int .i64 qf.Patch)])]⟩ (tl [(0, .v (.one (.d (.lst (List.map api_Range.enc qs))))), (1, .v (.one (.fn 63 [0]))), (7, .v (.one (.d (.int .i64 (qs.length : Int))))), (8, .v (.one (.d (.int .i64 vx))))]) 1

theorem slices_IndexFunc_api_Range_api_Range_f1_campaign_covers_1_x1_ok (qs : List api_Range) (qf : api_Version) (vx : Int) (r : (Int) ⊕ (Unit ⊕ Int)) (hF : slices_IndexFunc_api_Range_api_Range_f1_campaign_covers_1_x1 qs qf vx = some r) : Awp prog 1 19 (cL (cL (cR (cL (cR (cB f80)))))) (Out 1 (kk slices_IndexFunc_api_Range_api_Range_f1_campaign_covers_1_x1_k) (SS (slices_IndexFunc_api_Range_api_Range_f1_campaign_covers_1_x1_H qs qf) (slices_IndexFunc_api_Range_api_Range_f1_campaign_covers_1_x1_S qs qf)) r) (slices_IndexFunc_api_Range_api_Range_f1_campaign_covers_1_x1_H qs qf vx) := by
  unfold slices_IndexFunc_api_Range_api_Range_f1_campaign_covers_1_x1 at hF
  refine awp_seq ?_
  refine awp_region ?_
  refine aR 1 ?_
  refine aE ?_
  refine awp_seq ?_
  refine cE hF (fun h1 hF => ?_) fun h1 hF => ?_
  · refine awp_true (by kernel_rfl) h1 ?_
    refine awp_skip ?_
    refine awp_seq ?_
    refine awp_block ?_
    refine awp_seq ?_
    refine awp_region ?_
    refine aR 2 ?_
    refine aE ?_
    refine awp_seq ?_
    refine bE hF fun vy1 h2 hF => ?_
    refine bE hF fun vr1 h3 hF => ?_
    refine awp_region ?_
    refine aR 3 ?_
    refine aX (x_idx api_Range.enc h2) ?_
    refine aR 1 ?_
    refine aC (campaign_covers_1_ok h3) [] [] [] ?_
    refine aE ?_
    refine cE hF (fun h4 hF => ?_) fun h4 hF => ?_
    · refine awp_true (by kernel_rfl) h4 ?_
      refine awp_seq ?_
      refine awp_region ?_
      refine aR 2 ?_
      refine aE ?_
      refine awp_ret ?_
      exact oO hF [] [] rfl
    · refine awp_false (by kernel_rfl) h4 ?_
      refine awp_skip ?_
      refine awp_region ?_
      refine aR 2 ?_
      refine aE ?_
      exact oO hF [] [] rfl
  · refine awp_false (by kernel_rfl) h1 ?_
    refine awp_exit ?_
    exact oO hF [] [] rfl

def slices_IndexFunc_api_Range_api_Range_f1_campaign_covers_1_R (qs : List api_Range) (qf : api_Version) (r : Int) : TV × Mem := (.v (.one (.d (.int .i64 r))), ⟨[], [(0, [.d (.int .i64 qf.Major), .d (.int .i64 qf.Minor), .d (.int .i64 qf.Patch)])]⟩)

theorem slices_IndexFunc_api_Range_api_Range_f1_campaign_covers_1_ok {qs : List api_Range} {qf : api_Version} {r} (hF : slices_IndexFunc_api_Range_api_Range_f1_campaign_covers_1 qs qf = some r) : Holds prog 80 [.v (.one (.d (.lst (List.map api_Range.enc qs)))), .v (.one (.fn 63 [0]))] ⟨[], [(0, [.d (.int .i64 qf.Major), .d (.int .i64 qf.Minor), .d (.int .i64 qf.Patch)])]⟩ (Is (slices_IndexFunc_api_Range_api_Range_f1_campaign_covers_1_R qs qf r)) := by
  unfold slices_IndexFunc_api_Range_api_Range_f1_campaign_covers_1 at hF
  refine holds_of_awp hΓ (fn := f80) (c := cB f80) (A := 1) (nx := 1) (by kernel_rfl) (by kernel_rfl) (by kernel_rfl) (by kernel_rfl) (by kernel_rfl) (by kernel_rfl) (lowc_of (by kernel_rfl)) ?_
  show Awp prog 1 19 (cB f80) _ _
  refine awp_seq ?_
  refine awp_region ?_
  refine aR 1 ?_
  refine aE ?_
  refine awp_seq ?_
  refine awp_seq ?_
  refine awp_region ?_
  refine aR 1 ?_
  refine aL api_Range.enc qs ?_
  refine aR 1 ?_
  refine aE ?_
  refine awp_block ?_
  refine awp_to (st' := slices_IndexFunc_api_Range_api_Range_f1_campaign_covers_1_x1_H qs qf 0) (oT [] []) ?_
  refine bE hF fun x h5 hF => ?_
  rcases x with _ | vx1_1
  · refine awp_sub (awp_loop' (slices_IndexFunc_api_Range_api_Range_f1_campaign_covers_1_x1_H qs qf) slices_IndexFunc_api_Range_api_Range_f1_campaign_covers_1_x1_k (slices_IndexFunc_api_Range_api_Range_f1_campaign_covers_1_x1_S qs qf) (by intro x; rcases x with x | x <;> exact fun h => nomatch h) h5 (slices_IndexFunc_api_Range_api_Range_f1_campaign_covers_1_x1_ok qs qf)) ?_
    refine awp_seq ?_
    refine awp_region ?_
    refine aR 1 ?_
    refine aE ?_
    refine awp_ret ?_
    exact oF hF [] []
  · refine awp_sub (awp_loop' (slices_IndexFunc_api_Range_api_Range_f1_campaign_covers_1_x1_H qs qf) slices_IndexFunc_api_Range_api_Range_f1_campaign_covers_1_x1_k (slices_IndexFunc_api_Range_api_Range_f1_campaign_covers_1_x1_S qs qf) (by intro x; rcases x with x | x <;> exact fun h => nomatch h) h5 (slices_IndexFunc_api_Range_api_Range_f1_campaign_covers_1_x1_ok qs qf)) ?_
    exact oF hF [] []

/-! ### slices.ContainsFunc[[]beaconfleet/api.Range,beaconfleet/api.Range] -/
def slices_ContainsFunc_api_Range_api_Range_f1_campaign_covers_1_R (qs : List api_Range) (qf : api_Version) (r : Bool) : TV × Mem := (.v (.one (.d (.bool r))), ⟨[], [(0, [.d (.int .i64 qf.Major), .d (.int .i64 qf.Minor), .d (.int .i64 qf.Patch)])]⟩)

theorem slices_ContainsFunc_api_Range_api_Range_f1_campaign_covers_1_ok {qs : List api_Range} {qf : api_Version} {r} (hF : slices_ContainsFunc_api_Range_api_Range_f1_campaign_covers_1 qs qf = some r) : Holds prog 62 [.v (.one (.d (.lst (List.map api_Range.enc qs)))), .v (.one (.fn 63 [0]))] ⟨[], [(0, [.d (.int .i64 qf.Major), .d (.int .i64 qf.Minor), .d (.int .i64 qf.Patch)])]⟩ (Is (slices_ContainsFunc_api_Range_api_Range_f1_campaign_covers_1_R qs qf r)) := by
  unfold slices_ContainsFunc_api_Range_api_Range_f1_campaign_covers_1 at hF
  refine holds_of_awp hΓ (fn := f62) (c := cB f62) (A := 1) (nx := 1) (by kernel_rfl) (by kernel_rfl) (by kernel_rfl) (by kernel_rfl) (by kernel_rfl) (by kernel_rfl) (lowc_of (by kernel_rfl)) ?_
  show Awp prog 1 9 (cB f62) _ _
  refine awp_seq ?_
  refine awp_region ?_
  refine aR 1 ?_
  refine aE ?_
  refine awp_seq ?_
  refine bE hF fun vr2 h1 hF => ?_
  refine awp_region ?_
  refine aR 2 ?_
  refine aC (slices_IndexFunc_api_Range_api_Range_f1_campaign_covers_1_ok h1) [] [] [] ?_
  refine aR 2 ?_
  refine aE ?_
  refine awp_ret ?_
  exact oF hF [] []

/-! ### beaconfleet/campaign.covers -/
def campaign_covers_R (qx : api_Image) (qv : api_Version) (r : Bool) : TV × Mem := (.v (.one (.d (.bool r))), ⟨[], []⟩)

theorem campaign_covers_ok {qx : api_Image} {qv : api_Version} {r} (hF : campaign_covers qx qv = some r) : Holds prog 52 [.v (.agg [.d (.int .i64 qx.Version.Major), .d (.int .i64 qx.Version.Minor), .d (.int .i64 qx.Version.Patch), .d (.lst (List.map encS qx.Models)), .d (.lst (List.map api_Range.enc qx.From)), .d (.int .i64 qx.Size)]), .v (.agg [.d (.int .i64 qv.Major), .d (.int .i64 qv.Minor), .d (.int .i64 qv.Patch)])] ⟨[], []⟩ (Is (campaign_covers_R qx qv r)) := by
  unfold campaign_covers at hF
  refine holds_of_awp hΓ (fn := f52) (c := cB f52) (A := 0) (nx := 0) (by kernel_rfl) (by kernel_rfl) (by kernel_rfl) (by kernel_rfl) (by kernel_rfl) (by kernel_rfl) (lowc_of (by kernel_rfl)) ?_
  show Awp prog 0 9 (cB f52) _ _
  refine awp_seq ?_
  refine awp_region ?_
  refine aR 3 ?_
  refine aE ?_
  refine awp_seq ?_
  refine bE hF fun vr h1 hF => ?_
  refine awp_region ?_
  refine aR 3 ?_
  refine aC (slices_ContainsFunc_api_Range_api_Range_f1_campaign_covers_1_ok h1) [(0, 1000)] [] [] ?_
  refine aR 1 ?_
  refine aE ?_
  refine awp_ret ?_
  exact oF hF [] []

/-! ### beaconfleet/campaign.rangesFault -/
def campaign_rangesFault_x2_k : Bool → AEx
  | _ => .normal

def campaign_rangesFault_x2_S (qx : api_Image) (vx : Int) (vy2 : api_Range) : Bool → St
  | vx3 => Mem.st ⟨[], [(0, [.d (.int .i64 qx.Version.Major), .d (.int .i64 qx.Version.Minor), .d (.int .i64 qx.Version.Patch), .d (.lst (List.map encS qx.Models)), .d (.lst (List.map api_Range.enc qx.From)), .d (.int .i64 qx.Size)]), (1, [.d (.int .i64 vy2.Low.Major), .d (.int .i64 vy2.Low.Minor), .d (.int .i64 vy2.Low.Patch), .d (.int .i64 vy2.High.Major), .d (.int .i64 vy2.High.Minor), .d (.int .i64 vy2.High.Patch)])]⟩ (tl [(1, .v (.one (.box 0 0))), (3, .v (.one (.d (.int .i64 vx)))), (4, .v (.one (.box 1 0))), (10, .v (.one (.d (.lst (List.map api_Range.enc qx.From))))), (11, .v (.one (.d (.int .i64 (qx.From.length : Int))))), (12, .v (.one (.d (.int .i64 vx)))), (17, .v (.one (.d (.bool vx3))))]) 2

def campaign_rangesFault_x2_I (qx : api_Image) (vx : Int) (vy2 : api_Range) : St := Mem.st ⟨[], [(0, [.d (.int .i64 qx.Version.Major), .d (.int .i64 qx.Version.Minor), .d (.int .i64 qx.Version.Patch), .d (.lst (List.map encS qx.Models)), .d (.lst (List.map api_Range.enc qx.From)), .d (.int .i64 qx.Size)]), (1, [.d (.int .i64 vy2.Low.Major), .d (.int .i64 vy2.Low.Minor), .d (.int .i64 vy2.Low.Patch), .d (.int .i64 vy2.High.Major), .d (.int .i64 vy2.High.Minor), .d (.int .i64 vy2.High.Patch)])]⟩ (tl [(1, .v (.one (.box 0 0))), (3, .v (.one (.d (.int .i64 vx)))), (4, .v (.one (.box 1 0))), (10, .v (.one (.d (.lst (List.map api_Range.enc qx.From))))), (11, .v (.one (.d (.int .i64 (qx.From.length : Int))))), (12, .v (.one (.d (.int .i64 vx))))]) 2

theorem campaign_rangesFault_x2_ok (qx : api_Image) (vx : Int) (vy2 : api_Range) {r} (hF : campaign_rangesFault_x2 vy2 = some r) : Awp prog 0 57 (cL (cL (cR (cL (cL (cR (cR (cL (cL (cR (cL (cR (cR (cB f37)))))))))))))) (Out 0 campaign_rangesFault_x2_k (campaign_rangesFault_x2_S qx vx vy2) r) (campaign_rangesFault_x2_I qx vx vy2) := by
  unfold campaign_rangesFault_x2 at hF
  refine bE hF fun vr3_2 h4 hF => ?_
  refine cE hF (fun h5 hF => ?_) fun h5 hF => ?_
  · refine awp_region ?_
    refine aR 2 ?_
    refine aC (base_Version_ok h4) [] [] [] ?_
    refine aB h5 ?_
    refine aR 15 ?_
    refine aE ?_
    exact oO hF [] [] rfl
  · refine bE hF fun vr3_3 h6 hF => ?_
    refine cE hF (fun h7 hF => ?_) fun h7 hF => ?_
    · refine awp_region ?_
      refine aR 2 ?_
      refine aC (base_Version_ok h4) [] [] [] ?_
      refine aB h5 ?_
      refine aR 3 ?_
      refine aC (base_Version_ok h6) [] [] [] ?_
      refine aB h7 ?_
      refine aR 10 ?_
      refine aE ?_
      exact oO hF [] [] rfl
    · refine bE hF fun vr4_2 h8 hF => ?_
      refine awp_region ?_
      refine aR 2 ?_
      refine aC (base_Version_ok h4) [] [] [] ?_
      refine aB h5 ?_
      refine aR 3 ?_
      refine aC (base_Version_ok h6) [] [] [] ?_
      refine aB h7 ?_
      refine aR 6 ?_
      refine aC (campaign_Compare_ok h8) [] [] [] ?_
      refine aR 3 ?_
      refine aE ?_
      exact oO hF [] [] rfl

def campaign_rangesFault_x3_k : Bool → AEx
  | _ => .normal

def campaign_rangesFault_x3_S (qx : api_Image) (vx : Int) (vy2 : api_Range) : Bool → St
  | vx4 => Mem.st ⟨[], [(0, [.d (.int .i64 qx.Version.Major), .d (.int .i64 qx.Version.Minor), .d (.int .i64 qx.Version.Patch), .d (.lst (List.map encS qx.Models)), .d (.lst (List.map api_Range.enc qx.From)), .d (.int .i64 qx.Size)])]⟩ (tl [(1, .v (.one (.box 0 0))), (10, .v (.one (.d (.lst (List.map api_Range.enc qx.From))))), (11, .v (.one (.d (.int .i64 (qx.From.length : Int))))), (12, .v (.one (.d (.int .i64 vx)))), (36, .v (.one (.d (.bool vx4))))]) 1

def campaign_rangesFault_x3_I (qx : api_Image) (vx : Int) (vy2 : api_Range) : St := Mem.st ⟨[], [(0, [.d (.int .i64 qx.Version.Major), .d (.int .i64 qx.Version.Minor), .d (.int .i64 qx.Version.Patch), .d (.lst (List.map encS qx.Models)), .d (.lst (List.map api_Range.enc qx.From)), .d (.int .i64 qx.Size)]), (1, [.d (.int .i64 vy2.Low.Major), .d (.int .i64 vy2.Low.Minor), .d (.int .i64 vy2.Low.Patch), .d (.int .i64 vy2.High.Major), .d (.int .i64 vy2.High.Minor), .d (.int .i64 vy2.High.Patch)])]⟩ (tl [(1, .v (.one (.box 0 0))), (3, .v (.one (.d (.int .i64 vx)))), (4, .v (.one (.box 1 0))), (10, .v (.one (.d (.lst (List.map api_Range.enc qx.From))))), (11, .v (.one (.d (.int .i64 (qx.From.length : Int))))), (12, .v (.one (.d (.int .i64 vx))))]) 2

theorem campaign_rangesFault_x3_ok (qx : api_Image) (vx : Int) (vy2 : api_Range) {r} (hF : campaign_rangesFault_x3 qx vx vy2 = some r) : Awp prog 0 57 (cL (cR (cR (cL (cR (cL (cL (cR (cR (cL (cL (cR (cL (cR (cR (cB f37)))))))))))))))) (Out 0 campaign_rangesFault_x3_k (campaign_rangesFault_x3_S qx vx vy2) r) (campaign_rangesFault_x3_I qx vx vy2) := by
  unfold campaign_rangesFault_x3 at hF
  refine cE hF (fun h11 hF => ?_) fun h11 hF => ?_
  · refine bE hF fun vy3 h12 hF => ?_
    refine bE hF fun vr4_3 h13 hF => ?_
    refine aD ?_
    refine dR 1 ?_
    refine dB h11 ?_
    refine dR 7 ?_
    refine dX (x_idx api_Range.enc h12) ?_
    refine dR 2 ?_
    refine dC (campaign_Compare_ok h13) [] [] [] ?_
    refine dR 3 ?_
    refine dE ?_
    exact oO hF [] [] rfl
  · refine aD ?_
    refine dR 1 ?_
    refine dB h11 ?_
    refine dR 14 ?_
    refine dE ?_
    exact oO hF [] [] rfl

def campaign_rangesFault_x1_k : Unit ⊕ Int → AEx
  | .inl _ => .exit 0
  | .inr _ => .ret

def campaign_rangesFault_x1_S (qx : api_Image) : Unit ⊕ Int → St
  | .inl _ => Mem.st ⟨[], [(0, [.d (.int .i64 qx.Version.Major), .d (.int .i64 qx.Version.Minor), .d (.int .i64 qx.Version.Patch), .d (.lst (List.map encS qx.Models)), .d (.lst (List.map api_Range.enc qx.From)), .d (.int .i64 qx.Size)])]⟩ (tl [(1, .v (.one (.box 0 0)))]) 1
  | .inr vx5 => Mem.st ⟨[], []⟩ (tl [(2, .v (.one (.d (.int .i64 vx5))))]) 0

def campaign_rangesFault_x1_H (qx : api_Image) : Int → St
  | vx => Mem.st ⟨[], [(0, [.d (.int .i64 qx.Version.Major), .d (.int .i64 qx.Version.Minor), .d (.int .i64 qx.Version.Patch), .d (.lst (List.map encS qx.Models)), .d (.lst (List.map api_Range.enc qx.From)), .d (.int .i64 qx.Size)])]⟩ (tl [(1, .v (.one (.box 0 0))), (10, .v (.one (.d (.lst (List.map api_Range.enc qx.From))))), (11, .v (.one (.d (.int .i64 (qx.From.length : Int))))), (12, .v (.one (.d (.int .i64 vx))))]) 1

theorem campaign_rangesFault_x1_ok (qx : api_Image) (vx : Int) (r : (Int) ⊕ (Unit ⊕ Int)) (hF : campaign_rangesFault_x1 qx vx = some r) : Awp prog 0 57 (cL (cL (cR (cL (cR (cR (cB f37))))))) (Out 0 (kk campaign_rangesFault_x1_k) (SS (campaign_rangesFault_x1_H qx) (campaign_rangesFault_x1_S qx)) r) (campaign_rangesFault_x1_H qx vx) := by
  unfold campaign_rangesFault_x1 at hF
  refine awp_seq ?_
  refine awp_region ?_
  refine aR 1 ?_
  refine aE ?_
  refine awp_seq ?_
  refine cE hF (fun h2 hF => ?_) fun h2 hF => ?_
  · refine awp_true (by kernel_rfl) h2 ?_
    refine awp_skip ?_
    refine awp_seq ?_
    refine awp_block ?_
    refine awp_seq ?_
    refine bE hF fun vy2 h3 hF => ?_
    refine awp_region ?_
    refine aR 1 ?_
    refine aX (x_idx api_Range.enc h3) ?_
    refine aR 4 ?_
    refine aE ?_
    refine awp_block ?_
    refine awp_seq ?_
    refine awp_to (st' := campaign_rangesFault_x2_I qx vx vy2) (oT [(1, 4001)] []) ?_
    refine bE hF fun vx3_1 h9 hF => ?_
    refine awp_sub (campaign_rangesFault_x2_ok qx vx vy2 h9) ?_
    refine cE hF (fun h10 hF => ?_) fun h10 hF => ?_
    · refine awp_true (by kernel_rfl) h10 ?_
      refine awp_seq ?_
      refine awp_region ?_
      refine aR 1 ?_
      refine aE ?_
      refine awp_ret ?_
      exact oO hF [] [] rfl
    · refine awp_false (by kernel_rfl) h10 ?_
      refine awp_seq ?_
      refine awp_to (st' := campaign_rangesFault_x3_I qx vx vy2) (oT [] []) ?_
      refine bE hF fun vx4_1 h14 hF => ?_
      refine awp_sub (campaign_rangesFault_x3_ok qx vx vy2 h14) ?_
      refine cE hF (fun h15 hF => ?_) fun h15 hF => ?_
      · refine awp_true (by kernel_rfl) h15 ?_
        refine awp_seq ?_
        refine awp_region ?_
        refine aR 1 ?_
        refine aE ?_
        refine awp_ret ?_
        exact oO hF [] [] rfl
      · refine awp_false (by kernel_rfl) h15 ?_
        refine awp_skip ?_
        refine awp_region ?_
        refine aR 2 ?_
        refine aE ?_
        exact oO hF [] [] rfl
  · refine awp_false (by kernel_rfl) h2 ?_
    refine awp_exit ?_
    exact oO hF [] [] rfl

def campaign_rangesFault_R (qx : api_Image) (r : Int) : TV × Mem := (.v (.one (.d (.int .i64 r))), ⟨[], []⟩)

theorem campaign_rangesFault_ok {qx : api_Image} {r} (hF : campaign_rangesFault qx = some r) : Holds prog 37 [.v (.agg [.d (.int .i64 qx.Version.Major), .d (.int .i64 qx.Version.Minor), .d (.int .i64 qx.Version.Patch), .d (.lst (List.map encS qx.Models)), .d (.lst (List.map api_Range.enc qx.From)), .d (.int .i64 qx.Size)])] ⟨[], []⟩ (Is (campaign_rangesFault_R qx r)) := by
  unfold campaign_rangesFault at hF
  refine holds_of_awp hΓ (fn := f37) (c := cB f37) (A := 0) (nx := 0) (by kernel_rfl) (by kernel_rfl) (by kernel_rfl) (by kernel_rfl) (by kernel_rfl) (by kernel_rfl) (lowc_of (by kernel_rfl)) ?_
  show Awp prog 0 57 (cB f37) _ _
  refine awp_seq ?_
  refine awp_region ?_
  refine aR 2 ?_
  refine aE ?_
  refine awp_seq ?_
  refine awp_seq ?_
  refine awp_region ?_
  refine aR 2 ?_
  refine aL api_Range.enc qx.From ?_
  refine aR 1 ?_
  refine aE ?_
  refine cE hF (fun h1 hF => ?_) fun h1 hF => ?_
  · refine awp_true (by kernel_rfl) h1 ?_
    refine awp_seq ?_
    refine awp_region ?_
    refine aR 1 ?_
    refine aE ?_
    refine awp_ret ?_
    exact oF hF [] []
  · refine awp_false (by kernel_rfl) h1 ?_
    refine awp_skip ?_
    refine awp_seq ?_
    refine awp_seq ?_
    refine awp_region ?_
    refine aR 2 ?_
    refine aL api_Range.enc qx.From ?_
    refine aR 1 ?_
    refine aE ?_
    refine awp_block ?_
    refine awp_to (st' := campaign_rangesFault_x1_H qx 0) (oT [] []) ?_
    refine bE hF fun x h16 hF => ?_
    rcases x with _ | vx5_1
    · refine awp_sub (awp_loop' (campaign_rangesFault_x1_H qx) campaign_rangesFault_x1_k (campaign_rangesFault_x1_S qx) (by intro x; rcases x with x | x <;> exact fun h => nomatch h) h16 (campaign_rangesFault_x1_ok qx)) ?_
      refine awp_seq ?_
      refine awp_seq ?_
      refine bE hF fun vr1 h17 hF => ?_
      refine awp_region ?_
      refine aR 3 ?_
      refine aC (campaign_covers_ok h17) [] [] [] ?_
      refine aE ?_
      refine cE hF (fun h18 hF => ?_) fun h18 hF => ?_
      · refine awp_true (by kernel_rfl) h18 ?_
        refine awp_seq ?_
        refine awp_region ?_
        refine aR 1 ?_
        refine aE ?_
        refine awp_ret ?_
        exact oF hF [] []
      · refine awp_false (by kernel_rfl) h18 ?_
        refine awp_skip ?_
        refine awp_seq ?_
        refine awp_region ?_
        refine aR 1 ?_
        refine aE ?_
        refine awp_ret ?_
        exact oF hF [] []
    · refine awp_sub (awp_loop' (campaign_rangesFault_x1_H qx) campaign_rangesFault_x1_k (campaign_rangesFault_x1_S qx) (by intro x; rcases x with x | x <;> exact fun h => nomatch h) h16 (campaign_rangesFault_x1_ok qx)) ?_
      exact oF hF [] []

/-! ### beaconfleet/campaign.CheckImages -/
def campaign_CheckImages_x2_k : Bool → AEx
  | _ => .normal

def campaign_CheckImages_x2_S (qx : List api_Image) (vx : Int) (vy6 : api_Image) : Bool → St
  | vx6 => Mem.st ⟨[], [(0, [.d (.int .i64 vy6.Version.Major), .d (.int .i64 vy6.Version.Minor), .d (.int .i64 vy6.Version.Patch), .d (.lst (List.map encS vy6.Models)), .d (.lst (List.map api_Range.enc vy6.From)), .d (.int .i64 vy6.Size)])]⟩ (tl [(0, .v (.one (.d (.lst (List.map api_Image.enc qx))))), (4, .v (.one (.box 0 0))), (11, .v (.one (.d (.lst (List.map api_Image.enc qx))))), (12, .v (.one (.d (.int .i64 (qx.length : Int))))), (13, .v (.one (.d (.int .i64 vx)))), (23, .v (.one (.d (.bool vx6))))]) 1

def campaign_CheckImages_x2_I (qx : List api_Image) (vx : Int) (vy6 : api_Image) : St := Mem.st ⟨[], [(0, [.d (.int .i64 vy6.Version.Major), .d (.int .i64 vy6.Version.Minor), .d (.int .i64 vy6.Version.Patch), .d (.lst (List.map encS vy6.Models)), .d (.lst (List.map api_Range.enc vy6.From)), .d (.int .i64 vy6.Size)])]⟩ (tl [(0, .v (.one (.d (.lst (List.map api_Image.enc qx))))), (3, .v (.one (.d (.int .i64 vx)))), (4, .v (.one (.box 0 0))), (11, .v (.one (.d (.lst (List.map api_Image.enc qx))))), (12, .v (.one (.d (.int .i64 (qx.length : Int))))), (13, .v (.one (.d (.int .i64 vx))))]) 1

theorem campaign_CheckImages_x2_ok (qx : List api_Image) (vx : Int) (vy6 : api_Image) {r} (hF : campaign_CheckImages_x2 qx vx vy6 = some r) : Awp prog 0 81 (cL (cR (cR (cL (cL (cR (cL (cL (cR (cR (cL (cL (cR (cL (cR (cR (cB f14))))))))))))))))) (Out 0 campaign_CheckImages_x2_k (campaign_CheckImages_x2_S qx vx vy6) r) (campaign_CheckImages_x2_I qx vx vy6) := by
  unfold campaign_CheckImages_x2 at hF
  refine cE hF (fun h6 hF => ?_) fun h6 hF => ?_
  · refine bE hF fun vy7 h7 hF => ?_
    refine bE hF fun vr4_1 h8 hF => ?_
    refine aD ?_
    refine dR 1 ?_
    refine dB h6 ?_
    refine dR 6 ?_
    refine dX (x_idx api_Image.enc h7) ?_
    refine dR 2 ?_
    refine dC (campaign_Compare_ok h8) [] [] [] ?_
    refine dR 3 ?_
    refine dE ?_
    exact oO hF [] [] rfl
  · refine aD ?_
    refine dR 1 ?_
    refine dB h6 ?_
    refine dR 13 ?_
    refine dE ?_
    exact oO hF [] [] rfl

def campaign_CheckImages_x4_k : Bool → AEx
  | _ => .normal

def campaign_CheckImages_x4_S (qx : List api_Image) (vx : Int) (vy6 : api_Image) (vx7 : Int) (vy10 : List UInt8) : Bool → St
  | vx9 => Mem.st ⟨[], [(0, [.d (.int .i64 vy6.Version.Major), .d (.int .i64 vy6.Version.Minor), .d (.int .i64 vy6.Version.Patch), .d (.lst (List.map encS vy6.Models)), .d (.lst (List.map api_Range.enc vy6.From)), .d (.int .i64 vy6.Size)])]⟩ (tl [(0, .v (.one (.d (.lst (List.map api_Image.enc qx))))), (4, .v (.one (.box 0 0))), (11, .v (.one (.d (.lst (List.map api_Image.enc qx))))), (12, .v (.one (.d (.int .i64 (qx.length : Int))))), (13, .v (.one (.d (.int .i64 vx)))), (49, .v (.one (.d (.lst (List.map encS vy6.Models))))), (50, .v (.one (.d (.int .i64 (vy6.Models.length : Int))))), (51, .v (.one (.d (.int .i64 vx7)))), (70, .v (.one (.d (.bool vx9))))]) 1

def campaign_CheckImages_x4_I (qx : List api_Image) (vx : Int) (vy6 : api_Image) (vx7 : Int) (vy10 : List UInt8) : St := Mem.st ⟨[], [(0, [.d (.int .i64 vy6.Version.Major), .d (.int .i64 vy6.Version.Minor), .d (.int .i64 vy6.Version.Patch), .d (.lst (List.map encS vy6.Models)), .d (.lst (List.map api_Range.enc vy6.From)), .d (.int .i64 vy6.Size)])]⟩ (tl [(0, .v (.one (.d (.lst (List.map api_Image.enc qx))))), (4, .v (.one (.box 0 0))), (5, .v (.one (.d (.int .i64 vx7)))), (6, .v (.one (.d (.str vy10)))), (11, .v (.one (.d (.lst (List.map api_Image.enc qx))))), (12, .v (.one (.d (.int .i64 (qx.length : Int))))), (13, .v (.one (.d (.int .i64 vx)))), (49, .v (.one (.d (.lst (List.map encS vy6.Models))))), (50, .v (.one (.d (.int .i64 (vy6.Models.length : Int))))), (51, .v (.one (.d (.int .i64 vx7))))]) 1

theorem campaign_CheckImages_x4_ok (qx : List api_Image) (vx : Int) (vy6 : api_Image) (vx7 : Int) (vy10 : List UInt8) {r} (hF : campaign_CheckImages_x4 vy6 vx7 vy10 = some r) : Awp prog 0 81 (cL (cR (cR (cL (cL (cR (cR (cL (cL (cR (cL (cR (cR (cL (cL (cR (cR (cL (cL (cR (cL (cR (cR (cB f14)))))))))))))))))))))))) (Out 0 campaign_CheckImages_x4_k (campaign_CheckImages_x4_S qx vx vy6 vx7 vy10) r) (campaign_CheckImages_x4_I qx vx vy6 vx7 vy10) := by
  unfold campaign_CheckImages_x4 at hF
  refine cE hF (fun h17 hF => ?_) fun h17 hF => ?_
  · refine bE hF fun vy11 h18 hF => ?_
    refine awp_region ?_
    refine aR 1 ?_
    refine aB h17 ?_
    refine aR 6 ?_
    refine aX (x_idx encS h18) ?_
    refine aR 3 ?_
    refine aE ?_
    exact oO hF [] [] rfl
  · refine awp_region ?_
    refine aR 1 ?_
    refine aB h17 ?_
    refine aR 10 ?_
    refine aE ?_
    exact oO hF [] [] rfl

def campaign_CheckImages_x3_k : Unit ⊕ Int → AEx
  | .inl _ => .exit 3
  | .inr _ => .ret

def campaign_CheckImages_x3_S (qx : List api_Image) (vx : Int) (vy6 : api_Image) : Unit ⊕ Int → St
  | .inl _ => Mem.st ⟨[], [(0, [.d (.int .i64 vy6.Version.Major), .d (.int .i64 vy6.Version.Minor), .d (.int .i64 vy6.Version.Patch), .d (.lst (List.map encS vy6.Models)), .d (.lst (List.map api_Range.enc vy6.From)), .d (.int .i64 vy6.Size)])]⟩ (tl [(0, .v (.one (.d (.lst (List.map api_Image.enc qx))))), (4, .v (.one (.box 0 0))), (11, .v (.one (.d (.lst (List.map api_Image.enc qx))))), (12, .v (.one (.d (.int .i64 (qx.length : Int))))), (13, .v (.one (.d (.int .i64 vx))))]) 1
  | .inr vx10 => Mem.st ⟨[], []⟩ (tl [(2, .v (.one (.d (.int .i64 vx10))))]) 0

def campaign_CheckImages_x3_H (qx : List api_Image) (vx : Int) (vy6 : api_Image) : Int → St
  | vx7 => Mem.st ⟨[], [(0, [.d (.int .i64 vy6.Version.Major), .d (.int .i64 vy6.Version.Minor), .d (.int .i64 vy6.Version.Patch), .d (.lst (List.map encS vy6.Models)), .d (.lst (List.map api_Range.enc vy6.From)), .d (.int .i64 vy6.Size)])]⟩ (tl [(0, .v (.one (.d (.lst (List.map api_Image.enc qx))))), (4, .v (.one (.box 0 0))), (11, .v (.one (.d (.lst (List.map api_Image.enc qx))))), (12, .v (.one (.d (.int .i64 (qx.length : Int))))), (13, .v (.one (.d (.int .i64 vx)))), (49, .v (.one (.d (.lst (List.map encS vy6.Models))))), (50, .v (.one (.d (.int .i64 (vy6.Models.length : Int))))), (51, .v (.one (.d (.int .i64 vx7))))]) 1

theorem campaign_CheckImages_x3_ok (qx : List api_Image) (vx : Int) (vy6 : api_Image) (vx7 : Int) (r : (Int) ⊕ (Unit ⊕ Int)) (hF : campaign_CheckImages_x3 vy6 vx7 = some r) : Awp prog 0 81 (cL (cL (cR (cL (cR (cR (cL (cL (cR (cR (cL (cL (cR (cL (cR (cR (cB f14))))))))))))))))) (Out 0 (kk campaign_CheckImages_x3_k) (SS (campaign_CheckImages_x3_H qx vx vy6) (campaign_CheckImages_x3_S qx vx vy6)) r) (campaign_CheckImages_x3_H qx vx vy6 vx7) := by
  unfold campaign_CheckImages_x3 at hF
  refine awp_seq ?_
  refine awp_region ?_
  refine aR 1 ?_
  refine aE ?_
  refine awp_seq ?_
  refine cE hF (fun h13 hF => ?_) fun h13 hF => ?_
  · refine awp_true (by kernel_rfl) h13 ?_
    refine awp_skip ?_
    refine awp_seq ?_
    refine awp_block ?_
    refine awp_seq ?_
    refine bE hF fun vy10 h14 hF => ?_
    refine awp_region ?_
    refine aR 1 ?_
    refine aX (x_idx encS h14) ?_
    refine aR 3 ?_
    refine aE ?_
    refine awp_seq ?_
    refine awp_seq ?_
    refine bE hF fun vr7 h15 hF => ?_
    refine awp_region ?_
    refine aR 1 ?_
    refine aC (base_Key_ok h15) [] [] [] ?_
    refine aR 1 ?_
    refine aE ?_
    refine cE hF (fun h16 hF => ?_) fun h16 hF => ?_
    · refine awp_true (by kernel_rfl) h16 ?_
      refine awp_seq ?_
      refine awp_region ?_
      refine aR 1 ?_
      refine aE ?_
      refine awp_ret ?_
      exact oO hF [] [] rfl
    · refine awp_false (by kernel_rfl) h16 ?_
      refine awp_skip ?_
      refine awp_seq ?_
      refine awp_to (st' := campaign_CheckImages_x4_I qx vx vy6 vx7 vy10) (oT [] []) ?_
      refine bE hF fun vx9_1 h19 hF => ?_
      refine awp_sub (campaign_CheckImages_x4_ok qx vx vy6 vx7 vy10 h19) ?_
      refine cE hF (fun h20 hF => ?_) fun h20 hF => ?_
      · refine awp_true (by kernel_rfl) h20 ?_
        refine awp_seq ?_
        refine awp_region ?_
        refine aR 1 ?_
        refine aE ?_
        refine awp_ret ?_
        exact oO hF [] [] rfl
      · refine awp_false (by kernel_rfl) h20 ?_
        refine awp_skip ?_
        refine awp_region ?_
        refine aR 2 ?_
        refine aE ?_
        exact oO hF [] [] rfl
  · refine awp_false (by kernel_rfl) h13 ?_
    refine awp_exit ?_
    exact oO hF [] [] rfl

def campaign_CheckImages_x1_k : Unit ⊕ Int → AEx
  | .inl _ => .exit 0
  | .inr _ => .ret

def campaign_CheckImages_x1_S (qx : List api_Image) : Unit ⊕ Int → St
  | .inl _ => Mem.st ⟨[], []⟩ (tl []) 0
  | .inr vx11 => Mem.st ⟨[], []⟩ (tl [(2, .v (.one (.d (.int .i64 vx11))))]) 0

def campaign_CheckImages_x1_H (qx : List api_Image) : Int → St
  | vx => Mem.st ⟨[], []⟩ (tl [(0, .v (.one (.d (.lst (List.map api_Image.enc qx))))), (11, .v (.one (.d (.lst (List.map api_Image.enc qx))))), (12, .v (.one (.d (.int .i64 (qx.length : Int))))), (13, .v (.one (.d (.int .i64 vx))))]) 0

theorem campaign_CheckImages_x1_ok (qx : List api_Image) (vx : Int) (r : (Int) ⊕ (Unit ⊕ Int)) (hF : campaign_CheckImages_x1 qx vx = some r) : Awp prog 0 81 (cL (cL (cR (cL (cR (cR (cB f14))))))) (Out 0 (kk campaign_CheckImages_x1_k) (SS (campaign_CheckImages_x1_H qx) (campaign_CheckImages_x1_S qx)) r) (campaign_CheckImages_x1_H qx vx) := by
  unfold campaign_CheckImages_x1 at hF
  refine awp_seq ?_
  refine awp_region ?_
  refine aR 1 ?_
  refine aE ?_
  refine awp_seq ?_
  refine cE hF (fun h2 hF => ?_) fun h2 hF => ?_
  · refine awp_true (by kernel_rfl) h2 ?_
    refine awp_skip ?_
    refine awp_seq ?_
    refine awp_block ?_
    refine awp_seq ?_
    refine bE hF fun vy6 h3 hF => ?_
    refine awp_region ?_
    refine aR 1 ?_
    refine aX (x_idx api_Image.enc h3) ?_
    refine aR 4 ?_
    refine aE ?_
    refine awp_seq ?_
    refine awp_block ?_
    refine awp_seq ?_
    refine bE hF fun vr3_1 h4 hF => ?_
    refine awp_region ?_
    refine aR 2 ?_
    refine aC (base_Version_ok h4) [] [] [] ?_
    refine aR 2 ?_
    refine aE ?_
    refine cE hF (fun h5 hF => ?_) fun h5 hF => ?_
    · refine awp_true (by kernel_rfl) h5 ?_
      refine awp_seq ?_
      refine awp_region ?_
      refine aR 1 ?_
      refine aE ?_
      refine awp_ret ?_
      exact oO hF [] [] rfl
    · refine awp_false (by kernel_rfl) h5 ?_
      refine awp_seq ?_
      refine awp_to (st' := campaign_CheckImages_x2_I qx vx vy6) (oT [(0, 4000)] []) ?_
      refine bE hF fun vx6_1 h9 hF => ?_
      refine awp_sub (campaign_CheckImages_x2_ok qx vx vy6 h9) ?_
      refine cE hF (fun h10 hF => ?_) fun h10 hF => ?_
      · refine awp_true (by kernel_rfl) h10 ?_
        refine awp_seq ?_
        refine awp_region ?_
        refine aR 1 ?_
        refine aE ?_
        refine awp_ret ?_
        exact oO hF [] [] rfl
      · refine awp_false (by kernel_rfl) h10 ?_
        refine awp_seq ?_
        refine awp_region ?_
        refine aR 2 ?_
        refine aL encS vy6.Models ?_
        refine aR 2 ?_
        refine aE ?_
        refine cE hF (fun h11 hF => ?_) fun h11 hF => ?_
        · refine awp_true (by kernel_rfl) h11 ?_
          refine awp_seq ?_
          refine awp_region ?_
          refine aR 1 ?_
          refine aE ?_
          refine awp_ret ?_
          exact oO hF [] [] rfl
        · refine awp_false (by kernel_rfl) h11 ?_
          refine awp_seq ?_
          refine awp_region ?_
          refine aR 2 ?_
          refine aL encS vy6.Models ?_
          refine aR 2 ?_
          refine aE ?_
          refine cE hF (fun h12 hF => ?_) fun h12 hF => ?_
          · refine awp_true (by kernel_rfl) h12 ?_
            refine awp_seq ?_
            refine awp_region ?_
            refine aR 1 ?_
            refine aE ?_
            refine awp_ret ?_
            exact oO hF [] [] rfl
          · refine awp_false (by kernel_rfl) h12 ?_
            refine awp_skip ?_
            refine awp_seq ?_
            refine awp_seq ?_
            refine awp_region ?_
            refine aR 2 ?_
            refine aL encS vy6.Models ?_
            refine aR 1 ?_
            refine aE ?_
            refine awp_block ?_
            refine awp_to (st' := campaign_CheckImages_x3_H qx vx vy6 0) (oT [] []) ?_
            refine bE hF fun x h21 hF => ?_
            rcases x with _ | vx10_1
            · refine awp_sub (awp_loop' (campaign_CheckImages_x3_H qx vx vy6) campaign_CheckImages_x3_k (campaign_CheckImages_x3_S qx vx vy6) (by intro x; rcases x with x | x <;> exact fun h => nomatch h) h21 (campaign_CheckImages_x3_ok qx vx vy6)) ?_
              refine awp_seq ?_
              refine awp_seq ?_
              refine bE hF fun vr8 h22 hF => ?_
              refine awp_region ?_
              refine aR 1 ?_
              refine aC (campaign_rangesFault_ok h22) [] [] [] ?_
              refine aR 1 ?_
              refine aE ?_
              refine awp_seq ?_
              refine awp_region ?_
              refine aR 2 ?_
              refine aE ?_
              refine cE hF (fun h23 hF => ?_) fun h23 hF => ?_
              · refine awp_true (by kernel_rfl) h23 ?_
                refine awp_seq ?_
                refine awp_region ?_
                refine aR 2 ?_
                refine aE ?_
                refine awp_ret ?_
                exact oO hF [] [] rfl
              · refine awp_false (by kernel_rfl) h23 ?_
                refine awp_skip ?_
                refine awp_seq ?_
                refine bE hF fun vr9 h24 hF => ?_
                refine awp_region ?_
                refine aR 2 ?_
                refine aC (base_Out_ok h24) [] [] [] ?_
                refine aE ?_
                refine cE hF (fun h25 hF => ?_) fun h25 hF => ?_
                · refine awp_true (by kernel_rfl) h25 ?_
                  refine awp_seq ?_
                  refine awp_region ?_
                  refine aR 1 ?_
                  refine aE ?_
                  refine awp_ret ?_
                  exact oO hF [] [] rfl
                · refine awp_false (by kernel_rfl) h25 ?_
                  refine awp_skip ?_
                  refine awp_region ?_
                  refine aR 2 ?_
                  refine aE ?_
                  exact oO hF [] [] rfl
            · refine awp_sub (awp_loop' (campaign_CheckImages_x3_H qx vx vy6) campaign_CheckImages_x3_k (campaign_CheckImages_x3_S qx vx vy6) (by intro x; rcases x with x | x <;> exact fun h => nomatch h) h21 (campaign_CheckImages_x3_ok qx vx vy6)) ?_
              exact oO hF [] [] rfl
  · refine awp_false (by kernel_rfl) h2 ?_
    refine awp_exit ?_
    exact oO hF [] [] rfl

def campaign_CheckImages_R (qx : List api_Image) (r : Int) : TV × Mem := (.v (.one (.d (.int .i64 r))), ⟨[], []⟩)

theorem campaign_CheckImages_ok {qx : List api_Image} {r} (hF : campaign_CheckImages qx = some r) : Holds prog 14 [.v (.one (.d (.lst (List.map api_Image.enc qx))))] ⟨[], []⟩ (Is (campaign_CheckImages_R qx r)) := by
  unfold campaign_CheckImages at hF
  refine holds_of_awp hΓ (fn := f14) (c := cB f14) (A := 0) (nx := 0) (by kernel_rfl) (by kernel_rfl) (by kernel_rfl) (by kernel_rfl) (by kernel_rfl) (by kernel_rfl) (lowc_of (by kernel_rfl)) ?_
  show Awp prog 0 81 (cB f14) _ _
  refine awp_seq ?_
  refine awp_region ?_
  refine aR 1 ?_
  refine aE ?_
  refine awp_seq ?_
  refine awp_seq ?_
  refine awp_region ?_
  refine aR 1 ?_
  refine aL api_Image.enc qx ?_
  refine aR 1 ?_
  refine aE ?_
  refine cE hF (fun h1 hF => ?_) fun h1 hF => ?_
  · refine awp_true (by kernel_rfl) h1 ?_
    refine awp_seq ?_
    refine awp_region ?_
    refine aR 1 ?_
    refine aE ?_
    refine awp_ret ?_
    exact oF hF [] []
  · refine awp_false (by kernel_rfl) h1 ?_
    refine awp_skip ?_
    refine awp_seq ?_
    refine awp_seq ?_
    refine awp_region ?_
    refine aR 1 ?_
    refine aL api_Image.enc qx ?_
    refine aR 1 ?_
    refine aE ?_
    refine awp_block ?_
    refine awp_to (st' := campaign_CheckImages_x1_H qx 0) (oT [] []) ?_
    refine bE hF fun x h26 hF => ?_
    rcases x with _ | vx11_1
    · refine awp_sub (awp_loop' (campaign_CheckImages_x1_H qx) campaign_CheckImages_x1_k (campaign_CheckImages_x1_S qx) (by intro x; rcases x with x | x <;> exact fun h => nomatch h) h26 (campaign_CheckImages_x1_ok qx)) ?_
      refine awp_seq ?_
      refine awp_region ?_
      refine aR 1 ?_
      refine aE ?_
      refine awp_ret ?_
      exact oF hF [] []
    · refine awp_sub (awp_loop' (campaign_CheckImages_x1_H qx) campaign_CheckImages_x1_k (campaign_CheckImages_x1_S qx) (by intro x; rcases x with x | x <;> exact fun h => nomatch h) h26 (campaign_CheckImages_x1_ok qx)) ?_
      exact oF hF [] []

/-! ### beaconfleet/fleetref2.Key -/
def fleetref2_Key_x1_k : Bool → AEx
  | _ => .normal

def fleetref2_Key_x1_S (qs : List UInt8) : Bool → St
  | vx => Mem.st ⟨[], []⟩ (tl [(2, .v (.one (.d (.bool vx))))]) 0

def fleetref2_Key_x1_I (qs : List UInt8) : St := Mem.st ⟨[], []⟩ (tl [(0, .v (.one (.d (.str qs))))]) 0

theorem fleetref2_Key_x1_ok (qs : List UInt8) {r} (hF : fleetref2_Key_x1 qs = some r) : Awp prog 0 15 (cL (cR (cB f39))) (Out 0 fleetref2_Key_x1_k (fleetref2_Key_x1_S qs) r) (fleetref2_Key_x1_I qs) := by
  unfold fleetref2_Key_x1 at hF
  refine bE hF fun vr h1 hF => ?_
  refine cE hF (fun h2 hF => ?_) fun h2 hF => ?_
  · refine bE hF fun vs h3 hF => ?_
    refine bE hF fun vr1 h4 hF => ?_
    refine cE hF (fun h5 hF => ?_) fun h5 hF => ?_
    · refine bE hF fun vr2 h6 hF => ?_
      refine awp_region ?_
      refine aR 2 ?_
      refine aCb (fleetref2_in_ok h1) [] [] [] h2 ?_
      refine aR 2 ?_
      refine aX (x_sliceS h3) ?_
      refine aCb (fleetref2_only_ok h4) [] [] [] h5 ?_
      refine aR 3 ?_
      refine aC (fleetref2_only_ok h6) [] [] [] ?_
      refine aR 2 ?_
      refine aE ?_
      exact oO hF [] [] rfl
    · refine awp_region ?_
      refine aR 2 ?_
      refine aCb (fleetref2_in_ok h1) [] [] [] h2 ?_
      refine aR 2 ?_
      refine aX (x_sliceS h3) ?_
      refine aCb (fleetref2_only_ok h4) [] [] [] h5 ?_
      refine aR 6 ?_
      refine aE ?_
      exact oO hF [] [] rfl
  · refine awp_region ?_
    refine aR 2 ?_
    refine aCb (fleetref2_in_ok h1) [] [] [] h2 ?_
    refine aR 10 ?_
    refine aE ?_
    exact oO hF [] [] rfl

def fleetref2_Key_R (qs : List UInt8) (r : Bool) : TV × Mem := (.v (.one (.d (.bool r))), ⟨[], []⟩)

theorem fleetref2_Key_ok {qs : List UInt8} {r} (hF : fleetref2_Key qs = some r) : Holds prog 39 [.v (.one (.d (.str qs)))] ⟨[], []⟩ (Is (fleetref2_Key_R qs r)) := by
  unfold fleetref2_Key at hF
  refine holds_of_awp hΓ (fn := f39) (c := cB f39) (A := 0) (nx := 0) (by kernel_rfl) (by kernel_rfl) (by kernel_rfl) (by kernel_rfl) (by kernel_rfl) (by kernel_rfl) (lowc_of (by kernel_rfl)) ?_
  show Awp prog 0 15 (cB f39) _ _
  refine awp_seq ?_
  refine awp_region ?_
  refine aR 1 ?_
  refine aE ?_
  refine awp_seq ?_
  refine awp_to (st' := fleetref2_Key_x1_I qs) (oT [] []) ?_
  refine bE hF fun vx1 h7 hF => ?_
  refine awp_sub (fleetref2_Key_x1_ok qs h7) ?_
  refine awp_ret ?_
  exact oF hF [] []

/-! ### beaconfleet/fleetref2.fits$1 -/
def fleetref2_fits_1_x1_k : Bool → AEx
  | _ => .normal

def fleetref2_fits_1_x1_S (qr : api_Range) (qx : api_Version) : Bool → St
  | vx => Mem.st ⟨[], [(0, [.d (.int .i64 qx.Major), .d (.int .i64 qx.Minor), .d (.int .i64 qx.Patch)])]⟩ (tl [(3, .v (.one (.d (.bool vx))))]) 1

def fleetref2_fits_1_x1_I (qr : api_Range) (qx : api_Version) : St := Mem.st ⟨[], [(0, [.d (.int .i64 qx.Major), .d (.int .i64 qx.Minor), .d (.int .i64 qx.Patch)]), (1, [.d (.int .i64 qr.Low.Major), .d (.int .i64 qr.Low.Minor), .d (.int .i64 qr.Low.Patch), .d (.int .i64 qr.High.Major), .d (.int .i64 qr.High.Minor), .d (.int .i64 qr.High.Patch)])]⟩ (tl [(1, .v (.one (.box 0 0))), (2, .v (.one (.box 1 0)))]) 2

theorem fleetref2_fits_1_x1_ok (qr : api_Range) (qx : api_Version) {r} (hF : fleetref2_fits_1_x1 qr qx = some r) : Awp prog 1 16 (cL (cR (cB f64))) (Out 1 fleetref2_fits_1_x1_k (fleetref2_fits_1_x1_S qr qx) r) (fleetref2_fits_1_x1_I qr qx) := by
  unfold fleetref2_fits_1_x1 at hF
  refine bE hF fun vr h1 hF => ?_
  refine cE hF (fun h2 hF => ?_) fun h2 hF => ?_
  · refine bE hF fun vr1 h3 hF => ?_
    refine awp_region ?_
    refine aR 3 ?_
    refine aC (fleetref2_VersionOrder_ok h1) [] [] [] ?_
    refine aB h2 ?_
    refine aR 4 ?_
    refine aC (fleetref2_VersionOrder_ok h3) [] [] [] ?_
    refine aR 3 ?_
    refine aE ?_
    exact oO hF [] [] rfl
  · refine awp_region ?_
    refine aR 3 ?_
    refine aC (fleetref2_VersionOrder_ok h1) [] [] [] ?_
    refine aB h2 ?_
    refine aR 8 ?_
    refine aE ?_
    exact oO hF [] [] rfl

def fleetref2_fits_1_R (qr : api_Range) (qx : api_Version) (r : Bool) : TV × Mem := (.v (.one (.d (.bool r))), ⟨[], [(0, [.d (.int .i64 qx.Major), .d (.int .i64 qx.Minor), .d (.int .i64 qx.Patch)])]⟩)

theorem fleetref2_fits_1_ok {qr : api_Range} {qx : api_Version} {r} (hF : fleetref2_fits_1 qr qx = some r) : Holds prog 64 [.v (.agg [.d (.int .i64 qr.Low.Major), .d (.int .i64 qr.Low.Minor), .d (.int .i64 qr.Low.Patch), .d (.int .i64 qr.High.Major), .d (.int .i64 qr.High.Minor), .d (.int .i64 qr.High.Patch)]), .v (.one (.box 0 0))] ⟨[], [(0, [.d (.int .i64 qx.Major), .d (.int .i64 qx.Minor), .d (.int .i64 qx.Patch)])]⟩ (Is (fleetref2_fits_1_R qr qx r)) := by
  unfold fleetref2_fits_1 at hF
  refine holds_of_awp hΓ (fn := f64) (c := cB f64) (A := 1) (nx := 1) (by kernel_rfl) (by kernel_rfl) (by kernel_rfl) (by kernel_rfl) (by kernel_rfl) (by kernel_rfl) (lowc_of (by kernel_rfl)) ?_
  show Awp prog 1 16 (cB f64) _ _
  refine awp_seq ?_
  refine awp_region ?_
  refine aR 2 ?_
  refine aE ?_
  refine awp_seq ?_
  refine awp_to (st' := fleetref2_fits_1_x1_I qr qx) (oT [] []) ?_
  refine bE hF fun vx1 h4 hF => ?_
  refine awp_sub (fleetref2_fits_1_x1_ok qr qx h4) ?_
  refine awp_ret ?_
  exact oF hF [] []

/-! ### slices.IndexFunc[[]beaconfleet/api.Range,beaconfleet/api.Range] -/
def slices_IndexFunc_api_Range_api_Range_f1_fleetref2_fits_1_x1_k : Unit ⊕ Int → AEx
  | .inl _ => .exit 0
  | .inr _ => .ret

def slices_IndexFunc_api_Range_api_Range_f1_fleetref2_fits_1_x1_S (qs : List api_Range) (qf : api_Version) : Unit ⊕ Int → St
  | .inl _ => Mem.st ⟨[], [(0, [.d (.int .i64 qf.Major), .d (.int .i64 qf.Minor), .d (.int .i64 qf.Patch)])]⟩ (tl []) 1
  | .inr vx1 => Mem.st ⟨[], [(0, [.d (.int .i64 qf.Major), .d (.int .i64 qf.Minor), .d (.int .i64 qf.Patch)])]⟩ (tl [(4, .v (.one (.d (.int .i64 vx1))))]) 1

def slices_IndexFunc_api_Range_api_Range_f1_fleetref2_fits_1_x1_H (qs : List api_Range) (qf : api_Version) : Int → St
  | vx => Mem.st ⟨[], [(0, [.d (.int .i64 qf.Major), .d (.int .i64 qf.Minor), .d (.int .i64 qf.Patch)])]⟩ (tl [(0, .v (.one (.d (.lst (List.map api_Range.enc qs))))), (1, .v (.one (.fn 64 [0]))), (7, .v (.one (.d (.int .i64 (qs.length : Int))))), (8, .v (.one (.d (.int .i64 vx))))]) 1

theorem slices_IndexFunc_api_Range_api_Range_f1_fleetref2_fits_1_x1_ok (qs : List api_Range) (qf : api_Version) (vx : Int) (r : (Int) ⊕ (Unit ⊕ Int)) (hF : slices_IndexFunc_api_Range_api_Range_f1_fleetref2_fits_1_x1 qs qf vx = some r) : Awp prog 1 19 (cL (cL (cR (cL (cR (cB f80)))))) (Out 1 (kk slices_IndexFunc_api_Range_api_Range_f1_fleetref2_fits_1_x1_k) (SS (slices_IndexFunc_api_Range_api_Range_f1_fleetref2_fits_1_x1_H qs qf) (slices_IndexFunc_api_Range_api_Range_f1_fleetref2_fits_1_x1_S qs qf)) r) (slices_IndexFunc_api_Range_api_Range_f1_fleetref2_fits_1_x1_H qs qf vx) := by
  unfold slices_IndexFunc_api_Range_api_Range_f1_fleetref2_fits_1_x1 at hF
  refine awp_seq ?_
  refine awp_region ?_
  refine aR 1 ?_
  refine aE ?_
  refine awp_seq ?_
  refine cE hF (fun h1 hF => ?_) fun h1 hF => ?_
  · refine awp_true (by kernel_rfl) h1 ?_
    refine awp_skip ?_
    refine awp_seq ?_
    refine awp_block ?_
    refine awp_seq ?_
    refine awp_region ?_
    refine aR 2 ?_
    refine aE ?_
    refine awp_seq ?_
    refine bE hF fun vy1 h2 hF => ?_
    refine bE hF fun vr2_1 h3 hF => ?_
    refine awp_region ?_
    refine aR 3 ?_
    refine aX (x_idx api_Range.enc h2) ?_
    refine aR 1 ?_
    refine aC (fleetref2_fits_1_ok h3) [] [] [] ?_
    refine aE ?_
    refine cE hF (fun h4 hF => ?_) fun h4 hF => ?_
    · refine awp_true (by kernel_rfl) h4 ?_
      refine awp_seq ?_
      refine awp_region ?_
      refine aR 2 ?_
      refine aE ?_
      refine awp_ret ?_
      exact oO hF [] [] rfl
    · refine awp_false (by kernel_rfl) h4 ?_
      refine awp_skip ?_
      refine awp_region ?_
      refine aR 2 ?_
      refine aE ?_
      exact oO hF [] [] rfl
  · refine awp_false (by kernel_rfl) h1 ?_
    refine awp_exit ?_
    exact oO hF [] [] rfl

def slices_IndexFunc_api_Range_api_Range_f1_fleetref2_fits_1_R (qs : List api_Range) (qf : api_Version) (r : Int) : TV × Mem := (.v (.one (.d (.int .i64 r))), ⟨[], [(0, [.d (.int .i64 qf.Major), .d (.int .i64 qf.Minor), .d (.int .i64 qf.Patch)])]⟩)

theorem slices_IndexFunc_api_Range_api_Range_f1_fleetref2_fits_1_ok {qs : List api_Range} {qf : api_Version} {r} (hF : slices_IndexFunc_api_Range_api_Range_f1_fleetref2_fits_1 qs qf = some r) : Holds prog 80 [.v (.one (.d (.lst (List.map api_Range.enc qs)))), .v (.one (.fn 64 [0]))] ⟨[], [(0, [.d (.int .i64 qf.Major), .d (.int .i64 qf.Minor), .d (.int .i64 qf.Patch)])]⟩ (Is (slices_IndexFunc_api_Range_api_Range_f1_fleetref2_fits_1_R qs qf r)) := by
  unfold slices_IndexFunc_api_Range_api_Range_f1_fleetref2_fits_1 at hF
  refine holds_of_awp hΓ (fn := f80) (c := cB f80) (A := 1) (nx := 1) (by kernel_rfl) (by kernel_rfl) (by kernel_rfl) (by kernel_rfl) (by kernel_rfl) (by kernel_rfl) (lowc_of (by kernel_rfl)) ?_
  show Awp prog 1 19 (cB f80) _ _
  refine awp_seq ?_
  refine awp_region ?_
  refine aR 1 ?_
  refine aE ?_
  refine awp_seq ?_
  refine awp_seq ?_
  refine awp_region ?_
  refine aR 1 ?_
  refine aL api_Range.enc qs ?_
  refine aR 1 ?_
  refine aE ?_
  refine awp_block ?_
  refine awp_to (st' := slices_IndexFunc_api_Range_api_Range_f1_fleetref2_fits_1_x1_H qs qf 0) (oT [] []) ?_
  refine bE hF fun x h5 hF => ?_
  rcases x with _ | vx1_1
  · refine awp_sub (awp_loop' (slices_IndexFunc_api_Range_api_Range_f1_fleetref2_fits_1_x1_H qs qf) slices_IndexFunc_api_Range_api_Range_f1_fleetref2_fits_1_x1_k (slices_IndexFunc_api_Range_api_Range_f1_fleetref2_fits_1_x1_S qs qf) (by intro x; rcases x with x | x <;> exact fun h => nomatch h) h5 (slices_IndexFunc_api_Range_api_Range_f1_fleetref2_fits_1_x1_ok qs qf)) ?_
    refine awp_seq ?_
    refine awp_region ?_
    refine aR 1 ?_
    refine aE ?_
    refine awp_ret ?_
    exact oF hF [] []
  · refine awp_sub (awp_loop' (slices_IndexFunc_api_Range_api_Range_f1_fleetref2_fits_1_x1_H qs qf) slices_IndexFunc_api_Range_api_Range_f1_fleetref2_fits_1_x1_k (slices_IndexFunc_api_Range_api_Range_f1_fleetref2_fits_1_x1_S qs qf) (by intro x; rcases x with x | x <;> exact fun h => nomatch h) h5 (slices_IndexFunc_api_Range_api_Range_f1_fleetref2_fits_1_x1_ok qs qf)) ?_
    exact oF hF [] []

/-! ### slices.ContainsFunc[[]beaconfleet/api.Range,beaconfleet/api.Range] -/
def slices_ContainsFunc_api_Range_api_Range_f1_fleetref2_fits_1_R (qs : List api_Range) (qf : api_Version) (r : Bool) : TV × Mem := (.v (.one (.d (.bool r))), ⟨[], [(0, [.d (.int .i64 qf.Major), .d (.int .i64 qf.Minor), .d (.int .i64 qf.Patch)])]⟩)

theorem slices_ContainsFunc_api_Range_api_Range_f1_fleetref2_fits_1_ok {qs : List api_Range} {qf : api_Version} {r} (hF : slices_ContainsFunc_api_Range_api_Range_f1_fleetref2_fits_1 qs qf = some r) : Holds prog 62 [.v (.one (.d (.lst (List.map api_Range.enc qs)))), .v (.one (.fn 64 [0]))] ⟨[], [(0, [.d (.int .i64 qf.Major), .d (.int .i64 qf.Minor), .d (.int .i64 qf.Patch)])]⟩ (Is (slices_ContainsFunc_api_Range_api_Range_f1_fleetref2_fits_1_R qs qf r)) := by
  unfold slices_ContainsFunc_api_Range_api_Range_f1_fleetref2_fits_1 at hF
  refine holds_of_awp hΓ (fn := f62) (c := cB f62) (A := 1) (nx := 1) (by kernel_rfl) (by kernel_rfl) (by kernel_rfl) (by kernel_rfl) (by kernel_rfl) (by kernel_rfl) (lowc_of (by kernel_rfl)) ?_
  show Awp prog 1 9 (cB f62) _ _
  refine awp_seq ?_
  refine awp_region ?_
  refine aR 1 ?_
  refine aE ?_
  refine awp_seq ?_
  refine bE hF fun vr h1 hF => ?_
  refine awp_region ?_
  refine aR 2 ?_
  refine aC (slices_IndexFunc_api_Range_api_Range_f1_fleetref2_fits_1_ok h1) [] [] [] ?_
  refine aR 2 ?_
  refine aE ?_
  refine awp_ret ?_
  exact oF hF [] []

/-! ### beaconfleet/fleetref2.fits -/
def fleetref2_fits_R (qx : api_Image) (qv : api_Version) (r : Bool) : TV × Mem := (.v (.one (.d (.bool r))), ⟨[], []⟩)

theorem fleetref2_fits_ok {qx : api_Image} {qv : api_Version} {r} (hF : fleetref2_fits qx qv = some r) : Holds prog 53 [.v (.agg [.d (.int .i64 qx.Version.Major), .d (.int .i64 qx.Version.Minor), .d (.int .i64 qx.Version.Patch), .d (.lst (List.map encS qx.Models)), .d (.lst (List.map api_Range.enc qx.From)), .d (.int .i64 qx.Size)]), .v (.agg [.d (.int .i64 qv.Major), .d (.int .i64 qv.Minor), .d (.int .i64 qv.Patch)])] ⟨[], []⟩ (Is (fleetref2_fits_R qx qv r)) := by
  unfold fleetref2_fits at hF
  refine holds_of_awp hΓ (fn := f53) (c := cB f53) (A := 0) (nx := 0) (by kernel_rfl) (by kernel_rfl) (by kernel_rfl) (by kernel_rfl) (by kernel_rfl) (by kernel_rfl) (lowc_of (by kernel_rfl)) ?_
  show Awp prog 0 9 (cB f53) _ _
  refine awp_seq ?_
  refine awp_region ?_
  refine aR 3 ?_
  refine aE ?_
  refine awp_seq ?_
  refine bE hF fun vr1 h1 hF => ?_
  refine awp_region ?_
  refine aR 3 ?_
  refine aC (slices_ContainsFunc_api_Range_api_Range_f1_fleetref2_fits_1_ok h1) [(0, 1000)] [] [] ?_
  refine aR 1 ?_
  refine aE ?_
  refine awp_ret ?_
  exact oF hF [] []

/-! ### beaconfleet/fleetref2.rangesFault -/
def fleetref2_rangesFault_x2_k : Unit ⊕ Int → AEx
  | .inl _ => .exit 2
  | .inr _ => .ret

def fleetref2_rangesFault_x2_S (qx : api_Image) (vx : Int) (vy4 : api_Range) : Unit ⊕ Int → St
  | .inl _ => Mem.st ⟨[], [(0, [.d (.int .i64 qx.Version.Major), .d (.int .i64 qx.Version.Minor), .d (.int .i64 qx.Version.Patch), .d (.lst (List.map encS qx.Models)), .d (.lst (List.map api_Range.enc qx.From)), .d (.int .i64 qx.Size)]), (1, [.d (.int .i64 vy4.Low.Major), .d (.int .i64 vy4.Low.Minor), .d (.int .i64 vy4.Low.Patch), .d (.int .i64 vy4.High.Major), .d (.int .i64 vy4.High.Minor), .d (.int .i64 vy4.High.Patch)])]⟩ (tl [(1, .v (.one (.box 0 0))), (3, .v (.one (.d (.int .i64 vx)))), (4, .v (.one (.box 1 0))), (13, .v (.one (.d (.lst (List.map api_Range.enc qx.From))))), (14, .v (.one (.d (.int .i64 (qx.From.length : Int))))), (15, .v (.one (.d (.int .i64 vx))))]) 2
  | .inr vx5 => Mem.st ⟨[], []⟩ (tl [(2, .v (.one (.d (.int .i64 vx5))))]) 0

def fleetref2_rangesFault_x2_H (qx : api_Image) (vx : Int) (vy4 : api_Range) : Int → St
  | vx4 => Mem.st ⟨[], [(0, [.d (.int .i64 qx.Version.Major), .d (.int .i64 qx.Version.Minor), .d (.int .i64 qx.Version.Patch), .d (.lst (List.map encS qx.Models)), .d (.lst (List.map api_Range.enc qx.From)), .d (.int .i64 qx.Size)]), (1, [.d (.int .i64 vy4.Low.Major), .d (.int .i64 vy4.Low.Minor), .d (.int .i64 vy4.Low.Patch), .d (.int .i64 vy4.High.Major), .d (.int .i64 vy4.High.Minor), .d (.int .i64 vy4.High.Patch)])]⟩ (tl [(1, .v (.one (.box 0 0))), (3, .v (.one (.d (.int .i64 vx)))), (4, .v (.one (.box 1 0))), (13, .v (.one (.d (.lst (List.map api_Range.enc qx.From))))), (14, .v (.one (.d (.int .i64 (qx.From.length : Int))))), (15, .v (.one (.d (.int .i64 vx)))), (24, .v (.one (.d (.lst (List.map api_Version.enc ([api_Version.mk vy4.Low.Major vy4.Low.Minor vy4.Low.Patch, api_Version.mk vy4.High.Major vy4.High.Minor vy4.High.Patch] : List api_Version)))))), (25, .v (.one (.d (.int .i64 (([api_Version.mk vy4.Low.Major vy4.Low.Minor vy4.Low.Patch, api_Version.mk vy4.High.Major vy4.High.Minor vy4.High.Patch] : List api_Version).length : Int))))), (26, .v (.one (.d (.int .i64 vx4))))]) 2

theorem fleetref2_rangesFault_x2_ok (qx : api_Image) (vx : Int) (vy4 : api_Range) (vx4 : Int) (r : (Int) ⊕ (Unit ⊕ Int)) (hF : fleetref2_rangesFault_x2 vy4 vx4 = some r) : Awp prog 0 64 (cL (cL (cR (cL (cR (cL (cL (cR (cR (cL (cL (cR (cL (cR (cR (cB f40)))))))))))))))) (Out 0 (kk fleetref2_rangesFault_x2_k) (SS (fleetref2_rangesFault_x2_H qx vx vy4) (fleetref2_rangesFault_x2_S qx vx vy4)) r) (fleetref2_rangesFault_x2_H qx vx vy4 vx4) := by
  unfold fleetref2_rangesFault_x2 at hF
  refine awp_seq ?_
  refine awp_region ?_
  refine aR 1 ?_
  refine aE ?_
  refine awp_seq ?_
  refine cE hF (fun h4 hF => ?_) fun h4 hF => ?_
  · refine awp_true (by kernel_rfl) h4 ?_
    refine awp_skip ?_
    refine awp_seq ?_
    refine awp_block ?_
    refine awp_seq ?_
    refine bE hF fun vy6 h5 hF => ?_
    refine awp_region ?_
    refine aX (x_idx api_Version.enc h5) ?_
    refine aR 3 ?_
    refine aE ?_
    refine awp_seq ?_
    refine bE hF fun vr3_3 h6 hF => ?_
    refine awp_region ?_
    refine aR 1 ?_
    refine aC (fleetref2_versionFault_ok h6) [] [] [] ?_
    refine aR 1 ?_
    refine aE ?_
    refine awp_seq ?_
    refine awp_region ?_
    refine aR 2 ?_
    refine aE ?_
    refine cE hF (fun h7 hF => ?_) fun h7 hF => ?_
    · refine awp_true (by kernel_rfl) h7 ?_
      refine awp_seq ?_
      refine awp_region ?_
      refine aR 2 ?_
      refine aE ?_
      refine awp_ret ?_
      exact oO hF [] [] rfl
    · refine awp_false (by kernel_rfl) h7 ?_
      refine awp_skip ?_
      refine awp_region ?_
      refine aR 2 ?_
      refine aE ?_
      exact oO hF [] [] rfl
  · refine awp_false (by kernel_rfl) h4 ?_
    refine awp_exit ?_
    exact oO hF [] [] rfl

def fleetref2_rangesFault_x3_k : Bool → AEx
  | _ => .normal

def fleetref2_rangesFault_x3_S (qx : api_Image) (vx : Int) (vy4 : api_Range) : Bool → St
  | vx6 => Mem.st ⟨[], [(0, [.d (.int .i64 qx.Version.Major), .d (.int .i64 qx.Version.Minor), .d (.int .i64 qx.Version.Patch), .d (.lst (List.map encS qx.Models)), .d (.lst (List.map api_Range.enc qx.From)), .d (.int .i64 qx.Size)])]⟩ (tl [(1, .v (.one (.box 0 0))), (13, .v (.one (.d (.lst (List.map api_Range.enc qx.From))))), (14, .v (.one (.d (.int .i64 (qx.From.length : Int))))), (15, .v (.one (.d (.int .i64 vx)))), (43, .v (.one (.d (.bool vx6))))]) 1

def fleetref2_rangesFault_x3_I (qx : api_Image) (vx : Int) (vy4 : api_Range) : St := Mem.st ⟨[], [(0, [.d (.int .i64 qx.Version.Major), .d (.int .i64 qx.Version.Minor), .d (.int .i64 qx.Version.Patch), .d (.lst (List.map encS qx.Models)), .d (.lst (List.map api_Range.enc qx.From)), .d (.int .i64 qx.Size)]), (1, [.d (.int .i64 vy4.Low.Major), .d (.int .i64 vy4.Low.Minor), .d (.int .i64 vy4.Low.Patch), .d (.int .i64 vy4.High.Major), .d (.int .i64 vy4.High.Minor), .d (.int .i64 vy4.High.Patch)])]⟩ (tl [(1, .v (.one (.box 0 0))), (3, .v (.one (.d (.int .i64 vx)))), (4, .v (.one (.box 1 0))), (13, .v (.one (.d (.lst (List.map api_Range.enc qx.From))))), (14, .v (.one (.d (.int .i64 (qx.From.length : Int))))), (15, .v (.one (.d (.int .i64 vx))))]) 2

theorem fleetref2_rangesFault_x3_ok (qx : api_Image) (vx : Int) (vy4 : api_Range) {r} (hF : fleetref2_rangesFault_x3 qx vx vy4 = some r) : Awp prog 0 64 (cL (cR (cR (cL (cR (cR (cL (cL (cR (cR (cL (cL (cR (cL (cR (cR (cB f40))))))))))))))))) (Out 0 fleetref2_rangesFault_x3_k (fleetref2_rangesFault_x3_S qx vx vy4) r) (fleetref2_rangesFault_x3_I qx vx vy4) := by
  unfold fleetref2_rangesFault_x3 at hF
  refine cE hF (fun h11 hF => ?_) fun h11 hF => ?_
  · refine bE hF fun vy7 h12 hF => ?_
    refine bE hF fun vr4 h13 hF => ?_
    refine aD ?_
    refine dR 1 ?_
    refine dB h11 ?_
    refine dR 7 ?_
    refine dX (x_idx api_Range.enc h12) ?_
    refine dR 2 ?_
    refine dC (fleetref2_VersionOrder_ok h13) [] [] [] ?_
    refine dR 3 ?_
    refine dE ?_
    exact oO hF [] [] rfl
  · refine aD ?_
    refine dR 1 ?_
    refine dB h11 ?_
    refine dR 14 ?_
    refine dE ?_
    exact oO hF [] [] rfl

def fleetref2_rangesFault_x1_k : Unit ⊕ Int → AEx
  | .inl _ => .exit 0
  | .inr _ => .ret

def fleetref2_rangesFault_x1_S (qx : api_Image) : Unit ⊕ Int → St
  | .inl _ => Mem.st ⟨[], [(0, [.d (.int .i64 qx.Version.Major), .d (.int .i64 qx.Version.Minor), .d (.int .i64 qx.Version.Patch), .d (.lst (List.map encS qx.Models)), .d (.lst (List.map api_Range.enc qx.From)), .d (.int .i64 qx.Size)])]⟩ (tl [(1, .v (.one (.box 0 0)))]) 1
  | .inr vx7 => Mem.st ⟨[], []⟩ (tl [(2, .v (.one (.d (.int .i64 vx7))))]) 0

def fleetref2_rangesFault_x1_H (qx : api_Image) : Int → St
  | vx => Mem.st ⟨[], [(0, [.d (.int .i64 qx.Version.Major), .d (.int .i64 qx.Version.Minor), .d (.int .i64 qx.Version.Patch), .d (.lst (List.map encS qx.Models)), .d (.lst (List.map api_Range.enc qx.From)), .d (.int .i64 qx.Size)])]⟩ (tl [(1, .v (.one (.box 0 0))), (13, .v (.one (.d (.lst (List.map api_Range.enc qx.From))))), (14, .v (.one (.d (.int .i64 (qx.From.length : Int))))), (15, .v (.one (.d (.int .i64 vx))))]) 1

theorem fleetref2_rangesFault_x1_ok (qx : api_Image) (vx : Int) (r : (Int) ⊕ (Unit ⊕ Int)) (hF : fleetref2_rangesFault_x1 qx vx = some r) : Awp prog 0 64 (cL (cL (cR (cL (cR (cR (cB f40))))))) (Out 0 (kk fleetref2_rangesFault_x1_k) (SS (fleetref2_rangesFault_x1_H qx) (fleetref2_rangesFault_x1_S qx)) r) (fleetref2_rangesFault_x1_H qx vx) := by
  unfold fleetref2_rangesFault_x1 at hF
  refine awp_seq ?_
  refine awp_region ?_
  refine aR 1 ?_
  refine aE ?_
  refine awp_seq ?_
  refine cE hF (fun h2 hF => ?_) fun h2 hF => ?_
  · refine awp_true (by kernel_rfl) h2 ?_
    refine awp_skip ?_
    refine awp_seq ?_
    refine awp_block ?_
    refine awp_seq ?_
    refine bE hF fun vy4 h3 hF => ?_
    refine awp_region ?_
    refine aR 1 ?_
    refine aX (x_idx api_Range.enc h3) ?_
    refine aR 4 ?_
    refine aE ?_
    refine awp_seq ?_
    refine awp_seq ?_
    refine awp_region ?_
    refine aR 5 ?_
    refine aL api_Version.enc ([api_Version.mk vy4.Low.Major vy4.Low.Minor vy4.Low.Patch, api_Version.mk vy4.High.Major vy4.High.Minor vy4.High.Patch] : List api_Version) ?_
    refine aR 1 ?_
    refine aE ?_
    refine awp_to (oT (m := ⟨[], [(0, [.d (.int .i64 qx.Version.Major), .d (.int .i64 qx.Version.Minor), .d (.int .i64 qx.Version.Patch), .d (.lst (List.map encS qx.Models)), .d (.lst (List.map api_Range.enc qx.From)), .d (.int .i64 qx.Size)]), (1, [.d (.int .i64 vy4.Low.Major), .d (.int .i64 vy4.Low.Minor), .d (.int .i64 vy4.Low.Patch), .d (.int .i64 vy4.High.Major), .d (.int .i64 vy4.High.Minor), .d (.int .i64 vy4.High.Patch)])]⟩) (ts := [(1, .v (.one (.box 0 0))), (3, .v (.one (.d (.int .i64 vx)))), (4, .v (.one (.box 1 0))), (13, .v (.one (.d (.lst (List.map api_Range.enc qx.From))))), (14, .v (.one (.d (.int .i64 (qx.From.length : Int))))), (15, .v (.one (.d (.int .i64 vx)))), (24, .v (.one (.d (.lst (List.map api_Version.enc ([api_Version.mk vy4.Low.Major vy4.Low.Minor vy4.Low.Patch, api_Version.mk vy4.High.Major vy4.High.Minor vy4.High.Patch] : List api_Version)))))), (25, .v (.one (.d (.int .i64 (([api_Version.mk vy4.Low.Major vy4.Low.Minor vy4.Low.Patch, api_Version.mk vy4.High.Major vy4.High.Minor vy4.High.Patch] : List api_Version).length : Int))))), (26, .v (.one (.d (.int .i64 0))))]) (nx := 2) [(1, 4001)] []) ?_
    refine awp_block ?_
    refine awp_to (st' := fleetref2_rangesFault_x2_H qx vx vy4 0) (oT [] []) ?_
    refine bE hF fun x h8 hF => ?_
    rcases x with _ | vx5_1
    · refine awp_sub (awp_loop' (fleetref2_rangesFault_x2_H qx vx vy4) fleetref2_rangesFault_x2_k (fleetref2_rangesFault_x2_S qx vx vy4) (by intro x; rcases x with x | x <;> exact fun h => nomatch h) h8 (fleetref2_rangesFault_x2_ok qx vx vy4)) ?_
      refine awp_block ?_
      refine awp_seq ?_
      refine bE hF fun vr2 h9 hF => ?_
      refine awp_region ?_
      refine aR 4 ?_
      refine aC (fleetref2_VersionOrder_ok h9) [] [] [] ?_
      refine aR 2 ?_
      refine aE ?_
      refine cE hF (fun h10 hF => ?_) fun h10 hF => ?_
      · refine awp_true (by kernel_rfl) h10 ?_
        refine awp_seq ?_
        refine awp_region ?_
        refine aR 1 ?_
        refine aE ?_
        refine awp_ret ?_
        exact oO hF [] [] rfl
      · refine awp_false (by kernel_rfl) h10 ?_
        refine awp_seq ?_
        refine awp_to (st' := fleetref2_rangesFault_x3_I qx vx vy4) (oT [] []) ?_
        refine bE hF fun vx6_1 h14 hF => ?_
        refine awp_sub (fleetref2_rangesFault_x3_ok qx vx vy4 h14) ?_
        refine cE hF (fun h15 hF => ?_) fun h15 hF => ?_
        · refine awp_true (by kernel_rfl) h15 ?_
          refine awp_seq ?_
          refine awp_region ?_
          refine aR 1 ?_
          refine aE ?_
          refine awp_ret ?_
          exact oO hF [] [] rfl
        · refine awp_false (by kernel_rfl) h15 ?_
          refine awp_skip ?_
          refine awp_region ?_
          refine aR 2 ?_
          refine aE ?_
          exact oO hF [] [] rfl
    · refine awp_sub (awp_loop' (fleetref2_rangesFault_x2_H qx vx vy4) fleetref2_rangesFault_x2_k (fleetref2_rangesFault_x2_S qx vx vy4) (by intro x; rcases x with x | x <;> exact fun h => nomatch h) h8 (fleetref2_rangesFault_x2_ok qx vx vy4)) ?_
      exact oO hF [] [] rfl
  · refine awp_false (by kernel_rfl) h2 ?_
    refine awp_exit ?_
    exact oO hF [] [] rfl

def fleetref2_rangesFault_R (qx : api_Image) (r : Int) : TV × Mem := (.v (.one (.d (.int .i64 r))), ⟨[], []⟩)

theorem fleetref2_rangesFault_ok {qx : api_Image} {r} (hF : fleetref2_rangesFault qx = some r) : Holds prog 40 [.v (.agg [.d (.int .i64 qx.Version.Major), .d (.int .i64 qx.Version.Minor), .d (.int .i64 qx.Version.Patch), .d (.lst (List.map encS qx.Models)), .d (.lst (List.map api_Range.enc qx.From)), .d (.int .i64 qx.Size)])] ⟨[], []⟩ (Is (fleetref2_rangesFault_R qx r)) := by
  unfold fleetref2_rangesFault at hF
  refine holds_of_awp hΓ (fn := f40) (c := cB f40) (A := 0) (nx := 0) (by kernel_rfl) (by kernel_rfl) (by kernel_rfl) (by kernel_rfl) (by kernel_rfl) (by kernel_rfl) (lowc_of (by kernel_rfl)) ?_
  show Awp prog 0 64 (cB f40) _ _
  refine awp_seq ?_
  refine awp_region ?_
  refine aR 2 ?_
  refine aE ?_
  refine awp_seq ?_
  refine awp_seq ?_
  refine awp_region ?_
  refine aR 2 ?_
  refine aL api_Range.enc qx.From ?_
  refine aR 1 ?_
  refine aE ?_
  refine cE hF (fun h1 hF => ?_) fun h1 hF => ?_
  · refine awp_true (by kernel_rfl) h1 ?_
    refine awp_seq ?_
    refine awp_region ?_
    refine aR 1 ?_
    refine aE ?_
    refine awp_ret ?_
    exact oF hF [] []
  · refine awp_false (by kernel_rfl) h1 ?_
    refine awp_skip ?_
    refine awp_seq ?_
    refine awp_seq ?_
    refine awp_region ?_
    refine aR 2 ?_
    refine aL api_Range.enc qx.From ?_
    refine aR 1 ?_
    refine aE ?_
    refine awp_block ?_
    refine awp_to (st' := fleetref2_rangesFault_x1_H qx 0) (oT [] []) ?_
    refine bE hF fun x h16 hF => ?_
    rcases x with _ | vx7_1
    · refine awp_sub (awp_loop' (fleetref2_rangesFault_x1_H qx) fleetref2_rangesFault_x1_k (fleetref2_rangesFault_x1_S qx) (by intro x; rcases x with x | x <;> exact fun h => nomatch h) h16 (fleetref2_rangesFault_x1_ok qx)) ?_
      refine awp_seq ?_
      refine awp_seq ?_
      refine bE hF fun vr5 h17 hF => ?_
      refine awp_region ?_
      refine aR 3 ?_
      refine aC (fleetref2_fits_ok h17) [] [] [] ?_
      refine aE ?_
      refine cE hF (fun h18 hF => ?_) fun h18 hF => ?_
      · refine awp_true (by kernel_rfl) h18 ?_
        refine awp_seq ?_
        refine awp_region ?_
        refine aR 1 ?_
        refine aE ?_
        refine awp_ret ?_
        exact oF hF [] []
      · refine awp_false (by kernel_rfl) h18 ?_
        refine awp_skip ?_
        refine awp_seq ?_
        refine awp_region ?_
        refine aR 1 ?_
        refine aE ?_
        refine awp_ret ?_
        exact oF hF [] []
    · refine awp_sub (awp_loop' (fleetref2_rangesFault_x1_H qx) fleetref2_rangesFault_x1_k (fleetref2_rangesFault_x1_S qx) (by intro x; rcases x with x | x <;> exact fun h => nomatch h) h16 (fleetref2_rangesFault_x1_ok qx)) ?_
      exact oF hF [] []

/-! ### beaconfleet/fleetref2.ImagesFault -/
def fleetref2_ImagesFault_x2_k : Bool → AEx
  | _ => .normal

def fleetref2_ImagesFault_x2_S (qx : List api_Image) (vx : Int) (vy6 : api_Image) : Bool → St
  | vx6 => Mem.st ⟨[], [(0, [.d (.int .i64 vy6.Version.Major), .d (.int .i64 vy6.Version.Minor), .d (.int .i64 vy6.Version.Patch), .d (.lst (List.map encS vy6.Models)), .d (.lst (List.map api_Range.enc vy6.From)), .d (.int .i64 vy6.Size)])]⟩ (tl [(0, .v (.one (.d (.lst (List.map api_Image.enc qx))))), (4, .v (.one (.box 0 0))), (12, .v (.one (.d (.lst (List.map api_Image.enc qx))))), (13, .v (.one (.d (.int .i64 (qx.length : Int))))), (14, .v (.one (.d (.int .i64 vx)))), (25, .v (.one (.d (.bool vx6))))]) 1

def fleetref2_ImagesFault_x2_I (qx : List api_Image) (vx : Int) (vy6 : api_Image) : St := Mem.st ⟨[], [(0, [.d (.int .i64 vy6.Version.Major), .d (.int .i64 vy6.Version.Minor), .d (.int .i64 vy6.Version.Patch), .d (.lst (List.map encS vy6.Models)), .d (.lst (List.map api_Range.enc vy6.From)), .d (.int .i64 vy6.Size)])]⟩ (tl [(0, .v (.one (.d (.lst (List.map api_Image.enc qx))))), (3, .v (.one (.d (.int .i64 vx)))), (4, .v (.one (.box 0 0))), (12, .v (.one (.d (.lst (List.map api_Image.enc qx))))), (13, .v (.one (.d (.int .i64 (qx.length : Int))))), (14, .v (.one (.d (.int .i64 vx))))]) 1

theorem fleetref2_ImagesFault_x2_ok (qx : List api_Image) (vx : Int) (vy6 : api_Image) {r} (hF : fleetref2_ImagesFault_x2 qx vx vy6 = some r) : Awp prog 0 84 (cL (cL (cL (cR (cR (cL (cL (cR (cR (cL (cL (cR (cL (cR (cR (cB f15)))))))))))))))) (Out 0 fleetref2_ImagesFault_x2_k (fleetref2_ImagesFault_x2_S qx vx vy6) r) (fleetref2_ImagesFault_x2_I qx vx vy6) := by
  unfold fleetref2_ImagesFault_x2 at hF
  refine cE hF (fun h6 hF => ?_) fun h6 hF => ?_
  · refine bE hF fun vy7 h7 hF => ?_
    refine bE hF fun vr2 h8 hF => ?_
    refine aD ?_
    refine dR 1 ?_
    refine dB h6 ?_
    refine dR 4 ?_
    refine dX (x_idx api_Image.enc h7) ?_
    refine dR 4 ?_
    refine dC (fleetref2_VersionOrder_ok h8) [] [] [] ?_
    refine dR 3 ?_
    refine dE ?_
    exact oO hF [] [] rfl
  · refine aD ?_
    refine dR 1 ?_
    refine dB h6 ?_
    refine dR 13 ?_
    refine dE ?_
    exact oO hF [] [] rfl

def fleetref2_ImagesFault_x4_k : Bool → AEx
  | _ => .normal

def fleetref2_ImagesFault_x4_S (qx : List api_Image) (vx : Int) (vy6 : api_Image) (vx7 : Int) (vy10 : List UInt8) : Bool → St
  | vx9 => Mem.st ⟨[], [(0, [.d (.int .i64 vy6.Version.Major), .d (.int .i64 vy6.Version.Minor), .d (.int .i64 vy6.Version.Patch), .d (.lst (List.map encS vy6.Models)), .d (.lst (List.map api_Range.enc vy6.From)), .d (.int .i64 vy6.Size)])]⟩ (tl [(0, .v (.one (.d (.lst (List.map api_Image.enc qx))))), (4, .v (.one (.box 0 0))), (12, .v (.one (.d (.lst (List.map api_Image.enc qx))))), (13, .v (.one (.d (.int .i64 (qx.length : Int))))), (14, .v (.one (.d (.int .i64 vx)))), (51, .v (.one (.d (.lst (List.map encS vy6.Models))))), (52, .v (.one (.d (.int .i64 (vy6.Models.length : Int))))), (53, .v (.one (.d (.int .i64 vx7)))), (72, .v (.one (.d (.bool vx9))))]) 1

def fleetref2_ImagesFault_x4_I (qx : List api_Image) (vx : Int) (vy6 : api_Image) (vx7 : Int) (vy10 : List UInt8) : St := Mem.st ⟨[], [(0, [.d (.int .i64 vy6.Version.Major), .d (.int .i64 vy6.Version.Minor), .d (.int .i64 vy6.Version.Patch), .d (.lst (List.map encS vy6.Models)), .d (.lst (List.map api_Range.enc vy6.From)), .d (.int .i64 vy6.Size)])]⟩ (tl [(0, .v (.one (.d (.lst (List.map api_Image.enc qx))))), (4, .v (.one (.box 0 0))), (6, .v (.one (.d (.int .i64 vx7)))), (7, .v (.one (.d (.str vy10)))), (12, .v (.one (.d (.lst (List.map api_Image.enc qx))))), (13, .v (.one (.d (.int .i64 (qx.length : Int))))), (14, .v (.one (.d (.int .i64 vx)))), (51, .v (.one (.d (.lst (List.map encS vy6.Models))))), (52, .v (.one (.d (.int .i64 (vy6.Models.length : Int))))), (53, .v (.one (.d (.int .i64 vx7))))]) 1

theorem fleetref2_ImagesFault_x4_ok (qx : List api_Image) (vx : Int) (vy6 : api_Image) (vx7 : Int) (vy10 : List UInt8) {r} (hF : fleetref2_ImagesFault_x4 vy6 vx7 vy10 = some r) : Awp prog 0 84 (cL (cR (cR (cL (cL (cR (cR (cL (cL (cR (cL (cR (cR (cR (cL (cL (cR (cR (cL (cL (cR (cL (cR (cR (cB f15))))))))))))))))))))))))) (Out 0 fleetref2_ImagesFault_x4_k (fleetref2_ImagesFault_x4_S qx vx vy6 vx7 vy10) r) (fleetref2_ImagesFault_x4_I qx vx vy6 vx7 vy10) := by
  unfold fleetref2_ImagesFault_x4 at hF
  refine cE hF (fun h17 hF => ?_) fun h17 hF => ?_
  · refine bE hF fun vy11 h18 hF => ?_
    refine awp_region ?_
    refine aR 1 ?_
    refine aB h17 ?_
    refine aR 6 ?_
    refine aX (x_idx encS h18) ?_
    refine aR 3 ?_
    refine aE ?_
    exact oO hF [] [] rfl
  · refine awp_region ?_
    refine aR 1 ?_
    refine aB h17 ?_
    refine aR 10 ?_
    refine aE ?_
    exact oO hF [] [] rfl

def fleetref2_ImagesFault_x3_k : Unit ⊕ Int → AEx
  | .inl _ => .exit 3
  | .inr _ => .ret

def fleetref2_ImagesFault_x3_S (qx : List api_Image) (vx : Int) (vy6 : api_Image) : Unit ⊕ Int → St
  | .inl _ => Mem.st ⟨[], [(0, [.d (.int .i64 vy6.Version.Major), .d (.int .i64 vy6.Version.Minor), .d (.int .i64 vy6.Version.Patch), .d (.lst (List.map encS vy6.Models)), .d (.lst (List.map api_Range.enc vy6.From)), .d (.int .i64 vy6.Size)])]⟩ (tl [(0, .v (.one (.d (.lst (List.map api_Image.enc qx))))), (4, .v (.one (.box 0 0))), (12, .v (.one (.d (.lst (List.map api_Image.enc qx))))), (13, .v (.one (.d (.int .i64 (qx.length : Int))))), (14, .v (.one (.d (.int .i64 vx))))]) 1
  | .inr vx10 => Mem.st ⟨[], []⟩ (tl [(2, .v (.one (.d (.int .i64 vx10))))]) 0

def fleetref2_ImagesFault_x3_H (qx : List api_Image) (vx : Int) (vy6 : api_Image) : Int → St
  | vx7 => Mem.st ⟨[], [(0, [.d (.int .i64 vy6.Version.Major), .d (.int .i64 vy6.Version.Minor), .d (.int .i64 vy6.Version.Patch), .d (.lst (List.map encS vy6.Models)), .d (.lst (List.map api_Range.enc vy6.From)), .d (.int .i64 vy6.Size)])]⟩ (tl [(0, .v (.one (.d (.lst (List.map api_Image.enc qx))))), (4, .v (.one (.box 0 0))), (12, .v (.one (.d (.lst (List.map api_Image.enc qx))))), (13, .v (.one (.d (.int .i64 (qx.length : Int))))), (14, .v (.one (.d (.int .i64 vx)))), (51, .v (.one (.d (.lst (List.map encS vy6.Models))))), (52, .v (.one (.d (.int .i64 (vy6.Models.length : Int))))), (53, .v (.one (.d (.int .i64 vx7))))]) 1

theorem fleetref2_ImagesFault_x3_ok (qx : List api_Image) (vx : Int) (vy6 : api_Image) (vx7 : Int) (r : (Int) ⊕ (Unit ⊕ Int)) (hF : fleetref2_ImagesFault_x3 vy6 vx7 = some r) : Awp prog 0 84 (cL (cL (cR (cL (cR (cR (cR (cL (cL (cR (cR (cL (cL (cR (cL (cR (cR (cB f15)))))))))))))))))) (Out 0 (kk fleetref2_ImagesFault_x3_k) (SS (fleetref2_ImagesFault_x3_H qx vx vy6) (fleetref2_ImagesFault_x3_S qx vx vy6)) r) (fleetref2_ImagesFault_x3_H qx vx vy6 vx7) := by
  unfold fleetref2_ImagesFault_x3 at hF
  refine awp_seq ?_
  refine awp_region ?_
  refine aR 1 ?_
  refine aE ?_
  refine awp_seq ?_
  refine cE hF (fun h13 hF => ?_) fun h13 hF => ?_
  · refine awp_true (by kernel_rfl) h13 ?_
    refine awp_skip ?_
    refine awp_seq ?_
    refine awp_block ?_
    refine awp_seq ?_
    refine bE hF fun vy10 h14 hF => ?_
    refine awp_region ?_
    refine aR 1 ?_
    refine aX (x_idx encS h14) ?_
    refine aR 3 ?_
    refine aE ?_
    refine awp_seq ?_
    refine awp_seq ?_
    refine bE hF fun vr3_5 h15 hF => ?_
    refine awp_region ?_
    refine aR 1 ?_
    refine aC (fleetref2_Key_ok h15) [] [] [] ?_
    refine aR 1 ?_
    refine aE ?_
    refine cE hF (fun h16 hF => ?_) fun h16 hF => ?_
    · refine awp_true (by kernel_rfl) h16 ?_
      refine awp_seq ?_
      refine awp_region ?_
      refine aR 1 ?_
      refine aE ?_
      refine awp_ret ?_
      exact oO hF [] [] rfl
    · refine awp_false (by kernel_rfl) h16 ?_
      refine awp_skip ?_
      refine awp_seq ?_
      refine awp_to (st' := fleetref2_ImagesFault_x4_I qx vx vy6 vx7 vy10) (oT [] []) ?_
      refine bE hF fun vx9_1 h19 hF => ?_
      refine awp_sub (fleetref2_ImagesFault_x4_ok qx vx vy6 vx7 vy10 h19) ?_
      refine cE hF (fun h20 hF => ?_) fun h20 hF => ?_
      · refine awp_true (by kernel_rfl) h20 ?_
        refine awp_seq ?_
        refine awp_region ?_
        refine aR 1 ?_
        refine aE ?_
        refine awp_ret ?_
        exact oO hF [] [] rfl
      · refine awp_false (by kernel_rfl) h20 ?_
        refine awp_skip ?_
        refine awp_region ?_
        refine aR 2 ?_
        refine aE ?_
        exact oO hF [] [] rfl
  · refine awp_false (by kernel_rfl) h13 ?_
    refine awp_exit ?_
    exact oO hF [] [] rfl

def fleetref2_ImagesFault_x1_k : Unit ⊕ Int → AEx
  | .inl _ => .exit 0
  | .inr _ => .ret

def fleetref2_ImagesFault_x1_S (qx : List api_Image) : Unit ⊕ Int → St
  | .inl _ => Mem.st ⟨[], []⟩ (tl []) 0
  | .inr vx11 => Mem.st ⟨[], []⟩ (tl [(2, .v (.one (.d (.int .i64 vx11))))]) 0

def fleetref2_ImagesFault_x1_H (qx : List api_Image) : Int → St
  | vx => Mem.st ⟨[], []⟩ (tl [(0, .v (.one (.d (.lst (List.map api_Image.enc qx))))), (12, .v (.one (.d (.lst (List.map api_Image.enc qx))))), (13, .v (.one (.d (.int .i64 (qx.length : Int))))), (14, .v (.one (.d (.int .i64 vx))))]) 0

theorem fleetref2_ImagesFault_x1_ok (qx : List api_Image) (vx : Int) (r : (Int) ⊕ (Unit ⊕ Int)) (hF : fleetref2_ImagesFault_x1 qx vx = some r) : Awp prog 0 84 (cL (cL (cR (cL (cR (cR (cB f15))))))) (Out 0 (kk fleetref2_ImagesFault_x1_k) (SS (fleetref2_ImagesFault_x1_H qx) (fleetref2_ImagesFault_x1_S qx)) r) (fleetref2_ImagesFault_x1_H qx vx) := by
  unfold fleetref2_ImagesFault_x1 at hF
  refine awp_seq ?_
  refine awp_region ?_
  refine aR 1 ?_
  refine aE ?_
  refine awp_seq ?_
  refine cE hF (fun h2 hF => ?_) fun h2 hF => ?_
  · refine awp_true (by kernel_rfl) h2 ?_
    refine awp_skip ?_
    refine awp_seq ?_
    refine awp_block ?_
    refine awp_seq ?_
    refine bE hF fun vy6 h3 hF => ?_
    refine awp_region ?_
    refine aR 1 ?_
    refine aX (x_idx api_Image.enc h3) ?_
    refine aR 4 ?_
    refine aE ?_
    refine awp_seq ?_
    refine awp_seq ?_
    refine bE hF fun vr3_3 h4 hF => ?_
    refine awp_region ?_
    refine aR 2 ?_
    refine aC (fleetref2_versionFault_ok h4) [] [] [] ?_
    refine aR 1 ?_
    refine aE ?_
    refine awp_seq ?_
    refine awp_region ?_
    refine aR 2 ?_
    refine aE ?_
    refine cE hF (fun h5 hF => ?_) fun h5 hF => ?_
    · refine awp_true (by kernel_rfl) h5 ?_
      refine awp_seq ?_
      refine awp_region ?_
      refine aR 2 ?_
      refine aE ?_
      refine awp_ret ?_
      exact oO hF [] [] rfl
    · refine awp_false (by kernel_rfl) h5 ?_
      refine awp_skip ?_
      refine awp_seq ?_
      refine awp_block ?_
      refine awp_seq ?_
      refine awp_to (st' := fleetref2_ImagesFault_x2_I qx vx vy6) (oT [(0, 4000)] []) ?_
      refine bE hF fun vx6_1 h9 hF => ?_
      refine awp_sub (fleetref2_ImagesFault_x2_ok qx vx vy6 h9) ?_
      refine cE hF (fun h10 hF => ?_) fun h10 hF => ?_
      · refine awp_true (by kernel_rfl) h10 ?_
        refine awp_seq ?_
        refine awp_region ?_
        refine aR 1 ?_
        refine aE ?_
        refine awp_ret ?_
        exact oO hF [] [] rfl
      · refine awp_false (by kernel_rfl) h10 ?_
        refine awp_seq ?_
        refine awp_region ?_
        refine aR 2 ?_
        refine aL encS vy6.Models ?_
        refine aR 2 ?_
        refine aE ?_
        refine cE hF (fun h11 hF => ?_) fun h11 hF => ?_
        · refine awp_true (by kernel_rfl) h11 ?_
          refine awp_seq ?_
          refine awp_region ?_
          refine aR 1 ?_
          refine aE ?_
          refine awp_ret ?_
          exact oO hF [] [] rfl
        · refine awp_false (by kernel_rfl) h11 ?_
          refine awp_seq ?_
          refine awp_region ?_
          refine aR 2 ?_
          refine aL encS vy6.Models ?_
          refine aR 2 ?_
          refine aE ?_
          refine cE hF (fun h12 hF => ?_) fun h12 hF => ?_
          · refine awp_true (by kernel_rfl) h12 ?_
            refine awp_seq ?_
            refine awp_region ?_
            refine aR 1 ?_
            refine aE ?_
            refine awp_ret ?_
            exact oO hF [] [] rfl
          · refine awp_false (by kernel_rfl) h12 ?_
            refine awp_skip ?_
            refine awp_seq ?_
            refine awp_seq ?_
            refine awp_region ?_
            refine aR 2 ?_
            refine aL encS vy6.Models ?_
            refine aR 1 ?_
            refine aE ?_
            refine awp_block ?_
            refine awp_to (st' := fleetref2_ImagesFault_x3_H qx vx vy6 0) (oT [] []) ?_
            refine bE hF fun x h21 hF => ?_
            rcases x with _ | vx10_1
            · refine awp_sub (awp_loop' (fleetref2_ImagesFault_x3_H qx vx vy6) fleetref2_ImagesFault_x3_k (fleetref2_ImagesFault_x3_S qx vx vy6) (by intro x; rcases x with x | x <;> exact fun h => nomatch h) h21 (fleetref2_ImagesFault_x3_ok qx vx vy6)) ?_
              refine awp_seq ?_
              refine awp_seq ?_
              refine bE hF fun vr6_1 h22 hF => ?_
              refine awp_region ?_
              refine aR 1 ?_
              refine aC (fleetref2_rangesFault_ok h22) [] [] [] ?_
              refine aR 1 ?_
              refine aE ?_
              refine awp_seq ?_
              refine awp_region ?_
              refine aR 2 ?_
              refine aE ?_
              refine cE hF (fun h23 hF => ?_) fun h23 hF => ?_
              · refine awp_true (by kernel_rfl) h23 ?_
                refine awp_seq ?_
                refine awp_region ?_
                refine aR 2 ?_
                refine aE ?_
                refine awp_ret ?_
                exact oO hF [] [] rfl
              · refine awp_false (by kernel_rfl) h23 ?_
                refine awp_skip ?_
                refine awp_seq ?_
                refine bE hF fun vr4 h24 hF => ?_
                refine awp_region ?_
                refine aR 2 ?_
                refine aC (fleetref2_in_ok h24) [] [] [] ?_
                refine aR 1 ?_
                refine aE ?_
                refine cE hF (fun h25 hF => ?_) fun h25 hF => ?_
                · refine awp_true (by kernel_rfl) h25 ?_
                  refine awp_seq ?_
                  refine awp_region ?_
                  refine aR 1 ?_
                  refine aE ?_
                  refine awp_ret ?_
                  exact oO hF [] [] rfl
                · refine awp_false (by kernel_rfl) h25 ?_
                  refine awp_skip ?_
                  refine awp_region ?_
                  refine aR 2 ?_
                  refine aE ?_
                  exact oO hF [] [] rfl
            · refine awp_sub (awp_loop' (fleetref2_ImagesFault_x3_H qx vx vy6) fleetref2_ImagesFault_x3_k (fleetref2_ImagesFault_x3_S qx vx vy6) (by intro x; rcases x with x | x <;> exact fun h => nomatch h) h21 (fleetref2_ImagesFault_x3_ok qx vx vy6)) ?_
              exact oO hF [] [] rfl
  · refine awp_false (by kernel_rfl) h2 ?_
    refine awp_exit ?_
    exact oO hF [] [] rfl

def fleetref2_ImagesFault_R (qx : List api_Image) (r : Int) : TV × Mem := (.v (.one (.d (.int .i64 r))), ⟨[], []⟩)

theorem fleetref2_ImagesFault_ok {qx : List api_Image} {r} (hF : fleetref2_ImagesFault qx = some r) : Holds prog 15 [.v (.one (.d (.lst (List.map api_Image.enc qx))))] ⟨[], []⟩ (Is (fleetref2_ImagesFault_R qx r)) := by
  unfold fleetref2_ImagesFault at hF
  refine holds_of_awp hΓ (fn := f15) (c := cB f15) (A := 0) (nx := 0) (by kernel_rfl) (by kernel_rfl) (by kernel_rfl) (by kernel_rfl) (by kernel_rfl) (by kernel_rfl) (lowc_of (by kernel_rfl)) ?_
  show Awp prog 0 84 (cB f15) _ _
  refine awp_seq ?_
  refine awp_region ?_
  refine aR 1 ?_
  refine aE ?_
  refine awp_seq ?_
  refine awp_seq ?_
  refine awp_region ?_
  refine aR 1 ?_
  refine aL api_Image.enc qx ?_
  refine aR 1 ?_
  refine aE ?_
  refine cE hF (fun h1 hF => ?_) fun h1 hF => ?_
  · refine awp_true (by kernel_rfl) h1 ?_
    refine awp_seq ?_
    refine awp_region ?_
    refine aR 1 ?_
    refine aE ?_
    refine awp_ret ?_
    exact oF hF [] []
  · refine awp_false (by kernel_rfl) h1 ?_
    refine awp_skip ?_
    refine awp_seq ?_
    refine awp_seq ?_
    refine awp_region ?_
    refine aR 1 ?_
    refine aL api_Image.enc qx ?_
    refine aR 1 ?_
    refine aE ?_
    refine awp_block ?_
    refine awp_to (st' := fleetref2_ImagesFault_x1_H qx 0) (oT [] []) ?_
    refine bE hF fun x h26 hF => ?_
    rcases x with _ | vx11_1
    · refine awp_sub (awp_loop' (fleetref2_ImagesFault_x1_H qx) fleetref2_ImagesFault_x1_k (fleetref2_ImagesFault_x1_S qx) (by intro x; rcases x with x | x <;> exact fun h => nomatch h) h26 (fleetref2_ImagesFault_x1_ok qx)) ?_
      refine awp_seq ?_
      refine awp_region ?_
      refine aR 1 ?_
      refine aE ?_
      refine awp_ret ?_
      exact oF hF [] []
    · refine awp_sub (awp_loop' (fleetref2_ImagesFault_x1_H qx) fleetref2_ImagesFault_x1_k (fleetref2_ImagesFault_x1_S qx) (by intro x; rcases x with x | x <;> exact fun h => nomatch h) h26 (fleetref2_ImagesFault_x1_ok qx)) ?_
      exact oF hF [] []

/-! ### beaconfleet/fleetlaw2.versioned -/
def fleetlaw2_versioned_x1_k : Bool → AEx
  | _ => .normal

def fleetlaw2_versioned_x1_S (vr2 : api_Version) (vr4 : Int) : Bool → St
  | vx => Mem.st ⟨[], []⟩ (tl [(0, .v (.one (.d (.bool vx))))]) 0

def fleetlaw2_versioned_x1_I (vr2 : api_Version) (vr4 : Int) : St := Mem.st ⟨[], [(0, [.d (.int .i64 vr2.Major), .d (.int .i64 vr2.Minor), .d (.int .i64 vr2.Patch)])]⟩ (tl [(1, .v (.one (.box 0 0))), (2, .v (.one (.d (.int .i64 vr4))))]) 1

theorem fleetlaw2_versioned_x1_ok (vr2 : api_Version) (vr4 : Int) {r} (hF : fleetlaw2_versioned_x1 vr2 vr4 = some r) : Awp prog 0 14 (cL (cR (cR (cB f16)))) (Out 0 fleetlaw2_versioned_x1_k (fleetlaw2_versioned_x1_S vr2 vr4) r) (fleetlaw2_versioned_x1_I vr2 vr4) := by
  unfold fleetlaw2_versioned_x1 at hF
  refine cE hF (fun h2 hF => ?_) fun h2 hF => ?_
  · refine awp_region ?_
    refine aR 1 ?_
    refine aB h2 ?_
    refine aR 3 ?_
    refine aS (does_eqS (op := .eql) (xs := [.int .i64 vr2.Major, .int .i64 vr2.Minor, .int .i64 vr2.Patch]) (ys := [.int .i64 1, .int .i64 2, .int .i64 3]) (b := (decide (vr2.Major = 1) && (decide (vr2.Minor = 2) && (decide (vr2.Patch = 3) && true)))) (c := (decide (vr2.Major = 1) && (decide (vr2.Minor = 2) && (decide (vr2.Patch = 3) && true)))) rfl (.inl ⟨rfl, rfl⟩) (by kernel_rfl) (by kernel_rfl) (by kernel_rfl) (by kernel_rfl) (by kernel_rfl) (by kernel_rfl)) ?_
    refine aR 2 ?_
    refine aE ?_
    exact oO hF [] [] rfl
  · refine awp_region ?_
    refine aR 1 ?_
    refine aB h2 ?_
    refine aR 6 ?_
    refine aE ?_
    exact oO hF [] [] rfl

def fleetlaw2_versioned_R (r : Bool) : TV × Mem := (.v (.one (.d (.bool r))), ⟨[], []⟩)

theorem fleetlaw2_versioned_ok {r} (hF : fleetlaw2_versioned = some r) : Holds prog 16 [] ⟨[], []⟩ (Is (fleetlaw2_versioned_R  r)) := by
  unfold fleetlaw2_versioned at hF
  refine holds_of_awp hΓ (fn := f16) (c := cB f16) (A := 0) (nx := 0) (by kernel_rfl) (by kernel_rfl) (by kernel_rfl) (by kernel_rfl) (by kernel_rfl) (by kernel_rfl) (lowc_of (by kernel_rfl)) ?_
  show Awp prog 0 14 (cB f16) _ _
  refine awp_seq ?_
  refine awp_region ?_
  refine aR 1 ?_
  refine aE ?_
  refine awp_seq ?_
  refine bE hF fun x h1 hF => ?_
  obtain ⟨vr2, vr4⟩ := x
  refine awp_region ?_
  refine aC (campaign_ParseVersion_ok h1) [] [] [] ?_
  refine aR 6 ?_
  refine aE ?_
  refine awp_seq ?_
  refine awp_to (st' := fleetlaw2_versioned_x1_I vr2 vr4) (oT [(0, 5000)] []) ?_
  refine bE hF fun vx1 h3 hF => ?_
  refine awp_sub (fleetlaw2_versioned_x1_ok vr2 vr4 h3) ?_
  refine awp_ret ?_
  exact oF hF [] []

/-! ### beaconfleet/fleetlaw2.VersionsRead -/
def fleetlaw2_VersionsRead_x1_k : (List UInt8) → AEx
  | _ => .normal

def fleetlaw2_VersionsRead_x1_S (vr1 : api_Version) (vr1_1 : api_Version) (vr6 : List UInt8) (vr4 : List api_Image) (vr4_1 : List UInt8) (vr5 : Int) (vr : Int) : (List UInt8) → St
  | vx => Mem.st ⟨[], [(0, [.d (.int .i64 vr1.Major), .d (.int .i64 vr1.Minor), .d (.int .i64 vr1.Patch)]), (1, [.d (.int .i64 vr1_1.Major), .d (.int .i64 vr1_1.Minor), .d (.int .i64 vr1_1.Patch)])]⟩ (tl [(4, .v (.one (.box 0 0))), (5, .v (.one (.box 1 0))), (6, .v (.one (.d (.str vr6)))), (7, .v (.one (.d (.lst (List.map api_Image.enc vr4))))), (8, .v (.one (.d (.str vr4_1)))), (9, .v (.one (.d (.int .i64 vr5)))), (10, .v (.one (.d (.int .i64 vr)))), (11, .v (.one (.d (.str vx))))]) 2

def fleetlaw2_VersionsRead_x1_I (vr1 : api_Version) (vr1_1 : api_Version) (vr6 : List UInt8) (vr4 : List api_Image) (vr4_1 : List UInt8) (vr5 : Int) (vr : Int) : St := Mem.st ⟨[], [(0, [.d (.int .i64 vr1.Major), .d (.int .i64 vr1.Minor), .d (.int .i64 vr1.Patch)]), (1, [.d (.int .i64 vr1_1.Major), .d (.int .i64 vr1_1.Minor), .d (.int .i64 vr1_1.Patch)])]⟩ (tl [(4, .v (.one (.box 0 0))), (5, .v (.one (.box 1 0))), (6, .v (.one (.d (.str vr6)))), (7, .v (.one (.d (.lst (List.map api_Image.enc vr4))))), (8, .v (.one (.d (.str vr4_1)))), (9, .v (.one (.d (.int .i64 vr5)))), (10, .v (.one (.d (.int .i64 vr)))), (11, .v (.one (.d (.str ([] : List UInt8)))))]) 2

theorem fleetlaw2_VersionsRead_x1_ok (vr1 : api_Version) (vr1_1 : api_Version) (vr6 : List UInt8) (vr4 : List api_Image) (vr4_1 : List UInt8) (vr5 : Int) (vr : Int) {r} (hF : fleetlaw2_VersionsRead_x1 vr1 vr = some r) : Awp prog 0 85 (cL (cR (cR (cR (cR (cR (cB f3))))))) (Out 0 fleetlaw2_VersionsRead_x1_k (fleetlaw2_VersionsRead_x1_S vr1 vr1_1 vr6 vr4 vr4_1 vr5 vr) r) (fleetlaw2_VersionsRead_x1_I vr1 vr1_1 vr6 vr4 vr4_1 vr5 vr) := by
  unfold fleetlaw2_VersionsRead_x1 at hF
  refine awp_seq ?_
  refine awp_region ?_
  refine aR 2 ?_
  refine aE ?_
  refine cE hF (fun h7 hF => ?_) fun h7 hF => ?_
  · refine awp_true (by kernel_rfl) h7 ?_
    refine bE hF fun vr3 h8 hF => ?_
    refine awp_region ?_
    refine aR 1 ?_
    refine aC (fleetref2_VersionLine_ok h8) [] [] [] ?_
    refine aR 1 ?_
    refine aE ?_
    exact oO hF [] [] rfl
  · refine awp_false (by kernel_rfl) h7 ?_
    refine awp_skip ?_
    exact oO hF [] [] rfl

def fleetlaw2_VersionsRead_x2_k : Bool → AEx
  | _ => .normal

def fleetlaw2_VersionsRead_x2_S (vr1 : api_Version) (vr1_1 : api_Version) (vr4 : List api_Image) (vr4_1 : List UInt8) (vr5 : Int) (vr : Int) (vx1 : List UInt8) (vr2 : api_Version) (vr4_2 : Int) (vr7 : api_Version) (vr2_1 : Int) : Bool → St
  | vx2 => Mem.st ⟨[], []⟩ (tl [(2, .v (.one (.d (.bool vx2))))]) 0

def fleetlaw2_VersionsRead_x2_I (vr1 : api_Version) (vr1_1 : api_Version) (vr4 : List api_Image) (vr4_1 : List UInt8) (vr5 : Int) (vr : Int) (vx1 : List UInt8) (vr2 : api_Version) (vr4_2 : Int) (vr7 : api_Version) (vr2_1 : Int) : St := Mem.st ⟨[], [(0, [.d (.int .i64 vr1.Major), .d (.int .i64 vr1.Minor), .d (.int .i64 vr1.Patch)]), (1, [.d (.int .i64 vr1_1.Major), .d (.int .i64 vr1_1.Minor), .d (.int .i64 vr1_1.Patch)]), (2, [.d (.int .i64 vr2.Major), .d (.int .i64 vr2.Minor), .d (.int .i64 vr2.Patch)]), (3, [.d (.int .i64 vr7.Major), .d (.int .i64 vr7.Minor), .d (.int .i64 vr7.Patch)])]⟩ (tl [(4, .v (.one (.box 0 0))), (5, .v (.one (.box 1 0))), (7, .v (.one (.d (.lst (List.map api_Image.enc vr4))))), (8, .v (.one (.d (.str vr4_1)))), (9, .v (.one (.d (.int .i64 vr5)))), (10, .v (.one (.d (.int .i64 vr)))), (11, .v (.one (.d (.str vx1)))), (12, .v (.one (.box 2 0))), (13, .v (.one (.d (.int .i64 vr4_2)))), (14, .v (.one (.box 3 0))), (15, .v (.one (.d (.int .i64 vr2_1))))]) 4

theorem fleetlaw2_VersionsRead_x2_ok (vr1 : api_Version) (vr1_1 : api_Version) (vr4 : List api_Image) (vr4_1 : List UInt8) (vr5 : Int) (vr : Int) (vx1 : List UInt8) (vr2 : api_Version) (vr4_2 : Int) (vr7 : api_Version) (vr2_1 : Int) {r} (hF : fleetlaw2_VersionsRead_x2 vr1 vr1_1 vr4 vr4_1 vr5 vr vx1 vr2 vr4_2 vr7 vr2_1 = some r) : Awp prog 0 85 (cL (cR (cR (cR (cR (cR (cR (cR (cR (cB f3)))))))))) (Out 0 fleetlaw2_VersionsRead_x2_k (fleetlaw2_VersionsRead_x2_S vr1 vr1_1 vr4 vr4_1 vr5 vr vx1 vr2 vr4_2 vr7 vr2_1) r) (fleetlaw2_VersionsRead_x2_I vr1 vr1_1 vr4 vr4_1 vr5 vr vx1 vr2 vr4_2 vr7 vr2_1) := by
  unfold fleetlaw2_VersionsRead_x2 at hF
  refine cE hF (fun h12 hF => ?_) fun h12 hF => ?_
  · refine cE hF (fun h13 hF => ?_) fun h13 hF => ?_
    · refine cE hF (fun h14 hF => ?_) fun h14 hF => ?_
      · refine cE hF (fun h15 hF => ?_) fun h15 hF => ?_
        · refine bE hF fun vr4_3 h16 hF => ?_
          refine bE hF fun vr8 h17 hF => ?_
          refine cE hF (fun h18 hF => ?_) fun h18 hF => ?_
          · refine bE hF fun vr10 h19 hF => ?_
            refine bE hF fun vr5_1 h20 hF => ?_
            refine cE hF (fun h21 hF => ?_) fun h21 hF => ?_
            · refine bE hF fun vr9 h22 hF => ?_
              refine aD ?_
              refine dR 2 ?_
              refine dB h12 ?_
              refine dR 3 ?_
              refine dB h13 ?_
              refine dR 4 ?_
              refine dSb (U := []) (stable_eqS (op := .eql) (xs := [.int .i64 vr2.Major, .int .i64 vr2.Minor, .int .i64 vr2.Patch]) (ys := [.int .i64 vr7.Major, .int .i64 vr7.Minor, .int .i64 vr7.Patch]) (b := (decide (vr2.Major = vr7.Major) && (decide (vr2.Minor = vr7.Minor) && (decide (vr2.Patch = vr7.Patch) && true)))) (c := (decide (vr2.Major = vr7.Major) && (decide (vr2.Minor = vr7.Minor) && (decide (vr2.Patch = vr7.Patch) && true)))) rfl (.inl ⟨rfl, rfl⟩) (by kernel_rfl) (by kernel_rfl) (by kernel_rfl) (by kernel_rfl) (by kernel_rfl) (by kernel_rfl)) h14 ?_
              refine dR 4 ?_
              refine dB h15 ?_
              refine dR 4 ?_
              refine dC (campaign_Compare_ok h16) [] [] [] ?_
              refine dR 2 ?_
              refine dC (fleetref2_VersionOrder_ok h17) [] [] [] ?_
              refine dB h18 ?_
              refine dR 3 ?_
              refine dC (campaign_CheckImages_ok h19) [] [] [] ?_
              refine dR 1 ?_
              refine dC (fleetref2_ImagesFault_ok h20) [] [] [] ?_
              refine dB h21 ?_
              refine dR 2 ?_
              refine dC (fleetlaw2_versioned_ok h22) [] [] [] ?_
              refine dR 2 ?_
              refine dE ?_
              exact oO hF [] [] rfl
            · refine aD ?_
              refine dR 2 ?_
              refine dB h12 ?_
              refine dR 3 ?_
              refine dB h13 ?_
              refine dR 4 ?_
              refine dSb (U := []) (stable_eqS (op := .eql) (xs := [.int .i64 vr2.Major, .int .i64 vr2.Minor, .int .i64 vr2.Patch]) (ys := [.int .i64 vr7.Major, .int .i64 vr7.Minor, .int .i64 vr7.Patch]) (b := (decide (vr2.Major = vr7.Major) && (decide (vr2.Minor = vr7.Minor) && (decide (vr2.Patch = vr7.Patch) && true)))) (c := (decide (vr2.Major = vr7.Major) && (decide (vr2.Minor = vr7.Minor) && (decide (vr2.Patch = vr7.Patch) && true)))) rfl (.inl ⟨rfl, rfl⟩) (by kernel_rfl) (by kernel_rfl) (by kernel_rfl) (by kernel_rfl) (by kernel_rfl) (by kernel_rfl)) h14 ?_
              refine dR 4 ?_
              refine dB h15 ?_
              refine dR 4 ?_
              refine dC (campaign_Compare_ok h16) [] [] [] ?_
              refine dR 2 ?_
              refine dC (fleetref2_VersionOrder_ok h17) [] [] [] ?_
              refine dB h18 ?_
              refine dR 3 ?_
              refine dC (campaign_CheckImages_ok h19) [] [] [] ?_
              refine dR 1 ?_
              refine dC (fleetref2_ImagesFault_ok h20) [] [] [] ?_
              refine dB h21 ?_
              refine dR 5 ?_
              refine dE ?_
              exact oO hF [] [] rfl
          · refine aD ?_
            refine dR 2 ?_
            refine dB h12 ?_
            refine dR 3 ?_
            refine dB h13 ?_
            refine dR 4 ?_
            refine dSb (U := []) (stable_eqS (op := .eql) (xs := [.int .i64 vr2.Major, .int .i64 vr2.Minor, .int .i64 vr2.Patch]) (ys := [.int .i64 vr7.Major, .int .i64 vr7.Minor, .int .i64 vr7.Patch]) (b := (decide (vr2.Major = vr7.Major) && (decide (vr2.Minor = vr7.Minor) && (decide (vr2.Patch = vr7.Patch) && true)))) (c := (decide (vr2.Major = vr7.Major) && (decide (vr2.Minor = vr7.Minor) && (decide (vr2.Patch = vr7.Patch) && true)))) rfl (.inl ⟨rfl, rfl⟩) (by kernel_rfl) (by kernel_rfl) (by kernel_rfl) (by kernel_rfl) (by kernel_rfl) (by kernel_rfl)) h14 ?_
            refine dR 4 ?_
            refine dB h15 ?_
            refine dR 4 ?_
            refine dC (campaign_Compare_ok h16) [] [] [] ?_
            refine dR 2 ?_
            refine dC (fleetref2_VersionOrder_ok h17) [] [] [] ?_
            refine dB h18 ?_
            refine dR 12 ?_
            refine dE ?_
            exact oO hF [] [] rfl
        · refine aD ?_
          refine dR 2 ?_
          refine dB h12 ?_
          refine dR 3 ?_
          refine dB h13 ?_
          refine dR 4 ?_
          refine dSb (U := []) (stable_eqS (op := .eql) (xs := [.int .i64 vr2.Major, .int .i64 vr2.Minor, .int .i64 vr2.Patch]) (ys := [.int .i64 vr7.Major, .int .i64 vr7.Minor, .int .i64 vr7.Patch]) (b := (decide (vr2.Major = vr7.Major) && (decide (vr2.Minor = vr7.Minor) && (decide (vr2.Patch = vr7.Patch) && true)))) (c := (decide (vr2.Major = vr7.Major) && (decide (vr2.Minor = vr7.Minor) && (decide (vr2.Patch = vr7.Patch) && true)))) rfl (.inl ⟨rfl, rfl⟩) (by kernel_rfl) (by kernel_rfl) (by kernel_rfl) (by kernel_rfl) (by kernel_rfl) (by kernel_rfl)) h14 ?_
          refine dR 4 ?_
          refine dB h15 ?_
          refine dR 21 ?_
          refine dE ?_
          exact oO hF [] [] rfl
      · refine aD ?_
        refine dR 2 ?_
        refine dB h12 ?_
        refine dR 3 ?_
        refine dB h13 ?_
        refine dR 4 ?_
        refine dSb (U := []) (stable_eqS (op := .eql) (xs := [.int .i64 vr2.Major, .int .i64 vr2.Minor, .int .i64 vr2.Patch]) (ys := [.int .i64 vr7.Major, .int .i64 vr7.Minor, .int .i64 vr7.Patch]) (b := (decide (vr2.Major = vr7.Major) && (decide (vr2.Minor = vr7.Minor) && (decide (vr2.Patch = vr7.Patch) && true)))) (c := (decide (vr2.Major = vr7.Major) && (decide (vr2.Minor = vr7.Minor) && (decide (vr2.Patch = vr7.Patch) && true)))) rfl (.inl ⟨rfl, rfl⟩) (by kernel_rfl) (by kernel_rfl) (by kernel_rfl) (by kernel_rfl) (by kernel_rfl) (by kernel_rfl)) h14 ?_
        refine dR 26 ?_
        refine dE ?_
        exact oO hF [] [] rfl
    · refine aD ?_
      refine dR 2 ?_
      refine dB h12 ?_
      refine dR 3 ?_
      refine dB h13 ?_
      refine dR 31 ?_
      refine dE ?_
      exact oO hF [] [] rfl
  · refine aD ?_
    refine dR 2 ?_
    refine dB h12 ?_
    refine dR 35 ?_
    refine dE ?_
    exact oO hF [] [] rfl

def fleetlaw2_VersionsRead_R (qx : List Int) (r : Bool) : TV × Mem := (.v (.one (.d (.bool r))), ⟨[], []⟩)

theorem fleetlaw2_VersionsRead_ok {qx : List Int} {r} (hF : fleetlaw2_VersionsRead qx = some r) : Holds prog 3 [.v (.one (.d (.lst (List.map (encI .i64) qx))))] ⟨[], []⟩ (Is (fleetlaw2_VersionsRead_R qx r)) := by
  unfold fleetlaw2_VersionsRead at hF
  refine holds_of_awp hΓ (fn := f3) (c := cB f3) (A := 0) (nx := 0) (by kernel_rfl) (by kernel_rfl) (by kernel_rfl) (by kernel_rfl) (by kernel_rfl) (by kernel_rfl) (lowc_of (by kernel_rfl)) ?_
  show Awp prog 0 85 (cB f3) _ _
  refine awp_seq ?_
  refine awp_region ?_
  refine aR 1 ?_
  refine aE ?_
  refine awp_seq ?_
  refine awp_region ?_
  refine aR 4 ?_
  refine aE ?_
  refine awp_seq ?_
  refine bE hF fun x h1 hF => ?_
  obtain ⟨vs3, vr1⟩ := x
  refine bE hF fun x h2 hF => ?_
  obtain ⟨vs3_1, vr1_1⟩ := x
  refine bE hF fun x h3 hF => ?_
  obtain ⟨vs5, vr6⟩ := x
  refine bE hF fun x h4 hF => ?_
  obtain ⟨vs4, vr4⟩ := x
  refine awp_region ?_
  refine aR 1 ?_
  refine aC (fleetmake_Stream_Version_ok h1) [(0, 3000)] [] [] ?_
  refine aR 1 ?_
  refine aC (fleetmake_Stream_Version_ok h2) [(0, 3000)] [] [] ?_
  refine aR 1 ?_
  refine aC (fleetmake_Stream_VersionText_ok h3) [(0, 3000)] [] [] ?_
  refine aR 1 ?_
  refine aC (fleetmake_Stream_Images_ok h4) [(0, 3000)] [] [] ?_
  refine aR 6 ?_
  refine aE ?_
  refine awp_to (oT (m := ⟨[], [(0, [.d (.int .i64 vr1.Major), .d (.int .i64 vr1.Minor), .d (.int .i64 vr1.Patch)]), (1, [.d (.int .i64 vr1_1.Major), .d (.int .i64 vr1_1.Minor), .d (.int .i64 vr1_1.Patch)])]⟩) (ts := [(4, .v (.one (.box 0 0))), (5, .v (.one (.box 1 0))), (6, .v (.one (.d (.str vr6)))), (7, .v (.one (.d (.lst (List.map api_Image.enc vr4)))))]) (nx := 2) [(0, 13000), (1, 14000)] []) ?_
  refine awp_seq ?_
  refine bE hF fun x h5 hF => ?_
  obtain ⟨vr4_1, vr5⟩ := x
  refine awp_region ?_
  refine aR 1 ?_
  refine aC (campaign_VersionText_ok h5) [] [] [] ?_
  refine aR 5 ?_
  refine aE ?_
  refine awp_seq ?_
  refine bE hF fun vr h6 hF => ?_
  refine awp_region ?_
  refine aR 1 ?_
  refine aC (fleetref2_VersionFault_ok h6) [] [] [] ?_
  refine aR 2 ?_
  refine aE ?_
  refine awp_seq ?_
  refine awp_to (st' := fleetlaw2_VersionsRead_x1_I vr1 vr1_1 vr6 vr4 vr4_1 vr5 vr) (oT [] []) ?_
  refine bE hF fun vx1 h9 hF => ?_
  refine awp_sub (fleetlaw2_VersionsRead_x1_ok vr1 vr1_1 vr6 vr4 vr4_1 vr5 vr h9) ?_
  refine awp_seq ?_
  refine bE hF fun x h10 hF => ?_
  obtain ⟨vr2, vr4_2⟩ := x
  refine awp_region ?_
  refine aR 1 ?_
  refine aC (campaign_ParseVersion_ok h10) [] [] [] ?_
  refine aR 6 ?_
  refine aE ?_
  refine awp_seq ?_
  refine bE hF fun x h11 hF => ?_
  obtain ⟨vr7, vr2_1⟩ := x
  refine awp_region ?_
  refine aR 1 ?_
  refine aC (fleetref2_VersionOf_ok h11) [] [] [] ?_
  refine aR 6 ?_
  refine aE ?_
  refine awp_seq ?_
  refine awp_to (st' := fleetlaw2_VersionsRead_x2_I vr1 vr1_1 vr4 vr4_1 vr5 vr vx1 vr2 vr4_2 vr7 vr2_1) (oT [(2, 5002), (3, 13002)] []) ?_
  refine bE hF fun vx2_1 h23 hF => ?_
  refine awp_sub (fleetlaw2_VersionsRead_x2_ok vr1 vr1_1 vr4 vr4_1 vr5 vr vx1 vr2 vr4_2 vr7 vr2_1 h23) ?_
  refine awp_ret ?_
  exact oF hF [] []

end Go.Eng
