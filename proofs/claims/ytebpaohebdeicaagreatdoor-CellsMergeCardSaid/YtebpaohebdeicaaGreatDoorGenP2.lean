/-
The code of the Go functions that the law CellsMerge reaches does what the plain functions say, part 2.
-/
import Derived.Test.YtebpaohebdeicaaGreatDoorGenP1

namespace Go.Eng

open Go Go.Proofs.Tryz

set_option linter.unusedVariables false

set_option maxRecDepth 20000

set_option maxHeartbeats 0

/-! ### beaconfleet/twin.CheckProps -/
def twin_CheckProps_x2_k : Bool → AEx
  | _ => .normal

def twin_CheckProps_x2_S (ql : List api_Prop) (vx : Int) (vy2 : api_Prop) : Bool → St
  | vx2 => Mem.st ⟨[], [(0, [.d (.lst (List.map api_Prop.enc ql))])]⟩ (tl [(1, .v (.one (.box 0 0))), (11, .v (.one (.d (.lst (List.map api_Prop.enc ql))))), (12, .v (.one (.d (.int .i64 (ql.length : Int))))), (13, .v (.one (.d (.int .i64 vx)))), (44, .v (.one (.d (.bool vx2))))]) 1

def twin_CheckProps_x2_I (ql : List api_Prop) (vx : Int) (vy2 : api_Prop) : St := Mem.st ⟨[], [(0, [.d (.lst (List.map api_Prop.enc ql))]), (1, [.d (.str vy2.Name), .d (.int .i64 vy2.Value.Kind), .d (.bool vy2.Value.Flag), .d (.int .i64 vy2.Value.Number), .d (.str vy2.Value.Words)])]⟩ (tl [(1, .v (.one (.box 0 0))), (3, .v (.one (.d (.int .i64 vx)))), (4, .v (.one (.box 1 0))), (11, .v (.one (.d (.lst (List.map api_Prop.enc ql))))), (12, .v (.one (.d (.int .i64 (ql.length : Int))))), (13, .v (.one (.d (.int .i64 vx))))]) 2

theorem twin_CheckProps_x2_ok (ql : List api_Prop) (vx : Int) (vy2 : api_Prop) {r} (hF : twin_CheckProps_x2 ql vx vy2 = some r) : Awp prog 0 57 (cL (cR (cR (cR (cR (cL (cL (cR (cR (cL (cL (cR (cL (cR (cR (cB f24)))))))))))))))) (Out 0 twin_CheckProps_x2_k (twin_CheckProps_x2_S ql vx vy2) r) (twin_CheckProps_x2_I ql vx vy2) := by
  unfold twin_CheckProps_x2 at hF
  refine cE hF (fun h9 hF => ?_) fun h9 hF => ?_
  · refine bE hF fun vy3 h10 hF => ?_
    refine aD ?_
    refine dR 1 ?_
    refine dB h9 ?_
    refine dR 6 ?_
    refine dX (x_idx api_Prop.enc h10) ?_
    refine dR 4 ?_
    refine dE ?_
    exact oO hF [] [] rfl
  · refine aD ?_
    refine dR 1 ?_
    refine dB h9 ?_
    refine dR 11 ?_
    refine dE ?_
    exact oO hF [] [] rfl

def twin_CheckProps_x1_k : Unit ⊕ Int → AEx
  | .inl _ => .exit 0
  | .inr _ => .ret

def twin_CheckProps_x1_S (ql : List api_Prop) : Unit ⊕ Int → St
  | .inl _ => Mem.st ⟨[], [(0, [.d (.lst (List.map api_Prop.enc ql))])]⟩ (tl [(1, .v (.one (.box 0 0)))]) 1
  | .inr vx3 => Mem.st ⟨[], []⟩ (tl [(2, .v (.one (.d (.int .i64 vx3))))]) 0

def twin_CheckProps_x1_H (ql : List api_Prop) : Int → St
  | vx => Mem.st ⟨[], [(0, [.d (.lst (List.map api_Prop.enc ql))])]⟩ (tl [(1, .v (.one (.box 0 0))), (11, .v (.one (.d (.lst (List.map api_Prop.enc ql))))), (12, .v (.one (.d (.int .i64 (ql.length : Int))))), (13, .v (.one (.d (.int .i64 vx))))]) 1

theorem twin_CheckProps_x1_ok (ql : List api_Prop) (vx : Int) (r : (Int) ⊕ (Unit ⊕ Int)) (hF : twin_CheckProps_x1 ql vx = some r) : Awp prog 0 57 (cL (cL (cR (cL (cR (cR (cB f24))))))) (Out 0 (kk twin_CheckProps_x1_k) (SS (twin_CheckProps_x1_H ql) (twin_CheckProps_x1_S ql)) r) (twin_CheckProps_x1_H ql vx) := by
  unfold twin_CheckProps_x1 at hF
  refine awp_seq ?_
  refine awp_region ?_
  refine aR 1 ?_
  refine aE ?_
  refine awp_seq ?_
  refine cE hF (fun h2 hF => ?_) fun h2 hF => ?_
  · refine awp_true (by kernel_rfl) h2 ?_
    refine awp_skip ?_
    refine awp_seq ?_
    refine awp_block ?_
    refine awp_seq ?_
    refine bE hF fun vy2 h3 hF => ?_
    refine awp_region ?_
    refine aR 1 ?_
    refine aX (x_idx api_Prop.enc h3) ?_
    refine aR 4 ?_
    refine aE ?_
    refine awp_seq ?_
    refine awp_seq ?_
    refine bE hF fun vr1 h4 hF => ?_
    refine awp_region ?_
    refine aR 2 ?_
    refine aC (twin_isName_ok h4) [] [] [] ?_
    refine aR 1 ?_
    refine aE ?_
    refine cE hF (fun h5 hF => ?_) fun h5 hF => ?_
    · refine awp_true (by kernel_rfl) h5 ?_
      refine awp_seq ?_
      refine awp_region ?_
      refine aR 1 ?_
      refine aE ?_
      refine awp_ret ?_
      exact oO hF [] [] rfl
    · refine awp_false (by kernel_rfl) h5 ?_
      refine awp_skip ?_
      refine awp_seq ?_
      refine awp_seq ?_
      refine bE hF fun vr2_1 h6 hF => ?_
      refine awp_region ?_
      refine aR 2 ?_
      refine aC (twin_valueFault_ok h6) [] [] [] ?_
      refine aR 1 ?_
      refine aE ?_
      refine awp_seq ?_
      refine awp_region ?_
      refine aR 2 ?_
      refine aE ?_
      refine cE hF (fun h7 hF => ?_) fun h7 hF => ?_
      · refine awp_true (by kernel_rfl) h7 ?_
        refine awp_seq ?_
        refine awp_region ?_
        refine aR 2 ?_
        refine aE ?_
        refine awp_ret ?_
        exact oO hF [] [] rfl
      · refine awp_false (by kernel_rfl) h7 ?_
        refine awp_skip ?_
        refine awp_seq ?_
        refine awp_seq ?_
        refine awp_region ?_
        refine aR 4 ?_
        refine aE ?_
        refine cE hF (fun h8 hF => ?_) fun h8 hF => ?_
        · refine awp_true (by kernel_rfl) h8 ?_
          refine awp_seq ?_
          refine awp_region ?_
          refine aR 1 ?_
          refine aE ?_
          refine awp_ret ?_
          exact oO hF [] [] rfl
        · refine awp_false (by kernel_rfl) h8 ?_
          refine awp_skip ?_
          refine awp_seq ?_
          refine awp_to (st' := twin_CheckProps_x2_I ql vx vy2) (oT [(1, 4001)] []) ?_
          refine bE hF fun vx2_1 h11 hF => ?_
          refine awp_sub (twin_CheckProps_x2_ok ql vx vy2 h11) ?_
          refine cE hF (fun h12 hF => ?_) fun h12 hF => ?_
          · refine awp_true (by kernel_rfl) h12 ?_
            refine awp_seq ?_
            refine awp_region ?_
            refine aR 1 ?_
            refine aE ?_
            refine awp_ret ?_
            exact oO hF [] [] rfl
          · refine awp_false (by kernel_rfl) h12 ?_
            refine awp_skip ?_
            refine awp_region ?_
            refine aR 2 ?_
            refine aE ?_
            exact oO hF [] [] rfl
  · refine awp_false (by kernel_rfl) h2 ?_
    refine awp_exit ?_
    exact oO hF [] [] rfl

def twin_CheckProps_x3_k : Unit ⊕ Unit → AEx
  | .inl _ => .exit 2
  | .inr _ => .ret

def twin_CheckProps_x3_S (ql : List api_Prop) : Unit ⊕ Unit → St
  | .inl _ => Mem.st ⟨[], []⟩ (tl []) 0
  | .inr _ => Mem.st ⟨[], []⟩ (tl [(2, .v (.one (.d (.int .i64 13))))]) 0

def twin_CheckProps_x3_H (ql : List api_Prop) : Int → St
  | vx4 => Mem.st ⟨[], [(0, [.d (.lst (List.map api_Prop.enc ql))])]⟩ (tl [(1, .v (.one (.box 0 0))), (46, .v (.one (.d (.lst (List.map api_Prop.enc ql))))), (47, .v (.one (.d (.int .i64 (ql.length : Int))))), (48, .v (.one (.d (.int .i64 vx4))))]) 1

theorem twin_CheckProps_x3_ok (ql : List api_Prop) (vx4 : Int) (r : (Int) ⊕ (Unit ⊕ Unit)) (hF : twin_CheckProps_x3 ql vx4 = some r) : Awp prog 0 57 (cL (cL (cR (cL (cR (cR (cR (cB f24)))))))) (Out 0 (kk twin_CheckProps_x3_k) (SS (twin_CheckProps_x3_H ql) (twin_CheckProps_x3_S ql)) r) (twin_CheckProps_x3_H ql vx4) := by
  unfold twin_CheckProps_x3 at hF
  refine awp_seq ?_
  refine awp_region ?_
  refine aR 1 ?_
  refine aE ?_
  refine awp_seq ?_
  refine cE hF (fun h14 hF => ?_) fun h14 hF => ?_
  · refine awp_true (by kernel_rfl) h14 ?_
    refine awp_skip ?_
    refine awp_seq ?_
    refine awp_block ?_
    refine awp_seq ?_
    refine bE hF fun vy5 h15 hF => ?_
    refine awp_region ?_
    refine aX (x_idx api_Prop.enc h15) ?_
    refine aR 3 ?_
    refine aE ?_
    refine awp_seq ?_
    refine bE hF fun vr2_3 h16 hF => ?_
    refine awp_region ?_
    refine aR 3 ?_
    refine aC (twin_above_f1_twin_CheckProps_1_ok h16) [] [] [] ?_
    refine aE ?_
    refine cE hF (fun h17 hF => ?_) fun h17 hF => ?_
    · refine awp_true (by kernel_rfl) h17 ?_
      refine awp_seq ?_
      refine awp_region ?_
      refine aR 1 ?_
      refine aE ?_
      refine awp_ret ?_
      exact oO hF [] [] rfl
    · refine awp_false (by kernel_rfl) h17 ?_
      refine awp_skip ?_
      refine awp_region ?_
      refine aR 2 ?_
      refine aE ?_
      exact oO hF [] [] rfl
  · refine awp_false (by kernel_rfl) h14 ?_
    refine awp_exit ?_
    exact oO hF [] [] rfl

def twin_CheckProps_R (ql : List api_Prop) (r : Int) : TV × Mem := (.v (.one (.d (.int .i64 r))), ⟨[], []⟩)

theorem twin_CheckProps_ok {ql : List api_Prop} {r} (hF : twin_CheckProps ql = some r) : Holds prog 24 [.v (.one (.d (.lst (List.map api_Prop.enc ql))))] ⟨[], []⟩ (Is (twin_CheckProps_R ql r)) := by
  unfold twin_CheckProps at hF
  refine holds_of_awp hΓ (fn := f24) (c := cB f24) (A := 0) (nx := 0) (by kernel_rfl) (by kernel_rfl) (by kernel_rfl) (by kernel_rfl) (by kernel_rfl) (by kernel_rfl) (lowc_of (by kernel_rfl)) ?_
  show Awp prog 0 57 (cB f24) _ _
  refine awp_seq ?_
  refine awp_region ?_
  refine aR 2 ?_
  refine aE ?_
  refine awp_seq ?_
  refine awp_seq ?_
  refine awp_region ?_
  refine aR 1 ?_
  refine aL api_Prop.enc ql ?_
  refine aR 1 ?_
  refine aE ?_
  refine cE hF (fun h1 hF => ?_) fun h1 hF => ?_
  · refine awp_true (by kernel_rfl) h1 ?_
    refine awp_seq ?_
    refine awp_region ?_
    refine aR 1 ?_
    refine aE ?_
    refine awp_ret ?_
    exact oF hF [] []
  · refine awp_false (by kernel_rfl) h1 ?_
    refine awp_skip ?_
    refine awp_seq ?_
    refine awp_seq ?_
    refine awp_region ?_
    refine aR 1 ?_
    refine aL api_Prop.enc ql ?_
    refine aR 1 ?_
    refine aE ?_
    refine awp_block ?_
    refine awp_to (st' := twin_CheckProps_x1_H ql 0) (oT [] []) ?_
    refine bE hF fun x h13 hF => ?_
    rcases x with _ | vx3_1
    · refine awp_sub (awp_loop' (twin_CheckProps_x1_H ql) twin_CheckProps_x1_k (twin_CheckProps_x1_S ql) (by intro x; rcases x with x | x <;> exact fun h => nomatch h) h13 (twin_CheckProps_x1_ok ql)) ?_
      refine awp_seq ?_
      refine awp_seq ?_
      refine awp_region ?_
      refine aR 1 ?_
      refine aL api_Prop.enc ql ?_
      refine aR 1 ?_
      refine aE ?_
      refine awp_block ?_
      refine awp_to (st' := twin_CheckProps_x3_H ql 0) (oT [] []) ?_
      refine bE hF fun x h18 hF => ?_
      rcases x with _ | _
      · refine awp_sub (awp_loop' (twin_CheckProps_x3_H ql) twin_CheckProps_x3_k (twin_CheckProps_x3_S ql) (by intro x; rcases x with x | x <;> exact fun h => nomatch h) h18 (twin_CheckProps_x3_ok ql)) ?_
        refine awp_seq ?_
        refine awp_region ?_
        refine aR 1 ?_
        refine aE ?_
        refine awp_ret ?_
        exact oF hF [] []
      · refine awp_sub (awp_loop' (twin_CheckProps_x3_H ql) twin_CheckProps_x3_k (twin_CheckProps_x3_S ql) (by intro x; rcases x with x | x <;> exact fun h => nomatch h) h18 (twin_CheckProps_x3_ok ql)) ?_
        exact oF hF [] []
    · refine awp_sub (awp_loop' (twin_CheckProps_x1_H ql) twin_CheckProps_x1_k (twin_CheckProps_x1_S ql) (by intro x; rcases x with x | x <;> exact fun h => nomatch h) h13 (twin_CheckProps_x1_ok ql)) ?_
      exact oF hF [] []

/-! ### math/bits.Len64 -/
def bits_Len64_x1_k : (Int × Int) → AEx
  | _ => .normal

def bits_Len64_x1_S (qx : Int) : (Int × Int) → St
  | (vx, vn) => Mem.st ⟨[], []⟩ (tl [(0, .v (.one (.d (.int .u64 vx)))), (2, .v (.one (.d (.int .i64 vn))))]) 0

def bits_Len64_x1_I (qx : Int) : St := Mem.st ⟨[], []⟩ (tl [(0, .v (.one (.d (.int .u64 qx)))), (2, .v (.one (.d (.int .i64 0))))]) 0

theorem bits_Len64_x1_ok (qx : Int) {r} (hF : bits_Len64_x1 qx = some r) : Awp prog 0 25 (cL (cR (cB f156))) (Out 0 bits_Len64_x1_k (bits_Len64_x1_S qx) r) (bits_Len64_x1_I qx) := by
  unfold bits_Len64_x1 at hF
  refine awp_seq ?_
  refine awp_region ?_
  refine aR 2 ?_
  refine aE ?_
  refine cE hF (fun h1 hF => ?_) fun h1 hF => ?_
  · refine awp_true (by kernel_rfl) h1 ?_
    refine awp_seq ?_
    refine awp_region ?_
    refine aR 3 ?_
    refine aE ?_
    refine awp_region ?_
    refine aR 1 ?_
    refine aE ?_
    exact oO hF [] [] rfl
  · refine awp_false (by kernel_rfl) h1 ?_
    refine awp_skip ?_
    exact oO hF [] [] rfl

def bits_Len64_x2_k : (Int × Int) → AEx
  | _ => .normal

def bits_Len64_x2_S (vx1 : Int) (vn1 : Int) : (Int × Int) → St
  | (vx2, vn2) => Mem.st ⟨[], []⟩ (tl [(0, .v (.one (.d (.int .u64 vx2)))), (2, .v (.one (.d (.int .i64 vn2))))]) 0

def bits_Len64_x2_I (vx1 : Int) (vn1 : Int) : St := Mem.st ⟨[], []⟩ (tl [(0, .v (.one (.d (.int .u64 vx1)))), (2, .v (.one (.d (.int .i64 vn1))))]) 0

theorem bits_Len64_x2_ok (vx1 : Int) (vn1 : Int) {r} (hF : bits_Len64_x2 vx1 vn1 = some r) : Awp prog 0 25 (cL (cR (cR (cB f156)))) (Out 0 bits_Len64_x2_k (bits_Len64_x2_S vx1 vn1) r) (bits_Len64_x2_I vx1 vn1) := by
  unfold bits_Len64_x2 at hF
  refine awp_seq ?_
  refine awp_region ?_
  refine aR 2 ?_
  refine aE ?_
  refine cE hF (fun h3 hF => ?_) fun h3 hF => ?_
  · refine awp_true (by kernel_rfl) h3 ?_
    refine awp_seq ?_
    refine awp_region ?_
    refine aR 3 ?_
    refine aE ?_
    refine awp_region ?_
    refine aR 3 ?_
    refine aE ?_
    exact oO hF [] [] rfl
  · refine awp_false (by kernel_rfl) h3 ?_
    refine awp_skip ?_
    exact oO hF [] [] rfl

def bits_Len64_x3_k : (Int × Int) → AEx
  | _ => .normal

def bits_Len64_x3_S (vx2_1 : Int) (vn2_1 : Int) : (Int × Int) → St
  | (vx3, vn3) => Mem.st ⟨[], []⟩ (tl [(0, .v (.one (.d (.int .u64 vx3)))), (2, .v (.one (.d (.int .i64 vn3))))]) 0

def bits_Len64_x3_I (vx2_1 : Int) (vn2_1 : Int) : St := Mem.st ⟨[], []⟩ (tl [(0, .v (.one (.d (.int .u64 vx2_1)))), (2, .v (.one (.d (.int .i64 vn2_1))))]) 0

theorem bits_Len64_x3_ok (vx2_1 : Int) (vn2_1 : Int) {r} (hF : bits_Len64_x3 vx2_1 vn2_1 = some r) : Awp prog 0 25 (cL (cR (cR (cR (cB f156))))) (Out 0 bits_Len64_x3_k (bits_Len64_x3_S vx2_1 vn2_1) r) (bits_Len64_x3_I vx2_1 vn2_1) := by
  unfold bits_Len64_x3 at hF
  refine awp_seq ?_
  refine awp_region ?_
  refine aR 2 ?_
  refine aE ?_
  refine cE hF (fun h5 hF => ?_) fun h5 hF => ?_
  · refine awp_true (by kernel_rfl) h5 ?_
    refine awp_seq ?_
    refine awp_region ?_
    refine aR 3 ?_
    refine aE ?_
    refine awp_region ?_
    refine aR 3 ?_
    refine aE ?_
    exact oO hF [] [] rfl
  · refine awp_false (by kernel_rfl) h5 ?_
    refine awp_skip ?_
    exact oO hF [] [] rfl

def bits_Len64_R (qx : Int) (r : Int) : TV × Mem := (.v (.one (.d (.int .i64 r))), ⟨[], []⟩)

theorem bits_Len64_ok {qx : Int} {r} (hF : bits_Len64 qx = some r) : Holds prog 156 [.v (.one (.d (.int .u64 qx)))] ⟨[], []⟩ (Is (bits_Len64_R qx r)) := by
  unfold bits_Len64 at hF
  refine holds_of_awp hΓ (fn := f156) (c := cB f156) (A := 0) (nx := 0) (by kernel_rfl) (by kernel_rfl) (by kernel_rfl) (by kernel_rfl) (by kernel_rfl) (by kernel_rfl) (lowc_of (by kernel_rfl)) ?_
  show Awp prog 0 25 (cB f156) _ _
  refine awp_seq ?_
  refine awp_region ?_
  refine aR 1 ?_
  refine aE ?_
  refine awp_seq ?_
  refine awp_to (st' := bits_Len64_x1_I qx) (oT [] []) ?_
  refine bE hF fun x h2 hF => ?_
  obtain ⟨vx1, vn1⟩ := x
  refine awp_sub (bits_Len64_x1_ok qx h2) ?_
  refine awp_seq ?_
  refine awp_to (st' := bits_Len64_x2_I vx1 vn1) (oT [] []) ?_
  refine bE hF fun x h4 hF => ?_
  obtain ⟨vx2_1, vn2_1⟩ := x
  refine awp_sub (bits_Len64_x2_ok vx1 vn1 h4) ?_
  refine awp_seq ?_
  refine awp_to (st' := bits_Len64_x3_I vx2_1 vn2_1) (oT [] []) ?_
  refine bE hF fun x h6 hF => ?_
  obtain ⟨vx3_1, vn3_1⟩ := x
  refine awp_sub (bits_Len64_x3_ok vx2_1 vn2_1 h6) ?_
  refine awp_seq ?_
  refine bE hF fun vc h7 hF => ?_
  refine awp_region ?_
  refine aR 3 ?_
  refine aX (x_idxS h7) ?_
  refine aR 3 ?_
  refine aE ?_
  refine awp_ret ?_
  exact oF hF [] []

/-! ### math/bits.Len -/
def bits_Len_R (qx : Int) (r : Int) : TV × Mem := (.v (.one (.d (.int .i64 r))), ⟨[], []⟩)

theorem bits_Len_ok {qx : Int} {r} (hF : bits_Len qx = some r) : Holds prog 116 [.v (.one (.d (.int .u64 qx)))] ⟨[], []⟩ (Is (bits_Len_R qx r)) := by
  unfold bits_Len at hF
  refine holds_of_awp hΓ (fn := f116) (c := cB f116) (A := 0) (nx := 0) (by kernel_rfl) (by kernel_rfl) (by kernel_rfl) (by kernel_rfl) (by kernel_rfl) (by kernel_rfl) (lowc_of (by kernel_rfl)) ?_
  show Awp prog 0 8 (cB f116) _ _
  refine awp_seq ?_
  refine awp_region ?_
  refine aR 1 ?_
  refine aE ?_
  refine awp_seq ?_
  refine awp_false (by kernel_rfl) rfl ?_
  refine awp_skip ?_
  refine awp_seq ?_
  refine bE hF fun vr h1 hF => ?_
  refine awp_region ?_
  refine aR 1 ?_
  refine aC (bits_Len64_ok h1) [] [] [] ?_
  refine aR 1 ?_
  refine aE ?_
  refine awp_ret ?_
  exact oF hF [] []

/-! ### cmp.isNaN[string] -/
def cmp_isNaN_string_R (qx : List UInt8) (r : Unit) : TV × Mem := (.v (.one (.d (.bool (!decide (qx = qx))))), ⟨[], []⟩)

theorem cmp_isNaN_string_ok {qx : List UInt8} {r} (hF : cmp_isNaN_string qx = some r) : Holds prog 217 [.v (.one (.d (.str qx)))] ⟨[], []⟩ (Is (cmp_isNaN_string_R qx r)) := by
  unfold cmp_isNaN_string at hF
  refine holds_of_awp hΓ (fn := f217) (c := cB f217) (A := 0) (nx := 0) (by kernel_rfl) (by kernel_rfl) (by kernel_rfl) (by kernel_rfl) (by kernel_rfl) (by kernel_rfl) (lowc_of (by kernel_rfl)) ?_
  show Awp prog 0 6 (cB f217) _ _
  refine awp_seq ?_
  refine awp_region ?_
  refine aR 1 ?_
  refine aE ?_
  refine awp_seq ?_
  refine awp_region ?_
  refine aR 4 ?_
  refine aE ?_
  refine awp_ret ?_
  exact oF hF [] []

/-! ### cmp.Less[string] -/
def cmp_Less_string_x1_k : Bool → AEx
  | _ => .normal

def cmp_Less_string_x1_S (qx : List UInt8) (qy : List UInt8) : Bool → St
  | vx => Mem.st ⟨[], []⟩ (tl [(4, .v (.one (.d (.bool vx))))]) 0

def cmp_Less_string_x1_I (qx : List UInt8) (qy : List UInt8) : St := Mem.st ⟨[], []⟩ (tl [(0, .v (.one (.d (.str qx)))), (1, .v (.one (.d (.str qy))))]) 0

theorem cmp_Less_string_x1_ok (qx : List UInt8) (qy : List UInt8) {r} (hF : cmp_Less_string_x1 qx qy = some r) : Awp prog 0 17 (cL (cR (cB f199))) (Out 0 cmp_Less_string_x1_k (cmp_Less_string_x1_S qx qy) r) (cmp_Less_string_x1_I qx qy) := by
  unfold cmp_Less_string_x1 at hF
  refine bE hF fun _ h1 hF => ?_
  refine cE hF (fun h2 hF => ?_) fun h2 hF => ?_
  · refine bE hF fun _ h3 hF => ?_
    refine cE hF (fun h4 hF => ?_) fun h4 hF => ?_
    · refine awp_region ?_
      refine aR 1 ?_
      refine aCb (cmp_isNaN_string_ok h1) [] [] [] h2 ?_
      refine aR 2 ?_
      refine aC (cmp_isNaN_string_ok h3) [] [] [] ?_
      refine aB h4 ?_
      refine aR 7 ?_
      refine aE ?_
      exact oO hF [] [] rfl
    · refine awp_region ?_
      refine aR 1 ?_
      refine aCb (cmp_isNaN_string_ok h1) [] [] [] h2 ?_
      refine aR 2 ?_
      refine aC (cmp_isNaN_string_ok h3) [] [] [] ?_
      refine aB h4 ?_
      refine aR 7 ?_
      refine aE ?_
      exact oO hF [] [] rfl
  · refine awp_region ?_
    refine aR 1 ?_
    refine aCb (cmp_isNaN_string_ok h1) [] [] [] h2 ?_
    refine aR 11 ?_
    refine aE ?_
    exact oO hF [] [] rfl

def cmp_Less_string_R (qx : List UInt8) (qy : List UInt8) (r : Bool) : TV × Mem := (.v (.one (.d (.bool r))), ⟨[], []⟩)

theorem cmp_Less_string_ok {qx : List UInt8} {qy : List UInt8} {r} (hF : cmp_Less_string qx qy = some r) : Holds prog 199 [.v (.one (.d (.str qx))), .v (.one (.d (.str qy)))] ⟨[], []⟩ (Is (cmp_Less_string_R qx qy r)) := by
  unfold cmp_Less_string at hF
  refine holds_of_awp hΓ (fn := f199) (c := cB f199) (A := 0) (nx := 0) (by kernel_rfl) (by kernel_rfl) (by kernel_rfl) (by kernel_rfl) (by kernel_rfl) (by kernel_rfl) (lowc_of (by kernel_rfl)) ?_
  show Awp prog 0 17 (cB f199) _ _
  refine awp_seq ?_
  refine awp_region ?_
  refine aR 1 ?_
  refine aE ?_
  refine awp_seq ?_
  refine awp_to (st' := cmp_Less_string_x1_I qx qy) (oT [] []) ?_
  refine bE hF fun vx1 h5 hF => ?_
  refine awp_sub (cmp_Less_string_x1_ok qx qy h5) ?_
  refine awp_ret ?_
  exact oF hF [] []

/-! ### slices.insertionSortOrdered[string] -/
def slices_insertionSortOrdered_string_o0_x3_k : Bool → AEx
  | _ => .normal

def slices_insertionSortOrdered_string_o0_x3_S (qa : Int) (qb : Int) (vi : Int) (vl3 : List (List UInt8)) (vj1 : Int) : Bool → St
  | vx4 => Mem.st ⟨[(0, ⟨9, 1, List.map encS vl3⟩)], []⟩ (tl [(0, .v (.one (.own 0 none))), (1, .v (.one (.d (.int .i64 qa)))), (2, .v (.one (.d (.int .i64 qb)))), (6, .v (.one (.d (.int .i64 vi)))), (7, .v (.one (.d (.int .i64 vj1)))), (30, .v (.one (.d (.bool vx4))))]) 1

def slices_insertionSortOrdered_string_o0_x3_I (qa : Int) (qb : Int) (vi : Int) (vl3 : List (List UInt8)) (vj1 : Int) : St := Mem.st ⟨[(0, ⟨9, 1, List.map encS vl3⟩)], []⟩ (tl [(0, .v (.one (.own 0 none))), (1, .v (.one (.d (.int .i64 qa)))), (2, .v (.one (.d (.int .i64 qb)))), (6, .v (.one (.d (.int .i64 vi)))), (7, .v (.one (.d (.int .i64 vj1))))]) 1

theorem slices_insertionSortOrdered_string_o0_x3_ok (qa : Int) (qb : Int) (vi : Int) (vl3 : List (List UInt8)) (vj1 : Int) {r} (hF : slices_insertionSortOrdered_string_o0_x3 qa vl3 vj1 = some r) : Awp prog 1 49 (cL (cL (cL (cL (cR (cL (cL (cR (cL (cL (cR (cB f193)))))))))))) (Out 1 slices_insertionSortOrdered_string_o0_x3_k (slices_insertionSortOrdered_string_o0_x3_S qa qb vi vl3 vj1) r) (slices_insertionSortOrdered_string_o0_x3_I qa qb vi vl3 vj1) := by
  unfold slices_insertionSortOrdered_string_o0_x3 at hF
  refine cE hF (fun h2 hF => ?_) fun h2 hF => ?_
  · refine bE hF fun vy15 h3 hF => ?_
    refine bE hF fun vy16 h4 hF => ?_
    refine bE hF fun vr3 h5 hF => ?_
    refine aD ?_
    refine dR 2 ?_
    refine dB h2 ?_
    refine dR 3 ?_
    refine dX (x_idxO encS 0 h3) ?_
    refine dX (x_ldE encS h3) ?_
    refine dR 3 ?_
    refine dX (x_idxO encS 0 h4) ?_
    refine dX (x_ldE encS h4) ?_
    refine dC (cmp_Less_string_ok h5) [] [] [] ?_
    refine dR 1 ?_
    refine dE ?_
    exact oO hF [] [] rfl
  · refine aD ?_
    refine dR 2 ?_
    refine dB h2 ?_
    refine dR 12 ?_
    refine dE ?_
    exact oO hF [] [] rfl

def slices_insertionSortOrdered_string_o0_x2_k : (List (List UInt8)) → AEx
  | _ => .exit 2

def slices_insertionSortOrdered_string_o0_x2_S (qa : Int) (qb : Int) (vi : Int) : (List (List UInt8)) → St
  | vl4 => Mem.st ⟨[(0, ⟨9, 1, List.map encS vl4⟩)], []⟩ (tl [(0, .v (.one (.own 0 none))), (1, .v (.one (.d (.int .i64 qa)))), (2, .v (.one (.d (.int .i64 qb)))), (6, .v (.one (.d (.int .i64 vi))))]) 1

def slices_insertionSortOrdered_string_o0_x2_H (qa : Int) (qb : Int) (vi : Int) : (List (List UInt8)) × Int → St
  | (vl3, vj1) => Mem.st ⟨[(0, ⟨9, 1, List.map encS vl3⟩)], []⟩ (tl [(0, .v (.one (.own 0 none))), (1, .v (.one (.d (.int .i64 qa)))), (2, .v (.one (.d (.int .i64 qb)))), (6, .v (.one (.d (.int .i64 vi)))), (7, .v (.one (.d (.int .i64 vj1))))]) 1

theorem slices_insertionSortOrdered_string_o0_x2_ok (qa : Int) (qb : Int) (vi : Int) (s : (List (List UInt8)) × Int) (r : ((List (List UInt8)) × Int) ⊕ ((List (List UInt8)))) (hF : slices_insertionSortOrdered_string_o0_x2 qa s = some r) : Awp prog 1 49 (cL (cL (cR (cL (cL (cR (cL (cL (cR (cB f193)))))))))) (Out 1 (kk slices_insertionSortOrdered_string_o0_x2_k) (SS (slices_insertionSortOrdered_string_o0_x2_H qa qb vi) (slices_insertionSortOrdered_string_o0_x2_S qa qb vi)) r) (slices_insertionSortOrdered_string_o0_x2_H qa qb vi s) := by
  obtain ⟨vl3, vj1⟩ := s
  unfold slices_insertionSortOrdered_string_o0_x2 at hF
  refine awp_seq ?_
  refine awp_seq ?_
  refine awp_to (st' := slices_insertionSortOrdered_string_o0_x3_I qa qb vi vl3 vj1) (oT [] []) ?_
  refine bE hF fun vx4_1 h6 hF => ?_
  refine awp_sub (slices_insertionSortOrdered_string_o0_x3_ok qa qb vi vl3 vj1 h6) ?_
  refine cE hF (fun h7 hF => ?_) fun h7 hF => ?_
  · refine awp_true (by kernel_rfl) h7 ?_
    refine awp_skip ?_
    refine awp_seq ?_
    refine awp_block ?_
    refine bE hF fun vy17 h8 hF => ?_
    refine bE hF fun vy18 h9 hF => ?_
    refine bE hF fun vy19 h10 hF => ?_
    refine aDw [0] ?_
    refine dR 8 ?_
    refine dI encS 0 h8 rfl ?_
    refine dX (x_ldE encS h8) ?_
    refine dR 2 ?_
    refine dI encS 0 h9 rfl ?_
    refine dX (x_ldE encS h9) ?_
    refine dI encS 0 h9 rfl ?_
    refine dW encS vy17 h9 rfl ?_
    refine dI encS 0 h10 rfl ?_
    refine dW encS vy18 h10 rfl ?_
    refine dE ?_
    refine awp_region ?_
    refine aR 3 ?_
    refine aE ?_
    exact oO hF [] [] rfl
  · refine awp_false (by kernel_rfl) h7 ?_
    refine awp_exit ?_
    exact oO hF [] [] rfl

def slices_insertionSortOrdered_string_o0_x1_k : (List (List UInt8)) → AEx
  | _ => .exit 0

def slices_insertionSortOrdered_string_o0_x1_S (qa : Int) (qb : Int) : (List (List UInt8)) → St
  | vl5 => Mem.st ⟨[(0, ⟨9, 1, List.map encS vl5⟩)], []⟩ (tl []) 1

def slices_insertionSortOrdered_string_o0_x1_H (qa : Int) (qb : Int) : (List (List UInt8)) × Int → St
  | (vl, vi) => Mem.st ⟨[(0, ⟨9, 1, List.map encS vl⟩)], []⟩ (tl [(0, .v (.one (.own 0 none))), (1, .v (.one (.d (.int .i64 qa)))), (2, .v (.one (.d (.int .i64 qb)))), (6, .v (.one (.d (.int .i64 vi))))]) 1

theorem slices_insertionSortOrdered_string_o0_x1_ok (qa : Int) (qb : Int) (s : (List (List UInt8)) × Int) (r : ((List (List UInt8)) × Int) ⊕ ((List (List UInt8)))) (hF : slices_insertionSortOrdered_string_o0_x1 qa qb s = some r) : Awp prog 1 49 (cL (cL (cR (cB f193)))) (Out 1 (kk slices_insertionSortOrdered_string_o0_x1_k) (SS (slices_insertionSortOrdered_string_o0_x1_H qa qb) (slices_insertionSortOrdered_string_o0_x1_S qa qb)) r) (slices_insertionSortOrdered_string_o0_x1_H qa qb s) := by
  obtain ⟨vl, vi⟩ := s
  unfold slices_insertionSortOrdered_string_o0_x1 at hF
  refine awp_seq ?_
  refine awp_seq ?_
  refine awp_region ?_
  refine aR 3 ?_
  refine aE ?_
  refine cE hF (fun h1 hF => ?_) fun h1 hF => ?_
  · refine awp_true (by kernel_rfl) h1 ?_
    refine awp_skip ?_
    refine awp_seq ?_
    refine awp_block ?_
    refine awp_seq ?_
    refine awp_region ?_
    refine aR 2 ?_
    refine aE ?_
    refine awp_block ?_
    refine awp_to (st' := slices_insertionSortOrdered_string_o0_x2_H qa qb vi (vl, vi)) (oT [] []) ?_
    refine bE hF fun vl4_1 h11 hF => ?_
    refine awp_sub (awp_loop' (slices_insertionSortOrdered_string_o0_x2_H qa qb vi) slices_insertionSortOrdered_string_o0_x2_k (slices_insertionSortOrdered_string_o0_x2_S qa qb vi) (by intro x; exact fun h => nomatch h) h11 (slices_insertionSortOrdered_string_o0_x2_ok qa qb vi)) ?_
    refine awp_region ?_
    refine aR 3 ?_
    refine aE ?_
    exact oO hF [] [] rfl
  · refine awp_false (by kernel_rfl) h1 ?_
    refine awp_exit ?_
    exact oO hF [] [] rfl

def slices_insertionSortOrdered_string_o0_R (qdata : List (List UInt8)) (qa : Int) (qb : Int) (r : (List (List UInt8))) : TV × Mem := (.tup [], ⟨[(0, ⟨9, 1, List.map encS r⟩)], []⟩)

theorem slices_insertionSortOrdered_string_o0_ok {qdata : List (List UInt8)} {qa : Int} {qb : Int} {r} (hF : slices_insertionSortOrdered_string_o0 qdata qa qb = some r) : Holds prog 193 [.v (.one (.own 0 none)), .v (.one (.d (.int .i64 qa))), .v (.one (.d (.int .i64 qb)))] ⟨[(0, ⟨9, 1, List.map encS qdata⟩)], []⟩ (Is (slices_insertionSortOrdered_string_o0_R qdata qa qb r)) := by
  unfold slices_insertionSortOrdered_string_o0 at hF
  refine holds_of_awp hΓ (fn := f193) (c := cB f193) (A := 1) (nx := 1) (by kernel_rfl) (by kernel_rfl) (by kernel_rfl) (by kernel_rfl) (by kernel_rfl) (by kernel_rfl) (lowc_of (by kernel_rfl)) ?_
  show Awp prog 1 49 (cB f193) _ _
  refine awp_seq ?_
  refine awp_region ?_
  refine aR 3 ?_
  refine aE ?_
  refine awp_block ?_
  refine awp_to (st' := slices_insertionSortOrdered_string_o0_x1_H qa qb (qdata, IntKind.wrap .i64 (qa + 1))) (oT [] []) ?_
  refine bE hF fun vl5_1 h12 hF => ?_
  refine awp_sub (awp_loop' (slices_insertionSortOrdered_string_o0_x1_H qa qb) slices_insertionSortOrdered_string_o0_x1_k (slices_insertionSortOrdered_string_o0_x1_S qa qb) (by intro x; exact fun h => nomatch h) h12 (slices_insertionSortOrdered_string_o0_x1_ok qa qb)) ?_
  exact oF hF [] []

/-! ### slices.pdqsortOrdered[string] -/
def slices_pdqsortOrdered_string_o0_x1_k : (List (List UInt8)) → AEx
  | _ => .ret

def slices_pdqsortOrdered_string_o0_x1_S (qx : List (List UInt8)) (qx1 : Int) (qx2 : Int) (qx3 : Int) : (List (List UInt8)) → St
  | vl => Mem.st ⟨[(0, ⟨9, 1, List.map encS vl⟩)], []⟩ (tl []) 1

def slices_pdqsortOrdered_string_o0_x1_H (qx : List (List UInt8)) (qx1 : Int) (qx2 : Int) (qx3 : Int) : Unit → St
  | _ => Mem.st ⟨[(0, ⟨9, 1, List.map encS qx⟩)], []⟩ (tl [(0, .v (.one (.own 0 none))), (1, .v (.one (.d (.int .i64 qx1)))), (2, .v (.one (.d (.int .i64 qx2)))), (3, .v (.one (.d (.int .i64 qx3)))), (8, .v (.one (.d (.bool true)))), (9, .v (.one (.d (.bool true))))]) 1

theorem slices_pdqsortOrdered_string_o0_x1_ok (qx : List (List UInt8)) (qx1 : Int) (qx2 : Int) (qx3 : Int) (s : Unit) (r : (Unit) ⊕ ((List (List UInt8)))) (hF : slices_pdqsortOrdered_string_o0_x1 qx qx1 qx2 qx3 s = some r) : Awp prog 1 134 (cL (cL (cR (cR (cB f166))))) (Out 1 (kk slices_pdqsortOrdered_string_o0_x1_k) (SS (slices_pdqsortOrdered_string_o0_x1_H qx qx1 qx2 qx3) (slices_pdqsortOrdered_string_o0_x1_S qx qx1 qx2 qx3)) r) (slices_pdqsortOrdered_string_o0_x1_H qx qx1 qx2 qx3 s) := by
  unfold slices_pdqsortOrdered_string_o0_x1 at hF
  refine awp_block ?_
  refine awp_seq ?_
  refine awp_region ?_
  refine aR 4 ?_
  refine aE ?_
  refine awp_seq ?_
  refine awp_seq ?_
  refine awp_region ?_
  refine aR 2 ?_
  refine aE ?_
  refine cE hF (fun h1 hF => ?_) fun h1 hF => ?_
  · refine awp_true (by kernel_rfl) h1 ?_
    refine awp_seq ?_
    refine bE hF fun vl6_1 h2 hF => ?_
    refine gE hF fun h3 hF => ?_
    refine awp_region ?_
    refine aR 3 ?_
    refine aCp (slices_insertionSortOrdered_string_o0_ok h2) ⟨⟨rfl, rfl, pin1 h3⟩, trivial⟩ [] [] [] ?_
    refine aE ?_
    refine awp_ret ?_
    exact oO hF [] [] rfl
  · refine awp_false (by kernel_rfl) h1 ?_
    refine awp_skip ?_
    refine awp_seq ?_
    refine awp_seq ?_
    refine awp_region ?_
    refine aR 2 ?_
    refine aE ?_
    refine cE hF (fun h4 hF => ?_) fun h4 hF => ?_
    · refine awp_true (by kernel_rfl) h4 ?_
      refine awp_seq ?_
      exact nE hF
    · refine awp_false (by kernel_rfl) h4 ?_
      refine awp_skip ?_
      refine awp_seq ?_
      refine awp_seq ?_
      refine awp_region ?_
      refine aR 2 ?_
      refine aE ?_
      refine awp_false (by kernel_rfl) rfl ?_
      refine awp_skip ?_
      refine awp_seq ?_
      exact nE hF

def slices_pdqsortOrdered_string_o0_R (qx : List (List UInt8)) (qx1 : Int) (qx2 : Int) (qx3 : Int) (r : (List (List UInt8))) : TV × Mem := (.tup [], ⟨[(0, ⟨9, 1, List.map encS r⟩)], []⟩)

theorem slices_pdqsortOrdered_string_o0_ok {qx : List (List UInt8)} {qx1 : Int} {qx2 : Int} {qx3 : Int} {r} (hF : slices_pdqsortOrdered_string_o0 qx qx1 qx2 qx3 = some r) : Holds prog 166 [.v (.one (.own 0 none)), .v (.one (.d (.int .i64 qx1))), .v (.one (.d (.int .i64 qx2))), .v (.one (.d (.int .i64 qx3)))] ⟨[(0, ⟨9, 1, List.map encS qx⟩)], []⟩ (Is (slices_pdqsortOrdered_string_o0_R qx qx1 qx2 qx3 r)) := by
  unfold slices_pdqsortOrdered_string_o0 at hF
  refine holds_of_awp hΓ (fn := f166) (c := cB f166) (A := 1) (nx := 1) (by kernel_rfl) (by kernel_rfl) (by kernel_rfl) (by kernel_rfl) (by kernel_rfl) (by kernel_rfl) (lowc_of (by kernel_rfl)) ?_
  show Awp prog 1 134 (cB f166) _ _
  refine awp_seq ?_
  refine awp_region ?_
  refine aR 1 ?_
  refine aE ?_
  refine awp_seq ?_
  refine awp_region ?_
  refine aR 1 ?_
  refine aE ?_
  refine awp_block ?_
  refine awp_to (st' := slices_pdqsortOrdered_string_o0_x1_H qx qx1 qx2 qx3 ()) (oT [] []) ?_
  refine bE hF fun vl1 h7 hF => ?_
  refine awp_sub (awp_loop' (slices_pdqsortOrdered_string_o0_x1_H qx qx1 qx2 qx3) slices_pdqsortOrdered_string_o0_x1_k (slices_pdqsortOrdered_string_o0_x1_S qx qx1 qx2 qx3) (by intro x; exact fun h => nomatch h) h7 (slices_pdqsortOrdered_string_o0_x1_ok qx qx1 qx2 qx3)) ?_
  exact oF hF [] []

/-! ### slices.Sort[[]string,string] -/
def slices_Sort_string_string_o0_R (qx : List (List UInt8)) (r : (List (List UInt8))) : TV × Mem := (.tup [], ⟨[(0, ⟨9, 1, List.map encS r⟩)], []⟩)

theorem slices_Sort_string_string_o0_ok {qx : List (List UInt8)} {r} (hF : slices_Sort_string_string_o0 qx = some r) : Holds prog 130 [.v (.one (.own 0 none))] ⟨[(0, ⟨9, 1, List.map encS qx⟩)], []⟩ (Is (slices_Sort_string_string_o0_R qx r)) := by
  unfold slices_Sort_string_string_o0 at hF
  refine holds_of_awp hΓ (fn := f130) (c := cB f130) (A := 1) (nx := 1) (by kernel_rfl) (by kernel_rfl) (by kernel_rfl) (by kernel_rfl) (by kernel_rfl) (by kernel_rfl) (lowc_of (by kernel_rfl)) ?_
  show Awp prog 1 11 (cB f130) _ _
  refine awp_seq ?_
  refine awp_region ?_
  refine aR 1 ?_
  refine aL encS qx ?_
  refine aR 1 ?_
  refine aE ?_
  refine bE hF fun vr1 h1 hF => ?_
  refine bE hF fun vl2 h2 hF => ?_
  refine gE hF fun h3 hF => ?_
  refine awp_region ?_
  refine aR 4 ?_
  refine aC (bits_Len_ok h1) [] [] [] ?_
  refine aCp (slices_pdqsortOrdered_string_o0_ok h2) ⟨⟨rfl, rfl, pin1 h3⟩, trivial⟩ [] [] [] ?_
  refine aE ?_
  exact oF hF [] []

/-! ### slices.Compact[[]string,string] -/
def slices_Compact_string_string_o0_x3_k : ((List (List UInt8)) × Int) → AEx
  | _ => .normal

def slices_Compact_string_string_o0_x3_S (qs : List (List UInt8)) (vk : Int) (vl4 : List (List UInt8)) (vk6 : Int) (vk2_1 : Int) : ((List (List UInt8)) × Int) → St
  | (vl6, vk8) => Mem.st ⟨[(0, ⟨9, 1, List.map encS vl6⟩)], []⟩ (tl [(0, .v (.one (.own 0 none))), (3, .v (.one (.d (.int .i64 vk8)))), (4, .v (.one (.view 0 vk.toNat ((qs.length : Int).toNat - vk.toNat)))), (5, .v (.one (.d (.int .i64 vk2_1))))]) 1

def slices_Compact_string_string_o0_x3_I (qs : List (List UInt8)) (vk : Int) (vl4 : List (List UInt8)) (vk6 : Int) (vk2_1 : Int) : St := Mem.st ⟨[(0, ⟨9, 1, List.map encS vl4⟩)], []⟩ (tl [(0, .v (.one (.own 0 none))), (3, .v (.one (.d (.int .i64 vk6)))), (4, .v (.one (.view 0 vk.toNat ((qs.length : Int).toNat - vk.toNat)))), (5, .v (.one (.d (.int .i64 vk2_1))))]) 1

theorem slices_Compact_string_string_o0_x3_ok (qs : List (List UInt8)) (vk : Int) (vl4 : List (List UInt8)) (vk6 : Int) (vk2_1 : Int) {r} (hF : slices_Compact_string_string_o0_x3 qs vk vl4 vk6 vk2_1 = some r) : Awp prog 1 61 (cL (cR (cL (cL (cR (cL (cR (cL (cR (cL (cL (cR (cL (cL (cR (cL (cR (cR (cB f131))))))))))))))))))) (Out 1 slices_Compact_string_string_o0_x3_k (slices_Compact_string_string_o0_x3_S qs vk vl4 vk6 vk2_1) r) (slices_Compact_string_string_o0_x3_I qs vk vl4 vk6 vk2_1) := by
  unfold slices_Compact_string_string_o0_x3 at hF
  refine awp_block ?_
  refine awp_seq ?_
  refine gE hF fun h8 hF => ?_
  refine bE hF fun vy13 h9 hF => ?_
  refine gE hF fun h10 hF => ?_
  refine bE hF fun vy14 h11 hF => ?_
  refine aD ?_
  refine dR 2 ?_
  refine dX (x_idxV encS 0 h8 h9) ?_
  refine dX (x_ldE encS h9) ?_
  refine dR 3 ?_
  refine dX (x_idxV encS 0 h10 h11) ?_
  refine dX (x_ldE encS h11) ?_
  refine dR 1 ?_
  refine dE ?_
  refine cE hF (fun h12 hF => ?_) fun h12 hF => ?_
  · refine awp_true (by kernel_rfl) h12 ?_
    refine awp_seq ?_
    refine bE hF fun vy15 h13 hF => ?_
    refine awp_region ?_
    refine aR 4 ?_
    refine aX (x_idxV encS 0 h8 h9) ?_
    refine aX (x_ldE encS h9) ?_
    refine aX (x_idxO encS 0 h13) ?_
    refine aX (x_stE encS vy13 h13) ?_
    refine aE ?_
    refine awp_region ?_
    refine aR 3 ?_
    refine aE ?_
    exact oO hF [] [] rfl
  · refine awp_false (by kernel_rfl) h12 ?_
    refine awp_skip ?_
    exact oO hF [] [] rfl

def slices_Compact_string_string_o0_x2_k : ((List (List UInt8)) × Int) → AEx
  | _ => .exit 2

def slices_Compact_string_string_o0_x2_S (qs : List (List UInt8)) (vk : Int) : ((List (List UInt8)) × Int) → St
  | (vl7, vk9) => Mem.st ⟨[(0, ⟨9, 1, List.map encS vl7⟩)], []⟩ (tl [(0, .v (.one (.own 0 none))), (3, .v (.one (.d (.int .i64 vk9))))]) 1

def slices_Compact_string_string_o0_x2_H (qs : List (List UInt8)) (vk : Int) : (List (List UInt8)) × Int × Int → St
  | (vl4, vk6, vk2_1) => Mem.st ⟨[(0, ⟨9, 1, List.map encS vl4⟩)], []⟩ (tl [(0, .v (.one (.own 0 none))), (3, .v (.one (.d (.int .i64 vk6)))), (4, .v (.one (.view 0 vk.toNat ((qs.length : Int).toNat - vk.toNat)))), (5, .v (.one (.d (.int .i64 vk2_1))))]) 1

theorem slices_Compact_string_string_o0_x2_ok (qs : List (List UInt8)) (vk : Int) (s : (List (List UInt8)) × Int × Int) (r : ((List (List UInt8)) × Int × Int) ⊕ (((List (List UInt8)) × Int))) (hF : slices_Compact_string_string_o0_x2 qs vk s = some r) : Awp prog 1 61 (cL (cL (cR (cL (cR (cL (cR (cL (cL (cR (cL (cL (cR (cL (cR (cR (cB f131))))))))))))))))) (Out 1 (kk slices_Compact_string_string_o0_x2_k) (SS (slices_Compact_string_string_o0_x2_H qs vk) (slices_Compact_string_string_o0_x2_S qs vk)) r) (slices_Compact_string_string_o0_x2_H qs vk s) := by
  obtain ⟨vl4, vk6, vk2_1⟩ := s
  unfold slices_Compact_string_string_o0_x2 at hF
  refine awp_seq ?_
  refine awp_seq ?_
  refine awp_region ?_
  refine aR 4 ?_
  refine aE ?_
  refine cE hF (fun h7 hF => ?_) fun h7 hF => ?_
  · refine awp_true (by kernel_rfl) h7 ?_
    refine awp_skip ?_
    refine awp_seq ?_
    refine awp_to (st' := slices_Compact_string_string_o0_x3_I qs vk vl4 vk6 vk2_1) (oT [] []) ?_
    refine bE hF fun x h14 hF => ?_
    obtain ⟨vl6_1, vk8_1⟩ := x
    refine awp_sub (slices_Compact_string_string_o0_x3_ok qs vk vl4 vk6 vk2_1 h14) ?_
    refine awp_region ?_
    refine aR 3 ?_
    refine aE ?_
    exact oO hF [] [] rfl
  · refine awp_false (by kernel_rfl) h7 ?_
    refine awp_exit ?_
    exact oO hF [] [] rfl

def slices_Compact_string_string_o0_x1_k : Unit ⊕ (List (List UInt8)) → AEx
  | .inl _ => .exit 0
  | .inr _ => .ret

def slices_Compact_string_string_o0_x1_S (qs : List (List UInt8)) : Unit ⊕ (List (List UInt8)) → St
  | .inl _ => Mem.st ⟨[(0, ⟨9, 1, List.map encS qs⟩)], []⟩ (tl [(0, .v (.one (.own 0 none)))]) 1
  | .inr vx => Mem.st ⟨[(1, ⟨9, 1, List.map encS vx⟩)], []⟩ (tl [(2, .v (.one (.own 1 none)))]) 2

def slices_Compact_string_string_o0_x1_H (qs : List (List UInt8)) : Int → St
  | vk => Mem.st ⟨[(0, ⟨9, 1, List.map encS qs⟩)], []⟩ (tl [(0, .v (.one (.own 0 none))), (3, .v (.one (.d (.int .i64 vk))))]) 1

theorem slices_Compact_string_string_o0_x1_ok (qs : List (List UInt8)) (vk : Int) (r : (Int) ⊕ (Unit ⊕ (List (List UInt8)))) (hF : slices_Compact_string_string_o0_x1 qs vk = some r) : Awp prog 1 61 (cL (cL (cR (cL (cR (cR (cB f131))))))) (Out 1 (kk slices_Compact_string_string_o0_x1_k) (SS (slices_Compact_string_string_o0_x1_H qs) (slices_Compact_string_string_o0_x1_S qs)) r) (slices_Compact_string_string_o0_x1_H qs vk) := by
  unfold slices_Compact_string_string_o0_x1 at hF
  refine awp_seq ?_
  refine awp_seq ?_
  refine awp_region ?_
  refine aR 2 ?_
  refine aL encS qs ?_
  refine aR 1 ?_
  refine aE ?_
  refine cE hF (fun h2 hF => ?_) fun h2 hF => ?_
  · refine awp_true (by kernel_rfl) h2 ?_
    refine awp_skip ?_
    refine awp_seq ?_
    refine awp_block ?_
    refine awp_seq ?_
    refine bE hF fun vy8 h3 hF => ?_
    refine bE hF fun vy9 h4 hF => ?_
    refine aD ?_
    refine dR 2 ?_
    refine dX (x_idxO encS 0 h3) ?_
    refine dX (x_ldE encS h3) ?_
    refine dR 3 ?_
    refine dX (x_idxO encS 0 h4) ?_
    refine dX (x_ldE encS h4) ?_
    refine dR 1 ?_
    refine dE ?_
    refine cE hF (fun h5 hF => ?_) fun h5 hF => ?_
    · refine awp_true (by kernel_rfl) h5 ?_
      refine awp_seq ?_
      refine gE hF fun h6 hF => ?_
      refine awp_region ?_
      refine aR 2 ?_
      refine aX (x_viewN encS 0 h6) ?_
      refine aR 1 ?_
      refine aE ?_
      refine awp_seq ?_
      refine awp_seq ?_
      refine awp_region ?_
      refine aR 1 ?_
      refine aE ?_
      refine awp_block ?_
      refine awp_to (st' := slices_Compact_string_string_o0_x2_H qs vk (qs, vk, 1)) (oT [] []) ?_
      refine bE hF fun x h15 hF => ?_
      obtain ⟨vl7_1, vk9_1⟩ := x
      refine awp_sub (awp_loop' (slices_Compact_string_string_o0_x2_H qs vk) slices_Compact_string_string_o0_x2_k (slices_Compact_string_string_o0_x2_S qs vk) (by intro x; exact fun h => nomatch h) h15 (slices_Compact_string_string_o0_x2_ok qs vk)) ?_
      refine awp_seq ?_
      refine gE hF fun h16 hF => ?_
      refine awp_region ?_
      refine aR 2 ?_
      refine aX (x_viewN encS 0 h16) ?_
      refine aCl encS 0 (xs := vl7_1) (y := ([] : List UInt8)) (lo := vk9_1) (hi := (vl7_1.length : Int)) rfl ?_
      refine aE ?_
      refine awp_seq ?_
      refine gE hF fun h17 hF => ?_
      refine awp_region ?_
      refine aR 2 ?_
      refine aT encS 0 h17 rfl ?_
      refine aR 1 ?_
      refine aE ?_
      refine awp_ret ?_
      exact oO hF [(1, 6001)] [] rfl
    · refine awp_false (by kernel_rfl) h5 ?_
      refine awp_skip ?_
      refine awp_region ?_
      refine aR 3 ?_
      refine aE ?_
      exact oO hF [] [] rfl
  · refine awp_false (by kernel_rfl) h2 ?_
    refine awp_exit ?_
    exact oO hF [] [] rfl

def slices_Compact_string_string_o0_R (qs : List (List UInt8)) (r : (List (List UInt8))) : TV × Mem := (.v (.one (.own 1 none)), ⟨[(1, ⟨9, 1, List.map encS r⟩)], []⟩)

theorem slices_Compact_string_string_o0_ok {qs : List (List UInt8)} {r} (hF : slices_Compact_string_string_o0 qs = some r) : Holds prog 131 [.v (.one (.own 0 none))] ⟨[(0, ⟨9, 1, List.map encS qs⟩)], []⟩ (Is (slices_Compact_string_string_o0_R qs r)) := by
  unfold slices_Compact_string_string_o0 at hF
  refine holds_of_awp hΓ (fn := f131) (c := cB f131) (A := 1) (nx := 1) (by kernel_rfl) (by kernel_rfl) (by kernel_rfl) (by kernel_rfl) (by kernel_rfl) (by kernel_rfl) (lowc_of (by kernel_rfl)) ?_
  show Awp prog 1 61 (cB f131) _ _
  refine awp_seq ?_
  refine awp_region ?_
  refine aR 1 ?_
  refine aE ?_
  refine awp_seq ?_
  refine awp_seq ?_
  refine awp_region ?_
  refine aR 1 ?_
  refine aL encS qs ?_
  refine aR 1 ?_
  refine aE ?_
  refine cE hF (fun h1 hF => ?_) fun h1 hF => ?_
  · refine awp_true (by kernel_rfl) h1 ?_
    refine awp_seq ?_
    refine awp_region ?_
    refine aR 2 ?_
    refine aE ?_
    refine awp_ret ?_
    exact oF hF [(1, 0)] []
  · refine awp_false (by kernel_rfl) h1 ?_
    refine awp_skip ?_
    refine awp_seq ?_
    refine awp_seq ?_
    refine awp_region ?_
    refine aR 1 ?_
    refine aE ?_
    refine awp_block ?_
    refine awp_to (st' := slices_Compact_string_string_o0_x1_H qs 1) (oT [] []) ?_
    refine bE hF fun x h18 hF => ?_
    rcases x with _ | vx1
    · refine awp_sub (awp_loop' (slices_Compact_string_string_o0_x1_H qs) slices_Compact_string_string_o0_x1_k (slices_Compact_string_string_o0_x1_S qs) (by intro x; rcases x with x | x <;> exact fun h => nomatch h) h18 (slices_Compact_string_string_o0_x1_ok qs)) ?_
      refine awp_seq ?_
      refine awp_region ?_
      refine aR 2 ?_
      refine aE ?_
      refine awp_ret ?_
      exact oF hF [(1, 0)] []
    · refine awp_sub (awp_loop' (slices_Compact_string_string_o0_x1_H qs) slices_Compact_string_string_o0_x1_k (slices_Compact_string_string_o0_x1_S qs) (by intro x; rcases x with x | x <;> exact fun h => nomatch h) h18 (slices_Compact_string_string_o0_x1_ok qs)) ?_
      exact oF hF [] []

/-! ### beaconfleet/twin.names -/
def twin_names_o0_x2_k : (List (List UInt8)) → AEx
  | _ => .exit 2

def twin_names_o0_x2_S (qlists : List (List api_Prop)) (vx : Int) (vy3 : List api_Prop) : (List (List UInt8)) → St
  | vout4 => Mem.st ⟨[(1, ⟨9, 1, List.map encS vout4⟩)], []⟩ (tl [(3, .v (.one (.own 1 none))), (8, .v (.one (.d (.lst (List.map (encL api_Prop.enc) qlists))))), (9, .v (.one (.d (.int .i64 (qlists.length : Int))))), (10, .v (.one (.d (.int .i64 vx))))]) 2

def twin_names_o0_x2_H (qlists : List (List api_Prop)) (vx : Int) (vy3 : List api_Prop) : (List (List UInt8)) × Int → St
  | (vout3, vx2) => Mem.st ⟨[(1, ⟨9, 1, List.map encS vout3⟩)], []⟩ (tl [(3, .v (.one (.own 1 none))), (8, .v (.one (.d (.lst (List.map (encL api_Prop.enc) qlists))))), (9, .v (.one (.d (.int .i64 (qlists.length : Int))))), (10, .v (.one (.d (.int .i64 vx)))), (14, .v (.one (.d (.lst (List.map api_Prop.enc vy3))))), (15, .v (.one (.d (.int .i64 (vy3.length : Int))))), (16, .v (.one (.d (.int .i64 vx2))))]) 2

theorem twin_names_o0_x2_ok (qlists : List (List api_Prop)) (vx : Int) (vy3 : List api_Prop) (s : (List (List UInt8)) × Int) (r : ((List (List UInt8)) × Int) ⊕ ((List (List UInt8)))) (hF : twin_names_o0_x2 vy3 s = some r) : Awp prog 1 31 (cL (cL (cR (cR (cL (cL (cR (cR (cL (cL (cR (cL (cR (cR (cB f85))))))))))))))) (Out 1 (kk twin_names_o0_x2_k) (SS (twin_names_o0_x2_H qlists vx vy3) (twin_names_o0_x2_S qlists vx vy3)) r) (twin_names_o0_x2_H qlists vx vy3 s) := by
  obtain ⟨vout3, vx2⟩ := s
  unfold twin_names_o0_x2 at hF
  refine awp_seq ?_
  refine awp_region ?_
  refine aR 1 ?_
  refine aE ?_
  refine awp_seq ?_
  refine cE hF (fun h3 hF => ?_) fun h3 hF => ?_
  · refine awp_true (by kernel_rfl) h3 ?_
    refine awp_skip ?_
    refine awp_seq ?_
    refine awp_block ?_
    refine awp_seq ?_
    refine bE hF fun vy5 h4 hF => ?_
    refine awp_region ?_
    refine aX (x_idx api_Prop.enc h4) ?_
    refine aR 3 ?_
    refine aE ?_
    refine gE hF fun h5 hF => ?_
    refine awp_region ?_
    refine aR 4 ?_
    refine aX (x_app encS 1 h5) ?_
    refine aR 1 ?_
    refine aE ?_
    refine awp_region ?_
    refine aR 2 ?_
    refine aE ?_
    exact oO hF [(1, 9002)] [] rfl
  · refine awp_false (by kernel_rfl) h3 ?_
    refine awp_exit ?_
    exact oO hF [] [] rfl

def twin_names_o0_x1_k : (List (List UInt8)) → AEx
  | _ => .exit 0

def twin_names_o0_x1_S (qlists : List (List api_Prop)) : (List (List UInt8)) → St
  | vout5 => Mem.st ⟨[(1, ⟨9, 1, List.map encS vout5⟩)], []⟩ (tl [(3, .v (.one (.own 1 none)))]) 2

def twin_names_o0_x1_H (qlists : List (List api_Prop)) : (List (List UInt8)) × Int → St
  | (vout, vx) => Mem.st ⟨[(1, ⟨9, 1, List.map encS vout⟩)], []⟩ (tl [(3, .v (.one (.own 1 none))), (8, .v (.one (.d (.lst (List.map (encL api_Prop.enc) qlists))))), (9, .v (.one (.d (.int .i64 (qlists.length : Int))))), (10, .v (.one (.d (.int .i64 vx))))]) 2

theorem twin_names_o0_x1_ok (qlists : List (List api_Prop)) (s : (List (List UInt8)) × Int) (r : ((List (List UInt8)) × Int) ⊕ ((List (List UInt8)))) (hF : twin_names_o0_x1 qlists s = some r) : Awp prog 1 31 (cL (cL (cR (cL (cR (cR (cB f85))))))) (Out 1 (kk twin_names_o0_x1_k) (SS (twin_names_o0_x1_H qlists) (twin_names_o0_x1_S qlists)) r) (twin_names_o0_x1_H qlists s) := by
  obtain ⟨vout, vx⟩ := s
  unfold twin_names_o0_x1 at hF
  refine awp_seq ?_
  refine awp_region ?_
  refine aR 1 ?_
  refine aE ?_
  refine awp_seq ?_
  refine cE hF (fun h1 hF => ?_) fun h1 hF => ?_
  · refine awp_true (by kernel_rfl) h1 ?_
    refine awp_skip ?_
    refine awp_seq ?_
    refine awp_block ?_
    refine awp_seq ?_
    refine bE hF fun vy3 h2 hF => ?_
    refine awp_region ?_
    refine aX (x_idx (encL api_Prop.enc) h2) ?_
    refine aR 2 ?_
    refine aE ?_
    refine awp_seq ?_
    refine awp_region ?_
    refine aR 1 ?_
    refine aL api_Prop.enc vy3 ?_
    refine aR 1 ?_
    refine aE ?_
    refine awp_block ?_
    refine awp_to (st' := twin_names_o0_x2_H qlists vx vy3 (vout, 0)) (oT [] []) ?_
    refine bE hF fun vout4_1 h6 hF => ?_
    refine awp_sub (awp_loop' (twin_names_o0_x2_H qlists vx vy3) twin_names_o0_x2_k (twin_names_o0_x2_S qlists vx vy3) (by intro x; exact fun h => nomatch h) h6 (twin_names_o0_x2_ok qlists vx vy3)) ?_
    refine awp_region ?_
    refine aR 2 ?_
    refine aE ?_
    exact oO hF [] [] rfl
  · refine awp_false (by kernel_rfl) h1 ?_
    refine awp_exit ?_
    exact oO hF [] [] rfl

def twin_names_o0_R (qlists : List (List api_Prop)) (r : (List (List UInt8))) : TV × Mem := (.v (.one (.own 1 none)), ⟨[(1, ⟨9, 1, List.map encS r⟩)], []⟩)

theorem twin_names_o0_ok {qlists : List (List api_Prop)} {r} (hF : twin_names_o0 qlists = some r) : Holds prog 85 [.v (.one (.own 0 none))] ⟨[(0, ⟨29, 1, List.map (encL api_Prop.enc) qlists⟩)], []⟩ (Is (twin_names_o0_R qlists r)) := by
  unfold twin_names_o0 at hF
  refine holds_of_awp hΓ (fn := f85) (c := cB f85) (A := 1) (nx := 1) (by kernel_rfl) (by kernel_rfl) (by kernel_rfl) (by kernel_rfl) (by kernel_rfl) (by kernel_rfl) (lowc_of (by kernel_rfl)) ?_
  show Awp prog 1 31 (cB f85) _ _
  refine awp_seq ?_
  refine awp_region ?_
  refine aR 1 ?_
  refine aE ?_
  refine awp_to (oT (m := ⟨[], []⟩) (ts := [(0, .v (.one (.d (.lst (List.map (encL api_Prop.enc) qlists)))))]) (nx := 1) [] []) ?_
  refine awp_seq ?_
  refine awp_region ?_
  refine aR 1 ?_
  refine aE ?_
  refine awp_seq ?_
  refine awp_seq ?_
  refine awp_region ?_
  refine aR 1 ?_
  refine aL (encL api_Prop.enc) qlists ?_
  refine aR 1 ?_
  refine aE ?_
  refine awp_block ?_
  refine awp_to (st' := twin_names_o0_x1_H qlists ([], 0)) (oT [] [1]) ?_
  refine bE hF fun vout5_1 h7 hF => ?_
  refine awp_sub (awp_loop' (twin_names_o0_x1_H qlists) twin_names_o0_x1_k (twin_names_o0_x1_S qlists) (by intro x; exact fun h => nomatch h) h7 (twin_names_o0_x1_ok qlists)) ?_
  refine awp_seq ?_
  refine bE hF fun vl h8 hF => ?_
  refine gE hF fun h9 hF => ?_
  refine awp_region ?_
  refine aR 1 ?_
  refine aCp (slices_Sort_string_string_o0_ok h8) ⟨⟨rfl, rfl, pin1 h9⟩, trivial⟩ [(0, 1)] [] [] ?_
  refine aE ?_
  refine awp_seq ?_
  refine bE hF fun vr h10 hF => ?_
  refine awp_region ?_
  refine aR 1 ?_
  refine aC (slices_Compact_string_string_o0_ok h10) [(0, 1)] [] [] ?_
  refine aR 1 ?_
  refine aE ?_
  refine awp_ret ?_
  exact oF hF [(1, 3003)] []

/-! ### slices.BinarySearchFunc[[]beaconfleet/api.Prop,beaconfleet/api.Prop,string] -/
def slices_BinarySearchFunc_api_Prop_api_Prop_string_n0_f2_twin_find_1_x1_k : Unit → AEx
  | _ => .exit 0

def slices_BinarySearchFunc_api_Prop_api_Prop_string_n0_f2_twin_find_1_x1_S (qtarget : List UInt8) : Unit → St
  | _ => Mem.st ⟨[], []⟩ (tl [(0, .v (.one (.nil))), (1, .v (.one (.d (.str qtarget)))), (2, .v (.one (.fn 126 []))), (8, .v (.one (.d (.int .i64 0)))), (9, .v (.one (.d (.int .i64 0))))]) 0

def slices_BinarySearchFunc_api_Prop_api_Prop_string_n0_f2_twin_find_1_x1_H (qtarget : List UInt8) : Unit → St
  | _ => Mem.st ⟨[], []⟩ (tl [(0, .v (.one (.nil))), (1, .v (.one (.d (.str qtarget)))), (2, .v (.one (.fn 126 []))), (8, .v (.one (.d (.int .i64 0)))), (9, .v (.one (.d (.int .i64 0)))), (10, .v (.one (.d (.int .i64 0))))]) 0

theorem slices_BinarySearchFunc_api_Prop_api_Prop_string_n0_f2_twin_find_1_x1_ok (qtarget : List UInt8) (s : Unit) (r : (Unit) ⊕ (Unit)) (hF : slices_BinarySearchFunc_api_Prop_api_Prop_string_n0_f2_twin_find_1_x1  s = some r) : Awp prog 0 49 (cL (cL (cL (cR (cR (cR (cB f125))))))) (Out 0 (kk slices_BinarySearchFunc_api_Prop_api_Prop_string_n0_f2_twin_find_1_x1_k) (SS (slices_BinarySearchFunc_api_Prop_api_Prop_string_n0_f2_twin_find_1_x1_H qtarget) (slices_BinarySearchFunc_api_Prop_api_Prop_string_n0_f2_twin_find_1_x1_S qtarget)) r) (slices_BinarySearchFunc_api_Prop_api_Prop_string_n0_f2_twin_find_1_x1_H qtarget s) := by
  unfold slices_BinarySearchFunc_api_Prop_api_Prop_string_n0_f2_twin_find_1_x1 at hF
  refine awp_seq ?_
  refine awp_seq ?_
  refine awp_region ?_
  refine aR 3 ?_
  refine aE ?_
  refine cE hF (fun h1 hF => ?_) fun h1 hF => ?_
  · refine awp_true (by kernel_rfl) h1 ?_
    refine awp_skip ?_
    refine awp_block ?_
    refine awp_seq ?_
    refine awp_region ?_
    refine aR 7 ?_
    refine aE ?_
    refine awp_seq ?_
    exact nE hF
  · refine awp_false (by kernel_rfl) h1 ?_
    refine awp_exit ?_
    exact oO hF [] [] rfl

def slices_BinarySearchFunc_api_Prop_api_Prop_string_n0_f2_twin_find_1_R (qtarget : List UInt8) (r : Unit) : TV × Mem := (.tup [.one (.d (.int .i64 0)), .one (.d (.bool false))], ⟨[], []⟩)

theorem slices_BinarySearchFunc_api_Prop_api_Prop_string_n0_f2_twin_find_1_ok {qtarget : List UInt8} {r} (hF : slices_BinarySearchFunc_api_Prop_api_Prop_string_n0_f2_twin_find_1 qtarget = some r) : Holds prog 125 [.v (.one (.nil)), .v (.one (.d (.str qtarget))), .v (.one (.fn 126 []))] ⟨[], []⟩ (Is (slices_BinarySearchFunc_api_Prop_api_Prop_string_n0_f2_twin_find_1_R qtarget r)) := by
  unfold slices_BinarySearchFunc_api_Prop_api_Prop_string_n0_f2_twin_find_1 at hF
  refine holds_of_awp hΓ (fn := f125) (c := cB f125) (A := 0) (nx := 0) (by kernel_rfl) (by kernel_rfl) (by kernel_rfl) (by kernel_rfl) (by kernel_rfl) (by kernel_rfl) (lowc_of (by kernel_rfl)) ?_
  show Awp prog 0 49 (cB f125) _ _
  refine awp_seq ?_
  refine awp_region ?_
  refine aR 2 ?_
  refine aE ?_
  refine awp_seq ?_
  refine awp_region ?_
  refine aR 3 ?_
  refine aE ?_
  refine awp_seq ?_
  refine awp_region ?_
  refine aR 3 ?_
  refine aE ?_
  refine awp_seq ?_
  refine awp_block ?_
  refine awp_to (st' := slices_BinarySearchFunc_api_Prop_api_Prop_string_n0_f2_twin_find_1_x1_H qtarget ()) (oT [] []) ?_
  refine bE hF fun _ h3 hF => ?_
  refine awp_sub (awp_loop' (slices_BinarySearchFunc_api_Prop_api_Prop_string_n0_f2_twin_find_1_x1_H qtarget) slices_BinarySearchFunc_api_Prop_api_Prop_string_n0_f2_twin_find_1_x1_k (slices_BinarySearchFunc_api_Prop_api_Prop_string_n0_f2_twin_find_1_x1_S qtarget) (by intro x; exact fun h => nomatch h) h3 (slices_BinarySearchFunc_api_Prop_api_Prop_string_n0_f2_twin_find_1_x1_ok qtarget)) ?_
  refine awp_seq ?_
  refine cE hF (fun h4 hF => ?_) fun h4 hF => ?_
  · exact nE hF
  · refine awp_region ?_
    refine aR 3 ?_
    refine aB h4 ?_
    refine aR 12 ?_
    refine aE ?_
    refine awp_ret ?_
    exact oF hF [] []

/-! ### beaconfleet/twin.find -/
def twin_find_n0_R (qname : List UInt8) (r : Unit) : TV × Mem := (.v (.one (.d (.int .i64 (-1)))), ⟨[], []⟩)

theorem twin_find_n0_ok {qname : List UInt8} {r} (hF : twin_find_n0 qname = some r) : Holds prog 76 [.v (.one (.nil)), .v (.one (.d (.str qname)))] ⟨[], []⟩ (Is (twin_find_n0_R qname r)) := by
  unfold twin_find_n0 at hF
  refine holds_of_awp hΓ (fn := f76) (c := cB f76) (A := 0) (nx := 0) (by kernel_rfl) (by kernel_rfl) (by kernel_rfl) (by kernel_rfl) (by kernel_rfl) (by kernel_rfl) (lowc_of (by kernel_rfl)) ?_
  show Awp prog 0 16 (cB f76) _ _
  refine awp_seq ?_
  refine awp_region ?_
  refine aR 1 ?_
  refine aE ?_
  refine awp_seq ?_
  refine bE hF fun _ h1 hF => ?_
  refine awp_region ?_
  refine aR 2 ?_
  refine aC (slices_BinarySearchFunc_api_Prop_api_Prop_string_n0_f2_twin_find_1_ok h1) [] [] [] ?_
  refine aR 5 ?_
  refine aE ?_
  refine awp_seq ?_
  refine awp_seq ?_
  refine awp_region ?_
  refine aR 2 ?_
  refine aE ?_
  refine awp_true (by kernel_rfl) rfl ?_
  refine awp_seq ?_
  refine awp_region ?_
  refine aR 1 ?_
  refine aE ?_
  refine awp_ret ?_
  exact oF hF [] []

/-! ### beaconfleet/twin.valueOf -/
def twin_valueOf_n0_R (qname : List UInt8) (r : Unit) : TV × Mem := (.v (.agg [.d (.int .i64 0), .d (.bool false), .d (.int .i64 0), .d (.str ([] : List UInt8))]), ⟨[], []⟩)

theorem twin_valueOf_n0_ok {qname : List UInt8} {r} (hF : twin_valueOf_n0 qname = some r) : Holds prog 70 [.v (.one (.nil)), .v (.one (.d (.str qname)))] ⟨[], []⟩ (Is (twin_valueOf_n0_R qname r)) := by
  unfold twin_valueOf_n0 at hF
  refine holds_of_awp hΓ (fn := f70) (c := cB f70) (A := 0) (nx := 0) (by kernel_rfl) (by kernel_rfl) (by kernel_rfl) (by kernel_rfl) (by kernel_rfl) (by kernel_rfl) (lowc_of (by kernel_rfl)) ?_
  show Awp prog 0 17 (cB f70) _ _
  refine awp_seq ?_
  refine awp_region ?_
  refine aR 1 ?_
  refine aE ?_
  refine awp_seq ?_
  refine awp_seq ?_
  refine bE hF fun _ h1 hF => ?_
  refine awp_region ?_
  refine aR 2 ?_
  refine aC (twin_find_n0_ok h1) [] [] [] ?_
  refine aR 1 ?_
  refine aE ?_
  refine awp_seq ?_
  refine awp_region ?_
  refine aR 2 ?_
  refine aE ?_
  refine cE hF (fun h2 hF => ?_) fun h2 hF => ?_
  · refine awp_true (by kernel_rfl) h2 ?_
    refine awp_seq ?_
    exact nE hF
  · refine awp_false (by kernel_rfl) h2 ?_
    refine awp_skip ?_
    refine awp_seq ?_
    refine awp_region ?_
    refine aR 2 ?_
    refine aE ?_
    refine awp_ret ?_
    exact oF hF [] []

/-! ### beaconfleet/twin.valueOf -/
def twin_valueOf_R (ql : List api_Prop) (qname : List UInt8) (r : api_Value) : TV × Mem := (.v (.agg [.d (.int .i64 r.Kind), .d (.bool r.Flag), .d (.int .i64 r.Number), .d (.str r.Words)]), ⟨[], []⟩)

theorem twin_valueOf_ok {ql : List api_Prop} {qname : List UInt8} {r} (hF : twin_valueOf ql qname = some r) : Holds prog 70 [.v (.one (.d (.lst (List.map api_Prop.enc ql)))), .v (.one (.d (.str qname)))] ⟨[], []⟩ (Is (twin_valueOf_R ql qname r)) := by
  unfold twin_valueOf at hF
  refine holds_of_awp hΓ (fn := f70) (c := cB f70) (A := 0) (nx := 0) (by kernel_rfl) (by kernel_rfl) (by kernel_rfl) (by kernel_rfl) (by kernel_rfl) (by kernel_rfl) (lowc_of (by kernel_rfl)) ?_
  show Awp prog 0 17 (cB f70) _ _
  refine awp_seq ?_
  refine awp_region ?_
  refine aR 1 ?_
  refine aE ?_
  refine awp_seq ?_
  refine awp_seq ?_
  refine bE hF fun vr2 h1 hF => ?_
  refine awp_region ?_
  refine aR 2 ?_
  refine aC (twin_find_ok h1) [] [] [] ?_
  refine aR 1 ?_
  refine aE ?_
  refine awp_seq ?_
  refine awp_region ?_
  refine aR 2 ?_
  refine aE ?_
  refine cE hF (fun h2 hF => ?_) fun h2 hF => ?_
  · refine awp_true (by kernel_rfl) h2 ?_
    refine awp_seq ?_
    refine bE hF fun vy h3 hF => ?_
    refine awp_region ?_
    refine aR 2 ?_
    refine aX (x_idx api_Prop.enc h3) ?_
    refine aR 3 ?_
    refine aE ?_
    refine awp_ret ?_
    exact oF hF [] []
  · refine awp_false (by kernel_rfl) h2 ?_
    refine awp_skip ?_
    refine awp_seq ?_
    refine awp_region ?_
    refine aR 2 ?_
    refine aE ?_
    refine awp_ret ?_
    exact oF hF [] []

/-! ### beaconfleet/twin.Differ -/
def twin_Differ_n0_o1_x2_k : (List api_Change) → AEx
  | _ => .normal

def twin_Differ_n0_o1_x2_S (qb : List api_Prop) (vr1_1 : List (List UInt8)) (vout : List api_Change) (vx : Int) : (List api_Change) → St
  | vout2 => Mem.st ⟨[(1, ⟨72, 9, List.map api_Change.enc vout2⟩)], []⟩ (tl [(0, .v (.one (.nil))), (1, .v (.one (.d (.lst (List.map api_Prop.enc qb))))), (7, .v (.one (.own 1 none))), (24, .v (.one (.d (.lst (List.map encS vr1_1))))), (25, .v (.one (.d (.int .i64 (vr1_1.length : Int))))), (26, .v (.one (.d (.int .i64 vx))))]) 2

def twin_Differ_n0_o1_x2_I (qb : List api_Prop) (vr1_1 : List (List UInt8)) (vout : List api_Change) (vx : Int) : St := Mem.st ⟨[(1, ⟨72, 9, List.map api_Change.enc vout⟩)], []⟩ (tl [(0, .v (.one (.nil))), (1, .v (.one (.d (.lst (List.map api_Prop.enc qb))))), (7, .v (.one (.own 1 none))), (24, .v (.one (.d (.lst (List.map encS vr1_1))))), (25, .v (.one (.d (.int .i64 (vr1_1.length : Int))))), (26, .v (.one (.d (.int .i64 vx))))]) 2

theorem twin_Differ_n0_o1_x2_ok (qb : List api_Prop) (vr1_1 : List (List UInt8)) (vout : List api_Change) (vx : Int) {r} (hF : twin_Differ_n0_o1_x2 qb vr1_1 vout vx = some r) : Awp prog 1 48 (cL (cR (cR (cL (cL (cR (cL (cR (cR (cR (cB f29))))))))))) (Out 1 twin_Differ_n0_o1_x2_k (twin_Differ_n0_o1_x2_S qb vr1_1 vout vx) r) (twin_Differ_n0_o1_x2_I qb vr1_1 vout vx) := by
  unfold twin_Differ_n0_o1_x2 at hF
  refine awp_block ?_
  refine awp_seq ?_
  refine bE hF fun vy1 h7 hF => ?_
  refine awp_region ?_
  refine aX (x_idx encS h7) ?_
  refine aR 2 ?_
  refine aE ?_
  refine awp_seq ?_
  refine bE hF fun _ h8 hF => ?_
  refine bE hF fun vr4 h9 hF => ?_
  refine awp_region ?_
  refine aR 2 ?_
  refine aC (twin_valueOf_n0_ok h8) [] [] [] ?_
  refine aR 2 ?_
  refine aC (twin_valueOf_ok h9) [] [] [] ?_
  refine aR 4 ?_
  refine aE ?_
  refine awp_seq ?_
  refine awp_region ?_
  refine aR 2 ?_
  refine aS (does_eqS (op := .neq) (xs := [.int .i64 0, .bool false, .int .i64 0, .str ([] : List UInt8)]) (ys := [.int .i64 vr4.Kind, .bool vr4.Flag, .int .i64 vr4.Number, .str vr4.Words]) (b := (decide ((0 : Int) = vr4.Kind) && ((false == vr4.Flag) && (decide ((0 : Int) = vr4.Number) && (decide (([] : List UInt8) = vr4.Words) && true))))) (c := (!(decide ((0 : Int) = vr4.Kind) && ((false == vr4.Flag) && (decide ((0 : Int) = vr4.Number) && (decide (([] : List UInt8) = vr4.Words) && true)))))) rfl (.inr ⟨rfl, rfl⟩) (by kernel_rfl) (by kernel_rfl) (by kernel_rfl) (by kernel_rfl) (by kernel_rfl) (by kernel_rfl)) ?_
  refine aE ?_
  refine cE hF (fun h10 hF => ?_) fun h10 hF => ?_
  · refine awp_true (by kernel_rfl) h10 ?_
    refine gE hF fun h11 hF => ?_
    refine awp_region ?_
    refine aR 6 ?_
    refine aX (x_app api_Change.enc 1 h11) ?_
    refine aR 1 ?_
    refine aE ?_
    exact oO hF [(1, 22002)] [] rfl
  · refine awp_false (by kernel_rfl) h10 ?_
    refine awp_skip ?_
    exact oO hF [] [] rfl

def twin_Differ_n0_o1_x1_k : (List api_Change) → AEx
  | _ => .exit 0

def twin_Differ_n0_o1_x1_S (qb : List api_Prop) (vr1_1 : List (List UInt8)) : (List api_Change) → St
  | vout3 => Mem.st ⟨[(1, ⟨72, 9, List.map api_Change.enc vout3⟩)], []⟩ (tl [(7, .v (.one (.own 1 none)))]) 2

def twin_Differ_n0_o1_x1_H (qb : List api_Prop) (vr1_1 : List (List UInt8)) : (List api_Change) × Int → St
  | (vout, vx) => Mem.st ⟨[(1, ⟨72, 9, List.map api_Change.enc vout⟩)], []⟩ (tl [(0, .v (.one (.nil))), (1, .v (.one (.d (.lst (List.map api_Prop.enc qb))))), (7, .v (.one (.own 1 none))), (24, .v (.one (.d (.lst (List.map encS vr1_1))))), (25, .v (.one (.d (.int .i64 (vr1_1.length : Int))))), (26, .v (.one (.d (.int .i64 vx))))]) 2

theorem twin_Differ_n0_o1_x1_ok (qb : List api_Prop) (vr1_1 : List (List UInt8)) (s : (List api_Change) × Int) (r : ((List api_Change) × Int) ⊕ ((List api_Change))) (hF : twin_Differ_n0_o1_x1 qb vr1_1 s = some r) : Awp prog 1 48 (cL (cL (cR (cL (cR (cR (cR (cB f29)))))))) (Out 1 (kk twin_Differ_n0_o1_x1_k) (SS (twin_Differ_n0_o1_x1_H qb vr1_1) (twin_Differ_n0_o1_x1_S qb vr1_1)) r) (twin_Differ_n0_o1_x1_H qb vr1_1 s) := by
  obtain ⟨vout, vx⟩ := s
  unfold twin_Differ_n0_o1_x1 at hF
  refine awp_seq ?_
  refine awp_region ?_
  refine aR 1 ?_
  refine aE ?_
  refine awp_seq ?_
  refine cE hF (fun h6 hF => ?_) fun h6 hF => ?_
  · refine awp_true (by kernel_rfl) h6 ?_
    refine awp_skip ?_
    refine awp_seq ?_
    refine awp_to (st' := twin_Differ_n0_o1_x2_I qb vr1_1 vout vx) (oT [] []) ?_
    refine bE hF fun vout2_1 h12 hF => ?_
    refine awp_sub (twin_Differ_n0_o1_x2_ok qb vr1_1 vout vx h12) ?_
    refine awp_region ?_
    refine aR 2 ?_
    refine aE ?_
    exact oO hF [] [] rfl
  · refine awp_false (by kernel_rfl) h6 ?_
    refine awp_exit ?_
    exact oO hF [] [] rfl

def twin_Differ_n0_o1_R (qb : List api_Prop) (r : (List api_Change) × Int) : TV × Mem := (.tup [.one (.own 1 none), .one (.d (.int .i64 r.2))], ⟨[(1, ⟨72, 9, List.map api_Change.enc r.1⟩)], []⟩)

theorem twin_Differ_n0_o1_ok {qb : List api_Prop} {r} (hF : twin_Differ_n0_o1 qb = some r) : Holds prog 29 [.v (.one (.nil)), .v (.one (.own 0 none))] ⟨[(0, ⟨44, 5, List.map api_Prop.enc qb⟩)], []⟩ (Is (twin_Differ_n0_o1_R qb r)) := by
  unfold twin_Differ_n0_o1 at hF
  refine holds_of_awp hΓ (fn := f29) (c := cB f29) (A := 1) (nx := 1) (by kernel_rfl) (by kernel_rfl) (by kernel_rfl) (by kernel_rfl) (by kernel_rfl) (by kernel_rfl) (lowc_of (by kernel_rfl)) ?_
  show Awp prog 1 48 (cB f29) _ _
  refine awp_seq ?_
  refine awp_region ?_
  refine aR 2 ?_
  refine aE ?_
  refine awp_to (oT (m := ⟨[], []⟩) (ts := [(0, .v (.one (.nil))), (1, .v (.one (.d (.lst (List.map api_Prop.enc qb)))))]) (nx := 1) [] []) ?_
  refine awp_seq ?_
  refine awp_seq ?_
  refine bE hF fun vr h1 hF => ?_
  refine bE hF fun vr3 h2 hF => ?_
  refine bE hF fun vr1 h3 hF => ?_
  refine awp_region ?_
  refine aR 1 ?_
  refine aC (twin_CheckProps_n0_ok h1) [] [] [] ?_
  refine aR 1 ?_
  refine aC (twin_CheckProps_ok h2) [] [] [] ?_
  refine aR 1 ?_
  refine aC (base_First_ok h3) [] [] [4001] ?_
  refine aR 1 ?_
  refine aE ?_
  refine awp_seq ?_
  refine awp_region ?_
  refine aR 2 ?_
  refine aE ?_
  refine cE hF (fun h4 hF => ?_) fun h4 hF => ?_
  · refine awp_true (by kernel_rfl) h4 ?_
    refine awp_seq ?_
    refine awp_region ?_
    refine aR 3 ?_
    refine aE ?_
    refine awp_ret ?_
    exact oF hF [] [1]
  · refine awp_false (by kernel_rfl) h4 ?_
    refine awp_skip ?_
    refine awp_seq ?_
    refine awp_region ?_
    refine aR 1 ?_
    refine aE ?_
    refine awp_seq ?_
    refine awp_seq ?_
    refine bE hF fun vr1_1 h5 hF => ?_
    refine awp_region ?_
    refine aR 3 ?_
    refine aC (twin_names_o0_ok h5) [(0, 12001)] [] [] ?_
    refine aL encS vr1_1 ?_
    refine aR 1 ?_
    refine aE ?_
    refine awp_to (oT (m := ⟨[], []⟩) (ts := [(0, .v (.one (.nil))), (1, .v (.one (.d (.lst (List.map api_Prop.enc qb))))), (7, .v (.one (.nil))), (24, .v (.one (.d (.lst (List.map encS vr1_1))))), (25, .v (.one (.d (.int .i64 (vr1_1.length : Int))))), (26, .v (.one (.d (.int .i64 0))))]) (nx := 1) [] []) ?_
    refine awp_block ?_
    refine awp_to (st' := twin_Differ_n0_o1_x1_H qb vr1_1 ([], 0)) (oT [] [1]) ?_
    refine bE hF fun vout3_1 h13 hF => ?_
    refine awp_sub (awp_loop' (twin_Differ_n0_o1_x1_H qb vr1_1) twin_Differ_n0_o1_x1_k (twin_Differ_n0_o1_x1_S qb vr1_1) (by intro x; exact fun h => nomatch h) h13 (twin_Differ_n0_o1_x1_ok qb vr1_1)) ?_
    refine awp_seq ?_
    refine awp_region ?_
    refine aR 3 ?_
    refine aE ?_
    refine awp_ret ?_
    exact oF hF [] []

/-! ### beaconfleet/fleetlaw2.twinned -/
def fleetlaw2_twinned_x1_k : Bool → AEx
  | _ => .normal

def fleetlaw2_twinned_x1_S (vr5 : List api_Change) (vr6 : Int) : Bool → St
  | vx => Mem.st ⟨[], []⟩ (tl [(0, .v (.one (.d (.bool vx))))]) 0

def fleetlaw2_twinned_x1_I (vr5 : List api_Change) (vr6 : Int) : St := Mem.st ⟨[], []⟩ (tl [(1, .v (.one (.d (.lst (List.map api_Change.enc vr5))))), (2, .v (.one (.d (.int .i64 vr6))))]) 0

theorem fleetlaw2_twinned_x1_ok (vr5 : List api_Change) (vr6 : Int) {r} (hF : fleetlaw2_twinned_x1 vr5 vr6 = some r) : Awp prog 0 24 (cL (cR (cR (cB f18)))) (Out 0 fleetlaw2_twinned_x1_k (fleetlaw2_twinned_x1_S vr5 vr6) r) (fleetlaw2_twinned_x1_I vr5 vr6) := by
  unfold fleetlaw2_twinned_x1 at hF
  refine cE hF (fun h2 hF => ?_) fun h2 hF => ?_
  · refine cE hF (fun h3 hF => ?_) fun h3 hF => ?_
    · refine bE hF fun vy h4 hF => ?_
      refine awp_region ?_
      refine aR 1 ?_
      refine aB h2 ?_
      refine aR 2 ?_
      refine aL api_Change.enc vr5 ?_
      refine aB h3 ?_
      refine aR 3 ?_
      refine aX (x_idx api_Change.enc h4) ?_
      refine aR 5 ?_
      refine aE ?_
      exact oO hF [] [] rfl
    · refine awp_region ?_
      refine aR 1 ?_
      refine aB h2 ?_
      refine aR 2 ?_
      refine aL api_Change.enc vr5 ?_
      refine aB h3 ?_
      refine aR 9 ?_
      refine aE ?_
      exact oO hF [] [] rfl
  · refine awp_region ?_
    refine aR 1 ?_
    refine aB h2 ?_
    refine aR 13 ?_
    refine aE ?_
    exact oO hF [] [] rfl

def fleetlaw2_twinned_R (r : Bool) : TV × Mem := (.v (.one (.d (.bool r))), ⟨[], []⟩)

theorem fleetlaw2_twinned_ok {r} (hF : fleetlaw2_twinned = some r) : Holds prog 18 [] ⟨[], []⟩ (Is (fleetlaw2_twinned_R  r)) := by
  unfold fleetlaw2_twinned at hF
  refine holds_of_awp hΓ (fn := f18) (c := cB f18) (A := 0) (nx := 0) (by kernel_rfl) (by kernel_rfl) (by kernel_rfl) (by kernel_rfl) (by kernel_rfl) (by kernel_rfl) (lowc_of (by kernel_rfl)) ?_
  show Awp prog 0 24 (cB f18) _ _
  refine awp_seq ?_
  refine awp_region ?_
  refine aR 1 ?_
  refine aE ?_
  refine awp_seq ?_
  refine bE hF fun x h1 hF => ?_
  obtain ⟨vr5, vr6⟩ := x
  refine awp_region ?_
  refine aR 3 ?_
  refine aC (twin_Differ_n0_o1_ok h1) [(0, 3000)] [] [] ?_
  refine aR 5 ?_
  refine aE ?_
  refine awp_to (oT (m := ⟨[], []⟩) (ts := [(1, .v (.one (.d (.lst (List.map api_Change.enc vr5))))), (2, .v (.one (.d (.int .i64 vr6))))]) (nx := 0) [] []) ?_
  refine awp_seq ?_
  refine awp_to (st' := fleetlaw2_twinned_x1_I vr5 vr6) (oT [] []) ?_
  refine bE hF fun vx1 h5 hF => ?_
  refine awp_sub (fleetlaw2_twinned_x1_ok vr5 vr6 h5) ?_
  refine awp_ret ?_
  exact oF hF [] []

/-! ### slices.Grow[[]beaconfleet/api.Cell,beaconfleet/api.Cell] -/
def slices_Grow_api_Cell_api_Cell_n0_x1_k : (List api_Cell) → AEx
  | _ => .normal

def slices_Grow_api_Cell_api_Cell_n0_x1_S (qn : Int) : (List api_Cell) → St
  | vs => Mem.st ⟨[(0, ⟨49, 8, List.map api_Cell.enc vs⟩)], []⟩ (tl [(0, .v (.one (.own 0 none)))]) 1

def slices_Grow_api_Cell_api_Cell_n0_x1_I (qn : Int) : St := Mem.st ⟨[], []⟩ (tl [(0, .v (.one (.nil))), (1, .v (.one (.d (.int .i64 qn))))]) 0

theorem slices_Grow_api_Cell_api_Cell_n0_x1_ok (qn : Int) {r} (hF : slices_Grow_api_Cell_api_Cell_n0_x1 qn = some r) : Awp prog 0 27 (cL (cR (cR (cB f137)))) (Out 0 slices_Grow_api_Cell_api_Cell_n0_x1_k (slices_Grow_api_Cell_api_Cell_n0_x1_S qn) r) (slices_Grow_api_Cell_api_Cell_n0_x1_I qn) := by
  unfold slices_Grow_api_Cell_api_Cell_n0_x1 at hF
  refine awp_seq ?_
  refine awp_region ?_
  refine aR 2 ?_
  refine aK rfl ?_
  refine aR 5 ?_
  refine aE ?_
  refine awp_seq ?_
  refine awp_region ?_
  refine aR 2 ?_
  refine aE ?_
  refine cE hF (fun h3 hF => ?_) fun h3 hF => ?_
  · refine awp_true (by kernel_rfl) h3 ?_
    refine gE hF fun h4 hF => ?_
    refine gE hF fun h5 hF => ?_
    refine awp_region ?_
    refine aR 2 ?_
    refine aK rfl ?_
    refine aSn rfl ?_
    refine aR 1 ?_
    refine aZ api_Cell.enc (api_Cell.mk (api_Prop.mk ([] : List UInt8) (api_Value.mk 0 false 0 ([] : List UInt8))) (api_Stamp.mk 0 ([] : List UInt8) 0)) h4 rfl ?_
    refine aR 2 ?_
    refine aT api_Cell.enc 15000 h5 rfl ?_
    refine aR 1 ?_
    refine aE ?_
    exact oO hF [(0, 18000)] [] rfl
  · refine awp_false (by kernel_rfl) h3 ?_
    refine awp_skip ?_
    exact oO hF [] [0] rfl

def slices_Grow_api_Cell_api_Cell_n0_R (qn : Int) (r : (List api_Cell)) : TV × Mem := (.v (.one (.own 0 none)), ⟨[(0, ⟨49, 8, List.map api_Cell.enc r⟩)], []⟩)

theorem slices_Grow_api_Cell_api_Cell_n0_ok {qn : Int} {r} (hF : slices_Grow_api_Cell_api_Cell_n0 qn = some r) : Holds prog 137 [.v (.one (.nil)), .v (.one (.d (.int .i64 qn)))] ⟨[], []⟩ (Is (slices_Grow_api_Cell_api_Cell_n0_R qn r)) := by
  unfold slices_Grow_api_Cell_api_Cell_n0 at hF
  refine holds_of_awp hΓ (fn := f137) (c := cB f137) (A := 0) (nx := 0) (by kernel_rfl) (by kernel_rfl) (by kernel_rfl) (by kernel_rfl) (by kernel_rfl) (by kernel_rfl) (lowc_of (by kernel_rfl)) ?_
  show Awp prog 0 27 (cB f137) _ _
  refine awp_seq ?_
  refine awp_region ?_
  refine aR 1 ?_
  refine aE ?_
  refine awp_seq ?_
  refine awp_seq ?_
  refine awp_region ?_
  refine aR 2 ?_
  refine aE ?_
  refine cE hF (fun h1 hF => ?_) fun h1 hF => ?_
  · refine awp_true (by kernel_rfl) h1 ?_
    exact nE hF
  · refine awp_false (by kernel_rfl) h1 ?_
    refine awp_skip ?_
    refine awp_seq ?_
    refine awp_to (st' := slices_Grow_api_Cell_api_Cell_n0_x1_I qn) (oT [] []) ?_
    refine bE hF fun vs1 h6 hF => ?_
    refine awp_sub (slices_Grow_api_Cell_api_Cell_n0_x1_ok qn h6) ?_
    refine awp_seq ?_
    refine awp_region ?_
    refine aR 2 ?_
    refine aE ?_
    refine awp_ret ?_
    exact oF hF [] []

/-! ### slices.Concat[[]beaconfleet/api.Cell,beaconfleet/api.Cell] -/
def slices_Concat_api_Cell_api_Cell_o0_x1_k : Int → AEx
  | _ => .exit 0

def slices_Concat_api_Cell_api_Cell_o0_x1_S (qslices : List (List api_Cell)) : Int → St
  | vsize1 => Mem.st ⟨[], []⟩ (tl [(0, .v (.one (.d (.lst (List.map (encL api_Cell.enc) qslices))))), (3, .v (.one (.d (.int .i64 vsize1))))]) 1

def slices_Concat_api_Cell_api_Cell_o0_x1_H (qslices : List (List api_Cell)) : Int × Int → St
  | (vsize, vx) => Mem.st ⟨[], []⟩ (tl [(0, .v (.one (.d (.lst (List.map (encL api_Cell.enc) qslices))))), (3, .v (.one (.d (.int .i64 vsize)))), (9, .v (.one (.d (.lst (List.map (encL api_Cell.enc) qslices))))), (10, .v (.one (.d (.int .i64 (qslices.length : Int))))), (11, .v (.one (.d (.int .i64 vx))))]) 1

theorem slices_Concat_api_Cell_api_Cell_o0_x1_ok (qslices : List (List api_Cell)) (s : Int × Int) (r : (Int × Int) ⊕ (Int)) (hF : slices_Concat_api_Cell_api_Cell_o0_x1 qslices s = some r) : Awp prog 1 36 (cL (cL (cR (cL (cR (cR (cB f95))))))) (Out 1 (kk slices_Concat_api_Cell_api_Cell_o0_x1_k) (SS (slices_Concat_api_Cell_api_Cell_o0_x1_H qslices) (slices_Concat_api_Cell_api_Cell_o0_x1_S qslices)) r) (slices_Concat_api_Cell_api_Cell_o0_x1_H qslices s) := by
  obtain ⟨vsize, vx⟩ := s
  unfold slices_Concat_api_Cell_api_Cell_o0_x1 at hF
  refine awp_seq ?_
  refine awp_region ?_
  refine aR 1 ?_
  refine aE ?_
  refine awp_seq ?_
  refine cE hF (fun h1 hF => ?_) fun h1 hF => ?_
  · refine awp_true (by kernel_rfl) h1 ?_
    refine awp_skip ?_
    refine awp_seq ?_
    refine awp_block ?_
    refine awp_seq ?_
    refine bE hF fun vy1 h2 hF => ?_
    refine awp_region ?_
    refine aX (x_idx (encL api_Cell.enc) h2) ?_
    refine aR 2 ?_
    refine aE ?_
    refine awp_seq ?_
    refine awp_region ?_
    refine aR 2 ?_
    refine aL api_Cell.enc vy1 ?_
    refine aR 2 ?_
    refine aE ?_
    refine awp_seq ?_
    refine awp_region ?_
    refine aR 2 ?_
    refine aE ?_
    refine cE hF (fun h3 hF => ?_) fun h3 hF => ?_
    · refine awp_true (by kernel_rfl) h3 ?_
      exact nE hF
    · refine awp_false (by kernel_rfl) h3 ?_
      refine awp_skip ?_
      refine awp_region ?_
      refine aR 2 ?_
      refine aE ?_
      exact oO hF [] [] rfl
  · refine awp_false (by kernel_rfl) h1 ?_
    refine awp_exit ?_
    exact oO hF [] [] rfl

def slices_Concat_api_Cell_api_Cell_o0_x2_k : (List api_Cell) → AEx
  | _ => .exit 2

def slices_Concat_api_Cell_api_Cell_o0_x2_S (qslices : List (List api_Cell)) : (List api_Cell) → St
  | vnewslice1 => Mem.st ⟨[(1, ⟨49, 8, List.map api_Cell.enc vnewslice1⟩)], []⟩ (tl [(6, .v (.one (.own 1 none)))]) 2

def slices_Concat_api_Cell_api_Cell_o0_x2_H (qslices : List (List api_Cell)) : (List api_Cell) × Int → St
  | (vnewslice, vx1) => Mem.st ⟨[(1, ⟨49, 8, List.map api_Cell.enc vnewslice⟩)], []⟩ (tl [(6, .v (.one (.own 1 none))), (25, .v (.one (.d (.lst (List.map (encL api_Cell.enc) qslices))))), (26, .v (.one (.d (.int .i64 (qslices.length : Int))))), (27, .v (.one (.d (.int .i64 vx1))))]) 2

theorem slices_Concat_api_Cell_api_Cell_o0_x2_ok (qslices : List (List api_Cell)) (s : (List api_Cell) × Int) (r : ((List api_Cell) × Int) ⊕ ((List api_Cell))) (hF : slices_Concat_api_Cell_api_Cell_o0_x2 qslices s = some r) : Awp prog 1 36 (cL (cL (cR (cL (cR (cR (cR (cR (cB f95))))))))) (Out 1 (kk slices_Concat_api_Cell_api_Cell_o0_x2_k) (SS (slices_Concat_api_Cell_api_Cell_o0_x2_H qslices) (slices_Concat_api_Cell_api_Cell_o0_x2_S qslices)) r) (slices_Concat_api_Cell_api_Cell_o0_x2_H qslices s) := by
  obtain ⟨vnewslice, vx1⟩ := s
  unfold slices_Concat_api_Cell_api_Cell_o0_x2 at hF
  refine awp_seq ?_
  refine awp_region ?_
  refine aR 1 ?_
  refine aE ?_
  refine awp_seq ?_
  refine cE hF (fun h7 hF => ?_) fun h7 hF => ?_
  · refine awp_true (by kernel_rfl) h7 ?_
    refine awp_skip ?_
    refine awp_seq ?_
    refine awp_block ?_
    refine awp_seq ?_
    refine bE hF fun vy3 h8 hF => ?_
    refine awp_region ?_
    refine aX (x_idx (encL api_Cell.enc) h8) ?_
    refine aR 2 ?_
    refine aE ?_
    refine gE hF fun h9 hF => ?_
    refine awp_region ?_
    refine aR 2 ?_
    refine aX (x_app api_Cell.enc 1 h9) ?_
    refine aR 1 ?_
    refine aE ?_
    refine awp_region ?_
    refine aR 2 ?_
    refine aE ?_
    exact oO hF [(1, 6002)] [] rfl
  · refine awp_false (by kernel_rfl) h7 ?_
    refine awp_exit ?_
    exact oO hF [] [] rfl

def slices_Concat_api_Cell_api_Cell_o0_R (qslices : List (List api_Cell)) (r : (List api_Cell)) : TV × Mem := (.v (.one (.own 1 none)), ⟨[(1, ⟨49, 8, List.map api_Cell.enc r⟩)], []⟩)

theorem slices_Concat_api_Cell_api_Cell_o0_ok {qslices : List (List api_Cell)} {r} (hF : slices_Concat_api_Cell_api_Cell_o0 qslices = some r) : Holds prog 95 [.v (.one (.own 0 none))] ⟨[(0, ⟨26, 1, List.map (encL api_Cell.enc) qslices⟩)], []⟩ (Is (slices_Concat_api_Cell_api_Cell_o0_R qslices r)) := by
  unfold slices_Concat_api_Cell_api_Cell_o0 at hF
  refine holds_of_awp hΓ (fn := f95) (c := cB f95) (A := 1) (nx := 1) (by kernel_rfl) (by kernel_rfl) (by kernel_rfl) (by kernel_rfl) (by kernel_rfl) (by kernel_rfl) (lowc_of (by kernel_rfl)) ?_
  show Awp prog 1 36 (cB f95) _ _
  refine awp_seq ?_
  refine awp_region ?_
  refine aR 1 ?_
  refine aE ?_
  refine awp_to (oT (m := ⟨[], []⟩) (ts := [(0, .v (.one (.d (.lst (List.map (encL api_Cell.enc) qslices)))))]) (nx := 1) [] []) ?_
  refine awp_seq ?_
  refine awp_region ?_
  refine aR 1 ?_
  refine aE ?_
  refine awp_seq ?_
  refine awp_seq ?_
  refine awp_region ?_
  refine aR 1 ?_
  refine aL (encL api_Cell.enc) qslices ?_
  refine aR 1 ?_
  refine aE ?_
  refine awp_block ?_
  refine awp_to (st' := slices_Concat_api_Cell_api_Cell_o0_x1_H qslices (0, 0)) (oT [] []) ?_
  refine bE hF fun vsize1_1 h5 hF => ?_
  refine awp_sub (awp_loop' (slices_Concat_api_Cell_api_Cell_o0_x1_H qslices) slices_Concat_api_Cell_api_Cell_o0_x1_k (slices_Concat_api_Cell_api_Cell_o0_x1_S qslices) (by intro x; exact fun h => nomatch h) h5 (slices_Concat_api_Cell_api_Cell_o0_x1_ok qslices)) ?_
  refine awp_seq ?_
  refine bE hF fun vr h6 hF => ?_
  refine awp_region ?_
  refine aR 1 ?_
  refine aC (slices_Grow_api_Cell_api_Cell_n0_ok h6) [] [] [] ?_
  refine aR 1 ?_
  refine aE ?_
  refine awp_seq ?_
  refine awp_seq ?_
  refine awp_region ?_
  refine aR 1 ?_
  refine aL (encL api_Cell.enc) qslices ?_
  refine aR 1 ?_
  refine aE ?_
  refine awp_block ?_
  refine awp_to (st' := slices_Concat_api_Cell_api_Cell_o0_x2_H qslices (vr, 0)) (oT [(1, 1001)] []) ?_
  refine bE hF fun vnewslice1_1 h10 hF => ?_
  refine awp_sub (awp_loop' (slices_Concat_api_Cell_api_Cell_o0_x2_H qslices) slices_Concat_api_Cell_api_Cell_o0_x2_k (slices_Concat_api_Cell_api_Cell_o0_x2_S qslices) (by intro x; exact fun h => nomatch h) h10 (slices_Concat_api_Cell_api_Cell_o0_x2_ok qslices)) ?_
  refine awp_seq ?_
  refine awp_region ?_
  refine aR 2 ?_
  refine aE ?_
  refine awp_ret ?_
  exact oF hF [] []

/-! ### beaconfleet/twin.joined -/
def twin_joined_x2_k : Bool → AEx
  | _ => .normal

def twin_joined_x2_S (vx : List api_Cell) (vx1 : List api_Cell) (vx2 : List api_Cell) : Bool → St
  | vx6 => Mem.st ⟨[(0, ⟨49, 8, List.map api_Cell.enc vx2⟩)], []⟩ (tl [(0, .v (.one (.d (.lst (List.map api_Cell.enc vx))))), (1, .v (.one (.d (.lst (List.map api_Cell.enc vx1))))), (6, .v (.one (.own 0 none))), (16, .v (.one (.d (.bool vx6))))]) 1

def twin_joined_x2_I (vx : List api_Cell) (vx1 : List api_Cell) (vx2 : List api_Cell) : St := Mem.st ⟨[(0, ⟨49, 8, List.map api_Cell.enc vx2⟩)], []⟩ (tl [(0, .v (.one (.d (.lst (List.map api_Cell.enc vx))))), (1, .v (.one (.d (.lst (List.map api_Cell.enc vx1))))), (6, .v (.one (.own 0 none)))]) 1

theorem twin_joined_x2_ok (vx : List api_Cell) (vx1 : List api_Cell) (vx2 : List api_Cell) {r} (hF : twin_joined_x2 vx vx1 = some r) : Awp prog 0 99 (cL (cL (cL (cL (cL (cR (cR (cB f134)))))))) (Out 0 twin_joined_x2_k (twin_joined_x2_S vx vx1 vx2) r) (twin_joined_x2_I vx vx1 vx2) := by
  unfold twin_joined_x2 at hF
  refine cE hF (fun h1 hF => ?_) fun h1 hF => ?_
  · refine awp_region ?_
    refine aR 1 ?_
    refine aL api_Cell.enc vx ?_
    refine aB h1 ?_
    refine aR 2 ?_
    refine aL api_Cell.enc vx1 ?_
    refine aR 2 ?_
    refine aE ?_
    exact oO hF [] [] rfl
  · refine awp_region ?_
    refine aR 1 ?_
    refine aL api_Cell.enc vx ?_
    refine aB h1 ?_
    refine aR 5 ?_
    refine aE ?_
    exact oO hF [] [] rfl

def twin_joined_x4_k : Bool → AEx
  | _ => .normal

def twin_joined_x4_S (vx : List api_Cell) (vx1 : List api_Cell) (vx2 : List api_Cell) (vr3_1 : Int) : Bool → St
  | vx7 => Mem.st ⟨[(0, ⟨49, 8, List.map api_Cell.enc vx2⟩)], []⟩ (tl [(0, .v (.one (.d (.lst (List.map api_Cell.enc vx))))), (1, .v (.one (.d (.lst (List.map api_Cell.enc vx1))))), (6, .v (.one (.own 0 none))), (8, .v (.one (.d (.int .i64 vr3_1)))), (65, .v (.one (.d (.bool vx7))))]) 1

def twin_joined_x4_I (vx : List api_Cell) (vx1 : List api_Cell) (vx2 : List api_Cell) (vr3_1 : Int) : St := Mem.st ⟨[(0, ⟨49, 8, List.map api_Cell.enc vx2⟩)], []⟩ (tl [(0, .v (.one (.d (.lst (List.map api_Cell.enc vx))))), (1, .v (.one (.d (.lst (List.map api_Cell.enc vx1))))), (6, .v (.one (.own 0 none))), (8, .v (.one (.d (.int .i64 vr3_1))))]) 1

theorem twin_joined_x4_ok (vx : List api_Cell) (vx1 : List api_Cell) (vx2 : List api_Cell) (vr3_1 : Int) {r} (hF : twin_joined_x4 vx vx1 vr3_1 = some r) : Awp prog 0 99 (cL (cL (cR (cL (cR (cL (cR (cL (cL (cL (cR (cR (cB f134))))))))))))) (Out 0 twin_joined_x4_k (twin_joined_x4_S vx vx1 vx2 vr3_1) r) (twin_joined_x4_I vx vx1 vx2 vr3_1) := by
  unfold twin_joined_x4 at hF
  refine cE hF (fun h16 hF => ?_) fun h16 hF => ?_
  · refine bE hF fun vy10 h17 hF => ?_
    refine bE hF fun vy11 h18 hF => ?_
    refine aD ?_
    refine dR 1 ?_
    refine dB h16 ?_
    refine dR 2 ?_
    refine dX (x_idx api_Cell.enc h17) ?_
    refine dR 4 ?_
    refine dX (x_idx api_Cell.enc h18) ?_
    refine dR 3 ?_
    refine dS (U := []) (stable_eqS (op := .neq) (xs := [.int .i64 vy10.Prop_.Value.Kind, .bool vy10.Prop_.Value.Flag, .int .i64 vy10.Prop_.Value.Number, .str vy10.Prop_.Value.Words]) (ys := [.int .i64 vy11.Prop_.Value.Kind, .bool vy11.Prop_.Value.Flag, .int .i64 vy11.Prop_.Value.Number, .str vy11.Prop_.Value.Words]) (b := (decide (vy10.Prop_.Value.Kind = vy11.Prop_.Value.Kind) && ((vy10.Prop_.Value.Flag == vy11.Prop_.Value.Flag) && (decide (vy10.Prop_.Value.Number = vy11.Prop_.Value.Number) && (decide (vy10.Prop_.Value.Words = vy11.Prop_.Value.Words) && true))))) (c := (!(decide (vy10.Prop_.Value.Kind = vy11.Prop_.Value.Kind) && ((vy10.Prop_.Value.Flag == vy11.Prop_.Value.Flag) && (decide (vy10.Prop_.Value.Number = vy11.Prop_.Value.Number) && (decide (vy10.Prop_.Value.Words = vy11.Prop_.Value.Words) && true)))))) rfl (.inr ⟨rfl, rfl⟩) (by kernel_rfl) (by kernel_rfl) (by kernel_rfl) (by kernel_rfl) (by kernel_rfl) (by kernel_rfl)) ?_
    refine dR 2 ?_
    refine dE ?_
    exact oO hF [] [] rfl
  · refine aD ?_
    refine dR 1 ?_
    refine dB h16 ?_
    refine dR 14 ?_
    refine dE ?_
    exact oO hF [] [] rfl

def twin_joined_x3_k : (List api_Cell) ⊕ Unit → AEx
  | .inl _ => .normal
  | .inr _ => .ret

def twin_joined_x3_S (vx : List api_Cell) (vx1 : List api_Cell) (vx2 : List api_Cell) : (List api_Cell) ⊕ Unit → St
  | .inl vx8 => Mem.st ⟨[(0, ⟨49, 8, List.map api_Cell.enc vx8⟩)], []⟩ (tl [(0, .v (.one (.d (.lst (List.map api_Cell.enc vx))))), (1, .v (.one (.d (.lst (List.map api_Cell.enc vx1))))), (6, .v (.one (.own 0 none)))]) 1
  | .inr _ => Mem.st ⟨[], []⟩ (tl [(4, .v (.one (.nil))), (5, .v (.one (.d (.int .i64 13))))]) 0

def twin_joined_x3_I (vx : List api_Cell) (vx1 : List api_Cell) (vx2 : List api_Cell) : St := Mem.st ⟨[(0, ⟨49, 8, List.map api_Cell.enc vx2⟩)], []⟩ (tl [(0, .v (.one (.d (.lst (List.map api_Cell.enc vx))))), (1, .v (.one (.d (.lst (List.map api_Cell.enc vx1))))), (6, .v (.one (.own 0 none)))]) 1

theorem twin_joined_x3_ok (vx : List api_Cell) (vx1 : List api_Cell) (vx2 : List api_Cell) {r} (hF : twin_joined_x3 vx vx1 vx2 = some r) : Awp prog 0 99 (cL (cR (cL (cR (cL (cL (cL (cR (cR (cB f134)))))))))) (Out 0 twin_joined_x3_k (twin_joined_x3_S vx vx1 vx2) r) (twin_joined_x3_I vx vx1 vx2) := by
  unfold twin_joined_x3 at hF
  refine awp_seq ?_
  refine bE hF fun vy8 h13 hF => ?_
  refine bE hF fun vy9 h14 hF => ?_
  refine bE hF fun vr3_1 h15 hF => ?_
  refine aD ?_
  refine dR 1 ?_
  refine dX (x_idx api_Cell.enc h13) ?_
  refine dR 3 ?_
  refine dX (x_idx api_Cell.enc h14) ?_
  refine dR 2 ?_
  refine dC (twin_byStamp_ok h15) [] [] [] ?_
  refine dR 1 ?_
  refine dE ?_
  refine awp_block ?_
  refine awp_seq ?_
  refine awp_to (st' := twin_joined_x4_I vx vx1 vx2 vr3_1) (oT [] []) ?_
  refine bE hF fun vx7_1 h19 hF => ?_
  refine awp_sub (twin_joined_x4_ok vx vx1 vx2 vr3_1 h19) ?_
  refine cE hF (fun h20 hF => ?_) fun h20 hF => ?_
  · refine awp_true (by kernel_rfl) h20 ?_
    refine awp_seq ?_
    refine awp_region ?_
    refine aR 2 ?_
    refine aE ?_
    refine awp_ret ?_
    exact oO hF [] [] rfl
  · refine awp_false (by kernel_rfl) h20 ?_
    refine awp_seq ?_
    refine awp_region ?_
    refine aR 3 ?_
    refine aE ?_
    refine cE hF (fun h21 hF => ?_) fun h21 hF => ?_
    · refine awp_true (by kernel_rfl) h21 ?_
      refine gE hF fun h22 hF => ?_
      refine awp_region ?_
      refine aR 2 ?_
      refine aX (x_idx api_Cell.enc h13) ?_
      refine aR 2 ?_
      refine aX (x_app api_Cell.enc 0 h22) ?_
      refine aR 1 ?_
      refine aE ?_
      exact oO hF [(0, 8001)] [] rfl
    · refine awp_false (by kernel_rfl) h21 ?_
      refine gE hF fun h23 hF => ?_
      refine awp_region ?_
      refine aR 2 ?_
      refine aX (x_idx api_Cell.enc h14) ?_
      refine aR 2 ?_
      refine aX (x_app api_Cell.enc 0 h23) ?_
      refine aR 1 ?_
      refine aE ?_
      exact oO hF [(0, 8001)] [] rfl

def twin_joined_x1_k : ((List api_Cell) × (List api_Cell) × (List api_Cell)) ⊕ Unit → AEx
  | .inl _ => .exit 0
  | .inr _ => .ret

def twin_joined_x1_S : ((List api_Cell) × (List api_Cell) × (List api_Cell)) ⊕ Unit → St
  | .inl (vx9, vx10, vx11) => Mem.st ⟨[(0, ⟨49, 8, List.map api_Cell.enc vx11⟩)], []⟩ (tl [(0, .v (.one (.d (.lst (List.map api_Cell.enc vx9))))), (1, .v (.one (.d (.lst (List.map api_Cell.enc vx10))))), (6, .v (.one (.own 0 none)))]) 1
  | .inr _ => Mem.st ⟨[], []⟩ (tl [(4, .v (.one (.nil))), (5, .v (.one (.d (.int .i64 13))))]) 0

def twin_joined_x1_H : (List api_Cell) × (List api_Cell) × (List api_Cell) → St
  | (vx, vx1, vx2) => Mem.st ⟨[(0, ⟨49, 8, List.map api_Cell.enc vx2⟩)], []⟩ (tl [(0, .v (.one (.d (.lst (List.map api_Cell.enc vx))))), (1, .v (.one (.d (.lst (List.map api_Cell.enc vx1))))), (6, .v (.one (.own 0 none)))]) 1

theorem twin_joined_x1_ok (s : (List api_Cell) × (List api_Cell) × (List api_Cell)) (r : ((List api_Cell) × (List api_Cell) × (List api_Cell)) ⊕ (((List api_Cell) × (List api_Cell) × (List api_Cell)) ⊕ Unit)) (hF : twin_joined_x1  s = some r) : Awp prog 0 99 (cL (cL (cL (cR (cR (cB f134)))))) (Out 0 (kk twin_joined_x1_k) (SS (twin_joined_x1_H ) (twin_joined_x1_S )) r) (twin_joined_x1_H  s) := by
  obtain ⟨vx, vx1, vx2⟩ := s
  unfold twin_joined_x1 at hF
  refine awp_seq ?_
  refine awp_seq ?_
  refine awp_to (st' := twin_joined_x2_I vx vx1 vx2) (oT [] []) ?_
  refine bE hF fun vx6_1 h2 hF => ?_
  refine awp_sub (twin_joined_x2_ok vx vx1 vx2 h2) ?_
  refine cE hF (fun h3 hF => ?_) fun h3 hF => ?_
  · refine awp_true (by kernel_rfl) h3 ?_
    refine awp_skip ?_
    refine awp_block ?_
    refine awp_seq ?_
    refine awp_seq ?_
    refine bE hF fun vy6 h4 hF => ?_
    refine bE hF fun vy7 h5 hF => ?_
    refine bE hF fun _ h6 hF => ?_
    refine aD ?_
    refine dR 1 ?_
    refine dX (x_idx api_Cell.enc h4) ?_
    refine dR 4 ?_
    refine dX (x_idx api_Cell.enc h5) ?_
    refine dR 3 ?_
    refine dC (strings_Compare_ok h6) [] [] [] ?_
    refine dR 1 ?_
    refine dE ?_
    refine awp_block ?_
    refine awp_seq ?_
    refine awp_region ?_
    refine aR 3 ?_
    refine aE ?_
    refine cE hF (fun h7 hF => ?_) fun h7 hF => ?_
    · refine awp_true (by kernel_rfl) h7 ?_
      refine awp_seq ?_
      refine gE hF fun h8 hF => ?_
      refine bE hF fun vl4 h9 hF => ?_
      refine aD ?_
      refine dR 2 ?_
      refine dX (x_idx api_Cell.enc h4) ?_
      refine dR 2 ?_
      refine dX (x_app api_Cell.enc 0 h8) ?_
      refine dR 1 ?_
      refine dX (x_sliceN api_Cell.enc h9) ?_
      refine dR 2 ?_
      refine dE ?_
      refine awp_exit ?_
      exact oO hF [(0, 20001)] [] rfl
    · refine awp_false (by kernel_rfl) h7 ?_
      refine awp_seq ?_
      refine awp_region ?_
      refine aR 3 ?_
      refine aE ?_
      refine cE hF (fun h10 hF => ?_) fun h10 hF => ?_
      · refine awp_true (by kernel_rfl) h10 ?_
        refine awp_seq ?_
        refine gE hF fun h11 hF => ?_
        refine bE hF fun vl5 h12 hF => ?_
        refine aD ?_
        refine dR 2 ?_
        refine dX (x_idx api_Cell.enc h5) ?_
        refine dR 2 ?_
        refine dX (x_app api_Cell.enc 0 h11) ?_
        refine dR 1 ?_
        refine dX (x_sliceN api_Cell.enc h12) ?_
        refine dR 2 ?_
        refine dE ?_
        refine awp_exit ?_
        exact oO hF [(0, 23001)] [] rfl
      · refine awp_false (by kernel_rfl) h10 ?_
        refine awp_skip ?_
        refine awp_seq ?_
        refine awp_to (st' := twin_joined_x3_I vx vx1 vx2) (oT [] []) ?_
        refine bE hF fun x h24 hF => ?_
        rcases x with vx8_1 | _
        · refine awp_sub (twin_joined_x3_ok vx vx1 vx2 h24) ?_
          refine bE hF fun vl6 h25 hF => ?_
          refine bE hF fun vl7 h26 hF => ?_
          refine aD ?_
          refine dR 1 ?_
          refine dX (x_sliceN api_Cell.enc h25) ?_
          refine dR 1 ?_
          refine dX (x_sliceN api_Cell.enc h26) ?_
          refine dR 2 ?_
          refine dE ?_
          exact oO hF [] [] rfl
        · refine awp_sub (twin_joined_x3_ok vx vx1 vx2 h24) ?_
          exact oO hF [] [] rfl
  · refine awp_false (by kernel_rfl) h3 ?_
    refine awp_exit ?_
    exact oO hF [] [] rfl

def twin_joined_R (qx : List api_Cell) (qx1 : List api_Cell) (r : (List api_Cell) × Int) : TV × Mem := (.tup [.one (.own 0 none), .one (.d (.int .i64 r.2))], ⟨[(0, ⟨49, 8, List.map api_Cell.enc r.1⟩)], []⟩)

theorem twin_joined_ok {qx : List api_Cell} {qx1 : List api_Cell} {r} (hF : twin_joined qx qx1 = some r) : Holds prog 134 [.v (.one (.d (.lst (List.map api_Cell.enc qx)))), .v (.one (.d (.lst (List.map api_Cell.enc qx1))))] ⟨[], []⟩ (Is (twin_joined_R qx qx1 r)) := by
  unfold twin_joined at hF
  refine holds_of_awp hΓ (fn := f134) (c := cB f134) (A := 0) (nx := 0) (by kernel_rfl) (by kernel_rfl) (by kernel_rfl) (by kernel_rfl) (by kernel_rfl) (by kernel_rfl) (lowc_of (by kernel_rfl)) ?_
  show Awp prog 0 99 (cB f134) _ _
  refine awp_seq ?_
  refine awp_region ?_
  refine aR 2 ?_
  refine aE ?_
  refine awp_seq ?_
  refine awp_region ?_
  refine aR 1 ?_
  refine aE ?_
  refine awp_seq ?_
  refine awp_block ?_
  refine awp_to (st' := twin_joined_x1_H  (qx, qx1, [])) (oT [] [0]) ?_
  refine bE hF fun x h27 hF => ?_
  rcases x with ⟨vx9_1, vx10_1, vx11_1⟩ | _
  · refine awp_sub (awp_loop' (twin_joined_x1_H ) twin_joined_x1_k (twin_joined_x1_S ) (by intro x; rcases x with x | x <;> exact fun h => nomatch h) h27 (twin_joined_x1_ok )) ?_
    refine awp_seq ?_
    refine bE hF fun vr1 h28 hF => ?_
    refine awp_region ?_
    refine aR 3 ?_
    refine aF ⟨[], []⟩ [(94, .v (.one (.d (.lst (List.map api_Cell.enc vx11_1))))), (95, .v (.one (.d (.lst (List.map api_Cell.enc vx9_1))))), (96, .v (.one (.d (.lst (List.map api_Cell.enc vx10_1)))))] ?_
    refine aR 1 ?_
    refine aC (slices_Concat_api_Cell_api_Cell_o0_ok h28) [(0, 3001)] [] [] ?_
    refine aR 2 ?_
    refine aE ?_
    refine awp_ret ?_
    exact oF hF [(0, 4002)] []
  · refine awp_sub (awp_loop' (twin_joined_x1_H ) twin_joined_x1_k (twin_joined_x1_S ) (by intro x; rcases x with x | x <;> exact fun h => nomatch h) h27 (twin_joined_x1_ok )) ?_
    exact oF hF [] [0]

/-! ### beaconfleet/twin.merged -/
def twin_merged_x2_k : Bool → AEx
  | _ => .normal

def twin_merged_x2_S (vr : List api_Cell) (vr2 : Int) : Bool → St
  | vx => Mem.st ⟨[(0, ⟨49, 8, List.map api_Cell.enc vr⟩)], []⟩ (tl [(6, .v (.one (.own 0 none))), (7, .v (.one (.d (.int .i64 vr2)))), (20, .v (.one (.d (.bool vx))))]) 1

def twin_merged_x2_I (vr : List api_Cell) (vr2 : Int) : St := Mem.st ⟨[(0, ⟨49, 8, List.map api_Cell.enc vr⟩)], []⟩ (tl [(6, .v (.one (.own 0 none))), (7, .v (.one (.d (.int .i64 vr2))))]) 1

theorem twin_merged_x2_ok (vr : List api_Cell) (vr2 : Int) {r} (hF : twin_merged_x2 vr vr2 = some r) : Awp prog 0 25 (cL (cL (cR (cR (cB f93))))) (Out 0 twin_merged_x2_k (twin_merged_x2_S vr vr2) r) (twin_merged_x2_I vr vr2) := by
  unfold twin_merged_x2 at hF
  refine cE hF (fun h2 hF => ?_) fun h2 hF => ?_
  · refine awp_region ?_
    refine aR 1 ?_
    refine aB h2 ?_
    refine aR 2 ?_
    refine aL api_Cell.enc vr ?_
    refine aR 2 ?_
    refine aE ?_
    exact oO hF [] [] rfl
  · refine awp_region ?_
    refine aR 1 ?_
    refine aB h2 ?_
    refine aR 5 ?_
    refine aE ?_
    exact oO hF [] [] rfl

def twin_merged_x1_k : Int → AEx
  | _ => .normal

def twin_merged_x1_S (vr : List api_Cell) (vr2 : Int) : Int → St
  | ve => Mem.st ⟨[(0, ⟨49, 8, List.map api_Cell.enc vr⟩)], []⟩ (tl [(6, .v (.one (.own 0 none))), (7, .v (.one (.d (.int .i64 ve))))]) 1

def twin_merged_x1_I (vr : List api_Cell) (vr2 : Int) : St := Mem.st ⟨[(0, ⟨49, 8, List.map api_Cell.enc vr⟩)], []⟩ (tl [(6, .v (.one (.own 0 none))), (7, .v (.one (.d (.int .i64 vr2))))]) 1

theorem twin_merged_x1_ok (vr : List api_Cell) (vr2 : Int) {r} (hF : twin_merged_x1 vr vr2 = some r) : Awp prog 0 25 (cL (cR (cR (cB f93)))) (Out 0 twin_merged_x1_k (twin_merged_x1_S vr vr2) r) (twin_merged_x1_I vr vr2) := by
  unfold twin_merged_x1 at hF
  refine awp_seq ?_
  refine awp_to (st' := twin_merged_x2_I vr vr2) (oT [] []) ?_
  refine bE hF fun vx1 h3 hF => ?_
  refine awp_sub (twin_merged_x2_ok vr vr2 h3) ?_
  refine cE hF (fun h4 hF => ?_) fun h4 hF => ?_
  · refine awp_true (by kernel_rfl) h4 ?_
    refine awp_region ?_
    refine aR 1 ?_
    refine aE ?_
    exact oO hF [] [] rfl
  · refine awp_false (by kernel_rfl) h4 ?_
    refine awp_skip ?_
    exact oO hF [] [] rfl

def twin_merged_R (qa : List api_Cell) (qb : List api_Cell) (r : (List api_Cell) × Int) : TV × Mem := (.tup [.one (.own 0 none), .one (.d (.int .i64 r.2))], ⟨[(0, ⟨49, 8, List.map api_Cell.enc r.1⟩)], []⟩)

theorem twin_merged_ok {qa : List api_Cell} {qb : List api_Cell} {r} (hF : twin_merged qa qb = some r) : Holds prog 93 [.v (.one (.d (.lst (List.map api_Cell.enc qa)))), .v (.one (.d (.lst (List.map api_Cell.enc qb))))] ⟨[], []⟩ (Is (twin_merged_R qa qb r)) := by
  unfold twin_merged at hF
  refine holds_of_awp hΓ (fn := f93) (c := cB f93) (A := 0) (nx := 0) (by kernel_rfl) (by kernel_rfl) (by kernel_rfl) (by kernel_rfl) (by kernel_rfl) (by kernel_rfl) (lowc_of (by kernel_rfl)) ?_
  show Awp prog 0 25 (cB f93) _ _
  refine awp_seq ?_
  refine awp_region ?_
  refine aR 2 ?_
  refine aE ?_
  refine awp_seq ?_
  refine bE hF fun x h1 hF => ?_
  obtain ⟨vr, vr2⟩ := x
  refine awp_region ?_
  refine aR 2 ?_
  refine aC (twin_joined_ok h1) [] [] [] ?_
  refine aR 5 ?_
  refine aE ?_
  refine awp_seq ?_
  refine awp_to (st' := twin_merged_x1_I vr vr2) (oT [(0, 4000)] []) ?_
  refine bE hF fun ve1 h5 hF => ?_
  refine awp_sub (twin_merged_x1_ok vr vr2 h5) ?_
  refine awp_seq ?_
  refine awp_seq ?_
  refine awp_region ?_
  refine aR 2 ?_
  refine aE ?_
  refine cE hF (fun h6 hF => ?_) fun h6 hF => ?_
  · refine awp_true (by kernel_rfl) h6 ?_
    refine awp_seq ?_
    refine awp_region ?_
    refine aR 3 ?_
    refine aE ?_
    refine awp_ret ?_
    exact oF hF [] [0]
  · refine awp_false (by kernel_rfl) h6 ?_
    refine awp_skip ?_
    refine awp_seq ?_
    refine awp_region ?_
    refine aR 3 ?_
    refine aE ?_
    refine awp_ret ?_
    exact oF hF [] []

/-! ### beaconfleet/twin.Merge -/
def twin_Merge_R (qa : List api_Cell) (qb : List api_Cell) (r : (List api_Cell) × Int) : TV × Mem := (.tup [.one (.own 0 none), .one (.d (.int .i64 r.2))], ⟨[(0, ⟨49, 8, List.map api_Cell.enc r.1⟩)], []⟩)

theorem twin_Merge_ok {qa : List api_Cell} {qb : List api_Cell} {r} (hF : twin_Merge qa qb = some r) : Holds prog 40 [.v (.one (.d (.lst (List.map api_Cell.enc qa)))), .v (.one (.d (.lst (List.map api_Cell.enc qb))))] ⟨[], []⟩ (Is (twin_Merge_R qa qb r)) := by
  unfold twin_Merge at hF
  refine holds_of_awp hΓ (fn := f40) (c := cB f40) (A := 0) (nx := 0) (by kernel_rfl) (by kernel_rfl) (by kernel_rfl) (by kernel_rfl) (by kernel_rfl) (by kernel_rfl) (lowc_of (by kernel_rfl)) ?_
  show Awp prog 0 21 (cB f40) _ _
  refine awp_seq ?_
  refine awp_region ?_
  refine aR 2 ?_
  refine aE ?_
  refine awp_seq ?_
  refine awp_seq ?_
  refine bE hF fun vr6 h1 hF => ?_
  refine bE hF fun vr6_1 h2 hF => ?_
  refine bE hF fun vr h3 hF => ?_
  refine awp_region ?_
  refine aR 1 ?_
  refine aC (twin_CheckCells_ok h1) [] [] [] ?_
  refine aR 1 ?_
  refine aC (twin_CheckCells_ok h2) [] [] [] ?_
  refine aR 1 ?_
  refine aC (base_First_ok h3) [] [] [6000] ?_
  refine aR 1 ?_
  refine aE ?_
  refine awp_seq ?_
  refine awp_region ?_
  refine aR 2 ?_
  refine aE ?_
  refine cE hF (fun h4 hF => ?_) fun h4 hF => ?_
  · refine awp_true (by kernel_rfl) h4 ?_
    refine awp_seq ?_
    refine awp_region ?_
    refine aR 3 ?_
    refine aE ?_
    refine awp_ret ?_
    exact oF hF [] [0]
  · refine awp_false (by kernel_rfl) h4 ?_
    refine awp_skip ?_
    refine awp_seq ?_
    refine bE hF fun x h5 hF => ?_
    obtain ⟨vr1, vr3⟩ := x
    refine awp_region ?_
    refine aR 2 ?_
    refine aC (twin_merged_ok h5) [] [] [] ?_
    refine aR 4 ?_
    refine aE ?_
    refine awp_ret ?_
    exact oF hF [(0, 13000)] []

/-! ### beaconfleet/twin.Set -/
def twin_Set_R (ql : List api_Cell) (qp : api_Prop) (qs : api_Stamp) (r : (List api_Cell) × Int) : TV × Mem := (.tup [.one (.own 0 none), .one (.d (.int .i64 r.2))], ⟨[(0, ⟨49, 8, List.map api_Cell.enc r.1⟩)], []⟩)

theorem twin_Set_ok {ql : List api_Cell} {qp : api_Prop} {qs : api_Stamp} {r} (hF : twin_Set ql qp qs = some r) : Holds prog 41 [.v (.one (.d (.lst (List.map api_Cell.enc ql)))), .v (.agg [.d (.str qp.Name), .d (.int .i64 qp.Value.Kind), .d (.bool qp.Value.Flag), .d (.int .i64 qp.Value.Number), .d (.str qp.Value.Words)]), .v (.agg [.d (.int .i64 qs.At), .d (.str qs.By), .d (.int .i64 qs.No)])] ⟨[], []⟩ (Is (twin_Set_R ql qp qs r)) := by
  unfold twin_Set at hF
  refine holds_of_awp hΓ (fn := f41) (c := cB f41) (A := 0) (nx := 0) (by kernel_rfl) (by kernel_rfl) (by kernel_rfl) (by kernel_rfl) (by kernel_rfl) (by kernel_rfl) (lowc_of (by kernel_rfl)) ?_
  show Awp prog 0 32 (cB f41) _ _
  refine awp_seq ?_
  refine awp_region ?_
  refine aR 4 ?_
  refine aE ?_
  refine awp_seq ?_
  refine awp_region ?_
  refine aR 5 ?_
  refine aE ?_
  refine awp_to (oT (m := ⟨[], [(0, [.d (.str qp.Name), .d (.int .i64 qp.Value.Kind), .d (.bool qp.Value.Flag), .d (.int .i64 qp.Value.Number), .d (.str qp.Value.Words)])]⟩) (ts := [(0, .v (.one (.d (.lst (List.map api_Cell.enc ql))))), (4, .v (.one (.box 0 0))), (8, .v (.one (.d (.lst (List.map api_Cell.enc ([api_Cell.mk (api_Prop.mk qp.Name (api_Value.mk qp.Value.Kind qp.Value.Flag qp.Value.Number qp.Value.Words)) qs] : List api_Cell))))))]) (nx := 1) [] []) ?_
  refine awp_seq ?_
  refine awp_seq ?_
  refine bE hF fun vr6 h1 hF => ?_
  refine bE hF fun vr6_1 h2 hF => ?_
  refine bE hF fun vr h3 hF => ?_
  refine awp_region ?_
  refine aR 1 ?_
  refine aC (twin_CheckCells_ok h1) [] [] [] ?_
  refine aR 1 ?_
  refine aC (twin_CheckCells_ok h2) [] [] [] ?_
  refine aR 1 ?_
  refine aC (base_First_ok h3) [] [] [4001] ?_
  refine aR 1 ?_
  refine aE ?_
  refine awp_seq ?_
  refine awp_region ?_
  refine aR 2 ?_
  refine aE ?_
  refine cE hF (fun h4 hF => ?_) fun h4 hF => ?_
  · refine awp_true (by kernel_rfl) h4 ?_
    refine awp_seq ?_
    refine awp_region ?_
    refine aR 3 ?_
    refine aE ?_
    refine awp_ret ?_
    exact oF hF [] [0]
  · refine awp_false (by kernel_rfl) h4 ?_
    refine awp_skip ?_
    refine awp_seq ?_
    refine awp_seq ?_
    refine awp_region ?_
    refine aR 4 ?_
    refine aE ?_
    refine cE hF (fun h5 hF => ?_) fun h5 hF => ?_
    · refine awp_true (by kernel_rfl) h5 ?_
      refine awp_seq ?_
      refine awp_region ?_
      refine aR 2 ?_
      refine aE ?_
      refine awp_ret ?_
      exact oF hF [] [0]
    · refine awp_false (by kernel_rfl) h5 ?_
      refine awp_skip ?_
      refine awp_seq ?_
      refine bE hF fun x h6 hF => ?_
      obtain ⟨vr1, vr3⟩ := x
      refine awp_region ?_
      refine aR 2 ?_
      refine aC (twin_merged_ok h6) [] [] [] ?_
      refine aR 4 ?_
      refine aE ?_
      refine awp_ret ?_
      exact oF hF [(0, 15001)] []

/-! ### beaconfleet/twin.Merge -/
def twin_Merge_o1_R (qa : List api_Cell) (qb : List api_Cell) (r : (List api_Cell) × Int) : TV × Mem := (.tup [.one (.own 1 none), .one (.d (.int .i64 r.2))], ⟨[(1, ⟨49, 8, List.map api_Cell.enc r.1⟩)], []⟩)

theorem twin_Merge_o1_ok {qa : List api_Cell} {qb : List api_Cell} {r} (hF : twin_Merge_o1 qa qb = some r) : Holds prog 40 [.v (.one (.d (.lst (List.map api_Cell.enc qa)))), .v (.one (.own 0 none))] ⟨[(0, ⟨49, 8, List.map api_Cell.enc qb⟩)], []⟩ (Is (twin_Merge_o1_R qa qb r)) := by
  unfold twin_Merge_o1 at hF
  refine holds_of_awp hΓ (fn := f40) (c := cB f40) (A := 1) (nx := 1) (by kernel_rfl) (by kernel_rfl) (by kernel_rfl) (by kernel_rfl) (by kernel_rfl) (by kernel_rfl) (lowc_of (by kernel_rfl)) ?_
  show Awp prog 1 21 (cB f40) _ _
  refine awp_seq ?_
  refine awp_region ?_
  refine aR 2 ?_
  refine aE ?_
  refine awp_to (oT (m := ⟨[], []⟩) (ts := [(0, .v (.one (.d (.lst (List.map api_Cell.enc qa))))), (1, .v (.one (.d (.lst (List.map api_Cell.enc qb)))))]) (nx := 1) [] []) ?_
  refine awp_seq ?_
  refine awp_seq ?_
  refine bE hF fun vr6 h1 hF => ?_
  refine bE hF fun vr6_1 h2 hF => ?_
  refine bE hF fun vr h3 hF => ?_
  refine awp_region ?_
  refine aR 1 ?_
  refine aC (twin_CheckCells_ok h1) [] [] [] ?_
  refine aR 1 ?_
  refine aC (twin_CheckCells_ok h2) [] [] [] ?_
  refine aR 1 ?_
  refine aC (base_First_ok h3) [] [] [4001] ?_
  refine aR 1 ?_
  refine aE ?_
  refine awp_seq ?_
  refine awp_region ?_
  refine aR 2 ?_
  refine aE ?_
  refine cE hF (fun h4 hF => ?_) fun h4 hF => ?_
  · refine awp_true (by kernel_rfl) h4 ?_
    refine awp_seq ?_
    refine awp_region ?_
    refine aR 3 ?_
    refine aE ?_
    refine awp_ret ?_
    exact oF hF [] [1]
  · refine awp_false (by kernel_rfl) h4 ?_
    refine awp_skip ?_
    refine awp_seq ?_
    refine bE hF fun x h5 hF => ?_
    obtain ⟨vr1, vr3⟩ := x
    refine awp_region ?_
    refine aR 2 ?_
    refine aC (twin_merged_ok h5) [] [] [] ?_
    refine aR 4 ?_
    refine aE ?_
    refine awp_ret ?_
    exact oF hF [(1, 11001)] []

/-! ### beaconfleet/twin.Clear -/
def twin_Clear_R (ql : List api_Cell) (qname : List UInt8) (qs : api_Stamp) (r : (List api_Cell) × Int) : TV × Mem := (.tup [.one (.own 0 none), .one (.d (.int .i64 r.2))], ⟨[(0, ⟨49, 8, List.map api_Cell.enc r.1⟩)], []⟩)

theorem twin_Clear_ok {ql : List api_Cell} {qname : List UInt8} {qs : api_Stamp} {r} (hF : twin_Clear ql qname qs = some r) : Holds prog 42 [.v (.one (.d (.lst (List.map api_Cell.enc ql)))), .v (.one (.d (.str qname))), .v (.agg [.d (.int .i64 qs.At), .d (.str qs.By), .d (.int .i64 qs.No)])] ⟨[], []⟩ (Is (twin_Clear_R ql qname qs r)) := by
  unfold twin_Clear at hF
  refine holds_of_awp hΓ (fn := f42) (c := cB f42) (A := 0) (nx := 0) (by kernel_rfl) (by kernel_rfl) (by kernel_rfl) (by kernel_rfl) (by kernel_rfl) (by kernel_rfl) (lowc_of (by kernel_rfl)) ?_
  show Awp prog 0 17 (cB f42) _ _
  refine awp_seq ?_
  refine awp_region ?_
  refine aR 3 ?_
  refine aE ?_
  refine awp_seq ?_
  refine bE hF fun x h1 hF => ?_
  obtain ⟨vr2, vr4⟩ := x
  refine awp_region ?_
  refine aR 6 ?_
  refine aC (twin_Merge_o1_ok h1) [(0, 8000)] [] [] ?_
  refine aR 4 ?_
  refine aE ?_
  refine awp_ret ?_
  exact oF hF [(0, 9001)] []

/-! ### beaconfleet/fleetref2.MergeOf$1 -/
def fleetref2_MergeOf_1_R (qx : api_Cell) (qy : api_Cell) (r : Int) : TV × Mem := (.v (.one (.d (.int .i64 r))), ⟨[], []⟩)

theorem fleetref2_MergeOf_1_ok {qx : api_Cell} {qy : api_Cell} {r} (hF : fleetref2_MergeOf_1 qx qy = some r) : Holds prog 96 [.v (.agg [.d (.str qx.Prop_.Name), .d (.int .i64 qx.Prop_.Value.Kind), .d (.bool qx.Prop_.Value.Flag), .d (.int .i64 qx.Prop_.Value.Number), .d (.str qx.Prop_.Value.Words), .d (.int .i64 qx.Stamp.At), .d (.str qx.Stamp.By), .d (.int .i64 qx.Stamp.No)]), .v (.agg [.d (.str qy.Prop_.Name), .d (.int .i64 qy.Prop_.Value.Kind), .d (.bool qy.Prop_.Value.Flag), .d (.int .i64 qy.Prop_.Value.Number), .d (.str qy.Prop_.Value.Words), .d (.int .i64 qy.Stamp.At), .d (.str qy.Stamp.By), .d (.int .i64 qy.Stamp.No)])] ⟨[], []⟩ (Is (fleetref2_MergeOf_1_R qx qy r)) := by
  unfold fleetref2_MergeOf_1 at hF
  refine holds_of_awp hΓ (fn := f96) (c := cB f96) (A := 0) (nx := 0) (by kernel_rfl) (by kernel_rfl) (by kernel_rfl) (by kernel_rfl) (by kernel_rfl) (by kernel_rfl) (lowc_of (by kernel_rfl)) ?_
  show Awp prog 0 10 (cB f96) _ _
  refine awp_seq ?_
  refine awp_region ?_
  refine aR 3 ?_
  refine aE ?_
  refine awp_seq ?_
  refine bE hF fun vr2 h1 hF => ?_
  refine awp_region ?_
  refine aR 4 ?_
  refine aC (fleetref2_StampOrder_ok h1) [] [] [] ?_
  refine aR 1 ?_
  refine aE ?_
  refine awp_ret ?_
  exact oF hF [] []

/-! ### slices.insertionSortCmpFunc[beaconfleet/api.Cell] -/
def slices_insertionSortCmpFunc_api_Cell_o0_f3_fleetref2_MergeOf_1_x3_k : Bool → AEx
  | _ => .normal

def slices_insertionSortCmpFunc_api_Cell_o0_f3_fleetref2_MergeOf_1_x3_S (qa : Int) (qb : Int) (vi : Int) (vl3 : List api_Cell) (vj1 : Int) : Bool → St
  | vx4 => Mem.st ⟨[(0, ⟨49, 8, List.map api_Cell.enc vl3⟩)], []⟩ (tl [(0, .v (.one (.own 0 none))), (1, .v (.one (.d (.int .i64 qa)))), (2, .v (.one (.d (.int .i64 qb)))), (3, .v (.one (.fn 96 []))), (8, .v (.one (.d (.int .i64 vi)))), (9, .v (.one (.d (.int .i64 vj1)))), (34, .v (.one (.d (.bool vx4))))]) 1

def slices_insertionSortCmpFunc_api_Cell_o0_f3_fleetref2_MergeOf_1_x3_I (qa : Int) (qb : Int) (vi : Int) (vl3 : List api_Cell) (vj1 : Int) : St := Mem.st ⟨[(0, ⟨49, 8, List.map api_Cell.enc vl3⟩)], []⟩ (tl [(0, .v (.one (.own 0 none))), (1, .v (.one (.d (.int .i64 qa)))), (2, .v (.one (.d (.int .i64 qb)))), (3, .v (.one (.fn 96 []))), (8, .v (.one (.d (.int .i64 vi)))), (9, .v (.one (.d (.int .i64 vj1))))]) 1

theorem slices_insertionSortCmpFunc_api_Cell_o0_f3_fleetref2_MergeOf_1_x3_ok (qa : Int) (qb : Int) (vi : Int) (vl3 : List api_Cell) (vj1 : Int) {r} (hF : slices_insertionSortCmpFunc_api_Cell_o0_f3_fleetref2_MergeOf_1_x3 qa vl3 vj1 = some r) : Awp prog 1 53 (cL (cL (cL (cL (cR (cL (cL (cR (cL (cL (cR (cB f140)))))))))))) (Out 1 slices_insertionSortCmpFunc_api_Cell_o0_f3_fleetref2_MergeOf_1_x3_k (slices_insertionSortCmpFunc_api_Cell_o0_f3_fleetref2_MergeOf_1_x3_S qa qb vi vl3 vj1) r) (slices_insertionSortCmpFunc_api_Cell_o0_f3_fleetref2_MergeOf_1_x3_I qa qb vi vl3 vj1) := by
  unfold slices_insertionSortCmpFunc_api_Cell_o0_f3_fleetref2_MergeOf_1_x3 at hF
  refine cE hF (fun h2 hF => ?_) fun h2 hF => ?_
  · refine bE hF fun vy15 h3 hF => ?_
    refine bE hF fun vy16 h4 hF => ?_
    refine bE hF fun vr3 h5 hF => ?_
    refine aD ?_
    refine dR 2 ?_
    refine dB h2 ?_
    refine dR 4 ?_
    refine dX (x_idxO api_Cell.enc 0 h3) ?_
    refine dX (x_ldE api_Cell.enc h3) ?_
    refine dR 3 ?_
    refine dX (x_idxO api_Cell.enc 0 h4) ?_
    refine dX (x_ldE api_Cell.enc h4) ?_
    refine dC (fleetref2_MergeOf_1_ok h5) [] [] [] ?_
    refine dR 2 ?_
    refine dE ?_
    exact oO hF [] [] rfl
  · refine aD ?_
    refine dR 2 ?_
    refine dB h2 ?_
    refine dR 14 ?_
    refine dE ?_
    exact oO hF [] [] rfl

def slices_insertionSortCmpFunc_api_Cell_o0_f3_fleetref2_MergeOf_1_x2_k : (List api_Cell) → AEx
  | _ => .exit 2

def slices_insertionSortCmpFunc_api_Cell_o0_f3_fleetref2_MergeOf_1_x2_S (qa : Int) (qb : Int) (vi : Int) : (List api_Cell) → St
  | vl4 => Mem.st ⟨[(0, ⟨49, 8, List.map api_Cell.enc vl4⟩)], []⟩ (tl [(0, .v (.one (.own 0 none))), (1, .v (.one (.d (.int .i64 qa)))), (2, .v (.one (.d (.int .i64 qb)))), (3, .v (.one (.fn 96 []))), (8, .v (.one (.d (.int .i64 vi))))]) 1

def slices_insertionSortCmpFunc_api_Cell_o0_f3_fleetref2_MergeOf_1_x2_H (qa : Int) (qb : Int) (vi : Int) : (List api_Cell) × Int → St
  | (vl3, vj1) => Mem.st ⟨[(0, ⟨49, 8, List.map api_Cell.enc vl3⟩)], []⟩ (tl [(0, .v (.one (.own 0 none))), (1, .v (.one (.d (.int .i64 qa)))), (2, .v (.one (.d (.int .i64 qb)))), (3, .v (.one (.fn 96 []))), (8, .v (.one (.d (.int .i64 vi)))), (9, .v (.one (.d (.int .i64 vj1))))]) 1

theorem slices_insertionSortCmpFunc_api_Cell_o0_f3_fleetref2_MergeOf_1_x2_ok (qa : Int) (qb : Int) (vi : Int) (s : (List api_Cell) × Int) (r : ((List api_Cell) × Int) ⊕ ((List api_Cell))) (hF : slices_insertionSortCmpFunc_api_Cell_o0_f3_fleetref2_MergeOf_1_x2 qa s = some r) : Awp prog 1 53 (cL (cL (cR (cL (cL (cR (cL (cL (cR (cB f140)))))))))) (Out 1 (kk slices_insertionSortCmpFunc_api_Cell_o0_f3_fleetref2_MergeOf_1_x2_k) (SS (slices_insertionSortCmpFunc_api_Cell_o0_f3_fleetref2_MergeOf_1_x2_H qa qb vi) (slices_insertionSortCmpFunc_api_Cell_o0_f3_fleetref2_MergeOf_1_x2_S qa qb vi)) r) (slices_insertionSortCmpFunc_api_Cell_o0_f3_fleetref2_MergeOf_1_x2_H qa qb vi s) := by
  obtain ⟨vl3, vj1⟩ := s
  unfold slices_insertionSortCmpFunc_api_Cell_o0_f3_fleetref2_MergeOf_1_x2 at hF
  refine awp_seq ?_
  refine awp_seq ?_
  refine awp_to (st' := slices_insertionSortCmpFunc_api_Cell_o0_f3_fleetref2_MergeOf_1_x3_I qa qb vi vl3 vj1) (oT [] []) ?_
  refine bE hF fun vx4_1 h6 hF => ?_
  refine awp_sub (slices_insertionSortCmpFunc_api_Cell_o0_f3_fleetref2_MergeOf_1_x3_ok qa qb vi vl3 vj1 h6) ?_
  refine cE hF (fun h7 hF => ?_) fun h7 hF => ?_
  · refine awp_true (by kernel_rfl) h7 ?_
    refine awp_skip ?_
    refine awp_seq ?_
    refine awp_block ?_
    refine bE hF fun vy17 h8 hF => ?_
    refine bE hF fun vy18 h9 hF => ?_
    refine bE hF fun vy19 h10 hF => ?_
    refine aDw [0] ?_
    refine dR 8 ?_
    refine dI api_Cell.enc 0 h8 rfl ?_
    refine dX (x_ldE api_Cell.enc h8) ?_
    refine dR 2 ?_
    refine dI api_Cell.enc 0 h9 rfl ?_
    refine dX (x_ldE api_Cell.enc h9) ?_
    refine dI api_Cell.enc 0 h9 rfl ?_
    refine dW api_Cell.enc (api_Cell.mk (api_Prop.mk vy17.Prop_.Name (api_Value.mk vy17.Prop_.Value.Kind vy17.Prop_.Value.Flag vy17.Prop_.Value.Number vy17.Prop_.Value.Words)) (api_Stamp.mk vy17.Stamp.At vy17.Stamp.By vy17.Stamp.No)) h9 rfl ?_
    refine dI api_Cell.enc 0 h10 rfl ?_
    refine dW api_Cell.enc (api_Cell.mk (api_Prop.mk vy18.Prop_.Name (api_Value.mk vy18.Prop_.Value.Kind vy18.Prop_.Value.Flag vy18.Prop_.Value.Number vy18.Prop_.Value.Words)) (api_Stamp.mk vy18.Stamp.At vy18.Stamp.By vy18.Stamp.No)) h10 rfl ?_
    refine dE ?_
    refine awp_region ?_
    refine aR 3 ?_
    refine aE ?_
    exact oO hF [] [] rfl
  · refine awp_false (by kernel_rfl) h7 ?_
    refine awp_exit ?_
    exact oO hF [] [] rfl

def slices_insertionSortCmpFunc_api_Cell_o0_f3_fleetref2_MergeOf_1_x1_k : (List api_Cell) → AEx
  | _ => .exit 0

def slices_insertionSortCmpFunc_api_Cell_o0_f3_fleetref2_MergeOf_1_x1_S (qa : Int) (qb : Int) : (List api_Cell) → St
  | vl5 => Mem.st ⟨[(0, ⟨49, 8, List.map api_Cell.enc vl5⟩)], []⟩ (tl []) 1

def slices_insertionSortCmpFunc_api_Cell_o0_f3_fleetref2_MergeOf_1_x1_H (qa : Int) (qb : Int) : (List api_Cell) × Int → St
  | (vl, vi) => Mem.st ⟨[(0, ⟨49, 8, List.map api_Cell.enc vl⟩)], []⟩ (tl [(0, .v (.one (.own 0 none))), (1, .v (.one (.d (.int .i64 qa)))), (2, .v (.one (.d (.int .i64 qb)))), (3, .v (.one (.fn 96 []))), (8, .v (.one (.d (.int .i64 vi))))]) 1

theorem slices_insertionSortCmpFunc_api_Cell_o0_f3_fleetref2_MergeOf_1_x1_ok (qa : Int) (qb : Int) (s : (List api_Cell) × Int) (r : ((List api_Cell) × Int) ⊕ ((List api_Cell))) (hF : slices_insertionSortCmpFunc_api_Cell_o0_f3_fleetref2_MergeOf_1_x1 qa qb s = some r) : Awp prog 1 53 (cL (cL (cR (cB f140)))) (Out 1 (kk slices_insertionSortCmpFunc_api_Cell_o0_f3_fleetref2_MergeOf_1_x1_k) (SS (slices_insertionSortCmpFunc_api_Cell_o0_f3_fleetref2_MergeOf_1_x1_H qa qb) (slices_insertionSortCmpFunc_api_Cell_o0_f3_fleetref2_MergeOf_1_x1_S qa qb)) r) (slices_insertionSortCmpFunc_api_Cell_o0_f3_fleetref2_MergeOf_1_x1_H qa qb s) := by
  obtain ⟨vl, vi⟩ := s
  unfold slices_insertionSortCmpFunc_api_Cell_o0_f3_fleetref2_MergeOf_1_x1 at hF
  refine awp_seq ?_
  refine awp_seq ?_
  refine awp_region ?_
  refine aR 3 ?_
  refine aE ?_
  refine cE hF (fun h1 hF => ?_) fun h1 hF => ?_
  · refine awp_true (by kernel_rfl) h1 ?_
    refine awp_skip ?_
    refine awp_seq ?_
    refine awp_block ?_
    refine awp_seq ?_
    refine awp_region ?_
    refine aR 2 ?_
    refine aE ?_
    refine awp_block ?_
    refine awp_to (st' := slices_insertionSortCmpFunc_api_Cell_o0_f3_fleetref2_MergeOf_1_x2_H qa qb vi (vl, vi)) (oT [] []) ?_
    refine bE hF fun vl4_1 h11 hF => ?_
    refine awp_sub (awp_loop' (slices_insertionSortCmpFunc_api_Cell_o0_f3_fleetref2_MergeOf_1_x2_H qa qb vi) slices_insertionSortCmpFunc_api_Cell_o0_f3_fleetref2_MergeOf_1_x2_k (slices_insertionSortCmpFunc_api_Cell_o0_f3_fleetref2_MergeOf_1_x2_S qa qb vi) (by intro x; exact fun h => nomatch h) h11 (slices_insertionSortCmpFunc_api_Cell_o0_f3_fleetref2_MergeOf_1_x2_ok qa qb vi)) ?_
    refine awp_region ?_
    refine aR 3 ?_
    refine aE ?_
    exact oO hF [] [] rfl
  · refine awp_false (by kernel_rfl) h1 ?_
    refine awp_exit ?_
    exact oO hF [] [] rfl

def slices_insertionSortCmpFunc_api_Cell_o0_f3_fleetref2_MergeOf_1_R (qdata : List api_Cell) (qa : Int) (qb : Int) (r : (List api_Cell)) : TV × Mem := (.tup [], ⟨[(0, ⟨49, 8, List.map api_Cell.enc r⟩)], []⟩)

theorem slices_insertionSortCmpFunc_api_Cell_o0_f3_fleetref2_MergeOf_1_ok {qdata : List api_Cell} {qa : Int} {qb : Int} {r} (hF : slices_insertionSortCmpFunc_api_Cell_o0_f3_fleetref2_MergeOf_1 qdata qa qb = some r) : Holds prog 140 [.v (.one (.own 0 none)), .v (.one (.d (.int .i64 qa))), .v (.one (.d (.int .i64 qb))), .v (.one (.fn 96 []))] ⟨[(0, ⟨49, 8, List.map api_Cell.enc qdata⟩)], []⟩ (Is (slices_insertionSortCmpFunc_api_Cell_o0_f3_fleetref2_MergeOf_1_R qdata qa qb r)) := by
  unfold slices_insertionSortCmpFunc_api_Cell_o0_f3_fleetref2_MergeOf_1 at hF
  refine holds_of_awp hΓ (fn := f140) (c := cB f140) (A := 1) (nx := 1) (by kernel_rfl) (by kernel_rfl) (by kernel_rfl) (by kernel_rfl) (by kernel_rfl) (by kernel_rfl) (lowc_of (by kernel_rfl)) ?_
  show Awp prog 1 53 (cB f140) _ _
  refine awp_seq ?_
  refine awp_region ?_
  refine aR 3 ?_
  refine aE ?_
  refine awp_block ?_
  refine awp_to (st' := slices_insertionSortCmpFunc_api_Cell_o0_f3_fleetref2_MergeOf_1_x1_H qa qb (qdata, IntKind.wrap .i64 (qa + 1))) (oT [] []) ?_
  refine bE hF fun vl5_1 h12 hF => ?_
  refine awp_sub (awp_loop' (slices_insertionSortCmpFunc_api_Cell_o0_f3_fleetref2_MergeOf_1_x1_H qa qb) slices_insertionSortCmpFunc_api_Cell_o0_f3_fleetref2_MergeOf_1_x1_k (slices_insertionSortCmpFunc_api_Cell_o0_f3_fleetref2_MergeOf_1_x1_S qa qb) (by intro x; exact fun h => nomatch h) h12 (slices_insertionSortCmpFunc_api_Cell_o0_f3_fleetref2_MergeOf_1_x1_ok qa qb)) ?_
  exact oF hF [] []

/-! ### slices.stableCmpFunc[beaconfleet/api.Cell] -/
def slices_stableCmpFunc_api_Cell_o0_f2_fleetref2_MergeOf_1_x1_k : ((List api_Cell) × Int) → AEx
  | _ => .exit 0

def slices_stableCmpFunc_api_Cell_o0_f2_fleetref2_MergeOf_1_x1_S (qn : Int) : ((List api_Cell) × Int) → St
  | (vl1, va1) => Mem.st ⟨[(0, ⟨49, 8, List.map api_Cell.enc vl1⟩)], []⟩ (tl [(0, .v (.one (.own 0 none))), (1, .v (.one (.d (.int .i64 qn)))), (2, .v (.one (.fn 96 []))), (6, .v (.one (.d (.int .i64 20)))), (7, .v (.one (.d (.int .i64 va1))))]) 1

def slices_stableCmpFunc_api_Cell_o0_f2_fleetref2_MergeOf_1_x1_H (qn : Int) : (List api_Cell) × Int × Int → St
  | (vl, va, vb) => Mem.st ⟨[(0, ⟨49, 8, List.map api_Cell.enc vl⟩)], []⟩ (tl [(0, .v (.one (.own 0 none))), (1, .v (.one (.d (.int .i64 qn)))), (2, .v (.one (.fn 96 []))), (6, .v (.one (.d (.int .i64 20)))), (7, .v (.one (.d (.int .i64 va)))), (8, .v (.one (.d (.int .i64 vb))))]) 1

theorem slices_stableCmpFunc_api_Cell_o0_f2_fleetref2_MergeOf_1_x1_ok (qn : Int) (s : (List api_Cell) × Int × Int) (r : ((List api_Cell) × Int × Int) ⊕ (((List api_Cell) × Int))) (hF : slices_stableCmpFunc_api_Cell_o0_f2_fleetref2_MergeOf_1_x1 qn s = some r) : Awp prog 1 63 (cL (cL (cL (cR (cR (cB f103)))))) (Out 1 (kk slices_stableCmpFunc_api_Cell_o0_f2_fleetref2_MergeOf_1_x1_k) (SS (slices_stableCmpFunc_api_Cell_o0_f2_fleetref2_MergeOf_1_x1_H qn) (slices_stableCmpFunc_api_Cell_o0_f2_fleetref2_MergeOf_1_x1_S qn)) r) (slices_stableCmpFunc_api_Cell_o0_f2_fleetref2_MergeOf_1_x1_H qn s) := by
  obtain ⟨vl, va, vb⟩ := s
  unfold slices_stableCmpFunc_api_Cell_o0_f2_fleetref2_MergeOf_1_x1 at hF
  refine awp_seq ?_
  refine awp_seq ?_
  refine awp_region ?_
  refine aR 3 ?_
  refine aE ?_
  refine cE hF (fun h1 hF => ?_) fun h1 hF => ?_
  · refine awp_true (by kernel_rfl) h1 ?_
    refine awp_skip ?_
    refine awp_block ?_
    refine awp_seq ?_
    refine bE hF fun vl6_1 h2 hF => ?_
    refine gE hF fun h3 hF => ?_
    refine awp_region ?_
    refine aR 4 ?_
    refine aCp (slices_insertionSortCmpFunc_api_Cell_o0_f3_fleetref2_MergeOf_1_ok h2) ⟨⟨rfl, rfl, pin1 h3⟩, trivial⟩ [] [] [] ?_
    refine aE ?_
    refine awp_seq ?_
    refine awp_region ?_
    refine aR 2 ?_
    refine aE ?_
    refine awp_region ?_
    refine aR 4 ?_
    refine aE ?_
    exact oO hF [] [] rfl
  · refine awp_false (by kernel_rfl) h1 ?_
    refine awp_exit ?_
    exact oO hF [] [] rfl

def slices_stableCmpFunc_api_Cell_o0_f2_fleetref2_MergeOf_1_x3_k : Unit → AEx
  | _ => .exit 4

def slices_stableCmpFunc_api_Cell_o0_f2_fleetref2_MergeOf_1_x3_S (qn : Int) (vl6_2 : List api_Cell) (vblockSize : Int) : Unit → St
  | _ => Mem.st ⟨[(0, ⟨49, 8, List.map api_Cell.enc vl6_2⟩)], []⟩ (tl [(0, .v (.one (.own 0 none))), (1, .v (.one (.d (.int .i64 qn)))), (2, .v (.one (.fn 96 []))), (6, .v (.one (.d (.int .i64 vblockSize)))), (7, .v (.one (.d (.int .i64 0))))]) 1

def slices_stableCmpFunc_api_Cell_o0_f2_fleetref2_MergeOf_1_x3_H (qn : Int) (vl6_2 : List api_Cell) (vblockSize : Int) : Unit → St
  | _ => Mem.st ⟨[(0, ⟨49, 8, List.map api_Cell.enc vl6_2⟩)], []⟩ (tl [(0, .v (.one (.own 0 none))), (1, .v (.one (.d (.int .i64 qn)))), (2, .v (.one (.fn 96 []))), (6, .v (.one (.d (.int .i64 vblockSize)))), (7, .v (.one (.d (.int .i64 0)))), (8, .v (.one (.d (.int .i64 (IntKind.wrap .i64 ((2 : Int) * vblockSize))))))]) 1

theorem slices_stableCmpFunc_api_Cell_o0_f2_fleetref2_MergeOf_1_x3_ok (qn : Int) (vl6_2 : List api_Cell) (vblockSize : Int) (s : Unit) (r : (Unit) ⊕ (Unit)) (hF : slices_stableCmpFunc_api_Cell_o0_f2_fleetref2_MergeOf_1_x3 qn vblockSize s = some r) : Awp prog 1 63 (cL (cL (cL (cR (cL (cR (cL (cL (cR (cR (cR (cR (cB f103))))))))))))) (Out 1 (kk slices_stableCmpFunc_api_Cell_o0_f2_fleetref2_MergeOf_1_x3_k) (SS (slices_stableCmpFunc_api_Cell_o0_f2_fleetref2_MergeOf_1_x3_H qn vl6_2 vblockSize) (slices_stableCmpFunc_api_Cell_o0_f2_fleetref2_MergeOf_1_x3_S qn vl6_2 vblockSize)) r) (slices_stableCmpFunc_api_Cell_o0_f2_fleetref2_MergeOf_1_x3_H qn vl6_2 vblockSize s) := by
  unfold slices_stableCmpFunc_api_Cell_o0_f2_fleetref2_MergeOf_1_x3 at hF
  refine awp_seq ?_
  refine awp_seq ?_
  refine awp_region ?_
  refine aR 3 ?_
  refine aE ?_
  refine cE hF (fun h8 hF => ?_) fun h8 hF => ?_
  · refine awp_true (by kernel_rfl) h8 ?_
    refine awp_skip ?_
    refine awp_block ?_
    refine awp_seq ?_
    exact nE hF
  · refine awp_false (by kernel_rfl) h8 ?_
    refine awp_exit ?_
    exact oO hF [] [] rfl

def slices_stableCmpFunc_api_Cell_o0_f2_fleetref2_MergeOf_1_x2_k : Unit → AEx
  | _ => .exit 2

def slices_stableCmpFunc_api_Cell_o0_f2_fleetref2_MergeOf_1_x2_S (qn : Int) (vl6_2 : List api_Cell) : Unit → St
  | _ => Mem.st ⟨[(0, ⟨49, 8, List.map api_Cell.enc vl6_2⟩)], []⟩ (tl []) 1

def slices_stableCmpFunc_api_Cell_o0_f2_fleetref2_MergeOf_1_x2_H (qn : Int) (vl6_2 : List api_Cell) : Int → St
  | vblockSize => Mem.st ⟨[(0, ⟨49, 8, List.map api_Cell.enc vl6_2⟩)], []⟩ (tl [(0, .v (.one (.own 0 none))), (1, .v (.one (.d (.int .i64 qn)))), (2, .v (.one (.fn 96 []))), (6, .v (.one (.d (.int .i64 vblockSize))))]) 1

theorem slices_stableCmpFunc_api_Cell_o0_f2_fleetref2_MergeOf_1_x2_ok (qn : Int) (vl6_2 : List api_Cell) (vblockSize : Int) (r : (Int) ⊕ (Unit)) (hF : slices_stableCmpFunc_api_Cell_o0_f2_fleetref2_MergeOf_1_x2 qn vblockSize = some r) : Awp prog 1 63 (cL (cL (cR (cR (cR (cR (cB f103))))))) (Out 1 (kk slices_stableCmpFunc_api_Cell_o0_f2_fleetref2_MergeOf_1_x2_k) (SS (slices_stableCmpFunc_api_Cell_o0_f2_fleetref2_MergeOf_1_x2_H qn vl6_2) (slices_stableCmpFunc_api_Cell_o0_f2_fleetref2_MergeOf_1_x2_S qn vl6_2)) r) (slices_stableCmpFunc_api_Cell_o0_f2_fleetref2_MergeOf_1_x2_H qn vl6_2 vblockSize) := by
  unfold slices_stableCmpFunc_api_Cell_o0_f2_fleetref2_MergeOf_1_x2 at hF
  refine awp_seq ?_
  refine awp_seq ?_
  refine awp_region ?_
  refine aR 3 ?_
  refine aE ?_
  refine cE hF (fun h7 hF => ?_) fun h7 hF => ?_
  · refine awp_true (by kernel_rfl) h7 ?_
    refine awp_skip ?_
    refine awp_block ?_
    refine awp_seq ?_
    refine awp_region ?_
    refine aR 4 ?_
    refine aE ?_
    refine awp_seq ?_
    refine awp_block ?_
    refine awp_to (st' := slices_stableCmpFunc_api_Cell_o0_f2_fleetref2_MergeOf_1_x3_H qn vl6_2 vblockSize ()) (oT [] []) ?_
    refine bE hF fun _ h10 hF => ?_
    refine awp_sub (awp_loop' (slices_stableCmpFunc_api_Cell_o0_f2_fleetref2_MergeOf_1_x3_H qn vl6_2 vblockSize) slices_stableCmpFunc_api_Cell_o0_f2_fleetref2_MergeOf_1_x3_k (slices_stableCmpFunc_api_Cell_o0_f2_fleetref2_MergeOf_1_x3_S qn vl6_2 vblockSize) (by intro x; exact fun h => nomatch h) h10 (slices_stableCmpFunc_api_Cell_o0_f2_fleetref2_MergeOf_1_x3_ok qn vl6_2 vblockSize)) ?_
    refine awp_seq ?_
    refine awp_seq ?_
    refine awp_region ?_
    refine aR 4 ?_
    refine aE ?_
    refine awp_seq ?_
    refine awp_region ?_
    refine aR 3 ?_
    refine aE ?_
    refine cE hF (fun h11 hF => ?_) fun h11 hF => ?_
    · refine awp_true (by kernel_rfl) h11 ?_
      exact nE hF
    · refine awp_false (by kernel_rfl) h11 ?_
      refine awp_skip ?_
      refine awp_region ?_
      refine aR 3 ?_
      refine aE ?_
      exact oO hF [] [] rfl
  · refine awp_false (by kernel_rfl) h7 ?_
    refine awp_exit ?_
    exact oO hF [] [] rfl

def slices_stableCmpFunc_api_Cell_o0_f2_fleetref2_MergeOf_1_R (qdata : List api_Cell) (qn : Int) (r : (List api_Cell)) : TV × Mem := (.tup [], ⟨[(0, ⟨49, 8, List.map api_Cell.enc r⟩)], []⟩)

theorem slices_stableCmpFunc_api_Cell_o0_f2_fleetref2_MergeOf_1_ok {qdata : List api_Cell} {qn : Int} {r} (hF : slices_stableCmpFunc_api_Cell_o0_f2_fleetref2_MergeOf_1 qdata qn = some r) : Holds prog 103 [.v (.one (.own 0 none)), .v (.one (.d (.int .i64 qn))), .v (.one (.fn 96 []))] ⟨[(0, ⟨49, 8, List.map api_Cell.enc qdata⟩)], []⟩ (Is (slices_stableCmpFunc_api_Cell_o0_f2_fleetref2_MergeOf_1_R qdata qn r)) := by
  unfold slices_stableCmpFunc_api_Cell_o0_f2_fleetref2_MergeOf_1 at hF
  refine holds_of_awp hΓ (fn := f103) (c := cB f103) (A := 1) (nx := 1) (by kernel_rfl) (by kernel_rfl) (by kernel_rfl) (by kernel_rfl) (by kernel_rfl) (by kernel_rfl) (lowc_of (by kernel_rfl)) ?_
  show Awp prog 1 63 (cB f103) _ _
  refine awp_seq ?_
  refine awp_region ?_
  refine aR 1 ?_
  refine aE ?_
  refine awp_seq ?_
  refine awp_region ?_
  refine aR 3 ?_
  refine aE ?_
  refine awp_seq ?_
  refine awp_block ?_
  refine awp_to (st' := slices_stableCmpFunc_api_Cell_o0_f2_fleetref2_MergeOf_1_x1_H qn (qdata, 0, 20)) (oT [] []) ?_
  refine bE hF fun x h4 hF => ?_
  obtain ⟨vl1_1, va1_1⟩ := x
  refine awp_sub (awp_loop' (slices_stableCmpFunc_api_Cell_o0_f2_fleetref2_MergeOf_1_x1_H qn) slices_stableCmpFunc_api_Cell_o0_f2_fleetref2_MergeOf_1_x1_k (slices_stableCmpFunc_api_Cell_o0_f2_fleetref2_MergeOf_1_x1_S qn) (by intro x; exact fun h => nomatch h) h4 (slices_stableCmpFunc_api_Cell_o0_f2_fleetref2_MergeOf_1_x1_ok qn)) ?_
  refine awp_seq ?_
  refine bE hF fun vl6_2 h5 hF => ?_
  refine gE hF fun h6 hF => ?_
  refine awp_region ?_
  refine aR 4 ?_
  refine aCp (slices_insertionSortCmpFunc_api_Cell_o0_f3_fleetref2_MergeOf_1_ok h5) ⟨⟨rfl, rfl, pin1 h6⟩, trivial⟩ [] [] [] ?_
  refine aE ?_
  refine awp_block ?_
  refine awp_to (st' := slices_stableCmpFunc_api_Cell_o0_f2_fleetref2_MergeOf_1_x2_H qn vl6_2 20) (oT [] []) ?_
  refine bE hF fun _ h13 hF => ?_
  refine awp_sub (awp_loop' (slices_stableCmpFunc_api_Cell_o0_f2_fleetref2_MergeOf_1_x2_H qn vl6_2) slices_stableCmpFunc_api_Cell_o0_f2_fleetref2_MergeOf_1_x2_k (slices_stableCmpFunc_api_Cell_o0_f2_fleetref2_MergeOf_1_x2_S qn vl6_2) (by intro x; exact fun h => nomatch h) h13 (slices_stableCmpFunc_api_Cell_o0_f2_fleetref2_MergeOf_1_x2_ok qn vl6_2)) ?_
  exact oF hF [] []

/-! ### slices.SortStableFunc[[]beaconfleet/api.Cell,beaconfleet/api.Cell] -/
def slices_SortStableFunc_api_Cell_api_Cell_o0_f1_fleetref2_MergeOf_1_R (qx : List api_Cell) (r : (List api_Cell)) : TV × Mem := (.tup [], ⟨[(0, ⟨49, 8, List.map api_Cell.enc r⟩)], []⟩)

theorem slices_SortStableFunc_api_Cell_api_Cell_o0_f1_fleetref2_MergeOf_1_ok {qx : List api_Cell} {r} (hF : slices_SortStableFunc_api_Cell_api_Cell_o0_f1_fleetref2_MergeOf_1 qx = some r) : Holds prog 48 [.v (.one (.own 0 none)), .v (.one (.fn 96 []))] ⟨[(0, ⟨49, 8, List.map api_Cell.enc qx⟩)], []⟩ (Is (slices_SortStableFunc_api_Cell_api_Cell_o0_f1_fleetref2_MergeOf_1_R qx r)) := by
  unfold slices_SortStableFunc_api_Cell_api_Cell_o0_f1_fleetref2_MergeOf_1 at hF
  refine holds_of_awp hΓ (fn := f48) (c := cB f48) (A := 1) (nx := 1) (by kernel_rfl) (by kernel_rfl) (by kernel_rfl) (by kernel_rfl) (by kernel_rfl) (by kernel_rfl) (lowc_of (by kernel_rfl)) ?_
  show Awp prog 1 9 (cB f48) _ _
  refine bE hF fun vl2 h1 hF => ?_
  refine gE hF fun h2 hF => ?_
  refine awp_region ?_
  refine aR 2 ?_
  refine aL api_Cell.enc qx ?_
  refine aR 1 ?_
  refine aCp (slices_stableCmpFunc_api_Cell_o0_f2_fleetref2_MergeOf_1_ok h1) ⟨⟨rfl, rfl, pin1 h2⟩, trivial⟩ [] [] [] ?_
  refine aE ?_
  exact oF hF [] []

/-! ### beaconfleet/fleetref2.MergeOf$2 -/
def fleetref2_MergeOf_2_R (qx : api_Cell) (qy : api_Cell) (r : Unit) : TV × Mem := (.v (.one (.d (.int .i64 (Lib.compareBytes qx.Prop_.Name qy.Prop_.Name)))), ⟨[], []⟩)

theorem fleetref2_MergeOf_2_ok {qx : api_Cell} {qy : api_Cell} {r} (hF : fleetref2_MergeOf_2 qx qy = some r) : Holds prog 99 [.v (.agg [.d (.str qx.Prop_.Name), .d (.int .i64 qx.Prop_.Value.Kind), .d (.bool qx.Prop_.Value.Flag), .d (.int .i64 qx.Prop_.Value.Number), .d (.str qx.Prop_.Value.Words), .d (.int .i64 qx.Stamp.At), .d (.str qx.Stamp.By), .d (.int .i64 qx.Stamp.No)]), .v (.agg [.d (.str qy.Prop_.Name), .d (.int .i64 qy.Prop_.Value.Kind), .d (.bool qy.Prop_.Value.Flag), .d (.int .i64 qy.Prop_.Value.Number), .d (.str qy.Prop_.Value.Words), .d (.int .i64 qy.Stamp.At), .d (.str qy.Stamp.By), .d (.int .i64 qy.Stamp.No)])] ⟨[], []⟩ (Is (fleetref2_MergeOf_2_R qx qy r)) := by
  unfold fleetref2_MergeOf_2 at hF
  refine holds_of_awp hΓ (fn := f99) (c := cB f99) (A := 0) (nx := 0) (by kernel_rfl) (by kernel_rfl) (by kernel_rfl) (by kernel_rfl) (by kernel_rfl) (by kernel_rfl) (lowc_of (by kernel_rfl)) ?_
  show Awp prog 0 12 (cB f99) _ _
  refine awp_seq ?_
  refine awp_region ?_
  refine aR 3 ?_
  refine aE ?_
  refine awp_seq ?_
  refine bE hF fun _ h1 hF => ?_
  refine awp_region ?_
  refine aR 6 ?_
  refine aC (strings_Compare_ok h1) [] [] [] ?_
  refine aR 1 ?_
  refine aE ?_
  refine awp_ret ?_
  exact oF hF [] []

/-! ### slices.insertionSortCmpFunc[beaconfleet/api.Cell] -/
def slices_insertionSortCmpFunc_api_Cell_o0_f3_fleetref2_MergeOf_2_x3_k : Bool → AEx
  | _ => .normal

def slices_insertionSortCmpFunc_api_Cell_o0_f3_fleetref2_MergeOf_2_x3_S (qa : Int) (qb : Int) (vi : Int) (vl3 : List api_Cell) (vj1 : Int) : Bool → St
  | vx4 => Mem.st ⟨[(0, ⟨49, 8, List.map api_Cell.enc vl3⟩)], []⟩ (tl [(0, .v (.one (.own 0 none))), (1, .v (.one (.d (.int .i64 qa)))), (2, .v (.one (.d (.int .i64 qb)))), (3, .v (.one (.fn 99 []))), (8, .v (.one (.d (.int .i64 vi)))), (9, .v (.one (.d (.int .i64 vj1)))), (34, .v (.one (.d (.bool vx4))))]) 1

def slices_insertionSortCmpFunc_api_Cell_o0_f3_fleetref2_MergeOf_2_x3_I (qa : Int) (qb : Int) (vi : Int) (vl3 : List api_Cell) (vj1 : Int) : St := Mem.st ⟨[(0, ⟨49, 8, List.map api_Cell.enc vl3⟩)], []⟩ (tl [(0, .v (.one (.own 0 none))), (1, .v (.one (.d (.int .i64 qa)))), (2, .v (.one (.d (.int .i64 qb)))), (3, .v (.one (.fn 99 []))), (8, .v (.one (.d (.int .i64 vi)))), (9, .v (.one (.d (.int .i64 vj1))))]) 1

theorem slices_insertionSortCmpFunc_api_Cell_o0_f3_fleetref2_MergeOf_2_x3_ok (qa : Int) (qb : Int) (vi : Int) (vl3 : List api_Cell) (vj1 : Int) {r} (hF : slices_insertionSortCmpFunc_api_Cell_o0_f3_fleetref2_MergeOf_2_x3 qa vl3 vj1 = some r) : Awp prog 1 53 (cL (cL (cL (cL (cR (cL (cL (cR (cL (cL (cR (cB f140)))))))))))) (Out 1 slices_insertionSortCmpFunc_api_Cell_o0_f3_fleetref2_MergeOf_2_x3_k (slices_insertionSortCmpFunc_api_Cell_o0_f3_fleetref2_MergeOf_2_x3_S qa qb vi vl3 vj1) r) (slices_insertionSortCmpFunc_api_Cell_o0_f3_fleetref2_MergeOf_2_x3_I qa qb vi vl3 vj1) := by
  unfold slices_insertionSortCmpFunc_api_Cell_o0_f3_fleetref2_MergeOf_2_x3 at hF
  refine cE hF (fun h2 hF => ?_) fun h2 hF => ?_
  · refine bE hF fun vy15 h3 hF => ?_
    refine bE hF fun vy16 h4 hF => ?_
    refine bE hF fun _ h5 hF => ?_
    refine aD ?_
    refine dR 2 ?_
    refine dB h2 ?_
    refine dR 4 ?_
    refine dX (x_idxO api_Cell.enc 0 h3) ?_
    refine dX (x_ldE api_Cell.enc h3) ?_
    refine dR 3 ?_
    refine dX (x_idxO api_Cell.enc 0 h4) ?_
    refine dX (x_ldE api_Cell.enc h4) ?_
    refine dC (fleetref2_MergeOf_2_ok h5) [] [] [] ?_
    refine dR 2 ?_
    refine dE ?_
    exact oO hF [] [] rfl
  · refine aD ?_
    refine dR 2 ?_
    refine dB h2 ?_
    refine dR 14 ?_
    refine dE ?_
    exact oO hF [] [] rfl

def slices_insertionSortCmpFunc_api_Cell_o0_f3_fleetref2_MergeOf_2_x2_k : (List api_Cell) → AEx
  | _ => .exit 2

def slices_insertionSortCmpFunc_api_Cell_o0_f3_fleetref2_MergeOf_2_x2_S (qa : Int) (qb : Int) (vi : Int) : (List api_Cell) → St
  | vl4 => Mem.st ⟨[(0, ⟨49, 8, List.map api_Cell.enc vl4⟩)], []⟩ (tl [(0, .v (.one (.own 0 none))), (1, .v (.one (.d (.int .i64 qa)))), (2, .v (.one (.d (.int .i64 qb)))), (3, .v (.one (.fn 99 []))), (8, .v (.one (.d (.int .i64 vi))))]) 1

def slices_insertionSortCmpFunc_api_Cell_o0_f3_fleetref2_MergeOf_2_x2_H (qa : Int) (qb : Int) (vi : Int) : (List api_Cell) × Int → St
  | (vl3, vj1) => Mem.st ⟨[(0, ⟨49, 8, List.map api_Cell.enc vl3⟩)], []⟩ (tl [(0, .v (.one (.own 0 none))), (1, .v (.one (.d (.int .i64 qa)))), (2, .v (.one (.d (.int .i64 qb)))), (3, .v (.one (.fn 99 []))), (8, .v (.one (.d (.int .i64 vi)))), (9, .v (.one (.d (.int .i64 vj1))))]) 1

theorem slices_insertionSortCmpFunc_api_Cell_o0_f3_fleetref2_MergeOf_2_x2_ok (qa : Int) (qb : Int) (vi : Int) (s : (List api_Cell) × Int) (r : ((List api_Cell) × Int) ⊕ ((List api_Cell))) (hF : slices_insertionSortCmpFunc_api_Cell_o0_f3_fleetref2_MergeOf_2_x2 qa s = some r) : Awp prog 1 53 (cL (cL (cR (cL (cL (cR (cL (cL (cR (cB f140)))))))))) (Out 1 (kk slices_insertionSortCmpFunc_api_Cell_o0_f3_fleetref2_MergeOf_2_x2_k) (SS (slices_insertionSortCmpFunc_api_Cell_o0_f3_fleetref2_MergeOf_2_x2_H qa qb vi) (slices_insertionSortCmpFunc_api_Cell_o0_f3_fleetref2_MergeOf_2_x2_S qa qb vi)) r) (slices_insertionSortCmpFunc_api_Cell_o0_f3_fleetref2_MergeOf_2_x2_H qa qb vi s) := by
  obtain ⟨vl3, vj1⟩ := s
  unfold slices_insertionSortCmpFunc_api_Cell_o0_f3_fleetref2_MergeOf_2_x2 at hF
  refine awp_seq ?_
  refine awp_seq ?_
  refine awp_to (st' := slices_insertionSortCmpFunc_api_Cell_o0_f3_fleetref2_MergeOf_2_x3_I qa qb vi vl3 vj1) (oT [] []) ?_
  refine bE hF fun vx4_1 h6 hF => ?_
  refine awp_sub (slices_insertionSortCmpFunc_api_Cell_o0_f3_fleetref2_MergeOf_2_x3_ok qa qb vi vl3 vj1 h6) ?_
  refine cE hF (fun h7 hF => ?_) fun h7 hF => ?_
  · refine awp_true (by kernel_rfl) h7 ?_
    refine awp_skip ?_
    refine awp_seq ?_
    refine awp_block ?_
    refine bE hF fun vy17 h8 hF => ?_
    refine bE hF fun vy18 h9 hF => ?_
    refine bE hF fun vy19 h10 hF => ?_
    refine aDw [0] ?_
    refine dR 8 ?_
    refine dI api_Cell.enc 0 h8 rfl ?_
    refine dX (x_ldE api_Cell.enc h8) ?_
    refine dR 2 ?_
    refine dI api_Cell.enc 0 h9 rfl ?_
    refine dX (x_ldE api_Cell.enc h9) ?_
    refine dI api_Cell.enc 0 h9 rfl ?_
    refine dW api_Cell.enc (api_Cell.mk (api_Prop.mk vy17.Prop_.Name (api_Value.mk vy17.Prop_.Value.Kind vy17.Prop_.Value.Flag vy17.Prop_.Value.Number vy17.Prop_.Value.Words)) (api_Stamp.mk vy17.Stamp.At vy17.Stamp.By vy17.Stamp.No)) h9 rfl ?_
    refine dI api_Cell.enc 0 h10 rfl ?_
    refine dW api_Cell.enc (api_Cell.mk (api_Prop.mk vy18.Prop_.Name (api_Value.mk vy18.Prop_.Value.Kind vy18.Prop_.Value.Flag vy18.Prop_.Value.Number vy18.Prop_.Value.Words)) (api_Stamp.mk vy18.Stamp.At vy18.Stamp.By vy18.Stamp.No)) h10 rfl ?_
    refine dE ?_
    refine awp_region ?_
    refine aR 3 ?_
    refine aE ?_
    exact oO hF [] [] rfl
  · refine awp_false (by kernel_rfl) h7 ?_
    refine awp_exit ?_
    exact oO hF [] [] rfl

def slices_insertionSortCmpFunc_api_Cell_o0_f3_fleetref2_MergeOf_2_x1_k : (List api_Cell) → AEx
  | _ => .exit 0

def slices_insertionSortCmpFunc_api_Cell_o0_f3_fleetref2_MergeOf_2_x1_S (qa : Int) (qb : Int) : (List api_Cell) → St
  | vl5 => Mem.st ⟨[(0, ⟨49, 8, List.map api_Cell.enc vl5⟩)], []⟩ (tl []) 1

def slices_insertionSortCmpFunc_api_Cell_o0_f3_fleetref2_MergeOf_2_x1_H (qa : Int) (qb : Int) : (List api_Cell) × Int → St
  | (vl, vi) => Mem.st ⟨[(0, ⟨49, 8, List.map api_Cell.enc vl⟩)], []⟩ (tl [(0, .v (.one (.own 0 none))), (1, .v (.one (.d (.int .i64 qa)))), (2, .v (.one (.d (.int .i64 qb)))), (3, .v (.one (.fn 99 []))), (8, .v (.one (.d (.int .i64 vi))))]) 1

theorem slices_insertionSortCmpFunc_api_Cell_o0_f3_fleetref2_MergeOf_2_x1_ok (qa : Int) (qb : Int) (s : (List api_Cell) × Int) (r : ((List api_Cell) × Int) ⊕ ((List api_Cell))) (hF : slices_insertionSortCmpFunc_api_Cell_o0_f3_fleetref2_MergeOf_2_x1 qa qb s = some r) : Awp prog 1 53 (cL (cL (cR (cB f140)))) (Out 1 (kk slices_insertionSortCmpFunc_api_Cell_o0_f3_fleetref2_MergeOf_2_x1_k) (SS (slices_insertionSortCmpFunc_api_Cell_o0_f3_fleetref2_MergeOf_2_x1_H qa qb) (slices_insertionSortCmpFunc_api_Cell_o0_f3_fleetref2_MergeOf_2_x1_S qa qb)) r) (slices_insertionSortCmpFunc_api_Cell_o0_f3_fleetref2_MergeOf_2_x1_H qa qb s) := by
  obtain ⟨vl, vi⟩ := s
  unfold slices_insertionSortCmpFunc_api_Cell_o0_f3_fleetref2_MergeOf_2_x1 at hF
  refine awp_seq ?_
  refine awp_seq ?_
  refine awp_region ?_
  refine aR 3 ?_
  refine aE ?_
  refine cE hF (fun h1 hF => ?_) fun h1 hF => ?_
  · refine awp_true (by kernel_rfl) h1 ?_
    refine awp_skip ?_
    refine awp_seq ?_
    refine awp_block ?_
    refine awp_seq ?_
    refine awp_region ?_
    refine aR 2 ?_
    refine aE ?_
    refine awp_block ?_
    refine awp_to (st' := slices_insertionSortCmpFunc_api_Cell_o0_f3_fleetref2_MergeOf_2_x2_H qa qb vi (vl, vi)) (oT [] []) ?_
    refine bE hF fun vl4_1 h11 hF => ?_
    refine awp_sub (awp_loop' (slices_insertionSortCmpFunc_api_Cell_o0_f3_fleetref2_MergeOf_2_x2_H qa qb vi) slices_insertionSortCmpFunc_api_Cell_o0_f3_fleetref2_MergeOf_2_x2_k (slices_insertionSortCmpFunc_api_Cell_o0_f3_fleetref2_MergeOf_2_x2_S qa qb vi) (by intro x; exact fun h => nomatch h) h11 (slices_insertionSortCmpFunc_api_Cell_o0_f3_fleetref2_MergeOf_2_x2_ok qa qb vi)) ?_
    refine awp_region ?_
    refine aR 3 ?_
    refine aE ?_
    exact oO hF [] [] rfl
  · refine awp_false (by kernel_rfl) h1 ?_
    refine awp_exit ?_
    exact oO hF [] [] rfl

def slices_insertionSortCmpFunc_api_Cell_o0_f3_fleetref2_MergeOf_2_R (qdata : List api_Cell) (qa : Int) (qb : Int) (r : (List api_Cell)) : TV × Mem := (.tup [], ⟨[(0, ⟨49, 8, List.map api_Cell.enc r⟩)], []⟩)

theorem slices_insertionSortCmpFunc_api_Cell_o0_f3_fleetref2_MergeOf_2_ok {qdata : List api_Cell} {qa : Int} {qb : Int} {r} (hF : slices_insertionSortCmpFunc_api_Cell_o0_f3_fleetref2_MergeOf_2 qdata qa qb = some r) : Holds prog 140 [.v (.one (.own 0 none)), .v (.one (.d (.int .i64 qa))), .v (.one (.d (.int .i64 qb))), .v (.one (.fn 99 []))] ⟨[(0, ⟨49, 8, List.map api_Cell.enc qdata⟩)], []⟩ (Is (slices_insertionSortCmpFunc_api_Cell_o0_f3_fleetref2_MergeOf_2_R qdata qa qb r)) := by
  unfold slices_insertionSortCmpFunc_api_Cell_o0_f3_fleetref2_MergeOf_2 at hF
  refine holds_of_awp hΓ (fn := f140) (c := cB f140) (A := 1) (nx := 1) (by kernel_rfl) (by kernel_rfl) (by kernel_rfl) (by kernel_rfl) (by kernel_rfl) (by kernel_rfl) (lowc_of (by kernel_rfl)) ?_
  show Awp prog 1 53 (cB f140) _ _
  refine awp_seq ?_
  refine awp_region ?_
  refine aR 3 ?_
  refine aE ?_
  refine awp_block ?_
  refine awp_to (st' := slices_insertionSortCmpFunc_api_Cell_o0_f3_fleetref2_MergeOf_2_x1_H qa qb (qdata, IntKind.wrap .i64 (qa + 1))) (oT [] []) ?_
  refine bE hF fun vl5_1 h12 hF => ?_
  refine awp_sub (awp_loop' (slices_insertionSortCmpFunc_api_Cell_o0_f3_fleetref2_MergeOf_2_x1_H qa qb) slices_insertionSortCmpFunc_api_Cell_o0_f3_fleetref2_MergeOf_2_x1_k (slices_insertionSortCmpFunc_api_Cell_o0_f3_fleetref2_MergeOf_2_x1_S qa qb) (by intro x; exact fun h => nomatch h) h12 (slices_insertionSortCmpFunc_api_Cell_o0_f3_fleetref2_MergeOf_2_x1_ok qa qb)) ?_
  exact oF hF [] []

/-! ### slices.pdqsortCmpFunc[beaconfleet/api.Cell] -/
def slices_pdqsortCmpFunc_api_Cell_o0_f4_fleetref2_MergeOf_2_x1_k : (List api_Cell) → AEx
  | _ => .ret

def slices_pdqsortCmpFunc_api_Cell_o0_f4_fleetref2_MergeOf_2_x1_S (qx : List api_Cell) (qx1 : Int) (qx2 : Int) (qx3 : Int) : (List api_Cell) → St
  | vl => Mem.st ⟨[(0, ⟨49, 8, List.map api_Cell.enc vl⟩)], []⟩ (tl []) 1

def slices_pdqsortCmpFunc_api_Cell_o0_f4_fleetref2_MergeOf_2_x1_H (qx : List api_Cell) (qx1 : Int) (qx2 : Int) (qx3 : Int) : Unit → St
  | _ => Mem.st ⟨[(0, ⟨49, 8, List.map api_Cell.enc qx⟩)], []⟩ (tl [(0, .v (.one (.own 0 none))), (1, .v (.one (.d (.int .i64 qx1)))), (2, .v (.one (.d (.int .i64 qx2)))), (3, .v (.one (.d (.int .i64 qx3)))), (4, .v (.one (.fn 99 []))), (10, .v (.one (.d (.bool true)))), (11, .v (.one (.d (.bool true))))]) 1

theorem slices_pdqsortCmpFunc_api_Cell_o0_f4_fleetref2_MergeOf_2_x1_ok (qx : List api_Cell) (qx1 : Int) (qx2 : Int) (qx3 : Int) (s : Unit) (r : (Unit) ⊕ ((List api_Cell))) (hF : slices_pdqsortCmpFunc_api_Cell_o0_f4_fleetref2_MergeOf_2_x1 qx qx1 qx2 qx3 s = some r) : Awp prog 1 148 (cL (cL (cR (cR (cB f139))))) (Out 1 (kk slices_pdqsortCmpFunc_api_Cell_o0_f4_fleetref2_MergeOf_2_x1_k) (SS (slices_pdqsortCmpFunc_api_Cell_o0_f4_fleetref2_MergeOf_2_x1_H qx qx1 qx2 qx3) (slices_pdqsortCmpFunc_api_Cell_o0_f4_fleetref2_MergeOf_2_x1_S qx qx1 qx2 qx3)) r) (slices_pdqsortCmpFunc_api_Cell_o0_f4_fleetref2_MergeOf_2_x1_H qx qx1 qx2 qx3 s) := by
  unfold slices_pdqsortCmpFunc_api_Cell_o0_f4_fleetref2_MergeOf_2_x1 at hF
  refine awp_block ?_
  refine awp_seq ?_
  refine awp_region ?_
  refine aR 4 ?_
  refine aE ?_
  refine awp_seq ?_
  refine awp_seq ?_
  refine awp_region ?_
  refine aR 2 ?_
  refine aE ?_
  refine cE hF (fun h1 hF => ?_) fun h1 hF => ?_
  · refine awp_true (by kernel_rfl) h1 ?_
    refine awp_seq ?_
    refine bE hF fun vl6_1 h2 hF => ?_
    refine gE hF fun h3 hF => ?_
    refine awp_region ?_
    refine aR 4 ?_
    refine aCp (slices_insertionSortCmpFunc_api_Cell_o0_f3_fleetref2_MergeOf_2_ok h2) ⟨⟨rfl, rfl, pin1 h3⟩, trivial⟩ [] [] [] ?_
    refine aE ?_
    refine awp_ret ?_
    exact oO hF [] [] rfl
  · refine awp_false (by kernel_rfl) h1 ?_
    refine awp_skip ?_
    refine awp_seq ?_
    refine awp_seq ?_
    refine awp_region ?_
    refine aR 2 ?_
    refine aE ?_
    refine cE hF (fun h4 hF => ?_) fun h4 hF => ?_
    · refine awp_true (by kernel_rfl) h4 ?_
      refine awp_seq ?_
      exact nE hF
    · refine awp_false (by kernel_rfl) h4 ?_
      refine awp_skip ?_
      refine awp_seq ?_
      refine awp_seq ?_
      refine awp_region ?_
      refine aR 2 ?_
      refine aE ?_
      refine awp_false (by kernel_rfl) rfl ?_
      refine awp_skip ?_
      refine awp_seq ?_
      exact nE hF

def slices_pdqsortCmpFunc_api_Cell_o0_f4_fleetref2_MergeOf_2_R (qx : List api_Cell) (qx1 : Int) (qx2 : Int) (qx3 : Int) (r : (List api_Cell)) : TV × Mem := (.tup [], ⟨[(0, ⟨49, 8, List.map api_Cell.enc r⟩)], []⟩)

theorem slices_pdqsortCmpFunc_api_Cell_o0_f4_fleetref2_MergeOf_2_ok {qx : List api_Cell} {qx1 : Int} {qx2 : Int} {qx3 : Int} {r} (hF : slices_pdqsortCmpFunc_api_Cell_o0_f4_fleetref2_MergeOf_2 qx qx1 qx2 qx3 = some r) : Holds prog 139 [.v (.one (.own 0 none)), .v (.one (.d (.int .i64 qx1))), .v (.one (.d (.int .i64 qx2))), .v (.one (.d (.int .i64 qx3))), .v (.one (.fn 99 []))] ⟨[(0, ⟨49, 8, List.map api_Cell.enc qx⟩)], []⟩ (Is (slices_pdqsortCmpFunc_api_Cell_o0_f4_fleetref2_MergeOf_2_R qx qx1 qx2 qx3 r)) := by
  unfold slices_pdqsortCmpFunc_api_Cell_o0_f4_fleetref2_MergeOf_2 at hF
  refine holds_of_awp hΓ (fn := f139) (c := cB f139) (A := 1) (nx := 1) (by kernel_rfl) (by kernel_rfl) (by kernel_rfl) (by kernel_rfl) (by kernel_rfl) (by kernel_rfl) (lowc_of (by kernel_rfl)) ?_
  show Awp prog 1 148 (cB f139) _ _
  refine awp_seq ?_
  refine awp_region ?_
  refine aR 1 ?_
  refine aE ?_
  refine awp_seq ?_
  refine awp_region ?_
  refine aR 1 ?_
  refine aE ?_
  refine awp_block ?_
  refine awp_to (st' := slices_pdqsortCmpFunc_api_Cell_o0_f4_fleetref2_MergeOf_2_x1_H qx qx1 qx2 qx3 ()) (oT [] []) ?_
  refine bE hF fun vl1 h7 hF => ?_
  refine awp_sub (awp_loop' (slices_pdqsortCmpFunc_api_Cell_o0_f4_fleetref2_MergeOf_2_x1_H qx qx1 qx2 qx3) slices_pdqsortCmpFunc_api_Cell_o0_f4_fleetref2_MergeOf_2_x1_k (slices_pdqsortCmpFunc_api_Cell_o0_f4_fleetref2_MergeOf_2_x1_S qx qx1 qx2 qx3) (by intro x; exact fun h => nomatch h) h7 (slices_pdqsortCmpFunc_api_Cell_o0_f4_fleetref2_MergeOf_2_x1_ok qx qx1 qx2 qx3)) ?_
  exact oF hF [] []

/-! ### slices.SortFunc[[]beaconfleet/api.Cell,beaconfleet/api.Cell] -/
def slices_SortFunc_api_Cell_api_Cell_o0_f1_fleetref2_MergeOf_2_R (qx : List api_Cell) (r : (List api_Cell)) : TV × Mem := (.tup [], ⟨[(0, ⟨49, 8, List.map api_Cell.enc r⟩)], []⟩)

theorem slices_SortFunc_api_Cell_api_Cell_o0_f1_fleetref2_MergeOf_2_ok {qx : List api_Cell} {r} (hF : slices_SortFunc_api_Cell_api_Cell_o0_f1_fleetref2_MergeOf_2 qx = some r) : Holds prog 98 [.v (.one (.own 0 none)), .v (.one (.fn 99 []))] ⟨[(0, ⟨49, 8, List.map api_Cell.enc qx⟩)], []⟩ (Is (slices_SortFunc_api_Cell_api_Cell_o0_f1_fleetref2_MergeOf_2_R qx r)) := by
  unfold slices_SortFunc_api_Cell_api_Cell_o0_f1_fleetref2_MergeOf_2 at hF
  refine holds_of_awp hΓ (fn := f98) (c := cB f98) (A := 1) (nx := 1) (by kernel_rfl) (by kernel_rfl) (by kernel_rfl) (by kernel_rfl) (by kernel_rfl) (by kernel_rfl) (lowc_of (by kernel_rfl)) ?_
  show Awp prog 1 14 (cB f98) _ _
  refine awp_seq ?_
  refine awp_region ?_
  refine aR 1 ?_
  refine aL api_Cell.enc qx ?_
  refine aR 1 ?_
  refine aE ?_
  refine bE hF fun vr1 h1 hF => ?_
  refine bE hF fun vl2 h2 hF => ?_
  refine gE hF fun h3 hF => ?_
  refine awp_region ?_
  refine aR 4 ?_
  refine aC (bits_Len_ok h1) [] [] [] ?_
  refine aR 1 ?_
  refine aCp (slices_pdqsortCmpFunc_api_Cell_o0_f4_fleetref2_MergeOf_2_ok h2) ⟨⟨rfl, rfl, pin1 h3⟩, trivial⟩ [] [] [] ?_
  refine aE ?_
  exact oF hF [] []

/-! ### beaconfleet/fleetref2.MergeOf -/
def fleetref2_MergeOf_x2_k : Bool → AEx
  | _ => .normal

def fleetref2_MergeOf_x2_S (vl : List api_Cell) (vm : List (List UInt8 × api_Cell)) (vx : Int) (vy1 : api_Cell) (ve1 : api_Cell) (vis1 : Bool) : Bool → St
  | vx2 => Mem.st ⟨[], [(0, [.d (.str vy1.Prop_.Name), .d (.int .i64 vy1.Prop_.Value.Kind), .d (.bool vy1.Prop_.Value.Flag), .d (.int .i64 vy1.Prop_.Value.Number), .d (.str vy1.Prop_.Value.Words), .d (.int .i64 vy1.Stamp.At), .d (.str vy1.Stamp.By), .d (.int .i64 vy1.Stamp.No)]), (1, [.mapc .str true (List.map (encM D.str api_Cell.enc) vm)])]⟩ (tl [(7, .v (.one (.mapp 1))), (9, .v (.one (.box 0 0))), (22, .v (.one (.d (.lst (List.map api_Cell.enc vl))))), (23, .v (.one (.d (.int .i64 (vl.length : Int))))), (24, .v (.one (.d (.int .i64 vx)))), (49, .v (.one (.d (.bool vx2))))]) 2

def fleetref2_MergeOf_x2_I (vl : List api_Cell) (vm : List (List UInt8 × api_Cell)) (vx : Int) (vy1 : api_Cell) (ve1 : api_Cell) (vis1 : Bool) : St := Mem.st ⟨[], [(0, [.d (.str vy1.Prop_.Name), .d (.int .i64 vy1.Prop_.Value.Kind), .d (.bool vy1.Prop_.Value.Flag), .d (.int .i64 vy1.Prop_.Value.Number), .d (.str vy1.Prop_.Value.Words), .d (.int .i64 vy1.Stamp.At), .d (.str vy1.Stamp.By), .d (.int .i64 vy1.Stamp.No)]), (1, [.d (.str ve1.Prop_.Name), .d (.int .i64 ve1.Prop_.Value.Kind), .d (.bool ve1.Prop_.Value.Flag), .d (.int .i64 ve1.Prop_.Value.Number), .d (.str ve1.Prop_.Value.Words), .d (.int .i64 ve1.Stamp.At), .d (.str ve1.Stamp.By), .d (.int .i64 ve1.Stamp.No)]), (2, [.mapc .str true (List.map (encM D.str api_Cell.enc) vm)])]⟩ (tl [(7, .v (.one (.mapp 2))), (9, .v (.one (.box 0 0))), (10, .v (.one (.box 1 0))), (11, .v (.one (.d (.bool vis1)))), (22, .v (.one (.d (.lst (List.map api_Cell.enc vl))))), (23, .v (.one (.d (.int .i64 (vl.length : Int))))), (24, .v (.one (.d (.int .i64 vx))))]) 3

theorem fleetref2_MergeOf_x2_ok (vl : List api_Cell) (vm : List (List UInt8 × api_Cell)) (vx : Int) (vy1 : api_Cell) (ve1 : api_Cell) (vis1 : Bool) {r} (hF : fleetref2_MergeOf_x2 vy1 ve1 vis1 = some r) : Awp prog 0 72 (cL (cR (cL (cR (cL (cL (cR (cR (cL (cL (cR (cL (cR (cR (cR (cR (cB f45))))))))))))))))) (Out 0 fleetref2_MergeOf_x2_k (fleetref2_MergeOf_x2_S vl vm vx vy1 ve1 vis1) r) (fleetref2_MergeOf_x2_I vl vm vx vy1 ve1 vis1) := by
  unfold fleetref2_MergeOf_x2 at hF
  refine cE hF (fun h8 hF => ?_) fun h8 hF => ?_
  · refine bE hF fun vr2_1 h9 hF => ?_
    refine cE hF (fun h10 hF => ?_) fun h10 hF => ?_
    · refine awp_region ?_
      refine aB h8 ?_
      refine aR 5 ?_
      refine aC (fleetref2_StampOrder_ok h9) [] [] [] ?_
      refine aB h10 ?_
      refine aR 4 ?_
      refine aS (does_eqS (op := .neq) (xs := [.str ve1.Prop_.Name, .int .i64 ve1.Prop_.Value.Kind, .bool ve1.Prop_.Value.Flag, .int .i64 ve1.Prop_.Value.Number, .str ve1.Prop_.Value.Words, .int .i64 ve1.Stamp.At, .str ve1.Stamp.By, .int .i64 ve1.Stamp.No]) (ys := [.str vy1.Prop_.Name, .int .i64 vy1.Prop_.Value.Kind, .bool vy1.Prop_.Value.Flag, .int .i64 vy1.Prop_.Value.Number, .str vy1.Prop_.Value.Words, .int .i64 vy1.Stamp.At, .str vy1.Stamp.By, .int .i64 vy1.Stamp.No]) (b := ((decide (ve1.Prop_.Name = vy1.Prop_.Name) && ((decide (ve1.Prop_.Value.Kind = vy1.Prop_.Value.Kind) && ((ve1.Prop_.Value.Flag == vy1.Prop_.Value.Flag) && (decide (ve1.Prop_.Value.Number = vy1.Prop_.Value.Number) && (decide (ve1.Prop_.Value.Words = vy1.Prop_.Value.Words) && true)))) && true)) && ((decide (ve1.Stamp.At = vy1.Stamp.At) && (decide (ve1.Stamp.By = vy1.Stamp.By) && (decide (ve1.Stamp.No = vy1.Stamp.No) && true))) && true))) (c := (!((decide (ve1.Prop_.Name = vy1.Prop_.Name) && ((decide (ve1.Prop_.Value.Kind = vy1.Prop_.Value.Kind) && ((ve1.Prop_.Value.Flag == vy1.Prop_.Value.Flag) && (decide (ve1.Prop_.Value.Number = vy1.Prop_.Value.Number) && (decide (ve1.Prop_.Value.Words = vy1.Prop_.Value.Words) && true)))) && true)) && ((decide (ve1.Stamp.At = vy1.Stamp.At) && (decide (ve1.Stamp.By = vy1.Stamp.By) && (decide (ve1.Stamp.No = vy1.Stamp.No) && true))) && true)))) rfl (.inr ⟨rfl, rfl⟩) (by kernel_rfl) (by kernel_rfl) (by kernel_rfl) (by kernel_rfl) (by kernel_rfl) (by kernel_rfl)) ?_
      refine aR 1 ?_
      refine aE ?_
      exact oO hF [(1, 2)] [] rfl
    · refine awp_region ?_
      refine aB h8 ?_
      refine aR 5 ?_
      refine aC (fleetref2_StampOrder_ok h9) [] [] [] ?_
      refine aB h10 ?_
      refine aR 6 ?_
      refine aE ?_
      exact oO hF [(1, 2)] [] rfl
  · refine awp_region ?_
    refine aB h8 ?_
    refine aR 13 ?_
    refine aE ?_
    exact oO hF [(1, 2)] [] rfl

def fleetref2_MergeOf_x1_k : (List (List UInt8 × api_Cell)) ⊕ Unit → AEx
  | .inl _ => .exit 0
  | .inr _ => .ret

def fleetref2_MergeOf_x1_S (vl : List api_Cell) : (List (List UInt8 × api_Cell)) ⊕ Unit → St
  | .inl vm1 => Mem.st ⟨[], [(0, [.mapc .str true (List.map (encM D.str api_Cell.enc) vm1)])]⟩ (tl [(7, .v (.one (.mapp 0)))]) 1
  | .inr _ => Mem.st ⟨[], []⟩ (tl [(4, .v (.one (.nil))), (5, .v (.one (.d (.int .i64 13))))]) 0

def fleetref2_MergeOf_x1_H (vl : List api_Cell) : (List (List UInt8 × api_Cell)) × Int → St
  | (vm, vx) => Mem.st ⟨[], [(0, [.mapc .str true (List.map (encM D.str api_Cell.enc) vm)])]⟩ (tl [(7, .v (.one (.mapp 0))), (22, .v (.one (.d (.lst (List.map api_Cell.enc vl))))), (23, .v (.one (.d (.int .i64 (vl.length : Int))))), (24, .v (.one (.d (.int .i64 vx))))]) 1

theorem fleetref2_MergeOf_x1_ok (vl : List api_Cell) (s : (List (List UInt8 × api_Cell)) × Int) (r : ((List (List UInt8 × api_Cell)) × Int) ⊕ ((List (List UInt8 × api_Cell)) ⊕ Unit)) (hF : fleetref2_MergeOf_x1 vl s = some r) : Awp prog 0 72 (cL (cL (cR (cL (cR (cR (cR (cR (cB f45))))))))) (Out 0 (kk fleetref2_MergeOf_x1_k) (SS (fleetref2_MergeOf_x1_H vl) (fleetref2_MergeOf_x1_S vl)) r) (fleetref2_MergeOf_x1_H vl s) := by
  obtain ⟨vm, vx⟩ := s
  unfold fleetref2_MergeOf_x1 at hF
  refine awp_seq ?_
  refine awp_region ?_
  refine aR 1 ?_
  refine aE ?_
  refine awp_seq ?_
  refine cE hF (fun h4 hF => ?_) fun h4 hF => ?_
  · refine awp_true (by kernel_rfl) h4 ?_
    refine awp_skip ?_
    refine awp_seq ?_
    refine awp_block ?_
    refine awp_seq ?_
    refine bE hF fun vy1 h5 hF => ?_
    refine awp_region ?_
    refine aX (x_idx api_Cell.enc h5) ?_
    refine aR 3 ?_
    refine aE ?_
    refine awp_seq ?_
    refine awp_seq ?_
    refine bE hF fun ve1 h6 hF => ?_
    refine bE hF fun vis1 h7 hF => ?_
    refine awp_region ?_
    refine aR 4 ?_
    refine aX (x_getO 0 true D.str api_Cell.enc h6 h7) ?_
    refine aR 6 ?_
    refine aE ?_
    refine awp_seq ?_
    refine awp_to (st' := fleetref2_MergeOf_x2_I vl vm vx vy1 ve1 vis1) (oT [(0, 3001), (1, 13001), (2, 0)] []) ?_
    refine bE hF fun vx2_1 h11 hF => ?_
    refine awp_sub (fleetref2_MergeOf_x2_ok vl vm vx vy1 ve1 vis1 h11) ?_
    refine cE hF (fun h12 hF => ?_) fun h12 hF => ?_
    · refine awp_true (by kernel_rfl) h12 ?_
      refine awp_seq ?_
      refine awp_region ?_
      refine aR 2 ?_
      refine aE ?_
      refine awp_ret ?_
      exact oO hF [] [] rfl
    · refine awp_false (by kernel_rfl) h12 ?_
      refine awp_skip ?_
      refine awp_region ?_
      refine aR 5 ?_
      refine aPut 1 .str true (l := vm) (key := vy1.Prop_.Name) (v := (api_Cell.mk (api_Prop.mk vy1.Prop_.Name (api_Value.mk vy1.Prop_.Value.Kind vy1.Prop_.Value.Flag vy1.Prop_.Value.Number vy1.Prop_.Value.Words)) (api_Stamp.mk vy1.Stamp.At vy1.Stamp.By vy1.Stamp.No))) D.str api_Cell.enc rfl ?_
      refine aE ?_
      refine awp_region ?_
      refine aR 2 ?_
      refine aE ?_
      exact oO hF [(0, 1)] [] rfl
  · refine awp_false (by kernel_rfl) h4 ?_
    refine awp_exit ?_
    exact oO hF [] [] rfl

def fleetref2_MergeOf_x3_k : (List api_Cell) → AEx
  | _ => .exit 2

def fleetref2_MergeOf_x3_S (vm1_1 : List (List UInt8 × api_Cell)) (vme : List (Nat × List D × List D)) (vcl : Nat) (vhp : (List.map (encM D.str api_Cell.enc) vm1_1).Perm (List.map (·.2) vme)) : (List api_Cell) → St
  | vx4 => Mem.st ⟨[(0, ⟨49, 8, List.map api_Cell.enc vx4⟩)], []⟩ (tl [(12, .v (.one (.own 0 none)))]) 1

def fleetref2_MergeOf_x3_H (vm1_1 : List (List UInt8 × api_Cell)) (vme : List (Nat × List D × List D)) (vcl : Nat) (vhp : (List.map (encM D.str api_Cell.enc) vm1_1).Perm (List.map (·.2) vme)) (vl1 : List (List UInt8 × api_Cell)) : (List api_Cell) → St
  | vx3 => Mem.st ⟨[(2, ⟨49, 8, List.map api_Cell.enc vx3⟩)], [(0, [.iterc 1 vme vcl (List.map (encM D.str api_Cell.enc) vl1) none]), (1, [.mapg .str true vme vcl])]⟩ (tl [(12, .v (.one (.own 2 none))), (57, .v (.one (.box 0 0)))]) 3

theorem fleetref2_MergeOf_x3_ok (vm1_1 : List (List UInt8 × api_Cell)) (vme : List (Nat × List D × List D)) (vcl : Nat) (vhp : (List.map (encM D.str api_Cell.enc) vm1_1).Perm (List.map (·.2) vme)) (vl1 : List (List UInt8 × api_Cell)) (vx3 : (List api_Cell)) (hE : vl1 = [] → ∃ x, fleetref2_MergeOf_x3 none vx3 = some x) (hP : ∀ e l', List.Perm vl1 (e :: l') → ∃ x, fleetref2_MergeOf_x3 (some e) vx3 = some x) : Awp prog 0 72 (cL (cL (cR (cL (cR (cR (cR (cR (cR (cR (cB f45))))))))))) (OutR 0 fleetref2_MergeOf_x3_k (fleetref2_MergeOf_x3) (fleetref2_MergeOf_x3_H vm1_1 vme vcl vhp) (fleetref2_MergeOf_x3_S vm1_1 vme vcl vhp) vl1 vx3) (fleetref2_MergeOf_x3_H vm1_1 vme vcl vhp vl1 vx3) := by
  refine awp_seq ?_
  refine awp_region ?_
  refine aNext (ka := .str) (va := true) (me := vme) (cl := vcl) (cur := none) 0 1 (encM D.str api_Cell.enc) vl1 rfl (fun h16 => ?_) (fun ve3 vl3 vb1 h17 => ?_)
  · obtain ⟨x, hF0⟩ := hE h16
    have hF := hF0
    unfold fleetref2_MergeOf_x3 at hF
    refine aR 1 ?_
    refine aE ?_
    refine awp_seq ?_
    refine awp_false (by kernel_rfl) rfl ?_
    refine awp_close (ka := .str) (va := true) (me := vme) (cl := vcl) 1 vhp ?_
    refine awp_exit ?_
    exact outE h16 hF0 (oO hF [(0, 2)] [] rfl)
  · obtain ⟨x, hF0⟩ := hP _ _ h17
    have hF := hF0
    unfold fleetref2_MergeOf_x3 at hF
    refine aR 1 ?_
    refine aE ?_
    refine awp_seq ?_
    refine awp_true (by kernel_rfl) rfl ?_
    refine awp_skip ?_
    refine awp_block ?_
    refine awp_seq ?_
    refine awp_region ?_
    refine aEntry (ka := .str) (va := true) (me := vme) (cl := vcl) (b := vb1) (rest := List.map (encM D.str api_Cell.enc) vl3) 0 1 (encM D.str api_Cell.enc) ve3 rfl ?_
    refine aR 3 ?_
    refine aE ?_
    refine gE hF fun h18 hF => ?_
    refine awp_region ?_
    refine aR 3 ?_
    refine aX (x_app api_Cell.enc 2 h18) ?_
    refine aR 1 ?_
    refine aE ?_
    exact outP h17 hF0 (outCur (idM := 1) (me := vme) (cl := vcl) (rest := List.map (encM D.str api_Cell.enc) vl3) (cur := some (vb1, (encM D.str api_Cell.enc) ve3)) 0 <| oO hF [(2, 9003)] [] rfl)

def fleetref2_MergeOf_R (qx : List api_Cell) (qx1 : List api_Cell) (r : (List api_Cell) × Int) : TV × Mem := (.tup [.one (.own 0 none), .one (.d (.int .i64 r.2))], ⟨[(0, ⟨49, 8, List.map api_Cell.enc r.1⟩)], []⟩)

theorem fleetref2_MergeOf_ok {qx : List api_Cell} {qx1 : List api_Cell} {r} (hF : fleetref2_MergeOf qx qx1 = some r) : Holds prog 45 [.v (.one (.d (.lst (List.map api_Cell.enc qx)))), .v (.one (.d (.lst (List.map api_Cell.enc qx1))))] ⟨[], []⟩ (Is (fleetref2_MergeOf_R qx qx1 r)) := by
  unfold fleetref2_MergeOf at hF
  refine holds_of_awp hΓ (fn := f45) (c := cB f45) (A := 0) (nx := 0) (by kernel_rfl) (by kernel_rfl) (by kernel_rfl) (by kernel_rfl) (by kernel_rfl) (by kernel_rfl) (lowc_of (by kernel_rfl)) ?_
  show Awp prog 0 72 (cB f45) _ _
  refine awp_seq ?_
  refine awp_region ?_
  refine aR 2 ?_
  refine aE ?_
  refine awp_seq ?_
  refine bE hF fun vr1 h1 hF => ?_
  refine awp_region ?_
  refine aR 3 ?_
  refine aC (slices_Concat_api_Cell_api_Cell_o0_ok h1) [(0, 4000)] [] [] ?_
  refine aR 1 ?_
  refine aE ?_
  refine awp_seq ?_
  refine bE hF fun vl h2 hF => ?_
  refine gE hF fun h3 hF => ?_
  refine awp_region ?_
  refine aR 1 ?_
  refine aCp (slices_SortStableFunc_api_Cell_api_Cell_o0_f1_fleetref2_MergeOf_1_ok h2) ⟨⟨rfl, rfl, pin1 h3⟩, trivial⟩ [(0, 5001)] [] [] ?_
  refine aE ?_
  refine awp_seq ?_
  refine awp_region ?_
  refine aX (x_map .str true (κ := List UInt8) (β := api_Cell) D.str api_Cell.enc) ?_
  refine aR 1 ?_
  refine aE ?_
  refine awp_seq ?_
  refine awp_seq ?_
  refine awp_region ?_
  refine aR 1 ?_
  refine aL api_Cell.enc vl ?_
  refine aR 1 ?_
  refine aE ?_
  refine awp_to (oT (m := ⟨[], [(0, [.mapc .str true (List.map (encM D.str api_Cell.enc) ([] : List (List UInt8 × api_Cell)))])]⟩) (ts := [(7, .v (.one (.mapp 0))), (22, .v (.one (.d (.lst (List.map api_Cell.enc vl))))), (23, .v (.one (.d (.int .i64 (vl.length : Int))))), (24, .v (.one (.d (.int .i64 0))))]) (nx := 1) [(0, 9000)] []) ?_
  refine awp_block ?_
  refine awp_to (st' := fleetref2_MergeOf_x1_H vl (([] : List (List UInt8 × api_Cell)), 0)) (oT [] []) ?_
  refine bE hF fun x h13 hF => ?_
  rcases x with vm1_1 | _
  · refine awp_sub (awp_loop' (fleetref2_MergeOf_x1_H vl) fleetref2_MergeOf_x1_k (fleetref2_MergeOf_x1_S vl) (by intro x; rcases x with x | x <;> exact fun h => nomatch h) h13 (fleetref2_MergeOf_x1_ok vl)) ?_
    refine awp_seq ?_
    refine awp_region ?_
    refine aR 1 ?_
    refine aE ?_
    refine awp_seq ?_
    refine awp_seq ?_
    refine awp_region ?_
    refine aR 1 ?_
    refine aRange (ka := .str) (va := true) 0 (encM D.str api_Cell.enc) vm1_1 rfl (fun vme vcl vhp => ?_)
    refine aE ?_
    refine awp_block ?_
    refine awp_to (st' := fleetref2_MergeOf_x3_H vm1_1 vme vcl vhp vm1_1 []) (oT [(0, 2001), (1, 0)] [2]) ?_
    refine rG (H := fleetref2_MergeOf_x3_H vm1_1 vme vcl vhp) (k := fleetref2_MergeOf_x3_k) (S := fleetref2_MergeOf_x3_S vm1_1 vme vcl vhp) hF (by intro x; exact fun h => nomatch h) (fun l s => fleetref2_MergeOf_x3_ok vm1_1 vme vcl vhp l s) (fun vx4_1 hF => ?_)
    refine awp_seq ?_
    refine bE hF fun vl4 h20 hF => ?_
    refine gE hF fun h21 hF => ?_
    refine awp_region ?_
    refine aR 1 ?_
    refine aCp (slices_SortFunc_api_Cell_api_Cell_o0_f1_fleetref2_MergeOf_2_ok h20) ⟨⟨rfl, rfl, pin1 h21⟩, trivial⟩ [] [] [] ?_
    refine aE ?_
    refine awp_seq ?_
    refine awp_seq ?_
    refine awp_region ?_
    refine aR 1 ?_
    refine aL api_Cell.enc vl4 ?_
    refine aR 1 ?_
    refine aE ?_
    refine cE hF (fun h22 hF => ?_) fun h22 hF => ?_
    · refine awp_true (by kernel_rfl) h22 ?_
      refine awp_seq ?_
      refine awp_region ?_
      refine aR 2 ?_
      refine aE ?_
      refine awp_ret ?_
      exact oF hF [] [0]
    · refine awp_false (by kernel_rfl) h22 ?_
      refine awp_skip ?_
      refine awp_seq ?_
      refine awp_region ?_
      refine aR 3 ?_
      refine aE ?_
      refine awp_ret ?_
      exact oF hF [] []
  · refine awp_sub (awp_loop' (fleetref2_MergeOf_x1_H vl) fleetref2_MergeOf_x1_k (fleetref2_MergeOf_x1_S vl) (by intro x; rcases x with x | x <;> exact fun h => nomatch h) h13 (fleetref2_MergeOf_x1_ok vl)) ?_
    exact oF hF [] [0]

/-! ### beaconfleet/fleetlaw2.CellsMerge$1 -/
def fleetlaw2_CellsMerge_1_b1o_R (qb : List api_Cell) (qmore : Int) (qx : Int) (qx1 : List api_Cell) (r : (List api_Cell) × Int) : TV × Mem := (.tup [.one (.own 4 none), .one (.d (.int .i64 r.2))], ⟨[(3, ⟨49, 8, List.map api_Cell.enc qx1⟩), (4, ⟨49, 8, List.map api_Cell.enc r.1⟩)], [(0, [.d (.int .i64 qx)]), (1, [.own 3 none])]⟩)

theorem fleetlaw2_CellsMerge_1_b1o_ok {qb : List api_Cell} {qmore : Int} {qx : Int} {qx1 : List api_Cell} {r} (hF : fleetlaw2_CellsMerge_1_b1o qb qmore qx qx1 = some r) : Holds prog 44 [.v (.one (.d (.lst (List.map api_Cell.enc qb)))), .v (.one (.d (.int .i64 qmore))), .v (.one (.box 0 0)), .v (.one (.box 1 0))] ⟨[(2, ⟨49, 8, List.map api_Cell.enc qx1⟩)], [(0, [.d (.int .i64 qx)]), (1, [.own 2 none])]⟩ (Is (fleetlaw2_CellsMerge_1_b1o_R qb qmore qx qx1 r)) := by
  unfold fleetlaw2_CellsMerge_1_b1o at hF
  refine holds_of_awp hΓ (fn := f44) (c := cB f44) (A := 3) (nx := 3) (by kernel_rfl) (by kernel_rfl) (by kernel_rfl) (by kernel_rfl) (by kernel_rfl) (by kernel_rfl) (lowc_of (by kernel_rfl)) ?_
  show Awp prog 3 23 (cB f44) _ _
  refine awp_seq ?_
  refine awp_region ?_
  refine aR 2 ?_
  refine aE ?_
  refine awp_seq ?_
  refine awp_seq ?_
  refine bE hF fun vr h1 hF => ?_
  refine bE hF fun vr1 h2 hF => ?_
  refine aD ?_
  refine dR 2 ?_
  refine dC (fleetref2_CellsFault_ok h1) [] [] [] ?_
  refine dR 2 ?_
  refine dC (fleetlaw2_errs_ok h2) [] [] [6003] ?_
  refine dR 1 ?_
  refine dE ?_
  refine awp_seq ?_
  refine awp_region ?_
  refine aR 2 ?_
  refine aE ?_
  refine cE hF (fun h3 hF => ?_) fun h3 hF => ?_
  · refine awp_true (by kernel_rfl) h3 ?_
    refine awp_seq ?_
    refine awp_region ?_
    refine aR 3 ?_
    refine aE ?_
    refine awp_ret ?_
    exact oF hF [(3, 2)] [4]
  · refine awp_false (by kernel_rfl) h3 ?_
    refine awp_skip ?_
    refine awp_seq ?_
    refine bE hF fun x h4 hF => ?_
    obtain ⟨vr2, vr3⟩ := x
    refine awp_region ?_
    refine aR 2 ?_
    refine aCf (fleetref2_MergeOf_ok h4) (plainO_one (f := api_Cell.enc) fun _ => by kernel_rfl) [] [] [2] ?_
    refine aR 4 ?_
    refine aE ?_
    refine awp_ret ?_
    exact oF hF [(3, 2), (4, 13003)] []

/-! ### beaconfleet/fleetlaw2.CellsMerge$1 -/
def fleetlaw2_CellsMerge_1_o0_b1o_R (qb : List api_Cell) (qmore : Int) (qx : Int) (qx1 : List api_Cell) (r : (List api_Cell) × Int) : TV × Mem := (.tup [.one (.own 5 none), .one (.d (.int .i64 r.2))], ⟨[(4, ⟨49, 8, List.map api_Cell.enc qx1⟩), (5, ⟨49, 8, List.map api_Cell.enc r.1⟩)], [(0, [.d (.int .i64 qx)]), (1, [.own 4 none])]⟩)

theorem fleetlaw2_CellsMerge_1_o0_b1o_ok {qb : List api_Cell} {qmore : Int} {qx : Int} {qx1 : List api_Cell} {r} (hF : fleetlaw2_CellsMerge_1_o0_b1o qb qmore qx qx1 = some r) : Holds prog 44 [.v (.one (.own 2 none)), .v (.one (.d (.int .i64 qmore))), .v (.one (.box 0 0)), .v (.one (.box 1 0))] ⟨[(2, ⟨49, 8, List.map api_Cell.enc qb⟩), (3, ⟨49, 8, List.map api_Cell.enc qx1⟩)], [(0, [.d (.int .i64 qx)]), (1, [.own 3 none])]⟩ (Is (fleetlaw2_CellsMerge_1_o0_b1o_R qb qmore qx qx1 r)) := by
  unfold fleetlaw2_CellsMerge_1_o0_b1o at hF
  refine holds_of_awp hΓ (fn := f44) (c := cB f44) (A := 4) (nx := 4) (by kernel_rfl) (by kernel_rfl) (by kernel_rfl) (by kernel_rfl) (by kernel_rfl) (by kernel_rfl) (lowc_of (by kernel_rfl)) ?_
  show Awp prog 4 23 (cB f44) _ _
  refine awp_seq ?_
  refine awp_region ?_
  refine aR 2 ?_
  refine aE ?_
  refine awp_to (oT (m := ⟨[(4, ⟨49, 8, List.map api_Cell.enc qx1⟩)], [(0, [.d (.int .i64 qx)]), (1, [.own 4 none])]⟩) (ts := [(0, .v (.one (.d (.lst (List.map api_Cell.enc qb))))), (1, .v (.one (.d (.int .i64 qmore)))), (2, .v (.one (.box 0 0))), (3, .v (.one (.box 1 0)))]) (nx := 5) [(4, 3)] []) ?_
  refine awp_seq ?_
  refine awp_seq ?_
  refine bE hF fun vr h1 hF => ?_
  refine bE hF fun vr1 h2 hF => ?_
  refine aD ?_
  refine dR 2 ?_
  refine dC (fleetref2_CellsFault_ok h1) [] [] [] ?_
  refine dR 2 ?_
  refine dC (fleetlaw2_errs_ok h2) [] [] [4005] ?_
  refine dR 1 ?_
  refine dE ?_
  refine awp_seq ?_
  refine awp_region ?_
  refine aR 2 ?_
  refine aE ?_
  refine cE hF (fun h3 hF => ?_) fun h3 hF => ?_
  · refine awp_true (by kernel_rfl) h3 ?_
    refine awp_seq ?_
    refine awp_region ?_
    refine aR 3 ?_
    refine aE ?_
    refine awp_ret ?_
    exact oF hF [] [5]
  · refine awp_false (by kernel_rfl) h3 ?_
    refine awp_skip ?_
    refine awp_seq ?_
    refine bE hF fun x h4 hF => ?_
    obtain ⟨vr2, vr3⟩ := x
    refine awp_region ?_
    refine aR 2 ?_
    refine aCf (fleetref2_MergeOf_ok h4) (plainO_one (f := api_Cell.enc) fun _ => by kernel_rfl) [] [] [4] ?_
    refine aR 4 ?_
    refine aE ?_
    refine awp_ret ?_
    exact oF hF [(5, 11005)] []

/-! ### beaconfleet/fleetlaw2.CellsMerge -/
def fleetlaw2_CellsMerge_x1_k : Bool → AEx
  | _ => .normal

def fleetlaw2_CellsMerge_x1_S (vr2_1 : List api_Cell) (vr4_1 : Int) (vr2_2 : List api_Cell) (vr4_2 : Int) (vr : List api_Cell) (vr1 : Int) (vr4_3 : List api_Cell) (vr5_1 : Int) (vr4_4 : List api_Cell) (vr5_2 : Int) (vr4_5 : List api_Cell) (vr5_3 : Int) : Bool → St
  | vx => Mem.st ⟨[], []⟩ (tl [(2, .v (.one (.d (.bool vx))))]) 0

def fleetlaw2_CellsMerge_x1_I (vr2_1 : List api_Cell) (vr4_1 : Int) (vr2_2 : List api_Cell) (vr4_2 : Int) (vr : List api_Cell) (vr1 : Int) (vr4_3 : List api_Cell) (vr5_1 : Int) (vr4_4 : List api_Cell) (vr5_2 : Int) (vr4_5 : List api_Cell) (vr5_3 : Int) : St := Mem.st ⟨[], []⟩ (tl [(9, .v (.one (.d (.lst (List.map api_Cell.enc vr2_1))))), (10, .v (.one (.d (.int .i64 vr4_1)))), (11, .v (.one (.d (.lst (List.map api_Cell.enc vr2_2))))), (12, .v (.one (.d (.int .i64 vr4_2)))), (13, .v (.one (.d (.lst (List.map api_Cell.enc vr))))), (14, .v (.one (.d (.int .i64 vr1)))), (17, .v (.one (.d (.lst (List.map api_Cell.enc vr4_3))))), (18, .v (.one (.d (.int .i64 vr5_1)))), (19, .v (.one (.d (.lst (List.map api_Cell.enc vr4_4))))), (20, .v (.one (.d (.int .i64 vr5_2)))), (21, .v (.one (.d (.lst (List.map api_Cell.enc vr4_5))))), (22, .v (.one (.d (.int .i64 vr5_3))))]) 0

theorem fleetlaw2_CellsMerge_x1_ok (vr2_1 : List api_Cell) (vr4_1 : Int) (vr2_2 : List api_Cell) (vr4_2 : Int) (vr : List api_Cell) (vr1 : Int) (vr4_3 : List api_Cell) (vr5_1 : Int) (vr4_4 : List api_Cell) (vr5_2 : Int) (vr4_5 : List api_Cell) (vr5_3 : Int) {r} (hF : fleetlaw2_CellsMerge_x1 vr2_1 vr4_1 vr2_2 vr4_2 vr vr1 vr4_3 vr5_1 vr4_4 vr5_2 vr4_5 vr5_3 = some r) : Awp prog 0 127 (cL (cR (cR (cR (cR (cR (cR (cR (cR (cR (cR (cR (cR (cB f6)))))))))))))) (Out 0 fleetlaw2_CellsMerge_x1_k (fleetlaw2_CellsMerge_x1_S vr2_1 vr4_1 vr2_2 vr4_2 vr vr1 vr4_3 vr5_1 vr4_4 vr5_2 vr4_5 vr5_3) r) (fleetlaw2_CellsMerge_x1_I vr2_1 vr4_1 vr2_2 vr4_2 vr vr1 vr4_3 vr5_1 vr4_4 vr5_2 vr4_5 vr5_3) := by
  unfold fleetlaw2_CellsMerge_x1 at hF
  refine cE hF (fun h16 hF => ?_) fun h16 hF => ?_
  · refine bE hF fun vr9 h17 hF => ?_
    refine cE hF (fun h18 hF => ?_) fun h18 hF => ?_
    · refine cE hF (fun h19 hF => ?_) fun h19 hF => ?_
      · refine bE hF fun vr10 h20 hF => ?_
        refine cE hF (fun h21 hF => ?_) fun h21 hF => ?_
        · refine cE hF (fun h22 hF => ?_) fun h22 hF => ?_
          · refine bE hF fun vr11 h23 hF => ?_
            refine cE hF (fun h24 hF => ?_) fun h24 hF => ?_
            · refine bE hF fun vr12 h25 hF => ?_
              refine awp_region ?_
              refine aR 2 ?_
              refine aB h16 ?_
              refine aR 3 ?_
              refine aCb (slices_Equal_api_Cell_api_Cell_ok h17) [] [] [] h18 ?_
              refine aR 4 ?_
              refine aB h19 ?_
              refine aR 4 ?_
              refine aCb (slices_Equal_api_Cell_api_Cell_ok h20) [] [] [] h21 ?_
              refine aR 4 ?_
              refine aB h22 ?_
              refine aR 4 ?_
              refine aCb (slices_Equal_api_Cell_api_Cell_ok h23) [] [] [] h24 ?_
              refine aR 2 ?_
              refine aC (fleetlaw2_twinned_ok h25) [] [] [] ?_
              refine aR 2 ?_
              refine aE ?_
              exact oO hF [] [] rfl
            · refine awp_region ?_
              refine aR 2 ?_
              refine aB h16 ?_
              refine aR 3 ?_
              refine aCb (slices_Equal_api_Cell_api_Cell_ok h17) [] [] [] h18 ?_
              refine aR 4 ?_
              refine aB h19 ?_
              refine aR 4 ?_
              refine aCb (slices_Equal_api_Cell_api_Cell_ok h20) [] [] [] h21 ?_
              refine aR 4 ?_
              refine aB h22 ?_
              refine aR 4 ?_
              refine aCb (slices_Equal_api_Cell_api_Cell_ok h23) [] [] [] h24 ?_
              refine aR 5 ?_
              refine aE ?_
              exact oO hF [] [] rfl
          · refine awp_region ?_
            refine aR 2 ?_
            refine aB h16 ?_
            refine aR 3 ?_
            refine aCb (slices_Equal_api_Cell_api_Cell_ok h17) [] [] [] h18 ?_
            refine aR 4 ?_
            refine aB h19 ?_
            refine aR 4 ?_
            refine aCb (slices_Equal_api_Cell_api_Cell_ok h20) [] [] [] h21 ?_
            refine aR 4 ?_
            refine aB h22 ?_
            refine aR 10 ?_
            refine aE ?_
            exact oO hF [] [] rfl
        · refine awp_region ?_
          refine aR 2 ?_
          refine aB h16 ?_
          refine aR 3 ?_
          refine aCb (slices_Equal_api_Cell_api_Cell_ok h17) [] [] [] h18 ?_
          refine aR 4 ?_
          refine aB h19 ?_
          refine aR 4 ?_
          refine aCb (slices_Equal_api_Cell_api_Cell_ok h20) [] [] [] h21 ?_
          refine aR 15 ?_
          refine aE ?_
          exact oO hF [] [] rfl
      · refine awp_region ?_
        refine aR 2 ?_
        refine aB h16 ?_
        refine aR 3 ?_
        refine aCb (slices_Equal_api_Cell_api_Cell_ok h17) [] [] [] h18 ?_
        refine aR 4 ?_
        refine aB h19 ?_
        refine aR 20 ?_
        refine aE ?_
        exact oO hF [] [] rfl
    · refine awp_region ?_
      refine aR 2 ?_
      refine aB h16 ?_
      refine aR 3 ?_
      refine aCb (slices_Equal_api_Cell_api_Cell_ok h17) [] [] [] h18 ?_
      refine aR 25 ?_
      refine aE ?_
      exact oO hF [] [] rfl
  · refine awp_region ?_
    refine aR 2 ?_
    refine aB h16 ?_
    refine aR 29 ?_
    refine aE ?_
    exact oO hF [] [] rfl

def fleetlaw2_CellsMerge_R (qx : List Int) (r : Bool) : TV × Mem := (.v (.one (.d (.bool r))), ⟨[], []⟩)

theorem fleetlaw2_CellsMerge_ok {qx : List Int} {r} (hF : fleetlaw2_CellsMerge qx = some r) : Holds prog 6 [.v (.one (.d (.lst (List.map (encI .i64) qx))))] ⟨[], []⟩ (Is (fleetlaw2_CellsMerge_R qx r)) := by
  unfold fleetlaw2_CellsMerge at hF
  refine holds_of_awp hΓ (fn := f6) (c := cB f6) (A := 0) (nx := 0) (by kernel_rfl) (by kernel_rfl) (by kernel_rfl) (by kernel_rfl) (by kernel_rfl) (by kernel_rfl) (lowc_of (by kernel_rfl)) ?_
  show Awp prog 0 127 (cB f6) _ _
  refine awp_seq ?_
  refine awp_region ?_
  refine aR 1 ?_
  refine aE ?_
  refine awp_seq ?_
  refine awp_region ?_
  refine aR 4 ?_
  refine aE ?_
  refine awp_seq ?_
  refine bE hF fun x h1 hF => ?_
  obtain ⟨vs2, vr3⟩ := x
  refine bE hF fun x h2 hF => ?_
  obtain ⟨vs2_1, vr3_1⟩ := x
  refine bE hF fun vr4 h3 hF => ?_
  refine bE hF fun x h4 hF => ?_
  obtain ⟨vs3, vr7⟩ := x
  refine bE hF fun x h5 hF => ?_
  obtain ⟨vs3_1, vr2⟩ := x
  refine awp_region ?_
  refine aR 1 ?_
  refine aC (fleetmake_Stream_Cells_ok h1) [(0, 3000)] [] [] ?_
  refine aR 1 ?_
  refine aC (fleetmake_Stream_Cells_ok h2) [(0, 3000)] [] [] ?_
  refine aR 1 ?_
  refine aC (fleetmake_Stream_PropName_ok h3) [(0, 3000)] [] [] ?_
  refine aR 1 ?_
  refine aC (fleetmake_Stream_Value_ok h4) [(0, 3000)] [] [] ?_
  refine aR 1 ?_
  refine aC (fleetmake_Stream_Stamp_ok h5) [(0, 3000)] [] [] ?_
  refine aR 8 ?_
  refine aE ?_
  refine awp_to (oT (m := ⟨[(1, ⟨49, 8, List.map api_Cell.enc vr3⟩)], [(0, [.own 1 none]), (2, [.d (.int .i64 vr7.Kind), .d (.bool vr7.Flag), .d (.int .i64 vr7.Number), .d (.str vr7.Words)]), (3, [.d (.int .i64 vr2.At), .d (.str vr2.By), .d (.int .i64 vr2.No)])]⟩) (ts := [(4, .v (.one (.box 0 0))), (5, .v (.one (.d (.lst (List.map api_Cell.enc vr3_1))))), (6, .v (.one (.d (.str vr4)))), (7, .v (.one (.box 2 0))), (8, .v (.one (.box 3 0)))]) (nx := 4) [(0, 15000), (1, 6001), (2, 16000), (3, 17000)] []) ?_
  refine awp_seq ?_
  refine bE hF fun x h6 hF => ?_
  obtain ⟨vr2_1, vr4_1⟩ := x
  refine awp_region ?_
  refine aR 2 ?_
  refine aCf (twin_Merge_ok h6) (plainO_one (f := api_Cell.enc) fun _ => by kernel_rfl) [] [] [1] ?_
  refine aR 5 ?_
  refine aE ?_
  refine awp_to (oT (m := ⟨[(1, ⟨49, 8, List.map api_Cell.enc vr3⟩)], [(0, [.own 1 none]), (2, [.d (.int .i64 vr7.Kind), .d (.bool vr7.Flag), .d (.int .i64 vr7.Number), .d (.str vr7.Words)]), (3, [.d (.int .i64 vr2.At), .d (.str vr2.By), .d (.int .i64 vr2.No)])]⟩) (ts := [(4, .v (.one (.box 0 0))), (5, .v (.one (.d (.lst (List.map api_Cell.enc vr3_1))))), (6, .v (.one (.d (.str vr4)))), (7, .v (.one (.box 2 0))), (8, .v (.one (.box 3 0))), (9, .v (.one (.d (.lst (List.map api_Cell.enc vr2_1))))), (10, .v (.one (.d (.int .i64 vr4_1))))]) (nx := 4) [] []) ?_
  refine awp_seq ?_
  refine bE hF fun x h7 hF => ?_
  obtain ⟨vr2_2, vr4_2⟩ := x
  refine awp_region ?_
  refine aR 5 ?_
  refine aCf (twin_Set_ok h7) (plainO_one (f := api_Cell.enc) fun _ => by kernel_rfl) [] [] [1] ?_
  refine aR 5 ?_
  refine aE ?_
  refine awp_to (oT (m := ⟨[(1, ⟨49, 8, List.map api_Cell.enc vr3⟩)], [(0, [.own 1 none]), (2, [.d (.int .i64 vr7.Kind), .d (.bool vr7.Flag), .d (.int .i64 vr7.Number), .d (.str vr7.Words)]), (3, [.d (.int .i64 vr2.At), .d (.str vr2.By), .d (.int .i64 vr2.No)])]⟩) (ts := [(4, .v (.one (.box 0 0))), (5, .v (.one (.d (.lst (List.map api_Cell.enc vr3_1))))), (6, .v (.one (.d (.str vr4)))), (7, .v (.one (.box 2 0))), (8, .v (.one (.box 3 0))), (9, .v (.one (.d (.lst (List.map api_Cell.enc vr2_1))))), (10, .v (.one (.d (.int .i64 vr4_1)))), (11, .v (.one (.d (.lst (List.map api_Cell.enc vr2_2))))), (12, .v (.one (.d (.int .i64 vr4_2))))]) (nx := 4) [] []) ?_
  refine awp_seq ?_
  refine bE hF fun x h8 hF => ?_
  obtain ⟨vr, vr1⟩ := x
  refine awp_region ?_
  refine aR 3 ?_
  refine aCf (twin_Clear_ok h8) (plainO_one (f := api_Cell.enc) fun _ => by kernel_rfl) [] [] [1] ?_
  refine aR 5 ?_
  refine aE ?_
  refine awp_to (oT (m := ⟨[(1, ⟨49, 8, List.map api_Cell.enc vr3⟩)], [(0, [.own 1 none]), (2, [.d (.int .i64 vr7.Kind), .d (.bool vr7.Flag), .d (.int .i64 vr7.Number), .d (.str vr7.Words)]), (3, [.d (.int .i64 vr2.At), .d (.str vr2.By), .d (.int .i64 vr2.No)])]⟩) (ts := [(4, .v (.one (.box 0 0))), (5, .v (.one (.d (.lst (List.map api_Cell.enc vr3_1))))), (6, .v (.one (.d (.str vr4)))), (7, .v (.one (.box 2 0))), (8, .v (.one (.box 3 0))), (9, .v (.one (.d (.lst (List.map api_Cell.enc vr2_1))))), (10, .v (.one (.d (.int .i64 vr4_1)))), (11, .v (.one (.d (.lst (List.map api_Cell.enc vr2_2))))), (12, .v (.one (.d (.int .i64 vr4_2)))), (13, .v (.one (.d (.lst (List.map api_Cell.enc vr))))), (14, .v (.one (.d (.int .i64 vr1))))]) (nx := 4) [] []) ?_
  refine awp_seq ?_
  refine bE hF fun vr5 h9 hF => ?_
  refine awp_region ?_
  refine aR 1 ?_
  refine aC (fleetref2_CellsFault_ok h9) [] [] [1] ?_
  refine aR 2 ?_
  refine aE ?_
  refine awp_seq ?_
  refine awp_seq ?_
  refine bE hF fun vr6 h10 hF => ?_
  refine aD ?_
  refine dR 1 ?_
  refine dC (twin_CheckCells_ok h10) [] [] [1] ?_
  refine dR 2 ?_
  refine dE ?_
  refine cE hF (fun h11 hF => ?_) fun h11 hF => ?_
  · refine awp_true (by kernel_rfl) h11 ?_
    refine awp_seq ?_
    refine awp_region ?_
    refine aR 1 ?_
    refine aE ?_
    refine awp_ret ?_
    exact oF hF [] []
  · refine awp_false (by kernel_rfl) h11 ?_
    refine awp_skip ?_
    refine awp_seq ?_
    refine awp_region ?_
    refine aR 2 ?_
    refine aE ?_
    refine awp_seq ?_
    refine bE hF fun x h12 hF => ?_
    obtain ⟨vr4_3, vr5_1⟩ := x
    refine awp_region ?_
    refine aR 2 ?_
    refine aC (fleetlaw2_CellsMerge_1_b1o_ok h12) [(0, 2004), (1, 0), (2, 1)] [] [] ?_
    refine aR 5 ?_
    refine aE ?_
    refine awp_to (oT (m := ⟨[(4, ⟨49, 8, List.map api_Cell.enc vr3⟩)], [(0, [.d (.int .i64 vr7.Kind), .d (.bool vr7.Flag), .d (.int .i64 vr7.Number), .d (.str vr7.Words)]), (1, [.d (.int .i64 vr2.At), .d (.str vr2.By), .d (.int .i64 vr2.No)]), (2, [.d (.int .i64 vr5)]), (3, [.own 4 none])]⟩) (ts := [(6, .v (.one (.d (.str vr4)))), (7, .v (.one (.box 0 0))), (8, .v (.one (.box 1 0))), (9, .v (.one (.d (.lst (List.map api_Cell.enc vr2_1))))), (10, .v (.one (.d (.int .i64 vr4_1)))), (11, .v (.one (.d (.lst (List.map api_Cell.enc vr2_2))))), (12, .v (.one (.d (.int .i64 vr4_2)))), (13, .v (.one (.d (.lst (List.map api_Cell.enc vr))))), (14, .v (.one (.d (.int .i64 vr1)))), (16, .v (.one (.fn 44 [2, 3]))), (17, .v (.one (.d (.lst (List.map api_Cell.enc vr4_3))))), (18, .v (.one (.d (.int .i64 vr5_1))))]) (nx := 5) [(0, 2), (1, 3), (2, 2004), (3, 0), (4, 12007)] []) ?_
    refine awp_seq ?_
    refine bE hF fun vr8 h13 hF => ?_
    refine bE hF fun x h14 hF => ?_
    obtain ⟨vr4_4, vr5_2⟩ := x
    refine aD ?_
    refine dR 10 ?_
    refine dC (fleetlaw2_when_ok h13) [] [] [] ?_
    refine dC (fleetlaw2_CellsMerge_1_o0_b1o_ok h14) [(0, 2), (1, 3), (2, 6005), (3, 4)] [] [] ?_
    refine dR 5 ?_
    refine dE ?_
    refine awp_to (oT (m := ⟨[(3, ⟨49, 8, List.map api_Cell.enc vr3⟩)], [(0, [.d (.int .i64 vr2.At), .d (.str vr2.By), .d (.int .i64 vr2.No)]), (1, [.d (.int .i64 vr5)]), (2, [.own 3 none])]⟩) (ts := [(6, .v (.one (.d (.str vr4)))), (8, .v (.one (.box 0 0))), (9, .v (.one (.d (.lst (List.map api_Cell.enc vr2_1))))), (10, .v (.one (.d (.int .i64 vr4_1)))), (11, .v (.one (.d (.lst (List.map api_Cell.enc vr2_2))))), (12, .v (.one (.d (.int .i64 vr4_2)))), (13, .v (.one (.d (.lst (List.map api_Cell.enc vr))))), (14, .v (.one (.d (.int .i64 vr1)))), (16, .v (.one (.fn 44 [1, 2]))), (17, .v (.one (.d (.lst (List.map api_Cell.enc vr4_3))))), (18, .v (.one (.d (.int .i64 vr5_1)))), (19, .v (.one (.d (.lst (List.map api_Cell.enc vr4_4))))), (20, .v (.one (.d (.int .i64 vr5_2))))]) (nx := 4) [(0, 1), (1, 2), (2, 3), (3, 11009)] []) ?_
    refine awp_seq ?_
    refine bE hF fun x h15 hF => ?_
    obtain ⟨vr4_5, vr5_3⟩ := x
    refine awp_region ?_
    refine aR 6 ?_
    refine aC (fleetlaw2_CellsMerge_1_o0_b1o_ok h15) [(0, 1), (1, 2), (2, 5004)] [] [] ?_
    refine aR 5 ?_
    refine aE ?_
    refine awp_to (oT (m := ⟨[], []⟩) (ts := [(9, .v (.one (.d (.lst (List.map api_Cell.enc vr2_1))))), (10, .v (.one (.d (.int .i64 vr4_1)))), (11, .v (.one (.d (.lst (List.map api_Cell.enc vr2_2))))), (12, .v (.one (.d (.int .i64 vr4_2)))), (13, .v (.one (.d (.lst (List.map api_Cell.enc vr))))), (14, .v (.one (.d (.int .i64 vr1)))), (17, .v (.one (.d (.lst (List.map api_Cell.enc vr4_3))))), (18, .v (.one (.d (.int .i64 vr5_1)))), (19, .v (.one (.d (.lst (List.map api_Cell.enc vr4_4))))), (20, .v (.one (.d (.int .i64 vr5_2)))), (21, .v (.one (.d (.lst (List.map api_Cell.enc vr4_5))))), (22, .v (.one (.d (.int .i64 vr5_3))))]) (nx := 0) [] []) ?_
    refine awp_seq ?_
    refine awp_to (st' := fleetlaw2_CellsMerge_x1_I vr2_1 vr4_1 vr2_2 vr4_2 vr vr1 vr4_3 vr5_1 vr4_4 vr5_2 vr4_5 vr5_3) (oT [] []) ?_
    refine bE hF fun vx1 h26 hF => ?_
    refine awp_sub (fleetlaw2_CellsMerge_x1_ok vr2_1 vr4_1 vr2_2 vr4_2 vr vr1 vr4_3 vr5_1 vr4_4 vr5_2 vr4_5 vr5_3 h26) ?_
    refine awp_ret ?_
    exact oF hF [] []

end Go.Eng
