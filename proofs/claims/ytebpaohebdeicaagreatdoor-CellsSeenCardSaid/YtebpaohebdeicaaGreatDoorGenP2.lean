/-
The code of the Go functions that the law CellsSeen reaches does what the plain functions say, part 2.
-/
import Derived.Test.YtebpaohebdeicaaGreatDoorGenP1

namespace Go.Eng

open Go Go.Proofs.Tryz

set_option linter.unusedVariables false

set_option maxRecDepth 20000

set_option maxHeartbeats 0

/-! ### strings.IndexFunc -/
def strings_IndexFunc_f1_fleetref2_Printed_1_R (qs : List UInt8) (r : Int) : TV × Mem := (.v (.one (.d (.int .i64 r))), ⟨[], []⟩)

theorem strings_IndexFunc_f1_fleetref2_Printed_1_ok {qs : List UInt8} {r} (hF : strings_IndexFunc_f1_fleetref2_Printed_1 qs = some r) : Holds prog 179 [.v (.one (.d (.str qs))), .v (.one (.fn 145 []))] ⟨[], []⟩ (Is (strings_IndexFunc_f1_fleetref2_Printed_1_R qs r)) := by
  unfold strings_IndexFunc_f1_fleetref2_Printed_1 at hF
  refine holds_of_awp hΓ (fn := f179) (c := cB f179) (A := 0) (nx := 0) (by kernel_rfl) (by kernel_rfl) (by kernel_rfl) (by kernel_rfl) (by kernel_rfl) (by kernel_rfl) (lowc_of (by kernel_rfl)) ?_
  show Awp prog 0 8 (cB f179) _ _
  refine awp_seq ?_
  refine awp_region ?_
  refine aR 1 ?_
  refine aE ?_
  refine awp_seq ?_
  refine bE hF fun vr2 h1 hF => ?_
  refine awp_region ?_
  refine aR 2 ?_
  refine aC (strings_indexFunc_f1_fleetref2_Printed_1_ok h1) [] [] [] ?_
  refine aR 1 ?_
  refine aE ?_
  refine awp_ret ?_
  exact oF hF [] []

/-! ### strings.ContainsFunc -/
def strings_ContainsFunc_f1_fleetref2_Printed_1_R (qs : List UInt8) (r : Bool) : TV × Mem := (.v (.one (.d (.bool r))), ⟨[], []⟩)

theorem strings_ContainsFunc_f1_fleetref2_Printed_1_ok {qs : List UInt8} {r} (hF : strings_ContainsFunc_f1_fleetref2_Printed_1 qs = some r) : Holds prog 144 [.v (.one (.d (.str qs))), .v (.one (.fn 145 []))] ⟨[], []⟩ (Is (strings_ContainsFunc_f1_fleetref2_Printed_1_R qs r)) := by
  unfold strings_ContainsFunc_f1_fleetref2_Printed_1 at hF
  refine holds_of_awp hΓ (fn := f144) (c := cB f144) (A := 0) (nx := 0) (by kernel_rfl) (by kernel_rfl) (by kernel_rfl) (by kernel_rfl) (by kernel_rfl) (by kernel_rfl) (lowc_of (by kernel_rfl)) ?_
  show Awp prog 0 9 (cB f144) _ _
  refine awp_seq ?_
  refine awp_region ?_
  refine aR 1 ?_
  refine aE ?_
  refine awp_seq ?_
  refine bE hF fun vr h1 hF => ?_
  refine awp_region ?_
  refine aR 2 ?_
  refine aC (strings_IndexFunc_f1_fleetref2_Printed_1_ok h1) [] [] [] ?_
  refine aR 2 ?_
  refine aE ?_
  refine awp_ret ?_
  exact oF hF [] []

/-! ### beaconfleet/fleetref2.Printed -/
def fleetref2_Printed_x1_k : Bool → AEx
  | _ => .normal

def fleetref2_Printed_x1_S (qs : List UInt8) : Bool → St
  | vx => Mem.st ⟨[], []⟩ (tl [(2, .v (.one (.d (.bool vx))))]) 0

def fleetref2_Printed_x1_I (qs : List UInt8) : St := Mem.st ⟨[], []⟩ (tl [(0, .v (.one (.d (.str qs))))]) 0

theorem fleetref2_Printed_x1_ok (qs : List UInt8) {r} (hF : fleetref2_Printed_x1 qs = some r) : Awp prog 0 10 (cL (cR (cB f110))) (Out 0 fleetref2_Printed_x1_k (fleetref2_Printed_x1_S qs) r) (fleetref2_Printed_x1_I qs) := by
  unfold fleetref2_Printed_x1 at hF
  refine bE hF fun vr h1 hF => ?_
  refine cE hF (fun h2 hF => ?_) fun h2 hF => ?_
  · refine bE hF fun vr1 h3 hF => ?_
    refine awp_region ?_
    refine aR 1 ?_
    refine aCb (utf8_ValidString_ok h1) [] [] [] h2 ?_
    refine aR 2 ?_
    refine aC (strings_ContainsFunc_f1_fleetref2_Printed_1_ok h3) [] [] [] ?_
    refine aR 3 ?_
    refine aE ?_
    exact oO hF [] [] rfl
  · refine awp_region ?_
    refine aR 1 ?_
    refine aCb (utf8_ValidString_ok h1) [] [] [] h2 ?_
    refine aR 6 ?_
    refine aE ?_
    exact oO hF [] [] rfl

def fleetref2_Printed_R (qs : List UInt8) (r : Bool) : TV × Mem := (.v (.one (.d (.bool r))), ⟨[], []⟩)

theorem fleetref2_Printed_ok {qs : List UInt8} {r} (hF : fleetref2_Printed qs = some r) : Holds prog 110 [.v (.one (.d (.str qs)))] ⟨[], []⟩ (Is (fleetref2_Printed_R qs r)) := by
  unfold fleetref2_Printed at hF
  refine holds_of_awp hΓ (fn := f110) (c := cB f110) (A := 0) (nx := 0) (by kernel_rfl) (by kernel_rfl) (by kernel_rfl) (by kernel_rfl) (by kernel_rfl) (by kernel_rfl) (lowc_of (by kernel_rfl)) ?_
  show Awp prog 0 10 (cB f110) _ _
  refine awp_seq ?_
  refine awp_region ?_
  refine aR 1 ?_
  refine aE ?_
  refine awp_seq ?_
  refine awp_to (st' := fleetref2_Printed_x1_I qs) (oT [] []) ?_
  refine bE hF fun vx1 h4 hF => ?_
  refine awp_sub (fleetref2_Printed_x1_ok qs h4) ?_
  refine awp_ret ?_
  exact oF hF [] []

/-! ### beaconfleet/fleetref2.ValueFault -/
def fleetref2_ValueFault_x1_k : api_Value → AEx
  | _ => .normal

def fleetref2_ValueFault_x1_S (qv : api_Value) : api_Value → St
  | vplain => Mem.st ⟨[], [(0, [.d (.int .i64 qv.Kind), .d (.bool qv.Flag), .d (.int .i64 qv.Number), .d (.str qv.Words)]), (1, [.d (.int .i64 vplain.Kind), .d (.bool vplain.Flag), .d (.int .i64 vplain.Number), .d (.str vplain.Words)])]⟩ (tl [(1, .v (.one (.box 0 0))), (3, .v (.one (.box 1 0)))]) 2

def fleetref2_ValueFault_x1_I (qv : api_Value) : St := Mem.st ⟨[], [(0, [.d (.int .i64 qv.Kind), .d (.bool qv.Flag), .d (.int .i64 qv.Number), .d (.str qv.Words)]), (1, [.d (.int .i64 qv.Kind), .d (.bool false), .d (.int .i64 0), .d (.str ([] : List UInt8))])]⟩ (tl [(1, .v (.one (.box 0 0))), (3, .v (.one (.box 1 0)))]) 2

theorem fleetref2_ValueFault_x1_ok (qv : api_Value) {r} (hF : fleetref2_ValueFault_x1 qv = some r) : Awp prog 0 47 (cL (cR (cR (cR (cB f58))))) (Out 0 fleetref2_ValueFault_x1_k (fleetref2_ValueFault_x1_S qv) r) (fleetref2_ValueFault_x1_I qv) := by
  unfold fleetref2_ValueFault_x1 at hF
  refine awp_seq ?_
  refine awp_region ?_
  refine aR 2 ?_
  refine aE ?_
  refine awp_block ?_
  refine awp_seq ?_
  refine awp_region ?_
  refine aR 2 ?_
  refine aE ?_
  refine cE hF (fun h3 hF => ?_) fun h3 hF => ?_
  · refine awp_true (by kernel_rfl) h3 ?_
    refine awp_region ?_
    refine aR 4 ?_
    refine aE ?_
    exact oO hF [] [] rfl
  · refine awp_false (by kernel_rfl) h3 ?_
    refine awp_seq ?_
    refine awp_region ?_
    refine aR 2 ?_
    refine aE ?_
    refine cE hF (fun h4 hF => ?_) fun h4 hF => ?_
    · refine awp_true (by kernel_rfl) h4 ?_
      refine awp_region ?_
      refine aR 4 ?_
      refine aE ?_
      exact oO hF [] [] rfl
    · refine awp_false (by kernel_rfl) h4 ?_
      refine awp_seq ?_
      refine awp_region ?_
      refine aR 2 ?_
      refine aE ?_
      refine cE hF (fun h5 hF => ?_) fun h5 hF => ?_
      · refine awp_true (by kernel_rfl) h5 ?_
        refine awp_region ?_
        refine aR 4 ?_
        refine aE ?_
        exact oO hF [] [] rfl
      · refine awp_false (by kernel_rfl) h5 ?_
        refine awp_skip ?_
        exact oO hF [] [] rfl

def fleetref2_ValueFault_R (qv : api_Value) (r : Int) : TV × Mem := (.v (.one (.d (.int .i64 r))), ⟨[], []⟩)

theorem fleetref2_ValueFault_ok {qv : api_Value} {r} (hF : fleetref2_ValueFault qv = some r) : Holds prog 58 [.v (.agg [.d (.int .i64 qv.Kind), .d (.bool qv.Flag), .d (.int .i64 qv.Number), .d (.str qv.Words)])] ⟨[], []⟩ (Is (fleetref2_ValueFault_R qv r)) := by
  unfold fleetref2_ValueFault at hF
  refine holds_of_awp hΓ (fn := f58) (c := cB f58) (A := 0) (nx := 0) (by kernel_rfl) (by kernel_rfl) (by kernel_rfl) (by kernel_rfl) (by kernel_rfl) (by kernel_rfl) (lowc_of (by kernel_rfl)) ?_
  show Awp prog 0 47 (cB f58) _ _
  refine awp_seq ?_
  refine awp_region ?_
  refine aR 2 ?_
  refine aE ?_
  refine awp_seq ?_
  refine awp_seq ?_
  refine bE hF fun vr h1 hF => ?_
  refine awp_region ?_
  refine aR 2 ?_
  refine aC (fleetref2_in_ok h1) [] [] [] ?_
  refine aR 1 ?_
  refine aE ?_
  refine cE hF (fun h2 hF => ?_) fun h2 hF => ?_
  · refine awp_true (by kernel_rfl) h2 ?_
    refine awp_seq ?_
    refine awp_region ?_
    refine aR 1 ?_
    refine aE ?_
    refine awp_ret ?_
    exact oF hF [] []
  · refine awp_false (by kernel_rfl) h2 ?_
    refine awp_skip ?_
    refine awp_seq ?_
    refine awp_region ?_
    refine aR 5 ?_
    refine aE ?_
    refine awp_seq ?_
    refine awp_to (st' := fleetref2_ValueFault_x1_I qv) (oT [(1, 9000)] []) ?_
    refine bE hF fun vplain1 h6 hF => ?_
    refine awp_sub (fleetref2_ValueFault_x1_ok qv h6) ?_
    refine awp_seq ?_
    refine awp_block ?_
    refine awp_seq ?_
    refine awp_region ?_
    refine aR 2 ?_
    refine aS (does_eqS (op := .neq) (xs := [.int .i64 vplain1.Kind, .bool vplain1.Flag, .int .i64 vplain1.Number, .str vplain1.Words]) (ys := [.int .i64 qv.Kind, .bool qv.Flag, .int .i64 qv.Number, .str qv.Words]) (b := (decide (vplain1.Kind = qv.Kind) && ((vplain1.Flag == qv.Flag) && (decide (vplain1.Number = qv.Number) && (decide (vplain1.Words = qv.Words) && true))))) (c := (!(decide (vplain1.Kind = qv.Kind) && ((vplain1.Flag == qv.Flag) && (decide (vplain1.Number = qv.Number) && (decide (vplain1.Words = qv.Words) && true)))))) rfl (.inr ⟨rfl, rfl⟩) (by kernel_rfl) (by kernel_rfl) (by kernel_rfl) (by kernel_rfl) (by kernel_rfl) (by kernel_rfl)) ?_
    refine aR 1 ?_
    refine aE ?_
    refine cE hF (fun h7 hF => ?_) fun h7 hF => ?_
    · refine awp_true (by kernel_rfl) h7 ?_
      refine awp_seq ?_
      refine awp_region ?_
      refine aR 1 ?_
      refine aE ?_
      refine awp_ret ?_
      exact oF hF [] []
    · refine awp_false (by kernel_rfl) h7 ?_
      refine awp_seq ?_
      refine bE hF fun vr1 h8 hF => ?_
      refine awp_region ?_
      refine aR 2 ?_
      refine aC (fleetref2_in_ok h8) [] [] [] ?_
      refine aR 2 ?_
      refine aE ?_
      refine cE hF (fun h9 hF => ?_) fun h9 hF => ?_
      · refine awp_true (by kernel_rfl) h9 ?_
        refine awp_seq ?_
        refine awp_region ?_
        refine aR 1 ?_
        refine aE ?_
        refine awp_ret ?_
        exact oF hF [] []
      · refine awp_false (by kernel_rfl) h9 ?_
        refine awp_seq ?_
        refine awp_region ?_
        refine aR 5 ?_
        refine aE ?_
        refine cE hF (fun h10 hF => ?_) fun h10 hF => ?_
        · refine awp_true (by kernel_rfl) h10 ?_
          refine awp_seq ?_
          refine awp_region ?_
          refine aR 1 ?_
          refine aE ?_
          refine awp_ret ?_
          exact oF hF [] []
        · refine awp_false (by kernel_rfl) h10 ?_
          refine awp_seq ?_
          refine bE hF fun vr2 h11 hF => ?_
          refine awp_region ?_
          refine aR 2 ?_
          refine aC (fleetref2_Printed_ok h11) [] [] [] ?_
          refine aR 2 ?_
          refine aE ?_
          refine cE hF (fun h12 hF => ?_) fun h12 hF => ?_
          · refine awp_true (by kernel_rfl) h12 ?_
            refine awp_seq ?_
            refine awp_region ?_
            refine aR 1 ?_
            refine aE ?_
            refine awp_ret ?_
            exact oF hF [] []
          · refine awp_false (by kernel_rfl) h12 ?_
            refine awp_skip ?_
            refine awp_seq ?_
            refine awp_region ?_
            refine aR 1 ?_
            refine aE ?_
            refine awp_ret ?_
            exact oF hF [] []

/-! ### beaconfleet/fleetref2.Moment -/
def fleetref2_Moment_R (qat : Int) (r : Bool) : TV × Mem := (.v (.one (.d (.bool r))), ⟨[], []⟩)

theorem fleetref2_Moment_ok {qat : Int} {r} (hF : fleetref2_Moment qat = some r) : Holds prog 111 [.v (.one (.d (.int .i64 qat)))] ⟨[], []⟩ (Is (fleetref2_Moment_R qat r)) := by
  unfold fleetref2_Moment at hF
  refine holds_of_awp hΓ (fn := f111) (c := cB f111) (A := 0) (nx := 0) (by kernel_rfl) (by kernel_rfl) (by kernel_rfl) (by kernel_rfl) (by kernel_rfl) (by kernel_rfl) (lowc_of (by kernel_rfl)) ?_
  show Awp prog 0 5 (cB f111) _ _
  refine awp_seq ?_
  refine awp_region ?_
  refine aR 1 ?_
  refine aE ?_
  refine awp_seq ?_
  refine bE hF fun vr h1 hF => ?_
  refine awp_region ?_
  refine aR 1 ?_
  refine aC (fleetref2_in_ok h1) [] [] [] ?_
  refine aR 1 ?_
  refine aE ?_
  refine awp_ret ?_
  exact oF hF [] []

/-! ### beaconfleet/fleetref2.StampFault -/
def fleetref2_StampFault_R (qs : api_Stamp) (r : Int) : TV × Mem := (.v (.one (.d (.int .i64 r))), ⟨[], []⟩)

theorem fleetref2_StampFault_ok {qs : api_Stamp} {r} (hF : fleetref2_StampFault qs = some r) : Holds prog 59 [.v (.agg [.d (.int .i64 qs.At), .d (.str qs.By), .d (.int .i64 qs.No)])] ⟨[], []⟩ (Is (fleetref2_StampFault_R qs r)) := by
  unfold fleetref2_StampFault at hF
  refine holds_of_awp hΓ (fn := f59) (c := cB f59) (A := 0) (nx := 0) (by kernel_rfl) (by kernel_rfl) (by kernel_rfl) (by kernel_rfl) (by kernel_rfl) (by kernel_rfl) (lowc_of (by kernel_rfl)) ?_
  show Awp prog 0 18 (cB f59) _ _
  refine awp_seq ?_
  refine awp_region ?_
  refine aR 2 ?_
  refine aE ?_
  refine awp_seq ?_
  refine awp_block ?_
  refine awp_seq ?_
  refine bE hF fun vr1 h1 hF => ?_
  refine awp_region ?_
  refine aR 2 ?_
  refine aC (fleetref2_Moment_ok h1) [] [] [] ?_
  refine aR 2 ?_
  refine aE ?_
  refine cE hF (fun h2 hF => ?_) fun h2 hF => ?_
  · refine awp_true (by kernel_rfl) h2 ?_
    refine awp_seq ?_
    refine awp_region ?_
    refine aR 1 ?_
    refine aE ?_
    refine awp_ret ?_
    exact oF hF [] []
  · refine awp_false (by kernel_rfl) h2 ?_
    refine awp_seq ?_
    refine bE hF fun vr3 h3 hF => ?_
    refine awp_region ?_
    refine aR 2 ?_
    refine aC (fleetref2_Key_ok h3) [] [] [] ?_
    refine aR 2 ?_
    refine aE ?_
    refine cE hF (fun h4 hF => ?_) fun h4 hF => ?_
    · refine awp_true (by kernel_rfl) h4 ?_
      refine awp_seq ?_
      refine awp_region ?_
      refine aR 1 ?_
      refine aE ?_
      refine awp_ret ?_
      exact oF hF [] []
    · refine awp_false (by kernel_rfl) h4 ?_
      refine awp_seq ?_
      refine bE hF fun vr h5 hF => ?_
      refine awp_region ?_
      refine aR 2 ?_
      refine aC (fleetref2_in_ok h5) [] [] [] ?_
      refine aR 2 ?_
      refine aE ?_
      refine cE hF (fun h6 hF => ?_) fun h6 hF => ?_
      · refine awp_true (by kernel_rfl) h6 ?_
        refine awp_seq ?_
        refine awp_region ?_
        refine aR 1 ?_
        refine aE ?_
        refine awp_ret ?_
        exact oF hF [] []
      · refine awp_false (by kernel_rfl) h6 ?_
        refine awp_skip ?_
        refine awp_seq ?_
        refine awp_region ?_
        refine aR 1 ?_
        refine aE ?_
        refine awp_ret ?_
        exact oF hF [] []

/-! ### beaconfleet/fleetref2.CellsFault -/
def fleetref2_CellsFault_x2_k : Unit ⊕ Int → AEx
  | .inl _ => .exit 2
  | .inr _ => .ret

def fleetref2_CellsFault_x2_S (ql : List api_Cell) (vx : Int) (vy4 : api_Cell) (vr3_1 : Int) (vr2_3 : Int) : Unit ⊕ Int → St
  | .inl _ => Mem.st ⟨[], [(0, [.d (.str vy4.Prop_.Name), .d (.int .i64 vy4.Prop_.Value.Kind), .d (.bool vy4.Prop_.Value.Flag), .d (.int .i64 vy4.Prop_.Value.Number), .d (.str vy4.Prop_.Value.Words), .d (.int .i64 vy4.Stamp.At), .d (.str vy4.Stamp.By), .d (.int .i64 vy4.Stamp.No)])]⟩ (tl [(0, .v (.one (.d (.lst (List.map api_Cell.enc ql))))), (3, .v (.one (.d (.int .i64 vx)))), (4, .v (.one (.box 0 0))), (10, .v (.one (.d (.lst (List.map api_Cell.enc ql))))), (11, .v (.one (.d (.int .i64 (ql.length : Int))))), (12, .v (.one (.d (.int .i64 vx))))]) 1
  | .inr vx5 => Mem.st ⟨[], []⟩ (tl [(2, .v (.one (.d (.int .i64 vx5))))]) 0

def fleetref2_CellsFault_x2_H (ql : List api_Cell) (vx : Int) (vy4 : api_Cell) (vr3_1 : Int) (vr2_3 : Int) : Int → St
  | vx4 => Mem.st ⟨[], [(0, [.d (.str vy4.Prop_.Name), .d (.int .i64 vy4.Prop_.Value.Kind), .d (.bool vy4.Prop_.Value.Flag), .d (.int .i64 vy4.Prop_.Value.Number), .d (.str vy4.Prop_.Value.Words), .d (.int .i64 vy4.Stamp.At), .d (.str vy4.Stamp.By), .d (.int .i64 vy4.Stamp.No)])]⟩ (tl [(0, .v (.one (.d (.lst (List.map api_Cell.enc ql))))), (3, .v (.one (.d (.int .i64 vx)))), (4, .v (.one (.box 0 0))), (10, .v (.one (.d (.lst (List.map api_Cell.enc ql))))), (11, .v (.one (.d (.int .i64 (ql.length : Int))))), (12, .v (.one (.d (.int .i64 vx)))), (29, .v (.one (.d (.lst (List.map (encI .i64) ([vr3_1, vr2_3] : List Int)))))), (30, .v (.one (.d (.int .i64 (([vr3_1, vr2_3] : List Int).length : Int))))), (31, .v (.one (.d (.int .i64 vx4))))]) 1

theorem fleetref2_CellsFault_x2_ok (ql : List api_Cell) (vx : Int) (vy4 : api_Cell) (vr3_1 : Int) (vr2_3 : Int) (vx4 : Int) (r : (Int) ⊕ (Unit ⊕ Int)) (hF : fleetref2_CellsFault_x2 vr3_1 vr2_3 vx4 = some r) : Awp prog 0 55 (cL (cL (cR (cL (cR (cR (cL (cL (cR (cR (cL (cL (cR (cL (cR (cR (cB f11))))))))))))))))) (Out 0 (kk fleetref2_CellsFault_x2_k) (SS (fleetref2_CellsFault_x2_H ql vx vy4 vr3_1 vr2_3) (fleetref2_CellsFault_x2_S ql vx vy4 vr3_1 vr2_3)) r) (fleetref2_CellsFault_x2_H ql vx vy4 vr3_1 vr2_3 vx4) := by
  unfold fleetref2_CellsFault_x2 at hF
  refine awp_seq ?_
  refine awp_region ?_
  refine aR 1 ?_
  refine aE ?_
  refine awp_seq ?_
  refine cE hF (fun h8 hF => ?_) fun h8 hF => ?_
  · refine awp_true (by kernel_rfl) h8 ?_
    refine awp_skip ?_
    refine awp_seq ?_
    refine awp_block ?_
    refine awp_seq ?_
    refine bE hF fun vy6 h9 hF => ?_
    refine awp_region ?_
    refine aX (x_idx (encI .i64) h9) ?_
    refine aR 2 ?_
    refine aE ?_
    refine awp_seq ?_
    refine awp_region ?_
    refine aR 2 ?_
    refine aE ?_
    refine cE hF (fun h10 hF => ?_) fun h10 hF => ?_
    · refine awp_true (by kernel_rfl) h10 ?_
      refine awp_seq ?_
      refine awp_region ?_
      refine aR 2 ?_
      refine aE ?_
      refine awp_ret ?_
      exact oO hF [] [] rfl
    · refine awp_false (by kernel_rfl) h10 ?_
      refine awp_skip ?_
      refine awp_region ?_
      refine aR 2 ?_
      refine aE ?_
      exact oO hF [] [] rfl
  · refine awp_false (by kernel_rfl) h8 ?_
    refine awp_exit ?_
    exact oO hF [] [] rfl

def fleetref2_CellsFault_x3_k : Bool → AEx
  | _ => .normal

def fleetref2_CellsFault_x3_S (ql : List api_Cell) (vx : Int) (vy4 : api_Cell) : Bool → St
  | vx6 => Mem.st ⟨[], []⟩ (tl [(0, .v (.one (.d (.lst (List.map api_Cell.enc ql))))), (10, .v (.one (.d (.lst (List.map api_Cell.enc ql))))), (11, .v (.one (.d (.int .i64 (ql.length : Int))))), (12, .v (.one (.d (.int .i64 vx)))), (53, .v (.one (.d (.bool vx6))))]) 0

def fleetref2_CellsFault_x3_I (ql : List api_Cell) (vx : Int) (vy4 : api_Cell) : St := Mem.st ⟨[], [(0, [.d (.str vy4.Prop_.Name), .d (.int .i64 vy4.Prop_.Value.Kind), .d (.bool vy4.Prop_.Value.Flag), .d (.int .i64 vy4.Prop_.Value.Number), .d (.str vy4.Prop_.Value.Words), .d (.int .i64 vy4.Stamp.At), .d (.str vy4.Stamp.By), .d (.int .i64 vy4.Stamp.No)])]⟩ (tl [(0, .v (.one (.d (.lst (List.map api_Cell.enc ql))))), (3, .v (.one (.d (.int .i64 vx)))), (4, .v (.one (.box 0 0))), (10, .v (.one (.d (.lst (List.map api_Cell.enc ql))))), (11, .v (.one (.d (.int .i64 (ql.length : Int))))), (12, .v (.one (.d (.int .i64 vx))))]) 1

theorem fleetref2_CellsFault_x3_ok (ql : List api_Cell) (vx : Int) (vy4 : api_Cell) {r} (hF : fleetref2_CellsFault_x3 ql vx vy4 = some r) : Awp prog 0 55 (cL (cR (cR (cR (cL (cL (cR (cR (cL (cL (cR (cL (cR (cR (cB f11))))))))))))))) (Out 0 fleetref2_CellsFault_x3_k (fleetref2_CellsFault_x3_S ql vx vy4) r) (fleetref2_CellsFault_x3_I ql vx vy4) := by
  unfold fleetref2_CellsFault_x3 at hF
  refine cE hF (fun h12 hF => ?_) fun h12 hF => ?_
  · refine bE hF fun vy7 h13 hF => ?_
    refine aD ?_
    refine dR 1 ?_
    refine dB h12 ?_
    refine dR 7 ?_
    refine dX (x_idx api_Cell.enc h13) ?_
    refine dR 5 ?_
    refine dE ?_
    exact oO hF [] [] rfl
  · refine aD ?_
    refine dR 1 ?_
    refine dB h12 ?_
    refine dR 13 ?_
    refine dE ?_
    exact oO hF [] [] rfl

def fleetref2_CellsFault_x1_k : Unit ⊕ Int → AEx
  | .inl _ => .exit 0
  | .inr _ => .ret

def fleetref2_CellsFault_x1_S (ql : List api_Cell) : Unit ⊕ Int → St
  | .inl _ => Mem.st ⟨[], []⟩ (tl []) 0
  | .inr vx7 => Mem.st ⟨[], []⟩ (tl [(2, .v (.one (.d (.int .i64 vx7))))]) 0

def fleetref2_CellsFault_x1_H (ql : List api_Cell) : Int → St
  | vx => Mem.st ⟨[], []⟩ (tl [(0, .v (.one (.d (.lst (List.map api_Cell.enc ql))))), (10, .v (.one (.d (.lst (List.map api_Cell.enc ql))))), (11, .v (.one (.d (.int .i64 (ql.length : Int))))), (12, .v (.one (.d (.int .i64 vx))))]) 0

theorem fleetref2_CellsFault_x1_ok (ql : List api_Cell) (vx : Int) (r : (Int) ⊕ (Unit ⊕ Int)) (hF : fleetref2_CellsFault_x1 ql vx = some r) : Awp prog 0 55 (cL (cL (cR (cL (cR (cR (cB f11))))))) (Out 0 (kk fleetref2_CellsFault_x1_k) (SS (fleetref2_CellsFault_x1_H ql) (fleetref2_CellsFault_x1_S ql)) r) (fleetref2_CellsFault_x1_H ql vx) := by
  unfold fleetref2_CellsFault_x1 at hF
  refine awp_seq ?_
  refine awp_region ?_
  refine aR 1 ?_
  refine aE ?_
  refine awp_seq ?_
  refine cE hF (fun h2 hF => ?_) fun h2 hF => ?_
  · refine awp_true (by kernel_rfl) h2 ?_
    refine awp_skip ?_
    refine awp_seq ?_
    refine awp_block ?_
    refine awp_seq ?_
    refine bE hF fun vy4 h3 hF => ?_
    refine awp_region ?_
    refine aR 1 ?_
    refine aX (x_idx api_Cell.enc h3) ?_
    refine aR 4 ?_
    refine aE ?_
    refine awp_seq ?_
    refine awp_seq ?_
    refine bE hF fun vr2_2 h4 hF => ?_
    refine awp_region ?_
    refine aR 3 ?_
    refine aC (fleetref2_PropName_ok h4) [] [] [] ?_
    refine aR 1 ?_
    refine aE ?_
    refine cE hF (fun h5 hF => ?_) fun h5 hF => ?_
    · refine awp_true (by kernel_rfl) h5 ?_
      refine awp_seq ?_
      refine awp_region ?_
      refine aR 1 ?_
      refine aE ?_
      refine awp_ret ?_
      exact oO hF [] [] rfl
    · refine awp_false (by kernel_rfl) h5 ?_
      refine awp_skip ?_
      refine awp_seq ?_
      refine awp_seq ?_
      refine bE hF fun vr3_1 h6 hF => ?_
      refine bE hF fun vr2_3 h7 hF => ?_
      refine aD ?_
      refine dR 3 ?_
      refine dC (fleetref2_ValueFault_ok h6) [] [] [] ?_
      refine dR 2 ?_
      refine dC (fleetref2_StampFault_ok h7) [] [] [] ?_
      refine dR 1 ?_
      refine dL (encI .i64) ([vr3_1, vr2_3] : List Int) ?_
      refine dR 1 ?_
      refine dE ?_
      refine awp_to (oT (m := ⟨[], [(0, [.d (.str vy4.Prop_.Name), .d (.int .i64 vy4.Prop_.Value.Kind), .d (.bool vy4.Prop_.Value.Flag), .d (.int .i64 vy4.Prop_.Value.Number), .d (.str vy4.Prop_.Value.Words), .d (.int .i64 vy4.Stamp.At), .d (.str vy4.Stamp.By), .d (.int .i64 vy4.Stamp.No)])]⟩) (ts := [(0, .v (.one (.d (.lst (List.map api_Cell.enc ql))))), (3, .v (.one (.d (.int .i64 vx)))), (4, .v (.one (.box 0 0))), (10, .v (.one (.d (.lst (List.map api_Cell.enc ql))))), (11, .v (.one (.d (.int .i64 (ql.length : Int))))), (12, .v (.one (.d (.int .i64 vx)))), (29, .v (.one (.d (.lst (List.map (encI .i64) ([vr3_1, vr2_3] : List Int)))))), (30, .v (.one (.d (.int .i64 (([vr3_1, vr2_3] : List Int).length : Int))))), (31, .v (.one (.d (.int .i64 0))))]) (nx := 1) [(0, 4000)] []) ?_
      refine awp_block ?_
      refine awp_to (st' := fleetref2_CellsFault_x2_H ql vx vy4 vr3_1 vr2_3 0) (oT [] []) ?_
      refine bE hF fun x h11 hF => ?_
      rcases x with _ | vx5_1
      · refine awp_sub (awp_loop' (fleetref2_CellsFault_x2_H ql vx vy4 vr3_1 vr2_3) fleetref2_CellsFault_x2_k (fleetref2_CellsFault_x2_S ql vx vy4 vr3_1 vr2_3) (by intro x; rcases x with x | x <;> exact fun h => nomatch h) h11 (fleetref2_CellsFault_x2_ok ql vx vy4 vr3_1 vr2_3)) ?_
        refine awp_seq ?_
        refine awp_to (st' := fleetref2_CellsFault_x3_I ql vx vy4) (oT [] []) ?_
        refine bE hF fun vx6_1 h14 hF => ?_
        refine awp_sub (fleetref2_CellsFault_x3_ok ql vx vy4 h14) ?_
        refine cE hF (fun h15 hF => ?_) fun h15 hF => ?_
        · refine awp_true (by kernel_rfl) h15 ?_
          refine awp_seq ?_
          refine awp_region ?_
          refine aR 1 ?_
          refine aE ?_
          refine awp_ret ?_
          exact oO hF [] [] rfl
        · refine awp_false (by kernel_rfl) h15 ?_
          refine awp_skip ?_
          refine awp_region ?_
          refine aR 2 ?_
          refine aE ?_
          exact oO hF [] [] rfl
      · refine awp_sub (awp_loop' (fleetref2_CellsFault_x2_H ql vx vy4 vr3_1 vr2_3) fleetref2_CellsFault_x2_k (fleetref2_CellsFault_x2_S ql vx vy4 vr3_1 vr2_3) (by intro x; rcases x with x | x <;> exact fun h => nomatch h) h11 (fleetref2_CellsFault_x2_ok ql vx vy4 vr3_1 vr2_3)) ?_
        exact oO hF [] [] rfl
  · refine awp_false (by kernel_rfl) h2 ?_
    refine awp_exit ?_
    exact oO hF [] [] rfl

def fleetref2_CellsFault_R (ql : List api_Cell) (r : Int) : TV × Mem := (.v (.one (.d (.int .i64 r))), ⟨[], []⟩)

theorem fleetref2_CellsFault_ok {ql : List api_Cell} {r} (hF : fleetref2_CellsFault ql = some r) : Holds prog 11 [.v (.one (.d (.lst (List.map api_Cell.enc ql))))] ⟨[], []⟩ (Is (fleetref2_CellsFault_R ql r)) := by
  unfold fleetref2_CellsFault at hF
  refine holds_of_awp hΓ (fn := f11) (c := cB f11) (A := 0) (nx := 0) (by kernel_rfl) (by kernel_rfl) (by kernel_rfl) (by kernel_rfl) (by kernel_rfl) (by kernel_rfl) (lowc_of (by kernel_rfl)) ?_
  show Awp prog 0 55 (cB f11) _ _
  refine awp_seq ?_
  refine awp_region ?_
  refine aR 1 ?_
  refine aE ?_
  refine awp_seq ?_
  refine awp_seq ?_
  refine awp_region ?_
  refine aR 1 ?_
  refine aL api_Cell.enc ql ?_
  refine aR 1 ?_
  refine aE ?_
  refine cE hF (fun h1 hF => ?_) fun h1 hF => ?_
  · refine awp_true (by kernel_rfl) h1 ?_
    refine awp_seq ?_
    refine awp_region ?_
    refine aR 1 ?_
    refine aE ?_
    refine awp_ret ?_
    exact oF hF [] []
  · refine awp_false (by kernel_rfl) h1 ?_
    refine awp_skip ?_
    refine awp_seq ?_
    refine awp_seq ?_
    refine awp_region ?_
    refine aR 1 ?_
    refine aL api_Cell.enc ql ?_
    refine aR 1 ?_
    refine aE ?_
    refine awp_block ?_
    refine awp_to (st' := fleetref2_CellsFault_x1_H ql 0) (oT [] []) ?_
    refine bE hF fun x h16 hF => ?_
    rcases x with _ | vx7_1
    · refine awp_sub (awp_loop' (fleetref2_CellsFault_x1_H ql) fleetref2_CellsFault_x1_k (fleetref2_CellsFault_x1_S ql) (by intro x; rcases x with x | x <;> exact fun h => nomatch h) h16 (fleetref2_CellsFault_x1_ok ql)) ?_
      refine awp_seq ?_
      refine awp_region ?_
      refine aR 1 ?_
      refine aE ?_
      refine awp_ret ?_
      exact oF hF [] []
    · refine awp_sub (awp_loop' (fleetref2_CellsFault_x1_H ql) fleetref2_CellsFault_x1_k (fleetref2_CellsFault_x1_S ql) (by intro x; rcases x with x | x <;> exact fun h => nomatch h) h16 (fleetref2_CellsFault_x1_ok ql)) ?_
      exact oF hF [] []

/-! ### beaconfleet/fleetlaw2.when -/
def fleetlaw2_when_R (qis : Bool) (qe : Int) (r : Int) : TV × Mem := (.v (.one (.d (.int .i64 r))), ⟨[], []⟩)

theorem fleetlaw2_when_ok {qis : Bool} {qe : Int} {r} (hF : fleetlaw2_when qis qe = some r) : Holds prog 13 [.v (.one (.d (.bool qis))), .v (.one (.d (.int .i64 qe)))] ⟨[], []⟩ (Is (fleetlaw2_when_R qis qe r)) := by
  unfold fleetlaw2_when at hF
  refine holds_of_awp hΓ (fn := f13) (c := cB f13) (A := 0) (nx := 0) (by kernel_rfl) (by kernel_rfl) (by kernel_rfl) (by kernel_rfl) (by kernel_rfl) (by kernel_rfl) (lowc_of (by kernel_rfl)) ?_
  show Awp prog 0 7 (cB f13) _ _
  refine awp_seq ?_
  refine awp_region ?_
  refine aR 1 ?_
  refine aE ?_
  refine awp_seq ?_
  refine awp_seq ?_
  refine awp_region ?_
  refine aR 1 ?_
  refine aE ?_
  refine cE hF (fun h1 hF => ?_) fun h1 hF => ?_
  · refine awp_true (by kernel_rfl) h1 ?_
    refine awp_seq ?_
    refine awp_region ?_
    refine aR 2 ?_
    refine aE ?_
    refine awp_ret ?_
    exact oF hF [] []
  · refine awp_false (by kernel_rfl) h1 ?_
    refine awp_skip ?_
    refine awp_seq ?_
    refine awp_region ?_
    refine aR 1 ?_
    refine aE ?_
    refine awp_ret ?_
    exact oF hF [] []

/-! ### beaconfleet/fleetlaw2.errs -/
def fleetlaw2_errs_x1_k : Unit ⊕ Int → AEx
  | .inl _ => .exit 0
  | .inr _ => .ret

def fleetlaw2_errs_x1_S (ql : List Int) : Unit ⊕ Int → St
  | .inl _ => Mem.st ⟨[], []⟩ (tl []) 0
  | .inr vx1 => Mem.st ⟨[], []⟩ (tl [(2, .v (.one (.d (.int .i64 vx1))))]) 0

def fleetlaw2_errs_x1_H (ql : List Int) : Int → St
  | vx => Mem.st ⟨[], []⟩ (tl [(5, .v (.one (.d (.lst (List.map (encI .i64) ql))))), (6, .v (.one (.d (.int .i64 (ql.length : Int))))), (7, .v (.one (.d (.int .i64 vx))))]) 0

theorem fleetlaw2_errs_x1_ok (ql : List Int) (vx : Int) (r : (Int) ⊕ (Unit ⊕ Int)) (hF : fleetlaw2_errs_x1 ql vx = some r) : Awp prog 0 15 (cL (cL (cR (cL (cR (cB f12)))))) (Out 0 (kk fleetlaw2_errs_x1_k) (SS (fleetlaw2_errs_x1_H ql) (fleetlaw2_errs_x1_S ql)) r) (fleetlaw2_errs_x1_H ql vx) := by
  unfold fleetlaw2_errs_x1 at hF
  refine awp_seq ?_
  refine awp_region ?_
  refine aR 1 ?_
  refine aE ?_
  refine awp_seq ?_
  refine cE hF (fun h1 hF => ?_) fun h1 hF => ?_
  · refine awp_true (by kernel_rfl) h1 ?_
    refine awp_skip ?_
    refine awp_seq ?_
    refine awp_block ?_
    refine awp_seq ?_
    refine bE hF fun vy1 h2 hF => ?_
    refine awp_region ?_
    refine aX (x_idx (encI .i64) h2) ?_
    refine aR 2 ?_
    refine aE ?_
    refine awp_seq ?_
    refine awp_region ?_
    refine aR 2 ?_
    refine aE ?_
    refine cE hF (fun h3 hF => ?_) fun h3 hF => ?_
    · refine awp_true (by kernel_rfl) h3 ?_
      refine awp_seq ?_
      refine awp_region ?_
      refine aR 2 ?_
      refine aE ?_
      refine awp_ret ?_
      exact oO hF [] [] rfl
    · refine awp_false (by kernel_rfl) h3 ?_
      refine awp_skip ?_
      refine awp_region ?_
      refine aR 2 ?_
      refine aE ?_
      exact oO hF [] [] rfl
  · refine awp_false (by kernel_rfl) h1 ?_
    refine awp_exit ?_
    exact oO hF [] [] rfl

def fleetlaw2_errs_R (ql : List Int) (r : Int) : TV × Mem := (.v (.one (.d (.int .i64 r))), ⟨[], []⟩)

theorem fleetlaw2_errs_ok {ql : List Int} {r} (hF : fleetlaw2_errs ql = some r) : Holds prog 12 [.v (.one (.d (.lst (List.map (encI .i64) ql))))] ⟨[], []⟩ (Is (fleetlaw2_errs_R ql r)) := by
  unfold fleetlaw2_errs at hF
  refine holds_of_awp hΓ (fn := f12) (c := cB f12) (A := 0) (nx := 0) (by kernel_rfl) (by kernel_rfl) (by kernel_rfl) (by kernel_rfl) (by kernel_rfl) (by kernel_rfl) (lowc_of (by kernel_rfl)) ?_
  show Awp prog 0 15 (cB f12) _ _
  refine awp_seq ?_
  refine awp_region ?_
  refine aR 1 ?_
  refine aE ?_
  refine awp_seq ?_
  refine awp_seq ?_
  refine awp_region ?_
  refine aR 1 ?_
  refine aL (encI .i64) ql ?_
  refine aR 1 ?_
  refine aE ?_
  refine awp_block ?_
  refine awp_to (st' := fleetlaw2_errs_x1_H ql 0) (oT [] []) ?_
  refine bE hF fun x h4 hF => ?_
  rcases x with _ | vx1_1
  · refine awp_sub (awp_loop' (fleetlaw2_errs_x1_H ql) fleetlaw2_errs_x1_k (fleetlaw2_errs_x1_S ql) (by intro x; rcases x with x | x <;> exact fun h => nomatch h) h4 (fleetlaw2_errs_x1_ok ql)) ?_
    refine awp_seq ?_
    refine awp_region ?_
    refine aR 1 ?_
    refine aE ?_
    refine awp_ret ?_
    exact oF hF [] []
  · refine awp_sub (awp_loop' (fleetlaw2_errs_x1_H ql) fleetlaw2_errs_x1_k (fleetlaw2_errs_x1_S ql) (by intro x; rcases x with x | x <;> exact fun h => nomatch h) h4 (fleetlaw2_errs_x1_ok ql)) ?_
    exact oF hF [] []

/-! ### beaconfleet/fleetref2.valued -/
def fleetref2_valued_R (qc : api_Cell) (r : Unit) : TV × Mem := (.v (.one (.d (.bool (!decide (qc.Prop_.Value.Kind = 0))))), ⟨[], []⟩)

theorem fleetref2_valued_ok {qc : api_Cell} {r} (hF : fleetref2_valued qc = some r) : Holds prog 60 [.v (.agg [.d (.str qc.Prop_.Name), .d (.int .i64 qc.Prop_.Value.Kind), .d (.bool qc.Prop_.Value.Flag), .d (.int .i64 qc.Prop_.Value.Number), .d (.str qc.Prop_.Value.Words), .d (.int .i64 qc.Stamp.At), .d (.str qc.Stamp.By), .d (.int .i64 qc.Stamp.No)])] ⟨[], []⟩ (Is (fleetref2_valued_R qc r)) := by
  unfold fleetref2_valued at hF
  refine holds_of_awp hΓ (fn := f60) (c := cB f60) (A := 0) (nx := 0) (by kernel_rfl) (by kernel_rfl) (by kernel_rfl) (by kernel_rfl) (by kernel_rfl) (by kernel_rfl) (lowc_of (by kernel_rfl)) ?_
  show Awp prog 0 8 (cB f60) _ _
  refine awp_seq ?_
  refine awp_region ?_
  refine aR 2 ?_
  refine aE ?_
  refine awp_seq ?_
  refine awp_region ?_
  refine aR 6 ?_
  refine aE ?_
  refine awp_ret ?_
  exact oF hF [] []

/-! ### beaconfleet/fleetref2.sign -/
def fleetref2_sign_R (qn : Int) (r : Int) : TV × Mem := (.v (.one (.d (.int .i64 r))), ⟨[], []⟩)

theorem fleetref2_sign_ok {qn : Int} {r} (hF : fleetref2_sign qn = some r) : Holds prog 138 [.v (.one (.d (.int .i64 qn)))] ⟨[], []⟩ (Is (fleetref2_sign_R qn r)) := by
  unfold fleetref2_sign at hF
  refine holds_of_awp hΓ (fn := f138) (c := cB f138) (A := 0) (nx := 0) (by kernel_rfl) (by kernel_rfl) (by kernel_rfl) (by kernel_rfl) (by kernel_rfl) (by kernel_rfl) (lowc_of (by kernel_rfl)) ?_
  show Awp prog 0 9 (cB f138) _ _
  refine awp_seq ?_
  refine awp_region ?_
  refine aR 1 ?_
  refine aE ?_
  refine awp_seq ?_
  refine awp_block ?_
  refine awp_seq ?_
  refine awp_region ?_
  refine aR 3 ?_
  refine aE ?_
  refine cE hF (fun h1 hF => ?_) fun h1 hF => ?_
  · refine awp_true (by kernel_rfl) h1 ?_
    refine awp_seq ?_
    refine awp_region ?_
    refine aR 1 ?_
    refine aE ?_
    refine awp_ret ?_
    exact oF hF [] []
  · refine awp_false (by kernel_rfl) h1 ?_
    refine awp_seq ?_
    refine awp_region ?_
    refine aR 3 ?_
    refine aE ?_
    refine cE hF (fun h2 hF => ?_) fun h2 hF => ?_
    · refine awp_true (by kernel_rfl) h2 ?_
      refine awp_seq ?_
      refine awp_region ?_
      refine aR 1 ?_
      refine aE ?_
      refine awp_ret ?_
      exact oF hF [] []
    · refine awp_false (by kernel_rfl) h2 ?_
      refine awp_skip ?_
      refine awp_seq ?_
      refine awp_region ?_
      refine aR 1 ?_
      refine aE ?_
      refine awp_ret ?_
      exact oF hF [] []

/-! ### beaconfleet/fleetref2.StampOrder -/
def fleetref2_StampOrder_R (qa : api_Stamp) (qb : api_Stamp) (r : Int) : TV × Mem := (.v (.one (.d (.int .i64 r))), ⟨[], []⟩)

theorem fleetref2_StampOrder_ok {qa : api_Stamp} {qb : api_Stamp} {r} (hF : fleetref2_StampOrder qa qb = some r) : Holds prog 97 [.v (.agg [.d (.int .i64 qa.At), .d (.str qa.By), .d (.int .i64 qa.No)]), .v (.agg [.d (.int .i64 qb.At), .d (.str qb.By), .d (.int .i64 qb.No)])] ⟨[], []⟩ (Is (fleetref2_StampOrder_R qa qb r)) := by
  unfold fleetref2_StampOrder at hF
  refine holds_of_awp hΓ (fn := f97) (c := cB f97) (A := 0) (nx := 0) (by kernel_rfl) (by kernel_rfl) (by kernel_rfl) (by kernel_rfl) (by kernel_rfl) (by kernel_rfl) (lowc_of (by kernel_rfl)) ?_
  show Awp prog 0 34 (cB f97) _ _
  refine awp_seq ?_
  refine awp_region ?_
  refine aR 3 ?_
  refine aE ?_
  refine awp_seq ?_
  refine awp_block ?_
  refine awp_seq ?_
  refine awp_region ?_
  refine aR 6 ?_
  refine aE ?_
  refine cE hF (fun h1 hF => ?_) fun h1 hF => ?_
  · refine awp_true (by kernel_rfl) h1 ?_
    refine awp_seq ?_
    refine bE hF fun vr h2 hF => ?_
    refine awp_region ?_
    refine aR 5 ?_
    refine aC (fleetref2_sign_ok h2) [] [] [] ?_
    refine aR 1 ?_
    refine aE ?_
    refine awp_ret ?_
    exact oF hF [] []
  · refine awp_false (by kernel_rfl) h1 ?_
    refine awp_seq ?_
    refine awp_region ?_
    refine aR 6 ?_
    refine aE ?_
    refine cE hF (fun h3 hF => ?_) fun h3 hF => ?_
    · refine awp_true (by kernel_rfl) h3 ?_
      refine awp_seq ?_
      refine bE hF fun _ h4 hF => ?_
      refine awp_region ?_
      refine aR 4 ?_
      refine aC (strings_Compare_ok h4) [] [] [] ?_
      refine aR 1 ?_
      refine aE ?_
      refine awp_ret ?_
      exact oF hF [] []
    · refine awp_false (by kernel_rfl) h3 ?_
      refine awp_skip ?_
      refine awp_seq ?_
      refine bE hF fun vr1 h5 hF => ?_
      refine awp_region ?_
      refine aR 5 ?_
      refine aC (fleetref2_sign_ok h5) [] [] [] ?_
      refine aR 1 ?_
      refine aE ?_
      refine awp_ret ?_
      exact oF hF [] []

/-! ### internal/stringslite.HasPrefix -/
def stringslite_HasPrefix_x1_k : Bool → AEx
  | _ => .normal

def stringslite_HasPrefix_x1_S (qs : List UInt8) (qprefix : List UInt8) : Bool → St
  | vx => Mem.st ⟨[], []⟩ (tl [(4, .v (.one (.d (.bool vx))))]) 0

def stringslite_HasPrefix_x1_I (qs : List UInt8) (qprefix : List UInt8) : St := Mem.st ⟨[], []⟩ (tl [(0, .v (.one (.d (.str qs)))), (1, .v (.one (.d (.str qprefix))))]) 0

theorem stringslite_HasPrefix_x1_ok (qs : List UInt8) (qprefix : List UInt8) {r} (hF : stringslite_HasPrefix_x1 qs qprefix = some r) : Awp prog 0 18 (cL (cR (cB f146))) (Out 0 stringslite_HasPrefix_x1_k (stringslite_HasPrefix_x1_S qs qprefix) r) (stringslite_HasPrefix_x1_I qs qprefix) := by
  unfold stringslite_HasPrefix_x1 at hF
  refine cE hF (fun h1 hF => ?_) fun h1 hF => ?_
  · refine bE hF fun vs h2 hF => ?_
    refine awp_region ?_
    refine aR 4 ?_
    refine aB h1 ?_
    refine aR 4 ?_
    refine aX (x_sliceS h2) ?_
    refine aR 4 ?_
    refine aE ?_
    exact oO hF [] [] rfl
  · refine awp_region ?_
    refine aR 4 ?_
    refine aB h1 ?_
    refine aR 9 ?_
    refine aE ?_
    exact oO hF [] [] rfl

def stringslite_HasPrefix_R (qs : List UInt8) (qprefix : List UInt8) (r : Bool) : TV × Mem := (.v (.one (.d (.bool r))), ⟨[], []⟩)

theorem stringslite_HasPrefix_ok {qs : List UInt8} {qprefix : List UInt8} {r} (hF : stringslite_HasPrefix qs qprefix = some r) : Holds prog 146 [.v (.one (.d (.str qs))), .v (.one (.d (.str qprefix)))] ⟨[], []⟩ (Is (stringslite_HasPrefix_R qs qprefix r)) := by
  unfold stringslite_HasPrefix at hF
  refine holds_of_awp hΓ (fn := f146) (c := cB f146) (A := 0) (nx := 0) (by kernel_rfl) (by kernel_rfl) (by kernel_rfl) (by kernel_rfl) (by kernel_rfl) (by kernel_rfl) (lowc_of (by kernel_rfl)) ?_
  show Awp prog 0 18 (cB f146) _ _
  refine awp_seq ?_
  refine awp_region ?_
  refine aR 1 ?_
  refine aE ?_
  refine awp_seq ?_
  refine awp_to (st' := stringslite_HasPrefix_x1_I qs qprefix) (oT [] []) ?_
  refine bE hF fun vx1 h3 hF => ?_
  refine awp_sub (stringslite_HasPrefix_x1_ok qs qprefix h3) ?_
  refine awp_ret ?_
  exact oF hF [] []

/-! ### strings.HasPrefix -/
def strings_HasPrefix_R (qs : List UInt8) (qprefix : List UInt8) (r : Bool) : TV × Mem := (.v (.one (.d (.bool r))), ⟨[], []⟩)

theorem strings_HasPrefix_ok {qs : List UInt8} {qprefix : List UInt8} {r} (hF : strings_HasPrefix qs qprefix = some r) : Holds prog 114 [.v (.one (.d (.str qs))), .v (.one (.d (.str qprefix)))] ⟨[], []⟩ (Is (strings_HasPrefix_R qs qprefix r)) := by
  unfold strings_HasPrefix at hF
  refine holds_of_awp hΓ (fn := f114) (c := cB f114) (A := 0) (nx := 0) (by kernel_rfl) (by kernel_rfl) (by kernel_rfl) (by kernel_rfl) (by kernel_rfl) (by kernel_rfl) (lowc_of (by kernel_rfl)) ?_
  show Awp prog 0 8 (cB f114) _ _
  refine awp_seq ?_
  refine awp_region ?_
  refine aR 1 ?_
  refine aE ?_
  refine awp_seq ?_
  refine bE hF fun vr h1 hF => ?_
  refine awp_region ?_
  refine aR 2 ?_
  refine aC (stringslite_HasPrefix_ok h1) [] [] [] ?_
  refine aR 1 ?_
  refine aE ?_
  refine awp_ret ?_
  exact oF hF [] []

/-! ### beaconfleet/fleetref2.above -/
def fleetref2_above_R (qa : List UInt8) (qb : List UInt8) (r : Bool) : TV × Mem := (.v (.one (.d (.bool r))), ⟨[], []⟩)

theorem fleetref2_above_ok {qa : List UInt8} {qb : List UInt8} {r} (hF : fleetref2_above qa qb = some r) : Holds prog 63 [.v (.one (.d (.str qa))), .v (.one (.d (.str qb)))] ⟨[], []⟩ (Is (fleetref2_above_R qa qb r)) := by
  unfold fleetref2_above at hF
  refine holds_of_awp hΓ (fn := f63) (c := cB f63) (A := 0) (nx := 0) (by kernel_rfl) (by kernel_rfl) (by kernel_rfl) (by kernel_rfl) (by kernel_rfl) (by kernel_rfl) (lowc_of (by kernel_rfl)) ?_
  show Awp prog 0 9 (cB f63) _ _
  refine awp_seq ?_
  refine awp_region ?_
  refine aR 1 ?_
  refine aE ?_
  refine awp_seq ?_
  refine gE hF fun h1 hF => ?_
  refine bE hF fun vr1 h2 hF => ?_
  refine awp_region ?_
  refine aR 2 ?_
  refine aX (x_cat h1) ?_
  refine aC (strings_HasPrefix_ok h2) [] [] [] ?_
  refine aR 1 ?_
  refine aE ?_
  refine awp_ret ?_
  exact oF hF [] []

/-! ### beaconfleet/fleetref2.hides -/
def fleetref2_hides_x1_k : Bool → AEx
  | _ => .normal

def fleetref2_hides_x1_S (qa : api_Cell) (qb : api_Cell) (vr2 : Int) : Bool → St
  | vx => Mem.st ⟨[], []⟩ (tl [(4, .v (.one (.d (.bool vx))))]) 0

def fleetref2_hides_x1_I (qa : api_Cell) (qb : api_Cell) (vr2 : Int) : St := Mem.st ⟨[], [(0, [.d (.str qa.Prop_.Name), .d (.int .i64 qa.Prop_.Value.Kind), .d (.bool qa.Prop_.Value.Flag), .d (.int .i64 qa.Prop_.Value.Number), .d (.str qa.Prop_.Value.Words), .d (.int .i64 qa.Stamp.At), .d (.str qa.Stamp.By), .d (.int .i64 qa.Stamp.No)]), (1, [.d (.str qb.Prop_.Name), .d (.int .i64 qb.Prop_.Value.Kind), .d (.bool qb.Prop_.Value.Flag), .d (.int .i64 qb.Prop_.Value.Number), .d (.str qb.Prop_.Value.Words), .d (.int .i64 qb.Stamp.At), .d (.str qb.Stamp.By), .d (.int .i64 qb.Stamp.No)])]⟩ (tl [(2, .v (.one (.box 0 0))), (3, .v (.one (.box 1 0))), (5, .v (.one (.d (.int .i64 vr2))))]) 2

theorem fleetref2_hides_x1_ok (qa : api_Cell) (qb : api_Cell) (vr2 : Int) {r} (hF : fleetref2_hides_x1 qa qb vr2 = some r) : Awp prog 0 47 (cL (cL (cR (cL (cL (cR (cR (cB f113)))))))) (Out 0 fleetref2_hides_x1_k (fleetref2_hides_x1_S qa qb vr2) r) (fleetref2_hides_x1_I qa qb vr2) := by
  unfold fleetref2_hides_x1 at hF
  refine cE hF (fun h4 hF => ?_) fun h4 hF => ?_
  · refine awp_region ?_
    refine aR 1 ?_
    refine aB h4 ?_
    refine aR 13 ?_
    refine aE ?_
    exact oO hF [] [] rfl
  · refine cE hF (fun h5 hF => ?_) fun h5 hF => ?_
    · refine bE hF fun _ h6 hF => ?_
      refine cE hF (fun h7 hF => ?_) fun h7 hF => ?_
      · refine bE hF fun _ h8 hF => ?_
        refine awp_region ?_
        refine aR 1 ?_
        refine aB h4 ?_
        refine aR 2 ?_
        refine aB h5 ?_
        refine aR 2 ?_
        refine aCb (fleetref2_valued_ok h6) [] [] [] h7 ?_
        refine aR 3 ?_
        refine aC (fleetref2_valued_ok h8) [] [] [] ?_
        refine aR 3 ?_
        refine aE ?_
        exact oO hF [] [] rfl
      · refine awp_region ?_
        refine aR 1 ?_
        refine aB h4 ?_
        refine aR 2 ?_
        refine aB h5 ?_
        refine aR 2 ?_
        refine aCb (fleetref2_valued_ok h6) [] [] [] h7 ?_
        refine aR 7 ?_
        refine aE ?_
        exact oO hF [] [] rfl
    · refine awp_region ?_
      refine aR 1 ?_
      refine aB h4 ?_
      refine aR 2 ?_
      refine aB h5 ?_
      refine aR 10 ?_
      refine aE ?_
      exact oO hF [] [] rfl

def fleetref2_hides_x2_k : Bool → AEx
  | _ => .normal

def fleetref2_hides_x2_S (qb : api_Cell) (vr2 : Int) : Bool → St
  | vx2 => Mem.st ⟨[], []⟩ (tl [(4, .v (.one (.d (.bool vx2))))]) 0

def fleetref2_hides_x2_I (qb : api_Cell) (vr2 : Int) : St := Mem.st ⟨[], [(0, [.d (.str qb.Prop_.Name), .d (.int .i64 qb.Prop_.Value.Kind), .d (.bool qb.Prop_.Value.Flag), .d (.int .i64 qb.Prop_.Value.Number), .d (.str qb.Prop_.Value.Words), .d (.int .i64 qb.Stamp.At), .d (.str qb.Stamp.By), .d (.int .i64 qb.Stamp.No)])]⟩ (tl [(3, .v (.one (.box 0 0))), (5, .v (.one (.d (.int .i64 vr2))))]) 1

theorem fleetref2_hides_x2_ok (qb : api_Cell) (vr2 : Int) {r} (hF : fleetref2_hides_x2 qb vr2 = some r) : Awp prog 0 47 (cL (cL (cR (cR (cR (cL (cL (cR (cR (cB f113)))))))))) (Out 0 fleetref2_hides_x2_k (fleetref2_hides_x2_S qb vr2) r) (fleetref2_hides_x2_I qb vr2) := by
  unfold fleetref2_hides_x2 at hF
  refine cE hF (fun h12 hF => ?_) fun h12 hF => ?_
  · refine bE hF fun _ h13 hF => ?_
    refine awp_region ?_
    refine aR 1 ?_
    refine aB h12 ?_
    refine aR 2 ?_
    refine aC (fleetref2_valued_ok h13) [] [] [] ?_
    refine aR 2 ?_
    refine aE ?_
    exact oO hF [] [] rfl
  · refine awp_region ?_
    refine aR 1 ?_
    refine aB h12 ?_
    refine aR 5 ?_
    refine aE ?_
    exact oO hF [] [] rfl

def fleetref2_hides_R (qa : api_Cell) (qb : api_Cell) (r : Bool) : TV × Mem := (.v (.one (.d (.bool r))), ⟨[], []⟩)

theorem fleetref2_hides_ok {qa : api_Cell} {qb : api_Cell} {r} (hF : fleetref2_hides qa qb = some r) : Holds prog 113 [.v (.agg [.d (.str qa.Prop_.Name), .d (.int .i64 qa.Prop_.Value.Kind), .d (.bool qa.Prop_.Value.Flag), .d (.int .i64 qa.Prop_.Value.Number), .d (.str qa.Prop_.Value.Words), .d (.int .i64 qa.Stamp.At), .d (.str qa.Stamp.By), .d (.int .i64 qa.Stamp.No)]), .v (.agg [.d (.str qb.Prop_.Name), .d (.int .i64 qb.Prop_.Value.Kind), .d (.bool qb.Prop_.Value.Flag), .d (.int .i64 qb.Prop_.Value.Number), .d (.str qb.Prop_.Value.Words), .d (.int .i64 qb.Stamp.At), .d (.str qb.Stamp.By), .d (.int .i64 qb.Stamp.No)])] ⟨[], []⟩ (Is (fleetref2_hides_R qa qb r)) := by
  unfold fleetref2_hides at hF
  refine holds_of_awp hΓ (fn := f113) (c := cB f113) (A := 0) (nx := 0) (by kernel_rfl) (by kernel_rfl) (by kernel_rfl) (by kernel_rfl) (by kernel_rfl) (by kernel_rfl) (lowc_of (by kernel_rfl)) ?_
  show Awp prog 0 47 (cB f113) _ _
  refine awp_seq ?_
  refine awp_region ?_
  refine aR 3 ?_
  refine aE ?_
  refine awp_seq ?_
  refine bE hF fun vr2 h1 hF => ?_
  refine awp_region ?_
  refine aR 4 ?_
  refine aC (fleetref2_StampOrder_ok h1) [] [] [] ?_
  refine aR 1 ?_
  refine aE ?_
  refine awp_seq ?_
  refine awp_block ?_
  refine awp_seq ?_
  refine bE hF fun vr h2 hF => ?_
  refine awp_region ?_
  refine aR 6 ?_
  refine aC (fleetref2_above_ok h2) [] [] [] ?_
  refine aR 1 ?_
  refine aE ?_
  refine cE hF (fun h3 hF => ?_) fun h3 hF => ?_
  · refine awp_true (by kernel_rfl) h3 ?_
    refine awp_seq ?_
    refine awp_to (st' := fleetref2_hides_x1_I qa qb vr2) (oT [(1, 1000)] []) ?_
    refine bE hF fun vx1 h9 hF => ?_
    refine awp_sub (fleetref2_hides_x1_ok qa qb vr2 h9) ?_
    refine awp_ret ?_
    exact oF hF [] []
  · refine awp_false (by kernel_rfl) h3 ?_
    refine awp_seq ?_
    refine bE hF fun vr1 h10 hF => ?_
    refine awp_region ?_
    refine aR 6 ?_
    refine aC (fleetref2_above_ok h10) [] [] [] ?_
    refine aR 1 ?_
    refine aE ?_
    refine cE hF (fun h11 hF => ?_) fun h11 hF => ?_
    · refine awp_true (by kernel_rfl) h11 ?_
      refine awp_seq ?_
      refine awp_to (st' := fleetref2_hides_x2_I qb vr2) (oT [(0, 1000)] []) ?_
      refine bE hF fun vx2_1 h14 hF => ?_
      refine awp_sub (fleetref2_hides_x2_ok qb vr2 h14) ?_
      refine awp_ret ?_
      exact oF hF [] []
    · refine awp_false (by kernel_rfl) h11 ?_
      refine awp_skip ?_
      refine awp_seq ?_
      refine awp_region ?_
      refine aR 1 ?_
      refine aE ?_
      refine awp_ret ?_
      exact oF hF [] []

/-! ### beaconfleet/fleetref2.hidden$1 -/
def fleetref2_hidden_1_R (qo : api_Cell) (qx : api_Cell) (r : Bool) : TV × Mem := (.v (.one (.d (.bool r))), ⟨[], [(0, [.d (.str qx.Prop_.Name), .d (.int .i64 qx.Prop_.Value.Kind), .d (.bool qx.Prop_.Value.Flag), .d (.int .i64 qx.Prop_.Value.Number), .d (.str qx.Prop_.Value.Words), .d (.int .i64 qx.Stamp.At), .d (.str qx.Stamp.By), .d (.int .i64 qx.Stamp.No)])]⟩)

theorem fleetref2_hidden_1_ok {qo : api_Cell} {qx : api_Cell} {r} (hF : fleetref2_hidden_1 qo qx = some r) : Holds prog 112 [.v (.agg [.d (.str qo.Prop_.Name), .d (.int .i64 qo.Prop_.Value.Kind), .d (.bool qo.Prop_.Value.Flag), .d (.int .i64 qo.Prop_.Value.Number), .d (.str qo.Prop_.Value.Words), .d (.int .i64 qo.Stamp.At), .d (.str qo.Stamp.By), .d (.int .i64 qo.Stamp.No)]), .v (.one (.box 0 0))] ⟨[], [(0, [.d (.str qx.Prop_.Name), .d (.int .i64 qx.Prop_.Value.Kind), .d (.bool qx.Prop_.Value.Flag), .d (.int .i64 qx.Prop_.Value.Number), .d (.str qx.Prop_.Value.Words), .d (.int .i64 qx.Stamp.At), .d (.str qx.Stamp.By), .d (.int .i64 qx.Stamp.No)])]⟩ (Is (fleetref2_hidden_1_R qo qx r)) := by
  unfold fleetref2_hidden_1 at hF
  refine holds_of_awp hΓ (fn := f112) (c := cB f112) (A := 1) (nx := 1) (by kernel_rfl) (by kernel_rfl) (by kernel_rfl) (by kernel_rfl) (by kernel_rfl) (by kernel_rfl) (lowc_of (by kernel_rfl)) ?_
  show Awp prog 1 7 (cB f112) _ _
  refine awp_seq ?_
  refine awp_region ?_
  refine aR 2 ?_
  refine aE ?_
  refine awp_seq ?_
  refine bE hF fun vr3 h1 hF => ?_
  refine awp_region ?_
  refine aR 2 ?_
  refine aC (fleetref2_hides_ok h1) [] [] [] ?_
  refine aR 1 ?_
  refine aE ?_
  refine awp_ret ?_
  exact oF hF [] []

/-! ### slices.IndexFunc[[]beaconfleet/api.Cell,beaconfleet/api.Cell] -/
def slices_IndexFunc_api_Cell_api_Cell_f1_fleetref2_hidden_1_x1_k : Unit ⊕ Int → AEx
  | .inl _ => .exit 0
  | .inr _ => .ret

def slices_IndexFunc_api_Cell_api_Cell_f1_fleetref2_hidden_1_x1_S (qs : List api_Cell) (qf : api_Cell) : Unit ⊕ Int → St
  | .inl _ => Mem.st ⟨[], [(0, [.d (.str qf.Prop_.Name), .d (.int .i64 qf.Prop_.Value.Kind), .d (.bool qf.Prop_.Value.Flag), .d (.int .i64 qf.Prop_.Value.Number), .d (.str qf.Prop_.Value.Words), .d (.int .i64 qf.Stamp.At), .d (.str qf.Stamp.By), .d (.int .i64 qf.Stamp.No)])]⟩ (tl []) 1
  | .inr vx1 => Mem.st ⟨[], [(0, [.d (.str qf.Prop_.Name), .d (.int .i64 qf.Prop_.Value.Kind), .d (.bool qf.Prop_.Value.Flag), .d (.int .i64 qf.Prop_.Value.Number), .d (.str qf.Prop_.Value.Words), .d (.int .i64 qf.Stamp.At), .d (.str qf.Stamp.By), .d (.int .i64 qf.Stamp.No)])]⟩ (tl [(4, .v (.one (.d (.int .i64 vx1))))]) 1

def slices_IndexFunc_api_Cell_api_Cell_f1_fleetref2_hidden_1_x1_H (qs : List api_Cell) (qf : api_Cell) : Int → St
  | vx => Mem.st ⟨[], [(0, [.d (.str qf.Prop_.Name), .d (.int .i64 qf.Prop_.Value.Kind), .d (.bool qf.Prop_.Value.Flag), .d (.int .i64 qf.Prop_.Value.Number), .d (.str qf.Prop_.Value.Words), .d (.int .i64 qf.Stamp.At), .d (.str qf.Stamp.By), .d (.int .i64 qf.Stamp.No)])]⟩ (tl [(0, .v (.one (.d (.lst (List.map api_Cell.enc qs))))), (1, .v (.one (.fn 112 [0]))), (7, .v (.one (.d (.int .i64 (qs.length : Int))))), (8, .v (.one (.d (.int .i64 vx))))]) 1

theorem slices_IndexFunc_api_Cell_api_Cell_f1_fleetref2_hidden_1_x1_ok (qs : List api_Cell) (qf : api_Cell) (vx : Int) (r : (Int) ⊕ (Unit ⊕ Int)) (hF : slices_IndexFunc_api_Cell_api_Cell_f1_fleetref2_hidden_1_x1 qs qf vx = some r) : Awp prog 1 19 (cL (cL (cR (cL (cR (cB f108)))))) (Out 1 (kk slices_IndexFunc_api_Cell_api_Cell_f1_fleetref2_hidden_1_x1_k) (SS (slices_IndexFunc_api_Cell_api_Cell_f1_fleetref2_hidden_1_x1_H qs qf) (slices_IndexFunc_api_Cell_api_Cell_f1_fleetref2_hidden_1_x1_S qs qf)) r) (slices_IndexFunc_api_Cell_api_Cell_f1_fleetref2_hidden_1_x1_H qs qf vx) := by
  unfold slices_IndexFunc_api_Cell_api_Cell_f1_fleetref2_hidden_1_x1 at hF
  refine awp_seq ?_
  refine awp_region ?_
  refine aR 1 ?_
  refine aE ?_
  refine awp_seq ?_
  refine cE hF (fun h1 hF => ?_) fun h1 hF => ?_
  · refine awp_true (by kernel_rfl) h1 ?_
    refine awp_skip ?_
    refine awp_seq ?_
    refine awp_block ?_
    refine awp_seq ?_
    refine awp_region ?_
    refine aR 2 ?_
    refine aE ?_
    refine awp_seq ?_
    refine bE hF fun vy1 h2 hF => ?_
    refine bE hF fun vr1 h3 hF => ?_
    refine awp_region ?_
    refine aR 3 ?_
    refine aX (x_idx api_Cell.enc h2) ?_
    refine aR 1 ?_
    refine aC (fleetref2_hidden_1_ok h3) [] [] [] ?_
    refine aE ?_
    refine cE hF (fun h4 hF => ?_) fun h4 hF => ?_
    · refine awp_true (by kernel_rfl) h4 ?_
      refine awp_seq ?_
      refine awp_region ?_
      refine aR 2 ?_
      refine aE ?_
      refine awp_ret ?_
      exact oO hF [] [] rfl
    · refine awp_false (by kernel_rfl) h4 ?_
      refine awp_skip ?_
      refine awp_region ?_
      refine aR 2 ?_
      refine aE ?_
      exact oO hF [] [] rfl
  · refine awp_false (by kernel_rfl) h1 ?_
    refine awp_exit ?_
    exact oO hF [] [] rfl

def slices_IndexFunc_api_Cell_api_Cell_f1_fleetref2_hidden_1_R (qs : List api_Cell) (qf : api_Cell) (r : Int) : TV × Mem := (.v (.one (.d (.int .i64 r))), ⟨[], [(0, [.d (.str qf.Prop_.Name), .d (.int .i64 qf.Prop_.Value.Kind), .d (.bool qf.Prop_.Value.Flag), .d (.int .i64 qf.Prop_.Value.Number), .d (.str qf.Prop_.Value.Words), .d (.int .i64 qf.Stamp.At), .d (.str qf.Stamp.By), .d (.int .i64 qf.Stamp.No)])]⟩)

theorem slices_IndexFunc_api_Cell_api_Cell_f1_fleetref2_hidden_1_ok {qs : List api_Cell} {qf : api_Cell} {r} (hF : slices_IndexFunc_api_Cell_api_Cell_f1_fleetref2_hidden_1 qs qf = some r) : Holds prog 108 [.v (.one (.d (.lst (List.map api_Cell.enc qs)))), .v (.one (.fn 112 [0]))] ⟨[], [(0, [.d (.str qf.Prop_.Name), .d (.int .i64 qf.Prop_.Value.Kind), .d (.bool qf.Prop_.Value.Flag), .d (.int .i64 qf.Prop_.Value.Number), .d (.str qf.Prop_.Value.Words), .d (.int .i64 qf.Stamp.At), .d (.str qf.Stamp.By), .d (.int .i64 qf.Stamp.No)])]⟩ (Is (slices_IndexFunc_api_Cell_api_Cell_f1_fleetref2_hidden_1_R qs qf r)) := by
  unfold slices_IndexFunc_api_Cell_api_Cell_f1_fleetref2_hidden_1 at hF
  refine holds_of_awp hΓ (fn := f108) (c := cB f108) (A := 1) (nx := 1) (by kernel_rfl) (by kernel_rfl) (by kernel_rfl) (by kernel_rfl) (by kernel_rfl) (by kernel_rfl) (lowc_of (by kernel_rfl)) ?_
  show Awp prog 1 19 (cB f108) _ _
  refine awp_seq ?_
  refine awp_region ?_
  refine aR 1 ?_
  refine aE ?_
  refine awp_seq ?_
  refine awp_seq ?_
  refine awp_region ?_
  refine aR 1 ?_
  refine aL api_Cell.enc qs ?_
  refine aR 1 ?_
  refine aE ?_
  refine awp_block ?_
  refine awp_to (st' := slices_IndexFunc_api_Cell_api_Cell_f1_fleetref2_hidden_1_x1_H qs qf 0) (oT [] []) ?_
  refine bE hF fun x h5 hF => ?_
  rcases x with _ | vx1_1
  · refine awp_sub (awp_loop' (slices_IndexFunc_api_Cell_api_Cell_f1_fleetref2_hidden_1_x1_H qs qf) slices_IndexFunc_api_Cell_api_Cell_f1_fleetref2_hidden_1_x1_k (slices_IndexFunc_api_Cell_api_Cell_f1_fleetref2_hidden_1_x1_S qs qf) (by intro x; rcases x with x | x <;> exact fun h => nomatch h) h5 (slices_IndexFunc_api_Cell_api_Cell_f1_fleetref2_hidden_1_x1_ok qs qf)) ?_
    refine awp_seq ?_
    refine awp_region ?_
    refine aR 1 ?_
    refine aE ?_
    refine awp_ret ?_
    exact oF hF [] []
  · refine awp_sub (awp_loop' (slices_IndexFunc_api_Cell_api_Cell_f1_fleetref2_hidden_1_x1_H qs qf) slices_IndexFunc_api_Cell_api_Cell_f1_fleetref2_hidden_1_x1_k (slices_IndexFunc_api_Cell_api_Cell_f1_fleetref2_hidden_1_x1_S qs qf) (by intro x; rcases x with x | x <;> exact fun h => nomatch h) h5 (slices_IndexFunc_api_Cell_api_Cell_f1_fleetref2_hidden_1_x1_ok qs qf)) ?_
    exact oF hF [] []

/-! ### slices.ContainsFunc[[]beaconfleet/api.Cell,beaconfleet/api.Cell] -/
def slices_ContainsFunc_api_Cell_api_Cell_f1_fleetref2_hidden_1_R (qs : List api_Cell) (qf : api_Cell) (r : Bool) : TV × Mem := (.v (.one (.d (.bool r))), ⟨[], [(0, [.d (.str qf.Prop_.Name), .d (.int .i64 qf.Prop_.Value.Kind), .d (.bool qf.Prop_.Value.Flag), .d (.int .i64 qf.Prop_.Value.Number), .d (.str qf.Prop_.Value.Words), .d (.int .i64 qf.Stamp.At), .d (.str qf.Stamp.By), .d (.int .i64 qf.Stamp.No)])]⟩)

theorem slices_ContainsFunc_api_Cell_api_Cell_f1_fleetref2_hidden_1_ok {qs : List api_Cell} {qf : api_Cell} {r} (hF : slices_ContainsFunc_api_Cell_api_Cell_f1_fleetref2_hidden_1 qs qf = some r) : Holds prog 57 [.v (.one (.d (.lst (List.map api_Cell.enc qs)))), .v (.one (.fn 112 [0]))] ⟨[], [(0, [.d (.str qf.Prop_.Name), .d (.int .i64 qf.Prop_.Value.Kind), .d (.bool qf.Prop_.Value.Flag), .d (.int .i64 qf.Prop_.Value.Number), .d (.str qf.Prop_.Value.Words), .d (.int .i64 qf.Stamp.At), .d (.str qf.Stamp.By), .d (.int .i64 qf.Stamp.No)])]⟩ (Is (slices_ContainsFunc_api_Cell_api_Cell_f1_fleetref2_hidden_1_R qs qf r)) := by
  unfold slices_ContainsFunc_api_Cell_api_Cell_f1_fleetref2_hidden_1 at hF
  refine holds_of_awp hΓ (fn := f57) (c := cB f57) (A := 1) (nx := 1) (by kernel_rfl) (by kernel_rfl) (by kernel_rfl) (by kernel_rfl) (by kernel_rfl) (by kernel_rfl) (lowc_of (by kernel_rfl)) ?_
  show Awp prog 1 9 (cB f57) _ _
  refine awp_seq ?_
  refine awp_region ?_
  refine aR 1 ?_
  refine aE ?_
  refine awp_seq ?_
  refine bE hF fun vr2 h1 hF => ?_
  refine awp_region ?_
  refine aR 2 ?_
  refine aC (slices_IndexFunc_api_Cell_api_Cell_f1_fleetref2_hidden_1_ok h1) [] [] [] ?_
  refine aR 2 ?_
  refine aE ?_
  refine awp_ret ?_
  exact oF hF [] []

/-! ### beaconfleet/fleetref2.hidden -/
def fleetref2_hidden_R (ql : List api_Cell) (qc : api_Cell) (r : Bool) : TV × Mem := (.v (.one (.d (.bool r))), ⟨[], []⟩)

theorem fleetref2_hidden_ok {ql : List api_Cell} {qc : api_Cell} {r} (hF : fleetref2_hidden ql qc = some r) : Holds prog 61 [.v (.one (.d (.lst (List.map api_Cell.enc ql)))), .v (.agg [.d (.str qc.Prop_.Name), .d (.int .i64 qc.Prop_.Value.Kind), .d (.bool qc.Prop_.Value.Flag), .d (.int .i64 qc.Prop_.Value.Number), .d (.str qc.Prop_.Value.Words), .d (.int .i64 qc.Stamp.At), .d (.str qc.Stamp.By), .d (.int .i64 qc.Stamp.No)])] ⟨[], []⟩ (Is (fleetref2_hidden_R ql qc r)) := by
  unfold fleetref2_hidden at hF
  refine holds_of_awp hΓ (fn := f61) (c := cB f61) (A := 0) (nx := 0) (by kernel_rfl) (by kernel_rfl) (by kernel_rfl) (by kernel_rfl) (by kernel_rfl) (by kernel_rfl) (lowc_of (by kernel_rfl)) ?_
  show Awp prog 0 8 (cB f61) _ _
  refine awp_seq ?_
  refine awp_region ?_
  refine aR 2 ?_
  refine aE ?_
  refine awp_seq ?_
  refine bE hF fun vr h1 hF => ?_
  refine awp_region ?_
  refine aR 2 ?_
  refine aC (slices_ContainsFunc_api_Cell_api_Cell_f1_fleetref2_hidden_1_ok h1) [] [] [] ?_
  refine aR 1 ?_
  refine aE ?_
  refine awp_ret ?_
  exact oF hF [] []

/-! ### beaconfleet/fleetref2.VisibleOf -/
def fleetref2_VisibleOf_x3_k : Bool → AEx
  | _ => .normal

def fleetref2_VisibleOf_x3_S (ql : List api_Cell) (vout : List api_Prop) (vx : Int) (vy1 : api_Cell) : Bool → St
  | vx2 => Mem.st ⟨[(1, ⟨44, 5, List.map api_Prop.enc vout⟩)], [(0, [.d (.str vy1.Prop_.Name), .d (.int .i64 vy1.Prop_.Value.Kind), .d (.bool vy1.Prop_.Value.Flag), .d (.int .i64 vy1.Prop_.Value.Number), .d (.str vy1.Prop_.Value.Words), .d (.int .i64 vy1.Stamp.At), .d (.str vy1.Stamp.By), .d (.int .i64 vy1.Stamp.No)])]⟩ (tl [(0, .v (.one (.d (.lst (List.map api_Cell.enc ql))))), (3, .v (.one (.own 1 none))), (5, .v (.one (.box 0 0))), (6, .v (.one (.d (.lst (List.map api_Cell.enc ql))))), (7, .v (.one (.d (.int .i64 (ql.length : Int))))), (8, .v (.one (.d (.int .i64 vx)))), (19, .v (.one (.d (.bool vx2))))]) 2

def fleetref2_VisibleOf_x3_I (ql : List api_Cell) (vout : List api_Prop) (vx : Int) (vy1 : api_Cell) : St := Mem.st ⟨[(1, ⟨44, 5, List.map api_Prop.enc vout⟩)], [(0, [.d (.str vy1.Prop_.Name), .d (.int .i64 vy1.Prop_.Value.Kind), .d (.bool vy1.Prop_.Value.Flag), .d (.int .i64 vy1.Prop_.Value.Number), .d (.str vy1.Prop_.Value.Words), .d (.int .i64 vy1.Stamp.At), .d (.str vy1.Stamp.By), .d (.int .i64 vy1.Stamp.No)])]⟩ (tl [(0, .v (.one (.d (.lst (List.map api_Cell.enc ql))))), (3, .v (.one (.own 1 none))), (5, .v (.one (.box 0 0))), (6, .v (.one (.d (.lst (List.map api_Cell.enc ql))))), (7, .v (.one (.d (.int .i64 (ql.length : Int))))), (8, .v (.one (.d (.int .i64 vx))))]) 2

theorem fleetref2_VisibleOf_x3_ok (ql : List api_Cell) (vout : List api_Prop) (vx : Int) (vy1 : api_Cell) {r} (hF : fleetref2_VisibleOf_x3 ql vy1 = some r) : Awp prog 0 27 (cL (cR (cL (cL (cR (cR (cL (cL (cR (cL (cR (cR (cB f14))))))))))))) (Out 0 fleetref2_VisibleOf_x3_k (fleetref2_VisibleOf_x3_S ql vout vx vy1) r) (fleetref2_VisibleOf_x3_I ql vout vx vy1) := by
  unfold fleetref2_VisibleOf_x3 at hF
  refine bE hF fun _ h3 hF => ?_
  refine cE hF (fun h4 hF => ?_) fun h4 hF => ?_
  · refine bE hF fun vr1_1 h5 hF => ?_
    refine awp_region ?_
    refine aR 1 ?_
    refine aCb (fleetref2_valued_ok h3) [] [] [] h4 ?_
    refine aR 3 ?_
    refine aC (fleetref2_hidden_ok h5) [] [] [] ?_
    refine aR 2 ?_
    refine aE ?_
    exact oO hF [] [] rfl
  · refine awp_region ?_
    refine aR 1 ?_
    refine aCb (fleetref2_valued_ok h3) [] [] [] h4 ?_
    refine aR 6 ?_
    refine aE ?_
    exact oO hF [] [] rfl

def fleetref2_VisibleOf_x2_k : (List api_Prop) → AEx
  | _ => .normal

def fleetref2_VisibleOf_x2_S (ql : List api_Cell) (vout : List api_Prop) (vx : Int) : (List api_Prop) → St
  | vout2 => Mem.st ⟨[(0, ⟨44, 5, List.map api_Prop.enc vout2⟩)], []⟩ (tl [(0, .v (.one (.d (.lst (List.map api_Cell.enc ql))))), (3, .v (.one (.own 0 none))), (6, .v (.one (.d (.lst (List.map api_Cell.enc ql))))), (7, .v (.one (.d (.int .i64 (ql.length : Int))))), (8, .v (.one (.d (.int .i64 vx))))]) 1

def fleetref2_VisibleOf_x2_I (ql : List api_Cell) (vout : List api_Prop) (vx : Int) : St := Mem.st ⟨[(0, ⟨44, 5, List.map api_Prop.enc vout⟩)], []⟩ (tl [(0, .v (.one (.d (.lst (List.map api_Cell.enc ql))))), (3, .v (.one (.own 0 none))), (6, .v (.one (.d (.lst (List.map api_Cell.enc ql))))), (7, .v (.one (.d (.int .i64 (ql.length : Int))))), (8, .v (.one (.d (.int .i64 vx))))]) 1

theorem fleetref2_VisibleOf_x2_ok (ql : List api_Cell) (vout : List api_Prop) (vx : Int) {r} (hF : fleetref2_VisibleOf_x2 ql vout vx = some r) : Awp prog 0 27 (cL (cR (cR (cL (cL (cR (cL (cR (cR (cB f14)))))))))) (Out 0 fleetref2_VisibleOf_x2_k (fleetref2_VisibleOf_x2_S ql vout vx) r) (fleetref2_VisibleOf_x2_I ql vout vx) := by
  unfold fleetref2_VisibleOf_x2 at hF
  refine awp_block ?_
  refine awp_seq ?_
  refine bE hF fun vy1 h2 hF => ?_
  refine awp_region ?_
  refine aX (x_idx api_Cell.enc h2) ?_
  refine aR 3 ?_
  refine aE ?_
  refine awp_seq ?_
  refine awp_to (st' := fleetref2_VisibleOf_x3_I ql vout vx vy1) (oT [(0, 2001), (1, 0)] []) ?_
  refine bE hF fun vx2_1 h6 hF => ?_
  refine awp_sub (fleetref2_VisibleOf_x3_ok ql vout vx vy1 h6) ?_
  refine cE hF (fun h7 hF => ?_) fun h7 hF => ?_
  · refine awp_true (by kernel_rfl) h7 ?_
    refine gE hF fun h8 hF => ?_
    refine awp_region ?_
    refine aR 4 ?_
    refine aX (x_app api_Prop.enc 1 h8) ?_
    refine aR 1 ?_
    refine aE ?_
    exact oO hF [(0, 4002)] [] rfl
  · refine awp_false (by kernel_rfl) h7 ?_
    refine awp_skip ?_
    exact oO hF [(0, 1)] [] rfl

def fleetref2_VisibleOf_x1_k : (List api_Prop) → AEx
  | _ => .exit 0

def fleetref2_VisibleOf_x1_S (ql : List api_Cell) : (List api_Prop) → St
  | vout3 => Mem.st ⟨[(0, ⟨44, 5, List.map api_Prop.enc vout3⟩)], []⟩ (tl [(3, .v (.one (.own 0 none)))]) 1

def fleetref2_VisibleOf_x1_H (ql : List api_Cell) : (List api_Prop) × Int → St
  | (vout, vx) => Mem.st ⟨[(0, ⟨44, 5, List.map api_Prop.enc vout⟩)], []⟩ (tl [(0, .v (.one (.d (.lst (List.map api_Cell.enc ql))))), (3, .v (.one (.own 0 none))), (6, .v (.one (.d (.lst (List.map api_Cell.enc ql))))), (7, .v (.one (.d (.int .i64 (ql.length : Int))))), (8, .v (.one (.d (.int .i64 vx))))]) 1

theorem fleetref2_VisibleOf_x1_ok (ql : List api_Cell) (s : (List api_Prop) × Int) (r : ((List api_Prop) × Int) ⊕ ((List api_Prop))) (hF : fleetref2_VisibleOf_x1 ql s = some r) : Awp prog 0 27 (cL (cL (cR (cL (cR (cR (cB f14))))))) (Out 0 (kk fleetref2_VisibleOf_x1_k) (SS (fleetref2_VisibleOf_x1_H ql) (fleetref2_VisibleOf_x1_S ql)) r) (fleetref2_VisibleOf_x1_H ql s) := by
  obtain ⟨vout, vx⟩ := s
  unfold fleetref2_VisibleOf_x1 at hF
  refine awp_seq ?_
  refine awp_region ?_
  refine aR 1 ?_
  refine aE ?_
  refine awp_seq ?_
  refine cE hF (fun h1 hF => ?_) fun h1 hF => ?_
  · refine awp_true (by kernel_rfl) h1 ?_
    refine awp_skip ?_
    refine awp_seq ?_
    refine awp_to (st' := fleetref2_VisibleOf_x2_I ql vout vx) (oT [] []) ?_
    refine bE hF fun vout2_1 h9 hF => ?_
    refine awp_sub (fleetref2_VisibleOf_x2_ok ql vout vx h9) ?_
    refine awp_region ?_
    refine aR 2 ?_
    refine aE ?_
    exact oO hF [] [] rfl
  · refine awp_false (by kernel_rfl) h1 ?_
    refine awp_exit ?_
    exact oO hF [] [] rfl

def fleetref2_VisibleOf_R (ql : List api_Cell) (r : (List api_Prop)) : TV × Mem := (.v (.one (.own 0 none)), ⟨[(0, ⟨44, 5, List.map api_Prop.enc r⟩)], []⟩)

theorem fleetref2_VisibleOf_ok {ql : List api_Cell} {r} (hF : fleetref2_VisibleOf ql = some r) : Holds prog 14 [.v (.one (.d (.lst (List.map api_Cell.enc ql))))] ⟨[], []⟩ (Is (fleetref2_VisibleOf_R ql r)) := by
  unfold fleetref2_VisibleOf at hF
  refine holds_of_awp hΓ (fn := f14) (c := cB f14) (A := 0) (nx := 0) (by kernel_rfl) (by kernel_rfl) (by kernel_rfl) (by kernel_rfl) (by kernel_rfl) (by kernel_rfl) (lowc_of (by kernel_rfl)) ?_
  show Awp prog 0 27 (cB f14) _ _
  refine awp_seq ?_
  refine awp_region ?_
  refine aR 1 ?_
  refine aE ?_
  refine awp_seq ?_
  refine awp_region ?_
  refine aR 1 ?_
  refine aE ?_
  refine awp_seq ?_
  refine awp_seq ?_
  refine awp_region ?_
  refine aR 1 ?_
  refine aL api_Cell.enc ql ?_
  refine aR 1 ?_
  refine aE ?_
  refine awp_block ?_
  refine awp_to (st' := fleetref2_VisibleOf_x1_H ql ([], 0)) (oT [] [0]) ?_
  refine bE hF fun vout3_1 h10 hF => ?_
  refine awp_sub (awp_loop' (fleetref2_VisibleOf_x1_H ql) fleetref2_VisibleOf_x1_k (fleetref2_VisibleOf_x1_S ql) (by intro x; exact fun h => nomatch h) h10 (fleetref2_VisibleOf_x1_ok ql)) ?_
  refine awp_seq ?_
  refine awp_region ?_
  refine aR 2 ?_
  refine aE ?_
  refine awp_ret ?_
  exact oF hF [] []

/-! ### beaconfleet/fleetref2.CompactOf$1 -/
def fleetref2_CompactOf_1_R (qo : api_Cell) (qx : api_Cell) (r : Bool) : TV × Mem := (.v (.one (.d (.bool r))), ⟨[], [(0, [.d (.str qx.Prop_.Name), .d (.int .i64 qx.Prop_.Value.Kind), .d (.bool qx.Prop_.Value.Flag), .d (.int .i64 qx.Prop_.Value.Number), .d (.str qx.Prop_.Value.Words), .d (.int .i64 qx.Stamp.At), .d (.str qx.Stamp.By), .d (.int .i64 qx.Stamp.No)])]⟩)

theorem fleetref2_CompactOf_1_ok {qo : api_Cell} {qx : api_Cell} {r} (hF : fleetref2_CompactOf_1 qo qx = some r) : Holds prog 62 [.v (.agg [.d (.str qo.Prop_.Name), .d (.int .i64 qo.Prop_.Value.Kind), .d (.bool qo.Prop_.Value.Flag), .d (.int .i64 qo.Prop_.Value.Number), .d (.str qo.Prop_.Value.Words), .d (.int .i64 qo.Stamp.At), .d (.str qo.Stamp.By), .d (.int .i64 qo.Stamp.No)]), .v (.one (.box 0 0))] ⟨[], [(0, [.d (.str qx.Prop_.Name), .d (.int .i64 qx.Prop_.Value.Kind), .d (.bool qx.Prop_.Value.Flag), .d (.int .i64 qx.Prop_.Value.Number), .d (.str qx.Prop_.Value.Words), .d (.int .i64 qx.Stamp.At), .d (.str qx.Stamp.By), .d (.int .i64 qx.Stamp.No)])]⟩ (Is (fleetref2_CompactOf_1_R qo qx r)) := by
  unfold fleetref2_CompactOf_1 at hF
  refine holds_of_awp hΓ (fn := f62) (c := cB f62) (A := 1) (nx := 1) (by kernel_rfl) (by kernel_rfl) (by kernel_rfl) (by kernel_rfl) (by kernel_rfl) (by kernel_rfl) (lowc_of (by kernel_rfl)) ?_
  show Awp prog 1 11 (cB f62) _ _
  refine awp_seq ?_
  refine awp_region ?_
  refine aR 2 ?_
  refine aE ?_
  refine awp_seq ?_
  refine bE hF fun vr h1 hF => ?_
  refine awp_region ?_
  refine aR 6 ?_
  refine aC (fleetref2_above_ok h1) [] [] [] ?_
  refine aR 1 ?_
  refine aE ?_
  refine awp_ret ?_
  exact oF hF [] []

/-! ### slices.IndexFunc[[]beaconfleet/api.Cell,beaconfleet/api.Cell] -/
def slices_IndexFunc_api_Cell_api_Cell_f1_fleetref2_CompactOf_1_x1_k : Unit ⊕ Int → AEx
  | .inl _ => .exit 0
  | .inr _ => .ret

def slices_IndexFunc_api_Cell_api_Cell_f1_fleetref2_CompactOf_1_x1_S (qs : List api_Cell) (qf : api_Cell) : Unit ⊕ Int → St
  | .inl _ => Mem.st ⟨[], [(0, [.d (.str qf.Prop_.Name), .d (.int .i64 qf.Prop_.Value.Kind), .d (.bool qf.Prop_.Value.Flag), .d (.int .i64 qf.Prop_.Value.Number), .d (.str qf.Prop_.Value.Words), .d (.int .i64 qf.Stamp.At), .d (.str qf.Stamp.By), .d (.int .i64 qf.Stamp.No)])]⟩ (tl []) 1
  | .inr vx1 => Mem.st ⟨[], [(0, [.d (.str qf.Prop_.Name), .d (.int .i64 qf.Prop_.Value.Kind), .d (.bool qf.Prop_.Value.Flag), .d (.int .i64 qf.Prop_.Value.Number), .d (.str qf.Prop_.Value.Words), .d (.int .i64 qf.Stamp.At), .d (.str qf.Stamp.By), .d (.int .i64 qf.Stamp.No)])]⟩ (tl [(4, .v (.one (.d (.int .i64 vx1))))]) 1

def slices_IndexFunc_api_Cell_api_Cell_f1_fleetref2_CompactOf_1_x1_H (qs : List api_Cell) (qf : api_Cell) : Int → St
  | vx => Mem.st ⟨[], [(0, [.d (.str qf.Prop_.Name), .d (.int .i64 qf.Prop_.Value.Kind), .d (.bool qf.Prop_.Value.Flag), .d (.int .i64 qf.Prop_.Value.Number), .d (.str qf.Prop_.Value.Words), .d (.int .i64 qf.Stamp.At), .d (.str qf.Stamp.By), .d (.int .i64 qf.Stamp.No)])]⟩ (tl [(0, .v (.one (.d (.lst (List.map api_Cell.enc qs))))), (1, .v (.one (.fn 62 [0]))), (7, .v (.one (.d (.int .i64 (qs.length : Int))))), (8, .v (.one (.d (.int .i64 vx))))]) 1

theorem slices_IndexFunc_api_Cell_api_Cell_f1_fleetref2_CompactOf_1_x1_ok (qs : List api_Cell) (qf : api_Cell) (vx : Int) (r : (Int) ⊕ (Unit ⊕ Int)) (hF : slices_IndexFunc_api_Cell_api_Cell_f1_fleetref2_CompactOf_1_x1 qs qf vx = some r) : Awp prog 1 19 (cL (cL (cR (cL (cR (cB f108)))))) (Out 1 (kk slices_IndexFunc_api_Cell_api_Cell_f1_fleetref2_CompactOf_1_x1_k) (SS (slices_IndexFunc_api_Cell_api_Cell_f1_fleetref2_CompactOf_1_x1_H qs qf) (slices_IndexFunc_api_Cell_api_Cell_f1_fleetref2_CompactOf_1_x1_S qs qf)) r) (slices_IndexFunc_api_Cell_api_Cell_f1_fleetref2_CompactOf_1_x1_H qs qf vx) := by
  unfold slices_IndexFunc_api_Cell_api_Cell_f1_fleetref2_CompactOf_1_x1 at hF
  refine awp_seq ?_
  refine awp_region ?_
  refine aR 1 ?_
  refine aE ?_
  refine awp_seq ?_
  refine cE hF (fun h1 hF => ?_) fun h1 hF => ?_
  · refine awp_true (by kernel_rfl) h1 ?_
    refine awp_skip ?_
    refine awp_seq ?_
    refine awp_block ?_
    refine awp_seq ?_
    refine awp_region ?_
    refine aR 2 ?_
    refine aE ?_
    refine awp_seq ?_
    refine bE hF fun vy1 h2 hF => ?_
    refine bE hF fun vr1_1 h3 hF => ?_
    refine awp_region ?_
    refine aR 3 ?_
    refine aX (x_idx api_Cell.enc h2) ?_
    refine aR 1 ?_
    refine aC (fleetref2_CompactOf_1_ok h3) [] [] [] ?_
    refine aE ?_
    refine cE hF (fun h4 hF => ?_) fun h4 hF => ?_
    · refine awp_true (by kernel_rfl) h4 ?_
      refine awp_seq ?_
      refine awp_region ?_
      refine aR 2 ?_
      refine aE ?_
      refine awp_ret ?_
      exact oO hF [] [] rfl
    · refine awp_false (by kernel_rfl) h4 ?_
      refine awp_skip ?_
      refine awp_region ?_
      refine aR 2 ?_
      refine aE ?_
      exact oO hF [] [] rfl
  · refine awp_false (by kernel_rfl) h1 ?_
    refine awp_exit ?_
    exact oO hF [] [] rfl

def slices_IndexFunc_api_Cell_api_Cell_f1_fleetref2_CompactOf_1_R (qs : List api_Cell) (qf : api_Cell) (r : Int) : TV × Mem := (.v (.one (.d (.int .i64 r))), ⟨[], [(0, [.d (.str qf.Prop_.Name), .d (.int .i64 qf.Prop_.Value.Kind), .d (.bool qf.Prop_.Value.Flag), .d (.int .i64 qf.Prop_.Value.Number), .d (.str qf.Prop_.Value.Words), .d (.int .i64 qf.Stamp.At), .d (.str qf.Stamp.By), .d (.int .i64 qf.Stamp.No)])]⟩)

theorem slices_IndexFunc_api_Cell_api_Cell_f1_fleetref2_CompactOf_1_ok {qs : List api_Cell} {qf : api_Cell} {r} (hF : slices_IndexFunc_api_Cell_api_Cell_f1_fleetref2_CompactOf_1 qs qf = some r) : Holds prog 108 [.v (.one (.d (.lst (List.map api_Cell.enc qs)))), .v (.one (.fn 62 [0]))] ⟨[], [(0, [.d (.str qf.Prop_.Name), .d (.int .i64 qf.Prop_.Value.Kind), .d (.bool qf.Prop_.Value.Flag), .d (.int .i64 qf.Prop_.Value.Number), .d (.str qf.Prop_.Value.Words), .d (.int .i64 qf.Stamp.At), .d (.str qf.Stamp.By), .d (.int .i64 qf.Stamp.No)])]⟩ (Is (slices_IndexFunc_api_Cell_api_Cell_f1_fleetref2_CompactOf_1_R qs qf r)) := by
  unfold slices_IndexFunc_api_Cell_api_Cell_f1_fleetref2_CompactOf_1 at hF
  refine holds_of_awp hΓ (fn := f108) (c := cB f108) (A := 1) (nx := 1) (by kernel_rfl) (by kernel_rfl) (by kernel_rfl) (by kernel_rfl) (by kernel_rfl) (by kernel_rfl) (lowc_of (by kernel_rfl)) ?_
  show Awp prog 1 19 (cB f108) _ _
  refine awp_seq ?_
  refine awp_region ?_
  refine aR 1 ?_
  refine aE ?_
  refine awp_seq ?_
  refine awp_seq ?_
  refine awp_region ?_
  refine aR 1 ?_
  refine aL api_Cell.enc qs ?_
  refine aR 1 ?_
  refine aE ?_
  refine awp_block ?_
  refine awp_to (st' := slices_IndexFunc_api_Cell_api_Cell_f1_fleetref2_CompactOf_1_x1_H qs qf 0) (oT [] []) ?_
  refine bE hF fun x h5 hF => ?_
  rcases x with _ | vx1_1
  · refine awp_sub (awp_loop' (slices_IndexFunc_api_Cell_api_Cell_f1_fleetref2_CompactOf_1_x1_H qs qf) slices_IndexFunc_api_Cell_api_Cell_f1_fleetref2_CompactOf_1_x1_k (slices_IndexFunc_api_Cell_api_Cell_f1_fleetref2_CompactOf_1_x1_S qs qf) (by intro x; rcases x with x | x <;> exact fun h => nomatch h) h5 (slices_IndexFunc_api_Cell_api_Cell_f1_fleetref2_CompactOf_1_x1_ok qs qf)) ?_
    refine awp_seq ?_
    refine awp_region ?_
    refine aR 1 ?_
    refine aE ?_
    refine awp_ret ?_
    exact oF hF [] []
  · refine awp_sub (awp_loop' (slices_IndexFunc_api_Cell_api_Cell_f1_fleetref2_CompactOf_1_x1_H qs qf) slices_IndexFunc_api_Cell_api_Cell_f1_fleetref2_CompactOf_1_x1_k (slices_IndexFunc_api_Cell_api_Cell_f1_fleetref2_CompactOf_1_x1_S qs qf) (by intro x; rcases x with x | x <;> exact fun h => nomatch h) h5 (slices_IndexFunc_api_Cell_api_Cell_f1_fleetref2_CompactOf_1_x1_ok qs qf)) ?_
    exact oF hF [] []

/-! ### slices.ContainsFunc[[]beaconfleet/api.Cell,beaconfleet/api.Cell] -/
def slices_ContainsFunc_api_Cell_api_Cell_f1_fleetref2_CompactOf_1_R (qs : List api_Cell) (qf : api_Cell) (r : Bool) : TV × Mem := (.v (.one (.d (.bool r))), ⟨[], [(0, [.d (.str qf.Prop_.Name), .d (.int .i64 qf.Prop_.Value.Kind), .d (.bool qf.Prop_.Value.Flag), .d (.int .i64 qf.Prop_.Value.Number), .d (.str qf.Prop_.Value.Words), .d (.int .i64 qf.Stamp.At), .d (.str qf.Stamp.By), .d (.int .i64 qf.Stamp.No)])]⟩)

theorem slices_ContainsFunc_api_Cell_api_Cell_f1_fleetref2_CompactOf_1_ok {qs : List api_Cell} {qf : api_Cell} {r} (hF : slices_ContainsFunc_api_Cell_api_Cell_f1_fleetref2_CompactOf_1 qs qf = some r) : Holds prog 57 [.v (.one (.d (.lst (List.map api_Cell.enc qs)))), .v (.one (.fn 62 [0]))] ⟨[], [(0, [.d (.str qf.Prop_.Name), .d (.int .i64 qf.Prop_.Value.Kind), .d (.bool qf.Prop_.Value.Flag), .d (.int .i64 qf.Prop_.Value.Number), .d (.str qf.Prop_.Value.Words), .d (.int .i64 qf.Stamp.At), .d (.str qf.Stamp.By), .d (.int .i64 qf.Stamp.No)])]⟩ (Is (slices_ContainsFunc_api_Cell_api_Cell_f1_fleetref2_CompactOf_1_R qs qf r)) := by
  unfold slices_ContainsFunc_api_Cell_api_Cell_f1_fleetref2_CompactOf_1 at hF
  refine holds_of_awp hΓ (fn := f57) (c := cB f57) (A := 1) (nx := 1) (by kernel_rfl) (by kernel_rfl) (by kernel_rfl) (by kernel_rfl) (by kernel_rfl) (by kernel_rfl) (lowc_of (by kernel_rfl)) ?_
  show Awp prog 1 9 (cB f57) _ _
  refine awp_seq ?_
  refine awp_region ?_
  refine aR 1 ?_
  refine aE ?_
  refine awp_seq ?_
  refine bE hF fun vr h1 hF => ?_
  refine awp_region ?_
  refine aR 2 ?_
  refine aC (slices_IndexFunc_api_Cell_api_Cell_f1_fleetref2_CompactOf_1_ok h1) [] [] [] ?_
  refine aR 2 ?_
  refine aE ?_
  refine awp_ret ?_
  exact oF hF [] []

/-! ### beaconfleet/fleetref2.CompactOf -/
def fleetref2_CompactOf_x2_k : (List api_Cell) → AEx
  | _ => .normal

def fleetref2_CompactOf_x2_S (qx : List api_Cell) (qx1 : Int) (vx : List api_Cell) (vx1 : Int) : (List api_Cell) → St
  | vx3 => Mem.st ⟨[(0, ⟨49, 8, List.map api_Cell.enc vx3⟩)], []⟩ (tl [(0, .v (.one (.d (.lst (List.map api_Cell.enc qx))))), (1, .v (.one (.d (.int .i64 qx1)))), (5, .v (.one (.own 0 none))), (6, .v (.one (.nil))), (7, .v (.one (.nil))), (15, .v (.one (.d (.lst (List.map api_Cell.enc qx))))), (16, .v (.one (.d (.int .i64 (qx.length : Int))))), (17, .v (.one (.d (.int .i64 vx1))))]) 1

def fleetref2_CompactOf_x2_I (qx : List api_Cell) (qx1 : Int) (vx : List api_Cell) (vx1 : Int) : St := Mem.st ⟨[(0, ⟨49, 8, List.map api_Cell.enc vx⟩)], []⟩ (tl [(0, .v (.one (.d (.lst (List.map api_Cell.enc qx))))), (1, .v (.one (.d (.int .i64 qx1)))), (5, .v (.one (.own 0 none))), (6, .v (.one (.nil))), (7, .v (.one (.nil))), (15, .v (.one (.d (.lst (List.map api_Cell.enc qx))))), (16, .v (.one (.d (.int .i64 (qx.length : Int))))), (17, .v (.one (.d (.int .i64 vx1))))]) 1

theorem fleetref2_CompactOf_x2_ok (qx : List api_Cell) (qx1 : Int) (vx : List api_Cell) (vx1 : Int) {r} (hF : fleetref2_CompactOf_x2 qx qx1 vx vx1 = some r) : Awp prog 0 73 (cL (cR (cR (cL (cL (cR (cL (cR (cR (cB f15)))))))))) (Out 0 fleetref2_CompactOf_x2_k (fleetref2_CompactOf_x2_S qx qx1 vx vx1) r) (fleetref2_CompactOf_x2_I qx qx1 vx vx1) := by
  unfold fleetref2_CompactOf_x2 at hF
  refine awp_block ?_
  refine awp_seq ?_
  refine bE hF fun vy1 h2 hF => ?_
  refine awp_region ?_
  refine aX (x_idx api_Cell.enc h2) ?_
  refine aR 3 ?_
  refine aE ?_
  refine awp_seq ?_
  refine awp_region ?_
  refine aR 5 ?_
  refine aE ?_
  refine cE hF (fun h3 hF => ?_) fun h3 hF => ?_
  · refine awp_true (by kernel_rfl) h3 ?_
    refine gE hF fun h4 hF => ?_
    refine awp_region ?_
    refine aR 3 ?_
    refine aX (x_app api_Cell.enc 0 h4) ?_
    refine aR 1 ?_
    refine aE ?_
    exact oO hF [(0, 12001)] [] rfl
  · refine awp_false (by kernel_rfl) h3 ?_
    refine awp_skip ?_
    exact oO hF [] [] rfl

def fleetref2_CompactOf_x1_k : (List api_Cell) → AEx
  | _ => .exit 0

def fleetref2_CompactOf_x1_S (qx : List api_Cell) (qx1 : Int) : (List api_Cell) → St
  | vx4 => Mem.st ⟨[(0, ⟨49, 8, List.map api_Cell.enc vx4⟩)], []⟩ (tl [(0, .v (.one (.d (.lst (List.map api_Cell.enc qx))))), (1, .v (.one (.d (.int .i64 qx1)))), (5, .v (.one (.own 0 none))), (6, .v (.one (.nil))), (7, .v (.one (.nil)))]) 1

def fleetref2_CompactOf_x1_H (qx : List api_Cell) (qx1 : Int) : (List api_Cell) × Int → St
  | (vx, vx1) => Mem.st ⟨[(0, ⟨49, 8, List.map api_Cell.enc vx⟩)], []⟩ (tl [(0, .v (.one (.d (.lst (List.map api_Cell.enc qx))))), (1, .v (.one (.d (.int .i64 qx1)))), (5, .v (.one (.own 0 none))), (6, .v (.one (.nil))), (7, .v (.one (.nil))), (15, .v (.one (.d (.lst (List.map api_Cell.enc qx))))), (16, .v (.one (.d (.int .i64 (qx.length : Int))))), (17, .v (.one (.d (.int .i64 vx1))))]) 1

theorem fleetref2_CompactOf_x1_ok (qx : List api_Cell) (qx1 : Int) (s : (List api_Cell) × Int) (r : ((List api_Cell) × Int) ⊕ ((List api_Cell))) (hF : fleetref2_CompactOf_x1 qx qx1 s = some r) : Awp prog 0 73 (cL (cL (cR (cL (cR (cR (cB f15))))))) (Out 0 (kk fleetref2_CompactOf_x1_k) (SS (fleetref2_CompactOf_x1_H qx qx1) (fleetref2_CompactOf_x1_S qx qx1)) r) (fleetref2_CompactOf_x1_H qx qx1 s) := by
  obtain ⟨vx, vx1⟩ := s
  unfold fleetref2_CompactOf_x1 at hF
  refine awp_seq ?_
  refine awp_region ?_
  refine aR 1 ?_
  refine aE ?_
  refine awp_seq ?_
  refine cE hF (fun h1 hF => ?_) fun h1 hF => ?_
  · refine awp_true (by kernel_rfl) h1 ?_
    refine awp_skip ?_
    refine awp_seq ?_
    refine awp_to (st' := fleetref2_CompactOf_x2_I qx qx1 vx vx1) (oT [] []) ?_
    refine bE hF fun vx3_1 h5 hF => ?_
    refine awp_sub (fleetref2_CompactOf_x2_ok qx qx1 vx vx1 h5) ?_
    refine awp_region ?_
    refine aR 2 ?_
    refine aE ?_
    exact oO hF [] [] rfl
  · refine awp_false (by kernel_rfl) h1 ?_
    refine awp_exit ?_
    exact oO hF [] [] rfl

def fleetref2_CompactOf_x4_k : (List api_Cell) → AEx
  | _ => .normal

def fleetref2_CompactOf_x4_S (qx : List api_Cell) (qx1 : Int) (vx4_1 : List api_Cell) (vx5 : List api_Cell) (vx6 : Int) : (List api_Cell) → St
  | vx8 => Mem.st ⟨[(0, ⟨49, 8, List.map api_Cell.enc vx4_1⟩), (1, ⟨49, 8, List.map api_Cell.enc vx8⟩)], []⟩ (tl [(1, .v (.one (.d (.int .i64 qx1)))), (5, .v (.one (.own 0 none))), (6, .v (.one (.own 1 none))), (7, .v (.one (.nil))), (31, .v (.one (.d (.lst (List.map api_Cell.enc qx))))), (32, .v (.one (.d (.int .i64 (qx.length : Int))))), (33, .v (.one (.d (.int .i64 vx6))))]) 2

def fleetref2_CompactOf_x4_I (qx : List api_Cell) (qx1 : Int) (vx4_1 : List api_Cell) (vx5 : List api_Cell) (vx6 : Int) : St := Mem.st ⟨[(0, ⟨49, 8, List.map api_Cell.enc vx4_1⟩), (1, ⟨49, 8, List.map api_Cell.enc vx5⟩)], []⟩ (tl [(1, .v (.one (.d (.int .i64 qx1)))), (5, .v (.one (.own 0 none))), (6, .v (.one (.own 1 none))), (7, .v (.one (.nil))), (31, .v (.one (.d (.lst (List.map api_Cell.enc qx))))), (32, .v (.one (.d (.int .i64 (qx.length : Int))))), (33, .v (.one (.d (.int .i64 vx6))))]) 2

theorem fleetref2_CompactOf_x4_ok (qx : List api_Cell) (qx1 : Int) (vx4_1 : List api_Cell) (vx5 : List api_Cell) (vx6 : Int) {r} (hF : fleetref2_CompactOf_x4 qx vx4_1 vx5 vx6 = some r) : Awp prog 0 73 (cL (cR (cR (cL (cL (cR (cL (cR (cR (cR (cB f15))))))))))) (Out 0 fleetref2_CompactOf_x4_k (fleetref2_CompactOf_x4_S qx qx1 vx4_1 vx5 vx6) r) (fleetref2_CompactOf_x4_I qx qx1 vx4_1 vx5 vx6) := by
  unfold fleetref2_CompactOf_x4 at hF
  refine awp_block ?_
  refine awp_seq ?_
  refine bE hF fun vy3 h8 hF => ?_
  refine awp_region ?_
  refine aX (x_idx api_Cell.enc h8) ?_
  refine aR 3 ?_
  refine aE ?_
  refine awp_seq ?_
  refine bE hF fun vr1_1 h9 hF => ?_
  refine awp_region ?_
  refine aR 2 ?_
  refine aC (fleetref2_hidden_ok h9) [] [] [0] ?_
  refine aR 1 ?_
  refine aE ?_
  refine cE hF (fun h10 hF => ?_) fun h10 hF => ?_
  · refine awp_true (by kernel_rfl) h10 ?_
    refine gE hF fun h11 hF => ?_
    refine awp_region ?_
    refine aR 3 ?_
    refine aX (x_app api_Cell.enc 1 h11) ?_
    refine aR 1 ?_
    refine aE ?_
    exact oO hF [(1, 11002)] [] rfl
  · refine awp_false (by kernel_rfl) h10 ?_
    refine awp_skip ?_
    exact oO hF [] [] rfl

def fleetref2_CompactOf_x3_k : (List api_Cell) → AEx
  | _ => .exit 2

def fleetref2_CompactOf_x3_S (qx : List api_Cell) (qx1 : Int) (vx4_1 : List api_Cell) : (List api_Cell) → St
  | vx9 => Mem.st ⟨[(0, ⟨49, 8, List.map api_Cell.enc vx9⟩)], []⟩ (tl [(1, .v (.one (.d (.int .i64 qx1)))), (6, .v (.one (.own 0 none))), (7, .v (.one (.nil)))]) 1

def fleetref2_CompactOf_x3_H (qx : List api_Cell) (qx1 : Int) (vx4_1 : List api_Cell) : (List api_Cell) × Int → St
  | (vx5, vx6) => Mem.st ⟨[(0, ⟨49, 8, List.map api_Cell.enc vx4_1⟩), (1, ⟨49, 8, List.map api_Cell.enc vx5⟩)], []⟩ (tl [(1, .v (.one (.d (.int .i64 qx1)))), (5, .v (.one (.own 0 none))), (6, .v (.one (.own 1 none))), (7, .v (.one (.nil))), (31, .v (.one (.d (.lst (List.map api_Cell.enc qx))))), (32, .v (.one (.d (.int .i64 (qx.length : Int))))), (33, .v (.one (.d (.int .i64 vx6))))]) 2

theorem fleetref2_CompactOf_x3_ok (qx : List api_Cell) (qx1 : Int) (vx4_1 : List api_Cell) (s : (List api_Cell) × Int) (r : ((List api_Cell) × Int) ⊕ ((List api_Cell))) (hF : fleetref2_CompactOf_x3 qx vx4_1 s = some r) : Awp prog 0 73 (cL (cL (cR (cL (cR (cR (cR (cB f15)))))))) (Out 0 (kk fleetref2_CompactOf_x3_k) (SS (fleetref2_CompactOf_x3_H qx qx1 vx4_1) (fleetref2_CompactOf_x3_S qx qx1 vx4_1)) r) (fleetref2_CompactOf_x3_H qx qx1 vx4_1 s) := by
  obtain ⟨vx5, vx6⟩ := s
  unfold fleetref2_CompactOf_x3 at hF
  refine awp_seq ?_
  refine awp_region ?_
  refine aR 1 ?_
  refine aE ?_
  refine awp_seq ?_
  refine cE hF (fun h7 hF => ?_) fun h7 hF => ?_
  · refine awp_true (by kernel_rfl) h7 ?_
    refine awp_skip ?_
    refine awp_seq ?_
    refine awp_to (st' := fleetref2_CompactOf_x4_I qx qx1 vx4_1 vx5 vx6) (oT [] []) ?_
    refine bE hF fun vx8_1 h12 hF => ?_
    refine awp_sub (fleetref2_CompactOf_x4_ok qx qx1 vx4_1 vx5 vx6 h12) ?_
    refine awp_region ?_
    refine aR 2 ?_
    refine aE ?_
    exact oO hF [] [] rfl
  · refine awp_false (by kernel_rfl) h7 ?_
    refine awp_exit ?_
    exact oO hF [(0, 1)] [] rfl

def fleetref2_CompactOf_x7_k : Bool → AEx
  | _ => .normal

def fleetref2_CompactOf_x7_S (qx1 : Int) (vx9_1 : List api_Cell) (vx10 : List api_Cell) (vx11 : Int) (vy5 : api_Cell) (vr1_3 : Bool) : Bool → St
  | vx14 => Mem.st ⟨[(1, ⟨49, 8, List.map api_Cell.enc vx9_1⟩), (2, ⟨49, 8, List.map api_Cell.enc vx10⟩)], [(0, [.d (.str vy5.Prop_.Name), .d (.int .i64 vy5.Prop_.Value.Kind), .d (.bool vy5.Prop_.Value.Flag), .d (.int .i64 vy5.Prop_.Value.Number), .d (.str vy5.Prop_.Value.Words), .d (.int .i64 vy5.Stamp.At), .d (.str vy5.Stamp.By), .d (.int .i64 vy5.Stamp.No)])]⟩ (tl [(1, .v (.one (.d (.int .i64 qx1)))), (6, .v (.one (.own 1 none))), (7, .v (.one (.own 2 none))), (13, .v (.one (.box 0 0))), (46, .v (.one (.own 1 none))), (47, .v (.one (.d (.int .i64 (vx9_1.length : Int))))), (48, .v (.one (.d (.int .i64 vx11)))), (66, .v (.one (.d (.bool vx14))))]) 3

def fleetref2_CompactOf_x7_I (qx1 : Int) (vx9_1 : List api_Cell) (vx10 : List api_Cell) (vx11 : Int) (vy5 : api_Cell) (vr1_3 : Bool) : St := Mem.st ⟨[(1, ⟨49, 8, List.map api_Cell.enc vx9_1⟩), (2, ⟨49, 8, List.map api_Cell.enc vx10⟩)], [(0, [.d (.str vy5.Prop_.Name), .d (.int .i64 vy5.Prop_.Value.Kind), .d (.bool vy5.Prop_.Value.Flag), .d (.int .i64 vy5.Prop_.Value.Number), .d (.str vy5.Prop_.Value.Words), .d (.int .i64 vy5.Stamp.At), .d (.str vy5.Stamp.By), .d (.int .i64 vy5.Stamp.No)])]⟩ (tl [(1, .v (.one (.d (.int .i64 qx1)))), (6, .v (.one (.own 1 none))), (7, .v (.one (.own 2 none))), (13, .v (.one (.box 0 0))), (14, .v (.one (.d (.bool vr1_3)))), (46, .v (.one (.own 1 none))), (47, .v (.one (.d (.int .i64 (vx9_1.length : Int))))), (48, .v (.one (.d (.int .i64 vx11))))]) 3

theorem fleetref2_CompactOf_x7_ok (qx1 : Int) (vx9_1 : List api_Cell) (vx10 : List api_Cell) (vx11 : Int) (vy5 : api_Cell) (vr1_3 : Bool) {r} (hF : fleetref2_CompactOf_x7 qx1 vy5 vr1_3 = some r) : Awp prog 0 73 (cL (cR (cR (cL (cL (cR (cR (cL (cL (cR (cL (cR (cR (cR (cR (cB f15)))))))))))))))) (Out 0 fleetref2_CompactOf_x7_k (fleetref2_CompactOf_x7_S qx1 vx9_1 vx10 vx11 vy5 vr1_3) r) (fleetref2_CompactOf_x7_I qx1 vx9_1 vx10 vx11 vy5 vr1_3) := by
  unfold fleetref2_CompactOf_x7 at hF
  refine bE hF fun _ h17 hF => ?_
  refine cE hF (fun h18 hF => ?_) fun h18 hF => ?_
  · refine awp_region ?_
    refine aR 1 ?_
    refine aCb (fleetref2_valued_ok h17) [] [] [] h18 ?_
    refine aR 10 ?_
    refine aE ?_
    exact oO hF [] [] rfl
  · refine cE hF (fun h19 hF => ?_) fun h19 hF => ?_
    · refine awp_region ?_
      refine aR 1 ?_
      refine aCb (fleetref2_valued_ok h17) [] [] [] h18 ?_
      refine aR 5 ?_
      refine aB h19 ?_
      refine aR 4 ?_
      refine aE ?_
      exact oO hF [] [] rfl
    · refine awp_region ?_
      refine aR 1 ?_
      refine aCb (fleetref2_valued_ok h17) [] [] [] h18 ?_
      refine aR 5 ?_
      refine aB h19 ?_
      refine aR 4 ?_
      refine aE ?_
      exact oO hF [] [] rfl

def fleetref2_CompactOf_x6_k : (List api_Cell) → AEx
  | _ => .normal

def fleetref2_CompactOf_x6_S (qx1 : Int) (vx9_1 : List api_Cell) (vx10 : List api_Cell) (vx11 : Int) : (List api_Cell) → St
  | vx15 => Mem.st ⟨[(0, ⟨49, 8, List.map api_Cell.enc vx9_1⟩), (1, ⟨49, 8, List.map api_Cell.enc vx15⟩)], []⟩ (tl [(1, .v (.one (.d (.int .i64 qx1)))), (6, .v (.one (.own 0 none))), (7, .v (.one (.own 1 none))), (46, .v (.one (.own 0 none))), (47, .v (.one (.d (.int .i64 (vx9_1.length : Int))))), (48, .v (.one (.d (.int .i64 vx11))))]) 2

def fleetref2_CompactOf_x6_I (qx1 : Int) (vx9_1 : List api_Cell) (vx10 : List api_Cell) (vx11 : Int) : St := Mem.st ⟨[(0, ⟨49, 8, List.map api_Cell.enc vx9_1⟩), (1, ⟨49, 8, List.map api_Cell.enc vx10⟩)], []⟩ (tl [(1, .v (.one (.d (.int .i64 qx1)))), (6, .v (.one (.own 0 none))), (7, .v (.one (.own 1 none))), (46, .v (.one (.own 0 none))), (47, .v (.one (.d (.int .i64 (vx9_1.length : Int))))), (48, .v (.one (.d (.int .i64 vx11))))]) 2

theorem fleetref2_CompactOf_x6_ok (qx1 : Int) (vx9_1 : List api_Cell) (vx10 : List api_Cell) (vx11 : Int) {r} (hF : fleetref2_CompactOf_x6 qx1 vx9_1 vx10 vx11 = some r) : Awp prog 0 73 (cL (cR (cR (cL (cL (cR (cL (cR (cR (cR (cR (cB f15)))))))))))) (Out 0 fleetref2_CompactOf_x6_k (fleetref2_CompactOf_x6_S qx1 vx9_1 vx10 vx11) r) (fleetref2_CompactOf_x6_I qx1 vx9_1 vx10 vx11) := by
  unfold fleetref2_CompactOf_x6 at hF
  refine awp_block ?_
  refine awp_seq ?_
  refine bE hF fun vy5 h15 hF => ?_
  refine awp_region ?_
  refine aX (x_idxO api_Cell.enc 0 h15) ?_
  refine aX (x_ldE api_Cell.enc h15) ?_
  refine aR 2 ?_
  refine aE ?_
  refine awp_seq ?_
  refine bE hF fun vr1_3 h16 hF => ?_
  refine awp_region ?_
  refine aR 2 ?_
  refine aC (slices_ContainsFunc_api_Cell_api_Cell_f1_fleetref2_CompactOf_1_ok h16) [(0, 2002)] [] [0] ?_
  refine aR 1 ?_
  refine aE ?_
  refine awp_seq ?_
  refine awp_to (st' := fleetref2_CompactOf_x7_I qx1 vx9_1 vx10 vx11 vy5 vr1_3) (oT [(0, 2002), (1, 0), (2, 1)] []) ?_
  refine bE hF fun vx14_1 h20 hF => ?_
  refine awp_sub (fleetref2_CompactOf_x7_ok qx1 vx9_1 vx10 vx11 vy5 vr1_3 h20) ?_
  refine cE hF (fun h21 hF => ?_) fun h21 hF => ?_
  · refine awp_true (by kernel_rfl) h21 ?_
    refine gE hF fun h22 hF => ?_
    refine awp_region ?_
    refine aR 3 ?_
    refine aX (x_app api_Cell.enc 2 h22) ?_
    refine aR 1 ?_
    refine aE ?_
    exact oO hF [(0, 1), (1, 3003)] [] rfl
  · refine awp_false (by kernel_rfl) h21 ?_
    refine awp_skip ?_
    exact oO hF [(0, 1), (1, 2)] [] rfl

def fleetref2_CompactOf_x5_k : (List api_Cell) → AEx
  | _ => .exit 4

def fleetref2_CompactOf_x5_S (qx1 : Int) (vx9_1 : List api_Cell) : (List api_Cell) → St
  | vx16 => Mem.st ⟨[(0, ⟨49, 8, List.map api_Cell.enc vx16⟩)], []⟩ (tl [(7, .v (.one (.own 0 none)))]) 1

def fleetref2_CompactOf_x5_H (qx1 : Int) (vx9_1 : List api_Cell) : (List api_Cell) × Int → St
  | (vx10, vx11) => Mem.st ⟨[(0, ⟨49, 8, List.map api_Cell.enc vx9_1⟩), (1, ⟨49, 8, List.map api_Cell.enc vx10⟩)], []⟩ (tl [(1, .v (.one (.d (.int .i64 qx1)))), (6, .v (.one (.own 0 none))), (7, .v (.one (.own 1 none))), (46, .v (.one (.own 0 none))), (47, .v (.one (.d (.int .i64 (vx9_1.length : Int))))), (48, .v (.one (.d (.int .i64 vx11))))]) 2

theorem fleetref2_CompactOf_x5_ok (qx1 : Int) (vx9_1 : List api_Cell) (s : (List api_Cell) × Int) (r : ((List api_Cell) × Int) ⊕ ((List api_Cell))) (hF : fleetref2_CompactOf_x5 qx1 vx9_1 s = some r) : Awp prog 0 73 (cL (cL (cR (cL (cR (cR (cR (cR (cB f15))))))))) (Out 0 (kk fleetref2_CompactOf_x5_k) (SS (fleetref2_CompactOf_x5_H qx1 vx9_1) (fleetref2_CompactOf_x5_S qx1 vx9_1)) r) (fleetref2_CompactOf_x5_H qx1 vx9_1 s) := by
  obtain ⟨vx10, vx11⟩ := s
  unfold fleetref2_CompactOf_x5 at hF
  refine awp_seq ?_
  refine awp_region ?_
  refine aR 1 ?_
  refine aE ?_
  refine awp_seq ?_
  refine cE hF (fun h14 hF => ?_) fun h14 hF => ?_
  · refine awp_true (by kernel_rfl) h14 ?_
    refine awp_skip ?_
    refine awp_seq ?_
    refine awp_to (st' := fleetref2_CompactOf_x6_I qx1 vx9_1 vx10 vx11) (oT [] []) ?_
    refine bE hF fun vx15_1 h23 hF => ?_
    refine awp_sub (fleetref2_CompactOf_x6_ok qx1 vx9_1 vx10 vx11 h23) ?_
    refine awp_region ?_
    refine aR 2 ?_
    refine aE ?_
    exact oO hF [] [] rfl
  · refine awp_false (by kernel_rfl) h14 ?_
    refine awp_exit ?_
    exact oO hF [(0, 1)] [] rfl

def fleetref2_CompactOf_R (qx : List api_Cell) (qx1 : Int) (r : (List api_Cell)) : TV × Mem := (.v (.one (.own 0 none)), ⟨[(0, ⟨49, 8, List.map api_Cell.enc r⟩)], []⟩)

theorem fleetref2_CompactOf_ok {qx : List api_Cell} {qx1 : Int} {r} (hF : fleetref2_CompactOf qx qx1 = some r) : Holds prog 15 [.v (.one (.d (.lst (List.map api_Cell.enc qx)))), .v (.one (.d (.int .i64 qx1)))] ⟨[], []⟩ (Is (fleetref2_CompactOf_R qx qx1 r)) := by
  unfold fleetref2_CompactOf at hF
  refine holds_of_awp hΓ (fn := f15) (c := cB f15) (A := 0) (nx := 0) (by kernel_rfl) (by kernel_rfl) (by kernel_rfl) (by kernel_rfl) (by kernel_rfl) (by kernel_rfl) (lowc_of (by kernel_rfl)) ?_
  show Awp prog 0 73 (cB f15) _ _
  refine awp_seq ?_
  refine awp_region ?_
  refine aR 1 ?_
  refine aE ?_
  refine awp_seq ?_
  refine awp_region ?_
  refine aR 3 ?_
  refine aE ?_
  refine awp_seq ?_
  refine awp_seq ?_
  refine awp_region ?_
  refine aR 1 ?_
  refine aL api_Cell.enc qx ?_
  refine aR 1 ?_
  refine aE ?_
  refine awp_block ?_
  refine awp_to (st' := fleetref2_CompactOf_x1_H qx qx1 ([], 0)) (oT [] [0]) ?_
  refine bE hF fun vx4_1 h6 hF => ?_
  refine awp_sub (awp_loop' (fleetref2_CompactOf_x1_H qx qx1) fleetref2_CompactOf_x1_k (fleetref2_CompactOf_x1_S qx qx1) (by intro x; exact fun h => nomatch h) h6 (fleetref2_CompactOf_x1_ok qx qx1)) ?_
  refine awp_seq ?_
  refine awp_seq ?_
  refine awp_region ?_
  refine aR 1 ?_
  refine aL api_Cell.enc qx ?_
  refine aR 1 ?_
  refine aE ?_
  refine awp_block ?_
  refine awp_to (st' := fleetref2_CompactOf_x3_H qx qx1 vx4_1 ([], 0)) (oT [] [1]) ?_
  refine bE hF fun vx9_1 h13 hF => ?_
  refine awp_sub (awp_loop' (fleetref2_CompactOf_x3_H qx qx1 vx4_1) fleetref2_CompactOf_x3_k (fleetref2_CompactOf_x3_S qx qx1 vx4_1) (by intro x; exact fun h => nomatch h) h13 (fleetref2_CompactOf_x3_ok qx qx1 vx4_1)) ?_
  refine awp_seq ?_
  refine awp_seq ?_
  refine awp_region ?_
  refine aR 1 ?_
  refine aL api_Cell.enc vx9_1 ?_
  refine aR 1 ?_
  refine aE ?_
  refine awp_block ?_
  refine awp_to (st' := fleetref2_CompactOf_x5_H qx1 vx9_1 ([], 0)) (oT [] [1]) ?_
  refine bE hF fun vx16_1 h24 hF => ?_
  refine awp_sub (awp_loop' (fleetref2_CompactOf_x5_H qx1 vx9_1) fleetref2_CompactOf_x5_k (fleetref2_CompactOf_x5_S qx1 vx9_1) (by intro x; exact fun h => nomatch h) h24 (fleetref2_CompactOf_x5_ok qx1 vx9_1)) ?_
  refine awp_seq ?_
  refine awp_region ?_
  refine aR 2 ?_
  refine aE ?_
  refine awp_ret ?_
  exact oF hF [] []

/-! ### slices.Equal[[]beaconfleet/api.Prop,beaconfleet/api.Prop] -/
def slices_Equal_api_Prop_api_Prop_x1_k : Unit ⊕ Unit → AEx
  | .inl _ => .exit 0
  | .inr _ => .ret

def slices_Equal_api_Prop_api_Prop_x1_S (qs1 : List api_Prop) (qs2 : List api_Prop) : Unit ⊕ Unit → St
  | .inl _ => Mem.st ⟨[], []⟩ (tl []) 0
  | .inr _ => Mem.st ⟨[], []⟩ (tl [(4, .v (.one (.d (.bool false))))]) 0

def slices_Equal_api_Prop_api_Prop_x1_H (qs1 : List api_Prop) (qs2 : List api_Prop) : Int → St
  | vx => Mem.st ⟨[], []⟩ (tl [(0, .v (.one (.d (.lst (List.map api_Prop.enc qs1))))), (1, .v (.one (.d (.lst (List.map api_Prop.enc qs2))))), (12, .v (.one (.d (.int .i64 (qs1.length : Int))))), (13, .v (.one (.d (.int .i64 vx))))]) 0

theorem slices_Equal_api_Prop_api_Prop_x1_ok (qs1 : List api_Prop) (qs2 : List api_Prop) (vx : Int) (r : (Int) ⊕ (Unit ⊕ Unit)) (hF : slices_Equal_api_Prop_api_Prop_x1 qs1 qs2 vx = some r) : Awp prog 0 26 (cL (cL (cR (cL (cR (cR (cB f16))))))) (Out 0 (kk slices_Equal_api_Prop_api_Prop_x1_k) (SS (slices_Equal_api_Prop_api_Prop_x1_H qs1 qs2) (slices_Equal_api_Prop_api_Prop_x1_S qs1 qs2)) r) (slices_Equal_api_Prop_api_Prop_x1_H qs1 qs2 vx) := by
  unfold slices_Equal_api_Prop_api_Prop_x1 at hF
  refine awp_seq ?_
  refine awp_region ?_
  refine aR 1 ?_
  refine aE ?_
  refine awp_seq ?_
  refine cE hF (fun h2 hF => ?_) fun h2 hF => ?_
  · refine awp_true (by kernel_rfl) h2 ?_
    refine awp_skip ?_
    refine awp_seq ?_
    refine awp_block ?_
    refine awp_seq ?_
    refine awp_region ?_
    refine aR 2 ?_
    refine aE ?_
    refine awp_seq ?_
    refine bE hF fun vy2 h3 hF => ?_
    refine bE hF fun vy3 h4 hF => ?_
    refine aD ?_
    refine dR 2 ?_
    refine dX (x_idx api_Prop.enc h3) ?_
    refine dR 3 ?_
    refine dX (x_idx api_Prop.enc h4) ?_
    refine dR 1 ?_
    refine dS (U := []) (stable_eqS (op := .neq) (xs := [.str vy2.Name, .int .i64 vy2.Value.Kind, .bool vy2.Value.Flag, .int .i64 vy2.Value.Number, .str vy2.Value.Words]) (ys := [.str vy3.Name, .int .i64 vy3.Value.Kind, .bool vy3.Value.Flag, .int .i64 vy3.Value.Number, .str vy3.Value.Words]) (b := (decide (vy2.Name = vy3.Name) && ((decide (vy2.Value.Kind = vy3.Value.Kind) && ((vy2.Value.Flag == vy3.Value.Flag) && (decide (vy2.Value.Number = vy3.Value.Number) && (decide (vy2.Value.Words = vy3.Value.Words) && true)))) && true))) (c := (!(decide (vy2.Name = vy3.Name) && ((decide (vy2.Value.Kind = vy3.Value.Kind) && ((vy2.Value.Flag == vy3.Value.Flag) && (decide (vy2.Value.Number = vy3.Value.Number) && (decide (vy2.Value.Words = vy3.Value.Words) && true)))) && true)))) rfl (.inr ⟨rfl, rfl⟩) (by kernel_rfl) (by kernel_rfl) (by kernel_rfl) (by kernel_rfl) (by kernel_rfl) (by kernel_rfl)) ?_
    refine dE ?_
    refine cE hF (fun h5 hF => ?_) fun h5 hF => ?_
    · refine awp_true (by kernel_rfl) h5 ?_
      refine awp_seq ?_
      refine awp_region ?_
      refine aR 1 ?_
      refine aE ?_
      refine awp_ret ?_
      exact oO hF [] [] rfl
    · refine awp_false (by kernel_rfl) h5 ?_
      refine awp_skip ?_
      refine awp_region ?_
      refine aR 2 ?_
      refine aE ?_
      exact oO hF [] [] rfl
  · refine awp_false (by kernel_rfl) h2 ?_
    refine awp_exit ?_
    exact oO hF [] [] rfl

def slices_Equal_api_Prop_api_Prop_R (qs1 : List api_Prop) (qs2 : List api_Prop) (r : Bool) : TV × Mem := (.v (.one (.d (.bool r))), ⟨[], []⟩)

theorem slices_Equal_api_Prop_api_Prop_ok {qs1 : List api_Prop} {qs2 : List api_Prop} {r} (hF : slices_Equal_api_Prop_api_Prop qs1 qs2 = some r) : Holds prog 16 [.v (.one (.d (.lst (List.map api_Prop.enc qs1)))), .v (.one (.d (.lst (List.map api_Prop.enc qs2))))] ⟨[], []⟩ (Is (slices_Equal_api_Prop_api_Prop_R qs1 qs2 r)) := by
  unfold slices_Equal_api_Prop_api_Prop at hF
  refine holds_of_awp hΓ (fn := f16) (c := cB f16) (A := 0) (nx := 0) (by kernel_rfl) (by kernel_rfl) (by kernel_rfl) (by kernel_rfl) (by kernel_rfl) (by kernel_rfl) (lowc_of (by kernel_rfl)) ?_
  show Awp prog 0 26 (cB f16) _ _
  refine awp_seq ?_
  refine awp_region ?_
  refine aR 1 ?_
  refine aE ?_
  refine awp_seq ?_
  refine awp_seq ?_
  refine awp_region ?_
  refine aR 1 ?_
  refine aL api_Prop.enc qs1 ?_
  refine aR 1 ?_
  refine aL api_Prop.enc qs2 ?_
  refine aR 1 ?_
  refine aE ?_
  refine cE hF (fun h1 hF => ?_) fun h1 hF => ?_
  · refine awp_true (by kernel_rfl) h1 ?_
    refine awp_seq ?_
    refine awp_region ?_
    refine aR 1 ?_
    refine aE ?_
    refine awp_ret ?_
    exact oF hF [] []
  · refine awp_false (by kernel_rfl) h1 ?_
    refine awp_skip ?_
    refine awp_seq ?_
    refine awp_seq ?_
    refine awp_region ?_
    refine aR 1 ?_
    refine aL api_Prop.enc qs1 ?_
    refine aR 1 ?_
    refine aE ?_
    refine awp_block ?_
    refine awp_to (st' := slices_Equal_api_Prop_api_Prop_x1_H qs1 qs2 0) (oT [] []) ?_
    refine bE hF fun x h6 hF => ?_
    rcases x with _ | _
    · refine awp_sub (awp_loop' (slices_Equal_api_Prop_api_Prop_x1_H qs1 qs2) slices_Equal_api_Prop_api_Prop_x1_k (slices_Equal_api_Prop_api_Prop_x1_S qs1 qs2) (by intro x; rcases x with x | x <;> exact fun h => nomatch h) h6 (slices_Equal_api_Prop_api_Prop_x1_ok qs1 qs2)) ?_
      refine awp_seq ?_
      refine awp_region ?_
      refine aR 1 ?_
      refine aE ?_
      refine awp_ret ?_
      exact oF hF [] []
    · refine awp_sub (awp_loop' (slices_Equal_api_Prop_api_Prop_x1_H qs1 qs2) slices_Equal_api_Prop_api_Prop_x1_k (slices_Equal_api_Prop_api_Prop_x1_S qs1 qs2) (by intro x; rcases x with x | x <;> exact fun h => nomatch h) h6 (slices_Equal_api_Prop_api_Prop_x1_ok qs1 qs2)) ?_
      exact oF hF [] []

/-! ### slices.Equal[[]beaconfleet/api.Cell,beaconfleet/api.Cell] -/
def slices_Equal_api_Cell_api_Cell_x1_k : Unit ⊕ Unit → AEx
  | .inl _ => .exit 0
  | .inr _ => .ret

def slices_Equal_api_Cell_api_Cell_x1_S (qs1 : List api_Cell) (qs2 : List api_Cell) : Unit ⊕ Unit → St
  | .inl _ => Mem.st ⟨[], []⟩ (tl []) 0
  | .inr _ => Mem.st ⟨[], []⟩ (tl [(4, .v (.one (.d (.bool false))))]) 0

def slices_Equal_api_Cell_api_Cell_x1_H (qs1 : List api_Cell) (qs2 : List api_Cell) : Int → St
  | vx => Mem.st ⟨[], []⟩ (tl [(0, .v (.one (.d (.lst (List.map api_Cell.enc qs1))))), (1, .v (.one (.d (.lst (List.map api_Cell.enc qs2))))), (12, .v (.one (.d (.int .i64 (qs1.length : Int))))), (13, .v (.one (.d (.int .i64 vx))))]) 0

theorem slices_Equal_api_Cell_api_Cell_x1_ok (qs1 : List api_Cell) (qs2 : List api_Cell) (vx : Int) (r : (Int) ⊕ (Unit ⊕ Unit)) (hF : slices_Equal_api_Cell_api_Cell_x1 qs1 qs2 vx = some r) : Awp prog 0 26 (cL (cL (cR (cL (cR (cR (cB f17))))))) (Out 0 (kk slices_Equal_api_Cell_api_Cell_x1_k) (SS (slices_Equal_api_Cell_api_Cell_x1_H qs1 qs2) (slices_Equal_api_Cell_api_Cell_x1_S qs1 qs2)) r) (slices_Equal_api_Cell_api_Cell_x1_H qs1 qs2 vx) := by
  unfold slices_Equal_api_Cell_api_Cell_x1 at hF
  refine awp_seq ?_
  refine awp_region ?_
  refine aR 1 ?_
  refine aE ?_
  refine awp_seq ?_
  refine cE hF (fun h2 hF => ?_) fun h2 hF => ?_
  · refine awp_true (by kernel_rfl) h2 ?_
    refine awp_skip ?_
    refine awp_seq ?_
    refine awp_block ?_
    refine awp_seq ?_
    refine awp_region ?_
    refine aR 2 ?_
    refine aE ?_
    refine awp_seq ?_
    refine bE hF fun vy2 h3 hF => ?_
    refine bE hF fun vy3 h4 hF => ?_
    refine aD ?_
    refine dR 2 ?_
    refine dX (x_idx api_Cell.enc h3) ?_
    refine dR 3 ?_
    refine dX (x_idx api_Cell.enc h4) ?_
    refine dR 1 ?_
    refine dS (U := []) (stable_eqS (op := .neq) (xs := [.str vy2.Prop_.Name, .int .i64 vy2.Prop_.Value.Kind, .bool vy2.Prop_.Value.Flag, .int .i64 vy2.Prop_.Value.Number, .str vy2.Prop_.Value.Words, .int .i64 vy2.Stamp.At, .str vy2.Stamp.By, .int .i64 vy2.Stamp.No]) (ys := [.str vy3.Prop_.Name, .int .i64 vy3.Prop_.Value.Kind, .bool vy3.Prop_.Value.Flag, .int .i64 vy3.Prop_.Value.Number, .str vy3.Prop_.Value.Words, .int .i64 vy3.Stamp.At, .str vy3.Stamp.By, .int .i64 vy3.Stamp.No]) (b := ((decide (vy2.Prop_.Name = vy3.Prop_.Name) && ((decide (vy2.Prop_.Value.Kind = vy3.Prop_.Value.Kind) && ((vy2.Prop_.Value.Flag == vy3.Prop_.Value.Flag) && (decide (vy2.Prop_.Value.Number = vy3.Prop_.Value.Number) && (decide (vy2.Prop_.Value.Words = vy3.Prop_.Value.Words) && true)))) && true)) && ((decide (vy2.Stamp.At = vy3.Stamp.At) && (decide (vy2.Stamp.By = vy3.Stamp.By) && (decide (vy2.Stamp.No = vy3.Stamp.No) && true))) && true))) (c := (!((decide (vy2.Prop_.Name = vy3.Prop_.Name) && ((decide (vy2.Prop_.Value.Kind = vy3.Prop_.Value.Kind) && ((vy2.Prop_.Value.Flag == vy3.Prop_.Value.Flag) && (decide (vy2.Prop_.Value.Number = vy3.Prop_.Value.Number) && (decide (vy2.Prop_.Value.Words = vy3.Prop_.Value.Words) && true)))) && true)) && ((decide (vy2.Stamp.At = vy3.Stamp.At) && (decide (vy2.Stamp.By = vy3.Stamp.By) && (decide (vy2.Stamp.No = vy3.Stamp.No) && true))) && true)))) rfl (.inr ⟨rfl, rfl⟩) (by kernel_rfl) (by kernel_rfl) (by kernel_rfl) (by kernel_rfl) (by kernel_rfl) (by kernel_rfl)) ?_
    refine dE ?_
    refine cE hF (fun h5 hF => ?_) fun h5 hF => ?_
    · refine awp_true (by kernel_rfl) h5 ?_
      refine awp_seq ?_
      refine awp_region ?_
      refine aR 1 ?_
      refine aE ?_
      refine awp_ret ?_
      exact oO hF [] [] rfl
    · refine awp_false (by kernel_rfl) h5 ?_
      refine awp_skip ?_
      refine awp_region ?_
      refine aR 2 ?_
      refine aE ?_
      exact oO hF [] [] rfl
  · refine awp_false (by kernel_rfl) h2 ?_
    refine awp_exit ?_
    exact oO hF [] [] rfl

def slices_Equal_api_Cell_api_Cell_R (qs1 : List api_Cell) (qs2 : List api_Cell) (r : Bool) : TV × Mem := (.v (.one (.d (.bool r))), ⟨[], []⟩)

theorem slices_Equal_api_Cell_api_Cell_ok {qs1 : List api_Cell} {qs2 : List api_Cell} {r} (hF : slices_Equal_api_Cell_api_Cell qs1 qs2 = some r) : Holds prog 17 [.v (.one (.d (.lst (List.map api_Cell.enc qs1)))), .v (.one (.d (.lst (List.map api_Cell.enc qs2))))] ⟨[], []⟩ (Is (slices_Equal_api_Cell_api_Cell_R qs1 qs2 r)) := by
  unfold slices_Equal_api_Cell_api_Cell at hF
  refine holds_of_awp hΓ (fn := f17) (c := cB f17) (A := 0) (nx := 0) (by kernel_rfl) (by kernel_rfl) (by kernel_rfl) (by kernel_rfl) (by kernel_rfl) (by kernel_rfl) (lowc_of (by kernel_rfl)) ?_
  show Awp prog 0 26 (cB f17) _ _
  refine awp_seq ?_
  refine awp_region ?_
  refine aR 1 ?_
  refine aE ?_
  refine awp_seq ?_
  refine awp_seq ?_
  refine awp_region ?_
  refine aR 1 ?_
  refine aL api_Cell.enc qs1 ?_
  refine aR 1 ?_
  refine aL api_Cell.enc qs2 ?_
  refine aR 1 ?_
  refine aE ?_
  refine cE hF (fun h1 hF => ?_) fun h1 hF => ?_
  · refine awp_true (by kernel_rfl) h1 ?_
    refine awp_seq ?_
    refine awp_region ?_
    refine aR 1 ?_
    refine aE ?_
    refine awp_ret ?_
    exact oF hF [] []
  · refine awp_false (by kernel_rfl) h1 ?_
    refine awp_skip ?_
    refine awp_seq ?_
    refine awp_seq ?_
    refine awp_region ?_
    refine aR 1 ?_
    refine aL api_Cell.enc qs1 ?_
    refine aR 1 ?_
    refine aE ?_
    refine awp_block ?_
    refine awp_to (st' := slices_Equal_api_Cell_api_Cell_x1_H qs1 qs2 0) (oT [] []) ?_
    refine bE hF fun x h6 hF => ?_
    rcases x with _ | _
    · refine awp_sub (awp_loop' (slices_Equal_api_Cell_api_Cell_x1_H qs1 qs2) slices_Equal_api_Cell_api_Cell_x1_k (slices_Equal_api_Cell_api_Cell_x1_S qs1 qs2) (by intro x; rcases x with x | x <;> exact fun h => nomatch h) h6 (slices_Equal_api_Cell_api_Cell_x1_ok qs1 qs2)) ?_
      refine awp_seq ?_
      refine awp_region ?_
      refine aR 1 ?_
      refine aE ?_
      refine awp_ret ?_
      exact oF hF [] []
    · refine awp_sub (awp_loop' (slices_Equal_api_Cell_api_Cell_x1_H qs1 qs2) slices_Equal_api_Cell_api_Cell_x1_k (slices_Equal_api_Cell_api_Cell_x1_S qs1 qs2) (by intro x; rcases x with x | x <;> exact fun h => nomatch h) h6 (slices_Equal_api_Cell_api_Cell_x1_ok qs1 qs2)) ?_
      exact oF hF [] []

/-! ### beaconfleet/twin.CheckProps -/
def twin_CheckProps_n0_x1_k : Unit → AEx
  | _ => .exit 0

def twin_CheckProps_n0_x1_S : Unit → St
  | _ => Mem.st ⟨[], [(0, [.nil])]⟩ (tl [(1, .v (.one (.box 0 0)))]) 1

def twin_CheckProps_n0_x1_H : Unit → St
  | _ => Mem.st ⟨[], [(0, [.nil])]⟩ (tl [(1, .v (.one (.box 0 0))), (11, .v (.one (.nil))), (12, .v (.one (.d (.int .i64 0)))), (13, .v (.one (.d (.int .i64 0))))]) 1

theorem twin_CheckProps_n0_x1_ok (s : Unit) (r : (Unit) ⊕ (Unit)) (hF : twin_CheckProps_n0_x1  s = some r) : Awp prog 0 57 (cL (cL (cR (cL (cR (cR (cB f24))))))) (Out 0 (kk twin_CheckProps_n0_x1_k) (SS (twin_CheckProps_n0_x1_H ) (twin_CheckProps_n0_x1_S )) r) (twin_CheckProps_n0_x1_H  s) := by
  unfold twin_CheckProps_n0_x1 at hF
  refine awp_seq ?_
  refine awp_region ?_
  refine aR 1 ?_
  refine aE ?_
  refine awp_seq ?_
  refine cE hF (fun h2 hF => ?_) fun h2 hF => ?_
  · refine awp_true (by kernel_rfl) h2 ?_
    refine awp_skip ?_
    refine awp_seq ?_
    refine awp_block ?_
    refine awp_seq ?_
    exact nE hF
  · refine awp_false (by kernel_rfl) h2 ?_
    refine awp_exit ?_
    exact oO hF [] [] rfl

def twin_CheckProps_n0_x2_k : Unit → AEx
  | _ => .exit 2

def twin_CheckProps_n0_x2_S : Unit → St
  | _ => Mem.st ⟨[], []⟩ (tl []) 0

def twin_CheckProps_n0_x2_H : Unit → St
  | _ => Mem.st ⟨[], [(0, [.nil])]⟩ (tl [(1, .v (.one (.box 0 0))), (46, .v (.one (.nil))), (47, .v (.one (.d (.int .i64 0)))), (48, .v (.one (.d (.int .i64 0))))]) 1

theorem twin_CheckProps_n0_x2_ok (s : Unit) (r : (Unit) ⊕ (Unit)) (hF : twin_CheckProps_n0_x2  s = some r) : Awp prog 0 57 (cL (cL (cR (cL (cR (cR (cR (cB f24)))))))) (Out 0 (kk twin_CheckProps_n0_x2_k) (SS (twin_CheckProps_n0_x2_H ) (twin_CheckProps_n0_x2_S )) r) (twin_CheckProps_n0_x2_H  s) := by
  unfold twin_CheckProps_n0_x2 at hF
  refine awp_seq ?_
  refine awp_region ?_
  refine aR 1 ?_
  refine aE ?_
  refine awp_seq ?_
  refine cE hF (fun h5 hF => ?_) fun h5 hF => ?_
  · refine awp_true (by kernel_rfl) h5 ?_
    refine awp_skip ?_
    refine awp_seq ?_
    refine awp_block ?_
    refine awp_seq ?_
    exact nE hF
  · refine awp_false (by kernel_rfl) h5 ?_
    refine awp_exit ?_
    exact oO hF [] [] rfl

def twin_CheckProps_n0_R (r : Int) : TV × Mem := (.v (.one (.d (.int .i64 r))), ⟨[], []⟩)

theorem twin_CheckProps_n0_ok {r} (hF : twin_CheckProps_n0 = some r) : Holds prog 24 [.v (.one (.nil))] ⟨[], []⟩ (Is (twin_CheckProps_n0_R  r)) := by
  unfold twin_CheckProps_n0 at hF
  refine holds_of_awp hΓ (fn := f24) (c := cB f24) (A := 0) (nx := 0) (by kernel_rfl) (by kernel_rfl) (by kernel_rfl) (by kernel_rfl) (by kernel_rfl) (by kernel_rfl) (lowc_of (by kernel_rfl)) ?_
  show Awp prog 0 57 (cB f24) _ _
  refine awp_seq ?_
  refine awp_region ?_
  refine aR 2 ?_
  refine aE ?_
  refine awp_seq ?_
  refine awp_seq ?_
  refine awp_region ?_
  refine aR 3 ?_
  refine aE ?_
  refine cE hF (fun h1 hF => ?_) fun h1 hF => ?_
  · refine awp_true (by kernel_rfl) h1 ?_
    refine awp_seq ?_
    refine awp_region ?_
    refine aR 1 ?_
    refine aE ?_
    refine awp_ret ?_
    exact oF hF [] []
  · refine awp_false (by kernel_rfl) h1 ?_
    refine awp_skip ?_
    refine awp_seq ?_
    refine awp_seq ?_
    refine awp_region ?_
    refine aR 3 ?_
    refine aE ?_
    refine awp_block ?_
    refine awp_to (st' := twin_CheckProps_n0_x1_H  ()) (oT [] []) ?_
    refine bE hF fun _ h4 hF => ?_
    refine awp_sub (awp_loop' (twin_CheckProps_n0_x1_H ) twin_CheckProps_n0_x1_k (twin_CheckProps_n0_x1_S ) (by intro x; exact fun h => nomatch h) h4 (twin_CheckProps_n0_x1_ok )) ?_
    refine awp_seq ?_
    refine awp_seq ?_
    refine awp_region ?_
    refine aR 3 ?_
    refine aE ?_
    refine awp_block ?_
    refine awp_to (st' := twin_CheckProps_n0_x2_H  ()) (oT [] []) ?_
    refine bE hF fun _ h7 hF => ?_
    refine awp_sub (awp_loop' (twin_CheckProps_n0_x2_H ) twin_CheckProps_n0_x2_k (twin_CheckProps_n0_x2_S ) (by intro x; exact fun h => nomatch h) h7 (twin_CheckProps_n0_x2_ok )) ?_
    refine awp_seq ?_
    refine awp_region ?_
    refine aR 1 ?_
    refine aE ?_
    refine awp_ret ?_
    exact oF hF [] []

/-! ### beaconfleet/twin.find$1 -/
def twin_find_1_R (qp : api_Prop) (qname : List UInt8) (r : Unit) : TV × Mem := (.v (.one (.d (.int .i64 (Lib.compareBytes qp.Name qname)))), ⟨[], []⟩)

theorem twin_find_1_ok {qp : api_Prop} {qname : List UInt8} {r} (hF : twin_find_1 qp qname = some r) : Holds prog 126 [.v (.agg [.d (.str qp.Name), .d (.int .i64 qp.Value.Kind), .d (.bool qp.Value.Flag), .d (.int .i64 qp.Value.Number), .d (.str qp.Value.Words)]), .v (.one (.d (.str qname)))] ⟨[], []⟩ (Is (twin_find_1_R qp qname r)) := by
  unfold twin_find_1 at hF
  refine holds_of_awp hΓ (fn := f126) (c := cB f126) (A := 0) (nx := 0) (by kernel_rfl) (by kernel_rfl) (by kernel_rfl) (by kernel_rfl) (by kernel_rfl) (by kernel_rfl) (lowc_of (by kernel_rfl)) ?_
  show Awp prog 0 9 (cB f126) _ _
  refine awp_seq ?_
  refine awp_region ?_
  refine aR 2 ?_
  refine aE ?_
  refine awp_seq ?_
  refine bE hF fun _ h1 hF => ?_
  refine awp_region ?_
  refine aR 3 ?_
  refine aC (strings_Compare_ok h1) [] [] [] ?_
  refine aR 1 ?_
  refine aE ?_
  refine awp_ret ?_
  exact oF hF [] []

/-! ### slices.BinarySearchFunc[[]beaconfleet/api.Prop,beaconfleet/api.Prop,string] -/
def slices_BinarySearchFunc_api_Prop_api_Prop_string_f2_twin_find_1_x1_k : Int → AEx
  | _ => .exit 0

def slices_BinarySearchFunc_api_Prop_api_Prop_string_f2_twin_find_1_x1_S (qx : List api_Prop) (qtarget : List UInt8) : Int → St
  | vi1 => Mem.st ⟨[], []⟩ (tl [(0, .v (.one (.d (.lst (List.map api_Prop.enc qx))))), (1, .v (.one (.d (.str qtarget)))), (2, .v (.one (.fn 126 []))), (8, .v (.one (.d (.int .i64 (qx.length : Int))))), (9, .v (.one (.d (.int .i64 vi1))))]) 0

def slices_BinarySearchFunc_api_Prop_api_Prop_string_f2_twin_find_1_x1_H (qx : List api_Prop) (qtarget : List UInt8) : Int × Int → St
  | (vi, vj) => Mem.st ⟨[], []⟩ (tl [(0, .v (.one (.d (.lst (List.map api_Prop.enc qx))))), (1, .v (.one (.d (.str qtarget)))), (2, .v (.one (.fn 126 []))), (8, .v (.one (.d (.int .i64 (qx.length : Int))))), (9, .v (.one (.d (.int .i64 vi)))), (10, .v (.one (.d (.int .i64 vj))))]) 0

theorem slices_BinarySearchFunc_api_Prop_api_Prop_string_f2_twin_find_1_x1_ok (qx : List api_Prop) (qtarget : List UInt8) (s : Int × Int) (r : (Int × Int) ⊕ (Int)) (hF : slices_BinarySearchFunc_api_Prop_api_Prop_string_f2_twin_find_1_x1 qx qtarget s = some r) : Awp prog 0 49 (cL (cL (cL (cR (cR (cR (cB f125))))))) (Out 0 (kk slices_BinarySearchFunc_api_Prop_api_Prop_string_f2_twin_find_1_x1_k) (SS (slices_BinarySearchFunc_api_Prop_api_Prop_string_f2_twin_find_1_x1_H qx qtarget) (slices_BinarySearchFunc_api_Prop_api_Prop_string_f2_twin_find_1_x1_S qx qtarget)) r) (slices_BinarySearchFunc_api_Prop_api_Prop_string_f2_twin_find_1_x1_H qx qtarget s) := by
  obtain ⟨vi, vj⟩ := s
  unfold slices_BinarySearchFunc_api_Prop_api_Prop_string_f2_twin_find_1_x1 at hF
  refine awp_seq ?_
  refine awp_seq ?_
  refine awp_region ?_
  refine aR 3 ?_
  refine aE ?_
  refine cE hF (fun h1 hF => ?_) fun h1 hF => ?_
  · refine awp_true (by kernel_rfl) h1 ?_
    refine awp_skip ?_
    refine awp_block ?_
    refine awp_seq ?_
    refine awp_region ?_
    refine aR 7 ?_
    refine aE ?_
    refine awp_seq ?_
    refine bE hF fun vy1 h2 hF => ?_
    refine bE hF fun _ h3 hF => ?_
    refine awp_region ?_
    refine aR 3 ?_
    refine aX (x_idx api_Prop.enc h2) ?_
    refine aR 2 ?_
    refine aC (twin_find_1_ok h3) [] [] [] ?_
    refine aR 1 ?_
    refine aE ?_
    refine cE hF (fun h4 hF => ?_) fun h4 hF => ?_
    · refine awp_true (by kernel_rfl) h4 ?_
      refine awp_region ?_
      refine aR 3 ?_
      refine aE ?_
      exact oO hF [] [] rfl
    · refine awp_false (by kernel_rfl) h4 ?_
      refine awp_region ?_
      refine aR 2 ?_
      refine aE ?_
      exact oO hF [] [] rfl
  · refine awp_false (by kernel_rfl) h1 ?_
    refine awp_exit ?_
    exact oO hF [] [] rfl

def slices_BinarySearchFunc_api_Prop_api_Prop_string_f2_twin_find_1_x2_k : Bool → AEx
  | _ => .normal

def slices_BinarySearchFunc_api_Prop_api_Prop_string_f2_twin_find_1_x2_S (qx : List api_Prop) (qtarget : List UInt8) (vi1_1 : Int) : Bool → St
  | vx => Mem.st ⟨[], []⟩ (tl [(6, .v (.one (.d (.int .i64 vi1_1)))), (7, .v (.one (.d (.bool vx))))]) 0

def slices_BinarySearchFunc_api_Prop_api_Prop_string_f2_twin_find_1_x2_I (qx : List api_Prop) (qtarget : List UInt8) (vi1_1 : Int) : St := Mem.st ⟨[], []⟩ (tl [(0, .v (.one (.d (.lst (List.map api_Prop.enc qx))))), (1, .v (.one (.d (.str qtarget)))), (2, .v (.one (.fn 126 []))), (8, .v (.one (.d (.int .i64 (qx.length : Int))))), (9, .v (.one (.d (.int .i64 vi1_1))))]) 0

theorem slices_BinarySearchFunc_api_Prop_api_Prop_string_f2_twin_find_1_x2_ok (qx : List api_Prop) (qtarget : List UInt8) (vi1_1 : Int) {r} (hF : slices_BinarySearchFunc_api_Prop_api_Prop_string_f2_twin_find_1_x2 qx qtarget vi1_1 = some r) : Awp prog 0 49 (cL (cR (cR (cR (cR (cB f125)))))) (Out 0 slices_BinarySearchFunc_api_Prop_api_Prop_string_f2_twin_find_1_x2_k (slices_BinarySearchFunc_api_Prop_api_Prop_string_f2_twin_find_1_x2_S qx qtarget vi1_1) r) (slices_BinarySearchFunc_api_Prop_api_Prop_string_f2_twin_find_1_x2_I qx qtarget vi1_1) := by
  unfold slices_BinarySearchFunc_api_Prop_api_Prop_string_f2_twin_find_1_x2 at hF
  refine cE hF (fun h6 hF => ?_) fun h6 hF => ?_
  · refine bE hF fun vy2 h7 hF => ?_
    refine bE hF fun _ h8 hF => ?_
    refine awp_region ?_
    refine aR 3 ?_
    refine aB h6 ?_
    refine aR 4 ?_
    refine aX (x_idx api_Prop.enc h7) ?_
    refine aR 2 ?_
    refine aC (twin_find_1_ok h8) [] [] [] ?_
    refine aR 4 ?_
    refine aE ?_
    exact oO hF [] [] rfl
  · refine awp_region ?_
    refine aR 3 ?_
    refine aB h6 ?_
    refine aR 12 ?_
    refine aE ?_
    exact oO hF [] [] rfl

def slices_BinarySearchFunc_api_Prop_api_Prop_string_f2_twin_find_1_R (qx : List api_Prop) (qtarget : List UInt8) (r : Int × Bool) : TV × Mem := (.tup [.one (.d (.int .i64 r.1)), .one (.d (.bool r.2))], ⟨[], []⟩)

theorem slices_BinarySearchFunc_api_Prop_api_Prop_string_f2_twin_find_1_ok {qx : List api_Prop} {qtarget : List UInt8} {r} (hF : slices_BinarySearchFunc_api_Prop_api_Prop_string_f2_twin_find_1 qx qtarget = some r) : Holds prog 125 [.v (.one (.d (.lst (List.map api_Prop.enc qx)))), .v (.one (.d (.str qtarget))), .v (.one (.fn 126 []))] ⟨[], []⟩ (Is (slices_BinarySearchFunc_api_Prop_api_Prop_string_f2_twin_find_1_R qx qtarget r)) := by
  unfold slices_BinarySearchFunc_api_Prop_api_Prop_string_f2_twin_find_1 at hF
  refine holds_of_awp hΓ (fn := f125) (c := cB f125) (A := 0) (nx := 0) (by kernel_rfl) (by kernel_rfl) (by kernel_rfl) (by kernel_rfl) (by kernel_rfl) (by kernel_rfl) (lowc_of (by kernel_rfl)) ?_
  show Awp prog 0 49 (cB f125) _ _
  refine awp_seq ?_
  refine awp_region ?_
  refine aR 2 ?_
  refine aE ?_
  refine awp_seq ?_
  refine awp_region ?_
  refine aR 1 ?_
  refine aL api_Prop.enc qx ?_
  refine aR 1 ?_
  refine aE ?_
  refine awp_seq ?_
  refine awp_region ?_
  refine aR 3 ?_
  refine aE ?_
  refine awp_seq ?_
  refine awp_block ?_
  refine awp_to (st' := slices_BinarySearchFunc_api_Prop_api_Prop_string_f2_twin_find_1_x1_H qx qtarget (0, (qx.length : Int))) (oT [] []) ?_
  refine bE hF fun vi1_1 h5 hF => ?_
  refine awp_sub (awp_loop' (slices_BinarySearchFunc_api_Prop_api_Prop_string_f2_twin_find_1_x1_H qx qtarget) slices_BinarySearchFunc_api_Prop_api_Prop_string_f2_twin_find_1_x1_k (slices_BinarySearchFunc_api_Prop_api_Prop_string_f2_twin_find_1_x1_S qx qtarget) (by intro x; exact fun h => nomatch h) h5 (slices_BinarySearchFunc_api_Prop_api_Prop_string_f2_twin_find_1_x1_ok qx qtarget)) ?_
  refine awp_seq ?_
  refine awp_to (st' := slices_BinarySearchFunc_api_Prop_api_Prop_string_f2_twin_find_1_x2_I qx qtarget vi1_1) (oT [] []) ?_
  refine bE hF fun vx1 h9 hF => ?_
  refine awp_sub (slices_BinarySearchFunc_api_Prop_api_Prop_string_f2_twin_find_1_x2_ok qx qtarget vi1_1 h9) ?_
  refine awp_ret ?_
  exact oF hF [] []

/-! ### beaconfleet/twin.find -/
def twin_find_R (ql : List api_Prop) (qname : List UInt8) (r : Int) : TV × Mem := (.v (.one (.d (.int .i64 r))), ⟨[], []⟩)

theorem twin_find_ok {ql : List api_Prop} {qname : List UInt8} {r} (hF : twin_find ql qname = some r) : Holds prog 76 [.v (.one (.d (.lst (List.map api_Prop.enc ql)))), .v (.one (.d (.str qname)))] ⟨[], []⟩ (Is (twin_find_R ql qname r)) := by
  unfold twin_find at hF
  refine holds_of_awp hΓ (fn := f76) (c := cB f76) (A := 0) (nx := 0) (by kernel_rfl) (by kernel_rfl) (by kernel_rfl) (by kernel_rfl) (by kernel_rfl) (by kernel_rfl) (lowc_of (by kernel_rfl)) ?_
  show Awp prog 0 16 (cB f76) _ _
  refine awp_seq ?_
  refine awp_region ?_
  refine aR 1 ?_
  refine aE ?_
  refine awp_seq ?_
  refine bE hF fun x h1 hF => ?_
  obtain ⟨vr, vr1⟩ := x
  refine awp_region ?_
  refine aR 2 ?_
  refine aC (slices_BinarySearchFunc_api_Prop_api_Prop_string_f2_twin_find_1_ok h1) [] [] [] ?_
  refine aR 5 ?_
  refine aE ?_
  refine awp_seq ?_
  refine awp_seq ?_
  refine awp_region ?_
  refine aR 2 ?_
  refine aE ?_
  refine cE hF (fun h2 hF => ?_) fun h2 hF => ?_
  · refine awp_true (by kernel_rfl) h2 ?_
    refine awp_seq ?_
    refine awp_region ?_
    refine aR 1 ?_
    refine aE ?_
    refine awp_ret ?_
    exact oF hF [] []
  · refine awp_false (by kernel_rfl) h2 ?_
    refine awp_skip ?_
    refine awp_seq ?_
    refine awp_region ?_
    refine aR 2 ?_
    refine aE ?_
    refine awp_ret ?_
    exact oF hF [] []

/-! ### beaconfleet/twin.CheckProps$1 -/
def twin_CheckProps_1_R (qs : List UInt8) (qx : List api_Prop) (r : Bool) : TV × Mem := (.v (.one (.d (.bool r))), ⟨[], [(0, [.d (.lst (List.map api_Prop.enc qx))])]⟩)

theorem twin_CheckProps_1_ok {qs : List UInt8} {qx : List api_Prop} {r} (hF : twin_CheckProps_1 qs qx = some r) : Holds prog 75 [.v (.one (.d (.str qs))), .v (.one (.box 0 0))] ⟨[], [(0, [.d (.lst (List.map api_Prop.enc qx))])]⟩ (Is (twin_CheckProps_1_R qs qx r)) := by
  unfold twin_CheckProps_1 at hF
  refine holds_of_awp hΓ (fn := f75) (c := cB f75) (A := 1) (nx := 1) (by kernel_rfl) (by kernel_rfl) (by kernel_rfl) (by kernel_rfl) (by kernel_rfl) (by kernel_rfl) (lowc_of (by kernel_rfl)) ?_
  show Awp prog 1 8 (cB f75) _ _
  refine awp_seq ?_
  refine awp_region ?_
  refine aR 1 ?_
  refine aE ?_
  refine awp_seq ?_
  refine bE hF fun vr2 h1 hF => ?_
  refine awp_region ?_
  refine aR 2 ?_
  refine aC (twin_find_ok h1) [] [] [] ?_
  refine aR 2 ?_
  refine aE ?_
  refine awp_ret ?_
  exact oF hF [] []

/-! ### beaconfleet/twin.above -/
def twin_above_f1_twin_CheckProps_1_x2_k : Bool → AEx
  | _ => .normal

def twin_above_f1_twin_CheckProps_1_x2_S (qname : List UInt8) (qf : List api_Prop) (vx : Int) : Bool → St
  | vx2 => Mem.st ⟨[], [(0, [.d (.lst (List.map api_Prop.enc qf))])]⟩ (tl [(0, .v (.one (.d (.str qname)))), (1, .v (.one (.fn 75 [0]))), (7, .v (.one (.d (.int .i64 (qname.length : Int))))), (8, .v (.one (.d (.int .i64 vx)))), (21, .v (.one (.d (.bool vx2))))]) 1

def twin_above_f1_twin_CheckProps_1_x2_I (qname : List UInt8) (qf : List api_Prop) (vx : Int) : St := Mem.st ⟨[], [(0, [.d (.lst (List.map api_Prop.enc qf))])]⟩ (tl [(0, .v (.one (.d (.str qname)))), (1, .v (.one (.fn 75 [0]))), (5, .v (.one (.d (.int .i64 vx)))), (7, .v (.one (.d (.int .i64 (qname.length : Int))))), (8, .v (.one (.d (.int .i64 vx))))]) 1

theorem twin_above_f1_twin_CheckProps_1_x2_ok (qname : List UInt8) (qf : List api_Prop) (vx : Int) {r} (hF : twin_above_f1_twin_CheckProps_1_x2 qname qf vx = some r) : Awp prog 1 23 (cL (cR (cL (cL (cR (cR (cL (cL (cR (cL (cR (cB f74)))))))))))) (Out 1 twin_above_f1_twin_CheckProps_1_x2_k (twin_above_f1_twin_CheckProps_1_x2_S qname qf vx) r) (twin_above_f1_twin_CheckProps_1_x2_I qname qf vx) := by
  unfold twin_above_f1_twin_CheckProps_1_x2 at hF
  refine bE hF fun vc1 h2 hF => ?_
  refine cE hF (fun h3 hF => ?_) fun h3 hF => ?_
  · refine bE hF fun vs1 h4 hF => ?_
    refine bE hF fun vr1 h5 hF => ?_
    refine awp_region ?_
    refine aR 2 ?_
    refine aX (x_idxS h2) ?_
    refine aB h3 ?_
    refine aR 4 ?_
    refine aX (x_sliceS h4) ?_
    refine aC (twin_CheckProps_1_ok h5) [] [] [] ?_
    refine aR 1 ?_
    refine aE ?_
    exact oO hF [] [] rfl
  · refine awp_region ?_
    refine aR 2 ?_
    refine aX (x_idxS h2) ?_
    refine aB h3 ?_
    refine aR 7 ?_
    refine aE ?_
    exact oO hF [] [] rfl

def twin_above_f1_twin_CheckProps_1_x1_k : Unit ⊕ Unit → AEx
  | .inl _ => .exit 0
  | .inr _ => .ret

def twin_above_f1_twin_CheckProps_1_x1_S (qname : List UInt8) (qf : List api_Prop) : Unit ⊕ Unit → St
  | .inl _ => Mem.st ⟨[], [(0, [.d (.lst (List.map api_Prop.enc qf))])]⟩ (tl []) 1
  | .inr _ => Mem.st ⟨[], [(0, [.d (.lst (List.map api_Prop.enc qf))])]⟩ (tl [(4, .v (.one (.d (.bool true))))]) 1

def twin_above_f1_twin_CheckProps_1_x1_H (qname : List UInt8) (qf : List api_Prop) : Int → St
  | vx => Mem.st ⟨[], [(0, [.d (.lst (List.map api_Prop.enc qf))])]⟩ (tl [(0, .v (.one (.d (.str qname)))), (1, .v (.one (.fn 75 [0]))), (7, .v (.one (.d (.int .i64 (qname.length : Int))))), (8, .v (.one (.d (.int .i64 vx))))]) 1

theorem twin_above_f1_twin_CheckProps_1_x1_ok (qname : List UInt8) (qf : List api_Prop) (vx : Int) (r : (Int) ⊕ (Unit ⊕ Unit)) (hF : twin_above_f1_twin_CheckProps_1_x1 qname qf vx = some r) : Awp prog 1 23 (cL (cL (cR (cL (cR (cB f74)))))) (Out 1 (kk twin_above_f1_twin_CheckProps_1_x1_k) (SS (twin_above_f1_twin_CheckProps_1_x1_H qname qf) (twin_above_f1_twin_CheckProps_1_x1_S qname qf)) r) (twin_above_f1_twin_CheckProps_1_x1_H qname qf vx) := by
  unfold twin_above_f1_twin_CheckProps_1_x1 at hF
  refine awp_seq ?_
  refine awp_region ?_
  refine aR 1 ?_
  refine aE ?_
  refine awp_seq ?_
  refine cE hF (fun h1 hF => ?_) fun h1 hF => ?_
  · refine awp_true (by kernel_rfl) h1 ?_
    refine awp_skip ?_
    refine awp_seq ?_
    refine awp_block ?_
    refine awp_seq ?_
    refine awp_region ?_
    refine aR 2 ?_
    refine aE ?_
    refine awp_seq ?_
    refine awp_to (st' := twin_above_f1_twin_CheckProps_1_x2_I qname qf vx) (oT [] []) ?_
    refine bE hF fun vx2_1 h6 hF => ?_
    refine awp_sub (twin_above_f1_twin_CheckProps_1_x2_ok qname qf vx h6) ?_
    refine cE hF (fun h7 hF => ?_) fun h7 hF => ?_
    · refine awp_true (by kernel_rfl) h7 ?_
      refine awp_seq ?_
      refine awp_region ?_
      refine aR 1 ?_
      refine aE ?_
      refine awp_ret ?_
      exact oO hF [] [] rfl
    · refine awp_false (by kernel_rfl) h7 ?_
      refine awp_skip ?_
      refine awp_region ?_
      refine aR 2 ?_
      refine aE ?_
      exact oO hF [] [] rfl
  · refine awp_false (by kernel_rfl) h1 ?_
    refine awp_exit ?_
    exact oO hF [] [] rfl

def twin_above_f1_twin_CheckProps_1_R (qname : List UInt8) (qf : List api_Prop) (r : Bool) : TV × Mem := (.v (.one (.d (.bool r))), ⟨[], [(0, [.d (.lst (List.map api_Prop.enc qf))])]⟩)

theorem twin_above_f1_twin_CheckProps_1_ok {qname : List UInt8} {qf : List api_Prop} {r} (hF : twin_above_f1_twin_CheckProps_1 qname qf = some r) : Holds prog 74 [.v (.one (.d (.str qname))), .v (.one (.fn 75 [0]))] ⟨[], [(0, [.d (.lst (List.map api_Prop.enc qf))])]⟩ (Is (twin_above_f1_twin_CheckProps_1_R qname qf r)) := by
  unfold twin_above_f1_twin_CheckProps_1 at hF
  refine holds_of_awp hΓ (fn := f74) (c := cB f74) (A := 1) (nx := 1) (by kernel_rfl) (by kernel_rfl) (by kernel_rfl) (by kernel_rfl) (by kernel_rfl) (by kernel_rfl) (lowc_of (by kernel_rfl)) ?_
  show Awp prog 1 23 (cB f74) _ _
  refine awp_seq ?_
  refine awp_region ?_
  refine aR 1 ?_
  refine aE ?_
  refine awp_seq ?_
  refine awp_seq ?_
  refine awp_region ?_
  refine aR 3 ?_
  refine aE ?_
  refine awp_block ?_
  refine awp_to (st' := twin_above_f1_twin_CheckProps_1_x1_H qname qf 0) (oT [] []) ?_
  refine bE hF fun x h8 hF => ?_
  rcases x with _ | _
  · refine awp_sub (awp_loop' (twin_above_f1_twin_CheckProps_1_x1_H qname qf) twin_above_f1_twin_CheckProps_1_x1_k (twin_above_f1_twin_CheckProps_1_x1_S qname qf) (by intro x; rcases x with x | x <;> exact fun h => nomatch h) h8 (twin_above_f1_twin_CheckProps_1_x1_ok qname qf)) ?_
    refine awp_seq ?_
    refine awp_region ?_
    refine aR 1 ?_
    refine aE ?_
    refine awp_ret ?_
    exact oF hF [] []
  · refine awp_sub (awp_loop' (twin_above_f1_twin_CheckProps_1_x1_H qname qf) twin_above_f1_twin_CheckProps_1_x1_k (twin_above_f1_twin_CheckProps_1_x1_S qname qf) (by intro x; rcases x with x | x <;> exact fun h => nomatch h) h8 (twin_above_f1_twin_CheckProps_1_x1_ok qname qf)) ?_
    exact oF hF [] []

/-! ### beaconfleet/twin.CheckProps -/
def twin_CheckProps_x2_k : Bool → AEx
  | _ => .normal

def twin_CheckProps_x2_S (ql : List api_Prop) (vx : Int) (vy2 : api_Prop) : Bool → St
  | vx2 => Mem.st ⟨[], [(0, [.d (.lst (List.map api_Prop.enc ql))])]⟩ (tl [(1, .v (.one (.box 0 0))), (11, .v (.one (.d (.lst (List.map api_Prop.enc ql))))), (12, .v (.one (.d (.int .i64 (ql.length : Int))))), (13, .v (.one (.d (.int .i64 vx)))), (44, .v (.one (.d (.bool vx2))))]) 1

def twin_CheckProps_x2_I (ql : List api_Prop) (vx : Int) (vy2 : api_Prop) : St := Mem.st ⟨[], [(0, [.d (.lst (List.map api_Prop.enc ql))]), (1, [.d (.str vy2.Name), .d (.int .i64 vy2.Value.Kind), .d (.bool vy2.Value.Flag), .d (.int .i64 vy2.Value.Number), .d (.str vy2.Value.Words)])]⟩ (tl [(1, .v (.one (.box 0 0))), (3, .v (.one (.d (.int .i64 vx)))), (4, .v (.one (.box 1 0))), (11, .v (.one (.d (.lst (List.map api_Prop.enc ql))))), (12, .v (.one (.d (.int .i64 (ql.length : Int))))), (13, .v (.one (.d (.int .i64 vx))))]) 2

theorem twin_CheckProps_x2_ok (ql : List api_Prop) (vx : Int) (vy2 : api_Prop) {r} (hF : twin_CheckProps_x2 ql vx vy2 = some r) : Awp prog 0 57 (cL (cR (cR (cR (cR (cL (cL (cR (cR (cL (cL (cR (cL (cR (cR (cB f24)))))))))))))))) (Out 0 twin_CheckProps_x2_k (twin_CheckProps_x2_S ql vx vy2) r) (twin_CheckProps_x2_I ql vx vy2) := by
  unfold twin_CheckProps_x2 at hF
  refine cE hF (fun h9 hF => ?_) fun h9 hF => ?_
  · refine bE hF fun vy3 h10 hF => ?_
    refine aD ?_
    refine dR 1 ?_
    refine dB h9 ?_
    refine dR 6 ?_
    refine dX (x_idx api_Prop.enc h10) ?_
    refine dR 4 ?_
    refine dE ?_
    exact oO hF [] [] rfl
  · refine aD ?_
    refine dR 1 ?_
    refine dB h9 ?_
    refine dR 11 ?_
    refine dE ?_
    exact oO hF [] [] rfl

def twin_CheckProps_x1_k : Unit ⊕ Int → AEx
  | .inl _ => .exit 0
  | .inr _ => .ret

def twin_CheckProps_x1_S (ql : List api_Prop) : Unit ⊕ Int → St
  | .inl _ => Mem.st ⟨[], [(0, [.d (.lst (List.map api_Prop.enc ql))])]⟩ (tl [(1, .v (.one (.box 0 0)))]) 1
  | .inr vx3 => Mem.st ⟨[], []⟩ (tl [(2, .v (.one (.d (.int .i64 vx3))))]) 0

def twin_CheckProps_x1_H (ql : List api_Prop) : Int → St
  | vx => Mem.st ⟨[], [(0, [.d (.lst (List.map api_Prop.enc ql))])]⟩ (tl [(1, .v (.one (.box 0 0))), (11, .v (.one (.d (.lst (List.map api_Prop.enc ql))))), (12, .v (.one (.d (.int .i64 (ql.length : Int))))), (13, .v (.one (.d (.int .i64 vx))))]) 1

theorem twin_CheckProps_x1_ok (ql : List api_Prop) (vx : Int) (r : (Int) ⊕ (Unit ⊕ Int)) (hF : twin_CheckProps_x1 ql vx = some r) : Awp prog 0 57 (cL (cL (cR (cL (cR (cR (cB f24))))))) (Out 0 (kk twin_CheckProps_x1_k) (SS (twin_CheckProps_x1_H ql) (twin_CheckProps_x1_S ql)) r) (twin_CheckProps_x1_H ql vx) := by
  unfold twin_CheckProps_x1 at hF
  refine awp_seq ?_
  refine awp_region ?_
  refine aR 1 ?_
  refine aE ?_
  refine awp_seq ?_
  refine cE hF (fun h2 hF => ?_) fun h2 hF => ?_
  · refine awp_true (by kernel_rfl) h2 ?_
    refine awp_skip ?_
    refine awp_seq ?_
    refine awp_block ?_
    refine awp_seq ?_
    refine bE hF fun vy2 h3 hF => ?_
    refine awp_region ?_
    refine aR 1 ?_
    refine aX (x_idx api_Prop.enc h3) ?_
    refine aR 4 ?_
    refine aE ?_
    refine awp_seq ?_
    refine awp_seq ?_
    refine bE hF fun vr1 h4 hF => ?_
    refine awp_region ?_
    refine aR 2 ?_
    refine aC (twin_isName_ok h4) [] [] [] ?_
    refine aR 1 ?_
    refine aE ?_
    refine cE hF (fun h5 hF => ?_) fun h5 hF => ?_
    · refine awp_true (by kernel_rfl) h5 ?_
      refine awp_seq ?_
      refine awp_region ?_
      refine aR 1 ?_
      refine aE ?_
      refine awp_ret ?_
      exact oO hF [] [] rfl
    · refine awp_false (by kernel_rfl) h5 ?_
      refine awp_skip ?_
      refine awp_seq ?_
      refine awp_seq ?_
      refine bE hF fun vr2_1 h6 hF => ?_
      refine awp_region ?_
      refine aR 2 ?_
      refine aC (twin_valueFault_ok h6) [] [] [] ?_
      refine aR 1 ?_
      refine aE ?_
      refine awp_seq ?_
      refine awp_region ?_
      refine aR 2 ?_
      refine aE ?_
      refine cE hF (fun h7 hF => ?_) fun h7 hF => ?_
      · refine awp_true (by kernel_rfl) h7 ?_
        refine awp_seq ?_
        refine awp_region ?_
        refine aR 2 ?_
        refine aE ?_
        refine awp_ret ?_
        exact oO hF [] [] rfl
      · refine awp_false (by kernel_rfl) h7 ?_
        refine awp_skip ?_
        refine awp_seq ?_
        refine awp_seq ?_
        refine awp_region ?_
        refine aR 4 ?_
        refine aE ?_
        refine cE hF (fun h8 hF => ?_) fun h8 hF => ?_
        · refine awp_true (by kernel_rfl) h8 ?_
          refine awp_seq ?_
          refine awp_region ?_
          refine aR 1 ?_
          refine aE ?_
          refine awp_ret ?_
          exact oO hF [] [] rfl
        · refine awp_false (by kernel_rfl) h8 ?_
          refine awp_skip ?_
          refine awp_seq ?_
          refine awp_to (st' := twin_CheckProps_x2_I ql vx vy2) (oT [(1, 4001)] []) ?_
          refine bE hF fun vx2_1 h11 hF => ?_
          refine awp_sub (twin_CheckProps_x2_ok ql vx vy2 h11) ?_
          refine cE hF (fun h12 hF => ?_) fun h12 hF => ?_
          · refine awp_true (by kernel_rfl) h12 ?_
            refine awp_seq ?_
            refine awp_region ?_
            refine aR 1 ?_
            refine aE ?_
            refine awp_ret ?_
            exact oO hF [] [] rfl
          · refine awp_false (by kernel_rfl) h12 ?_
            refine awp_skip ?_
            refine awp_region ?_
            refine aR 2 ?_
            refine aE ?_
            exact oO hF [] [] rfl
  · refine awp_false (by kernel_rfl) h2 ?_
    refine awp_exit ?_
    exact oO hF [] [] rfl

def twin_CheckProps_x3_k : Unit ⊕ Unit → AEx
  | .inl _ => .exit 2
  | .inr _ => .ret

def twin_CheckProps_x3_S (ql : List api_Prop) : Unit ⊕ Unit → St
  | .inl _ => Mem.st ⟨[], []⟩ (tl []) 0
  | .inr _ => Mem.st ⟨[], []⟩ (tl [(2, .v (.one (.d (.int .i64 13))))]) 0

def twin_CheckProps_x3_H (ql : List api_Prop) : Int → St
  | vx4 => Mem.st ⟨[], [(0, [.d (.lst (List.map api_Prop.enc ql))])]⟩ (tl [(1, .v (.one (.box 0 0))), (46, .v (.one (.d (.lst (List.map api_Prop.enc ql))))), (47, .v (.one (.d (.int .i64 (ql.length : Int))))), (48, .v (.one (.d (.int .i64 vx4))))]) 1

theorem twin_CheckProps_x3_ok (ql : List api_Prop) (vx4 : Int) (r : (Int) ⊕ (Unit ⊕ Unit)) (hF : twin_CheckProps_x3 ql vx4 = some r) : Awp prog 0 57 (cL (cL (cR (cL (cR (cR (cR (cB f24)))))))) (Out 0 (kk twin_CheckProps_x3_k) (SS (twin_CheckProps_x3_H ql) (twin_CheckProps_x3_S ql)) r) (twin_CheckProps_x3_H ql vx4) := by
  unfold twin_CheckProps_x3 at hF
  refine awp_seq ?_
  refine awp_region ?_
  refine aR 1 ?_
  refine aE ?_
  refine awp_seq ?_
  refine cE hF (fun h14 hF => ?_) fun h14 hF => ?_
  · refine awp_true (by kernel_rfl) h14 ?_
    refine awp_skip ?_
    refine awp_seq ?_
    refine awp_block ?_
    refine awp_seq ?_
    refine bE hF fun vy5 h15 hF => ?_
    refine awp_region ?_
    refine aX (x_idx api_Prop.enc h15) ?_
    refine aR 3 ?_
    refine aE ?_
    refine awp_seq ?_
    refine bE hF fun vr2_3 h16 hF => ?_
    refine awp_region ?_
    refine aR 3 ?_
    refine aC (twin_above_f1_twin_CheckProps_1_ok h16) [] [] [] ?_
    refine aE ?_
    refine cE hF (fun h17 hF => ?_) fun h17 hF => ?_
    · refine awp_true (by kernel_rfl) h17 ?_
      refine awp_seq ?_
      refine awp_region ?_
      refine aR 1 ?_
      refine aE ?_
      refine awp_ret ?_
      exact oO hF [] [] rfl
    · refine awp_false (by kernel_rfl) h17 ?_
      refine awp_skip ?_
      refine awp_region ?_
      refine aR 2 ?_
      refine aE ?_
      exact oO hF [] [] rfl
  · refine awp_false (by kernel_rfl) h14 ?_
    refine awp_exit ?_
    exact oO hF [] [] rfl

def twin_CheckProps_R (ql : List api_Prop) (r : Int) : TV × Mem := (.v (.one (.d (.int .i64 r))), ⟨[], []⟩)

theorem twin_CheckProps_ok {ql : List api_Prop} {r} (hF : twin_CheckProps ql = some r) : Holds prog 24 [.v (.one (.d (.lst (List.map api_Prop.enc ql))))] ⟨[], []⟩ (Is (twin_CheckProps_R ql r)) := by
  unfold twin_CheckProps at hF
  refine holds_of_awp hΓ (fn := f24) (c := cB f24) (A := 0) (nx := 0) (by kernel_rfl) (by kernel_rfl) (by kernel_rfl) (by kernel_rfl) (by kernel_rfl) (by kernel_rfl) (lowc_of (by kernel_rfl)) ?_
  show Awp prog 0 57 (cB f24) _ _
  refine awp_seq ?_
  refine awp_region ?_
  refine aR 2 ?_
  refine aE ?_
  refine awp_seq ?_
  refine awp_seq ?_
  refine awp_region ?_
  refine aR 1 ?_
  refine aL api_Prop.enc ql ?_
  refine aR 1 ?_
  refine aE ?_
  refine cE hF (fun h1 hF => ?_) fun h1 hF => ?_
  · refine awp_true (by kernel_rfl) h1 ?_
    refine awp_seq ?_
    refine awp_region ?_
    refine aR 1 ?_
    refine aE ?_
    refine awp_ret ?_
    exact oF hF [] []
  · refine awp_false (by kernel_rfl) h1 ?_
    refine awp_skip ?_
    refine awp_seq ?_
    refine awp_seq ?_
    refine awp_region ?_
    refine aR 1 ?_
    refine aL api_Prop.enc ql ?_
    refine aR 1 ?_
    refine aE ?_
    refine awp_block ?_
    refine awp_to (st' := twin_CheckProps_x1_H ql 0) (oT [] []) ?_
    refine bE hF fun x h13 hF => ?_
    rcases x with _ | vx3_1
    · refine awp_sub (awp_loop' (twin_CheckProps_x1_H ql) twin_CheckProps_x1_k (twin_CheckProps_x1_S ql) (by intro x; rcases x with x | x <;> exact fun h => nomatch h) h13 (twin_CheckProps_x1_ok ql)) ?_
      refine awp_seq ?_
      refine awp_seq ?_
      refine awp_region ?_
      refine aR 1 ?_
      refine aL api_Prop.enc ql ?_
      refine aR 1 ?_
      refine aE ?_
      refine awp_block ?_
      refine awp_to (st' := twin_CheckProps_x3_H ql 0) (oT [] []) ?_
      refine bE hF fun x h18 hF => ?_
      rcases x with _ | _
      · refine awp_sub (awp_loop' (twin_CheckProps_x3_H ql) twin_CheckProps_x3_k (twin_CheckProps_x3_S ql) (by intro x; rcases x with x | x <;> exact fun h => nomatch h) h18 (twin_CheckProps_x3_ok ql)) ?_
        refine awp_seq ?_
        refine awp_region ?_
        refine aR 1 ?_
        refine aE ?_
        refine awp_ret ?_
        exact oF hF [] []
      · refine awp_sub (awp_loop' (twin_CheckProps_x3_H ql) twin_CheckProps_x3_k (twin_CheckProps_x3_S ql) (by intro x; rcases x with x | x <;> exact fun h => nomatch h) h18 (twin_CheckProps_x3_ok ql)) ?_
        exact oF hF [] []
    · refine awp_sub (awp_loop' (twin_CheckProps_x1_H ql) twin_CheckProps_x1_k (twin_CheckProps_x1_S ql) (by intro x; rcases x with x | x <;> exact fun h => nomatch h) h13 (twin_CheckProps_x1_ok ql)) ?_
      exact oF hF [] []

/-! ### math/bits.Len64 -/
def bits_Len64_x1_k : (Int × Int) → AEx
  | _ => .normal

def bits_Len64_x1_S (qx : Int) : (Int × Int) → St
  | (vx, vn) => Mem.st ⟨[], []⟩ (tl [(0, .v (.one (.d (.int .u64 vx)))), (2, .v (.one (.d (.int .i64 vn))))]) 0

def bits_Len64_x1_I (qx : Int) : St := Mem.st ⟨[], []⟩ (tl [(0, .v (.one (.d (.int .u64 qx)))), (2, .v (.one (.d (.int .i64 0))))]) 0

theorem bits_Len64_x1_ok (qx : Int) {r} (hF : bits_Len64_x1 qx = some r) : Awp prog 0 25 (cL (cR (cB f156))) (Out 0 bits_Len64_x1_k (bits_Len64_x1_S qx) r) (bits_Len64_x1_I qx) := by
  unfold bits_Len64_x1 at hF
  refine awp_seq ?_
  refine awp_region ?_
  refine aR 2 ?_
  refine aE ?_
  refine cE hF (fun h1 hF => ?_) fun h1 hF => ?_
  · refine awp_true (by kernel_rfl) h1 ?_
    refine awp_seq ?_
    refine awp_region ?_
    refine aR 3 ?_
    refine aE ?_
    refine awp_region ?_
    refine aR 1 ?_
    refine aE ?_
    exact oO hF [] [] rfl
  · refine awp_false (by kernel_rfl) h1 ?_
    refine awp_skip ?_
    exact oO hF [] [] rfl

def bits_Len64_x2_k : (Int × Int) → AEx
  | _ => .normal

def bits_Len64_x2_S (vx1 : Int) (vn1 : Int) : (Int × Int) → St
  | (vx2, vn2) => Mem.st ⟨[], []⟩ (tl [(0, .v (.one (.d (.int .u64 vx2)))), (2, .v (.one (.d (.int .i64 vn2))))]) 0

def bits_Len64_x2_I (vx1 : Int) (vn1 : Int) : St := Mem.st ⟨[], []⟩ (tl [(0, .v (.one (.d (.int .u64 vx1)))), (2, .v (.one (.d (.int .i64 vn1))))]) 0

theorem bits_Len64_x2_ok (vx1 : Int) (vn1 : Int) {r} (hF : bits_Len64_x2 vx1 vn1 = some r) : Awp prog 0 25 (cL (cR (cR (cB f156)))) (Out 0 bits_Len64_x2_k (bits_Len64_x2_S vx1 vn1) r) (bits_Len64_x2_I vx1 vn1) := by
  unfold bits_Len64_x2 at hF
  refine awp_seq ?_
  refine awp_region ?_
  refine aR 2 ?_
  refine aE ?_
  refine cE hF (fun h3 hF => ?_) fun h3 hF => ?_
  · refine awp_true (by kernel_rfl) h3 ?_
    refine awp_seq ?_
    refine awp_region ?_
    refine aR 3 ?_
    refine aE ?_
    refine awp_region ?_
    refine aR 3 ?_
    refine aE ?_
    exact oO hF [] [] rfl
  · refine awp_false (by kernel_rfl) h3 ?_
    refine awp_skip ?_
    exact oO hF [] [] rfl

def bits_Len64_x3_k : (Int × Int) → AEx
  | _ => .normal

def bits_Len64_x3_S (vx2_1 : Int) (vn2_1 : Int) : (Int × Int) → St
  | (vx3, vn3) => Mem.st ⟨[], []⟩ (tl [(0, .v (.one (.d (.int .u64 vx3)))), (2, .v (.one (.d (.int .i64 vn3))))]) 0

def bits_Len64_x3_I (vx2_1 : Int) (vn2_1 : Int) : St := Mem.st ⟨[], []⟩ (tl [(0, .v (.one (.d (.int .u64 vx2_1)))), (2, .v (.one (.d (.int .i64 vn2_1))))]) 0

theorem bits_Len64_x3_ok (vx2_1 : Int) (vn2_1 : Int) {r} (hF : bits_Len64_x3 vx2_1 vn2_1 = some r) : Awp prog 0 25 (cL (cR (cR (cR (cB f156))))) (Out 0 bits_Len64_x3_k (bits_Len64_x3_S vx2_1 vn2_1) r) (bits_Len64_x3_I vx2_1 vn2_1) := by
  unfold bits_Len64_x3 at hF
  refine awp_seq ?_
  refine awp_region ?_
  refine aR 2 ?_
  refine aE ?_
  refine cE hF (fun h5 hF => ?_) fun h5 hF => ?_
  · refine awp_true (by kernel_rfl) h5 ?_
    refine awp_seq ?_
    refine awp_region ?_
    refine aR 3 ?_
    refine aE ?_
    refine awp_region ?_
    refine aR 3 ?_
    refine aE ?_
    exact oO hF [] [] rfl
  · refine awp_false (by kernel_rfl) h5 ?_
    refine awp_skip ?_
    exact oO hF [] [] rfl

def bits_Len64_R (qx : Int) (r : Int) : TV × Mem := (.v (.one (.d (.int .i64 r))), ⟨[], []⟩)

theorem bits_Len64_ok {qx : Int} {r} (hF : bits_Len64 qx = some r) : Holds prog 156 [.v (.one (.d (.int .u64 qx)))] ⟨[], []⟩ (Is (bits_Len64_R qx r)) := by
  unfold bits_Len64 at hF
  refine holds_of_awp hΓ (fn := f156) (c := cB f156) (A := 0) (nx := 0) (by kernel_rfl) (by kernel_rfl) (by kernel_rfl) (by kernel_rfl) (by kernel_rfl) (by kernel_rfl) (lowc_of (by kernel_rfl)) ?_
  show Awp prog 0 25 (cB f156) _ _
  refine awp_seq ?_
  refine awp_region ?_
  refine aR 1 ?_
  refine aE ?_
  refine awp_seq ?_
  refine awp_to (st' := bits_Len64_x1_I qx) (oT [] []) ?_
  refine bE hF fun x h2 hF => ?_
  obtain ⟨vx1, vn1⟩ := x
  refine awp_sub (bits_Len64_x1_ok qx h2) ?_
  refine awp_seq ?_
  refine awp_to (st' := bits_Len64_x2_I vx1 vn1) (oT [] []) ?_
  refine bE hF fun x h4 hF => ?_
  obtain ⟨vx2_1, vn2_1⟩ := x
  refine awp_sub (bits_Len64_x2_ok vx1 vn1 h4) ?_
  refine awp_seq ?_
  refine awp_to (st' := bits_Len64_x3_I vx2_1 vn2_1) (oT [] []) ?_
  refine bE hF fun x h6 hF => ?_
  obtain ⟨vx3_1, vn3_1⟩ := x
  refine awp_sub (bits_Len64_x3_ok vx2_1 vn2_1 h6) ?_
  refine awp_seq ?_
  refine bE hF fun vc h7 hF => ?_
  refine awp_region ?_
  refine aR 3 ?_
  refine aX (x_idxS h7) ?_
  refine aR 3 ?_
  refine aE ?_
  refine awp_ret ?_
  exact oF hF [] []

/-! ### math/bits.Len -/
def bits_Len_R (qx : Int) (r : Int) : TV × Mem := (.v (.one (.d (.int .i64 r))), ⟨[], []⟩)

theorem bits_Len_ok {qx : Int} {r} (hF : bits_Len qx = some r) : Holds prog 116 [.v (.one (.d (.int .u64 qx)))] ⟨[], []⟩ (Is (bits_Len_R qx r)) := by
  unfold bits_Len at hF
  refine holds_of_awp hΓ (fn := f116) (c := cB f116) (A := 0) (nx := 0) (by kernel_rfl) (by kernel_rfl) (by kernel_rfl) (by kernel_rfl) (by kernel_rfl) (by kernel_rfl) (lowc_of (by kernel_rfl)) ?_
  show Awp prog 0 8 (cB f116) _ _
  refine awp_seq ?_
  refine awp_region ?_
  refine aR 1 ?_
  refine aE ?_
  refine awp_seq ?_
  refine awp_false (by kernel_rfl) rfl ?_
  refine awp_skip ?_
  refine awp_seq ?_
  refine bE hF fun vr h1 hF => ?_
  refine awp_region ?_
  refine aR 1 ?_
  refine aC (bits_Len64_ok h1) [] [] [] ?_
  refine aR 1 ?_
  refine aE ?_
  refine awp_ret ?_
  exact oF hF [] []

/-! ### cmp.isNaN[string] -/
def cmp_isNaN_string_R (qx : List UInt8) (r : Unit) : TV × Mem := (.v (.one (.d (.bool (!decide (qx = qx))))), ⟨[], []⟩)

theorem cmp_isNaN_string_ok {qx : List UInt8} {r} (hF : cmp_isNaN_string qx = some r) : Holds prog 217 [.v (.one (.d (.str qx)))] ⟨[], []⟩ (Is (cmp_isNaN_string_R qx r)) := by
  unfold cmp_isNaN_string at hF
  refine holds_of_awp hΓ (fn := f217) (c := cB f217) (A := 0) (nx := 0) (by kernel_rfl) (by kernel_rfl) (by kernel_rfl) (by kernel_rfl) (by kernel_rfl) (by kernel_rfl) (lowc_of (by kernel_rfl)) ?_
  show Awp prog 0 6 (cB f217) _ _
  refine awp_seq ?_
  refine awp_region ?_
  refine aR 1 ?_
  refine aE ?_
  refine awp_seq ?_
  refine awp_region ?_
  refine aR 4 ?_
  refine aE ?_
  refine awp_ret ?_
  exact oF hF [] []

/-! ### cmp.Less[string] -/
def cmp_Less_string_x1_k : Bool → AEx
  | _ => .normal

def cmp_Less_string_x1_S (qx : List UInt8) (qy : List UInt8) : Bool → St
  | vx => Mem.st ⟨[], []⟩ (tl [(4, .v (.one (.d (.bool vx))))]) 0

def cmp_Less_string_x1_I (qx : List UInt8) (qy : List UInt8) : St := Mem.st ⟨[], []⟩ (tl [(0, .v (.one (.d (.str qx)))), (1, .v (.one (.d (.str qy))))]) 0

theorem cmp_Less_string_x1_ok (qx : List UInt8) (qy : List UInt8) {r} (hF : cmp_Less_string_x1 qx qy = some r) : Awp prog 0 17 (cL (cR (cB f199))) (Out 0 cmp_Less_string_x1_k (cmp_Less_string_x1_S qx qy) r) (cmp_Less_string_x1_I qx qy) := by
  unfold cmp_Less_string_x1 at hF
  refine bE hF fun _ h1 hF => ?_
  refine cE hF (fun h2 hF => ?_) fun h2 hF => ?_
  · refine bE hF fun _ h3 hF => ?_
    refine cE hF (fun h4 hF => ?_) fun h4 hF => ?_
    · refine awp_region ?_
      refine aR 1 ?_
      refine aCb (cmp_isNaN_string_ok h1) [] [] [] h2 ?_
      refine aR 2 ?_
      refine aC (cmp_isNaN_string_ok h3) [] [] [] ?_
      refine aB h4 ?_
      refine aR 7 ?_
      refine aE ?_
      exact oO hF [] [] rfl
    · refine awp_region ?_
      refine aR 1 ?_
      refine aCb (cmp_isNaN_string_ok h1) [] [] [] h2 ?_
      refine aR 2 ?_
      refine aC (cmp_isNaN_string_ok h3) [] [] [] ?_
      refine aB h4 ?_
      refine aR 7 ?_
      refine aE ?_
      exact oO hF [] [] rfl
  · refine awp_region ?_
    refine aR 1 ?_
    refine aCb (cmp_isNaN_string_ok h1) [] [] [] h2 ?_
    refine aR 11 ?_
    refine aE ?_
    exact oO hF [] [] rfl

def cmp_Less_string_R (qx : List UInt8) (qy : List UInt8) (r : Bool) : TV × Mem := (.v (.one (.d (.bool r))), ⟨[], []⟩)

theorem cmp_Less_string_ok {qx : List UInt8} {qy : List UInt8} {r} (hF : cmp_Less_string qx qy = some r) : Holds prog 199 [.v (.one (.d (.str qx))), .v (.one (.d (.str qy)))] ⟨[], []⟩ (Is (cmp_Less_string_R qx qy r)) := by
  unfold cmp_Less_string at hF
  refine holds_of_awp hΓ (fn := f199) (c := cB f199) (A := 0) (nx := 0) (by kernel_rfl) (by kernel_rfl) (by kernel_rfl) (by kernel_rfl) (by kernel_rfl) (by kernel_rfl) (lowc_of (by kernel_rfl)) ?_
  show Awp prog 0 17 (cB f199) _ _
  refine awp_seq ?_
  refine awp_region ?_
  refine aR 1 ?_
  refine aE ?_
  refine awp_seq ?_
  refine awp_to (st' := cmp_Less_string_x1_I qx qy) (oT [] []) ?_
  refine bE hF fun vx1 h5 hF => ?_
  refine awp_sub (cmp_Less_string_x1_ok qx qy h5) ?_
  refine awp_ret ?_
  exact oF hF [] []

/-! ### slices.insertionSortOrdered[string] -/
def slices_insertionSortOrdered_string_o0_x3_k : Bool → AEx
  | _ => .normal

def slices_insertionSortOrdered_string_o0_x3_S (qa : Int) (qb : Int) (vi : Int) (vl3 : List (List UInt8)) (vj1 : Int) : Bool → St
  | vx4 => Mem.st ⟨[(0, ⟨9, 1, List.map encS vl3⟩)], []⟩ (tl [(0, .v (.one (.own 0 none))), (1, .v (.one (.d (.int .i64 qa)))), (2, .v (.one (.d (.int .i64 qb)))), (6, .v (.one (.d (.int .i64 vi)))), (7, .v (.one (.d (.int .i64 vj1)))), (30, .v (.one (.d (.bool vx4))))]) 1

def slices_insertionSortOrdered_string_o0_x3_I (qa : Int) (qb : Int) (vi : Int) (vl3 : List (List UInt8)) (vj1 : Int) : St := Mem.st ⟨[(0, ⟨9, 1, List.map encS vl3⟩)], []⟩ (tl [(0, .v (.one (.own 0 none))), (1, .v (.one (.d (.int .i64 qa)))), (2, .v (.one (.d (.int .i64 qb)))), (6, .v (.one (.d (.int .i64 vi)))), (7, .v (.one (.d (.int .i64 vj1))))]) 1

theorem slices_insertionSortOrdered_string_o0_x3_ok (qa : Int) (qb : Int) (vi : Int) (vl3 : List (List UInt8)) (vj1 : Int) {r} (hF : slices_insertionSortOrdered_string_o0_x3 qa vl3 vj1 = some r) : Awp prog 1 49 (cL (cL (cL (cL (cR (cL (cL (cR (cL (cL (cR (cB f193)))))))))))) (Out 1 slices_insertionSortOrdered_string_o0_x3_k (slices_insertionSortOrdered_string_o0_x3_S qa qb vi vl3 vj1) r) (slices_insertionSortOrdered_string_o0_x3_I qa qb vi vl3 vj1) := by
  unfold slices_insertionSortOrdered_string_o0_x3 at hF
  refine cE hF (fun h2 hF => ?_) fun h2 hF => ?_
  · refine bE hF fun vy15 h3 hF => ?_
    refine bE hF fun vy16 h4 hF => ?_
    refine bE hF fun vr3 h5 hF => ?_
    refine aD ?_
    refine dR 2 ?_
    refine dB h2 ?_
    refine dR 3 ?_
    refine dX (x_idxO encS 0 h3) ?_
    refine dX (x_ldE encS h3) ?_
    refine dR 3 ?_
    refine dX (x_idxO encS 0 h4) ?_
    refine dX (x_ldE encS h4) ?_
    refine dC (cmp_Less_string_ok h5) [] [] [] ?_
    refine dR 1 ?_
    refine dE ?_
    exact oO hF [] [] rfl
  · refine aD ?_
    refine dR 2 ?_
    refine dB h2 ?_
    refine dR 12 ?_
    refine dE ?_
    exact oO hF [] [] rfl

def slices_insertionSortOrdered_string_o0_x2_k : (List (List UInt8)) → AEx
  | _ => .exit 2

def slices_insertionSortOrdered_string_o0_x2_S (qa : Int) (qb : Int) (vi : Int) : (List (List UInt8)) → St
  | vl4 => Mem.st ⟨[(0, ⟨9, 1, List.map encS vl4⟩)], []⟩ (tl [(0, .v (.one (.own 0 none))), (1, .v (.one (.d (.int .i64 qa)))), (2, .v (.one (.d (.int .i64 qb)))), (6, .v (.one (.d (.int .i64 vi))))]) 1

def slices_insertionSortOrdered_string_o0_x2_H (qa : Int) (qb : Int) (vi : Int) : (List (List UInt8)) × Int → St
  | (vl3, vj1) => Mem.st ⟨[(0, ⟨9, 1, List.map encS vl3⟩)], []⟩ (tl [(0, .v (.one (.own 0 none))), (1, .v (.one (.d (.int .i64 qa)))), (2, .v (.one (.d (.int .i64 qb)))), (6, .v (.one (.d (.int .i64 vi)))), (7, .v (.one (.d (.int .i64 vj1))))]) 1

theorem slices_insertionSortOrdered_string_o0_x2_ok (qa : Int) (qb : Int) (vi : Int) (s : (List (List UInt8)) × Int) (r : ((List (List UInt8)) × Int) ⊕ ((List (List UInt8)))) (hF : slices_insertionSortOrdered_string_o0_x2 qa s = some r) : Awp prog 1 49 (cL (cL (cR (cL (cL (cR (cL (cL (cR (cB f193)))))))))) (Out 1 (kk slices_insertionSortOrdered_string_o0_x2_k) (SS (slices_insertionSortOrdered_string_o0_x2_H qa qb vi) (slices_insertionSortOrdered_string_o0_x2_S qa qb vi)) r) (slices_insertionSortOrdered_string_o0_x2_H qa qb vi s) := by
  obtain ⟨vl3, vj1⟩ := s
  unfold slices_insertionSortOrdered_string_o0_x2 at hF
  refine awp_seq ?_
  refine awp_seq ?_
  refine awp_to (st' := slices_insertionSortOrdered_string_o0_x3_I qa qb vi vl3 vj1) (oT [] []) ?_
  refine bE hF fun vx4_1 h6 hF => ?_
  refine awp_sub (slices_insertionSortOrdered_string_o0_x3_ok qa qb vi vl3 vj1 h6) ?_
  refine cE hF (fun h7 hF => ?_) fun h7 hF => ?_
  · refine awp_true (by kernel_rfl) h7 ?_
    refine awp_skip ?_
    refine awp_seq ?_
    refine awp_block ?_
    refine bE hF fun vy17 h8 hF => ?_
    refine bE hF fun vy18 h9 hF => ?_
    refine bE hF fun vy19 h10 hF => ?_
    refine aDw [0] ?_
    refine dR 8 ?_
    refine dI encS 0 h8 rfl ?_
    refine dX (x_ldE encS h8) ?_
    refine dR 2 ?_
    refine dI encS 0 h9 rfl ?_
    refine dX (x_ldE encS h9) ?_
    refine dI encS 0 h9 rfl ?_
    refine dW encS vy17 h9 rfl ?_
    refine dI encS 0 h10 rfl ?_
    refine dW encS vy18 h10 rfl ?_
    refine dE ?_
    refine awp_region ?_
    refine aR 3 ?_
    refine aE ?_
    exact oO hF [] [] rfl
  · refine awp_false (by kernel_rfl) h7 ?_
    refine awp_exit ?_
    exact oO hF [] [] rfl

def slices_insertionSortOrdered_string_o0_x1_k : (List (List UInt8)) → AEx
  | _ => .exit 0

def slices_insertionSortOrdered_string_o0_x1_S (qa : Int) (qb : Int) : (List (List UInt8)) → St
  | vl5 => Mem.st ⟨[(0, ⟨9, 1, List.map encS vl5⟩)], []⟩ (tl []) 1

def slices_insertionSortOrdered_string_o0_x1_H (qa : Int) (qb : Int) : (List (List UInt8)) × Int → St
  | (vl, vi) => Mem.st ⟨[(0, ⟨9, 1, List.map encS vl⟩)], []⟩ (tl [(0, .v (.one (.own 0 none))), (1, .v (.one (.d (.int .i64 qa)))), (2, .v (.one (.d (.int .i64 qb)))), (6, .v (.one (.d (.int .i64 vi))))]) 1

theorem slices_insertionSortOrdered_string_o0_x1_ok (qa : Int) (qb : Int) (s : (List (List UInt8)) × Int) (r : ((List (List UInt8)) × Int) ⊕ ((List (List UInt8)))) (hF : slices_insertionSortOrdered_string_o0_x1 qa qb s = some r) : Awp prog 1 49 (cL (cL (cR (cB f193)))) (Out 1 (kk slices_insertionSortOrdered_string_o0_x1_k) (SS (slices_insertionSortOrdered_string_o0_x1_H qa qb) (slices_insertionSortOrdered_string_o0_x1_S qa qb)) r) (slices_insertionSortOrdered_string_o0_x1_H qa qb s) := by
  obtain ⟨vl, vi⟩ := s
  unfold slices_insertionSortOrdered_string_o0_x1 at hF
  refine awp_seq ?_
  refine awp_seq ?_
  refine awp_region ?_
  refine aR 3 ?_
  refine aE ?_
  refine cE hF (fun h1 hF => ?_) fun h1 hF => ?_
  · refine awp_true (by kernel_rfl) h1 ?_
    refine awp_skip ?_
    refine awp_seq ?_
    refine awp_block ?_
    refine awp_seq ?_
    refine awp_region ?_
    refine aR 2 ?_
    refine aE ?_
    refine awp_block ?_
    refine awp_to (st' := slices_insertionSortOrdered_string_o0_x2_H qa qb vi (vl, vi)) (oT [] []) ?_
    refine bE hF fun vl4_1 h11 hF => ?_
    refine awp_sub (awp_loop' (slices_insertionSortOrdered_string_o0_x2_H qa qb vi) slices_insertionSortOrdered_string_o0_x2_k (slices_insertionSortOrdered_string_o0_x2_S qa qb vi) (by intro x; exact fun h => nomatch h) h11 (slices_insertionSortOrdered_string_o0_x2_ok qa qb vi)) ?_
    refine awp_region ?_
    refine aR 3 ?_
    refine aE ?_
    exact oO hF [] [] rfl
  · refine awp_false (by kernel_rfl) h1 ?_
    refine awp_exit ?_
    exact oO hF [] [] rfl

def slices_insertionSortOrdered_string_o0_R (qdata : List (List UInt8)) (qa : Int) (qb : Int) (r : (List (List UInt8))) : TV × Mem := (.tup [], ⟨[(0, ⟨9, 1, List.map encS r⟩)], []⟩)

theorem slices_insertionSortOrdered_string_o0_ok {qdata : List (List UInt8)} {qa : Int} {qb : Int} {r} (hF : slices_insertionSortOrdered_string_o0 qdata qa qb = some r) : Holds prog 193 [.v (.one (.own 0 none)), .v (.one (.d (.int .i64 qa))), .v (.one (.d (.int .i64 qb)))] ⟨[(0, ⟨9, 1, List.map encS qdata⟩)], []⟩ (Is (slices_insertionSortOrdered_string_o0_R qdata qa qb r)) := by
  unfold slices_insertionSortOrdered_string_o0 at hF
  refine holds_of_awp hΓ (fn := f193) (c := cB f193) (A := 1) (nx := 1) (by kernel_rfl) (by kernel_rfl) (by kernel_rfl) (by kernel_rfl) (by kernel_rfl) (by kernel_rfl) (lowc_of (by kernel_rfl)) ?_
  show Awp prog 1 49 (cB f193) _ _
  refine awp_seq ?_
  refine awp_region ?_
  refine aR 3 ?_
  refine aE ?_
  refine awp_block ?_
  refine awp_to (st' := slices_insertionSortOrdered_string_o0_x1_H qa qb (qdata, IntKind.wrap .i64 (qa + 1))) (oT [] []) ?_
  refine bE hF fun vl5_1 h12 hF => ?_
  refine awp_sub (awp_loop' (slices_insertionSortOrdered_string_o0_x1_H qa qb) slices_insertionSortOrdered_string_o0_x1_k (slices_insertionSortOrdered_string_o0_x1_S qa qb) (by intro x; exact fun h => nomatch h) h12 (slices_insertionSortOrdered_string_o0_x1_ok qa qb)) ?_
  exact oF hF [] []

/-! ### slices.pdqsortOrdered[string] -/
def slices_pdqsortOrdered_string_o0_x1_k : (List (List UInt8)) → AEx
  | _ => .ret

def slices_pdqsortOrdered_string_o0_x1_S (qx : List (List UInt8)) (qx1 : Int) (qx2 : Int) (qx3 : Int) : (List (List UInt8)) → St
  | vl => Mem.st ⟨[(0, ⟨9, 1, List.map encS vl⟩)], []⟩ (tl []) 1

def slices_pdqsortOrdered_string_o0_x1_H (qx : List (List UInt8)) (qx1 : Int) (qx2 : Int) (qx3 : Int) : Unit → St
  | _ => Mem.st ⟨[(0, ⟨9, 1, List.map encS qx⟩)], []⟩ (tl [(0, .v (.one (.own 0 none))), (1, .v (.one (.d (.int .i64 qx1)))), (2, .v (.one (.d (.int .i64 qx2)))), (3, .v (.one (.d (.int .i64 qx3)))), (8, .v (.one (.d (.bool true)))), (9, .v (.one (.d (.bool true))))]) 1

theorem slices_pdqsortOrdered_string_o0_x1_ok (qx : List (List UInt8)) (qx1 : Int) (qx2 : Int) (qx3 : Int) (s : Unit) (r : (Unit) ⊕ ((List (List UInt8)))) (hF : slices_pdqsortOrdered_string_o0_x1 qx qx1 qx2 qx3 s = some r) : Awp prog 1 134 (cL (cL (cR (cR (cB f166))))) (Out 1 (kk slices_pdqsortOrdered_string_o0_x1_k) (SS (slices_pdqsortOrdered_string_o0_x1_H qx qx1 qx2 qx3) (slices_pdqsortOrdered_string_o0_x1_S qx qx1 qx2 qx3)) r) (slices_pdqsortOrdered_string_o0_x1_H qx qx1 qx2 qx3 s) := by
  unfold slices_pdqsortOrdered_string_o0_x1 at hF
  refine awp_block ?_
  refine awp_seq ?_
  refine awp_region ?_
  refine aR 4 ?_
  refine aE ?_
  refine awp_seq ?_
  refine awp_seq ?_
  refine awp_region ?_
  refine aR 2 ?_
  refine aE ?_
  refine cE hF (fun h1 hF => ?_) fun h1 hF => ?_
  · refine awp_true (by kernel_rfl) h1 ?_
    refine awp_seq ?_
    refine bE hF fun vl6_1 h2 hF => ?_
    refine gE hF fun h3 hF => ?_
    refine awp_region ?_
    refine aR 3 ?_
    refine aCp (slices_insertionSortOrdered_string_o0_ok h2) ⟨⟨rfl, rfl, pin1 h3⟩, trivial⟩ [] [] [] ?_
    refine aE ?_
    refine awp_ret ?_
    exact oO hF [] [] rfl
  · refine awp_false (by kernel_rfl) h1 ?_
    refine awp_skip ?_
    refine awp_seq ?_
    refine awp_seq ?_
    refine awp_region ?_
    refine aR 2 ?_
    refine aE ?_
    refine cE hF (fun h4 hF => ?_) fun h4 hF => ?_
    · refine awp_true (by kernel_rfl) h4 ?_
      refine awp_seq ?_
      exact nE hF
    · refine awp_false (by kernel_rfl) h4 ?_
      refine awp_skip ?_
      refine awp_seq ?_
      refine awp_seq ?_
      refine awp_region ?_
      refine aR 2 ?_
      refine aE ?_
      refine awp_false (by kernel_rfl) rfl ?_
      refine awp_skip ?_
      refine awp_seq ?_
      exact nE hF

def slices_pdqsortOrdered_string_o0_R (qx : List (List UInt8)) (qx1 : Int) (qx2 : Int) (qx3 : Int) (r : (List (List UInt8))) : TV × Mem := (.tup [], ⟨[(0, ⟨9, 1, List.map encS r⟩)], []⟩)

theorem slices_pdqsortOrdered_string_o0_ok {qx : List (List UInt8)} {qx1 : Int} {qx2 : Int} {qx3 : Int} {r} (hF : slices_pdqsortOrdered_string_o0 qx qx1 qx2 qx3 = some r) : Holds prog 166 [.v (.one (.own 0 none)), .v (.one (.d (.int .i64 qx1))), .v (.one (.d (.int .i64 qx2))), .v (.one (.d (.int .i64 qx3)))] ⟨[(0, ⟨9, 1, List.map encS qx⟩)], []⟩ (Is (slices_pdqsortOrdered_string_o0_R qx qx1 qx2 qx3 r)) := by
  unfold slices_pdqsortOrdered_string_o0 at hF
  refine holds_of_awp hΓ (fn := f166) (c := cB f166) (A := 1) (nx := 1) (by kernel_rfl) (by kernel_rfl) (by kernel_rfl) (by kernel_rfl) (by kernel_rfl) (by kernel_rfl) (lowc_of (by kernel_rfl)) ?_
  show Awp prog 1 134 (cB f166) _ _
  refine awp_seq ?_
  refine awp_region ?_
  refine aR 1 ?_
  refine aE ?_
  refine awp_seq ?_
  refine awp_region ?_
  refine aR 1 ?_
  refine aE ?_
  refine awp_block ?_
  refine awp_to (st' := slices_pdqsortOrdered_string_o0_x1_H qx qx1 qx2 qx3 ()) (oT [] []) ?_
  refine bE hF fun vl1 h7 hF => ?_
  refine awp_sub (awp_loop' (slices_pdqsortOrdered_string_o0_x1_H qx qx1 qx2 qx3) slices_pdqsortOrdered_string_o0_x1_k (slices_pdqsortOrdered_string_o0_x1_S qx qx1 qx2 qx3) (by intro x; exact fun h => nomatch h) h7 (slices_pdqsortOrdered_string_o0_x1_ok qx qx1 qx2 qx3)) ?_
  exact oF hF [] []

/-! ### slices.Sort[[]string,string] -/
def slices_Sort_string_string_o0_R (qx : List (List UInt8)) (r : (List (List UInt8))) : TV × Mem := (.tup [], ⟨[(0, ⟨9, 1, List.map encS r⟩)], []⟩)

theorem slices_Sort_string_string_o0_ok {qx : List (List UInt8)} {r} (hF : slices_Sort_string_string_o0 qx = some r) : Holds prog 130 [.v (.one (.own 0 none))] ⟨[(0, ⟨9, 1, List.map encS qx⟩)], []⟩ (Is (slices_Sort_string_string_o0_R qx r)) := by
  unfold slices_Sort_string_string_o0 at hF
  refine holds_of_awp hΓ (fn := f130) (c := cB f130) (A := 1) (nx := 1) (by kernel_rfl) (by kernel_rfl) (by kernel_rfl) (by kernel_rfl) (by kernel_rfl) (by kernel_rfl) (lowc_of (by kernel_rfl)) ?_
  show Awp prog 1 11 (cB f130) _ _
  refine awp_seq ?_
  refine awp_region ?_
  refine aR 1 ?_
  refine aL encS qx ?_
  refine aR 1 ?_
  refine aE ?_
  refine bE hF fun vr1 h1 hF => ?_
  refine bE hF fun vl2 h2 hF => ?_
  refine gE hF fun h3 hF => ?_
  refine awp_region ?_
  refine aR 4 ?_
  refine aC (bits_Len_ok h1) [] [] [] ?_
  refine aCp (slices_pdqsortOrdered_string_o0_ok h2) ⟨⟨rfl, rfl, pin1 h3⟩, trivial⟩ [] [] [] ?_
  refine aE ?_
  exact oF hF [] []

/-! ### slices.Compact[[]string,string] -/
def slices_Compact_string_string_o0_x3_k : ((List (List UInt8)) × Int) → AEx
  | _ => .normal

def slices_Compact_string_string_o0_x3_S (qs : List (List UInt8)) (vk : Int) (vl4 : List (List UInt8)) (vk6 : Int) (vk2_1 : Int) : ((List (List UInt8)) × Int) → St
  | (vl6, vk8) => Mem.st ⟨[(0, ⟨9, 1, List.map encS vl6⟩)], []⟩ (tl [(0, .v (.one (.own 0 none))), (3, .v (.one (.d (.int .i64 vk8)))), (4, .v (.one (.view 0 vk.toNat ((qs.length : Int).toNat - vk.toNat)))), (5, .v (.one (.d (.int .i64 vk2_1))))]) 1

def slices_Compact_string_string_o0_x3_I (qs : List (List UInt8)) (vk : Int) (vl4 : List (List UInt8)) (vk6 : Int) (vk2_1 : Int) : St := Mem.st ⟨[(0, ⟨9, 1, List.map encS vl4⟩)], []⟩ (tl [(0, .v (.one (.own 0 none))), (3, .v (.one (.d (.int .i64 vk6)))), (4, .v (.one (.view 0 vk.toNat ((qs.length : Int).toNat - vk.toNat)))), (5, .v (.one (.d (.int .i64 vk2_1))))]) 1

theorem slices_Compact_string_string_o0_x3_ok (qs : List (List UInt8)) (vk : Int) (vl4 : List (List UInt8)) (vk6 : Int) (vk2_1 : Int) {r} (hF : slices_Compact_string_string_o0_x3 qs vk vl4 vk6 vk2_1 = some r) : Awp prog 1 61 (cL (cR (cL (cL (cR (cL (cR (cL (cR (cL (cL (cR (cL (cL (cR (cL (cR (cR (cB f131))))))))))))))))))) (Out 1 slices_Compact_string_string_o0_x3_k (slices_Compact_string_string_o0_x3_S qs vk vl4 vk6 vk2_1) r) (slices_Compact_string_string_o0_x3_I qs vk vl4 vk6 vk2_1) := by
  unfold slices_Compact_string_string_o0_x3 at hF
  refine awp_block ?_
  refine awp_seq ?_
  refine gE hF fun h8 hF => ?_
  refine bE hF fun vy13 h9 hF => ?_
  refine gE hF fun h10 hF => ?_
  refine bE hF fun vy14 h11 hF => ?_
  refine aD ?_
  refine dR 2 ?_
  refine dX (x_idxV encS 0 h8 h9) ?_
  refine dX (x_ldE encS h9) ?_
  refine dR 3 ?_
  refine dX (x_idxV encS 0 h10 h11) ?_
  refine dX (x_ldE encS h11) ?_
  refine dR 1 ?_
  refine dE ?_
  refine cE hF (fun h12 hF => ?_) fun h12 hF => ?_
  · refine awp_true (by kernel_rfl) h12 ?_
    refine awp_seq ?_
    refine bE hF fun vy15 h13 hF => ?_
    refine awp_region ?_
    refine aR 4 ?_
    refine aX (x_idxV encS 0 h8 h9) ?_
    refine aX (x_ldE encS h9) ?_
    refine aX (x_idxO encS 0 h13) ?_
    refine aX (x_stE encS vy13 h13) ?_
    refine aE ?_
    refine awp_region ?_
    refine aR 3 ?_
    refine aE ?_
    exact oO hF [] [] rfl
  · refine awp_false (by kernel_rfl) h12 ?_
    refine awp_skip ?_
    exact oO hF [] [] rfl

def slices_Compact_string_string_o0_x2_k : ((List (List UInt8)) × Int) → AEx
  | _ => .exit 2

def slices_Compact_string_string_o0_x2_S (qs : List (List UInt8)) (vk : Int) : ((List (List UInt8)) × Int) → St
  | (vl7, vk9) => Mem.st ⟨[(0, ⟨9, 1, List.map encS vl7⟩)], []⟩ (tl [(0, .v (.one (.own 0 none))), (3, .v (.one (.d (.int .i64 vk9))))]) 1

def slices_Compact_string_string_o0_x2_H (qs : List (List UInt8)) (vk : Int) : (List (List UInt8)) × Int × Int → St
  | (vl4, vk6, vk2_1) => Mem.st ⟨[(0, ⟨9, 1, List.map encS vl4⟩)], []⟩ (tl [(0, .v (.one (.own 0 none))), (3, .v (.one (.d (.int .i64 vk6)))), (4, .v (.one (.view 0 vk.toNat ((qs.length : Int).toNat - vk.toNat)))), (5, .v (.one (.d (.int .i64 vk2_1))))]) 1

theorem slices_Compact_string_string_o0_x2_ok (qs : List (List UInt8)) (vk : Int) (s : (List (List UInt8)) × Int × Int) (r : ((List (List UInt8)) × Int × Int) ⊕ (((List (List UInt8)) × Int))) (hF : slices_Compact_string_string_o0_x2 qs vk s = some r) : Awp prog 1 61 (cL (cL (cR (cL (cR (cL (cR (cL (cL (cR (cL (cL (cR (cL (cR (cR (cB f131))))))))))))))))) (Out 1 (kk slices_Compact_string_string_o0_x2_k) (SS (slices_Compact_string_string_o0_x2_H qs vk) (slices_Compact_string_string_o0_x2_S qs vk)) r) (slices_Compact_string_string_o0_x2_H qs vk s) := by
  obtain ⟨vl4, vk6, vk2_1⟩ := s
  unfold slices_Compact_string_string_o0_x2 at hF
  refine awp_seq ?_
  refine awp_seq ?_
  refine awp_region ?_
  refine aR 4 ?_
  refine aE ?_
  refine cE hF (fun h7 hF => ?_) fun h7 hF => ?_
  · refine awp_true (by kernel_rfl) h7 ?_
    refine awp_skip ?_
    refine awp_seq ?_
    refine awp_to (st' := slices_Compact_string_string_o0_x3_I qs vk vl4 vk6 vk2_1) (oT [] []) ?_
    refine bE hF fun x h14 hF => ?_
    obtain ⟨vl6_1, vk8_1⟩ := x
    refine awp_sub (slices_Compact_string_string_o0_x3_ok qs vk vl4 vk6 vk2_1 h14) ?_
    refine awp_region ?_
    refine aR 3 ?_
    refine aE ?_
    exact oO hF [] [] rfl
  · refine awp_false (by kernel_rfl) h7 ?_
    refine awp_exit ?_
    exact oO hF [] [] rfl

def slices_Compact_string_string_o0_x1_k : Unit ⊕ (List (List UInt8)) → AEx
  | .inl _ => .exit 0
  | .inr _ => .ret

def slices_Compact_string_string_o0_x1_S (qs : List (List UInt8)) : Unit ⊕ (List (List UInt8)) → St
  | .inl _ => Mem.st ⟨[(0, ⟨9, 1, List.map encS qs⟩)], []⟩ (tl [(0, .v (.one (.own 0 none)))]) 1
  | .inr vx => Mem.st ⟨[(1, ⟨9, 1, List.map encS vx⟩)], []⟩ (tl [(2, .v (.one (.own 1 none)))]) 2

def slices_Compact_string_string_o0_x1_H (qs : List (List UInt8)) : Int → St
  | vk => Mem.st ⟨[(0, ⟨9, 1, List.map encS qs⟩)], []⟩ (tl [(0, .v (.one (.own 0 none))), (3, .v (.one (.d (.int .i64 vk))))]) 1

theorem slices_Compact_string_string_o0_x1_ok (qs : List (List UInt8)) (vk : Int) (r : (Int) ⊕ (Unit ⊕ (List (List UInt8)))) (hF : slices_Compact_string_string_o0_x1 qs vk = some r) : Awp prog 1 61 (cL (cL (cR (cL (cR (cR (cB f131))))))) (Out 1 (kk slices_Compact_string_string_o0_x1_k) (SS (slices_Compact_string_string_o0_x1_H qs) (slices_Compact_string_string_o0_x1_S qs)) r) (slices_Compact_string_string_o0_x1_H qs vk) := by
  unfold slices_Compact_string_string_o0_x1 at hF
  refine awp_seq ?_
  refine awp_seq ?_
  refine awp_region ?_
  refine aR 2 ?_
  refine aL encS qs ?_
  refine aR 1 ?_
  refine aE ?_
  refine cE hF (fun h2 hF => ?_) fun h2 hF => ?_
  · refine awp_true (by kernel_rfl) h2 ?_
    refine awp_skip ?_
    refine awp_seq ?_
    refine awp_block ?_
    refine awp_seq ?_
    refine bE hF fun vy8 h3 hF => ?_
    refine bE hF fun vy9 h4 hF => ?_
    refine aD ?_
    refine dR 2 ?_
    refine dX (x_idxO encS 0 h3) ?_
    refine dX (x_ldE encS h3) ?_
    refine dR 3 ?_
    refine dX (x_idxO encS 0 h4) ?_
    refine dX (x_ldE encS h4) ?_
    refine dR 1 ?_
    refine dE ?_
    refine cE hF (fun h5 hF => ?_) fun h5 hF => ?_
    · refine awp_true (by kernel_rfl) h5 ?_
      refine awp_seq ?_
      refine gE hF fun h6 hF => ?_
      refine awp_region ?_
      refine aR 2 ?_
      refine aX (x_viewN encS 0 h6) ?_
      refine aR 1 ?_
      refine aE ?_
      refine awp_seq ?_
      refine awp_seq ?_
      refine awp_region ?_
      refine aR 1 ?_
      refine aE ?_
      refine awp_block ?_
      refine awp_to (st' := slices_Compact_string_string_o0_x2_H qs vk (qs, vk, 1)) (oT [] []) ?_
      refine bE hF fun x h15 hF => ?_
      obtain ⟨vl7_1, vk9_1⟩ := x
      refine awp_sub (awp_loop' (slices_Compact_string_string_o0_x2_H qs vk) slices_Compact_string_string_o0_x2_k (slices_Compact_string_string_o0_x2_S qs vk) (by intro x; exact fun h => nomatch h) h15 (slices_Compact_string_string_o0_x2_ok qs vk)) ?_
      refine awp_seq ?_
      refine gE hF fun h16 hF => ?_
      refine awp_region ?_
      refine aR 2 ?_
      refine aX (x_viewN encS 0 h16) ?_
      refine aCl encS 0 (xs := vl7_1) (y := ([] : List UInt8)) (lo := vk9_1) (hi := (vl7_1.length : Int)) rfl ?_
      refine aE ?_
      refine awp_seq ?_
      refine gE hF fun h17 hF => ?_
      refine awp_region ?_
      refine aR 2 ?_
      refine aT encS 0 h17 rfl ?_
      refine aR 1 ?_
      refine aE ?_
      refine awp_ret ?_
      exact oO hF [(1, 6001)] [] rfl
    · refine awp_false (by kernel_rfl) h5 ?_
      refine awp_skip ?_
      refine awp_region ?_
      refine aR 3 ?_
      refine aE ?_
      exact oO hF [] [] rfl
  · refine awp_false (by kernel_rfl) h2 ?_
    refine awp_exit ?_
    exact oO hF [] [] rfl

def slices_Compact_string_string_o0_R (qs : List (List UInt8)) (r : (List (List UInt8))) : TV × Mem := (.v (.one (.own 1 none)), ⟨[(1, ⟨9, 1, List.map encS r⟩)], []⟩)

theorem slices_Compact_string_string_o0_ok {qs : List (List UInt8)} {r} (hF : slices_Compact_string_string_o0 qs = some r) : Holds prog 131 [.v (.one (.own 0 none))] ⟨[(0, ⟨9, 1, List.map encS qs⟩)], []⟩ (Is (slices_Compact_string_string_o0_R qs r)) := by
  unfold slices_Compact_string_string_o0 at hF
  refine holds_of_awp hΓ (fn := f131) (c := cB f131) (A := 1) (nx := 1) (by kernel_rfl) (by kernel_rfl) (by kernel_rfl) (by kernel_rfl) (by kernel_rfl) (by kernel_rfl) (lowc_of (by kernel_rfl)) ?_
  show Awp prog 1 61 (cB f131) _ _
  refine awp_seq ?_
  refine awp_region ?_
  refine aR 1 ?_
  refine aE ?_
  refine awp_seq ?_
  refine awp_seq ?_
  refine awp_region ?_
  refine aR 1 ?_
  refine aL encS qs ?_
  refine aR 1 ?_
  refine aE ?_
  refine cE hF (fun h1 hF => ?_) fun h1 hF => ?_
  · refine awp_true (by kernel_rfl) h1 ?_
    refine awp_seq ?_
    refine awp_region ?_
    refine aR 2 ?_
    refine aE ?_
    refine awp_ret ?_
    exact oF hF [(1, 0)] []
  · refine awp_false (by kernel_rfl) h1 ?_
    refine awp_skip ?_
    refine awp_seq ?_
    refine awp_seq ?_
    refine awp_region ?_
    refine aR 1 ?_
    refine aE ?_
    refine awp_block ?_
    refine awp_to (st' := slices_Compact_string_string_o0_x1_H qs 1) (oT [] []) ?_
    refine bE hF fun x h18 hF => ?_
    rcases x with _ | vx1
    · refine awp_sub (awp_loop' (slices_Compact_string_string_o0_x1_H qs) slices_Compact_string_string_o0_x1_k (slices_Compact_string_string_o0_x1_S qs) (by intro x; rcases x with x | x <;> exact fun h => nomatch h) h18 (slices_Compact_string_string_o0_x1_ok qs)) ?_
      refine awp_seq ?_
      refine awp_region ?_
      refine aR 2 ?_
      refine aE ?_
      refine awp_ret ?_
      exact oF hF [(1, 0)] []
    · refine awp_sub (awp_loop' (slices_Compact_string_string_o0_x1_H qs) slices_Compact_string_string_o0_x1_k (slices_Compact_string_string_o0_x1_S qs) (by intro x; rcases x with x | x <;> exact fun h => nomatch h) h18 (slices_Compact_string_string_o0_x1_ok qs)) ?_
      exact oF hF [] []

/-! ### beaconfleet/twin.names -/
def twin_names_o0_x2_k : (List (List UInt8)) → AEx
  | _ => .exit 2

def twin_names_o0_x2_S (qlists : List (List api_Prop)) (vx : Int) (vy3 : List api_Prop) : (List (List UInt8)) → St
  | vout4 => Mem.st ⟨[(1, ⟨9, 1, List.map encS vout4⟩)], []⟩ (tl [(3, .v (.one (.own 1 none))), (8, .v (.one (.d (.lst (List.map (encL api_Prop.enc) qlists))))), (9, .v (.one (.d (.int .i64 (qlists.length : Int))))), (10, .v (.one (.d (.int .i64 vx))))]) 2

def twin_names_o0_x2_H (qlists : List (List api_Prop)) (vx : Int) (vy3 : List api_Prop) : (List (List UInt8)) × Int → St
  | (vout3, vx2) => Mem.st ⟨[(1, ⟨9, 1, List.map encS vout3⟩)], []⟩ (tl [(3, .v (.one (.own 1 none))), (8, .v (.one (.d (.lst (List.map (encL api_Prop.enc) qlists))))), (9, .v (.one (.d (.int .i64 (qlists.length : Int))))), (10, .v (.one (.d (.int .i64 vx)))), (14, .v (.one (.d (.lst (List.map api_Prop.enc vy3))))), (15, .v (.one (.d (.int .i64 (vy3.length : Int))))), (16, .v (.one (.d (.int .i64 vx2))))]) 2

theorem twin_names_o0_x2_ok (qlists : List (List api_Prop)) (vx : Int) (vy3 : List api_Prop) (s : (List (List UInt8)) × Int) (r : ((List (List UInt8)) × Int) ⊕ ((List (List UInt8)))) (hF : twin_names_o0_x2 vy3 s = some r) : Awp prog 1 31 (cL (cL (cR (cR (cL (cL (cR (cR (cL (cL (cR (cL (cR (cR (cB f85))))))))))))))) (Out 1 (kk twin_names_o0_x2_k) (SS (twin_names_o0_x2_H qlists vx vy3) (twin_names_o0_x2_S qlists vx vy3)) r) (twin_names_o0_x2_H qlists vx vy3 s) := by
  obtain ⟨vout3, vx2⟩ := s
  unfold twin_names_o0_x2 at hF
  refine awp_seq ?_
  refine awp_region ?_
  refine aR 1 ?_
  refine aE ?_
  refine awp_seq ?_
  refine cE hF (fun h3 hF => ?_) fun h3 hF => ?_
  · refine awp_true (by kernel_rfl) h3 ?_
    refine awp_skip ?_
    refine awp_seq ?_
    refine awp_block ?_
    refine awp_seq ?_
    refine bE hF fun vy5 h4 hF => ?_
    refine awp_region ?_
    refine aX (x_idx api_Prop.enc h4) ?_
    refine aR 3 ?_
    refine aE ?_
    refine gE hF fun h5 hF => ?_
    refine awp_region ?_
    refine aR 4 ?_
    refine aX (x_app encS 1 h5) ?_
    refine aR 1 ?_
    refine aE ?_
    refine awp_region ?_
    refine aR 2 ?_
    refine aE ?_
    exact oO hF [(1, 9002)] [] rfl
  · refine awp_false (by kernel_rfl) h3 ?_
    refine awp_exit ?_
    exact oO hF [] [] rfl

def twin_names_o0_x1_k : (List (List UInt8)) → AEx
  | _ => .exit 0

def twin_names_o0_x1_S (qlists : List (List api_Prop)) : (List (List UInt8)) → St
  | vout5 => Mem.st ⟨[(1, ⟨9, 1, List.map encS vout5⟩)], []⟩ (tl [(3, .v (.one (.own 1 none)))]) 2

def twin_names_o0_x1_H (qlists : List (List api_Prop)) : (List (List UInt8)) × Int → St
  | (vout, vx) => Mem.st ⟨[(1, ⟨9, 1, List.map encS vout⟩)], []⟩ (tl [(3, .v (.one (.own 1 none))), (8, .v (.one (.d (.lst (List.map (encL api_Prop.enc) qlists))))), (9, .v (.one (.d (.int .i64 (qlists.length : Int))))), (10, .v (.one (.d (.int .i64 vx))))]) 2

theorem twin_names_o0_x1_ok (qlists : List (List api_Prop)) (s : (List (List UInt8)) × Int) (r : ((List (List UInt8)) × Int) ⊕ ((List (List UInt8)))) (hF : twin_names_o0_x1 qlists s = some r) : Awp prog 1 31 (cL (cL (cR (cL (cR (cR (cB f85))))))) (Out 1 (kk twin_names_o0_x1_k) (SS (twin_names_o0_x1_H qlists) (twin_names_o0_x1_S qlists)) r) (twin_names_o0_x1_H qlists s) := by
  obtain ⟨vout, vx⟩ := s
  unfold twin_names_o0_x1 at hF
  refine awp_seq ?_
  refine awp_region ?_
  refine aR 1 ?_
  refine aE ?_
  refine awp_seq ?_
  refine cE hF (fun h1 hF => ?_) fun h1 hF => ?_
  · refine awp_true (by kernel_rfl) h1 ?_
    refine awp_skip ?_
    refine awp_seq ?_
    refine awp_block ?_
    refine awp_seq ?_
    refine bE hF fun vy3 h2 hF => ?_
    refine awp_region ?_
    refine aX (x_idx (encL api_Prop.enc) h2) ?_
    refine aR 2 ?_
    refine aE ?_
    refine awp_seq ?_
    refine awp_region ?_
    refine aR 1 ?_
    refine aL api_Prop.enc vy3 ?_
    refine aR 1 ?_
    refine aE ?_
    refine awp_block ?_
    refine awp_to (st' := twin_names_o0_x2_H qlists vx vy3 (vout, 0)) (oT [] []) ?_
    refine bE hF fun vout4_1 h6 hF => ?_
    refine awp_sub (awp_loop' (twin_names_o0_x2_H qlists vx vy3) twin_names_o0_x2_k (twin_names_o0_x2_S qlists vx vy3) (by intro x; exact fun h => nomatch h) h6 (twin_names_o0_x2_ok qlists vx vy3)) ?_
    refine awp_region ?_
    refine aR 2 ?_
    refine aE ?_
    exact oO hF [] [] rfl
  · refine awp_false (by kernel_rfl) h1 ?_
    refine awp_exit ?_
    exact oO hF [] [] rfl

def twin_names_o0_R (qlists : List (List api_Prop)) (r : (List (List UInt8))) : TV × Mem := (.v (.one (.own 1 none)), ⟨[(1, ⟨9, 1, List.map encS r⟩)], []⟩)

theorem twin_names_o0_ok {qlists : List (List api_Prop)} {r} (hF : twin_names_o0 qlists = some r) : Holds prog 85 [.v (.one (.own 0 none))] ⟨[(0, ⟨29, 1, List.map (encL api_Prop.enc) qlists⟩)], []⟩ (Is (twin_names_o0_R qlists r)) := by
  unfold twin_names_o0 at hF
  refine holds_of_awp hΓ (fn := f85) (c := cB f85) (A := 1) (nx := 1) (by kernel_rfl) (by kernel_rfl) (by kernel_rfl) (by kernel_rfl) (by kernel_rfl) (by kernel_rfl) (lowc_of (by kernel_rfl)) ?_
  show Awp prog 1 31 (cB f85) _ _
  refine awp_seq ?_
  refine awp_region ?_
  refine aR 1 ?_
  refine aE ?_
  refine awp_to (oT (m := ⟨[], []⟩) (ts := [(0, .v (.one (.d (.lst (List.map (encL api_Prop.enc) qlists)))))]) (nx := 1) [] []) ?_
  refine awp_seq ?_
  refine awp_region ?_
  refine aR 1 ?_
  refine aE ?_
  refine awp_seq ?_
  refine awp_seq ?_
  refine awp_region ?_
  refine aR 1 ?_
  refine aL (encL api_Prop.enc) qlists ?_
  refine aR 1 ?_
  refine aE ?_
  refine awp_block ?_
  refine awp_to (st' := twin_names_o0_x1_H qlists ([], 0)) (oT [] [1]) ?_
  refine bE hF fun vout5_1 h7 hF => ?_
  refine awp_sub (awp_loop' (twin_names_o0_x1_H qlists) twin_names_o0_x1_k (twin_names_o0_x1_S qlists) (by intro x; exact fun h => nomatch h) h7 (twin_names_o0_x1_ok qlists)) ?_
  refine awp_seq ?_
  refine bE hF fun vl h8 hF => ?_
  refine gE hF fun h9 hF => ?_
  refine awp_region ?_
  refine aR 1 ?_
  refine aCp (slices_Sort_string_string_o0_ok h8) ⟨⟨rfl, rfl, pin1 h9⟩, trivial⟩ [(0, 1)] [] [] ?_
  refine aE ?_
  refine awp_seq ?_
  refine bE hF fun vr h10 hF => ?_
  refine awp_region ?_
  refine aR 1 ?_
  refine aC (slices_Compact_string_string_o0_ok h10) [(0, 1)] [] [] ?_
  refine aR 1 ?_
  refine aE ?_
  refine awp_ret ?_
  exact oF hF [(1, 3003)] []

/-! ### slices.BinarySearchFunc[[]beaconfleet/api.Prop,beaconfleet/api.Prop,string] -/
def slices_BinarySearchFunc_api_Prop_api_Prop_string_n0_f2_twin_find_1_x1_k : Unit → AEx
  | _ => .exit 0

def slices_BinarySearchFunc_api_Prop_api_Prop_string_n0_f2_twin_find_1_x1_S (qtarget : List UInt8) : Unit → St
  | _ => Mem.st ⟨[], []⟩ (tl [(0, .v (.one (.nil))), (1, .v (.one (.d (.str qtarget)))), (2, .v (.one (.fn 126 []))), (8, .v (.one (.d (.int .i64 0)))), (9, .v (.one (.d (.int .i64 0))))]) 0

def slices_BinarySearchFunc_api_Prop_api_Prop_string_n0_f2_twin_find_1_x1_H (qtarget : List UInt8) : Unit → St
  | _ => Mem.st ⟨[], []⟩ (tl [(0, .v (.one (.nil))), (1, .v (.one (.d (.str qtarget)))), (2, .v (.one (.fn 126 []))), (8, .v (.one (.d (.int .i64 0)))), (9, .v (.one (.d (.int .i64 0)))), (10, .v (.one (.d (.int .i64 0))))]) 0

theorem slices_BinarySearchFunc_api_Prop_api_Prop_string_n0_f2_twin_find_1_x1_ok (qtarget : List UInt8) (s : Unit) (r : (Unit) ⊕ (Unit)) (hF : slices_BinarySearchFunc_api_Prop_api_Prop_string_n0_f2_twin_find_1_x1  s = some r) : Awp prog 0 49 (cL (cL (cL (cR (cR (cR (cB f125))))))) (Out 0 (kk slices_BinarySearchFunc_api_Prop_api_Prop_string_n0_f2_twin_find_1_x1_k) (SS (slices_BinarySearchFunc_api_Prop_api_Prop_string_n0_f2_twin_find_1_x1_H qtarget) (slices_BinarySearchFunc_api_Prop_api_Prop_string_n0_f2_twin_find_1_x1_S qtarget)) r) (slices_BinarySearchFunc_api_Prop_api_Prop_string_n0_f2_twin_find_1_x1_H qtarget s) := by
  unfold slices_BinarySearchFunc_api_Prop_api_Prop_string_n0_f2_twin_find_1_x1 at hF
  refine awp_seq ?_
  refine awp_seq ?_
  refine awp_region ?_
  refine aR 3 ?_
  refine aE ?_
  refine cE hF (fun h1 hF => ?_) fun h1 hF => ?_
  · refine awp_true (by kernel_rfl) h1 ?_
    refine awp_skip ?_
    refine awp_block ?_
    refine awp_seq ?_
    refine awp_region ?_
    refine aR 7 ?_
    refine aE ?_
    refine awp_seq ?_
    exact nE hF
  · refine awp_false (by kernel_rfl) h1 ?_
    refine awp_exit ?_
    exact oO hF [] [] rfl

def slices_BinarySearchFunc_api_Prop_api_Prop_string_n0_f2_twin_find_1_R (qtarget : List UInt8) (r : Unit) : TV × Mem := (.tup [.one (.d (.int .i64 0)), .one (.d (.bool false))], ⟨[], []⟩)

theorem slices_BinarySearchFunc_api_Prop_api_Prop_string_n0_f2_twin_find_1_ok {qtarget : List UInt8} {r} (hF : slices_BinarySearchFunc_api_Prop_api_Prop_string_n0_f2_twin_find_1 qtarget = some r) : Holds prog 125 [.v (.one (.nil)), .v (.one (.d (.str qtarget))), .v (.one (.fn 126 []))] ⟨[], []⟩ (Is (slices_BinarySearchFunc_api_Prop_api_Prop_string_n0_f2_twin_find_1_R qtarget r)) := by
  unfold slices_BinarySearchFunc_api_Prop_api_Prop_string_n0_f2_twin_find_1 at hF
  refine holds_of_awp hΓ (fn := f125) (c := cB f125) (A := 0) (nx := 0) (by kernel_rfl) (by kernel_rfl) (by kernel_rfl) (by kernel_rfl) (by kernel_rfl) (by kernel_rfl) (lowc_of (by kernel_rfl)) ?_
  show Awp prog 0 49 (cB f125) _ _
  refine awp_seq ?_
  refine awp_region ?_
  refine aR 2 ?_
  refine aE ?_
  refine awp_seq ?_
  refine awp_region ?_
  refine aR 3 ?_
  refine aE ?_
  refine awp_seq ?_
  refine awp_region ?_
  refine aR 3 ?_
  refine aE ?_
  refine awp_seq ?_
  refine awp_block ?_
  refine awp_to (st' := slices_BinarySearchFunc_api_Prop_api_Prop_string_n0_f2_twin_find_1_x1_H qtarget ()) (oT [] []) ?_
  refine bE hF fun _ h3 hF => ?_
  refine awp_sub (awp_loop' (slices_BinarySearchFunc_api_Prop_api_Prop_string_n0_f2_twin_find_1_x1_H qtarget) slices_BinarySearchFunc_api_Prop_api_Prop_string_n0_f2_twin_find_1_x1_k (slices_BinarySearchFunc_api_Prop_api_Prop_string_n0_f2_twin_find_1_x1_S qtarget) (by intro x; exact fun h => nomatch h) h3 (slices_BinarySearchFunc_api_Prop_api_Prop_string_n0_f2_twin_find_1_x1_ok qtarget)) ?_
  refine awp_seq ?_
  refine cE hF (fun h4 hF => ?_) fun h4 hF => ?_
  · exact nE hF
  · refine awp_region ?_
    refine aR 3 ?_
    refine aB h4 ?_
    refine aR 12 ?_
    refine aE ?_
    refine awp_ret ?_
    exact oF hF [] []

/-! ### beaconfleet/twin.find -/
def twin_find_n0_R (qname : List UInt8) (r : Unit) : TV × Mem := (.v (.one (.d (.int .i64 (-1)))), ⟨[], []⟩)

theorem twin_find_n0_ok {qname : List UInt8} {r} (hF : twin_find_n0 qname = some r) : Holds prog 76 [.v (.one (.nil)), .v (.one (.d (.str qname)))] ⟨[], []⟩ (Is (twin_find_n0_R qname r)) := by
  unfold twin_find_n0 at hF
  refine holds_of_awp hΓ (fn := f76) (c := cB f76) (A := 0) (nx := 0) (by kernel_rfl) (by kernel_rfl) (by kernel_rfl) (by kernel_rfl) (by kernel_rfl) (by kernel_rfl) (lowc_of (by kernel_rfl)) ?_
  show Awp prog 0 16 (cB f76) _ _
  refine awp_seq ?_
  refine awp_region ?_
  refine aR 1 ?_
  refine aE ?_
  refine awp_seq ?_
  refine bE hF fun _ h1 hF => ?_
  refine awp_region ?_
  refine aR 2 ?_
  refine aC (slices_BinarySearchFunc_api_Prop_api_Prop_string_n0_f2_twin_find_1_ok h1) [] [] [] ?_
  refine aR 5 ?_
  refine aE ?_
  refine awp_seq ?_
  refine awp_seq ?_
  refine awp_region ?_
  refine aR 2 ?_
  refine aE ?_
  refine awp_true (by kernel_rfl) rfl ?_
  refine awp_seq ?_
  refine awp_region ?_
  refine aR 1 ?_
  refine aE ?_
  refine awp_ret ?_
  exact oF hF [] []

/-! ### beaconfleet/twin.valueOf -/
def twin_valueOf_n0_R (qname : List UInt8) (r : Unit) : TV × Mem := (.v (.agg [.d (.int .i64 0), .d (.bool false), .d (.int .i64 0), .d (.str ([] : List UInt8))]), ⟨[], []⟩)

theorem twin_valueOf_n0_ok {qname : List UInt8} {r} (hF : twin_valueOf_n0 qname = some r) : Holds prog 70 [.v (.one (.nil)), .v (.one (.d (.str qname)))] ⟨[], []⟩ (Is (twin_valueOf_n0_R qname r)) := by
  unfold twin_valueOf_n0 at hF
  refine holds_of_awp hΓ (fn := f70) (c := cB f70) (A := 0) (nx := 0) (by kernel_rfl) (by kernel_rfl) (by kernel_rfl) (by kernel_rfl) (by kernel_rfl) (by kernel_rfl) (lowc_of (by kernel_rfl)) ?_
  show Awp prog 0 17 (cB f70) _ _
  refine awp_seq ?_
  refine awp_region ?_
  refine aR 1 ?_
  refine aE ?_
  refine awp_seq ?_
  refine awp_seq ?_
  refine bE hF fun _ h1 hF => ?_
  refine awp_region ?_
  refine aR 2 ?_
  refine aC (twin_find_n0_ok h1) [] [] [] ?_
  refine aR 1 ?_
  refine aE ?_
  refine awp_seq ?_
  refine awp_region ?_
  refine aR 2 ?_
  refine aE ?_
  refine cE hF (fun h2 hF => ?_) fun h2 hF => ?_
  · refine awp_true (by kernel_rfl) h2 ?_
    refine awp_seq ?_
    exact nE hF
  · refine awp_false (by kernel_rfl) h2 ?_
    refine awp_skip ?_
    refine awp_seq ?_
    refine awp_region ?_
    refine aR 2 ?_
    refine aE ?_
    refine awp_ret ?_
    exact oF hF [] []

/-! ### beaconfleet/twin.valueOf -/
def twin_valueOf_R (ql : List api_Prop) (qname : List UInt8) (r : api_Value) : TV × Mem := (.v (.agg [.d (.int .i64 r.Kind), .d (.bool r.Flag), .d (.int .i64 r.Number), .d (.str r.Words)]), ⟨[], []⟩)

theorem twin_valueOf_ok {ql : List api_Prop} {qname : List UInt8} {r} (hF : twin_valueOf ql qname = some r) : Holds prog 70 [.v (.one (.d (.lst (List.map api_Prop.enc ql)))), .v (.one (.d (.str qname)))] ⟨[], []⟩ (Is (twin_valueOf_R ql qname r)) := by
  unfold twin_valueOf at hF
  refine holds_of_awp hΓ (fn := f70) (c := cB f70) (A := 0) (nx := 0) (by kernel_rfl) (by kernel_rfl) (by kernel_rfl) (by kernel_rfl) (by kernel_rfl) (by kernel_rfl) (lowc_of (by kernel_rfl)) ?_
  show Awp prog 0 17 (cB f70) _ _
  refine awp_seq ?_
  refine awp_region ?_
  refine aR 1 ?_
  refine aE ?_
  refine awp_seq ?_
  refine awp_seq ?_
  refine bE hF fun vr2 h1 hF => ?_
  refine awp_region ?_
  refine aR 2 ?_
  refine aC (twin_find_ok h1) [] [] [] ?_
  refine aR 1 ?_
  refine aE ?_
  refine awp_seq ?_
  refine awp_region ?_
  refine aR 2 ?_
  refine aE ?_
  refine cE hF (fun h2 hF => ?_) fun h2 hF => ?_
  · refine awp_true (by kernel_rfl) h2 ?_
    refine awp_seq ?_
    refine bE hF fun vy h3 hF => ?_
    refine awp_region ?_
    refine aR 2 ?_
    refine aX (x_idx api_Prop.enc h3) ?_
    refine aR 3 ?_
    refine aE ?_
    refine awp_ret ?_
    exact oF hF [] []
  · refine awp_false (by kernel_rfl) h2 ?_
    refine awp_skip ?_
    refine awp_seq ?_
    refine awp_region ?_
    refine aR 2 ?_
    refine aE ?_
    refine awp_ret ?_
    exact oF hF [] []

/-! ### beaconfleet/twin.Differ -/
def twin_Differ_n0_o1_x2_k : (List api_Change) → AEx
  | _ => .normal

def twin_Differ_n0_o1_x2_S (qb : List api_Prop) (vr1_1 : List (List UInt8)) (vout : List api_Change) (vx : Int) : (List api_Change) → St
  | vout2 => Mem.st ⟨[(1, ⟨72, 9, List.map api_Change.enc vout2⟩)], []⟩ (tl [(0, .v (.one (.nil))), (1, .v (.one (.d (.lst (List.map api_Prop.enc qb))))), (7, .v (.one (.own 1 none))), (24, .v (.one (.d (.lst (List.map encS vr1_1))))), (25, .v (.one (.d (.int .i64 (vr1_1.length : Int))))), (26, .v (.one (.d (.int .i64 vx))))]) 2

def twin_Differ_n0_o1_x2_I (qb : List api_Prop) (vr1_1 : List (List UInt8)) (vout : List api_Change) (vx : Int) : St := Mem.st ⟨[(1, ⟨72, 9, List.map api_Change.enc vout⟩)], []⟩ (tl [(0, .v (.one (.nil))), (1, .v (.one (.d (.lst (List.map api_Prop.enc qb))))), (7, .v (.one (.own 1 none))), (24, .v (.one (.d (.lst (List.map encS vr1_1))))), (25, .v (.one (.d (.int .i64 (vr1_1.length : Int))))), (26, .v (.one (.d (.int .i64 vx))))]) 2

theorem twin_Differ_n0_o1_x2_ok (qb : List api_Prop) (vr1_1 : List (List UInt8)) (vout : List api_Change) (vx : Int) {r} (hF : twin_Differ_n0_o1_x2 qb vr1_1 vout vx = some r) : Awp prog 1 48 (cL (cR (cR (cL (cL (cR (cL (cR (cR (cR (cB f29))))))))))) (Out 1 twin_Differ_n0_o1_x2_k (twin_Differ_n0_o1_x2_S qb vr1_1 vout vx) r) (twin_Differ_n0_o1_x2_I qb vr1_1 vout vx) := by
  unfold twin_Differ_n0_o1_x2 at hF
  refine awp_block ?_
  refine awp_seq ?_
  refine bE hF fun vy1 h7 hF => ?_
  refine awp_region ?_
  refine aX (x_idx encS h7) ?_
  refine aR 2 ?_
  refine aE ?_
  refine awp_seq ?_
  refine bE hF fun _ h8 hF => ?_
  refine bE hF fun vr4 h9 hF => ?_
  refine awp_region ?_
  refine aR 2 ?_
  refine aC (twin_valueOf_n0_ok h8) [] [] [] ?_
  refine aR 2 ?_
  refine aC (twin_valueOf_ok h9) [] [] [] ?_
  refine aR 4 ?_
  refine aE ?_
  refine awp_seq ?_
  refine awp_region ?_
  refine aR 2 ?_
  refine aS (does_eqS (op := .neq) (xs := [.int .i64 0, .bool false, .int .i64 0, .str ([] : List UInt8)]) (ys := [.int .i64 vr4.Kind, .bool vr4.Flag, .int .i64 vr4.Number, .str vr4.Words]) (b := (decide ((0 : Int) = vr4.Kind) && ((false == vr4.Flag) && (decide ((0 : Int) = vr4.Number) && (decide (([] : List UInt8) = vr4.Words) && true))))) (c := (!(decide ((0 : Int) = vr4.Kind) && ((false == vr4.Flag) && (decide ((0 : Int) = vr4.Number) && (decide (([] : List UInt8) = vr4.Words) && true)))))) rfl (.inr ⟨rfl, rfl⟩) (by kernel_rfl) (by kernel_rfl) (by kernel_rfl) (by kernel_rfl) (by kernel_rfl) (by kernel_rfl)) ?_
  refine aE ?_
  refine cE hF (fun h10 hF => ?_) fun h10 hF => ?_
  · refine awp_true (by kernel_rfl) h10 ?_
    refine gE hF fun h11 hF => ?_
    refine awp_region ?_
    refine aR 6 ?_
    refine aX (x_app api_Change.enc 1 h11) ?_
    refine aR 1 ?_
    refine aE ?_
    exact oO hF [(1, 22002)] [] rfl
  · refine awp_false (by kernel_rfl) h10 ?_
    refine awp_skip ?_
    exact oO hF [] [] rfl

def twin_Differ_n0_o1_x1_k : (List api_Change) → AEx
  | _ => .exit 0

def twin_Differ_n0_o1_x1_S (qb : List api_Prop) (vr1_1 : List (List UInt8)) : (List api_Change) → St
  | vout3 => Mem.st ⟨[(1, ⟨72, 9, List.map api_Change.enc vout3⟩)], []⟩ (tl [(7, .v (.one (.own 1 none)))]) 2

def twin_Differ_n0_o1_x1_H (qb : List api_Prop) (vr1_1 : List (List UInt8)) : (List api_Change) × Int → St
  | (vout, vx) => Mem.st ⟨[(1, ⟨72, 9, List.map api_Change.enc vout⟩)], []⟩ (tl [(0, .v (.one (.nil))), (1, .v (.one (.d (.lst (List.map api_Prop.enc qb))))), (7, .v (.one (.own 1 none))), (24, .v (.one (.d (.lst (List.map encS vr1_1))))), (25, .v (.one (.d (.int .i64 (vr1_1.length : Int))))), (26, .v (.one (.d (.int .i64 vx))))]) 2

theorem twin_Differ_n0_o1_x1_ok (qb : List api_Prop) (vr1_1 : List (List UInt8)) (s : (List api_Change) × Int) (r : ((List api_Change) × Int) ⊕ ((List api_Change))) (hF : twin_Differ_n0_o1_x1 qb vr1_1 s = some r) : Awp prog 1 48 (cL (cL (cR (cL (cR (cR (cR (cB f29)))))))) (Out 1 (kk twin_Differ_n0_o1_x1_k) (SS (twin_Differ_n0_o1_x1_H qb vr1_1) (twin_Differ_n0_o1_x1_S qb vr1_1)) r) (twin_Differ_n0_o1_x1_H qb vr1_1 s) := by
  obtain ⟨vout, vx⟩ := s
  unfold twin_Differ_n0_o1_x1 at hF
  refine awp_seq ?_
  refine awp_region ?_
  refine aR 1 ?_
  refine aE ?_
  refine awp_seq ?_
  refine cE hF (fun h6 hF => ?_) fun h6 hF => ?_
  · refine awp_true (by kernel_rfl) h6 ?_
    refine awp_skip ?_
    refine awp_seq ?_
    refine awp_to (st' := twin_Differ_n0_o1_x2_I qb vr1_1 vout vx) (oT [] []) ?_
    refine bE hF fun vout2_1 h12 hF => ?_
    refine awp_sub (twin_Differ_n0_o1_x2_ok qb vr1_1 vout vx h12) ?_
    refine awp_region ?_
    refine aR 2 ?_
    refine aE ?_
    exact oO hF [] [] rfl
  · refine awp_false (by kernel_rfl) h6 ?_
    refine awp_exit ?_
    exact oO hF [] [] rfl

def twin_Differ_n0_o1_R (qb : List api_Prop) (r : (List api_Change) × Int) : TV × Mem := (.tup [.one (.own 1 none), .one (.d (.int .i64 r.2))], ⟨[(1, ⟨72, 9, List.map api_Change.enc r.1⟩)], []⟩)

theorem twin_Differ_n0_o1_ok {qb : List api_Prop} {r} (hF : twin_Differ_n0_o1 qb = some r) : Holds prog 29 [.v (.one (.nil)), .v (.one (.own 0 none))] ⟨[(0, ⟨44, 5, List.map api_Prop.enc qb⟩)], []⟩ (Is (twin_Differ_n0_o1_R qb r)) := by
  unfold twin_Differ_n0_o1 at hF
  refine holds_of_awp hΓ (fn := f29) (c := cB f29) (A := 1) (nx := 1) (by kernel_rfl) (by kernel_rfl) (by kernel_rfl) (by kernel_rfl) (by kernel_rfl) (by kernel_rfl) (lowc_of (by kernel_rfl)) ?_
  show Awp prog 1 48 (cB f29) _ _
  refine awp_seq ?_
  refine awp_region ?_
  refine aR 2 ?_
  refine aE ?_
  refine awp_to (oT (m := ⟨[], []⟩) (ts := [(0, .v (.one (.nil))), (1, .v (.one (.d (.lst (List.map api_Prop.enc qb)))))]) (nx := 1) [] []) ?_
  refine awp_seq ?_
  refine awp_seq ?_
  refine bE hF fun vr h1 hF => ?_
  refine bE hF fun vr3 h2 hF => ?_
  refine bE hF fun vr1 h3 hF => ?_
  refine awp_region ?_
  refine aR 1 ?_
  refine aC (twin_CheckProps_n0_ok h1) [] [] [] ?_
  refine aR 1 ?_
  refine aC (twin_CheckProps_ok h2) [] [] [] ?_
  refine aR 1 ?_
  refine aC (base_First_ok h3) [] [] [4001] ?_
  refine aR 1 ?_
  refine aE ?_
  refine awp_seq ?_
  refine awp_region ?_
  refine aR 2 ?_
  refine aE ?_
  refine cE hF (fun h4 hF => ?_) fun h4 hF => ?_
  · refine awp_true (by kernel_rfl) h4 ?_
    refine awp_seq ?_
    refine awp_region ?_
    refine aR 3 ?_
    refine aE ?_
    refine awp_ret ?_
    exact oF hF [] [1]
  · refine awp_false (by kernel_rfl) h4 ?_
    refine awp_skip ?_
    refine awp_seq ?_
    refine awp_region ?_
    refine aR 1 ?_
    refine aE ?_
    refine awp_seq ?_
    refine awp_seq ?_
    refine bE hF fun vr1_1 h5 hF => ?_
    refine awp_region ?_
    refine aR 3 ?_
    refine aC (twin_names_o0_ok h5) [(0, 12001)] [] [] ?_
    refine aL encS vr1_1 ?_
    refine aR 1 ?_
    refine aE ?_
    refine awp_to (oT (m := ⟨[], []⟩) (ts := [(0, .v (.one (.nil))), (1, .v (.one (.d (.lst (List.map api_Prop.enc qb))))), (7, .v (.one (.nil))), (24, .v (.one (.d (.lst (List.map encS vr1_1))))), (25, .v (.one (.d (.int .i64 (vr1_1.length : Int))))), (26, .v (.one (.d (.int .i64 0))))]) (nx := 1) [] []) ?_
    refine awp_block ?_
    refine awp_to (st' := twin_Differ_n0_o1_x1_H qb vr1_1 ([], 0)) (oT [] [1]) ?_
    refine bE hF fun vout3_1 h13 hF => ?_
    refine awp_sub (awp_loop' (twin_Differ_n0_o1_x1_H qb vr1_1) twin_Differ_n0_o1_x1_k (twin_Differ_n0_o1_x1_S qb vr1_1) (by intro x; exact fun h => nomatch h) h13 (twin_Differ_n0_o1_x1_ok qb vr1_1)) ?_
    refine awp_seq ?_
    refine awp_region ?_
    refine aR 3 ?_
    refine aE ?_
    refine awp_ret ?_
    exact oF hF [] []

/-! ### beaconfleet/fleetlaw2.twinned -/
def fleetlaw2_twinned_x1_k : Bool → AEx
  | _ => .normal

def fleetlaw2_twinned_x1_S (vr5 : List api_Change) (vr6 : Int) : Bool → St
  | vx => Mem.st ⟨[], []⟩ (tl [(0, .v (.one (.d (.bool vx))))]) 0

def fleetlaw2_twinned_x1_I (vr5 : List api_Change) (vr6 : Int) : St := Mem.st ⟨[], []⟩ (tl [(1, .v (.one (.d (.lst (List.map api_Change.enc vr5))))), (2, .v (.one (.d (.int .i64 vr6))))]) 0

theorem fleetlaw2_twinned_x1_ok (vr5 : List api_Change) (vr6 : Int) {r} (hF : fleetlaw2_twinned_x1 vr5 vr6 = some r) : Awp prog 0 24 (cL (cR (cR (cB f18)))) (Out 0 fleetlaw2_twinned_x1_k (fleetlaw2_twinned_x1_S vr5 vr6) r) (fleetlaw2_twinned_x1_I vr5 vr6) := by
  unfold fleetlaw2_twinned_x1 at hF
  refine cE hF (fun h2 hF => ?_) fun h2 hF => ?_
  · refine cE hF (fun h3 hF => ?_) fun h3 hF => ?_
    · refine bE hF fun vy h4 hF => ?_
      refine awp_region ?_
      refine aR 1 ?_
      refine aB h2 ?_
      refine aR 2 ?_
      refine aL api_Change.enc vr5 ?_
      refine aB h3 ?_
      refine aR 3 ?_
      refine aX (x_idx api_Change.enc h4) ?_
      refine aR 5 ?_
      refine aE ?_
      exact oO hF [] [] rfl
    · refine awp_region ?_
      refine aR 1 ?_
      refine aB h2 ?_
      refine aR 2 ?_
      refine aL api_Change.enc vr5 ?_
      refine aB h3 ?_
      refine aR 9 ?_
      refine aE ?_
      exact oO hF [] [] rfl
  · refine awp_region ?_
    refine aR 1 ?_
    refine aB h2 ?_
    refine aR 13 ?_
    refine aE ?_
    exact oO hF [] [] rfl

def fleetlaw2_twinned_R (r : Bool) : TV × Mem := (.v (.one (.d (.bool r))), ⟨[], []⟩)

theorem fleetlaw2_twinned_ok {r} (hF : fleetlaw2_twinned = some r) : Holds prog 18 [] ⟨[], []⟩ (Is (fleetlaw2_twinned_R  r)) := by
  unfold fleetlaw2_twinned at hF
  refine holds_of_awp hΓ (fn := f18) (c := cB f18) (A := 0) (nx := 0) (by kernel_rfl) (by kernel_rfl) (by kernel_rfl) (by kernel_rfl) (by kernel_rfl) (by kernel_rfl) (lowc_of (by kernel_rfl)) ?_
  show Awp prog 0 24 (cB f18) _ _
  refine awp_seq ?_
  refine awp_region ?_
  refine aR 1 ?_
  refine aE ?_
  refine awp_seq ?_
  refine bE hF fun x h1 hF => ?_
  obtain ⟨vr5, vr6⟩ := x
  refine awp_region ?_
  refine aR 3 ?_
  refine aC (twin_Differ_n0_o1_ok h1) [(0, 3000)] [] [] ?_
  refine aR 5 ?_
  refine aE ?_
  refine awp_to (oT (m := ⟨[], []⟩) (ts := [(1, .v (.one (.d (.lst (List.map api_Change.enc vr5))))), (2, .v (.one (.d (.int .i64 vr6))))]) (nx := 0) [] []) ?_
  refine awp_seq ?_
  refine awp_to (st' := fleetlaw2_twinned_x1_I vr5 vr6) (oT [] []) ?_
  refine bE hF fun vx1 h5 hF => ?_
  refine awp_sub (fleetlaw2_twinned_x1_ok vr5 vr6 h5) ?_
  refine awp_ret ?_
  exact oF hF [] []

/-! ### beaconfleet/fleetlaw2.CellsSeen -/
def fleetlaw2_CellsSeen_x1_k : Int → AEx
  | _ => .normal

def fleetlaw2_CellsSeen_x1_S (vr3 : List api_Cell) (vr : Int) (vr1 : List api_Prop) (vr2 : Int) (vr2_1 : List api_Cell) (vr3_1 : Int) (vr4 : Int) : Int → St
  | vx => Mem.st ⟨[], []⟩ (tl [(4, .v (.one (.d (.lst (List.map api_Cell.enc vr3))))), (5, .v (.one (.d (.int .i64 vr)))), (6, .v (.one (.d (.lst (List.map api_Prop.enc vr1))))), (7, .v (.one (.d (.int .i64 vr2)))), (8, .v (.one (.d (.lst (List.map api_Cell.enc vr2_1))))), (9, .v (.one (.d (.int .i64 vr3_1)))), (10, .v (.one (.d (.int .i64 vr4)))), (11, .v (.one (.d (.int .i64 vx))))]) 0

def fleetlaw2_CellsSeen_x1_I (vr3 : List api_Cell) (vr : Int) (vr1 : List api_Prop) (vr2 : Int) (vr2_1 : List api_Cell) (vr3_1 : Int) (vr4 : Int) : St := Mem.st ⟨[], []⟩ (tl [(4, .v (.one (.d (.lst (List.map api_Cell.enc vr3))))), (5, .v (.one (.d (.int .i64 vr)))), (6, .v (.one (.d (.lst (List.map api_Prop.enc vr1))))), (7, .v (.one (.d (.int .i64 vr2)))), (8, .v (.one (.d (.lst (List.map api_Cell.enc vr2_1))))), (9, .v (.one (.d (.int .i64 vr3_1)))), (10, .v (.one (.d (.int .i64 vr4))))]) 0

theorem fleetlaw2_CellsSeen_x1_ok (vr3 : List api_Cell) (vr : Int) (vr1 : List api_Prop) (vr2 : Int) (vr2_1 : List api_Cell) (vr3_1 : Int) (vr4 : Int) {r} (hF : fleetlaw2_CellsSeen_x1 vr vr4 = some r) : Awp prog 0 75 (cL (cR (cR (cR (cR (cR (cR (cB f3)))))))) (Out 0 fleetlaw2_CellsSeen_x1_k (fleetlaw2_CellsSeen_x1_S vr3 vr vr1 vr2 vr2_1 vr3_1 vr4) r) (fleetlaw2_CellsSeen_x1_I vr3 vr vr1 vr2 vr2_1 vr3_1 vr4) := by
  unfold fleetlaw2_CellsSeen_x1 at hF
  refine cE hF (fun h6 hF => ?_) fun h6 hF => ?_
  · refine bE hF fun vr5 h7 hF => ?_
    refine bE hF fun vr6 h8 hF => ?_
    refine awp_region ?_
    refine aR 2 ?_
    refine aB h6 ?_
    refine aR 4 ?_
    refine aC (fleetlaw2_when_ok h7) [] [] [] ?_
    refine aR 1 ?_
    refine aC (fleetlaw2_errs_ok h8) [] [] [8000] ?_
    refine aR 1 ?_
    refine aE ?_
    exact oO hF [] [] rfl
  · refine bE hF fun vr7 h9 hF => ?_
    refine bE hF fun vr8 h10 hF => ?_
    refine awp_region ?_
    refine aR 2 ?_
    refine aB h6 ?_
    refine aR 4 ?_
    refine aC (fleetlaw2_when_ok h9) [] [] [] ?_
    refine aR 1 ?_
    refine aC (fleetlaw2_errs_ok h10) [] [] [8000] ?_
    refine aR 1 ?_
    refine aE ?_
    exact oO hF [] [] rfl

def fleetlaw2_CellsSeen_x2_k : (List api_Prop) → AEx
  | _ => .normal

def fleetlaw2_CellsSeen_x2_S (vr3 : List api_Cell) (vr : Int) (vr1 : List api_Prop) (vr2 : Int) (vr2_1 : List api_Cell) (vr3_1 : Int) (vr4 : Int) (vx1 : Int) : (List api_Prop) → St
  | vx2 => Mem.st ⟨[], []⟩ (tl [(4, .v (.one (.d (.lst (List.map api_Cell.enc vr3))))), (5, .v (.one (.d (.int .i64 vr)))), (6, .v (.one (.d (.lst (List.map api_Prop.enc vr1))))), (7, .v (.one (.d (.int .i64 vr2)))), (8, .v (.one (.d (.lst (List.map api_Cell.enc vr2_1))))), (9, .v (.one (.d (.int .i64 vr3_1)))), (10, .v (.one (.d (.int .i64 vr4)))), (11, .v (.one (.d (.int .i64 vx1)))), (12, .v (.one (.d (.lst (List.map api_Prop.enc vx2))))), (13, .v (.one (.nil)))]) 0

def fleetlaw2_CellsSeen_x2_I (vr3 : List api_Cell) (vr : Int) (vr1 : List api_Prop) (vr2 : Int) (vr2_1 : List api_Cell) (vr3_1 : Int) (vr4 : Int) (vx1 : Int) : St := Mem.st ⟨[], []⟩ (tl [(4, .v (.one (.d (.lst (List.map api_Cell.enc vr3))))), (5, .v (.one (.d (.int .i64 vr)))), (6, .v (.one (.d (.lst (List.map api_Prop.enc vr1))))), (7, .v (.one (.d (.int .i64 vr2)))), (8, .v (.one (.d (.lst (List.map api_Cell.enc vr2_1))))), (9, .v (.one (.d (.int .i64 vr3_1)))), (10, .v (.one (.d (.int .i64 vr4)))), (11, .v (.one (.d (.int .i64 vx1)))), (12, .v (.one (.nil))), (13, .v (.one (.nil)))]) 0

theorem fleetlaw2_CellsSeen_x2_ok (vr3 : List api_Cell) (vr : Int) (vr1 : List api_Prop) (vr2 : Int) (vr2_1 : List api_Cell) (vr3_1 : Int) (vr4 : Int) (vx1 : Int) {r} (hF : fleetlaw2_CellsSeen_x2 vr3 vr4 = some r) : Awp prog 0 75 (cL (cR (cR (cR (cR (cR (cR (cR (cR (cR (cB f3))))))))))) (Out 0 fleetlaw2_CellsSeen_x2_k (fleetlaw2_CellsSeen_x2_S vr3 vr vr1 vr2 vr2_1 vr3_1 vr4 vx1) r) (fleetlaw2_CellsSeen_x2_I vr3 vr vr1 vr2 vr2_1 vr3_1 vr4 vx1) := by
  unfold fleetlaw2_CellsSeen_x2 at hF
  refine awp_seq ?_
  refine awp_region ?_
  refine aR 2 ?_
  refine aE ?_
  refine cE hF (fun h12 hF => ?_) fun h12 hF => ?_
  · refine awp_true (by kernel_rfl) h12 ?_
    refine bE hF fun vr9 h13 hF => ?_
    refine awp_region ?_
    refine aR 1 ?_
    refine aC (fleetref2_VisibleOf_ok h13) [] [] [] ?_
    refine aR 1 ?_
    refine aE ?_
    exact oO hF [] [] rfl
  · refine awp_false (by kernel_rfl) h12 ?_
    refine awp_skip ?_
    exact oO hF [] [] rfl

def fleetlaw2_CellsSeen_x3_k : (List api_Cell) → AEx
  | _ => .normal

def fleetlaw2_CellsSeen_x3_S (vr3 : List api_Cell) (vr : Int) (vr1 : List api_Prop) (vr2 : Int) (vr2_1 : List api_Cell) (vr3_1 : Int) (vr4 : Int) (vx1 : Int) (vx2_1 : List api_Prop) : (List api_Cell) → St
  | vx3 => Mem.st ⟨[], []⟩ (tl [(6, .v (.one (.d (.lst (List.map api_Prop.enc vr1))))), (7, .v (.one (.d (.int .i64 vr2)))), (8, .v (.one (.d (.lst (List.map api_Cell.enc vr2_1))))), (9, .v (.one (.d (.int .i64 vr3_1)))), (10, .v (.one (.d (.int .i64 vr4)))), (11, .v (.one (.d (.int .i64 vx1)))), (12, .v (.one (.d (.lst (List.map api_Prop.enc vx2_1))))), (13, .v (.one (.d (.lst (List.map api_Cell.enc vx3)))))]) 0

def fleetlaw2_CellsSeen_x3_I (vr3 : List api_Cell) (vr : Int) (vr1 : List api_Prop) (vr2 : Int) (vr2_1 : List api_Cell) (vr3_1 : Int) (vr4 : Int) (vx1 : Int) (vx2_1 : List api_Prop) : St := Mem.st ⟨[], []⟩ (tl [(4, .v (.one (.d (.lst (List.map api_Cell.enc vr3))))), (5, .v (.one (.d (.int .i64 vr)))), (6, .v (.one (.d (.lst (List.map api_Prop.enc vr1))))), (7, .v (.one (.d (.int .i64 vr2)))), (8, .v (.one (.d (.lst (List.map api_Cell.enc vr2_1))))), (9, .v (.one (.d (.int .i64 vr3_1)))), (10, .v (.one (.d (.int .i64 vr4)))), (11, .v (.one (.d (.int .i64 vx1)))), (12, .v (.one (.d (.lst (List.map api_Prop.enc vx2_1))))), (13, .v (.one (.nil)))]) 0

theorem fleetlaw2_CellsSeen_x3_ok (vr3 : List api_Cell) (vr : Int) (vr1 : List api_Prop) (vr2 : Int) (vr2_1 : List api_Cell) (vr3_1 : Int) (vr4 : Int) (vx1 : Int) (vx2_1 : List api_Prop) {r} (hF : fleetlaw2_CellsSeen_x3 vr3 vr vx1 = some r) : Awp prog 0 75 (cL (cR (cR (cR (cR (cR (cR (cR (cR (cR (cR (cB f3)))))))))))) (Out 0 fleetlaw2_CellsSeen_x3_k (fleetlaw2_CellsSeen_x3_S vr3 vr vr1 vr2 vr2_1 vr3_1 vr4 vx1 vx2_1) r) (fleetlaw2_CellsSeen_x3_I vr3 vr vr1 vr2 vr2_1 vr3_1 vr4 vx1 vx2_1) := by
  unfold fleetlaw2_CellsSeen_x3 at hF
  refine awp_seq ?_
  refine awp_region ?_
  refine aR 2 ?_
  refine aE ?_
  refine cE hF (fun h15 hF => ?_) fun h15 hF => ?_
  · refine awp_true (by kernel_rfl) h15 ?_
    refine bE hF fun vr10 h16 hF => ?_
    refine awp_region ?_
    refine aR 2 ?_
    refine aC (fleetref2_CompactOf_ok h16) [] [] [] ?_
    refine aR 1 ?_
    refine aE ?_
    exact oO hF [] [] rfl
  · refine awp_false (by kernel_rfl) h15 ?_
    refine awp_skip ?_
    exact oO hF [] [] rfl

def fleetlaw2_CellsSeen_x4_k : Bool → AEx
  | _ => .normal

def fleetlaw2_CellsSeen_x4_S (vr1 : List api_Prop) (vr2 : Int) (vr2_1 : List api_Cell) (vr3_1 : Int) (vr4 : Int) (vx1 : Int) (vx2_1 : List api_Prop) (vx3_1 : List api_Cell) : Bool → St
  | vx4 => Mem.st ⟨[], []⟩ (tl [(2, .v (.one (.d (.bool vx4))))]) 0

def fleetlaw2_CellsSeen_x4_I (vr1 : List api_Prop) (vr2 : Int) (vr2_1 : List api_Cell) (vr3_1 : Int) (vr4 : Int) (vx1 : Int) (vx2_1 : List api_Prop) (vx3_1 : List api_Cell) : St := Mem.st ⟨[], []⟩ (tl [(6, .v (.one (.d (.lst (List.map api_Prop.enc vr1))))), (7, .v (.one (.d (.int .i64 vr2)))), (8, .v (.one (.d (.lst (List.map api_Cell.enc vr2_1))))), (9, .v (.one (.d (.int .i64 vr3_1)))), (10, .v (.one (.d (.int .i64 vr4)))), (11, .v (.one (.d (.int .i64 vx1)))), (12, .v (.one (.d (.lst (List.map api_Prop.enc vx2_1))))), (13, .v (.one (.d (.lst (List.map api_Cell.enc vx3_1)))))]) 0

theorem fleetlaw2_CellsSeen_x4_ok (vr1 : List api_Prop) (vr2 : Int) (vr2_1 : List api_Cell) (vr3_1 : Int) (vr4 : Int) (vx1 : Int) (vx2_1 : List api_Prop) (vx3_1 : List api_Cell) {r} (hF : fleetlaw2_CellsSeen_x4 vr1 vr2 vr2_1 vr3_1 vr4 vx1 vx2_1 vx3_1 = some r) : Awp prog 0 75 (cL (cR (cR (cR (cR (cR (cR (cR (cR (cR (cR (cR (cB f3))))))))))))) (Out 0 fleetlaw2_CellsSeen_x4_k (fleetlaw2_CellsSeen_x4_S vr1 vr2 vr2_1 vr3_1 vr4 vx1 vx2_1 vx3_1) r) (fleetlaw2_CellsSeen_x4_I vr1 vr2 vr2_1 vr3_1 vr4 vx1 vx2_1 vx3_1) := by
  unfold fleetlaw2_CellsSeen_x4 at hF
  refine cE hF (fun h18 hF => ?_) fun h18 hF => ?_
  · refine bE hF fun vr11 h19 hF => ?_
    refine cE hF (fun h20 hF => ?_) fun h20 hF => ?_
    · refine cE hF (fun h21 hF => ?_) fun h21 hF => ?_
      · refine bE hF fun vr12 h22 hF => ?_
        refine cE hF (fun h23 hF => ?_) fun h23 hF => ?_
        · refine bE hF fun vr13 h24 hF => ?_
          refine awp_region ?_
          refine aR 2 ?_
          refine aB h18 ?_
          refine aR 3 ?_
          refine aCb (slices_Equal_api_Prop_api_Prop_ok h19) [] [] [] h20 ?_
          refine aR 4 ?_
          refine aB h21 ?_
          refine aR 4 ?_
          refine aCb (slices_Equal_api_Cell_api_Cell_ok h22) [] [] [] h23 ?_
          refine aR 2 ?_
          refine aC (fleetlaw2_twinned_ok h24) [] [] [] ?_
          refine aR 2 ?_
          refine aE ?_
          exact oO hF [] [] rfl
        · refine awp_region ?_
          refine aR 2 ?_
          refine aB h18 ?_
          refine aR 3 ?_
          refine aCb (slices_Equal_api_Prop_api_Prop_ok h19) [] [] [] h20 ?_
          refine aR 4 ?_
          refine aB h21 ?_
          refine aR 4 ?_
          refine aCb (slices_Equal_api_Cell_api_Cell_ok h22) [] [] [] h23 ?_
          refine aR 5 ?_
          refine aE ?_
          exact oO hF [] [] rfl
      · refine awp_region ?_
        refine aR 2 ?_
        refine aB h18 ?_
        refine aR 3 ?_
        refine aCb (slices_Equal_api_Prop_api_Prop_ok h19) [] [] [] h20 ?_
        refine aR 4 ?_
        refine aB h21 ?_
        refine aR 10 ?_
        refine aE ?_
        exact oO hF [] [] rfl
    · refine awp_region ?_
      refine aR 2 ?_
      refine aB h18 ?_
      refine aR 3 ?_
      refine aCb (slices_Equal_api_Prop_api_Prop_ok h19) [] [] [] h20 ?_
      refine aR 15 ?_
      refine aE ?_
      exact oO hF [] [] rfl
  · refine awp_region ?_
    refine aR 2 ?_
    refine aB h18 ?_
    refine aR 19 ?_
    refine aE ?_
    exact oO hF [] [] rfl

def fleetlaw2_CellsSeen_R (qx : List Int) (r : Bool) : TV × Mem := (.v (.one (.d (.bool r))), ⟨[], []⟩)

theorem fleetlaw2_CellsSeen_ok {qx : List Int} {r} (hF : fleetlaw2_CellsSeen qx = some r) : Holds prog 3 [.v (.one (.d (.lst (List.map (encI .i64) qx))))] ⟨[], []⟩ (Is (fleetlaw2_CellsSeen_R qx r)) := by
  unfold fleetlaw2_CellsSeen at hF
  refine holds_of_awp hΓ (fn := f3) (c := cB f3) (A := 0) (nx := 0) (by kernel_rfl) (by kernel_rfl) (by kernel_rfl) (by kernel_rfl) (by kernel_rfl) (by kernel_rfl) (lowc_of (by kernel_rfl)) ?_
  show Awp prog 0 75 (cB f3) _ _
  refine awp_seq ?_
  refine awp_region ?_
  refine aR 1 ?_
  refine aE ?_
  refine awp_seq ?_
  refine awp_region ?_
  refine aR 4 ?_
  refine aE ?_
  refine awp_seq ?_
  refine bE hF fun x h1 hF => ?_
  obtain ⟨vs2, vr3⟩ := x
  refine bE hF fun vr h2 hF => ?_
  refine awp_region ?_
  refine aR 1 ?_
  refine aC (fleetmake_Stream_Cells_ok h1) [(0, 3000)] [] [] ?_
  refine aR 2 ?_
  refine aC (fleetmake_Stream_Pick_o1_ok h2) [(0, 3000), (1, 8000)] [] [] ?_
  refine aR 2 ?_
  refine aE ?_
  refine awp_to (oT (m := ⟨[], []⟩) (ts := [(4, .v (.one (.d (.lst (List.map api_Cell.enc vr3))))), (5, .v (.one (.d (.int .i64 vr))))]) (nx := 0) [] []) ?_
  refine awp_seq ?_
  refine bE hF fun x h3 hF => ?_
  obtain ⟨vr1, vr2⟩ := x
  refine awp_region ?_
  refine aR 1 ?_
  refine aC (twin_Visible_ok h3) [] [] [] ?_
  refine aR 5 ?_
  refine aE ?_
  refine awp_to (oT (m := ⟨[], []⟩) (ts := [(4, .v (.one (.d (.lst (List.map api_Cell.enc vr3))))), (5, .v (.one (.d (.int .i64 vr)))), (6, .v (.one (.d (.lst (List.map api_Prop.enc vr1))))), (7, .v (.one (.d (.int .i64 vr2))))]) (nx := 0) [] []) ?_
  refine awp_seq ?_
  refine bE hF fun x h4 hF => ?_
  obtain ⟨vr2_1, vr3_1⟩ := x
  refine awp_region ?_
  refine aR 2 ?_
  refine aC (twin_Compact_ok h4) [] [] [] ?_
  refine aR 5 ?_
  refine aE ?_
  refine awp_to (oT (m := ⟨[], []⟩) (ts := [(4, .v (.one (.d (.lst (List.map api_Cell.enc vr3))))), (5, .v (.one (.d (.int .i64 vr)))), (6, .v (.one (.d (.lst (List.map api_Prop.enc vr1))))), (7, .v (.one (.d (.int .i64 vr2)))), (8, .v (.one (.d (.lst (List.map api_Cell.enc vr2_1))))), (9, .v (.one (.d (.int .i64 vr3_1))))]) (nx := 0) [] []) ?_
  refine awp_seq ?_
  refine bE hF fun vr4 h5 hF => ?_
  refine awp_region ?_
  refine aR 1 ?_
  refine aC (fleetref2_CellsFault_ok h5) [] [] [] ?_
  refine aR 1 ?_
  refine aE ?_
  refine awp_seq ?_
  refine awp_to (st' := fleetlaw2_CellsSeen_x1_I vr3 vr vr1 vr2 vr2_1 vr3_1 vr4) (oT [] []) ?_
  refine bE hF fun vx1 h11 hF => ?_
  refine awp_sub (fleetlaw2_CellsSeen_x1_ok vr3 vr vr1 vr2 vr2_1 vr3_1 vr4 h11) ?_
  refine awp_seq ?_
  refine awp_region ?_
  refine aR 1 ?_
  refine aE ?_
  refine awp_seq ?_
  refine awp_region ?_
  refine aR 1 ?_
  refine aE ?_
  refine awp_seq ?_
  refine awp_to (st' := fleetlaw2_CellsSeen_x2_I vr3 vr vr1 vr2 vr2_1 vr3_1 vr4 vx1) (oT [] []) ?_
  refine bE hF fun vx2_1 h14 hF => ?_
  refine awp_sub (fleetlaw2_CellsSeen_x2_ok vr3 vr vr1 vr2 vr2_1 vr3_1 vr4 vx1 h14) ?_
  refine awp_seq ?_
  refine awp_to (st' := fleetlaw2_CellsSeen_x3_I vr3 vr vr1 vr2 vr2_1 vr3_1 vr4 vx1 vx2_1) (oT [] []) ?_
  refine bE hF fun vx3_1 h17 hF => ?_
  refine awp_sub (fleetlaw2_CellsSeen_x3_ok vr3 vr vr1 vr2 vr2_1 vr3_1 vr4 vx1 vx2_1 h17) ?_
  refine awp_seq ?_
  refine awp_to (st' := fleetlaw2_CellsSeen_x4_I vr1 vr2 vr2_1 vr3_1 vr4 vx1 vx2_1 vx3_1) (oT [] []) ?_
  refine bE hF fun vx4_1 h25 hF => ?_
  refine awp_sub (fleetlaw2_CellsSeen_x4_ok vr1 vr2 vr2_1 vr3_1 vr4 vx1 vx2_1 vx3_1 h25) ?_
  refine awp_ret ?_
  exact oF hF [] []

end Go.Eng
