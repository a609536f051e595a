/-
The code of the Go functions that the law CellsNest reaches does what the plain functions say, part 3.
-/
import Derived.Test.YtgjgjnfglkdgaaaGreatDoorGenP2

namespace Go.Eng

open Go Go.Proofs.Tryz

set_option linter.unusedVariables false

set_option maxRecDepth 20000

set_option maxHeartbeats 0

/-! ### beaconfleet/twin.above -/
def z1208 : Bool → AEx
  | _ => .normal

def z1207 (qname : List UInt8) (qf : List api_Prop) (vx : Int) : Bool → St
  | vx2 => Mem.st ⟨[], [(0, [.d (.lst (List.map api_Prop.enc qf))])]⟩ (tl [(0, .v (.one (.d (.str qname)))), (1, .v (.one (.fn 100 [0]))), (7, .v (.one (.d (.int .i64 (qname.length : Int))))), (8, .v (.one (.d (.int .i64 vx)))), (21, .v (.one (.d (.bool vx2))))]) 1

def z1206 (qname : List UInt8) (qf : List api_Prop) (vx : Int) : St := Mem.st ⟨[], [(0, [.d (.lst (List.map api_Prop.enc qf))])]⟩ (tl [(0, .v (.one (.d (.str qname)))), (1, .v (.one (.fn 100 [0]))), (5, .v (.one (.d (.int .i64 vx)))), (7, .v (.one (.d (.int .i64 (qname.length : Int))))), (8, .v (.one (.d (.int .i64 vx))))]) 1

theorem z1209 (qname : List UInt8) (qf : List api_Prop) (vx : Int) {r} (hF : z1205 qname qf vx = some r) : Awp prog 1 23 (cL (cR (cL (cL (cR (cR (cL (cL (cR (cL (cR (cB f99)))))))))))) (Out 1 z1208 (z1207 qname qf vx) r) (z1206 qname qf vx) := by
  unfold z1205 at hF
  refine bE hF fun vc1 h2 hF => ?_
  refine cE hF (fun h3 hF => ?_) fun h3 hF => ?_
  · refine bE hF fun vs1 h4 hF => ?_
    refine bE hF fun vr1 h5 hF => ?_
    refine awp_region ?_
    refine aR 2 ?_
    refine aX (x_idxS h2) ?_
    refine aB h3 ?_
    refine aR 4 ?_
    refine aX (x_sliceS h4) ?_
    refine aC (z1153 h5) [] [] [] ?_
    refine aR 1 ?_
    refine aE ?_
    exact oO hF [] [] rfl
  · refine awp_region ?_
    refine aR 2 ?_
    refine aX (x_idxS h2) ?_
    refine aB h3 ?_
    refine aR 7 ?_
    refine aE ?_
    exact oO hF [] [] rfl

def z1203 : Unit ⊕ Unit → AEx
  | .inl _ => .exit 0
  | .inr _ => .ret

def z1202 (qname : List UInt8) (qf : List api_Prop) : Unit ⊕ Unit → St
  | .inl _ => Mem.st ⟨[], [(0, [.d (.lst (List.map api_Prop.enc qf))])]⟩ (tl []) 1
  | .inr _ => Mem.st ⟨[], [(0, [.d (.lst (List.map api_Prop.enc qf))])]⟩ (tl [(4, .v (.one (.d (.bool true))))]) 1

def z1201 (qname : List UInt8) (qf : List api_Prop) : Int → St
  | vx => Mem.st ⟨[], [(0, [.d (.lst (List.map api_Prop.enc qf))])]⟩ (tl [(0, .v (.one (.d (.str qname)))), (1, .v (.one (.fn 100 [0]))), (7, .v (.one (.d (.int .i64 (qname.length : Int))))), (8, .v (.one (.d (.int .i64 vx))))]) 1

theorem z1204 (qname : List UInt8) (qf : List api_Prop) (vx : Int) (r : (Int) ⊕ (Unit ⊕ Unit)) (hF : z1200 qname qf vx = some r) : Awp prog 1 23 (cL (cL (cR (cL (cR (cB f99)))))) (Out 1 (kk z1203) (SS (z1201 qname qf) (z1202 qname qf)) r) (z1201 qname qf vx) := by
  unfold z1200 at hF
  refine awp_seq ?_
  refine awp_region ?_
  refine aR 1 ?_
  refine aE ?_
  refine awp_seq ?_
  refine cE hF (fun h1 hF => ?_) fun h1 hF => ?_
  · refine awp_true (by kernel_rfl) h1 ?_
    refine awp_skip ?_
    refine awp_seq ?_
    refine awp_block ?_
    refine awp_seq ?_
    refine awp_region ?_
    refine aR 2 ?_
    refine aE ?_
    refine awp_seq ?_
    refine awp_to (st' := z1206 qname qf vx) (oT [] []) ?_
    refine bE hF fun vx2_1 h6 hF => ?_
    refine awp_sub (z1209 qname qf vx h6) ?_
    refine cE hF (fun h7 hF => ?_) fun h7 hF => ?_
    · refine awp_true (by kernel_rfl) h7 ?_
      refine awp_seq ?_
      refine awp_region ?_
      refine aR 1 ?_
      refine aE ?_
      refine awp_ret ?_
      exact oO hF [] [] rfl
    · refine awp_false (by kernel_rfl) h7 ?_
      refine awp_skip ?_
      refine awp_region ?_
      refine aR 2 ?_
      refine aE ?_
      exact oO hF [] [] rfl
  · refine awp_false (by kernel_rfl) h1 ?_
    refine awp_exit ?_
    exact oO hF [] [] rfl

def z1198 (qname : List UInt8) (qf : List api_Prop) (r : Bool) : TV × Mem := (.v (.one (.d (.bool r))), ⟨[], [(0, [.d (.lst (List.map api_Prop.enc qf))])]⟩)

theorem z1199 {qname : List UInt8} {qf : List api_Prop} {r} (hF : z1197 qname qf = some r) : Holds prog 99 [.v (.one (.d (.str qname))), .v (.one (.fn 100 [0]))] ⟨[], [(0, [.d (.lst (List.map api_Prop.enc qf))])]⟩ (Is (z1198 qname qf r)) := by
  unfold z1197 at hF
  refine holds_of_awp hΓ (fn := f99) (c := cB f99) (A := 1) (nx := 1) (by kernel_rfl) (by kernel_rfl) (by kernel_rfl) (by kernel_rfl) (by kernel_rfl) (by kernel_rfl) (lowc_of (by kernel_rfl)) ?_
  show Awp prog 1 23 (cB f99) _ _
  refine awp_seq ?_
  refine awp_region ?_
  refine aR 1 ?_
  refine aE ?_
  refine awp_seq ?_
  refine awp_seq ?_
  refine awp_region ?_
  refine aR 3 ?_
  refine aE ?_
  refine awp_block ?_
  refine awp_to (st' := z1201 qname qf 0) (oT [] []) ?_
  refine bE hF fun x h8 hF => ?_
  rcases x with _ | _
  · refine awp_sub (awp_loop' (z1201 qname qf) z1203 (z1202 qname qf) (by intro x; rcases x with x | x <;> exact fun h => nomatch h) h8 (z1204 qname qf)) ?_
    refine awp_seq ?_
    refine awp_region ?_
    refine aR 1 ?_
    refine aE ?_
    refine awp_ret ?_
    exact oF hF [] []
  · refine awp_sub (awp_loop' (z1201 qname qf) z1203 (z1202 qname qf) (by intro x; rcases x with x | x <;> exact fun h => nomatch h) h8 (z1204 qname qf)) ?_
    exact oF hF [] []

/-! ### beaconfleet/twin.CheckProps -/
def z1177 : Bool → AEx
  | _ => .normal

def z1176 (ql : List api_Prop) (vx : Int) (vy2 : api_Prop) : Bool → St
  | vx2 => Mem.st ⟨[], [(0, [.d (.lst (List.map api_Prop.enc ql))])]⟩ (tl [(1, .v (.one (.box 0 0))), (11, .v (.one (.d (.lst (List.map api_Prop.enc ql))))), (12, .v (.one (.d (.int .i64 (ql.length : Int))))), (13, .v (.one (.d (.int .i64 vx)))), (44, .v (.one (.d (.bool vx2))))]) 1

def z1175 (ql : List api_Prop) (vx : Int) (vy2 : api_Prop) : St := Mem.st ⟨[], [(0, [.d (.lst (List.map api_Prop.enc ql))]), (1, [.d (.str vy2.Name), .d (.int .i64 vy2.Value.Kind), .d (.bool vy2.Value.Flag), .d (.int .i64 vy2.Value.Number), .d (.str vy2.Value.Words)])]⟩ (tl [(1, .v (.one (.box 0 0))), (3, .v (.one (.d (.int .i64 vx)))), (4, .v (.one (.box 1 0))), (11, .v (.one (.d (.lst (List.map api_Prop.enc ql))))), (12, .v (.one (.d (.int .i64 (ql.length : Int))))), (13, .v (.one (.d (.int .i64 vx))))]) 2

theorem z1178 (ql : List api_Prop) (vx : Int) (vy2 : api_Prop) {r} (hF : z1174 ql vx vy2 = some r) : Awp prog 0 57 (cL (cR (cR (cR (cR (cL (cL (cR (cR (cL (cL (cR (cL (cR (cR (cB f70)))))))))))))))) (Out 0 z1177 (z1176 ql vx vy2) r) (z1175 ql vx vy2) := by
  unfold z1174 at hF
  refine cE hF (fun h9 hF => ?_) fun h9 hF => ?_
  · refine bE hF fun vy3 h10 hF => ?_
    refine aD ?_
    refine dR 1 ?_
    refine dB h9 ?_
    refine dR 6 ?_
    refine dX (x_idx api_Prop.enc h10) ?_
    refine dR 4 ?_
    refine dE ?_
    exact oO hF [] [] rfl
  · refine aD ?_
    refine dR 1 ?_
    refine dB h9 ?_
    refine dR 11 ?_
    refine dE ?_
    exact oO hF [] [] rfl

def z1172 : Unit ⊕ Int → AEx
  | .inl _ => .exit 0
  | .inr _ => .ret

def z1171 (ql : List api_Prop) : Unit ⊕ Int → St
  | .inl _ => Mem.st ⟨[], [(0, [.d (.lst (List.map api_Prop.enc ql))])]⟩ (tl [(1, .v (.one (.box 0 0)))]) 1
  | .inr vx3 => Mem.st ⟨[], []⟩ (tl [(2, .v (.one (.d (.int .i64 vx3))))]) 0

def z1170 (ql : List api_Prop) : Int → St
  | vx => Mem.st ⟨[], [(0, [.d (.lst (List.map api_Prop.enc ql))])]⟩ (tl [(1, .v (.one (.box 0 0))), (11, .v (.one (.d (.lst (List.map api_Prop.enc ql))))), (12, .v (.one (.d (.int .i64 (ql.length : Int))))), (13, .v (.one (.d (.int .i64 vx))))]) 1

theorem z1173 (ql : List api_Prop) (vx : Int) (r : (Int) ⊕ (Unit ⊕ Int)) (hF : z1169 ql vx = some r) : Awp prog 0 57 (cL (cL (cR (cL (cR (cR (cB f70))))))) (Out 0 (kk z1172) (SS (z1170 ql) (z1171 ql)) r) (z1170 ql vx) := by
  unfold z1169 at hF
  refine awp_seq ?_
  refine awp_region ?_
  refine aR 1 ?_
  refine aE ?_
  refine awp_seq ?_
  refine cE hF (fun h2 hF => ?_) fun h2 hF => ?_
  · refine awp_true (by kernel_rfl) h2 ?_
    refine awp_skip ?_
    refine awp_seq ?_
    refine awp_block ?_
    refine awp_seq ?_
    refine bE hF fun vy2 h3 hF => ?_
    refine awp_region ?_
    refine aR 1 ?_
    refine aX (x_idx api_Prop.enc h3) ?_
    refine aR 4 ?_
    refine aE ?_
    refine awp_seq ?_
    refine awp_seq ?_
    refine bE hF fun vr1 h4 hF => ?_
    refine awp_region ?_
    refine aR 2 ?_
    refine aC (z1220 h4) [] [] [] ?_
    refine aR 1 ?_
    refine aE ?_
    refine cE hF (fun h5 hF => ?_) fun h5 hF => ?_
    · refine awp_true (by kernel_rfl) h5 ?_
      refine awp_seq ?_
      refine awp_region ?_
      refine aR 1 ?_
      refine aE ?_
      refine awp_ret ?_
      exact oO hF [] [] rfl
    · refine awp_false (by kernel_rfl) h5 ?_
      refine awp_skip ?_
      refine awp_seq ?_
      refine awp_seq ?_
      refine bE hF fun vr2_1 h6 hF => ?_
      refine awp_region ?_
      refine aR 2 ?_
      refine aC (z1236 h6) [] [] [] ?_
      refine aR 1 ?_
      refine aE ?_
      refine awp_seq ?_
      refine awp_region ?_
      refine aR 2 ?_
      refine aE ?_
      refine cE hF (fun h7 hF => ?_) fun h7 hF => ?_
      · refine awp_true (by kernel_rfl) h7 ?_
        refine awp_seq ?_
        refine awp_region ?_
        refine aR 2 ?_
        refine aE ?_
        refine awp_ret ?_
        exact oO hF [] [] rfl
      · refine awp_false (by kernel_rfl) h7 ?_
        refine awp_skip ?_
        refine awp_seq ?_
        refine awp_seq ?_
        refine awp_region ?_
        refine aR 4 ?_
        refine aE ?_
        refine cE hF (fun h8 hF => ?_) fun h8 hF => ?_
        · refine awp_true (by kernel_rfl) h8 ?_
          refine awp_seq ?_
          refine awp_region ?_
          refine aR 1 ?_
          refine aE ?_
          refine awp_ret ?_
          exact oO hF [] [] rfl
        · refine awp_false (by kernel_rfl) h8 ?_
          refine awp_skip ?_
          refine awp_seq ?_
          refine awp_to (st' := z1175 ql vx vy2) (oT [(1, 4001)] []) ?_
          refine bE hF fun vx2_1 h11 hF => ?_
          refine awp_sub (z1178 ql vx vy2 h11) ?_
          refine cE hF (fun h12 hF => ?_) fun h12 hF => ?_
          · refine awp_true (by kernel_rfl) h12 ?_
            refine awp_seq ?_
            refine awp_region ?_
            refine aR 1 ?_
            refine aE ?_
            refine awp_ret ?_
            exact oO hF [] [] rfl
          · refine awp_false (by kernel_rfl) h12 ?_
            refine awp_skip ?_
            refine awp_region ?_
            refine aR 2 ?_
            refine aE ?_
            exact oO hF [] [] rfl
  · refine awp_false (by kernel_rfl) h2 ?_
    refine awp_exit ?_
    exact oO hF [] [] rfl

def z1182 : Unit ⊕ Unit → AEx
  | .inl _ => .exit 2
  | .inr _ => .ret

def z1181 (ql : List api_Prop) : Unit ⊕ Unit → St
  | .inl _ => Mem.st ⟨[], []⟩ (tl []) 0
  | .inr _ => Mem.st ⟨[], []⟩ (tl [(2, .v (.one (.d (.int .i64 13))))]) 0

def z1180 (ql : List api_Prop) : Int → St
  | vx4 => Mem.st ⟨[], [(0, [.d (.lst (List.map api_Prop.enc ql))])]⟩ (tl [(1, .v (.one (.box 0 0))), (46, .v (.one (.d (.lst (List.map api_Prop.enc ql))))), (47, .v (.one (.d (.int .i64 (ql.length : Int))))), (48, .v (.one (.d (.int .i64 vx4))))]) 1

theorem z1183 (ql : List api_Prop) (vx4 : Int) (r : (Int) ⊕ (Unit ⊕ Unit)) (hF : z1179 ql vx4 = some r) : Awp prog 0 57 (cL (cL (cR (cL (cR (cR (cR (cB f70)))))))) (Out 0 (kk z1182) (SS (z1180 ql) (z1181 ql)) r) (z1180 ql vx4) := by
  unfold z1179 at hF
  refine awp_seq ?_
  refine awp_region ?_
  refine aR 1 ?_
  refine aE ?_
  refine awp_seq ?_
  refine cE hF (fun h14 hF => ?_) fun h14 hF => ?_
  · refine awp_true (by kernel_rfl) h14 ?_
    refine awp_skip ?_
    refine awp_seq ?_
    refine awp_block ?_
    refine awp_seq ?_
    refine bE hF fun vy5 h15 hF => ?_
    refine awp_region ?_
    refine aX (x_idx api_Prop.enc h15) ?_
    refine aR 3 ?_
    refine aE ?_
    refine awp_seq ?_
    refine bE hF fun vr2_3 h16 hF => ?_
    refine awp_region ?_
    refine aR 3 ?_
    refine aC (z1199 h16) [] [] [] ?_
    refine aE ?_
    refine cE hF (fun h17 hF => ?_) fun h17 hF => ?_
    · refine awp_true (by kernel_rfl) h17 ?_
      refine awp_seq ?_
      refine awp_region ?_
      refine aR 1 ?_
      refine aE ?_
      refine awp_ret ?_
      exact oO hF [] [] rfl
    · refine awp_false (by kernel_rfl) h17 ?_
      refine awp_skip ?_
      refine awp_region ?_
      refine aR 2 ?_
      refine aE ?_
      exact oO hF [] [] rfl
  · refine awp_false (by kernel_rfl) h14 ?_
    refine awp_exit ?_
    exact oO hF [] [] rfl

def z1154 (ql : List api_Prop) (r : Int) : TV × Mem := (.v (.one (.d (.int .i64 r))), ⟨[], []⟩)

theorem z1168 {ql : List api_Prop} {r} (hF : z1150 ql = some r) : Holds prog 70 [.v (.one (.d (.lst (List.map api_Prop.enc ql))))] ⟨[], []⟩ (Is (z1154 ql r)) := by
  unfold z1150 at hF
  refine holds_of_awp hΓ (fn := f70) (c := cB f70) (A := 0) (nx := 0) (by kernel_rfl) (by kernel_rfl) (by kernel_rfl) (by kernel_rfl) (by kernel_rfl) (by kernel_rfl) (lowc_of (by kernel_rfl)) ?_
  show Awp prog 0 57 (cB f70) _ _
  refine awp_seq ?_
  refine awp_region ?_
  refine aR 2 ?_
  refine aE ?_
  refine awp_seq ?_
  refine awp_seq ?_
  refine awp_region ?_
  refine aR 1 ?_
  refine aL api_Prop.enc ql ?_
  refine aR 1 ?_
  refine aE ?_
  refine cE hF (fun h1 hF => ?_) fun h1 hF => ?_
  · refine awp_true (by kernel_rfl) h1 ?_
    refine awp_seq ?_
    refine awp_region ?_
    refine aR 1 ?_
    refine aE ?_
    refine awp_ret ?_
    exact oF hF [] []
  · refine awp_false (by kernel_rfl) h1 ?_
    refine awp_skip ?_
    refine awp_seq ?_
    refine awp_seq ?_
    refine awp_region ?_
    refine aR 1 ?_
    refine aL api_Prop.enc ql ?_
    refine aR 1 ?_
    refine aE ?_
    refine awp_block ?_
    refine awp_to (st' := z1170 ql 0) (oT [] []) ?_
    refine bE hF fun x h13 hF => ?_
    rcases x with _ | vx3_1
    · refine awp_sub (awp_loop' (z1170 ql) z1172 (z1171 ql) (by intro x; rcases x with x | x <;> exact fun h => nomatch h) h13 (z1173 ql)) ?_
      refine awp_seq ?_
      refine awp_seq ?_
      refine awp_region ?_
      refine aR 1 ?_
      refine aL api_Prop.enc ql ?_
      refine aR 1 ?_
      refine aE ?_
      refine awp_block ?_
      refine awp_to (st' := z1180 ql 0) (oT [] []) ?_
      refine bE hF fun x h18 hF => ?_
      rcases x with _ | _
      · refine awp_sub (awp_loop' (z1180 ql) z1182 (z1181 ql) (by intro x; rcases x with x | x <;> exact fun h => nomatch h) h18 (z1183 ql)) ?_
        refine awp_seq ?_
        refine awp_region ?_
        refine aR 1 ?_
        refine aE ?_
        refine awp_ret ?_
        exact oF hF [] []
      · refine awp_sub (awp_loop' (z1180 ql) z1182 (z1181 ql) (by intro x; rcases x with x | x <;> exact fun h => nomatch h) h18 (z1183 ql)) ?_
        exact oF hF [] []
    · refine awp_sub (awp_loop' (z1170 ql) z1172 (z1171 ql) (by intro x; rcases x with x | x <;> exact fun h => nomatch h) h13 (z1173 ql)) ?_
      exact oF hF [] []

/-! ### math/bits.Len64 -/
def z111 : (Int × Int) → AEx
  | _ => .normal

def z110 (qx : Int) : (Int × Int) → St
  | (vx, vn) => Mem.st ⟨[], []⟩ (tl [(0, .v (.one (.d (.int .u64 vx)))), (2, .v (.one (.d (.int .i64 vn))))]) 0

def z109 (qx : Int) : St := Mem.st ⟨[], []⟩ (tl [(0, .v (.one (.d (.int .u64 qx)))), (2, .v (.one (.d (.int .i64 0))))]) 0

theorem z112 (qx : Int) {r} (hF : z108 qx = some r) : Awp prog 0 25 (cL (cR (cB f138))) (Out 0 z111 (z110 qx) r) (z109 qx) := by
  unfold z108 at hF
  refine awp_seq ?_
  refine awp_region ?_
  refine aR 2 ?_
  refine aE ?_
  refine cE hF (fun h1 hF => ?_) fun h1 hF => ?_
  · refine awp_true (by kernel_rfl) h1 ?_
    refine awp_seq ?_
    refine awp_region ?_
    refine aR 3 ?_
    refine aE ?_
    refine awp_region ?_
    refine aR 1 ?_
    refine aE ?_
    exact oO hF [] [] rfl
  · refine awp_false (by kernel_rfl) h1 ?_
    refine awp_skip ?_
    exact oO hF [] [] rfl

def z118 : (Int × Int) → AEx
  | _ => .normal

def z115 (vx1 : Int) (vn1 : Int) : (Int × Int) → St
  | (vx2, vn2) => Mem.st ⟨[], []⟩ (tl [(0, .v (.one (.d (.int .u64 vx2)))), (2, .v (.one (.d (.int .i64 vn2))))]) 0

def z114 (vx1 : Int) (vn1 : Int) : St := Mem.st ⟨[], []⟩ (tl [(0, .v (.one (.d (.int .u64 vx1)))), (2, .v (.one (.d (.int .i64 vn1))))]) 0

theorem z120 (vx1 : Int) (vn1 : Int) {r} (hF : z113 vx1 vn1 = some r) : Awp prog 0 25 (cL (cR (cR (cB f138)))) (Out 0 z118 (z115 vx1 vn1) r) (z114 vx1 vn1) := by
  unfold z113 at hF
  refine awp_seq ?_
  refine awp_region ?_
  refine aR 2 ?_
  refine aE ?_
  refine cE hF (fun h3 hF => ?_) fun h3 hF => ?_
  · refine awp_true (by kernel_rfl) h3 ?_
    refine awp_seq ?_
    refine awp_region ?_
    refine aR 3 ?_
    refine aE ?_
    refine awp_region ?_
    refine aR 3 ?_
    refine aE ?_
    exact oO hF [] [] rfl
  · refine awp_false (by kernel_rfl) h3 ?_
    refine awp_skip ?_
    exact oO hF [] [] rfl

def z125 : (Int × Int) → AEx
  | _ => .normal

def z123 (vx2_1 : Int) (vn2_1 : Int) : (Int × Int) → St
  | (vx3, vn3) => Mem.st ⟨[], []⟩ (tl [(0, .v (.one (.d (.int .u64 vx3)))), (2, .v (.one (.d (.int .i64 vn3))))]) 0

def z122 (vx2_1 : Int) (vn2_1 : Int) : St := Mem.st ⟨[], []⟩ (tl [(0, .v (.one (.d (.int .u64 vx2_1)))), (2, .v (.one (.d (.int .i64 vn2_1))))]) 0

theorem z126 (vx2_1 : Int) (vn2_1 : Int) {r} (hF : z121 vx2_1 vn2_1 = some r) : Awp prog 0 25 (cL (cR (cR (cR (cB f138))))) (Out 0 z125 (z123 vx2_1 vn2_1) r) (z122 vx2_1 vn2_1) := by
  unfold z121 at hF
  refine awp_seq ?_
  refine awp_region ?_
  refine aR 2 ?_
  refine aE ?_
  refine cE hF (fun h5 hF => ?_) fun h5 hF => ?_
  · refine awp_true (by kernel_rfl) h5 ?_
    refine awp_seq ?_
    refine awp_region ?_
    refine aR 3 ?_
    refine aE ?_
    refine awp_region ?_
    refine aR 3 ?_
    refine aE ?_
    exact oO hF [] [] rfl
  · refine awp_false (by kernel_rfl) h5 ?_
    refine awp_skip ?_
    exact oO hF [] [] rfl

def z106 (qx : Int) (r : Int) : TV × Mem := (.v (.one (.d (.int .i64 r))), ⟨[], []⟩)

theorem z107 {qx : Int} {r} (hF : z104 qx = some r) : Holds prog 138 [.v (.one (.d (.int .u64 qx)))] ⟨[], []⟩ (Is (z106 qx r)) := by
  unfold z104 at hF
  refine holds_of_awp hΓ (fn := f138) (c := cB f138) (A := 0) (nx := 0) (by kernel_rfl) (by kernel_rfl) (by kernel_rfl) (by kernel_rfl) (by kernel_rfl) (by kernel_rfl) (lowc_of (by kernel_rfl)) ?_
  show Awp prog 0 25 (cB f138) _ _
  refine awp_seq ?_
  refine awp_region ?_
  refine aR 1 ?_
  refine aE ?_
  refine awp_seq ?_
  refine awp_to (st' := z109 qx) (oT [] []) ?_
  refine bE hF fun x h2 hF => ?_
  obtain ⟨vx1, vn1⟩ := x
  refine awp_sub (z112 qx h2) ?_
  refine awp_seq ?_
  refine awp_to (st' := z114 vx1 vn1) (oT [] []) ?_
  refine bE hF fun x h4 hF => ?_
  obtain ⟨vx2_1, vn2_1⟩ := x
  refine awp_sub (z120 vx1 vn1 h4) ?_
  refine awp_seq ?_
  refine awp_to (st' := z122 vx2_1 vn2_1) (oT [] []) ?_
  refine bE hF fun x h6 hF => ?_
  obtain ⟨vx3_1, vn3_1⟩ := x
  refine awp_sub (z126 vx2_1 vn2_1 h6) ?_
  refine awp_seq ?_
  refine bE hF fun vc h7 hF => ?_
  refine awp_region ?_
  refine aR 3 ?_
  refine aX (x_idxS h7) ?_
  refine aR 3 ?_
  refine aE ?_
  refine awp_ret ?_
  exact oF hF [] []

/-! ### math/bits.Len -/
def z127 (qx : Int) (r : Int) : TV × Mem := (.v (.one (.d (.int .i64 r))), ⟨[], []⟩)

theorem z128 {qx : Int} {r} (hF : bits_Len qx = some r) : Holds prog 108 [.v (.one (.d (.int .u64 qx)))] ⟨[], []⟩ (Is (z127 qx r)) := by
  unfold bits_Len at hF
  refine holds_of_awp hΓ (fn := f108) (c := cB f108) (A := 0) (nx := 0) (by kernel_rfl) (by kernel_rfl) (by kernel_rfl) (by kernel_rfl) (by kernel_rfl) (by kernel_rfl) (lowc_of (by kernel_rfl)) ?_
  show Awp prog 0 8 (cB f108) _ _
  refine awp_seq ?_
  refine awp_region ?_
  refine aR 1 ?_
  refine aE ?_
  refine awp_seq ?_
  refine awp_false (by kernel_rfl) rfl ?_
  refine awp_skip ?_
  refine awp_seq ?_
  refine bE hF fun vr h1 hF => ?_
  refine awp_region ?_
  refine aR 1 ?_
  refine aC (z107 h1) [] [] [] ?_
  refine aR 1 ?_
  refine aE ?_
  refine awp_ret ?_
  exact oF hF [] []

/-! ### cmp.isNaN[string] -/
def z165 (qx : List UInt8) (r : Unit) : TV × Mem := (.v (.one (.d (.bool (!decide (qx = qx))))), ⟨[], []⟩)

theorem z166 {qx : List UInt8} {r} (hF : z164 qx = some r) : Holds prog 79 [.v (.one (.d (.str qx)))] ⟨[], []⟩ (Is (z165 qx r)) := by
  unfold z164 at hF
  refine holds_of_awp hΓ (fn := f79) (c := cB f79) (A := 0) (nx := 0) (by kernel_rfl) (by kernel_rfl) (by kernel_rfl) (by kernel_rfl) (by kernel_rfl) (by kernel_rfl) (lowc_of (by kernel_rfl)) ?_
  show Awp prog 0 6 (cB f79) _ _
  refine awp_seq ?_
  refine awp_region ?_
  refine aR 1 ?_
  refine aE ?_
  refine awp_seq ?_
  refine awp_region ?_
  refine aR 4 ?_
  refine aE ?_
  refine awp_ret ?_
  exact oF hF [] []

/-! ### cmp.Less[string] -/
def z151 : Bool → AEx
  | _ => .normal

def z150 (qx : List UInt8) (qy : List UInt8) : Bool → St
  | vx => Mem.st ⟨[], []⟩ (tl [(4, .v (.one (.d (.bool vx))))]) 0

def z149 (qx : List UInt8) (qy : List UInt8) : St := Mem.st ⟨[], []⟩ (tl [(0, .v (.one (.d (.str qx)))), (1, .v (.one (.d (.str qy))))]) 0

theorem z152 (qx : List UInt8) (qy : List UInt8) {r} (hF : z148 qx qy = some r) : Awp prog 0 17 (cL (cR (cB f41))) (Out 0 z151 (z150 qx qy) r) (z149 qx qy) := by
  unfold z148 at hF
  refine bE hF fun _ h1 hF => ?_
  refine cE hF (fun h2 hF => ?_) fun h2 hF => ?_
  · refine bE hF fun _ h3 hF => ?_
    refine cE hF (fun h4 hF => ?_) fun h4 hF => ?_
    · refine awp_region ?_
      refine aR 1 ?_
      refine aCb (z166 h1) [] [] [] h2 ?_
      refine aR 2 ?_
      refine aC (z166 h3) [] [] [] ?_
      refine aB h4 ?_
      refine aR 7 ?_
      refine aE ?_
      exact oO hF [] [] rfl
    · refine awp_region ?_
      refine aR 1 ?_
      refine aCb (z166 h1) [] [] [] h2 ?_
      refine aR 2 ?_
      refine aC (z166 h3) [] [] [] ?_
      refine aB h4 ?_
      refine aR 7 ?_
      refine aE ?_
      exact oO hF [] [] rfl
  · refine awp_region ?_
    refine aR 1 ?_
    refine aCb (z166 h1) [] [] [] h2 ?_
    refine aR 11 ?_
    refine aE ?_
    exact oO hF [] [] rfl

def z146 (qx : List UInt8) (qy : List UInt8) (r : Bool) : TV × Mem := (.v (.one (.d (.bool r))), ⟨[], []⟩)

theorem z147 {qx : List UInt8} {qy : List UInt8} {r} (hF : z145 qx qy = some r) : Holds prog 41 [.v (.one (.d (.str qx))), .v (.one (.d (.str qy)))] ⟨[], []⟩ (Is (z146 qx qy r)) := by
  unfold z145 at hF
  refine holds_of_awp hΓ (fn := f41) (c := cB f41) (A := 0) (nx := 0) (by kernel_rfl) (by kernel_rfl) (by kernel_rfl) (by kernel_rfl) (by kernel_rfl) (by kernel_rfl) (lowc_of (by kernel_rfl)) ?_
  show Awp prog 0 17 (cB f41) _ _
  refine awp_seq ?_
  refine awp_region ?_
  refine aR 1 ?_
  refine aE ?_
  refine awp_seq ?_
  refine awp_to (st' := z149 qx qy) (oT [] []) ?_
  refine bE hF fun vx1 h5 hF => ?_
  refine awp_sub (z152 qx qy h5) ?_
  refine awp_ret ?_
  exact oF hF [] []

/-! ### slices.insertionSortOrdered[string] -/
def z801 : Bool → AEx
  | _ => .normal

def z800 (qa : Int) (qb : Int) (vi : Int) (vl3 : List (List UInt8)) (vj1 : Int) : Bool → St
  | vx4 => Mem.st ⟨[(0, ⟨9, 1, List.map encS vl3⟩)], []⟩ (tl [(0, .v (.one (.own 0 none))), (1, .v (.one (.d (.int .i64 qa)))), (2, .v (.one (.d (.int .i64 qb)))), (6, .v (.one (.d (.int .i64 vi)))), (7, .v (.one (.d (.int .i64 vj1)))), (30, .v (.one (.d (.bool vx4))))]) 1

def z799 (qa : Int) (qb : Int) (vi : Int) (vl3 : List (List UInt8)) (vj1 : Int) : St := Mem.st ⟨[(0, ⟨9, 1, List.map encS vl3⟩)], []⟩ (tl [(0, .v (.one (.own 0 none))), (1, .v (.one (.d (.int .i64 qa)))), (2, .v (.one (.d (.int .i64 qb)))), (6, .v (.one (.d (.int .i64 vi)))), (7, .v (.one (.d (.int .i64 vj1))))]) 1

theorem z802 (qa : Int) (qb : Int) (vi : Int) (vl3 : List (List UInt8)) (vj1 : Int) {r} (hF : z798 qa vl3 vj1 = some r) : Awp prog 1 49 (cL (cL (cL (cL (cR (cL (cL (cR (cL (cL (cR (cB f151)))))))))))) (Out 1 z801 (z800 qa qb vi vl3 vj1) r) (z799 qa qb vi vl3 vj1) := by
  unfold z798 at hF
  refine cE hF (fun h2 hF => ?_) fun h2 hF => ?_
  · refine bE hF fun vy15 h3 hF => ?_
    refine bE hF fun vy16 h4 hF => ?_
    refine bE hF fun vr3 h5 hF => ?_
    refine aD ?_
    refine dR 2 ?_
    refine dB h2 ?_
    refine dR 3 ?_
    refine dX (x_idxO encS 0 h3) ?_
    refine dX (x_ldE encS h3) ?_
    refine dR 3 ?_
    refine dX (x_idxO encS 0 h4) ?_
    refine dX (x_ldE encS h4) ?_
    refine dC (z147 h5) [] [] [] ?_
    refine dR 1 ?_
    refine dE ?_
    exact oO hF [] [] rfl
  · refine aD ?_
    refine dR 2 ?_
    refine dB h2 ?_
    refine dR 12 ?_
    refine dE ?_
    exact oO hF [] [] rfl

def z796 : (List (List UInt8)) → AEx
  | _ => .exit 2

def z795 (qa : Int) (qb : Int) (vi : Int) : (List (List UInt8)) → St
  | vl4 => Mem.st ⟨[(0, ⟨9, 1, List.map encS vl4⟩)], []⟩ (tl [(0, .v (.one (.own 0 none))), (1, .v (.one (.d (.int .i64 qa)))), (2, .v (.one (.d (.int .i64 qb)))), (6, .v (.one (.d (.int .i64 vi))))]) 1

def z794 (qa : Int) (qb : Int) (vi : Int) : (List (List UInt8)) × Int → St
  | (vl3, vj1) => Mem.st ⟨[(0, ⟨9, 1, List.map encS vl3⟩)], []⟩ (tl [(0, .v (.one (.own 0 none))), (1, .v (.one (.d (.int .i64 qa)))), (2, .v (.one (.d (.int .i64 qb)))), (6, .v (.one (.d (.int .i64 vi)))), (7, .v (.one (.d (.int .i64 vj1))))]) 1

theorem z797 (qa : Int) (qb : Int) (vi : Int) (s : (List (List UInt8)) × Int) (r : ((List (List UInt8)) × Int) ⊕ ((List (List UInt8)))) (hF : z793 qa s = some r) : Awp prog 1 49 (cL (cL (cR (cL (cL (cR (cL (cL (cR (cB f151)))))))))) (Out 1 (kk z796) (SS (z794 qa qb vi) (z795 qa qb vi)) r) (z794 qa qb vi s) := by
  obtain ⟨vl3, vj1⟩ := s
  unfold z793 at hF
  refine awp_seq ?_
  refine awp_seq ?_
  refine awp_to (st' := z799 qa qb vi vl3 vj1) (oT [] []) ?_
  refine bE hF fun vx4_1 h6 hF => ?_
  refine awp_sub (z802 qa qb vi vl3 vj1 h6) ?_
  refine cE hF (fun h7 hF => ?_) fun h7 hF => ?_
  · refine awp_true (by kernel_rfl) h7 ?_
    refine awp_skip ?_
    refine awp_seq ?_
    refine awp_block ?_
    refine bE hF fun vy17 h8 hF => ?_
    refine bE hF fun vy18 h9 hF => ?_
    refine bE hF fun vy19 h10 hF => ?_
    refine aDw [0] ?_
    refine dR 8 ?_
    refine dI encS 0 h8 rfl ?_
    refine dX (x_ldE encS h8) ?_
    refine dR 2 ?_
    refine dI encS 0 h9 rfl ?_
    refine dX (x_ldE encS h9) ?_
    refine dI encS 0 h9 rfl ?_
    refine dW encS vy17 h9 rfl ?_
    refine dI encS 0 h10 rfl ?_
    refine dW encS vy18 h10 rfl ?_
    refine dE ?_
    refine awp_region ?_
    refine aR 3 ?_
    refine aE ?_
    exact oO hF [] [] rfl
  · refine awp_false (by kernel_rfl) h7 ?_
    refine awp_exit ?_
    exact oO hF [] [] rfl

def z791 : (List (List UInt8)) → AEx
  | _ => .exit 0

def z790 (qa : Int) (qb : Int) : (List (List UInt8)) → St
  | vl5 => Mem.st ⟨[(0, ⟨9, 1, List.map encS vl5⟩)], []⟩ (tl []) 1

def z789 (qa : Int) (qb : Int) : (List (List UInt8)) × Int → St
  | (vl, vi) => Mem.st ⟨[(0, ⟨9, 1, List.map encS vl⟩)], []⟩ (tl [(0, .v (.one (.own 0 none))), (1, .v (.one (.d (.int .i64 qa)))), (2, .v (.one (.d (.int .i64 qb)))), (6, .v (.one (.d (.int .i64 vi))))]) 1

theorem z792 (qa : Int) (qb : Int) (s : (List (List UInt8)) × Int) (r : ((List (List UInt8)) × Int) ⊕ ((List (List UInt8)))) (hF : z788 qa qb s = some r) : Awp prog 1 49 (cL (cL (cR (cB f151)))) (Out 1 (kk z791) (SS (z789 qa qb) (z790 qa qb)) r) (z789 qa qb s) := by
  obtain ⟨vl, vi⟩ := s
  unfold z788 at hF
  refine awp_seq ?_
  refine awp_seq ?_
  refine awp_region ?_
  refine aR 3 ?_
  refine aE ?_
  refine cE hF (fun h1 hF => ?_) fun h1 hF => ?_
  · refine awp_true (by kernel_rfl) h1 ?_
    refine awp_skip ?_
    refine awp_seq ?_
    refine awp_block ?_
    refine awp_seq ?_
    refine awp_region ?_
    refine aR 2 ?_
    refine aE ?_
    refine awp_block ?_
    refine awp_to (st' := z794 qa qb vi (vl, vi)) (oT [] []) ?_
    refine bE hF fun vl4_1 h11 hF => ?_
    refine awp_sub (awp_loop' (z794 qa qb vi) z796 (z795 qa qb vi) (by intro x; exact fun h => nomatch h) h11 (z797 qa qb vi)) ?_
    refine awp_region ?_
    refine aR 3 ?_
    refine aE ?_
    exact oO hF [] [] rfl
  · refine awp_false (by kernel_rfl) h1 ?_
    refine awp_exit ?_
    exact oO hF [] [] rfl

def z786 (qdata : List (List UInt8)) (qa : Int) (qb : Int) (r : (List (List UInt8))) : TV × Mem := (.tup [], ⟨[(0, ⟨9, 1, List.map encS r⟩)], []⟩)

theorem z787 {qdata : List (List UInt8)} {qa : Int} {qb : Int} {r} (hF : z785 qdata qa qb = some r) : Holds prog 151 [.v (.one (.own 0 none)), .v (.one (.d (.int .i64 qa))), .v (.one (.d (.int .i64 qb)))] ⟨[(0, ⟨9, 1, List.map encS qdata⟩)], []⟩ (Is (z786 qdata qa qb r)) := by
  unfold z785 at hF
  refine holds_of_awp hΓ (fn := f151) (c := cB f151) (A := 1) (nx := 1) (by kernel_rfl) (by kernel_rfl) (by kernel_rfl) (by kernel_rfl) (by kernel_rfl) (by kernel_rfl) (lowc_of (by kernel_rfl)) ?_
  show Awp prog 1 49 (cB f151) _ _
  refine awp_seq ?_
  refine awp_region ?_
  refine aR 3 ?_
  refine aE ?_
  refine awp_block ?_
  refine awp_to (st' := z789 qa qb (qdata, IntKind.wrap .i64 (qa + 1))) (oT [] []) ?_
  refine bE hF fun vl5_1 h12 hF => ?_
  refine awp_sub (awp_loop' (z789 qa qb) z791 (z790 qa qb) (by intro x; exact fun h => nomatch h) h12 (z792 qa qb)) ?_
  exact oF hF [] []

/-! ### slices.pdqsortOrdered[string] -/
def z817 : (List (List UInt8)) → AEx
  | _ => .ret

def z816 (qx : List (List UInt8)) (qx1 : Int) (qx2 : Int) (qx3 : Int) : (List (List UInt8)) → St
  | vl => Mem.st ⟨[(0, ⟨9, 1, List.map encS vl⟩)], []⟩ (tl []) 1

def z815 (qx : List (List UInt8)) (qx1 : Int) (qx2 : Int) (qx3 : Int) : Unit → St
  | _ => Mem.st ⟨[(0, ⟨9, 1, List.map encS qx⟩)], []⟩ (tl [(0, .v (.one (.own 0 none))), (1, .v (.one (.d (.int .i64 qx1)))), (2, .v (.one (.d (.int .i64 qx2)))), (3, .v (.one (.d (.int .i64 qx3)))), (8, .v (.one (.d (.bool true)))), (9, .v (.one (.d (.bool true))))]) 1

theorem z818 (qx : List (List UInt8)) (qx1 : Int) (qx2 : Int) (qx3 : Int) (s : Unit) (r : (Unit) ⊕ ((List (List UInt8)))) (hF : z814 qx qx1 qx2 qx3 s = some r) : Awp prog 1 134 (cL (cL (cR (cR (cB f127))))) (Out 1 (kk z817) (SS (z815 qx qx1 qx2 qx3) (z816 qx qx1 qx2 qx3)) r) (z815 qx qx1 qx2 qx3 s) := by
  unfold z814 at hF
  refine awp_block ?_
  refine awp_seq ?_
  refine awp_region ?_
  refine aR 4 ?_
  refine aE ?_
  refine awp_seq ?_
  refine awp_seq ?_
  refine awp_region ?_
  refine aR 2 ?_
  refine aE ?_
  refine cE hF (fun h1 hF => ?_) fun h1 hF => ?_
  · refine awp_true (by kernel_rfl) h1 ?_
    refine awp_seq ?_
    refine bE hF fun vl6_1 h2 hF => ?_
    refine gE hF fun h3 hF => ?_
    refine awp_region ?_
    refine aR 3 ?_
    refine aCp (z787 h2) ⟨⟨rfl, rfl, pin1 h3⟩, trivial⟩ [] [] [] ?_
    refine aE ?_
    refine awp_ret ?_
    exact oO hF [] [] rfl
  · refine awp_false (by kernel_rfl) h1 ?_
    refine awp_skip ?_
    refine awp_seq ?_
    refine awp_seq ?_
    refine awp_region ?_
    refine aR 2 ?_
    refine aE ?_
    refine cE hF (fun h4 hF => ?_) fun h4 hF => ?_
    · refine awp_true (by kernel_rfl) h4 ?_
      refine awp_seq ?_
      exact nE hF
    · refine awp_false (by kernel_rfl) h4 ?_
      refine awp_skip ?_
      refine awp_seq ?_
      refine awp_seq ?_
      refine awp_region ?_
      refine aR 2 ?_
      refine aE ?_
      refine awp_false (by kernel_rfl) rfl ?_
      refine awp_skip ?_
      refine awp_seq ?_
      exact nE hF

def z812 (qx : List (List UInt8)) (qx1 : Int) (qx2 : Int) (qx3 : Int) (r : (List (List UInt8))) : TV × Mem := (.tup [], ⟨[(0, ⟨9, 1, List.map encS r⟩)], []⟩)

theorem z813 {qx : List (List UInt8)} {qx1 : Int} {qx2 : Int} {qx3 : Int} {r} (hF : z811 qx qx1 qx2 qx3 = some r) : Holds prog 127 [.v (.one (.own 0 none)), .v (.one (.d (.int .i64 qx1))), .v (.one (.d (.int .i64 qx2))), .v (.one (.d (.int .i64 qx3)))] ⟨[(0, ⟨9, 1, List.map encS qx⟩)], []⟩ (Is (z812 qx qx1 qx2 qx3 r)) := by
  unfold z811 at hF
  refine holds_of_awp hΓ (fn := f127) (c := cB f127) (A := 1) (nx := 1) (by kernel_rfl) (by kernel_rfl) (by kernel_rfl) (by kernel_rfl) (by kernel_rfl) (by kernel_rfl) (lowc_of (by kernel_rfl)) ?_
  show Awp prog 1 134 (cB f127) _ _
  refine awp_seq ?_
  refine awp_region ?_
  refine aR 1 ?_
  refine aE ?_
  refine awp_seq ?_
  refine awp_region ?_
  refine aR 1 ?_
  refine aE ?_
  refine awp_block ?_
  refine awp_to (st' := z815 qx qx1 qx2 qx3 ()) (oT [] []) ?_
  refine bE hF fun vl1 h7 hF => ?_
  refine awp_sub (awp_loop' (z815 qx qx1 qx2 qx3) z817 (z816 qx qx1 qx2 qx3) (by intro x; exact fun h => nomatch h) h7 (z818 qx qx1 qx2 qx3)) ?_
  exact oF hF [] []

/-! ### slices.Sort[[]string,string] -/
def z765 (qx : List (List UInt8)) (r : (List (List UInt8))) : TV × Mem := (.tup [], ⟨[(0, ⟨9, 1, List.map encS r⟩)], []⟩)

theorem z766 {qx : List (List UInt8)} {r} (hF : z764 qx = some r) : Holds prog 102 [.v (.one (.own 0 none))] ⟨[(0, ⟨9, 1, List.map encS qx⟩)], []⟩ (Is (z765 qx r)) := by
  unfold z764 at hF
  refine holds_of_awp hΓ (fn := f102) (c := cB f102) (A := 1) (nx := 1) (by kernel_rfl) (by kernel_rfl) (by kernel_rfl) (by kernel_rfl) (by kernel_rfl) (by kernel_rfl) (lowc_of (by kernel_rfl)) ?_
  show Awp prog 1 11 (cB f102) _ _
  refine awp_seq ?_
  refine awp_region ?_
  refine aR 1 ?_
  refine aL encS qx ?_
  refine aR 1 ?_
  refine aE ?_
  refine bE hF fun vr1 h1 hF => ?_
  refine bE hF fun vl2 h2 hF => ?_
  refine gE hF fun h3 hF => ?_
  refine awp_region ?_
  refine aR 4 ?_
  refine aC (z128 h1) [] [] [] ?_
  refine aCp (z813 h2) ⟨⟨rfl, rfl, pin1 h3⟩, trivial⟩ [] [] [] ?_
  refine aE ?_
  exact oF hF [] []

/-! ### slices.Compact[[]string,string] -/
def z699 : ((List (List UInt8)) × Int) → AEx
  | _ => .normal

def z698 (qs : List (List UInt8)) (vk : Int) (vl4 : List (List UInt8)) (vk6 : Int) (vk2_1 : Int) : ((List (List UInt8)) × Int) → St
  | (vl6, vk8) => Mem.st ⟨[(0, ⟨9, 1, List.map encS vl6⟩)], []⟩ (tl [(0, .v (.one (.own 0 none))), (3, .v (.one (.d (.int .i64 vk8)))), (4, .v (.one (.view 0 vk.toNat ((qs.length : Int).toNat - vk.toNat)))), (5, .v (.one (.d (.int .i64 vk2_1))))]) 1

def z697 (qs : List (List UInt8)) (vk : Int) (vl4 : List (List UInt8)) (vk6 : Int) (vk2_1 : Int) : St := Mem.st ⟨[(0, ⟨9, 1, List.map encS vl4⟩)], []⟩ (tl [(0, .v (.one (.own 0 none))), (3, .v (.one (.d (.int .i64 vk6)))), (4, .v (.one (.view 0 vk.toNat ((qs.length : Int).toNat - vk.toNat)))), (5, .v (.one (.d (.int .i64 vk2_1))))]) 1

theorem z700 (qs : List (List UInt8)) (vk : Int) (vl4 : List (List UInt8)) (vk6 : Int) (vk2_1 : Int) {r} (hF : z696 qs vk vl4 vk6 vk2_1 = some r) : Awp prog 1 61 (cL (cR (cL (cL (cR (cL (cR (cL (cR (cL (cL (cR (cL (cL (cR (cL (cR (cR (cB f103))))))))))))))))))) (Out 1 z699 (z698 qs vk vl4 vk6 vk2_1) r) (z697 qs vk vl4 vk6 vk2_1) := by
  unfold z696 at hF
  refine awp_block ?_
  refine awp_seq ?_
  refine gE hF fun h8 hF => ?_
  refine bE hF fun vy13 h9 hF => ?_
  refine gE hF fun h10 hF => ?_
  refine bE hF fun vy14 h11 hF => ?_
  refine aD ?_
  refine dR 2 ?_
  refine dX (x_idxV encS 0 h8 h9) ?_
  refine dX (x_ldE encS h9) ?_
  refine dR 3 ?_
  refine dX (x_idxV encS 0 h10 h11) ?_
  refine dX (x_ldE encS h11) ?_
  refine dR 1 ?_
  refine dE ?_
  refine cE hF (fun h12 hF => ?_) fun h12 hF => ?_
  · refine awp_true (by kernel_rfl) h12 ?_
    refine awp_seq ?_
    refine bE hF fun vy15 h13 hF => ?_
    refine awp_region ?_
    refine aR 4 ?_
    refine aX (x_idxV encS 0 h8 h9) ?_
    refine aX (x_ldE encS h9) ?_
    refine aX (x_idxO encS 0 h13) ?_
    refine aX (x_stE encS vy13 h13) ?_
    refine aE ?_
    refine awp_region ?_
    refine aR 3 ?_
    refine aE ?_
    exact oO hF [] [] rfl
  · refine awp_false (by kernel_rfl) h12 ?_
    refine awp_skip ?_
    exact oO hF [] [] rfl

def z694 : ((List (List UInt8)) × Int) → AEx
  | _ => .exit 2

def z693 (qs : List (List UInt8)) (vk : Int) : ((List (List UInt8)) × Int) → St
  | (vl7, vk9) => Mem.st ⟨[(0, ⟨9, 1, List.map encS vl7⟩)], []⟩ (tl [(0, .v (.one (.own 0 none))), (3, .v (.one (.d (.int .i64 vk9))))]) 1

def z692 (qs : List (List UInt8)) (vk : Int) : (List (List UInt8)) × Int × Int → St
  | (vl4, vk6, vk2_1) => Mem.st ⟨[(0, ⟨9, 1, List.map encS vl4⟩)], []⟩ (tl [(0, .v (.one (.own 0 none))), (3, .v (.one (.d (.int .i64 vk6)))), (4, .v (.one (.view 0 vk.toNat ((qs.length : Int).toNat - vk.toNat)))), (5, .v (.one (.d (.int .i64 vk2_1))))]) 1

theorem z695 (qs : List (List UInt8)) (vk : Int) (s : (List (List UInt8)) × Int × Int) (r : ((List (List UInt8)) × Int × Int) ⊕ (((List (List UInt8)) × Int))) (hF : z691 qs vk s = some r) : Awp prog 1 61 (cL (cL (cR (cL (cR (cL (cR (cL (cL (cR (cL (cL (cR (cL (cR (cR (cB f103))))))))))))))))) (Out 1 (kk z694) (SS (z692 qs vk) (z693 qs vk)) r) (z692 qs vk s) := by
  obtain ⟨vl4, vk6, vk2_1⟩ := s
  unfold z691 at hF
  refine awp_seq ?_
  refine awp_seq ?_
  refine awp_region ?_
  refine aR 4 ?_
  refine aE ?_
  refine cE hF (fun h7 hF => ?_) fun h7 hF => ?_
  · refine awp_true (by kernel_rfl) h7 ?_
    refine awp_skip ?_
    refine awp_seq ?_
    refine awp_to (st' := z697 qs vk vl4 vk6 vk2_1) (oT [] []) ?_
    refine bE hF fun x h14 hF => ?_
    obtain ⟨vl6_1, vk8_1⟩ := x
    refine awp_sub (z700 qs vk vl4 vk6 vk2_1 h14) ?_
    refine awp_region ?_
    refine aR 3 ?_
    refine aE ?_
    exact oO hF [] [] rfl
  · refine awp_false (by kernel_rfl) h7 ?_
    refine awp_exit ?_
    exact oO hF [] [] rfl

def z689 : Unit ⊕ (List (List UInt8)) → AEx
  | .inl _ => .exit 0
  | .inr _ => .ret

def z688 (qs : List (List UInt8)) : Unit ⊕ (List (List UInt8)) → St
  | .inl _ => Mem.st ⟨[(0, ⟨9, 1, List.map encS qs⟩)], []⟩ (tl [(0, .v (.one (.own 0 none)))]) 1
  | .inr vx => Mem.st ⟨[(1, ⟨9, 1, List.map encS vx⟩)], []⟩ (tl [(2, .v (.one (.own 1 none)))]) 2

def z687 (qs : List (List UInt8)) : Int → St
  | vk => Mem.st ⟨[(0, ⟨9, 1, List.map encS qs⟩)], []⟩ (tl [(0, .v (.one (.own 0 none))), (3, .v (.one (.d (.int .i64 vk))))]) 1

theorem z690 (qs : List (List UInt8)) (vk : Int) (r : (Int) ⊕ (Unit ⊕ (List (List UInt8)))) (hF : z686 qs vk = some r) : Awp prog 1 61 (cL (cL (cR (cL (cR (cR (cB f103))))))) (Out 1 (kk z689) (SS (z687 qs) (z688 qs)) r) (z687 qs vk) := by
  unfold z686 at hF
  refine awp_seq ?_
  refine awp_seq ?_
  refine awp_region ?_
  refine aR 2 ?_
  refine aL encS qs ?_
  refine aR 1 ?_
  refine aE ?_
  refine cE hF (fun h2 hF => ?_) fun h2 hF => ?_
  · refine awp_true (by kernel_rfl) h2 ?_
    refine awp_skip ?_
    refine awp_seq ?_
    refine awp_block ?_
    refine awp_seq ?_
    refine bE hF fun vy8 h3 hF => ?_
    refine bE hF fun vy9 h4 hF => ?_
    refine aD ?_
    refine dR 2 ?_
    refine dX (x_idxO encS 0 h3) ?_
    refine dX (x_ldE encS h3) ?_
    refine dR 3 ?_
    refine dX (x_idxO encS 0 h4) ?_
    refine dX (x_ldE encS h4) ?_
    refine dR 1 ?_
    refine dE ?_
    refine cE hF (fun h5 hF => ?_) fun h5 hF => ?_
    · refine awp_true (by kernel_rfl) h5 ?_
      refine awp_seq ?_
      refine gE hF fun h6 hF => ?_
      refine awp_region ?_
      refine aR 2 ?_
      refine aX (x_viewN encS 0 h6) ?_
      refine aR 1 ?_
      refine aE ?_
      refine awp_seq ?_
      refine awp_seq ?_
      refine awp_region ?_
      refine aR 1 ?_
      refine aE ?_
      refine awp_block ?_
      refine awp_to (st' := z692 qs vk (qs, vk, 1)) (oT [] []) ?_
      refine bE hF fun x h15 hF => ?_
      obtain ⟨vl7_1, vk9_1⟩ := x
      refine awp_sub (awp_loop' (z692 qs vk) z694 (z693 qs vk) (by intro x; exact fun h => nomatch h) h15 (z695 qs vk)) ?_
      refine awp_seq ?_
      refine gE hF fun h16 hF => ?_
      refine awp_region ?_
      refine aR 2 ?_
      refine aX (x_viewN encS 0 h16) ?_
      refine aCl encS 0 (xs := vl7_1) (y := ([] : List UInt8)) (lo := vk9_1) (hi := (vl7_1.length : Int)) rfl ?_
      refine aE ?_
      refine awp_seq ?_
      refine gE hF fun h17 hF => ?_
      refine awp_region ?_
      refine aR 2 ?_
      refine aT encS 0 h17 rfl ?_
      refine aR 1 ?_
      refine aE ?_
      refine awp_ret ?_
      exact oO hF [(1, 6001)] [] rfl
    · refine awp_false (by kernel_rfl) h5 ?_
      refine awp_skip ?_
      refine awp_region ?_
      refine aR 3 ?_
      refine aE ?_
      exact oO hF [] [] rfl
  · refine awp_false (by kernel_rfl) h2 ?_
    refine awp_exit ?_
    exact oO hF [] [] rfl

def z684 (qs : List (List UInt8)) (r : (List (List UInt8))) : TV × Mem := (.v (.one (.own 1 none)), ⟨[(1, ⟨9, 1, List.map encS r⟩)], []⟩)

theorem z685 {qs : List (List UInt8)} {r} (hF : z683 qs = some r) : Holds prog 103 [.v (.one (.own 0 none))] ⟨[(0, ⟨9, 1, List.map encS qs⟩)], []⟩ (Is (z684 qs r)) := by
  unfold z683 at hF
  refine holds_of_awp hΓ (fn := f103) (c := cB f103) (A := 1) (nx := 1) (by kernel_rfl) (by kernel_rfl) (by kernel_rfl) (by kernel_rfl) (by kernel_rfl) (by kernel_rfl) (lowc_of (by kernel_rfl)) ?_
  show Awp prog 1 61 (cB f103) _ _
  refine awp_seq ?_
  refine awp_region ?_
  refine aR 1 ?_
  refine aE ?_
  refine awp_seq ?_
  refine awp_seq ?_
  refine awp_region ?_
  refine aR 1 ?_
  refine aL encS qs ?_
  refine aR 1 ?_
  refine aE ?_
  refine cE hF (fun h1 hF => ?_) fun h1 hF => ?_
  · refine awp_true (by kernel_rfl) h1 ?_
    refine awp_seq ?_
    refine awp_region ?_
    refine aR 2 ?_
    refine aE ?_
    refine awp_ret ?_
    exact oF hF [(1, 0)] []
  · refine awp_false (by kernel_rfl) h1 ?_
    refine awp_skip ?_
    refine awp_seq ?_
    refine awp_seq ?_
    refine awp_region ?_
    refine aR 1 ?_
    refine aE ?_
    refine awp_block ?_
    refine awp_to (st' := z687 qs 1) (oT [] []) ?_
    refine bE hF fun x h18 hF => ?_
    rcases x with _ | vx1
    · refine awp_sub (awp_loop' (z687 qs) z689 (z688 qs) (by intro x; rcases x with x | x <;> exact fun h => nomatch h) h18 (z690 qs)) ?_
      refine awp_seq ?_
      refine awp_region ?_
      refine aR 2 ?_
      refine aE ?_
      refine awp_ret ?_
      exact oF hF [(1, 0)] []
    · refine awp_sub (awp_loop' (z687 qs) z689 (z688 qs) (by intro x; rcases x with x | x <;> exact fun h => nomatch h) h18 (z690 qs)) ?_
      exact oF hF [] []

/-! ### beaconfleet/twin.names -/
def z1232 : (List (List UInt8)) → AEx
  | _ => .exit 2

def z1231 (qlists : List (List api_Prop)) (vx : Int) (vy3 : List api_Prop) : (List (List UInt8)) → St
  | vout4 => Mem.st ⟨[(1, ⟨9, 1, List.map encS vout4⟩)], []⟩ (tl [(3, .v (.one (.own 1 none))), (8, .v (.one (.d (.lst (List.map (encL api_Prop.enc) qlists))))), (9, .v (.one (.d (.int .i64 (qlists.length : Int))))), (10, .v (.one (.d (.int .i64 vx))))]) 2

def z1230 (qlists : List (List api_Prop)) (vx : Int) (vy3 : List api_Prop) : (List (List UInt8)) × Int → St
  | (vout3, vx2) => Mem.st ⟨[(1, ⟨9, 1, List.map encS vout3⟩)], []⟩ (tl [(3, .v (.one (.own 1 none))), (8, .v (.one (.d (.lst (List.map (encL api_Prop.enc) qlists))))), (9, .v (.one (.d (.int .i64 (qlists.length : Int))))), (10, .v (.one (.d (.int .i64 vx)))), (14, .v (.one (.d (.lst (List.map api_Prop.enc vy3))))), (15, .v (.one (.d (.int .i64 (vy3.length : Int))))), (16, .v (.one (.d (.int .i64 vx2))))]) 2

theorem z1233 (qlists : List (List api_Prop)) (vx : Int) (vy3 : List api_Prop) (s : (List (List UInt8)) × Int) (r : ((List (List UInt8)) × Int) ⊕ ((List (List UInt8)))) (hF : z1229 vy3 s = some r) : Awp prog 1 31 (cL (cL (cR (cR (cL (cL (cR (cR (cL (cL (cR (cL (cR (cR (cB f71))))))))))))))) (Out 1 (kk z1232) (SS (z1230 qlists vx vy3) (z1231 qlists vx vy3)) r) (z1230 qlists vx vy3 s) := by
  obtain ⟨vout3, vx2⟩ := s
  unfold z1229 at hF
  refine awp_seq ?_
  refine awp_region ?_
  refine aR 1 ?_
  refine aE ?_
  refine awp_seq ?_
  refine cE hF (fun h3 hF => ?_) fun h3 hF => ?_
  · refine awp_true (by kernel_rfl) h3 ?_
    refine awp_skip ?_
    refine awp_seq ?_
    refine awp_block ?_
    refine awp_seq ?_
    refine bE hF fun vy5 h4 hF => ?_
    refine awp_region ?_
    refine aX (x_idx api_Prop.enc h4) ?_
    refine aR 3 ?_
    refine aE ?_
    refine gE hF fun h5 hF => ?_
    refine awp_region ?_
    refine aR 4 ?_
    refine aX (x_app encS 1 h5) ?_
    refine aR 1 ?_
    refine aE ?_
    refine awp_region ?_
    refine aR 2 ?_
    refine aE ?_
    exact oO hF [(1, 9002)] [] rfl
  · refine awp_false (by kernel_rfl) h3 ?_
    refine awp_exit ?_
    exact oO hF [] [] rfl

def z1227 : (List (List UInt8)) → AEx
  | _ => .exit 0

def z1226 (qlists : List (List api_Prop)) : (List (List UInt8)) → St
  | vout5 => Mem.st ⟨[(1, ⟨9, 1, List.map encS vout5⟩)], []⟩ (tl [(3, .v (.one (.own 1 none)))]) 2

def z1225 (qlists : List (List api_Prop)) : (List (List UInt8)) × Int → St
  | (vout, vx) => Mem.st ⟨[(1, ⟨9, 1, List.map encS vout⟩)], []⟩ (tl [(3, .v (.one (.own 1 none))), (8, .v (.one (.d (.lst (List.map (encL api_Prop.enc) qlists))))), (9, .v (.one (.d (.int .i64 (qlists.length : Int))))), (10, .v (.one (.d (.int .i64 vx))))]) 2

theorem z1228 (qlists : List (List api_Prop)) (s : (List (List UInt8)) × Int) (r : ((List (List UInt8)) × Int) ⊕ ((List (List UInt8)))) (hF : z1224 qlists s = some r) : Awp prog 1 31 (cL (cL (cR (cL (cR (cR (cB f71))))))) (Out 1 (kk z1227) (SS (z1225 qlists) (z1226 qlists)) r) (z1225 qlists s) := by
  obtain ⟨vout, vx⟩ := s
  unfold z1224 at hF
  refine awp_seq ?_
  refine awp_region ?_
  refine aR 1 ?_
  refine aE ?_
  refine awp_seq ?_
  refine cE hF (fun h1 hF => ?_) fun h1 hF => ?_
  · refine awp_true (by kernel_rfl) h1 ?_
    refine awp_skip ?_
    refine awp_seq ?_
    refine awp_block ?_
    refine awp_seq ?_
    refine bE hF fun vy3 h2 hF => ?_
    refine awp_region ?_
    refine aX (x_idx (encL api_Prop.enc) h2) ?_
    refine aR 2 ?_
    refine aE ?_
    refine awp_seq ?_
    refine awp_region ?_
    refine aR 1 ?_
    refine aL api_Prop.enc vy3 ?_
    refine aR 1 ?_
    refine aE ?_
    refine awp_block ?_
    refine awp_to (st' := z1230 qlists vx vy3 (vout, 0)) (oT [] []) ?_
    refine bE hF fun vout4_1 h6 hF => ?_
    refine awp_sub (awp_loop' (z1230 qlists vx vy3) z1232 (z1231 qlists vx vy3) (by intro x; exact fun h => nomatch h) h6 (z1233 qlists vx vy3)) ?_
    refine awp_region ?_
    refine aR 2 ?_
    refine aE ?_
    exact oO hF [] [] rfl
  · refine awp_false (by kernel_rfl) h1 ?_
    refine awp_exit ?_
    exact oO hF [] [] rfl

def z1222 (qlists : List (List api_Prop)) (r : (List (List UInt8))) : TV × Mem := (.v (.one (.own 1 none)), ⟨[(1, ⟨9, 1, List.map encS r⟩)], []⟩)

theorem z1223 {qlists : List (List api_Prop)} {r} (hF : z1221 qlists = some r) : Holds prog 71 [.v (.one (.own 0 none))] ⟨[(0, ⟨88, 1, List.map (encL api_Prop.enc) qlists⟩)], []⟩ (Is (z1222 qlists r)) := by
  unfold z1221 at hF
  refine holds_of_awp hΓ (fn := f71) (c := cB f71) (A := 1) (nx := 1) (by kernel_rfl) (by kernel_rfl) (by kernel_rfl) (by kernel_rfl) (by kernel_rfl) (by kernel_rfl) (lowc_of (by kernel_rfl)) ?_
  show Awp prog 1 31 (cB f71) _ _
  refine awp_seq ?_
  refine awp_region ?_
  refine aR 1 ?_
  refine aE ?_
  refine awp_to (oT (m := ⟨[], []⟩) (ts := [(0, .v (.one (.d (.lst (List.map (encL api_Prop.enc) qlists)))))]) (nx := 1) [] []) ?_
  refine awp_seq ?_
  refine awp_region ?_
  refine aR 1 ?_
  refine aE ?_
  refine awp_seq ?_
  refine awp_seq ?_
  refine awp_region ?_
  refine aR 1 ?_
  refine aL (encL api_Prop.enc) qlists ?_
  refine aR 1 ?_
  refine aE ?_
  refine awp_block ?_
  refine awp_to (st' := z1225 qlists ([], 0)) (oT [] [1]) ?_
  refine bE hF fun vout5_1 h7 hF => ?_
  refine awp_sub (awp_loop' (z1225 qlists) z1227 (z1226 qlists) (by intro x; exact fun h => nomatch h) h7 (z1228 qlists)) ?_
  refine awp_seq ?_
  refine bE hF fun vl h8 hF => ?_
  refine gE hF fun h9 hF => ?_
  refine awp_region ?_
  refine aR 1 ?_
  refine aCp (z766 h8) ⟨⟨rfl, rfl, pin1 h9⟩, trivial⟩ [(0, 1)] [] [] ?_
  refine aE ?_
  refine awp_seq ?_
  refine bE hF fun vr h10 hF => ?_
  refine awp_region ?_
  refine aR 1 ?_
  refine aC (z685 h10) [(0, 1)] [] [] ?_
  refine aR 1 ?_
  refine aE ?_
  refine awp_ret ?_
  exact oF hF [(1, 3003)] []

/-! ### slices.BinarySearchFunc[[]beaconfleet/api.Prop,beaconfleet/api.Prop,string] -/
def z678 : Unit → AEx
  | _ => .exit 0

def z677 (qtarget : List UInt8) : Unit → St
  | _ => Mem.st ⟨[], []⟩ (tl [(0, .v (.one (.nil))), (1, .v (.one (.d (.str qtarget)))), (2, .v (.one (.fn 126 []))), (8, .v (.one (.d (.int .i64 0)))), (9, .v (.one (.d (.int .i64 0))))]) 0

def z676 (qtarget : List UInt8) : Unit → St
  | _ => Mem.st ⟨[], []⟩ (tl [(0, .v (.one (.nil))), (1, .v (.one (.d (.str qtarget)))), (2, .v (.one (.fn 126 []))), (8, .v (.one (.d (.int .i64 0)))), (9, .v (.one (.d (.int .i64 0)))), (10, .v (.one (.d (.int .i64 0))))]) 0

theorem z679 (qtarget : List UInt8) (s : Unit) (r : (Unit) ⊕ (Unit)) (hF : z675  s = some r) : Awp prog 0 49 (cL (cL (cL (cR (cR (cR (cB f125))))))) (Out 0 (kk z678) (SS (z676 qtarget) (z677 qtarget)) r) (z676 qtarget s) := by
  unfold z675 at hF
  refine awp_seq ?_
  refine awp_seq ?_
  refine awp_region ?_
  refine aR 3 ?_
  refine aE ?_
  refine cE hF (fun h1 hF => ?_) fun h1 hF => ?_
  · refine awp_true (by kernel_rfl) h1 ?_
    refine awp_skip ?_
    refine awp_block ?_
    refine awp_seq ?_
    refine awp_region ?_
    refine aR 7 ?_
    refine aE ?_
    refine awp_seq ?_
    exact nE hF
  · refine awp_false (by kernel_rfl) h1 ?_
    refine awp_exit ?_
    exact oO hF [] [] rfl

def z673 (qtarget : List UInt8) (r : Unit) : TV × Mem := (.tup [.one (.d (.int .i64 0)), .one (.d (.bool false))], ⟨[], []⟩)

theorem z674 {qtarget : List UInt8} {r} (hF : z672 qtarget = some r) : Holds prog 125 [.v (.one (.nil)), .v (.one (.d (.str qtarget))), .v (.one (.fn 126 []))] ⟨[], []⟩ (Is (z673 qtarget r)) := by
  unfold z672 at hF
  refine holds_of_awp hΓ (fn := f125) (c := cB f125) (A := 0) (nx := 0) (by kernel_rfl) (by kernel_rfl) (by kernel_rfl) (by kernel_rfl) (by kernel_rfl) (by kernel_rfl) (lowc_of (by kernel_rfl)) ?_
  show Awp prog 0 49 (cB f125) _ _
  refine awp_seq ?_
  refine awp_region ?_
  refine aR 2 ?_
  refine aE ?_
  refine awp_seq ?_
  refine awp_region ?_
  refine aR 3 ?_
  refine aE ?_
  refine awp_seq ?_
  refine awp_region ?_
  refine aR 3 ?_
  refine aE ?_
  refine awp_seq ?_
  refine awp_block ?_
  refine awp_to (st' := z676 qtarget ()) (oT [] []) ?_
  refine bE hF fun _ h3 hF => ?_
  refine awp_sub (awp_loop' (z676 qtarget) z678 (z677 qtarget) (by intro x; exact fun h => nomatch h) h3 (z679 qtarget)) ?_
  refine awp_seq ?_
  refine cE hF (fun h4 hF => ?_) fun h4 hF => ?_
  · exact nE hF
  · refine awp_region ?_
    refine aR 3 ?_
    refine aB h4 ?_
    refine aR 12 ?_
    refine aE ?_
    refine awp_ret ?_
    exact oF hF [] []

/-! ### beaconfleet/twin.find -/
def z1215 (qname : List UInt8) (r : Unit) : TV × Mem := (.v (.one (.d (.int .i64 (-1)))), ⟨[], []⟩)

theorem z1216 {qname : List UInt8} {r} (hF : z1214 qname = some r) : Holds prog 101 [.v (.one (.nil)), .v (.one (.d (.str qname)))] ⟨[], []⟩ (Is (z1215 qname r)) := by
  unfold z1214 at hF
  refine holds_of_awp hΓ (fn := f101) (c := cB f101) (A := 0) (nx := 0) (by kernel_rfl) (by kernel_rfl) (by kernel_rfl) (by kernel_rfl) (by kernel_rfl) (by kernel_rfl) (lowc_of (by kernel_rfl)) ?_
  show Awp prog 0 16 (cB f101) _ _
  refine awp_seq ?_
  refine awp_region ?_
  refine aR 1 ?_
  refine aE ?_
  refine awp_seq ?_
  refine bE hF fun _ h1 hF => ?_
  refine awp_region ?_
  refine aR 2 ?_
  refine aC (z674 h1) [] [] [] ?_
  refine aR 5 ?_
  refine aE ?_
  refine awp_seq ?_
  refine awp_seq ?_
  refine awp_region ?_
  refine aR 2 ?_
  refine aE ?_
  refine awp_true (by kernel_rfl) rfl ?_
  refine awp_seq ?_
  refine awp_region ?_
  refine aR 1 ?_
  refine aE ?_
  refine awp_ret ?_
  exact oF hF [] []

/-! ### beaconfleet/twin.valueOf -/
def z1245 (qname : List UInt8) (r : Unit) : TV × Mem := (.v (.agg [.d (.int .i64 0), .d (.bool false), .d (.int .i64 0), .d (.str ([] : List UInt8))]), ⟨[], []⟩)

theorem z1246 {qname : List UInt8} {r} (hF : z1244 qname = some r) : Holds prog 72 [.v (.one (.nil)), .v (.one (.d (.str qname)))] ⟨[], []⟩ (Is (z1245 qname r)) := by
  unfold z1244 at hF
  refine holds_of_awp hΓ (fn := f72) (c := cB f72) (A := 0) (nx := 0) (by kernel_rfl) (by kernel_rfl) (by kernel_rfl) (by kernel_rfl) (by kernel_rfl) (by kernel_rfl) (lowc_of (by kernel_rfl)) ?_
  show Awp prog 0 17 (cB f72) _ _
  refine awp_seq ?_
  refine awp_region ?_
  refine aR 1 ?_
  refine aE ?_
  refine awp_seq ?_
  refine awp_seq ?_
  refine bE hF fun _ h1 hF => ?_
  refine awp_region ?_
  refine aR 2 ?_
  refine aC (z1216 h1) [] [] [] ?_
  refine aR 1 ?_
  refine aE ?_
  refine awp_seq ?_
  refine awp_region ?_
  refine aR 2 ?_
  refine aE ?_
  refine cE hF (fun h2 hF => ?_) fun h2 hF => ?_
  · refine awp_true (by kernel_rfl) h2 ?_
    refine awp_seq ?_
    exact nE hF
  · refine awp_false (by kernel_rfl) h2 ?_
    refine awp_skip ?_
    refine awp_seq ?_
    refine awp_region ?_
    refine aR 2 ?_
    refine aE ?_
    refine awp_ret ?_
    exact oF hF [] []

/-! ### beaconfleet/twin.valueOf -/
def z1243 (ql : List api_Prop) (qname : List UInt8) (r : api_Value) : TV × Mem := (.v (.agg [.d (.int .i64 r.Kind), .d (.bool r.Flag), .d (.int .i64 r.Number), .d (.str r.Words)]), ⟨[], []⟩)

theorem z1247 {ql : List api_Prop} {qname : List UInt8} {r} (hF : z1242 ql qname = some r) : Holds prog 72 [.v (.one (.d (.lst (List.map api_Prop.enc ql)))), .v (.one (.d (.str qname)))] ⟨[], []⟩ (Is (z1243 ql qname r)) := by
  unfold z1242 at hF
  refine holds_of_awp hΓ (fn := f72) (c := cB f72) (A := 0) (nx := 0) (by kernel_rfl) (by kernel_rfl) (by kernel_rfl) (by kernel_rfl) (by kernel_rfl) (by kernel_rfl) (lowc_of (by kernel_rfl)) ?_
  show Awp prog 0 17 (cB f72) _ _
  refine awp_seq ?_
  refine awp_region ?_
  refine aR 1 ?_
  refine aE ?_
  refine awp_seq ?_
  refine awp_seq ?_
  refine bE hF fun vr2 h1 hF => ?_
  refine awp_region ?_
  refine aR 2 ?_
  refine aC (z1217 h1) [] [] [] ?_
  refine aR 1 ?_
  refine aE ?_
  refine awp_seq ?_
  refine awp_region ?_
  refine aR 2 ?_
  refine aE ?_
  refine cE hF (fun h2 hF => ?_) fun h2 hF => ?_
  · refine awp_true (by kernel_rfl) h2 ?_
    refine awp_seq ?_
    refine bE hF fun vy h3 hF => ?_
    refine awp_region ?_
    refine aR 2 ?_
    refine aX (x_idx api_Prop.enc h3) ?_
    refine aR 3 ?_
    refine aE ?_
    refine awp_ret ?_
    exact oF hF [] []
  · refine awp_false (by kernel_rfl) h2 ?_
    refine awp_skip ?_
    refine awp_seq ?_
    refine awp_region ?_
    refine aR 2 ?_
    refine aE ?_
    refine awp_ret ?_
    exact oF hF [] []

/-! ### beaconfleet/twin.Differ -/
def z1195 : (List api_Change) → AEx
  | _ => .normal

def z1194 (qb : List api_Prop) (vr1_1 : List (List UInt8)) (vout : List api_Change) (vx : Int) : (List api_Change) → St
  | vout2 => Mem.st ⟨[(1, ⟨122, 9, List.map api_Change.enc vout2⟩)], []⟩ (tl [(0, .v (.one (.nil))), (1, .v (.one (.d (.lst (List.map api_Prop.enc qb))))), (7, .v (.one (.own 1 none))), (24, .v (.one (.d (.lst (List.map encS vr1_1))))), (25, .v (.one (.d (.int .i64 (vr1_1.length : Int))))), (26, .v (.one (.d (.int .i64 vx))))]) 2

def z1193 (qb : List api_Prop) (vr1_1 : List (List UInt8)) (vout : List api_Change) (vx : Int) : St := Mem.st ⟨[(1, ⟨122, 9, List.map api_Change.enc vout⟩)], []⟩ (tl [(0, .v (.one (.nil))), (1, .v (.one (.d (.lst (List.map api_Prop.enc qb))))), (7, .v (.one (.own 1 none))), (24, .v (.one (.d (.lst (List.map encS vr1_1))))), (25, .v (.one (.d (.int .i64 (vr1_1.length : Int))))), (26, .v (.one (.d (.int .i64 vx))))]) 2

theorem z1196 (qb : List api_Prop) (vr1_1 : List (List UInt8)) (vout : List api_Change) (vx : Int) {r} (hF : z1192 qb vr1_1 vout vx = some r) : Awp prog 1 48 (cL (cR (cR (cL (cL (cR (cL (cR (cR (cR (cB f39))))))))))) (Out 1 z1195 (z1194 qb vr1_1 vout vx) r) (z1193 qb vr1_1 vout vx) := by
  unfold z1192 at hF
  refine awp_block ?_
  refine awp_seq ?_
  refine bE hF fun vy1 h7 hF => ?_
  refine awp_region ?_
  refine aX (x_idx encS h7) ?_
  refine aR 2 ?_
  refine aE ?_
  refine awp_seq ?_
  refine bE hF fun _ h8 hF => ?_
  refine bE hF fun vr4 h9 hF => ?_
  refine awp_region ?_
  refine aR 2 ?_
  refine aC (z1246 h8) [] [] [] ?_
  refine aR 2 ?_
  refine aC (z1247 h9) [] [] [] ?_
  refine aR 4 ?_
  refine aE ?_
  refine awp_seq ?_
  refine awp_region ?_
  refine aR 2 ?_
  refine aS (does_eqS (op := .neq) (xs := [.int .i64 0, .bool false, .int .i64 0, .str ([] : List UInt8)]) (ys := [.int .i64 vr4.Kind, .bool vr4.Flag, .int .i64 vr4.Number, .str vr4.Words]) (b := (decide ((0 : Int) = vr4.Kind) && ((false == vr4.Flag) && (decide ((0 : Int) = vr4.Number) && (decide (([] : List UInt8) = vr4.Words) && true))))) (c := (!(decide ((0 : Int) = vr4.Kind) && ((false == vr4.Flag) && (decide ((0 : Int) = vr4.Number) && (decide (([] : List UInt8) = vr4.Words) && true)))))) rfl (.inr ⟨rfl, rfl⟩) (by kernel_rfl) (by kernel_rfl) (by kernel_rfl) (by kernel_rfl) (by kernel_rfl) (by kernel_rfl)) ?_
  refine aE ?_
  refine cE hF (fun h10 hF => ?_) fun h10 hF => ?_
  · refine awp_true (by kernel_rfl) h10 ?_
    refine gE hF fun h11 hF => ?_
    refine awp_region ?_
    refine aR 6 ?_
    refine aX (x_app api_Change.enc 1 h11) ?_
    refine aR 1 ?_
    refine aE ?_
    exact oO hF [(1, 22002)] [] rfl
  · refine awp_false (by kernel_rfl) h10 ?_
    refine awp_skip ?_
    exact oO hF [] [] rfl

def z1190 : (List api_Change) → AEx
  | _ => .exit 0

def z1189 (qb : List api_Prop) (vr1_1 : List (List UInt8)) : (List api_Change) → St
  | vout3 => Mem.st ⟨[(1, ⟨122, 9, List.map api_Change.enc vout3⟩)], []⟩ (tl [(7, .v (.one (.own 1 none)))]) 2

def z1188 (qb : List api_Prop) (vr1_1 : List (List UInt8)) : (List api_Change) × Int → St
  | (vout, vx) => Mem.st ⟨[(1, ⟨122, 9, List.map api_Change.enc vout⟩)], []⟩ (tl [(0, .v (.one (.nil))), (1, .v (.one (.d (.lst (List.map api_Prop.enc qb))))), (7, .v (.one (.own 1 none))), (24, .v (.one (.d (.lst (List.map encS vr1_1))))), (25, .v (.one (.d (.int .i64 (vr1_1.length : Int))))), (26, .v (.one (.d (.int .i64 vx))))]) 2

theorem z1191 (qb : List api_Prop) (vr1_1 : List (List UInt8)) (s : (List api_Change) × Int) (r : ((List api_Change) × Int) ⊕ ((List api_Change))) (hF : z1187 qb vr1_1 s = some r) : Awp prog 1 48 (cL (cL (cR (cL (cR (cR (cR (cB f39)))))))) (Out 1 (kk z1190) (SS (z1188 qb vr1_1) (z1189 qb vr1_1)) r) (z1188 qb vr1_1 s) := by
  obtain ⟨vout, vx⟩ := s
  unfold z1187 at hF
  refine awp_seq ?_
  refine awp_region ?_
  refine aR 1 ?_
  refine aE ?_
  refine awp_seq ?_
  refine cE hF (fun h6 hF => ?_) fun h6 hF => ?_
  · refine awp_true (by kernel_rfl) h6 ?_
    refine awp_skip ?_
    refine awp_seq ?_
    refine awp_to (st' := z1193 qb vr1_1 vout vx) (oT [] []) ?_
    refine bE hF fun vout2_1 h12 hF => ?_
    refine awp_sub (z1196 qb vr1_1 vout vx h12) ?_
    refine awp_region ?_
    refine aR 2 ?_
    refine aE ?_
    exact oO hF [] [] rfl
  · refine awp_false (by kernel_rfl) h6 ?_
    refine awp_exit ?_
    exact oO hF [] [] rfl

def z1185 (qb : List api_Prop) (r : (List api_Change) × Int) : TV × Mem := (.tup [.one (.own 1 none), .one (.d (.int .i64 r.2))], ⟨[(1, ⟨122, 9, List.map api_Change.enc r.1⟩)], []⟩)

theorem z1186 {qb : List api_Prop} {r} (hF : z1184 qb = some r) : Holds prog 39 [.v (.one (.nil)), .v (.one (.own 0 none))] ⟨[(0, ⟨87, 5, List.map api_Prop.enc qb⟩)], []⟩ (Is (z1185 qb r)) := by
  unfold z1184 at hF
  refine holds_of_awp hΓ (fn := f39) (c := cB f39) (A := 1) (nx := 1) (by kernel_rfl) (by kernel_rfl) (by kernel_rfl) (by kernel_rfl) (by kernel_rfl) (by kernel_rfl) (lowc_of (by kernel_rfl)) ?_
  show Awp prog 1 48 (cB f39) _ _
  refine awp_seq ?_
  refine awp_region ?_
  refine aR 2 ?_
  refine aE ?_
  refine awp_to (oT (m := ⟨[], []⟩) (ts := [(0, .v (.one (.nil))), (1, .v (.one (.d (.lst (List.map api_Prop.enc qb)))))]) (nx := 1) [] []) ?_
  refine awp_seq ?_
  refine awp_seq ?_
  refine bE hF fun vr h1 hF => ?_
  refine bE hF fun vr3 h2 hF => ?_
  refine bE hF fun vr1 h3 hF => ?_
  refine awp_region ?_
  refine aR 1 ?_
  refine aC (z1157 h1) [] [] [] ?_
  refine aR 1 ?_
  refine aC (z1168 h2) [] [] [] ?_
  refine aR 1 ?_
  refine aC (z18 h3) [] [] [4001] ?_
  refine aR 1 ?_
  refine aE ?_
  refine awp_seq ?_
  refine awp_region ?_
  refine aR 2 ?_
  refine aE ?_
  refine cE hF (fun h4 hF => ?_) fun h4 hF => ?_
  · refine awp_true (by kernel_rfl) h4 ?_
    refine awp_seq ?_
    refine awp_region ?_
    refine aR 3 ?_
    refine aE ?_
    refine awp_ret ?_
    exact oF hF [] [1]
  · refine awp_false (by kernel_rfl) h4 ?_
    refine awp_skip ?_
    refine awp_seq ?_
    refine awp_region ?_
    refine aR 1 ?_
    refine aE ?_
    refine awp_seq ?_
    refine awp_seq ?_
    refine bE hF fun vr1_1 h5 hF => ?_
    refine awp_region ?_
    refine aR 3 ?_
    refine aC (z1223 h5) [(0, 12001)] [] [] ?_
    refine aL encS vr1_1 ?_
    refine aR 1 ?_
    refine aE ?_
    refine awp_to (oT (m := ⟨[], []⟩) (ts := [(0, .v (.one (.nil))), (1, .v (.one (.d (.lst (List.map api_Prop.enc qb))))), (7, .v (.one (.nil))), (24, .v (.one (.d (.lst (List.map encS vr1_1))))), (25, .v (.one (.d (.int .i64 (vr1_1.length : Int))))), (26, .v (.one (.d (.int .i64 0))))]) (nx := 1) [] []) ?_
    refine awp_block ?_
    refine awp_to (st' := z1188 qb vr1_1 ([], 0)) (oT [] [1]) ?_
    refine bE hF fun vout3_1 h13 hF => ?_
    refine awp_sub (awp_loop' (z1188 qb vr1_1) z1190 (z1189 qb vr1_1) (by intro x; exact fun h => nomatch h) h13 (z1191 qb vr1_1)) ?_
    refine awp_seq ?_
    refine awp_region ?_
    refine aR 3 ?_
    refine aE ?_
    refine awp_ret ?_
    exact oF hF [] []

/-! ### beaconfleet/command.CheckLetter -/
def z175 : Bool → AEx
  | _ => .normal

def z174 (ql : api_Letter) : Bool → St
  | vx => Mem.st ⟨[], [(0, [.d (.str ql.Id), .d (.str ql.Slot), .d (.str ql.Body), .d (.int .i64 ql.Prio), .d (.int .i64 ql.At), .d (.int .i64 ql.Until)])]⟩ (tl [(1, .v (.one (.box 0 0))), (3, .v (.one (.d (.bool vx))))]) 1

def z172 (ql : api_Letter) : St := Mem.st ⟨[], [(0, [.d (.str ql.Id), .d (.str ql.Slot), .d (.str ql.Body), .d (.int .i64 ql.Prio), .d (.int .i64 ql.At), .d (.int .i64 ql.Until)])]⟩ (tl [(1, .v (.one (.box 0 0)))]) 1

theorem z176 (ql : api_Letter) {r} (hF : z170 ql = some r) : Awp prog 0 51 (cL (cL (cL (cR (cB f73))))) (Out 0 z175 (z174 ql) r) (z172 ql) := by
  unfold z170 at hF
  refine bE hF fun vr h1 hF => ?_
  refine cE hF (fun h2 hF => ?_) fun h2 hF => ?_
  · refine awp_region ?_
    refine aR 2 ?_
    refine aC (z27 h1) [] [] [] ?_
    refine aB h2 ?_
    refine aR 12 ?_
    refine aE ?_
    exact oO hF [] [] rfl
  · refine cE hF (fun h3 hF => ?_) fun h3 hF => ?_
    · refine bE hF fun vr1 h4 hF => ?_
      refine awp_region ?_
      refine aR 2 ?_
      refine aC (z27 h1) [] [] [] ?_
      refine aB h2 ?_
      refine aR 3 ?_
      refine aB h3 ?_
      refine aR 3 ?_
      refine aC (z27 h4) [] [] [] ?_
      refine aR 4 ?_
      refine aE ?_
      exact oO hF [] [] rfl
    · refine awp_region ?_
      refine aR 2 ?_
      refine aC (z27 h1) [] [] [] ?_
      refine aB h2 ?_
      refine aR 3 ?_
      refine aB h3 ?_
      refine aR 8 ?_
      refine aE ?_
      exact oO hF [] [] rfl

def z180 : Bool → AEx
  | _ => .normal

def z179 (ql : api_Letter) : Bool → St
  | vx2 => Mem.st ⟨[], []⟩ (tl [(29, .v (.one (.d (.bool vx2))))]) 0

def z178 (ql : api_Letter) : St := Mem.st ⟨[], [(0, [.d (.str ql.Id), .d (.str ql.Slot), .d (.str ql.Body), .d (.int .i64 ql.Prio), .d (.int .i64 ql.At), .d (.int .i64 ql.Until)])]⟩ (tl [(1, .v (.one (.box 0 0)))]) 1

theorem z181 (ql : api_Letter) {r} (hF : z177 ql = some r) : Awp prog 0 51 (cL (cR (cR (cR (cR (cR (cR (cL (cL (cR (cB f73))))))))))) (Out 0 z180 (z179 ql) r) (z178 ql) := by
  unfold z177 at hF
  refine bE hF fun vr2 h10 hF => ?_
  refine cE hF (fun h11 hF => ?_) fun h11 hF => ?_
  · refine awp_region ?_
    refine aR 2 ?_
    refine aCb (z77 h10) [] [] [] h11 ?_
    refine aR 19 ?_
    refine aE ?_
    exact oO hF [] [] rfl
  · refine bE hF fun vr1_2 h12 hF => ?_
    refine cE hF (fun h13 hF => ?_) fun h13 hF => ?_
    · refine awp_region ?_
      refine aR 2 ?_
      refine aCb (z77 h10) [] [] [] h11 ?_
      refine aR 3 ?_
      refine aC (z47 h12) [] [] [] ?_
      refine aB h13 ?_
      refine aR 14 ?_
      refine aE ?_
      exact oO hF [] [] rfl
    · refine cE hF (fun h14 hF => ?_) fun h14 hF => ?_
      · refine awp_region ?_
        refine aR 2 ?_
        refine aCb (z77 h10) [] [] [] h11 ?_
        refine aR 3 ?_
        refine aC (z47 h12) [] [] [] ?_
        refine aB h13 ?_
        refine aR 6 ?_
        refine aB h14 ?_
        refine aR 7 ?_
        refine aE ?_
        exact oO hF [] [] rfl
      · refine awp_region ?_
        refine aR 2 ?_
        refine aCb (z77 h10) [] [] [] h11 ?_
        refine aR 3 ?_
        refine aC (z47 h12) [] [] [] ?_
        refine aB h13 ?_
        refine aR 6 ?_
        refine aB h14 ?_
        refine aR 7 ?_
        refine aE ?_
        exact oO hF [] [] rfl

def z168 (ql : api_Letter) (r : Int) : TV × Mem := (.v (.one (.d (.int .i64 r))), ⟨[], []⟩)

theorem z169 {ql : api_Letter} {r} (hF : z167 ql = some r) : Holds prog 73 [.v (.agg [.d (.str ql.Id), .d (.str ql.Slot), .d (.str ql.Body), .d (.int .i64 ql.Prio), .d (.int .i64 ql.At), .d (.int .i64 ql.Until)])] ⟨[], []⟩ (Is (z168 ql r)) := by
  unfold z167 at hF
  refine holds_of_awp hΓ (fn := f73) (c := cB f73) (A := 0) (nx := 0) (by kernel_rfl) (by kernel_rfl) (by kernel_rfl) (by kernel_rfl) (by kernel_rfl) (by kernel_rfl) (lowc_of (by kernel_rfl)) ?_
  show Awp prog 0 51 (cB f73) _ _
  refine awp_seq ?_
  refine awp_region ?_
  refine aR 2 ?_
  refine aE ?_
  refine awp_seq ?_
  refine awp_block ?_
  refine awp_seq ?_
  refine awp_to (st' := z172 ql) (oT [] []) ?_
  refine bE hF fun vx1 h5 hF => ?_
  refine awp_sub (z176 ql h5) ?_
  refine cE hF (fun h6 hF => ?_) fun h6 hF => ?_
  · refine awp_true (by kernel_rfl) h6 ?_
    refine awp_seq ?_
    refine awp_region ?_
    refine aR 1 ?_
    refine aE ?_
    refine awp_ret ?_
    exact oF hF [] []
  · refine awp_false (by kernel_rfl) h6 ?_
    refine awp_seq ?_
    refine awp_region ?_
    refine aR 5 ?_
    refine aE ?_
    refine cE hF (fun h7 hF => ?_) fun h7 hF => ?_
    · refine awp_true (by kernel_rfl) h7 ?_
      refine awp_seq ?_
      refine awp_region ?_
      refine aR 1 ?_
      refine aE ?_
      refine awp_ret ?_
      exact oF hF [] []
    · refine awp_false (by kernel_rfl) h7 ?_
      refine awp_seq ?_
      refine bE hF fun vr1_1 h8 hF => ?_
      refine awp_region ?_
      refine aR 2 ?_
      refine aC (z85 h8) [] [] [] ?_
      refine aR 2 ?_
      refine aE ?_
      refine cE hF (fun h9 hF => ?_) fun h9 hF => ?_
      · refine awp_true (by kernel_rfl) h9 ?_
        refine awp_seq ?_
        refine awp_region ?_
        refine aR 1 ?_
        refine aE ?_
        refine awp_ret ?_
        exact oF hF [] []
      · refine awp_false (by kernel_rfl) h9 ?_
        refine awp_seq ?_
        refine awp_to (st' := z178 ql) (oT [] []) ?_
        refine bE hF fun vx2_1 h15 hF => ?_
        refine awp_sub (z181 ql h15) ?_
        refine cE hF (fun h16 hF => ?_) fun h16 hF => ?_
        · refine awp_true (by kernel_rfl) h16 ?_
          refine awp_seq ?_
          refine awp_region ?_
          refine aR 1 ?_
          refine aE ?_
          refine awp_ret ?_
          exact oF hF [] []
        · refine awp_false (by kernel_rfl) h16 ?_
          refine awp_skip ?_
          refine awp_seq ?_
          refine awp_region ?_
          refine aR 1 ?_
          refine aE ?_
          refine awp_ret ?_
          exact oF hF [] []

/-! ### beaconfleet/command.Order$1 -/
def z183 (qy : api_Letter) (qx : api_Letter) (r : Unit) : TV × Mem := (.v (.one (.d (.bool (decide (qy.Id = qx.Id))))), ⟨[], [(0, [.d (.str qx.Id), .d (.str qx.Slot), .d (.str qx.Body), .d (.int .i64 qx.Prio), .d (.int .i64 qx.At), .d (.int .i64 qx.Until)])]⟩)

theorem z184 {qy : api_Letter} {qx : api_Letter} {r} (hF : z182 qy qx = some r) : Holds prog 75 [.v (.agg [.d (.str qy.Id), .d (.str qy.Slot), .d (.str qy.Body), .d (.int .i64 qy.Prio), .d (.int .i64 qy.At), .d (.int .i64 qy.Until)]), .v (.one (.box 0 0))] ⟨[], [(0, [.d (.str qx.Id), .d (.str qx.Slot), .d (.str qx.Body), .d (.int .i64 qx.Prio), .d (.int .i64 qx.At), .d (.int .i64 qx.Until)])]⟩ (Is (z183 qy qx r)) := by
  unfold z182 at hF
  refine holds_of_awp hΓ (fn := f75) (c := cB f75) (A := 1) (nx := 1) (by kernel_rfl) (by kernel_rfl) (by kernel_rfl) (by kernel_rfl) (by kernel_rfl) (by kernel_rfl) (lowc_of (by kernel_rfl)) ?_
  show Awp prog 1 9 (cB f75) _ _
  refine awp_seq ?_
  refine awp_region ?_
  refine aR 2 ?_
  refine aE ?_
  refine awp_seq ?_
  refine awp_region ?_
  refine aR 6 ?_
  refine aE ?_
  refine awp_ret ?_
  exact oF hF [] []

/-! ### slices.IndexFunc[[]beaconfleet/api.Letter,beaconfleet/api.Letter] -/
def z727 : Unit ⊕ Int → AEx
  | .inl _ => .exit 0
  | .inr _ => .ret

def z726 (qs : List api_Letter) (qf : api_Letter) : Unit ⊕ Int → St
  | .inl _ => Mem.st ⟨[], [(0, [.d (.str qf.Id), .d (.str qf.Slot), .d (.str qf.Body), .d (.int .i64 qf.Prio), .d (.int .i64 qf.At), .d (.int .i64 qf.Until)])]⟩ (tl []) 1
  | .inr vx1 => Mem.st ⟨[], [(0, [.d (.str qf.Id), .d (.str qf.Slot), .d (.str qf.Body), .d (.int .i64 qf.Prio), .d (.int .i64 qf.At), .d (.int .i64 qf.Until)])]⟩ (tl [(4, .v (.one (.d (.int .i64 vx1))))]) 1

def z725 (qs : List api_Letter) (qf : api_Letter) : Int → St
  | vx => Mem.st ⟨[], [(0, [.d (.str qf.Id), .d (.str qf.Slot), .d (.str qf.Body), .d (.int .i64 qf.Prio), .d (.int .i64 qf.At), .d (.int .i64 qf.Until)])]⟩ (tl [(0, .v (.one (.d (.lst (List.map api_Letter.enc qs))))), (1, .v (.one (.fn 75 [0]))), (7, .v (.one (.d (.int .i64 (qs.length : Int))))), (8, .v (.one (.d (.int .i64 vx))))]) 1

theorem z728 (qs : List api_Letter) (qf : api_Letter) (vx : Int) (r : (Int) ⊕ (Unit ⊕ Int)) (hF : z724 qs qf vx = some r) : Awp prog 1 19 (cL (cL (cR (cL (cR (cB f106)))))) (Out 1 (kk z727) (SS (z725 qs qf) (z726 qs qf)) r) (z725 qs qf vx) := by
  unfold z724 at hF
  refine awp_seq ?_
  refine awp_region ?_
  refine aR 1 ?_
  refine aE ?_
  refine awp_seq ?_
  refine cE hF (fun h1 hF => ?_) fun h1 hF => ?_
  · refine awp_true (by kernel_rfl) h1 ?_
    refine awp_skip ?_
    refine awp_seq ?_
    refine awp_block ?_
    refine awp_seq ?_
    refine awp_region ?_
    refine aR 2 ?_
    refine aE ?_
    refine awp_seq ?_
    refine bE hF fun vy1 h2 hF => ?_
    refine bE hF fun _ h3 hF => ?_
    refine awp_region ?_
    refine aR 3 ?_
    refine aX (x_idx api_Letter.enc h2) ?_
    refine aR 1 ?_
    refine aC (z184 h3) [] [] [] ?_
    refine aE ?_
    refine cE hF (fun h4 hF => ?_) fun h4 hF => ?_
    · refine awp_true (by kernel_rfl) h4 ?_
      refine awp_seq ?_
      refine awp_region ?_
      refine aR 2 ?_
      refine aE ?_
      refine awp_ret ?_
      exact oO hF [] [] rfl
    · refine awp_false (by kernel_rfl) h4 ?_
      refine awp_skip ?_
      refine awp_region ?_
      refine aR 2 ?_
      refine aE ?_
      exact oO hF [] [] rfl
  · refine awp_false (by kernel_rfl) h1 ?_
    refine awp_exit ?_
    exact oO hF [] [] rfl

def z722 (qs : List api_Letter) (qf : api_Letter) (r : Int) : TV × Mem := (.v (.one (.d (.int .i64 r))), ⟨[], [(0, [.d (.str qf.Id), .d (.str qf.Slot), .d (.str qf.Body), .d (.int .i64 qf.Prio), .d (.int .i64 qf.At), .d (.int .i64 qf.Until)])]⟩)

theorem z723 {qs : List api_Letter} {qf : api_Letter} {r} (hF : z721 qs qf = some r) : Holds prog 106 [.v (.one (.d (.lst (List.map api_Letter.enc qs)))), .v (.one (.fn 75 [0]))] ⟨[], [(0, [.d (.str qf.Id), .d (.str qf.Slot), .d (.str qf.Body), .d (.int .i64 qf.Prio), .d (.int .i64 qf.At), .d (.int .i64 qf.Until)])]⟩ (Is (z722 qs qf r)) := by
  unfold z721 at hF
  refine holds_of_awp hΓ (fn := f106) (c := cB f106) (A := 1) (nx := 1) (by kernel_rfl) (by kernel_rfl) (by kernel_rfl) (by kernel_rfl) (by kernel_rfl) (by kernel_rfl) (lowc_of (by kernel_rfl)) ?_
  show Awp prog 1 19 (cB f106) _ _
  refine awp_seq ?_
  refine awp_region ?_
  refine aR 1 ?_
  refine aE ?_
  refine awp_seq ?_
  refine awp_seq ?_
  refine awp_region ?_
  refine aR 1 ?_
  refine aL api_Letter.enc qs ?_
  refine aR 1 ?_
  refine aE ?_
  refine awp_block ?_
  refine awp_to (st' := z725 qs qf 0) (oT [] []) ?_
  refine bE hF fun x h5 hF => ?_
  rcases x with _ | vx1_1
  · refine awp_sub (awp_loop' (z725 qs qf) z727 (z726 qs qf) (by intro x; rcases x with x | x <;> exact fun h => nomatch h) h5 (z728 qs qf)) ?_
    refine awp_seq ?_
    refine awp_region ?_
    refine aR 1 ?_
    refine aE ?_
    refine awp_ret ?_
    exact oF hF [] []
  · refine awp_sub (awp_loop' (z725 qs qf) z727 (z726 qs qf) (by intro x; rcases x with x | x <;> exact fun h => nomatch h) h5 (z728 qs qf)) ?_
    exact oF hF [] []

/-! ### slices.ContainsFunc[[]beaconfleet/api.Letter,beaconfleet/api.Letter] -/
def z702 (qs : List api_Letter) (qf : api_Letter) (r : Bool) : TV × Mem := (.v (.one (.d (.bool r))), ⟨[], [(0, [.d (.str qf.Id), .d (.str qf.Slot), .d (.str qf.Body), .d (.int .i64 qf.Prio), .d (.int .i64 qf.At), .d (.int .i64 qf.Until)])]⟩)

theorem z703 {qs : List api_Letter} {qf : api_Letter} {r} (hF : z701 qs qf = some r) : Holds prog 74 [.v (.one (.d (.lst (List.map api_Letter.enc qs)))), .v (.one (.fn 75 [0]))] ⟨[], [(0, [.d (.str qf.Id), .d (.str qf.Slot), .d (.str qf.Body), .d (.int .i64 qf.Prio), .d (.int .i64 qf.At), .d (.int .i64 qf.Until)])]⟩ (Is (z702 qs qf r)) := by
  unfold z701 at hF
  refine holds_of_awp hΓ (fn := f74) (c := cB f74) (A := 1) (nx := 1) (by kernel_rfl) (by kernel_rfl) (by kernel_rfl) (by kernel_rfl) (by kernel_rfl) (by kernel_rfl) (lowc_of (by kernel_rfl)) ?_
  show Awp prog 1 9 (cB f74) _ _
  refine awp_seq ?_
  refine awp_region ?_
  refine aR 1 ?_
  refine aE ?_
  refine awp_seq ?_
  refine bE hF fun vr h1 hF => ?_
  refine awp_region ?_
  refine aR 2 ?_
  refine aC (z723 h1) [] [] [] ?_
  refine aR 2 ?_
  refine aE ?_
  refine awp_ret ?_
  exact oF hF [] []

/-! ### slices.Clone[[]beaconfleet/api.Letter,beaconfleet/api.Letter] -/
def z681 (qs : List api_Letter) (r : List api_Letter) : TV × Mem := (.v (.one (.own 0 none)), ⟨[(0, ⟨93, 6, List.map api_Letter.enc r⟩)], []⟩)

theorem z682 {qs : List api_Letter} {r} (hF : z680 qs = some r) : Holds prog 76 [.v (.one (.d (.lst (List.map api_Letter.enc qs))))] ⟨[], []⟩ (Is (z681 qs r)) := by
  unfold z680 at hF
  refine gE hF fun h1 hF => ?_
  refine holds_of_awp hΓ (fn := f76) (c := cB f76) (A := 0) (nx := 0) (by kernel_rfl) (by kernel_rfl) (by kernel_rfl) (by kernel_rfl) (by kernel_rfl) (by kernel_rfl) (lowc_of (by kernel_rfl)) ?_
  show Awp prog 0 8 (cB f76) _ _
  refine awp_seq ?_
  refine awp_region ?_
  refine aR 1 ?_
  refine aE ?_
  refine awp_seq ?_
  refine awp_seq ?_
  refine awp_region ?_
  refine aR 1 ?_
  refine aN api_Letter.enc qs (fun b hb => ?_) rfl
  refine aE ?_
  cases b with
  | true =>
    obtain rfl := hb rfl
    refine awp_true (by kernel_rfl) rfl ?_
    refine awp_seq ?_
    refine awp_region ?_
    refine aR 1 ?_
    refine aE ?_
    refine awp_ret ?_
    exact oF hF [] [0]
  | false =>
    refine awp_false (by kernel_rfl) rfl ?_
    refine awp_skip ?_
    refine awp_seq ?_
    refine awp_region ?_
    refine aR 2 ?_
    refine aX (x_app api_Letter.enc 3000 h1) ?_
    refine aR 1 ?_
    refine aE ?_
    refine awp_ret ?_
    exact oF hF [(0, 5000)] []

/-! ### beaconfleet/command.byOrder -/
def z194 (qa : api_Letter) (qb : api_Letter) (r : Int) : TV × Mem := (.v (.one (.d (.int .i64 r))), ⟨[], []⟩)

theorem z195 {qa : api_Letter} {qb : api_Letter} {r} (hF : z193 qa qb = some r) : Holds prog 78 [.v (.agg [.d (.str qa.Id), .d (.str qa.Slot), .d (.str qa.Body), .d (.int .i64 qa.Prio), .d (.int .i64 qa.At), .d (.int .i64 qa.Until)]), .v (.agg [.d (.str qb.Id), .d (.str qb.Slot), .d (.str qb.Body), .d (.int .i64 qb.Prio), .d (.int .i64 qb.At), .d (.int .i64 qb.Until)])] ⟨[], []⟩ (Is (z194 qa qb r)) := by
  unfold z193 at hF
  refine holds_of_awp hΓ (fn := f78) (c := cB f78) (A := 0) (nx := 0) (by kernel_rfl) (by kernel_rfl) (by kernel_rfl) (by kernel_rfl) (by kernel_rfl) (by kernel_rfl) (lowc_of (by kernel_rfl)) ?_
  show Awp prog 0 22 (cB f78) _ _
  refine awp_seq ?_
  refine awp_region ?_
  refine aR 3 ?_
  refine aE ?_
  refine awp_seq ?_
  refine bE hF fun vr h1 hF => ?_
  refine bE hF fun vr1 h2 hF => ?_
  refine bE hF fun _ h3 hF => ?_
  refine bE hF fun vr2 h4 hF => ?_
  refine aD ?_
  refine dR 4 ?_
  refine dC (z144 h1) [] [] [] ?_
  refine dR 4 ?_
  refine dC (z144 h2) [] [] [] ?_
  refine dR 4 ?_
  refine dC (z1004 h3) [] [] [] ?_
  refine dR 1 ?_
  refine dC (z155 h4) [] [] [18000] ?_
  refine dR 1 ?_
  refine dE ?_
  refine awp_ret ?_
  exact oF hF [] []

/-! ### slices.insertionSortCmpFunc[beaconfleet/api.Letter] -/
def z783 : Bool → AEx
  | _ => .normal

def z782 (qa : Int) (qb : Int) (vi : Int) (vl3 : List api_Letter) (vj1 : Int) : Bool → St
  | vx4 => Mem.st ⟨[(0, ⟨93, 6, List.map api_Letter.enc vl3⟩)], []⟩ (tl [(0, .v (.one (.own 0 none))), (1, .v (.one (.d (.int .i64 qa)))), (2, .v (.one (.d (.int .i64 qb)))), (3, .v (.one (.fn 78 []))), (8, .v (.one (.d (.int .i64 vi)))), (9, .v (.one (.d (.int .i64 vj1)))), (34, .v (.one (.d (.bool vx4))))]) 1

def z781 (qa : Int) (qb : Int) (vi : Int) (vl3 : List api_Letter) (vj1 : Int) : St := Mem.st ⟨[(0, ⟨93, 6, List.map api_Letter.enc vl3⟩)], []⟩ (tl [(0, .v (.one (.own 0 none))), (1, .v (.one (.d (.int .i64 qa)))), (2, .v (.one (.d (.int .i64 qb)))), (3, .v (.one (.fn 78 []))), (8, .v (.one (.d (.int .i64 vi)))), (9, .v (.one (.d (.int .i64 vj1))))]) 1

theorem z784 (qa : Int) (qb : Int) (vi : Int) (vl3 : List api_Letter) (vj1 : Int) {r} (hF : z780 qa vl3 vj1 = some r) : Awp prog 1 53 (cL (cL (cL (cL (cR (cL (cL (cR (cL (cL (cR (cB f129)))))))))))) (Out 1 z783 (z782 qa qb vi vl3 vj1) r) (z781 qa qb vi vl3 vj1) := by
  unfold z780 at hF
  refine cE hF (fun h2 hF => ?_) fun h2 hF => ?_
  · refine bE hF fun vy15 h3 hF => ?_
    refine bE hF fun vy16 h4 hF => ?_
    refine bE hF fun vr3_3 h5 hF => ?_
    refine aD ?_
    refine dR 2 ?_
    refine dB h2 ?_
    refine dR 4 ?_
    refine dX (x_idxO api_Letter.enc 0 h3) ?_
    refine dX (x_ldE api_Letter.enc h3) ?_
    refine dR 3 ?_
    refine dX (x_idxO api_Letter.enc 0 h4) ?_
    refine dX (x_ldE api_Letter.enc h4) ?_
    refine dC (z195 h5) [] [] [] ?_
    refine dR 2 ?_
    refine dE ?_
    exact oO hF [] [] rfl
  · refine aD ?_
    refine dR 2 ?_
    refine dB h2 ?_
    refine dR 14 ?_
    refine dE ?_
    exact oO hF [] [] rfl

def z778 : (List api_Letter) → AEx
  | _ => .exit 2

def z777 (qa : Int) (qb : Int) (vi : Int) : (List api_Letter) → St
  | vl4 => Mem.st ⟨[(0, ⟨93, 6, List.map api_Letter.enc vl4⟩)], []⟩ (tl [(0, .v (.one (.own 0 none))), (1, .v (.one (.d (.int .i64 qa)))), (2, .v (.one (.d (.int .i64 qb)))), (3, .v (.one (.fn 78 []))), (8, .v (.one (.d (.int .i64 vi))))]) 1

def z776 (qa : Int) (qb : Int) (vi : Int) : (List api_Letter) × Int → St
  | (vl3, vj1) => Mem.st ⟨[(0, ⟨93, 6, List.map api_Letter.enc vl3⟩)], []⟩ (tl [(0, .v (.one (.own 0 none))), (1, .v (.one (.d (.int .i64 qa)))), (2, .v (.one (.d (.int .i64 qb)))), (3, .v (.one (.fn 78 []))), (8, .v (.one (.d (.int .i64 vi)))), (9, .v (.one (.d (.int .i64 vj1))))]) 1

theorem z779 (qa : Int) (qb : Int) (vi : Int) (s : (List api_Letter) × Int) (r : ((List api_Letter) × Int) ⊕ ((List api_Letter))) (hF : z775 qa s = some r) : Awp prog 1 53 (cL (cL (cR (cL (cL (cR (cL (cL (cR (cB f129)))))))))) (Out 1 (kk z778) (SS (z776 qa qb vi) (z777 qa qb vi)) r) (z776 qa qb vi s) := by
  obtain ⟨vl3, vj1⟩ := s
  unfold z775 at hF
  refine awp_seq ?_
  refine awp_seq ?_
  refine awp_to (st' := z781 qa qb vi vl3 vj1) (oT [] []) ?_
  refine bE hF fun vx4_1 h6 hF => ?_
  refine awp_sub (z784 qa qb vi vl3 vj1 h6) ?_
  refine cE hF (fun h7 hF => ?_) fun h7 hF => ?_
  · refine awp_true (by kernel_rfl) h7 ?_
    refine awp_skip ?_
    refine awp_seq ?_
    refine awp_block ?_
    refine bE hF fun vy17 h8 hF => ?_
    refine bE hF fun vy18 h9 hF => ?_
    refine bE hF fun vy19 h10 hF => ?_
    refine aDw [0] ?_
    refine dR 8 ?_
    refine dI api_Letter.enc 0 h8 rfl ?_
    refine dX (x_ldE api_Letter.enc h8) ?_
    refine dR 2 ?_
    refine dI api_Letter.enc 0 h9 rfl ?_
    refine dX (x_ldE api_Letter.enc h9) ?_
    refine dI api_Letter.enc 0 h9 rfl ?_
    refine dW api_Letter.enc vy17 h9 rfl ?_
    refine dI api_Letter.enc 0 h10 rfl ?_
    refine dW api_Letter.enc vy18 h10 rfl ?_
    refine dE ?_
    refine awp_region ?_
    refine aR 3 ?_
    refine aE ?_
    exact oO hF [] [] rfl
  · refine awp_false (by kernel_rfl) h7 ?_
    refine awp_exit ?_
    exact oO hF [] [] rfl

def z773 : (List api_Letter) → AEx
  | _ => .exit 0

def z772 (qa : Int) (qb : Int) : (List api_Letter) → St
  | vl5 => Mem.st ⟨[(0, ⟨93, 6, List.map api_Letter.enc vl5⟩)], []⟩ (tl []) 1

def z771 (qa : Int) (qb : Int) : (List api_Letter) × Int → St
  | (vl, vi) => Mem.st ⟨[(0, ⟨93, 6, List.map api_Letter.enc vl⟩)], []⟩ (tl [(0, .v (.one (.own 0 none))), (1, .v (.one (.d (.int .i64 qa)))), (2, .v (.one (.d (.int .i64 qb)))), (3, .v (.one (.fn 78 []))), (8, .v (.one (.d (.int .i64 vi))))]) 1

theorem z774 (qa : Int) (qb : Int) (s : (List api_Letter) × Int) (r : ((List api_Letter) × Int) ⊕ ((List api_Letter))) (hF : z770 qa qb s = some r) : Awp prog 1 53 (cL (cL (cR (cB f129)))) (Out 1 (kk z773) (SS (z771 qa qb) (z772 qa qb)) r) (z771 qa qb s) := by
  obtain ⟨vl, vi⟩ := s
  unfold z770 at hF
  refine awp_seq ?_
  refine awp_seq ?_
  refine awp_region ?_
  refine aR 3 ?_
  refine aE ?_
  refine cE hF (fun h1 hF => ?_) fun h1 hF => ?_
  · refine awp_true (by kernel_rfl) h1 ?_
    refine awp_skip ?_
    refine awp_seq ?_
    refine awp_block ?_
    refine awp_seq ?_
    refine awp_region ?_
    refine aR 2 ?_
    refine aE ?_
    refine awp_block ?_
    refine awp_to (st' := z776 qa qb vi (vl, vi)) (oT [] []) ?_
    refine bE hF fun vl4_1 h11 hF => ?_
    refine awp_sub (awp_loop' (z776 qa qb vi) z778 (z777 qa qb vi) (by intro x; exact fun h => nomatch h) h11 (z779 qa qb vi)) ?_
    refine awp_region ?_
    refine aR 3 ?_
    refine aE ?_
    exact oO hF [] [] rfl
  · refine awp_false (by kernel_rfl) h1 ?_
    refine awp_exit ?_
    exact oO hF [] [] rfl

def z768 (qdata : List api_Letter) (qa : Int) (qb : Int) (r : (List api_Letter)) : TV × Mem := (.tup [], ⟨[(0, ⟨93, 6, List.map api_Letter.enc r⟩)], []⟩)

theorem z769 {qdata : List api_Letter} {qa : Int} {qb : Int} {r} (hF : z767 qdata qa qb = some r) : Holds prog 129 [.v (.one (.own 0 none)), .v (.one (.d (.int .i64 qa))), .v (.one (.d (.int .i64 qb))), .v (.one (.fn 78 []))] ⟨[(0, ⟨93, 6, List.map api_Letter.enc qdata⟩)], []⟩ (Is (z768 qdata qa qb r)) := by
  unfold z767 at hF
  refine holds_of_awp hΓ (fn := f129) (c := cB f129) (A := 1) (nx := 1) (by kernel_rfl) (by kernel_rfl) (by kernel_rfl) (by kernel_rfl) (by kernel_rfl) (by kernel_rfl) (lowc_of (by kernel_rfl)) ?_
  show Awp prog 1 53 (cB f129) _ _
  refine awp_seq ?_
  refine awp_region ?_
  refine aR 3 ?_
  refine aE ?_
  refine awp_block ?_
  refine awp_to (st' := z771 qa qb (qdata, IntKind.wrap .i64 (qa + 1))) (oT [] []) ?_
  refine bE hF fun vl5_1 h12 hF => ?_
  refine awp_sub (awp_loop' (z771 qa qb) z773 (z772 qa qb) (by intro x; exact fun h => nomatch h) h12 (z774 qa qb)) ?_
  exact oF hF [] []

/-! ### slices.pdqsortCmpFunc[beaconfleet/api.Letter] -/
def z809 : (List api_Letter) → AEx
  | _ => .ret

def z808 (qx : List api_Letter) (qx1 : Int) (qx2 : Int) (qx3 : Int) : (List api_Letter) → St
  | vl => Mem.st ⟨[(0, ⟨93, 6, List.map api_Letter.enc vl⟩)], []⟩ (tl []) 1

def z807 (qx : List api_Letter) (qx1 : Int) (qx2 : Int) (qx3 : Int) : Unit → St
  | _ => Mem.st ⟨[(0, ⟨93, 6, List.map api_Letter.enc qx⟩)], []⟩ (tl [(0, .v (.one (.own 0 none))), (1, .v (.one (.d (.int .i64 qx1)))), (2, .v (.one (.d (.int .i64 qx2)))), (3, .v (.one (.d (.int .i64 qx3)))), (4, .v (.one (.fn 78 []))), (10, .v (.one (.d (.bool true)))), (11, .v (.one (.d (.bool true))))]) 1

theorem z810 (qx : List api_Letter) (qx1 : Int) (qx2 : Int) (qx3 : Int) (s : Unit) (r : (Unit) ⊕ ((List api_Letter))) (hF : z806 qx qx1 qx2 qx3 s = some r) : Awp prog 1 148 (cL (cL (cR (cR (cB f107))))) (Out 1 (kk z809) (SS (z807 qx qx1 qx2 qx3) (z808 qx qx1 qx2 qx3)) r) (z807 qx qx1 qx2 qx3 s) := by
  unfold z806 at hF
  refine awp_block ?_
  refine awp_seq ?_
  refine awp_region ?_
  refine aR 4 ?_
  refine aE ?_
  refine awp_seq ?_
  refine awp_seq ?_
  refine awp_region ?_
  refine aR 2 ?_
  refine aE ?_
  refine cE hF (fun h1 hF => ?_) fun h1 hF => ?_
  · refine awp_true (by kernel_rfl) h1 ?_
    refine awp_seq ?_
    refine bE hF fun vl6_1 h2 hF => ?_
    refine gE hF fun h3 hF => ?_
    refine awp_region ?_
    refine aR 4 ?_
    refine aCp (z769 h2) ⟨⟨rfl, rfl, pin1 h3⟩, trivial⟩ [] [] [] ?_
    refine aE ?_
    refine awp_ret ?_
    exact oO hF [] [] rfl
  · refine awp_false (by kernel_rfl) h1 ?_
    refine awp_skip ?_
    refine awp_seq ?_
    refine awp_seq ?_
    refine awp_region ?_
    refine aR 2 ?_
    refine aE ?_
    refine cE hF (fun h4 hF => ?_) fun h4 hF => ?_
    · refine awp_true (by kernel_rfl) h4 ?_
      refine awp_seq ?_
      exact nE hF
    · refine awp_false (by kernel_rfl) h4 ?_
      refine awp_skip ?_
      refine awp_seq ?_
      refine awp_seq ?_
      refine awp_region ?_
      refine aR 2 ?_
      refine aE ?_
      refine awp_false (by kernel_rfl) rfl ?_
      refine awp_skip ?_
      refine awp_seq ?_
      exact nE hF

def z804 (qx : List api_Letter) (qx1 : Int) (qx2 : Int) (qx3 : Int) (r : (List api_Letter)) : TV × Mem := (.tup [], ⟨[(0, ⟨93, 6, List.map api_Letter.enc r⟩)], []⟩)

theorem z805 {qx : List api_Letter} {qx1 : Int} {qx2 : Int} {qx3 : Int} {r} (hF : z803 qx qx1 qx2 qx3 = some r) : Holds prog 107 [.v (.one (.own 0 none)), .v (.one (.d (.int .i64 qx1))), .v (.one (.d (.int .i64 qx2))), .v (.one (.d (.int .i64 qx3))), .v (.one (.fn 78 []))] ⟨[(0, ⟨93, 6, List.map api_Letter.enc qx⟩)], []⟩ (Is (z804 qx qx1 qx2 qx3 r)) := by
  unfold z803 at hF
  refine holds_of_awp hΓ (fn := f107) (c := cB f107) (A := 1) (nx := 1) (by kernel_rfl) (by kernel_rfl) (by kernel_rfl) (by kernel_rfl) (by kernel_rfl) (by kernel_rfl) (lowc_of (by kernel_rfl)) ?_
  show Awp prog 1 148 (cB f107) _ _
  refine awp_seq ?_
  refine awp_region ?_
  refine aR 1 ?_
  refine aE ?_
  refine awp_seq ?_
  refine awp_region ?_
  refine aR 1 ?_
  refine aE ?_
  refine awp_block ?_
  refine awp_to (st' := z807 qx qx1 qx2 qx3 ()) (oT [] []) ?_
  refine bE hF fun vl1 h7 hF => ?_
  refine awp_sub (awp_loop' (z807 qx qx1 qx2 qx3) z809 (z808 qx qx1 qx2 qx3) (by intro x; exact fun h => nomatch h) h7 (z810 qx qx1 qx2 qx3)) ?_
  exact oF hF [] []

/-! ### slices.SortFunc[[]beaconfleet/api.Letter,beaconfleet/api.Letter] -/
def z762 (qx : List api_Letter) (r : (List api_Letter)) : TV × Mem := (.tup [], ⟨[(0, ⟨93, 6, List.map api_Letter.enc r⟩)], []⟩)

theorem z763 {qx : List api_Letter} {r} (hF : z761 qx = some r) : Holds prog 77 [.v (.one (.own 0 none)), .v (.one (.fn 78 []))] ⟨[(0, ⟨93, 6, List.map api_Letter.enc qx⟩)], []⟩ (Is (z762 qx r)) := by
  unfold z761 at hF
  refine holds_of_awp hΓ (fn := f77) (c := cB f77) (A := 1) (nx := 1) (by kernel_rfl) (by kernel_rfl) (by kernel_rfl) (by kernel_rfl) (by kernel_rfl) (by kernel_rfl) (lowc_of (by kernel_rfl)) ?_
  show Awp prog 1 14 (cB f77) _ _
  refine awp_seq ?_
  refine awp_region ?_
  refine aR 1 ?_
  refine aL api_Letter.enc qx ?_
  refine aR 1 ?_
  refine aE ?_
  refine bE hF fun vr1 h1 hF => ?_
  refine bE hF fun vl2 h2 hF => ?_
  refine gE hF fun h3 hF => ?_
  refine awp_region ?_
  refine aR 4 ?_
  refine aC (z128 h1) [] [] [] ?_
  refine aR 1 ?_
  refine aCp (z805 h2) ⟨⟨rfl, rfl, pin1 h3⟩, trivial⟩ [] [] [] ?_
  refine aE ?_
  exact oF hF [] []

/-! ### beaconfleet/command.Order -/
def z191 : Unit ⊕ Int → AEx
  | .inl _ => .exit 0
  | .inr _ => .ret

def z190 (ql : List api_Letter) : Unit ⊕ Int → St
  | .inl _ => Mem.st ⟨[], []⟩ (tl [(0, .v (.one (.d (.lst (List.map api_Letter.enc ql)))))]) 1
  | .inr vx1 => Mem.st ⟨[], []⟩ (tl [(2, .v (.one (.nil))), (3, .v (.one (.d (.int .i64 vx1))))]) 1

def z189 (ql : List api_Letter) : Int → St
  | vx => Mem.st ⟨[], []⟩ (tl [(0, .v (.one (.d (.lst (List.map api_Letter.enc ql))))), (11, .v (.one (.d (.lst (List.map api_Letter.enc ql))))), (12, .v (.one (.d (.int .i64 (ql.length : Int))))), (13, .v (.one (.d (.int .i64 vx))))]) 1

theorem z192 (ql : List api_Letter) (vx : Int) (r : (Int) ⊕ (Unit ⊕ Int)) (hF : z188 ql vx = some r) : Awp prog 1 34 (cL (cL (cR (cL (cR (cR (cB f40))))))) (Out 1 (kk z191) (SS (z189 ql) (z190 ql)) r) (z189 ql vx) := by
  unfold z188 at hF
  refine awp_seq ?_
  refine awp_region ?_
  refine aR 1 ?_
  refine aE ?_
  refine awp_seq ?_
  refine cE hF (fun h2 hF => ?_) fun h2 hF => ?_
  · refine awp_true (by kernel_rfl) h2 ?_
    refine awp_skip ?_
    refine awp_seq ?_
    refine awp_block ?_
    refine awp_seq ?_
    refine bE hF fun vy1 h3 hF => ?_
    refine awp_region ?_
    refine aR 1 ?_
    refine aX (x_idx api_Letter.enc h3) ?_
    refine aR 4 ?_
    refine aE ?_
    refine awp_seq ?_
    refine awp_seq ?_
    refine bE hF fun vr3_1 h4 hF => ?_
    refine awp_region ?_
    refine aR 1 ?_
    refine aC (z169 h4) [] [] [] ?_
    refine aR 1 ?_
    refine aE ?_
    refine awp_seq ?_
    refine awp_region ?_
    refine aR 2 ?_
    refine aE ?_
    refine cE hF (fun h5 hF => ?_) fun h5 hF => ?_
    · refine awp_true (by kernel_rfl) h5 ?_
      refine awp_seq ?_
      refine awp_region ?_
      refine aR 3 ?_
      refine aE ?_
      refine awp_ret ?_
      exact oO hF [] [] rfl
    · refine awp_false (by kernel_rfl) h5 ?_
      refine awp_skip ?_
      refine awp_seq ?_
      refine bE hF fun vl1 h6 hF => ?_
      refine bE hF fun vr1_1 h7 hF => ?_
      refine awp_region ?_
      refine aR 2 ?_
      refine aX (x_slice api_Letter.enc h6) ?_
      refine aR 1 ?_
      refine aC (z703 h7) [(0, 4001)] [] [] ?_
      refine aE ?_
      refine cE hF (fun h8 hF => ?_) fun h8 hF => ?_
      · refine awp_true (by kernel_rfl) h8 ?_
        refine awp_seq ?_
        refine awp_region ?_
        refine aR 2 ?_
        refine aE ?_
        refine awp_ret ?_
        exact oO hF [] [] rfl
      · refine awp_false (by kernel_rfl) h8 ?_
        refine awp_skip ?_
        refine awp_region ?_
        refine aR 2 ?_
        refine aE ?_
        exact oO hF [] [] rfl
  · refine awp_false (by kernel_rfl) h2 ?_
    refine awp_exit ?_
    exact oO hF [] [] rfl

def z186 (ql : List api_Letter) (r : (List api_Letter) × Int) : TV × Mem := (.tup [.one (.own 1 none), .one (.d (.int .i64 r.2))], ⟨[(1, ⟨93, 6, List.map api_Letter.enc r.1⟩)], []⟩)

theorem z187 {ql : List api_Letter} {r} (hF : z185 ql = some r) : Holds prog 40 [.v (.one (.own 0 none))] ⟨[(0, ⟨93, 6, List.map api_Letter.enc ql⟩)], []⟩ (Is (z186 ql r)) := by
  unfold z185 at hF
  refine holds_of_awp hΓ (fn := f40) (c := cB f40) (A := 1) (nx := 1) (by kernel_rfl) (by kernel_rfl) (by kernel_rfl) (by kernel_rfl) (by kernel_rfl) (by kernel_rfl) (lowc_of (by kernel_rfl)) ?_
  show Awp prog 1 34 (cB f40) _ _
  refine awp_seq ?_
  refine awp_region ?_
  refine aR 2 ?_
  refine aE ?_
  refine awp_to (oT (m := ⟨[], []⟩) (ts := [(0, .v (.one (.d (.lst (List.map api_Letter.enc ql)))))]) (nx := 1) [] []) ?_
  refine awp_seq ?_
  refine awp_seq ?_
  refine awp_region ?_
  refine aR 1 ?_
  refine aL api_Letter.enc ql ?_
  refine aR 1 ?_
  refine aE ?_
  refine cE hF (fun h1 hF => ?_) fun h1 hF => ?_
  · refine awp_true (by kernel_rfl) h1 ?_
    refine awp_seq ?_
    refine awp_region ?_
    refine aR 2 ?_
    refine aE ?_
    refine awp_ret ?_
    exact oF hF [] [1]
  · refine awp_false (by kernel_rfl) h1 ?_
    refine awp_skip ?_
    refine awp_seq ?_
    refine awp_seq ?_
    refine awp_region ?_
    refine aR 1 ?_
    refine aL api_Letter.enc ql ?_
    refine aR 1 ?_
    refine aE ?_
    refine awp_block ?_
    refine awp_to (st' := z189 ql 0) (oT [] []) ?_
    refine bE hF fun x h9 hF => ?_
    rcases x with _ | vx1_1
    · refine awp_sub (awp_loop' (z189 ql) z191 (z190 ql) (by intro x; rcases x with x | x <;> exact fun h => nomatch h) h9 (z192 ql)) ?_
      refine awp_seq ?_
      refine bE hF fun vr h10 hF => ?_
      refine awp_region ?_
      refine aR 1 ?_
      refine aC (z682 h10) [] [] [] ?_
      refine aR 1 ?_
      refine aE ?_
      refine awp_seq ?_
      refine bE hF fun vl2 h11 hF => ?_
      refine gE hF fun h12 hF => ?_
      refine awp_region ?_
      refine aR 1 ?_
      refine aCp (z763 h11) ⟨⟨rfl, rfl, pin1 h12⟩, trivial⟩ [(0, 1001)] [] [] ?_
      refine aE ?_
      refine awp_seq ?_
      refine awp_region ?_
      refine aR 3 ?_
      refine aE ?_
      refine awp_ret ?_
      exact oF hF [(1, 1001)] []
    · refine awp_sub (awp_loop' (z189 ql) z191 (z190 ql) (by intro x; rcases x with x | x <;> exact fun h => nomatch h) h9 (z192 ql)) ?_
      exact oF hF [] [1]

/-! ### beaconfleet/fleetkeep2.ready -/
def z235 : Bool → AEx
  | _ => .normal

def z234 (vr5 : List api_Change) (vr6 : Int) (vr : List Int) (vr2 : Int) (vr2_1 : api_Version) (vr4 : Int) (vr1 : List UInt8) (vr3 : Int) (vr2_2 : List api_Letter) (vr4_1 : Int) : Bool → St
  | vx => Mem.st ⟨[], []⟩ (tl [(0, .v (.one (.d (.bool vx))))]) 0

def z231 (vr5 : List api_Change) (vr6 : Int) (vr : List Int) (vr2 : Int) (vr2_1 : api_Version) (vr4 : Int) (vr1 : List UInt8) (vr3 : Int) (vr2_2 : List api_Letter) (vr4_1 : Int) : St := Mem.st ⟨[], [(0, [.d (.int .i64 vr2_1.Major), .d (.int .i64 vr2_1.Minor), .d (.int .i64 vr2_1.Patch)])]⟩ (tl [(1, .v (.one (.d (.lst (List.map api_Change.enc vr5))))), (2, .v (.one (.d (.int .i64 vr6)))), (3, .v (.one (.d (.lst (List.map (encI .u8) vr))))), (4, .v (.one (.d (.int .i64 vr2)))), (5, .v (.one (.box 0 0))), (6, .v (.one (.d (.int .i64 vr4)))), (7, .v (.one (.d (.str vr1)))), (8, .v (.one (.d (.int .i64 vr3)))), (9, .v (.one (.d (.lst (List.map api_Letter.enc vr2_2))))), (10, .v (.one (.d (.int .i64 vr4_1))))]) 1

theorem z236 (vr5 : List api_Change) (vr6 : Int) (vr : List Int) (vr2 : Int) (vr2_1 : api_Version) (vr4 : Int) (vr1 : List UInt8) (vr3 : Int) (vr2_2 : List api_Letter) (vr4_1 : Int) {r} (hF : z230 vr5 vr6 vr vr2 vr2_1 vr4 vr1 vr3 vr2_2 vr4_1 = some r) : Awp prog 0 71 (cL (cR (cR (cR (cR (cR (cR (cB f18)))))))) (Out 0 z235 (z234 vr5 vr6 vr vr2 vr2_1 vr4 vr1 vr3 vr2_2 vr4_1) r) (z231 vr5 vr6 vr vr2 vr2_1 vr4 vr1 vr3 vr2_2 vr4_1) := by
  unfold z230 at hF
  refine bE hF fun vr7 h6 hF => ?_
  refine cE hF (fun h7 hF => ?_) fun h7 hF => ?_
  · refine cE hF (fun h8 hF => ?_) fun h8 hF => ?_
    · refine bE hF fun vr8 h9 hF => ?_
      refine cE hF (fun h10 hF => ?_) fun h10 hF => ?_
      · refine cE hF (fun h11 hF => ?_) fun h11 hF => ?_
        · refine cE hF (fun h12 hF => ?_) fun h12 hF => ?_
          · refine awp_region ?_
            refine aR 6 ?_
            refine aC (z221 h6) [] [] [5001] ?_
            refine aB h7 ?_
            refine aR 2 ?_
            refine aL api_Change.enc vr5 ?_
            refine aB h8 ?_
            refine aR 4 ?_
            refine aCb (z715 h9) [] [] [15001] h10 ?_
            refine aR 4 ?_
            refine aB h11 ?_
            refine aR 3 ?_
            refine aB h12 ?_
            refine aR 3 ?_
            refine aL api_Letter.enc vr2_2 ?_
            refine aR 3 ?_
            refine aE ?_
            exact oO hF [] [] rfl
          · refine awp_region ?_
            refine aR 6 ?_
            refine aC (z221 h6) [] [] [5001] ?_
            refine aB h7 ?_
            refine aR 2 ?_
            refine aL api_Change.enc vr5 ?_
            refine aB h8 ?_
            refine aR 4 ?_
            refine aCb (z715 h9) [] [] [15001] h10 ?_
            refine aR 4 ?_
            refine aB h11 ?_
            refine aR 3 ?_
            refine aB h12 ?_
            refine aR 7 ?_
            refine aE ?_
            exact oO hF [] [] rfl
        · refine awp_region ?_
          refine aR 6 ?_
          refine aC (z221 h6) [] [] [5001] ?_
          refine aB h7 ?_
          refine aR 2 ?_
          refine aL api_Change.enc vr5 ?_
          refine aB h8 ?_
          refine aR 4 ?_
          refine aCb (z715 h9) [] [] [15001] h10 ?_
          refine aR 4 ?_
          refine aB h11 ?_
          refine aR 11 ?_
          refine aE ?_
          exact oO hF [] [] rfl
      · refine awp_region ?_
        refine aR 6 ?_
        refine aC (z221 h6) [] [] [5001] ?_
        refine aB h7 ?_
        refine aR 2 ?_
        refine aL api_Change.enc vr5 ?_
        refine aB h8 ?_
        refine aR 4 ?_
        refine aCb (z715 h9) [] [] [15001] h10 ?_
        refine aR 16 ?_
        refine aE ?_
        exact oO hF [] [] rfl
    · refine awp_region ?_
      refine aR 6 ?_
      refine aC (z221 h6) [] [] [5001] ?_
      refine aB h7 ?_
      refine aR 2 ?_
      refine aL api_Change.enc vr5 ?_
      refine aB h8 ?_
      refine aR 21 ?_
      refine aE ?_
      exact oO hF [] [] rfl
  · refine awp_region ?_
    refine aR 6 ?_
    refine aC (z221 h6) [] [] [5001] ?_
    refine aB h7 ?_
    refine aR 25 ?_
    refine aE ?_
    exact oO hF [] [] rfl

def z228 (r : Bool) : TV × Mem := (.v (.one (.d (.bool r))), ⟨[], []⟩)

theorem z229 {r} (hF : z227 = some r) : Holds prog 18 [] ⟨[], []⟩ (Is (z228  r)) := by
  unfold z227 at hF
  refine holds_of_awp hΓ (fn := f18) (c := cB f18) (A := 0) (nx := 0) (by kernel_rfl) (by kernel_rfl) (by kernel_rfl) (by kernel_rfl) (by kernel_rfl) (by kernel_rfl) (lowc_of (by kernel_rfl)) ?_
  show Awp prog 0 71 (cB f18) _ _
  refine awp_seq ?_
  refine awp_region ?_
  refine aR 1 ?_
  refine aE ?_
  refine awp_seq ?_
  refine bE hF fun x h1 hF => ?_
  obtain ⟨vr5, vr6⟩ := x
  refine awp_region ?_
  refine aR 3 ?_
  refine aC (z1186 h1) [(0, 3000)] [] [] ?_
  refine aR 5 ?_
  refine aE ?_
  refine awp_to (oT (m := ⟨[], []⟩) (ts := [(1, .v (.one (.d (.lst (List.map api_Change.enc vr5))))), (2, .v (.one (.d (.int .i64 vr6))))]) (nx := 0) [] []) ?_
  refine awp_seq ?_
  refine bE hF fun x h2 hF => ?_
  obtain ⟨vr, vr2⟩ := x
  refine awp_region ?_
  refine aR 2 ?_
  refine aC (z623 h2) [(0, 1000)] [] [] ?_
  refine aR 5 ?_
  refine aE ?_
  refine awp_to (oT (m := ⟨[], []⟩) (ts := [(1, .v (.one (.d (.lst (List.map api_Change.enc vr5))))), (2, .v (.one (.d (.int .i64 vr6)))), (3, .v (.one (.d (.lst (List.map (encI .u8) vr))))), (4, .v (.one (.d (.int .i64 vr2))))]) (nx := 0) [] []) ?_
  refine awp_seq ?_
  refine bE hF fun x h3 hF => ?_
  obtain ⟨vr2_1, vr4⟩ := x
  refine awp_region ?_
  refine aC (z134 h3) [] [] [] ?_
  refine aR 6 ?_
  refine aE ?_
  refine awp_seq ?_
  refine bE hF fun x h4 hF => ?_
  obtain ⟨vr1, vr3⟩ := x
  refine awp_region ?_
  refine aR 1 ?_
  refine aC (z382 h4) [] [] [] ?_
  refine aR 5 ?_
  refine aE ?_
  refine awp_seq ?_
  refine bE hF fun x h5 hF => ?_
  obtain ⟨vr2_2, vr4_1⟩ := x
  refine awp_region ?_
  refine aR 2 ?_
  refine aC (z187 h5) [(0, 15000)] [] [] ?_
  refine aR 5 ?_
  refine aE ?_
  refine awp_to (oT (m := ⟨[], [(0, [.d (.int .i64 vr2_1.Major), .d (.int .i64 vr2_1.Minor), .d (.int .i64 vr2_1.Patch)])]⟩) (ts := [(1, .v (.one (.d (.lst (List.map api_Change.enc vr5))))), (2, .v (.one (.d (.int .i64 vr6)))), (3, .v (.one (.d (.lst (List.map (encI .u8) vr))))), (4, .v (.one (.d (.int .i64 vr2)))), (5, .v (.one (.box 0 0))), (6, .v (.one (.d (.int .i64 vr4)))), (7, .v (.one (.d (.str vr1)))), (8, .v (.one (.d (.int .i64 vr3)))), (9, .v (.one (.d (.lst (List.map api_Letter.enc vr2_2))))), (10, .v (.one (.d (.int .i64 vr4_1))))]) (nx := 1) [(0, 4000)] []) ?_
  refine awp_seq ?_
  refine awp_to (st' := z231 vr5 vr6 vr vr2 vr2_1 vr4 vr1 vr3 vr2_2 vr4_1) (oT [] []) ?_
  refine bE hF fun vx1 h13 hF => ?_
  refine awp_sub (z236 vr5 vr6 vr vr2 vr2_1 vr4 vr1 vr3 vr2_2 vr4_1 h13) ?_
  refine awp_ret ?_
  exact oF hF [] []

/-! ### slices.IsSorted[[]string,string] -/
def z759 : Unit ⊕ Unit → AEx
  | .inl _ => .exit 0
  | .inr _ => .ret

def z758 (qx : List (List UInt8)) : Unit ⊕ Unit → St
  | .inl _ => Mem.st ⟨[], []⟩ (tl []) 0
  | .inr _ => Mem.st ⟨[], []⟩ (tl [(2, .v (.one (.d (.bool false))))]) 0

def z757 (qx : List (List UInt8)) : Int → St
  | vi => Mem.st ⟨[], []⟩ (tl [(0, .v (.one (.d (.lst (List.map encS qx))))), (3, .v (.one (.d (.int .i64 vi))))]) 0

theorem z760 (qx : List (List UInt8)) (vi : Int) (r : (Int) ⊕ (Unit ⊕ Unit)) (hF : z756 qx vi = some r) : Awp prog 0 21 (cL (cL (cR (cL (cR (cB f19)))))) (Out 0 (kk z759) (SS (z757 qx) (z758 qx)) r) (z757 qx vi) := by
  unfold z756 at hF
  refine awp_seq ?_
  refine awp_seq ?_
  refine awp_region ?_
  refine aR 2 ?_
  refine aE ?_
  refine cE hF (fun h1 hF => ?_) fun h1 hF => ?_
  · refine awp_true (by kernel_rfl) h1 ?_
    refine awp_skip ?_
    refine awp_seq ?_
    refine awp_block ?_
    refine awp_seq ?_
    refine bE hF fun vy2 h2 hF => ?_
    refine bE hF fun vy3 h3 hF => ?_
    refine bE hF fun vr1 h4 hF => ?_
    refine aD ?_
    refine dR 2 ?_
    refine dX (x_idx encS h2) ?_
    refine dR 4 ?_
    refine dX (x_idx encS h3) ?_
    refine dR 1 ?_
    refine dC (z147 h4) [] [] [] ?_
    refine dE ?_
    refine cE hF (fun h5 hF => ?_) fun h5 hF => ?_
    · refine awp_true (by kernel_rfl) h5 ?_
      refine awp_seq ?_
      refine awp_region ?_
      refine aR 1 ?_
      refine aE ?_
      refine awp_ret ?_
      exact oO hF [] [] rfl
    · refine awp_false (by kernel_rfl) h5 ?_
      refine awp_skip ?_
      refine awp_region ?_
      refine aR 3 ?_
      refine aE ?_
      exact oO hF [] [] rfl
  · refine awp_false (by kernel_rfl) h1 ?_
    refine awp_exit ?_
    exact oO hF [] [] rfl

def z754 (qx : List (List UInt8)) (r : Bool) : TV × Mem := (.v (.one (.d (.bool r))), ⟨[], []⟩)

theorem z755 {qx : List (List UInt8)} {r} (hF : z753 qx = some r) : Holds prog 19 [.v (.one (.d (.lst (List.map encS qx))))] ⟨[], []⟩ (Is (z754 qx r)) := by
  unfold z753 at hF
  refine holds_of_awp hΓ (fn := f19) (c := cB f19) (A := 0) (nx := 0) (by kernel_rfl) (by kernel_rfl) (by kernel_rfl) (by kernel_rfl) (by kernel_rfl) (by kernel_rfl) (lowc_of (by kernel_rfl)) ?_
  show Awp prog 0 21 (cB f19) _ _
  refine awp_seq ?_
  refine awp_region ?_
  refine aR 1 ?_
  refine aE ?_
  refine awp_seq ?_
  refine awp_seq ?_
  refine awp_region ?_
  refine aR 1 ?_
  refine aL encS qx ?_
  refine aR 2 ?_
  refine aE ?_
  refine awp_block ?_
  refine awp_to (st' := z757 qx (IntKind.wrap .i64 ((qx.length : Int) - 1))) (oT [] []) ?_
  refine bE hF fun x h6 hF => ?_
  rcases x with _ | _
  · refine awp_sub (awp_loop' (z757 qx) z759 (z758 qx) (by intro x; rcases x with x | x <;> exact fun h => nomatch h) h6 (z760 qx)) ?_
    refine awp_seq ?_
    refine awp_region ?_
    refine aR 1 ?_
    refine aE ?_
    refine awp_ret ?_
    exact oF hF [] []
  · refine awp_sub (awp_loop' (z757 qx) z759 (z758 qx) (by intro x; rcases x with x | x <;> exact fun h => nomatch h) h6 (z760 qx)) ?_
    exact oF hF [] []

/-! ### beaconfleet/fleetkeep2.CellsNest -/
def z200 : Bool → AEx
  | _ => .normal

def z199 (vr : Int) (vr1 : Int) (vs2 : z245) (vr2 : Int) (vr1_1 : List UInt8) (vr3 : Int) (vr1_2 : List UInt8) (vr3_1 : Int) (vr2_1 : api_Spot) (vr3_2 : Int) (vr4 : Int) : Bool → St
  | vx => Mem.st ⟨[], [(0, [.d (.lst (List.map (encI .i64) vs2.L)), .d (.int .i64 vs2.at_)])]⟩ (tl [(3, .v (.one (.box 0 0))), (98, .v (.one (.d (.bool vx))))]) 1

def z198 (vr : Int) (vr1 : Int) (vs2 : z245) (vr2 : Int) (vr1_1 : List UInt8) (vr3 : Int) (vr1_2 : List UInt8) (vr3_1 : Int) (vr2_1 : api_Spot) (vr3_2 : Int) (vr4 : Int) : St := Mem.st ⟨[], [(0, [.d (.lst (List.map (encI .i64) vs2.L)), .d (.int .i64 vs2.at_)]), (1, [.d (.int .i64 vr), .d (.int .i64 vr1)]), (2, [.d (.int .i64 vr2_1.X), .d (.int .i64 vr2_1.Y)])]⟩ (tl [(3, .v (.one (.box 0 0))), (4, .v (.one (.box 1 0))), (5, .v (.one (.d (.int .i64 vr2)))), (6, .v (.one (.d (.str vr1_1)))), (7, .v (.one (.d (.int .i64 vr3)))), (8, .v (.one (.d (.str vr1_2)))), (9, .v (.one (.d (.int .i64 vr3_1)))), (10, .v (.one (.box 2 0))), (11, .v (.one (.d (.int .i64 vr3_2)))), (12, .v (.one (.d (.int .i64 vr4))))]) 3

theorem z201 (vr : Int) (vr1 : Int) (vs2 : z245) (vr2 : Int) (vr1_1 : List UInt8) (vr3 : Int) (vr1_2 : List UInt8) (vr3_1 : Int) (vr2_1 : api_Spot) (vr3_2 : Int) (vr4 : Int) {r} (hF : z197 vr vr1 vr2 vr1_1 vr3 vr1_2 vr3_1 vr2_1 vr3_2 vr4 = some r) : Awp prog 0 156 (cL (cL (cR (cR (cR (cR (cR (cR (cB f4))))))))) (Out 0 z200 (z199 vr vr1 vs2 vr2 vr1_1 vr3 vr1_2 vr3_1 vr2_1 vr3_2 vr4) r) (z198 vr vr1 vs2 vr2 vr1_1 vr3 vr1_2 vr3_1 vr2_1 vr3_2 vr4) := by
  unfold z197 at hF
  refine bE hF fun vr5 h7 hF => ?_
  refine cE hF (fun h8 hF => ?_) fun h8 hF => ?_
  · refine awp_region ?_
    refine aR 4 ?_
    refine aC (z221 h7) [] [] [3003] ?_
    refine aB h8 ?_
    refine aR 46 ?_
    refine aE ?_
    exact oO hF [] [] rfl
  · refine cE hF (fun h9 hF => ?_) fun h9 hF => ?_
    · refine awp_region ?_
      refine aR 4 ?_
      refine aC (z221 h7) [] [] [3003] ?_
      refine aB h8 ?_
      refine aR 4 ?_
      refine aB h9 ?_
      refine aR 41 ?_
      refine aE ?_
      exact oO hF [] [] rfl
    · refine bE hF fun vs3 h10 hF => ?_
      refine cE hF (fun h11 hF => ?_) fun h11 hF => ?_
      · refine awp_region ?_
        refine aR 4 ?_
        refine aC (z221 h7) [] [] [3003] ?_
        refine aB h8 ?_
        refine aR 4 ?_
        refine aB h9 ?_
        refine aR 5 ?_
        refine aX (x_sliceS h10) ?_
        refine aR 1 ?_
        refine aB h11 ?_
        refine aR 33 ?_
        refine aE ?_
        exact oO hF [] [] rfl
      · refine cE hF (fun h12 hF => ?_) fun h12 hF => ?_
        · refine awp_region ?_
          refine aR 4 ?_
          refine aC (z221 h7) [] [] [3003] ?_
          refine aB h8 ?_
          refine aR 4 ?_
          refine aB h9 ?_
          refine aR 5 ?_
          refine aX (x_sliceS h10) ?_
          refine aR 1 ?_
          refine aB h11 ?_
          refine aR 6 ?_
          refine aB h12 ?_
          refine aR 26 ?_
          refine aE ?_
          exact oO hF [] [] rfl
        · refine cE hF (fun h13 hF => ?_) fun h13 hF => ?_
          · refine awp_region ?_
            refine aR 4 ?_
            refine aC (z221 h7) [] [] [3003] ?_
            refine aB h8 ?_
            refine aR 4 ?_
            refine aB h9 ?_
            refine aR 5 ?_
            refine aX (x_sliceS h10) ?_
            refine aR 1 ?_
            refine aB h11 ?_
            refine aR 6 ?_
            refine aB h12 ?_
            refine aR 8 ?_
            refine aB h13 ?_
            refine aR 17 ?_
            refine aE ?_
            exact oO hF [] [] rfl
          · refine cE hF (fun h14 hF => ?_) fun h14 hF => ?_
            · refine awp_region ?_
              refine aR 4 ?_
              refine aC (z221 h7) [] [] [3003] ?_
              refine aB h8 ?_
              refine aR 4 ?_
              refine aB h9 ?_
              refine aR 5 ?_
              refine aX (x_sliceS h10) ?_
              refine aR 1 ?_
              refine aB h11 ?_
              refine aR 6 ?_
              refine aB h12 ?_
              refine aR 8 ?_
              refine aB h13 ?_
              refine aR 6 ?_
              refine aB h14 ?_
              refine aR 10 ?_
              refine aE ?_
              exact oO hF [] [] rfl
            · refine awp_region ?_
              refine aR 4 ?_
              refine aC (z221 h7) [] [] [3003] ?_
              refine aB h8 ?_
              refine aR 4 ?_
              refine aB h9 ?_
              refine aR 5 ?_
              refine aX (x_sliceS h10) ?_
              refine aR 1 ?_
              refine aB h11 ?_
              refine aR 6 ?_
              refine aB h12 ?_
              refine aR 8 ?_
              refine aB h13 ?_
              refine aR 6 ?_
              refine aB h14 ?_
              refine aR 10 ?_
              refine aE ?_
              exact oO hF [] [] rfl

def z205 : Bool → AEx
  | _ => .normal

def z204 (vr2_3 : Int) (vr3_3 : Int) (vr1_3 : List UInt8) (vr3_4 : Int) (vr1_4 : List (List UInt8)) (vr2_4 : Int) : Bool → St
  | vx2 => Mem.st ⟨[], []⟩ (tl [(7, .v (.one (.d (.int .i64 vr3_3)))), (9, .v (.one (.d (.int .i64 vr3_4)))), (12, .v (.one (.d (.int .i64 vr2_4)))), (15, .v (.one (.d (.int .i64 vr2_3)))), (16, .v (.one (.d (.str vr1_3)))), (17, .v (.one (.d (.lst (List.map encS vr1_4))))), (128, .v (.one (.d (.bool vx2))))]) 0

def z203 (vr2_3 : Int) (vr3_3 : Int) (vr1_3 : List UInt8) (vr3_4 : Int) (vr1_4 : List (List UInt8)) (vr2_4 : Int) : St := Mem.st ⟨[], []⟩ (tl [(7, .v (.one (.d (.int .i64 vr3_3)))), (9, .v (.one (.d (.int .i64 vr3_4)))), (12, .v (.one (.d (.int .i64 vr2_4)))), (15, .v (.one (.d (.int .i64 vr2_3)))), (16, .v (.one (.d (.str vr1_3)))), (17, .v (.one (.d (.lst (List.map encS vr1_4)))))]) 0

theorem z206 (vr2_3 : Int) (vr3_3 : Int) (vr1_3 : List UInt8) (vr3_4 : Int) (vr1_4 : List (List UInt8)) (vr2_4 : Int) {r} (hF : z202 vr3_3 vr3_4 vr2_4 = some r) : Awp prog 0 156 (cL (cL (cR (cR (cR (cR (cR (cR (cR (cR (cR (cR (cR (cB f4)))))))))))))) (Out 0 z205 (z204 vr2_3 vr3_3 vr1_3 vr3_4 vr1_4 vr2_4) r) (z203 vr2_3 vr3_3 vr1_3 vr3_4 vr1_4 vr2_4) := by
  unfold z202 at hF
  refine cE hF (fun h22 hF => ?_) fun h22 hF => ?_
  · refine awp_region ?_
    refine aR 1 ?_
    refine aB h22 ?_
    refine aR 8 ?_
    refine aE ?_
    exact oO hF [] [] rfl
  · refine cE hF (fun h23 hF => ?_) fun h23 hF => ?_
    · refine awp_region ?_
      refine aR 1 ?_
      refine aB h22 ?_
      refine aR 2 ?_
      refine aB h23 ?_
      refine aR 5 ?_
      refine aE ?_
      exact oO hF [] [] rfl
    · refine awp_region ?_
      refine aR 1 ?_
      refine aB h22 ?_
      refine aR 2 ?_
      refine aB h23 ?_
      refine aR 5 ?_
      refine aE ?_
      exact oO hF [] [] rfl

def z210 : Bool → AEx
  | _ => .normal

def z209 (vr3_3 : Int) (vr3_4 : Int) (vr2_4 : Int) : Bool → St
  | vx3 => Mem.st ⟨[], []⟩ (tl [(2, .v (.one (.d (.bool vx3))))]) 0

def z208 (vr3_3 : Int) (vr3_4 : Int) (vr2_4 : Int) : St := Mem.st ⟨[], []⟩ (tl [(7, .v (.one (.d (.int .i64 vr3_3)))), (9, .v (.one (.d (.int .i64 vr3_4)))), (12, .v (.one (.d (.int .i64 vr2_4))))]) 0

theorem z211 (vr3_3 : Int) (vr3_4 : Int) (vr2_4 : Int) {r} (hF : z207 vr3_3 vr3_4 vr2_4 = some r) : Awp prog 0 156 (cL (cL (cR (cL (cR (cR (cR (cR (cR (cR (cR (cR (cR (cR (cR (cB f4)))))))))))))))) (Out 0 z210 (z209 vr3_3 vr3_4 vr2_4) r) (z208 vr3_3 vr3_4 vr2_4) := by
  unfold z207 at hF
  refine cE hF (fun h26 hF => ?_) fun h26 hF => ?_
  · refine cE hF (fun h27 hF => ?_) fun h27 hF => ?_
    · refine cE hF (fun h28 hF => ?_) fun h28 hF => ?_
      · refine bE hF fun vr9_1 h29 hF => ?_
        refine awp_region ?_
        refine aR 1 ?_
        refine aB h26 ?_
        refine aR 2 ?_
        refine aB h27 ?_
        refine aR 3 ?_
        refine aB h28 ?_
        refine aR 2 ?_
        refine aC (z229 h29) [] [] [] ?_
        refine aR 2 ?_
        refine aE ?_
        exact oO hF [] [] rfl
      · refine awp_region ?_
        refine aR 1 ?_
        refine aB h26 ?_
        refine aR 2 ?_
        refine aB h27 ?_
        refine aR 3 ?_
        refine aB h28 ?_
        refine aR 5 ?_
        refine aE ?_
        exact oO hF [] [] rfl
    · refine awp_region ?_
      refine aR 1 ?_
      refine aB h26 ?_
      refine aR 2 ?_
      refine aB h27 ?_
      refine aR 9 ?_
      refine aE ?_
      exact oO hF [] [] rfl
  · refine awp_region ?_
    refine aR 1 ?_
    refine aB h26 ?_
    refine aR 12 ?_
    refine aE ?_
    exact oO hF [] [] rfl

def z217 : Bool → AEx
  | _ => .normal

def z216 (vr2_3 : Int) (vr1_3 : List UInt8) (vr1_4 : List (List UInt8)) : Bool → St
  | vx4 => Mem.st ⟨[], []⟩ (tl [(2, .v (.one (.d (.bool vx4))))]) 0

def z215 (vr2_3 : Int) (vr1_3 : List UInt8) (vr1_4 : List (List UInt8)) : St := Mem.st ⟨[], []⟩ (tl [(15, .v (.one (.d (.int .i64 vr2_3)))), (16, .v (.one (.d (.str vr1_3)))), (17, .v (.one (.d (.lst (List.map encS vr1_4)))))]) 0

theorem z218 (vr2_3 : Int) (vr1_3 : List UInt8) (vr1_4 : List (List UInt8)) {r} (hF : z214 vr2_3 vr1_3 vr1_4 = some r) : Awp prog 0 156 (cL (cR (cR (cR (cR (cR (cR (cR (cR (cR (cR (cR (cR (cB f4)))))))))))))) (Out 0 z217 (z216 vr2_3 vr1_3 vr1_4) r) (z215 vr2_3 vr1_3 vr1_4) := by
  unfold z214 at hF
  refine bE hF fun vr2_5 h31 hF => ?_
  refine cE hF (fun h32 hF => ?_) fun h32 hF => ?_
  · refine cE hF (fun h33 hF => ?_) fun h33 hF => ?_
    · refine bE hF fun vr9_2 h34 hF => ?_
      refine awp_region ?_
      refine aR 1 ?_
      refine aCb (z755 h31) [] [] [] h32 ?_
      refine aR 2 ?_
      refine aB h33 ?_
      refine aR 7 ?_
      refine aC (z229 h34) [] [] [] ?_
      refine aR 2 ?_
      refine aE ?_
      exact oO hF [] [] rfl
    · refine bE hF fun vr1_5 h35 hF => ?_
      refine cE hF (fun h36 hF => ?_) fun h36 hF => ?_
      · refine bE hF fun vr9_3 h37 hF => ?_
        refine awp_region ?_
        refine aR 1 ?_
        refine aCb (z755 h31) [] [] [] h32 ?_
        refine aR 2 ?_
        refine aB h33 ?_
        refine aR 3 ?_
        refine aCb (z712 h35) [] [] [] h36 ?_
        refine aR 3 ?_
        refine aC (z229 h37) [] [] [] ?_
        refine aR 2 ?_
        refine aE ?_
        exact oO hF [] [] rfl
      · refine awp_region ?_
        refine aR 1 ?_
        refine aCb (z755 h31) [] [] [] h32 ?_
        refine aR 2 ?_
        refine aB h33 ?_
        refine aR 3 ?_
        refine aCb (z712 h35) [] [] [] h36 ?_
        refine aR 6 ?_
        refine aE ?_
        exact oO hF [] [] rfl
  · refine awp_region ?_
    refine aR 1 ?_
    refine aCb (z755 h31) [] [] [] h32 ?_
    refine aR 13 ?_
    refine aE ?_
    exact oO hF [] [] rfl

def z196 (qx : List Int) (r : Bool) : TV × Mem := (.v (.one (.d (.bool r))), ⟨[], []⟩)

theorem fleetkeep2_CellsNest_ok {qx : List Int} {r} (hF : fleetkeep2_CellsNest qx = some r) : Holds prog 4 [.v (.one (.d (.lst (List.map (encI .i64) qx))))] ⟨[], []⟩ (Is (z196 qx r)) := by
  unfold fleetkeep2_CellsNest at hF
  refine holds_of_awp hΓ (fn := f4) (c := cB f4) (A := 0) (nx := 0) (by kernel_rfl) (by kernel_rfl) (by kernel_rfl) (by kernel_rfl) (by kernel_rfl) (by kernel_rfl) (lowc_of (by kernel_rfl)) ?_
  show Awp prog 0 156 (cB f4) _ _
  refine awp_seq ?_
  refine awp_region ?_
  refine aR 1 ?_
  refine aE ?_
  refine awp_seq ?_
  refine awp_region ?_
  refine aR 4 ?_
  refine aE ?_
  refine awp_seq ?_
  refine bE hF fun x h1 hF => ?_
  obtain ⟨vs, vr⟩ := x
  refine bE hF fun x h2 hF => ?_
  obtain ⟨vs1, vr1⟩ := x
  refine bE hF fun x h3 hF => ?_
  obtain ⟨vs2, vr2⟩ := x
  refine awp_region ?_
  refine aR 1 ?_
  refine aC (z260 h1) [(0, 3000)] [] [] ?_
  refine aR 1 ?_
  refine aC (z260 h2) [(0, 3000)] [] [] ?_
  refine aR 2 ?_
  refine aC (z260 h3) [(0, 3000)] [] [] ?_
  refine aR 3 ?_
  refine aE ?_
  refine awp_seq ?_
  refine bE hF fun x h4 hF => ?_
  obtain ⟨vr1_1, vr3⟩ := x
  refine awp_region ?_
  refine aR 2 ?_
  refine aC (z382 h4) [] [] [] ?_
  refine aR 5 ?_
  refine aE ?_
  refine awp_seq ?_
  refine bE hF fun x h5 hF => ?_
  obtain ⟨vr1_2, vr3_1⟩ := x
  refine awp_region ?_
  refine aR 3 ?_
  refine aC (z382 h5) [] [] [] ?_
  refine aR 5 ?_
  refine aE ?_
  refine awp_seq ?_
  refine bE hF fun x h6 hF => ?_
  obtain ⟨vr2_1, vr3_2, vr4⟩ := x
  refine awp_region ?_
  refine aR 1 ?_
  refine aC (z375 h6) [] [] [] ?_
  refine aR 8 ?_
  refine aE ?_
  refine awp_seq ?_
  refine awp_seq ?_
  refine awp_to (st' := z198 vr vr1 vs2 vr2 vr1_1 vr3 vr1_2 vr3_1 vr2_1 vr3_2 vr4) (oT [(0, 3000), (1, 12000), (2, 38000)] []) ?_
  refine bE hF fun vx1 h15 hF => ?_
  refine awp_sub (z201 vr vr1 vs2 vr2 vr1_1 vr3 vr1_2 vr3_1 vr2_1 vr3_2 vr4 h15) ?_
  refine cE hF (fun h16 hF => ?_) fun h16 hF => ?_
  · refine awp_true (by kernel_rfl) h16 ?_
    refine awp_seq ?_
    refine awp_region ?_
    refine aR 1 ?_
    refine aE ?_
    refine awp_ret ?_
    exact oF hF [] []
  · refine awp_false (by kernel_rfl) h16 ?_
    refine awp_skip ?_
    refine awp_seq ?_
    refine bE hF fun x h17 hF => ?_
    obtain ⟨vs15, vr9⟩ := x
    refine bE hF fun vr2_2 h18 hF => ?_
    refine awp_region ?_
    refine aR 1 ?_
    refine aC (z263 h17) [] [] [] ?_
    refine aR 1 ?_
    refine aC (z257 h18) [] [] [] ?_
    refine aR 4 ?_
    refine aE ?_
    refine awp_seq ?_
    refine bE hF fun x h19 hF => ?_
    obtain ⟨vr2_3, vr3_3⟩ := x
    refine awp_region ?_
    refine aR 2 ?_
    refine aC (z406 h19) [] [] [1002] ?_
    refine aR 5 ?_
    refine aE ?_
    refine awp_seq ?_
    refine bE hF fun x h20 hF => ?_
    obtain ⟨vr1_3, vr3_4⟩ := x
    refine awp_region ?_
    refine aR 1 ?_
    refine aC (z382 h20) [] [] [] ?_
    refine aR 5 ?_
    refine aE ?_
    refine awp_seq ?_
    refine bE hF fun x h21 hF => ?_
    obtain ⟨vr1_4, vr2_4⟩ := x
    refine awp_to (oT (m := ⟨[], [(0, [.d (.lst (List.map (encI .i64) vs15.L)), .d (.int .i64 (IntKind.wrap .i64 ((IntKind.wrap .i64 (vs15.at_ + 1)) + 1)))]), (4001, [.d (.str ([102] : List UInt8)), .d (.lst (List.map api_Spot.enc vr9))]), (5001, [.d (.int .i64 vr2_2.X), .d (.int .i64 vr2_2.Y)])]⟩) (ts := [(7, .v (.one (.d (.int .i64 vr3_3)))), (9, .v (.one (.d (.int .i64 vr3_4)))), (13, .v (.one (.box 4001 0))), (15, .v (.one (.d (.int .i64 vr2_3)))), (16, .v (.one (.d (.str vr1_3))))]) (nx := 23001) [] []) ?_
    refine awp_region ?_
    refine aR 1 ?_
    refine aC (z395 h21) [] [] [] ?_
    refine aR 5 ?_
    refine aE ?_
    refine awp_to (oT (m := ⟨[], []⟩) (ts := [(7, .v (.one (.d (.int .i64 vr3_3)))), (9, .v (.one (.d (.int .i64 vr3_4)))), (12, .v (.one (.d (.int .i64 vr2_4)))), (15, .v (.one (.d (.int .i64 vr2_3)))), (16, .v (.one (.d (.str vr1_3)))), (17, .v (.one (.d (.lst (List.map encS vr1_4)))))]) (nx := 0) [] []) ?_
    refine awp_seq ?_
    refine awp_seq ?_
    refine awp_to (st' := z203 vr2_3 vr3_3 vr1_3 vr3_4 vr1_4 vr2_4) (oT [] []) ?_
    refine bE hF fun vx2_1 h24 hF => ?_
    refine awp_sub (z206 vr2_3 vr3_3 vr1_3 vr3_4 vr1_4 vr2_4 h24) ?_
    refine cE hF (fun h25 hF => ?_) fun h25 hF => ?_
    · refine awp_true (by kernel_rfl) h25 ?_
      refine awp_seq ?_
      refine awp_to (st' := z208 vr3_3 vr3_4 vr2_4) (oT [] []) ?_
      refine bE hF fun vx3_1 h30 hF => ?_
      refine awp_sub (z211 vr3_3 vr3_4 vr2_4 h30) ?_
      refine awp_ret ?_
      exact oF hF [] []
    · refine awp_false (by kernel_rfl) h25 ?_
      refine awp_skip ?_
      refine awp_seq ?_
      refine awp_to (st' := z215 vr2_3 vr1_3 vr1_4) (oT [] []) ?_
      refine bE hF fun vx4_1 h38 hF => ?_
      refine awp_sub (z218 vr2_3 vr1_3 vr1_4 h38) ?_
      refine awp_ret ?_
      exact oF hF [] []

end Go.Eng
