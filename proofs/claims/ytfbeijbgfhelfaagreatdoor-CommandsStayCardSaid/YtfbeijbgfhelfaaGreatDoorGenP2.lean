/-
The code of the Go functions that the law CommandsStay reaches does what the plain functions say, part 2.
-/
import Derived.Test.YtfbeijbgfhelfaaGreatDoorGenP1

namespace Go.Eng

open Go Go.Proofs.Tryz

set_option linter.unusedVariables false

set_option maxRecDepth 20000

set_option maxHeartbeats 0

/-! ### slices.BinarySearchFunc[[]beaconfleet/api.Prop,beaconfleet/api.Prop,string] -/
def z652 : Int → AEx
  | _ => .exit 0

def z651 (qx : List api_Prop) (qtarget : List UInt8) : Int → St
  | vi1 => Mem.st ⟨[], []⟩ (tl [(0, .c (.l api_Prop.enc qx)), (1, .c (.s qtarget)), (2, .c (.fn 270 [])), (8, .i (qx.length : Int)), (9, .i vi1)]) 0

def z650 (qx : List api_Prop) (qtarget : List UInt8) : Int × Int → St
  | (vi, vj) => Mem.st ⟨[], []⟩ (tl [(0, .c (.l api_Prop.enc qx)), (1, .c (.s qtarget)), (2, .c (.fn 270 [])), (8, .i (qx.length : Int)), (9, .i vi), (10, .i vj)]) 0

theorem z653 (qx : List api_Prop) (qtarget : List UInt8) (s : Int × Int) (r : (Int × Int) ⊕ (Int)) (hF : z649 qx qtarget s = some r) : Awp prog 0 49 (cL (cL (cL (cR (cR (cR (cB f269))))))) (Out 0 (kk z652) (SS (z650 qx qtarget) (z651 qx qtarget)) r) (z650 qx qtarget s) := by
  obtain ⟨vi, vj⟩ := s
  unfold z649 at hF
  refine awp_seq (sR 3 (cE hF (fun h1 hF => ?_) fun h1 hF => ?_))
  · refine tT h1 (awp_skip (awp_block (sR 7 (awp_seq (bE hF fun vy1 h2 hF => bE hF fun _ h3 hF => awp_region (aR 3 (aX (x_idx api_Prop.enc h2) (aR 2 (aC (z1246 h3) [] [] [] (aR 1 (aE ?_)))))))))))
    refine cE hF (fun h4 hF => ?_) fun h4 hF => ?_
    · exact tT h4 (gR 3 (oO hF [] [] rfl))
    · exact tF h4 (gR 2 (oO hF [] [] rfl))
  · refine tF h1 (awp_exit ?_)
    exact oO hF [] [] rfl

def z656 (qx : List api_Prop) (qtarget : List UInt8) (vi1_1 : Int) : Bool → St
  | vx => Mem.st ⟨[], []⟩ (tl [(6, .i vi1_1), (7, .b vx)]) 0

def z655 (qx : List api_Prop) (qtarget : List UInt8) (vi1_1 : Int) : St := Mem.st ⟨[], []⟩ (tl [(0, .c (.l api_Prop.enc qx)), (1, .c (.s qtarget)), (2, .c (.fn 270 [])), (8, .i (qx.length : Int)), (9, .i vi1_1)]) 0

theorem z657 (qx : List api_Prop) (qtarget : List UInt8) (vi1_1 : Int) {r} (hF : z654 qx qtarget vi1_1 = some r) : Awp prog 0 49 (cL (cR (cR (cR (cR (cB f269)))))) (Out 0 nrm (z656 qx qtarget vi1_1) r) (z655 qx qtarget vi1_1) := by
  unfold z654 at hF
  refine cE hF (fun h6 hF => ?_) fun h6 hF => ?_
  · refine bE hF fun vy2 h7 hF => bE hF fun _ h8 hF => awp_region (aR 3 (aB h6 (aR 4 (aX (x_idx api_Prop.enc h7) (aR 2 (aC (z1246 h8) [] [] [] (aR 4 (aE ?_))))))))
    exact oO hF [] [] rfl
  · refine awp_region (aR 3 (aB h6 (aR 12 (aE ?_))))
    exact oO hF [] [] rfl

def z647 (qx : List api_Prop) (qtarget : List UInt8) (r : Int × Bool) : TV × Mem := (.tup [.one (.i r.1), .one (.t r.2)], ⟨[], []⟩)

theorem z648 {qx : List api_Prop} {qtarget : List UInt8} {r} (hF : z646 qx qtarget = some r) : Holds prog 269 [.c (.l api_Prop.enc qx), .c (.s qtarget), .c (.fn 270 [])] ⟨[], []⟩ (Is (z647 qx qtarget r)) := by
  unfold z646 at hF
  refine hW f269 49 0 0 ?_
  refine sR 2 (awp_seq (awp_region (aR 1 (aL api_Prop.enc qx (aR 1 (aE ?_))))))
  refine sR 3 (awp_seq (awp_block (awp_to (st' := z650 qx qtarget (0, (qx.length : Int))) (oT [] []) ?_)))
  refine bE hF fun vi1_1 h5 hF => awp_sub (awp_loop' (z650 qx qtarget) z652 (z651 qx qtarget) (by intro x; exact fun h => nomatch h) h5 (z653 qx qtarget)) ?_
  refine awp_seq (awp_to (st' := z655 qx qtarget vi1_1) (oT [] []) ?_)
  refine bE hF fun vx1 h9 hF => awp_sub (z657 qx qtarget vi1_1 h9) ?_
  exact awp_ret (oF hF [] [])

/-! ### beaconfleet/twin.find -/
def z1247 (ql : List api_Prop) (qname : List UInt8) (r : Int) : TV × Mem := (.i r, ⟨[], []⟩)

theorem z1251 {ql : List api_Prop} {qname : List UInt8} {r} (hF : twin_find ql qname = some r) : Holds prog 212 [.c (.l api_Prop.enc ql), .c (.s qname)] ⟨[], []⟩ (Is (z1247 ql qname r)) := by
  unfold twin_find at hF
  refine hW f212 16 0 0 ?_
  refine sR 1 (awp_seq (bE hF fun x h1 hF => ?_))
  obtain ⟨vr, vr1⟩ := x
  refine awp_region (aR 2 (aC (z648 h1) [] [] [] (aR 5 (aE ?_))))
  refine awp_seq (sR 2 (cE hF (fun h2 hF => ?_) fun h2 hF => ?_))
  · exact tT h2 (sR 1 (awp_ret (oF hF [] [])))
  · exact tF h2 (awp_skip (sR 2 (awp_ret (oF hF [] []))))

/-! ### beaconfleet/twin.valueOf -/
def z1277 (ql : List api_Prop) (qname : List UInt8) (r : api_Value) : TV × Mem := (.v (.agg [.i r.Kind, .t r.Flag, .i r.Number, .s r.Words]), ⟨[], []⟩)

theorem z1281 {ql : List api_Prop} {qname : List UInt8} {r} (hF : z1276 ql qname = some r) : Holds prog 120 [.c (.l api_Prop.enc ql), .c (.s qname)] ⟨[], []⟩ (Is (z1277 ql qname r)) := by
  unfold z1276 at hF
  refine hW f120 17 0 0 ?_
  refine sR 1 (awp_seq (awp_seq (bE hF fun vr2 h1 hF => awp_region (aR 2 (aC (z1251 h1) [] [] [] (aR 1 (aE ?_)))))))
  refine sR 2 (cE hF (fun h2 hF => ?_) fun h2 hF => ?_)
  · refine tT h2 (awp_seq (bE hF fun vy h3 hF => awp_region (aR 2 (aX (x_idx api_Prop.enc h3) (aR 3 (aE ?_))))))
    exact awp_ret (oF hF [] [])
  · exact tF h2 (awp_skip (sR 2 (awp_ret (oF hF [] []))))

/-! ### unicode/utf8.RuneCountInString -/
def z1295 : Int → AEx
  | _ => .exit 0

def z1294 (qs : List UInt8) : Int → St
  | vn1 => Mem.st ⟨[], []⟩ (tl [(2, .i vn1)]) 0

def z1293 (qs : List UInt8) : Nat × Int → St
  | (vpos, vn) => Mem.st ⟨[], [(0, [.iters qs vpos])]⟩ (tl [(2, .i vn), (4, .c (.box 0 0))]) 1

theorem z1296 (qs : List UInt8) (s : Nat × Int) (r : (Nat × Int) ⊕ (Int)) (hF : z1292 qs s = some r) : Awp prog 0 10 (cL (cL (cR (cL (cR (cB f341)))))) (Out 0 (kk z1295) (SS (z1293 qs) (z1294 qs)) r) (z1293 qs s) := by
  obtain ⟨vpos, vn⟩ := s
  unfold z1292 at hF
  refine awp_seq (cE hF (fun h1 hF => ?_) fun h1 hF => ?_)
  · refine bE hF fun vd1 h2 hF => awp_region (aX (x_next 0 qs vpos h1 h2) (aR 1 (aE ?_)))
    exact awp_seq (tT rfl (awp_skip (awp_block (gR 3 (oO hF [] [] rfl)))))
  · refine awp_region (aX (x_nextE 0 qs vpos h1) (aR 1 (aE ?_)))
    refine awp_seq (tF rfl (awp_exit ?_))
    exact oO hF [] [] rfl

def z1290 (qs : List UInt8) (r : Int) : TV × Mem := (.i r, ⟨[], []⟩)

theorem z1291 {qs : List UInt8} {r} (hF : z1289 qs = some r) : Holds prog 341 [.c (.s qs)] ⟨[], []⟩ (Is (z1290 qs r)) := by
  unfold z1289 at hF
  refine hW f341 10 0 0 ?_
  refine sR 1 (awp_seq (sR 2 (awp_block (awp_to (st' := z1293 qs ((0 : Nat), 0)) (oT [(0, 2000)] []) ?_))))
  refine bE hF fun vn1_1 h3 hF => awp_sub (awp_loop' (z1293 qs) z1295 (z1294 qs) (by intro x; exact fun h => nomatch h) h3 (z1296 qs)) ?_
  exact sR 2 (awp_ret (oF hF [] []))

/-! ### unicode/utf8.decodeRuneInStringSlow -/
def z1300 (qx : List UInt8) (r : Unit) : TV × Mem := (.tup [.one (.d (.int .i32 65533)), .one (.i 0)], ⟨[], []⟩)

theorem z1301 {qx : List UInt8} {r} (hF : z1299 qx = some r) : Holds prog 354 [.c (.s qx)] ⟨[], []⟩ (Is (z1300 qx r)) := by
  unfold z1299 at hF
  refine hW f354 117 0 0 ?_
  refine sR 2 (sR 3 (awp_seq (sR 2 (cE hF (fun h1 hF => ?_) fun h1 hF => ?_))))
  · exact tT h1 (sR 2 (awp_ret (oF hF [] [])))
  · refine tF h1 (awp_skip (awp_seq (bE hF fun vc h2 hF => awp_region (aR 1 (aX (x_idxS h2) (aR 1 (aE ?_)))))))
    exact awp_seq (nE hF)

/-! ### unicode/utf8.DecodeRuneInString -/
def z1287 (qs : List UInt8) : Bool → St
  | vx => Mem.st ⟨[], []⟩ (tl [(0, .c (.s qs)), (10, .b vx)]) 0

def z1286 (qs : List UInt8) : St := Mem.st ⟨[], []⟩ (tl [(0, .c (.s qs))]) 0

theorem z1288 (qs : List UInt8) {r} (hF : z1285 qs = some r) : Awp prog 0 19 (cL (cL (cR (cB f342)))) (Out 0 nrm (z1287 qs) r) (z1286 qs) := by
  unfold z1285 at hF
  refine cE hF (fun h1 hF => ?_) fun h1 hF => ?_
  · refine bE hF fun vc h2 hF => awp_region (aR 1 (aB h1 (aR 2 (aX (x_idxS h2) (aR 2 (aE ?_))))))
    exact oO hF [] [] rfl
  · refine awp_region (aR 1 (aB h1 (aR 5 (aE ?_))))
    exact oO hF [] [] rfl

def z1283 (qs : List UInt8) (r : Int × Int) : TV × Mem := (.tup [.one (.d (.int .i32 r.1)), .one (.i r.2)], ⟨[], []⟩)

theorem z1284 {qs : List UInt8} {r} (hF : z1282 qs = some r) : Holds prog 342 [.c (.s qs)] ⟨[], []⟩ (Is (z1283 qs r)) := by
  unfold z1282 at hF
  refine hW f342 19 0 0 ?_
  refine sR 2 (awp_seq (awp_seq (awp_to (st' := z1286 qs) (oT [] []) ?_)))
  refine bE hF fun vx1 h3 hF => awp_sub (z1288 qs h3) ?_
  refine cE hF (fun h4 hF => ?_) fun h4 hF => ?_
  · refine tT h4 (awp_seq (bE hF fun vc1 h5 hF => awp_region (aR 1 (aX (x_idxS h5) (aR 3 (aE ?_))))))
    exact awp_ret (oF hF [] [])
  · refine tF h4 (bE hF fun _ h6 hF => awp_region (aR 1 (aC (z1301 h6) [] [] [] (aR 5 (aE ?_)))))
    exact awp_ret (oF hF [] [])

/-! ### strings.explode -/
def z1139 (qs : List UInt8) (qn : Int) (vr : Int) : Bool → St
  | vx => Mem.st ⟨[], []⟩ (tl [(0, .c (.s qs)), (1, .i qn), (5, .i vr), (18, .b vx)]) 0

def z1138 (qs : List UInt8) (qn : Int) (vr : Int) : St := Mem.st ⟨[], []⟩ (tl [(0, .c (.s qs)), (1, .i qn), (5, .i vr)]) 0

theorem z1140 (qs : List UInt8) (qn : Int) (vr : Int) {r} (hF : z1137 qn vr = some r) : Awp prog 0 50 (cL (cL (cR (cR (cB f315))))) (Out 0 nrm (z1139 qs qn vr) r) (z1138 qs qn vr) := by
  unfold z1137 at hF
  refine cE hF (fun h2 hF => ?_) fun h2 hF => ?_
  · refine awp_region (aR 1 (aB h2 (aR 5 (aE ?_))))
    exact oO hF [] [] rfl
  · refine awp_region (aR 1 (aB h2 (aR 5 (aE ?_))))
    exact oO hF [] [] rfl

def z1135 (qs : List UInt8) (qn : Int) (vr : Int) : Int → St
  | vn => Mem.st ⟨[], []⟩ (tl [(0, .c (.s qs)), (1, .i vn)]) 0

def z1134 (qs : List UInt8) (qn : Int) (vr : Int) : St := Mem.st ⟨[], []⟩ (tl [(0, .c (.s qs)), (1, .i qn), (5, .i vr)]) 0

theorem z1136 (qs : List UInt8) (qn : Int) (vr : Int) {r} (hF : z1133 qn vr = some r) : Awp prog 0 50 (cL (cR (cR (cB f315)))) (Out 0 nrm (z1135 qs qn vr) r) (z1134 qs qn vr) := by
  unfold z1133 at hF
  refine awp_seq (awp_to (st' := z1138 qs qn vr) (oT [] []) ?_)
  refine bE hF fun vx1 h3 hF => awp_sub (z1140 qs qn vr h3) ?_
  refine cE hF (fun h4 hF => ?_) fun h4 hF => ?_
  · exact tT h4 (gR 2 (oO hF [] [] rfl))
  · exact tF h4 (awp_skip (oO hF [] [] rfl))

def z1144 : ((List UInt8) × (List (List UInt8))) → AEx
  | _ => .exit 0

def z1143 (vn1 : Int) : ((List UInt8) × (List (List UInt8))) → St
  | (vs5, va1) => Mem.st ⟨[(0, ⟨9, 1, List.map encS va1⟩)], []⟩ (tl [(0, .c (.s vs5)), (1, .i vn1), (6, .c (.own 0 none))]) 1

def z1142 (vn1 : Int) : (List UInt8) × (List (List UInt8)) × Int → St
  | (vs, va, vi) => Mem.st ⟨[(0, ⟨9, 1, List.map encS va⟩)], []⟩ (tl [(0, .c (.s vs)), (1, .i vn1), (6, .c (.own 0 none)), (7, .i vi)]) 1

theorem z1145 (vn1 : Int) (s : (List UInt8) × (List (List UInt8)) × Int) (r : ((List UInt8) × (List (List UInt8)) × Int) ⊕ (((List UInt8) × (List (List UInt8))))) (hF : z1141 vn1 s = some r) : Awp prog 0 50 (cL (cL (cR (cL (cR (cR (cR (cR (cB f315))))))))) (Out 0 (kk z1144) (SS (z1142 vn1) (z1143 vn1)) r) (z1142 vn1 s) := by
  obtain ⟨vs, va, vi⟩ := s
  unfold z1141 at hF
  refine awp_seq (sR 4 (cE hF (fun h7 hF => ?_) fun h7 hF => ?_))
  · refine tT h7 (awp_skip (awp_seq (awp_block (awp_seq (bE hF fun x h8 hF => ?_)))))
    obtain ⟨vr2, vr1_2⟩ := x
    refine awp_region (aR 1 (aC (z1284 h8) [] [] [] (aR 5 (aE ?_))))
    refine awp_seq (bE hF fun vs3 h9 hF => bE hF fun vy1 h10 hF => awp_region (aR 4 (aX (x_sliceS h9) (aX (x_idxO encS 0 h10) (aX (x_stE encS vs3 h10) (aE ?_))))))
    refine bE hF fun vs4 h11 hF => awp_region (aR 2 (aX (x_sliceS h11) (aR 1 (aE ?_))))
    exact gR 3 (oO hF [] [] rfl)
  · refine tF h7 (awp_exit ?_)
    exact oO hF [] [] rfl

def z1148 (vn1 : Int) (vs5_1 : List UInt8) (va1_1 : List (List UInt8)) : (List (List UInt8)) → St
  | va2 => Mem.st ⟨[(0, ⟨9, 1, List.map encS va2⟩)], []⟩ (tl [(6, .c (.own 0 none))]) 1

def z1147 (vn1 : Int) (vs5_1 : List UInt8) (va1_1 : List (List UInt8)) : St := Mem.st ⟨[(0, ⟨9, 1, List.map encS va1_1⟩)], []⟩ (tl [(0, .c (.s vs5_1)), (1, .i vn1), (6, .c (.own 0 none))]) 1

theorem z1149 (vn1 : Int) (vs5_1 : List UInt8) (va1_1 : List (List UInt8)) {r} (hF : z1146 vn1 vs5_1 va1_1 = some r) : Awp prog 0 50 (cL (cR (cR (cR (cR (cR (cB f315))))))) (Out 0 nrm (z1148 vn1 vs5_1 va1_1) r) (z1147 vn1 vs5_1 va1_1) := by
  unfold z1146 at hF
  refine sR 2 (cE hF (fun h13 hF => ?_) fun h13 hF => ?_)
  · refine tT h13 (bE hF fun vy2 h14 hF => awp_region (aR 4 (aX (x_idxO encS 0 h14) (aX (x_stE encS vs5_1 h14) (aE ?_)))))
    exact oO hF [] [] rfl
  · exact tF h13 (awp_skip (oO hF [] [] rfl))

def z1131 (qs : List UInt8) (qn : Int) (r : (List (List UInt8))) : TV × Mem := (.c (.own 0 none), ⟨[(0, ⟨9, 1, List.map encS r⟩)], []⟩)

theorem z1132 {qs : List UInt8} {qn : Int} {r} (hF : z1130 qs qn = some r) : Holds prog 315 [.c (.s qs), .i qn] ⟨[], []⟩ (Is (z1131 qs qn r)) := by
  unfold z1130 at hF
  refine hW f315 50 0 0 ?_
  refine sR 1 (awp_seq (bE hF fun vr h1 hF => awp_region (aR 1 (aC (z1291 h1) [] [] [] (aR 1 (aE ?_))))))
  refine awp_seq (awp_to (st' := z1134 qs qn vr) (oT [] []) ?_)
  refine bE hF fun vn1 h5 hF => awp_sub (z1136 qs qn vr h5) ?_
  refine awp_seq (gE hF fun h6 hF => ?_)
  refine awp_region (aR 1 (aX (x_mk encS ([] : List UInt8) h6) (aR 1 (aE ?_))))
  refine awp_seq (sR 1 (awp_block (awp_to (st' := z1142 vn1 (qs, List.replicate vn1.toNat ([] : List UInt8), 0)) (oT [(0, 1000)] []) ?_)))
  refine bE hF fun x h12 hF => ?_
  obtain ⟨vs5_1, va1_1⟩ := x
  refine awp_sub (awp_loop' (z1142 vn1) z1144 (z1143 vn1) (by intro x; exact fun h => nomatch h) h12 (z1145 vn1)) ?_
  refine awp_seq (awp_to (st' := z1147 vn1 vs5_1 va1_1) (oT [] []) ?_)
  refine bE hF fun va2_1 h15 hF => awp_sub (z1149 vn1 vs5_1 va1_1 h15) ?_
  exact sR 2 (awp_ret (oF hF [] []))

/-! ### strings.Index -/
def z1120 (qs : List UInt8) (qsubstr : List UInt8) (r : Int) : TV × Mem := (.i r, ⟨[], []⟩)

theorem z1121 {qs : List UInt8} {qsubstr : List UInt8} {r} (hF : z1117 qs qsubstr = some r) : Holds prog 317 [.c (.s qs), .c (.s qsubstr)] ⟨[], []⟩ (Is (z1120 qs qsubstr r)) := by
  unfold z1117 at hF
  refine hW f317 8 0 0 ?_
  refine sR 1 (awp_seq (bE hF fun vr h1 hF => awp_region (aR 2 (aC (z1179 h1) [] [] [] (aR 1 (aE ?_))))))
  exact awp_ret (oF hF [] [])

/-! ### strings.Count -/
def z1112 : Int → AEx
  | _ => .ret

def z1111 (qsubstr : List UInt8) : Int → St
  | vx => Mem.st ⟨[], []⟩ (tl [(4, .i vx)]) 0

def z1110 (qsubstr : List UInt8) : (List UInt8) × Int → St
  | (vs, vn) => Mem.st ⟨[], []⟩ (tl [(0, .c (.s vs)), (1, .c (.s qsubstr)), (5, .i vn)]) 0

theorem z1113 (qsubstr : List UInt8) (s : (List UInt8) × Int) (r : ((List UInt8) × Int) ⊕ (Int)) (hF : z1109 qsubstr s = some r) : Awp prog 0 34 (cL (cL (cR (cR (cR (cR (cB f316))))))) (Out 0 (kk z1112) (SS (z1110 qsubstr) (z1111 qsubstr)) r) (z1110 qsubstr s) := by
  obtain ⟨vs, vn⟩ := s
  unfold z1109 at hF
  refine awp_block (awp_seq (bE hF fun vr1_1 h5 hF => awp_region (aR 2 (aC (z1121 h5) [] [] [] (aR 1 (aE ?_))))))
  refine awp_seq (sR 2 (cE hF (fun h6 hF => ?_) fun h6 hF => ?_))
  · exact tT h6 (sR 2 (awp_ret (oO hF [] [] rfl)))
  · refine tF h6 (awp_skip (sR 3 (bE hF fun vs2 h7 hF => awp_region (aR 5 (aX (x_sliceS h7) (aR 1 (aE ?_)))))))
    exact oO hF [] [] rfl

def z1107 (qs : List UInt8) (qsubstr : List UInt8) (r : Int) : TV × Mem := (.i r, ⟨[], []⟩)

theorem z1108 {qs : List UInt8} {qsubstr : List UInt8} {r} (hF : z1106 qs qsubstr = some r) : Holds prog 316 [.c (.s qs), .c (.s qsubstr)] ⟨[], []⟩ (Is (z1107 qs qsubstr r)) := by
  unfold z1106 at hF
  refine hW f316 34 0 0 ?_
  refine sR 1 (awp_seq (sR 3 (cE hF (fun h1 hF => ?_) fun h1 hF => ?_)))
  · refine tT h1 (awp_seq (bE hF fun vr h2 hF => awp_region (aR 1 (aC (z1291 h2) [] [] [] (aR 2 (aE ?_))))))
    exact awp_ret (oF hF [] [])
  · refine tF h1 (awp_skip (awp_seq (sR 3 (cE hF (fun h3 hF => ?_) fun h3 hF => ?_))))
    · refine tT h3 (awp_seq (bE hF fun vc h4 hF => awp_region (aR 2 (aX (x_idxS h4) (aS (does_count (g := 343) (fn := f343) (a := qs) (c := (vc.toNat : Int)) rfl (by kernel_rfl) (by kernel_rfl) (by kernel_rfl) (by kernel_rfl) (by kernel_rfl) (by kernel_rfl)) ?_)))))
      refine aR 1 (aE ?_)
      exact awp_ret (oF hF [] [])
    · refine tF h3 (awp_skip (sR 1 (awp_block (awp_to (st' := z1110 qsubstr (qs, 0)) (oT [] []) ?_))))
      refine bE hF fun vx1 h8 hF => awp_sub (awp_loop' (z1110 qsubstr) z1112 (z1111 qsubstr) (by intro x; exact fun h => nomatch h) h8 (z1113 qsubstr)) ?_
      exact oF hF [] []

/-! ### strings.genSplit -/
def z1155 (qx : List UInt8) (qx1 : List UInt8) (qx2 : Int) (qx3 : Int) : Int → St
  | vx => Mem.st ⟨[], []⟩ (tl [(0, .c (.s qx)), (1, .c (.s qx1)), (2, .i qx2), (3, .i vx)]) 0

def z1154 (qx : List UInt8) (qx1 : List UInt8) (qx2 : Int) (qx3 : Int) : St := Mem.st ⟨[], []⟩ (tl [(0, .c (.s qx)), (1, .c (.s qx1)), (2, .i qx2), (3, .i qx3)]) 0

theorem z1156 (qx : List UInt8) (qx1 : List UInt8) (qx2 : Int) (qx3 : Int) {r} (hF : z1153 qx qx1 qx3 = some r) : Awp prog 0 66 (cL (cR (cR (cR (cB f274))))) (Out 0 nrm (z1155 qx qx1 qx2 qx3) r) (z1154 qx qx1 qx2 qx3) := by
  unfold z1153 at hF
  refine sR 2 (cE hF (fun h4 hF => ?_) fun h4 hF => ?_)
  · refine tT h4 (bE hF fun vr2 h5 hF => awp_region (aR 2 (aC (z1108 h5) [] [] [] (aR 2 (aE ?_)))))
    exact oO hF [] [] rfl
  · exact tF h4 (awp_skip (oO hF [] [] rfl))

def z1160 : ((List UInt8) × (List (List UInt8)) × Int) → AEx
  | _ => .exit 0

def z1159 (qx : List UInt8) (qx1 : List UInt8) (qx2 : Int) (vx1 : Int) : ((List UInt8) × (List (List UInt8)) × Int) → St
  | (vx5, vx6, vx7) => Mem.st ⟨[(0, ⟨9, 1, List.map encS vx6⟩)], []⟩ (tl [(0, .c (.s vx5)), (9, .c (.own 0 none)), (10, .i vx7)]) 1

def z1158 (qx : List UInt8) (qx1 : List UInt8) (qx2 : Int) (vx1 : Int) : (List UInt8) × (List (List UInt8)) × Int → St
  | (vx2, vx3, vx4) => Mem.st ⟨[(0, ⟨9, 1, List.map encS vx3⟩)], []⟩ (tl [(0, .c (.s vx2)), (1, .c (.s qx1)), (2, .i qx2), (3, .i (IntKind.wrap .i64 ((imin vx1 (IntKind.wrap .i64 ((qx.length : Int) + 1))) - 1))), (9, .c (.own 0 none)), (10, .i vx4)]) 1

theorem z1161 (qx : List UInt8) (qx1 : List UInt8) (qx2 : Int) (vx1 : Int) (s : (List UInt8) × (List (List UInt8)) × Int) (r : ((List UInt8) × (List (List UInt8)) × Int) ⊕ (((List UInt8) × (List (List UInt8)) × Int))) (hF : z1157 qx qx1 qx2 vx1 s = some r) : Awp prog 0 66 (cL (cL (cL (cR (cR (cR (cR (cR (cR (cR (cR (cB f274)))))))))))) (Out 0 (kk z1160) (SS (z1158 qx qx1 qx2 vx1) (z1159 qx qx1 qx2 vx1)) r) (z1158 qx qx1 qx2 vx1 s) := by
  obtain ⟨vx2, vx3, vx4⟩ := s
  unfold z1157 at hF
  refine awp_seq (sR 3 (cE hF (fun h8 hF => ?_) fun h8 hF => ?_))
  · refine tT h8 (awp_skip (awp_block (awp_seq (bE hF fun vr1_1 h9 hF => awp_region (aR 2 (aC (z1121 h9) [] [] [] (aR 1 (aE ?_))))))))
    refine awp_seq (sR 2 (cE hF (fun h10 hF => ?_) fun h10 hF => ?_))
    · refine tT h10 (awp_exit ?_)
      exact oO hF [] [] rfl
    · refine tF h10 (awp_skip (awp_seq (bE hF fun vs2 h11 hF => bE hF fun vy1 h12 hF => awp_region (aR 6 (aX (x_sliceS h11) (aX (x_idxO encS 0 h12) (aX (x_stE encS vs2 h12) (aE ?_))))))))
      refine awp_seq (bE hF fun vs3 h13 hF => awp_region (aR 5 (aX (x_sliceS h13) (aR 1 (aE ?_)))))
      exact gR 3 (oO hF [] [] rfl)
  · refine tF h8 (awp_exit ?_)
    exact oO hF [] [] rfl

def z1151 (qx : List UInt8) (qx1 : List UInt8) (qx2 : Int) (qx3 : Int) (r : (List (List UInt8))) : TV × Mem := (.c (.own 0 none), ⟨[(0, ⟨9, 1, List.map encS r⟩)], []⟩)

theorem z1152 {qx : List UInt8} {qx1 : List UInt8} {qx2 : Int} {qx3 : Int} {r} (hF : z1150 qx qx1 qx2 qx3 = some r) : Holds prog 274 [.c (.s qx), .c (.s qx1), .i qx2, .i qx3] ⟨[], []⟩ (Is (z1151 qx qx1 qx2 qx3 r)) := by
  unfold z1150 at hF
  refine hW f274 66 0 0 ?_
  refine sR 1 (awp_seq (sR 2 (cE hF (fun h1 hF => ?_) fun h1 hF => ?_)))
  · exact tT h1 (sR 1 (awp_ret (oF hF [] [0])))
  · refine tF h1 (awp_skip (awp_seq (sR 2 (cE hF (fun h2 hF => ?_) fun h2 hF => ?_))))
    · refine tT h2 (awp_seq (bE hF fun vr3 h3 hF => awp_region (aR 2 (aC (z1132 h3) [] [] [] (aR 1 (aE ?_))))))
      exact awp_ret (oF hF [(0, 7000)] [])
    · refine tF h2 (awp_skip (awp_seq (awp_to (st' := z1154 qx qx1 qx2 qx3) (oT [] []) ?_)))
      refine bE hF fun vx1 h6 hF => awp_sub (z1156 qx qx1 qx2 qx3 h6) ?_
      refine sR 6 (awp_seq (gE hF fun h7 hF => ?_))
      refine awp_region (aR 1 (aX (x_mk encS ([] : List UInt8) h7) (aR 1 (aE ?_))))
      refine sR 3 (sR 1 (awp_seq (awp_block (awp_to (st' := z1158 qx qx1 qx2 vx1 (qx, List.replicate (imin vx1 (IntKind.wrap .i64 ((qx.length : Int) + 1))).toNat ([] : List UInt8), 0)) (oT [(0, 7000)] []) ?_))))
      refine bE hF fun x h14 hF => ?_
      obtain ⟨vx5_1, vx6_1, vx7_1⟩ := x
      refine awp_sub (awp_loop' (z1158 qx qx1 qx2 vx1) z1160 (z1159 qx qx1 qx2 vx1) (by intro x; exact fun h => nomatch h) h14 (z1161 qx qx1 qx2 vx1)) ?_
      refine awp_seq (bE hF fun vy2 h15 hF => awp_region (aR 3 (aX (x_idxO encS 0 h15) (aX (x_stE encS vx5_1 h15) (aE ?_)))))
      refine awp_seq (gE hF fun h16 hF => ?_)
      refine awp_region (aR 3 (aT encS 0 h16 rfl ?_))
      refine aR 1 (aE ?_)
      exact awp_ret (oF hF [(0, 8001)] [])

/-! ### strings.Split -/
def z1125 (qs : List UInt8) (qsep : List UInt8) (r : (List (List UInt8))) : TV × Mem := (.c (.own 0 none), ⟨[(0, ⟨9, 1, List.map encS r⟩)], []⟩)

theorem z1126 {qs : List UInt8} {qsep : List UInt8} {r} (hF : z1124 qs qsep = some r) : Holds prog 226 [.c (.s qs), .c (.s qsep)] ⟨[], []⟩ (Is (z1125 qs qsep r)) := by
  unfold z1124 at hF
  refine hW f226 8 0 0 ?_
  refine sR 1 (awp_seq (bE hF fun vr h1 hF => awp_region (aR 2 (aC (z1152 h1) [] [] [] (aR 1 (aE ?_))))))
  exact awp_ret (oF hF [(0, 3000)] [])

/-! ### internal/stringslite.HasPrefix -/
def z1172 (qs : List UInt8) (qprefix : List UInt8) : Bool → St
  | vx => Mem.st ⟨[], []⟩ (tl [(4, .b vx)]) 0

def z1171 (qs : List UInt8) (qprefix : List UInt8) : St := Mem.st ⟨[], []⟩ (tl [(0, .c (.s qs)), (1, .c (.s qprefix))]) 0

theorem z1173 (qs : List UInt8) (qprefix : List UInt8) {r} (hF : z1170 qs qprefix = some r) : Awp prog 0 18 (cL (cR (cB f242))) (Out 0 nrm (z1172 qs qprefix) r) (z1171 qs qprefix) := by
  unfold z1170 at hF
  refine cE hF (fun h1 hF => ?_) fun h1 hF => ?_
  · refine bE hF fun vs h2 hF => awp_region (aR 4 (aB h1 (aR 4 (aX (x_sliceS h2) (aR 4 (aE ?_))))))
    exact oO hF [] [] rfl
  · refine awp_region (aR 4 (aB h1 (aR 9 (aE ?_))))
    exact oO hF [] [] rfl

def z1168 (qs : List UInt8) (qprefix : List UInt8) (r : Bool) : TV × Mem := (.b r, ⟨[], []⟩)

theorem z1169 {qs : List UInt8} {qprefix : List UInt8} {r} (hF : z1167 qs qprefix = some r) : Holds prog 242 [.c (.s qs), .c (.s qprefix)] ⟨[], []⟩ (Is (z1168 qs qprefix r)) := by
  unfold z1167 at hF
  refine hW f242 18 0 0 ?_
  refine sR 1 (awp_seq (awp_to (st' := z1171 qs qprefix) (oT [] []) ?_))
  refine bE hF fun vx1 h3 hF => awp_sub (z1173 qs qprefix h3) ?_
  exact awp_ret (oF hF [] [])

/-! ### beaconfleet/twin.CheckProps -/
def z1198 : Unit → AEx
  | _ => .exit 0

def z1197 : Unit → St
  | _ => Mem.st ⟨[], [(0, [.nil])]⟩ (tl [(1, .c (.box 0 0))]) 1

def z1196 : Unit → St
  | _ => Mem.st ⟨[], [(0, [.nil])]⟩ (tl [(1, .c (.box 0 0)), (11, .c (.nil)), (12, .i 0), (13, .i 0)]) 1

theorem z1199 (s : Unit) (r : (Unit) ⊕ (Unit)) (hF : z1195  s = some r) : Awp prog 0 57 (cL (cL (cR (cL (cR (cR (cB f232))))))) (Out 0 (kk z1198) (SS (z1196 ) (z1197 )) r) (z1196  s) := by
  unfold z1195 at hF
  refine sR 1 (awp_seq (cE hF (fun h2 hF => ?_) fun h2 hF => ?_))
  · exact tT h2 (awp_skip (awp_seq (awp_block (awp_seq (nE hF)))))
  · refine tF h2 (awp_exit ?_)
    exact oO hF [] [] rfl

def z1203 : Unit → AEx
  | _ => .exit 2

def z1202 : Unit → St
  | _ => Mem.st ⟨[], []⟩ (tl []) 0

def z1201 : Unit → St
  | _ => Mem.st ⟨[], [(0, [.nil])]⟩ (tl [(1, .c (.box 0 0)), (46, .c (.nil)), (47, .i 0), (48, .i 0)]) 1

theorem z1204 (s : Unit) (r : (Unit) ⊕ (Unit)) (hF : z1200  s = some r) : Awp prog 0 57 (cL (cL (cR (cL (cR (cR (cR (cB f232)))))))) (Out 0 (kk z1203) (SS (z1201 ) (z1202 )) r) (z1201  s) := by
  unfold z1200 at hF
  refine sR 1 (awp_seq (cE hF (fun h5 hF => ?_) fun h5 hF => ?_))
  · exact tT h5 (awp_skip (awp_seq (awp_block (awp_seq (nE hF)))))
  · refine tF h5 (awp_exit ?_)
    exact oO hF [] [] rfl

def z1193 (r : Int) : TV × Mem := (.i r, ⟨[], []⟩)

theorem z1194 {r} (hF : z1192 = some r) : Holds prog 232 [.c (.nil)] ⟨[], []⟩ (Is (z1193  r)) := by
  unfold z1192 at hF
  refine hW f232 57 0 0 ?_
  refine sR 2 (awp_seq (sR 3 (cE hF (fun h1 hF => ?_) fun h1 hF => ?_)))
  · exact tT h1 (sR 1 (awp_ret (oF hF [] [])))
  · refine tF h1 (awp_skip (awp_seq (sR 3 (awp_block (awp_to (st' := z1196  ()) (oT [] []) ?_)))))
    refine bE hF fun _ h4 hF => awp_sub (awp_loop' (z1196 ) z1198 (z1197 ) (by intro x; exact fun h => nomatch h) h4 (z1199 )) ?_
    refine awp_seq (sR 3 (awp_block (awp_to (st' := z1201  ()) (oT [] []) ?_)))
    refine bE hF fun _ h7 hF => awp_sub (awp_loop' (z1201 ) z1203 (z1202 ) (by intro x; exact fun h => nomatch h) h7 (z1204 )) ?_
    exact sR 1 (awp_ret (oF hF [] []))

/-! ### beaconfleet/twin.CheckProps$1 -/
def z1189 (qs : List UInt8) (qx : List api_Prop) (r : Bool) : TV × Mem := (.b r, ⟨[], [(0, [.l api_Prop.enc qx])]⟩)

theorem z1190 {qs : List UInt8} {qx : List api_Prop} {r} (hF : z1188 qs qx = some r) : Holds prog 278 [.c (.s qs), .c (.box 0 0)] ⟨[], [(0, [.l api_Prop.enc qx])]⟩ (Is (z1189 qs qx r)) := by
  unfold z1188 at hF
  refine hW f278 8 1 1 ?_
  refine sR 1 (awp_seq (bE hF fun vr2 h1 hF => awp_region (aR 2 (aC (z1251 h1) [] [] [] (aR 2 (aE ?_))))))
  exact awp_ret (oF hF [] [])

/-! ### beaconfleet/twin.above -/
def z1242 (qname : List UInt8) (qf : List api_Prop) (vx : Int) : Bool → St
  | vx2 => Mem.st ⟨[], [(0, [.l api_Prop.enc qf])]⟩ (tl [(0, .c (.s qname)), (1, .c (.fn 278 [0])), (7, .i (qname.length : Int)), (8, .i vx), (21, .b vx2)]) 1

def z1241 (qname : List UInt8) (qf : List api_Prop) (vx : Int) : St := Mem.st ⟨[], [(0, [.l api_Prop.enc qf])]⟩ (tl [(0, .c (.s qname)), (1, .c (.fn 278 [0])), (5, .i vx), (7, .i (qname.length : Int)), (8, .i vx)]) 1

theorem z1243 (qname : List UInt8) (qf : List api_Prop) (vx : Int) {r} (hF : z1240 qname qf vx = some r) : Awp prog 1 23 (cL (cR (cL (cL (cR (cR (cL (cL (cR (cL (cR (cB f277)))))))))))) (Out 1 nrm (z1242 qname qf vx) r) (z1241 qname qf vx) := by
  unfold z1240 at hF
  refine bE hF fun vc1 h2 hF => cE hF (fun h3 hF => ?_) fun h3 hF => ?_
  · refine bE hF fun vs1 h4 hF => bE hF fun vr1 h5 hF => awp_region (aR 2 (aX (x_idxS h2) (aB h3 (aR 4 (aX (x_sliceS h4) (aC (z1190 h5) [] [] [] (aR 1 (aE ?_))))))))
    exact oO hF [] [] rfl
  · refine awp_region (aR 2 (aX (x_idxS h2) (aB h3 (aR 7 (aE ?_)))))
    exact oO hF [] [] rfl

def z1238 : Unit ⊕ Unit → AEx
  | .inl _ => .exit 0
  | .inr _ => .ret

def z1237 (qname : List UInt8) (qf : List api_Prop) : Unit ⊕ Unit → St
  | .inl _ => Mem.st ⟨[], [(0, [.l api_Prop.enc qf])]⟩ (tl []) 1
  | .inr _ => Mem.st ⟨[], [(0, [.l api_Prop.enc qf])]⟩ (tl [(4, .b true)]) 1

def z1236 (qname : List UInt8) (qf : List api_Prop) : Int → St
  | vx => Mem.st ⟨[], [(0, [.l api_Prop.enc qf])]⟩ (tl [(0, .c (.s qname)), (1, .c (.fn 278 [0])), (7, .i (qname.length : Int)), (8, .i vx)]) 1

theorem z1239 (qname : List UInt8) (qf : List api_Prop) (vx : Int) (r : (Int) ⊕ (Unit ⊕ Unit)) (hF : z1235 qname qf vx = some r) : Awp prog 1 23 (cL (cL (cR (cL (cR (cB f277)))))) (Out 1 (kk z1238) (SS (z1236 qname qf) (z1237 qname qf)) r) (z1236 qname qf vx) := by
  unfold z1235 at hF
  refine sR 1 (awp_seq (cE hF (fun h1 hF => ?_) fun h1 hF => ?_))
  · refine tT h1 (awp_skip (awp_seq (awp_block (sR 2 (awp_seq (awp_to (st' := z1241 qname qf vx) (oT [] []) ?_))))))
    refine bE hF fun vx2_1 h6 hF => awp_sub (z1243 qname qf vx h6) ?_
    refine cE hF (fun h7 hF => ?_) fun h7 hF => ?_
    · exact tT h7 (sR 1 (awp_ret (oO hF [] [] rfl)))
    · exact tF h7 (awp_skip (gR 2 (oO hF [] [] rfl)))
  · refine tF h1 (awp_exit ?_)
    exact oO hF [] [] rfl

def z1233 (qname : List UInt8) (qf : List api_Prop) (r : Bool) : TV × Mem := (.b r, ⟨[], [(0, [.l api_Prop.enc qf])]⟩)

theorem z1234 {qname : List UInt8} {qf : List api_Prop} {r} (hF : z1232 qname qf = some r) : Holds prog 277 [.c (.s qname), .c (.fn 278 [0])] ⟨[], [(0, [.l api_Prop.enc qf])]⟩ (Is (z1233 qname qf r)) := by
  unfold z1232 at hF
  refine hW f277 23 1 1 ?_
  refine sR 1 (awp_seq (sR 3 (awp_block (awp_to (st' := z1236 qname qf 0) (oT [] []) ?_))))
  refine bE hF fun x h8 hF => ?_
  rcases x with _ | _
  · refine awp_sub (awp_loop' (z1236 qname qf) z1238 (z1237 qname qf) (by intro x; rcases x with x | x <;> exact fun h => nomatch h) h8 (z1239 qname qf)) ?_
    exact sR 1 (awp_ret (oF hF [] []))
  · refine awp_sub (awp_loop' (z1236 qname qf) z1238 (z1237 qname qf) (by intro x; rcases x with x | x <;> exact fun h => nomatch h) h8 (z1239 qname qf)) ?_
    exact oF hF [] []

/-! ### beaconfleet/twin.CheckProps -/
def z1213 (ql : List api_Prop) (vx : Int) (vy2 : api_Prop) : Bool → St
  | vx2 => Mem.st ⟨[], [(0, [.l api_Prop.enc ql])]⟩ (tl [(1, .c (.box 0 0)), (11, .c (.l api_Prop.enc ql)), (12, .i (ql.length : Int)), (13, .i vx), (44, .b vx2)]) 1

def z1212 (ql : List api_Prop) (vx : Int) (vy2 : api_Prop) : St := Mem.st ⟨[], [(0, [.l api_Prop.enc ql]), (1, [.s vy2.Name, .i vy2.Value.Kind, .t vy2.Value.Flag, .i vy2.Value.Number, .s vy2.Value.Words])]⟩ (tl [(1, .c (.box 0 0)), (3, .i vx), (4, .c (.box 1 0)), (11, .c (.l api_Prop.enc ql)), (12, .i (ql.length : Int)), (13, .i vx)]) 2

theorem z1214 (ql : List api_Prop) (vx : Int) (vy2 : api_Prop) {r} (hF : z1211 ql vx vy2 = some r) : Awp prog 0 57 (cL (cR (cR (cR (cR (cL (cL (cR (cR (cL (cL (cR (cL (cR (cR (cB f232)))))))))))))))) (Out 0 nrm (z1213 ql vx vy2) r) (z1212 ql vx vy2) := by
  unfold z1211 at hF
  refine cE hF (fun h9 hF => ?_) fun h9 hF => ?_
  · refine bE hF fun vy3 h10 hF => aD ?_
    refine dR 1 ?_
    refine dB h9 ?_
    refine dR 6 ?_
    refine dX (x_idx api_Prop.enc h10) ?_
    refine dR 4 ?_
    refine dE ?_
    exact oO hF [] [] rfl
  · refine aD ?_
    refine dR 1 ?_
    refine dB h9 ?_
    refine dR 11 ?_
    refine dE ?_
    exact oO hF [] [] rfl

def z1209 : Unit ⊕ Int → AEx
  | .inl _ => .exit 0
  | .inr _ => .ret

def z1208 (ql : List api_Prop) : Unit ⊕ Int → St
  | .inl _ => Mem.st ⟨[], [(0, [.l api_Prop.enc ql])]⟩ (tl [(1, .c (.box 0 0))]) 1
  | .inr vx3 => Mem.st ⟨[], []⟩ (tl [(2, .i vx3)]) 0

def z1207 (ql : List api_Prop) : Int → St
  | vx => Mem.st ⟨[], [(0, [.l api_Prop.enc ql])]⟩ (tl [(1, .c (.box 0 0)), (11, .c (.l api_Prop.enc ql)), (12, .i (ql.length : Int)), (13, .i vx)]) 1

theorem z1210 (ql : List api_Prop) (vx : Int) (r : (Int) ⊕ (Unit ⊕ Int)) (hF : z1206 ql vx = some r) : Awp prog 0 57 (cL (cL (cR (cL (cR (cR (cB f232))))))) (Out 0 (kk z1209) (SS (z1207 ql) (z1208 ql)) r) (z1207 ql vx) := by
  unfold z1206 at hF
  refine sR 1 (awp_seq (cE hF (fun h2 hF => ?_) fun h2 hF => ?_))
  · refine tT h2 (awp_skip (awp_seq (awp_block (awp_seq (bE hF fun vy2 h3 hF => awp_region (aR 1 (aX (x_idx api_Prop.enc h3) (aR 4 (aE ?_)))))))))
    refine awp_seq (awp_seq (bE hF fun vr1 h4 hF => awp_region (aR 2 (aC (z1254 h4) [] [] [] (aR 1 (aE ?_))))))
    refine cE hF (fun h5 hF => ?_) fun h5 hF => ?_
    · exact tT h5 (sR 1 (awp_ret (oO hF [] [] rfl)))
    · refine tF h5 (awp_skip (awp_seq (awp_seq (bE hF fun vr2_1 h6 hF => awp_region (aR 2 (aC (z1270 h6) [] [] [] (aR 1 (aE ?_))))))))
      refine sR 2 (cE hF (fun h7 hF => ?_) fun h7 hF => ?_)
      · exact tT h7 (sR 2 (awp_ret (oO hF [] [] rfl)))
      · refine tF h7 (awp_skip (awp_seq (sR 4 (cE hF (fun h8 hF => ?_) fun h8 hF => ?_))))
        · exact tT h8 (sR 1 (awp_ret (oO hF [] [] rfl)))
        · refine tF h8 (awp_skip (awp_seq (awp_to (st' := z1212 ql vx vy2) (oT [(1, 4001)] []) ?_)))
          refine bE hF fun vx2_1 h11 hF => awp_sub (z1214 ql vx vy2 h11) ?_
          refine cE hF (fun h12 hF => ?_) fun h12 hF => ?_
          · exact tT h12 (sR 1 (awp_ret (oO hF [] [] rfl)))
          · exact tF h12 (awp_skip (gR 2 (oO hF [] [] rfl)))
  · refine tF h2 (awp_exit ?_)
    exact oO hF [] [] rfl

def z1218 : Unit ⊕ Unit → AEx
  | .inl _ => .exit 2
  | .inr _ => .ret

def z1217 (ql : List api_Prop) : Unit ⊕ Unit → St
  | .inl _ => Mem.st ⟨[], []⟩ (tl []) 0
  | .inr _ => Mem.st ⟨[], []⟩ (tl [(2, .i 13)]) 0

def z1216 (ql : List api_Prop) : Int → St
  | vx4 => Mem.st ⟨[], [(0, [.l api_Prop.enc ql])]⟩ (tl [(1, .c (.box 0 0)), (46, .c (.l api_Prop.enc ql)), (47, .i (ql.length : Int)), (48, .i vx4)]) 1

theorem z1219 (ql : List api_Prop) (vx4 : Int) (r : (Int) ⊕ (Unit ⊕ Unit)) (hF : z1215 ql vx4 = some r) : Awp prog 0 57 (cL (cL (cR (cL (cR (cR (cR (cB f232)))))))) (Out 0 (kk z1218) (SS (z1216 ql) (z1217 ql)) r) (z1216 ql vx4) := by
  unfold z1215 at hF
  refine sR 1 (awp_seq (cE hF (fun h14 hF => ?_) fun h14 hF => ?_))
  · refine tT h14 (awp_skip (awp_seq (awp_block (awp_seq (bE hF fun vy5 h15 hF => awp_region (aX (x_idx api_Prop.enc h15) (aR 3 (aE ?_))))))))
    refine awp_seq (bE hF fun vr2_3 h16 hF => awp_region (aR 3 (aC (z1234 h16) [] [] [] (aE ?_))))
    refine cE hF (fun h17 hF => ?_) fun h17 hF => ?_
    · exact tT h17 (sR 1 (awp_ret (oO hF [] [] rfl)))
    · exact tF h17 (awp_skip (gR 2 (oO hF [] [] rfl)))
  · refine tF h14 (awp_exit ?_)
    exact oO hF [] [] rfl

def z1191 (ql : List api_Prop) (r : Int) : TV × Mem := (.i r, ⟨[], []⟩)

theorem z1205 {ql : List api_Prop} {r} (hF : z1187 ql = some r) : Holds prog 232 [.c (.l api_Prop.enc ql)] ⟨[], []⟩ (Is (z1191 ql r)) := by
  unfold z1187 at hF
  refine hW f232 57 0 0 ?_
  refine sR 2 (awp_seq (awp_seq (awp_region (aR 1 (aL api_Prop.enc ql (aR 1 (aE ?_)))))))
  refine cE hF (fun h1 hF => ?_) fun h1 hF => ?_
  · exact tT h1 (sR 1 (awp_ret (oF hF [] [])))
  · refine tF h1 (awp_skip (awp_seq (awp_seq (awp_region (aR 1 (aL api_Prop.enc ql (aR 1 (aE ?_))))))))
    refine awp_block (awp_to (st' := z1207 ql 0) (oT [] []) ?_)
    refine bE hF fun x h13 hF => ?_
    rcases x with _ | vx3_1
    · refine awp_sub (awp_loop' (z1207 ql) z1209 (z1208 ql) (by intro x; rcases x with x | x <;> exact fun h => nomatch h) h13 (z1210 ql)) ?_
      refine awp_seq (awp_seq (awp_region (aR 1 (aL api_Prop.enc ql (aR 1 (aE ?_))))))
      refine awp_block (awp_to (st' := z1216 ql 0) (oT [] []) ?_)
      refine bE hF fun x h18 hF => ?_
      rcases x with _ | _
      · refine awp_sub (awp_loop' (z1216 ql) z1218 (z1217 ql) (by intro x; rcases x with x | x <;> exact fun h => nomatch h) h18 (z1219 ql)) ?_
        exact sR 1 (awp_ret (oF hF [] []))
      · refine awp_sub (awp_loop' (z1216 ql) z1218 (z1217 ql) (by intro x; rcases x with x | x <;> exact fun h => nomatch h) h18 (z1219 ql)) ?_
        exact oF hF [] []
    · refine awp_sub (awp_loop' (z1207 ql) z1209 (z1208 ql) (by intro x; rcases x with x | x <;> exact fun h => nomatch h) h13 (z1210 ql)) ?_
      exact oF hF [] []

/-! ### slices.BinarySearchFunc[[]beaconfleet/api.Prop,beaconfleet/api.Prop,string] -/
def z664 : Unit → AEx
  | _ => .exit 0

def z663 (qtarget : List UInt8) : Unit → St
  | _ => Mem.st ⟨[], []⟩ (tl [(0, .c (.nil)), (1, .c (.s qtarget)), (2, .c (.fn 270 [])), (8, .i 0), (9, .i 0)]) 0

def z662 (qtarget : List UInt8) : Unit → St
  | _ => Mem.st ⟨[], []⟩ (tl [(0, .c (.nil)), (1, .c (.s qtarget)), (2, .c (.fn 270 [])), (8, .i 0), (9, .i 0), (10, .i 0)]) 0

theorem z665 (qtarget : List UInt8) (s : Unit) (r : (Unit) ⊕ (Unit)) (hF : z661  s = some r) : Awp prog 0 49 (cL (cL (cL (cR (cR (cR (cB f269))))))) (Out 0 (kk z664) (SS (z662 qtarget) (z663 qtarget)) r) (z662 qtarget s) := by
  unfold z661 at hF
  refine awp_seq (sR 3 (cE hF (fun h1 hF => ?_) fun h1 hF => ?_))
  · exact tT h1 (awp_skip (awp_block (sR 7 (awp_seq (nE hF)))))
  · refine tF h1 (awp_exit ?_)
    exact oO hF [] [] rfl

def z659 (qtarget : List UInt8) (r : Unit) : TV × Mem := (.tup [.one (.i 0), .one (.t false)], ⟨[], []⟩)

theorem z660 {qtarget : List UInt8} {r} (hF : z658 qtarget = some r) : Holds prog 269 [.c (.nil), .c (.s qtarget), .c (.fn 270 [])] ⟨[], []⟩ (Is (z659 qtarget r)) := by
  unfold z658 at hF
  refine hW f269 49 0 0 ?_
  refine sR 2 (sR 3 (sR 3 (awp_seq (awp_block (awp_to (st' := z662 qtarget ()) (oT [] []) ?_)))))
  refine bE hF fun _ h3 hF => awp_sub (awp_loop' (z662 qtarget) z664 (z663 qtarget) (by intro x; exact fun h => nomatch h) h3 (z665 qtarget)) ?_
  refine awp_seq (cE hF (fun h4 hF => ?_) fun h4 hF => ?_)
  · exact nE hF
  · refine awp_region (aR 3 (aB h4 (aR 12 (aE ?_))))
    exact awp_ret (oF hF [] [])

/-! ### beaconfleet/twin.find -/
def z1249 (qname : List UInt8) (r : Unit) : TV × Mem := (.i (-1), ⟨[], []⟩)

theorem z1250 {qname : List UInt8} {r} (hF : z1248 qname = some r) : Holds prog 212 [.c (.nil), .c (.s qname)] ⟨[], []⟩ (Is (z1249 qname r)) := by
  unfold z1248 at hF
  refine hW f212 16 0 0 ?_
  refine sR 1 (awp_seq (bE hF fun _ h1 hF => awp_region (aR 2 (aC (z660 h1) [] [] [] (aR 5 (aE ?_))))))
  exact awp_seq (sR 2 (tT rfl (sR 1 (awp_ret (oF hF [] [])))))

/-! ### beaconfleet/twin.valueOf -/
def z1279 (qname : List UInt8) (r : Unit) : TV × Mem := (.v (.agg [.i 0, .t false, .i 0, .s ([] : List UInt8)]), ⟨[], []⟩)

theorem z1280 {qname : List UInt8} {r} (hF : z1278 qname = some r) : Holds prog 120 [.c (.nil), .c (.s qname)] ⟨[], []⟩ (Is (z1279 qname r)) := by
  unfold z1278 at hF
  refine hW f120 17 0 0 ?_
  refine sR 1 (awp_seq (awp_seq (bE hF fun _ h1 hF => awp_region (aR 2 (aC (z1250 h1) [] [] [] (aR 1 (aE ?_)))))))
  refine sR 2 (cE hF (fun h2 hF => ?_) fun h2 hF => ?_)
  · exact tT h2 (awp_seq (nE hF))
  · exact tF h2 (awp_skip (sR 2 (awp_ret (oF hF [] []))))

/-! ### beaconfleet/twin.Differ -/
def z1230 (qb : List api_Prop) (vr1_1 : List (List UInt8)) (vout : List api_Change) (vx : Int) : (List api_Change) → St
  | vout2 => Mem.st ⟨[(1, ⟨92, 9, List.map api_Change.enc vout2⟩)], []⟩ (tl [(0, .c (.nil)), (1, .c (.l api_Prop.enc qb)), (7, .c (.own 1 none)), (24, .c (.l encS vr1_1)), (25, .i (vr1_1.length : Int)), (26, .i vx)]) 2

def z1229 (qb : List api_Prop) (vr1_1 : List (List UInt8)) (vout : List api_Change) (vx : Int) : St := Mem.st ⟨[(1, ⟨92, 9, List.map api_Change.enc vout⟩)], []⟩ (tl [(0, .c (.nil)), (1, .c (.l api_Prop.enc qb)), (7, .c (.own 1 none)), (24, .c (.l encS vr1_1)), (25, .i (vr1_1.length : Int)), (26, .i vx)]) 2

theorem z1231 (qb : List api_Prop) (vr1_1 : List (List UInt8)) (vout : List api_Change) (vx : Int) {r} (hF : z1228 qb vr1_1 vout vx = some r) : Awp prog 1 48 (cL (cR (cR (cL (cL (cR (cL (cR (cR (cR (cB f151))))))))))) (Out 1 nrm (z1230 qb vr1_1 vout vx) r) (z1229 qb vr1_1 vout vx) := by
  unfold z1228 at hF
  refine awp_block (awp_seq (bE hF fun vy1 h7 hF => awp_region (aX (x_idx encS h7) (aR 2 (aE ?_)))))
  refine awp_seq (bE hF fun _ h8 hF => bE hF fun vr4 h9 hF => awp_region (aR 2 (aC (z1280 h8) [] [] [] (aR 2 (aC (z1281 h9) [] [] [] (aR 4 (aE ?_)))))))
  refine awp_seq (awp_region (aR 2 (aS (does_eqS (op := .neq) (xs := [.int .i64 0, .bool false, .int .i64 0, .str ([] : List UInt8)]) (ys := [.int .i64 vr4.Kind, .bool vr4.Flag, .int .i64 vr4.Number, .str vr4.Words]) (b := (decide ((0 : Int) = vr4.Kind) && ((false == vr4.Flag) && (decide ((0 : Int) = vr4.Number) && (decide (([] : List UInt8) = vr4.Words) && true))))) (c := (!(decide ((0 : Int) = vr4.Kind) && ((false == vr4.Flag) && (decide ((0 : Int) = vr4.Number) && (decide (([] : List UInt8) = vr4.Words) && true)))))) rfl (.inr ⟨rfl, rfl⟩) (by kernel_rfl) (by kernel_rfl) (by kernel_rfl) (by kernel_rfl) (by kernel_rfl) (by kernel_rfl)) ?_)))
  refine aE ?_
  refine cE hF (fun h10 hF => ?_) fun h10 hF => ?_
  · refine tT h10 (gE hF fun h11 hF => ?_)
    refine awp_region (aR 6 (aX (x_app api_Change.enc 1 h11) (aR 1 (aE ?_))))
    exact oO hF [(1, 22002)] [] rfl
  · exact tF h10 (awp_skip (oO hF [] [] rfl))

def z1226 : (List api_Change) → AEx
  | _ => .exit 0

def z1225 (qb : List api_Prop) (vr1_1 : List (List UInt8)) : (List api_Change) → St
  | vout3 => Mem.st ⟨[(1, ⟨92, 9, List.map api_Change.enc vout3⟩)], []⟩ (tl [(7, .c (.own 1 none))]) 2

def z1224 (qb : List api_Prop) (vr1_1 : List (List UInt8)) : (List api_Change) × Int → St
  | (vout, vx) => Mem.st ⟨[(1, ⟨92, 9, List.map api_Change.enc vout⟩)], []⟩ (tl [(0, .c (.nil)), (1, .c (.l api_Prop.enc qb)), (7, .c (.own 1 none)), (24, .c (.l encS vr1_1)), (25, .i (vr1_1.length : Int)), (26, .i vx)]) 2

theorem z1227 (qb : List api_Prop) (vr1_1 : List (List UInt8)) (s : (List api_Change) × Int) (r : ((List api_Change) × Int) ⊕ ((List api_Change))) (hF : z1223 qb vr1_1 s = some r) : Awp prog 1 48 (cL (cL (cR (cL (cR (cR (cR (cB f151)))))))) (Out 1 (kk z1226) (SS (z1224 qb vr1_1) (z1225 qb vr1_1)) r) (z1224 qb vr1_1 s) := by
  obtain ⟨vout, vx⟩ := s
  unfold z1223 at hF
  refine sR 1 (awp_seq (cE hF (fun h6 hF => ?_) fun h6 hF => ?_))
  · refine tT h6 (awp_skip (awp_seq (awp_to (st' := z1229 qb vr1_1 vout vx) (oT [] []) ?_)))
    refine bE hF fun vout2_1 h12 hF => awp_sub (z1231 qb vr1_1 vout vx h12) ?_
    exact gR 2 (oO hF [] [] rfl)
  · refine tF h6 (awp_exit ?_)
    exact oO hF [] [] rfl

def z1221 (qb : List api_Prop) (r : (List api_Change) × Int) : TV × Mem := (.tup [.one (.own 1 none), .one (.i r.2)], ⟨[(1, ⟨92, 9, List.map api_Change.enc r.1⟩)], []⟩)

theorem z1222 {qb : List api_Prop} {r} (hF : z1220 qb = some r) : Holds prog 151 [.c (.nil), .c (.own 0 none)] ⟨[(0, ⟨150, 5, List.map api_Prop.enc qb⟩)], []⟩ (Is (z1221 qb r)) := by
  unfold z1220 at hF
  refine hW f151 48 1 1 ?_
  refine sR 2 (awp_to (oT (m := ⟨[], []⟩) (ts := [(0, .c (.nil)), (1, .c (.l api_Prop.enc qb))]) (nx := 1) [] []) ?_)
  refine awp_seq (awp_seq (bE hF fun vr h1 hF => bE hF fun vr3 h2 hF => bE hF fun vr1 h3 hF => awp_region (aR 1 (aC (z1194 h1) [] [] [] (aR 1 (aC (z1205 h2) [] [] [] (aR 1 (aC (z18 h3) [] [] [4001] (aR 1 (aE ?_))))))))))
  refine sR 2 (cE hF (fun h4 hF => ?_) fun h4 hF => ?_)
  · exact tT h4 (sR 3 (awp_ret (oF hF [] [1])))
  · refine tF h4 (awp_skip (sR 1 (awp_seq (awp_seq (bE hF fun vr1_1 h5 hF => awp_region (aR 3 (aC (z1257 h5) [(0, 12001)] [] [] (aL encS vr1_1 (aR 1 (aE ?_))))))))))
    refine awp_to (oT (m := ⟨[], []⟩) (ts := [(0, .c (.nil)), (1, .c (.l api_Prop.enc qb)), (7, .c (.nil)), (24, .c (.l encS vr1_1)), (25, .i (vr1_1.length : Int)), (26, .i 0)]) (nx := 1) [] []) ?_
    refine awp_block (awp_to (st' := z1224 qb vr1_1 ([], 0)) (oT [] [1]) ?_)
    refine bE hF fun vout3_1 h13 hF => awp_sub (awp_loop' (z1224 qb vr1_1) z1226 (z1225 qb vr1_1) (by intro x; exact fun h => nomatch h) h13 (z1227 qb vr1_1)) ?_
    exact sR 3 (awp_ret (oF hF [] []))

/-! ### beaconfleet/series.byDevice -/
def z613 (qa : api_Sample) (qb : api_Sample) (r : Int) : TV × Mem := (.i r, ⟨[], []⟩)

theorem z614 {qa : api_Sample} {qb : api_Sample} {r} (hF : z612 qa qb = some r) : Holds prog 325 [.v (.agg [.s qa.Device, .s qa.Metric, .i qa.At, .i qa.Value]), .v (.agg [.s qb.Device, .s qb.Metric, .i qb.At, .i qb.Value])] ⟨[], []⟩ (Is (z613 qa qb r)) := by
  unfold z612 at hF
  refine hW f325 22 0 0 ?_
  refine sR 3 (awp_seq (bE hF fun _ h1 hF => bE hF fun _ h2 hF => bE hF fun vr h3 hF => bE hF fun vr1 h4 hF => aD ?_))
  refine dR 4 ?_
  refine dC (z1104 h1) [] [] [] ?_
  refine dR 4 ?_
  refine dC (z1104 h2) [] [] [] ?_
  refine dR 4 ?_
  refine dC (z132 h3) [] [] [] ?_
  refine dR 1 ?_
  refine dC (z144 h4) [] [] [18000] ?_
  refine dR 1 ?_
  refine dE ?_
  exact awp_ret (oF hF [] [])

/-! ### beaconfleet/series.Check -/
def z599 (ql : List api_Sample) (vx : Int) (vy2 : api_Sample) : Bool → St
  | vx4 => Mem.st ⟨[], [(0, [.s vy2.Device, .s vy2.Metric, .i vy2.At, .i vy2.Value])]⟩ (tl [(0, .c (.l api_Sample.enc ql)), (3, .i vx), (4, .c (.box 0 0)), (8, .c (.l api_Sample.enc ql)), (9, .i (ql.length : Int)), (10, .i vx), (15, .b vx4)]) 1

def z598 (ql : List api_Sample) (vx : Int) (vy2 : api_Sample) : St := Mem.st ⟨[], [(0, [.s vy2.Device, .s vy2.Metric, .i vy2.At, .i vy2.Value])]⟩ (tl [(0, .c (.l api_Sample.enc ql)), (3, .i vx), (4, .c (.box 0 0)), (8, .c (.l api_Sample.enc ql)), (9, .i (ql.length : Int)), (10, .i vx)]) 1

theorem z600 (ql : List api_Sample) (vx : Int) (vy2 : api_Sample) {r} (hF : z597 vy2 = some r) : Awp prog 0 50 (cL (cL (cR (cL (cL (cR (cR (cL (cL (cR (cL (cR (cR (cB f279)))))))))))))) (Out 0 nrm (z599 ql vx vy2) r) (z598 ql vx vy2) := by
  unfold z597 at hF
  refine bE hF fun vr3 h4 hF => cE hF (fun h5 hF => ?_) fun h5 hF => ?_
  · refine awp_region (aR 2 (aC (z26 h4) [] [] [] (aB h5 (aR 7 (aE ?_)))))
    exact oO hF [] [] rfl
  · refine bE hF fun vr4 h6 hF => awp_region (aR 2 (aC (z26 h4) [] [] [] (aB h5 (aR 3 (aC (z26 h6) [] [] [] (aR 3 (aE ?_)))))))
    exact oO hF [] [] rfl

def z603 (ql : List api_Sample) (vx : Int) (vy2 : api_Sample) : Bool → St
  | vx5 => Mem.st ⟨[], [(0, [.s vy2.Device, .s vy2.Metric, .i vy2.At, .i vy2.Value])]⟩ (tl [(0, .c (.l api_Sample.enc ql)), (3, .i vx), (4, .c (.box 0 0)), (8, .c (.l api_Sample.enc ql)), (9, .i (ql.length : Int)), (10, .i vx), (26, .b vx5)]) 1

def z602 (ql : List api_Sample) (vx : Int) (vy2 : api_Sample) : St := Mem.st ⟨[], [(0, [.s vy2.Device, .s vy2.Metric, .i vy2.At, .i vy2.Value])]⟩ (tl [(0, .c (.l api_Sample.enc ql)), (3, .i vx), (4, .c (.box 0 0)), (8, .c (.l api_Sample.enc ql)), (9, .i (ql.length : Int)), (10, .i vx)]) 1

theorem z604 (ql : List api_Sample) (vx : Int) (vy2 : api_Sample) {r} (hF : z601 vy2 = some r) : Awp prog 0 50 (cL (cR (cR (cL (cR (cL (cL (cR (cR (cL (cL (cR (cL (cR (cR (cB f279)))))))))))))))) (Out 0 nrm (z603 ql vx vy2) r) (z602 ql vx vy2) := by
  unfold z601 at hF
  refine bE hF fun vr1_2 h9 hF => cE hF (fun h10 hF => ?_) fun h10 hF => ?_
  · refine awp_region (aR 2 (aC (z43 h9) [] [] [] (aB h10 (aR 6 (aE ?_)))))
    exact oO hF [] [] rfl
  · refine bE hF fun vr5 h11 hF => awp_region (aR 2 (aC (z43 h9) [] [] [] (aB h10 (aR 3 (aC (z74 h11) [] [] [] (aR 2 (aE ?_)))))))
    exact oO hF [] [] rfl

def z607 (ql : List api_Sample) (vx : Int) (vy2 : api_Sample) : Bool → St
  | vx6 => Mem.st ⟨[], []⟩ (tl [(0, .c (.l api_Sample.enc ql)), (8, .c (.l api_Sample.enc ql)), (9, .i (ql.length : Int)), (10, .i vx), (36, .b vx6)]) 0

def z606 (ql : List api_Sample) (vx : Int) (vy2 : api_Sample) : St := Mem.st ⟨[], [(0, [.s vy2.Device, .s vy2.Metric, .i vy2.At, .i vy2.Value])]⟩ (tl [(0, .c (.l api_Sample.enc ql)), (3, .i vx), (4, .c (.box 0 0)), (8, .c (.l api_Sample.enc ql)), (9, .i (ql.length : Int)), (10, .i vx)]) 1

theorem z608 (ql : List api_Sample) (vx : Int) (vy2 : api_Sample) {r} (hF : z605 ql vx vy2 = some r) : Awp prog 0 50 (cL (cR (cR (cR (cR (cL (cR (cL (cL (cR (cR (cL (cL (cR (cL (cR (cR (cB f279)))))))))))))))))) (Out 0 nrm (z607 ql vx vy2) r) (z606 ql vx vy2) := by
  unfold z605 at hF
  refine cE hF (fun h14 hF => ?_) fun h14 hF => ?_
  · refine bE hF fun vy3 h15 hF => bE hF fun vr2_2 h16 hF => aD ?_
    refine dR 1 ?_
    refine dB h14 ?_
    refine dR 5 ?_
    refine dX (x_idx api_Sample.enc h15) ?_
    refine dR 1 ?_
    refine dC (z614 h16) [] [] [] ?_
    refine dR 3 ?_
    refine dE ?_
    exact oO hF [] [] rfl
  · refine aD ?_
    refine dR 1 ?_
    refine dB h14 ?_
    refine dR 11 ?_
    refine dE ?_
    exact oO hF [] [] rfl

def z595 : Unit ⊕ Int → AEx
  | .inl _ => .exit 0
  | .inr _ => .ret

def z594 (ql : List api_Sample) : Unit ⊕ Int → St
  | .inl _ => Mem.st ⟨[], []⟩ (tl []) 0
  | .inr vx7 => Mem.st ⟨[], []⟩ (tl [(2, .i vx7)]) 0

def z593 (ql : List api_Sample) : Int → St
  | vx => Mem.st ⟨[], []⟩ (tl [(0, .c (.l api_Sample.enc ql)), (8, .c (.l api_Sample.enc ql)), (9, .i (ql.length : Int)), (10, .i vx)]) 0

theorem z596 (ql : List api_Sample) (vx : Int) (r : (Int) ⊕ (Unit ⊕ Int)) (hF : z592 ql vx = some r) : Awp prog 0 50 (cL (cL (cR (cL (cR (cR (cB f279))))))) (Out 0 (kk z595) (SS (z593 ql) (z594 ql)) r) (z593 ql vx) := by
  unfold z592 at hF
  refine sR 1 (awp_seq (cE hF (fun h2 hF => ?_) fun h2 hF => ?_))
  · refine tT h2 (awp_skip (awp_seq (awp_block (awp_seq (bE hF fun vy2 h3 hF => awp_region (aR 1 (aX (x_idx api_Sample.enc h3) (aR 4 (aE ?_)))))))))
    refine awp_block (awp_seq (awp_to (st' := z598 ql vx vy2) (oT [(0, 4000)] []) ?_))
    refine bE hF fun vx4_1 h7 hF => awp_sub (z600 ql vx vy2 h7) ?_
    refine cE hF (fun h8 hF => ?_) fun h8 hF => ?_
    · exact tT h8 (sR 1 (awp_ret (oO hF [] [] rfl)))
    · refine tF h8 (awp_seq (awp_to (st' := z602 ql vx vy2) (oT [] []) ?_))
      refine bE hF fun vx5_1 h12 hF => awp_sub (z604 ql vx vy2 h12) ?_
      refine cE hF (fun h13 hF => ?_) fun h13 hF => ?_
      · exact tT h13 (sR 1 (awp_ret (oO hF [] [] rfl)))
      · refine tF h13 (awp_seq (awp_to (st' := z606 ql vx vy2) (oT [] []) ?_))
        refine bE hF fun vx6_1 h17 hF => awp_sub (z608 ql vx vy2 h17) ?_
        refine cE hF (fun h18 hF => ?_) fun h18 hF => ?_
        · exact tT h18 (sR 1 (awp_ret (oO hF [] [] rfl)))
        · exact tF h18 (awp_skip (gR 2 (oO hF [] [] rfl)))
  · refine tF h2 (awp_exit ?_)
    exact oO hF [] [] rfl

def z590 (ql : List api_Sample) (r : Int) : TV × Mem := (.i r, ⟨[], []⟩)

theorem z591 {ql : List api_Sample} {r} (hF : z579 ql = some r) : Holds prog 279 [.c (.l api_Sample.enc ql)] ⟨[], []⟩ (Is (z590 ql r)) := by
  unfold z579 at hF
  refine hW f279 50 0 0 ?_
  refine sR 1 (awp_seq (awp_seq (awp_region (aR 1 (aL api_Sample.enc ql (aR 1 (aE ?_)))))))
  refine cE hF (fun h1 hF => ?_) fun h1 hF => ?_
  · exact tT h1 (sR 1 (awp_ret (oF hF [] [])))
  · refine tF h1 (awp_skip (awp_seq (awp_seq (awp_region (aR 1 (aL api_Sample.enc ql (aR 1 (aE ?_))))))))
    refine awp_block (awp_to (st' := z593 ql 0) (oT [] []) ?_)
    refine bE hF fun x h19 hF => ?_
    rcases x with _ | vx7_1
    · refine awp_sub (awp_loop' (z593 ql) z595 (z594 ql) (by intro x; rcases x with x | x <;> exact fun h => nomatch h) h19 (z596 ql)) ?_
      exact sR 1 (awp_ret (oF hF [] []))
    · refine awp_sub (awp_loop' (z593 ql) z595 (z594 ql) (by intro x; rcases x with x | x <;> exact fun h => nomatch h) h19 (z596 ql)) ?_
      exact oF hF [] []

/-! ### beaconfleet/series.CheckSeries$1 -/
def z586 (qs : api_Sample) (qx : List api_Sample) : Bool → St
  | vx => Mem.st ⟨[], [(0, [.l api_Sample.enc qx])]⟩ (tl [(3, .b vx)]) 1

def z585 (qs : api_Sample) (qx : List api_Sample) : St := Mem.st ⟨[], [(0, [.l api_Sample.enc qx]), (1, [.s qs.Device, .s qs.Metric, .i qs.At, .i qs.Value])]⟩ (tl [(1, .c (.box 0 0)), (2, .c (.box 1 0))]) 2

theorem z587 (qs : api_Sample) (qx : List api_Sample) {r} (hF : z584 qs qx = some r) : Awp prog 1 20 (cL (cR (cB f281))) (Out 1 nrm (z586 qs qx) r) (z585 qs qx) := by
  unfold z584 at hF
  refine bE hF fun vy h1 hF => cE hF (fun h2 hF => ?_) fun h2 hF => ?_
  · refine aD ?_
    refine dR 3 ?_
    refine dX (x_idx api_Sample.enc h1) ?_
    refine dR 2 ?_
    refine dB h2 ?_
    refine dR 10 ?_
    refine dE ?_
    exact oO hF [] [] rfl
  · refine aD ?_
    refine dR 3 ?_
    refine dX (x_idx api_Sample.enc h1) ?_
    refine dR 2 ?_
    refine dB h2 ?_
    refine dR 4 ?_
    refine dX (x_idx api_Sample.enc h1) ?_
    refine dR 5 ?_
    refine dE ?_
    exact oO hF [] [] rfl

def z582 (qs : api_Sample) (qx : List api_Sample) (r : Bool) : TV × Mem := (.b r, ⟨[], [(0, [.l api_Sample.enc qx])]⟩)

theorem z583 {qs : api_Sample} {qx : List api_Sample} {r} (hF : z581 qs qx = some r) : Holds prog 281 [.v (.agg [.s qs.Device, .s qs.Metric, .i qs.At, .i qs.Value]), .c (.box 0 0)] ⟨[], [(0, [.l api_Sample.enc qx])]⟩ (Is (z582 qs qx r)) := by
  unfold z581 at hF
  refine hW f281 20 1 1 ?_
  refine sR 2 (awp_seq (awp_to (st' := z585 qs qx) (oT [] []) ?_))
  refine bE hF fun vx1 h3 hF => awp_sub (z587 qs qx h3) ?_
  exact awp_ret (oF hF [] [])

/-! ### slices.IndexFunc[[]beaconfleet/api.Sample,beaconfleet/api.Sample] -/
def z787 : Unit ⊕ Int → AEx
  | .inl _ => .exit 0
  | .inr _ => .ret

def z786 (qs : List api_Sample) : Unit ⊕ Int → St
  | .inl _ => Mem.st ⟨[], [(0, [.l api_Sample.enc qs])]⟩ (tl []) 1
  | .inr vx1 => Mem.st ⟨[], [(0, [.l api_Sample.enc qs])]⟩ (tl [(4, .i vx1)]) 1

def z785 (qs : List api_Sample) : Int → St
  | vx => Mem.st ⟨[], [(0, [.l api_Sample.enc qs])]⟩ (tl [(0, .c (.l api_Sample.enc qs)), (1, .c (.fn 281 [0])), (7, .i (qs.length : Int)), (8, .i vx)]) 1

theorem z788 (qs : List api_Sample) (vx : Int) (r : (Int) ⊕ (Unit ⊕ Int)) (hF : z784 qs vx = some r) : Awp prog 1 19 (cL (cL (cR (cL (cR (cB f326)))))) (Out 1 (kk z787) (SS (z785 qs) (z786 qs)) r) (z785 qs vx) := by
  unfold z784 at hF
  refine sR 1 (awp_seq (cE hF (fun h1 hF => ?_) fun h1 hF => ?_))
  · refine tT h1 (awp_skip (awp_seq (awp_block (sR 2 (awp_seq (bE hF fun vy1 h2 hF => bE hF fun vr1 h3 hF => awp_region (aR 3 (aX (x_idx api_Sample.enc h2) (aR 1 (aC (z583 h3) [] [] [] (aE ?_)))))))))))
    refine cE hF (fun h4 hF => ?_) fun h4 hF => ?_
    · exact tT h4 (sR 2 (awp_ret (oO hF [] [] rfl)))
    · exact tF h4 (awp_skip (gR 2 (oO hF [] [] rfl)))
  · refine tF h1 (awp_exit ?_)
    exact oO hF [] [] rfl

def z782 (qs : List api_Sample) (r : Int) : TV × Mem := (.i r, ⟨[], [(0, [.l api_Sample.enc qs])]⟩)

theorem z783 {qs : List api_Sample} {r} (hF : z781 qs = some r) : Holds prog 326 [.c (.l api_Sample.enc qs), .c (.fn 281 [0])] ⟨[], [(0, [.l api_Sample.enc qs])]⟩ (Is (z782 qs r)) := by
  unfold z781 at hF
  refine hW f326 19 1 1 ?_
  refine sR 1 (awp_seq (awp_seq (awp_region (aR 1 (aL api_Sample.enc qs (aR 1 (aE ?_)))))))
  refine awp_block (awp_to (st' := z785 qs 0) (oT [] []) ?_)
  refine bE hF fun x h5 hF => ?_
  rcases x with _ | vx1_1
  · refine awp_sub (awp_loop' (z785 qs) z787 (z786 qs) (by intro x; rcases x with x | x <;> exact fun h => nomatch h) h5 (z788 qs)) ?_
    exact sR 1 (awp_ret (oF hF [] []))
  · refine awp_sub (awp_loop' (z785 qs) z787 (z786 qs) (by intro x; rcases x with x | x <;> exact fun h => nomatch h) h5 (z788 qs)) ?_
    exact oF hF [] []

/-! ### slices.ContainsFunc[[]beaconfleet/api.Sample,beaconfleet/api.Sample] -/
def z724 (qs : List api_Sample) (r : Bool) : TV × Mem := (.b r, ⟨[], [(0, [.l api_Sample.enc qs])]⟩)

theorem z725 {qs : List api_Sample} {r} (hF : z723 qs = some r) : Holds prog 280 [.c (.l api_Sample.enc qs), .c (.fn 281 [0])] ⟨[], [(0, [.l api_Sample.enc qs])]⟩ (Is (z724 qs r)) := by
  unfold z723 at hF
  refine hW f280 9 1 1 ?_
  refine sR 1 (awp_seq (bE hF fun vr2 h1 hF => awp_region (aR 2 (aC (z783 h1) [] [] [] (aR 2 (aE ?_))))))
  exact awp_ret (oF hF [] [])

/-! ### beaconfleet/series.CheckSeries -/
def z588 (ql : List api_Sample) (r : Int) : TV × Mem := (.i r, ⟨[], []⟩)

theorem z589 {ql : List api_Sample} {r} (hF : z580 ql = some r) : Holds prog 233 [.c (.l api_Sample.enc ql)] ⟨[], []⟩ (Is (z588 ql r)) := by
  unfold z580 at hF
  refine hW f233 12 0 0 ?_
  refine sR 2 (awp_seq (awp_seq (bE hF fun vr6 h1 hF => awp_region (aR 1 (aC (z591 h1) [] [] [] (aR 1 (aE ?_)))))))
  refine sR 2 (cE hF (fun h2 hF => ?_) fun h2 hF => ?_)
  · exact tT h2 (sR 2 (awp_ret (oF hF [] [])))
  · refine tF h2 (awp_skip (awp_seq (awp_seq (bE hF fun vr h3 hF => awp_region (aR 2 (aC (z725 h3) [] [] [] (aE ?_)))))))
    refine cE hF (fun h4 hF => ?_) fun h4 hF => ?_
    · exact tT h4 (sR 1 (awp_ret (oF hF [] [])))
    · exact tF h4 (awp_skip (sR 1 (awp_ret (oF hF [] []))))

/-! ### beaconfleet/series.seven -/
def z636 : ((List Int) × Int) → AEx
  | _ => .exit 0

def z635 : ((List Int) × Int) → St
  | (vb1, vn1) => Mem.st ⟨[(0, ⟨5, 1, List.map (encI .u8) vb1⟩)], []⟩ (tl [(0, .c (.own 0 none)), (1, .c (.d (.int .u64 vn1)))]) 1

def z634 : (List Int) × Int → St
  | (vb, vn) => Mem.st ⟨[(0, ⟨5, 1, List.map (encI .u8) vb⟩)], []⟩ (tl [(0, .c (.own 0 none)), (1, .c (.d (.int .u64 vn)))]) 1

theorem z637 (s : (List Int) × Int) (r : ((List Int) × Int) ⊕ (((List Int) × Int))) (hF : z633  s = some r) : Awp prog 0 21 (cL (cL (cL (cR (cB f282))))) (Out 0 (kk z636) (SS (z634 ) (z635 )) r) (z634  s) := by
  obtain ⟨vb, vn⟩ := s
  unfold z633 at hF
  refine awp_seq (sR 2 (cE hF (fun h1 hF => ?_) fun h1 hF => ?_))
  · refine tT h1 (awp_skip (awp_block (gE hF fun h2 hF => ?_)))
    refine awp_region (aR 6 (aX (x_app (encI .u8) 0 h2) (aR 4 (aE ?_))))
    exact oO hF [(0, 8001)] [] rfl
  · refine tF h1 (awp_exit ?_)
    exact oO hF [] [] rfl

def z631 (qn : Int) (r : (List Int)) : TV × Mem := (.c (.own 0 none), ⟨[(0, ⟨5, 1, List.map (encI .u8) r⟩)], []⟩)

theorem z632 {qn : Int} {r} (hF : z630 qn = some r) : Holds prog 282 [.c (.nil), .c (.d (.int .u64 qn))] ⟨[], []⟩ (Is (z631 qn r)) := by
  unfold z630 at hF
  refine hW f282 21 0 0 ?_
  refine sR 1 (awp_seq (awp_block (awp_to (st' := z634  ([], qn)) (oT [] [0]) ?_)))
  refine bE hF fun x h3 hF => ?_
  obtain ⟨vb1_1, vn1_1⟩ := x
  refine awp_sub (awp_loop' (z634 ) z636 (z635 ) (by intro x; exact fun h => nomatch h) h3 (z637 )) ?_
  refine awp_seq (gE hF fun h4 hF => ?_)
  refine awp_region (aR 4 (aX (x_app (encI .u8) 0 h4) (aR 1 (aE ?_))))
  exact awp_ret (oF hF [(0, 4001)] [])

/-! ### beaconfleet/series.doubled -/
def z616 (qn : Int) (r : Int) : TV × Mem := (.c (.d (.int .u64 r)), ⟨[], []⟩)

theorem z617 {qn : Int} {r} (hF : z615 qn = some r) : Holds prog 283 [.i qn] ⟨[], []⟩ (Is (z616 qn r)) := by
  unfold z615 at hF
  refine hW f283 12 0 0 ?_
  refine sR 1 (awp_seq (sR 2 (cE hF (fun h1 hF => ?_) fun h1 hF => ?_)))
  · exact tT h1 (sR 5 (awp_ret (oF hF [] [])))
  · exact tF h1 (awp_skip (sR 4 (awp_ret (oF hF [] []))))

/-! ### beaconfleet/series.seven -/
def z644 : ((List Int) × Int) → AEx
  | _ => .exit 0

def z643 : ((List Int) × Int) → St
  | (vb1, vn1) => Mem.st ⟨[(1, ⟨5, 1, List.map (encI .u8) vb1⟩)], []⟩ (tl [(0, .c (.own 1 none)), (1, .c (.d (.int .u64 vn1)))]) 2

def z642 : (List Int) × Int → St
  | (vb, vn) => Mem.st ⟨[(1, ⟨5, 1, List.map (encI .u8) vb⟩)], []⟩ (tl [(0, .c (.own 1 none)), (1, .c (.d (.int .u64 vn)))]) 2

theorem z645 (s : (List Int) × Int) (r : ((List Int) × Int) ⊕ (((List Int) × Int))) (hF : z641  s = some r) : Awp prog 1 21 (cL (cL (cL (cR (cB f282))))) (Out 1 (kk z644) (SS (z642 ) (z643 )) r) (z642  s) := by
  obtain ⟨vb, vn⟩ := s
  unfold z641 at hF
  refine awp_seq (sR 2 (cE hF (fun h1 hF => ?_) fun h1 hF => ?_))
  · refine tT h1 (awp_skip (awp_block (gE hF fun h2 hF => ?_)))
    refine awp_region (aR 6 (aX (x_app (encI .u8) 1 h2) (aR 4 (aE ?_))))
    exact oO hF [(1, 8002)] [] rfl
  · refine tF h1 (awp_exit ?_)
    exact oO hF [] [] rfl

def z639 (qb : List Int) (qn : Int) (r : (List Int)) : TV × Mem := (.c (.own 1 none), ⟨[(1, ⟨5, 1, List.map (encI .u8) r⟩)], []⟩)

theorem z640 {qb : List Int} {qn : Int} {r} (hF : z638 qb qn = some r) : Holds prog 282 [.c (.own 0 none), .c (.d (.int .u64 qn))] ⟨[(0, ⟨5, 1, List.map (encI .u8) qb⟩)], []⟩ (Is (z639 qb qn r)) := by
  unfold z638 at hF
  refine hW f282 21 1 1 ?_
  refine sR 1 (awp_seq (awp_block (awp_to (st' := z642  (qb, qn)) (oT [(1, 0)] []) ?_)))
  refine bE hF fun x h3 hF => ?_
  obtain ⟨vb1_1, vn1_1⟩ := x
  refine awp_sub (awp_loop' (z642 ) z644 (z643 ) (by intro x; exact fun h => nomatch h) h3 (z645 )) ?_
  refine awp_seq (gE hF fun h4 hF => ?_)
  refine awp_region (aR 4 (aX (x_app (encI .u8) 1 h4) (aR 1 (aE ?_))))
  exact awp_ret (oF hF [(1, 4002)] [])

/-! ### beaconfleet/series.pack -/
def z628 (ql : List api_Sample) (vat : Int) (vby : Int) (vx : Int) (vy1 : api_Sample) (vr8 : List Int) : Int → St
  | vby2 => Mem.st ⟨[(1, ⟨5, 1, List.map (encI .u8) vr8⟩)], [(0, [.s vy1.Device, .s vy1.Metric, .i vy1.At, .i vy1.Value])]⟩ (tl [(3, .c (.own 1 none)), (5, .i vby2), (8, .c (.box 0 0)), (14, .c (.l api_Sample.enc ql)), (15, .i (ql.length : Int)), (16, .i vx)]) 2

def z627 (ql : List api_Sample) (vat : Int) (vby : Int) (vx : Int) (vy1 : api_Sample) (vr8 : List Int) : St := Mem.st ⟨[(1, ⟨5, 1, List.map (encI .u8) vr8⟩)], [(0, [.s vy1.Device, .s vy1.Metric, .i vy1.At, .i vy1.Value])]⟩ (tl [(3, .c (.own 1 none)), (5, .i vby), (7, .i vx), (8, .c (.box 0 0)), (9, .i (IntKind.wrap .i64 (vy1.At - vat))), (14, .c (.l api_Sample.enc ql)), (15, .i (ql.length : Int)), (16, .i vx)]) 2

theorem z629 (ql : List api_Sample) (vat : Int) (vby : Int) (vx : Int) (vy1 : api_Sample) (vr8 : List Int) {r} (hF : z626 vat vby vx vy1 = some r) : Awp prog 0 47 (cL (cR (cR (cR (cR (cL (cL (cR (cR (cL (cL (cR (cL (cR (cR (cR (cB f234))))))))))))))))) (Out 0 nrm (z628 ql vat vby vx vy1 vr8) r) (z627 ql vat vby vx vy1 vr8) := by
  unfold z626 at hF
  refine sR 2 (cE hF (fun h8 hF => ?_) fun h8 hF => ?_)
  · exact tT h8 (gR 2 (oO hF [] [] rfl))
  · exact tF h8 (awp_skip (oO hF [] [] rfl))

def z624 : (List Int) → AEx
  | _ => .exit 0

def z623 (ql : List api_Sample) : (List Int) → St
  | vout1 => Mem.st ⟨[(0, ⟨5, 1, List.map (encI .u8) vout1⟩)], []⟩ (tl [(3, .c (.own 0 none))]) 1

def z622 (ql : List api_Sample) : (List Int) × Int × Int × Int × Int → St
  | (vout, vat, vby, vvalue, vx) => Mem.st ⟨[(0, ⟨5, 1, List.map (encI .u8) vout⟩)], []⟩ (tl [(3, .c (.own 0 none)), (4, .i vat), (5, .i vby), (6, .i vvalue), (14, .c (.l api_Sample.enc ql)), (15, .i (ql.length : Int)), (16, .i vx)]) 1

theorem z625 (ql : List api_Sample) (s : (List Int) × Int × Int × Int × Int) (r : ((List Int) × Int × Int × Int × Int) ⊕ ((List Int))) (hF : z621 ql s = some r) : Awp prog 0 47 (cL (cL (cR (cL (cR (cR (cR (cB f234)))))))) (Out 0 (kk z624) (SS (z622 ql) (z623 ql)) r) (z622 ql s) := by
  obtain ⟨vout, vat, vby, vvalue, vx⟩ := s
  unfold z621 at hF
  refine sR 1 (awp_seq (cE hF (fun h2 hF => ?_) fun h2 hF => ?_))
  · refine tT h2 (awp_skip (awp_seq (awp_block (awp_seq (bE hF fun vy1 h3 hF => awp_region (aR 1 (aX (x_idx api_Sample.enc h3) (aR 4 (aE ?_)))))))))
    refine sR 5 (awp_seq (bE hF fun vr5 h4 hF => bE hF fun vr6 h5 hF => awp_region (aR 4 (aC (z617 h4) [] [] [] (aC (z640 h5) [] [] [] (aR 1 (aE ?_)))))))
    refine awp_seq (bE hF fun vr7 h6 hF => bE hF fun vr8 h7 hF => awp_region (aR 5 (aC (z617 h6) [] [] [] (aC (z640 h7) [(0, 17002)] [] [] (aR 1 (aE ?_))))))
    refine awp_seq (awp_to (st' := z627 ql vat vby vx vy1 vr8) (oT [(0, 4001), (1, 25002)] []) ?_)
    refine bE hF fun vby2_1 h9 hF => awp_sub (z629 ql vat vby vx vy1 vr8 h9) ?_
    refine aD ?_
    refine dR 6 ?_
    refine dE ?_
    exact gR 2 (oO hF [(0, 1)] [] rfl)
  · refine tF h2 (awp_exit ?_)
    exact oO hF [] [] rfl

def z619 (ql : List api_Sample) (r : (List Int)) : TV × Mem := (.c (.own 0 none), ⟨[(0, ⟨5, 1, List.map (encI .u8) r⟩)], []⟩)

theorem z620 {ql : List api_Sample} {r} (hF : z618 ql = some r) : Holds prog 234 [.c (.l api_Sample.enc ql)] ⟨[], []⟩ (Is (z619 ql r)) := by
  unfold z618 at hF
  refine hW f234 47 0 0 ?_
  refine sR 1 (awp_seq (bE hF fun vr h1 hF => awp_region (aR 1 (aL api_Sample.enc ql (aR 1 (aC (z632 h1) [] [] [] (aR 1 (aE ?_))))))))
  refine sR 3 (awp_seq (awp_seq (awp_region (aR 1 (aL api_Sample.enc ql (aR 1 (aE ?_)))))))
  refine awp_block (awp_to (st' := z622 ql (vr, 0, 0, 0, 0)) (oT [(0, 4000)] []) ?_)
  refine bE hF fun vout1_1 h10 hF => awp_sub (awp_loop' (z622 ql) z624 (z623 ql) (by intro x; exact fun h => nomatch h) h10 (z625 ql)) ?_
  exact sR 2 (awp_ret (oF hF [] []))

/-! ### beaconfleet/series.Pack -/
def z610 (ql : List api_Sample) (r : (List Int) × Int) : TV × Mem := (.tup [.one (.own 1 none), .one (.i r.2)], ⟨[(1, ⟨5, 1, List.map (encI .u8) r.1⟩)], []⟩)

theorem z611 {ql : List api_Sample} {r} (hF : z609 ql = some r) : Holds prog 154 [.c (.own 0 none)] ⟨[(0, ⟨183, 4, List.map api_Sample.enc ql⟩)], []⟩ (Is (z610 ql r)) := by
  unfold z609 at hF
  refine hW f154 12 1 1 ?_
  refine sR 2 (awp_to (oT (m := ⟨[], []⟩) (ts := [(0, .c (.l api_Sample.enc ql))]) (nx := 1) [] []) ?_)
  refine awp_seq (awp_seq (bE hF fun vr1 h1 hF => awp_region (aR 1 (aC (z589 h1) [] [] [] (aR 1 (aE ?_))))))
  refine sR 2 (cE hF (fun h2 hF => ?_) fun h2 hF => ?_)
  · exact tT h2 (sR 3 (awp_ret (oF hF [] [1])))
  · refine tF h2 (awp_skip (awp_seq (bE hF fun vr9 h3 hF => awp_region (aR 1 (aC (z620 h3) [] [] [] (aR 2 (aE ?_)))))))
    exact awp_ret (oF hF [(1, 6001)] [])

/-! ### internal/stringslite.TrimPrefix -/
def z1185 (qs : List UInt8) (qprefix : List UInt8) (r : (List UInt8)) : TV × Mem := (.c (.s r), ⟨[], []⟩)

theorem z1186 {qs : List UInt8} {qprefix : List UInt8} {r} (hF : z1184 qs qprefix = some r) : Holds prog 348 [.c (.s qs), .c (.s qprefix)] ⟨[], []⟩ (Is (z1185 qs qprefix r)) := by
  unfold z1184 at hF
  refine hW f348 13 0 0 ?_
  refine sR 1 (awp_seq (awp_seq (bE hF fun vr h1 hF => awp_region (aR 2 (aC (z1169 h1) [] [] [] (aE ?_))))))
  refine cE hF (fun h2 hF => ?_) fun h2 hF => ?_
  · refine tT h2 (awp_seq (bE hF fun vs h3 hF => awp_region (aR 3 (aX (x_sliceS h3) (aR 1 (aE ?_))))))
    exact awp_ret (oF hF [] [])
  · exact tF h2 (awp_skip (sR 2 (awp_ret (oF hF [] []))))

/-! ### strings.TrimPrefix -/
def z1128 (qs : List UInt8) (qprefix : List UInt8) (r : (List UInt8)) : TV × Mem := (.c (.s r), ⟨[], []⟩)

theorem z1129 {qs : List UInt8} {qprefix : List UInt8} {r} (hF : z1127 qs qprefix = some r) : Holds prog 327 [.c (.s qs), .c (.s qprefix)] ⟨[], []⟩ (Is (z1128 qs qprefix r)) := by
  unfold z1127 at hF
  refine hW f327 8 0 0 ?_
  refine sR 1 (awp_seq (bE hF fun vr1 h1 hF => awp_region (aR 2 (aC (z1186 h1) [] [] [] (aR 1 (aE ?_))))))
  exact awp_ret (oF hF [] [])

/-! ### internal/strconv.lower -/
def z1067 (qc : Int) (r : Unit) : TV × Mem := (.c (.d (.int .u8 (ibits .or .u8 qc 32))), ⟨[], []⟩)

theorem z1068 {qc : Int} {r} (hF : z1066 qc = some r) : Holds prog 369 [.c (.d (.int .u8 qc))] ⟨[], []⟩ (Is (z1067 qc r)) := by
  unfold z1066 at hF
  refine hW f369 5 0 0 ?_
  exact sR 1 (sR 3 (awp_ret (oF hF [] [])))

/-! ### internal/strconv.underscoreOK -/
def z1078 (qx : List UInt8) : Bool → St
  | vx => Mem.st ⟨[], []⟩ (tl [(0, .c (.s qx)), (3, .c (.d (.int .i32 94))), (4, .i 0), (18, .b vx)]) 0

def z1077 (qx : List UInt8) : St := Mem.st ⟨[], []⟩ (tl [(0, .c (.s qx)), (3, .c (.d (.int .i32 94))), (4, .i 0)]) 0

theorem z1079 (qx : List UInt8) {r} (hF : z1076 qx = some r) : Awp prog 0 94 (cL (cL (cR (cR (cR (cB f370)))))) (Out 0 nrm (z1078 qx) r) (z1077 qx) := by
  unfold z1076 at hF
  refine cE hF (fun h1 hF => ?_) fun h1 hF => ?_
  · refine bE hF fun vc h2 hF => cE hF (fun h3 hF => ?_) fun h3 hF => ?_
    · refine awp_region (aR 2 (aB h1 (aR 2 (aX (x_idxS h2) (aB h3 (aR 6 (aE ?_)))))))
      exact oO hF [] [] rfl
    · refine awp_region (aR 2 (aB h1 (aR 2 (aX (x_idxS h2) (aB h3 (aR 2 (aX (x_idxS h2) (aR 3 (aE ?_)))))))))
      exact oO hF [] [] rfl
  · refine awp_region (aR 2 (aB h1 (aR 10 (aE ?_))))
    exact oO hF [] [] rfl

def z1074 (qx : List UInt8) : (List UInt8) → St
  | vx2 => Mem.st ⟨[], []⟩ (tl [(0, .c (.s vx2)), (3, .c (.d (.int .i32 94))), (4, .i 0)]) 0

def z1073 (qx : List UInt8) : St := Mem.st ⟨[], []⟩ (tl [(0, .c (.s qx)), (3, .c (.d (.int .i32 94))), (4, .i 0)]) 0

theorem z1075 (qx : List UInt8) {r} (hF : z1072 qx = some r) : Awp prog 0 94 (cL (cR (cR (cR (cB f370))))) (Out 0 nrm (z1074 qx) r) (z1073 qx) := by
  unfold z1072 at hF
  refine awp_seq (awp_to (st' := z1077 qx) (oT [] []) ?_)
  refine bE hF fun vx1 h4 hF => awp_sub (z1079 qx h4) ?_
  refine cE hF (fun h5 hF => ?_) fun h5 hF => ?_
  · refine tT h5 (bE hF fun vs h6 hF => awp_region (aR 1 (aX (x_sliceS h6) (aR 1 (aE ?_)))))
    exact oO hF [] [] rfl
  · exact tF h5 (awp_skip (oO hF [] [] rfl))

def z1086 (vx2_1 : List UInt8) : Bool → St
  | vx3 => Mem.st ⟨[], []⟩ (tl [(0, .c (.s vx2_1)), (3, .c (.d (.int .i32 94))), (4, .i 0), (5, .b false), (46, .b vx3)]) 0

def z1085 (vx2_1 : List UInt8) : St := Mem.st ⟨[], []⟩ (tl [(0, .c (.s vx2_1)), (3, .c (.d (.int .i32 94))), (4, .i 0), (5, .b false)]) 0

theorem z1087 (vx2_1 : List UInt8) {r} (hF : z1084 vx2_1 = some r) : Awp prog 0 94 (cL (cL (cR (cR (cR (cR (cR (cB f370)))))))) (Out 0 nrm (z1086 vx2_1) r) (z1085 vx2_1) := by
  unfold z1084 at hF
  refine cE hF (fun h8 hF => ?_) fun h8 hF => ?_
  · refine bE hF fun vc1 h9 hF => cE hF (fun h10 hF => ?_) fun h10 hF => ?_
    · refine bE hF fun vc2 h11 hF => bE hF fun _ h12 hF => cE hF (fun h13 hF => ?_) fun h13 hF => ?_
      · refine awp_region (aR 2 (aB h8 (aR 2 (aX (x_idxS h9) (aB h10 (aR 3 (aX (x_idxS h11) (aC (z1068 h12) [] [] [] (aB h13 (aR 13 (aE ?_)))))))))))
        exact oO hF [] [] rfl
      · refine cE hF (fun h14 hF => ?_) fun h14 hF => ?_
        · refine awp_region (aR 2 (aB h8 (aR 2 (aX (x_idxS h9) (aB h10 (aR 3 (aX (x_idxS h11) (aC (z1068 h12) [] [] [] (aB h13 (aR 2 (aX (x_idxS h11) (aC (z1068 h12) [] [] [] (aB h14 ?_)))))))))))))
          refine aR 8 (aE ?_)
          exact oO hF [] [] rfl
        · refine awp_region (aR 2 (aB h8 (aR 2 (aX (x_idxS h9) (aB h10 (aR 3 (aX (x_idxS h11) (aC (z1068 h12) [] [] [] (aB h13 (aR 2 (aX (x_idxS h11) (aC (z1068 h12) [] [] [] (aB h14 ?_)))))))))))))
          refine aR 3 (aX (x_idxS h11) (aC (z1068 h12) [] [] [] (aR 3 (aE ?_))))
          exact oO hF [] [] rfl
    · refine awp_region (aR 2 (aB h8 (aR 2 (aX (x_idxS h9) (aB h10 (aR 19 (aE ?_)))))))
      exact oO hF [] [] rfl
  · refine awp_region (aR 2 (aB h8 (aR 23 (aE ?_))))
    exact oO hF [] [] rfl

def z1082 (vx2_1 : List UInt8) : (Int × Int × Bool) → St
  | (vx4, vx5, vx6) => Mem.st ⟨[], []⟩ (tl [(0, .c (.s vx2_1)), (3, .c (.d (.int .i32 vx4))), (4, .i vx5), (5, .b vx6)]) 0

def z1081 (vx2_1 : List UInt8) : St := Mem.st ⟨[], []⟩ (tl [(0, .c (.s vx2_1)), (3, .c (.d (.int .i32 94))), (4, .i 0), (5, .b false)]) 0

theorem z1083 (vx2_1 : List UInt8) {r} (hF : z1080 vx2_1 = some r) : Awp prog 0 94 (cL (cR (cR (cR (cR (cR (cB f370))))))) (Out 0 nrm (z1082 vx2_1) r) (z1081 vx2_1) := by
  unfold z1080 at hF
  refine awp_seq (awp_to (st' := z1085 vx2_1) (oT [] []) ?_)
  refine bE hF fun vx3_1 h15 hF => awp_sub (z1087 vx2_1 h15) ?_
  refine cE hF (fun h16 hF => ?_) fun h16 hF => ?_
  · refine tT h16 (sR 1 (sR 1 (bE hF fun vc3 h17 hF => bE hF fun _ h18 hF => awp_region (aR 1 (aX (x_idxS h17) (aC (z1068 h18) [] [] [] (aR 2 (aE ?_))))))))
    exact oO hF [] [] rfl
  · exact tF h16 (awp_skip (oO hF [] [] rfl))

def z1100 (vx2_1 : List UInt8) (vx6_1 : Bool) (vx7 : Int) (vx8 : Int) : Bool → St
  | vx11 => Mem.st ⟨[], []⟩ (tl [(0, .c (.s vx2_1)), (3, .c (.d (.int .i32 vx7))), (4, .i vx8), (5, .b vx6_1), (83, .b vx11)]) 0

def z1099 (vx2_1 : List UInt8) (vx6_1 : Bool) (vx7 : Int) (vx8 : Int) : St := Mem.st ⟨[], []⟩ (tl [(0, .c (.s vx2_1)), (3, .c (.d (.int .i32 vx7))), (4, .i vx8), (5, .b vx6_1)]) 0

theorem z1101 (vx2_1 : List UInt8) (vx6_1 : Bool) (vx7 : Int) (vx8 : Int) {r} (hF : z1098 vx2_1 vx6_1 vx8 = some r) : Awp prog 0 94 (cL (cL (cL (cL (cR (cL (cL (cL (cR (cR (cR (cR (cR (cR (cB f370))))))))))))))) (Out 0 nrm (z1100 vx2_1 vx6_1 vx7 vx8) r) (z1099 vx2_1 vx6_1 vx7 vx8) := by
  unfold z1098 at hF
  refine bE hF fun vc6 h21 hF => cE hF (fun h22 hF => ?_) fun h22 hF => ?_
  · refine cE hF (fun h23 hF => ?_) fun h23 hF => ?_
    · refine awp_region (aR 2 (aX (x_idxS h21) (aB h22 (aR 3 (aX (x_idxS h21) (aB h23 (aR 18 (aE ?_))))))))
      exact oO hF [] [] rfl
    · refine cE hF (fun h24 hF => ?_) fun h24 hF => ?_
      · refine bE hF fun _ h25 hF => cE hF (fun h26 hF => ?_) fun h26 hF => ?_
        · refine awp_region (aR 2 (aX (x_idxS h21) (aB h22 (aR 3 (aX (x_idxS h21) (aB h23 (aR 2 (aB h24 (aR 3 (aX (x_idxS h21) (aC (z1068 h25) [] [] [] (aB h26 (aR 4 ?_)))))))))))))
          refine aX (x_idxS h21) (aC (z1068 h25) [] [] [] (aR 3 (aE ?_)))
          exact oO hF [] [] rfl
        · refine awp_region (aR 2 (aX (x_idxS h21) (aB h22 (aR 3 (aX (x_idxS h21) (aB h23 (aR 2 (aB h24 (aR 3 (aX (x_idxS h21) (aC (z1068 h25) [] [] [] (aB h26 (aR 9 ?_)))))))))))))
          refine aE ?_
          exact oO hF [] [] rfl
      · refine awp_region (aR 2 (aX (x_idxS h21) (aB h22 (aR 3 (aX (x_idxS h21) (aB h23 (aR 2 (aB h24 (aR 15 (aE ?_))))))))))
        exact oO hF [] [] rfl
  · refine cE hF (fun h27 hF => ?_) fun h27 hF => ?_
    · refine bE hF fun _ h28 hF => cE hF (fun h29 hF => ?_) fun h29 hF => ?_
      · refine awp_region (aR 2 (aX (x_idxS h21) (aB h22 (aR 7 (aB h27 (aR 3 (aX (x_idxS h21) (aC (z1068 h28) [] [] [] (aB h29 (aR 4 (aX (x_idxS h21) (aC (z1068 h28) [] [] [] (aR 3 ?_)))))))))))))
        refine aE ?_
        exact oO hF [] [] rfl
      · refine awp_region (aR 2 (aX (x_idxS h21) (aB h22 (aR 7 (aB h27 (aR 3 (aX (x_idxS h21) (aC (z1068 h28) [] [] [] (aB h29 (aR 9 (aE ?_)))))))))))
        exact oO hF [] [] rfl
    · refine awp_region (aR 2 (aX (x_idxS h21) (aB h22 (aR 7 (aB h27 (aR 15 (aE ?_)))))))
      exact oO hF [] [] rfl

def z1096 : Int ⊕ Unit → AEx
  | .inl _ => .normal
  | .inr _ => .ret

def z1095 (vx2_1 : List UInt8) (vx6_1 : Bool) (vx7 : Int) (vx8 : Int) : Int ⊕ Unit → St
  | .inl vx12 => Mem.st ⟨[], []⟩ (tl [(0, .c (.s vx2_1)), (3, .c (.d (.int .i32 vx12))), (4, .i vx8), (5, .b vx6_1)]) 0
  | .inr _ => Mem.st ⟨[], []⟩ (tl [(2, .b false)]) 0

def z1094 (vx2_1 : List UInt8) (vx6_1 : Bool) (vx7 : Int) (vx8 : Int) : St := Mem.st ⟨[], []⟩ (tl [(0, .c (.s vx2_1)), (3, .c (.d (.int .i32 vx7))), (4, .i vx8), (5, .b vx6_1)]) 0

theorem z1097 (vx2_1 : List UInt8) (vx6_1 : Bool) (vx7 : Int) (vx8 : Int) {r} (hF : z1093 vx2_1 vx6_1 vx7 vx8 = some r) : Awp prog 0 94 (cL (cR (cL (cL (cL (cR (cR (cR (cR (cR (cR (cB f370)))))))))))) (Out 0 z1096 (z1095 vx2_1 vx6_1 vx7 vx8) r) (z1094 vx2_1 vx6_1 vx7 vx8) := by
  unfold z1093 at hF
  refine awp_block (awp_seq (awp_seq (awp_to (st' := z1099 vx2_1 vx6_1 vx7 vx8) (oT [] []) ?_)))
  refine bE hF fun vx11_1 h30 hF => awp_sub (z1101 vx2_1 vx6_1 vx7 vx8 h30) ?_
  refine cE hF (fun h31 hF => ?_) fun h31 hF => ?_
  · refine tT h31 (sR 1 (awp_exit ?_))
    exact oO hF [] [] rfl
  · refine tF h31 (awp_skip (awp_seq (awp_seq (bE hF fun vc7 h32 hF => awp_region (aR 2 (aX (x_idxS h32) (aR 1 (aE ?_))))))))
    refine cE hF (fun h33 hF => ?_) fun h33 hF => ?_
    · refine tT h33 (awp_seq (sR 2 (cE hF (fun h34 hF => ?_) fun h34 hF => ?_)))
      · exact tT h34 (sR 1 (awp_ret (oO hF [] [] rfl)))
      · refine tF h34 (awp_skip (sR 1 (awp_exit ?_)))
        exact oO hF [] [] rfl
    · refine tF h33 (awp_skip (awp_seq (sR 2 (cE hF (fun h35 hF => ?_) fun h35 hF => ?_))))
      · exact tT h35 (sR 1 (awp_ret (oO hF [] [] rfl)))
      · exact tF h35 (awp_skip (gR 1 (oO hF [] [] rfl)))

def z1091 : Int ⊕ Unit → AEx
  | .inl _ => .exit 0
  | .inr _ => .ret

def z1090 (vx2_1 : List UInt8) (vx6_1 : Bool) : Int ⊕ Unit → St
  | .inl vx13 => Mem.st ⟨[], []⟩ (tl [(3, .c (.d (.int .i32 vx13)))]) 0
  | .inr _ => Mem.st ⟨[], []⟩ (tl [(2, .b false)]) 0

def z1089 (vx2_1 : List UInt8) (vx6_1 : Bool) : Int × Int → St
  | (vx7, vx8) => Mem.st ⟨[], []⟩ (tl [(0, .c (.s vx2_1)), (3, .c (.d (.int .i32 vx7))), (4, .i vx8), (5, .b vx6_1)]) 0

theorem z1092 (vx2_1 : List UInt8) (vx6_1 : Bool) (s : Int × Int) (r : (Int × Int) ⊕ (Int ⊕ Unit)) (hF : z1088 vx2_1 vx6_1 s = some r) : Awp prog 0 94 (cL (cL (cL (cR (cR (cR (cR (cR (cR (cB f370)))))))))) (Out 0 (kk z1091) (SS (z1089 vx2_1 vx6_1) (z1090 vx2_1 vx6_1)) r) (z1089 vx2_1 vx6_1 s) := by
  obtain ⟨vx7, vx8⟩ := s
  unfold z1088 at hF
  refine awp_seq (sR 4 (cE hF (fun h20 hF => ?_) fun h20 hF => ?_))
  · refine tT h20 (awp_skip (awp_seq (awp_to (st' := z1094 vx2_1 vx6_1 vx7 vx8) (oT [] []) ?_)))
    refine bE hF fun x h36 hF => ?_
    rcases x with vx12_1 | _
    · refine awp_sub (z1097 vx2_1 vx6_1 vx7 vx8 h36) ?_
      exact gR 3 (oO hF [] [] rfl)
    · refine awp_sub (z1097 vx2_1 vx6_1 vx7 vx8 h36) ?_
      exact oO hF [] [] rfl
  · refine tF h20 (awp_exit ?_)
    exact oO hF [] [] rfl

def z1070 (qx : List UInt8) (r : Bool) : TV × Mem := (.b r, ⟨[], []⟩)

theorem z1071 {qx : List UInt8} {r} (hF : z1069 qx = some r) : Holds prog 370 [.c (.s qx)] ⟨[], []⟩ (Is (z1070 qx r)) := by
  unfold z1069 at hF
  refine hW f370 94 0 0 ?_
  refine sR 1 (sR 1 (sR 1 (awp_seq (awp_to (st' := z1073 qx) (oT [] []) ?_))))
  refine bE hF fun vx2_1 h7 hF => awp_sub (z1075 qx h7) ?_
  refine sR 1 (awp_seq (awp_to (st' := z1081 vx2_1) (oT [] []) ?_))
  refine bE hF fun x h19 hF => ?_
  obtain ⟨vx4_1, vx5_1, vx6_1⟩ := x
  refine awp_sub (z1083 vx2_1 h19) ?_
  refine awp_seq (awp_block (awp_to (st' := z1089 vx2_1 vx6_1 (vx4_1, vx5_1)) (oT [] []) ?_))
  refine bE hF fun x h37 hF => ?_
  rcases x with vx13_1 | _
  · refine awp_sub (awp_loop' (z1089 vx2_1 vx6_1) z1091 (z1090 vx2_1 vx6_1) (by intro x; rcases x with x | x <;> exact fun h => nomatch h) h37 (z1092 vx2_1 vx6_1)) ?_
    exact sR 3 (awp_ret (oF hF [] []))
  · refine awp_sub (awp_loop' (z1089 vx2_1 vx6_1) z1091 (z1090 vx2_1 vx6_1) (by intro x; rcases x with x | x <;> exact fun h => nomatch h) h37 (z1092 vx2_1 vx6_1)) ?_
    exact oF hF [] []

/-! ### internal/strconv.ParseUint -/
def z1035 (qx : List UInt8) (qx1 : Int) (qx2 : Int) : Bool → St
  | vx => Mem.st ⟨[], []⟩ (tl [(0, .c (.s qx)), (1, .i qx1), (2, .i qx2), (8, .b (decide (qx1 = 0))), (9, .c (.s qx)), (25, .b vx)]) 0

def z1034 (qx : List UInt8) (qx1 : Int) (qx2 : Int) : St := Mem.st ⟨[], []⟩ (tl [(0, .c (.s qx)), (1, .i qx1), (2, .i qx2), (8, .b (decide (qx1 = 0))), (9, .c (.s qx))]) 0

theorem z1036 (qx : List UInt8) (qx1 : Int) (qx2 : Int) {r} (hF : z1033 qx1 = some r) : Awp prog 0 172 (cL (cL (cL (cR (cR (cR (cR (cB f365)))))))) (Out 0 nrm (z1035 qx qx1 qx2) r) (z1034 qx qx1 qx2) := by
  unfold z1033 at hF
  refine cE hF (fun h3 hF => ?_) fun h3 hF => ?_
  · refine awp_region (aR 1 (aB h3 (aR 5 (aE ?_))))
    exact oO hF [] [] rfl
  · refine awp_region (aR 1 (aB h3 (aR 5 (aE ?_))))
    exact oO hF [] [] rfl

def z1039 (qx : List UInt8) (qx1 : Int) (qx2 : Int) : Bool → St
  | vx2 => Mem.st ⟨[], []⟩ (tl [(0, .c (.s qx)), (2, .i qx2), (8, .b (decide (qx1 = 0))), (9, .c (.s qx)), (40, .b vx2)]) 0

def z1038 (qx : List UInt8) (qx1 : Int) (qx2 : Int) : St := Mem.st ⟨[], []⟩ (tl [(0, .c (.s qx)), (2, .i qx2), (8, .b (decide (qx1 = 0))), (9, .c (.s qx))]) 0

theorem z1040 (qx : List UInt8) (qx1 : Int) (qx2 : Int) {r} (hF : z1037 qx = some r) : Awp prog 0 172 (cL (cL (cL (cR (cR (cL (cR (cR (cR (cL (cL (cR (cR (cR (cR (cB f365)))))))))))))))) (Out 0 nrm (z1039 qx qx1 qx2) r) (z1038 qx qx1 qx2) := by
  unfold z1037 at hF
  refine cE hF (fun h9 hF => ?_) fun h9 hF => ?_
  · refine bE hF fun vc1 h10 hF => bE hF fun _ h11 hF => awp_region (aR 2 (aB h9 (aR 2 (aX (x_idxS h10) (aC (z1068 h11) [] [] [] (aR 3 (aE ?_)))))))
    exact oO hF [] [] rfl
  · refine awp_region (aR 2 (aB h9 (aR 7 (aE ?_))))
    exact oO hF [] [] rfl

def z1043 (qx : List UInt8) (qx1 : Int) (qx2 : Int) : Bool → St
  | vx3 => Mem.st ⟨[], []⟩ (tl [(0, .c (.s qx)), (2, .i qx2), (8, .b (decide (qx1 = 0))), (9, .c (.s qx)), (52, .b vx3)]) 0

def z1042 (qx : List UInt8) (qx1 : Int) (qx2 : Int) : St := Mem.st ⟨[], []⟩ (tl [(0, .c (.s qx)), (2, .i qx2), (8, .b (decide (qx1 = 0))), (9, .c (.s qx))]) 0

theorem z1044 (qx : List UInt8) (qx1 : Int) (qx2 : Int) {r} (hF : z1041 qx = some r) : Awp prog 0 172 (cL (cR (cR (cL (cL (cR (cR (cL (cR (cR (cR (cL (cL (cR (cR (cR (cR (cB f365)))))))))))))))))) (Out 0 nrm (z1043 qx qx1 qx2) r) (z1042 qx qx1 qx2) := by
  unfold z1041 at hF
  refine cE hF (fun h15 hF => ?_) fun h15 hF => ?_
  · refine bE hF fun vc2 h16 hF => bE hF fun _ h17 hF => awp_region (aR 2 (aB h15 (aR 2 (aX (x_idxS h16) (aC (z1068 h17) [] [] [] (aR 3 (aE ?_)))))))
    exact oO hF [] [] rfl
  · refine awp_region (aR 2 (aB h15 (aR 7 (aE ?_))))
    exact oO hF [] [] rfl

def z1047 (qx : List UInt8) (qx1 : Int) (qx2 : Int) : Bool → St
  | vx4 => Mem.st ⟨[], []⟩ (tl [(0, .c (.s qx)), (2, .i qx2), (8, .b (decide (qx1 = 0))), (9, .c (.s qx)), (64, .b vx4)]) 0

def z1046 (qx : List UInt8) (qx1 : Int) (qx2 : Int) : St := Mem.st ⟨[], []⟩ (tl [(0, .c (.s qx)), (2, .i qx2), (8, .b (decide (qx1 = 0))), (9, .c (.s qx))]) 0

theorem z1048 (qx : List UInt8) (qx1 : Int) (qx2 : Int) {r} (hF : z1045 qx = some r) : Awp prog 0 172 (cL (cR (cR (cR (cR (cL (cL (cR (cR (cL (cR (cR (cR (cL (cL (cR (cR (cR (cR (cB f365)))))))))))))))))))) (Out 0 nrm (z1047 qx qx1 qx2) r) (z1046 qx qx1 qx2) := by
  unfold z1045 at hF
  refine cE hF (fun h21 hF => ?_) fun h21 hF => ?_
  · refine bE hF fun vc3 h22 hF => bE hF fun _ h23 hF => awp_region (aR 2 (aB h21 (aR 2 (aX (x_idxS h22) (aC (z1068 h23) [] [] [] (aR 3 (aE ?_)))))))
    exact oO hF [] [] rfl
  · refine awp_region (aR 2 (aB h21 (aR 7 (aE ?_))))
    exact oO hF [] [] rfl

def z1031 (qx : List UInt8) (qx1 : Int) (qx2 : Int) : ((List UInt8) × Int) → St
  | (vx5, vx6) => Mem.st ⟨[], []⟩ (tl [(0, .c (.s vx5)), (1, .i vx6), (2, .i qx2), (8, .b (decide (qx1 = 0))), (9, .c (.s qx))]) 0

def z1030 (qx : List UInt8) (qx1 : Int) (qx2 : Int) : St := Mem.st ⟨[], []⟩ (tl [(0, .c (.s qx)), (1, .i qx1), (2, .i qx2), (8, .b (decide (qx1 = 0))), (9, .c (.s qx))]) 0

theorem z1032 (qx : List UInt8) (qx1 : Int) (qx2 : Int) {r} (hF : z1000 qx qx1 = some r) : Awp prog 0 172 (cL (cR (cR (cR (cR (cB f365)))))) (Out 0 nrm (z1031 qx qx1 qx2) r) (z1030 qx qx1 qx2) := by
  unfold z1000 at hF
  refine awp_block (awp_seq (awp_to (st' := z1034 qx qx1 qx2) (oT [] []) ?_))
  refine bE hF fun vx1 h4 hF => awp_sub (z1036 qx qx1 qx2 h4) ?_
  refine cE hF (fun h5 hF => ?_) fun h5 hF => ?_
  · exact tT h5 (awp_skip (oO hF [] [] rfl))
  · refine tF h5 (sR 3 (cE hF (fun h6 hF => ?_) fun h6 hF => ?_))
    · refine tT h6 (sR 1 (awp_seq (bE hF fun vc h7 hF => awp_region (aR 1 (aX (x_idxS h7) (aR 1 (aE ?_)))))))
      refine cE hF (fun h8 hF => ?_) fun h8 hF => ?_
      · refine tT h8 (awp_block (awp_seq (awp_to (st' := z1038 qx qx1 qx2) (oT [] []) ?_)))
        refine bE hF fun vx2_1 h12 hF => awp_sub (z1040 qx qx1 qx2 h12) ?_
        refine cE hF (fun h13 hF => ?_) fun h13 hF => ?_
        · refine tT h13 (sR 1 (bE hF fun vs h14 hF => awp_region (aR 1 (aX (x_sliceS h14) (aR 1 (aE ?_))))))
          exact oO hF [] [] rfl
        · refine tF h13 (awp_seq (awp_to (st' := z1042 qx qx1 qx2) (oT [] []) ?_))
          refine bE hF fun vx3_1 h18 hF => awp_sub (z1044 qx qx1 qx2 h18) ?_
          refine cE hF (fun h19 hF => ?_) fun h19 hF => ?_
          · refine tT h19 (sR 1 (bE hF fun vs1 h20 hF => awp_region (aR 1 (aX (x_sliceS h20) (aR 1 (aE ?_))))))
            exact oO hF [] [] rfl
          · refine tF h19 (awp_seq (awp_to (st' := z1046 qx qx1 qx2) (oT [] []) ?_))
            refine bE hF fun vx4_1 h24 hF => awp_sub (z1048 qx qx1 qx2 h24) ?_
            refine cE hF (fun h25 hF => ?_) fun h25 hF => ?_
            · refine tT h25 (sR 1 (bE hF fun vs2 h26 hF => awp_region (aR 1 (aX (x_sliceS h26) (aR 1 (aE ?_))))))
              exact oO hF [] [] rfl
            · refine tF h25 (sR 1 (bE hF fun vs3 h27 hF => awp_region (aR 1 (aX (x_sliceS h27) (aR 1 (aE ?_))))))
              exact oO hF [] [] rfl
      · exact tF h8 (awp_skip (oO hF [] [] rfl))
    · exact tF h6 (awp_seq (nE hF))

def z1055 (qx : List UInt8) (qx1 : Int) (qx2 : Int) (vx5_1 : List UInt8) (vx6_1 : Int) : Bool → St
  | vx7 => Mem.st ⟨[], []⟩ (tl [(0, .c (.s vx5_1)), (1, .i vx6_1), (2, .i qx2), (8, .b (decide (qx1 = 0))), (9, .c (.s qx)), (83, .b vx7)]) 0

def z1054 (qx : List UInt8) (qx1 : Int) (qx2 : Int) (vx5_1 : List UInt8) (vx6_1 : Int) : St := Mem.st ⟨[], []⟩ (tl [(0, .c (.s vx5_1)), (1, .i vx6_1), (2, .i qx2), (8, .b (decide (qx1 = 0))), (9, .c (.s qx))]) 0

theorem z1056 (qx : List UInt8) (qx1 : Int) (qx2 : Int) (vx5_1 : List UInt8) (vx6_1 : Int) {r} (hF : z1053 qx2 = some r) : Awp prog 0 172 (cL (cR (cR (cL (cR (cR (cR (cR (cR (cB f365)))))))))) (Out 0 nrm (z1055 qx qx1 qx2 vx5_1 vx6_1) r) (z1054 qx qx1 qx2 vx5_1 vx6_1) := by
  unfold z1053 at hF
  refine cE hF (fun h31 hF => ?_) fun h31 hF => ?_
  · refine awp_region (aR 1 (aB h31 (aR 4 (aE ?_))))
    exact oO hF [] [] rfl
  · refine awp_region (aR 1 (aB h31 (aR 4 (aE ?_))))
    exact oO hF [] [] rfl

def z1051 (qx : List UInt8) (qx1 : Int) (qx2 : Int) (vx5_1 : List UInt8) (vx6_1 : Int) : Int → St
  | vx8 => Mem.st ⟨[], []⟩ (tl [(0, .c (.s vx5_1)), (1, .i vx6_1), (2, .i vx8), (8, .b (decide (qx1 = 0))), (9, .c (.s qx))]) 0

def z1050 (qx : List UInt8) (qx1 : Int) (qx2 : Int) (vx5_1 : List UInt8) (vx6_1 : Int) : St := Mem.st ⟨[], []⟩ (tl [(0, .c (.s vx5_1)), (1, .i vx6_1), (2, .i qx2), (8, .b (decide (qx1 = 0))), (9, .c (.s qx))]) 0

theorem z1052 (qx : List UInt8) (qx1 : Int) (qx2 : Int) (vx5_1 : List UInt8) (vx6_1 : Int) {r} (hF : z1049 qx2 = some r) : Awp prog 0 172 (cL (cR (cR (cR (cR (cR (cB f365))))))) (Out 0 nrm (z1051 qx qx1 qx2 vx5_1 vx6_1) r) (z1050 qx qx1 qx2 vx5_1 vx6_1) := by
  unfold z1049 at hF
  refine sR 2 (cE hF (fun h30 hF => ?_) fun h30 hF => ?_)
  · exact tT h30 (gR 1 (oO hF [] [] rfl))
  · refine tF h30 (awp_seq (awp_to (st' := z1054 qx qx1 qx2 vx5_1 vx6_1) (oT [] []) ?_))
    refine bE hF fun vx7_1 h32 hF => awp_sub (z1056 qx qx1 qx2 vx5_1 vx6_1 h32) ?_
    refine cE hF (fun h33 hF => ?_) fun h33 hF => ?_
    · exact tT h33 (awp_seq (nE hF))
    · exact tF h33 (awp_skip (oO hF [] [] rfl))

def z1059 (qx : List UInt8) (qx1 : Int) (vx5_1 : List UInt8) (vx6_1 : Int) (vx8_1 : Int) : Int → St
  | vx9 => Mem.st ⟨[], []⟩ (tl [(0, .c (.s vx5_1)), (1, .i vx6_1), (2, .i vx8_1), (8, .b (decide (qx1 = 0))), (9, .c (.s qx)), (10, .c (.d (.int .u64 vx9)))]) 0

def z1058 (qx : List UInt8) (qx1 : Int) (vx5_1 : List UInt8) (vx6_1 : Int) (vx8_1 : Int) : St := Mem.st ⟨[], []⟩ (tl [(0, .c (.s vx5_1)), (1, .i vx6_1), (2, .i vx8_1), (8, .b (decide (qx1 = 0))), (9, .c (.s qx))]) 0

theorem z1060 (qx : List UInt8) (qx1 : Int) (vx5_1 : List UInt8) (vx6_1 : Int) (vx8_1 : Int) {r} (hF : z1057 vx6_1 = some r) : Awp prog 0 172 (cL (cR (cR (cR (cR (cR (cR (cR (cB f365))))))))) (Out 0 nrm (z1059 qx qx1 vx5_1 vx6_1 vx8_1) r) (z1058 qx qx1 vx5_1 vx6_1 vx8_1) := by
  unfold z1057 at hF
  refine sR 1 (awp_block (sR 2 (cE hF (fun h36 hF => ?_) fun h36 hF => ?_)))
  · exact tT h36 (gR 1 (oO hF [] [] rfl))
  · refine tF h36 (sR 2 (cE hF (fun h37 hF => ?_) fun h37 hF => ?_))
    · exact tT h37 (gR 1 (oO hF [] [] rfl))
    · refine tF h37 (gE hF fun h38 hF => ?_)
      refine awp_region (aR 2 (aX (x_quo h38) (aR 2 (aE ?_))))
      exact oO hF [] [] rfl

def z1012 (qx : List UInt8) (qx1 : Int) (vx5_1 : List UInt8) (vx6_1 : Int) (vx8_1 : Int) (vx9_1 : Int) (vx10 : Bool) (vx11 : Int) (vx12 : Int) (vy1 : Int) : Bool → St
  | vx20 => Mem.st ⟨[], []⟩ (tl [(1, .i vx6_1), (8, .b (decide (qx1 = 0))), (9, .c (.s qx)), (10, .c (.d (.int .u64 vx9_1))), (11, .c (.d (.int .u64 (IntKind.wrap .u64 ((ishl .u64 1 (IntKind.wrap .u64 (vx8_1))) - 1))))), (12, .b vx10), (13, .c (.d (.int .u64 vx11))), (15, .c (.d (.int .u8 vy1))), (99, .c (.l (encI .u8) (bytesD vx5_1))), (100, .i ((bytesD vx5_1).length : Int)), (101, .i vx12), (106, .b vx20)]) 0

def z1011 (qx : List UInt8) (qx1 : Int) (vx5_1 : List UInt8) (vx6_1 : Int) (vx8_1 : Int) (vx9_1 : Int) (vx10 : Bool) (vx11 : Int) (vx12 : Int) (vy1 : Int) : St := Mem.st ⟨[], []⟩ (tl [(1, .i vx6_1), (8, .b (decide (qx1 = 0))), (9, .c (.s qx)), (10, .c (.d (.int .u64 vx9_1))), (11, .c (.d (.int .u64 (IntKind.wrap .u64 ((ishl .u64 1 (IntKind.wrap .u64 (vx8_1))) - 1))))), (12, .b vx10), (13, .c (.d (.int .u64 vx11))), (15, .c (.d (.int .u8 vy1))), (99, .c (.l (encI .u8) (bytesD vx5_1))), (100, .i ((bytesD vx5_1).length : Int)), (101, .i vx12)]) 0

theorem z1013 (qx : List UInt8) (qx1 : Int) (vx5_1 : List UInt8) (vx6_1 : Int) (vx8_1 : Int) (vx9_1 : Int) (vx10 : Bool) (vx11 : Int) (vx12 : Int) (vy1 : Int) {r} (hF : z1010 qx1 vy1 = some r) : Awp prog 0 172 (cL (cL (cL (cR (cR (cL (cL (cR (cR (cL (cL (cR (cL (cR (cR (cR (cR (cR (cR (cR (cR (cR (cR (cR (cB f365))))))))))))))))))))))))) (Out 0 nrm (z1012 qx qx1 vx5_1 vx6_1 vx8_1 vx9_1 vx10 vx11 vx12 vy1) r) (z1011 qx qx1 vx5_1 vx6_1 vx8_1 vx9_1 vx10 vx11 vx12 vy1) := by
  unfold z1010 at hF
  refine cE hF (fun h43 hF => ?_) fun h43 hF => ?_
  · refine awp_region (aR 1 (aB h43 (aR 4 (aE ?_))))
    exact oO hF [] [] rfl
  · refine awp_region (aR 1 (aB h43 (aR 4 (aE ?_))))
    exact oO hF [] [] rfl

def z1016 (qx : List UInt8) (qx1 : Int) (vx5_1 : List UInt8) (vx6_1 : Int) (vx8_1 : Int) (vx9_1 : Int) (vx10 : Bool) (vx11 : Int) (vx12 : Int) (vy1 : Int) : Bool → St
  | vx21 => Mem.st ⟨[], []⟩ (tl [(1, .i vx6_1), (8, .b (decide (qx1 = 0))), (9, .c (.s qx)), (10, .c (.d (.int .u64 vx9_1))), (11, .c (.d (.int .u64 (IntKind.wrap .u64 ((ishl .u64 1 (IntKind.wrap .u64 (vx8_1))) - 1))))), (12, .b vx10), (13, .c (.d (.int .u64 vx11))), (15, .c (.d (.int .u8 vy1))), (99, .c (.l (encI .u8) (bytesD vx5_1))), (100, .i ((bytesD vx5_1).length : Int)), (101, .i vx12), (112, .b vx21)]) 0

def z1015 (qx : List UInt8) (qx1 : Int) (vx5_1 : List UInt8) (vx6_1 : Int) (vx8_1 : Int) (vx9_1 : Int) (vx10 : Bool) (vx11 : Int) (vx12 : Int) (vy1 : Int) : St := Mem.st ⟨[], []⟩ (tl [(1, .i vx6_1), (8, .b (decide (qx1 = 0))), (9, .c (.s qx)), (10, .c (.d (.int .u64 vx9_1))), (11, .c (.d (.int .u64 (IntKind.wrap .u64 ((ishl .u64 1 (IntKind.wrap .u64 (vx8_1))) - 1))))), (12, .b vx10), (13, .c (.d (.int .u64 vx11))), (15, .c (.d (.int .u8 vy1))), (99, .c (.l (encI .u8) (bytesD vx5_1))), (100, .i ((bytesD vx5_1).length : Int)), (101, .i vx12)]) 0

theorem z1017 (qx : List UInt8) (qx1 : Int) (vx5_1 : List UInt8) (vx6_1 : Int) (vx8_1 : Int) (vx9_1 : Int) (vx10 : Bool) (vx11 : Int) (vx12 : Int) (vy1 : Int) {r} (hF : z1014 vy1 = some r) : Awp prog 0 172 (cL (cR (cR (cL (cL (cR (cR (cL (cL (cR (cR (cL (cL (cR (cL (cR (cR (cR (cR (cR (cR (cR (cR (cR (cR (cR (cB f365))))))))))))))))))))))))))) (Out 0 nrm (z1016 qx qx1 vx5_1 vx6_1 vx8_1 vx9_1 vx10 vx11 vx12 vy1) r) (z1015 qx qx1 vx5_1 vx6_1 vx8_1 vx9_1 vx10 vx11 vx12 vy1) := by
  unfold z1014 at hF
  refine cE hF (fun h46 hF => ?_) fun h46 hF => ?_
  · refine awp_region (aR 1 (aB h46 (aR 5 (aE ?_))))
    exact oO hF [] [] rfl
  · refine awp_region (aR 1 (aB h46 (aR 5 (aE ?_))))
    exact oO hF [] [] rfl

def z1020 (qx : List UInt8) (qx1 : Int) (vx5_1 : List UInt8) (vx6_1 : Int) (vx8_1 : Int) (vx9_1 : Int) (vx10 : Bool) (vx11 : Int) (vx12 : Int) (vy1 : Int) : Bool → St
  | vx22 => Mem.st ⟨[], []⟩ (tl [(1, .i vx6_1), (8, .b (decide (qx1 = 0))), (9, .c (.s qx)), (10, .c (.d (.int .u64 vx9_1))), (11, .c (.d (.int .u64 (IntKind.wrap .u64 ((ishl .u64 1 (IntKind.wrap .u64 (vx8_1))) - 1))))), (12, .b vx10), (13, .c (.d (.int .u64 vx11))), (15, .c (.d (.int .u8 vy1))), (99, .c (.l (encI .u8) (bytesD vx5_1))), (100, .i ((bytesD vx5_1).length : Int)), (101, .i vx12), (121, .b vx22)]) 0

def z1019 (qx : List UInt8) (qx1 : Int) (vx5_1 : List UInt8) (vx6_1 : Int) (vx8_1 : Int) (vx9_1 : Int) (vx10 : Bool) (vx11 : Int) (vx12 : Int) (vy1 : Int) : St := Mem.st ⟨[], []⟩ (tl [(1, .i vx6_1), (8, .b (decide (qx1 = 0))), (9, .c (.s qx)), (10, .c (.d (.int .u64 vx9_1))), (11, .c (.d (.int .u64 (IntKind.wrap .u64 ((ishl .u64 1 (IntKind.wrap .u64 (vx8_1))) - 1))))), (12, .b vx10), (13, .c (.d (.int .u64 vx11))), (15, .c (.d (.int .u8 vy1))), (99, .c (.l (encI .u8) (bytesD vx5_1))), (100, .i ((bytesD vx5_1).length : Int)), (101, .i vx12)]) 0

theorem z1021 (qx : List UInt8) (qx1 : Int) (vx5_1 : List UInt8) (vx6_1 : Int) (vx8_1 : Int) (vx9_1 : Int) (vx10 : Bool) (vx11 : Int) (vx12 : Int) (vy1 : Int) {r} (hF : z1018 vy1 = some r) : Awp prog 0 172 (cL (cR (cR (cR (cR (cL (cL (cR (cR (cL (cL (cR (cR (cL (cL (cR (cL (cR (cR (cR (cR (cR (cR (cR (cR (cR (cR (cR (cB f365))))))))))))))))))))))))))))) (Out 0 nrm (z1020 qx qx1 vx5_1 vx6_1 vx8_1 vx9_1 vx10 vx11 vx12 vy1) r) (z1019 qx qx1 vx5_1 vx6_1 vx8_1 vx9_1 vx10 vx11 vx12 vy1) := by
  unfold z1018 at hF
  refine bE hF fun _ h49 hF => cE hF (fun h50 hF => ?_) fun h50 hF => ?_
  · refine awp_region (aR 1 (aC (z1068 h49) [] [] [] (aB h50 (aR 2 (aC (z1068 h49) [] [] [] (aR 3 (aE ?_)))))))
    exact oO hF [] [] rfl
  · refine awp_region (aR 1 (aC (z1068 h49) [] [] [] (aB h50 (aR 6 (aE ?_)))))
    exact oO hF [] [] rfl

def z1008 : Int ⊕ Unit → AEx
  | .inl _ => .normal
  | .inr _ => .exit 4

def z1007 (qx : List UInt8) (qx1 : Int) (vx5_1 : List UInt8) (vx6_1 : Int) (vx8_1 : Int) (vx9_1 : Int) (vx10 : Bool) (vx11 : Int) (vx12 : Int) (vy1 : Int) : Int ⊕ Unit → St
  | .inl vx23 => Mem.st ⟨[], []⟩ (tl [(1, .i vx6_1), (8, .b (decide (qx1 = 0))), (9, .c (.s qx)), (10, .c (.d (.int .u64 vx9_1))), (11, .c (.d (.int .u64 (IntKind.wrap .u64 ((ishl .u64 1 (IntKind.wrap .u64 (vx8_1))) - 1))))), (12, .b vx10), (13, .c (.d (.int .u64 vx11))), (16, .c (.d (.int .u8 vx23))), (99, .c (.l (encI .u8) (bytesD vx5_1))), (100, .i ((bytesD vx5_1).length : Int)), (101, .i vx12)]) 0
  | .inr _ => Mem.st ⟨[], []⟩ (tl [(1, .i vx6_1), (8, .b (decide (qx1 = 0))), (9, .c (.s qx)), (10, .c (.d (.int .u64 vx9_1))), (11, .c (.d (.int .u64 (IntKind.wrap .u64 ((ishl .u64 1 (IntKind.wrap .u64 (vx8_1))) - 1))))), (12, .b true), (13, .c (.d (.int .u64 vx11))), (99, .c (.l (encI .u8) (bytesD vx5_1))), (100, .i ((bytesD vx5_1).length : Int)), (101, .i vx12)]) 0

def z1006 (qx : List UInt8) (qx1 : Int) (vx5_1 : List UInt8) (vx6_1 : Int) (vx8_1 : Int) (vx9_1 : Int) (vx10 : Bool) (vx11 : Int) (vx12 : Int) (vy1 : Int) : St := Mem.st ⟨[], []⟩ (tl [(1, .i vx6_1), (8, .b (decide (qx1 = 0))), (9, .c (.s qx)), (10, .c (.d (.int .u64 vx9_1))), (11, .c (.d (.int .u64 (IntKind.wrap .u64 ((ishl .u64 1 (IntKind.wrap .u64 (vx8_1))) - 1))))), (12, .b vx10), (13, .c (.d (.int .u64 vx11))), (15, .c (.d (.int .u8 vy1))), (99, .c (.l (encI .u8) (bytesD vx5_1))), (100, .i ((bytesD vx5_1).length : Int)), (101, .i vx12)]) 0

theorem z1009 (qx : List UInt8) (qx1 : Int) (vx5_1 : List UInt8) (vx6_1 : Int) (vx8_1 : Int) (vx9_1 : Int) (vx10 : Bool) (vx11 : Int) (vx12 : Int) (vy1 : Int) {r} (hF : z1005 qx1 vy1 = some r) : Awp prog 0 172 (cL (cR (cR (cL (cL (cR (cR (cL (cL (cR (cL (cR (cR (cR (cR (cR (cR (cR (cR (cR (cR (cR (cB f365))))))))))))))))))))))) (Out 0 z1008 (z1007 qx qx1 vx5_1 vx6_1 vx8_1 vx9_1 vx10 vx11 vx12 vy1) r) (z1006 qx qx1 vx5_1 vx6_1 vx8_1 vx9_1 vx10 vx11 vx12 vy1) := by
  unfold z1005 at hF
  refine awp_block (awp_seq (awp_to (st' := z1011 qx qx1 vx5_1 vx6_1 vx8_1 vx9_1 vx10 vx11 vx12 vy1) (oT [] []) ?_))
  refine bE hF fun vx20_1 h44 hF => awp_sub (z1013 qx qx1 vx5_1 vx6_1 vx8_1 vx9_1 vx10 vx11 vx12 vy1 h44) ?_
  refine cE hF (fun h45 hF => ?_) fun h45 hF => ?_
  · refine tT h45 (sR 1 (awp_exit ?_))
    exact oO hF [] [] rfl
  · refine tF h45 (awp_seq (awp_to (st' := z1015 qx qx1 vx5_1 vx6_1 vx8_1 vx9_1 vx10 vx11 vx12 vy1) (oT [] []) ?_))
    refine bE hF fun vx21_1 h47 hF => awp_sub (z1017 qx qx1 vx5_1 vx6_1 vx8_1 vx9_1 vx10 vx11 vx12 vy1 h47) ?_
    refine cE hF (fun h48 hF => ?_) fun h48 hF => ?_
    · exact tT h48 (gR 3 (oO hF [] [] rfl))
    · refine tF h48 (awp_seq (awp_to (st' := z1019 qx qx1 vx5_1 vx6_1 vx8_1 vx9_1 vx10 vx11 vx12 vy1) (oT [] []) ?_))
      refine bE hF fun vx22_1 h51 hF => awp_sub (z1021 qx qx1 vx5_1 vx6_1 vx8_1 vx9_1 vx10 vx11 vx12 vy1 h51) ?_
      refine cE hF (fun h52 hF => ?_) fun h52 hF => ?_
      · refine tT h52 (bE hF fun _ h53 hF => awp_region (aR 1 (aC (z1068 h53) [] [] [] (aR 3 (aE ?_)))))
        exact oO hF [] [] rfl
      · exact tF h52 (awp_seq (nE hF))

def z1024 (qx : List UInt8) (qx1 : Int) (vx5_1 : List UInt8) (vx6_1 : Int) (vx8_1 : Int) (vx9_1 : Int) (vx10 : Bool) (vx11 : Int) (vx12 : Int) (vx23_1 : Int) : Bool → St
  | vx24 => Mem.st ⟨[], []⟩ (tl [(1, .i vx6_1), (8, .b (decide (qx1 = 0))), (9, .c (.s qx)), (10, .c (.d (.int .u64 vx9_1))), (11, .c (.d (.int .u64 (IntKind.wrap .u64 ((ishl .u64 1 (IntKind.wrap .u64 (vx8_1))) - 1))))), (12, .b vx10), (17, .c (.d (.int .u64 (IntKind.wrap .u64 ((IntKind.wrap .u64 (vx11 * (IntKind.wrap .u64 (vx6_1)))) + (IntKind.wrap .u64 (vx23_1))))))), (99, .c (.l (encI .u8) (bytesD vx5_1))), (100, .i ((bytesD vx5_1).length : Int)), (101, .i vx12), (159, .b vx24)]) 0

def z1023 (qx : List UInt8) (qx1 : Int) (vx5_1 : List UInt8) (vx6_1 : Int) (vx8_1 : Int) (vx9_1 : Int) (vx10 : Bool) (vx11 : Int) (vx12 : Int) (vx23_1 : Int) : St := Mem.st ⟨[], []⟩ (tl [(1, .i vx6_1), (8, .b (decide (qx1 = 0))), (9, .c (.s qx)), (10, .c (.d (.int .u64 vx9_1))), (11, .c (.d (.int .u64 (IntKind.wrap .u64 ((ishl .u64 1 (IntKind.wrap .u64 (vx8_1))) - 1))))), (12, .b vx10), (13, .c (.d (.int .u64 (IntKind.wrap .u64 (vx11 * (IntKind.wrap .u64 (vx6_1))))))), (17, .c (.d (.int .u64 (IntKind.wrap .u64 ((IntKind.wrap .u64 (vx11 * (IntKind.wrap .u64 (vx6_1)))) + (IntKind.wrap .u64 (vx23_1))))))), (99, .c (.l (encI .u8) (bytesD vx5_1))), (100, .i ((bytesD vx5_1).length : Int)), (101, .i vx12)]) 0

theorem z1025 (qx : List UInt8) (qx1 : Int) (vx5_1 : List UInt8) (vx6_1 : Int) (vx8_1 : Int) (vx9_1 : Int) (vx10 : Bool) (vx11 : Int) (vx12 : Int) (vx23_1 : Int) {r} (hF : z1022 vx6_1 vx8_1 vx11 vx23_1 = some r) : Awp prog 0 172 (cL (cL (cR (cR (cR (cR (cR (cR (cR (cL (cL (cR (cR (cL (cL (cR (cL (cR (cR (cR (cR (cR (cR (cR (cR (cR (cR (cR (cB f365))))))))))))))))))))))))))))) (Out 0 nrm (z1024 qx qx1 vx5_1 vx6_1 vx8_1 vx9_1 vx10 vx11 vx12 vx23_1) r) (z1023 qx qx1 vx5_1 vx6_1 vx8_1 vx9_1 vx10 vx11 vx12 vx23_1) := by
  unfold z1022 at hF
  refine cE hF (fun h60 hF => ?_) fun h60 hF => ?_
  · refine awp_region (aR 2 (aB h60 (aR 5 (aE ?_))))
    exact oO hF [] [] rfl
  · refine awp_region (aR 2 (aB h60 (aR 5 (aE ?_))))
    exact oO hF [] [] rfl

def z1003 (qx : List UInt8) (qx1 : Int) (vx5_1 : List UInt8) (vx6_1 : Int) (vx8_1 : Int) (vx9_1 : Int) (vx10 : Bool) (vx11 : Int) (vx12 : Int) : (Bool × Int) → St
  | (vx25, vx26) => Mem.st ⟨[], []⟩ (tl [(1, .i vx6_1), (8, .b (decide (qx1 = 0))), (9, .c (.s qx)), (10, .c (.d (.int .u64 vx9_1))), (11, .c (.d (.int .u64 (IntKind.wrap .u64 ((ishl .u64 1 (IntKind.wrap .u64 (vx8_1))) - 1))))), (12, .b vx25), (13, .c (.d (.int .u64 vx26))), (99, .c (.l (encI .u8) (bytesD vx5_1))), (100, .i ((bytesD vx5_1).length : Int)), (101, .i vx12)]) 0

def z1002 (qx : List UInt8) (qx1 : Int) (vx5_1 : List UInt8) (vx6_1 : Int) (vx8_1 : Int) (vx9_1 : Int) (vx10 : Bool) (vx11 : Int) (vx12 : Int) : St := Mem.st ⟨[], []⟩ (tl [(1, .i vx6_1), (8, .b (decide (qx1 = 0))), (9, .c (.s qx)), (10, .c (.d (.int .u64 vx9_1))), (11, .c (.d (.int .u64 (IntKind.wrap .u64 ((ishl .u64 1 (IntKind.wrap .u64 (vx8_1))) - 1))))), (12, .b vx10), (13, .c (.d (.int .u64 vx11))), (99, .c (.l (encI .u8) (bytesD vx5_1))), (100, .i ((bytesD vx5_1).length : Int)), (101, .i vx12)]) 0

theorem z1004 (qx : List UInt8) (qx1 : Int) (vx5_1 : List UInt8) (vx6_1 : Int) (vx8_1 : Int) (vx9_1 : Int) (vx10 : Bool) (vx11 : Int) (vx12 : Int) {r} (hF : z1001 qx1 vx5_1 vx6_1 vx8_1 vx9_1 vx10 vx11 vx12 = some r) : Awp prog 0 172 (cL (cR (cR (cL (cL (cR (cL (cR (cR (cR (cR (cR (cR (cR (cR (cR (cR (cR (cB f365))))))))))))))))))) (Out 0 nrm (z1003 qx qx1 vx5_1 vx6_1 vx8_1 vx9_1 vx10 vx11 vx12) r) (z1002 qx qx1 vx5_1 vx6_1 vx8_1 vx9_1 vx10 vx11 vx12) := by
  unfold z1001 at hF
  refine awp_block (awp_seq (bE hF fun vy1 h42 hF => awp_region (aX (x_idx (encI .u8) h42) (aR 2 (aE ?_)))))
  refine sR 1 (awp_seq (awp_to (st' := z1006 qx qx1 vx5_1 vx6_1 vx8_1 vx9_1 vx10 vx11 vx12 vy1) (oT [] []) ?_))
  refine bE hF fun x h55 hF => ?_
  rcases x with vx23_1 | _
  · refine awp_sub (z1009 qx qx1 vx5_1 vx6_1 vx8_1 vx9_1 vx10 vx11 vx12 vy1 h55) ?_
    refine awp_seq (sR 4 (cE hF (fun h56 hF => ?_) fun h56 hF => ?_))
    · exact tT h56 (awp_seq (nE hF))
    · refine tF h56 (awp_skip (awp_seq (sR 3 (cE hF (fun h58 hF => ?_) fun h58 hF => ?_))))
      · exact tT h58 (awp_seq (nE hF))
      · refine tF h58 (awp_skip (sR 5 (sR 5 (awp_seq (awp_seq (awp_to (st' := z1023 qx qx1 vx5_1 vx6_1 vx8_1 vx9_1 vx10 vx11 vx12 vx23_1) (oT [] []) ?_))))))
        refine bE hF fun vx24_1 h61 hF => awp_sub (z1025 qx qx1 vx5_1 vx6_1 vx8_1 vx9_1 vx10 vx11 vx12 vx23_1 h61) ?_
        refine cE hF (fun h62 hF => ?_) fun h62 hF => ?_
        · exact tT h62 (awp_seq (nE hF))
        · exact tF h62 (awp_skip (gR 2 (oO hF [] [] rfl)))
  · refine awp_sub (z1009 qx qx1 vx5_1 vx6_1 vx8_1 vx9_1 vx10 vx11 vx12 vy1 h55) ?_
    exact oO hF [] [] rfl

def z1064 : (Bool × Int) → AEx
  | _ => .exit 3

def z1063 (qx : List UInt8) (qx1 : Int) (vx5_1 : List UInt8) (vx6_1 : Int) (vx8_1 : Int) (vx9_1 : Int) : (Bool × Int) → St
  | (vx27, vx28) => Mem.st ⟨[], []⟩ (tl [(9, .c (.s qx)), (12, .b vx27), (13, .c (.d (.int .u64 vx28)))]) 0

def z1062 (qx : List UInt8) (qx1 : Int) (vx5_1 : List UInt8) (vx6_1 : Int) (vx8_1 : Int) (vx9_1 : Int) : Bool × Int × Int → St
  | (vx10, vx11, vx12) => Mem.st ⟨[], []⟩ (tl [(1, .i vx6_1), (8, .b (decide (qx1 = 0))), (9, .c (.s qx)), (10, .c (.d (.int .u64 vx9_1))), (11, .c (.d (.int .u64 (IntKind.wrap .u64 ((ishl .u64 1 (IntKind.wrap .u64 (vx8_1))) - 1))))), (12, .b vx10), (13, .c (.d (.int .u64 vx11))), (99, .c (.l (encI .u8) (bytesD vx5_1))), (100, .i ((bytesD vx5_1).length : Int)), (101, .i vx12)]) 0

theorem z1065 (qx : List UInt8) (qx1 : Int) (vx5_1 : List UInt8) (vx6_1 : Int) (vx8_1 : Int) (vx9_1 : Int) (s : Bool × Int × Int) (r : (Bool × Int × Int) ⊕ ((Bool × Int))) (hF : z1061 qx1 vx5_1 vx6_1 vx8_1 vx9_1 s = some r) : Awp prog 0 172 (cL (cL (cR (cL (cR (cR (cR (cR (cR (cR (cR (cR (cR (cR (cR (cB f365)))))))))))))))) (Out 0 (kk z1064) (SS (z1062 qx qx1 vx5_1 vx6_1 vx8_1 vx9_1) (z1063 qx qx1 vx5_1 vx6_1 vx8_1 vx9_1)) r) (z1062 qx qx1 vx5_1 vx6_1 vx8_1 vx9_1 s) := by
  obtain ⟨vx10, vx11, vx12⟩ := s
  unfold z1061 at hF
  refine sR 1 (awp_seq (cE hF (fun h41 hF => ?_) fun h41 hF => ?_))
  · refine tT h41 (awp_skip (awp_seq (awp_to (st' := z1002 qx qx1 vx5_1 vx6_1 vx8_1 vx9_1 vx10 vx11 vx12) (oT [] []) ?_)))
    refine bE hF fun x h64 hF => ?_
    obtain ⟨vx25_1, vx26_1⟩ := x
    refine awp_sub (z1004 qx qx1 vx5_1 vx6_1 vx8_1 vx9_1 vx10 vx11 vx12 h64) ?_
    exact gR 2 (oO hF [] [] rfl)
  · refine tF h41 (awp_exit ?_)
    exact oO hF [] [] rfl

def z1028 (qx : List UInt8) (vx27_1 : Bool) (vx28_1 : Int) : Bool → St
  | vx29 => Mem.st ⟨[], []⟩ (tl [(13, .c (.d (.int .u64 vx28_1))), (169, .b vx29)]) 0

def z1027 (qx : List UInt8) (vx27_1 : Bool) (vx28_1 : Int) : St := Mem.st ⟨[], []⟩ (tl [(9, .c (.s qx)), (12, .b vx27_1), (13, .c (.d (.int .u64 vx28_1)))]) 0

theorem z1029 (qx : List UInt8) (vx27_1 : Bool) (vx28_1 : Int) {r} (hF : z1026 qx vx27_1 = some r) : Awp prog 0 172 (cL (cL (cR (cR (cR (cR (cR (cR (cR (cR (cR (cR (cR (cR (cB f365))))))))))))))) (Out 0 nrm (z1028 qx vx27_1 vx28_1) r) (z1027 qx vx27_1 vx28_1) := by
  unfold z1026 at hF
  refine cE hF (fun h66 hF => ?_) fun h66 hF => ?_
  · refine bE hF fun vr h67 hF => awp_region (aB h66 (aR 2 (aC (z1071 h67) [] [] [] (aR 2 (aE ?_)))))
    exact oO hF [] [] rfl
  · refine awp_region (aB h66 (aR 5 (aE ?_)))
    exact oO hF [] [] rfl

def z998 (qx : List UInt8) (qx1 : Int) (qx2 : Int) (r : Int) : TV × Mem := (.tup [.one (.d (.int .u64 r)), .one (.nili)], ⟨[], []⟩)

theorem z999 {qx : List UInt8} {qx1 : Int} {qx2 : Int} {r} (hF : z997 qx qx1 qx2 = some r) : Holds prog 365 [.c (.s qx), .i qx1, .i qx2] ⟨[], []⟩ (Is (z998 qx qx1 qx2 r)) := by
  unfold z997 at hF
  refine hW f365 172 0 0 ?_
  refine sR 2 (awp_seq (sR 2 (cE hF (fun h1 hF => ?_) fun h1 hF => ?_)))
  · exact tT h1 (awp_seq (nE hF))
  · refine tF h1 (awp_skip (sR 3 (sR 2 (awp_seq (awp_to (st' := z1030 qx qx1 qx2) (oT [] []) ?_)))))
    refine bE hF fun x h29 hF => ?_
    obtain ⟨vx5_1, vx6_1⟩ := x
    refine awp_sub (z1032 qx qx1 qx2 h29) ?_
    refine awp_seq (awp_to (st' := z1050 qx qx1 qx2 vx5_1 vx6_1) (oT [] []) ?_)
    refine bE hF fun vx8_1 h35 hF => awp_sub (z1052 qx qx1 qx2 vx5_1 vx6_1 h35) ?_
    refine sR 1 (awp_seq (awp_to (st' := z1058 qx qx1 vx5_1 vx6_1 vx8_1) (oT [] []) ?_))
    refine bE hF fun vx9_1 h39 hF => awp_sub (z1060 qx qx1 vx5_1 vx6_1 vx8_1 h39) ?_
    refine awp_seq (gE hF fun h40 hF => ?_)
    refine awp_region (aR 2 (aX (x_shl h40) (aR 2 (aE ?_))))
    refine sR 1 (sR 1 (awp_seq (awp_seq (awp_region (aR 1 (aBs (s := vx5_1) rfl ?_))))))
    refine aL (encI .u8) (bytesD vx5_1) (aR 1 (aE ?_))
    refine awp_block (awp_to (st' := z1062 qx qx1 vx5_1 vx6_1 vx8_1 vx9_1 (false, 0, 0)) (oT [] []) ?_)
    refine bE hF fun x h65 hF => ?_
    obtain ⟨vx27_1, vx28_1⟩ := x
    refine awp_sub (awp_loop' (z1062 qx qx1 vx5_1 vx6_1 vx8_1 vx9_1) z1064 (z1063 qx qx1 vx5_1 vx6_1 vx8_1 vx9_1) (by intro x; exact fun h => nomatch h) h65 (z1065 qx qx1 vx5_1 vx6_1 vx8_1 vx9_1)) ?_
    refine awp_seq (awp_seq (awp_to (st' := z1027 qx vx27_1 vx28_1) (oT [] []) ?_))
    refine bE hF fun vx29_1 h68 hF => awp_sub (z1029 qx vx27_1 vx28_1 h68) ?_
    refine cE hF (fun h69 hF => ?_) fun h69 hF => ?_
    · exact tT h69 (awp_seq (nE hF))
    · exact tF h69 (awp_skip (sR 3 (awp_ret (oF hF [] []))))

/-! ### internal/strconv.ParseInt -/
def z979 (qx : List UInt8) (qx1 : Int) (qx2 : Int) : ((List UInt8) × Bool) → St
  | (vx, vx1) => Mem.st ⟨[], []⟩ (tl [(0, .c (.s vx)), (1, .i qx1), (2, .i qx2), (8, .b vx1)]) 0

def z978 (qx : List UInt8) (qx1 : Int) (qx2 : Int) : St := Mem.st ⟨[], []⟩ (tl [(0, .c (.s qx)), (1, .i qx1), (2, .i qx2), (8, .b false)]) 0

theorem z980 (qx : List UInt8) (qx1 : Int) (qx2 : Int) {r} (hF : z977 qx = some r) : Awp prog 0 73 (cL (cR (cR (cR (cB f359))))) (Out 0 nrm (z979 qx qx1 qx2) r) (z978 qx qx1 qx2) := by
  unfold z977 at hF
  refine awp_seq (bE hF fun vc h3 hF => awp_region (aR 1 (aX (x_idxS h3) (aE ?_))))
  refine awp_block (sR 2 (cE hF (fun h4 hF => ?_) fun h4 hF => ?_))
  · refine tT h4 (bE hF fun vs h5 hF => awp_region (aR 1 (aX (x_sliceS h5) (aR 1 (aE ?_)))))
    exact oO hF [] [] rfl
  · refine tF h4 (sR 2 (cE hF (fun h6 hF => ?_) fun h6 hF => ?_))
    · refine tT h6 (awp_seq (bE hF fun vs1 h7 hF => awp_region (aR 1 (aX (x_sliceS h7) (aR 1 (aE ?_))))))
      exact gR 1 (oO hF [] [] rfl)
    · exact tF h6 (awp_skip (oO hF [] [] rfl))

def z983 (qx2 : Int) (vx1_1 : Bool) (vr1 : Int) : Int → St
  | vx3 => Mem.st ⟨[], []⟩ (tl [(2, .i vx3), (8, .b vx1_1), (9, .c (.d (.int .u64 vr1)))]) 0

def z982 (qx2 : Int) (vx1_1 : Bool) (vr1 : Int) : St := Mem.st ⟨[], []⟩ (tl [(2, .i qx2), (8, .b vx1_1), (9, .c (.d (.int .u64 vr1)))]) 0

theorem z984 (qx2 : Int) (vx1_1 : Bool) (vr1 : Int) {r} (hF : z981 qx2 = some r) : Awp prog 0 73 (cL (cR (cR (cR (cR (cR (cR (cR (cB f359))))))))) (Out 0 nrm (z983 qx2 vx1_1 vr1) r) (z982 qx2 vx1_1 vr1) := by
  unfold z981 at hF
  refine sR 2 (cE hF (fun h10 hF => ?_) fun h10 hF => ?_)
  · exact tT h10 (gR 1 (oO hF [] [] rfl))
  · exact tF h10 (awp_skip (oO hF [] [] rfl))

def z987 (vx1_1 : Bool) (vr1 : Int) (vx3_1 : Int) : Bool → St
  | vx4 => Mem.st ⟨[], []⟩ (tl [(8, .b vx1_1), (9, .c (.d (.int .u64 vr1))), (10, .c (.d (.int .u64 (ishl .u64 1 (IntKind.wrap .u64 (IntKind.wrap .i64 (vx3_1 - 1))))))), (52, .b vx4)]) 0

def z986 (vx1_1 : Bool) (vr1 : Int) (vx3_1 : Int) : St := Mem.st ⟨[], []⟩ (tl [(8, .b vx1_1), (9, .c (.d (.int .u64 vr1))), (10, .c (.d (.int .u64 (ishl .u64 1 (IntKind.wrap .u64 (IntKind.wrap .i64 (vx3_1 - 1)))))))]) 0

theorem z988 (vx1_1 : Bool) (vr1 : Int) (vx3_1 : Int) {r} (hF : z985 vx1_1 vr1 vx3_1 = some r) : Awp prog 0 73 (cL (cL (cR (cR (cR (cR (cR (cR (cR (cR (cR (cB f359)))))))))))) (Out 0 nrm (z987 vx1_1 vr1 vx3_1) r) (z986 vx1_1 vr1 vx3_1) := by
  unfold z985 at hF
  refine cE hF (fun h13 hF => ?_) fun h13 hF => ?_
  · refine awp_region (aR 1 (aB h13 (aR 5 (aE ?_))))
    exact oO hF [] [] rfl
  · refine awp_region (aR 1 (aB h13 (aR 5 (aE ?_))))
    exact oO hF [] [] rfl

def z991 (vx1_1 : Bool) (vr1 : Int) (vx3_1 : Int) : Bool → St
  | vx5 => Mem.st ⟨[], []⟩ (tl [(8, .b vx1_1), (9, .c (.d (.int .u64 vr1))), (10, .c (.d (.int .u64 (ishl .u64 1 (IntKind.wrap .u64 (IntKind.wrap .i64 (vx3_1 - 1))))))), (62, .b vx5)]) 0

def z990 (vx1_1 : Bool) (vr1 : Int) (vx3_1 : Int) : St := Mem.st ⟨[], []⟩ (tl [(8, .b vx1_1), (9, .c (.d (.int .u64 vr1))), (10, .c (.d (.int .u64 (ishl .u64 1 (IntKind.wrap .u64 (IntKind.wrap .i64 (vx3_1 - 1)))))))]) 0

theorem z992 (vx1_1 : Bool) (vr1 : Int) (vx3_1 : Int) {r} (hF : z989 vx1_1 vr1 vx3_1 = some r) : Awp prog 0 73 (cL (cL (cR (cR (cR (cR (cR (cR (cR (cR (cR (cR (cB f359))))))))))))) (Out 0 nrm (z991 vx1_1 vr1 vx3_1) r) (z990 vx1_1 vr1 vx3_1) := by
  unfold z989 at hF
  refine cE hF (fun h17 hF => ?_) fun h17 hF => ?_
  · refine awp_region (aB h17 (aR 5 (aE ?_)))
    exact oO hF [] [] rfl
  · refine awp_region (aB h17 (aR 5 (aE ?_)))
    exact oO hF [] [] rfl

def z995 (vx1_1 : Bool) (vr1 : Int) : Int → St
  | vx6 => Mem.st ⟨[], []⟩ (tl [(11, .i vx6)]) 0

def z994 (vx1_1 : Bool) (vr1 : Int) : St := Mem.st ⟨[], []⟩ (tl [(8, .b vx1_1), (11, .i (IntKind.wrap .i64 (vr1)))]) 0

theorem z996 (vx1_1 : Bool) (vr1 : Int) {r} (hF : z993 vx1_1 vr1 = some r) : Awp prog 0 73 (cL (cR (cR (cR (cR (cR (cR (cR (cR (cR (cR (cR (cR (cB f359)))))))))))))) (Out 0 nrm (z995 vx1_1 vr1) r) (z994 vx1_1 vr1) := by
  unfold z993 at hF
  refine sR 1 (cE hF (fun h21 hF => ?_) fun h21 hF => ?_)
  · exact tT h21 (gR 3 (oO hF [] [] rfl))
  · exact tF h21 (awp_skip (oO hF [] [] rfl))

def z975 (qx : List UInt8) (qx1 : Int) (qx2 : Int) (r : Int) : TV × Mem := (.tup [.one (.i r), .one (.nili)], ⟨[], []⟩)

theorem z976 {qx : List UInt8} {qx1 : Int} {qx2 : Int} {r} (hF : z974 qx qx1 qx2 = some r) : Holds prog 359 [.c (.s qx), .i qx1, .i qx2] ⟨[], []⟩ (Is (z975 qx qx1 qx2 r)) := by
  unfold z974 at hF
  refine hW f359 73 0 0 ?_
  refine sR 2 (awp_seq (sR 2 (cE hF (fun h1 hF => ?_) fun h1 hF => ?_)))
  · exact tT h1 (awp_seq (nE hF))
  · refine tF h1 (awp_skip (sR 1 (awp_seq (awp_to (st' := z978 qx qx1 qx2) (oT [] []) ?_))))
    refine bE hF fun x h8 hF => ?_
    obtain ⟨vx2, vx1_1⟩ := x
    refine awp_sub (z980 qx qx1 qx2 h8) ?_
    refine sR 1 (awp_seq (bE hF fun vr1 h9 hF => awp_region (aR 3 (aC (z999 h9) [] [] [] (aR 5 (aE ?_))))))
    refine awp_seq (awp_seq (awp_region (aR 1 (aS (does_nilI (op := .neq) (c := false) rfl (.inr ⟨rfl, rfl⟩) (by kernel_rfl) (by kernel_rfl)) ?_))))
    refine aR 5 (aE ?_)
    refine tF rfl (awp_skip (awp_seq (awp_to (st' := z982 qx2 vx1_1 vr1) (oT [] []) ?_)))
    refine bE hF fun vx3_1 h11 hF => awp_sub (z984 qx2 vx1_1 vr1 h11) ?_
    refine awp_seq (gE hF fun h12 hF => ?_)
    refine awp_region (aR 3 (aX (x_shl h12) (aR 1 (aE ?_))))
    refine awp_seq (awp_seq (awp_to (st' := z986 vx1_1 vr1 vx3_1) (oT [] []) ?_))
    refine bE hF fun vx4_1 h14 hF => awp_sub (z988 vx1_1 vr1 vx3_1 h14) ?_
    refine cE hF (fun h15 hF => ?_) fun h15 hF => ?_
    · exact tT h15 (awp_seq (nE hF))
    · refine tF h15 (awp_skip (awp_seq (awp_seq (awp_to (st' := z990 vx1_1 vr1 vx3_1) (oT [] []) ?_))))
      refine bE hF fun vx5_1 h18 hF => awp_sub (z992 vx1_1 vr1 vx3_1 h18) ?_
      refine cE hF (fun h19 hF => ?_) fun h19 hF => ?_
      · exact tT h19 (awp_seq (nE hF))
      · refine tF h19 (awp_skip (sR 3 (awp_seq (awp_to (st' := z994 vx1_1 vr1) (oT [] []) ?_))))
        refine bE hF fun vx6_1 h22 hF => awp_sub (z996 vx1_1 vr1 h22) ?_
        exact sR 3 (awp_ret (oF hF [] []))

/-! ### internal/strconv.Atoi -/
def z953 (qx : List UInt8) : Bool → St
  | vx => Mem.st ⟨[], []⟩ (tl [(0, .c (.s qx)), (30, .b vx)]) 0

def z952 (qx : List UInt8) : St := Mem.st ⟨[], []⟩ (tl [(0, .c (.s qx)), (4, .i (qx.length : Int))]) 0

theorem z954 (qx : List UInt8) {r} (hF : z951 qx = some r) : Awp prog 0 77 (cL (cL (cR (cR (cB f349))))) (Out 0 nrm (z953 qx) r) (z952 qx) := by
  unfold z951 at hF
  refine cE hF (fun h1 hF => ?_) fun h1 hF => ?_
  · refine awp_region (aR 11 (aB h1 (aR 6 (aE ?_))))
    exact oO hF [] [] rfl
  · refine awp_region (aR 11 (aB h1 (aR 6 (aE ?_))))
    exact oO hF [] [] rfl

def z961 (qx : List UInt8) : Bool → St
  | vx2 => Mem.st ⟨[], []⟩ (tl [(0, .c (.s qx)), (5, .c (.s qx)), (39, .b vx2)]) 0

def z960 (qx : List UInt8) : St := Mem.st ⟨[], []⟩ (tl [(0, .c (.s qx)), (5, .c (.s qx))]) 0

theorem z962 (qx : List UInt8) {r} (hF : z959 qx = some r) : Awp prog 0 77 (cL (cL (cR (cL (cR (cL (cR (cR (cB f349))))))))) (Out 0 nrm (z961 qx) r) (z960 qx) := by
  unfold z959 at hF
  refine bE hF fun vc h4 hF => cE hF (fun h5 hF => ?_) fun h5 hF => ?_
  · refine awp_region (aR 1 (aX (x_idxS h4) (aB h5 (aR 5 (aE ?_)))))
    exact oO hF [] [] rfl
  · refine awp_region (aR 1 (aX (x_idxS h4) (aB h5 (aR 2 (aX (x_idxS h4) (aR 2 (aE ?_)))))))
    exact oO hF [] [] rfl

def z957 (qx : List UInt8) : (List UInt8) → St
  | vx3 => Mem.st ⟨[], []⟩ (tl [(0, .c (.s vx3)), (5, .c (.s qx))]) 0

def z956 (qx : List UInt8) : St := Mem.st ⟨[], []⟩ (tl [(0, .c (.s qx)), (5, .c (.s qx))]) 0

theorem z958 (qx : List UInt8) {r} (hF : z955 qx = some r) : Awp prog 0 77 (cL (cR (cL (cR (cL (cR (cR (cB f349)))))))) (Out 0 nrm (z957 qx) r) (z956 qx) := by
  unfold z955 at hF
  refine awp_seq (awp_to (st' := z960 qx) (oT [] []) ?_)
  refine bE hF fun vx2_1 h6 hF => awp_sub (z962 qx h6) ?_
  refine cE hF (fun h7 hF => ?_) fun h7 hF => ?_
  · refine tT h7 (awp_seq (bE hF fun vs h8 hF => awp_region (aR 1 (aX (x_sliceS h8) (aR 1 (aE ?_))))))
    refine sR 3 (cE hF (fun h9 hF => ?_) fun h9 hF => ?_)
    · exact tT h9 (awp_seq (nE hF))
    · exact tF h9 (awp_skip (oO hF [] [] rfl))
  · exact tF h7 (awp_skip (oO hF [] [] rfl))

def z966 : Int → AEx
  | _ => .exit 0

def z965 (qx : List UInt8) (vx3_1 : List UInt8) : Int → St
  | vx6 => Mem.st ⟨[], []⟩ (tl [(5, .c (.s qx)), (6, .i vx6)]) 0

def z964 (qx : List UInt8) (vx3_1 : List UInt8) : Int × Int → St
  | (vx4, vx5) => Mem.st ⟨[], []⟩ (tl [(5, .c (.s qx)), (6, .i vx4), (47, .c (.l (encI .u8) (bytesD vx3_1))), (48, .i ((bytesD vx3_1).length : Int)), (49, .i vx5)]) 0

theorem z967 (qx : List UInt8) (vx3_1 : List UInt8) (s : Int × Int) (r : (Int × Int) ⊕ (Int)) (hF : z963 vx3_1 s = some r) : Awp prog 0 77 (cL (cL (cR (cL (cR (cR (cR (cL (cR (cL (cR (cR (cB f349))))))))))))) (Out 0 (kk z966) (SS (z964 qx vx3_1) (z965 qx vx3_1)) r) (z964 qx vx3_1 s) := by
  obtain ⟨vx4, vx5⟩ := s
  unfold z963 at hF
  refine sR 1 (awp_seq (cE hF (fun h12 hF => ?_) fun h12 hF => ?_))
  · refine tT h12 (awp_skip (awp_seq (awp_block (awp_seq (bE hF fun vy1 h13 hF => awp_region (aX (x_idx (encI .u8) h13) (aR 2 (aE ?_))))))))
    refine sR 3 (awp_seq (sR 2 (cE hF (fun h14 hF => ?_) fun h14 hF => ?_)))
    · exact tT h14 (awp_seq (nE hF))
    · exact tF h14 (awp_skip (gR 6 (gR 2 (oO hF [] [] rfl))))
  · refine tF h12 (awp_exit ?_)
    exact oO hF [] [] rfl

def z970 (qx : List UInt8) (vx6_1 : Int) : Int → St
  | vx7 => Mem.st ⟨[], []⟩ (tl [(6, .i vx7)]) 0

def z969 (qx : List UInt8) (vx6_1 : Int) : St := Mem.st ⟨[], []⟩ (tl [(5, .c (.s qx)), (6, .i vx6_1)]) 0

theorem z971 (qx : List UInt8) (vx6_1 : Int) {r} (hF : z968 qx vx6_1 = some r) : Awp prog 0 77 (cL (cR (cR (cR (cR (cL (cR (cL (cR (cR (cB f349))))))))))) (Out 0 nrm (z970 qx vx6_1) r) (z969 qx vx6_1) := by
  unfold z968 at hF
  refine awp_seq (bE hF fun vc1 h17 hF => awp_region (aR 1 (aX (x_idxS h17) (aR 1 (aE ?_)))))
  refine cE hF (fun h18 hF => ?_) fun h18 hF => ?_
  · exact tT h18 (gR 3 (oO hF [] [] rfl))
  · exact tF h18 (awp_skip (oO hF [] [] rfl))

def z949 (qx : List UInt8) (r : Int) : TV × Mem := (.tup [.one (.i r), .one (.nili)], ⟨[], []⟩)

theorem z950 {qx : List UInt8} {r} (hF : z948 qx = some r) : Holds prog 349 [.c (.s qx)] ⟨[], []⟩ (Is (z949 qx r)) := by
  unfold z948 at hF
  refine hW f349 77 0 0 ?_
  refine sR 2 (sR 3 (awp_seq (awp_seq (awp_to (st' := z952 qx) (oT [] []) ?_))))
  refine bE hF fun vx1 h2 hF => awp_sub (z954 qx h2) ?_
  refine cE hF (fun h3 hF => ?_) fun h3 hF => ?_
  · refine tT h3 (sR 2 (awp_seq (awp_to (st' := z956 qx) (oT [] []) ?_)))
    refine bE hF fun vx3_1 h11 hF => awp_sub (z958 qx h11) ?_
    refine sR 1 (awp_seq (awp_seq (awp_region (aR 1 (aBs (s := vx3_1) rfl ?_)))))
    refine aL (encI .u8) (bytesD vx3_1) (aR 1 (aE ?_))
    refine awp_block (awp_to (st' := z964 qx vx3_1 (0, 0)) (oT [] []) ?_)
    refine bE hF fun vx6_1 h16 hF => awp_sub (awp_loop' (z964 qx vx3_1) z966 (z965 qx vx3_1) (by intro x; exact fun h => nomatch h) h16 (z967 qx vx3_1)) ?_
    refine awp_seq (awp_to (st' := z969 qx vx6_1) (oT [] []) ?_)
    refine bE hF fun vx7_1 h19 hF => awp_sub (z971 qx vx6_1 h19) ?_
    exact sR 3 (awp_ret (oF hF [] []))
  · refine tF h3 (awp_skip (awp_seq (bE hF fun vr h20 hF => awp_region (aR 1 (aC (z976 h20) [] [] [] (aR 5 (aE ?_)))))))
    exact sR 4 (awp_ret (oF hF [] []))

/-! ### strconv.Atoi -/
def z972 (qs : List UInt8) (r : Int) : TV × Mem := (.tup [.one (.i r), .one (.nili)], ⟨[], []⟩)

theorem z973 {qs : List UInt8} {r} (hF : z947 qs = some r) : Holds prog 328 [.c (.s qs)] ⟨[], []⟩ (Is (z972 qs r)) := by
  unfold z947 at hF
  refine hW f328 18 0 0 ?_
  refine sR 2 (awp_seq (bE hF fun vr1 h1 hF => awp_region (aR 1 (aC (z950 h1) [] [] [] (aR 5 (aE ?_))))))
  refine awp_seq (awp_seq (awp_region (aR 1 (aS (does_nilI (op := .neq) (c := false) rfl (.inr ⟨rfl, rfl⟩) (by kernel_rfl) (by kernel_rfl)) ?_))))
  refine aE ?_
  exact tF rfl (awp_skip (sR 3 (awp_ret (oF hF [] []))))

/-! ### beaconfleet/base.Number -/
def z50 (qs : List UInt8) (qdigits : Int) (vr : List UInt8) : Bool → St
  | vx => Mem.st ⟨[], []⟩ (tl [(0, .c (.s qs)), (6, .c (.s vr)), (36, .b vx)]) 0

def z49 (qs : List UInt8) (qdigits : Int) (vr : List UInt8) : St := Mem.st ⟨[], []⟩ (tl [(0, .c (.s qs)), (1, .i qdigits), (6, .c (.s vr))]) 0

theorem z52 (qs : List UInt8) (qdigits : Int) (vr : List UInt8) {r} (hF : z48 qs qdigits vr = some r) : Awp prog 0 61 (cL (cL (cR (cR (cB f284))))) (Out 0 nrm (z50 qs qdigits vr) r) (z49 qs qdigits vr) := by
  unfold z48 at hF
  refine cE hF (fun h2 hF => ?_) fun h2 hF => ?_
  · refine awp_region (aR 1 (aB h2 (aR 23 (aE ?_))))
    exact oO hF [] [] rfl
  · refine cE hF (fun h3 hF => ?_) fun h3 hF => ?_
    · refine awp_region (aR 1 (aB h2 (aR 4 (aB h3 (aR 18 (aE ?_))))))
      exact oO hF [] [] rfl
    · refine bE hF fun vc h4 hF => cE hF (fun h5 hF => ?_) fun h5 hF => ?_
      · refine cE hF (fun h6 hF => ?_) fun h6 hF => ?_
        · refine awp_region (aR 1 (aB h2 (aR 4 (aB h3 (aR 3 (aX (x_idxS h4) (aB h5 (aR 3 (aB h6 (aR 9 (aE ?_)))))))))))
          exact oO hF [] [] rfl
        · refine awp_region (aR 1 (aB h2 (aR 4 (aB h3 (aR 3 (aX (x_idxS h4) (aB h5 (aR 3 (aB h6 (aR 9 (aE ?_)))))))))))
          exact oO hF [] [] rfl
      · refine awp_region (aR 1 (aB h2 (aR 4 (aB h3 (aR 3 (aX (x_idxS h4) (aB h5 (aR 13 (aE ?_)))))))))
        exact oO hF [] [] rfl

def z61 (qs : List UInt8) (vr : List UInt8) (vx2 : Int) : Bool → St
  | vx4 => Mem.st ⟨[], []⟩ (tl [(0, .c (.s qs)), (6, .c (.s vr)), (38, .i (vr.length : Int)), (39, .i vx2), (51, .b vx4)]) 0

def z60 (qs : List UInt8) (vr : List UInt8) (vx2 : Int) : St := Mem.st ⟨[], []⟩ (tl [(0, .c (.s qs)), (6, .c (.s vr)), (7, .i vx2), (38, .i (vr.length : Int)), (39, .i vx2)]) 0

theorem z62 (qs : List UInt8) (vr : List UInt8) (vx2 : Int) {r} (hF : z59 vr vx2 = some r) : Awp prog 0 61 (cL (cR (cL (cL (cR (cR (cL (cL (cR (cL (cR (cR (cR (cB f284)))))))))))))) (Out 0 nrm (z61 qs vr vx2) r) (z60 qs vr vx2) := by
  unfold z59 at hF
  refine bE hF fun vc2 h10 hF => cE hF (fun h11 hF => ?_) fun h11 hF => ?_
  · refine awp_region (aR 2 (aX (x_idxS h10) (aB h11 (aR 6 (aE ?_)))))
    exact oO hF [] [] rfl
  · refine awp_region (aR 2 (aX (x_idxS h10) (aB h11 (aR 3 (aX (x_idxS h10) (aR 2 (aE ?_)))))))
    exact oO hF [] [] rfl

def z57 : Unit ⊕ Unit → AEx
  | .inl _ => .exit 0
  | .inr _ => .ret

def z56 (qs : List UInt8) (vr : List UInt8) : Unit ⊕ Unit → St
  | .inl _ => Mem.st ⟨[], []⟩ (tl [(0, .c (.s qs))]) 0
  | .inr _ => Mem.st ⟨[], []⟩ (tl [(4, .i 0), (5, .b false)]) 0

def z55 (qs : List UInt8) (vr : List UInt8) : Int → St
  | vx2 => Mem.st ⟨[], []⟩ (tl [(0, .c (.s qs)), (6, .c (.s vr)), (38, .i (vr.length : Int)), (39, .i vx2)]) 0

theorem z58 (qs : List UInt8) (vr : List UInt8) (vx2 : Int) (r : (Int) ⊕ (Unit ⊕ Unit)) (hF : z54 vr vx2 = some r) : Awp prog 0 61 (cL (cL (cR (cL (cR (cR (cR (cB f284)))))))) (Out 0 (kk z57) (SS (z55 qs vr) (z56 qs vr)) r) (z55 qs vr vx2) := by
  unfold z54 at hF
  refine sR 1 (awp_seq (cE hF (fun h9 hF => ?_) fun h9 hF => ?_))
  · refine tT h9 (awp_skip (awp_seq (awp_block (sR 2 (awp_seq (awp_to (st' := z60 qs vr vx2) (oT [] []) ?_))))))
    refine bE hF fun vx4_1 h12 hF => awp_sub (z62 qs vr vx2 h12) ?_
    refine cE hF (fun h13 hF => ?_) fun h13 hF => ?_
    · exact tT h13 (sR 2 (awp_ret (oO hF [] [] rfl)))
    · exact tF h13 (awp_skip (gR 2 (oO hF [] [] rfl)))
  · refine tF h9 (awp_exit ?_)
    exact oO hF [] [] rfl

def z45 (qs : List UInt8) (qdigits : Int) (r : Int × Bool) : TV × Mem := (.tup [.one (.i r.1), .one (.t r.2)], ⟨[], []⟩)

theorem z47 {qs : List UInt8} {qdigits : Int} {r} (hF : z44 qs qdigits = some r) : Holds prog 284 [.c (.s qs), .i qdigits] ⟨[], []⟩ (Is (z45 qs qdigits r)) := by
  unfold z44 at hF
  refine hW f284 61 0 0 ?_
  refine sR 2 (awp_seq (bE hF fun vr h1 hF => awp_region (aR 1 (aC (z1129 h1) [] [] [] (aR 1 (aE ?_))))))
  refine awp_seq (awp_seq (awp_to (st' := z49 qs qdigits vr) (oT [] []) ?_))
  refine bE hF fun vx1 h7 hF => awp_sub (z52 qs qdigits vr h7) ?_
  refine cE hF (fun h8 hF => ?_) fun h8 hF => ?_
  · exact tT h8 (sR 2 (awp_ret (oF hF [] [])))
  · refine tF h8 (awp_skip (awp_seq (sR 3 (awp_block (awp_to (st' := z55 qs vr 0) (oT [] []) ?_)))))
    refine bE hF fun x h14 hF => ?_
    rcases x with _ | _
    · refine awp_sub (awp_loop' (z55 qs vr) z57 (z56 qs vr) (by intro x; rcases x with x | x <;> exact fun h => nomatch h) h14 (z58 qs vr)) ?_
      refine awp_seq (bE hF fun vr1 h15 hF => awp_region (aR 1 (aC (z973 h15) [] [] [] (aR 5 (aE ?_)))))
      refine awp_seq (aD ?_)
      refine dR 2 ?_
      refine dS (U := []) (stable_nilI (op := .eql) (c := true) rfl (.inl ⟨rfl, rfl⟩) (by kernel_rfl) (by kernel_rfl)) ?_
      refine dR 2 ?_
      refine dE ?_
      exact awp_ret (oF hF [] [])
    · refine awp_sub (awp_loop' (z55 qs vr) z57 (z56 qs vr) (by intro x; rcases x with x | x <;> exact fun h => nomatch h) h14 (z58 qs vr)) ?_
      exact oF hF [] []

/-! ### beaconfleet/base.Numbers -/
def z69 : (List Int) ⊕ Unit → AEx
  | .inl _ => .exit 0
  | .inr _ => .ret

def z68 (qwords : List (List UInt8)) (qdigits : Int) : (List Int) ⊕ Unit → St
  | .inl vout1 => Mem.st ⟨[(1, ⟨3, 1, List.map (encI .i64) vout1⟩)], []⟩ (tl [(6, .c (.own 1 none))]) 2
  | .inr _ => Mem.st ⟨[], []⟩ (tl [(4, .c (.nil)), (5, .b false)]) 1

def z67 (qwords : List (List UInt8)) (qdigits : Int) : (List Int) × Int → St
  | (vout, vx) => Mem.st ⟨[(1, ⟨3, 1, List.map (encI .i64) vout⟩)], []⟩ (tl [(1, .i qdigits), (6, .c (.own 1 none)), (11, .c (.l encS qwords)), (12, .i (qwords.length : Int)), (13, .i vx)]) 2

theorem z71 (qwords : List (List UInt8)) (qdigits : Int) (s : (List Int) × Int) (r : ((List Int) × Int) ⊕ ((List Int) ⊕ Unit)) (hF : z66 qwords qdigits s = some r) : Awp prog 1 31 (cL (cL (cR (cL (cR (cR (cB f235))))))) (Out 1 (kk z69) (SS (z67 qwords qdigits) (z68 qwords qdigits)) r) (z67 qwords qdigits s) := by
  obtain ⟨vout, vx⟩ := s
  unfold z66 at hF
  refine sR 1 (awp_seq (cE hF (fun h1 hF => ?_) fun h1 hF => ?_))
  · refine tT h1 (awp_skip (awp_seq (awp_block (awp_seq (bE hF fun vy1 h2 hF => awp_region (aX (x_idx encS h2) (aR 2 (aE ?_))))))))
    refine awp_seq (bE hF fun x h3 hF => ?_)
    obtain ⟨vr2_1, vr3_1⟩ := x
    refine awp_region (aR 2 (aC (z47 h3) [] [] [] (aR 5 (aE ?_))))
    refine awp_seq (sR 2 (cE hF (fun h4 hF => ?_) fun h4 hF => ?_))
    · exact tT h4 (sR 2 (awp_ret (oO hF [] [] rfl)))
    · refine tF h4 (awp_skip (gE hF fun h5 hF => ?_))
      refine awp_region (aR 3 (aX (x_app (encI .i64) 1 h5) (aR 1 (aE ?_))))
      exact gR 2 (oO hF [(1, 17002)] [] rfl)
  · refine tF h1 (awp_exit ?_)
    exact oO hF [] [] rfl

def z64 (qwords : List (List UInt8)) (qdigits : Int) (r : (List Int) × Bool) : TV × Mem := (.tup [.one (.own 1 none), .one (.t r.2)], ⟨[(1, ⟨3, 1, List.map (encI .i64) r.1⟩)], []⟩)

theorem z65 {qwords : List (List UInt8)} {qdigits : Int} {r} (hF : z63 qwords qdigits = some r) : Holds prog 235 [.c (.own 0 none), .i qdigits] ⟨[(0, ⟨9, 1, List.map encS qwords⟩)], []⟩ (Is (z64 qwords qdigits r)) := by
  unfold z63 at hF
  refine hW f235 31 1 1 ?_
  refine sR 2 (awp_to (oT (m := ⟨[], []⟩) (ts := [(0, .c (.l encS qwords)), (1, .i qdigits)]) (nx := 1) [] []) ?_)
  refine sR 1 (awp_seq (awp_seq (awp_region (aR 1 (aL encS qwords (aR 1 (aE ?_)))))))
  refine awp_block (awp_to (st' := z67 qwords qdigits ([], 0)) (oT [] [1]) ?_)
  refine bE hF fun x h6 hF => ?_
  rcases x with vout1_1 | _
  · refine awp_sub (awp_loop' (z67 qwords qdigits) z69 (z68 qwords qdigits) (by intro x; rcases x with x | x <;> exact fun h => nomatch h) h6 (z71 qwords qdigits)) ?_
    exact sR 3 (awp_ret (oF hF [] []))
  · refine awp_sub (awp_loop' (z67 qwords qdigits) z69 (z68 qwords qdigits) (by intro x; rcases x with x | x <;> exact fun h => nomatch h) h6 (z71 qwords qdigits)) ?_
    exact oF hF [] [1]

/-! ### beaconfleet/base.Version -/
def z98 (qv : api_Version) : Bool → St
  | vx => Mem.st ⟨[], []⟩ (tl [(2, .b vx)]) 0

def z97 (qv : api_Version) : St := Mem.st ⟨[], [(0, [.i qv.Major, .i qv.Minor, .i qv.Patch])]⟩ (tl [(1, .c (.box 0 0))]) 1

theorem z99 (qv : api_Version) {r} (hF : z96 qv = some r) : Awp prog 0 19 (cL (cR (cB f236))) (Out 0 nrm (z98 qv) r) (z97 qv) := by
  unfold z96 at hF
  refine bE hF fun vr h1 hF => cE hF (fun h2 hF => ?_) fun h2 hF => ?_
  · refine bE hF fun vr1 h3 hF => cE hF (fun h4 hF => ?_) fun h4 hF => ?_
    · refine bE hF fun vr2 h5 hF => awp_region (aR 2 (aC (z74 h1) [] [] [] (aB h2 (aR 3 (aC (z74 h3) [] [] [] (aB h4 (aR 4 (aC (z74 h5) [] [] [] (aR 3 (aE ?_))))))))))
      exact oO hF [] [] rfl
    · refine awp_region (aR 2 (aC (z74 h1) [] [] [] (aB h2 (aR 3 (aC (z74 h3) [] [] [] (aB h4 (aR 8 (aE ?_))))))))
      exact oO hF [] [] rfl
  · refine awp_region (aR 2 (aC (z74 h1) [] [] [] (aB h2 (aR 13 (aE ?_)))))
    exact oO hF [] [] rfl

def z94 (qv : api_Version) (r : Bool) : TV × Mem := (.b r, ⟨[], []⟩)

theorem z95 {qv : api_Version} {r} (hF : z93 qv = some r) : Holds prog 236 [.v (.agg [.i qv.Major, .i qv.Minor, .i qv.Patch])] ⟨[], []⟩ (Is (z94 qv r)) := by
  unfold z93 at hF
  refine hW f236 19 0 0 ?_
  refine sR 2 (awp_seq (awp_to (st' := z97 qv) (oT [] []) ?_))
  refine bE hF fun vx1 h6 hF => awp_sub (z99 qv h6) ?_
  exact awp_ret (oF hF [] [])

/-! ### beaconfleet/campaign.ParseVersion -/
def z128 (vr : List Int) (vr1_1 : Bool) : Bool → St
  | vx => Mem.st ⟨[], [(0, [.i 0, .i 0, .i 0])]⟩ (tl [(2, .c (.box 0 0)), (4, .c (.l (encI .i64) vr)), (19, .b vx)]) 1

def z126 (vr : List Int) (vr1_1 : Bool) : St := Mem.st ⟨[], [(0, [.i 0, .i 0, .i 0])]⟩ (tl [(2, .c (.box 0 0)), (4, .c (.l (encI .i64) vr)), (5, .b vr1_1)]) 1

theorem z129 (vr : List Int) (vr1_1 : Bool) {r} (hF : z125 vr vr1_1 = some r) : Awp prog 0 36 (cL (cL (cR (cR (cB f155))))) (Out 0 nrm (z128 vr vr1_1) r) (z126 vr vr1_1) := by
  unfold z125 at hF
  refine cE hF (fun h3 hF => ?_) fun h3 hF => ?_
  · refine awp_region (aR 1 (aB h3 (aR 5 (aE ?_))))
    exact oO hF [] [] rfl
  · refine awp_region (aR 1 (aB h3 (aR 2 (aL (encI .i64) vr (aR 2 (aE ?_))))))
    exact oO hF [] [] rfl

def z123 (qs : List UInt8) (r : api_Version × Int) : TV × Mem := (.tup [.agg [.i r.1.Major, .i r.1.Minor, .i r.1.Patch], .one (.i r.2)], ⟨[], []⟩)

theorem z124 {qs : List UInt8} {r} (hF : z122 qs = some r) : Holds prog 155 [.c (.s qs)] ⟨[], []⟩ (Is (z123 qs r)) := by
  unfold z122 at hF
  refine hW f155 36 0 0 ?_
  refine sR 2 (awp_seq (bE hF fun vr1 h1 hF => bE hF fun x h2 hF => ?_))
  obtain ⟨vr, vr1_1⟩ := x
  refine awp_region (aR 1 (aC (z1126 h1) [] [] [] (aC (z65 h2) [(0, 3000)] [] [] (aR 5 (aE ?_)))))
  refine awp_to (oT (m := ⟨[], [(0, [.i 0, .i 0, .i 0])]⟩) (ts := [(2, .c (.box 0 0)), (4, .c (.l (encI .i64) vr)), (5, .b vr1_1)]) (nx := 1) [] []) ?_
  refine awp_seq (awp_seq (awp_to (st' := z126 vr vr1_1) (oT [] []) ?_))
  refine bE hF fun vx1 h4 hF => awp_sub (z129 vr vr1_1 h4) ?_
  refine cE hF (fun h5 hF => ?_) fun h5 hF => ?_
  · exact tT h5 (sR 3 (awp_ret (oF hF [] [])))
  · refine tF h5 (awp_skip (awp_seq (bE hF fun vy h6 hF => bE hF fun vy1 h7 hF => bE hF fun vy2 h8 hF => aD ?_)))
    refine dR 1 ?_
    refine dX (x_idx (encI .i64) h6) ?_
    refine dR 2 ?_
    refine dX (x_idx (encI .i64) h7) ?_
    refine dR 2 ?_
    refine dX (x_idx (encI .i64) h8) ?_
    refine dR 4 ?_
    refine dE ?_
    refine awp_seq (awp_seq (bE hF fun vr3 h9 hF => awp_region (aR 1 (aC (z95 h9) [] [] [] (aR 1 (aE ?_))))))
    refine cE hF (fun h10 hF => ?_) fun h10 hF => ?_
    · exact tT h10 (sR 3 (awp_ret (oF hF [] [])))
    · exact tF h10 (awp_skip (sR 3 (awp_ret (oF hF [] []))))

/-! ### beaconfleet/place.isSpot -/
def z577 (qs : api_Spot) : Bool → St
  | vx => Mem.st ⟨[], []⟩ (tl [(2, .b vx)]) 0

def z576 (qs : api_Spot) : St := Mem.st ⟨[], [(0, [.i qs.X, .i qs.Y])]⟩ (tl [(1, .c (.box 0 0))]) 1

theorem z578 (qs : api_Spot) {r} (hF : z575 qs = some r) : Awp prog 0 13 (cL (cR (cB f237))) (Out 0 nrm (z577 qs) r) (z576 qs) := by
  unfold z575 at hF
  refine bE hF fun vr h1 hF => cE hF (fun h2 hF => ?_) fun h2 hF => ?_
  · refine bE hF fun vr1 h3 hF => awp_region (aR 2 (aC (z74 h1) [] [] [] (aB h2 (aR 3 (aC (z74 h3) [] [] [] (aR 3 (aE ?_)))))))
    exact oO hF [] [] rfl
  · refine awp_region (aR 2 (aC (z74 h1) [] [] [] (aB h2 (aR 7 (aE ?_)))))
    exact oO hF [] [] rfl

def z573 (qs : api_Spot) (r : Bool) : TV × Mem := (.b r, ⟨[], []⟩)

theorem z574 {qs : api_Spot} {r} (hF : z572 qs = some r) : Holds prog 237 [.v (.agg [.i qs.X, .i qs.Y])] ⟨[], []⟩ (Is (z573 qs r)) := by
  unfold z572 at hF
  refine hW f237 13 0 0 ?_
  refine sR 2 (awp_seq (awp_to (st' := z576 qs) (oT [] []) ?_))
  refine bE hF fun vx1 h4 hF => awp_sub (z578 qs h4) ?_
  exact awp_ret (oF hF [] [])

/-! ### beaconfleet/place.Cell -/
def z565 (qs : api_Spot) (qlevel : Int) : Bool → St
  | vx => Mem.st ⟨[], [(0, [.i qs.X, .i qs.Y])]⟩ (tl [(1, .i qlevel), (2, .c (.box 0 0)), (16, .b vx)]) 1

def z564 (qs : api_Spot) (qlevel : Int) : St := Mem.st ⟨[], [(0, [.i qs.X, .i qs.Y])]⟩ (tl [(1, .i qlevel), (2, .c (.box 0 0))]) 1

theorem z566 (qs : api_Spot) (qlevel : Int) {r} (hF : z563 qs qlevel = some r) : Awp prog 0 47 (cL (cL (cR (cB f156)))) (Out 0 nrm (z565 qs qlevel) r) (z564 qs qlevel) := by
  unfold z563 at hF
  refine bE hF fun vr2 h1 hF => cE hF (fun h2 hF => ?_) fun h2 hF => ?_
  · refine awp_region (aR 1 (aC (z574 h1) [] [] [] (aB h2 (aR 4 (aE ?_)))))
    exact oO hF [] [] rfl
  · refine bE hF fun vr h3 hF => awp_region (aR 1 (aC (z574 h1) [] [] [] (aB h2 (aR 2 (aC (z74 h3) [] [] [] (aR 1 (aE ?_)))))))
    exact oO hF [] [] rfl

def z570 : (List Int) → AEx
  | _ => .exit 0

def z569 (qs : api_Spot) (qlevel : Int) : (List Int) → St
  | vout1 => Mem.st ⟨[(0, ⟨5, 1, List.map (encI .u8) vout1⟩)], []⟩ (tl [(6, .c (.own 0 none))]) 1

def z568 (qs : api_Spot) (qlevel : Int) : (List Int) × Int × Int → St
  | (vout, vlong, vx2) => Mem.st ⟨[(0, ⟨5, 1, List.map (encI .u8) vout⟩)], []⟩ (tl [(6, .c (.own 0 none)), (7, .i (IntKind.wrap .i64 (qs.X - (-16384)))), (8, .i (IntKind.wrap .i64 (qs.Y - (-16384)))), (9, .i vlong), (23, .i qlevel), (24, .i vx2)]) 1

theorem z571 (qs : api_Spot) (qlevel : Int) (s : (List Int) × Int × Int) (r : ((List Int) × Int × Int) ⊕ ((List Int))) (hF : z567 qs qlevel s = some r) : Awp prog 0 47 (cL (cL (cR (cL (cR (cR (cR (cR (cB f156))))))))) (Out 0 (kk z570) (SS (z568 qs qlevel) (z569 qs qlevel)) r) (z568 qs qlevel s) := by
  obtain ⟨vout, vlong, vx2⟩ := s
  unfold z567 at hF
  refine sR 1 (awp_seq (cE hF (fun h6 hF => ?_) fun h6 hF => ?_))
  · refine tT h6 (awp_skip (awp_seq (awp_block (sR 3 (gE hF fun h7 hF => ?_)))))
    refine gE hF fun h8 hF => ?_
    refine aD ?_
    refine dR 3 ?_
    refine dX (x_quo h7) ?_
    refine dR 5 ?_
    refine dX (x_quo h7) ?_
    refine dR 5 ?_
    refine dX (x_app (encI .u8) 0 h8) ?_
    refine dR 1 ?_
    refine dE ?_
    exact gR 2 (oO hF [(0, 19001)] [] rfl)
  · refine tF h6 (awp_exit ?_)
    exact oO hF [] [] rfl

def z561 (qs : api_Spot) (qlevel : Int) (r : (List UInt8) × Int) : TV × Mem := (.tup [.one (.s r.1), .one (.i r.2)], ⟨[], []⟩)

theorem z562 {qs : api_Spot} {qlevel : Int} {r} (hF : z560 qs qlevel = some r) : Holds prog 156 [.v (.agg [.i qs.X, .i qs.Y]), .i qlevel] ⟨[], []⟩ (Is (z561 qs qlevel r)) := by
  unfold z560 at hF
  refine hW f156 47 0 0 ?_
  refine sR 3 (awp_seq (awp_seq (awp_to (st' := z564 qs qlevel) (oT [] []) ?_)))
  refine bE hF fun vx1 h4 hF => awp_sub (z566 qs qlevel h4) ?_
  refine cE hF (fun h5 hF => ?_) fun h5 hF => ?_
  · exact tT h5 (sR 2 (awp_ret (oF hF [] [])))
  · refine tF h5 (awp_skip (sR 1 (awp_seq (aD ?_))))
    refine dR 9 ?_
    refine dE ?_
    refine awp_seq (sR 2 (awp_block (awp_to (st' := z568 qs qlevel ([], 32768, 0)) (oT [] [0]) ?_)))
    refine bE hF fun vout1_1 h9 hF => awp_sub (awp_loop' (z568 qs qlevel) z570 (z569 qs qlevel) (by intro x; exact fun h => nomatch h) h9 (z571 qs qlevel)) ?_
    refine awp_seq (awp_region (aR 1 (aSt (xs := vout1_1) rfl rfl ?_)))
    refine aR 2 (aE ?_)
    exact awp_ret (oF hF [] [])

/-! ### beaconfleet/command.Order -/
def z375 : Unit ⊕ Int → AEx
  | .inl _ => .exit 0
  | .inr _ => .ret

def z374 (ql : List api_Letter) : Unit ⊕ Int → St
  | .inl _ => Mem.st ⟨[], []⟩ (tl [(0, .c (.l api_Letter.enc ql))]) 1
  | .inr vx1 => Mem.st ⟨[], []⟩ (tl [(2, .c (.nil)), (3, .i vx1)]) 1

def z373 (ql : List api_Letter) : Int → St
  | vx => Mem.st ⟨[], []⟩ (tl [(0, .c (.l api_Letter.enc ql)), (11, .c (.l api_Letter.enc ql)), (12, .i (ql.length : Int)), (13, .i vx)]) 1

theorem z376 (ql : List api_Letter) (vx : Int) (r : (Int) ⊕ (Unit ⊕ Int)) (hF : z372 ql vx = some r) : Awp prog 1 34 (cL (cL (cR (cL (cR (cR (cB f30))))))) (Out 1 (kk z375) (SS (z373 ql) (z374 ql)) r) (z373 ql vx) := by
  unfold z372 at hF
  refine sR 1 (awp_seq (cE hF (fun h2 hF => ?_) fun h2 hF => ?_))
  · refine tT h2 (awp_skip (awp_seq (awp_block (awp_seq (bE hF fun vy1 h3 hF => awp_region (aR 1 (aX (x_idx api_Letter.enc h3) (aR 4 (aE ?_)))))))))
    refine awp_seq (awp_seq (bE hF fun vr3_1 h4 hF => awp_region (aR 1 (aC (z160 h4) [] [] [] (aR 1 (aE ?_))))))
    refine sR 2 (cE hF (fun h5 hF => ?_) fun h5 hF => ?_)
    · exact tT h5 (sR 3 (awp_ret (oO hF [] [] rfl)))
    · refine tF h5 (awp_skip (awp_seq (bE hF fun vl1 h6 hF => bE hF fun vr1_1 h7 hF => awp_region (aR 2 (aX (x_slice api_Letter.enc h6) (aR 1 (aC (z721 h7) [(0, 4001)] [] [] (aE ?_))))))))
      refine cE hF (fun h8 hF => ?_) fun h8 hF => ?_
      · exact tT h8 (sR 2 (awp_ret (oO hF [] [] rfl)))
      · exact tF h8 (awp_skip (gR 2 (oO hF [] [] rfl)))
  · refine tF h2 (awp_exit ?_)
    exact oO hF [] [] rfl

def z370 (ql : List api_Letter) (r : (List api_Letter) × Int) : TV × Mem := (.tup [.one (.own 1 none), .one (.i r.2)], ⟨[(1, ⟨40, 6, List.map api_Letter.enc r.1⟩)], []⟩)

theorem z371 {ql : List api_Letter} {r} (hF : z369 ql = some r) : Holds prog 30 [.c (.own 0 none)] ⟨[(0, ⟨40, 6, List.map api_Letter.enc ql⟩)], []⟩ (Is (z370 ql r)) := by
  unfold z369 at hF
  refine hW f30 34 1 1 ?_
  refine sR 2 (awp_to (oT (m := ⟨[], []⟩) (ts := [(0, .c (.l api_Letter.enc ql))]) (nx := 1) [] []) ?_)
  refine awp_seq (awp_seq (awp_region (aR 1 (aL api_Letter.enc ql (aR 1 (aE ?_))))))
  refine cE hF (fun h1 hF => ?_) fun h1 hF => ?_
  · exact tT h1 (sR 2 (awp_ret (oF hF [] [1])))
  · refine tF h1 (awp_skip (awp_seq (awp_seq (awp_region (aR 1 (aL api_Letter.enc ql (aR 1 (aE ?_))))))))
    refine awp_block (awp_to (st' := z373 ql 0) (oT [] []) ?_)
    refine bE hF fun x h9 hF => ?_
    rcases x with _ | vx1_1
    · refine awp_sub (awp_loop' (z373 ql) z375 (z374 ql) (by intro x; rcases x with x | x <;> exact fun h => nomatch h) h9 (z376 ql)) ?_
      refine awp_seq (bE hF fun vr h10 hF => awp_region (aR 1 (aC (z668 h10) [] [] [] (aR 1 (aE ?_)))))
      refine awp_seq (bE hF fun vl2 h11 hF => gE hF fun h12 hF => ?_)
      refine awp_region (aR 1 (aCp (z799 h11) ⟨⟨rfl, rfl, pin1 h12⟩, trivial⟩ [(0, 1001)] [] [] ?_))
      refine aE ?_
      exact sR 3 (awp_ret (oF hF [(1, 1001)] []))
    · refine awp_sub (awp_loop' (z373 ql) z375 (z374 ql) (by intro x; rcases x with x | x <;> exact fun h => nomatch h) h9 (z376 ql)) ?_
      exact oF hF [] [1]

/-! ### beaconfleet/fleetkeep2.errs -/
def z437 : Unit ⊕ Int → AEx
  | .inl _ => .exit 0
  | .inr _ => .ret

def z436 (ql : List Int) : Unit ⊕ Int → St
  | .inl _ => Mem.st ⟨[], []⟩ (tl []) 0
  | .inr vx1 => Mem.st ⟨[], []⟩ (tl [(2, .i vx1)]) 0

def z435 (ql : List Int) : Int → St
  | vx => Mem.st ⟨[], []⟩ (tl [(5, .c (.l (encI .i64) ql)), (6, .i (ql.length : Int)), (7, .i vx)]) 0

theorem z438 (ql : List Int) (vx : Int) (r : (Int) ⊕ (Unit ⊕ Int)) (hF : z434 ql vx = some r) : Awp prog 0 15 (cL (cL (cR (cL (cR (cB f157)))))) (Out 0 (kk z437) (SS (z435 ql) (z436 ql)) r) (z435 ql vx) := by
  unfold z434 at hF
  refine sR 1 (awp_seq (cE hF (fun h1 hF => ?_) fun h1 hF => ?_))
  · refine tT h1 (awp_skip (awp_seq (awp_block (awp_seq (bE hF fun vy1 h2 hF => awp_region (aX (x_idx (encI .i64) h2) (aR 2 (aE ?_))))))))
    refine sR 2 (cE hF (fun h3 hF => ?_) fun h3 hF => ?_)
    · exact tT h3 (sR 2 (awp_ret (oO hF [] [] rfl)))
    · exact tF h3 (awp_skip (gR 2 (oO hF [] [] rfl)))
  · refine tF h1 (awp_exit ?_)
    exact oO hF [] [] rfl

def z432 (ql : List Int) (r : Int) : TV × Mem := (.i r, ⟨[], []⟩)

theorem z433 {ql : List Int} {r} (hF : z431 ql = some r) : Holds prog 157 [.c (.l (encI .i64) ql)] ⟨[], []⟩ (Is (z432 ql r)) := by
  unfold z431 at hF
  refine hW f157 15 0 0 ?_
  refine sR 1 (awp_seq (awp_seq (awp_region (aR 1 (aL (encI .i64) ql (aR 1 (aE ?_)))))))
  refine awp_block (awp_to (st' := z435 ql 0) (oT [] []) ?_)
  refine bE hF fun x h4 hF => ?_
  rcases x with _ | vx1_1
  · refine awp_sub (awp_loop' (z435 ql) z437 (z436 ql) (by intro x; rcases x with x | x <;> exact fun h => nomatch h) h4 (z438 ql)) ?_
    exact sR 1 (awp_ret (oF hF [] []))
  · refine awp_sub (awp_loop' (z435 ql) z437 (z436 ql) (by intro x; rcases x with x | x <;> exact fun h => nomatch h) h4 (z438 ql)) ?_
    exact oF hF [] []

/-! ### slices.Equal[[]byte,byte] -/
def z754 : Unit ⊕ Unit → AEx
  | .inl _ => .exit 0
  | .inr _ => .ret

def z753 (qs1 : List Int) (qs2 : List Int) : Unit ⊕ Unit → St
  | .inl _ => Mem.st ⟨[], []⟩ (tl []) 0
  | .inr _ => Mem.st ⟨[], []⟩ (tl [(4, .b false)]) 0

def z752 (qs1 : List Int) (qs2 : List Int) : Int → St
  | vx => Mem.st ⟨[], []⟩ (tl [(0, .c (.l (encI .u8) qs1)), (1, .c (.l (encI .u8) qs2)), (12, .i (qs1.length : Int)), (13, .i vx)]) 0

theorem z755 (qs1 : List Int) (qs2 : List Int) (vx : Int) (r : (Int) ⊕ (Unit ⊕ Unit)) (hF : z751 qs1 qs2 vx = some r) : Awp prog 0 26 (cL (cL (cR (cL (cR (cR (cB f158))))))) (Out 0 (kk z754) (SS (z752 qs1 qs2) (z753 qs1 qs2)) r) (z752 qs1 qs2 vx) := by
  unfold z751 at hF
  refine sR 1 (awp_seq (cE hF (fun h2 hF => ?_) fun h2 hF => ?_))
  · refine tT h2 (awp_skip (awp_seq (awp_block (sR 2 (awp_seq (bE hF fun vy2 h3 hF => bE hF fun vy3 h4 hF => aD ?_))))))
    refine dR 2 ?_
    refine dX (x_idx (encI .u8) h3) ?_
    refine dR 3 ?_
    refine dX (x_idx (encI .u8) h4) ?_
    refine dR 2 ?_
    refine dE ?_
    refine cE hF (fun h5 hF => ?_) fun h5 hF => ?_
    · exact tT h5 (sR 1 (awp_ret (oO hF [] [] rfl)))
    · exact tF h5 (awp_skip (gR 2 (oO hF [] [] rfl)))
  · refine tF h2 (awp_exit ?_)
    exact oO hF [] [] rfl

def z749 (qs1 : List Int) (qs2 : List Int) (r : Bool) : TV × Mem := (.b r, ⟨[], []⟩)

theorem z750 {qs1 : List Int} {qs2 : List Int} {r} (hF : z748 qs1 qs2 = some r) : Holds prog 158 [.c (.l (encI .u8) qs1), .c (.l (encI .u8) qs2)] ⟨[], []⟩ (Is (z749 qs1 qs2 r)) := by
  unfold z748 at hF
  refine hW f158 26 0 0 ?_
  refine sR 1 (awp_seq (awp_seq (awp_region (aR 1 (aL (encI .u8) qs1 (aR 1 (aL (encI .u8) qs2 (aR 1 (aE ?_)))))))))
  refine cE hF (fun h1 hF => ?_) fun h1 hF => ?_
  · exact tT h1 (sR 1 (awp_ret (oF hF [] [])))
  · refine tF h1 (awp_skip (awp_seq (awp_seq (awp_region (aR 1 (aL (encI .u8) qs1 (aR 1 (aE ?_))))))))
    refine awp_block (awp_to (st' := z752 qs1 qs2 0) (oT [] []) ?_)
    refine bE hF fun x h6 hF => ?_
    rcases x with _ | _
    · refine awp_sub (awp_loop' (z752 qs1 qs2) z754 (z753 qs1 qs2) (by intro x; rcases x with x | x <;> exact fun h => nomatch h) h6 (z755 qs1 qs2)) ?_
      exact sR 1 (awp_ret (oF hF [] []))
    · refine awp_sub (awp_loop' (z752 qs1 qs2) z754 (z753 qs1 qs2) (by intro x; rcases x with x | x <;> exact fun h => nomatch h) h6 (z755 qs1 qs2)) ?_
      exact oF hF [] []

/-! ### beaconfleet/fleetkeep2.ready -/
def z444 (vr5 : List api_Change) (vr6 : Int) (vr : List Int) (vr2 : Int) (vr2_1 : api_Version) (vr4 : Int) (vr1 : List UInt8) (vr3 : Int) (vr2_2 : List api_Letter) (vr4_1 : Int) : Bool → St
  | vx => Mem.st ⟨[], []⟩ (tl [(0, .b vx)]) 0

def z443 (vr5 : List api_Change) (vr6 : Int) (vr : List Int) (vr2 : Int) (vr2_1 : api_Version) (vr4 : Int) (vr1 : List UInt8) (vr3 : Int) (vr2_2 : List api_Letter) (vr4_1 : Int) : St := Mem.st ⟨[], [(0, [.i vr2_1.Major, .i vr2_1.Minor, .i vr2_1.Patch])]⟩ (tl [(1, .c (.l api_Change.enc vr5)), (2, .i vr6), (3, .c (.l (encI .u8) vr)), (4, .i vr2), (5, .c (.box 0 0)), (6, .i vr4), (7, .c (.s vr1)), (8, .i vr3), (9, .c (.l api_Letter.enc vr2_2)), (10, .i vr4_1)]) 1

theorem z445 (vr5 : List api_Change) (vr6 : Int) (vr : List Int) (vr2 : Int) (vr2_1 : api_Version) (vr4 : Int) (vr1 : List UInt8) (vr3 : Int) (vr2_2 : List api_Letter) (vr4_1 : Int) {r} (hF : z442 vr5 vr6 vr vr2 vr2_1 vr4 vr1 vr3 vr2_2 vr4_1 = some r) : Awp prog 0 71 (cL (cR (cR (cR (cR (cR (cR (cB f56)))))))) (Out 0 nrm (z444 vr5 vr6 vr vr2 vr2_1 vr4 vr1 vr3 vr2_2 vr4_1) r) (z443 vr5 vr6 vr vr2 vr2_1 vr4 vr1 vr3 vr2_2 vr4_1) := by
  unfold z442 at hF
  refine bE hF fun vr7 h6 hF => cE hF (fun h7 hF => ?_) fun h7 hF => ?_
  · refine cE hF (fun h8 hF => ?_) fun h8 hF => ?_
    · refine bE hF fun vr8 h9 hF => cE hF (fun h10 hF => ?_) fun h10 hF => ?_
      · refine cE hF (fun h11 hF => ?_) fun h11 hF => ?_
        · refine cE hF (fun h12 hF => ?_) fun h12 hF => ?_
          · refine awp_region (aR 6 (aC (z433 h6) [] [] [5001] (aB h7 (aR 2 (aL api_Change.enc vr5 (aB h8 (aR 4 (aCb (z750 h9) [] [] [15001] h10 ?_))))))))
            refine aR 4 (aB h11 (aR 3 (aB h12 (aR 3 (aL api_Letter.enc vr2_2 (aR 3 (aE ?_)))))))
            exact oO hF [] [] rfl
          · refine awp_region (aR 6 (aC (z433 h6) [] [] [5001] (aB h7 (aR 2 (aL api_Change.enc vr5 (aB h8 (aR 4 (aCb (z750 h9) [] [] [15001] h10 ?_))))))))
            refine aR 4 (aB h11 (aR 3 (aB h12 (aR 7 (aE ?_)))))
            exact oO hF [] [] rfl
        · refine awp_region (aR 6 (aC (z433 h6) [] [] [5001] (aB h7 (aR 2 (aL api_Change.enc vr5 (aB h8 (aR 4 (aCb (z750 h9) [] [] [15001] h10 ?_))))))))
          refine aR 4 (aB h11 (aR 11 (aE ?_)))
          exact oO hF [] [] rfl
      · refine awp_region (aR 6 (aC (z433 h6) [] [] [5001] (aB h7 (aR 2 (aL api_Change.enc vr5 (aB h8 (aR 4 (aCb (z750 h9) [] [] [15001] h10 ?_))))))))
        refine aR 16 (aE ?_)
        exact oO hF [] [] rfl
    · refine awp_region (aR 6 (aC (z433 h6) [] [] [5001] (aB h7 (aR 2 (aL api_Change.enc vr5 (aB h8 (aR 21 (aE ?_))))))))
      exact oO hF [] [] rfl
  · refine awp_region (aR 6 (aC (z433 h6) [] [] [5001] (aB h7 (aR 25 (aE ?_)))))
    exact oO hF [] [] rfl

def z440 (r : Bool) : TV × Mem := (.b r, ⟨[], []⟩)

theorem z441 {r} (hF : z439 = some r) : Holds prog 56 [] ⟨[], []⟩ (Is (z440  r)) := by
  unfold z439 at hF
  refine hW f56 71 0 0 ?_
  refine sR 1 (awp_seq (bE hF fun x h1 hF => ?_))
  obtain ⟨vr5, vr6⟩ := x
  refine awp_region (aR 3 (aC (z1222 h1) [(0, 3000)] [] [] (aR 5 (aE ?_))))
  refine awp_to (oT (m := ⟨[], []⟩) (ts := [(1, .c (.l api_Change.enc vr5)), (2, .i vr6)]) (nx := 0) [] []) ?_
  refine awp_seq (bE hF fun x h2 hF => ?_)
  obtain ⟨vr, vr2⟩ := x
  refine awp_region (aR 2 (aC (z611 h2) [(0, 1000)] [] [] (aR 5 (aE ?_))))
  refine awp_to (oT (m := ⟨[], []⟩) (ts := [(1, .c (.l api_Change.enc vr5)), (2, .i vr6), (3, .c (.l (encI .u8) vr)), (4, .i vr2)]) (nx := 0) [] []) ?_
  refine awp_seq (bE hF fun x h3 hF => ?_)
  obtain ⟨vr2_1, vr4⟩ := x
  refine awp_region (aC (z124 h3) [] [] [] (aR 6 (aE ?_)))
  refine awp_seq (bE hF fun x h4 hF => ?_)
  obtain ⟨vr1, vr3⟩ := x
  refine awp_region (aR 1 (aC (z562 h4) [] [] [] (aR 5 (aE ?_))))
  refine awp_seq (bE hF fun x h5 hF => ?_)
  obtain ⟨vr2_2, vr4_1⟩ := x
  refine awp_region (aR 2 (aC (z371 h5) [(0, 15000)] [] [] (aR 5 (aE ?_))))
  refine awp_to (oT (m := ⟨[], [(0, [.i vr2_1.Major, .i vr2_1.Minor, .i vr2_1.Patch])]⟩) (ts := [(1, .c (.l api_Change.enc vr5)), (2, .i vr6), (3, .c (.l (encI .u8) vr)), (4, .i vr2), (5, .c (.box 0 0)), (6, .i vr4), (7, .c (.s vr1)), (8, .i vr3), (9, .c (.l api_Letter.enc vr2_2)), (10, .i vr4_1)]) (nx := 1) [(0, 4000)] []) ?_
  refine awp_seq (awp_to (st' := z443 vr5 vr6 vr vr2 vr2_1 vr4 vr1 vr3 vr2_2 vr4_1) (oT [] []) ?_)
  refine bE hF fun vx1 h13 hF => awp_sub (z445 vr5 vr6 vr vr2 vr2_1 vr4 vr1 vr3 vr2_2 vr4_1 h13) ?_
  exact awp_ret (oF hF [] [])

end Go.Eng
