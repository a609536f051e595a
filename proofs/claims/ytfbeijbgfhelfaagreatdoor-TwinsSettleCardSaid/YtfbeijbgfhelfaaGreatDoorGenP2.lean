/-
The code of the Go functions that the law TwinsSettle reaches does what the plain functions say, part 2.
-/
import Derived.Test.YtfbeijbgfhelfaaGreatDoorGenP1

namespace Go.Eng

open Go Go.Proofs.Tryz

set_option linter.unusedVariables false

set_option maxRecDepth 20000

set_option maxHeartbeats 0

/-! ### beaconfleet/twin.Owed -/
def z1091 (qx : api_Twin) (vr : List api_Prop) (vr2 : List api_Prop) (vx : List (List UInt8)) (vx1 : Int) (vy1 : api_Cell) : Bool → St
  | vx4 => Mem.st ⟨[(2, ⟨9, 1, List.map encS vx⟩)], [(0, [.l api_Cell.enc qx.Desired, .l api_Cell.enc qx.Reported]), (1, [.s vy1.Prop_.Name, .i vy1.Prop_.Value.Kind, .t vy1.Prop_.Value.Flag, .i vy1.Prop_.Value.Number, .s vy1.Prop_.Value.Words, .i vy1.Stamp.At, .s vy1.Stamp.By, .i vy1.Stamp.No])]⟩ (tl [(1, .c (.box 0 0)), (5, .c (.l api_Prop.enc vr)), (6, .c (.l api_Prop.enc vr2)), (7, .c (.own 2 none)), (9, .c (.box 1 0)), (27, .c (.l api_Cell.enc qx.Desired)), (28, .i (qx.Desired.length : Int)), (29, .i vx1), (44, .b vx4)]) 3

def z1090 (qx : api_Twin) (vr : List api_Prop) (vr2 : List api_Prop) (vx : List (List UInt8)) (vx1 : Int) (vy1 : api_Cell) : St := Mem.st ⟨[(2, ⟨9, 1, List.map encS vx⟩)], [(0, [.l api_Cell.enc qx.Desired, .l api_Cell.enc qx.Reported]), (1, [.s vy1.Prop_.Name, .i vy1.Prop_.Value.Kind, .t vy1.Prop_.Value.Flag, .i vy1.Prop_.Value.Number, .s vy1.Prop_.Value.Words, .i vy1.Stamp.At, .s vy1.Stamp.By, .i vy1.Stamp.No])]⟩ (tl [(1, .c (.box 0 0)), (5, .c (.l api_Prop.enc vr)), (6, .c (.l api_Prop.enc vr2)), (7, .c (.own 2 none)), (9, .c (.box 1 0)), (27, .c (.l api_Cell.enc qx.Desired)), (28, .i (qx.Desired.length : Int)), (29, .i vx1)]) 3

theorem z1092 (qx : api_Twin) (vr : List api_Prop) (vr2 : List api_Prop) (vx : List (List UInt8)) (vx1 : Int) (vy1 : api_Cell) {r} (hF : z1089 qx vy1 = some r) : Awp prog 0 94 (cL (cR (cL (cL (cR (cR (cL (cL (cR (cL (cR (cR (cR (cR (cB f41))))))))))))))) (Out 0 nrm (z1091 qx vr vr2 vx vx1 vy1) r) (z1090 qx vr vr2 vx vx1 vy1) := by
  unfold z1089 at hF
  refine cE hF (fun h7 hF => ?_) fun h7 hF => ?_
  · refine bE hF fun vr1_2 h8 hF => awp_region (aR 4 (aB h7 (aR 4 (aC (z1158 h8) [] [] [] (aR 2 (aE ?_))))))
    exact oO hF [] [] rfl
  · refine awp_region (aR 4 (aB h7 (aR 7 (aE ?_))))
    exact oO hF [] [] rfl

def z1087 (qx : api_Twin) (vr : List api_Prop) (vr2 : List api_Prop) (vx : List (List UInt8)) (vx1 : Int) : (List (List UInt8)) → St
  | vx5 => Mem.st ⟨[(1, ⟨9, 1, List.map encS vx5⟩)], [(0, [.l api_Cell.enc qx.Desired, .l api_Cell.enc qx.Reported])]⟩ (tl [(1, .c (.box 0 0)), (5, .c (.l api_Prop.enc vr)), (6, .c (.l api_Prop.enc vr2)), (7, .c (.own 1 none)), (27, .c (.l api_Cell.enc qx.Desired)), (28, .i (qx.Desired.length : Int)), (29, .i vx1)]) 2

def z1086 (qx : api_Twin) (vr : List api_Prop) (vr2 : List api_Prop) (vx : List (List UInt8)) (vx1 : Int) : St := Mem.st ⟨[(1, ⟨9, 1, List.map encS vx⟩)], [(0, [.l api_Cell.enc qx.Desired, .l api_Cell.enc qx.Reported])]⟩ (tl [(1, .c (.box 0 0)), (5, .c (.l api_Prop.enc vr)), (6, .c (.l api_Prop.enc vr2)), (7, .c (.own 1 none)), (27, .c (.l api_Cell.enc qx.Desired)), (28, .i (qx.Desired.length : Int)), (29, .i vx1)]) 2

theorem z1088 (qx : api_Twin) (vr : List api_Prop) (vr2 : List api_Prop) (vx : List (List UInt8)) (vx1 : Int) {r} (hF : z1085 qx vx vx1 = some r) : Awp prog 0 94 (cL (cR (cR (cL (cL (cR (cL (cR (cR (cR (cR (cB f41)))))))))))) (Out 0 nrm (z1087 qx vr vr2 vx vx1) r) (z1086 qx vr vr2 vx vx1) := by
  unfold z1085 at hF
  refine awp_block (awp_seq (bE hF fun vy1 h6 hF => awp_region (aX (x_idx api_Cell.enc h6) (aR 3 (aE ?_)))))
  refine awp_seq (awp_to (st' := z1090 qx vr vr2 vx vx1 vy1) (oT [(1, 2002), (2, 1)] []) ?_)
  refine bE hF fun vx4_1 h9 hF => awp_sub (z1092 qx vr vr2 vx vx1 vy1 h9) ?_
  refine cE hF (fun h10 hF => ?_) fun h10 hF => ?_
  · refine tT h10 (gE hF fun h11 hF => ?_)
    refine awp_region (aR 5 (aX (x_app encS 2 h11) (aR 1 (aE ?_))))
    exact oO hF [(1, 5003)] [] rfl
  · exact tF h10 (awp_skip (oO hF [(1, 2)] [] rfl))

def z1083 : (List (List UInt8)) → AEx
  | _ => .exit 0

def z1082 (qx : api_Twin) (vr : List api_Prop) (vr2 : List api_Prop) : (List (List UInt8)) → St
  | vx6 => Mem.st ⟨[(0, ⟨9, 1, List.map encS vx6⟩)], []⟩ (tl [(5, .c (.l api_Prop.enc vr)), (6, .c (.l api_Prop.enc vr2)), (7, .c (.own 0 none))]) 1

def z1081 (qx : api_Twin) (vr : List api_Prop) (vr2 : List api_Prop) : (List (List UInt8)) × Int → St
  | (vx, vx1) => Mem.st ⟨[(1, ⟨9, 1, List.map encS vx⟩)], [(0, [.l api_Cell.enc qx.Desired, .l api_Cell.enc qx.Reported])]⟩ (tl [(1, .c (.box 0 0)), (5, .c (.l api_Prop.enc vr)), (6, .c (.l api_Prop.enc vr2)), (7, .c (.own 1 none)), (27, .c (.l api_Cell.enc qx.Desired)), (28, .i (qx.Desired.length : Int)), (29, .i vx1)]) 2

theorem z1084 (qx : api_Twin) (vr : List api_Prop) (vr2 : List api_Prop) (s : (List (List UInt8)) × Int) (r : ((List (List UInt8)) × Int) ⊕ ((List (List UInt8)))) (hF : z1080 qx s = some r) : Awp prog 0 94 (cL (cL (cR (cL (cR (cR (cR (cR (cB f41))))))))) (Out 0 (kk z1083) (SS (z1081 qx vr vr2) (z1082 qx vr vr2)) r) (z1081 qx vr vr2 s) := by
  obtain ⟨vx, vx1⟩ := s
  unfold z1080 at hF
  refine sR 1 (awp_seq (cE hF (fun h5 hF => ?_) fun h5 hF => ?_))
  · refine tT h5 (awp_skip (awp_seq (awp_to (st' := z1086 qx vr vr2 vx vx1) (oT [] []) ?_)))
    refine bE hF fun vx5_1 h12 hF => awp_sub (z1088 qx vr vr2 vx vx1 h12) ?_
    exact gR 2 (oO hF [] [] rfl)
  · refine tF h5 (awp_exit ?_)
    exact oO hF [(0, 1)] [] rfl

def z1104 (vr : List api_Prop) (vr2 : List api_Prop) (vx6_1 : List (List UInt8)) (vr1_3 : List (List UInt8)) (vx7 : List api_Change) (vx8 : Int) (vy3 : List UInt8) (vr5 : api_Value) (vr6 : api_Value) : Bool → St
  | vx11 => Mem.st ⟨[(3, ⟨9, 1, List.map encS vx6_1⟩), (4, ⟨92, 9, List.map api_Change.enc vx7⟩)], [(0, [.s vy3]), (1, [.i vr5.Kind, .t vr5.Flag, .i vr5.Number, .s vr5.Words]), (2, [.i vr6.Kind, .t vr6.Flag, .i vr6.Number, .s vr6.Words])]⟩ (tl [(5, .c (.l api_Prop.enc vr)), (6, .c (.l api_Prop.enc vr2)), (7, .c (.own 3 none)), (10, .c (.own 4 none)), (12, .c (.box 0 0)), (13, .c (.box 1 0)), (14, .c (.box 2 0)), (55, .c (.l encS vr1_3)), (56, .i (vr1_3.length : Int)), (57, .i vx8), (81, .b vx11)]) 5

def z1103 (vr : List api_Prop) (vr2 : List api_Prop) (vx6_1 : List (List UInt8)) (vr1_3 : List (List UInt8)) (vx7 : List api_Change) (vx8 : Int) (vy3 : List UInt8) (vr5 : api_Value) (vr6 : api_Value) : St := Mem.st ⟨[(3, ⟨9, 1, List.map encS vx6_1⟩), (4, ⟨92, 9, List.map api_Change.enc vx7⟩)], [(0, [.s vy3]), (1, [.i vr5.Kind, .t vr5.Flag, .i vr5.Number, .s vr5.Words]), (2, [.i vr6.Kind, .t vr6.Flag, .i vr6.Number, .s vr6.Words])]⟩ (tl [(5, .c (.l api_Prop.enc vr)), (6, .c (.l api_Prop.enc vr2)), (7, .c (.own 3 none)), (10, .c (.own 4 none)), (12, .c (.box 0 0)), (13, .c (.box 1 0)), (14, .c (.box 2 0)), (55, .c (.l encS vr1_3)), (56, .i (vr1_3.length : Int)), (57, .i vx8)]) 5

theorem z1105 (vr : List api_Prop) (vr2 : List api_Prop) (vx6_1 : List (List UInt8)) (vr1_3 : List (List UInt8)) (vx7 : List api_Change) (vx8 : Int) (vy3 : List UInt8) (vr5 : api_Value) (vr6 : api_Value) {r} (hF : z1102 vr vx6_1 vy3 vr6 = some r) : Awp prog 0 94 (cL (cL (cR (cR (cL (cL (cR (cR (cL (cL (cR (cL (cR (cR (cR (cR (cR (cR (cB f41))))))))))))))))))) (Out 0 nrm (z1104 vr vr2 vx6_1 vr1_3 vx7 vx8 vy3 vr5 vr6) r) (z1103 vr vr2 vx6_1 vr1_3 vx7 vx8 vy3 vr5 vr6) := by
  unfold z1102 at hF
  refine cE hF (fun h19 hF => ?_) fun h19 hF => ?_
  · refine bE hF fun vr1_6 h20 hF => cE hF (fun h21 hF => ?_) fun h21 hF => ?_
    · refine bE hF fun vr1_7 h22 hF => awp_region (aR 2 (aB h19 (aR 3 (aC (z657 h20) [] [] [3] (aB h21 (aR 4 (aC (z651 h22) [] [] [] (aR 2 (aE ?_)))))))))
      exact oO hF [] [] rfl
    · refine awp_region (aR 2 (aB h19 (aR 3 (aC (z657 h20) [] [] [3] (aB h21 (aR 7 (aE ?_)))))))
      exact oO hF [] [] rfl
  · refine awp_region (aR 2 (aB h19 (aR 12 (aE ?_))))
    exact oO hF [] [] rfl

def z1100 (vr : List api_Prop) (vr2 : List api_Prop) (vx6_1 : List (List UInt8)) (vr1_3 : List (List UInt8)) (vx7 : List api_Change) (vx8 : Int) : (List api_Change) → St
  | vx12 => Mem.st ⟨[(0, ⟨9, 1, List.map encS vx6_1⟩), (1, ⟨92, 9, List.map api_Change.enc vx12⟩)], []⟩ (tl [(5, .c (.l api_Prop.enc vr)), (6, .c (.l api_Prop.enc vr2)), (7, .c (.own 0 none)), (10, .c (.own 1 none)), (55, .c (.l encS vr1_3)), (56, .i (vr1_3.length : Int)), (57, .i vx8)]) 2

def z1099 (vr : List api_Prop) (vr2 : List api_Prop) (vx6_1 : List (List UInt8)) (vr1_3 : List (List UInt8)) (vx7 : List api_Change) (vx8 : Int) : St := Mem.st ⟨[(0, ⟨9, 1, List.map encS vx6_1⟩), (1, ⟨92, 9, List.map api_Change.enc vx7⟩)], []⟩ (tl [(5, .c (.l api_Prop.enc vr)), (6, .c (.l api_Prop.enc vr2)), (7, .c (.own 0 none)), (10, .c (.own 1 none)), (55, .c (.l encS vr1_3)), (56, .i (vr1_3.length : Int)), (57, .i vx8)]) 2

theorem z1101 (vr : List api_Prop) (vr2 : List api_Prop) (vx6_1 : List (List UInt8)) (vr1_3 : List (List UInt8)) (vx7 : List api_Change) (vx8 : Int) {r} (hF : z1098 vr vr2 vx6_1 vr1_3 vx7 vx8 = some r) : Awp prog 0 94 (cL (cR (cR (cL (cL (cR (cL (cR (cR (cR (cR (cR (cR (cB f41)))))))))))))) (Out 0 nrm (z1100 vr vr2 vx6_1 vr1_3 vx7 vx8) r) (z1099 vr vr2 vx6_1 vr1_3 vx7 vx8) := by
  unfold z1098 at hF
  refine awp_block (awp_seq (bE hF fun vy3 h16 hF => awp_region (aX (x_idx encS h16) (aR 3 (aE ?_)))))
  refine awp_seq (bE hF fun vr5 h17 hF => bE hF fun vr6 h18 hF => aD ?_)
  refine dR 2 ?_
  refine dC (z1237 h17) [] [] [] ?_
  refine dR 2 ?_
  refine dC (z1237 h18) [] [] [] ?_
  refine dR 4 ?_
  refine dE ?_
  refine awp_seq (awp_seq (awp_to (st' := z1103 vr vr2 vx6_1 vr1_3 vx7 vx8 vy3 vr5 vr6) (oT [(0, 2002), (1, 10002), (2, 11002), (3, 0), (4, 1)] []) ?_))
  refine bE hF fun vx11_1 h23 hF => awp_sub (z1105 vr vr2 vx6_1 vr1_3 vx7 vx8 vy3 vr5 vr6 h23) ?_
  refine cE hF (fun h24 hF => ?_) fun h24 hF => ?_
  · refine tT h24 (awp_exit ?_)
    exact oO hF [(0, 3), (1, 4)] [] rfl
  · refine tF h24 (awp_skip (awp_seq (awp_region (aR 2 (aS (does_eqS (op := .neq) (xs := [.int .i64 vr5.Kind, .bool vr5.Flag, .int .i64 vr5.Number, .str vr5.Words]) (ys := [.int .i64 vr6.Kind, .bool vr6.Flag, .int .i64 vr6.Number, .str vr6.Words]) (b := (decide (vr5.Kind = vr6.Kind) && ((vr5.Flag == vr6.Flag) && (decide (vr5.Number = vr6.Number) && (decide (vr5.Words = vr6.Words) && true))))) (c := (!(decide (vr5.Kind = vr6.Kind) && ((vr5.Flag == vr6.Flag) && (decide (vr5.Number = vr6.Number) && (decide (vr5.Words = vr6.Words) && true)))))) rfl (.inr ⟨rfl, rfl⟩) (by kernel_rfl) (by kernel_rfl) (by kernel_rfl) (by kernel_rfl) (by kernel_rfl) (by kernel_rfl)) ?_)))))
    refine aE ?_
    refine cE hF (fun h25 hF => ?_) fun h25 hF => ?_
    · refine tT h25 (gE hF fun h26 hF => ?_)
      refine awp_region (aR 6 (aX (x_app api_Change.enc 4 h26) (aR 1 (aE ?_))))
      exact oO hF [(0, 3), (1, 9005)] [] rfl
    · exact tF h25 (awp_skip (oO hF [(0, 3), (1, 4)] [] rfl))

def z1096 : (List api_Change) → AEx
  | _ => .exit 2

def z1095 (vr : List api_Prop) (vr2 : List api_Prop) (vx6_1 : List (List UInt8)) (vr1_3 : List (List UInt8)) : (List api_Change) → St
  | vx13 => Mem.st ⟨[(0, ⟨92, 9, List.map api_Change.enc vx13⟩)], []⟩ (tl [(10, .c (.own 0 none))]) 1

def z1094 (vr : List api_Prop) (vr2 : List api_Prop) (vx6_1 : List (List UInt8)) (vr1_3 : List (List UInt8)) : (List api_Change) × Int → St
  | (vx7, vx8) => Mem.st ⟨[(0, ⟨9, 1, List.map encS vx6_1⟩), (1, ⟨92, 9, List.map api_Change.enc vx7⟩)], []⟩ (tl [(5, .c (.l api_Prop.enc vr)), (6, .c (.l api_Prop.enc vr2)), (7, .c (.own 0 none)), (10, .c (.own 1 none)), (55, .c (.l encS vr1_3)), (56, .i (vr1_3.length : Int)), (57, .i vx8)]) 2

theorem z1097 (vr : List api_Prop) (vr2 : List api_Prop) (vx6_1 : List (List UInt8)) (vr1_3 : List (List UInt8)) (s : (List api_Change) × Int) (r : ((List api_Change) × Int) ⊕ ((List api_Change))) (hF : z1093 vr vr2 vx6_1 vr1_3 s = some r) : Awp prog 0 94 (cL (cL (cR (cL (cR (cR (cR (cR (cR (cR (cB f41))))))))))) (Out 0 (kk z1096) (SS (z1094 vr vr2 vx6_1 vr1_3) (z1095 vr vr2 vx6_1 vr1_3)) r) (z1094 vr vr2 vx6_1 vr1_3 s) := by
  obtain ⟨vx7, vx8⟩ := s
  unfold z1093 at hF
  refine sR 1 (awp_seq (cE hF (fun h15 hF => ?_) fun h15 hF => ?_))
  · refine tT h15 (awp_skip (awp_seq (awp_to (st' := z1099 vr vr2 vx6_1 vr1_3 vx7 vx8) (oT [] []) ?_)))
    refine bE hF fun vx12_1 h27 hF => awp_sub (z1101 vr vr2 vx6_1 vr1_3 vx7 vx8 h27) ?_
    exact gR 2 (oO hF [] [] rfl)
  · refine tF h15 (awp_exit ?_)
    exact oO hF [(0, 1)] [] rfl

def z1078 (qx : api_Twin) (r : (List api_Change) × Int) : TV × Mem := (.tup [.one (.own 0 none), .one (.i r.2)], ⟨[(0, ⟨92, 9, List.map api_Change.enc r.1⟩)], []⟩)

theorem z1079 {qx : api_Twin} {r} (hF : twin_Owed qx = some r) : Holds prog 41 [.v (.agg [.l api_Cell.enc qx.Desired, .l api_Cell.enc qx.Reported])] ⟨[], []⟩ (Is (z1078 qx r)) := by
  unfold twin_Owed at hF
  refine hW f41 94 0 0 ?_
  refine sR 3 (awp_seq (awp_seq (bE hF fun vr1 h1 hF => awp_region (aR 1 (aC (z1223 h1) [] [] [] (aR 1 (aE ?_)))))))
  refine sR 2 (cE hF (fun h2 hF => ?_) fun h2 hF => ?_)
  · exact tT h2 (sR 3 (awp_ret (oF hF [] [0])))
  · refine tF h2 (awp_skip (awp_seq (bE hF fun vr h3 hF => bE hF fun vr2 h4 hF => aD ?_)))
    refine dR 2 ?_
    refine dC (z1240 h3) [] [] [] ?_
    refine dR 2 ?_
    refine dC (z1240 h4) [] [] [] ?_
    refine dR 2 ?_
    refine dE ?_
    refine awp_to (oT (m := ⟨[], [(0, [.l api_Cell.enc qx.Desired, .l api_Cell.enc qx.Reported])]⟩) (ts := [(1, .c (.box 0 0)), (5, .c (.l api_Prop.enc vr)), (6, .c (.l api_Prop.enc vr2))]) (nx := 1) [] []) ?_
    refine sR 1 (awp_seq (awp_seq (awp_region (aR 2 (aL api_Cell.enc qx.Desired (aR 1 (aE ?_)))))))
    refine awp_block (awp_to (st' := z1081 qx vr vr2 ([], 0)) (oT [] [1]) ?_)
    refine bE hF fun vx6_1 h13 hF => awp_sub (awp_loop' (z1081 qx vr vr2) z1083 (z1082 qx vr vr2) (by intro x; exact fun h => nomatch h) h13 (z1084 qx vr vr2)) ?_
    refine sR 1 (awp_seq (awp_seq (bE hF fun vr1_3 h14 hF => awp_region (aR 3 (aC (z1207 h14) [(0, 3001)] [] [] (aL encS vr1_3 (aR 1 (aE ?_))))))))
    refine awp_to (oT (m := ⟨[(0, ⟨9, 1, List.map encS vx6_1⟩)], []⟩) (ts := [(5, .c (.l api_Prop.enc vr)), (6, .c (.l api_Prop.enc vr2)), (7, .c (.own 0 none)), (10, .c (.nil)), (55, .c (.l encS vr1_3)), (56, .i (vr1_3.length : Int)), (57, .i 0)]) (nx := 1) [] []) ?_
    refine awp_block (awp_to (st' := z1094 vr vr2 vx6_1 vr1_3 ([], 0)) (oT [] [1]) ?_)
    refine bE hF fun vx13_1 h28 hF => awp_sub (awp_loop' (z1094 vr vr2 vx6_1 vr1_3) z1096 (z1095 vr vr2 vx6_1 vr1_3) (by intro x; exact fun h => nomatch h) h28 (z1097 vr vr2 vx6_1 vr1_3)) ?_
    exact sR 3 (awp_ret (oF hF [] []))

/-! ### beaconfleet/twin.Settled -/
def z1111 (vr7 : List api_Change) (vr8 : Int) : Bool → St
  | vx => Mem.st ⟨[], []⟩ (tl [(2, .b vx), (3, .i vr8)]) 0

def z1110 (vr7 : List api_Change) (vr8 : Int) : St := Mem.st ⟨[], []⟩ (tl [(4, .c (.l api_Change.enc vr7)), (5, .i vr8)]) 0

theorem z1112 (vr7 : List api_Change) (vr8 : Int) {r} (hF : z1109 vr7 vr8 = some r) : Awp prog 0 19 (cL (cR (cR (cB f42)))) (Out 0 nrm (z1111 vr7 vr8) r) (z1110 vr7 vr8) := by
  unfold z1109 at hF
  refine cE hF (fun h2 hF => ?_) fun h2 hF => ?_
  · refine awp_region (aR 1 (aB h2 (aR 2 (aL api_Change.enc vr7 (aR 5 (aE ?_))))))
    exact oO hF [] [] rfl
  · refine awp_region (aR 1 (aB h2 (aR 8 (aE ?_))))
    exact oO hF [] [] rfl

def z1107 (qt : api_Twin) (r : Bool × Int) : TV × Mem := (.tup [.one (.t r.1), .one (.i r.2)], ⟨[], []⟩)

theorem z1108 {qt : api_Twin} {r} (hF : z1106 qt = some r) : Holds prog 42 [.v (.agg [.l api_Cell.enc qt.Desired, .l api_Cell.enc qt.Reported])] ⟨[], []⟩ (Is (z1107 qt r)) := by
  unfold z1106 at hF
  refine hW f42 19 0 0 ?_
  refine sR 3 (awp_seq (bE hF fun x h1 hF => ?_))
  obtain ⟨vr7, vr8⟩ := x
  refine awp_region (aR 1 (aC (z1079 h1) [] [] [] (aR 5 (aE ?_))))
  refine awp_to (oT (m := ⟨[], []⟩) (ts := [(4, .c (.l api_Change.enc vr7)), (5, .i vr8)]) (nx := 0) [] []) ?_
  refine awp_seq (awp_to (st' := z1110 vr7 vr8) (oT [] []) ?_)
  refine bE hF fun vx1 h3 hF => awp_sub (z1112 vr7 vr8 h3) ?_
  exact awp_ret (oF hF [] [])

/-! ### unicode/utf8.RuneCountInString -/
def z1267 : Int → AEx
  | _ => .exit 0

def z1266 (qs : List UInt8) : Int → St
  | vn1 => Mem.st ⟨[], []⟩ (tl [(2, .i vn1)]) 0

def z1265 (qs : List UInt8) : Nat × Int → St
  | (vpos, vn) => Mem.st ⟨[], [(0, [.iters qs vpos])]⟩ (tl [(2, .i vn), (4, .c (.box 0 0))]) 1

theorem z1268 (qs : List UInt8) (s : Nat × Int) (r : (Nat × Int) ⊕ (Int)) (hF : z1264 qs s = some r) : Awp prog 0 10 (cL (cL (cR (cL (cR (cB f341)))))) (Out 0 (kk z1267) (SS (z1265 qs) (z1266 qs)) r) (z1265 qs s) := by
  obtain ⟨vpos, vn⟩ := s
  unfold z1264 at hF
  refine awp_seq (cE hF (fun h1 hF => ?_) fun h1 hF => ?_)
  · refine bE hF fun vd1 h2 hF => awp_region (aX (x_next 0 qs vpos h1 h2) (aR 1 (aE ?_)))
    exact awp_seq (tT rfl (awp_skip (awp_block (gR 3 (oO hF [] [] rfl)))))
  · refine awp_region (aX (x_nextE 0 qs vpos h1) (aR 1 (aE ?_)))
    refine awp_seq (tF rfl (awp_exit ?_))
    exact oO hF [] [] rfl

def z1262 (qs : List UInt8) (r : Int) : TV × Mem := (.i r, ⟨[], []⟩)

theorem z1263 {qs : List UInt8} {r} (hF : z1261 qs = some r) : Holds prog 341 [.c (.s qs)] ⟨[], []⟩ (Is (z1262 qs r)) := by
  unfold z1261 at hF
  refine hW f341 10 0 0 ?_
  refine sR 1 (awp_seq (sR 2 (awp_block (awp_to (st' := z1265 qs ((0 : Nat), 0)) (oT [(0, 2000)] []) ?_))))
  refine bE hF fun vn1_1 h3 hF => awp_sub (awp_loop' (z1265 qs) z1267 (z1266 qs) (by intro x; exact fun h => nomatch h) h3 (z1268 qs)) ?_
  exact sR 2 (awp_ret (oF hF [] []))

/-! ### unicode/utf8.decodeRuneInStringSlow -/
def z1272 (qx : List UInt8) (r : Unit) : TV × Mem := (.tup [.one (.d (.int .i32 65533)), .one (.i 0)], ⟨[], []⟩)

theorem z1273 {qx : List UInt8} {r} (hF : z1271 qx = some r) : Holds prog 354 [.c (.s qx)] ⟨[], []⟩ (Is (z1272 qx r)) := by
  unfold z1271 at hF
  refine hW f354 117 0 0 ?_
  refine sR 2 (sR 3 (awp_seq (sR 2 (cE hF (fun h1 hF => ?_) fun h1 hF => ?_))))
  · exact tT h1 (sR 2 (awp_ret (oF hF [] [])))
  · refine tF h1 (awp_skip (awp_seq (bE hF fun vc h2 hF => awp_region (aR 1 (aX (x_idxS h2) (aR 1 (aE ?_)))))))
    exact awp_seq (nE hF)

/-! ### unicode/utf8.DecodeRuneInString -/
def z1259 (qs : List UInt8) : Bool → St
  | vx => Mem.st ⟨[], []⟩ (tl [(0, .c (.s qs)), (10, .b vx)]) 0

def z1258 (qs : List UInt8) : St := Mem.st ⟨[], []⟩ (tl [(0, .c (.s qs))]) 0

theorem z1260 (qs : List UInt8) {r} (hF : z1257 qs = some r) : Awp prog 0 19 (cL (cL (cR (cB f342)))) (Out 0 nrm (z1259 qs) r) (z1258 qs) := by
  unfold z1257 at hF
  refine cE hF (fun h1 hF => ?_) fun h1 hF => ?_
  · refine bE hF fun vc h2 hF => awp_region (aR 1 (aB h1 (aR 2 (aX (x_idxS h2) (aR 2 (aE ?_))))))
    exact oO hF [] [] rfl
  · refine awp_region (aR 1 (aB h1 (aR 5 (aE ?_))))
    exact oO hF [] [] rfl

def z1255 (qs : List UInt8) (r : Int × Int) : TV × Mem := (.tup [.one (.d (.int .i32 r.1)), .one (.i r.2)], ⟨[], []⟩)

theorem z1256 {qs : List UInt8} {r} (hF : z1254 qs = some r) : Holds prog 342 [.c (.s qs)] ⟨[], []⟩ (Is (z1255 qs r)) := by
  unfold z1254 at hF
  refine hW f342 19 0 0 ?_
  refine sR 2 (awp_seq (awp_seq (awp_to (st' := z1258 qs) (oT [] []) ?_)))
  refine bE hF fun vx1 h3 hF => awp_sub (z1260 qs h3) ?_
  refine cE hF (fun h4 hF => ?_) fun h4 hF => ?_
  · refine tT h4 (awp_seq (bE hF fun vc1 h5 hF => awp_region (aR 1 (aX (x_idxS h5) (aR 3 (aE ?_))))))
    exact awp_ret (oF hF [] [])
  · refine tF h4 (bE hF fun _ h6 hF => awp_region (aR 1 (aC (z1273 h6) [] [] [] (aR 5 (aE ?_)))))
    exact awp_ret (oF hF [] [])

/-! ### strings.explode -/
def z948 (qs : List UInt8) (qn : Int) (vr : Int) : Bool → St
  | vx => Mem.st ⟨[], []⟩ (tl [(0, .c (.s qs)), (1, .i qn), (5, .i vr), (18, .b vx)]) 0

def z947 (qs : List UInt8) (qn : Int) (vr : Int) : St := Mem.st ⟨[], []⟩ (tl [(0, .c (.s qs)), (1, .i qn), (5, .i vr)]) 0

theorem z949 (qs : List UInt8) (qn : Int) (vr : Int) {r} (hF : z946 qn vr = some r) : Awp prog 0 50 (cL (cL (cR (cR (cB f315))))) (Out 0 nrm (z948 qs qn vr) r) (z947 qs qn vr) := by
  unfold z946 at hF
  refine cE hF (fun h2 hF => ?_) fun h2 hF => ?_
  · refine awp_region (aR 1 (aB h2 (aR 5 (aE ?_))))
    exact oO hF [] [] rfl
  · refine awp_region (aR 1 (aB h2 (aR 5 (aE ?_))))
    exact oO hF [] [] rfl

def z944 (qs : List UInt8) (qn : Int) (vr : Int) : Int → St
  | vn => Mem.st ⟨[], []⟩ (tl [(0, .c (.s qs)), (1, .i vn)]) 0

def z943 (qs : List UInt8) (qn : Int) (vr : Int) : St := Mem.st ⟨[], []⟩ (tl [(0, .c (.s qs)), (1, .i qn), (5, .i vr)]) 0

theorem z945 (qs : List UInt8) (qn : Int) (vr : Int) {r} (hF : z942 qn vr = some r) : Awp prog 0 50 (cL (cR (cR (cB f315)))) (Out 0 nrm (z944 qs qn vr) r) (z943 qs qn vr) := by
  unfold z942 at hF
  refine awp_seq (awp_to (st' := z947 qs qn vr) (oT [] []) ?_)
  refine bE hF fun vx1 h3 hF => awp_sub (z949 qs qn vr h3) ?_
  refine cE hF (fun h4 hF => ?_) fun h4 hF => ?_
  · exact tT h4 (gR 2 (oO hF [] [] rfl))
  · exact tF h4 (awp_skip (oO hF [] [] rfl))

def z953 : ((List UInt8) × (List (List UInt8))) → AEx
  | _ => .exit 0

def z952 (vn1 : Int) : ((List UInt8) × (List (List UInt8))) → St
  | (vs5, va1) => Mem.st ⟨[(0, ⟨9, 1, List.map encS va1⟩)], []⟩ (tl [(0, .c (.s vs5)), (1, .i vn1), (6, .c (.own 0 none))]) 1

def z951 (vn1 : Int) : (List UInt8) × (List (List UInt8)) × Int → St
  | (vs, va, vi) => Mem.st ⟨[(0, ⟨9, 1, List.map encS va⟩)], []⟩ (tl [(0, .c (.s vs)), (1, .i vn1), (6, .c (.own 0 none)), (7, .i vi)]) 1

theorem z954 (vn1 : Int) (s : (List UInt8) × (List (List UInt8)) × Int) (r : ((List UInt8) × (List (List UInt8)) × Int) ⊕ (((List UInt8) × (List (List UInt8))))) (hF : z950 vn1 s = some r) : Awp prog 0 50 (cL (cL (cR (cL (cR (cR (cR (cR (cB f315))))))))) (Out 0 (kk z953) (SS (z951 vn1) (z952 vn1)) r) (z951 vn1 s) := by
  obtain ⟨vs, va, vi⟩ := s
  unfold z950 at hF
  refine awp_seq (sR 4 (cE hF (fun h7 hF => ?_) fun h7 hF => ?_))
  · refine tT h7 (awp_skip (awp_seq (awp_block (awp_seq (bE hF fun x h8 hF => ?_)))))
    obtain ⟨vr2, vr1_2⟩ := x
    refine awp_region (aR 1 (aC (z1256 h8) [] [] [] (aR 5 (aE ?_))))
    refine awp_seq (bE hF fun vs3 h9 hF => bE hF fun vy1 h10 hF => awp_region (aR 4 (aX (x_sliceS h9) (aX (x_idxO encS 0 h10) (aX (x_stE encS vs3 h10) (aE ?_))))))
    refine bE hF fun vs4 h11 hF => awp_region (aR 2 (aX (x_sliceS h11) (aR 1 (aE ?_))))
    exact gR 3 (oO hF [] [] rfl)
  · refine tF h7 (awp_exit ?_)
    exact oO hF [] [] rfl

def z957 (vn1 : Int) (vs5_1 : List UInt8) (va1_1 : List (List UInt8)) : (List (List UInt8)) → St
  | va2 => Mem.st ⟨[(0, ⟨9, 1, List.map encS va2⟩)], []⟩ (tl [(6, .c (.own 0 none))]) 1

def z956 (vn1 : Int) (vs5_1 : List UInt8) (va1_1 : List (List UInt8)) : St := Mem.st ⟨[(0, ⟨9, 1, List.map encS va1_1⟩)], []⟩ (tl [(0, .c (.s vs5_1)), (1, .i vn1), (6, .c (.own 0 none))]) 1

theorem z958 (vn1 : Int) (vs5_1 : List UInt8) (va1_1 : List (List UInt8)) {r} (hF : z955 vn1 vs5_1 va1_1 = some r) : Awp prog 0 50 (cL (cR (cR (cR (cR (cR (cB f315))))))) (Out 0 nrm (z957 vn1 vs5_1 va1_1) r) (z956 vn1 vs5_1 va1_1) := by
  unfold z955 at hF
  refine sR 2 (cE hF (fun h13 hF => ?_) fun h13 hF => ?_)
  · refine tT h13 (bE hF fun vy2 h14 hF => awp_region (aR 4 (aX (x_idxO encS 0 h14) (aX (x_stE encS vs5_1 h14) (aE ?_)))))
    exact oO hF [] [] rfl
  · exact tF h13 (awp_skip (oO hF [] [] rfl))

def z940 (qs : List UInt8) (qn : Int) (r : (List (List UInt8))) : TV × Mem := (.c (.own 0 none), ⟨[(0, ⟨9, 1, List.map encS r⟩)], []⟩)

theorem z941 {qs : List UInt8} {qn : Int} {r} (hF : z939 qs qn = some r) : Holds prog 315 [.c (.s qs), .i qn] ⟨[], []⟩ (Is (z940 qs qn r)) := by
  unfold z939 at hF
  refine hW f315 50 0 0 ?_
  refine sR 1 (awp_seq (bE hF fun vr h1 hF => awp_region (aR 1 (aC (z1263 h1) [] [] [] (aR 1 (aE ?_))))))
  refine awp_seq (awp_to (st' := z943 qs qn vr) (oT [] []) ?_)
  refine bE hF fun vn1 h5 hF => awp_sub (z945 qs qn vr h5) ?_
  refine awp_seq (gE hF fun h6 hF => ?_)
  refine awp_region (aR 1 (aX (x_mk encS ([] : List UInt8) h6) (aR 1 (aE ?_))))
  refine awp_seq (sR 1 (awp_block (awp_to (st' := z951 vn1 (qs, List.replicate vn1.toNat ([] : List UInt8), 0)) (oT [(0, 1000)] []) ?_)))
  refine bE hF fun x h12 hF => ?_
  obtain ⟨vs5_1, va1_1⟩ := x
  refine awp_sub (awp_loop' (z951 vn1) z953 (z952 vn1) (by intro x; exact fun h => nomatch h) h12 (z954 vn1)) ?_
  refine awp_seq (awp_to (st' := z956 vn1 vs5_1 va1_1) (oT [] []) ?_)
  refine bE hF fun va2_1 h15 hF => awp_sub (z958 vn1 vs5_1 va1_1 h15) ?_
  exact sR 2 (awp_ret (oF hF [] []))

/-! ### strings.Index -/
def z932 (qs : List UInt8) (qsubstr : List UInt8) (r : Int) : TV × Mem := (.i r, ⟨[], []⟩)

theorem z933 {qs : List UInt8} {qsubstr : List UInt8} {r} (hF : z925 qs qsubstr = some r) : Holds prog 317 [.c (.s qs), .c (.s qsubstr)] ⟨[], []⟩ (Is (z932 qs qsubstr r)) := by
  unfold z925 at hF
  refine hW f317 8 0 0 ?_
  refine sR 1 (awp_seq (bE hF fun vr h1 hF => awp_region (aR 2 (aC (z994 h1) [] [] [] (aR 1 (aE ?_))))))
  exact awp_ret (oF hF [] [])

/-! ### strings.Count -/
def z917 : Int → AEx
  | _ => .ret

def z916 (qsubstr : List UInt8) : Int → St
  | vx => Mem.st ⟨[], []⟩ (tl [(4, .i vx)]) 0

def z915 (qsubstr : List UInt8) : (List UInt8) × Int → St
  | (vs, vn) => Mem.st ⟨[], []⟩ (tl [(0, .c (.s vs)), (1, .c (.s qsubstr)), (5, .i vn)]) 0

theorem z918 (qsubstr : List UInt8) (s : (List UInt8) × Int) (r : ((List UInt8) × Int) ⊕ (Int)) (hF : z914 qsubstr s = some r) : Awp prog 0 34 (cL (cL (cR (cR (cR (cR (cB f316))))))) (Out 0 (kk z917) (SS (z915 qsubstr) (z916 qsubstr)) r) (z915 qsubstr s) := by
  obtain ⟨vs, vn⟩ := s
  unfold z914 at hF
  refine awp_block (awp_seq (bE hF fun vr1_1 h5 hF => awp_region (aR 2 (aC (z933 h5) [] [] [] (aR 1 (aE ?_))))))
  refine awp_seq (sR 2 (cE hF (fun h6 hF => ?_) fun h6 hF => ?_))
  · exact tT h6 (sR 2 (awp_ret (oO hF [] [] rfl)))
  · refine tF h6 (awp_skip (sR 3 (bE hF fun vs2 h7 hF => awp_region (aR 5 (aX (x_sliceS h7) (aR 1 (aE ?_)))))))
    exact oO hF [] [] rfl

def z912 (qs : List UInt8) (qsubstr : List UInt8) (r : Int) : TV × Mem := (.i r, ⟨[], []⟩)

theorem z913 {qs : List UInt8} {qsubstr : List UInt8} {r} (hF : z911 qs qsubstr = some r) : Holds prog 316 [.c (.s qs), .c (.s qsubstr)] ⟨[], []⟩ (Is (z912 qs qsubstr r)) := by
  unfold z911 at hF
  refine hW f316 34 0 0 ?_
  refine sR 1 (awp_seq (sR 3 (cE hF (fun h1 hF => ?_) fun h1 hF => ?_)))
  · refine tT h1 (awp_seq (bE hF fun vr h2 hF => awp_region (aR 1 (aC (z1263 h2) [] [] [] (aR 2 (aE ?_))))))
    exact awp_ret (oF hF [] [])
  · refine tF h1 (awp_skip (awp_seq (sR 3 (cE hF (fun h3 hF => ?_) fun h3 hF => ?_))))
    · refine tT h3 (awp_seq (bE hF fun vc h4 hF => awp_region (aR 2 (aX (x_idxS h4) (aS (does_count (g := 343) (fn := f343) (a := qs) (c := (vc.toNat : Int)) rfl (by kernel_rfl) (by kernel_rfl) (by kernel_rfl) (by kernel_rfl) (by kernel_rfl) (by kernel_rfl)) ?_)))))
      refine aR 1 (aE ?_)
      exact awp_ret (oF hF [] [])
    · refine tF h3 (awp_skip (sR 1 (awp_block (awp_to (st' := z915 qsubstr (qs, 0)) (oT [] []) ?_))))
      refine bE hF fun vx1 h8 hF => awp_sub (awp_loop' (z915 qsubstr) z917 (z916 qsubstr) (by intro x; exact fun h => nomatch h) h8 (z918 qsubstr)) ?_
      exact oF hF [] []

/-! ### strings.genSplit -/
def z964 (qx : List UInt8) (qx1 : List UInt8) (qx2 : Int) (qx3 : Int) : Int → St
  | vx => Mem.st ⟨[], []⟩ (tl [(0, .c (.s qx)), (1, .c (.s qx1)), (2, .i qx2), (3, .i vx)]) 0

def z963 (qx : List UInt8) (qx1 : List UInt8) (qx2 : Int) (qx3 : Int) : St := Mem.st ⟨[], []⟩ (tl [(0, .c (.s qx)), (1, .c (.s qx1)), (2, .i qx2), (3, .i qx3)]) 0

theorem z965 (qx : List UInt8) (qx1 : List UInt8) (qx2 : Int) (qx3 : Int) {r} (hF : z962 qx qx1 qx3 = some r) : Awp prog 0 66 (cL (cR (cR (cR (cB f274))))) (Out 0 nrm (z964 qx qx1 qx2 qx3) r) (z963 qx qx1 qx2 qx3) := by
  unfold z962 at hF
  refine sR 2 (cE hF (fun h4 hF => ?_) fun h4 hF => ?_)
  · refine tT h4 (bE hF fun vr2 h5 hF => awp_region (aR 2 (aC (z913 h5) [] [] [] (aR 2 (aE ?_)))))
    exact oO hF [] [] rfl
  · exact tF h4 (awp_skip (oO hF [] [] rfl))

def z969 : ((List UInt8) × (List (List UInt8)) × Int) → AEx
  | _ => .exit 0

def z968 (qx : List UInt8) (qx1 : List UInt8) (qx2 : Int) (vx1 : Int) : ((List UInt8) × (List (List UInt8)) × Int) → St
  | (vx5, vx6, vx7) => Mem.st ⟨[(0, ⟨9, 1, List.map encS vx6⟩)], []⟩ (tl [(0, .c (.s vx5)), (9, .c (.own 0 none)), (10, .i vx7)]) 1

def z967 (qx : List UInt8) (qx1 : List UInt8) (qx2 : Int) (vx1 : Int) : (List UInt8) × (List (List UInt8)) × Int → St
  | (vx2, vx3, vx4) => Mem.st ⟨[(0, ⟨9, 1, List.map encS vx3⟩)], []⟩ (tl [(0, .c (.s vx2)), (1, .c (.s qx1)), (2, .i qx2), (3, .i (IntKind.wrap .i64 ((imin vx1 (IntKind.wrap .i64 ((qx.length : Int) + 1))) - 1))), (9, .c (.own 0 none)), (10, .i vx4)]) 1

theorem z970 (qx : List UInt8) (qx1 : List UInt8) (qx2 : Int) (vx1 : Int) (s : (List UInt8) × (List (List UInt8)) × Int) (r : ((List UInt8) × (List (List UInt8)) × Int) ⊕ (((List UInt8) × (List (List UInt8)) × Int))) (hF : z966 qx qx1 qx2 vx1 s = some r) : Awp prog 0 66 (cL (cL (cL (cR (cR (cR (cR (cR (cR (cR (cR (cB f274)))))))))))) (Out 0 (kk z969) (SS (z967 qx qx1 qx2 vx1) (z968 qx qx1 qx2 vx1)) r) (z967 qx qx1 qx2 vx1 s) := by
  obtain ⟨vx2, vx3, vx4⟩ := s
  unfold z966 at hF
  refine awp_seq (sR 3 (cE hF (fun h8 hF => ?_) fun h8 hF => ?_))
  · refine tT h8 (awp_skip (awp_block (awp_seq (bE hF fun vr1_1 h9 hF => awp_region (aR 2 (aC (z933 h9) [] [] [] (aR 1 (aE ?_))))))))
    refine awp_seq (sR 2 (cE hF (fun h10 hF => ?_) fun h10 hF => ?_))
    · refine tT h10 (awp_exit ?_)
      exact oO hF [] [] rfl
    · refine tF h10 (awp_skip (awp_seq (bE hF fun vs2 h11 hF => bE hF fun vy1 h12 hF => awp_region (aR 6 (aX (x_sliceS h11) (aX (x_idxO encS 0 h12) (aX (x_stE encS vs2 h12) (aE ?_))))))))
      refine awp_seq (bE hF fun vs3 h13 hF => awp_region (aR 5 (aX (x_sliceS h13) (aR 1 (aE ?_)))))
      exact gR 3 (oO hF [] [] rfl)
  · refine tF h8 (awp_exit ?_)
    exact oO hF [] [] rfl

def z960 (qx : List UInt8) (qx1 : List UInt8) (qx2 : Int) (qx3 : Int) (r : (List (List UInt8))) : TV × Mem := (.c (.own 0 none), ⟨[(0, ⟨9, 1, List.map encS r⟩)], []⟩)

theorem z961 {qx : List UInt8} {qx1 : List UInt8} {qx2 : Int} {qx3 : Int} {r} (hF : z959 qx qx1 qx2 qx3 = some r) : Holds prog 274 [.c (.s qx), .c (.s qx1), .i qx2, .i qx3] ⟨[], []⟩ (Is (z960 qx qx1 qx2 qx3 r)) := by
  unfold z959 at hF
  refine hW f274 66 0 0 ?_
  refine sR 1 (awp_seq (sR 2 (cE hF (fun h1 hF => ?_) fun h1 hF => ?_)))
  · exact tT h1 (sR 1 (awp_ret (oF hF [] [0])))
  · refine tF h1 (awp_skip (awp_seq (sR 2 (cE hF (fun h2 hF => ?_) fun h2 hF => ?_))))
    · refine tT h2 (awp_seq (bE hF fun vr3 h3 hF => awp_region (aR 2 (aC (z941 h3) [] [] [] (aR 1 (aE ?_))))))
      exact awp_ret (oF hF [(0, 7000)] [])
    · refine tF h2 (awp_skip (awp_seq (awp_to (st' := z963 qx qx1 qx2 qx3) (oT [] []) ?_)))
      refine bE hF fun vx1 h6 hF => awp_sub (z965 qx qx1 qx2 qx3 h6) ?_
      refine sR 6 (awp_seq (gE hF fun h7 hF => ?_))
      refine awp_region (aR 1 (aX (x_mk encS ([] : List UInt8) h7) (aR 1 (aE ?_))))
      refine sR 3 (sR 1 (awp_seq (awp_block (awp_to (st' := z967 qx qx1 qx2 vx1 (qx, List.replicate (imin vx1 (IntKind.wrap .i64 ((qx.length : Int) + 1))).toNat ([] : List UInt8), 0)) (oT [(0, 7000)] []) ?_))))
      refine bE hF fun x h14 hF => ?_
      obtain ⟨vx5_1, vx6_1, vx7_1⟩ := x
      refine awp_sub (awp_loop' (z967 qx qx1 qx2 vx1) z969 (z968 qx qx1 qx2 vx1) (by intro x; exact fun h => nomatch h) h14 (z970 qx qx1 qx2 vx1)) ?_
      refine awp_seq (bE hF fun vy2 h15 hF => awp_region (aR 3 (aX (x_idxO encS 0 h15) (aX (x_stE encS vx5_1 h15) (aE ?_)))))
      refine awp_seq (gE hF fun h16 hF => ?_)
      refine awp_region (aR 3 (aT encS 0 h16 rfl ?_))
      refine aR 1 (aE ?_)
      exact awp_ret (oF hF [(0, 8001)] [])

/-! ### strings.Split -/
def z937 (qs : List UInt8) (qsep : List UInt8) (r : (List (List UInt8))) : TV × Mem := (.c (.own 0 none), ⟨[(0, ⟨9, 1, List.map encS r⟩)], []⟩)

theorem z938 {qs : List UInt8} {qsep : List UInt8} {r} (hF : z936 qs qsep = some r) : Holds prog 226 [.c (.s qs), .c (.s qsep)] ⟨[], []⟩ (Is (z937 qs qsep r)) := by
  unfold z936 at hF
  refine hW f226 8 0 0 ?_
  refine sR 1 (awp_seq (bE hF fun vr h1 hF => awp_region (aR 2 (aC (z961 h1) [] [] [] (aR 1 (aE ?_))))))
  exact awp_ret (oF hF [(0, 3000)] [])

/-! ### beaconfleet/fleetref2.PropName$1 -/
def z413 (qk : List UInt8) (r : Bool) : TV × Mem := (.b r, ⟨[], []⟩)

theorem z414 {qk : List UInt8} {r} (hF : z412 qk = some r) : Holds prog 227 [.c (.s qk)] ⟨[], []⟩ (Is (z413 qk r)) := by
  unfold z412 at hF
  refine hW f227 6 0 0 ?_
  refine sR 1 (awp_seq (bE hF fun vr3 h1 hF => awp_region (aR 1 (aC (z322 h1) [] [] [] (aR 2 (aE ?_))))))
  exact awp_ret (oF hF [] [])

/-! ### slices.IndexFunc[[]string,string] -/
def z735 : Unit ⊕ Int → AEx
  | .inl _ => .exit 0
  | .inr _ => .ret

def z734 (qs : List (List UInt8)) : Unit ⊕ Int → St
  | .inl _ => Mem.st ⟨[], []⟩ (tl []) 0
  | .inr vx1 => Mem.st ⟨[], []⟩ (tl [(4, .i vx1)]) 0

def z733 (qs : List (List UInt8)) : Int → St
  | vx => Mem.st ⟨[], []⟩ (tl [(0, .c (.l encS qs)), (1, .c (.fn 227 [])), (7, .i (qs.length : Int)), (8, .i vx)]) 0

theorem z736 (qs : List (List UInt8)) (vx : Int) (r : (Int) ⊕ (Unit ⊕ Int)) (hF : z732 qs vx = some r) : Awp prog 0 19 (cL (cL (cR (cL (cR (cB f213)))))) (Out 0 (kk z735) (SS (z733 qs) (z734 qs)) r) (z733 qs vx) := by
  unfold z732 at hF
  refine sR 1 (awp_seq (cE hF (fun h1 hF => ?_) fun h1 hF => ?_))
  · refine tT h1 (awp_skip (awp_seq (awp_block (sR 2 (awp_seq (bE hF fun vy1 h2 hF => bE hF fun vr1 h3 hF => awp_region (aR 3 (aX (x_idx encS h2) (aR 1 (aC (z414 h3) [] [] [] (aE ?_)))))))))))
    refine cE hF (fun h4 hF => ?_) fun h4 hF => ?_
    · exact tT h4 (sR 2 (awp_ret (oO hF [] [] rfl)))
    · exact tF h4 (awp_skip (gR 2 (oO hF [] [] rfl)))
  · refine tF h1 (awp_exit ?_)
    exact oO hF [] [] rfl

def z730 (qs : List (List UInt8)) (r : Int) : TV × Mem := (.i r, ⟨[], []⟩)

theorem z731 {qs : List (List UInt8)} {r} (hF : z729 qs = some r) : Holds prog 213 [.c (.l encS qs), .c (.fn 227 [])] ⟨[], []⟩ (Is (z730 qs r)) := by
  unfold z729 at hF
  refine hW f213 19 0 0 ?_
  refine sR 1 (awp_seq (awp_seq (awp_region (aR 1 (aL encS qs (aR 1 (aE ?_)))))))
  refine awp_block (awp_to (st' := z733 qs 0) (oT [] []) ?_)
  refine bE hF fun x h5 hF => ?_
  rcases x with _ | vx1_1
  · refine awp_sub (awp_loop' (z733 qs) z735 (z734 qs) (by intro x; rcases x with x | x <;> exact fun h => nomatch h) h5 (z736 qs)) ?_
    exact sR 1 (awp_ret (oF hF [] []))
  · refine awp_sub (awp_loop' (z733 qs) z735 (z734 qs) (by intro x; rcases x with x | x <;> exact fun h => nomatch h) h5 (z736 qs)) ?_
    exact oF hF [] []

/-! ### slices.ContainsFunc[[]string,string] -/
def z653 (qs : List (List UInt8)) (r : Bool) : TV × Mem := (.b r, ⟨[], []⟩)

theorem z654 {qs : List (List UInt8)} {r} (hF : z652 qs = some r) : Holds prog 121 [.c (.l encS qs), .c (.fn 227 [])] ⟨[], []⟩ (Is (z653 qs r)) := by
  unfold z652 at hF
  refine hW f121 9 0 0 ?_
  refine sR 1 (awp_seq (bE hF fun vr2 h1 hF => awp_region (aR 2 (aC (z731 h1) [] [] [] (aR 2 (aE ?_))))))
  exact awp_ret (oF hF [] [])

/-! ### beaconfleet/fleetref2.PropName -/
def z419 (vr1 : List (List UInt8)) : Bool → St
  | vx => Mem.st ⟨[], []⟩ (tl [(2, .b vx)]) 0

def z418 (vr1 : List (List UInt8)) : St := Mem.st ⟨[], []⟩ (tl [(3, .c (.l encS vr1))]) 0

theorem z420 (vr1 : List (List UInt8)) {r} (hF : z417 vr1 = some r) : Awp prog 0 14 (cL (cR (cR (cB f145)))) (Out 0 nrm (z419 vr1) r) (z418 vr1) := by
  unfold z417 at hF
  refine cE hF (fun h2 hF => ?_) fun h2 hF => ?_
  · refine bE hF fun vr h3 hF => awp_region (aR 1 (aL encS vr1 (aB h2 (aR 2 (aC (z654 h3) [] [] [] (aR 3 (aE ?_)))))))
    exact oO hF [] [] rfl
  · refine awp_region (aR 1 (aL encS vr1 (aB h2 (aR 6 (aE ?_)))))
    exact oO hF [] [] rfl

def z415 (qs : List UInt8) (r : Bool) : TV × Mem := (.b r, ⟨[], []⟩)

theorem z416 {qs : List UInt8} {r} (hF : z411 qs = some r) : Holds prog 145 [.c (.s qs)] ⟨[], []⟩ (Is (z415 qs r)) := by
  unfold z411 at hF
  refine hW f145 14 0 0 ?_
  refine sR 1 (awp_seq (bE hF fun vr1 h1 hF => awp_region (aR 1 (aC (z938 h1) [] [] [] (aR 1 (aE ?_))))))
  refine awp_to (oT (m := ⟨[], []⟩) (ts := [(3, .c (.l encS vr1))]) (nx := 0) [] []) ?_
  refine awp_seq (awp_to (st' := z418 vr1) (oT [] []) ?_)
  refine bE hF fun vx1 h4 hF => awp_sub (z420 vr1 h4) ?_
  exact awp_ret (oF hF [] [])

/-! ### beaconfleet/fleetref2.ValueFault -/
def z473 (qv : api_Value) : api_Value → St
  | vplain => Mem.st ⟨[], [(0, [.i qv.Kind, .t qv.Flag, .i qv.Number, .s qv.Words]), (1, [.i vplain.Kind, .t vplain.Flag, .i vplain.Number, .s vplain.Words])]⟩ (tl [(1, .c (.box 0 0)), (3, .c (.box 1 0))]) 2

def z472 (qv : api_Value) : St := Mem.st ⟨[], [(0, [.i qv.Kind, .t qv.Flag, .i qv.Number, .s qv.Words]), (1, [.i qv.Kind, .t false, .i 0, .s ([] : List UInt8)])]⟩ (tl [(1, .c (.box 0 0)), (3, .c (.box 1 0))]) 2

theorem z474 (qv : api_Value) {r} (hF : z471 qv = some r) : Awp prog 0 47 (cL (cR (cR (cR (cB f146))))) (Out 0 nrm (z473 qv) r) (z472 qv) := by
  unfold z471 at hF
  refine sR 2 (awp_block (sR 2 (cE hF (fun h3 hF => ?_) fun h3 hF => ?_)))
  · exact tT h3 (gR 4 (oO hF [] [] rfl))
  · refine tF h3 (sR 2 (cE hF (fun h4 hF => ?_) fun h4 hF => ?_))
    · exact tT h4 (gR 4 (oO hF [] [] rfl))
    · refine tF h4 (sR 2 (cE hF (fun h5 hF => ?_) fun h5 hF => ?_))
      · exact tT h5 (gR 4 (oO hF [] [] rfl))
      · exact tF h5 (awp_skip (oO hF [] [] rfl))

def z469 (qv : api_Value) (r : Int) : TV × Mem := (.i r, ⟨[], []⟩)

theorem z470 {qv : api_Value} {r} (hF : z468 qv = some r) : Holds prog 146 [.v (.agg [.i qv.Kind, .t qv.Flag, .i qv.Number, .s qv.Words])] ⟨[], []⟩ (Is (z469 qv r)) := by
  unfold z468 at hF
  refine hW f146 47 0 0 ?_
  refine sR 2 (awp_seq (awp_seq (bE hF fun vr h1 hF => awp_region (aR 2 (aC (z529 h1) [] [] [] (aR 1 (aE ?_)))))))
  refine cE hF (fun h2 hF => ?_) fun h2 hF => ?_
  · exact tT h2 (sR 1 (awp_ret (oF hF [] [])))
  · refine tF h2 (awp_skip (sR 5 (awp_seq (awp_to (st' := z472 qv) (oT [(1, 9000)] []) ?_))))
    refine bE hF fun vplain1 h6 hF => awp_sub (z474 qv h6) ?_
    refine awp_seq (awp_block (awp_seq (awp_region (aR 2 (aS (does_eqS (op := .neq) (xs := [.int .i64 vplain1.Kind, .bool vplain1.Flag, .int .i64 vplain1.Number, .str vplain1.Words]) (ys := [.int .i64 qv.Kind, .bool qv.Flag, .int .i64 qv.Number, .str qv.Words]) (b := (decide (vplain1.Kind = qv.Kind) && ((vplain1.Flag == qv.Flag) && (decide (vplain1.Number = qv.Number) && (decide (vplain1.Words = qv.Words) && true))))) (c := (!(decide (vplain1.Kind = qv.Kind) && ((vplain1.Flag == qv.Flag) && (decide (vplain1.Number = qv.Number) && (decide (vplain1.Words = qv.Words) && true)))))) rfl (.inr ⟨rfl, rfl⟩) (by kernel_rfl) (by kernel_rfl) (by kernel_rfl) (by kernel_rfl) (by kernel_rfl) (by kernel_rfl)) ?_)))))
    refine aR 1 (aE ?_)
    refine cE hF (fun h7 hF => ?_) fun h7 hF => ?_
    · exact tT h7 (sR 1 (awp_ret (oF hF [] [])))
    · refine tF h7 (awp_seq (bE hF fun vr1 h8 hF => awp_region (aR 2 (aC (z529 h8) [] [] [] (aR 2 (aE ?_))))))
      refine cE hF (fun h9 hF => ?_) fun h9 hF => ?_
      · exact tT h9 (sR 1 (awp_ret (oF hF [] [])))
      · refine tF h9 (sR 5 (cE hF (fun h10 hF => ?_) fun h10 hF => ?_))
        · exact tT h10 (sR 1 (awp_ret (oF hF [] [])))
        · refine tF h10 (awp_seq (bE hF fun vr2 h11 hF => awp_region (aR 2 (aC (z406 h11) [] [] [] (aR 2 (aE ?_))))))
          refine cE hF (fun h12 hF => ?_) fun h12 hF => ?_
          · exact tT h12 (sR 1 (awp_ret (oF hF [] [])))
          · exact tF h12 (awp_skip (sR 1 (awp_ret (oF hF [] []))))

/-! ### beaconfleet/fleetref2.StampFault -/
def z449 (qs : api_Stamp) (r : Int) : TV × Mem := (.i r, ⟨[], []⟩)

theorem z450 {qs : api_Stamp} {r} (hF : z448 qs = some r) : Holds prog 50 [.v (.agg [.i qs.At, .s qs.By, .i qs.No])] ⟨[], []⟩ (Is (z449 qs r)) := by
  unfold z448 at hF
  refine hW f50 18 0 0 ?_
  refine sR 2 (awp_seq (awp_block (awp_seq (bE hF fun vr1 h1 hF => awp_region (aR 2 (aC (z352 h1) [] [] [] (aR 2 (aE ?_))))))))
  refine cE hF (fun h2 hF => ?_) fun h2 hF => ?_
  · exact tT h2 (sR 1 (awp_ret (oF hF [] [])))
  · refine tF h2 (awp_seq (bE hF fun vr3 h3 hF => awp_region (aR 2 (aC (z322 h3) [] [] [] (aR 2 (aE ?_))))))
    refine cE hF (fun h4 hF => ?_) fun h4 hF => ?_
    · exact tT h4 (sR 1 (awp_ret (oF hF [] [])))
    · refine tF h4 (awp_seq (bE hF fun vr h5 hF => awp_region (aR 2 (aC (z529 h5) [] [] [] (aR 2 (aE ?_))))))
      refine cE hF (fun h6 hF => ?_) fun h6 hF => ?_
      · exact tT h6 (sR 1 (awp_ret (oF hF [] [])))
      · exact tF h6 (awp_skip (sR 1 (awp_ret (oF hF [] []))))

/-! ### beaconfleet/fleetref2.CellsFault -/
def z284 : Unit ⊕ Int → AEx
  | .inl _ => .exit 2
  | .inr _ => .ret

def z283 (ql : List api_Cell) (vx : Int) (vy4 : api_Cell) (vr3_1 : Int) (vr2_3 : Int) : Unit ⊕ Int → St
  | .inl _ => Mem.st ⟨[], [(0, [.s vy4.Prop_.Name, .i vy4.Prop_.Value.Kind, .t vy4.Prop_.Value.Flag, .i vy4.Prop_.Value.Number, .s vy4.Prop_.Value.Words, .i vy4.Stamp.At, .s vy4.Stamp.By, .i vy4.Stamp.No])]⟩ (tl [(0, .c (.l api_Cell.enc ql)), (3, .i vx), (4, .c (.box 0 0)), (10, .c (.l api_Cell.enc ql)), (11, .i (ql.length : Int)), (12, .i vx)]) 1
  | .inr vx5 => Mem.st ⟨[], []⟩ (tl [(2, .i vx5)]) 0

def z282 (ql : List api_Cell) (vx : Int) (vy4 : api_Cell) (vr3_1 : Int) (vr2_3 : Int) : Int → St
  | vx4 => Mem.st ⟨[], [(0, [.s vy4.Prop_.Name, .i vy4.Prop_.Value.Kind, .t vy4.Prop_.Value.Flag, .i vy4.Prop_.Value.Number, .s vy4.Prop_.Value.Words, .i vy4.Stamp.At, .s vy4.Stamp.By, .i vy4.Stamp.No])]⟩ (tl [(0, .c (.l api_Cell.enc ql)), (3, .i vx), (4, .c (.box 0 0)), (10, .c (.l api_Cell.enc ql)), (11, .i (ql.length : Int)), (12, .i vx), (29, .c (.l (encI .i64) ([vr3_1, vr2_3] : List Int))), (30, .i (([vr3_1, vr2_3] : List Int).length : Int)), (31, .i vx4)]) 1

theorem z285 (ql : List api_Cell) (vx : Int) (vy4 : api_Cell) (vr3_1 : Int) (vr2_3 : Int) (vx4 : Int) (r : (Int) ⊕ (Unit ⊕ Int)) (hF : z281 vr3_1 vr2_3 vx4 = some r) : Awp prog 0 55 (cL (cL (cR (cL (cR (cR (cL (cL (cR (cR (cL (cL (cR (cL (cR (cR (cB f126))))))))))))))))) (Out 0 (kk z284) (SS (z282 ql vx vy4 vr3_1 vr2_3) (z283 ql vx vy4 vr3_1 vr2_3)) r) (z282 ql vx vy4 vr3_1 vr2_3 vx4) := by
  unfold z281 at hF
  refine sR 1 (awp_seq (cE hF (fun h8 hF => ?_) fun h8 hF => ?_))
  · refine tT h8 (awp_skip (awp_seq (awp_block (awp_seq (bE hF fun vy6 h9 hF => awp_region (aX (x_idx (encI .i64) h9) (aR 2 (aE ?_))))))))
    refine sR 2 (cE hF (fun h10 hF => ?_) fun h10 hF => ?_)
    · exact tT h10 (sR 2 (awp_ret (oO hF [] [] rfl)))
    · exact tF h10 (awp_skip (gR 2 (oO hF [] [] rfl)))
  · refine tF h8 (awp_exit ?_)
    exact oO hF [] [] rfl

def z288 (ql : List api_Cell) (vx : Int) (vy4 : api_Cell) : Bool → St
  | vx6 => Mem.st ⟨[], []⟩ (tl [(0, .c (.l api_Cell.enc ql)), (10, .c (.l api_Cell.enc ql)), (11, .i (ql.length : Int)), (12, .i vx), (53, .b vx6)]) 0

def z287 (ql : List api_Cell) (vx : Int) (vy4 : api_Cell) : St := Mem.st ⟨[], [(0, [.s vy4.Prop_.Name, .i vy4.Prop_.Value.Kind, .t vy4.Prop_.Value.Flag, .i vy4.Prop_.Value.Number, .s vy4.Prop_.Value.Words, .i vy4.Stamp.At, .s vy4.Stamp.By, .i vy4.Stamp.No])]⟩ (tl [(0, .c (.l api_Cell.enc ql)), (3, .i vx), (4, .c (.box 0 0)), (10, .c (.l api_Cell.enc ql)), (11, .i (ql.length : Int)), (12, .i vx)]) 1

theorem z289 (ql : List api_Cell) (vx : Int) (vy4 : api_Cell) {r} (hF : z286 ql vx vy4 = some r) : Awp prog 0 55 (cL (cR (cR (cR (cL (cL (cR (cR (cL (cL (cR (cL (cR (cR (cB f126))))))))))))))) (Out 0 nrm (z288 ql vx vy4) r) (z287 ql vx vy4) := by
  unfold z286 at hF
  refine cE hF (fun h12 hF => ?_) fun h12 hF => ?_
  · refine bE hF fun vy7 h13 hF => aD ?_
    refine dR 1 ?_
    refine dB h12 ?_
    refine dR 7 ?_
    refine dX (x_idx api_Cell.enc h13) ?_
    refine dR 5 ?_
    refine dE ?_
    exact oO hF [] [] rfl
  · refine aD ?_
    refine dR 1 ?_
    refine dB h12 ?_
    refine dR 13 ?_
    refine dE ?_
    exact oO hF [] [] rfl

def z279 : Unit ⊕ Int → AEx
  | .inl _ => .exit 0
  | .inr _ => .ret

def z278 (ql : List api_Cell) : Unit ⊕ Int → St
  | .inl _ => Mem.st ⟨[], []⟩ (tl []) 0
  | .inr vx7 => Mem.st ⟨[], []⟩ (tl [(2, .i vx7)]) 0

def z277 (ql : List api_Cell) : Int → St
  | vx => Mem.st ⟨[], []⟩ (tl [(0, .c (.l api_Cell.enc ql)), (10, .c (.l api_Cell.enc ql)), (11, .i (ql.length : Int)), (12, .i vx)]) 0

theorem z280 (ql : List api_Cell) (vx : Int) (r : (Int) ⊕ (Unit ⊕ Int)) (hF : z276 ql vx = some r) : Awp prog 0 55 (cL (cL (cR (cL (cR (cR (cB f126))))))) (Out 0 (kk z279) (SS (z277 ql) (z278 ql)) r) (z277 ql vx) := by
  unfold z276 at hF
  refine sR 1 (awp_seq (cE hF (fun h2 hF => ?_) fun h2 hF => ?_))
  · refine tT h2 (awp_skip (awp_seq (awp_block (awp_seq (bE hF fun vy4 h3 hF => awp_region (aR 1 (aX (x_idx api_Cell.enc h3) (aR 4 (aE ?_)))))))))
    refine awp_seq (awp_seq (bE hF fun vr2_2 h4 hF => awp_region (aR 3 (aC (z416 h4) [] [] [] (aR 1 (aE ?_))))))
    refine cE hF (fun h5 hF => ?_) fun h5 hF => ?_
    · exact tT h5 (sR 1 (awp_ret (oO hF [] [] rfl)))
    · refine tF h5 (awp_skip (awp_seq (awp_seq (bE hF fun vr3_1 h6 hF => bE hF fun vr2_3 h7 hF => aD ?_))))
      refine dR 3 ?_
      refine dC (z470 h6) [] [] [] ?_
      refine dR 2 ?_
      refine dC (z450 h7) [] [] [] ?_
      refine dR 1 ?_
      refine dL (encI .i64) ([vr3_1, vr2_3] : List Int) ?_
      refine dR 1 ?_
      refine dE ?_
      refine awp_to (oT (m := ⟨[], [(0, [.s vy4.Prop_.Name, .i vy4.Prop_.Value.Kind, .t vy4.Prop_.Value.Flag, .i vy4.Prop_.Value.Number, .s vy4.Prop_.Value.Words, .i vy4.Stamp.At, .s vy4.Stamp.By, .i vy4.Stamp.No])]⟩) (ts := [(0, .c (.l api_Cell.enc ql)), (3, .i vx), (4, .c (.box 0 0)), (10, .c (.l api_Cell.enc ql)), (11, .i (ql.length : Int)), (12, .i vx), (29, .c (.l (encI .i64) ([vr3_1, vr2_3] : List Int))), (30, .i (([vr3_1, vr2_3] : List Int).length : Int)), (31, .i 0)]) (nx := 1) [(0, 4000)] []) ?_
      refine awp_block (awp_to (st' := z282 ql vx vy4 vr3_1 vr2_3 0) (oT [] []) ?_)
      refine bE hF fun x h11 hF => ?_
      rcases x with _ | vx5_1
      · refine awp_sub (awp_loop' (z282 ql vx vy4 vr3_1 vr2_3) z284 (z283 ql vx vy4 vr3_1 vr2_3) (by intro x; rcases x with x | x <;> exact fun h => nomatch h) h11 (z285 ql vx vy4 vr3_1 vr2_3)) ?_
        refine awp_seq (awp_to (st' := z287 ql vx vy4) (oT [] []) ?_)
        refine bE hF fun vx6_1 h14 hF => awp_sub (z289 ql vx vy4 h14) ?_
        refine cE hF (fun h15 hF => ?_) fun h15 hF => ?_
        · exact tT h15 (sR 1 (awp_ret (oO hF [] [] rfl)))
        · exact tF h15 (awp_skip (gR 2 (oO hF [] [] rfl)))
      · refine awp_sub (awp_loop' (z282 ql vx vy4 vr3_1 vr2_3) z284 (z283 ql vx vy4 vr3_1 vr2_3) (by intro x; rcases x with x | x <;> exact fun h => nomatch h) h11 (z285 ql vx vy4 vr3_1 vr2_3)) ?_
        exact oO hF [] [] rfl
  · refine tF h2 (awp_exit ?_)
    exact oO hF [] [] rfl

def z274 (ql : List api_Cell) (r : Int) : TV × Mem := (.i r, ⟨[], []⟩)

theorem z275 {ql : List api_Cell} {r} (hF : z273 ql = some r) : Holds prog 126 [.c (.l api_Cell.enc ql)] ⟨[], []⟩ (Is (z274 ql r)) := by
  unfold z273 at hF
  refine hW f126 55 0 0 ?_
  refine sR 1 (awp_seq (awp_seq (awp_region (aR 1 (aL api_Cell.enc ql (aR 1 (aE ?_)))))))
  refine cE hF (fun h1 hF => ?_) fun h1 hF => ?_
  · exact tT h1 (sR 1 (awp_ret (oF hF [] [])))
  · refine tF h1 (awp_skip (awp_seq (awp_seq (awp_region (aR 1 (aL api_Cell.enc ql (aR 1 (aE ?_))))))))
    refine awp_block (awp_to (st' := z277 ql 0) (oT [] []) ?_)
    refine bE hF fun x h16 hF => ?_
    rcases x with _ | vx7_1
    · refine awp_sub (awp_loop' (z277 ql) z279 (z278 ql) (by intro x; rcases x with x | x <;> exact fun h => nomatch h) h16 (z280 ql)) ?_
      exact sR 1 (awp_ret (oF hF [] []))
    · refine awp_sub (awp_loop' (z277 ql) z279 (z278 ql) (by intro x; rcases x with x | x <;> exact fun h => nomatch h) h16 (z280 ql)) ?_
      exact oF hF [] []

/-! ### beaconfleet/fleetref2.TwinFault -/
def z466 (qt : api_Twin) (r : Int) : TV × Mem := (.i r, ⟨[], []⟩)

theorem z467 {qt : api_Twin} {r} (hF : z465 qt = some r) : Holds prog 43 [.v (.agg [.l api_Cell.enc qt.Desired, .l api_Cell.enc qt.Reported])] ⟨[], []⟩ (Is (z466 qt r)) := by
  unfold z465 at hF
  refine hW f43 13 0 0 ?_
  refine sR 2 (awp_seq (awp_seq (bE hF fun vr h1 hF => awp_region (aR 2 (aC (z275 h1) [] [] [] (aR 1 (aE ?_)))))))
  refine sR 2 (cE hF (fun h2 hF => ?_) fun h2 hF => ?_)
  · exact tT h2 (sR 2 (awp_ret (oF hF [] [])))
  · refine tF h2 (awp_skip (awp_seq (bE hF fun vr1 h3 hF => awp_region (aR 2 (aC (z275 h3) [] [] [] (aR 1 (aE ?_)))))))
    exact awp_ret (oF hF [] [])

/-! ### beaconfleet/fleetref2.valued -/
def z559 (qc : api_Cell) (r : Unit) : TV × Mem := (.b (!decide (qc.Prop_.Value.Kind = 0)), ⟨[], []⟩)

theorem z560 {qc : api_Cell} {r} (hF : z558 qc = some r) : Holds prog 128 [.v (.agg [.s qc.Prop_.Name, .i qc.Prop_.Value.Kind, .t qc.Prop_.Value.Flag, .i qc.Prop_.Value.Number, .s qc.Prop_.Value.Words, .i qc.Stamp.At, .s qc.Stamp.By, .i qc.Stamp.No])] ⟨[], []⟩ (Is (z559 qc r)) := by
  unfold z558 at hF
  refine hW f128 8 0 0 ?_
  exact sR 2 (sR 6 (awp_ret (oF hF [] [])))

/-! ### beaconfleet/fleetref2.StampOrder -/
def z452 (qa : api_Stamp) (qb : api_Stamp) (r : Int) : TV × Mem := (.i r, ⟨[], []⟩)

theorem z453 {qa : api_Stamp} {qb : api_Stamp} {r} (hF : z451 qa qb = some r) : Holds prog 148 [.v (.agg [.i qa.At, .s qa.By, .i qa.No]), .v (.agg [.i qb.At, .s qb.By, .i qb.No])] ⟨[], []⟩ (Is (z452 qa qb r)) := by
  unfold z451 at hF
  refine hW f148 34 0 0 ?_
  refine sR 3 (awp_seq (awp_block (sR 6 (cE hF (fun h1 hF => ?_) fun h1 hF => ?_))))
  · refine tT h1 (awp_seq (bE hF fun vr h2 hF => awp_region (aR 5 (aC (z557 h2) [] [] [] (aR 1 (aE ?_))))))
    exact awp_ret (oF hF [] [])
  · refine tF h1 (sR 6 (cE hF (fun h3 hF => ?_) fun h3 hF => ?_))
    · refine tT h3 (awp_seq (bE hF fun _ h4 hF => awp_region (aR 4 (aC (z907 h4) [] [] [] (aR 1 (aE ?_))))))
      exact awp_ret (oF hF [] [])
    · refine tF h3 (awp_skip (awp_seq (bE hF fun vr1 h5 hF => awp_region (aR 5 (aC (z557 h5) [] [] [] (aR 1 (aE ?_)))))))
      exact awp_ret (oF hF [] [])

/-! ### internal/stringslite.HasPrefix -/
def z987 (qs : List UInt8) (qprefix : List UInt8) : Bool → St
  | vx => Mem.st ⟨[], []⟩ (tl [(4, .b vx)]) 0

def z986 (qs : List UInt8) (qprefix : List UInt8) : St := Mem.st ⟨[], []⟩ (tl [(0, .c (.s qs)), (1, .c (.s qprefix))]) 0

theorem z988 (qs : List UInt8) (qprefix : List UInt8) {r} (hF : z985 qs qprefix = some r) : Awp prog 0 18 (cL (cR (cB f242))) (Out 0 nrm (z987 qs qprefix) r) (z986 qs qprefix) := by
  unfold z985 at hF
  refine cE hF (fun h1 hF => ?_) fun h1 hF => ?_
  · refine bE hF fun vs h2 hF => awp_region (aR 4 (aB h1 (aR 4 (aX (x_sliceS h2) (aR 4 (aE ?_))))))
    exact oO hF [] [] rfl
  · refine awp_region (aR 4 (aB h1 (aR 9 (aE ?_))))
    exact oO hF [] [] rfl

def z983 (qs : List UInt8) (qprefix : List UInt8) (r : Bool) : TV × Mem := (.b r, ⟨[], []⟩)

theorem z984 {qs : List UInt8} {qprefix : List UInt8} {r} (hF : z982 qs qprefix = some r) : Holds prog 242 [.c (.s qs), .c (.s qprefix)] ⟨[], []⟩ (Is (z983 qs qprefix r)) := by
  unfold z982 at hF
  refine hW f242 18 0 0 ?_
  refine sR 1 (awp_seq (awp_to (st' := z986 qs qprefix) (oT [] []) ?_))
  refine bE hF fun vx1 h3 hF => awp_sub (z988 qs qprefix h3) ?_
  exact awp_ret (oF hF [] [])

/-! ### strings.HasPrefix -/
def z923 (qs : List UInt8) (qprefix : List UInt8) (r : Bool) : TV × Mem := (.b r, ⟨[], []⟩)

theorem z924 {qs : List UInt8} {qprefix : List UInt8} {r} (hF : z922 qs qprefix = some r) : Holds prog 164 [.c (.s qs), .c (.s qprefix)] ⟨[], []⟩ (Is (z923 qs qprefix r)) := by
  unfold z922 at hF
  refine hW f164 8 0 0 ?_
  refine sR 1 (awp_seq (bE hF fun vr h1 hF => awp_region (aR 2 (aC (z984 h1) [] [] [] (aR 1 (aE ?_))))))
  exact awp_ret (oF hF [] [])

/-! ### beaconfleet/fleetref2.above -/
def z508 (qa : List UInt8) (qb : List UInt8) (r : Bool) : TV × Mem := (.b r, ⟨[], []⟩)

theorem z509 {qa : List UInt8} {qb : List UInt8} {r} (hF : z507 qa qb = some r) : Holds prog 130 [.c (.s qa), .c (.s qb)] ⟨[], []⟩ (Is (z508 qa qb r)) := by
  unfold z507 at hF
  refine hW f130 9 0 0 ?_
  refine sR 1 (awp_seq (gE hF fun h1 hF => ?_))
  refine bE hF fun vr1 h2 hF => awp_region (aR 2 (aX (x_cat h1) (aC (z924 h2) [] [] [] (aR 1 (aE ?_)))))
  exact awp_ret (oF hF [] [])

/-! ### beaconfleet/fleetref2.hides -/
def z521 (qa : api_Cell) (qb : api_Cell) (vr2 : Int) : Bool → St
  | vx => Mem.st ⟨[], []⟩ (tl [(4, .b vx)]) 0

def z520 (qa : api_Cell) (qb : api_Cell) (vr2 : Int) : St := Mem.st ⟨[], [(0, [.s qa.Prop_.Name, .i qa.Prop_.Value.Kind, .t qa.Prop_.Value.Flag, .i qa.Prop_.Value.Number, .s qa.Prop_.Value.Words, .i qa.Stamp.At, .s qa.Stamp.By, .i qa.Stamp.No]), (1, [.s qb.Prop_.Name, .i qb.Prop_.Value.Kind, .t qb.Prop_.Value.Flag, .i qb.Prop_.Value.Number, .s qb.Prop_.Value.Words, .i qb.Stamp.At, .s qb.Stamp.By, .i qb.Stamp.No])]⟩ (tl [(2, .c (.box 0 0)), (3, .c (.box 1 0)), (5, .i vr2)]) 2

theorem z522 (qa : api_Cell) (qb : api_Cell) (vr2 : Int) {r} (hF : z519 qa qb vr2 = some r) : Awp prog 0 47 (cL (cL (cR (cL (cL (cR (cR (cB f216)))))))) (Out 0 nrm (z521 qa qb vr2) r) (z520 qa qb vr2) := by
  unfold z519 at hF
  refine cE hF (fun h4 hF => ?_) fun h4 hF => ?_
  · refine awp_region (aR 1 (aB h4 (aR 13 (aE ?_))))
    exact oO hF [] [] rfl
  · refine cE hF (fun h5 hF => ?_) fun h5 hF => ?_
    · refine bE hF fun _ h6 hF => cE hF (fun h7 hF => ?_) fun h7 hF => ?_
      · refine bE hF fun _ h8 hF => awp_region (aR 1 (aB h4 (aR 2 (aB h5 (aR 2 (aCb (z560 h6) [] [] [] h7 ?_))))))
        refine aR 3 (aC (z560 h8) [] [] [] (aR 3 (aE ?_)))
        exact oO hF [] [] rfl
      · refine awp_region (aR 1 (aB h4 (aR 2 (aB h5 (aR 2 (aCb (z560 h6) [] [] [] h7 ?_))))))
        refine aR 7 (aE ?_)
        exact oO hF [] [] rfl
    · refine awp_region (aR 1 (aB h4 (aR 2 (aB h5 (aR 10 (aE ?_))))))
      exact oO hF [] [] rfl

def z525 (qb : api_Cell) (vr2 : Int) : Bool → St
  | vx2 => Mem.st ⟨[], []⟩ (tl [(4, .b vx2)]) 0

def z524 (qb : api_Cell) (vr2 : Int) : St := Mem.st ⟨[], [(0, [.s qb.Prop_.Name, .i qb.Prop_.Value.Kind, .t qb.Prop_.Value.Flag, .i qb.Prop_.Value.Number, .s qb.Prop_.Value.Words, .i qb.Stamp.At, .s qb.Stamp.By, .i qb.Stamp.No])]⟩ (tl [(3, .c (.box 0 0)), (5, .i vr2)]) 1

theorem z526 (qb : api_Cell) (vr2 : Int) {r} (hF : z523 qb vr2 = some r) : Awp prog 0 47 (cL (cL (cR (cR (cR (cL (cL (cR (cR (cB f216)))))))))) (Out 0 nrm (z525 qb vr2) r) (z524 qb vr2) := by
  unfold z523 at hF
  refine cE hF (fun h12 hF => ?_) fun h12 hF => ?_
  · refine bE hF fun _ h13 hF => awp_region (aR 1 (aB h12 (aR 2 (aC (z560 h13) [] [] [] (aR 2 (aE ?_))))))
    exact oO hF [] [] rfl
  · refine awp_region (aR 1 (aB h12 (aR 5 (aE ?_))))
    exact oO hF [] [] rfl

def z517 (qa : api_Cell) (qb : api_Cell) (r : Bool) : TV × Mem := (.b r, ⟨[], []⟩)

theorem z518 {qa : api_Cell} {qb : api_Cell} {r} (hF : z516 qa qb = some r) : Holds prog 216 [.v (.agg [.s qa.Prop_.Name, .i qa.Prop_.Value.Kind, .t qa.Prop_.Value.Flag, .i qa.Prop_.Value.Number, .s qa.Prop_.Value.Words, .i qa.Stamp.At, .s qa.Stamp.By, .i qa.Stamp.No]), .v (.agg [.s qb.Prop_.Name, .i qb.Prop_.Value.Kind, .t qb.Prop_.Value.Flag, .i qb.Prop_.Value.Number, .s qb.Prop_.Value.Words, .i qb.Stamp.At, .s qb.Stamp.By, .i qb.Stamp.No])] ⟨[], []⟩ (Is (z517 qa qb r)) := by
  unfold z516 at hF
  refine hW f216 47 0 0 ?_
  refine sR 3 (awp_seq (bE hF fun vr2 h1 hF => awp_region (aR 4 (aC (z453 h1) [] [] [] (aR 1 (aE ?_))))))
  refine awp_seq (awp_block (awp_seq (bE hF fun vr h2 hF => awp_region (aR 6 (aC (z509 h2) [] [] [] (aR 1 (aE ?_)))))))
  refine cE hF (fun h3 hF => ?_) fun h3 hF => ?_
  · refine tT h3 (awp_seq (awp_to (st' := z520 qa qb vr2) (oT [(1, 1000)] []) ?_))
    refine bE hF fun vx1 h9 hF => awp_sub (z522 qa qb vr2 h9) ?_
    exact awp_ret (oF hF [] [])
  · refine tF h3 (awp_seq (bE hF fun vr1 h10 hF => awp_region (aR 6 (aC (z509 h10) [] [] [] (aR 1 (aE ?_))))))
    refine cE hF (fun h11 hF => ?_) fun h11 hF => ?_
    · refine tT h11 (awp_seq (awp_to (st' := z524 qb vr2) (oT [(0, 1000)] []) ?_))
      refine bE hF fun vx2_1 h14 hF => awp_sub (z526 qb vr2 h14) ?_
      exact awp_ret (oF hF [] [])
    · exact tF h11 (awp_skip (sR 1 (awp_ret (oF hF [] []))))

/-! ### beaconfleet/fleetref2.hidden$1 -/
def z512 (qo : api_Cell) (qx : api_Cell) (r : Bool) : TV × Mem := (.b r, ⟨[], [(0, [.s qx.Prop_.Name, .i qx.Prop_.Value.Kind, .t qx.Prop_.Value.Flag, .i qx.Prop_.Value.Number, .s qx.Prop_.Value.Words, .i qx.Stamp.At, .s qx.Stamp.By, .i qx.Stamp.No])]⟩)

theorem z513 {qo : api_Cell} {qx : api_Cell} {r} (hF : z511 qo qx = some r) : Holds prog 215 [.v (.agg [.s qo.Prop_.Name, .i qo.Prop_.Value.Kind, .t qo.Prop_.Value.Flag, .i qo.Prop_.Value.Number, .s qo.Prop_.Value.Words, .i qo.Stamp.At, .s qo.Stamp.By, .i qo.Stamp.No]), .c (.box 0 0)] ⟨[], [(0, [.s qx.Prop_.Name, .i qx.Prop_.Value.Kind, .t qx.Prop_.Value.Flag, .i qx.Prop_.Value.Number, .s qx.Prop_.Value.Words, .i qx.Stamp.At, .s qx.Stamp.By, .i qx.Stamp.No])]⟩ (Is (z512 qo qx r)) := by
  unfold z511 at hF
  refine hW f215 7 1 1 ?_
  refine sR 2 (awp_seq (bE hF fun vr3 h1 hF => awp_region (aR 2 (aC (z518 h1) [] [] [] (aR 1 (aE ?_))))))
  exact awp_ret (oF hF [] [])

/-! ### slices.IndexFunc[[]beaconfleet/api.Cell,beaconfleet/api.Cell] -/
def z695 : Unit ⊕ Int → AEx
  | .inl _ => .exit 0
  | .inr _ => .ret

def z694 (qs : List api_Cell) (qf : api_Cell) : Unit ⊕ Int → St
  | .inl _ => Mem.st ⟨[], [(0, [.s qf.Prop_.Name, .i qf.Prop_.Value.Kind, .t qf.Prop_.Value.Flag, .i qf.Prop_.Value.Number, .s qf.Prop_.Value.Words, .i qf.Stamp.At, .s qf.Stamp.By, .i qf.Stamp.No])]⟩ (tl []) 1
  | .inr vx1 => Mem.st ⟨[], [(0, [.s qf.Prop_.Name, .i qf.Prop_.Value.Kind, .t qf.Prop_.Value.Flag, .i qf.Prop_.Value.Number, .s qf.Prop_.Value.Words, .i qf.Stamp.At, .s qf.Stamp.By, .i qf.Stamp.No])]⟩ (tl [(4, .i vx1)]) 1

def z693 (qs : List api_Cell) (qf : api_Cell) : Int → St
  | vx => Mem.st ⟨[], [(0, [.s qf.Prop_.Name, .i qf.Prop_.Value.Kind, .t qf.Prop_.Value.Flag, .i qf.Prop_.Value.Number, .s qf.Prop_.Value.Words, .i qf.Stamp.At, .s qf.Stamp.By, .i qf.Stamp.No])]⟩ (tl [(0, .c (.l api_Cell.enc qs)), (1, .c (.fn 215 [0])), (7, .i (qs.length : Int)), (8, .i vx)]) 1

theorem z696 (qs : List api_Cell) (qf : api_Cell) (vx : Int) (r : (Int) ⊕ (Unit ⊕ Int)) (hF : z692 qs qf vx = some r) : Awp prog 1 19 (cL (cL (cR (cL (cR (cB f224)))))) (Out 1 (kk z695) (SS (z693 qs qf) (z694 qs qf)) r) (z693 qs qf vx) := by
  unfold z692 at hF
  refine sR 1 (awp_seq (cE hF (fun h1 hF => ?_) fun h1 hF => ?_))
  · refine tT h1 (awp_skip (awp_seq (awp_block (sR 2 (awp_seq (bE hF fun vy1 h2 hF => bE hF fun vr1 h3 hF => awp_region (aR 3 (aX (x_idx api_Cell.enc h2) (aR 1 (aC (z513 h3) [] [] [] (aE ?_)))))))))))
    refine cE hF (fun h4 hF => ?_) fun h4 hF => ?_
    · exact tT h4 (sR 2 (awp_ret (oO hF [] [] rfl)))
    · exact tF h4 (awp_skip (gR 2 (oO hF [] [] rfl)))
  · refine tF h1 (awp_exit ?_)
    exact oO hF [] [] rfl

def z690 (qs : List api_Cell) (qf : api_Cell) (r : Int) : TV × Mem := (.i r, ⟨[], [(0, [.s qf.Prop_.Name, .i qf.Prop_.Value.Kind, .t qf.Prop_.Value.Flag, .i qf.Prop_.Value.Number, .s qf.Prop_.Value.Words, .i qf.Stamp.At, .s qf.Stamp.By, .i qf.Stamp.No])]⟩)

theorem z691 {qs : List api_Cell} {qf : api_Cell} {r} (hF : z689 qs qf = some r) : Holds prog 224 [.c (.l api_Cell.enc qs), .c (.fn 215 [0])] ⟨[], [(0, [.s qf.Prop_.Name, .i qf.Prop_.Value.Kind, .t qf.Prop_.Value.Flag, .i qf.Prop_.Value.Number, .s qf.Prop_.Value.Words, .i qf.Stamp.At, .s qf.Stamp.By, .i qf.Stamp.No])]⟩ (Is (z690 qs qf r)) := by
  unfold z689 at hF
  refine hW f224 19 1 1 ?_
  refine sR 1 (awp_seq (awp_seq (awp_region (aR 1 (aL api_Cell.enc qs (aR 1 (aE ?_)))))))
  refine awp_block (awp_to (st' := z693 qs qf 0) (oT [] []) ?_)
  refine bE hF fun x h5 hF => ?_
  rcases x with _ | vx1_1
  · refine awp_sub (awp_loop' (z693 qs qf) z695 (z694 qs qf) (by intro x; rcases x with x | x <;> exact fun h => nomatch h) h5 (z696 qs qf)) ?_
    exact sR 1 (awp_ret (oF hF [] []))
  · refine awp_sub (awp_loop' (z693 qs qf) z695 (z694 qs qf) (by intro x; rcases x with x | x <;> exact fun h => nomatch h) h5 (z696 qs qf)) ?_
    exact oF hF [] []

/-! ### slices.ContainsFunc[[]beaconfleet/api.Cell,beaconfleet/api.Cell] -/
def z638 (qs : List api_Cell) (qf : api_Cell) (r : Bool) : TV × Mem := (.b r, ⟨[], [(0, [.s qf.Prop_.Name, .i qf.Prop_.Value.Kind, .t qf.Prop_.Value.Flag, .i qf.Prop_.Value.Number, .s qf.Prop_.Value.Words, .i qf.Stamp.At, .s qf.Stamp.By, .i qf.Stamp.No])]⟩)

theorem z639 {qs : List api_Cell} {qf : api_Cell} {r} (hF : z637 qs qf = some r) : Holds prog 140 [.c (.l api_Cell.enc qs), .c (.fn 215 [0])] ⟨[], [(0, [.s qf.Prop_.Name, .i qf.Prop_.Value.Kind, .t qf.Prop_.Value.Flag, .i qf.Prop_.Value.Number, .s qf.Prop_.Value.Words, .i qf.Stamp.At, .s qf.Stamp.By, .i qf.Stamp.No])]⟩ (Is (z638 qs qf r)) := by
  unfold z637 at hF
  refine hW f140 9 1 1 ?_
  refine sR 1 (awp_seq (bE hF fun vr2 h1 hF => awp_region (aR 2 (aC (z691 h1) [] [] [] (aR 2 (aE ?_))))))
  exact awp_ret (oF hF [] [])

/-! ### beaconfleet/fleetref2.hidden -/
def z514 (ql : List api_Cell) (qc : api_Cell) (r : Bool) : TV × Mem := (.b r, ⟨[], []⟩)

theorem z515 {ql : List api_Cell} {qc : api_Cell} {r} (hF : z510 ql qc = some r) : Holds prog 129 [.c (.l api_Cell.enc ql), .v (.agg [.s qc.Prop_.Name, .i qc.Prop_.Value.Kind, .t qc.Prop_.Value.Flag, .i qc.Prop_.Value.Number, .s qc.Prop_.Value.Words, .i qc.Stamp.At, .s qc.Stamp.By, .i qc.Stamp.No])] ⟨[], []⟩ (Is (z514 ql qc r)) := by
  unfold z510 at hF
  refine hW f129 8 0 0 ?_
  refine sR 2 (awp_seq (bE hF fun vr h1 hF => awp_region (aR 2 (aC (z639 h1) [] [] [] (aR 1 (aE ?_))))))
  exact awp_ret (oF hF [] [])

/-! ### beaconfleet/fleetref2.VisibleOf -/
def z505 (ql : List api_Cell) (vout : List api_Prop) (vx : Int) (vy1 : api_Cell) : Bool → St
  | vx2 => Mem.st ⟨[(1, ⟨150, 5, List.map api_Prop.enc vout⟩)], [(0, [.s vy1.Prop_.Name, .i vy1.Prop_.Value.Kind, .t vy1.Prop_.Value.Flag, .i vy1.Prop_.Value.Number, .s vy1.Prop_.Value.Words, .i vy1.Stamp.At, .s vy1.Stamp.By, .i vy1.Stamp.No])]⟩ (tl [(0, .c (.l api_Cell.enc ql)), (3, .c (.own 1 none)), (5, .c (.box 0 0)), (6, .c (.l api_Cell.enc ql)), (7, .i (ql.length : Int)), (8, .i vx), (19, .b vx2)]) 2

def z504 (ql : List api_Cell) (vout : List api_Prop) (vx : Int) (vy1 : api_Cell) : St := Mem.st ⟨[(1, ⟨150, 5, List.map api_Prop.enc vout⟩)], [(0, [.s vy1.Prop_.Name, .i vy1.Prop_.Value.Kind, .t vy1.Prop_.Value.Flag, .i vy1.Prop_.Value.Number, .s vy1.Prop_.Value.Words, .i vy1.Stamp.At, .s vy1.Stamp.By, .i vy1.Stamp.No])]⟩ (tl [(0, .c (.l api_Cell.enc ql)), (3, .c (.own 1 none)), (5, .c (.box 0 0)), (6, .c (.l api_Cell.enc ql)), (7, .i (ql.length : Int)), (8, .i vx)]) 2

theorem z506 (ql : List api_Cell) (vout : List api_Prop) (vx : Int) (vy1 : api_Cell) {r} (hF : z503 ql vy1 = some r) : Awp prog 0 27 (cL (cR (cL (cL (cR (cR (cL (cL (cR (cL (cR (cR (cB f127))))))))))))) (Out 0 nrm (z505 ql vout vx vy1) r) (z504 ql vout vx vy1) := by
  unfold z503 at hF
  refine bE hF fun _ h3 hF => cE hF (fun h4 hF => ?_) fun h4 hF => ?_
  · refine bE hF fun vr1_1 h5 hF => awp_region (aR 1 (aCb (z560 h3) [] [] [] h4 ?_))
    refine aR 3 (aC (z515 h5) [] [] [] (aR 2 (aE ?_)))
    exact oO hF [] [] rfl
  · refine awp_region (aR 1 (aCb (z560 h3) [] [] [] h4 ?_))
    refine aR 6 (aE ?_)
    exact oO hF [] [] rfl

def z501 (ql : List api_Cell) (vout : List api_Prop) (vx : Int) : (List api_Prop) → St
  | vout2 => Mem.st ⟨[(0, ⟨150, 5, List.map api_Prop.enc vout2⟩)], []⟩ (tl [(0, .c (.l api_Cell.enc ql)), (3, .c (.own 0 none)), (6, .c (.l api_Cell.enc ql)), (7, .i (ql.length : Int)), (8, .i vx)]) 1

def z500 (ql : List api_Cell) (vout : List api_Prop) (vx : Int) : St := Mem.st ⟨[(0, ⟨150, 5, List.map api_Prop.enc vout⟩)], []⟩ (tl [(0, .c (.l api_Cell.enc ql)), (3, .c (.own 0 none)), (6, .c (.l api_Cell.enc ql)), (7, .i (ql.length : Int)), (8, .i vx)]) 1

theorem z502 (ql : List api_Cell) (vout : List api_Prop) (vx : Int) {r} (hF : z499 ql vout vx = some r) : Awp prog 0 27 (cL (cR (cR (cL (cL (cR (cL (cR (cR (cB f127)))))))))) (Out 0 nrm (z501 ql vout vx) r) (z500 ql vout vx) := by
  unfold z499 at hF
  refine awp_block (awp_seq (bE hF fun vy1 h2 hF => awp_region (aX (x_idx api_Cell.enc h2) (aR 3 (aE ?_)))))
  refine awp_seq (awp_to (st' := z504 ql vout vx vy1) (oT [(0, 2001), (1, 0)] []) ?_)
  refine bE hF fun vx2_1 h6 hF => awp_sub (z506 ql vout vx vy1 h6) ?_
  refine cE hF (fun h7 hF => ?_) fun h7 hF => ?_
  · refine tT h7 (gE hF fun h8 hF => ?_)
    refine awp_region (aR 4 (aX (x_app api_Prop.enc 1 h8) (aR 1 (aE ?_))))
    exact oO hF [(0, 4002)] [] rfl
  · exact tF h7 (awp_skip (oO hF [(0, 1)] [] rfl))

def z497 : (List api_Prop) → AEx
  | _ => .exit 0

def z496 (ql : List api_Cell) : (List api_Prop) → St
  | vout3 => Mem.st ⟨[(0, ⟨150, 5, List.map api_Prop.enc vout3⟩)], []⟩ (tl [(3, .c (.own 0 none))]) 1

def z495 (ql : List api_Cell) : (List api_Prop) × Int → St
  | (vout, vx) => Mem.st ⟨[(0, ⟨150, 5, List.map api_Prop.enc vout⟩)], []⟩ (tl [(0, .c (.l api_Cell.enc ql)), (3, .c (.own 0 none)), (6, .c (.l api_Cell.enc ql)), (7, .i (ql.length : Int)), (8, .i vx)]) 1

theorem z498 (ql : List api_Cell) (s : (List api_Prop) × Int) (r : ((List api_Prop) × Int) ⊕ ((List api_Prop))) (hF : z494 ql s = some r) : Awp prog 0 27 (cL (cL (cR (cL (cR (cR (cB f127))))))) (Out 0 (kk z497) (SS (z495 ql) (z496 ql)) r) (z495 ql s) := by
  obtain ⟨vout, vx⟩ := s
  unfold z494 at hF
  refine sR 1 (awp_seq (cE hF (fun h1 hF => ?_) fun h1 hF => ?_))
  · refine tT h1 (awp_skip (awp_seq (awp_to (st' := z500 ql vout vx) (oT [] []) ?_)))
    refine bE hF fun vout2_1 h9 hF => awp_sub (z502 ql vout vx h9) ?_
    exact gR 2 (oO hF [] [] rfl)
  · refine tF h1 (awp_exit ?_)
    exact oO hF [] [] rfl

def z492 (ql : List api_Cell) (r : (List api_Prop)) : TV × Mem := (.c (.own 0 none), ⟨[(0, ⟨150, 5, List.map api_Prop.enc r⟩)], []⟩)

theorem z493 {ql : List api_Cell} {r} (hF : z491 ql = some r) : Holds prog 127 [.c (.l api_Cell.enc ql)] ⟨[], []⟩ (Is (z492 ql r)) := by
  unfold z491 at hF
  refine hW f127 27 0 0 ?_
  refine sR 1 (sR 1 (awp_seq (awp_seq (awp_region (aR 1 (aL api_Cell.enc ql (aR 1 (aE ?_))))))))
  refine awp_block (awp_to (st' := z495 ql ([], 0)) (oT [] [0]) ?_)
  refine bE hF fun vout3_1 h10 hF => awp_sub (awp_loop' (z495 ql) z497 (z496 ql) (by intro x; exact fun h => nomatch h) h10 (z498 ql)) ?_
  exact sR 2 (awp_ret (oF hF [] []))

/-! ### beaconfleet/fleetref2.namesOf -/
def z545 : (List (List UInt8)) → AEx
  | _ => .exit 2

def z544 (qlists : List (List api_Prop)) (vx : Int) (vy3 : List api_Prop) : (List (List UInt8)) → St
  | vout4 => Mem.st ⟨[(1, ⟨9, 1, List.map encS vout4⟩)], []⟩ (tl [(3, .c (.own 1 none)), (8, .c (.l (encL api_Prop.enc) qlists)), (9, .i (qlists.length : Int)), (10, .i vx)]) 2

def z543 (qlists : List (List api_Prop)) (vx : Int) (vy3 : List api_Prop) : (List (List UInt8)) × Int → St
  | (vout3, vx2) => Mem.st ⟨[(1, ⟨9, 1, List.map encS vout3⟩)], []⟩ (tl [(3, .c (.own 1 none)), (8, .c (.l (encL api_Prop.enc) qlists)), (9, .i (qlists.length : Int)), (10, .i vx), (14, .c (.l api_Prop.enc vy3)), (15, .i (vy3.length : Int)), (16, .i vx2)]) 2

theorem z546 (qlists : List (List api_Prop)) (vx : Int) (vy3 : List api_Prop) (s : (List (List UInt8)) × Int) (r : ((List (List UInt8)) × Int) ⊕ ((List (List UInt8)))) (hF : z542 vy3 s = some r) : Awp prog 1 31 (cL (cL (cR (cR (cL (cL (cR (cR (cL (cL (cR (cL (cR (cR (cB f131))))))))))))))) (Out 1 (kk z545) (SS (z543 qlists vx vy3) (z544 qlists vx vy3)) r) (z543 qlists vx vy3 s) := by
  obtain ⟨vout3, vx2⟩ := s
  unfold z542 at hF
  refine sR 1 (awp_seq (cE hF (fun h3 hF => ?_) fun h3 hF => ?_))
  · refine tT h3 (awp_skip (awp_seq (awp_block (awp_seq (bE hF fun vy5 h4 hF => awp_region (aX (x_idx api_Prop.enc h4) (aR 3 (aE ?_))))))))
    refine gE hF fun h5 hF => ?_
    refine awp_region (aR 4 (aX (x_app encS 1 h5) (aR 1 (aE ?_))))
    exact gR 2 (oO hF [(1, 9002)] [] rfl)
  · refine tF h3 (awp_exit ?_)
    exact oO hF [] [] rfl

def z540 : (List (List UInt8)) → AEx
  | _ => .exit 0

def z539 (qlists : List (List api_Prop)) : (List (List UInt8)) → St
  | vout5 => Mem.st ⟨[(1, ⟨9, 1, List.map encS vout5⟩)], []⟩ (tl [(3, .c (.own 1 none))]) 2

def z538 (qlists : List (List api_Prop)) : (List (List UInt8)) × Int → St
  | (vout, vx) => Mem.st ⟨[(1, ⟨9, 1, List.map encS vout⟩)], []⟩ (tl [(3, .c (.own 1 none)), (8, .c (.l (encL api_Prop.enc) qlists)), (9, .i (qlists.length : Int)), (10, .i vx)]) 2

theorem z541 (qlists : List (List api_Prop)) (s : (List (List UInt8)) × Int) (r : ((List (List UInt8)) × Int) ⊕ ((List (List UInt8)))) (hF : z537 qlists s = some r) : Awp prog 1 31 (cL (cL (cR (cL (cR (cR (cB f131))))))) (Out 1 (kk z540) (SS (z538 qlists) (z539 qlists)) r) (z538 qlists s) := by
  obtain ⟨vout, vx⟩ := s
  unfold z537 at hF
  refine sR 1 (awp_seq (cE hF (fun h1 hF => ?_) fun h1 hF => ?_))
  · refine tT h1 (awp_skip (awp_seq (awp_block (awp_seq (bE hF fun vy3 h2 hF => awp_region (aX (x_idx (encL api_Prop.enc) h2) (aR 2 (aE ?_))))))))
    refine awp_seq (awp_region (aR 1 (aL api_Prop.enc vy3 (aR 1 (aE ?_)))))
    refine awp_block (awp_to (st' := z543 qlists vx vy3 (vout, 0)) (oT [] []) ?_)
    refine bE hF fun vout4_1 h6 hF => awp_sub (awp_loop' (z543 qlists vx vy3) z545 (z544 qlists vx vy3) (by intro x; exact fun h => nomatch h) h6 (z546 qlists vx vy3)) ?_
    exact gR 2 (oO hF [] [] rfl)
  · refine tF h1 (awp_exit ?_)
    exact oO hF [] [] rfl

def z535 (qlists : List (List api_Prop)) (r : (List (List UInt8))) : TV × Mem := (.c (.own 1 none), ⟨[(1, ⟨9, 1, List.map encS r⟩)], []⟩)

theorem z536 {qlists : List (List api_Prop)} {r} (hF : z534 qlists = some r) : Holds prog 131 [.c (.own 0 none)] ⟨[(0, ⟨147, 1, List.map (encL api_Prop.enc) qlists⟩)], []⟩ (Is (z535 qlists r)) := by
  unfold z534 at hF
  refine hW f131 31 1 1 ?_
  refine sR 1 (awp_to (oT (m := ⟨[], []⟩) (ts := [(0, .c (.l (encL api_Prop.enc) qlists))]) (nx := 1) [] []) ?_)
  refine sR 1 (awp_seq (awp_seq (awp_region (aR 1 (aL (encL api_Prop.enc) qlists (aR 1 (aE ?_)))))))
  refine awp_block (awp_to (st' := z538 qlists ([], 0)) (oT [] [1]) ?_)
  refine bE hF fun vout5_1 h7 hF => awp_sub (awp_loop' (z538 qlists) z540 (z539 qlists) (by intro x; exact fun h => nomatch h) h7 (z541 qlists)) ?_
  refine awp_seq (bE hF fun vl h8 hF => gE hF fun h9 hF => ?_)
  refine awp_region (aR 1 (aCp (z759 h8) ⟨⟨rfl, rfl, pin1 h9⟩, trivial⟩ [(0, 1)] [] [] ?_))
  refine aE ?_
  refine awp_seq (bE hF fun vr h10 hF => awp_region (aR 1 (aC (z606 h10) [(0, 1)] [] [] (aR 1 (aE ?_)))))
  exact awp_ret (oF hF [(1, 3003)] [])

/-! ### beaconfleet/fleetref2.ValueOf -/
def z489 : Unit ⊕ api_Value → AEx
  | .inl _ => .exit 0
  | .inr _ => .ret

def z488 (ql : List api_Prop) (qname : List UInt8) : Unit ⊕ api_Value → St
  | .inl _ => Mem.st ⟨[], [(0, [.i 0, .t false, .i 0, .s ([] : List UInt8)])]⟩ (tl [(4, .c (.box 0 0))]) 1
  | .inr vx1 => Mem.st ⟨[], [(0, [.i vx1.Kind, .t vx1.Flag, .i vx1.Number, .s vx1.Words])]⟩ (tl [(4, .c (.box 0 0))]) 1

def z487 (ql : List api_Prop) (qname : List UInt8) : Int → St
  | vx => Mem.st ⟨[], [(0, [.i 0, .t false, .i 0, .s ([] : List UInt8)])]⟩ (tl [(1, .c (.s qname)), (4, .c (.box 0 0)), (7, .c (.l api_Prop.enc ql)), (8, .i (ql.length : Int)), (9, .i vx)]) 1

theorem z490 (ql : List api_Prop) (qname : List UInt8) (vx : Int) (r : (Int) ⊕ (Unit ⊕ api_Value)) (hF : z486 ql qname vx = some r) : Awp prog 0 21 (cL (cL (cR (cL (cR (cB f132)))))) (Out 0 (kk z489) (SS (z487 ql qname) (z488 ql qname)) r) (z487 ql qname vx) := by
  unfold z486 at hF
  refine sR 1 (awp_seq (cE hF (fun h1 hF => ?_) fun h1 hF => ?_))
  · refine tT h1 (awp_skip (awp_seq (awp_block (awp_seq (bE hF fun vy1 h2 hF => awp_region (aX (x_idx api_Prop.enc h2) (aR 3 (aE ?_))))))))
    refine sR 4 (cE hF (fun h3 hF => ?_) fun h3 hF => ?_)
    · exact tT h3 (sR 3 (awp_ret (oO hF [] [] rfl)))
    · exact tF h3 (awp_skip (gR 2 (oO hF [] [] rfl)))
  · refine tF h1 (awp_exit ?_)
    exact oO hF [] [] rfl

def z476 (ql : List api_Prop) (qname : List UInt8) (r : api_Value) : TV × Mem := (.v (.agg [.i r.Kind, .t r.Flag, .i r.Number, .s r.Words]), ⟨[], []⟩)

theorem z485 {ql : List api_Prop} {qname : List UInt8} {r} (hF : z475 ql qname = some r) : Holds prog 132 [.c (.l api_Prop.enc ql), .c (.s qname)] ⟨[], []⟩ (Is (z476 ql qname r)) := by
  unfold z475 at hF
  refine hW f132 21 0 0 ?_
  refine sR 1 (awp_seq (awp_seq (awp_region (aR 1 (aL api_Prop.enc ql (aR 1 (aE ?_)))))))
  refine awp_block (awp_to (st' := z487 ql qname 0) (oT [] []) ?_)
  refine bE hF fun x h4 hF => ?_
  rcases x with _ | vx1_1
  · refine awp_sub (awp_loop' (z487 ql qname) z489 (z488 ql qname) (by intro x; rcases x with x | x <;> exact fun h => nomatch h) h4 (z490 ql qname)) ?_
    exact sR 2 (awp_ret (oF hF [] []))
  · refine awp_sub (awp_loop' (z487 ql qname) z489 (z488 ql qname) (by intro x; rcases x with x | x <;> exact fun h => nomatch h) h4 (z490 ql qname)) ?_
    exact oF hF [] []

/-! ### beaconfleet/fleetref2.OwedOf -/
def z372 (qx : api_Twin) (vr : List api_Prop) (vr1 : List api_Prop) (vx : Int) (vy5 : api_Prop) (vm9 : List (List UInt8 × api_Value)) (vx5 : Int) (vy7 : api_Cell) : Bool → St
  | vx7 => Mem.st ⟨[], [(0, [.l api_Cell.enc qx.Desired, .l api_Cell.enc qx.Reported]), (1, [.s vy5.Name, .i vy5.Value.Kind, .t vy5.Value.Flag, .i vy5.Value.Number, .s vy5.Value.Words]), (2, [.mapc .str true (List.map (encM D.str api_Value.enc) vm9)])]⟩ (tl [(1, .c (.box 0 0)), (3, .c (.l api_Prop.enc vr)), (4, .c (.l api_Prop.enc vr1)), (5, .c (.mapp 2)), (7, .c (.box 1 0)), (26, .c (.l api_Prop.enc vr1)), (27, .i (vr1.length : Int)), (28, .i vx), (38, .c (.l api_Cell.enc qx.Desired)), (39, .i (qx.Desired.length : Int)), (40, .i vx5), (68, .b vx7)]) 3

def z371 (qx : api_Twin) (vr : List api_Prop) (vr1 : List api_Prop) (vx : Int) (vy5 : api_Prop) (vm9 : List (List UInt8 × api_Value)) (vx5 : Int) (vy7 : api_Cell) : St := Mem.st ⟨[], [(0, [.l api_Cell.enc qx.Desired, .l api_Cell.enc qx.Reported]), (1, [.s vy5.Name, .i vy5.Value.Kind, .t vy5.Value.Flag, .i vy5.Value.Number, .s vy5.Value.Words]), (2, [.s vy7.Prop_.Name, .i vy7.Prop_.Value.Kind, .t vy7.Prop_.Value.Flag, .i vy7.Prop_.Value.Number, .s vy7.Prop_.Value.Words, .i vy7.Stamp.At, .s vy7.Stamp.By, .i vy7.Stamp.No]), (3, [.mapc .str true (List.map (encM D.str api_Value.enc) vm9)])]⟩ (tl [(1, .c (.box 0 0)), (3, .c (.l api_Prop.enc vr)), (4, .c (.l api_Prop.enc vr1)), (5, .c (.mapp 3)), (7, .c (.box 1 0)), (9, .c (.box 2 0)), (10, .c (.s vy7.Prop_.Name)), (26, .c (.l api_Prop.enc vr1)), (27, .i (vr1.length : Int)), (28, .i vx), (38, .c (.l api_Cell.enc qx.Desired)), (39, .i (qx.Desired.length : Int)), (40, .i vx5)]) 4

theorem z373 (qx : api_Twin) (vr : List api_Prop) (vr1 : List api_Prop) (vx : Int) (vy5 : api_Prop) (vm9 : List (List UInt8 × api_Value)) (vx5 : Int) (vy7 : api_Cell) {r} (hF : z370 qx vy5 vy7 = some r) : Awp prog 0 131 (cL (cR (cR (cL (cL (cR (cR (cL (cL (cR (cL (cR (cR (cL (cL (cR (cR (cL (cL (cR (cL (cR (cR (cR (cB f44))))))))))))))))))))))))) (Out 0 nrm (z372 qx vr vr1 vx vy5 vm9 vx5 vy7) r) (z371 qx vr vr1 vx vy5 vm9 vx5 vy7) := by
  unfold z370 at hF
  refine bE hF fun _ h7 hF => cE hF (fun h8 hF => ?_) fun h8 hF => ?_
  · refine bE hF fun vr1_4 h9 hF => cE hF (fun h10 hF => ?_) fun h10 hF => ?_
    · refine cE hF (fun h11 hF => ?_) fun h11 hF => ?_
      · refine awp_region (aR 1 (aC (z560 h7) [] [] [] (aB h8 (aR 4 (aC (z515 h9) [] [] [] (aB h10 (aR 5 (aB h11 (aR 7 (aE ?_))))))))))
        exact oO hF [(2, 3)] [] rfl
      · refine bE hF fun vr7 h12 hF => awp_region (aR 1 (aC (z560 h7) [] [] [] (aB h8 (aR 4 (aC (z515 h9) [] [] [] (aB h10 (aR 5 (aB h11 (aR 4 (aC (z509 h12) [] [] [] (aR 2 (aE ?_))))))))))))
        exact oO hF [(2, 3)] [] rfl
    · refine awp_region (aR 1 (aC (z560 h7) [] [] [] (aB h8 (aR 4 (aC (z515 h9) [] [] [] (aB h10 (aR 13 (aE ?_))))))))
      exact oO hF [(2, 3)] [] rfl
  · refine awp_region (aR 1 (aC (z560 h7) [] [] [] (aB h8 (aR 19 (aE ?_)))))
    exact oO hF [(2, 3)] [] rfl

def z368 (qx : api_Twin) (vr : List api_Prop) (vr1 : List api_Prop) (vx : Int) (vy5 : api_Prop) (vm9 : List (List UInt8 × api_Value)) (vx5 : Int) : (List (List UInt8 × api_Value)) → St
  | vm11 => Mem.st ⟨[], [(0, [.l api_Cell.enc qx.Desired, .l api_Cell.enc qx.Reported]), (1, [.s vy5.Name, .i vy5.Value.Kind, .t vy5.Value.Flag, .i vy5.Value.Number, .s vy5.Value.Words]), (2, [.mapc .str true (List.map (encM D.str api_Value.enc) vm11)])]⟩ (tl [(1, .c (.box 0 0)), (3, .c (.l api_Prop.enc vr)), (4, .c (.l api_Prop.enc vr1)), (5, .c (.mapp 2)), (7, .c (.box 1 0)), (26, .c (.l api_Prop.enc vr1)), (27, .i (vr1.length : Int)), (28, .i vx), (38, .c (.l api_Cell.enc qx.Desired)), (39, .i (qx.Desired.length : Int)), (40, .i vx5)]) 3

def z367 (qx : api_Twin) (vr : List api_Prop) (vr1 : List api_Prop) (vx : Int) (vy5 : api_Prop) (vm9 : List (List UInt8 × api_Value)) (vx5 : Int) : St := Mem.st ⟨[], [(0, [.l api_Cell.enc qx.Desired, .l api_Cell.enc qx.Reported]), (1, [.s vy5.Name, .i vy5.Value.Kind, .t vy5.Value.Flag, .i vy5.Value.Number, .s vy5.Value.Words]), (2, [.mapc .str true (List.map (encM D.str api_Value.enc) vm9)])]⟩ (tl [(1, .c (.box 0 0)), (3, .c (.l api_Prop.enc vr)), (4, .c (.l api_Prop.enc vr1)), (5, .c (.mapp 2)), (7, .c (.box 1 0)), (26, .c (.l api_Prop.enc vr1)), (27, .i (vr1.length : Int)), (28, .i vx), (38, .c (.l api_Cell.enc qx.Desired)), (39, .i (qx.Desired.length : Int)), (40, .i vx5)]) 3

theorem z369 (qx : api_Twin) (vr : List api_Prop) (vr1 : List api_Prop) (vx : Int) (vy5 : api_Prop) (vm9 : List (List UInt8 × api_Value)) (vx5 : Int) {r} (hF : z366 qx vy5 vm9 vx5 = some r) : Awp prog 0 131 (cL (cR (cR (cL (cL (cR (cL (cR (cR (cL (cL (cR (cR (cL (cL (cR (cL (cR (cR (cR (cB f44))))))))))))))))))))) (Out 0 nrm (z368 qx vr vr1 vx vy5 vm9 vx5) r) (z367 qx vr vr1 vx vy5 vm9 vx5) := by
  unfold z366 at hF
  refine awp_block (awp_seq (bE hF fun vy7 h6 hF => awp_region (aX (x_idx api_Cell.enc h6) (aR 3 (aE ?_)))))
  refine sR 4 (awp_seq (awp_to (st' := z371 qx vr vr1 vx vy5 vm9 vx5 vy7) (oT [(2, 2003), (3, 2)] []) ?_))
  refine bE hF fun vx7_1 h13 hF => awp_sub (z373 qx vr vr1 vx vy5 vm9 vx5 vy7 h13) ?_
  refine cE hF (fun h14 hF => ?_) fun h14 hF => ?_
  · refine tT h14 (awp_region (aR 4 (aPut 2 .str true (l := vm9) (key := vy5.Name) (v := (api_Value.mk 0 false 0 ([] : List UInt8))) D.str api_Value.enc rfl ?_)))
    refine aE ?_
    exact oO hF [] [] rfl
  · exact tF h14 (awp_skip (oO hF [] [] rfl))

def z364 : (List (List UInt8 × api_Value)) → AEx
  | _ => .exit 2

def z363 (qx : api_Twin) (vr : List api_Prop) (vr1 : List api_Prop) (vx : Int) (vy5 : api_Prop) : (List (List UInt8 × api_Value)) → St
  | vm12 => Mem.st ⟨[], [(0, [.l api_Cell.enc qx.Desired, .l api_Cell.enc qx.Reported]), (1, [.s vy5.Name, .i vy5.Value.Kind, .t vy5.Value.Flag, .i vy5.Value.Number, .s vy5.Value.Words]), (2, [.mapc .str true (List.map (encM D.str api_Value.enc) vm12)])]⟩ (tl [(1, .c (.box 0 0)), (3, .c (.l api_Prop.enc vr)), (4, .c (.l api_Prop.enc vr1)), (5, .c (.mapp 2)), (7, .c (.box 1 0)), (26, .c (.l api_Prop.enc vr1)), (27, .i (vr1.length : Int)), (28, .i vx)]) 3

def z362 (qx : api_Twin) (vr : List api_Prop) (vr1 : List api_Prop) (vx : Int) (vy5 : api_Prop) : (List (List UInt8 × api_Value)) × Int → St
  | (vm9, vx5) => Mem.st ⟨[], [(0, [.l api_Cell.enc qx.Desired, .l api_Cell.enc qx.Reported]), (1, [.s vy5.Name, .i vy5.Value.Kind, .t vy5.Value.Flag, .i vy5.Value.Number, .s vy5.Value.Words]), (2, [.mapc .str true (List.map (encM D.str api_Value.enc) vm9)])]⟩ (tl [(1, .c (.box 0 0)), (3, .c (.l api_Prop.enc vr)), (4, .c (.l api_Prop.enc vr1)), (5, .c (.mapp 2)), (7, .c (.box 1 0)), (26, .c (.l api_Prop.enc vr1)), (27, .i (vr1.length : Int)), (28, .i vx), (38, .c (.l api_Cell.enc qx.Desired)), (39, .i (qx.Desired.length : Int)), (40, .i vx5)]) 3

theorem z365 (qx : api_Twin) (vr : List api_Prop) (vr1 : List api_Prop) (vx : Int) (vy5 : api_Prop) (s : (List (List UInt8 × api_Value)) × Int) (r : ((List (List UInt8 × api_Value)) × Int) ⊕ ((List (List UInt8 × api_Value)))) (hF : z361 qx vy5 s = some r) : Awp prog 0 131 (cL (cL (cR (cL (cR (cR (cL (cL (cR (cR (cL (cL (cR (cL (cR (cR (cR (cB f44)))))))))))))))))) (Out 0 (kk z364) (SS (z362 qx vr vr1 vx vy5) (z363 qx vr vr1 vx vy5)) r) (z362 qx vr vr1 vx vy5 s) := by
  obtain ⟨vm9, vx5⟩ := s
  unfold z361 at hF
  refine sR 1 (awp_seq (cE hF (fun h5 hF => ?_) fun h5 hF => ?_))
  · refine tT h5 (awp_skip (awp_seq (awp_to (st' := z367 qx vr vr1 vx vy5 vm9 vx5) (oT [] []) ?_)))
    refine bE hF fun vm11_1 h15 hF => awp_sub (z369 qx vr vr1 vx vy5 vm9 vx5 h15) ?_
    exact gR 2 (oO hF [] [] rfl)
  · refine tF h5 (awp_exit ?_)
    exact oO hF [] [] rfl

def z381 (qx : api_Twin) (vr : List api_Prop) (vr1 : List api_Prop) (vx : Int) (vy5 : api_Prop) (vm13 : List (List UInt8 × api_Value)) (vx8 : Int) : (List (List UInt8 × api_Value)) → St
  | vm15 => Mem.st ⟨[], [(0, [.l api_Cell.enc qx.Desired, .l api_Cell.enc qx.Reported]), (1, [.s vy5.Name, .i vy5.Value.Kind, .t vy5.Value.Flag, .i vy5.Value.Number, .s vy5.Value.Words]), (2, [.mapc .str true (List.map (encM D.str api_Value.enc) vm15)])]⟩ (tl [(1, .c (.box 0 0)), (3, .c (.l api_Prop.enc vr)), (4, .c (.l api_Prop.enc vr1)), (5, .c (.mapp 2)), (7, .c (.box 1 0)), (26, .c (.l api_Prop.enc vr1)), (27, .i (vr1.length : Int)), (28, .i vx), (74, .c (.l api_Prop.enc vr)), (75, .i (vr.length : Int)), (76, .i vx8)]) 3

def z380 (qx : api_Twin) (vr : List api_Prop) (vr1 : List api_Prop) (vx : Int) (vy5 : api_Prop) (vm13 : List (List UInt8 × api_Value)) (vx8 : Int) : St := Mem.st ⟨[], [(0, [.l api_Cell.enc qx.Desired, .l api_Cell.enc qx.Reported]), (1, [.s vy5.Name, .i vy5.Value.Kind, .t vy5.Value.Flag, .i vy5.Value.Number, .s vy5.Value.Words]), (2, [.mapc .str true (List.map (encM D.str api_Value.enc) vm13)])]⟩ (tl [(1, .c (.box 0 0)), (3, .c (.l api_Prop.enc vr)), (4, .c (.l api_Prop.enc vr1)), (5, .c (.mapp 2)), (7, .c (.box 1 0)), (26, .c (.l api_Prop.enc vr1)), (27, .i (vr1.length : Int)), (28, .i vx), (74, .c (.l api_Prop.enc vr)), (75, .i (vr.length : Int)), (76, .i vx8)]) 3

theorem z382 (qx : api_Twin) (vr : List api_Prop) (vr1 : List api_Prop) (vx : Int) (vy5 : api_Prop) (vm13 : List (List UInt8 × api_Value)) (vx8 : Int) {r} (hF : z379 vr vy5 vm13 vx8 = some r) : Awp prog 0 131 (cL (cR (cR (cL (cL (cR (cR (cR (cR (cL (cL (cR (cR (cL (cL (cR (cL (cR (cR (cR (cB f44))))))))))))))))))))) (Out 0 nrm (z381 qx vr vr1 vx vy5 vm13 vx8) r) (z380 qx vr vr1 vx vy5 vm13 vx8) := by
  unfold z379 at hF
  refine awp_block (awp_seq (bE hF fun vy9 h18 hF => awp_region (aX (x_idx api_Prop.enc h18) (aR 3 (aE ?_)))))
  refine awp_seq (bE hF fun vr9 h19 hF => awp_region (aR 4 (aC (z509 h19) [] [] [] (aE ?_))))
  refine cE hF (fun h20 hF => ?_) fun h20 hF => ?_
  · refine tT h20 (awp_region (aR 4 (aPut 2 .str true (l := vm13) (key := vy5.Name) (v := (api_Value.mk 0 false 0 ([] : List UInt8))) D.str api_Value.enc rfl ?_)))
    refine aE ?_
    exact oO hF [] [] rfl
  · exact tF h20 (awp_skip (oO hF [] [] rfl))

def z377 : (List (List UInt8 × api_Value)) → AEx
  | _ => .exit 4

def z376 (qx : api_Twin) (vr : List api_Prop) (vr1 : List api_Prop) (vx : Int) (vy5 : api_Prop) : (List (List UInt8 × api_Value)) → St
  | vm16 => Mem.st ⟨[], [(0, [.l api_Cell.enc qx.Desired, .l api_Cell.enc qx.Reported]), (1, [.mapc .str true (List.map (encM D.str api_Value.enc) vm16)])]⟩ (tl [(1, .c (.box 0 0)), (3, .c (.l api_Prop.enc vr)), (4, .c (.l api_Prop.enc vr1)), (5, .c (.mapp 1)), (26, .c (.l api_Prop.enc vr1)), (27, .i (vr1.length : Int)), (28, .i vx)]) 2

def z375 (qx : api_Twin) (vr : List api_Prop) (vr1 : List api_Prop) (vx : Int) (vy5 : api_Prop) : (List (List UInt8 × api_Value)) × Int → St
  | (vm13, vx8) => Mem.st ⟨[], [(0, [.l api_Cell.enc qx.Desired, .l api_Cell.enc qx.Reported]), (1, [.s vy5.Name, .i vy5.Value.Kind, .t vy5.Value.Flag, .i vy5.Value.Number, .s vy5.Value.Words]), (2, [.mapc .str true (List.map (encM D.str api_Value.enc) vm13)])]⟩ (tl [(1, .c (.box 0 0)), (3, .c (.l api_Prop.enc vr)), (4, .c (.l api_Prop.enc vr1)), (5, .c (.mapp 2)), (7, .c (.box 1 0)), (26, .c (.l api_Prop.enc vr1)), (27, .i (vr1.length : Int)), (28, .i vx), (74, .c (.l api_Prop.enc vr)), (75, .i (vr.length : Int)), (76, .i vx8)]) 3

theorem z378 (qx : api_Twin) (vr : List api_Prop) (vr1 : List api_Prop) (vx : Int) (vy5 : api_Prop) (s : (List (List UInt8 × api_Value)) × Int) (r : ((List (List UInt8 × api_Value)) × Int) ⊕ ((List (List UInt8 × api_Value)))) (hF : z374 vr vy5 s = some r) : Awp prog 0 131 (cL (cL (cR (cR (cR (cR (cL (cL (cR (cR (cL (cL (cR (cL (cR (cR (cR (cB f44)))))))))))))))))) (Out 0 (kk z377) (SS (z375 qx vr vr1 vx vy5) (z376 qx vr vr1 vx vy5)) r) (z375 qx vr vr1 vx vy5 s) := by
  obtain ⟨vm13, vx8⟩ := s
  unfold z374 at hF
  refine sR 1 (awp_seq (cE hF (fun h17 hF => ?_) fun h17 hF => ?_))
  · refine tT h17 (awp_skip (awp_seq (awp_to (st' := z380 qx vr vr1 vx vy5 vm13 vx8) (oT [] []) ?_)))
    refine bE hF fun vm15_1 h21 hF => awp_sub (z382 qx vr vr1 vx vy5 vm13 vx8 h21) ?_
    exact gR 2 (oO hF [] [] rfl)
  · refine tF h17 (awp_exit ?_)
    exact oO hF [(1, 2)] [] rfl

def z359 : (List (List UInt8 × api_Value)) → AEx
  | _ => .exit 0

def z358 (qx : api_Twin) (vr : List api_Prop) (vr1 : List api_Prop) : (List (List UInt8 × api_Value)) → St
  | vm17 => Mem.st ⟨[], [(0, [.mapc .str true (List.map (encM D.str api_Value.enc) vm17)])]⟩ (tl [(3, .c (.l api_Prop.enc vr)), (4, .c (.l api_Prop.enc vr1)), (5, .c (.mapp 0))]) 1

def z357 (qx : api_Twin) (vr : List api_Prop) (vr1 : List api_Prop) : (List (List UInt8 × api_Value)) × Int → St
  | (vm, vx) => Mem.st ⟨[], [(0, [.l api_Cell.enc qx.Desired, .l api_Cell.enc qx.Reported]), (1, [.mapc .str true (List.map (encM D.str api_Value.enc) vm)])]⟩ (tl [(1, .c (.box 0 0)), (3, .c (.l api_Prop.enc vr)), (4, .c (.l api_Prop.enc vr1)), (5, .c (.mapp 1)), (26, .c (.l api_Prop.enc vr1)), (27, .i (vr1.length : Int)), (28, .i vx)]) 2

theorem z360 (qx : api_Twin) (vr : List api_Prop) (vr1 : List api_Prop) (s : (List (List UInt8 × api_Value)) × Int) (r : ((List (List UInt8 × api_Value)) × Int) ⊕ ((List (List UInt8 × api_Value)))) (hF : z356 qx vr vr1 s = some r) : Awp prog 0 131 (cL (cL (cR (cL (cR (cR (cR (cB f44)))))))) (Out 0 (kk z359) (SS (z357 qx vr vr1) (z358 qx vr vr1)) r) (z357 qx vr vr1 s) := by
  obtain ⟨vm, vx⟩ := s
  unfold z356 at hF
  refine sR 1 (awp_seq (cE hF (fun h3 hF => ?_) fun h3 hF => ?_))
  · refine tT h3 (awp_skip (awp_seq (awp_block (awp_seq (bE hF fun vy5 h4 hF => awp_region (aX (x_idx api_Prop.enc h4) (aR 3 (aE ?_))))))))
    refine awp_seq (awp_region (aR 5 (aPut 1 .str true (l := vm) (key := vy5.Name) (v := (api_Value.mk vy5.Value.Kind vy5.Value.Flag vy5.Value.Number vy5.Value.Words)) D.str api_Value.enc rfl ?_)))
    refine aE ?_
    refine awp_seq (awp_seq (awp_region (aR 2 (aL api_Cell.enc qx.Desired (aR 1 (aE ?_))))))
    refine awp_block (awp_to (st' := z362 qx vr vr1 vx vy5 (aput vm vy5.Name (api_Value.mk vy5.Value.Kind vy5.Value.Flag vy5.Value.Number vy5.Value.Words), 0)) (oT [(1, 3002), (2, 1)] []) ?_)
    refine bE hF fun vm12_1 h16 hF => awp_sub (awp_loop' (z362 qx vr vr1 vx vy5) z364 (z363 qx vr vr1 vx vy5) (by intro x; exact fun h => nomatch h) h16 (z365 qx vr vr1 vx vy5)) ?_
    refine awp_seq (awp_region (aR 1 (aL api_Prop.enc vr (aR 1 (aE ?_)))))
    refine awp_block (awp_to (st' := z375 qx vr vr1 vx vy5 (vm12_1, 0)) (oT [] []) ?_)
    refine bE hF fun vm16_1 h22 hF => awp_sub (awp_loop' (z375 qx vr vr1 vx vy5) z377 (z376 qx vr vr1 vx vy5) (by intro x; exact fun h => nomatch h) h22 (z378 qx vr vr1 vx vy5)) ?_
    exact gR 2 (oO hF [] [] rfl)
  · refine tF h3 (awp_exit ?_)
    exact oO hF [(0, 1)] [] rfl

def z386 : (List (List UInt8 × api_Value)) → AEx
  | _ => .exit 6

def z385 (vr : List api_Prop) (vr1 : List api_Prop) : (List (List UInt8 × api_Value)) → St
  | vm19 => Mem.st ⟨[], [(0, [.mapc .str true (List.map (encM D.str api_Value.enc) vm19)])]⟩ (tl [(3, .c (.l api_Prop.enc vr)), (4, .c (.l api_Prop.enc vr1)), (5, .c (.mapp 0))]) 1

def z384 (vr : List api_Prop) (vr1 : List api_Prop) : (List (List UInt8 × api_Value)) × Int → St
  | (vm18, vx9) => Mem.st ⟨[], [(0, [.mapc .str true (List.map (encM D.str api_Value.enc) vm18)])]⟩ (tl [(3, .c (.l api_Prop.enc vr)), (4, .c (.l api_Prop.enc vr1)), (5, .c (.mapp 0)), (91, .c (.l api_Prop.enc vr)), (92, .i (vr.length : Int)), (93, .i vx9)]) 1

theorem z387 (vr : List api_Prop) (vr1 : List api_Prop) (s : (List (List UInt8 × api_Value)) × Int) (r : ((List (List UInt8 × api_Value)) × Int) ⊕ ((List (List UInt8 × api_Value)))) (hF : z383 vr s = some r) : Awp prog 0 131 (cL (cL (cR (cL (cR (cR (cR (cR (cB f44))))))))) (Out 0 (kk z386) (SS (z384 vr vr1) (z385 vr vr1)) r) (z384 vr vr1 s) := by
  obtain ⟨vm18, vx9⟩ := s
  unfold z383 at hF
  refine sR 1 (awp_seq (cE hF (fun h24 hF => ?_) fun h24 hF => ?_))
  · refine tT h24 (awp_skip (awp_seq (awp_block (awp_seq (bE hF fun vy11 h25 hF => awp_region (aX (x_idx api_Prop.enc h25) (aR 3 (aE ?_))))))))
    refine awp_region (aR 5 (aPut 0 .str true (l := vm18) (key := vy11.Name) (v := (api_Value.mk vy11.Value.Kind vy11.Value.Flag vy11.Value.Number vy11.Value.Words)) D.str api_Value.enc rfl ?_))
    refine aE ?_
    exact gR 2 (oO hF [] [] rfl)
  · refine tF h24 (awp_exit ?_)
    exact oO hF [] [] rfl

def z395 (vr1 : List api_Prop) (vm19_1 : List (List UInt8 × api_Value)) (vr1_5 : List (List UInt8)) (vx10 : List api_Change) (vx11 : Int) : (List api_Change) → St
  | vx13 => Mem.st ⟨[(1, ⟨92, 9, List.map api_Change.enc vx13⟩)], [(0, [.mapc .str true (List.map (encM D.str api_Value.enc) vm19_1)])]⟩ (tl [(4, .c (.l api_Prop.enc vr1)), (5, .c (.mapp 0)), (15, .c (.own 1 none)), (106, .c (.l encS vr1_5)), (107, .i (vr1_5.length : Int)), (108, .i vx11)]) 2

def z394 (vr1 : List api_Prop) (vm19_1 : List (List UInt8 × api_Value)) (vr1_5 : List (List UInt8)) (vx10 : List api_Change) (vx11 : Int) : St := Mem.st ⟨[(1, ⟨92, 9, List.map api_Change.enc vx10⟩)], [(0, [.mapc .str true (List.map (encM D.str api_Value.enc) vm19_1)])]⟩ (tl [(4, .c (.l api_Prop.enc vr1)), (5, .c (.mapp 0)), (15, .c (.own 1 none)), (106, .c (.l encS vr1_5)), (107, .i (vr1_5.length : Int)), (108, .i vx11)]) 2

theorem z396 (vr1 : List api_Prop) (vm19_1 : List (List UInt8 × api_Value)) (vr1_5 : List (List UInt8)) (vx10 : List api_Change) (vx11 : Int) {r} (hF : z393 vr1 vm19_1 vr1_5 vx10 vx11 = some r) : Awp prog 0 131 (cL (cR (cR (cL (cL (cR (cL (cR (cR (cR (cR (cR (cR (cB f44)))))))))))))) (Out 0 nrm (z395 vr1 vm19_1 vr1_5 vx10 vx11) r) (z394 vr1 vm19_1 vr1_5 vx10 vx11) := by
  unfold z393 at hF
  refine awp_block (awp_seq (bE hF fun vy13 h29 hF => awp_region (aX (x_idx encS h29) (aR 2 (aE ?_)))))
  refine awp_seq (bE hF fun ve1 h30 hF => awp_region (aR 2 (aX (x_get 0 true D.str api_Value.enc h30) (aR 2 (aE ?_)))))
  refine awp_seq (bE hF fun vr11 h31 hF => aD ?_)
  refine dR 3 ?_
  refine dC (z485 h31) [] [] [] ?_
  refine dS (U := []) (stable_eqS (op := .neq) (xs := [.int .i64 ve1.Kind, .bool ve1.Flag, .int .i64 ve1.Number, .str ve1.Words]) (ys := [.int .i64 vr11.Kind, .bool vr11.Flag, .int .i64 vr11.Number, .str vr11.Words]) (b := (decide (ve1.Kind = vr11.Kind) && ((ve1.Flag == vr11.Flag) && (decide (ve1.Number = vr11.Number) && (decide (ve1.Words = vr11.Words) && true))))) (c := (!(decide (ve1.Kind = vr11.Kind) && ((ve1.Flag == vr11.Flag) && (decide (ve1.Number = vr11.Number) && (decide (ve1.Words = vr11.Words) && true)))))) rfl (.inr ⟨rfl, rfl⟩) (by kernel_rfl) (by kernel_rfl) (by kernel_rfl) (by kernel_rfl) (by kernel_rfl) (by kernel_rfl)) ?_
  refine dE ?_
  refine cE hF (fun h32 hF => ?_) fun h32 hF => ?_
  · refine tT h32 (gE hF fun h33 hF => ?_)
    refine aD ?_
    refine dR 4 ?_
    refine dC (z485 h31) [] [] [] ?_
    refine dR 3 ?_
    refine dX (x_app api_Change.enc 1 h33) ?_
    refine dR 1 ?_
    refine dE ?_
    exact oO hF [(1, 21002)] [] rfl
  · exact tF h32 (awp_skip (oO hF [] [] rfl))

def z391 : (List api_Change) → AEx
  | _ => .exit 8

def z390 (vr1 : List api_Prop) (vm19_1 : List (List UInt8 × api_Value)) (vr1_5 : List (List UInt8)) : (List api_Change) → St
  | vx14 => Mem.st ⟨[(0, ⟨92, 9, List.map api_Change.enc vx14⟩)], []⟩ (tl [(15, .c (.own 0 none))]) 1

def z389 (vr1 : List api_Prop) (vm19_1 : List (List UInt8 × api_Value)) (vr1_5 : List (List UInt8)) : (List api_Change) × Int → St
  | (vx10, vx11) => Mem.st ⟨[(1, ⟨92, 9, List.map api_Change.enc vx10⟩)], [(0, [.mapc .str true (List.map (encM D.str api_Value.enc) vm19_1)])]⟩ (tl [(4, .c (.l api_Prop.enc vr1)), (5, .c (.mapp 0)), (15, .c (.own 1 none)), (106, .c (.l encS vr1_5)), (107, .i (vr1_5.length : Int)), (108, .i vx11)]) 2

theorem z392 (vr1 : List api_Prop) (vm19_1 : List (List UInt8 × api_Value)) (vr1_5 : List (List UInt8)) (s : (List api_Change) × Int) (r : ((List api_Change) × Int) ⊕ ((List api_Change))) (hF : z388 vr1 vm19_1 vr1_5 s = some r) : Awp prog 0 131 (cL (cL (cR (cL (cR (cR (cR (cR (cR (cR (cB f44))))))))))) (Out 0 (kk z391) (SS (z389 vr1 vm19_1 vr1_5) (z390 vr1 vm19_1 vr1_5)) r) (z389 vr1 vm19_1 vr1_5 s) := by
  obtain ⟨vx10, vx11⟩ := s
  unfold z388 at hF
  refine sR 1 (awp_seq (cE hF (fun h28 hF => ?_) fun h28 hF => ?_))
  · refine tT h28 (awp_skip (awp_seq (awp_to (st' := z394 vr1 vm19_1 vr1_5 vx10 vx11) (oT [] []) ?_)))
    refine bE hF fun vx13_1 h34 hF => awp_sub (z396 vr1 vm19_1 vr1_5 vx10 vx11 h34) ?_
    exact gR 2 (oO hF [] [] rfl)
  · refine tF h28 (awp_exit ?_)
    exact oO hF [(0, 1)] [] rfl

def z354 (qx : api_Twin) (r : (List api_Change)) : TV × Mem := (.c (.own 0 none), ⟨[(0, ⟨92, 9, List.map api_Change.enc r⟩)], []⟩)

theorem z355 {qx : api_Twin} {r} (hF : z353 qx = some r) : Holds prog 44 [.v (.agg [.l api_Cell.enc qx.Desired, .l api_Cell.enc qx.Reported])] ⟨[], []⟩ (Is (z354 qx r)) := by
  unfold z353 at hF
  refine hW f44 131 0 0 ?_
  refine sR 2 (awp_seq (bE hF fun vr h1 hF => bE hF fun vr1 h2 hF => aD ?_))
  refine dR 2 ?_
  refine dC (z493 h1) [] [] [] ?_
  refine dR 2 ?_
  refine dC (z493 h2) [] [] [] ?_
  refine dR 2 ?_
  refine dE ?_
  refine awp_to (oT (m := ⟨[], [(0, [.l api_Cell.enc qx.Desired, .l api_Cell.enc qx.Reported])]⟩) (ts := [(1, .c (.box 0 0)), (3, .c (.l api_Prop.enc vr)), (4, .c (.l api_Prop.enc vr1))]) (nx := 1) [] []) ?_
  refine awp_seq (awp_region (aX (x_map .str true (κ := List UInt8) (β := api_Value) D.str api_Value.enc) (aR 1 (aE ?_))))
  refine awp_seq (awp_seq (awp_region (aR 1 (aL api_Prop.enc vr1 (aR 1 (aE ?_))))))
  refine awp_block (awp_to (st' := z357 qx vr vr1 (([] : List (List UInt8 × api_Value)), 0)) (oT [] []) ?_)
  refine bE hF fun vm17_1 h23 hF => awp_sub (awp_loop' (z357 qx vr vr1) z359 (z358 qx vr vr1) (by intro x; exact fun h => nomatch h) h23 (z360 qx vr vr1)) ?_
  refine awp_seq (awp_seq (awp_region (aR 1 (aL api_Prop.enc vr (aR 1 (aE ?_))))))
  refine awp_block (awp_to (st' := z384 vr vr1 (vm17_1, 0)) (oT [] []) ?_)
  refine bE hF fun vm19_1 h26 hF => awp_sub (awp_loop' (z384 vr vr1) z386 (z385 vr vr1) (by intro x; exact fun h => nomatch h) h26 (z387 vr vr1)) ?_
  refine sR 1 (awp_seq (awp_seq (bE hF fun vr1_5 h27 hF => awp_region (aR 3 (aC (z536 h27) [(0, 3001)] [] [] (aL encS vr1_5 (aR 1 (aE ?_))))))))
  refine awp_to (oT (m := ⟨[], [(0, [.mapc .str true (List.map (encM D.str api_Value.enc) vm19_1)])]⟩) (ts := [(4, .c (.l api_Prop.enc vr1)), (5, .c (.mapp 0)), (15, .c (.nil)), (106, .c (.l encS vr1_5)), (107, .i (vr1_5.length : Int)), (108, .i 0)]) (nx := 1) [] []) ?_
  refine awp_block (awp_to (st' := z389 vr1 vm19_1 vr1_5 ([], 0)) (oT [] [1]) ?_)
  refine bE hF fun vx14_1 h35 hF => awp_sub (awp_loop' (z389 vr1 vm19_1 vr1_5) z391 (z390 vr1 vm19_1 vr1_5) (by intro x; exact fun h => nomatch h) h35 (z392 vr1 vm19_1 vr1_5)) ?_
  exact sR 2 (awp_ret (oF hF [] []))

/-! ### slices.Equal[[]beaconfleet/api.Change,beaconfleet/api.Change] -/
def z672 : Unit ⊕ Unit → AEx
  | .inl _ => .exit 0
  | .inr _ => .ret

def z671 (qs1 : List api_Change) (qs2 : List api_Change) : Unit ⊕ Unit → St
  | .inl _ => Mem.st ⟨[], []⟩ (tl []) 0
  | .inr _ => Mem.st ⟨[], []⟩ (tl [(4, .b false)]) 0

def z670 (qs1 : List api_Change) (qs2 : List api_Change) : Int → St
  | vx => Mem.st ⟨[], []⟩ (tl [(0, .c (.l api_Change.enc qs1)), (1, .c (.l api_Change.enc qs2)), (12, .i (qs1.length : Int)), (13, .i vx)]) 0

theorem z673 (qs1 : List api_Change) (qs2 : List api_Change) (vx : Int) (r : (Int) ⊕ (Unit ⊕ Unit)) (hF : z669 qs1 qs2 vx = some r) : Awp prog 0 26 (cL (cL (cR (cL (cR (cR (cB f45))))))) (Out 0 (kk z672) (SS (z670 qs1 qs2) (z671 qs1 qs2)) r) (z670 qs1 qs2 vx) := by
  unfold z669 at hF
  refine sR 1 (awp_seq (cE hF (fun h2 hF => ?_) fun h2 hF => ?_))
  · refine tT h2 (awp_skip (awp_seq (awp_block (sR 2 (awp_seq (bE hF fun vy2 h3 hF => bE hF fun vy3 h4 hF => aD ?_))))))
    refine dR 2 ?_
    refine dX (x_idx api_Change.enc h3) ?_
    refine dR 3 ?_
    refine dX (x_idx api_Change.enc h4) ?_
    refine dR 1 ?_
    refine dS (U := []) (stable_eqS (op := .neq) (xs := [.str vy2.Name, .int .i64 vy2.From.Kind, .bool vy2.From.Flag, .int .i64 vy2.From.Number, .str vy2.From.Words, .int .i64 vy2.To.Kind, .bool vy2.To.Flag, .int .i64 vy2.To.Number, .str vy2.To.Words]) (ys := [.str vy3.Name, .int .i64 vy3.From.Kind, .bool vy3.From.Flag, .int .i64 vy3.From.Number, .str vy3.From.Words, .int .i64 vy3.To.Kind, .bool vy3.To.Flag, .int .i64 vy3.To.Number, .str vy3.To.Words]) (b := (decide (vy2.Name = vy3.Name) && ((decide (vy2.From.Kind = vy3.From.Kind) && ((vy2.From.Flag == vy3.From.Flag) && (decide (vy2.From.Number = vy3.From.Number) && (decide (vy2.From.Words = vy3.From.Words) && true)))) && ((decide (vy2.To.Kind = vy3.To.Kind) && ((vy2.To.Flag == vy3.To.Flag) && (decide (vy2.To.Number = vy3.To.Number) && (decide (vy2.To.Words = vy3.To.Words) && true)))) && true)))) (c := (!(decide (vy2.Name = vy3.Name) && ((decide (vy2.From.Kind = vy3.From.Kind) && ((vy2.From.Flag == vy3.From.Flag) && (decide (vy2.From.Number = vy3.From.Number) && (decide (vy2.From.Words = vy3.From.Words) && true)))) && ((decide (vy2.To.Kind = vy3.To.Kind) && ((vy2.To.Flag == vy3.To.Flag) && (decide (vy2.To.Number = vy3.To.Number) && (decide (vy2.To.Words = vy3.To.Words) && true)))) && true))))) rfl (.inr ⟨rfl, rfl⟩) (by kernel_rfl) (by kernel_rfl) (by kernel_rfl) (by kernel_rfl) (by kernel_rfl) (by kernel_rfl)) ?_
    refine dE ?_
    refine cE hF (fun h5 hF => ?_) fun h5 hF => ?_
    · exact tT h5 (sR 1 (awp_ret (oO hF [] [] rfl)))
    · exact tF h5 (awp_skip (gR 2 (oO hF [] [] rfl)))
  · refine tF h2 (awp_exit ?_)
    exact oO hF [] [] rfl

def z667 (qs1 : List api_Change) (qs2 : List api_Change) (r : Bool) : TV × Mem := (.b r, ⟨[], []⟩)

theorem z668 {qs1 : List api_Change} {qs2 : List api_Change} {r} (hF : z666 qs1 qs2 = some r) : Holds prog 45 [.c (.l api_Change.enc qs1), .c (.l api_Change.enc qs2)] ⟨[], []⟩ (Is (z667 qs1 qs2 r)) := by
  unfold z666 at hF
  refine hW f45 26 0 0 ?_
  refine sR 1 (awp_seq (awp_seq (awp_region (aR 1 (aL api_Change.enc qs1 (aR 1 (aL api_Change.enc qs2 (aR 1 (aE ?_)))))))))
  refine cE hF (fun h1 hF => ?_) fun h1 hF => ?_
  · exact tT h1 (sR 1 (awp_ret (oF hF [] [])))
  · refine tF h1 (awp_skip (awp_seq (awp_seq (awp_region (aR 1 (aL api_Change.enc qs1 (aR 1 (aE ?_))))))))
    refine awp_block (awp_to (st' := z670 qs1 qs2 0) (oT [] []) ?_)
    refine bE hF fun x h6 hF => ?_
    rcases x with _ | _
    · refine awp_sub (awp_loop' (z670 qs1 qs2) z672 (z671 qs1 qs2) (by intro x; rcases x with x | x <;> exact fun h => nomatch h) h6 (z673 qs1 qs2)) ?_
      exact sR 1 (awp_ret (oF hF [] []))
    · refine awp_sub (awp_loop' (z670 qs1 qs2) z672 (z671 qs1 qs2) (by intro x; rcases x with x | x <;> exact fun h => nomatch h) h6 (z673 qs1 qs2)) ?_
      exact oF hF [] []

/-! ### slices.Clone[[]beaconfleet/api.Prop,beaconfleet/api.Prop] -/
def z585 (qs : List api_Prop) (r : List api_Prop) : TV × Mem := (.c (.own 0 none), ⟨[(0, ⟨150, 5, List.map api_Prop.enc r⟩)], []⟩)

theorem z586 {qs : List api_Prop} {r} (hF : z584 qs = some r) : Holds prog 217 [.c (.l api_Prop.enc qs)] ⟨[], []⟩ (Is (z585 qs r)) := by
  unfold z584 at hF
  refine gE hF fun h1 hF => ?_
  refine hW f217 8 0 0 ?_
  refine sR 1 (awp_seq (awp_seq (awp_region (aR 1 (aN api_Prop.enc qs (fun b hb => ?_) rfl)))))
  refine aE ?_
  cases b with
  | true =>
    obtain rfl := hb rfl
    exact tT rfl (sR 1 (awp_ret (oF hF [] [0])))
  | false =>
    refine tF rfl (awp_skip (awp_seq (awp_region (aR 2 (aX (x_app api_Prop.enc 3000 h1) (aR 1 (aE ?_)))))))
    exact awp_ret (oF hF [(0, 5000)] [])

/-! ### beaconfleet/fleetmake.propOrder -/
def z271 (qa : api_Prop) (qb : api_Prop) (r : Unit) : TV × Mem := (.i (Lib.compareBytes qa.Name qb.Name), ⟨[], []⟩)

theorem z272 {qa : api_Prop} {qb : api_Prop} {r} (hF : z270 qa qb = some r) : Holds prog 220 [.v (.agg [.s qa.Name, .i qa.Value.Kind, .t qa.Value.Flag, .i qa.Value.Number, .s qa.Value.Words]), .v (.agg [.s qb.Name, .i qb.Value.Kind, .t qb.Value.Flag, .i qb.Value.Number, .s qb.Value.Words])] ⟨[], []⟩ (Is (z271 qa qb r)) := by
  unfold z270 at hF
  refine hW f220 10 0 0 ?_
  refine sR 3 (awp_seq (bE hF fun _ h1 hF => awp_region (aR 4 (aC (z907 h1) [] [] [] (aR 1 (aE ?_))))))
  exact awp_ret (oF hF [] [])

/-! ### slices.insertionSortCmpFunc[beaconfleet/api.Prop] -/
def z826 (qa : Int) (qb : Int) (vi : Int) (vl3 : List api_Prop) (vj1 : Int) : Bool → St
  | vx4 => Mem.st ⟨[(0, ⟨150, 5, List.map api_Prop.enc vl3⟩)], []⟩ (tl [(0, .c (.own 0 none)), (1, .i qa), (2, .i qb), (3, .c (.fn 220 [])), (8, .i vi), (9, .i vj1), (34, .b vx4)]) 1

def z825 (qa : Int) (qb : Int) (vi : Int) (vl3 : List api_Prop) (vj1 : Int) : St := Mem.st ⟨[(0, ⟨150, 5, List.map api_Prop.enc vl3⟩)], []⟩ (tl [(0, .c (.own 0 none)), (1, .i qa), (2, .i qb), (3, .c (.fn 220 [])), (8, .i vi), (9, .i vj1)]) 1

theorem z827 (qa : Int) (qb : Int) (vi : Int) (vl3 : List api_Prop) (vj1 : Int) {r} (hF : z824 qa vl3 vj1 = some r) : Awp prog 1 53 (cL (cL (cL (cL (cR (cL (cL (cR (cL (cL (cR (cB f306)))))))))))) (Out 1 nrm (z826 qa qb vi vl3 vj1) r) (z825 qa qb vi vl3 vj1) := by
  unfold z824 at hF
  refine cE hF (fun h2 hF => ?_) fun h2 hF => ?_
  · refine bE hF fun vy15 h3 hF => bE hF fun vy16 h4 hF => bE hF fun _ h5 hF => aD ?_
    refine dR 2 ?_
    refine dB h2 ?_
    refine dR 4 ?_
    refine dX (x_idxO api_Prop.enc 0 h3) ?_
    refine dX (x_ldE api_Prop.enc h3) ?_
    refine dR 3 ?_
    refine dX (x_idxO api_Prop.enc 0 h4) ?_
    refine dX (x_ldE api_Prop.enc h4) ?_
    refine dC (z272 h5) [] [] [] ?_
    refine dR 2 ?_
    refine dE ?_
    exact oO hF [] [] rfl
  · refine aD ?_
    refine dR 2 ?_
    refine dB h2 ?_
    refine dR 14 ?_
    refine dE ?_
    exact oO hF [] [] rfl

def z822 : (List api_Prop) → AEx
  | _ => .exit 2

def z821 (qa : Int) (qb : Int) (vi : Int) : (List api_Prop) → St
  | vl4 => Mem.st ⟨[(0, ⟨150, 5, List.map api_Prop.enc vl4⟩)], []⟩ (tl [(0, .c (.own 0 none)), (1, .i qa), (2, .i qb), (3, .c (.fn 220 [])), (8, .i vi)]) 1

def z820 (qa : Int) (qb : Int) (vi : Int) : (List api_Prop) × Int → St
  | (vl3, vj1) => Mem.st ⟨[(0, ⟨150, 5, List.map api_Prop.enc vl3⟩)], []⟩ (tl [(0, .c (.own 0 none)), (1, .i qa), (2, .i qb), (3, .c (.fn 220 [])), (8, .i vi), (9, .i vj1)]) 1

theorem z823 (qa : Int) (qb : Int) (vi : Int) (s : (List api_Prop) × Int) (r : ((List api_Prop) × Int) ⊕ ((List api_Prop))) (hF : z819 qa s = some r) : Awp prog 1 53 (cL (cL (cR (cL (cL (cR (cL (cL (cR (cB f306)))))))))) (Out 1 (kk z822) (SS (z820 qa qb vi) (z821 qa qb vi)) r) (z820 qa qb vi s) := by
  obtain ⟨vl3, vj1⟩ := s
  unfold z819 at hF
  refine awp_seq (awp_seq (awp_to (st' := z825 qa qb vi vl3 vj1) (oT [] []) ?_))
  refine bE hF fun vx4_1 h6 hF => awp_sub (z827 qa qb vi vl3 vj1 h6) ?_
  refine cE hF (fun h7 hF => ?_) fun h7 hF => ?_
  · refine tT h7 (awp_skip (awp_seq (awp_block (bE hF fun vy17 h8 hF => bE hF fun vy18 h9 hF => bE hF fun vy19 h10 hF => aDw [0] ?_))))
    refine dR 8 ?_
    refine dI api_Prop.enc 0 h8 rfl ?_
    refine dX (x_ldE api_Prop.enc h8) ?_
    refine dR 2 ?_
    refine dI api_Prop.enc 0 h9 rfl ?_
    refine dX (x_ldE api_Prop.enc h9) ?_
    refine dI api_Prop.enc 0 h9 rfl ?_
    refine dW api_Prop.enc (api_Prop.mk vy17.Name (api_Value.mk vy17.Value.Kind vy17.Value.Flag vy17.Value.Number vy17.Value.Words)) h9 rfl ?_
    refine dI api_Prop.enc 0 h10 rfl ?_
    refine dW api_Prop.enc (api_Prop.mk vy18.Name (api_Value.mk vy18.Value.Kind vy18.Value.Flag vy18.Value.Number vy18.Value.Words)) h10 rfl ?_
    refine dE ?_
    exact gR 3 (oO hF [] [] rfl)
  · refine tF h7 (awp_exit ?_)
    exact oO hF [] [] rfl

def z817 : (List api_Prop) → AEx
  | _ => .exit 0

def z816 (qa : Int) (qb : Int) : (List api_Prop) → St
  | vl5 => Mem.st ⟨[(0, ⟨150, 5, List.map api_Prop.enc vl5⟩)], []⟩ (tl []) 1

def z815 (qa : Int) (qb : Int) : (List api_Prop) × Int → St
  | (vl, vi) => Mem.st ⟨[(0, ⟨150, 5, List.map api_Prop.enc vl⟩)], []⟩ (tl [(0, .c (.own 0 none)), (1, .i qa), (2, .i qb), (3, .c (.fn 220 [])), (8, .i vi)]) 1

theorem z818 (qa : Int) (qb : Int) (s : (List api_Prop) × Int) (r : ((List api_Prop) × Int) ⊕ ((List api_Prop))) (hF : z814 qa qb s = some r) : Awp prog 1 53 (cL (cL (cR (cB f306)))) (Out 1 (kk z817) (SS (z815 qa qb) (z816 qa qb)) r) (z815 qa qb s) := by
  obtain ⟨vl, vi⟩ := s
  unfold z814 at hF
  refine awp_seq (sR 3 (cE hF (fun h1 hF => ?_) fun h1 hF => ?_))
  · refine tT h1 (awp_skip (awp_seq (awp_block (sR 2 (awp_block (awp_to (st' := z820 qa qb vi (vl, vi)) (oT [] []) ?_))))))
    refine bE hF fun vl4_1 h11 hF => awp_sub (awp_loop' (z820 qa qb vi) z822 (z821 qa qb vi) (by intro x; exact fun h => nomatch h) h11 (z823 qa qb vi)) ?_
    exact gR 3 (oO hF [] [] rfl)
  · refine tF h1 (awp_exit ?_)
    exact oO hF [] [] rfl

def z812 (qdata : List api_Prop) (qa : Int) (qb : Int) (r : (List api_Prop)) : TV × Mem := (.tup [], ⟨[(0, ⟨150, 5, List.map api_Prop.enc r⟩)], []⟩)

theorem z813 {qdata : List api_Prop} {qa : Int} {qb : Int} {r} (hF : z811 qdata qa qb = some r) : Holds prog 306 [.c (.own 0 none), .i qa, .i qb, .c (.fn 220 [])] ⟨[(0, ⟨150, 5, List.map api_Prop.enc qdata⟩)], []⟩ (Is (z812 qdata qa qb r)) := by
  unfold z811 at hF
  refine hW f306 53 1 1 ?_
  refine sR 3 (awp_block (awp_to (st' := z815 qa qb (qdata, IntKind.wrap .i64 (qa + 1))) (oT [] []) ?_))
  refine bE hF fun vl5_1 h12 hF => awp_sub (awp_loop' (z815 qa qb) z817 (z816 qa qb) (by intro x; exact fun h => nomatch h) h12 (z818 qa qb)) ?_
  exact oF hF [] []

/-! ### slices.pdqsortCmpFunc[beaconfleet/api.Prop] -/
def z859 : (List api_Prop) → AEx
  | _ => .ret

def z858 (qx : List api_Prop) (qx1 : Int) (qx2 : Int) (qx3 : Int) : (List api_Prop) → St
  | vl => Mem.st ⟨[(0, ⟨150, 5, List.map api_Prop.enc vl⟩)], []⟩ (tl []) 1

def z857 (qx : List api_Prop) (qx1 : Int) (qx2 : Int) (qx3 : Int) : Unit → St
  | _ => Mem.st ⟨[(0, ⟨150, 5, List.map api_Prop.enc qx⟩)], []⟩ (tl [(0, .c (.own 0 none)), (1, .i qx1), (2, .i qx2), (3, .i qx3), (4, .c (.fn 220 [])), (10, .b true), (11, .b true)]) 1

theorem z860 (qx : List api_Prop) (qx1 : Int) (qx2 : Int) (qx3 : Int) (s : Unit) (r : (Unit) ⊕ ((List api_Prop))) (hF : z856 qx qx1 qx2 qx3 s = some r) : Awp prog 1 148 (cL (cL (cR (cR (cB f271))))) (Out 1 (kk z859) (SS (z857 qx qx1 qx2 qx3) (z858 qx qx1 qx2 qx3)) r) (z857 qx qx1 qx2 qx3 s) := by
  unfold z856 at hF
  refine awp_block (sR 4 (awp_seq (sR 2 (cE hF (fun h1 hF => ?_) fun h1 hF => ?_))))
  · refine tT h1 (awp_seq (bE hF fun vl6_1 h2 hF => gE hF fun h3 hF => ?_))
    refine awp_region (aR 4 (aCp (z813 h2) ⟨⟨rfl, rfl, pin1 h3⟩, trivial⟩ [] [] [] ?_))
    refine aE ?_
    exact awp_ret (oO hF [] [] rfl)
  · refine tF h1 (awp_skip (awp_seq (sR 2 (cE hF (fun h4 hF => ?_) fun h4 hF => ?_))))
    · exact tT h4 (awp_seq (nE hF))
    · exact tF h4 (awp_skip (awp_seq (sR 2 (tF rfl (awp_skip (awp_seq (nE hF)))))))

def z854 (qx : List api_Prop) (qx1 : Int) (qx2 : Int) (qx3 : Int) (r : (List api_Prop)) : TV × Mem := (.tup [], ⟨[(0, ⟨150, 5, List.map api_Prop.enc r⟩)], []⟩)

theorem z855 {qx : List api_Prop} {qx1 : Int} {qx2 : Int} {qx3 : Int} {r} (hF : z853 qx qx1 qx2 qx3 = some r) : Holds prog 271 [.c (.own 0 none), .i qx1, .i qx2, .i qx3, .c (.fn 220 [])] ⟨[(0, ⟨150, 5, List.map api_Prop.enc qx⟩)], []⟩ (Is (z854 qx qx1 qx2 qx3 r)) := by
  unfold z853 at hF
  refine hW f271 148 1 1 ?_
  refine sR 1 (sR 1 (awp_block (awp_to (st' := z857 qx qx1 qx2 qx3 ()) (oT [] []) ?_)))
  refine bE hF fun vl1 h7 hF => awp_sub (awp_loop' (z857 qx qx1 qx2 qx3) z859 (z858 qx qx1 qx2 qx3) (by intro x; exact fun h => nomatch h) h7 (z860 qx qx1 qx2 qx3)) ?_
  exact oF hF [] []

/-! ### slices.SortFunc[[]beaconfleet/api.Prop,beaconfleet/api.Prop] -/
def z749 (qx : List api_Prop) (r : (List api_Prop)) : TV × Mem := (.tup [], ⟨[(0, ⟨150, 5, List.map api_Prop.enc r⟩)], []⟩)

theorem z750 {qx : List api_Prop} {r} (hF : z748 qx = some r) : Holds prog 219 [.c (.own 0 none), .c (.fn 220 [])] ⟨[(0, ⟨150, 5, List.map api_Prop.enc qx⟩)], []⟩ (Is (z749 qx r)) := by
  unfold z748 at hF
  refine hW f219 14 1 1 ?_
  refine awp_seq (awp_region (aR 1 (aL api_Prop.enc qx (aR 1 (aE ?_)))))
  refine bE hF fun vr1 h1 hF => bE hF fun vl2 h2 hF => gE hF fun h3 hF => ?_
  refine awp_region (aR 4 (aC (z92 h1) [] [] [] (aR 1 (aCp (z855 h2) ⟨⟨rfl, rfl, pin1 h3⟩, trivial⟩ [] [] [] ?_))))
  refine aE ?_
  exact oF hF [] []

/-! ### beaconfleet/fleetref2.PropsFault$1 -/
def z423 (qq : api_Prop) (qx : api_Prop) (r : Bool) : TV × Mem := (.b r, ⟨[], [(0, [.s qx.Name, .i qx.Value.Kind, .t qx.Value.Flag, .i qx.Value.Number, .s qx.Value.Words])]⟩)

theorem z424 {qq : api_Prop} {qx : api_Prop} {r} (hF : z422 qq qx = some r) : Holds prog 272 [.v (.agg [.s qq.Name, .i qq.Value.Kind, .t qq.Value.Flag, .i qq.Value.Number, .s qq.Value.Words]), .c (.box 0 0)] ⟨[], [(0, [.s qx.Name, .i qx.Value.Kind, .t qx.Value.Flag, .i qx.Value.Number, .s qx.Value.Words])]⟩ (Is (z423 qq qx r)) := by
  unfold z422 at hF
  refine hW f272 9 1 1 ?_
  refine sR 2 (awp_seq (bE hF fun vr h1 hF => awp_region (aR 4 (aC (z509 h1) [] [] [] (aR 1 (aE ?_))))))
  exact awp_ret (oF hF [] [])

/-! ### slices.IndexFunc[[]beaconfleet/api.Prop,beaconfleet/api.Prop] -/
def z719 : Unit ⊕ Int → AEx
  | .inl _ => .exit 0
  | .inr _ => .ret

def z718 (qs : List api_Prop) (qf : api_Prop) : Unit ⊕ Int → St
  | .inl _ => Mem.st ⟨[], [(0, [.s qf.Name, .i qf.Value.Kind, .t qf.Value.Flag, .i qf.Value.Number, .s qf.Value.Words])]⟩ (tl []) 1
  | .inr vx1 => Mem.st ⟨[], [(0, [.s qf.Name, .i qf.Value.Kind, .t qf.Value.Flag, .i qf.Value.Number, .s qf.Value.Words])]⟩ (tl [(4, .i vx1)]) 1

def z717 (qs : List api_Prop) (qf : api_Prop) : Int → St
  | vx => Mem.st ⟨[], [(0, [.s qf.Name, .i qf.Value.Kind, .t qf.Value.Flag, .i qf.Value.Number, .s qf.Value.Words])]⟩ (tl [(0, .c (.l api_Prop.enc qs)), (1, .c (.fn 272 [0])), (7, .i (qs.length : Int)), (8, .i vx)]) 1

theorem z720 (qs : List api_Prop) (qf : api_Prop) (vx : Int) (r : (Int) ⊕ (Unit ⊕ Int)) (hF : z716 qs qf vx = some r) : Awp prog 1 19 (cL (cL (cR (cL (cR (cB f214)))))) (Out 1 (kk z719) (SS (z717 qs qf) (z718 qs qf)) r) (z717 qs qf vx) := by
  unfold z716 at hF
  refine sR 1 (awp_seq (cE hF (fun h1 hF => ?_) fun h1 hF => ?_))
  · refine tT h1 (awp_skip (awp_seq (awp_block (sR 2 (awp_seq (bE hF fun vy1 h2 hF => bE hF fun vr1_1 h3 hF => awp_region (aR 3 (aX (x_idx api_Prop.enc h2) (aR 1 (aC (z424 h3) [] [] [] (aE ?_)))))))))))
    refine cE hF (fun h4 hF => ?_) fun h4 hF => ?_
    · exact tT h4 (sR 2 (awp_ret (oO hF [] [] rfl)))
    · exact tF h4 (awp_skip (gR 2 (oO hF [] [] rfl)))
  · refine tF h1 (awp_exit ?_)
    exact oO hF [] [] rfl

def z714 (qs : List api_Prop) (qf : api_Prop) (r : Int) : TV × Mem := (.i r, ⟨[], [(0, [.s qf.Name, .i qf.Value.Kind, .t qf.Value.Flag, .i qf.Value.Number, .s qf.Value.Words])]⟩)

theorem z715 {qs : List api_Prop} {qf : api_Prop} {r} (hF : z713 qs qf = some r) : Holds prog 214 [.c (.l api_Prop.enc qs), .c (.fn 272 [0])] ⟨[], [(0, [.s qf.Name, .i qf.Value.Kind, .t qf.Value.Flag, .i qf.Value.Number, .s qf.Value.Words])]⟩ (Is (z714 qs qf r)) := by
  unfold z713 at hF
  refine hW f214 19 1 1 ?_
  refine sR 1 (awp_seq (awp_seq (awp_region (aR 1 (aL api_Prop.enc qs (aR 1 (aE ?_)))))))
  refine awp_block (awp_to (st' := z717 qs qf 0) (oT [] []) ?_)
  refine bE hF fun x h5 hF => ?_
  rcases x with _ | vx1_1
  · refine awp_sub (awp_loop' (z717 qs qf) z719 (z718 qs qf) (by intro x; rcases x with x | x <;> exact fun h => nomatch h) h5 (z720 qs qf)) ?_
    exact sR 1 (awp_ret (oF hF [] []))
  · refine awp_sub (awp_loop' (z717 qs qf) z719 (z718 qs qf) (by intro x; rcases x with x | x <;> exact fun h => nomatch h) h5 (z720 qs qf)) ?_
    exact oF hF [] []

/-! ### slices.ContainsFunc[[]beaconfleet/api.Prop,beaconfleet/api.Prop] -/
def z647 (qs : List api_Prop) (qf : api_Prop) (r : Bool) : TV × Mem := (.b r, ⟨[], [(0, [.s qf.Name, .i qf.Value.Kind, .t qf.Value.Flag, .i qf.Value.Number, .s qf.Value.Words])]⟩)

theorem z648 {qs : List api_Prop} {qf : api_Prop} {r} (hF : z646 qs qf = some r) : Holds prog 124 [.c (.l api_Prop.enc qs), .c (.fn 272 [0])] ⟨[], [(0, [.s qf.Name, .i qf.Value.Kind, .t qf.Value.Flag, .i qf.Value.Number, .s qf.Value.Words])]⟩ (Is (z647 qs qf r)) := by
  unfold z646 at hF
  refine hW f124 9 1 1 ?_
  refine sR 1 (awp_seq (bE hF fun vr h1 hF => awp_region (aR 2 (aC (z715 h1) [] [] [] (aR 2 (aE ?_))))))
  exact awp_ret (oF hF [] [])

/-! ### beaconfleet/fleetref2.PropsFault -/
def z434 (ql : List api_Prop) (vx : Int) (vy2 : api_Prop) : Bool → St
  | vx2 => Mem.st ⟨[], []⟩ (tl [(0, .c (.l api_Prop.enc ql)), (11, .c (.l api_Prop.enc ql)), (12, .i (ql.length : Int)), (13, .i vx), (33, .b vx2)]) 0

def z433 (ql : List api_Prop) (vx : Int) (vy2 : api_Prop) : St := Mem.st ⟨[], [(0, [.s vy2.Name, .i vy2.Value.Kind, .t vy2.Value.Flag, .i vy2.Value.Number, .s vy2.Value.Words])]⟩ (tl [(0, .c (.l api_Prop.enc ql)), (3, .i vx), (4, .c (.box 0 0)), (11, .c (.l api_Prop.enc ql)), (12, .i (ql.length : Int)), (13, .i vx)]) 1

theorem z435 (ql : List api_Prop) (vx : Int) (vy2 : api_Prop) {r} (hF : z432 ql vx vy2 = some r) : Awp prog 0 58 (cL (cR (cR (cL (cR (cR (cR (cL (cL (cR (cR (cL (cL (cR (cL (cR (cR (cB f221)))))))))))))))))) (Out 0 nrm (z434 ql vx vy2) r) (z433 ql vx vy2) := by
  unfold z432 at hF
  refine cE hF (fun h9 hF => ?_) fun h9 hF => ?_
  · refine bE hF fun vy3 h10 hF => aD ?_
    refine dR 1 ?_
    refine dB h9 ?_
    refine dR 6 ?_
    refine dX (x_idx api_Prop.enc h10) ?_
    refine dR 5 ?_
    refine dE ?_
    exact oO hF [] [] rfl
  · refine aD ?_
    refine dR 1 ?_
    refine dB h9 ?_
    refine dR 12 ?_
    refine dE ?_
    exact oO hF [] [] rfl

def z430 : Unit ⊕ Int → AEx
  | .inl _ => .exit 0
  | .inr _ => .ret

def z429 (ql : List api_Prop) : Unit ⊕ Int → St
  | .inl _ => Mem.st ⟨[], []⟩ (tl [(0, .c (.l api_Prop.enc ql))]) 0
  | .inr vx3 => Mem.st ⟨[], []⟩ (tl [(2, .i vx3)]) 0

def z428 (ql : List api_Prop) : Int → St
  | vx => Mem.st ⟨[], []⟩ (tl [(0, .c (.l api_Prop.enc ql)), (11, .c (.l api_Prop.enc ql)), (12, .i (ql.length : Int)), (13, .i vx)]) 0

theorem z431 (ql : List api_Prop) (vx : Int) (r : (Int) ⊕ (Unit ⊕ Int)) (hF : z427 ql vx = some r) : Awp prog 0 58 (cL (cL (cR (cL (cR (cR (cB f221))))))) (Out 0 (kk z430) (SS (z428 ql) (z429 ql)) r) (z428 ql vx) := by
  unfold z427 at hF
  refine sR 1 (awp_seq (cE hF (fun h2 hF => ?_) fun h2 hF => ?_))
  · refine tT h2 (awp_skip (awp_seq (awp_block (awp_seq (bE hF fun vy2 h3 hF => awp_region (aR 1 (aX (x_idx api_Prop.enc h3) (aR 4 (aE ?_)))))))))
    refine awp_seq (awp_seq (bE hF fun vr2_1 h4 hF => awp_region (aR 2 (aC (z416 h4) [] [] [] (aR 1 (aE ?_))))))
    refine cE hF (fun h5 hF => ?_) fun h5 hF => ?_
    · exact tT h5 (sR 1 (awp_ret (oO hF [] [] rfl)))
    · refine tF h5 (awp_skip (awp_seq (awp_seq (bE hF fun vr3_1 h6 hF => awp_region (aR 2 (aC (z470 h6) [] [] [] (aR 1 (aE ?_))))))))
      refine sR 2 (cE hF (fun h7 hF => ?_) fun h7 hF => ?_)
      · exact tT h7 (sR 2 (awp_ret (oO hF [] [] rfl)))
      · refine tF h7 (awp_skip (awp_block (sR 5 (cE hF (fun h8 hF => ?_) fun h8 hF => ?_))))
        · exact tT h8 (sR 1 (awp_ret (oO hF [] [] rfl)))
        · refine tF h8 (awp_seq (awp_to (st' := z433 ql vx vy2) (oT [(0, 4000)] []) ?_))
          refine bE hF fun vx2_1 h11 hF => awp_sub (z435 ql vx vy2 h11) ?_
          refine cE hF (fun h12 hF => ?_) fun h12 hF => ?_
          · exact tT h12 (sR 1 (awp_ret (oO hF [] [] rfl)))
          · exact tF h12 (awp_skip (gR 2 (oO hF [] [] rfl)))
  · refine tF h2 (awp_exit ?_)
    exact oO hF [] [] rfl

def z439 : Unit ⊕ Unit → AEx
  | .inl _ => .exit 3
  | .inr _ => .ret

def z438 (ql : List api_Prop) : Unit ⊕ Unit → St
  | .inl _ => Mem.st ⟨[], []⟩ (tl []) 0
  | .inr _ => Mem.st ⟨[], []⟩ (tl [(2, .i 13)]) 0

def z437 (ql : List api_Prop) : Int → St
  | vx4 => Mem.st ⟨[], []⟩ (tl [(0, .c (.l api_Prop.enc ql)), (48, .c (.l api_Prop.enc ql)), (49, .i (ql.length : Int)), (50, .i vx4)]) 0

theorem z440 (ql : List api_Prop) (vx4 : Int) (r : (Int) ⊕ (Unit ⊕ Unit)) (hF : z436 ql vx4 = some r) : Awp prog 0 58 (cL (cL (cR (cL (cR (cR (cR (cB f221)))))))) (Out 0 (kk z439) (SS (z437 ql) (z438 ql)) r) (z437 ql vx4) := by
  unfold z436 at hF
  refine sR 1 (awp_seq (cE hF (fun h14 hF => ?_) fun h14 hF => ?_))
  · refine tT h14 (awp_skip (awp_seq (awp_block (awp_seq (bE hF fun vy5 h15 hF => awp_region (aX (x_idx api_Prop.enc h15) (aR 3 (aE ?_))))))))
    refine awp_seq (bE hF fun vr1_1 h16 hF => awp_region (aR 2 (aC (z648 h16) [(0, 3000)] [] [] (aE ?_))))
    refine cE hF (fun h17 hF => ?_) fun h17 hF => ?_
    · exact tT h17 (sR 1 (awp_ret (oO hF [] [] rfl)))
    · exact tF h17 (awp_skip (gR 2 (oO hF [] [] rfl)))
  · refine tF h14 (awp_exit ?_)
    exact oO hF [] [] rfl

def z425 (ql : List api_Prop) (r : Int) : TV × Mem := (.i r, ⟨[], []⟩)

theorem z426 {ql : List api_Prop} {r} (hF : z421 ql = some r) : Holds prog 221 [.c (.l api_Prop.enc ql)] ⟨[], []⟩ (Is (z425 ql r)) := by
  unfold z421 at hF
  refine hW f221 58 0 0 ?_
  refine sR 1 (awp_seq (awp_seq (awp_region (aR 1 (aL api_Prop.enc ql (aR 1 (aE ?_)))))))
  refine cE hF (fun h1 hF => ?_) fun h1 hF => ?_
  · exact tT h1 (sR 1 (awp_ret (oF hF [] [])))
  · refine tF h1 (awp_skip (awp_seq (awp_seq (awp_region (aR 1 (aL api_Prop.enc ql (aR 1 (aE ?_))))))))
    refine awp_block (awp_to (st' := z428 ql 0) (oT [] []) ?_)
    refine bE hF fun x h13 hF => ?_
    rcases x with _ | vx3_1
    · refine awp_sub (awp_loop' (z428 ql) z430 (z429 ql) (by intro x; rcases x with x | x <;> exact fun h => nomatch h) h13 (z431 ql)) ?_
      refine awp_seq (awp_seq (awp_region (aR 1 (aL api_Prop.enc ql (aR 1 (aE ?_))))))
      refine awp_block (awp_to (st' := z437 ql 0) (oT [] []) ?_)
      refine bE hF fun x h18 hF => ?_
      rcases x with _ | _
      · refine awp_sub (awp_loop' (z437 ql) z439 (z438 ql) (by intro x; rcases x with x | x <;> exact fun h => nomatch h) h18 (z440 ql)) ?_
        exact sR 1 (awp_ret (oF hF [] []))
      · refine awp_sub (awp_loop' (z437 ql) z439 (z438 ql) (by intro x; rcases x with x | x <;> exact fun h => nomatch h) h18 (z440 ql)) ?_
        exact oF hF [] []
    · refine awp_sub (awp_loop' (z428 ql) z430 (z429 ql) (by intro x; rcases x with x | x <;> exact fun h => nomatch h) h13 (z431 ql)) ?_
      exact oF hF [] []

/-! ### (*beaconfleet/fleetmake.Stream).RightProps -/
def z239 (vr : Int) (vs1 : z177) (vout : List api_Prop) (vx : Int) : (List api_Prop) → St
  | vout2 => Mem.st ⟨[(1, ⟨150, 5, List.map api_Prop.enc vout2⟩)], [(0, [.l (encI .i64) vs1.L, .i (IntKind.wrap .i64 ((IntKind.wrap .i64 ((IntKind.wrap .i64 (vs1.at_ + 1)) + 1)) + 1))])]⟩ (tl [(0, .c (.box 0 0)), (3, .c (.own 1 none)), (6, .i vr), (7, .i vx)]) 2

def z238 (vr : Int) (vs1 : z177) (vout : List api_Prop) (vx : Int) : St := Mem.st ⟨[(1, ⟨150, 5, List.map api_Prop.enc vout⟩)], [(0, [.l (encI .i64) vs1.L, .i vs1.at_])]⟩ (tl [(0, .c (.box 0 0)), (3, .c (.own 1 none)), (6, .i vr), (7, .i vx)]) 2

theorem z240 (vr : Int) (vs1 : z177) (vout : List api_Prop) (vx : Int) {r} (hF : z237 vs1 vout = some r) : Awp prog 1 27 (cL (cR (cR (cL (cL (cR (cL (cR (cR (cB f134)))))))))) (Out 1 nrm (z239 vr vs1 vout vx) r) (z238 vr vs1 vout vx) := by
  unfold z237 at hF
  refine awp_block (awp_seq (bE hF fun vr5 h3 hF => bE hF fun vr6 h4 hF => bE hF fun vr4_1 h5 hF => gE hF fun h6 hF => ?_))
  refine awp_region (aR 1 (aCf (z586 h3) (plainO_one (f := api_Prop.enc) fun _ => by kernel_rfl) [] [] [1] ?_))
  refine aR 2 (aC (z249 h4) [(1, 3002)] [] [] (aR 1 (aC (z246 h5) [] [] [] (aR 2 (aX (x_app api_Prop.enc 1002 h6) (aR 1 (aE ?_)))))))
  refine awp_seq (bE hF fun vl1 h7 hF => gE hF fun h8 hF => ?_)
  refine awp_region (aR 1 (aCp (z750 h7) ⟨⟨rfl, rfl, pin1 h8⟩, trivial⟩ [(0, 9002)] [] [] ?_))
  refine aE ?_
  refine awp_seq (bE hF fun vr7 h9 hF => awp_region (aR 1 (aC (z426 h9) [] [] [9002] (aR 1 (aE ?_)))))
  refine cE hF (fun h10 hF => ?_) fun h10 hF => ?_
  · exact tT h10 (gR 2 (oO hF [(1, 9002)] [] rfl))
  · exact tF h10 (awp_skip (oO hF [] [] rfl))

def z235 : (z177 × (List api_Prop)) → AEx
  | _ => .exit 0

def z234 (vr : Int) : (z177 × (List api_Prop)) → St
  | (vs2, vout3) => Mem.st ⟨[(1, ⟨150, 5, List.map api_Prop.enc vout3⟩)], [(0, [.l (encI .i64) vs2.L, .i vs2.at_])]⟩ (tl [(3, .c (.own 1 none))]) 2

def z233 (vr : Int) : z177 × (List api_Prop) × Int → St
  | (vs1, vout, vx) => Mem.st ⟨[(1, ⟨150, 5, List.map api_Prop.enc vout⟩)], [(0, [.l (encI .i64) vs1.L, .i vs1.at_])]⟩ (tl [(0, .c (.box 0 0)), (3, .c (.own 1 none)), (6, .i vr), (7, .i vx)]) 2

theorem z236 (vr : Int) (s : z177 × (List api_Prop) × Int) (r : (z177 × (List api_Prop) × Int) ⊕ ((z177 × (List api_Prop)))) (hF : z232 vr s = some r) : Awp prog 1 27 (cL (cL (cR (cL (cR (cR (cB f134))))))) (Out 1 (kk z235) (SS (z233 vr) (z234 vr)) r) (z233 vr s) := by
  obtain ⟨vs1, vout, vx⟩ := s
  unfold z232 at hF
  refine sR 1 (awp_seq (cE hF (fun h2 hF => ?_) fun h2 hF => ?_))
  · refine tT h2 (awp_skip (awp_seq (awp_to (st' := z238 vr vs1 vout vx) (oT [] []) ?_)))
    refine bE hF fun vout2_1 h11 hF => awp_sub (z240 vr vs1 vout vx h11) ?_
    exact gR 2 (oO hF [] [] rfl)
  · refine tF h2 (awp_exit ?_)
    exact oO hF [] [] rfl

def z230 (qs : z177) (r : z177 × (List api_Prop)) : TV × Mem := (.c (.own 1 none), ⟨[(1, ⟨150, 5, List.map api_Prop.enc r.2⟩)], [(0, [.l (encI .i64) r.1.L, .i r.1.at_])]⟩)

theorem z231 {qs : z177} {r} (hF : z229 qs = some r) : Holds prog 134 [.c (.box 0 0)] ⟨[], [(0, [.l (encI .i64) qs.L, .i qs.at_])]⟩ (Is (z230 qs r)) := by
  unfold z229 at hF
  refine hW f134 27 1 1 ?_
  refine sR 1 (sR 1 (awp_seq (awp_seq (bE hF fun x h1 hF => ?_))))
  obtain ⟨vs, vr⟩ := x
  refine awp_region (aR 1 (aC (z213 h1) [] [] [] (aR 1 (aE ?_))))
  refine awp_block (awp_to (st' := z233 vr (vs, [], 0)) (oT [] [1]) ?_)
  refine bE hF fun x h12 hF => ?_
  obtain ⟨vs2_1, vout3_1⟩ := x
  refine awp_sub (awp_loop' (z233 vr) z235 (z234 vr) (by intro x; exact fun h => nomatch h) h12 (z236 vr)) ?_
  exact sR 2 (awp_ret (oF hF [] []))

/-! ### beaconfleet/fleetref2.ValueOf -/
def z483 : Unit → AEx
  | _ => .exit 0

def z482 (qname : List UInt8) : Unit → St
  | _ => Mem.st ⟨[], [(0, [.i 0, .t false, .i 0, .s ([] : List UInt8)])]⟩ (tl [(4, .c (.box 0 0))]) 1

def z481 (qname : List UInt8) : Unit → St
  | _ => Mem.st ⟨[], [(0, [.i 0, .t false, .i 0, .s ([] : List UInt8)])]⟩ (tl [(1, .c (.s qname)), (4, .c (.box 0 0)), (7, .c (.nil)), (8, .i 0), (9, .i 0)]) 1

theorem z484 (qname : List UInt8) (s : Unit) (r : (Unit) ⊕ (Unit)) (hF : z480  s = some r) : Awp prog 0 21 (cL (cL (cR (cL (cR (cB f132)))))) (Out 0 (kk z483) (SS (z481 qname) (z482 qname)) r) (z481 qname s) := by
  unfold z480 at hF
  refine sR 1 (awp_seq (cE hF (fun h1 hF => ?_) fun h1 hF => ?_))
  · exact tT h1 (awp_skip (awp_seq (awp_block (awp_seq (nE hF)))))
  · refine tF h1 (awp_exit ?_)
    exact oO hF [] [] rfl

def z478 (qname : List UInt8) (r : Unit) : TV × Mem := (.v (.agg [.i 0, .t false, .i 0, .s ([] : List UInt8)]), ⟨[], []⟩)

theorem z479 {qname : List UInt8} {r} (hF : z477 qname = some r) : Holds prog 132 [.c (.nil), .c (.s qname)] ⟨[], []⟩ (Is (z478 qname r)) := by
  unfold z477 at hF
  refine hW f132 21 0 0 ?_
  refine sR 1 (awp_seq (sR 3 (awp_block (awp_to (st' := z481 qname ()) (oT [] []) ?_))))
  refine bE hF fun _ h3 hF => awp_sub (awp_loop' (z481 qname) z483 (z482 qname) (by intro x; exact fun h => nomatch h) h3 (z484 qname)) ?_
  exact sR 2 (awp_ret (oF hF [] []))

/-! ### beaconfleet/fleetref2.DifferOf -/
def z317 (qb : List api_Prop) (vr1 : List (List UInt8)) (vout : List api_Change) (vx : Int) : (List api_Change) → St
  | vout2 => Mem.st ⟨[(1, ⟨92, 9, List.map api_Change.enc vout2⟩)], []⟩ (tl [(0, .c (.nil)), (1, .c (.l api_Prop.enc qb)), (5, .c (.own 1 none)), (13, .c (.l encS vr1)), (14, .i (vr1.length : Int)), (15, .i vx)]) 2

def z316 (qb : List api_Prop) (vr1 : List (List UInt8)) (vout : List api_Change) (vx : Int) : St := Mem.st ⟨[(1, ⟨92, 9, List.map api_Change.enc vout⟩)], []⟩ (tl [(0, .c (.nil)), (1, .c (.l api_Prop.enc qb)), (5, .c (.own 1 none)), (13, .c (.l encS vr1)), (14, .i (vr1.length : Int)), (15, .i vx)]) 2

theorem z318 (qb : List api_Prop) (vr1 : List (List UInt8)) (vout : List api_Change) (vx : Int) {r} (hF : z315 qb vr1 vout vx = some r) : Awp prog 1 37 (cL (cR (cR (cL (cL (cR (cL (cR (cR (cB f133)))))))))) (Out 1 nrm (z317 qb vr1 vout vx) r) (z316 qb vr1 vout vx) := by
  unfold z315 at hF
  refine awp_block (awp_seq (bE hF fun vy1 h3 hF => awp_region (aX (x_idx encS h3) (aR 2 (aE ?_)))))
  refine awp_seq (bE hF fun _ h4 hF => bE hF fun vr2 h5 hF => awp_region (aR 2 (aC (z479 h4) [] [] [] (aR 2 (aC (z485 h5) [] [] [] (aR 4 (aE ?_)))))))
  refine awp_seq (awp_region (aR 2 (aS (does_eqS (op := .neq) (xs := [.int .i64 0, .bool false, .int .i64 0, .str ([] : List UInt8)]) (ys := [.int .i64 vr2.Kind, .bool vr2.Flag, .int .i64 vr2.Number, .str vr2.Words]) (b := (decide ((0 : Int) = vr2.Kind) && ((false == vr2.Flag) && (decide ((0 : Int) = vr2.Number) && (decide (([] : List UInt8) = vr2.Words) && true))))) (c := (!(decide ((0 : Int) = vr2.Kind) && ((false == vr2.Flag) && (decide ((0 : Int) = vr2.Number) && (decide (([] : List UInt8) = vr2.Words) && true)))))) rfl (.inr ⟨rfl, rfl⟩) (by kernel_rfl) (by kernel_rfl) (by kernel_rfl) (by kernel_rfl) (by kernel_rfl) (by kernel_rfl)) ?_)))
  refine aE ?_
  refine cE hF (fun h6 hF => ?_) fun h6 hF => ?_
  · refine tT h6 (gE hF fun h7 hF => ?_)
    refine awp_region (aR 6 (aX (x_app api_Change.enc 1 h7) (aR 1 (aE ?_))))
    exact oO hF [(1, 22002)] [] rfl
  · exact tF h6 (awp_skip (oO hF [] [] rfl))

def z313 : (List api_Change) → AEx
  | _ => .exit 0

def z312 (qb : List api_Prop) (vr1 : List (List UInt8)) : (List api_Change) → St
  | vout3 => Mem.st ⟨[(1, ⟨92, 9, List.map api_Change.enc vout3⟩)], []⟩ (tl [(5, .c (.own 1 none))]) 2

def z311 (qb : List api_Prop) (vr1 : List (List UInt8)) : (List api_Change) × Int → St
  | (vout, vx) => Mem.st ⟨[(1, ⟨92, 9, List.map api_Change.enc vout⟩)], []⟩ (tl [(0, .c (.nil)), (1, .c (.l api_Prop.enc qb)), (5, .c (.own 1 none)), (13, .c (.l encS vr1)), (14, .i (vr1.length : Int)), (15, .i vx)]) 2

theorem z314 (qb : List api_Prop) (vr1 : List (List UInt8)) (s : (List api_Change) × Int) (r : ((List api_Change) × Int) ⊕ ((List api_Change))) (hF : z310 qb vr1 s = some r) : Awp prog 1 37 (cL (cL (cR (cL (cR (cR (cB f133))))))) (Out 1 (kk z313) (SS (z311 qb vr1) (z312 qb vr1)) r) (z311 qb vr1 s) := by
  obtain ⟨vout, vx⟩ := s
  unfold z310 at hF
  refine sR 1 (awp_seq (cE hF (fun h2 hF => ?_) fun h2 hF => ?_))
  · refine tT h2 (awp_skip (awp_seq (awp_to (st' := z316 qb vr1 vout vx) (oT [] []) ?_)))
    refine bE hF fun vout2_1 h8 hF => awp_sub (z318 qb vr1 vout vx h8) ?_
    exact gR 2 (oO hF [] [] rfl)
  · refine tF h2 (awp_exit ?_)
    exact oO hF [] [] rfl

def z308 (qb : List api_Prop) (r : (List api_Change)) : TV × Mem := (.c (.own 1 none), ⟨[(1, ⟨92, 9, List.map api_Change.enc r⟩)], []⟩)

theorem z309 {qb : List api_Prop} {r} (hF : z307 qb = some r) : Holds prog 133 [.c (.nil), .c (.own 0 none)] ⟨[(0, ⟨150, 5, List.map api_Prop.enc qb⟩)], []⟩ (Is (z308 qb r)) := by
  unfold z307 at hF
  refine hW f133 37 1 1 ?_
  refine sR 1 (awp_to (oT (m := ⟨[], []⟩) (ts := [(0, .c (.nil)), (1, .c (.l api_Prop.enc qb))]) (nx := 1) [] []) ?_)
  refine sR 1 (awp_seq (awp_seq (bE hF fun vr1 h1 hF => awp_region (aR 3 (aC (z536 h1) [(0, 3001)] [] [] (aL encS vr1 (aR 1 (aE ?_))))))))
  refine awp_to (oT (m := ⟨[], []⟩) (ts := [(0, .c (.nil)), (1, .c (.l api_Prop.enc qb)), (5, .c (.nil)), (13, .c (.l encS vr1)), (14, .i (vr1.length : Int)), (15, .i 0)]) (nx := 1) [] []) ?_
  refine awp_block (awp_to (st' := z311 qb vr1 ([], 0)) (oT [] [1]) ?_)
  refine bE hF fun vout3_1 h9 hF => awp_sub (awp_loop' (z311 qb vr1) z313 (z312 qb vr1) (by intro x; exact fun h => nomatch h) h9 (z314 qb vr1)) ?_
  exact sR 2 (awp_ret (oF hF [] []))

/-! ### (*beaconfleet/fleetmake.Stream).Changes -/
def z194 (vs3 : z177) (vr3 : List api_Change) : (z177 × Bool) → St
  | (vs, vx) => Mem.st ⟨[(1, ⟨92, 9, List.map api_Change.enc vr3⟩)], [(0, [.l (encI .i64) vs.L, .i vs.at_])]⟩ (tl [(0, .c (.box 0 0)), (5, .c (.own 1 none)), (17, .b vx)]) 2

def z193 (vs3 : z177) (vr3 : List api_Change) : St := Mem.st ⟨[(1, ⟨92, 9, List.map api_Change.enc vr3⟩)], [(0, [.l (encI .i64) vs3.L, .i vs3.at_])]⟩ (tl [(0, .c (.box 0 0)), (5, .c (.own 1 none))]) 2

theorem z195 (vs3 : z177) (vr3 : List api_Change) {r} (hF : z192 vs3 vr3 = some r) : Awp prog 1 55 (cL (cL (cR (cR (cB f46))))) (Out 1 nrm (z194 vs3 vr3) r) (z193 vs3 vr3) := by
  unfold z192 at hF
  refine cE hF (fun h3 hF => ?_) fun h3 hF => ?_
  · refine bE hF fun vr h4 hF => awp_region (aR 1 (aL api_Change.enc vr3 (aB h3 (aR 2 (aC (z198 h4) [] [] [] (aR 1 (aE ?_)))))))
    exact oO hF [] [] rfl
  · refine awp_region (aR 1 (aL api_Change.enc vr3 (aB h3 (aR 4 (aE ?_)))))
    exact oO hF [] [] rfl

def z190 (vs3 : z177) (vr3 : List api_Change) : (z177 × (List api_Change)) → St
  | (vs2, vout) => Mem.st ⟨[(1, ⟨92, 9, List.map api_Change.enc vout⟩)], [(0, [.l (encI .i64) vs2.L, .i vs2.at_])]⟩ (tl [(5, .c (.own 1 none))]) 2

def z189 (vs3 : z177) (vr3 : List api_Change) : St := Mem.st ⟨[(1, ⟨92, 9, List.map api_Change.enc vr3⟩)], [(0, [.l (encI .i64) vs3.L, .i vs3.at_])]⟩ (tl [(0, .c (.box 0 0)), (5, .c (.own 1 none))]) 2

theorem z191 (vs3 : z177) (vr3 : List api_Change) {r} (hF : z188 vs3 vr3 = some r) : Awp prog 1 55 (cL (cR (cR (cB f46)))) (Out 1 nrm (z190 vs3 vr3) r) (z189 vs3 vr3) := by
  unfold z188 at hF
  refine awp_seq (awp_to (st' := z193 vs3 vr3) (oT [] []) ?_)
  refine bE hF fun x h5 hF => ?_
  obtain ⟨vs1, vx1⟩ := x
  refine awp_sub (z195 vs3 vr3 h5) ?_
  refine cE hF (fun h6 hF => ?_) fun h6 hF => ?_
  · refine tT h6 (awp_seq (bE hF fun vr3_1 h7 hF => bE hF fun vy h8 hF => awp_region (aR 3 (aL api_Change.enc vr3 (aC (z201 h7) [] [] [] (aX (x_idxO api_Change.enc 1 h8) (aR 1 (aE ?_))))))))
    refine awp_seq (bE hF fun vr3_2 h9 hF => awp_region (aR 1 (aC (z201 h9) [] [] [] (aE ?_))))
    refine awp_block (sR 2 (cE hF (fun h10 hF => ?_) fun h10 hF => ?_))
    · refine tT h10 (bE hF fun vr4 h11 hF => awp_region (aR 2 (aC (z210 h11) [] [] [] (aR 2 (aX (x_stE api_Change.enc (api_Change.mk vr4 (api_Value.mk vy.From.Kind vy.From.Flag vy.From.Number vy.From.Words) (api_Value.mk vy.To.Kind vy.To.Flag vy.To.Number vy.To.Words)) h8) (aE ?_))))))
      exact oO hF [] [] rfl
    · refine tF h10 (sR 2 (cE hF (fun h12 hF => ?_) fun h12 hF => ?_))
      · refine tT h12 (bE hF fun x h13 hF => ?_)
        obtain ⟨vs3_1, vr7⟩ := x
        refine awp_region (aR 2 (aC (z262 h13) [] [] [] (aR 2 (aX (x_stE api_Change.enc (api_Change.mk vy.Name vr7 (api_Value.mk vy.To.Kind vy.To.Flag vy.To.Number vy.To.Words)) h8) (aE ?_)))))
        exact oO hF [] [] rfl
      · refine tF h12 (sR 2 (cE hF (fun h14 hF => ?_) fun h14 hF => ?_))
        · refine tT h14 (bE hF fun x h15 hF => ?_)
          obtain ⟨vs3_2, vr7_1⟩ := x
          refine awp_region (aR 2 (aC (z262 h15) [] [] [] (aR 2 (aX (x_stE api_Change.enc (api_Change.mk vy.Name (api_Value.mk vy.From.Kind vy.From.Flag vy.From.Number vy.From.Words) vr7_1) h8) (aE ?_)))))
          exact oO hF [] [] rfl
        · refine tF h14 (awp_region (aR 4 (aX (x_ldE api_Change.enc h8) (aR 2 (aX (x_stE api_Change.enc (api_Change.mk vy.Name (api_Value.mk vy.To.Kind vy.To.Flag vy.To.Number vy.To.Words) (api_Value.mk vy.To.Kind vy.To.Flag vy.To.Number vy.To.Words)) h8) (aE ?_))))))
          exact oO hF [] [] rfl
  · exact tF h6 (awp_skip (oO hF [] [] rfl))

def z186 (qs : z177) (r : z177 × (List api_Change)) : TV × Mem := (.c (.own 1 none), ⟨[(1, ⟨92, 9, List.map api_Change.enc r.2⟩)], [(0, [.l (encI .i64) r.1.L, .i r.1.at_])]⟩)

theorem z187 {qs : z177} {r} (hF : z185 qs = some r) : Holds prog 46 [.c (.box 0 0), .c (.nil)] ⟨[], [(0, [.l (encI .i64) qs.L, .i qs.at_])]⟩ (Is (z186 qs r)) := by
  unfold z185 at hF
  refine hW f46 55 1 1 ?_
  refine sR 1 (awp_seq (bE hF fun x h1 hF => ?_))
  obtain ⟨vs3, vr8⟩ := x
  refine bE hF fun vr3 h2 hF => awp_region (aR 2 (aC (z231 h1) [] [] [] (aC (z309 h2) [(0, 3002)] [] [] (aR 1 (aE ?_)))))
  refine awp_seq (awp_to (st' := z189 vs3 vr3) (oT [(1, 4002)] []) ?_)
  refine bE hF fun x h16 hF => ?_
  obtain ⟨vs2_1, vout1⟩ := x
  refine awp_sub (z191 vs3 vr3 h16) ?_
  exact sR 2 (awp_ret (oF hF [] []))

/-! ### beaconfleet/twin.CheckChanges -/
def z1021 (ql : List api_Change) (vx : Int) (vy2 : api_Change) : Bool → St
  | vx2 => Mem.st ⟨[], []⟩ (tl [(0, .c (.l api_Change.enc ql)), (9, .c (.l api_Change.enc ql)), (10, .i (ql.length : Int)), (11, .i vx), (48, .b vx2)]) 0

def z1020 (ql : List api_Change) (vx : Int) (vy2 : api_Change) : St := Mem.st ⟨[], [(0, [.s vy2.Name, .i vy2.From.Kind, .t vy2.From.Flag, .i vy2.From.Number, .s vy2.From.Words, .i vy2.To.Kind, .t vy2.To.Flag, .i vy2.To.Number, .s vy2.To.Words])]⟩ (tl [(0, .c (.l api_Change.enc ql)), (3, .i vx), (4, .c (.box 0 0)), (9, .c (.l api_Change.enc ql)), (10, .i (ql.length : Int)), (11, .i vx)]) 1

theorem z1022 (ql : List api_Change) (vx : Int) (vy2 : api_Change) {r} (hF : z1019 ql vx vy2 = some r) : Awp prog 0 50 (cL (cR (cR (cR (cR (cL (cL (cR (cR (cL (cL (cR (cL (cR (cR (cB f138)))))))))))))))) (Out 0 nrm (z1021 ql vx vy2) r) (z1020 ql vx vy2) := by
  unfold z1019 at hF
  refine cE hF (fun h11 hF => ?_) fun h11 hF => ?_
  · refine bE hF fun vy3 h12 hF => aD ?_
    refine dR 1 ?_
    refine dB h11 ?_
    refine dR 6 ?_
    refine dX (x_idx api_Change.enc h12) ?_
    refine dR 4 ?_
    refine dE ?_
    exact oO hF [] [] rfl
  · refine aD ?_
    refine dR 1 ?_
    refine dB h11 ?_
    refine dR 11 ?_
    refine dE ?_
    exact oO hF [] [] rfl

def z1017 : Unit ⊕ Int → AEx
  | .inl _ => .exit 0
  | .inr _ => .ret

def z1016 (ql : List api_Change) : Unit ⊕ Int → St
  | .inl _ => Mem.st ⟨[], []⟩ (tl []) 0
  | .inr vx3 => Mem.st ⟨[], []⟩ (tl [(2, .i vx3)]) 0

def z1015 (ql : List api_Change) : Int → St
  | vx => Mem.st ⟨[], []⟩ (tl [(0, .c (.l api_Change.enc ql)), (9, .c (.l api_Change.enc ql)), (10, .i (ql.length : Int)), (11, .i vx)]) 0

theorem z1018 (ql : List api_Change) (vx : Int) (r : (Int) ⊕ (Unit ⊕ Int)) (hF : z1014 ql vx = some r) : Awp prog 0 50 (cL (cL (cR (cL (cR (cR (cB f138))))))) (Out 0 (kk z1017) (SS (z1015 ql) (z1016 ql)) r) (z1015 ql vx) := by
  unfold z1014 at hF
  refine sR 1 (awp_seq (cE hF (fun h2 hF => ?_) fun h2 hF => ?_))
  · refine tT h2 (awp_skip (awp_seq (awp_block (awp_seq (bE hF fun vy2 h3 hF => awp_region (aR 1 (aX (x_idx api_Change.enc h3) (aR 4 (aE ?_)))))))))
    refine awp_seq (awp_seq (bE hF fun vr3 h4 hF => awp_region (aR 2 (aC (z1172 h4) [] [] [] (aR 1 (aE ?_))))))
    refine cE hF (fun h5 hF => ?_) fun h5 hF => ?_
    · exact tT h5 (sR 1 (awp_ret (oO hF [] [] rfl)))
    · refine tF h5 (awp_skip (awp_seq (awp_seq (bE hF fun vr2_2 h6 hF => bE hF fun vr2_3 h7 hF => bE hF fun vr4 h8 hF => aD ?_))))
      refine dR 2 ?_
      refine dC (z1226 h6) [] [] [] ?_
      refine dR 2 ?_
      refine dC (z1226 h7) [] [] [] ?_
      refine dR 1 ?_
      refine dC (z26 h8) [] [] [17000] ?_
      refine dR 1 ?_
      refine dE ?_
      refine sR 2 (cE hF (fun h9 hF => ?_) fun h9 hF => ?_)
      · exact tT h9 (sR 2 (awp_ret (oO hF [] [] rfl)))
      · refine tF h9 (awp_skip (awp_seq (awp_seq (awp_region (aR 4 (aS (does_eqS (op := .eql) (xs := [.int .i64 vy2.From.Kind, .bool vy2.From.Flag, .int .i64 vy2.From.Number, .str vy2.From.Words]) (ys := [.int .i64 vy2.To.Kind, .bool vy2.To.Flag, .int .i64 vy2.To.Number, .str vy2.To.Words]) (b := (decide (vy2.From.Kind = vy2.To.Kind) && ((vy2.From.Flag == vy2.To.Flag) && (decide (vy2.From.Number = vy2.To.Number) && (decide (vy2.From.Words = vy2.To.Words) && true))))) (c := (decide (vy2.From.Kind = vy2.To.Kind) && ((vy2.From.Flag == vy2.To.Flag) && (decide (vy2.From.Number = vy2.To.Number) && (decide (vy2.From.Words = vy2.To.Words) && true))))) rfl (.inl ⟨rfl, rfl⟩) (by kernel_rfl) (by kernel_rfl) (by kernel_rfl) (by kernel_rfl) (by kernel_rfl) (by kernel_rfl)) ?_))))))
        refine aE ?_
        refine cE hF (fun h10 hF => ?_) fun h10 hF => ?_
        · exact tT h10 (sR 1 (awp_ret (oO hF [] [] rfl)))
        · refine tF h10 (awp_skip (awp_seq (awp_to (st' := z1020 ql vx vy2) (oT [(0, 4000)] []) ?_)))
          refine bE hF fun vx2_1 h13 hF => awp_sub (z1022 ql vx vy2 h13) ?_
          refine cE hF (fun h14 hF => ?_) fun h14 hF => ?_
          · exact tT h14 (sR 1 (awp_ret (oO hF [] [] rfl)))
          · exact tF h14 (awp_skip (gR 2 (oO hF [] [] rfl)))
  · refine tF h2 (awp_exit ?_)
    exact oO hF [] [] rfl

def z1012 (ql : List api_Change) (r : Int) : TV × Mem := (.i r, ⟨[], []⟩)

theorem z1013 {ql : List api_Change} {r} (hF : z1011 ql = some r) : Holds prog 138 [.c (.l api_Change.enc ql)] ⟨[], []⟩ (Is (z1012 ql r)) := by
  unfold z1011 at hF
  refine hW f138 50 0 0 ?_
  refine sR 1 (awp_seq (awp_seq (awp_region (aR 1 (aL api_Change.enc ql (aR 1 (aE ?_)))))))
  refine cE hF (fun h1 hF => ?_) fun h1 hF => ?_
  · exact tT h1 (sR 1 (awp_ret (oF hF [] [])))
  · refine tF h1 (awp_skip (awp_seq (awp_seq (awp_region (aR 1 (aL api_Change.enc ql (aR 1 (aE ?_))))))))
    refine awp_block (awp_to (st' := z1015 ql 0) (oT [] []) ?_)
    refine bE hF fun x h15 hF => ?_
    rcases x with _ | vx3_1
    · refine awp_sub (awp_loop' (z1015 ql) z1017 (z1016 ql) (by intro x; rcases x with x | x <;> exact fun h => nomatch h) h15 (z1018 ql)) ?_
      exact sR 1 (awp_ret (oF hF [] []))
    · refine awp_sub (awp_loop' (z1015 ql) z1017 (z1016 ql) (by intro x; rcases x with x | x <;> exact fun h => nomatch h) h15 (z1018 ql)) ?_
      exact oF hF [] []

/-! ### beaconfleet/twin.Take$1 -/
def z1114 (qx : api_Cell) (qx1 : api_Stamp) (r : Bool) : TV × Mem := (.b r, ⟨[], [(0, [.i qx1.At, .s qx1.By, .i qx1.No])]⟩)

theorem z1115 {qx : api_Cell} {qx1 : api_Stamp} {r} (hF : z1113 qx qx1 = some r) : Holds prog 141 [.v (.agg [.s qx.Prop_.Name, .i qx.Prop_.Value.Kind, .t qx.Prop_.Value.Flag, .i qx.Prop_.Value.Number, .s qx.Prop_.Value.Words, .i qx.Stamp.At, .s qx.Stamp.By, .i qx.Stamp.No]), .c (.box 0 0)] ⟨[], [(0, [.i qx1.At, .s qx1.By, .i qx1.No])]⟩ (Is (z1114 qx qx1 r)) := by
  unfold z1113 at hF
  refine hW f141 9 1 1 ?_
  refine sR 2 (awp_seq (bE hF fun vr3 h1 hF => awp_region (aR 3 (aC (z1137 h1) [] [] [] (aR 2 (aE ?_))))))
  exact awp_ret (oF hF [] [])

/-! ### slices.IndexFunc[[]beaconfleet/api.Cell,beaconfleet/api.Cell] -/
def z703 : Unit ⊕ Int → AEx
  | .inl _ => .exit 0
  | .inr _ => .ret

def z702 (qs : List api_Cell) (qf : api_Stamp) : Unit ⊕ Int → St
  | .inl _ => Mem.st ⟨[], [(0, [.i qf.At, .s qf.By, .i qf.No])]⟩ (tl []) 1
  | .inr vx1 => Mem.st ⟨[], [(0, [.i qf.At, .s qf.By, .i qf.No])]⟩ (tl [(4, .i vx1)]) 1

def z701 (qs : List api_Cell) (qf : api_Stamp) : Int → St
  | vx => Mem.st ⟨[], [(0, [.i qf.At, .s qf.By, .i qf.No])]⟩ (tl [(0, .c (.l api_Cell.enc qs)), (1, .c (.fn 141 [0])), (7, .i (qs.length : Int)), (8, .i vx)]) 1

theorem z704 (qs : List api_Cell) (qf : api_Stamp) (vx : Int) (r : (Int) ⊕ (Unit ⊕ Int)) (hF : z700 qs qf vx = some r) : Awp prog 1 19 (cL (cL (cR (cL (cR (cB f224)))))) (Out 1 (kk z703) (SS (z701 qs qf) (z702 qs qf)) r) (z701 qs qf vx) := by
  unfold z700 at hF
  refine sR 1 (awp_seq (cE hF (fun h1 hF => ?_) fun h1 hF => ?_))
  · refine tT h1 (awp_skip (awp_seq (awp_block (sR 2 (awp_seq (bE hF fun vy1 h2 hF => bE hF fun vr1 h3 hF => awp_region (aR 3 (aX (x_idx api_Cell.enc h2) (aR 1 (aC (z1115 h3) [] [] [] (aE ?_)))))))))))
    refine cE hF (fun h4 hF => ?_) fun h4 hF => ?_
    · exact tT h4 (sR 2 (awp_ret (oO hF [] [] rfl)))
    · exact tF h4 (awp_skip (gR 2 (oO hF [] [] rfl)))
  · refine tF h1 (awp_exit ?_)
    exact oO hF [] [] rfl

def z698 (qs : List api_Cell) (qf : api_Stamp) (r : Int) : TV × Mem := (.i r, ⟨[], [(0, [.i qf.At, .s qf.By, .i qf.No])]⟩)

theorem z699 {qs : List api_Cell} {qf : api_Stamp} {r} (hF : z697 qs qf = some r) : Holds prog 224 [.c (.l api_Cell.enc qs), .c (.fn 141 [0])] ⟨[], [(0, [.i qf.At, .s qf.By, .i qf.No])]⟩ (Is (z698 qs qf r)) := by
  unfold z697 at hF
  refine hW f224 19 1 1 ?_
  refine sR 1 (awp_seq (awp_seq (awp_region (aR 1 (aL api_Cell.enc qs (aR 1 (aE ?_)))))))
  refine awp_block (awp_to (st' := z701 qs qf 0) (oT [] []) ?_)
  refine bE hF fun x h5 hF => ?_
  rcases x with _ | vx1_1
  · refine awp_sub (awp_loop' (z701 qs qf) z703 (z702 qs qf) (by intro x; rcases x with x | x <;> exact fun h => nomatch h) h5 (z704 qs qf)) ?_
    exact sR 1 (awp_ret (oF hF [] []))
  · refine awp_sub (awp_loop' (z701 qs qf) z703 (z702 qs qf) (by intro x; rcases x with x | x <;> exact fun h => nomatch h) h5 (z704 qs qf)) ?_
    exact oF hF [] []

/-! ### slices.ContainsFunc[[]beaconfleet/api.Cell,beaconfleet/api.Cell] -/
def z641 (qs : List api_Cell) (qf : api_Stamp) (r : Bool) : TV × Mem := (.b r, ⟨[], [(0, [.i qf.At, .s qf.By, .i qf.No])]⟩)

theorem z642 {qs : List api_Cell} {qf : api_Stamp} {r} (hF : z640 qs qf = some r) : Holds prog 140 [.c (.l api_Cell.enc qs), .c (.fn 141 [0])] ⟨[], [(0, [.i qf.At, .s qf.By, .i qf.No])]⟩ (Is (z641 qs qf r)) := by
  unfold z640 at hF
  refine hW f140 9 1 1 ?_
  refine sR 1 (awp_seq (bE hF fun vr2 h1 hF => awp_region (aR 2 (aC (z699 h1) [] [] [] (aR 2 (aE ?_))))))
  exact awp_ret (oF hF [] [])

/-! ### slices.Grow[[]beaconfleet/api.Cell,beaconfleet/api.Cell] -/
def z679 (qn : Int) : (List api_Cell) → St
  | vs => Mem.st ⟨[(0, ⟨152, 8, List.map api_Cell.enc vs⟩)], []⟩ (tl [(0, .c (.own 0 none))]) 1

def z678 (qn : Int) : St := Mem.st ⟨[], []⟩ (tl [(0, .c (.nil)), (1, .i qn)]) 0

theorem z680 (qn : Int) {r} (hF : z677 qn = some r) : Awp prog 0 27 (cL (cR (cR (cB f275)))) (Out 0 nrm (z679 qn) r) (z678 qn) := by
  unfold z677 at hF
  refine awp_seq (awp_region (aR 2 (aK rfl ?_)))
  refine aR 5 (aE ?_)
  refine sR 2 (cE hF (fun h3 hF => ?_) fun h3 hF => ?_)
  · refine tT h3 (gE hF fun h4 hF => ?_)
    refine gE hF fun h5 hF => ?_
    refine awp_region (aR 2 (aK rfl ?_))
    refine aSn rfl ?_
    refine aR 1 (aZ api_Cell.enc (api_Cell.mk (api_Prop.mk ([] : List UInt8) (api_Value.mk 0 false 0 ([] : List UInt8))) (api_Stamp.mk 0 ([] : List UInt8) 0)) h4 rfl ?_)
    refine aR 2 (aT api_Cell.enc 15000 h5 rfl ?_)
    refine aR 1 (aE ?_)
    exact oO hF [(0, 18000)] [] rfl
  · exact tF h3 (awp_skip (oO hF [] [0] rfl))

def z675 (qn : Int) (r : (List api_Cell)) : TV × Mem := (.c (.own 0 none), ⟨[(0, ⟨152, 8, List.map api_Cell.enc r⟩)], []⟩)

theorem z676 {qn : Int} {r} (hF : z674 qn = some r) : Holds prog 275 [.c (.nil), .i qn] ⟨[], []⟩ (Is (z675 qn r)) := by
  unfold z674 at hF
  refine hW f275 27 0 0 ?_
  refine sR 1 (awp_seq (sR 2 (cE hF (fun h1 hF => ?_) fun h1 hF => ?_)))
  · exact tT h1 (nE hF)
  · refine tF h1 (awp_skip (awp_seq (awp_to (st' := z678 qn) (oT [] []) ?_)))
    refine bE hF fun vs1 h6 hF => awp_sub (z680 qn h6) ?_
    exact sR 2 (awp_ret (oF hF [] []))

/-! ### slices.Concat[[]beaconfleet/api.Cell,beaconfleet/api.Cell] -/
def z627 : Int → AEx
  | _ => .exit 0

def z626 (qslices : List (List api_Cell)) : Int → St
  | vsize1 => Mem.st ⟨[], []⟩ (tl [(0, .c (.l (encL api_Cell.enc) qslices)), (3, .i vsize1)]) 1

def z625 (qslices : List (List api_Cell)) : Int × Int → St
  | (vsize, vx) => Mem.st ⟨[], []⟩ (tl [(0, .c (.l (encL api_Cell.enc) qslices)), (3, .i vsize), (9, .c (.l (encL api_Cell.enc) qslices)), (10, .i (qslices.length : Int)), (11, .i vx)]) 1

theorem z628 (qslices : List (List api_Cell)) (s : Int × Int) (r : (Int × Int) ⊕ (Int)) (hF : z624 qslices s = some r) : Awp prog 1 36 (cL (cL (cR (cL (cR (cR (cB f228))))))) (Out 1 (kk z627) (SS (z625 qslices) (z626 qslices)) r) (z625 qslices s) := by
  obtain ⟨vsize, vx⟩ := s
  unfold z624 at hF
  refine sR 1 (awp_seq (cE hF (fun h1 hF => ?_) fun h1 hF => ?_))
  · refine tT h1 (awp_skip (awp_seq (awp_block (awp_seq (bE hF fun vy1 h2 hF => awp_region (aX (x_idx (encL api_Cell.enc) h2) (aR 2 (aE ?_))))))))
    refine awp_seq (awp_region (aR 2 (aL api_Cell.enc vy1 (aR 2 (aE ?_)))))
    refine sR 2 (cE hF (fun h3 hF => ?_) fun h3 hF => ?_)
    · exact tT h3 (nE hF)
    · exact tF h3 (awp_skip (gR 2 (oO hF [] [] rfl)))
  · refine tF h1 (awp_exit ?_)
    exact oO hF [] [] rfl

def z632 : (List api_Cell) → AEx
  | _ => .exit 2

def z631 (qslices : List (List api_Cell)) : (List api_Cell) → St
  | vnewslice1 => Mem.st ⟨[(1, ⟨152, 8, List.map api_Cell.enc vnewslice1⟩)], []⟩ (tl [(6, .c (.own 1 none))]) 2

def z630 (qslices : List (List api_Cell)) : (List api_Cell) × Int → St
  | (vnewslice, vx1) => Mem.st ⟨[(1, ⟨152, 8, List.map api_Cell.enc vnewslice⟩)], []⟩ (tl [(6, .c (.own 1 none)), (25, .c (.l (encL api_Cell.enc) qslices)), (26, .i (qslices.length : Int)), (27, .i vx1)]) 2

theorem z633 (qslices : List (List api_Cell)) (s : (List api_Cell) × Int) (r : ((List api_Cell) × Int) ⊕ ((List api_Cell))) (hF : z629 qslices s = some r) : Awp prog 1 36 (cL (cL (cR (cL (cR (cR (cR (cR (cB f228))))))))) (Out 1 (kk z632) (SS (z630 qslices) (z631 qslices)) r) (z630 qslices s) := by
  obtain ⟨vnewslice, vx1⟩ := s
  unfold z629 at hF
  refine sR 1 (awp_seq (cE hF (fun h7 hF => ?_) fun h7 hF => ?_))
  · refine tT h7 (awp_skip (awp_seq (awp_block (awp_seq (bE hF fun vy3 h8 hF => awp_region (aX (x_idx (encL api_Cell.enc) h8) (aR 2 (aE ?_))))))))
    refine gE hF fun h9 hF => ?_
    refine awp_region (aR 2 (aX (x_app api_Cell.enc 1 h9) (aR 1 (aE ?_))))
    exact gR 2 (oO hF [(1, 6002)] [] rfl)
  · refine tF h7 (awp_exit ?_)
    exact oO hF [] [] rfl

def z622 (qslices : List (List api_Cell)) (r : (List api_Cell)) : TV × Mem := (.c (.own 1 none), ⟨[(1, ⟨152, 8, List.map api_Cell.enc r⟩)], []⟩)

theorem z623 {qslices : List (List api_Cell)} {r} (hF : z621 qslices = some r) : Holds prog 228 [.c (.own 0 none)] ⟨[(0, ⟨75, 1, List.map (encL api_Cell.enc) qslices⟩)], []⟩ (Is (z622 qslices r)) := by
  unfold z621 at hF
  refine hW f228 36 1 1 ?_
  refine sR 1 (awp_to (oT (m := ⟨[], []⟩) (ts := [(0, .c (.l (encL api_Cell.enc) qslices))]) (nx := 1) [] []) ?_)
  refine sR 1 (awp_seq (awp_seq (awp_region (aR 1 (aL (encL api_Cell.enc) qslices (aR 1 (aE ?_)))))))
  refine awp_block (awp_to (st' := z625 qslices (0, 0)) (oT [] []) ?_)
  refine bE hF fun vsize1_1 h5 hF => awp_sub (awp_loop' (z625 qslices) z627 (z626 qslices) (by intro x; exact fun h => nomatch h) h5 (z628 qslices)) ?_
  refine awp_seq (bE hF fun vr h6 hF => awp_region (aR 1 (aC (z676 h6) [] [] [] (aR 1 (aE ?_)))))
  refine awp_seq (awp_seq (awp_region (aR 1 (aL (encL api_Cell.enc) qslices (aR 1 (aE ?_))))))
  refine awp_block (awp_to (st' := z630 qslices (vr, 0)) (oT [(1, 1001)] []) ?_)
  refine bE hF fun vnewslice1_1 h10 hF => awp_sub (awp_loop' (z630 qslices) z632 (z631 qslices) (by intro x; exact fun h => nomatch h) h10 (z633 qslices)) ?_
  exact sR 2 (awp_ret (oF hF [] []))

end Go.Eng
