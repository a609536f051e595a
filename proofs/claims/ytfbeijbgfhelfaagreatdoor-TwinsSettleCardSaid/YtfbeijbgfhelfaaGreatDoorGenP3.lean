/-
The code of the Go functions that the law TwinsSettle reaches does what the plain functions say, part 3.
-/
import Derived.Test.YtfbeijbgfhelfaaGreatDoorGenP2

namespace Go.Eng

open Go Go.Proofs.Tryz

set_option linter.unusedVariables false

set_option maxRecDepth 20000

set_option maxHeartbeats 0

/-! ### beaconfleet/twin.joined -/
def z1183 (vx : List api_Cell) (vx1 : List api_Cell) (vx2 : List api_Cell) : Bool → St
  | vx6 => Mem.st ⟨[(0, ⟨152, 8, List.map api_Cell.enc vx2⟩)], []⟩ (tl [(0, .c (.l api_Cell.enc vx)), (1, .c (.l api_Cell.enc vx1)), (6, .c (.own 0 none)), (16, .b vx6)]) 1

def z1182 (vx : List api_Cell) (vx1 : List api_Cell) (vx2 : List api_Cell) : St := Mem.st ⟨[(0, ⟨152, 8, List.map api_Cell.enc vx2⟩)], []⟩ (tl [(0, .c (.l api_Cell.enc vx)), (1, .c (.l api_Cell.enc vx1)), (6, .c (.own 0 none))]) 1

theorem z1184 (vx : List api_Cell) (vx1 : List api_Cell) (vx2 : List api_Cell) {r} (hF : z1181 vx vx1 = some r) : Awp prog 0 99 (cL (cL (cL (cL (cL (cR (cR (cB f225)))))))) (Out 0 nrm (z1183 vx vx1 vx2) r) (z1182 vx vx1 vx2) := by
  unfold z1181 at hF
  refine cE hF (fun h1 hF => ?_) fun h1 hF => ?_
  · refine awp_region (aR 1 (aL api_Cell.enc vx (aB h1 (aR 2 (aL api_Cell.enc vx1 (aR 2 (aE ?_)))))))
    exact oO hF [] [] rfl
  · refine awp_region (aR 1 (aL api_Cell.enc vx (aB h1 (aR 5 (aE ?_)))))
    exact oO hF [] [] rfl

def z1192 (vx : List api_Cell) (vx1 : List api_Cell) (vx2 : List api_Cell) (vr3_1 : Int) : Bool → St
  | vx7 => Mem.st ⟨[(0, ⟨152, 8, List.map api_Cell.enc vx2⟩)], []⟩ (tl [(0, .c (.l api_Cell.enc vx)), (1, .c (.l api_Cell.enc vx1)), (6, .c (.own 0 none)), (8, .i vr3_1), (65, .b vx7)]) 1

def z1191 (vx : List api_Cell) (vx1 : List api_Cell) (vx2 : List api_Cell) (vr3_1 : Int) : St := Mem.st ⟨[(0, ⟨152, 8, List.map api_Cell.enc vx2⟩)], []⟩ (tl [(0, .c (.l api_Cell.enc vx)), (1, .c (.l api_Cell.enc vx1)), (6, .c (.own 0 none)), (8, .i vr3_1)]) 1

theorem z1193 (vx : List api_Cell) (vx1 : List api_Cell) (vx2 : List api_Cell) (vr3_1 : Int) {r} (hF : z1190 vx vx1 vr3_1 = some r) : Awp prog 0 99 (cL (cL (cR (cL (cR (cL (cR (cL (cL (cL (cR (cR (cB f225))))))))))))) (Out 0 nrm (z1192 vx vx1 vx2 vr3_1) r) (z1191 vx vx1 vx2 vr3_1) := by
  unfold z1190 at hF
  refine cE hF (fun h16 hF => ?_) fun h16 hF => ?_
  · refine bE hF fun vy10 h17 hF => bE hF fun vy11 h18 hF => aD ?_
    refine dR 1 ?_
    refine dB h16 ?_
    refine dR 2 ?_
    refine dX (x_idx api_Cell.enc h17) ?_
    refine dR 4 ?_
    refine dX (x_idx api_Cell.enc h18) ?_
    refine dR 3 ?_
    refine dS (U := []) (stable_eqS (op := .neq) (xs := [.int .i64 vy10.Prop_.Value.Kind, .bool vy10.Prop_.Value.Flag, .int .i64 vy10.Prop_.Value.Number, .str vy10.Prop_.Value.Words]) (ys := [.int .i64 vy11.Prop_.Value.Kind, .bool vy11.Prop_.Value.Flag, .int .i64 vy11.Prop_.Value.Number, .str vy11.Prop_.Value.Words]) (b := (decide (vy10.Prop_.Value.Kind = vy11.Prop_.Value.Kind) && ((vy10.Prop_.Value.Flag == vy11.Prop_.Value.Flag) && (decide (vy10.Prop_.Value.Number = vy11.Prop_.Value.Number) && (decide (vy10.Prop_.Value.Words = vy11.Prop_.Value.Words) && true))))) (c := (!(decide (vy10.Prop_.Value.Kind = vy11.Prop_.Value.Kind) && ((vy10.Prop_.Value.Flag == vy11.Prop_.Value.Flag) && (decide (vy10.Prop_.Value.Number = vy11.Prop_.Value.Number) && (decide (vy10.Prop_.Value.Words = vy11.Prop_.Value.Words) && true)))))) rfl (.inr ⟨rfl, rfl⟩) (by kernel_rfl) (by kernel_rfl) (by kernel_rfl) (by kernel_rfl) (by kernel_rfl) (by kernel_rfl)) ?_
    refine dR 2 ?_
    refine dE ?_
    exact oO hF [] [] rfl
  · refine aD ?_
    refine dR 1 ?_
    refine dB h16 ?_
    refine dR 14 ?_
    refine dE ?_
    exact oO hF [] [] rfl

def z1188 : (List api_Cell) ⊕ Unit → AEx
  | .inl _ => .normal
  | .inr _ => .ret

def z1187 (vx : List api_Cell) (vx1 : List api_Cell) (vx2 : List api_Cell) : (List api_Cell) ⊕ Unit → St
  | .inl vx8 => Mem.st ⟨[(0, ⟨152, 8, List.map api_Cell.enc vx8⟩)], []⟩ (tl [(0, .c (.l api_Cell.enc vx)), (1, .c (.l api_Cell.enc vx1)), (6, .c (.own 0 none))]) 1
  | .inr _ => Mem.st ⟨[], []⟩ (tl [(4, .c (.nil)), (5, .i 13)]) 0

def z1186 (vx : List api_Cell) (vx1 : List api_Cell) (vx2 : List api_Cell) : St := Mem.st ⟨[(0, ⟨152, 8, List.map api_Cell.enc vx2⟩)], []⟩ (tl [(0, .c (.l api_Cell.enc vx)), (1, .c (.l api_Cell.enc vx1)), (6, .c (.own 0 none))]) 1

theorem z1189 (vx : List api_Cell) (vx1 : List api_Cell) (vx2 : List api_Cell) {r} (hF : z1185 vx vx1 vx2 = some r) : Awp prog 0 99 (cL (cR (cL (cR (cL (cL (cL (cR (cR (cB f225)))))))))) (Out 0 z1188 (z1187 vx vx1 vx2) r) (z1186 vx vx1 vx2) := by
  unfold z1185 at hF
  refine awp_seq (bE hF fun vy8 h13 hF => bE hF fun vy9 h14 hF => bE hF fun vr3_1 h15 hF => aD ?_)
  refine dR 1 ?_
  refine dX (x_idx api_Cell.enc h13) ?_
  refine dR 3 ?_
  refine dX (x_idx api_Cell.enc h14) ?_
  refine dR 2 ?_
  refine dC (z1137 h15) [] [] [] ?_
  refine dR 1 ?_
  refine dE ?_
  refine awp_block (awp_seq (awp_to (st' := z1191 vx vx1 vx2 vr3_1) (oT [] []) ?_))
  refine bE hF fun vx7_1 h19 hF => awp_sub (z1193 vx vx1 vx2 vr3_1 h19) ?_
  refine cE hF (fun h20 hF => ?_) fun h20 hF => ?_
  · exact tT h20 (sR 2 (awp_ret (oO hF [] [] rfl)))
  · refine tF h20 (sR 3 (cE hF (fun h21 hF => ?_) fun h21 hF => ?_))
    · refine tT h21 (gE hF fun h22 hF => ?_)
      refine awp_region (aR 2 (aX (x_idx api_Cell.enc h13) (aR 2 (aX (x_app api_Cell.enc 0 h22) (aR 1 (aE ?_))))))
      exact oO hF [(0, 8001)] [] rfl
    · refine tF h21 (gE hF fun h23 hF => ?_)
      refine awp_region (aR 2 (aX (x_idx api_Cell.enc h14) (aR 2 (aX (x_app api_Cell.enc 0 h23) (aR 1 (aE ?_))))))
      exact oO hF [(0, 8001)] [] rfl

def z1179 : ((List api_Cell) × (List api_Cell) × (List api_Cell)) ⊕ Unit → AEx
  | .inl _ => .exit 0
  | .inr _ => .ret

def z1178 : ((List api_Cell) × (List api_Cell) × (List api_Cell)) ⊕ Unit → St
  | .inl (vx9, vx10, vx11) => Mem.st ⟨[(0, ⟨152, 8, List.map api_Cell.enc vx11⟩)], []⟩ (tl [(0, .c (.l api_Cell.enc vx9)), (1, .c (.l api_Cell.enc vx10)), (6, .c (.own 0 none))]) 1
  | .inr _ => Mem.st ⟨[], []⟩ (tl [(4, .c (.nil)), (5, .i 13)]) 0

def z1177 : (List api_Cell) × (List api_Cell) × (List api_Cell) → St
  | (vx, vx1, vx2) => Mem.st ⟨[(0, ⟨152, 8, List.map api_Cell.enc vx2⟩)], []⟩ (tl [(0, .c (.l api_Cell.enc vx)), (1, .c (.l api_Cell.enc vx1)), (6, .c (.own 0 none))]) 1

theorem z1180 (s : (List api_Cell) × (List api_Cell) × (List api_Cell)) (r : ((List api_Cell) × (List api_Cell) × (List api_Cell)) ⊕ (((List api_Cell) × (List api_Cell) × (List api_Cell)) ⊕ Unit)) (hF : z1176  s = some r) : Awp prog 0 99 (cL (cL (cL (cR (cR (cB f225)))))) (Out 0 (kk z1179) (SS (z1177 ) (z1178 )) r) (z1177  s) := by
  obtain ⟨vx, vx1, vx2⟩ := s
  unfold z1176 at hF
  refine awp_seq (awp_seq (awp_to (st' := z1182 vx vx1 vx2) (oT [] []) ?_))
  refine bE hF fun vx6_1 h2 hF => awp_sub (z1184 vx vx1 vx2 h2) ?_
  refine cE hF (fun h3 hF => ?_) fun h3 hF => ?_
  · refine tT h3 (awp_skip (awp_block (awp_seq (awp_seq (bE hF fun vy6 h4 hF => bE hF fun vy7 h5 hF => bE hF fun _ h6 hF => aD ?_)))))
    refine dR 1 ?_
    refine dX (x_idx api_Cell.enc h4) ?_
    refine dR 4 ?_
    refine dX (x_idx api_Cell.enc h5) ?_
    refine dR 3 ?_
    refine dC (z907 h6) [] [] [] ?_
    refine dR 1 ?_
    refine dE ?_
    refine awp_block (sR 3 (cE hF (fun h7 hF => ?_) fun h7 hF => ?_))
    · refine tT h7 (awp_seq (gE hF fun h8 hF => ?_))
      refine bE hF fun vl4 h9 hF => aD ?_
      refine dR 2 ?_
      refine dX (x_idx api_Cell.enc h4) ?_
      refine dR 2 ?_
      refine dX (x_app api_Cell.enc 0 h8) ?_
      refine dR 1 ?_
      refine dX (x_sliceN api_Cell.enc h9) ?_
      refine dR 2 ?_
      refine dE ?_
      refine awp_exit ?_
      exact oO hF [(0, 20001)] [] rfl
    · refine tF h7 (sR 3 (cE hF (fun h10 hF => ?_) fun h10 hF => ?_))
      · refine tT h10 (awp_seq (gE hF fun h11 hF => ?_))
        refine bE hF fun vl5 h12 hF => aD ?_
        refine dR 2 ?_
        refine dX (x_idx api_Cell.enc h5) ?_
        refine dR 2 ?_
        refine dX (x_app api_Cell.enc 0 h11) ?_
        refine dR 1 ?_
        refine dX (x_sliceN api_Cell.enc h12) ?_
        refine dR 2 ?_
        refine dE ?_
        refine awp_exit ?_
        exact oO hF [(0, 23001)] [] rfl
      · refine tF h10 (awp_skip (awp_seq (awp_to (st' := z1186 vx vx1 vx2) (oT [] []) ?_)))
        refine bE hF fun x h24 hF => ?_
        rcases x with vx8_1 | _
        · refine awp_sub (z1189 vx vx1 vx2 h24) ?_
          refine bE hF fun vl6 h25 hF => bE hF fun vl7 h26 hF => aD ?_
          refine dR 1 ?_
          refine dX (x_sliceN api_Cell.enc h25) ?_
          refine dR 1 ?_
          refine dX (x_sliceN api_Cell.enc h26) ?_
          refine dR 2 ?_
          refine dE ?_
          exact oO hF [] [] rfl
        · refine awp_sub (z1189 vx vx1 vx2 h24) ?_
          exact oO hF [] [] rfl
  · refine tF h3 (awp_exit ?_)
    exact oO hF [] [] rfl

def z1174 (qx : List api_Cell) (qx1 : List api_Cell) (r : (List api_Cell) × Int) : TV × Mem := (.tup [.one (.own 0 none), .one (.i r.2)], ⟨[(0, ⟨152, 8, List.map api_Cell.enc r.1⟩)], []⟩)

theorem z1175 {qx : List api_Cell} {qx1 : List api_Cell} {r} (hF : z1173 qx qx1 = some r) : Holds prog 225 [.c (.l api_Cell.enc qx), .c (.l api_Cell.enc qx1)] ⟨[], []⟩ (Is (z1174 qx qx1 r)) := by
  unfold z1173 at hF
  refine hW f225 99 0 0 ?_
  refine sR 2 (sR 1 (awp_seq (awp_block (awp_to (st' := z1177  (qx, qx1, [])) (oT [] [0]) ?_))))
  refine bE hF fun x h27 hF => ?_
  rcases x with ⟨vx9_1, vx10_1, vx11_1⟩ | _
  · refine awp_sub (awp_loop' (z1177 ) z1179 (z1178 ) (by intro x; rcases x with x | x <;> exact fun h => nomatch h) h27 (z1180 )) ?_
    refine awp_seq (bE hF fun vr1 h28 hF => awp_region (aR 3 (aF ⟨[], []⟩ [(94, .c (.l api_Cell.enc vx11_1)), (95, .c (.l api_Cell.enc vx9_1)), (96, .c (.l api_Cell.enc vx10_1))] ?_)))
    refine aR 1 (aC (z623 h28) [(0, 3001)] [] [] (aR 2 (aE ?_)))
    exact awp_ret (oF hF [(0, 4002)] [])
  · refine awp_sub (awp_loop' (z1177 ) z1179 (z1178 ) (by intro x; rcases x with x | x <;> exact fun h => nomatch h) h27 (z1180 )) ?_
    exact oF hF [] [0]

/-! ### beaconfleet/twin.merged -/
def z1203 (vr : List api_Cell) (vr2 : Int) : Bool → St
  | vx => Mem.st ⟨[(1, ⟨152, 8, List.map api_Cell.enc vr⟩)], []⟩ (tl [(6, .c (.own 1 none)), (7, .i vr2), (20, .b vx)]) 2

def z1202 (vr : List api_Cell) (vr2 : Int) : St := Mem.st ⟨[(1, ⟨152, 8, List.map api_Cell.enc vr⟩)], []⟩ (tl [(6, .c (.own 1 none)), (7, .i vr2)]) 2

theorem z1204 (vr : List api_Cell) (vr2 : Int) {r} (hF : z1201 vr vr2 = some r) : Awp prog 1 25 (cL (cL (cR (cR (cB f143))))) (Out 1 nrm (z1203 vr vr2) r) (z1202 vr vr2) := by
  unfold z1201 at hF
  refine cE hF (fun h2 hF => ?_) fun h2 hF => ?_
  · refine awp_region (aR 1 (aB h2 (aR 2 (aL api_Cell.enc vr (aR 2 (aE ?_))))))
    exact oO hF [] [] rfl
  · refine awp_region (aR 1 (aB h2 (aR 5 (aE ?_))))
    exact oO hF [] [] rfl

def z1199 (vr : List api_Cell) (vr2 : Int) : Int → St
  | ve => Mem.st ⟨[(1, ⟨152, 8, List.map api_Cell.enc vr⟩)], []⟩ (tl [(6, .c (.own 1 none)), (7, .i ve)]) 2

def z1198 (vr : List api_Cell) (vr2 : Int) : St := Mem.st ⟨[(1, ⟨152, 8, List.map api_Cell.enc vr⟩)], []⟩ (tl [(6, .c (.own 1 none)), (7, .i vr2)]) 2

theorem z1200 (vr : List api_Cell) (vr2 : Int) {r} (hF : z1197 vr vr2 = some r) : Awp prog 1 25 (cL (cR (cR (cB f143)))) (Out 1 nrm (z1199 vr vr2) r) (z1198 vr vr2) := by
  unfold z1197 at hF
  refine awp_seq (awp_to (st' := z1202 vr vr2) (oT [] []) ?_)
  refine bE hF fun vx1 h3 hF => awp_sub (z1204 vr vr2 h3) ?_
  refine cE hF (fun h4 hF => ?_) fun h4 hF => ?_
  · exact tT h4 (gR 1 (oO hF [] [] rfl))
  · exact tF h4 (awp_skip (oO hF [] [] rfl))

def z1195 (qa : List api_Cell) (qb : List api_Cell) (r : (List api_Cell) × Int) : TV × Mem := (.tup [.one (.own 1 none), .one (.i r.2)], ⟨[(1, ⟨152, 8, List.map api_Cell.enc r.1⟩)], []⟩)

theorem z1196 {qa : List api_Cell} {qb : List api_Cell} {r} (hF : z1194 qa qb = some r) : Holds prog 143 [.c (.l api_Cell.enc qa), .c (.own 0 none)] ⟨[(0, ⟨152, 8, List.map api_Cell.enc qb⟩)], []⟩ (Is (z1195 qa qb r)) := by
  unfold z1194 at hF
  refine hW f143 25 1 1 ?_
  refine sR 2 (awp_to (oT (m := ⟨[], []⟩) (ts := [(0, .c (.l api_Cell.enc qa)), (1, .c (.l api_Cell.enc qb))]) (nx := 1) [] []) ?_)
  refine awp_seq (bE hF fun x h1 hF => ?_)
  obtain ⟨vr, vr2⟩ := x
  refine awp_region (aR 2 (aC (z1175 h1) [] [] [] (aR 5 (aE ?_))))
  refine awp_seq (awp_to (st' := z1198 vr vr2) (oT [(1, 2001)] []) ?_)
  refine bE hF fun ve1 h5 hF => awp_sub (z1200 vr vr2 h5) ?_
  refine awp_seq (sR 2 (cE hF (fun h6 hF => ?_) fun h6 hF => ?_))
  · exact tT h6 (sR 3 (awp_ret (oF hF [] [1])))
  · exact tF h6 (awp_skip (sR 3 (awp_ret (oF hF [] []))))

/-! ### slices.Clone[[]beaconfleet/api.Cell,beaconfleet/api.Cell] -/
def z582 (qs : List api_Cell) (r : List api_Cell) : TV × Mem := (.c (.own 0 none), ⟨[(0, ⟨152, 8, List.map api_Cell.enc r⟩)], []⟩)

theorem z583 {qs : List api_Cell} {r} (hF : z581 qs = some r) : Holds prog 144 [.c (.l api_Cell.enc qs)] ⟨[], []⟩ (Is (z582 qs r)) := by
  unfold z581 at hF
  refine gE hF fun h1 hF => ?_
  refine hW f144 8 0 0 ?_
  refine sR 1 (awp_seq (awp_seq (awp_region (aR 1 (aN api_Cell.enc qs (fun b hb => ?_) rfl)))))
  refine aE ?_
  cases b with
  | true =>
    obtain rfl := hb rfl
    exact tT rfl (sR 1 (awp_ret (oF hF [] [0])))
  | false =>
    refine tF rfl (awp_skip (awp_seq (awp_region (aR 2 (aX (x_app api_Cell.enc 3000 h1) (aR 1 (aE ?_)))))))
    exact awp_ret (oF hF [(0, 5000)] [])

/-! ### beaconfleet/twin.Take -/
def z1121 : (List api_Cell) → AEx
  | _ => .exit 0

def z1120 (qt : api_Twin) (qc : List api_Change) (qs : api_Stamp) : (List api_Cell) → St
  | vl1 => Mem.st ⟨[(2, ⟨152, 8, List.map api_Cell.enc vl1⟩)], [(0, [.l api_Cell.enc qt.Desired, .l api_Cell.enc qt.Reported]), (1, [.nil, .nil])]⟩ (tl [(3, .c (.box 0 0)), (6, .c (.box 1 0)), (9, .c (.own 2 none))]) 3

def z1119 (qt : api_Twin) (qc : List api_Change) (qs : api_Stamp) : (List api_Cell) × Int → St
  | (vl, vx) => Mem.st ⟨[(3, ⟨152, 8, List.map api_Cell.enc vl⟩)], [(0, [.l api_Cell.enc qt.Desired, .l api_Cell.enc qt.Reported]), (1, [.i qs.At, .s qs.By, .i qs.No]), (2, [.nil, .nil])]⟩ (tl [(3, .c (.box 0 0)), (5, .c (.box 1 0)), (6, .c (.box 2 0)), (9, .c (.own 3 none)), (31, .c (.l api_Change.enc qc)), (32, .i (qc.length : Int)), (33, .i vx)]) 4

theorem z1122 (qt : api_Twin) (qc : List api_Change) (qs : api_Stamp) (s : (List api_Cell) × Int) (r : ((List api_Cell) × Int) ⊕ ((List api_Cell))) (hF : z1118 qc qs s = some r) : Awp prog 0 64 (cL (cL (cR (cL (cR (cR (cR (cR (cB f47))))))))) (Out 0 (kk z1121) (SS (z1119 qt qc qs) (z1120 qt qc qs)) r) (z1119 qt qc qs s) := by
  obtain ⟨vl, vx⟩ := s
  unfold z1118 at hF
  refine sR 1 (awp_seq (cE hF (fun h8 hF => ?_) fun h8 hF => ?_))
  · refine tT h8 (awp_skip (awp_seq (awp_block (awp_seq (bE hF fun vy1 h9 hF => awp_region (aX (x_idx api_Change.enc h9) (aR 3 (aE ?_))))))))
    refine gE hF fun h10 hF => ?_
    refine awp_region (aR 9 (aX (x_app api_Cell.enc 3 h10) (aR 1 (aE ?_))))
    exact gR 2 (oO hF [(3, 14004)] [] rfl)
  · refine tF h8 (awp_exit ?_)
    exact oO hF [(1, 2), (2, 3)] [] rfl

def z1116 (qt : api_Twin) (qc : List api_Change) (qs : api_Stamp) (r : (List api_Cell) × (List api_Cell) × Int) : TV × Mem := (.tup [.agg [.own 0 none, .own 1 none], .one (.i r.2.2)], ⟨[(0, ⟨152, 8, List.map api_Cell.enc r.1⟩), (1, ⟨152, 8, List.map api_Cell.enc r.2.1⟩)], []⟩)

theorem z1117 {qt : api_Twin} {qc : List api_Change} {qs : api_Stamp} {r} (hF : twin_Take qt qc qs = some r) : Holds prog 47 [.v (.agg [.l api_Cell.enc qt.Desired, .l api_Cell.enc qt.Reported]), .c (.l api_Change.enc qc), .v (.agg [.i qs.At, .s qs.By, .i qs.No])] ⟨[], []⟩ (Is (z1116 qt qc qs r)) := by
  unfold twin_Take at hF
  refine hW f47 64 0 0 ?_
  refine sR 4 (awp_seq (awp_seq (bE hF fun vr1 h1 hF => bE hF fun vr5 h2 hF => bE hF fun vr3 h3 hF => bE hF fun vr h4 hF => aD ?_)))
  refine dR 1 ?_
  refine dC (z1223 h1) [] [] [] ?_
  refine dR 1 ?_
  refine dC (z1013 h2) [] [] [] ?_
  refine dR 1 ?_
  refine dC (z1220 h3) [] [] [] ?_
  refine dR 1 ?_
  refine dC (z26 h4) [] [] [10000] ?_
  refine dR 1 ?_
  refine dE ?_
  refine sR 2 (cE hF (fun h5 hF => ?_) fun h5 hF => ?_)
  · exact tT h5 (sR 4 (awp_ret (oF hF [] [0, 1])))
  · refine tF h5 (awp_skip (awp_seq (awp_seq (bE hF fun vr2 h6 hF => awp_region (aR 3 (aC (z642 h6) [(0, 1000)] [] [] (aE ?_)))))))
    refine cE hF (fun h7 hF => ?_) fun h7 hF => ?_
    · exact tT h7 (sR 3 (awp_ret (oF hF [] [0, 1])))
    · refine tF h7 (awp_skip (sR 1 (awp_seq (awp_seq (awp_region (aR 1 (aL api_Change.enc qc (aR 1 (aE ?_)))))))))
      refine awp_block (awp_to (st' := z1119 qt qc qs ([], 0)) (oT [(1, 1000), (2, 2000)] [3]) ?_)
      refine bE hF fun vl1_1 h11 hF => awp_sub (awp_loop' (z1119 qt qc qs) z1121 (z1120 qt qc qs) (by intro x; exact fun h => nomatch h) h11 (z1122 qt qc qs)) ?_
      refine awp_seq (bE hF fun x h12 hF => ?_)
      obtain ⟨vr1_1, vr3_1⟩ := x
      refine awp_region (aR 3 (aC (z1196 h12) [(0, 2)] [] [] (aR 5 (aE ?_))))
      refine awp_seq (sR 2 (cE hF (fun h13 hF => ?_) fun h13 hF => ?_))
      · exact tT h13 (sR 4 (awp_ret (oF hF [] [0, 1])))
      · refine tF h13 (awp_skip (awp_seq (bE hF fun vr4 h14 hF => awp_region (aR 2 (aC (z583 h14) [] [] [] (aR 4 (aE ?_)))))))
        exact awp_ret (oF hF [(0, 13003), (1, 3004)] [])

/-! ### beaconfleet/fleetref2.ChangesFault -/
def z301 : Unit ⊕ Int → AEx
  | .inl _ => .exit 2
  | .inr _ => .ret

def z300 (ql : List api_Change) (vx : Int) (vy4 : api_Change) (vr3_2 : Int) (vr3_3 : Int) : Unit ⊕ Int → St
  | .inl _ => Mem.st ⟨[], [(0, [.s vy4.Name, .i vy4.From.Kind, .t vy4.From.Flag, .i vy4.From.Number, .s vy4.From.Words, .i vy4.To.Kind, .t vy4.To.Flag, .i vy4.To.Number, .s vy4.To.Words])]⟩ (tl [(0, .c (.l api_Change.enc ql)), (3, .i vx), (4, .c (.box 0 0)), (10, .c (.l api_Change.enc ql)), (11, .i (ql.length : Int)), (12, .i vx)]) 1
  | .inr vx5 => Mem.st ⟨[], []⟩ (tl [(2, .i vx5)]) 0

def z299 (ql : List api_Change) (vx : Int) (vy4 : api_Change) (vr3_2 : Int) (vr3_3 : Int) : Int → St
  | vx4 => Mem.st ⟨[], [(0, [.s vy4.Name, .i vy4.From.Kind, .t vy4.From.Flag, .i vy4.From.Number, .s vy4.From.Words, .i vy4.To.Kind, .t vy4.To.Flag, .i vy4.To.Number, .s vy4.To.Words])]⟩ (tl [(0, .c (.l api_Change.enc ql)), (3, .i vx), (4, .c (.box 0 0)), (10, .c (.l api_Change.enc ql)), (11, .i (ql.length : Int)), (12, .i vx), (27, .c (.l (encI .i64) ([vr3_2, vr3_3] : List Int))), (28, .i (([vr3_2, vr3_3] : List Int).length : Int)), (29, .i vx4)]) 1

theorem z302 (ql : List api_Change) (vx : Int) (vy4 : api_Change) (vr3_2 : Int) (vr3_3 : Int) (vx4 : Int) (r : (Int) ⊕ (Unit ⊕ Int)) (hF : z298 vr3_2 vr3_3 vx4 = some r) : Awp prog 0 58 (cL (cL (cR (cL (cR (cR (cL (cL (cR (cR (cL (cL (cR (cL (cR (cR (cB f49))))))))))))))))) (Out 0 (kk z301) (SS (z299 ql vx vy4 vr3_2 vr3_3) (z300 ql vx vy4 vr3_2 vr3_3)) r) (z299 ql vx vy4 vr3_2 vr3_3 vx4) := by
  unfold z298 at hF
  refine sR 1 (awp_seq (cE hF (fun h8 hF => ?_) fun h8 hF => ?_))
  · refine tT h8 (awp_skip (awp_seq (awp_block (awp_seq (bE hF fun vy6 h9 hF => awp_region (aX (x_idx (encI .i64) h9) (aR 2 (aE ?_))))))))
    refine sR 2 (cE hF (fun h10 hF => ?_) fun h10 hF => ?_)
    · exact tT h10 (sR 2 (awp_ret (oO hF [] [] rfl)))
    · exact tF h10 (awp_skip (gR 2 (oO hF [] [] rfl)))
  · refine tF h8 (awp_exit ?_)
    exact oO hF [] [] rfl

def z305 (ql : List api_Change) (vx : Int) (vy4 : api_Change) : Bool → St
  | vx6 => Mem.st ⟨[], []⟩ (tl [(0, .c (.l api_Change.enc ql)), (10, .c (.l api_Change.enc ql)), (11, .i (ql.length : Int)), (12, .i vx), (43, .b vx6)]) 0

def z304 (ql : List api_Change) (vx : Int) (vy4 : api_Change) : St := Mem.st ⟨[], [(0, [.s vy4.Name, .i vy4.From.Kind, .t vy4.From.Flag, .i vy4.From.Number, .s vy4.From.Words, .i vy4.To.Kind, .t vy4.To.Flag, .i vy4.To.Number, .s vy4.To.Words])]⟩ (tl [(0, .c (.l api_Change.enc ql)), (3, .i vx), (4, .c (.box 0 0)), (10, .c (.l api_Change.enc ql)), (11, .i (ql.length : Int)), (12, .i vx)]) 1

theorem z306 (ql : List api_Change) (vx : Int) (vy4 : api_Change) {r} (hF : z303 ql vx vy4 = some r) : Awp prog 0 58 (cL (cR (cR (cL (cR (cR (cR (cL (cL (cR (cR (cL (cL (cR (cL (cR (cR (cB f49)))))))))))))))))) (Out 0 nrm (z305 ql vx vy4) r) (z304 ql vx vy4) := by
  unfold z303 at hF
  refine cE hF (fun h13 hF => ?_) fun h13 hF => ?_
  · refine bE hF fun vy7 h14 hF => aD ?_
    refine dR 1 ?_
    refine dB h13 ?_
    refine dR 6 ?_
    refine dX (x_idx api_Change.enc h14) ?_
    refine dR 5 ?_
    refine dE ?_
    exact oO hF [] [] rfl
  · refine aD ?_
    refine dR 1 ?_
    refine dB h13 ?_
    refine dR 12 ?_
    refine dE ?_
    exact oO hF [] [] rfl

def z296 : Unit ⊕ Int → AEx
  | .inl _ => .exit 0
  | .inr _ => .ret

def z295 (ql : List api_Change) : Unit ⊕ Int → St
  | .inl _ => Mem.st ⟨[], []⟩ (tl []) 0
  | .inr vx7 => Mem.st ⟨[], []⟩ (tl [(2, .i vx7)]) 0

def z294 (ql : List api_Change) : Int → St
  | vx => Mem.st ⟨[], []⟩ (tl [(0, .c (.l api_Change.enc ql)), (10, .c (.l api_Change.enc ql)), (11, .i (ql.length : Int)), (12, .i vx)]) 0

theorem z297 (ql : List api_Change) (vx : Int) (r : (Int) ⊕ (Unit ⊕ Int)) (hF : z293 ql vx = some r) : Awp prog 0 58 (cL (cL (cR (cL (cR (cR (cB f49))))))) (Out 0 (kk z296) (SS (z294 ql) (z295 ql)) r) (z294 ql vx) := by
  unfold z293 at hF
  refine sR 1 (awp_seq (cE hF (fun h2 hF => ?_) fun h2 hF => ?_))
  · refine tT h2 (awp_skip (awp_seq (awp_block (awp_seq (bE hF fun vy4 h3 hF => awp_region (aR 1 (aX (x_idx api_Change.enc h3) (aR 4 (aE ?_)))))))))
    refine awp_seq (awp_seq (bE hF fun vr2_1 h4 hF => awp_region (aR 2 (aC (z416 h4) [] [] [] (aR 1 (aE ?_))))))
    refine cE hF (fun h5 hF => ?_) fun h5 hF => ?_
    · exact tT h5 (sR 1 (awp_ret (oO hF [] [] rfl)))
    · refine tF h5 (awp_skip (awp_seq (awp_seq (bE hF fun vr3_2 h6 hF => bE hF fun vr3_3 h7 hF => aD ?_))))
      refine dR 2 ?_
      refine dC (z470 h6) [] [] [] ?_
      refine dR 2 ?_
      refine dC (z470 h7) [] [] [] ?_
      refine dR 1 ?_
      refine dL (encI .i64) ([vr3_2, vr3_3] : List Int) ?_
      refine dR 1 ?_
      refine dE ?_
      refine awp_to (oT (m := ⟨[], [(0, [.s vy4.Name, .i vy4.From.Kind, .t vy4.From.Flag, .i vy4.From.Number, .s vy4.From.Words, .i vy4.To.Kind, .t vy4.To.Flag, .i vy4.To.Number, .s vy4.To.Words])]⟩) (ts := [(0, .c (.l api_Change.enc ql)), (3, .i vx), (4, .c (.box 0 0)), (10, .c (.l api_Change.enc ql)), (11, .i (ql.length : Int)), (12, .i vx), (27, .c (.l (encI .i64) ([vr3_2, vr3_3] : List Int))), (28, .i (([vr3_2, vr3_3] : List Int).length : Int)), (29, .i 0)]) (nx := 1) [(0, 4000)] []) ?_
      refine awp_block (awp_to (st' := z299 ql vx vy4 vr3_2 vr3_3 0) (oT [] []) ?_)
      refine bE hF fun x h11 hF => ?_
      rcases x with _ | vx5_1
      · refine awp_sub (awp_loop' (z299 ql vx vy4 vr3_2 vr3_3) z301 (z300 ql vx vy4 vr3_2 vr3_3) (by intro x; rcases x with x | x <;> exact fun h => nomatch h) h11 (z302 ql vx vy4 vr3_2 vr3_3)) ?_
        refine awp_block (awp_seq (awp_region (aR 4 (aS (does_eqS (op := .eql) (xs := [.int .i64 vy4.From.Kind, .bool vy4.From.Flag, .int .i64 vy4.From.Number, .str vy4.From.Words]) (ys := [.int .i64 vy4.To.Kind, .bool vy4.To.Flag, .int .i64 vy4.To.Number, .str vy4.To.Words]) (b := (decide (vy4.From.Kind = vy4.To.Kind) && ((vy4.From.Flag == vy4.To.Flag) && (decide (vy4.From.Number = vy4.To.Number) && (decide (vy4.From.Words = vy4.To.Words) && true))))) (c := (decide (vy4.From.Kind = vy4.To.Kind) && ((vy4.From.Flag == vy4.To.Flag) && (decide (vy4.From.Number = vy4.To.Number) && (decide (vy4.From.Words = vy4.To.Words) && true))))) rfl (.inl ⟨rfl, rfl⟩) (by kernel_rfl) (by kernel_rfl) (by kernel_rfl) (by kernel_rfl) (by kernel_rfl) (by kernel_rfl)) ?_))))
        refine aR 1 (aE ?_)
        refine cE hF (fun h12 hF => ?_) fun h12 hF => ?_
        · exact tT h12 (sR 1 (awp_ret (oO hF [] [] rfl)))
        · refine tF h12 (awp_seq (awp_to (st' := z304 ql vx vy4) (oT [] []) ?_))
          refine bE hF fun vx6_1 h15 hF => awp_sub (z306 ql vx vy4 h15) ?_
          refine cE hF (fun h16 hF => ?_) fun h16 hF => ?_
          · exact tT h16 (sR 1 (awp_ret (oO hF [] [] rfl)))
          · exact tF h16 (awp_skip (gR 2 (oO hF [] [] rfl)))
      · refine awp_sub (awp_loop' (z299 ql vx vy4 vr3_2 vr3_3) z301 (z300 ql vx vy4 vr3_2 vr3_3) (by intro x; rcases x with x | x <;> exact fun h => nomatch h) h11 (z302 ql vx vy4 vr3_2 vr3_3)) ?_
        exact oO hF [] [] rfl
  · refine tF h2 (awp_exit ?_)
    exact oO hF [] [] rfl

def z291 (ql : List api_Change) (r : Int) : TV × Mem := (.i r, ⟨[], []⟩)

theorem z292 {ql : List api_Change} {r} (hF : z290 ql = some r) : Holds prog 49 [.c (.l api_Change.enc ql)] ⟨[], []⟩ (Is (z291 ql r)) := by
  unfold z290 at hF
  refine hW f49 58 0 0 ?_
  refine sR 1 (awp_seq (awp_seq (awp_region (aR 1 (aL api_Change.enc ql (aR 1 (aE ?_)))))))
  refine cE hF (fun h1 hF => ?_) fun h1 hF => ?_
  · exact tT h1 (sR 1 (awp_ret (oF hF [] [])))
  · refine tF h1 (awp_skip (awp_seq (awp_seq (awp_region (aR 1 (aL api_Change.enc ql (aR 1 (aE ?_))))))))
    refine awp_block (awp_to (st' := z294 ql 0) (oT [] []) ?_)
    refine bE hF fun x h17 hF => ?_
    rcases x with _ | vx7_1
    · refine awp_sub (awp_loop' (z294 ql) z296 (z295 ql) (by intro x; rcases x with x | x <;> exact fun h => nomatch h) h17 (z297 ql)) ?_
      exact sR 1 (awp_ret (oF hF [] []))
    · refine awp_sub (awp_loop' (z294 ql) z296 (z295 ql) (by intro x; rcases x with x | x <;> exact fun h => nomatch h) h17 (z297 ql)) ?_
      exact oF hF [] []

/-! ### beaconfleet/fleetlaw2.errs -/
def z160 : Unit ⊕ Int → AEx
  | .inl _ => .exit 0
  | .inr _ => .ret

def z159 (ql : List Int) : Unit ⊕ Int → St
  | .inl _ => Mem.st ⟨[], []⟩ (tl []) 0
  | .inr vx1 => Mem.st ⟨[], []⟩ (tl [(2, .i vx1)]) 0

def z158 (ql : List Int) : Int → St
  | vx => Mem.st ⟨[], []⟩ (tl [(5, .c (.l (encI .i64) ql)), (6, .i (ql.length : Int)), (7, .i vx)]) 0

theorem z161 (ql : List Int) (vx : Int) (r : (Int) ⊕ (Unit ⊕ Int)) (hF : z157 ql vx = some r) : Awp prog 0 15 (cL (cL (cR (cL (cR (cB f48)))))) (Out 0 (kk z160) (SS (z158 ql) (z159 ql)) r) (z158 ql vx) := by
  unfold z157 at hF
  refine sR 1 (awp_seq (cE hF (fun h1 hF => ?_) fun h1 hF => ?_))
  · refine tT h1 (awp_skip (awp_seq (awp_block (awp_seq (bE hF fun vy1 h2 hF => awp_region (aX (x_idx (encI .i64) h2) (aR 2 (aE ?_))))))))
    refine sR 2 (cE hF (fun h3 hF => ?_) fun h3 hF => ?_)
    · exact tT h3 (sR 2 (awp_ret (oO hF [] [] rfl)))
    · exact tF h3 (awp_skip (gR 2 (oO hF [] [] rfl)))
  · refine tF h1 (awp_exit ?_)
    exact oO hF [] [] rfl

def z155 (ql : List Int) (r : Int) : TV × Mem := (.i r, ⟨[], []⟩)

theorem z156 {ql : List Int} {r} (hF : z154 ql = some r) : Holds prog 48 [.c (.l (encI .i64) ql)] ⟨[], []⟩ (Is (z155 ql r)) := by
  unfold z154 at hF
  refine hW f48 15 0 0 ?_
  refine sR 1 (awp_seq (awp_seq (awp_region (aR 1 (aL (encI .i64) ql (aR 1 (aE ?_)))))))
  refine awp_block (awp_to (st' := z158 ql 0) (oT [] []) ?_)
  refine bE hF fun x h4 hF => ?_
  rcases x with _ | vx1_1
  · refine awp_sub (awp_loop' (z158 ql) z160 (z159 ql) (by intro x; rcases x with x | x <;> exact fun h => nomatch h) h4 (z161 ql)) ?_
    exact sR 1 (awp_ret (oF hF [] []))
  · refine awp_sub (awp_loop' (z158 ql) z160 (z159 ql) (by intro x; rcases x with x | x <;> exact fun h => nomatch h) h4 (z161 ql)) ?_
    exact oF hF [] []

/-! ### beaconfleet/fleetref2.TakeOf$1 -/
def z456 (qo : api_Cell) (qx : api_Stamp) (r : Bool) : TV × Mem := (.b r, ⟨[], [(0, [.i qx.At, .s qx.By, .i qx.No])]⟩)

theorem z457 {qo : api_Cell} {qx : api_Stamp} {r} (hF : z455 qo qx = some r) : Holds prog 147 [.v (.agg [.s qo.Prop_.Name, .i qo.Prop_.Value.Kind, .t qo.Prop_.Value.Flag, .i qo.Prop_.Value.Number, .s qo.Prop_.Value.Words, .i qo.Stamp.At, .s qo.Stamp.By, .i qo.Stamp.No]), .c (.box 0 0)] ⟨[], [(0, [.i qx.At, .s qx.By, .i qx.No])]⟩ (Is (z456 qo qx r)) := by
  unfold z455 at hF
  refine hW f147 9 1 1 ?_
  refine sR 2 (awp_seq (bE hF fun vr2 h1 hF => awp_region (aR 3 (aC (z453 h1) [] [] [] (aR 2 (aE ?_))))))
  exact awp_ret (oF hF [] [])

/-! ### slices.IndexFunc[[]beaconfleet/api.Cell,beaconfleet/api.Cell] -/
def z687 : Unit ⊕ Int → AEx
  | .inl _ => .exit 0
  | .inr _ => .ret

def z686 (qs : List api_Cell) (qf : api_Stamp) : Unit ⊕ Int → St
  | .inl _ => Mem.st ⟨[], [(0, [.i qf.At, .s qf.By, .i qf.No])]⟩ (tl []) 1
  | .inr vx1 => Mem.st ⟨[], [(0, [.i qf.At, .s qf.By, .i qf.No])]⟩ (tl [(4, .i vx1)]) 1

def z685 (qs : List api_Cell) (qf : api_Stamp) : Int → St
  | vx => Mem.st ⟨[], [(0, [.i qf.At, .s qf.By, .i qf.No])]⟩ (tl [(0, .c (.l api_Cell.enc qs)), (1, .c (.fn 147 [0])), (7, .i (qs.length : Int)), (8, .i vx)]) 1

theorem z688 (qs : List api_Cell) (qf : api_Stamp) (vx : Int) (r : (Int) ⊕ (Unit ⊕ Int)) (hF : z684 qs qf vx = some r) : Awp prog 1 19 (cL (cL (cR (cL (cR (cB f224)))))) (Out 1 (kk z687) (SS (z685 qs qf) (z686 qs qf)) r) (z685 qs qf vx) := by
  unfold z684 at hF
  refine sR 1 (awp_seq (cE hF (fun h1 hF => ?_) fun h1 hF => ?_))
  · refine tT h1 (awp_skip (awp_seq (awp_block (sR 2 (awp_seq (bE hF fun vy1 h2 hF => bE hF fun vr1 h3 hF => awp_region (aR 3 (aX (x_idx api_Cell.enc h2) (aR 1 (aC (z457 h3) [] [] [] (aE ?_)))))))))))
    refine cE hF (fun h4 hF => ?_) fun h4 hF => ?_
    · exact tT h4 (sR 2 (awp_ret (oO hF [] [] rfl)))
    · exact tF h4 (awp_skip (gR 2 (oO hF [] [] rfl)))
  · refine tF h1 (awp_exit ?_)
    exact oO hF [] [] rfl

def z682 (qs : List api_Cell) (qf : api_Stamp) (r : Int) : TV × Mem := (.i r, ⟨[], [(0, [.i qf.At, .s qf.By, .i qf.No])]⟩)

theorem z683 {qs : List api_Cell} {qf : api_Stamp} {r} (hF : z681 qs qf = some r) : Holds prog 224 [.c (.l api_Cell.enc qs), .c (.fn 147 [0])] ⟨[], [(0, [.i qf.At, .s qf.By, .i qf.No])]⟩ (Is (z682 qs qf r)) := by
  unfold z681 at hF
  refine hW f224 19 1 1 ?_
  refine sR 1 (awp_seq (awp_seq (awp_region (aR 1 (aL api_Cell.enc qs (aR 1 (aE ?_)))))))
  refine awp_block (awp_to (st' := z685 qs qf 0) (oT [] []) ?_)
  refine bE hF fun x h5 hF => ?_
  rcases x with _ | vx1_1
  · refine awp_sub (awp_loop' (z685 qs qf) z687 (z686 qs qf) (by intro x; rcases x with x | x <;> exact fun h => nomatch h) h5 (z688 qs qf)) ?_
    exact sR 1 (awp_ret (oF hF [] []))
  · refine awp_sub (awp_loop' (z685 qs qf) z687 (z686 qs qf) (by intro x; rcases x with x | x <;> exact fun h => nomatch h) h5 (z688 qs qf)) ?_
    exact oF hF [] []

/-! ### slices.ContainsFunc[[]beaconfleet/api.Cell,beaconfleet/api.Cell] -/
def z635 (qs : List api_Cell) (qf : api_Stamp) (r : Bool) : TV × Mem := (.b r, ⟨[], [(0, [.i qf.At, .s qf.By, .i qf.No])]⟩)

theorem z636 {qs : List api_Cell} {qf : api_Stamp} {r} (hF : z634 qs qf = some r) : Holds prog 140 [.c (.l api_Cell.enc qs), .c (.fn 147 [0])] ⟨[], [(0, [.i qf.At, .s qf.By, .i qf.No])]⟩ (Is (z635 qs qf r)) := by
  unfold z634 at hF
  refine hW f140 9 1 1 ?_
  refine sR 1 (awp_seq (bE hF fun vr2 h1 hF => awp_region (aR 2 (aC (z683 h1) [] [] [] (aR 2 (aE ?_))))))
  exact awp_ret (oF hF [] [])

/-! ### beaconfleet/fleetref2.MergeOf$1 -/
def z328 (qx : api_Cell) (qy : api_Cell) (r : Int) : TV × Mem := (.i r, ⟨[], []⟩)

theorem z329 {qx : api_Cell} {qy : api_Cell} {r} (hF : z327 qx qy = some r) : Holds prog 229 [.v (.agg [.s qx.Prop_.Name, .i qx.Prop_.Value.Kind, .t qx.Prop_.Value.Flag, .i qx.Prop_.Value.Number, .s qx.Prop_.Value.Words, .i qx.Stamp.At, .s qx.Stamp.By, .i qx.Stamp.No]), .v (.agg [.s qy.Prop_.Name, .i qy.Prop_.Value.Kind, .t qy.Prop_.Value.Flag, .i qy.Prop_.Value.Number, .s qy.Prop_.Value.Words, .i qy.Stamp.At, .s qy.Stamp.By, .i qy.Stamp.No])] ⟨[], []⟩ (Is (z328 qx qy r)) := by
  unfold z327 at hF
  refine hW f229 10 0 0 ?_
  refine sR 3 (awp_seq (bE hF fun vr2 h1 hF => awp_region (aR 4 (aC (z453 h1) [] [] [] (aR 1 (aE ?_))))))
  exact awp_ret (oF hF [] [])

/-! ### slices.insertionSortCmpFunc[beaconfleet/api.Cell] -/
def z792 (qa : Int) (qb : Int) (vi : Int) (vl3 : List api_Cell) (vj1 : Int) : Bool → St
  | vx4 => Mem.st ⟨[(0, ⟨152, 8, List.map api_Cell.enc vl3⟩)], []⟩ (tl [(0, .c (.own 0 none)), (1, .i qa), (2, .i qb), (3, .c (.fn 229 [])), (8, .i vi), (9, .i vj1), (34, .b vx4)]) 1

def z791 (qa : Int) (qb : Int) (vi : Int) (vl3 : List api_Cell) (vj1 : Int) : St := Mem.st ⟨[(0, ⟨152, 8, List.map api_Cell.enc vl3⟩)], []⟩ (tl [(0, .c (.own 0 none)), (1, .i qa), (2, .i qb), (3, .c (.fn 229 [])), (8, .i vi), (9, .i vj1)]) 1

theorem z793 (qa : Int) (qb : Int) (vi : Int) (vl3 : List api_Cell) (vj1 : Int) {r} (hF : z790 qa vl3 vj1 = some r) : Awp prog 1 53 (cL (cL (cL (cL (cR (cL (cL (cR (cL (cL (cR (cB f295)))))))))))) (Out 1 nrm (z792 qa qb vi vl3 vj1) r) (z791 qa qb vi vl3 vj1) := by
  unfold z790 at hF
  refine cE hF (fun h2 hF => ?_) fun h2 hF => ?_
  · refine bE hF fun vy15 h3 hF => bE hF fun vy16 h4 hF => bE hF fun vr3 h5 hF => aD ?_
    refine dR 2 ?_
    refine dB h2 ?_
    refine dR 4 ?_
    refine dX (x_idxO api_Cell.enc 0 h3) ?_
    refine dX (x_ldE api_Cell.enc h3) ?_
    refine dR 3 ?_
    refine dX (x_idxO api_Cell.enc 0 h4) ?_
    refine dX (x_ldE api_Cell.enc h4) ?_
    refine dC (z329 h5) [] [] [] ?_
    refine dR 2 ?_
    refine dE ?_
    exact oO hF [] [] rfl
  · refine aD ?_
    refine dR 2 ?_
    refine dB h2 ?_
    refine dR 14 ?_
    refine dE ?_
    exact oO hF [] [] rfl

def z788 : (List api_Cell) → AEx
  | _ => .exit 2

def z787 (qa : Int) (qb : Int) (vi : Int) : (List api_Cell) → St
  | vl4 => Mem.st ⟨[(0, ⟨152, 8, List.map api_Cell.enc vl4⟩)], []⟩ (tl [(0, .c (.own 0 none)), (1, .i qa), (2, .i qb), (3, .c (.fn 229 [])), (8, .i vi)]) 1

def z786 (qa : Int) (qb : Int) (vi : Int) : (List api_Cell) × Int → St
  | (vl3, vj1) => Mem.st ⟨[(0, ⟨152, 8, List.map api_Cell.enc vl3⟩)], []⟩ (tl [(0, .c (.own 0 none)), (1, .i qa), (2, .i qb), (3, .c (.fn 229 [])), (8, .i vi), (9, .i vj1)]) 1

theorem z789 (qa : Int) (qb : Int) (vi : Int) (s : (List api_Cell) × Int) (r : ((List api_Cell) × Int) ⊕ ((List api_Cell))) (hF : z785 qa s = some r) : Awp prog 1 53 (cL (cL (cR (cL (cL (cR (cL (cL (cR (cB f295)))))))))) (Out 1 (kk z788) (SS (z786 qa qb vi) (z787 qa qb vi)) r) (z786 qa qb vi s) := by
  obtain ⟨vl3, vj1⟩ := s
  unfold z785 at hF
  refine awp_seq (awp_seq (awp_to (st' := z791 qa qb vi vl3 vj1) (oT [] []) ?_))
  refine bE hF fun vx4_1 h6 hF => awp_sub (z793 qa qb vi vl3 vj1 h6) ?_
  refine cE hF (fun h7 hF => ?_) fun h7 hF => ?_
  · refine tT h7 (awp_skip (awp_seq (awp_block (bE hF fun vy17 h8 hF => bE hF fun vy18 h9 hF => bE hF fun vy19 h10 hF => aDw [0] ?_))))
    refine dR 8 ?_
    refine dI api_Cell.enc 0 h8 rfl ?_
    refine dX (x_ldE api_Cell.enc h8) ?_
    refine dR 2 ?_
    refine dI api_Cell.enc 0 h9 rfl ?_
    refine dX (x_ldE api_Cell.enc h9) ?_
    refine dI api_Cell.enc 0 h9 rfl ?_
    refine dW api_Cell.enc (api_Cell.mk (api_Prop.mk vy17.Prop_.Name (api_Value.mk vy17.Prop_.Value.Kind vy17.Prop_.Value.Flag vy17.Prop_.Value.Number vy17.Prop_.Value.Words)) (api_Stamp.mk vy17.Stamp.At vy17.Stamp.By vy17.Stamp.No)) h9 rfl ?_
    refine dI api_Cell.enc 0 h10 rfl ?_
    refine dW api_Cell.enc (api_Cell.mk (api_Prop.mk vy18.Prop_.Name (api_Value.mk vy18.Prop_.Value.Kind vy18.Prop_.Value.Flag vy18.Prop_.Value.Number vy18.Prop_.Value.Words)) (api_Stamp.mk vy18.Stamp.At vy18.Stamp.By vy18.Stamp.No)) h10 rfl ?_
    refine dE ?_
    exact gR 3 (oO hF [] [] rfl)
  · refine tF h7 (awp_exit ?_)
    exact oO hF [] [] rfl

def z783 : (List api_Cell) → AEx
  | _ => .exit 0

def z782 (qa : Int) (qb : Int) : (List api_Cell) → St
  | vl5 => Mem.st ⟨[(0, ⟨152, 8, List.map api_Cell.enc vl5⟩)], []⟩ (tl []) 1

def z781 (qa : Int) (qb : Int) : (List api_Cell) × Int → St
  | (vl, vi) => Mem.st ⟨[(0, ⟨152, 8, List.map api_Cell.enc vl⟩)], []⟩ (tl [(0, .c (.own 0 none)), (1, .i qa), (2, .i qb), (3, .c (.fn 229 [])), (8, .i vi)]) 1

theorem z784 (qa : Int) (qb : Int) (s : (List api_Cell) × Int) (r : ((List api_Cell) × Int) ⊕ ((List api_Cell))) (hF : z780 qa qb s = some r) : Awp prog 1 53 (cL (cL (cR (cB f295)))) (Out 1 (kk z783) (SS (z781 qa qb) (z782 qa qb)) r) (z781 qa qb s) := by
  obtain ⟨vl, vi⟩ := s
  unfold z780 at hF
  refine awp_seq (sR 3 (cE hF (fun h1 hF => ?_) fun h1 hF => ?_))
  · refine tT h1 (awp_skip (awp_seq (awp_block (sR 2 (awp_block (awp_to (st' := z786 qa qb vi (vl, vi)) (oT [] []) ?_))))))
    refine bE hF fun vl4_1 h11 hF => awp_sub (awp_loop' (z786 qa qb vi) z788 (z787 qa qb vi) (by intro x; exact fun h => nomatch h) h11 (z789 qa qb vi)) ?_
    exact gR 3 (oO hF [] [] rfl)
  · refine tF h1 (awp_exit ?_)
    exact oO hF [] [] rfl

def z778 (qdata : List api_Cell) (qa : Int) (qb : Int) (r : (List api_Cell)) : TV × Mem := (.tup [], ⟨[(0, ⟨152, 8, List.map api_Cell.enc r⟩)], []⟩)

theorem z779 {qdata : List api_Cell} {qa : Int} {qb : Int} {r} (hF : z777 qdata qa qb = some r) : Holds prog 295 [.c (.own 0 none), .i qa, .i qb, .c (.fn 229 [])] ⟨[(0, ⟨152, 8, List.map api_Cell.enc qdata⟩)], []⟩ (Is (z778 qdata qa qb r)) := by
  unfold z777 at hF
  refine hW f295 53 1 1 ?_
  refine sR 3 (awp_block (awp_to (st' := z781 qa qb (qdata, IntKind.wrap .i64 (qa + 1))) (oT [] []) ?_))
  refine bE hF fun vl5_1 h12 hF => awp_sub (awp_loop' (z781 qa qb) z783 (z782 qa qb) (by intro x; exact fun h => nomatch h) h12 (z784 qa qb)) ?_
  exact oF hF [] []

/-! ### slices.stableCmpFunc[beaconfleet/api.Cell] -/
def z893 : ((List api_Cell) × Int) → AEx
  | _ => .exit 0

def z892 (qn : Int) : ((List api_Cell) × Int) → St
  | (vl1, va1) => Mem.st ⟨[(0, ⟨152, 8, List.map api_Cell.enc vl1⟩)], []⟩ (tl [(0, .c (.own 0 none)), (1, .i qn), (2, .c (.fn 229 [])), (6, .i 20), (7, .i va1)]) 1

def z891 (qn : Int) : (List api_Cell) × Int × Int → St
  | (vl, va, vb) => Mem.st ⟨[(0, ⟨152, 8, List.map api_Cell.enc vl⟩)], []⟩ (tl [(0, .c (.own 0 none)), (1, .i qn), (2, .c (.fn 229 [])), (6, .i 20), (7, .i va), (8, .i vb)]) 1

theorem z894 (qn : Int) (s : (List api_Cell) × Int × Int) (r : ((List api_Cell) × Int × Int) ⊕ (((List api_Cell) × Int))) (hF : z890 qn s = some r) : Awp prog 1 63 (cL (cL (cL (cR (cR (cB f267)))))) (Out 1 (kk z893) (SS (z891 qn) (z892 qn)) r) (z891 qn s) := by
  obtain ⟨vl, va, vb⟩ := s
  unfold z890 at hF
  refine awp_seq (sR 3 (cE hF (fun h1 hF => ?_) fun h1 hF => ?_))
  · refine tT h1 (awp_skip (awp_block (awp_seq (bE hF fun vl6_1 h2 hF => gE hF fun h3 hF => ?_))))
    refine awp_region (aR 4 (aCp (z779 h2) ⟨⟨rfl, rfl, pin1 h3⟩, trivial⟩ [] [] [] ?_))
    refine aE ?_
    exact sR 2 (gR 4 (oO hF [] [] rfl))
  · refine tF h1 (awp_exit ?_)
    exact oO hF [] [] rfl

def z903 : Unit → AEx
  | _ => .exit 4

def z902 (qn : Int) (vl6_2 : List api_Cell) (vblockSize : Int) : Unit → St
  | _ => Mem.st ⟨[(0, ⟨152, 8, List.map api_Cell.enc vl6_2⟩)], []⟩ (tl [(0, .c (.own 0 none)), (1, .i qn), (2, .c (.fn 229 [])), (6, .i vblockSize), (7, .i 0)]) 1

def z901 (qn : Int) (vl6_2 : List api_Cell) (vblockSize : Int) : Unit → St
  | _ => Mem.st ⟨[(0, ⟨152, 8, List.map api_Cell.enc vl6_2⟩)], []⟩ (tl [(0, .c (.own 0 none)), (1, .i qn), (2, .c (.fn 229 [])), (6, .i vblockSize), (7, .i 0), (8, .i (IntKind.wrap .i64 ((2 : Int) * vblockSize)))]) 1

theorem z904 (qn : Int) (vl6_2 : List api_Cell) (vblockSize : Int) (s : Unit) (r : (Unit) ⊕ (Unit)) (hF : z900 qn vblockSize s = some r) : Awp prog 1 63 (cL (cL (cL (cR (cL (cR (cL (cL (cR (cR (cR (cR (cB f267))))))))))))) (Out 1 (kk z903) (SS (z901 qn vl6_2 vblockSize) (z902 qn vl6_2 vblockSize)) r) (z901 qn vl6_2 vblockSize s) := by
  unfold z900 at hF
  refine awp_seq (sR 3 (cE hF (fun h8 hF => ?_) fun h8 hF => ?_))
  · exact tT h8 (awp_skip (awp_block (awp_seq (nE hF))))
  · refine tF h8 (awp_exit ?_)
    exact oO hF [] [] rfl

def z898 : Unit → AEx
  | _ => .exit 2

def z897 (qn : Int) (vl6_2 : List api_Cell) : Unit → St
  | _ => Mem.st ⟨[(0, ⟨152, 8, List.map api_Cell.enc vl6_2⟩)], []⟩ (tl []) 1

def z896 (qn : Int) (vl6_2 : List api_Cell) : Int → St
  | vblockSize => Mem.st ⟨[(0, ⟨152, 8, List.map api_Cell.enc vl6_2⟩)], []⟩ (tl [(0, .c (.own 0 none)), (1, .i qn), (2, .c (.fn 229 [])), (6, .i vblockSize)]) 1

theorem z899 (qn : Int) (vl6_2 : List api_Cell) (vblockSize : Int) (r : (Int) ⊕ (Unit)) (hF : z895 qn vblockSize = some r) : Awp prog 1 63 (cL (cL (cR (cR (cR (cR (cB f267))))))) (Out 1 (kk z898) (SS (z896 qn vl6_2) (z897 qn vl6_2)) r) (z896 qn vl6_2 vblockSize) := by
  unfold z895 at hF
  refine awp_seq (sR 3 (cE hF (fun h7 hF => ?_) fun h7 hF => ?_))
  · refine tT h7 (awp_skip (awp_block (sR 4 (awp_seq (awp_block (awp_to (st' := z901 qn vl6_2 vblockSize ()) (oT [] []) ?_))))))
    refine bE hF fun _ h10 hF => awp_sub (awp_loop' (z901 qn vl6_2 vblockSize) z903 (z902 qn vl6_2 vblockSize) (by intro x; exact fun h => nomatch h) h10 (z904 qn vl6_2 vblockSize)) ?_
    refine awp_seq (sR 4 (sR 3 (cE hF (fun h11 hF => ?_) fun h11 hF => ?_)))
    · exact tT h11 (nE hF)
    · exact tF h11 (awp_skip (gR 3 (oO hF [] [] rfl)))
  · refine tF h7 (awp_exit ?_)
    exact oO hF [] [] rfl

def z888 (qdata : List api_Cell) (qn : Int) (r : (List api_Cell)) : TV × Mem := (.tup [], ⟨[(0, ⟨152, 8, List.map api_Cell.enc r⟩)], []⟩)

theorem z889 {qdata : List api_Cell} {qn : Int} {r} (hF : z887 qdata qn = some r) : Holds prog 267 [.c (.own 0 none), .i qn, .c (.fn 229 [])] ⟨[(0, ⟨152, 8, List.map api_Cell.enc qdata⟩)], []⟩ (Is (z888 qdata qn r)) := by
  unfold z887 at hF
  refine hW f267 63 1 1 ?_
  refine sR 1 (sR 3 (awp_seq (awp_block (awp_to (st' := z891 qn (qdata, 0, 20)) (oT [] []) ?_))))
  refine bE hF fun x h4 hF => ?_
  obtain ⟨vl1_1, va1_1⟩ := x
  refine awp_sub (awp_loop' (z891 qn) z893 (z892 qn) (by intro x; exact fun h => nomatch h) h4 (z894 qn)) ?_
  refine awp_seq (bE hF fun vl6_2 h5 hF => gE hF fun h6 hF => ?_)
  refine awp_region (aR 4 (aCp (z779 h5) ⟨⟨rfl, rfl, pin1 h6⟩, trivial⟩ [] [] [] ?_))
  refine aE ?_
  refine awp_block (awp_to (st' := z896 qn vl6_2 20) (oT [] []) ?_)
  refine bE hF fun _ h13 hF => awp_sub (awp_loop' (z896 qn vl6_2) z898 (z897 qn vl6_2) (by intro x; exact fun h => nomatch h) h13 (z899 qn vl6_2)) ?_
  exact oF hF [] []

/-! ### slices.SortStableFunc[[]beaconfleet/api.Cell,beaconfleet/api.Cell] -/
def z755 (qx : List api_Cell) (r : (List api_Cell)) : TV × Mem := (.tup [], ⟨[(0, ⟨152, 8, List.map api_Cell.enc r⟩)], []⟩)

theorem z756 {qx : List api_Cell} {r} (hF : z754 qx = some r) : Holds prog 205 [.c (.own 0 none), .c (.fn 229 [])] ⟨[(0, ⟨152, 8, List.map api_Cell.enc qx⟩)], []⟩ (Is (z755 qx r)) := by
  unfold z754 at hF
  refine hW f205 9 1 1 ?_
  refine bE hF fun vl2 h1 hF => gE hF fun h2 hF => ?_
  refine awp_region (aR 2 (aL api_Cell.enc qx (aR 1 (aCp (z889 h1) ⟨⟨rfl, rfl, pin1 h2⟩, trivial⟩ [] [] [] ?_))))
  refine aE ?_
  exact oF hF [] []

/-! ### beaconfleet/fleetref2.MergeOf$2 -/
def z331 (qx : api_Cell) (qy : api_Cell) (r : Unit) : TV × Mem := (.i (Lib.compareBytes qx.Prop_.Name qy.Prop_.Name), ⟨[], []⟩)

theorem z332 {qx : api_Cell} {qy : api_Cell} {r} (hF : z330 qx qy = some r) : Holds prog 231 [.v (.agg [.s qx.Prop_.Name, .i qx.Prop_.Value.Kind, .t qx.Prop_.Value.Flag, .i qx.Prop_.Value.Number, .s qx.Prop_.Value.Words, .i qx.Stamp.At, .s qx.Stamp.By, .i qx.Stamp.No]), .v (.agg [.s qy.Prop_.Name, .i qy.Prop_.Value.Kind, .t qy.Prop_.Value.Flag, .i qy.Prop_.Value.Number, .s qy.Prop_.Value.Words, .i qy.Stamp.At, .s qy.Stamp.By, .i qy.Stamp.No])] ⟨[], []⟩ (Is (z331 qx qy r)) := by
  unfold z330 at hF
  refine hW f231 12 0 0 ?_
  refine sR 3 (awp_seq (bE hF fun _ h1 hF => awp_region (aR 6 (aC (z907 h1) [] [] [] (aR 1 (aE ?_))))))
  exact awp_ret (oF hF [] [])

/-! ### slices.insertionSortCmpFunc[beaconfleet/api.Cell] -/
def z809 (qa : Int) (qb : Int) (vi : Int) (vl3 : List api_Cell) (vj1 : Int) : Bool → St
  | vx4 => Mem.st ⟨[(0, ⟨152, 8, List.map api_Cell.enc vl3⟩)], []⟩ (tl [(0, .c (.own 0 none)), (1, .i qa), (2, .i qb), (3, .c (.fn 231 [])), (8, .i vi), (9, .i vj1), (34, .b vx4)]) 1

def z808 (qa : Int) (qb : Int) (vi : Int) (vl3 : List api_Cell) (vj1 : Int) : St := Mem.st ⟨[(0, ⟨152, 8, List.map api_Cell.enc vl3⟩)], []⟩ (tl [(0, .c (.own 0 none)), (1, .i qa), (2, .i qb), (3, .c (.fn 231 [])), (8, .i vi), (9, .i vj1)]) 1

theorem z810 (qa : Int) (qb : Int) (vi : Int) (vl3 : List api_Cell) (vj1 : Int) {r} (hF : z807 qa vl3 vj1 = some r) : Awp prog 1 53 (cL (cL (cL (cL (cR (cL (cL (cR (cL (cL (cR (cB f295)))))))))))) (Out 1 nrm (z809 qa qb vi vl3 vj1) r) (z808 qa qb vi vl3 vj1) := by
  unfold z807 at hF
  refine cE hF (fun h2 hF => ?_) fun h2 hF => ?_
  · refine bE hF fun vy15 h3 hF => bE hF fun vy16 h4 hF => bE hF fun _ h5 hF => aD ?_
    refine dR 2 ?_
    refine dB h2 ?_
    refine dR 4 ?_
    refine dX (x_idxO api_Cell.enc 0 h3) ?_
    refine dX (x_ldE api_Cell.enc h3) ?_
    refine dR 3 ?_
    refine dX (x_idxO api_Cell.enc 0 h4) ?_
    refine dX (x_ldE api_Cell.enc h4) ?_
    refine dC (z332 h5) [] [] [] ?_
    refine dR 2 ?_
    refine dE ?_
    exact oO hF [] [] rfl
  · refine aD ?_
    refine dR 2 ?_
    refine dB h2 ?_
    refine dR 14 ?_
    refine dE ?_
    exact oO hF [] [] rfl

def z805 : (List api_Cell) → AEx
  | _ => .exit 2

def z804 (qa : Int) (qb : Int) (vi : Int) : (List api_Cell) → St
  | vl4 => Mem.st ⟨[(0, ⟨152, 8, List.map api_Cell.enc vl4⟩)], []⟩ (tl [(0, .c (.own 0 none)), (1, .i qa), (2, .i qb), (3, .c (.fn 231 [])), (8, .i vi)]) 1

def z803 (qa : Int) (qb : Int) (vi : Int) : (List api_Cell) × Int → St
  | (vl3, vj1) => Mem.st ⟨[(0, ⟨152, 8, List.map api_Cell.enc vl3⟩)], []⟩ (tl [(0, .c (.own 0 none)), (1, .i qa), (2, .i qb), (3, .c (.fn 231 [])), (8, .i vi), (9, .i vj1)]) 1

theorem z806 (qa : Int) (qb : Int) (vi : Int) (s : (List api_Cell) × Int) (r : ((List api_Cell) × Int) ⊕ ((List api_Cell))) (hF : z802 qa s = some r) : Awp prog 1 53 (cL (cL (cR (cL (cL (cR (cL (cL (cR (cB f295)))))))))) (Out 1 (kk z805) (SS (z803 qa qb vi) (z804 qa qb vi)) r) (z803 qa qb vi s) := by
  obtain ⟨vl3, vj1⟩ := s
  unfold z802 at hF
  refine awp_seq (awp_seq (awp_to (st' := z808 qa qb vi vl3 vj1) (oT [] []) ?_))
  refine bE hF fun vx4_1 h6 hF => awp_sub (z810 qa qb vi vl3 vj1 h6) ?_
  refine cE hF (fun h7 hF => ?_) fun h7 hF => ?_
  · refine tT h7 (awp_skip (awp_seq (awp_block (bE hF fun vy17 h8 hF => bE hF fun vy18 h9 hF => bE hF fun vy19 h10 hF => aDw [0] ?_))))
    refine dR 8 ?_
    refine dI api_Cell.enc 0 h8 rfl ?_
    refine dX (x_ldE api_Cell.enc h8) ?_
    refine dR 2 ?_
    refine dI api_Cell.enc 0 h9 rfl ?_
    refine dX (x_ldE api_Cell.enc h9) ?_
    refine dI api_Cell.enc 0 h9 rfl ?_
    refine dW api_Cell.enc (api_Cell.mk (api_Prop.mk vy17.Prop_.Name (api_Value.mk vy17.Prop_.Value.Kind vy17.Prop_.Value.Flag vy17.Prop_.Value.Number vy17.Prop_.Value.Words)) (api_Stamp.mk vy17.Stamp.At vy17.Stamp.By vy17.Stamp.No)) h9 rfl ?_
    refine dI api_Cell.enc 0 h10 rfl ?_
    refine dW api_Cell.enc (api_Cell.mk (api_Prop.mk vy18.Prop_.Name (api_Value.mk vy18.Prop_.Value.Kind vy18.Prop_.Value.Flag vy18.Prop_.Value.Number vy18.Prop_.Value.Words)) (api_Stamp.mk vy18.Stamp.At vy18.Stamp.By vy18.Stamp.No)) h10 rfl ?_
    refine dE ?_
    exact gR 3 (oO hF [] [] rfl)
  · refine tF h7 (awp_exit ?_)
    exact oO hF [] [] rfl

def z800 : (List api_Cell) → AEx
  | _ => .exit 0

def z799 (qa : Int) (qb : Int) : (List api_Cell) → St
  | vl5 => Mem.st ⟨[(0, ⟨152, 8, List.map api_Cell.enc vl5⟩)], []⟩ (tl []) 1

def z798 (qa : Int) (qb : Int) : (List api_Cell) × Int → St
  | (vl, vi) => Mem.st ⟨[(0, ⟨152, 8, List.map api_Cell.enc vl⟩)], []⟩ (tl [(0, .c (.own 0 none)), (1, .i qa), (2, .i qb), (3, .c (.fn 231 [])), (8, .i vi)]) 1

theorem z801 (qa : Int) (qb : Int) (s : (List api_Cell) × Int) (r : ((List api_Cell) × Int) ⊕ ((List api_Cell))) (hF : z797 qa qb s = some r) : Awp prog 1 53 (cL (cL (cR (cB f295)))) (Out 1 (kk z800) (SS (z798 qa qb) (z799 qa qb)) r) (z798 qa qb s) := by
  obtain ⟨vl, vi⟩ := s
  unfold z797 at hF
  refine awp_seq (sR 3 (cE hF (fun h1 hF => ?_) fun h1 hF => ?_))
  · refine tT h1 (awp_skip (awp_seq (awp_block (sR 2 (awp_block (awp_to (st' := z803 qa qb vi (vl, vi)) (oT [] []) ?_))))))
    refine bE hF fun vl4_1 h11 hF => awp_sub (awp_loop' (z803 qa qb vi) z805 (z804 qa qb vi) (by intro x; exact fun h => nomatch h) h11 (z806 qa qb vi)) ?_
    exact gR 3 (oO hF [] [] rfl)
  · refine tF h1 (awp_exit ?_)
    exact oO hF [] [] rfl

def z795 (qdata : List api_Cell) (qa : Int) (qb : Int) (r : (List api_Cell)) : TV × Mem := (.tup [], ⟨[(0, ⟨152, 8, List.map api_Cell.enc r⟩)], []⟩)

theorem z796 {qdata : List api_Cell} {qa : Int} {qb : Int} {r} (hF : z794 qdata qa qb = some r) : Holds prog 295 [.c (.own 0 none), .i qa, .i qb, .c (.fn 231 [])] ⟨[(0, ⟨152, 8, List.map api_Cell.enc qdata⟩)], []⟩ (Is (z795 qdata qa qb r)) := by
  unfold z794 at hF
  refine hW f295 53 1 1 ?_
  refine sR 3 (awp_block (awp_to (st' := z798 qa qb (qdata, IntKind.wrap .i64 (qa + 1))) (oT [] []) ?_))
  refine bE hF fun vl5_1 h12 hF => awp_sub (awp_loop' (z798 qa qb) z800 (z799 qa qb) (by intro x; exact fun h => nomatch h) h12 (z801 qa qb)) ?_
  exact oF hF [] []

/-! ### slices.pdqsortCmpFunc[beaconfleet/api.Cell] -/
def z851 : (List api_Cell) → AEx
  | _ => .ret

def z850 (qx : List api_Cell) (qx1 : Int) (qx2 : Int) (qx3 : Int) : (List api_Cell) → St
  | vl => Mem.st ⟨[(0, ⟨152, 8, List.map api_Cell.enc vl⟩)], []⟩ (tl []) 1

def z849 (qx : List api_Cell) (qx1 : Int) (qx2 : Int) (qx3 : Int) : Unit → St
  | _ => Mem.st ⟨[(0, ⟨152, 8, List.map api_Cell.enc qx⟩)], []⟩ (tl [(0, .c (.own 0 none)), (1, .i qx1), (2, .i qx2), (3, .i qx3), (4, .c (.fn 231 [])), (10, .b true), (11, .b true)]) 1

theorem z852 (qx : List api_Cell) (qx1 : Int) (qx2 : Int) (qx3 : Int) (s : Unit) (r : (Unit) ⊕ ((List api_Cell))) (hF : z848 qx qx1 qx2 qx3 s = some r) : Awp prog 1 148 (cL (cL (cR (cR (cB f276))))) (Out 1 (kk z851) (SS (z849 qx qx1 qx2 qx3) (z850 qx qx1 qx2 qx3)) r) (z849 qx qx1 qx2 qx3 s) := by
  unfold z848 at hF
  refine awp_block (sR 4 (awp_seq (sR 2 (cE hF (fun h1 hF => ?_) fun h1 hF => ?_))))
  · refine tT h1 (awp_seq (bE hF fun vl6_1 h2 hF => gE hF fun h3 hF => ?_))
    refine awp_region (aR 4 (aCp (z796 h2) ⟨⟨rfl, rfl, pin1 h3⟩, trivial⟩ [] [] [] ?_))
    refine aE ?_
    exact awp_ret (oO hF [] [] rfl)
  · refine tF h1 (awp_skip (awp_seq (sR 2 (cE hF (fun h4 hF => ?_) fun h4 hF => ?_))))
    · exact tT h4 (awp_seq (nE hF))
    · exact tF h4 (awp_skip (awp_seq (sR 2 (tF rfl (awp_skip (awp_seq (nE hF)))))))

def z846 (qx : List api_Cell) (qx1 : Int) (qx2 : Int) (qx3 : Int) (r : (List api_Cell)) : TV × Mem := (.tup [], ⟨[(0, ⟨152, 8, List.map api_Cell.enc r⟩)], []⟩)

theorem z847 {qx : List api_Cell} {qx1 : Int} {qx2 : Int} {qx3 : Int} {r} (hF : z845 qx qx1 qx2 qx3 = some r) : Holds prog 276 [.c (.own 0 none), .i qx1, .i qx2, .i qx3, .c (.fn 231 [])] ⟨[(0, ⟨152, 8, List.map api_Cell.enc qx⟩)], []⟩ (Is (z846 qx qx1 qx2 qx3 r)) := by
  unfold z845 at hF
  refine hW f276 148 1 1 ?_
  refine sR 1 (sR 1 (awp_block (awp_to (st' := z849 qx qx1 qx2 qx3 ()) (oT [] []) ?_)))
  refine bE hF fun vl1 h7 hF => awp_sub (awp_loop' (z849 qx qx1 qx2 qx3) z851 (z850 qx qx1 qx2 qx3) (by intro x; exact fun h => nomatch h) h7 (z852 qx qx1 qx2 qx3)) ?_
  exact oF hF [] []

/-! ### slices.SortFunc[[]beaconfleet/api.Cell,beaconfleet/api.Cell] -/
def z746 (qx : List api_Cell) (r : (List api_Cell)) : TV × Mem := (.tup [], ⟨[(0, ⟨152, 8, List.map api_Cell.enc r⟩)], []⟩)

theorem z747 {qx : List api_Cell} {r} (hF : z745 qx = some r) : Holds prog 230 [.c (.own 0 none), .c (.fn 231 [])] ⟨[(0, ⟨152, 8, List.map api_Cell.enc qx⟩)], []⟩ (Is (z746 qx r)) := by
  unfold z745 at hF
  refine hW f230 14 1 1 ?_
  refine awp_seq (awp_region (aR 1 (aL api_Cell.enc qx (aR 1 (aE ?_)))))
  refine bE hF fun vr1 h1 hF => bE hF fun vl2 h2 hF => gE hF fun h3 hF => ?_
  refine awp_region (aR 4 (aC (z92 h1) [] [] [] (aR 1 (aCp (z847 h2) ⟨⟨rfl, rfl, pin1 h3⟩, trivial⟩ [] [] [] ?_))))
  refine aE ?_
  exact oF hF [] []

/-! ### beaconfleet/fleetref2.MergeOf -/
def z343 (vl : List api_Cell) (vm : List (List UInt8 × api_Cell)) (vx : Int) (vy1 : api_Cell) (ve1 : api_Cell) (vis1 : Bool) : Bool → St
  | vx2 => Mem.st ⟨[], [(1, [.s vy1.Prop_.Name, .i vy1.Prop_.Value.Kind, .t vy1.Prop_.Value.Flag, .i vy1.Prop_.Value.Number, .s vy1.Prop_.Value.Words, .i vy1.Stamp.At, .s vy1.Stamp.By, .i vy1.Stamp.No]), (2, [.mapc .str true (List.map (encM D.str api_Cell.enc) vm)])]⟩ (tl [(7, .c (.mapp 2)), (9, .c (.box 1 0)), (22, .c (.l api_Cell.enc vl)), (23, .i (vl.length : Int)), (24, .i vx), (49, .b vx2)]) 3

def z342 (vl : List api_Cell) (vm : List (List UInt8 × api_Cell)) (vx : Int) (vy1 : api_Cell) (ve1 : api_Cell) (vis1 : Bool) : St := Mem.st ⟨[], [(1, [.s vy1.Prop_.Name, .i vy1.Prop_.Value.Kind, .t vy1.Prop_.Value.Flag, .i vy1.Prop_.Value.Number, .s vy1.Prop_.Value.Words, .i vy1.Stamp.At, .s vy1.Stamp.By, .i vy1.Stamp.No]), (2, [.s ve1.Prop_.Name, .i ve1.Prop_.Value.Kind, .t ve1.Prop_.Value.Flag, .i ve1.Prop_.Value.Number, .s ve1.Prop_.Value.Words, .i ve1.Stamp.At, .s ve1.Stamp.By, .i ve1.Stamp.No]), (3, [.mapc .str true (List.map (encM D.str api_Cell.enc) vm)])]⟩ (tl [(7, .c (.mapp 3)), (9, .c (.box 1 0)), (10, .c (.box 2 0)), (11, .b vis1), (22, .c (.l api_Cell.enc vl)), (23, .i (vl.length : Int)), (24, .i vx)]) 4

theorem z344 (vl : List api_Cell) (vm : List (List UInt8 × api_Cell)) (vx : Int) (vy1 : api_Cell) (ve1 : api_Cell) (vis1 : Bool) {r} (hF : z341 vy1 ve1 vis1 = some r) : Awp prog 1 72 (cL (cR (cL (cR (cL (cL (cR (cR (cL (cL (cR (cL (cR (cR (cR (cR (cB f149))))))))))))))))) (Out 1 nrm (z343 vl vm vx vy1 ve1 vis1) r) (z342 vl vm vx vy1 ve1 vis1) := by
  unfold z341 at hF
  refine cE hF (fun h8 hF => ?_) fun h8 hF => ?_
  · refine bE hF fun vr2_1 h9 hF => cE hF (fun h10 hF => ?_) fun h10 hF => ?_
    · refine awp_region (aB h8 (aR 5 (aC (z453 h9) [] [] [] (aB h10 (aR 4 (aS (does_eqS (op := .neq) (xs := [.str ve1.Prop_.Name, .int .i64 ve1.Prop_.Value.Kind, .bool ve1.Prop_.Value.Flag, .int .i64 ve1.Prop_.Value.Number, .str ve1.Prop_.Value.Words, .int .i64 ve1.Stamp.At, .str ve1.Stamp.By, .int .i64 ve1.Stamp.No]) (ys := [.str vy1.Prop_.Name, .int .i64 vy1.Prop_.Value.Kind, .bool vy1.Prop_.Value.Flag, .int .i64 vy1.Prop_.Value.Number, .str vy1.Prop_.Value.Words, .int .i64 vy1.Stamp.At, .str vy1.Stamp.By, .int .i64 vy1.Stamp.No]) (b := ((decide (ve1.Prop_.Name = vy1.Prop_.Name) && ((decide (ve1.Prop_.Value.Kind = vy1.Prop_.Value.Kind) && ((ve1.Prop_.Value.Flag == vy1.Prop_.Value.Flag) && (decide (ve1.Prop_.Value.Number = vy1.Prop_.Value.Number) && (decide (ve1.Prop_.Value.Words = vy1.Prop_.Value.Words) && true)))) && true)) && ((decide (ve1.Stamp.At = vy1.Stamp.At) && (decide (ve1.Stamp.By = vy1.Stamp.By) && (decide (ve1.Stamp.No = vy1.Stamp.No) && true))) && true))) (c := (!((decide (ve1.Prop_.Name = vy1.Prop_.Name) && ((decide (ve1.Prop_.Value.Kind = vy1.Prop_.Value.Kind) && ((ve1.Prop_.Value.Flag == vy1.Prop_.Value.Flag) && (decide (ve1.Prop_.Value.Number = vy1.Prop_.Value.Number) && (decide (ve1.Prop_.Value.Words = vy1.Prop_.Value.Words) && true)))) && true)) && ((decide (ve1.Stamp.At = vy1.Stamp.At) && (decide (ve1.Stamp.By = vy1.Stamp.By) && (decide (ve1.Stamp.No = vy1.Stamp.No) && true))) && true)))) rfl (.inr ⟨rfl, rfl⟩) (by kernel_rfl) (by kernel_rfl) (by kernel_rfl) (by kernel_rfl) (by kernel_rfl) (by kernel_rfl)) ?_))))))
      refine aR 1 (aE ?_)
      exact oO hF [(2, 3)] [] rfl
    · refine awp_region (aB h8 (aR 5 (aC (z453 h9) [] [] [] (aB h10 (aR 6 (aE ?_))))))
      exact oO hF [(2, 3)] [] rfl
  · refine awp_region (aB h8 (aR 13 (aE ?_)))
    exact oO hF [(2, 3)] [] rfl

def z339 : (List (List UInt8 × api_Cell)) ⊕ Unit → AEx
  | .inl _ => .exit 0
  | .inr _ => .ret

def z338 (vl : List api_Cell) : (List (List UInt8 × api_Cell)) ⊕ Unit → St
  | .inl vm1 => Mem.st ⟨[], [(1, [.mapc .str true (List.map (encM D.str api_Cell.enc) vm1)])]⟩ (tl [(7, .c (.mapp 1))]) 2
  | .inr _ => Mem.st ⟨[], []⟩ (tl [(4, .c (.nil)), (5, .i 13)]) 1

def z337 (vl : List api_Cell) : (List (List UInt8 × api_Cell)) × Int → St
  | (vm, vx) => Mem.st ⟨[], [(1, [.mapc .str true (List.map (encM D.str api_Cell.enc) vm)])]⟩ (tl [(7, .c (.mapp 1)), (22, .c (.l api_Cell.enc vl)), (23, .i (vl.length : Int)), (24, .i vx)]) 2

theorem z340 (vl : List api_Cell) (s : (List (List UInt8 × api_Cell)) × Int) (r : ((List (List UInt8 × api_Cell)) × Int) ⊕ ((List (List UInt8 × api_Cell)) ⊕ Unit)) (hF : z336 vl s = some r) : Awp prog 1 72 (cL (cL (cR (cL (cR (cR (cR (cR (cB f149))))))))) (Out 1 (kk z339) (SS (z337 vl) (z338 vl)) r) (z337 vl s) := by
  obtain ⟨vm, vx⟩ := s
  unfold z336 at hF
  refine sR 1 (awp_seq (cE hF (fun h4 hF => ?_) fun h4 hF => ?_))
  · refine tT h4 (awp_skip (awp_seq (awp_block (awp_seq (bE hF fun vy1 h5 hF => awp_region (aX (x_idx api_Cell.enc h5) (aR 3 (aE ?_))))))))
    refine awp_seq (awp_seq (bE hF fun ve1 h6 hF => bE hF fun vis1 h7 hF => awp_region (aR 4 (aX (x_getO 1 true D.str api_Cell.enc h6 h7) (aR 6 (aE ?_))))))
    refine awp_seq (awp_to (st' := z342 vl vm vx vy1 ve1 vis1) (oT [(1, 3002), (2, 13002), (3, 1)] []) ?_)
    refine bE hF fun vx2_1 h11 hF => awp_sub (z344 vl vm vx vy1 ve1 vis1 h11) ?_
    refine cE hF (fun h12 hF => ?_) fun h12 hF => ?_
    · exact tT h12 (sR 2 (awp_ret (oO hF [] [] rfl)))
    · refine tF h12 (awp_skip (awp_region (aR 5 (aPut 2 .str true (l := vm) (key := vy1.Prop_.Name) (v := (api_Cell.mk (api_Prop.mk vy1.Prop_.Name (api_Value.mk vy1.Prop_.Value.Kind vy1.Prop_.Value.Flag vy1.Prop_.Value.Number vy1.Prop_.Value.Words)) (api_Stamp.mk vy1.Stamp.At vy1.Stamp.By vy1.Stamp.No))) D.str api_Cell.enc rfl ?_))))
      refine aE ?_
      exact gR 2 (oO hF [(1, 2)] [] rfl)
  · refine tF h4 (awp_exit ?_)
    exact oO hF [] [] rfl

def z348 : (List api_Cell) → AEx
  | _ => .exit 2

def z347 (vm1_1 : List (List UInt8 × api_Cell)) (vme : List (Nat × List D × List D)) (vcl : Nat) (vhp : (List.map (encM D.str api_Cell.enc) vm1_1).Perm (List.map (·.2) vme)) : (List api_Cell) → St
  | vx4 => Mem.st ⟨[(1, ⟨152, 8, List.map api_Cell.enc vx4⟩)], []⟩ (tl [(12, .c (.own 1 none))]) 2

def z346 (vm1_1 : List (List UInt8 × api_Cell)) (vme : List (Nat × List D × List D)) (vcl : Nat) (vhp : (List.map (encM D.str api_Cell.enc) vm1_1).Perm (List.map (·.2) vme)) (vl1 : List (List UInt8 × api_Cell)) : (List api_Cell) → St
  | vx3 => Mem.st ⟨[(3, ⟨152, 8, List.map api_Cell.enc vx3⟩)], [(1, [.iterc 2 vme vcl (List.map (encM D.str api_Cell.enc) vl1) none]), (2, [.mapg .str true vme vcl])]⟩ (tl [(12, .c (.own 3 none)), (57, .c (.box 1 0))]) 4

theorem z349 (vm1_1 : List (List UInt8 × api_Cell)) (vme : List (Nat × List D × List D)) (vcl : Nat) (vhp : (List.map (encM D.str api_Cell.enc) vm1_1).Perm (List.map (·.2) vme)) (vl1 : List (List UInt8 × api_Cell)) (vx3 : (List api_Cell)) (hE : vl1 = [] → ∃ x, z345 none vx3 = some x) (hP : ∀ e l', List.Perm vl1 (e :: l') → ∃ x, z345 (some e) vx3 = some x) : Awp prog 1 72 (cL (cL (cR (cL (cR (cR (cR (cR (cR (cR (cB f149))))))))))) (OutR 1 z348 (z345) (z346 vm1_1 vme vcl vhp) (z347 vm1_1 vme vcl vhp) vl1 vx3) (z346 vm1_1 vme vcl vhp vl1 vx3) := by
  refine awp_seq (awp_region (aNext (ka := .str) (va := true) (me := vme) (cl := vcl) (cur := none) 1 2 (encM D.str api_Cell.enc) vl1 rfl (fun h16 => ?_) (fun ve3 vl3 vb1 h17 => ?_)))
  · obtain ⟨x, hF0⟩ := hE h16
    have hF := hF0
    unfold z345 at hF
    refine aR 1 (aE ?_)
    refine awp_seq (tF rfl (awp_close (ka := .str) (va := true) (me := vme) (cl := vcl) 2 vhp ?_))
    refine awp_exit ?_
    exact outE h16 hF0 (oO hF [(1, 3)] [] rfl)
  · obtain ⟨x, hF0⟩ := hP _ _ h17
    have hF := hF0
    unfold z345 at hF
    refine aR 1 (aE ?_)
    refine awp_seq (tT rfl (awp_skip (awp_block (awp_seq (awp_region (aEntry (ka := .str) (va := true) (me := vme) (cl := vcl) (b := vb1) (rest := List.map (encM D.str api_Cell.enc) vl3) 1 2 (encM D.str api_Cell.enc) ve3 rfl ?_))))))
    refine aR 3 (aE ?_)
    refine gE hF fun h18 hF => ?_
    refine awp_region (aR 3 (aX (x_app api_Cell.enc 3 h18) (aR 1 (aE ?_))))
    exact outP h17 hF0 (outCur (idM := 2) (me := vme) (cl := vcl) (rest := List.map (encM D.str api_Cell.enc) vl3) (cur := some (vb1, (encM D.str api_Cell.enc) ve3)) 1 <| oO hF [(3, 9004)] [] rfl)

def z334 (qx : List api_Cell) (qx1 : List api_Cell) (r : (List api_Cell) × Int) : TV × Mem := (.tup [.one (.own 1 none), .one (.i r.2)], ⟨[(1, ⟨152, 8, List.map api_Cell.enc r.1⟩)], []⟩)

theorem z335 {qx : List api_Cell} {qx1 : List api_Cell} {r} (hF : z333 qx qx1 = some r) : Holds prog 149 [.c (.l api_Cell.enc qx), .c (.own 0 none)] ⟨[(0, ⟨152, 8, List.map api_Cell.enc qx1⟩)], []⟩ (Is (z334 qx qx1 r)) := by
  unfold z333 at hF
  refine hW f149 72 1 1 ?_
  refine sR 2 (awp_to (oT (m := ⟨[], []⟩) (ts := [(0, .c (.l api_Cell.enc qx)), (1, .c (.l api_Cell.enc qx1))]) (nx := 1) [] []) ?_)
  refine awp_seq (bE hF fun vr1 h1 hF => awp_region (aR 3 (aC (z623 h1) [(0, 2001)] [] [] (aR 1 (aE ?_)))))
  refine awp_seq (bE hF fun vl h2 hF => gE hF fun h3 hF => ?_)
  refine awp_region (aR 1 (aCp (z756 h2) ⟨⟨rfl, rfl, pin1 h3⟩, trivial⟩ [(0, 3002)] [] [] ?_))
  refine aE ?_
  refine awp_seq (awp_region (aX (x_map .str true (κ := List UInt8) (β := api_Cell) D.str api_Cell.enc) (aR 1 (aE ?_))))
  refine awp_seq (awp_seq (awp_region (aR 1 (aL api_Cell.enc vl (aR 1 (aE ?_))))))
  refine awp_to (oT (m := ⟨[], [(1, [.mapc .str true (List.map (encM D.str api_Cell.enc) ([] : List (List UInt8 × api_Cell)))])]⟩) (ts := [(7, .c (.mapp 1)), (22, .c (.l api_Cell.enc vl)), (23, .i (vl.length : Int)), (24, .i 0)]) (nx := 2) [(1, 7001)] []) ?_
  refine awp_block (awp_to (st' := z337 vl (([] : List (List UInt8 × api_Cell)), 0)) (oT [] []) ?_)
  refine bE hF fun x h13 hF => ?_
  rcases x with vm1_1 | _
  · refine awp_sub (awp_loop' (z337 vl) z339 (z338 vl) (by intro x; rcases x with x | x <;> exact fun h => nomatch h) h13 (z340 vl)) ?_
    refine sR 1 (awp_seq (awp_seq (awp_region (aR 1 (aRange (ka := .str) (va := true) 1 (encM D.str api_Cell.enc) vm1_1 rfl (fun vme vcl vhp => ?_))))))
    refine aE ?_
    refine awp_block (awp_to (st' := z346 vm1_1 vme vcl vhp vm1_1 []) (oT [(1, 2002), (2, 1)] [3]) ?_)
    refine rG (H := z346 vm1_1 vme vcl vhp) (k := z348) (S := z347 vm1_1 vme vcl vhp) hF (by intro x; exact fun h => nomatch h) (fun l s => z349 vm1_1 vme vcl vhp l s) (fun vx4_1 hF => ?_)
    refine awp_seq (bE hF fun vl4 h20 hF => gE hF fun h21 hF => ?_)
    refine awp_region (aR 1 (aCp (z747 h20) ⟨⟨rfl, rfl, pin1 h21⟩, trivial⟩ [(0, 1)] [] [] ?_))
    refine aE ?_
    refine awp_seq (awp_seq (awp_region (aR 1 (aL api_Cell.enc vl4 (aR 1 (aE ?_))))))
    refine cE hF (fun h22 hF => ?_) fun h22 hF => ?_
    · exact tT h22 (sR 2 (awp_ret (oF hF [] [1])))
    · exact tF h22 (awp_skip (sR 3 (awp_ret (oF hF [] []))))
  · refine awp_sub (awp_loop' (z337 vl) z339 (z338 vl) (by intro x; rcases x with x | x <;> exact fun h => nomatch h) h13 (z340 vl)) ?_
    exact oF hF [] [1]

/-! ### beaconfleet/fleetref2.TakeOf -/
def z463 : (List api_Cell) → AEx
  | _ => .exit 0

def z462 (qt : api_Twin) (qc : List api_Change) (qs : api_Stamp) : (List api_Cell) → St
  | vl1 => Mem.st ⟨[(2, ⟨152, 8, List.map api_Cell.enc vl1⟩)], [(0, [.l api_Cell.enc qt.Desired, .l api_Cell.enc qt.Reported]), (1, [.nil, .nil])]⟩ (tl [(3, .c (.box 0 0)), (6, .c (.box 1 0)), (8, .c (.own 2 none))]) 3

def z461 (qt : api_Twin) (qc : List api_Change) (qs : api_Stamp) : (List api_Cell) × Int → St
  | (vl, vx) => Mem.st ⟨[(3, ⟨152, 8, List.map api_Cell.enc vl⟩)], [(0, [.l api_Cell.enc qt.Desired, .l api_Cell.enc qt.Reported]), (1, [.i qs.At, .s qs.By, .i qs.No]), (2, [.nil, .nil])]⟩ (tl [(3, .c (.box 0 0)), (5, .c (.box 1 0)), (6, .c (.box 2 0)), (8, .c (.own 3 none)), (18, .c (.l api_Change.enc qc)), (19, .i (qc.length : Int)), (20, .i vx)]) 4

theorem z464 (qt : api_Twin) (qc : List api_Change) (qs : api_Stamp) (s : (List api_Cell) × Int) (r : ((List api_Cell) × Int) ⊕ ((List api_Cell))) (hF : z460 qc qs s = some r) : Awp prog 0 51 (cL (cL (cR (cL (cR (cR (cR (cB f51)))))))) (Out 0 (kk z463) (SS (z461 qt qc qs) (z462 qt qc qs)) r) (z461 qt qc qs s) := by
  obtain ⟨vl, vx⟩ := s
  unfold z460 at hF
  refine sR 1 (awp_seq (cE hF (fun h3 hF => ?_) fun h3 hF => ?_))
  · refine tT h3 (awp_skip (awp_seq (awp_block (awp_seq (bE hF fun vy1 h4 hF => awp_region (aX (x_idx api_Change.enc h4) (aR 3 (aE ?_))))))))
    refine gE hF fun h5 hF => ?_
    refine awp_region (aR 9 (aX (x_app api_Cell.enc 3 h5) (aR 1 (aE ?_))))
    exact gR 2 (oO hF [(3, 14004)] [] rfl)
  · refine tF h3 (awp_exit ?_)
    exact oO hF [(1, 2), (2, 3)] [] rfl

def z458 (qt : api_Twin) (qc : List api_Change) (qs : api_Stamp) (r : (List api_Cell) × (List api_Cell) × Int) : TV × Mem := (.tup [.agg [.own 0 none, .own 1 none], .one (.i r.2.2)], ⟨[(0, ⟨152, 8, List.map api_Cell.enc r.1⟩), (1, ⟨152, 8, List.map api_Cell.enc r.2.1⟩)], []⟩)

theorem z459 {qt : api_Twin} {qc : List api_Change} {qs : api_Stamp} {r} (hF : z454 qt qc qs = some r) : Holds prog 51 [.v (.agg [.l api_Cell.enc qt.Desired, .l api_Cell.enc qt.Reported]), .c (.l api_Change.enc qc), .v (.agg [.i qs.At, .s qs.By, .i qs.No])] ⟨[], []⟩ (Is (z458 qt qc qs r)) := by
  unfold z454 at hF
  refine hW f51 51 0 0 ?_
  refine sR 4 (awp_seq (awp_seq (bE hF fun vr h1 hF => awp_region (aR 3 (aC (z636 h1) [(0, 1000)] [] [] (aE ?_))))))
  refine cE hF (fun h2 hF => ?_) fun h2 hF => ?_
  · exact tT h2 (sR 3 (awp_ret (oF hF [] [0, 1])))
  · refine tF h2 (awp_skip (sR 1 (awp_seq (awp_seq (awp_region (aR 1 (aL api_Change.enc qc (aR 1 (aE ?_)))))))))
    refine awp_block (awp_to (st' := z461 qt qc qs ([], 0)) (oT [(1, 1000), (2, 2000)] [3]) ?_)
    refine bE hF fun vl1_1 h6 hF => awp_sub (awp_loop' (z461 qt qc qs) z463 (z462 qt qc qs) (by intro x; exact fun h => nomatch h) h6 (z464 qt qc qs)) ?_
    refine awp_seq (bE hF fun x h7 hF => ?_)
    obtain ⟨vr1, vr3⟩ := x
    refine awp_region (aR 3 (aC (z335 h7) [(0, 2)] [] [] (aR 5 (aE ?_))))
    refine awp_seq (sR 2 (cE hF (fun h8 hF => ?_) fun h8 hF => ?_))
    · exact tT h8 (sR 4 (awp_ret (oF hF [] [0, 1])))
    · refine tF h8 (awp_skip (awp_seq (bE hF fun vr2 h9 hF => awp_region (aR 2 (aC (z583 h9) [] [] [] (aR 4 (aE ?_)))))))
      exact awp_ret (oF hF [(0, 13003), (1, 3004)] [])

/-! ### slices.Equal[[]beaconfleet/api.Cell,beaconfleet/api.Cell] -/
def z664 : Unit ⊕ Unit → AEx
  | .inl _ => .exit 0
  | .inr _ => .ret

def z663 (qs1 : List api_Cell) (qs2 : List api_Cell) : Unit ⊕ Unit → St
  | .inl _ => Mem.st ⟨[], []⟩ (tl []) 0
  | .inr _ => Mem.st ⟨[], []⟩ (tl [(4, .b false)]) 0

def z662 (qs1 : List api_Cell) (qs2 : List api_Cell) : Int → St
  | vx => Mem.st ⟨[], []⟩ (tl [(0, .c (.l api_Cell.enc qs1)), (1, .c (.l api_Cell.enc qs2)), (12, .i (qs1.length : Int)), (13, .i vx)]) 0

theorem z665 (qs1 : List api_Cell) (qs2 : List api_Cell) (vx : Int) (r : (Int) ⊕ (Unit ⊕ Unit)) (hF : z661 qs1 qs2 vx = some r) : Awp prog 0 26 (cL (cL (cR (cL (cR (cR (cB f150))))))) (Out 0 (kk z664) (SS (z662 qs1 qs2) (z663 qs1 qs2)) r) (z662 qs1 qs2 vx) := by
  unfold z661 at hF
  refine sR 1 (awp_seq (cE hF (fun h2 hF => ?_) fun h2 hF => ?_))
  · refine tT h2 (awp_skip (awp_seq (awp_block (sR 2 (awp_seq (bE hF fun vy2 h3 hF => bE hF fun vy3 h4 hF => aD ?_))))))
    refine dR 2 ?_
    refine dX (x_idx api_Cell.enc h3) ?_
    refine dR 3 ?_
    refine dX (x_idx api_Cell.enc h4) ?_
    refine dR 1 ?_
    refine dS (U := []) (stable_eqS (op := .neq) (xs := [.str vy2.Prop_.Name, .int .i64 vy2.Prop_.Value.Kind, .bool vy2.Prop_.Value.Flag, .int .i64 vy2.Prop_.Value.Number, .str vy2.Prop_.Value.Words, .int .i64 vy2.Stamp.At, .str vy2.Stamp.By, .int .i64 vy2.Stamp.No]) (ys := [.str vy3.Prop_.Name, .int .i64 vy3.Prop_.Value.Kind, .bool vy3.Prop_.Value.Flag, .int .i64 vy3.Prop_.Value.Number, .str vy3.Prop_.Value.Words, .int .i64 vy3.Stamp.At, .str vy3.Stamp.By, .int .i64 vy3.Stamp.No]) (b := ((decide (vy2.Prop_.Name = vy3.Prop_.Name) && ((decide (vy2.Prop_.Value.Kind = vy3.Prop_.Value.Kind) && ((vy2.Prop_.Value.Flag == vy3.Prop_.Value.Flag) && (decide (vy2.Prop_.Value.Number = vy3.Prop_.Value.Number) && (decide (vy2.Prop_.Value.Words = vy3.Prop_.Value.Words) && true)))) && true)) && ((decide (vy2.Stamp.At = vy3.Stamp.At) && (decide (vy2.Stamp.By = vy3.Stamp.By) && (decide (vy2.Stamp.No = vy3.Stamp.No) && true))) && true))) (c := (!((decide (vy2.Prop_.Name = vy3.Prop_.Name) && ((decide (vy2.Prop_.Value.Kind = vy3.Prop_.Value.Kind) && ((vy2.Prop_.Value.Flag == vy3.Prop_.Value.Flag) && (decide (vy2.Prop_.Value.Number = vy3.Prop_.Value.Number) && (decide (vy2.Prop_.Value.Words = vy3.Prop_.Value.Words) && true)))) && true)) && ((decide (vy2.Stamp.At = vy3.Stamp.At) && (decide (vy2.Stamp.By = vy3.Stamp.By) && (decide (vy2.Stamp.No = vy3.Stamp.No) && true))) && true)))) rfl (.inr ⟨rfl, rfl⟩) (by kernel_rfl) (by kernel_rfl) (by kernel_rfl) (by kernel_rfl) (by kernel_rfl) (by kernel_rfl)) ?_
    refine dE ?_
    refine cE hF (fun h5 hF => ?_) fun h5 hF => ?_
    · exact tT h5 (sR 1 (awp_ret (oO hF [] [] rfl)))
    · exact tF h5 (awp_skip (gR 2 (oO hF [] [] rfl)))
  · refine tF h2 (awp_exit ?_)
    exact oO hF [] [] rfl

def z659 (qs1 : List api_Cell) (qs2 : List api_Cell) (r : Bool) : TV × Mem := (.b r, ⟨[], []⟩)

theorem z660 {qs1 : List api_Cell} {qs2 : List api_Cell} {r} (hF : z658 qs1 qs2 = some r) : Holds prog 150 [.c (.l api_Cell.enc qs1), .c (.l api_Cell.enc qs2)] ⟨[], []⟩ (Is (z659 qs1 qs2 r)) := by
  unfold z658 at hF
  refine hW f150 26 0 0 ?_
  refine sR 1 (awp_seq (awp_seq (awp_region (aR 1 (aL api_Cell.enc qs1 (aR 1 (aL api_Cell.enc qs2 (aR 1 (aE ?_)))))))))
  refine cE hF (fun h1 hF => ?_) fun h1 hF => ?_
  · exact tT h1 (sR 1 (awp_ret (oF hF [] [])))
  · refine tF h1 (awp_skip (awp_seq (awp_seq (awp_region (aR 1 (aL api_Cell.enc qs1 (aR 1 (aE ?_))))))))
    refine awp_block (awp_to (st' := z662 qs1 qs2 0) (oT [] []) ?_)
    refine bE hF fun x h6 hF => ?_
    rcases x with _ | _
    · refine awp_sub (awp_loop' (z662 qs1 qs2) z664 (z663 qs1 qs2) (by intro x; rcases x with x | x <;> exact fun h => nomatch h) h6 (z665 qs1 qs2)) ?_
      exact sR 1 (awp_ret (oF hF [] []))
    · refine awp_sub (awp_loop' (z662 qs1 qs2) z664 (z663 qs1 qs2) (by intro x; rcases x with x | x <;> exact fun h => nomatch h) h6 (z665 qs1 qs2)) ?_
      exact oF hF [] []

/-! ### beaconfleet/fleetref2.SameTwin -/
def z446 (qa : api_Twin) (qb : api_Twin) : Bool → St
  | vx => Mem.st ⟨[], []⟩ (tl [(4, .b vx)]) 0

def z445 (qa : api_Twin) (qb : api_Twin) : St := Mem.st ⟨[], [(0, [.l api_Cell.enc qa.Desired, .l api_Cell.enc qa.Reported]), (1, [.l api_Cell.enc qb.Desired, .l api_Cell.enc qb.Reported])]⟩ (tl [(2, .c (.box 0 0)), (3, .c (.box 1 0))]) 2

theorem z447 (qa : api_Twin) (qb : api_Twin) {r} (hF : z444 qa qb = some r) : Awp prog 0 17 (cL (cR (cB f52))) (Out 0 nrm (z446 qa qb) r) (z445 qa qb) := by
  unfold z444 at hF
  refine bE hF fun vr h1 hF => cE hF (fun h2 hF => ?_) fun h2 hF => ?_
  · refine bE hF fun vr1 h3 hF => awp_region (aR 4 (aCb (z660 h1) [] [] [] h2 ?_))
    refine aR 5 (aC (z660 h3) [] [] [] (aR 2 (aE ?_)))
    exact oO hF [] [] rfl
  · refine awp_region (aR 4 (aCb (z660 h1) [] [] [] h2 ?_))
    refine aR 8 (aE ?_)
    exact oO hF [] [] rfl

def z442 (qa : api_Twin) (qb : api_Twin) (r : Bool) : TV × Mem := (.b r, ⟨[], []⟩)

theorem z443 {qa : api_Twin} {qb : api_Twin} {r} (hF : z441 qa qb = some r) : Holds prog 52 [.v (.agg [.l api_Cell.enc qa.Desired, .l api_Cell.enc qa.Reported]), .v (.agg [.l api_Cell.enc qb.Desired, .l api_Cell.enc qb.Reported])] ⟨[], []⟩ (Is (z442 qa qb r)) := by
  unfold z441 at hF
  refine hW f52 17 0 0 ?_
  refine sR 3 (awp_seq (awp_to (st' := z445 qa qb) (oT [(1, 1000)] []) ?_))
  refine bE hF fun vx1 h4 hF => awp_sub (z447 qa qb h4) ?_
  exact awp_ret (oF hF [] [])

/-! ### beaconfleet/twin.CheckProps -/
def z1034 : Unit → AEx
  | _ => .exit 0

def z1033 : Unit → St
  | _ => Mem.st ⟨[], [(0, [.nil])]⟩ (tl [(1, .c (.box 0 0))]) 1

def z1032 : Unit → St
  | _ => Mem.st ⟨[], [(0, [.nil])]⟩ (tl [(1, .c (.box 0 0)), (11, .c (.nil)), (12, .i 0), (13, .i 0)]) 1

theorem z1035 (s : Unit) (r : (Unit) ⊕ (Unit)) (hF : z1031  s = some r) : Awp prog 0 57 (cL (cL (cR (cL (cR (cR (cB f232))))))) (Out 0 (kk z1034) (SS (z1032 ) (z1033 )) r) (z1032  s) := by
  unfold z1031 at hF
  refine sR 1 (awp_seq (cE hF (fun h2 hF => ?_) fun h2 hF => ?_))
  · exact tT h2 (awp_skip (awp_seq (awp_block (awp_seq (nE hF)))))
  · refine tF h2 (awp_exit ?_)
    exact oO hF [] [] rfl

def z1039 : Unit → AEx
  | _ => .exit 2

def z1038 : Unit → St
  | _ => Mem.st ⟨[], []⟩ (tl []) 0

def z1037 : Unit → St
  | _ => Mem.st ⟨[], [(0, [.nil])]⟩ (tl [(1, .c (.box 0 0)), (46, .c (.nil)), (47, .i 0), (48, .i 0)]) 1

theorem z1040 (s : Unit) (r : (Unit) ⊕ (Unit)) (hF : z1036  s = some r) : Awp prog 0 57 (cL (cL (cR (cL (cR (cR (cR (cB f232)))))))) (Out 0 (kk z1039) (SS (z1037 ) (z1038 )) r) (z1037  s) := by
  unfold z1036 at hF
  refine sR 1 (awp_seq (cE hF (fun h5 hF => ?_) fun h5 hF => ?_))
  · exact tT h5 (awp_skip (awp_seq (awp_block (awp_seq (nE hF)))))
  · refine tF h5 (awp_exit ?_)
    exact oO hF [] [] rfl

def z1029 (r : Int) : TV × Mem := (.i r, ⟨[], []⟩)

theorem z1030 {r} (hF : z1028 = some r) : Holds prog 232 [.c (.nil)] ⟨[], []⟩ (Is (z1029  r)) := by
  unfold z1028 at hF
  refine hW f232 57 0 0 ?_
  refine sR 2 (awp_seq (sR 3 (cE hF (fun h1 hF => ?_) fun h1 hF => ?_)))
  · exact tT h1 (sR 1 (awp_ret (oF hF [] [])))
  · refine tF h1 (awp_skip (awp_seq (sR 3 (awp_block (awp_to (st' := z1032  ()) (oT [] []) ?_)))))
    refine bE hF fun _ h4 hF => awp_sub (awp_loop' (z1032 ) z1034 (z1033 ) (by intro x; exact fun h => nomatch h) h4 (z1035 )) ?_
    refine awp_seq (sR 3 (awp_block (awp_to (st' := z1037  ()) (oT [] []) ?_)))
    refine bE hF fun _ h7 hF => awp_sub (awp_loop' (z1037 ) z1039 (z1038 ) (by intro x; exact fun h => nomatch h) h7 (z1040 )) ?_
    exact sR 1 (awp_ret (oF hF [] []))

/-! ### beaconfleet/twin.CheckProps$1 -/
def z1025 (qs : List UInt8) (qx : List api_Prop) (r : Bool) : TV × Mem := (.b r, ⟨[], [(0, [.l api_Prop.enc qx])]⟩)

theorem z1026 {qs : List UInt8} {qx : List api_Prop} {r} (hF : z1024 qs qx = some r) : Holds prog 278 [.c (.s qs), .c (.box 0 0)] ⟨[], [(0, [.l api_Prop.enc qx])]⟩ (Is (z1025 qs qx r)) := by
  unfold z1024 at hF
  refine hW f278 8 1 1 ?_
  refine sR 1 (awp_seq (bE hF fun vr2 h1 hF => awp_region (aR 2 (aC (z1148 h1) [] [] [] (aR 2 (aE ?_))))))
  exact awp_ret (oF hF [] [])

/-! ### beaconfleet/twin.above -/
def z1133 (qname : List UInt8) (qf : List api_Prop) (vx : Int) : Bool → St
  | vx2 => Mem.st ⟨[], [(0, [.l api_Prop.enc qf])]⟩ (tl [(0, .c (.s qname)), (1, .c (.fn 278 [0])), (7, .i (qname.length : Int)), (8, .i vx), (21, .b vx2)]) 1

def z1132 (qname : List UInt8) (qf : List api_Prop) (vx : Int) : St := Mem.st ⟨[], [(0, [.l api_Prop.enc qf])]⟩ (tl [(0, .c (.s qname)), (1, .c (.fn 278 [0])), (5, .i vx), (7, .i (qname.length : Int)), (8, .i vx)]) 1

theorem z1134 (qname : List UInt8) (qf : List api_Prop) (vx : Int) {r} (hF : z1131 qname qf vx = some r) : Awp prog 1 23 (cL (cR (cL (cL (cR (cR (cL (cL (cR (cL (cR (cB f277)))))))))))) (Out 1 nrm (z1133 qname qf vx) r) (z1132 qname qf vx) := by
  unfold z1131 at hF
  refine bE hF fun vc1 h2 hF => cE hF (fun h3 hF => ?_) fun h3 hF => ?_
  · refine bE hF fun vs1 h4 hF => bE hF fun vr1 h5 hF => awp_region (aR 2 (aX (x_idxS h2) (aB h3 (aR 4 (aX (x_sliceS h4) (aC (z1026 h5) [] [] [] (aR 1 (aE ?_))))))))
    exact oO hF [] [] rfl
  · refine awp_region (aR 2 (aX (x_idxS h2) (aB h3 (aR 7 (aE ?_)))))
    exact oO hF [] [] rfl

def z1129 : Unit ⊕ Unit → AEx
  | .inl _ => .exit 0
  | .inr _ => .ret

def z1128 (qname : List UInt8) (qf : List api_Prop) : Unit ⊕ Unit → St
  | .inl _ => Mem.st ⟨[], [(0, [.l api_Prop.enc qf])]⟩ (tl []) 1
  | .inr _ => Mem.st ⟨[], [(0, [.l api_Prop.enc qf])]⟩ (tl [(4, .b true)]) 1

def z1127 (qname : List UInt8) (qf : List api_Prop) : Int → St
  | vx => Mem.st ⟨[], [(0, [.l api_Prop.enc qf])]⟩ (tl [(0, .c (.s qname)), (1, .c (.fn 278 [0])), (7, .i (qname.length : Int)), (8, .i vx)]) 1

theorem z1130 (qname : List UInt8) (qf : List api_Prop) (vx : Int) (r : (Int) ⊕ (Unit ⊕ Unit)) (hF : z1126 qname qf vx = some r) : Awp prog 1 23 (cL (cL (cR (cL (cR (cB f277)))))) (Out 1 (kk z1129) (SS (z1127 qname qf) (z1128 qname qf)) r) (z1127 qname qf vx) := by
  unfold z1126 at hF
  refine sR 1 (awp_seq (cE hF (fun h1 hF => ?_) fun h1 hF => ?_))
  · refine tT h1 (awp_skip (awp_seq (awp_block (sR 2 (awp_seq (awp_to (st' := z1132 qname qf vx) (oT [] []) ?_))))))
    refine bE hF fun vx2_1 h6 hF => awp_sub (z1134 qname qf vx h6) ?_
    refine cE hF (fun h7 hF => ?_) fun h7 hF => ?_
    · exact tT h7 (sR 1 (awp_ret (oO hF [] [] rfl)))
    · exact tF h7 (awp_skip (gR 2 (oO hF [] [] rfl)))
  · refine tF h1 (awp_exit ?_)
    exact oO hF [] [] rfl

def z1124 (qname : List UInt8) (qf : List api_Prop) (r : Bool) : TV × Mem := (.b r, ⟨[], [(0, [.l api_Prop.enc qf])]⟩)

theorem z1125 {qname : List UInt8} {qf : List api_Prop} {r} (hF : z1123 qname qf = some r) : Holds prog 277 [.c (.s qname), .c (.fn 278 [0])] ⟨[], [(0, [.l api_Prop.enc qf])]⟩ (Is (z1124 qname qf r)) := by
  unfold z1123 at hF
  refine hW f277 23 1 1 ?_
  refine sR 1 (awp_seq (sR 3 (awp_block (awp_to (st' := z1127 qname qf 0) (oT [] []) ?_))))
  refine bE hF fun x h8 hF => ?_
  rcases x with _ | _
  · refine awp_sub (awp_loop' (z1127 qname qf) z1129 (z1128 qname qf) (by intro x; rcases x with x | x <;> exact fun h => nomatch h) h8 (z1130 qname qf)) ?_
    exact sR 1 (awp_ret (oF hF [] []))
  · refine awp_sub (awp_loop' (z1127 qname qf) z1129 (z1128 qname qf) (by intro x; rcases x with x | x <;> exact fun h => nomatch h) h8 (z1130 qname qf)) ?_
    exact oF hF [] []

/-! ### beaconfleet/twin.CheckProps -/
def z1049 (ql : List api_Prop) (vx : Int) (vy2 : api_Prop) : Bool → St
  | vx2 => Mem.st ⟨[], [(0, [.l api_Prop.enc ql])]⟩ (tl [(1, .c (.box 0 0)), (11, .c (.l api_Prop.enc ql)), (12, .i (ql.length : Int)), (13, .i vx), (44, .b vx2)]) 1

def z1048 (ql : List api_Prop) (vx : Int) (vy2 : api_Prop) : St := Mem.st ⟨[], [(0, [.l api_Prop.enc ql]), (1, [.s vy2.Name, .i vy2.Value.Kind, .t vy2.Value.Flag, .i vy2.Value.Number, .s vy2.Value.Words])]⟩ (tl [(1, .c (.box 0 0)), (3, .i vx), (4, .c (.box 1 0)), (11, .c (.l api_Prop.enc ql)), (12, .i (ql.length : Int)), (13, .i vx)]) 2

theorem z1050 (ql : List api_Prop) (vx : Int) (vy2 : api_Prop) {r} (hF : z1047 ql vx vy2 = some r) : Awp prog 0 57 (cL (cR (cR (cR (cR (cL (cL (cR (cR (cL (cL (cR (cL (cR (cR (cB f232)))))))))))))))) (Out 0 nrm (z1049 ql vx vy2) r) (z1048 ql vx vy2) := by
  unfold z1047 at hF
  refine cE hF (fun h9 hF => ?_) fun h9 hF => ?_
  · refine bE hF fun vy3 h10 hF => aD ?_
    refine dR 1 ?_
    refine dB h9 ?_
    refine dR 6 ?_
    refine dX (x_idx api_Prop.enc h10) ?_
    refine dR 4 ?_
    refine dE ?_
    exact oO hF [] [] rfl
  · refine aD ?_
    refine dR 1 ?_
    refine dB h9 ?_
    refine dR 11 ?_
    refine dE ?_
    exact oO hF [] [] rfl

def z1045 : Unit ⊕ Int → AEx
  | .inl _ => .exit 0
  | .inr _ => .ret

def z1044 (ql : List api_Prop) : Unit ⊕ Int → St
  | .inl _ => Mem.st ⟨[], [(0, [.l api_Prop.enc ql])]⟩ (tl [(1, .c (.box 0 0))]) 1
  | .inr vx3 => Mem.st ⟨[], []⟩ (tl [(2, .i vx3)]) 0

def z1043 (ql : List api_Prop) : Int → St
  | vx => Mem.st ⟨[], [(0, [.l api_Prop.enc ql])]⟩ (tl [(1, .c (.box 0 0)), (11, .c (.l api_Prop.enc ql)), (12, .i (ql.length : Int)), (13, .i vx)]) 1

theorem z1046 (ql : List api_Prop) (vx : Int) (r : (Int) ⊕ (Unit ⊕ Int)) (hF : z1042 ql vx = some r) : Awp prog 0 57 (cL (cL (cR (cL (cR (cR (cB f232))))))) (Out 0 (kk z1045) (SS (z1043 ql) (z1044 ql)) r) (z1043 ql vx) := by
  unfold z1042 at hF
  refine sR 1 (awp_seq (cE hF (fun h2 hF => ?_) fun h2 hF => ?_))
  · refine tT h2 (awp_skip (awp_seq (awp_block (awp_seq (bE hF fun vy2 h3 hF => awp_region (aR 1 (aX (x_idx api_Prop.enc h3) (aR 4 (aE ?_)))))))))
    refine awp_seq (awp_seq (bE hF fun vr1 h4 hF => awp_region (aR 2 (aC (z1172 h4) [] [] [] (aR 1 (aE ?_))))))
    refine cE hF (fun h5 hF => ?_) fun h5 hF => ?_
    · exact tT h5 (sR 1 (awp_ret (oO hF [] [] rfl)))
    · refine tF h5 (awp_skip (awp_seq (awp_seq (bE hF fun vr2_1 h6 hF => awp_region (aR 2 (aC (z1226 h6) [] [] [] (aR 1 (aE ?_))))))))
      refine sR 2 (cE hF (fun h7 hF => ?_) fun h7 hF => ?_)
      · exact tT h7 (sR 2 (awp_ret (oO hF [] [] rfl)))
      · refine tF h7 (awp_skip (awp_seq (sR 4 (cE hF (fun h8 hF => ?_) fun h8 hF => ?_))))
        · exact tT h8 (sR 1 (awp_ret (oO hF [] [] rfl)))
        · refine tF h8 (awp_skip (awp_seq (awp_to (st' := z1048 ql vx vy2) (oT [(1, 4001)] []) ?_)))
          refine bE hF fun vx2_1 h11 hF => awp_sub (z1050 ql vx vy2 h11) ?_
          refine cE hF (fun h12 hF => ?_) fun h12 hF => ?_
          · exact tT h12 (sR 1 (awp_ret (oO hF [] [] rfl)))
          · exact tF h12 (awp_skip (gR 2 (oO hF [] [] rfl)))
  · refine tF h2 (awp_exit ?_)
    exact oO hF [] [] rfl

def z1054 : Unit ⊕ Unit → AEx
  | .inl _ => .exit 2
  | .inr _ => .ret

def z1053 (ql : List api_Prop) : Unit ⊕ Unit → St
  | .inl _ => Mem.st ⟨[], []⟩ (tl []) 0
  | .inr _ => Mem.st ⟨[], []⟩ (tl [(2, .i 13)]) 0

def z1052 (ql : List api_Prop) : Int → St
  | vx4 => Mem.st ⟨[], [(0, [.l api_Prop.enc ql])]⟩ (tl [(1, .c (.box 0 0)), (46, .c (.l api_Prop.enc ql)), (47, .i (ql.length : Int)), (48, .i vx4)]) 1

theorem z1055 (ql : List api_Prop) (vx4 : Int) (r : (Int) ⊕ (Unit ⊕ Unit)) (hF : z1051 ql vx4 = some r) : Awp prog 0 57 (cL (cL (cR (cL (cR (cR (cR (cB f232)))))))) (Out 0 (kk z1054) (SS (z1052 ql) (z1053 ql)) r) (z1052 ql vx4) := by
  unfold z1051 at hF
  refine sR 1 (awp_seq (cE hF (fun h14 hF => ?_) fun h14 hF => ?_))
  · refine tT h14 (awp_skip (awp_seq (awp_block (awp_seq (bE hF fun vy5 h15 hF => awp_region (aX (x_idx api_Prop.enc h15) (aR 3 (aE ?_))))))))
    refine awp_seq (bE hF fun vr2_3 h16 hF => awp_region (aR 3 (aC (z1125 h16) [] [] [] (aE ?_))))
    refine cE hF (fun h17 hF => ?_) fun h17 hF => ?_
    · exact tT h17 (sR 1 (awp_ret (oO hF [] [] rfl)))
    · exact tF h17 (awp_skip (gR 2 (oO hF [] [] rfl)))
  · refine tF h14 (awp_exit ?_)
    exact oO hF [] [] rfl

def z1027 (ql : List api_Prop) (r : Int) : TV × Mem := (.i r, ⟨[], []⟩)

theorem z1041 {ql : List api_Prop} {r} (hF : z1023 ql = some r) : Holds prog 232 [.c (.l api_Prop.enc ql)] ⟨[], []⟩ (Is (z1027 ql r)) := by
  unfold z1023 at hF
  refine hW f232 57 0 0 ?_
  refine sR 2 (awp_seq (awp_seq (awp_region (aR 1 (aL api_Prop.enc ql (aR 1 (aE ?_)))))))
  refine cE hF (fun h1 hF => ?_) fun h1 hF => ?_
  · exact tT h1 (sR 1 (awp_ret (oF hF [] [])))
  · refine tF h1 (awp_skip (awp_seq (awp_seq (awp_region (aR 1 (aL api_Prop.enc ql (aR 1 (aE ?_))))))))
    refine awp_block (awp_to (st' := z1043 ql 0) (oT [] []) ?_)
    refine bE hF fun x h13 hF => ?_
    rcases x with _ | vx3_1
    · refine awp_sub (awp_loop' (z1043 ql) z1045 (z1044 ql) (by intro x; rcases x with x | x <;> exact fun h => nomatch h) h13 (z1046 ql)) ?_
      refine awp_seq (awp_seq (awp_region (aR 1 (aL api_Prop.enc ql (aR 1 (aE ?_))))))
      refine awp_block (awp_to (st' := z1052 ql 0) (oT [] []) ?_)
      refine bE hF fun x h18 hF => ?_
      rcases x with _ | _
      · refine awp_sub (awp_loop' (z1052 ql) z1054 (z1053 ql) (by intro x; rcases x with x | x <;> exact fun h => nomatch h) h18 (z1055 ql)) ?_
        exact sR 1 (awp_ret (oF hF [] []))
      · refine awp_sub (awp_loop' (z1052 ql) z1054 (z1053 ql) (by intro x; rcases x with x | x <;> exact fun h => nomatch h) h18 (z1055 ql)) ?_
        exact oF hF [] []
    · refine awp_sub (awp_loop' (z1043 ql) z1045 (z1044 ql) (by intro x; rcases x with x | x <;> exact fun h => nomatch h) h13 (z1046 ql)) ?_
      exact oF hF [] []

/-! ### slices.BinarySearchFunc[[]beaconfleet/api.Prop,beaconfleet/api.Prop,string] -/
def z579 : Unit → AEx
  | _ => .exit 0

def z578 (qtarget : List UInt8) : Unit → St
  | _ => Mem.st ⟨[], []⟩ (tl [(0, .c (.nil)), (1, .c (.s qtarget)), (2, .c (.fn 270 [])), (8, .i 0), (9, .i 0)]) 0

def z577 (qtarget : List UInt8) : Unit → St
  | _ => Mem.st ⟨[], []⟩ (tl [(0, .c (.nil)), (1, .c (.s qtarget)), (2, .c (.fn 270 [])), (8, .i 0), (9, .i 0), (10, .i 0)]) 0

theorem z580 (qtarget : List UInt8) (s : Unit) (r : (Unit) ⊕ (Unit)) (hF : z576  s = some r) : Awp prog 0 49 (cL (cL (cL (cR (cR (cR (cB f269))))))) (Out 0 (kk z579) (SS (z577 qtarget) (z578 qtarget)) r) (z577 qtarget s) := by
  unfold z576 at hF
  refine awp_seq (sR 3 (cE hF (fun h1 hF => ?_) fun h1 hF => ?_))
  · exact tT h1 (awp_skip (awp_block (sR 7 (awp_seq (nE hF)))))
  · refine tF h1 (awp_exit ?_)
    exact oO hF [] [] rfl

def z574 (qtarget : List UInt8) (r : Unit) : TV × Mem := (.tup [.one (.i 0), .one (.t false)], ⟨[], []⟩)

theorem z575 {qtarget : List UInt8} {r} (hF : z573 qtarget = some r) : Holds prog 269 [.c (.nil), .c (.s qtarget), .c (.fn 270 [])] ⟨[], []⟩ (Is (z574 qtarget r)) := by
  unfold z573 at hF
  refine hW f269 49 0 0 ?_
  refine sR 2 (sR 3 (sR 3 (awp_seq (awp_block (awp_to (st' := z577 qtarget ()) (oT [] []) ?_)))))
  refine bE hF fun _ h3 hF => awp_sub (awp_loop' (z577 qtarget) z579 (z578 qtarget) (by intro x; exact fun h => nomatch h) h3 (z580 qtarget)) ?_
  refine awp_seq (cE hF (fun h4 hF => ?_) fun h4 hF => ?_)
  · exact nE hF
  · refine awp_region (aR 3 (aB h4 (aR 12 (aE ?_))))
    exact awp_ret (oF hF [] [])

/-! ### beaconfleet/twin.find -/
def z1146 (qname : List UInt8) (r : Unit) : TV × Mem := (.i (-1), ⟨[], []⟩)

theorem z1147 {qname : List UInt8} {r} (hF : z1145 qname = some r) : Holds prog 212 [.c (.nil), .c (.s qname)] ⟨[], []⟩ (Is (z1146 qname r)) := by
  unfold z1145 at hF
  refine hW f212 16 0 0 ?_
  refine sR 1 (awp_seq (bE hF fun _ h1 hF => awp_region (aR 2 (aC (z575 h1) [] [] [] (aR 5 (aE ?_))))))
  exact awp_seq (sR 2 (tT rfl (sR 1 (awp_ret (oF hF [] [])))))

/-! ### beaconfleet/twin.valueOf -/
def z1235 (qname : List UInt8) (r : Unit) : TV × Mem := (.v (.agg [.i 0, .t false, .i 0, .s ([] : List UInt8)]), ⟨[], []⟩)

theorem z1236 {qname : List UInt8} {r} (hF : z1234 qname = some r) : Holds prog 120 [.c (.nil), .c (.s qname)] ⟨[], []⟩ (Is (z1235 qname r)) := by
  unfold z1234 at hF
  refine hW f120 17 0 0 ?_
  refine sR 1 (awp_seq (awp_seq (bE hF fun _ h1 hF => awp_region (aR 2 (aC (z1147 h1) [] [] [] (aR 1 (aE ?_)))))))
  refine sR 2 (cE hF (fun h2 hF => ?_) fun h2 hF => ?_)
  · exact tT h2 (awp_seq (nE hF))
  · exact tF h2 (awp_skip (sR 2 (awp_ret (oF hF [] []))))

/-! ### beaconfleet/twin.Differ -/
def z1066 (qb : List api_Prop) (vr1_1 : List (List UInt8)) (vout : List api_Change) (vx : Int) : (List api_Change) → St
  | vout2 => Mem.st ⟨[(1, ⟨92, 9, List.map api_Change.enc vout2⟩)], []⟩ (tl [(0, .c (.nil)), (1, .c (.l api_Prop.enc qb)), (7, .c (.own 1 none)), (24, .c (.l encS vr1_1)), (25, .i (vr1_1.length : Int)), (26, .i vx)]) 2

def z1065 (qb : List api_Prop) (vr1_1 : List (List UInt8)) (vout : List api_Change) (vx : Int) : St := Mem.st ⟨[(1, ⟨92, 9, List.map api_Change.enc vout⟩)], []⟩ (tl [(0, .c (.nil)), (1, .c (.l api_Prop.enc qb)), (7, .c (.own 1 none)), (24, .c (.l encS vr1_1)), (25, .i (vr1_1.length : Int)), (26, .i vx)]) 2

theorem z1067 (qb : List api_Prop) (vr1_1 : List (List UInt8)) (vout : List api_Change) (vx : Int) {r} (hF : z1064 qb vr1_1 vout vx = some r) : Awp prog 1 48 (cL (cR (cR (cL (cL (cR (cL (cR (cR (cR (cB f151))))))))))) (Out 1 nrm (z1066 qb vr1_1 vout vx) r) (z1065 qb vr1_1 vout vx) := by
  unfold z1064 at hF
  refine awp_block (awp_seq (bE hF fun vy1 h7 hF => awp_region (aX (x_idx encS h7) (aR 2 (aE ?_)))))
  refine awp_seq (bE hF fun _ h8 hF => bE hF fun vr4 h9 hF => awp_region (aR 2 (aC (z1236 h8) [] [] [] (aR 2 (aC (z1237 h9) [] [] [] (aR 4 (aE ?_)))))))
  refine awp_seq (awp_region (aR 2 (aS (does_eqS (op := .neq) (xs := [.int .i64 0, .bool false, .int .i64 0, .str ([] : List UInt8)]) (ys := [.int .i64 vr4.Kind, .bool vr4.Flag, .int .i64 vr4.Number, .str vr4.Words]) (b := (decide ((0 : Int) = vr4.Kind) && ((false == vr4.Flag) && (decide ((0 : Int) = vr4.Number) && (decide (([] : List UInt8) = vr4.Words) && true))))) (c := (!(decide ((0 : Int) = vr4.Kind) && ((false == vr4.Flag) && (decide ((0 : Int) = vr4.Number) && (decide (([] : List UInt8) = vr4.Words) && true)))))) rfl (.inr ⟨rfl, rfl⟩) (by kernel_rfl) (by kernel_rfl) (by kernel_rfl) (by kernel_rfl) (by kernel_rfl) (by kernel_rfl)) ?_)))
  refine aE ?_
  refine cE hF (fun h10 hF => ?_) fun h10 hF => ?_
  · refine tT h10 (gE hF fun h11 hF => ?_)
    refine awp_region (aR 6 (aX (x_app api_Change.enc 1 h11) (aR 1 (aE ?_))))
    exact oO hF [(1, 22002)] [] rfl
  · exact tF h10 (awp_skip (oO hF [] [] rfl))

def z1062 : (List api_Change) → AEx
  | _ => .exit 0

def z1061 (qb : List api_Prop) (vr1_1 : List (List UInt8)) : (List api_Change) → St
  | vout3 => Mem.st ⟨[(1, ⟨92, 9, List.map api_Change.enc vout3⟩)], []⟩ (tl [(7, .c (.own 1 none))]) 2

def z1060 (qb : List api_Prop) (vr1_1 : List (List UInt8)) : (List api_Change) × Int → St
  | (vout, vx) => Mem.st ⟨[(1, ⟨92, 9, List.map api_Change.enc vout⟩)], []⟩ (tl [(0, .c (.nil)), (1, .c (.l api_Prop.enc qb)), (7, .c (.own 1 none)), (24, .c (.l encS vr1_1)), (25, .i (vr1_1.length : Int)), (26, .i vx)]) 2

theorem z1063 (qb : List api_Prop) (vr1_1 : List (List UInt8)) (s : (List api_Change) × Int) (r : ((List api_Change) × Int) ⊕ ((List api_Change))) (hF : z1059 qb vr1_1 s = some r) : Awp prog 1 48 (cL (cL (cR (cL (cR (cR (cR (cB f151)))))))) (Out 1 (kk z1062) (SS (z1060 qb vr1_1) (z1061 qb vr1_1)) r) (z1060 qb vr1_1 s) := by
  obtain ⟨vout, vx⟩ := s
  unfold z1059 at hF
  refine sR 1 (awp_seq (cE hF (fun h6 hF => ?_) fun h6 hF => ?_))
  · refine tT h6 (awp_skip (awp_seq (awp_to (st' := z1065 qb vr1_1 vout vx) (oT [] []) ?_)))
    refine bE hF fun vout2_1 h12 hF => awp_sub (z1067 qb vr1_1 vout vx h12) ?_
    exact gR 2 (oO hF [] [] rfl)
  · refine tF h6 (awp_exit ?_)
    exact oO hF [] [] rfl

def z1057 (qb : List api_Prop) (r : (List api_Change) × Int) : TV × Mem := (.tup [.one (.own 1 none), .one (.i r.2)], ⟨[(1, ⟨92, 9, List.map api_Change.enc r.1⟩)], []⟩)

theorem z1058 {qb : List api_Prop} {r} (hF : z1056 qb = some r) : Holds prog 151 [.c (.nil), .c (.own 0 none)] ⟨[(0, ⟨150, 5, List.map api_Prop.enc qb⟩)], []⟩ (Is (z1057 qb r)) := by
  unfold z1056 at hF
  refine hW f151 48 1 1 ?_
  refine sR 2 (awp_to (oT (m := ⟨[], []⟩) (ts := [(0, .c (.nil)), (1, .c (.l api_Prop.enc qb))]) (nx := 1) [] []) ?_)
  refine awp_seq (awp_seq (bE hF fun vr h1 hF => bE hF fun vr3 h2 hF => bE hF fun vr1 h3 hF => awp_region (aR 1 (aC (z1030 h1) [] [] [] (aR 1 (aC (z1041 h2) [] [] [] (aR 1 (aC (z26 h3) [] [] [4001] (aR 1 (aE ?_))))))))))
  refine sR 2 (cE hF (fun h4 hF => ?_) fun h4 hF => ?_)
  · exact tT h4 (sR 3 (awp_ret (oF hF [] [1])))
  · refine tF h4 (awp_skip (sR 1 (awp_seq (awp_seq (bE hF fun vr1_1 h5 hF => awp_region (aR 3 (aC (z1207 h5) [(0, 12001)] [] [] (aL encS vr1_1 (aR 1 (aE ?_))))))))))
    refine awp_to (oT (m := ⟨[], []⟩) (ts := [(0, .c (.nil)), (1, .c (.l api_Prop.enc qb)), (7, .c (.nil)), (24, .c (.l encS vr1_1)), (25, .i (vr1_1.length : Int)), (26, .i 0)]) (nx := 1) [] []) ?_
    refine awp_block (awp_to (st' := z1060 qb vr1_1 ([], 0)) (oT [] [1]) ?_)
    refine bE hF fun vout3_1 h13 hF => awp_sub (awp_loop' (z1060 qb vr1_1) z1062 (z1061 qb vr1_1) (by intro x; exact fun h => nomatch h) h13 (z1063 qb vr1_1)) ?_
    exact sR 3 (awp_ret (oF hF [] []))

/-! ### beaconfleet/fleetlaw2.twinned -/
def z168 (vr5 : List api_Change) (vr6 : Int) : Bool → St
  | vx => Mem.st ⟨[], []⟩ (tl [(0, .b vx)]) 0

def z167 (vr5 : List api_Change) (vr6 : Int) : St := Mem.st ⟨[], []⟩ (tl [(1, .c (.l api_Change.enc vr5)), (2, .i vr6)]) 0

theorem z169 (vr5 : List api_Change) (vr6 : Int) {r} (hF : z166 vr5 vr6 = some r) : Awp prog 0 24 (cL (cR (cR (cB f53)))) (Out 0 nrm (z168 vr5 vr6) r) (z167 vr5 vr6) := by
  unfold z166 at hF
  refine cE hF (fun h2 hF => ?_) fun h2 hF => ?_
  · refine cE hF (fun h3 hF => ?_) fun h3 hF => ?_
    · refine bE hF fun vy h4 hF => awp_region (aR 1 (aB h2 (aR 2 (aL api_Change.enc vr5 (aB h3 (aR 3 (aX (x_idx api_Change.enc h4) (aR 5 (aE ?_)))))))))
      exact oO hF [] [] rfl
    · refine awp_region (aR 1 (aB h2 (aR 2 (aL api_Change.enc vr5 (aB h3 (aR 9 (aE ?_)))))))
      exact oO hF [] [] rfl
  · refine awp_region (aR 1 (aB h2 (aR 13 (aE ?_))))
    exact oO hF [] [] rfl

def z163 (r : Bool) : TV × Mem := (.b r, ⟨[], []⟩)

theorem z165 {r} (hF : z162 = some r) : Holds prog 53 [] ⟨[], []⟩ (Is (z163  r)) := by
  unfold z162 at hF
  refine hW f53 24 0 0 ?_
  refine sR 1 (awp_seq (bE hF fun x h1 hF => ?_))
  obtain ⟨vr5, vr6⟩ := x
  refine awp_region (aR 3 (aC (z1058 h1) [(0, 3000)] [] [] (aR 5 (aE ?_))))
  refine awp_to (oT (m := ⟨[], []⟩) (ts := [(1, .c (.l api_Change.enc vr5)), (2, .i vr6)]) (nx := 0) [] []) ?_
  refine awp_seq (awp_to (st' := z167 vr5 vr6) (oT [] []) ?_)
  refine bE hF fun vx1 h5 hF => awp_sub (z169 vr5 vr6 h5) ?_
  exact awp_ret (oF hF [] [])

/-! ### beaconfleet/fleetlaw2.TwinsSettle -/
def z128 (vs : z177) (vr : List api_Cell) (vr1 : List api_Cell) (vr2 : Int) (vr3 : List UInt8) (vr4 : Int) : (z177 × api_Stamp) → St
  | (vx, vx1) => Mem.st ⟨[(2, ⟨152, 8, List.map api_Cell.enc vr⟩), (3, ⟨152, 8, List.map api_Cell.enc vr1⟩)], [(0, [.l (encI .i64) vx.L, .i vx.at_]), (1, [.own 2 none, .own 3 none]), (4, [.i vx1.At, .s vx1.By, .i vx1.No])]⟩ (tl [(3, .c (.box 0 0)), (4, .c (.box 1 0)), (5, .c (.box 4 0))]) 5

def z126 (vs : z177) (vr : List api_Cell) (vr1 : List api_Cell) (vr2 : Int) (vr3 : List UInt8) (vr4 : Int) : St := Mem.st ⟨[(2, ⟨152, 8, List.map api_Cell.enc vr⟩), (3, ⟨152, 8, List.map api_Cell.enc vr1⟩)], [(0, [.l (encI .i64) vs.L, .i (IntKind.wrap .i64 ((IntKind.wrap .i64 ((IntKind.wrap .i64 (vs.at_ + 1)) + 1)) + 1))]), (1, [.own 2 none, .own 3 none]), (4, [.i vr2, .s vr3, .i vr4])]⟩ (tl [(3, .c (.box 0 0)), (4, .c (.box 1 0)), (5, .c (.box 4 0))]) 5

theorem z129 (vs : z177) (vr : List api_Cell) (vr1 : List api_Cell) (vr2 : Int) (vr3 : List UInt8) (vr4 : Int) {r} (hF : z125 vs vr2 vr3 vr4 = some r) : Awp prog 0 113 (cL (cR (cR (cR (cB f6))))) (Out 0 nrm (z128 vs vr vr1 vr2 vr3 vr4) r) (z126 vs vr vr1 vr2 vr3 vr4) := by
  unfold z125 at hF
  refine awp_seq (bE hF fun vr5 h5 hF => awp_region (aR 1 (aC (z198 h5) [] [] [] (aE ?_))))
  refine cE hF (fun h6 hF => ?_) fun h6 hF => ?_
  · refine tT h6 (bE hF fun x h7 hF => ?_)
    obtain ⟨vs3, vr2_1⟩ := x
    refine awp_region (aR 1 (aC (z252 h7) [] [] [] (aR 1 (aE ?_))))
    exact oO hF [] [] rfl
  · exact tF h6 (awp_skip (oO hF [] [] rfl))

def z132 (vr : List api_Cell) (vr1 : List api_Cell) (vx2 : z177) (vx1_1 : api_Stamp) (vr7 : List api_Change) (vr8 : Int) (vr6 : Bool) (vr1_1 : Int) (vr2_2 : Int) : (List api_Change) → St
  | vx3 => Mem.st ⟨[(2, ⟨152, 8, List.map api_Cell.enc vr⟩), (3, ⟨152, 8, List.map api_Cell.enc vr1⟩)], [(0, [.l (encI .i64) vx2.L, .i vx2.at_]), (1, [.own 2 none, .own 3 none]), (4, [.i vx1_1.At, .s vx1_1.By, .i vx1_1.No])]⟩ (tl [(3, .c (.box 0 0)), (4, .c (.box 1 0)), (5, .c (.box 4 0)), (6, .c (.l api_Change.enc vr7)), (7, .i vr8), (8, .b vr6), (9, .i vr1_1), (10, .i vr2_2), (11, .c (.l api_Change.enc vx3))]) 5

def z131 (vr : List api_Cell) (vr1 : List api_Cell) (vx2 : z177) (vx1_1 : api_Stamp) (vr7 : List api_Change) (vr8 : Int) (vr6 : Bool) (vr1_1 : Int) (vr2_2 : Int) : St := Mem.st ⟨[(2, ⟨152, 8, List.map api_Cell.enc vr⟩), (3, ⟨152, 8, List.map api_Cell.enc vr1⟩)], [(0, [.l (encI .i64) vx2.L, .i vx2.at_]), (1, [.own 2 none, .own 3 none]), (4, [.i vx1_1.At, .s vx1_1.By, .i vx1_1.No])]⟩ (tl [(3, .c (.box 0 0)), (4, .c (.box 1 0)), (5, .c (.box 4 0)), (6, .c (.l api_Change.enc vr7)), (7, .i vr8), (8, .b vr6), (9, .i vr1_1), (10, .i vr2_2), (11, .c (.nil))]) 5

theorem z133 (vr : List api_Cell) (vr1 : List api_Cell) (vx2 : z177) (vx1_1 : api_Stamp) (vr7 : List api_Change) (vr8 : Int) (vr6 : Bool) (vr1_1 : Int) (vr2_2 : Int) {r} (hF : z130 vr vr1 vr2_2 = some r) : Awp prog 0 113 (cL (cR (cR (cR (cR (cR (cR (cR (cR (cB f6)))))))))) (Out 0 nrm (z132 vr vr1 vx2 vx1_1 vr7 vr8 vr6 vr1_1 vr2_2) r) (z131 vr vr1 vx2 vx1_1 vr7 vr8 vr6 vr1_1 vr2_2) := by
  unfold z130 at hF
  refine sR 2 (cE hF (fun h12 hF => ?_) fun h12 hF => ?_)
  · refine tT h12 (bE hF fun vr12 h13 hF => awp_region (aR 1 (aCf (z355 h13) (plainO_one (f := api_Change.enc) fun _ => by kernel_rfl) [] [] [2, 3] ?_)))
    refine aR 1 (aE ?_)
    exact oO hF [] [] rfl
  · exact tF h12 (awp_skip (oO hF [] [] rfl))

def z136 (vr : List api_Cell) (vr1 : List api_Cell) (vx2 : z177) (vx1_1 : api_Stamp) (vr7 : List api_Change) (vr8 : Int) (vr6 : Bool) (vr1_1 : Int) (vr2_2 : Int) (vx3_1 : List api_Change) : Bool → St
  | vx4 => Mem.st ⟨[(2, ⟨152, 8, List.map api_Cell.enc vr⟩), (3, ⟨152, 8, List.map api_Cell.enc vr1⟩)], [(0, [.l (encI .i64) vx2.L, .i vx2.at_]), (1, [.own 2 none, .own 3 none]), (4, [.i vx1_1.At, .s vx1_1.By, .i vx1_1.No])]⟩ (tl [(3, .c (.box 0 0)), (4, .c (.box 1 0)), (5, .c (.box 4 0)), (6, .c (.l api_Change.enc vr7)), (10, .i vr2_2), (74, .b vx4)]) 5

def z135 (vr : List api_Cell) (vr1 : List api_Cell) (vx2 : z177) (vx1_1 : api_Stamp) (vr7 : List api_Change) (vr8 : Int) (vr6 : Bool) (vr1_1 : Int) (vr2_2 : Int) (vx3_1 : List api_Change) : St := Mem.st ⟨[(2, ⟨152, 8, List.map api_Cell.enc vr⟩), (3, ⟨152, 8, List.map api_Cell.enc vr1⟩)], [(0, [.l (encI .i64) vx2.L, .i vx2.at_]), (1, [.own 2 none, .own 3 none]), (4, [.i vx1_1.At, .s vx1_1.By, .i vx1_1.No])]⟩ (tl [(3, .c (.box 0 0)), (4, .c (.box 1 0)), (5, .c (.box 4 0)), (6, .c (.l api_Change.enc vr7)), (7, .i vr8), (8, .b vr6), (9, .i vr1_1), (10, .i vr2_2), (11, .c (.l api_Change.enc vx3_1))]) 5

theorem z137 (vr : List api_Cell) (vr1 : List api_Cell) (vx2 : z177) (vx1_1 : api_Stamp) (vr7 : List api_Change) (vr8 : Int) (vr6 : Bool) (vr1_1 : Int) (vr2_2 : Int) (vx3_1 : List api_Change) {r} (hF : z134 vr7 vr8 vr6 vr1_1 vr2_2 vx3_1 = some r) : Awp prog 0 113 (cL (cL (cR (cR (cR (cR (cR (cR (cR (cR (cR (cB f6)))))))))))) (Out 0 nrm (z136 vr vr1 vx2 vx1_1 vr7 vr8 vr6 vr1_1 vr2_2 vx3_1) r) (z135 vr vr1 vx2 vx1_1 vr7 vr8 vr6 vr1_1 vr2_2 vx3_1) := by
  unfold z134 at hF
  refine cE hF (fun h15 hF => ?_) fun h15 hF => ?_
  · refine awp_region (aR 2 (aB h15 (aR 22 (aE ?_))))
    exact oO hF [] [] rfl
  · refine cE hF (fun h16 hF => ?_) fun h16 hF => ?_
    · refine awp_region (aR 2 (aB h15 (aR 3 (aB h16 (aR 18 (aE ?_))))))
      exact oO hF [] [] rfl
    · refine bE hF fun vr9 h17 hF => cE hF (fun h18 hF => ?_) fun h18 hF => ?_
      · refine awp_region (aR 2 (aB h15 (aR 3 (aB h16 (aR 4 (aC (z668 h17) [] [] [] (aB h18 (aR 12 (aE ?_)))))))))
        exact oO hF [] [] rfl
      · refine cE hF (fun h19 hF => ?_) fun h19 hF => ?_
        · refine awp_region (aR 2 (aB h15 (aR 3 (aB h16 (aR 4 (aC (z668 h17) [] [] [] (aB h18 (aR 4 (aB h19 (aR 2 (aL api_Change.enc vx3_1 (aR 4 (aE ?_)))))))))))))
          exact oO hF [] [] rfl
        · refine awp_region (aR 2 (aB h15 (aR 3 (aB h16 (aR 4 (aC (z668 h17) [] [] [] (aB h18 (aR 4 (aB h19 (aR 7 (aE ?_)))))))))))
          exact oO hF [] [] rfl

def z142 (vr : List api_Cell) (vr1 : List api_Cell) (vx2 : z177) (vx1_1 : api_Stamp) (vr7 : List api_Change) (vr2_2 : Int) : (List api_Change) → St
  | vx5 => Mem.st ⟨[(1, ⟨152, 8, List.map api_Cell.enc vr⟩), (2, ⟨152, 8, List.map api_Cell.enc vr1⟩)], [(0, [.own 1 none, .own 2 none]), (3, [.i vx1_1.At, .s vx1_1.By, .i vx1_1.No])]⟩ (tl [(4, .c (.box 0 0)), (5, .c (.box 3 0)), (6, .c (.l api_Change.enc vx5)), (10, .i vr2_2)]) 4

def z141 (vr : List api_Cell) (vr1 : List api_Cell) (vx2 : z177) (vx1_1 : api_Stamp) (vr7 : List api_Change) (vr2_2 : Int) : St := Mem.st ⟨[(2, ⟨152, 8, List.map api_Cell.enc vr⟩), (3, ⟨152, 8, List.map api_Cell.enc vr1⟩)], [(0, [.l (encI .i64) vx2.L, .i vx2.at_]), (1, [.own 2 none, .own 3 none]), (4, [.i vx1_1.At, .s vx1_1.By, .i vx1_1.No])]⟩ (tl [(3, .c (.box 0 0)), (4, .c (.box 1 0)), (5, .c (.box 4 0)), (6, .c (.l api_Change.enc vr7)), (10, .i vr2_2)]) 5

theorem z143 (vr : List api_Cell) (vr1 : List api_Cell) (vx2 : z177) (vx1_1 : api_Stamp) (vr7 : List api_Change) (vr2_2 : Int) {r} (hF : z140 vx2 vr7 = some r) : Awp prog 0 113 (cL (cR (cR (cR (cR (cR (cR (cR (cR (cR (cR (cB f6)))))))))))) (Out 0 nrm (z142 vr vr1 vx2 vx1_1 vr7 vr2_2) r) (z141 vr vr1 vx2 vx1_1 vr7 vr2_2) := by
  unfold z140 at hF
  refine awp_seq (bE hF fun vr10 h22 hF => awp_region (aR 1 (aC (z198 h22) [] [] [] (aE ?_))))
  refine cE hF (fun h23 hF => ?_) fun h23 hF => ?_
  · refine tT h23 (bE hF fun x h24 hF => ?_)
    obtain ⟨vs4, vr1_2⟩ := x
    refine awp_region (aR 1 (aC (z187 h24) [] [] [] (aR 1 (aE ?_))))
    exact oO hF [(0, 1), (1, 2), (2, 3), (3, 4)] [] rfl
  · exact tF h23 (awp_skip (oO hF [(0, 1), (1, 2), (2, 3), (3, 4)] [] rfl))

def z147 (vr : List api_Cell) (vr1 : List api_Cell) (vx1_1 : api_Stamp) (vr2_2 : Int) (vx5_1 : List api_Change) (vr6_1 : List api_Cell) (vr7_1 : List api_Cell) (vr8_1 : Int) : ((List api_Cell) × (List api_Cell) × Int) → St
  | (vx6, vx7, vx8) => Mem.st ⟨[(1, ⟨152, 8, List.map api_Cell.enc vr6_1⟩), (2, ⟨152, 8, List.map api_Cell.enc vr7_1⟩), (4, ⟨152, 8, List.map api_Cell.enc vx6⟩), (5, ⟨152, 8, List.map api_Cell.enc vx7⟩)], [(0, [.own 1 none, .own 2 none]), (3, [.own 4 none, .own 5 none])]⟩ (tl [(10, .i vx8), (12, .c (.box 0 0)), (13, .i vr8_1), (14, .c (.box 3 0))]) 6

def z145 (vr : List api_Cell) (vr1 : List api_Cell) (vx1_1 : api_Stamp) (vr2_2 : Int) (vx5_1 : List api_Change) (vr6_1 : List api_Cell) (vr7_1 : List api_Cell) (vr8_1 : Int) : St := Mem.st ⟨[(3, ⟨152, 8, List.map api_Cell.enc vr6_1⟩), (4, ⟨152, 8, List.map api_Cell.enc vr7_1⟩)], [(0, [.l api_Cell.enc vr, .l api_Cell.enc vr1]), (1, [.i vx1_1.At, .s vx1_1.By, .i vx1_1.No]), (2, [.own 3 none, .own 4 none]), (5, [.nil, .nil])]⟩ (tl [(4, .c (.box 0 0)), (5, .c (.box 1 0)), (6, .c (.l api_Change.enc vx5_1)), (10, .i vr2_2), (12, .c (.box 2 0)), (13, .i vr8_1), (14, .c (.box 5 0))]) 6

theorem z149 (vr : List api_Cell) (vr1 : List api_Cell) (vx1_1 : api_Stamp) (vr2_2 : Int) (vx5_1 : List api_Change) (vr6_1 : List api_Cell) (vr7_1 : List api_Cell) (vr8_1 : Int) {r} (hF : z144 vr vr1 vx1_1 vr2_2 vx5_1 = some r) : Awp prog 0 113 (cL (cR (cR (cR (cR (cR (cR (cR (cR (cR (cR (cR (cR (cR (cB f6))))))))))))))) (Out 0 nrm (z147 vr vr1 vx1_1 vr2_2 vx5_1 vr6_1 vr7_1 vr8_1) r) (z145 vr vr1 vx1_1 vr2_2 vx5_1 vr6_1 vr7_1 vr8_1) := by
  unfold z144 at hF
  refine awp_seq (bE hF fun vr11 h27 hF => bE hF fun vr2_3 h28 hF => bE hF fun vr13 h29 hF => aD ?_)
  refine dR 2 ?_
  refine dC (z292 h27) [] [] [] ?_
  refine dR 1 ?_
  refine dC (z450 h28) [] [] [] ?_
  refine dR 1 ?_
  refine dC (z156 h29) [] [] [5006] ?_
  refine dR 1 ?_
  refine dE ?_
  refine sR 2 (cE hF (fun h30 hF => ?_) fun h30 hF => ?_)
  · refine tT h30 (bE hF fun x h31 hF => ?_)
    obtain ⟨vr4_1, vr5_1, vr6_2⟩ := x
    refine awp_region (aR 3 (aC (z459 h31) [] [] [] (aR 5 (aE ?_))))
    exact oO hF [(0, 2), (1, 3), (2, 4), (3, 5), (4, 13006), (5, 13007)] [] rfl
  · exact tF h30 (awp_skip (oO hF [(0, 2), (1, 3), (2, 4), (3, 5)] [4, 5] rfl))

def z152 (vr6_1 : List api_Cell) (vr7_1 : List api_Cell) (vr8_1 : Int) (vx6_1 : List api_Cell) (vx7_1 : List api_Cell) (vx8_1 : Int) : Bool → St
  | vx9 => Mem.st ⟨[], []⟩ (tl [(2, .b vx9)]) 0

def z151 (vr6_1 : List api_Cell) (vr7_1 : List api_Cell) (vr8_1 : Int) (vx6_1 : List api_Cell) (vx7_1 : List api_Cell) (vx8_1 : Int) : St := Mem.st ⟨[(1, ⟨152, 8, List.map api_Cell.enc vr6_1⟩), (2, ⟨152, 8, List.map api_Cell.enc vr7_1⟩), (4, ⟨152, 8, List.map api_Cell.enc vx6_1⟩), (5, ⟨152, 8, List.map api_Cell.enc vx7_1⟩)], [(0, [.own 1 none, .own 2 none]), (3, [.own 4 none, .own 5 none])]⟩ (tl [(10, .i vx8_1), (12, .c (.box 0 0)), (13, .i vr8_1), (14, .c (.box 3 0))]) 6

theorem z153 (vr6_1 : List api_Cell) (vr7_1 : List api_Cell) (vr8_1 : Int) (vx6_1 : List api_Cell) (vx7_1 : List api_Cell) (vx8_1 : Int) {r} (hF : z150 vr6_1 vr7_1 vr8_1 vx6_1 vx7_1 vx8_1 = some r) : Awp prog 0 113 (cL (cR (cR (cR (cR (cR (cR (cR (cR (cR (cR (cR (cR (cR (cR (cB f6)))))))))))))))) (Out 0 nrm (z152 vr6_1 vr7_1 vr8_1 vx6_1 vx7_1 vx8_1) r) (z151 vr6_1 vr7_1 vr8_1 vx6_1 vx7_1 vx8_1) := by
  unfold z150 at hF
  refine cE hF (fun h33 hF => ?_) fun h33 hF => ?_
  · refine bE hF fun vr2_4 h34 hF => cE hF (fun h35 hF => ?_) fun h35 hF => ?_
    · refine bE hF fun vr14 h36 hF => awp_region (aR 2 (aB h33 (aR 3 (aCb (z443 h34) [] [] [1, 2, 4, 5] h35 ?_))))
      refine aR 2 (aC (z165 h36) [] [] [] (aR 2 (aE ?_)))
      exact oO hF [] [] rfl
    · refine awp_region (aR 2 (aB h33 (aR 3 (aCb (z443 h34) [] [] [1, 2, 4, 5] h35 ?_))))
      refine aR 5 (aE ?_)
      exact oO hF [] [] rfl
  · refine awp_region (aR 2 (aB h33 (aR 9 (aE ?_))))
    exact oO hF [] [] rfl

def z124 (qx : List Int) (r : Bool) : TV × Mem := (.b r, ⟨[], []⟩)

theorem fleetlaw2_TwinsSettle_ok {qx : List Int} {r} (hF : fleetlaw2_TwinsSettle qx = some r) : Holds prog 6 [.c (.l (encI .i64) qx)] ⟨[], []⟩ (Is (z124 qx r)) := by
  unfold fleetlaw2_TwinsSettle at hF
  refine hW f6 113 0 0 ?_
  refine sR 1 (sR 4 (awp_seq (bE hF fun x h1 hF => ?_)))
  obtain ⟨vs, vr, vr1⟩ := x
  refine bE hF fun vr2 h2 hF => bE hF fun vr3 h3 hF => bE hF fun vr4 h4 hF => awp_region (aR 1 (aC (z259 h1) [(0, 3000)] [] [] (aR 2 (aC (z207 h2) [(0, 3000), (1, 8000)] [] [] (aR 2 (aC (z249 h3) [(0, 3000), (1, 11000)] [] [] (aR 2 (aC (z207 h4) [(0, 3000), (1, 14000)] [] [] (aR 5 (aE ?_))))))))))
  refine awp_seq (awp_to (st' := z126 vs vr vr1 vr2 vr3 vr4) (oT [(0, 3000), (1, 17000), (2, 6001), (3, 6002), (4, 18000)] []) ?_)
  refine bE hF fun x h8 hF => ?_
  obtain ⟨vx2, vx1_1⟩ := x
  refine awp_sub (z129 vs vr vr1 vr2 vr3 vr4 h8) ?_
  refine awp_seq (bE hF fun x h9 hF => ?_)
  obtain ⟨vr7, vr8⟩ := x
  refine awp_region (aR 1 (aCf (z1079 h9) (plainO_one (f := api_Change.enc) fun _ => by kernel_rfl) [] [] [2, 3] ?_))
  refine aR 5 (aE ?_)
  refine awp_to (oT (m := ⟨[(2, ⟨152, 8, List.map api_Cell.enc vr⟩), (3, ⟨152, 8, List.map api_Cell.enc vr1⟩)], [(0, [.l (encI .i64) vx2.L, .i vx2.at_]), (1, [.own 2 none, .own 3 none]), (4, [.i vx1_1.At, .s vx1_1.By, .i vx1_1.No])]⟩) (ts := [(3, .c (.box 0 0)), (4, .c (.box 1 0)), (5, .c (.box 4 0)), (6, .c (.l api_Change.enc vr7)), (7, .i vr8)]) (nx := 5) [] []) ?_
  refine awp_seq (bE hF fun x h10 hF => ?_)
  obtain ⟨vr6, vr1_1⟩ := x
  refine awp_region (aR 1 (aC (z1108 h10) [] [] [2, 3] (aR 5 (aE ?_))))
  refine awp_seq (bE hF fun vr2_2 h11 hF => awp_region (aR 1 (aC (z467 h11) [] [] [2, 3] (aR 1 (aE ?_)))))
  refine sR 1 (awp_seq (awp_to (st' := z131 vr vr1 vx2 vx1_1 vr7 vr8 vr6 vr1_1 vr2_2) (oT [] []) ?_))
  refine bE hF fun vx3_1 h14 hF => awp_sub (z133 vr vr1 vx2 vx1_1 vr7 vr8 vr6 vr1_1 vr2_2 h14) ?_
  refine awp_seq (awp_seq (awp_to (st' := z135 vr vr1 vx2 vx1_1 vr7 vr8 vr6 vr1_1 vr2_2 vx3_1) (oT [] []) ?_))
  refine bE hF fun vx4_1 h20 hF => awp_sub (z137 vr vr1 vx2 vx1_1 vr7 vr8 vr6 vr1_1 vr2_2 vx3_1 h20) ?_
  refine cE hF (fun h21 hF => ?_) fun h21 hF => ?_
  · exact tT h21 (sR 1 (awp_ret (oF hF [] [])))
  · refine tF h21 (awp_skip (awp_seq (awp_to (st' := z141 vr vr1 vx2 vx1_1 vr7 vr2_2) (oT [] []) ?_)))
    refine bE hF fun vx5_1 h25 hF => awp_sub (z143 vr vr1 vx2 vx1_1 vr7 vr2_2 h25) ?_
    refine awp_seq (bE hF fun x h26 hF => ?_)
    obtain ⟨vr6_1, vr7_1, vr8_1⟩ := x
    refine awp_to (oT (m := ⟨[(2, ⟨152, 8, List.map api_Cell.enc vr1⟩)], [(0, [.l api_Cell.enc vr, .own 2 none]), (3, [.i vx1_1.At, .s vx1_1.By, .i vx1_1.No])]⟩) (ts := [(4, .c (.box 0 0)), (5, .c (.box 3 0)), (6, .c (.l api_Change.enc vx5_1)), (10, .i vr2_2)]) (nx := 4) [] []) ?_
    refine awp_to (oT (m := ⟨[], [(0, [.l api_Cell.enc vr, .l api_Cell.enc vr1]), (3, [.i vx1_1.At, .s vx1_1.By, .i vx1_1.No])]⟩) (ts := [(4, .c (.box 0 0)), (5, .c (.box 3 0)), (6, .c (.l api_Change.enc vx5_1)), (10, .i vr2_2)]) (nx := 4) [] []) ?_
    refine awp_region (aR 3 (aC (z1117 h26) [] [] [] (aR 6 (aE ?_))))
    refine sR 1 (awp_seq (awp_to (st' := z145 vr vr1 vx1_1 vr2_2 vx5_1 vr6_1 vr7_1 vr8_1) (oT [(1, 3), (2, 7004), (3, 3004), (4, 3005), (5, 10004)] []) ?_))
    refine bE hF fun x h32 hF => ?_
    obtain ⟨vx6_1, vx7_1, vx8_1⟩ := x
    refine awp_sub (z149 vr vr1 vx1_1 vr2_2 vx5_1 vr6_1 vr7_1 vr8_1 h32) ?_
    refine awp_seq (awp_to (st' := z151 vr6_1 vr7_1 vr8_1 vx6_1 vx7_1 vx8_1) (oT [] []) ?_)
    refine bE hF fun vx9_1 h37 hF => awp_sub (z153 vr6_1 vr7_1 vr8_1 vx6_1 vx7_1 vx8_1 h37) ?_
    exact awp_ret (oF hF [] [])

end Go.Eng
