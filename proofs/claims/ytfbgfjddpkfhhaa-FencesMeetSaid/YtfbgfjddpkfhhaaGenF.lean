/-
The Go functions that the law FencesMeet reaches, as plain functions.
-/
import Derived.Test.YtfbgfjddpkfhhaaEngV

namespace Go.Eng

open Go

set_option linter.unusedVariables false

structure fleetmake_Stream where
  L : List Int
  at_ : Int

def fleetmake_Stream.enc (x : fleetmake_Stream) : List D := [.lst (List.map (encI .i64) x.L), .int .i64 x.at_]

structure api_Spot where
  X : Int
  Y : Int

def api_Spot.enc (x : api_Spot) : List D := [.int .i64 x.X, .int .i64 x.Y]

structure api_Fence where
  Key : List UInt8
  Corners : List api_Spot

def api_Fence.enc (x : api_Fence) : List D := [.str x.Key, .lst (List.map api_Spot.enc x.Corners)]

/-! ### beaconfleet/fleetmake.Below -/
noncomputable def fleetmake_Below_x1 (qx : Int) (qn : Int) : Option (Int) :=
  cond (decide ((qx.tmod qn) < 0))
    (some (IntKind.wrap .i64 ((qx.tmod qn) + qn)))
    (some (qx.tmod qn))

noncomputable def fleetmake_Below (qx : Int) (qn : Int) : Option (Int) :=
  cond (decide (qn < 1))
    (some 0)
    (gd (!(qn == 0)) <|
    (fleetmake_Below_x1 qx qn).bind fun vx1 =>
    some vx1)

/-! ### (*beaconfleet/fleetmake.Stream).Next -/
noncomputable def fleetmake_Stream_Next (qs : fleetmake_Stream) (qn : Int) : Option (Int) :=
  cond (decide ((qs.L.length : Int) = 0))
    ((fleetmake_Below (IntKind.wrap .i64 ((IntKind.wrap .i64 (qs.at_ + 1)) * 7919)) qn).bind fun vr =>
    some vr)
    (gd (!((qs.L.length : Int) == 0)) <|
    (at? qs.L ((IntKind.wrap .i64 ((IntKind.wrap .i64 (qs.at_ + 1)) - 1)).tmod (qs.L.length : Int))).bind fun vy =>
    (fleetmake_Below vy 1073741824).bind fun vr1 =>
    (fleetmake_Below (IntKind.wrap .i64 (vr1 + (IntKind.wrap .i64 ((IntKind.wrap .i64 ((IntKind.wrap .i64 ((IntKind.wrap .i64 (qs.at_ + 1)) - 1)).tdiv (qs.L.length : Int))) * (IntKind.wrap .i64 ((7919 : Int) + ((IntKind.wrap .i64 ((IntKind.wrap .i64 (qs.at_ + 1)) - 1)).tmod (qs.L.length : Int)))))))) qn).bind fun vr2 =>
    some vr2)

/-! ### (*beaconfleet/fleetmake.Stream).Range -/
noncomputable def fleetmake_Stream_Range (qs : fleetmake_Stream) (qlow : Int) (qhigh : Int) : Option (fleetmake_Stream × Int) :=
  cond (decide (qhigh < qlow))
    (some (qs, qlow))
    ((fleetmake_Stream_Next qs (IntKind.wrap .i64 ((IntKind.wrap .i64 (qhigh - qlow)) + 1))).bind fun vr3 =>
    some (fleetmake_Stream.mk qs.L (IntKind.wrap .i64 (qs.at_ + 1)), IntKind.wrap .i64 (qlow + vr3)))

/-! ### (*beaconfleet/fleetmake.Stream).Pick -/
noncomputable def fleetmake_Stream_Pick_o1 (qs : fleetmake_Stream) (ql : List Int) : Option (Int) :=
  (fleetmake_Stream_Next qs (ql.length : Int)).bind fun vr3 =>
  (at? ql vr3).bind fun vy =>
  some vy

/-! ### (*beaconfleet/fleetmake.Stream).Place -/
noncomputable def fleetmake_Stream_Place (qs : fleetmake_Stream) : Option (api_Spot) :=
  (fleetmake_Stream_Pick_o1 qs ([0, 1, 2, 3, 4, 5, 6, 8, 10, (-1), (-5), 20] : List Int)).bind fun vr =>
  (fleetmake_Stream_Pick_o1 (fleetmake_Stream.mk qs.L (IntKind.wrap .i64 (qs.at_ + 1))) ([0, 1, 2, 3, 4, 5, 6, 8, 10, (-1), (-5), 20] : List Int)).bind fun vr1 =>
  some (api_Spot.mk vr vr1)

/-! ### (*beaconfleet/fleetmake.Stream).Flip -/
noncomputable def fleetmake_Stream_Flip (qs : fleetmake_Stream) (qn : Int) : Option (Bool) :=
  (fleetmake_Stream_Next qs qn).bind fun vr3 =>
  some (decide (vr3 = 0))

/-! ### beaconfleet/fleetref2.in -/
noncomputable def fleetref2_in_x1 (qn : Int) (qlow : Int) (qhigh : Int) : Option (Bool) :=
  cond (decide (qlow ≤ qn))
    (some (decide (qn ≤ qhigh)))
    (some false)

noncomputable def fleetref2_in (qn : Int) (qlow : Int) (qhigh : Int) : Option (Bool) :=
  (fleetref2_in_x1 qn qlow qhigh).bind fun vx1 =>
  some vx1

/-! ### beaconfleet/fleetref2.SpotFault -/
noncomputable def fleetref2_SpotFault_x1 (qs : api_Spot) : Option (Bool) :=
  (fleetref2_in qs.X (-10000) 10000).bind fun vr =>
  cond (!vr)
    (some true)
    ((fleetref2_in qs.Y (-10000) 10000).bind fun vr1 =>
    some (!vr1))

noncomputable def fleetref2_SpotFault (qs : api_Spot) : Option (Int) :=
  (fleetref2_SpotFault_x1 qs).bind fun vx1 =>
  cond (vx1)
    (some 1)
    (some 0)

/-! ### slices.Index[[]beaconfleet/api.Spot,beaconfleet/api.Spot] -/
noncomputable def slices_Index_api_Spot_api_Spot_x1 (qs : List api_Spot) (qv : api_Spot) (vx : Int) : Option ((Int) ⊕ (Unit ⊕ Int)) :=
  cond (decide (vx < (qs.length : Int)))
    ((at? qs vx).bind fun vy1 =>
    cond ((decide (qv.X = vy1.X) && (decide (qv.Y = vy1.Y) && true)))
      (some (.inr (.inr vx)))
      (some (.inl (IntKind.wrap .i64 (vx + 1)))))
    (some (.inr (.inl ())))

noncomputable def slices_Index_api_Spot_api_Spot (qs : List api_Spot) (qv : api_Spot) : Option (Int) :=
  (loopO (slices_Index_api_Spot_api_Spot_x1 qs qv) 0).bind fun x => match x with
    | .inl _ =>
      some (-1)
    | .inr vx1_1 =>
      some vx1_1

/-! ### slices.Contains[[]beaconfleet/api.Spot,beaconfleet/api.Spot] -/
noncomputable def slices_Contains_api_Spot_api_Spot (qs : List api_Spot) (qv : api_Spot) : Option (Bool) :=
  (slices_Index_api_Spot_api_Spot qs qv).bind fun vr =>
  some (decide (0 ≤ vr))

/-! ### beaconfleet/fleetref2.edge -/
noncomputable def fleetref2_edge (ql : List api_Spot) (qi : Int) : Option (api_Spot × api_Spot) :=
  (at? ql qi).bind fun vy =>
  gd (!((ql.length : Int) == 0)) <|
  (at? ql ((IntKind.wrap .i64 (qi + 1)).tmod (ql.length : Int))).bind fun vy1 =>
  some (vy, vy1)

/-! ### beaconfleet/fleetref2.minus -/
noncomputable def fleetref2_minus (qa : api_Spot) (qb : api_Spot) : Option (Unit) :=
  some ()

/-! ### beaconfleet/fleetref2.cross -/
noncomputable def fleetref2_cross (qa : api_Spot) (qb : api_Spot) : Option (Unit) :=
  some ()

/-! ### beaconfleet/fleetref2.sign -/
noncomputable def fleetref2_sign (qn : Int) : Option (Int) :=
  cond (decide (qn < 0))
    (some (-1))
    (cond (decide (0 < qn))
      (some 1)
      (some 0))

/-! ### beaconfleet/fleetref2.side -/
noncomputable def fleetref2_side (qa : api_Spot) (qb : api_Spot) (qs : api_Spot) : Option (Int) :=
  (fleetref2_minus qb qa).bind fun _ =>
  (fleetref2_minus qs qa).bind fun _ =>
  (fleetref2_cross (api_Spot.mk (IntKind.wrap .i64 (qb.X - qa.X)) (IntKind.wrap .i64 (qb.Y - qa.Y))) (api_Spot.mk (IntKind.wrap .i64 (qs.X - qa.X)) (IntKind.wrap .i64 (qs.Y - qa.Y)))).bind fun _ =>
  (fleetref2_sign (IntKind.wrap .i64 ((IntKind.wrap .i64 ((IntKind.wrap .i64 (qb.X - qa.X)) * (IntKind.wrap .i64 (qs.Y - qa.Y)))) - (IntKind.wrap .i64 ((IntKind.wrap .i64 (qb.Y - qa.Y)) * (IntKind.wrap .i64 (qs.X - qa.X))))))).bind fun vr =>
  some vr

/-! ### beaconfleet/fleetref2.dot -/
noncomputable def fleetref2_dot (qa : api_Spot) (qb : api_Spot) : Option (Unit) :=
  some ()

/-! ### beaconfleet/fleetref2.onWay -/
noncomputable def fleetref2_onWay_x1 (qa : api_Spot) (qb : api_Spot) (qs : api_Spot) : Option (Bool) :=
  (fleetref2_side qa qb qs).bind fun vr1 =>
  cond (decide (vr1 = 0))
    ((fleetref2_minus qa qs).bind fun _ =>
    (fleetref2_minus qb qs).bind fun _ =>
    (fleetref2_dot (api_Spot.mk (IntKind.wrap .i64 (qa.X - qs.X)) (IntKind.wrap .i64 (qa.Y - qs.Y))) (api_Spot.mk (IntKind.wrap .i64 (qb.X - qs.X)) (IntKind.wrap .i64 (qb.Y - qs.Y)))).bind fun _ =>
    some (decide ((IntKind.wrap .i64 ((IntKind.wrap .i64 ((IntKind.wrap .i64 (qa.X - qs.X)) * (IntKind.wrap .i64 (qb.X - qs.X)))) + (IntKind.wrap .i64 ((IntKind.wrap .i64 (qa.Y - qs.Y)) * (IntKind.wrap .i64 (qb.Y - qs.Y)))))) ≤ 0)))
    (some false)

noncomputable def fleetref2_onWay (qa : api_Spot) (qb : api_Spot) (qs : api_Spot) : Option (Bool) :=
  (fleetref2_onWay_x1 qa qb qs).bind fun vx1 =>
  some vx1

/-! ### beaconfleet/fleetref2.touches -/
noncomputable def fleetref2_touches_x1 (qa : api_Spot) (qb : api_Spot) (qc : api_Spot) (qd : api_Spot) : Option (Bool) :=
  (fleetref2_onWay qa qb qc).bind fun vr =>
  cond (vr)
    (some true)
    ((fleetref2_onWay qa qb qd).bind fun vr1 =>
    cond (vr1)
      (some true)
      ((fleetref2_onWay qc qd qa).bind fun vr2 =>
      cond (vr2)
        (some true)
        ((fleetref2_onWay qc qd qb).bind fun vr3 =>
        some vr3)))

noncomputable def fleetref2_touches_x2 (qa : api_Spot) (qb : api_Spot) (qc : api_Spot) (qd : api_Spot) : Option (Bool) :=
  (fleetref2_side qa qb qc).bind fun vr1_1 =>
  (fleetref2_side qa qb qd).bind fun vr1_2 =>
  cond (decide ((IntKind.wrap .i64 (vr1_1 * vr1_2)) < 0))
    ((fleetref2_side qc qd qa).bind fun vr1_3 =>
    (fleetref2_side qc qd qb).bind fun vr1_4 =>
    some (decide ((IntKind.wrap .i64 (vr1_3 * vr1_4)) < 0)))
    (some false)

noncomputable def fleetref2_touches (qa : api_Spot) (qb : api_Spot) (qc : api_Spot) (qd : api_Spot) : Option (Bool) :=
  (fleetref2_touches_x1 qa qb qc qd).bind fun vx1 =>
  cond (vx1)
    (some true)
    ((fleetref2_touches_x2 qa qb qc qd).bind fun vx2_1 =>
    some vx2_1)

/-! ### beaconfleet/fleetref2.CornersFault -/
noncomputable def fleetref2_CornersFault_x1 (qx : List api_Spot) (vx : Int) : Option ((Int) ⊕ (Unit ⊕ Int)) :=
  cond (decide (vx < (qx.length : Int)))
    ((at? qx vx).bind fun vy1 =>
    (fleetref2_SpotFault vy1).bind fun vr2_1 =>
    cond (!decide (vr2_1 = 0))
      (some (.inr (.inr vr2_1)))
      ((sub? qx 0 vx).bind fun vl1 =>
      (slices_Contains_api_Spot_api_Spot vl1 vy1).bind fun vr1_1 =>
      cond (vr1_1)
        (some (.inr (.inr 6)))
        (some (.inl (IntKind.wrap .i64 (vx + 1))))))
    (some (.inr (.inl ())))

noncomputable def fleetref2_CornersFault_x5 (vr9 : api_Spot) (vr1_5 : api_Spot) (vr13 : api_Spot) (vr1_7 : api_Spot) : Option (Bool) :=
  (fleetref2_onWay vr9 vr1_5 vr1_7).bind fun vr14 =>
  cond (vr14)
    (some true)
    ((fleetref2_onWay vr13 vr1_7 vr9).bind fun vr15 =>
    some vr15)

noncomputable def fleetref2_CornersFault_x4 (qx : List api_Spot) (vx2 : Int) (vr9 : api_Spot) (vr1_5 : api_Spot) (vx6 : Int) : Option (Unit ⊕ Unit) :=
  (fleetref2_edge qx vx6).bind fun (vr13, vr1_7) =>
  cond (decide (vx6 = vx2))
    (some (.inl ()))
    (cond ((decide (vr1_5.X = vr13.X) && (decide (vr1_5.Y = vr13.Y) && true)))
      ((fleetref2_CornersFault_x5 vr9 vr1_5 vr13 vr1_7).bind fun vx8_1 =>
      cond (vx8_1)
        (some (.inr ()))
        (some (.inl ())))
      (cond ((decide (vr1_7.X = vr9.X) && (decide (vr1_7.Y = vr9.Y) && true)))
        (some (.inl ()))
        ((fleetref2_touches vr9 vr1_5 vr13 vr1_7).bind fun vr4_4 =>
        cond (vr4_4)
          (some (.inr ()))
          (some (.inl ())))))

noncomputable def fleetref2_CornersFault_x3 (qx : List api_Spot) (vx2 : Int) (vr9 : api_Spot) (vr1_5 : api_Spot) (vx6 : Int) : Option ((Int) ⊕ (Unit ⊕ Unit)) :=
  cond (decide (vx6 < (qx.length : Int)))
    ((fleetref2_CornersFault_x4 qx vx2 vr9 vr1_5 vx6).bind fun x => match x with
      | .inl _ =>
        some (.inl (IntKind.wrap .i64 (vx6 + 1)))
      | .inr _ =>
        some (.inr (.inr ())))
    (some (.inr (.inl ())))

noncomputable def fleetref2_CornersFault_x2 (qx : List api_Spot) (vx2 : Int) : Option ((Int) ⊕ (Unit ⊕ Unit)) :=
  cond (decide (vx2 < (qx.length : Int)))
    ((fleetref2_edge qx vx2).bind fun (vr9, vr1_5) =>
    (loopO (fleetref2_CornersFault_x3 qx vx2 vr9 vr1_5) 0).bind fun x => match x with
      | .inl _ =>
        some (.inl (IntKind.wrap .i64 (vx2 + 1)))
      | .inr _ =>
        some (.inr (.inr ())))
    (some (.inr (.inl ())))

noncomputable def fleetref2_CornersFault (qx : List api_Spot) : Option (Int) :=
  cond (decide ((qx.length : Int) < 3))
    (some 3)
    (cond (decide (200 < (qx.length : Int)))
      (some 2)
      ((loopO (fleetref2_CornersFault_x1 qx) 0).bind fun x => match x with
        | .inl _ =>
          (loopO (fleetref2_CornersFault_x2 qx) 0).bind fun x => match x with
            | .inl _ =>
              some 0
            | .inr _ =>
              some 13
        | .inr vx1_1 =>
          some vx1_1))

/-! ### (*beaconfleet/fleetmake.Stream).RightFence -/
noncomputable def fleetmake_Stream_RightFence_x2 (vr5 : Int) : fleetmake_Stream × (List api_Spot) × Int → Option ((fleetmake_Stream × (List api_Spot) × Int) ⊕ ((fleetmake_Stream × (List api_Spot))))
  | (vs8, vx8, vx9) =>
  cond (decide (vx9 < vr5))
    ((fleetmake_Stream_Place vs8).bind fun vr2_3 =>
    gd (Nat.ble (vx8.length + ([vr2_3] : List api_Spot).length) LIM) <|
    some (.inl (fleetmake_Stream.mk vs8.L (IntKind.wrap .i64 ((IntKind.wrap .i64 (vs8.at_ + 1)) + 1)), vx8 ++ ([vr2_3] : List api_Spot), IntKind.wrap .i64 (vx9 + 1))))
    (some (.inr (vs8, vx8)))

noncomputable def fleetmake_Stream_RightFence_x4 (vx10_1 : List api_Spot) : fleetmake_Stream × (List api_Spot) × Int → Option ((fleetmake_Stream × (List api_Spot) × Int) ⊕ ((fleetmake_Stream × (List api_Spot))))
  | (vs10, vx11, vx12) =>
  cond (decide (vx12 < (vx10_1.length : Int)))
    ((at? vx11 vx12).bind fun vy3 =>
    (fleetmake_Stream_Pick_o1 vs10 ([1, 100, (-400)] : List Int)).bind fun vr8 =>
    some (.inl (fleetmake_Stream.mk vs10.L (IntKind.wrap .i64 (vs10.at_ + 1)), vx11.set vx12.toNat (api_Spot.mk (IntKind.wrap .i64 (vy3.X * vr8)) vy3.Y), IntKind.wrap .i64 (vx12 + 1))))
    (some (.inr (vs10, vx11)))

noncomputable def fleetmake_Stream_RightFence_x3 (vs9_1 : fleetmake_Stream) (vx10_1 : List api_Spot) : Option ((fleetmake_Stream × (List api_Spot))) :=
  (fleetmake_Stream_Flip vs9_1 6).bind fun vr6 =>
  cond (vr6)
    ((loopO (fleetmake_Stream_RightFence_x4 vx10_1) (fleetmake_Stream.mk vs9_1.L (IntKind.wrap .i64 (vs9_1.at_ + 1)), vx10_1, 0)).bind fun (vs11_1, vx13_1) =>
    some (vs11_1, vx13_1))
    (some (fleetmake_Stream.mk vs9_1.L (IntKind.wrap .i64 (vs9_1.at_ + 1)), vx10_1))

noncomputable def fleetmake_Stream_RightFence_x1 : fleetmake_Stream × Int → Option ((fleetmake_Stream × Int) ⊕ (fleetmake_Stream ⊕ (fleetmake_Stream × (List api_Spot))))
  | (vs, vx) =>
  cond (decide (vx < 4))
    ((fleetmake_Stream_Range vs 3 6).bind fun (vs7, vr5) =>
    (loopO (fleetmake_Stream_RightFence_x2 vr5) (vs7, [], 0)).bind fun (vs9_1, vx10_1) =>
    (fleetmake_Stream_RightFence_x3 vs9_1 vx10_1).bind fun (vs12_1, vx14_1) =>
    (fleetref2_CornersFault vx14_1).bind fun vr16_1 =>
    cond (decide (vr16_1 = 0))
      (some (.inr (.inr (vs12_1, vx14_1))))
      (some (.inl (vs12_1, IntKind.wrap .i64 (vx + 1)))))
    (some (.inr (.inl vs)))

noncomputable def fleetmake_Stream_RightFence_x5 (vs13_1 : fleetmake_Stream) : Option ((List api_Spot)) :=
  (fleetmake_Stream_Next vs13_1 4).bind fun vr3_1 =>
  cond (decide (vr3_1 = 0))
    (some ([api_Spot.mk 0 0, api_Spot.mk 10 0, api_Spot.mk 10 10, api_Spot.mk 5 3, api_Spot.mk 0 10] : List api_Spot))
    (cond (decide (vr3_1 = 1))
      (some ([api_Spot.mk 0 10, api_Spot.mk 10 10, api_Spot.mk 10 0, api_Spot.mk 0 0] : List api_Spot))
      (cond (decide (vr3_1 = 2))
        (some ([api_Spot.mk 0 0, api_Spot.mk 8 0, api_Spot.mk 8 2, api_Spot.mk 2 2, api_Spot.mk 2 6, api_Spot.mk 8 6, api_Spot.mk 8 8, api_Spot.mk 0 8] : List api_Spot))
        (some ([api_Spot.mk 0 0, api_Spot.mk 10 0, api_Spot.mk 10 10, api_Spot.mk 0 10] : List api_Spot))))

noncomputable def fleetmake_Stream_RightFence (qx : fleetmake_Stream) : Option (fleetmake_Stream × (List api_Spot)) :=
  (loopO fleetmake_Stream_RightFence_x1 (qx, 0)).bind fun x => match x with
    | .inl vs13_1 =>
      (fleetmake_Stream_RightFence_x5 vs13_1).bind fun vx16_1 =>
      some (fleetmake_Stream.mk vs13_1.L (IntKind.wrap .i64 (vs13_1.at_ + 1)), vx16_1)
    | .inr (vs14_1, vx15_1) =>
      some (vs14_1, vx15_1)

/-! ### (*beaconfleet/fleetmake.Stream).Some -/
noncomputable def fleetmake_Stream_Some_o1 (qs : fleetmake_Stream) (ql : List (List UInt8)) : Option ((List UInt8)) :=
  (fleetmake_Stream_Next qs (ql.length : Int)).bind fun vr3 =>
  (at? ql vr3).bind fun vy =>
  some vy

/-! ### slices.Clone[[]beaconfleet/api.Spot,beaconfleet/api.Spot] -/
noncomputable def slices_Clone_api_Spot_api_Spot (qs : List api_Spot) : Option (List api_Spot) :=
  gd (Nat.ble (([] : List api_Spot).length + qs.length) LIM) (some qs)

/-! ### (*beaconfleet/fleetmake.Stream).Odd -/
noncomputable def fleetmake_Stream_Odd (qs : fleetmake_Stream) (qlow : Int) (qhigh : Int) : Option (fleetmake_Stream × Int) :=
  (fleetmake_Stream_Flip qs 12).bind fun vr =>
  cond (vr)
    ((fleetmake_Stream_Pick_o1 (fleetmake_Stream.mk qs.L (IntKind.wrap .i64 (qs.at_ + 1))) ([IntKind.wrap .i64 (qlow - 1), IntKind.wrap .i64 (qhigh + 1), qlow, qhigh, (-1099511627776), 1099511627776] : List Int)).bind fun vr1 =>
    some (fleetmake_Stream.mk qs.L (IntKind.wrap .i64 ((IntKind.wrap .i64 (qs.at_ + 1)) + 1)), vr1))
    ((fleetmake_Stream_Range (fleetmake_Stream.mk qs.L (IntKind.wrap .i64 (qs.at_ + 1))) qlow qhigh).bind fun (vs, vr2) =>
    some (vs, vr2))

/-! ### (*beaconfleet/fleetmake.Stream).Spot -/
noncomputable def fleetmake_Stream_Spot_x1 (qs : fleetmake_Stream) (vr2 : api_Spot) : Option ((fleetmake_Stream × api_Spot)) :=
  (fleetmake_Stream_Flip (fleetmake_Stream.mk qs.L (IntKind.wrap .i64 ((IntKind.wrap .i64 (qs.at_ + 1)) + 1))) 15).bind fun vr =>
  cond (vr)
    ((fleetmake_Stream_Odd (fleetmake_Stream.mk qs.L (IntKind.wrap .i64 ((IntKind.wrap .i64 ((IntKind.wrap .i64 (qs.at_ + 1)) + 1)) + 1))) (-10000) 10000).bind fun (vs1, vr3) =>
    some (vs1, api_Spot.mk vr3 vr2.Y))
    (some (fleetmake_Stream.mk qs.L (IntKind.wrap .i64 ((IntKind.wrap .i64 ((IntKind.wrap .i64 (qs.at_ + 1)) + 1)) + 1)), vr2))

noncomputable def fleetmake_Stream_Spot (qs : fleetmake_Stream) : Option (fleetmake_Stream × api_Spot) :=
  (fleetmake_Stream_Place qs).bind fun vr2 =>
  (fleetmake_Stream_Spot_x1 qs vr2).bind fun (vs2, vp1) =>
  some (vs2, vp1)

/-! ### (*beaconfleet/fleetmake.Stream).Fence -/
noncomputable def fleetmake_Stream_Fence_x1 (vs15 : fleetmake_Stream) (vr9 : List api_Spot) : Option ((fleetmake_Stream × (List UInt8) × (List api_Spot))) :=
  (fleetmake_Stream_Flip vs15 8).bind fun vr =>
  cond (vr)
    ((fleetmake_Stream_Next (fleetmake_Stream.mk vs15.L (IntKind.wrap .i64 (vs15.at_ + 1))) 4).bind fun vr3 =>
    cond (decide (vr3 = 0))
      ((fleetmake_Stream_Some_o1 (fleetmake_Stream.mk vs15.L (IntKind.wrap .i64 ((IntKind.wrap .i64 (vs15.at_ + 1)) + 1))) ([([] : List UInt8), ([65] : List UInt8)] : List (List UInt8))).bind fun vr1 =>
      some (fleetmake_Stream.mk vs15.L (IntKind.wrap .i64 ((IntKind.wrap .i64 ((IntKind.wrap .i64 (vs15.at_ + 1)) + 1)) + 1)), vr1, vr9))
      (cond (decide (vr3 = 1))
        ((fleetmake_Stream_Next (fleetmake_Stream.mk vs15.L (IntKind.wrap .i64 ((IntKind.wrap .i64 (vs15.at_ + 1)) + 1))) 3).bind fun vr3_1 =>
        (sub? vr9 0 vr3_1).bind fun vl =>
        some (fleetmake_Stream.mk vs15.L (IntKind.wrap .i64 ((IntKind.wrap .i64 ((IntKind.wrap .i64 (vs15.at_ + 1)) + 1)) + 1)), ([102] : List UInt8), vl))
        (cond (decide (vr3 = 2))
          ((slices_Clone_api_Spot_api_Spot vr9).bind fun vr2 =>
          (fleetmake_Stream_Spot (fleetmake_Stream.mk vs15.L (IntKind.wrap .i64 ((IntKind.wrap .i64 (vs15.at_ + 1)) + 1)))).bind fun (vs3, vr1_1) =>
          gd (Nat.ble (vr2.length + ([vr1_1] : List api_Spot).length) LIM) <|
          some (vs3, ([102] : List UInt8), vr2 ++ ([vr1_1] : List api_Spot)))
          ((fleetmake_Stream_Place (fleetmake_Stream.mk vs15.L (IntKind.wrap .i64 ((IntKind.wrap .i64 (vs15.at_ + 1)) + 1)))).bind fun vr2_1 =>
          (fleetmake_Stream_Place (fleetmake_Stream.mk vs15.L (IntKind.wrap .i64 ((IntKind.wrap .i64 ((IntKind.wrap .i64 ((IntKind.wrap .i64 (vs15.at_ + 1)) + 1)) + 1)) + 1)))).bind fun vr2_2 =>
          (fleetmake_Stream_Place (fleetmake_Stream.mk vs15.L (IntKind.wrap .i64 ((IntKind.wrap .i64 ((IntKind.wrap .i64 ((IntKind.wrap .i64 ((IntKind.wrap .i64 ((IntKind.wrap .i64 (vs15.at_ + 1)) + 1)) + 1)) + 1)) + 1)) + 1)))).bind fun vr2_3 =>
          (fleetmake_Stream_Place (fleetmake_Stream.mk vs15.L (IntKind.wrap .i64 ((IntKind.wrap .i64 ((IntKind.wrap .i64 ((IntKind.wrap .i64 ((IntKind.wrap .i64 ((IntKind.wrap .i64 ((IntKind.wrap .i64 ((IntKind.wrap .i64 (vs15.at_ + 1)) + 1)) + 1)) + 1)) + 1)) + 1)) + 1)) + 1)))).bind fun vr2_4 =>
          some (fleetmake_Stream.mk vs15.L (IntKind.wrap .i64 ((IntKind.wrap .i64 ((IntKind.wrap .i64 ((IntKind.wrap .i64 ((IntKind.wrap .i64 ((IntKind.wrap .i64 ((IntKind.wrap .i64 ((IntKind.wrap .i64 ((IntKind.wrap .i64 ((IntKind.wrap .i64 (vs15.at_ + 1)) + 1)) + 1)) + 1)) + 1)) + 1)) + 1)) + 1)) + 1)) + 1)), ([102] : List UInt8), ([vr2_1, vr2_2, vr2_3, vr2_4] : List api_Spot))))))
    (some (fleetmake_Stream.mk vs15.L (IntKind.wrap .i64 (vs15.at_ + 1)), ([102] : List UInt8), vr9))

noncomputable def fleetmake_Stream_Fence (qs : fleetmake_Stream) : Option (fleetmake_Stream × api_Fence) :=
  (fleetmake_Stream_RightFence qs).bind fun (vs15, vr9) =>
  (fleetmake_Stream_Fence_x1 vs15 vr9).bind fun (vs1, vf2, vf1_1) =>
  some (vs1, api_Fence.mk vf2 vf1_1)

/-! ### beaconfleet/base.Key -/
noncomputable def base_Key_x1 (qs : List UInt8) : Option (Bool) :=
  cond (decide (qs = ([] : List UInt8)))
    (some true)
    (cond (decide (40 < (qs.length : Int)))
      (some true)
      ((at? qs 0).bind fun vc =>
      cond (decide ((vc.toNat : Int) < 97))
        (some true)
        (some (decide (122 < (vc.toNat : Int))))))

noncomputable def base_Key_x3 (vc2 : UInt8) : Option (Bool) :=
  cond (decide (97 ≤ (vc2.toNat : Int)))
    (cond (decide ((vc2.toNat : Int) ≤ 122))
      (some false)
      (cond (decide (48 ≤ (vc2.toNat : Int)))
        (cond (decide ((vc2.toNat : Int) ≤ 57))
          (some false)
          (cond (decide ((vc2.toNat : Int) = 45))
            (some false)
            (some (!(decide ((vc2.toNat : Int) = 95))))))
        (cond (decide ((vc2.toNat : Int) = 45))
          (some false)
          (some (!(decide ((vc2.toNat : Int) = 95)))))))
    (cond (decide (48 ≤ (vc2.toNat : Int)))
      (cond (decide ((vc2.toNat : Int) ≤ 57))
        (some false)
        (cond (decide ((vc2.toNat : Int) = 45))
          (some false)
          (some (!(decide ((vc2.toNat : Int) = 95))))))
      (cond (decide ((vc2.toNat : Int) = 45))
        (some false)
        (some (!(decide ((vc2.toNat : Int) = 95))))))

noncomputable def base_Key_x2 (qs : List UInt8) (vx2 : Int) : Option ((Int) ⊕ (Unit ⊕ Unit)) :=
  cond (decide (vx2 < (qs.length : Int)))
    ((at? qs vx2).bind fun vc2 =>
    (base_Key_x3 vc2).bind fun vx4_1 =>
    cond (vx4_1)
      (some (.inr (.inr ())))
      (some (.inl (IntKind.wrap .i64 (vx2 + 1)))))
    (some (.inr (.inl ())))

noncomputable def base_Key (qs : List UInt8) : Option (Bool) :=
  (base_Key_x1 qs).bind fun vx1 =>
  cond (vx1)
    (some false)
    ((loopO (base_Key_x2 qs) 0).bind fun x => match x with
      | .inl _ =>
        some true
      | .inr _ =>
        some false)

/-! ### beaconfleet/base.Out -/
noncomputable def base_Out_x1 (qn : Int) (qlow : Int) (qhigh : Int) : Option (Bool) :=
  cond (decide (qn < qlow))
    (some true)
    (some (decide (qhigh < qn)))

noncomputable def base_Out (qn : Int) (qlow : Int) (qhigh : Int) : Option (Bool) :=
  (base_Out_x1 qn qlow qhigh).bind fun vx1 =>
  some vx1

/-! ### beaconfleet/place.isSpot -/
noncomputable def place_isSpot_x1 (qs : api_Spot) : Option (Bool) :=
  (base_Out qs.X (-10000) 10000).bind fun vr =>
  cond (!vr)
    ((base_Out qs.Y (-10000) 10000).bind fun vr1 =>
    some (!vr1))
    (some false)

noncomputable def place_isSpot (qs : api_Spot) : Option (Bool) :=
  (place_isSpot_x1 qs).bind fun vx1 =>
  some vx1

/-! ### beaconfleet/place.side -/
noncomputable def place_side (qa : api_Spot) (qb : api_Spot) (qs : api_Spot) : Option (Unit) :=
  some ()

/-! ### beaconfleet/place.on -/
noncomputable def place_on_x1 (qa : api_Spot) (qb : api_Spot) (qs : api_Spot) : Option (Bool) :=
  (place_side qa qb qs).bind fun _ =>
  cond (decide ((IntKind.wrap .i64 ((IntKind.wrap .i64 ((IntKind.wrap .i64 (qb.X - qa.X)) * (IntKind.wrap .i64 (qs.Y - qa.Y)))) - (IntKind.wrap .i64 ((IntKind.wrap .i64 (qb.Y - qa.Y)) * (IntKind.wrap .i64 (qs.X - qa.X)))))) = 0))
    (cond (decide ((imin qa.X qb.X) ≤ qs.X))
      (cond (decide (qs.X ≤ (imax qa.X qb.X)))
        (cond (decide ((imin qa.Y qb.Y) ≤ qs.Y))
          (some (decide (qs.Y ≤ (imax qa.Y qb.Y))))
          (some false))
        (some false))
      (some false))
    (some false)

noncomputable def place_on (qa : api_Spot) (qb : api_Spot) (qs : api_Spot) : Option (Bool) :=
  (place_on_x1 qa qb qs).bind fun vx1 =>
  some vx1

/-! ### cmp.isNaN[int] -/
noncomputable def cmp_isNaN_int (qx : Int) : Option (Unit) :=
  some ()

/-! ### cmp.Compare[int] -/
noncomputable def cmp_Compare_int (qx : Int) (qy : Int) : Option (Int) :=
  (cmp_isNaN_int qx).bind fun _ =>
  (cmp_isNaN_int qy).bind fun _ =>
  cond (!decide (qx = qx))
    (cond (!decide (qy = qy))
      (some 0)
      (some (-1)))
    (cond (!decide (qy = qy))
      (some 1)
      (cond (decide (qx < qy))
        (some (-1))
        (cond (decide (qy < qx))
          (some 1)
          (some 0))))

/-! ### beaconfleet/place.meets -/
noncomputable def place_meets_x1 (qx : api_Spot) (qx1 : api_Spot) (qx2 : api_Spot) (qx3 : api_Spot) : Option (Bool) :=
  (place_on qx qx1 qx2).bind fun vr =>
  cond (vr)
    (some true)
    ((place_on qx qx1 qx3).bind fun vr1 =>
    cond (vr1)
      (some true)
      ((place_on qx2 qx3 qx).bind fun vr2 =>
      cond (vr2)
        (some true)
        ((place_on qx2 qx3 qx1).bind fun vr3 =>
        some vr3)))

noncomputable def place_meets_x2 (vr4 : Int) (vr5 : Int) (vr6 : Int) (vr7 : Int) : Option (Bool) :=
  cond (decide ((IntKind.wrap .i64 (vr4 * vr5)) < 0))
    (some (decide ((IntKind.wrap .i64 (vr6 * vr7)) < 0)))
    (some false)

noncomputable def place_meets (qx : api_Spot) (qx1 : api_Spot) (qx2 : api_Spot) (qx3 : api_Spot) : Option (Bool) :=
  (place_meets_x1 qx qx1 qx2 qx3).bind fun vx1 =>
  cond (vx1)
    (some true)
    ((place_side qx qx1 qx2).bind fun _ =>
    (cmp_Compare_int (IntKind.wrap .i64 ((IntKind.wrap .i64 ((IntKind.wrap .i64 (qx1.X - qx.X)) * (IntKind.wrap .i64 (qx2.Y - qx.Y)))) - (IntKind.wrap .i64 ((IntKind.wrap .i64 (qx1.Y - qx.Y)) * (IntKind.wrap .i64 (qx2.X - qx.X)))))) 0).bind fun vr4 =>
    (place_side qx qx1 qx3).bind fun _ =>
    (cmp_Compare_int (IntKind.wrap .i64 ((IntKind.wrap .i64 ((IntKind.wrap .i64 (qx1.X - qx.X)) * (IntKind.wrap .i64 (qx3.Y - qx.Y)))) - (IntKind.wrap .i64 ((IntKind.wrap .i64 (qx1.Y - qx.Y)) * (IntKind.wrap .i64 (qx3.X - qx.X)))))) 0).bind fun vr5 =>
    (place_side qx2 qx3 qx).bind fun _ =>
    (cmp_Compare_int (IntKind.wrap .i64 ((IntKind.wrap .i64 ((IntKind.wrap .i64 (qx3.X - qx2.X)) * (IntKind.wrap .i64 (qx.Y - qx2.Y)))) - (IntKind.wrap .i64 ((IntKind.wrap .i64 (qx3.Y - qx2.Y)) * (IntKind.wrap .i64 (qx.X - qx2.X)))))) 0).bind fun vr6 =>
    (place_side qx2 qx3 qx1).bind fun _ =>
    (cmp_Compare_int (IntKind.wrap .i64 ((IntKind.wrap .i64 ((IntKind.wrap .i64 (qx3.X - qx2.X)) * (IntKind.wrap .i64 (qx1.Y - qx2.Y)))) - (IntKind.wrap .i64 ((IntKind.wrap .i64 (qx3.Y - qx2.Y)) * (IntKind.wrap .i64 (qx1.X - qx2.X)))))) 0).bind fun vr7 =>
    (place_meets_x2 vr4 vr5 vr6 vr7).bind fun vx2_1 =>
    some vx2_1)

/-! ### beaconfleet/place.crossed -/
noncomputable def place_crossed_x3 (qx : List api_Spot) (vx : Int) (vy6 : api_Spot) (vy7 : api_Spot) (vx8 : Int) (vy10 : api_Spot) (vy11 : api_Spot) : Option (Bool) :=
  cond (!(decide (vx8 = (IntKind.wrap .i64 (vx + 1)))))
    (cond (!(decide (((IntKind.wrap .i64 (vx8 + 1)).tmod (qx.length : Int)) = vx)))
      ((place_meets vy6 vy7 vy10 vy11).bind fun vr8_3 =>
      some vr8_3)
      (some false))
    (some false)

noncomputable def place_crossed_x4 (vx : Int) (vy6 : api_Spot) (vy7 : api_Spot) (vx8 : Int) (vy10 : api_Spot) (vy11 : api_Spot) : Option (Bool) :=
  cond (decide (vx8 = (IntKind.wrap .i64 (vx + 1))))
    ((place_on vy6 vy7 vy11).bind fun vr13 =>
    cond (vr13)
      (some true)
      ((place_on vy10 vy11 vy6).bind fun vr14 =>
      some vr14))
    (some false)

noncomputable def place_crossed_x5 (qx : List api_Spot) (vx : Int) (vy6 : api_Spot) (vy7 : api_Spot) (vx8 : Int) (vy10 : api_Spot) (vy11 : api_Spot) : Option (Bool) :=
  cond (decide (((IntKind.wrap .i64 (vx8 + 1)).tmod (qx.length : Int)) = vx))
    ((place_on vy6 vy7 vy10).bind fun vr15 =>
    cond (vr15)
      (some true)
      ((place_on vy10 vy11 vy7).bind fun vr16 =>
      some vr16))
    (some false)

noncomputable def place_crossed_x2 (qx : List api_Spot) (vx : Int) (vy6 : api_Spot) (vy7 : api_Spot) (vx8 : Int) : Option ((Int) ⊕ (Unit ⊕ Unit)) :=
  cond (decide (vx8 < (qx.length : Int)))
    ((at? qx vx8).bind fun vy10 =>
    gd (!((qx.length : Int) == 0)) <|
    (at? qx ((IntKind.wrap .i64 (vx8 + 1)).tmod (qx.length : Int))).bind fun vy11 =>
    (place_crossed_x3 qx vx vy6 vy7 vx8 vy10 vy11).bind fun vx12_1 =>
    cond (vx12_1)
      (some (.inr (.inr ())))
      ((place_crossed_x4 vx vy6 vy7 vx8 vy10 vy11).bind fun vx13_1 =>
      cond (vx13_1)
        (some (.inr (.inr ())))
        ((place_crossed_x5 qx vx vy6 vy7 vx8 vy10 vy11).bind fun vx14_1 =>
        cond (vx14_1)
          (some (.inr (.inr ())))
          (some (.inl (IntKind.wrap .i64 (vx8 + 1)))))))
    (some (.inr (.inl ())))

noncomputable def place_crossed_x1 (qx : List api_Spot) (vx : Int) : Option ((Int) ⊕ (Unit ⊕ Unit)) :=
  cond (decide (vx < (qx.length : Int)))
    ((at? qx vx).bind fun vy6 =>
    gd (!((qx.length : Int) == 0)) <|
    (at? qx ((IntKind.wrap .i64 (vx + 1)).tmod (qx.length : Int))).bind fun vy7 =>
    (loopO (place_crossed_x2 qx vx vy6 vy7) (IntKind.wrap .i64 (vx + 1))).bind fun x => match x with
      | .inl _ =>
        some (.inl (IntKind.wrap .i64 (vx + 1)))
      | .inr _ =>
        some (.inr (.inr ())))
    (some (.inr (.inl ())))

noncomputable def place_crossed (qx : List api_Spot) : Option (Bool) :=
  (loopO (place_crossed_x1 qx) 0).bind fun x => match x with
    | .inl _ =>
      some false
    | .inr _ =>
      some true

/-! ### beaconfleet/place.CheckFence -/
noncomputable def place_CheckFence_x1 (qf : api_Fence) (vx : Int) : Option ((Int) ⊕ (Unit ⊕ Int)) :=
  cond (decide (vx < (qf.Corners.length : Int)))
    ((at? qf.Corners vx).bind fun vy1 =>
    (place_isSpot vy1).bind fun vr2_1 =>
    cond (!vr2_1)
      (some (.inr (.inr 1)))
      ((sub? qf.Corners 0 vx).bind fun vl1 =>
      (slices_Contains_api_Spot_api_Spot vl1 vy1).bind fun vr1_1 =>
      cond (vr1_1)
        (some (.inr (.inr 6)))
        (some (.inl (IntKind.wrap .i64 (vx + 1))))))
    (some (.inr (.inl ())))

noncomputable def place_CheckFence (qf : api_Fence) : Option (Int) :=
  (base_Key qf.Key).bind fun vr =>
  cond (!vr)
    (some 5)
    (cond (decide ((qf.Corners.length : Int) < 3))
      (some 3)
      (cond (decide (200 < (qf.Corners.length : Int)))
        (some 2)
        ((loopO (place_CheckFence_x1 qf) 0).bind fun x => match x with
          | .inl _ =>
            (place_crossed qf.Corners).bind fun vr17 =>
            cond (vr17)
              (some 13)
              (some 0)
          | .inr vx1_1 =>
            some vx1_1)))

/-! ### beaconfleet/base.First -/
noncomputable def base_First_x1 (ql : List Int) (vx : Int) : Option ((Int) ⊕ (Unit ⊕ Int)) :=
  cond (decide (vx < (ql.length : Int)))
    ((at? ql vx).bind fun vy1 =>
    cond (!decide (vy1 = 0))
      (some (.inr (.inr vy1)))
      (some (.inl (IntKind.wrap .i64 (vx + 1)))))
    (some (.inr (.inl ())))

noncomputable def base_First (ql : List Int) : Option (Int) :=
  (loopO (base_First_x1 ql) 0).bind fun x => match x with
    | .inl _ =>
      some 0
    | .inr vx1_1 =>
      some vx1_1

/-! ### beaconfleet/place.where$1 -/
noncomputable def place_where_1 (qa : api_Spot) (qb : api_Spot) (qx : api_Spot) : Option (Bool) :=
  (place_on qa qb qx).bind fun vr =>
  some vr

/-! ### beaconfleet/place.edges -/
noncomputable def place_edges_f1_place_where_1_x1 (ql : List api_Spot) (qf : api_Spot) (vx : Int) : Option ((Int) ⊕ (Unit ⊕ Unit)) :=
  cond (decide (vx < (ql.length : Int)))
    ((at? ql vx).bind fun vy2 =>
    gd (!((ql.length : Int) == 0)) <|
    (at? ql ((IntKind.wrap .i64 (vx + 1)).tmod (ql.length : Int))).bind fun vy3 =>
    (place_where_1 vy2 vy3 qf).bind fun vr1_1 =>
    cond (vr1_1)
      (some (.inr (.inr ())))
      (some (.inl (IntKind.wrap .i64 (vx + 1)))))
    (some (.inr (.inl ())))

noncomputable def place_edges_f1_place_where_1 (ql : List api_Spot) (qf : api_Spot) : Option (Bool) :=
  (loopO (place_edges_f1_place_where_1_x1 ql qf) 0).bind fun x => match x with
    | .inl _ =>
      some false
    | .inr _ =>
      some true

/-! ### beaconfleet/place.where$2 -/
noncomputable def place_where_2_x1 (qa : api_Spot) (qb : api_Spot) : Option ((api_Spot × api_Spot)) :=
  cond (decide (qb.Y < qa.Y))
    (some (qb, qa))
    (some (qa, qb))

noncomputable def place_where_2_x3 (qx : api_Spot) (va1 : api_Spot) (vb1 : api_Spot) : Option (Bool) :=
  cond (decide (va1.Y ≤ qx.Y))
    (cond (decide (qx.Y < vb1.Y))
      ((place_side va1 vb1 qx).bind fun _ =>
      some (decide (0 < (IntKind.wrap .i64 ((IntKind.wrap .i64 ((IntKind.wrap .i64 (vb1.X - va1.X)) * (IntKind.wrap .i64 (qx.Y - va1.Y)))) - (IntKind.wrap .i64 ((IntKind.wrap .i64 (vb1.Y - va1.Y)) * (IntKind.wrap .i64 (qx.X - va1.X)))))))))
      (some false))
    (some false)

noncomputable def place_where_2_x2 (qx : api_Spot) (qx1 : Bool) (va1 : api_Spot) (vb1 : api_Spot) : Option (Bool) :=
  (place_where_2_x3 qx va1 vb1).bind fun vx1 =>
  cond (vx1)
    (some (!qx1))
    (some qx1)

noncomputable def place_where_2 (qa : api_Spot) (qb : api_Spot) (qx : api_Spot) (qx1 : Bool) : Option (Bool) :=
  (place_where_2_x1 qa qb).bind fun (va1, vb1) =>
  (place_where_2_x2 qx qx1 va1 vb1).bind fun vs1 =>
  some vs1

/-! ### beaconfleet/place.edges -/
noncomputable def place_edges_f1_place_where_2_x1 (ql : List api_Spot) (qf : api_Spot) : Bool × Int → Option ((Bool × Int) ⊕ (Bool))
  | (vs, vx) =>
  cond (decide (vx < (ql.length : Int)))
    ((at? ql vx).bind fun vy2 =>
    gd (!((ql.length : Int) == 0)) <|
    (at? ql ((IntKind.wrap .i64 (vx + 1)).tmod (ql.length : Int))).bind fun vy3 =>
    (place_where_2 vy2 vy3 qf vs).bind fun vs2_1 =>
    some (.inl (vs2_1, IntKind.wrap .i64 (vx + 1))))
    (some (.inr vs))

noncomputable def place_edges_f1_place_where_2 (ql : List api_Spot) (qf : api_Spot) (qf1 : Bool) : Option (Bool) :=
  (loopO (place_edges_f1_place_where_2_x1 ql qf) (qf1, 0)).bind fun vs1_1 =>
  some vs1_1

/-! ### beaconfleet/place.where -/
noncomputable def place_where (ql : List api_Spot) (qs : api_Spot) : Option (Int) :=
  (place_edges_f1_place_where_1 ql qs).bind fun vr =>
  cond (vr)
    (some 1)
    ((place_edges_f1_place_where_2 ql qs false).bind fun vs3 =>
    cond (vs3)
      (some 2)
      (some 0))

/-! ### beaconfleet/place.touch$1$1 -/
noncomputable def place_touch_1_1 (qc : api_Spot) (qd : api_Spot) (qx : api_Spot) (qx1 : api_Spot) : Option (Bool) :=
  (place_meets qx qx1 qc qd).bind fun vr8 =>
  some vr8

/-! ### beaconfleet/place.edges -/
noncomputable def place_edges_f1_place_touch_1_1_x1 (ql : List api_Spot) (qf : api_Spot) (qf1 : api_Spot) (vx : Int) : Option ((Int) ⊕ (Unit ⊕ Unit)) :=
  cond (decide (vx < (ql.length : Int)))
    ((at? ql vx).bind fun vy2 =>
    gd (!((ql.length : Int) == 0)) <|
    (at? ql ((IntKind.wrap .i64 (vx + 1)).tmod (ql.length : Int))).bind fun vy3 =>
    (place_touch_1_1 vy2 vy3 qf qf1).bind fun vr1 =>
    cond (vr1)
      (some (.inr (.inr ())))
      (some (.inl (IntKind.wrap .i64 (vx + 1)))))
    (some (.inr (.inl ())))

noncomputable def place_edges_f1_place_touch_1_1 (ql : List api_Spot) (qf : api_Spot) (qf1 : api_Spot) : Option (Bool) :=
  (loopO (place_edges_f1_place_touch_1_1_x1 ql qf qf1) 0).bind fun x => match x with
    | .inl _ =>
      some false
    | .inr _ =>
      some true

/-! ### beaconfleet/place.touch$1 -/
noncomputable def place_touch_1 (qa : api_Spot) (qb : api_Spot) (qx : List api_Spot) : Option (Bool) :=
  (place_edges_f1_place_touch_1_1 qx qa qb).bind fun vr2 =>
  some vr2

/-! ### beaconfleet/place.edges -/
noncomputable def place_edges_f1_place_touch_1_x1 (ql : List api_Spot) (qf : List api_Spot) (vx : Int) : Option ((Int) ⊕ (Unit ⊕ Unit)) :=
  cond (decide (vx < (ql.length : Int)))
    ((at? ql vx).bind fun vy2 =>
    gd (!((ql.length : Int) == 0)) <|
    (at? ql ((IntKind.wrap .i64 (vx + 1)).tmod (ql.length : Int))).bind fun vy3 =>
    (place_touch_1 vy2 vy3 qf).bind fun vr1 =>
    cond (vr1)
      (some (.inr (.inr ())))
      (some (.inl (IntKind.wrap .i64 (vx + 1)))))
    (some (.inr (.inl ())))

noncomputable def place_edges_f1_place_touch_1 (ql : List api_Spot) (qf : List api_Spot) : Option (Bool) :=
  (loopO (place_edges_f1_place_touch_1_x1 ql qf) 0).bind fun x => match x with
    | .inl _ =>
      some false
    | .inr _ =>
      some true

/-! ### beaconfleet/place.touch -/
noncomputable def place_touch_x1 (ql : List api_Spot) (qm : List api_Spot) : Option (Bool) :=
  (at? qm 0).bind fun vy =>
  (place_where ql vy).bind fun vr1 =>
  cond (!decide (vr1 = 0))
    (some true)
    ((at? ql 0).bind fun vy1 =>
    (place_where qm vy1).bind fun vr1_1 =>
    cond (!decide (vr1_1 = 0))
      (some true)
      ((place_edges_f1_place_touch_1 ql qm).bind fun vr2 =>
      some vr2))

noncomputable def place_touch (ql : List api_Spot) (qm : List api_Spot) : Option (Bool) :=
  (place_touch_x1 ql qm).bind fun vx1 =>
  some vx1

/-! ### beaconfleet/place.Meet -/
noncomputable def place_Meet (qf : api_Fence) (qg : api_Fence) : Option (Bool × Int) :=
  (place_CheckFence qf).bind fun vr3 =>
  (place_CheckFence qg).bind fun vr3_1 =>
  (base_First ([vr3, vr3_1] : List Int)).bind fun vr =>
  cond (!decide (vr = 0))
    (some (false, vr))
    ((place_touch qf.Corners qg.Corners).bind fun vr1 =>
    some (vr1, 0))

/-! ### beaconfleet/place.Hull$1 -/
noncomputable def place_Hull_1 (qs : api_Spot) : Option (Bool) :=
  (place_isSpot qs).bind fun vr2 =>
  some (!vr2)

/-! ### slices.IndexFunc[[]beaconfleet/api.Spot,beaconfleet/api.Spot] -/
noncomputable def slices_IndexFunc_api_Spot_api_Spot_f1_place_Hull_1_x1 (qs : List api_Spot) (vx : Int) : Option ((Int) ⊕ (Unit ⊕ Int)) :=
  cond (decide (vx < (qs.length : Int)))
    ((at? qs vx).bind fun vy1 =>
    (place_Hull_1 vy1).bind fun vr1 =>
    cond (vr1)
      (some (.inr (.inr vx)))
      (some (.inl (IntKind.wrap .i64 (vx + 1)))))
    (some (.inr (.inl ())))

noncomputable def slices_IndexFunc_api_Spot_api_Spot_f1_place_Hull_1 (qs : List api_Spot) : Option (Int) :=
  (loopO (slices_IndexFunc_api_Spot_api_Spot_f1_place_Hull_1_x1 qs) 0).bind fun x => match x with
    | .inl _ =>
      some (-1)
    | .inr vx1_1 =>
      some vx1_1

/-! ### slices.ContainsFunc[[]beaconfleet/api.Spot,beaconfleet/api.Spot] -/
noncomputable def slices_ContainsFunc_api_Spot_api_Spot_f1_place_Hull_1 (qs : List api_Spot) : Option (Bool) :=
  (slices_IndexFunc_api_Spot_api_Spot_f1_place_Hull_1 qs).bind fun vr2 =>
  some (decide (0 ≤ vr2))

/-! ### math/bits.Len64 -/
noncomputable def bits_Len64_x1 (qx : Int) : Option ((Int × Int)) :=
  cond (decide (4294967296 ≤ qx))
    (some (ishr .u64 qx 32, 32))
    (some (qx, 0))

noncomputable def bits_Len64_x2 (vx1 : Int) (vn1 : Int) : Option ((Int × Int)) :=
  cond (decide (65536 ≤ vx1))
    (some (ishr .u64 vx1 16, IntKind.wrap .i64 (vn1 + 16)))
    (some (vx1, vn1))

noncomputable def bits_Len64_x3 (vx2_1 : Int) (vn2_1 : Int) : Option ((Int × Int)) :=
  cond (decide (256 ≤ vx2_1))
    (some (ishr .u64 vx2_1 8, IntKind.wrap .i64 (vn2_1 + 8)))
    (some (vx2_1, vn2_1))

noncomputable def bits_Len64 (qx : Int) : Option (Int) :=
  (bits_Len64_x1 qx).bind fun (vx1, vn1) =>
  (bits_Len64_x2 vx1 vn1).bind fun (vx2_1, vn2_1) =>
  (bits_Len64_x3 vx2_1 vn2_1).bind fun (vx3_1, vn3_1) =>
  (at? ([0, 1, 2, 2, 3, 3, 3, 3, 4, 4, 4, 4, 4, 4, 4, 4, 5, 5, 5, 5, 5, 5, 5, 5, 5, 5, 5, 5, 5, 5, 5, 5, 6, 6, 6, 6, 6, 6, 6, 6, 6, 6, 6, 6, 6, 6, 6, 6, 6, 6, 6, 6, 6, 6, 6, 6, 6, 6, 6, 6, 6, 6, 6, 6, 7, 7, 7, 7, 7, 7, 7, 7, 7, 7, 7, 7, 7, 7, 7, 7, 7, 7, 7, 7, 7, 7, 7, 7, 7, 7, 7, 7, 7, 7, 7, 7, 7, 7, 7, 7, 7, 7, 7, 7, 7, 7, 7, 7, 7, 7, 7, 7, 7, 7, 7, 7, 7, 7, 7, 7, 7, 7, 7, 7, 7, 7, 7, 7, 8, 8, 8, 8, 8, 8, 8, 8, 8, 8, 8, 8, 8, 8, 8, 8, 8, 8, 8, 8, 8, 8, 8, 8, 8, 8, 8, 8, 8, 8, 8, 8, 8, 8, 8, 8, 8, 8, 8, 8, 8, 8, 8, 8, 8, 8, 8, 8, 8, 8, 8, 8, 8, 8, 8, 8, 8, 8, 8, 8, 8, 8, 8, 8, 8, 8, 8, 8, 8, 8, 8, 8, 8, 8, 8, 8, 8, 8, 8, 8, 8, 8, 8, 8, 8, 8, 8, 8, 8, 8, 8, 8, 8, 8, 8, 8, 8, 8, 8, 8, 8, 8, 8, 8, 8, 8, 8, 8, 8, 8, 8, 8, 8, 8, 8, 8, 8, 8, 8, 8, 8, 8, 8, 8, 8, 8, 8, 8] : List UInt8) (IntKind.wrap .u8 (vx3_1))).bind fun vc =>
  some (IntKind.wrap .i64 (vn3_1 + (IntKind.wrap .i64 ((vc.toNat : Int)))))

/-! ### math/bits.Len -/
noncomputable def bits_Len (qx : Int) : Option (Int) :=
  (bits_Len64 qx).bind fun vr =>
  some vr

/-! ### cmp.Or[int] -/
noncomputable def cmp_Or_int_x1 (qvals : List Int) (vx : Int) : Option ((Int) ⊕ (Unit ⊕ Int)) :=
  cond (decide (vx < (qvals.length : Int)))
    ((at? qvals vx).bind fun vy1 =>
    cond (!decide (vy1 = 0))
      (some (.inr (.inr vy1)))
      (some (.inl (IntKind.wrap .i64 (vx + 1)))))
    (some (.inr (.inl ())))

noncomputable def cmp_Or_int (qvals : List Int) : Option (Int) :=
  (loopO (cmp_Or_int_x1 qvals) 0).bind fun x => match x with
    | .inl _ =>
      some 0
    | .inr vx1_1 =>
      some vx1_1

/-! ### beaconfleet/place.bySpot -/
noncomputable def place_bySpot (qa : api_Spot) (qb : api_Spot) : Option (Int) :=
  (cmp_Compare_int qa.X qb.X).bind fun vr =>
  (cmp_Compare_int qa.Y qb.Y).bind fun vr1 =>
  (cmp_Or_int ([vr, vr1] : List Int)).bind fun vr2 =>
  some vr2

/-! ### slices.insertionSortCmpFunc[beaconfleet/api.Spot] -/
noncomputable def slices_insertionSortCmpFunc_api_Spot_o0_f3_place_bySpot_x3 (qa : Int) (vl3 : List api_Spot) (vj1 : Int) : Option (Bool) :=
  cond (decide (qa < vj1))
    ((at? vl3 vj1).bind fun vy15 =>
    (at? vl3 (IntKind.wrap .i64 (vj1 - 1))).bind fun vy16 =>
    (place_bySpot vy15 vy16).bind fun vr3_3 =>
    some (decide (vr3_3 < 0)))
    (some false)

noncomputable def slices_insertionSortCmpFunc_api_Spot_o0_f3_place_bySpot_x2 (qa : Int) : (List api_Spot) × Int → Option (((List api_Spot) × Int) ⊕ ((List api_Spot)))
  | (vl3, vj1) =>
  (slices_insertionSortCmpFunc_api_Spot_o0_f3_place_bySpot_x3 qa vl3 vj1).bind fun vx4_1 =>
  cond (vx4_1)
    ((at? vl3 (IntKind.wrap .i64 (vj1 - 1))).bind fun vy17 =>
    (at? vl3 vj1).bind fun vy18 =>
    (at? (vl3.set vj1.toNat vy17) (IntKind.wrap .i64 (vj1 - 1))).bind fun vy19 =>
    some (.inl ((vl3.set vj1.toNat vy17).set (IntKind.wrap .i64 (vj1 - 1)).toNat vy18, IntKind.wrap .i64 (vj1 - 1))))
    (some (.inr vl3))

noncomputable def slices_insertionSortCmpFunc_api_Spot_o0_f3_place_bySpot_x1 (qa : Int) (qb : Int) : (List api_Spot) × Int → Option (((List api_Spot) × Int) ⊕ ((List api_Spot)))
  | (vl, vi) =>
  cond (decide (vi < qb))
    ((loopO (slices_insertionSortCmpFunc_api_Spot_o0_f3_place_bySpot_x2 qa) (vl, vi)).bind fun vl4_1 =>
    some (.inl (vl4_1, IntKind.wrap .i64 (vi + 1))))
    (some (.inr vl))

noncomputable def slices_insertionSortCmpFunc_api_Spot_o0_f3_place_bySpot (qdata : List api_Spot) (qa : Int) (qb : Int) : Option ((List api_Spot)) :=
  (loopO (slices_insertionSortCmpFunc_api_Spot_o0_f3_place_bySpot_x1 qa qb) (qdata, IntKind.wrap .i64 (qa + 1))).bind fun vl5_1 =>
  some vl5_1

/-! ### slices.pdqsortCmpFunc[beaconfleet/api.Spot] -/
noncomputable def slices_pdqsortCmpFunc_api_Spot_o0_f4_place_bySpot_x1 (qx : List api_Spot) (qx1 : Int) (qx2 : Int) (qx3 : Int) : Unit → Option ((Unit) ⊕ ((List api_Spot)))
  | _ =>
  cond (decide ((IntKind.wrap .i64 (qx2 - qx1)) ≤ 12))
    ((slices_insertionSortCmpFunc_api_Spot_o0_f3_place_bySpot qx qx1 qx2).bind fun vl6_1 =>
    gd (vl6_1.length == qx.length) <|
    some (.inr vl6_1))
    (cond (decide (qx3 = 0))
      (none)
      (none))

noncomputable def slices_pdqsortCmpFunc_api_Spot_o0_f4_place_bySpot (qx : List api_Spot) (qx1 : Int) (qx2 : Int) (qx3 : Int) : Option ((List api_Spot)) :=
  (loopO (slices_pdqsortCmpFunc_api_Spot_o0_f4_place_bySpot_x1 qx qx1 qx2 qx3) ()).bind fun vl1 =>
  some vl1

/-! ### slices.SortFunc[[]beaconfleet/api.Spot,beaconfleet/api.Spot] -/
noncomputable def slices_SortFunc_api_Spot_api_Spot_o0_f1_place_bySpot (qx : List api_Spot) : Option ((List api_Spot)) :=
  (bits_Len (IntKind.wrap .u64 ((qx.length : Int)))).bind fun vr1 =>
  (slices_pdqsortCmpFunc_api_Spot_o0_f4_place_bySpot qx 0 (qx.length : Int) vr1).bind fun vl2 =>
  gd (vl2.length == qx.length) <|
  some vl2

/-! ### slices.Compact[[]beaconfleet/api.Spot,beaconfleet/api.Spot] -/
noncomputable def slices_Compact_api_Spot_api_Spot_o0_x3 (qs : List api_Spot) (vk : Int) (vl4 : List api_Spot) (vk6 : Int) (vk2_1 : Int) : Option (((List api_Spot) × Int)) :=
  gd (decide (0 ≤ vk) && decide (0 ≤ vk2_1) && decide (vk2_1 < (qs.length : Int) - vk)) <|
  (at? vl4 (vk + vk2_1)).bind fun vy13 =>
  gd (decide (0 ≤ vk) && decide (0 ≤ (IntKind.wrap .i64 (vk2_1 - 1))) && decide ((IntKind.wrap .i64 (vk2_1 - 1)) < (qs.length : Int) - vk)) <|
  (at? vl4 (vk + (IntKind.wrap .i64 (vk2_1 - 1)))).bind fun vy14 =>
  cond (!(decide (vy13.X = vy14.X) && (decide (vy13.Y = vy14.Y) && true)))
    ((at? vl4 vk6).bind fun vy15 =>
    some (vl4.set vk6.toNat vy13, IntKind.wrap .i64 (vk6 + 1)))
    (some (vl4, vk6))

noncomputable def slices_Compact_api_Spot_api_Spot_o0_x2 (qs : List api_Spot) (vk : Int) : (List api_Spot) × Int × Int → Option (((List api_Spot) × Int × Int) ⊕ (((List api_Spot) × Int)))
  | (vl4, vk6, vk2_1) =>
  cond (decide (vk2_1 < (((qs.length : Int).toNat - vk.toNat : Nat) : Int)))
    ((slices_Compact_api_Spot_api_Spot_o0_x3 qs vk vl4 vk6 vk2_1).bind fun (vl6_1, vk8_1) =>
    some (.inl (vl6_1, vk8_1, IntKind.wrap .i64 (vk2_1 + 1))))
    (some (.inr (vl4, vk6)))

noncomputable def slices_Compact_api_Spot_api_Spot_o0_x1 (qs : List api_Spot) (vk : Int) : Option ((Int) ⊕ (Unit ⊕ (List api_Spot))) :=
  cond (decide (vk < (qs.length : Int)))
    ((at? qs vk).bind fun vy8 =>
    (at? qs (IntKind.wrap .i64 (vk - 1))).bind fun vy9 =>
    cond ((decide (vy8.X = vy9.X) && (decide (vy8.Y = vy9.Y) && true)))
      (gd (decide (0 ≤ vk) && decide (vk ≤ (qs.length : Int)) && decide ((qs.length : Int) ≤ (qs.length : Int))) <|
      (loopO (slices_Compact_api_Spot_api_Spot_o0_x2 qs vk) (qs, vk, 1)).bind fun (vl7_1, vk9_1) =>
      gd (decide (0 ≤ vk9_1) && decide (vk9_1 ≤ (vl7_1.length : Int)) && decide ((vl7_1.length : Int) ≤ (vl7_1.length : Int))) <|
      gd (decide (0 ≤ vk9_1) && decide (vk9_1 ≤ ((vl7_1.take vk9_1.toNat ++ (List.replicate ((vl7_1.length : Int).toNat - vk9_1.toNat) (api_Spot.mk 0 0) ++ vl7_1.drop (vk9_1.toNat + ((vl7_1.length : Int).toNat - vk9_1.toNat)))).length : Int))) <|
      some (.inr (.inr ((vl7_1.take vk9_1.toNat ++ (List.replicate ((vl7_1.length : Int).toNat - vk9_1.toNat) (api_Spot.mk 0 0) ++ vl7_1.drop (vk9_1.toNat + ((vl7_1.length : Int).toNat - vk9_1.toNat)))).take vk9_1.toNat))))
      (some (.inl (IntKind.wrap .i64 (vk + 1)))))
    (some (.inr (.inl ())))

noncomputable def slices_Compact_api_Spot_api_Spot_o0 (qs : List api_Spot) : Option ((List api_Spot)) :=
  cond (decide ((qs.length : Int) < 2))
    (some qs)
    ((loopO (slices_Compact_api_Spot_api_Spot_o0_x1 qs) 1).bind fun x => match x with
      | .inl _ =>
        some qs
      | .inr vx1 =>
        some vx1)

/-! ### beaconfleet/place.half -/
noncomputable def place_half_o0_x3 (vy5 : api_Spot) (vout3 : List api_Spot) (vn1 : Int) : Option (Bool) :=
  cond (decide (1 < vn1))
    ((at? vout3 (IntKind.wrap .i64 (vn1 - 2))).bind fun vy8 =>
    (at? vout3 (IntKind.wrap .i64 (vn1 - 1))).bind fun vy9 =>
    (place_side vy8 vy9 vy5).bind fun _ =>
    some (decide ((IntKind.wrap .i64 ((IntKind.wrap .i64 ((IntKind.wrap .i64 (vy9.X - vy8.X)) * (IntKind.wrap .i64 (vy5.Y - vy8.Y)))) - (IntKind.wrap .i64 ((IntKind.wrap .i64 (vy9.Y - vy8.Y)) * (IntKind.wrap .i64 (vy5.X - vy8.X)))))) ≤ 0)))
    (some false)

noncomputable def place_half_o0_x2 (vy5 : api_Spot) : (List api_Spot) × Int → Option (((List api_Spot) × Int) ⊕ ((List api_Spot)))
  | (vout3, vn1) =>
  (place_half_o0_x3 vy5 vout3 vn1).bind fun vx4_1 =>
  cond (vx4_1)
    (gd (decide (0 ≤ (IntKind.wrap .i64 (vn1 - 1))) && decide ((IntKind.wrap .i64 (vn1 - 1)) ≤ (vout3.length : Int))) <|
    some (.inl (vout3.take (IntKind.wrap .i64 (vn1 - 1)).toNat, IntKind.wrap .i64 (vn1 - 1))))
    (some (.inr vout3))

noncomputable def place_half_o0_x1 (ql : List api_Spot) : (List api_Spot) × Int → Option (((List api_Spot) × Int) ⊕ ((List api_Spot)))
  | (vout, vx) =>
  cond (decide (vx < (ql.length : Int)))
    ((at? ql vx).bind fun vy5 =>
    (loopO (place_half_o0_x2 vy5) (vout, (vout.length : Int))).bind fun vout4_1 =>
    gd (Nat.ble (vout4_1.length + ([vy5] : List api_Spot).length) LIM) <|
    some (.inl (vout4_1 ++ ([vy5] : List api_Spot), IntKind.wrap .i64 (vx + 1))))
    (some (.inr vout))

noncomputable def place_half_o0 (ql : List api_Spot) : Option ((List api_Spot)) :=
  (loopO (place_half_o0_x1 ql) ([], 0)).bind fun vout5_1 =>
  some vout5_1

/-! ### slices.Reverse[[]beaconfleet/api.Spot,beaconfleet/api.Spot] -/
noncomputable def slices_Reverse_api_Spot_api_Spot_o0_x1 : (List api_Spot) × Int × Int → Option (((List api_Spot) × Int × Int) ⊕ ((List api_Spot)))
  | (vl, vi, vj) =>
  cond (decide (vi < vj))
    ((at? vl vj).bind fun vy3 =>
    (at? vl vi).bind fun vy4 =>
    (at? (vl.set vi.toNat vy3) vj).bind fun vy5 =>
    some (.inl ((vl.set vi.toNat vy3).set vj.toNat vy4, IntKind.wrap .i64 (vi + 1), IntKind.wrap .i64 (vj - 1))))
    (some (.inr vl))

noncomputable def slices_Reverse_api_Spot_api_Spot_o0 (qs : List api_Spot) : Option ((List api_Spot)) :=
  (loopO slices_Reverse_api_Spot_api_Spot_o0_x1 (qs, 0, IntKind.wrap .i64 ((qs.length : Int) - 1))).bind fun vl1_1 =>
  some vl1_1

/-! ### slices.Grow[[]beaconfleet/api.Spot,beaconfleet/api.Spot] -/
noncomputable def slices_Grow_api_Spot_api_Spot_n0_x1 (qn : Int) : Option ((List api_Spot)) :=
  cond (decide (0 < (IntKind.wrap .i64 (qn - (IntKind.wrap .i64 ((0 : Int) - 0))))))
    (gd (decide (0 ≤ (IntKind.wrap .i64 (qn - (IntKind.wrap .i64 ((0 : Int) - 0))))) && decide ((IntKind.wrap .i64 (qn - (IntKind.wrap .i64 ((0 : Int) - 0)))) ≤ 137438953472)) <|
    gd (decide (0 ≤ (0 : Int)) && decide ((0 : Int) ≤ ((List.replicate (IntKind.wrap .i64 (qn - (IntKind.wrap .i64 ((0 : Int) - 0)))).toNat (api_Spot.mk 0 0)).length : Int))) <|
    some ((List.replicate (IntKind.wrap .i64 (qn - (IntKind.wrap .i64 ((0 : Int) - 0)))).toNat (api_Spot.mk 0 0)).take (0 : Int).toNat))
    (some [])

noncomputable def slices_Grow_api_Spot_api_Spot_n0 (qn : Int) : Option ((List api_Spot)) :=
  cond (decide (qn < 0))
    (none)
    ((slices_Grow_api_Spot_api_Spot_n0_x1 qn).bind fun vs1 =>
    some vs1)

/-! ### slices.Concat[[]beaconfleet/api.Spot,beaconfleet/api.Spot] -/
noncomputable def slices_Concat_api_Spot_api_Spot_o0_x1 (qslices : List (List api_Spot)) : Int × Int → Option ((Int × Int) ⊕ (Int))
  | (vsize, vx) =>
  cond (decide (vx < (qslices.length : Int)))
    ((at? qslices vx).bind fun vy1 =>
    cond (decide ((IntKind.wrap .i64 (vsize + (vy1.length : Int))) < 0))
      (none)
      (some (.inl (IntKind.wrap .i64 (vsize + (vy1.length : Int)), IntKind.wrap .i64 (vx + 1)))))
    (some (.inr vsize))

noncomputable def slices_Concat_api_Spot_api_Spot_o0_x2 (qslices : List (List api_Spot)) : (List api_Spot) × Int → Option (((List api_Spot) × Int) ⊕ ((List api_Spot)))
  | (vnewslice, vx1) =>
  cond (decide (vx1 < (qslices.length : Int)))
    ((at? qslices vx1).bind fun vy3 =>
    gd (Nat.ble (vnewslice.length + vy3.length) LIM) <|
    some (.inl (vnewslice ++ vy3, IntKind.wrap .i64 (vx1 + 1))))
    (some (.inr vnewslice))

noncomputable def slices_Concat_api_Spot_api_Spot_o0 (qslices : List (List api_Spot)) : Option ((List api_Spot)) :=
  (loopO (slices_Concat_api_Spot_api_Spot_o0_x1 qslices) (0, 0)).bind fun vsize1_1 =>
  (slices_Grow_api_Spot_api_Spot_n0 vsize1_1).bind fun vr =>
  (loopO (slices_Concat_api_Spot_api_Spot_o0_x2 qslices) (vr, 0)).bind fun vnewslice1_1 =>
  some vnewslice1_1

/-! ### beaconfleet/place.Hull -/
noncomputable def place_Hull (ql : List api_Spot) : Option ((List api_Spot) × Int) :=
  cond (decide (2000 < (ql.length : Int)))
    (some ([], 2))
    ((slices_ContainsFunc_api_Spot_api_Spot_f1_place_Hull_1 ql).bind fun vr =>
    cond (vr)
      (some ([], 1))
      ((slices_Clone_api_Spot_api_Spot ql).bind fun vr1 =>
      (slices_SortFunc_api_Spot_api_Spot_o0_f1_place_bySpot vr1).bind fun vl =>
      gd (vl.length == vr1.length) <|
      (slices_Compact_api_Spot_api_Spot_o0 vl).bind fun vr2 =>
      cond (decide ((vr2.length : Int) < 2))
        (some (vr2, 0))
        ((place_half_o0 vr2).bind fun vr3 =>
        gd (vr2.length == vr2.length) <|
        (slices_Reverse_api_Spot_api_Spot_o0 vr2).bind fun vl2 =>
        gd (vl2.length == vr2.length) <|
        (place_half_o0 vl2).bind fun vr4 =>
        gd (vl2.length == vl2.length) <|
        (sub? vr4 1 (IntKind.wrap .i64 ((vr4.length : Int) - 1))).bind fun vl1 =>
        (slices_Concat_api_Spot_api_Spot_o0 ([vr3, vl1] : List (List api_Spot))).bind fun vr1_1 =>
        some (vr1_1, 0))))

/-! ### internal/stringslite.IndexByte -/
noncomputable def stringslite_IndexByte (qs : List UInt8) (qc : Int) : Option (Unit) :=
  some ()

/-! ### strings.IndexByte -/
noncomputable def strings_IndexByte (qs : List UInt8) (qc : Int) : Option (Unit) :=
  (stringslite_IndexByte qs qc).bind fun _ =>
  some ()

/-! ### beaconfleet/fleetref2.only -/
noncomputable def fleetref2_only_x1 (qs : List UInt8) (qsome : List UInt8) (vx : Int) : Option ((Int) ⊕ (Unit ⊕ Unit)) :=
  cond (decide (vx < (qs.length : Int)))
    ((at? qs vx).bind fun vc1 =>
    (strings_IndexByte qsome (vc1.toNat : Int)).bind fun _ =>
    cond (decide ((Lib.indexByte qsome (vc1.toNat : Int).toNat.toUInt8) < 0))
      (some (.inr (.inr ())))
      (some (.inl (IntKind.wrap .i64 (vx + 1)))))
    (some (.inr (.inl ())))

noncomputable def fleetref2_only (qs : List UInt8) (qsome : List UInt8) : Option (Bool) :=
  (loopO (fleetref2_only_x1 qs qsome) 0).bind fun x => match x with
    | .inl _ =>
      some true
    | .inr _ =>
      some false

/-! ### beaconfleet/fleetref2.Key -/
noncomputable def fleetref2_Key_x1 (qs : List UInt8) : Option (Bool) :=
  (fleetref2_in (qs.length : Int) 1 40).bind fun vr =>
  cond (vr)
    ((sub? qs 0 1).bind fun vs =>
    (fleetref2_only vs ([97, 98, 99, 100, 101, 102, 103, 104, 105, 106, 107, 108, 109, 110, 111, 112, 113, 114, 115, 116, 117, 118, 119, 120, 121, 122] : List UInt8)).bind fun vr1 =>
    cond (vr1)
      ((fleetref2_only qs ([97, 98, 99, 100, 101, 102, 103, 104, 105, 106, 107, 108, 109, 110, 111, 112, 113, 114, 115, 116, 117, 118, 119, 120, 121, 122, 48, 49, 50, 51, 52, 53, 54, 55, 56, 57, 45, 95] : List UInt8)).bind fun vr2 =>
      some vr2)
      (some false))
    (some false)

noncomputable def fleetref2_Key (qs : List UInt8) : Option (Bool) :=
  (fleetref2_Key_x1 qs).bind fun vx1 =>
  some vx1

/-! ### beaconfleet/fleetref2.FenceFault -/
noncomputable def fleetref2_FenceFault (qf : api_Fence) : Option (Int) :=
  (fleetref2_Key qf.Key).bind fun vr3 =>
  cond (!vr3)
    (some 5)
    ((fleetref2_CornersFault qf.Corners).bind fun vr16 =>
    some vr16)

/-! ### beaconfleet/fleetlaw2.errs -/
noncomputable def fleetlaw2_errs_x1 (ql : List Int) (vx : Int) : Option ((Int) ⊕ (Unit ⊕ Int)) :=
  cond (decide (vx < (ql.length : Int)))
    ((at? ql vx).bind fun vy1 =>
    cond (!decide (vy1 = 0))
      (some (.inr (.inr vy1)))
      (some (.inl (IntKind.wrap .i64 (vx + 1)))))
    (some (.inr (.inl ())))

noncomputable def fleetlaw2_errs (ql : List Int) : Option (Int) :=
  (loopO (fleetlaw2_errs_x1 ql) 0).bind fun x => match x with
    | .inl _ =>
      some 0
    | .inr vx1_1 =>
      some vx1_1

/-! ### beaconfleet/fleetref2.spotOrder -/
noncomputable def fleetref2_spotOrder (qa : api_Spot) (qb : api_Spot) : Option (Int) :=
  cond (!decide (qa.X = qb.X))
    ((fleetref2_sign (IntKind.wrap .i64 (qa.X - qb.X))).bind fun vr =>
    some vr)
    ((fleetref2_sign (IntKind.wrap .i64 (qa.Y - qb.Y))).bind fun vr1 =>
    some vr1)

/-! ### slices.insertionSortCmpFunc[beaconfleet/api.Spot] -/
noncomputable def slices_insertionSortCmpFunc_api_Spot_o0_f3_fleetref2_spotOrder_x3 (qa : Int) (vl3 : List api_Spot) (vj1 : Int) : Option (Bool) :=
  cond (decide (qa < vj1))
    ((at? vl3 vj1).bind fun vy15 =>
    (at? vl3 (IntKind.wrap .i64 (vj1 - 1))).bind fun vy16 =>
    (fleetref2_spotOrder vy15 vy16).bind fun vr2_3 =>
    some (decide (vr2_3 < 0)))
    (some false)

noncomputable def slices_insertionSortCmpFunc_api_Spot_o0_f3_fleetref2_spotOrder_x2 (qa : Int) : (List api_Spot) × Int → Option (((List api_Spot) × Int) ⊕ ((List api_Spot)))
  | (vl3, vj1) =>
  (slices_insertionSortCmpFunc_api_Spot_o0_f3_fleetref2_spotOrder_x3 qa vl3 vj1).bind fun vx4_1 =>
  cond (vx4_1)
    ((at? vl3 (IntKind.wrap .i64 (vj1 - 1))).bind fun vy17 =>
    (at? vl3 vj1).bind fun vy18 =>
    (at? (vl3.set vj1.toNat vy17) (IntKind.wrap .i64 (vj1 - 1))).bind fun vy19 =>
    some (.inl ((vl3.set vj1.toNat vy17).set (IntKind.wrap .i64 (vj1 - 1)).toNat vy18, IntKind.wrap .i64 (vj1 - 1))))
    (some (.inr vl3))

noncomputable def slices_insertionSortCmpFunc_api_Spot_o0_f3_fleetref2_spotOrder_x1 (qa : Int) (qb : Int) : (List api_Spot) × Int → Option (((List api_Spot) × Int) ⊕ ((List api_Spot)))
  | (vl, vi) =>
  cond (decide (vi < qb))
    ((loopO (slices_insertionSortCmpFunc_api_Spot_o0_f3_fleetref2_spotOrder_x2 qa) (vl, vi)).bind fun vl4_1 =>
    some (.inl (vl4_1, IntKind.wrap .i64 (vi + 1))))
    (some (.inr vl))

noncomputable def slices_insertionSortCmpFunc_api_Spot_o0_f3_fleetref2_spotOrder (qdata : List api_Spot) (qa : Int) (qb : Int) : Option ((List api_Spot)) :=
  (loopO (slices_insertionSortCmpFunc_api_Spot_o0_f3_fleetref2_spotOrder_x1 qa qb) (qdata, IntKind.wrap .i64 (qa + 1))).bind fun vl5_1 =>
  some vl5_1

/-! ### slices.pdqsortCmpFunc[beaconfleet/api.Spot] -/
noncomputable def slices_pdqsortCmpFunc_api_Spot_o0_f4_fleetref2_spotOrder_x1 (qx : List api_Spot) (qx1 : Int) (qx2 : Int) (qx3 : Int) : Unit → Option ((Unit) ⊕ ((List api_Spot)))
  | _ =>
  cond (decide ((IntKind.wrap .i64 (qx2 - qx1)) ≤ 12))
    ((slices_insertionSortCmpFunc_api_Spot_o0_f3_fleetref2_spotOrder qx qx1 qx2).bind fun vl6_1 =>
    gd (vl6_1.length == qx.length) <|
    some (.inr vl6_1))
    (cond (decide (qx3 = 0))
      (none)
      (none))

noncomputable def slices_pdqsortCmpFunc_api_Spot_o0_f4_fleetref2_spotOrder (qx : List api_Spot) (qx1 : Int) (qx2 : Int) (qx3 : Int) : Option ((List api_Spot)) :=
  (loopO (slices_pdqsortCmpFunc_api_Spot_o0_f4_fleetref2_spotOrder_x1 qx qx1 qx2 qx3) ()).bind fun vl1 =>
  some vl1

/-! ### slices.SortFunc[[]beaconfleet/api.Spot,beaconfleet/api.Spot] -/
noncomputable def slices_SortFunc_api_Spot_api_Spot_o0_f1_fleetref2_spotOrder (qx : List api_Spot) : Option ((List api_Spot)) :=
  (bits_Len (IntKind.wrap .u64 ((qx.length : Int)))).bind fun vr1 =>
  (slices_pdqsortCmpFunc_api_Spot_o0_f4_fleetref2_spotOrder qx 0 (qx.length : Int) vr1).bind fun vl2 =>
  gd (vl2.length == qx.length) <|
  some vl2

/-! ### beaconfleet/fleetref2.HullOf$1 -/
noncomputable def fleetref2_HullOf_1 (qs : api_Spot) (qx : List api_Spot) : Option (Bool) :=
  (at? qx 0).bind fun vy =>
  (at? qx (IntKind.wrap .i64 ((qx.length : Int) - 1))).bind fun vy1 =>
  (fleetref2_side vy vy1 qs).bind fun vr1 =>
  some (!decide (vr1 = 0))

/-! ### slices.IndexFunc[[]beaconfleet/api.Spot,beaconfleet/api.Spot] -/
noncomputable def slices_IndexFunc_api_Spot_api_Spot_f1_fleetref2_HullOf_1_x1 (qs : List api_Spot) (vx : Int) : Option ((Int) ⊕ (Unit ⊕ Int)) :=
  cond (decide (vx < (qs.length : Int)))
    ((at? qs vx).bind fun vy1 =>
    (fleetref2_HullOf_1 vy1 qs).bind fun vr1 =>
    cond (vr1)
      (some (.inr (.inr vx)))
      (some (.inl (IntKind.wrap .i64 (vx + 1)))))
    (some (.inr (.inl ())))

noncomputable def slices_IndexFunc_api_Spot_api_Spot_f1_fleetref2_HullOf_1 (qs : List api_Spot) : Option (Int) :=
  (loopO (slices_IndexFunc_api_Spot_api_Spot_f1_fleetref2_HullOf_1_x1 qs) 0).bind fun x => match x with
    | .inl _ =>
      some (-1)
    | .inr vx1_1 =>
      some vx1_1

/-! ### slices.ContainsFunc[[]beaconfleet/api.Spot,beaconfleet/api.Spot] -/
noncomputable def slices_ContainsFunc_api_Spot_api_Spot_f1_fleetref2_HullOf_1 (qs : List api_Spot) : Option (Bool) :=
  (slices_IndexFunc_api_Spot_api_Spot_f1_fleetref2_HullOf_1 qs).bind fun vr2 =>
  some (decide (0 ≤ vr2))

/-! ### beaconfleet/fleetref2.dot -/
noncomputable def fleetref2_dot_2 (qa : api_Spot) : Option (Unit) :=
  some ()

/-! ### beaconfleet/fleetref2.HullOf -/
noncomputable def fleetref2_HullOf_x4 (vy7 : api_Spot) (vx8 : api_Spot) (vy9 : api_Spot) (vr1_4 : Int) : Option (Bool) :=
  cond ((decide (vx8.X = vy7.X) && (decide (vx8.Y = vy7.Y) && true)))
    (some true)
    (cond (decide (vr1_4 < 0))
      (some true)
      (cond (decide (vr1_4 = 0))
        ((fleetref2_minus vy9 vy7).bind fun _ =>
        (fleetref2_dot_2 (api_Spot.mk (IntKind.wrap .i64 (vy9.X - vy7.X)) (IntKind.wrap .i64 (vy9.Y - vy7.Y)))).bind fun _ =>
        (fleetref2_minus vx8 vy7).bind fun _ =>
        (fleetref2_dot_2 (api_Spot.mk (IntKind.wrap .i64 (vx8.X - vy7.X)) (IntKind.wrap .i64 (vx8.Y - vy7.Y)))).bind fun _ =>
        some (decide ((IntKind.wrap .i64 ((IntKind.wrap .i64 ((IntKind.wrap .i64 (vx8.X - vy7.X)) * (IntKind.wrap .i64 (vx8.X - vy7.X)))) + (IntKind.wrap .i64 ((IntKind.wrap .i64 (vx8.Y - vy7.Y)) * (IntKind.wrap .i64 (vx8.Y - vy7.Y)))))) < (IntKind.wrap .i64 ((IntKind.wrap .i64 ((IntKind.wrap .i64 (vy9.X - vy7.X)) * (IntKind.wrap .i64 (vy9.X - vy7.X)))) + (IntKind.wrap .i64 ((IntKind.wrap .i64 (vy9.Y - vy7.Y)) * (IntKind.wrap .i64 (vy9.Y - vy7.Y)))))))))
        (some false)))

noncomputable def fleetref2_HullOf_x3 (vr1 : List api_Spot) (vy7 : api_Spot) (vx8 : api_Spot) (vx9 : Int) : Option (api_Spot) :=
  (at? vr1 vx9).bind fun vy9 =>
  cond ((decide (vy9.X = vy7.X) && (decide (vy9.Y = vy7.Y) && true)))
    (some vx8)
    ((fleetref2_side vy7 vx8 vy9).bind fun vr1_4 =>
    (fleetref2_HullOf_x4 vy7 vx8 vy9 vr1_4).bind fun vx12_1 =>
    cond (vx12_1)
      (some vy9)
      (some vx8))

noncomputable def fleetref2_HullOf_x2 (vr1 : List api_Spot) (vy7 : api_Spot) : api_Spot × Int → Option ((api_Spot × Int) ⊕ (api_Spot))
  | (vx8, vx9) =>
  cond (decide (vx9 < (vr1.length : Int)))
    ((fleetref2_HullOf_x3 vr1 vy7 vx8 vx9).bind fun vx13_1 =>
    some (.inl (vx13_1, IntKind.wrap .i64 (vx9 + 1))))
    (some (.inr vx8))

noncomputable def fleetref2_HullOf_x1 (vr1 : List api_Spot) (vx : List api_Spot) : Option (((List api_Spot)) ⊕ ((List api_Spot))) :=
  (at? vx (IntKind.wrap .i64 ((vx.length : Int) - 1))).bind fun vy7 =>
  (loopO (fleetref2_HullOf_x2 vr1 vy7) (vy7, 0)).bind fun vx14_1 =>
  (at? vx 0).bind fun vy10 =>
  cond ((decide (vx14_1.X = vy10.X) && (decide (vx14_1.Y = vy10.Y) && true)))
    (some (.inr vx))
    (gd (Nat.ble (vx.length + ([vx14_1] : List api_Spot).length) LIM) <|
    some (.inl (vx ++ ([vx14_1] : List api_Spot))))

noncomputable def fleetref2_HullOf (qx : List api_Spot) : Option ((List api_Spot)) :=
  (slices_Clone_api_Spot_api_Spot qx).bind fun vr =>
  (slices_SortFunc_api_Spot_api_Spot_o0_f1_fleetref2_spotOrder vr).bind fun vl =>
  gd (vl.length == vr.length) <|
  (slices_Compact_api_Spot_api_Spot_o0 vl).bind fun vr1 =>
  cond (decide ((vr1.length : Int) < 3))
    (some vr1)
    ((slices_ContainsFunc_api_Spot_api_Spot_f1_fleetref2_HullOf_1 vr1).bind fun vr2 =>
    cond (!vr2)
      ((at? vr1 0).bind fun vy =>
      (at? vr1 (IntKind.wrap .i64 ((vr1.length : Int) - 1))).bind fun vy1 =>
      some ([vy, vy1] : List api_Spot))
      ((at? vr1 0).bind fun vy2 =>
      (loopO (fleetref2_HullOf_x1 vr1) ([vy2] : List api_Spot)).bind fun vx15_1 =>
      some vx15_1))

/-! ### beaconfleet/fleetref2.WhereOf -/
noncomputable def fleetref2_WhereOf_x3 (qx1 : api_Spot) (vr3 : api_Spot) (vr1_3 : api_Spot) : Option (Bool) :=
  cond (decide (vr3.Y ≤ qx1.Y))
    (cond (decide (qx1.Y < vr1_3.Y))
      ((fleetref2_side vr3 vr1_3 qx1).bind fun vr1_4 =>
      some (decide (0 < vr1_4)))
      (some false))
    (some false)

noncomputable def fleetref2_WhereOf_x4 (qx1 : api_Spot) (vr3 : api_Spot) (vr1_3 : api_Spot) : Option (Bool) :=
  cond (decide (qx1.Y < vr3.Y))
    (cond (decide (vr1_3.Y ≤ qx1.Y))
      ((fleetref2_side vr3 vr1_3 qx1).bind fun vr1_5 =>
      some (decide (vr1_5 < 0)))
      (some false))
    (some false)

noncomputable def fleetref2_WhereOf_x2 (qx : List api_Spot) (qx1 : api_Spot) (vx : Int) (vx1 : Int) : Option (Int ⊕ Unit) :=
  (fleetref2_edge qx vx1).bind fun (vr3, vr1_3) =>
  (fleetref2_onWay vr3 vr1_3 qx1).bind fun vr4 =>
  cond (vr4)
    (some (.inr ()))
    ((fleetref2_WhereOf_x3 qx1 vr3 vr1_3).bind fun vx5_1 =>
    cond (vx5_1)
      (some (.inl (IntKind.wrap .i64 (vx + 1))))
      ((fleetref2_WhereOf_x4 qx1 vr3 vr1_3).bind fun vx6_1 =>
      cond (vx6_1)
        (some (.inl (IntKind.wrap .i64 (vx - 1))))
        (some (.inl vx))))

noncomputable def fleetref2_WhereOf_x1 (qx : List api_Spot) (qx1 : api_Spot) : Int × Int → Option ((Int × Int) ⊕ (Int ⊕ Unit))
  | (vx, vx1) =>
  cond (decide (vx1 < (qx.length : Int)))
    ((fleetref2_WhereOf_x2 qx qx1 vx vx1).bind fun x => match x with
      | .inl vx7_1 =>
        some (.inl (vx7_1, IntKind.wrap .i64 (vx1 + 1)))
      | .inr _ =>
        some (.inr (.inr ())))
    (some (.inr (.inl vx)))

noncomputable def fleetref2_WhereOf (qx : List api_Spot) (qx1 : api_Spot) : Option (Int) :=
  (loopO (fleetref2_WhereOf_x1 qx qx1) (0, 0)).bind fun x => match x with
    | .inl vx8_1 =>
      cond (!decide (vx8_1 = 0))
        (some 2)
        (some 0)
    | .inr _ =>
      some 1

/-! ### beaconfleet/fleetref2.MeetOf -/
noncomputable def fleetref2_MeetOf_x2 (qg : List api_Spot) (vr5 : api_Spot) (vr1_3 : api_Spot) (vx2 : Int) : Option ((Int) ⊕ (Unit ⊕ Unit)) :=
  cond (decide (vx2 < (qg.length : Int)))
    ((fleetref2_edge qg vx2).bind fun (vr7, vr1_5) =>
    (fleetref2_touches vr5 vr1_3 vr7 vr1_5).bind fun vr4_3 =>
    cond (vr4_3)
      (some (.inr (.inr ())))
      (some (.inl (IntKind.wrap .i64 (vx2 + 1)))))
    (some (.inr (.inl ())))

noncomputable def fleetref2_MeetOf_x1 (qf : List api_Spot) (qg : List api_Spot) (vx : Int) : Option ((Int) ⊕ (Unit ⊕ Unit)) :=
  cond (decide (vx < (qf.length : Int)))
    ((fleetref2_edge qf vx).bind fun (vr5, vr1_3) =>
    (loopO (fleetref2_MeetOf_x2 qg vr5 vr1_3) 0).bind fun x => match x with
      | .inl _ =>
        some (.inl (IntKind.wrap .i64 (vx + 1)))
      | .inr _ =>
        some (.inr (.inr ())))
    (some (.inr (.inl ())))

noncomputable def fleetref2_MeetOf_x3 (qf : List api_Spot) (qg : List api_Spot) : Option (Bool) :=
  (at? qg 0).bind fun vy =>
  (fleetref2_WhereOf qf vy).bind fun vr5_1 =>
  cond (!decide (vr5_1 = 0))
    (some true)
    ((at? qf 0).bind fun vy1 =>
    (fleetref2_WhereOf qg vy1).bind fun vr5_2 =>
    some (!decide (vr5_2 = 0)))

noncomputable def fleetref2_MeetOf (qf : List api_Spot) (qg : List api_Spot) : Option (Bool) :=
  (loopO (fleetref2_MeetOf_x1 qf qg) 0).bind fun x => match x with
    | .inl _ =>
      (fleetref2_MeetOf_x3 qf qg).bind fun vx3_1 =>
      some vx3_1
    | .inr _ =>
      some true

/-! ### slices.Equal[[]beaconfleet/api.Spot,beaconfleet/api.Spot] -/
noncomputable def slices_Equal_api_Spot_api_Spot_x1 (qs1 : List api_Spot) (qs2 : List api_Spot) (vx : Int) : Option ((Int) ⊕ (Unit ⊕ Unit)) :=
  cond (decide (vx < (qs1.length : Int)))
    ((at? qs1 vx).bind fun vy2 =>
    (at? qs2 vx).bind fun vy3 =>
    cond (!(decide (vy2.X = vy3.X) && (decide (vy2.Y = vy3.Y) && true)))
      (some (.inr (.inr ())))
      (some (.inl (IntKind.wrap .i64 (vx + 1)))))
    (some (.inr (.inl ())))

noncomputable def slices_Equal_api_Spot_api_Spot (qs1 : List api_Spot) (qs2 : List api_Spot) : Option (Bool) :=
  cond (!decide ((qs1.length : Int) = (qs2.length : Int)))
    (some false)
    ((loopO (slices_Equal_api_Spot_api_Spot_x1 qs1 qs2) 0).bind fun x => match x with
      | .inl _ =>
        some true
      | .inr _ =>
        some false)

/-! ### beaconfleet/place.Cell -/
noncomputable def place_Cell_x1 (qs : api_Spot) (qlevel : Int) : Option (Bool) :=
  (place_isSpot qs).bind fun vr2 =>
  cond (!vr2)
    (some true)
    ((base_Out qlevel 0 15).bind fun vr =>
    some vr)

noncomputable def place_Cell_x2 (qs : api_Spot) (qlevel : Int) : (List Int) × Int × Int → Option (((List Int) × Int × Int) ⊕ ((List Int)))
  | (vout, vlong, vx2) =>
  cond (decide (vx2 < qlevel))
    (gd (!((IntKind.wrap .i64 (vlong.tdiv 2)) == 0)) <|
    gd (Nat.ble (vout.length + ([IntKind.wrap .u8 ((IntKind.wrap .u8 ((48 : Int) + (IntKind.wrap .u8 ((IntKind.wrap .i64 ((IntKind.wrap .i64 (qs.X - (-16384))).tdiv (IntKind.wrap .i64 (vlong.tdiv 2)))).tmod 2)))) + (IntKind.wrap .u8 ((2 : Int) * (IntKind.wrap .u8 ((IntKind.wrap .i64 ((IntKind.wrap .i64 (qs.Y - (-16384))).tdiv (IntKind.wrap .i64 (vlong.tdiv 2)))).tmod 2)))))] : List Int).length) LIM) <|
    some (.inl (vout ++ ([IntKind.wrap .u8 ((IntKind.wrap .u8 ((48 : Int) + (IntKind.wrap .u8 ((IntKind.wrap .i64 ((IntKind.wrap .i64 (qs.X - (-16384))).tdiv (IntKind.wrap .i64 (vlong.tdiv 2)))).tmod 2)))) + (IntKind.wrap .u8 ((2 : Int) * (IntKind.wrap .u8 ((IntKind.wrap .i64 ((IntKind.wrap .i64 (qs.Y - (-16384))).tdiv (IntKind.wrap .i64 (vlong.tdiv 2)))).tmod 2)))))] : List Int), IntKind.wrap .i64 (vlong.tdiv 2), IntKind.wrap .i64 (vx2 + 1))))
    (some (.inr vout))

noncomputable def place_Cell (qs : api_Spot) (qlevel : Int) : Option ((List UInt8) × Int) :=
  (place_Cell_x1 qs qlevel).bind fun vx1 =>
  cond (vx1)
    (some (([] : List UInt8), 1))
    ((loopO (place_Cell_x2 qs qlevel) ([], 32768, 0)).bind fun vout1_1 =>
    some (vout1_1.map fun n => UInt8.ofNat n.toNat, 0))

/-! ### beaconfleet/fleetlaw2.placed -/
noncomputable def fleetlaw2_placed_x1 (vr1 : List UInt8) (vr3 : Int) : Option (Bool) :=
  cond (decide (vr3 = 0))
    (some (decide (vr1 = ([51] : List UInt8))))
    (some false)

noncomputable def fleetlaw2_placed : Option (Bool) :=
  (place_Cell (api_Spot.mk 0 0) 1).bind fun (vr1, vr3) =>
  (fleetlaw2_placed_x1 vr1 vr3).bind fun vx1 =>
  some vx1

/-! ### beaconfleet/fleetlaw2.FencesMeet -/
noncomputable def fleetlaw2_FencesMeet_x1 (vr : Int) (vr1 : Int) (vr2 : List api_Spot) : (List api_Spot) × Int → Option (((List api_Spot) × Int) ⊕ ((List api_Spot)))
  | (vx, vx1) =>
  cond (decide (vx1 < (vr2.length : Int)))
    ((at? vx vx1).bind fun vy2 =>
    (at? (vx.set vx1.toNat (api_Spot.mk (IntKind.wrap .i64 (vy2.X + vr)) vy2.Y)) vx1).bind fun vy3 =>
    some (.inl ((vx.set vx1.toNat (api_Spot.mk (IntKind.wrap .i64 (vy2.X + vr)) vy2.Y)).set vx1.toNat (api_Spot.mk vy3.X (IntKind.wrap .i64 (vy3.Y + vr1))), IntKind.wrap .i64 (vx1 + 1))))
    (some (.inr vx))

noncomputable def fleetlaw2_FencesMeet_x2 (vr3 : Int) : fleetmake_Stream × (List api_Spot) × Int → Option ((fleetmake_Stream × (List api_Spot) × Int) ⊕ ((List api_Spot)))
  | (vx3, vx4, vx5) =>
  cond (decide (vx5 < vr3))
    ((fleetmake_Stream_Spot vx3).bind fun (vs3_1, vr1_2) =>
    gd (Nat.ble (vx4.length + ([vr1_2] : List api_Spot).length) LIM) <|
    some (.inl (vs3_1, vx4 ++ ([vr1_2] : List api_Spot), IntKind.wrap .i64 (vx5 + 1))))
    (some (.inr vx4))

noncomputable def fleetlaw2_FencesMeet_x3 (vx6_1 : List api_Spot) : Int × Int → Option ((Int × Int) ⊕ (Int))
  | (vx7, vx8) =>
  cond (decide (vx8 < (vx6_1.length : Int)))
    ((at? vx6_1 vx8).bind fun vy5 =>
    (fleetref2_SpotFault vy5).bind fun vr2_3 =>
    (fleetlaw2_errs ([vx7, vr2_3] : List Int)).bind fun vr11 =>
    some (.inl (vr11, IntKind.wrap .i64 (vx8 + 1))))
    (some (.inr vx7))

noncomputable def fleetlaw2_FencesMeet_x4 (vx6_1 : List api_Spot) (vx9_1 : Int) : Option ((List api_Spot)) :=
  cond (decide (vx9_1 = 0))
    ((fleetref2_HullOf vx6_1).bind fun vr3_1 =>
    some vr3_1)
    (some [])

noncomputable def fleetlaw2_FencesMeet_x5 (vr4 : api_Fence) (vx2_1 : List api_Spot) (vr2_1 : Bool) (vr4_2 : Int) (vr5 : List api_Spot) (vr6 : Int) (vr9 : Int) (vx9_1 : Int) (vx10_1 : List api_Spot) : Option (Bool) :=
  cond (decide (vr4_2 = vr9))
    (cond (decide (vr9 = 0))
      ((fleetref2_MeetOf vr4.Corners vx2_1).bind fun vr8_1 =>
      cond (vr2_1 == vr8_1)
        (cond (decide (vr6 = vx9_1))
          ((slices_Equal_api_Spot_api_Spot vr5 vx10_1).bind fun vr12 =>
          cond (vr12)
            ((fleetlaw2_placed).bind fun vr13 =>
            some vr13)
            (some false))
          (some false))
        (some false))
      (cond (vr2_1 == false)
        (cond (decide (vr6 = vx9_1))
          ((slices_Equal_api_Spot_api_Spot vr5 vx10_1).bind fun vr14 =>
          cond (vr14)
            ((fleetlaw2_placed).bind fun vr15 =>
            some vr15)
            (some false))
          (some false))
        (some false)))
    (some false)

noncomputable def fleetlaw2_FencesMeet (qx : List Int) : Option (Bool) :=
  (fleetmake_Stream_Fence (fleetmake_Stream.mk qx 0)).bind fun (vs2, vr4) =>
  (fleetmake_Stream_Fence vs2).bind fun (vs2_1, vr4_1) =>
  (fleetmake_Stream_Pick_o1 vs2_1 ([0, 0, 5, 10, 11, (-3), 40] : List Int)).bind fun vr =>
  (fleetmake_Stream_Pick_o1 (fleetmake_Stream.mk vs2_1.L (IntKind.wrap .i64 (vs2_1.at_ + 1))) ([0, 0, 5, 10, 11] : List Int)).bind fun vr1 =>
  (slices_Clone_api_Spot_api_Spot vr4_1.Corners).bind fun vr2 =>
  (loopO (fleetlaw2_FencesMeet_x1 vr vr1 vr2) (vr2, 0)).bind fun vx2_1 =>
  (fleetmake_Stream_Range (fleetmake_Stream.mk vs2_1.L (IntKind.wrap .i64 ((IntKind.wrap .i64 (vs2_1.at_ + 1)) + 1))) 0 8).bind fun (vs, vr3) =>
  (loopO (fleetlaw2_FencesMeet_x2 vr3) (vs, [], 0)).bind fun vx6_1 =>
  (place_Meet vr4 (api_Fence.mk vr4_1.Key vx2_1)).bind fun (vr2_1, vr4_2) =>
  (place_Hull vx6_1).bind fun (vr5, vr6) =>
  (fleetref2_FenceFault vr4).bind fun vr7 =>
  (fleetref2_FenceFault (api_Fence.mk vr4_1.Key vx2_1)).bind fun vr8 =>
  (fleetlaw2_errs ([vr7, vr8] : List Int)).bind fun vr9 =>
  (loopO (fleetlaw2_FencesMeet_x3 vx6_1) (0, 0)).bind fun vx9_1 =>
  (fleetlaw2_FencesMeet_x4 vx6_1 vx9_1).bind fun vx10_1 =>
  (fleetlaw2_FencesMeet_x5 vr4 vx2_1 vr2_1 vr4_2 vr5 vr6 vr9 vx9_1 vx10_1).bind fun vx11_1 =>
  some vx11_1

end Go.Eng
