/-
The Go functions that the law TracksVisit reaches, as plain functions.
-/
import Derived.Test.YtddkiphgahpfdaaEngV

namespace Go.Eng

open Go

set_option linter.unusedVariables false

structure fleetmake_Stream where
  L : List Int
  at_ : Int

def fleetmake_Stream.enc (x : fleetmake_Stream) : List D := [.lst (List.map (encI .i64) x.L), .int .i64 x.at_]

structure api_Spot where
  X : Int
  Y : Int

def api_Spot.enc (x : api_Spot) : List D := [.int .i64 x.X, .int .i64 x.Y]

structure api_Fence where
  Key : List UInt8
  Corners : List api_Spot

def api_Fence.enc (x : api_Fence) : List D := [.str x.Key, .lst (List.map api_Spot.enc x.Corners)]

structure api_Fraction where
  Num : Int
  Den : Int

def api_Fraction.enc (x : api_Fraction) : List D := [.int .i64 x.Num, .int .i64 x.Den]

structure api_Fix where
  Device : List UInt8
  At : Int
  X : Int
  Y : Int
  Error : Int

def api_Fix.enc (x : api_Fix) : List D := [.str x.Device, .int .i64 x.At, .int .i64 x.X, .int .i64 x.Y, .int .i64 x.Error]

structure api_Visit where
  From : Int
  To : Int

def api_Visit.enc (x : api_Visit) : List D := [.int .i64 x.From, .int .i64 x.To]

structure api_Stay where
  From : Int
  To : Int
  Spot : api_Spot

def api_Stay.enc (x : api_Stay) : List D := [.int .i64 x.From, .int .i64 x.To, .int .i64 x.Spot.X, .int .i64 x.Spot.Y]

/-! ### beaconfleet/fleetmake.Below -/
noncomputable def fleetmake_Below_x1 (qx : Int) (qn : Int) : Option (Int) :=
  cond (decide ((qx.tmod qn) < 0))
    (some (IntKind.wrap .i64 ((qx.tmod qn) + qn)))
    (some (qx.tmod qn))

noncomputable def fleetmake_Below (qx : Int) (qn : Int) : Option (Int) :=
  cond (decide (qn < 1))
    (some 0)
    (gd (!(qn == 0)) <|
    (fleetmake_Below_x1 qx qn).bind fun vx1 =>
    some vx1)

/-! ### (*beaconfleet/fleetmake.Stream).Next -/
noncomputable def fleetmake_Stream_Next (qs : fleetmake_Stream) (qn : Int) : Option (Int) :=
  cond (decide ((qs.L.length : Int) = 0))
    ((fleetmake_Below (IntKind.wrap .i64 ((IntKind.wrap .i64 (qs.at_ + 1)) * 7919)) qn).bind fun vr =>
    some vr)
    (gd (!((qs.L.length : Int) == 0)) <|
    (at? qs.L ((IntKind.wrap .i64 ((IntKind.wrap .i64 (qs.at_ + 1)) - 1)).tmod (qs.L.length : Int))).bind fun vy =>
    (fleetmake_Below vy 1073741824).bind fun vr1 =>
    (fleetmake_Below (IntKind.wrap .i64 (vr1 + (IntKind.wrap .i64 ((IntKind.wrap .i64 ((IntKind.wrap .i64 ((IntKind.wrap .i64 (qs.at_ + 1)) - 1)).tdiv (qs.L.length : Int))) * (IntKind.wrap .i64 ((7919 : Int) + ((IntKind.wrap .i64 ((IntKind.wrap .i64 (qs.at_ + 1)) - 1)).tmod (qs.L.length : Int)))))))) qn).bind fun vr2 =>
    some vr2)

/-! ### (*beaconfleet/fleetmake.Stream).Range -/
noncomputable def fleetmake_Stream_Range (qs : fleetmake_Stream) (qlow : Int) (qhigh : Int) : Option (fleetmake_Stream × Int) :=
  cond (decide (qhigh < qlow))
    (some (qs, qlow))
    ((fleetmake_Stream_Next qs (IntKind.wrap .i64 ((IntKind.wrap .i64 (qhigh - qlow)) + 1))).bind fun vr3 =>
    some (fleetmake_Stream.mk qs.L (IntKind.wrap .i64 (qs.at_ + 1)), IntKind.wrap .i64 (qlow + vr3)))

/-! ### (*beaconfleet/fleetmake.Stream).Pick -/
noncomputable def fleetmake_Stream_Pick_o1 (qs : fleetmake_Stream) (ql : List Int) : Option (Int) :=
  (fleetmake_Stream_Next qs (ql.length : Int)).bind fun vr3 =>
  (at? ql vr3).bind fun vy =>
  some vy

/-! ### (*beaconfleet/fleetmake.Stream).Place -/
noncomputable def fleetmake_Stream_Place (qs : fleetmake_Stream) : Option (api_Spot) :=
  (fleetmake_Stream_Pick_o1 qs ([0, 1, 2, 3, 4, 5, 6, 8, 10, (-1), (-5), 20] : List Int)).bind fun vr =>
  (fleetmake_Stream_Pick_o1 (fleetmake_Stream.mk qs.L (IntKind.wrap .i64 (qs.at_ + 1))) ([0, 1, 2, 3, 4, 5, 6, 8, 10, (-1), (-5), 20] : List Int)).bind fun vr1 =>
  some (api_Spot.mk vr vr1)

/-! ### (*beaconfleet/fleetmake.Stream).Flip -/
noncomputable def fleetmake_Stream_Flip (qs : fleetmake_Stream) (qn : Int) : Option (Bool) :=
  (fleetmake_Stream_Next qs qn).bind fun vr3 =>
  some (decide (vr3 = 0))

/-! ### beaconfleet/fleetref2.in -/
noncomputable def fleetref2_in_x1 (qn : Int) (qlow : Int) (qhigh : Int) : Option (Bool) :=
  cond (decide (qlow ≤ qn))
    (some (decide (qn ≤ qhigh)))
    (some false)

noncomputable def fleetref2_in (qn : Int) (qlow : Int) (qhigh : Int) : Option (Bool) :=
  (fleetref2_in_x1 qn qlow qhigh).bind fun vx1 =>
  some vx1

/-! ### beaconfleet/fleetref2.SpotFault -/
noncomputable def fleetref2_SpotFault_x1 (qs : api_Spot) : Option (Bool) :=
  (fleetref2_in qs.X (-10000) 10000).bind fun vr =>
  cond (!vr)
    (some true)
    ((fleetref2_in qs.Y (-10000) 10000).bind fun vr1 =>
    some (!vr1))

noncomputable def fleetref2_SpotFault (qs : api_Spot) : Option (Int) :=
  (fleetref2_SpotFault_x1 qs).bind fun vx1 =>
  cond (vx1)
    (some 1)
    (some 0)

/-! ### slices.Index[[]beaconfleet/api.Spot,beaconfleet/api.Spot] -/
noncomputable def slices_Index_api_Spot_api_Spot_x1 (qs : List api_Spot) (qv : api_Spot) (vx : Int) : Option ((Int) ⊕ (Unit ⊕ Int)) :=
  cond (decide (vx < (qs.length : Int)))
    ((at? qs vx).bind fun vy1 =>
    cond ((decide (qv.X = vy1.X) && (decide (qv.Y = vy1.Y) && true)))
      (some (.inr (.inr vx)))
      (some (.inl (IntKind.wrap .i64 (vx + 1)))))
    (some (.inr (.inl ())))

noncomputable def slices_Index_api_Spot_api_Spot (qs : List api_Spot) (qv : api_Spot) : Option (Int) :=
  (loopO (slices_Index_api_Spot_api_Spot_x1 qs qv) 0).bind fun x => match x with
    | .inl _ =>
      some (-1)
    | .inr vx1_1 =>
      some vx1_1

/-! ### slices.Contains[[]beaconfleet/api.Spot,beaconfleet/api.Spot] -/
noncomputable def slices_Contains_api_Spot_api_Spot (qs : List api_Spot) (qv : api_Spot) : Option (Bool) :=
  (slices_Index_api_Spot_api_Spot qs qv).bind fun vr =>
  some (decide (0 ≤ vr))

/-! ### beaconfleet/fleetref2.edge -/
noncomputable def fleetref2_edge (ql : List api_Spot) (qi : Int) : Option (api_Spot × api_Spot) :=
  (at? ql qi).bind fun vy =>
  gd (!((ql.length : Int) == 0)) <|
  (at? ql ((IntKind.wrap .i64 (qi + 1)).tmod (ql.length : Int))).bind fun vy1 =>
  some (vy, vy1)

/-! ### beaconfleet/fleetref2.minus -/
noncomputable def fleetref2_minus (qa : api_Spot) (qb : api_Spot) : Option (Unit) :=
  some ()

/-! ### beaconfleet/fleetref2.cross -/
noncomputable def fleetref2_cross (qa : api_Spot) (qb : api_Spot) : Option (Unit) :=
  some ()

/-! ### beaconfleet/fleetref2.sign -/
noncomputable def fleetref2_sign (qn : Int) : Option (Int) :=
  cond (decide (qn < 0))
    (some (-1))
    (cond (decide (0 < qn))
      (some 1)
      (some 0))

/-! ### beaconfleet/fleetref2.side -/
noncomputable def fleetref2_side (qa : api_Spot) (qb : api_Spot) (qs : api_Spot) : Option (Int) :=
  (fleetref2_minus qb qa).bind fun _ =>
  (fleetref2_minus qs qa).bind fun _ =>
  (fleetref2_cross (api_Spot.mk (IntKind.wrap .i64 (qb.X - qa.X)) (IntKind.wrap .i64 (qb.Y - qa.Y))) (api_Spot.mk (IntKind.wrap .i64 (qs.X - qa.X)) (IntKind.wrap .i64 (qs.Y - qa.Y)))).bind fun _ =>
  (fleetref2_sign (IntKind.wrap .i64 ((IntKind.wrap .i64 ((IntKind.wrap .i64 (qb.X - qa.X)) * (IntKind.wrap .i64 (qs.Y - qa.Y)))) - (IntKind.wrap .i64 ((IntKind.wrap .i64 (qb.Y - qa.Y)) * (IntKind.wrap .i64 (qs.X - qa.X))))))).bind fun vr =>
  some vr

/-! ### beaconfleet/fleetref2.dot -/
noncomputable def fleetref2_dot (qa : api_Spot) (qb : api_Spot) : Option (Unit) :=
  some ()

/-! ### beaconfleet/fleetref2.onWay -/
noncomputable def fleetref2_onWay_x1 (qa : api_Spot) (qb : api_Spot) (qs : api_Spot) : Option (Bool) :=
  (fleetref2_side qa qb qs).bind fun vr1 =>
  cond (decide (vr1 = 0))
    ((fleetref2_minus qa qs).bind fun _ =>
    (fleetref2_minus qb qs).bind fun _ =>
    (fleetref2_dot (api_Spot.mk (IntKind.wrap .i64 (qa.X - qs.X)) (IntKind.wrap .i64 (qa.Y - qs.Y))) (api_Spot.mk (IntKind.wrap .i64 (qb.X - qs.X)) (IntKind.wrap .i64 (qb.Y - qs.Y)))).bind fun _ =>
    some (decide ((IntKind.wrap .i64 ((IntKind.wrap .i64 ((IntKind.wrap .i64 (qa.X - qs.X)) * (IntKind.wrap .i64 (qb.X - qs.X)))) + (IntKind.wrap .i64 ((IntKind.wrap .i64 (qa.Y - qs.Y)) * (IntKind.wrap .i64 (qb.Y - qs.Y)))))) ≤ 0)))
    (some false)

noncomputable def fleetref2_onWay (qa : api_Spot) (qb : api_Spot) (qs : api_Spot) : Option (Bool) :=
  (fleetref2_onWay_x1 qa qb qs).bind fun vx1 =>
  some vx1

/-! ### beaconfleet/fleetref2.touches -/
noncomputable def fleetref2_touches_x1 (qa : api_Spot) (qb : api_Spot) (qc : api_Spot) (qd : api_Spot) : Option (Bool) :=
  (fleetref2_onWay qa qb qc).bind fun vr =>
  cond (vr)
    (some true)
    ((fleetref2_onWay qa qb qd).bind fun vr1 =>
    cond (vr1)
      (some true)
      ((fleetref2_onWay qc qd qa).bind fun vr2 =>
      cond (vr2)
        (some true)
        ((fleetref2_onWay qc qd qb).bind fun vr3 =>
        some vr3)))

noncomputable def fleetref2_touches_x2 (qa : api_Spot) (qb : api_Spot) (qc : api_Spot) (qd : api_Spot) : Option (Bool) :=
  (fleetref2_side qa qb qc).bind fun vr1_1 =>
  (fleetref2_side qa qb qd).bind fun vr1_2 =>
  cond (decide ((IntKind.wrap .i64 (vr1_1 * vr1_2)) < 0))
    ((fleetref2_side qc qd qa).bind fun vr1_3 =>
    (fleetref2_side qc qd qb).bind fun vr1_4 =>
    some (decide ((IntKind.wrap .i64 (vr1_3 * vr1_4)) < 0)))
    (some false)

noncomputable def fleetref2_touches (qa : api_Spot) (qb : api_Spot) (qc : api_Spot) (qd : api_Spot) : Option (Bool) :=
  (fleetref2_touches_x1 qa qb qc qd).bind fun vx1 =>
  cond (vx1)
    (some true)
    ((fleetref2_touches_x2 qa qb qc qd).bind fun vx2_1 =>
    some vx2_1)

/-! ### beaconfleet/fleetref2.CornersFault -/
noncomputable def fleetref2_CornersFault_x1 (qx : List api_Spot) (vx : Int) : Option ((Int) ⊕ (Unit ⊕ Int)) :=
  cond (decide (vx < (qx.length : Int)))
    ((at? qx vx).bind fun vy1 =>
    (fleetref2_SpotFault vy1).bind fun vr2_1 =>
    cond (!decide (vr2_1 = 0))
      (some (.inr (.inr vr2_1)))
      ((sub? qx 0 vx).bind fun vl1 =>
      (slices_Contains_api_Spot_api_Spot vl1 vy1).bind fun vr1_1 =>
      cond (vr1_1)
        (some (.inr (.inr 6)))
        (some (.inl (IntKind.wrap .i64 (vx + 1))))))
    (some (.inr (.inl ())))

noncomputable def fleetref2_CornersFault_x5 (vr9 : api_Spot) (vr1_5 : api_Spot) (vr13 : api_Spot) (vr1_7 : api_Spot) : Option (Bool) :=
  (fleetref2_onWay vr9 vr1_5 vr1_7).bind fun vr14 =>
  cond (vr14)
    (some true)
    ((fleetref2_onWay vr13 vr1_7 vr9).bind fun vr15 =>
    some vr15)

noncomputable def fleetref2_CornersFault_x4 (qx : List api_Spot) (vx2 : Int) (vr9 : api_Spot) (vr1_5 : api_Spot) (vx6 : Int) : Option (Unit ⊕ Unit) :=
  (fleetref2_edge qx vx6).bind fun (vr13, vr1_7) =>
  cond (decide (vx6 = vx2))
    (some (.inl ()))
    (cond ((decide (vr1_5.X = vr13.X) && (decide (vr1_5.Y = vr13.Y) && true)))
      ((fleetref2_CornersFault_x5 vr9 vr1_5 vr13 vr1_7).bind fun vx8_1 =>
      cond (vx8_1)
        (some (.inr ()))
        (some (.inl ())))
      (cond ((decide (vr1_7.X = vr9.X) && (decide (vr1_7.Y = vr9.Y) && true)))
        (some (.inl ()))
        ((fleetref2_touches vr9 vr1_5 vr13 vr1_7).bind fun vr4_4 =>
        cond (vr4_4)
          (some (.inr ()))
          (some (.inl ())))))

noncomputable def fleetref2_CornersFault_x3 (qx : List api_Spot) (vx2 : Int) (vr9 : api_Spot) (vr1_5 : api_Spot) (vx6 : Int) : Option ((Int) ⊕ (Unit ⊕ Unit)) :=
  cond (decide (vx6 < (qx.length : Int)))
    ((fleetref2_CornersFault_x4 qx vx2 vr9 vr1_5 vx6).bind fun x => match x with
      | .inl _ =>
        some (.inl (IntKind.wrap .i64 (vx6 + 1)))
      | .inr _ =>
        some (.inr (.inr ())))
    (some (.inr (.inl ())))

noncomputable def fleetref2_CornersFault_x2 (qx : List api_Spot) (vx2 : Int) : Option ((Int) ⊕ (Unit ⊕ Unit)) :=
  cond (decide (vx2 < (qx.length : Int)))
    ((fleetref2_edge qx vx2).bind fun (vr9, vr1_5) =>
    (loopO (fleetref2_CornersFault_x3 qx vx2 vr9 vr1_5) 0).bind fun x => match x with
      | .inl _ =>
        some (.inl (IntKind.wrap .i64 (vx2 + 1)))
      | .inr _ =>
        some (.inr (.inr ())))
    (some (.inr (.inl ())))

noncomputable def fleetref2_CornersFault (qx : List api_Spot) : Option (Int) :=
  cond (decide ((qx.length : Int) < 3))
    (some 3)
    (cond (decide (200 < (qx.length : Int)))
      (some 2)
      ((loopO (fleetref2_CornersFault_x1 qx) 0).bind fun x => match x with
        | .inl _ =>
          (loopO (fleetref2_CornersFault_x2 qx) 0).bind fun x => match x with
            | .inl _ =>
              some 0
            | .inr _ =>
              some 13
        | .inr vx1_1 =>
          some vx1_1))

/-! ### (*beaconfleet/fleetmake.Stream).RightFence -/
noncomputable def fleetmake_Stream_RightFence_x2 (vr5 : Int) : fleetmake_Stream × (List api_Spot) × Int → Option ((fleetmake_Stream × (List api_Spot) × Int) ⊕ ((fleetmake_Stream × (List api_Spot))))
  | (vs8, vx8, vx9) =>
  cond (decide (vx9 < vr5))
    ((fleetmake_Stream_Place vs8).bind fun vr2_3 =>
    gd (Nat.ble (vx8.length + ([vr2_3] : List api_Spot).length) LIM) <|
    some (.inl (fleetmake_Stream.mk vs8.L (IntKind.wrap .i64 ((IntKind.wrap .i64 (vs8.at_ + 1)) + 1)), vx8 ++ ([vr2_3] : List api_Spot), IntKind.wrap .i64 (vx9 + 1))))
    (some (.inr (vs8, vx8)))

noncomputable def fleetmake_Stream_RightFence_x4 (vx10_1 : List api_Spot) : fleetmake_Stream × (List api_Spot) × Int → Option ((fleetmake_Stream × (List api_Spot) × Int) ⊕ ((fleetmake_Stream × (List api_Spot))))
  | (vs10, vx11, vx12) =>
  cond (decide (vx12 < (vx10_1.length : Int)))
    ((at? vx11 vx12).bind fun vy3 =>
    (fleetmake_Stream_Pick_o1 vs10 ([1, 100, (-400)] : List Int)).bind fun vr8 =>
    some (.inl (fleetmake_Stream.mk vs10.L (IntKind.wrap .i64 (vs10.at_ + 1)), vx11.set vx12.toNat (api_Spot.mk (IntKind.wrap .i64 (vy3.X * vr8)) vy3.Y), IntKind.wrap .i64 (vx12 + 1))))
    (some (.inr (vs10, vx11)))

noncomputable def fleetmake_Stream_RightFence_x3 (vs9_1 : fleetmake_Stream) (vx10_1 : List api_Spot) : Option ((fleetmake_Stream × (List api_Spot))) :=
  (fleetmake_Stream_Flip vs9_1 6).bind fun vr6 =>
  cond (vr6)
    ((loopO (fleetmake_Stream_RightFence_x4 vx10_1) (fleetmake_Stream.mk vs9_1.L (IntKind.wrap .i64 (vs9_1.at_ + 1)), vx10_1, 0)).bind fun (vs11_1, vx13_1) =>
    some (vs11_1, vx13_1))
    (some (fleetmake_Stream.mk vs9_1.L (IntKind.wrap .i64 (vs9_1.at_ + 1)), vx10_1))

noncomputable def fleetmake_Stream_RightFence_x1 : fleetmake_Stream × Int → Option ((fleetmake_Stream × Int) ⊕ (fleetmake_Stream ⊕ (fleetmake_Stream × (List api_Spot))))
  | (vs, vx) =>
  cond (decide (vx < 4))
    ((fleetmake_Stream_Range vs 3 6).bind fun (vs7, vr5) =>
    (loopO (fleetmake_Stream_RightFence_x2 vr5) (vs7, [], 0)).bind fun (vs9_1, vx10_1) =>
    (fleetmake_Stream_RightFence_x3 vs9_1 vx10_1).bind fun (vs12_1, vx14_1) =>
    (fleetref2_CornersFault vx14_1).bind fun vr16_1 =>
    cond (decide (vr16_1 = 0))
      (some (.inr (.inr (vs12_1, vx14_1))))
      (some (.inl (vs12_1, IntKind.wrap .i64 (vx + 1)))))
    (some (.inr (.inl vs)))

noncomputable def fleetmake_Stream_RightFence_x5 (vs13_1 : fleetmake_Stream) : Option ((List api_Spot)) :=
  (fleetmake_Stream_Next vs13_1 4).bind fun vr3_1 =>
  cond (decide (vr3_1 = 0))
    (some ([api_Spot.mk 0 0, api_Spot.mk 10 0, api_Spot.mk 10 10, api_Spot.mk 5 3, api_Spot.mk 0 10] : List api_Spot))
    (cond (decide (vr3_1 = 1))
      (some ([api_Spot.mk 0 10, api_Spot.mk 10 10, api_Spot.mk 10 0, api_Spot.mk 0 0] : List api_Spot))
      (cond (decide (vr3_1 = 2))
        (some ([api_Spot.mk 0 0, api_Spot.mk 8 0, api_Spot.mk 8 2, api_Spot.mk 2 2, api_Spot.mk 2 6, api_Spot.mk 8 6, api_Spot.mk 8 8, api_Spot.mk 0 8] : List api_Spot))
        (some ([api_Spot.mk 0 0, api_Spot.mk 10 0, api_Spot.mk 10 10, api_Spot.mk 0 10] : List api_Spot))))

noncomputable def fleetmake_Stream_RightFence (qx : fleetmake_Stream) : Option (fleetmake_Stream × (List api_Spot)) :=
  (loopO fleetmake_Stream_RightFence_x1 (qx, 0)).bind fun x => match x with
    | .inl vs13_1 =>
      (fleetmake_Stream_RightFence_x5 vs13_1).bind fun vx16_1 =>
      some (fleetmake_Stream.mk vs13_1.L (IntKind.wrap .i64 (vs13_1.at_ + 1)), vx16_1)
    | .inr (vs14_1, vx15_1) =>
      some (vs14_1, vx15_1)

/-! ### (*beaconfleet/fleetmake.Stream).Some -/
noncomputable def fleetmake_Stream_Some_o1 (qs : fleetmake_Stream) (ql : List (List UInt8)) : Option ((List UInt8)) :=
  (fleetmake_Stream_Next qs (ql.length : Int)).bind fun vr3 =>
  (at? ql vr3).bind fun vy =>
  some vy

/-! ### slices.Clone[[]beaconfleet/api.Spot,beaconfleet/api.Spot] -/
noncomputable def slices_Clone_api_Spot_api_Spot (qs : List api_Spot) : Option (List api_Spot) :=
  gd (Nat.ble (([] : List api_Spot).length + qs.length) LIM) (some qs)

/-! ### (*beaconfleet/fleetmake.Stream).Odd -/
noncomputable def fleetmake_Stream_Odd (qs : fleetmake_Stream) (qlow : Int) (qhigh : Int) : Option (fleetmake_Stream × Int) :=
  (fleetmake_Stream_Flip qs 12).bind fun vr =>
  cond (vr)
    ((fleetmake_Stream_Pick_o1 (fleetmake_Stream.mk qs.L (IntKind.wrap .i64 (qs.at_ + 1))) ([IntKind.wrap .i64 (qlow - 1), IntKind.wrap .i64 (qhigh + 1), qlow, qhigh, (-1099511627776), 1099511627776] : List Int)).bind fun vr1 =>
    some (fleetmake_Stream.mk qs.L (IntKind.wrap .i64 ((IntKind.wrap .i64 (qs.at_ + 1)) + 1)), vr1))
    ((fleetmake_Stream_Range (fleetmake_Stream.mk qs.L (IntKind.wrap .i64 (qs.at_ + 1))) qlow qhigh).bind fun (vs, vr2) =>
    some (vs, vr2))

/-! ### (*beaconfleet/fleetmake.Stream).Spot -/
noncomputable def fleetmake_Stream_Spot_x1 (qs : fleetmake_Stream) (vr2 : api_Spot) : Option ((fleetmake_Stream × api_Spot)) :=
  (fleetmake_Stream_Flip (fleetmake_Stream.mk qs.L (IntKind.wrap .i64 ((IntKind.wrap .i64 (qs.at_ + 1)) + 1))) 15).bind fun vr =>
  cond (vr)
    ((fleetmake_Stream_Odd (fleetmake_Stream.mk qs.L (IntKind.wrap .i64 ((IntKind.wrap .i64 ((IntKind.wrap .i64 (qs.at_ + 1)) + 1)) + 1))) (-10000) 10000).bind fun (vs1, vr3) =>
    some (vs1, api_Spot.mk vr3 vr2.Y))
    (some (fleetmake_Stream.mk qs.L (IntKind.wrap .i64 ((IntKind.wrap .i64 ((IntKind.wrap .i64 (qs.at_ + 1)) + 1)) + 1)), vr2))

noncomputable def fleetmake_Stream_Spot (qs : fleetmake_Stream) : Option (fleetmake_Stream × api_Spot) :=
  (fleetmake_Stream_Place qs).bind fun vr2 =>
  (fleetmake_Stream_Spot_x1 qs vr2).bind fun (vs2, vp1) =>
  some (vs2, vp1)

/-! ### (*beaconfleet/fleetmake.Stream).Fence -/
noncomputable def fleetmake_Stream_Fence_x1 (vs15 : fleetmake_Stream) (vr9 : List api_Spot) : Option ((fleetmake_Stream × (List UInt8) × (List api_Spot))) :=
  (fleetmake_Stream_Flip vs15 8).bind fun vr =>
  cond (vr)
    ((fleetmake_Stream_Next (fleetmake_Stream.mk vs15.L (IntKind.wrap .i64 (vs15.at_ + 1))) 4).bind fun vr3 =>
    cond (decide (vr3 = 0))
      ((fleetmake_Stream_Some_o1 (fleetmake_Stream.mk vs15.L (IntKind.wrap .i64 ((IntKind.wrap .i64 (vs15.at_ + 1)) + 1))) ([([] : List UInt8), ([65] : List UInt8)] : List (List UInt8))).bind fun vr1 =>
      some (fleetmake_Stream.mk vs15.L (IntKind.wrap .i64 ((IntKind.wrap .i64 ((IntKind.wrap .i64 (vs15.at_ + 1)) + 1)) + 1)), vr1, vr9))
      (cond (decide (vr3 = 1))
        ((fleetmake_Stream_Next (fleetmake_Stream.mk vs15.L (IntKind.wrap .i64 ((IntKind.wrap .i64 (vs15.at_ + 1)) + 1))) 3).bind fun vr3_1 =>
        (sub? vr9 0 vr3_1).bind fun vl =>
        some (fleetmake_Stream.mk vs15.L (IntKind.wrap .i64 ((IntKind.wrap .i64 ((IntKind.wrap .i64 (vs15.at_ + 1)) + 1)) + 1)), ([102] : List UInt8), vl))
        (cond (decide (vr3 = 2))
          ((slices_Clone_api_Spot_api_Spot vr9).bind fun vr2 =>
          (fleetmake_Stream_Spot (fleetmake_Stream.mk vs15.L (IntKind.wrap .i64 ((IntKind.wrap .i64 (vs15.at_ + 1)) + 1)))).bind fun (vs3, vr1_1) =>
          gd (Nat.ble (vr2.length + ([vr1_1] : List api_Spot).length) LIM) <|
          some (vs3, ([102] : List UInt8), vr2 ++ ([vr1_1] : List api_Spot)))
          ((fleetmake_Stream_Place (fleetmake_Stream.mk vs15.L (IntKind.wrap .i64 ((IntKind.wrap .i64 (vs15.at_ + 1)) + 1)))).bind fun vr2_1 =>
          (fleetmake_Stream_Place (fleetmake_Stream.mk vs15.L (IntKind.wrap .i64 ((IntKind.wrap .i64 ((IntKind.wrap .i64 ((IntKind.wrap .i64 (vs15.at_ + 1)) + 1)) + 1)) + 1)))).bind fun vr2_2 =>
          (fleetmake_Stream_Place (fleetmake_Stream.mk vs15.L (IntKind.wrap .i64 ((IntKind.wrap .i64 ((IntKind.wrap .i64 ((IntKind.wrap .i64 ((IntKind.wrap .i64 ((IntKind.wrap .i64 (vs15.at_ + 1)) + 1)) + 1)) + 1)) + 1)) + 1)))).bind fun vr2_3 =>
          (fleetmake_Stream_Place (fleetmake_Stream.mk vs15.L (IntKind.wrap .i64 ((IntKind.wrap .i64 ((IntKind.wrap .i64 ((IntKind.wrap .i64 ((IntKind.wrap .i64 ((IntKind.wrap .i64 ((IntKind.wrap .i64 ((IntKind.wrap .i64 (vs15.at_ + 1)) + 1)) + 1)) + 1)) + 1)) + 1)) + 1)) + 1)))).bind fun vr2_4 =>
          some (fleetmake_Stream.mk vs15.L (IntKind.wrap .i64 ((IntKind.wrap .i64 ((IntKind.wrap .i64 ((IntKind.wrap .i64 ((IntKind.wrap .i64 ((IntKind.wrap .i64 ((IntKind.wrap .i64 ((IntKind.wrap .i64 ((IntKind.wrap .i64 ((IntKind.wrap .i64 (vs15.at_ + 1)) + 1)) + 1)) + 1)) + 1)) + 1)) + 1)) + 1)) + 1)) + 1)), ([102] : List UInt8), ([vr2_1, vr2_2, vr2_3, vr2_4] : List api_Spot))))))
    (some (fleetmake_Stream.mk vs15.L (IntKind.wrap .i64 (vs15.at_ + 1)), ([102] : List UInt8), vr9))

noncomputable def fleetmake_Stream_Fence (qs : fleetmake_Stream) : Option (fleetmake_Stream × api_Fence) :=
  (fleetmake_Stream_RightFence qs).bind fun (vs15, vr9) =>
  (fleetmake_Stream_Fence_x1 vs15 vr9).bind fun (vs1, vf2, vf1_1) =>
  some (vs1, api_Fence.mk vf2 vf1_1)

/-! ### beaconfleet/base.Key -/
noncomputable def base_Key_x1 (qs : List UInt8) : Option (Bool) :=
  cond (decide (qs = ([] : List UInt8)))
    (some true)
    (cond (decide (40 < (qs.length : Int)))
      (some true)
      ((at? qs 0).bind fun vc =>
      cond (decide ((vc.toNat : Int) < 97))
        (some true)
        (some (decide (122 < (vc.toNat : Int))))))

noncomputable def base_Key_x3 (vc2 : UInt8) : Option (Bool) :=
  cond (decide (97 ≤ (vc2.toNat : Int)))
    (cond (decide ((vc2.toNat : Int) ≤ 122))
      (some false)
      (cond (decide (48 ≤ (vc2.toNat : Int)))
        (cond (decide ((vc2.toNat : Int) ≤ 57))
          (some false)
          (cond (decide ((vc2.toNat : Int) = 45))
            (some false)
            (some (!(decide ((vc2.toNat : Int) = 95))))))
        (cond (decide ((vc2.toNat : Int) = 45))
          (some false)
          (some (!(decide ((vc2.toNat : Int) = 95)))))))
    (cond (decide (48 ≤ (vc2.toNat : Int)))
      (cond (decide ((vc2.toNat : Int) ≤ 57))
        (some false)
        (cond (decide ((vc2.toNat : Int) = 45))
          (some false)
          (some (!(decide ((vc2.toNat : Int) = 95))))))
      (cond (decide ((vc2.toNat : Int) = 45))
        (some false)
        (some (!(decide ((vc2.toNat : Int) = 95))))))

noncomputable def base_Key_x2 (qs : List UInt8) (vx2 : Int) : Option ((Int) ⊕ (Unit ⊕ Unit)) :=
  cond (decide (vx2 < (qs.length : Int)))
    ((at? qs vx2).bind fun vc2 =>
    (base_Key_x3 vc2).bind fun vx4_1 =>
    cond (vx4_1)
      (some (.inr (.inr ())))
      (some (.inl (IntKind.wrap .i64 (vx2 + 1)))))
    (some (.inr (.inl ())))

noncomputable def base_Key (qs : List UInt8) : Option (Bool) :=
  (base_Key_x1 qs).bind fun vx1 =>
  cond (vx1)
    (some false)
    ((loopO (base_Key_x2 qs) 0).bind fun x => match x with
      | .inl _ =>
        some true
      | .inr _ =>
        some false)

/-! ### beaconfleet/base.Out -/
noncomputable def base_Out_x1 (qn : Int) (qlow : Int) (qhigh : Int) : Option (Bool) :=
  cond (decide (qn < qlow))
    (some true)
    (some (decide (qhigh < qn)))

noncomputable def base_Out (qn : Int) (qlow : Int) (qhigh : Int) : Option (Bool) :=
  (base_Out_x1 qn qlow qhigh).bind fun vx1 =>
  some vx1

/-! ### beaconfleet/place.isSpot -/
noncomputable def place_isSpot_x1 (qs : api_Spot) : Option (Bool) :=
  (base_Out qs.X (-10000) 10000).bind fun vr =>
  cond (!vr)
    ((base_Out qs.Y (-10000) 10000).bind fun vr1 =>
    some (!vr1))
    (some false)

noncomputable def place_isSpot (qs : api_Spot) : Option (Bool) :=
  (place_isSpot_x1 qs).bind fun vx1 =>
  some vx1

/-! ### beaconfleet/place.side -/
noncomputable def place_side (qa : api_Spot) (qb : api_Spot) (qs : api_Spot) : Option (Unit) :=
  some ()

/-! ### beaconfleet/place.on -/
noncomputable def place_on_x1 (qa : api_Spot) (qb : api_Spot) (qs : api_Spot) : Option (Bool) :=
  (place_side qa qb qs).bind fun _ =>
  cond (decide ((IntKind.wrap .i64 ((IntKind.wrap .i64 ((IntKind.wrap .i64 (qb.X - qa.X)) * (IntKind.wrap .i64 (qs.Y - qa.Y)))) - (IntKind.wrap .i64 ((IntKind.wrap .i64 (qb.Y - qa.Y)) * (IntKind.wrap .i64 (qs.X - qa.X)))))) = 0))
    (cond (decide ((imin qa.X qb.X) ≤ qs.X))
      (cond (decide (qs.X ≤ (imax qa.X qb.X)))
        (cond (decide ((imin qa.Y qb.Y) ≤ qs.Y))
          (some (decide (qs.Y ≤ (imax qa.Y qb.Y))))
          (some false))
        (some false))
      (some false))
    (some false)

noncomputable def place_on (qa : api_Spot) (qb : api_Spot) (qs : api_Spot) : Option (Bool) :=
  (place_on_x1 qa qb qs).bind fun vx1 =>
  some vx1

/-! ### cmp.isNaN[int] -/
noncomputable def cmp_isNaN_int (qx : Int) : Option (Unit) :=
  some ()

/-! ### cmp.Compare[int] -/
noncomputable def cmp_Compare_int (qx : Int) (qy : Int) : Option (Int) :=
  (cmp_isNaN_int qx).bind fun _ =>
  (cmp_isNaN_int qy).bind fun _ =>
  cond (!decide (qx = qx))
    (cond (!decide (qy = qy))
      (some 0)
      (some (-1)))
    (cond (!decide (qy = qy))
      (some 1)
      (cond (decide (qx < qy))
        (some (-1))
        (cond (decide (qy < qx))
          (some 1)
          (some 0))))

/-! ### beaconfleet/place.meets -/
noncomputable def place_meets_x1 (qx : api_Spot) (qx1 : api_Spot) (qx2 : api_Spot) (qx3 : api_Spot) : Option (Bool) :=
  (place_on qx qx1 qx2).bind fun vr =>
  cond (vr)
    (some true)
    ((place_on qx qx1 qx3).bind fun vr1 =>
    cond (vr1)
      (some true)
      ((place_on qx2 qx3 qx).bind fun vr2 =>
      cond (vr2)
        (some true)
        ((place_on qx2 qx3 qx1).bind fun vr3 =>
        some vr3)))

noncomputable def place_meets_x2 (vr4 : Int) (vr5 : Int) (vr6 : Int) (vr7 : Int) : Option (Bool) :=
  cond (decide ((IntKind.wrap .i64 (vr4 * vr5)) < 0))
    (some (decide ((IntKind.wrap .i64 (vr6 * vr7)) < 0)))
    (some false)

noncomputable def place_meets (qx : api_Spot) (qx1 : api_Spot) (qx2 : api_Spot) (qx3 : api_Spot) : Option (Bool) :=
  (place_meets_x1 qx qx1 qx2 qx3).bind fun vx1 =>
  cond (vx1)
    (some true)
    ((place_side qx qx1 qx2).bind fun _ =>
    (cmp_Compare_int (IntKind.wrap .i64 ((IntKind.wrap .i64 ((IntKind.wrap .i64 (qx1.X - qx.X)) * (IntKind.wrap .i64 (qx2.Y - qx.Y)))) - (IntKind.wrap .i64 ((IntKind.wrap .i64 (qx1.Y - qx.Y)) * (IntKind.wrap .i64 (qx2.X - qx.X)))))) 0).bind fun vr4 =>
    (place_side qx qx1 qx3).bind fun _ =>
    (cmp_Compare_int (IntKind.wrap .i64 ((IntKind.wrap .i64 ((IntKind.wrap .i64 (qx1.X - qx.X)) * (IntKind.wrap .i64 (qx3.Y - qx.Y)))) - (IntKind.wrap .i64 ((IntKind.wrap .i64 (qx1.Y - qx.Y)) * (IntKind.wrap .i64 (qx3.X - qx.X)))))) 0).bind fun vr5 =>
    (place_side qx2 qx3 qx).bind fun _ =>
    (cmp_Compare_int (IntKind.wrap .i64 ((IntKind.wrap .i64 ((IntKind.wrap .i64 (qx3.X - qx2.X)) * (IntKind.wrap .i64 (qx.Y - qx2.Y)))) - (IntKind.wrap .i64 ((IntKind.wrap .i64 (qx3.Y - qx2.Y)) * (IntKind.wrap .i64 (qx.X - qx2.X)))))) 0).bind fun vr6 =>
    (place_side qx2 qx3 qx1).bind fun _ =>
    (cmp_Compare_int (IntKind.wrap .i64 ((IntKind.wrap .i64 ((IntKind.wrap .i64 (qx3.X - qx2.X)) * (IntKind.wrap .i64 (qx1.Y - qx2.Y)))) - (IntKind.wrap .i64 ((IntKind.wrap .i64 (qx3.Y - qx2.Y)) * (IntKind.wrap .i64 (qx1.X - qx2.X)))))) 0).bind fun vr7 =>
    (place_meets_x2 vr4 vr5 vr6 vr7).bind fun vx2_1 =>
    some vx2_1)

/-! ### beaconfleet/place.crossed -/
noncomputable def place_crossed_x3 (qx : List api_Spot) (vx : Int) (vy6 : api_Spot) (vy7 : api_Spot) (vx8 : Int) (vy10 : api_Spot) (vy11 : api_Spot) : Option (Bool) :=
  cond (!(decide (vx8 = (IntKind.wrap .i64 (vx + 1)))))
    (cond (!(decide (((IntKind.wrap .i64 (vx8 + 1)).tmod (qx.length : Int)) = vx)))
      ((place_meets vy6 vy7 vy10 vy11).bind fun vr8_3 =>
      some vr8_3)
      (some false))
    (some false)

noncomputable def place_crossed_x4 (vx : Int) (vy6 : api_Spot) (vy7 : api_Spot) (vx8 : Int) (vy10 : api_Spot) (vy11 : api_Spot) : Option (Bool) :=
  cond (decide (vx8 = (IntKind.wrap .i64 (vx + 1))))
    ((place_on vy6 vy7 vy11).bind fun vr13 =>
    cond (vr13)
      (some true)
      ((place_on vy10 vy11 vy6).bind fun vr14 =>
      some vr14))
    (some false)

noncomputable def place_crossed_x5 (qx : List api_Spot) (vx : Int) (vy6 : api_Spot) (vy7 : api_Spot) (vx8 : Int) (vy10 : api_Spot) (vy11 : api_Spot) : Option (Bool) :=
  cond (decide (((IntKind.wrap .i64 (vx8 + 1)).tmod (qx.length : Int)) = vx))
    ((place_on vy6 vy7 vy10).bind fun vr15 =>
    cond (vr15)
      (some true)
      ((place_on vy10 vy11 vy7).bind fun vr16 =>
      some vr16))
    (some false)

noncomputable def place_crossed_x2 (qx : List api_Spot) (vx : Int) (vy6 : api_Spot) (vy7 : api_Spot) (vx8 : Int) : Option ((Int) ⊕ (Unit ⊕ Unit)) :=
  cond (decide (vx8 < (qx.length : Int)))
    ((at? qx vx8).bind fun vy10 =>
    gd (!((qx.length : Int) == 0)) <|
    (at? qx ((IntKind.wrap .i64 (vx8 + 1)).tmod (qx.length : Int))).bind fun vy11 =>
    (place_crossed_x3 qx vx vy6 vy7 vx8 vy10 vy11).bind fun vx12_1 =>
    cond (vx12_1)
      (some (.inr (.inr ())))
      ((place_crossed_x4 vx vy6 vy7 vx8 vy10 vy11).bind fun vx13_1 =>
      cond (vx13_1)
        (some (.inr (.inr ())))
        ((place_crossed_x5 qx vx vy6 vy7 vx8 vy10 vy11).bind fun vx14_1 =>
        cond (vx14_1)
          (some (.inr (.inr ())))
          (some (.inl (IntKind.wrap .i64 (vx8 + 1)))))))
    (some (.inr (.inl ())))

noncomputable def place_crossed_x1 (qx : List api_Spot) (vx : Int) : Option ((Int) ⊕ (Unit ⊕ Unit)) :=
  cond (decide (vx < (qx.length : Int)))
    ((at? qx vx).bind fun vy6 =>
    gd (!((qx.length : Int) == 0)) <|
    (at? qx ((IntKind.wrap .i64 (vx + 1)).tmod (qx.length : Int))).bind fun vy7 =>
    (loopO (place_crossed_x2 qx vx vy6 vy7) (IntKind.wrap .i64 (vx + 1))).bind fun x => match x with
      | .inl _ =>
        some (.inl (IntKind.wrap .i64 (vx + 1)))
      | .inr _ =>
        some (.inr (.inr ())))
    (some (.inr (.inl ())))

noncomputable def place_crossed (qx : List api_Spot) : Option (Bool) :=
  (loopO (place_crossed_x1 qx) 0).bind fun x => match x with
    | .inl _ =>
      some false
    | .inr _ =>
      some true

/-! ### beaconfleet/place.CheckFence -/
noncomputable def place_CheckFence_x1 (qf : api_Fence) (vx : Int) : Option ((Int) ⊕ (Unit ⊕ Int)) :=
  cond (decide (vx < (qf.Corners.length : Int)))
    ((at? qf.Corners vx).bind fun vy1 =>
    (place_isSpot vy1).bind fun vr2_1 =>
    cond (!vr2_1)
      (some (.inr (.inr 1)))
      ((sub? qf.Corners 0 vx).bind fun vl1 =>
      (slices_Contains_api_Spot_api_Spot vl1 vy1).bind fun vr1_1 =>
      cond (vr1_1)
        (some (.inr (.inr 6)))
        (some (.inl (IntKind.wrap .i64 (vx + 1))))))
    (some (.inr (.inl ())))

noncomputable def place_CheckFence (qf : api_Fence) : Option (Int) :=
  (base_Key qf.Key).bind fun vr =>
  cond (!vr)
    (some 5)
    (cond (decide ((qf.Corners.length : Int) < 3))
      (some 3)
      (cond (decide (200 < (qf.Corners.length : Int)))
        (some 2)
        ((loopO (place_CheckFence_x1 qf) 0).bind fun x => match x with
          | .inl _ =>
            (place_crossed qf.Corners).bind fun vr17 =>
            cond (vr17)
              (some 13)
              (some 0)
          | .inr vx1_1 =>
            some vx1_1)))

/-! ### beaconfleet/place.where$1 -/
noncomputable def place_where_1 (qa : api_Spot) (qb : api_Spot) (qx : api_Spot) : Option (Bool) :=
  (place_on qa qb qx).bind fun vr =>
  some vr

/-! ### beaconfleet/place.edges -/
noncomputable def place_edges_f1_place_where_1_x1 (ql : List api_Spot) (qf : api_Spot) (vx : Int) : Option ((Int) ⊕ (Unit ⊕ Unit)) :=
  cond (decide (vx < (ql.length : Int)))
    ((at? ql vx).bind fun vy2 =>
    gd (!((ql.length : Int) == 0)) <|
    (at? ql ((IntKind.wrap .i64 (vx + 1)).tmod (ql.length : Int))).bind fun vy3 =>
    (place_where_1 vy2 vy3 qf).bind fun vr1_1 =>
    cond (vr1_1)
      (some (.inr (.inr ())))
      (some (.inl (IntKind.wrap .i64 (vx + 1)))))
    (some (.inr (.inl ())))

noncomputable def place_edges_f1_place_where_1 (ql : List api_Spot) (qf : api_Spot) : Option (Bool) :=
  (loopO (place_edges_f1_place_where_1_x1 ql qf) 0).bind fun x => match x with
    | .inl _ =>
      some false
    | .inr _ =>
      some true

/-! ### beaconfleet/place.where$2 -/
noncomputable def place_where_2_x1 (qa : api_Spot) (qb : api_Spot) : Option ((api_Spot × api_Spot)) :=
  cond (decide (qb.Y < qa.Y))
    (some (qb, qa))
    (some (qa, qb))

noncomputable def place_where_2_x3 (qx : api_Spot) (va1 : api_Spot) (vb1 : api_Spot) : Option (Bool) :=
  cond (decide (va1.Y ≤ qx.Y))
    (cond (decide (qx.Y < vb1.Y))
      ((place_side va1 vb1 qx).bind fun _ =>
      some (decide (0 < (IntKind.wrap .i64 ((IntKind.wrap .i64 ((IntKind.wrap .i64 (vb1.X - va1.X)) * (IntKind.wrap .i64 (qx.Y - va1.Y)))) - (IntKind.wrap .i64 ((IntKind.wrap .i64 (vb1.Y - va1.Y)) * (IntKind.wrap .i64 (qx.X - va1.X)))))))))
      (some false))
    (some false)

noncomputable def place_where_2_x2 (qx : api_Spot) (qx1 : Bool) (va1 : api_Spot) (vb1 : api_Spot) : Option (Bool) :=
  (place_where_2_x3 qx va1 vb1).bind fun vx1 =>
  cond (vx1)
    (some (!qx1))
    (some qx1)

noncomputable def place_where_2 (qa : api_Spot) (qb : api_Spot) (qx : api_Spot) (qx1 : Bool) : Option (Bool) :=
  (place_where_2_x1 qa qb).bind fun (va1, vb1) =>
  (place_where_2_x2 qx qx1 va1 vb1).bind fun vs1 =>
  some vs1

/-! ### beaconfleet/place.edges -/
noncomputable def place_edges_f1_place_where_2_x1 (ql : List api_Spot) (qf : api_Spot) : Bool × Int → Option ((Bool × Int) ⊕ (Bool))
  | (vs, vx) =>
  cond (decide (vx < (ql.length : Int)))
    ((at? ql vx).bind fun vy2 =>
    gd (!((ql.length : Int) == 0)) <|
    (at? ql ((IntKind.wrap .i64 (vx + 1)).tmod (ql.length : Int))).bind fun vy3 =>
    (place_where_2 vy2 vy3 qf vs).bind fun vs2_1 =>
    some (.inl (vs2_1, IntKind.wrap .i64 (vx + 1))))
    (some (.inr vs))

noncomputable def place_edges_f1_place_where_2 (ql : List api_Spot) (qf : api_Spot) (qf1 : Bool) : Option (Bool) :=
  (loopO (place_edges_f1_place_where_2_x1 ql qf) (qf1, 0)).bind fun vs1_1 =>
  some vs1_1

/-! ### beaconfleet/place.where -/
noncomputable def place_where (ql : List api_Spot) (qs : api_Spot) : Option (Int) :=
  (place_edges_f1_place_where_1 ql qs).bind fun vr =>
  cond (vr)
    (some 1)
    ((place_edges_f1_place_where_2 ql qs false).bind fun vs3 =>
    cond (vs3)
      (some 2)
      (some 0))

/-! ### internal/stringslite.IndexByte -/
noncomputable def stringslite_IndexByte (qs : List UInt8) (qc : Int) : Option (Unit) :=
  some ()

/-! ### strings.IndexByte -/
noncomputable def strings_IndexByte (qs : List UInt8) (qc : Int) : Option (Unit) :=
  (stringslite_IndexByte qs qc).bind fun _ =>
  some ()

/-! ### beaconfleet/fleetref2.only -/
noncomputable def fleetref2_only_x1 (qs : List UInt8) (qsome : List UInt8) (vx : Int) : Option ((Int) ⊕ (Unit ⊕ Unit)) :=
  cond (decide (vx < (qs.length : Int)))
    ((at? qs vx).bind fun vc1 =>
    (strings_IndexByte qsome (vc1.toNat : Int)).bind fun _ =>
    cond (decide ((Lib.indexByte qsome (vc1.toNat : Int).toNat.toUInt8) < 0))
      (some (.inr (.inr ())))
      (some (.inl (IntKind.wrap .i64 (vx + 1)))))
    (some (.inr (.inl ())))

noncomputable def fleetref2_only (qs : List UInt8) (qsome : List UInt8) : Option (Bool) :=
  (loopO (fleetref2_only_x1 qs qsome) 0).bind fun x => match x with
    | .inl _ =>
      some true
    | .inr _ =>
      some false

/-! ### beaconfleet/fleetref2.Key -/
noncomputable def fleetref2_Key_x1 (qs : List UInt8) : Option (Bool) :=
  (fleetref2_in (qs.length : Int) 1 40).bind fun vr =>
  cond (vr)
    ((sub? qs 0 1).bind fun vs =>
    (fleetref2_only vs ([97, 98, 99, 100, 101, 102, 103, 104, 105, 106, 107, 108, 109, 110, 111, 112, 113, 114, 115, 116, 117, 118, 119, 120, 121, 122] : List UInt8)).bind fun vr1 =>
    cond (vr1)
      ((fleetref2_only qs ([97, 98, 99, 100, 101, 102, 103, 104, 105, 106, 107, 108, 109, 110, 111, 112, 113, 114, 115, 116, 117, 118, 119, 120, 121, 122, 48, 49, 50, 51, 52, 53, 54, 55, 56, 57, 45, 95] : List UInt8)).bind fun vr2 =>
      some vr2)
      (some false))
    (some false)

noncomputable def fleetref2_Key (qs : List UInt8) : Option (Bool) :=
  (fleetref2_Key_x1 qs).bind fun vx1 =>
  some vx1

/-! ### beaconfleet/fleetref2.FenceFault -/
noncomputable def fleetref2_FenceFault (qf : api_Fence) : Option (Int) :=
  (fleetref2_Key qf.Key).bind fun vr3 =>
  cond (!vr3)
    (some 5)
    ((fleetref2_CornersFault qf.Corners).bind fun vr16 =>
    some vr16)

/-! ### beaconfleet/fleetlaw2.errs -/
noncomputable def fleetlaw2_errs_x1 (ql : List Int) (vx : Int) : Option ((Int) ⊕ (Unit ⊕ Int)) :=
  cond (decide (vx < (ql.length : Int)))
    ((at? ql vx).bind fun vy1 =>
    cond (!decide (vy1 = 0))
      (some (.inr (.inr vy1)))
      (some (.inl (IntKind.wrap .i64 (vx + 1)))))
    (some (.inr (.inl ())))

noncomputable def fleetlaw2_errs (ql : List Int) : Option (Int) :=
  (loopO (fleetlaw2_errs_x1 ql) 0).bind fun x => match x with
    | .inl _ =>
      some 0
    | .inr vx1_1 =>
      some vx1_1

/-! ### beaconfleet/place.Cell -/
noncomputable def place_Cell_x1 (qs : api_Spot) (qlevel : Int) : Option (Bool) :=
  (place_isSpot qs).bind fun vr2 =>
  cond (!vr2)
    (some true)
    ((base_Out qlevel 0 15).bind fun vr =>
    some vr)

noncomputable def place_Cell_x2 (qs : api_Spot) (qlevel : Int) : (List Int) × Int × Int → Option (((List Int) × Int × Int) ⊕ ((List Int)))
  | (vout, vlong, vx2) =>
  cond (decide (vx2 < qlevel))
    (gd (!((IntKind.wrap .i64 (vlong.tdiv 2)) == 0)) <|
    gd (Nat.ble (vout.length + ([IntKind.wrap .u8 ((IntKind.wrap .u8 ((48 : Int) + (IntKind.wrap .u8 ((IntKind.wrap .i64 ((IntKind.wrap .i64 (qs.X - (-16384))).tdiv (IntKind.wrap .i64 (vlong.tdiv 2)))).tmod 2)))) + (IntKind.wrap .u8 ((2 : Int) * (IntKind.wrap .u8 ((IntKind.wrap .i64 ((IntKind.wrap .i64 (qs.Y - (-16384))).tdiv (IntKind.wrap .i64 (vlong.tdiv 2)))).tmod 2)))))] : List Int).length) LIM) <|
    some (.inl (vout ++ ([IntKind.wrap .u8 ((IntKind.wrap .u8 ((48 : Int) + (IntKind.wrap .u8 ((IntKind.wrap .i64 ((IntKind.wrap .i64 (qs.X - (-16384))).tdiv (IntKind.wrap .i64 (vlong.tdiv 2)))).tmod 2)))) + (IntKind.wrap .u8 ((2 : Int) * (IntKind.wrap .u8 ((IntKind.wrap .i64 ((IntKind.wrap .i64 (qs.Y - (-16384))).tdiv (IntKind.wrap .i64 (vlong.tdiv 2)))).tmod 2)))))] : List Int), IntKind.wrap .i64 (vlong.tdiv 2), IntKind.wrap .i64 (vx2 + 1))))
    (some (.inr vout))

noncomputable def place_Cell (qs : api_Spot) (qlevel : Int) : Option ((List UInt8) × Int) :=
  (place_Cell_x1 qs qlevel).bind fun vx1 =>
  cond (vx1)
    (some (([] : List UInt8), 1))
    ((loopO (place_Cell_x2 qs qlevel) ([], 32768, 0)).bind fun vout1_1 =>
    some (vout1_1.map fun n => UInt8.ofNat n.toNat, 0))

/-! ### beaconfleet/fleetlaw2.placed -/
noncomputable def fleetlaw2_placed_x1 (vr1 : List UInt8) (vr3 : Int) : Option (Bool) :=
  cond (decide (vr3 = 0))
    (some (decide (vr1 = ([51] : List UInt8))))
    (some false)

noncomputable def fleetlaw2_placed : Option (Bool) :=
  (place_Cell (api_Spot.mk 0 0) 1).bind fun (vr1, vr3) =>
  (fleetlaw2_placed_x1 vr1 vr3).bind fun vx1 =>
  some vx1

/-! ### beaconfleet/fleetref2.WhereOf -/
noncomputable def fleetref2_WhereOf_x3 (qx1 : api_Spot) (vr3 : api_Spot) (vr1_3 : api_Spot) : Option (Bool) :=
  cond (decide (vr3.Y ≤ qx1.Y))
    (cond (decide (qx1.Y < vr1_3.Y))
      ((fleetref2_side vr3 vr1_3 qx1).bind fun vr1_4 =>
      some (decide (0 < vr1_4)))
      (some false))
    (some false)

noncomputable def fleetref2_WhereOf_x4 (qx1 : api_Spot) (vr3 : api_Spot) (vr1_3 : api_Spot) : Option (Bool) :=
  cond (decide (qx1.Y < vr3.Y))
    (cond (decide (vr1_3.Y ≤ qx1.Y))
      ((fleetref2_side vr3 vr1_3 qx1).bind fun vr1_5 =>
      some (decide (vr1_5 < 0)))
      (some false))
    (some false)

noncomputable def fleetref2_WhereOf_x2 (qx : List api_Spot) (qx1 : api_Spot) (vx : Int) (vx1 : Int) : Option (Int ⊕ Unit) :=
  (fleetref2_edge qx vx1).bind fun (vr3, vr1_3) =>
  (fleetref2_onWay vr3 vr1_3 qx1).bind fun vr4 =>
  cond (vr4)
    (some (.inr ()))
    ((fleetref2_WhereOf_x3 qx1 vr3 vr1_3).bind fun vx5_1 =>
    cond (vx5_1)
      (some (.inl (IntKind.wrap .i64 (vx + 1))))
      ((fleetref2_WhereOf_x4 qx1 vr3 vr1_3).bind fun vx6_1 =>
      cond (vx6_1)
        (some (.inl (IntKind.wrap .i64 (vx - 1))))
        (some (.inl vx))))

noncomputable def fleetref2_WhereOf_x1 (qx : List api_Spot) (qx1 : api_Spot) : Int × Int → Option ((Int × Int) ⊕ (Int ⊕ Unit))
  | (vx, vx1) =>
  cond (decide (vx1 < (qx.length : Int)))
    ((fleetref2_WhereOf_x2 qx qx1 vx vx1).bind fun x => match x with
      | .inl vx7_1 =>
        some (.inl (vx7_1, IntKind.wrap .i64 (vx1 + 1)))
      | .inr _ =>
        some (.inr (.inr ())))
    (some (.inr (.inl vx)))

noncomputable def fleetref2_WhereOf (qx : List api_Spot) (qx1 : api_Spot) : Option (Int) :=
  (loopO (fleetref2_WhereOf_x1 qx qx1) (0, 0)).bind fun x => match x with
    | .inl vx8_1 =>
      cond (!decide (vx8_1 = 0))
        (some 2)
        (some 0)
    | .inr _ =>
      some 1

/-! ### beaconfleet/place.square -/
noncomputable def place_square (qa : api_Spot) (qb : api_Spot) : Option (Unit) :=
  some ()

/-! ### beaconfleet/base.Gcd -/
noncomputable def base_Gcd_x1 : Int × Int → Option ((Int × Int) ⊕ (Int))
  | (va, vb) =>
  cond (!decide (vb = 0))
    (gd (!(vb == 0)) <|
    some (.inl (vb, va.tmod vb)))
    (some (.inr va))

noncomputable def base_Gcd (qa : Int) (qb : Int) : Option (Int) :=
  (loopO base_Gcd_x1 (qa, qb)).bind fun va1_1 =>
  some va1_1

/-! ### beaconfleet/base.Fraction -/
noncomputable def base_Fraction (qnum : Int) (qden : Int) : Option (api_Fraction) :=
  (base_Gcd (imax qnum (IntKind.wrap .i64 (0 - qnum))) qden).bind fun vr =>
  gd (!(vr == 0)) <|
  some (api_Fraction.mk (IntKind.wrap .i64 (qnum.tdiv vr)) (IntKind.wrap .i64 (qden.tdiv vr)))

/-! ### beaconfleet/place.far -/
noncomputable def place_far (qa : api_Spot) (qb : api_Spot) (qs : api_Spot) : Option (api_Fraction) :=
  (place_square qa qb).bind fun _ =>
  cond (decide ((IntKind.wrap .i64 ((IntKind.wrap .i64 ((IntKind.wrap .i64 (qs.X - qa.X)) * (IntKind.wrap .i64 (qb.X - qa.X)))) + (IntKind.wrap .i64 ((IntKind.wrap .i64 (qs.Y - qa.Y)) * (IntKind.wrap .i64 (qb.Y - qa.Y)))))) ≤ 0))
    ((place_square qa qs).bind fun _ =>
    some (api_Fraction.mk (IntKind.wrap .i64 ((IntKind.wrap .i64 ((IntKind.wrap .i64 (qa.X - qs.X)) * (IntKind.wrap .i64 (qa.X - qs.X)))) + (IntKind.wrap .i64 ((IntKind.wrap .i64 (qa.Y - qs.Y)) * (IntKind.wrap .i64 (qa.Y - qs.Y)))))) 1))
    (cond (decide ((IntKind.wrap .i64 ((IntKind.wrap .i64 ((IntKind.wrap .i64 (qa.X - qb.X)) * (IntKind.wrap .i64 (qa.X - qb.X)))) + (IntKind.wrap .i64 ((IntKind.wrap .i64 (qa.Y - qb.Y)) * (IntKind.wrap .i64 (qa.Y - qb.Y)))))) ≤ (IntKind.wrap .i64 ((IntKind.wrap .i64 ((IntKind.wrap .i64 (qs.X - qa.X)) * (IntKind.wrap .i64 (qb.X - qa.X)))) + (IntKind.wrap .i64 ((IntKind.wrap .i64 (qs.Y - qa.Y)) * (IntKind.wrap .i64 (qb.Y - qa.Y))))))))
      ((place_square qb qs).bind fun _ =>
      some (api_Fraction.mk (IntKind.wrap .i64 ((IntKind.wrap .i64 ((IntKind.wrap .i64 (qb.X - qs.X)) * (IntKind.wrap .i64 (qb.X - qs.X)))) + (IntKind.wrap .i64 ((IntKind.wrap .i64 (qb.Y - qs.Y)) * (IntKind.wrap .i64 (qb.Y - qs.Y)))))) 1))
      ((place_side qa qb qs).bind fun _ =>
      (base_Fraction (IntKind.wrap .i64 ((IntKind.wrap .i64 ((IntKind.wrap .i64 ((IntKind.wrap .i64 (qb.X - qa.X)) * (IntKind.wrap .i64 (qs.Y - qa.Y)))) - (IntKind.wrap .i64 ((IntKind.wrap .i64 (qb.Y - qa.Y)) * (IntKind.wrap .i64 (qs.X - qa.X)))))) * (IntKind.wrap .i64 ((IntKind.wrap .i64 ((IntKind.wrap .i64 (qb.X - qa.X)) * (IntKind.wrap .i64 (qs.Y - qa.Y)))) - (IntKind.wrap .i64 ((IntKind.wrap .i64 (qb.Y - qa.Y)) * (IntKind.wrap .i64 (qs.X - qa.X)))))))) (IntKind.wrap .i64 ((IntKind.wrap .i64 ((IntKind.wrap .i64 (qa.X - qb.X)) * (IntKind.wrap .i64 (qa.X - qb.X)))) + (IntKind.wrap .i64 ((IntKind.wrap .i64 (qa.Y - qb.Y)) * (IntKind.wrap .i64 (qa.Y - qb.Y))))))).bind fun vr1 =>
      some vr1))

/-! ### math/bits.Mul64 -/
noncomputable def bits_Mul64 (qx : Int) (qy : Int) : Option (Unit) :=
  some ()

/-! ### beaconfleet/base.CompareProducts -/
noncomputable def base_CompareProducts_x2 (qa : Int) (qb : Int) (qc : Int) (qd : Int) : Option (Bool) :=
  cond (!decide ((IntKind.wrap .u64 ((IntKind.wrap .u64 ((IntKind.wrap .u64 ((ishr .u64 (IntKind.wrap .u64 (qa)) 32) * (ishr .u64 (IntKind.wrap .u64 (qb)) 32))) + (ishr .u64 (IntKind.wrap .u64 ((IntKind.wrap .u64 ((ishr .u64 (IntKind.wrap .u64 (qa)) 32) * (ibits .and .u64 (IntKind.wrap .u64 (qb)) 4294967295))) + (ishr .u64 (IntKind.wrap .u64 ((ibits .and .u64 (IntKind.wrap .u64 (qa)) 4294967295) * (ibits .and .u64 (IntKind.wrap .u64 (qb)) 4294967295))) 32))) 32))) + (ishr .u64 (IntKind.wrap .u64 ((ibits .and .u64 (IntKind.wrap .u64 ((IntKind.wrap .u64 ((ishr .u64 (IntKind.wrap .u64 (qa)) 32) * (ibits .and .u64 (IntKind.wrap .u64 (qb)) 4294967295))) + (ishr .u64 (IntKind.wrap .u64 ((ibits .and .u64 (IntKind.wrap .u64 (qa)) 4294967295) * (ibits .and .u64 (IntKind.wrap .u64 (qb)) 4294967295))) 32))) 4294967295) + (IntKind.wrap .u64 ((ibits .and .u64 (IntKind.wrap .u64 (qa)) 4294967295) * (ishr .u64 (IntKind.wrap .u64 (qb)) 32))))) 32))) = (IntKind.wrap .u64 ((IntKind.wrap .u64 ((IntKind.wrap .u64 ((ishr .u64 (IntKind.wrap .u64 (qc)) 32) * (ishr .u64 (IntKind.wrap .u64 (qd)) 32))) + (ishr .u64 (IntKind.wrap .u64 ((IntKind.wrap .u64 ((ishr .u64 (IntKind.wrap .u64 (qc)) 32) * (ibits .and .u64 (IntKind.wrap .u64 (qd)) 4294967295))) + (ishr .u64 (IntKind.wrap .u64 ((ibits .and .u64 (IntKind.wrap .u64 (qc)) 4294967295) * (ibits .and .u64 (IntKind.wrap .u64 (qd)) 4294967295))) 32))) 32))) + (ishr .u64 (IntKind.wrap .u64 ((ibits .and .u64 (IntKind.wrap .u64 ((IntKind.wrap .u64 ((ishr .u64 (IntKind.wrap .u64 (qc)) 32) * (ibits .and .u64 (IntKind.wrap .u64 (qd)) 4294967295))) + (ishr .u64 (IntKind.wrap .u64 ((ibits .and .u64 (IntKind.wrap .u64 (qc)) 4294967295) * (ibits .and .u64 (IntKind.wrap .u64 (qd)) 4294967295))) 32))) 4294967295) + (IntKind.wrap .u64 ((ibits .and .u64 (IntKind.wrap .u64 (qc)) 4294967295) * (ishr .u64 (IntKind.wrap .u64 (qd)) 32))))) 32)))))
    (some (decide ((IntKind.wrap .u64 ((IntKind.wrap .u64 ((IntKind.wrap .u64 ((ishr .u64 (IntKind.wrap .u64 (qa)) 32) * (ishr .u64 (IntKind.wrap .u64 (qb)) 32))) + (ishr .u64 (IntKind.wrap .u64 ((IntKind.wrap .u64 ((ishr .u64 (IntKind.wrap .u64 (qa)) 32) * (ibits .and .u64 (IntKind.wrap .u64 (qb)) 4294967295))) + (ishr .u64 (IntKind.wrap .u64 ((ibits .and .u64 (IntKind.wrap .u64 (qa)) 4294967295) * (ibits .and .u64 (IntKind.wrap .u64 (qb)) 4294967295))) 32))) 32))) + (ishr .u64 (IntKind.wrap .u64 ((ibits .and .u64 (IntKind.wrap .u64 ((IntKind.wrap .u64 ((ishr .u64 (IntKind.wrap .u64 (qa)) 32) * (ibits .and .u64 (IntKind.wrap .u64 (qb)) 4294967295))) + (ishr .u64 (IntKind.wrap .u64 ((ibits .and .u64 (IntKind.wrap .u64 (qa)) 4294967295) * (ibits .and .u64 (IntKind.wrap .u64 (qb)) 4294967295))) 32))) 4294967295) + (IntKind.wrap .u64 ((ibits .and .u64 (IntKind.wrap .u64 (qa)) 4294967295) * (ishr .u64 (IntKind.wrap .u64 (qb)) 32))))) 32))) < (IntKind.wrap .u64 ((IntKind.wrap .u64 ((IntKind.wrap .u64 ((ishr .u64 (IntKind.wrap .u64 (qc)) 32) * (ishr .u64 (IntKind.wrap .u64 (qd)) 32))) + (ishr .u64 (IntKind.wrap .u64 ((IntKind.wrap .u64 ((ishr .u64 (IntKind.wrap .u64 (qc)) 32) * (ibits .and .u64 (IntKind.wrap .u64 (qd)) 4294967295))) + (ishr .u64 (IntKind.wrap .u64 ((ibits .and .u64 (IntKind.wrap .u64 (qc)) 4294967295) * (ibits .and .u64 (IntKind.wrap .u64 (qd)) 4294967295))) 32))) 32))) + (ishr .u64 (IntKind.wrap .u64 ((ibits .and .u64 (IntKind.wrap .u64 ((IntKind.wrap .u64 ((ishr .u64 (IntKind.wrap .u64 (qc)) 32) * (ibits .and .u64 (IntKind.wrap .u64 (qd)) 4294967295))) + (ishr .u64 (IntKind.wrap .u64 ((ibits .and .u64 (IntKind.wrap .u64 (qc)) 4294967295) * (ibits .and .u64 (IntKind.wrap .u64 (qd)) 4294967295))) 32))) 4294967295) + (IntKind.wrap .u64 ((ibits .and .u64 (IntKind.wrap .u64 (qc)) 4294967295) * (ishr .u64 (IntKind.wrap .u64 (qd)) 32))))) 32))))))
    (some false)

noncomputable def base_CompareProducts_x1 (qa : Int) (qb : Int) (qc : Int) (qd : Int) : Option (Bool) :=
  (base_CompareProducts_x2 qa qb qc qd).bind fun vx1 =>
  cond (vx1)
    (some vx1)
    (cond (decide ((IntKind.wrap .u64 ((IntKind.wrap .u64 ((IntKind.wrap .u64 ((ishr .u64 (IntKind.wrap .u64 (qa)) 32) * (ishr .u64 (IntKind.wrap .u64 (qb)) 32))) + (ishr .u64 (IntKind.wrap .u64 ((IntKind.wrap .u64 ((ishr .u64 (IntKind.wrap .u64 (qa)) 32) * (ibits .and .u64 (IntKind.wrap .u64 (qb)) 4294967295))) + (ishr .u64 (IntKind.wrap .u64 ((ibits .and .u64 (IntKind.wrap .u64 (qa)) 4294967295) * (ibits .and .u64 (IntKind.wrap .u64 (qb)) 4294967295))) 32))) 32))) + (ishr .u64 (IntKind.wrap .u64 ((ibits .and .u64 (IntKind.wrap .u64 ((IntKind.wrap .u64 ((ishr .u64 (IntKind.wrap .u64 (qa)) 32) * (ibits .and .u64 (IntKind.wrap .u64 (qb)) 4294967295))) + (ishr .u64 (IntKind.wrap .u64 ((ibits .and .u64 (IntKind.wrap .u64 (qa)) 4294967295) * (ibits .and .u64 (IntKind.wrap .u64 (qb)) 4294967295))) 32))) 4294967295) + (IntKind.wrap .u64 ((ibits .and .u64 (IntKind.wrap .u64 (qa)) 4294967295) * (ishr .u64 (IntKind.wrap .u64 (qb)) 32))))) 32))) = (IntKind.wrap .u64 ((IntKind.wrap .u64 ((IntKind.wrap .u64 ((ishr .u64 (IntKind.wrap .u64 (qc)) 32) * (ishr .u64 (IntKind.wrap .u64 (qd)) 32))) + (ishr .u64 (IntKind.wrap .u64 ((IntKind.wrap .u64 ((ishr .u64 (IntKind.wrap .u64 (qc)) 32) * (ibits .and .u64 (IntKind.wrap .u64 (qd)) 4294967295))) + (ishr .u64 (IntKind.wrap .u64 ((ibits .and .u64 (IntKind.wrap .u64 (qc)) 4294967295) * (ibits .and .u64 (IntKind.wrap .u64 (qd)) 4294967295))) 32))) 32))) + (ishr .u64 (IntKind.wrap .u64 ((ibits .and .u64 (IntKind.wrap .u64 ((IntKind.wrap .u64 ((ishr .u64 (IntKind.wrap .u64 (qc)) 32) * (ibits .and .u64 (IntKind.wrap .u64 (qd)) 4294967295))) + (ishr .u64 (IntKind.wrap .u64 ((ibits .and .u64 (IntKind.wrap .u64 (qc)) 4294967295) * (ibits .and .u64 (IntKind.wrap .u64 (qd)) 4294967295))) 32))) 4294967295) + (IntKind.wrap .u64 ((ibits .and .u64 (IntKind.wrap .u64 (qc)) 4294967295) * (ishr .u64 (IntKind.wrap .u64 (qd)) 32))))) 32)))))
      (some (decide ((IntKind.wrap .u64 ((IntKind.wrap .u64 (qa)) * (IntKind.wrap .u64 (qb)))) < (IntKind.wrap .u64 ((IntKind.wrap .u64 (qc)) * (IntKind.wrap .u64 (qd)))))))
      (some false))

noncomputable def base_CompareProducts_x3 (qa : Int) (qb : Int) (qc : Int) (qd : Int) : Option (Bool) :=
  cond (decide ((IntKind.wrap .u64 ((IntKind.wrap .u64 ((IntKind.wrap .u64 ((ishr .u64 (IntKind.wrap .u64 (qa)) 32) * (ishr .u64 (IntKind.wrap .u64 (qb)) 32))) + (ishr .u64 (IntKind.wrap .u64 ((IntKind.wrap .u64 ((ishr .u64 (IntKind.wrap .u64 (qa)) 32) * (ibits .and .u64 (IntKind.wrap .u64 (qb)) 4294967295))) + (ishr .u64 (IntKind.wrap .u64 ((ibits .and .u64 (IntKind.wrap .u64 (qa)) 4294967295) * (ibits .and .u64 (IntKind.wrap .u64 (qb)) 4294967295))) 32))) 32))) + (ishr .u64 (IntKind.wrap .u64 ((ibits .and .u64 (IntKind.wrap .u64 ((IntKind.wrap .u64 ((ishr .u64 (IntKind.wrap .u64 (qa)) 32) * (ibits .and .u64 (IntKind.wrap .u64 (qb)) 4294967295))) + (ishr .u64 (IntKind.wrap .u64 ((ibits .and .u64 (IntKind.wrap .u64 (qa)) 4294967295) * (ibits .and .u64 (IntKind.wrap .u64 (qb)) 4294967295))) 32))) 4294967295) + (IntKind.wrap .u64 ((ibits .and .u64 (IntKind.wrap .u64 (qa)) 4294967295) * (ishr .u64 (IntKind.wrap .u64 (qb)) 32))))) 32))) = (IntKind.wrap .u64 ((IntKind.wrap .u64 ((IntKind.wrap .u64 ((ishr .u64 (IntKind.wrap .u64 (qc)) 32) * (ishr .u64 (IntKind.wrap .u64 (qd)) 32))) + (ishr .u64 (IntKind.wrap .u64 ((IntKind.wrap .u64 ((ishr .u64 (IntKind.wrap .u64 (qc)) 32) * (ibits .and .u64 (IntKind.wrap .u64 (qd)) 4294967295))) + (ishr .u64 (IntKind.wrap .u64 ((ibits .and .u64 (IntKind.wrap .u64 (qc)) 4294967295) * (ibits .and .u64 (IntKind.wrap .u64 (qd)) 4294967295))) 32))) 32))) + (ishr .u64 (IntKind.wrap .u64 ((ibits .and .u64 (IntKind.wrap .u64 ((IntKind.wrap .u64 ((ishr .u64 (IntKind.wrap .u64 (qc)) 32) * (ibits .and .u64 (IntKind.wrap .u64 (qd)) 4294967295))) + (ishr .u64 (IntKind.wrap .u64 ((ibits .and .u64 (IntKind.wrap .u64 (qc)) 4294967295) * (ibits .and .u64 (IntKind.wrap .u64 (qd)) 4294967295))) 32))) 4294967295) + (IntKind.wrap .u64 ((ibits .and .u64 (IntKind.wrap .u64 (qc)) 4294967295) * (ishr .u64 (IntKind.wrap .u64 (qd)) 32))))) 32)))))
    (some (decide ((IntKind.wrap .u64 ((IntKind.wrap .u64 (qa)) * (IntKind.wrap .u64 (qb)))) = (IntKind.wrap .u64 ((IntKind.wrap .u64 (qc)) * (IntKind.wrap .u64 (qd)))))))
    (some false)

noncomputable def base_CompareProducts (qa : Int) (qb : Int) (qc : Int) (qd : Int) : Option (Int) :=
  (bits_Mul64 (IntKind.wrap .u64 (qa)) (IntKind.wrap .u64 (qb))).bind fun _ =>
  (bits_Mul64 (IntKind.wrap .u64 (qc)) (IntKind.wrap .u64 (qd))).bind fun _ =>
  (base_CompareProducts_x1 qa qb qc qd).bind fun vx2_1 =>
  cond (vx2_1)
    (some (-1))
    ((base_CompareProducts_x3 qa qb qc qd).bind fun vx3_1 =>
    cond (vx3_1)
      (some 0)
      (some 1))

/-! ### beaconfleet/place.less -/
noncomputable def place_less (qa : api_Fraction) (qb : api_Fraction) : Option (Bool) :=
  (base_CompareProducts qa.Num qb.Den qb.Num qa.Den).bind fun vr =>
  some (decide (vr < 0))

/-! ### beaconfleet/place.farOf$1 -/
noncomputable def place_farOf_1_x2 (qx1 : api_Fraction) (vr : api_Fraction) : Option (Bool) :=
  cond (decide (qx1.Num < 0))
    (some true)
    ((place_less vr qx1).bind fun vr1 =>
    some vr1)

noncomputable def place_farOf_1_x1 (qa : api_Spot) (qb : api_Spot) (qx : api_Spot) (qx1 : api_Fraction) : Option (api_Fraction) :=
  (place_far qa qb qx).bind fun vr =>
  (place_farOf_1_x2 qx1 vr).bind fun vx1 =>
  cond (vx1)
    (some vr)
    (some qx1)

noncomputable def place_farOf_1 (qa : api_Spot) (qb : api_Spot) (qx : api_Spot) (qx1 : api_Fraction) : Option (api_Fraction) :=
  (place_farOf_1_x1 qa qb qx qx1).bind fun vs1 =>
  some vs1

/-! ### beaconfleet/place.edges -/
noncomputable def place_edges_f1_place_farOf_1_x1 (ql : List api_Spot) (qf : api_Spot) : api_Fraction × Int → Option ((api_Fraction × Int) ⊕ (api_Fraction))
  | (vs, vx) =>
  cond (decide (vx < (ql.length : Int)))
    ((at? ql vx).bind fun vy2 =>
    gd (!((ql.length : Int) == 0)) <|
    (at? ql ((IntKind.wrap .i64 (vx + 1)).tmod (ql.length : Int))).bind fun vy3 =>
    (place_farOf_1 vy2 vy3 qf vs).bind fun vs2_1 =>
    some (.inl (vs2_1, IntKind.wrap .i64 (vx + 1))))
    (some (.inr vs))

noncomputable def place_edges_f1_place_farOf_1 (ql : List api_Spot) (qf : api_Spot) (qf1 : api_Fraction) : Option (api_Fraction) :=
  (loopO (place_edges_f1_place_farOf_1_x1 ql qf) (qf1, 0)).bind fun vs1_1 =>
  some vs1_1

/-! ### beaconfleet/place.farOf -/
noncomputable def place_farOf (ql : List api_Spot) (qs : api_Spot) : Option (api_Fraction) :=
  (place_edges_f1_place_farOf_1 ql qs (api_Fraction.mk (-1) 0)).bind fun vs3 =>
  some vs3

/-! ### beaconfleet/base.Moment -/
noncomputable def base_Moment (qn : Int) : Option (Bool) :=
  (base_Out qn 0 345686399999).bind fun vr =>
  some (!vr)

/-! ### beaconfleet/place.spot -/
noncomputable def place_spot (qx : api_Fix) : Option (Unit) :=
  some ()

/-! ### internal/bytealg.CompareString -/
noncomputable def bytealg_CompareString (qa : List UInt8) (qb : List UInt8) : Option (Unit) :=
  some ()

/-! ### strings.Compare -/
noncomputable def strings_Compare (qa : List UInt8) (qb : List UInt8) : Option (Unit) :=
  (bytealg_CompareString qa qb).bind fun _ =>
  some ()

/-! ### cmp.Or[int] -/
noncomputable def cmp_Or_int_x1 (qvals : List Int) (vx : Int) : Option ((Int) ⊕ (Unit ⊕ Int)) :=
  cond (decide (vx < (qvals.length : Int)))
    ((at? qvals vx).bind fun vy1 =>
    cond (!decide (vy1 = 0))
      (some (.inr (.inr vy1)))
      (some (.inl (IntKind.wrap .i64 (vx + 1)))))
    (some (.inr (.inl ())))

noncomputable def cmp_Or_int (qvals : List Int) : Option (Int) :=
  (loopO (cmp_Or_int_x1 qvals) 0).bind fun x => match x with
    | .inl _ =>
      some 0
    | .inr vx1_1 =>
      some vx1_1

/-! ### beaconfleet/place.byDevice -/
noncomputable def place_byDevice (qa : api_Fix) (qb : api_Fix) : Option (Int) :=
  (strings_Compare qa.Device qb.Device).bind fun _ =>
  (cmp_Compare_int qa.At qb.At).bind fun vr =>
  (cmp_Or_int ([Lib.compareBytes qa.Device qb.Device, vr] : List Int)).bind fun vr1 =>
  some vr1

/-! ### beaconfleet/place.CheckFixes -/
noncomputable def place_CheckFixes_x2 (vy2 : api_Fix) : Option (Bool) :=
  (base_Moment vy2.At).bind fun vr1_1 =>
  cond (!vr1_1)
    (some true)
    ((place_spot vy2).bind fun _ =>
    (place_isSpot (api_Spot.mk vy2.X vy2.Y)).bind fun vr2_2 =>
    cond (!vr2_2)
      (some true)
      ((base_Out vy2.Error 0 10000).bind fun vr5 =>
      some vr5))

noncomputable def place_CheckFixes_x3 (ql : List api_Fix) (vx : Int) (vy2 : api_Fix) : Option (Bool) :=
  cond (decide (0 < vx))
    ((at? ql (IntKind.wrap .i64 (vx - 1))).bind fun vy3 =>
    (place_byDevice vy2 vy3).bind fun vr2_3 =>
    some (decide (vr2_3 ≤ 0)))
    (some false)

noncomputable def place_CheckFixes_x1 (ql : List api_Fix) (vx : Int) : Option ((Int) ⊕ (Unit ⊕ Int)) :=
  cond (decide (vx < (ql.length : Int)))
    ((at? ql vx).bind fun vy2 =>
    (base_Key vy2.Device).bind fun vr4 =>
    cond (!vr4)
      (some (.inr (.inr 5)))
      ((place_CheckFixes_x2 vy2).bind fun vx3_1 =>
      cond (vx3_1)
        (some (.inr (.inr 1)))
        ((place_CheckFixes_x3 ql vx vy2).bind fun vx4_1 =>
        cond (vx4_1)
          (some (.inr (.inr 7)))
          (some (.inl (IntKind.wrap .i64 (vx + 1)))))))
    (some (.inr (.inl ())))

noncomputable def place_CheckFixes (ql : List api_Fix) : Option (Int) :=
  cond (decide (2000 < (ql.length : Int)))
    (some 2)
    ((loopO (place_CheckFixes_x1 ql) 0).bind fun x => match x with
      | .inl _ =>
        some 0
      | .inr vx5_1 =>
        some vx5_1)

/-! ### beaconfleet/base.First -/
noncomputable def base_First_x1 (ql : List Int) (vx : Int) : Option ((Int) ⊕ (Unit ⊕ Int)) :=
  cond (decide (vx < (ql.length : Int)))
    ((at? ql vx).bind fun vy1 =>
    cond (!decide (vy1 = 0))
      (some (.inr (.inr vy1)))
      (some (.inl (IntKind.wrap .i64 (vx + 1)))))
    (some (.inr (.inl ())))

noncomputable def base_First (ql : List Int) : Option (Int) :=
  (loopO (base_First_x1 ql) 0).bind fun x => match x with
    | .inl _ =>
      some 0
    | .inr vx1_1 =>
      some vx1_1

/-! ### beaconfleet/place.surely -/
noncomputable def place_surely_x1 (ql : List api_Spot) (qx : api_Fix) (vr1 : Int) : Option (Bool) :=
  cond (decide (vr1 = 1))
    (some true)
    ((place_farOf ql (api_Spot.mk qx.X qx.Y)).bind fun vr =>
    (place_less (api_Fraction.mk (IntKind.wrap .i64 (qx.Error * qx.Error)) 1) vr).bind fun vr1_1 =>
    some (!vr1_1))

noncomputable def place_surely (ql : List api_Spot) (qx : api_Fix) : Option (Int) :=
  (place_where ql (api_Spot.mk qx.X qx.Y)).bind fun vr1 =>
  (place_surely_x1 ql qx vr1).bind fun vx1 =>
  cond (vx1)
    (some 3)
    (some vr1)

/-! ### beaconfleet/fleetref2.Moment -/
noncomputable def fleetref2_Moment (qat : Int) : Option (Bool) :=
  (fleetref2_in qat 0 345686399999).bind fun vr =>
  some vr

/-! ### beaconfleet/fleetref2.spotOf -/
noncomputable def fleetref2_spotOf (qx : api_Fix) : Option (Unit) :=
  some ()

/-! ### beaconfleet/fleetref2.FixOrder -/
noncomputable def fleetref2_FixOrder (qa : api_Fix) (qb : api_Fix) : Option (Int) :=
  cond (!decide (qa.Device = qb.Device))
    ((strings_Compare qa.Device qb.Device).bind fun _ =>
    some (Lib.compareBytes qa.Device qb.Device))
    ((fleetref2_sign (IntKind.wrap .i64 (qa.At - qb.At))).bind fun vr =>
    some vr)

/-! ### beaconfleet/fleetref2.FixesFault -/
noncomputable def fleetref2_FixesFault_x2 (vy2 : api_Fix) : Option (Bool) :=
  (fleetref2_Moment vy2.At).bind fun vr1_2 =>
  cond (!vr1_2)
    (some true)
    ((fleetref2_spotOf vy2).bind fun _ =>
    (fleetref2_SpotFault (api_Spot.mk vy2.X vy2.Y)).bind fun vr2_1 =>
    cond (!decide (vr2_1 = 0))
      (some true)
      ((fleetref2_in vy2.Error 0 10000).bind fun vr4 =>
      some (!vr4)))

noncomputable def fleetref2_FixesFault_x3 (ql : List api_Fix) (vx : Int) (vy2 : api_Fix) : Option (Bool) :=
  cond (decide (0 < vx))
    ((at? ql (IntKind.wrap .i64 (vx - 1))).bind fun vy3 =>
    (fleetref2_FixOrder vy3 vy2).bind fun vr1_3 =>
    some (decide (0 ≤ vr1_3)))
    (some false)

noncomputable def fleetref2_FixesFault_x1 (ql : List api_Fix) (vx : Int) : Option ((Int) ⊕ (Unit ⊕ Int)) :=
  cond (decide (vx < (ql.length : Int)))
    ((at? ql vx).bind fun vy2 =>
    (fleetref2_Key vy2.Device).bind fun vr3_1 =>
    cond (!vr3_1)
      (some (.inr (.inr 5)))
      ((fleetref2_FixesFault_x2 vy2).bind fun vx3_1 =>
      cond (vx3_1)
        (some (.inr (.inr 1)))
        ((fleetref2_FixesFault_x3 ql vx vy2).bind fun vx4_1 =>
        cond (vx4_1)
          (some (.inr (.inr 7)))
          (some (.inl (IntKind.wrap .i64 (vx + 1)))))))
    (some (.inr (.inl ())))

noncomputable def fleetref2_FixesFault (ql : List api_Fix) : Option (Int) :=
  cond (decide (2000 < (ql.length : Int)))
    (some 2)
    ((loopO (fleetref2_FixesFault_x1 ql) 0).bind fun x => match x with
      | .inl _ =>
        some 0
      | .inr vx5_1 =>
        some vx5_1)

/-! ### beaconfleet/fleetref2.dot -/
noncomputable def fleetref2_dot_2 (qa : api_Spot) : Option (Unit) :=
  some ()

/-! ### beaconfleet/fleetref2.Lowest -/
noncomputable def fleetref2_Lowest_x1 : Int × Int → Option ((Int × Int) ⊕ (Int))
  | (va, vb) =>
  cond (!decide (vb = 0))
    (gd (!(vb == 0)) <|
    some (.inl (vb, va.tmod vb)))
    (some (.inr va))

noncomputable def fleetref2_Lowest_x2 (va1_1 : Int) : Option (Int) :=
  cond (decide (va1_1 < 0))
    (some (IntKind.wrap .i64 (0 - va1_1)))
    (some va1_1)

noncomputable def fleetref2_Lowest (qnum : Int) (qden : Int) : Option (api_Fraction) :=
  (loopO fleetref2_Lowest_x1 (qnum, qden)).bind fun va1_1 =>
  (fleetref2_Lowest_x2 va1_1).bind fun va2_1 =>
  gd (!(va2_1 == 0)) <|
  some (api_Fraction.mk (IntKind.wrap .i64 (qnum.tdiv va2_1)) (IntKind.wrap .i64 (qden.tdiv va2_1)))

/-! ### beaconfleet/fleetref2.farWay -/
noncomputable def fleetref2_farWay (qa : api_Spot) (qb : api_Spot) (qs : api_Spot) : Option (api_Fraction) :=
  (fleetref2_minus qb qa).bind fun _ =>
  (fleetref2_minus qs qa).bind fun _ =>
  (fleetref2_dot (api_Spot.mk (IntKind.wrap .i64 (qs.X - qa.X)) (IntKind.wrap .i64 (qs.Y - qa.Y))) (api_Spot.mk (IntKind.wrap .i64 (qb.X - qa.X)) (IntKind.wrap .i64 (qb.Y - qa.Y)))).bind fun _ =>
  cond (decide ((IntKind.wrap .i64 ((IntKind.wrap .i64 ((IntKind.wrap .i64 (qs.X - qa.X)) * (IntKind.wrap .i64 (qb.X - qa.X)))) + (IntKind.wrap .i64 ((IntKind.wrap .i64 (qs.Y - qa.Y)) * (IntKind.wrap .i64 (qb.Y - qa.Y)))))) ≤ 0))
    ((fleetref2_dot_2 (api_Spot.mk (IntKind.wrap .i64 (qs.X - qa.X)) (IntKind.wrap .i64 (qs.Y - qa.Y)))).bind fun _ =>
    some (api_Fraction.mk (IntKind.wrap .i64 ((IntKind.wrap .i64 ((IntKind.wrap .i64 (qs.X - qa.X)) * (IntKind.wrap .i64 (qs.X - qa.X)))) + (IntKind.wrap .i64 ((IntKind.wrap .i64 (qs.Y - qa.Y)) * (IntKind.wrap .i64 (qs.Y - qa.Y)))))) 1))
    ((fleetref2_minus qs qb).bind fun _ =>
    (fleetref2_dot (api_Spot.mk (IntKind.wrap .i64 (qs.X - qb.X)) (IntKind.wrap .i64 (qs.Y - qb.Y))) (api_Spot.mk (IntKind.wrap .i64 (qb.X - qa.X)) (IntKind.wrap .i64 (qb.Y - qa.Y)))).bind fun _ =>
    cond (decide (0 ≤ (IntKind.wrap .i64 ((IntKind.wrap .i64 ((IntKind.wrap .i64 (qs.X - qb.X)) * (IntKind.wrap .i64 (qb.X - qa.X)))) + (IntKind.wrap .i64 ((IntKind.wrap .i64 (qs.Y - qb.Y)) * (IntKind.wrap .i64 (qb.Y - qa.Y))))))))
      ((fleetref2_dot_2 (api_Spot.mk (IntKind.wrap .i64 (qs.X - qb.X)) (IntKind.wrap .i64 (qs.Y - qb.Y)))).bind fun _ =>
      some (api_Fraction.mk (IntKind.wrap .i64 ((IntKind.wrap .i64 ((IntKind.wrap .i64 (qs.X - qb.X)) * (IntKind.wrap .i64 (qs.X - qb.X)))) + (IntKind.wrap .i64 ((IntKind.wrap .i64 (qs.Y - qb.Y)) * (IntKind.wrap .i64 (qs.Y - qb.Y)))))) 1))
      ((fleetref2_cross (api_Spot.mk (IntKind.wrap .i64 (qb.X - qa.X)) (IntKind.wrap .i64 (qb.Y - qa.Y))) (api_Spot.mk (IntKind.wrap .i64 (qs.X - qa.X)) (IntKind.wrap .i64 (qs.Y - qa.Y)))).bind fun _ =>
      (fleetref2_dot_2 (api_Spot.mk (IntKind.wrap .i64 (qb.X - qa.X)) (IntKind.wrap .i64 (qb.Y - qa.Y)))).bind fun _ =>
      (fleetref2_Lowest (IntKind.wrap .i64 ((IntKind.wrap .i64 ((IntKind.wrap .i64 ((IntKind.wrap .i64 (qb.X - qa.X)) * (IntKind.wrap .i64 (qs.Y - qa.Y)))) - (IntKind.wrap .i64 ((IntKind.wrap .i64 (qb.Y - qa.Y)) * (IntKind.wrap .i64 (qs.X - qa.X)))))) * (IntKind.wrap .i64 ((IntKind.wrap .i64 ((IntKind.wrap .i64 (qb.X - qa.X)) * (IntKind.wrap .i64 (qs.Y - qa.Y)))) - (IntKind.wrap .i64 ((IntKind.wrap .i64 (qb.Y - qa.Y)) * (IntKind.wrap .i64 (qs.X - qa.X)))))))) (IntKind.wrap .i64 ((IntKind.wrap .i64 ((IntKind.wrap .i64 (qb.X - qa.X)) * (IntKind.wrap .i64 (qb.X - qa.X)))) + (IntKind.wrap .i64 ((IntKind.wrap .i64 (qb.Y - qa.Y)) * (IntKind.wrap .i64 (qb.Y - qa.Y))))))).bind fun vr =>
      some vr))

/-! ### beaconfleet/fleetref2.floor -/
noncomputable def fleetref2_floor (qa : Int) (qb : Int) : Option (Int) :=
  gd (!(qb == 0)) <|
  cond (decide ((qa.tmod qb) < 0))
    (some (IntKind.wrap .i64 ((IntKind.wrap .i64 (qa.tdiv qb)) - 1)))
    (some (IntKind.wrap .i64 (qa.tdiv qb)))

/-! ### beaconfleet/fleetref2.less -/
noncomputable def fleetref2_less_x2 (va : api_Fraction) (vb : api_Fraction) (vr2 : Int) (vr3 : Int) : Option (Bool) :=
  cond (decide ((IntKind.wrap .i64 (va.Num - (IntKind.wrap .i64 (vr2 * va.Den)))) = 0))
    (some true)
    (some (decide ((IntKind.wrap .i64 (vb.Num - (IntKind.wrap .i64 (vr3 * vb.Den)))) = 0)))

noncomputable def fleetref2_less_x3 (va : api_Fraction) (vb : api_Fraction) (vr2 : Int) (vr3 : Int) : Option (Bool) :=
  cond (decide ((IntKind.wrap .i64 (va.Num - (IntKind.wrap .i64 (vr2 * va.Den)))) = 0))
    (some (!decide ((IntKind.wrap .i64 (vb.Num - (IntKind.wrap .i64 (vr3 * vb.Den)))) = 0)))
    (some false)

noncomputable def fleetref2_less_x1 : api_Fraction × api_Fraction → Option ((api_Fraction × api_Fraction) ⊕ (Bool))
  | (va, vb) =>
  (fleetref2_floor va.Num va.Den).bind fun vr2 =>
  (fleetref2_floor vb.Num vb.Den).bind fun vr3 =>
  cond (!decide (vr2 = vr3))
    (some (.inr (decide (vr2 < vr3))))
    ((fleetref2_less_x2 va vb vr2 vr3).bind fun vx3_1 =>
    cond (vx3_1)
      ((fleetref2_less_x3 va vb vr2 vr3).bind fun vx4_1 =>
      some (.inr vx4_1))
      (some (.inl (api_Fraction.mk vb.Den (IntKind.wrap .i64 (vb.Num - (IntKind.wrap .i64 (vr3 * vb.Den)))), api_Fraction.mk va.Den (IntKind.wrap .i64 (va.Num - (IntKind.wrap .i64 (vr2 * va.Den))))))))

noncomputable def fleetref2_less (qa : api_Fraction) (qb : api_Fraction) : Option (Bool) :=
  (loopO fleetref2_less_x1 (qa, qb)).bind fun vx5_1 =>
  some vx5_1

/-! ### beaconfleet/fleetref2.FarOf -/
noncomputable def fleetref2_FarOf_x2 (ql : List api_Spot) (qs : api_Spot) (vout : api_Fraction) (vx : Int) : Option ((api_Spot × api_Spot × api_Fraction)) :=
  (fleetref2_edge ql vx).bind fun (vr3, vr1_4) =>
  (fleetref2_farWay vr3 vr1_4 qs).bind fun vr1_5 =>
  (fleetref2_less vr1_5 vout).bind fun vr4_1 =>
  cond (vr4_1)
    (some (vr3, vr1_4, vr1_5))
    (some (vr3, vr1_4, vout))

noncomputable def fleetref2_FarOf_x1 (ql : List api_Spot) (qs : api_Spot) : api_Spot × api_Spot × api_Fraction × Int → Option ((api_Spot × api_Spot × api_Fraction × Int) ⊕ (api_Fraction))
  | (va, vb, vout, vx) =>
  cond (decide (vx < (ql.length : Int)))
    ((fleetref2_FarOf_x2 ql qs vout vx).bind fun (va2_1, vb2_1, vout2_1) =>
    some (.inl (va2_1, vb2_1, vout2_1, IntKind.wrap .i64 (vx + 1))))
    (some (.inr vout))

noncomputable def fleetref2_FarOf (ql : List api_Spot) (qs : api_Spot) : Option (api_Fraction) :=
  (fleetref2_edge ql 0).bind fun (vr, vr1) =>
  (fleetref2_farWay vr vr1 qs).bind fun vr1_1 =>
  (loopO (fleetref2_FarOf_x1 ql qs) (vr, vr1, vr1_1, 0)).bind fun vout3_1 =>
  some vout3_1

/-! ### beaconfleet/fleetref2.SurelyOf -/
noncomputable def fleetref2_SurelyOf_x1 (qf : api_Fence) (qx : api_Fix) (vr5 : Int) : Option (Bool) :=
  cond (decide (vr5 = 1))
    (some true)
    ((fleetref2_spotOf qx).bind fun _ =>
    (fleetref2_FarOf qf.Corners (api_Spot.mk qx.X qx.Y)).bind fun vr5_1 =>
    (fleetref2_less (api_Fraction.mk (IntKind.wrap .i64 (qx.Error * qx.Error)) 1) vr5_1).bind fun vr4 =>
    some (!vr4))

noncomputable def fleetref2_SurelyOf (qf : api_Fence) (qx : api_Fix) : Option (Int) :=
  (fleetref2_spotOf qx).bind fun _ =>
  (fleetref2_WhereOf qf.Corners (api_Spot.mk qx.X qx.Y)).bind fun vr5 =>
  (fleetref2_SurelyOf_x1 qf qx vr5).bind fun vx1 =>
  cond (vx1)
    (some 3)
    (some vr5)

/-! ### (*beaconfleet/fleetmake.Stream).RightTrack -/
noncomputable def fleetmake_Stream_RightTrack_x2 (vs1 : fleetmake_Stream) (vp : api_Spot) : Option ((fleetmake_Stream × api_Spot)) :=
  (fleetmake_Stream_Flip (fleetmake_Stream.mk vs1.L (IntKind.wrap .i64 (vs1.at_ + 1))) 6).bind fun vr10 =>
  cond (vr10)
    ((fleetmake_Stream_Place (fleetmake_Stream.mk vs1.L (IntKind.wrap .i64 ((IntKind.wrap .i64 (vs1.at_ + 1)) + 1)))).bind fun vr2_2 =>
    some (fleetmake_Stream.mk vs1.L (IntKind.wrap .i64 ((IntKind.wrap .i64 ((IntKind.wrap .i64 ((IntKind.wrap .i64 (vs1.at_ + 1)) + 1)) + 1)) + 1)), vr2_2))
    ((fleetmake_Stream_Range (fleetmake_Stream.mk vs1.L (IntKind.wrap .i64 ((IntKind.wrap .i64 (vs1.at_ + 1)) + 1))) (-2) 2).bind fun (vs6, vr11) =>
    (fleetmake_Stream_Range vs6 (-2) 2).bind fun (vs7, vr12) =>
    some (vs7, api_Spot.mk (IntKind.wrap .i64 (vp.X + vr11)) (IntKind.wrap .i64 (vp.Y + vr12))))

noncomputable def fleetmake_Stream_RightTrack_x3 (vat : Int) (vr9 : Int) (vs8_1 : fleetmake_Stream) (vp2_1 : api_Spot) (vr13 : Int) : Option ((fleetmake_Stream × api_Fix)) :=
  (fleetmake_Stream_Flip (fleetmake_Stream.mk vs8_1.L (IntKind.wrap .i64 (vs8_1.at_ + 1))) 10).bind fun vr14 =>
  cond (vr14)
    ((fleetmake_Stream_Pick_o1 (fleetmake_Stream.mk vs8_1.L (IntKind.wrap .i64 ((IntKind.wrap .i64 (vs8_1.at_ + 1)) + 1))) ([5000, (-10000), 300] : List Int)).bind fun vr15 =>
    some (fleetmake_Stream.mk vs8_1.L (IntKind.wrap .i64 ((IntKind.wrap .i64 ((IntKind.wrap .i64 (vs8_1.at_ + 1)) + 1)) + 1)), api_Fix.mk ([100] : List UInt8) (IntKind.wrap .i64 (vat + vr9)) vr15 vp2_1.Y vr13))
    (some (fleetmake_Stream.mk vs8_1.L (IntKind.wrap .i64 ((IntKind.wrap .i64 (vs8_1.at_ + 1)) + 1)), api_Fix.mk ([100] : List UInt8) (IntKind.wrap .i64 (vat + vr9)) vp2_1.X vp2_1.Y vr13))

noncomputable def fleetmake_Stream_RightTrack_x1 (vr : Int) : fleetmake_Stream × (List api_Fix) × Int × api_Spot × Int → Option ((fleetmake_Stream × (List api_Fix) × Int × api_Spot × Int) ⊕ ((fleetmake_Stream × (List api_Fix))))
  | (vs1, vout, vat, vp, vx) =>
  cond (decide (vx < vr))
    ((fleetmake_Stream_Pick_o1 vs1 ([1, 10, 100, 1000, 1000] : List Int)).bind fun vr9 =>
    (fleetmake_Stream_RightTrack_x2 vs1 vp).bind fun (vs8_1, vp2_1) =>
    (fleetmake_Stream_Pick_o1 vs8_1 ([0, 0, 1, 2, 5] : List Int)).bind fun vr13 =>
    (fleetmake_Stream_RightTrack_x3 vat vr9 vs8_1 vp2_1 vr13).bind fun (vs9_1, vx2_1) =>
    gd (Nat.ble (vout.length + ([vx2_1] : List api_Fix).length) LIM) <|
    some (.inl (vs9_1, vout ++ ([vx2_1] : List api_Fix), IntKind.wrap .i64 (vat + vr9), vp2_1, IntKind.wrap .i64 (vx + 1))))
    (some (.inr (vs1, vout)))

noncomputable def fleetmake_Stream_RightTrack (qs : fleetmake_Stream) (qmost : Int) : Option (fleetmake_Stream × (List api_Fix)) :=
  (fleetmake_Stream_Place qs).bind fun vr2 =>
  (fleetmake_Stream_Range (fleetmake_Stream.mk qs.L (IntKind.wrap .i64 ((IntKind.wrap .i64 (qs.at_ + 1)) + 1))) 0 qmost).bind fun (vs, vr) =>
  (loopO (fleetmake_Stream_RightTrack_x1 vr) (vs, [], 0, vr2, 0)).bind fun (vs10_1, vout1_1) =>
  some (vs10_1, vout1_1)

/-! ### (*beaconfleet/fleetmake.Stream).Track -/
noncomputable def fleetmake_Stream_Track_x2 (vs11 : fleetmake_Stream) (vr16 : List api_Fix) : Option ((fleetmake_Stream × Bool)) :=
  cond (decide (0 < (vr16.length : Int)))
    ((fleetmake_Stream_Flip vs11 12).bind fun vr =>
    some (fleetmake_Stream.mk vs11.L (IntKind.wrap .i64 (vs11.at_ + 1)), vr))
    (some (vs11, false))

noncomputable def fleetmake_Stream_Track_x1 (vs11 : fleetmake_Stream) (vr16 : List api_Fix) : Option ((fleetmake_Stream × (List api_Fix))) :=
  (fleetmake_Stream_Track_x2 vs11 vr16).bind fun (vs1, vx1) =>
  cond (vx1)
    ((fleetmake_Stream_Next vs1 (vr16.length : Int)).bind fun vr3 =>
    (at? vr16 vr3).bind fun vy =>
    (fleetmake_Stream_Next (fleetmake_Stream.mk vs1.L (IntKind.wrap .i64 (vs1.at_ + 1))) 4).bind fun vr3_1 =>
    cond (decide (vr3_1 = 0))
      ((fleetmake_Stream_Some_o1 (fleetmake_Stream.mk vs1.L (IntKind.wrap .i64 ((IntKind.wrap .i64 (vs1.at_ + 1)) + 1))) ([([] : List UInt8), ([101] : List UInt8), ([65] : List UInt8)] : List (List UInt8))).bind fun vr1 =>
      some (fleetmake_Stream.mk vs1.L (IntKind.wrap .i64 ((IntKind.wrap .i64 ((IntKind.wrap .i64 (vs1.at_ + 1)) + 1)) + 1)), vr16.set vr3.toNat (api_Fix.mk vr1 vy.At vy.X vy.Y vy.Error)))
      (cond (decide (vr3_1 = 1))
        ((fleetmake_Stream_Odd (fleetmake_Stream.mk vs1.L (IntKind.wrap .i64 ((IntKind.wrap .i64 (vs1.at_ + 1)) + 1))) 0 100).bind fun (vs1_1, vr3_2) =>
        some (vs1_1, vr16.set vr3.toNat (api_Fix.mk vy.Device vr3_2 vy.X vy.Y vy.Error)))
        (cond (decide (vr3_1 = 2))
          ((fleetmake_Stream_Odd (fleetmake_Stream.mk vs1.L (IntKind.wrap .i64 ((IntKind.wrap .i64 (vs1.at_ + 1)) + 1))) (-10000) 10000).bind fun (vs1_2, vr3_3) =>
          some (vs1_2, vr16.set vr3.toNat (api_Fix.mk vy.Device vy.At vr3_3 vy.Y vy.Error)))
          ((fleetmake_Stream_Odd (fleetmake_Stream.mk vs1.L (IntKind.wrap .i64 ((IntKind.wrap .i64 (vs1.at_ + 1)) + 1))) 0 10000).bind fun (vs1_3, vr3_4) =>
          some (vs1_3, vr16.set vr3.toNat (api_Fix.mk vy.Device vy.At vy.X vy.Y vr3_4))))))
    (some (vs1, vr16))

noncomputable def fleetmake_Stream_Track (qs : fleetmake_Stream) (qmost : Int) : Option (fleetmake_Stream × (List api_Fix)) :=
  (fleetmake_Stream_RightTrack qs qmost).bind fun (vs11, vr16) =>
  (fleetmake_Stream_Track_x1 vs11 vr16).bind fun (vs2_1, vout1) =>
  some (vs2_1, vout1)

/-! ### beaconfleet/place.trackFault$1 -/
noncomputable def place_trackFault_1 (qx : api_Fix) (qx1 : List api_Fix) : Option (Bool) :=
  (at? qx1 0).bind fun vy =>
  some (!decide (qx.Device = vy.Device))

/-! ### slices.IndexFunc[[]beaconfleet/api.Fix,beaconfleet/api.Fix] -/
noncomputable def slices_IndexFunc_api_Fix_api_Fix_f1_place_trackFault_1_x1 (qs : List api_Fix) (vx : Int) : Option ((Int) ⊕ (Unit ⊕ Int)) :=
  cond (decide (vx < (qs.length : Int)))
    ((at? qs vx).bind fun vy1 =>
    (place_trackFault_1 vy1 qs).bind fun vr1 =>
    cond (vr1)
      (some (.inr (.inr vx)))
      (some (.inl (IntKind.wrap .i64 (vx + 1)))))
    (some (.inr (.inl ())))

noncomputable def slices_IndexFunc_api_Fix_api_Fix_f1_place_trackFault_1 (qs : List api_Fix) : Option (Int) :=
  (loopO (slices_IndexFunc_api_Fix_api_Fix_f1_place_trackFault_1_x1 qs) 0).bind fun x => match x with
    | .inl _ =>
      some (-1)
    | .inr vx1_1 =>
      some vx1_1

/-! ### slices.ContainsFunc[[]beaconfleet/api.Fix,beaconfleet/api.Fix] -/
noncomputable def slices_ContainsFunc_api_Fix_api_Fix_f1_place_trackFault_1 (qs : List api_Fix) : Option (Bool) :=
  (slices_IndexFunc_api_Fix_api_Fix_f1_place_trackFault_1 qs).bind fun vr2 =>
  some (decide (0 ≤ vr2))

/-! ### beaconfleet/place.trackFault -/
noncomputable def place_trackFault (ql : List api_Fix) : Option (Int) :=
  (place_CheckFixes ql).bind fun vr6 =>
  cond (!decide (vr6 = 0))
    (some vr6)
    ((slices_ContainsFunc_api_Fix_api_Fix_f1_place_trackFault_1 ql).bind fun vr =>
    cond (vr)
      (some 13)
      (some 0))

/-! ### beaconfleet/place.Visits -/
noncomputable def place_Visits_x3 (vx : List api_Visit) : Option (Bool) :=
  cond (decide (0 < (vx.length : Int)))
    ((at? vx (IntKind.wrap .i64 ((vx.length : Int) - 1))).bind fun vy4 =>
    some (decide (vy4.To < 0)))
    (some false)

noncomputable def place_Visits_x2 (qx : api_Fence) (qx1 : List api_Fix) (vx : List api_Visit) (vx1 : Int) : Option ((List api_Visit)) :=
  (at? qx1 vx1).bind fun vy3 =>
  (place_Visits_x3 vx).bind fun vx4_1 =>
  (place_surely qx.Corners vy3).bind fun vr2_1 =>
  cond (decide (vr2_1 = 2))
    (cond (!vx4_1)
      (gd (Nat.ble (vx.length + ([api_Visit.mk vy3.At (-1)] : List api_Visit).length) LIM) <|
      some (vx ++ ([api_Visit.mk vy3.At (-1)] : List api_Visit)))
      (some vx))
    (cond (decide (vr2_1 = 0))
      (cond (vx4_1)
        ((at? vx (IntKind.wrap .i64 ((vx.length : Int) - 1))).bind fun vy5 =>
        some (vx.set (IntKind.wrap .i64 ((vx.length : Int) - 1)).toNat (api_Visit.mk vy5.From vy3.At)))
        (some vx))
      (some vx))

noncomputable def place_Visits_x1 (qx : api_Fence) (qx1 : List api_Fix) : (List api_Visit) × Int → Option (((List api_Visit) × Int) ⊕ ((List api_Visit)))
  | (vx, vx1) =>
  cond (decide (vx1 < (qx1.length : Int)))
    ((place_Visits_x2 qx qx1 vx vx1).bind fun vx5_1 =>
    some (.inl (vx5_1, IntKind.wrap .i64 (vx1 + 1))))
    (some (.inr vx))

noncomputable def place_Visits (qx : api_Fence) (qx1 : List api_Fix) : Option ((List api_Visit) × Int) :=
  (place_CheckFence qx).bind fun vr3 =>
  (place_trackFault qx1).bind fun vr1 =>
  (base_First ([vr3, vr1] : List Int)).bind fun vr =>
  cond (!decide (vr = 0))
    (some ([], vr))
    ((loopO (place_Visits_x1 qx qx1) ([], 0)).bind fun vx6_1 =>
    some (vx6_1, 0))

/-! ### beaconfleet/place.Stays -/
noncomputable def place_Stays_x1 (qx1 : Int) (qx2 : Int) : Option (Bool) :=
  (base_Out qx1 0 10000).bind fun vr =>
  cond (vr)
    (some true)
    ((base_Out qx2 1 345686400000).bind fun vr2 =>
    some vr2)

noncomputable def place_Stays_x4 (qx : List api_Fix) (qx1 : Int) (vx3 : Int) (vx8 : Int) : Option (Bool) :=
  cond (decide (vx8 < (qx.length : Int)))
    ((at? qx vx3).bind fun vy8 =>
    (place_spot vy8).bind fun _ =>
    (at? qx vx8).bind fun vy9 =>
    (place_spot vy9).bind fun _ =>
    (place_square (api_Spot.mk vy8.X vy8.Y) (api_Spot.mk vy9.X vy9.Y)).bind fun _ =>
    some (decide ((IntKind.wrap .i64 ((IntKind.wrap .i64 ((IntKind.wrap .i64 (vy8.X - vy9.X)) * (IntKind.wrap .i64 (vy8.X - vy9.X)))) + (IntKind.wrap .i64 ((IntKind.wrap .i64 (vy8.Y - vy9.Y)) * (IntKind.wrap .i64 (vy8.Y - vy9.Y)))))) ≤ (IntKind.wrap .i64 (qx1 * qx1)))))
    (some false)

noncomputable def place_Stays_x3 (qx : List api_Fix) (qx1 : Int) (vx3 : Int) (vx8 : Int) : Option ((Int) ⊕ (Int)) :=
  (place_Stays_x4 qx qx1 vx3 vx8).bind fun vx10_1 =>
  cond (vx10_1)
    (some (.inl (IntKind.wrap .i64 (vx8 + 1))))
    (some (.inr vx8))

noncomputable def place_Stays_x2 (qx : List api_Fix) (qx1 : Int) (qx2 : Int) : (List api_Stay) × Int → Option (((List api_Stay) × Int) ⊕ ((List api_Stay)))
  | (vx2, vx3) =>
  cond (decide (vx3 < (qx.length : Int)))
    ((loopO (place_Stays_x3 qx qx1 vx3) (IntKind.wrap .i64 (vx3 + 1))).bind fun vx11_1 =>
    (at? qx (IntKind.wrap .i64 (vx11_1 - 1))).bind fun vy10 =>
    (at? qx vx3).bind fun vy11 =>
    cond (decide (qx2 ≤ (IntKind.wrap .i64 (vy10.At - vy11.At))))
      ((place_spot vy11).bind fun _ =>
      gd (Nat.ble (vx2.length + ([api_Stay.mk vy11.At vy10.At (api_Spot.mk vy11.X vy11.Y)] : List api_Stay).length) LIM) <|
      some (.inl (vx2 ++ ([api_Stay.mk vy11.At vy10.At (api_Spot.mk vy11.X vy11.Y)] : List api_Stay), vx11_1)))
      (some (.inl (vx2, IntKind.wrap .i64 (vx3 + 1)))))
    (some (.inr vx2))

noncomputable def place_Stays (qx : List api_Fix) (qx1 : Int) (qx2 : Int) : Option ((List api_Stay) × Int) :=
  (place_trackFault qx).bind fun vr1 =>
  cond (!decide (vr1 = 0))
    (some ([], vr1))
    ((place_Stays_x1 qx1 qx2).bind fun vx1 =>
    cond (vx1)
      (some ([], 1))
      ((loopO (place_Stays_x2 qx qx1 qx2) ([], 0)).bind fun vx12_1 =>
      some (vx12_1, 0)))

/-! ### beaconfleet/place.root -/
noncomputable def place_root_x1 (qn : Int) : Int × Int → Option ((Int × Int) ⊕ (Int))
  | (vlow, vhigh) =>
  cond (decide (1 < (IntKind.wrap .i64 (vhigh - vlow))))
    (cond (decide ((IntKind.wrap .i64 ((IntKind.wrap .i64 ((IntKind.wrap .i64 (vlow + vhigh)).tdiv 2)) * (IntKind.wrap .i64 ((IntKind.wrap .i64 (vlow + vhigh)).tdiv 2)))) ≤ qn))
      (some (.inl (IntKind.wrap .i64 ((IntKind.wrap .i64 (vlow + vhigh)).tdiv 2), vhigh)))
      (some (.inl (vlow, IntKind.wrap .i64 ((IntKind.wrap .i64 (vlow + vhigh)).tdiv 2)))))
    (some (.inr vlow))

noncomputable def place_root (qn : Int) : Option (Int) :=
  (loopO (place_root_x1 qn) (0, 2147483648)).bind fun vlow1_1 =>
  some vlow1_1

/-! ### beaconfleet/place.Length -/
noncomputable def place_Length_x1 (ql : List api_Fix) : Int × Int → Option ((Int × Int) ⊕ (Int))
  | (vn, vi) =>
  cond (decide (vi < (ql.length : Int)))
    ((at? ql (IntKind.wrap .i64 (vi - 1))).bind fun vy2 =>
    (place_spot vy2).bind fun _ =>
    (at? ql vi).bind fun vy3 =>
    (place_spot vy3).bind fun _ =>
    (place_square (api_Spot.mk vy2.X vy2.Y) (api_Spot.mk vy3.X vy3.Y)).bind fun _ =>
    (place_root (IntKind.wrap .i64 ((IntKind.wrap .i64 ((IntKind.wrap .i64 (vy2.X - vy3.X)) * (IntKind.wrap .i64 (vy2.X - vy3.X)))) + (IntKind.wrap .i64 ((IntKind.wrap .i64 (vy2.Y - vy3.Y)) * (IntKind.wrap .i64 (vy2.Y - vy3.Y))))))).bind fun vr2 =>
    some (.inl (IntKind.wrap .i64 (vn + vr2), IntKind.wrap .i64 (vi + 1))))
    (some (.inr vn))

noncomputable def place_Length (ql : List api_Fix) : Option (Int × Int) :=
  (place_trackFault ql).bind fun vr1 =>
  cond (!decide (vr1 = 0))
    (some (0, vr1))
    ((loopO (place_Length_x1 ql) (0, 1)).bind fun vn1_1 =>
    some (vn1_1, 0))

/-! ### beaconfleet/fleetref2.TrackFault$1 -/
noncomputable def fleetref2_TrackFault_1 (qx : api_Fix) (qx1 : List api_Fix) : Option (Bool) :=
  (at? qx1 0).bind fun vy =>
  some (!decide (qx.Device = vy.Device))

/-! ### slices.IndexFunc[[]beaconfleet/api.Fix,beaconfleet/api.Fix] -/
noncomputable def slices_IndexFunc_api_Fix_api_Fix_f1_fleetref2_TrackFault_1_x1 (qs : List api_Fix) (vx : Int) : Option ((Int) ⊕ (Unit ⊕ Int)) :=
  cond (decide (vx < (qs.length : Int)))
    ((at? qs vx).bind fun vy1 =>
    (fleetref2_TrackFault_1 vy1 qs).bind fun vr1 =>
    cond (vr1)
      (some (.inr (.inr vx)))
      (some (.inl (IntKind.wrap .i64 (vx + 1)))))
    (some (.inr (.inl ())))

noncomputable def slices_IndexFunc_api_Fix_api_Fix_f1_fleetref2_TrackFault_1 (qs : List api_Fix) : Option (Int) :=
  (loopO (slices_IndexFunc_api_Fix_api_Fix_f1_fleetref2_TrackFault_1_x1 qs) 0).bind fun x => match x with
    | .inl _ =>
      some (-1)
    | .inr vx1_1 =>
      some vx1_1

/-! ### slices.ContainsFunc[[]beaconfleet/api.Fix,beaconfleet/api.Fix] -/
noncomputable def slices_ContainsFunc_api_Fix_api_Fix_f1_fleetref2_TrackFault_1 (qs : List api_Fix) : Option (Bool) :=
  (slices_IndexFunc_api_Fix_api_Fix_f1_fleetref2_TrackFault_1 qs).bind fun vr2 =>
  some (decide (0 ≤ vr2))

/-! ### beaconfleet/fleetref2.TrackFault -/
noncomputable def fleetref2_TrackFault (ql : List api_Fix) : Option (Int) :=
  (fleetref2_FixesFault ql).bind fun vr5 =>
  cond (!decide (vr5 = 0))
    (some vr5)
    ((slices_ContainsFunc_api_Fix_api_Fix_f1_fleetref2_TrackFault_1 ql).bind fun vr =>
    cond (vr)
      (some 13)
      (some 0))

/-! ### beaconfleet/fleetlaw2.when -/
noncomputable def fleetlaw2_when (qis : Bool) (qe : Int) : Option (Int) :=
  cond (qis)
    (some qe)
    (some 0)

/-! ### beaconfleet/fleetref2.VisitsOf -/
noncomputable def fleetref2_VisitsOf_x3 (vinside : Bool) (vr1 : Int) : Option (Bool) :=
  cond (decide (vr1 = 2))
    (some (!vinside))
    (some false)

noncomputable def fleetref2_VisitsOf_x4 (vinside : Bool) (vr1 : Int) : Option (Bool) :=
  cond (decide (vr1 = 0))
    (some vinside)
    (some false)

noncomputable def fleetref2_VisitsOf_x2 (qf : api_Fence) (ql : List api_Fix) (vout : List api_Visit) (vinside : Bool) (vx : Int) : Option (((List api_Visit) × Bool)) :=
  (at? ql vx).bind fun vy2 =>
  (fleetref2_SurelyOf qf vy2).bind fun vr1 =>
  (fleetref2_VisitsOf_x3 vinside vr1).bind fun vx3_1 =>
  cond (vx3_1)
    (gd (Nat.ble (vout.length + ([api_Visit.mk vy2.At (-1)] : List api_Visit).length) LIM) <|
    some (vout ++ ([api_Visit.mk vy2.At (-1)] : List api_Visit), true))
    ((fleetref2_VisitsOf_x4 vinside vr1).bind fun vx4_1 =>
    cond (vx4_1)
      ((at? vout (IntKind.wrap .i64 ((vout.length : Int) - 1))).bind fun vy3 =>
      some (vout.set (IntKind.wrap .i64 ((vout.length : Int) - 1)).toNat (api_Visit.mk vy3.From vy2.At), false))
      (some (vout, vinside)))

noncomputable def fleetref2_VisitsOf_x1 (qf : api_Fence) (ql : List api_Fix) : (List api_Visit) × Bool × Int → Option (((List api_Visit) × Bool × Int) ⊕ ((List api_Visit)))
  | (vout, vinside, vx) =>
  cond (decide (vx < (ql.length : Int)))
    ((fleetref2_VisitsOf_x2 qf ql vout vinside vx).bind fun (vout2_1, vinside2_1) =>
    some (.inl (vout2_1, vinside2_1, IntKind.wrap .i64 (vx + 1))))
    (some (.inr vout))

noncomputable def fleetref2_VisitsOf (qf : api_Fence) (ql : List api_Fix) : Option ((List api_Visit)) :=
  (loopO (fleetref2_VisitsOf_x1 qf ql) ([], false, 0)).bind fun vout3_1 =>
  some vout3_1

/-! ### beaconfleet/fleetref2.square -/
noncomputable def fleetref2_square (qa : api_Fix) (qb : api_Fix) : Option (Unit) :=
  (fleetref2_spotOf qa).bind fun _ =>
  (fleetref2_spotOf qb).bind fun _ =>
  (fleetref2_minus (api_Spot.mk qa.X qa.Y) (api_Spot.mk qb.X qb.Y)).bind fun _ =>
  (fleetref2_dot_2 (api_Spot.mk (IntKind.wrap .i64 (qa.X - qb.X)) (IntKind.wrap .i64 (qa.Y - qb.Y)))).bind fun _ =>
  some ()

/-! ### beaconfleet/fleetref2.StaysOf$1 -/
noncomputable def fleetref2_StaysOf_1 (qx : api_Fix) (qx1 : List api_Fix) (qx2 : Int) : Option (Bool) :=
  (at? qx1 0).bind fun vy =>
  (fleetref2_square qx vy).bind fun _ =>
  some (decide ((IntKind.wrap .i64 (qx2 * qx2)) < (IntKind.wrap .i64 ((IntKind.wrap .i64 ((IntKind.wrap .i64 (qx.X - vy.X)) * (IntKind.wrap .i64 (qx.X - vy.X)))) + (IntKind.wrap .i64 ((IntKind.wrap .i64 (qx.Y - vy.Y)) * (IntKind.wrap .i64 (qx.Y - vy.Y))))))))

/-! ### slices.IndexFunc[[]beaconfleet/api.Fix,beaconfleet/api.Fix] -/
noncomputable def slices_IndexFunc_api_Fix_api_Fix_f1_fleetref2_StaysOf_1_x1 (qs : List api_Fix) (qf : Int) (vx : Int) : Option ((Int) ⊕ (Unit ⊕ Int)) :=
  cond (decide (vx < (qs.length : Int)))
    ((at? qs vx).bind fun vy1 =>
    (fleetref2_StaysOf_1 vy1 qs qf).bind fun vr1 =>
    cond (vr1)
      (some (.inr (.inr vx)))
      (some (.inl (IntKind.wrap .i64 (vx + 1)))))
    (some (.inr (.inl ())))

noncomputable def slices_IndexFunc_api_Fix_api_Fix_f1_fleetref2_StaysOf_1 (qs : List api_Fix) (qf : Int) : Option (Int) :=
  (loopO (slices_IndexFunc_api_Fix_api_Fix_f1_fleetref2_StaysOf_1_x1 qs qf) 0).bind fun x => match x with
    | .inl _ =>
      some (-1)
    | .inr vx1_1 =>
      some vx1_1

/-! ### beaconfleet/fleetref2.StaysOf -/
noncomputable def fleetref2_StaysOf_x2 (vl : List api_Fix) (vr2_1 : Int) : Option (Int) :=
  cond (decide (vr2_1 < 0))
    (some (vl.length : Int))
    (some vr2_1)

noncomputable def fleetref2_StaysOf_x1 (qnear : Int) (qlong : Int) : (List api_Fix) × (List api_Stay) → Option (((List api_Fix) × (List api_Stay)) ⊕ ((List api_Stay)))
  | (vl, vout) =>
  cond (decide (0 < (vl.length : Int)))
    ((slices_IndexFunc_api_Fix_api_Fix_f1_fleetref2_StaysOf_1 vl qnear).bind fun vr2_1 =>
    (fleetref2_StaysOf_x2 vl vr2_1).bind fun vn2_1 =>
    (at? vl (IntKind.wrap .i64 (vn2_1 - 1))).bind fun vy2 =>
    (at? vl 0).bind fun vy3 =>
    cond (decide ((IntKind.wrap .i64 (vy2.At - vy3.At)) < qlong))
      ((sub? vl 1 (vl.length : Int)).bind fun vl3 =>
      some (.inl (vl3, vout)))
      ((fleetref2_spotOf vy3).bind fun _ =>
      gd (Nat.ble (vout.length + ([api_Stay.mk vy3.At vy2.At (api_Spot.mk vy3.X vy3.Y)] : List api_Stay).length) LIM) <|
      (sub? vl vn2_1 (vl.length : Int)).bind fun vl4 =>
      some (.inl (vl4, vout ++ ([api_Stay.mk vy3.At vy2.At (api_Spot.mk vy3.X vy3.Y)] : List api_Stay)))))
    (some (.inr vout))

noncomputable def fleetref2_StaysOf (ql : List api_Fix) (qnear : Int) (qlong : Int) : Option ((List api_Stay)) :=
  (loopO (fleetref2_StaysOf_x1 qnear qlong) (ql, [])).bind fun vout1_1 =>
  some vout1_1

/-! ### beaconfleet/fleetref2.root -/
noncomputable def fleetref2_root_x1 (qn : Int) : Int × Int → Option ((Int × Int) ⊕ (Int))
  | (vlow, vhigh) =>
  cond (decide (vlow < vhigh))
    (cond (decide ((IntKind.wrap .i64 ((IntKind.wrap .i64 ((IntKind.wrap .i64 ((IntKind.wrap .i64 (vlow + vhigh)) + 1)).tdiv 2)) * (IntKind.wrap .i64 ((IntKind.wrap .i64 ((IntKind.wrap .i64 (vlow + vhigh)) + 1)).tdiv 2)))) ≤ qn))
      (some (.inl (IntKind.wrap .i64 ((IntKind.wrap .i64 ((IntKind.wrap .i64 (vlow + vhigh)) + 1)).tdiv 2), vhigh)))
      (some (.inl (vlow, IntKind.wrap .i64 ((IntKind.wrap .i64 ((IntKind.wrap .i64 ((IntKind.wrap .i64 (vlow + vhigh)) + 1)).tdiv 2)) - 1)))))
    (some (.inr vlow))

noncomputable def fleetref2_root (qn : Int) : Option (Int) :=
  (loopO (fleetref2_root_x1 qn) (0, 100000)).bind fun vlow1_1 =>
  some vlow1_1

/-! ### beaconfleet/fleetref2.LengthOf -/
noncomputable def fleetref2_LengthOf_x1 (ql : List api_Fix) : Int × Int → Option ((Int × Int) ⊕ (Int))
  | (vn, vi) =>
  cond (decide (vi < (ql.length : Int)))
    ((at? ql vi).bind fun vy2 =>
    (at? ql (IntKind.wrap .i64 (vi - 1))).bind fun vy3 =>
    (fleetref2_square vy2 vy3).bind fun _ =>
    (fleetref2_root (IntKind.wrap .i64 ((IntKind.wrap .i64 ((IntKind.wrap .i64 (vy2.X - vy3.X)) * (IntKind.wrap .i64 (vy2.X - vy3.X)))) + (IntKind.wrap .i64 ((IntKind.wrap .i64 (vy2.Y - vy3.Y)) * (IntKind.wrap .i64 (vy2.Y - vy3.Y))))))).bind fun vr1 =>
    some (.inl (IntKind.wrap .i64 (vn + vr1), IntKind.wrap .i64 (vi + 1))))
    (some (.inr vn))

noncomputable def fleetref2_LengthOf (ql : List api_Fix) : Option (Int) :=
  (loopO (fleetref2_LengthOf_x1 ql) (0, 1)).bind fun vn1_1 =>
  some vn1_1

/-! ### slices.Equal[[]beaconfleet/api.Visit,beaconfleet/api.Visit] -/
noncomputable def slices_Equal_api_Visit_api_Visit_x1 (qs1 : List api_Visit) (qs2 : List api_Visit) (vx : Int) : Option ((Int) ⊕ (Unit ⊕ Unit)) :=
  cond (decide (vx < (qs1.length : Int)))
    ((at? qs1 vx).bind fun vy2 =>
    (at? qs2 vx).bind fun vy3 =>
    cond (!(decide (vy2.From = vy3.From) && (decide (vy2.To = vy3.To) && true)))
      (some (.inr (.inr ())))
      (some (.inl (IntKind.wrap .i64 (vx + 1)))))
    (some (.inr (.inl ())))

noncomputable def slices_Equal_api_Visit_api_Visit (qs1 : List api_Visit) (qs2 : List api_Visit) : Option (Bool) :=
  cond (!decide ((qs1.length : Int) = (qs2.length : Int)))
    (some false)
    ((loopO (slices_Equal_api_Visit_api_Visit_x1 qs1 qs2) 0).bind fun x => match x with
      | .inl _ =>
        some true
      | .inr _ =>
        some false)

/-! ### slices.Equal[[]beaconfleet/api.Stay,beaconfleet/api.Stay] -/
noncomputable def slices_Equal_api_Stay_api_Stay_x1 (qs1 : List api_Stay) (qs2 : List api_Stay) (vx : Int) : Option ((Int) ⊕ (Unit ⊕ Unit)) :=
  cond (decide (vx < (qs1.length : Int)))
    ((at? qs1 vx).bind fun vy2 =>
    (at? qs2 vx).bind fun vy3 =>
    cond (!(decide (vy2.From = vy3.From) && (decide (vy2.To = vy3.To) && ((decide (vy2.Spot.X = vy3.Spot.X) && (decide (vy2.Spot.Y = vy3.Spot.Y) && true)) && true))))
      (some (.inr (.inr ())))
      (some (.inl (IntKind.wrap .i64 (vx + 1)))))
    (some (.inr (.inl ())))

noncomputable def slices_Equal_api_Stay_api_Stay (qs1 : List api_Stay) (qs2 : List api_Stay) : Option (Bool) :=
  cond (!decide ((qs1.length : Int) = (qs2.length : Int)))
    (some false)
    ((loopO (slices_Equal_api_Stay_api_Stay_x1 qs1 qs2) 0).bind fun x => match x with
      | .inl _ =>
        some true
      | .inr _ =>
        some false)

/-! ### beaconfleet/fleetlaw2.TracksVisit -/
noncomputable def fleetlaw2_TracksVisit_x1 (vr : Int) (vr1 : Int) (vr1_1 : Int) : Option (Int) :=
  cond (decide (vr < 0))
    ((fleetlaw2_when true 1).bind fun vr8 =>
    (fleetlaw2_errs ([vr1_1, vr8] : List Int)).bind fun vr9 =>
    some vr9)
    (cond (decide (10000 < vr))
      ((fleetlaw2_when true 1).bind fun vr10 =>
      (fleetlaw2_errs ([vr1_1, vr10] : List Int)).bind fun vr11 =>
      some vr11)
      (cond (decide (vr1 < 1))
        ((fleetlaw2_when true 1).bind fun vr12 =>
        (fleetlaw2_errs ([vr1_1, vr12] : List Int)).bind fun vr13 =>
        some vr13)
        ((fleetlaw2_when (decide (345686400000 < vr1)) 1).bind fun vr14 =>
        (fleetlaw2_errs ([vr1_1, vr14] : List Int)).bind fun vr15 =>
        some vr15)))

noncomputable def fleetlaw2_TracksVisit_x2 (vr4 : api_Fence) (vr2 : List api_Fix) (vr7 : Int) : Option ((List api_Visit)) :=
  cond (decide (vr7 = 0))
    ((fleetref2_VisitsOf vr4 vr2).bind fun vr2_1 =>
    some vr2_1)
    (some [])

noncomputable def fleetlaw2_TracksVisit_x3 (vr2 : List api_Fix) (vr : Int) (vr1 : Int) (vx1 : Int) : Option ((List api_Stay)) :=
  cond (decide (vx1 = 0))
    ((fleetref2_StaysOf vr2 vr vr1).bind fun vr16 =>
    some vr16)
    (some [])

noncomputable def fleetlaw2_TracksVisit_x4 (vr2 : List api_Fix) (vr1_1 : Int) : Option (Int) :=
  cond (decide (vr1_1 = 0))
    ((fleetref2_LengthOf vr2).bind fun vr2_2 =>
    some vr2_2)
    (some 0)

noncomputable def fleetlaw2_TracksVisit_x5 (vr4_1 : List api_Visit) (vr5 : Int) (vr3 : List api_Stay) (vr4_2 : Int) (vr3_1 : Int) (vr4_3 : Int) (vr1_1 : Int) (vr7 : Int) (vx1 : Int) (vx2_1 : List api_Visit) (vx3_1 : List api_Stay) (vx4_1 : Int) : Option (Bool) :=
  cond (decide (vr5 = vr7))
    ((slices_Equal_api_Visit_api_Visit vr4_1 vx2_1).bind fun vr17 =>
    cond (vr17)
      (cond (decide (vr4_2 = vx1))
        ((slices_Equal_api_Stay_api_Stay vr3 vx3_1).bind fun vr18 =>
        cond (vr18)
          (cond (decide (vr4_3 = vr1_1))
            (cond (decide (vr3_1 = vx4_1))
              ((fleetlaw2_placed).bind fun vr19 =>
              some vr19)
              (some false))
            (some false))
          (some false))
        (some false))
      (some false))
    (some false)

noncomputable def fleetlaw2_TracksVisit (qx : List Int) : Option (Bool) :=
  (fleetmake_Stream_Fence (fleetmake_Stream.mk qx 0)).bind fun (vs2, vr4) =>
  (fleetmake_Stream_Track vs2 14).bind fun (vs3, vr2) =>
  (fleetmake_Stream_Pick_o1 vs3 ([0, 1, 3, 5, (-1), 10001] : List Int)).bind fun vr =>
  (fleetmake_Stream_Pick_o1 (fleetmake_Stream.mk vs3.L (IntKind.wrap .i64 (vs3.at_ + 1))) ([1, 10, 1000, 2000, 0, 345686400001] : List Int)).bind fun vr1 =>
  (place_Visits vr4 vr2).bind fun (vr4_1, vr5) =>
  (place_Stays vr2 vr vr1).bind fun (vr3, vr4_2) =>
  (place_Length vr2).bind fun (vr3_1, vr4_3) =>
  (fleetref2_TrackFault vr2).bind fun vr1_1 =>
  (fleetref2_FenceFault vr4).bind fun vr6 =>
  (fleetlaw2_errs ([vr6, vr1_1] : List Int)).bind fun vr7 =>
  (fleetlaw2_TracksVisit_x1 vr vr1 vr1_1).bind fun vx1 =>
  (fleetlaw2_TracksVisit_x2 vr4 vr2 vr7).bind fun vx2_1 =>
  (fleetlaw2_TracksVisit_x3 vr2 vr vr1 vx1).bind fun vx3_1 =>
  (fleetlaw2_TracksVisit_x4 vr2 vr1_1).bind fun vx4_1 =>
  (fleetlaw2_TracksVisit_x5 vr4_1 vr5 vr3 vr4_2 vr3_1 vr4_3 vr1_1 vr7 vx1 vx2_1 vx3_1 vx4_1).bind fun vx5_1 =>
  some vx5_1

end Go.Eng
