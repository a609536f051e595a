/-
The Go functions that the law CellsNamed reaches, as plain functions.
-/
import Derived.Test.YtgjgjnfglkdgaaaDoorEngV

import Derived.Lib.ItoaNum

import Derived.Lib.SlTrimSet

namespace Go.Eng

open Go

set_option linter.unusedVariables false

structure fleetmake_Stream where
  L : List Int
  at_ : Int

def fleetmake_Stream.enc (x : fleetmake_Stream) : List D := [.lst (List.map (encI .i64) x.L), .int .i64 x.at_]

structure api_Spot where
  X : Int
  Y : Int

def api_Spot.enc (x : api_Spot) : List D := [.int .i64 x.X, .int .i64 x.Y]

structure api_Fence where
  Key : List UInt8
  Corners : List api_Spot

def api_Fence.enc (x : api_Fence) : List D := [.str x.Key, .lst (List.map api_Spot.enc x.Corners)]

/-! ### beaconfleet/fleetmake.Below -/
noncomputable def fleetmake_Below_x1 (qx : Int) (qn : Int) : Option (Int) :=
  cond (decide ((qx.tmod qn) < 0))
    (some (IntKind.wrap .i64 ((qx.tmod qn) + qn)))
    (some (qx.tmod qn))

noncomputable def fleetmake_Below (qx : Int) (qn : Int) : Option (Int) :=
  cond (decide (qn < 1))
    (some 0)
    (gd (!(qn == 0)) <|
    (fleetmake_Below_x1 qx qn).bind fun vx1 =>
    some vx1)

/-! ### (*beaconfleet/fleetmake.Stream).Next -/
noncomputable def fleetmake_Stream_Next (qs : fleetmake_Stream) (qn : Int) : Option (Int) :=
  cond (decide ((qs.L.length : Int) = 0))
    ((fleetmake_Below (IntKind.wrap .i64 ((IntKind.wrap .i64 (qs.at_ + 1)) * 7919)) qn).bind fun vr =>
    some vr)
    (gd (!((qs.L.length : Int) == 0)) <|
    (at? qs.L ((IntKind.wrap .i64 ((IntKind.wrap .i64 (qs.at_ + 1)) - 1)).tmod (qs.L.length : Int))).bind fun vy =>
    (fleetmake_Below vy 1073741824).bind fun vr1 =>
    (fleetmake_Below (IntKind.wrap .i64 (vr1 + (IntKind.wrap .i64 ((IntKind.wrap .i64 ((IntKind.wrap .i64 ((IntKind.wrap .i64 (qs.at_ + 1)) - 1)).tdiv (qs.L.length : Int))) * (IntKind.wrap .i64 ((7919 : Int) + ((IntKind.wrap .i64 ((IntKind.wrap .i64 (qs.at_ + 1)) - 1)).tmod (qs.L.length : Int)))))))) qn).bind fun vr2 =>
    some vr2)

/-! ### (*beaconfleet/fleetmake.Stream).Pick -/
noncomputable def fleetmake_Stream_Pick_o1 (qs : fleetmake_Stream) (ql : List Int) : Option (Int) :=
  (fleetmake_Stream_Next qs (ql.length : Int)).bind fun vr3 =>
  (at? ql vr3).bind fun vy =>
  some vy

/-! ### (*beaconfleet/fleetmake.Stream).Place -/
noncomputable def fleetmake_Stream_Place (qs : fleetmake_Stream) : Option (api_Spot) :=
  (fleetmake_Stream_Pick_o1 qs ([0, 1, 2, 3, 4, 5, 6, 8, 10, (-1), (-5), 20] : List Int)).bind fun vr =>
  (fleetmake_Stream_Pick_o1 (fleetmake_Stream.mk qs.L (IntKind.wrap .i64 (qs.at_ + 1))) ([0, 1, 2, 3, 4, 5, 6, 8, 10, (-1), (-5), 20] : List Int)).bind fun vr1 =>
  some (api_Spot.mk vr vr1)

/-! ### (*beaconfleet/fleetmake.Stream).Flip -/
noncomputable def fleetmake_Stream_Flip (qs : fleetmake_Stream) (qn : Int) : Option (Bool) :=
  (fleetmake_Stream_Next qs qn).bind fun vr3 =>
  some (decide (vr3 = 0))

/-! ### (*beaconfleet/fleetmake.Stream).Range -/
noncomputable def fleetmake_Stream_Range (qs : fleetmake_Stream) (qlow : Int) (qhigh : Int) : Option (fleetmake_Stream × Int) :=
  cond (decide (qhigh < qlow))
    (some (qs, qlow))
    ((fleetmake_Stream_Next qs (IntKind.wrap .i64 ((IntKind.wrap .i64 (qhigh - qlow)) + 1))).bind fun vr3 =>
    some (fleetmake_Stream.mk qs.L (IntKind.wrap .i64 (qs.at_ + 1)), IntKind.wrap .i64 (qlow + vr3)))

/-! ### (*beaconfleet/fleetmake.Stream).Odd -/
noncomputable def fleetmake_Stream_Odd (qs : fleetmake_Stream) (qlow : Int) (qhigh : Int) : Option (fleetmake_Stream × Int) :=
  (fleetmake_Stream_Flip qs 12).bind fun vr =>
  cond (vr)
    ((fleetmake_Stream_Pick_o1 (fleetmake_Stream.mk qs.L (IntKind.wrap .i64 (qs.at_ + 1))) ([IntKind.wrap .i64 (qlow - 1), IntKind.wrap .i64 (qhigh + 1), qlow, qhigh, (-1099511627776), 1099511627776] : List Int)).bind fun vr1 =>
    some (fleetmake_Stream.mk qs.L (IntKind.wrap .i64 ((IntKind.wrap .i64 (qs.at_ + 1)) + 1)), vr1))
    ((fleetmake_Stream_Range (fleetmake_Stream.mk qs.L (IntKind.wrap .i64 (qs.at_ + 1))) qlow qhigh).bind fun (vs, vr2) =>
    some (vs, vr2))

/-! ### (*beaconfleet/fleetmake.Stream).Spot -/
noncomputable def fleetmake_Stream_Spot_x1 (qs : fleetmake_Stream) (vr2 : api_Spot) : Option ((fleetmake_Stream × api_Spot)) :=
  (fleetmake_Stream_Flip (fleetmake_Stream.mk qs.L (IntKind.wrap .i64 ((IntKind.wrap .i64 (qs.at_ + 1)) + 1))) 15).bind fun vr =>
  cond (vr)
    ((fleetmake_Stream_Odd (fleetmake_Stream.mk qs.L (IntKind.wrap .i64 ((IntKind.wrap .i64 ((IntKind.wrap .i64 (qs.at_ + 1)) + 1)) + 1))) (-10000) 10000).bind fun (vs1, vr3) =>
    some (vs1, api_Spot.mk vr3 vr2.Y))
    (some (fleetmake_Stream.mk qs.L (IntKind.wrap .i64 ((IntKind.wrap .i64 ((IntKind.wrap .i64 (qs.at_ + 1)) + 1)) + 1)), vr2))

noncomputable def fleetmake_Stream_Spot (qs : fleetmake_Stream) : Option (fleetmake_Stream × api_Spot) :=
  (fleetmake_Stream_Place qs).bind fun vr2 =>
  (fleetmake_Stream_Spot_x1 qs vr2).bind fun (vs2, vp1) =>
  some (vs2, vp1)

/-! ### (*beaconfleet/fleetmake.Stream).Some -/
noncomputable def fleetmake_Stream_Some_o1 (qs : fleetmake_Stream) (ql : List (List UInt8)) : Option ((List UInt8)) :=
  (fleetmake_Stream_Next qs (ql.length : Int)).bind fun vr3 =>
  (at? ql vr3).bind fun vy =>
  some vy

/-! ### (*beaconfleet/fleetmake.Stream).CellKey -/
noncomputable def fleetmake_Stream_CellKey_x1 (vr : Int) : fleetmake_Stream × (List UInt8) × Int → Option ((fleetmake_Stream × (List UInt8) × Int) ⊕ ((fleetmake_Stream × (List UInt8))))
  | (vs1, vt, vx) =>
  cond (decide (vx < vr))
    ((fleetmake_Stream_Some_o1 vs1 ([([48] : List UInt8), ([49] : List UInt8), ([50] : List UInt8), ([51] : List UInt8)] : List (List UInt8))).bind fun vr2 =>
    gd (Nat.ble (vt.length + vr2.length) LIM) <|
    some (.inl (fleetmake_Stream.mk vs1.L (IntKind.wrap .i64 (vs1.at_ + 1)), vt ++ vr2, IntKind.wrap .i64 (vx + 1))))
    (some (.inr (vs1, vt)))

noncomputable def fleetmake_Stream_CellKey_x2 (vs2_1 : fleetmake_Stream) (vt1_1 : List UInt8) : Option ((fleetmake_Stream × (List UInt8))) :=
  (fleetmake_Stream_Flip vs2_1 10).bind fun vr3 =>
  cond (vr3)
    ((fleetmake_Stream_Some_o1 (fleetmake_Stream.mk vs2_1.L (IntKind.wrap .i64 (vs2_1.at_ + 1))) ([([52] : List UInt8), ([48, 49, 32] : List UInt8), ([48, 49, 50, 51, 48, 49, 50, 51, 48, 49, 50, 51, 48, 49, 50, 51] : List UInt8), ([97] : List UInt8)] : List (List UInt8))).bind fun vr4 =>
    some (fleetmake_Stream.mk vs2_1.L (IntKind.wrap .i64 ((IntKind.wrap .i64 (vs2_1.at_ + 1)) + 1)), vr4))
    (some (fleetmake_Stream.mk vs2_1.L (IntKind.wrap .i64 (vs2_1.at_ + 1)), vt1_1))

noncomputable def fleetmake_Stream_CellKey (qs : fleetmake_Stream) : Option (fleetmake_Stream × (List UInt8)) :=
  (fleetmake_Stream_Range qs 0 15).bind fun (vs, vr) =>
  (loopO (fleetmake_Stream_CellKey_x1 vr) (vs, ([] : List UInt8), 0)).bind fun (vs2_1, vt1_1) =>
  (fleetmake_Stream_CellKey_x2 vs2_1 vt1_1).bind fun (vs3_1, vt2_1) =>
  some (vs3_1, vt2_1)

/-! ### beaconfleet/fleetref2.in -/
noncomputable def fleetref2_in_x1 (qn : Int) (qlow : Int) (qhigh : Int) : Option (Bool) :=
  cond (decide (qlow ≤ qn))
    (some (decide (qn ≤ qhigh)))
    (some false)

noncomputable def fleetref2_in (qn : Int) (qlow : Int) (qhigh : Int) : Option (Bool) :=
  (fleetref2_in_x1 qn qlow qhigh).bind fun vx1 =>
  some vx1

/-! ### beaconfleet/fleetref2.SpotFault -/
noncomputable def fleetref2_SpotFault_x1 (qs : api_Spot) : Option (Bool) :=
  (fleetref2_in qs.X (-10000) 10000).bind fun vr =>
  cond (!vr)
    (some true)
    ((fleetref2_in qs.Y (-10000) 10000).bind fun vr1 =>
    some (!vr1))

noncomputable def fleetref2_SpotFault (qs : api_Spot) : Option (Int) :=
  (fleetref2_SpotFault_x1 qs).bind fun vx1 =>
  cond (vx1)
    (some 1)
    (some 0)

/-! ### slices.Index[[]beaconfleet/api.Spot,beaconfleet/api.Spot] -/
noncomputable def slices_Index_api_Spot_api_Spot_x1 (qs : List api_Spot) (qv : api_Spot) (vx : Int) : Option ((Int) ⊕ (Unit ⊕ Int)) :=
  cond (decide (vx < (qs.length : Int)))
    ((at? qs vx).bind fun vy1 =>
    cond ((decide (qv.X = vy1.X) && (decide (qv.Y = vy1.Y) && true)))
      (some (.inr (.inr vx)))
      (some (.inl (IntKind.wrap .i64 (vx + 1)))))
    (some (.inr (.inl ())))

noncomputable def slices_Index_api_Spot_api_Spot (qs : List api_Spot) (qv : api_Spot) : Option (Int) :=
  (loopO (slices_Index_api_Spot_api_Spot_x1 qs qv) 0).bind fun x => match x with
    | .inl _ =>
      some (-1)
    | .inr vx1_1 =>
      some vx1_1

/-! ### slices.Contains[[]beaconfleet/api.Spot,beaconfleet/api.Spot] -/
noncomputable def slices_Contains_api_Spot_api_Spot (qs : List api_Spot) (qv : api_Spot) : Option (Bool) :=
  (slices_Index_api_Spot_api_Spot qs qv).bind fun vr =>
  some (decide (0 ≤ vr))

/-! ### beaconfleet/fleetref2.edge -/
noncomputable def fleetref2_edge (ql : List api_Spot) (qi : Int) : Option (api_Spot × api_Spot) :=
  (at? ql qi).bind fun vy =>
  gd (!((ql.length : Int) == 0)) <|
  (at? ql ((IntKind.wrap .i64 (qi + 1)).tmod (ql.length : Int))).bind fun vy1 =>
  some (vy, vy1)

/-! ### beaconfleet/fleetref2.minus -/
noncomputable def fleetref2_minus (qa : api_Spot) (qb : api_Spot) : Option (Unit) :=
  some ()

/-! ### beaconfleet/fleetref2.cross -/
noncomputable def fleetref2_cross (qa : api_Spot) (qb : api_Spot) : Option (Unit) :=
  some ()

/-! ### beaconfleet/fleetref2.sign -/
noncomputable def fleetref2_sign (qn : Int) : Option (Int) :=
  cond (decide (qn < 0))
    (some (-1))
    (cond (decide (0 < qn))
      (some 1)
      (some 0))

/-! ### beaconfleet/fleetref2.side -/
noncomputable def fleetref2_side (qa : api_Spot) (qb : api_Spot) (qs : api_Spot) : Option (Int) :=
  (fleetref2_minus qb qa).bind fun _ =>
  (fleetref2_minus qs qa).bind fun _ =>
  (fleetref2_cross (api_Spot.mk (IntKind.wrap .i64 (qb.X - qa.X)) (IntKind.wrap .i64 (qb.Y - qa.Y))) (api_Spot.mk (IntKind.wrap .i64 (qs.X - qa.X)) (IntKind.wrap .i64 (qs.Y - qa.Y)))).bind fun _ =>
  (fleetref2_sign (IntKind.wrap .i64 ((IntKind.wrap .i64 ((IntKind.wrap .i64 (qb.X - qa.X)) * (IntKind.wrap .i64 (qs.Y - qa.Y)))) - (IntKind.wrap .i64 ((IntKind.wrap .i64 (qb.Y - qa.Y)) * (IntKind.wrap .i64 (qs.X - qa.X))))))).bind fun vr =>
  some vr

/-! ### beaconfleet/fleetref2.dot -/
noncomputable def fleetref2_dot (qa : api_Spot) (qb : api_Spot) : Option (Unit) :=
  some ()

/-! ### beaconfleet/fleetref2.onWay -/
noncomputable def fleetref2_onWay_x1 (qa : api_Spot) (qb : api_Spot) (qs : api_Spot) : Option (Bool) :=
  (fleetref2_side qa qb qs).bind fun vr1 =>
  cond (decide (vr1 = 0))
    ((fleetref2_minus qa qs).bind fun _ =>
    (fleetref2_minus qb qs).bind fun _ =>
    (fleetref2_dot (api_Spot.mk (IntKind.wrap .i64 (qa.X - qs.X)) (IntKind.wrap .i64 (qa.Y - qs.Y))) (api_Spot.mk (IntKind.wrap .i64 (qb.X - qs.X)) (IntKind.wrap .i64 (qb.Y - qs.Y)))).bind fun _ =>
    some (decide ((IntKind.wrap .i64 ((IntKind.wrap .i64 ((IntKind.wrap .i64 (qa.X - qs.X)) * (IntKind.wrap .i64 (qb.X - qs.X)))) + (IntKind.wrap .i64 ((IntKind.wrap .i64 (qa.Y - qs.Y)) * (IntKind.wrap .i64 (qb.Y - qs.Y)))))) ≤ 0)))
    (some false)

noncomputable def fleetref2_onWay (qa : api_Spot) (qb : api_Spot) (qs : api_Spot) : Option (Bool) :=
  (fleetref2_onWay_x1 qa qb qs).bind fun vx1 =>
  some vx1

/-! ### beaconfleet/fleetref2.touches -/
noncomputable def fleetref2_touches_x1 (qa : api_Spot) (qb : api_Spot) (qc : api_Spot) (qd : api_Spot) : Option (Bool) :=
  (fleetref2_onWay qa qb qc).bind fun vr =>
  cond (vr)
    (some true)
    ((fleetref2_onWay qa qb qd).bind fun vr1 =>
    cond (vr1)
      (some true)
      ((fleetref2_onWay qc qd qa).bind fun vr2 =>
      cond (vr2)
        (some true)
        ((fleetref2_onWay qc qd qb).bind fun vr3 =>
        some vr3)))

noncomputable def fleetref2_touches_x2 (qa : api_Spot) (qb : api_Spot) (qc : api_Spot) (qd : api_Spot) : Option (Bool) :=
  (fleetref2_side qa qb qc).bind fun vr1_1 =>
  (fleetref2_side qa qb qd).bind fun vr1_2 =>
  cond (decide ((IntKind.wrap .i64 (vr1_1 * vr1_2)) < 0))
    ((fleetref2_side qc qd qa).bind fun vr1_3 =>
    (fleetref2_side qc qd qb).bind fun vr1_4 =>
    some (decide ((IntKind.wrap .i64 (vr1_3 * vr1_4)) < 0)))
    (some false)

noncomputable def fleetref2_touches (qa : api_Spot) (qb : api_Spot) (qc : api_Spot) (qd : api_Spot) : Option (Bool) :=
  (fleetref2_touches_x1 qa qb qc qd).bind fun vx1 =>
  cond (vx1)
    (some true)
    ((fleetref2_touches_x2 qa qb qc qd).bind fun vx2_1 =>
    some vx2_1)

/-! ### beaconfleet/fleetref2.CornersFault -/
noncomputable def fleetref2_CornersFault_x1 (qx : List api_Spot) (vx : Int) : Option ((Int) ⊕ (Unit ⊕ Int)) :=
  cond (decide (vx < (qx.length : Int)))
    ((at? qx vx).bind fun vy1 =>
    (fleetref2_SpotFault vy1).bind fun vr2_1 =>
    cond (!decide (vr2_1 = 0))
      (some (.inr (.inr vr2_1)))
      ((sub? qx 0 vx).bind fun vl1 =>
      (slices_Contains_api_Spot_api_Spot vl1 vy1).bind fun vr1_1 =>
      cond (vr1_1)
        (some (.inr (.inr 6)))
        (some (.inl (IntKind.wrap .i64 (vx + 1))))))
    (some (.inr (.inl ())))

noncomputable def fleetref2_CornersFault_x5 (vr9 : api_Spot) (vr1_5 : api_Spot) (vr13 : api_Spot) (vr1_7 : api_Spot) : Option (Bool) :=
  (fleetref2_onWay vr9 vr1_5 vr1_7).bind fun vr14 =>
  cond (vr14)
    (some true)
    ((fleetref2_onWay vr13 vr1_7 vr9).bind fun vr15 =>
    some vr15)

noncomputable def fleetref2_CornersFault_x4 (qx : List api_Spot) (vx2 : Int) (vr9 : api_Spot) (vr1_5 : api_Spot) (vx6 : Int) : Option (Unit ⊕ Unit) :=
  (fleetref2_edge qx vx6).bind fun (vr13, vr1_7) =>
  cond (decide (vx6 = vx2))
    (some (.inl ()))
    (cond ((decide (vr1_5.X = vr13.X) && (decide (vr1_5.Y = vr13.Y) && true)))
      ((fleetref2_CornersFault_x5 vr9 vr1_5 vr13 vr1_7).bind fun vx8_1 =>
      cond (vx8_1)
        (some (.inr ()))
        (some (.inl ())))
      (cond ((decide (vr1_7.X = vr9.X) && (decide (vr1_7.Y = vr9.Y) && true)))
        (some (.inl ()))
        ((fleetref2_touches vr9 vr1_5 vr13 vr1_7).bind fun vr4_4 =>
        cond (vr4_4)
          (some (.inr ()))
          (some (.inl ())))))

noncomputable def fleetref2_CornersFault_x3 (qx : List api_Spot) (vx2 : Int) (vr9 : api_Spot) (vr1_5 : api_Spot) (vx6 : Int) : Option ((Int) ⊕ (Unit ⊕ Unit)) :=
  cond (decide (vx6 < (qx.length : Int)))
    ((fleetref2_CornersFault_x4 qx vx2 vr9 vr1_5 vx6).bind fun x => match x with
      | .inl _ =>
        some (.inl (IntKind.wrap .i64 (vx6 + 1)))
      | .inr _ =>
        some (.inr (.inr ())))
    (some (.inr (.inl ())))

noncomputable def fleetref2_CornersFault_x2 (qx : List api_Spot) (vx2 : Int) : Option ((Int) ⊕ (Unit ⊕ Unit)) :=
  cond (decide (vx2 < (qx.length : Int)))
    ((fleetref2_edge qx vx2).bind fun (vr9, vr1_5) =>
    (loopO (fleetref2_CornersFault_x3 qx vx2 vr9 vr1_5) 0).bind fun x => match x with
      | .inl _ =>
        some (.inl (IntKind.wrap .i64 (vx2 + 1)))
      | .inr _ =>
        some (.inr (.inr ())))
    (some (.inr (.inl ())))

noncomputable def fleetref2_CornersFault (qx : List api_Spot) : Option (Int) :=
  cond (decide ((qx.length : Int) < 3))
    (some 3)
    (cond (decide (200 < (qx.length : Int)))
      (some 2)
      ((loopO (fleetref2_CornersFault_x1 qx) 0).bind fun x => match x with
        | .inl _ =>
          (loopO (fleetref2_CornersFault_x2 qx) 0).bind fun x => match x with
            | .inl _ =>
              some 0
            | .inr _ =>
              some 13
        | .inr vx1_1 =>
          some vx1_1))

/-! ### (*beaconfleet/fleetmake.Stream).RightFence -/
noncomputable def fleetmake_Stream_RightFence_x2 (vr5 : Int) : fleetmake_Stream × (List api_Spot) × Int → Option ((fleetmake_Stream × (List api_Spot) × Int) ⊕ ((fleetmake_Stream × (List api_Spot))))
  | (vs8, vx8, vx9) =>
  cond (decide (vx9 < vr5))
    ((fleetmake_Stream_Place vs8).bind fun vr2_3 =>
    gd (Nat.ble (vx8.length + ([vr2_3] : List api_Spot).length) LIM) <|
    some (.inl (fleetmake_Stream.mk vs8.L (IntKind.wrap .i64 ((IntKind.wrap .i64 (vs8.at_ + 1)) + 1)), vx8 ++ ([vr2_3] : List api_Spot), IntKind.wrap .i64 (vx9 + 1))))
    (some (.inr (vs8, vx8)))

noncomputable def fleetmake_Stream_RightFence_x4 (vx10_1 : List api_Spot) : fleetmake_Stream × (List api_Spot) × Int → Option ((fleetmake_Stream × (List api_Spot) × Int) ⊕ ((fleetmake_Stream × (List api_Spot))))
  | (vs10, vx11, vx12) =>
  cond (decide (vx12 < (vx10_1.length : Int)))
    ((at? vx11 vx12).bind fun vy3 =>
    (fleetmake_Stream_Pick_o1 vs10 ([1, 100, (-400)] : List Int)).bind fun vr8 =>
    some (.inl (fleetmake_Stream.mk vs10.L (IntKind.wrap .i64 (vs10.at_ + 1)), vx11.set vx12.toNat (api_Spot.mk (IntKind.wrap .i64 (vy3.X * vr8)) vy3.Y), IntKind.wrap .i64 (vx12 + 1))))
    (some (.inr (vs10, vx11)))

noncomputable def fleetmake_Stream_RightFence_x3 (vs9_1 : fleetmake_Stream) (vx10_1 : List api_Spot) : Option ((fleetmake_Stream × (List api_Spot))) :=
  (fleetmake_Stream_Flip vs9_1 6).bind fun vr6 =>
  cond (vr6)
    ((loopO (fleetmake_Stream_RightFence_x4 vx10_1) (fleetmake_Stream.mk vs9_1.L (IntKind.wrap .i64 (vs9_1.at_ + 1)), vx10_1, 0)).bind fun (vs11_1, vx13_1) =>
    some (vs11_1, vx13_1))
    (some (fleetmake_Stream.mk vs9_1.L (IntKind.wrap .i64 (vs9_1.at_ + 1)), vx10_1))

noncomputable def fleetmake_Stream_RightFence_x1 : fleetmake_Stream × Int → Option ((fleetmake_Stream × Int) ⊕ (fleetmake_Stream ⊕ (fleetmake_Stream × (List api_Spot))))
  | (vs, vx) =>
  cond (decide (vx < 4))
    ((fleetmake_Stream_Range vs 3 6).bind fun (vs7, vr5) =>
    (loopO (fleetmake_Stream_RightFence_x2 vr5) (vs7, [], 0)).bind fun (vs9_1, vx10_1) =>
    (fleetmake_Stream_RightFence_x3 vs9_1 vx10_1).bind fun (vs12_1, vx14_1) =>
    (fleetref2_CornersFault vx14_1).bind fun vr16_1 =>
    cond (decide (vr16_1 = 0))
      (some (.inr (.inr (vs12_1, vx14_1))))
      (some (.inl (vs12_1, IntKind.wrap .i64 (vx + 1)))))
    (some (.inr (.inl vs)))

noncomputable def fleetmake_Stream_RightFence_x5 (vs13_1 : fleetmake_Stream) : Option ((List api_Spot)) :=
  (fleetmake_Stream_Next vs13_1 4).bind fun vr3_1 =>
  cond (decide (vr3_1 = 0))
    (some ([api_Spot.mk 0 0, api_Spot.mk 10 0, api_Spot.mk 10 10, api_Spot.mk 5 3, api_Spot.mk 0 10] : List api_Spot))
    (cond (decide (vr3_1 = 1))
      (some ([api_Spot.mk 0 10, api_Spot.mk 10 10, api_Spot.mk 10 0, api_Spot.mk 0 0] : List api_Spot))
      (cond (decide (vr3_1 = 2))
        (some ([api_Spot.mk 0 0, api_Spot.mk 8 0, api_Spot.mk 8 2, api_Spot.mk 2 2, api_Spot.mk 2 6, api_Spot.mk 8 6, api_Spot.mk 8 8, api_Spot.mk 0 8] : List api_Spot))
        (some ([api_Spot.mk 0 0, api_Spot.mk 10 0, api_Spot.mk 10 10, api_Spot.mk 0 10] : List api_Spot))))

noncomputable def fleetmake_Stream_RightFence (qx : fleetmake_Stream) : Option (fleetmake_Stream × (List api_Spot)) :=
  (loopO fleetmake_Stream_RightFence_x1 (qx, 0)).bind fun x => match x with
    | .inl vs13_1 =>
      (fleetmake_Stream_RightFence_x5 vs13_1).bind fun vx16_1 =>
      some (fleetmake_Stream.mk vs13_1.L (IntKind.wrap .i64 (vs13_1.at_ + 1)), vx16_1)
    | .inr (vs14_1, vx15_1) =>
      some (vs14_1, vx15_1)

/-! ### slices.Clone[[]beaconfleet/api.Spot,beaconfleet/api.Spot] -/
noncomputable def slices_Clone_api_Spot_api_Spot (qs : List api_Spot) : Option (List api_Spot) :=
  gd (Nat.ble (([] : List api_Spot).length + qs.length) LIM) (some qs)

/-! ### (*beaconfleet/fleetmake.Stream).Fence -/
noncomputable def fleetmake_Stream_Fence_x1 (vs15 : fleetmake_Stream) (vr9 : List api_Spot) : Option ((fleetmake_Stream × (List UInt8) × (List api_Spot))) :=
  (fleetmake_Stream_Flip vs15 8).bind fun vr =>
  cond (vr)
    ((fleetmake_Stream_Next (fleetmake_Stream.mk vs15.L (IntKind.wrap .i64 (vs15.at_ + 1))) 4).bind fun vr3 =>
    cond (decide (vr3 = 0))
      ((fleetmake_Stream_Some_o1 (fleetmake_Stream.mk vs15.L (IntKind.wrap .i64 ((IntKind.wrap .i64 (vs15.at_ + 1)) + 1))) ([([] : List UInt8), ([65] : List UInt8)] : List (List UInt8))).bind fun vr1 =>
      some (fleetmake_Stream.mk vs15.L (IntKind.wrap .i64 ((IntKind.wrap .i64 ((IntKind.wrap .i64 (vs15.at_ + 1)) + 1)) + 1)), vr1, vr9))
      (cond (decide (vr3 = 1))
        ((fleetmake_Stream_Next (fleetmake_Stream.mk vs15.L (IntKind.wrap .i64 ((IntKind.wrap .i64 (vs15.at_ + 1)) + 1))) 3).bind fun vr3_1 =>
        (sub? vr9 0 vr3_1).bind fun vl =>
        some (fleetmake_Stream.mk vs15.L (IntKind.wrap .i64 ((IntKind.wrap .i64 ((IntKind.wrap .i64 (vs15.at_ + 1)) + 1)) + 1)), ([102] : List UInt8), vl))
        (cond (decide (vr3 = 2))
          ((slices_Clone_api_Spot_api_Spot vr9).bind fun vr2 =>
          (fleetmake_Stream_Spot (fleetmake_Stream.mk vs15.L (IntKind.wrap .i64 ((IntKind.wrap .i64 (vs15.at_ + 1)) + 1)))).bind fun (vs3, vr1_1) =>
          gd (Nat.ble (vr2.length + ([vr1_1] : List api_Spot).length) LIM) <|
          some (vs3, ([102] : List UInt8), vr2 ++ ([vr1_1] : List api_Spot)))
          ((fleetmake_Stream_Place (fleetmake_Stream.mk vs15.L (IntKind.wrap .i64 ((IntKind.wrap .i64 (vs15.at_ + 1)) + 1)))).bind fun vr2_1 =>
          (fleetmake_Stream_Place (fleetmake_Stream.mk vs15.L (IntKind.wrap .i64 ((IntKind.wrap .i64 ((IntKind.wrap .i64 ((IntKind.wrap .i64 (vs15.at_ + 1)) + 1)) + 1)) + 1)))).bind fun vr2_2 =>
          (fleetmake_Stream_Place (fleetmake_Stream.mk vs15.L (IntKind.wrap .i64 ((IntKind.wrap .i64 ((IntKind.wrap .i64 ((IntKind.wrap .i64 ((IntKind.wrap .i64 ((IntKind.wrap .i64 (vs15.at_ + 1)) + 1)) + 1)) + 1)) + 1)) + 1)))).bind fun vr2_3 =>
          (fleetmake_Stream_Place (fleetmake_Stream.mk vs15.L (IntKind.wrap .i64 ((IntKind.wrap .i64 ((IntKind.wrap .i64 ((IntKind.wrap .i64 ((IntKind.wrap .i64 ((IntKind.wrap .i64 ((IntKind.wrap .i64 ((IntKind.wrap .i64 (vs15.at_ + 1)) + 1)) + 1)) + 1)) + 1)) + 1)) + 1)) + 1)))).bind fun vr2_4 =>
          some (fleetmake_Stream.mk vs15.L (IntKind.wrap .i64 ((IntKind.wrap .i64 ((IntKind.wrap .i64 ((IntKind.wrap .i64 ((IntKind.wrap .i64 ((IntKind.wrap .i64 ((IntKind.wrap .i64 ((IntKind.wrap .i64 ((IntKind.wrap .i64 ((IntKind.wrap .i64 (vs15.at_ + 1)) + 1)) + 1)) + 1)) + 1)) + 1)) + 1)) + 1)) + 1)) + 1)), ([102] : List UInt8), ([vr2_1, vr2_2, vr2_3, vr2_4] : List api_Spot))))))
    (some (fleetmake_Stream.mk vs15.L (IntKind.wrap .i64 (vs15.at_ + 1)), ([102] : List UInt8), vr9))

noncomputable def fleetmake_Stream_Fence (qs : fleetmake_Stream) : Option (fleetmake_Stream × api_Fence) :=
  (fleetmake_Stream_RightFence qs).bind fun (vs15, vr9) =>
  (fleetmake_Stream_Fence_x1 vs15 vr9).bind fun (vs1, vf2, vf1_1) =>
  some (vs1, api_Fence.mk vf2 vf1_1)

/-! ### beaconfleet/base.Out -/
noncomputable def base_Out_x1 (qn : Int) (qlow : Int) (qhigh : Int) : Option (Bool) :=
  cond (decide (qn < qlow))
    (some true)
    (some (decide (qhigh < qn)))

noncomputable def base_Out (qn : Int) (qlow : Int) (qhigh : Int) : Option (Bool) :=
  (base_Out_x1 qn qlow qhigh).bind fun vx1 =>
  some vx1

/-! ### beaconfleet/place.isSpot -/
noncomputable def place_isSpot_x1 (qs : api_Spot) : Option (Bool) :=
  (base_Out qs.X (-10000) 10000).bind fun vr =>
  cond (!vr)
    ((base_Out qs.Y (-10000) 10000).bind fun vr1 =>
    some (!vr1))
    (some false)

noncomputable def place_isSpot (qs : api_Spot) : Option (Bool) :=
  (place_isSpot_x1 qs).bind fun vx1 =>
  some vx1

/-! ### beaconfleet/place.Cell -/
noncomputable def place_Cell_x1 (qs : api_Spot) (qlevel : Int) : Option (Bool) :=
  (place_isSpot qs).bind fun vr2 =>
  cond (!vr2)
    (some true)
    ((base_Out qlevel 0 15).bind fun vr =>
    some vr)

noncomputable def place_Cell_x2 (qs : api_Spot) (qlevel : Int) : (List Int) × Int × Int → Option (((List Int) × Int × Int) ⊕ ((List Int)))
  | (vout, vlong, vx2) =>
  cond (decide (vx2 < qlevel))
    (gd (!((IntKind.wrap .i64 (vlong.tdiv 2)) == 0)) <|
    gd (Nat.ble (vout.length + ([IntKind.wrap .u8 ((IntKind.wrap .u8 ((48 : Int) + (IntKind.wrap .u8 ((IntKind.wrap .i64 ((IntKind.wrap .i64 (qs.X - (-16384))).tdiv (IntKind.wrap .i64 (vlong.tdiv 2)))).tmod 2)))) + (IntKind.wrap .u8 ((2 : Int) * (IntKind.wrap .u8 ((IntKind.wrap .i64 ((IntKind.wrap .i64 (qs.Y - (-16384))).tdiv (IntKind.wrap .i64 (vlong.tdiv 2)))).tmod 2)))))] : List Int).length) LIM) <|
    some (.inl (vout ++ ([IntKind.wrap .u8 ((IntKind.wrap .u8 ((48 : Int) + (IntKind.wrap .u8 ((IntKind.wrap .i64 ((IntKind.wrap .i64 (qs.X - (-16384))).tdiv (IntKind.wrap .i64 (vlong.tdiv 2)))).tmod 2)))) + (IntKind.wrap .u8 ((2 : Int) * (IntKind.wrap .u8 ((IntKind.wrap .i64 ((IntKind.wrap .i64 (qs.Y - (-16384))).tdiv (IntKind.wrap .i64 (vlong.tdiv 2)))).tmod 2)))))] : List Int), IntKind.wrap .i64 (vlong.tdiv 2), IntKind.wrap .i64 (vx2 + 1))))
    (some (.inr vout))

noncomputable def place_Cell (qs : api_Spot) (qlevel : Int) : Option ((List UInt8) × Int) :=
  (place_Cell_x1 qs qlevel).bind fun vx1 =>
  cond (vx1)
    (some (([] : List UInt8), 1))
    ((loopO (place_Cell_x2 qs qlevel) ([], 32768, 0)).bind fun vout1_1 =>
    some (vout1_1.map fun n => UInt8.ofNat n.toNat, 0))

/-! ### strings.trimRightByte -/
noncomputable def strings_trimRightByte_x2 (qc : Int) (vs : List UInt8) : Option (Bool) :=
  cond (decide (0 < (vs.length : Int)))
    ((at? vs (IntKind.wrap .i64 ((vs.length : Int) - 1))).bind fun vc1 =>
    some (decide ((vc1.toNat : Int) = qc)))
    (some false)

noncomputable def strings_trimRightByte_x1 (qc : Int) (vs : List UInt8) : Option (((List UInt8)) ⊕ ((List UInt8))) :=
  (strings_trimRightByte_x2 qc vs).bind fun vx2_1 =>
  cond (vx2_1)
    ((sub? vs 0 (IntKind.wrap .i64 ((vs.length : Int) - 1))).bind fun vs2 =>
    some (.inl vs2))
    (some (.inr vs))

noncomputable def strings_trimRightByte (qs : List UInt8) (qc : Int) : Option ((List UInt8)) :=
  (loopO (strings_trimRightByte_x1 qc) qs).bind fun vs3_1 =>
  some vs3_1

/-! ### strings.trimLeftByte -/
noncomputable def strings_trimLeftByte_x2 (qc : Int) (vs : List UInt8) : Option (Bool) :=
  cond (decide (0 < (vs.length : Int)))
    ((at? vs 0).bind fun vc1 =>
    some (decide ((vc1.toNat : Int) = qc)))
    (some false)

noncomputable def strings_trimLeftByte_x1 (qc : Int) (vs : List UInt8) : Option (((List UInt8)) ⊕ ((List UInt8))) :=
  (strings_trimLeftByte_x2 qc vs).bind fun vx2_1 =>
  cond (vx2_1)
    ((sub? vs 1 (vs.length : Int)).bind fun vs2 =>
    some (.inl vs2))
    (some (.inr vs))

noncomputable def strings_trimLeftByte (qs : List UInt8) (qc : Int) : Option ((List UInt8)) :=
  (loopO (strings_trimLeftByte_x1 qc) qs).bind fun vs3_1 =>
  some vs3_1

/-! ### strings.makeASCIISet -/
noncomputable def strings_makeASCIISet_x1 (qchars : List UInt8) : Unit → Option ((Unit) ⊕ (Unit ⊕ Unit))
  | _ =>
  cond (decide ((0 : Int) < (qchars.length : Int)))
    ((at? qchars 0).bind fun vc1 =>
    cond (decide (128 ≤ (vc1.toNat : Int)))
      (some (.inr (.inr ())))
      (none))
    (some (.inr (.inl ())))

noncomputable def strings_makeASCIISet (qchars : List UInt8) : Option (Bool) :=
  (loopO (strings_makeASCIISet_x1 qchars) ()).bind fun x => match x with
    | .inl _ =>
      some true
    | .inr _ =>
      some false

/-! ### strings.trimRightASCII -/
noncomputable def strings_trimRightASCII_x1 (qs : List UInt8) : Unit → Option ((Unit) ⊕ (Unit))
  | _ =>
  cond (decide (0 < (qs.length : Int)))
    ((at? qs (IntKind.wrap .i64 ((qs.length : Int) - 1))).bind fun vc1 =>
    none)
    (some (.inr ()))

noncomputable def strings_trimRightASCII (qs : List UInt8) (qas : Bool) : Option (Unit) :=
  (loopO (strings_trimRightASCII_x1 qs) ()).bind fun _ =>
  some ()

/-! ### strings.trimLeftASCII -/
noncomputable def strings_trimLeftASCII_x1 (qs : List UInt8) : Unit → Option ((Unit) ⊕ (Unit))
  | _ =>
  cond (decide (0 < (qs.length : Int)))
    ((at? qs 0).bind fun vc1 =>
    none)
    (some (.inr ()))

noncomputable def strings_trimLeftASCII (qs : List UInt8) (qas : Bool) : Option (Unit) :=
  (loopO (strings_trimLeftASCII_x1 qs) ()).bind fun _ =>
  some ()

/-! ### unicode/utf8.RuneStart -/
noncomputable def utf8_RuneStart (qb : Int) : Option (Unit) :=
  some ()

/-! ### unicode/utf8.decodeRuneInStringSlow -/
noncomputable def utf8_decodeRuneInStringSlow (qx : List UInt8) : Option (Unit) :=
  cond (decide ((qx.length : Int) < 1))
    (some ())
    ((at? qx 0).bind fun vc =>
    none)

/-! ### unicode/utf8.DecodeRuneInString -/
noncomputable def utf8_DecodeRuneInString_x1 (qs : List UInt8) : Option (Bool) :=
  cond (!decide (qs = ([] : List UInt8)))
    ((at? qs 0).bind fun vc =>
    some (decide ((vc.toNat : Int) < 128)))
    (some false)

noncomputable def utf8_DecodeRuneInString (qs : List UInt8) : Option (Int × Int) :=
  (utf8_DecodeRuneInString_x1 qs).bind fun vx1 =>
  cond (vx1)
    ((at? qs 0).bind fun vc1 =>
    some (IntKind.wrap .i32 ((vc1.toNat : Int)), 1))
    ((utf8_decodeRuneInStringSlow qs).bind fun _ =>
    some (65533, 0))

/-! ### unicode/utf8.DecodeLastRuneInString -/
noncomputable def utf8_DecodeLastRuneInString_x1 (qs : List UInt8) (vstart : Int) : Option ((Int) ⊕ (Int)) :=
  cond (decide ((imax (IntKind.wrap .i64 ((qs.length : Int) - 4)) 0) ≤ vstart))
    ((at? qs vstart).bind fun vc2 =>
    (utf8_RuneStart (vc2.toNat : Int)).bind fun _ =>
    cond (!decide ((ibits .and .u8 (vc2.toNat : Int) 192) = 128))
      (some (.inr vstart))
      (some (.inl (IntKind.wrap .i64 (vstart - 1)))))
    (some (.inr vstart))

noncomputable def utf8_DecodeLastRuneInString_x2 (vstart1_1 : Int) : Option (Int) :=
  cond (decide (vstart1_1 < 0))
    (some 0)
    (some vstart1_1)

noncomputable def utf8_DecodeLastRuneInString (qs : List UInt8) : Option (Int × Int) :=
  cond (decide ((qs.length : Int) = 0))
    (some (65533, 0))
    ((at? qs (IntKind.wrap .i64 ((qs.length : Int) - 1))).bind fun vc =>
    cond (decide ((IntKind.wrap .i32 ((vc.toNat : Int))) < 128))
      (some (IntKind.wrap .i32 ((vc.toNat : Int)), 1))
      ((loopO (utf8_DecodeLastRuneInString_x1 qs) (IntKind.wrap .i64 ((IntKind.wrap .i64 ((qs.length : Int) - 1)) - 1))).bind fun vstart1_1 =>
      (utf8_DecodeLastRuneInString_x2 vstart1_1).bind fun vstart2_1 =>
      (sub? qs vstart2_1 (qs.length : Int)).bind fun vs =>
      (utf8_DecodeRuneInString vs).bind fun (vr, vr1) =>
      cond (!decide ((IntKind.wrap .i64 (vstart2_1 + vr1)) = (qs.length : Int)))
        (some (65533, 1))
        (some (vr, vr1))))

/-! ### strings.trimRightUnicode -/
noncomputable def strings_trimRightUnicode_x2 (qs : List UInt8) (vc1 : UInt8) : Option ((Int × Int)) :=
  cond (decide (128 ≤ (IntKind.wrap .i32 ((vc1.toNat : Int)))))
    ((utf8_DecodeLastRuneInString qs).bind fun (vr2_1, vr3_1) =>
    some (vr2_1, vr3_1))
    (some (IntKind.wrap .i32 ((vc1.toNat : Int)), 1))

noncomputable def strings_trimRightUnicode_x1 (qs : List UInt8) : Unit → Option ((Unit) ⊕ (Unit))
  | _ =>
  cond (decide (0 < (qs.length : Int)))
    ((at? qs (IntKind.wrap .i64 ((qs.length : Int) - 1))).bind fun vc1 =>
    (strings_trimRightUnicode_x2 qs vc1).bind fun (vr4_1, vn2_1) =>
    none)
    (some (.inr ()))

noncomputable def strings_trimRightUnicode (qs : List UInt8) (qcutset : List UInt8) : Option (Unit) :=
  (loopO (strings_trimRightUnicode_x1 qs) ()).bind fun _ =>
  some ()

/-! ### strings.trimLeftUnicode -/
noncomputable def strings_trimLeftUnicode_x1 (qs : List UInt8) : Unit → Option ((Unit) ⊕ (Unit))
  | _ =>
  cond (decide (0 < (qs.length : Int)))
    ((utf8_DecodeRuneInString qs).bind fun (vr2, vr1_1) =>
    none)
    (some (.inr ()))

noncomputable def strings_trimLeftUnicode (qs : List UInt8) (qcutset : List UInt8) : Option (Unit) :=
  (loopO (strings_trimLeftUnicode_x1 qs) ()).bind fun _ =>
  some ()

/-! ### strings.Trim -/
noncomputable def strings_Trim_x1 (qs : List UInt8) (qcutset : List UInt8) : Option (Bool) :=
  cond (decide (qs = ([] : List UInt8)))
    (some true)
    (some (decide (qcutset = ([] : List UInt8))))

noncomputable def strings_Trim_x2 (qcutset : List UInt8) : Option (Bool) :=
  cond (decide ((qcutset.length : Int) = 1))
    ((at? qcutset 0).bind fun vc =>
    some (decide ((vc.toNat : Int) < 128)))
    (some false)

noncomputable def strings_Trim (qs : List UInt8) (qcutset : List UInt8) : Option ((List UInt8)) :=
  (strings_Trim_x1 qs qcutset).bind fun vx1 =>
  cond (vx1)
    (some qs)
    ((strings_Trim_x2 qcutset).bind fun vx2_1 =>
    cond (vx2_1)
      ((at? qcutset 0).bind fun vc1 =>
      (strings_trimRightByte qs (vc1.toNat : Int)).bind fun vr =>
      (strings_trimLeftByte vr (vc1.toNat : Int)).bind fun vr1 =>
      some vr1)
      ((strings_makeASCIISet qcutset).bind fun vr2 =>
      cond (vr2)
        ((strings_trimRightASCII qs false).bind fun _ =>
        (strings_trimLeftASCII qs false).bind fun _ =>
        some qs)
        ((strings_trimRightUnicode qs qcutset).bind fun _ =>
        (strings_trimLeftUnicode qs qcutset).bind fun _ =>
        some qs)))

/-! ### strings.Trim -/
noncomputable def strings_Trim_l (qs : List UInt8) (qcutset : List UInt8) : Option (List UInt8) :=
  cond (decide (qs = [])) (strings_Trim qs qcutset) (gd (decide (2 ≤ qcutset.length) && decide (0 < qs.length) && decide (qs.length ≤ 9223372036854775807) && decide (qcutset.length < 4294967281) && (qcutset.all fun b => decide (b.toNat < 128))) (some (Lib.trimS qs qcutset)))

/-! ### beaconfleet/place.cellBox -/
noncomputable def place_cellBox_x1 (qkey : List UInt8) : api_Spot × Int × Int → Option ((api_Spot × Int × Int) ⊕ ((api_Spot × Int)))
  | (vs, vlong, vx) =>
  cond (decide (vx < (qkey.length : Int)))
    ((at? qkey vx).bind fun vc1 =>
    some (.inl (api_Spot.mk (IntKind.wrap .i64 (vs.X + (IntKind.wrap .i64 (((IntKind.wrap .i64 (IntKind.wrap .u8 ((vc1.toNat : Int) - 48))).tmod 2) * (IntKind.wrap .i64 (vlong.tdiv 2)))))) (IntKind.wrap .i64 (vs.Y + (IntKind.wrap .i64 ((IntKind.wrap .i64 ((IntKind.wrap .i64 (IntKind.wrap .u8 ((vc1.toNat : Int) - 48))).tdiv 2)) * (IntKind.wrap .i64 (vlong.tdiv 2)))))), IntKind.wrap .i64 (vlong.tdiv 2), IntKind.wrap .i64 (vx + 1))))
    (some (.inr (vs, vlong)))

noncomputable def place_cellBox (qkey : List UInt8) : Option (api_Spot × Int) :=
  (loopO (place_cellBox_x1 qkey) (api_Spot.mk (-16384) (-16384), 32768, 0)).bind fun (vs1_1, vlong1_1) =>
  some (vs1_1, vlong1_1)

/-! ### beaconfleet/place.CellBox -/
noncomputable def place_CellBox_x1 (qkey : List UInt8) : Option (Bool) :=
  cond (decide (15 < (qkey.length : Int)))
    (some true)
    ((strings_Trim_l qkey ([48, 49, 50, 51] : List UInt8)).bind fun vr =>
    some (!decide (vr = ([] : List UInt8))))

noncomputable def place_CellBox (qkey : List UInt8) : Option (api_Spot × Int × Int) :=
  (place_CellBox_x1 qkey).bind fun vx1 =>
  cond (vx1)
    (some (api_Spot.mk 0 0, 0, 9))
    ((place_cellBox qkey).bind fun (vr1, vr1_1) =>
    some (vr1, vr1_1, 0))

/-! ### beaconfleet/base.Key -/
noncomputable def base_Key_x1 (qs : List UInt8) : Option (Bool) :=
  cond (decide (qs = ([] : List UInt8)))
    (some true)
    (cond (decide (40 < (qs.length : Int)))
      (some true)
      ((at? qs 0).bind fun vc =>
      cond (decide ((vc.toNat : Int) < 97))
        (some true)
        (some (decide (122 < (vc.toNat : Int))))))

noncomputable def base_Key_x3 (vc2 : UInt8) : Option (Bool) :=
  cond (decide (97 ≤ (vc2.toNat : Int)))
    (cond (decide ((vc2.toNat : Int) ≤ 122))
      (some false)
      (cond (decide (48 ≤ (vc2.toNat : Int)))
        (cond (decide ((vc2.toNat : Int) ≤ 57))
          (some false)
          (cond (decide ((vc2.toNat : Int) = 45))
            (some false)
            (some (!(decide ((vc2.toNat : Int) = 95))))))
        (cond (decide ((vc2.toNat : Int) = 45))
          (some false)
          (some (!(decide ((vc2.toNat : Int) = 95)))))))
    (cond (decide (48 ≤ (vc2.toNat : Int)))
      (cond (decide ((vc2.toNat : Int) ≤ 57))
        (some false)
        (cond (decide ((vc2.toNat : Int) = 45))
          (some false)
          (some (!(decide ((vc2.toNat : Int) = 95))))))
      (cond (decide ((vc2.toNat : Int) = 45))
        (some false)
        (some (!(decide ((vc2.toNat : Int) = 95))))))

noncomputable def base_Key_x2 (qs : List UInt8) (vx2 : Int) : Option ((Int) ⊕ (Unit ⊕ Unit)) :=
  cond (decide (vx2 < (qs.length : Int)))
    ((at? qs vx2).bind fun vc2 =>
    (base_Key_x3 vc2).bind fun vx4_1 =>
    cond (vx4_1)
      (some (.inr (.inr ())))
      (some (.inl (IntKind.wrap .i64 (vx2 + 1)))))
    (some (.inr (.inl ())))

noncomputable def base_Key (qs : List UInt8) : Option (Bool) :=
  (base_Key_x1 qs).bind fun vx1 =>
  cond (vx1)
    (some false)
    ((loopO (base_Key_x2 qs) 0).bind fun x => match x with
      | .inl _ =>
        some true
      | .inr _ =>
        some false)

/-! ### beaconfleet/place.side -/
noncomputable def place_side (qa : api_Spot) (qb : api_Spot) (qs : api_Spot) : Option (Unit) :=
  some ()

/-! ### beaconfleet/place.on -/
noncomputable def place_on_x1 (qa : api_Spot) (qb : api_Spot) (qs : api_Spot) : Option (Bool) :=
  (place_side qa qb qs).bind fun _ =>
  cond (decide ((IntKind.wrap .i64 ((IntKind.wrap .i64 ((IntKind.wrap .i64 (qb.X - qa.X)) * (IntKind.wrap .i64 (qs.Y - qa.Y)))) - (IntKind.wrap .i64 ((IntKind.wrap .i64 (qb.Y - qa.Y)) * (IntKind.wrap .i64 (qs.X - qa.X)))))) = 0))
    (cond (decide ((imin qa.X qb.X) ≤ qs.X))
      (cond (decide (qs.X ≤ (imax qa.X qb.X)))
        (cond (decide ((imin qa.Y qb.Y) ≤ qs.Y))
          (some (decide (qs.Y ≤ (imax qa.Y qb.Y))))
          (some false))
        (some false))
      (some false))
    (some false)

noncomputable def place_on (qa : api_Spot) (qb : api_Spot) (qs : api_Spot) : Option (Bool) :=
  (place_on_x1 qa qb qs).bind fun vx1 =>
  some vx1

/-! ### cmp.isNaN[int] -/
noncomputable def cmp_isNaN_int (qx : Int) : Option (Unit) :=
  some ()

/-! ### cmp.Compare[int] -/
noncomputable def cmp_Compare_int (qx : Int) (qy : Int) : Option (Int) :=
  (cmp_isNaN_int qx).bind fun _ =>
  (cmp_isNaN_int qy).bind fun _ =>
  cond (!decide (qx = qx))
    (cond (!decide (qy = qy))
      (some 0)
      (some (-1)))
    (cond (!decide (qy = qy))
      (some 1)
      (cond (decide (qx < qy))
        (some (-1))
        (cond (decide (qy < qx))
          (some 1)
          (some 0))))

/-! ### beaconfleet/place.meets -/
noncomputable def place_meets_x1 (qx : api_Spot) (qx1 : api_Spot) (qx2 : api_Spot) (qx3 : api_Spot) : Option (Bool) :=
  (place_on qx qx1 qx2).bind fun vr =>
  cond (vr)
    (some true)
    ((place_on qx qx1 qx3).bind fun vr1 =>
    cond (vr1)
      (some true)
      ((place_on qx2 qx3 qx).bind fun vr2 =>
      cond (vr2)
        (some true)
        ((place_on qx2 qx3 qx1).bind fun vr3 =>
        some vr3)))

noncomputable def place_meets_x2 (vr4 : Int) (vr5 : Int) (vr6 : Int) (vr7 : Int) : Option (Bool) :=
  cond (decide ((IntKind.wrap .i64 (vr4 * vr5)) < 0))
    (some (decide ((IntKind.wrap .i64 (vr6 * vr7)) < 0)))
    (some false)

noncomputable def place_meets (qx : api_Spot) (qx1 : api_Spot) (qx2 : api_Spot) (qx3 : api_Spot) : Option (Bool) :=
  (place_meets_x1 qx qx1 qx2 qx3).bind fun vx1 =>
  cond (vx1)
    (some true)
    ((place_side qx qx1 qx2).bind fun _ =>
    (cmp_Compare_int (IntKind.wrap .i64 ((IntKind.wrap .i64 ((IntKind.wrap .i64 (qx1.X - qx.X)) * (IntKind.wrap .i64 (qx2.Y - qx.Y)))) - (IntKind.wrap .i64 ((IntKind.wrap .i64 (qx1.Y - qx.Y)) * (IntKind.wrap .i64 (qx2.X - qx.X)))))) 0).bind fun vr4 =>
    (place_side qx qx1 qx3).bind fun _ =>
    (cmp_Compare_int (IntKind.wrap .i64 ((IntKind.wrap .i64 ((IntKind.wrap .i64 (qx1.X - qx.X)) * (IntKind.wrap .i64 (qx3.Y - qx.Y)))) - (IntKind.wrap .i64 ((IntKind.wrap .i64 (qx1.Y - qx.Y)) * (IntKind.wrap .i64 (qx3.X - qx.X)))))) 0).bind fun vr5 =>
    (place_side qx2 qx3 qx).bind fun _ =>
    (cmp_Compare_int (IntKind.wrap .i64 ((IntKind.wrap .i64 ((IntKind.wrap .i64 (qx3.X - qx2.X)) * (IntKind.wrap .i64 (qx.Y - qx2.Y)))) - (IntKind.wrap .i64 ((IntKind.wrap .i64 (qx3.Y - qx2.Y)) * (IntKind.wrap .i64 (qx.X - qx2.X)))))) 0).bind fun vr6 =>
    (place_side qx2 qx3 qx1).bind fun _ =>
    (cmp_Compare_int (IntKind.wrap .i64 ((IntKind.wrap .i64 ((IntKind.wrap .i64 (qx3.X - qx2.X)) * (IntKind.wrap .i64 (qx1.Y - qx2.Y)))) - (IntKind.wrap .i64 ((IntKind.wrap .i64 (qx3.Y - qx2.Y)) * (IntKind.wrap .i64 (qx1.X - qx2.X)))))) 0).bind fun vr7 =>
    (place_meets_x2 vr4 vr5 vr6 vr7).bind fun vx2_1 =>
    some vx2_1)

/-! ### beaconfleet/place.crossed -/
noncomputable def place_crossed_x3 (qx : List api_Spot) (vx : Int) (vy6 : api_Spot) (vy7 : api_Spot) (vx8 : Int) (vy10 : api_Spot) (vy11 : api_Spot) : Option (Bool) :=
  cond (!(decide (vx8 = (IntKind.wrap .i64 (vx + 1)))))
    (cond (!(decide (((IntKind.wrap .i64 (vx8 + 1)).tmod (qx.length : Int)) = vx)))
      ((place_meets vy6 vy7 vy10 vy11).bind fun vr8_3 =>
      some vr8_3)
      (some false))
    (some false)

noncomputable def place_crossed_x4 (vx : Int) (vy6 : api_Spot) (vy7 : api_Spot) (vx8 : Int) (vy10 : api_Spot) (vy11 : api_Spot) : Option (Bool) :=
  cond (decide (vx8 = (IntKind.wrap .i64 (vx + 1))))
    ((place_on vy6 vy7 vy11).bind fun vr13 =>
    cond (vr13)
      (some true)
      ((place_on vy10 vy11 vy6).bind fun vr14 =>
      some vr14))
    (some false)

noncomputable def place_crossed_x5 (qx : List api_Spot) (vx : Int) (vy6 : api_Spot) (vy7 : api_Spot) (vx8 : Int) (vy10 : api_Spot) (vy11 : api_Spot) : Option (Bool) :=
  cond (decide (((IntKind.wrap .i64 (vx8 + 1)).tmod (qx.length : Int)) = vx))
    ((place_on vy6 vy7 vy10).bind fun vr15 =>
    cond (vr15)
      (some true)
      ((place_on vy10 vy11 vy7).bind fun vr16 =>
      some vr16))
    (some false)

noncomputable def place_crossed_x2 (qx : List api_Spot) (vx : Int) (vy6 : api_Spot) (vy7 : api_Spot) (vx8 : Int) : Option ((Int) ⊕ (Unit ⊕ Unit)) :=
  cond (decide (vx8 < (qx.length : Int)))
    ((at? qx vx8).bind fun vy10 =>
    gd (!((qx.length : Int) == 0)) <|
    (at? qx ((IntKind.wrap .i64 (vx8 + 1)).tmod (qx.length : Int))).bind fun vy11 =>
    (place_crossed_x3 qx vx vy6 vy7 vx8 vy10 vy11).bind fun vx12_1 =>
    cond (vx12_1)
      (some (.inr (.inr ())))
      ((place_crossed_x4 vx vy6 vy7 vx8 vy10 vy11).bind fun vx13_1 =>
      cond (vx13_1)
        (some (.inr (.inr ())))
        ((place_crossed_x5 qx vx vy6 vy7 vx8 vy10 vy11).bind fun vx14_1 =>
        cond (vx14_1)
          (some (.inr (.inr ())))
          (some (.inl (IntKind.wrap .i64 (vx8 + 1)))))))
    (some (.inr (.inl ())))

noncomputable def place_crossed_x1 (qx : List api_Spot) (vx : Int) : Option ((Int) ⊕ (Unit ⊕ Unit)) :=
  cond (decide (vx < (qx.length : Int)))
    ((at? qx vx).bind fun vy6 =>
    gd (!((qx.length : Int) == 0)) <|
    (at? qx ((IntKind.wrap .i64 (vx + 1)).tmod (qx.length : Int))).bind fun vy7 =>
    (loopO (place_crossed_x2 qx vx vy6 vy7) (IntKind.wrap .i64 (vx + 1))).bind fun x => match x with
      | .inl _ =>
        some (.inl (IntKind.wrap .i64 (vx + 1)))
      | .inr _ =>
        some (.inr (.inr ())))
    (some (.inr (.inl ())))

noncomputable def place_crossed (qx : List api_Spot) : Option (Bool) :=
  (loopO (place_crossed_x1 qx) 0).bind fun x => match x with
    | .inl _ =>
      some false
    | .inr _ =>
      some true

/-! ### beaconfleet/place.CheckFence -/
noncomputable def place_CheckFence_x1 (qf : api_Fence) (vx : Int) : Option ((Int) ⊕ (Unit ⊕ Int)) :=
  cond (decide (vx < (qf.Corners.length : Int)))
    ((at? qf.Corners vx).bind fun vy1 =>
    (place_isSpot vy1).bind fun vr2_1 =>
    cond (!vr2_1)
      (some (.inr (.inr 1)))
      ((sub? qf.Corners 0 vx).bind fun vl1 =>
      (slices_Contains_api_Spot_api_Spot vl1 vy1).bind fun vr1_1 =>
      cond (vr1_1)
        (some (.inr (.inr 6)))
        (some (.inl (IntKind.wrap .i64 (vx + 1))))))
    (some (.inr (.inl ())))

noncomputable def place_CheckFence (qf : api_Fence) : Option (Int) :=
  (base_Key qf.Key).bind fun vr =>
  cond (!vr)
    (some 5)
    (cond (decide ((qf.Corners.length : Int) < 3))
      (some 3)
      (cond (decide (200 < (qf.Corners.length : Int)))
        (some 2)
        ((loopO (place_CheckFence_x1 qf) 0).bind fun x => match x with
          | .inl _ =>
            (place_crossed qf.Corners).bind fun vr17 =>
            cond (vr17)
              (some 13)
              (some 0)
          | .inr vx1_1 =>
            some vx1_1)))

/-! ### beaconfleet/place.where$1 -/
noncomputable def place_where_1 (qa : api_Spot) (qb : api_Spot) (qx : api_Spot) : Option (Bool) :=
  (place_on qa qb qx).bind fun vr =>
  some vr

/-! ### beaconfleet/place.edges -/
noncomputable def place_edges_f1_place_where_1_x1 (ql : List api_Spot) (qf : api_Spot) (vx : Int) : Option ((Int) ⊕ (Unit ⊕ Unit)) :=
  cond (decide (vx < (ql.length : Int)))
    ((at? ql vx).bind fun vy2 =>
    gd (!((ql.length : Int) == 0)) <|
    (at? ql ((IntKind.wrap .i64 (vx + 1)).tmod (ql.length : Int))).bind fun vy3 =>
    (place_where_1 vy2 vy3 qf).bind fun vr1_1 =>
    cond (vr1_1)
      (some (.inr (.inr ())))
      (some (.inl (IntKind.wrap .i64 (vx + 1)))))
    (some (.inr (.inl ())))

noncomputable def place_edges_f1_place_where_1 (ql : List api_Spot) (qf : api_Spot) : Option (Bool) :=
  (loopO (place_edges_f1_place_where_1_x1 ql qf) 0).bind fun x => match x with
    | .inl _ =>
      some false
    | .inr _ =>
      some true

/-! ### beaconfleet/place.where$2 -/
noncomputable def place_where_2_x1 (qa : api_Spot) (qb : api_Spot) : Option ((api_Spot × api_Spot)) :=
  cond (decide (qb.Y < qa.Y))
    (some (qb, qa))
    (some (qa, qb))

noncomputable def place_where_2_x3 (qx : api_Spot) (va1 : api_Spot) (vb1 : api_Spot) : Option (Bool) :=
  cond (decide (va1.Y ≤ qx.Y))
    (cond (decide (qx.Y < vb1.Y))
      ((place_side va1 vb1 qx).bind fun _ =>
      some (decide (0 < (IntKind.wrap .i64 ((IntKind.wrap .i64 ((IntKind.wrap .i64 (vb1.X - va1.X)) * (IntKind.wrap .i64 (qx.Y - va1.Y)))) - (IntKind.wrap .i64 ((IntKind.wrap .i64 (vb1.Y - va1.Y)) * (IntKind.wrap .i64 (qx.X - va1.X)))))))))
      (some false))
    (some false)

noncomputable def place_where_2_x2 (qx : api_Spot) (qx1 : Bool) (va1 : api_Spot) (vb1 : api_Spot) : Option (Bool) :=
  (place_where_2_x3 qx va1 vb1).bind fun vx1 =>
  cond (vx1)
    (some (!qx1))
    (some qx1)

noncomputable def place_where_2 (qa : api_Spot) (qb : api_Spot) (qx : api_Spot) (qx1 : Bool) : Option (Bool) :=
  (place_where_2_x1 qa qb).bind fun (va1, vb1) =>
  (place_where_2_x2 qx qx1 va1 vb1).bind fun vs1 =>
  some vs1

/-! ### beaconfleet/place.edges -/
noncomputable def place_edges_f1_place_where_2_x1 (ql : List api_Spot) (qf : api_Spot) : Bool × Int → Option ((Bool × Int) ⊕ (Bool))
  | (vs, vx) =>
  cond (decide (vx < (ql.length : Int)))
    ((at? ql vx).bind fun vy2 =>
    gd (!((ql.length : Int) == 0)) <|
    (at? ql ((IntKind.wrap .i64 (vx + 1)).tmod (ql.length : Int))).bind fun vy3 =>
    (place_where_2 vy2 vy3 qf vs).bind fun vs2_1 =>
    some (.inl (vs2_1, IntKind.wrap .i64 (vx + 1))))
    (some (.inr vs))

noncomputable def place_edges_f1_place_where_2 (ql : List api_Spot) (qf : api_Spot) (qf1 : Bool) : Option (Bool) :=
  (loopO (place_edges_f1_place_where_2_x1 ql qf) (qf1, 0)).bind fun vs1_1 =>
  some vs1_1

/-! ### beaconfleet/place.where -/
noncomputable def place_where (ql : List api_Spot) (qs : api_Spot) : Option (Int) :=
  (place_edges_f1_place_where_1 ql qs).bind fun vr =>
  cond (vr)
    (some 1)
    ((place_edges_f1_place_where_2 ql qs false).bind fun vs3 =>
    cond (vs3)
      (some 2)
      (some 0))

/-! ### beaconfleet/place.touch$1$1 -/
noncomputable def place_touch_1_1 (qc : api_Spot) (qd : api_Spot) (qx : api_Spot) (qx1 : api_Spot) : Option (Bool) :=
  (place_meets qx qx1 qc qd).bind fun vr8 =>
  some vr8

/-! ### beaconfleet/place.edges -/
noncomputable def place_edges_f1_place_touch_1_1_x1 (ql : List api_Spot) (qf : api_Spot) (qf1 : api_Spot) (vx : Int) : Option ((Int) ⊕ (Unit ⊕ Unit)) :=
  cond (decide (vx < (ql.length : Int)))
    ((at? ql vx).bind fun vy2 =>
    gd (!((ql.length : Int) == 0)) <|
    (at? ql ((IntKind.wrap .i64 (vx + 1)).tmod (ql.length : Int))).bind fun vy3 =>
    (place_touch_1_1 vy2 vy3 qf qf1).bind fun vr1 =>
    cond (vr1)
      (some (.inr (.inr ())))
      (some (.inl (IntKind.wrap .i64 (vx + 1)))))
    (some (.inr (.inl ())))

noncomputable def place_edges_f1_place_touch_1_1 (ql : List api_Spot) (qf : api_Spot) (qf1 : api_Spot) : Option (Bool) :=
  (loopO (place_edges_f1_place_touch_1_1_x1 ql qf qf1) 0).bind fun x => match x with
    | .inl _ =>
      some false
    | .inr _ =>
      some true

/-! ### beaconfleet/place.touch$1 -/
noncomputable def place_touch_1 (qa : api_Spot) (qb : api_Spot) (qx : List api_Spot) : Option (Bool) :=
  (place_edges_f1_place_touch_1_1 qx qa qb).bind fun vr2 =>
  some vr2

/-! ### beaconfleet/place.edges -/
noncomputable def place_edges_f1_place_touch_1_x1 (ql : List api_Spot) (qf : List api_Spot) (vx : Int) : Option ((Int) ⊕ (Unit ⊕ Unit)) :=
  cond (decide (vx < (ql.length : Int)))
    ((at? ql vx).bind fun vy2 =>
    gd (!((ql.length : Int) == 0)) <|
    (at? ql ((IntKind.wrap .i64 (vx + 1)).tmod (ql.length : Int))).bind fun vy3 =>
    (place_touch_1 vy2 vy3 qf).bind fun vr1 =>
    cond (vr1)
      (some (.inr (.inr ())))
      (some (.inl (IntKind.wrap .i64 (vx + 1)))))
    (some (.inr (.inl ())))

noncomputable def place_edges_f1_place_touch_1 (ql : List api_Spot) (qf : List api_Spot) : Option (Bool) :=
  (loopO (place_edges_f1_place_touch_1_x1 ql qf) 0).bind fun x => match x with
    | .inl _ =>
      some false
    | .inr _ =>
      some true

/-! ### beaconfleet/place.touch -/
noncomputable def place_touch_x1 (ql : List api_Spot) (qm : List api_Spot) : Option (Bool) :=
  (at? qm 0).bind fun vy =>
  (place_where ql vy).bind fun vr1 =>
  cond (!decide (vr1 = 0))
    (some true)
    ((at? ql 0).bind fun vy1 =>
    (place_where qm vy1).bind fun vr1_1 =>
    cond (!decide (vr1_1 = 0))
      (some true)
      ((place_edges_f1_place_touch_1 ql qm).bind fun vr2 =>
      some vr2))

noncomputable def place_touch (ql : List api_Spot) (qm : List api_Spot) : Option (Bool) :=
  (place_touch_x1 ql qm).bind fun vx1 =>
  some vx1

/-! ### beaconfleet/place.cells -/
noncomputable def place_cells_o3_x1 (recF : (List api_Spot) → (List UInt8) → Int → (List (List UInt8)) → Option ((List (List UInt8)))) (qx : List api_Spot) (qx3 : List (List UInt8)) (vr : api_Spot) (vr1 : Int) : Option (Bool) :=
  cond (decide (1000 < (qx3.length : Int)))
    (some true)
    ((place_touch qx ([vr, api_Spot.mk (IntKind.wrap .i64 (vr.X + vr1)) vr.Y, api_Spot.mk (IntKind.wrap .i64 (vr.X + vr1)) (IntKind.wrap .i64 (vr.Y + vr1)), api_Spot.mk vr.X (IntKind.wrap .i64 (vr.Y + vr1))] : List api_Spot)).bind fun vr2 =>
    some (!vr2))

noncomputable def place_cells_o3_x2 (recF : (List api_Spot) → (List UInt8) → Int → (List (List UInt8)) → Option ((List (List UInt8)))) (qx : List api_Spot) (qx1 : List UInt8) (qx2 : Int) : (List (List UInt8)) × Int → Option (((List (List UInt8)) × Int) ⊕ ((List (List UInt8))))
  | (vx2, vx3) =>
  cond (decide (vx3 < (([([48] : List UInt8), ([49] : List UInt8), ([50] : List UInt8), ([51] : List UInt8)] : List (List UInt8)).length : Int)))
    ((at? ([([48] : List UInt8), ([49] : List UInt8), ([50] : List UInt8), ([51] : List UInt8)] : List (List UInt8)) vx3).bind fun vy1 =>
    gd (Nat.ble (qx1.length + vy1.length) LIM) <|
    (recF qx (qx1 ++ vy1) qx2 vx2).bind fun vr3_1 =>
    some (.inl (vr3_1, IntKind.wrap .i64 (vx3 + 1))))
    (some (.inr vx2))

noncomputable def place_cells_o3_n : Nat → (List api_Spot) → (List UInt8) → Int → (List (List UInt8)) → Option ((List (List UInt8)))
  | 0, _, _, _, _ => none
  | n + 1, qx, qx1, qx2, qx3 =>
  (place_cellBox qx1).bind fun (vr, vr1) =>
  (place_cells_o3_x1 (place_cells_o3_n n) qx qx3 vr vr1).bind fun vx1 =>
  cond (vx1)
    (some qx3)
    (cond (decide ((qx1.length : Int) = qx2))
      (gd (Nat.ble (qx3.length + ([qx1] : List (List UInt8)).length) LIM) <|
      some (qx3 ++ ([qx1] : List (List UInt8))))
      ((loopO (place_cells_o3_x2 (place_cells_o3_n n) qx qx1 qx2) (qx3, 0)).bind fun vx4_1 =>
      some vx4_1))

noncomputable def place_cells_o3 (qx : List api_Spot) (qx1 : List UInt8) (qx2 : Int) (qx3 : List (List UInt8)) : Option ((List (List UInt8))) := fixO fun n => place_cells_o3_n n qx qx1 qx2 qx3

/-! ### beaconfleet/place.cells -/
noncomputable def place_cells_n3_x1 (recF : (List api_Spot) → (List UInt8) → Int → Option ((List (List UInt8)))) (qx : List api_Spot) (vr : api_Spot) (vr1 : Int) : Option (Bool) :=
  cond (decide (1000 < (0 : Int)))
    (some true)
    ((place_touch qx ([vr, api_Spot.mk (IntKind.wrap .i64 (vr.X + vr1)) vr.Y, api_Spot.mk (IntKind.wrap .i64 (vr.X + vr1)) (IntKind.wrap .i64 (vr.Y + vr1)), api_Spot.mk vr.X (IntKind.wrap .i64 (vr.Y + vr1))] : List api_Spot)).bind fun vr2 =>
    some (!vr2))

noncomputable def place_cells_n3_x2 (recF : (List api_Spot) → (List UInt8) → Int → Option ((List (List UInt8)))) (qx : List api_Spot) (qx1 : List UInt8) (qx2 : Int) : (List (List UInt8)) × Int → Option (((List (List UInt8)) × Int) ⊕ ((List (List UInt8))))
  | (vx2, vx3) =>
  cond (decide (vx3 < (([([48] : List UInt8), ([49] : List UInt8), ([50] : List UInt8), ([51] : List UInt8)] : List (List UInt8)).length : Int)))
    ((at? ([([48] : List UInt8), ([49] : List UInt8), ([50] : List UInt8), ([51] : List UInt8)] : List (List UInt8)) vx3).bind fun vy1 =>
    gd (Nat.ble (qx1.length + vy1.length) LIM) <|
    (place_cells_o3 qx (qx1 ++ vy1) qx2 vx2).bind fun vr4_1 =>
    some (.inl (vr4_1, IntKind.wrap .i64 (vx3 + 1))))
    (some (.inr vx2))

noncomputable def place_cells_n3_n : Nat → (List api_Spot) → (List UInt8) → Int → Option ((List (List UInt8)))
  | 0, _, _, _ => none
  | n + 1, qx, qx1, qx2 =>
  (place_cellBox qx1).bind fun (vr, vr1) =>
  (place_cells_n3_x1 (place_cells_n3_n n) qx vr vr1).bind fun vx1 =>
  cond (vx1)
    (some [])
    (cond (decide ((qx1.length : Int) = qx2))
      (some ([qx1] : List (List UInt8)))
      ((loopO (place_cells_n3_x2 (place_cells_n3_n n) qx qx1 qx2) ([], 0)).bind fun vx4_1 =>
      some vx4_1))

noncomputable def place_cells_n3 (qx : List api_Spot) (qx1 : List UInt8) (qx2 : Int) : Option ((List (List UInt8))) := fixO fun n => place_cells_n3_n n qx qx1 qx2

/-! ### beaconfleet/place.Cells -/
noncomputable def place_Cells (qf : api_Fence) (qlevel : Int) : Option ((List (List UInt8)) × Int) :=
  (place_CheckFence qf).bind fun vr3 =>
  cond (!decide (vr3 = 0))
    (some ([], vr3))
    ((base_Out qlevel 0 15).bind fun vr =>
    cond (vr)
      (some ([], 1))
      ((place_cells_n3 qf.Corners ([] : List UInt8) qlevel).bind fun vr3_1 =>
      cond (decide (1000 < (vr3_1.length : Int)))
        (some ([], 2))
        (some (vr3_1, 0))))

/-! ### beaconfleet/fleetlaw2.when -/
noncomputable def fleetlaw2_when (qis : Bool) (qe : Int) : Option (Int) :=
  cond (qis)
    (some qe)
    (some 0)

/-! ### beaconfleet/fleetlaw2.errs -/
noncomputable def fleetlaw2_errs_x1 (ql : List Int) (vx : Int) : Option ((Int) ⊕ (Unit ⊕ Int)) :=
  cond (decide (vx < (ql.length : Int)))
    ((at? ql vx).bind fun vy1 =>
    cond (!decide (vy1 = 0))
      (some (.inr (.inr vy1)))
      (some (.inl (IntKind.wrap .i64 (vx + 1)))))
    (some (.inr (.inl ())))

noncomputable def fleetlaw2_errs (ql : List Int) : Option (Int) :=
  (loopO (fleetlaw2_errs_x1 ql) 0).bind fun x => match x with
    | .inl _ =>
      some 0
    | .inr vx1_1 =>
      some vx1_1

/-! ### internal/stringslite.IndexByte -/
noncomputable def stringslite_IndexByte (qs : List UInt8) (qc : Int) : Option (Unit) :=
  some ()

/-! ### strings.IndexByte -/
noncomputable def strings_IndexByte (qs : List UInt8) (qc : Int) : Option (Unit) :=
  (stringslite_IndexByte qs qc).bind fun _ =>
  some ()

/-! ### beaconfleet/fleetref2.only -/
noncomputable def fleetref2_only_x1 (qs : List UInt8) (qsome : List UInt8) (vx : Int) : Option ((Int) ⊕ (Unit ⊕ Unit)) :=
  cond (decide (vx < (qs.length : Int)))
    ((at? qs vx).bind fun vc1 =>
    (strings_IndexByte qsome (vc1.toNat : Int)).bind fun _ =>
    cond (decide ((Lib.indexByte qsome (vc1.toNat : Int).toNat.toUInt8) < 0))
      (some (.inr (.inr ())))
      (some (.inl (IntKind.wrap .i64 (vx + 1)))))
    (some (.inr (.inl ())))

noncomputable def fleetref2_only (qs : List UInt8) (qsome : List UInt8) : Option (Bool) :=
  (loopO (fleetref2_only_x1 qs qsome) 0).bind fun x => match x with
    | .inl _ =>
      some true
    | .inr _ =>
      some false

/-! ### beaconfleet/fleetref2.CellFault -/
noncomputable def fleetref2_CellFault_x1 (qkey : List UInt8) : Option (Bool) :=
  cond (decide (15 < (qkey.length : Int)))
    (some true)
    ((fleetref2_only qkey ([48, 49, 50, 51] : List UInt8)).bind fun vr =>
    some (!vr))

noncomputable def fleetref2_CellFault (qkey : List UInt8) : Option (Int) :=
  (fleetref2_CellFault_x1 qkey).bind fun vx1 =>
  cond (vx1)
    (some 9)
    (some 0)

/-! ### beaconfleet/fleetref2.Key -/
noncomputable def fleetref2_Key_x1 (qs : List UInt8) : Option (Bool) :=
  (fleetref2_in (qs.length : Int) 1 40).bind fun vr =>
  cond (vr)
    ((sub? qs 0 1).bind fun vs =>
    (fleetref2_only vs ([97, 98, 99, 100, 101, 102, 103, 104, 105, 106, 107, 108, 109, 110, 111, 112, 113, 114, 115, 116, 117, 118, 119, 120, 121, 122] : List UInt8)).bind fun vr1 =>
    cond (vr1)
      ((fleetref2_only qs ([97, 98, 99, 100, 101, 102, 103, 104, 105, 106, 107, 108, 109, 110, 111, 112, 113, 114, 115, 116, 117, 118, 119, 120, 121, 122, 48, 49, 50, 51, 52, 53, 54, 55, 56, 57, 45, 95] : List UInt8)).bind fun vr2 =>
      some vr2)
      (some false))
    (some false)

noncomputable def fleetref2_Key (qs : List UInt8) : Option (Bool) :=
  (fleetref2_Key_x1 qs).bind fun vx1 =>
  some vx1

/-! ### beaconfleet/fleetref2.FenceFault -/
noncomputable def fleetref2_FenceFault (qf : api_Fence) : Option (Int) :=
  (fleetref2_Key qf.Key).bind fun vr3 =>
  cond (!vr3)
    (some 5)
    ((fleetref2_CornersFault qf.Corners).bind fun vr16 =>
    some vr16)

/-! ### strconv.Itoa -/
noncomputable def strconv_Itoa (qi : Int) : Option (List UInt8) :=
  gd (decide (-9223372036854775808 ≤ qi) && decide (qi ≤ 9223372036854775807)) (some (Lib.itoa qi))

/-! ### beaconfleet/fleetref2.CellOf -/
noncomputable def fleetref2_CellOf_x1 (qs : api_Spot) (qlevel : Int) : (List UInt8) × Int → Option (((List UInt8) × Int) ⊕ ((List UInt8)))
  | (vout, vx) =>
  cond (decide (vx < qlevel))
    (gd (decide (0 ≤ (IntKind.wrap .i64 ((14 : Int) - vx)))) <|
    (strconv_Itoa (IntKind.wrap .i64 ((IntKind.wrap .i64 ((2 : Int) * (ibits .and .i64 (ishr .i64 (IntKind.wrap .i64 (qs.Y + 16384)) (IntKind.wrap .i64 ((14 : Int) - vx))) 1))) + (ibits .and .i64 (ishr .i64 (IntKind.wrap .i64 (qs.X + 16384)) (IntKind.wrap .i64 ((14 : Int) - vx))) 1)))).bind fun vr1 =>
    gd (Nat.ble (vout.length + vr1.length) LIM) <|
    some (.inl (vout ++ vr1, IntKind.wrap .i64 (vx + 1))))
    (some (.inr vout))

noncomputable def fleetref2_CellOf (qs : api_Spot) (qlevel : Int) : Option ((List UInt8)) :=
  (loopO (fleetref2_CellOf_x1 qs qlevel) (([] : List UInt8), 0)).bind fun vout1_1 =>
  some vout1_1

/-! ### beaconfleet/fleetref2.CellBoxOf -/
noncomputable def fleetref2_CellBoxOf_x2 (qkey : List UInt8) (vs : api_Spot) (vlong : Int) (vx : Int) : Option (api_Spot) :=
  (at? (bytesD qkey) vx).bind fun vy1 =>
  gd (!((IntKind.wrap .i64 ((2 : Int) * (IntKind.wrap .i64 (vlong.tdiv 2)))) == 0)) <|
  cond (decide (50 ≤ vy1))
    (some (api_Spot.mk (IntKind.wrap .i64 (vs.X + ((IntKind.wrap .i64 ((IntKind.wrap .i64 (vlong.tdiv 2)) * (IntKind.wrap .i64 (IntKind.wrap .u8 (vy1 - 48))))).tmod (IntKind.wrap .i64 ((2 : Int) * (IntKind.wrap .i64 (vlong.tdiv 2))))))) (IntKind.wrap .i64 (vs.Y + (IntKind.wrap .i64 (vlong.tdiv 2))))))
    (some (api_Spot.mk (IntKind.wrap .i64 (vs.X + ((IntKind.wrap .i64 ((IntKind.wrap .i64 (vlong.tdiv 2)) * (IntKind.wrap .i64 (IntKind.wrap .u8 (vy1 - 48))))).tmod (IntKind.wrap .i64 ((2 : Int) * (IntKind.wrap .i64 (vlong.tdiv 2))))))) vs.Y))

noncomputable def fleetref2_CellBoxOf_x1 (qkey : List UInt8) : api_Spot × Int × Int → Option ((api_Spot × Int × Int) ⊕ ((api_Spot × Int)))
  | (vs, vlong, vx) =>
  cond (decide (vx < ((bytesD qkey).length : Int)))
    ((fleetref2_CellBoxOf_x2 qkey vs vlong vx).bind fun vs2_1 =>
    some (.inl (vs2_1, IntKind.wrap .i64 (vlong.tdiv 2), IntKind.wrap .i64 (vx + 1))))
    (some (.inr (vs, vlong)))

noncomputable def fleetref2_CellBoxOf (qkey : List UInt8) : Option (api_Spot × Int) :=
  (loopO (fleetref2_CellBoxOf_x1 qkey) (api_Spot.mk (-16384) (-16384), 32768, 0)).bind fun (vs3_1, vlong1_1) =>
  some (vs3_1, vlong1_1)

/-! ### beaconfleet/fleetref2.WhereOf -/
noncomputable def fleetref2_WhereOf_x3 (qx1 : api_Spot) (vr3 : api_Spot) (vr1_3 : api_Spot) : Option (Bool) :=
  cond (decide (vr3.Y ≤ qx1.Y))
    (cond (decide (qx1.Y < vr1_3.Y))
      ((fleetref2_side vr3 vr1_3 qx1).bind fun vr1_4 =>
      some (decide (0 < vr1_4)))
      (some false))
    (some false)

noncomputable def fleetref2_WhereOf_x4 (qx1 : api_Spot) (vr3 : api_Spot) (vr1_3 : api_Spot) : Option (Bool) :=
  cond (decide (qx1.Y < vr3.Y))
    (cond (decide (vr1_3.Y ≤ qx1.Y))
      ((fleetref2_side vr3 vr1_3 qx1).bind fun vr1_5 =>
      some (decide (vr1_5 < 0)))
      (some false))
    (some false)

noncomputable def fleetref2_WhereOf_x2 (qx : List api_Spot) (qx1 : api_Spot) (vx : Int) (vx1 : Int) : Option (Int ⊕ Unit) :=
  (fleetref2_edge qx vx1).bind fun (vr3, vr1_3) =>
  (fleetref2_onWay vr3 vr1_3 qx1).bind fun vr4 =>
  cond (vr4)
    (some (.inr ()))
    ((fleetref2_WhereOf_x3 qx1 vr3 vr1_3).bind fun vx5_1 =>
    cond (vx5_1)
      (some (.inl (IntKind.wrap .i64 (vx + 1))))
      ((fleetref2_WhereOf_x4 qx1 vr3 vr1_3).bind fun vx6_1 =>
      cond (vx6_1)
        (some (.inl (IntKind.wrap .i64 (vx - 1))))
        (some (.inl vx))))

noncomputable def fleetref2_WhereOf_x1 (qx : List api_Spot) (qx1 : api_Spot) : Int × Int → Option ((Int × Int) ⊕ (Int ⊕ Unit))
  | (vx, vx1) =>
  cond (decide (vx1 < (qx.length : Int)))
    ((fleetref2_WhereOf_x2 qx qx1 vx vx1).bind fun x => match x with
      | .inl vx7_1 =>
        some (.inl (vx7_1, IntKind.wrap .i64 (vx1 + 1)))
      | .inr _ =>
        some (.inr (.inr ())))
    (some (.inr (.inl vx)))

noncomputable def fleetref2_WhereOf (qx : List api_Spot) (qx1 : api_Spot) : Option (Int) :=
  (loopO (fleetref2_WhereOf_x1 qx qx1) (0, 0)).bind fun x => match x with
    | .inl vx8_1 =>
      cond (!decide (vx8_1 = 0))
        (some 2)
        (some 0)
    | .inr _ =>
      some 1

/-! ### beaconfleet/fleetref2.MeetOf -/
noncomputable def fleetref2_MeetOf_x2 (qg : List api_Spot) (vr5 : api_Spot) (vr1_3 : api_Spot) (vx2 : Int) : Option ((Int) ⊕ (Unit ⊕ Unit)) :=
  cond (decide (vx2 < (qg.length : Int)))
    ((fleetref2_edge qg vx2).bind fun (vr7, vr1_5) =>
    (fleetref2_touches vr5 vr1_3 vr7 vr1_5).bind fun vr4_3 =>
    cond (vr4_3)
      (some (.inr (.inr ())))
      (some (.inl (IntKind.wrap .i64 (vx2 + 1)))))
    (some (.inr (.inl ())))

noncomputable def fleetref2_MeetOf_x1 (qf : List api_Spot) (qg : List api_Spot) (vx : Int) : Option ((Int) ⊕ (Unit ⊕ Unit)) :=
  cond (decide (vx < (qf.length : Int)))
    ((fleetref2_edge qf vx).bind fun (vr5, vr1_3) =>
    (loopO (fleetref2_MeetOf_x2 qg vr5 vr1_3) 0).bind fun x => match x with
      | .inl _ =>
        some (.inl (IntKind.wrap .i64 (vx + 1)))
      | .inr _ =>
        some (.inr (.inr ())))
    (some (.inr (.inl ())))

noncomputable def fleetref2_MeetOf_x3 (qf : List api_Spot) (qg : List api_Spot) : Option (Bool) :=
  (at? qg 0).bind fun vy =>
  (fleetref2_WhereOf qf vy).bind fun vr5_1 =>
  cond (!decide (vr5_1 = 0))
    (some true)
    ((at? qf 0).bind fun vy1 =>
    (fleetref2_WhereOf qg vy1).bind fun vr5_2 =>
    some (!decide (vr5_2 = 0)))

noncomputable def fleetref2_MeetOf (qf : List api_Spot) (qg : List api_Spot) : Option (Bool) :=
  (loopO (fleetref2_MeetOf_x1 qf qg) 0).bind fun x => match x with
    | .inl _ =>
      (fleetref2_MeetOf_x3 qf qg).bind fun vx3_1 =>
      some vx3_1
    | .inr _ =>
      some true

/-! ### beaconfleet/fleetref2.CellsOf -/
noncomputable def fleetref2_CellsOf_x4 (qx : List api_Spot) (vy9 : List UInt8) (vx22 : List (List UInt8)) (vx23 : Int) : Option ((List (List UInt8))) :=
  (at? ([([48] : List UInt8), ([49] : List UInt8), ([50] : List UInt8), ([51] : List UInt8)] : List (List UInt8)) vx23).bind fun vy11 =>
  gd (Nat.ble (vy9.length + vy11.length) LIM) <|
  (fleetref2_CellBoxOf (vy9 ++ vy11)).bind fun (vr9, vr1_7) =>
  (fleetref2_MeetOf ([vr9, api_Spot.mk (IntKind.wrap .i64 (vr9.X + vr1_7)) vr9.Y, api_Spot.mk (IntKind.wrap .i64 (vr9.X + vr1_7)) (IntKind.wrap .i64 (vr9.Y + vr1_7)), api_Spot.mk vr9.X (IntKind.wrap .i64 (vr9.Y + vr1_7))] : List api_Spot) qx).bind fun vr8_7 =>
  cond (vr8_7)
    (gd (Nat.ble (vx22.length + ([vy9 ++ vy11] : List (List UInt8)).length) LIM) <|
    some (vx22 ++ ([vy9 ++ vy11] : List (List UInt8))))
    (some vx22)

noncomputable def fleetref2_CellsOf_x3 (qx : List api_Spot) (vy9 : List UInt8) : (List (List UInt8)) × Int → Option (((List (List UInt8)) × Int) ⊕ ((List (List UInt8))))
  | (vx22, vx23) =>
  cond (decide (vx23 < (([([48] : List UInt8), ([49] : List UInt8), ([50] : List UInt8), ([51] : List UInt8)] : List (List UInt8)).length : Int)))
    ((fleetref2_CellsOf_x4 qx vy9 vx22 vx23).bind fun vx25_1 =>
    some (.inl (vx25_1, IntKind.wrap .i64 (vx23 + 1))))
    (some (.inr vx22))

noncomputable def fleetref2_CellsOf_x2 (qx : List api_Spot) (vx : List (List UInt8)) : (List (List UInt8)) × Int → Option (((List (List UInt8)) × Int) ⊕ ((List (List UInt8))))
  | (vx15, vx16) =>
  cond (decide (vx16 < (vx.length : Int)))
    ((at? vx vx16).bind fun vy9 =>
    (loopO (fleetref2_CellsOf_x3 qx vy9) (vx15, 0)).bind fun vx26_1 =>
    some (.inl (vx26_1, IntKind.wrap .i64 (vx16 + 1))))
    (some (.inr vx15))

noncomputable def fleetref2_CellsOf_x1 (qx : List api_Spot) (qx1 : Int) : (List (List UInt8)) × Int → Option (((List (List UInt8)) × Int) ⊕ ((List (List UInt8)) ⊕ Unit))
  | (vx, vx1) =>
  cond (decide (vx1 < qx1))
    ((loopO (fleetref2_CellsOf_x2 qx vx) ([], 0)).bind fun vx27_1 =>
    cond (decide (1000 < (vx27_1.length : Int)))
      (some (.inr (.inr ())))
      (some (.inl (vx27_1, IntKind.wrap .i64 (vx1 + 1)))))
    (some (.inr (.inl vx)))

noncomputable def fleetref2_CellsOf (qx : List api_Spot) (qx1 : Int) : Option ((List (List UInt8)) × Int) :=
  (loopO (fleetref2_CellsOf_x1 qx qx1) (([([] : List UInt8)] : List (List UInt8)), 0)).bind fun x => match x with
    | .inl vx28_1 =>
      some (vx28_1, 0)
    | .inr _ =>
      some ([], 2)

/-! ### slices.Equal[[]string,string] -/
noncomputable def slices_Equal_string_string_x1 (qs1 : List (List UInt8)) (qs2 : List (List UInt8)) (vx : Int) : Option ((Int) ⊕ (Unit ⊕ Unit)) :=
  cond (decide (vx < (qs1.length : Int)))
    ((at? qs1 vx).bind fun vy2 =>
    (at? qs2 vx).bind fun vy3 =>
    cond (!decide (vy2 = vy3))
      (some (.inr (.inr ())))
      (some (.inl (IntKind.wrap .i64 (vx + 1)))))
    (some (.inr (.inl ())))

noncomputable def slices_Equal_string_string (qs1 : List (List UInt8)) (qs2 : List (List UInt8)) : Option (Bool) :=
  cond (!decide ((qs1.length : Int) = (qs2.length : Int)))
    (some false)
    ((loopO (slices_Equal_string_string_x1 qs1 qs2) 0).bind fun x => match x with
      | .inl _ =>
        some true
      | .inr _ =>
        some false)

/-! ### beaconfleet/fleetlaw2.placed -/
noncomputable def fleetlaw2_placed_x1 (vr1 : List UInt8) (vr3 : Int) : Option (Bool) :=
  cond (decide (vr3 = 0))
    (some (decide (vr1 = ([51] : List UInt8))))
    (some false)

noncomputable def fleetlaw2_placed : Option (Bool) :=
  (place_Cell (api_Spot.mk 0 0) 1).bind fun (vr1, vr3) =>
  (fleetlaw2_placed_x1 vr1 vr3).bind fun vx1 =>
  some vx1

/-! ### beaconfleet/fleetlaw2.CellsNamed -/
noncomputable def fleetlaw2_CellsNamed_x1 (vr1 : api_Spot) (vs2 : fleetmake_Stream) : Option ((fleetmake_Stream × api_Spot)) :=
  (fleetmake_Stream_Flip vs2 3).bind fun vr2 =>
  cond (vr2)
    ((fleetmake_Stream_Range (fleetmake_Stream.mk vs2.L (IntKind.wrap .i64 (vs2.at_ + 1))) (-10000) 10000).bind fun (vs, vr3) =>
    (fleetmake_Stream_Range vs (-10000) 10000).bind fun (vs1, vr6) =>
    some (vs1, api_Spot.mk vr3 vr6))
    (some (fleetmake_Stream.mk vs2.L (IntKind.wrap .i64 (vs2.at_ + 1)), vr1))

noncomputable def fleetlaw2_CellsNamed_x2 (vr : Int) (vx1_1 : api_Spot) : Option (Int) :=
  (fleetref2_SpotFault vx1_1).bind fun vr2_3 =>
  cond (decide (vr < 0))
    ((fleetlaw2_when true 1).bind fun vr8 =>
    (fleetlaw2_errs ([vr2_3, vr8] : List Int)).bind fun vr9 =>
    some vr9)
    ((fleetlaw2_when (decide (15 < vr)) 1).bind fun vr10 =>
    (fleetlaw2_errs ([vr2_3, vr10] : List Int)).bind fun vr11 =>
    some vr11)

noncomputable def fleetlaw2_CellsNamed_x3 (vr4 : api_Fence) (vr7 : Int) : Option (Int) :=
  (fleetref2_FenceFault vr4).bind fun vr12 =>
  cond (decide (vr7 < 0))
    ((fleetlaw2_when true 1).bind fun vr13 =>
    (fleetlaw2_errs ([vr12, vr13] : List Int)).bind fun vr14 =>
    some vr14)
    ((fleetlaw2_when (decide (15 < vr7)) 1).bind fun vr15 =>
    (fleetlaw2_errs ([vr12, vr15] : List Int)).bind fun vr16 =>
    some vr16)

noncomputable def fleetlaw2_CellsNamed_x4 (vr : Int) (vx1_1 : api_Spot) (vx3_1 : Int) : Option ((List UInt8)) :=
  cond (decide (vx3_1 = 0))
    ((fleetref2_CellOf vx1_1 vr).bind fun vr2_4 =>
    some vr2_4)
    (some ([] : List UInt8))

noncomputable def fleetlaw2_CellsNamed_x5 (vr5 : List UInt8) (vr1_3 : Int) : Option ((api_Spot × Int)) :=
  cond (decide (vr1_3 = 0))
    ((fleetref2_CellBoxOf vr5).bind fun (vr17, vr1_4) =>
    some (vr17, vr1_4))
    (some (api_Spot.mk 0 0, 0))

noncomputable def fleetlaw2_CellsNamed_x6 (vr4 : api_Fence) (vr7 : Int) (vx4_1 : Int) : Option ((Int × (List (List UInt8)))) :=
  cond (decide (vx4_1 = 0))
    ((fleetref2_CellsOf vr4.Corners vr7).bind fun (vr10_1, vr11_1) =>
    some (vr11_1, vr10_1))
    (some (vx4_1, []))

noncomputable def fleetlaw2_CellsNamed_x7 (vr1_1 : List UInt8) (vr3_1 : Int) (vr2_1 : api_Spot) (vr3_2 : Int) (vr4_1 : Int) (vr1_2 : List (List UInt8)) (vr2_2 : Int) (vx3_1 : Int) (vr1_3 : Int) (vx5_1 : List UInt8) (vx6_1 : api_Spot) (vx7_1 : Int) (vx8_1 : Int) (vx9_1 : List (List UInt8)) : Option (Bool) :=
  cond (decide (vr3_1 = vx3_1))
    (cond (decide (vr1_1 = vx5_1))
      (cond (decide (vr4_1 = vr1_3))
        (cond ((decide (vr2_1.X = vx6_1.X) && (decide (vr2_1.Y = vx6_1.Y) && true)))
          (cond (decide (vr3_2 = vx7_1))
            (cond (decide (vr2_2 = vx8_1))
              ((slices_Equal_string_string vr1_2 vx9_1).bind fun vr18 =>
              cond (vr18)
                ((fleetlaw2_placed).bind fun vr19 =>
                some vr19)
                (some false))
              (some false))
            (some false))
          (some false))
        (some false))
      (some false))
    (some false)

noncomputable def fleetlaw2_CellsNamed (qx : List Int) : Option (Bool) :=
  (fleetmake_Stream_Spot (fleetmake_Stream.mk qx 0)).bind fun (vs3, vr1) =>
  (fleetmake_Stream_Pick_o1 vs3 ([0, 1, 2, 13, 14, 15, (-1), 16] : List Int)).bind fun vr =>
  (fleetmake_Stream_CellKey (fleetmake_Stream.mk vs3.L (IntKind.wrap .i64 (vs3.at_ + 1)))).bind fun (vs4, vr5) =>
  (fleetmake_Stream_Fence vs4).bind fun (vs2, vr4) =>
  (fleetlaw2_CellsNamed_x1 vr1 vs2).bind fun (vx2, vx1_1) =>
  (fleetmake_Stream_Pick_o1 vx2 ([0, 1, 5, 10, 12, 13, (-1), 16] : List Int)).bind fun vr7 =>
  (place_Cell vx1_1 vr).bind fun (vr1_1, vr3_1) =>
  (place_CellBox vr5).bind fun (vr2_1, vr3_2, vr4_1) =>
  (place_Cells vr4 vr7).bind fun (vr1_2, vr2_2) =>
  (fleetlaw2_CellsNamed_x2 vr vx1_1).bind fun vx3_1 =>
  (fleetref2_CellFault vr5).bind fun vr1_3 =>
  (fleetlaw2_CellsNamed_x3 vr4 vr7).bind fun vx4_1 =>
  (fleetlaw2_CellsNamed_x4 vr vx1_1 vx3_1).bind fun vx5_1 =>
  (fleetlaw2_CellsNamed_x5 vr5 vr1_3).bind fun (vx6_1, vx7_1) =>
  (fleetlaw2_CellsNamed_x6 vr4 vr7 vx4_1).bind fun (vx8_1, vx9_1) =>
  (fleetlaw2_CellsNamed_x7 vr1_1 vr3_1 vr2_1 vr3_2 vr4_1 vr1_2 vr2_2 vx3_1 vr1_3 vx5_1 vx6_1 vx7_1 vx8_1 vx9_1).bind fun vx10_1 =>
  some vx10_1

end Go.Eng
