/-
The Go functions that the law TracksPlain reaches, as plain functions.
-/
import Derived.Test.YtjiadailjnbglaaEngV

namespace Go.Eng

open Go

set_option linter.unusedVariables false

structure fleetmake_Stream where
  L : List Int
  at_ : Int

def fleetmake_Stream.enc (x : fleetmake_Stream) : List D := [.lst (List.map (encI .i64) x.L), .int .i64 x.at_]

structure api_Spot where
  X : Int
  Y : Int

def api_Spot.enc (x : api_Spot) : List D := [.int .i64 x.X, .int .i64 x.Y]

structure api_Fix where
  Device : List UInt8
  At : Int
  X : Int
  Y : Int
  Error : Int

def api_Fix.enc (x : api_Fix) : List D := [.str x.Device, .int .i64 x.At, .int .i64 x.X, .int .i64 x.Y, .int .i64 x.Error]

structure place_wide where
  high_ : Int
  low_ : Int

def place_wide.enc (x : place_wide) : List D := [.int .u64 x.high_, .int .u64 x.low_]

structure api_Fraction where
  Num : Int
  Den : Int

def api_Fraction.enc (x : api_Fraction) : List D := [.int .i64 x.Num, .int .i64 x.Den]

/-! ### beaconfleet/fleetmake.Below -/
noncomputable def fleetmake_Below_x1 (qx : Int) (qn : Int) : Option (Int) :=
  cond (decide ((qx.tmod qn) < 0))
    (some (IntKind.wrap .i64 ((qx.tmod qn) + qn)))
    (some (qx.tmod qn))

noncomputable def fleetmake_Below (qx : Int) (qn : Int) : Option (Int) :=
  cond (decide (qn < 1))
    (some 0)
    (gd (!(qn == 0)) <|
    (fleetmake_Below_x1 qx qn).bind fun vx1 =>
    some vx1)

/-! ### (*beaconfleet/fleetmake.Stream).Next -/
noncomputable def fleetmake_Stream_Next (qs : fleetmake_Stream) (qn : Int) : Option (Int) :=
  cond (decide ((qs.L.length : Int) = 0))
    ((fleetmake_Below (IntKind.wrap .i64 ((IntKind.wrap .i64 (qs.at_ + 1)) * 7919)) qn).bind fun vr =>
    some vr)
    (gd (!((qs.L.length : Int) == 0)) <|
    (at? qs.L ((IntKind.wrap .i64 ((IntKind.wrap .i64 (qs.at_ + 1)) - 1)).tmod (qs.L.length : Int))).bind fun vy =>
    (fleetmake_Below vy 1073741824).bind fun vr1 =>
    (fleetmake_Below (IntKind.wrap .i64 (vr1 + (IntKind.wrap .i64 ((IntKind.wrap .i64 ((IntKind.wrap .i64 ((IntKind.wrap .i64 (qs.at_ + 1)) - 1)).tdiv (qs.L.length : Int))) * (IntKind.wrap .i64 ((7919 : Int) + ((IntKind.wrap .i64 ((IntKind.wrap .i64 (qs.at_ + 1)) - 1)).tmod (qs.L.length : Int)))))))) qn).bind fun vr2 =>
    some vr2)

/-! ### (*beaconfleet/fleetmake.Stream).Pick -/
noncomputable def fleetmake_Stream_Pick_o1 (qs : fleetmake_Stream) (ql : List Int) : Option (Int) :=
  (fleetmake_Stream_Next qs (ql.length : Int)).bind fun vr3 =>
  (at? ql vr3).bind fun vy =>
  some vy

/-! ### (*beaconfleet/fleetmake.Stream).Place -/
noncomputable def fleetmake_Stream_Place (qs : fleetmake_Stream) : Option (api_Spot) :=
  (fleetmake_Stream_Pick_o1 qs ([0, 1, 2, 3, 4, 5, 6, 8, 10, (-1), (-5), 20] : List Int)).bind fun vr =>
  (fleetmake_Stream_Pick_o1 (fleetmake_Stream.mk qs.L (IntKind.wrap .i64 (qs.at_ + 1))) ([0, 1, 2, 3, 4, 5, 6, 8, 10, (-1), (-5), 20] : List Int)).bind fun vr1 =>
  some (api_Spot.mk vr vr1)

/-! ### (*beaconfleet/fleetmake.Stream).Range -/
noncomputable def fleetmake_Stream_Range (qs : fleetmake_Stream) (qlow : Int) (qhigh : Int) : Option (fleetmake_Stream × Int) :=
  cond (decide (qhigh < qlow))
    (some (qs, qlow))
    ((fleetmake_Stream_Next qs (IntKind.wrap .i64 ((IntKind.wrap .i64 (qhigh - qlow)) + 1))).bind fun vr3 =>
    some (fleetmake_Stream.mk qs.L (IntKind.wrap .i64 (qs.at_ + 1)), IntKind.wrap .i64 (qlow + vr3)))

/-! ### (*beaconfleet/fleetmake.Stream).Flip -/
noncomputable def fleetmake_Stream_Flip (qs : fleetmake_Stream) (qn : Int) : Option (Bool) :=
  (fleetmake_Stream_Next qs qn).bind fun vr3 =>
  some (decide (vr3 = 0))

/-! ### (*beaconfleet/fleetmake.Stream).RightTrack -/
noncomputable def fleetmake_Stream_RightTrack_x2 (vs1 : fleetmake_Stream) (vp : api_Spot) : Option ((fleetmake_Stream × api_Spot)) :=
  (fleetmake_Stream_Flip (fleetmake_Stream.mk vs1.L (IntKind.wrap .i64 (vs1.at_ + 1))) 6).bind fun vr10 =>
  cond (vr10)
    ((fleetmake_Stream_Place (fleetmake_Stream.mk vs1.L (IntKind.wrap .i64 ((IntKind.wrap .i64 (vs1.at_ + 1)) + 1)))).bind fun vr2_2 =>
    some (fleetmake_Stream.mk vs1.L (IntKind.wrap .i64 ((IntKind.wrap .i64 ((IntKind.wrap .i64 ((IntKind.wrap .i64 (vs1.at_ + 1)) + 1)) + 1)) + 1)), vr2_2))
    ((fleetmake_Stream_Range (fleetmake_Stream.mk vs1.L (IntKind.wrap .i64 ((IntKind.wrap .i64 (vs1.at_ + 1)) + 1))) (-2) 2).bind fun (vs6, vr11) =>
    (fleetmake_Stream_Range vs6 (-2) 2).bind fun (vs7, vr12) =>
    some (vs7, api_Spot.mk (IntKind.wrap .i64 (vp.X + vr11)) (IntKind.wrap .i64 (vp.Y + vr12))))

noncomputable def fleetmake_Stream_RightTrack_x3 (vat : Int) (vr9 : Int) (vs8_1 : fleetmake_Stream) (vp2_1 : api_Spot) (vr13 : Int) : Option ((fleetmake_Stream × api_Fix)) :=
  (fleetmake_Stream_Flip (fleetmake_Stream.mk vs8_1.L (IntKind.wrap .i64 (vs8_1.at_ + 1))) 10).bind fun vr14 =>
  cond (vr14)
    ((fleetmake_Stream_Pick_o1 (fleetmake_Stream.mk vs8_1.L (IntKind.wrap .i64 ((IntKind.wrap .i64 (vs8_1.at_ + 1)) + 1))) ([5000, (-10000), 300] : List Int)).bind fun vr15 =>
    some (fleetmake_Stream.mk vs8_1.L (IntKind.wrap .i64 ((IntKind.wrap .i64 ((IntKind.wrap .i64 (vs8_1.at_ + 1)) + 1)) + 1)), api_Fix.mk ([100] : List UInt8) (IntKind.wrap .i64 (vat + vr9)) vr15 vp2_1.Y vr13))
    (some (fleetmake_Stream.mk vs8_1.L (IntKind.wrap .i64 ((IntKind.wrap .i64 (vs8_1.at_ + 1)) + 1)), api_Fix.mk ([100] : List UInt8) (IntKind.wrap .i64 (vat + vr9)) vp2_1.X vp2_1.Y vr13))

noncomputable def fleetmake_Stream_RightTrack_x1 (vr : Int) : fleetmake_Stream × api_Spot × (List api_Fix) × Int × Int → Option ((fleetmake_Stream × api_Spot × (List api_Fix) × Int × Int) ⊕ ((fleetmake_Stream × (List api_Fix))))
  | (vs1, vp, vout, vat, vx) =>
  cond (decide (vx < vr))
    ((fleetmake_Stream_Pick_o1 vs1 ([1, 10, 100, 1000, 1000] : List Int)).bind fun vr9 =>
    (fleetmake_Stream_RightTrack_x2 vs1 vp).bind fun (vs8_1, vp2_1) =>
    (fleetmake_Stream_Pick_o1 vs8_1 ([0, 0, 1, 2, 5] : List Int)).bind fun vr13 =>
    (fleetmake_Stream_RightTrack_x3 vat vr9 vs8_1 vp2_1 vr13).bind fun (vs9_1, vx2_1) =>
    gd (Nat.ble (vout.length + ([vx2_1] : List api_Fix).length) LIM) <|
    some (.inl (vs9_1, vp2_1, vout ++ ([vx2_1] : List api_Fix), IntKind.wrap .i64 (vat + vr9), IntKind.wrap .i64 (vx + 1))))
    (some (.inr (vs1, vout)))

noncomputable def fleetmake_Stream_RightTrack (qs : fleetmake_Stream) (qmost : Int) : Option (fleetmake_Stream × (List api_Fix)) :=
  (fleetmake_Stream_Place qs).bind fun vr2 =>
  (fleetmake_Stream_Range (fleetmake_Stream.mk qs.L (IntKind.wrap .i64 ((IntKind.wrap .i64 (qs.at_ + 1)) + 1))) 0 qmost).bind fun (vs, vr) =>
  (loopO (fleetmake_Stream_RightTrack_x1 vr) (vs, vr2, [], 0, 0)).bind fun (vs10_1, vout1_1) =>
  some (vs10_1, vout1_1)

/-! ### (*beaconfleet/fleetmake.Stream).Some -/
noncomputable def fleetmake_Stream_Some_o1 (qs : fleetmake_Stream) (ql : List (List UInt8)) : Option ((List UInt8)) :=
  (fleetmake_Stream_Next qs (ql.length : Int)).bind fun vr3 =>
  (at? ql vr3).bind fun vy =>
  some vy

/-! ### (*beaconfleet/fleetmake.Stream).Odd -/
noncomputable def fleetmake_Stream_Odd (qs : fleetmake_Stream) (qlow : Int) (qhigh : Int) : Option (fleetmake_Stream × Int) :=
  (fleetmake_Stream_Flip qs 12).bind fun vr =>
  cond (vr)
    ((fleetmake_Stream_Pick_o1 (fleetmake_Stream.mk qs.L (IntKind.wrap .i64 (qs.at_ + 1))) ([IntKind.wrap .i64 (qlow - 1), IntKind.wrap .i64 (qhigh + 1), qlow, qhigh, (-1099511627776), 1099511627776] : List Int)).bind fun vr1 =>
    some (fleetmake_Stream.mk qs.L (IntKind.wrap .i64 ((IntKind.wrap .i64 (qs.at_ + 1)) + 1)), vr1))
    ((fleetmake_Stream_Range (fleetmake_Stream.mk qs.L (IntKind.wrap .i64 (qs.at_ + 1))) qlow qhigh).bind fun (vs, vr2) =>
    some (vs, vr2))

/-! ### (*beaconfleet/fleetmake.Stream).Track -/
noncomputable def fleetmake_Stream_Track_x2 (vs11 : fleetmake_Stream) (vr16 : List api_Fix) : Option ((fleetmake_Stream × Bool)) :=
  cond (decide (0 < (vr16.length : Int)))
    ((fleetmake_Stream_Flip vs11 12).bind fun vr =>
    some (fleetmake_Stream.mk vs11.L (IntKind.wrap .i64 (vs11.at_ + 1)), vr))
    (some (vs11, false))

noncomputable def fleetmake_Stream_Track_x1 (vs11 : fleetmake_Stream) (vr16 : List api_Fix) : Option ((fleetmake_Stream × (List api_Fix))) :=
  (fleetmake_Stream_Track_x2 vs11 vr16).bind fun (vs1, vx1) =>
  cond (vx1)
    ((fleetmake_Stream_Next vs1 (vr16.length : Int)).bind fun vr3 =>
    (at? vr16 vr3).bind fun vy =>
    (fleetmake_Stream_Next (fleetmake_Stream.mk vs1.L (IntKind.wrap .i64 (vs1.at_ + 1))) 4).bind fun vr3_1 =>
    cond (decide (vr3_1 = 0))
      ((fleetmake_Stream_Some_o1 (fleetmake_Stream.mk vs1.L (IntKind.wrap .i64 ((IntKind.wrap .i64 (vs1.at_ + 1)) + 1))) ([([] : List UInt8), ([101] : List UInt8), ([65] : List UInt8)] : List (List UInt8))).bind fun vr1 =>
      some (fleetmake_Stream.mk vs1.L (IntKind.wrap .i64 ((IntKind.wrap .i64 ((IntKind.wrap .i64 (vs1.at_ + 1)) + 1)) + 1)), vr16.set vr3.toNat (api_Fix.mk vr1 vy.At vy.X vy.Y vy.Error)))
      (cond (decide (vr3_1 = 1))
        ((fleetmake_Stream_Odd (fleetmake_Stream.mk vs1.L (IntKind.wrap .i64 ((IntKind.wrap .i64 (vs1.at_ + 1)) + 1))) 0 100).bind fun (vs1_1, vr3_2) =>
        some (vs1_1, vr16.set vr3.toNat (api_Fix.mk vy.Device vr3_2 vy.X vy.Y vy.Error)))
        (cond (decide (vr3_1 = 2))
          ((fleetmake_Stream_Odd (fleetmake_Stream.mk vs1.L (IntKind.wrap .i64 ((IntKind.wrap .i64 (vs1.at_ + 1)) + 1))) (-10000) 10000).bind fun (vs1_2, vr3_3) =>
          some (vs1_2, vr16.set vr3.toNat (api_Fix.mk vy.Device vy.At vr3_3 vy.Y vy.Error)))
          ((fleetmake_Stream_Odd (fleetmake_Stream.mk vs1.L (IntKind.wrap .i64 ((IntKind.wrap .i64 (vs1.at_ + 1)) + 1))) 0 10000).bind fun (vs1_3, vr3_4) =>
          some (vs1_3, vr16.set vr3.toNat (api_Fix.mk vy.Device vy.At vy.X vy.Y vr3_4))))))
    (some (vs1, vr16))

noncomputable def fleetmake_Stream_Track (qs : fleetmake_Stream) (qmost : Int) : Option (fleetmake_Stream × (List api_Fix)) :=
  (fleetmake_Stream_RightTrack qs qmost).bind fun (vs11, vr16) =>
  (fleetmake_Stream_Track_x1 vs11 vr16).bind fun (vs2_1, vout1) =>
  some (vs2_1, vout1)

/-! ### beaconfleet/base.Key -/
noncomputable def base_Key_x1 (qs : List UInt8) : Option (Bool) :=
  cond (decide (qs = ([] : List UInt8)))
    (some true)
    (cond (decide (40 < (qs.length : Int)))
      (some true)
      ((at? qs 0).bind fun vc =>
      cond (decide ((vc.toNat : Int) < 97))
        (some true)
        (some (decide (122 < (vc.toNat : Int))))))

noncomputable def base_Key_x3 (vc2 : UInt8) : Option (Bool) :=
  cond (decide (97 ≤ (vc2.toNat : Int)))
    (cond (decide ((vc2.toNat : Int) ≤ 122))
      (some false)
      (cond (decide (48 ≤ (vc2.toNat : Int)))
        (cond (decide ((vc2.toNat : Int) ≤ 57))
          (some false)
          (cond (decide ((vc2.toNat : Int) = 45))
            (some false)
            (some (!(decide ((vc2.toNat : Int) = 95))))))
        (cond (decide ((vc2.toNat : Int) = 45))
          (some false)
          (some (!(decide ((vc2.toNat : Int) = 95)))))))
    (cond (decide (48 ≤ (vc2.toNat : Int)))
      (cond (decide ((vc2.toNat : Int) ≤ 57))
        (some false)
        (cond (decide ((vc2.toNat : Int) = 45))
          (some false)
          (some (!(decide ((vc2.toNat : Int) = 95))))))
      (cond (decide ((vc2.toNat : Int) = 45))
        (some false)
        (some (!(decide ((vc2.toNat : Int) = 95))))))

noncomputable def base_Key_x2 (qs : List UInt8) (vx2 : Int) : Option ((Int) ⊕ (Unit ⊕ Unit)) :=
  cond (decide (vx2 < (qs.length : Int)))
    ((at? qs vx2).bind fun vc2 =>
    (base_Key_x3 vc2).bind fun vx4_1 =>
    cond (vx4_1)
      (some (.inr (.inr ())))
      (some (.inl (IntKind.wrap .i64 (vx2 + 1)))))
    (some (.inr (.inl ())))

noncomputable def base_Key (qs : List UInt8) : Option (Bool) :=
  (base_Key_x1 qs).bind fun vx1 =>
  cond (vx1)
    (some false)
    ((loopO (base_Key_x2 qs) 0).bind fun x => match x with
      | .inl _ =>
        some true
      | .inr _ =>
        some false)

/-! ### beaconfleet/base.Out -/
noncomputable def base_Out_x1 (qn : Int) (qlow : Int) (qhigh : Int) : Option (Bool) :=
  cond (decide (qn < qlow))
    (some true)
    (some (decide (qhigh < qn)))

noncomputable def base_Out (qn : Int) (qlow : Int) (qhigh : Int) : Option (Bool) :=
  (base_Out_x1 qn qlow qhigh).bind fun vx1 =>
  some vx1

/-! ### beaconfleet/base.Moment -/
noncomputable def base_Moment (qn : Int) : Option (Bool) :=
  (base_Out qn 0 345686399999).bind fun vr =>
  some (!vr)

/-! ### beaconfleet/place.spot -/
noncomputable def place_spot (qx : api_Fix) : Option (Unit) :=
  some ()

/-! ### beaconfleet/place.isSpot -/
noncomputable def place_isSpot_x1 (qs : api_Spot) : Option (Bool) :=
  (base_Out qs.X (-10000) 10000).bind fun vr =>
  cond (!vr)
    ((base_Out qs.Y (-10000) 10000).bind fun vr1 =>
    some (!vr1))
    (some false)

noncomputable def place_isSpot (qs : api_Spot) : Option (Bool) :=
  (place_isSpot_x1 qs).bind fun vx1 =>
  some vx1

/-! ### internal/bytealg.CompareString -/
noncomputable def bytealg_CompareString (qa : List UInt8) (qb : List UInt8) : Option (Unit) :=
  some ()

/-! ### strings.Compare -/
noncomputable def strings_Compare (qa : List UInt8) (qb : List UInt8) : Option (Unit) :=
  (bytealg_CompareString qa qb).bind fun _ =>
  some ()

/-! ### cmp.isNaN[int] -/
noncomputable def cmp_isNaN_int (qx : Int) : Option (Unit) :=
  some ()

/-! ### cmp.Compare[int] -/
noncomputable def cmp_Compare_int (qx : Int) (qy : Int) : Option (Int) :=
  (cmp_isNaN_int qx).bind fun _ =>
  (cmp_isNaN_int qy).bind fun _ =>
  cond (!decide (qx = qx))
    (cond (!decide (qy = qy))
      (some 0)
      (some (-1)))
    (cond (!decide (qy = qy))
      (some 1)
      (cond (decide (qx < qy))
        (some (-1))
        (cond (decide (qy < qx))
          (some 1)
          (some 0))))

/-! ### cmp.Or[int] -/
noncomputable def cmp_Or_int_x1 (qvals : List Int) (vx : Int) : Option ((Int) ⊕ (Unit ⊕ Int)) :=
  cond (decide (vx < (qvals.length : Int)))
    ((at? qvals vx).bind fun vy1 =>
    cond (!decide (vy1 = 0))
      (some (.inr (.inr vy1)))
      (some (.inl (IntKind.wrap .i64 (vx + 1)))))
    (some (.inr (.inl ())))

noncomputable def cmp_Or_int (qvals : List Int) : Option (Int) :=
  (loopO (cmp_Or_int_x1 qvals) 0).bind fun x => match x with
    | .inl _ =>
      some 0
    | .inr vx1_1 =>
      some vx1_1

/-! ### beaconfleet/place.byDevice -/
noncomputable def place_byDevice (qa : api_Fix) (qb : api_Fix) : Option (Int) :=
  (strings_Compare qa.Device qb.Device).bind fun _ =>
  (cmp_Compare_int qa.At qb.At).bind fun vr =>
  (cmp_Or_int ([Lib.compareBytes qa.Device qb.Device, vr] : List Int)).bind fun vr1 =>
  some vr1

/-! ### beaconfleet/place.CheckFixes -/
noncomputable def place_CheckFixes_x2 (vy2 : api_Fix) : Option (Bool) :=
  (base_Moment vy2.At).bind fun vr1_1 =>
  cond (!vr1_1)
    (some true)
    ((place_spot vy2).bind fun _ =>
    (place_isSpot (api_Spot.mk vy2.X vy2.Y)).bind fun vr2_2 =>
    cond (!vr2_2)
      (some true)
      ((base_Out vy2.Error 0 10000).bind fun vr5 =>
      some vr5))

noncomputable def place_CheckFixes_x3 (ql : List api_Fix) (vx : Int) (vy2 : api_Fix) : Option (Bool) :=
  cond (decide (0 < vx))
    ((at? ql (IntKind.wrap .i64 (vx - 1))).bind fun vy3 =>
    (place_byDevice vy2 vy3).bind fun vr2_3 =>
    some (decide (vr2_3 ≤ 0)))
    (some false)

noncomputable def place_CheckFixes_x1 (ql : List api_Fix) (vx : Int) : Option ((Int) ⊕ (Unit ⊕ Int)) :=
  cond (decide (vx < (ql.length : Int)))
    ((at? ql vx).bind fun vy2 =>
    (base_Key vy2.Device).bind fun vr4 =>
    cond (!vr4)
      (some (.inr (.inr 5)))
      ((place_CheckFixes_x2 vy2).bind fun vx3_1 =>
      cond (vx3_1)
        (some (.inr (.inr 1)))
        ((place_CheckFixes_x3 ql vx vy2).bind fun vx4_1 =>
        cond (vx4_1)
          (some (.inr (.inr 7)))
          (some (.inl (IntKind.wrap .i64 (vx + 1)))))))
    (some (.inr (.inl ())))

noncomputable def place_CheckFixes (ql : List api_Fix) : Option (Int) :=
  cond (decide (2000 < (ql.length : Int)))
    (some 2)
    ((loopO (place_CheckFixes_x1 ql) 0).bind fun x => match x with
      | .inl _ =>
        some 0
      | .inr vx5_1 =>
        some vx5_1)

/-! ### beaconfleet/place.trackFault$1 -/
noncomputable def place_trackFault_1 (qx : api_Fix) (qx1 : List api_Fix) : Option (Bool) :=
  (at? qx1 0).bind fun vy =>
  some (!decide (qx.Device = vy.Device))

/-! ### slices.IndexFunc[[]beaconfleet/api.Fix,beaconfleet/api.Fix] -/
noncomputable def slices_IndexFunc_api_Fix_api_Fix_f1_place_trackFault_1_x1 (qs : List api_Fix) (vx : Int) : Option ((Int) ⊕ (Unit ⊕ Int)) :=
  cond (decide (vx < (qs.length : Int)))
    ((at? qs vx).bind fun vy1 =>
    (place_trackFault_1 vy1 qs).bind fun vr1 =>
    cond (vr1)
      (some (.inr (.inr vx)))
      (some (.inl (IntKind.wrap .i64 (vx + 1)))))
    (some (.inr (.inl ())))

noncomputable def slices_IndexFunc_api_Fix_api_Fix_f1_place_trackFault_1 (qs : List api_Fix) : Option (Int) :=
  (loopO (slices_IndexFunc_api_Fix_api_Fix_f1_place_trackFault_1_x1 qs) 0).bind fun x => match x with
    | .inl _ =>
      some (-1)
    | .inr vx1_1 =>
      some vx1_1

/-! ### slices.ContainsFunc[[]beaconfleet/api.Fix,beaconfleet/api.Fix] -/
noncomputable def slices_ContainsFunc_api_Fix_api_Fix_f1_place_trackFault_1 (qs : List api_Fix) : Option (Bool) :=
  (slices_IndexFunc_api_Fix_api_Fix_f1_place_trackFault_1 qs).bind fun vr2 =>
  some (decide (0 ≤ vr2))

/-! ### beaconfleet/place.trackFault -/
noncomputable def place_trackFault (ql : List api_Fix) : Option (Int) :=
  (place_CheckFixes ql).bind fun vr6 =>
  cond (!decide (vr6 = 0))
    (some vr6)
    ((slices_ContainsFunc_api_Fix_api_Fix_f1_place_trackFault_1 ql).bind fun vr =>
    cond (vr)
      (some 13)
      (some 0))

/-! ### beaconfleet/place.square -/
noncomputable def place_square (qa : api_Spot) (qb : api_Spot) : Option (Unit) :=
  some ()

/-! ### math/bits.Mul64 -/
noncomputable def bits_Mul64 (qx : Int) (qy : Int) : Option (Unit) :=
  some ()

/-! ### beaconfleet/place.product -/
noncomputable def place_product (qa : Int) (qb : Int) : Option (Unit) :=
  (bits_Mul64 (IntKind.wrap .u64 (qa)) (IntKind.wrap .u64 (qb))).bind fun _ =>
  some ()

/-! ### math/bits.Mul64 -/
noncomputable def bits_Mul64_2 (qx : Int) : Option (Unit) :=
  some ()

/-! ### beaconfleet/place.product -/
noncomputable def place_product_2 (qa : Int) : Option (Unit) :=
  (bits_Mul64_2 (IntKind.wrap .u64 (qa))).bind fun _ =>
  some ()

/-! ### (beaconfleet/place.wide).over -/
noncomputable def place_wide_over_x1 (qw : place_wide) (qx : place_wide) : Option (Bool) :=
  cond (decide (qx.high_ < qw.high_))
    (some true)
    (cond (decide (qw.high_ = qx.high_))
      (some (decide (qx.low_ < qw.low_)))
      (some false))

noncomputable def place_wide_over (qw : place_wide) (qx : place_wide) : Option (Bool) :=
  (place_wide_over_x1 qw qx).bind fun vx1 =>
  some vx1

/-! ### beaconfleet/place.Jumps -/
noncomputable def place_Jumps_x3 (qx : List api_Fix) (qx1 : Int) (vx1 : Int) (vx2 : Int) (vx3 : Int) (vy4 : api_Fix) (vy5 : api_Fix) : Option (Bool) :=
  (at? qx vx3).bind fun vy6 =>
  (place_spot vy6).bind fun _ =>
  (at? qx vx1).bind fun vy7 =>
  (place_spot vy7).bind fun _ =>
  (place_square (api_Spot.mk vy6.X vy6.Y) (api_Spot.mk vy7.X vy7.Y)).bind fun _ =>
  (place_product (IntKind.wrap .i64 ((IntKind.wrap .i64 ((IntKind.wrap .i64 (vy6.X - vy7.X)) * (IntKind.wrap .i64 (vy6.X - vy7.X)))) + (IntKind.wrap .i64 ((IntKind.wrap .i64 (vy6.Y - vy7.Y)) * (IntKind.wrap .i64 (vy6.Y - vy7.Y)))))) 1000000).bind fun _ =>
  (place_product_2 (IntKind.wrap .i64 (qx1 * (IntKind.wrap .i64 (vy4.At - vy5.At))))).bind fun _ =>
  (place_wide_over (place_wide.mk (IntKind.wrap .u64 ((IntKind.wrap .u64 ((IntKind.wrap .u64 ((ishr .u64 (IntKind.wrap .u64 ((IntKind.wrap .i64 ((IntKind.wrap .i64 ((IntKind.wrap .i64 (vy6.X - vy7.X)) * (IntKind.wrap .i64 (vy6.X - vy7.X)))) + (IntKind.wrap .i64 ((IntKind.wrap .i64 (vy6.Y - vy7.Y)) * (IntKind.wrap .i64 (vy6.Y - vy7.Y)))))))) 32) * (ishr .u64 (IntKind.wrap .u64 (1000000)) 32))) + (ishr .u64 (IntKind.wrap .u64 ((IntKind.wrap .u64 ((ishr .u64 (IntKind.wrap .u64 ((IntKind.wrap .i64 ((IntKind.wrap .i64 ((IntKind.wrap .i64 (vy6.X - vy7.X)) * (IntKind.wrap .i64 (vy6.X - vy7.X)))) + (IntKind.wrap .i64 ((IntKind.wrap .i64 (vy6.Y - vy7.Y)) * (IntKind.wrap .i64 (vy6.Y - vy7.Y)))))))) 32) * (ibits .and .u64 (IntKind.wrap .u64 (1000000)) 4294967295))) + (ishr .u64 (IntKind.wrap .u64 ((ibits .and .u64 (IntKind.wrap .u64 ((IntKind.wrap .i64 ((IntKind.wrap .i64 ((IntKind.wrap .i64 (vy6.X - vy7.X)) * (IntKind.wrap .i64 (vy6.X - vy7.X)))) + (IntKind.wrap .i64 ((IntKind.wrap .i64 (vy6.Y - vy7.Y)) * (IntKind.wrap .i64 (vy6.Y - vy7.Y)))))))) 4294967295) * (ibits .and .u64 (IntKind.wrap .u64 (1000000)) 4294967295))) 32))) 32))) + (ishr .u64 (IntKind.wrap .u64 ((ibits .and .u64 (IntKind.wrap .u64 ((IntKind.wrap .u64 ((ishr .u64 (IntKind.wrap .u64 ((IntKind.wrap .i64 ((IntKind.wrap .i64 ((IntKind.wrap .i64 (vy6.X - vy7.X)) * (IntKind.wrap .i64 (vy6.X - vy7.X)))) + (IntKind.wrap .i64 ((IntKind.wrap .i64 (vy6.Y - vy7.Y)) * (IntKind.wrap .i64 (vy6.Y - vy7.Y)))))))) 32) * (ibits .and .u64 (IntKind.wrap .u64 (1000000)) 4294967295))) + (ishr .u64 (IntKind.wrap .u64 ((ibits .and .u64 (IntKind.wrap .u64 ((IntKind.wrap .i64 ((IntKind.wrap .i64 ((IntKind.wrap .i64 (vy6.X - vy7.X)) * (IntKind.wrap .i64 (vy6.X - vy7.X)))) + (IntKind.wrap .i64 ((IntKind.wrap .i64 (vy6.Y - vy7.Y)) * (IntKind.wrap .i64 (vy6.Y - vy7.Y)))))))) 4294967295) * (ibits .and .u64 (IntKind.wrap .u64 (1000000)) 4294967295))) 32))) 4294967295) + (IntKind.wrap .u64 ((ibits .and .u64 (IntKind.wrap .u64 ((IntKind.wrap .i64 ((IntKind.wrap .i64 ((IntKind.wrap .i64 (vy6.X - vy7.X)) * (IntKind.wrap .i64 (vy6.X - vy7.X)))) + (IntKind.wrap .i64 ((IntKind.wrap .i64 (vy6.Y - vy7.Y)) * (IntKind.wrap .i64 (vy6.Y - vy7.Y)))))))) 4294967295) * (ishr .u64 (IntKind.wrap .u64 (1000000)) 32))))) 32))) (IntKind.wrap .u64 ((IntKind.wrap .u64 ((IntKind.wrap .i64 ((IntKind.wrap .i64 ((IntKind.wrap .i64 (vy6.X - vy7.X)) * (IntKind.wrap .i64 (vy6.X - vy7.X)))) + (IntKind.wrap .i64 ((IntKind.wrap .i64 (vy6.Y - vy7.Y)) * (IntKind.wrap .i64 (vy6.Y - vy7.Y)))))))) * (IntKind.wrap .u64 (1000000))))) (place_wide.mk (IntKind.wrap .u64 ((IntKind.wrap .u64 ((IntKind.wrap .u64 ((ishr .u64 (IntKind.wrap .u64 ((IntKind.wrap .i64 (qx1 * (IntKind.wrap .i64 (vy4.At - vy5.At)))))) 32) * (ishr .u64 (IntKind.wrap .u64 ((IntKind.wrap .i64 (qx1 * (IntKind.wrap .i64 (vy4.At - vy5.At)))))) 32))) + (ishr .u64 (IntKind.wrap .u64 ((IntKind.wrap .u64 ((ishr .u64 (IntKind.wrap .u64 ((IntKind.wrap .i64 (qx1 * (IntKind.wrap .i64 (vy4.At - vy5.At)))))) 32) * (ibits .and .u64 (IntKind.wrap .u64 ((IntKind.wrap .i64 (qx1 * (IntKind.wrap .i64 (vy4.At - vy5.At)))))) 4294967295))) + (ishr .u64 (IntKind.wrap .u64 ((ibits .and .u64 (IntKind.wrap .u64 ((IntKind.wrap .i64 (qx1 * (IntKind.wrap .i64 (vy4.At - vy5.At)))))) 4294967295) * (ibits .and .u64 (IntKind.wrap .u64 ((IntKind.wrap .i64 (qx1 * (IntKind.wrap .i64 (vy4.At - vy5.At)))))) 4294967295))) 32))) 32))) + (ishr .u64 (IntKind.wrap .u64 ((ibits .and .u64 (IntKind.wrap .u64 ((IntKind.wrap .u64 ((ishr .u64 (IntKind.wrap .u64 ((IntKind.wrap .i64 (qx1 * (IntKind.wrap .i64 (vy4.At - vy5.At)))))) 32) * (ibits .and .u64 (IntKind.wrap .u64 ((IntKind.wrap .i64 (qx1 * (IntKind.wrap .i64 (vy4.At - vy5.At)))))) 4294967295))) + (ishr .u64 (IntKind.wrap .u64 ((ibits .and .u64 (IntKind.wrap .u64 ((IntKind.wrap .i64 (qx1 * (IntKind.wrap .i64 (vy4.At - vy5.At)))))) 4294967295) * (ibits .and .u64 (IntKind.wrap .u64 ((IntKind.wrap .i64 (qx1 * (IntKind.wrap .i64 (vy4.At - vy5.At)))))) 4294967295))) 32))) 4294967295) + (IntKind.wrap .u64 ((ibits .and .u64 (IntKind.wrap .u64 ((IntKind.wrap .i64 (qx1 * (IntKind.wrap .i64 (vy4.At - vy5.At)))))) 4294967295) * (ishr .u64 (IntKind.wrap .u64 ((IntKind.wrap .i64 (qx1 * (IntKind.wrap .i64 (vy4.At - vy5.At)))))) 32))))) 32))) (IntKind.wrap .u64 ((IntKind.wrap .u64 ((IntKind.wrap .i64 (qx1 * (IntKind.wrap .i64 (vy4.At - vy5.At)))))) * (IntKind.wrap .u64 ((IntKind.wrap .i64 (qx1 * (IntKind.wrap .i64 (vy4.At - vy5.At)))))))))).bind fun vr3 =>
  cond (vr3)
    (some (decide (vx2 < 2)))
    (some false)

noncomputable def place_Jumps_x2 (qx : List api_Fix) (qx1 : Int) (vx : List Int) (vx1 : Int) (vx2 : Int) (vx3 : Int) : Option (((List Int) × Int × Int)) :=
  (at? qx vx3).bind fun vy4 =>
  (at? qx vx1).bind fun vy5 =>
  (place_Jumps_x3 qx qx1 vx1 vx2 vx3 vy4 vy5).bind fun vx8_1 =>
  cond (vx8_1)
    (gd (Nat.ble (vx.length + ([vx3] : List Int).length) LIM) <|
    some (vx ++ ([vx3] : List Int), vx1, IntKind.wrap .i64 (vx2 + 1)))
    (some (vx, vx3, 0))

noncomputable def place_Jumps_x1 (qx : List api_Fix) (qx1 : Int) : (List Int) × Int × Int × Int → Option (((List Int) × Int × Int × Int) ⊕ ((List Int)))
  | (vx, vx1, vx2, vx3) =>
  cond (decide (vx3 < (qx.length : Int)))
    ((place_Jumps_x2 qx qx1 vx vx1 vx2 vx3).bind fun (vx9_1, vx10_1, vx11_1) =>
    some (.inl (vx9_1, vx10_1, vx11_1, IntKind.wrap .i64 (vx3 + 1))))
    (some (.inr vx))

noncomputable def place_Jumps (qx : List api_Fix) (qx1 : Int) : Option ((List Int) × Int) :=
  (place_trackFault qx).bind fun vr1 =>
  cond (!decide (vr1 = 0))
    (some ([], vr1))
    ((base_Out qx1 1 10000).bind fun vr =>
    cond (vr)
      (some ([], 1))
      ((loopO (place_Jumps_x1 qx qx1) ([], 0, 0, 1)).bind fun vx12_1 =>
      some (vx12_1, 0)))

/-! ### beaconfleet/place.side -/
noncomputable def place_side (qa : api_Spot) (qb : api_Spot) (qs : api_Spot) : Option (Unit) :=
  some ()

/-! ### beaconfleet/base.Gcd -/
noncomputable def base_Gcd_x1 : Int × Int → Option ((Int × Int) ⊕ (Int))
  | (va, vb) =>
  cond (!decide (vb = 0))
    (gd (!(vb == 0)) <|
    some (.inl (vb, va.tmod vb)))
    (some (.inr va))

noncomputable def base_Gcd (qa : Int) (qb : Int) : Option (Int) :=
  (loopO base_Gcd_x1 (qa, qb)).bind fun va1_1 =>
  some va1_1

/-! ### beaconfleet/base.Fraction -/
noncomputable def base_Fraction (qnum : Int) (qden : Int) : Option (api_Fraction) :=
  (base_Gcd (imax qnum (IntKind.wrap .i64 (0 - qnum))) qden).bind fun vr =>
  gd (!(vr == 0)) <|
  some (api_Fraction.mk (IntKind.wrap .i64 (qnum.tdiv vr)) (IntKind.wrap .i64 (qden.tdiv vr)))

/-! ### beaconfleet/place.far -/
noncomputable def place_far (qa : api_Spot) (qb : api_Spot) (qs : api_Spot) : Option (api_Fraction) :=
  (place_square qa qb).bind fun _ =>
  cond (decide ((IntKind.wrap .i64 ((IntKind.wrap .i64 ((IntKind.wrap .i64 (qs.X - qa.X)) * (IntKind.wrap .i64 (qb.X - qa.X)))) + (IntKind.wrap .i64 ((IntKind.wrap .i64 (qs.Y - qa.Y)) * (IntKind.wrap .i64 (qb.Y - qa.Y)))))) ≤ 0))
    ((place_square qa qs).bind fun _ =>
    some (api_Fraction.mk (IntKind.wrap .i64 ((IntKind.wrap .i64 ((IntKind.wrap .i64 (qa.X - qs.X)) * (IntKind.wrap .i64 (qa.X - qs.X)))) + (IntKind.wrap .i64 ((IntKind.wrap .i64 (qa.Y - qs.Y)) * (IntKind.wrap .i64 (qa.Y - qs.Y)))))) 1))
    (cond (decide ((IntKind.wrap .i64 ((IntKind.wrap .i64 ((IntKind.wrap .i64 (qa.X - qb.X)) * (IntKind.wrap .i64 (qa.X - qb.X)))) + (IntKind.wrap .i64 ((IntKind.wrap .i64 (qa.Y - qb.Y)) * (IntKind.wrap .i64 (qa.Y - qb.Y)))))) ≤ (IntKind.wrap .i64 ((IntKind.wrap .i64 ((IntKind.wrap .i64 (qs.X - qa.X)) * (IntKind.wrap .i64 (qb.X - qa.X)))) + (IntKind.wrap .i64 ((IntKind.wrap .i64 (qs.Y - qa.Y)) * (IntKind.wrap .i64 (qb.Y - qa.Y))))))))
      ((place_square qb qs).bind fun _ =>
      some (api_Fraction.mk (IntKind.wrap .i64 ((IntKind.wrap .i64 ((IntKind.wrap .i64 (qb.X - qs.X)) * (IntKind.wrap .i64 (qb.X - qs.X)))) + (IntKind.wrap .i64 ((IntKind.wrap .i64 (qb.Y - qs.Y)) * (IntKind.wrap .i64 (qb.Y - qs.Y)))))) 1))
      ((place_side qa qb qs).bind fun _ =>
      (base_Fraction (IntKind.wrap .i64 ((IntKind.wrap .i64 ((IntKind.wrap .i64 ((IntKind.wrap .i64 (qb.X - qa.X)) * (IntKind.wrap .i64 (qs.Y - qa.Y)))) - (IntKind.wrap .i64 ((IntKind.wrap .i64 (qb.Y - qa.Y)) * (IntKind.wrap .i64 (qs.X - qa.X)))))) * (IntKind.wrap .i64 ((IntKind.wrap .i64 ((IntKind.wrap .i64 (qb.X - qa.X)) * (IntKind.wrap .i64 (qs.Y - qa.Y)))) - (IntKind.wrap .i64 ((IntKind.wrap .i64 (qb.Y - qa.Y)) * (IntKind.wrap .i64 (qs.X - qa.X)))))))) (IntKind.wrap .i64 ((IntKind.wrap .i64 ((IntKind.wrap .i64 (qa.X - qb.X)) * (IntKind.wrap .i64 (qa.X - qb.X)))) + (IntKind.wrap .i64 ((IntKind.wrap .i64 (qa.Y - qb.Y)) * (IntKind.wrap .i64 (qa.Y - qb.Y))))))).bind fun vr1 =>
      some vr1))

/-! ### beaconfleet/base.CompareProducts -/
noncomputable def base_CompareProducts_x2 (qa : Int) (qb : Int) (qc : Int) (qd : Int) : Option (Bool) :=
  cond (!decide ((IntKind.wrap .u64 ((IntKind.wrap .u64 ((IntKind.wrap .u64 ((ishr .u64 (IntKind.wrap .u64 (qa)) 32) * (ishr .u64 (IntKind.wrap .u64 (qb)) 32))) + (ishr .u64 (IntKind.wrap .u64 ((IntKind.wrap .u64 ((ishr .u64 (IntKind.wrap .u64 (qa)) 32) * (ibits .and .u64 (IntKind.wrap .u64 (qb)) 4294967295))) + (ishr .u64 (IntKind.wrap .u64 ((ibits .and .u64 (IntKind.wrap .u64 (qa)) 4294967295) * (ibits .and .u64 (IntKind.wrap .u64 (qb)) 4294967295))) 32))) 32))) + (ishr .u64 (IntKind.wrap .u64 ((ibits .and .u64 (IntKind.wrap .u64 ((IntKind.wrap .u64 ((ishr .u64 (IntKind.wrap .u64 (qa)) 32) * (ibits .and .u64 (IntKind.wrap .u64 (qb)) 4294967295))) + (ishr .u64 (IntKind.wrap .u64 ((ibits .and .u64 (IntKind.wrap .u64 (qa)) 4294967295) * (ibits .and .u64 (IntKind.wrap .u64 (qb)) 4294967295))) 32))) 4294967295) + (IntKind.wrap .u64 ((ibits .and .u64 (IntKind.wrap .u64 (qa)) 4294967295) * (ishr .u64 (IntKind.wrap .u64 (qb)) 32))))) 32))) = (IntKind.wrap .u64 ((IntKind.wrap .u64 ((IntKind.wrap .u64 ((ishr .u64 (IntKind.wrap .u64 (qc)) 32) * (ishr .u64 (IntKind.wrap .u64 (qd)) 32))) + (ishr .u64 (IntKind.wrap .u64 ((IntKind.wrap .u64 ((ishr .u64 (IntKind.wrap .u64 (qc)) 32) * (ibits .and .u64 (IntKind.wrap .u64 (qd)) 4294967295))) + (ishr .u64 (IntKind.wrap .u64 ((ibits .and .u64 (IntKind.wrap .u64 (qc)) 4294967295) * (ibits .and .u64 (IntKind.wrap .u64 (qd)) 4294967295))) 32))) 32))) + (ishr .u64 (IntKind.wrap .u64 ((ibits .and .u64 (IntKind.wrap .u64 ((IntKind.wrap .u64 ((ishr .u64 (IntKind.wrap .u64 (qc)) 32) * (ibits .and .u64 (IntKind.wrap .u64 (qd)) 4294967295))) + (ishr .u64 (IntKind.wrap .u64 ((ibits .and .u64 (IntKind.wrap .u64 (qc)) 4294967295) * (ibits .and .u64 (IntKind.wrap .u64 (qd)) 4294967295))) 32))) 4294967295) + (IntKind.wrap .u64 ((ibits .and .u64 (IntKind.wrap .u64 (qc)) 4294967295) * (ishr .u64 (IntKind.wrap .u64 (qd)) 32))))) 32)))))
    (some (decide ((IntKind.wrap .u64 ((IntKind.wrap .u64 ((IntKind.wrap .u64 ((ishr .u64 (IntKind.wrap .u64 (qa)) 32) * (ishr .u64 (IntKind.wrap .u64 (qb)) 32))) + (ishr .u64 (IntKind.wrap .u64 ((IntKind.wrap .u64 ((ishr .u64 (IntKind.wrap .u64 (qa)) 32) * (ibits .and .u64 (IntKind.wrap .u64 (qb)) 4294967295))) + (ishr .u64 (IntKind.wrap .u64 ((ibits .and .u64 (IntKind.wrap .u64 (qa)) 4294967295) * (ibits .and .u64 (IntKind.wrap .u64 (qb)) 4294967295))) 32))) 32))) + (ishr .u64 (IntKind.wrap .u64 ((ibits .and .u64 (IntKind.wrap .u64 ((IntKind.wrap .u64 ((ishr .u64 (IntKind.wrap .u64 (qa)) 32) * (ibits .and .u64 (IntKind.wrap .u64 (qb)) 4294967295))) + (ishr .u64 (IntKind.wrap .u64 ((ibits .and .u64 (IntKind.wrap .u64 (qa)) 4294967295) * (ibits .and .u64 (IntKind.wrap .u64 (qb)) 4294967295))) 32))) 4294967295) + (IntKind.wrap .u64 ((ibits .and .u64 (IntKind.wrap .u64 (qa)) 4294967295) * (ishr .u64 (IntKind.wrap .u64 (qb)) 32))))) 32))) < (IntKind.wrap .u64 ((IntKind.wrap .u64 ((IntKind.wrap .u64 ((ishr .u64 (IntKind.wrap .u64 (qc)) 32) * (ishr .u64 (IntKind.wrap .u64 (qd)) 32))) + (ishr .u64 (IntKind.wrap .u64 ((IntKind.wrap .u64 ((ishr .u64 (IntKind.wrap .u64 (qc)) 32) * (ibits .and .u64 (IntKind.wrap .u64 (qd)) 4294967295))) + (ishr .u64 (IntKind.wrap .u64 ((ibits .and .u64 (IntKind.wrap .u64 (qc)) 4294967295) * (ibits .and .u64 (IntKind.wrap .u64 (qd)) 4294967295))) 32))) 32))) + (ishr .u64 (IntKind.wrap .u64 ((ibits .and .u64 (IntKind.wrap .u64 ((IntKind.wrap .u64 ((ishr .u64 (IntKind.wrap .u64 (qc)) 32) * (ibits .and .u64 (IntKind.wrap .u64 (qd)) 4294967295))) + (ishr .u64 (IntKind.wrap .u64 ((ibits .and .u64 (IntKind.wrap .u64 (qc)) 4294967295) * (ibits .and .u64 (IntKind.wrap .u64 (qd)) 4294967295))) 32))) 4294967295) + (IntKind.wrap .u64 ((ibits .and .u64 (IntKind.wrap .u64 (qc)) 4294967295) * (ishr .u64 (IntKind.wrap .u64 (qd)) 32))))) 32))))))
    (some false)

noncomputable def base_CompareProducts_x1 (qa : Int) (qb : Int) (qc : Int) (qd : Int) : Option (Bool) :=
  (base_CompareProducts_x2 qa qb qc qd).bind fun vx1 =>
  cond (vx1)
    (some vx1)
    (cond (decide ((IntKind.wrap .u64 ((IntKind.wrap .u64 ((IntKind.wrap .u64 ((ishr .u64 (IntKind.wrap .u64 (qa)) 32) * (ishr .u64 (IntKind.wrap .u64 (qb)) 32))) + (ishr .u64 (IntKind.wrap .u64 ((IntKind.wrap .u64 ((ishr .u64 (IntKind.wrap .u64 (qa)) 32) * (ibits .and .u64 (IntKind.wrap .u64 (qb)) 4294967295))) + (ishr .u64 (IntKind.wrap .u64 ((ibits .and .u64 (IntKind.wrap .u64 (qa)) 4294967295) * (ibits .and .u64 (IntKind.wrap .u64 (qb)) 4294967295))) 32))) 32))) + (ishr .u64 (IntKind.wrap .u64 ((ibits .and .u64 (IntKind.wrap .u64 ((IntKind.wrap .u64 ((ishr .u64 (IntKind.wrap .u64 (qa)) 32) * (ibits .and .u64 (IntKind.wrap .u64 (qb)) 4294967295))) + (ishr .u64 (IntKind.wrap .u64 ((ibits .and .u64 (IntKind.wrap .u64 (qa)) 4294967295) * (ibits .and .u64 (IntKind.wrap .u64 (qb)) 4294967295))) 32))) 4294967295) + (IntKind.wrap .u64 ((ibits .and .u64 (IntKind.wrap .u64 (qa)) 4294967295) * (ishr .u64 (IntKind.wrap .u64 (qb)) 32))))) 32))) = (IntKind.wrap .u64 ((IntKind.wrap .u64 ((IntKind.wrap .u64 ((ishr .u64 (IntKind.wrap .u64 (qc)) 32) * (ishr .u64 (IntKind.wrap .u64 (qd)) 32))) + (ishr .u64 (IntKind.wrap .u64 ((IntKind.wrap .u64 ((ishr .u64 (IntKind.wrap .u64 (qc)) 32) * (ibits .and .u64 (IntKind.wrap .u64 (qd)) 4294967295))) + (ishr .u64 (IntKind.wrap .u64 ((ibits .and .u64 (IntKind.wrap .u64 (qc)) 4294967295) * (ibits .and .u64 (IntKind.wrap .u64 (qd)) 4294967295))) 32))) 32))) + (ishr .u64 (IntKind.wrap .u64 ((ibits .and .u64 (IntKind.wrap .u64 ((IntKind.wrap .u64 ((ishr .u64 (IntKind.wrap .u64 (qc)) 32) * (ibits .and .u64 (IntKind.wrap .u64 (qd)) 4294967295))) + (ishr .u64 (IntKind.wrap .u64 ((ibits .and .u64 (IntKind.wrap .u64 (qc)) 4294967295) * (ibits .and .u64 (IntKind.wrap .u64 (qd)) 4294967295))) 32))) 4294967295) + (IntKind.wrap .u64 ((ibits .and .u64 (IntKind.wrap .u64 (qc)) 4294967295) * (ishr .u64 (IntKind.wrap .u64 (qd)) 32))))) 32)))))
      (some (decide ((IntKind.wrap .u64 ((IntKind.wrap .u64 (qa)) * (IntKind.wrap .u64 (qb)))) < (IntKind.wrap .u64 ((IntKind.wrap .u64 (qc)) * (IntKind.wrap .u64 (qd)))))))
      (some false))

noncomputable def base_CompareProducts_x3 (qa : Int) (qb : Int) (qc : Int) (qd : Int) : Option (Bool) :=
  cond (decide ((IntKind.wrap .u64 ((IntKind.wrap .u64 ((IntKind.wrap .u64 ((ishr .u64 (IntKind.wrap .u64 (qa)) 32) * (ishr .u64 (IntKind.wrap .u64 (qb)) 32))) + (ishr .u64 (IntKind.wrap .u64 ((IntKind.wrap .u64 ((ishr .u64 (IntKind.wrap .u64 (qa)) 32) * (ibits .and .u64 (IntKind.wrap .u64 (qb)) 4294967295))) + (ishr .u64 (IntKind.wrap .u64 ((ibits .and .u64 (IntKind.wrap .u64 (qa)) 4294967295) * (ibits .and .u64 (IntKind.wrap .u64 (qb)) 4294967295))) 32))) 32))) + (ishr .u64 (IntKind.wrap .u64 ((ibits .and .u64 (IntKind.wrap .u64 ((IntKind.wrap .u64 ((ishr .u64 (IntKind.wrap .u64 (qa)) 32) * (ibits .and .u64 (IntKind.wrap .u64 (qb)) 4294967295))) + (ishr .u64 (IntKind.wrap .u64 ((ibits .and .u64 (IntKind.wrap .u64 (qa)) 4294967295) * (ibits .and .u64 (IntKind.wrap .u64 (qb)) 4294967295))) 32))) 4294967295) + (IntKind.wrap .u64 ((ibits .and .u64 (IntKind.wrap .u64 (qa)) 4294967295) * (ishr .u64 (IntKind.wrap .u64 (qb)) 32))))) 32))) = (IntKind.wrap .u64 ((IntKind.wrap .u64 ((IntKind.wrap .u64 ((ishr .u64 (IntKind.wrap .u64 (qc)) 32) * (ishr .u64 (IntKind.wrap .u64 (qd)) 32))) + (ishr .u64 (IntKind.wrap .u64 ((IntKind.wrap .u64 ((ishr .u64 (IntKind.wrap .u64 (qc)) 32) * (ibits .and .u64 (IntKind.wrap .u64 (qd)) 4294967295))) + (ishr .u64 (IntKind.wrap .u64 ((ibits .and .u64 (IntKind.wrap .u64 (qc)) 4294967295) * (ibits .and .u64 (IntKind.wrap .u64 (qd)) 4294967295))) 32))) 32))) + (ishr .u64 (IntKind.wrap .u64 ((ibits .and .u64 (IntKind.wrap .u64 ((IntKind.wrap .u64 ((ishr .u64 (IntKind.wrap .u64 (qc)) 32) * (ibits .and .u64 (IntKind.wrap .u64 (qd)) 4294967295))) + (ishr .u64 (IntKind.wrap .u64 ((ibits .and .u64 (IntKind.wrap .u64 (qc)) 4294967295) * (ibits .and .u64 (IntKind.wrap .u64 (qd)) 4294967295))) 32))) 4294967295) + (IntKind.wrap .u64 ((ibits .and .u64 (IntKind.wrap .u64 (qc)) 4294967295) * (ishr .u64 (IntKind.wrap .u64 (qd)) 32))))) 32)))))
    (some (decide ((IntKind.wrap .u64 ((IntKind.wrap .u64 (qa)) * (IntKind.wrap .u64 (qb)))) = (IntKind.wrap .u64 ((IntKind.wrap .u64 (qc)) * (IntKind.wrap .u64 (qd)))))))
    (some false)

noncomputable def base_CompareProducts (qa : Int) (qb : Int) (qc : Int) (qd : Int) : Option (Int) :=
  (bits_Mul64 (IntKind.wrap .u64 (qa)) (IntKind.wrap .u64 (qb))).bind fun _ =>
  (bits_Mul64 (IntKind.wrap .u64 (qc)) (IntKind.wrap .u64 (qd))).bind fun _ =>
  (base_CompareProducts_x1 qa qb qc qd).bind fun vx2_1 =>
  cond (vx2_1)
    (some (-1))
    ((base_CompareProducts_x3 qa qb qc qd).bind fun vx3_1 =>
    cond (vx3_1)
      (some 0)
      (some 1))

/-! ### beaconfleet/place.less -/
noncomputable def place_less (qa : api_Fraction) (qb : api_Fraction) : Option (Bool) :=
  (base_CompareProducts qa.Num qb.Den qb.Num qa.Den).bind fun vr =>
  some (decide (vr < 0))

/-! ### beaconfleet/place.Plain$1 -/
noncomputable def place_Plain_1_b0o_x2 (recF : Int → Int → (List Bool) → Int → (List api_Fix) → Option ((List Bool))) (qi : Int) (qk : Int) (qx2 : List api_Fix) (vaway : api_Fraction) (vbest : Int) (vm : Int) : Option ((api_Fraction × Int)) :=
  (at? qx2 qi).bind fun vy5 =>
  (place_spot vy5).bind fun _ =>
  (at? qx2 qk).bind fun vy6 =>
  (place_spot vy6).bind fun _ =>
  (at? qx2 vm).bind fun vy7 =>
  (place_spot vy7).bind fun _ =>
  (place_far (api_Spot.mk vy5.X vy5.Y) (api_Spot.mk vy6.X vy6.Y) (api_Spot.mk vy7.X vy7.Y)).bind fun vr2 =>
  (place_less vaway vr2).bind fun vr1_1 =>
  cond (vr1_1)
    (some (vr2, vm))
    (some (vaway, vbest))

noncomputable def place_Plain_1_b0o_x1 (recF : Int → Int → (List Bool) → Int → (List api_Fix) → Option ((List Bool))) (qi : Int) (qk : Int) (qx2 : List api_Fix) : api_Fraction × Int × Int → Option ((api_Fraction × Int × Int) ⊕ (Int))
  | (vaway, vbest, vm) =>
  cond (decide (vm < qk))
    ((place_Plain_1_b0o_x2 recF qi qk qx2 vaway vbest vm).bind fun (vaway2_1, vbest2_1) =>
    some (.inl (vaway2_1, vbest2_1, IntKind.wrap .i64 (vm + 1))))
    (some (.inr vbest))

noncomputable def place_Plain_1_b0o_n : Nat → Int → Int → (List Bool) → Int → (List api_Fix) → Option ((List Bool))
  | 0, _, _, _, _, _ => none
  | n + 1, qi, qk, qx, qx1, qx2 =>
  (at? qx qi).bind fun vy =>
  (at? (qx.set qi.toNat true) qk).bind fun vy1 =>
  (loopO (place_Plain_1_b0o_x1 (place_Plain_1_b0o_n n) qi qk qx2) (api_Fraction.mk (IntKind.wrap .i64 (qx1 * qx1)) 1, (-1), IntKind.wrap .i64 (qi + 1))).bind fun vbest3_1 =>
  cond (decide (0 ≤ vbest3_1))
    (((place_Plain_1_b0o_n n) qi vbest3_1 ((qx.set qi.toNat true).set qk.toNat true) qx1 qx2).bind fun vs =>
    ((place_Plain_1_b0o_n n) vbest3_1 qk vs qx1 qx2).bind fun vs1 =>
    some vs1)
    (some ((qx.set qi.toNat true).set qk.toNat true))

noncomputable def place_Plain_1_b0o (qi : Int) (qk : Int) (qx : List Bool) (qx1 : Int) (qx2 : List api_Fix) : Option ((List Bool)) := fixO fun n => place_Plain_1_b0o_n n qi qk qx qx1 qx2

/-! ### beaconfleet/place.Plain -/
noncomputable def place_Plain_x1 (ql : List api_Fix) (qmost : Int) : Option ((List Bool)) :=
  cond (decide (0 < (ql.length : Int)))
    ((place_Plain_1_b0o 0 (IntKind.wrap .i64 ((ql.length : Int) - 1)) (List.replicate (ql.length : Int).toNat false) qmost ql).bind fun vs2 =>
    some vs2)
    (some (List.replicate (ql.length : Int).toNat false))

noncomputable def place_Plain_x3 (vkeep1 : List Bool) (vout : List Int) (vx : Int) : Option ((List Int)) :=
  (at? vkeep1 vx).bind fun vy1 =>
  cond (vy1)
    (gd (Nat.ble (vout.length + ([vx] : List Int).length) LIM) <|
    some (vout ++ ([vx] : List Int)))
    (some vout)

noncomputable def place_Plain_x2 (vkeep1 : List Bool) : (List Int) × Int → Option (((List Int) × Int) ⊕ ((List Int)))
  | (vout, vx) =>
  cond (decide (vx < (vkeep1.length : Int)))
    ((place_Plain_x3 vkeep1 vout vx).bind fun vout2_1 =>
    some (.inl (vout2_1, IntKind.wrap .i64 (vx + 1))))
    (some (.inr vout))

noncomputable def place_Plain (ql : List api_Fix) (qmost : Int) : Option ((List Int) × Int) :=
  (place_trackFault ql).bind fun vr1 =>
  cond (!decide (vr1 = 0))
    (some ([], vr1))
    ((base_Out qmost 0 10000).bind fun vr =>
    cond (vr)
      (some ([], 1))
      (gd (decide (0 ≤ (ql.length : Int)) && decide ((ql.length : Int) ≤ (ql.length : Int)) && decide ((ql.length : Int) ≤ 137438953472)) <|
      (place_Plain_x1 ql qmost).bind fun vkeep1 =>
      (loopO (place_Plain_x2 vkeep1) ([], 0)).bind fun vout3_1 =>
      some (vout3_1, 0)))

/-! ### beaconfleet/fleetref2.in -/
noncomputable def fleetref2_in_x1 (qn : Int) (qlow : Int) (qhigh : Int) : Option (Bool) :=
  cond (decide (qlow ≤ qn))
    (some (decide (qn ≤ qhigh)))
    (some false)

noncomputable def fleetref2_in (qn : Int) (qlow : Int) (qhigh : Int) : Option (Bool) :=
  (fleetref2_in_x1 qn qlow qhigh).bind fun vx1 =>
  some vx1

/-! ### internal/stringslite.IndexByte -/
noncomputable def stringslite_IndexByte (qs : List UInt8) (qc : Int) : Option (Unit) :=
  some ()

/-! ### strings.IndexByte -/
noncomputable def strings_IndexByte (qs : List UInt8) (qc : Int) : Option (Unit) :=
  (stringslite_IndexByte qs qc).bind fun _ =>
  some ()

/-! ### beaconfleet/fleetref2.only -/
noncomputable def fleetref2_only_x1 (qs : List UInt8) (qsome : List UInt8) (vx : Int) : Option ((Int) ⊕ (Unit ⊕ Unit)) :=
  cond (decide (vx < (qs.length : Int)))
    ((at? qs vx).bind fun vc1 =>
    (strings_IndexByte qsome (vc1.toNat : Int)).bind fun _ =>
    cond (decide ((Lib.indexByte qsome (vc1.toNat : Int).toNat.toUInt8) < 0))
      (some (.inr (.inr ())))
      (some (.inl (IntKind.wrap .i64 (vx + 1)))))
    (some (.inr (.inl ())))

noncomputable def fleetref2_only (qs : List UInt8) (qsome : List UInt8) : Option (Bool) :=
  (loopO (fleetref2_only_x1 qs qsome) 0).bind fun x => match x with
    | .inl _ =>
      some true
    | .inr _ =>
      some false

/-! ### beaconfleet/fleetref2.Key -/
noncomputable def fleetref2_Key_x1 (qs : List UInt8) : Option (Bool) :=
  (fleetref2_in (qs.length : Int) 1 40).bind fun vr =>
  cond (vr)
    ((sub? qs 0 1).bind fun vs =>
    (fleetref2_only vs ([97, 98, 99, 100, 101, 102, 103, 104, 105, 106, 107, 108, 109, 110, 111, 112, 113, 114, 115, 116, 117, 118, 119, 120, 121, 122] : List UInt8)).bind fun vr1 =>
    cond (vr1)
      ((fleetref2_only qs ([97, 98, 99, 100, 101, 102, 103, 104, 105, 106, 107, 108, 109, 110, 111, 112, 113, 114, 115, 116, 117, 118, 119, 120, 121, 122, 48, 49, 50, 51, 52, 53, 54, 55, 56, 57, 45, 95] : List UInt8)).bind fun vr2 =>
      some vr2)
      (some false))
    (some false)

noncomputable def fleetref2_Key (qs : List UInt8) : Option (Bool) :=
  (fleetref2_Key_x1 qs).bind fun vx1 =>
  some vx1

/-! ### beaconfleet/fleetref2.Moment -/
noncomputable def fleetref2_Moment (qat : Int) : Option (Bool) :=
  (fleetref2_in qat 0 345686399999).bind fun vr =>
  some vr

/-! ### beaconfleet/fleetref2.spotOf -/
noncomputable def fleetref2_spotOf (qx : api_Fix) : Option (Unit) :=
  some ()

/-! ### beaconfleet/fleetref2.SpotFault -/
noncomputable def fleetref2_SpotFault_x1 (qs : api_Spot) : Option (Bool) :=
  (fleetref2_in qs.X (-10000) 10000).bind fun vr =>
  cond (!vr)
    (some true)
    ((fleetref2_in qs.Y (-10000) 10000).bind fun vr1 =>
    some (!vr1))

noncomputable def fleetref2_SpotFault (qs : api_Spot) : Option (Int) :=
  (fleetref2_SpotFault_x1 qs).bind fun vx1 =>
  cond (vx1)
    (some 1)
    (some 0)

/-! ### beaconfleet/fleetref2.sign -/
noncomputable def fleetref2_sign (qn : Int) : Option (Int) :=
  cond (decide (qn < 0))
    (some (-1))
    (cond (decide (0 < qn))
      (some 1)
      (some 0))

/-! ### beaconfleet/fleetref2.FixOrder -/
noncomputable def fleetref2_FixOrder (qa : api_Fix) (qb : api_Fix) : Option (Int) :=
  cond (!decide (qa.Device = qb.Device))
    ((strings_Compare qa.Device qb.Device).bind fun _ =>
    some (Lib.compareBytes qa.Device qb.Device))
    ((fleetref2_sign (IntKind.wrap .i64 (qa.At - qb.At))).bind fun vr =>
    some vr)

/-! ### beaconfleet/fleetref2.FixesFault -/
noncomputable def fleetref2_FixesFault_x2 (vy2 : api_Fix) : Option (Bool) :=
  (fleetref2_Moment vy2.At).bind fun vr1_2 =>
  cond (!vr1_2)
    (some true)
    ((fleetref2_spotOf vy2).bind fun _ =>
    (fleetref2_SpotFault (api_Spot.mk vy2.X vy2.Y)).bind fun vr2_1 =>
    cond (!decide (vr2_1 = 0))
      (some true)
      ((fleetref2_in vy2.Error 0 10000).bind fun vr4 =>
      some (!vr4)))

noncomputable def fleetref2_FixesFault_x3 (ql : List api_Fix) (vx : Int) (vy2 : api_Fix) : Option (Bool) :=
  cond (decide (0 < vx))
    ((at? ql (IntKind.wrap .i64 (vx - 1))).bind fun vy3 =>
    (fleetref2_FixOrder vy3 vy2).bind fun vr1_3 =>
    some (decide (0 ≤ vr1_3)))
    (some false)

noncomputable def fleetref2_FixesFault_x1 (ql : List api_Fix) (vx : Int) : Option ((Int) ⊕ (Unit ⊕ Int)) :=
  cond (decide (vx < (ql.length : Int)))
    ((at? ql vx).bind fun vy2 =>
    (fleetref2_Key vy2.Device).bind fun vr3_1 =>
    cond (!vr3_1)
      (some (.inr (.inr 5)))
      ((fleetref2_FixesFault_x2 vy2).bind fun vx3_1 =>
      cond (vx3_1)
        (some (.inr (.inr 1)))
        ((fleetref2_FixesFault_x3 ql vx vy2).bind fun vx4_1 =>
        cond (vx4_1)
          (some (.inr (.inr 7)))
          (some (.inl (IntKind.wrap .i64 (vx + 1)))))))
    (some (.inr (.inl ())))

noncomputable def fleetref2_FixesFault (ql : List api_Fix) : Option (Int) :=
  cond (decide (2000 < (ql.length : Int)))
    (some 2)
    ((loopO (fleetref2_FixesFault_x1 ql) 0).bind fun x => match x with
      | .inl _ =>
        some 0
      | .inr vx5_1 =>
        some vx5_1)

/-! ### beaconfleet/fleetref2.TrackFault$1 -/
noncomputable def fleetref2_TrackFault_1 (qx : api_Fix) (qx1 : List api_Fix) : Option (Bool) :=
  (at? qx1 0).bind fun vy =>
  some (!decide (qx.Device = vy.Device))

/-! ### slices.IndexFunc[[]beaconfleet/api.Fix,beaconfleet/api.Fix] -/
noncomputable def slices_IndexFunc_api_Fix_api_Fix_f1_fleetref2_TrackFault_1_x1 (qs : List api_Fix) (vx : Int) : Option ((Int) ⊕ (Unit ⊕ Int)) :=
  cond (decide (vx < (qs.length : Int)))
    ((at? qs vx).bind fun vy1 =>
    (fleetref2_TrackFault_1 vy1 qs).bind fun vr1 =>
    cond (vr1)
      (some (.inr (.inr vx)))
      (some (.inl (IntKind.wrap .i64 (vx + 1)))))
    (some (.inr (.inl ())))

noncomputable def slices_IndexFunc_api_Fix_api_Fix_f1_fleetref2_TrackFault_1 (qs : List api_Fix) : Option (Int) :=
  (loopO (slices_IndexFunc_api_Fix_api_Fix_f1_fleetref2_TrackFault_1_x1 qs) 0).bind fun x => match x with
    | .inl _ =>
      some (-1)
    | .inr vx1_1 =>
      some vx1_1

/-! ### slices.ContainsFunc[[]beaconfleet/api.Fix,beaconfleet/api.Fix] -/
noncomputable def slices_ContainsFunc_api_Fix_api_Fix_f1_fleetref2_TrackFault_1 (qs : List api_Fix) : Option (Bool) :=
  (slices_IndexFunc_api_Fix_api_Fix_f1_fleetref2_TrackFault_1 qs).bind fun vr2 =>
  some (decide (0 ≤ vr2))

/-! ### beaconfleet/fleetref2.TrackFault -/
noncomputable def fleetref2_TrackFault (ql : List api_Fix) : Option (Int) :=
  (fleetref2_FixesFault ql).bind fun vr5 =>
  cond (!decide (vr5 = 0))
    (some vr5)
    ((slices_ContainsFunc_api_Fix_api_Fix_f1_fleetref2_TrackFault_1 ql).bind fun vr =>
    cond (vr)
      (some 13)
      (some 0))

/-! ### beaconfleet/fleetlaw2.when -/
noncomputable def fleetlaw2_when (qis : Bool) (qe : Int) : Option (Int) :=
  cond (qis)
    (some qe)
    (some 0)

/-! ### beaconfleet/fleetlaw2.errs -/
noncomputable def fleetlaw2_errs_x1 (ql : List Int) (vx : Int) : Option ((Int) ⊕ (Unit ⊕ Int)) :=
  cond (decide (vx < (ql.length : Int)))
    ((at? ql vx).bind fun vy1 =>
    cond (!decide (vy1 = 0))
      (some (.inr (.inr vy1)))
      (some (.inl (IntKind.wrap .i64 (vx + 1)))))
    (some (.inr (.inl ())))

noncomputable def fleetlaw2_errs (ql : List Int) : Option (Int) :=
  (loopO (fleetlaw2_errs_x1 ql) 0).bind fun x => match x with
    | .inl _ =>
      some 0
    | .inr vx1_1 =>
      some vx1_1

/-! ### beaconfleet/fleetref2.minus -/
noncomputable def fleetref2_minus (qa : api_Spot) (qb : api_Spot) : Option (Unit) :=
  some ()

/-! ### beaconfleet/fleetref2.dot -/
noncomputable def fleetref2_dot (qa : api_Spot) : Option (Unit) :=
  some ()

/-! ### beaconfleet/fleetref2.square -/
noncomputable def fleetref2_square (qa : api_Fix) (qb : api_Fix) : Option (Unit) :=
  (fleetref2_spotOf qa).bind fun _ =>
  (fleetref2_spotOf qb).bind fun _ =>
  (fleetref2_minus (api_Spot.mk qa.X qa.Y) (api_Spot.mk qb.X qb.Y)).bind fun _ =>
  (fleetref2_dot (api_Spot.mk (IntKind.wrap .i64 (qa.X - qb.X)) (IntKind.wrap .i64 (qa.Y - qb.Y)))).bind fun _ =>
  some ()

/-! ### beaconfleet/fleetref2.JumpsOf -/
noncomputable def fleetref2_JumpsOf_x3 (ql : List api_Fix) (qspeed : Int) (vlast : Int) (vrow : Int) (vi : Int) (vy4 : api_Fix) (vy5 : api_Fix) : Option (Bool) :=
  cond (decide (100000000 ≤ (IntKind.wrap .i64 (qspeed * (imin (IntKind.wrap .i64 (vy4.At - vy5.At)) 100000000)))))
    (some true)
    ((at? ql vi).bind fun vy6 =>
    (at? ql vlast).bind fun vy7 =>
    (fleetref2_square vy6 vy7).bind fun _ =>
    cond (decide ((IntKind.wrap .i64 ((IntKind.wrap .i64 ((IntKind.wrap .i64 ((IntKind.wrap .i64 (vy6.X - vy7.X)) * (IntKind.wrap .i64 (vy6.X - vy7.X)))) + (IntKind.wrap .i64 ((IntKind.wrap .i64 (vy6.Y - vy7.Y)) * (IntKind.wrap .i64 (vy6.Y - vy7.Y)))))) * 1000000)) ≤ (IntKind.wrap .i64 ((IntKind.wrap .i64 (qspeed * (imin (IntKind.wrap .i64 (vy4.At - vy5.At)) 100000000))) * (IntKind.wrap .i64 (qspeed * (imin (IntKind.wrap .i64 (vy4.At - vy5.At)) 100000000)))))))
      (some true)
      (some (decide (vrow = 2))))

noncomputable def fleetref2_JumpsOf_x2 (ql : List api_Fix) (qspeed : Int) (vout : List Int) (vlast : Int) (vrow : Int) (vi : Int) : Option (((List Int) × Int × Int)) :=
  (at? ql vi).bind fun vy4 =>
  (at? ql vlast).bind fun vy5 =>
  (fleetref2_JumpsOf_x3 ql qspeed vlast vrow vi vy4 vy5).bind fun vx2_1 =>
  cond (vx2_1)
    (some (vout, vi, 0))
    (gd (Nat.ble (vout.length + ([vi] : List Int).length) LIM) <|
    some (vout ++ ([vi] : List Int), vlast, IntKind.wrap .i64 (vrow + 1)))

noncomputable def fleetref2_JumpsOf_x1 (ql : List api_Fix) (qspeed : Int) : (List Int) × Int × Int × Int → Option (((List Int) × Int × Int × Int) ⊕ ((List Int)))
  | (vout, vlast, vrow, vi) =>
  cond (decide (vi < (ql.length : Int)))
    ((fleetref2_JumpsOf_x2 ql qspeed vout vlast vrow vi).bind fun (vout2_1, vlast2_1, vrow2_1) =>
    some (.inl (vout2_1, vlast2_1, vrow2_1, IntKind.wrap .i64 (vi + 1))))
    (some (.inr vout))

noncomputable def fleetref2_JumpsOf (ql : List api_Fix) (qspeed : Int) : Option ((List Int)) :=
  (loopO (fleetref2_JumpsOf_x1 ql qspeed) ([], 0, 0, 1)).bind fun vout3_1 =>
  some vout3_1

/-! ### beaconfleet/fleetref2.dot -/
noncomputable def fleetref2_dot_2 (qa : api_Spot) (qb : api_Spot) : Option (Unit) :=
  some ()

/-! ### beaconfleet/fleetref2.cross -/
noncomputable def fleetref2_cross (qa : api_Spot) (qb : api_Spot) : Option (Unit) :=
  some ()

/-! ### beaconfleet/fleetref2.Lowest -/
noncomputable def fleetref2_Lowest_x1 : Int × Int → Option ((Int × Int) ⊕ (Int))
  | (va, vb) =>
  cond (!decide (vb = 0))
    (gd (!(vb == 0)) <|
    some (.inl (vb, va.tmod vb)))
    (some (.inr va))

noncomputable def fleetref2_Lowest_x2 (va1_1 : Int) : Option (Int) :=
  cond (decide (va1_1 < 0))
    (some (IntKind.wrap .i64 (0 - va1_1)))
    (some va1_1)

noncomputable def fleetref2_Lowest (qnum : Int) (qden : Int) : Option (api_Fraction) :=
  (loopO fleetref2_Lowest_x1 (qnum, qden)).bind fun va1_1 =>
  (fleetref2_Lowest_x2 va1_1).bind fun va2_1 =>
  gd (!(va2_1 == 0)) <|
  some (api_Fraction.mk (IntKind.wrap .i64 (qnum.tdiv va2_1)) (IntKind.wrap .i64 (qden.tdiv va2_1)))

/-! ### beaconfleet/fleetref2.farWay -/
noncomputable def fleetref2_farWay (qa : api_Spot) (qb : api_Spot) (qs : api_Spot) : Option (api_Fraction) :=
  (fleetref2_minus qb qa).bind fun _ =>
  (fleetref2_minus qs qa).bind fun _ =>
  (fleetref2_dot_2 (api_Spot.mk (IntKind.wrap .i64 (qs.X - qa.X)) (IntKind.wrap .i64 (qs.Y - qa.Y))) (api_Spot.mk (IntKind.wrap .i64 (qb.X - qa.X)) (IntKind.wrap .i64 (qb.Y - qa.Y)))).bind fun _ =>
  cond (decide ((IntKind.wrap .i64 ((IntKind.wrap .i64 ((IntKind.wrap .i64 (qs.X - qa.X)) * (IntKind.wrap .i64 (qb.X - qa.X)))) + (IntKind.wrap .i64 ((IntKind.wrap .i64 (qs.Y - qa.Y)) * (IntKind.wrap .i64 (qb.Y - qa.Y)))))) ≤ 0))
    ((fleetref2_dot (api_Spot.mk (IntKind.wrap .i64 (qs.X - qa.X)) (IntKind.wrap .i64 (qs.Y - qa.Y)))).bind fun _ =>
    some (api_Fraction.mk (IntKind.wrap .i64 ((IntKind.wrap .i64 ((IntKind.wrap .i64 (qs.X - qa.X)) * (IntKind.wrap .i64 (qs.X - qa.X)))) + (IntKind.wrap .i64 ((IntKind.wrap .i64 (qs.Y - qa.Y)) * (IntKind.wrap .i64 (qs.Y - qa.Y)))))) 1))
    ((fleetref2_minus qs qb).bind fun _ =>
    (fleetref2_dot_2 (api_Spot.mk (IntKind.wrap .i64 (qs.X - qb.X)) (IntKind.wrap .i64 (qs.Y - qb.Y))) (api_Spot.mk (IntKind.wrap .i64 (qb.X - qa.X)) (IntKind.wrap .i64 (qb.Y - qa.Y)))).bind fun _ =>
    cond (decide (0 ≤ (IntKind.wrap .i64 ((IntKind.wrap .i64 ((IntKind.wrap .i64 (qs.X - qb.X)) * (IntKind.wrap .i64 (qb.X - qa.X)))) + (IntKind.wrap .i64 ((IntKind.wrap .i64 (qs.Y - qb.Y)) * (IntKind.wrap .i64 (qb.Y - qa.Y))))))))
      ((fleetref2_dot (api_Spot.mk (IntKind.wrap .i64 (qs.X - qb.X)) (IntKind.wrap .i64 (qs.Y - qb.Y)))).bind fun _ =>
      some (api_Fraction.mk (IntKind.wrap .i64 ((IntKind.wrap .i64 ((IntKind.wrap .i64 (qs.X - qb.X)) * (IntKind.wrap .i64 (qs.X - qb.X)))) + (IntKind.wrap .i64 ((IntKind.wrap .i64 (qs.Y - qb.Y)) * (IntKind.wrap .i64 (qs.Y - qb.Y)))))) 1))
      ((fleetref2_cross (api_Spot.mk (IntKind.wrap .i64 (qb.X - qa.X)) (IntKind.wrap .i64 (qb.Y - qa.Y))) (api_Spot.mk (IntKind.wrap .i64 (qs.X - qa.X)) (IntKind.wrap .i64 (qs.Y - qa.Y)))).bind fun _ =>
      (fleetref2_dot (api_Spot.mk (IntKind.wrap .i64 (qb.X - qa.X)) (IntKind.wrap .i64 (qb.Y - qa.Y)))).bind fun _ =>
      (fleetref2_Lowest (IntKind.wrap .i64 ((IntKind.wrap .i64 ((IntKind.wrap .i64 ((IntKind.wrap .i64 (qb.X - qa.X)) * (IntKind.wrap .i64 (qs.Y - qa.Y)))) - (IntKind.wrap .i64 ((IntKind.wrap .i64 (qb.Y - qa.Y)) * (IntKind.wrap .i64 (qs.X - qa.X)))))) * (IntKind.wrap .i64 ((IntKind.wrap .i64 ((IntKind.wrap .i64 (qb.X - qa.X)) * (IntKind.wrap .i64 (qs.Y - qa.Y)))) - (IntKind.wrap .i64 ((IntKind.wrap .i64 (qb.Y - qa.Y)) * (IntKind.wrap .i64 (qs.X - qa.X)))))))) (IntKind.wrap .i64 ((IntKind.wrap .i64 ((IntKind.wrap .i64 (qb.X - qa.X)) * (IntKind.wrap .i64 (qb.X - qa.X)))) + (IntKind.wrap .i64 ((IntKind.wrap .i64 (qb.Y - qa.Y)) * (IntKind.wrap .i64 (qb.Y - qa.Y))))))).bind fun vr =>
      some vr))

/-! ### beaconfleet/fleetref2.floor -/
noncomputable def fleetref2_floor (qa : Int) (qb : Int) : Option (Int) :=
  gd (!(qb == 0)) <|
  cond (decide ((qa.tmod qb) < 0))
    (some (IntKind.wrap .i64 ((IntKind.wrap .i64 (qa.tdiv qb)) - 1)))
    (some (IntKind.wrap .i64 (qa.tdiv qb)))

/-! ### beaconfleet/fleetref2.less -/
noncomputable def fleetref2_less_x2 (va : api_Fraction) (vb : api_Fraction) (vr2 : Int) (vr3 : Int) : Option (Bool) :=
  cond (decide ((IntKind.wrap .i64 (va.Num - (IntKind.wrap .i64 (vr2 * va.Den)))) = 0))
    (some true)
    (some (decide ((IntKind.wrap .i64 (vb.Num - (IntKind.wrap .i64 (vr3 * vb.Den)))) = 0)))

noncomputable def fleetref2_less_x3 (va : api_Fraction) (vb : api_Fraction) (vr2 : Int) (vr3 : Int) : Option (Bool) :=
  cond (decide ((IntKind.wrap .i64 (va.Num - (IntKind.wrap .i64 (vr2 * va.Den)))) = 0))
    (some (!decide ((IntKind.wrap .i64 (vb.Num - (IntKind.wrap .i64 (vr3 * vb.Den)))) = 0)))
    (some false)

noncomputable def fleetref2_less_x1 : api_Fraction × api_Fraction → Option ((api_Fraction × api_Fraction) ⊕ (Bool))
  | (va, vb) =>
  (fleetref2_floor va.Num va.Den).bind fun vr2 =>
  (fleetref2_floor vb.Num vb.Den).bind fun vr3 =>
  cond (!decide (vr2 = vr3))
    (some (.inr (decide (vr2 < vr3))))
    ((fleetref2_less_x2 va vb vr2 vr3).bind fun vx3_1 =>
    cond (vx3_1)
      ((fleetref2_less_x3 va vb vr2 vr3).bind fun vx4_1 =>
      some (.inr vx4_1))
      (some (.inl (api_Fraction.mk vb.Den (IntKind.wrap .i64 (vb.Num - (IntKind.wrap .i64 (vr3 * vb.Den)))), api_Fraction.mk va.Den (IntKind.wrap .i64 (va.Num - (IntKind.wrap .i64 (vr2 * va.Den))))))))

noncomputable def fleetref2_less (qa : api_Fraction) (qb : api_Fraction) : Option (Bool) :=
  (loopO fleetref2_less_x1 (qa, qb)).bind fun vx5_1 =>
  some vx5_1

/-! ### math/bits.Len64 -/
noncomputable def bits_Len64_x1 (qx : Int) : Option ((Int × Int)) :=
  cond (decide (4294967296 ≤ qx))
    (some (ishr .u64 qx 32, 32))
    (some (qx, 0))

noncomputable def bits_Len64_x2 (vx1 : Int) (vn1 : Int) : Option ((Int × Int)) :=
  cond (decide (65536 ≤ vx1))
    (some (ishr .u64 vx1 16, IntKind.wrap .i64 (vn1 + 16)))
    (some (vx1, vn1))

noncomputable def bits_Len64_x3 (vx2_1 : Int) (vn2_1 : Int) : Option ((Int × Int)) :=
  cond (decide (256 ≤ vx2_1))
    (some (ishr .u64 vx2_1 8, IntKind.wrap .i64 (vn2_1 + 8)))
    (some (vx2_1, vn2_1))

noncomputable def bits_Len64 (qx : Int) : Option (Int) :=
  (bits_Len64_x1 qx).bind fun (vx1, vn1) =>
  (bits_Len64_x2 vx1 vn1).bind fun (vx2_1, vn2_1) =>
  (bits_Len64_x3 vx2_1 vn2_1).bind fun (vx3_1, vn3_1) =>
  (at? ([0, 1, 2, 2, 3, 3, 3, 3, 4, 4, 4, 4, 4, 4, 4, 4, 5, 5, 5, 5, 5, 5, 5, 5, 5, 5, 5, 5, 5, 5, 5, 5, 6, 6, 6, 6, 6, 6, 6, 6, 6, 6, 6, 6, 6, 6, 6, 6, 6, 6, 6, 6, 6, 6, 6, 6, 6, 6, 6, 6, 6, 6, 6, 6, 7, 7, 7, 7, 7, 7, 7, 7, 7, 7, 7, 7, 7, 7, 7, 7, 7, 7, 7, 7, 7, 7, 7, 7, 7, 7, 7, 7, 7, 7, 7, 7, 7, 7, 7, 7, 7, 7, 7, 7, 7, 7, 7, 7, 7, 7, 7, 7, 7, 7, 7, 7, 7, 7, 7, 7, 7, 7, 7, 7, 7, 7, 7, 7, 8, 8, 8, 8, 8, 8, 8, 8, 8, 8, 8, 8, 8, 8, 8, 8, 8, 8, 8, 8, 8, 8, 8, 8, 8, 8, 8, 8, 8, 8, 8, 8, 8, 8, 8, 8, 8, 8, 8, 8, 8, 8, 8, 8, 8, 8, 8, 8, 8, 8, 8, 8, 8, 8, 8, 8, 8, 8, 8, 8, 8, 8, 8, 8, 8, 8, 8, 8, 8, 8, 8, 8, 8, 8, 8, 8, 8, 8, 8, 8, 8, 8, 8, 8, 8, 8, 8, 8, 8, 8, 8, 8, 8, 8, 8, 8, 8, 8, 8, 8, 8, 8, 8, 8, 8, 8, 8, 8, 8, 8, 8, 8, 8, 8, 8, 8, 8, 8, 8, 8, 8, 8, 8, 8, 8, 8, 8, 8] : List UInt8) (IntKind.wrap .u8 (vx3_1))).bind fun vc =>
  some (IntKind.wrap .i64 (vn3_1 + (IntKind.wrap .i64 ((vc.toNat : Int)))))

/-! ### math/bits.Len -/
noncomputable def bits_Len (qx : Int) : Option (Int) :=
  (bits_Len64 qx).bind fun vr =>
  some vr

/-! ### cmp.Less[int] -/
noncomputable def cmp_Less_int_x1 (qx : Int) (qy : Int) : Option (Bool) :=
  (cmp_isNaN_int qx).bind fun _ =>
  cond (!decide (qx = qx))
    ((cmp_isNaN_int qy).bind fun _ =>
    cond (!(!decide (qy = qy)))
      (some true)
      (some (decide (qx < qy))))
    (some (decide (qx < qy)))

noncomputable def cmp_Less_int (qx : Int) (qy : Int) : Option (Bool) :=
  (cmp_Less_int_x1 qx qy).bind fun vx1 =>
  some vx1

/-! ### slices.insertionSortOrdered[int] -/
noncomputable def slices_insertionSortOrdered_int_o0_x3 (qa : Int) (vl3 : List Int) (vj1 : Int) : Option (Bool) :=
  cond (decide (qa < vj1))
    ((at? vl3 vj1).bind fun vy15 =>
    (at? vl3 (IntKind.wrap .i64 (vj1 - 1))).bind fun vy16 =>
    (cmp_Less_int vy15 vy16).bind fun vr3 =>
    some vr3)
    (some false)

noncomputable def slices_insertionSortOrdered_int_o0_x2 (qa : Int) : (List Int) × Int → Option (((List Int) × Int) ⊕ ((List Int)))
  | (vl3, vj1) =>
  (slices_insertionSortOrdered_int_o0_x3 qa vl3 vj1).bind fun vx4_1 =>
  cond (vx4_1)
    ((at? vl3 (IntKind.wrap .i64 (vj1 - 1))).bind fun vy17 =>
    (at? vl3 vj1).bind fun vy18 =>
    (at? (vl3.set vj1.toNat vy17) (IntKind.wrap .i64 (vj1 - 1))).bind fun vy19 =>
    some (.inl ((vl3.set vj1.toNat vy17).set (IntKind.wrap .i64 (vj1 - 1)).toNat vy18, IntKind.wrap .i64 (vj1 - 1))))
    (some (.inr vl3))

noncomputable def slices_insertionSortOrdered_int_o0_x1 (qa : Int) (qb : Int) : (List Int) × Int → Option (((List Int) × Int) ⊕ ((List Int)))
  | (vl, vi) =>
  cond (decide (vi < qb))
    ((loopO (slices_insertionSortOrdered_int_o0_x2 qa) (vl, vi)).bind fun vl4_1 =>
    some (.inl (vl4_1, IntKind.wrap .i64 (vi + 1))))
    (some (.inr vl))

noncomputable def slices_insertionSortOrdered_int_o0 (qdata : List Int) (qa : Int) (qb : Int) : Option ((List Int)) :=
  (loopO (slices_insertionSortOrdered_int_o0_x1 qa qb) (qdata, IntKind.wrap .i64 (qa + 1))).bind fun vl5_1 =>
  some vl5_1

/-! ### slices.pdqsortOrdered[int] -/
noncomputable def slices_pdqsortOrdered_int_o0_x1 (qx : List Int) (qx1 : Int) (qx2 : Int) (qx3 : Int) : Unit → Option ((Unit) ⊕ ((List Int)))
  | _ =>
  cond (decide ((IntKind.wrap .i64 (qx2 - qx1)) ≤ 12))
    ((slices_insertionSortOrdered_int_o0 qx qx1 qx2).bind fun vl6_1 =>
    gd (vl6_1.length == qx.length) <|
    some (.inr vl6_1))
    (cond (decide (qx3 = 0))
      (none)
      (none))

noncomputable def slices_pdqsortOrdered_int_o0 (qx : List Int) (qx1 : Int) (qx2 : Int) (qx3 : Int) : Option ((List Int)) :=
  (loopO (slices_pdqsortOrdered_int_o0_x1 qx qx1 qx2 qx3) ()).bind fun vl1 =>
  some vl1

/-! ### slices.Sort[[]int,int] -/
noncomputable def slices_Sort_int_int_o0 (qx : List Int) : Option ((List Int)) :=
  (bits_Len (IntKind.wrap .u64 ((qx.length : Int)))).bind fun vr1 =>
  (slices_pdqsortOrdered_int_o0 qx 0 (qx.length : Int) vr1).bind fun vl2 =>
  gd (vl2.length == qx.length) <|
  some vl2

/-! ### beaconfleet/fleetref2.PlainOf -/
noncomputable def fleetref2_PlainOf_o0_x1 (qx : List api_Fix) : (List Int) × Int → Option (((List Int) × Int) ⊕ ((List Int)))
  | (vx, vx1) =>
  cond (decide (vx1 < (qx.length : Int)))
    (gd (Nat.ble (vx.length + ([vx1] : List Int).length) LIM) <|
    some (.inl (vx ++ ([vx1] : List Int), IntKind.wrap .i64 (vx1 + 1))))
    (some (.inr vx))

noncomputable def fleetref2_PlainOf_o0_x4 (vx3 : List Int) (vx25 : Int) (vx26 : Int) : Option (Bool) :=
  cond (decide (vx26 < (vx3.length : Int)))
    (some (decide (vx25 < 0)))
    (some false)

noncomputable def fleetref2_PlainOf_o0_x6 (qx : List api_Fix) (vy24 : Int) (vy25 : Int) (vx37 : api_Fraction) (vx38 : Int) (vx39 : Int) : Option ((api_Fraction × Int)) :=
  (at? qx vy24).bind fun vy29 =>
  (fleetref2_spotOf vy29).bind fun _ =>
  (at? qx vy25).bind fun vy30 =>
  (fleetref2_spotOf vy30).bind fun _ =>
  (at? qx vx39).bind fun vy31 =>
  (fleetref2_spotOf vy31).bind fun _ =>
  (fleetref2_farWay (api_Spot.mk vy29.X vy29.Y) (api_Spot.mk vy30.X vy30.Y) (api_Spot.mk vy31.X vy31.Y)).bind fun vr1_7 =>
  (fleetref2_less vx37 vr1_7).bind fun vr4_7 =>
  cond (vr4_7)
    (some (vr1_7, vx39))
    (some (vx37, vx38))

noncomputable def fleetref2_PlainOf_o0_x5 (qx : List api_Fix) (vy24 : Int) (vy25 : Int) : api_Fraction × Int × Int → Option ((api_Fraction × Int × Int) ⊕ (Int))
  | (vx37, vx38, vx39) =>
  cond (decide (vx39 < vy25))
    ((fleetref2_PlainOf_o0_x6 qx vy24 vy25 vx37 vx38 vx39).bind fun (vx42_1, vx43_1) =>
    some (.inl (vx42_1, vx43_1, IntKind.wrap .i64 (vx39 + 1))))
    (some (.inr vx38))

noncomputable def fleetref2_PlainOf_o0_x3 (qx : List api_Fix) (qx1 : Int) (vx3 : List Int) : Int × Int → Option ((Int × Int) ⊕ (Int))
  | (vx25, vx26) =>
  (fleetref2_PlainOf_o0_x4 vx3 vx25 vx26).bind fun vx36_1 =>
  cond (vx36_1)
    ((at? vx3 (IntKind.wrap .i64 (vx26 - 1))).bind fun vy24 =>
    (at? vx3 vx26).bind fun vy25 =>
    (loopO (fleetref2_PlainOf_o0_x5 qx vy24 vy25) (api_Fraction.mk (IntKind.wrap .i64 (qx1 * qx1)) 1, vx25, IntKind.wrap .i64 (vy24 + 1))).bind fun vx44_1 =>
    some (.inl (vx44_1, IntKind.wrap .i64 (vx26 + 1))))
    (some (.inr vx25))

noncomputable def fleetref2_PlainOf_o0_x2 (qx : List api_Fix) (qx1 : Int) (vx3 : List Int) : Option (((List Int)) ⊕ ((List Int))) :=
  (loopO (fleetref2_PlainOf_o0_x3 qx qx1 vx3) ((-1), 1)).bind fun vx45_1 =>
  cond (decide (vx45_1 < 0))
    (some (.inr vx3))
    (gd (Nat.ble (vx3.length + ([vx45_1] : List Int).length) LIM) <|
    (slices_Sort_int_int_o0 (vx3 ++ ([vx45_1] : List Int))).bind fun vl1 =>
    gd (vl1.length == (vx3 ++ ([vx45_1] : List Int)).length) <|
    some (.inl vl1))

noncomputable def fleetref2_PlainOf_o0 (qx : List api_Fix) (qx1 : Int) : Option ((List Int)) :=
  cond (decide ((qx.length : Int) < 2))
    ((loopO (fleetref2_PlainOf_o0_x1 qx) ([], 0)).bind fun vx2_1 =>
    some vx2_1)
    ((loopO (fleetref2_PlainOf_o0_x2 qx qx1) ([0, IntKind.wrap .i64 ((qx.length : Int) - 1)] : List Int)).bind fun vx46_1 =>
    some vx46_1)

/-! ### slices.Equal[[]int,int] -/
noncomputable def slices_Equal_int_int_x1 (qs1 : List Int) (qs2 : List Int) (vx : Int) : Option ((Int) ⊕ (Unit ⊕ Unit)) :=
  cond (decide (vx < (qs1.length : Int)))
    ((at? qs1 vx).bind fun vy2 =>
    (at? qs2 vx).bind fun vy3 =>
    cond (!decide (vy2 = vy3))
      (some (.inr (.inr ())))
      (some (.inl (IntKind.wrap .i64 (vx + 1)))))
    (some (.inr (.inl ())))

noncomputable def slices_Equal_int_int (qs1 : List Int) (qs2 : List Int) : Option (Bool) :=
  cond (!decide ((qs1.length : Int) = (qs2.length : Int)))
    (some false)
    ((loopO (slices_Equal_int_int_x1 qs1 qs2) 0).bind fun x => match x with
      | .inl _ =>
        some true
      | .inr _ =>
        some false)

/-! ### beaconfleet/place.Cell -/
noncomputable def place_Cell_x1 (qs : api_Spot) (qlevel : Int) : Option (Bool) :=
  (place_isSpot qs).bind fun vr2 =>
  cond (!vr2)
    (some true)
    ((base_Out qlevel 0 15).bind fun vr =>
    some vr)

noncomputable def place_Cell_x2 (qs : api_Spot) (qlevel : Int) : (List Int) × Int × Int → Option (((List Int) × Int × Int) ⊕ ((List Int)))
  | (vout, vlong, vx2) =>
  cond (decide (vx2 < qlevel))
    (gd (!((IntKind.wrap .i64 (vlong.tdiv 2)) == 0)) <|
    gd (Nat.ble (vout.length + ([IntKind.wrap .u8 ((IntKind.wrap .u8 ((48 : Int) + (IntKind.wrap .u8 ((IntKind.wrap .i64 ((IntKind.wrap .i64 (qs.X - (-16384))).tdiv (IntKind.wrap .i64 (vlong.tdiv 2)))).tmod 2)))) + (IntKind.wrap .u8 ((2 : Int) * (IntKind.wrap .u8 ((IntKind.wrap .i64 ((IntKind.wrap .i64 (qs.Y - (-16384))).tdiv (IntKind.wrap .i64 (vlong.tdiv 2)))).tmod 2)))))] : List Int).length) LIM) <|
    some (.inl (vout ++ ([IntKind.wrap .u8 ((IntKind.wrap .u8 ((48 : Int) + (IntKind.wrap .u8 ((IntKind.wrap .i64 ((IntKind.wrap .i64 (qs.X - (-16384))).tdiv (IntKind.wrap .i64 (vlong.tdiv 2)))).tmod 2)))) + (IntKind.wrap .u8 ((2 : Int) * (IntKind.wrap .u8 ((IntKind.wrap .i64 ((IntKind.wrap .i64 (qs.Y - (-16384))).tdiv (IntKind.wrap .i64 (vlong.tdiv 2)))).tmod 2)))))] : List Int), IntKind.wrap .i64 (vlong.tdiv 2), IntKind.wrap .i64 (vx2 + 1))))
    (some (.inr vout))

noncomputable def place_Cell (qs : api_Spot) (qlevel : Int) : Option ((List UInt8) × Int) :=
  (place_Cell_x1 qs qlevel).bind fun vx1 =>
  cond (vx1)
    (some (([] : List UInt8), 1))
    ((loopO (place_Cell_x2 qs qlevel) ([], 32768, 0)).bind fun vout1_1 =>
    some (vout1_1.map fun n => UInt8.ofNat n.toNat, 0))

/-! ### beaconfleet/fleetlaw2.placed -/
noncomputable def fleetlaw2_placed_x1 (vr1 : List UInt8) (vr3 : Int) : Option (Bool) :=
  cond (decide (vr3 = 0))
    (some (decide (vr1 = ([51] : List UInt8))))
    (some false)

noncomputable def fleetlaw2_placed : Option (Bool) :=
  (place_Cell (api_Spot.mk 0 0) 1).bind fun (vr1, vr3) =>
  (fleetlaw2_placed_x1 vr1 vr3).bind fun vx1 =>
  some vx1

/-! ### beaconfleet/fleetlaw2.TracksPlain -/
noncomputable def fleetlaw2_TracksPlain_x2 (vs3 : fleetmake_Stream) (vr2 : List api_Fix) : Option (Bool) :=
  cond (decide (0 < (vr2.length : Int)))
    ((fleetmake_Stream_Flip (fleetmake_Stream.mk vs3.L (IntKind.wrap .i64 ((IntKind.wrap .i64 (vs3.at_ + 1)) + 1))) 20).bind fun vr3 =>
    some vr3)
    (some false)

noncomputable def fleetlaw2_TracksPlain_x1 (vs3 : fleetmake_Stream) (vr2 : List api_Fix) : Option ((List api_Fix)) :=
  (fleetlaw2_TracksPlain_x2 vs3 vr2).bind fun vx1 =>
  cond (vx1)
    ((at? vr2 (IntKind.wrap .i64 ((vr2.length : Int) - 1))).bind fun vy =>
    some (vr2.set (IntKind.wrap .i64 ((vr2.length : Int) - 1)).toNat (api_Fix.mk vy.Device 345686399999 vy.X vy.Y vy.Error)))
    (some vr2)

noncomputable def fleetlaw2_TracksPlain_x3 (vr : Int) (vr1_1 : Int) : Option (Int) :=
  cond (decide (vr < 1))
    ((fleetlaw2_when true 1).bind fun vr6 =>
    (fleetlaw2_errs ([vr1_1, vr6] : List Int)).bind fun vr7 =>
    some vr7)
    ((fleetlaw2_when (decide (10000 < vr)) 1).bind fun vr8 =>
    (fleetlaw2_errs ([vr1_1, vr8] : List Int)).bind fun vr9 =>
    some vr9)

noncomputable def fleetlaw2_TracksPlain_x4 (vr1 : Int) (vr1_1 : Int) : Option (Int) :=
  cond (decide (vr1 < 0))
    ((fleetlaw2_when true 1).bind fun vr10 =>
    (fleetlaw2_errs ([vr1_1, vr10] : List Int)).bind fun vr11 =>
    some vr11)
    ((fleetlaw2_when (decide (10000 < vr1)) 1).bind fun vr12 =>
    (fleetlaw2_errs ([vr1_1, vr12] : List Int)).bind fun vr13 =>
    some vr13)

noncomputable def fleetlaw2_TracksPlain_x5 (vr : Int) (vx2_1 : List api_Fix) (vx3_1 : Int) : Option ((List Int)) :=
  cond (decide (vx3_1 = 0))
    ((fleetref2_JumpsOf vx2_1 vr).bind fun vr14 =>
    some vr14)
    (some [])

noncomputable def fleetlaw2_TracksPlain_x6 (vr1 : Int) (vx2_1 : List api_Fix) (vx4_1 : Int) : Option ((List Int)) :=
  cond (decide (vx4_1 = 0))
    ((fleetref2_PlainOf_o0 vx2_1 vr1).bind fun vr15 =>
    some vr15)
    (some [])

noncomputable def fleetlaw2_TracksPlain_x7 (vr4 : List Int) (vr5 : Int) (vr2_1 : List Int) (vr3_1 : Int) (vx3_1 : Int) (vx4_1 : Int) (vx5_1 : List Int) (vx6_1 : List Int) : Option (Bool) :=
  cond (decide (vr5 = vx3_1))
    ((slices_Equal_int_int vr4 vx5_1).bind fun vr16 =>
    cond (vr16)
      (cond (decide (vr3_1 = vx4_1))
        ((slices_Equal_int_int vr2_1 vx6_1).bind fun vr17 =>
        cond (vr17)
          ((fleetlaw2_placed).bind fun vr18 =>
          some vr18)
          (some false))
        (some false))
      (some false))
    (some false)

noncomputable def fleetlaw2_TracksPlain (qx : List Int) : Option (Bool) :=
  (fleetmake_Stream_Track (fleetmake_Stream.mk qx 0) 12).bind fun (vs3, vr2) =>
  (fleetmake_Stream_Pick_o1 vs3 ([1, 2, 5, 10000, 0, 10001] : List Int)).bind fun vr =>
  (fleetmake_Stream_Pick_o1 (fleetmake_Stream.mk vs3.L (IntKind.wrap .i64 (vs3.at_ + 1))) ([0, 1, 2, 5, 10000, (-1), 10001] : List Int)).bind fun vr1 =>
  (fleetlaw2_TracksPlain_x1 vs3 vr2).bind fun vx2_1 =>
  (place_Jumps vx2_1 vr).bind fun (vr4, vr5) =>
  (place_Plain vx2_1 vr1).bind fun (vr2_1, vr3_1) =>
  (fleetref2_TrackFault vx2_1).bind fun vr1_1 =>
  (fleetlaw2_TracksPlain_x3 vr vr1_1).bind fun vx3_1 =>
  (fleetlaw2_TracksPlain_x4 vr1 vr1_1).bind fun vx4_1 =>
  (fleetlaw2_TracksPlain_x5 vr vx2_1 vx3_1).bind fun vx5_1 =>
  (fleetlaw2_TracksPlain_x6 vr1 vx2_1 vx4_1).bind fun vx6_1 =>
  (fleetlaw2_TracksPlain_x7 vr4 vr5 vr2_1 vr3_1 vx3_1 vx4_1 vx5_1 vx6_1).bind fun vx7_1 =>
  some vx7_1

end Go.Eng
