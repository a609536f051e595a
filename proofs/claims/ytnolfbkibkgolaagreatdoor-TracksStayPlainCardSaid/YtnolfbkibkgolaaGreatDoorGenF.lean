/-
The Go functions that the law TracksStayPlain reaches, as plain functions.
-/
import Derived.Test.YtnolfbkibkgolaaGreatDoorEngV

namespace Go.Eng

open Go

set_option linter.unusedVariables false

structure fleetmake_Stream where
  L : List Int
  at_ : Int

def fleetmake_Stream.enc (x : fleetmake_Stream) : List D := [.lst (List.map (encI .i64) x.L), .int .i64 x.at_]

structure api_Spot where
  X : Int
  Y : Int

def api_Spot.enc (x : api_Spot) : List D := [.int .i64 x.X, .int .i64 x.Y]

structure api_Fix where
  Device : List UInt8
  At : Int
  X : Int
  Y : Int
  Error : Int

def api_Fix.enc (x : api_Fix) : List D := [.str x.Device, .int .i64 x.At, .int .i64 x.X, .int .i64 x.Y, .int .i64 x.Error]

structure api_Fraction where
  Num : Int
  Den : Int

def api_Fraction.enc (x : api_Fraction) : List D := [.int .i64 x.Num, .int .i64 x.Den]

structure api_Fence where
  Key : List UInt8
  Corners : List api_Spot

def api_Fence.enc (x : api_Fence) : List D := [.str x.Key, .lst (List.map api_Spot.enc x.Corners)]

structure api_Visit where
  From : Int
  To : Int

def api_Visit.enc (x : api_Visit) : List D := [.int .i64 x.From, .int .i64 x.To]

structure api_Sample where
  Device : List UInt8
  Metric : List UInt8
  At : Int
  Value : Int

def api_Sample.enc (x : api_Sample) : List D := [.str x.Device, .str x.Metric, .int .i64 x.At, .int .i64 x.Value]

structure api_Version where
  Major : Int
  Minor : Int
  Patch : Int

def api_Version.enc (x : api_Version) : List D := [.int .i64 x.Major, .int .i64 x.Minor, .int .i64 x.Patch]

structure api_Value where
  Kind : Int
  Flag : Bool
  Number : Int
  Words : List UInt8

def api_Value.enc (x : api_Value) : List D := [.int .i64 x.Kind, .bool x.Flag, .int .i64 x.Number, .str x.Words]

structure api_Prop where
  Name : List UInt8
  Value : api_Value

def api_Prop.enc (x : api_Prop) : List D := [.str x.Name, .int .i64 x.Value.Kind, .bool x.Value.Flag, .int .i64 x.Value.Number, .str x.Value.Words]

structure api_Change where
  Name : List UInt8
  From : api_Value
  To : api_Value

def api_Change.enc (x : api_Change) : List D := [.str x.Name, .int .i64 x.From.Kind, .bool x.From.Flag, .int .i64 x.From.Number, .str x.From.Words, .int .i64 x.To.Kind, .bool x.To.Flag, .int .i64 x.To.Number, .str x.To.Words]

structure api_Letter where
  Id : List UInt8
  Slot : List UInt8
  Body : List UInt8
  Prio : Int
  At : Int
  Until : Int

def api_Letter.enc (x : api_Letter) : List D := [.str x.Id, .str x.Slot, .str x.Body, .int .i64 x.Prio, .int .i64 x.At, .int .i64 x.Until]

/-! ### beaconfleet/fleetmake.Below -/
noncomputable def fleetmake_Below_x1 (qx : Int) (qn : Int) : Option (Int) :=
  cond (decide ((qx.tmod qn) < 0))
    (some (IntKind.wrap .i64 ((qx.tmod qn) + qn)))
    (some (qx.tmod qn))

noncomputable def fleetmake_Below (qx : Int) (qn : Int) : Option (Int) :=
  cond (decide (qn < 1))
    (some 0)
    (gd (!(qn == 0)) <|
    (fleetmake_Below_x1 qx qn).bind fun vx1 =>
    some vx1)

/-! ### (*beaconfleet/fleetmake.Stream).Next -/
noncomputable def fleetmake_Stream_Next (qs : fleetmake_Stream) (qn : Int) : Option (Int) :=
  cond (decide ((qs.L.length : Int) = 0))
    ((fleetmake_Below (IntKind.wrap .i64 ((IntKind.wrap .i64 (qs.at_ + 1)) * 7919)) qn).bind fun vr =>
    some vr)
    (gd (!((qs.L.length : Int) == 0)) <|
    (at? qs.L ((IntKind.wrap .i64 ((IntKind.wrap .i64 (qs.at_ + 1)) - 1)).tmod (qs.L.length : Int))).bind fun vy =>
    (fleetmake_Below vy 1073741824).bind fun vr1 =>
    (fleetmake_Below (IntKind.wrap .i64 (vr1 + (IntKind.wrap .i64 ((IntKind.wrap .i64 ((IntKind.wrap .i64 ((IntKind.wrap .i64 (qs.at_ + 1)) - 1)).tdiv (qs.L.length : Int))) * (IntKind.wrap .i64 ((7919 : Int) + ((IntKind.wrap .i64 ((IntKind.wrap .i64 (qs.at_ + 1)) - 1)).tmod (qs.L.length : Int)))))))) qn).bind fun vr2 =>
    some vr2)

/-! ### (*beaconfleet/fleetmake.Stream).Range -/
noncomputable def fleetmake_Stream_Range (qs : fleetmake_Stream) (qlow : Int) (qhigh : Int) : Option (fleetmake_Stream × Int) :=
  cond (decide (qhigh < qlow))
    (some (qs, qlow))
    ((fleetmake_Stream_Next qs (IntKind.wrap .i64 ((IntKind.wrap .i64 (qhigh - qlow)) + 1))).bind fun vr3 =>
    some (fleetmake_Stream.mk qs.L (IntKind.wrap .i64 (qs.at_ + 1)), IntKind.wrap .i64 (qlow + vr3)))

/-! ### (*beaconfleet/fleetmake.Stream).Pick -/
noncomputable def fleetmake_Stream_Pick_o1 (qs : fleetmake_Stream) (ql : List Int) : Option (Int) :=
  (fleetmake_Stream_Next qs (ql.length : Int)).bind fun vr3 =>
  (at? ql vr3).bind fun vy =>
  some vy

/-! ### (*beaconfleet/fleetmake.Stream).Place -/
noncomputable def fleetmake_Stream_Place (qs : fleetmake_Stream) : Option (api_Spot) :=
  (fleetmake_Stream_Pick_o1 qs ([0, 1, 2, 3, 4, 5, 6, 8, 10, (-1), (-5), 20] : List Int)).bind fun vr =>
  (fleetmake_Stream_Pick_o1 (fleetmake_Stream.mk qs.L (IntKind.wrap .i64 (qs.at_ + 1))) ([0, 1, 2, 3, 4, 5, 6, 8, 10, (-1), (-5), 20] : List Int)).bind fun vr1 =>
  some (api_Spot.mk vr vr1)

/-! ### (*beaconfleet/fleetmake.Stream).Flip -/
noncomputable def fleetmake_Stream_Flip (qs : fleetmake_Stream) (qn : Int) : Option (Bool) :=
  (fleetmake_Stream_Next qs qn).bind fun vr3 =>
  some (decide (vr3 = 0))

/-! ### (*beaconfleet/fleetmake.Stream).RightTrack -/
noncomputable def fleetmake_Stream_RightTrack_x2 (vs1 : fleetmake_Stream) (vp : api_Spot) : Option ((fleetmake_Stream × api_Spot)) :=
  (fleetmake_Stream_Flip (fleetmake_Stream.mk vs1.L (IntKind.wrap .i64 (vs1.at_ + 1))) 6).bind fun vr10 =>
  cond (vr10)
    ((fleetmake_Stream_Place (fleetmake_Stream.mk vs1.L (IntKind.wrap .i64 ((IntKind.wrap .i64 (vs1.at_ + 1)) + 1)))).bind fun vr2_2 =>
    some (fleetmake_Stream.mk vs1.L (IntKind.wrap .i64 ((IntKind.wrap .i64 ((IntKind.wrap .i64 ((IntKind.wrap .i64 (vs1.at_ + 1)) + 1)) + 1)) + 1)), vr2_2))
    ((fleetmake_Stream_Range (fleetmake_Stream.mk vs1.L (IntKind.wrap .i64 ((IntKind.wrap .i64 (vs1.at_ + 1)) + 1))) (-2) 2).bind fun (vs6, vr11) =>
    (fleetmake_Stream_Range vs6 (-2) 2).bind fun (vs7, vr12) =>
    some (vs7, api_Spot.mk (IntKind.wrap .i64 (vp.X + vr11)) (IntKind.wrap .i64 (vp.Y + vr12))))

noncomputable def fleetmake_Stream_RightTrack_x3 (vat : Int) (vr9 : Int) (vs8_1 : fleetmake_Stream) (vp2_1 : api_Spot) (vr13 : Int) : Option ((fleetmake_Stream × api_Fix)) :=
  (fleetmake_Stream_Flip (fleetmake_Stream.mk vs8_1.L (IntKind.wrap .i64 (vs8_1.at_ + 1))) 10).bind fun vr14 =>
  cond (vr14)
    ((fleetmake_Stream_Pick_o1 (fleetmake_Stream.mk vs8_1.L (IntKind.wrap .i64 ((IntKind.wrap .i64 (vs8_1.at_ + 1)) + 1))) ([5000, (-10000), 300] : List Int)).bind fun vr15 =>
    some (fleetmake_Stream.mk vs8_1.L (IntKind.wrap .i64 ((IntKind.wrap .i64 ((IntKind.wrap .i64 (vs8_1.at_ + 1)) + 1)) + 1)), api_Fix.mk ([100] : List UInt8) (IntKind.wrap .i64 (vat + vr9)) vr15 vp2_1.Y vr13))
    (some (fleetmake_Stream.mk vs8_1.L (IntKind.wrap .i64 ((IntKind.wrap .i64 (vs8_1.at_ + 1)) + 1)), api_Fix.mk ([100] : List UInt8) (IntKind.wrap .i64 (vat + vr9)) vp2_1.X vp2_1.Y vr13))

noncomputable def fleetmake_Stream_RightTrack_x1 (vr : Int) : fleetmake_Stream × api_Spot × (List api_Fix) × Int × Int → Option ((fleetmake_Stream × api_Spot × (List api_Fix) × Int × Int) ⊕ ((fleetmake_Stream × (List api_Fix))))
  | (vs1, vp, vout, vat, vx) =>
  cond (decide (vx < vr))
    ((fleetmake_Stream_Pick_o1 vs1 ([1, 10, 100, 1000, 1000] : List Int)).bind fun vr9 =>
    (fleetmake_Stream_RightTrack_x2 vs1 vp).bind fun (vs8_1, vp2_1) =>
    (fleetmake_Stream_Pick_o1 vs8_1 ([0, 0, 1, 2, 5] : List Int)).bind fun vr13 =>
    (fleetmake_Stream_RightTrack_x3 vat vr9 vs8_1 vp2_1 vr13).bind fun (vs9_1, vx2_1) =>
    gd (Nat.ble (vout.length + ([vx2_1] : List api_Fix).length) LIM) <|
    some (.inl (vs9_1, vp2_1, vout ++ ([vx2_1] : List api_Fix), IntKind.wrap .i64 (vat + vr9), IntKind.wrap .i64 (vx + 1))))
    (some (.inr (vs1, vout)))

noncomputable def fleetmake_Stream_RightTrack (qs : fleetmake_Stream) (qmost : Int) : Option (fleetmake_Stream × (List api_Fix)) :=
  (fleetmake_Stream_Place qs).bind fun vr2 =>
  (fleetmake_Stream_Range (fleetmake_Stream.mk qs.L (IntKind.wrap .i64 ((IntKind.wrap .i64 (qs.at_ + 1)) + 1))) 0 qmost).bind fun (vs, vr) =>
  (loopO (fleetmake_Stream_RightTrack_x1 vr) (vs, vr2, [], 0, 0)).bind fun (vs10_1, vout1_1) =>
  some (vs10_1, vout1_1)

/-! ### beaconfleet/base.Key -/
noncomputable def base_Key_x1 (qs : List UInt8) : Option (Bool) :=
  cond (decide (qs = ([] : List UInt8)))
    (some true)
    (cond (decide (40 < (qs.length : Int)))
      (some true)
      ((at? qs 0).bind fun vc =>
      cond (decide ((vc.toNat : Int) < 97))
        (some true)
        (some (decide (122 < (vc.toNat : Int))))))

noncomputable def base_Key_x3 (vc2 : UInt8) : Option (Bool) :=
  cond (decide (97 ≤ (vc2.toNat : Int)))
    (cond (decide ((vc2.toNat : Int) ≤ 122))
      (some false)
      (cond (decide (48 ≤ (vc2.toNat : Int)))
        (cond (decide ((vc2.toNat : Int) ≤ 57))
          (some false)
          (cond (decide ((vc2.toNat : Int) = 45))
            (some false)
            (some (!(decide ((vc2.toNat : Int) = 95))))))
        (cond (decide ((vc2.toNat : Int) = 45))
          (some false)
          (some (!(decide ((vc2.toNat : Int) = 95)))))))
    (cond (decide (48 ≤ (vc2.toNat : Int)))
      (cond (decide ((vc2.toNat : Int) ≤ 57))
        (some false)
        (cond (decide ((vc2.toNat : Int) = 45))
          (some false)
          (some (!(decide ((vc2.toNat : Int) = 95))))))
      (cond (decide ((vc2.toNat : Int) = 45))
        (some false)
        (some (!(decide ((vc2.toNat : Int) = 95))))))

noncomputable def base_Key_x2 (qs : List UInt8) (vx2 : Int) : Option ((Int) ⊕ (Unit ⊕ Unit)) :=
  cond (decide (vx2 < (qs.length : Int)))
    ((at? qs vx2).bind fun vc2 =>
    (base_Key_x3 vc2).bind fun vx4_1 =>
    cond (vx4_1)
      (some (.inr (.inr ())))
      (some (.inl (IntKind.wrap .i64 (vx2 + 1)))))
    (some (.inr (.inl ())))

noncomputable def base_Key (qs : List UInt8) : Option (Bool) :=
  (base_Key_x1 qs).bind fun vx1 =>
  cond (vx1)
    (some false)
    ((loopO (base_Key_x2 qs) 0).bind fun x => match x with
      | .inl _ =>
        some true
      | .inr _ =>
        some false)

/-! ### beaconfleet/base.Out -/
noncomputable def base_Out_x1 (qn : Int) (qlow : Int) (qhigh : Int) : Option (Bool) :=
  cond (decide (qn < qlow))
    (some true)
    (some (decide (qhigh < qn)))

noncomputable def base_Out (qn : Int) (qlow : Int) (qhigh : Int) : Option (Bool) :=
  (base_Out_x1 qn qlow qhigh).bind fun vx1 =>
  some vx1

/-! ### beaconfleet/base.Moment -/
noncomputable def base_Moment (qn : Int) : Option (Bool) :=
  (base_Out qn 0 345686399999).bind fun vr =>
  some (!vr)

/-! ### beaconfleet/place.spot -/
noncomputable def place_spot (qx : api_Fix) : Option (Unit) :=
  some ()

/-! ### beaconfleet/place.isSpot -/
noncomputable def place_isSpot_x1 (qs : api_Spot) : Option (Bool) :=
  (base_Out qs.X (-10000) 10000).bind fun vr =>
  cond (!vr)
    ((base_Out qs.Y (-10000) 10000).bind fun vr1 =>
    some (!vr1))
    (some false)

noncomputable def place_isSpot (qs : api_Spot) : Option (Bool) :=
  (place_isSpot_x1 qs).bind fun vx1 =>
  some vx1

/-! ### internal/bytealg.CompareString -/
noncomputable def bytealg_CompareString (qa : List UInt8) (qb : List UInt8) : Option (Unit) :=
  some ()

/-! ### strings.Compare -/
noncomputable def strings_Compare (qa : List UInt8) (qb : List UInt8) : Option (Unit) :=
  (bytealg_CompareString qa qb).bind fun _ =>
  some ()

/-! ### cmp.isNaN[int] -/
noncomputable def cmp_isNaN_int (qx : Int) : Option (Unit) :=
  some ()

/-! ### cmp.Compare[int] -/
noncomputable def cmp_Compare_int (qx : Int) (qy : Int) : Option (Int) :=
  (cmp_isNaN_int qx).bind fun _ =>
  (cmp_isNaN_int qy).bind fun _ =>
  cond (!decide (qx = qx))
    (cond (!decide (qy = qy))
      (some 0)
      (some (-1)))
    (cond (!decide (qy = qy))
      (some 1)
      (cond (decide (qx < qy))
        (some (-1))
        (cond (decide (qy < qx))
          (some 1)
          (some 0))))

/-! ### cmp.Or[int] -/
noncomputable def cmp_Or_int_x1 (qvals : List Int) (vx : Int) : Option ((Int) ⊕ (Unit ⊕ Int)) :=
  cond (decide (vx < (qvals.length : Int)))
    ((at? qvals vx).bind fun vy1 =>
    cond (!decide (vy1 = 0))
      (some (.inr (.inr vy1)))
      (some (.inl (IntKind.wrap .i64 (vx + 1)))))
    (some (.inr (.inl ())))

noncomputable def cmp_Or_int (qvals : List Int) : Option (Int) :=
  (loopO (cmp_Or_int_x1 qvals) 0).bind fun x => match x with
    | .inl _ =>
      some 0
    | .inr vx1_1 =>
      some vx1_1

/-! ### beaconfleet/place.byDevice -/
noncomputable def place_byDevice (qa : api_Fix) (qb : api_Fix) : Option (Int) :=
  (strings_Compare qa.Device qb.Device).bind fun _ =>
  (cmp_Compare_int qa.At qb.At).bind fun vr =>
  (cmp_Or_int ([Lib.compareBytes qa.Device qb.Device, vr] : List Int)).bind fun vr1 =>
  some vr1

/-! ### beaconfleet/place.CheckFixes -/
noncomputable def place_CheckFixes_x2 (vy2 : api_Fix) : Option (Bool) :=
  (base_Moment vy2.At).bind fun vr1_1 =>
  cond (!vr1_1)
    (some true)
    ((place_spot vy2).bind fun _ =>
    (place_isSpot (api_Spot.mk vy2.X vy2.Y)).bind fun vr2_2 =>
    cond (!vr2_2)
      (some true)
      ((base_Out vy2.Error 0 10000).bind fun vr5 =>
      some vr5))

noncomputable def place_CheckFixes_x3 (ql : List api_Fix) (vx : Int) (vy2 : api_Fix) : Option (Bool) :=
  cond (decide (0 < vx))
    ((at? ql (IntKind.wrap .i64 (vx - 1))).bind fun vy3 =>
    (place_byDevice vy2 vy3).bind fun vr2_3 =>
    some (decide (vr2_3 ≤ 0)))
    (some false)

noncomputable def place_CheckFixes_x1 (ql : List api_Fix) (vx : Int) : Option ((Int) ⊕ (Unit ⊕ Int)) :=
  cond (decide (vx < (ql.length : Int)))
    ((at? ql vx).bind fun vy2 =>
    (base_Key vy2.Device).bind fun vr4 =>
    cond (!vr4)
      (some (.inr (.inr 5)))
      ((place_CheckFixes_x2 vy2).bind fun vx3_1 =>
      cond (vx3_1)
        (some (.inr (.inr 1)))
        ((place_CheckFixes_x3 ql vx vy2).bind fun vx4_1 =>
        cond (vx4_1)
          (some (.inr (.inr 7)))
          (some (.inl (IntKind.wrap .i64 (vx + 1)))))))
    (some (.inr (.inl ())))

noncomputable def place_CheckFixes (ql : List api_Fix) : Option (Int) :=
  cond (decide (2000 < (ql.length : Int)))
    (some 2)
    ((loopO (place_CheckFixes_x1 ql) 0).bind fun x => match x with
      | .inl _ =>
        some 0
      | .inr vx5_1 =>
        some vx5_1)

/-! ### beaconfleet/place.trackFault$1 -/
noncomputable def place_trackFault_1 (qx : api_Fix) (qx1 : List api_Fix) : Option (Bool) :=
  (at? qx1 0).bind fun vy =>
  some (!decide (qx.Device = vy.Device))

/-! ### slices.IndexFunc[[]beaconfleet/api.Fix,beaconfleet/api.Fix] -/
noncomputable def slices_IndexFunc_api_Fix_api_Fix_f1_place_trackFault_1_x1 (qs : List api_Fix) (vx : Int) : Option ((Int) ⊕ (Unit ⊕ Int)) :=
  cond (decide (vx < (qs.length : Int)))
    ((at? qs vx).bind fun vy1 =>
    (place_trackFault_1 vy1 qs).bind fun vr1 =>
    cond (vr1)
      (some (.inr (.inr vx)))
      (some (.inl (IntKind.wrap .i64 (vx + 1)))))
    (some (.inr (.inl ())))

noncomputable def slices_IndexFunc_api_Fix_api_Fix_f1_place_trackFault_1 (qs : List api_Fix) : Option (Int) :=
  (loopO (slices_IndexFunc_api_Fix_api_Fix_f1_place_trackFault_1_x1 qs) 0).bind fun x => match x with
    | .inl _ =>
      some (-1)
    | .inr vx1_1 =>
      some vx1_1

/-! ### slices.ContainsFunc[[]beaconfleet/api.Fix,beaconfleet/api.Fix] -/
noncomputable def slices_ContainsFunc_api_Fix_api_Fix_f1_place_trackFault_1 (qs : List api_Fix) : Option (Bool) :=
  (slices_IndexFunc_api_Fix_api_Fix_f1_place_trackFault_1 qs).bind fun vr2 =>
  some (decide (0 ≤ vr2))

/-! ### beaconfleet/place.trackFault -/
noncomputable def place_trackFault (ql : List api_Fix) : Option (Int) :=
  (place_CheckFixes ql).bind fun vr6 =>
  cond (!decide (vr6 = 0))
    (some vr6)
    ((slices_ContainsFunc_api_Fix_api_Fix_f1_place_trackFault_1 ql).bind fun vr =>
    cond (vr)
      (some 13)
      (some 0))

/-! ### beaconfleet/place.square -/
noncomputable def place_square (qa : api_Spot) (qb : api_Spot) : Option (Unit) :=
  some ()

/-! ### beaconfleet/place.side -/
noncomputable def place_side (qa : api_Spot) (qb : api_Spot) (qs : api_Spot) : Option (Unit) :=
  some ()

/-! ### beaconfleet/base.Gcd -/
noncomputable def base_Gcd_x1 : Int × Int → Option ((Int × Int) ⊕ (Int))
  | (va, vb) =>
  cond (!decide (vb = 0))
    (gd (!(vb == 0)) <|
    some (.inl (vb, va.tmod vb)))
    (some (.inr va))

noncomputable def base_Gcd (qa : Int) (qb : Int) : Option (Int) :=
  (loopO base_Gcd_x1 (qa, qb)).bind fun va1_1 =>
  some va1_1

/-! ### beaconfleet/base.Fraction -/
noncomputable def base_Fraction (qnum : Int) (qden : Int) : Option (api_Fraction) :=
  (base_Gcd (imax qnum (IntKind.wrap .i64 (0 - qnum))) qden).bind fun vr =>
  gd (!(vr == 0)) <|
  some (api_Fraction.mk (IntKind.wrap .i64 (qnum.tdiv vr)) (IntKind.wrap .i64 (qden.tdiv vr)))

/-! ### beaconfleet/place.far -/
noncomputable def place_far (qa : api_Spot) (qb : api_Spot) (qs : api_Spot) : Option (api_Fraction) :=
  (place_square qa qb).bind fun _ =>
  cond (decide ((IntKind.wrap .i64 ((IntKind.wrap .i64 ((IntKind.wrap .i64 (qs.X - qa.X)) * (IntKind.wrap .i64 (qb.X - qa.X)))) + (IntKind.wrap .i64 ((IntKind.wrap .i64 (qs.Y - qa.Y)) * (IntKind.wrap .i64 (qb.Y - qa.Y)))))) ≤ 0))
    ((place_square qa qs).bind fun _ =>
    some (api_Fraction.mk (IntKind.wrap .i64 ((IntKind.wrap .i64 ((IntKind.wrap .i64 (qa.X - qs.X)) * (IntKind.wrap .i64 (qa.X - qs.X)))) + (IntKind.wrap .i64 ((IntKind.wrap .i64 (qa.Y - qs.Y)) * (IntKind.wrap .i64 (qa.Y - qs.Y)))))) 1))
    (cond (decide ((IntKind.wrap .i64 ((IntKind.wrap .i64 ((IntKind.wrap .i64 (qa.X - qb.X)) * (IntKind.wrap .i64 (qa.X - qb.X)))) + (IntKind.wrap .i64 ((IntKind.wrap .i64 (qa.Y - qb.Y)) * (IntKind.wrap .i64 (qa.Y - qb.Y)))))) ≤ (IntKind.wrap .i64 ((IntKind.wrap .i64 ((IntKind.wrap .i64 (qs.X - qa.X)) * (IntKind.wrap .i64 (qb.X - qa.X)))) + (IntKind.wrap .i64 ((IntKind.wrap .i64 (qs.Y - qa.Y)) * (IntKind.wrap .i64 (qb.Y - qa.Y))))))))
      ((place_square qb qs).bind fun _ =>
      some (api_Fraction.mk (IntKind.wrap .i64 ((IntKind.wrap .i64 ((IntKind.wrap .i64 (qb.X - qs.X)) * (IntKind.wrap .i64 (qb.X - qs.X)))) + (IntKind.wrap .i64 ((IntKind.wrap .i64 (qb.Y - qs.Y)) * (IntKind.wrap .i64 (qb.Y - qs.Y)))))) 1))
      ((place_side qa qb qs).bind fun _ =>
      (base_Fraction (IntKind.wrap .i64 ((IntKind.wrap .i64 ((IntKind.wrap .i64 ((IntKind.wrap .i64 (qb.X - qa.X)) * (IntKind.wrap .i64 (qs.Y - qa.Y)))) - (IntKind.wrap .i64 ((IntKind.wrap .i64 (qb.Y - qa.Y)) * (IntKind.wrap .i64 (qs.X - qa.X)))))) * (IntKind.wrap .i64 ((IntKind.wrap .i64 ((IntKind.wrap .i64 (qb.X - qa.X)) * (IntKind.wrap .i64 (qs.Y - qa.Y)))) - (IntKind.wrap .i64 ((IntKind.wrap .i64 (qb.Y - qa.Y)) * (IntKind.wrap .i64 (qs.X - qa.X)))))))) (IntKind.wrap .i64 ((IntKind.wrap .i64 ((IntKind.wrap .i64 (qa.X - qb.X)) * (IntKind.wrap .i64 (qa.X - qb.X)))) + (IntKind.wrap .i64 ((IntKind.wrap .i64 (qa.Y - qb.Y)) * (IntKind.wrap .i64 (qa.Y - qb.Y))))))).bind fun vr1 =>
      some vr1))

/-! ### math/bits.Mul64 -/
noncomputable def bits_Mul64 (qx : Int) (qy : Int) : Option (Unit) :=
  some ()

/-! ### beaconfleet/base.CompareProducts -/
noncomputable def base_CompareProducts_x2 (qa : Int) (qb : Int) (qc : Int) (qd : Int) : Option (Bool) :=
  cond (!decide ((IntKind.wrap .u64 ((IntKind.wrap .u64 ((IntKind.wrap .u64 ((ishr .u64 (IntKind.wrap .u64 (qa)) 32) * (ishr .u64 (IntKind.wrap .u64 (qb)) 32))) + (ishr .u64 (IntKind.wrap .u64 ((IntKind.wrap .u64 ((ishr .u64 (IntKind.wrap .u64 (qa)) 32) * (ibits .and .u64 (IntKind.wrap .u64 (qb)) 4294967295))) + (ishr .u64 (IntKind.wrap .u64 ((ibits .and .u64 (IntKind.wrap .u64 (qa)) 4294967295) * (ibits .and .u64 (IntKind.wrap .u64 (qb)) 4294967295))) 32))) 32))) + (ishr .u64 (IntKind.wrap .u64 ((ibits .and .u64 (IntKind.wrap .u64 ((IntKind.wrap .u64 ((ishr .u64 (IntKind.wrap .u64 (qa)) 32) * (ibits .and .u64 (IntKind.wrap .u64 (qb)) 4294967295))) + (ishr .u64 (IntKind.wrap .u64 ((ibits .and .u64 (IntKind.wrap .u64 (qa)) 4294967295) * (ibits .and .u64 (IntKind.wrap .u64 (qb)) 4294967295))) 32))) 4294967295) + (IntKind.wrap .u64 ((ibits .and .u64 (IntKind.wrap .u64 (qa)) 4294967295) * (ishr .u64 (IntKind.wrap .u64 (qb)) 32))))) 32))) = (IntKind.wrap .u64 ((IntKind.wrap .u64 ((IntKind.wrap .u64 ((ishr .u64 (IntKind.wrap .u64 (qc)) 32) * (ishr .u64 (IntKind.wrap .u64 (qd)) 32))) + (ishr .u64 (IntKind.wrap .u64 ((IntKind.wrap .u64 ((ishr .u64 (IntKind.wrap .u64 (qc)) 32) * (ibits .and .u64 (IntKind.wrap .u64 (qd)) 4294967295))) + (ishr .u64 (IntKind.wrap .u64 ((ibits .and .u64 (IntKind.wrap .u64 (qc)) 4294967295) * (ibits .and .u64 (IntKind.wrap .u64 (qd)) 4294967295))) 32))) 32))) + (ishr .u64 (IntKind.wrap .u64 ((ibits .and .u64 (IntKind.wrap .u64 ((IntKind.wrap .u64 ((ishr .u64 (IntKind.wrap .u64 (qc)) 32) * (ibits .and .u64 (IntKind.wrap .u64 (qd)) 4294967295))) + (ishr .u64 (IntKind.wrap .u64 ((ibits .and .u64 (IntKind.wrap .u64 (qc)) 4294967295) * (ibits .and .u64 (IntKind.wrap .u64 (qd)) 4294967295))) 32))) 4294967295) + (IntKind.wrap .u64 ((ibits .and .u64 (IntKind.wrap .u64 (qc)) 4294967295) * (ishr .u64 (IntKind.wrap .u64 (qd)) 32))))) 32)))))
    (some (decide ((IntKind.wrap .u64 ((IntKind.wrap .u64 ((IntKind.wrap .u64 ((ishr .u64 (IntKind.wrap .u64 (qa)) 32) * (ishr .u64 (IntKind.wrap .u64 (qb)) 32))) + (ishr .u64 (IntKind.wrap .u64 ((IntKind.wrap .u64 ((ishr .u64 (IntKind.wrap .u64 (qa)) 32) * (ibits .and .u64 (IntKind.wrap .u64 (qb)) 4294967295))) + (ishr .u64 (IntKind.wrap .u64 ((ibits .and .u64 (IntKind.wrap .u64 (qa)) 4294967295) * (ibits .and .u64 (IntKind.wrap .u64 (qb)) 4294967295))) 32))) 32))) + (ishr .u64 (IntKind.wrap .u64 ((ibits .and .u64 (IntKind.wrap .u64 ((IntKind.wrap .u64 ((ishr .u64 (IntKind.wrap .u64 (qa)) 32) * (ibits .and .u64 (IntKind.wrap .u64 (qb)) 4294967295))) + (ishr .u64 (IntKind.wrap .u64 ((ibits .and .u64 (IntKind.wrap .u64 (qa)) 4294967295) * (ibits .and .u64 (IntKind.wrap .u64 (qb)) 4294967295))) 32))) 4294967295) + (IntKind.wrap .u64 ((ibits .and .u64 (IntKind.wrap .u64 (qa)) 4294967295) * (ishr .u64 (IntKind.wrap .u64 (qb)) 32))))) 32))) < (IntKind.wrap .u64 ((IntKind.wrap .u64 ((IntKind.wrap .u64 ((ishr .u64 (IntKind.wrap .u64 (qc)) 32) * (ishr .u64 (IntKind.wrap .u64 (qd)) 32))) + (ishr .u64 (IntKind.wrap .u64 ((IntKind.wrap .u64 ((ishr .u64 (IntKind.wrap .u64 (qc)) 32) * (ibits .and .u64 (IntKind.wrap .u64 (qd)) 4294967295))) + (ishr .u64 (IntKind.wrap .u64 ((ibits .and .u64 (IntKind.wrap .u64 (qc)) 4294967295) * (ibits .and .u64 (IntKind.wrap .u64 (qd)) 4294967295))) 32))) 32))) + (ishr .u64 (IntKind.wrap .u64 ((ibits .and .u64 (IntKind.wrap .u64 ((IntKind.wrap .u64 ((ishr .u64 (IntKind.wrap .u64 (qc)) 32) * (ibits .and .u64 (IntKind.wrap .u64 (qd)) 4294967295))) + (ishr .u64 (IntKind.wrap .u64 ((ibits .and .u64 (IntKind.wrap .u64 (qc)) 4294967295) * (ibits .and .u64 (IntKind.wrap .u64 (qd)) 4294967295))) 32))) 4294967295) + (IntKind.wrap .u64 ((ibits .and .u64 (IntKind.wrap .u64 (qc)) 4294967295) * (ishr .u64 (IntKind.wrap .u64 (qd)) 32))))) 32))))))
    (some false)

noncomputable def base_CompareProducts_x1 (qa : Int) (qb : Int) (qc : Int) (qd : Int) : Option (Bool) :=
  (base_CompareProducts_x2 qa qb qc qd).bind fun vx1 =>
  cond (vx1)
    (some vx1)
    (cond (decide ((IntKind.wrap .u64 ((IntKind.wrap .u64 ((IntKind.wrap .u64 ((ishr .u64 (IntKind.wrap .u64 (qa)) 32) * (ishr .u64 (IntKind.wrap .u64 (qb)) 32))) + (ishr .u64 (IntKind.wrap .u64 ((IntKind.wrap .u64 ((ishr .u64 (IntKind.wrap .u64 (qa)) 32) * (ibits .and .u64 (IntKind.wrap .u64 (qb)) 4294967295))) + (ishr .u64 (IntKind.wrap .u64 ((ibits .and .u64 (IntKind.wrap .u64 (qa)) 4294967295) * (ibits .and .u64 (IntKind.wrap .u64 (qb)) 4294967295))) 32))) 32))) + (ishr .u64 (IntKind.wrap .u64 ((ibits .and .u64 (IntKind.wrap .u64 ((IntKind.wrap .u64 ((ishr .u64 (IntKind.wrap .u64 (qa)) 32) * (ibits .and .u64 (IntKind.wrap .u64 (qb)) 4294967295))) + (ishr .u64 (IntKind.wrap .u64 ((ibits .and .u64 (IntKind.wrap .u64 (qa)) 4294967295) * (ibits .and .u64 (IntKind.wrap .u64 (qb)) 4294967295))) 32))) 4294967295) + (IntKind.wrap .u64 ((ibits .and .u64 (IntKind.wrap .u64 (qa)) 4294967295) * (ishr .u64 (IntKind.wrap .u64 (qb)) 32))))) 32))) = (IntKind.wrap .u64 ((IntKind.wrap .u64 ((IntKind.wrap .u64 ((ishr .u64 (IntKind.wrap .u64 (qc)) 32) * (ishr .u64 (IntKind.wrap .u64 (qd)) 32))) + (ishr .u64 (IntKind.wrap .u64 ((IntKind.wrap .u64 ((ishr .u64 (IntKind.wrap .u64 (qc)) 32) * (ibits .and .u64 (IntKind.wrap .u64 (qd)) 4294967295))) + (ishr .u64 (IntKind.wrap .u64 ((ibits .and .u64 (IntKind.wrap .u64 (qc)) 4294967295) * (ibits .and .u64 (IntKind.wrap .u64 (qd)) 4294967295))) 32))) 32))) + (ishr .u64 (IntKind.wrap .u64 ((ibits .and .u64 (IntKind.wrap .u64 ((IntKind.wrap .u64 ((ishr .u64 (IntKind.wrap .u64 (qc)) 32) * (ibits .and .u64 (IntKind.wrap .u64 (qd)) 4294967295))) + (ishr .u64 (IntKind.wrap .u64 ((ibits .and .u64 (IntKind.wrap .u64 (qc)) 4294967295) * (ibits .and .u64 (IntKind.wrap .u64 (qd)) 4294967295))) 32))) 4294967295) + (IntKind.wrap .u64 ((ibits .and .u64 (IntKind.wrap .u64 (qc)) 4294967295) * (ishr .u64 (IntKind.wrap .u64 (qd)) 32))))) 32)))))
      (some (decide ((IntKind.wrap .u64 ((IntKind.wrap .u64 (qa)) * (IntKind.wrap .u64 (qb)))) < (IntKind.wrap .u64 ((IntKind.wrap .u64 (qc)) * (IntKind.wrap .u64 (qd)))))))
      (some false))

noncomputable def base_CompareProducts_x3 (qa : Int) (qb : Int) (qc : Int) (qd : Int) : Option (Bool) :=
  cond (decide ((IntKind.wrap .u64 ((IntKind.wrap .u64 ((IntKind.wrap .u64 ((ishr .u64 (IntKind.wrap .u64 (qa)) 32) * (ishr .u64 (IntKind.wrap .u64 (qb)) 32))) + (ishr .u64 (IntKind.wrap .u64 ((IntKind.wrap .u64 ((ishr .u64 (IntKind.wrap .u64 (qa)) 32) * (ibits .and .u64 (IntKind.wrap .u64 (qb)) 4294967295))) + (ishr .u64 (IntKind.wrap .u64 ((ibits .and .u64 (IntKind.wrap .u64 (qa)) 4294967295) * (ibits .and .u64 (IntKind.wrap .u64 (qb)) 4294967295))) 32))) 32))) + (ishr .u64 (IntKind.wrap .u64 ((ibits .and .u64 (IntKind.wrap .u64 ((IntKind.wrap .u64 ((ishr .u64 (IntKind.wrap .u64 (qa)) 32) * (ibits .and .u64 (IntKind.wrap .u64 (qb)) 4294967295))) + (ishr .u64 (IntKind.wrap .u64 ((ibits .and .u64 (IntKind.wrap .u64 (qa)) 4294967295) * (ibits .and .u64 (IntKind.wrap .u64 (qb)) 4294967295))) 32))) 4294967295) + (IntKind.wrap .u64 ((ibits .and .u64 (IntKind.wrap .u64 (qa)) 4294967295) * (ishr .u64 (IntKind.wrap .u64 (qb)) 32))))) 32))) = (IntKind.wrap .u64 ((IntKind.wrap .u64 ((IntKind.wrap .u64 ((ishr .u64 (IntKind.wrap .u64 (qc)) 32) * (ishr .u64 (IntKind.wrap .u64 (qd)) 32))) + (ishr .u64 (IntKind.wrap .u64 ((IntKind.wrap .u64 ((ishr .u64 (IntKind.wrap .u64 (qc)) 32) * (ibits .and .u64 (IntKind.wrap .u64 (qd)) 4294967295))) + (ishr .u64 (IntKind.wrap .u64 ((ibits .and .u64 (IntKind.wrap .u64 (qc)) 4294967295) * (ibits .and .u64 (IntKind.wrap .u64 (qd)) 4294967295))) 32))) 32))) + (ishr .u64 (IntKind.wrap .u64 ((ibits .and .u64 (IntKind.wrap .u64 ((IntKind.wrap .u64 ((ishr .u64 (IntKind.wrap .u64 (qc)) 32) * (ibits .and .u64 (IntKind.wrap .u64 (qd)) 4294967295))) + (ishr .u64 (IntKind.wrap .u64 ((ibits .and .u64 (IntKind.wrap .u64 (qc)) 4294967295) * (ibits .and .u64 (IntKind.wrap .u64 (qd)) 4294967295))) 32))) 4294967295) + (IntKind.wrap .u64 ((ibits .and .u64 (IntKind.wrap .u64 (qc)) 4294967295) * (ishr .u64 (IntKind.wrap .u64 (qd)) 32))))) 32)))))
    (some (decide ((IntKind.wrap .u64 ((IntKind.wrap .u64 (qa)) * (IntKind.wrap .u64 (qb)))) = (IntKind.wrap .u64 ((IntKind.wrap .u64 (qc)) * (IntKind.wrap .u64 (qd)))))))
    (some false)

noncomputable def base_CompareProducts (qa : Int) (qb : Int) (qc : Int) (qd : Int) : Option (Int) :=
  (bits_Mul64 (IntKind.wrap .u64 (qa)) (IntKind.wrap .u64 (qb))).bind fun _ =>
  (bits_Mul64 (IntKind.wrap .u64 (qc)) (IntKind.wrap .u64 (qd))).bind fun _ =>
  (base_CompareProducts_x1 qa qb qc qd).bind fun vx2_1 =>
  cond (vx2_1)
    (some (-1))
    ((base_CompareProducts_x3 qa qb qc qd).bind fun vx3_1 =>
    cond (vx3_1)
      (some 0)
      (some 1))

/-! ### beaconfleet/place.less -/
noncomputable def place_less (qa : api_Fraction) (qb : api_Fraction) : Option (Bool) :=
  (base_CompareProducts qa.Num qb.Den qb.Num qa.Den).bind fun vr =>
  some (decide (vr < 0))

/-! ### beaconfleet/place.Plain$1 -/
noncomputable def place_Plain_1_b0o_x2 (recF : Int → Int → (List Bool) → Int → (List api_Fix) → Option ((List Bool))) (qi : Int) (qk : Int) (qx2 : List api_Fix) (vaway : api_Fraction) (vbest : Int) (vm : Int) : Option ((api_Fraction × Int)) :=
  (at? qx2 qi).bind fun vy5 =>
  (place_spot vy5).bind fun _ =>
  (at? qx2 qk).bind fun vy6 =>
  (place_spot vy6).bind fun _ =>
  (at? qx2 vm).bind fun vy7 =>
  (place_spot vy7).bind fun _ =>
  (place_far (api_Spot.mk vy5.X vy5.Y) (api_Spot.mk vy6.X vy6.Y) (api_Spot.mk vy7.X vy7.Y)).bind fun vr2 =>
  (place_less vaway vr2).bind fun vr1_1 =>
  cond (vr1_1)
    (some (vr2, vm))
    (some (vaway, vbest))

noncomputable def place_Plain_1_b0o_x1 (recF : Int → Int → (List Bool) → Int → (List api_Fix) → Option ((List Bool))) (qi : Int) (qk : Int) (qx2 : List api_Fix) : api_Fraction × Int × Int → Option ((api_Fraction × Int × Int) ⊕ (Int))
  | (vaway, vbest, vm) =>
  cond (decide (vm < qk))
    ((place_Plain_1_b0o_x2 recF qi qk qx2 vaway vbest vm).bind fun (vaway2_1, vbest2_1) =>
    some (.inl (vaway2_1, vbest2_1, IntKind.wrap .i64 (vm + 1))))
    (some (.inr vbest))

noncomputable def place_Plain_1_b0o_n : Nat → Int → Int → (List Bool) → Int → (List api_Fix) → Option ((List Bool))
  | 0, _, _, _, _, _ => none
  | n + 1, qi, qk, qx, qx1, qx2 =>
  (at? qx qi).bind fun vy =>
  (at? (qx.set qi.toNat true) qk).bind fun vy1 =>
  (loopO (place_Plain_1_b0o_x1 (place_Plain_1_b0o_n n) qi qk qx2) (api_Fraction.mk (IntKind.wrap .i64 (qx1 * qx1)) 1, (-1), IntKind.wrap .i64 (qi + 1))).bind fun vbest3_1 =>
  cond (decide (0 ≤ vbest3_1))
    (((place_Plain_1_b0o_n n) qi vbest3_1 ((qx.set qi.toNat true).set qk.toNat true) qx1 qx2).bind fun vs =>
    ((place_Plain_1_b0o_n n) vbest3_1 qk vs qx1 qx2).bind fun vs1 =>
    some vs1)
    (some ((qx.set qi.toNat true).set qk.toNat true))

noncomputable def place_Plain_1_b0o (qi : Int) (qk : Int) (qx : List Bool) (qx1 : Int) (qx2 : List api_Fix) : Option ((List Bool)) := fixO fun n => place_Plain_1_b0o_n n qi qk qx qx1 qx2

/-! ### beaconfleet/place.Plain -/
noncomputable def place_Plain_x1 (ql : List api_Fix) (qmost : Int) : Option ((List Bool)) :=
  cond (decide (0 < (ql.length : Int)))
    ((place_Plain_1_b0o 0 (IntKind.wrap .i64 ((ql.length : Int) - 1)) (List.replicate (ql.length : Int).toNat false) qmost ql).bind fun vs2 =>
    some vs2)
    (some (List.replicate (ql.length : Int).toNat false))

noncomputable def place_Plain_x3 (vkeep1 : List Bool) (vout : List Int) (vx : Int) : Option ((List Int)) :=
  (at? vkeep1 vx).bind fun vy1 =>
  cond (vy1)
    (gd (Nat.ble (vout.length + ([vx] : List Int).length) LIM) <|
    some (vout ++ ([vx] : List Int)))
    (some vout)

noncomputable def place_Plain_x2 (vkeep1 : List Bool) : (List Int) × Int → Option (((List Int) × Int) ⊕ ((List Int)))
  | (vout, vx) =>
  cond (decide (vx < (vkeep1.length : Int)))
    ((place_Plain_x3 vkeep1 vout vx).bind fun vout2_1 =>
    some (.inl (vout2_1, IntKind.wrap .i64 (vx + 1))))
    (some (.inr vout))

noncomputable def place_Plain (ql : List api_Fix) (qmost : Int) : Option ((List Int) × Int) :=
  (place_trackFault ql).bind fun vr1 =>
  cond (!decide (vr1 = 0))
    (some ([], vr1))
    ((base_Out qmost 0 10000).bind fun vr =>
    cond (vr)
      (some ([], 1))
      (gd (decide (0 ≤ (ql.length : Int)) && decide ((ql.length : Int) ≤ (ql.length : Int)) && decide ((ql.length : Int) ≤ 137438953472)) <|
      (place_Plain_x1 ql qmost).bind fun vkeep1 =>
      (loopO (place_Plain_x2 vkeep1) ([], 0)).bind fun vout3_1 =>
      some (vout3_1, 0)))

/-! ### beaconfleet/place.root -/
noncomputable def place_root_x1 (qn : Int) : Int × Int → Option ((Int × Int) ⊕ (Int))
  | (vlow, vhigh) =>
  cond (decide (1 < (IntKind.wrap .i64 (vhigh - vlow))))
    (cond (decide ((IntKind.wrap .i64 ((IntKind.wrap .i64 ((IntKind.wrap .i64 (vlow + vhigh)).tdiv 2)) * (IntKind.wrap .i64 ((IntKind.wrap .i64 (vlow + vhigh)).tdiv 2)))) ≤ qn))
      (some (.inl (IntKind.wrap .i64 ((IntKind.wrap .i64 (vlow + vhigh)).tdiv 2), vhigh)))
      (some (.inl (vlow, IntKind.wrap .i64 ((IntKind.wrap .i64 (vlow + vhigh)).tdiv 2)))))
    (some (.inr vlow))

noncomputable def place_root (qn : Int) : Option (Int) :=
  (loopO (place_root_x1 qn) (0, 2147483648)).bind fun vlow1_1 =>
  some vlow1_1

/-! ### beaconfleet/place.Length -/
noncomputable def place_Length_x1 (ql : List api_Fix) : Int × Int → Option ((Int × Int) ⊕ (Int))
  | (vn, vi) =>
  cond (decide (vi < (ql.length : Int)))
    ((at? ql (IntKind.wrap .i64 (vi - 1))).bind fun vy2 =>
    (place_spot vy2).bind fun _ =>
    (at? ql vi).bind fun vy3 =>
    (place_spot vy3).bind fun _ =>
    (place_square (api_Spot.mk vy2.X vy2.Y) (api_Spot.mk vy3.X vy3.Y)).bind fun _ =>
    (place_root (IntKind.wrap .i64 ((IntKind.wrap .i64 ((IntKind.wrap .i64 (vy2.X - vy3.X)) * (IntKind.wrap .i64 (vy2.X - vy3.X)))) + (IntKind.wrap .i64 ((IntKind.wrap .i64 (vy2.Y - vy3.Y)) * (IntKind.wrap .i64 (vy2.Y - vy3.Y))))))).bind fun vr2 =>
    some (.inl (IntKind.wrap .i64 (vn + vr2), IntKind.wrap .i64 (vi + 1))))
    (some (.inr vn))

noncomputable def place_Length (ql : List api_Fix) : Option (Int × Int) :=
  (place_trackFault ql).bind fun vr1 =>
  cond (!decide (vr1 = 0))
    (some (0, vr1))
    ((loopO (place_Length_x1 ql) (0, 1)).bind fun vn1_1 =>
    some (vn1_1, 0))

/-! ### beaconfleet/base.First -/
noncomputable def base_First_x1 (ql : List Int) (vx : Int) : Option ((Int) ⊕ (Unit ⊕ Int)) :=
  cond (decide (vx < (ql.length : Int)))
    ((at? ql vx).bind fun vy1 =>
    cond (!decide (vy1 = 0))
      (some (.inr (.inr vy1)))
      (some (.inl (IntKind.wrap .i64 (vx + 1)))))
    (some (.inr (.inl ())))

noncomputable def base_First (ql : List Int) : Option (Int) :=
  (loopO (base_First_x1 ql) 0).bind fun x => match x with
    | .inl _ =>
      some 0
    | .inr vx1_1 =>
      some vx1_1

/-! ### beaconfleet/series.byDevice -/
noncomputable def series_byDevice (qa : api_Sample) (qb : api_Sample) : Option (Int) :=
  (strings_Compare qa.Device qb.Device).bind fun _ =>
  (strings_Compare qa.Metric qb.Metric).bind fun _ =>
  (cmp_Compare_int qa.At qb.At).bind fun vr =>
  (cmp_Or_int ([Lib.compareBytes qa.Device qb.Device, Lib.compareBytes qa.Metric qb.Metric, vr] : List Int)).bind fun vr1 =>
  some vr1

/-! ### beaconfleet/series.Check -/
noncomputable def series_Check_x2 (vy2 : api_Sample) : Option (Bool) :=
  (base_Key vy2.Device).bind fun vr3 =>
  cond (!vr3)
    (some true)
    ((base_Key vy2.Metric).bind fun vr4 =>
    some (!vr4))

noncomputable def series_Check_x3 (vy2 : api_Sample) : Option (Bool) :=
  (base_Moment vy2.At).bind fun vr1_2 =>
  cond (!vr1_2)
    (some true)
    ((base_Out vy2.Value (-1000000000) 1000000000).bind fun vr5 =>
    some vr5)

noncomputable def series_Check_x4 (ql : List api_Sample) (vx : Int) (vy2 : api_Sample) : Option (Bool) :=
  cond (decide (0 < vx))
    ((at? ql (IntKind.wrap .i64 (vx - 1))).bind fun vy3 =>
    (series_byDevice vy2 vy3).bind fun vr2_2 =>
    some (decide (vr2_2 ≤ 0)))
    (some false)

noncomputable def series_Check_x1 (ql : List api_Sample) (vx : Int) : Option ((Int) ⊕ (Unit ⊕ Int)) :=
  cond (decide (vx < (ql.length : Int)))
    ((at? ql vx).bind fun vy2 =>
    (series_Check_x2 vy2).bind fun vx4_1 =>
    cond (vx4_1)
      (some (.inr (.inr 5)))
      ((series_Check_x3 vy2).bind fun vx5_1 =>
      cond (vx5_1)
        (some (.inr (.inr 1)))
        ((series_Check_x4 ql vx vy2).bind fun vx6_1 =>
        cond (vx6_1)
          (some (.inr (.inr 7)))
          (some (.inl (IntKind.wrap .i64 (vx + 1)))))))
    (some (.inr (.inl ())))

noncomputable def series_Check (ql : List api_Sample) : Option (Int) :=
  cond (decide (5000 < (ql.length : Int)))
    (some 2)
    ((loopO (series_Check_x1 ql) 0).bind fun x => match x with
      | .inl _ =>
        some 0
      | .inr vx7_1 =>
        some vx7_1)

/-! ### beaconfleet/series.CheckSeries$1 -/
noncomputable def series_CheckSeries_1_x1 (qs : api_Sample) (qx : List api_Sample) : Option (Bool) :=
  (at? qx 0).bind fun vy =>
  cond (!decide (qs.Device = vy.Device))
    (some true)
    (some (!decide (qs.Metric = vy.Metric)))

noncomputable def series_CheckSeries_1 (qs : api_Sample) (qx : List api_Sample) : Option (Bool) :=
  (series_CheckSeries_1_x1 qs qx).bind fun vx1 =>
  some vx1

/-! ### slices.IndexFunc[[]beaconfleet/api.Sample,beaconfleet/api.Sample] -/
noncomputable def slices_IndexFunc_api_Sample_api_Sample_f1_series_CheckSeries_1_x1 (qs : List api_Sample) (vx : Int) : Option ((Int) ⊕ (Unit ⊕ Int)) :=
  cond (decide (vx < (qs.length : Int)))
    ((at? qs vx).bind fun vy1 =>
    (series_CheckSeries_1 vy1 qs).bind fun vr1 =>
    cond (vr1)
      (some (.inr (.inr vx)))
      (some (.inl (IntKind.wrap .i64 (vx + 1)))))
    (some (.inr (.inl ())))

noncomputable def slices_IndexFunc_api_Sample_api_Sample_f1_series_CheckSeries_1 (qs : List api_Sample) : Option (Int) :=
  (loopO (slices_IndexFunc_api_Sample_api_Sample_f1_series_CheckSeries_1_x1 qs) 0).bind fun x => match x with
    | .inl _ =>
      some (-1)
    | .inr vx1_1 =>
      some vx1_1

/-! ### slices.ContainsFunc[[]beaconfleet/api.Sample,beaconfleet/api.Sample] -/
noncomputable def slices_ContainsFunc_api_Sample_api_Sample_f1_series_CheckSeries_1 (qs : List api_Sample) : Option (Bool) :=
  (slices_IndexFunc_api_Sample_api_Sample_f1_series_CheckSeries_1 qs).bind fun vr2 =>
  some (decide (0 ≤ vr2))

/-! ### beaconfleet/series.CheckSeries -/
noncomputable def series_CheckSeries (ql : List api_Sample) : Option (Int) :=
  (series_Check ql).bind fun vr6 =>
  cond (!decide (vr6 = 0))
    (some vr6)
    ((slices_ContainsFunc_api_Sample_api_Sample_f1_series_CheckSeries_1 ql).bind fun vr =>
    cond (vr)
      (some 13)
      (some 0))

/-! ### beaconfleet/series.seven -/
noncomputable def series_seven_n0_x1 : (List Int) × Int → Option (((List Int) × Int) ⊕ (((List Int) × Int)))
  | (vb, vn) =>
  cond (decide (128 ≤ vn))
    (gd (Nat.ble (vb.length + ([ibits .or .u8 (IntKind.wrap .u8 (ibits .and .u64 vn 127)) 128] : List Int).length) LIM) <|
    some (.inl (vb ++ ([ibits .or .u8 (IntKind.wrap .u8 (ibits .and .u64 vn 127)) 128] : List Int), ishr .u64 vn 7)))
    (some (.inr (vb, vn)))

noncomputable def series_seven_n0 (qn : Int) : Option ((List Int)) :=
  (loopO series_seven_n0_x1 ([], qn)).bind fun (vb1_1, vn1_1) =>
  gd (Nat.ble (vb1_1.length + ([IntKind.wrap .u8 (vn1_1)] : List Int).length) LIM) <|
  some (vb1_1 ++ ([IntKind.wrap .u8 (vn1_1)] : List Int))

/-! ### beaconfleet/series.doubled -/
noncomputable def series_doubled (qn : Int) : Option (Int) :=
  cond (decide (qn < 0))
    (some (IntKind.wrap .u64 (IntKind.wrap .i64 ((IntKind.wrap .i64 (((-2) : Int) * qn)) - 1))))
    (some (IntKind.wrap .u64 (IntKind.wrap .i64 ((2 : Int) * qn))))

/-! ### beaconfleet/series.seven -/
noncomputable def series_seven_o0_x1 : (List Int) × Int → Option (((List Int) × Int) ⊕ (((List Int) × Int)))
  | (vb, vn) =>
  cond (decide (128 ≤ vn))
    (gd (Nat.ble (vb.length + ([ibits .or .u8 (IntKind.wrap .u8 (ibits .and .u64 vn 127)) 128] : List Int).length) LIM) <|
    some (.inl (vb ++ ([ibits .or .u8 (IntKind.wrap .u8 (ibits .and .u64 vn 127)) 128] : List Int), ishr .u64 vn 7)))
    (some (.inr (vb, vn)))

noncomputable def series_seven_o0 (qb : List Int) (qn : Int) : Option ((List Int)) :=
  (loopO series_seven_o0_x1 (qb, qn)).bind fun (vb1_1, vn1_1) =>
  gd (Nat.ble (vb1_1.length + ([IntKind.wrap .u8 (vn1_1)] : List Int).length) LIM) <|
  some (vb1_1 ++ ([IntKind.wrap .u8 (vn1_1)] : List Int))

/-! ### beaconfleet/series.pack -/
noncomputable def series_pack_x2 (vat : Int) (vby : Int) (vx : Int) (vy1 : api_Sample) : Option (Int) :=
  cond (decide (0 < vx))
    (some (IntKind.wrap .i64 (vy1.At - vat)))
    (some vby)

noncomputable def series_pack_x1 (ql : List api_Sample) : (List Int) × Int × Int × Int × Int → Option (((List Int) × Int × Int × Int × Int) ⊕ ((List Int)))
  | (vout, vat, vby, vvalue, vx) =>
  cond (decide (vx < (ql.length : Int)))
    ((at? ql vx).bind fun vy1 =>
    (series_doubled (IntKind.wrap .i64 ((IntKind.wrap .i64 (vy1.At - vat)) - vby))).bind fun vr5 =>
    (series_seven_o0 vout vr5).bind fun vr6 =>
    (series_doubled (IntKind.wrap .i64 (vy1.Value - vvalue))).bind fun vr7 =>
    (series_seven_o0 vr6 vr7).bind fun vr8 =>
    (series_pack_x2 vat vby vx vy1).bind fun vby2_1 =>
    some (.inl (vr8, vy1.At, vby2_1, vy1.Value, IntKind.wrap .i64 (vx + 1))))
    (some (.inr vout))

noncomputable def series_pack (ql : List api_Sample) : Option ((List Int)) :=
  (series_seven_n0 (IntKind.wrap .u64 ((ql.length : Int)))).bind fun vr =>
  (loopO (series_pack_x1 ql) (vr, 0, 0, 0, 0)).bind fun vout1_1 =>
  some vout1_1

/-! ### beaconfleet/series.Pack -/
noncomputable def series_Pack_o0 (ql : List api_Sample) : Option ((List Int) × Int) :=
  (series_CheckSeries ql).bind fun vr1 =>
  cond (!decide (vr1 = 0))
    (some ([], vr1))
    ((series_pack ql).bind fun vr9 =>
    some (vr9, 0))

/-! ### unicode/utf8.RuneCountInString -/
noncomputable def utf8_RuneCountInString_x1 (qs : List UInt8) : Nat × Int → Option ((Nat × Int) ⊕ (Int))
  | (vpos, vn) =>
  cond (decide (vpos < qs.length))
    ((some (dec qs vpos)).bind fun vd1 =>
    some (.inl ((vpos + vd1.2 : Nat), IntKind.wrap .i64 (vn + 1))))
    (some (.inr vn))

noncomputable def utf8_RuneCountInString (qs : List UInt8) : Option (Int) :=
  (loopO (utf8_RuneCountInString_x1 qs) ((0 : Nat), 0)).bind fun vn1_1 =>
  some vn1_1

/-! ### unicode/utf8.decodeRuneInStringSlow -/
noncomputable def utf8_decodeRuneInStringSlow (qx : List UInt8) : Option (Unit) :=
  cond (decide ((qx.length : Int) < 1))
    (some ())
    ((at? qx 0).bind fun vc =>
    none)

/-! ### unicode/utf8.DecodeRuneInString -/
noncomputable def utf8_DecodeRuneInString_x1 (qs : List UInt8) : Option (Bool) :=
  cond (!decide (qs = ([] : List UInt8)))
    ((at? qs 0).bind fun vc =>
    some (decide ((vc.toNat : Int) < 128)))
    (some false)

noncomputable def utf8_DecodeRuneInString (qs : List UInt8) : Option (Int × Int) :=
  (utf8_DecodeRuneInString_x1 qs).bind fun vx1 =>
  cond (vx1)
    ((at? qs 0).bind fun vc1 =>
    some (IntKind.wrap .i32 ((vc1.toNat : Int)), 1))
    ((utf8_decodeRuneInStringSlow qs).bind fun _ =>
    some (65533, 0))

/-! ### strings.explode -/
noncomputable def strings_explode_x2 (qn : Int) (vr : Int) : Option (Bool) :=
  cond (decide (qn < 0))
    (some true)
    (some (decide (vr < qn)))

noncomputable def strings_explode_x1 (qn : Int) (vr : Int) : Option (Int) :=
  (strings_explode_x2 qn vr).bind fun vx1 =>
  cond (vx1)
    (some vr)
    (some qn)

noncomputable def strings_explode_x3 (vn1 : Int) : (List UInt8) × (List (List UInt8)) × Int → Option (((List UInt8) × (List (List UInt8)) × Int) ⊕ (((List UInt8) × (List (List UInt8)))))
  | (vs, va, vi) =>
  cond (decide (vi < (IntKind.wrap .i64 (vn1 - 1))))
    ((utf8_DecodeRuneInString vs).bind fun (vr2, vr1_2) =>
    (sub? vs 0 vr1_2).bind fun vs3 =>
    (at? va vi).bind fun vy1 =>
    (sub? vs vr1_2 (vs.length : Int)).bind fun vs4 =>
    some (.inl (vs4, va.set vi.toNat vs3, IntKind.wrap .i64 (vi + 1))))
    (some (.inr (vs, va)))

noncomputable def strings_explode_x4 (vn1 : Int) (vs5_1 : List UInt8) (va1_1 : List (List UInt8)) : Option ((List (List UInt8))) :=
  cond (decide (0 < vn1))
    ((at? va1_1 (IntKind.wrap .i64 (vn1 - 1))).bind fun vy2 =>
    some (va1_1.set (IntKind.wrap .i64 (vn1 - 1)).toNat vs5_1))
    (some va1_1)

noncomputable def strings_explode (qs : List UInt8) (qn : Int) : Option ((List (List UInt8))) :=
  (utf8_RuneCountInString qs).bind fun vr =>
  (strings_explode_x1 qn vr).bind fun vn1 =>
  gd (decide (0 ≤ vn1) && decide (vn1 ≤ vn1) && decide (vn1 ≤ 137438953472)) <|
  (loopO (strings_explode_x3 vn1) (qs, List.replicate vn1.toNat ([] : List UInt8), 0)).bind fun (vs5_1, va1_1) =>
  (strings_explode_x4 vn1 vs5_1 va1_1).bind fun va2_1 =>
  some va2_1

/-! ### internal/stringslite.IndexByte -/
noncomputable def stringslite_IndexByte (qs : List UInt8) (qc : Int) : Option (Unit) :=
  some ()

/-! ### internal/stringslite.Index -/
noncomputable def stringslite_Index_x1 (qx : List UInt8) (qx1 : List UInt8) : Option (Bool) :=
  cond (decide ((qx1.length : Int) = 0))
    (some true)
    (some (decide (qx1 = qx)))

noncomputable def stringslite_Index (qx : List UInt8) (qx1 : List UInt8) : Option (Int) :=
  (stringslite_Index_x1 qx qx1).bind fun vx1 =>
  cond (vx1)
    (some 0)
    (cond (decide ((qx1.length : Int) = 1))
      ((at? qx1 0).bind fun vc =>
      (stringslite_IndexByte qx (vc.toNat : Int)).bind fun _ =>
      some (Lib.indexByte qx (vc.toNat : Int).toNat.toUInt8))
      (cond (decide ((qx.length : Int) ≤ (qx1.length : Int)))
        (some (-1))
        (none)))

/-! ### strings.Index -/
noncomputable def strings_Index (qs : List UInt8) (qsubstr : List UInt8) : Option (Int) :=
  (stringslite_Index qs qsubstr).bind fun vr =>
  some vr

/-! ### strings.Count -/
noncomputable def strings_Count_x1 (qsubstr : List UInt8) : (List UInt8) × Int → Option (((List UInt8) × Int) ⊕ (Int))
  | (vs, vn) =>
  (strings_Index vs qsubstr).bind fun vr1_1 =>
  cond (decide (vr1_1 = (-1)))
    (some (.inr vn))
    ((sub? vs (IntKind.wrap .i64 (vr1_1 + (qsubstr.length : Int))) (vs.length : Int)).bind fun vs2 =>
    some (.inl (vs2, IntKind.wrap .i64 (vn + 1))))

noncomputable def strings_Count (qs : List UInt8) (qsubstr : List UInt8) : Option (Int) :=
  cond (decide ((qsubstr.length : Int) = 0))
    ((utf8_RuneCountInString qs).bind fun vr =>
    some (IntKind.wrap .i64 (vr + 1)))
    (cond (decide ((qsubstr.length : Int) = 1))
      ((at? qsubstr 0).bind fun vc =>
      some (countB qs (vc.toNat : Int).toNat.toUInt8))
      ((loopO (strings_Count_x1 qsubstr) (qs, 0)).bind fun vx1 =>
      some vx1))

/-! ### strings.genSplit -/
noncomputable def strings_genSplit_x1 (qx : List UInt8) (qx1 : List UInt8) (qx3 : Int) : Option (Int) :=
  cond (decide (qx3 < 0))
    ((strings_Count qx qx1).bind fun vr2 =>
    some (IntKind.wrap .i64 (vr2 + 1)))
    (some qx3)

noncomputable def strings_genSplit_x2 (qx : List UInt8) (qx1 : List UInt8) (qx2 : Int) (vx1 : Int) : (List UInt8) × (List (List UInt8)) × Int → Option (((List UInt8) × (List (List UInt8)) × Int) ⊕ (((List UInt8) × (List (List UInt8)) × Int)))
  | (vx2, vx3, vx4) =>
  cond (decide (vx4 < (IntKind.wrap .i64 ((imin vx1 (IntKind.wrap .i64 ((qx.length : Int) + 1))) - 1))))
    ((strings_Index vx2 qx1).bind fun vr1_1 =>
    cond (decide (vr1_1 < 0))
      (some (.inr (vx2, vx3, vx4)))
      ((sub? vx2 0 (IntKind.wrap .i64 (vr1_1 + qx2))).bind fun vs2 =>
      (at? vx3 vx4).bind fun vy1 =>
      (sub? vx2 (IntKind.wrap .i64 (vr1_1 + (qx1.length : Int))) (vx2.length : Int)).bind fun vs3 =>
      some (.inl (vs3, vx3.set vx4.toNat vs2, IntKind.wrap .i64 (vx4 + 1)))))
    (some (.inr (vx2, vx3, vx4)))

noncomputable def strings_genSplit (qx : List UInt8) (qx1 : List UInt8) (qx2 : Int) (qx3 : Int) : Option ((List (List UInt8))) :=
  cond (decide (qx3 = 0))
    (some [])
    (cond (decide (qx1 = ([] : List UInt8)))
      ((strings_explode qx qx3).bind fun vr3 =>
      some vr3)
      ((strings_genSplit_x1 qx qx1 qx3).bind fun vx1 =>
      gd (decide (0 ≤ (imin vx1 (IntKind.wrap .i64 ((qx.length : Int) + 1)))) && decide ((imin vx1 (IntKind.wrap .i64 ((qx.length : Int) + 1))) ≤ (imin vx1 (IntKind.wrap .i64 ((qx.length : Int) + 1)))) && decide ((imin vx1 (IntKind.wrap .i64 ((qx.length : Int) + 1))) ≤ 137438953472)) <|
      (loopO (strings_genSplit_x2 qx qx1 qx2 vx1) (qx, List.replicate (imin vx1 (IntKind.wrap .i64 ((qx.length : Int) + 1))).toNat ([] : List UInt8), 0)).bind fun (vx5_1, vx6_1, vx7_1) =>
      (at? vx6_1 vx7_1).bind fun vy2 =>
      gd (decide (0 ≤ (IntKind.wrap .i64 (vx7_1 + 1))) && decide ((IntKind.wrap .i64 (vx7_1 + 1)) ≤ ((vx6_1.set vx7_1.toNat vx5_1).length : Int))) <|
      some ((vx6_1.set vx7_1.toNat vx5_1).take (IntKind.wrap .i64 (vx7_1 + 1)).toNat)))

/-! ### strings.Split -/
noncomputable def strings_Split (qs : List UInt8) (qsep : List UInt8) : Option ((List (List UInt8))) :=
  (strings_genSplit qs qsep 0 (-1)).bind fun vr =>
  some vr

/-! ### internal/stringslite.HasPrefix -/
noncomputable def stringslite_HasPrefix_x1 (qs : List UInt8) (qprefix : List UInt8) : Option (Bool) :=
  cond (decide ((qprefix.length : Int) ≤ (qs.length : Int)))
    ((sub? qs 0 (qprefix.length : Int)).bind fun vs =>
    some (decide (vs = qprefix)))
    (some false)

noncomputable def stringslite_HasPrefix (qs : List UInt8) (qprefix : List UInt8) : Option (Bool) :=
  (stringslite_HasPrefix_x1 qs qprefix).bind fun vx1 =>
  some vx1

/-! ### internal/stringslite.TrimPrefix -/
noncomputable def stringslite_TrimPrefix (qs : List UInt8) (qprefix : List UInt8) : Option ((List UInt8)) :=
  (stringslite_HasPrefix qs qprefix).bind fun vr =>
  cond (vr)
    ((sub? qs (qprefix.length : Int) (qs.length : Int)).bind fun vs =>
    some vs)
    (some qs)

/-! ### strings.TrimPrefix -/
noncomputable def strings_TrimPrefix (qs : List UInt8) (qprefix : List UInt8) : Option ((List UInt8)) :=
  (stringslite_TrimPrefix qs qprefix).bind fun vr1 =>
  some vr1

/-! ### internal/strconv.lower -/
noncomputable def strconv_lower (qc : Int) : Option (Unit) :=
  some ()

/-! ### internal/strconv.underscoreOK -/
noncomputable def strconv_underscoreOK_x2 (qx : List UInt8) : Option (Bool) :=
  cond (decide (1 ≤ (qx.length : Int)))
    ((at? qx 0).bind fun vc =>
    cond (decide ((vc.toNat : Int) = 45))
      (some true)
      (some (decide ((vc.toNat : Int) = 43))))
    (some false)

noncomputable def strconv_underscoreOK_x1 (qx : List UInt8) : Option ((List UInt8)) :=
  (strconv_underscoreOK_x2 qx).bind fun vx1 =>
  cond (vx1)
    ((sub? qx 1 (qx.length : Int)).bind fun vs =>
    some vs)
    (some qx)

noncomputable def strconv_underscoreOK_x4 (vx2_1 : List UInt8) : Option (Bool) :=
  cond (decide (2 ≤ (vx2_1.length : Int)))
    ((at? vx2_1 0).bind fun vc1 =>
    cond (decide ((vc1.toNat : Int) = 48))
      ((at? vx2_1 1).bind fun vc2 =>
      (strconv_lower (vc2.toNat : Int)).bind fun _ =>
      cond (decide ((ibits .or .u8 (vc2.toNat : Int) 32) = 98))
        (some true)
        (cond (decide ((ibits .or .u8 (vc2.toNat : Int) 32) = 111))
          (some true)
          (some (decide ((ibits .or .u8 (vc2.toNat : Int) 32) = 120)))))
      (some false))
    (some false)

noncomputable def strconv_underscoreOK_x3 (vx2_1 : List UInt8) : Option ((Int × Int × Bool)) :=
  (strconv_underscoreOK_x4 vx2_1).bind fun vx3_1 =>
  cond (vx3_1)
    ((at? vx2_1 1).bind fun vc3 =>
    (strconv_lower (vc3.toNat : Int)).bind fun _ =>
    some (48, 2, decide ((ibits .or .u8 (vc3.toNat : Int) 32) = 120)))
    (some (94, 0, false))

noncomputable def strconv_underscoreOK_x7 (vx2_1 : List UInt8) (vx6_1 : Bool) (vx8 : Int) : Option (Bool) :=
  (at? vx2_1 vx8).bind fun vc6 =>
  cond (decide ((48 : Int) ≤ (vc6.toNat : Int)))
    (cond (decide ((vc6.toNat : Int) ≤ 57))
      (some true)
      (cond (vx6_1)
        ((strconv_lower (vc6.toNat : Int)).bind fun _ =>
        cond (decide ((97 : Int) ≤ (ibits .or .u8 (vc6.toNat : Int) 32)))
          (some (decide ((ibits .or .u8 (vc6.toNat : Int) 32) ≤ 102)))
          (some false))
        (some false)))
    (cond (vx6_1)
      ((strconv_lower (vc6.toNat : Int)).bind fun _ =>
      cond (decide ((97 : Int) ≤ (ibits .or .u8 (vc6.toNat : Int) 32)))
        (some (decide ((ibits .or .u8 (vc6.toNat : Int) 32) ≤ 102)))
        (some false))
      (some false))

noncomputable def strconv_underscoreOK_x6 (vx2_1 : List UInt8) (vx6_1 : Bool) (vx7 : Int) (vx8 : Int) : Option (Int ⊕ Unit) :=
  (strconv_underscoreOK_x7 vx2_1 vx6_1 vx8).bind fun vx11_1 =>
  cond (vx11_1)
    (some (.inl 48))
    ((at? vx2_1 vx8).bind fun vc7 =>
    cond (decide ((vc7.toNat : Int) = 95))
      (cond (!decide (vx7 = 48))
        (some (.inr ()))
        (some (.inl 95)))
      (cond (decide (vx7 = 95))
        (some (.inr ()))
        (some (.inl 33))))

noncomputable def strconv_underscoreOK_x5 (vx2_1 : List UInt8) (vx6_1 : Bool) : Int × Int → Option ((Int × Int) ⊕ (Int ⊕ Unit))
  | (vx7, vx8) =>
  cond (decide (vx8 < (vx2_1.length : Int)))
    ((strconv_underscoreOK_x6 vx2_1 vx6_1 vx7 vx8).bind fun x => match x with
      | .inl vx12_1 =>
        some (.inl (vx12_1, IntKind.wrap .i64 (vx8 + 1)))
      | .inr _ =>
        some (.inr (.inr ())))
    (some (.inr (.inl vx7)))

noncomputable def strconv_underscoreOK (qx : List UInt8) : Option (Bool) :=
  (strconv_underscoreOK_x1 qx).bind fun vx2_1 =>
  (strconv_underscoreOK_x3 vx2_1).bind fun (vx4_1, vx5_1, vx6_1) =>
  (loopO (strconv_underscoreOK_x5 vx2_1 vx6_1) (vx4_1, vx5_1)).bind fun x => match x with
    | .inl vx13_1 =>
      some (!decide (vx13_1 = 95))
    | .inr _ =>
      some false

/-! ### internal/strconv.ParseUint -/
noncomputable def strconv_ParseUint_x2 (qx1 : Int) : Option (Bool) :=
  cond (decide ((2 : Int) ≤ qx1))
    (some (decide (qx1 ≤ 36)))
    (some false)

noncomputable def strconv_ParseUint_x3 (qx : List UInt8) : Option (Bool) :=
  cond (decide (3 ≤ (qx.length : Int)))
    ((at? qx 1).bind fun vc1 =>
    (strconv_lower (vc1.toNat : Int)).bind fun _ =>
    some (decide ((ibits .or .u8 (vc1.toNat : Int) 32) = 98)))
    (some false)

noncomputable def strconv_ParseUint_x4 (qx : List UInt8) : Option (Bool) :=
  cond (decide (3 ≤ (qx.length : Int)))
    ((at? qx 1).bind fun vc2 =>
    (strconv_lower (vc2.toNat : Int)).bind fun _ =>
    some (decide ((ibits .or .u8 (vc2.toNat : Int) 32) = 111)))
    (some false)

noncomputable def strconv_ParseUint_x5 (qx : List UInt8) : Option (Bool) :=
  cond (decide (3 ≤ (qx.length : Int)))
    ((at? qx 1).bind fun vc3 =>
    (strconv_lower (vc3.toNat : Int)).bind fun _ =>
    some (decide ((ibits .or .u8 (vc3.toNat : Int) 32) = 120)))
    (some false)

noncomputable def strconv_ParseUint_x1 (qx : List UInt8) (qx1 : Int) : Option (((List UInt8) × Int)) :=
  (strconv_ParseUint_x2 qx1).bind fun vx1 =>
  cond (vx1)
    (some (qx, qx1))
    (cond (decide (qx1 = 0))
      ((at? qx 0).bind fun vc =>
      cond (decide ((vc.toNat : Int) = 48))
        ((strconv_ParseUint_x3 qx).bind fun vx2_1 =>
        cond (vx2_1)
          ((sub? qx 2 (qx.length : Int)).bind fun vs =>
          some (vs, 2))
          ((strconv_ParseUint_x4 qx).bind fun vx3_1 =>
          cond (vx3_1)
            ((sub? qx 2 (qx.length : Int)).bind fun vs1 =>
            some (vs1, 8))
            ((strconv_ParseUint_x5 qx).bind fun vx4_1 =>
            cond (vx4_1)
              ((sub? qx 2 (qx.length : Int)).bind fun vs2 =>
              some (vs2, 16))
              ((sub? qx 1 (qx.length : Int)).bind fun vs3 =>
              some (vs3, 8)))))
        (some (qx, 10)))
      (none))

noncomputable def strconv_ParseUint_x7 (qx2 : Int) : Option (Bool) :=
  cond (decide (qx2 < 0))
    (some true)
    (some (decide (64 < qx2)))

noncomputable def strconv_ParseUint_x6 (qx2 : Int) : Option (Int) :=
  cond (decide (qx2 = 0))
    (some 64)
    ((strconv_ParseUint_x7 qx2).bind fun vx7_1 =>
    cond (vx7_1)
      (none)
      (some qx2))

noncomputable def strconv_ParseUint_x8 (vx6_1 : Int) : Option (Int) :=
  cond (decide (vx6_1 = 10))
    (some 1844674407370955162)
    (cond (decide (vx6_1 = 16))
      (some 1152921504606846976)
      (gd (!((IntKind.wrap .u64 (vx6_1)) == 0)) <|
      some (IntKind.wrap .u64 ((IntKind.wrap .u64 ((18446744073709551615 : Int).tdiv (IntKind.wrap .u64 (vx6_1)))) + 1))))

noncomputable def strconv_ParseUint_x12 (qx1 : Int) (vy1 : Int) : Option (Bool) :=
  cond (decide (vy1 = 95))
    (some (decide (qx1 = 0)))
    (some false)

noncomputable def strconv_ParseUint_x13 (vy1 : Int) : Option (Bool) :=
  cond (decide ((48 : Int) ≤ vy1))
    (some (decide (vy1 ≤ 57)))
    (some false)

noncomputable def strconv_ParseUint_x14 (vy1 : Int) : Option (Bool) :=
  (strconv_lower vy1).bind fun _ =>
  cond (decide ((97 : Int) ≤ (ibits .or .u8 vy1 32)))
    (some (decide ((ibits .or .u8 vy1 32) ≤ 122)))
    (some false)

noncomputable def strconv_ParseUint_x11 (qx1 : Int) (vy1 : Int) : Option (Int ⊕ Unit) :=
  (strconv_ParseUint_x12 qx1 vy1).bind fun vx20_1 =>
  cond (vx20_1)
    (some (.inr ()))
    ((strconv_ParseUint_x13 vy1).bind fun vx21_1 =>
    cond (vx21_1)
      (some (.inl (IntKind.wrap .u8 (vy1 - 48))))
      ((strconv_ParseUint_x14 vy1).bind fun vx22_1 =>
      cond (vx22_1)
        ((strconv_lower vy1).bind fun _ =>
        some (.inl (IntKind.wrap .u8 ((IntKind.wrap .u8 ((ibits .or .u8 vy1 32) - 97)) + 10))))
        (none)))

noncomputable def strconv_ParseUint_x15 (vx6_1 : Int) (vx8_1 : Int) (vx11 : Int) (vx23_1 : Int) : Option (Bool) :=
  cond (decide ((IntKind.wrap .u64 ((IntKind.wrap .u64 (vx11 * (IntKind.wrap .u64 (vx6_1)))) + (IntKind.wrap .u64 (vx23_1)))) < (IntKind.wrap .u64 (vx11 * (IntKind.wrap .u64 (vx6_1))))))
    (some true)
    (some (decide ((IntKind.wrap .u64 ((ishl .u64 1 (IntKind.wrap .u64 (vx8_1))) - 1)) < (IntKind.wrap .u64 ((IntKind.wrap .u64 (vx11 * (IntKind.wrap .u64 (vx6_1)))) + (IntKind.wrap .u64 (vx23_1)))))))

noncomputable def strconv_ParseUint_x10 (qx1 : Int) (vx5_1 : List UInt8) (vx6_1 : Int) (vx8_1 : Int) (vx9_1 : Int) (vx10 : Bool) (vx11 : Int) (vx12 : Int) : Option ((Bool × Int)) :=
  (at? (bytesD vx5_1) vx12).bind fun vy1 =>
  (strconv_ParseUint_x11 qx1 vy1).bind fun x => match x with
    | .inl vx23_1 =>
      cond (decide ((IntKind.wrap .u8 (vx6_1)) ≤ vx23_1))
        (none)
        (cond (decide (vx9_1 ≤ vx11))
          (none)
          ((strconv_ParseUint_x15 vx6_1 vx8_1 vx11 vx23_1).bind fun vx24_1 =>
          cond (vx24_1)
            (none)
            (some (vx10, IntKind.wrap .u64 ((IntKind.wrap .u64 (vx11 * (IntKind.wrap .u64 (vx6_1)))) + (IntKind.wrap .u64 (vx23_1)))))))
    | .inr _ =>
      some (true, vx11)

noncomputable def strconv_ParseUint_x9 (qx1 : Int) (vx5_1 : List UInt8) (vx6_1 : Int) (vx8_1 : Int) (vx9_1 : Int) : Bool × Int × Int → Option ((Bool × Int × Int) ⊕ ((Bool × Int)))
  | (vx10, vx11, vx12) =>
  cond (decide (vx12 < ((bytesD vx5_1).length : Int)))
    ((strconv_ParseUint_x10 qx1 vx5_1 vx6_1 vx8_1 vx9_1 vx10 vx11 vx12).bind fun (vx25_1, vx26_1) =>
    some (.inl (vx25_1, vx26_1, IntKind.wrap .i64 (vx12 + 1))))
    (some (.inr (vx10, vx11)))

noncomputable def strconv_ParseUint_x16 (qx : List UInt8) (vx27_1 : Bool) : Option (Bool) :=
  cond (vx27_1)
    ((strconv_underscoreOK qx).bind fun vr =>
    some (!vr))
    (some false)

noncomputable def strconv_ParseUint (qx : List UInt8) (qx1 : Int) (qx2 : Int) : Option (Int) :=
  cond (decide (qx = ([] : List UInt8)))
    (none)
    ((strconv_ParseUint_x1 qx qx1).bind fun (vx5_1, vx6_1) =>
    (strconv_ParseUint_x6 qx2).bind fun vx8_1 =>
    (strconv_ParseUint_x8 vx6_1).bind fun vx9_1 =>
    gd (decide (0 ≤ (IntKind.wrap .u64 (vx8_1)))) <|
    (loopO (strconv_ParseUint_x9 qx1 vx5_1 vx6_1 vx8_1 vx9_1) (false, 0, 0)).bind fun (vx27_1, vx28_1) =>
    (strconv_ParseUint_x16 qx vx27_1).bind fun vx29_1 =>
    cond (vx29_1)
      (none)
      (some vx28_1))

/-! ### internal/strconv.ParseInt -/
noncomputable def strconv_ParseInt_x1 (qx : List UInt8) : Option (((List UInt8) × Bool)) :=
  (at? qx 0).bind fun vc =>
  cond (decide ((vc.toNat : Int) = 43))
    ((sub? qx 1 (qx.length : Int)).bind fun vs =>
    some (vs, false))
    (cond (decide ((vc.toNat : Int) = 45))
      ((sub? qx 1 (qx.length : Int)).bind fun vs1 =>
      some (vs1, true))
      (some (qx, false)))

noncomputable def strconv_ParseInt_x2 (qx2 : Int) : Option (Int) :=
  cond (decide (qx2 = 0))
    (some 64)
    (some qx2)

noncomputable def strconv_ParseInt_x3 (vx1_1 : Bool) (vr1 : Int) (vx3_1 : Int) : Option (Bool) :=
  cond (!vx1_1)
    (some (decide ((ishl .u64 1 (IntKind.wrap .u64 (IntKind.wrap .i64 (vx3_1 - 1)))) ≤ vr1)))
    (some false)

noncomputable def strconv_ParseInt_x4 (vx1_1 : Bool) (vr1 : Int) (vx3_1 : Int) : Option (Bool) :=
  cond (vx1_1)
    (some (decide ((ishl .u64 1 (IntKind.wrap .u64 (IntKind.wrap .i64 (vx3_1 - 1)))) < vr1)))
    (some false)

noncomputable def strconv_ParseInt_x5 (vx1_1 : Bool) (vr1 : Int) : Option (Int) :=
  cond (vx1_1)
    (some (IntKind.wrap .i64 (0 - (IntKind.wrap .i64 (vr1)))))
    (some (IntKind.wrap .i64 (vr1)))

noncomputable def strconv_ParseInt (qx : List UInt8) (qx1 : Int) (qx2 : Int) : Option (Int) :=
  cond (decide (qx = ([] : List UInt8)))
    (none)
    ((strconv_ParseInt_x1 qx).bind fun (vx2, vx1_1) =>
    (strconv_ParseUint vx2 qx1 qx2).bind fun vr1 =>
    (strconv_ParseInt_x2 qx2).bind fun vx3_1 =>
    gd (decide (0 ≤ (IntKind.wrap .u64 (IntKind.wrap .i64 (vx3_1 - 1))))) <|
    (strconv_ParseInt_x3 vx1_1 vr1 vx3_1).bind fun vx4_1 =>
    cond (vx4_1)
      (none)
      ((strconv_ParseInt_x4 vx1_1 vr1 vx3_1).bind fun vx5_1 =>
      cond (vx5_1)
        (none)
        ((strconv_ParseInt_x5 vx1_1 vr1).bind fun vx6_1 =>
        some vx6_1)))

/-! ### internal/strconv.Atoi -/
noncomputable def strconv_Atoi_2_x1 (qx : List UInt8) : Option (Bool) :=
  cond (decide ((0 : Int) < (qx.length : Int)))
    (some (decide ((qx.length : Int) < 19)))
    (some false)

noncomputable def strconv_Atoi_2_x3 (qx : List UInt8) : Option (Bool) :=
  (at? qx 0).bind fun vc =>
  cond (decide ((vc.toNat : Int) = 45))
    (some true)
    (some (decide ((vc.toNat : Int) = 43)))

noncomputable def strconv_Atoi_2_x2 (qx : List UInt8) : Option ((List UInt8)) :=
  (strconv_Atoi_2_x3 qx).bind fun vx2_1 =>
  cond (vx2_1)
    ((sub? qx 1 (qx.length : Int)).bind fun vs =>
    cond (decide ((vs.length : Int) < 1))
      (none)
      (some vs))
    (some qx)

noncomputable def strconv_Atoi_2_x4 (vx3_1 : List UInt8) : Int × Int → Option ((Int × Int) ⊕ (Int))
  | (vx4, vx5) =>
  cond (decide (vx5 < ((bytesD vx3_1).length : Int)))
    ((at? (bytesD vx3_1) vx5).bind fun vy1 =>
    cond (decide (9 < (IntKind.wrap .u8 (vy1 - 48))))
      (none)
      (some (.inl (IntKind.wrap .i64 ((IntKind.wrap .i64 (vx4 * 10)) + (IntKind.wrap .i64 (IntKind.wrap .u8 (vy1 - 48)))), IntKind.wrap .i64 (vx5 + 1)))))
    (some (.inr vx4))

noncomputable def strconv_Atoi_2_x5 (qx : List UInt8) (vx6_1 : Int) : Option (Int) :=
  (at? qx 0).bind fun vc1 =>
  cond (decide ((vc1.toNat : Int) = 45))
    (some (IntKind.wrap .i64 (0 - vx6_1)))
    (some vx6_1)

noncomputable def strconv_Atoi_2 (qx : List UInt8) : Option (Int) :=
  (strconv_Atoi_2_x1 qx).bind fun vx1 =>
  cond (vx1)
    ((strconv_Atoi_2_x2 qx).bind fun vx3_1 =>
    (loopO (strconv_Atoi_2_x4 vx3_1) (0, 0)).bind fun vx6_1 =>
    (strconv_Atoi_2_x5 qx vx6_1).bind fun vx7_1 =>
    some vx7_1)
    ((strconv_ParseInt qx 10 0).bind fun vr =>
    some vr)

/-! ### strconv.Atoi -/
noncomputable def strconv_Atoi (qs : List UInt8) : Option (Int) :=
  (strconv_Atoi_2 qs).bind fun vr1 =>
  some vr1

/-! ### beaconfleet/base.Number -/
noncomputable def base_Number_x1 (qs : List UInt8) (qdigits : Int) (vr : List UInt8) : Option (Bool) :=
  cond (decide (vr = ([] : List UInt8)))
    (some true)
    (cond (decide (qdigits < (vr.length : Int)))
      (some true)
      ((at? vr 0).bind fun vc =>
      cond (decide ((vc.toNat : Int) = 48))
        (cond (decide (1 < (vr.length : Int)))
          (some true)
          (some (decide ((vr.length : Int) < (qs.length : Int)))))
        (some false)))

noncomputable def base_Number_x3 (vr : List UInt8) (vx2 : Int) : Option (Bool) :=
  (at? vr vx2).bind fun vc2 =>
  cond (decide ((vc2.toNat : Int) < 48))
    (some true)
    (some (decide (57 < (vc2.toNat : Int))))

noncomputable def base_Number_x2 (vr : List UInt8) (vx2 : Int) : Option ((Int) ⊕ (Unit ⊕ Unit)) :=
  cond (decide (vx2 < (vr.length : Int)))
    ((base_Number_x3 vr vx2).bind fun vx4_1 =>
    cond (vx4_1)
      (some (.inr (.inr ())))
      (some (.inl (IntKind.wrap .i64 (vx2 + 1)))))
    (some (.inr (.inl ())))

noncomputable def base_Number (qs : List UInt8) (qdigits : Int) : Option (Int × Bool) :=
  (strings_TrimPrefix qs ([45] : List UInt8)).bind fun vr =>
  (base_Number_x1 qs qdigits vr).bind fun vx1 =>
  cond (vx1)
    (some (0, false))
    ((loopO (base_Number_x2 vr) 0).bind fun x => match x with
      | .inl _ =>
        (strconv_Atoi qs).bind fun vr1 =>
        some (vr1, true)
      | .inr _ =>
        some (0, false))

/-! ### beaconfleet/base.Numbers -/
noncomputable def base_Numbers_o0_x1 (qwords : List (List UInt8)) (qdigits : Int) : (List Int) × Int → Option (((List Int) × Int) ⊕ ((List Int) ⊕ Unit))
  | (vout, vx) =>
  cond (decide (vx < (qwords.length : Int)))
    ((at? qwords vx).bind fun vy1 =>
    (base_Number vy1 qdigits).bind fun (vr2_1, vr3_1) =>
    cond (!vr3_1)
      (some (.inr (.inr ())))
      (gd (Nat.ble (vout.length + ([vr2_1] : List Int).length) LIM) <|
      some (.inl (vout ++ ([vr2_1] : List Int), IntKind.wrap .i64 (vx + 1)))))
    (some (.inr (.inl vout)))

noncomputable def base_Numbers_o0 (qwords : List (List UInt8)) (qdigits : Int) : Option ((List Int) × Bool) :=
  (loopO (base_Numbers_o0_x1 qwords qdigits) ([], 0)).bind fun x => match x with
    | .inl vout1_1 =>
      some (vout1_1, true)
    | .inr _ =>
      some ([], false)

/-! ### beaconfleet/base.Version -/
noncomputable def base_Version_x1 (qv : api_Version) : Option (Bool) :=
  (base_Out qv.Major 0 9999).bind fun vr =>
  cond (!vr)
    ((base_Out qv.Minor 0 9999).bind fun vr1 =>
    cond (!vr1)
      ((base_Out qv.Patch 0 9999).bind fun vr2 =>
      some (!vr2))
      (some false))
    (some false)

noncomputable def base_Version (qv : api_Version) : Option (Bool) :=
  (base_Version_x1 qv).bind fun vx1 =>
  some vx1

/-! ### beaconfleet/campaign.ParseVersion -/
noncomputable def campaign_ParseVersion_x1 (vr : List Int) (vr1_1 : Bool) : Option (Bool) :=
  cond (!vr1_1)
    (some true)
    (some (!decide ((vr.length : Int) = 3)))

noncomputable def campaign_ParseVersion (qs : List UInt8) : Option (api_Version × Int) :=
  (strings_Split qs ([46] : List UInt8)).bind fun vr1 =>
  (base_Numbers_o0 vr1 4).bind fun (vr, vr1_1) =>
  (campaign_ParseVersion_x1 vr vr1_1).bind fun vx1 =>
  cond (vx1)
    (some (api_Version.mk 0 0 0, 9))
    ((at? vr 0).bind fun vy =>
    (at? vr 1).bind fun vy1 =>
    (at? vr 2).bind fun vy2 =>
    (base_Version (api_Version.mk vy vy1 vy2)).bind fun vr3 =>
    cond (!vr3)
      (some (api_Version.mk 0 0 0, 9))
      (some (api_Version.mk vy vy1 vy2, 0)))

/-! ### beaconfleet/place.Cell -/
noncomputable def place_Cell_x1 (qs : api_Spot) (qlevel : Int) : Option (Bool) :=
  (place_isSpot qs).bind fun vr2 =>
  cond (!vr2)
    (some true)
    ((base_Out qlevel 0 15).bind fun vr =>
    some vr)

noncomputable def place_Cell_x2 (qs : api_Spot) (qlevel : Int) : (List Int) × Int × Int → Option (((List Int) × Int × Int) ⊕ ((List Int)))
  | (vout, vlong, vx2) =>
  cond (decide (vx2 < qlevel))
    (gd (!((IntKind.wrap .i64 (vlong.tdiv 2)) == 0)) <|
    gd (Nat.ble (vout.length + ([IntKind.wrap .u8 ((IntKind.wrap .u8 ((48 : Int) + (IntKind.wrap .u8 ((IntKind.wrap .i64 ((IntKind.wrap .i64 (qs.X - (-16384))).tdiv (IntKind.wrap .i64 (vlong.tdiv 2)))).tmod 2)))) + (IntKind.wrap .u8 ((2 : Int) * (IntKind.wrap .u8 ((IntKind.wrap .i64 ((IntKind.wrap .i64 (qs.Y - (-16384))).tdiv (IntKind.wrap .i64 (vlong.tdiv 2)))).tmod 2)))))] : List Int).length) LIM) <|
    some (.inl (vout ++ ([IntKind.wrap .u8 ((IntKind.wrap .u8 ((48 : Int) + (IntKind.wrap .u8 ((IntKind.wrap .i64 ((IntKind.wrap .i64 (qs.X - (-16384))).tdiv (IntKind.wrap .i64 (vlong.tdiv 2)))).tmod 2)))) + (IntKind.wrap .u8 ((2 : Int) * (IntKind.wrap .u8 ((IntKind.wrap .i64 ((IntKind.wrap .i64 (qs.Y - (-16384))).tdiv (IntKind.wrap .i64 (vlong.tdiv 2)))).tmod 2)))))] : List Int), IntKind.wrap .i64 (vlong.tdiv 2), IntKind.wrap .i64 (vx2 + 1))))
    (some (.inr vout))

noncomputable def place_Cell (qs : api_Spot) (qlevel : Int) : Option ((List UInt8) × Int) :=
  (place_Cell_x1 qs qlevel).bind fun vx1 =>
  cond (vx1)
    (some (([] : List UInt8), 1))
    ((loopO (place_Cell_x2 qs qlevel) ([], 32768, 0)).bind fun vout1_1 =>
    some (vout1_1.map fun n => UInt8.ofNat n.toNat, 0))

/-! ### slices.Equal[[]byte,byte] -/
noncomputable def slices_Equal_byte_byte_x1 (qs1 : List Int) (qs2 : List Int) (vx : Int) : Option ((Int) ⊕ (Unit ⊕ Unit)) :=
  cond (decide (vx < (qs1.length : Int)))
    ((at? qs1 vx).bind fun vy2 =>
    (at? qs2 vx).bind fun vy3 =>
    cond (!decide (vy2 = vy3))
      (some (.inr (.inr ())))
      (some (.inl (IntKind.wrap .i64 (vx + 1)))))
    (some (.inr (.inl ())))

noncomputable def slices_Equal_byte_byte (qs1 : List Int) (qs2 : List Int) : Option (Bool) :=
  cond (!decide ((qs1.length : Int) = (qs2.length : Int)))
    (some false)
    ((loopO (slices_Equal_byte_byte_x1 qs1 qs2) 0).bind fun x => match x with
      | .inl _ =>
        some true
      | .inr _ =>
        some false)

/-! ### cmp.Less[int] -/
noncomputable def cmp_Less_int_x1 (qx : Int) (qy : Int) : Option (Bool) :=
  (cmp_isNaN_int qx).bind fun _ =>
  cond (!decide (qx = qx))
    ((cmp_isNaN_int qy).bind fun _ =>
    cond (!(!decide (qy = qy)))
      (some true)
      (some (decide (qx < qy))))
    (some (decide (qx < qy)))

noncomputable def cmp_Less_int (qx : Int) (qy : Int) : Option (Bool) :=
  (cmp_Less_int_x1 qx qy).bind fun vx1 =>
  some vx1

/-! ### slices.IsSorted[[]int,int] -/
noncomputable def slices_IsSorted_int_int_x1 (qx : List Int) (vi : Int) : Option ((Int) ⊕ (Unit ⊕ Unit)) :=
  cond (decide (0 < vi))
    ((at? qx vi).bind fun vy2 =>
    (at? qx (IntKind.wrap .i64 (vi - 1))).bind fun vy3 =>
    (cmp_Less_int vy2 vy3).bind fun vr1 =>
    cond (vr1)
      (some (.inr (.inr ())))
      (some (.inl (IntKind.wrap .i64 (vi - 1)))))
    (some (.inr (.inl ())))

noncomputable def slices_IsSorted_int_int (qx : List Int) : Option (Bool) :=
  (loopO (slices_IsSorted_int_int_x1 qx) (IntKind.wrap .i64 ((qx.length : Int) - 1))).bind fun x => match x with
    | .inl _ =>
      some true
    | .inr _ =>
      some false

/-! ### beaconfleet/fleetkeep2.TracksStayPlain$1 -/
noncomputable def fleetkeep2_TracksStayPlain_1 (qj : Int) (qx : Int) : Option (Unit) :=
  some ()

/-! ### slices.IndexFunc[[]int,int] -/
noncomputable def slices_IndexFunc_int_int_f1_fleetkeep2_TracksStayPlain_1_x1 (qs : List Int) (qf : Int) (vx : Int) : Option ((Int) ⊕ (Unit ⊕ Int)) :=
  cond (decide (vx < (qs.length : Int)))
    ((at? qs vx).bind fun vy1 =>
    (fleetkeep2_TracksStayPlain_1 vy1 qf).bind fun _ =>
    cond (decide (qf ≤ vy1))
      (some (.inr (.inr vx)))
      (some (.inl (IntKind.wrap .i64 (vx + 1)))))
    (some (.inr (.inl ())))

noncomputable def slices_IndexFunc_int_int_f1_fleetkeep2_TracksStayPlain_1 (qs : List Int) (qf : Int) : Option (Int) :=
  (loopO (slices_IndexFunc_int_int_f1_fleetkeep2_TracksStayPlain_1_x1 qs qf) 0).bind fun x => match x with
    | .inl _ =>
      some (-1)
    | .inr vx1_1 =>
      some vx1_1

/-! ### beaconfleet/fleetkeep2.nearWay -/
noncomputable def fleetkeep2_nearWay (qx : api_Fix) (qx1 : api_Fix) (qx2 : api_Fix) (qx3 : Int) : Option (Bool) :=
  cond (decide ((IntKind.wrap .i64 ((IntKind.wrap .i64 ((IntKind.wrap .i64 (qx2.X - qx.X)) * (IntKind.wrap .i64 (qx1.X - qx.X)))) + (IntKind.wrap .i64 ((IntKind.wrap .i64 (qx2.Y - qx.Y)) * (IntKind.wrap .i64 (qx1.Y - qx.Y)))))) ≤ 0))
    (some (decide ((IntKind.wrap .i64 ((IntKind.wrap .i64 ((IntKind.wrap .i64 (qx2.X - qx.X)) * (IntKind.wrap .i64 (qx2.X - qx.X)))) + (IntKind.wrap .i64 ((IntKind.wrap .i64 (qx2.Y - qx.Y)) * (IntKind.wrap .i64 (qx2.Y - qx.Y)))))) ≤ (IntKind.wrap .i64 (qx3 * qx3)))))
    (cond (decide ((IntKind.wrap .i64 ((IntKind.wrap .i64 ((IntKind.wrap .i64 (qx1.X - qx.X)) * (IntKind.wrap .i64 (qx1.X - qx.X)))) + (IntKind.wrap .i64 ((IntKind.wrap .i64 (qx1.Y - qx.Y)) * (IntKind.wrap .i64 (qx1.Y - qx.Y)))))) ≤ (IntKind.wrap .i64 ((IntKind.wrap .i64 ((IntKind.wrap .i64 (qx2.X - qx.X)) * (IntKind.wrap .i64 (qx1.X - qx.X)))) + (IntKind.wrap .i64 ((IntKind.wrap .i64 (qx2.Y - qx.Y)) * (IntKind.wrap .i64 (qx1.Y - qx.Y))))))))
      (some (decide ((IntKind.wrap .i64 ((IntKind.wrap .i64 ((IntKind.wrap .i64 (qx2.X - qx1.X)) * (IntKind.wrap .i64 (qx2.X - qx1.X)))) + (IntKind.wrap .i64 ((IntKind.wrap .i64 (qx2.Y - qx1.Y)) * (IntKind.wrap .i64 (qx2.Y - qx1.Y)))))) ≤ (IntKind.wrap .i64 (qx3 * qx3)))))
      (some (decide ((IntKind.wrap .i64 ((IntKind.wrap .i64 ((IntKind.wrap .i64 ((IntKind.wrap .i64 (qx1.X - qx.X)) * (IntKind.wrap .i64 (qx2.Y - qx.Y)))) - (IntKind.wrap .i64 ((IntKind.wrap .i64 (qx1.Y - qx.Y)) * (IntKind.wrap .i64 (qx2.X - qx.X)))))) * (IntKind.wrap .i64 ((IntKind.wrap .i64 ((IntKind.wrap .i64 (qx1.X - qx.X)) * (IntKind.wrap .i64 (qx2.Y - qx.Y)))) - (IntKind.wrap .i64 ((IntKind.wrap .i64 (qx1.Y - qx.Y)) * (IntKind.wrap .i64 (qx2.X - qx.X)))))))) ≤ (IntKind.wrap .i64 ((IntKind.wrap .i64 (qx3 * qx3)) * (IntKind.wrap .i64 ((IntKind.wrap .i64 ((IntKind.wrap .i64 (qx1.X - qx.X)) * (IntKind.wrap .i64 (qx1.X - qx.X)))) + (IntKind.wrap .i64 ((IntKind.wrap .i64 (qx1.Y - qx.Y)) * (IntKind.wrap .i64 (qx1.Y - qx.Y))))))))))))

/-! ### beaconfleet/twin.CheckProps -/
noncomputable def twin_CheckProps_n0_x1 : Unit → Option ((Unit) ⊕ (Unit))
  | _ =>
  cond (decide ((0 : Int) < 0))
    (none)
    (some (.inr ()))

noncomputable def twin_CheckProps_n0_x2 : Unit → Option ((Unit) ⊕ (Unit))
  | _ =>
  cond (decide ((0 : Int) < 0))
    (none)
    (some (.inr ()))

noncomputable def twin_CheckProps_n0 : Option (Int) :=
  cond (decide (500 < (0 : Int)))
    (some 2)
    ((loopO twin_CheckProps_n0_x1 ()).bind fun _ =>
    (loopO twin_CheckProps_n0_x2 ()).bind fun _ =>
    some 0)

/-! ### internal/stringslite.Cut -/
noncomputable def stringslite_Cut (qs : List UInt8) (qsep : List UInt8) : Option ((List UInt8) × (List UInt8) × Bool) :=
  (stringslite_Index qs qsep).bind fun vr =>
  cond (decide (0 ≤ vr))
    ((sub? qs 0 vr).bind fun vs =>
    (sub? qs (IntKind.wrap .i64 (vr + (qsep.length : Int))) (qs.length : Int)).bind fun vs1 =>
    some (vs, vs1, true))
    (some (qs, ([] : List UInt8), false))

/-! ### strings.Cut -/
noncomputable def strings_Cut (qs : List UInt8) (qsep : List UInt8) : Option ((List UInt8) × (List UInt8) × Bool) :=
  (stringslite_Cut qs qsep).bind fun (vr1, vr2, vr3) =>
  some (vr1, vr2, vr3)

/-! ### beaconfleet/base.Dotted -/
noncomputable def base_Dotted_x1 (qmost : Int) : (List UInt8) × Int → Option (((List UInt8) × Int) ⊕ (Unit ⊕ Bool))
  | (vs, vn) =>
  cond (decide (vn < qmost))
    ((strings_Cut vs ([46] : List UInt8)).bind fun (vr2, vr4_1, vr5_1) =>
    (base_Key vr2).bind fun vr3 =>
    cond (!vr3)
      (some (.inr (.inr false)))
      (cond (!vr5_1)
        (some (.inr (.inr true)))
        (some (.inl (vr4_1, IntKind.wrap .i64 (vn + 1))))))
    (some (.inr (.inl ())))

noncomputable def base_Dotted (qs : List UInt8) (qmost : Int) : Option (Bool) :=
  (loopO (base_Dotted_x1 qmost) (qs, 0)).bind fun x => match x with
    | .inl _ =>
      some false
    | .inr vx1 =>
      some vx1

/-! ### beaconfleet/twin.isName -/
noncomputable def twin_isName (qs : List UInt8) : Option (Bool) :=
  (base_Dotted qs 8).bind fun vr6 =>
  some vr6

/-! ### unicode/utf8.word[string] -/
noncomputable def utf8_word_string (qs : List UInt8) : Option (Int) :=
  (at? qs 0).bind fun vc =>
  (at? qs 1).bind fun vc1 =>
  (at? qs 2).bind fun vc2 =>
  (at? qs 3).bind fun vc3 =>
  (at? qs 4).bind fun vc4 =>
  (at? qs 5).bind fun vc5 =>
  (at? qs 6).bind fun vc6 =>
  (at? qs 7).bind fun vc7 =>
  some (ibits .or .u64 (ibits .or .u64 (ibits .or .u64 (ibits .or .u64 (ibits .or .u64 (ibits .or .u64 (ibits .or .u64 (IntKind.wrap .u64 ((vc.toNat : Int))) (ishl .u64 (IntKind.wrap .u64 ((vc1.toNat : Int))) 8)) (ishl .u64 (IntKind.wrap .u64 ((vc2.toNat : Int))) 16)) (ishl .u64 (IntKind.wrap .u64 ((vc3.toNat : Int))) 24)) (ishl .u64 (IntKind.wrap .u64 ((vc4.toNat : Int))) 32)) (ishl .u64 (IntKind.wrap .u64 ((vc5.toNat : Int))) 40)) (ishl .u64 (IntKind.wrap .u64 ((vc6.toNat : Int))) 48)) (ishl .u64 (IntKind.wrap .u64 ((vc7.toNat : Int))) 56))

/-! ### unicode/utf8.ValidString -/
noncomputable def utf8_ValidString_x3 (vs12 : List UInt8) : Option (Bool) :=
  cond (decide (8 < (vs12.length : Int)))
    ((utf8_word_string vs12).bind fun vr11 =>
    some (decide ((ibits .and .u64 vr11 9259542123273814144) = 0)))
    (some false)

noncomputable def utf8_ValidString_x4 (vs13 : List UInt8) : Option (Bool) :=
  cond (decide (16 < (vs13.length : Int)))
    ((utf8_word_string vs13).bind fun vr12 =>
    (sub? vs13 8 (vs13.length : Int)).bind fun vs14 =>
    (utf8_word_string vs14).bind fun vr13 =>
    some (decide ((ibits .and .u64 (ibits .or .u64 vr12 vr13) 9259542123273814144) = 0)))
    (some false)

noncomputable def utf8_ValidString_x6 (vx10 : List UInt8) : Option (Bool) :=
  cond (decide (32 < (vx10.length : Int)))
    ((utf8_word_string vx10).bind fun vr18 =>
    (sub? vx10 8 (vx10.length : Int)).bind fun vs20 =>
    (utf8_word_string vs20).bind fun vr19 =>
    (sub? vx10 16 (vx10.length : Int)).bind fun vs21 =>
    (utf8_word_string vs21).bind fun vr20 =>
    (sub? vx10 24 (vx10.length : Int)).bind fun vs22 =>
    (utf8_word_string vs22).bind fun vr21 =>
    some (decide ((ibits .and .u64 (ibits .or .u64 (ibits .or .u64 vr18 vr19) (ibits .or .u64 vr20 vr21)) 9259542123273814144) = 0)))
    (some false)

noncomputable def utf8_ValidString_x5 (vx10 : List UInt8) : Option (((List UInt8)) ⊕ ((List UInt8))) :=
  (utf8_ValidString_x6 vx10).bind fun vx12_1 =>
  cond (vx12_1)
    ((sub? vx10 32 (vx10.length : Int)).bind fun vs23 =>
    some (.inl vs23))
    (some (.inr vx10))

noncomputable def utf8_ValidString_x2 (vs12 : List UInt8) : Option ((List UInt8)) :=
  (utf8_ValidString_x3 vs12).bind fun vx8_1 =>
  cond (vx8_1)
    ((sub? vs12 8 (vs12.length : Int)).bind fun vs13 =>
    (utf8_ValidString_x4 vs13).bind fun vx9_1 =>
    cond (vx9_1)
      ((sub? vs13 16 (vs13.length : Int)).bind fun vs15 =>
      (loopO utf8_ValidString_x5 vs15).bind fun vx13_1 =>
      some vx13_1)
      (some vs13))
    (some vs12)

noncomputable def utf8_ValidString_x1 (vx : List UInt8) : Option (((List UInt8)) ⊕ (Unit)) :=
  cond (decide (0 < (vx.length : Int)))
    ((at? vx 0).bind fun vc1 =>
    cond (decide ((vc1.toNat : Int) < 128))
      ((sub? vx 1 (vx.length : Int)).bind fun vs12 =>
      (utf8_ValidString_x2 vs12).bind fun vx14_1 =>
      some (.inl vx14_1))
      (none))
    (some (.inr ()))

noncomputable def utf8_ValidString (qx : List UInt8) : Option (Unit) :=
  (loopO utf8_ValidString_x1 qx).bind fun _ =>
  some ()

/-! ### beaconfleet/base.Unmarked -/
noncomputable def base_Unmarked_x2 (qs : List UInt8) (vx : Int) : Option (Bool) :=
  (at? qs vx).bind fun vc1 =>
  cond (decide ((vc1.toNat : Int) < 32))
    (some true)
    (some (decide ((vc1.toNat : Int) = 127)))

noncomputable def base_Unmarked_x1 (qs : List UInt8) (vx : Int) : Option ((Int) ⊕ (Unit ⊕ Unit)) :=
  cond (decide (vx < (qs.length : Int)))
    ((base_Unmarked_x2 qs vx).bind fun vx2_1 =>
    cond (vx2_1)
      (some (.inr (.inr ())))
      (some (.inl (IntKind.wrap .i64 (vx + 1)))))
    (some (.inr (.inl ())))

noncomputable def base_Unmarked (qs : List UInt8) : Option (Bool) :=
  (loopO (base_Unmarked_x1 qs) 0).bind fun x => match x with
    | .inl _ =>
      (utf8_ValidString qs).bind fun _ =>
      some true
    | .inr _ =>
      some false

/-! ### beaconfleet/twin.valueFault -/
noncomputable def twin_valueFault_x1 (qv : api_Value) : Option (api_Value ⊕ Unit) :=
  cond (decide (qv.Kind = 0))
    (some (.inl (api_Value.mk qv.Kind false 0 ([] : List UInt8))))
    (cond (decide (qv.Kind = 1))
      (some (.inl (api_Value.mk qv.Kind qv.Flag 0 ([] : List UInt8))))
      (cond (decide (qv.Kind = 2))
        (some (.inl (api_Value.mk qv.Kind false qv.Number ([] : List UInt8))))
        (cond (decide (qv.Kind = 3))
          (some (.inl (api_Value.mk qv.Kind false 0 qv.Words)))
          (some (.inr ())))))

noncomputable def twin_valueFault (qv : api_Value) : Option (Int) :=
  (twin_valueFault_x1 qv).bind fun x => match x with
    | .inl vused1 =>
      cond (!(decide (qv.Kind = vused1.Kind) && ((qv.Flag == vused1.Flag) && (decide (qv.Number = vused1.Number) && (decide (qv.Words = vused1.Words) && true)))))
        (some 3)
        ((base_Out qv.Number (-1000000000) 1000000000).bind fun vr =>
        cond (vr)
          (some 1)
          (cond (decide (1000 < (qv.Words.length : Int)))
            (some 2)
            ((base_Unmarked qv.Words).bind fun vr1 =>
            cond (!vr1)
              (some 3)
              (some 0))))
    | .inr _ =>
      some 4

/-! ### beaconfleet/twin.find$1 -/
noncomputable def twin_find_1 (qp : api_Prop) (qname : List UInt8) : Option (Unit) :=
  (strings_Compare qp.Name qname).bind fun _ =>
  some ()

/-! ### slices.BinarySearchFunc[[]beaconfleet/api.Prop,beaconfleet/api.Prop,string] -/
noncomputable def slices_BinarySearchFunc_api_Prop_api_Prop_string_f2_twin_find_1_x1 (qx : List api_Prop) (qtarget : List UInt8) : Int × Int → Option ((Int × Int) ⊕ (Int))
  | (vi, vj) =>
  cond (decide (vi < vj))
    ((at? qx (IntKind.wrap .i64 (ishr .u64 (IntKind.wrap .u64 (IntKind.wrap .i64 (vi + vj))) 1))).bind fun vy1 =>
    (twin_find_1 (api_Prop.mk vy1.Name (api_Value.mk vy1.Value.Kind vy1.Value.Flag vy1.Value.Number vy1.Value.Words)) qtarget).bind fun _ =>
    cond (decide ((Lib.compareBytes vy1.Name qtarget) < 0))
      (some (.inl (IntKind.wrap .i64 ((IntKind.wrap .i64 (ishr .u64 (IntKind.wrap .u64 (IntKind.wrap .i64 (vi + vj))) 1)) + 1), vj)))
      (some (.inl (vi, IntKind.wrap .i64 (ishr .u64 (IntKind.wrap .u64 (IntKind.wrap .i64 (vi + vj))) 1)))))
    (some (.inr vi))

noncomputable def slices_BinarySearchFunc_api_Prop_api_Prop_string_f2_twin_find_1_x2 (qx : List api_Prop) (qtarget : List UInt8) (vi1_1 : Int) : Option (Bool) :=
  cond (decide (vi1_1 < (qx.length : Int)))
    ((at? qx vi1_1).bind fun vy2 =>
    (twin_find_1 (api_Prop.mk vy2.Name (api_Value.mk vy2.Value.Kind vy2.Value.Flag vy2.Value.Number vy2.Value.Words)) qtarget).bind fun _ =>
    some (decide ((Lib.compareBytes vy2.Name qtarget) = 0)))
    (some false)

noncomputable def slices_BinarySearchFunc_api_Prop_api_Prop_string_f2_twin_find_1 (qx : List api_Prop) (qtarget : List UInt8) : Option (Int × Bool) :=
  (loopO (slices_BinarySearchFunc_api_Prop_api_Prop_string_f2_twin_find_1_x1 qx qtarget) (0, (qx.length : Int))).bind fun vi1_1 =>
  (slices_BinarySearchFunc_api_Prop_api_Prop_string_f2_twin_find_1_x2 qx qtarget vi1_1).bind fun vx1 =>
  some (vi1_1, vx1)

/-! ### beaconfleet/twin.find -/
noncomputable def twin_find (ql : List api_Prop) (qname : List UInt8) : Option (Int) :=
  (slices_BinarySearchFunc_api_Prop_api_Prop_string_f2_twin_find_1 ql qname).bind fun (vr, vr1) =>
  cond (!vr1)
    (some (-1))
    (some vr)

/-! ### beaconfleet/twin.CheckProps$1 -/
noncomputable def twin_CheckProps_1 (qs : List UInt8) (qx : List api_Prop) : Option (Bool) :=
  (twin_find qx qs).bind fun vr2 =>
  some (decide (0 ≤ vr2))

/-! ### beaconfleet/twin.above -/
noncomputable def twin_above_f1_twin_CheckProps_1_x2 (qname : List UInt8) (qf : List api_Prop) (vx : Int) : Option (Bool) :=
  (at? qname vx).bind fun vc1 =>
  cond (decide ((vc1.toNat : Int) = 46))
    ((sub? qname 0 vx).bind fun vs1 =>
    (twin_CheckProps_1 vs1 qf).bind fun vr1 =>
    some vr1)
    (some false)

noncomputable def twin_above_f1_twin_CheckProps_1_x1 (qname : List UInt8) (qf : List api_Prop) (vx : Int) : Option ((Int) ⊕ (Unit ⊕ Unit)) :=
  cond (decide (vx < (qname.length : Int)))
    ((twin_above_f1_twin_CheckProps_1_x2 qname qf vx).bind fun vx2_1 =>
    cond (vx2_1)
      (some (.inr (.inr ())))
      (some (.inl (IntKind.wrap .i64 (vx + 1)))))
    (some (.inr (.inl ())))

noncomputable def twin_above_f1_twin_CheckProps_1 (qname : List UInt8) (qf : List api_Prop) : Option (Bool) :=
  (loopO (twin_above_f1_twin_CheckProps_1_x1 qname qf) 0).bind fun x => match x with
    | .inl _ =>
      some false
    | .inr _ =>
      some true

/-! ### beaconfleet/twin.CheckProps -/
noncomputable def twin_CheckProps_x2 (ql : List api_Prop) (vx : Int) (vy2 : api_Prop) : Option (Bool) :=
  cond (decide (0 < vx))
    ((at? ql (IntKind.wrap .i64 (vx - 1))).bind fun vy3 =>
    some (Op.bytesLess vy2.Name vy3.Name || decide (vy2.Name = vy3.Name)))
    (some false)

noncomputable def twin_CheckProps_x1 (ql : List api_Prop) (vx : Int) : Option ((Int) ⊕ (Unit ⊕ Int)) :=
  cond (decide (vx < (ql.length : Int)))
    ((at? ql vx).bind fun vy2 =>
    (twin_isName vy2.Name).bind fun vr1 =>
    cond (!vr1)
      (some (.inr (.inr 5)))
      ((twin_valueFault (api_Value.mk vy2.Value.Kind vy2.Value.Flag vy2.Value.Number vy2.Value.Words)).bind fun vr2_1 =>
      cond (!decide (vr2_1 = 0))
        (some (.inr (.inr vr2_1)))
        (cond (decide (vy2.Value.Kind = 0))
          (some (.inr (.inr 4)))
          ((twin_CheckProps_x2 ql vx vy2).bind fun vx2_1 =>
          cond (vx2_1)
            (some (.inr (.inr 7)))
            (some (.inl (IntKind.wrap .i64 (vx + 1))))))))
    (some (.inr (.inl ())))

noncomputable def twin_CheckProps_x3 (ql : List api_Prop) (vx4 : Int) : Option ((Int) ⊕ (Unit ⊕ Unit)) :=
  cond (decide (vx4 < (ql.length : Int)))
    ((at? ql vx4).bind fun vy5 =>
    (twin_above_f1_twin_CheckProps_1 vy5.Name ql).bind fun vr2_3 =>
    cond (vr2_3)
      (some (.inr (.inr ())))
      (some (.inl (IntKind.wrap .i64 (vx4 + 1)))))
    (some (.inr (.inl ())))

noncomputable def twin_CheckProps (ql : List api_Prop) : Option (Int) :=
  cond (decide (500 < (ql.length : Int)))
    (some 2)
    ((loopO (twin_CheckProps_x1 ql) 0).bind fun x => match x with
      | .inl _ =>
        (loopO (twin_CheckProps_x3 ql) 0).bind fun x => match x with
          | .inl _ =>
            some 0
          | .inr _ =>
            some 13
      | .inr vx3_1 =>
        some vx3_1)

/-! ### math/bits.Len64 -/
noncomputable def bits_Len64_x1 (qx : Int) : Option ((Int × Int)) :=
  cond (decide (4294967296 ≤ qx))
    (some (ishr .u64 qx 32, 32))
    (some (qx, 0))

noncomputable def bits_Len64_x2 (vx1 : Int) (vn1 : Int) : Option ((Int × Int)) :=
  cond (decide (65536 ≤ vx1))
    (some (ishr .u64 vx1 16, IntKind.wrap .i64 (vn1 + 16)))
    (some (vx1, vn1))

noncomputable def bits_Len64_x3 (vx2_1 : Int) (vn2_1 : Int) : Option ((Int × Int)) :=
  cond (decide (256 ≤ vx2_1))
    (some (ishr .u64 vx2_1 8, IntKind.wrap .i64 (vn2_1 + 8)))
    (some (vx2_1, vn2_1))

noncomputable def bits_Len64 (qx : Int) : Option (Int) :=
  (bits_Len64_x1 qx).bind fun (vx1, vn1) =>
  (bits_Len64_x2 vx1 vn1).bind fun (vx2_1, vn2_1) =>
  (bits_Len64_x3 vx2_1 vn2_1).bind fun (vx3_1, vn3_1) =>
  (at? ([0, 1, 2, 2, 3, 3, 3, 3, 4, 4, 4, 4, 4, 4, 4, 4, 5, 5, 5, 5, 5, 5, 5, 5, 5, 5, 5, 5, 5, 5, 5, 5, 6, 6, 6, 6, 6, 6, 6, 6, 6, 6, 6, 6, 6, 6, 6, 6, 6, 6, 6, 6, 6, 6, 6, 6, 6, 6, 6, 6, 6, 6, 6, 6, 7, 7, 7, 7, 7, 7, 7, 7, 7, 7, 7, 7, 7, 7, 7, 7, 7, 7, 7, 7, 7, 7, 7, 7, 7, 7, 7, 7, 7, 7, 7, 7, 7, 7, 7, 7, 7, 7, 7, 7, 7, 7, 7, 7, 7, 7, 7, 7, 7, 7, 7, 7, 7, 7, 7, 7, 7, 7, 7, 7, 7, 7, 7, 7, 8, 8, 8, 8, 8, 8, 8, 8, 8, 8, 8, 8, 8, 8, 8, 8, 8, 8, 8, 8, 8, 8, 8, 8, 8, 8, 8, 8, 8, 8, 8, 8, 8, 8, 8, 8, 8, 8, 8, 8, 8, 8, 8, 8, 8, 8, 8, 8, 8, 8, 8, 8, 8, 8, 8, 8, 8, 8, 8, 8, 8, 8, 8, 8, 8, 8, 8, 8, 8, 8, 8, 8, 8, 8, 8, 8, 8, 8, 8, 8, 8, 8, 8, 8, 8, 8, 8, 8, 8, 8, 8, 8, 8, 8, 8, 8, 8, 8, 8, 8, 8, 8, 8, 8, 8, 8, 8, 8, 8, 8, 8, 8, 8, 8, 8, 8, 8, 8, 8, 8, 8, 8, 8, 8, 8, 8, 8, 8] : List UInt8) (IntKind.wrap .u8 (vx3_1))).bind fun vc =>
  some (IntKind.wrap .i64 (vn3_1 + (IntKind.wrap .i64 ((vc.toNat : Int)))))

/-! ### math/bits.Len -/
noncomputable def bits_Len (qx : Int) : Option (Int) :=
  (bits_Len64 qx).bind fun vr =>
  some vr

/-! ### cmp.isNaN[string] -/
noncomputable def cmp_isNaN_string (qx : List UInt8) : Option (Unit) :=
  some ()

/-! ### cmp.Less[string] -/
noncomputable def cmp_Less_string_x1 (qx : List UInt8) (qy : List UInt8) : Option (Bool) :=
  (cmp_isNaN_string qx).bind fun _ =>
  cond (!decide (qx = qx))
    ((cmp_isNaN_string qy).bind fun _ =>
    cond (!(!decide (qy = qy)))
      (some true)
      (some (Op.bytesLess qx qy)))
    (some (Op.bytesLess qx qy))

noncomputable def cmp_Less_string (qx : List UInt8) (qy : List UInt8) : Option (Bool) :=
  (cmp_Less_string_x1 qx qy).bind fun vx1 =>
  some vx1

/-! ### slices.insertionSortOrdered[string] -/
noncomputable def slices_insertionSortOrdered_string_o0_x3 (qa : Int) (vl3 : List (List UInt8)) (vj1 : Int) : Option (Bool) :=
  cond (decide (qa < vj1))
    ((at? vl3 vj1).bind fun vy15 =>
    (at? vl3 (IntKind.wrap .i64 (vj1 - 1))).bind fun vy16 =>
    (cmp_Less_string vy15 vy16).bind fun vr3 =>
    some vr3)
    (some false)

noncomputable def slices_insertionSortOrdered_string_o0_x2 (qa : Int) : (List (List UInt8)) × Int → Option (((List (List UInt8)) × Int) ⊕ ((List (List UInt8))))
  | (vl3, vj1) =>
  (slices_insertionSortOrdered_string_o0_x3 qa vl3 vj1).bind fun vx4_1 =>
  cond (vx4_1)
    ((at? vl3 (IntKind.wrap .i64 (vj1 - 1))).bind fun vy17 =>
    (at? vl3 vj1).bind fun vy18 =>
    (at? (vl3.set vj1.toNat vy17) (IntKind.wrap .i64 (vj1 - 1))).bind fun vy19 =>
    some (.inl ((vl3.set vj1.toNat vy17).set (IntKind.wrap .i64 (vj1 - 1)).toNat vy18, IntKind.wrap .i64 (vj1 - 1))))
    (some (.inr vl3))

noncomputable def slices_insertionSortOrdered_string_o0_x1 (qa : Int) (qb : Int) : (List (List UInt8)) × Int → Option (((List (List UInt8)) × Int) ⊕ ((List (List UInt8))))
  | (vl, vi) =>
  cond (decide (vi < qb))
    ((loopO (slices_insertionSortOrdered_string_o0_x2 qa) (vl, vi)).bind fun vl4_1 =>
    some (.inl (vl4_1, IntKind.wrap .i64 (vi + 1))))
    (some (.inr vl))

noncomputable def slices_insertionSortOrdered_string_o0 (qdata : List (List UInt8)) (qa : Int) (qb : Int) : Option ((List (List UInt8))) :=
  (loopO (slices_insertionSortOrdered_string_o0_x1 qa qb) (qdata, IntKind.wrap .i64 (qa + 1))).bind fun vl5_1 =>
  some vl5_1

/-! ### slices.pdqsortOrdered[string] -/
noncomputable def slices_pdqsortOrdered_string_o0_x1 (qx : List (List UInt8)) (qx1 : Int) (qx2 : Int) (qx3 : Int) : Unit → Option ((Unit) ⊕ ((List (List UInt8))))
  | _ =>
  cond (decide ((IntKind.wrap .i64 (qx2 - qx1)) ≤ 12))
    ((slices_insertionSortOrdered_string_o0 qx qx1 qx2).bind fun vl6_1 =>
    gd (vl6_1.length == qx.length) <|
    some (.inr vl6_1))
    (cond (decide (qx3 = 0))
      (none)
      (none))

noncomputable def slices_pdqsortOrdered_string_o0 (qx : List (List UInt8)) (qx1 : Int) (qx2 : Int) (qx3 : Int) : Option ((List (List UInt8))) :=
  (loopO (slices_pdqsortOrdered_string_o0_x1 qx qx1 qx2 qx3) ()).bind fun vl1 =>
  some vl1

/-! ### slices.Sort[[]string,string] -/
noncomputable def slices_Sort_string_string_o0 (qx : List (List UInt8)) : Option ((List (List UInt8))) :=
  (bits_Len (IntKind.wrap .u64 ((qx.length : Int)))).bind fun vr1 =>
  (slices_pdqsortOrdered_string_o0 qx 0 (qx.length : Int) vr1).bind fun vl2 =>
  gd (vl2.length == qx.length) <|
  some vl2

/-! ### slices.Compact[[]string,string] -/
noncomputable def slices_Compact_string_string_o0_x3 (qs : List (List UInt8)) (vk : Int) (vl4 : List (List UInt8)) (vk6 : Int) (vk2_1 : Int) : Option (((List (List UInt8)) × Int)) :=
  gd (decide (0 ≤ vk) && decide (0 ≤ vk2_1) && decide (vk2_1 < (qs.length : Int) - vk)) <|
  (at? vl4 (vk + vk2_1)).bind fun vy13 =>
  gd (decide (0 ≤ vk) && decide (0 ≤ (IntKind.wrap .i64 (vk2_1 - 1))) && decide ((IntKind.wrap .i64 (vk2_1 - 1)) < (qs.length : Int) - vk)) <|
  (at? vl4 (vk + (IntKind.wrap .i64 (vk2_1 - 1)))).bind fun vy14 =>
  cond (!decide (vy13 = vy14))
    ((at? vl4 vk6).bind fun vy15 =>
    some (vl4.set vk6.toNat vy13, IntKind.wrap .i64 (vk6 + 1)))
    (some (vl4, vk6))

noncomputable def slices_Compact_string_string_o0_x2 (qs : List (List UInt8)) (vk : Int) : (List (List UInt8)) × Int × Int → Option (((List (List UInt8)) × Int × Int) ⊕ (((List (List UInt8)) × Int)))
  | (vl4, vk6, vk2_1) =>
  cond (decide (vk2_1 < (((qs.length : Int).toNat - vk.toNat : Nat) : Int)))
    ((slices_Compact_string_string_o0_x3 qs vk vl4 vk6 vk2_1).bind fun (vl6_1, vk8_1) =>
    some (.inl (vl6_1, vk8_1, IntKind.wrap .i64 (vk2_1 + 1))))
    (some (.inr (vl4, vk6)))

noncomputable def slices_Compact_string_string_o0_x1 (qs : List (List UInt8)) (vk : Int) : Option ((Int) ⊕ (Unit ⊕ (List (List UInt8)))) :=
  cond (decide (vk < (qs.length : Int)))
    ((at? qs vk).bind fun vy8 =>
    (at? qs (IntKind.wrap .i64 (vk - 1))).bind fun vy9 =>
    cond (decide (vy8 = vy9))
      (gd (decide (0 ≤ vk) && decide (vk ≤ (qs.length : Int)) && decide ((qs.length : Int) ≤ (qs.length : Int))) <|
      (loopO (slices_Compact_string_string_o0_x2 qs vk) (qs, vk, 1)).bind fun (vl7_1, vk9_1) =>
      gd (decide (0 ≤ vk9_1) && decide (vk9_1 ≤ (vl7_1.length : Int)) && decide ((vl7_1.length : Int) ≤ (vl7_1.length : Int))) <|
      gd (decide (0 ≤ vk9_1) && decide (vk9_1 ≤ ((vl7_1.take vk9_1.toNat ++ (List.replicate ((vl7_1.length : Int).toNat - vk9_1.toNat) ([] : List UInt8) ++ vl7_1.drop (vk9_1.toNat + ((vl7_1.length : Int).toNat - vk9_1.toNat)))).length : Int))) <|
      some (.inr (.inr ((vl7_1.take vk9_1.toNat ++ (List.replicate ((vl7_1.length : Int).toNat - vk9_1.toNat) ([] : List UInt8) ++ vl7_1.drop (vk9_1.toNat + ((vl7_1.length : Int).toNat - vk9_1.toNat)))).take vk9_1.toNat))))
      (some (.inl (IntKind.wrap .i64 (vk + 1)))))
    (some (.inr (.inl ())))

noncomputable def slices_Compact_string_string_o0 (qs : List (List UInt8)) : Option ((List (List UInt8))) :=
  cond (decide ((qs.length : Int) < 2))
    (some qs)
    ((loopO (slices_Compact_string_string_o0_x1 qs) 1).bind fun x => match x with
      | .inl _ =>
        some qs
      | .inr vx1 =>
        some vx1)

/-! ### beaconfleet/twin.names -/
noncomputable def twin_names_o0_x2 (vy3 : List api_Prop) : (List (List UInt8)) × Int → Option (((List (List UInt8)) × Int) ⊕ ((List (List UInt8))))
  | (vout3, vx2) =>
  cond (decide (vx2 < (vy3.length : Int)))
    ((at? vy3 vx2).bind fun vy5 =>
    gd (Nat.ble (vout3.length + ([vy5.Name] : List (List UInt8)).length) LIM) <|
    some (.inl (vout3 ++ ([vy5.Name] : List (List UInt8)), IntKind.wrap .i64 (vx2 + 1))))
    (some (.inr vout3))

noncomputable def twin_names_o0_x1 (qlists : List (List api_Prop)) : (List (List UInt8)) × Int → Option (((List (List UInt8)) × Int) ⊕ ((List (List UInt8))))
  | (vout, vx) =>
  cond (decide (vx < (qlists.length : Int)))
    ((at? qlists vx).bind fun vy3 =>
    (loopO (twin_names_o0_x2 vy3) (vout, 0)).bind fun vout4_1 =>
    some (.inl (vout4_1, IntKind.wrap .i64 (vx + 1))))
    (some (.inr vout))

noncomputable def twin_names_o0 (qlists : List (List api_Prop)) : Option ((List (List UInt8))) :=
  (loopO (twin_names_o0_x1 qlists) ([], 0)).bind fun vout5_1 =>
  (slices_Sort_string_string_o0 vout5_1).bind fun vl =>
  gd (vl.length == vout5_1.length) <|
  (slices_Compact_string_string_o0 vl).bind fun vr =>
  some vr

/-! ### slices.BinarySearchFunc[[]beaconfleet/api.Prop,beaconfleet/api.Prop,string] -/
noncomputable def slices_BinarySearchFunc_api_Prop_api_Prop_string_n0_f2_twin_find_1_x1 : Unit → Option ((Unit) ⊕ (Unit))
  | _ =>
  cond (decide ((0 : Int) < 0))
    (none)
    (some (.inr ()))

noncomputable def slices_BinarySearchFunc_api_Prop_api_Prop_string_n0_f2_twin_find_1 (qtarget : List UInt8) : Option (Unit) :=
  (loopO slices_BinarySearchFunc_api_Prop_api_Prop_string_n0_f2_twin_find_1_x1 ()).bind fun _ =>
  cond (decide ((0 : Int) < 0))
    (none)
    (some ())

/-! ### beaconfleet/twin.find -/
noncomputable def twin_find_n0 (qname : List UInt8) : Option (Unit) :=
  (slices_BinarySearchFunc_api_Prop_api_Prop_string_n0_f2_twin_find_1 qname).bind fun _ =>
  some ()

/-! ### beaconfleet/twin.valueOf -/
noncomputable def twin_valueOf_n0 (qname : List UInt8) : Option (Unit) :=
  (twin_find_n0 qname).bind fun _ =>
  cond (decide (0 ≤ ((-1) : Int)))
    (none)
    (some ())

/-! ### beaconfleet/twin.valueOf -/
noncomputable def twin_valueOf (ql : List api_Prop) (qname : List UInt8) : Option (api_Value) :=
  (twin_find ql qname).bind fun vr2 =>
  cond (decide (0 ≤ vr2))
    ((at? ql vr2).bind fun vy =>
    some (api_Value.mk vy.Value.Kind vy.Value.Flag vy.Value.Number vy.Value.Words))
    (some (api_Value.mk 0 false 0 ([] : List UInt8)))

/-! ### beaconfleet/twin.Differ -/
noncomputable def twin_Differ_n0_o1_x2 (qb : List api_Prop) (vr1_1 : List (List UInt8)) (vout : List api_Change) (vx : Int) : Option ((List api_Change)) :=
  (at? vr1_1 vx).bind fun vy1 =>
  (twin_valueOf_n0 vy1).bind fun _ =>
  (twin_valueOf qb vy1).bind fun vr4 =>
  cond (!(decide ((0 : Int) = vr4.Kind) && ((false == vr4.Flag) && (decide ((0 : Int) = vr4.Number) && (decide (([] : List UInt8) = vr4.Words) && true)))))
    (gd (Nat.ble (vout.length + ([api_Change.mk vy1 (api_Value.mk 0 false 0 ([] : List UInt8)) vr4] : List api_Change).length) LIM) <|
    some (vout ++ ([api_Change.mk vy1 (api_Value.mk 0 false 0 ([] : List UInt8)) vr4] : List api_Change)))
    (some vout)

noncomputable def twin_Differ_n0_o1_x1 (qb : List api_Prop) (vr1_1 : List (List UInt8)) : (List api_Change) × Int → Option (((List api_Change) × Int) ⊕ ((List api_Change)))
  | (vout, vx) =>
  cond (decide (vx < (vr1_1.length : Int)))
    ((twin_Differ_n0_o1_x2 qb vr1_1 vout vx).bind fun vout2_1 =>
    some (.inl (vout2_1, IntKind.wrap .i64 (vx + 1))))
    (some (.inr vout))

noncomputable def twin_Differ_n0_o1 (qb : List api_Prop) : Option ((List api_Change) × Int) :=
  (twin_CheckProps_n0).bind fun vr =>
  (twin_CheckProps qb).bind fun vr3 =>
  (base_First ([vr, vr3] : List Int)).bind fun vr1 =>
  cond (!decide (vr1 = 0))
    (some ([], vr1))
    ((twin_names_o0 ([[], qb] : List (List api_Prop))).bind fun vr1_1 =>
    (loopO (twin_Differ_n0_o1_x1 qb vr1_1) ([], 0)).bind fun vout3_1 =>
    some (vout3_1, 0))

/-! ### beaconfleet/command.CheckLetter -/
noncomputable def command_CheckLetter_x1 (ql : api_Letter) : Option (Bool) :=
  (base_Key ql.Id).bind fun vr =>
  cond (!vr)
    (some true)
    (cond (!decide (ql.Slot = ([] : List UInt8)))
      ((base_Key ql.Slot).bind fun vr1 =>
      some (!vr1))
      (some false))

noncomputable def command_CheckLetter_x2 (ql : api_Letter) : Option (Bool) :=
  (base_Out ql.Prio 0 9).bind fun vr3 =>
  cond (vr3)
    (some true)
    ((base_Moment ql.At).bind fun vr1_1 =>
    cond (!vr1_1)
      (some true)
      (cond (decide (ql.Until ≤ ql.At))
        (some true)
        (some (decide (345686400000 < ql.Until)))))

noncomputable def command_CheckLetter (ql : api_Letter) : Option (Int) :=
  (command_CheckLetter_x1 ql).bind fun vx1 =>
  cond (vx1)
    (some 5)
    (cond (decide (1000 < (ql.Body.length : Int)))
      (some 2)
      ((base_Unmarked ql.Body).bind fun vr2 =>
      cond (!vr2)
        (some 3)
        ((command_CheckLetter_x2 ql).bind fun vx2_1 =>
        cond (vx2_1)
          (some 1)
          (some 0))))

/-! ### beaconfleet/command.Order$1 -/
noncomputable def command_Order_1 (qy : api_Letter) (qx : api_Letter) : Option (Unit) :=
  some ()

/-! ### slices.IndexFunc[[]beaconfleet/api.Letter,beaconfleet/api.Letter] -/
noncomputable def slices_IndexFunc_api_Letter_api_Letter_f1_command_Order_1_x1 (qs : List api_Letter) (qf : api_Letter) (vx : Int) : Option ((Int) ⊕ (Unit ⊕ Int)) :=
  cond (decide (vx < (qs.length : Int)))
    ((at? qs vx).bind fun vy1 =>
    (command_Order_1 vy1 qf).bind fun _ =>
    cond (decide (vy1.Id = qf.Id))
      (some (.inr (.inr vx)))
      (some (.inl (IntKind.wrap .i64 (vx + 1)))))
    (some (.inr (.inl ())))

noncomputable def slices_IndexFunc_api_Letter_api_Letter_f1_command_Order_1 (qs : List api_Letter) (qf : api_Letter) : Option (Int) :=
  (loopO (slices_IndexFunc_api_Letter_api_Letter_f1_command_Order_1_x1 qs qf) 0).bind fun x => match x with
    | .inl _ =>
      some (-1)
    | .inr vx1_1 =>
      some vx1_1

/-! ### slices.ContainsFunc[[]beaconfleet/api.Letter,beaconfleet/api.Letter] -/
noncomputable def slices_ContainsFunc_api_Letter_api_Letter_f1_command_Order_1 (qs : List api_Letter) (qf : api_Letter) : Option (Bool) :=
  (slices_IndexFunc_api_Letter_api_Letter_f1_command_Order_1 qs qf).bind fun vr =>
  some (decide (0 ≤ vr))

/-! ### slices.Clone[[]beaconfleet/api.Letter,beaconfleet/api.Letter] -/
noncomputable def slices_Clone_api_Letter_api_Letter (qs : List api_Letter) : Option (List api_Letter) :=
  gd (Nat.ble (([] : List api_Letter).length + qs.length) LIM) (some qs)

/-! ### beaconfleet/command.byOrder -/
noncomputable def command_byOrder (qa : api_Letter) (qb : api_Letter) : Option (Int) :=
  (cmp_Compare_int qb.Prio qa.Prio).bind fun vr =>
  (cmp_Compare_int qa.At qb.At).bind fun vr1 =>
  (strings_Compare qa.Id qb.Id).bind fun _ =>
  (cmp_Or_int ([vr, vr1, Lib.compareBytes qa.Id qb.Id] : List Int)).bind fun vr2 =>
  some vr2

/-! ### slices.insertionSortCmpFunc[beaconfleet/api.Letter] -/
noncomputable def slices_insertionSortCmpFunc_api_Letter_o0_f3_command_byOrder_x3 (qa : Int) (vl3 : List api_Letter) (vj1 : Int) : Option (Bool) :=
  cond (decide (qa < vj1))
    ((at? vl3 vj1).bind fun vy15 =>
    (at? vl3 (IntKind.wrap .i64 (vj1 - 1))).bind fun vy16 =>
    (command_byOrder vy15 vy16).bind fun vr3_3 =>
    some (decide (vr3_3 < 0)))
    (some false)

noncomputable def slices_insertionSortCmpFunc_api_Letter_o0_f3_command_byOrder_x2 (qa : Int) : (List api_Letter) × Int → Option (((List api_Letter) × Int) ⊕ ((List api_Letter)))
  | (vl3, vj1) =>
  (slices_insertionSortCmpFunc_api_Letter_o0_f3_command_byOrder_x3 qa vl3 vj1).bind fun vx4_1 =>
  cond (vx4_1)
    ((at? vl3 (IntKind.wrap .i64 (vj1 - 1))).bind fun vy17 =>
    (at? vl3 vj1).bind fun vy18 =>
    (at? (vl3.set vj1.toNat vy17) (IntKind.wrap .i64 (vj1 - 1))).bind fun vy19 =>
    some (.inl ((vl3.set vj1.toNat vy17).set (IntKind.wrap .i64 (vj1 - 1)).toNat vy18, IntKind.wrap .i64 (vj1 - 1))))
    (some (.inr vl3))

noncomputable def slices_insertionSortCmpFunc_api_Letter_o0_f3_command_byOrder_x1 (qa : Int) (qb : Int) : (List api_Letter) × Int → Option (((List api_Letter) × Int) ⊕ ((List api_Letter)))
  | (vl, vi) =>
  cond (decide (vi < qb))
    ((loopO (slices_insertionSortCmpFunc_api_Letter_o0_f3_command_byOrder_x2 qa) (vl, vi)).bind fun vl4_1 =>
    some (.inl (vl4_1, IntKind.wrap .i64 (vi + 1))))
    (some (.inr vl))

noncomputable def slices_insertionSortCmpFunc_api_Letter_o0_f3_command_byOrder (qdata : List api_Letter) (qa : Int) (qb : Int) : Option ((List api_Letter)) :=
  (loopO (slices_insertionSortCmpFunc_api_Letter_o0_f3_command_byOrder_x1 qa qb) (qdata, IntKind.wrap .i64 (qa + 1))).bind fun vl5_1 =>
  some vl5_1

/-! ### slices.pdqsortCmpFunc[beaconfleet/api.Letter] -/
noncomputable def slices_pdqsortCmpFunc_api_Letter_o0_f4_command_byOrder_x1 (qx : List api_Letter) (qx1 : Int) (qx2 : Int) (qx3 : Int) : Unit → Option ((Unit) ⊕ ((List api_Letter)))
  | _ =>
  cond (decide ((IntKind.wrap .i64 (qx2 - qx1)) ≤ 12))
    ((slices_insertionSortCmpFunc_api_Letter_o0_f3_command_byOrder qx qx1 qx2).bind fun vl6_1 =>
    gd (vl6_1.length == qx.length) <|
    some (.inr vl6_1))
    (cond (decide (qx3 = 0))
      (none)
      (none))

noncomputable def slices_pdqsortCmpFunc_api_Letter_o0_f4_command_byOrder (qx : List api_Letter) (qx1 : Int) (qx2 : Int) (qx3 : Int) : Option ((List api_Letter)) :=
  (loopO (slices_pdqsortCmpFunc_api_Letter_o0_f4_command_byOrder_x1 qx qx1 qx2 qx3) ()).bind fun vl1 =>
  some vl1

/-! ### slices.SortFunc[[]beaconfleet/api.Letter,beaconfleet/api.Letter] -/
noncomputable def slices_SortFunc_api_Letter_api_Letter_o0_f1_command_byOrder (qx : List api_Letter) : Option ((List api_Letter)) :=
  (bits_Len (IntKind.wrap .u64 ((qx.length : Int)))).bind fun vr1 =>
  (slices_pdqsortCmpFunc_api_Letter_o0_f4_command_byOrder qx 0 (qx.length : Int) vr1).bind fun vl2 =>
  gd (vl2.length == qx.length) <|
  some vl2

/-! ### beaconfleet/command.Order -/
noncomputable def command_Order_o0_x1 (ql : List api_Letter) (vx : Int) : Option ((Int) ⊕ (Unit ⊕ Int)) :=
  cond (decide (vx < (ql.length : Int)))
    ((at? ql vx).bind fun vy1 =>
    (command_CheckLetter vy1).bind fun vr4_1 =>
    cond (!decide (vr4_1 = 0))
      (some (.inr (.inr vr4_1)))
      ((sub? ql 0 vx).bind fun vl1 =>
      (slices_ContainsFunc_api_Letter_api_Letter_f1_command_Order_1 vl1 vy1).bind fun vr1_1 =>
      cond (vr1_1)
        (some (.inr (.inr 6)))
        (some (.inl (IntKind.wrap .i64 (vx + 1))))))
    (some (.inr (.inl ())))

noncomputable def command_Order_o0 (ql : List api_Letter) : Option ((List api_Letter) × Int) :=
  cond (decide (500 < (ql.length : Int)))
    (some ([], 2))
    ((loopO (command_Order_o0_x1 ql) 0).bind fun x => match x with
      | .inl _ =>
        (slices_Clone_api_Letter_api_Letter ql).bind fun vr =>
        (slices_SortFunc_api_Letter_api_Letter_o0_f1_command_byOrder vr).bind fun vl2 =>
        gd (vl2.length == vr.length) <|
        some (vl2, 0)
      | .inr vx1_1 =>
        some ([], vx1_1))

/-! ### beaconfleet/fleetkeep2.errs -/
noncomputable def fleetkeep2_errs_x1 (ql : List Int) (vx : Int) : Option ((Int) ⊕ (Unit ⊕ Int)) :=
  cond (decide (vx < (ql.length : Int)))
    ((at? ql vx).bind fun vy1 =>
    cond (!decide (vy1 = 0))
      (some (.inr (.inr vy1)))
      (some (.inl (IntKind.wrap .i64 (vx + 1)))))
    (some (.inr (.inl ())))

noncomputable def fleetkeep2_errs (ql : List Int) : Option (Int) :=
  (loopO (fleetkeep2_errs_x1 ql) 0).bind fun x => match x with
    | .inl _ =>
      some 0
    | .inr vx1_1 =>
      some vx1_1

/-! ### beaconfleet/fleetkeep2.ready -/
noncomputable def fleetkeep2_ready_x1 (vr5 : List api_Change) (vr6 : Int) (vr : List Int) (vr2 : Int) (vr2_1 : api_Version) (vr4 : Int) (vr1 : List UInt8) (vr3 : Int) (vr2_2 : List api_Letter) (vr3_1 : Int) : Option (Bool) :=
  (fleetkeep2_errs ([vr6, vr2, vr4, vr3, vr3_1] : List Int)).bind fun vr7 =>
  cond (decide (vr7 = 0))
    (cond (decide ((vr5.length : Int) = 1))
      ((slices_Equal_byte_byte vr ([1, 2, 2] : List Int)).bind fun vr8 =>
      cond (vr8)
        (cond (decide (vr2_1.Patch = 3))
          (cond (decide (vr1 = ([51] : List UInt8)))
            (some (decide ((vr2_2.length : Int) = 1)))
            (some false))
          (some false))
        (some false))
      (some false))
    (some false)

noncomputable def fleetkeep2_ready : Option (Bool) :=
  (twin_Differ_n0_o1 ([api_Prop.mk ([97] : List UInt8) (api_Value.mk 1 false 0 ([] : List UInt8))] : List api_Prop)).bind fun (vr5, vr6) =>
  (series_Pack_o0 ([api_Sample.mk ([100] : List UInt8) ([109] : List UInt8) 1 1] : List api_Sample)).bind fun (vr, vr2) =>
  (campaign_ParseVersion ([49, 46, 50, 46, 51] : List UInt8)).bind fun (vr2_1, vr4) =>
  (place_Cell (api_Spot.mk 0 0) 1).bind fun (vr1, vr3) =>
  (command_Order_o0 ([api_Letter.mk ([97] : List UInt8) ([] : List UInt8) ([] : List UInt8) 0 0 5] : List api_Letter)).bind fun (vr2_2, vr3_1) =>
  (fleetkeep2_ready_x1 vr5 vr6 vr vr2 vr2_1 vr4 vr1 vr3 vr2_2 vr3_1).bind fun vx1 =>
  some vx1

/-! ### beaconfleet/fleetkeep2.TracksStayPlain -/
noncomputable def fleetkeep2_TracksStayPlain_x1 (vr16 : List api_Fix) (vr2 : List Int) (vr3 : Int) : Option (Bool) :=
  cond (!decide (vr3 = 0))
    (some true)
    ((slices_IsSorted_int_int vr2).bind fun vr2_1 =>
    cond (!vr2_1)
      (some true)
      (cond (decide (0 < (vr16.length : Int)))
        (cond (decide ((vr2.length : Int) = 0))
          (some true)
          ((at? vr2 0).bind fun vy =>
          cond (!decide (vy = 0))
            (some true)
            ((at? vr2 (IntKind.wrap .i64 ((vr2.length : Int) - 1))).bind fun vy1 =>
            some (!decide (vy1 = (IntKind.wrap .i64 ((vr16.length : Int) - 1)))))))
        (some false)))

noncomputable def fleetkeep2_TracksStayPlain_x2 (vr16 : List api_Fix) (vr2 : List Int) : (List api_Fix) × Int → Option (((List api_Fix) × Int) ⊕ ((List api_Fix)))
  | (vx2, vx3) =>
  cond (decide (vx3 < (vr2.length : Int)))
    ((at? vr2 vx3).bind fun vy4 =>
    (at? vr16 vy4).bind fun vy5 =>
    gd (Nat.ble (vx2.length + ([vy5] : List api_Fix).length) LIM) <|
    some (.inl (vx2 ++ ([vy5] : List api_Fix), IntKind.wrap .i64 (vx3 + 1))))
    (some (.inr vx2))

noncomputable def fleetkeep2_TracksStayPlain_x4 (vr16 : List api_Fix) (vr : Int) (vr2 : List Int) (vx5 : Int) (vr5 : Int) : Option (Bool) :=
  cond (decide (vr5 < 0))
    (some true)
    ((at? vr2 vr5).bind fun vy11 =>
    cond (!decide (vy11 = vx5))
      (cond (decide (vr5 = 0))
        (some true)
        ((at? vr2 (IntKind.wrap .i64 (vr5 - 1))).bind fun vy12 =>
        (at? vr16 vy12).bind fun vy13 =>
        (at? vr16 vy11).bind fun vy14 =>
        (at? vr16 vx5).bind fun vy15 =>
        (fleetkeep2_nearWay vy13 vy14 vy15 vr).bind fun vr6 =>
        some (!vr6)))
      (some false))

noncomputable def fleetkeep2_TracksStayPlain_x3 (vr16 : List api_Fix) (vr : Int) (vr2 : List Int) (vx5 : Int) : Option ((Int) ⊕ (Unit ⊕ Unit)) :=
  cond (decide (vx5 < (vr16.length : Int)))
    ((slices_IndexFunc_int_int_f1_fleetkeep2_TracksStayPlain_1 vr2 vx5).bind fun vr5 =>
    (fleetkeep2_TracksStayPlain_x4 vr16 vr vr2 vx5 vr5).bind fun vx7_1 =>
    cond (vx7_1)
      (some (.inr (.inr ())))
      (some (.inl (IntKind.wrap .i64 (vx5 + 1)))))
    (some (.inr (.inl ())))

noncomputable def fleetkeep2_TracksStayPlain_x5 (vr16 : List api_Fix) (vr3_1 : Int) (vr4_1 : Int) (vr3_2 : Int) (vr4_2 : Int) : Option (Bool) :=
  cond (decide (vr4_1 = 0))
    (cond (decide (vr4_2 = 0))
      (cond (decide (vr3_2 ≤ (IntKind.wrap .i64 (vr3_1 + (IntKind.wrap .i64 ((2 : Int) * (vr16.length : Int)))))))
        ((fleetkeep2_ready).bind fun vr9 =>
        some vr9)
        (some false))
      (some false))
    (some false)

noncomputable def fleetkeep2_TracksStayPlain (qx : List Int) : Option (Bool) :=
  (fleetmake_Stream_RightTrack (fleetmake_Stream.mk qx 0) 12).bind fun (vs11, vr16) =>
  (fleetmake_Stream_Range vs11 0 6).bind fun (vs, vr) =>
  (place_Plain vr16 vr).bind fun (vr2, vr3) =>
  (fleetkeep2_TracksStayPlain_x1 vr16 vr2 vr3).bind fun vx1 =>
  cond (vx1)
    (some false)
    ((loopO (fleetkeep2_TracksStayPlain_x2 vr16 vr2) ([], 0)).bind fun vx4_1 =>
    (loopO (fleetkeep2_TracksStayPlain_x3 vr16 vr vr2) 0).bind fun x => match x with
      | .inl _ =>
        (place_Length vr16).bind fun (vr3_1, vr4_1) =>
        (place_Length vx4_1).bind fun (vr3_2, vr4_2) =>
        (fleetkeep2_TracksStayPlain_x5 vr16 vr3_1 vr4_1 vr3_2 vr4_2).bind fun vx8_1 =>
        some vx8_1
      | .inr _ =>
        some false)

end Go.Eng
