/-
The Go functions that the law SeriesFilled reaches, as plain functions.
-/
import Derived.Test.YtjfpceigbgnjgaaEngV

namespace Go.Eng

open Go

set_option linter.unusedVariables false

structure fleetmake_Stream where
  L : List Int
  at_ : Int

def fleetmake_Stream.enc (x : fleetmake_Stream) : List D := [.lst (List.map (encI .i64) x.L), .int .i64 x.at_]

structure api_Sample where
  Device : List UInt8
  Metric : List UInt8
  At : Int
  Value : Int

def api_Sample.enc (x : api_Sample) : List D := [.str x.Device, .str x.Metric, .int .i64 x.At, .int .i64 x.Value]

structure api_Window where
  From : Int
  To : Int

def api_Window.enc (x : api_Window) : List D := [.int .i64 x.From, .int .i64 x.To]

/-! ### beaconfleet/fleetmake.Below -/
noncomputable def fleetmake_Below_x1 (qx : Int) (qn : Int) : Option (Int) :=
  cond (decide ((qx.tmod qn) < 0))
    (some (IntKind.wrap .i64 ((qx.tmod qn) + qn)))
    (some (qx.tmod qn))

noncomputable def fleetmake_Below (qx : Int) (qn : Int) : Option (Int) :=
  cond (decide (qn < 1))
    (some 0)
    (gd (!(qn == 0)) <|
    (fleetmake_Below_x1 qx qn).bind fun vx1 =>
    some vx1)

/-! ### (*beaconfleet/fleetmake.Stream).Next -/
noncomputable def fleetmake_Stream_Next (qs : fleetmake_Stream) (qn : Int) : Option (Int) :=
  cond (decide ((qs.L.length : Int) = 0))
    ((fleetmake_Below (IntKind.wrap .i64 ((IntKind.wrap .i64 (qs.at_ + 1)) * 7919)) qn).bind fun vr =>
    some vr)
    (gd (!((qs.L.length : Int) == 0)) <|
    (at? qs.L ((IntKind.wrap .i64 ((IntKind.wrap .i64 (qs.at_ + 1)) - 1)).tmod (qs.L.length : Int))).bind fun vy =>
    (fleetmake_Below vy 1073741824).bind fun vr1 =>
    (fleetmake_Below (IntKind.wrap .i64 (vr1 + (IntKind.wrap .i64 ((IntKind.wrap .i64 ((IntKind.wrap .i64 ((IntKind.wrap .i64 (qs.at_ + 1)) - 1)).tdiv (qs.L.length : Int))) * (IntKind.wrap .i64 ((7919 : Int) + ((IntKind.wrap .i64 ((IntKind.wrap .i64 (qs.at_ + 1)) - 1)).tmod (qs.L.length : Int)))))))) qn).bind fun vr2 =>
    some vr2)

/-! ### (*beaconfleet/fleetmake.Stream).Pick -/
noncomputable def fleetmake_Stream_Pick_o1 (qs : fleetmake_Stream) (ql : List Int) : Option (Int) :=
  (fleetmake_Stream_Next qs (ql.length : Int)).bind fun vr3 =>
  (at? ql vr3).bind fun vy =>
  some vy

/-! ### (*beaconfleet/fleetmake.Stream).Range -/
noncomputable def fleetmake_Stream_Range (qs : fleetmake_Stream) (qlow : Int) (qhigh : Int) : Option (fleetmake_Stream × Int) :=
  cond (decide (qhigh < qlow))
    (some (qs, qlow))
    ((fleetmake_Stream_Next qs (IntKind.wrap .i64 ((IntKind.wrap .i64 (qhigh - qlow)) + 1))).bind fun vr3 =>
    some (fleetmake_Stream.mk qs.L (IntKind.wrap .i64 (qs.at_ + 1)), IntKind.wrap .i64 (qlow + vr3)))

/-! ### (*beaconfleet/fleetmake.Stream).RightSeries -/
noncomputable def fleetmake_Stream_RightSeries_x1 (qlow : Int) (vr : Int) : fleetmake_Stream × (List api_Sample) × Int × Int → Option ((fleetmake_Stream × (List api_Sample) × Int × Int) ⊕ ((fleetmake_Stream × (List api_Sample))))
  | (vs1, vout, vat, vx) =>
  cond (decide (vx < vr))
    ((fleetmake_Stream_Pick_o1 vs1 ([1, 1, 2, 5, 10, 10, 40, 127, 1000] : List Int)).bind fun vr3 =>
    (fleetmake_Stream_Pick_o1 (fleetmake_Stream.mk vs1.L (IntKind.wrap .i64 (vs1.at_ + 1))) ([0, 1, 2, 5, 7, 9, (-3), (-70), 100, 1000, 5] : List Int)).bind fun vr4 =>
    gd (Nat.ble (vout.length + ([api_Sample.mk ([100] : List UInt8) ([109] : List UInt8) (IntKind.wrap .i64 (vat + vr3)) (imax qlow vr4)] : List api_Sample).length) LIM) <|
    some (.inl (fleetmake_Stream.mk vs1.L (IntKind.wrap .i64 ((IntKind.wrap .i64 (vs1.at_ + 1)) + 1)), vout ++ ([api_Sample.mk ([100] : List UInt8) ([109] : List UInt8) (IntKind.wrap .i64 (vat + vr3)) (imax qlow vr4)] : List api_Sample), IntKind.wrap .i64 (vat + vr3), IntKind.wrap .i64 (vx + 1))))
    (some (.inr (vs1, vout)))

noncomputable def fleetmake_Stream_RightSeries (qs : fleetmake_Stream) (qmost : Int) (qlow : Int) : Option (fleetmake_Stream × (List api_Sample)) :=
  (fleetmake_Stream_Range qs 0 qmost).bind fun (vs, vr) =>
  (loopO (fleetmake_Stream_RightSeries_x1 qlow vr) (vs, [], 0, 0)).bind fun (vs2_1, vout1_1) =>
  some (vs2_1, vout1_1)

/-! ### (*beaconfleet/fleetmake.Stream).Flip -/
noncomputable def fleetmake_Stream_Flip (qs : fleetmake_Stream) (qn : Int) : Option (Bool) :=
  (fleetmake_Stream_Next qs qn).bind fun vr3 =>
  some (decide (vr3 = 0))

/-! ### (*beaconfleet/fleetmake.Stream).Some -/
noncomputable def fleetmake_Stream_Some_o1 (qs : fleetmake_Stream) (ql : List (List UInt8)) : Option ((List UInt8)) :=
  (fleetmake_Stream_Next qs (ql.length : Int)).bind fun vr3 =>
  (at? ql vr3).bind fun vy =>
  some vy

/-! ### (*beaconfleet/fleetmake.Stream).Odd -/
noncomputable def fleetmake_Stream_Odd (qs : fleetmake_Stream) (qlow : Int) (qhigh : Int) : Option (fleetmake_Stream × Int) :=
  (fleetmake_Stream_Flip qs 12).bind fun vr =>
  cond (vr)
    ((fleetmake_Stream_Pick_o1 (fleetmake_Stream.mk qs.L (IntKind.wrap .i64 (qs.at_ + 1))) ([IntKind.wrap .i64 (qlow - 1), IntKind.wrap .i64 (qhigh + 1), qlow, qhigh, (-1099511627776), 1099511627776] : List Int)).bind fun vr1 =>
    some (fleetmake_Stream.mk qs.L (IntKind.wrap .i64 ((IntKind.wrap .i64 (qs.at_ + 1)) + 1)), vr1))
    ((fleetmake_Stream_Range (fleetmake_Stream.mk qs.L (IntKind.wrap .i64 (qs.at_ + 1))) qlow qhigh).bind fun (vs, vr2) =>
    some (vs, vr2))

/-! ### (*beaconfleet/fleetmake.Stream).Series -/
noncomputable def fleetmake_Stream_Series_x2 (vs3 : fleetmake_Stream) (vr5 : List api_Sample) : Option ((fleetmake_Stream × Bool)) :=
  cond (decide (0 < (vr5.length : Int)))
    ((fleetmake_Stream_Flip vs3 12).bind fun vr1 =>
    some (fleetmake_Stream.mk vs3.L (IntKind.wrap .i64 (vs3.at_ + 1)), vr1))
    (some (vs3, false))

noncomputable def fleetmake_Stream_Series_x1 (vs3 : fleetmake_Stream) (vr5 : List api_Sample) : Option ((fleetmake_Stream × (List api_Sample))) :=
  (fleetmake_Stream_Series_x2 vs3 vr5).bind fun (vs1, vx1) =>
  cond (vx1)
    ((fleetmake_Stream_Next vs1 (vr5.length : Int)).bind fun vr3 =>
    (at? vr5 vr3).bind fun vy =>
    (fleetmake_Stream_Next (fleetmake_Stream.mk vs1.L (IntKind.wrap .i64 (vs1.at_ + 1))) 4).bind fun vr3_1 =>
    cond (decide (vr3_1 = 0))
      ((fleetmake_Stream_Some_o1 (fleetmake_Stream.mk vs1.L (IntKind.wrap .i64 ((IntKind.wrap .i64 (vs1.at_ + 1)) + 1))) ([([] : List UInt8), ([101] : List UInt8), ([65] : List UInt8)] : List (List UInt8))).bind fun vr2 =>
      some (fleetmake_Stream.mk vs1.L (IntKind.wrap .i64 ((IntKind.wrap .i64 ((IntKind.wrap .i64 (vs1.at_ + 1)) + 1)) + 1)), vr5.set vr3.toNat (api_Sample.mk vr2 vy.Metric vy.At vy.Value)))
      (cond (decide (vr3_1 = 1))
        ((fleetmake_Stream_Some_o1 (fleetmake_Stream.mk vs1.L (IntKind.wrap .i64 ((IntKind.wrap .i64 (vs1.at_ + 1)) + 1))) ([([] : List UInt8), ([110] : List UInt8)] : List (List UInt8))).bind fun vr4 =>
        some (fleetmake_Stream.mk vs1.L (IntKind.wrap .i64 ((IntKind.wrap .i64 ((IntKind.wrap .i64 (vs1.at_ + 1)) + 1)) + 1)), vr5.set vr3.toNat (api_Sample.mk vy.Device vr4 vy.At vy.Value)))
        (cond (decide (vr3_1 = 2))
          ((fleetmake_Stream_Odd (fleetmake_Stream.mk vs1.L (IntKind.wrap .i64 ((IntKind.wrap .i64 (vs1.at_ + 1)) + 1))) 0 100).bind fun (vs1_1, vr3_2) =>
          some (vs1_1, vr5.set vr3.toNat (api_Sample.mk vy.Device vy.Metric vr3_2 vy.Value)))
          ((fleetmake_Stream_Odd (fleetmake_Stream.mk vs1.L (IntKind.wrap .i64 ((IntKind.wrap .i64 (vs1.at_ + 1)) + 1))) (-1000000000) 1000000000).bind fun (vs1_2, vr3_3) =>
          some (vs1_2, vr5.set vr3.toNat (api_Sample.mk vy.Device vy.Metric vy.At vr3_3))))))
    (some (vs1, vr5))

noncomputable def fleetmake_Stream_Series_x4 (vs2_1 : fleetmake_Stream) (vx2_1 : List api_Sample) : Option ((fleetmake_Stream × Bool)) :=
  cond (decide (0 < (vx2_1.length : Int)))
    ((fleetmake_Stream_Flip vs2_1 25).bind fun vr6 =>
    some (fleetmake_Stream.mk vs2_1.L (IntKind.wrap .i64 (vs2_1.at_ + 1)), vr6))
    (some (vs2_1, false))

noncomputable def fleetmake_Stream_Series_x3 (vs2_1 : fleetmake_Stream) (vx2_1 : List api_Sample) : Option ((fleetmake_Stream × (List api_Sample))) :=
  (fleetmake_Stream_Series_x4 vs2_1 vx2_1).bind fun (vs4_1, vx3_1) =>
  cond (vx3_1)
    ((at? vx2_1 (IntKind.wrap .i64 ((vx2_1.length : Int) - 1))).bind fun vy1 =>
    (fleetmake_Stream_Pick_o1 vs4_1 ([345686399999, 3456000000, 950400000] : List Int)).bind fun vr7 =>
    (fleetmake_Stream_Pick_o1 (fleetmake_Stream.mk vs4_1.L (IntKind.wrap .i64 (vs4_1.at_ + 1))) ([1000000000, (-1000000000)] : List Int)).bind fun vr8 =>
    some (fleetmake_Stream.mk vs4_1.L (IntKind.wrap .i64 ((IntKind.wrap .i64 (vs4_1.at_ + 1)) + 1)), (vx2_1.set (IntKind.wrap .i64 ((vx2_1.length : Int) - 1)).toNat (api_Sample.mk vy1.Device vy1.Metric vr7 vy1.Value)).set (IntKind.wrap .i64 ((vx2_1.length : Int) - 1)).toNat (api_Sample.mk vy1.Device vy1.Metric vr7 vr8)))
    (some (vs4_1, vx2_1))

noncomputable def fleetmake_Stream_Series (qx : fleetmake_Stream) (qx1 : Int) : Option (fleetmake_Stream × (List api_Sample)) :=
  (fleetmake_Stream_Pick_o1 qx ([0, (-100)] : List Int)).bind fun vr =>
  (fleetmake_Stream_RightSeries (fleetmake_Stream.mk qx.L (IntKind.wrap .i64 (qx.at_ + 1))) qx1 vr).bind fun (vs3, vr5) =>
  (fleetmake_Stream_Series_x1 vs3 vr5).bind fun (vs2_1, vx2_1) =>
  (fleetmake_Stream_Series_x3 vs2_1 vx2_1).bind fun (vs5_1, vx4_1) =>
  some (vs5_1, vx4_1)

/-! ### (*beaconfleet/fleetmake.Stream).Frame -/
noncomputable def fleetmake_Stream_Frame_x2 (qs : fleetmake_Stream) (vr : Int) (vr1 : Int) : Option ((fleetmake_Stream × Bool)) :=
  cond (decide (vr1 < vr))
    ((fleetmake_Stream_Flip (fleetmake_Stream.mk qs.L (IntKind.wrap .i64 ((IntKind.wrap .i64 (qs.at_ + 1)) + 1))) 3).bind fun vr2 =>
    some (fleetmake_Stream.mk qs.L (IntKind.wrap .i64 ((IntKind.wrap .i64 ((IntKind.wrap .i64 (qs.at_ + 1)) + 1)) + 1)), !vr2))
    (some (fleetmake_Stream.mk qs.L (IntKind.wrap .i64 ((IntKind.wrap .i64 (qs.at_ + 1)) + 1)), false))

noncomputable def fleetmake_Stream_Frame_x1 (qs : fleetmake_Stream) (vr : Int) (vr1 : Int) : Option ((fleetmake_Stream × api_Window)) :=
  (fleetmake_Stream_Frame_x2 qs vr vr1).bind fun (vs1, vx1) =>
  cond (vx1)
    (some (vs1, api_Window.mk 0 vr1))
    (some (vs1, api_Window.mk vr vr1))

noncomputable def fleetmake_Stream_Frame_x3 (vs2_1 : fleetmake_Stream) (vw1 : api_Window) : Option ((fleetmake_Stream × api_Window)) :=
  (fleetmake_Stream_Flip vs2_1 15).bind fun vr3 =>
  cond (vr3)
    ((fleetmake_Stream_Odd (fleetmake_Stream.mk vs2_1.L (IntKind.wrap .i64 (vs2_1.at_ + 1))) 0 100).bind fun (vs1_1, vr3_1) =>
    (fleetmake_Stream_Odd vs1_1 0 1000).bind fun (vs1_2, vr3_2) =>
    some (vs1_2, api_Window.mk vr3_1 vr3_2))
    (some (fleetmake_Stream.mk vs2_1.L (IntKind.wrap .i64 (vs2_1.at_ + 1)), vw1))

noncomputable def fleetmake_Stream_Frame_x4 (vs3_1 : fleetmake_Stream) (vw2_1 : api_Window) : Option ((fleetmake_Stream × api_Window)) :=
  (fleetmake_Stream_Flip vs3_1 25).bind fun vr4 =>
  cond (vr4)
    ((fleetmake_Stream_Pick_o1 (fleetmake_Stream.mk vs3_1.L (IntKind.wrap .i64 (vs3_1.at_ + 1))) ([0, 5] : List Int)).bind fun vr5 =>
    (fleetmake_Stream_Pick_o1 (fleetmake_Stream.mk vs3_1.L (IntKind.wrap .i64 ((IntKind.wrap .i64 (vs3_1.at_ + 1)) + 1))) ([345686400000, 345686400001, 7776000000, 7862400000] : List Int)).bind fun vr6 =>
    some (fleetmake_Stream.mk vs3_1.L (IntKind.wrap .i64 ((IntKind.wrap .i64 ((IntKind.wrap .i64 (vs3_1.at_ + 1)) + 1)) + 1)), api_Window.mk vr5 vr6))
    (some (fleetmake_Stream.mk vs3_1.L (IntKind.wrap .i64 (vs3_1.at_ + 1)), vw2_1))

noncomputable def fleetmake_Stream_Frame (qs : fleetmake_Stream) : Option (fleetmake_Stream × api_Window) :=
  (fleetmake_Stream_Pick_o1 qs ([0, 0, 1, 5, 10, 50] : List Int)).bind fun vr =>
  (fleetmake_Stream_Pick_o1 (fleetmake_Stream.mk qs.L (IntKind.wrap .i64 (qs.at_ + 1))) ([10, 50, 100, 300, 3000] : List Int)).bind fun vr1 =>
  (fleetmake_Stream_Frame_x1 qs vr vr1).bind fun (vs2_1, vw1) =>
  (fleetmake_Stream_Frame_x3 vs2_1 vw1).bind fun (vs3_1, vw2_1) =>
  (fleetmake_Stream_Frame_x4 vs3_1 vw2_1).bind fun (vs4_1, vw3_1) =>
  some (vs4_1, vw3_1)

/-! ### beaconfleet/base.Key -/
noncomputable def base_Key_x1 (qs : List UInt8) : Option (Bool) :=
  cond (decide (qs = ([] : List UInt8)))
    (some true)
    (cond (decide (40 < (qs.length : Int)))
      (some true)
      ((at? qs 0).bind fun vc =>
      cond (decide ((vc.toNat : Int) < 97))
        (some true)
        (some (decide (122 < (vc.toNat : Int))))))

noncomputable def base_Key_x3 (vc2 : UInt8) : Option (Bool) :=
  cond (decide (97 ≤ (vc2.toNat : Int)))
    (cond (decide ((vc2.toNat : Int) ≤ 122))
      (some false)
      (cond (decide (48 ≤ (vc2.toNat : Int)))
        (cond (decide ((vc2.toNat : Int) ≤ 57))
          (some false)
          (cond (decide ((vc2.toNat : Int) = 45))
            (some false)
            (some (!(decide ((vc2.toNat : Int) = 95))))))
        (cond (decide ((vc2.toNat : Int) = 45))
          (some false)
          (some (!(decide ((vc2.toNat : Int) = 95)))))))
    (cond (decide (48 ≤ (vc2.toNat : Int)))
      (cond (decide ((vc2.toNat : Int) ≤ 57))
        (some false)
        (cond (decide ((vc2.toNat : Int) = 45))
          (some false)
          (some (!(decide ((vc2.toNat : Int) = 95))))))
      (cond (decide ((vc2.toNat : Int) = 45))
        (some false)
        (some (!(decide ((vc2.toNat : Int) = 95))))))

noncomputable def base_Key_x2 (qs : List UInt8) (vx2 : Int) : Option ((Int) ⊕ (Unit ⊕ Unit)) :=
  cond (decide (vx2 < (qs.length : Int)))
    ((at? qs vx2).bind fun vc2 =>
    (base_Key_x3 vc2).bind fun vx4_1 =>
    cond (vx4_1)
      (some (.inr (.inr ())))
      (some (.inl (IntKind.wrap .i64 (vx2 + 1)))))
    (some (.inr (.inl ())))

noncomputable def base_Key (qs : List UInt8) : Option (Bool) :=
  (base_Key_x1 qs).bind fun vx1 =>
  cond (vx1)
    (some false)
    ((loopO (base_Key_x2 qs) 0).bind fun x => match x with
      | .inl _ =>
        some true
      | .inr _ =>
        some false)

/-! ### beaconfleet/base.Out -/
noncomputable def base_Out_x1 (qn : Int) (qlow : Int) (qhigh : Int) : Option (Bool) :=
  cond (decide (qn < qlow))
    (some true)
    (some (decide (qhigh < qn)))

noncomputable def base_Out (qn : Int) (qlow : Int) (qhigh : Int) : Option (Bool) :=
  (base_Out_x1 qn qlow qhigh).bind fun vx1 =>
  some vx1

/-! ### beaconfleet/base.Moment -/
noncomputable def base_Moment (qn : Int) : Option (Bool) :=
  (base_Out qn 0 345686399999).bind fun vr =>
  some (!vr)

/-! ### internal/bytealg.CompareString -/
noncomputable def bytealg_CompareString (qa : List UInt8) (qb : List UInt8) : Option (Unit) :=
  some ()

/-! ### strings.Compare -/
noncomputable def strings_Compare (qa : List UInt8) (qb : List UInt8) : Option (Unit) :=
  (bytealg_CompareString qa qb).bind fun _ =>
  some ()

/-! ### cmp.isNaN[int] -/
noncomputable def cmp_isNaN_int (qx : Int) : Option (Unit) :=
  some ()

/-! ### cmp.Compare[int] -/
noncomputable def cmp_Compare_int (qx : Int) (qy : Int) : Option (Int) :=
  (cmp_isNaN_int qx).bind fun _ =>
  (cmp_isNaN_int qy).bind fun _ =>
  cond (!decide (qx = qx))
    (cond (!decide (qy = qy))
      (some 0)
      (some (-1)))
    (cond (!decide (qy = qy))
      (some 1)
      (cond (decide (qx < qy))
        (some (-1))
        (cond (decide (qy < qx))
          (some 1)
          (some 0))))

/-! ### cmp.Or[int] -/
noncomputable def cmp_Or_int_x1 (qvals : List Int) (vx : Int) : Option ((Int) ⊕ (Unit ⊕ Int)) :=
  cond (decide (vx < (qvals.length : Int)))
    ((at? qvals vx).bind fun vy1 =>
    cond (!decide (vy1 = 0))
      (some (.inr (.inr vy1)))
      (some (.inl (IntKind.wrap .i64 (vx + 1)))))
    (some (.inr (.inl ())))

noncomputable def cmp_Or_int (qvals : List Int) : Option (Int) :=
  (loopO (cmp_Or_int_x1 qvals) 0).bind fun x => match x with
    | .inl _ =>
      some 0
    | .inr vx1_1 =>
      some vx1_1

/-! ### beaconfleet/series.byDevice -/
noncomputable def series_byDevice (qa : api_Sample) (qb : api_Sample) : Option (Int) :=
  (strings_Compare qa.Device qb.Device).bind fun _ =>
  (strings_Compare qa.Metric qb.Metric).bind fun _ =>
  (cmp_Compare_int qa.At qb.At).bind fun vr =>
  (cmp_Or_int ([Lib.compareBytes qa.Device qb.Device, Lib.compareBytes qa.Metric qb.Metric, vr] : List Int)).bind fun vr1 =>
  some vr1

/-! ### beaconfleet/series.Check -/
noncomputable def series_Check_x2 (vy2 : api_Sample) : Option (Bool) :=
  (base_Key vy2.Device).bind fun vr3 =>
  cond (!vr3)
    (some true)
    ((base_Key vy2.Metric).bind fun vr4 =>
    some (!vr4))

noncomputable def series_Check_x3 (vy2 : api_Sample) : Option (Bool) :=
  (base_Moment vy2.At).bind fun vr1_2 =>
  cond (!vr1_2)
    (some true)
    ((base_Out vy2.Value (-1000000000) 1000000000).bind fun vr5 =>
    some vr5)

noncomputable def series_Check_x4 (ql : List api_Sample) (vx : Int) (vy2 : api_Sample) : Option (Bool) :=
  cond (decide (0 < vx))
    ((at? ql (IntKind.wrap .i64 (vx - 1))).bind fun vy3 =>
    (series_byDevice vy2 vy3).bind fun vr2_2 =>
    some (decide (vr2_2 ≤ 0)))
    (some false)

noncomputable def series_Check_x1 (ql : List api_Sample) (vx : Int) : Option ((Int) ⊕ (Unit ⊕ Int)) :=
  cond (decide (vx < (ql.length : Int)))
    ((at? ql vx).bind fun vy2 =>
    (series_Check_x2 vy2).bind fun vx4_1 =>
    cond (vx4_1)
      (some (.inr (.inr 5)))
      ((series_Check_x3 vy2).bind fun vx5_1 =>
      cond (vx5_1)
        (some (.inr (.inr 1)))
        ((series_Check_x4 ql vx vy2).bind fun vx6_1 =>
        cond (vx6_1)
          (some (.inr (.inr 7)))
          (some (.inl (IntKind.wrap .i64 (vx + 1)))))))
    (some (.inr (.inl ())))

noncomputable def series_Check (ql : List api_Sample) : Option (Int) :=
  cond (decide (5000 < (ql.length : Int)))
    (some 2)
    ((loopO (series_Check_x1 ql) 0).bind fun x => match x with
      | .inl _ =>
        some 0
      | .inr vx7_1 =>
        some vx7_1)

/-! ### beaconfleet/series.CheckSeries$1 -/
noncomputable def series_CheckSeries_1_x1 (qs : api_Sample) (qx : List api_Sample) : Option (Bool) :=
  (at? qx 0).bind fun vy =>
  cond (!decide (qs.Device = vy.Device))
    (some true)
    (some (!decide (qs.Metric = vy.Metric)))

noncomputable def series_CheckSeries_1 (qs : api_Sample) (qx : List api_Sample) : Option (Bool) :=
  (series_CheckSeries_1_x1 qs qx).bind fun vx1 =>
  some vx1

/-! ### slices.IndexFunc[[]beaconfleet/api.Sample,beaconfleet/api.Sample] -/
noncomputable def slices_IndexFunc_api_Sample_api_Sample_f1_series_CheckSeries_1_x1 (qs : List api_Sample) (vx : Int) : Option ((Int) ⊕ (Unit ⊕ Int)) :=
  cond (decide (vx < (qs.length : Int)))
    ((at? qs vx).bind fun vy1 =>
    (series_CheckSeries_1 vy1 qs).bind fun vr1 =>
    cond (vr1)
      (some (.inr (.inr vx)))
      (some (.inl (IntKind.wrap .i64 (vx + 1)))))
    (some (.inr (.inl ())))

noncomputable def slices_IndexFunc_api_Sample_api_Sample_f1_series_CheckSeries_1 (qs : List api_Sample) : Option (Int) :=
  (loopO (slices_IndexFunc_api_Sample_api_Sample_f1_series_CheckSeries_1_x1 qs) 0).bind fun x => match x with
    | .inl _ =>
      some (-1)
    | .inr vx1_1 =>
      some vx1_1

/-! ### slices.ContainsFunc[[]beaconfleet/api.Sample,beaconfleet/api.Sample] -/
noncomputable def slices_ContainsFunc_api_Sample_api_Sample_f1_series_CheckSeries_1 (qs : List api_Sample) : Option (Bool) :=
  (slices_IndexFunc_api_Sample_api_Sample_f1_series_CheckSeries_1 qs).bind fun vr2 =>
  some (decide (0 ≤ vr2))

/-! ### beaconfleet/series.CheckSeries -/
noncomputable def series_CheckSeries (ql : List api_Sample) : Option (Int) :=
  (series_Check ql).bind fun vr6 =>
  cond (!decide (vr6 = 0))
    (some vr6)
    ((slices_ContainsFunc_api_Sample_api_Sample_f1_series_CheckSeries_1 ql).bind fun vr =>
    cond (vr)
      (some 13)
      (some 0))

/-! ### beaconfleet/base.Window -/
noncomputable def base_Window_x1 (qw : api_Window) : Option (Bool) :=
  (base_Out qw.From 0 qw.To).bind fun vr =>
  cond (!vr)
    (some (decide (qw.To ≤ 345686400000)))
    (some false)

noncomputable def base_Window (qw : api_Window) : Option (Bool) :=
  (base_Window_x1 qw).bind fun vx1 =>
  some vx1

/-! ### beaconfleet/series.fault -/
noncomputable def series_fault_x2 (qw : api_Window) (vr1 : Int) : Option (Bool) :=
  cond (decide (vr1 = 0))
    ((base_Window qw).bind fun vr1_1 =>
    some (!vr1_1))
    (some false)

noncomputable def series_fault_x1 (qw : api_Window) (vr1 : Int) : Option (Int) :=
  (series_fault_x2 qw vr1).bind fun vx1 =>
  cond (vx1)
    (some 1)
    (some vr1)

noncomputable def series_fault (ql : List api_Sample) (qw : api_Window) : Option (Int) :=
  (series_CheckSeries ql).bind fun vr1 =>
  (series_fault_x1 qw vr1).bind fun ve1 =>
  some ve1

/-! ### beaconfleet/base.Down -/
noncomputable def base_Down_x1 (qa : Int) (qb : Int) : Option (Int) :=
  gd (!(qb == 0)) <|
  cond (decide ((qa.tmod qb) < 0))
    (some (IntKind.wrap .i64 ((IntKind.wrap .i64 (qa.tdiv qb)) - 1)))
    (some (IntKind.wrap .i64 (qa.tdiv qb)))

noncomputable def base_Down (qa : Int) (qb : Int) : Option (Int) :=
  gd (!(qb == 0)) <|
  (base_Down_x1 qa qb).bind fun vq1 =>
  some vq1

/-! ### beaconfleet/series.Fill -/
noncomputable def series_Fill_x1 (qx3 : Int) : Option (Bool) :=
  cond (!decide (qx3 = 1))
    (some (!decide (qx3 = 2)))
    (some false)

noncomputable def series_Fill_x5 (qx : List api_Sample) (vx4 : Int) (vx14 : Int) : Option (Bool) :=
  cond (decide ((IntKind.wrap .i64 (vx14 + 1)) < (qx.length : Int)))
    ((at? qx (IntKind.wrap .i64 (vx14 + 1))).bind fun vy6 =>
    some (decide (vy6.At ≤ vx4)))
    (some false)

noncomputable def series_Fill_x4 (qx : List api_Sample) (vx4 : Int) (vx14 : Int) : Option ((Int) ⊕ (Int)) :=
  (series_Fill_x5 qx vx4 vx14).bind fun vx16_1 =>
  cond (vx16_1)
    (some (.inl (IntKind.wrap .i64 (vx14 + 1))))
    (some (.inr vx14))

noncomputable def series_Fill_x7 (qx3 : Int) (vx4 : Int) (vy7 : api_Sample) : Option (Bool) :=
  cond (decide (qx3 = 2))
    (some (decide (vy7.At < vx4)))
    (some false)

noncomputable def series_Fill_x8 (qx : List api_Sample) (vx17_1 : Int) (vy7 : api_Sample) : Option (Bool) :=
  cond (decide ((IntKind.wrap .i64 (vx17_1 + 1)) = (qx.length : Int)))
    (some true)
    ((at? qx (IntKind.wrap .i64 (vx17_1 + 1))).bind fun vy8 =>
    some (decide (2592000000 < (IntKind.wrap .i64 (vy8.At - vy7.At)))))

noncomputable def series_Fill_x6 (qx : List api_Sample) (qx3 : Int) (vx4 : Int) (vx17_1 : Int) (vy7 : api_Sample) : Option (api_Sample ⊕ Unit) :=
  (series_Fill_x7 qx3 vx4 vy7).bind fun vx18_1 =>
  cond (vx18_1)
    ((series_Fill_x8 qx vx17_1 vy7).bind fun vx19_1 =>
    cond (vx19_1)
      (some (.inr ()))
      ((at? qx (IntKind.wrap .i64 (vx17_1 + 1))).bind fun vy9 =>
      (base_Down (IntKind.wrap .i64 ((IntKind.wrap .i64 (vy9.Value - vy7.Value)) * (IntKind.wrap .i64 (vx4 - vy7.At)))) (IntKind.wrap .i64 (vy9.At - vy7.At))).bind fun vr3 =>
      some (.inl (api_Sample.mk vy7.Device vy7.Metric vy7.At (IntKind.wrap .i64 (vy7.Value + vr3))))))
    (some (.inl vy7))

noncomputable def series_Fill_x3 (qx : List api_Sample) (qx3 : Int) (vx2 : List api_Sample) (vx3 : Int) (vx4 : Int) : Option (((List api_Sample) × Int)) :=
  (loopO (series_Fill_x4 qx vx4) vx3).bind fun vx17_1 =>
  cond (decide (vx17_1 < 0))
    (some (vx2, vx17_1))
    ((at? qx vx17_1).bind fun vy7 =>
    (series_Fill_x6 qx qx3 vx4 vx17_1 vy7).bind fun x => match x with
      | .inl vx20_1 =>
        gd (Nat.ble (vx2.length + ([api_Sample.mk vx20_1.Device vx20_1.Metric vx4 vx20_1.Value] : List api_Sample).length) LIM) <|
        some (vx2 ++ ([api_Sample.mk vx20_1.Device vx20_1.Metric vx4 vx20_1.Value] : List api_Sample), vx17_1)
      | .inr _ =>
        some (vx2, vx17_1))

noncomputable def series_Fill_x2 (qx : List api_Sample) (qx1 : api_Window) (qx2 : Int) (qx3 : Int) : (List api_Sample) × Int × Int → Option (((List api_Sample) × Int × Int) ⊕ ((List api_Sample)))
  | (vx2, vx3, vx4) =>
  cond (decide (vx4 < qx1.To))
    ((series_Fill_x3 qx qx3 vx2 vx3 vx4).bind fun (vx21_1, vx22_1) =>
    some (.inl (vx21_1, vx22_1, IntKind.wrap .i64 (vx4 + qx2))))
    (some (.inr vx2))

noncomputable def series_Fill (qx : List api_Sample) (qx1 : api_Window) (qx2 : Int) (qx3 : Int) : Option ((List api_Sample) × Int) :=
  (series_fault qx qx1).bind fun vr =>
  cond (!decide (vr = 0))
    (some ([], vr))
    ((base_Out qx2 1 345686400000).bind fun vr1 =>
    cond (vr1)
      (some ([], 1))
      ((series_Fill_x1 qx3).bind fun vx1 =>
      cond (vx1)
        (some ([], 4))
        (gd (!(qx2 == 0)) <|
        cond (decide (5000 < (IntKind.wrap .i64 ((IntKind.wrap .i64 ((IntKind.wrap .i64 ((IntKind.wrap .i64 (qx1.To - qx1.From)) + qx2)) - 1)).tdiv qx2))))
          (some ([], 2))
          ((loopO (series_Fill_x2 qx qx1 qx2 qx3) ([], (-1), qx1.From)).bind fun vx23_1 =>
          some (vx23_1, 0)))))

/-! ### beaconfleet/fleetref2.in -/
noncomputable def fleetref2_in_x1 (qn : Int) (qlow : Int) (qhigh : Int) : Option (Bool) :=
  cond (decide (qlow ≤ qn))
    (some (decide (qn ≤ qhigh)))
    (some false)

noncomputable def fleetref2_in (qn : Int) (qlow : Int) (qhigh : Int) : Option (Bool) :=
  (fleetref2_in_x1 qn qlow qhigh).bind fun vx1 =>
  some vx1

/-! ### internal/stringslite.IndexByte -/
noncomputable def stringslite_IndexByte (qs : List UInt8) (qc : Int) : Option (Unit) :=
  some ()

/-! ### strings.IndexByte -/
noncomputable def strings_IndexByte (qs : List UInt8) (qc : Int) : Option (Unit) :=
  (stringslite_IndexByte qs qc).bind fun _ =>
  some ()

/-! ### beaconfleet/fleetref2.only -/
noncomputable def fleetref2_only_x1 (qs : List UInt8) (qsome : List UInt8) (vx : Int) : Option ((Int) ⊕ (Unit ⊕ Unit)) :=
  cond (decide (vx < (qs.length : Int)))
    ((at? qs vx).bind fun vc1 =>
    (strings_IndexByte qsome (vc1.toNat : Int)).bind fun _ =>
    cond (decide ((Lib.indexByte qsome (vc1.toNat : Int).toNat.toUInt8) < 0))
      (some (.inr (.inr ())))
      (some (.inl (IntKind.wrap .i64 (vx + 1)))))
    (some (.inr (.inl ())))

noncomputable def fleetref2_only (qs : List UInt8) (qsome : List UInt8) : Option (Bool) :=
  (loopO (fleetref2_only_x1 qs qsome) 0).bind fun x => match x with
    | .inl _ =>
      some true
    | .inr _ =>
      some false

/-! ### beaconfleet/fleetref2.Key -/
noncomputable def fleetref2_Key_x1 (qs : List UInt8) : Option (Bool) :=
  (fleetref2_in (qs.length : Int) 1 40).bind fun vr =>
  cond (vr)
    ((sub? qs 0 1).bind fun vs =>
    (fleetref2_only vs ([97, 98, 99, 100, 101, 102, 103, 104, 105, 106, 107, 108, 109, 110, 111, 112, 113, 114, 115, 116, 117, 118, 119, 120, 121, 122] : List UInt8)).bind fun vr1 =>
    cond (vr1)
      ((fleetref2_only qs ([97, 98, 99, 100, 101, 102, 103, 104, 105, 106, 107, 108, 109, 110, 111, 112, 113, 114, 115, 116, 117, 118, 119, 120, 121, 122, 48, 49, 50, 51, 52, 53, 54, 55, 56, 57, 45, 95] : List UInt8)).bind fun vr2 =>
      some vr2)
      (some false))
    (some false)

noncomputable def fleetref2_Key (qs : List UInt8) : Option (Bool) :=
  (fleetref2_Key_x1 qs).bind fun vx1 =>
  some vx1

/-! ### beaconfleet/fleetref2.Moment -/
noncomputable def fleetref2_Moment (qat : Int) : Option (Bool) :=
  (fleetref2_in qat 0 345686399999).bind fun vr =>
  some vr

/-! ### cmp.isNaN[string] -/
noncomputable def cmp_isNaN_string (qx : List UInt8) : Option (Unit) :=
  some ()

/-! ### cmp.Compare[string] -/
noncomputable def cmp_Compare_string (qx : List UInt8) (qy : List UInt8) : Option (Int) :=
  (cmp_isNaN_string qx).bind fun _ =>
  (cmp_isNaN_string qy).bind fun _ =>
  cond (!decide (qx = qx))
    (cond (!decide (qy = qy))
      (some 0)
      (some (-1)))
    (cond (!decide (qy = qy))
      (some 1)
      (cond (Op.bytesLess qx qy)
        (some (-1))
        (cond (!(Op.bytesLess qx qy || decide (qx = qy)))
          (some 1)
          (some 0))))

/-! ### slices.Compare[[]string,string] -/
noncomputable def slices_Compare_string_string_x1 (qs1 : List (List UInt8)) (qs2 : List (List UInt8)) (vx : Int) : Option ((Int) ⊕ (Unit ⊕ Int)) :=
  cond (decide (vx < (qs1.length : Int)))
    ((at? qs1 vx).bind fun vy2 =>
    cond (decide ((qs2.length : Int) ≤ vx))
      (some (.inr (.inr 1)))
      ((at? qs2 vx).bind fun vy3 =>
      (cmp_Compare_string vy2 vy3).bind fun vr1 =>
      cond (!decide (vr1 = 0))
        (some (.inr (.inr vr1)))
        (some (.inl (IntKind.wrap .i64 (vx + 1))))))
    (some (.inr (.inl ())))

noncomputable def slices_Compare_string_string (qs1 : List (List UInt8)) (qs2 : List (List UInt8)) : Option (Int) :=
  (loopO (slices_Compare_string_string_x1 qs1 qs2) 0).bind fun x => match x with
    | .inl _ =>
      cond (decide ((qs1.length : Int) < (qs2.length : Int)))
        (some (-1))
        (some 0)
    | .inr vx1_1 =>
      some vx1_1

/-! ### beaconfleet/fleetref2.sign -/
noncomputable def fleetref2_sign (qn : Int) : Option (Int) :=
  cond (decide (qn < 0))
    (some (-1))
    (cond (decide (0 < qn))
      (some 1)
      (some 0))

/-! ### beaconfleet/fleetref2.SampleOrder -/
noncomputable def fleetref2_SampleOrder (qa : api_Sample) (qb : api_Sample) : Option (Int) :=
  (slices_Compare_string_string ([qa.Device, qa.Metric] : List (List UInt8)) ([qb.Device, qb.Metric] : List (List UInt8))).bind fun vr2 =>
  cond (!decide (vr2 = 0))
    (some vr2)
    ((fleetref2_sign (IntKind.wrap .i64 (qa.At - qb.At))).bind fun vr =>
    some vr)

/-! ### beaconfleet/fleetref2.SamplesFault -/
noncomputable def fleetref2_SamplesFault_x2 (vy2 : api_Sample) : Option (Bool) :=
  (fleetref2_Key vy2.Device).bind fun vr3_2 =>
  cond (!vr3_2)
    (some true)
    ((fleetref2_Key vy2.Metric).bind fun vr3_3 =>
    some (!vr3_3))

noncomputable def fleetref2_SamplesFault_x3 (vy2 : api_Sample) : Option (Bool) :=
  (fleetref2_Moment vy2.At).bind fun vr1_2 =>
  cond (!vr1_2)
    (some true)
    ((fleetref2_in vy2.Value (-1000000000) 1000000000).bind fun vr2 =>
    some (!vr2))

noncomputable def fleetref2_SamplesFault_x4 (ql : List api_Sample) (vx : Int) (vy2 : api_Sample) : Option (Bool) :=
  cond (decide (0 < vx))
    ((at? ql (IntKind.wrap .i64 (vx - 1))).bind fun vy3 =>
    (fleetref2_SampleOrder vy3 vy2).bind fun vr1_3 =>
    some (decide (0 ≤ vr1_3)))
    (some false)

noncomputable def fleetref2_SamplesFault_x1 (ql : List api_Sample) (vx : Int) : Option ((Int) ⊕ (Unit ⊕ Int)) :=
  cond (decide (vx < (ql.length : Int)))
    ((at? ql vx).bind fun vy2 =>
    (fleetref2_SamplesFault_x2 vy2).bind fun vx4_1 =>
    cond (vx4_1)
      (some (.inr (.inr 5)))
      ((fleetref2_SamplesFault_x3 vy2).bind fun vx5_1 =>
      cond (vx5_1)
        (some (.inr (.inr 1)))
        ((fleetref2_SamplesFault_x4 ql vx vy2).bind fun vx6_1 =>
        cond (vx6_1)
          (some (.inr (.inr 7)))
          (some (.inl (IntKind.wrap .i64 (vx + 1)))))))
    (some (.inr (.inl ())))

noncomputable def fleetref2_SamplesFault (ql : List api_Sample) : Option (Int) :=
  cond (decide (5000 < (ql.length : Int)))
    (some 2)
    ((loopO (fleetref2_SamplesFault_x1 ql) 0).bind fun x => match x with
      | .inl _ =>
        some 0
      | .inr vx7_1 =>
        some vx7_1)

/-! ### beaconfleet/fleetref2.SeriesFault$1 -/
noncomputable def fleetref2_SeriesFault_1_x1 (qs : api_Sample) (qx : List api_Sample) : Option (Bool) :=
  (at? qx 0).bind fun vy =>
  cond (!decide (qs.Device = vy.Device))
    (some true)
    (some (!decide (qs.Metric = vy.Metric)))

noncomputable def fleetref2_SeriesFault_1 (qs : api_Sample) (qx : List api_Sample) : Option (Bool) :=
  (fleetref2_SeriesFault_1_x1 qs qx).bind fun vx1 =>
  some vx1

/-! ### slices.IndexFunc[[]beaconfleet/api.Sample,beaconfleet/api.Sample] -/
noncomputable def slices_IndexFunc_api_Sample_api_Sample_f1_fleetref2_SeriesFault_1_x1 (qs : List api_Sample) (vx : Int) : Option ((Int) ⊕ (Unit ⊕ Int)) :=
  cond (decide (vx < (qs.length : Int)))
    ((at? qs vx).bind fun vy1 =>
    (fleetref2_SeriesFault_1 vy1 qs).bind fun vr1 =>
    cond (vr1)
      (some (.inr (.inr vx)))
      (some (.inl (IntKind.wrap .i64 (vx + 1)))))
    (some (.inr (.inl ())))

noncomputable def slices_IndexFunc_api_Sample_api_Sample_f1_fleetref2_SeriesFault_1 (qs : List api_Sample) : Option (Int) :=
  (loopO (slices_IndexFunc_api_Sample_api_Sample_f1_fleetref2_SeriesFault_1_x1 qs) 0).bind fun x => match x with
    | .inl _ =>
      some (-1)
    | .inr vx1_1 =>
      some vx1_1

/-! ### slices.ContainsFunc[[]beaconfleet/api.Sample,beaconfleet/api.Sample] -/
noncomputable def slices_ContainsFunc_api_Sample_api_Sample_f1_fleetref2_SeriesFault_1 (qs : List api_Sample) : Option (Bool) :=
  (slices_IndexFunc_api_Sample_api_Sample_f1_fleetref2_SeriesFault_1 qs).bind fun vr2 =>
  some (decide (0 ≤ vr2))

/-! ### beaconfleet/fleetref2.SeriesFault -/
noncomputable def fleetref2_SeriesFault (ql : List api_Sample) : Option (Int) :=
  (fleetref2_SamplesFault ql).bind fun vr4 =>
  cond (!decide (vr4 = 0))
    (some vr4)
    ((slices_ContainsFunc_api_Sample_api_Sample_f1_fleetref2_SeriesFault_1 ql).bind fun vr =>
    cond (vr)
      (some 13)
      (some 0))

/-! ### beaconfleet/fleetref2.WindowFault -/
noncomputable def fleetref2_WindowFault_x1 (qw : api_Window) : Option (Bool) :=
  (fleetref2_in qw.From 0 qw.To).bind fun vr =>
  cond (!vr)
    (some true)
    (some (decide (345686400000 < qw.To)))

noncomputable def fleetref2_WindowFault (qw : api_Window) : Option (Int) :=
  (fleetref2_WindowFault_x1 qw).bind fun vx1 =>
  cond (vx1)
    (some 1)
    (some 0)

/-! ### beaconfleet/fleetlaw2.when -/
noncomputable def fleetlaw2_when (qis : Bool) (qe : Int) : Option (Int) :=
  cond (qis)
    (some qe)
    (some 0)

/-! ### beaconfleet/fleetlaw2.errs -/
noncomputable def fleetlaw2_errs_x1 (ql : List Int) (vx : Int) : Option ((Int) ⊕ (Unit ⊕ Int)) :=
  cond (decide (vx < (ql.length : Int)))
    ((at? ql vx).bind fun vy1 =>
    cond (!decide (vy1 = 0))
      (some (.inr (.inr vy1)))
      (some (.inl (IntKind.wrap .i64 (vx + 1)))))
    (some (.inr (.inl ())))

noncomputable def fleetlaw2_errs (ql : List Int) : Option (Int) :=
  (loopO (fleetlaw2_errs_x1 ql) 0).bind fun x => match x with
    | .inl _ =>
      some 0
    | .inr vx1_1 =>
      some vx1_1

/-! ### beaconfleet/fleetref2.floor -/
noncomputable def fleetref2_floor (qa : Int) (qb : Int) : Option (Int) :=
  gd (!(qb == 0)) <|
  cond (decide ((qa.tmod qb) < 0))
    (some (IntKind.wrap .i64 ((IntKind.wrap .i64 (qa.tdiv qb)) - 1)))
    (some (IntKind.wrap .i64 (qa.tdiv qb)))

/-! ### beaconfleet/fleetref2.FillOf -/
noncomputable def fleetref2_FillOf_x5 (vx1 : Int) (vx19 : Int) (vx21 : Int) (vy5 : api_Sample) : Option (Int) :=
  cond (decide (vy5.At ≤ vx1))
    (some vx21)
    (some vx19)

noncomputable def fleetref2_FillOf_x6 (vx1 : Int) (vx20 : Int) (vy5 : api_Sample) : Option (Bool) :=
  cond (decide (vx1 ≤ vy5.At))
    (some (decide (vx20 < 0)))
    (some false)

noncomputable def fleetref2_FillOf_x4 (qx : List api_Sample) (vx1 : Int) (vx19 : Int) (vx20 : Int) (vx21 : Int) : Option ((Int × Int)) :=
  (at? qx vx21).bind fun vy5 =>
  (fleetref2_FillOf_x5 vx1 vx19 vx21 vy5).bind fun vx26_1 =>
  (fleetref2_FillOf_x6 vx1 vx20 vy5).bind fun vx27_1 =>
  cond (vx27_1)
    (some (vx26_1, vx21))
    (some (vx26_1, vx20))

noncomputable def fleetref2_FillOf_x3 (qx : List api_Sample) (vx1 : Int) : Int × Int × Int → Option ((Int × Int × Int) ⊕ ((Int × Int)))
  | (vx19, vx20, vx21) =>
  cond (decide (vx21 < (qx.length : Int)))
    ((fleetref2_FillOf_x4 qx vx1 vx19 vx20 vx21).bind fun (vx28_1, vx29_1) =>
    some (.inl (vx28_1, vx29_1, IntKind.wrap .i64 (vx21 + 1))))
    (some (.inr (vx19, vx20)))

noncomputable def fleetref2_FillOf_x7 (qx3 : Int) (vx30_1 : Int) (vx31_1 : Int) : Option (Bool) :=
  cond (decide (vx30_1 < 0))
    (some true)
    (cond (decide (qx3 = 2))
      (some (decide (vx31_1 < 0)))
      (some false))

noncomputable def fleetref2_FillOf_x9 (qx3 : Int) (vx30_1 : Int) (vx31_1 : Int) : Option (Bool) :=
  cond (decide (qx3 = 2))
    (some (!decide (vx31_1 = vx30_1)))
    (some false)

noncomputable def fleetref2_FillOf_x8 (qx : List api_Sample) (qx3 : Int) (vx1 : Int) (vx30_1 : Int) (vx31_1 : Int) (vy6 : api_Sample) : Option (api_Sample ⊕ Unit) :=
  (fleetref2_FillOf_x9 qx3 vx30_1 vx31_1).bind fun vx33_1 =>
  cond (vx33_1)
    ((at? qx vx31_1).bind fun vy7 =>
    cond (decide (2592000000 < (IntKind.wrap .i64 (vy7.At - vy6.At))))
      (some (.inr ()))
      ((fleetref2_floor (IntKind.wrap .i64 ((IntKind.wrap .i64 (vy7.Value - vy6.Value)) * (IntKind.wrap .i64 (vx1 - vy6.At)))) (IntKind.wrap .i64 (vy7.At - vy6.At))).bind fun vr1 =>
      some (.inl (api_Sample.mk vy6.Device vy6.Metric vy6.At (IntKind.wrap .i64 (vy6.Value + vr1))))))
    (some (.inl vy6))

noncomputable def fleetref2_FillOf_x2 (qx : List api_Sample) (qx3 : Int) (vx : List api_Sample) (vx1 : Int) : Option ((List api_Sample)) :=
  (loopO (fleetref2_FillOf_x3 qx vx1) ((-1), (-1), 0)).bind fun (vx30_1, vx31_1) =>
  (fleetref2_FillOf_x7 qx3 vx30_1 vx31_1).bind fun vx32_1 =>
  cond (vx32_1)
    (some vx)
    ((at? qx vx30_1).bind fun vy6 =>
    (fleetref2_FillOf_x8 qx qx3 vx1 vx30_1 vx31_1 vy6).bind fun x => match x with
      | .inl vx34_1 =>
        gd (Nat.ble (vx.length + ([api_Sample.mk vx34_1.Device vx34_1.Metric vx1 vx34_1.Value] : List api_Sample).length) LIM) <|
        some (vx ++ ([api_Sample.mk vx34_1.Device vx34_1.Metric vx1 vx34_1.Value] : List api_Sample))
      | .inr _ =>
        some vx)

noncomputable def fleetref2_FillOf_x1 (qx : List api_Sample) (qx1 : api_Window) (qx2 : Int) (qx3 : Int) : (List api_Sample) × Int → Option (((List api_Sample) × Int) ⊕ ((List api_Sample)))
  | (vx, vx1) =>
  cond (decide (vx1 < qx1.To))
    ((fleetref2_FillOf_x2 qx qx3 vx vx1).bind fun vx35_1 =>
    some (.inl (vx35_1, IntKind.wrap .i64 (vx1 + qx2))))
    (some (.inr vx))

noncomputable def fleetref2_FillOf (qx : List api_Sample) (qx1 : api_Window) (qx2 : Int) (qx3 : Int) : Option ((List api_Sample) × Int) :=
  gd (!(qx2 == 0)) <|
  cond (decide (5000 < (IntKind.wrap .i64 ((IntKind.wrap .i64 ((IntKind.wrap .i64 ((IntKind.wrap .i64 (qx1.To - qx1.From)) + qx2)) - 1)).tdiv qx2))))
    (some ([], 2))
    ((loopO (fleetref2_FillOf_x1 qx qx1 qx2 qx3) ([], qx1.From)).bind fun vx36_1 =>
    some (vx36_1, 0))

/-! ### slices.Equal[[]beaconfleet/api.Sample,beaconfleet/api.Sample] -/
noncomputable def slices_Equal_api_Sample_api_Sample_x1 (qs1 : List api_Sample) (qs2 : List api_Sample) (vx : Int) : Option ((Int) ⊕ (Unit ⊕ Unit)) :=
  cond (decide (vx < (qs1.length : Int)))
    ((at? qs1 vx).bind fun vy2 =>
    (at? qs2 vx).bind fun vy3 =>
    cond (!(decide (vy2.Device = vy3.Device) && (decide (vy2.Metric = vy3.Metric) && (decide (vy2.At = vy3.At) && (decide (vy2.Value = vy3.Value) && true)))))
      (some (.inr (.inr ())))
      (some (.inl (IntKind.wrap .i64 (vx + 1)))))
    (some (.inr (.inl ())))

noncomputable def slices_Equal_api_Sample_api_Sample (qs1 : List api_Sample) (qs2 : List api_Sample) : Option (Bool) :=
  cond (!decide ((qs1.length : Int) = (qs2.length : Int)))
    (some false)
    ((loopO (slices_Equal_api_Sample_api_Sample_x1 qs1 qs2) 0).bind fun x => match x with
      | .inl _ =>
        some true
      | .inr _ =>
        some false)

/-! ### beaconfleet/series.seven -/
noncomputable def series_seven_n0_x1 : (List Int) × Int → Option (((List Int) × Int) ⊕ (((List Int) × Int)))
  | (vb, vn) =>
  cond (decide (128 ≤ vn))
    (gd (Nat.ble (vb.length + ([ibits .or .u8 (IntKind.wrap .u8 (ibits .and .u64 vn 127)) 128] : List Int).length) LIM) <|
    some (.inl (vb ++ ([ibits .or .u8 (IntKind.wrap .u8 (ibits .and .u64 vn 127)) 128] : List Int), ishr .u64 vn 7)))
    (some (.inr (vb, vn)))

noncomputable def series_seven_n0 (qn : Int) : Option ((List Int)) :=
  (loopO series_seven_n0_x1 ([], qn)).bind fun (vb1_1, vn1_1) =>
  gd (Nat.ble (vb1_1.length + ([IntKind.wrap .u8 (vn1_1)] : List Int).length) LIM) <|
  some (vb1_1 ++ ([IntKind.wrap .u8 (vn1_1)] : List Int))

/-! ### beaconfleet/series.doubled -/
noncomputable def series_doubled (qn : Int) : Option (Int) :=
  cond (decide (qn < 0))
    (some (IntKind.wrap .u64 (IntKind.wrap .i64 ((IntKind.wrap .i64 (((-2) : Int) * qn)) - 1))))
    (some (IntKind.wrap .u64 (IntKind.wrap .i64 ((2 : Int) * qn))))

/-! ### beaconfleet/series.seven -/
noncomputable def series_seven_o0_x1 : (List Int) × Int → Option (((List Int) × Int) ⊕ (((List Int) × Int)))
  | (vb, vn) =>
  cond (decide (128 ≤ vn))
    (gd (Nat.ble (vb.length + ([ibits .or .u8 (IntKind.wrap .u8 (ibits .and .u64 vn 127)) 128] : List Int).length) LIM) <|
    some (.inl (vb ++ ([ibits .or .u8 (IntKind.wrap .u8 (ibits .and .u64 vn 127)) 128] : List Int), ishr .u64 vn 7)))
    (some (.inr (vb, vn)))

noncomputable def series_seven_o0 (qb : List Int) (qn : Int) : Option ((List Int)) :=
  (loopO series_seven_o0_x1 (qb, qn)).bind fun (vb1_1, vn1_1) =>
  gd (Nat.ble (vb1_1.length + ([IntKind.wrap .u8 (vn1_1)] : List Int).length) LIM) <|
  some (vb1_1 ++ ([IntKind.wrap .u8 (vn1_1)] : List Int))

/-! ### beaconfleet/series.pack -/
noncomputable def series_pack_x2 (vat : Int) (vby : Int) (vx : Int) (vy1 : api_Sample) : Option (Int) :=
  cond (decide (0 < vx))
    (some (IntKind.wrap .i64 (vy1.At - vat)))
    (some vby)

noncomputable def series_pack_x1 (ql : List api_Sample) : (List Int) × Int × Int × Int × Int → Option (((List Int) × Int × Int × Int × Int) ⊕ ((List Int)))
  | (vout, vat, vby, vvalue, vx) =>
  cond (decide (vx < (ql.length : Int)))
    ((at? ql vx).bind fun vy1 =>
    (series_doubled (IntKind.wrap .i64 ((IntKind.wrap .i64 (vy1.At - vat)) - vby))).bind fun vr5 =>
    (series_seven_o0 vout vr5).bind fun vr6 =>
    (series_doubled (IntKind.wrap .i64 (vy1.Value - vvalue))).bind fun vr7 =>
    (series_seven_o0 vr6 vr7).bind fun vr8 =>
    (series_pack_x2 vat vby vx vy1).bind fun vby2_1 =>
    some (.inl (vr8, vy1.At, vby2_1, vy1.Value, IntKind.wrap .i64 (vx + 1))))
    (some (.inr vout))

noncomputable def series_pack (ql : List api_Sample) : Option ((List Int)) :=
  (series_seven_n0 (IntKind.wrap .u64 ((ql.length : Int)))).bind fun vr =>
  (loopO (series_pack_x1 ql) (vr, 0, 0, 0, 0)).bind fun vout1_1 =>
  some vout1_1

/-! ### beaconfleet/series.Pack -/
noncomputable def series_Pack_o0 (ql : List api_Sample) : Option ((List Int) × Int) :=
  (series_CheckSeries ql).bind fun vr1 =>
  cond (!decide (vr1 = 0))
    (some ([], vr1))
    ((series_pack ql).bind fun vr9 =>
    some (vr9, 0))

/-! ### slices.Equal[[]byte,byte] -/
noncomputable def slices_Equal_byte_byte_x1 (qs1 : List Int) (qs2 : List Int) (vx : Int) : Option ((Int) ⊕ (Unit ⊕ Unit)) :=
  cond (decide (vx < (qs1.length : Int)))
    ((at? qs1 vx).bind fun vy2 =>
    (at? qs2 vx).bind fun vy3 =>
    cond (!decide (vy2 = vy3))
      (some (.inr (.inr ())))
      (some (.inl (IntKind.wrap .i64 (vx + 1)))))
    (some (.inr (.inl ())))

noncomputable def slices_Equal_byte_byte (qs1 : List Int) (qs2 : List Int) : Option (Bool) :=
  cond (!decide ((qs1.length : Int) = (qs2.length : Int)))
    (some false)
    ((loopO (slices_Equal_byte_byte_x1 qs1 qs2) 0).bind fun x => match x with
      | .inl _ =>
        some true
      | .inr _ =>
        some false)

/-! ### beaconfleet/fleetlaw2.measured -/
noncomputable def fleetlaw2_measured_x1 (vr : List Int) (vr2 : Int) : Option (Bool) :=
  cond (decide (vr2 = 0))
    ((slices_Equal_byte_byte vr ([1, 2, 2] : List Int)).bind fun vr1 =>
    some vr1)
    (some false)

noncomputable def fleetlaw2_measured : Option (Bool) :=
  (series_Pack_o0 ([api_Sample.mk ([100] : List UInt8) ([109] : List UInt8) 1 1] : List api_Sample)).bind fun (vr, vr2) =>
  (fleetlaw2_measured_x1 vr vr2).bind fun vx1 =>
  some vx1

/-! ### beaconfleet/fleetlaw2.SeriesFilled -/
noncomputable def fleetlaw2_SeriesFilled_x2 (vs5 : fleetmake_Stream) (vr7 : api_Window) : Option (Bool) :=
  (fleetmake_Stream_Flip (fleetmake_Stream.mk vs5.L (IntKind.wrap .i64 ((IntKind.wrap .i64 (vs5.at_ + 1)) + 1))) 2).bind fun vr2 =>
  cond (vr2)
    (cond (decide (vr7.To ≤ 345686400000))
      (some (decide (400 < (IntKind.wrap .i64 (vr7.To - vr7.From)))))
      (some false))
    (some false)

noncomputable def fleetlaw2_SeriesFilled_x1 (vs5 : fleetmake_Stream) (vr7 : api_Window) (vr : Int) : Option (Int) :=
  (fleetlaw2_SeriesFilled_x2 vs5 vr7).bind fun vx1 =>
  cond (vx1)
    (some (imax vr 100))
    (some vr)

noncomputable def fleetlaw2_SeriesFilled_x3 (vr9 : List api_Sample) (vr7 : api_Window) (vr1 : Int) (vx2_1 : Int) : Option (Int) :=
  (fleetref2_SeriesFault vr9).bind fun vr1_1 =>
  (fleetref2_WindowFault vr7).bind fun vr1_2 =>
  cond (decide (vx2_1 < 1))
    ((fleetlaw2_when true 1).bind fun vr3 =>
    cond (!decide (vr1 = 1))
      ((fleetlaw2_when (!decide (vr1 = 2)) 4).bind fun vr6 =>
      (fleetlaw2_errs ([vr1_1, vr1_2, vr3, vr6] : List Int)).bind fun vr8 =>
      some vr8)
      ((fleetlaw2_when false 4).bind fun vr10 =>
      (fleetlaw2_errs ([vr1_1, vr1_2, vr3, vr10] : List Int)).bind fun vr11 =>
      some vr11))
    ((fleetlaw2_when (decide (345686400000 < vx2_1)) 1).bind fun vr12 =>
    cond (!decide (vr1 = 1))
      ((fleetlaw2_when (!decide (vr1 = 2)) 4).bind fun vr13 =>
      (fleetlaw2_errs ([vr1_1, vr1_2, vr12, vr13] : List Int)).bind fun vr14 =>
      some vr14)
      ((fleetlaw2_when false 4).bind fun vr15 =>
      (fleetlaw2_errs ([vr1_1, vr1_2, vr12, vr15] : List Int)).bind fun vr16 =>
      some vr16))

noncomputable def fleetlaw2_SeriesFilled_x4 (vr9 : List api_Sample) (vr7 : api_Window) (vr1 : Int) (vx2_1 : Int) (vx3_1 : Int) : Option ((Int × (List api_Sample))) :=
  cond (decide (vx3_1 = 0))
    ((fleetref2_FillOf vr9 vr7 vx2_1 vr1).bind fun (vr2_1, vr3_1) =>
    some (vr3_1, vr2_1))
    (some (vx3_1, []))

noncomputable def fleetlaw2_SeriesFilled_x5 (vr4 : List api_Sample) (vr5 : Int) (vx4_1 : Int) (vx5_1 : List api_Sample) : Option (Bool) :=
  cond (decide (vr5 = vx4_1))
    ((slices_Equal_api_Sample_api_Sample vr4 vx5_1).bind fun vr17 =>
    cond (vr17)
      ((fleetlaw2_measured).bind fun vr3_2 =>
      some vr3_2)
      (some false))
    (some false)

noncomputable def fleetlaw2_SeriesFilled (qx : List Int) : Option (Bool) :=
  (fleetmake_Stream_Series (fleetmake_Stream.mk qx 0) 9).bind fun (vs6, vr9) =>
  (fleetmake_Stream_Frame vs6).bind fun (vs5, vr7) =>
  (fleetmake_Stream_Pick_o1 vs5 ([1, 5, 10, 33, 100, 0, 345686400000, 345686400001] : List Int)).bind fun vr =>
  (fleetmake_Stream_Pick_o1 (fleetmake_Stream.mk vs5.L (IntKind.wrap .i64 (vs5.at_ + 1))) ([1, 1, 2, 2, 2, 0, 3] : List Int)).bind fun vr1 =>
  (fleetlaw2_SeriesFilled_x1 vs5 vr7 vr).bind fun vx2_1 =>
  (series_Fill vr9 vr7 vx2_1 vr1).bind fun (vr4, vr5) =>
  (fleetlaw2_SeriesFilled_x3 vr9 vr7 vr1 vx2_1).bind fun vx3_1 =>
  (fleetlaw2_SeriesFilled_x4 vr9 vr7 vr1 vx2_1 vx3_1).bind fun (vx4_1, vx5_1) =>
  (fleetlaw2_SeriesFilled_x5 vr4 vr5 vx4_1 vx5_1).bind fun vx6_1 =>
  some vx6_1

end Go.Eng
