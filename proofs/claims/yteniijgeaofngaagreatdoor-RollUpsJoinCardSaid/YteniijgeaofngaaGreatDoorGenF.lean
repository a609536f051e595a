/-
The Go functions that the law RollUpsJoin reaches, as plain functions.
-/
import Derived.Test.YteniijgeaofngaaGreatDoorEngV

namespace Go.Eng

open Go

set_option linter.unusedVariables false

structure fleetmake_Stream where
  L : List Int
  at_ : Int

def fleetmake_Stream.enc (x : fleetmake_Stream) : List D := [.lst (List.map (encI .i64) x.L), .int .i64 x.at_]

structure api_Sample where
  Device : List UInt8
  Metric : List UInt8
  At : Int
  Value : Int

def api_Sample.enc (x : api_Sample) : List D := [.str x.Device, .str x.Metric, .int .i64 x.At, .int .i64 x.Value]

structure api_Window where
  From : Int
  To : Int

def api_Window.enc (x : api_Window) : List D := [.int .i64 x.From, .int .i64 x.To]

structure api_Rise where
  From : Int
  To : Int
  By : Int
  Reset : Bool

def api_Rise.enc (x : api_Rise) : List D := [.int .i64 x.From, .int .i64 x.To, .int .i64 x.By, .bool x.Reset]

structure api_Value where
  Kind : Int
  Flag : Bool
  Number : Int
  Words : List UInt8

def api_Value.enc (x : api_Value) : List D := [.int .i64 x.Kind, .bool x.Flag, .int .i64 x.Number, .str x.Words]

structure api_Prop where
  Name : List UInt8
  Value : api_Value

def api_Prop.enc (x : api_Prop) : List D := [.str x.Name, .int .i64 x.Value.Kind, .bool x.Value.Flag, .int .i64 x.Value.Number, .str x.Value.Words]

structure api_Change where
  Name : List UInt8
  From : api_Value
  To : api_Value

def api_Change.enc (x : api_Change) : List D := [.str x.Name, .int .i64 x.From.Kind, .bool x.From.Flag, .int .i64 x.From.Number, .str x.From.Words, .int .i64 x.To.Kind, .bool x.To.Flag, .int .i64 x.To.Number, .str x.To.Words]

structure api_Version where
  Major : Int
  Minor : Int
  Patch : Int

def api_Version.enc (x : api_Version) : List D := [.int .i64 x.Major, .int .i64 x.Minor, .int .i64 x.Patch]

structure api_Spot where
  X : Int
  Y : Int

def api_Spot.enc (x : api_Spot) : List D := [.int .i64 x.X, .int .i64 x.Y]

structure api_Letter where
  Id : List UInt8
  Slot : List UInt8
  Body : List UInt8
  Prio : Int
  At : Int
  Until : Int

def api_Letter.enc (x : api_Letter) : List D := [.str x.Id, .str x.Slot, .str x.Body, .int .i64 x.Prio, .int .i64 x.At, .int .i64 x.Until]

structure series_span where
  from_ : Int
  to_ : Int
  value_ : Int

def series_span.enc (x : series_span) : List D := [.int .i64 x.from_, .int .i64 x.to_, .int .i64 x.value_]

structure api_Fraction where
  Num : Int
  Den : Int

def api_Fraction.enc (x : api_Fraction) : List D := [.int .i64 x.Num, .int .i64 x.Den]

structure api_Bucket where
  Time : api_Window
  Count : Int
  Sum : Int
  Min : Int
  Max : Int
  First : Int
  Last : Int

def api_Bucket.enc (x : api_Bucket) : List D := [.int .i64 x.Time.From, .int .i64 x.Time.To, .int .i64 x.Count, .int .i64 x.Sum, .int .i64 x.Min, .int .i64 x.Max, .int .i64 x.First, .int .i64 x.Last]

/-! ### beaconfleet/fleetmake.Below -/
noncomputable def fleetmake_Below_x1 (qx : Int) (qn : Int) : Option (Int) :=
  cond (decide ((qx.tmod qn) < 0))
    (some (IntKind.wrap .i64 ((qx.tmod qn) + qn)))
    (some (qx.tmod qn))

noncomputable def fleetmake_Below (qx : Int) (qn : Int) : Option (Int) :=
  cond (decide (qn < 1))
    (some 0)
    (gd (!(qn == 0)) <|
    (fleetmake_Below_x1 qx qn).bind fun vx1 =>
    some vx1)

/-! ### (*beaconfleet/fleetmake.Stream).Next -/
noncomputable def fleetmake_Stream_Next (qs : fleetmake_Stream) (qn : Int) : Option (Int) :=
  cond (decide ((qs.L.length : Int) = 0))
    ((fleetmake_Below (IntKind.wrap .i64 ((IntKind.wrap .i64 (qs.at_ + 1)) * 7919)) qn).bind fun vr =>
    some vr)
    (gd (!((qs.L.length : Int) == 0)) <|
    (at? qs.L ((IntKind.wrap .i64 ((IntKind.wrap .i64 (qs.at_ + 1)) - 1)).tmod (qs.L.length : Int))).bind fun vy =>
    (fleetmake_Below vy 1073741824).bind fun vr1 =>
    (fleetmake_Below (IntKind.wrap .i64 (vr1 + (IntKind.wrap .i64 ((IntKind.wrap .i64 ((IntKind.wrap .i64 ((IntKind.wrap .i64 (qs.at_ + 1)) - 1)).tdiv (qs.L.length : Int))) * (IntKind.wrap .i64 ((7919 : Int) + ((IntKind.wrap .i64 ((IntKind.wrap .i64 (qs.at_ + 1)) - 1)).tmod (qs.L.length : Int)))))))) qn).bind fun vr2 =>
    some vr2)

/-! ### (*beaconfleet/fleetmake.Stream).Range -/
noncomputable def fleetmake_Stream_Range (qs : fleetmake_Stream) (qlow : Int) (qhigh : Int) : Option (fleetmake_Stream × Int) :=
  cond (decide (qhigh < qlow))
    (some (qs, qlow))
    ((fleetmake_Stream_Next qs (IntKind.wrap .i64 ((IntKind.wrap .i64 (qhigh - qlow)) + 1))).bind fun vr3 =>
    some (fleetmake_Stream.mk qs.L (IntKind.wrap .i64 (qs.at_ + 1)), IntKind.wrap .i64 (qlow + vr3)))

/-! ### (*beaconfleet/fleetmake.Stream).Pick -/
noncomputable def fleetmake_Stream_Pick_o1 (qs : fleetmake_Stream) (ql : List Int) : Option (Int) :=
  (fleetmake_Stream_Next qs (ql.length : Int)).bind fun vr3 =>
  (at? ql vr3).bind fun vy =>
  some vy

/-! ### (*beaconfleet/fleetmake.Stream).RightSeries -/
noncomputable def fleetmake_Stream_RightSeries_x1 (qlow : Int) (vr : Int) : fleetmake_Stream × (List api_Sample) × Int × Int → Option ((fleetmake_Stream × (List api_Sample) × Int × Int) ⊕ ((fleetmake_Stream × (List api_Sample))))
  | (vs1, vout, vat, vx) =>
  cond (decide (vx < vr))
    ((fleetmake_Stream_Pick_o1 vs1 ([1, 1, 2, 5, 10, 10, 40, 127, 1000] : List Int)).bind fun vr3 =>
    (fleetmake_Stream_Pick_o1 (fleetmake_Stream.mk vs1.L (IntKind.wrap .i64 (vs1.at_ + 1))) ([0, 1, 2, 5, 7, 9, (-3), (-70), 100, 1000, 5] : List Int)).bind fun vr4 =>
    gd (Nat.ble (vout.length + ([api_Sample.mk ([100] : List UInt8) ([109] : List UInt8) (IntKind.wrap .i64 (vat + vr3)) (imax qlow vr4)] : List api_Sample).length) LIM) <|
    some (.inl (fleetmake_Stream.mk vs1.L (IntKind.wrap .i64 ((IntKind.wrap .i64 (vs1.at_ + 1)) + 1)), vout ++ ([api_Sample.mk ([100] : List UInt8) ([109] : List UInt8) (IntKind.wrap .i64 (vat + vr3)) (imax qlow vr4)] : List api_Sample), IntKind.wrap .i64 (vat + vr3), IntKind.wrap .i64 (vx + 1))))
    (some (.inr (vs1, vout)))

noncomputable def fleetmake_Stream_RightSeries (qs : fleetmake_Stream) (qmost : Int) (qlow : Int) : Option (fleetmake_Stream × (List api_Sample)) :=
  (fleetmake_Stream_Range qs 0 qmost).bind fun (vs, vr) =>
  (loopO (fleetmake_Stream_RightSeries_x1 qlow vr) (vs, [], 0, 0)).bind fun (vs2_1, vout1_1) =>
  some (vs2_1, vout1_1)

/-! ### beaconfleet/base.Key -/
noncomputable def base_Key_x1 (qs : List UInt8) : Option (Bool) :=
  cond (decide (qs = ([] : List UInt8)))
    (some true)
    (cond (decide (40 < (qs.length : Int)))
      (some true)
      ((at? qs 0).bind fun vc =>
      cond (decide ((vc.toNat : Int) < 97))
        (some true)
        (some (decide (122 < (vc.toNat : Int))))))

noncomputable def base_Key_x3 (vc2 : UInt8) : Option (Bool) :=
  cond (decide (97 ≤ (vc2.toNat : Int)))
    (cond (decide ((vc2.toNat : Int) ≤ 122))
      (some false)
      (cond (decide (48 ≤ (vc2.toNat : Int)))
        (cond (decide ((vc2.toNat : Int) ≤ 57))
          (some false)
          (cond (decide ((vc2.toNat : Int) = 45))
            (some false)
            (some (!(decide ((vc2.toNat : Int) = 95))))))
        (cond (decide ((vc2.toNat : Int) = 45))
          (some false)
          (some (!(decide ((vc2.toNat : Int) = 95)))))))
    (cond (decide (48 ≤ (vc2.toNat : Int)))
      (cond (decide ((vc2.toNat : Int) ≤ 57))
        (some false)
        (cond (decide ((vc2.toNat : Int) = 45))
          (some false)
          (some (!(decide ((vc2.toNat : Int) = 95))))))
      (cond (decide ((vc2.toNat : Int) = 45))
        (some false)
        (some (!(decide ((vc2.toNat : Int) = 95))))))

noncomputable def base_Key_x2 (qs : List UInt8) (vx2 : Int) : Option ((Int) ⊕ (Unit ⊕ Unit)) :=
  cond (decide (vx2 < (qs.length : Int)))
    ((at? qs vx2).bind fun vc2 =>
    (base_Key_x3 vc2).bind fun vx4_1 =>
    cond (vx4_1)
      (some (.inr (.inr ())))
      (some (.inl (IntKind.wrap .i64 (vx2 + 1)))))
    (some (.inr (.inl ())))

noncomputable def base_Key (qs : List UInt8) : Option (Bool) :=
  (base_Key_x1 qs).bind fun vx1 =>
  cond (vx1)
    (some false)
    ((loopO (base_Key_x2 qs) 0).bind fun x => match x with
      | .inl _ =>
        some true
      | .inr _ =>
        some false)

/-! ### beaconfleet/base.Out -/
noncomputable def base_Out_x1 (qn : Int) (qlow : Int) (qhigh : Int) : Option (Bool) :=
  cond (decide (qn < qlow))
    (some true)
    (some (decide (qhigh < qn)))

noncomputable def base_Out (qn : Int) (qlow : Int) (qhigh : Int) : Option (Bool) :=
  (base_Out_x1 qn qlow qhigh).bind fun vx1 =>
  some vx1

/-! ### beaconfleet/base.Moment -/
noncomputable def base_Moment (qn : Int) : Option (Bool) :=
  (base_Out qn 0 345686399999).bind fun vr =>
  some (!vr)

/-! ### internal/bytealg.CompareString -/
noncomputable def bytealg_CompareString (qa : List UInt8) (qb : List UInt8) : Option (Unit) :=
  some ()

/-! ### strings.Compare -/
noncomputable def strings_Compare (qa : List UInt8) (qb : List UInt8) : Option (Unit) :=
  (bytealg_CompareString qa qb).bind fun _ =>
  some ()

/-! ### cmp.isNaN[int] -/
noncomputable def cmp_isNaN_int (qx : Int) : Option (Unit) :=
  some ()

/-! ### cmp.Compare[int] -/
noncomputable def cmp_Compare_int (qx : Int) (qy : Int) : Option (Int) :=
  (cmp_isNaN_int qx).bind fun _ =>
  (cmp_isNaN_int qy).bind fun _ =>
  cond (!decide (qx = qx))
    (cond (!decide (qy = qy))
      (some 0)
      (some (-1)))
    (cond (!decide (qy = qy))
      (some 1)
      (cond (decide (qx < qy))
        (some (-1))
        (cond (decide (qy < qx))
          (some 1)
          (some 0))))

/-! ### cmp.Or[int] -/
noncomputable def cmp_Or_int_x1 (qvals : List Int) (vx : Int) : Option ((Int) ⊕ (Unit ⊕ Int)) :=
  cond (decide (vx < (qvals.length : Int)))
    ((at? qvals vx).bind fun vy1 =>
    cond (!decide (vy1 = 0))
      (some (.inr (.inr vy1)))
      (some (.inl (IntKind.wrap .i64 (vx + 1)))))
    (some (.inr (.inl ())))

noncomputable def cmp_Or_int (qvals : List Int) : Option (Int) :=
  (loopO (cmp_Or_int_x1 qvals) 0).bind fun x => match x with
    | .inl _ =>
      some 0
    | .inr vx1_1 =>
      some vx1_1

/-! ### beaconfleet/series.byDevice -/
noncomputable def series_byDevice (qa : api_Sample) (qb : api_Sample) : Option (Int) :=
  (strings_Compare qa.Device qb.Device).bind fun _ =>
  (strings_Compare qa.Metric qb.Metric).bind fun _ =>
  (cmp_Compare_int qa.At qb.At).bind fun vr =>
  (cmp_Or_int ([Lib.compareBytes qa.Device qb.Device, Lib.compareBytes qa.Metric qb.Metric, vr] : List Int)).bind fun vr1 =>
  some vr1

/-! ### beaconfleet/series.Check -/
noncomputable def series_Check_x2 (vy2 : api_Sample) : Option (Bool) :=
  (base_Key vy2.Device).bind fun vr3 =>
  cond (!vr3)
    (some true)
    ((base_Key vy2.Metric).bind fun vr4 =>
    some (!vr4))

noncomputable def series_Check_x3 (vy2 : api_Sample) : Option (Bool) :=
  (base_Moment vy2.At).bind fun vr1_2 =>
  cond (!vr1_2)
    (some true)
    ((base_Out vy2.Value (-1000000000) 1000000000).bind fun vr5 =>
    some vr5)

noncomputable def series_Check_x4 (ql : List api_Sample) (vx : Int) (vy2 : api_Sample) : Option (Bool) :=
  cond (decide (0 < vx))
    ((at? ql (IntKind.wrap .i64 (vx - 1))).bind fun vy3 =>
    (series_byDevice vy2 vy3).bind fun vr2_2 =>
    some (decide (vr2_2 ≤ 0)))
    (some false)

noncomputable def series_Check_x1 (ql : List api_Sample) (vx : Int) : Option ((Int) ⊕ (Unit ⊕ Int)) :=
  cond (decide (vx < (ql.length : Int)))
    ((at? ql vx).bind fun vy2 =>
    (series_Check_x2 vy2).bind fun vx4_1 =>
    cond (vx4_1)
      (some (.inr (.inr 5)))
      ((series_Check_x3 vy2).bind fun vx5_1 =>
      cond (vx5_1)
        (some (.inr (.inr 1)))
        ((series_Check_x4 ql vx vy2).bind fun vx6_1 =>
        cond (vx6_1)
          (some (.inr (.inr 7)))
          (some (.inl (IntKind.wrap .i64 (vx + 1)))))))
    (some (.inr (.inl ())))

noncomputable def series_Check (ql : List api_Sample) : Option (Int) :=
  cond (decide (5000 < (ql.length : Int)))
    (some 2)
    ((loopO (series_Check_x1 ql) 0).bind fun x => match x with
      | .inl _ =>
        some 0
      | .inr vx7_1 =>
        some vx7_1)

/-! ### beaconfleet/series.CheckSeries$1 -/
noncomputable def series_CheckSeries_1_x1 (qs : api_Sample) (qx : List api_Sample) : Option (Bool) :=
  (at? qx 0).bind fun vy =>
  cond (!decide (qs.Device = vy.Device))
    (some true)
    (some (!decide (qs.Metric = vy.Metric)))

noncomputable def series_CheckSeries_1 (qs : api_Sample) (qx : List api_Sample) : Option (Bool) :=
  (series_CheckSeries_1_x1 qs qx).bind fun vx1 =>
  some vx1

/-! ### slices.IndexFunc[[]beaconfleet/api.Sample,beaconfleet/api.Sample] -/
noncomputable def slices_IndexFunc_api_Sample_api_Sample_f1_series_CheckSeries_1_x1 (qs : List api_Sample) (vx : Int) : Option ((Int) ⊕ (Unit ⊕ Int)) :=
  cond (decide (vx < (qs.length : Int)))
    ((at? qs vx).bind fun vy1 =>
    (series_CheckSeries_1 vy1 qs).bind fun vr1 =>
    cond (vr1)
      (some (.inr (.inr vx)))
      (some (.inl (IntKind.wrap .i64 (vx + 1)))))
    (some (.inr (.inl ())))

noncomputable def slices_IndexFunc_api_Sample_api_Sample_f1_series_CheckSeries_1 (qs : List api_Sample) : Option (Int) :=
  (loopO (slices_IndexFunc_api_Sample_api_Sample_f1_series_CheckSeries_1_x1 qs) 0).bind fun x => match x with
    | .inl _ =>
      some (-1)
    | .inr vx1_1 =>
      some vx1_1

/-! ### slices.ContainsFunc[[]beaconfleet/api.Sample,beaconfleet/api.Sample] -/
noncomputable def slices_ContainsFunc_api_Sample_api_Sample_f1_series_CheckSeries_1 (qs : List api_Sample) : Option (Bool) :=
  (slices_IndexFunc_api_Sample_api_Sample_f1_series_CheckSeries_1 qs).bind fun vr2 =>
  some (decide (0 ≤ vr2))

/-! ### beaconfleet/series.CheckSeries -/
noncomputable def series_CheckSeries (ql : List api_Sample) : Option (Int) :=
  (series_Check ql).bind fun vr6 =>
  cond (!decide (vr6 = 0))
    (some vr6)
    ((slices_ContainsFunc_api_Sample_api_Sample_f1_series_CheckSeries_1 ql).bind fun vr =>
    cond (vr)
      (some 13)
      (some 0))

/-! ### beaconfleet/base.Window -/
noncomputable def base_Window_x1 (qw : api_Window) : Option (Bool) :=
  (base_Out qw.From 0 qw.To).bind fun vr =>
  cond (!vr)
    (some (decide (qw.To ≤ 345686400000)))
    (some false)

noncomputable def base_Window (qw : api_Window) : Option (Bool) :=
  (base_Window_x1 qw).bind fun vx1 =>
  some vx1

/-! ### beaconfleet/series.fault -/
noncomputable def series_fault_x2 (qw : api_Window) (vr1 : Int) : Option (Bool) :=
  cond (decide (vr1 = 0))
    ((base_Window qw).bind fun vr1_1 =>
    some (!vr1_1))
    (some false)

noncomputable def series_fault_x1 (qw : api_Window) (vr1 : Int) : Option (Int) :=
  (series_fault_x2 qw vr1).bind fun vx1 =>
  cond (vx1)
    (some 1)
    (some vr1)

noncomputable def series_fault (ql : List api_Sample) (qw : api_Window) : Option (Int) :=
  (series_CheckSeries ql).bind fun vr1 =>
  (series_fault_x1 qw vr1).bind fun ve1 =>
  some ve1

/-! ### beaconfleet/series.rises$1 -/
noncomputable def series_rises_1 (qs : api_Sample) : Option (Unit) :=
  some ()

/-! ### slices.IndexFunc[[]beaconfleet/api.Sample,beaconfleet/api.Sample] -/
noncomputable def slices_IndexFunc_api_Sample_api_Sample_f1_series_rises_1_x1 (qs : List api_Sample) (vx : Int) : Option ((Int) ⊕ (Unit ⊕ Int)) :=
  cond (decide (vx < (qs.length : Int)))
    ((at? qs vx).bind fun vy1 =>
    (series_rises_1 vy1).bind fun _ =>
    cond (decide (vy1.Value < 0))
      (some (.inr (.inr vx)))
      (some (.inl (IntKind.wrap .i64 (vx + 1)))))
    (some (.inr (.inl ())))

noncomputable def slices_IndexFunc_api_Sample_api_Sample_f1_series_rises_1 (qs : List api_Sample) : Option (Int) :=
  (loopO (slices_IndexFunc_api_Sample_api_Sample_f1_series_rises_1_x1 qs) 0).bind fun x => match x with
    | .inl _ =>
      some (-1)
    | .inr vx1_1 =>
      some vx1_1

/-! ### slices.ContainsFunc[[]beaconfleet/api.Sample,beaconfleet/api.Sample] -/
noncomputable def slices_ContainsFunc_api_Sample_api_Sample_f1_series_rises_1 (qs : List api_Sample) : Option (Bool) :=
  (slices_IndexFunc_api_Sample_api_Sample_f1_series_rises_1 qs).bind fun vr =>
  some (decide (0 ≤ vr))

/-! ### beaconfleet/series.rises -/
noncomputable def series_rises_x2 (ql : List api_Sample) (vi : Int) (vy3 : api_Sample) (vy4 : api_Sample) : Option (api_Rise) :=
  cond (decide ((IntKind.wrap .i64 (vy4.Value - vy3.Value)) < 0))
    ((at? ql vi).bind fun vy5 =>
    some (api_Rise.mk vy3.At vy4.At vy5.Value true))
    (some (api_Rise.mk vy3.At vy4.At (IntKind.wrap .i64 (vy4.Value - vy3.Value)) false))

noncomputable def series_rises_x1 (ql : List api_Sample) : (List api_Rise) × Int → Option (((List api_Rise) × Int) ⊕ ((List api_Rise)))
  | (vout, vi) =>
  cond (decide (vi < (ql.length : Int)))
    ((at? ql (IntKind.wrap .i64 (vi - 1))).bind fun vy3 =>
    (at? ql vi).bind fun vy4 =>
    (series_rises_x2 ql vi vy3 vy4).bind fun vr3_1 =>
    gd (Nat.ble (vout.length + ([vr3_1] : List api_Rise).length) LIM) <|
    some (.inl (vout ++ ([vr3_1] : List api_Rise), IntKind.wrap .i64 (vi + 1))))
    (some (.inr vout))

noncomputable def series_rises (ql : List api_Sample) : Option ((List api_Rise) × Int) :=
  (slices_ContainsFunc_api_Sample_api_Sample_f1_series_rises_1 ql).bind fun vr1 =>
  cond (vr1)
    (some ([], 1))
    ((loopO (series_rises_x1 ql) ([], 1)).bind fun vout1_1 =>
    some (vout1_1, 0))

/-! ### beaconfleet/series.Grown -/
noncomputable def series_Grown_x3 (qw : api_Window) (vy1 : api_Rise) : Option (Bool) :=
  cond (decide (qw.From < vy1.To))
    (some (decide (vy1.To ≤ qw.To)))
    (some false)

noncomputable def series_Grown_x2 (qw : api_Window) (vr4 : List api_Rise) (vn : Int) (vx : Int) : Option (Int) :=
  (at? vr4 vx).bind fun vy1 =>
  (series_Grown_x3 qw vy1).bind fun vx2_1 =>
  cond (vx2_1)
    (some (IntKind.wrap .i64 (vn + vy1.By)))
    (some vn)

noncomputable def series_Grown_x1 (qw : api_Window) (vr4 : List api_Rise) : Int × Int → Option ((Int × Int) ⊕ (Int))
  | (vn, vx) =>
  cond (decide (vx < (vr4.length : Int)))
    ((series_Grown_x2 qw vr4 vn vx).bind fun vn2_1 =>
    some (.inl (vn2_1, IntKind.wrap .i64 (vx + 1))))
    (some (.inr vn))

noncomputable def series_Grown (ql : List api_Sample) (qw : api_Window) : Option (Int × Int) :=
  (series_fault ql qw).bind fun vr =>
  cond (!decide (vr = 0))
    (some (0, vr))
    ((series_rises ql).bind fun (vr4, vr5) =>
    (loopO (series_Grown_x1 qw vr4) (0, 0)).bind fun vn3_1 =>
    some (vn3_1, vr5))

/-! ### beaconfleet/series.in -/
noncomputable def series_in_x1 (qw : api_Window) (qat : Int) : Option (Bool) :=
  cond (decide (qw.From ≤ qat))
    (some (decide (qat < qw.To)))
    (some false)

noncomputable def series_in (qw : api_Window) (qat : Int) : Option (Bool) :=
  (series_in_x1 qw qat).bind fun vx1 =>
  some vx1

/-! ### beaconfleet/series.Gaps$1 -/
noncomputable def series_Gaps_1_b2n_x1 (qto : Int) (qx : Int) (qx1 : Int) : Option ((List api_Window)) :=
  cond (decide (qx1 < (IntKind.wrap .i64 (qto - qx))))
    (some ([api_Window.mk qx qto] : List api_Window))
    (some [])

noncomputable def series_Gaps_1_b2n (qto : Int) (qx : Int) (qx1 : Int) : Option ((List api_Window)) :=
  (series_Gaps_1_b2n_x1 qto qx qx1).bind fun vs1 =>
  some vs1

/-! ### beaconfleet/series.Gaps$1 -/
noncomputable def series_Gaps_1_b2o_x1 (qto : Int) (qx : Int) (qx1 : Int) (qx2 : List api_Window) : Option ((List api_Window)) :=
  cond (decide (qx1 < (IntKind.wrap .i64 (qto - qx))))
    (gd (Nat.ble (qx2.length + ([api_Window.mk qx qto] : List api_Window).length) LIM) <|
    some (qx2 ++ ([api_Window.mk qx qto] : List api_Window)))
    (some qx2)

noncomputable def series_Gaps_1_b2o (qto : Int) (qx : Int) (qx1 : Int) (qx2 : List api_Window) : Option ((List api_Window)) :=
  (series_Gaps_1_b2o_x1 qto qx qx1 qx2).bind fun vs1 =>
  some vs1

/-! ### beaconfleet/series.Gaps -/
noncomputable def series_Gaps_x2 (ql : List api_Sample) (qw : api_Window) (qmost : Int) (vout : List api_Window) (vstep : Int) (vx : Int) : Option (((List api_Window) × Int)) :=
  (at? ql vx).bind fun vy1 =>
  (series_in qw vy1.At).bind fun vr3 =>
  cond (vr3)
    ((series_Gaps_1_b2o vy1.At vstep qmost vout).bind fun vs2_1 =>
    some (vs2_1, vy1.At))
    (some (vout, vstep))

noncomputable def series_Gaps_x1 (ql : List api_Sample) (qw : api_Window) (qmost : Int) : (List api_Window) × Int × Int → Option (((List api_Window) × Int × Int) ⊕ (((List api_Window) × Int)))
  | (vout, vstep, vx) =>
  cond (decide (vx < (ql.length : Int)))
    ((series_Gaps_x2 ql qw qmost vout vstep vx).bind fun (vout2_1, vstep2_1) =>
    some (.inl (vout2_1, vstep2_1, IntKind.wrap .i64 (vx + 1))))
    (some (.inr (vout, vstep)))

noncomputable def series_Gaps (ql : List api_Sample) (qw : api_Window) (qmost : Int) : Option ((List api_Window) × Int) :=
  (series_fault ql qw).bind fun vr =>
  cond (!decide (vr = 0))
    (some ([], vr))
    ((base_Out qmost 1 345686400000).bind fun vr1 =>
    cond (vr1)
      (some ([], 1))
      ((loopO (series_Gaps_x1 ql qw qmost) ([], qw.From, 0)).bind fun (vout3_1, vstep3_1) =>
      (series_Gaps_1_b2o qw.To vstep3_1 qmost vout3_1).bind fun vs2_2 =>
      some (vs2_2, 0)))

/-! ### beaconfleet/fleetkeep2.CountersAddUp$1 -/
noncomputable def fleetkeep2_CountersAddUp_1_x1 (qx : api_Sample) (qx1 : api_Window) : Option (Bool) :=
  cond (decide (qx1.From < qx.At))
    (some (decide (qx.At < qx1.To)))
    (some false)

noncomputable def fleetkeep2_CountersAddUp_1 (qx : api_Sample) (qx1 : api_Window) : Option (Bool) :=
  (fleetkeep2_CountersAddUp_1_x1 qx qx1).bind fun vx1 =>
  some vx1

/-! ### slices.IndexFunc[[]beaconfleet/api.Sample,beaconfleet/api.Sample] -/
noncomputable def slices_IndexFunc_api_Sample_api_Sample_f1_fleetkeep2_CountersAddUp_1_x1 (qs : List api_Sample) (qf : api_Window) (vx : Int) : Option ((Int) ⊕ (Unit ⊕ Int)) :=
  cond (decide (vx < (qs.length : Int)))
    ((at? qs vx).bind fun vy1 =>
    (fleetkeep2_CountersAddUp_1 vy1 qf).bind fun vr1 =>
    cond (vr1)
      (some (.inr (.inr vx)))
      (some (.inl (IntKind.wrap .i64 (vx + 1)))))
    (some (.inr (.inl ())))

noncomputable def slices_IndexFunc_api_Sample_api_Sample_f1_fleetkeep2_CountersAddUp_1 (qs : List api_Sample) (qf : api_Window) : Option (Int) :=
  (loopO (slices_IndexFunc_api_Sample_api_Sample_f1_fleetkeep2_CountersAddUp_1_x1 qs qf) 0).bind fun x => match x with
    | .inl _ =>
      some (-1)
    | .inr vx1_1 =>
      some vx1_1

/-! ### slices.ContainsFunc[[]beaconfleet/api.Sample,beaconfleet/api.Sample] -/
noncomputable def slices_ContainsFunc_api_Sample_api_Sample_f1_fleetkeep2_CountersAddUp_1 (qs : List api_Sample) (qf : api_Window) : Option (Bool) :=
  (slices_IndexFunc_api_Sample_api_Sample_f1_fleetkeep2_CountersAddUp_1 qs qf).bind fun vr2 =>
  some (decide (0 ≤ vr2))

/-! ### beaconfleet/fleetkeep2.errs -/
noncomputable def fleetkeep2_errs_x1 (ql : List Int) (vx : Int) : Option ((Int) ⊕ (Unit ⊕ Int)) :=
  cond (decide (vx < (ql.length : Int)))
    ((at? ql vx).bind fun vy1 =>
    cond (!decide (vy1 = 0))
      (some (.inr (.inr vy1)))
      (some (.inl (IntKind.wrap .i64 (vx + 1)))))
    (some (.inr (.inl ())))

noncomputable def fleetkeep2_errs (ql : List Int) : Option (Int) :=
  (loopO (fleetkeep2_errs_x1 ql) 0).bind fun x => match x with
    | .inl _ =>
      some 0
    | .inr vx1_1 =>
      some vx1_1

/-! ### beaconfleet/twin.CheckProps -/
noncomputable def twin_CheckProps_n0_x1 : Unit → Option ((Unit) ⊕ (Unit))
  | _ =>
  cond (decide ((0 : Int) < 0))
    (none)
    (some (.inr ()))

noncomputable def twin_CheckProps_n0_x2 : Unit → Option ((Unit) ⊕ (Unit))
  | _ =>
  cond (decide ((0 : Int) < 0))
    (none)
    (some (.inr ()))

noncomputable def twin_CheckProps_n0 : Option (Int) :=
  cond (decide (500 < (0 : Int)))
    (some 2)
    ((loopO twin_CheckProps_n0_x1 ()).bind fun _ =>
    (loopO twin_CheckProps_n0_x2 ()).bind fun _ =>
    some 0)

/-! ### internal/stringslite.IndexByte -/
noncomputable def stringslite_IndexByte (qs : List UInt8) (qc : Int) : Option (Unit) :=
  some ()

/-! ### internal/stringslite.Index -/
noncomputable def stringslite_Index_x1 (qx : List UInt8) (qx1 : List UInt8) : Option (Bool) :=
  cond (decide ((qx1.length : Int) = 0))
    (some true)
    (some (decide (qx1 = qx)))

noncomputable def stringslite_Index (qx : List UInt8) (qx1 : List UInt8) : Option (Int) :=
  (stringslite_Index_x1 qx qx1).bind fun vx1 =>
  cond (vx1)
    (some 0)
    (cond (decide ((qx1.length : Int) = 1))
      ((at? qx1 0).bind fun vc =>
      (stringslite_IndexByte qx (vc.toNat : Int)).bind fun _ =>
      some (Lib.indexByte qx (vc.toNat : Int).toNat.toUInt8))
      (cond (decide ((qx.length : Int) ≤ (qx1.length : Int)))
        (some (-1))
        (none)))

/-! ### internal/stringslite.Cut -/
noncomputable def stringslite_Cut (qs : List UInt8) (qsep : List UInt8) : Option ((List UInt8) × (List UInt8) × Bool) :=
  (stringslite_Index qs qsep).bind fun vr =>
  cond (decide (0 ≤ vr))
    ((sub? qs 0 vr).bind fun vs =>
    (sub? qs (IntKind.wrap .i64 (vr + (qsep.length : Int))) (qs.length : Int)).bind fun vs1 =>
    some (vs, vs1, true))
    (some (qs, ([] : List UInt8), false))

/-! ### strings.Cut -/
noncomputable def strings_Cut (qs : List UInt8) (qsep : List UInt8) : Option ((List UInt8) × (List UInt8) × Bool) :=
  (stringslite_Cut qs qsep).bind fun (vr1, vr2, vr3) =>
  some (vr1, vr2, vr3)

/-! ### beaconfleet/base.Dotted -/
noncomputable def base_Dotted_x1 (qmost : Int) : (List UInt8) × Int → Option (((List UInt8) × Int) ⊕ (Unit ⊕ Bool))
  | (vs, vn) =>
  cond (decide (vn < qmost))
    ((strings_Cut vs ([46] : List UInt8)).bind fun (vr2, vr4_1, vr5_1) =>
    (base_Key vr2).bind fun vr3 =>
    cond (!vr3)
      (some (.inr (.inr false)))
      (cond (!vr5_1)
        (some (.inr (.inr true)))
        (some (.inl (vr4_1, IntKind.wrap .i64 (vn + 1))))))
    (some (.inr (.inl ())))

noncomputable def base_Dotted (qs : List UInt8) (qmost : Int) : Option (Bool) :=
  (loopO (base_Dotted_x1 qmost) (qs, 0)).bind fun x => match x with
    | .inl _ =>
      some false
    | .inr vx1 =>
      some vx1

/-! ### beaconfleet/twin.isName -/
noncomputable def twin_isName (qs : List UInt8) : Option (Bool) :=
  (base_Dotted qs 8).bind fun vr6 =>
  some vr6

/-! ### unicode/utf8.word[string] -/
noncomputable def utf8_word_string (qs : List UInt8) : Option (Int) :=
  (at? qs 0).bind fun vc =>
  (at? qs 1).bind fun vc1 =>
  (at? qs 2).bind fun vc2 =>
  (at? qs 3).bind fun vc3 =>
  (at? qs 4).bind fun vc4 =>
  (at? qs 5).bind fun vc5 =>
  (at? qs 6).bind fun vc6 =>
  (at? qs 7).bind fun vc7 =>
  some (ibits .or .u64 (ibits .or .u64 (ibits .or .u64 (ibits .or .u64 (ibits .or .u64 (ibits .or .u64 (ibits .or .u64 (IntKind.wrap .u64 ((vc.toNat : Int))) (ishl .u64 (IntKind.wrap .u64 ((vc1.toNat : Int))) 8)) (ishl .u64 (IntKind.wrap .u64 ((vc2.toNat : Int))) 16)) (ishl .u64 (IntKind.wrap .u64 ((vc3.toNat : Int))) 24)) (ishl .u64 (IntKind.wrap .u64 ((vc4.toNat : Int))) 32)) (ishl .u64 (IntKind.wrap .u64 ((vc5.toNat : Int))) 40)) (ishl .u64 (IntKind.wrap .u64 ((vc6.toNat : Int))) 48)) (ishl .u64 (IntKind.wrap .u64 ((vc7.toNat : Int))) 56))

/-! ### unicode/utf8.ValidString -/
noncomputable def utf8_ValidString_x3 (vs12 : List UInt8) : Option (Bool) :=
  cond (decide (8 < (vs12.length : Int)))
    ((utf8_word_string vs12).bind fun vr11 =>
    some (decide ((ibits .and .u64 vr11 9259542123273814144) = 0)))
    (some false)

noncomputable def utf8_ValidString_x4 (vs13 : List UInt8) : Option (Bool) :=
  cond (decide (16 < (vs13.length : Int)))
    ((utf8_word_string vs13).bind fun vr12 =>
    (sub? vs13 8 (vs13.length : Int)).bind fun vs14 =>
    (utf8_word_string vs14).bind fun vr13 =>
    some (decide ((ibits .and .u64 (ibits .or .u64 vr12 vr13) 9259542123273814144) = 0)))
    (some false)

noncomputable def utf8_ValidString_x6 (vx10 : List UInt8) : Option (Bool) :=
  cond (decide (32 < (vx10.length : Int)))
    ((utf8_word_string vx10).bind fun vr18 =>
    (sub? vx10 8 (vx10.length : Int)).bind fun vs20 =>
    (utf8_word_string vs20).bind fun vr19 =>
    (sub? vx10 16 (vx10.length : Int)).bind fun vs21 =>
    (utf8_word_string vs21).bind fun vr20 =>
    (sub? vx10 24 (vx10.length : Int)).bind fun vs22 =>
    (utf8_word_string vs22).bind fun vr21 =>
    some (decide ((ibits .and .u64 (ibits .or .u64 (ibits .or .u64 vr18 vr19) (ibits .or .u64 vr20 vr21)) 9259542123273814144) = 0)))
    (some false)

noncomputable def utf8_ValidString_x5 (vx10 : List UInt8) : Option (((List UInt8)) ⊕ ((List UInt8))) :=
  (utf8_ValidString_x6 vx10).bind fun vx12_1 =>
  cond (vx12_1)
    ((sub? vx10 32 (vx10.length : Int)).bind fun vs23 =>
    some (.inl vs23))
    (some (.inr vx10))

noncomputable def utf8_ValidString_x2 (vs12 : List UInt8) : Option ((List UInt8)) :=
  (utf8_ValidString_x3 vs12).bind fun vx8_1 =>
  cond (vx8_1)
    ((sub? vs12 8 (vs12.length : Int)).bind fun vs13 =>
    (utf8_ValidString_x4 vs13).bind fun vx9_1 =>
    cond (vx9_1)
      ((sub? vs13 16 (vs13.length : Int)).bind fun vs15 =>
      (loopO utf8_ValidString_x5 vs15).bind fun vx13_1 =>
      some vx13_1)
      (some vs13))
    (some vs12)

noncomputable def utf8_ValidString_x1 (vx : List UInt8) : Option (((List UInt8)) ⊕ (Unit)) :=
  cond (decide (0 < (vx.length : Int)))
    ((at? vx 0).bind fun vc1 =>
    cond (decide ((vc1.toNat : Int) < 128))
      ((sub? vx 1 (vx.length : Int)).bind fun vs12 =>
      (utf8_ValidString_x2 vs12).bind fun vx14_1 =>
      some (.inl vx14_1))
      (none))
    (some (.inr ()))

noncomputable def utf8_ValidString (qx : List UInt8) : Option (Unit) :=
  (loopO utf8_ValidString_x1 qx).bind fun _ =>
  some ()

/-! ### beaconfleet/base.Unmarked -/
noncomputable def base_Unmarked_x2 (qs : List UInt8) (vx : Int) : Option (Bool) :=
  (at? qs vx).bind fun vc1 =>
  cond (decide ((vc1.toNat : Int) < 32))
    (some true)
    (some (decide ((vc1.toNat : Int) = 127)))

noncomputable def base_Unmarked_x1 (qs : List UInt8) (vx : Int) : Option ((Int) ⊕ (Unit ⊕ Unit)) :=
  cond (decide (vx < (qs.length : Int)))
    ((base_Unmarked_x2 qs vx).bind fun vx2_1 =>
    cond (vx2_1)
      (some (.inr (.inr ())))
      (some (.inl (IntKind.wrap .i64 (vx + 1)))))
    (some (.inr (.inl ())))

noncomputable def base_Unmarked (qs : List UInt8) : Option (Bool) :=
  (loopO (base_Unmarked_x1 qs) 0).bind fun x => match x with
    | .inl _ =>
      (utf8_ValidString qs).bind fun _ =>
      some true
    | .inr _ =>
      some false

/-! ### beaconfleet/twin.valueFault -/
noncomputable def twin_valueFault_x1 (qv : api_Value) : Option (api_Value ⊕ Unit) :=
  cond (decide (qv.Kind = 0))
    (some (.inl (api_Value.mk qv.Kind false 0 ([] : List UInt8))))
    (cond (decide (qv.Kind = 1))
      (some (.inl (api_Value.mk qv.Kind qv.Flag 0 ([] : List UInt8))))
      (cond (decide (qv.Kind = 2))
        (some (.inl (api_Value.mk qv.Kind false qv.Number ([] : List UInt8))))
        (cond (decide (qv.Kind = 3))
          (some (.inl (api_Value.mk qv.Kind false 0 qv.Words)))
          (some (.inr ())))))

noncomputable def twin_valueFault (qv : api_Value) : Option (Int) :=
  (twin_valueFault_x1 qv).bind fun x => match x with
    | .inl vused1 =>
      cond (!(decide (qv.Kind = vused1.Kind) && ((qv.Flag == vused1.Flag) && (decide (qv.Number = vused1.Number) && (decide (qv.Words = vused1.Words) && true)))))
        (some 3)
        ((base_Out qv.Number (-1000000000) 1000000000).bind fun vr =>
        cond (vr)
          (some 1)
          (cond (decide (1000 < (qv.Words.length : Int)))
            (some 2)
            ((base_Unmarked qv.Words).bind fun vr1 =>
            cond (!vr1)
              (some 3)
              (some 0))))
    | .inr _ =>
      some 4

/-! ### beaconfleet/twin.find$1 -/
noncomputable def twin_find_1 (qp : api_Prop) (qname : List UInt8) : Option (Unit) :=
  (strings_Compare qp.Name qname).bind fun _ =>
  some ()

/-! ### slices.BinarySearchFunc[[]beaconfleet/api.Prop,beaconfleet/api.Prop,string] -/
noncomputable def slices_BinarySearchFunc_api_Prop_api_Prop_string_f2_twin_find_1_x1 (qx : List api_Prop) (qtarget : List UInt8) : Int × Int → Option ((Int × Int) ⊕ (Int))
  | (vi, vj) =>
  cond (decide (vi < vj))
    ((at? qx (IntKind.wrap .i64 (ishr .u64 (IntKind.wrap .u64 (IntKind.wrap .i64 (vi + vj))) 1))).bind fun vy1 =>
    (twin_find_1 (api_Prop.mk vy1.Name (api_Value.mk vy1.Value.Kind vy1.Value.Flag vy1.Value.Number vy1.Value.Words)) qtarget).bind fun _ =>
    cond (decide ((Lib.compareBytes vy1.Name qtarget) < 0))
      (some (.inl (IntKind.wrap .i64 ((IntKind.wrap .i64 (ishr .u64 (IntKind.wrap .u64 (IntKind.wrap .i64 (vi + vj))) 1)) + 1), vj)))
      (some (.inl (vi, IntKind.wrap .i64 (ishr .u64 (IntKind.wrap .u64 (IntKind.wrap .i64 (vi + vj))) 1)))))
    (some (.inr vi))

noncomputable def slices_BinarySearchFunc_api_Prop_api_Prop_string_f2_twin_find_1_x2 (qx : List api_Prop) (qtarget : List UInt8) (vi1_1 : Int) : Option (Bool) :=
  cond (decide (vi1_1 < (qx.length : Int)))
    ((at? qx vi1_1).bind fun vy2 =>
    (twin_find_1 (api_Prop.mk vy2.Name (api_Value.mk vy2.Value.Kind vy2.Value.Flag vy2.Value.Number vy2.Value.Words)) qtarget).bind fun _ =>
    some (decide ((Lib.compareBytes vy2.Name qtarget) = 0)))
    (some false)

noncomputable def slices_BinarySearchFunc_api_Prop_api_Prop_string_f2_twin_find_1 (qx : List api_Prop) (qtarget : List UInt8) : Option (Int × Bool) :=
  (loopO (slices_BinarySearchFunc_api_Prop_api_Prop_string_f2_twin_find_1_x1 qx qtarget) (0, (qx.length : Int))).bind fun vi1_1 =>
  (slices_BinarySearchFunc_api_Prop_api_Prop_string_f2_twin_find_1_x2 qx qtarget vi1_1).bind fun vx1 =>
  some (vi1_1, vx1)

/-! ### beaconfleet/twin.find -/
noncomputable def twin_find (ql : List api_Prop) (qname : List UInt8) : Option (Int) :=
  (slices_BinarySearchFunc_api_Prop_api_Prop_string_f2_twin_find_1 ql qname).bind fun (vr, vr1) =>
  cond (!vr1)
    (some (-1))
    (some vr)

/-! ### beaconfleet/twin.CheckProps$1 -/
noncomputable def twin_CheckProps_1 (qs : List UInt8) (qx : List api_Prop) : Option (Bool) :=
  (twin_find qx qs).bind fun vr2 =>
  some (decide (0 ≤ vr2))

/-! ### beaconfleet/twin.above -/
noncomputable def twin_above_f1_twin_CheckProps_1_x2 (qname : List UInt8) (qf : List api_Prop) (vx : Int) : Option (Bool) :=
  (at? qname vx).bind fun vc1 =>
  cond (decide ((vc1.toNat : Int) = 46))
    ((sub? qname 0 vx).bind fun vs1 =>
    (twin_CheckProps_1 vs1 qf).bind fun vr1 =>
    some vr1)
    (some false)

noncomputable def twin_above_f1_twin_CheckProps_1_x1 (qname : List UInt8) (qf : List api_Prop) (vx : Int) : Option ((Int) ⊕ (Unit ⊕ Unit)) :=
  cond (decide (vx < (qname.length : Int)))
    ((twin_above_f1_twin_CheckProps_1_x2 qname qf vx).bind fun vx2_1 =>
    cond (vx2_1)
      (some (.inr (.inr ())))
      (some (.inl (IntKind.wrap .i64 (vx + 1)))))
    (some (.inr (.inl ())))

noncomputable def twin_above_f1_twin_CheckProps_1 (qname : List UInt8) (qf : List api_Prop) : Option (Bool) :=
  (loopO (twin_above_f1_twin_CheckProps_1_x1 qname qf) 0).bind fun x => match x with
    | .inl _ =>
      some false
    | .inr _ =>
      some true

/-! ### beaconfleet/twin.CheckProps -/
noncomputable def twin_CheckProps_x2 (ql : List api_Prop) (vx : Int) (vy2 : api_Prop) : Option (Bool) :=
  cond (decide (0 < vx))
    ((at? ql (IntKind.wrap .i64 (vx - 1))).bind fun vy3 =>
    some (Op.bytesLess vy2.Name vy3.Name || decide (vy2.Name = vy3.Name)))
    (some false)

noncomputable def twin_CheckProps_x1 (ql : List api_Prop) (vx : Int) : Option ((Int) ⊕ (Unit ⊕ Int)) :=
  cond (decide (vx < (ql.length : Int)))
    ((at? ql vx).bind fun vy2 =>
    (twin_isName vy2.Name).bind fun vr1 =>
    cond (!vr1)
      (some (.inr (.inr 5)))
      ((twin_valueFault (api_Value.mk vy2.Value.Kind vy2.Value.Flag vy2.Value.Number vy2.Value.Words)).bind fun vr2_1 =>
      cond (!decide (vr2_1 = 0))
        (some (.inr (.inr vr2_1)))
        (cond (decide (vy2.Value.Kind = 0))
          (some (.inr (.inr 4)))
          ((twin_CheckProps_x2 ql vx vy2).bind fun vx2_1 =>
          cond (vx2_1)
            (some (.inr (.inr 7)))
            (some (.inl (IntKind.wrap .i64 (vx + 1))))))))
    (some (.inr (.inl ())))

noncomputable def twin_CheckProps_x3 (ql : List api_Prop) (vx4 : Int) : Option ((Int) ⊕ (Unit ⊕ Unit)) :=
  cond (decide (vx4 < (ql.length : Int)))
    ((at? ql vx4).bind fun vy5 =>
    (twin_above_f1_twin_CheckProps_1 vy5.Name ql).bind fun vr2_3 =>
    cond (vr2_3)
      (some (.inr (.inr ())))
      (some (.inl (IntKind.wrap .i64 (vx4 + 1)))))
    (some (.inr (.inl ())))

noncomputable def twin_CheckProps (ql : List api_Prop) : Option (Int) :=
  cond (decide (500 < (ql.length : Int)))
    (some 2)
    ((loopO (twin_CheckProps_x1 ql) 0).bind fun x => match x with
      | .inl _ =>
        (loopO (twin_CheckProps_x3 ql) 0).bind fun x => match x with
          | .inl _ =>
            some 0
          | .inr _ =>
            some 13
      | .inr vx3_1 =>
        some vx3_1)

/-! ### beaconfleet/base.First -/
noncomputable def base_First_x1 (ql : List Int) (vx : Int) : Option ((Int) ⊕ (Unit ⊕ Int)) :=
  cond (decide (vx < (ql.length : Int)))
    ((at? ql vx).bind fun vy1 =>
    cond (!decide (vy1 = 0))
      (some (.inr (.inr vy1)))
      (some (.inl (IntKind.wrap .i64 (vx + 1)))))
    (some (.inr (.inl ())))

noncomputable def base_First (ql : List Int) : Option (Int) :=
  (loopO (base_First_x1 ql) 0).bind fun x => match x with
    | .inl _ =>
      some 0
    | .inr vx1_1 =>
      some vx1_1

/-! ### math/bits.Len64 -/
noncomputable def bits_Len64_x1 (qx : Int) : Option ((Int × Int)) :=
  cond (decide (4294967296 ≤ qx))
    (some (ishr .u64 qx 32, 32))
    (some (qx, 0))

noncomputable def bits_Len64_x2 (vx1 : Int) (vn1 : Int) : Option ((Int × Int)) :=
  cond (decide (65536 ≤ vx1))
    (some (ishr .u64 vx1 16, IntKind.wrap .i64 (vn1 + 16)))
    (some (vx1, vn1))

noncomputable def bits_Len64_x3 (vx2_1 : Int) (vn2_1 : Int) : Option ((Int × Int)) :=
  cond (decide (256 ≤ vx2_1))
    (some (ishr .u64 vx2_1 8, IntKind.wrap .i64 (vn2_1 + 8)))
    (some (vx2_1, vn2_1))

noncomputable def bits_Len64 (qx : Int) : Option (Int) :=
  (bits_Len64_x1 qx).bind fun (vx1, vn1) =>
  (bits_Len64_x2 vx1 vn1).bind fun (vx2_1, vn2_1) =>
  (bits_Len64_x3 vx2_1 vn2_1).bind fun (vx3_1, vn3_1) =>
  (at? ([0, 1, 2, 2, 3, 3, 3, 3, 4, 4, 4, 4, 4, 4, 4, 4, 5, 5, 5, 5, 5, 5, 5, 5, 5, 5, 5, 5, 5, 5, 5, 5, 6, 6, 6, 6, 6, 6, 6, 6, 6, 6, 6, 6, 6, 6, 6, 6, 6, 6, 6, 6, 6, 6, 6, 6, 6, 6, 6, 6, 6, 6, 6, 6, 7, 7, 7, 7, 7, 7, 7, 7, 7, 7, 7, 7, 7, 7, 7, 7, 7, 7, 7, 7, 7, 7, 7, 7, 7, 7, 7, 7, 7, 7, 7, 7, 7, 7, 7, 7, 7, 7, 7, 7, 7, 7, 7, 7, 7, 7, 7, 7, 7, 7, 7, 7, 7, 7, 7, 7, 7, 7, 7, 7, 7, 7, 7, 7, 8, 8, 8, 8, 8, 8, 8, 8, 8, 8, 8, 8, 8, 8, 8, 8, 8, 8, 8, 8, 8, 8, 8, 8, 8, 8, 8, 8, 8, 8, 8, 8, 8, 8, 8, 8, 8, 8, 8, 8, 8, 8, 8, 8, 8, 8, 8, 8, 8, 8, 8, 8, 8, 8, 8, 8, 8, 8, 8, 8, 8, 8, 8, 8, 8, 8, 8, 8, 8, 8, 8, 8, 8, 8, 8, 8, 8, 8, 8, 8, 8, 8, 8, 8, 8, 8, 8, 8, 8, 8, 8, 8, 8, 8, 8, 8, 8, 8, 8, 8, 8, 8, 8, 8, 8, 8, 8, 8, 8, 8, 8, 8, 8, 8, 8, 8, 8, 8, 8, 8, 8, 8, 8, 8, 8, 8, 8, 8] : List UInt8) (IntKind.wrap .u8 (vx3_1))).bind fun vc =>
  some (IntKind.wrap .i64 (vn3_1 + (IntKind.wrap .i64 ((vc.toNat : Int)))))

/-! ### math/bits.Len -/
noncomputable def bits_Len (qx : Int) : Option (Int) :=
  (bits_Len64 qx).bind fun vr =>
  some vr

/-! ### cmp.isNaN[string] -/
noncomputable def cmp_isNaN_string (qx : List UInt8) : Option (Unit) :=
  some ()

/-! ### cmp.Less[string] -/
noncomputable def cmp_Less_string_x1 (qx : List UInt8) (qy : List UInt8) : Option (Bool) :=
  (cmp_isNaN_string qx).bind fun _ =>
  cond (!decide (qx = qx))
    ((cmp_isNaN_string qy).bind fun _ =>
    cond (!(!decide (qy = qy)))
      (some true)
      (some (Op.bytesLess qx qy)))
    (some (Op.bytesLess qx qy))

noncomputable def cmp_Less_string (qx : List UInt8) (qy : List UInt8) : Option (Bool) :=
  (cmp_Less_string_x1 qx qy).bind fun vx1 =>
  some vx1

/-! ### slices.insertionSortOrdered[string] -/
noncomputable def slices_insertionSortOrdered_string_o0_x3 (qa : Int) (vl3 : List (List UInt8)) (vj1 : Int) : Option (Bool) :=
  cond (decide (qa < vj1))
    ((at? vl3 vj1).bind fun vy15 =>
    (at? vl3 (IntKind.wrap .i64 (vj1 - 1))).bind fun vy16 =>
    (cmp_Less_string vy15 vy16).bind fun vr3 =>
    some vr3)
    (some false)

noncomputable def slices_insertionSortOrdered_string_o0_x2 (qa : Int) : (List (List UInt8)) × Int → Option (((List (List UInt8)) × Int) ⊕ ((List (List UInt8))))
  | (vl3, vj1) =>
  (slices_insertionSortOrdered_string_o0_x3 qa vl3 vj1).bind fun vx4_1 =>
  cond (vx4_1)
    ((at? vl3 (IntKind.wrap .i64 (vj1 - 1))).bind fun vy17 =>
    (at? vl3 vj1).bind fun vy18 =>
    (at? (vl3.set vj1.toNat vy17) (IntKind.wrap .i64 (vj1 - 1))).bind fun vy19 =>
    some (.inl ((vl3.set vj1.toNat vy17).set (IntKind.wrap .i64 (vj1 - 1)).toNat vy18, IntKind.wrap .i64 (vj1 - 1))))
    (some (.inr vl3))

noncomputable def slices_insertionSortOrdered_string_o0_x1 (qa : Int) (qb : Int) : (List (List UInt8)) × Int → Option (((List (List UInt8)) × Int) ⊕ ((List (List UInt8))))
  | (vl, vi) =>
  cond (decide (vi < qb))
    ((loopO (slices_insertionSortOrdered_string_o0_x2 qa) (vl, vi)).bind fun vl4_1 =>
    some (.inl (vl4_1, IntKind.wrap .i64 (vi + 1))))
    (some (.inr vl))

noncomputable def slices_insertionSortOrdered_string_o0 (qdata : List (List UInt8)) (qa : Int) (qb : Int) : Option ((List (List UInt8))) :=
  (loopO (slices_insertionSortOrdered_string_o0_x1 qa qb) (qdata, IntKind.wrap .i64 (qa + 1))).bind fun vl5_1 =>
  some vl5_1

/-! ### slices.pdqsortOrdered[string] -/
noncomputable def slices_pdqsortOrdered_string_o0_x1 (qx : List (List UInt8)) (qx1 : Int) (qx2 : Int) (qx3 : Int) : Unit → Option ((Unit) ⊕ ((List (List UInt8))))
  | _ =>
  cond (decide ((IntKind.wrap .i64 (qx2 - qx1)) ≤ 12))
    ((slices_insertionSortOrdered_string_o0 qx qx1 qx2).bind fun vl6_1 =>
    gd (vl6_1.length == qx.length) <|
    some (.inr vl6_1))
    (cond (decide (qx3 = 0))
      (none)
      (none))

noncomputable def slices_pdqsortOrdered_string_o0 (qx : List (List UInt8)) (qx1 : Int) (qx2 : Int) (qx3 : Int) : Option ((List (List UInt8))) :=
  (loopO (slices_pdqsortOrdered_string_o0_x1 qx qx1 qx2 qx3) ()).bind fun vl1 =>
  some vl1

/-! ### slices.Sort[[]string,string] -/
noncomputable def slices_Sort_string_string_o0 (qx : List (List UInt8)) : Option ((List (List UInt8))) :=
  (bits_Len (IntKind.wrap .u64 ((qx.length : Int)))).bind fun vr1 =>
  (slices_pdqsortOrdered_string_o0 qx 0 (qx.length : Int) vr1).bind fun vl2 =>
  gd (vl2.length == qx.length) <|
  some vl2

/-! ### slices.Compact[[]string,string] -/
noncomputable def slices_Compact_string_string_o0_x3 (qs : List (List UInt8)) (vk : Int) (vl4 : List (List UInt8)) (vk6 : Int) (vk2_1 : Int) : Option (((List (List UInt8)) × Int)) :=
  gd (decide (0 ≤ vk) && decide (0 ≤ vk2_1) && decide (vk2_1 < (qs.length : Int) - vk)) <|
  (at? vl4 (vk + vk2_1)).bind fun vy13 =>
  gd (decide (0 ≤ vk) && decide (0 ≤ (IntKind.wrap .i64 (vk2_1 - 1))) && decide ((IntKind.wrap .i64 (vk2_1 - 1)) < (qs.length : Int) - vk)) <|
  (at? vl4 (vk + (IntKind.wrap .i64 (vk2_1 - 1)))).bind fun vy14 =>
  cond (!decide (vy13 = vy14))
    ((at? vl4 vk6).bind fun vy15 =>
    some (vl4.set vk6.toNat vy13, IntKind.wrap .i64 (vk6 + 1)))
    (some (vl4, vk6))

noncomputable def slices_Compact_string_string_o0_x2 (qs : List (List UInt8)) (vk : Int) : (List (List UInt8)) × Int × Int → Option (((List (List UInt8)) × Int × Int) ⊕ (((List (List UInt8)) × Int)))
  | (vl4, vk6, vk2_1) =>
  cond (decide (vk2_1 < (((qs.length : Int).toNat - vk.toNat : Nat) : Int)))
    ((slices_Compact_string_string_o0_x3 qs vk vl4 vk6 vk2_1).bind fun (vl6_1, vk8_1) =>
    some (.inl (vl6_1, vk8_1, IntKind.wrap .i64 (vk2_1 + 1))))
    (some (.inr (vl4, vk6)))

noncomputable def slices_Compact_string_string_o0_x1 (qs : List (List UInt8)) (vk : Int) : Option ((Int) ⊕ (Unit ⊕ (List (List UInt8)))) :=
  cond (decide (vk < (qs.length : Int)))
    ((at? qs vk).bind fun vy8 =>
    (at? qs (IntKind.wrap .i64 (vk - 1))).bind fun vy9 =>
    cond (decide (vy8 = vy9))
      (gd (decide (0 ≤ vk) && decide (vk ≤ (qs.length : Int)) && decide ((qs.length : Int) ≤ (qs.length : Int))) <|
      (loopO (slices_Compact_string_string_o0_x2 qs vk) (qs, vk, 1)).bind fun (vl7_1, vk9_1) =>
      gd (decide (0 ≤ vk9_1) && decide (vk9_1 ≤ (vl7_1.length : Int)) && decide ((vl7_1.length : Int) ≤ (vl7_1.length : Int))) <|
      gd (decide (0 ≤ vk9_1) && decide (vk9_1 ≤ ((vl7_1.take vk9_1.toNat ++ (List.replicate ((vl7_1.length : Int).toNat - vk9_1.toNat) ([] : List UInt8) ++ vl7_1.drop (vk9_1.toNat + ((vl7_1.length : Int).toNat - vk9_1.toNat)))).length : Int))) <|
      some (.inr (.inr ((vl7_1.take vk9_1.toNat ++ (List.replicate ((vl7_1.length : Int).toNat - vk9_1.toNat) ([] : List UInt8) ++ vl7_1.drop (vk9_1.toNat + ((vl7_1.length : Int).toNat - vk9_1.toNat)))).take vk9_1.toNat))))
      (some (.inl (IntKind.wrap .i64 (vk + 1)))))
    (some (.inr (.inl ())))

noncomputable def slices_Compact_string_string_o0 (qs : List (List UInt8)) : Option ((List (List UInt8))) :=
  cond (decide ((qs.length : Int) < 2))
    (some qs)
    ((loopO (slices_Compact_string_string_o0_x1 qs) 1).bind fun x => match x with
      | .inl _ =>
        some qs
      | .inr vx1 =>
        some vx1)

/-! ### beaconfleet/twin.names -/
noncomputable def twin_names_o0_x2 (vy3 : List api_Prop) : (List (List UInt8)) × Int → Option (((List (List UInt8)) × Int) ⊕ ((List (List UInt8))))
  | (vout3, vx2) =>
  cond (decide (vx2 < (vy3.length : Int)))
    ((at? vy3 vx2).bind fun vy5 =>
    gd (Nat.ble (vout3.length + ([vy5.Name] : List (List UInt8)).length) LIM) <|
    some (.inl (vout3 ++ ([vy5.Name] : List (List UInt8)), IntKind.wrap .i64 (vx2 + 1))))
    (some (.inr vout3))

noncomputable def twin_names_o0_x1 (qlists : List (List api_Prop)) : (List (List UInt8)) × Int → Option (((List (List UInt8)) × Int) ⊕ ((List (List UInt8))))
  | (vout, vx) =>
  cond (decide (vx < (qlists.length : Int)))
    ((at? qlists vx).bind fun vy3 =>
    (loopO (twin_names_o0_x2 vy3) (vout, 0)).bind fun vout4_1 =>
    some (.inl (vout4_1, IntKind.wrap .i64 (vx + 1))))
    (some (.inr vout))

noncomputable def twin_names_o0 (qlists : List (List api_Prop)) : Option ((List (List UInt8))) :=
  (loopO (twin_names_o0_x1 qlists) ([], 0)).bind fun vout5_1 =>
  (slices_Sort_string_string_o0 vout5_1).bind fun vl =>
  gd (vl.length == vout5_1.length) <|
  (slices_Compact_string_string_o0 vl).bind fun vr =>
  some vr

/-! ### slices.BinarySearchFunc[[]beaconfleet/api.Prop,beaconfleet/api.Prop,string] -/
noncomputable def slices_BinarySearchFunc_api_Prop_api_Prop_string_n0_f2_twin_find_1_x1 : Unit → Option ((Unit) ⊕ (Unit))
  | _ =>
  cond (decide ((0 : Int) < 0))
    (none)
    (some (.inr ()))

noncomputable def slices_BinarySearchFunc_api_Prop_api_Prop_string_n0_f2_twin_find_1 (qtarget : List UInt8) : Option (Unit) :=
  (loopO slices_BinarySearchFunc_api_Prop_api_Prop_string_n0_f2_twin_find_1_x1 ()).bind fun _ =>
  cond (decide ((0 : Int) < 0))
    (none)
    (some ())

/-! ### beaconfleet/twin.find -/
noncomputable def twin_find_n0 (qname : List UInt8) : Option (Unit) :=
  (slices_BinarySearchFunc_api_Prop_api_Prop_string_n0_f2_twin_find_1 qname).bind fun _ =>
  some ()

/-! ### beaconfleet/twin.valueOf -/
noncomputable def twin_valueOf_n0 (qname : List UInt8) : Option (Unit) :=
  (twin_find_n0 qname).bind fun _ =>
  cond (decide (0 ≤ ((-1) : Int)))
    (none)
    (some ())

/-! ### beaconfleet/twin.valueOf -/
noncomputable def twin_valueOf (ql : List api_Prop) (qname : List UInt8) : Option (api_Value) :=
  (twin_find ql qname).bind fun vr2 =>
  cond (decide (0 ≤ vr2))
    ((at? ql vr2).bind fun vy =>
    some (api_Value.mk vy.Value.Kind vy.Value.Flag vy.Value.Number vy.Value.Words))
    (some (api_Value.mk 0 false 0 ([] : List UInt8)))

/-! ### beaconfleet/twin.Differ -/
noncomputable def twin_Differ_n0_o1_x2 (qb : List api_Prop) (vr1_1 : List (List UInt8)) (vout : List api_Change) (vx : Int) : Option ((List api_Change)) :=
  (at? vr1_1 vx).bind fun vy1 =>
  (twin_valueOf_n0 vy1).bind fun _ =>
  (twin_valueOf qb vy1).bind fun vr4 =>
  cond (!(decide ((0 : Int) = vr4.Kind) && ((false == vr4.Flag) && (decide ((0 : Int) = vr4.Number) && (decide (([] : List UInt8) = vr4.Words) && true)))))
    (gd (Nat.ble (vout.length + ([api_Change.mk vy1 (api_Value.mk 0 false 0 ([] : List UInt8)) vr4] : List api_Change).length) LIM) <|
    some (vout ++ ([api_Change.mk vy1 (api_Value.mk 0 false 0 ([] : List UInt8)) vr4] : List api_Change)))
    (some vout)

noncomputable def twin_Differ_n0_o1_x1 (qb : List api_Prop) (vr1_1 : List (List UInt8)) : (List api_Change) × Int → Option (((List api_Change) × Int) ⊕ ((List api_Change)))
  | (vout, vx) =>
  cond (decide (vx < (vr1_1.length : Int)))
    ((twin_Differ_n0_o1_x2 qb vr1_1 vout vx).bind fun vout2_1 =>
    some (.inl (vout2_1, IntKind.wrap .i64 (vx + 1))))
    (some (.inr vout))

noncomputable def twin_Differ_n0_o1 (qb : List api_Prop) : Option ((List api_Change) × Int) :=
  (twin_CheckProps_n0).bind fun vr =>
  (twin_CheckProps qb).bind fun vr3 =>
  (base_First ([vr, vr3] : List Int)).bind fun vr1 =>
  cond (!decide (vr1 = 0))
    (some ([], vr1))
    ((twin_names_o0 ([[], qb] : List (List api_Prop))).bind fun vr1_1 =>
    (loopO (twin_Differ_n0_o1_x1 qb vr1_1) ([], 0)).bind fun vout3_1 =>
    some (vout3_1, 0))

/-! ### beaconfleet/series.seven -/
noncomputable def series_seven_n0_x1 : (List Int) × Int → Option (((List Int) × Int) ⊕ (((List Int) × Int)))
  | (vb, vn) =>
  cond (decide (128 ≤ vn))
    (gd (Nat.ble (vb.length + ([ibits .or .u8 (IntKind.wrap .u8 (ibits .and .u64 vn 127)) 128] : List Int).length) LIM) <|
    some (.inl (vb ++ ([ibits .or .u8 (IntKind.wrap .u8 (ibits .and .u64 vn 127)) 128] : List Int), ishr .u64 vn 7)))
    (some (.inr (vb, vn)))

noncomputable def series_seven_n0 (qn : Int) : Option ((List Int)) :=
  (loopO series_seven_n0_x1 ([], qn)).bind fun (vb1_1, vn1_1) =>
  gd (Nat.ble (vb1_1.length + ([IntKind.wrap .u8 (vn1_1)] : List Int).length) LIM) <|
  some (vb1_1 ++ ([IntKind.wrap .u8 (vn1_1)] : List Int))

/-! ### beaconfleet/series.doubled -/
noncomputable def series_doubled (qn : Int) : Option (Int) :=
  cond (decide (qn < 0))
    (some (IntKind.wrap .u64 (IntKind.wrap .i64 ((IntKind.wrap .i64 (((-2) : Int) * qn)) - 1))))
    (some (IntKind.wrap .u64 (IntKind.wrap .i64 ((2 : Int) * qn))))

/-! ### beaconfleet/series.seven -/
noncomputable def series_seven_o0_x1 : (List Int) × Int → Option (((List Int) × Int) ⊕ (((List Int) × Int)))
  | (vb, vn) =>
  cond (decide (128 ≤ vn))
    (gd (Nat.ble (vb.length + ([ibits .or .u8 (IntKind.wrap .u8 (ibits .and .u64 vn 127)) 128] : List Int).length) LIM) <|
    some (.inl (vb ++ ([ibits .or .u8 (IntKind.wrap .u8 (ibits .and .u64 vn 127)) 128] : List Int), ishr .u64 vn 7)))
    (some (.inr (vb, vn)))

noncomputable def series_seven_o0 (qb : List Int) (qn : Int) : Option ((List Int)) :=
  (loopO series_seven_o0_x1 (qb, qn)).bind fun (vb1_1, vn1_1) =>
  gd (Nat.ble (vb1_1.length + ([IntKind.wrap .u8 (vn1_1)] : List Int).length) LIM) <|
  some (vb1_1 ++ ([IntKind.wrap .u8 (vn1_1)] : List Int))

/-! ### beaconfleet/series.pack -/
noncomputable def series_pack_x2 (vat : Int) (vby : Int) (vx : Int) (vy1 : api_Sample) : Option (Int) :=
  cond (decide (0 < vx))
    (some (IntKind.wrap .i64 (vy1.At - vat)))
    (some vby)

noncomputable def series_pack_x1 (ql : List api_Sample) : (List Int) × Int × Int × Int × Int → Option (((List Int) × Int × Int × Int × Int) ⊕ ((List Int)))
  | (vout, vat, vby, vvalue, vx) =>
  cond (decide (vx < (ql.length : Int)))
    ((at? ql vx).bind fun vy1 =>
    (series_doubled (IntKind.wrap .i64 ((IntKind.wrap .i64 (vy1.At - vat)) - vby))).bind fun vr5 =>
    (series_seven_o0 vout vr5).bind fun vr6 =>
    (series_doubled (IntKind.wrap .i64 (vy1.Value - vvalue))).bind fun vr7 =>
    (series_seven_o0 vr6 vr7).bind fun vr8 =>
    (series_pack_x2 vat vby vx vy1).bind fun vby2_1 =>
    some (.inl (vr8, vy1.At, vby2_1, vy1.Value, IntKind.wrap .i64 (vx + 1))))
    (some (.inr vout))

noncomputable def series_pack (ql : List api_Sample) : Option ((List Int)) :=
  (series_seven_n0 (IntKind.wrap .u64 ((ql.length : Int)))).bind fun vr =>
  (loopO (series_pack_x1 ql) (vr, 0, 0, 0, 0)).bind fun vout1_1 =>
  some vout1_1

/-! ### beaconfleet/series.Pack -/
noncomputable def series_Pack_o0 (ql : List api_Sample) : Option ((List Int) × Int) :=
  (series_CheckSeries ql).bind fun vr1 =>
  cond (!decide (vr1 = 0))
    (some ([], vr1))
    ((series_pack ql).bind fun vr9 =>
    some (vr9, 0))

/-! ### strings.Index -/
noncomputable def strings_Index (qs : List UInt8) (qsubstr : List UInt8) : Option (Int) :=
  (stringslite_Index qs qsubstr).bind fun vr =>
  some vr

/-! ### strings.Count -/
noncomputable def strings_Count_x1 (qsubstr : List UInt8) : (List UInt8) × Int → Option (((List UInt8) × Int) ⊕ (Int))
  | (vs, vn) =>
  (strings_Index vs qsubstr).bind fun vr1_1 =>
  cond (decide (vr1_1 = (-1)))
    (some (.inr vn))
    ((sub? vs (IntKind.wrap .i64 (vr1_1 + (qsubstr.length : Int))) (vs.length : Int)).bind fun vs2 =>
    some (.inl (vs2, IntKind.wrap .i64 (vn + 1))))

noncomputable def strings_Count (qs : List UInt8) (qsubstr : List UInt8) : Option (Int) :=
  cond (decide ((qsubstr.length : Int) = 0))
    (none)
    (cond (decide ((qsubstr.length : Int) = 1))
      ((at? qsubstr 0).bind fun vc =>
      some (countB qs (vc.toNat : Int).toNat.toUInt8))
      ((loopO (strings_Count_x1 qsubstr) (qs, 0)).bind fun vx1 =>
      some vx1))

/-! ### strings.genSplit -/
noncomputable def strings_genSplit_x1 (qx : List UInt8) (qx1 : List UInt8) (qx3 : Int) : Option (Int) :=
  cond (decide (qx3 < 0))
    ((strings_Count qx qx1).bind fun vr =>
    some (IntKind.wrap .i64 (vr + 1)))
    (some qx3)

noncomputable def strings_genSplit_x2 (qx : List UInt8) (qx1 : List UInt8) (qx2 : Int) (vx1 : Int) : (List UInt8) × (List (List UInt8)) × Int → Option (((List UInt8) × (List (List UInt8)) × Int) ⊕ (((List UInt8) × (List (List UInt8)) × Int)))
  | (vx2, vx3, vx4) =>
  cond (decide (vx4 < (IntKind.wrap .i64 ((imin vx1 (IntKind.wrap .i64 ((qx.length : Int) + 1))) - 1))))
    ((strings_Index vx2 qx1).bind fun vr1_1 =>
    cond (decide (vr1_1 < 0))
      (some (.inr (vx2, vx3, vx4)))
      ((sub? vx2 0 (IntKind.wrap .i64 (vr1_1 + qx2))).bind fun vs2 =>
      (at? vx3 vx4).bind fun vy1 =>
      (sub? vx2 (IntKind.wrap .i64 (vr1_1 + (qx1.length : Int))) (vx2.length : Int)).bind fun vs3 =>
      some (.inl (vs3, vx3.set vx4.toNat vs2, IntKind.wrap .i64 (vx4 + 1)))))
    (some (.inr (vx2, vx3, vx4)))

noncomputable def strings_genSplit (qx : List UInt8) (qx1 : List UInt8) (qx2 : Int) (qx3 : Int) : Option ((List (List UInt8))) :=
  cond (decide (qx3 = 0))
    (some [])
    (cond (decide (qx1 = ([] : List UInt8)))
      (none)
      ((strings_genSplit_x1 qx qx1 qx3).bind fun vx1 =>
      gd (decide (0 ≤ (imin vx1 (IntKind.wrap .i64 ((qx.length : Int) + 1)))) && decide ((imin vx1 (IntKind.wrap .i64 ((qx.length : Int) + 1))) ≤ (imin vx1 (IntKind.wrap .i64 ((qx.length : Int) + 1)))) && decide ((imin vx1 (IntKind.wrap .i64 ((qx.length : Int) + 1))) ≤ 137438953472)) <|
      (loopO (strings_genSplit_x2 qx qx1 qx2 vx1) (qx, List.replicate (imin vx1 (IntKind.wrap .i64 ((qx.length : Int) + 1))).toNat ([] : List UInt8), 0)).bind fun (vx5_1, vx6_1, vx7_1) =>
      (at? vx6_1 vx7_1).bind fun vy2 =>
      gd (decide (0 ≤ (IntKind.wrap .i64 (vx7_1 + 1))) && decide ((IntKind.wrap .i64 (vx7_1 + 1)) ≤ ((vx6_1.set vx7_1.toNat vx5_1).length : Int))) <|
      some ((vx6_1.set vx7_1.toNat vx5_1).take (IntKind.wrap .i64 (vx7_1 + 1)).toNat)))

/-! ### strings.Split -/
noncomputable def strings_Split (qs : List UInt8) (qsep : List UInt8) : Option ((List (List UInt8))) :=
  (strings_genSplit qs qsep 0 (-1)).bind fun vr2 =>
  some vr2

/-! ### internal/stringslite.HasPrefix -/
noncomputable def stringslite_HasPrefix_x1 (qs : List UInt8) (qprefix : List UInt8) : Option (Bool) :=
  cond (decide ((qprefix.length : Int) ≤ (qs.length : Int)))
    ((sub? qs 0 (qprefix.length : Int)).bind fun vs =>
    some (decide (vs = qprefix)))
    (some false)

noncomputable def stringslite_HasPrefix (qs : List UInt8) (qprefix : List UInt8) : Option (Bool) :=
  (stringslite_HasPrefix_x1 qs qprefix).bind fun vx1 =>
  some vx1

/-! ### internal/stringslite.TrimPrefix -/
noncomputable def stringslite_TrimPrefix (qs : List UInt8) (qprefix : List UInt8) : Option ((List UInt8)) :=
  (stringslite_HasPrefix qs qprefix).bind fun vr =>
  cond (vr)
    ((sub? qs (qprefix.length : Int) (qs.length : Int)).bind fun vs =>
    some vs)
    (some qs)

/-! ### strings.TrimPrefix -/
noncomputable def strings_TrimPrefix (qs : List UInt8) (qprefix : List UInt8) : Option ((List UInt8)) :=
  (stringslite_TrimPrefix qs qprefix).bind fun vr1 =>
  some vr1

/-! ### internal/strconv.lower -/
noncomputable def strconv_lower (qc : Int) : Option (Unit) :=
  some ()

/-! ### internal/strconv.underscoreOK -/
noncomputable def strconv_underscoreOK_x2 (qx : List UInt8) : Option (Bool) :=
  cond (decide (1 ≤ (qx.length : Int)))
    ((at? qx 0).bind fun vc =>
    cond (decide ((vc.toNat : Int) = 45))
      (some true)
      (some (decide ((vc.toNat : Int) = 43))))
    (some false)

noncomputable def strconv_underscoreOK_x1 (qx : List UInt8) : Option ((List UInt8)) :=
  (strconv_underscoreOK_x2 qx).bind fun vx1 =>
  cond (vx1)
    ((sub? qx 1 (qx.length : Int)).bind fun vs =>
    some vs)
    (some qx)

noncomputable def strconv_underscoreOK_x4 (vx2_1 : List UInt8) : Option (Bool) :=
  cond (decide (2 ≤ (vx2_1.length : Int)))
    ((at? vx2_1 0).bind fun vc1 =>
    cond (decide ((vc1.toNat : Int) = 48))
      ((at? vx2_1 1).bind fun vc2 =>
      (strconv_lower (vc2.toNat : Int)).bind fun _ =>
      cond (decide ((ibits .or .u8 (vc2.toNat : Int) 32) = 98))
        (some true)
        (cond (decide ((ibits .or .u8 (vc2.toNat : Int) 32) = 111))
          (some true)
          (some (decide ((ibits .or .u8 (vc2.toNat : Int) 32) = 120)))))
      (some false))
    (some false)

noncomputable def strconv_underscoreOK_x3 (vx2_1 : List UInt8) : Option ((Int × Int × Bool)) :=
  (strconv_underscoreOK_x4 vx2_1).bind fun vx3_1 =>
  cond (vx3_1)
    ((at? vx2_1 1).bind fun vc3 =>
    (strconv_lower (vc3.toNat : Int)).bind fun _ =>
    some (48, 2, decide ((ibits .or .u8 (vc3.toNat : Int) 32) = 120)))
    (some (94, 0, false))

noncomputable def strconv_underscoreOK_x7 (vx2_1 : List UInt8) (vx6_1 : Bool) (vx8 : Int) : Option (Bool) :=
  (at? vx2_1 vx8).bind fun vc6 =>
  cond (decide ((48 : Int) ≤ (vc6.toNat : Int)))
    (cond (decide ((vc6.toNat : Int) ≤ 57))
      (some true)
      (cond (vx6_1)
        ((strconv_lower (vc6.toNat : Int)).bind fun _ =>
        cond (decide ((97 : Int) ≤ (ibits .or .u8 (vc6.toNat : Int) 32)))
          (some (decide ((ibits .or .u8 (vc6.toNat : Int) 32) ≤ 102)))
          (some false))
        (some false)))
    (cond (vx6_1)
      ((strconv_lower (vc6.toNat : Int)).bind fun _ =>
      cond (decide ((97 : Int) ≤ (ibits .or .u8 (vc6.toNat : Int) 32)))
        (some (decide ((ibits .or .u8 (vc6.toNat : Int) 32) ≤ 102)))
        (some false))
      (some false))

noncomputable def strconv_underscoreOK_x6 (vx2_1 : List UInt8) (vx6_1 : Bool) (vx7 : Int) (vx8 : Int) : Option (Int ⊕ Unit) :=
  (strconv_underscoreOK_x7 vx2_1 vx6_1 vx8).bind fun vx11_1 =>
  cond (vx11_1)
    (some (.inl 48))
    ((at? vx2_1 vx8).bind fun vc7 =>
    cond (decide ((vc7.toNat : Int) = 95))
      (cond (!decide (vx7 = 48))
        (some (.inr ()))
        (some (.inl 95)))
      (cond (decide (vx7 = 95))
        (some (.inr ()))
        (some (.inl 33))))

noncomputable def strconv_underscoreOK_x5 (vx2_1 : List UInt8) (vx6_1 : Bool) : Int × Int → Option ((Int × Int) ⊕ (Int ⊕ Unit))
  | (vx7, vx8) =>
  cond (decide (vx8 < (vx2_1.length : Int)))
    ((strconv_underscoreOK_x6 vx2_1 vx6_1 vx7 vx8).bind fun x => match x with
      | .inl vx12_1 =>
        some (.inl (vx12_1, IntKind.wrap .i64 (vx8 + 1)))
      | .inr _ =>
        some (.inr (.inr ())))
    (some (.inr (.inl vx7)))

noncomputable def strconv_underscoreOK (qx : List UInt8) : Option (Bool) :=
  (strconv_underscoreOK_x1 qx).bind fun vx2_1 =>
  (strconv_underscoreOK_x3 vx2_1).bind fun (vx4_1, vx5_1, vx6_1) =>
  (loopO (strconv_underscoreOK_x5 vx2_1 vx6_1) (vx4_1, vx5_1)).bind fun x => match x with
    | .inl vx13_1 =>
      some (!decide (vx13_1 = 95))
    | .inr _ =>
      some false

/-! ### internal/strconv.ParseUint -/
noncomputable def strconv_ParseUint_x2 (qx1 : Int) : Option (Bool) :=
  cond (decide ((2 : Int) ≤ qx1))
    (some (decide (qx1 ≤ 36)))
    (some false)

noncomputable def strconv_ParseUint_x3 (qx : List UInt8) : Option (Bool) :=
  cond (decide (3 ≤ (qx.length : Int)))
    ((at? qx 1).bind fun vc1 =>
    (strconv_lower (vc1.toNat : Int)).bind fun _ =>
    some (decide ((ibits .or .u8 (vc1.toNat : Int) 32) = 98)))
    (some false)

noncomputable def strconv_ParseUint_x4 (qx : List UInt8) : Option (Bool) :=
  cond (decide (3 ≤ (qx.length : Int)))
    ((at? qx 1).bind fun vc2 =>
    (strconv_lower (vc2.toNat : Int)).bind fun _ =>
    some (decide ((ibits .or .u8 (vc2.toNat : Int) 32) = 111)))
    (some false)

noncomputable def strconv_ParseUint_x5 (qx : List UInt8) : Option (Bool) :=
  cond (decide (3 ≤ (qx.length : Int)))
    ((at? qx 1).bind fun vc3 =>
    (strconv_lower (vc3.toNat : Int)).bind fun _ =>
    some (decide ((ibits .or .u8 (vc3.toNat : Int) 32) = 120)))
    (some false)

noncomputable def strconv_ParseUint_x1 (qx : List UInt8) (qx1 : Int) : Option (((List UInt8) × Int)) :=
  (strconv_ParseUint_x2 qx1).bind fun vx1 =>
  cond (vx1)
    (some (qx, qx1))
    (cond (decide (qx1 = 0))
      ((at? qx 0).bind fun vc =>
      cond (decide ((vc.toNat : Int) = 48))
        ((strconv_ParseUint_x3 qx).bind fun vx2_1 =>
        cond (vx2_1)
          ((sub? qx 2 (qx.length : Int)).bind fun vs =>
          some (vs, 2))
          ((strconv_ParseUint_x4 qx).bind fun vx3_1 =>
          cond (vx3_1)
            ((sub? qx 2 (qx.length : Int)).bind fun vs1 =>
            some (vs1, 8))
            ((strconv_ParseUint_x5 qx).bind fun vx4_1 =>
            cond (vx4_1)
              ((sub? qx 2 (qx.length : Int)).bind fun vs2 =>
              some (vs2, 16))
              ((sub? qx 1 (qx.length : Int)).bind fun vs3 =>
              some (vs3, 8)))))
        (some (qx, 10)))
      (none))

noncomputable def strconv_ParseUint_x7 (qx2 : Int) : Option (Bool) :=
  cond (decide (qx2 < 0))
    (some true)
    (some (decide (64 < qx2)))

noncomputable def strconv_ParseUint_x6 (qx2 : Int) : Option (Int) :=
  cond (decide (qx2 = 0))
    (some 64)
    ((strconv_ParseUint_x7 qx2).bind fun vx7_1 =>
    cond (vx7_1)
      (none)
      (some qx2))

noncomputable def strconv_ParseUint_x8 (vx6_1 : Int) : Option (Int) :=
  cond (decide (vx6_1 = 10))
    (some 1844674407370955162)
    (cond (decide (vx6_1 = 16))
      (some 1152921504606846976)
      (gd (!((IntKind.wrap .u64 (vx6_1)) == 0)) <|
      some (IntKind.wrap .u64 ((IntKind.wrap .u64 ((18446744073709551615 : Int).tdiv (IntKind.wrap .u64 (vx6_1)))) + 1))))

noncomputable def strconv_ParseUint_x12 (qx1 : Int) (vy1 : Int) : Option (Bool) :=
  cond (decide (vy1 = 95))
    (some (decide (qx1 = 0)))
    (some false)

noncomputable def strconv_ParseUint_x13 (vy1 : Int) : Option (Bool) :=
  cond (decide ((48 : Int) ≤ vy1))
    (some (decide (vy1 ≤ 57)))
    (some false)

noncomputable def strconv_ParseUint_x14 (vy1 : Int) : Option (Bool) :=
  (strconv_lower vy1).bind fun _ =>
  cond (decide ((97 : Int) ≤ (ibits .or .u8 vy1 32)))
    (some (decide ((ibits .or .u8 vy1 32) ≤ 122)))
    (some false)

noncomputable def strconv_ParseUint_x11 (qx1 : Int) (vy1 : Int) : Option (Int ⊕ Unit) :=
  (strconv_ParseUint_x12 qx1 vy1).bind fun vx20_1 =>
  cond (vx20_1)
    (some (.inr ()))
    ((strconv_ParseUint_x13 vy1).bind fun vx21_1 =>
    cond (vx21_1)
      (some (.inl (IntKind.wrap .u8 (vy1 - 48))))
      ((strconv_ParseUint_x14 vy1).bind fun vx22_1 =>
      cond (vx22_1)
        ((strconv_lower vy1).bind fun _ =>
        some (.inl (IntKind.wrap .u8 ((IntKind.wrap .u8 ((ibits .or .u8 vy1 32) - 97)) + 10))))
        (none)))

noncomputable def strconv_ParseUint_x15 (vx6_1 : Int) (vx8_1 : Int) (vx11 : Int) (vx23_1 : Int) : Option (Bool) :=
  cond (decide ((IntKind.wrap .u64 ((IntKind.wrap .u64 (vx11 * (IntKind.wrap .u64 (vx6_1)))) + (IntKind.wrap .u64 (vx23_1)))) < (IntKind.wrap .u64 (vx11 * (IntKind.wrap .u64 (vx6_1))))))
    (some true)
    (some (decide ((IntKind.wrap .u64 ((ishl .u64 1 (IntKind.wrap .u64 (vx8_1))) - 1)) < (IntKind.wrap .u64 ((IntKind.wrap .u64 (vx11 * (IntKind.wrap .u64 (vx6_1)))) + (IntKind.wrap .u64 (vx23_1)))))))

noncomputable def strconv_ParseUint_x10 (qx1 : Int) (vx5_1 : List UInt8) (vx6_1 : Int) (vx8_1 : Int) (vx9_1 : Int) (vx10 : Bool) (vx11 : Int) (vx12 : Int) : Option ((Bool × Int)) :=
  (at? (bytesD vx5_1) vx12).bind fun vy1 =>
  (strconv_ParseUint_x11 qx1 vy1).bind fun x => match x with
    | .inl vx23_1 =>
      cond (decide ((IntKind.wrap .u8 (vx6_1)) ≤ vx23_1))
        (none)
        (cond (decide (vx9_1 ≤ vx11))
          (none)
          ((strconv_ParseUint_x15 vx6_1 vx8_1 vx11 vx23_1).bind fun vx24_1 =>
          cond (vx24_1)
            (none)
            (some (vx10, IntKind.wrap .u64 ((IntKind.wrap .u64 (vx11 * (IntKind.wrap .u64 (vx6_1)))) + (IntKind.wrap .u64 (vx23_1)))))))
    | .inr _ =>
      some (true, vx11)

noncomputable def strconv_ParseUint_x9 (qx1 : Int) (vx5_1 : List UInt8) (vx6_1 : Int) (vx8_1 : Int) (vx9_1 : Int) : Bool × Int × Int → Option ((Bool × Int × Int) ⊕ ((Bool × Int)))
  | (vx10, vx11, vx12) =>
  cond (decide (vx12 < ((bytesD vx5_1).length : Int)))
    ((strconv_ParseUint_x10 qx1 vx5_1 vx6_1 vx8_1 vx9_1 vx10 vx11 vx12).bind fun (vx25_1, vx26_1) =>
    some (.inl (vx25_1, vx26_1, IntKind.wrap .i64 (vx12 + 1))))
    (some (.inr (vx10, vx11)))

noncomputable def strconv_ParseUint_x16 (qx : List UInt8) (vx27_1 : Bool) : Option (Bool) :=
  cond (vx27_1)
    ((strconv_underscoreOK qx).bind fun vr =>
    some (!vr))
    (some false)

noncomputable def strconv_ParseUint (qx : List UInt8) (qx1 : Int) (qx2 : Int) : Option (Int) :=
  cond (decide (qx = ([] : List UInt8)))
    (none)
    ((strconv_ParseUint_x1 qx qx1).bind fun (vx5_1, vx6_1) =>
    (strconv_ParseUint_x6 qx2).bind fun vx8_1 =>
    (strconv_ParseUint_x8 vx6_1).bind fun vx9_1 =>
    gd (decide (0 ≤ (IntKind.wrap .u64 (vx8_1)))) <|
    (loopO (strconv_ParseUint_x9 qx1 vx5_1 vx6_1 vx8_1 vx9_1) (false, 0, 0)).bind fun (vx27_1, vx28_1) =>
    (strconv_ParseUint_x16 qx vx27_1).bind fun vx29_1 =>
    cond (vx29_1)
      (none)
      (some vx28_1))

/-! ### internal/strconv.ParseInt -/
noncomputable def strconv_ParseInt_x1 (qx : List UInt8) : Option (((List UInt8) × Bool)) :=
  (at? qx 0).bind fun vc =>
  cond (decide ((vc.toNat : Int) = 43))
    ((sub? qx 1 (qx.length : Int)).bind fun vs =>
    some (vs, false))
    (cond (decide ((vc.toNat : Int) = 45))
      ((sub? qx 1 (qx.length : Int)).bind fun vs1 =>
      some (vs1, true))
      (some (qx, false)))

noncomputable def strconv_ParseInt_x2 (qx2 : Int) : Option (Int) :=
  cond (decide (qx2 = 0))
    (some 64)
    (some qx2)

noncomputable def strconv_ParseInt_x3 (vx1_1 : Bool) (vr1 : Int) (vx3_1 : Int) : Option (Bool) :=
  cond (!vx1_1)
    (some (decide ((ishl .u64 1 (IntKind.wrap .u64 (IntKind.wrap .i64 (vx3_1 - 1)))) ≤ vr1)))
    (some false)

noncomputable def strconv_ParseInt_x4 (vx1_1 : Bool) (vr1 : Int) (vx3_1 : Int) : Option (Bool) :=
  cond (vx1_1)
    (some (decide ((ishl .u64 1 (IntKind.wrap .u64 (IntKind.wrap .i64 (vx3_1 - 1)))) < vr1)))
    (some false)

noncomputable def strconv_ParseInt_x5 (vx1_1 : Bool) (vr1 : Int) : Option (Int) :=
  cond (vx1_1)
    (some (IntKind.wrap .i64 (0 - (IntKind.wrap .i64 (vr1)))))
    (some (IntKind.wrap .i64 (vr1)))

noncomputable def strconv_ParseInt (qx : List UInt8) (qx1 : Int) (qx2 : Int) : Option (Int) :=
  cond (decide (qx = ([] : List UInt8)))
    (none)
    ((strconv_ParseInt_x1 qx).bind fun (vx2, vx1_1) =>
    (strconv_ParseUint vx2 qx1 qx2).bind fun vr1 =>
    (strconv_ParseInt_x2 qx2).bind fun vx3_1 =>
    gd (decide (0 ≤ (IntKind.wrap .u64 (IntKind.wrap .i64 (vx3_1 - 1))))) <|
    (strconv_ParseInt_x3 vx1_1 vr1 vx3_1).bind fun vx4_1 =>
    cond (vx4_1)
      (none)
      ((strconv_ParseInt_x4 vx1_1 vr1 vx3_1).bind fun vx5_1 =>
      cond (vx5_1)
        (none)
        ((strconv_ParseInt_x5 vx1_1 vr1).bind fun vx6_1 =>
        some vx6_1)))

/-! ### internal/strconv.Atoi -/
noncomputable def strconv_Atoi_2_x1 (qx : List UInt8) : Option (Bool) :=
  cond (decide ((0 : Int) < (qx.length : Int)))
    (some (decide ((qx.length : Int) < 19)))
    (some false)

noncomputable def strconv_Atoi_2_x3 (qx : List UInt8) : Option (Bool) :=
  (at? qx 0).bind fun vc =>
  cond (decide ((vc.toNat : Int) = 45))
    (some true)
    (some (decide ((vc.toNat : Int) = 43)))

noncomputable def strconv_Atoi_2_x2 (qx : List UInt8) : Option ((List UInt8)) :=
  (strconv_Atoi_2_x3 qx).bind fun vx2_1 =>
  cond (vx2_1)
    ((sub? qx 1 (qx.length : Int)).bind fun vs =>
    cond (decide ((vs.length : Int) < 1))
      (none)
      (some vs))
    (some qx)

noncomputable def strconv_Atoi_2_x4 (vx3_1 : List UInt8) : Int × Int → Option ((Int × Int) ⊕ (Int))
  | (vx4, vx5) =>
  cond (decide (vx5 < ((bytesD vx3_1).length : Int)))
    ((at? (bytesD vx3_1) vx5).bind fun vy1 =>
    cond (decide (9 < (IntKind.wrap .u8 (vy1 - 48))))
      (none)
      (some (.inl (IntKind.wrap .i64 ((IntKind.wrap .i64 (vx4 * 10)) + (IntKind.wrap .i64 (IntKind.wrap .u8 (vy1 - 48)))), IntKind.wrap .i64 (vx5 + 1)))))
    (some (.inr vx4))

noncomputable def strconv_Atoi_2_x5 (qx : List UInt8) (vx6_1 : Int) : Option (Int) :=
  (at? qx 0).bind fun vc1 =>
  cond (decide ((vc1.toNat : Int) = 45))
    (some (IntKind.wrap .i64 (0 - vx6_1)))
    (some vx6_1)

noncomputable def strconv_Atoi_2 (qx : List UInt8) : Option (Int) :=
  (strconv_Atoi_2_x1 qx).bind fun vx1 =>
  cond (vx1)
    ((strconv_Atoi_2_x2 qx).bind fun vx3_1 =>
    (loopO (strconv_Atoi_2_x4 vx3_1) (0, 0)).bind fun vx6_1 =>
    (strconv_Atoi_2_x5 qx vx6_1).bind fun vx7_1 =>
    some vx7_1)
    ((strconv_ParseInt qx 10 0).bind fun vr =>
    some vr)

/-! ### strconv.Atoi -/
noncomputable def strconv_Atoi (qs : List UInt8) : Option (Int) :=
  (strconv_Atoi_2 qs).bind fun vr1 =>
  some vr1

/-! ### beaconfleet/base.Number -/
noncomputable def base_Number_x1 (qs : List UInt8) (qdigits : Int) (vr : List UInt8) : Option (Bool) :=
  cond (decide (vr = ([] : List UInt8)))
    (some true)
    (cond (decide (qdigits < (vr.length : Int)))
      (some true)
      ((at? vr 0).bind fun vc =>
      cond (decide ((vc.toNat : Int) = 48))
        (cond (decide (1 < (vr.length : Int)))
          (some true)
          (some (decide ((vr.length : Int) < (qs.length : Int)))))
        (some false)))

noncomputable def base_Number_x3 (vr : List UInt8) (vx2 : Int) : Option (Bool) :=
  (at? vr vx2).bind fun vc2 =>
  cond (decide ((vc2.toNat : Int) < 48))
    (some true)
    (some (decide (57 < (vc2.toNat : Int))))

noncomputable def base_Number_x2 (vr : List UInt8) (vx2 : Int) : Option ((Int) ⊕ (Unit ⊕ Unit)) :=
  cond (decide (vx2 < (vr.length : Int)))
    ((base_Number_x3 vr vx2).bind fun vx4_1 =>
    cond (vx4_1)
      (some (.inr (.inr ())))
      (some (.inl (IntKind.wrap .i64 (vx2 + 1)))))
    (some (.inr (.inl ())))

noncomputable def base_Number (qs : List UInt8) (qdigits : Int) : Option (Int × Bool) :=
  (strings_TrimPrefix qs ([45] : List UInt8)).bind fun vr =>
  (base_Number_x1 qs qdigits vr).bind fun vx1 =>
  cond (vx1)
    (some (0, false))
    ((loopO (base_Number_x2 vr) 0).bind fun x => match x with
      | .inl _ =>
        (strconv_Atoi qs).bind fun vr1 =>
        some (vr1, true)
      | .inr _ =>
        some (0, false))

/-! ### beaconfleet/base.Numbers -/
noncomputable def base_Numbers_o0_x1 (qwords : List (List UInt8)) (qdigits : Int) : (List Int) × Int → Option (((List Int) × Int) ⊕ ((List Int) ⊕ Unit))
  | (vout, vx) =>
  cond (decide (vx < (qwords.length : Int)))
    ((at? qwords vx).bind fun vy1 =>
    (base_Number vy1 qdigits).bind fun (vr2_1, vr3_1) =>
    cond (!vr3_1)
      (some (.inr (.inr ())))
      (gd (Nat.ble (vout.length + ([vr2_1] : List Int).length) LIM) <|
      some (.inl (vout ++ ([vr2_1] : List Int), IntKind.wrap .i64 (vx + 1)))))
    (some (.inr (.inl vout)))

noncomputable def base_Numbers_o0 (qwords : List (List UInt8)) (qdigits : Int) : Option ((List Int) × Bool) :=
  (loopO (base_Numbers_o0_x1 qwords qdigits) ([], 0)).bind fun x => match x with
    | .inl vout1_1 =>
      some (vout1_1, true)
    | .inr _ =>
      some ([], false)

/-! ### beaconfleet/base.Version -/
noncomputable def base_Version_x1 (qv : api_Version) : Option (Bool) :=
  (base_Out qv.Major 0 9999).bind fun vr =>
  cond (!vr)
    ((base_Out qv.Minor 0 9999).bind fun vr1 =>
    cond (!vr1)
      ((base_Out qv.Patch 0 9999).bind fun vr2 =>
      some (!vr2))
      (some false))
    (some false)

noncomputable def base_Version (qv : api_Version) : Option (Bool) :=
  (base_Version_x1 qv).bind fun vx1 =>
  some vx1

/-! ### beaconfleet/campaign.ParseVersion -/
noncomputable def campaign_ParseVersion_x1 (vr1 : List Int) (vr1_1 : Bool) : Option (Bool) :=
  cond (!vr1_1)
    (some true)
    (some (!decide ((vr1.length : Int) = 3)))

noncomputable def campaign_ParseVersion (qs : List UInt8) : Option (api_Version × Int) :=
  (strings_Split qs ([46] : List UInt8)).bind fun vr =>
  (base_Numbers_o0 vr 4).bind fun (vr1, vr1_1) =>
  (campaign_ParseVersion_x1 vr1 vr1_1).bind fun vx1 =>
  cond (vx1)
    (some (api_Version.mk 0 0 0, 9))
    ((at? vr1 0).bind fun vy =>
    (at? vr1 1).bind fun vy1 =>
    (at? vr1 2).bind fun vy2 =>
    (base_Version (api_Version.mk vy vy1 vy2)).bind fun vr3 =>
    cond (!vr3)
      (some (api_Version.mk 0 0 0, 9))
      (some (api_Version.mk vy vy1 vy2, 0)))

/-! ### beaconfleet/place.isSpot -/
noncomputable def place_isSpot_x1 (qs : api_Spot) : Option (Bool) :=
  (base_Out qs.X (-10000) 10000).bind fun vr =>
  cond (!vr)
    ((base_Out qs.Y (-10000) 10000).bind fun vr1 =>
    some (!vr1))
    (some false)

noncomputable def place_isSpot (qs : api_Spot) : Option (Bool) :=
  (place_isSpot_x1 qs).bind fun vx1 =>
  some vx1

/-! ### beaconfleet/place.Cell -/
noncomputable def place_Cell_x1 (qs : api_Spot) (qlevel : Int) : Option (Bool) :=
  (place_isSpot qs).bind fun vr2 =>
  cond (!vr2)
    (some true)
    ((base_Out qlevel 0 15).bind fun vr =>
    some vr)

noncomputable def place_Cell_x2 (qs : api_Spot) (qlevel : Int) : (List Int) × Int × Int → Option (((List Int) × Int × Int) ⊕ ((List Int)))
  | (vout, vlong, vx2) =>
  cond (decide (vx2 < qlevel))
    (gd (!((IntKind.wrap .i64 (vlong.tdiv 2)) == 0)) <|
    gd (Nat.ble (vout.length + ([IntKind.wrap .u8 ((IntKind.wrap .u8 ((48 : Int) + (IntKind.wrap .u8 ((IntKind.wrap .i64 ((IntKind.wrap .i64 (qs.X - (-16384))).tdiv (IntKind.wrap .i64 (vlong.tdiv 2)))).tmod 2)))) + (IntKind.wrap .u8 ((2 : Int) * (IntKind.wrap .u8 ((IntKind.wrap .i64 ((IntKind.wrap .i64 (qs.Y - (-16384))).tdiv (IntKind.wrap .i64 (vlong.tdiv 2)))).tmod 2)))))] : List Int).length) LIM) <|
    some (.inl (vout ++ ([IntKind.wrap .u8 ((IntKind.wrap .u8 ((48 : Int) + (IntKind.wrap .u8 ((IntKind.wrap .i64 ((IntKind.wrap .i64 (qs.X - (-16384))).tdiv (IntKind.wrap .i64 (vlong.tdiv 2)))).tmod 2)))) + (IntKind.wrap .u8 ((2 : Int) * (IntKind.wrap .u8 ((IntKind.wrap .i64 ((IntKind.wrap .i64 (qs.Y - (-16384))).tdiv (IntKind.wrap .i64 (vlong.tdiv 2)))).tmod 2)))))] : List Int), IntKind.wrap .i64 (vlong.tdiv 2), IntKind.wrap .i64 (vx2 + 1))))
    (some (.inr vout))

noncomputable def place_Cell (qs : api_Spot) (qlevel : Int) : Option ((List UInt8) × Int) :=
  (place_Cell_x1 qs qlevel).bind fun vx1 =>
  cond (vx1)
    (some (([] : List UInt8), 1))
    ((loopO (place_Cell_x2 qs qlevel) ([], 32768, 0)).bind fun vout1_1 =>
    some (vout1_1.map fun n => UInt8.ofNat n.toNat, 0))

/-! ### beaconfleet/command.CheckLetter -/
noncomputable def command_CheckLetter_x1 (ql : api_Letter) : Option (Bool) :=
  (base_Key ql.Id).bind fun vr =>
  cond (!vr)
    (some true)
    (cond (!decide (ql.Slot = ([] : List UInt8)))
      ((base_Key ql.Slot).bind fun vr1 =>
      some (!vr1))
      (some false))

noncomputable def command_CheckLetter_x2 (ql : api_Letter) : Option (Bool) :=
  (base_Out ql.Prio 0 9).bind fun vr3 =>
  cond (vr3)
    (some true)
    ((base_Moment ql.At).bind fun vr1_1 =>
    cond (!vr1_1)
      (some true)
      (cond (decide (ql.Until ≤ ql.At))
        (some true)
        (some (decide (345686400000 < ql.Until)))))

noncomputable def command_CheckLetter (ql : api_Letter) : Option (Int) :=
  (command_CheckLetter_x1 ql).bind fun vx1 =>
  cond (vx1)
    (some 5)
    (cond (decide (1000 < (ql.Body.length : Int)))
      (some 2)
      ((base_Unmarked ql.Body).bind fun vr2 =>
      cond (!vr2)
        (some 3)
        ((command_CheckLetter_x2 ql).bind fun vx2_1 =>
        cond (vx2_1)
          (some 1)
          (some 0))))

/-! ### beaconfleet/command.Order$1 -/
noncomputable def command_Order_1 (qy : api_Letter) (qx : api_Letter) : Option (Unit) :=
  some ()

/-! ### slices.IndexFunc[[]beaconfleet/api.Letter,beaconfleet/api.Letter] -/
noncomputable def slices_IndexFunc_api_Letter_api_Letter_f1_command_Order_1_x1 (qs : List api_Letter) (qf : api_Letter) (vx : Int) : Option ((Int) ⊕ (Unit ⊕ Int)) :=
  cond (decide (vx < (qs.length : Int)))
    ((at? qs vx).bind fun vy1 =>
    (command_Order_1 vy1 qf).bind fun _ =>
    cond (decide (vy1.Id = qf.Id))
      (some (.inr (.inr vx)))
      (some (.inl (IntKind.wrap .i64 (vx + 1)))))
    (some (.inr (.inl ())))

noncomputable def slices_IndexFunc_api_Letter_api_Letter_f1_command_Order_1 (qs : List api_Letter) (qf : api_Letter) : Option (Int) :=
  (loopO (slices_IndexFunc_api_Letter_api_Letter_f1_command_Order_1_x1 qs qf) 0).bind fun x => match x with
    | .inl _ =>
      some (-1)
    | .inr vx1_1 =>
      some vx1_1

/-! ### slices.ContainsFunc[[]beaconfleet/api.Letter,beaconfleet/api.Letter] -/
noncomputable def slices_ContainsFunc_api_Letter_api_Letter_f1_command_Order_1 (qs : List api_Letter) (qf : api_Letter) : Option (Bool) :=
  (slices_IndexFunc_api_Letter_api_Letter_f1_command_Order_1 qs qf).bind fun vr =>
  some (decide (0 ≤ vr))

/-! ### slices.Clone[[]beaconfleet/api.Letter,beaconfleet/api.Letter] -/
noncomputable def slices_Clone_api_Letter_api_Letter (qs : List api_Letter) : Option (List api_Letter) :=
  gd (Nat.ble (([] : List api_Letter).length + qs.length) LIM) (some qs)

/-! ### beaconfleet/command.byOrder -/
noncomputable def command_byOrder (qa : api_Letter) (qb : api_Letter) : Option (Int) :=
  (cmp_Compare_int qb.Prio qa.Prio).bind fun vr =>
  (cmp_Compare_int qa.At qb.At).bind fun vr1 =>
  (strings_Compare qa.Id qb.Id).bind fun _ =>
  (cmp_Or_int ([vr, vr1, Lib.compareBytes qa.Id qb.Id] : List Int)).bind fun vr2 =>
  some vr2

/-! ### slices.insertionSortCmpFunc[beaconfleet/api.Letter] -/
noncomputable def slices_insertionSortCmpFunc_api_Letter_o0_f3_command_byOrder_x3 (qa : Int) (vl3 : List api_Letter) (vj1 : Int) : Option (Bool) :=
  cond (decide (qa < vj1))
    ((at? vl3 vj1).bind fun vy15 =>
    (at? vl3 (IntKind.wrap .i64 (vj1 - 1))).bind fun vy16 =>
    (command_byOrder vy15 vy16).bind fun vr3_3 =>
    some (decide (vr3_3 < 0)))
    (some false)

noncomputable def slices_insertionSortCmpFunc_api_Letter_o0_f3_command_byOrder_x2 (qa : Int) : (List api_Letter) × Int → Option (((List api_Letter) × Int) ⊕ ((List api_Letter)))
  | (vl3, vj1) =>
  (slices_insertionSortCmpFunc_api_Letter_o0_f3_command_byOrder_x3 qa vl3 vj1).bind fun vx4_1 =>
  cond (vx4_1)
    ((at? vl3 (IntKind.wrap .i64 (vj1 - 1))).bind fun vy17 =>
    (at? vl3 vj1).bind fun vy18 =>
    (at? (vl3.set vj1.toNat vy17) (IntKind.wrap .i64 (vj1 - 1))).bind fun vy19 =>
    some (.inl ((vl3.set vj1.toNat vy17).set (IntKind.wrap .i64 (vj1 - 1)).toNat vy18, IntKind.wrap .i64 (vj1 - 1))))
    (some (.inr vl3))

noncomputable def slices_insertionSortCmpFunc_api_Letter_o0_f3_command_byOrder_x1 (qa : Int) (qb : Int) : (List api_Letter) × Int → Option (((List api_Letter) × Int) ⊕ ((List api_Letter)))
  | (vl, vi) =>
  cond (decide (vi < qb))
    ((loopO (slices_insertionSortCmpFunc_api_Letter_o0_f3_command_byOrder_x2 qa) (vl, vi)).bind fun vl4_1 =>
    some (.inl (vl4_1, IntKind.wrap .i64 (vi + 1))))
    (some (.inr vl))

noncomputable def slices_insertionSortCmpFunc_api_Letter_o0_f3_command_byOrder (qdata : List api_Letter) (qa : Int) (qb : Int) : Option ((List api_Letter)) :=
  (loopO (slices_insertionSortCmpFunc_api_Letter_o0_f3_command_byOrder_x1 qa qb) (qdata, IntKind.wrap .i64 (qa + 1))).bind fun vl5_1 =>
  some vl5_1

/-! ### slices.pdqsortCmpFunc[beaconfleet/api.Letter] -/
noncomputable def slices_pdqsortCmpFunc_api_Letter_o0_f4_command_byOrder_x1 (qx : List api_Letter) (qx1 : Int) (qx2 : Int) (qx3 : Int) : Unit → Option ((Unit) ⊕ ((List api_Letter)))
  | _ =>
  cond (decide ((IntKind.wrap .i64 (qx2 - qx1)) ≤ 12))
    ((slices_insertionSortCmpFunc_api_Letter_o0_f3_command_byOrder qx qx1 qx2).bind fun vl6_1 =>
    gd (vl6_1.length == qx.length) <|
    some (.inr vl6_1))
    (cond (decide (qx3 = 0))
      (none)
      (none))

noncomputable def slices_pdqsortCmpFunc_api_Letter_o0_f4_command_byOrder (qx : List api_Letter) (qx1 : Int) (qx2 : Int) (qx3 : Int) : Option ((List api_Letter)) :=
  (loopO (slices_pdqsortCmpFunc_api_Letter_o0_f4_command_byOrder_x1 qx qx1 qx2 qx3) ()).bind fun vl1 =>
  some vl1

/-! ### slices.SortFunc[[]beaconfleet/api.Letter,beaconfleet/api.Letter] -/
noncomputable def slices_SortFunc_api_Letter_api_Letter_o0_f1_command_byOrder (qx : List api_Letter) : Option ((List api_Letter)) :=
  (bits_Len (IntKind.wrap .u64 ((qx.length : Int)))).bind fun vr1 =>
  (slices_pdqsortCmpFunc_api_Letter_o0_f4_command_byOrder qx 0 (qx.length : Int) vr1).bind fun vl2 =>
  gd (vl2.length == qx.length) <|
  some vl2

/-! ### beaconfleet/command.Order -/
noncomputable def command_Order_o0_x1 (ql : List api_Letter) (vx : Int) : Option ((Int) ⊕ (Unit ⊕ Int)) :=
  cond (decide (vx < (ql.length : Int)))
    ((at? ql vx).bind fun vy1 =>
    (command_CheckLetter vy1).bind fun vr4_1 =>
    cond (!decide (vr4_1 = 0))
      (some (.inr (.inr vr4_1)))
      ((sub? ql 0 vx).bind fun vl1 =>
      (slices_ContainsFunc_api_Letter_api_Letter_f1_command_Order_1 vl1 vy1).bind fun vr1_1 =>
      cond (vr1_1)
        (some (.inr (.inr 6)))
        (some (.inl (IntKind.wrap .i64 (vx + 1))))))
    (some (.inr (.inl ())))

noncomputable def command_Order_o0 (ql : List api_Letter) : Option ((List api_Letter) × Int) :=
  cond (decide (500 < (ql.length : Int)))
    (some ([], 2))
    ((loopO (command_Order_o0_x1 ql) 0).bind fun x => match x with
      | .inl _ =>
        (slices_Clone_api_Letter_api_Letter ql).bind fun vr =>
        (slices_SortFunc_api_Letter_api_Letter_o0_f1_command_byOrder vr).bind fun vl2 =>
        gd (vl2.length == vr.length) <|
        some (vl2, 0)
      | .inr vx1_1 =>
        some ([], vx1_1))

/-! ### slices.Equal[[]byte,byte] -/
noncomputable def slices_Equal_byte_byte_x1 (qs1 : List Int) (qs2 : List Int) (vx : Int) : Option ((Int) ⊕ (Unit ⊕ Unit)) :=
  cond (decide (vx < (qs1.length : Int)))
    ((at? qs1 vx).bind fun vy2 =>
    (at? qs2 vx).bind fun vy3 =>
    cond (!decide (vy2 = vy3))
      (some (.inr (.inr ())))
      (some (.inl (IntKind.wrap .i64 (vx + 1)))))
    (some (.inr (.inl ())))

noncomputable def slices_Equal_byte_byte (qs1 : List Int) (qs2 : List Int) : Option (Bool) :=
  cond (!decide ((qs1.length : Int) = (qs2.length : Int)))
    (some false)
    ((loopO (slices_Equal_byte_byte_x1 qs1 qs2) 0).bind fun x => match x with
      | .inl _ =>
        some true
      | .inr _ =>
        some false)

/-! ### beaconfleet/fleetkeep2.ready -/
noncomputable def fleetkeep2_ready_x1 (vr5 : List api_Change) (vr6 : Int) (vr : List Int) (vr2 : Int) (vr2_1 : api_Version) (vr4 : Int) (vr1 : List UInt8) (vr3 : Int) (vr2_2 : List api_Letter) (vr3_1 : Int) : Option (Bool) :=
  (fleetkeep2_errs ([vr6, vr2, vr4, vr3, vr3_1] : List Int)).bind fun vr7 =>
  cond (decide (vr7 = 0))
    (cond (decide ((vr5.length : Int) = 1))
      ((slices_Equal_byte_byte vr ([1, 2, 2] : List Int)).bind fun vr8 =>
      cond (vr8)
        (cond (decide (vr2_1.Patch = 3))
          (cond (decide (vr1 = ([51] : List UInt8)))
            (some (decide ((vr2_2.length : Int) = 1)))
            (some false))
          (some false))
        (some false))
      (some false))
    (some false)

noncomputable def fleetkeep2_ready : Option (Bool) :=
  (twin_Differ_n0_o1 ([api_Prop.mk ([97] : List UInt8) (api_Value.mk 1 false 0 ([] : List UInt8))] : List api_Prop)).bind fun (vr5, vr6) =>
  (series_Pack_o0 ([api_Sample.mk ([100] : List UInt8) ([109] : List UInt8) 1 1] : List api_Sample)).bind fun (vr, vr2) =>
  (campaign_ParseVersion ([49, 46, 50, 46, 51] : List UInt8)).bind fun (vr2_1, vr4) =>
  (place_Cell (api_Spot.mk 0 0) 1).bind fun (vr1, vr3) =>
  (command_Order_o0 ([api_Letter.mk ([97] : List UInt8) ([] : List UInt8) ([] : List UInt8) 0 0 5] : List api_Letter)).bind fun (vr2_2, vr3_1) =>
  (fleetkeep2_ready_x1 vr5 vr6 vr vr2 vr2_1 vr4 vr1 vr3 vr2_2 vr3_1).bind fun vx1 =>
  some vx1

/-! ### beaconfleet/fleetkeep2.CountersAddUp -/
noncomputable def fleetkeep2_CountersAddUp_x2 (vr5 : List api_Sample) (vr : Int) (vr1 : Int) (vr2 : Int) (vr3 : Int) (vx : Int) (vy1 : api_Window) : Option (Bool) :=
  cond (decide ((IntKind.wrap .i64 (vy1.To - vy1.From)) ≤ vr))
    (some true)
    (cond (decide (vy1.From < vx))
      (some true)
      (cond (decide ((IntKind.wrap .i64 ((IntKind.wrap .i64 (vr1 + vr2)) + vr3)) < vy1.To))
        (some true)
        ((slices_ContainsFunc_api_Sample_api_Sample_f1_fleetkeep2_CountersAddUp_1 vr5 vy1).bind fun vr7 =>
        some vr7)))

noncomputable def fleetkeep2_CountersAddUp_x1 (vr5 : List api_Sample) (vr : Int) (vr1 : Int) (vr2 : Int) (vr3 : Int) (vr4 : List api_Window) : Int × Int → Option ((Int × Int) ⊕ (Unit ⊕ Unit))
  | (vx, vx1) =>
  cond (decide (vx1 < (vr4.length : Int)))
    ((at? vr4 vx1).bind fun vy1 =>
    (fleetkeep2_CountersAddUp_x2 vr5 vr vr1 vr2 vr3 vx vy1).bind fun vx3_1 =>
    cond (vx3_1)
      (some (.inr (.inr ())))
      (some (.inl (vy1.To, IntKind.wrap .i64 (vx1 + 1)))))
    (some (.inr (.inl ())))

noncomputable def fleetkeep2_CountersAddUp_x3 (vr1_1 : Int) (vr2_1 : Int) (vr1_2 : Int) (vr2_2 : Int) (vr1_3 : Int) (vr2_3 : Int) (vr5_1 : Int) : Option (Bool) :=
  (fleetkeep2_errs ([vr2_1, vr2_2, vr2_3, vr5_1] : List Int)).bind fun vr8 =>
  cond (decide (vr8 = 0))
    (cond (decide ((IntKind.wrap .i64 (vr1_1 + vr1_2)) = vr1_3))
      ((fleetkeep2_ready).bind fun vr9 =>
      some vr9)
      (some false))
    (some false)

noncomputable def fleetkeep2_CountersAddUp (qx : List Int) : Option (Bool) :=
  (fleetmake_Stream_RightSeries (fleetmake_Stream.mk qx 0) 12 0).bind fun (vs3, vr5) =>
  (fleetmake_Stream_Range vs3 1 60).bind fun (vs, vr) =>
  (fleetmake_Stream_Range vs 0 50).bind fun (vs1, vr1) =>
  (fleetmake_Stream_Range vs1 0 50).bind fun (vs2, vr2) =>
  (fleetmake_Stream_Range vs2 0 200).bind fun (vs4, vr3) =>
  (series_Grown vr5 (api_Window.mk vr1 (IntKind.wrap .i64 (vr1 + vr2)))).bind fun (vr1_1, vr2_1) =>
  (series_Grown vr5 (api_Window.mk (IntKind.wrap .i64 (vr1 + vr2)) (IntKind.wrap .i64 ((IntKind.wrap .i64 (vr1 + vr2)) + vr3)))).bind fun (vr1_2, vr2_2) =>
  (series_Grown vr5 (api_Window.mk vr1 (IntKind.wrap .i64 ((IntKind.wrap .i64 (vr1 + vr2)) + vr3)))).bind fun (vr1_3, vr2_3) =>
  (series_Gaps vr5 (api_Window.mk vr1 (IntKind.wrap .i64 ((IntKind.wrap .i64 (vr1 + vr2)) + vr3))) vr).bind fun (vr4, vr5_1) =>
  (loopO (fleetkeep2_CountersAddUp_x1 vr5 vr vr1 vr2 vr3 vr4) (vr1, 0)).bind fun x => match x with
    | .inl _ =>
      (fleetkeep2_CountersAddUp_x3 vr1_1 vr2_1 vr1_2 vr2_2 vr1_3 vr2_3 vr5_1).bind fun vx4_1 =>
      some vx4_1
    | .inr _ =>
      some false

/-! ### slices.Clone[[]beaconfleet/api.Sample,beaconfleet/api.Sample] -/
noncomputable def slices_Clone_api_Sample_api_Sample (qs : List api_Sample) : Option (List api_Sample) :=
  gd (Nat.ble (([] : List api_Sample).length + qs.length) LIM) (some qs)

/-! ### beaconfleet/series.Thin$1 -/
noncomputable def series_Thin_1 (qk : Int) (qx : Int) (qx1 : List api_Sample) (qx2 : Int) : Option ((List api_Sample)) :=
  cond (decide ((IntKind.wrap .i64 (qx - 3)) < qk))
    ((sub? qx1 (IntKind.wrap .i64 (qx2 - 1)) (qx1.length : Int)).bind fun vl =>
    some vl)
    (gd (!((IntKind.wrap .i64 (qx - 2)) == 0)) <|
    (sub? qx1 (IntKind.wrap .i64 ((1 : Int) + (IntKind.wrap .i64 ((IntKind.wrap .i64 (qk * (IntKind.wrap .i64 (qx2 - 2)))).tdiv (IntKind.wrap .i64 (qx - 2)))))) (IntKind.wrap .i64 ((1 : Int) + (IntKind.wrap .i64 ((IntKind.wrap .i64 ((IntKind.wrap .i64 (qk + 1)) * (IntKind.wrap .i64 (qx2 - 2)))).tdiv (IntKind.wrap .i64 (qx - 2))))))).bind fun vl1 =>
    some vl1)

/-! ### beaconfleet/base.Down -/
noncomputable def base_Down_x1 (qa : Int) (qb : Int) : Option (Int) :=
  gd (!(qb == 0)) <|
  cond (decide ((qa.tmod qb) < 0))
    (some (IntKind.wrap .i64 ((IntKind.wrap .i64 (qa.tdiv qb)) - 1)))
    (some (IntKind.wrap .i64 (qa.tdiv qb)))

noncomputable def base_Down (qa : Int) (qb : Int) : Option (Int) :=
  gd (!(qb == 0)) <|
  (base_Down_x1 qa qb).bind fun vq1 =>
  some vq1

/-! ### beaconfleet/series.middle -/
noncomputable def series_middle_x1 (ql : List api_Sample) : api_Sample × Int → Option ((api_Sample × Int) ⊕ (api_Sample))
  | (vm, vx) =>
  cond (decide (vx < (ql.length : Int)))
    ((at? ql vx).bind fun vy1 =>
    some (.inl (api_Sample.mk vm.Device vm.Metric (IntKind.wrap .i64 (vm.At + vy1.At)) (IntKind.wrap .i64 (vm.Value + vy1.Value)), IntKind.wrap .i64 (vx + 1))))
    (some (.inr vm))

noncomputable def series_middle (ql : List api_Sample) : Option (api_Sample) :=
  (loopO (series_middle_x1 ql) (api_Sample.mk ([] : List UInt8) ([] : List UInt8) 0 0, 0)).bind fun vm1_1 =>
  gd (!((ql.length : Int) == 0)) <|
  (base_Down vm1_1.Value (ql.length : Int)).bind fun vr =>
  some (api_Sample.mk vm1_1.Device vm1_1.Metric (IntKind.wrap .i64 (vm1_1.At.tdiv (ql.length : Int))) vr)

/-! ### beaconfleet/series.area -/
noncomputable def series_area (qa : api_Sample) (qb : api_Sample) (qc : api_Sample) : Option (Unit) :=
  some ()

/-! ### beaconfleet/series.Thin -/
noncomputable def series_Thin_x3 (vy5 : api_Sample) (vr1_2 : api_Sample) (vr6 : List api_Sample) (vx10 : api_Sample) (vx11 : Int) (vx12 : Int) : Option ((api_Sample × Int)) :=
  (at? vr6 vx12).bind fun vy7 =>
  (series_area vy5 vy7 vr1_2).bind fun _ =>
  cond (decide (vx11 < (imax (IntKind.wrap .i64 ((IntKind.wrap .i64 ((IntKind.wrap .i64 (vy7.At - vy5.At)) * (IntKind.wrap .i64 (vr1_2.Value - vy5.Value)))) - (IntKind.wrap .i64 ((IntKind.wrap .i64 (vr1_2.At - vy5.At)) * (IntKind.wrap .i64 (vy7.Value - vy5.Value)))))) (IntKind.wrap .i64 (0 - (IntKind.wrap .i64 ((IntKind.wrap .i64 ((IntKind.wrap .i64 (vy7.At - vy5.At)) * (IntKind.wrap .i64 (vr1_2.Value - vy5.Value)))) - (IntKind.wrap .i64 ((IntKind.wrap .i64 (vr1_2.At - vy5.At)) * (IntKind.wrap .i64 (vy7.Value - vy5.Value)))))))))))
    (some (vy7, imax (IntKind.wrap .i64 ((IntKind.wrap .i64 ((IntKind.wrap .i64 (vy7.At - vy5.At)) * (IntKind.wrap .i64 (vr1_2.Value - vy5.Value)))) - (IntKind.wrap .i64 ((IntKind.wrap .i64 (vr1_2.At - vy5.At)) * (IntKind.wrap .i64 (vy7.Value - vy5.Value)))))) (IntKind.wrap .i64 (0 - (IntKind.wrap .i64 ((IntKind.wrap .i64 ((IntKind.wrap .i64 (vy7.At - vy5.At)) * (IntKind.wrap .i64 (vr1_2.Value - vy5.Value)))) - (IntKind.wrap .i64 ((IntKind.wrap .i64 (vr1_2.At - vy5.At)) * (IntKind.wrap .i64 (vy7.Value - vy5.Value))))))))))
    (some (vx10, vx11))

noncomputable def series_Thin_x2 (vy5 : api_Sample) (vr1_2 : api_Sample) (vr6 : List api_Sample) : api_Sample × Int × Int → Option ((api_Sample × Int × Int) ⊕ (api_Sample))
  | (vx10, vx11, vx12) =>
  cond (decide (vx12 < (vr6.length : Int)))
    ((series_Thin_x3 vy5 vr1_2 vr6 vx10 vx11 vx12).bind fun (vx15_1, vx16_1) =>
    some (.inl (vx15_1, vx16_1, IntKind.wrap .i64 (vx12 + 1))))
    (some (.inr vx10))

noncomputable def series_Thin_x1 (qx : List api_Sample) (qx1 : Int) : (List api_Sample) × Int → Option (((List api_Sample) × Int) ⊕ ((List api_Sample)))
  | (vx, vx1) =>
  cond (decide (vx1 < (IntKind.wrap .i64 (qx1 - 2))))
    ((at? vx (IntKind.wrap .i64 ((vx.length : Int) - 1))).bind fun vy5 =>
    (series_Thin_1 (IntKind.wrap .i64 (vx1 + 1)) qx1 qx (qx.length : Int)).bind fun vr5 =>
    (series_middle vr5).bind fun vr1_2 =>
    (series_Thin_1 vx1 qx1 qx (qx.length : Int)).bind fun vr6 =>
    (loopO (series_Thin_x2 vy5 vr1_2 vr6) (api_Sample.mk ([] : List UInt8) ([] : List UInt8) 0 0, (-1), 0)).bind fun vx17_1 =>
    gd (Nat.ble (vx.length + ([vx17_1] : List api_Sample).length) LIM) <|
    some (.inl (vx ++ ([vx17_1] : List api_Sample), IntKind.wrap .i64 (vx1 + 1))))
    (some (.inr vx))

noncomputable def series_Thin (qx : List api_Sample) (qx1 : Int) : Option ((List api_Sample) × Int) :=
  (series_CheckSeries qx).bind fun vr1 =>
  cond (!decide (vr1 = 0))
    (some ([], vr1))
    ((base_Out qx1 3 5000).bind fun vr =>
    cond (vr)
      (some ([], 1))
      (cond (decide ((qx.length : Int) ≤ qx1))
        ((slices_Clone_api_Sample_api_Sample qx).bind fun vr2 =>
        some (vr2, 0))
        ((at? qx (IntKind.wrap .i64 ((qx.length : Int) - 1))).bind fun vy =>
        (at? qx 0).bind fun vy1 =>
        cond (decide (864000000 < (IntKind.wrap .i64 (vy.At - vy1.At))))
          (some ([], 2))
          ((loopO (series_Thin_x1 qx qx1) (([vy1] : List api_Sample), 0)).bind fun vx18_1 =>
          gd (Nat.ble (vx18_1.length + ([vy] : List api_Sample).length) LIM) <|
          some (vx18_1 ++ ([vy] : List api_Sample), 0)))))

/-! ### slices.Index[[]beaconfleet/api.Sample,beaconfleet/api.Sample] -/
noncomputable def slices_Index_api_Sample_api_Sample_x1 (qs : List api_Sample) (qv : api_Sample) (vx : Int) : Option ((Int) ⊕ (Unit ⊕ Int)) :=
  cond (decide (vx < (qs.length : Int)))
    ((at? qs vx).bind fun vy1 =>
    cond ((decide (qv.Device = vy1.Device) && (decide (qv.Metric = vy1.Metric) && (decide (qv.At = vy1.At) && (decide (qv.Value = vy1.Value) && true)))))
      (some (.inr (.inr vx)))
      (some (.inl (IntKind.wrap .i64 (vx + 1)))))
    (some (.inr (.inl ())))

noncomputable def slices_Index_api_Sample_api_Sample (qs : List api_Sample) (qv : api_Sample) : Option (Int) :=
  (loopO (slices_Index_api_Sample_api_Sample_x1 qs qv) 0).bind fun x => match x with
    | .inl _ =>
      some (-1)
    | .inr vx1_1 =>
      some vx1_1

/-! ### slices.Contains[[]beaconfleet/api.Sample,beaconfleet/api.Sample] -/
noncomputable def slices_Contains_api_Sample_api_Sample (qs : List api_Sample) (qv : api_Sample) : Option (Bool) :=
  (slices_Index_api_Sample_api_Sample qs qv).bind fun vr =>
  some (decide (0 ≤ vr))

/-! ### beaconfleet/fleetkeep2.ThinKeepsEnds -/
noncomputable def fleetkeep2_ThinKeepsEnds_x1 (vr5 : List api_Sample) (vr : Int) (vr7 : List api_Sample) (vr8 : Int) : Option (Bool) :=
  cond (!decide (vr8 = 0))
    (some true)
    (some (!decide ((vr7.length : Int) = (imin vr (vr5.length : Int)))))

noncomputable def fleetkeep2_ThinKeepsEnds_x2 (vr5 : List api_Sample) (vr7 : List api_Sample) : Option (Bool) :=
  cond (decide (0 < (vr7.length : Int)))
    ((at? vr7 0).bind fun vy =>
    (at? vr5 0).bind fun vy1 =>
    cond (!(decide (vy.Device = vy1.Device) && (decide (vy.Metric = vy1.Metric) && (decide (vy.At = vy1.At) && (decide (vy.Value = vy1.Value) && true)))))
      (some true)
      ((at? vr7 (IntKind.wrap .i64 ((vr7.length : Int) - 1))).bind fun vy2 =>
      (at? vr5 (IntKind.wrap .i64 ((vr5.length : Int) - 1))).bind fun vy3 =>
      some (!(decide (vy2.Device = vy3.Device) && (decide (vy2.Metric = vy3.Metric) && (decide (vy2.At = vy3.At) && (decide (vy2.Value = vy3.Value) && true)))))))
    (some false)

noncomputable def fleetkeep2_ThinKeepsEnds_x3 (vr5 : List api_Sample) (vr7 : List api_Sample) (vx3 : Int) : Option ((Int) ⊕ (Unit ⊕ Unit)) :=
  cond (decide (vx3 < (vr7.length : Int)))
    ((at? vr7 vx3).bind fun vy5 =>
    (slices_Contains_api_Sample_api_Sample vr5 vy5).bind fun vr1_1 =>
    cond (!vr1_1)
      (some (.inr (.inr ())))
      (some (.inl (IntKind.wrap .i64 (vx3 + 1)))))
    (some (.inr (.inl ())))

noncomputable def fleetkeep2_ThinKeepsEnds_x4 (vr7 : List api_Sample) : Option (Bool) :=
  (series_CheckSeries vr7).bind fun vr1_2 =>
  cond (decide (vr1_2 = 0))
    ((fleetkeep2_ready).bind fun vr9 =>
    some vr9)
    (some false)

noncomputable def fleetkeep2_ThinKeepsEnds (qx : List Int) : Option (Bool) :=
  (fleetmake_Stream_RightSeries (fleetmake_Stream.mk qx 0) 16 (-100)).bind fun (vs3, vr5) =>
  (fleetmake_Stream_Range vs3 3 8).bind fun (vs, vr) =>
  (series_Thin vr5 vr).bind fun (vr7, vr8) =>
  (fleetkeep2_ThinKeepsEnds_x1 vr5 vr vr7 vr8).bind fun vx1 =>
  cond (vx1)
    (some false)
    ((fleetkeep2_ThinKeepsEnds_x2 vr5 vr7).bind fun vx2_1 =>
    cond (vx2_1)
      (some false)
      ((loopO (fleetkeep2_ThinKeepsEnds_x3 vr5 vr7) 0).bind fun x => match x with
        | .inl _ =>
          (fleetkeep2_ThinKeepsEnds_x4 vr7).bind fun vx4_1 =>
          some vx4_1
        | .inr _ =>
          some false))

/-! ### beaconfleet/series.spans -/
noncomputable def series_spans_x3 (ql : List api_Sample) (qw : api_Window) (vx : Int) : Option (Int) :=
  cond (decide ((IntKind.wrap .i64 (vx + 1)) < (ql.length : Int)))
    ((at? ql (IntKind.wrap .i64 (vx + 1))).bind fun vy3 =>
    some (imin qw.To vy3.At))
    (some qw.To)

noncomputable def series_spans_x2 (ql : List api_Sample) (qw : api_Window) (vout : List series_span) (vx : Int) : Option ((List series_span)) :=
  (at? ql vx).bind fun vy2 =>
  (series_spans_x3 ql qw vx).bind fun vto2_1 =>
  cond (decide ((imax vy2.At qw.From) < vto2_1))
    (gd (Nat.ble (vout.length + ([series_span.mk (imax vy2.At qw.From) vto2_1 vy2.Value] : List series_span).length) LIM) <|
    some (vout ++ ([series_span.mk (imax vy2.At qw.From) vto2_1 vy2.Value] : List series_span)))
    (some vout)

noncomputable def series_spans_x1 (ql : List api_Sample) (qw : api_Window) : (List series_span) × Int → Option (((List series_span) × Int) ⊕ ((List series_span)))
  | (vout, vx) =>
  cond (decide (vx < (ql.length : Int)))
    ((series_spans_x2 ql qw vout vx).bind fun vout2_1 =>
    some (.inl (vout2_1, IntKind.wrap .i64 (vx + 1))))
    (some (.inr vout))

noncomputable def series_spans (ql : List api_Sample) (qw : api_Window) : Option ((List series_span)) :=
  (loopO (series_spans_x1 ql qw) ([], 0)).bind fun vout3_1 =>
  some vout3_1

/-! ### beaconfleet/base.Gcd -/
noncomputable def base_Gcd_x1 : Int × Int → Option ((Int × Int) ⊕ (Int))
  | (va, vb) =>
  cond (!decide (vb = 0))
    (gd (!(vb == 0)) <|
    some (.inl (vb, va.tmod vb)))
    (some (.inr va))

noncomputable def base_Gcd (qa : Int) (qb : Int) : Option (Int) :=
  (loopO base_Gcd_x1 (qa, qb)).bind fun va1_1 =>
  some va1_1

/-! ### beaconfleet/base.Fraction -/
noncomputable def base_Fraction (qnum : Int) (qden : Int) : Option (api_Fraction) :=
  (base_Gcd (imax qnum (IntKind.wrap .i64 (0 - qnum))) qden).bind fun vr =>
  gd (!(vr == 0)) <|
  some (api_Fraction.mk (IntKind.wrap .i64 (qnum.tdiv vr)) (IntKind.wrap .i64 (qden.tdiv vr)))

/-! ### beaconfleet/series.Held -/
noncomputable def series_Held_x1 (vr1 : List series_span) : Int × Int × Int → Option ((Int × Int × Int) ⊕ ((Int × Int)))
  | (vsum, vtime, vx) =>
  cond (decide (vx < (vr1.length : Int)))
    ((at? vr1 vx).bind fun vy1 =>
    some (.inl (IntKind.wrap .i64 (vsum + (IntKind.wrap .i64 (vy1.value_ * (IntKind.wrap .i64 (vy1.to_ - vy1.from_))))), IntKind.wrap .i64 (vtime + (IntKind.wrap .i64 (vy1.to_ - vy1.from_))), IntKind.wrap .i64 (vx + 1))))
    (some (.inr (vsum, vtime)))

noncomputable def series_Held (ql : List api_Sample) (qw : api_Window) : Option (api_Fraction × Int) :=
  (series_fault ql qw).bind fun vr =>
  cond (!decide (vr = 0))
    (some (api_Fraction.mk 0 0, vr))
    (cond (decide (7776000000 < (IntKind.wrap .i64 (qw.To - qw.From))))
      (some (api_Fraction.mk 0 0, 2))
      ((series_spans ql qw).bind fun vr1 =>
      (loopO (series_Held_x1 vr1) (0, 0, 0)).bind fun (vsum1_1, vtime1_1) =>
      cond (decide (vtime1_1 = 0))
        (some (api_Fraction.mk 0 0, 8))
        ((base_Fraction vsum1_1 vtime1_1).bind fun vr1_1 =>
        some (vr1_1, 0))))

/-! ### beaconfleet/series.Beyond -/
noncomputable def series_Beyond_x3 (vx : List api_Window) (vy3 : series_span) : Option (Bool) :=
  cond (decide (0 ≤ (IntKind.wrap .i64 ((vx.length : Int) - 1))))
    ((at? vx (IntKind.wrap .i64 ((vx.length : Int) - 1))).bind fun vy4 =>
    some (decide (vy4.To = vy3.from_)))
    (some false)

noncomputable def series_Beyond_x2 (qx2 : Int) (qx3 : Int) (vr1 : List series_span) (vx : List api_Window) (vx1 : Int) : Option ((List api_Window)) :=
  (at? vr1 vx1).bind fun vy3 =>
  (base_Out vy3.value_ qx2 qx3).bind fun vr3 =>
  cond (!vr3)
    (some vx)
    ((series_Beyond_x3 vx vy3).bind fun vx4_1 =>
    cond (vx4_1)
      ((at? vx (IntKind.wrap .i64 ((vx.length : Int) - 1))).bind fun vy5 =>
      some (vx.set (IntKind.wrap .i64 ((vx.length : Int) - 1)).toNat (api_Window.mk vy5.From vy3.to_)))
      (gd (Nat.ble (vx.length + ([api_Window.mk vy3.from_ vy3.to_] : List api_Window).length) LIM) <|
      some (vx ++ ([api_Window.mk vy3.from_ vy3.to_] : List api_Window))))

noncomputable def series_Beyond_x1 (qx2 : Int) (qx3 : Int) (vr1 : List series_span) : (List api_Window) × Int → Option (((List api_Window) × Int) ⊕ ((List api_Window)))
  | (vx, vx1) =>
  cond (decide (vx1 < (vr1.length : Int)))
    ((series_Beyond_x2 qx2 qx3 vr1 vx vx1).bind fun vx5_1 =>
    some (.inl (vx5_1, IntKind.wrap .i64 (vx1 + 1))))
    (some (.inr vx))

noncomputable def series_Beyond (qx : List api_Sample) (qx1 : api_Window) (qx2 : Int) (qx3 : Int) : Option ((List api_Window) × Int) :=
  (series_fault qx qx1).bind fun vr =>
  cond (!decide (vr = 0))
    (some ([], vr))
    (cond (decide (qx3 < qx2))
      (some ([], 1))
      ((series_spans qx qx1).bind fun vr1 =>
      (loopO (series_Beyond_x1 qx2 qx3 vr1) ([], 0)).bind fun vx6_1 =>
      some (vx6_1, 0)))

/-! ### beaconfleet/base.Out -/
noncomputable def base_Out_2_x1 (qn : Int) (qlow : Int) : Option (Bool) :=
  cond (decide (qn < qlow))
    (some true)
    (some (decide (qlow < qn)))

noncomputable def base_Out_2 (qn : Int) (qlow : Int) : Option (Bool) :=
  (base_Out_2_x1 qn qlow).bind fun vx1 =>
  some vx1

/-! ### beaconfleet/series.Beyond -/
noncomputable def series_Beyond_2_x3 (vx : List api_Window) (vy3 : series_span) : Option (Bool) :=
  cond (decide (0 ≤ (IntKind.wrap .i64 ((vx.length : Int) - 1))))
    ((at? vx (IntKind.wrap .i64 ((vx.length : Int) - 1))).bind fun vy4 =>
    some (decide (vy4.To = vy3.from_)))
    (some false)

noncomputable def series_Beyond_2_x2 (qx2 : Int) (vr1 : List series_span) (vx : List api_Window) (vx1 : Int) : Option ((List api_Window)) :=
  (at? vr1 vx1).bind fun vy3 =>
  (base_Out_2 vy3.value_ qx2).bind fun vr3 =>
  cond (!vr3)
    (some vx)
    ((series_Beyond_2_x3 vx vy3).bind fun vx4_1 =>
    cond (vx4_1)
      ((at? vx (IntKind.wrap .i64 ((vx.length : Int) - 1))).bind fun vy5 =>
      some (vx.set (IntKind.wrap .i64 ((vx.length : Int) - 1)).toNat (api_Window.mk vy5.From vy3.to_)))
      (gd (Nat.ble (vx.length + ([api_Window.mk vy3.from_ vy3.to_] : List api_Window).length) LIM) <|
      some (vx ++ ([api_Window.mk vy3.from_ vy3.to_] : List api_Window))))

noncomputable def series_Beyond_2_x1 (qx2 : Int) (vr1 : List series_span) : (List api_Window) × Int → Option (((List api_Window) × Int) ⊕ ((List api_Window)))
  | (vx, vx1) =>
  cond (decide (vx1 < (vr1.length : Int)))
    ((series_Beyond_2_x2 qx2 vr1 vx vx1).bind fun vx5_1 =>
    some (.inl (vx5_1, IntKind.wrap .i64 (vx1 + 1))))
    (some (.inr vx))

noncomputable def series_Beyond_2 (qx : List api_Sample) (qx1 : api_Window) (qx2 : Int) : Option ((List api_Window) × Int) :=
  (series_fault qx qx1).bind fun vr =>
  cond (!decide (vr = 0))
    (some ([], vr))
    (cond (decide (qx2 < qx2))
      (some ([], 1))
      ((series_spans qx qx1).bind fun vr1 =>
      (loopO (series_Beyond_2_x1 qx2 vr1) ([], 0)).bind fun vx6_1 =>
      some (vx6_1, 0)))

/-! ### slices.Grow[[]beaconfleet/api.Window,beaconfleet/api.Window] -/
noncomputable def slices_Grow_api_Window_api_Window_n0_x1 (qn : Int) : Option ((List api_Window)) :=
  cond (decide (0 < (IntKind.wrap .i64 (qn - (IntKind.wrap .i64 ((0 : Int) - 0))))))
    (gd (decide (0 ≤ (IntKind.wrap .i64 (qn - (IntKind.wrap .i64 ((0 : Int) - 0))))) && decide ((IntKind.wrap .i64 (qn - (IntKind.wrap .i64 ((0 : Int) - 0)))) ≤ 137438953472)) <|
    gd (decide (0 ≤ (0 : Int)) && decide ((0 : Int) ≤ ((List.replicate (IntKind.wrap .i64 (qn - (IntKind.wrap .i64 ((0 : Int) - 0)))).toNat (api_Window.mk 0 0)).length : Int))) <|
    some ((List.replicate (IntKind.wrap .i64 (qn - (IntKind.wrap .i64 ((0 : Int) - 0)))).toNat (api_Window.mk 0 0)).take (0 : Int).toNat))
    (some [])

noncomputable def slices_Grow_api_Window_api_Window_n0 (qn : Int) : Option ((List api_Window)) :=
  cond (decide (qn < 0))
    (none)
    ((slices_Grow_api_Window_api_Window_n0_x1 qn).bind fun vs1 =>
    some vs1)

/-! ### slices.Concat[[]beaconfleet/api.Window,beaconfleet/api.Window] -/
noncomputable def slices_Concat_api_Window_api_Window_o0_x1 (qslices : List (List api_Window)) : Int × Int → Option ((Int × Int) ⊕ (Int))
  | (vsize, vx) =>
  cond (decide (vx < (qslices.length : Int)))
    ((at? qslices vx).bind fun vy1 =>
    cond (decide ((IntKind.wrap .i64 (vsize + (vy1.length : Int))) < 0))
      (none)
      (some (.inl (IntKind.wrap .i64 (vsize + (vy1.length : Int)), IntKind.wrap .i64 (vx + 1)))))
    (some (.inr vsize))

noncomputable def slices_Concat_api_Window_api_Window_o0_x2 (qslices : List (List api_Window)) : (List api_Window) × Int → Option (((List api_Window) × Int) ⊕ ((List api_Window)))
  | (vnewslice, vx1) =>
  cond (decide (vx1 < (qslices.length : Int)))
    ((at? qslices vx1).bind fun vy3 =>
    gd (Nat.ble (vnewslice.length + vy3.length) LIM) <|
    some (.inl (vnewslice ++ vy3, IntKind.wrap .i64 (vx1 + 1))))
    (some (.inr vnewslice))

noncomputable def slices_Concat_api_Window_api_Window_o0 (qslices : List (List api_Window)) : Option ((List api_Window)) :=
  (loopO (slices_Concat_api_Window_api_Window_o0_x1 qslices) (0, 0)).bind fun vsize1_1 =>
  (slices_Grow_api_Window_api_Window_n0 vsize1_1).bind fun vr =>
  (loopO (slices_Concat_api_Window_api_Window_o0_x2 qslices) (vr, 0)).bind fun vnewslice1_1 =>
  some vnewslice1_1

/-! ### slices.Equal[[]beaconfleet/api.Window,beaconfleet/api.Window] -/
noncomputable def slices_Equal_api_Window_api_Window_x1 (qs1 : List api_Window) (qs2 : List api_Window) (vx : Int) : Option ((Int) ⊕ (Unit ⊕ Unit)) :=
  cond (decide (vx < (qs1.length : Int)))
    ((at? qs1 vx).bind fun vy2 =>
    (at? qs2 vx).bind fun vy3 =>
    cond (!(decide (vy2.From = vy3.From) && (decide (vy2.To = vy3.To) && true)))
      (some (.inr (.inr ())))
      (some (.inl (IntKind.wrap .i64 (vx + 1)))))
    (some (.inr (.inl ())))

noncomputable def slices_Equal_api_Window_api_Window (qs1 : List api_Window) (qs2 : List api_Window) : Option (Bool) :=
  cond (!decide ((qs1.length : Int) = (qs2.length : Int)))
    (some false)
    ((loopO (slices_Equal_api_Window_api_Window_x1 qs1 qs2) 0).bind fun x => match x with
      | .inl _ =>
        some true
      | .inr _ =>
        some false)

/-! ### beaconfleet/fleetkeep2.ValuesMeet -/
noncomputable def fleetkeep2_ValuesMeet_x1 (vr5 : List api_Sample) : Int × Int × Int → Option ((Int × Int × Int) ⊕ ((Int × Int)))
  | (vx, vx1, vx2) =>
  cond (decide (vx2 < (vr5.length : Int)))
    ((at? vr5 vx2).bind fun vy3 =>
    some (.inl (imin vx vy3.Value, imax vx1 vy3.Value, IntKind.wrap .i64 (vx2 + 1))))
    (some (.inr (vx, vx1)))

noncomputable def fleetkeep2_ValuesMeet_x2 (vr2 : api_Fraction) (vr3 : Int) (vx3_1 : Int) (vx4_1 : Int) : Option (Bool) :=
  cond (!decide (vr3 = 0))
    (some true)
    (cond (decide (vr2.Den < 1))
      (some true)
      (cond (decide (vr2.Num < (IntKind.wrap .i64 (vx3_1 * vr2.Den))))
        (some true)
        (some (decide ((IntKind.wrap .i64 (vx4_1 * vr2.Den)) < vr2.Num)))))

noncomputable def fleetkeep2_ValuesMeet_x3 (vr1_1 : List api_Window) : Int × Int → Option ((Int × Int) ⊕ (Int))
  | (vx6, vx7) =>
  cond (decide (vx7 < (vr1_1.length : Int)))
    ((at? vr1_1 vx7).bind fun vy5 =>
    some (.inl (IntKind.wrap .i64 (vx6 + (IntKind.wrap .i64 (vy5.To - vy5.From))), IntKind.wrap .i64 (vx7 + 1))))
    (some (.inr vx6))

noncomputable def fleetkeep2_ValuesMeet_x4 (vy : api_Sample) (vy1 : api_Sample) (vr : Int) (vr4 : List api_Window) (vr5_1 : Int) (vr4_1 : List api_Window) (vr5_2 : Int) (vr5_3 : Int) (vr5_4 : Int) (vx8_1 : Int) : Option (Bool) :=
  (fleetkeep2_errs ([vr5_1, vr5_2, vr5_3, vr5_4] : List Int)).bind fun vr6 =>
  cond (decide (vr6 = 0))
    (cond (decide ((vr4.length : Int) = 0))
      ((slices_Equal_api_Window_api_Window vr4_1 ([api_Window.mk vy.At (IntKind.wrap .i64 (vy1.At + vr))] : List api_Window)).bind fun vr7 =>
      cond (vr7)
        (cond (decide (vx8_1 = (IntKind.wrap .i64 ((IntKind.wrap .i64 (vy1.At + vr)) - vy.At))))
          ((fleetkeep2_ready).bind fun vr9_1 =>
          some vr9_1)
          (some false))
        (some false))
      (some false))
    (some false)

noncomputable def fleetkeep2_ValuesMeet (qx : List Int) : Option (Bool) :=
  (fleetmake_Stream_RightSeries (fleetmake_Stream.mk qx 0) 10 (-100)).bind fun (vs3, vr5) =>
  cond (decide ((vr5.length : Int) = 0))
    ((fleetkeep2_ready).bind fun vr9 =>
    some vr9)
    ((at? vr5 0).bind fun vy =>
    (at? vr5 (IntKind.wrap .i64 ((vr5.length : Int) - 1))).bind fun vy1 =>
    (fleetmake_Stream_Range vs3 1 100).bind fun (vs, vr) =>
    (series_Held vr5 (api_Window.mk vy.At (IntKind.wrap .i64 (vy1.At + vr)))).bind fun (vr2, vr3) =>
    (loopO (fleetkeep2_ValuesMeet_x1 vr5) (vy.Value, vy.Value, 0)).bind fun (vx3_1, vx4_1) =>
    (fleetkeep2_ValuesMeet_x2 vr2 vr3 vx3_1 vx4_1).bind fun vx5_1 =>
    cond (vx5_1)
      (some false)
      ((series_Beyond vr5 (api_Window.mk vy.At (IntKind.wrap .i64 (vy1.At + vr))) vx3_1 vx4_1).bind fun (vr4, vr5_1) =>
      (series_Beyond_2 vr5 (api_Window.mk vy.At (IntKind.wrap .i64 (vy1.At + vr))) (IntKind.wrap .i64 (vx4_1 + 1))).bind fun (vr4_1, vr5_2) =>
      (fleetmake_Stream_Range vs vx3_1 vx4_1).bind fun (vs1, vr1) =>
      (series_Beyond vr5 (api_Window.mk vy.At (IntKind.wrap .i64 (vy1.At + vr))) vx3_1 vr1).bind fun (vr4_2, vr5_3) =>
      (series_Beyond vr5 (api_Window.mk vy.At (IntKind.wrap .i64 (vy1.At + vr))) (IntKind.wrap .i64 (vr1 + 1)) (imax vx4_1 (IntKind.wrap .i64 (vr1 + 1)))).bind fun (vr4_3, vr5_4) =>
      (slices_Concat_api_Window_api_Window_o0 ([vr4_2, vr4_3] : List (List api_Window))).bind fun vr1_1 =>
      (loopO (fleetkeep2_ValuesMeet_x3 vr1_1) (0, 0)).bind fun vx8_1 =>
      (fleetkeep2_ValuesMeet_x4 vy vy1 vr vr4 vr5_1 vr4_1 vr5_2 vr5_3 vr5_4 vx8_1).bind fun vx9_1 =>
      some vx9_1))

/-! ### beaconfleet/series.added -/
noncomputable def series_added_n0 (qx : api_Bucket) : Option (Unit) :=
  cond (decide ((IntKind.wrap .i64 ((0 : Int) - 1)) < 0))
    (some ())
    (none)

/-! ### beaconfleet/series.added -/
noncomputable def series_added_o0_x1 (qx : List api_Bucket) (qx1 : api_Bucket) : Option (Bool) :=
  cond (decide ((IntKind.wrap .i64 ((qx.length : Int) - 1)) < 0))
    (some true)
    ((at? qx (IntKind.wrap .i64 ((qx.length : Int) - 1))).bind fun vy =>
    some (!(decide (vy.Time.From = qx1.Time.From) && (decide (vy.Time.To = qx1.Time.To) && true))))

noncomputable def series_added_o0 (qx : List api_Bucket) (qx1 : api_Bucket) : Option ((List api_Bucket)) :=
  (series_added_o0_x1 qx qx1).bind fun vx1 =>
  cond (vx1)
    (gd (Nat.ble (qx.length + ([api_Bucket.mk (api_Window.mk qx1.Time.From qx1.Time.To) qx1.Count qx1.Sum qx1.Min qx1.Max qx1.First qx1.Last] : List api_Bucket).length) LIM) <|
    some (qx ++ ([api_Bucket.mk (api_Window.mk qx1.Time.From qx1.Time.To) qx1.Count qx1.Sum qx1.Min qx1.Max qx1.First qx1.Last] : List api_Bucket)))
    ((at? qx (IntKind.wrap .i64 ((qx.length : Int) - 1))).bind fun vy1 =>
    some (((((qx.set (IntKind.wrap .i64 ((qx.length : Int) - 1)).toNat (api_Bucket.mk (api_Window.mk vy1.Time.From vy1.Time.To) (IntKind.wrap .i64 (vy1.Count + qx1.Count)) vy1.Sum vy1.Min vy1.Max vy1.First vy1.Last)).set (IntKind.wrap .i64 ((qx.length : Int) - 1)).toNat (api_Bucket.mk (api_Window.mk vy1.Time.From vy1.Time.To) (IntKind.wrap .i64 (vy1.Count + qx1.Count)) (IntKind.wrap .i64 (vy1.Sum + qx1.Sum)) vy1.Min vy1.Max vy1.First vy1.Last)).set (IntKind.wrap .i64 ((qx.length : Int) - 1)).toNat (api_Bucket.mk (api_Window.mk vy1.Time.From vy1.Time.To) (IntKind.wrap .i64 (vy1.Count + qx1.Count)) (IntKind.wrap .i64 (vy1.Sum + qx1.Sum)) (imin vy1.Min qx1.Min) vy1.Max vy1.First vy1.Last)).set (IntKind.wrap .i64 ((qx.length : Int) - 1)).toNat (api_Bucket.mk (api_Window.mk vy1.Time.From vy1.Time.To) (IntKind.wrap .i64 (vy1.Count + qx1.Count)) (IntKind.wrap .i64 (vy1.Sum + qx1.Sum)) (imin vy1.Min qx1.Min) (imax vy1.Max qx1.Max) vy1.First vy1.Last)).set (IntKind.wrap .i64 ((qx.length : Int) - 1)).toNat (api_Bucket.mk (api_Window.mk vy1.Time.From vy1.Time.To) (IntKind.wrap .i64 (vy1.Count + qx1.Count)) (IntKind.wrap .i64 (vy1.Sum + qx1.Sum)) (imin vy1.Min qx1.Min) (imax vy1.Max qx1.Max) vy1.First qx1.Last)))

/-! ### beaconfleet/series.Buckets -/
noncomputable def series_Buckets_x2 (ql : List api_Sample) (qw : api_Window) (qlong : Int) (vout : List api_Bucket) (vx : Int) : Option ((List api_Bucket)) :=
  (at? ql vx).bind fun vy1 =>
  (series_in qw vy1.At).bind fun vr4 =>
  cond (vr4)
    (gd (!(qlong == 0)) <|
    (series_added_o0 vout (api_Bucket.mk (api_Window.mk (IntKind.wrap .i64 ((IntKind.wrap .i64 (vy1.At.tdiv qlong)) * qlong)) (IntKind.wrap .i64 ((IntKind.wrap .i64 ((IntKind.wrap .i64 (vy1.At.tdiv qlong)) * qlong)) + qlong))) 1 vy1.Value vy1.Value vy1.Value vy1.Value vy1.Value)).bind fun vr5 =>
    some vr5)
    (some vout)

noncomputable def series_Buckets_x1 (ql : List api_Sample) (qw : api_Window) (qlong : Int) : (List api_Bucket) × Int → Option (((List api_Bucket) × Int) ⊕ ((List api_Bucket)))
  | (vout, vx) =>
  cond (decide (vx < (ql.length : Int)))
    ((series_Buckets_x2 ql qw qlong vout vx).bind fun vout2_1 =>
    some (.inl (vout2_1, IntKind.wrap .i64 (vx + 1))))
    (some (.inr vout))

noncomputable def series_Buckets (ql : List api_Sample) (qw : api_Window) (qlong : Int) : Option ((List api_Bucket) × Int) :=
  (series_fault ql qw).bind fun vr =>
  cond (!decide (vr = 0))
    (some ([], vr))
    ((base_Out qlong 1 345686400000).bind fun vr1 =>
    cond (vr1)
      (some ([], 1))
      ((loopO (series_Buckets_x1 ql qw qlong) ([], 0)).bind fun vout3_1 =>
      some (vout3_1, 0)))

/-! ### beaconfleet/series.CheckBuckets -/
noncomputable def series_CheckBuckets_x2 (vy3 : api_Bucket) : Option (Bool) :=
  cond (decide (vy3.Time.From < 0))
    (some true)
    (cond (decide (vy3.Time.To ≤ vy3.Time.From))
      (some true)
      (some (decide (691372800000 < vy3.Time.To))))

noncomputable def series_CheckBuckets_x3 (qx : List api_Bucket) (vy3 : api_Bucket) : Option (Bool) :=
  (at? qx 0).bind fun vy4 =>
  cond (!decide ((IntKind.wrap .i64 (vy3.Time.To - vy3.Time.From)) = (IntKind.wrap .i64 (vy4.Time.To - vy4.Time.From))))
    (some true)
    (gd (!((IntKind.wrap .i64 (vy3.Time.To - vy3.Time.From)) == 0)) <|
    some (!decide ((vy3.Time.From.tmod (IntKind.wrap .i64 (vy3.Time.To - vy3.Time.From))) = 0)))

noncomputable def series_CheckBuckets_x4 (vy3 : api_Bucket) : Option (Bool) :=
  cond (decide (vy3.Max < vy3.Min))
    (some true)
    ((base_Out vy3.First vy3.Min vy3.Max).bind fun vr5 =>
    cond (vr5)
      (some true)
      ((base_Out vy3.Last vy3.Min vy3.Max).bind fun vr6 =>
      some vr6))

noncomputable def series_CheckBuckets_x5 (vy3 : api_Bucket) : Option (Bool) :=
  cond (decide (vy3.Min < (-1000000000)))
    (some true)
    (some (decide (1000000000 < vy3.Max)))

noncomputable def series_CheckBuckets_x6 (qx : List api_Bucket) (vx : Int) (vy3 : api_Bucket) : Option (Bool) :=
  cond (decide (0 < vx))
    ((at? qx (IntKind.wrap .i64 (vx - 1))).bind fun vy5 =>
    some (decide (vy3.Time.From ≤ vy5.Time.From)))
    (some false)

noncomputable def series_CheckBuckets_x1 (qx : List api_Bucket) (vx : Int) : Option ((Int) ⊕ (Unit ⊕ Int)) :=
  cond (decide (vx < (qx.length : Int)))
    ((at? qx vx).bind fun vy3 =>
    (series_CheckBuckets_x2 vy3).bind fun vx6_1 =>
    cond (vx6_1)
      (some (.inr (.inr 1)))
      ((series_CheckBuckets_x3 qx vy3).bind fun vx7_1 =>
      cond (vx7_1)
        (some (.inr (.inr 3)))
        ((base_Out vy3.Count 1 5000).bind fun vr4 =>
        cond (vr4)
          (some (.inr (.inr 1)))
          ((series_CheckBuckets_x4 vy3).bind fun vx8_1 =>
          cond (vx8_1)
            (some (.inr (.inr 3)))
            ((series_CheckBuckets_x5 vy3).bind fun vx9_1 =>
            cond (vx9_1)
              (some (.inr (.inr 1)))
              ((base_Out vy3.Sum (IntKind.wrap .i64 (vy3.Count * vy3.Min)) (IntKind.wrap .i64 (vy3.Count * vy3.Max))).bind fun vr7 =>
              cond (vr7)
                (some (.inr (.inr 3)))
                ((series_CheckBuckets_x6 qx vx vy3).bind fun vx10_1 =>
                cond (vx10_1)
                  (some (.inr (.inr 7)))
                  (some (.inl (IntKind.wrap .i64 (vx + 1)))))))))))
    (some (.inr (.inl ())))

noncomputable def series_CheckBuckets (qx : List api_Bucket) : Option (Int) :=
  cond (decide (5000 < (qx.length : Int)))
    (some 2)
    ((loopO (series_CheckBuckets_x1 qx) 0).bind fun x => match x with
      | .inl _ =>
        some 0
      | .inr vx11_1 =>
        some vx11_1)

/-! ### beaconfleet/series.length -/
noncomputable def series_length (ql : List api_Bucket) : Option (Int) :=
  cond (decide ((ql.length : Int) = 0))
    (some 0)
    ((at? ql 0).bind fun vy =>
    some (IntKind.wrap .i64 (vy.Time.To - vy.Time.From)))

/-! ### beaconfleet/series.bounded -/
noncomputable def series_bounded_o0_x1 (ql : List api_Bucket) (vx : Int) : Option ((Int) ⊕ (Unit ⊕ Unit)) :=
  cond (decide (vx < (ql.length : Int)))
    ((at? ql vx).bind fun vy1 =>
    cond (decide (5000 < vy1.Count))
      (some (.inr (.inr ())))
      (some (.inl (IntKind.wrap .i64 (vx + 1)))))
    (some (.inr (.inl ())))

noncomputable def series_bounded_o0 (ql : List api_Bucket) : Option ((List api_Bucket) × Int) :=
  cond (decide (5000 < (ql.length : Int)))
    (some ([], 2))
    ((loopO (series_bounded_o0_x1 ql) 0).bind fun x => match x with
      | .inl _ =>
        some (ql, 0)
      | .inr _ =>
        some ([], 2))

/-! ### beaconfleet/series.Join -/
noncomputable def series_Join_x1 (qx : List api_Bucket) (qx1 : List api_Bucket) : Option (Bool) :=
  cond (decide (0 < (qx.length : Int)))
    (cond (decide (0 < (qx1.length : Int)))
      ((series_length qx).bind fun vr1 =>
      (series_length qx1).bind fun vr2 =>
      some (!decide (vr1 = vr2)))
      (some false))
    (some false)

noncomputable def series_Join_x3 (vx2 : List api_Bucket) (vx3 : List api_Bucket) : Option (Bool) :=
  cond (decide (0 < (vx2.length : Int)))
    (some true)
    (some (decide (0 < (vx3.length : Int))))

noncomputable def series_Join_x4 (vx2 : List api_Bucket) (vx3 : List api_Bucket) : Option (Bool) :=
  cond (decide ((vx3.length : Int) = 0))
    (some true)
    (cond (decide (0 < (vx2.length : Int)))
      ((at? vx2 0).bind fun vy4 =>
      (at? vx3 0).bind fun vy5 =>
      some (decide (vy4.Time.From ≤ vy5.Time.From)))
      (some false))

noncomputable def series_Join_x2 : (List api_Bucket) × (List api_Bucket) × (List api_Bucket) → Option (((List api_Bucket) × (List api_Bucket) × (List api_Bucket)) ⊕ ((List api_Bucket)))
  | (vx2, vx3, vx4) =>
  (series_Join_x3 vx2 vx3).bind fun vx7_1 =>
  cond (vx7_1)
    ((series_Join_x4 vx2 vx3).bind fun vx8_1 =>
    cond (vx8_1)
      ((at? vx2 0).bind fun vy6 =>
      (series_added_o0 vx4 (api_Bucket.mk (api_Window.mk vy6.Time.From vy6.Time.To) vy6.Count vy6.Sum vy6.Min vy6.Max vy6.First vy6.Last)).bind fun vr5 =>
      (sub? vx2 1 (vx2.length : Int)).bind fun vl2 =>
      some (.inl (vl2, vx3, vr5)))
      ((at? vx3 0).bind fun vy7 =>
      (series_added_o0 vx4 (api_Bucket.mk (api_Window.mk vy7.Time.From vy7.Time.To) vy7.Count vy7.Sum vy7.Min vy7.Max vy7.First vy7.Last)).bind fun vr6 =>
      (sub? vx3 1 (vx3.length : Int)).bind fun vl3 =>
      some (.inl (vx2, vl3, vr6))))
    (some (.inr vx4))

noncomputable def series_Join (qx : List api_Bucket) (qx1 : List api_Bucket) : Option ((List api_Bucket) × Int) :=
  (series_CheckBuckets qx).bind fun vr8 =>
  (series_CheckBuckets qx1).bind fun vr8_1 =>
  (base_First ([vr8, vr8_1] : List Int)).bind fun vr =>
  cond (!decide (vr = 0))
    (some ([], vr))
    ((series_Join_x1 qx qx1).bind fun vx1 =>
    cond (vx1)
      (some ([], 13))
      ((loopO series_Join_x2 (qx, qx1, [])).bind fun vx9_1 =>
      (series_bounded_o0 vx9_1).bind fun (vr7, vr1_1) =>
      some (vr7, vr1_1)))

/-! ### beaconfleet/series.Wider -/
noncomputable def series_Wider_x1 (ql : List api_Bucket) (qlong : Int) : Option (Bool) :=
  (base_Out qlong 1 345686400000).bind fun vr =>
  cond (vr)
    (some true)
    (cond (decide (0 < (ql.length : Int)))
      ((series_length ql).bind fun vr1 =>
      gd (!(vr1 == 0)) <|
      some (!decide ((qlong.tmod vr1) = 0)))
      (some false))

noncomputable def series_Wider_x2 (ql : List api_Bucket) (qlong : Int) : (List api_Bucket) × Int → Option (((List api_Bucket) × Int) ⊕ ((List api_Bucket)))
  | (vout, vx2) =>
  cond (decide (vx2 < (ql.length : Int)))
    ((at? ql vx2).bind fun vy1 =>
    gd (!(qlong == 0)) <|
    (series_added_o0 vout (api_Bucket.mk (api_Window.mk (IntKind.wrap .i64 ((IntKind.wrap .i64 (vy1.Time.From.tdiv qlong)) * qlong)) (IntKind.wrap .i64 ((IntKind.wrap .i64 ((IntKind.wrap .i64 (vy1.Time.From.tdiv qlong)) * qlong)) + qlong))) vy1.Count vy1.Sum vy1.Min vy1.Max vy1.First vy1.Last)).bind fun vr3 =>
    some (.inl (vr3, IntKind.wrap .i64 (vx2 + 1))))
    (some (.inr vout))

noncomputable def series_Wider (ql : List api_Bucket) (qlong : Int) : Option ((List api_Bucket) × Int) :=
  (series_CheckBuckets ql).bind fun vr8 =>
  cond (!decide (vr8 = 0))
    (some ([], vr8))
    ((series_Wider_x1 ql qlong).bind fun vx1 =>
    cond (vx1)
      (some ([], 1))
      ((loopO (series_Wider_x2 ql qlong) ([], 0)).bind fun vout1_1 =>
      (series_bounded_o0 vout1_1).bind fun (vr4, vr1_1) =>
      some (vr4, vr1_1)))

/-! ### slices.Equal[[]beaconfleet/api.Bucket,beaconfleet/api.Bucket] -/
noncomputable def slices_Equal_api_Bucket_api_Bucket_x1 (qs1 : List api_Bucket) (qs2 : List api_Bucket) (vx : Int) : Option ((Int) ⊕ (Unit ⊕ Unit)) :=
  cond (decide (vx < (qs1.length : Int)))
    ((at? qs1 vx).bind fun vy2 =>
    (at? qs2 vx).bind fun vy3 =>
    cond (!((decide (vy2.Time.From = vy3.Time.From) && (decide (vy2.Time.To = vy3.Time.To) && true)) && (decide (vy2.Count = vy3.Count) && (decide (vy2.Sum = vy3.Sum) && (decide (vy2.Min = vy3.Min) && (decide (vy2.Max = vy3.Max) && (decide (vy2.First = vy3.First) && (decide (vy2.Last = vy3.Last) && true))))))))
      (some (.inr (.inr ())))
      (some (.inl (IntKind.wrap .i64 (vx + 1)))))
    (some (.inr (.inl ())))

noncomputable def slices_Equal_api_Bucket_api_Bucket (qs1 : List api_Bucket) (qs2 : List api_Bucket) : Option (Bool) :=
  cond (!decide ((qs1.length : Int) = (qs2.length : Int)))
    (some false)
    ((loopO (slices_Equal_api_Bucket_api_Bucket_x1 qs1 qs2) 0).bind fun x => match x with
      | .inl _ =>
        some true
      | .inr _ =>
        some false)

/-! ### beaconfleet/fleetkeep2.RollUpsJoin -/
noncomputable def fleetkeep2_RollUpsJoin_x1 (vr6 : List api_Bucket) : Int × Int → Option ((Int × Int) ⊕ (Int))
  | (vx, vx1) =>
  cond (decide (vx1 < (vr6.length : Int)))
    ((at? vr6 vx1).bind fun vy1 =>
    some (.inl (IntKind.wrap .i64 (vx + vy1.Count), IntKind.wrap .i64 (vx1 + 1))))
    (some (.inr vx))

noncomputable def fleetkeep2_RollUpsJoin_x2 (vr5 : List api_Sample) (vr6 : List api_Bucket) (vr7 : Int) (vr7_1 : Int) (vr7_2 : Int) (vr9 : List api_Bucket) (vr10 : Int) (vr6_3 : List api_Bucket) (vr7_3 : Int) (vr5_1 : List api_Bucket) (vr6_4 : Int) (vx2_1 : Int) : Option (Bool) :=
  (fleetkeep2_errs ([vr7, vr7_1, vr7_2, vr10, vr7_3, vr6_4] : List Int)).bind fun vr3 =>
  cond (decide (vr3 = 0))
    (cond (decide (vx2_1 = (vr5.length : Int)))
      ((slices_Equal_api_Bucket_api_Bucket vr6 vr9).bind fun vr4 =>
      cond (vr4)
        ((slices_Equal_api_Bucket_api_Bucket vr6_3 vr5_1).bind fun vr8 =>
        cond (vr8)
          ((series_CheckBuckets vr6).bind fun vr8_1 =>
          cond (decide (vr8_1 = 0))
            ((fleetkeep2_ready).bind fun vr9_1 =>
            some vr9_1)
            (some false))
          (some false))
        (some false))
      (some false))
    (some false)

noncomputable def fleetkeep2_RollUpsJoin (qx : List Int) : Option (Bool) :=
  (fleetmake_Stream_RightSeries (fleetmake_Stream.mk qx 0) 14 (-100)).bind fun (vs3, vr5) =>
  (fleetmake_Stream_Pick_o1 vs3 ([1, 5, 10, 100] : List Int)).bind fun vr =>
  (fleetmake_Stream_Range (fleetmake_Stream.mk vs3.L (IntKind.wrap .i64 (vs3.at_ + 1))) 1 6).bind fun (vs, vr1) =>
  (fleetmake_Stream_Range vs 0 (vr5.length : Int)).bind fun (vs1, vr2) =>
  (series_Buckets vr5 (api_Window.mk 0 100000) vr).bind fun (vr6, vr7) =>
  (sub? vr5 0 vr2).bind fun vl =>
  (series_Buckets vl (api_Window.mk 0 100000) vr).bind fun (vr6_1, vr7_1) =>
  (sub? vr5 vr2 (vr5.length : Int)).bind fun vl1 =>
  (series_Buckets vl1 (api_Window.mk 0 100000) vr).bind fun (vr6_2, vr7_2) =>
  (series_Join vr6_1 vr6_2).bind fun (vr9, vr10) =>
  (series_Buckets vr5 (api_Window.mk 0 100000) (IntKind.wrap .i64 (vr * vr1))).bind fun (vr6_3, vr7_3) =>
  (series_Wider vr6 (IntKind.wrap .i64 (vr * vr1))).bind fun (vr5_1, vr6_4) =>
  (loopO (fleetkeep2_RollUpsJoin_x1 vr6) (0, 0)).bind fun vx2_1 =>
  (fleetkeep2_RollUpsJoin_x2 vr5 vr6 vr7 vr7_1 vr7_2 vr9 vr10 vr6_3 vr7_3 vr5_1 vr6_4 vx2_1).bind fun vx3_1 =>
  some vx3_1

end Go.Eng
