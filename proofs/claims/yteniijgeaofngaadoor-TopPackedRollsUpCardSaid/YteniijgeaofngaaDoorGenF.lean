/-
The Go functions that the law TopPackedRollsUp reaches, as plain functions.
-/
import Derived.Test.YteniijgeaofngaaDoorEngV

namespace Go.Eng

open Go

set_option linter.unusedVariables false

structure fleetmake_Stream where
  L : List Int
  at_ : Int

def fleetmake_Stream.enc (x : fleetmake_Stream) : List D := [.lst (List.map (encI .i64) x.L), .int .i64 x.at_]

structure api_Sample where
  Device : List UInt8
  Metric : List UInt8
  At : Int
  Value : Int

def api_Sample.enc (x : api_Sample) : List D := [.str x.Device, .str x.Metric, .int .i64 x.At, .int .i64 x.Value]

structure api_Window where
  From : Int
  To : Int

def api_Window.enc (x : api_Window) : List D := [.int .i64 x.From, .int .i64 x.To]

structure api_Bucket where
  Time : api_Window
  Count : Int
  Sum : Int
  Min : Int
  Max : Int
  First : Int
  Last : Int

def api_Bucket.enc (x : api_Bucket) : List D := [.int .i64 x.Time.From, .int .i64 x.Time.To, .int .i64 x.Count, .int .i64 x.Sum, .int .i64 x.Min, .int .i64 x.Max, .int .i64 x.First, .int .i64 x.Last]

structure api_Version where
  Major : Int
  Minor : Int
  Patch : Int

def api_Version.enc (x : api_Version) : List D := [.int .i64 x.Major, .int .i64 x.Minor, .int .i64 x.Patch]

structure api_Spot where
  X : Int
  Y : Int

def api_Spot.enc (x : api_Spot) : List D := [.int .i64 x.X, .int .i64 x.Y]

/-! ### beaconfleet/fleetmake.Below -/
noncomputable def fleetmake_Below_x1 (qx : Int) (qn : Int) : Option (Int) :=
  cond (decide ((qx.tmod qn) < 0))
    (some (IntKind.wrap .i64 ((qx.tmod qn) + qn)))
    (some (qx.tmod qn))

noncomputable def fleetmake_Below (qx : Int) (qn : Int) : Option (Int) :=
  cond (decide (qn < 1))
    (some 0)
    (gd (!(qn == 0)) <|
    (fleetmake_Below_x1 qx qn).bind fun vx1 =>
    some vx1)

/-! ### (*beaconfleet/fleetmake.Stream).Next -/
noncomputable def fleetmake_Stream_Next (qs : fleetmake_Stream) (qn : Int) : Option (Int) :=
  cond (decide ((qs.L.length : Int) = 0))
    ((fleetmake_Below (IntKind.wrap .i64 ((IntKind.wrap .i64 (qs.at_ + 1)) * 7919)) qn).bind fun vr =>
    some vr)
    (gd (!((qs.L.length : Int) == 0)) <|
    (at? qs.L ((IntKind.wrap .i64 ((IntKind.wrap .i64 (qs.at_ + 1)) - 1)).tmod (qs.L.length : Int))).bind fun vy =>
    (fleetmake_Below vy 1073741824).bind fun vr1 =>
    (fleetmake_Below (IntKind.wrap .i64 (vr1 + (IntKind.wrap .i64 ((IntKind.wrap .i64 ((IntKind.wrap .i64 ((IntKind.wrap .i64 (qs.at_ + 1)) - 1)).tdiv (qs.L.length : Int))) * (IntKind.wrap .i64 ((7919 : Int) + ((IntKind.wrap .i64 ((IntKind.wrap .i64 (qs.at_ + 1)) - 1)).tmod (qs.L.length : Int)))))))) qn).bind fun vr2 =>
    some vr2)

/-! ### (*beaconfleet/fleetmake.Stream).Range -/
noncomputable def fleetmake_Stream_Range (qs : fleetmake_Stream) (qlow : Int) (qhigh : Int) : Option (fleetmake_Stream × Int) :=
  cond (decide (qhigh < qlow))
    (some (qs, qlow))
    ((fleetmake_Stream_Next qs (IntKind.wrap .i64 ((IntKind.wrap .i64 (qhigh - qlow)) + 1))).bind fun vr3 =>
    some (fleetmake_Stream.mk qs.L (IntKind.wrap .i64 (qs.at_ + 1)), IntKind.wrap .i64 (qlow + vr3)))

/-! ### (*beaconfleet/fleetmake.Stream).Pick -/
noncomputable def fleetmake_Stream_Pick_o1 (qs : fleetmake_Stream) (ql : List Int) : Option (Int) :=
  (fleetmake_Stream_Next qs (ql.length : Int)).bind fun vr3 =>
  (at? ql vr3).bind fun vy =>
  some vy

/-! ### (*beaconfleet/fleetmake.Stream).RightSeries -/
noncomputable def fleetmake_Stream_RightSeries_x1 (qlow : Int) (vr : Int) : fleetmake_Stream × (List api_Sample) × Int × Int → Option ((fleetmake_Stream × (List api_Sample) × Int × Int) ⊕ ((fleetmake_Stream × (List api_Sample))))
  | (vs1, vout, vat, vx) =>
  cond (decide (vx < vr))
    ((fleetmake_Stream_Pick_o1 vs1 ([1, 1, 2, 5, 10, 10, 40, 127, 1000] : List Int)).bind fun vr3 =>
    (fleetmake_Stream_Pick_o1 (fleetmake_Stream.mk vs1.L (IntKind.wrap .i64 (vs1.at_ + 1))) ([0, 1, 2, 5, 7, 9, (-3), (-70), 100, 1000, 5] : List Int)).bind fun vr4 =>
    gd (Nat.ble (vout.length + ([api_Sample.mk ([100] : List UInt8) ([109] : List UInt8) (IntKind.wrap .i64 (vat + vr3)) (imax qlow vr4)] : List api_Sample).length) LIM) <|
    some (.inl (fleetmake_Stream.mk vs1.L (IntKind.wrap .i64 ((IntKind.wrap .i64 (vs1.at_ + 1)) + 1)), vout ++ ([api_Sample.mk ([100] : List UInt8) ([109] : List UInt8) (IntKind.wrap .i64 (vat + vr3)) (imax qlow vr4)] : List api_Sample), IntKind.wrap .i64 (vat + vr3), IntKind.wrap .i64 (vx + 1))))
    (some (.inr (vs1, vout)))

noncomputable def fleetmake_Stream_RightSeries (qs : fleetmake_Stream) (qmost : Int) (qlow : Int) : Option (fleetmake_Stream × (List api_Sample)) :=
  (fleetmake_Stream_Range qs 0 qmost).bind fun (vs, vr) =>
  (loopO (fleetmake_Stream_RightSeries_x1 qlow vr) (vs, [], 0, 0)).bind fun (vs2_1, vout1_1) =>
  some (vs2_1, vout1_1)

/-! ### beaconfleet/base.Key -/
noncomputable def base_Key_x1 (qs : List UInt8) : Option (Bool) :=
  cond (decide (qs = ([] : List UInt8)))
    (some true)
    (cond (decide (40 < (qs.length : Int)))
      (some true)
      ((at? qs 0).bind fun vc =>
      cond (decide ((vc.toNat : Int) < 97))
        (some true)
        (some (decide (122 < (vc.toNat : Int))))))

noncomputable def base_Key_x3 (vc2 : UInt8) : Option (Bool) :=
  cond (decide (97 ≤ (vc2.toNat : Int)))
    (cond (decide ((vc2.toNat : Int) ≤ 122))
      (some false)
      (cond (decide (48 ≤ (vc2.toNat : Int)))
        (cond (decide ((vc2.toNat : Int) ≤ 57))
          (some false)
          (cond (decide ((vc2.toNat : Int) = 45))
            (some false)
            (some (!(decide ((vc2.toNat : Int) = 95))))))
        (cond (decide ((vc2.toNat : Int) = 45))
          (some false)
          (some (!(decide ((vc2.toNat : Int) = 95)))))))
    (cond (decide (48 ≤ (vc2.toNat : Int)))
      (cond (decide ((vc2.toNat : Int) ≤ 57))
        (some false)
        (cond (decide ((vc2.toNat : Int) = 45))
          (some false)
          (some (!(decide ((vc2.toNat : Int) = 95))))))
      (cond (decide ((vc2.toNat : Int) = 45))
        (some false)
        (some (!(decide ((vc2.toNat : Int) = 95))))))

noncomputable def base_Key_x2 (qs : List UInt8) (vx2 : Int) : Option ((Int) ⊕ (Unit ⊕ Unit)) :=
  cond (decide (vx2 < (qs.length : Int)))
    ((at? qs vx2).bind fun vc2 =>
    (base_Key_x3 vc2).bind fun vx4_1 =>
    cond (vx4_1)
      (some (.inr (.inr ())))
      (some (.inl (IntKind.wrap .i64 (vx2 + 1)))))
    (some (.inr (.inl ())))

noncomputable def base_Key (qs : List UInt8) : Option (Bool) :=
  (base_Key_x1 qs).bind fun vx1 =>
  cond (vx1)
    (some false)
    ((loopO (base_Key_x2 qs) 0).bind fun x => match x with
      | .inl _ =>
        some true
      | .inr _ =>
        some false)

/-! ### beaconfleet/base.Out -/
noncomputable def base_Out_x1 (qn : Int) (qlow : Int) (qhigh : Int) : Option (Bool) :=
  cond (decide (qn < qlow))
    (some true)
    (some (decide (qhigh < qn)))

noncomputable def base_Out (qn : Int) (qlow : Int) (qhigh : Int) : Option (Bool) :=
  (base_Out_x1 qn qlow qhigh).bind fun vx1 =>
  some vx1

/-! ### beaconfleet/base.Moment -/
noncomputable def base_Moment (qn : Int) : Option (Bool) :=
  (base_Out qn 0 345686399999).bind fun vr =>
  some (!vr)

/-! ### internal/bytealg.CompareString -/
noncomputable def bytealg_CompareString (qa : List UInt8) (qb : List UInt8) : Option (Unit) :=
  some ()

/-! ### strings.Compare -/
noncomputable def strings_Compare (qa : List UInt8) (qb : List UInt8) : Option (Unit) :=
  (bytealg_CompareString qa qb).bind fun _ =>
  some ()

/-! ### cmp.isNaN[int] -/
noncomputable def cmp_isNaN_int (qx : Int) : Option (Unit) :=
  some ()

/-! ### cmp.Compare[int] -/
noncomputable def cmp_Compare_int (qx : Int) (qy : Int) : Option (Int) :=
  (cmp_isNaN_int qx).bind fun _ =>
  (cmp_isNaN_int qy).bind fun _ =>
  cond (!decide (qx = qx))
    (cond (!decide (qy = qy))
      (some 0)
      (some (-1)))
    (cond (!decide (qy = qy))
      (some 1)
      (cond (decide (qx < qy))
        (some (-1))
        (cond (decide (qy < qx))
          (some 1)
          (some 0))))

/-! ### cmp.Or[int] -/
noncomputable def cmp_Or_int_x1 (qvals : List Int) (vx : Int) : Option ((Int) ⊕ (Unit ⊕ Int)) :=
  cond (decide (vx < (qvals.length : Int)))
    ((at? qvals vx).bind fun vy1 =>
    cond (!decide (vy1 = 0))
      (some (.inr (.inr vy1)))
      (some (.inl (IntKind.wrap .i64 (vx + 1)))))
    (some (.inr (.inl ())))

noncomputable def cmp_Or_int (qvals : List Int) : Option (Int) :=
  (loopO (cmp_Or_int_x1 qvals) 0).bind fun x => match x with
    | .inl _ =>
      some 0
    | .inr vx1_1 =>
      some vx1_1

/-! ### beaconfleet/series.byDevice -/
noncomputable def series_byDevice (qa : api_Sample) (qb : api_Sample) : Option (Int) :=
  (strings_Compare qa.Device qb.Device).bind fun _ =>
  (strings_Compare qa.Metric qb.Metric).bind fun _ =>
  (cmp_Compare_int qa.At qb.At).bind fun vr =>
  (cmp_Or_int ([Lib.compareBytes qa.Device qb.Device, Lib.compareBytes qa.Metric qb.Metric, vr] : List Int)).bind fun vr1 =>
  some vr1

/-! ### beaconfleet/series.Check -/
noncomputable def series_Check_x2 (vy2 : api_Sample) : Option (Bool) :=
  (base_Key vy2.Device).bind fun vr3 =>
  cond (!vr3)
    (some true)
    ((base_Key vy2.Metric).bind fun vr4 =>
    some (!vr4))

noncomputable def series_Check_x3 (vy2 : api_Sample) : Option (Bool) :=
  (base_Moment vy2.At).bind fun vr1_2 =>
  cond (!vr1_2)
    (some true)
    ((base_Out vy2.Value (-1000000000) 1000000000).bind fun vr5 =>
    some vr5)

noncomputable def series_Check_x4 (ql : List api_Sample) (vx : Int) (vy2 : api_Sample) : Option (Bool) :=
  cond (decide (0 < vx))
    ((at? ql (IntKind.wrap .i64 (vx - 1))).bind fun vy3 =>
    (series_byDevice vy2 vy3).bind fun vr2_2 =>
    some (decide (vr2_2 ≤ 0)))
    (some false)

noncomputable def series_Check_x1 (ql : List api_Sample) (vx : Int) : Option ((Int) ⊕ (Unit ⊕ Int)) :=
  cond (decide (vx < (ql.length : Int)))
    ((at? ql vx).bind fun vy2 =>
    (series_Check_x2 vy2).bind fun vx4_1 =>
    cond (vx4_1)
      (some (.inr (.inr 5)))
      ((series_Check_x3 vy2).bind fun vx5_1 =>
      cond (vx5_1)
        (some (.inr (.inr 1)))
        ((series_Check_x4 ql vx vy2).bind fun vx6_1 =>
        cond (vx6_1)
          (some (.inr (.inr 7)))
          (some (.inl (IntKind.wrap .i64 (vx + 1)))))))
    (some (.inr (.inl ())))

noncomputable def series_Check (ql : List api_Sample) : Option (Int) :=
  cond (decide (5000 < (ql.length : Int)))
    (some 2)
    ((loopO (series_Check_x1 ql) 0).bind fun x => match x with
      | .inl _ =>
        some 0
      | .inr vx7_1 =>
        some vx7_1)

/-! ### beaconfleet/series.CheckSeries$1 -/
noncomputable def series_CheckSeries_1_x1 (qs : api_Sample) (qx : List api_Sample) : Option (Bool) :=
  (at? qx 0).bind fun vy =>
  cond (!decide (qs.Device = vy.Device))
    (some true)
    (some (!decide (qs.Metric = vy.Metric)))

noncomputable def series_CheckSeries_1 (qs : api_Sample) (qx : List api_Sample) : Option (Bool) :=
  (series_CheckSeries_1_x1 qs qx).bind fun vx1 =>
  some vx1

/-! ### slices.IndexFunc[[]beaconfleet/api.Sample,beaconfleet/api.Sample] -/
noncomputable def slices_IndexFunc_api_Sample_api_Sample_f1_series_CheckSeries_1_x1 (qs : List api_Sample) (vx : Int) : Option ((Int) ⊕ (Unit ⊕ Int)) :=
  cond (decide (vx < (qs.length : Int)))
    ((at? qs vx).bind fun vy1 =>
    (series_CheckSeries_1 vy1 qs).bind fun vr1 =>
    cond (vr1)
      (some (.inr (.inr vx)))
      (some (.inl (IntKind.wrap .i64 (vx + 1)))))
    (some (.inr (.inl ())))

noncomputable def slices_IndexFunc_api_Sample_api_Sample_f1_series_CheckSeries_1 (qs : List api_Sample) : Option (Int) :=
  (loopO (slices_IndexFunc_api_Sample_api_Sample_f1_series_CheckSeries_1_x1 qs) 0).bind fun x => match x with
    | .inl _ =>
      some (-1)
    | .inr vx1_1 =>
      some vx1_1

/-! ### slices.ContainsFunc[[]beaconfleet/api.Sample,beaconfleet/api.Sample] -/
noncomputable def slices_ContainsFunc_api_Sample_api_Sample_f1_series_CheckSeries_1 (qs : List api_Sample) : Option (Bool) :=
  (slices_IndexFunc_api_Sample_api_Sample_f1_series_CheckSeries_1 qs).bind fun vr2 =>
  some (decide (0 ≤ vr2))

/-! ### beaconfleet/series.CheckSeries -/
noncomputable def series_CheckSeries (ql : List api_Sample) : Option (Int) :=
  (series_Check ql).bind fun vr6 =>
  cond (!decide (vr6 = 0))
    (some vr6)
    ((slices_ContainsFunc_api_Sample_api_Sample_f1_series_CheckSeries_1 ql).bind fun vr =>
    cond (vr)
      (some 13)
      (some 0))

/-! ### beaconfleet/series.seven -/
noncomputable def series_seven_n0_x1 : (List Int) × Int → Option (((List Int) × Int) ⊕ (((List Int) × Int)))
  | (vb, vn) =>
  cond (decide (128 ≤ vn))
    (gd (Nat.ble (vb.length + ([ibits .or .u8 (IntKind.wrap .u8 (ibits .and .u64 vn 127)) 128] : List Int).length) LIM) <|
    some (.inl (vb ++ ([ibits .or .u8 (IntKind.wrap .u8 (ibits .and .u64 vn 127)) 128] : List Int), ishr .u64 vn 7)))
    (some (.inr (vb, vn)))

noncomputable def series_seven_n0 (qn : Int) : Option ((List Int)) :=
  (loopO series_seven_n0_x1 ([], qn)).bind fun (vb1_1, vn1_1) =>
  gd (Nat.ble (vb1_1.length + ([IntKind.wrap .u8 (vn1_1)] : List Int).length) LIM) <|
  some (vb1_1 ++ ([IntKind.wrap .u8 (vn1_1)] : List Int))

/-! ### beaconfleet/series.doubled -/
noncomputable def series_doubled (qn : Int) : Option (Int) :=
  cond (decide (qn < 0))
    (some (IntKind.wrap .u64 (IntKind.wrap .i64 ((IntKind.wrap .i64 (((-2) : Int) * qn)) - 1))))
    (some (IntKind.wrap .u64 (IntKind.wrap .i64 ((2 : Int) * qn))))

/-! ### beaconfleet/series.seven -/
noncomputable def series_seven_o0_x1 : (List Int) × Int → Option (((List Int) × Int) ⊕ (((List Int) × Int)))
  | (vb, vn) =>
  cond (decide (128 ≤ vn))
    (gd (Nat.ble (vb.length + ([ibits .or .u8 (IntKind.wrap .u8 (ibits .and .u64 vn 127)) 128] : List Int).length) LIM) <|
    some (.inl (vb ++ ([ibits .or .u8 (IntKind.wrap .u8 (ibits .and .u64 vn 127)) 128] : List Int), ishr .u64 vn 7)))
    (some (.inr (vb, vn)))

noncomputable def series_seven_o0 (qb : List Int) (qn : Int) : Option ((List Int)) :=
  (loopO series_seven_o0_x1 (qb, qn)).bind fun (vb1_1, vn1_1) =>
  gd (Nat.ble (vb1_1.length + ([IntKind.wrap .u8 (vn1_1)] : List Int).length) LIM) <|
  some (vb1_1 ++ ([IntKind.wrap .u8 (vn1_1)] : List Int))

/-! ### beaconfleet/series.pack -/
noncomputable def series_pack_x2 (vat : Int) (vby : Int) (vx : Int) (vy1 : api_Sample) : Option (Int) :=
  cond (decide (0 < vx))
    (some (IntKind.wrap .i64 (vy1.At - vat)))
    (some vby)

noncomputable def series_pack_x1 (ql : List api_Sample) : (List Int) × Int × Int × Int × Int → Option (((List Int) × Int × Int × Int × Int) ⊕ ((List Int)))
  | (vout, vat, vby, vvalue, vx) =>
  cond (decide (vx < (ql.length : Int)))
    ((at? ql vx).bind fun vy1 =>
    (series_doubled (IntKind.wrap .i64 ((IntKind.wrap .i64 (vy1.At - vat)) - vby))).bind fun vr5 =>
    (series_seven_o0 vout vr5).bind fun vr6 =>
    (series_doubled (IntKind.wrap .i64 (vy1.Value - vvalue))).bind fun vr7 =>
    (series_seven_o0 vr6 vr7).bind fun vr8 =>
    (series_pack_x2 vat vby vx vy1).bind fun vby2_1 =>
    some (.inl (vr8, vy1.At, vby2_1, vy1.Value, IntKind.wrap .i64 (vx + 1))))
    (some (.inr vout))

noncomputable def series_pack (ql : List api_Sample) : Option ((List Int)) :=
  (series_seven_n0 (IntKind.wrap .u64 ((ql.length : Int)))).bind fun vr =>
  (loopO (series_pack_x1 ql) (vr, 0, 0, 0, 0)).bind fun vout1_1 =>
  some vout1_1

/-! ### beaconfleet/series.Pack -/
noncomputable def series_Pack (ql : List api_Sample) : Option ((List Int) × Int) :=
  (series_CheckSeries ql).bind fun vr1 =>
  cond (!decide (vr1 = 0))
    (some ([], vr1))
    ((series_pack ql).bind fun vr9 =>
    some (vr9, 0))

/-! ### beaconfleet/series.unseven -/
noncomputable def series_unseven_x1 (qb : List Int) : Int × Int → Option ((Int × Int) ⊕ (Unit ⊕ (Int × (List Int) × Bool)))
  | (vn, vx) =>
  cond (decide (vx < (qb.length : Int)))
    ((at? qb vx).bind fun vy1 =>
    cond (decide (vx = 9))
      (some (.inr (.inr (0, [], false))))
      (gd (decide (0 ≤ (IntKind.wrap .i64 ((7 : Int) * vx)))) <|
      cond (decide (vy1 < 128))
        ((sub? qb (IntKind.wrap .i64 (vx + 1)) (qb.length : Int)).bind fun vl1 =>
        some (.inr (.inr (ibits .or .u64 vn (ishl .u64 (IntKind.wrap .u64 (ibits .and .u8 vy1 127)) (IntKind.wrap .i64 ((7 : Int) * vx))), vl1, true))))
        (some (.inl (ibits .or .u64 vn (ishl .u64 (IntKind.wrap .u64 (ibits .and .u8 vy1 127)) (IntKind.wrap .i64 ((7 : Int) * vx))), IntKind.wrap .i64 (vx + 1))))))
    (some (.inr (.inl ())))

noncomputable def series_unseven (qb : List Int) : Option (Int × (List Int) × Bool) :=
  (loopO (series_unseven_x1 qb) (0, 0)).bind fun x => match x with
    | .inl _ =>
      some (0, [], false)
    | .inr (vn1_1, vrest1, vok1) =>
      some (vn1_1, vrest1, vok1)

/-! ### beaconfleet/series.halved -/
noncomputable def series_halved (qn : Int) : Option (Int) :=
  cond (decide ((qn.tmod 2) = 1))
    (some (IntKind.wrap .i64 ((IntKind.wrap .i64 (0 - (IntKind.wrap .i64 (IntKind.wrap .u64 (qn.tdiv 2))))) - 1)))
    (some (IntKind.wrap .i64 (IntKind.wrap .u64 (qn.tdiv 2))))

/-! ### slices.Equal[[]byte,byte] -/
noncomputable def slices_Equal_byte_byte_x1 (qs1 : List Int) (qs2 : List Int) (vx : Int) : Option ((Int) ⊕ (Unit ⊕ Unit)) :=
  cond (decide (vx < (qs1.length : Int)))
    ((at? qs1 vx).bind fun vy2 =>
    (at? qs2 vx).bind fun vy3 =>
    cond (!decide (vy2 = vy3))
      (some (.inr (.inr ())))
      (some (.inl (IntKind.wrap .i64 (vx + 1)))))
    (some (.inr (.inl ())))

noncomputable def slices_Equal_byte_byte (qs1 : List Int) (qs2 : List Int) : Option (Bool) :=
  cond (!decide ((qs1.length : Int) = (qs2.length : Int)))
    (some false)
    ((loopO (slices_Equal_byte_byte_x1 qs1 qs2) 0).bind fun x => match x with
      | .inl _ =>
        some true
      | .inr _ =>
        some false)

/-! ### beaconfleet/series.Unpack -/
noncomputable def series_Unpack_x1 (qx1 : List UInt8) (qx2 : List UInt8) : Option (Bool) :=
  (base_Key qx1).bind fun vr =>
  cond (!vr)
    (some true)
    ((base_Key qx2).bind fun vr1 =>
    some (!vr1))

noncomputable def series_Unpack_x2 (vr2 : Int) (vr2_1 : Bool) : Option (Bool) :=
  cond (!vr2_1)
    (some true)
    (some (decide (5000 < vr2)))

noncomputable def series_Unpack_x4 (vr1_5 : List Int) (vr2_4 : Bool) : Option (((List Int) × Bool × Int)) :=
  cond (vr2_4)
    ((series_unseven vr1_5).bind fun (vr9, vr1_6, vr2_5) =>
    some (vr1_6, vr2_5, vr9))
    (some (vr1_5, vr2_4, 0))

noncomputable def series_Unpack_x5 (vx5 : Int) (vx6 : Int) (vx7 : Int) (vr10 : Int) (vr11 : Int) : Option (Bool) :=
  (base_Out (IntKind.wrap .i64 (vx7 + vr11)) (-1000000000) 1000000000).bind fun vr12 =>
  cond (vr12)
    (some true)
    ((base_Moment (IntKind.wrap .i64 (vx5 + (IntKind.wrap .i64 (vx6 + vr10))))).bind fun vr1_7 =>
    some (!vr1_7))

noncomputable def series_Unpack_x6 (vx6 : Int) (vx8 : Int) (vr10 : Int) : Option (Int) :=
  cond (decide (0 < vx8))
    (some (IntKind.wrap .i64 (vx6 + vr10)))
    (some vx6)

noncomputable def series_Unpack_x3 (qx1 : List UInt8) (qx2 : List UInt8) (vr2 : Int) : (List Int) × (List api_Sample) × Int × Int × Int × Int → Option (((List Int) × (List api_Sample) × Int × Int × Int × Int) ⊕ ((List api_Sample) ⊕ Unit))
  | (vx3, vx4, vx5, vx6, vx7, vx8) =>
  cond (decide (vx8 < (IntKind.wrap .i64 (vr2))))
    ((series_unseven vx3).bind fun (vr8, vr1_5, vr2_4) =>
    (series_Unpack_x4 vr1_5 vr2_4).bind fun (vx14_1, vx15_1, vx16_1) =>
    cond (!vx15_1)
      (some (.inr (.inr ())))
      ((series_halved vr8).bind fun vr10 =>
      (series_halved vx16_1).bind fun vr11 =>
      (series_Unpack_x5 vx5 vx6 vx7 vr10 vr11).bind fun vx17_1 =>
      cond (vx17_1)
        (some (.inr (.inr ())))
        ((series_Unpack_x6 vx6 vx8 vr10).bind fun vx18_1 =>
        gd (Nat.ble (vx4.length + ([api_Sample.mk qx1 qx2 (IntKind.wrap .i64 (vx5 + (IntKind.wrap .i64 (vx6 + vr10)))) (IntKind.wrap .i64 (vx7 + vr11))] : List api_Sample).length) LIM) <|
        some (.inl (vx14_1, vx4 ++ ([api_Sample.mk qx1 qx2 (IntKind.wrap .i64 (vx5 + (IntKind.wrap .i64 (vx6 + vr10)))) (IntKind.wrap .i64 (vx7 + vr11))] : List api_Sample), IntKind.wrap .i64 (vx5 + (IntKind.wrap .i64 (vx6 + vr10))), vx18_1, IntKind.wrap .i64 (vx7 + vr11), IntKind.wrap .i64 (vx8 + 1))))))
    (some (.inr (.inl vx4)))

noncomputable def series_Unpack_x7 (qx : List Int) (vx19_1 : List api_Sample) : Option (Bool) :=
  (series_CheckSeries vx19_1).bind fun vr1_8 =>
  cond (!decide (vr1_8 = 0))
    (some true)
    ((series_pack vx19_1).bind fun vr9_1 =>
    (slices_Equal_byte_byte vr9_1 qx).bind fun vr13 =>
    some (!vr13))

noncomputable def series_Unpack (qx : List Int) (qx1 : List UInt8) (qx2 : List UInt8) : Option ((List api_Sample) × Int) :=
  (series_Unpack_x1 qx1 qx2).bind fun vx1 =>
  cond (vx1)
    (some ([], 5))
    (cond (decide (100000 < (qx.length : Int)))
      (some ([], 2))
      ((series_unseven qx).bind fun (vr2, vr1_1, vr2_1) =>
      (series_Unpack_x2 vr2 vr2_1).bind fun vx2_1 =>
      cond (vx2_1)
        (some ([], 9))
        ((loopO (series_Unpack_x3 qx1 qx2 vr2) (vr1_1, [], 0, 0, 0, 0)).bind fun x => match x with
          | .inl vx19_1 =>
            (series_Unpack_x7 qx vx19_1).bind fun vx20_1 =>
            cond (vx20_1)
              (some ([], 9))
              (some (vx19_1, 0))
          | .inr _ =>
            some ([], 9))))

/-! ### beaconfleet/base.Window -/
noncomputable def base_Window_x1 (qw : api_Window) : Option (Bool) :=
  (base_Out qw.From 0 qw.To).bind fun vr =>
  cond (!vr)
    (some (decide (qw.To ≤ 345686400000)))
    (some false)

noncomputable def base_Window (qw : api_Window) : Option (Bool) :=
  (base_Window_x1 qw).bind fun vx1 =>
  some vx1

/-! ### beaconfleet/series.fault -/
noncomputable def series_fault_x2 (qw : api_Window) (vr1 : Int) : Option (Bool) :=
  cond (decide (vr1 = 0))
    ((base_Window qw).bind fun vr1_1 =>
    some (!vr1_1))
    (some false)

noncomputable def series_fault_x1 (qw : api_Window) (vr1 : Int) : Option (Int) :=
  (series_fault_x2 qw vr1).bind fun vx1 =>
  cond (vx1)
    (some 1)
    (some vr1)

noncomputable def series_fault (ql : List api_Sample) (qw : api_Window) : Option (Int) :=
  (series_CheckSeries ql).bind fun vr1 =>
  (series_fault_x1 qw vr1).bind fun ve1 =>
  some ve1

/-! ### beaconfleet/series.in -/
noncomputable def series_in_x1 (qw : api_Window) (qat : Int) : Option (Bool) :=
  cond (decide (qw.From ≤ qat))
    (some (decide (qat < qw.To)))
    (some false)

noncomputable def series_in (qw : api_Window) (qat : Int) : Option (Bool) :=
  (series_in_x1 qw qat).bind fun vx1 =>
  some vx1

/-! ### beaconfleet/series.added -/
noncomputable def series_added_n0 (qx : api_Bucket) : Option (Unit) :=
  cond (decide ((IntKind.wrap .i64 ((0 : Int) - 1)) < 0))
    (some ())
    (none)

/-! ### beaconfleet/series.added -/
noncomputable def series_added_o0_x1 (qx : List api_Bucket) (qx1 : api_Bucket) : Option (Bool) :=
  cond (decide ((IntKind.wrap .i64 ((qx.length : Int) - 1)) < 0))
    (some true)
    ((at? qx (IntKind.wrap .i64 ((qx.length : Int) - 1))).bind fun vy =>
    some (!(decide (vy.Time.From = qx1.Time.From) && (decide (vy.Time.To = qx1.Time.To) && true))))

noncomputable def series_added_o0 (qx : List api_Bucket) (qx1 : api_Bucket) : Option ((List api_Bucket)) :=
  (series_added_o0_x1 qx qx1).bind fun vx1 =>
  cond (vx1)
    (gd (Nat.ble (qx.length + ([api_Bucket.mk (api_Window.mk qx1.Time.From qx1.Time.To) qx1.Count qx1.Sum qx1.Min qx1.Max qx1.First qx1.Last] : List api_Bucket).length) LIM) <|
    some (qx ++ ([api_Bucket.mk (api_Window.mk qx1.Time.From qx1.Time.To) qx1.Count qx1.Sum qx1.Min qx1.Max qx1.First qx1.Last] : List api_Bucket)))
    ((at? qx (IntKind.wrap .i64 ((qx.length : Int) - 1))).bind fun vy1 =>
    some (((((qx.set (IntKind.wrap .i64 ((qx.length : Int) - 1)).toNat (api_Bucket.mk (api_Window.mk vy1.Time.From vy1.Time.To) (IntKind.wrap .i64 (vy1.Count + qx1.Count)) vy1.Sum vy1.Min vy1.Max vy1.First vy1.Last)).set (IntKind.wrap .i64 ((qx.length : Int) - 1)).toNat (api_Bucket.mk (api_Window.mk vy1.Time.From vy1.Time.To) (IntKind.wrap .i64 (vy1.Count + qx1.Count)) (IntKind.wrap .i64 (vy1.Sum + qx1.Sum)) vy1.Min vy1.Max vy1.First vy1.Last)).set (IntKind.wrap .i64 ((qx.length : Int) - 1)).toNat (api_Bucket.mk (api_Window.mk vy1.Time.From vy1.Time.To) (IntKind.wrap .i64 (vy1.Count + qx1.Count)) (IntKind.wrap .i64 (vy1.Sum + qx1.Sum)) (imin vy1.Min qx1.Min) vy1.Max vy1.First vy1.Last)).set (IntKind.wrap .i64 ((qx.length : Int) - 1)).toNat (api_Bucket.mk (api_Window.mk vy1.Time.From vy1.Time.To) (IntKind.wrap .i64 (vy1.Count + qx1.Count)) (IntKind.wrap .i64 (vy1.Sum + qx1.Sum)) (imin vy1.Min qx1.Min) (imax vy1.Max qx1.Max) vy1.First vy1.Last)).set (IntKind.wrap .i64 ((qx.length : Int) - 1)).toNat (api_Bucket.mk (api_Window.mk vy1.Time.From vy1.Time.To) (IntKind.wrap .i64 (vy1.Count + qx1.Count)) (IntKind.wrap .i64 (vy1.Sum + qx1.Sum)) (imin vy1.Min qx1.Min) (imax vy1.Max qx1.Max) vy1.First qx1.Last)))

/-! ### beaconfleet/series.Buckets -/
noncomputable def series_Buckets_x2 (ql : List api_Sample) (qw : api_Window) (qlong : Int) (vout : List api_Bucket) (vx : Int) : Option ((List api_Bucket)) :=
  (at? ql vx).bind fun vy1 =>
  (series_in qw vy1.At).bind fun vr4 =>
  cond (vr4)
    (gd (!(qlong == 0)) <|
    (series_added_o0 vout (api_Bucket.mk (api_Window.mk (IntKind.wrap .i64 ((IntKind.wrap .i64 (vy1.At.tdiv qlong)) * qlong)) (IntKind.wrap .i64 ((IntKind.wrap .i64 ((IntKind.wrap .i64 (vy1.At.tdiv qlong)) * qlong)) + qlong))) 1 vy1.Value vy1.Value vy1.Value vy1.Value vy1.Value)).bind fun vr5 =>
    some vr5)
    (some vout)

noncomputable def series_Buckets_x1 (ql : List api_Sample) (qw : api_Window) (qlong : Int) : (List api_Bucket) × Int → Option (((List api_Bucket) × Int) ⊕ ((List api_Bucket)))
  | (vout, vx) =>
  cond (decide (vx < (ql.length : Int)))
    ((series_Buckets_x2 ql qw qlong vout vx).bind fun vout2_1 =>
    some (.inl (vout2_1, IntKind.wrap .i64 (vx + 1))))
    (some (.inr vout))

noncomputable def series_Buckets (ql : List api_Sample) (qw : api_Window) (qlong : Int) : Option ((List api_Bucket) × Int) :=
  (series_fault ql qw).bind fun vr =>
  cond (!decide (vr = 0))
    (some ([], vr))
    ((base_Out qlong 1 345686400000).bind fun vr1 =>
    cond (vr1)
      (some ([], 1))
      ((loopO (series_Buckets_x1 ql qw qlong) ([], 0)).bind fun vout3_1 =>
      some (vout3_1, 0)))

/-! ### beaconfleet/series.CheckBuckets -/
noncomputable def series_CheckBuckets_x2 (vy3 : api_Bucket) : Option (Bool) :=
  cond (decide (vy3.Time.From < 0))
    (some true)
    (cond (decide (vy3.Time.To ≤ vy3.Time.From))
      (some true)
      (some (decide (691372800000 < vy3.Time.To))))

noncomputable def series_CheckBuckets_x3 (qx : List api_Bucket) (vy3 : api_Bucket) : Option (Bool) :=
  (at? qx 0).bind fun vy4 =>
  cond (!decide ((IntKind.wrap .i64 (vy3.Time.To - vy3.Time.From)) = (IntKind.wrap .i64 (vy4.Time.To - vy4.Time.From))))
    (some true)
    (gd (!((IntKind.wrap .i64 (vy3.Time.To - vy3.Time.From)) == 0)) <|
    some (!decide ((vy3.Time.From.tmod (IntKind.wrap .i64 (vy3.Time.To - vy3.Time.From))) = 0)))

noncomputable def series_CheckBuckets_x4 (vy3 : api_Bucket) : Option (Bool) :=
  cond (decide (vy3.Max < vy3.Min))
    (some true)
    ((base_Out vy3.First vy3.Min vy3.Max).bind fun vr5 =>
    cond (vr5)
      (some true)
      ((base_Out vy3.Last vy3.Min vy3.Max).bind fun vr6 =>
      some vr6))

noncomputable def series_CheckBuckets_x5 (vy3 : api_Bucket) : Option (Bool) :=
  cond (decide (vy3.Min < (-1000000000)))
    (some true)
    (some (decide (1000000000 < vy3.Max)))

noncomputable def series_CheckBuckets_x6 (qx : List api_Bucket) (vx : Int) (vy3 : api_Bucket) : Option (Bool) :=
  cond (decide (0 < vx))
    ((at? qx (IntKind.wrap .i64 (vx - 1))).bind fun vy5 =>
    some (decide (vy3.Time.From ≤ vy5.Time.From)))
    (some false)

noncomputable def series_CheckBuckets_x1 (qx : List api_Bucket) (vx : Int) : Option ((Int) ⊕ (Unit ⊕ Int)) :=
  cond (decide (vx < (qx.length : Int)))
    ((at? qx vx).bind fun vy3 =>
    (series_CheckBuckets_x2 vy3).bind fun vx6_1 =>
    cond (vx6_1)
      (some (.inr (.inr 1)))
      ((series_CheckBuckets_x3 qx vy3).bind fun vx7_1 =>
      cond (vx7_1)
        (some (.inr (.inr 3)))
        ((base_Out vy3.Count 1 5000).bind fun vr4 =>
        cond (vr4)
          (some (.inr (.inr 1)))
          ((series_CheckBuckets_x4 vy3).bind fun vx8_1 =>
          cond (vx8_1)
            (some (.inr (.inr 3)))
            ((series_CheckBuckets_x5 vy3).bind fun vx9_1 =>
            cond (vx9_1)
              (some (.inr (.inr 1)))
              ((base_Out vy3.Sum (IntKind.wrap .i64 (vy3.Count * vy3.Min)) (IntKind.wrap .i64 (vy3.Count * vy3.Max))).bind fun vr7 =>
              cond (vr7)
                (some (.inr (.inr 3)))
                ((series_CheckBuckets_x6 qx vx vy3).bind fun vx10_1 =>
                cond (vx10_1)
                  (some (.inr (.inr 7)))
                  (some (.inl (IntKind.wrap .i64 (vx + 1)))))))))))
    (some (.inr (.inl ())))

noncomputable def series_CheckBuckets (qx : List api_Bucket) : Option (Int) :=
  cond (decide (5000 < (qx.length : Int)))
    (some 2)
    ((loopO (series_CheckBuckets_x1 qx) 0).bind fun x => match x with
      | .inl _ =>
        some 0
      | .inr vx11_1 =>
        some vx11_1)

/-! ### beaconfleet/series.length -/
noncomputable def series_length (ql : List api_Bucket) : Option (Int) :=
  cond (decide ((ql.length : Int) = 0))
    (some 0)
    ((at? ql 0).bind fun vy =>
    some (IntKind.wrap .i64 (vy.Time.To - vy.Time.From)))

/-! ### beaconfleet/series.bounded -/
noncomputable def series_bounded_o0_x1 (ql : List api_Bucket) (vx : Int) : Option ((Int) ⊕ (Unit ⊕ Unit)) :=
  cond (decide (vx < (ql.length : Int)))
    ((at? ql vx).bind fun vy1 =>
    cond (decide (5000 < vy1.Count))
      (some (.inr (.inr ())))
      (some (.inl (IntKind.wrap .i64 (vx + 1)))))
    (some (.inr (.inl ())))

noncomputable def series_bounded_o0 (ql : List api_Bucket) : Option ((List api_Bucket) × Int) :=
  cond (decide (5000 < (ql.length : Int)))
    (some ([], 2))
    ((loopO (series_bounded_o0_x1 ql) 0).bind fun x => match x with
      | .inl _ =>
        some (ql, 0)
      | .inr _ =>
        some ([], 2))

/-! ### beaconfleet/series.Wider -/
noncomputable def series_Wider_x1 (ql : List api_Bucket) (qlong : Int) : Option (Bool) :=
  (base_Out qlong 1 345686400000).bind fun vr =>
  cond (vr)
    (some true)
    (cond (decide (0 < (ql.length : Int)))
      ((series_length ql).bind fun vr1 =>
      gd (!(vr1 == 0)) <|
      some (!decide ((qlong.tmod vr1) = 0)))
      (some false))

noncomputable def series_Wider_x2 (ql : List api_Bucket) (qlong : Int) : (List api_Bucket) × Int → Option (((List api_Bucket) × Int) ⊕ ((List api_Bucket)))
  | (vout, vx2) =>
  cond (decide (vx2 < (ql.length : Int)))
    ((at? ql vx2).bind fun vy1 =>
    gd (!(qlong == 0)) <|
    (series_added_o0 vout (api_Bucket.mk (api_Window.mk (IntKind.wrap .i64 ((IntKind.wrap .i64 (vy1.Time.From.tdiv qlong)) * qlong)) (IntKind.wrap .i64 ((IntKind.wrap .i64 ((IntKind.wrap .i64 (vy1.Time.From.tdiv qlong)) * qlong)) + qlong))) vy1.Count vy1.Sum vy1.Min vy1.Max vy1.First vy1.Last)).bind fun vr3 =>
    some (.inl (vr3, IntKind.wrap .i64 (vx2 + 1))))
    (some (.inr vout))

noncomputable def series_Wider (ql : List api_Bucket) (qlong : Int) : Option ((List api_Bucket) × Int) :=
  (series_CheckBuckets ql).bind fun vr8 =>
  cond (!decide (vr8 = 0))
    (some ([], vr8))
    ((series_Wider_x1 ql qlong).bind fun vx1 =>
    cond (vx1)
      (some ([], 1))
      ((loopO (series_Wider_x2 ql qlong) ([], 0)).bind fun vout1_1 =>
      (series_bounded_o0 vout1_1).bind fun (vr4, vr1_1) =>
      some (vr4, vr1_1)))

/-! ### slices.Equal[[]beaconfleet/api.Bucket,beaconfleet/api.Bucket] -/
noncomputable def slices_Equal_api_Bucket_api_Bucket_x1 (qs1 : List api_Bucket) (qs2 : List api_Bucket) (vx : Int) : Option ((Int) ⊕ (Unit ⊕ Unit)) :=
  cond (decide (vx < (qs1.length : Int)))
    ((at? qs1 vx).bind fun vy2 =>
    (at? qs2 vx).bind fun vy3 =>
    cond (!((decide (vy2.Time.From = vy3.Time.From) && (decide (vy2.Time.To = vy3.Time.To) && true)) && (decide (vy2.Count = vy3.Count) && (decide (vy2.Sum = vy3.Sum) && (decide (vy2.Min = vy3.Min) && (decide (vy2.Max = vy3.Max) && (decide (vy2.First = vy3.First) && (decide (vy2.Last = vy3.Last) && true))))))))
      (some (.inr (.inr ())))
      (some (.inl (IntKind.wrap .i64 (vx + 1)))))
    (some (.inr (.inl ())))

noncomputable def slices_Equal_api_Bucket_api_Bucket (qs1 : List api_Bucket) (qs2 : List api_Bucket) : Option (Bool) :=
  cond (!decide ((qs1.length : Int) = (qs2.length : Int)))
    (some false)
    ((loopO (slices_Equal_api_Bucket_api_Bucket_x1 qs1 qs2) 0).bind fun x => match x with
      | .inl _ =>
        some true
      | .inr _ =>
        some false)

/-! ### beaconfleet/series.Pack -/
noncomputable def series_Pack_o0 (ql : List api_Sample) : Option ((List Int) × Int) :=
  (series_CheckSeries ql).bind fun vr1 =>
  cond (!decide (vr1 = 0))
    (some ([], vr1))
    ((series_pack ql).bind fun vr9 =>
    some (vr9, 0))

/-! ### internal/stringslite.IndexByte -/
noncomputable def stringslite_IndexByte (qs : List UInt8) (qc : Int) : Option (Unit) :=
  some ()

/-! ### internal/stringslite.Index -/
noncomputable def stringslite_Index_x1 (qx : List UInt8) (qx1 : List UInt8) : Option (Bool) :=
  cond (decide ((qx1.length : Int) = 0))
    (some true)
    (some (decide (qx1 = qx)))

noncomputable def stringslite_Index (qx : List UInt8) (qx1 : List UInt8) : Option (Int) :=
  (stringslite_Index_x1 qx qx1).bind fun vx1 =>
  cond (vx1)
    (some 0)
    (cond (decide ((qx1.length : Int) = 1))
      ((at? qx1 0).bind fun vc =>
      (stringslite_IndexByte qx (vc.toNat : Int)).bind fun _ =>
      some (Lib.indexByte qx (vc.toNat : Int).toNat.toUInt8))
      (cond (decide ((qx.length : Int) ≤ (qx1.length : Int)))
        (some (-1))
        (none)))

/-! ### strings.Index -/
noncomputable def strings_Index (qs : List UInt8) (qsubstr : List UInt8) : Option (Int) :=
  (stringslite_Index qs qsubstr).bind fun vr =>
  some vr

/-! ### strings.Count -/
noncomputable def strings_Count_x1 (qsubstr : List UInt8) : (List UInt8) × Int → Option (((List UInt8) × Int) ⊕ (Int))
  | (vs, vn) =>
  (strings_Index vs qsubstr).bind fun vr1_1 =>
  cond (decide (vr1_1 = (-1)))
    (some (.inr vn))
    ((sub? vs (IntKind.wrap .i64 (vr1_1 + (qsubstr.length : Int))) (vs.length : Int)).bind fun vs2 =>
    some (.inl (vs2, IntKind.wrap .i64 (vn + 1))))

noncomputable def strings_Count (qs : List UInt8) (qsubstr : List UInt8) : Option (Int) :=
  cond (decide ((qsubstr.length : Int) = 0))
    (none)
    (cond (decide ((qsubstr.length : Int) = 1))
      ((at? qsubstr 0).bind fun vc =>
      some (countB qs (vc.toNat : Int).toNat.toUInt8))
      ((loopO (strings_Count_x1 qsubstr) (qs, 0)).bind fun vx1 =>
      some vx1))

/-! ### strings.genSplit -/
noncomputable def strings_genSplit_x1 (qx : List UInt8) (qx1 : List UInt8) (qx3 : Int) : Option (Int) :=
  cond (decide (qx3 < 0))
    ((strings_Count qx qx1).bind fun vr =>
    some (IntKind.wrap .i64 (vr + 1)))
    (some qx3)

noncomputable def strings_genSplit_x2 (qx : List UInt8) (qx1 : List UInt8) (qx2 : Int) (vx1 : Int) : (List UInt8) × (List (List UInt8)) × Int → Option (((List UInt8) × (List (List UInt8)) × Int) ⊕ (((List UInt8) × (List (List UInt8)) × Int)))
  | (vx2, vx3, vx4) =>
  cond (decide (vx4 < (IntKind.wrap .i64 ((imin vx1 (IntKind.wrap .i64 ((qx.length : Int) + 1))) - 1))))
    ((strings_Index vx2 qx1).bind fun vr1_1 =>
    cond (decide (vr1_1 < 0))
      (some (.inr (vx2, vx3, vx4)))
      ((sub? vx2 0 (IntKind.wrap .i64 (vr1_1 + qx2))).bind fun vs2 =>
      (at? vx3 vx4).bind fun vy1 =>
      (sub? vx2 (IntKind.wrap .i64 (vr1_1 + (qx1.length : Int))) (vx2.length : Int)).bind fun vs3 =>
      some (.inl (vs3, vx3.set vx4.toNat vs2, IntKind.wrap .i64 (vx4 + 1)))))
    (some (.inr (vx2, vx3, vx4)))

noncomputable def strings_genSplit (qx : List UInt8) (qx1 : List UInt8) (qx2 : Int) (qx3 : Int) : Option ((List (List UInt8))) :=
  cond (decide (qx3 = 0))
    (some [])
    (cond (decide (qx1 = ([] : List UInt8)))
      (none)
      ((strings_genSplit_x1 qx qx1 qx3).bind fun vx1 =>
      gd (decide (0 ≤ (imin vx1 (IntKind.wrap .i64 ((qx.length : Int) + 1)))) && decide ((imin vx1 (IntKind.wrap .i64 ((qx.length : Int) + 1))) ≤ (imin vx1 (IntKind.wrap .i64 ((qx.length : Int) + 1)))) && decide ((imin vx1 (IntKind.wrap .i64 ((qx.length : Int) + 1))) ≤ 137438953472)) <|
      (loopO (strings_genSplit_x2 qx qx1 qx2 vx1) (qx, List.replicate (imin vx1 (IntKind.wrap .i64 ((qx.length : Int) + 1))).toNat ([] : List UInt8), 0)).bind fun (vx5_1, vx6_1, vx7_1) =>
      (at? vx6_1 vx7_1).bind fun vy2 =>
      gd (decide (0 ≤ (IntKind.wrap .i64 (vx7_1 + 1))) && decide ((IntKind.wrap .i64 (vx7_1 + 1)) ≤ ((vx6_1.set vx7_1.toNat vx5_1).length : Int))) <|
      some ((vx6_1.set vx7_1.toNat vx5_1).take (IntKind.wrap .i64 (vx7_1 + 1)).toNat)))

/-! ### strings.Split -/
noncomputable def strings_Split (qs : List UInt8) (qsep : List UInt8) : Option ((List (List UInt8))) :=
  (strings_genSplit qs qsep 0 (-1)).bind fun vr2 =>
  some vr2

/-! ### internal/stringslite.HasPrefix -/
noncomputable def stringslite_HasPrefix_x1 (qs : List UInt8) (qprefix : List UInt8) : Option (Bool) :=
  cond (decide ((qprefix.length : Int) ≤ (qs.length : Int)))
    ((sub? qs 0 (qprefix.length : Int)).bind fun vs =>
    some (decide (vs = qprefix)))
    (some false)

noncomputable def stringslite_HasPrefix (qs : List UInt8) (qprefix : List UInt8) : Option (Bool) :=
  (stringslite_HasPrefix_x1 qs qprefix).bind fun vx1 =>
  some vx1

/-! ### internal/stringslite.TrimPrefix -/
noncomputable def stringslite_TrimPrefix (qs : List UInt8) (qprefix : List UInt8) : Option ((List UInt8)) :=
  (stringslite_HasPrefix qs qprefix).bind fun vr =>
  cond (vr)
    ((sub? qs (qprefix.length : Int) (qs.length : Int)).bind fun vs =>
    some vs)
    (some qs)

/-! ### strings.TrimPrefix -/
noncomputable def strings_TrimPrefix (qs : List UInt8) (qprefix : List UInt8) : Option ((List UInt8)) :=
  (stringslite_TrimPrefix qs qprefix).bind fun vr1 =>
  some vr1

/-! ### internal/strconv.lower -/
noncomputable def strconv_lower (qc : Int) : Option (Unit) :=
  some ()

/-! ### internal/strconv.underscoreOK -/
noncomputable def strconv_underscoreOK_x2 (qx : List UInt8) : Option (Bool) :=
  cond (decide (1 ≤ (qx.length : Int)))
    ((at? qx 0).bind fun vc =>
    cond (decide ((vc.toNat : Int) = 45))
      (some true)
      (some (decide ((vc.toNat : Int) = 43))))
    (some false)

noncomputable def strconv_underscoreOK_x1 (qx : List UInt8) : Option ((List UInt8)) :=
  (strconv_underscoreOK_x2 qx).bind fun vx1 =>
  cond (vx1)
    ((sub? qx 1 (qx.length : Int)).bind fun vs =>
    some vs)
    (some qx)

noncomputable def strconv_underscoreOK_x4 (vx2_1 : List UInt8) : Option (Bool) :=
  cond (decide (2 ≤ (vx2_1.length : Int)))
    ((at? vx2_1 0).bind fun vc1 =>
    cond (decide ((vc1.toNat : Int) = 48))
      ((at? vx2_1 1).bind fun vc2 =>
      (strconv_lower (vc2.toNat : Int)).bind fun _ =>
      cond (decide ((ibits .or .u8 (vc2.toNat : Int) 32) = 98))
        (some true)
        (cond (decide ((ibits .or .u8 (vc2.toNat : Int) 32) = 111))
          (some true)
          (some (decide ((ibits .or .u8 (vc2.toNat : Int) 32) = 120)))))
      (some false))
    (some false)

noncomputable def strconv_underscoreOK_x3 (vx2_1 : List UInt8) : Option ((Int × Int × Bool)) :=
  (strconv_underscoreOK_x4 vx2_1).bind fun vx3_1 =>
  cond (vx3_1)
    ((at? vx2_1 1).bind fun vc3 =>
    (strconv_lower (vc3.toNat : Int)).bind fun _ =>
    some (48, 2, decide ((ibits .or .u8 (vc3.toNat : Int) 32) = 120)))
    (some (94, 0, false))

noncomputable def strconv_underscoreOK_x7 (vx2_1 : List UInt8) (vx6_1 : Bool) (vx8 : Int) : Option (Bool) :=
  (at? vx2_1 vx8).bind fun vc6 =>
  cond (decide ((48 : Int) ≤ (vc6.toNat : Int)))
    (cond (decide ((vc6.toNat : Int) ≤ 57))
      (some true)
      (cond (vx6_1)
        ((strconv_lower (vc6.toNat : Int)).bind fun _ =>
        cond (decide ((97 : Int) ≤ (ibits .or .u8 (vc6.toNat : Int) 32)))
          (some (decide ((ibits .or .u8 (vc6.toNat : Int) 32) ≤ 102)))
          (some false))
        (some false)))
    (cond (vx6_1)
      ((strconv_lower (vc6.toNat : Int)).bind fun _ =>
      cond (decide ((97 : Int) ≤ (ibits .or .u8 (vc6.toNat : Int) 32)))
        (some (decide ((ibits .or .u8 (vc6.toNat : Int) 32) ≤ 102)))
        (some false))
      (some false))

noncomputable def strconv_underscoreOK_x6 (vx2_1 : List UInt8) (vx6_1 : Bool) (vx7 : Int) (vx8 : Int) : Option (Int ⊕ Unit) :=
  (strconv_underscoreOK_x7 vx2_1 vx6_1 vx8).bind fun vx11_1 =>
  cond (vx11_1)
    (some (.inl 48))
    ((at? vx2_1 vx8).bind fun vc7 =>
    cond (decide ((vc7.toNat : Int) = 95))
      (cond (!decide (vx7 = 48))
        (some (.inr ()))
        (some (.inl 95)))
      (cond (decide (vx7 = 95))
        (some (.inr ()))
        (some (.inl 33))))

noncomputable def strconv_underscoreOK_x5 (vx2_1 : List UInt8) (vx6_1 : Bool) : Int × Int → Option ((Int × Int) ⊕ (Int ⊕ Unit))
  | (vx7, vx8) =>
  cond (decide (vx8 < (vx2_1.length : Int)))
    ((strconv_underscoreOK_x6 vx2_1 vx6_1 vx7 vx8).bind fun x => match x with
      | .inl vx12_1 =>
        some (.inl (vx12_1, IntKind.wrap .i64 (vx8 + 1)))
      | .inr _ =>
        some (.inr (.inr ())))
    (some (.inr (.inl vx7)))

noncomputable def strconv_underscoreOK (qx : List UInt8) : Option (Bool) :=
  (strconv_underscoreOK_x1 qx).bind fun vx2_1 =>
  (strconv_underscoreOK_x3 vx2_1).bind fun (vx4_1, vx5_1, vx6_1) =>
  (loopO (strconv_underscoreOK_x5 vx2_1 vx6_1) (vx4_1, vx5_1)).bind fun x => match x with
    | .inl vx13_1 =>
      some (!decide (vx13_1 = 95))
    | .inr _ =>
      some false

/-! ### internal/strconv.ParseUint -/
noncomputable def strconv_ParseUint_x2 (qx1 : Int) : Option (Bool) :=
  cond (decide ((2 : Int) ≤ qx1))
    (some (decide (qx1 ≤ 36)))
    (some false)

noncomputable def strconv_ParseUint_x3 (qx : List UInt8) : Option (Bool) :=
  cond (decide (3 ≤ (qx.length : Int)))
    ((at? qx 1).bind fun vc1 =>
    (strconv_lower (vc1.toNat : Int)).bind fun _ =>
    some (decide ((ibits .or .u8 (vc1.toNat : Int) 32) = 98)))
    (some false)

noncomputable def strconv_ParseUint_x4 (qx : List UInt8) : Option (Bool) :=
  cond (decide (3 ≤ (qx.length : Int)))
    ((at? qx 1).bind fun vc2 =>
    (strconv_lower (vc2.toNat : Int)).bind fun _ =>
    some (decide ((ibits .or .u8 (vc2.toNat : Int) 32) = 111)))
    (some false)

noncomputable def strconv_ParseUint_x5 (qx : List UInt8) : Option (Bool) :=
  cond (decide (3 ≤ (qx.length : Int)))
    ((at? qx 1).bind fun vc3 =>
    (strconv_lower (vc3.toNat : Int)).bind fun _ =>
    some (decide ((ibits .or .u8 (vc3.toNat : Int) 32) = 120)))
    (some false)

noncomputable def strconv_ParseUint_x1 (qx : List UInt8) (qx1 : Int) : Option (((List UInt8) × Int)) :=
  (strconv_ParseUint_x2 qx1).bind fun vx1 =>
  cond (vx1)
    (some (qx, qx1))
    (cond (decide (qx1 = 0))
      ((at? qx 0).bind fun vc =>
      cond (decide ((vc.toNat : Int) = 48))
        ((strconv_ParseUint_x3 qx).bind fun vx2_1 =>
        cond (vx2_1)
          ((sub? qx 2 (qx.length : Int)).bind fun vs =>
          some (vs, 2))
          ((strconv_ParseUint_x4 qx).bind fun vx3_1 =>
          cond (vx3_1)
            ((sub? qx 2 (qx.length : Int)).bind fun vs1 =>
            some (vs1, 8))
            ((strconv_ParseUint_x5 qx).bind fun vx4_1 =>
            cond (vx4_1)
              ((sub? qx 2 (qx.length : Int)).bind fun vs2 =>
              some (vs2, 16))
              ((sub? qx 1 (qx.length : Int)).bind fun vs3 =>
              some (vs3, 8)))))
        (some (qx, 10)))
      (none))

noncomputable def strconv_ParseUint_x7 (qx2 : Int) : Option (Bool) :=
  cond (decide (qx2 < 0))
    (some true)
    (some (decide (64 < qx2)))

noncomputable def strconv_ParseUint_x6 (qx2 : Int) : Option (Int) :=
  cond (decide (qx2 = 0))
    (some 64)
    ((strconv_ParseUint_x7 qx2).bind fun vx7_1 =>
    cond (vx7_1)
      (none)
      (some qx2))

noncomputable def strconv_ParseUint_x8 (vx6_1 : Int) : Option (Int) :=
  cond (decide (vx6_1 = 10))
    (some 1844674407370955162)
    (cond (decide (vx6_1 = 16))
      (some 1152921504606846976)
      (gd (!((IntKind.wrap .u64 (vx6_1)) == 0)) <|
      some (IntKind.wrap .u64 ((IntKind.wrap .u64 ((18446744073709551615 : Int).tdiv (IntKind.wrap .u64 (vx6_1)))) + 1))))

noncomputable def strconv_ParseUint_x12 (qx1 : Int) (vy1 : Int) : Option (Bool) :=
  cond (decide (vy1 = 95))
    (some (decide (qx1 = 0)))
    (some false)

noncomputable def strconv_ParseUint_x13 (vy1 : Int) : Option (Bool) :=
  cond (decide ((48 : Int) ≤ vy1))
    (some (decide (vy1 ≤ 57)))
    (some false)

noncomputable def strconv_ParseUint_x14 (vy1 : Int) : Option (Bool) :=
  (strconv_lower vy1).bind fun _ =>
  cond (decide ((97 : Int) ≤ (ibits .or .u8 vy1 32)))
    (some (decide ((ibits .or .u8 vy1 32) ≤ 122)))
    (some false)

noncomputable def strconv_ParseUint_x11 (qx1 : Int) (vy1 : Int) : Option (Int ⊕ Unit) :=
  (strconv_ParseUint_x12 qx1 vy1).bind fun vx20_1 =>
  cond (vx20_1)
    (some (.inr ()))
    ((strconv_ParseUint_x13 vy1).bind fun vx21_1 =>
    cond (vx21_1)
      (some (.inl (IntKind.wrap .u8 (vy1 - 48))))
      ((strconv_ParseUint_x14 vy1).bind fun vx22_1 =>
      cond (vx22_1)
        ((strconv_lower vy1).bind fun _ =>
        some (.inl (IntKind.wrap .u8 ((IntKind.wrap .u8 ((ibits .or .u8 vy1 32) - 97)) + 10))))
        (none)))

noncomputable def strconv_ParseUint_x15 (vx6_1 : Int) (vx8_1 : Int) (vx11 : Int) (vx23_1 : Int) : Option (Bool) :=
  cond (decide ((IntKind.wrap .u64 ((IntKind.wrap .u64 (vx11 * (IntKind.wrap .u64 (vx6_1)))) + (IntKind.wrap .u64 (vx23_1)))) < (IntKind.wrap .u64 (vx11 * (IntKind.wrap .u64 (vx6_1))))))
    (some true)
    (some (decide ((IntKind.wrap .u64 ((ishl .u64 1 (IntKind.wrap .u64 (vx8_1))) - 1)) < (IntKind.wrap .u64 ((IntKind.wrap .u64 (vx11 * (IntKind.wrap .u64 (vx6_1)))) + (IntKind.wrap .u64 (vx23_1)))))))

noncomputable def strconv_ParseUint_x10 (qx1 : Int) (vx5_1 : List UInt8) (vx6_1 : Int) (vx8_1 : Int) (vx9_1 : Int) (vx10 : Bool) (vx11 : Int) (vx12 : Int) : Option ((Bool × Int)) :=
  (at? (bytesD vx5_1) vx12).bind fun vy1 =>
  (strconv_ParseUint_x11 qx1 vy1).bind fun x => match x with
    | .inl vx23_1 =>
      cond (decide ((IntKind.wrap .u8 (vx6_1)) ≤ vx23_1))
        (none)
        (cond (decide (vx9_1 ≤ vx11))
          (none)
          ((strconv_ParseUint_x15 vx6_1 vx8_1 vx11 vx23_1).bind fun vx24_1 =>
          cond (vx24_1)
            (none)
            (some (vx10, IntKind.wrap .u64 ((IntKind.wrap .u64 (vx11 * (IntKind.wrap .u64 (vx6_1)))) + (IntKind.wrap .u64 (vx23_1)))))))
    | .inr _ =>
      some (true, vx11)

noncomputable def strconv_ParseUint_x9 (qx1 : Int) (vx5_1 : List UInt8) (vx6_1 : Int) (vx8_1 : Int) (vx9_1 : Int) : Bool × Int × Int → Option ((Bool × Int × Int) ⊕ ((Bool × Int)))
  | (vx10, vx11, vx12) =>
  cond (decide (vx12 < ((bytesD vx5_1).length : Int)))
    ((strconv_ParseUint_x10 qx1 vx5_1 vx6_1 vx8_1 vx9_1 vx10 vx11 vx12).bind fun (vx25_1, vx26_1) =>
    some (.inl (vx25_1, vx26_1, IntKind.wrap .i64 (vx12 + 1))))
    (some (.inr (vx10, vx11)))

noncomputable def strconv_ParseUint_x16 (qx : List UInt8) (vx27_1 : Bool) : Option (Bool) :=
  cond (vx27_1)
    ((strconv_underscoreOK qx).bind fun vr =>
    some (!vr))
    (some false)

noncomputable def strconv_ParseUint (qx : List UInt8) (qx1 : Int) (qx2 : Int) : Option (Int) :=
  cond (decide (qx = ([] : List UInt8)))
    (none)
    ((strconv_ParseUint_x1 qx qx1).bind fun (vx5_1, vx6_1) =>
    (strconv_ParseUint_x6 qx2).bind fun vx8_1 =>
    (strconv_ParseUint_x8 vx6_1).bind fun vx9_1 =>
    gd (decide (0 ≤ (IntKind.wrap .u64 (vx8_1)))) <|
    (loopO (strconv_ParseUint_x9 qx1 vx5_1 vx6_1 vx8_1 vx9_1) (false, 0, 0)).bind fun (vx27_1, vx28_1) =>
    (strconv_ParseUint_x16 qx vx27_1).bind fun vx29_1 =>
    cond (vx29_1)
      (none)
      (some vx28_1))

/-! ### internal/strconv.ParseInt -/
noncomputable def strconv_ParseInt_x1 (qx : List UInt8) : Option (((List UInt8) × Bool)) :=
  (at? qx 0).bind fun vc =>
  cond (decide ((vc.toNat : Int) = 43))
    ((sub? qx 1 (qx.length : Int)).bind fun vs =>
    some (vs, false))
    (cond (decide ((vc.toNat : Int) = 45))
      ((sub? qx 1 (qx.length : Int)).bind fun vs1 =>
      some (vs1, true))
      (some (qx, false)))

noncomputable def strconv_ParseInt_x2 (qx2 : Int) : Option (Int) :=
  cond (decide (qx2 = 0))
    (some 64)
    (some qx2)

noncomputable def strconv_ParseInt_x3 (vx1_1 : Bool) (vr1 : Int) (vx3_1 : Int) : Option (Bool) :=
  cond (!vx1_1)
    (some (decide ((ishl .u64 1 (IntKind.wrap .u64 (IntKind.wrap .i64 (vx3_1 - 1)))) ≤ vr1)))
    (some false)

noncomputable def strconv_ParseInt_x4 (vx1_1 : Bool) (vr1 : Int) (vx3_1 : Int) : Option (Bool) :=
  cond (vx1_1)
    (some (decide ((ishl .u64 1 (IntKind.wrap .u64 (IntKind.wrap .i64 (vx3_1 - 1)))) < vr1)))
    (some false)

noncomputable def strconv_ParseInt_x5 (vx1_1 : Bool) (vr1 : Int) : Option (Int) :=
  cond (vx1_1)
    (some (IntKind.wrap .i64 (0 - (IntKind.wrap .i64 (vr1)))))
    (some (IntKind.wrap .i64 (vr1)))

noncomputable def strconv_ParseInt (qx : List UInt8) (qx1 : Int) (qx2 : Int) : Option (Int) :=
  cond (decide (qx = ([] : List UInt8)))
    (none)
    ((strconv_ParseInt_x1 qx).bind fun (vx2, vx1_1) =>
    (strconv_ParseUint vx2 qx1 qx2).bind fun vr1 =>
    (strconv_ParseInt_x2 qx2).bind fun vx3_1 =>
    gd (decide (0 ≤ (IntKind.wrap .u64 (IntKind.wrap .i64 (vx3_1 - 1))))) <|
    (strconv_ParseInt_x3 vx1_1 vr1 vx3_1).bind fun vx4_1 =>
    cond (vx4_1)
      (none)
      ((strconv_ParseInt_x4 vx1_1 vr1 vx3_1).bind fun vx5_1 =>
      cond (vx5_1)
        (none)
        ((strconv_ParseInt_x5 vx1_1 vr1).bind fun vx6_1 =>
        some vx6_1)))

/-! ### internal/strconv.Atoi -/
noncomputable def strconv_Atoi_2_x1 (qx : List UInt8) : Option (Bool) :=
  cond (decide ((0 : Int) < (qx.length : Int)))
    (some (decide ((qx.length : Int) < 19)))
    (some false)

noncomputable def strconv_Atoi_2_x3 (qx : List UInt8) : Option (Bool) :=
  (at? qx 0).bind fun vc =>
  cond (decide ((vc.toNat : Int) = 45))
    (some true)
    (some (decide ((vc.toNat : Int) = 43)))

noncomputable def strconv_Atoi_2_x2 (qx : List UInt8) : Option ((List UInt8)) :=
  (strconv_Atoi_2_x3 qx).bind fun vx2_1 =>
  cond (vx2_1)
    ((sub? qx 1 (qx.length : Int)).bind fun vs =>
    cond (decide ((vs.length : Int) < 1))
      (none)
      (some vs))
    (some qx)

noncomputable def strconv_Atoi_2_x4 (vx3_1 : List UInt8) : Int × Int → Option ((Int × Int) ⊕ (Int))
  | (vx4, vx5) =>
  cond (decide (vx5 < ((bytesD vx3_1).length : Int)))
    ((at? (bytesD vx3_1) vx5).bind fun vy1 =>
    cond (decide (9 < (IntKind.wrap .u8 (vy1 - 48))))
      (none)
      (some (.inl (IntKind.wrap .i64 ((IntKind.wrap .i64 (vx4 * 10)) + (IntKind.wrap .i64 (IntKind.wrap .u8 (vy1 - 48)))), IntKind.wrap .i64 (vx5 + 1)))))
    (some (.inr vx4))

noncomputable def strconv_Atoi_2_x5 (qx : List UInt8) (vx6_1 : Int) : Option (Int) :=
  (at? qx 0).bind fun vc1 =>
  cond (decide ((vc1.toNat : Int) = 45))
    (some (IntKind.wrap .i64 (0 - vx6_1)))
    (some vx6_1)

noncomputable def strconv_Atoi_2 (qx : List UInt8) : Option (Int) :=
  (strconv_Atoi_2_x1 qx).bind fun vx1 =>
  cond (vx1)
    ((strconv_Atoi_2_x2 qx).bind fun vx3_1 =>
    (loopO (strconv_Atoi_2_x4 vx3_1) (0, 0)).bind fun vx6_1 =>
    (strconv_Atoi_2_x5 qx vx6_1).bind fun vx7_1 =>
    some vx7_1)
    ((strconv_ParseInt qx 10 0).bind fun vr =>
    some vr)

/-! ### strconv.Atoi -/
noncomputable def strconv_Atoi (qs : List UInt8) : Option (Int) :=
  (strconv_Atoi_2 qs).bind fun vr1 =>
  some vr1

/-! ### beaconfleet/base.Number -/
noncomputable def base_Number_x1 (qs : List UInt8) (qdigits : Int) (vr : List UInt8) : Option (Bool) :=
  cond (decide (vr = ([] : List UInt8)))
    (some true)
    (cond (decide (qdigits < (vr.length : Int)))
      (some true)
      ((at? vr 0).bind fun vc =>
      cond (decide ((vc.toNat : Int) = 48))
        (cond (decide (1 < (vr.length : Int)))
          (some true)
          (some (decide ((vr.length : Int) < (qs.length : Int)))))
        (some false)))

noncomputable def base_Number_x3 (vr : List UInt8) (vx2 : Int) : Option (Bool) :=
  (at? vr vx2).bind fun vc2 =>
  cond (decide ((vc2.toNat : Int) < 48))
    (some true)
    (some (decide (57 < (vc2.toNat : Int))))

noncomputable def base_Number_x2 (vr : List UInt8) (vx2 : Int) : Option ((Int) ⊕ (Unit ⊕ Unit)) :=
  cond (decide (vx2 < (vr.length : Int)))
    ((base_Number_x3 vr vx2).bind fun vx4_1 =>
    cond (vx4_1)
      (some (.inr (.inr ())))
      (some (.inl (IntKind.wrap .i64 (vx2 + 1)))))
    (some (.inr (.inl ())))

noncomputable def base_Number (qs : List UInt8) (qdigits : Int) : Option (Int × Bool) :=
  (strings_TrimPrefix qs ([45] : List UInt8)).bind fun vr =>
  (base_Number_x1 qs qdigits vr).bind fun vx1 =>
  cond (vx1)
    (some (0, false))
    ((loopO (base_Number_x2 vr) 0).bind fun x => match x with
      | .inl _ =>
        (strconv_Atoi qs).bind fun vr1 =>
        some (vr1, true)
      | .inr _ =>
        some (0, false))

/-! ### beaconfleet/base.Numbers -/
noncomputable def base_Numbers_o0_x1 (qwords : List (List UInt8)) (qdigits : Int) : (List Int) × Int → Option (((List Int) × Int) ⊕ ((List Int) ⊕ Unit))
  | (vout, vx) =>
  cond (decide (vx < (qwords.length : Int)))
    ((at? qwords vx).bind fun vy1 =>
    (base_Number vy1 qdigits).bind fun (vr2_1, vr3_1) =>
    cond (!vr3_1)
      (some (.inr (.inr ())))
      (gd (Nat.ble (vout.length + ([vr2_1] : List Int).length) LIM) <|
      some (.inl (vout ++ ([vr2_1] : List Int), IntKind.wrap .i64 (vx + 1)))))
    (some (.inr (.inl vout)))

noncomputable def base_Numbers_o0 (qwords : List (List UInt8)) (qdigits : Int) : Option ((List Int) × Bool) :=
  (loopO (base_Numbers_o0_x1 qwords qdigits) ([], 0)).bind fun x => match x with
    | .inl vout1_1 =>
      some (vout1_1, true)
    | .inr _ =>
      some ([], false)

/-! ### beaconfleet/base.Version -/
noncomputable def base_Version_x1 (qv : api_Version) : Option (Bool) :=
  (base_Out qv.Major 0 9999).bind fun vr =>
  cond (!vr)
    ((base_Out qv.Minor 0 9999).bind fun vr1 =>
    cond (!vr1)
      ((base_Out qv.Patch 0 9999).bind fun vr2 =>
      some (!vr2))
      (some false))
    (some false)

noncomputable def base_Version (qv : api_Version) : Option (Bool) :=
  (base_Version_x1 qv).bind fun vx1 =>
  some vx1

/-! ### beaconfleet/campaign.ParseVersion -/
noncomputable def campaign_ParseVersion_x1 (vr1 : List Int) (vr1_1 : Bool) : Option (Bool) :=
  cond (!vr1_1)
    (some true)
    (some (!decide ((vr1.length : Int) = 3)))

noncomputable def campaign_ParseVersion (qs : List UInt8) : Option (api_Version × Int) :=
  (strings_Split qs ([46] : List UInt8)).bind fun vr =>
  (base_Numbers_o0 vr 4).bind fun (vr1, vr1_1) =>
  (campaign_ParseVersion_x1 vr1 vr1_1).bind fun vx1 =>
  cond (vx1)
    (some (api_Version.mk 0 0 0, 9))
    ((at? vr1 0).bind fun vy =>
    (at? vr1 1).bind fun vy1 =>
    (at? vr1 2).bind fun vy2 =>
    (base_Version (api_Version.mk vy vy1 vy2)).bind fun vr3 =>
    cond (!vr3)
      (some (api_Version.mk 0 0 0, 9))
      (some (api_Version.mk vy vy1 vy2, 0)))

/-! ### beaconfleet/place.isSpot -/
noncomputable def place_isSpot_x1 (qs : api_Spot) : Option (Bool) :=
  (base_Out qs.X (-10000) 10000).bind fun vr =>
  cond (!vr)
    ((base_Out qs.Y (-10000) 10000).bind fun vr1 =>
    some (!vr1))
    (some false)

noncomputable def place_isSpot (qs : api_Spot) : Option (Bool) :=
  (place_isSpot_x1 qs).bind fun vx1 =>
  some vx1

/-! ### beaconfleet/place.Cell -/
noncomputable def place_Cell_x1 (qs : api_Spot) (qlevel : Int) : Option (Bool) :=
  (place_isSpot qs).bind fun vr2 =>
  cond (!vr2)
    (some true)
    ((base_Out qlevel 0 15).bind fun vr =>
    some vr)

noncomputable def place_Cell_x2 (qs : api_Spot) (qlevel : Int) : (List Int) × Int × Int → Option (((List Int) × Int × Int) ⊕ ((List Int)))
  | (vout, vlong, vx2) =>
  cond (decide (vx2 < qlevel))
    (gd (!((IntKind.wrap .i64 (vlong.tdiv 2)) == 0)) <|
    gd (Nat.ble (vout.length + ([IntKind.wrap .u8 ((IntKind.wrap .u8 ((48 : Int) + (IntKind.wrap .u8 ((IntKind.wrap .i64 ((IntKind.wrap .i64 (qs.X - (-16384))).tdiv (IntKind.wrap .i64 (vlong.tdiv 2)))).tmod 2)))) + (IntKind.wrap .u8 ((2 : Int) * (IntKind.wrap .u8 ((IntKind.wrap .i64 ((IntKind.wrap .i64 (qs.Y - (-16384))).tdiv (IntKind.wrap .i64 (vlong.tdiv 2)))).tmod 2)))))] : List Int).length) LIM) <|
    some (.inl (vout ++ ([IntKind.wrap .u8 ((IntKind.wrap .u8 ((48 : Int) + (IntKind.wrap .u8 ((IntKind.wrap .i64 ((IntKind.wrap .i64 (qs.X - (-16384))).tdiv (IntKind.wrap .i64 (vlong.tdiv 2)))).tmod 2)))) + (IntKind.wrap .u8 ((2 : Int) * (IntKind.wrap .u8 ((IntKind.wrap .i64 ((IntKind.wrap .i64 (qs.Y - (-16384))).tdiv (IntKind.wrap .i64 (vlong.tdiv 2)))).tmod 2)))))] : List Int), IntKind.wrap .i64 (vlong.tdiv 2), IntKind.wrap .i64 (vx2 + 1))))
    (some (.inr vout))

noncomputable def place_Cell (qs : api_Spot) (qlevel : Int) : Option ((List UInt8) × Int) :=
  (place_Cell_x1 qs qlevel).bind fun vx1 =>
  cond (vx1)
    (some (([] : List UInt8), 1))
    ((loopO (place_Cell_x2 qs qlevel) ([], 32768, 0)).bind fun vout1_1 =>
    some (vout1_1.map fun n => UInt8.ofNat n.toNat, 0))

/-! ### beaconfleet/fleettop.h10facts -/
noncomputable def fleettop_h10facts_x1 (vr : List Int) (vr2 : Int) (vr2_1 : api_Version) (vr4 : Int) (vr1 : List UInt8) (vr3 : Int) : Option (Bool) :=
  cond (decide (vr2 = 0))
    (cond (decide (vr4 = 0))
      (cond (decide (vr3 = 0))
        ((slices_Equal_byte_byte vr ([1, 2, 2] : List Int)).bind fun vr5 =>
        cond (vr5)
          (cond (decide (vr2_1.Patch = 3))
            (some (decide (vr1 = ([51] : List UInt8))))
            (some false))
          (some false))
        (some false))
      (some false))
    (some false)

noncomputable def fleettop_h10facts : Option (Bool) :=
  (series_Pack_o0 ([api_Sample.mk ([100] : List UInt8) ([109] : List UInt8) 1 1] : List api_Sample)).bind fun (vr, vr2) =>
  (campaign_ParseVersion ([49, 46, 50, 46, 51] : List UInt8)).bind fun (vr2_1, vr4) =>
  (place_Cell (api_Spot.mk 0 0) 1).bind fun (vr1, vr3) =>
  (fleettop_h10facts_x1 vr vr2 vr2_1 vr4 vr1 vr3).bind fun vx1 =>
  some vx1

/-! ### beaconfleet/fleettop.TopPackedRollsUp -/
noncomputable def fleettop_TopPackedRollsUp_x1 (vr5 : List api_Sample) : Int × Int → Option ((Int × Int) ⊕ (Int))
  | (vx, vx1) =>
  cond (decide (vx1 < (vr5.length : Int)))
    ((at? vr5 vx1).bind fun vy1 =>
    some (.inl (IntKind.wrap .i64 (vx + vy1.Value), IntKind.wrap .i64 (vx1 + 1))))
    (some (.inr vx))

noncomputable def fleettop_TopPackedRollsUp_x2 (vr2 : Int) (vr15 : Int) (vr6 : List api_Bucket) (vr7 : Int) (vr6_1 : List api_Bucket) (vr7_1 : Int) (vr6_2 : Int) : Option (Bool) :=
  cond (!decide (vr2 = 0))
    (some true)
    (cond (!decide (vr15 = 0))
      (some true)
      (cond (!decide (vr7 = 0))
        (some true)
        (cond (!decide (vr7_1 = 0))
          (some true)
          (cond (!decide (vr6_2 = 0))
            (some true)
            ((slices_Equal_api_Bucket_api_Bucket vr6 vr6_1).bind fun vr1 =>
            some (!vr1))))))

noncomputable def fleettop_TopPackedRollsUp_x3 (vr5_1 : List api_Bucket) : Option (Bool) :=
  cond (decide ((vr5_1.length : Int) = 0))
    ((fleettop_h10facts).bind fun vr6_3 =>
    some vr6_3)
    (some false)

noncomputable def fleettop_TopPackedRollsUp_x4 (vr5 : List api_Sample) (vr5_1 : List api_Bucket) (vx2_1 : Int) : Option (Bool) :=
  cond (decide ((vr5_1.length : Int) = 1))
    ((at? vr5_1 0).bind fun vy2 =>
    cond (decide (vy2.Sum = vx2_1))
      (cond (decide (vy2.Count = (vr5.length : Int)))
        ((at? vr5 0).bind fun vy3 =>
        cond (decide (vy2.First = vy3.Value))
          ((at? vr5 (IntKind.wrap .i64 ((vr5.length : Int) - 1))).bind fun vy4 =>
          cond (decide (vy2.Last = vy4.Value))
            ((fleettop_h10facts).bind fun vr6_4 =>
            some vr6_4)
            (some false))
          (some false))
        (some false))
      (some false))
    (some false)

noncomputable def fleettop_TopPackedRollsUp (qx : List Int) : Option (Bool) :=
  (fleetmake_Stream_RightSeries (fleetmake_Stream.mk qx 0) 14 (-100)).bind fun (vs3, vr5) =>
  (series_Pack vr5).bind fun (vr, vr2) =>
  (series_Unpack vr ([100] : List UInt8) ([109] : List UInt8)).bind fun (vr14, vr15) =>
  (series_Buckets vr5 (api_Window.mk 0 100000) 50).bind fun (vr6, vr7) =>
  (series_Buckets vr14 (api_Window.mk 0 100000) 50).bind fun (vr6_1, vr7_1) =>
  (series_Wider vr6 100000).bind fun (vr5_1, vr6_2) =>
  (loopO (fleettop_TopPackedRollsUp_x1 vr5) (0, 0)).bind fun vx2_1 =>
  (fleettop_TopPackedRollsUp_x2 vr2 vr15 vr6 vr7 vr6_1 vr7_1 vr6_2).bind fun vx3_1 =>
  cond (vx3_1)
    (some false)
    (cond (decide ((vr5.length : Int) = 0))
      ((fleettop_TopPackedRollsUp_x3 vr5_1).bind fun vx4_1 =>
      some vx4_1)
      ((fleettop_TopPackedRollsUp_x4 vr5 vr5_1 vx2_1).bind fun vx5_1 =>
      some vx5_1))

end Go.Eng
