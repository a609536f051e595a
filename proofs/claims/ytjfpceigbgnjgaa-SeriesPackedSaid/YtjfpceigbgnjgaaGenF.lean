/-
The Go functions that the law SeriesPacked reaches, as plain functions.
-/
import Derived.Test.YtjfpceigbgnjgaaEngV

namespace Go.Eng

open Go

set_option linter.unusedVariables false

structure fleetmake_Stream where
  L : List Int
  at_ : Int

def fleetmake_Stream.enc (x : fleetmake_Stream) : List D := [.lst (List.map (encI .i64) x.L), .int .i64 x.at_]

structure api_Sample where
  Device : List UInt8
  Metric : List UInt8
  At : Int
  Value : Int

def api_Sample.enc (x : api_Sample) : List D := [.str x.Device, .str x.Metric, .int .i64 x.At, .int .i64 x.Value]

structure api_Window where
  From : Int
  To : Int

def api_Window.enc (x : api_Window) : List D := [.int .i64 x.From, .int .i64 x.To]

structure api_Rise where
  From : Int
  To : Int
  By : Int
  Reset : Bool

def api_Rise.enc (x : api_Rise) : List D := [.int .i64 x.From, .int .i64 x.To, .int .i64 x.By, .bool x.Reset]

/-! ### beaconfleet/fleetmake.Below -/
noncomputable def fleetmake_Below_x1 (qx : Int) (qn : Int) : Option (Int) :=
  cond (decide ((qx.tmod qn) < 0))
    (some (IntKind.wrap .i64 ((qx.tmod qn) + qn)))
    (some (qx.tmod qn))

noncomputable def fleetmake_Below (qx : Int) (qn : Int) : Option (Int) :=
  cond (decide (qn < 1))
    (some 0)
    (gd (!(qn == 0)) <|
    (fleetmake_Below_x1 qx qn).bind fun vx1 =>
    some vx1)

/-! ### (*beaconfleet/fleetmake.Stream).Next -/
noncomputable def fleetmake_Stream_Next (qs : fleetmake_Stream) (qn : Int) : Option (Int) :=
  cond (decide ((qs.L.length : Int) = 0))
    ((fleetmake_Below (IntKind.wrap .i64 ((IntKind.wrap .i64 (qs.at_ + 1)) * 7919)) qn).bind fun vr =>
    some vr)
    (gd (!((qs.L.length : Int) == 0)) <|
    (at? qs.L ((IntKind.wrap .i64 ((IntKind.wrap .i64 (qs.at_ + 1)) - 1)).tmod (qs.L.length : Int))).bind fun vy =>
    (fleetmake_Below vy 1073741824).bind fun vr1 =>
    (fleetmake_Below (IntKind.wrap .i64 (vr1 + (IntKind.wrap .i64 ((IntKind.wrap .i64 ((IntKind.wrap .i64 ((IntKind.wrap .i64 (qs.at_ + 1)) - 1)).tdiv (qs.L.length : Int))) * (IntKind.wrap .i64 ((7919 : Int) + ((IntKind.wrap .i64 ((IntKind.wrap .i64 (qs.at_ + 1)) - 1)).tmod (qs.L.length : Int)))))))) qn).bind fun vr2 =>
    some vr2)

/-! ### (*beaconfleet/fleetmake.Stream).Pick -/
noncomputable def fleetmake_Stream_Pick_o1 (qs : fleetmake_Stream) (ql : List Int) : Option (Int) :=
  (fleetmake_Stream_Next qs (ql.length : Int)).bind fun vr3 =>
  (at? ql vr3).bind fun vy =>
  some vy

/-! ### (*beaconfleet/fleetmake.Stream).Range -/
noncomputable def fleetmake_Stream_Range (qs : fleetmake_Stream) (qlow : Int) (qhigh : Int) : Option (fleetmake_Stream × Int) :=
  cond (decide (qhigh < qlow))
    (some (qs, qlow))
    ((fleetmake_Stream_Next qs (IntKind.wrap .i64 ((IntKind.wrap .i64 (qhigh - qlow)) + 1))).bind fun vr3 =>
    some (fleetmake_Stream.mk qs.L (IntKind.wrap .i64 (qs.at_ + 1)), IntKind.wrap .i64 (qlow + vr3)))

/-! ### (*beaconfleet/fleetmake.Stream).RightSeries -/
noncomputable def fleetmake_Stream_RightSeries_x1 (qlow : Int) (vr : Int) : fleetmake_Stream × (List api_Sample) × Int × Int → Option ((fleetmake_Stream × (List api_Sample) × Int × Int) ⊕ ((fleetmake_Stream × (List api_Sample))))
  | (vs1, vout, vat, vx) =>
  cond (decide (vx < vr))
    ((fleetmake_Stream_Pick_o1 vs1 ([1, 1, 2, 5, 10, 10, 40, 127, 1000] : List Int)).bind fun vr3 =>
    (fleetmake_Stream_Pick_o1 (fleetmake_Stream.mk vs1.L (IntKind.wrap .i64 (vs1.at_ + 1))) ([0, 1, 2, 5, 7, 9, (-3), (-70), 100, 1000, 5] : List Int)).bind fun vr4 =>
    gd (Nat.ble (vout.length + ([api_Sample.mk ([100] : List UInt8) ([109] : List UInt8) (IntKind.wrap .i64 (vat + vr3)) (imax qlow vr4)] : List api_Sample).length) LIM) <|
    some (.inl (fleetmake_Stream.mk vs1.L (IntKind.wrap .i64 ((IntKind.wrap .i64 (vs1.at_ + 1)) + 1)), vout ++ ([api_Sample.mk ([100] : List UInt8) ([109] : List UInt8) (IntKind.wrap .i64 (vat + vr3)) (imax qlow vr4)] : List api_Sample), IntKind.wrap .i64 (vat + vr3), IntKind.wrap .i64 (vx + 1))))
    (some (.inr (vs1, vout)))

noncomputable def fleetmake_Stream_RightSeries (qs : fleetmake_Stream) (qmost : Int) (qlow : Int) : Option (fleetmake_Stream × (List api_Sample)) :=
  (fleetmake_Stream_Range qs 0 qmost).bind fun (vs, vr) =>
  (loopO (fleetmake_Stream_RightSeries_x1 qlow vr) (vs, [], 0, 0)).bind fun (vs2_1, vout1_1) =>
  some (vs2_1, vout1_1)

/-! ### (*beaconfleet/fleetmake.Stream).Flip -/
noncomputable def fleetmake_Stream_Flip (qs : fleetmake_Stream) (qn : Int) : Option (Bool) :=
  (fleetmake_Stream_Next qs qn).bind fun vr3 =>
  some (decide (vr3 = 0))

/-! ### (*beaconfleet/fleetmake.Stream).Some -/
noncomputable def fleetmake_Stream_Some_o1 (qs : fleetmake_Stream) (ql : List (List UInt8)) : Option ((List UInt8)) :=
  (fleetmake_Stream_Next qs (ql.length : Int)).bind fun vr3 =>
  (at? ql vr3).bind fun vy =>
  some vy

/-! ### (*beaconfleet/fleetmake.Stream).Odd -/
noncomputable def fleetmake_Stream_Odd (qs : fleetmake_Stream) (qlow : Int) (qhigh : Int) : Option (fleetmake_Stream × Int) :=
  (fleetmake_Stream_Flip qs 12).bind fun vr =>
  cond (vr)
    ((fleetmake_Stream_Pick_o1 (fleetmake_Stream.mk qs.L (IntKind.wrap .i64 (qs.at_ + 1))) ([IntKind.wrap .i64 (qlow - 1), IntKind.wrap .i64 (qhigh + 1), qlow, qhigh, (-1099511627776), 1099511627776] : List Int)).bind fun vr1 =>
    some (fleetmake_Stream.mk qs.L (IntKind.wrap .i64 ((IntKind.wrap .i64 (qs.at_ + 1)) + 1)), vr1))
    ((fleetmake_Stream_Range (fleetmake_Stream.mk qs.L (IntKind.wrap .i64 (qs.at_ + 1))) qlow qhigh).bind fun (vs, vr2) =>
    some (vs, vr2))

/-! ### (*beaconfleet/fleetmake.Stream).Series -/
noncomputable def fleetmake_Stream_Series_x2 (vs3 : fleetmake_Stream) (vr5 : List api_Sample) : Option ((fleetmake_Stream × Bool)) :=
  cond (decide (0 < (vr5.length : Int)))
    ((fleetmake_Stream_Flip vs3 12).bind fun vr1 =>
    some (fleetmake_Stream.mk vs3.L (IntKind.wrap .i64 (vs3.at_ + 1)), vr1))
    (some (vs3, false))

noncomputable def fleetmake_Stream_Series_x1 (vs3 : fleetmake_Stream) (vr5 : List api_Sample) : Option ((fleetmake_Stream × (List api_Sample))) :=
  (fleetmake_Stream_Series_x2 vs3 vr5).bind fun (vs1, vx1) =>
  cond (vx1)
    ((fleetmake_Stream_Next vs1 (vr5.length : Int)).bind fun vr3 =>
    (at? vr5 vr3).bind fun vy =>
    (fleetmake_Stream_Next (fleetmake_Stream.mk vs1.L (IntKind.wrap .i64 (vs1.at_ + 1))) 4).bind fun vr3_1 =>
    cond (decide (vr3_1 = 0))
      ((fleetmake_Stream_Some_o1 (fleetmake_Stream.mk vs1.L (IntKind.wrap .i64 ((IntKind.wrap .i64 (vs1.at_ + 1)) + 1))) ([([] : List UInt8), ([101] : List UInt8), ([65] : List UInt8)] : List (List UInt8))).bind fun vr2 =>
      some (fleetmake_Stream.mk vs1.L (IntKind.wrap .i64 ((IntKind.wrap .i64 ((IntKind.wrap .i64 (vs1.at_ + 1)) + 1)) + 1)), vr5.set vr3.toNat (api_Sample.mk vr2 vy.Metric vy.At vy.Value)))
      (cond (decide (vr3_1 = 1))
        ((fleetmake_Stream_Some_o1 (fleetmake_Stream.mk vs1.L (IntKind.wrap .i64 ((IntKind.wrap .i64 (vs1.at_ + 1)) + 1))) ([([] : List UInt8), ([110] : List UInt8)] : List (List UInt8))).bind fun vr4 =>
        some (fleetmake_Stream.mk vs1.L (IntKind.wrap .i64 ((IntKind.wrap .i64 ((IntKind.wrap .i64 (vs1.at_ + 1)) + 1)) + 1)), vr5.set vr3.toNat (api_Sample.mk vy.Device vr4 vy.At vy.Value)))
        (cond (decide (vr3_1 = 2))
          ((fleetmake_Stream_Odd (fleetmake_Stream.mk vs1.L (IntKind.wrap .i64 ((IntKind.wrap .i64 (vs1.at_ + 1)) + 1))) 0 100).bind fun (vs1_1, vr3_2) =>
          some (vs1_1, vr5.set vr3.toNat (api_Sample.mk vy.Device vy.Metric vr3_2 vy.Value)))
          ((fleetmake_Stream_Odd (fleetmake_Stream.mk vs1.L (IntKind.wrap .i64 ((IntKind.wrap .i64 (vs1.at_ + 1)) + 1))) (-1000000000) 1000000000).bind fun (vs1_2, vr3_3) =>
          some (vs1_2, vr5.set vr3.toNat (api_Sample.mk vy.Device vy.Metric vy.At vr3_3))))))
    (some (vs1, vr5))

noncomputable def fleetmake_Stream_Series_x4 (vs2_1 : fleetmake_Stream) (vx2_1 : List api_Sample) : Option ((fleetmake_Stream × Bool)) :=
  cond (decide (0 < (vx2_1.length : Int)))
    ((fleetmake_Stream_Flip vs2_1 25).bind fun vr6 =>
    some (fleetmake_Stream.mk vs2_1.L (IntKind.wrap .i64 (vs2_1.at_ + 1)), vr6))
    (some (vs2_1, false))

noncomputable def fleetmake_Stream_Series_x3 (vs2_1 : fleetmake_Stream) (vx2_1 : List api_Sample) : Option ((fleetmake_Stream × (List api_Sample))) :=
  (fleetmake_Stream_Series_x4 vs2_1 vx2_1).bind fun (vs4_1, vx3_1) =>
  cond (vx3_1)
    ((at? vx2_1 (IntKind.wrap .i64 ((vx2_1.length : Int) - 1))).bind fun vy1 =>
    (fleetmake_Stream_Pick_o1 vs4_1 ([345686399999, 3456000000, 950400000] : List Int)).bind fun vr7 =>
    (fleetmake_Stream_Pick_o1 (fleetmake_Stream.mk vs4_1.L (IntKind.wrap .i64 (vs4_1.at_ + 1))) ([1000000000, (-1000000000)] : List Int)).bind fun vr8 =>
    some (fleetmake_Stream.mk vs4_1.L (IntKind.wrap .i64 ((IntKind.wrap .i64 (vs4_1.at_ + 1)) + 1)), (vx2_1.set (IntKind.wrap .i64 ((vx2_1.length : Int) - 1)).toNat (api_Sample.mk vy1.Device vy1.Metric vr7 vy1.Value)).set (IntKind.wrap .i64 ((vx2_1.length : Int) - 1)).toNat (api_Sample.mk vy1.Device vy1.Metric vr7 vr8)))
    (some (vs4_1, vx2_1))

noncomputable def fleetmake_Stream_Series (qx : fleetmake_Stream) (qx1 : Int) : Option (fleetmake_Stream × (List api_Sample)) :=
  (fleetmake_Stream_Pick_o1 qx ([0, (-100)] : List Int)).bind fun vr =>
  (fleetmake_Stream_RightSeries (fleetmake_Stream.mk qx.L (IntKind.wrap .i64 (qx.at_ + 1))) qx1 vr).bind fun (vs3, vr5) =>
  (fleetmake_Stream_Series_x1 vs3 vr5).bind fun (vs2_1, vx2_1) =>
  (fleetmake_Stream_Series_x3 vs2_1 vx2_1).bind fun (vs5_1, vx4_1) =>
  some (vs5_1, vx4_1)

/-! ### beaconfleet/fleetref2.sevens -/
noncomputable def fleetref2_sevens_n : Nat → Int → Option ((List Int))
  | 0, _ => none
  | n + 1, qn =>
  cond (decide (qn < 128))
    (some ([IntKind.wrap .u8 (qn)] : List Int))
    ((fleetref2_sevens_n n (IntKind.wrap .i64 (qn.tdiv 128))).bind fun vr =>
    gd (Nat.ble (([IntKind.wrap .u8 (IntKind.wrap .i64 ((qn.tmod 128) + 128))] : List Int).length + vr.length) LIM) <|
    some (([IntKind.wrap .u8 (IntKind.wrap .i64 ((qn.tmod 128) + 128))] : List Int) ++ vr))

noncomputable def fleetref2_sevens (qn : Int) : Option ((List Int)) := fixO fun n => fleetref2_sevens_n n qn

/-! ### beaconfleet/fleetref2.turned -/
noncomputable def fleetref2_turned (qn : Int) : Option (Int) :=
  cond (decide (qn < 0))
    (some (IntKind.wrap .i64 ((IntKind.wrap .i64 (((-2) : Int) * qn)) - 1)))
    (some (IntKind.wrap .i64 ((2 : Int) * qn)))

/-! ### beaconfleet/fleetref2.PackOf -/
noncomputable def fleetref2_PackOf_o0_x2 (ql : List api_Sample) (vout : List Int) (vat : Int) (vgap : Int) (vvalue : Int) (vx : Int) : Option (((List Int) × Int × Int × Int)) :=
  (at? ql vx).bind fun vy1 =>
  (fleetref2_turned (IntKind.wrap .i64 ((IntKind.wrap .i64 (vy1.At - vat)) - vgap))).bind fun vr3 =>
  (fleetref2_sevens vr3).bind fun vr1_3 =>
  gd (Nat.ble (vout.length + vr1_3.length) LIM) <|
  (fleetref2_turned (IntKind.wrap .i64 (vy1.Value - vvalue))).bind fun vr4 =>
  (fleetref2_sevens vr4).bind fun vr1_4 =>
  gd (Nat.ble ((vout ++ vr1_3).length + vr1_4.length) LIM) <|
  cond (decide (vx = 0))
    (some ((vout ++ vr1_3) ++ vr1_4, vy1.At, 0, vy1.Value))
    (some ((vout ++ vr1_3) ++ vr1_4, vy1.At, IntKind.wrap .i64 (vy1.At - vat), vy1.Value))

noncomputable def fleetref2_PackOf_o0_x1 (ql : List api_Sample) : (List Int) × Int × Int × Int × Int → Option (((List Int) × Int × Int × Int × Int) ⊕ ((List Int)))
  | (vout, vat, vgap, vvalue, vx) =>
  cond (decide (vx < (ql.length : Int)))
    ((fleetref2_PackOf_o0_x2 ql vout vat vgap vvalue vx).bind fun (vout2_1, vat2_1, vgap2_1, vvalue2_1) =>
    some (.inl (vout2_1, vat2_1, vgap2_1, vvalue2_1, IntKind.wrap .i64 (vx + 1))))
    (some (.inr vout))

noncomputable def fleetref2_PackOf_o0 (ql : List api_Sample) : Option ((List Int)) :=
  (fleetref2_sevens (ql.length : Int)).bind fun vr1 =>
  (loopO (fleetref2_PackOf_o0_x1 ql) (vr1, 0, 0, 0, 0)).bind fun vout3_1 =>
  some vout3_1

/-! ### (*beaconfleet/fleetmake.Stream).Bytes -/
noncomputable def fleetmake_Stream_Bytes_x2 (vs1 : fleetmake_Stream) (vout : List Int) : Option ((fleetmake_Stream × (List Int)) ⊕ (List Int)) :=
  cond (decide ((vout.length : Int) = 0))
    ((fleetmake_Stream_Next vs1 256).bind fun vr3_4 =>
    gd (Nat.ble (vout.length + ([IntKind.wrap .u8 (vr3_4)] : List Int).length) LIM) <|
    some (.inr (vout ++ ([IntKind.wrap .u8 (vr3_4)] : List Int))))
    ((fleetmake_Stream_Next vs1 (vout.length : Int)).bind fun vr3_5 =>
    (fleetmake_Stream_Next (fleetmake_Stream.mk vs1.L (IntKind.wrap .i64 (vs1.at_ + 1))) 4).bind fun vr3_6 =>
    cond (decide (vr3_6 = 0))
      (gd (decide (0 ≤ vr3_5) && decide (vr3_5 ≤ (vout.length : Int))) <|
      gd (decide (0 ≤ (IntKind.wrap .i64 (vr3_5 + 1))) && decide ((IntKind.wrap .i64 (vr3_5 + 1)) ≤ (vout.length : Int)) && decide ((vout.length : Int) ≤ (vout.length : Int))) <|
      gd (Nat.ble (vr3_5.toNat + ((vout.drop (IntKind.wrap .i64 (vr3_5 + 1)).toNat).take ((vout.length : Int).toNat - (IntKind.wrap .i64 (vr3_5 + 1)).toNat)).length) LIM) <|
      some (.inl (fleetmake_Stream.mk vs1.L (IntKind.wrap .i64 ((IntKind.wrap .i64 (vs1.at_ + 1)) + 1)), vout.take vr3_5.toNat ++ ((vout.drop (IntKind.wrap .i64 (vr3_5 + 1)).toNat).take ((vout.length : Int).toNat - (IntKind.wrap .i64 (vr3_5 + 1)).toNat)))))
      (cond (decide (vr3_6 = 1))
        (gd (decide (0 ≤ (IntKind.wrap .i64 (vr3_5 + 1))) && decide ((IntKind.wrap .i64 (vr3_5 + 1)) ≤ (vout.length : Int))) <|
        gd (decide (0 ≤ vr3_5) && decide (vr3_5 ≤ (vout.length : Int)) && decide ((vout.length : Int) ≤ (vout.length : Int))) <|
        gd (Nat.ble ((IntKind.wrap .i64 (vr3_5 + 1)).toNat + ((vout.drop vr3_5.toNat).take ((vout.length : Int).toNat - vr3_5.toNat)).length) LIM) <|
        some (.inl (fleetmake_Stream.mk vs1.L (IntKind.wrap .i64 ((IntKind.wrap .i64 (vs1.at_ + 1)) + 1)), vout.take (IntKind.wrap .i64 (vr3_5 + 1)).toNat ++ ((vout.drop vr3_5.toNat).take ((vout.length : Int).toNat - vr3_5.toNat)))))
        (cond (decide (vr3_6 = 2))
          (gd (decide (0 ≤ vr3_5) && decide (vr3_5 ≤ (vout.length : Int))) <|
          some (.inl (fleetmake_Stream.mk vs1.L (IntKind.wrap .i64 ((IntKind.wrap .i64 (vs1.at_ + 1)) + 1)), vout.take vr3_5.toNat)))
          ((at? vout vr3_5).bind fun vy1 =>
          (fleetmake_Stream_Next (fleetmake_Stream.mk vs1.L (IntKind.wrap .i64 ((IntKind.wrap .i64 (vs1.at_ + 1)) + 1))) 8).bind fun vr3_7 =>
          gd (decide (0 ≤ vr3_7)) <|
          some (.inl (fleetmake_Stream.mk vs1.L (IntKind.wrap .i64 ((IntKind.wrap .i64 ((IntKind.wrap .i64 (vs1.at_ + 1)) + 1)) + 1)), vout.set vr3_5.toNat (ibits .xor .u8 vy1 (ishl .u8 1 vr3_7))))))))

noncomputable def fleetmake_Stream_Bytes_x1 (vr : Int) : fleetmake_Stream × (List Int) × Int → Option ((fleetmake_Stream × (List Int) × Int) ⊕ ((fleetmake_Stream × (List Int)) ⊕ (fleetmake_Stream × (List Int))))
  | (vs1, vout, vx) =>
  cond (decide (vx < vr))
    ((fleetmake_Stream_Bytes_x2 vs1 vout).bind fun x => match x with
      | .inl (vs3_1, vout2_1) =>
        some (.inl (vs3_1, vout2_1, IntKind.wrap .i64 (vx + 1)))
      | .inr vx2_1 =>
        some (.inr (.inr (fleetmake_Stream.mk vs1.L (IntKind.wrap .i64 (vs1.at_ + 1)), vx2_1))))
    (some (.inr (.inl (vs1, vout))))

noncomputable def fleetmake_Stream_Bytes (qs : fleetmake_Stream) (qb : List Int) : Option (fleetmake_Stream × (List Int)) :=
  gd (Nat.ble qb.length LIM) <|
  (fleetmake_Stream_Range qs 1 2).bind fun (vs, vr) =>
  (loopO (fleetmake_Stream_Bytes_x1 vr) (vs, qb, 0)).bind fun x => match x with
    | .inl (vs4_1, vout3_1) =>
      some (vs4_1, vout3_1)
    | .inr (vs5_1, vx3_1) =>
      some (vs5_1, vx3_1)

/-! ### (*beaconfleet/fleetmake.Stream).Packed -/
noncomputable def fleetmake_Stream_Packed_x1 (vs3 : fleetmake_Stream) (vr5_1 : List Int) : Option ((fleetmake_Stream × (List Int))) :=
  (fleetmake_Stream_Flip vs3 3).bind fun vr =>
  cond (vr)
    ((fleetmake_Stream_Bytes (fleetmake_Stream.mk vs3.L (IntKind.wrap .i64 (vs3.at_ + 1))) vr5_1).bind fun (vs6, vr1) =>
    some (vs6, vr1))
    (some (fleetmake_Stream.mk vs3.L (IntKind.wrap .i64 (vs3.at_ + 1)), vr5_1))

noncomputable def fleetmake_Stream_Packed_x2 (vs1 : fleetmake_Stream) (vb1 : List Int) : Option ((fleetmake_Stream × (List Int))) :=
  (fleetmake_Stream_Flip vs1 25).bind fun vr2 =>
  cond (vr2)
    ((fleetmake_Stream_Next (fleetmake_Stream.mk vs1.L (IntKind.wrap .i64 (vs1.at_ + 1))) 6).bind fun vr3 =>
    (at? ([[], ([0] : List Int), ([0, 0] : List Int), ([128, 0] : List Int), ([1, 128, 0, 0] : List Int), ([255, 255, 255, 255, 255, 255, 255, 255, 255, 1] : List Int)] : List (List Int)) vr3).bind fun vy =>
    some (fleetmake_Stream.mk vs1.L (IntKind.wrap .i64 ((IntKind.wrap .i64 (vs1.at_ + 1)) + 1)), vy))
    (some (fleetmake_Stream.mk vs1.L (IntKind.wrap .i64 (vs1.at_ + 1)), vb1))

noncomputable def fleetmake_Stream_Packed (qs : fleetmake_Stream) : Option (fleetmake_Stream × (List Int)) :=
  (fleetmake_Stream_RightSeries qs 8 (-100)).bind fun (vs3, vr5) =>
  (fleetref2_PackOf_o0 vr5).bind fun vr5_1 =>
  (fleetmake_Stream_Packed_x1 vs3 vr5_1).bind fun (vs1, vb1) =>
  (fleetmake_Stream_Packed_x2 vs1 vb1).bind fun (vs2_1, vb2_1) =>
  some (vs2_1, vb2_1)

/-! ### beaconfleet/base.Key -/
noncomputable def base_Key_x1 (qs : List UInt8) : Option (Bool) :=
  cond (decide (qs = ([] : List UInt8)))
    (some true)
    (cond (decide (40 < (qs.length : Int)))
      (some true)
      ((at? qs 0).bind fun vc =>
      cond (decide ((vc.toNat : Int) < 97))
        (some true)
        (some (decide (122 < (vc.toNat : Int))))))

noncomputable def base_Key_x3 (vc2 : UInt8) : Option (Bool) :=
  cond (decide (97 ≤ (vc2.toNat : Int)))
    (cond (decide ((vc2.toNat : Int) ≤ 122))
      (some false)
      (cond (decide (48 ≤ (vc2.toNat : Int)))
        (cond (decide ((vc2.toNat : Int) ≤ 57))
          (some false)
          (cond (decide ((vc2.toNat : Int) = 45))
            (some false)
            (some (!(decide ((vc2.toNat : Int) = 95))))))
        (cond (decide ((vc2.toNat : Int) = 45))
          (some false)
          (some (!(decide ((vc2.toNat : Int) = 95)))))))
    (cond (decide (48 ≤ (vc2.toNat : Int)))
      (cond (decide ((vc2.toNat : Int) ≤ 57))
        (some false)
        (cond (decide ((vc2.toNat : Int) = 45))
          (some false)
          (some (!(decide ((vc2.toNat : Int) = 95))))))
      (cond (decide ((vc2.toNat : Int) = 45))
        (some false)
        (some (!(decide ((vc2.toNat : Int) = 95))))))

noncomputable def base_Key_x2 (qs : List UInt8) (vx2 : Int) : Option ((Int) ⊕ (Unit ⊕ Unit)) :=
  cond (decide (vx2 < (qs.length : Int)))
    ((at? qs vx2).bind fun vc2 =>
    (base_Key_x3 vc2).bind fun vx4_1 =>
    cond (vx4_1)
      (some (.inr (.inr ())))
      (some (.inl (IntKind.wrap .i64 (vx2 + 1)))))
    (some (.inr (.inl ())))

noncomputable def base_Key (qs : List UInt8) : Option (Bool) :=
  (base_Key_x1 qs).bind fun vx1 =>
  cond (vx1)
    (some false)
    ((loopO (base_Key_x2 qs) 0).bind fun x => match x with
      | .inl _ =>
        some true
      | .inr _ =>
        some false)

/-! ### beaconfleet/base.Out -/
noncomputable def base_Out_x1 (qn : Int) (qlow : Int) (qhigh : Int) : Option (Bool) :=
  cond (decide (qn < qlow))
    (some true)
    (some (decide (qhigh < qn)))

noncomputable def base_Out (qn : Int) (qlow : Int) (qhigh : Int) : Option (Bool) :=
  (base_Out_x1 qn qlow qhigh).bind fun vx1 =>
  some vx1

/-! ### beaconfleet/base.Moment -/
noncomputable def base_Moment (qn : Int) : Option (Bool) :=
  (base_Out qn 0 345686399999).bind fun vr =>
  some (!vr)

/-! ### internal/bytealg.CompareString -/
noncomputable def bytealg_CompareString (qa : List UInt8) (qb : List UInt8) : Option (Unit) :=
  some ()

/-! ### strings.Compare -/
noncomputable def strings_Compare (qa : List UInt8) (qb : List UInt8) : Option (Unit) :=
  (bytealg_CompareString qa qb).bind fun _ =>
  some ()

/-! ### cmp.isNaN[int] -/
noncomputable def cmp_isNaN_int (qx : Int) : Option (Unit) :=
  some ()

/-! ### cmp.Compare[int] -/
noncomputable def cmp_Compare_int (qx : Int) (qy : Int) : Option (Int) :=
  (cmp_isNaN_int qx).bind fun _ =>
  (cmp_isNaN_int qy).bind fun _ =>
  cond (!decide (qx = qx))
    (cond (!decide (qy = qy))
      (some 0)
      (some (-1)))
    (cond (!decide (qy = qy))
      (some 1)
      (cond (decide (qx < qy))
        (some (-1))
        (cond (decide (qy < qx))
          (some 1)
          (some 0))))

/-! ### cmp.Or[int] -/
noncomputable def cmp_Or_int_x1 (qvals : List Int) (vx : Int) : Option ((Int) ⊕ (Unit ⊕ Int)) :=
  cond (decide (vx < (qvals.length : Int)))
    ((at? qvals vx).bind fun vy1 =>
    cond (!decide (vy1 = 0))
      (some (.inr (.inr vy1)))
      (some (.inl (IntKind.wrap .i64 (vx + 1)))))
    (some (.inr (.inl ())))

noncomputable def cmp_Or_int (qvals : List Int) : Option (Int) :=
  (loopO (cmp_Or_int_x1 qvals) 0).bind fun x => match x with
    | .inl _ =>
      some 0
    | .inr vx1_1 =>
      some vx1_1

/-! ### beaconfleet/series.byDevice -/
noncomputable def series_byDevice (qa : api_Sample) (qb : api_Sample) : Option (Int) :=
  (strings_Compare qa.Device qb.Device).bind fun _ =>
  (strings_Compare qa.Metric qb.Metric).bind fun _ =>
  (cmp_Compare_int qa.At qb.At).bind fun vr =>
  (cmp_Or_int ([Lib.compareBytes qa.Device qb.Device, Lib.compareBytes qa.Metric qb.Metric, vr] : List Int)).bind fun vr1 =>
  some vr1

/-! ### beaconfleet/series.Check -/
noncomputable def series_Check_x2 (vy2 : api_Sample) : Option (Bool) :=
  (base_Key vy2.Device).bind fun vr3 =>
  cond (!vr3)
    (some true)
    ((base_Key vy2.Metric).bind fun vr4 =>
    some (!vr4))

noncomputable def series_Check_x3 (vy2 : api_Sample) : Option (Bool) :=
  (base_Moment vy2.At).bind fun vr1_2 =>
  cond (!vr1_2)
    (some true)
    ((base_Out vy2.Value (-1000000000) 1000000000).bind fun vr5 =>
    some vr5)

noncomputable def series_Check_x4 (ql : List api_Sample) (vx : Int) (vy2 : api_Sample) : Option (Bool) :=
  cond (decide (0 < vx))
    ((at? ql (IntKind.wrap .i64 (vx - 1))).bind fun vy3 =>
    (series_byDevice vy2 vy3).bind fun vr2_2 =>
    some (decide (vr2_2 ≤ 0)))
    (some false)

noncomputable def series_Check_x1 (ql : List api_Sample) (vx : Int) : Option ((Int) ⊕ (Unit ⊕ Int)) :=
  cond (decide (vx < (ql.length : Int)))
    ((at? ql vx).bind fun vy2 =>
    (series_Check_x2 vy2).bind fun vx4_1 =>
    cond (vx4_1)
      (some (.inr (.inr 5)))
      ((series_Check_x3 vy2).bind fun vx5_1 =>
      cond (vx5_1)
        (some (.inr (.inr 1)))
        ((series_Check_x4 ql vx vy2).bind fun vx6_1 =>
        cond (vx6_1)
          (some (.inr (.inr 7)))
          (some (.inl (IntKind.wrap .i64 (vx + 1)))))))
    (some (.inr (.inl ())))

noncomputable def series_Check (ql : List api_Sample) : Option (Int) :=
  cond (decide (5000 < (ql.length : Int)))
    (some 2)
    ((loopO (series_Check_x1 ql) 0).bind fun x => match x with
      | .inl _ =>
        some 0
      | .inr vx7_1 =>
        some vx7_1)

/-! ### beaconfleet/series.CheckSeries$1 -/
noncomputable def series_CheckSeries_1_x1 (qs : api_Sample) (qx : List api_Sample) : Option (Bool) :=
  (at? qx 0).bind fun vy =>
  cond (!decide (qs.Device = vy.Device))
    (some true)
    (some (!decide (qs.Metric = vy.Metric)))

noncomputable def series_CheckSeries_1 (qs : api_Sample) (qx : List api_Sample) : Option (Bool) :=
  (series_CheckSeries_1_x1 qs qx).bind fun vx1 =>
  some vx1

/-! ### slices.IndexFunc[[]beaconfleet/api.Sample,beaconfleet/api.Sample] -/
noncomputable def slices_IndexFunc_api_Sample_api_Sample_f1_series_CheckSeries_1_x1 (qs : List api_Sample) (vx : Int) : Option ((Int) ⊕ (Unit ⊕ Int)) :=
  cond (decide (vx < (qs.length : Int)))
    ((at? qs vx).bind fun vy1 =>
    (series_CheckSeries_1 vy1 qs).bind fun vr1 =>
    cond (vr1)
      (some (.inr (.inr vx)))
      (some (.inl (IntKind.wrap .i64 (vx + 1)))))
    (some (.inr (.inl ())))

noncomputable def slices_IndexFunc_api_Sample_api_Sample_f1_series_CheckSeries_1 (qs : List api_Sample) : Option (Int) :=
  (loopO (slices_IndexFunc_api_Sample_api_Sample_f1_series_CheckSeries_1_x1 qs) 0).bind fun x => match x with
    | .inl _ =>
      some (-1)
    | .inr vx1_1 =>
      some vx1_1

/-! ### slices.ContainsFunc[[]beaconfleet/api.Sample,beaconfleet/api.Sample] -/
noncomputable def slices_ContainsFunc_api_Sample_api_Sample_f1_series_CheckSeries_1 (qs : List api_Sample) : Option (Bool) :=
  (slices_IndexFunc_api_Sample_api_Sample_f1_series_CheckSeries_1 qs).bind fun vr2 =>
  some (decide (0 ≤ vr2))

/-! ### beaconfleet/series.CheckSeries -/
noncomputable def series_CheckSeries (ql : List api_Sample) : Option (Int) :=
  (series_Check ql).bind fun vr6 =>
  cond (!decide (vr6 = 0))
    (some vr6)
    ((slices_ContainsFunc_api_Sample_api_Sample_f1_series_CheckSeries_1 ql).bind fun vr =>
    cond (vr)
      (some 13)
      (some 0))

/-! ### beaconfleet/series.seven -/
noncomputable def series_seven_n0_x1 : (List Int) × Int → Option (((List Int) × Int) ⊕ (((List Int) × Int)))
  | (vb, vn) =>
  cond (decide (128 ≤ vn))
    (gd (Nat.ble (vb.length + ([ibits .or .u8 (IntKind.wrap .u8 (ibits .and .u64 vn 127)) 128] : List Int).length) LIM) <|
    some (.inl (vb ++ ([ibits .or .u8 (IntKind.wrap .u8 (ibits .and .u64 vn 127)) 128] : List Int), ishr .u64 vn 7)))
    (some (.inr (vb, vn)))

noncomputable def series_seven_n0 (qn : Int) : Option ((List Int)) :=
  (loopO series_seven_n0_x1 ([], qn)).bind fun (vb1_1, vn1_1) =>
  gd (Nat.ble (vb1_1.length + ([IntKind.wrap .u8 (vn1_1)] : List Int).length) LIM) <|
  some (vb1_1 ++ ([IntKind.wrap .u8 (vn1_1)] : List Int))

/-! ### beaconfleet/series.doubled -/
noncomputable def series_doubled (qn : Int) : Option (Int) :=
  cond (decide (qn < 0))
    (some (IntKind.wrap .u64 (IntKind.wrap .i64 ((IntKind.wrap .i64 (((-2) : Int) * qn)) - 1))))
    (some (IntKind.wrap .u64 (IntKind.wrap .i64 ((2 : Int) * qn))))

/-! ### beaconfleet/series.seven -/
noncomputable def series_seven_o0_x1 : (List Int) × Int → Option (((List Int) × Int) ⊕ (((List Int) × Int)))
  | (vb, vn) =>
  cond (decide (128 ≤ vn))
    (gd (Nat.ble (vb.length + ([ibits .or .u8 (IntKind.wrap .u8 (ibits .and .u64 vn 127)) 128] : List Int).length) LIM) <|
    some (.inl (vb ++ ([ibits .or .u8 (IntKind.wrap .u8 (ibits .and .u64 vn 127)) 128] : List Int), ishr .u64 vn 7)))
    (some (.inr (vb, vn)))

noncomputable def series_seven_o0 (qb : List Int) (qn : Int) : Option ((List Int)) :=
  (loopO series_seven_o0_x1 (qb, qn)).bind fun (vb1_1, vn1_1) =>
  gd (Nat.ble (vb1_1.length + ([IntKind.wrap .u8 (vn1_1)] : List Int).length) LIM) <|
  some (vb1_1 ++ ([IntKind.wrap .u8 (vn1_1)] : List Int))

/-! ### beaconfleet/series.pack -/
noncomputable def series_pack_x2 (vat : Int) (vby : Int) (vx : Int) (vy1 : api_Sample) : Option (Int) :=
  cond (decide (0 < vx))
    (some (IntKind.wrap .i64 (vy1.At - vat)))
    (some vby)

noncomputable def series_pack_x1 (ql : List api_Sample) : (List Int) × Int × Int × Int × Int → Option (((List Int) × Int × Int × Int × Int) ⊕ ((List Int)))
  | (vout, vat, vby, vvalue, vx) =>
  cond (decide (vx < (ql.length : Int)))
    ((at? ql vx).bind fun vy1 =>
    (series_doubled (IntKind.wrap .i64 ((IntKind.wrap .i64 (vy1.At - vat)) - vby))).bind fun vr5 =>
    (series_seven_o0 vout vr5).bind fun vr6 =>
    (series_doubled (IntKind.wrap .i64 (vy1.Value - vvalue))).bind fun vr7 =>
    (series_seven_o0 vr6 vr7).bind fun vr8 =>
    (series_pack_x2 vat vby vx vy1).bind fun vby2_1 =>
    some (.inl (vr8, vy1.At, vby2_1, vy1.Value, IntKind.wrap .i64 (vx + 1))))
    (some (.inr vout))

noncomputable def series_pack (ql : List api_Sample) : Option ((List Int)) :=
  (series_seven_n0 (IntKind.wrap .u64 ((ql.length : Int)))).bind fun vr =>
  (loopO (series_pack_x1 ql) (vr, 0, 0, 0, 0)).bind fun vout1_1 =>
  some vout1_1

/-! ### beaconfleet/series.Pack -/
noncomputable def series_Pack (ql : List api_Sample) : Option ((List Int) × Int) :=
  (series_CheckSeries ql).bind fun vr1 =>
  cond (!decide (vr1 = 0))
    (some ([], vr1))
    ((series_pack ql).bind fun vr9 =>
    some (vr9, 0))

/-! ### beaconfleet/series.unseven -/
noncomputable def series_unseven_x1 (qb : List Int) : Int × Int → Option ((Int × Int) ⊕ (Unit ⊕ (Int × (List Int) × Bool)))
  | (vn, vx) =>
  cond (decide (vx < (qb.length : Int)))
    ((at? qb vx).bind fun vy1 =>
    cond (decide (vx = 9))
      (some (.inr (.inr (0, [], false))))
      (gd (decide (0 ≤ (IntKind.wrap .i64 ((7 : Int) * vx)))) <|
      cond (decide (vy1 < 128))
        ((sub? qb (IntKind.wrap .i64 (vx + 1)) (qb.length : Int)).bind fun vl1 =>
        some (.inr (.inr (ibits .or .u64 vn (ishl .u64 (IntKind.wrap .u64 (ibits .and .u8 vy1 127)) (IntKind.wrap .i64 ((7 : Int) * vx))), vl1, true))))
        (some (.inl (ibits .or .u64 vn (ishl .u64 (IntKind.wrap .u64 (ibits .and .u8 vy1 127)) (IntKind.wrap .i64 ((7 : Int) * vx))), IntKind.wrap .i64 (vx + 1))))))
    (some (.inr (.inl ())))

noncomputable def series_unseven (qb : List Int) : Option (Int × (List Int) × Bool) :=
  (loopO (series_unseven_x1 qb) (0, 0)).bind fun x => match x with
    | .inl _ =>
      some (0, [], false)
    | .inr (vn1_1, vrest1, vok1) =>
      some (vn1_1, vrest1, vok1)

/-! ### beaconfleet/series.halved -/
noncomputable def series_halved (qn : Int) : Option (Int) :=
  cond (decide ((qn.tmod 2) = 1))
    (some (IntKind.wrap .i64 ((IntKind.wrap .i64 (0 - (IntKind.wrap .i64 (IntKind.wrap .u64 (qn.tdiv 2))))) - 1)))
    (some (IntKind.wrap .i64 (IntKind.wrap .u64 (qn.tdiv 2))))

/-! ### slices.Equal[[]byte,byte] -/
noncomputable def slices_Equal_byte_byte_x1 (qs1 : List Int) (qs2 : List Int) (vx : Int) : Option ((Int) ⊕ (Unit ⊕ Unit)) :=
  cond (decide (vx < (qs1.length : Int)))
    ((at? qs1 vx).bind fun vy2 =>
    (at? qs2 vx).bind fun vy3 =>
    cond (!decide (vy2 = vy3))
      (some (.inr (.inr ())))
      (some (.inl (IntKind.wrap .i64 (vx + 1)))))
    (some (.inr (.inl ())))

noncomputable def slices_Equal_byte_byte (qs1 : List Int) (qs2 : List Int) : Option (Bool) :=
  cond (!decide ((qs1.length : Int) = (qs2.length : Int)))
    (some false)
    ((loopO (slices_Equal_byte_byte_x1 qs1 qs2) 0).bind fun x => match x with
      | .inl _ =>
        some true
      | .inr _ =>
        some false)

/-! ### beaconfleet/series.Unpack -/
noncomputable def series_Unpack_x1 (qx1 : List UInt8) (qx2 : List UInt8) : Option (Bool) :=
  (base_Key qx1).bind fun vr =>
  cond (!vr)
    (some true)
    ((base_Key qx2).bind fun vr1 =>
    some (!vr1))

noncomputable def series_Unpack_x2 (vr2 : Int) (vr2_1 : Bool) : Option (Bool) :=
  cond (!vr2_1)
    (some true)
    (some (decide (5000 < vr2)))

noncomputable def series_Unpack_x4 (vr1_5 : List Int) (vr2_4 : Bool) : Option (((List Int) × Bool × Int)) :=
  cond (vr2_4)
    ((series_unseven vr1_5).bind fun (vr9, vr1_6, vr2_5) =>
    some (vr1_6, vr2_5, vr9))
    (some (vr1_5, vr2_4, 0))

noncomputable def series_Unpack_x5 (vx5 : Int) (vx6 : Int) (vx7 : Int) (vr10 : Int) (vr11 : Int) : Option (Bool) :=
  (base_Out (IntKind.wrap .i64 (vx7 + vr11)) (-1000000000) 1000000000).bind fun vr12 =>
  cond (vr12)
    (some true)
    ((base_Moment (IntKind.wrap .i64 (vx5 + (IntKind.wrap .i64 (vx6 + vr10))))).bind fun vr1_7 =>
    some (!vr1_7))

noncomputable def series_Unpack_x6 (vx6 : Int) (vx8 : Int) (vr10 : Int) : Option (Int) :=
  cond (decide (0 < vx8))
    (some (IntKind.wrap .i64 (vx6 + vr10)))
    (some vx6)

noncomputable def series_Unpack_x3 (qx1 : List UInt8) (qx2 : List UInt8) (vr2 : Int) : (List Int) × (List api_Sample) × Int × Int × Int × Int → Option (((List Int) × (List api_Sample) × Int × Int × Int × Int) ⊕ ((List api_Sample) ⊕ Unit))
  | (vx3, vx4, vx5, vx6, vx7, vx8) =>
  cond (decide (vx8 < (IntKind.wrap .i64 (vr2))))
    ((series_unseven vx3).bind fun (vr8, vr1_5, vr2_4) =>
    (series_Unpack_x4 vr1_5 vr2_4).bind fun (vx14_1, vx15_1, vx16_1) =>
    cond (!vx15_1)
      (some (.inr (.inr ())))
      ((series_halved vr8).bind fun vr10 =>
      (series_halved vx16_1).bind fun vr11 =>
      (series_Unpack_x5 vx5 vx6 vx7 vr10 vr11).bind fun vx17_1 =>
      cond (vx17_1)
        (some (.inr (.inr ())))
        ((series_Unpack_x6 vx6 vx8 vr10).bind fun vx18_1 =>
        gd (Nat.ble (vx4.length + ([api_Sample.mk qx1 qx2 (IntKind.wrap .i64 (vx5 + (IntKind.wrap .i64 (vx6 + vr10)))) (IntKind.wrap .i64 (vx7 + vr11))] : List api_Sample).length) LIM) <|
        some (.inl (vx14_1, vx4 ++ ([api_Sample.mk qx1 qx2 (IntKind.wrap .i64 (vx5 + (IntKind.wrap .i64 (vx6 + vr10)))) (IntKind.wrap .i64 (vx7 + vr11))] : List api_Sample), IntKind.wrap .i64 (vx5 + (IntKind.wrap .i64 (vx6 + vr10))), vx18_1, IntKind.wrap .i64 (vx7 + vr11), IntKind.wrap .i64 (vx8 + 1))))))
    (some (.inr (.inl vx4)))

noncomputable def series_Unpack_x7 (qx : List Int) (vx19_1 : List api_Sample) : Option (Bool) :=
  (series_CheckSeries vx19_1).bind fun vr1_8 =>
  cond (!decide (vr1_8 = 0))
    (some true)
    ((series_pack vx19_1).bind fun vr9_1 =>
    (slices_Equal_byte_byte vr9_1 qx).bind fun vr13 =>
    some (!vr13))

noncomputable def series_Unpack (qx : List Int) (qx1 : List UInt8) (qx2 : List UInt8) : Option ((List api_Sample) × Int) :=
  (series_Unpack_x1 qx1 qx2).bind fun vx1 =>
  cond (vx1)
    (some ([], 5))
    (cond (decide (100000 < (qx.length : Int)))
      (some ([], 2))
      ((series_unseven qx).bind fun (vr2, vr1_1, vr2_1) =>
      (series_Unpack_x2 vr2 vr2_1).bind fun vx2_1 =>
      cond (vx2_1)
        (some ([], 9))
        ((loopO (series_Unpack_x3 qx1 qx2 vr2) (vr1_1, [], 0, 0, 0, 0)).bind fun x => match x with
          | .inl vx19_1 =>
            (series_Unpack_x7 qx vx19_1).bind fun vx20_1 =>
            cond (vx20_1)
              (some ([], 9))
              (some (vx19_1, 0))
          | .inr _ =>
            some ([], 9))))

/-! ### beaconfleet/fleetref2.in -/
noncomputable def fleetref2_in_x1 (qn : Int) (qlow : Int) (qhigh : Int) : Option (Bool) :=
  cond (decide (qlow ≤ qn))
    (some (decide (qn ≤ qhigh)))
    (some false)

noncomputable def fleetref2_in (qn : Int) (qlow : Int) (qhigh : Int) : Option (Bool) :=
  (fleetref2_in_x1 qn qlow qhigh).bind fun vx1 =>
  some vx1

/-! ### internal/stringslite.IndexByte -/
noncomputable def stringslite_IndexByte (qs : List UInt8) (qc : Int) : Option (Unit) :=
  some ()

/-! ### strings.IndexByte -/
noncomputable def strings_IndexByte (qs : List UInt8) (qc : Int) : Option (Unit) :=
  (stringslite_IndexByte qs qc).bind fun _ =>
  some ()

/-! ### beaconfleet/fleetref2.only -/
noncomputable def fleetref2_only_x1 (qs : List UInt8) (qsome : List UInt8) (vx : Int) : Option ((Int) ⊕ (Unit ⊕ Unit)) :=
  cond (decide (vx < (qs.length : Int)))
    ((at? qs vx).bind fun vc1 =>
    (strings_IndexByte qsome (vc1.toNat : Int)).bind fun _ =>
    cond (decide ((Lib.indexByte qsome (vc1.toNat : Int).toNat.toUInt8) < 0))
      (some (.inr (.inr ())))
      (some (.inl (IntKind.wrap .i64 (vx + 1)))))
    (some (.inr (.inl ())))

noncomputable def fleetref2_only (qs : List UInt8) (qsome : List UInt8) : Option (Bool) :=
  (loopO (fleetref2_only_x1 qs qsome) 0).bind fun x => match x with
    | .inl _ =>
      some true
    | .inr _ =>
      some false

/-! ### beaconfleet/fleetref2.Key -/
noncomputable def fleetref2_Key_x1 (qs : List UInt8) : Option (Bool) :=
  (fleetref2_in (qs.length : Int) 1 40).bind fun vr =>
  cond (vr)
    ((sub? qs 0 1).bind fun vs =>
    (fleetref2_only vs ([97, 98, 99, 100, 101, 102, 103, 104, 105, 106, 107, 108, 109, 110, 111, 112, 113, 114, 115, 116, 117, 118, 119, 120, 121, 122] : List UInt8)).bind fun vr1 =>
    cond (vr1)
      ((fleetref2_only qs ([97, 98, 99, 100, 101, 102, 103, 104, 105, 106, 107, 108, 109, 110, 111, 112, 113, 114, 115, 116, 117, 118, 119, 120, 121, 122, 48, 49, 50, 51, 52, 53, 54, 55, 56, 57, 45, 95] : List UInt8)).bind fun vr2 =>
      some vr2)
      (some false))
    (some false)

noncomputable def fleetref2_Key (qs : List UInt8) : Option (Bool) :=
  (fleetref2_Key_x1 qs).bind fun vx1 =>
  some vx1

/-! ### beaconfleet/fleetref2.Moment -/
noncomputable def fleetref2_Moment (qat : Int) : Option (Bool) :=
  (fleetref2_in qat 0 345686399999).bind fun vr =>
  some vr

/-! ### cmp.isNaN[string] -/
noncomputable def cmp_isNaN_string (qx : List UInt8) : Option (Unit) :=
  some ()

/-! ### cmp.Compare[string] -/
noncomputable def cmp_Compare_string (qx : List UInt8) (qy : List UInt8) : Option (Int) :=
  (cmp_isNaN_string qx).bind fun _ =>
  (cmp_isNaN_string qy).bind fun _ =>
  cond (!decide (qx = qx))
    (cond (!decide (qy = qy))
      (some 0)
      (some (-1)))
    (cond (!decide (qy = qy))
      (some 1)
      (cond (Op.bytesLess qx qy)
        (some (-1))
        (cond (!(Op.bytesLess qx qy || decide (qx = qy)))
          (some 1)
          (some 0))))

/-! ### slices.Compare[[]string,string] -/
noncomputable def slices_Compare_string_string_x1 (qs1 : List (List UInt8)) (qs2 : List (List UInt8)) (vx : Int) : Option ((Int) ⊕ (Unit ⊕ Int)) :=
  cond (decide (vx < (qs1.length : Int)))
    ((at? qs1 vx).bind fun vy2 =>
    cond (decide ((qs2.length : Int) ≤ vx))
      (some (.inr (.inr 1)))
      ((at? qs2 vx).bind fun vy3 =>
      (cmp_Compare_string vy2 vy3).bind fun vr1 =>
      cond (!decide (vr1 = 0))
        (some (.inr (.inr vr1)))
        (some (.inl (IntKind.wrap .i64 (vx + 1))))))
    (some (.inr (.inl ())))

noncomputable def slices_Compare_string_string (qs1 : List (List UInt8)) (qs2 : List (List UInt8)) : Option (Int) :=
  (loopO (slices_Compare_string_string_x1 qs1 qs2) 0).bind fun x => match x with
    | .inl _ =>
      cond (decide ((qs1.length : Int) < (qs2.length : Int)))
        (some (-1))
        (some 0)
    | .inr vx1_1 =>
      some vx1_1

/-! ### beaconfleet/fleetref2.sign -/
noncomputable def fleetref2_sign (qn : Int) : Option (Int) :=
  cond (decide (qn < 0))
    (some (-1))
    (cond (decide (0 < qn))
      (some 1)
      (some 0))

/-! ### beaconfleet/fleetref2.SampleOrder -/
noncomputable def fleetref2_SampleOrder (qa : api_Sample) (qb : api_Sample) : Option (Int) :=
  (slices_Compare_string_string ([qa.Device, qa.Metric] : List (List UInt8)) ([qb.Device, qb.Metric] : List (List UInt8))).bind fun vr2 =>
  cond (!decide (vr2 = 0))
    (some vr2)
    ((fleetref2_sign (IntKind.wrap .i64 (qa.At - qb.At))).bind fun vr =>
    some vr)

/-! ### beaconfleet/fleetref2.SamplesFault -/
noncomputable def fleetref2_SamplesFault_x2 (vy2 : api_Sample) : Option (Bool) :=
  (fleetref2_Key vy2.Device).bind fun vr3_2 =>
  cond (!vr3_2)
    (some true)
    ((fleetref2_Key vy2.Metric).bind fun vr3_3 =>
    some (!vr3_3))

noncomputable def fleetref2_SamplesFault_x3 (vy2 : api_Sample) : Option (Bool) :=
  (fleetref2_Moment vy2.At).bind fun vr1_2 =>
  cond (!vr1_2)
    (some true)
    ((fleetref2_in vy2.Value (-1000000000) 1000000000).bind fun vr2 =>
    some (!vr2))

noncomputable def fleetref2_SamplesFault_x4 (ql : List api_Sample) (vx : Int) (vy2 : api_Sample) : Option (Bool) :=
  cond (decide (0 < vx))
    ((at? ql (IntKind.wrap .i64 (vx - 1))).bind fun vy3 =>
    (fleetref2_SampleOrder vy3 vy2).bind fun vr1_3 =>
    some (decide (0 ≤ vr1_3)))
    (some false)

noncomputable def fleetref2_SamplesFault_x1 (ql : List api_Sample) (vx : Int) : Option ((Int) ⊕ (Unit ⊕ Int)) :=
  cond (decide (vx < (ql.length : Int)))
    ((at? ql vx).bind fun vy2 =>
    (fleetref2_SamplesFault_x2 vy2).bind fun vx4_1 =>
    cond (vx4_1)
      (some (.inr (.inr 5)))
      ((fleetref2_SamplesFault_x3 vy2).bind fun vx5_1 =>
      cond (vx5_1)
        (some (.inr (.inr 1)))
        ((fleetref2_SamplesFault_x4 ql vx vy2).bind fun vx6_1 =>
        cond (vx6_1)
          (some (.inr (.inr 7)))
          (some (.inl (IntKind.wrap .i64 (vx + 1)))))))
    (some (.inr (.inl ())))

noncomputable def fleetref2_SamplesFault (ql : List api_Sample) : Option (Int) :=
  cond (decide (5000 < (ql.length : Int)))
    (some 2)
    ((loopO (fleetref2_SamplesFault_x1 ql) 0).bind fun x => match x with
      | .inl _ =>
        some 0
      | .inr vx7_1 =>
        some vx7_1)

/-! ### beaconfleet/fleetref2.SeriesFault$1 -/
noncomputable def fleetref2_SeriesFault_1_x1 (qs : api_Sample) (qx : List api_Sample) : Option (Bool) :=
  (at? qx 0).bind fun vy =>
  cond (!decide (qs.Device = vy.Device))
    (some true)
    (some (!decide (qs.Metric = vy.Metric)))

noncomputable def fleetref2_SeriesFault_1 (qs : api_Sample) (qx : List api_Sample) : Option (Bool) :=
  (fleetref2_SeriesFault_1_x1 qs qx).bind fun vx1 =>
  some vx1

/-! ### slices.IndexFunc[[]beaconfleet/api.Sample,beaconfleet/api.Sample] -/
noncomputable def slices_IndexFunc_api_Sample_api_Sample_f1_fleetref2_SeriesFault_1_x1 (qs : List api_Sample) (vx : Int) : Option ((Int) ⊕ (Unit ⊕ Int)) :=
  cond (decide (vx < (qs.length : Int)))
    ((at? qs vx).bind fun vy1 =>
    (fleetref2_SeriesFault_1 vy1 qs).bind fun vr1 =>
    cond (vr1)
      (some (.inr (.inr vx)))
      (some (.inl (IntKind.wrap .i64 (vx + 1)))))
    (some (.inr (.inl ())))

noncomputable def slices_IndexFunc_api_Sample_api_Sample_f1_fleetref2_SeriesFault_1 (qs : List api_Sample) : Option (Int) :=
  (loopO (slices_IndexFunc_api_Sample_api_Sample_f1_fleetref2_SeriesFault_1_x1 qs) 0).bind fun x => match x with
    | .inl _ =>
      some (-1)
    | .inr vx1_1 =>
      some vx1_1

/-! ### slices.ContainsFunc[[]beaconfleet/api.Sample,beaconfleet/api.Sample] -/
noncomputable def slices_ContainsFunc_api_Sample_api_Sample_f1_fleetref2_SeriesFault_1 (qs : List api_Sample) : Option (Bool) :=
  (slices_IndexFunc_api_Sample_api_Sample_f1_fleetref2_SeriesFault_1 qs).bind fun vr2 =>
  some (decide (0 ≤ vr2))

/-! ### beaconfleet/fleetref2.SeriesFault -/
noncomputable def fleetref2_SeriesFault (ql : List api_Sample) : Option (Int) :=
  (fleetref2_SamplesFault ql).bind fun vr4 =>
  cond (!decide (vr4 = 0))
    (some vr4)
    ((slices_ContainsFunc_api_Sample_api_Sample_f1_fleetref2_SeriesFault_1 ql).bind fun vr =>
    cond (vr)
      (some 13)
      (some 0))

/-! ### beaconfleet/fleetlaw2.when -/
noncomputable def fleetlaw2_when (qis : Bool) (qe : Int) : Option (Int) :=
  cond (qis)
    (some qe)
    (some 0)

/-! ### beaconfleet/fleetlaw2.errs -/
noncomputable def fleetlaw2_errs_x1 (ql : List Int) (vx : Int) : Option ((Int) ⊕ (Unit ⊕ Int)) :=
  cond (decide (vx < (ql.length : Int)))
    ((at? ql vx).bind fun vy1 =>
    cond (!decide (vy1 = 0))
      (some (.inr (.inr vy1)))
      (some (.inl (IntKind.wrap .i64 (vx + 1)))))
    (some (.inr (.inl ())))

noncomputable def fleetlaw2_errs (ql : List Int) : Option (Int) :=
  (loopO (fleetlaw2_errs_x1 ql) 0).bind fun x => match x with
    | .inl _ =>
      some 0
    | .inr vx1_1 =>
      some vx1_1

/-! ### beaconfleet/fleetref2.PackOf -/
noncomputable def fleetref2_PackOf_x2 (ql : List api_Sample) (vout : List Int) (vat : Int) (vgap : Int) (vvalue : Int) (vx : Int) : Option (((List Int) × Int × Int × Int)) :=
  (at? ql vx).bind fun vy1 =>
  (fleetref2_turned (IntKind.wrap .i64 ((IntKind.wrap .i64 (vy1.At - vat)) - vgap))).bind fun vr3 =>
  (fleetref2_sevens vr3).bind fun vr1_3 =>
  gd (Nat.ble (vout.length + vr1_3.length) LIM) <|
  (fleetref2_turned (IntKind.wrap .i64 (vy1.Value - vvalue))).bind fun vr4 =>
  (fleetref2_sevens vr4).bind fun vr1_4 =>
  gd (Nat.ble ((vout ++ vr1_3).length + vr1_4.length) LIM) <|
  cond (decide (vx = 0))
    (some ((vout ++ vr1_3) ++ vr1_4, vy1.At, 0, vy1.Value))
    (some ((vout ++ vr1_3) ++ vr1_4, vy1.At, IntKind.wrap .i64 (vy1.At - vat), vy1.Value))

noncomputable def fleetref2_PackOf_x1 (ql : List api_Sample) : (List Int) × Int × Int × Int × Int → Option (((List Int) × Int × Int × Int × Int) ⊕ ((List Int)))
  | (vout, vat, vgap, vvalue, vx) =>
  cond (decide (vx < (ql.length : Int)))
    ((fleetref2_PackOf_x2 ql vout vat vgap vvalue vx).bind fun (vout2_1, vat2_1, vgap2_1, vvalue2_1) =>
    some (.inl (vout2_1, vat2_1, vgap2_1, vvalue2_1, IntKind.wrap .i64 (vx + 1))))
    (some (.inr vout))

noncomputable def fleetref2_PackOf (ql : List api_Sample) : Option ((List Int)) :=
  (fleetref2_sevens (ql.length : Int)).bind fun vr1 =>
  (loopO (fleetref2_PackOf_x1 ql) (vr1, 0, 0, 0, 0)).bind fun vout3_1 =>
  some vout3_1

/-! ### beaconfleet/fleetref2.takeSeven -/
noncomputable def fleetref2_takeSeven_x1 (qb : List Int) : Int × Int → Option ((Int × Int) ⊕ (Unit ⊕ (Int × (List Int) × Bool)))
  | (vn, vx) =>
  cond (decide (vx < (qb.length : Int)))
    ((at? qb vx).bind fun vy1 =>
    cond (decide (7 < vx))
      (some (.inr (.inr (0, [], false))))
      (gd (decide (0 ≤ (IntKind.wrap .i64 ((7 : Int) * vx)))) <|
      cond (decide (vy1 < 128))
        ((sub? qb (IntKind.wrap .i64 (vx + 1)) (qb.length : Int)).bind fun vl1 =>
        some (.inr (.inr (IntKind.wrap .i64 (vn + (ishl .i64 (IntKind.wrap .i64 (ibits .and .u8 vy1 127)) (IntKind.wrap .i64 ((7 : Int) * vx)))), vl1, true))))
        (some (.inl (IntKind.wrap .i64 (vn + (ishl .i64 (IntKind.wrap .i64 (ibits .and .u8 vy1 127)) (IntKind.wrap .i64 ((7 : Int) * vx)))), IntKind.wrap .i64 (vx + 1))))))
    (some (.inr (.inl ())))

noncomputable def fleetref2_takeSeven (qb : List Int) : Option (Int × (List Int) × Bool) :=
  (loopO (fleetref2_takeSeven_x1 qb) (0, 0)).bind fun x => match x with
    | .inl _ =>
      some (0, [], false)
    | .inr (vx1_1, vx2_1, vx3_1) =>
      some (vx1_1, vx2_1, vx3_1)

/-! ### beaconfleet/fleetref2.back -/
noncomputable def fleetref2_back (qn : Int) : Option (Int) :=
  cond (decide ((qn.tmod 2) = 1))
    (some (IntKind.wrap .i64 ((IntKind.wrap .i64 (0 - (IntKind.wrap .i64 (qn + 1)))).tdiv 2)))
    (some (IntKind.wrap .i64 (qn.tdiv 2)))

/-! ### beaconfleet/fleetref2.UnpackOf -/
noncomputable def fleetref2_UnpackOf_x2 (vr : Int) (vx1 : Bool) (vx6 : Int) : Option (Bool) :=
  cond (vx1)
    (cond (decide (vx6 < vr))
      (some (decide (vx6 ≤ 5000)))
      (some false))
    (some false)

noncomputable def fleetref2_UnpackOf_x4 (vx4 : Int) (vx6 : Int) (vr10 : Int) : Option (Int) :=
  cond (decide (vx6 = 0))
    (some 0)
    (some (IntKind.wrap .i64 (vr10 + vx4)))

noncomputable def fleetref2_UnpackOf_x3 (qx1 : List UInt8) (qx2 : List UInt8) (vx : List Int) (vx2 : List api_Sample) (vx3 : Int) (vx4 : Int) (vx5 : Int) (vx6 : Int) : Option (((List Int) × Bool × (List api_Sample) × Int × Int × Int) ⊕ Bool) :=
  (fleetref2_takeSeven vx).bind fun (vr8, vr1_4, vr2_3) =>
  cond (!vr2_3)
    (some (.inr vr2_3))
    ((fleetref2_takeSeven vr1_4).bind fun (vr9, vr1_5, vr2_4) =>
    cond (!vr2_4)
      (some (.inr vr2_4))
      ((fleetref2_back vr8).bind fun vr10 =>
      (fleetref2_back vr9).bind fun vr11 =>
      (fleetref2_UnpackOf_x4 vx4 vx6 vr10).bind fun vx17_1 =>
      gd (Nat.ble (vx2.length + ([api_Sample.mk qx1 qx2 (IntKind.wrap .i64 (vx3 + (IntKind.wrap .i64 (vr10 + vx4)))) (IntKind.wrap .i64 (vx5 + vr11))] : List api_Sample).length) LIM) <|
      (fleetref2_Moment (IntKind.wrap .i64 (vx3 + (IntKind.wrap .i64 (vr10 + vx4))))).bind fun vr1_6 =>
      cond (vr1_6)
        ((fleetref2_in (IntKind.wrap .i64 (vx5 + vr11)) (-1000000000) 1000000000).bind fun vr12 =>
        some (.inl (vr1_5, vr12, vx2 ++ ([api_Sample.mk qx1 qx2 (IntKind.wrap .i64 (vx3 + (IntKind.wrap .i64 (vr10 + vx4)))) (IntKind.wrap .i64 (vx5 + vr11))] : List api_Sample), IntKind.wrap .i64 (vx3 + (IntKind.wrap .i64 (vr10 + vx4))), vx17_1, IntKind.wrap .i64 (vx5 + vr11))))
        (some (.inl (vr1_5, false, vx2 ++ ([api_Sample.mk qx1 qx2 (IntKind.wrap .i64 (vx3 + (IntKind.wrap .i64 (vr10 + vx4)))) (IntKind.wrap .i64 (vx5 + vr11))] : List api_Sample), IntKind.wrap .i64 (vx3 + (IntKind.wrap .i64 (vr10 + vx4))), vx17_1, IntKind.wrap .i64 (vx5 + vr11))))))

noncomputable def fleetref2_UnpackOf_x1 (qx1 : List UInt8) (qx2 : List UInt8) (vr : Int) : (List Int) × Bool × (List api_Sample) × Int × Int × Int × Int → Option (((List Int) × Bool × (List api_Sample) × Int × Int × Int × Int) ⊕ ((Bool × (List api_Sample))))
  | (vx, vx1, vx2, vx3, vx4, vx5, vx6) =>
  (fleetref2_UnpackOf_x2 vr vx1 vx6).bind fun vx16_1 =>
  cond (vx16_1)
    ((fleetref2_UnpackOf_x3 qx1 qx2 vx vx2 vx3 vx4 vx5 vx6).bind fun x => match x with
      | .inl (vx18_1, vx19_1, vx20_1, vx21_1, vx22_1, vx23_1) =>
        some (.inl (vx18_1, vx19_1, vx20_1, vx21_1, vx22_1, vx23_1, IntKind.wrap .i64 (vx6 + 1)))
      | .inr vx24_1 =>
        some (.inr (vx24_1, vx2)))
    (some (.inr (vx1, vx2)))

noncomputable def fleetref2_UnpackOf_x5 (qx : List Int) (vx25_1 : Bool) (vx26_1 : List api_Sample) : Option (Bool) :=
  cond (!vx25_1)
    (some true)
    ((fleetref2_SeriesFault vx26_1).bind fun vr1_7 =>
    cond (!decide (vr1_7 = 0))
      (some true)
      ((fleetref2_PackOf vx26_1).bind fun vr5_1 =>
      (slices_Equal_byte_byte vr5_1 qx).bind fun vr13 =>
      some (!vr13)))

noncomputable def fleetref2_UnpackOf (qx : List Int) (qx1 : List UInt8) (qx2 : List UInt8) : Option ((List api_Sample) × Int) :=
  (fleetref2_takeSeven qx).bind fun (vr, vr1, vr2) =>
  (loopO (fleetref2_UnpackOf_x1 qx1 qx2 vr) (vr1, vr2, [], 0, 0, 0, 0)).bind fun (vx25_1, vx26_1) =>
  (fleetref2_UnpackOf_x5 qx vx25_1 vx26_1).bind fun vx27_1 =>
  cond (vx27_1)
    (some ([], 9))
    (some (vx26_1, 0))

/-! ### slices.Equal[[]beaconfleet/api.Sample,beaconfleet/api.Sample] -/
noncomputable def slices_Equal_api_Sample_api_Sample_x1 (qs1 : List api_Sample) (qs2 : List api_Sample) (vx : Int) : Option ((Int) ⊕ (Unit ⊕ Unit)) :=
  cond (decide (vx < (qs1.length : Int)))
    ((at? qs1 vx).bind fun vy2 =>
    (at? qs2 vx).bind fun vy3 =>
    cond (!(decide (vy2.Device = vy3.Device) && (decide (vy2.Metric = vy3.Metric) && (decide (vy2.At = vy3.At) && (decide (vy2.Value = vy3.Value) && true)))))
      (some (.inr (.inr ())))
      (some (.inl (IntKind.wrap .i64 (vx + 1)))))
    (some (.inr (.inl ())))

noncomputable def slices_Equal_api_Sample_api_Sample (qs1 : List api_Sample) (qs2 : List api_Sample) : Option (Bool) :=
  cond (!decide ((qs1.length : Int) = (qs2.length : Int)))
    (some false)
    ((loopO (slices_Equal_api_Sample_api_Sample_x1 qs1 qs2) 0).bind fun x => match x with
      | .inl _ =>
        some true
      | .inr _ =>
        some false)

/-! ### beaconfleet/series.Pack -/
noncomputable def series_Pack_o0 (ql : List api_Sample) : Option ((List Int) × Int) :=
  (series_CheckSeries ql).bind fun vr1 =>
  cond (!decide (vr1 = 0))
    (some ([], vr1))
    ((series_pack ql).bind fun vr9 =>
    some (vr9, 0))

/-! ### beaconfleet/fleetlaw2.measured -/
noncomputable def fleetlaw2_measured_x1 (vr : List Int) (vr2 : Int) : Option (Bool) :=
  cond (decide (vr2 = 0))
    ((slices_Equal_byte_byte vr ([1, 2, 2] : List Int)).bind fun vr1 =>
    some vr1)
    (some false)

noncomputable def fleetlaw2_measured : Option (Bool) :=
  (series_Pack_o0 ([api_Sample.mk ([100] : List UInt8) ([109] : List UInt8) 1 1] : List api_Sample)).bind fun (vr, vr2) =>
  (fleetlaw2_measured_x1 vr vr2).bind fun vx1 =>
  some vx1

/-! ### beaconfleet/fleetlaw2.SeriesPacked -/
noncomputable def fleetlaw2_SeriesPacked_x1 (vs4 : fleetmake_Stream) (vr4 : List Int) : Option ((List Int)) :=
  (fleetmake_Stream_Flip (fleetmake_Stream.mk vs4.L (IntKind.wrap .i64 ((IntKind.wrap .i64 (vs4.at_ + 1)) + 1))) 60).bind fun vr2 =>
  cond (vr2)
    (gd (decide (0 ≤ (100001 : Int)) && decide ((100001 : Int) ≤ (100001 : Int)) && decide ((100001 : Int) ≤ 137438953472)) <|
    some (List.replicate (100001 : Int).toNat (0 : Int)))
    (some vr4)

noncomputable def fleetlaw2_SeriesPacked_x2 (vr : List UInt8) (vr1 : List UInt8) (vx1 : List Int) : Option (Int) :=
  (fleetref2_Key vr).bind fun vr3_1 =>
  cond (!vr3_1)
    ((fleetlaw2_when true 5).bind fun vr5 =>
    (fleetlaw2_when (decide (100000 < (vx1.length : Int))) 2).bind fun vr6 =>
    (fleetlaw2_errs ([vr5, vr6] : List Int)).bind fun vr7 =>
    some vr7)
    ((fleetref2_Key vr1).bind fun vr3_2 =>
    (fleetlaw2_when (!vr3_2) 5).bind fun vr8 =>
    (fleetlaw2_when (decide (100000 < (vx1.length : Int))) 2).bind fun vr10 =>
    (fleetlaw2_errs ([vr8, vr10] : List Int)).bind fun vr11 =>
    some vr11)

noncomputable def fleetlaw2_SeriesPacked_x3 (vr9 : List api_Sample) (vr1_1 : Int) : Option ((List Int)) :=
  cond (decide (vr1_1 = 0))
    ((fleetref2_PackOf vr9).bind fun vr5_1 =>
    some vr5_1)
    (some [])

noncomputable def fleetlaw2_SeriesPacked_x4 (vr : List UInt8) (vr1 : List UInt8) (vx1 : List Int) (vx2_1 : Int) : Option ((Int × (List api_Sample))) :=
  cond (decide (vx2_1 = 0))
    ((fleetref2_UnpackOf vx1 vr vr1).bind fun (vr14_1, vr15_1) =>
    some (vr15_1, vr14_1))
    (some (vx2_1, []))

noncomputable def fleetlaw2_SeriesPacked_x5 (vr3 : List Int) (vr2_1 : Int) (vr14 : List api_Sample) (vr15 : Int) (vr1_1 : Int) (vx3_1 : List Int) (vx4_1 : Int) (vx5_1 : List api_Sample) : Option (Bool) :=
  cond (decide (vr2_1 = vr1_1))
    ((slices_Equal_byte_byte vr3 vx3_1).bind fun vr12 =>
    cond (vr12)
      (cond (decide (vr15 = vx4_1))
        ((slices_Equal_api_Sample_api_Sample vr14 vx5_1).bind fun vr13 =>
        cond (vr13)
          ((fleetlaw2_measured).bind fun vr3_3 =>
          some vr3_3)
          (some false))
        (some false))
      (some false))
    (some false)

noncomputable def fleetlaw2_SeriesPacked (qx : List Int) : Option (Bool) :=
  (fleetmake_Stream_Series (fleetmake_Stream.mk qx 0) 9).bind fun (vs6, vr9) =>
  (fleetmake_Stream_Packed vs6).bind fun (vs4, vr4) =>
  (fleetmake_Stream_Some_o1 vs4 ([([100] : List UInt8), ([100] : List UInt8), ([] : List UInt8), ([65] : List UInt8)] : List (List UInt8))).bind fun vr =>
  (fleetmake_Stream_Some_o1 (fleetmake_Stream.mk vs4.L (IntKind.wrap .i64 (vs4.at_ + 1))) ([([109] : List UInt8), ([109] : List UInt8), ([109] : List UInt8), ([] : List UInt8)] : List (List UInt8))).bind fun vr1 =>
  (fleetlaw2_SeriesPacked_x1 vs4 vr4).bind fun vx1 =>
  (series_Pack vr9).bind fun (vr3, vr2_1) =>
  (series_Unpack vx1 vr vr1).bind fun (vr14, vr15) =>
  (fleetref2_SeriesFault vr9).bind fun vr1_1 =>
  (fleetlaw2_SeriesPacked_x2 vr vr1 vx1).bind fun vx2_1 =>
  (fleetlaw2_SeriesPacked_x3 vr9 vr1_1).bind fun vx3_1 =>
  (fleetlaw2_SeriesPacked_x4 vr vr1 vx1 vx2_1).bind fun (vx4_1, vx5_1) =>
  (fleetlaw2_SeriesPacked_x5 vr3 vr2_1 vr14 vr15 vr1_1 vx3_1 vx4_1 vx5_1).bind fun vx6_1 =>
  some vx6_1

/-! ### (*beaconfleet/fleetmake.Stream).Frame -/
noncomputable def fleetmake_Stream_Frame_x2 (qs : fleetmake_Stream) (vr : Int) (vr1 : Int) : Option ((fleetmake_Stream × Bool)) :=
  cond (decide (vr1 < vr))
    ((fleetmake_Stream_Flip (fleetmake_Stream.mk qs.L (IntKind.wrap .i64 ((IntKind.wrap .i64 (qs.at_ + 1)) + 1))) 3).bind fun vr2 =>
    some (fleetmake_Stream.mk qs.L (IntKind.wrap .i64 ((IntKind.wrap .i64 ((IntKind.wrap .i64 (qs.at_ + 1)) + 1)) + 1)), !vr2))
    (some (fleetmake_Stream.mk qs.L (IntKind.wrap .i64 ((IntKind.wrap .i64 (qs.at_ + 1)) + 1)), false))

noncomputable def fleetmake_Stream_Frame_x1 (qs : fleetmake_Stream) (vr : Int) (vr1 : Int) : Option ((fleetmake_Stream × api_Window)) :=
  (fleetmake_Stream_Frame_x2 qs vr vr1).bind fun (vs1, vx1) =>
  cond (vx1)
    (some (vs1, api_Window.mk 0 vr1))
    (some (vs1, api_Window.mk vr vr1))

noncomputable def fleetmake_Stream_Frame_x3 (vs2_1 : fleetmake_Stream) (vw1 : api_Window) : Option ((fleetmake_Stream × api_Window)) :=
  (fleetmake_Stream_Flip vs2_1 15).bind fun vr3 =>
  cond (vr3)
    ((fleetmake_Stream_Odd (fleetmake_Stream.mk vs2_1.L (IntKind.wrap .i64 (vs2_1.at_ + 1))) 0 100).bind fun (vs1_1, vr3_1) =>
    (fleetmake_Stream_Odd vs1_1 0 1000).bind fun (vs1_2, vr3_2) =>
    some (vs1_2, api_Window.mk vr3_1 vr3_2))
    (some (fleetmake_Stream.mk vs2_1.L (IntKind.wrap .i64 (vs2_1.at_ + 1)), vw1))

noncomputable def fleetmake_Stream_Frame_x4 (vs3_1 : fleetmake_Stream) (vw2_1 : api_Window) : Option ((fleetmake_Stream × api_Window)) :=
  (fleetmake_Stream_Flip vs3_1 25).bind fun vr4 =>
  cond (vr4)
    ((fleetmake_Stream_Pick_o1 (fleetmake_Stream.mk vs3_1.L (IntKind.wrap .i64 (vs3_1.at_ + 1))) ([0, 5] : List Int)).bind fun vr5 =>
    (fleetmake_Stream_Pick_o1 (fleetmake_Stream.mk vs3_1.L (IntKind.wrap .i64 ((IntKind.wrap .i64 (vs3_1.at_ + 1)) + 1))) ([345686400000, 345686400001, 7776000000, 7862400000] : List Int)).bind fun vr6 =>
    some (fleetmake_Stream.mk vs3_1.L (IntKind.wrap .i64 ((IntKind.wrap .i64 ((IntKind.wrap .i64 (vs3_1.at_ + 1)) + 1)) + 1)), api_Window.mk vr5 vr6))
    (some (fleetmake_Stream.mk vs3_1.L (IntKind.wrap .i64 (vs3_1.at_ + 1)), vw2_1))

noncomputable def fleetmake_Stream_Frame (qs : fleetmake_Stream) : Option (fleetmake_Stream × api_Window) :=
  (fleetmake_Stream_Pick_o1 qs ([0, 0, 1, 5, 10, 50] : List Int)).bind fun vr =>
  (fleetmake_Stream_Pick_o1 (fleetmake_Stream.mk qs.L (IntKind.wrap .i64 (qs.at_ + 1))) ([10, 50, 100, 300, 3000] : List Int)).bind fun vr1 =>
  (fleetmake_Stream_Frame_x1 qs vr vr1).bind fun (vs2_1, vw1) =>
  (fleetmake_Stream_Frame_x3 vs2_1 vw1).bind fun (vs3_1, vw2_1) =>
  (fleetmake_Stream_Frame_x4 vs3_1 vw2_1).bind fun (vs4_1, vw3_1) =>
  some (vs4_1, vw3_1)

/-! ### beaconfleet/base.Window -/
noncomputable def base_Window_x1 (qw : api_Window) : Option (Bool) :=
  (base_Out qw.From 0 qw.To).bind fun vr =>
  cond (!vr)
    (some (decide (qw.To ≤ 345686400000)))
    (some false)

noncomputable def base_Window (qw : api_Window) : Option (Bool) :=
  (base_Window_x1 qw).bind fun vx1 =>
  some vx1

/-! ### beaconfleet/series.fault -/
noncomputable def series_fault_x2 (qw : api_Window) (vr1 : Int) : Option (Bool) :=
  cond (decide (vr1 = 0))
    ((base_Window qw).bind fun vr1_1 =>
    some (!vr1_1))
    (some false)

noncomputable def series_fault_x1 (qw : api_Window) (vr1 : Int) : Option (Int) :=
  (series_fault_x2 qw vr1).bind fun vx1 =>
  cond (vx1)
    (some 1)
    (some vr1)

noncomputable def series_fault (ql : List api_Sample) (qw : api_Window) : Option (Int) :=
  (series_CheckSeries ql).bind fun vr1 =>
  (series_fault_x1 qw vr1).bind fun ve1 =>
  some ve1

/-! ### beaconfleet/base.Down -/
noncomputable def base_Down_x1 (qa : Int) (qb : Int) : Option (Int) :=
  gd (!(qb == 0)) <|
  cond (decide ((qa.tmod qb) < 0))
    (some (IntKind.wrap .i64 ((IntKind.wrap .i64 (qa.tdiv qb)) - 1)))
    (some (IntKind.wrap .i64 (qa.tdiv qb)))

noncomputable def base_Down (qa : Int) (qb : Int) : Option (Int) :=
  gd (!(qb == 0)) <|
  (base_Down_x1 qa qb).bind fun vq1 =>
  some vq1

/-! ### beaconfleet/series.Fill -/
noncomputable def series_Fill_x1 (qx3 : Int) : Option (Bool) :=
  cond (!decide (qx3 = 1))
    (some (!decide (qx3 = 2)))
    (some false)

noncomputable def series_Fill_x5 (qx : List api_Sample) (vx4 : Int) (vx14 : Int) : Option (Bool) :=
  cond (decide ((IntKind.wrap .i64 (vx14 + 1)) < (qx.length : Int)))
    ((at? qx (IntKind.wrap .i64 (vx14 + 1))).bind fun vy6 =>
    some (decide (vy6.At ≤ vx4)))
    (some false)

noncomputable def series_Fill_x4 (qx : List api_Sample) (vx4 : Int) (vx14 : Int) : Option ((Int) ⊕ (Int)) :=
  (series_Fill_x5 qx vx4 vx14).bind fun vx16_1 =>
  cond (vx16_1)
    (some (.inl (IntKind.wrap .i64 (vx14 + 1))))
    (some (.inr vx14))

noncomputable def series_Fill_x7 (qx3 : Int) (vx4 : Int) (vy7 : api_Sample) : Option (Bool) :=
  cond (decide (qx3 = 2))
    (some (decide (vy7.At < vx4)))
    (some false)

noncomputable def series_Fill_x8 (qx : List api_Sample) (vx17_1 : Int) (vy7 : api_Sample) : Option (Bool) :=
  cond (decide ((IntKind.wrap .i64 (vx17_1 + 1)) = (qx.length : Int)))
    (some true)
    ((at? qx (IntKind.wrap .i64 (vx17_1 + 1))).bind fun vy8 =>
    some (decide (2592000000 < (IntKind.wrap .i64 (vy8.At - vy7.At)))))

noncomputable def series_Fill_x6 (qx : List api_Sample) (qx3 : Int) (vx4 : Int) (vx17_1 : Int) (vy7 : api_Sample) : Option (api_Sample ⊕ Unit) :=
  (series_Fill_x7 qx3 vx4 vy7).bind fun vx18_1 =>
  cond (vx18_1)
    ((series_Fill_x8 qx vx17_1 vy7).bind fun vx19_1 =>
    cond (vx19_1)
      (some (.inr ()))
      ((at? qx (IntKind.wrap .i64 (vx17_1 + 1))).bind fun vy9 =>
      (base_Down (IntKind.wrap .i64 ((IntKind.wrap .i64 (vy9.Value - vy7.Value)) * (IntKind.wrap .i64 (vx4 - vy7.At)))) (IntKind.wrap .i64 (vy9.At - vy7.At))).bind fun vr3 =>
      some (.inl (api_Sample.mk vy7.Device vy7.Metric vy7.At (IntKind.wrap .i64 (vy7.Value + vr3))))))
    (some (.inl vy7))

noncomputable def series_Fill_x3 (qx : List api_Sample) (qx3 : Int) (vx2 : List api_Sample) (vx3 : Int) (vx4 : Int) : Option (((List api_Sample) × Int)) :=
  (loopO (series_Fill_x4 qx vx4) vx3).bind fun vx17_1 =>
  cond (decide (vx17_1 < 0))
    (some (vx2, vx17_1))
    ((at? qx vx17_1).bind fun vy7 =>
    (series_Fill_x6 qx qx3 vx4 vx17_1 vy7).bind fun x => match x with
      | .inl vx20_1 =>
        gd (Nat.ble (vx2.length + ([api_Sample.mk vx20_1.Device vx20_1.Metric vx4 vx20_1.Value] : List api_Sample).length) LIM) <|
        some (vx2 ++ ([api_Sample.mk vx20_1.Device vx20_1.Metric vx4 vx20_1.Value] : List api_Sample), vx17_1)
      | .inr _ =>
        some (vx2, vx17_1))

noncomputable def series_Fill_x2 (qx : List api_Sample) (qx1 : api_Window) (qx2 : Int) (qx3 : Int) : (List api_Sample) × Int × Int → Option (((List api_Sample) × Int × Int) ⊕ ((List api_Sample)))
  | (vx2, vx3, vx4) =>
  cond (decide (vx4 < qx1.To))
    ((series_Fill_x3 qx qx3 vx2 vx3 vx4).bind fun (vx21_1, vx22_1) =>
    some (.inl (vx21_1, vx22_1, IntKind.wrap .i64 (vx4 + qx2))))
    (some (.inr vx2))

noncomputable def series_Fill (qx : List api_Sample) (qx1 : api_Window) (qx2 : Int) (qx3 : Int) : Option ((List api_Sample) × Int) :=
  (series_fault qx qx1).bind fun vr =>
  cond (!decide (vr = 0))
    (some ([], vr))
    ((base_Out qx2 1 345686400000).bind fun vr1 =>
    cond (vr1)
      (some ([], 1))
      ((series_Fill_x1 qx3).bind fun vx1 =>
      cond (vx1)
        (some ([], 4))
        (gd (!(qx2 == 0)) <|
        cond (decide (5000 < (IntKind.wrap .i64 ((IntKind.wrap .i64 ((IntKind.wrap .i64 ((IntKind.wrap .i64 (qx1.To - qx1.From)) + qx2)) - 1)).tdiv qx2))))
          (some ([], 2))
          ((loopO (series_Fill_x2 qx qx1 qx2 qx3) ([], (-1), qx1.From)).bind fun vx23_1 =>
          some (vx23_1, 0)))))

/-! ### beaconfleet/fleetref2.WindowFault -/
noncomputable def fleetref2_WindowFault_x1 (qw : api_Window) : Option (Bool) :=
  (fleetref2_in qw.From 0 qw.To).bind fun vr =>
  cond (!vr)
    (some true)
    (some (decide (345686400000 < qw.To)))

noncomputable def fleetref2_WindowFault (qw : api_Window) : Option (Int) :=
  (fleetref2_WindowFault_x1 qw).bind fun vx1 =>
  cond (vx1)
    (some 1)
    (some 0)

/-! ### beaconfleet/fleetref2.floor -/
noncomputable def fleetref2_floor (qa : Int) (qb : Int) : Option (Int) :=
  gd (!(qb == 0)) <|
  cond (decide ((qa.tmod qb) < 0))
    (some (IntKind.wrap .i64 ((IntKind.wrap .i64 (qa.tdiv qb)) - 1)))
    (some (IntKind.wrap .i64 (qa.tdiv qb)))

/-! ### beaconfleet/fleetref2.FillOf -/
noncomputable def fleetref2_FillOf_x5 (vx1 : Int) (vx19 : Int) (vx21 : Int) (vy5 : api_Sample) : Option (Int) :=
  cond (decide (vy5.At ≤ vx1))
    (some vx21)
    (some vx19)

noncomputable def fleetref2_FillOf_x6 (vx1 : Int) (vx20 : Int) (vy5 : api_Sample) : Option (Bool) :=
  cond (decide (vx1 ≤ vy5.At))
    (some (decide (vx20 < 0)))
    (some false)

noncomputable def fleetref2_FillOf_x4 (qx : List api_Sample) (vx1 : Int) (vx19 : Int) (vx20 : Int) (vx21 : Int) : Option ((Int × Int)) :=
  (at? qx vx21).bind fun vy5 =>
  (fleetref2_FillOf_x5 vx1 vx19 vx21 vy5).bind fun vx26_1 =>
  (fleetref2_FillOf_x6 vx1 vx20 vy5).bind fun vx27_1 =>
  cond (vx27_1)
    (some (vx26_1, vx21))
    (some (vx26_1, vx20))

noncomputable def fleetref2_FillOf_x3 (qx : List api_Sample) (vx1 : Int) : Int × Int × Int → Option ((Int × Int × Int) ⊕ ((Int × Int)))
  | (vx19, vx20, vx21) =>
  cond (decide (vx21 < (qx.length : Int)))
    ((fleetref2_FillOf_x4 qx vx1 vx19 vx20 vx21).bind fun (vx28_1, vx29_1) =>
    some (.inl (vx28_1, vx29_1, IntKind.wrap .i64 (vx21 + 1))))
    (some (.inr (vx19, vx20)))

noncomputable def fleetref2_FillOf_x7 (qx3 : Int) (vx30_1 : Int) (vx31_1 : Int) : Option (Bool) :=
  cond (decide (vx30_1 < 0))
    (some true)
    (cond (decide (qx3 = 2))
      (some (decide (vx31_1 < 0)))
      (some false))

noncomputable def fleetref2_FillOf_x9 (qx3 : Int) (vx30_1 : Int) (vx31_1 : Int) : Option (Bool) :=
  cond (decide (qx3 = 2))
    (some (!decide (vx31_1 = vx30_1)))
    (some false)

noncomputable def fleetref2_FillOf_x8 (qx : List api_Sample) (qx3 : Int) (vx1 : Int) (vx30_1 : Int) (vx31_1 : Int) (vy6 : api_Sample) : Option (api_Sample ⊕ Unit) :=
  (fleetref2_FillOf_x9 qx3 vx30_1 vx31_1).bind fun vx33_1 =>
  cond (vx33_1)
    ((at? qx vx31_1).bind fun vy7 =>
    cond (decide (2592000000 < (IntKind.wrap .i64 (vy7.At - vy6.At))))
      (some (.inr ()))
      ((fleetref2_floor (IntKind.wrap .i64 ((IntKind.wrap .i64 (vy7.Value - vy6.Value)) * (IntKind.wrap .i64 (vx1 - vy6.At)))) (IntKind.wrap .i64 (vy7.At - vy6.At))).bind fun vr1 =>
      some (.inl (api_Sample.mk vy6.Device vy6.Metric vy6.At (IntKind.wrap .i64 (vy6.Value + vr1))))))
    (some (.inl vy6))

noncomputable def fleetref2_FillOf_x2 (qx : List api_Sample) (qx3 : Int) (vx : List api_Sample) (vx1 : Int) : Option ((List api_Sample)) :=
  (loopO (fleetref2_FillOf_x3 qx vx1) ((-1), (-1), 0)).bind fun (vx30_1, vx31_1) =>
  (fleetref2_FillOf_x7 qx3 vx30_1 vx31_1).bind fun vx32_1 =>
  cond (vx32_1)
    (some vx)
    ((at? qx vx30_1).bind fun vy6 =>
    (fleetref2_FillOf_x8 qx qx3 vx1 vx30_1 vx31_1 vy6).bind fun x => match x with
      | .inl vx34_1 =>
        gd (Nat.ble (vx.length + ([api_Sample.mk vx34_1.Device vx34_1.Metric vx1 vx34_1.Value] : List api_Sample).length) LIM) <|
        some (vx ++ ([api_Sample.mk vx34_1.Device vx34_1.Metric vx1 vx34_1.Value] : List api_Sample))
      | .inr _ =>
        some vx)

noncomputable def fleetref2_FillOf_x1 (qx : List api_Sample) (qx1 : api_Window) (qx2 : Int) (qx3 : Int) : (List api_Sample) × Int → Option (((List api_Sample) × Int) ⊕ ((List api_Sample)))
  | (vx, vx1) =>
  cond (decide (vx1 < qx1.To))
    ((fleetref2_FillOf_x2 qx qx3 vx vx1).bind fun vx35_1 =>
    some (.inl (vx35_1, IntKind.wrap .i64 (vx1 + qx2))))
    (some (.inr vx))

noncomputable def fleetref2_FillOf (qx : List api_Sample) (qx1 : api_Window) (qx2 : Int) (qx3 : Int) : Option ((List api_Sample) × Int) :=
  gd (!(qx2 == 0)) <|
  cond (decide (5000 < (IntKind.wrap .i64 ((IntKind.wrap .i64 ((IntKind.wrap .i64 ((IntKind.wrap .i64 (qx1.To - qx1.From)) + qx2)) - 1)).tdiv qx2))))
    (some ([], 2))
    ((loopO (fleetref2_FillOf_x1 qx qx1 qx2 qx3) ([], qx1.From)).bind fun vx36_1 =>
    some (vx36_1, 0))

/-! ### beaconfleet/fleetlaw2.SeriesFilled -/
noncomputable def fleetlaw2_SeriesFilled_x2 (vs5 : fleetmake_Stream) (vr7 : api_Window) : Option (Bool) :=
  (fleetmake_Stream_Flip (fleetmake_Stream.mk vs5.L (IntKind.wrap .i64 ((IntKind.wrap .i64 (vs5.at_ + 1)) + 1))) 2).bind fun vr2 =>
  cond (vr2)
    (cond (decide (vr7.To ≤ 345686400000))
      (some (decide (400 < (IntKind.wrap .i64 (vr7.To - vr7.From)))))
      (some false))
    (some false)

noncomputable def fleetlaw2_SeriesFilled_x1 (vs5 : fleetmake_Stream) (vr7 : api_Window) (vr : Int) : Option (Int) :=
  (fleetlaw2_SeriesFilled_x2 vs5 vr7).bind fun vx1 =>
  cond (vx1)
    (some (imax vr 100))
    (some vr)

noncomputable def fleetlaw2_SeriesFilled_x3 (vr9 : List api_Sample) (vr7 : api_Window) (vr1 : Int) (vx2_1 : Int) : Option (Int) :=
  (fleetref2_SeriesFault vr9).bind fun vr1_1 =>
  (fleetref2_WindowFault vr7).bind fun vr1_2 =>
  cond (decide (vx2_1 < 1))
    ((fleetlaw2_when true 1).bind fun vr3 =>
    cond (!decide (vr1 = 1))
      ((fleetlaw2_when (!decide (vr1 = 2)) 4).bind fun vr6 =>
      (fleetlaw2_errs ([vr1_1, vr1_2, vr3, vr6] : List Int)).bind fun vr8 =>
      some vr8)
      ((fleetlaw2_when false 4).bind fun vr10 =>
      (fleetlaw2_errs ([vr1_1, vr1_2, vr3, vr10] : List Int)).bind fun vr11 =>
      some vr11))
    ((fleetlaw2_when (decide (345686400000 < vx2_1)) 1).bind fun vr12 =>
    cond (!decide (vr1 = 1))
      ((fleetlaw2_when (!decide (vr1 = 2)) 4).bind fun vr13 =>
      (fleetlaw2_errs ([vr1_1, vr1_2, vr12, vr13] : List Int)).bind fun vr14 =>
      some vr14)
      ((fleetlaw2_when false 4).bind fun vr15 =>
      (fleetlaw2_errs ([vr1_1, vr1_2, vr12, vr15] : List Int)).bind fun vr16 =>
      some vr16))

noncomputable def fleetlaw2_SeriesFilled_x4 (vr9 : List api_Sample) (vr7 : api_Window) (vr1 : Int) (vx2_1 : Int) (vx3_1 : Int) : Option ((Int × (List api_Sample))) :=
  cond (decide (vx3_1 = 0))
    ((fleetref2_FillOf vr9 vr7 vx2_1 vr1).bind fun (vr2_1, vr3_1) =>
    some (vr3_1, vr2_1))
    (some (vx3_1, []))

noncomputable def fleetlaw2_SeriesFilled_x5 (vr4 : List api_Sample) (vr5 : Int) (vx4_1 : Int) (vx5_1 : List api_Sample) : Option (Bool) :=
  cond (decide (vr5 = vx4_1))
    ((slices_Equal_api_Sample_api_Sample vr4 vx5_1).bind fun vr17 =>
    cond (vr17)
      ((fleetlaw2_measured).bind fun vr3_2 =>
      some vr3_2)
      (some false))
    (some false)

noncomputable def fleetlaw2_SeriesFilled (qx : List Int) : Option (Bool) :=
  (fleetmake_Stream_Series (fleetmake_Stream.mk qx 0) 9).bind fun (vs6, vr9) =>
  (fleetmake_Stream_Frame vs6).bind fun (vs5, vr7) =>
  (fleetmake_Stream_Pick_o1 vs5 ([1, 5, 10, 33, 100, 0, 345686400000, 345686400001] : List Int)).bind fun vr =>
  (fleetmake_Stream_Pick_o1 (fleetmake_Stream.mk vs5.L (IntKind.wrap .i64 (vs5.at_ + 1))) ([1, 1, 2, 2, 2, 0, 3] : List Int)).bind fun vr1 =>
  (fleetlaw2_SeriesFilled_x1 vs5 vr7 vr).bind fun vx2_1 =>
  (series_Fill vr9 vr7 vx2_1 vr1).bind fun (vr4, vr5) =>
  (fleetlaw2_SeriesFilled_x3 vr9 vr7 vr1 vx2_1).bind fun vx3_1 =>
  (fleetlaw2_SeriesFilled_x4 vr9 vr7 vr1 vx2_1 vx3_1).bind fun (vx4_1, vx5_1) =>
  (fleetlaw2_SeriesFilled_x5 vr4 vr5 vx4_1 vx5_1).bind fun vx6_1 =>
  some vx6_1

/-! ### beaconfleet/series.rises$1 -/
noncomputable def series_rises_1 (qs : api_Sample) : Option (Unit) :=
  some ()

/-! ### slices.IndexFunc[[]beaconfleet/api.Sample,beaconfleet/api.Sample] -/
noncomputable def slices_IndexFunc_api_Sample_api_Sample_f1_series_rises_1_x1 (qs : List api_Sample) (vx : Int) : Option ((Int) ⊕ (Unit ⊕ Int)) :=
  cond (decide (vx < (qs.length : Int)))
    ((at? qs vx).bind fun vy1 =>
    (series_rises_1 vy1).bind fun _ =>
    cond (decide (vy1.Value < 0))
      (some (.inr (.inr vx)))
      (some (.inl (IntKind.wrap .i64 (vx + 1)))))
    (some (.inr (.inl ())))

noncomputable def slices_IndexFunc_api_Sample_api_Sample_f1_series_rises_1 (qs : List api_Sample) : Option (Int) :=
  (loopO (slices_IndexFunc_api_Sample_api_Sample_f1_series_rises_1_x1 qs) 0).bind fun x => match x with
    | .inl _ =>
      some (-1)
    | .inr vx1_1 =>
      some vx1_1

/-! ### slices.ContainsFunc[[]beaconfleet/api.Sample,beaconfleet/api.Sample] -/
noncomputable def slices_ContainsFunc_api_Sample_api_Sample_f1_series_rises_1 (qs : List api_Sample) : Option (Bool) :=
  (slices_IndexFunc_api_Sample_api_Sample_f1_series_rises_1 qs).bind fun vr =>
  some (decide (0 ≤ vr))

/-! ### beaconfleet/series.rises -/
noncomputable def series_rises_x2 (ql : List api_Sample) (vi : Int) (vy3 : api_Sample) (vy4 : api_Sample) : Option (api_Rise) :=
  cond (decide ((IntKind.wrap .i64 (vy4.Value - vy3.Value)) < 0))
    ((at? ql vi).bind fun vy5 =>
    some (api_Rise.mk vy3.At vy4.At vy5.Value true))
    (some (api_Rise.mk vy3.At vy4.At (IntKind.wrap .i64 (vy4.Value - vy3.Value)) false))

noncomputable def series_rises_x1 (ql : List api_Sample) : (List api_Rise) × Int → Option (((List api_Rise) × Int) ⊕ ((List api_Rise)))
  | (vout, vi) =>
  cond (decide (vi < (ql.length : Int)))
    ((at? ql (IntKind.wrap .i64 (vi - 1))).bind fun vy3 =>
    (at? ql vi).bind fun vy4 =>
    (series_rises_x2 ql vi vy3 vy4).bind fun vr3_1 =>
    gd (Nat.ble (vout.length + ([vr3_1] : List api_Rise).length) LIM) <|
    some (.inl (vout ++ ([vr3_1] : List api_Rise), IntKind.wrap .i64 (vi + 1))))
    (some (.inr vout))

noncomputable def series_rises (ql : List api_Sample) : Option ((List api_Rise) × Int) :=
  (slices_ContainsFunc_api_Sample_api_Sample_f1_series_rises_1 ql).bind fun vr1 =>
  cond (vr1)
    (some ([], 1))
    ((loopO (series_rises_x1 ql) ([], 1)).bind fun vout1_1 =>
    some (vout1_1, 0))

/-! ### beaconfleet/series.Rises -/
noncomputable def series_Rises (ql : List api_Sample) : Option ((List api_Rise) × Int) :=
  (series_CheckSeries ql).bind fun vr1 =>
  cond (!decide (vr1 = 0))
    (some ([], vr1))
    ((series_rises ql).bind fun (vr4, vr5) =>
    some (vr4, vr5))

/-! ### beaconfleet/series.Grown -/
noncomputable def series_Grown_x3 (qw : api_Window) (vy1 : api_Rise) : Option (Bool) :=
  cond (decide (qw.From < vy1.To))
    (some (decide (vy1.To ≤ qw.To)))
    (some false)

noncomputable def series_Grown_x2 (qw : api_Window) (vr4 : List api_Rise) (vn : Int) (vx : Int) : Option (Int) :=
  (at? vr4 vx).bind fun vy1 =>
  (series_Grown_x3 qw vy1).bind fun vx2_1 =>
  cond (vx2_1)
    (some (IntKind.wrap .i64 (vn + vy1.By)))
    (some vn)

noncomputable def series_Grown_x1 (qw : api_Window) (vr4 : List api_Rise) : Int × Int → Option ((Int × Int) ⊕ (Int))
  | (vn, vx) =>
  cond (decide (vx < (vr4.length : Int)))
    ((series_Grown_x2 qw vr4 vn vx).bind fun vn2_1 =>
    some (.inl (vn2_1, IntKind.wrap .i64 (vx + 1))))
    (some (.inr vn))

noncomputable def series_Grown (ql : List api_Sample) (qw : api_Window) : Option (Int × Int) :=
  (series_fault ql qw).bind fun vr =>
  cond (!decide (vr = 0))
    (some (0, vr))
    ((series_rises ql).bind fun (vr4, vr5) =>
    (loopO (series_Grown_x1 qw vr4) (0, 0)).bind fun vn3_1 =>
    some (vn3_1, vr5))

/-! ### beaconfleet/series.in -/
noncomputable def series_in_x1 (qw : api_Window) (qat : Int) : Option (Bool) :=
  cond (decide (qw.From ≤ qat))
    (some (decide (qat < qw.To)))
    (some false)

noncomputable def series_in (qw : api_Window) (qat : Int) : Option (Bool) :=
  (series_in_x1 qw qat).bind fun vx1 =>
  some vx1

/-! ### beaconfleet/series.Gaps$1 -/
noncomputable def series_Gaps_1_b2n_x1 (qto : Int) (qx : Int) (qx1 : Int) : Option ((List api_Window)) :=
  cond (decide (qx1 < (IntKind.wrap .i64 (qto - qx))))
    (some ([api_Window.mk qx qto] : List api_Window))
    (some [])

noncomputable def series_Gaps_1_b2n (qto : Int) (qx : Int) (qx1 : Int) : Option ((List api_Window)) :=
  (series_Gaps_1_b2n_x1 qto qx qx1).bind fun vs1 =>
  some vs1

/-! ### beaconfleet/series.Gaps$1 -/
noncomputable def series_Gaps_1_b2o_x1 (qto : Int) (qx : Int) (qx1 : Int) (qx2 : List api_Window) : Option ((List api_Window)) :=
  cond (decide (qx1 < (IntKind.wrap .i64 (qto - qx))))
    (gd (Nat.ble (qx2.length + ([api_Window.mk qx qto] : List api_Window).length) LIM) <|
    some (qx2 ++ ([api_Window.mk qx qto] : List api_Window)))
    (some qx2)

noncomputable def series_Gaps_1_b2o (qto : Int) (qx : Int) (qx1 : Int) (qx2 : List api_Window) : Option ((List api_Window)) :=
  (series_Gaps_1_b2o_x1 qto qx qx1 qx2).bind fun vs1 =>
  some vs1

/-! ### beaconfleet/series.Gaps -/
noncomputable def series_Gaps_x2 (ql : List api_Sample) (qw : api_Window) (qmost : Int) (vout : List api_Window) (vstep : Int) (vx : Int) : Option (((List api_Window) × Int)) :=
  (at? ql vx).bind fun vy1 =>
  (series_in qw vy1.At).bind fun vr3 =>
  cond (vr3)
    ((series_Gaps_1_b2o vy1.At vstep qmost vout).bind fun vs2_1 =>
    some (vs2_1, vy1.At))
    (some (vout, vstep))

noncomputable def series_Gaps_x1 (ql : List api_Sample) (qw : api_Window) (qmost : Int) : (List api_Window) × Int × Int → Option (((List api_Window) × Int × Int) ⊕ (((List api_Window) × Int)))
  | (vout, vstep, vx) =>
  cond (decide (vx < (ql.length : Int)))
    ((series_Gaps_x2 ql qw qmost vout vstep vx).bind fun (vout2_1, vstep2_1) =>
    some (.inl (vout2_1, vstep2_1, IntKind.wrap .i64 (vx + 1))))
    (some (.inr (vout, vstep)))

noncomputable def series_Gaps (ql : List api_Sample) (qw : api_Window) (qmost : Int) : Option ((List api_Window) × Int) :=
  (series_fault ql qw).bind fun vr =>
  cond (!decide (vr = 0))
    (some ([], vr))
    ((base_Out qmost 1 345686400000).bind fun vr1 =>
    cond (vr1)
      (some ([], 1))
      ((loopO (series_Gaps_x1 ql qw qmost) ([], qw.From, 0)).bind fun (vout3_1, vstep3_1) =>
      (series_Gaps_1_b2o qw.To vstep3_1 qmost vout3_1).bind fun vs2_2 =>
      some (vs2_2, 0)))

/-! ### beaconfleet/fleetref2.CounterFault$1 -/
noncomputable def fleetref2_CounterFault_1 (qs : api_Sample) : Option (Unit) :=
  some ()

/-! ### slices.IndexFunc[[]beaconfleet/api.Sample,beaconfleet/api.Sample] -/
noncomputable def slices_IndexFunc_api_Sample_api_Sample_f1_fleetref2_CounterFault_1_x1 (qs : List api_Sample) (vx : Int) : Option ((Int) ⊕ (Unit ⊕ Int)) :=
  cond (decide (vx < (qs.length : Int)))
    ((at? qs vx).bind fun vy1 =>
    (fleetref2_CounterFault_1 vy1).bind fun _ =>
    cond (decide (vy1.Value < 0))
      (some (.inr (.inr vx)))
      (some (.inl (IntKind.wrap .i64 (vx + 1)))))
    (some (.inr (.inl ())))

noncomputable def slices_IndexFunc_api_Sample_api_Sample_f1_fleetref2_CounterFault_1 (qs : List api_Sample) : Option (Int) :=
  (loopO (slices_IndexFunc_api_Sample_api_Sample_f1_fleetref2_CounterFault_1_x1 qs) 0).bind fun x => match x with
    | .inl _ =>
      some (-1)
    | .inr vx1_1 =>
      some vx1_1

/-! ### slices.ContainsFunc[[]beaconfleet/api.Sample,beaconfleet/api.Sample] -/
noncomputable def slices_ContainsFunc_api_Sample_api_Sample_f1_fleetref2_CounterFault_1 (qs : List api_Sample) : Option (Bool) :=
  (slices_IndexFunc_api_Sample_api_Sample_f1_fleetref2_CounterFault_1 qs).bind fun vr =>
  some (decide (0 ≤ vr))

/-! ### beaconfleet/fleetref2.CounterFault -/
noncomputable def fleetref2_CounterFault (ql : List api_Sample) : Option (Int) :=
  (slices_ContainsFunc_api_Sample_api_Sample_f1_fleetref2_CounterFault_1 ql).bind fun vr1 =>
  cond (vr1)
    (some 1)
    (some 0)

/-! ### beaconfleet/fleetref2.RisesOf -/
noncomputable def fleetref2_RisesOf_x2 (ql : List api_Sample) (vi : Int) (vy3 : api_Sample) (vy4 : api_Sample) : Option (api_Rise) :=
  cond (!(decide (vy4.Value < vy3.Value)))
    ((at? ql (IntKind.wrap .i64 (vi - 1))).bind fun vy5 =>
    some (api_Rise.mk vy3.At vy4.At (IntKind.wrap .i64 (vy4.Value - vy5.Value)) (decide (vy4.Value < vy3.Value))))
    (some (api_Rise.mk vy3.At vy4.At vy4.Value (decide (vy4.Value < vy3.Value))))

noncomputable def fleetref2_RisesOf_x1 (ql : List api_Sample) : (List api_Rise) × Int → Option (((List api_Rise) × Int) ⊕ ((List api_Rise)))
  | (vout, vi) =>
  cond (decide (vi < (ql.length : Int)))
    ((at? ql (IntKind.wrap .i64 (vi - 1))).bind fun vy3 =>
    (at? ql vi).bind fun vy4 =>
    (fleetref2_RisesOf_x2 ql vi vy3 vy4).bind fun vr2_1 =>
    gd (Nat.ble (vout.length + ([vr2_1] : List api_Rise).length) LIM) <|
    some (.inl (vout ++ ([vr2_1] : List api_Rise), IntKind.wrap .i64 (vi + 1))))
    (some (.inr vout))

noncomputable def fleetref2_RisesOf (ql : List api_Sample) : Option ((List api_Rise)) :=
  (loopO (fleetref2_RisesOf_x1 ql) ([], 1)).bind fun vout1_1 =>
  some vout1_1

/-! ### beaconfleet/fleetref2.GrownOf -/
noncomputable def fleetref2_GrownOf_x2 (qw : api_Window) (vr3 : List api_Rise) (vn : Int) (vx : Int) : Option (Int) :=
  (at? vr3 vx).bind fun vy1 =>
  (fleetref2_in vy1.To (IntKind.wrap .i64 (qw.From + 1)) qw.To).bind fun vr1 =>
  cond (vr1)
    (some (IntKind.wrap .i64 (vn + vy1.By)))
    (some vn)

noncomputable def fleetref2_GrownOf_x1 (qw : api_Window) (vr3 : List api_Rise) : Int × Int → Option ((Int × Int) ⊕ (Int))
  | (vn, vx) =>
  cond (decide (vx < (vr3.length : Int)))
    ((fleetref2_GrownOf_x2 qw vr3 vn vx).bind fun vn2_1 =>
    some (.inl (vn2_1, IntKind.wrap .i64 (vx + 1))))
    (some (.inr vn))

noncomputable def fleetref2_GrownOf (ql : List api_Sample) (qw : api_Window) : Option (Int) :=
  (fleetref2_RisesOf ql).bind fun vr3 =>
  (loopO (fleetref2_GrownOf_x1 qw vr3) (0, 0)).bind fun vn3_1 =>
  some vn3_1

/-! ### beaconfleet/fleetref2.within -/
noncomputable def fleetref2_within_x1 (qat : Int) (qw : api_Window) : Option (Bool) :=
  cond (decide (qw.From ≤ qat))
    (some (decide (qat < qw.To)))
    (some false)

noncomputable def fleetref2_within (qat : Int) (qw : api_Window) : Option (Bool) :=
  (fleetref2_within_x1 qat qw).bind fun vx1 =>
  some vx1

/-! ### beaconfleet/fleetref2.GapsOf -/
noncomputable def fleetref2_GapsOf_x2 (qx : List api_Sample) (qx1 : api_Window) (vx : List Int) (vx1 : Int) : Option ((List Int)) :=
  (at? qx vx1).bind fun vy1 =>
  (fleetref2_within vy1.At qx1).bind fun vr1 =>
  cond (vr1)
    (gd (Nat.ble (vx.length + ([vy1.At] : List Int).length) LIM) <|
    some (vx ++ ([vy1.At] : List Int)))
    (some vx)

noncomputable def fleetref2_GapsOf_x1 (qx : List api_Sample) (qx1 : api_Window) : (List Int) × Int → Option (((List Int) × Int) ⊕ ((List Int)))
  | (vx, vx1) =>
  cond (decide (vx1 < (qx.length : Int)))
    ((fleetref2_GapsOf_x2 qx qx1 vx vx1).bind fun vx3_1 =>
    some (.inl (vx3_1, IntKind.wrap .i64 (vx1 + 1))))
    (some (.inr vx))

noncomputable def fleetref2_GapsOf_x4 (qx1 : api_Window) (qx2 : Int) (vx4_1 : List Int) (vx5 : List api_Window) (vx6 : Int) : Option ((List api_Window)) :=
  (at? (vx4_1 ++ ([qx1.To] : List Int)) vx6).bind fun vy4 =>
  (at? (vx4_1 ++ ([qx1.To] : List Int)) (IntKind.wrap .i64 (vx6 - 1))).bind fun vy5 =>
  cond (decide (qx2 < (IntKind.wrap .i64 (vy4 - vy5))))
    (gd (Nat.ble (vx5.length + ([api_Window.mk vy5 vy4] : List api_Window).length) LIM) <|
    some (vx5 ++ ([api_Window.mk vy5 vy4] : List api_Window)))
    (some vx5)

noncomputable def fleetref2_GapsOf_x3 (qx1 : api_Window) (qx2 : Int) (vx4_1 : List Int) : (List api_Window) × Int → Option (((List api_Window) × Int) ⊕ ((List api_Window)))
  | (vx5, vx6) =>
  cond (decide (vx6 < ((vx4_1 ++ ([qx1.To] : List Int)).length : Int)))
    ((fleetref2_GapsOf_x4 qx1 qx2 vx4_1 vx5 vx6).bind fun vx8_1 =>
    some (.inl (vx8_1, IntKind.wrap .i64 (vx6 + 1))))
    (some (.inr vx5))

noncomputable def fleetref2_GapsOf (qx : List api_Sample) (qx1 : api_Window) (qx2 : Int) : Option ((List api_Window)) :=
  (loopO (fleetref2_GapsOf_x1 qx qx1) (([qx1.From] : List Int), 0)).bind fun vx4_1 =>
  gd (Nat.ble (vx4_1.length + ([qx1.To] : List Int).length) LIM) <|
  (loopO (fleetref2_GapsOf_x3 qx1 qx2 vx4_1) ([], 1)).bind fun vx9_1 =>
  some vx9_1

/-! ### slices.Equal[[]beaconfleet/api.Rise,beaconfleet/api.Rise] -/
noncomputable def slices_Equal_api_Rise_api_Rise_x1 (qs1 : List api_Rise) (qs2 : List api_Rise) (vx : Int) : Option ((Int) ⊕ (Unit ⊕ Unit)) :=
  cond (decide (vx < (qs1.length : Int)))
    ((at? qs1 vx).bind fun vy2 =>
    (at? qs2 vx).bind fun vy3 =>
    cond (!(decide (vy2.From = vy3.From) && (decide (vy2.To = vy3.To) && (decide (vy2.By = vy3.By) && ((vy2.Reset == vy3.Reset) && true)))))
      (some (.inr (.inr ())))
      (some (.inl (IntKind.wrap .i64 (vx + 1)))))
    (some (.inr (.inl ())))

noncomputable def slices_Equal_api_Rise_api_Rise (qs1 : List api_Rise) (qs2 : List api_Rise) : Option (Bool) :=
  cond (!decide ((qs1.length : Int) = (qs2.length : Int)))
    (some false)
    ((loopO (slices_Equal_api_Rise_api_Rise_x1 qs1 qs2) 0).bind fun x => match x with
      | .inl _ =>
        some true
      | .inr _ =>
        some false)

/-! ### slices.Equal[[]beaconfleet/api.Window,beaconfleet/api.Window] -/
noncomputable def slices_Equal_api_Window_api_Window_x1 (qs1 : List api_Window) (qs2 : List api_Window) (vx : Int) : Option ((Int) ⊕ (Unit ⊕ Unit)) :=
  cond (decide (vx < (qs1.length : Int)))
    ((at? qs1 vx).bind fun vy2 =>
    (at? qs2 vx).bind fun vy3 =>
    cond (!(decide (vy2.From = vy3.From) && (decide (vy2.To = vy3.To) && true)))
      (some (.inr (.inr ())))
      (some (.inl (IntKind.wrap .i64 (vx + 1)))))
    (some (.inr (.inl ())))

noncomputable def slices_Equal_api_Window_api_Window (qs1 : List api_Window) (qs2 : List api_Window) : Option (Bool) :=
  cond (!decide ((qs1.length : Int) = (qs2.length : Int)))
    (some false)
    ((loopO (slices_Equal_api_Window_api_Window_x1 qs1 qs2) 0).bind fun x => match x with
      | .inl _ =>
        some true
      | .inr _ =>
        some false)

/-! ### beaconfleet/fleetlaw2.CountersRead -/
noncomputable def fleetlaw2_CountersRead_x1 (vr7 : api_Window) (vr : Int) (vr1_2 : Int) : Option (Int) :=
  (fleetref2_WindowFault vr7).bind fun vr1_4 =>
  cond (decide (vr < 1))
    ((fleetlaw2_when true 1).bind fun vr10 =>
    (fleetlaw2_errs ([vr1_2, vr1_4, vr10] : List Int)).bind fun vr11 =>
    some vr11)
    ((fleetlaw2_when (decide (345686400000 < vr)) 1).bind fun vr12 =>
    (fleetlaw2_errs ([vr1_2, vr1_4, vr12] : List Int)).bind fun vr13 =>
    some vr13)

noncomputable def fleetlaw2_CountersRead_x2 (vr9 : List api_Sample) (vr6 : Int) : Option ((List api_Rise)) :=
  cond (decide (vr6 = 0))
    ((fleetref2_RisesOf vr9).bind fun vr3_1 =>
    some vr3_1)
    (some [])

noncomputable def fleetlaw2_CountersRead_x3 (vr9 : List api_Sample) (vr7 : api_Window) (vr8 : Int) : Option (Int) :=
  cond (decide (vr8 = 0))
    ((fleetref2_GrownOf vr9 vr7).bind fun vr2_2 =>
    some vr2_2)
    (some 0)

noncomputable def fleetlaw2_CountersRead_x4 (vr9 : List api_Sample) (vr7 : api_Window) (vr : Int) (vx1 : Int) : Option ((List api_Window)) :=
  cond (decide (vx1 = 0))
    ((fleetref2_GapsOf vr9 vr7 vr).bind fun vr2_3 =>
    some vr2_3)
    (some [])

noncomputable def fleetlaw2_CountersRead_x5 (vr1 : List api_Rise) (vr2 : Int) (vr1_1 : Int) (vr2_1 : Int) (vr4 : List api_Window) (vr5 : Int) (vr6 : Int) (vr8 : Int) (vx1 : Int) (vx2_1 : List api_Rise) (vx3_1 : Int) (vx4_1 : List api_Window) : Option (Bool) :=
  cond (decide (vr2 = vr6))
    ((slices_Equal_api_Rise_api_Rise vr1 vx2_1).bind fun vr14 =>
    cond (vr14)
      (cond (decide (vr2_1 = vr8))
        (cond (decide (vr1_1 = vx3_1))
          (cond (decide (vr5 = vx1))
            ((slices_Equal_api_Window_api_Window vr4 vx4_1).bind fun vr15 =>
            cond (vr15)
              ((fleetlaw2_measured).bind fun vr3_2 =>
              some vr3_2)
              (some false))
            (some false))
          (some false))
        (some false))
      (some false))
    (some false)

noncomputable def fleetlaw2_CountersRead (qx : List Int) : Option (Bool) :=
  (fleetmake_Stream_Series (fleetmake_Stream.mk qx 0) 10).bind fun (vs6, vr9) =>
  (fleetmake_Stream_Frame vs6).bind fun (vs5, vr7) =>
  (fleetmake_Stream_Pick_o1 vs5 ([1, 2, 9, 10, 50, 345686400000, 0, 345686400001] : List Int)).bind fun vr =>
  (series_Rises vr9).bind fun (vr1, vr2) =>
  (series_Grown vr9 vr7).bind fun (vr1_1, vr2_1) =>
  (series_Gaps vr9 vr7 vr).bind fun (vr4, vr5) =>
  (fleetref2_SeriesFault vr9).bind fun vr1_2 =>
  (fleetref2_CounterFault vr9).bind fun vr3 =>
  (fleetlaw2_errs ([vr1_2, vr3] : List Int)).bind fun vr6 =>
  (fleetref2_WindowFault vr7).bind fun vr1_3 =>
  (fleetlaw2_errs ([vr1_2, vr1_3, vr3] : List Int)).bind fun vr8 =>
  (fleetlaw2_CountersRead_x1 vr7 vr vr1_2).bind fun vx1 =>
  (fleetlaw2_CountersRead_x2 vr9 vr6).bind fun vx2_1 =>
  (fleetlaw2_CountersRead_x3 vr9 vr7 vr8).bind fun vx3_1 =>
  (fleetlaw2_CountersRead_x4 vr9 vr7 vr vx1).bind fun vx4_1 =>
  (fleetlaw2_CountersRead_x5 vr1 vr2 vr1_1 vr2_1 vr4 vr5 vr6 vr8 vx1 vx2_1 vx3_1 vx4_1).bind fun vx5_1 =>
  some vx5_1

end Go.Eng
