/-
The Go functions that the law SamplesMerge reaches, as plain functions.
-/
import Derived.Test.YtniapnjghlkkfaaEngV

namespace Go.Eng

open Go

set_option linter.unusedVariables false

structure fleetmake_Stream where
  L : List Int
  at_ : Int

def fleetmake_Stream.enc (x : fleetmake_Stream) : List D := [.lst (List.map (encI .i64) x.L), .int .i64 x.at_]

structure api_Sample where
  Device : List UInt8
  Metric : List UInt8
  At : Int
  Value : Int

def api_Sample.enc (x : api_Sample) : List D := [.str x.Device, .str x.Metric, .int .i64 x.At, .int .i64 x.Value]

structure api_Window where
  From : Int
  To : Int

def api_Window.enc (x : api_Window) : List D := [.int .i64 x.From, .int .i64 x.To]

/-! ### beaconfleet/fleetmake.Below -/
noncomputable def fleetmake_Below_x1 (qx : Int) (qn : Int) : Option (Int) :=
  cond (decide ((qx.tmod qn) < 0))
    (some (IntKind.wrap .i64 ((qx.tmod qn) + qn)))
    (some (qx.tmod qn))

noncomputable def fleetmake_Below (qx : Int) (qn : Int) : Option (Int) :=
  cond (decide (qn < 1))
    (some 0)
    (gd (!(qn == 0)) <|
    (fleetmake_Below_x1 qx qn).bind fun vx1 =>
    some vx1)

/-! ### (*beaconfleet/fleetmake.Stream).Next -/
noncomputable def fleetmake_Stream_Next (qs : fleetmake_Stream) (qn : Int) : Option (Int) :=
  cond (decide ((qs.L.length : Int) = 0))
    ((fleetmake_Below (IntKind.wrap .i64 ((IntKind.wrap .i64 (qs.at_ + 1)) * 7919)) qn).bind fun vr =>
    some vr)
    (gd (!((qs.L.length : Int) == 0)) <|
    (at? qs.L ((IntKind.wrap .i64 ((IntKind.wrap .i64 (qs.at_ + 1)) - 1)).tmod (qs.L.length : Int))).bind fun vy =>
    (fleetmake_Below vy 1073741824).bind fun vr1 =>
    (fleetmake_Below (IntKind.wrap .i64 (vr1 + (IntKind.wrap .i64 ((IntKind.wrap .i64 ((IntKind.wrap .i64 ((IntKind.wrap .i64 (qs.at_ + 1)) - 1)).tdiv (qs.L.length : Int))) * (IntKind.wrap .i64 ((7919 : Int) + ((IntKind.wrap .i64 ((IntKind.wrap .i64 (qs.at_ + 1)) - 1)).tmod (qs.L.length : Int)))))))) qn).bind fun vr2 =>
    some vr2)

/-! ### (*beaconfleet/fleetmake.Stream).Range -/
noncomputable def fleetmake_Stream_Range (qs : fleetmake_Stream) (qlow : Int) (qhigh : Int) : Option (fleetmake_Stream × Int) :=
  cond (decide (qhigh < qlow))
    (some (qs, qlow))
    ((fleetmake_Stream_Next qs (IntKind.wrap .i64 ((IntKind.wrap .i64 (qhigh - qlow)) + 1))).bind fun vr3 =>
    some (fleetmake_Stream.mk qs.L (IntKind.wrap .i64 (qs.at_ + 1)), IntKind.wrap .i64 (qlow + vr3)))

/-! ### (*beaconfleet/fleetmake.Stream).Some -/
noncomputable def fleetmake_Stream_Some_o1 (qs : fleetmake_Stream) (ql : List (List UInt8)) : Option ((List UInt8)) :=
  (fleetmake_Stream_Next qs (ql.length : Int)).bind fun vr3 =>
  (at? ql vr3).bind fun vy =>
  some vy

/-! ### (*beaconfleet/fleetmake.Stream).Pick -/
noncomputable def fleetmake_Stream_Pick_o1 (qs : fleetmake_Stream) (ql : List Int) : Option (Int) :=
  (fleetmake_Stream_Next qs (ql.length : Int)).bind fun vr3 =>
  (at? ql vr3).bind fun vy =>
  some vy

/-! ### cmp.isNaN[string] -/
noncomputable def cmp_isNaN_string (qx : List UInt8) : Option (Unit) :=
  some ()

/-! ### cmp.Compare[string] -/
noncomputable def cmp_Compare_string (qx : List UInt8) (qy : List UInt8) : Option (Int) :=
  (cmp_isNaN_string qx).bind fun _ =>
  (cmp_isNaN_string qy).bind fun _ =>
  cond (!decide (qx = qx))
    (cond (!decide (qy = qy))
      (some 0)
      (some (-1)))
    (cond (!decide (qy = qy))
      (some 1)
      (cond (Op.bytesLess qx qy)
        (some (-1))
        (cond (!(Op.bytesLess qx qy || decide (qx = qy)))
          (some 1)
          (some 0))))

/-! ### slices.Compare[[]string,string] -/
noncomputable def slices_Compare_string_string_x1 (qs1 : List (List UInt8)) (qs2 : List (List UInt8)) (vx : Int) : Option ((Int) ⊕ (Unit ⊕ Int)) :=
  cond (decide (vx < (qs1.length : Int)))
    ((at? qs1 vx).bind fun vy2 =>
    cond (decide ((qs2.length : Int) ≤ vx))
      (some (.inr (.inr 1)))
      ((at? qs2 vx).bind fun vy3 =>
      (cmp_Compare_string vy2 vy3).bind fun vr1 =>
      cond (!decide (vr1 = 0))
        (some (.inr (.inr vr1)))
        (some (.inl (IntKind.wrap .i64 (vx + 1))))))
    (some (.inr (.inl ())))

noncomputable def slices_Compare_string_string (qs1 : List (List UInt8)) (qs2 : List (List UInt8)) : Option (Int) :=
  (loopO (slices_Compare_string_string_x1 qs1 qs2) 0).bind fun x => match x with
    | .inl _ =>
      cond (decide ((qs1.length : Int) < (qs2.length : Int)))
        (some (-1))
        (some 0)
    | .inr vx1_1 =>
      some vx1_1

/-! ### beaconfleet/fleetref2.sign -/
noncomputable def fleetref2_sign (qn : Int) : Option (Int) :=
  cond (decide (qn < 0))
    (some (-1))
    (cond (decide (0 < qn))
      (some 1)
      (some 0))

/-! ### beaconfleet/fleetref2.SampleOrder -/
noncomputable def fleetref2_SampleOrder (qa : api_Sample) (qb : api_Sample) : Option (Int) :=
  (slices_Compare_string_string ([qa.Device, qa.Metric] : List (List UInt8)) ([qb.Device, qb.Metric] : List (List UInt8))).bind fun vr2 =>
  cond (!decide (vr2 = 0))
    (some vr2)
    ((fleetref2_sign (IntKind.wrap .i64 (qa.At - qb.At))).bind fun vr =>
    some vr)

/-! ### slices.insertionSortCmpFunc[beaconfleet/api.Sample] -/
noncomputable def slices_insertionSortCmpFunc_api_Sample_o0_f3_fleetref2_SampleOrder_x3 (qa : Int) (vl3 : List api_Sample) (vj1 : Int) : Option (Bool) :=
  cond (decide (qa < vj1))
    ((at? vl3 vj1).bind fun vy15 =>
    (at? vl3 (IntKind.wrap .i64 (vj1 - 1))).bind fun vy16 =>
    (fleetref2_SampleOrder vy15 vy16).bind fun vr1_3 =>
    some (decide (vr1_3 < 0)))
    (some false)

noncomputable def slices_insertionSortCmpFunc_api_Sample_o0_f3_fleetref2_SampleOrder_x2 (qa : Int) : (List api_Sample) × Int → Option (((List api_Sample) × Int) ⊕ ((List api_Sample)))
  | (vl3, vj1) =>
  (slices_insertionSortCmpFunc_api_Sample_o0_f3_fleetref2_SampleOrder_x3 qa vl3 vj1).bind fun vx4_1 =>
  cond (vx4_1)
    ((at? vl3 (IntKind.wrap .i64 (vj1 - 1))).bind fun vy17 =>
    (at? vl3 vj1).bind fun vy18 =>
    (at? (vl3.set vj1.toNat vy17) (IntKind.wrap .i64 (vj1 - 1))).bind fun vy19 =>
    some (.inl ((vl3.set vj1.toNat vy17).set (IntKind.wrap .i64 (vj1 - 1)).toNat vy18, IntKind.wrap .i64 (vj1 - 1))))
    (some (.inr vl3))

noncomputable def slices_insertionSortCmpFunc_api_Sample_o0_f3_fleetref2_SampleOrder_x1 (qa : Int) (qb : Int) : (List api_Sample) × Int → Option (((List api_Sample) × Int) ⊕ ((List api_Sample)))
  | (vl, vi) =>
  cond (decide (vi < qb))
    ((loopO (slices_insertionSortCmpFunc_api_Sample_o0_f3_fleetref2_SampleOrder_x2 qa) (vl, vi)).bind fun vl4_1 =>
    some (.inl (vl4_1, IntKind.wrap .i64 (vi + 1))))
    (some (.inr vl))

noncomputable def slices_insertionSortCmpFunc_api_Sample_o0_f3_fleetref2_SampleOrder (qdata : List api_Sample) (qa : Int) (qb : Int) : Option ((List api_Sample)) :=
  (loopO (slices_insertionSortCmpFunc_api_Sample_o0_f3_fleetref2_SampleOrder_x1 qa qb) (qdata, IntKind.wrap .i64 (qa + 1))).bind fun vl5_1 =>
  some vl5_1

/-! ### slices.stableCmpFunc[beaconfleet/api.Sample] -/
noncomputable def slices_stableCmpFunc_api_Sample_o0_f2_fleetref2_SampleOrder_x1 (qn : Int) : (List api_Sample) × Int × Int → Option (((List api_Sample) × Int × Int) ⊕ (((List api_Sample) × Int)))
  | (vl, va, vb) =>
  cond (decide (vb ≤ qn))
    ((slices_insertionSortCmpFunc_api_Sample_o0_f3_fleetref2_SampleOrder vl va vb).bind fun vl6_1 =>
    gd (vl6_1.length == vl.length) <|
    some (.inl (vl6_1, vb, IntKind.wrap .i64 (vb + 20))))
    (some (.inr (vl, va)))

noncomputable def slices_stableCmpFunc_api_Sample_o0_f2_fleetref2_SampleOrder_x3 (qn : Int) (vblockSize : Int) : Unit → Option ((Unit) ⊕ (Unit))
  | _ =>
  cond (decide ((IntKind.wrap .i64 ((2 : Int) * vblockSize)) ≤ qn))
    (none)
    (some (.inr ()))

noncomputable def slices_stableCmpFunc_api_Sample_o0_f2_fleetref2_SampleOrder_x2 (qn : Int) (vblockSize : Int) : Option ((Int) ⊕ (Unit)) :=
  cond (decide (vblockSize < qn))
    ((loopO (slices_stableCmpFunc_api_Sample_o0_f2_fleetref2_SampleOrder_x3 qn vblockSize) ()).bind fun _ =>
    cond (decide ((IntKind.wrap .i64 ((0 : Int) + vblockSize)) < qn))
      (none)
      (some (.inl (IntKind.wrap .i64 (vblockSize * 2)))))
    (some (.inr ()))

noncomputable def slices_stableCmpFunc_api_Sample_o0_f2_fleetref2_SampleOrder (qdata : List api_Sample) (qn : Int) : Option ((List api_Sample)) :=
  (loopO (slices_stableCmpFunc_api_Sample_o0_f2_fleetref2_SampleOrder_x1 qn) (qdata, 0, 20)).bind fun (vl1_1, va1_1) =>
  (slices_insertionSortCmpFunc_api_Sample_o0_f3_fleetref2_SampleOrder vl1_1 va1_1 qn).bind fun vl6_2 =>
  gd (vl6_2.length == vl1_1.length) <|
  (loopO (slices_stableCmpFunc_api_Sample_o0_f2_fleetref2_SampleOrder_x2 qn) 20).bind fun _ =>
  some vl6_2

/-! ### slices.SortStableFunc[[]beaconfleet/api.Sample,beaconfleet/api.Sample] -/
noncomputable def slices_SortStableFunc_api_Sample_api_Sample_o0_f1_fleetref2_SampleOrder (qx : List api_Sample) : Option ((List api_Sample)) :=
  (slices_stableCmpFunc_api_Sample_o0_f2_fleetref2_SampleOrder qx (qx.length : Int)).bind fun vl2 =>
  gd (vl2.length == qx.length) <|
  some vl2

/-! ### (*beaconfleet/fleetmake.Stream).Flip -/
noncomputable def fleetmake_Stream_Flip (qs : fleetmake_Stream) (qn : Int) : Option (Bool) :=
  (fleetmake_Stream_Next qs qn).bind fun vr3 =>
  some (decide (vr3 = 0))

/-! ### (*beaconfleet/fleetmake.Stream).Samples$1 -/
noncomputable def fleetmake_Stream_Samples_1 (qa : api_Sample) (qb : api_Sample) : Option (Bool) :=
  (fleetref2_SampleOrder qa qb).bind fun vr1 =>
  some (decide (vr1 = 0))

/-! ### slices.CompactFunc[[]beaconfleet/api.Sample,beaconfleet/api.Sample] -/
noncomputable def slices_CompactFunc_api_Sample_api_Sample_o0_f1_fleetmake_Stream_Samples_1_x3 (qx : List api_Sample) (vx : Int) (vl4 : List api_Sample) (vx6 : Int) (vx7 : Int) : Option (((List api_Sample) × Int)) :=
  gd (decide (0 ≤ vx) && decide (0 ≤ vx7) && decide (vx7 < (qx.length : Int) - vx)) <|
  (at? vl4 (vx + vx7)).bind fun vy13 =>
  gd (decide (0 ≤ vx) && decide (0 ≤ (IntKind.wrap .i64 (vx7 - 1))) && decide ((IntKind.wrap .i64 (vx7 - 1)) < (qx.length : Int) - vx)) <|
  (at? vl4 (vx + (IntKind.wrap .i64 (vx7 - 1)))).bind fun vy14 =>
  (fleetmake_Stream_Samples_1 vy13 vy14).bind fun vr5 =>
  cond (!vr5)
    ((at? vl4 vx6).bind fun vy15 =>
    some (vl4.set vx6.toNat vy13, IntKind.wrap .i64 (vx6 + 1)))
    (some (vl4, vx6))

noncomputable def slices_CompactFunc_api_Sample_api_Sample_o0_f1_fleetmake_Stream_Samples_1_x2 (qx : List api_Sample) (vx : Int) : (List api_Sample) × Int × Int → Option (((List api_Sample) × Int × Int) ⊕ (((List api_Sample) × Int)))
  | (vl4, vx6, vx7) =>
  cond (decide (vx7 < (((qx.length : Int).toNat - vx.toNat : Nat) : Int)))
    ((slices_CompactFunc_api_Sample_api_Sample_o0_f1_fleetmake_Stream_Samples_1_x3 qx vx vl4 vx6 vx7).bind fun (vl6_1, vx9_1) =>
    some (.inl (vl6_1, vx9_1, IntKind.wrap .i64 (vx7 + 1))))
    (some (.inr (vl4, vx6)))

noncomputable def slices_CompactFunc_api_Sample_api_Sample_o0_f1_fleetmake_Stream_Samples_1_x1 (qx : List api_Sample) (vx : Int) : Option ((Int) ⊕ (Unit ⊕ (List api_Sample))) :=
  cond (decide (vx < (qx.length : Int)))
    ((at? qx vx).bind fun vy8 =>
    (at? qx (IntKind.wrap .i64 (vx - 1))).bind fun vy9 =>
    (fleetmake_Stream_Samples_1 vy8 vy9).bind fun vr3 =>
    cond (vr3)
      (gd (decide (0 ≤ vx) && decide (vx ≤ (qx.length : Int)) && decide ((qx.length : Int) ≤ (qx.length : Int))) <|
      (loopO (slices_CompactFunc_api_Sample_api_Sample_o0_f1_fleetmake_Stream_Samples_1_x2 qx vx) (qx, vx, 1)).bind fun (vl7_1, vx10_1) =>
      gd (decide (0 ≤ vx10_1) && decide (vx10_1 ≤ (vl7_1.length : Int)) && decide ((vl7_1.length : Int) ≤ (vl7_1.length : Int))) <|
      gd (decide (0 ≤ vx10_1) && decide (vx10_1 ≤ ((vl7_1.take vx10_1.toNat ++ (List.replicate ((vl7_1.length : Int).toNat - vx10_1.toNat) (api_Sample.mk ([] : List UInt8) ([] : List UInt8) 0 0) ++ vl7_1.drop (vx10_1.toNat + ((vl7_1.length : Int).toNat - vx10_1.toNat)))).length : Int))) <|
      some (.inr (.inr ((vl7_1.take vx10_1.toNat ++ (List.replicate ((vl7_1.length : Int).toNat - vx10_1.toNat) (api_Sample.mk ([] : List UInt8) ([] : List UInt8) 0 0) ++ vl7_1.drop (vx10_1.toNat + ((vl7_1.length : Int).toNat - vx10_1.toNat)))).take vx10_1.toNat))))
      (some (.inl (IntKind.wrap .i64 (vx + 1)))))
    (some (.inr (.inl ())))

noncomputable def slices_CompactFunc_api_Sample_api_Sample_o0_f1_fleetmake_Stream_Samples_1 (qx : List api_Sample) : Option ((List api_Sample)) :=
  cond (decide ((qx.length : Int) < 2))
    (some qx)
    ((loopO (slices_CompactFunc_api_Sample_api_Sample_o0_f1_fleetmake_Stream_Samples_1_x1 qx) 1).bind fun x => match x with
      | .inl _ =>
        some qx
      | .inr vx11_1 =>
        some vx11_1)

/-! ### (*beaconfleet/fleetmake.Stream).Odd -/
noncomputable def fleetmake_Stream_Odd (qs : fleetmake_Stream) (qlow : Int) (qhigh : Int) : Option (fleetmake_Stream × Int) :=
  (fleetmake_Stream_Flip qs 12).bind fun vr =>
  cond (vr)
    ((fleetmake_Stream_Pick_o1 (fleetmake_Stream.mk qs.L (IntKind.wrap .i64 (qs.at_ + 1))) ([IntKind.wrap .i64 (qlow - 1), IntKind.wrap .i64 (qhigh + 1), qlow, qhigh, (-1099511627776), 1099511627776] : List Int)).bind fun vr1 =>
    some (fleetmake_Stream.mk qs.L (IntKind.wrap .i64 ((IntKind.wrap .i64 (qs.at_ + 1)) + 1)), vr1))
    ((fleetmake_Stream_Range (fleetmake_Stream.mk qs.L (IntKind.wrap .i64 (qs.at_ + 1))) qlow qhigh).bind fun (vs, vr2) =>
    some (vs, vr2))

/-! ### (*beaconfleet/fleetmake.Stream).Samples -/
noncomputable def fleetmake_Stream_Samples_x1 (qx1 : Int) : fleetmake_Stream × (List api_Sample) × Int → Option ((fleetmake_Stream × (List api_Sample) × Int) ⊕ ((fleetmake_Stream × (List api_Sample))))
  | (vs, vx, vx1) =>
  cond (decide (vx1 < qx1))
    ((fleetmake_Stream_Some_o1 vs ([([100] : List UInt8), ([100] : List UInt8), ([101] : List UInt8)] : List (List UInt8))).bind fun vr4 =>
    (fleetmake_Stream_Some_o1 (fleetmake_Stream.mk vs.L (IntKind.wrap .i64 (vs.at_ + 1))) ([([109] : List UInt8), ([109] : List UInt8), ([110] : List UInt8)] : List (List UInt8))).bind fun vr5 =>
    (fleetmake_Stream_Pick_o1 (fleetmake_Stream.mk vs.L (IntKind.wrap .i64 ((IntKind.wrap .i64 (vs.at_ + 1)) + 1))) ([0, 1, 5, 10, 20] : List Int)).bind fun vr6 =>
    (fleetmake_Stream_Pick_o1 (fleetmake_Stream.mk vs.L (IntKind.wrap .i64 ((IntKind.wrap .i64 ((IntKind.wrap .i64 (vs.at_ + 1)) + 1)) + 1))) ([1, 1, 2, (-3)] : List Int)).bind fun vr7 =>
    gd (Nat.ble (vx.length + ([api_Sample.mk vr4 vr5 vr6 vr7] : List api_Sample).length) LIM) <|
    some (.inl (fleetmake_Stream.mk vs.L (IntKind.wrap .i64 ((IntKind.wrap .i64 ((IntKind.wrap .i64 ((IntKind.wrap .i64 (vs.at_ + 1)) + 1)) + 1)) + 1)), vx ++ ([api_Sample.mk vr4 vr5 vr6 vr7] : List api_Sample), IntKind.wrap .i64 (vx1 + 1))))
    (some (.inr (vs, vx)))

noncomputable def fleetmake_Stream_Samples_x2 (vs1_1 : fleetmake_Stream) (vl : List api_Sample) : Option ((List api_Sample)) :=
  (fleetmake_Stream_Flip vs1_1 40).bind fun vr8 =>
  cond (!vr8)
    ((slices_CompactFunc_api_Sample_api_Sample_o0_f1_fleetmake_Stream_Samples_1 vl).bind fun vr6_1 =>
    some vr6_1)
    (some vl)

noncomputable def fleetmake_Stream_Samples_x4 (vs1_1 : fleetmake_Stream) (vx3_1 : List api_Sample) : Option ((fleetmake_Stream × Bool)) :=
  cond (decide (0 < (vx3_1.length : Int)))
    ((fleetmake_Stream_Flip (fleetmake_Stream.mk vs1_1.L (IntKind.wrap .i64 (vs1_1.at_ + 1))) 15).bind fun vr9 =>
    some (fleetmake_Stream.mk vs1_1.L (IntKind.wrap .i64 ((IntKind.wrap .i64 (vs1_1.at_ + 1)) + 1)), vr9))
    (some (fleetmake_Stream.mk vs1_1.L (IntKind.wrap .i64 (vs1_1.at_ + 1)), false))

noncomputable def fleetmake_Stream_Samples_x3 (vs1_1 : fleetmake_Stream) (vx3_1 : List api_Sample) : Option ((fleetmake_Stream × (List api_Sample))) :=
  (fleetmake_Stream_Samples_x4 vs1_1 vx3_1).bind fun (vs2_1, vx4_1) =>
  cond (vx4_1)
    ((fleetmake_Stream_Next vs2_1 (vx3_1.length : Int)).bind fun vr3_1 =>
    (at? vx3_1 vr3_1).bind fun vy =>
    (fleetmake_Stream_Some_o1 (fleetmake_Stream.mk vs2_1.L (IntKind.wrap .i64 (vs2_1.at_ + 1))) ([vy.Device, ([] : List UInt8), ([65] : List UInt8)] : List (List UInt8))).bind fun vr10 =>
    (fleetmake_Stream_Odd (fleetmake_Stream.mk vs2_1.L (IntKind.wrap .i64 ((IntKind.wrap .i64 (vs2_1.at_ + 1)) + 1))) 0 20).bind fun (vs1_2, vr3_2) =>
    (fleetmake_Stream_Odd vs1_2 (-1000000000) 1000000000).bind fun (vs1_3, vr3_3) =>
    some (vs1_3, ((vx3_1.set vr3_1.toNat (api_Sample.mk vr10 vy.Metric vy.At vy.Value)).set vr3_1.toNat (api_Sample.mk vr10 vy.Metric vr3_2 vy.Value)).set vr3_1.toNat (api_Sample.mk vr10 vy.Metric vr3_2 vr3_3)))
    (some (vs2_1, vx3_1))

noncomputable def fleetmake_Stream_Samples (qx : fleetmake_Stream) (qx1 : Int) : Option (fleetmake_Stream × (List api_Sample)) :=
  (loopO (fleetmake_Stream_Samples_x1 qx1) (qx, [], 0)).bind fun (vs1_1, vx2_1) =>
  (slices_SortStableFunc_api_Sample_api_Sample_o0_f1_fleetref2_SampleOrder vx2_1).bind fun vl =>
  gd (vl.length == vx2_1.length) <|
  (fleetmake_Stream_Samples_x2 vs1_1 vl).bind fun vx3_1 =>
  (fleetmake_Stream_Samples_x3 vs1_1 vx3_1).bind fun (vs3_1, vx5_1) =>
  some (vs3_1, vx5_1)

/-! ### slices.Clone[[]beaconfleet/api.Sample,beaconfleet/api.Sample] -/
noncomputable def slices_Clone_api_Sample_api_Sample (qs : List api_Sample) : Option (List api_Sample) :=
  gd (Nat.ble (([] : List api_Sample).length + qs.length) LIM) (some qs)

/-! ### (*beaconfleet/fleetmake.Stream).Frame -/
noncomputable def fleetmake_Stream_Frame_x2 (qs : fleetmake_Stream) (vr : Int) (vr1 : Int) : Option ((fleetmake_Stream × Bool)) :=
  cond (decide (vr1 < vr))
    ((fleetmake_Stream_Flip (fleetmake_Stream.mk qs.L (IntKind.wrap .i64 ((IntKind.wrap .i64 (qs.at_ + 1)) + 1))) 3).bind fun vr2 =>
    some (fleetmake_Stream.mk qs.L (IntKind.wrap .i64 ((IntKind.wrap .i64 ((IntKind.wrap .i64 (qs.at_ + 1)) + 1)) + 1)), !vr2))
    (some (fleetmake_Stream.mk qs.L (IntKind.wrap .i64 ((IntKind.wrap .i64 (qs.at_ + 1)) + 1)), false))

noncomputable def fleetmake_Stream_Frame_x1 (qs : fleetmake_Stream) (vr : Int) (vr1 : Int) : Option ((fleetmake_Stream × api_Window)) :=
  (fleetmake_Stream_Frame_x2 qs vr vr1).bind fun (vs1, vx1) =>
  cond (vx1)
    (some (vs1, api_Window.mk 0 vr1))
    (some (vs1, api_Window.mk vr vr1))

noncomputable def fleetmake_Stream_Frame_x3 (vs2_1 : fleetmake_Stream) (vw1 : api_Window) : Option ((fleetmake_Stream × api_Window)) :=
  (fleetmake_Stream_Flip vs2_1 15).bind fun vr3 =>
  cond (vr3)
    ((fleetmake_Stream_Odd (fleetmake_Stream.mk vs2_1.L (IntKind.wrap .i64 (vs2_1.at_ + 1))) 0 100).bind fun (vs1_1, vr3_1) =>
    (fleetmake_Stream_Odd vs1_1 0 1000).bind fun (vs1_2, vr3_2) =>
    some (vs1_2, api_Window.mk vr3_1 vr3_2))
    (some (fleetmake_Stream.mk vs2_1.L (IntKind.wrap .i64 (vs2_1.at_ + 1)), vw1))

noncomputable def fleetmake_Stream_Frame_x4 (vs3_1 : fleetmake_Stream) (vw2_1 : api_Window) : Option ((fleetmake_Stream × api_Window)) :=
  (fleetmake_Stream_Flip vs3_1 25).bind fun vr4 =>
  cond (vr4)
    ((fleetmake_Stream_Pick_o1 (fleetmake_Stream.mk vs3_1.L (IntKind.wrap .i64 (vs3_1.at_ + 1))) ([0, 5] : List Int)).bind fun vr5 =>
    (fleetmake_Stream_Pick_o1 (fleetmake_Stream.mk vs3_1.L (IntKind.wrap .i64 ((IntKind.wrap .i64 (vs3_1.at_ + 1)) + 1))) ([345686400000, 345686400001, 7776000000, 7862400000] : List Int)).bind fun vr6 =>
    some (fleetmake_Stream.mk vs3_1.L (IntKind.wrap .i64 ((IntKind.wrap .i64 ((IntKind.wrap .i64 (vs3_1.at_ + 1)) + 1)) + 1)), api_Window.mk vr5 vr6))
    (some (fleetmake_Stream.mk vs3_1.L (IntKind.wrap .i64 (vs3_1.at_ + 1)), vw2_1))

noncomputable def fleetmake_Stream_Frame (qs : fleetmake_Stream) : Option (fleetmake_Stream × api_Window) :=
  (fleetmake_Stream_Pick_o1 qs ([0, 0, 1, 5, 10, 50] : List Int)).bind fun vr =>
  (fleetmake_Stream_Pick_o1 (fleetmake_Stream.mk qs.L (IntKind.wrap .i64 (qs.at_ + 1))) ([10, 50, 100, 300, 3000] : List Int)).bind fun vr1 =>
  (fleetmake_Stream_Frame_x1 qs vr vr1).bind fun (vs2_1, vw1) =>
  (fleetmake_Stream_Frame_x3 vs2_1 vw1).bind fun (vs3_1, vw2_1) =>
  (fleetmake_Stream_Frame_x4 vs3_1 vw2_1).bind fun (vs4_1, vw3_1) =>
  some (vs4_1, vw3_1)

/-! ### (*beaconfleet/fleetmake.Stream).RightSeries -/
noncomputable def fleetmake_Stream_RightSeries_x1 (qlow : Int) (vr : Int) : fleetmake_Stream × (List api_Sample) × Int × Int → Option ((fleetmake_Stream × (List api_Sample) × Int × Int) ⊕ ((fleetmake_Stream × (List api_Sample))))
  | (vs1, vout, vat, vx) =>
  cond (decide (vx < vr))
    ((fleetmake_Stream_Pick_o1 vs1 ([1, 1, 2, 5, 10, 10, 40, 127, 1000] : List Int)).bind fun vr3 =>
    (fleetmake_Stream_Pick_o1 (fleetmake_Stream.mk vs1.L (IntKind.wrap .i64 (vs1.at_ + 1))) ([0, 1, 2, 5, 7, 9, (-3), (-70), 100, 1000, 5] : List Int)).bind fun vr4 =>
    gd (Nat.ble (vout.length + ([api_Sample.mk ([100] : List UInt8) ([109] : List UInt8) (IntKind.wrap .i64 (vat + vr3)) (imax qlow vr4)] : List api_Sample).length) LIM) <|
    some (.inl (fleetmake_Stream.mk vs1.L (IntKind.wrap .i64 ((IntKind.wrap .i64 (vs1.at_ + 1)) + 1)), vout ++ ([api_Sample.mk ([100] : List UInt8) ([109] : List UInt8) (IntKind.wrap .i64 (vat + vr3)) (imax qlow vr4)] : List api_Sample), IntKind.wrap .i64 (vat + vr3), IntKind.wrap .i64 (vx + 1))))
    (some (.inr (vs1, vout)))

noncomputable def fleetmake_Stream_RightSeries (qs : fleetmake_Stream) (qmost : Int) (qlow : Int) : Option (fleetmake_Stream × (List api_Sample)) :=
  (fleetmake_Stream_Range qs 0 qmost).bind fun (vs, vr) =>
  (loopO (fleetmake_Stream_RightSeries_x1 qlow vr) (vs, [], 0, 0)).bind fun (vs2_1, vout1_1) =>
  some (vs2_1, vout1_1)

/-! ### (*beaconfleet/fleetmake.Stream).Series -/
noncomputable def fleetmake_Stream_Series_x2 (vs3 : fleetmake_Stream) (vr5 : List api_Sample) : Option ((fleetmake_Stream × Bool)) :=
  cond (decide (0 < (vr5.length : Int)))
    ((fleetmake_Stream_Flip vs3 12).bind fun vr1 =>
    some (fleetmake_Stream.mk vs3.L (IntKind.wrap .i64 (vs3.at_ + 1)), vr1))
    (some (vs3, false))

noncomputable def fleetmake_Stream_Series_x1 (vs3 : fleetmake_Stream) (vr5 : List api_Sample) : Option ((fleetmake_Stream × (List api_Sample))) :=
  (fleetmake_Stream_Series_x2 vs3 vr5).bind fun (vs1, vx1) =>
  cond (vx1)
    ((fleetmake_Stream_Next vs1 (vr5.length : Int)).bind fun vr3 =>
    (at? vr5 vr3).bind fun vy =>
    (fleetmake_Stream_Next (fleetmake_Stream.mk vs1.L (IntKind.wrap .i64 (vs1.at_ + 1))) 4).bind fun vr3_1 =>
    cond (decide (vr3_1 = 0))
      ((fleetmake_Stream_Some_o1 (fleetmake_Stream.mk vs1.L (IntKind.wrap .i64 ((IntKind.wrap .i64 (vs1.at_ + 1)) + 1))) ([([] : List UInt8), ([101] : List UInt8), ([65] : List UInt8)] : List (List UInt8))).bind fun vr2 =>
      some (fleetmake_Stream.mk vs1.L (IntKind.wrap .i64 ((IntKind.wrap .i64 ((IntKind.wrap .i64 (vs1.at_ + 1)) + 1)) + 1)), vr5.set vr3.toNat (api_Sample.mk vr2 vy.Metric vy.At vy.Value)))
      (cond (decide (vr3_1 = 1))
        ((fleetmake_Stream_Some_o1 (fleetmake_Stream.mk vs1.L (IntKind.wrap .i64 ((IntKind.wrap .i64 (vs1.at_ + 1)) + 1))) ([([] : List UInt8), ([110] : List UInt8)] : List (List UInt8))).bind fun vr4 =>
        some (fleetmake_Stream.mk vs1.L (IntKind.wrap .i64 ((IntKind.wrap .i64 ((IntKind.wrap .i64 (vs1.at_ + 1)) + 1)) + 1)), vr5.set vr3.toNat (api_Sample.mk vy.Device vr4 vy.At vy.Value)))
        (cond (decide (vr3_1 = 2))
          ((fleetmake_Stream_Odd (fleetmake_Stream.mk vs1.L (IntKind.wrap .i64 ((IntKind.wrap .i64 (vs1.at_ + 1)) + 1))) 0 100).bind fun (vs1_1, vr3_2) =>
          some (vs1_1, vr5.set vr3.toNat (api_Sample.mk vy.Device vy.Metric vr3_2 vy.Value)))
          ((fleetmake_Stream_Odd (fleetmake_Stream.mk vs1.L (IntKind.wrap .i64 ((IntKind.wrap .i64 (vs1.at_ + 1)) + 1))) (-1000000000) 1000000000).bind fun (vs1_2, vr3_3) =>
          some (vs1_2, vr5.set vr3.toNat (api_Sample.mk vy.Device vy.Metric vy.At vr3_3))))))
    (some (vs1, vr5))

noncomputable def fleetmake_Stream_Series_x4 (vs2_1 : fleetmake_Stream) (vx2_1 : List api_Sample) : Option ((fleetmake_Stream × Bool)) :=
  cond (decide (0 < (vx2_1.length : Int)))
    ((fleetmake_Stream_Flip vs2_1 25).bind fun vr6 =>
    some (fleetmake_Stream.mk vs2_1.L (IntKind.wrap .i64 (vs2_1.at_ + 1)), vr6))
    (some (vs2_1, false))

noncomputable def fleetmake_Stream_Series_x3 (vs2_1 : fleetmake_Stream) (vx2_1 : List api_Sample) : Option ((fleetmake_Stream × (List api_Sample))) :=
  (fleetmake_Stream_Series_x4 vs2_1 vx2_1).bind fun (vs4_1, vx3_1) =>
  cond (vx3_1)
    ((at? vx2_1 (IntKind.wrap .i64 ((vx2_1.length : Int) - 1))).bind fun vy1 =>
    (fleetmake_Stream_Pick_o1 vs4_1 ([345686399999, 3456000000, 950400000] : List Int)).bind fun vr7 =>
    (fleetmake_Stream_Pick_o1 (fleetmake_Stream.mk vs4_1.L (IntKind.wrap .i64 (vs4_1.at_ + 1))) ([1000000000, (-1000000000)] : List Int)).bind fun vr8 =>
    some (fleetmake_Stream.mk vs4_1.L (IntKind.wrap .i64 ((IntKind.wrap .i64 (vs4_1.at_ + 1)) + 1)), (vx2_1.set (IntKind.wrap .i64 ((vx2_1.length : Int) - 1)).toNat (api_Sample.mk vy1.Device vy1.Metric vr7 vy1.Value)).set (IntKind.wrap .i64 ((vx2_1.length : Int) - 1)).toNat (api_Sample.mk vy1.Device vy1.Metric vr7 vr8)))
    (some (vs4_1, vx2_1))

noncomputable def fleetmake_Stream_Series (qx : fleetmake_Stream) (qx1 : Int) : Option (fleetmake_Stream × (List api_Sample)) :=
  (fleetmake_Stream_Pick_o1 qx ([0, (-100)] : List Int)).bind fun vr =>
  (fleetmake_Stream_RightSeries (fleetmake_Stream.mk qx.L (IntKind.wrap .i64 (qx.at_ + 1))) qx1 vr).bind fun (vs3, vr5) =>
  (fleetmake_Stream_Series_x1 vs3 vr5).bind fun (vs2_1, vx2_1) =>
  (fleetmake_Stream_Series_x3 vs2_1 vx2_1).bind fun (vs5_1, vx4_1) =>
  some (vs5_1, vx4_1)

/-! ### beaconfleet/base.Key -/
noncomputable def base_Key_x1 (qs : List UInt8) : Option (Bool) :=
  cond (decide (qs = ([] : List UInt8)))
    (some true)
    (cond (decide (40 < (qs.length : Int)))
      (some true)
      ((at? qs 0).bind fun vc =>
      cond (decide ((vc.toNat : Int) < 97))
        (some true)
        (some (decide (122 < (vc.toNat : Int))))))

noncomputable def base_Key_x3 (vc2 : UInt8) : Option (Bool) :=
  cond (decide (97 ≤ (vc2.toNat : Int)))
    (cond (decide ((vc2.toNat : Int) ≤ 122))
      (some false)
      (cond (decide (48 ≤ (vc2.toNat : Int)))
        (cond (decide ((vc2.toNat : Int) ≤ 57))
          (some false)
          (cond (decide ((vc2.toNat : Int) = 45))
            (some false)
            (some (!(decide ((vc2.toNat : Int) = 95))))))
        (cond (decide ((vc2.toNat : Int) = 45))
          (some false)
          (some (!(decide ((vc2.toNat : Int) = 95)))))))
    (cond (decide (48 ≤ (vc2.toNat : Int)))
      (cond (decide ((vc2.toNat : Int) ≤ 57))
        (some false)
        (cond (decide ((vc2.toNat : Int) = 45))
          (some false)
          (some (!(decide ((vc2.toNat : Int) = 95))))))
      (cond (decide ((vc2.toNat : Int) = 45))
        (some false)
        (some (!(decide ((vc2.toNat : Int) = 95))))))

noncomputable def base_Key_x2 (qs : List UInt8) (vx2 : Int) : Option ((Int) ⊕ (Unit ⊕ Unit)) :=
  cond (decide (vx2 < (qs.length : Int)))
    ((at? qs vx2).bind fun vc2 =>
    (base_Key_x3 vc2).bind fun vx4_1 =>
    cond (vx4_1)
      (some (.inr (.inr ())))
      (some (.inl (IntKind.wrap .i64 (vx2 + 1)))))
    (some (.inr (.inl ())))

noncomputable def base_Key (qs : List UInt8) : Option (Bool) :=
  (base_Key_x1 qs).bind fun vx1 =>
  cond (vx1)
    (some false)
    ((loopO (base_Key_x2 qs) 0).bind fun x => match x with
      | .inl _ =>
        some true
      | .inr _ =>
        some false)

/-! ### beaconfleet/base.Out -/
noncomputable def base_Out_x1 (qn : Int) (qlow : Int) (qhigh : Int) : Option (Bool) :=
  cond (decide (qn < qlow))
    (some true)
    (some (decide (qhigh < qn)))

noncomputable def base_Out (qn : Int) (qlow : Int) (qhigh : Int) : Option (Bool) :=
  (base_Out_x1 qn qlow qhigh).bind fun vx1 =>
  some vx1

/-! ### beaconfleet/base.Moment -/
noncomputable def base_Moment (qn : Int) : Option (Bool) :=
  (base_Out qn 0 345686399999).bind fun vr =>
  some (!vr)

/-! ### internal/bytealg.CompareString -/
noncomputable def bytealg_CompareString (qa : List UInt8) (qb : List UInt8) : Option (Unit) :=
  some ()

/-! ### strings.Compare -/
noncomputable def strings_Compare (qa : List UInt8) (qb : List UInt8) : Option (Unit) :=
  (bytealg_CompareString qa qb).bind fun _ =>
  some ()

/-! ### cmp.isNaN[int] -/
noncomputable def cmp_isNaN_int (qx : Int) : Option (Unit) :=
  some ()

/-! ### cmp.Compare[int] -/
noncomputable def cmp_Compare_int (qx : Int) (qy : Int) : Option (Int) :=
  (cmp_isNaN_int qx).bind fun _ =>
  (cmp_isNaN_int qy).bind fun _ =>
  cond (!decide (qx = qx))
    (cond (!decide (qy = qy))
      (some 0)
      (some (-1)))
    (cond (!decide (qy = qy))
      (some 1)
      (cond (decide (qx < qy))
        (some (-1))
        (cond (decide (qy < qx))
          (some 1)
          (some 0))))

/-! ### cmp.Or[int] -/
noncomputable def cmp_Or_int_x1 (qvals : List Int) (vx : Int) : Option ((Int) ⊕ (Unit ⊕ Int)) :=
  cond (decide (vx < (qvals.length : Int)))
    ((at? qvals vx).bind fun vy1 =>
    cond (!decide (vy1 = 0))
      (some (.inr (.inr vy1)))
      (some (.inl (IntKind.wrap .i64 (vx + 1)))))
    (some (.inr (.inl ())))

noncomputable def cmp_Or_int (qvals : List Int) : Option (Int) :=
  (loopO (cmp_Or_int_x1 qvals) 0).bind fun x => match x with
    | .inl _ =>
      some 0
    | .inr vx1_1 =>
      some vx1_1

/-! ### beaconfleet/series.byDevice -/
noncomputable def series_byDevice (qa : api_Sample) (qb : api_Sample) : Option (Int) :=
  (strings_Compare qa.Device qb.Device).bind fun _ =>
  (strings_Compare qa.Metric qb.Metric).bind fun _ =>
  (cmp_Compare_int qa.At qb.At).bind fun vr =>
  (cmp_Or_int ([Lib.compareBytes qa.Device qb.Device, Lib.compareBytes qa.Metric qb.Metric, vr] : List Int)).bind fun vr1 =>
  some vr1

/-! ### beaconfleet/series.Check -/
noncomputable def series_Check_x2 (vy2 : api_Sample) : Option (Bool) :=
  (base_Key vy2.Device).bind fun vr3 =>
  cond (!vr3)
    (some true)
    ((base_Key vy2.Metric).bind fun vr4 =>
    some (!vr4))

noncomputable def series_Check_x3 (vy2 : api_Sample) : Option (Bool) :=
  (base_Moment vy2.At).bind fun vr1_2 =>
  cond (!vr1_2)
    (some true)
    ((base_Out vy2.Value (-1000000000) 1000000000).bind fun vr5 =>
    some vr5)

noncomputable def series_Check_x4 (ql : List api_Sample) (vx : Int) (vy2 : api_Sample) : Option (Bool) :=
  cond (decide (0 < vx))
    ((at? ql (IntKind.wrap .i64 (vx - 1))).bind fun vy3 =>
    (series_byDevice vy2 vy3).bind fun vr2_2 =>
    some (decide (vr2_2 ≤ 0)))
    (some false)

noncomputable def series_Check_x1 (ql : List api_Sample) (vx : Int) : Option ((Int) ⊕ (Unit ⊕ Int)) :=
  cond (decide (vx < (ql.length : Int)))
    ((at? ql vx).bind fun vy2 =>
    (series_Check_x2 vy2).bind fun vx4_1 =>
    cond (vx4_1)
      (some (.inr (.inr 5)))
      ((series_Check_x3 vy2).bind fun vx5_1 =>
      cond (vx5_1)
        (some (.inr (.inr 1)))
        ((series_Check_x4 ql vx vy2).bind fun vx6_1 =>
        cond (vx6_1)
          (some (.inr (.inr 7)))
          (some (.inl (IntKind.wrap .i64 (vx + 1)))))))
    (some (.inr (.inl ())))

noncomputable def series_Check (ql : List api_Sample) : Option (Int) :=
  cond (decide (5000 < (ql.length : Int)))
    (some 2)
    ((loopO (series_Check_x1 ql) 0).bind fun x => match x with
      | .inl _ =>
        some 0
      | .inr vx7_1 =>
        some vx7_1)

/-! ### beaconfleet/base.First -/
noncomputable def base_First_x1 (ql : List Int) (vx : Int) : Option ((Int) ⊕ (Unit ⊕ Int)) :=
  cond (decide (vx < (ql.length : Int)))
    ((at? ql vx).bind fun vy1 =>
    cond (!decide (vy1 = 0))
      (some (.inr (.inr vy1)))
      (some (.inl (IntKind.wrap .i64 (vx + 1)))))
    (some (.inr (.inl ())))

noncomputable def base_First (ql : List Int) : Option (Int) :=
  (loopO (base_First_x1 ql) 0).bind fun x => match x with
    | .inl _ =>
      some 0
    | .inr vx1_1 =>
      some vx1_1

/-! ### slices.Grow[[]beaconfleet/api.Sample,beaconfleet/api.Sample] -/
noncomputable def slices_Grow_api_Sample_api_Sample_n0_x1 (qn : Int) : Option ((List api_Sample)) :=
  cond (decide (0 < (IntKind.wrap .i64 (qn - (IntKind.wrap .i64 ((0 : Int) - 0))))))
    (gd (decide (0 ≤ (IntKind.wrap .i64 (qn - (IntKind.wrap .i64 ((0 : Int) - 0))))) && decide ((IntKind.wrap .i64 (qn - (IntKind.wrap .i64 ((0 : Int) - 0)))) ≤ 137438953472)) <|
    gd (decide (0 ≤ (0 : Int)) && decide ((0 : Int) ≤ ((List.replicate (IntKind.wrap .i64 (qn - (IntKind.wrap .i64 ((0 : Int) - 0)))).toNat (api_Sample.mk ([] : List UInt8) ([] : List UInt8) 0 0)).length : Int))) <|
    some ((List.replicate (IntKind.wrap .i64 (qn - (IntKind.wrap .i64 ((0 : Int) - 0)))).toNat (api_Sample.mk ([] : List UInt8) ([] : List UInt8) 0 0)).take (0 : Int).toNat))
    (some [])

noncomputable def slices_Grow_api_Sample_api_Sample_n0 (qn : Int) : Option ((List api_Sample)) :=
  cond (decide (qn < 0))
    (none)
    ((slices_Grow_api_Sample_api_Sample_n0_x1 qn).bind fun vs1 =>
    some vs1)

/-! ### slices.Concat[[]beaconfleet/api.Sample,beaconfleet/api.Sample] -/
noncomputable def slices_Concat_api_Sample_api_Sample_o0_x1 (qslices : List (List api_Sample)) : Int × Int → Option ((Int × Int) ⊕ (Int))
  | (vsize, vx) =>
  cond (decide (vx < (qslices.length : Int)))
    ((at? qslices vx).bind fun vy1 =>
    cond (decide ((IntKind.wrap .i64 (vsize + (vy1.length : Int))) < 0))
      (none)
      (some (.inl (IntKind.wrap .i64 (vsize + (vy1.length : Int)), IntKind.wrap .i64 (vx + 1)))))
    (some (.inr vsize))

noncomputable def slices_Concat_api_Sample_api_Sample_o0_x2 (qslices : List (List api_Sample)) : (List api_Sample) × Int → Option (((List api_Sample) × Int) ⊕ ((List api_Sample)))
  | (vnewslice, vx1) =>
  cond (decide (vx1 < (qslices.length : Int)))
    ((at? qslices vx1).bind fun vy3 =>
    gd (Nat.ble (vnewslice.length + vy3.length) LIM) <|
    some (.inl (vnewslice ++ vy3, IntKind.wrap .i64 (vx1 + 1))))
    (some (.inr vnewslice))

noncomputable def slices_Concat_api_Sample_api_Sample_o0 (qslices : List (List api_Sample)) : Option ((List api_Sample)) :=
  (loopO (slices_Concat_api_Sample_api_Sample_o0_x1 qslices) (0, 0)).bind fun vsize1_1 =>
  (slices_Grow_api_Sample_api_Sample_n0 vsize1_1).bind fun vr =>
  (loopO (slices_Concat_api_Sample_api_Sample_o0_x2 qslices) (vr, 0)).bind fun vnewslice1_1 =>
  some vnewslice1_1

/-! ### math/bits.Len64 -/
noncomputable def bits_Len64_x1 (qx : Int) : Option ((Int × Int)) :=
  cond (decide (4294967296 ≤ qx))
    (some (ishr .u64 qx 32, 32))
    (some (qx, 0))

noncomputable def bits_Len64_x2 (vx1 : Int) (vn1 : Int) : Option ((Int × Int)) :=
  cond (decide (65536 ≤ vx1))
    (some (ishr .u64 vx1 16, IntKind.wrap .i64 (vn1 + 16)))
    (some (vx1, vn1))

noncomputable def bits_Len64_x3 (vx2_1 : Int) (vn2_1 : Int) : Option ((Int × Int)) :=
  cond (decide (256 ≤ vx2_1))
    (some (ishr .u64 vx2_1 8, IntKind.wrap .i64 (vn2_1 + 8)))
    (some (vx2_1, vn2_1))

noncomputable def bits_Len64 (qx : Int) : Option (Int) :=
  (bits_Len64_x1 qx).bind fun (vx1, vn1) =>
  (bits_Len64_x2 vx1 vn1).bind fun (vx2_1, vn2_1) =>
  (bits_Len64_x3 vx2_1 vn2_1).bind fun (vx3_1, vn3_1) =>
  (at? ([0, 1, 2, 2, 3, 3, 3, 3, 4, 4, 4, 4, 4, 4, 4, 4, 5, 5, 5, 5, 5, 5, 5, 5, 5, 5, 5, 5, 5, 5, 5, 5, 6, 6, 6, 6, 6, 6, 6, 6, 6, 6, 6, 6, 6, 6, 6, 6, 6, 6, 6, 6, 6, 6, 6, 6, 6, 6, 6, 6, 6, 6, 6, 6, 7, 7, 7, 7, 7, 7, 7, 7, 7, 7, 7, 7, 7, 7, 7, 7, 7, 7, 7, 7, 7, 7, 7, 7, 7, 7, 7, 7, 7, 7, 7, 7, 7, 7, 7, 7, 7, 7, 7, 7, 7, 7, 7, 7, 7, 7, 7, 7, 7, 7, 7, 7, 7, 7, 7, 7, 7, 7, 7, 7, 7, 7, 7, 7, 8, 8, 8, 8, 8, 8, 8, 8, 8, 8, 8, 8, 8, 8, 8, 8, 8, 8, 8, 8, 8, 8, 8, 8, 8, 8, 8, 8, 8, 8, 8, 8, 8, 8, 8, 8, 8, 8, 8, 8, 8, 8, 8, 8, 8, 8, 8, 8, 8, 8, 8, 8, 8, 8, 8, 8, 8, 8, 8, 8, 8, 8, 8, 8, 8, 8, 8, 8, 8, 8, 8, 8, 8, 8, 8, 8, 8, 8, 8, 8, 8, 8, 8, 8, 8, 8, 8, 8, 8, 8, 8, 8, 8, 8, 8, 8, 8, 8, 8, 8, 8, 8, 8, 8, 8, 8, 8, 8, 8, 8, 8, 8, 8, 8, 8, 8, 8, 8, 8, 8, 8, 8, 8, 8, 8, 8, 8, 8] : List UInt8) (IntKind.wrap .u8 (vx3_1))).bind fun vc =>
  some (IntKind.wrap .i64 (vn3_1 + (IntKind.wrap .i64 ((vc.toNat : Int)))))

/-! ### math/bits.Len -/
noncomputable def bits_Len (qx : Int) : Option (Int) :=
  (bits_Len64 qx).bind fun vr =>
  some vr

/-! ### slices.insertionSortCmpFunc[beaconfleet/api.Sample] -/
noncomputable def slices_insertionSortCmpFunc_api_Sample_o0_f3_series_byDevice_x3 (qa : Int) (vl3 : List api_Sample) (vj1 : Int) : Option (Bool) :=
  cond (decide (qa < vj1))
    ((at? vl3 vj1).bind fun vy15 =>
    (at? vl3 (IntKind.wrap .i64 (vj1 - 1))).bind fun vy16 =>
    (series_byDevice vy15 vy16).bind fun vr2_3 =>
    some (decide (vr2_3 < 0)))
    (some false)

noncomputable def slices_insertionSortCmpFunc_api_Sample_o0_f3_series_byDevice_x2 (qa : Int) : (List api_Sample) × Int → Option (((List api_Sample) × Int) ⊕ ((List api_Sample)))
  | (vl3, vj1) =>
  (slices_insertionSortCmpFunc_api_Sample_o0_f3_series_byDevice_x3 qa vl3 vj1).bind fun vx4_1 =>
  cond (vx4_1)
    ((at? vl3 (IntKind.wrap .i64 (vj1 - 1))).bind fun vy17 =>
    (at? vl3 vj1).bind fun vy18 =>
    (at? (vl3.set vj1.toNat vy17) (IntKind.wrap .i64 (vj1 - 1))).bind fun vy19 =>
    some (.inl ((vl3.set vj1.toNat vy17).set (IntKind.wrap .i64 (vj1 - 1)).toNat vy18, IntKind.wrap .i64 (vj1 - 1))))
    (some (.inr vl3))

noncomputable def slices_insertionSortCmpFunc_api_Sample_o0_f3_series_byDevice_x1 (qa : Int) (qb : Int) : (List api_Sample) × Int → Option (((List api_Sample) × Int) ⊕ ((List api_Sample)))
  | (vl, vi) =>
  cond (decide (vi < qb))
    ((loopO (slices_insertionSortCmpFunc_api_Sample_o0_f3_series_byDevice_x2 qa) (vl, vi)).bind fun vl4_1 =>
    some (.inl (vl4_1, IntKind.wrap .i64 (vi + 1))))
    (some (.inr vl))

noncomputable def slices_insertionSortCmpFunc_api_Sample_o0_f3_series_byDevice (qdata : List api_Sample) (qa : Int) (qb : Int) : Option ((List api_Sample)) :=
  (loopO (slices_insertionSortCmpFunc_api_Sample_o0_f3_series_byDevice_x1 qa qb) (qdata, IntKind.wrap .i64 (qa + 1))).bind fun vl5_1 =>
  some vl5_1

/-! ### slices.order2CmpFunc[beaconfleet/api.Sample] -/
noncomputable def slices_order2CmpFunc_api_Sample_f4_series_byDevice (qdata : List api_Sample) (qa : Int) (qb : Int) (qswaps : Int) : Option (Int × Int × Int) :=
  (at? qdata qb).bind fun vy =>
  (at? qdata qa).bind fun vy1 =>
  (series_byDevice vy vy1).bind fun vr2 =>
  cond (decide (vr2 < 0))
    (some (IntKind.wrap .i64 (qswaps + 1), qb, qa))
    (some (qswaps, qa, qb))

/-! ### slices.medianCmpFunc[beaconfleet/api.Sample] -/
noncomputable def slices_medianCmpFunc_api_Sample_f5_series_byDevice (qdata : List api_Sample) (qa : Int) (qb : Int) (qc : Int) (qswaps : Int) : Option (Int × Int) :=
  (slices_order2CmpFunc_api_Sample_f4_series_byDevice qdata qa qb qswaps).bind fun (vs, vr, vr1) =>
  (slices_order2CmpFunc_api_Sample_f4_series_byDevice qdata vr1 qc vs).bind fun (vs1, vr2, vr1_1) =>
  (slices_order2CmpFunc_api_Sample_f4_series_byDevice qdata vr vr2 vs1).bind fun (vs2, vr3, vr1_2) =>
  some (vs2, vr1_2)

/-! ### slices.medianAdjacentCmpFunc[beaconfleet/api.Sample] -/
noncomputable def slices_medianAdjacentCmpFunc_api_Sample_f3_series_byDevice (qdata : List api_Sample) (qa : Int) (qswaps : Int) : Option (Int × Int) :=
  (slices_medianCmpFunc_api_Sample_f5_series_byDevice qdata (IntKind.wrap .i64 (qa - 1)) qa (IntKind.wrap .i64 (qa + 1)) qswaps).bind fun (vs3, vr4) =>
  some (vs3, vr4)

/-! ### slices.choosePivotCmpFunc[beaconfleet/api.Sample] -/
noncomputable def slices_choosePivotCmpFunc_api_Sample_f3_series_byDevice_x2 (qdata : List api_Sample) (qa : Int) (qb : Int) : Option ((Int × Int × Int × Int)) :=
  cond (decide (50 ≤ (IntKind.wrap .i64 (qb - qa))))
    ((slices_medianAdjacentCmpFunc_api_Sample_f3_series_byDevice qdata (IntKind.wrap .i64 (qa + (IntKind.wrap .i64 ((IntKind.wrap .i64 ((IntKind.wrap .i64 (qb - qa)).tdiv 4)) * 1)))) 0).bind fun (vs, vr) =>
    (slices_medianAdjacentCmpFunc_api_Sample_f3_series_byDevice qdata (IntKind.wrap .i64 (qa + (IntKind.wrap .i64 ((IntKind.wrap .i64 ((IntKind.wrap .i64 (qb - qa)).tdiv 4)) * 2)))) vs).bind fun (vs1, vr1) =>
    (slices_medianAdjacentCmpFunc_api_Sample_f3_series_byDevice qdata (IntKind.wrap .i64 (qa + (IntKind.wrap .i64 ((IntKind.wrap .i64 ((IntKind.wrap .i64 (qb - qa)).tdiv 4)) * 3)))) vs1).bind fun (vs2, vr2) =>
    some (vs2, vr, vr1, vr2))
    (some (0, IntKind.wrap .i64 (qa + (IntKind.wrap .i64 ((IntKind.wrap .i64 ((IntKind.wrap .i64 (qb - qa)).tdiv 4)) * 1))), IntKind.wrap .i64 (qa + (IntKind.wrap .i64 ((IntKind.wrap .i64 ((IntKind.wrap .i64 (qb - qa)).tdiv 4)) * 2))), IntKind.wrap .i64 (qa + (IntKind.wrap .i64 ((IntKind.wrap .i64 ((IntKind.wrap .i64 (qb - qa)).tdiv 4)) * 3)))))

noncomputable def slices_choosePivotCmpFunc_api_Sample_f3_series_byDevice_x1 (qdata : List api_Sample) (qa : Int) (qb : Int) : Option ((Int × Int)) :=
  cond (decide (8 ≤ (IntKind.wrap .i64 (qb - qa))))
    ((slices_choosePivotCmpFunc_api_Sample_f3_series_byDevice_x2 qdata qa qb).bind fun (vswaps1, vi1, vj1, vk1) =>
    (slices_medianCmpFunc_api_Sample_f5_series_byDevice qdata vi1 vj1 vk1 vswaps1).bind fun (vs3, vr4) =>
    some (vs3, vr4))
    (some (0, IntKind.wrap .i64 (qa + (IntKind.wrap .i64 ((IntKind.wrap .i64 ((IntKind.wrap .i64 (qb - qa)).tdiv 4)) * 2)))))

noncomputable def slices_choosePivotCmpFunc_api_Sample_f3_series_byDevice (qdata : List api_Sample) (qa : Int) (qb : Int) : Option (Int × Int) :=
  (slices_choosePivotCmpFunc_api_Sample_f3_series_byDevice_x1 qdata qa qb).bind fun (vswaps2_1, vj2_1) =>
  cond (decide (vswaps2_1 = 0))
    (some (vj2_1, 1))
    (cond (decide (vswaps2_1 = 12))
      (some (vj2_1, 2))
      (some (vj2_1, 0)))

/-! ### slices.reverseRangeCmpFunc[beaconfleet/api.Sample] -/
noncomputable def slices_reverseRangeCmpFunc_api_Sample_o0_f3_series_byDevice_x1 : (List api_Sample) × Int × Int → Option (((List api_Sample) × Int × Int) ⊕ ((List api_Sample)))
  | (vl, vi, vj) =>
  cond (decide (vi < vj))
    ((at? vl vj).bind fun vy3 =>
    (at? vl vi).bind fun vy4 =>
    (at? (vl.set vi.toNat vy3) vj).bind fun vy5 =>
    some (.inl ((vl.set vi.toNat vy3).set vj.toNat vy4, IntKind.wrap .i64 (vi + 1), IntKind.wrap .i64 (vj - 1))))
    (some (.inr vl))

noncomputable def slices_reverseRangeCmpFunc_api_Sample_o0_f3_series_byDevice (qdata : List api_Sample) (qa : Int) (qb : Int) : Option ((List api_Sample)) :=
  (loopO slices_reverseRangeCmpFunc_api_Sample_o0_f3_series_byDevice_x1 (qdata, qa, IntKind.wrap .i64 (qb - 1))).bind fun vl1_1 =>
  some vl1_1

/-! ### slices.partialInsertionSortCmpFunc[beaconfleet/api.Sample] -/
noncomputable def slices_partialInsertionSortCmpFunc_api_Sample_o0_f3_series_byDevice_x4 (qx2 : Int) (vl : List api_Sample) (vx10 : Int) : Option (Bool) :=
  cond (decide (vx10 < qx2))
    ((at? vl vx10).bind fun vy21 =>
    (at? vl (IntKind.wrap .i64 (vx10 - 1))).bind fun vy22 =>
    (series_byDevice vy21 vy22).bind fun vr2_7 =>
    some (!(decide (vr2_7 < 0))))
    (some false)

noncomputable def slices_partialInsertionSortCmpFunc_api_Sample_o0_f3_series_byDevice_x3 (qx2 : Int) (vl : List api_Sample) (vx10 : Int) : Option ((Int) ⊕ (Int)) :=
  (slices_partialInsertionSortCmpFunc_api_Sample_o0_f3_series_byDevice_x4 qx2 vl vx10).bind fun vx12_1 =>
  cond (vx12_1)
    (some (.inl (IntKind.wrap .i64 (vx10 + 1))))
    (some (.inr vx10))

noncomputable def slices_partialInsertionSortCmpFunc_api_Sample_o0_f3_series_byDevice_x6 : (List api_Sample) × Int → Option (((List api_Sample) × Int) ⊕ ((List api_Sample)))
  | (vl7, vx14) =>
  cond (decide (1 ≤ vx14))
    ((at? vl7 vx14).bind fun vy29 =>
    (at? vl7 (IntKind.wrap .i64 (vx14 - 1))).bind fun vy30 =>
    (series_byDevice vy29 vy30).bind fun vr2_9 =>
    cond (!(decide (vr2_9 < 0)))
      (some (.inr vl7))
      ((at? (vl7.set vx14.toNat vy30) (IntKind.wrap .i64 (vx14 - 1))).bind fun vy31 =>
      some (.inl ((vl7.set vx14.toNat vy30).set (IntKind.wrap .i64 (vx14 - 1)).toNat vy29, IntKind.wrap .i64 (vx14 - 1)))))
    (some (.inr vl7))

noncomputable def slices_partialInsertionSortCmpFunc_api_Sample_o0_f3_series_byDevice_x5 (qx1 : Int) (vl : List api_Sample) (vx13_1 : Int) (vy23 : api_Sample) (vy24 : api_Sample) : Option ((List api_Sample)) :=
  cond (decide (2 ≤ (IntKind.wrap .i64 (vx13_1 - qx1))))
    ((loopO slices_partialInsertionSortCmpFunc_api_Sample_o0_f3_series_byDevice_x6 ((vl.set vx13_1.toNat vy23).set (IntKind.wrap .i64 (vx13_1 - 1)).toNat vy24, IntKind.wrap .i64 (vx13_1 - 1))).bind fun vl8_1 =>
    some vl8_1)
    (some ((vl.set vx13_1.toNat vy23).set (IntKind.wrap .i64 (vx13_1 - 1)).toNat vy24))

noncomputable def slices_partialInsertionSortCmpFunc_api_Sample_o0_f3_series_byDevice_x7 (qx2 : Int) : (List api_Sample) × Int → Option (((List api_Sample) × Int) ⊕ ((List api_Sample)))
  | (vl10, vx15) =>
  cond (decide (vx15 < qx2))
    ((at? vl10 vx15).bind fun vy35 =>
    (at? vl10 (IntKind.wrap .i64 (vx15 - 1))).bind fun vy36 =>
    (series_byDevice vy35 vy36).bind fun vr2_11 =>
    cond (!(decide (vr2_11 < 0)))
      (some (.inr vl10))
      ((at? (vl10.set vx15.toNat vy36) (IntKind.wrap .i64 (vx15 - 1))).bind fun vy37 =>
      some (.inl ((vl10.set vx15.toNat vy36).set (IntKind.wrap .i64 (vx15 - 1)).toNat vy35, IntKind.wrap .i64 (vx15 + 1)))))
    (some (.inr vl10))

noncomputable def slices_partialInsertionSortCmpFunc_api_Sample_o0_f3_series_byDevice_x2 (qx1 : Int) (qx2 : Int) (vl : List api_Sample) (vx : Int) : Option (((List api_Sample) × Int) ⊕ Bool) :=
  (loopO (slices_partialInsertionSortCmpFunc_api_Sample_o0_f3_series_byDevice_x3 qx2 vl) vx).bind fun vx13_1 =>
  cond (decide (vx13_1 = qx2))
    (some (.inr true))
    (cond (decide ((IntKind.wrap .i64 (qx2 - qx1)) < 50))
      (some (.inr false))
      ((at? vl (IntKind.wrap .i64 (vx13_1 - 1))).bind fun vy23 =>
      (at? vl vx13_1).bind fun vy24 =>
      (at? (vl.set vx13_1.toNat vy23) (IntKind.wrap .i64 (vx13_1 - 1))).bind fun vy25 =>
      (slices_partialInsertionSortCmpFunc_api_Sample_o0_f3_series_byDevice_x5 qx1 vl vx13_1 vy23 vy24).bind fun vl9_1 =>
      cond (decide (2 ≤ (IntKind.wrap .i64 (qx2 - vx13_1))))
        ((loopO (slices_partialInsertionSortCmpFunc_api_Sample_o0_f3_series_byDevice_x7 qx2) (vl9_1, IntKind.wrap .i64 (vx13_1 + 1))).bind fun vl11_1 =>
        some (.inl (vl11_1, vx13_1)))
        (some (.inl (vl9_1, vx13_1)))))

noncomputable def slices_partialInsertionSortCmpFunc_api_Sample_o0_f3_series_byDevice_x1 (qx1 : Int) (qx2 : Int) : (List api_Sample) × Int × Int → Option (((List api_Sample) × Int × Int) ⊕ ((List api_Sample) ⊕ ((List api_Sample) × Bool)))
  | (vl, vx, vx1) =>
  cond (decide (vx1 < 5))
    ((slices_partialInsertionSortCmpFunc_api_Sample_o0_f3_series_byDevice_x2 qx1 qx2 vl vx).bind fun x => match x with
      | .inl (vl12_1, vx16_1) =>
        some (.inl (vl12_1, vx16_1, IntKind.wrap .i64 (vx1 + 1)))
      | .inr vx17_1 =>
        some (.inr (.inr (vl, vx17_1))))
    (some (.inr (.inl vl)))

noncomputable def slices_partialInsertionSortCmpFunc_api_Sample_o0_f3_series_byDevice (qx : List api_Sample) (qx1 : Int) (qx2 : Int) : Option ((List api_Sample) × Bool) :=
  (loopO (slices_partialInsertionSortCmpFunc_api_Sample_o0_f3_series_byDevice_x1 qx1 qx2) (qx, IntKind.wrap .i64 (qx1 + 1), 0)).bind fun x => match x with
    | .inl vl13_1 =>
      some (vl13_1, false)
    | .inr (vl14_1, vx18_1) =>
      some (vl14_1, vx18_1)

/-! ### slices.partitionEqualCmpFunc[beaconfleet/api.Sample] -/
noncomputable def slices_partitionEqualCmpFunc_api_Sample_o0_f4_series_byDevice_x3 (qx1 : Int) (vl : List api_Sample) (vx1 : Int) (vx10 : Int) : Option (Bool) :=
  cond (decide (vx10 ≤ vx1))
    ((at? vl qx1).bind fun vy16 =>
    (at? vl vx10).bind fun vy17 =>
    (series_byDevice vy16 vy17).bind fun vr2_5 =>
    some (!(decide (vr2_5 < 0))))
    (some false)

noncomputable def slices_partitionEqualCmpFunc_api_Sample_o0_f4_series_byDevice_x2 (qx1 : Int) (vl : List api_Sample) (vx1 : Int) (vx10 : Int) : Option ((Int) ⊕ (Int)) :=
  (slices_partitionEqualCmpFunc_api_Sample_o0_f4_series_byDevice_x3 qx1 vl vx1 vx10).bind fun vx12_1 =>
  cond (vx12_1)
    (some (.inl (IntKind.wrap .i64 (vx10 + 1))))
    (some (.inr vx10))

noncomputable def slices_partitionEqualCmpFunc_api_Sample_o0_f4_series_byDevice_x5 (qx1 : Int) (vl : List api_Sample) (vx13_1 : Int) (vx14 : Int) : Option (Bool) :=
  cond (decide (vx13_1 ≤ vx14))
    ((at? vl qx1).bind fun vy20 =>
    (at? vl vx14).bind fun vy21 =>
    (series_byDevice vy20 vy21).bind fun vr2_7 =>
    some (decide (vr2_7 < 0)))
    (some false)

noncomputable def slices_partitionEqualCmpFunc_api_Sample_o0_f4_series_byDevice_x4 (qx1 : Int) (vl : List api_Sample) (vx13_1 : Int) (vx14 : Int) : Option ((Int) ⊕ (Int)) :=
  (slices_partitionEqualCmpFunc_api_Sample_o0_f4_series_byDevice_x5 qx1 vl vx13_1 vx14).bind fun vx16_1 =>
  cond (vx16_1)
    (some (.inl (IntKind.wrap .i64 (vx14 - 1))))
    (some (.inr vx14))

noncomputable def slices_partitionEqualCmpFunc_api_Sample_o0_f4_series_byDevice_x1 (qx1 : Int) : (List api_Sample) × Int × Int → Option (((List api_Sample) × Int × Int) ⊕ (((List api_Sample) × Int)))
  | (vl, vx, vx1) =>
  (loopO (slices_partitionEqualCmpFunc_api_Sample_o0_f4_series_byDevice_x2 qx1 vl vx1) vx).bind fun vx13_1 =>
  (loopO (slices_partitionEqualCmpFunc_api_Sample_o0_f4_series_byDevice_x4 qx1 vl vx13_1) vx1).bind fun vx17_1 =>
  cond (decide (vx17_1 < vx13_1))
    (some (.inr (vl, vx13_1)))
    ((at? vl vx17_1).bind fun vy22 =>
    (at? vl vx13_1).bind fun vy23 =>
    (at? (vl.set vx13_1.toNat vy22) vx17_1).bind fun vy24 =>
    some (.inl ((vl.set vx13_1.toNat vy22).set vx17_1.toNat vy23, IntKind.wrap .i64 (vx13_1 + 1), IntKind.wrap .i64 (vx17_1 - 1))))

noncomputable def slices_partitionEqualCmpFunc_api_Sample_o0_f4_series_byDevice (qx : List api_Sample) (qx1 : Int) (qx2 : Int) (qx3 : Int) : Option ((List api_Sample) × Int) :=
  (at? qx qx3).bind fun vy =>
  (at? qx qx1).bind fun vy1 =>
  (at? (qx.set qx1.toNat vy) qx3).bind fun vy2 =>
  (loopO (slices_partitionEqualCmpFunc_api_Sample_o0_f4_series_byDevice_x1 qx1) ((qx.set qx1.toNat vy).set qx3.toNat vy1, IntKind.wrap .i64 (qx1 + 1), IntKind.wrap .i64 (qx2 - 1))).bind fun (vl1_1, vx18_1) =>
  some (vl1_1, vx18_1)

/-! ### slices.partitionCmpFunc[beaconfleet/api.Sample] -/
noncomputable def slices_partitionCmpFunc_api_Sample_o0_f4_series_byDevice_x2 (qx : List api_Sample) (qx1 : Int) (qx2 : Int) (qx3 : Int) (vy : api_Sample) (vy1 : api_Sample) (vx : Int) : Option (Bool) :=
  cond (decide (vx ≤ (IntKind.wrap .i64 (qx2 - 1))))
    ((at? ((qx.set qx1.toNat vy).set qx3.toNat vy1) vx).bind fun vy5 =>
    (at? ((qx.set qx1.toNat vy).set qx3.toNat vy1) qx1).bind fun vy6 =>
    (series_byDevice vy5 vy6).bind fun vr2_1 =>
    some (decide (vr2_1 < 0)))
    (some false)

noncomputable def slices_partitionCmpFunc_api_Sample_o0_f4_series_byDevice_x1 (qx : List api_Sample) (qx1 : Int) (qx2 : Int) (qx3 : Int) (vy : api_Sample) (vy1 : api_Sample) (vx : Int) : Option ((Int) ⊕ (Int)) :=
  (slices_partitionCmpFunc_api_Sample_o0_f4_series_byDevice_x2 qx qx1 qx2 qx3 vy vy1 vx).bind fun vx2_1 =>
  cond (vx2_1)
    (some (.inl (IntKind.wrap .i64 (vx + 1))))
    (some (.inr vx))

noncomputable def slices_partitionCmpFunc_api_Sample_o0_f4_series_byDevice_x4 (qx : List api_Sample) (qx1 : Int) (qx3 : Int) (vy : api_Sample) (vy1 : api_Sample) (vx3_1 : Int) (vx4 : Int) : Option (Bool) :=
  cond (decide (vx3_1 ≤ vx4))
    ((at? ((qx.set qx1.toNat vy).set qx3.toNat vy1) vx4).bind fun vy9 =>
    (at? ((qx.set qx1.toNat vy).set qx3.toNat vy1) qx1).bind fun vy10 =>
    (series_byDevice vy9 vy10).bind fun vr2_3 =>
    some (!(decide (vr2_3 < 0))))
    (some false)

noncomputable def slices_partitionCmpFunc_api_Sample_o0_f4_series_byDevice_x3 (qx : List api_Sample) (qx1 : Int) (qx3 : Int) (vy : api_Sample) (vy1 : api_Sample) (vx3_1 : Int) (vx4 : Int) : Option ((Int) ⊕ (Int)) :=
  (slices_partitionCmpFunc_api_Sample_o0_f4_series_byDevice_x4 qx qx1 qx3 vy vy1 vx3_1 vx4).bind fun vx6_1 =>
  cond (vx6_1)
    (some (.inl (IntKind.wrap .i64 (vx4 - 1))))
    (some (.inr vx4))

noncomputable def slices_partitionCmpFunc_api_Sample_o0_f4_series_byDevice_x7 (qx1 : Int) (vl : List api_Sample) (vx9 : Int) (vx18 : Int) : Option (Bool) :=
  cond (decide (vx18 ≤ vx9))
    ((at? vl vx18).bind fun vy30 =>
    (at? vl qx1).bind fun vy31 =>
    (series_byDevice vy30 vy31).bind fun vr2_9 =>
    some (decide (vr2_9 < 0)))
    (some false)

noncomputable def slices_partitionCmpFunc_api_Sample_o0_f4_series_byDevice_x6 (qx1 : Int) (vl : List api_Sample) (vx9 : Int) (vx18 : Int) : Option ((Int) ⊕ (Int)) :=
  (slices_partitionCmpFunc_api_Sample_o0_f4_series_byDevice_x7 qx1 vl vx9 vx18).bind fun vx20_1 =>
  cond (vx20_1)
    (some (.inl (IntKind.wrap .i64 (vx18 + 1))))
    (some (.inr vx18))

noncomputable def slices_partitionCmpFunc_api_Sample_o0_f4_series_byDevice_x9 (qx1 : Int) (vl : List api_Sample) (vx21_1 : Int) (vx22 : Int) : Option (Bool) :=
  cond (decide (vx21_1 ≤ vx22))
    ((at? vl vx22).bind fun vy34 =>
    (at? vl qx1).bind fun vy35 =>
    (series_byDevice vy34 vy35).bind fun vr2_11 =>
    some (!(decide (vr2_11 < 0))))
    (some false)

noncomputable def slices_partitionCmpFunc_api_Sample_o0_f4_series_byDevice_x8 (qx1 : Int) (vl : List api_Sample) (vx21_1 : Int) (vx22 : Int) : Option ((Int) ⊕ (Int)) :=
  (slices_partitionCmpFunc_api_Sample_o0_f4_series_byDevice_x9 qx1 vl vx21_1 vx22).bind fun vx24_1 =>
  cond (vx24_1)
    (some (.inl (IntKind.wrap .i64 (vx22 - 1))))
    (some (.inr vx22))

noncomputable def slices_partitionCmpFunc_api_Sample_o0_f4_series_byDevice_x5 (qx1 : Int) : (List api_Sample) × Int × Int → Option (((List api_Sample) × Int × Int) ⊕ (((List api_Sample) × Int)))
  | (vl, vx8, vx9) =>
  (loopO (slices_partitionCmpFunc_api_Sample_o0_f4_series_byDevice_x6 qx1 vl vx9) vx8).bind fun vx21_1 =>
  (loopO (slices_partitionCmpFunc_api_Sample_o0_f4_series_byDevice_x8 qx1 vl vx21_1) vx9).bind fun vx25_1 =>
  cond (decide (vx25_1 < vx21_1))
    (some (.inr (vl, vx25_1)))
    ((at? vl vx25_1).bind fun vy36 =>
    (at? vl vx21_1).bind fun vy37 =>
    (at? (vl.set vx21_1.toNat vy36) vx25_1).bind fun vy38 =>
    some (.inl ((vl.set vx21_1.toNat vy36).set vx25_1.toNat vy37, IntKind.wrap .i64 (vx21_1 + 1), IntKind.wrap .i64 (vx25_1 - 1))))

noncomputable def slices_partitionCmpFunc_api_Sample_o0_f4_series_byDevice (qx : List api_Sample) (qx1 : Int) (qx2 : Int) (qx3 : Int) : Option ((List api_Sample) × Int × Bool) :=
  (at? qx qx3).bind fun vy =>
  (at? qx qx1).bind fun vy1 =>
  (at? (qx.set qx1.toNat vy) qx3).bind fun vy2 =>
  (loopO (slices_partitionCmpFunc_api_Sample_o0_f4_series_byDevice_x1 qx qx1 qx2 qx3 vy vy1) (IntKind.wrap .i64 (qx1 + 1))).bind fun vx3_1 =>
  (loopO (slices_partitionCmpFunc_api_Sample_o0_f4_series_byDevice_x3 qx qx1 qx3 vy vy1 vx3_1) (IntKind.wrap .i64 (qx2 - 1))).bind fun vx7_1 =>
  cond (decide (vx7_1 < vx3_1))
    ((at? ((qx.set qx1.toNat vy).set qx3.toNat vy1) qx1).bind fun vy11 =>
    (at? ((qx.set qx1.toNat vy).set qx3.toNat vy1) vx7_1).bind fun vy12 =>
    (at? (((qx.set qx1.toNat vy).set qx3.toNat vy1).set vx7_1.toNat vy11) qx1).bind fun vy13 =>
    some ((((qx.set qx1.toNat vy).set qx3.toNat vy1).set vx7_1.toNat vy11).set qx1.toNat vy12, vx7_1, true))
    ((at? ((qx.set qx1.toNat vy).set qx3.toNat vy1) vx7_1).bind fun vy14 =>
    (at? ((qx.set qx1.toNat vy).set qx3.toNat vy1) vx3_1).bind fun vy15 =>
    (at? (((qx.set qx1.toNat vy).set qx3.toNat vy1).set vx3_1.toNat vy14) vx7_1).bind fun vy16 =>
    (loopO (slices_partitionCmpFunc_api_Sample_o0_f4_series_byDevice_x5 qx1) ((((qx.set qx1.toNat vy).set qx3.toNat vy1).set vx3_1.toNat vy14).set vx7_1.toNat vy15, IntKind.wrap .i64 (vx3_1 + 1), IntKind.wrap .i64 (vx7_1 - 1))).bind fun (vl1_1, vx26_1) =>
    (at? vl1_1 qx1).bind fun vy39 =>
    (at? vl1_1 vx26_1).bind fun vy40 =>
    (at? (vl1_1.set vx26_1.toNat vy39) qx1).bind fun vy41 =>
    some ((vl1_1.set vx26_1.toNat vy39).set qx1.toNat vy40, vx26_1, false))

/-! ### slices.nextPowerOfTwo -/
noncomputable def slices_nextPowerOfTwo (qlength : Int) : Option (Int) :=
  (bits_Len (IntKind.wrap .u64 (qlength))).bind fun vr1 =>
  gd (decide (0 ≤ vr1)) <|
  some (ishl .u64 1 vr1)

/-! ### (*slices.xorshift).Next -/
noncomputable def slices_xorshift_Next (qr : Int) : Option (Unit) :=
  some ()

/-! ### slices.breakPatternsCmpFunc[beaconfleet/api.Sample] -/
noncomputable def slices_breakPatternsCmpFunc_api_Sample_o0_f3_series_byDevice_x2 (qx1 : Int) (qx2 : Int) (vr : Int) (vx : Int) : Option (Int) :=
  cond (decide ((IntKind.wrap .i64 (qx2 - qx1)) ≤ (IntKind.wrap .i64 (ibits .and .u64 (ibits .xor .u64 (ibits .xor .u64 (ibits .xor .u64 vx (ishl .u64 vx 13)) (ishr .u64 (ibits .xor .u64 vx (ishl .u64 vx 13)) 7)) (ishl .u64 (ibits .xor .u64 (ibits .xor .u64 vx (ishl .u64 vx 13)) (ishr .u64 (ibits .xor .u64 vx (ishl .u64 vx 13)) 7)) 17)) (IntKind.wrap .u64 (vr - 1))))))
    (some (IntKind.wrap .i64 ((IntKind.wrap .i64 (ibits .and .u64 (ibits .xor .u64 (ibits .xor .u64 (ibits .xor .u64 vx (ishl .u64 vx 13)) (ishr .u64 (ibits .xor .u64 vx (ishl .u64 vx 13)) 7)) (ishl .u64 (ibits .xor .u64 (ibits .xor .u64 vx (ishl .u64 vx 13)) (ishr .u64 (ibits .xor .u64 vx (ishl .u64 vx 13)) 7)) 17)) (IntKind.wrap .u64 (vr - 1)))) - (IntKind.wrap .i64 (qx2 - qx1)))))
    (some (IntKind.wrap .i64 (ibits .and .u64 (ibits .xor .u64 (ibits .xor .u64 (ibits .xor .u64 vx (ishl .u64 vx 13)) (ishr .u64 (ibits .xor .u64 vx (ishl .u64 vx 13)) 7)) (ishl .u64 (ibits .xor .u64 (ibits .xor .u64 vx (ishl .u64 vx 13)) (ishr .u64 (ibits .xor .u64 vx (ishl .u64 vx 13)) 7)) 17)) (IntKind.wrap .u64 (vr - 1)))))

noncomputable def slices_breakPatternsCmpFunc_api_Sample_o0_f3_series_byDevice_x1 (qx1 : Int) (qx2 : Int) (vr : Int) : (List api_Sample) × Int × Int → Option (((List api_Sample) × Int × Int) ⊕ ((List api_Sample)))
  | (vl, vx, vx1) =>
  cond (decide (vx1 ≤ (IntKind.wrap .i64 ((IntKind.wrap .i64 (qx1 + (IntKind.wrap .i64 ((IntKind.wrap .i64 ((IntKind.wrap .i64 (qx2 - qx1)).tdiv 4)) * 2)))) + 1))))
    ((slices_xorshift_Next vx).bind fun _ =>
    (slices_breakPatternsCmpFunc_api_Sample_o0_f3_series_byDevice_x2 qx1 qx2 vr vx).bind fun vx3_1 =>
    (at? vl (IntKind.wrap .i64 (qx1 + vx3_1))).bind fun vy3 =>
    (at? vl vx1).bind fun vy4 =>
    (at? (vl.set vx1.toNat vy3) (IntKind.wrap .i64 (qx1 + vx3_1))).bind fun vy5 =>
    some (.inl ((vl.set vx1.toNat vy3).set (IntKind.wrap .i64 (qx1 + vx3_1)).toNat vy4, ibits .xor .u64 (ibits .xor .u64 (ibits .xor .u64 vx (ishl .u64 vx 13)) (ishr .u64 (ibits .xor .u64 vx (ishl .u64 vx 13)) 7)) (ishl .u64 (ibits .xor .u64 (ibits .xor .u64 vx (ishl .u64 vx 13)) (ishr .u64 (ibits .xor .u64 vx (ishl .u64 vx 13)) 7)) 17), IntKind.wrap .i64 (vx1 + 1))))
    (some (.inr vl))

noncomputable def slices_breakPatternsCmpFunc_api_Sample_o0_f3_series_byDevice (qx : List api_Sample) (qx1 : Int) (qx2 : Int) : Option ((List api_Sample)) :=
  cond (decide (8 ≤ (IntKind.wrap .i64 (qx2 - qx1))))
    ((slices_nextPowerOfTwo (IntKind.wrap .i64 (qx2 - qx1))).bind fun vr =>
    (loopO (slices_breakPatternsCmpFunc_api_Sample_o0_f3_series_byDevice_x1 qx1 qx2 vr) (qx, IntKind.wrap .u64 (IntKind.wrap .i64 (qx2 - qx1)), IntKind.wrap .i64 ((IntKind.wrap .i64 (qx1 + (IntKind.wrap .i64 ((IntKind.wrap .i64 ((IntKind.wrap .i64 (qx2 - qx1)).tdiv 4)) * 2)))) - 1))).bind fun vl1_1 =>
    some vl1_1)
    (some qx)

/-! ### slices.pdqsortCmpFunc[beaconfleet/api.Sample] -/
noncomputable def slices_pdqsortCmpFunc_api_Sample_o0_f4_series_byDevice_x2 (recF : (List api_Sample) → Int → Int → Int → Option ((List api_Sample))) (vl : List api_Sample) (vx : Int) (vx1 : Int) (vx2 : Int) (vx3 : Bool) : Option (((List api_Sample) × Int)) :=
  cond (!vx3)
    ((slices_breakPatternsCmpFunc_api_Sample_o0_f3_series_byDevice vl vx vx1).bind fun vl2_4 =>
    gd (vl2_4.length == vl.length) <|
    some (vl2_4, IntKind.wrap .i64 (vx2 - 1)))
    (some (vl, vx2))

noncomputable def slices_pdqsortCmpFunc_api_Sample_o0_f4_series_byDevice_x3 (recF : (List api_Sample) → Int → Int → Int → Option ((List api_Sample))) (vx : Int) (vx1 : Int) (vl7_1 : List api_Sample) (vr3_1 : Int) (vr5_1 : Int) : Option (((List api_Sample) × Int × Int)) :=
  cond (decide (vr5_1 = 2))
    ((slices_reverseRangeCmpFunc_api_Sample_o0_f3_series_byDevice vl7_1 vx vx1).bind fun vl2_5 =>
    gd (vl2_5.length == vl7_1.length) <|
    some (vl2_5, IntKind.wrap .i64 ((IntKind.wrap .i64 (vx1 - 1)) - (IntKind.wrap .i64 (vr3_1 - vx))), 1))
    (some (vl7_1, vr3_1, vr5_1))

noncomputable def slices_pdqsortCmpFunc_api_Sample_o0_f4_series_byDevice_x5 (recF : (List api_Sample) → Int → Int → Int → Option ((List api_Sample))) (vx3 : Bool) (vx4 : Bool) (vx12_1 : Int) : Option (Bool) :=
  cond (vx3)
    (cond (vx4)
      (some (decide (vx12_1 = 1)))
      (some false))
    (some false)

noncomputable def slices_pdqsortCmpFunc_api_Sample_o0_f4_series_byDevice_x4 (recF : (List api_Sample) → Int → Int → Int → Option ((List api_Sample))) (vx : Int) (vx1 : Int) (vx3 : Bool) (vx4 : Bool) (vl8_1 : List api_Sample) (vx12_1 : Int) : Option ((List api_Sample) ⊕ (List api_Sample)) :=
  (slices_pdqsortCmpFunc_api_Sample_o0_f4_series_byDevice_x5 recF vx3 vx4 vx12_1).bind fun vx13_1 =>
  cond (vx13_1)
    ((slices_partialInsertionSortCmpFunc_api_Sample_o0_f3_series_byDevice vl8_1 vx vx1).bind fun (vl15_1, vr6) =>
    gd (vl15_1.length == vl8_1.length) <|
    cond (vr6)
      (some (.inr vl15_1))
      (some (.inl vl15_1)))
    (some (.inl vl8_1))

noncomputable def slices_pdqsortCmpFunc_api_Sample_o0_f4_series_byDevice_x6 (recF : (List api_Sample) → Int → Int → Int → Option ((List api_Sample))) (vx : Int) (vx11_1 : Int) (vl9_1 : List api_Sample) : Option (Bool) :=
  cond (decide (0 < vx))
    ((at? vl9_1 (IntKind.wrap .i64 (vx - 1))).bind fun vy2 =>
    (at? vl9_1 vx11_1).bind fun vy3 =>
    (series_byDevice vy2 vy3).bind fun vr2_1 =>
    some (!(decide (vr2_1 < 0))))
    (some false)

noncomputable def slices_pdqsortCmpFunc_api_Sample_o0_f4_series_byDevice_x1 (recF : (List api_Sample) → Int → Int → Int → Option ((List api_Sample))) : (List api_Sample) × Int × Int × Int × Bool × Bool → Option (((List api_Sample) × Int × Int × Int × Bool × Bool) ⊕ ((List api_Sample)))
  | (vl, vx, vx1, vx2, vx3, vx4) =>
  cond (decide ((IntKind.wrap .i64 (vx1 - vx)) ≤ 12))
    ((slices_insertionSortCmpFunc_api_Sample_o0_f3_series_byDevice vl vx vx1).bind fun vl6_1 =>
    gd (vl6_1.length == vl.length) <|
    some (.inr vl6_1))
    (cond (decide (vx2 = 0))
      (none)
      ((slices_pdqsortCmpFunc_api_Sample_o0_f4_series_byDevice_x2 recF vl vx vx1 vx2 vx3).bind fun (vl7_1, vx10_1) =>
      (slices_choosePivotCmpFunc_api_Sample_f3_series_byDevice vl7_1 vx vx1).bind fun (vr3_1, vr5_1) =>
      (slices_pdqsortCmpFunc_api_Sample_o0_f4_series_byDevice_x3 recF vx vx1 vl7_1 vr3_1 vr5_1).bind fun (vl8_1, vx11_1, vx12_1) =>
      (slices_pdqsortCmpFunc_api_Sample_o0_f4_series_byDevice_x4 recF vx vx1 vx3 vx4 vl8_1 vx12_1).bind fun x => match x with
        | .inl vl9_1 =>
          (slices_pdqsortCmpFunc_api_Sample_o0_f4_series_byDevice_x6 recF vx vx11_1 vl9_1).bind fun vx14_1 =>
          cond (vx14_1)
            ((slices_partitionEqualCmpFunc_api_Sample_o0_f4_series_byDevice vl9_1 vx vx1 vx11_1).bind fun (vl2_6, vr7) =>
            gd (vl2_6.length == vl9_1.length) <|
            some (.inl (vl2_6, vr7, vx1, vx10_1, vx3, vx4)))
            ((slices_partitionCmpFunc_api_Sample_o0_f4_series_byDevice vl9_1 vx vx1 vx11_1).bind fun (vl2_7, vr8, vr1_2) =>
            gd (vl2_7.length == vl9_1.length) <|
            cond (decide ((IntKind.wrap .i64 (vr8 - vx)) < (IntKind.wrap .i64 (vx1 - vr8))))
              ((recF vl2_7 vx vr8 vx10_1).bind fun vl10_2 =>
              gd (vl10_2.length == vl2_7.length) <|
              some (.inl (vl10_2, IntKind.wrap .i64 (vr8 + 1), vx1, vx10_1, decide ((IntKind.wrap .i64 ((IntKind.wrap .i64 (vx1 - vx)).tdiv 8)) ≤ (IntKind.wrap .i64 (vr8 - vx))), vr1_2)))
              ((recF vl2_7 (IntKind.wrap .i64 (vr8 + 1)) vx1 vx10_1).bind fun vl10_3 =>
              gd (vl10_3.length == vl2_7.length) <|
              some (.inl (vl10_3, vx, vr8, vx10_1, decide ((IntKind.wrap .i64 ((IntKind.wrap .i64 (vx1 - vx)).tdiv 8)) ≤ (IntKind.wrap .i64 (vx1 - vr8))), vr1_2))))
        | .inr vl11_1 =>
          some (.inr vl11_1)))

noncomputable def slices_pdqsortCmpFunc_api_Sample_o0_f4_series_byDevice_n : Nat → (List api_Sample) → Int → Int → Int → Option ((List api_Sample))
  | 0, _, _, _, _ => none
  | n + 1, qx, qx1, qx2, qx3 =>
  (loopO (slices_pdqsortCmpFunc_api_Sample_o0_f4_series_byDevice_x1 (slices_pdqsortCmpFunc_api_Sample_o0_f4_series_byDevice_n n)) (qx, qx1, qx2, qx3, true, true)).bind fun vl12_1 =>
  some vl12_1

noncomputable def slices_pdqsortCmpFunc_api_Sample_o0_f4_series_byDevice (qx : List api_Sample) (qx1 : Int) (qx2 : Int) (qx3 : Int) : Option ((List api_Sample)) := fixO fun n => slices_pdqsortCmpFunc_api_Sample_o0_f4_series_byDevice_n n qx qx1 qx2 qx3

/-! ### slices.SortFunc[[]beaconfleet/api.Sample,beaconfleet/api.Sample] -/
noncomputable def slices_SortFunc_api_Sample_api_Sample_o0_f1_series_byDevice (qx : List api_Sample) : Option ((List api_Sample)) :=
  (bits_Len (IntKind.wrap .u64 ((qx.length : Int)))).bind fun vr1 =>
  (slices_pdqsortCmpFunc_api_Sample_o0_f4_series_byDevice qx 0 (qx.length : Int) vr1).bind fun vl13 =>
  gd (vl13.length == qx.length) <|
  some vl13

/-! ### slices.Compact[[]beaconfleet/api.Sample,beaconfleet/api.Sample] -/
noncomputable def slices_Compact_api_Sample_api_Sample_o0_x3 (qs : List api_Sample) (vk : Int) (vl4 : List api_Sample) (vk6 : Int) (vk2_1 : Int) : Option (((List api_Sample) × Int)) :=
  gd (decide (0 ≤ vk) && decide (0 ≤ vk2_1) && decide (vk2_1 < (qs.length : Int) - vk)) <|
  (at? vl4 (vk + vk2_1)).bind fun vy13 =>
  gd (decide (0 ≤ vk) && decide (0 ≤ (IntKind.wrap .i64 (vk2_1 - 1))) && decide ((IntKind.wrap .i64 (vk2_1 - 1)) < (qs.length : Int) - vk)) <|
  (at? vl4 (vk + (IntKind.wrap .i64 (vk2_1 - 1)))).bind fun vy14 =>
  cond (!(decide (vy13.Device = vy14.Device) && (decide (vy13.Metric = vy14.Metric) && (decide (vy13.At = vy14.At) && (decide (vy13.Value = vy14.Value) && true)))))
    ((at? vl4 vk6).bind fun vy15 =>
    some (vl4.set vk6.toNat vy13, IntKind.wrap .i64 (vk6 + 1)))
    (some (vl4, vk6))

noncomputable def slices_Compact_api_Sample_api_Sample_o0_x2 (qs : List api_Sample) (vk : Int) : (List api_Sample) × Int × Int → Option (((List api_Sample) × Int × Int) ⊕ (((List api_Sample) × Int)))
  | (vl4, vk6, vk2_1) =>
  cond (decide (vk2_1 < (((qs.length : Int).toNat - vk.toNat : Nat) : Int)))
    ((slices_Compact_api_Sample_api_Sample_o0_x3 qs vk vl4 vk6 vk2_1).bind fun (vl6_1, vk8_1) =>
    some (.inl (vl6_1, vk8_1, IntKind.wrap .i64 (vk2_1 + 1))))
    (some (.inr (vl4, vk6)))

noncomputable def slices_Compact_api_Sample_api_Sample_o0_x1 (qs : List api_Sample) (vk : Int) : Option ((Int) ⊕ (Unit ⊕ (List api_Sample))) :=
  cond (decide (vk < (qs.length : Int)))
    ((at? qs vk).bind fun vy8 =>
    (at? qs (IntKind.wrap .i64 (vk - 1))).bind fun vy9 =>
    cond ((decide (vy8.Device = vy9.Device) && (decide (vy8.Metric = vy9.Metric) && (decide (vy8.At = vy9.At) && (decide (vy8.Value = vy9.Value) && true)))))
      (gd (decide (0 ≤ vk) && decide (vk ≤ (qs.length : Int)) && decide ((qs.length : Int) ≤ (qs.length : Int))) <|
      (loopO (slices_Compact_api_Sample_api_Sample_o0_x2 qs vk) (qs, vk, 1)).bind fun (vl7_1, vk9_1) =>
      gd (decide (0 ≤ vk9_1) && decide (vk9_1 ≤ (vl7_1.length : Int)) && decide ((vl7_1.length : Int) ≤ (vl7_1.length : Int))) <|
      gd (decide (0 ≤ vk9_1) && decide (vk9_1 ≤ ((vl7_1.take vk9_1.toNat ++ (List.replicate ((vl7_1.length : Int).toNat - vk9_1.toNat) (api_Sample.mk ([] : List UInt8) ([] : List UInt8) 0 0) ++ vl7_1.drop (vk9_1.toNat + ((vl7_1.length : Int).toNat - vk9_1.toNat)))).length : Int))) <|
      some (.inr (.inr ((vl7_1.take vk9_1.toNat ++ (List.replicate ((vl7_1.length : Int).toNat - vk9_1.toNat) (api_Sample.mk ([] : List UInt8) ([] : List UInt8) 0 0) ++ vl7_1.drop (vk9_1.toNat + ((vl7_1.length : Int).toNat - vk9_1.toNat)))).take vk9_1.toNat))))
      (some (.inl (IntKind.wrap .i64 (vk + 1)))))
    (some (.inr (.inl ())))

noncomputable def slices_Compact_api_Sample_api_Sample_o0 (qs : List api_Sample) : Option ((List api_Sample)) :=
  cond (decide ((qs.length : Int) < 2))
    (some qs)
    ((loopO (slices_Compact_api_Sample_api_Sample_o0_x1 qs) 1).bind fun x => match x with
      | .inl _ =>
        some qs
      | .inr vx1 =>
        some vx1)

/-! ### beaconfleet/series.Merge -/
noncomputable def series_Merge_x1 (vr2 : List api_Sample) (vi : Int) : Option ((Int) ⊕ (Unit ⊕ Unit)) :=
  cond (decide (vi < (vr2.length : Int)))
    ((at? vr2 (IntKind.wrap .i64 (vi - 1))).bind fun vy2 =>
    (at? vr2 vi).bind fun vy3 =>
    (series_byDevice vy2 vy3).bind fun vr2_2 =>
    cond (decide (vr2_2 = 0))
      (some (.inr (.inr ())))
      (some (.inl (IntKind.wrap .i64 (vi + 1)))))
    (some (.inr (.inl ())))

noncomputable def series_Merge (qa : List api_Sample) (qb : List api_Sample) : Option ((List api_Sample) × Int) :=
  (series_Check qa).bind fun vr6 =>
  (series_Check qb).bind fun vr6_1 =>
  (base_First ([vr6, vr6_1] : List Int)).bind fun vr =>
  cond (!decide (vr = 0))
    (some ([], vr))
    ((slices_Concat_api_Sample_api_Sample_o0 ([qa, qb] : List (List api_Sample))).bind fun vr1 =>
    (slices_SortFunc_api_Sample_api_Sample_o0_f1_series_byDevice vr1).bind fun vl =>
    gd (vl.length == vr1.length) <|
    (slices_Compact_api_Sample_api_Sample_o0 vl).bind fun vr2 =>
    (loopO (series_Merge_x1 vr2) 1).bind fun x => match x with
      | .inl _ =>
        cond (decide (5000 < (vr2.length : Int)))
          (some ([], 2))
          (some (vr2, 0))
      | .inr _ =>
        some ([], 13))

/-! ### beaconfleet/base.Window -/
noncomputable def base_Window_x1 (qw : api_Window) : Option (Bool) :=
  (base_Out qw.From 0 qw.To).bind fun vr =>
  cond (!vr)
    (some (decide (qw.To ≤ 345686400000)))
    (some false)

noncomputable def base_Window (qw : api_Window) : Option (Bool) :=
  (base_Window_x1 qw).bind fun vx1 =>
  some vx1

/-! ### beaconfleet/series.in -/
noncomputable def series_in_x1 (qw : api_Window) (qat : Int) : Option (Bool) :=
  cond (decide (qw.From ≤ qat))
    (some (decide (qat < qw.To)))
    (some false)

noncomputable def series_in (qw : api_Window) (qat : Int) : Option (Bool) :=
  (series_in_x1 qw qat).bind fun vx1 =>
  some vx1

/-! ### beaconfleet/series.Of -/
noncomputable def series_Of_x1 (qdevice : List UInt8) (qmetric : List UInt8) : Option (Bool) :=
  (base_Key qdevice).bind fun vr =>
  cond (!vr)
    (some true)
    ((base_Key qmetric).bind fun vr1 =>
    some (!vr1))

noncomputable def series_Of_x4 (qdevice : List UInt8) (qmetric : List UInt8) (qw : api_Window) (vy1 : api_Sample) : Option (Bool) :=
  cond (decide (vy1.Device = qdevice))
    (cond (decide (vy1.Metric = qmetric))
      ((series_in qw vy1.At).bind fun vr3 =>
      some vr3)
      (some false))
    (some false)

noncomputable def series_Of_x3 (ql : List api_Sample) (qdevice : List UInt8) (qmetric : List UInt8) (qw : api_Window) (vout : List api_Sample) (vx2 : Int) : Option ((List api_Sample)) :=
  (at? ql vx2).bind fun vy1 =>
  (series_Of_x4 qdevice qmetric qw vy1).bind fun vx4_1 =>
  cond (vx4_1)
    (gd (Nat.ble (vout.length + ([vy1] : List api_Sample).length) LIM) <|
    some (vout ++ ([vy1] : List api_Sample)))
    (some vout)

noncomputable def series_Of_x2 (ql : List api_Sample) (qdevice : List UInt8) (qmetric : List UInt8) (qw : api_Window) : (List api_Sample) × Int → Option (((List api_Sample) × Int) ⊕ ((List api_Sample)))
  | (vout, vx2) =>
  cond (decide (vx2 < (ql.length : Int)))
    ((series_Of_x3 ql qdevice qmetric qw vout vx2).bind fun vout2_1 =>
    some (.inl (vout2_1, IntKind.wrap .i64 (vx2 + 1))))
    (some (.inr vout))

noncomputable def series_Of (ql : List api_Sample) (qdevice : List UInt8) (qmetric : List UInt8) (qw : api_Window) : Option ((List api_Sample) × Int) :=
  (series_Check ql).bind fun vr6 =>
  cond (!decide (vr6 = 0))
    (some ([], vr6))
    ((series_Of_x1 qdevice qmetric).bind fun vx1 =>
    cond (vx1)
      (some ([], 5))
      ((base_Window qw).bind fun vr1_1 =>
      cond (!vr1_1)
        (some ([], 1))
        ((loopO (series_Of_x2 ql qdevice qmetric qw) ([], 0)).bind fun vout3_1 =>
        some (vout3_1, 0))))

/-! ### beaconfleet/fleetref2.in -/
noncomputable def fleetref2_in_x1 (qn : Int) (qlow : Int) (qhigh : Int) : Option (Bool) :=
  cond (decide (qlow ≤ qn))
    (some (decide (qn ≤ qhigh)))
    (some false)

noncomputable def fleetref2_in (qn : Int) (qlow : Int) (qhigh : Int) : Option (Bool) :=
  (fleetref2_in_x1 qn qlow qhigh).bind fun vx1 =>
  some vx1

/-! ### internal/stringslite.IndexByte -/
noncomputable def stringslite_IndexByte (qs : List UInt8) (qc : Int) : Option (Unit) :=
  some ()

/-! ### strings.IndexByte -/
noncomputable def strings_IndexByte (qs : List UInt8) (qc : Int) : Option (Unit) :=
  (stringslite_IndexByte qs qc).bind fun _ =>
  some ()

/-! ### beaconfleet/fleetref2.only -/
noncomputable def fleetref2_only_x1 (qs : List UInt8) (qsome : List UInt8) (vx : Int) : Option ((Int) ⊕ (Unit ⊕ Unit)) :=
  cond (decide (vx < (qs.length : Int)))
    ((at? qs vx).bind fun vc1 =>
    (strings_IndexByte qsome (vc1.toNat : Int)).bind fun _ =>
    cond (decide ((Lib.indexByte qsome (vc1.toNat : Int).toNat.toUInt8) < 0))
      (some (.inr (.inr ())))
      (some (.inl (IntKind.wrap .i64 (vx + 1)))))
    (some (.inr (.inl ())))

noncomputable def fleetref2_only (qs : List UInt8) (qsome : List UInt8) : Option (Bool) :=
  (loopO (fleetref2_only_x1 qs qsome) 0).bind fun x => match x with
    | .inl _ =>
      some true
    | .inr _ =>
      some false

/-! ### beaconfleet/fleetref2.Key -/
noncomputable def fleetref2_Key_x1 (qs : List UInt8) : Option (Bool) :=
  (fleetref2_in (qs.length : Int) 1 40).bind fun vr =>
  cond (vr)
    ((sub? qs 0 1).bind fun vs =>
    (fleetref2_only vs ([97, 98, 99, 100, 101, 102, 103, 104, 105, 106, 107, 108, 109, 110, 111, 112, 113, 114, 115, 116, 117, 118, 119, 120, 121, 122] : List UInt8)).bind fun vr1 =>
    cond (vr1)
      ((fleetref2_only qs ([97, 98, 99, 100, 101, 102, 103, 104, 105, 106, 107, 108, 109, 110, 111, 112, 113, 114, 115, 116, 117, 118, 119, 120, 121, 122, 48, 49, 50, 51, 52, 53, 54, 55, 56, 57, 45, 95] : List UInt8)).bind fun vr2 =>
      some vr2)
      (some false))
    (some false)

noncomputable def fleetref2_Key (qs : List UInt8) : Option (Bool) :=
  (fleetref2_Key_x1 qs).bind fun vx1 =>
  some vx1

/-! ### beaconfleet/fleetref2.Moment -/
noncomputable def fleetref2_Moment (qat : Int) : Option (Bool) :=
  (fleetref2_in qat 0 345686399999).bind fun vr =>
  some vr

/-! ### beaconfleet/fleetref2.SamplesFault -/
noncomputable def fleetref2_SamplesFault_x2 (vy2 : api_Sample) : Option (Bool) :=
  (fleetref2_Key vy2.Device).bind fun vr3_2 =>
  cond (!vr3_2)
    (some true)
    ((fleetref2_Key vy2.Metric).bind fun vr3_3 =>
    some (!vr3_3))

noncomputable def fleetref2_SamplesFault_x3 (vy2 : api_Sample) : Option (Bool) :=
  (fleetref2_Moment vy2.At).bind fun vr1_2 =>
  cond (!vr1_2)
    (some true)
    ((fleetref2_in vy2.Value (-1000000000) 1000000000).bind fun vr2 =>
    some (!vr2))

noncomputable def fleetref2_SamplesFault_x4 (ql : List api_Sample) (vx : Int) (vy2 : api_Sample) : Option (Bool) :=
  cond (decide (0 < vx))
    ((at? ql (IntKind.wrap .i64 (vx - 1))).bind fun vy3 =>
    (fleetref2_SampleOrder vy3 vy2).bind fun vr1_3 =>
    some (decide (0 ≤ vr1_3)))
    (some false)

noncomputable def fleetref2_SamplesFault_x1 (ql : List api_Sample) (vx : Int) : Option ((Int) ⊕ (Unit ⊕ Int)) :=
  cond (decide (vx < (ql.length : Int)))
    ((at? ql vx).bind fun vy2 =>
    (fleetref2_SamplesFault_x2 vy2).bind fun vx4_1 =>
    cond (vx4_1)
      (some (.inr (.inr 5)))
      ((fleetref2_SamplesFault_x3 vy2).bind fun vx5_1 =>
      cond (vx5_1)
        (some (.inr (.inr 1)))
        ((fleetref2_SamplesFault_x4 ql vx vy2).bind fun vx6_1 =>
        cond (vx6_1)
          (some (.inr (.inr 7)))
          (some (.inl (IntKind.wrap .i64 (vx + 1)))))))
    (some (.inr (.inl ())))

noncomputable def fleetref2_SamplesFault (ql : List api_Sample) : Option (Int) :=
  cond (decide (5000 < (ql.length : Int)))
    (some 2)
    ((loopO (fleetref2_SamplesFault_x1 ql) 0).bind fun x => match x with
      | .inl _ =>
        some 0
      | .inr vx7_1 =>
        some vx7_1)

/-! ### beaconfleet/series.CheckSeries$1 -/
noncomputable def series_CheckSeries_1_x1 (qs : api_Sample) (qx : List api_Sample) : Option (Bool) :=
  (at? qx 0).bind fun vy =>
  cond (!decide (qs.Device = vy.Device))
    (some true)
    (some (!decide (qs.Metric = vy.Metric)))

noncomputable def series_CheckSeries_1 (qs : api_Sample) (qx : List api_Sample) : Option (Bool) :=
  (series_CheckSeries_1_x1 qs qx).bind fun vx1 =>
  some vx1

/-! ### slices.IndexFunc[[]beaconfleet/api.Sample,beaconfleet/api.Sample] -/
noncomputable def slices_IndexFunc_api_Sample_api_Sample_f1_series_CheckSeries_1_x1 (qs : List api_Sample) (vx : Int) : Option ((Int) ⊕ (Unit ⊕ Int)) :=
  cond (decide (vx < (qs.length : Int)))
    ((at? qs vx).bind fun vy1 =>
    (series_CheckSeries_1 vy1 qs).bind fun vr1 =>
    cond (vr1)
      (some (.inr (.inr vx)))
      (some (.inl (IntKind.wrap .i64 (vx + 1)))))
    (some (.inr (.inl ())))

noncomputable def slices_IndexFunc_api_Sample_api_Sample_f1_series_CheckSeries_1 (qs : List api_Sample) : Option (Int) :=
  (loopO (slices_IndexFunc_api_Sample_api_Sample_f1_series_CheckSeries_1_x1 qs) 0).bind fun x => match x with
    | .inl _ =>
      some (-1)
    | .inr vx1_1 =>
      some vx1_1

/-! ### slices.ContainsFunc[[]beaconfleet/api.Sample,beaconfleet/api.Sample] -/
noncomputable def slices_ContainsFunc_api_Sample_api_Sample_f1_series_CheckSeries_1 (qs : List api_Sample) : Option (Bool) :=
  (slices_IndexFunc_api_Sample_api_Sample_f1_series_CheckSeries_1 qs).bind fun vr2 =>
  some (decide (0 ≤ vr2))

/-! ### beaconfleet/series.CheckSeries -/
noncomputable def series_CheckSeries (ql : List api_Sample) : Option (Int) :=
  (series_Check ql).bind fun vr6 =>
  cond (!decide (vr6 = 0))
    (some vr6)
    ((slices_ContainsFunc_api_Sample_api_Sample_f1_series_CheckSeries_1 ql).bind fun vr =>
    cond (vr)
      (some 13)
      (some 0))

/-! ### beaconfleet/fleetref2.SeriesFault$1 -/
noncomputable def fleetref2_SeriesFault_1_x1 (qs : api_Sample) (qx : List api_Sample) : Option (Bool) :=
  (at? qx 0).bind fun vy =>
  cond (!decide (qs.Device = vy.Device))
    (some true)
    (some (!decide (qs.Metric = vy.Metric)))

noncomputable def fleetref2_SeriesFault_1 (qs : api_Sample) (qx : List api_Sample) : Option (Bool) :=
  (fleetref2_SeriesFault_1_x1 qs qx).bind fun vx1 =>
  some vx1

/-! ### slices.IndexFunc[[]beaconfleet/api.Sample,beaconfleet/api.Sample] -/
noncomputable def slices_IndexFunc_api_Sample_api_Sample_f1_fleetref2_SeriesFault_1_x1 (qs : List api_Sample) (vx : Int) : Option ((Int) ⊕ (Unit ⊕ Int)) :=
  cond (decide (vx < (qs.length : Int)))
    ((at? qs vx).bind fun vy1 =>
    (fleetref2_SeriesFault_1 vy1 qs).bind fun vr1 =>
    cond (vr1)
      (some (.inr (.inr vx)))
      (some (.inl (IntKind.wrap .i64 (vx + 1)))))
    (some (.inr (.inl ())))

noncomputable def slices_IndexFunc_api_Sample_api_Sample_f1_fleetref2_SeriesFault_1 (qs : List api_Sample) : Option (Int) :=
  (loopO (slices_IndexFunc_api_Sample_api_Sample_f1_fleetref2_SeriesFault_1_x1 qs) 0).bind fun x => match x with
    | .inl _ =>
      some (-1)
    | .inr vx1_1 =>
      some vx1_1

/-! ### slices.ContainsFunc[[]beaconfleet/api.Sample,beaconfleet/api.Sample] -/
noncomputable def slices_ContainsFunc_api_Sample_api_Sample_f1_fleetref2_SeriesFault_1 (qs : List api_Sample) : Option (Bool) :=
  (slices_IndexFunc_api_Sample_api_Sample_f1_fleetref2_SeriesFault_1 qs).bind fun vr2 =>
  some (decide (0 ≤ vr2))

/-! ### beaconfleet/fleetref2.SeriesFault -/
noncomputable def fleetref2_SeriesFault (ql : List api_Sample) : Option (Int) :=
  (fleetref2_SamplesFault ql).bind fun vr4 =>
  cond (!decide (vr4 = 0))
    (some vr4)
    ((slices_ContainsFunc_api_Sample_api_Sample_f1_fleetref2_SeriesFault_1 ql).bind fun vr =>
    cond (vr)
      (some 13)
      (some 0))

/-! ### beaconfleet/fleetlaw2.when -/
noncomputable def fleetlaw2_when (qis : Bool) (qe : Int) : Option (Int) :=
  cond (qis)
    (some qe)
    (some 0)

/-! ### beaconfleet/fleetref2.WindowFault -/
noncomputable def fleetref2_WindowFault_x1 (qw : api_Window) : Option (Bool) :=
  (fleetref2_in qw.From 0 qw.To).bind fun vr =>
  cond (!vr)
    (some true)
    (some (decide (345686400000 < qw.To)))

noncomputable def fleetref2_WindowFault (qw : api_Window) : Option (Int) :=
  (fleetref2_WindowFault_x1 qw).bind fun vx1 =>
  cond (vx1)
    (some 1)
    (some 0)

/-! ### beaconfleet/fleetlaw2.errs -/
noncomputable def fleetlaw2_errs_x1 (ql : List Int) (vx : Int) : Option ((Int) ⊕ (Unit ⊕ Int)) :=
  cond (decide (vx < (ql.length : Int)))
    ((at? ql vx).bind fun vy1 =>
    cond (!decide (vy1 = 0))
      (some (.inr (.inr vy1)))
      (some (.inl (IntKind.wrap .i64 (vx + 1)))))
    (some (.inr (.inl ())))

noncomputable def fleetlaw2_errs (ql : List Int) : Option (Int) :=
  (loopO (fleetlaw2_errs_x1 ql) 0).bind fun x => match x with
    | .inl _ =>
      some 0
    | .inr vx1_1 =>
      some vx1_1

/-! ### beaconfleet/fleetref2.SamplesOf -/
noncomputable def fleetref2_SamplesOf_x2 (vr : List api_Sample) (vx : Int) : Option (Bool) :=
  cond (decide (0 < vx))
    ((at? vr (IntKind.wrap .i64 (vx - 1))).bind fun vy2 =>
    (at? vr vx).bind fun vy3 =>
    (fleetref2_SampleOrder vy2 vy3).bind fun vr1_2 =>
    some (decide (vr1_2 = 0)))
    (some false)

noncomputable def fleetref2_SamplesOf_x1 (vr : List api_Sample) (vx : Int) : Option ((Int) ⊕ (Unit ⊕ Unit)) :=
  cond (decide (vx < (vr.length : Int)))
    ((fleetref2_SamplesOf_x2 vr vx).bind fun vx2_1 =>
    cond (vx2_1)
      (some (.inr (.inr ())))
      (some (.inl (IntKind.wrap .i64 (vx + 1)))))
    (some (.inr (.inl ())))

noncomputable def fleetref2_SamplesOf (qa : List api_Sample) (qb : List api_Sample) : Option ((List api_Sample) × Int) :=
  (slices_Concat_api_Sample_api_Sample_o0 ([qa, qb] : List (List api_Sample))).bind fun vr1 =>
  (slices_SortStableFunc_api_Sample_api_Sample_o0_f1_fleetref2_SampleOrder vr1).bind fun vl =>
  gd (vl.length == vr1.length) <|
  (slices_Compact_api_Sample_api_Sample_o0 vl).bind fun vr =>
  (loopO (fleetref2_SamplesOf_x1 vr) 0).bind fun x => match x with
    | .inl _ =>
      cond (decide (5000 < (vr.length : Int)))
        (some ([], 2))
        (some (vr, 0))
    | .inr _ =>
      some ([], 13)

/-! ### beaconfleet/fleetref2.within -/
noncomputable def fleetref2_within_x1 (qat : Int) (qw : api_Window) : Option (Bool) :=
  cond (decide (qw.From ≤ qat))
    (some (decide (qat < qw.To)))
    (some false)

noncomputable def fleetref2_within (qat : Int) (qw : api_Window) : Option (Bool) :=
  (fleetref2_within_x1 qat qw).bind fun vx1 =>
  some vx1

/-! ### beaconfleet/fleetref2.PickedOf$1 -/
noncomputable def fleetref2_PickedOf_1_x1 (qs : api_Sample) (qx : List UInt8) (qx1 : List UInt8) (qx2 : api_Window) : Option (Bool) :=
  cond (!decide (qs.Device = qx))
    (some true)
    (cond (!decide (qs.Metric = qx1))
      (some true)
      ((fleetref2_within qs.At qx2).bind fun vr =>
      some (!vr)))

noncomputable def fleetref2_PickedOf_1 (qs : api_Sample) (qx : List UInt8) (qx1 : List UInt8) (qx2 : api_Window) : Option (Bool) :=
  (fleetref2_PickedOf_1_x1 qs qx qx1 qx2).bind fun vx1 =>
  some vx1

/-! ### slices.IndexFunc[[]beaconfleet/api.Sample,beaconfleet/api.Sample] -/
noncomputable def slices_IndexFunc_api_Sample_api_Sample_f1_fleetref2_PickedOf_1_x1 (qs : List api_Sample) (qf : List UInt8) (qf1 : List UInt8) (qf2 : api_Window) (vx : Int) : Option ((Int) ⊕ (Unit ⊕ Int)) :=
  cond (decide (vx < (qs.length : Int)))
    ((at? qs vx).bind fun vy1 =>
    (fleetref2_PickedOf_1 vy1 qf qf1 qf2).bind fun vr1_1 =>
    cond (vr1_1)
      (some (.inr (.inr vx)))
      (some (.inl (IntKind.wrap .i64 (vx + 1)))))
    (some (.inr (.inl ())))

noncomputable def slices_IndexFunc_api_Sample_api_Sample_f1_fleetref2_PickedOf_1 (qs : List api_Sample) (qf : List UInt8) (qf1 : List UInt8) (qf2 : api_Window) : Option (Int) :=
  (loopO (slices_IndexFunc_api_Sample_api_Sample_f1_fleetref2_PickedOf_1_x1 qs qf qf1 qf2) 0).bind fun x => match x with
    | .inl _ =>
      some (-1)
    | .inr vx1_1 =>
      some vx1_1

/-! ### slices.DeleteFunc[[]beaconfleet/api.Sample,beaconfleet/api.Sample] -/
noncomputable def slices_DeleteFunc_api_Sample_api_Sample_o0_f1_fleetref2_PickedOf_1_x2 (qdel : List UInt8) (qdel1 : List UInt8) (qdel2 : api_Window) (vl : List api_Sample) (vi : Int) (vj : Int) : Option (((List api_Sample) × Int)) :=
  (at? vl vj).bind fun vy2 =>
  (fleetref2_PickedOf_1 vy2 qdel qdel1 qdel2).bind fun vr1_1 =>
  cond (!vr1_1)
    ((at? vl vi).bind fun vy3 =>
    some (vl.set vi.toNat vy2, IntKind.wrap .i64 (vi + 1)))
    (some (vl, vi))

noncomputable def slices_DeleteFunc_api_Sample_api_Sample_o0_f1_fleetref2_PickedOf_1_x1 (qdel : List UInt8) (qdel1 : List UInt8) (qdel2 : api_Window) : (List api_Sample) × Int × Int → Option (((List api_Sample) × Int × Int) ⊕ (((List api_Sample) × Int)))
  | (vl, vi, vj) =>
  cond (decide (vj < (vl.length : Int)))
    ((slices_DeleteFunc_api_Sample_api_Sample_o0_f1_fleetref2_PickedOf_1_x2 qdel qdel1 qdel2 vl vi vj).bind fun (vl2_1, vi2_1) =>
    some (.inl (vl2_1, vi2_1, IntKind.wrap .i64 (vj + 1))))
    (some (.inr (vl, vi)))

noncomputable def slices_DeleteFunc_api_Sample_api_Sample_o0_f1_fleetref2_PickedOf_1 (qs : List api_Sample) (qdel : List UInt8) (qdel1 : List UInt8) (qdel2 : api_Window) : Option ((List api_Sample)) :=
  (slices_IndexFunc_api_Sample_api_Sample_f1_fleetref2_PickedOf_1 qs qdel qdel1 qdel2).bind fun vr =>
  cond (decide (vr = (-1)))
    (some qs)
    ((loopO (slices_DeleteFunc_api_Sample_api_Sample_o0_f1_fleetref2_PickedOf_1_x1 qdel qdel1 qdel2) (qs, vr, IntKind.wrap .i64 (vr + 1))).bind fun (vl3_1, vi3_1) =>
    gd (decide (0 ≤ vi3_1) && decide (vi3_1 ≤ (vl3_1.length : Int)) && decide ((vl3_1.length : Int) ≤ (vl3_1.length : Int))) <|
    gd (decide (0 ≤ vi3_1) && decide (vi3_1 ≤ ((vl3_1.take vi3_1.toNat ++ (List.replicate ((vl3_1.length : Int).toNat - vi3_1.toNat) (api_Sample.mk ([] : List UInt8) ([] : List UInt8) 0 0) ++ vl3_1.drop (vi3_1.toNat + ((vl3_1.length : Int).toNat - vi3_1.toNat)))).length : Int))) <|
    some ((vl3_1.take vi3_1.toNat ++ (List.replicate ((vl3_1.length : Int).toNat - vi3_1.toNat) (api_Sample.mk ([] : List UInt8) ([] : List UInt8) 0 0) ++ vl3_1.drop (vi3_1.toNat + ((vl3_1.length : Int).toNat - vi3_1.toNat)))).take vi3_1.toNat))

/-! ### beaconfleet/fleetref2.PickedOf -/
noncomputable def fleetref2_PickedOf (ql : List api_Sample) (qdevice : List UInt8) (qmetric : List UInt8) (qw : api_Window) : Option ((List api_Sample)) :=
  (slices_Clone_api_Sample_api_Sample ql).bind fun vr =>
  (slices_DeleteFunc_api_Sample_api_Sample_o0_f1_fleetref2_PickedOf_1 vr qdevice qmetric qw).bind fun vr2 =>
  some vr2

/-! ### slices.Equal[[]beaconfleet/api.Sample,beaconfleet/api.Sample] -/
noncomputable def slices_Equal_api_Sample_api_Sample_x1 (qs1 : List api_Sample) (qs2 : List api_Sample) (vx : Int) : Option ((Int) ⊕ (Unit ⊕ Unit)) :=
  cond (decide (vx < (qs1.length : Int)))
    ((at? qs1 vx).bind fun vy2 =>
    (at? qs2 vx).bind fun vy3 =>
    cond (!(decide (vy2.Device = vy3.Device) && (decide (vy2.Metric = vy3.Metric) && (decide (vy2.At = vy3.At) && (decide (vy2.Value = vy3.Value) && true)))))
      (some (.inr (.inr ())))
      (some (.inl (IntKind.wrap .i64 (vx + 1)))))
    (some (.inr (.inl ())))

noncomputable def slices_Equal_api_Sample_api_Sample (qs1 : List api_Sample) (qs2 : List api_Sample) : Option (Bool) :=
  cond (!decide ((qs1.length : Int) = (qs2.length : Int)))
    (some false)
    ((loopO (slices_Equal_api_Sample_api_Sample_x1 qs1 qs2) 0).bind fun x => match x with
      | .inl _ =>
        some true
      | .inr _ =>
        some false)

/-! ### beaconfleet/series.seven -/
noncomputable def series_seven_n0_x1 : (List Int) × Int → Option (((List Int) × Int) ⊕ (((List Int) × Int)))
  | (vb, vn) =>
  cond (decide (128 ≤ vn))
    (gd (Nat.ble (vb.length + ([ibits .or .u8 (IntKind.wrap .u8 (ibits .and .u64 vn 127)) 128] : List Int).length) LIM) <|
    some (.inl (vb ++ ([ibits .or .u8 (IntKind.wrap .u8 (ibits .and .u64 vn 127)) 128] : List Int), ishr .u64 vn 7)))
    (some (.inr (vb, vn)))

noncomputable def series_seven_n0 (qn : Int) : Option ((List Int)) :=
  (loopO series_seven_n0_x1 ([], qn)).bind fun (vb1_1, vn1_1) =>
  gd (Nat.ble (vb1_1.length + ([IntKind.wrap .u8 (vn1_1)] : List Int).length) LIM) <|
  some (vb1_1 ++ ([IntKind.wrap .u8 (vn1_1)] : List Int))

/-! ### beaconfleet/series.doubled -/
noncomputable def series_doubled (qn : Int) : Option (Int) :=
  cond (decide (qn < 0))
    (some (IntKind.wrap .u64 (IntKind.wrap .i64 ((IntKind.wrap .i64 (((-2) : Int) * qn)) - 1))))
    (some (IntKind.wrap .u64 (IntKind.wrap .i64 ((2 : Int) * qn))))

/-! ### beaconfleet/series.seven -/
noncomputable def series_seven_o0_x1 : (List Int) × Int → Option (((List Int) × Int) ⊕ (((List Int) × Int)))
  | (vb, vn) =>
  cond (decide (128 ≤ vn))
    (gd (Nat.ble (vb.length + ([ibits .or .u8 (IntKind.wrap .u8 (ibits .and .u64 vn 127)) 128] : List Int).length) LIM) <|
    some (.inl (vb ++ ([ibits .or .u8 (IntKind.wrap .u8 (ibits .and .u64 vn 127)) 128] : List Int), ishr .u64 vn 7)))
    (some (.inr (vb, vn)))

noncomputable def series_seven_o0 (qb : List Int) (qn : Int) : Option ((List Int)) :=
  (loopO series_seven_o0_x1 (qb, qn)).bind fun (vb1_1, vn1_1) =>
  gd (Nat.ble (vb1_1.length + ([IntKind.wrap .u8 (vn1_1)] : List Int).length) LIM) <|
  some (vb1_1 ++ ([IntKind.wrap .u8 (vn1_1)] : List Int))

/-! ### beaconfleet/series.pack -/
noncomputable def series_pack_x2 (vat : Int) (vby : Int) (vx : Int) (vy1 : api_Sample) : Option (Int) :=
  cond (decide (0 < vx))
    (some (IntKind.wrap .i64 (vy1.At - vat)))
    (some vby)

noncomputable def series_pack_x1 (ql : List api_Sample) : (List Int) × Int × Int × Int × Int → Option (((List Int) × Int × Int × Int × Int) ⊕ ((List Int)))
  | (vout, vat, vby, vvalue, vx) =>
  cond (decide (vx < (ql.length : Int)))
    ((at? ql vx).bind fun vy1 =>
    (series_doubled (IntKind.wrap .i64 ((IntKind.wrap .i64 (vy1.At - vat)) - vby))).bind fun vr5 =>
    (series_seven_o0 vout vr5).bind fun vr6 =>
    (series_doubled (IntKind.wrap .i64 (vy1.Value - vvalue))).bind fun vr7 =>
    (series_seven_o0 vr6 vr7).bind fun vr8 =>
    (series_pack_x2 vat vby vx vy1).bind fun vby2_1 =>
    some (.inl (vr8, vy1.At, vby2_1, vy1.Value, IntKind.wrap .i64 (vx + 1))))
    (some (.inr vout))

noncomputable def series_pack (ql : List api_Sample) : Option ((List Int)) :=
  (series_seven_n0 (IntKind.wrap .u64 ((ql.length : Int)))).bind fun vr =>
  (loopO (series_pack_x1 ql) (vr, 0, 0, 0, 0)).bind fun vout1_1 =>
  some vout1_1

/-! ### beaconfleet/series.Pack -/
noncomputable def series_Pack_o0 (ql : List api_Sample) : Option ((List Int) × Int) :=
  (series_CheckSeries ql).bind fun vr1 =>
  cond (!decide (vr1 = 0))
    (some ([], vr1))
    ((series_pack ql).bind fun vr9 =>
    some (vr9, 0))

/-! ### slices.Equal[[]byte,byte] -/
noncomputable def slices_Equal_byte_byte_x1 (qs1 : List Int) (qs2 : List Int) (vx : Int) : Option ((Int) ⊕ (Unit ⊕ Unit)) :=
  cond (decide (vx < (qs1.length : Int)))
    ((at? qs1 vx).bind fun vy2 =>
    (at? qs2 vx).bind fun vy3 =>
    cond (!decide (vy2 = vy3))
      (some (.inr (.inr ())))
      (some (.inl (IntKind.wrap .i64 (vx + 1)))))
    (some (.inr (.inl ())))

noncomputable def slices_Equal_byte_byte (qs1 : List Int) (qs2 : List Int) : Option (Bool) :=
  cond (!decide ((qs1.length : Int) = (qs2.length : Int)))
    (some false)
    ((loopO (slices_Equal_byte_byte_x1 qs1 qs2) 0).bind fun x => match x with
      | .inl _ =>
        some true
      | .inr _ =>
        some false)

/-! ### beaconfleet/fleetlaw2.measured -/
noncomputable def fleetlaw2_measured_x1 (vr : List Int) (vr2 : Int) : Option (Bool) :=
  cond (decide (vr2 = 0))
    ((slices_Equal_byte_byte vr ([1, 2, 2] : List Int)).bind fun vr1 =>
    some vr1)
    (some false)

noncomputable def fleetlaw2_measured : Option (Bool) :=
  (series_Pack_o0 ([api_Sample.mk ([100] : List UInt8) ([109] : List UInt8) 1 1] : List api_Sample)).bind fun (vr, vr2) =>
  (fleetlaw2_measured_x1 vr vr2).bind fun vx1 =>
  some vx1

/-! ### beaconfleet/fleetlaw2.SamplesMerge -/
noncomputable def fleetlaw2_SamplesMerge_x2 (vr11 : List api_Sample) (vs4_1 : fleetmake_Stream) : Option ((fleetmake_Stream × Bool)) :=
  cond (decide (0 < (vr11.length : Int)))
    ((fleetmake_Stream_Flip vs4_1 2).bind fun vr2 =>
    some (fleetmake_Stream.mk vs4_1.L (IntKind.wrap .i64 (vs4_1.at_ + 1)), vr2))
    (some (vs4_1, false))

noncomputable def fleetlaw2_SamplesMerge_x1 (vr11 : List api_Sample) (vs4_1 : fleetmake_Stream) (vr11_1 : List api_Sample) : Option ((fleetmake_Stream × (List api_Sample))) :=
  (fleetlaw2_SamplesMerge_x2 vr11 vs4_1).bind fun (vx2, vx1_1) =>
  cond (vx1_1)
    ((fleetmake_Stream_Next vx2 (vr11.length : Int)).bind fun vr3 =>
    (sub? vr11 vr3 (vr11.length : Int)).bind fun vl =>
    (slices_Clone_api_Sample_api_Sample vl).bind fun vr4 =>
    some (fleetmake_Stream.mk vx2.L (IntKind.wrap .i64 (vx2.at_ + 1)), vr4))
    (some (vx2, vr11_1))

noncomputable def fleetlaw2_SamplesMerge_x3 (vr11 : List api_Sample) (vr9 : List api_Sample) (vr4_3 : Int) : Option (Bool) :=
  (series_Check vr11).bind fun vr6_1 =>
  cond (!decide (vr6_1 = vr4_3))
    (some true)
    ((series_CheckSeries vr9).bind fun vr1_1 =>
    (fleetref2_SeriesFault vr9).bind fun vr1_2 =>
    cond (!decide (vr1_1 = vr1_2))
      (some true)
      ((series_CheckSeries vr11).bind fun vr1_3 =>
      (fleetref2_SeriesFault vr11).bind fun vr1_4 =>
      some (!decide (vr1_3 = vr1_4))))

noncomputable def fleetlaw2_SamplesMerge_x4 (vr5 : List UInt8) (vr6 : List UInt8) (vr7 : api_Window) (vr4_3 : Int) : Option (Int) :=
  (fleetref2_Key vr5).bind fun vr3_2 =>
  cond (!vr3_2)
    ((fleetlaw2_when true 5).bind fun vr8 =>
    (fleetref2_WindowFault vr7).bind fun vr1_5 =>
    (fleetlaw2_errs ([vr4_3, vr8, vr1_5] : List Int)).bind fun vr10 =>
    some vr10)
    ((fleetref2_Key vr6).bind fun vr3_3 =>
    (fleetlaw2_when (!vr3_3) 5).bind fun vr12 =>
    (fleetref2_WindowFault vr7).bind fun vr1_6 =>
    (fleetlaw2_errs ([vr4_3, vr12, vr1_6] : List Int)).bind fun vr13 =>
    some vr13)

noncomputable def fleetlaw2_SamplesMerge_x5 (vr11 : List api_Sample) (vx4_1 : List api_Sample) (vr4_3 : Int) : Option ((Int × (List api_Sample))) :=
  (fleetref2_SamplesFault vx4_1).bind fun vr4_4 =>
  (fleetlaw2_errs ([vr4_3, vr4_4] : List Int)).bind fun vr14 =>
  cond (decide (vr14 = 0))
    ((fleetref2_SamplesOf vr11 vx4_1).bind fun (vr2_1, vr3_4) =>
    some (vr3_4, vr2_1))
    (some (vr14, []))

noncomputable def fleetlaw2_SamplesMerge_x6 (vr11 : List api_Sample) (vr5 : List UInt8) (vr6 : List UInt8) (vr7 : api_Window) (vx6_1 : Int) : Option ((List api_Sample)) :=
  cond (decide (vx6_1 = 0))
    ((fleetref2_PickedOf vr11 vr5 vr6 vr7).bind fun vr1_7 =>
    some vr1_7)
    (some [])

noncomputable def fleetlaw2_SamplesMerge_x7 (vr3_1 : List api_Sample) (vr4_1 : Int) (vr4_2 : List api_Sample) (vr5_1 : Int) (vx6_1 : Int) (vx7_1 : Int) (vx8_1 : List api_Sample) (vx9_1 : List api_Sample) : Option (Bool) :=
  cond (decide (vr4_1 = vx7_1))
    ((slices_Equal_api_Sample_api_Sample vr3_1 vx8_1).bind fun vr15 =>
    cond (vr15)
      (cond (decide (vr5_1 = vx6_1))
        ((slices_Equal_api_Sample_api_Sample vr4_2 vx9_1).bind fun vr16 =>
        cond (vr16)
          ((fleetlaw2_measured).bind fun vr3_5 =>
          some vr3_5)
          (some false))
        (some false))
      (some false))
    (some false)

noncomputable def fleetlaw2_SamplesMerge (qx : List Int) : Option (Bool) :=
  (fleetmake_Stream_Range (fleetmake_Stream.mk qx 0) 0 8).bind fun (vs, vr) =>
  (fleetmake_Stream_Samples vs vr).bind fun (vs4, vr11) =>
  (fleetmake_Stream_Range vs4 0 6).bind fun (vs1, vr1) =>
  (fleetmake_Stream_Samples vs1 vr1).bind fun (vs4_1, vr11_1) =>
  (fleetlaw2_SamplesMerge_x1 vr11 vs4_1 vr11_1).bind fun (vx3_1, vx4_1) =>
  (fleetmake_Stream_Some_o1 vx3_1 ([([100] : List UInt8), ([101] : List UInt8), ([120] : List UInt8), ([] : List UInt8), ([65] : List UInt8)] : List (List UInt8))).bind fun vr5 =>
  (fleetmake_Stream_Some_o1 (fleetmake_Stream.mk vx3_1.L (IntKind.wrap .i64 (vx3_1.at_ + 1))) ([([109] : List UInt8), ([110] : List UInt8), ([] : List UInt8)] : List (List UInt8))).bind fun vr6 =>
  (fleetmake_Stream_Frame (fleetmake_Stream.mk vx3_1.L (IntKind.wrap .i64 ((IntKind.wrap .i64 (vx3_1.at_ + 1)) + 1)))).bind fun (vs5, vr7) =>
  (fleetmake_Stream_Series vs5 6).bind fun (vs6, vr9) =>
  (series_Merge vr11 vx4_1).bind fun (vr3_1, vr4_1) =>
  (series_Of vr11 vr5 vr6 vr7).bind fun (vr4_2, vr5_1) =>
  (fleetref2_SamplesFault vr11).bind fun vr4_3 =>
  (fleetlaw2_SamplesMerge_x3 vr11 vr9 vr4_3).bind fun vx5_1 =>
  cond (vx5_1)
    (some false)
    ((fleetlaw2_SamplesMerge_x4 vr5 vr6 vr7 vr4_3).bind fun vx6_1 =>
    (fleetlaw2_SamplesMerge_x5 vr11 vx4_1 vr4_3).bind fun (vx7_1, vx8_1) =>
    (fleetlaw2_SamplesMerge_x6 vr11 vr5 vr6 vr7 vx6_1).bind fun vx9_1 =>
    (fleetlaw2_SamplesMerge_x7 vr3_1 vr4_1 vr4_2 vr5_1 vx6_1 vx7_1 vx8_1 vx9_1).bind fun vx10_1 =>
    some vx10_1)

end Go.Eng
