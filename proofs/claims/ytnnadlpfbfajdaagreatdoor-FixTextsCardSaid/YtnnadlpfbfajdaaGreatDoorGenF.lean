/-
The Go functions that the law FixTexts reaches, as plain functions.
-/
import Derived.Test.YtnnadlpfbfajdaaGreatDoorEngV

import Derived.Lib.ItoaNum

import Derived.Lib.Join

namespace Go.Eng

open Go

set_option linter.unusedVariables false

structure fleetmake_Stream where
  L : List Int
  at_ : Int

def fleetmake_Stream.enc (x : fleetmake_Stream) : List D := [.lst (List.map (encI .i64) x.L), .int .i64 x.at_]

structure api_Fix where
  Device : List UInt8
  At : Int
  X : Int
  Y : Int
  Error : Int

def api_Fix.enc (x : api_Fix) : List D := [.str x.Device, .int .i64 x.At, .int .i64 x.X, .int .i64 x.Y, .int .i64 x.Error]

structure api_Spot where
  X : Int
  Y : Int

def api_Spot.enc (x : api_Spot) : List D := [.int .i64 x.X, .int .i64 x.Y]

/-! ### beaconfleet/fleetmake.Below -/
noncomputable def fleetmake_Below_x1 (qx : Int) (qn : Int) : Option (Int) :=
  cond (decide ((qx.tmod qn) < 0))
    (some (IntKind.wrap .i64 ((qx.tmod qn) + qn)))
    (some (qx.tmod qn))

noncomputable def fleetmake_Below (qx : Int) (qn : Int) : Option (Int) :=
  cond (decide (qn < 1))
    (some 0)
    (gd (!(qn == 0)) <|
    (fleetmake_Below_x1 qx qn).bind fun vx1 =>
    some vx1)

/-! ### (*beaconfleet/fleetmake.Stream).Next -/
noncomputable def fleetmake_Stream_Next (qs : fleetmake_Stream) (qn : Int) : Option (Int) :=
  cond (decide ((qs.L.length : Int) = 0))
    ((fleetmake_Below (IntKind.wrap .i64 ((IntKind.wrap .i64 (qs.at_ + 1)) * 7919)) qn).bind fun vr =>
    some vr)
    (gd (!((qs.L.length : Int) == 0)) <|
    (at? qs.L ((IntKind.wrap .i64 ((IntKind.wrap .i64 (qs.at_ + 1)) - 1)).tmod (qs.L.length : Int))).bind fun vy =>
    (fleetmake_Below vy 1073741824).bind fun vr1 =>
    (fleetmake_Below (IntKind.wrap .i64 (vr1 + (IntKind.wrap .i64 ((IntKind.wrap .i64 ((IntKind.wrap .i64 ((IntKind.wrap .i64 (qs.at_ + 1)) - 1)).tdiv (qs.L.length : Int))) * (IntKind.wrap .i64 ((7919 : Int) + ((IntKind.wrap .i64 ((IntKind.wrap .i64 (qs.at_ + 1)) - 1)).tmod (qs.L.length : Int)))))))) qn).bind fun vr2 =>
    some vr2)

/-! ### (*beaconfleet/fleetmake.Stream).Range -/
noncomputable def fleetmake_Stream_Range (qs : fleetmake_Stream) (qlow : Int) (qhigh : Int) : Option (fleetmake_Stream × Int) :=
  cond (decide (qhigh < qlow))
    (some (qs, qlow))
    ((fleetmake_Stream_Next qs (IntKind.wrap .i64 ((IntKind.wrap .i64 (qhigh - qlow)) + 1))).bind fun vr3 =>
    some (fleetmake_Stream.mk qs.L (IntKind.wrap .i64 (qs.at_ + 1)), IntKind.wrap .i64 (qlow + vr3)))

/-! ### (*beaconfleet/fleetmake.Stream).Some -/
noncomputable def fleetmake_Stream_Some_o1 (qs : fleetmake_Stream) (ql : List (List UInt8)) : Option ((List UInt8)) :=
  (fleetmake_Stream_Next qs (ql.length : Int)).bind fun vr3 =>
  (at? ql vr3).bind fun vy =>
  some vy

/-! ### (*beaconfleet/fleetmake.Stream).Pick -/
noncomputable def fleetmake_Stream_Pick_o1 (qs : fleetmake_Stream) (ql : List Int) : Option (Int) :=
  (fleetmake_Stream_Next qs (ql.length : Int)).bind fun vr3 =>
  (at? ql vr3).bind fun vy =>
  some vy

/-! ### internal/bytealg.CompareString -/
noncomputable def bytealg_CompareString (qa : List UInt8) (qb : List UInt8) : Option (Unit) :=
  some ()

/-! ### strings.Compare -/
noncomputable def strings_Compare (qa : List UInt8) (qb : List UInt8) : Option (Unit) :=
  (bytealg_CompareString qa qb).bind fun _ =>
  some ()

/-! ### beaconfleet/fleetref2.sign -/
noncomputable def fleetref2_sign (qn : Int) : Option (Int) :=
  cond (decide (qn < 0))
    (some (-1))
    (cond (decide (0 < qn))
      (some 1)
      (some 0))

/-! ### beaconfleet/fleetref2.FixOrder -/
noncomputable def fleetref2_FixOrder (qa : api_Fix) (qb : api_Fix) : Option (Int) :=
  cond (!decide (qa.Device = qb.Device))
    ((strings_Compare qa.Device qb.Device).bind fun _ =>
    some (Lib.compareBytes qa.Device qb.Device))
    ((fleetref2_sign (IntKind.wrap .i64 (qa.At - qb.At))).bind fun vr =>
    some vr)

/-! ### slices.insertionSortCmpFunc[beaconfleet/api.Fix] -/
noncomputable def slices_insertionSortCmpFunc_api_Fix_o0_f3_fleetref2_FixOrder_x3 (qa : Int) (vl3 : List api_Fix) (vj1 : Int) : Option (Bool) :=
  cond (decide (qa < vj1))
    ((at? vl3 vj1).bind fun vy15 =>
    (at? vl3 (IntKind.wrap .i64 (vj1 - 1))).bind fun vy16 =>
    (fleetref2_FixOrder vy15 vy16).bind fun vr1_3 =>
    some (decide (vr1_3 < 0)))
    (some false)

noncomputable def slices_insertionSortCmpFunc_api_Fix_o0_f3_fleetref2_FixOrder_x2 (qa : Int) : (List api_Fix) × Int → Option (((List api_Fix) × Int) ⊕ ((List api_Fix)))
  | (vl3, vj1) =>
  (slices_insertionSortCmpFunc_api_Fix_o0_f3_fleetref2_FixOrder_x3 qa vl3 vj1).bind fun vx4_1 =>
  cond (vx4_1)
    ((at? vl3 (IntKind.wrap .i64 (vj1 - 1))).bind fun vy17 =>
    (at? vl3 vj1).bind fun vy18 =>
    (at? (vl3.set vj1.toNat vy17) (IntKind.wrap .i64 (vj1 - 1))).bind fun vy19 =>
    some (.inl ((vl3.set vj1.toNat vy17).set (IntKind.wrap .i64 (vj1 - 1)).toNat vy18, IntKind.wrap .i64 (vj1 - 1))))
    (some (.inr vl3))

noncomputable def slices_insertionSortCmpFunc_api_Fix_o0_f3_fleetref2_FixOrder_x1 (qa : Int) (qb : Int) : (List api_Fix) × Int → Option (((List api_Fix) × Int) ⊕ ((List api_Fix)))
  | (vl, vi) =>
  cond (decide (vi < qb))
    ((loopO (slices_insertionSortCmpFunc_api_Fix_o0_f3_fleetref2_FixOrder_x2 qa) (vl, vi)).bind fun vl4_1 =>
    some (.inl (vl4_1, IntKind.wrap .i64 (vi + 1))))
    (some (.inr vl))

noncomputable def slices_insertionSortCmpFunc_api_Fix_o0_f3_fleetref2_FixOrder (qdata : List api_Fix) (qa : Int) (qb : Int) : Option ((List api_Fix)) :=
  (loopO (slices_insertionSortCmpFunc_api_Fix_o0_f3_fleetref2_FixOrder_x1 qa qb) (qdata, IntKind.wrap .i64 (qa + 1))).bind fun vl5_1 =>
  some vl5_1

/-! ### slices.stableCmpFunc[beaconfleet/api.Fix] -/
noncomputable def slices_stableCmpFunc_api_Fix_o0_f2_fleetref2_FixOrder_x1 (qn : Int) : (List api_Fix) × Int × Int → Option (((List api_Fix) × Int × Int) ⊕ (((List api_Fix) × Int)))
  | (vl, va, vb) =>
  cond (decide (vb ≤ qn))
    ((slices_insertionSortCmpFunc_api_Fix_o0_f3_fleetref2_FixOrder vl va vb).bind fun vl6_1 =>
    gd (vl6_1.length == vl.length) <|
    some (.inl (vl6_1, vb, IntKind.wrap .i64 (vb + 20))))
    (some (.inr (vl, va)))

noncomputable def slices_stableCmpFunc_api_Fix_o0_f2_fleetref2_FixOrder_x3 (qn : Int) (vblockSize : Int) : Unit → Option ((Unit) ⊕ (Unit))
  | _ =>
  cond (decide ((IntKind.wrap .i64 ((2 : Int) * vblockSize)) ≤ qn))
    (none)
    (some (.inr ()))

noncomputable def slices_stableCmpFunc_api_Fix_o0_f2_fleetref2_FixOrder_x2 (qn : Int) (vblockSize : Int) : Option ((Int) ⊕ (Unit)) :=
  cond (decide (vblockSize < qn))
    ((loopO (slices_stableCmpFunc_api_Fix_o0_f2_fleetref2_FixOrder_x3 qn vblockSize) ()).bind fun _ =>
    cond (decide ((IntKind.wrap .i64 ((0 : Int) + vblockSize)) < qn))
      (none)
      (some (.inl (IntKind.wrap .i64 (vblockSize * 2)))))
    (some (.inr ()))

noncomputable def slices_stableCmpFunc_api_Fix_o0_f2_fleetref2_FixOrder (qdata : List api_Fix) (qn : Int) : Option ((List api_Fix)) :=
  (loopO (slices_stableCmpFunc_api_Fix_o0_f2_fleetref2_FixOrder_x1 qn) (qdata, 0, 20)).bind fun (vl1_1, va1_1) =>
  (slices_insertionSortCmpFunc_api_Fix_o0_f3_fleetref2_FixOrder vl1_1 va1_1 qn).bind fun vl6_2 =>
  gd (vl6_2.length == vl1_1.length) <|
  (loopO (slices_stableCmpFunc_api_Fix_o0_f2_fleetref2_FixOrder_x2 qn) 20).bind fun _ =>
  some vl6_2

/-! ### slices.SortStableFunc[[]beaconfleet/api.Fix,beaconfleet/api.Fix] -/
noncomputable def slices_SortStableFunc_api_Fix_api_Fix_o0_f1_fleetref2_FixOrder (qx : List api_Fix) : Option ((List api_Fix)) :=
  (slices_stableCmpFunc_api_Fix_o0_f2_fleetref2_FixOrder qx (qx.length : Int)).bind fun vl2 =>
  gd (vl2.length == qx.length) <|
  some vl2

/-! ### (*beaconfleet/fleetmake.Stream).Flip -/
noncomputable def fleetmake_Stream_Flip (qs : fleetmake_Stream) (qn : Int) : Option (Bool) :=
  (fleetmake_Stream_Next qs qn).bind fun vr3 =>
  some (decide (vr3 = 0))

/-! ### (*beaconfleet/fleetmake.Stream).Fixes$1 -/
noncomputable def fleetmake_Stream_Fixes_1 (qa : api_Fix) (qb : api_Fix) : Option (Bool) :=
  (fleetref2_FixOrder qa qb).bind fun vr1 =>
  some (decide (vr1 = 0))

/-! ### slices.CompactFunc[[]beaconfleet/api.Fix,beaconfleet/api.Fix] -/
noncomputable def slices_CompactFunc_api_Fix_api_Fix_o0_f1_fleetmake_Stream_Fixes_1_x3 (qx : List api_Fix) (vx : Int) (vl4 : List api_Fix) (vx6 : Int) (vx7 : Int) : Option (((List api_Fix) × Int)) :=
  gd (decide (0 ≤ vx) && decide (0 ≤ vx7) && decide (vx7 < (qx.length : Int) - vx)) <|
  (at? vl4 (vx + vx7)).bind fun vy13 =>
  gd (decide (0 ≤ vx) && decide (0 ≤ (IntKind.wrap .i64 (vx7 - 1))) && decide ((IntKind.wrap .i64 (vx7 - 1)) < (qx.length : Int) - vx)) <|
  (at? vl4 (vx + (IntKind.wrap .i64 (vx7 - 1)))).bind fun vy14 =>
  (fleetmake_Stream_Fixes_1 vy13 vy14).bind fun vr5 =>
  cond (!vr5)
    ((at? vl4 vx6).bind fun vy15 =>
    some (vl4.set vx6.toNat vy13, IntKind.wrap .i64 (vx6 + 1)))
    (some (vl4, vx6))

noncomputable def slices_CompactFunc_api_Fix_api_Fix_o0_f1_fleetmake_Stream_Fixes_1_x2 (qx : List api_Fix) (vx : Int) : (List api_Fix) × Int × Int → Option (((List api_Fix) × Int × Int) ⊕ (((List api_Fix) × Int)))
  | (vl4, vx6, vx7) =>
  cond (decide (vx7 < (((qx.length : Int).toNat - vx.toNat : Nat) : Int)))
    ((slices_CompactFunc_api_Fix_api_Fix_o0_f1_fleetmake_Stream_Fixes_1_x3 qx vx vl4 vx6 vx7).bind fun (vl6_1, vx9_1) =>
    some (.inl (vl6_1, vx9_1, IntKind.wrap .i64 (vx7 + 1))))
    (some (.inr (vl4, vx6)))

noncomputable def slices_CompactFunc_api_Fix_api_Fix_o0_f1_fleetmake_Stream_Fixes_1_x1 (qx : List api_Fix) (vx : Int) : Option ((Int) ⊕ (Unit ⊕ (List api_Fix))) :=
  cond (decide (vx < (qx.length : Int)))
    ((at? qx vx).bind fun vy8 =>
    (at? qx (IntKind.wrap .i64 (vx - 1))).bind fun vy9 =>
    (fleetmake_Stream_Fixes_1 vy8 vy9).bind fun vr3 =>
    cond (vr3)
      (gd (decide (0 ≤ vx) && decide (vx ≤ (qx.length : Int)) && decide ((qx.length : Int) ≤ (qx.length : Int))) <|
      (loopO (slices_CompactFunc_api_Fix_api_Fix_o0_f1_fleetmake_Stream_Fixes_1_x2 qx vx) (qx, vx, 1)).bind fun (vl7_1, vx10_1) =>
      gd (decide (0 ≤ vx10_1) && decide (vx10_1 ≤ (vl7_1.length : Int)) && decide ((vl7_1.length : Int) ≤ (vl7_1.length : Int))) <|
      gd (decide (0 ≤ vx10_1) && decide (vx10_1 ≤ ((vl7_1.take vx10_1.toNat ++ (List.replicate ((vl7_1.length : Int).toNat - vx10_1.toNat) (api_Fix.mk ([] : List UInt8) 0 0 0 0) ++ vl7_1.drop (vx10_1.toNat + ((vl7_1.length : Int).toNat - vx10_1.toNat)))).length : Int))) <|
      some (.inr (.inr ((vl7_1.take vx10_1.toNat ++ (List.replicate ((vl7_1.length : Int).toNat - vx10_1.toNat) (api_Fix.mk ([] : List UInt8) 0 0 0 0) ++ vl7_1.drop (vx10_1.toNat + ((vl7_1.length : Int).toNat - vx10_1.toNat)))).take vx10_1.toNat))))
      (some (.inl (IntKind.wrap .i64 (vx + 1)))))
    (some (.inr (.inl ())))

noncomputable def slices_CompactFunc_api_Fix_api_Fix_o0_f1_fleetmake_Stream_Fixes_1 (qx : List api_Fix) : Option ((List api_Fix)) :=
  cond (decide ((qx.length : Int) < 2))
    (some qx)
    ((loopO (slices_CompactFunc_api_Fix_api_Fix_o0_f1_fleetmake_Stream_Fixes_1_x1 qx) 1).bind fun x => match x with
      | .inl _ =>
        some qx
      | .inr vx11_1 =>
        some vx11_1)

/-! ### (*beaconfleet/fleetmake.Stream).Odd -/
noncomputable def fleetmake_Stream_Odd (qs : fleetmake_Stream) (qlow : Int) (qhigh : Int) : Option (fleetmake_Stream × Int) :=
  (fleetmake_Stream_Flip qs 12).bind fun vr =>
  cond (vr)
    ((fleetmake_Stream_Pick_o1 (fleetmake_Stream.mk qs.L (IntKind.wrap .i64 (qs.at_ + 1))) ([IntKind.wrap .i64 (qlow - 1), IntKind.wrap .i64 (qhigh + 1), qlow, qhigh, (-1099511627776), 1099511627776] : List Int)).bind fun vr1 =>
    some (fleetmake_Stream.mk qs.L (IntKind.wrap .i64 ((IntKind.wrap .i64 (qs.at_ + 1)) + 1)), vr1))
    ((fleetmake_Stream_Range (fleetmake_Stream.mk qs.L (IntKind.wrap .i64 (qs.at_ + 1))) qlow qhigh).bind fun (vs, vr2) =>
    some (vs, vr2))

/-! ### (*beaconfleet/fleetmake.Stream).Fixes -/
noncomputable def fleetmake_Stream_Fixes_x1 (qx1 : Int) : fleetmake_Stream × (List api_Fix) × Int → Option ((fleetmake_Stream × (List api_Fix) × Int) ⊕ ((fleetmake_Stream × (List api_Fix))))
  | (vs, vx, vx1) =>
  cond (decide (vx1 < qx1))
    ((fleetmake_Stream_Some_o1 vs ([([100] : List UInt8), ([100] : List UInt8), ([101] : List UInt8)] : List (List UInt8))).bind fun vr4 =>
    (fleetmake_Stream_Pick_o1 (fleetmake_Stream.mk vs.L (IntKind.wrap .i64 (vs.at_ + 1))) ([0, 1, 5, 10] : List Int)).bind fun vr5 =>
    (fleetmake_Stream_Pick_o1 (fleetmake_Stream.mk vs.L (IntKind.wrap .i64 ((IntKind.wrap .i64 (vs.at_ + 1)) + 1))) ([0, 1] : List Int)).bind fun vr6 =>
    (fleetmake_Stream_Pick_o1 (fleetmake_Stream.mk vs.L (IntKind.wrap .i64 ((IntKind.wrap .i64 ((IntKind.wrap .i64 (vs.at_ + 1)) + 1)) + 1))) ([0, 1, 2] : List Int)).bind fun vr7 =>
    gd (Nat.ble (vx.length + ([api_Fix.mk vr4 vr5 vr6 vr7 0] : List api_Fix).length) LIM) <|
    some (.inl (fleetmake_Stream.mk vs.L (IntKind.wrap .i64 ((IntKind.wrap .i64 ((IntKind.wrap .i64 ((IntKind.wrap .i64 (vs.at_ + 1)) + 1)) + 1)) + 1)), vx ++ ([api_Fix.mk vr4 vr5 vr6 vr7 0] : List api_Fix), IntKind.wrap .i64 (vx1 + 1))))
    (some (.inr (vs, vx)))

noncomputable def fleetmake_Stream_Fixes_x2 (vs1_1 : fleetmake_Stream) (vl : List api_Fix) : Option ((List api_Fix)) :=
  (fleetmake_Stream_Flip vs1_1 40).bind fun vr8 =>
  cond (!vr8)
    ((slices_CompactFunc_api_Fix_api_Fix_o0_f1_fleetmake_Stream_Fixes_1 vl).bind fun vr6_1 =>
    some vr6_1)
    (some vl)

noncomputable def fleetmake_Stream_Fixes_x4 (vs1_1 : fleetmake_Stream) (vx3_1 : List api_Fix) : Option ((fleetmake_Stream × Bool)) :=
  cond (decide (0 < (vx3_1.length : Int)))
    ((fleetmake_Stream_Flip (fleetmake_Stream.mk vs1_1.L (IntKind.wrap .i64 (vs1_1.at_ + 1))) 20).bind fun vr9 =>
    some (fleetmake_Stream.mk vs1_1.L (IntKind.wrap .i64 ((IntKind.wrap .i64 (vs1_1.at_ + 1)) + 1)), vr9))
    (some (fleetmake_Stream.mk vs1_1.L (IntKind.wrap .i64 (vs1_1.at_ + 1)), false))

noncomputable def fleetmake_Stream_Fixes_x3 (vs1_1 : fleetmake_Stream) (vx3_1 : List api_Fix) : Option ((fleetmake_Stream × (List api_Fix))) :=
  (fleetmake_Stream_Fixes_x4 vs1_1 vx3_1).bind fun (vs2_1, vx4_1) =>
  cond (vx4_1)
    ((fleetmake_Stream_Next vs2_1 (vx3_1.length : Int)).bind fun vr3_1 =>
    (at? vx3_1 vr3_1).bind fun vy =>
    (fleetmake_Stream_Some_o1 (fleetmake_Stream.mk vs2_1.L (IntKind.wrap .i64 (vs2_1.at_ + 1))) ([vy.Device, ([] : List UInt8), ([65] : List UInt8)] : List (List UInt8))).bind fun vr10 =>
    (fleetmake_Stream_Odd (fleetmake_Stream.mk vs2_1.L (IntKind.wrap .i64 ((IntKind.wrap .i64 (vs2_1.at_ + 1)) + 1))) 0 10).bind fun (vs1_2, vr3_2) =>
    (fleetmake_Stream_Odd vs1_2 (-10000) 10000).bind fun (vs1_3, vr3_3) =>
    some (vs1_3, ((vx3_1.set vr3_1.toNat (api_Fix.mk vr10 vy.At vy.X vy.Y vy.Error)).set vr3_1.toNat (api_Fix.mk vr10 vr3_2 vy.X vy.Y vy.Error)).set vr3_1.toNat (api_Fix.mk vr10 vr3_2 vy.X vr3_3 vy.Error)))
    (some (vs2_1, vx3_1))

noncomputable def fleetmake_Stream_Fixes (qx : fleetmake_Stream) (qx1 : Int) : Option (fleetmake_Stream × (List api_Fix)) :=
  (loopO (fleetmake_Stream_Fixes_x1 qx1) (qx, [], 0)).bind fun (vs1_1, vx2_1) =>
  (slices_SortStableFunc_api_Fix_api_Fix_o0_f1_fleetref2_FixOrder vx2_1).bind fun vl =>
  gd (vl.length == vx2_1.length) <|
  (fleetmake_Stream_Fixes_x2 vs1_1 vl).bind fun vx3_1 =>
  (fleetmake_Stream_Fixes_x3 vs1_1 vx3_1).bind fun (vs3_1, vx5_1) =>
  some (vs3_1, vx5_1)

/-! ### beaconfleet/fleetref2.in -/
noncomputable def fleetref2_in_x1 (qn : Int) (qlow : Int) (qhigh : Int) : Option (Bool) :=
  cond (decide (qlow ≤ qn))
    (some (decide (qn ≤ qhigh)))
    (some false)

noncomputable def fleetref2_in (qn : Int) (qlow : Int) (qhigh : Int) : Option (Bool) :=
  (fleetref2_in_x1 qn qlow qhigh).bind fun vx1 =>
  some vx1

/-! ### internal/stringslite.IndexByte -/
noncomputable def stringslite_IndexByte (qs : List UInt8) (qc : Int) : Option (Unit) :=
  some ()

/-! ### strings.IndexByte -/
noncomputable def strings_IndexByte (qs : List UInt8) (qc : Int) : Option (Unit) :=
  (stringslite_IndexByte qs qc).bind fun _ =>
  some ()

/-! ### beaconfleet/fleetref2.only -/
noncomputable def fleetref2_only_x1 (qs : List UInt8) (qsome : List UInt8) (vx : Int) : Option ((Int) ⊕ (Unit ⊕ Unit)) :=
  cond (decide (vx < (qs.length : Int)))
    ((at? qs vx).bind fun vc1 =>
    (strings_IndexByte qsome (vc1.toNat : Int)).bind fun _ =>
    cond (decide ((Lib.indexByte qsome (vc1.toNat : Int).toNat.toUInt8) < 0))
      (some (.inr (.inr ())))
      (some (.inl (IntKind.wrap .i64 (vx + 1)))))
    (some (.inr (.inl ())))

noncomputable def fleetref2_only (qs : List UInt8) (qsome : List UInt8) : Option (Bool) :=
  (loopO (fleetref2_only_x1 qs qsome) 0).bind fun x => match x with
    | .inl _ =>
      some true
    | .inr _ =>
      some false

/-! ### beaconfleet/fleetref2.Key -/
noncomputable def fleetref2_Key_x1 (qs : List UInt8) : Option (Bool) :=
  (fleetref2_in (qs.length : Int) 1 40).bind fun vr =>
  cond (vr)
    ((sub? qs 0 1).bind fun vs =>
    (fleetref2_only vs ([97, 98, 99, 100, 101, 102, 103, 104, 105, 106, 107, 108, 109, 110, 111, 112, 113, 114, 115, 116, 117, 118, 119, 120, 121, 122] : List UInt8)).bind fun vr1 =>
    cond (vr1)
      ((fleetref2_only qs ([97, 98, 99, 100, 101, 102, 103, 104, 105, 106, 107, 108, 109, 110, 111, 112, 113, 114, 115, 116, 117, 118, 119, 120, 121, 122, 48, 49, 50, 51, 52, 53, 54, 55, 56, 57, 45, 95] : List UInt8)).bind fun vr2 =>
      some vr2)
      (some false))
    (some false)

noncomputable def fleetref2_Key (qs : List UInt8) : Option (Bool) :=
  (fleetref2_Key_x1 qs).bind fun vx1 =>
  some vx1

/-! ### beaconfleet/fleetref2.Moment -/
noncomputable def fleetref2_Moment (qat : Int) : Option (Bool) :=
  (fleetref2_in qat 0 345686399999).bind fun vr =>
  some vr

/-! ### beaconfleet/fleetref2.spotOf -/
noncomputable def fleetref2_spotOf (qx : api_Fix) : Option (Unit) :=
  some ()

/-! ### beaconfleet/fleetref2.SpotFault -/
noncomputable def fleetref2_SpotFault_x1 (qs : api_Spot) : Option (Bool) :=
  (fleetref2_in qs.X (-10000) 10000).bind fun vr =>
  cond (!vr)
    (some true)
    ((fleetref2_in qs.Y (-10000) 10000).bind fun vr1 =>
    some (!vr1))

noncomputable def fleetref2_SpotFault (qs : api_Spot) : Option (Int) :=
  (fleetref2_SpotFault_x1 qs).bind fun vx1 =>
  cond (vx1)
    (some 1)
    (some 0)

/-! ### beaconfleet/fleetref2.FixesFault -/
noncomputable def fleetref2_FixesFault_x2 (vy2 : api_Fix) : Option (Bool) :=
  (fleetref2_Moment vy2.At).bind fun vr1_2 =>
  cond (!vr1_2)
    (some true)
    ((fleetref2_spotOf vy2).bind fun _ =>
    (fleetref2_SpotFault (api_Spot.mk vy2.X vy2.Y)).bind fun vr2_1 =>
    cond (!decide (vr2_1 = 0))
      (some true)
      ((fleetref2_in vy2.Error 0 10000).bind fun vr4 =>
      some (!vr4)))

noncomputable def fleetref2_FixesFault_x3 (ql : List api_Fix) (vx : Int) (vy2 : api_Fix) : Option (Bool) :=
  cond (decide (0 < vx))
    ((at? ql (IntKind.wrap .i64 (vx - 1))).bind fun vy3 =>
    (fleetref2_FixOrder vy3 vy2).bind fun vr1_3 =>
    some (decide (0 ≤ vr1_3)))
    (some false)

noncomputable def fleetref2_FixesFault_x1 (ql : List api_Fix) (vx : Int) : Option ((Int) ⊕ (Unit ⊕ Int)) :=
  cond (decide (vx < (ql.length : Int)))
    ((at? ql vx).bind fun vy2 =>
    (fleetref2_Key vy2.Device).bind fun vr3_1 =>
    cond (!vr3_1)
      (some (.inr (.inr 5)))
      ((fleetref2_FixesFault_x2 vy2).bind fun vx3_1 =>
      cond (vx3_1)
        (some (.inr (.inr 1)))
        ((fleetref2_FixesFault_x3 ql vx vy2).bind fun vx4_1 =>
        cond (vx4_1)
          (some (.inr (.inr 7)))
          (some (.inl (IntKind.wrap .i64 (vx + 1)))))))
    (some (.inr (.inl ())))

noncomputable def fleetref2_FixesFault (ql : List api_Fix) : Option (Int) :=
  cond (decide (2000 < (ql.length : Int)))
    (some 2)
    ((loopO (fleetref2_FixesFault_x1 ql) 0).bind fun x => match x with
      | .inl _ =>
        some 0
      | .inr vx5_1 =>
        some vx5_1)

/-! ### strconv.Itoa -/
noncomputable def strconv_Itoa (qi : Int) : Option (List UInt8) :=
  gd (decide (-9223372036854775808 ≤ qi) && decide (qi ≤ 9223372036854775807)) (some (Lib.itoa qi))

/-! ### strings.Join -/
noncomputable def strings_Join_o0 (qx : List (List UInt8)) (qx1 : List UInt8) : Option (List UInt8) :=
  gd (decide (qx.length ≤ 140737488355328) && decide ((Lib.join qx qx1).length ≤ 140737488355328)) (some (Lib.join qx qx1))

/-! ### beaconfleet/fleetref2.FixLines -/
noncomputable def fleetref2_FixLines_x2 (vy3 : api_Fix) : (List (List UInt8)) × Int → Option (((List (List UInt8)) × Int) ⊕ ((List (List UInt8))))
  | (vw2, vx2) =>
  cond (decide (vx2 < (([vy3.At, vy3.X, vy3.Y, vy3.Error] : List Int).length : Int)))
    ((at? ([vy3.At, vy3.X, vy3.Y, vy3.Error] : List Int) vx2).bind fun vy5 =>
    (strconv_Itoa vy5).bind fun vr4 =>
    gd (Nat.ble (vw2.length + ([vr4] : List (List UInt8)).length) LIM) <|
    some (.inl (vw2 ++ ([vr4] : List (List UInt8)), IntKind.wrap .i64 (vx2 + 1))))
    (some (.inr vw2))

noncomputable def fleetref2_FixLines_x1 (ql : List api_Fix) : (List UInt8) × Int → Option (((List UInt8) × Int) ⊕ ((List UInt8)))
  | (vout, vx) =>
  cond (decide (vx < (ql.length : Int)))
    ((at? ql vx).bind fun vy3 =>
    (loopO (fleetref2_FixLines_x2 vy3) (([vy3.Device] : List (List UInt8)), 0)).bind fun vw3_1 =>
    (strings_Join_o0 vw3_1 ([32] : List UInt8)).bind fun vr5 =>
    gd (Nat.ble (vr5.length + ([10] : List UInt8).length) LIM) <|
    gd (Nat.ble (vout.length + (vr5 ++ ([10] : List UInt8)).length) LIM) <|
    some (.inl (vout ++ (vr5 ++ ([10] : List UInt8)), IntKind.wrap .i64 (vx + 1))))
    (some (.inr vout))

noncomputable def fleetref2_FixLines (ql : List api_Fix) : Option ((List UInt8)) :=
  (loopO (fleetref2_FixLines_x1 ql) (([] : List UInt8), 0)).bind fun vout1_1 =>
  some vout1_1

/-! ### (*beaconfleet/fleetmake.Stream).Changed -/
noncomputable def fleetmake_Stream_Changed_x1 (qt : List UInt8) (qwith : List UInt8) : Option (Bool) :=
  cond (decide (qt = ([] : List UInt8)))
    (some true)
    (some (decide (qwith = ([] : List UInt8))))

noncomputable def fleetmake_Stream_Changed (qs : fleetmake_Stream) (qt : List UInt8) (qwith : List UInt8) : Option (fleetmake_Stream × (List UInt8)) :=
  (fleetmake_Stream_Changed_x1 qt qwith).bind fun vx1 =>
  cond (vx1)
    (some (qs, qwith))
    ((fleetmake_Stream_Next qs (qt.length : Int)).bind fun vr3 =>
    (fleetmake_Stream_Next (fleetmake_Stream.mk qs.L (IntKind.wrap .i64 (qs.at_ + 1))) (qwith.length : Int)).bind fun vr3_1 =>
    (at? qwith vr3_1).bind fun vc =>
    (fleetmake_Stream_Next (fleetmake_Stream.mk qs.L (IntKind.wrap .i64 ((IntKind.wrap .i64 (qs.at_ + 1)) + 1))) 3).bind fun vr3_2 =>
    cond (decide (vr3_2 = 0))
      ((sub? qt 0 vr3).bind fun vs =>
      gd (Nat.ble (vs.length + (runeS (IntKind.wrap .i32 ((vc.toNat : Int)))).length) LIM) <|
      (sub? qt (IntKind.wrap .i64 (vr3 + 1)) (qt.length : Int)).bind fun vs1 =>
      gd (Nat.ble ((vs ++ (runeS (IntKind.wrap .i32 ((vc.toNat : Int))))).length + vs1.length) LIM) <|
      some (fleetmake_Stream.mk qs.L (IntKind.wrap .i64 ((IntKind.wrap .i64 ((IntKind.wrap .i64 (qs.at_ + 1)) + 1)) + 1)), (vs ++ (runeS (IntKind.wrap .i32 ((vc.toNat : Int))))) ++ vs1))
      (cond (decide (vr3_2 = 1))
        ((sub? qt 0 vr3).bind fun vs2 =>
        gd (Nat.ble (vs2.length + (runeS (IntKind.wrap .i32 ((vc.toNat : Int)))).length) LIM) <|
        (sub? qt vr3 (qt.length : Int)).bind fun vs3 =>
        gd (Nat.ble ((vs2 ++ (runeS (IntKind.wrap .i32 ((vc.toNat : Int))))).length + vs3.length) LIM) <|
        some (fleetmake_Stream.mk qs.L (IntKind.wrap .i64 ((IntKind.wrap .i64 ((IntKind.wrap .i64 (qs.at_ + 1)) + 1)) + 1)), (vs2 ++ (runeS (IntKind.wrap .i32 ((vc.toNat : Int))))) ++ vs3))
        ((sub? qt 0 vr3).bind fun vs4 =>
        (sub? qt (IntKind.wrap .i64 (vr3 + 1)) (qt.length : Int)).bind fun vs5 =>
        gd (Nat.ble (vs4.length + vs5.length) LIM) <|
        some (fleetmake_Stream.mk qs.L (IntKind.wrap .i64 ((IntKind.wrap .i64 ((IntKind.wrap .i64 (qs.at_ + 1)) + 1)) + 1)), vs4 ++ vs5))))

/-! ### (*beaconfleet/fleetmake.Stream).FixText -/
noncomputable def fleetmake_Stream_FixText_x1 (qs : fleetmake_Stream) : Option ((fleetmake_Stream × (List UInt8))) :=
  (fleetmake_Stream_Range qs 0 4).bind fun (vs, vr) =>
  (fleetmake_Stream_Fixes vs vr).bind fun (vs4, vr11) =>
  (fleetref2_FixesFault vr11).bind fun vr5 =>
  cond (decide (vr5 = 0))
    ((fleetref2_FixLines vr11).bind fun vr6 =>
    some (vs4, vr6))
    (some (vs4, ([] : List UInt8)))

noncomputable def fleetmake_Stream_FixText_x2 (vr1 : Int) : fleetmake_Stream × (List UInt8) × Int → Option ((fleetmake_Stream × (List UInt8) × Int) ⊕ ((fleetmake_Stream × (List UInt8))))
  | (vs2, vt2, vx) =>
  cond (decide (vx < vr1))
    ((fleetmake_Stream_Changed vs2 vt2 ([32, 10, 48, 45, 57, 100] : List UInt8)).bind fun (vs6_1, vr3) =>
    some (.inl (vs6_1, vr3, IntKind.wrap .i64 (vx + 1))))
    (some (.inr (vs2, vt2)))

noncomputable def fleetmake_Stream_FixText (qs : fleetmake_Stream) : Option (fleetmake_Stream × (List UInt8)) :=
  (fleetmake_Stream_FixText_x1 qs).bind fun (vs1_1, vt1) =>
  (fleetmake_Stream_Pick_o1 vs1_1 ([0, 0, 1, 2] : List Int)).bind fun vr1 =>
  (loopO (fleetmake_Stream_FixText_x2 vr1) (fleetmake_Stream.mk vs1_1.L (IntKind.wrap .i64 (vs1_1.at_ + 1)), vt1, 0)).bind fun (vs3_1, vt3_1) =>
  some (vs3_1, vt3_1)

/-! ### beaconfleet/base.Key -/
noncomputable def base_Key_x1 (qs : List UInt8) : Option (Bool) :=
  cond (decide (qs = ([] : List UInt8)))
    (some true)
    (cond (decide (40 < (qs.length : Int)))
      (some true)
      ((at? qs 0).bind fun vc =>
      cond (decide ((vc.toNat : Int) < 97))
        (some true)
        (some (decide (122 < (vc.toNat : Int))))))

noncomputable def base_Key_x3 (vc2 : UInt8) : Option (Bool) :=
  cond (decide (97 ≤ (vc2.toNat : Int)))
    (cond (decide ((vc2.toNat : Int) ≤ 122))
      (some false)
      (cond (decide (48 ≤ (vc2.toNat : Int)))
        (cond (decide ((vc2.toNat : Int) ≤ 57))
          (some false)
          (cond (decide ((vc2.toNat : Int) = 45))
            (some false)
            (some (!(decide ((vc2.toNat : Int) = 95))))))
        (cond (decide ((vc2.toNat : Int) = 45))
          (some false)
          (some (!(decide ((vc2.toNat : Int) = 95)))))))
    (cond (decide (48 ≤ (vc2.toNat : Int)))
      (cond (decide ((vc2.toNat : Int) ≤ 57))
        (some false)
        (cond (decide ((vc2.toNat : Int) = 45))
          (some false)
          (some (!(decide ((vc2.toNat : Int) = 95))))))
      (cond (decide ((vc2.toNat : Int) = 45))
        (some false)
        (some (!(decide ((vc2.toNat : Int) = 95))))))

noncomputable def base_Key_x2 (qs : List UInt8) (vx2 : Int) : Option ((Int) ⊕ (Unit ⊕ Unit)) :=
  cond (decide (vx2 < (qs.length : Int)))
    ((at? qs vx2).bind fun vc2 =>
    (base_Key_x3 vc2).bind fun vx4_1 =>
    cond (vx4_1)
      (some (.inr (.inr ())))
      (some (.inl (IntKind.wrap .i64 (vx2 + 1)))))
    (some (.inr (.inl ())))

noncomputable def base_Key (qs : List UInt8) : Option (Bool) :=
  (base_Key_x1 qs).bind fun vx1 =>
  cond (vx1)
    (some false)
    ((loopO (base_Key_x2 qs) 0).bind fun x => match x with
      | .inl _ =>
        some true
      | .inr _ =>
        some false)

/-! ### beaconfleet/base.Out -/
noncomputable def base_Out_x1 (qn : Int) (qlow : Int) (qhigh : Int) : Option (Bool) :=
  cond (decide (qn < qlow))
    (some true)
    (some (decide (qhigh < qn)))

noncomputable def base_Out (qn : Int) (qlow : Int) (qhigh : Int) : Option (Bool) :=
  (base_Out_x1 qn qlow qhigh).bind fun vx1 =>
  some vx1

/-! ### beaconfleet/base.Moment -/
noncomputable def base_Moment (qn : Int) : Option (Bool) :=
  (base_Out qn 0 345686399999).bind fun vr =>
  some (!vr)

/-! ### beaconfleet/place.spot -/
noncomputable def place_spot (qx : api_Fix) : Option (Unit) :=
  some ()

/-! ### beaconfleet/place.isSpot -/
noncomputable def place_isSpot_x1 (qs : api_Spot) : Option (Bool) :=
  (base_Out qs.X (-10000) 10000).bind fun vr =>
  cond (!vr)
    ((base_Out qs.Y (-10000) 10000).bind fun vr1 =>
    some (!vr1))
    (some false)

noncomputable def place_isSpot (qs : api_Spot) : Option (Bool) :=
  (place_isSpot_x1 qs).bind fun vx1 =>
  some vx1

/-! ### cmp.isNaN[int] -/
noncomputable def cmp_isNaN_int (qx : Int) : Option (Unit) :=
  some ()

/-! ### cmp.Compare[int] -/
noncomputable def cmp_Compare_int (qx : Int) (qy : Int) : Option (Int) :=
  (cmp_isNaN_int qx).bind fun _ =>
  (cmp_isNaN_int qy).bind fun _ =>
  cond (!decide (qx = qx))
    (cond (!decide (qy = qy))
      (some 0)
      (some (-1)))
    (cond (!decide (qy = qy))
      (some 1)
      (cond (decide (qx < qy))
        (some (-1))
        (cond (decide (qy < qx))
          (some 1)
          (some 0))))

/-! ### cmp.Or[int] -/
noncomputable def cmp_Or_int_x1 (qvals : List Int) (vx : Int) : Option ((Int) ⊕ (Unit ⊕ Int)) :=
  cond (decide (vx < (qvals.length : Int)))
    ((at? qvals vx).bind fun vy1 =>
    cond (!decide (vy1 = 0))
      (some (.inr (.inr vy1)))
      (some (.inl (IntKind.wrap .i64 (vx + 1)))))
    (some (.inr (.inl ())))

noncomputable def cmp_Or_int (qvals : List Int) : Option (Int) :=
  (loopO (cmp_Or_int_x1 qvals) 0).bind fun x => match x with
    | .inl _ =>
      some 0
    | .inr vx1_1 =>
      some vx1_1

/-! ### beaconfleet/place.byDevice -/
noncomputable def place_byDevice (qa : api_Fix) (qb : api_Fix) : Option (Int) :=
  (strings_Compare qa.Device qb.Device).bind fun _ =>
  (cmp_Compare_int qa.At qb.At).bind fun vr =>
  (cmp_Or_int ([Lib.compareBytes qa.Device qb.Device, vr] : List Int)).bind fun vr1 =>
  some vr1

/-! ### beaconfleet/place.CheckFixes -/
noncomputable def place_CheckFixes_x2 (vy2 : api_Fix) : Option (Bool) :=
  (base_Moment vy2.At).bind fun vr1_1 =>
  cond (!vr1_1)
    (some true)
    ((place_spot vy2).bind fun _ =>
    (place_isSpot (api_Spot.mk vy2.X vy2.Y)).bind fun vr2_2 =>
    cond (!vr2_2)
      (some true)
      ((base_Out vy2.Error 0 10000).bind fun vr5 =>
      some vr5))

noncomputable def place_CheckFixes_x3 (ql : List api_Fix) (vx : Int) (vy2 : api_Fix) : Option (Bool) :=
  cond (decide (0 < vx))
    ((at? ql (IntKind.wrap .i64 (vx - 1))).bind fun vy3 =>
    (place_byDevice vy2 vy3).bind fun vr2_3 =>
    some (decide (vr2_3 ≤ 0)))
    (some false)

noncomputable def place_CheckFixes_x1 (ql : List api_Fix) (vx : Int) : Option ((Int) ⊕ (Unit ⊕ Int)) :=
  cond (decide (vx < (ql.length : Int)))
    ((at? ql vx).bind fun vy2 =>
    (base_Key vy2.Device).bind fun vr4 =>
    cond (!vr4)
      (some (.inr (.inr 5)))
      ((place_CheckFixes_x2 vy2).bind fun vx3_1 =>
      cond (vx3_1)
        (some (.inr (.inr 1)))
        ((place_CheckFixes_x3 ql vx vy2).bind fun vx4_1 =>
        cond (vx4_1)
          (some (.inr (.inr 7)))
          (some (.inl (IntKind.wrap .i64 (vx + 1)))))))
    (some (.inr (.inl ())))

noncomputable def place_CheckFixes (ql : List api_Fix) : Option (Int) :=
  cond (decide (2000 < (ql.length : Int)))
    (some 2)
    ((loopO (place_CheckFixes_x1 ql) 0).bind fun x => match x with
      | .inl _ =>
        some 0
      | .inr vx5_1 =>
        some vx5_1)

/-! ### (*strings.Builder).copyCheck -/
noncomputable def strings_Builder_copyCheck_o (qb : List Int) : Option (Unit) :=
  some ()

/-! ### (*strings.Builder).WriteString -/
noncomputable def strings_Builder_WriteString_b0so (qb : List Int) (qs : List UInt8) : Option (Unit) :=
  (strings_Builder_copyCheck_o qb).bind fun _ =>
  gd (Nat.ble (qb.length + qs.length) LIM) <|
  some ()

/-! ### (*strings.Builder).Len -/
noncomputable def strings_Builder_Len_b0so (qb : List Int) : Option (Unit) :=
  some ()

/-! ### (*strings.Builder).String -/
noncomputable def strings_Builder_String_o (qb : List Int) : Option (List UInt8) :=
  gd (qb.all fun n => decide (0 ≤ n) && decide (n < 256)) (some (qb.map fun n => UInt8.ofNat n.toNat))

/-! ### beaconfleet/place.Text -/
noncomputable def place_Text_x2 (vy3 : api_Fix) : (List Int) × Int → Option (((List Int) × Int) ⊕ ((List Int)))
  | (vout3, vx2) =>
  cond (decide (vx2 < (([vy3.At, vy3.X, vy3.Y, vy3.Error] : List Int).length : Int)))
    ((at? ([vy3.At, vy3.X, vy3.Y, vy3.Error] : List Int) vx2).bind fun vy5 =>
    (strconv_Itoa vy5).bind fun vr3 =>
    gd (Nat.ble (([32] : List UInt8).length + vr3.length) LIM) <|
    (strings_Builder_WriteString_b0so vout3 (([32] : List UInt8) ++ vr3)).bind fun _ =>
    some (.inl (vout3 ++ bytesD (([32] : List UInt8) ++ vr3), IntKind.wrap .i64 (vx2 + 1))))
    (some (.inr vout3))

noncomputable def place_Text_x1 (ql : List api_Fix) : (List Int) × Int → Option (((List Int) × Int) ⊕ ((List Int)))
  | (vout, vx) =>
  cond (decide (vx < (ql.length : Int)))
    ((at? ql vx).bind fun vy3 =>
    (strings_Builder_WriteString_b0so vout vy3.Device).bind fun _ =>
    (loopO (place_Text_x2 vy3) (vout ++ bytesD vy3.Device, 0)).bind fun vout4_1 =>
    (strings_Builder_WriteString_b0so vout4_1 ([10] : List UInt8)).bind fun _ =>
    some (.inl (vout4_1 ++ bytesD ([10] : List UInt8), IntKind.wrap .i64 (vx + 1))))
    (some (.inr vout))

noncomputable def place_Text (ql : List api_Fix) : Option ((List UInt8) × Int) :=
  (place_CheckFixes ql).bind fun vr6 =>
  cond (!decide (vr6 = 0))
    (some (([] : List UInt8), vr6))
    ((loopO (place_Text_x1 ql) ([], 0)).bind fun vout5_1 =>
    (strings_Builder_Len_b0so vout5_1).bind fun _ =>
    cond (decide (200000 < (vout5_1.length : Int)))
      (some (([] : List UInt8), 2))
      ((strings_Builder_String_o vout5_1).bind fun vr4 =>
      some (vr4, 0)))

/-! ### internal/stringslite.HasSuffix -/
noncomputable def stringslite_HasSuffix_x1 (qs : List UInt8) (qsuffix : List UInt8) : Option (Bool) :=
  cond (decide ((qsuffix.length : Int) ≤ (qs.length : Int)))
    ((sub? qs (IntKind.wrap .i64 ((qs.length : Int) - (qsuffix.length : Int))) (qs.length : Int)).bind fun vs =>
    some (decide (vs = qsuffix)))
    (some false)

noncomputable def stringslite_HasSuffix (qs : List UInt8) (qsuffix : List UInt8) : Option (Bool) :=
  (stringslite_HasSuffix_x1 qs qsuffix).bind fun vx1 =>
  some vx1

/-! ### internal/stringslite.CutSuffix -/
noncomputable def stringslite_CutSuffix (qs : List UInt8) (qsuffix : List UInt8) : Option ((List UInt8) × Bool) :=
  (stringslite_HasSuffix qs qsuffix).bind fun vr =>
  cond (!vr)
    (some (qs, false))
    ((sub? qs 0 (IntKind.wrap .i64 ((qs.length : Int) - (qsuffix.length : Int)))).bind fun vs =>
    some (vs, true))

/-! ### strings.CutSuffix -/
noncomputable def strings_CutSuffix (qs : List UInt8) (qsuffix : List UInt8) : Option ((List UInt8) × Bool) :=
  (stringslite_CutSuffix qs qsuffix).bind fun (vr1, vr2) =>
  some (vr1, vr2)

/-! ### unicode/utf8.RuneCountInString -/
noncomputable def utf8_RuneCountInString_x1 (qs : List UInt8) : Nat × Int → Option ((Nat × Int) ⊕ (Int))
  | (vpos, vn) =>
  cond (decide (vpos < qs.length))
    ((some (dec qs vpos)).bind fun vd1 =>
    some (.inl ((vpos + vd1.2 : Nat), IntKind.wrap .i64 (vn + 1))))
    (some (.inr vn))

noncomputable def utf8_RuneCountInString (qs : List UInt8) : Option (Int) :=
  (loopO (utf8_RuneCountInString_x1 qs) ((0 : Nat), 0)).bind fun vn1_1 =>
  some vn1_1

/-! ### unicode/utf8.decodeRuneInStringSlow -/
noncomputable def utf8_decodeRuneInStringSlow (qx : List UInt8) : Option (Unit) :=
  cond (decide ((qx.length : Int) < 1))
    (some ())
    ((at? qx 0).bind fun vc =>
    none)

/-! ### unicode/utf8.DecodeRuneInString -/
noncomputable def utf8_DecodeRuneInString_x1 (qs : List UInt8) : Option (Bool) :=
  cond (!decide (qs = ([] : List UInt8)))
    ((at? qs 0).bind fun vc =>
    some (decide ((vc.toNat : Int) < 128)))
    (some false)

noncomputable def utf8_DecodeRuneInString (qs : List UInt8) : Option (Int × Int) :=
  (utf8_DecodeRuneInString_x1 qs).bind fun vx1 =>
  cond (vx1)
    ((at? qs 0).bind fun vc1 =>
    some (IntKind.wrap .i32 ((vc1.toNat : Int)), 1))
    ((utf8_decodeRuneInStringSlow qs).bind fun _ =>
    some (65533, 0))

/-! ### strings.explode -/
noncomputable def strings_explode_x2 (qn : Int) (vr : Int) : Option (Bool) :=
  cond (decide (qn < 0))
    (some true)
    (some (decide (vr < qn)))

noncomputable def strings_explode_x1 (qn : Int) (vr : Int) : Option (Int) :=
  (strings_explode_x2 qn vr).bind fun vx1 =>
  cond (vx1)
    (some vr)
    (some qn)

noncomputable def strings_explode_x3 (vn1 : Int) : (List UInt8) × (List (List UInt8)) × Int → Option (((List UInt8) × (List (List UInt8)) × Int) ⊕ (((List UInt8) × (List (List UInt8)))))
  | (vs, va, vi) =>
  cond (decide (vi < (IntKind.wrap .i64 (vn1 - 1))))
    ((utf8_DecodeRuneInString vs).bind fun (vr2, vr1_2) =>
    (sub? vs 0 vr1_2).bind fun vs3 =>
    (at? va vi).bind fun vy1 =>
    (sub? vs vr1_2 (vs.length : Int)).bind fun vs4 =>
    some (.inl (vs4, va.set vi.toNat vs3, IntKind.wrap .i64 (vi + 1))))
    (some (.inr (vs, va)))

noncomputable def strings_explode_x4 (vn1 : Int) (vs5_1 : List UInt8) (va1_1 : List (List UInt8)) : Option ((List (List UInt8))) :=
  cond (decide (0 < vn1))
    ((at? va1_1 (IntKind.wrap .i64 (vn1 - 1))).bind fun vy2 =>
    some (va1_1.set (IntKind.wrap .i64 (vn1 - 1)).toNat vs5_1))
    (some va1_1)

noncomputable def strings_explode (qs : List UInt8) (qn : Int) : Option ((List (List UInt8))) :=
  (utf8_RuneCountInString qs).bind fun vr =>
  (strings_explode_x1 qn vr).bind fun vn1 =>
  gd (decide (0 ≤ vn1) && decide (vn1 ≤ vn1) && decide (vn1 ≤ 137438953472)) <|
  (loopO (strings_explode_x3 vn1) (qs, List.replicate vn1.toNat ([] : List UInt8), 0)).bind fun (vs5_1, va1_1) =>
  (strings_explode_x4 vn1 vs5_1 va1_1).bind fun va2_1 =>
  some va2_1

/-! ### internal/stringslite.Index -/
noncomputable def stringslite_Index_x1 (qx : List UInt8) (qx1 : List UInt8) : Option (Bool) :=
  cond (decide ((qx1.length : Int) = 0))
    (some true)
    (some (decide (qx1 = qx)))

noncomputable def stringslite_Index (qx : List UInt8) (qx1 : List UInt8) : Option (Int) :=
  (stringslite_Index_x1 qx qx1).bind fun vx1 =>
  cond (vx1)
    (some 0)
    (cond (decide ((qx1.length : Int) = 1))
      ((at? qx1 0).bind fun vc =>
      (stringslite_IndexByte qx (vc.toNat : Int)).bind fun _ =>
      some (Lib.indexByte qx (vc.toNat : Int).toNat.toUInt8))
      (cond (decide ((qx.length : Int) ≤ (qx1.length : Int)))
        (some (-1))
        (none)))

/-! ### strings.Index -/
noncomputable def strings_Index (qs : List UInt8) (qsubstr : List UInt8) : Option (Int) :=
  (stringslite_Index qs qsubstr).bind fun vr =>
  some vr

/-! ### strings.Count -/
noncomputable def strings_Count_x1 (qsubstr : List UInt8) : (List UInt8) × Int → Option (((List UInt8) × Int) ⊕ (Int))
  | (vs, vn) =>
  (strings_Index vs qsubstr).bind fun vr1_1 =>
  cond (decide (vr1_1 = (-1)))
    (some (.inr vn))
    ((sub? vs (IntKind.wrap .i64 (vr1_1 + (qsubstr.length : Int))) (vs.length : Int)).bind fun vs2 =>
    some (.inl (vs2, IntKind.wrap .i64 (vn + 1))))

noncomputable def strings_Count (qs : List UInt8) (qsubstr : List UInt8) : Option (Int) :=
  cond (decide ((qsubstr.length : Int) = 0))
    ((utf8_RuneCountInString qs).bind fun vr =>
    some (IntKind.wrap .i64 (vr + 1)))
    (cond (decide ((qsubstr.length : Int) = 1))
      ((at? qsubstr 0).bind fun vc =>
      some (countB qs (vc.toNat : Int).toNat.toUInt8))
      ((loopO (strings_Count_x1 qsubstr) (qs, 0)).bind fun vx1 =>
      some vx1))

/-! ### strings.genSplit -/
noncomputable def strings_genSplit_x1 (qx : List UInt8) (qx1 : List UInt8) (qx3 : Int) : Option (Int) :=
  cond (decide (qx3 < 0))
    ((strings_Count qx qx1).bind fun vr2 =>
    some (IntKind.wrap .i64 (vr2 + 1)))
    (some qx3)

noncomputable def strings_genSplit_x2 (qx : List UInt8) (qx1 : List UInt8) (qx2 : Int) (vx1 : Int) : (List UInt8) × (List (List UInt8)) × Int → Option (((List UInt8) × (List (List UInt8)) × Int) ⊕ (((List UInt8) × (List (List UInt8)) × Int)))
  | (vx2, vx3, vx4) =>
  cond (decide (vx4 < (IntKind.wrap .i64 ((imin vx1 (IntKind.wrap .i64 ((qx.length : Int) + 1))) - 1))))
    ((strings_Index vx2 qx1).bind fun vr1_1 =>
    cond (decide (vr1_1 < 0))
      (some (.inr (vx2, vx3, vx4)))
      ((sub? vx2 0 (IntKind.wrap .i64 (vr1_1 + qx2))).bind fun vs2 =>
      (at? vx3 vx4).bind fun vy1 =>
      (sub? vx2 (IntKind.wrap .i64 (vr1_1 + (qx1.length : Int))) (vx2.length : Int)).bind fun vs3 =>
      some (.inl (vs3, vx3.set vx4.toNat vs2, IntKind.wrap .i64 (vx4 + 1)))))
    (some (.inr (vx2, vx3, vx4)))

noncomputable def strings_genSplit (qx : List UInt8) (qx1 : List UInt8) (qx2 : Int) (qx3 : Int) : Option ((List (List UInt8))) :=
  cond (decide (qx3 = 0))
    (some [])
    (cond (decide (qx1 = ([] : List UInt8)))
      ((strings_explode qx qx3).bind fun vr3 =>
      some vr3)
      ((strings_genSplit_x1 qx qx1 qx3).bind fun vx1 =>
      gd (decide (0 ≤ (imin vx1 (IntKind.wrap .i64 ((qx.length : Int) + 1)))) && decide ((imin vx1 (IntKind.wrap .i64 ((qx.length : Int) + 1))) ≤ (imin vx1 (IntKind.wrap .i64 ((qx.length : Int) + 1)))) && decide ((imin vx1 (IntKind.wrap .i64 ((qx.length : Int) + 1))) ≤ 137438953472)) <|
      (loopO (strings_genSplit_x2 qx qx1 qx2 vx1) (qx, List.replicate (imin vx1 (IntKind.wrap .i64 ((qx.length : Int) + 1))).toNat ([] : List UInt8), 0)).bind fun (vx5_1, vx6_1, vx7_1) =>
      (at? vx6_1 vx7_1).bind fun vy2 =>
      gd (decide (0 ≤ (IntKind.wrap .i64 (vx7_1 + 1))) && decide ((IntKind.wrap .i64 (vx7_1 + 1)) ≤ ((vx6_1.set vx7_1.toNat vx5_1).length : Int))) <|
      some ((vx6_1.set vx7_1.toNat vx5_1).take (IntKind.wrap .i64 (vx7_1 + 1)).toNat)))

/-! ### strings.Split -/
noncomputable def strings_Split (qs : List UInt8) (qsep : List UInt8) : Option ((List (List UInt8))) :=
  (strings_genSplit qs qsep 0 (-1)).bind fun vr =>
  some vr

/-! ### beaconfleet/base.Lines -/
noncomputable def base_Lines (qs : List UInt8) : Option ((List (List UInt8)) × Bool) :=
  cond (decide (qs = ([] : List UInt8)))
    (some ([], true))
    ((strings_CutSuffix qs ([10] : List UInt8)).bind fun (vr, vr3) =>
    (strings_Split vr ([10] : List UInt8)).bind fun vr1 =>
    some (vr1, vr3))

/-! ### beaconfleet/base.Words -/
noncomputable def base_Words_x1 (vr1 : List (List UInt8)) (vx : Int) : Option ((Int) ⊕ (Unit ⊕ Unit)) :=
  cond (decide (vx < (vr1.length : Int)))
    ((at? vr1 vx).bind fun vy1 =>
    cond (decide (vy1 = ([] : List UInt8)))
      (some (.inr (.inr ())))
      (some (.inl (IntKind.wrap .i64 (vx + 1)))))
    (some (.inr (.inl ())))

noncomputable def base_Words (qline : List UInt8) (qmany : Int) : Option ((List (List UInt8)) × Bool) :=
  (strings_Split qline ([32] : List UInt8)).bind fun vr1 =>
  cond (!decide ((vr1.length : Int) = qmany))
    (some ([], false))
    ((loopO (base_Words_x1 vr1) 0).bind fun x => match x with
      | .inl _ =>
        some (vr1, true)
      | .inr _ =>
        some ([], false))

/-! ### internal/stringslite.HasPrefix -/
noncomputable def stringslite_HasPrefix_x1 (qs : List UInt8) (qprefix : List UInt8) : Option (Bool) :=
  cond (decide ((qprefix.length : Int) ≤ (qs.length : Int)))
    ((sub? qs 0 (qprefix.length : Int)).bind fun vs =>
    some (decide (vs = qprefix)))
    (some false)

noncomputable def stringslite_HasPrefix (qs : List UInt8) (qprefix : List UInt8) : Option (Bool) :=
  (stringslite_HasPrefix_x1 qs qprefix).bind fun vx1 =>
  some vx1

/-! ### internal/stringslite.TrimPrefix -/
noncomputable def stringslite_TrimPrefix (qs : List UInt8) (qprefix : List UInt8) : Option ((List UInt8)) :=
  (stringslite_HasPrefix qs qprefix).bind fun vr =>
  cond (vr)
    ((sub? qs (qprefix.length : Int) (qs.length : Int)).bind fun vs =>
    some vs)
    (some qs)

/-! ### strings.TrimPrefix -/
noncomputable def strings_TrimPrefix (qs : List UInt8) (qprefix : List UInt8) : Option ((List UInt8)) :=
  (stringslite_TrimPrefix qs qprefix).bind fun vr1 =>
  some vr1

/-! ### internal/strconv.lower -/
noncomputable def strconv_lower (qc : Int) : Option (Unit) :=
  some ()

/-! ### internal/strconv.underscoreOK -/
noncomputable def strconv_underscoreOK_x2 (qx : List UInt8) : Option (Bool) :=
  cond (decide (1 ≤ (qx.length : Int)))
    ((at? qx 0).bind fun vc =>
    cond (decide ((vc.toNat : Int) = 45))
      (some true)
      (some (decide ((vc.toNat : Int) = 43))))
    (some false)

noncomputable def strconv_underscoreOK_x1 (qx : List UInt8) : Option ((List UInt8)) :=
  (strconv_underscoreOK_x2 qx).bind fun vx1 =>
  cond (vx1)
    ((sub? qx 1 (qx.length : Int)).bind fun vs =>
    some vs)
    (some qx)

noncomputable def strconv_underscoreOK_x4 (vx2_1 : List UInt8) : Option (Bool) :=
  cond (decide (2 ≤ (vx2_1.length : Int)))
    ((at? vx2_1 0).bind fun vc1 =>
    cond (decide ((vc1.toNat : Int) = 48))
      ((at? vx2_1 1).bind fun vc2 =>
      (strconv_lower (vc2.toNat : Int)).bind fun _ =>
      cond (decide ((ibits .or .u8 (vc2.toNat : Int) 32) = 98))
        (some true)
        (cond (decide ((ibits .or .u8 (vc2.toNat : Int) 32) = 111))
          (some true)
          (some (decide ((ibits .or .u8 (vc2.toNat : Int) 32) = 120)))))
      (some false))
    (some false)

noncomputable def strconv_underscoreOK_x3 (vx2_1 : List UInt8) : Option ((Int × Int × Bool)) :=
  (strconv_underscoreOK_x4 vx2_1).bind fun vx3_1 =>
  cond (vx3_1)
    ((at? vx2_1 1).bind fun vc3 =>
    (strconv_lower (vc3.toNat : Int)).bind fun _ =>
    some (48, 2, decide ((ibits .or .u8 (vc3.toNat : Int) 32) = 120)))
    (some (94, 0, false))

noncomputable def strconv_underscoreOK_x7 (vx2_1 : List UInt8) (vx6_1 : Bool) (vx8 : Int) : Option (Bool) :=
  (at? vx2_1 vx8).bind fun vc6 =>
  cond (decide ((48 : Int) ≤ (vc6.toNat : Int)))
    (cond (decide ((vc6.toNat : Int) ≤ 57))
      (some true)
      (cond (vx6_1)
        ((strconv_lower (vc6.toNat : Int)).bind fun _ =>
        cond (decide ((97 : Int) ≤ (ibits .or .u8 (vc6.toNat : Int) 32)))
          (some (decide ((ibits .or .u8 (vc6.toNat : Int) 32) ≤ 102)))
          (some false))
        (some false)))
    (cond (vx6_1)
      ((strconv_lower (vc6.toNat : Int)).bind fun _ =>
      cond (decide ((97 : Int) ≤ (ibits .or .u8 (vc6.toNat : Int) 32)))
        (some (decide ((ibits .or .u8 (vc6.toNat : Int) 32) ≤ 102)))
        (some false))
      (some false))

noncomputable def strconv_underscoreOK_x6 (vx2_1 : List UInt8) (vx6_1 : Bool) (vx7 : Int) (vx8 : Int) : Option (Int ⊕ Unit) :=
  (strconv_underscoreOK_x7 vx2_1 vx6_1 vx8).bind fun vx11_1 =>
  cond (vx11_1)
    (some (.inl 48))
    ((at? vx2_1 vx8).bind fun vc7 =>
    cond (decide ((vc7.toNat : Int) = 95))
      (cond (!decide (vx7 = 48))
        (some (.inr ()))
        (some (.inl 95)))
      (cond (decide (vx7 = 95))
        (some (.inr ()))
        (some (.inl 33))))

noncomputable def strconv_underscoreOK_x5 (vx2_1 : List UInt8) (vx6_1 : Bool) : Int × Int → Option ((Int × Int) ⊕ (Int ⊕ Unit))
  | (vx7, vx8) =>
  cond (decide (vx8 < (vx2_1.length : Int)))
    ((strconv_underscoreOK_x6 vx2_1 vx6_1 vx7 vx8).bind fun x => match x with
      | .inl vx12_1 =>
        some (.inl (vx12_1, IntKind.wrap .i64 (vx8 + 1)))
      | .inr _ =>
        some (.inr (.inr ())))
    (some (.inr (.inl vx7)))

noncomputable def strconv_underscoreOK (qx : List UInt8) : Option (Bool) :=
  (strconv_underscoreOK_x1 qx).bind fun vx2_1 =>
  (strconv_underscoreOK_x3 vx2_1).bind fun (vx4_1, vx5_1, vx6_1) =>
  (loopO (strconv_underscoreOK_x5 vx2_1 vx6_1) (vx4_1, vx5_1)).bind fun x => match x with
    | .inl vx13_1 =>
      some (!decide (vx13_1 = 95))
    | .inr _ =>
      some false

/-! ### internal/strconv.ParseUint -/
noncomputable def strconv_ParseUint_x2 (qx1 : Int) : Option (Bool) :=
  cond (decide ((2 : Int) ≤ qx1))
    (some (decide (qx1 ≤ 36)))
    (some false)

noncomputable def strconv_ParseUint_x3 (qx : List UInt8) : Option (Bool) :=
  cond (decide (3 ≤ (qx.length : Int)))
    ((at? qx 1).bind fun vc1 =>
    (strconv_lower (vc1.toNat : Int)).bind fun _ =>
    some (decide ((ibits .or .u8 (vc1.toNat : Int) 32) = 98)))
    (some false)

noncomputable def strconv_ParseUint_x4 (qx : List UInt8) : Option (Bool) :=
  cond (decide (3 ≤ (qx.length : Int)))
    ((at? qx 1).bind fun vc2 =>
    (strconv_lower (vc2.toNat : Int)).bind fun _ =>
    some (decide ((ibits .or .u8 (vc2.toNat : Int) 32) = 111)))
    (some false)

noncomputable def strconv_ParseUint_x5 (qx : List UInt8) : Option (Bool) :=
  cond (decide (3 ≤ (qx.length : Int)))
    ((at? qx 1).bind fun vc3 =>
    (strconv_lower (vc3.toNat : Int)).bind fun _ =>
    some (decide ((ibits .or .u8 (vc3.toNat : Int) 32) = 120)))
    (some false)

noncomputable def strconv_ParseUint_x1 (qx : List UInt8) (qx1 : Int) : Option (((List UInt8) × Int)) :=
  (strconv_ParseUint_x2 qx1).bind fun vx1 =>
  cond (vx1)
    (some (qx, qx1))
    (cond (decide (qx1 = 0))
      ((at? qx 0).bind fun vc =>
      cond (decide ((vc.toNat : Int) = 48))
        ((strconv_ParseUint_x3 qx).bind fun vx2_1 =>
        cond (vx2_1)
          ((sub? qx 2 (qx.length : Int)).bind fun vs =>
          some (vs, 2))
          ((strconv_ParseUint_x4 qx).bind fun vx3_1 =>
          cond (vx3_1)
            ((sub? qx 2 (qx.length : Int)).bind fun vs1 =>
            some (vs1, 8))
            ((strconv_ParseUint_x5 qx).bind fun vx4_1 =>
            cond (vx4_1)
              ((sub? qx 2 (qx.length : Int)).bind fun vs2 =>
              some (vs2, 16))
              ((sub? qx 1 (qx.length : Int)).bind fun vs3 =>
              some (vs3, 8)))))
        (some (qx, 10)))
      (none))

noncomputable def strconv_ParseUint_x7 (qx2 : Int) : Option (Bool) :=
  cond (decide (qx2 < 0))
    (some true)
    (some (decide (64 < qx2)))

noncomputable def strconv_ParseUint_x6 (qx2 : Int) : Option (Int) :=
  cond (decide (qx2 = 0))
    (some 64)
    ((strconv_ParseUint_x7 qx2).bind fun vx7_1 =>
    cond (vx7_1)
      (none)
      (some qx2))

noncomputable def strconv_ParseUint_x8 (vx6_1 : Int) : Option (Int) :=
  cond (decide (vx6_1 = 10))
    (some 1844674407370955162)
    (cond (decide (vx6_1 = 16))
      (some 1152921504606846976)
      (gd (!((IntKind.wrap .u64 (vx6_1)) == 0)) <|
      some (IntKind.wrap .u64 ((IntKind.wrap .u64 ((18446744073709551615 : Int).tdiv (IntKind.wrap .u64 (vx6_1)))) + 1))))

noncomputable def strconv_ParseUint_x12 (qx1 : Int) (vy1 : Int) : Option (Bool) :=
  cond (decide (vy1 = 95))
    (some (decide (qx1 = 0)))
    (some false)

noncomputable def strconv_ParseUint_x13 (vy1 : Int) : Option (Bool) :=
  cond (decide ((48 : Int) ≤ vy1))
    (some (decide (vy1 ≤ 57)))
    (some false)

noncomputable def strconv_ParseUint_x14 (vy1 : Int) : Option (Bool) :=
  (strconv_lower vy1).bind fun _ =>
  cond (decide ((97 : Int) ≤ (ibits .or .u8 vy1 32)))
    (some (decide ((ibits .or .u8 vy1 32) ≤ 122)))
    (some false)

noncomputable def strconv_ParseUint_x11 (qx1 : Int) (vy1 : Int) : Option (Int ⊕ Unit) :=
  (strconv_ParseUint_x12 qx1 vy1).bind fun vx20_1 =>
  cond (vx20_1)
    (some (.inr ()))
    ((strconv_ParseUint_x13 vy1).bind fun vx21_1 =>
    cond (vx21_1)
      (some (.inl (IntKind.wrap .u8 (vy1 - 48))))
      ((strconv_ParseUint_x14 vy1).bind fun vx22_1 =>
      cond (vx22_1)
        ((strconv_lower vy1).bind fun _ =>
        some (.inl (IntKind.wrap .u8 ((IntKind.wrap .u8 ((ibits .or .u8 vy1 32) - 97)) + 10))))
        (none)))

noncomputable def strconv_ParseUint_x15 (vx6_1 : Int) (vx8_1 : Int) (vx11 : Int) (vx23_1 : Int) : Option (Bool) :=
  cond (decide ((IntKind.wrap .u64 ((IntKind.wrap .u64 (vx11 * (IntKind.wrap .u64 (vx6_1)))) + (IntKind.wrap .u64 (vx23_1)))) < (IntKind.wrap .u64 (vx11 * (IntKind.wrap .u64 (vx6_1))))))
    (some true)
    (some (decide ((IntKind.wrap .u64 ((ishl .u64 1 (IntKind.wrap .u64 (vx8_1))) - 1)) < (IntKind.wrap .u64 ((IntKind.wrap .u64 (vx11 * (IntKind.wrap .u64 (vx6_1)))) + (IntKind.wrap .u64 (vx23_1)))))))

noncomputable def strconv_ParseUint_x10 (qx1 : Int) (vx5_1 : List UInt8) (vx6_1 : Int) (vx8_1 : Int) (vx9_1 : Int) (vx10 : Bool) (vx11 : Int) (vx12 : Int) : Option ((Bool × Int)) :=
  (at? (bytesD vx5_1) vx12).bind fun vy1 =>
  (strconv_ParseUint_x11 qx1 vy1).bind fun x => match x with
    | .inl vx23_1 =>
      cond (decide ((IntKind.wrap .u8 (vx6_1)) ≤ vx23_1))
        (none)
        (cond (decide (vx9_1 ≤ vx11))
          (none)
          ((strconv_ParseUint_x15 vx6_1 vx8_1 vx11 vx23_1).bind fun vx24_1 =>
          cond (vx24_1)
            (none)
            (some (vx10, IntKind.wrap .u64 ((IntKind.wrap .u64 (vx11 * (IntKind.wrap .u64 (vx6_1)))) + (IntKind.wrap .u64 (vx23_1)))))))
    | .inr _ =>
      some (true, vx11)

noncomputable def strconv_ParseUint_x9 (qx1 : Int) (vx5_1 : List UInt8) (vx6_1 : Int) (vx8_1 : Int) (vx9_1 : Int) : Bool × Int × Int → Option ((Bool × Int × Int) ⊕ ((Bool × Int)))
  | (vx10, vx11, vx12) =>
  cond (decide (vx12 < ((bytesD vx5_1).length : Int)))
    ((strconv_ParseUint_x10 qx1 vx5_1 vx6_1 vx8_1 vx9_1 vx10 vx11 vx12).bind fun (vx25_1, vx26_1) =>
    some (.inl (vx25_1, vx26_1, IntKind.wrap .i64 (vx12 + 1))))
    (some (.inr (vx10, vx11)))

noncomputable def strconv_ParseUint_x16 (qx : List UInt8) (vx27_1 : Bool) : Option (Bool) :=
  cond (vx27_1)
    ((strconv_underscoreOK qx).bind fun vr =>
    some (!vr))
    (some false)

noncomputable def strconv_ParseUint (qx : List UInt8) (qx1 : Int) (qx2 : Int) : Option (Int) :=
  cond (decide (qx = ([] : List UInt8)))
    (none)
    ((strconv_ParseUint_x1 qx qx1).bind fun (vx5_1, vx6_1) =>
    (strconv_ParseUint_x6 qx2).bind fun vx8_1 =>
    (strconv_ParseUint_x8 vx6_1).bind fun vx9_1 =>
    gd (decide (0 ≤ (IntKind.wrap .u64 (vx8_1)))) <|
    (loopO (strconv_ParseUint_x9 qx1 vx5_1 vx6_1 vx8_1 vx9_1) (false, 0, 0)).bind fun (vx27_1, vx28_1) =>
    (strconv_ParseUint_x16 qx vx27_1).bind fun vx29_1 =>
    cond (vx29_1)
      (none)
      (some vx28_1))

/-! ### internal/strconv.ParseInt -/
noncomputable def strconv_ParseInt_x1 (qx : List UInt8) : Option (((List UInt8) × Bool)) :=
  (at? qx 0).bind fun vc =>
  cond (decide ((vc.toNat : Int) = 43))
    ((sub? qx 1 (qx.length : Int)).bind fun vs =>
    some (vs, false))
    (cond (decide ((vc.toNat : Int) = 45))
      ((sub? qx 1 (qx.length : Int)).bind fun vs1 =>
      some (vs1, true))
      (some (qx, false)))

noncomputable def strconv_ParseInt_x2 (qx2 : Int) : Option (Int) :=
  cond (decide (qx2 = 0))
    (some 64)
    (some qx2)

noncomputable def strconv_ParseInt_x3 (vx1_1 : Bool) (vr1 : Int) (vx3_1 : Int) : Option (Bool) :=
  cond (!vx1_1)
    (some (decide ((ishl .u64 1 (IntKind.wrap .u64 (IntKind.wrap .i64 (vx3_1 - 1)))) ≤ vr1)))
    (some false)

noncomputable def strconv_ParseInt_x4 (vx1_1 : Bool) (vr1 : Int) (vx3_1 : Int) : Option (Bool) :=
  cond (vx1_1)
    (some (decide ((ishl .u64 1 (IntKind.wrap .u64 (IntKind.wrap .i64 (vx3_1 - 1)))) < vr1)))
    (some false)

noncomputable def strconv_ParseInt_x5 (vx1_1 : Bool) (vr1 : Int) : Option (Int) :=
  cond (vx1_1)
    (some (IntKind.wrap .i64 (0 - (IntKind.wrap .i64 (vr1)))))
    (some (IntKind.wrap .i64 (vr1)))

noncomputable def strconv_ParseInt (qx : List UInt8) (qx1 : Int) (qx2 : Int) : Option (Int) :=
  cond (decide (qx = ([] : List UInt8)))
    (none)
    ((strconv_ParseInt_x1 qx).bind fun (vx2, vx1_1) =>
    (strconv_ParseUint vx2 qx1 qx2).bind fun vr1 =>
    (strconv_ParseInt_x2 qx2).bind fun vx3_1 =>
    gd (decide (0 ≤ (IntKind.wrap .u64 (IntKind.wrap .i64 (vx3_1 - 1))))) <|
    (strconv_ParseInt_x3 vx1_1 vr1 vx3_1).bind fun vx4_1 =>
    cond (vx4_1)
      (none)
      ((strconv_ParseInt_x4 vx1_1 vr1 vx3_1).bind fun vx5_1 =>
      cond (vx5_1)
        (none)
        ((strconv_ParseInt_x5 vx1_1 vr1).bind fun vx6_1 =>
        some vx6_1)))

/-! ### internal/strconv.Atoi -/
noncomputable def strconv_Atoi_2_x1 (qx : List UInt8) : Option (Bool) :=
  cond (decide ((0 : Int) < (qx.length : Int)))
    (some (decide ((qx.length : Int) < 19)))
    (some false)

noncomputable def strconv_Atoi_2_x3 (qx : List UInt8) : Option (Bool) :=
  (at? qx 0).bind fun vc =>
  cond (decide ((vc.toNat : Int) = 45))
    (some true)
    (some (decide ((vc.toNat : Int) = 43)))

noncomputable def strconv_Atoi_2_x2 (qx : List UInt8) : Option ((List UInt8)) :=
  (strconv_Atoi_2_x3 qx).bind fun vx2_1 =>
  cond (vx2_1)
    ((sub? qx 1 (qx.length : Int)).bind fun vs =>
    cond (decide ((vs.length : Int) < 1))
      (none)
      (some vs))
    (some qx)

noncomputable def strconv_Atoi_2_x4 (vx3_1 : List UInt8) : Int × Int → Option ((Int × Int) ⊕ (Int))
  | (vx4, vx5) =>
  cond (decide (vx5 < ((bytesD vx3_1).length : Int)))
    ((at? (bytesD vx3_1) vx5).bind fun vy1 =>
    cond (decide (9 < (IntKind.wrap .u8 (vy1 - 48))))
      (none)
      (some (.inl (IntKind.wrap .i64 ((IntKind.wrap .i64 (vx4 * 10)) + (IntKind.wrap .i64 (IntKind.wrap .u8 (vy1 - 48)))), IntKind.wrap .i64 (vx5 + 1)))))
    (some (.inr vx4))

noncomputable def strconv_Atoi_2_x5 (qx : List UInt8) (vx6_1 : Int) : Option (Int) :=
  (at? qx 0).bind fun vc1 =>
  cond (decide ((vc1.toNat : Int) = 45))
    (some (IntKind.wrap .i64 (0 - vx6_1)))
    (some vx6_1)

noncomputable def strconv_Atoi_2 (qx : List UInt8) : Option (Int) :=
  (strconv_Atoi_2_x1 qx).bind fun vx1 =>
  cond (vx1)
    ((strconv_Atoi_2_x2 qx).bind fun vx3_1 =>
    (loopO (strconv_Atoi_2_x4 vx3_1) (0, 0)).bind fun vx6_1 =>
    (strconv_Atoi_2_x5 qx vx6_1).bind fun vx7_1 =>
    some vx7_1)
    ((strconv_ParseInt qx 10 0).bind fun vr =>
    some vr)

/-! ### strconv.Atoi -/
noncomputable def strconv_Atoi (qs : List UInt8) : Option (Int) :=
  (strconv_Atoi_2 qs).bind fun vr1 =>
  some vr1

/-! ### beaconfleet/base.Number -/
noncomputable def base_Number_x1 (qs : List UInt8) (qdigits : Int) (vr : List UInt8) : Option (Bool) :=
  cond (decide (vr = ([] : List UInt8)))
    (some true)
    (cond (decide (qdigits < (vr.length : Int)))
      (some true)
      ((at? vr 0).bind fun vc =>
      cond (decide ((vc.toNat : Int) = 48))
        (cond (decide (1 < (vr.length : Int)))
          (some true)
          (some (decide ((vr.length : Int) < (qs.length : Int)))))
        (some false)))

noncomputable def base_Number_x3 (vr : List UInt8) (vx2 : Int) : Option (Bool) :=
  (at? vr vx2).bind fun vc2 =>
  cond (decide ((vc2.toNat : Int) < 48))
    (some true)
    (some (decide (57 < (vc2.toNat : Int))))

noncomputable def base_Number_x2 (vr : List UInt8) (vx2 : Int) : Option ((Int) ⊕ (Unit ⊕ Unit)) :=
  cond (decide (vx2 < (vr.length : Int)))
    ((base_Number_x3 vr vx2).bind fun vx4_1 =>
    cond (vx4_1)
      (some (.inr (.inr ())))
      (some (.inl (IntKind.wrap .i64 (vx2 + 1)))))
    (some (.inr (.inl ())))

noncomputable def base_Number (qs : List UInt8) (qdigits : Int) : Option (Int × Bool) :=
  (strings_TrimPrefix qs ([45] : List UInt8)).bind fun vr =>
  (base_Number_x1 qs qdigits vr).bind fun vx1 =>
  cond (vx1)
    (some (0, false))
    ((loopO (base_Number_x2 vr) 0).bind fun x => match x with
      | .inl _ =>
        (strconv_Atoi qs).bind fun vr1 =>
        some (vr1, true)
      | .inr _ =>
        some (0, false))

/-! ### beaconfleet/base.Numbers -/
noncomputable def base_Numbers_x1 (qwords : List (List UInt8)) (qdigits : Int) : (List Int) × Int → Option (((List Int) × Int) ⊕ ((List Int) ⊕ Unit))
  | (vout, vx) =>
  cond (decide (vx < (qwords.length : Int)))
    ((at? qwords vx).bind fun vy1 =>
    (base_Number vy1 qdigits).bind fun (vr2_1, vr3_1) =>
    cond (!vr3_1)
      (some (.inr (.inr ())))
      (gd (Nat.ble (vout.length + ([vr2_1] : List Int).length) LIM) <|
      some (.inl (vout ++ ([vr2_1] : List Int), IntKind.wrap .i64 (vx + 1)))))
    (some (.inr (.inl vout)))

noncomputable def base_Numbers (qwords : List (List UInt8)) (qdigits : Int) : Option ((List Int) × Bool) :=
  (loopO (base_Numbers_x1 qwords qdigits) ([], 0)).bind fun x => match x with
    | .inl vout1_1 =>
      some (vout1_1, true)
    | .inr _ =>
      some ([], false)

/-! ### beaconfleet/place.Read$1 -/
noncomputable def place_Read_1_b0o_x1 (qx : List api_Fix) (vr : List (List UInt8)) (vr1 : List Int) (vr1_1 : Bool) : Option ((List api_Fix)) :=
  cond (vr1_1)
    ((at? vr 0).bind fun vy =>
    (at? vr1 0).bind fun vy1 =>
    (at? vr1 1).bind fun vy2 =>
    (at? vr1 2).bind fun vy3 =>
    (at? vr1 3).bind fun vy4 =>
    gd (Nat.ble (qx.length + ([api_Fix.mk vy vy1 vy2 vy3 vy4] : List api_Fix).length) LIM) <|
    some (qx ++ ([api_Fix.mk vy vy1 vy2 vy3 vy4] : List api_Fix)))
    (some qx)

noncomputable def place_Read_1_b0o (qline : List UInt8) (qx : List api_Fix) : Option ((List api_Fix) × Bool) :=
  (base_Words qline 5).bind fun (vr, vr2) =>
  cond (!vr2)
    (some (qx, false))
    ((sub? vr 1 (vr.length : Int)).bind fun vl =>
    (base_Numbers vl 15).bind fun (vr1, vr1_1) =>
    (place_Read_1_b0o_x1 qx vr vr1 vr1_1).bind fun vs1 =>
    some (vs1, vr1_1))

/-! ### beaconfleet/base.Each -/
noncomputable def base_Each_f1_place_Read_1_b0n_x2 (vr2 : List (List UInt8)) (vr4 : Bool) (vs : List api_Fix) (vx : Int) (vy1 : List UInt8) : Option (((List api_Fix) × Bool)) :=
  cond (!vr4)
    (cond (decide (vx = (IntKind.wrap .i64 ((vr2.length : Int) - 1))))
      (some (vs, true))
      ((place_Read_1_b0o vy1 vs).bind fun (vs2_2, vr3_2) =>
      some (vs2_2, !vr3_2)))
    ((place_Read_1_b0o vy1 vs).bind fun (vs2_3, vr3_3) =>
    some (vs2_3, !vr3_3))

noncomputable def base_Each_f1_place_Read_1_b0n_x1 (vr2 : List (List UInt8)) (vr4 : Bool) : (List api_Fix) × Int → Option (((List api_Fix) × Int) ⊕ ((List api_Fix) ⊕ ((List api_Fix) × Int)))
  | (vs, vx) =>
  cond (decide (vx < (vr2.length : Int)))
    ((at? vr2 vx).bind fun vy1 =>
    (base_Each_f1_place_Read_1_b0n_x2 vr2 vr4 vs vx vy1).bind fun (vs3_1, vx2_1) =>
    cond (vx2_1)
      (some (.inr (.inr (vs3_1, vx))))
      (some (.inl (vs3_1, IntKind.wrap .i64 (vx + 1)))))
    (some (.inr (.inl vs)))

noncomputable def base_Each_f1_place_Read_1_b0n (qtext : List UInt8) : Option ((List api_Fix) × Int × Bool) :=
  (base_Lines qtext).bind fun (vr2, vr4) =>
  (loopO (base_Each_f1_place_Read_1_b0n_x1 vr2 vr4) ([], 0)).bind fun x => match x with
    | .inl vs4_1 =>
      some (vs4_1, 0, true)
    | .inr (vs5_1, vx3_1) =>
      some (vs5_1, vx3_1, false)

/-! ### beaconfleet/place.Read -/
noncomputable def place_Read (qtext : List UInt8) : Option ((List api_Fix) × Int × Int) :=
  cond (decide (200000 < (qtext.length : Int)))
    (some ([], 0, 2))
    ((base_Each_f1_place_Read_1_b0n qtext).bind fun (vs6, vr, vr1) =>
    cond (!vr1)
      (some ([], vr, 9))
      ((place_CheckFixes vs6).bind fun vr6 =>
      cond (!decide (vr6 = 0))
        (some ([], 0, vr6))
        (some (vs6, 0, 0))))

/-! ### internal/stringslite.Cut -/
noncomputable def stringslite_Cut (qs : List UInt8) (qsep : List UInt8) : Option ((List UInt8) × (List UInt8) × Bool) :=
  (stringslite_Index qs qsep).bind fun vr =>
  cond (decide (0 ≤ vr))
    ((sub? qs 0 vr).bind fun vs =>
    (sub? qs (IntKind.wrap .i64 (vr + (qsep.length : Int))) (qs.length : Int)).bind fun vs1 =>
    some (vs, vs1, true))
    (some (qs, ([] : List UInt8), false))

/-! ### strings.Cut -/
noncomputable def strings_Cut (qs : List UInt8) (qsep : List UInt8) : Option ((List UInt8) × (List UInt8) × Bool) :=
  (stringslite_Cut qs qsep).bind fun (vr1, vr2, vr3) =>
  some (vr1, vr2, vr3)

/-! ### slices.Index[[]string,string] -/
noncomputable def slices_Index_string_string_x1 (qs : List (List UInt8)) (qv : List UInt8) (vx : Int) : Option ((Int) ⊕ (Unit ⊕ Int)) :=
  cond (decide (vx < (qs.length : Int)))
    ((at? qs vx).bind fun vy1 =>
    cond (decide (qv = vy1))
      (some (.inr (.inr vx)))
      (some (.inl (IntKind.wrap .i64 (vx + 1)))))
    (some (.inr (.inl ())))

noncomputable def slices_Index_string_string (qs : List (List UInt8)) (qv : List UInt8) : Option (Int) :=
  (loopO (slices_Index_string_string_x1 qs qv) 0).bind fun x => match x with
    | .inl _ =>
      some (-1)
    | .inr vx1_1 =>
      some vx1_1

/-! ### slices.Contains[[]string,string] -/
noncomputable def slices_Contains_string_string (qs : List (List UInt8)) (qv : List UInt8) : Option (Bool) :=
  (slices_Index_string_string qs qv).bind fun vr =>
  some (decide (0 ≤ vr))

/-! ### beaconfleet/fleetref2.Number -/
noncomputable def fleetref2_Number_x1 (qmost : Int) (vr : List UInt8) : Option (Bool) :=
  cond (decide (vr = ([] : List UInt8)))
    (some true)
    (cond (decide (qmost < (vr.length : Int)))
      (some true)
      ((fleetref2_only vr ([48, 49, 50, 51, 52, 53, 54, 55, 56, 57] : List UInt8)).bind fun vr1 =>
      some (!vr1)))

noncomputable def fleetref2_Number (qs : List UInt8) (qmost : Int) : Option (Int × Bool) :=
  (strings_TrimPrefix qs ([45] : List UInt8)).bind fun vr =>
  (fleetref2_Number_x1 qmost vr).bind fun vx1 =>
  cond (vx1)
    (some (0, false))
    ((strconv_Atoi qs).bind fun vr2 =>
    (strconv_Itoa vr2).bind fun vr3 =>
    some (vr2, decide (vr3 = qs)))

/-! ### beaconfleet/fleetref2.FixesRead$1 -/
noncomputable def fleetref2_FixesRead_1_b0o_x1 (vr1 : List (List UInt8)) : Option (Bool) :=
  cond (!decide ((vr1.length : Int) = 5))
    (some true)
    ((slices_Contains_string_string vr1 ([] : List UInt8)).bind fun vr1_1 =>
    some vr1_1)

noncomputable def fleetref2_FixesRead_1_b0o_x2 (vr1 : List (List UInt8)) : (List Int) × Int → Option (((List Int) × Int) ⊕ ((List Int) ⊕ Unit))
  | (vn, vx2) =>
  cond (decide (vx2 < 4))
    ((at? vr1 (IntKind.wrap .i64 ((1 : Int) + vx2))).bind fun vy2 =>
    (fleetref2_Number vy2 15).bind fun (vr4_1, vr5_1) =>
    gd (decide (0 ≤ vx2) && decide (vx2 < ((4 : Nat) : Int))) <|
    (at? vn vx2).bind fun vy3 =>
    cond (!vr5_1)
      (some (.inr (.inr ())))
      (some (.inl (vn.set vx2.toNat vr4_1, IntKind.wrap .i64 (vx2 + 1)))))
    (some (.inr (.inl vn)))

noncomputable def fleetref2_FixesRead_1_b0o (qline : List UInt8) (qx : List api_Fix) : Option ((List api_Fix) × Bool) :=
  (strings_Split qline ([32] : List UInt8)).bind fun vr1 =>
  (fleetref2_FixesRead_1_b0o_x1 vr1).bind fun vx1 =>
  cond (vx1)
    (some (qx, false))
    ((loopO (fleetref2_FixesRead_1_b0o_x2 vr1) (([0, 0, 0, 0] : List Int), 0)).bind fun x => match x with
      | .inl vn1_1 =>
        (at? vr1 0).bind fun vy4 =>
        (at? vn1_1 (0 : Int)).bind fun vy5 =>
        (at? vn1_1 (1 : Int)).bind fun vy6 =>
        (at? vn1_1 (2 : Int)).bind fun vy7 =>
        (at? vn1_1 (3 : Int)).bind fun vy8 =>
        gd (Nat.ble (qx.length + ([api_Fix.mk vy4 vy5 vy6 vy7 vy8] : List api_Fix).length) LIM) <|
        some (qx ++ ([api_Fix.mk vy4 vy5 vy6 vy7 vy8] : List api_Fix), true)
      | .inr _ =>
        some (qx, false))

/-! ### beaconfleet/fleetref2.Lines -/
noncomputable def fleetref2_Lines_f1_fleetref2_FixesRead_1_b0n_x2 (vs : List api_Fix) (vr2 : List UInt8) (vr5_1 : Bool) : Option (((List api_Fix) × Bool)) :=
  cond (!vr5_1)
    (some (vs, true))
    ((fleetref2_FixesRead_1_b0o vr2 vs).bind fun (vs3, vr3) =>
    some (vs3, !vr3))

noncomputable def fleetref2_Lines_f1_fleetref2_FixesRead_1_b0n_x1 : (List api_Fix) × (List UInt8) × Int → Option (((List api_Fix) × (List UInt8) × Int) ⊕ ((List api_Fix) ⊕ ((List api_Fix) × Int)))
  | (vs, vtext, vi) =>
  cond (!decide (vtext = ([] : List UInt8)))
    ((strings_Cut vtext ([10] : List UInt8)).bind fun (vr2, vr4_1, vr5_1) =>
    (fleetref2_Lines_f1_fleetref2_FixesRead_1_b0n_x2 vs vr2 vr5_1).bind fun (vs4_1, vx2_1) =>
    cond (vx2_1)
      (some (.inr (.inr (vs4_1, vi))))
      (some (.inl (vs4_1, vr4_1, IntKind.wrap .i64 (vi + 1)))))
    (some (.inr (.inl vs)))

noncomputable def fleetref2_Lines_f1_fleetref2_FixesRead_1_b0n (qtext : List UInt8) : Option ((List api_Fix) × Int × Bool) :=
  (loopO fleetref2_Lines_f1_fleetref2_FixesRead_1_b0n_x1 ([], qtext, 0)).bind fun x => match x with
    | .inl vs5_1 =>
      some (vs5_1, 0, true)
    | .inr (vs6_1, vx3_1) =>
      some (vs6_1, vx3_1, false)

/-! ### beaconfleet/fleetref2.FixesRead -/
noncomputable def fleetref2_FixesRead (qtext : List UInt8) : Option ((List api_Fix) × Int × Int) :=
  cond (decide (200000 < (qtext.length : Int)))
    (some ([], 0, 2))
    ((fleetref2_Lines_f1_fleetref2_FixesRead_1_b0n qtext).bind fun (vs7, vr6, vr7) =>
    cond (!vr7)
      (some ([], vr6, 9))
      ((fleetref2_FixesFault vs7).bind fun vr5 =>
      cond (!decide (vr5 = 0))
        (some ([], 0, vr5))
        (some (vs7, 0, 0))))

/-! ### slices.Equal[[]beaconfleet/api.Fix,beaconfleet/api.Fix] -/
noncomputable def slices_Equal_api_Fix_api_Fix_x1 (qs1 : List api_Fix) (qs2 : List api_Fix) (vx : Int) : Option ((Int) ⊕ (Unit ⊕ Unit)) :=
  cond (decide (vx < (qs1.length : Int)))
    ((at? qs1 vx).bind fun vy2 =>
    (at? qs2 vx).bind fun vy3 =>
    cond (!(decide (vy2.Device = vy3.Device) && (decide (vy2.At = vy3.At) && (decide (vy2.X = vy3.X) && (decide (vy2.Y = vy3.Y) && (decide (vy2.Error = vy3.Error) && true))))))
      (some (.inr (.inr ())))
      (some (.inl (IntKind.wrap .i64 (vx + 1)))))
    (some (.inr (.inl ())))

noncomputable def slices_Equal_api_Fix_api_Fix (qs1 : List api_Fix) (qs2 : List api_Fix) : Option (Bool) :=
  cond (!decide ((qs1.length : Int) = (qs2.length : Int)))
    (some false)
    ((loopO (slices_Equal_api_Fix_api_Fix_x1 qs1 qs2) 0).bind fun x => match x with
      | .inl _ =>
        some true
      | .inr _ =>
        some false)

/-! ### beaconfleet/place.Cell -/
noncomputable def place_Cell_x1 (qs : api_Spot) (qlevel : Int) : Option (Bool) :=
  (place_isSpot qs).bind fun vr2 =>
  cond (!vr2)
    (some true)
    ((base_Out qlevel 0 15).bind fun vr =>
    some vr)

noncomputable def place_Cell_x2 (qs : api_Spot) (qlevel : Int) : (List Int) × Int × Int → Option (((List Int) × Int × Int) ⊕ ((List Int)))
  | (vout, vlong, vx2) =>
  cond (decide (vx2 < qlevel))
    (gd (!((IntKind.wrap .i64 (vlong.tdiv 2)) == 0)) <|
    gd (Nat.ble (vout.length + ([IntKind.wrap .u8 ((IntKind.wrap .u8 ((48 : Int) + (IntKind.wrap .u8 ((IntKind.wrap .i64 ((IntKind.wrap .i64 (qs.X - (-16384))).tdiv (IntKind.wrap .i64 (vlong.tdiv 2)))).tmod 2)))) + (IntKind.wrap .u8 ((2 : Int) * (IntKind.wrap .u8 ((IntKind.wrap .i64 ((IntKind.wrap .i64 (qs.Y - (-16384))).tdiv (IntKind.wrap .i64 (vlong.tdiv 2)))).tmod 2)))))] : List Int).length) LIM) <|
    some (.inl (vout ++ ([IntKind.wrap .u8 ((IntKind.wrap .u8 ((48 : Int) + (IntKind.wrap .u8 ((IntKind.wrap .i64 ((IntKind.wrap .i64 (qs.X - (-16384))).tdiv (IntKind.wrap .i64 (vlong.tdiv 2)))).tmod 2)))) + (IntKind.wrap .u8 ((2 : Int) * (IntKind.wrap .u8 ((IntKind.wrap .i64 ((IntKind.wrap .i64 (qs.Y - (-16384))).tdiv (IntKind.wrap .i64 (vlong.tdiv 2)))).tmod 2)))))] : List Int), IntKind.wrap .i64 (vlong.tdiv 2), IntKind.wrap .i64 (vx2 + 1))))
    (some (.inr vout))

noncomputable def place_Cell (qs : api_Spot) (qlevel : Int) : Option ((List UInt8) × Int) :=
  (place_Cell_x1 qs qlevel).bind fun vx1 =>
  cond (vx1)
    (some (([] : List UInt8), 1))
    ((loopO (place_Cell_x2 qs qlevel) ([], 32768, 0)).bind fun vout1_1 =>
    some (vout1_1.map fun n => UInt8.ofNat n.toNat, 0))

/-! ### beaconfleet/fleetlaw2.placed -/
noncomputable def fleetlaw2_placed_x1 (vr1 : List UInt8) (vr3 : Int) : Option (Bool) :=
  cond (decide (vr3 = 0))
    (some (decide (vr1 = ([51] : List UInt8))))
    (some false)

noncomputable def fleetlaw2_placed : Option (Bool) :=
  (place_Cell (api_Spot.mk 0 0) 1).bind fun (vr1, vr3) =>
  (fleetlaw2_placed_x1 vr1 vr3).bind fun vx1 =>
  some vx1

/-! ### beaconfleet/fleetlaw2.FixTexts -/
noncomputable def fleetlaw2_FixTexts_x1 (vr11 : List api_Fix) (vr5_1 : Int) : Option ((List UInt8)) :=
  cond (decide (vr5_1 = 0))
    ((fleetref2_FixLines vr11).bind fun vr6 =>
    some vr6)
    (some ([] : List UInt8))

noncomputable def fleetlaw2_FixTexts_x2 (vr5 : List UInt8) (vr7 : Int) (vr5_1 : Int) (vx1 : List UInt8) (vr2 : List api_Fix) (vr3 : Int) (vr4_1 : Int) (vr1 : List api_Fix) (vr1_1 : Int) (vr2_1 : Int) : Option (Bool) :=
  cond (decide (vr7 = vr5_1))
    (cond (decide (vr5 = vx1))
      ((slices_Equal_api_Fix_api_Fix vr2 vr1).bind fun vr8 =>
      cond (vr8)
        (cond (decide (vr3 = vr1_1))
          (cond (decide (vr4_1 = vr2_1))
            ((fleetlaw2_placed).bind fun vr9 =>
            some vr9)
            (some false))
          (some false))
        (some false))
      (some false))
    (some false)

noncomputable def fleetlaw2_FixTexts (qx : List Int) : Option (Bool) :=
  (fleetmake_Stream_Range (fleetmake_Stream.mk qx 0) 0 6).bind fun (vs, vr) =>
  (fleetmake_Stream_Fixes vs vr).bind fun (vs4, vr11) =>
  (fleetmake_Stream_FixText vs4).bind fun (vs5, vr4) =>
  (place_Text vr11).bind fun (vr5, vr7) =>
  (fleetref2_FixesFault vr11).bind fun vr5_1 =>
  (fleetlaw2_FixTexts_x1 vr11 vr5_1).bind fun vx1 =>
  (place_Read vr4).bind fun (vr2, vr3, vr4_1) =>
  (fleetref2_FixesRead vr4).bind fun (vr1, vr1_1, vr2_1) =>
  (fleetlaw2_FixTexts_x2 vr5 vr7 vr5_1 vx1 vr2 vr3 vr4_1 vr1 vr1_1 vr2_1).bind fun vx2_1 =>
  some vx2_1

end Go.Eng
