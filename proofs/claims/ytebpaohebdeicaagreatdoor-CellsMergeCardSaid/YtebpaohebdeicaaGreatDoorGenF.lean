/-
The Go functions that the law CellsMerge reaches, as plain functions.
-/
import Derived.Test.YtebpaohebdeicaaGreatDoorEngV

import Derived.Lib.Repeat

import Derived.Lib.ValidU

namespace Go.Eng

open Go

set_option linter.unusedVariables false

structure fleetmake_Stream where
  L : List Int
  at_ : Int

def fleetmake_Stream.enc (x : fleetmake_Stream) : List D := [.lst (List.map (encI .i64) x.L), .int .i64 x.at_]

structure api_Value where
  Kind : Int
  Flag : Bool
  Number : Int
  Words : List UInt8

def api_Value.enc (x : api_Value) : List D := [.int .i64 x.Kind, .bool x.Flag, .int .i64 x.Number, .str x.Words]

structure api_Stamp where
  At : Int
  By : List UInt8
  No : Int

def api_Stamp.enc (x : api_Stamp) : List D := [.int .i64 x.At, .str x.By, .int .i64 x.No]

structure api_Prop where
  Name : List UInt8
  Value : api_Value

def api_Prop.enc (x : api_Prop) : List D := [.str x.Name, .int .i64 x.Value.Kind, .bool x.Value.Flag, .int .i64 x.Value.Number, .str x.Value.Words]

structure api_Cell where
  Prop_ : api_Prop
  Stamp : api_Stamp

def api_Cell.enc (x : api_Cell) : List D := [.str x.Prop_.Name, .int .i64 x.Prop_.Value.Kind, .bool x.Prop_.Value.Flag, .int .i64 x.Prop_.Value.Number, .str x.Prop_.Value.Words, .int .i64 x.Stamp.At, .str x.Stamp.By, .int .i64 x.Stamp.No]

structure api_Change where
  Name : List UInt8
  From : api_Value
  To : api_Value

def api_Change.enc (x : api_Change) : List D := [.str x.Name, .int .i64 x.From.Kind, .bool x.From.Flag, .int .i64 x.From.Number, .str x.From.Words, .int .i64 x.To.Kind, .bool x.To.Flag, .int .i64 x.To.Number, .str x.To.Words]

/-! ### beaconfleet/fleetmake.Below -/
noncomputable def fleetmake_Below_x1 (qx : Int) (qn : Int) : Option (Int) :=
  cond (decide ((qx.tmod qn) < 0))
    (some (IntKind.wrap .i64 ((qx.tmod qn) + qn)))
    (some (qx.tmod qn))

noncomputable def fleetmake_Below (qx : Int) (qn : Int) : Option (Int) :=
  cond (decide (qn < 1))
    (some 0)
    (gd (!(qn == 0)) <|
    (fleetmake_Below_x1 qx qn).bind fun vx1 =>
    some vx1)

/-! ### (*beaconfleet/fleetmake.Stream).Next -/
noncomputable def fleetmake_Stream_Next (qs : fleetmake_Stream) (qn : Int) : Option (Int) :=
  cond (decide ((qs.L.length : Int) = 0))
    ((fleetmake_Below (IntKind.wrap .i64 ((IntKind.wrap .i64 (qs.at_ + 1)) * 7919)) qn).bind fun vr =>
    some vr)
    (gd (!((qs.L.length : Int) == 0)) <|
    (at? qs.L ((IntKind.wrap .i64 ((IntKind.wrap .i64 (qs.at_ + 1)) - 1)).tmod (qs.L.length : Int))).bind fun vy =>
    (fleetmake_Below vy 1073741824).bind fun vr1 =>
    (fleetmake_Below (IntKind.wrap .i64 (vr1 + (IntKind.wrap .i64 ((IntKind.wrap .i64 ((IntKind.wrap .i64 ((IntKind.wrap .i64 (qs.at_ + 1)) - 1)).tdiv (qs.L.length : Int))) * (IntKind.wrap .i64 ((7919 : Int) + ((IntKind.wrap .i64 ((IntKind.wrap .i64 (qs.at_ + 1)) - 1)).tmod (qs.L.length : Int)))))))) qn).bind fun vr2 =>
    some vr2)

/-! ### (*beaconfleet/fleetmake.Stream).Range -/
noncomputable def fleetmake_Stream_Range (qs : fleetmake_Stream) (qlow : Int) (qhigh : Int) : Option (fleetmake_Stream × Int) :=
  cond (decide (qhigh < qlow))
    (some (qs, qlow))
    ((fleetmake_Stream_Next qs (IntKind.wrap .i64 ((IntKind.wrap .i64 (qhigh - qlow)) + 1))).bind fun vr3 =>
    some (fleetmake_Stream.mk qs.L (IntKind.wrap .i64 (qs.at_ + 1)), IntKind.wrap .i64 (qlow + vr3)))

/-! ### (*beaconfleet/fleetmake.Stream).Some -/
noncomputable def fleetmake_Stream_Some_o1 (qs : fleetmake_Stream) (ql : List (List UInt8)) : Option ((List UInt8)) :=
  (fleetmake_Stream_Next qs (ql.length : Int)).bind fun vr3 =>
  (at? ql vr3).bind fun vy =>
  some vy

/-! ### (*beaconfleet/fleetmake.Stream).Flip -/
noncomputable def fleetmake_Stream_Flip (qs : fleetmake_Stream) (qn : Int) : Option (Bool) :=
  (fleetmake_Stream_Next qs qn).bind fun vr3 =>
  some (decide (vr3 = 0))

/-! ### (*beaconfleet/fleetmake.Stream).Pick -/
noncomputable def fleetmake_Stream_Pick_o1 (qs : fleetmake_Stream) (ql : List Int) : Option (Int) :=
  (fleetmake_Stream_Next qs (ql.length : Int)).bind fun vr3 =>
  (at? ql vr3).bind fun vy =>
  some vy

/-! ### (*beaconfleet/fleetmake.Stream).RightValue -/
noncomputable def fleetmake_Stream_RightValue (qs : fleetmake_Stream) : Option (api_Value) :=
  (fleetmake_Stream_Next qs 4).bind fun vr3 =>
  cond (decide (vr3 = 0))
    ((fleetmake_Stream_Flip (fleetmake_Stream.mk qs.L (IntKind.wrap .i64 (qs.at_ + 1))) 2).bind fun vr =>
    some (api_Value.mk 1 vr 0 ([] : List UInt8)))
    (cond (decide (vr3 = 1))
      ((fleetmake_Stream_Some_o1 (fleetmake_Stream.mk qs.L (IntKind.wrap .i64 (qs.at_ + 1))) ([([] : List UInt8), ([120] : List UInt8), ([97, 32, 34, 98, 34] : List UInt8), ([92] : List UInt8), ([195, 169] : List UInt8), ([45, 32, 49] : List UInt8)] : List (List UInt8))).bind fun vr1 =>
      some (api_Value.mk 3 false 0 vr1))
      ((fleetmake_Stream_Pick_o1 (fleetmake_Stream.mk qs.L (IntKind.wrap .i64 (qs.at_ + 1))) ([1, 2, 2, 3, 0, (-5), 1000000000] : List Int)).bind fun vr2 =>
      some (api_Value.mk 2 false vr2 ([] : List UInt8))))

/-! ### (*beaconfleet/fleetmake.Stream).RightStamp -/
noncomputable def fleetmake_Stream_RightStamp (qs : fleetmake_Stream) : Option (fleetmake_Stream × api_Stamp) :=
  (fleetmake_Stream_Range qs 0 9).bind fun (vs, vr) =>
  (fleetmake_Stream_Some_o1 vs ([([104] : List UInt8), ([104] : List UInt8), ([107] : List UInt8)] : List (List UInt8))).bind fun vr1 =>
  (fleetmake_Stream_Pick_o1 (fleetmake_Stream.mk vs.L (IntKind.wrap .i64 (vs.at_ + 1))) ([0, 0, 1] : List Int)).bind fun vr2 =>
  some (fleetmake_Stream.mk vs.L (IntKind.wrap .i64 ((IntKind.wrap .i64 (vs.at_ + 1)) + 1)), api_Stamp.mk vr vr1 vr2)

/-! ### internal/bytealg.CompareString -/
noncomputable def bytealg_CompareString (qa : List UInt8) (qb : List UInt8) : Option (Unit) :=
  some ()

/-! ### strings.Compare -/
noncomputable def strings_Compare (qa : List UInt8) (qb : List UInt8) : Option (Unit) :=
  (bytealg_CompareString qa qb).bind fun _ =>
  some ()

/-! ### beaconfleet/fleetmake.cellOrder -/
noncomputable def fleetmake_cellOrder (qa : api_Cell) (qb : api_Cell) : Option (Unit) :=
  (strings_Compare qa.Prop_.Name qb.Prop_.Name).bind fun _ =>
  some ()

/-! ### slices.insertionSortCmpFunc[beaconfleet/api.Cell] -/
noncomputable def slices_insertionSortCmpFunc_api_Cell_o0_f3_fleetmake_cellOrder_x3 (qa : Int) (vl3 : List api_Cell) (vj1 : Int) : Option (Bool) :=
  cond (decide (qa < vj1))
    ((at? vl3 vj1).bind fun vy15 =>
    (at? vl3 (IntKind.wrap .i64 (vj1 - 1))).bind fun vy16 =>
    (fleetmake_cellOrder (api_Cell.mk (api_Prop.mk vy15.Prop_.Name (api_Value.mk vy15.Prop_.Value.Kind vy15.Prop_.Value.Flag vy15.Prop_.Value.Number vy15.Prop_.Value.Words)) (api_Stamp.mk vy15.Stamp.At vy15.Stamp.By vy15.Stamp.No)) (api_Cell.mk (api_Prop.mk vy16.Prop_.Name (api_Value.mk vy16.Prop_.Value.Kind vy16.Prop_.Value.Flag vy16.Prop_.Value.Number vy16.Prop_.Value.Words)) (api_Stamp.mk vy16.Stamp.At vy16.Stamp.By vy16.Stamp.No))).bind fun _ =>
    some (decide ((Lib.compareBytes vy15.Prop_.Name vy16.Prop_.Name) < 0)))
    (some false)

noncomputable def slices_insertionSortCmpFunc_api_Cell_o0_f3_fleetmake_cellOrder_x2 (qa : Int) : (List api_Cell) × Int → Option (((List api_Cell) × Int) ⊕ ((List api_Cell)))
  | (vl3, vj1) =>
  (slices_insertionSortCmpFunc_api_Cell_o0_f3_fleetmake_cellOrder_x3 qa vl3 vj1).bind fun vx4_1 =>
  cond (vx4_1)
    ((at? vl3 (IntKind.wrap .i64 (vj1 - 1))).bind fun vy17 =>
    (at? vl3 vj1).bind fun vy18 =>
    (at? (vl3.set vj1.toNat (api_Cell.mk (api_Prop.mk vy17.Prop_.Name (api_Value.mk vy17.Prop_.Value.Kind vy17.Prop_.Value.Flag vy17.Prop_.Value.Number vy17.Prop_.Value.Words)) (api_Stamp.mk vy17.Stamp.At vy17.Stamp.By vy17.Stamp.No))) (IntKind.wrap .i64 (vj1 - 1))).bind fun vy19 =>
    some (.inl ((vl3.set vj1.toNat (api_Cell.mk (api_Prop.mk vy17.Prop_.Name (api_Value.mk vy17.Prop_.Value.Kind vy17.Prop_.Value.Flag vy17.Prop_.Value.Number vy17.Prop_.Value.Words)) (api_Stamp.mk vy17.Stamp.At vy17.Stamp.By vy17.Stamp.No))).set (IntKind.wrap .i64 (vj1 - 1)).toNat (api_Cell.mk (api_Prop.mk vy18.Prop_.Name (api_Value.mk vy18.Prop_.Value.Kind vy18.Prop_.Value.Flag vy18.Prop_.Value.Number vy18.Prop_.Value.Words)) (api_Stamp.mk vy18.Stamp.At vy18.Stamp.By vy18.Stamp.No)), IntKind.wrap .i64 (vj1 - 1))))
    (some (.inr vl3))

noncomputable def slices_insertionSortCmpFunc_api_Cell_o0_f3_fleetmake_cellOrder_x1 (qa : Int) (qb : Int) : (List api_Cell) × Int → Option (((List api_Cell) × Int) ⊕ ((List api_Cell)))
  | (vl, vi) =>
  cond (decide (vi < qb))
    ((loopO (slices_insertionSortCmpFunc_api_Cell_o0_f3_fleetmake_cellOrder_x2 qa) (vl, vi)).bind fun vl4_1 =>
    some (.inl (vl4_1, IntKind.wrap .i64 (vi + 1))))
    (some (.inr vl))

noncomputable def slices_insertionSortCmpFunc_api_Cell_o0_f3_fleetmake_cellOrder (qdata : List api_Cell) (qa : Int) (qb : Int) : Option ((List api_Cell)) :=
  (loopO (slices_insertionSortCmpFunc_api_Cell_o0_f3_fleetmake_cellOrder_x1 qa qb) (qdata, IntKind.wrap .i64 (qa + 1))).bind fun vl5_1 =>
  some vl5_1

/-! ### slices.stableCmpFunc[beaconfleet/api.Cell] -/
noncomputable def slices_stableCmpFunc_api_Cell_o0_f2_fleetmake_cellOrder_x1 (qn : Int) : (List api_Cell) × Int × Int → Option (((List api_Cell) × Int × Int) ⊕ (((List api_Cell) × Int)))
  | (vl, va, vb) =>
  cond (decide (vb ≤ qn))
    ((slices_insertionSortCmpFunc_api_Cell_o0_f3_fleetmake_cellOrder vl va vb).bind fun vl6_1 =>
    gd (vl6_1.length == vl.length) <|
    some (.inl (vl6_1, vb, IntKind.wrap .i64 (vb + 20))))
    (some (.inr (vl, va)))

noncomputable def slices_stableCmpFunc_api_Cell_o0_f2_fleetmake_cellOrder_x3 (qn : Int) (vblockSize : Int) : Unit → Option ((Unit) ⊕ (Unit))
  | _ =>
  cond (decide ((IntKind.wrap .i64 ((2 : Int) * vblockSize)) ≤ qn))
    (none)
    (some (.inr ()))

noncomputable def slices_stableCmpFunc_api_Cell_o0_f2_fleetmake_cellOrder_x2 (qn : Int) (vblockSize : Int) : Option ((Int) ⊕ (Unit)) :=
  cond (decide (vblockSize < qn))
    ((loopO (slices_stableCmpFunc_api_Cell_o0_f2_fleetmake_cellOrder_x3 qn vblockSize) ()).bind fun _ =>
    cond (decide ((IntKind.wrap .i64 ((0 : Int) + vblockSize)) < qn))
      (none)
      (some (.inl (IntKind.wrap .i64 (vblockSize * 2)))))
    (some (.inr ()))

noncomputable def slices_stableCmpFunc_api_Cell_o0_f2_fleetmake_cellOrder (qdata : List api_Cell) (qn : Int) : Option ((List api_Cell)) :=
  (loopO (slices_stableCmpFunc_api_Cell_o0_f2_fleetmake_cellOrder_x1 qn) (qdata, 0, 20)).bind fun (vl1_1, va1_1) =>
  (slices_insertionSortCmpFunc_api_Cell_o0_f3_fleetmake_cellOrder vl1_1 va1_1 qn).bind fun vl6_2 =>
  gd (vl6_2.length == vl1_1.length) <|
  (loopO (slices_stableCmpFunc_api_Cell_o0_f2_fleetmake_cellOrder_x2 qn) 20).bind fun _ =>
  some vl6_2

/-! ### slices.SortStableFunc[[]beaconfleet/api.Cell,beaconfleet/api.Cell] -/
noncomputable def slices_SortStableFunc_api_Cell_api_Cell_o0_f1_fleetmake_cellOrder (qx : List api_Cell) : Option ((List api_Cell)) :=
  (slices_stableCmpFunc_api_Cell_o0_f2_fleetmake_cellOrder qx (qx.length : Int)).bind fun vl2 =>
  gd (vl2.length == qx.length) <|
  some vl2

/-! ### (*beaconfleet/fleetmake.Stream).RightCells$1 -/
noncomputable def fleetmake_Stream_RightCells_1 (qa : api_Cell) (qb : api_Cell) : Option (Unit) :=
  some ()

/-! ### slices.CompactFunc[[]beaconfleet/api.Cell,beaconfleet/api.Cell] -/
noncomputable def slices_CompactFunc_api_Cell_api_Cell_o0_f1_fleetmake_Stream_RightCells_1_x3 (qx : List api_Cell) (vx : Int) (vl4 : List api_Cell) (vx6 : Int) (vx7 : Int) : Option (((List api_Cell) × Int)) :=
  gd (decide (0 ≤ vx) && decide (0 ≤ vx7) && decide (vx7 < (qx.length : Int) - vx)) <|
  (at? vl4 (vx + vx7)).bind fun vy13 =>
  gd (decide (0 ≤ vx) && decide (0 ≤ (IntKind.wrap .i64 (vx7 - 1))) && decide ((IntKind.wrap .i64 (vx7 - 1)) < (qx.length : Int) - vx)) <|
  (at? vl4 (vx + (IntKind.wrap .i64 (vx7 - 1)))).bind fun vy14 =>
  (fleetmake_Stream_RightCells_1 (api_Cell.mk (api_Prop.mk vy13.Prop_.Name (api_Value.mk vy13.Prop_.Value.Kind vy13.Prop_.Value.Flag vy13.Prop_.Value.Number vy13.Prop_.Value.Words)) (api_Stamp.mk vy13.Stamp.At vy13.Stamp.By vy13.Stamp.No)) (api_Cell.mk (api_Prop.mk vy14.Prop_.Name (api_Value.mk vy14.Prop_.Value.Kind vy14.Prop_.Value.Flag vy14.Prop_.Value.Number vy14.Prop_.Value.Words)) (api_Stamp.mk vy14.Stamp.At vy14.Stamp.By vy14.Stamp.No))).bind fun _ =>
  cond (!(decide (vy13.Prop_.Name = vy14.Prop_.Name)))
    ((at? vl4 vx6).bind fun vy15 =>
    some (vl4.set vx6.toNat (api_Cell.mk (api_Prop.mk vy13.Prop_.Name (api_Value.mk vy13.Prop_.Value.Kind vy13.Prop_.Value.Flag vy13.Prop_.Value.Number vy13.Prop_.Value.Words)) (api_Stamp.mk vy13.Stamp.At vy13.Stamp.By vy13.Stamp.No)), IntKind.wrap .i64 (vx6 + 1)))
    (some (vl4, vx6))

noncomputable def slices_CompactFunc_api_Cell_api_Cell_o0_f1_fleetmake_Stream_RightCells_1_x2 (qx : List api_Cell) (vx : Int) : (List api_Cell) × Int × Int → Option (((List api_Cell) × Int × Int) ⊕ (((List api_Cell) × Int)))
  | (vl4, vx6, vx7) =>
  cond (decide (vx7 < (((qx.length : Int).toNat - vx.toNat : Nat) : Int)))
    ((slices_CompactFunc_api_Cell_api_Cell_o0_f1_fleetmake_Stream_RightCells_1_x3 qx vx vl4 vx6 vx7).bind fun (vl6_1, vx9_1) =>
    some (.inl (vl6_1, vx9_1, IntKind.wrap .i64 (vx7 + 1))))
    (some (.inr (vl4, vx6)))

noncomputable def slices_CompactFunc_api_Cell_api_Cell_o0_f1_fleetmake_Stream_RightCells_1_x1 (qx : List api_Cell) (vx : Int) : Option ((Int) ⊕ (Unit ⊕ (List api_Cell))) :=
  cond (decide (vx < (qx.length : Int)))
    ((at? qx vx).bind fun vy8 =>
    (at? qx (IntKind.wrap .i64 (vx - 1))).bind fun vy9 =>
    (fleetmake_Stream_RightCells_1 (api_Cell.mk (api_Prop.mk vy8.Prop_.Name (api_Value.mk vy8.Prop_.Value.Kind vy8.Prop_.Value.Flag vy8.Prop_.Value.Number vy8.Prop_.Value.Words)) (api_Stamp.mk vy8.Stamp.At vy8.Stamp.By vy8.Stamp.No)) (api_Cell.mk (api_Prop.mk vy9.Prop_.Name (api_Value.mk vy9.Prop_.Value.Kind vy9.Prop_.Value.Flag vy9.Prop_.Value.Number vy9.Prop_.Value.Words)) (api_Stamp.mk vy9.Stamp.At vy9.Stamp.By vy9.Stamp.No))).bind fun _ =>
    cond (decide (vy8.Prop_.Name = vy9.Prop_.Name))
      (gd (decide (0 ≤ vx) && decide (vx ≤ (qx.length : Int)) && decide ((qx.length : Int) ≤ (qx.length : Int))) <|
      (loopO (slices_CompactFunc_api_Cell_api_Cell_o0_f1_fleetmake_Stream_RightCells_1_x2 qx vx) (qx, vx, 1)).bind fun (vl7_1, vx10_1) =>
      gd (decide (0 ≤ vx10_1) && decide (vx10_1 ≤ (vl7_1.length : Int)) && decide ((vl7_1.length : Int) ≤ (vl7_1.length : Int))) <|
      gd (decide (0 ≤ vx10_1) && decide (vx10_1 ≤ ((vl7_1.take vx10_1.toNat ++ (List.replicate ((vl7_1.length : Int).toNat - vx10_1.toNat) (api_Cell.mk (api_Prop.mk ([] : List UInt8) (api_Value.mk 0 false 0 ([] : List UInt8))) (api_Stamp.mk 0 ([] : List UInt8) 0)) ++ vl7_1.drop (vx10_1.toNat + ((vl7_1.length : Int).toNat - vx10_1.toNat)))).length : Int))) <|
      some (.inr (.inr ((vl7_1.take vx10_1.toNat ++ (List.replicate ((vl7_1.length : Int).toNat - vx10_1.toNat) (api_Cell.mk (api_Prop.mk ([] : List UInt8) (api_Value.mk 0 false 0 ([] : List UInt8))) (api_Stamp.mk 0 ([] : List UInt8) 0)) ++ vl7_1.drop (vx10_1.toNat + ((vl7_1.length : Int).toNat - vx10_1.toNat)))).take vx10_1.toNat))))
      (some (.inl (IntKind.wrap .i64 (vx + 1)))))
    (some (.inr (.inl ())))

noncomputable def slices_CompactFunc_api_Cell_api_Cell_o0_f1_fleetmake_Stream_RightCells_1 (qx : List api_Cell) : Option ((List api_Cell)) :=
  cond (decide ((qx.length : Int) < 2))
    (some qx)
    ((loopO (slices_CompactFunc_api_Cell_api_Cell_o0_f1_fleetmake_Stream_RightCells_1_x1 qx) 1).bind fun x => match x with
      | .inl _ =>
        some qx
      | .inr vx11_1 =>
        some vx11_1)

/-! ### (*beaconfleet/fleetmake.Stream).RightCells -/
noncomputable def fleetmake_Stream_RightCells_x2 (vr5 : List UInt8) (vr4_1 : api_Value) (vs1_2 : fleetmake_Stream) (vr3_1 : api_Stamp) : Option (api_Cell) :=
  (fleetmake_Stream_Flip vs1_2 3).bind fun vr6 =>
  cond (vr6)
    (some (api_Cell.mk (api_Prop.mk vr5 (api_Value.mk 0 false 0 ([] : List UInt8))) vr3_1))
    (some (api_Cell.mk (api_Prop.mk vr5 vr4_1) vr3_1))

noncomputable def fleetmake_Stream_RightCells_x1 (vr : Int) : fleetmake_Stream × (List api_Cell) × Int → Option ((fleetmake_Stream × (List api_Cell) × Int) ⊕ ((fleetmake_Stream × (List api_Cell))))
  | (vs1, vout, vx) =>
  cond (decide (vx < vr))
    ((fleetmake_Stream_Some_o1 vs1 ([([97] : List UInt8), ([97] : List UInt8), ([97, 46, 120] : List UInt8), ([97, 46, 121] : List UInt8), ([97, 46, 120, 46, 112] : List UInt8), ([98] : List UInt8), ([98, 46, 122] : List UInt8), ([97, 98] : List UInt8)] : List (List UInt8))).bind fun vr5 =>
    (fleetmake_Stream_RightValue (fleetmake_Stream.mk vs1.L (IntKind.wrap .i64 (vs1.at_ + 1)))).bind fun vr4_1 =>
    (fleetmake_Stream_RightStamp (fleetmake_Stream.mk vs1.L (IntKind.wrap .i64 ((IntKind.wrap .i64 ((IntKind.wrap .i64 (vs1.at_ + 1)) + 1)) + 1)))).bind fun (vs1_2, vr3_1) =>
    (fleetmake_Stream_RightCells_x2 vr5 vr4_1 vs1_2 vr3_1).bind fun vc2_1 =>
    gd (Nat.ble (vout.length + ([api_Cell.mk (api_Prop.mk vc2_1.Prop_.Name (api_Value.mk vc2_1.Prop_.Value.Kind vc2_1.Prop_.Value.Flag vc2_1.Prop_.Value.Number vc2_1.Prop_.Value.Words)) (api_Stamp.mk vc2_1.Stamp.At vc2_1.Stamp.By vc2_1.Stamp.No)] : List api_Cell).length) LIM) <|
    some (.inl (fleetmake_Stream.mk vs1_2.L (IntKind.wrap .i64 (vs1_2.at_ + 1)), vout ++ ([api_Cell.mk (api_Prop.mk vc2_1.Prop_.Name (api_Value.mk vc2_1.Prop_.Value.Kind vc2_1.Prop_.Value.Flag vc2_1.Prop_.Value.Number vc2_1.Prop_.Value.Words)) (api_Stamp.mk vc2_1.Stamp.At vc2_1.Stamp.By vc2_1.Stamp.No)] : List api_Cell), IntKind.wrap .i64 (vx + 1))))
    (some (.inr (vs1, vout)))

noncomputable def fleetmake_Stream_RightCells (qs : fleetmake_Stream) : Option (fleetmake_Stream × (List api_Cell)) :=
  (fleetmake_Stream_Range qs 0 6).bind fun (vs, vr) =>
  (loopO (fleetmake_Stream_RightCells_x1 vr) (vs, [], 0)).bind fun (vs2_1, vout1_1) =>
  (slices_SortStableFunc_api_Cell_api_Cell_o0_f1_fleetmake_cellOrder vout1_1).bind fun vl =>
  gd (vl.length == vout1_1.length) <|
  (slices_CompactFunc_api_Cell_api_Cell_o0_f1_fleetmake_Stream_RightCells_1 vl).bind fun vr7 =>
  some (vs2_1, vr7)

/-! ### strings.Repeat -/
noncomputable def strings_Repeat (qx : List UInt8) (qx1 : Int) : Option (List UInt8) :=
  gd (decide (0 ≤ qx1) && decide (qx1 ≤ 9223372036854775807) && decide (qx.length * qx1.toNat ≤ 140737488355328)) (some (Lib.repeatL qx qx1.toNat))

/-! ### (*beaconfleet/fleetmake.Stream).PropName -/
noncomputable def fleetmake_Stream_PropName (qs : fleetmake_Stream) : Option ((List UInt8)) :=
  (fleetmake_Stream_Flip qs 25).bind fun vr =>
  cond (vr)
    ((strings_Repeat ([97] : List UInt8) 41).bind fun vr1 =>
    (fleetmake_Stream_Some_o1 (fleetmake_Stream.mk qs.L (IntKind.wrap .i64 (qs.at_ + 1))) ([([] : List UInt8), ([65] : List UInt8), ([97, 46] : List UInt8), ([46, 97] : List UInt8), ([97, 46, 46, 98] : List UInt8), ([97, 46, 98, 46, 99, 46, 100, 46, 101, 46, 102, 46, 103, 46, 104, 46, 105] : List UInt8), ([97, 32, 98] : List UInt8), vr1] : List (List UInt8))).bind fun vr2 =>
    some vr2)
    ((fleetmake_Stream_Some_o1 (fleetmake_Stream.mk qs.L (IntKind.wrap .i64 (qs.at_ + 1))) ([([97] : List UInt8), ([97] : List UInt8), ([97, 46, 120] : List UInt8), ([97, 46, 120] : List UInt8), ([97, 46, 121] : List UInt8), ([97, 46, 120, 46, 112] : List UInt8), ([98] : List UInt8), ([98, 46, 122] : List UInt8), ([97, 98] : List UInt8), ([97, 45, 49] : List UInt8)] : List (List UInt8))).bind fun vr3 =>
    some vr3)

/-! ### (*beaconfleet/fleetmake.Stream).Odd -/
noncomputable def fleetmake_Stream_Odd (qs : fleetmake_Stream) (qlow : Int) (qhigh : Int) : Option (fleetmake_Stream × Int) :=
  (fleetmake_Stream_Flip qs 12).bind fun vr =>
  cond (vr)
    ((fleetmake_Stream_Pick_o1 (fleetmake_Stream.mk qs.L (IntKind.wrap .i64 (qs.at_ + 1))) ([IntKind.wrap .i64 (qlow - 1), IntKind.wrap .i64 (qhigh + 1), qlow, qhigh, (-1099511627776), 1099511627776] : List Int)).bind fun vr1 =>
    some (fleetmake_Stream.mk qs.L (IntKind.wrap .i64 ((IntKind.wrap .i64 (qs.at_ + 1)) + 1)), vr1))
    ((fleetmake_Stream_Range (fleetmake_Stream.mk qs.L (IntKind.wrap .i64 (qs.at_ + 1))) qlow qhigh).bind fun (vs, vr2) =>
    some (vs, vr2))

/-! ### (*beaconfleet/fleetmake.Stream).Value -/
noncomputable def fleetmake_Stream_Value_x1 (qs : fleetmake_Stream) (vr4 : api_Value) : Option ((fleetmake_Stream × api_Value)) :=
  (fleetmake_Stream_Flip (fleetmake_Stream.mk qs.L (IntKind.wrap .i64 ((IntKind.wrap .i64 ((IntKind.wrap .i64 (qs.at_ + 1)) + 1)) + 1))) 25).bind fun vr1 =>
  cond (vr1)
    ((fleetmake_Stream_Next (fleetmake_Stream.mk qs.L (IntKind.wrap .i64 ((IntKind.wrap .i64 ((IntKind.wrap .i64 ((IntKind.wrap .i64 (qs.at_ + 1)) + 1)) + 1)) + 1))) 5).bind fun vr3 =>
    cond (decide (vr3 = 0))
      ((fleetmake_Stream_Pick_o1 (fleetmake_Stream.mk qs.L (IntKind.wrap .i64 ((IntKind.wrap .i64 ((IntKind.wrap .i64 ((IntKind.wrap .i64 ((IntKind.wrap .i64 (qs.at_ + 1)) + 1)) + 1)) + 1)) + 1))) ([(-1), 4, 0] : List Int)).bind fun vr2 =>
      some (fleetmake_Stream.mk qs.L (IntKind.wrap .i64 ((IntKind.wrap .i64 ((IntKind.wrap .i64 ((IntKind.wrap .i64 ((IntKind.wrap .i64 ((IntKind.wrap .i64 (qs.at_ + 1)) + 1)) + 1)) + 1)) + 1)) + 1)), api_Value.mk vr2 vr4.Flag vr4.Number vr4.Words))
      (cond (decide (vr3 = 1))
        (some (fleetmake_Stream.mk qs.L (IntKind.wrap .i64 ((IntKind.wrap .i64 ((IntKind.wrap .i64 ((IntKind.wrap .i64 ((IntKind.wrap .i64 (qs.at_ + 1)) + 1)) + 1)) + 1)) + 1)), api_Value.mk vr4.Kind (!vr4.Flag) vr4.Number vr4.Words))
        (cond (decide (vr3 = 2))
          ((fleetmake_Stream_Odd (fleetmake_Stream.mk qs.L (IntKind.wrap .i64 ((IntKind.wrap .i64 ((IntKind.wrap .i64 ((IntKind.wrap .i64 ((IntKind.wrap .i64 (qs.at_ + 1)) + 1)) + 1)) + 1)) + 1))) (-1000000000) 1000000000).bind fun (vs1, vr3_1) =>
          some (vs1, api_Value.mk vr4.Kind vr4.Flag vr3_1 vr4.Words))
          (cond (decide (vr3 = 3))
            ((strings_Repeat ([119] : List UInt8) 1001).bind fun vr5 =>
            (fleetmake_Stream_Some_o1 (fleetmake_Stream.mk qs.L (IntKind.wrap .i64 ((IntKind.wrap .i64 ((IntKind.wrap .i64 ((IntKind.wrap .i64 ((IntKind.wrap .i64 (qs.at_ + 1)) + 1)) + 1)) + 1)) + 1))) ([([10] : List UInt8), ([127] : List UInt8), ([255] : List UInt8), vr5] : List (List UInt8))).bind fun vr6 =>
            some (fleetmake_Stream.mk qs.L (IntKind.wrap .i64 ((IntKind.wrap .i64 ((IntKind.wrap .i64 ((IntKind.wrap .i64 ((IntKind.wrap .i64 ((IntKind.wrap .i64 (qs.at_ + 1)) + 1)) + 1)) + 1)) + 1)) + 1)), api_Value.mk 3 false 0 vr6))
            (some (fleetmake_Stream.mk qs.L (IntKind.wrap .i64 ((IntKind.wrap .i64 ((IntKind.wrap .i64 ((IntKind.wrap .i64 ((IntKind.wrap .i64 (qs.at_ + 1)) + 1)) + 1)) + 1)) + 1)), api_Value.mk vr4.Kind vr4.Flag vr4.Number ([122] : List UInt8)))))))
    (some (fleetmake_Stream.mk qs.L (IntKind.wrap .i64 ((IntKind.wrap .i64 ((IntKind.wrap .i64 ((IntKind.wrap .i64 (qs.at_ + 1)) + 1)) + 1)) + 1)), vr4))

noncomputable def fleetmake_Stream_Value (qs : fleetmake_Stream) : Option (fleetmake_Stream × api_Value) :=
  (fleetmake_Stream_RightValue qs).bind fun vr4 =>
  (fleetmake_Stream_Flip (fleetmake_Stream.mk qs.L (IntKind.wrap .i64 ((IntKind.wrap .i64 (qs.at_ + 1)) + 1))) 6).bind fun vr =>
  cond (vr)
    (some (fleetmake_Stream.mk qs.L (IntKind.wrap .i64 ((IntKind.wrap .i64 ((IntKind.wrap .i64 (qs.at_ + 1)) + 1)) + 1)), api_Value.mk 0 false 0 ([] : List UInt8)))
    ((fleetmake_Stream_Value_x1 qs vr4).bind fun (vs2, vv1) =>
    some (vs2, vv1))

/-! ### (*beaconfleet/fleetmake.Stream).Stamp -/
noncomputable def fleetmake_Stream_Stamp_x1 (vs1 : fleetmake_Stream) (vr3 : api_Stamp) : Option ((fleetmake_Stream × api_Stamp)) :=
  (fleetmake_Stream_Flip vs1 25).bind fun vr =>
  cond (vr)
    ((fleetmake_Stream_Odd (fleetmake_Stream.mk vs1.L (IntKind.wrap .i64 (vs1.at_ + 1))) 0 9).bind fun (vs1_1, vr3_1) =>
    (fleetmake_Stream_Some_o1 vs1_1 ([([104] : List UInt8), ([] : List UInt8), ([65] : List UInt8)] : List (List UInt8))).bind fun vr1 =>
    (fleetmake_Stream_Odd (fleetmake_Stream.mk vs1_1.L (IntKind.wrap .i64 (vs1_1.at_ + 1))) 0 9).bind fun (vs1_2, vr3_2) =>
    some (vs1_2, api_Stamp.mk vr3_1 vr1 vr3_2))
    (some (fleetmake_Stream.mk vs1.L (IntKind.wrap .i64 (vs1.at_ + 1)), vr3))

noncomputable def fleetmake_Stream_Stamp (qs : fleetmake_Stream) : Option (fleetmake_Stream × api_Stamp) :=
  (fleetmake_Stream_RightStamp qs).bind fun (vs1, vr3) =>
  (fleetmake_Stream_Stamp_x1 vs1 vr3).bind fun (vs2, vt1) =>
  some (vs2, vt1)

/-! ### (*beaconfleet/fleetmake.Stream).Cells -/
noncomputable def fleetmake_Stream_Cells_x1 (vs3 : fleetmake_Stream) (vr8 : List api_Cell) : Option ((fleetmake_Stream × (List api_Cell))) :=
  (fleetmake_Stream_Flip vs3 10).bind fun vr =>
  cond (vr)
    ((fleetmake_Stream_PropName (fleetmake_Stream.mk vs3.L (IntKind.wrap .i64 (vs3.at_ + 1)))).bind fun vr4 =>
    (fleetmake_Stream_Value (fleetmake_Stream.mk vs3.L (IntKind.wrap .i64 ((IntKind.wrap .i64 ((IntKind.wrap .i64 (vs3.at_ + 1)) + 1)) + 1)))).bind fun (vs3_1, vr7) =>
    (fleetmake_Stream_Stamp vs3_1).bind fun (vs3_2, vr2) =>
    gd (Nat.ble (vr8.length + ([api_Cell.mk (api_Prop.mk vr4 vr7) vr2] : List api_Cell).length) LIM) <|
    (fleetmake_Stream_Flip vs3_2 2).bind fun vr1 =>
    cond (vr1)
      ((slices_SortStableFunc_api_Cell_api_Cell_o0_f1_fleetmake_cellOrder (vr8 ++ ([api_Cell.mk (api_Prop.mk vr4 vr7) vr2] : List api_Cell))).bind fun vl =>
      gd (vl.length == (vr8 ++ ([api_Cell.mk (api_Prop.mk vr4 vr7) vr2] : List api_Cell)).length) <|
      some (fleetmake_Stream.mk vs3_2.L (IntKind.wrap .i64 (vs3_2.at_ + 1)), vl))
      (some (fleetmake_Stream.mk vs3_2.L (IntKind.wrap .i64 (vs3_2.at_ + 1)), vr8 ++ ([api_Cell.mk (api_Prop.mk vr4 vr7) vr2] : List api_Cell))))
    (some (fleetmake_Stream.mk vs3.L (IntKind.wrap .i64 (vs3.at_ + 1)), vr8))

noncomputable def fleetmake_Stream_Cells (qs : fleetmake_Stream) : Option (fleetmake_Stream × (List api_Cell)) :=
  (fleetmake_Stream_RightCells qs).bind fun (vs3, vr8) =>
  (fleetmake_Stream_Cells_x1 vs3 vr8).bind fun (vs1, vout1) =>
  some (vs1, vout1)

/-! ### internal/stringslite.IndexByte -/
noncomputable def stringslite_IndexByte (qs : List UInt8) (qc : Int) : Option (Unit) :=
  some ()

/-! ### internal/stringslite.Index -/
noncomputable def stringslite_Index_x1 (qx : List UInt8) (qx1 : List UInt8) : Option (Bool) :=
  cond (decide ((qx1.length : Int) = 0))
    (some true)
    (some (decide (qx1 = qx)))

noncomputable def stringslite_Index (qx : List UInt8) (qx1 : List UInt8) : Option (Int) :=
  (stringslite_Index_x1 qx qx1).bind fun vx1 =>
  cond (vx1)
    (some 0)
    (cond (decide ((qx1.length : Int) = 1))
      ((at? qx1 0).bind fun vc =>
      (stringslite_IndexByte qx (vc.toNat : Int)).bind fun _ =>
      some (Lib.indexByte qx (vc.toNat : Int).toNat.toUInt8))
      (cond (decide ((qx.length : Int) ≤ (qx1.length : Int)))
        (some (-1))
        (none)))

/-! ### internal/stringslite.Cut -/
noncomputable def stringslite_Cut (qs : List UInt8) (qsep : List UInt8) : Option ((List UInt8) × (List UInt8) × Bool) :=
  (stringslite_Index qs qsep).bind fun vr =>
  cond (decide (0 ≤ vr))
    ((sub? qs 0 vr).bind fun vs =>
    (sub? qs (IntKind.wrap .i64 (vr + (qsep.length : Int))) (qs.length : Int)).bind fun vs1 =>
    some (vs, vs1, true))
    (some (qs, ([] : List UInt8), false))

/-! ### strings.Cut -/
noncomputable def strings_Cut (qs : List UInt8) (qsep : List UInt8) : Option ((List UInt8) × (List UInt8) × Bool) :=
  (stringslite_Cut qs qsep).bind fun (vr1, vr2, vr3) =>
  some (vr1, vr2, vr3)

/-! ### beaconfleet/base.Key -/
noncomputable def base_Key_x1 (qs : List UInt8) : Option (Bool) :=
  cond (decide (qs = ([] : List UInt8)))
    (some true)
    (cond (decide (40 < (qs.length : Int)))
      (some true)
      ((at? qs 0).bind fun vc =>
      cond (decide ((vc.toNat : Int) < 97))
        (some true)
        (some (decide (122 < (vc.toNat : Int))))))

noncomputable def base_Key_x3 (vc2 : UInt8) : Option (Bool) :=
  cond (decide (97 ≤ (vc2.toNat : Int)))
    (cond (decide ((vc2.toNat : Int) ≤ 122))
      (some false)
      (cond (decide (48 ≤ (vc2.toNat : Int)))
        (cond (decide ((vc2.toNat : Int) ≤ 57))
          (some false)
          (cond (decide ((vc2.toNat : Int) = 45))
            (some false)
            (some (!(decide ((vc2.toNat : Int) = 95))))))
        (cond (decide ((vc2.toNat : Int) = 45))
          (some false)
          (some (!(decide ((vc2.toNat : Int) = 95)))))))
    (cond (decide (48 ≤ (vc2.toNat : Int)))
      (cond (decide ((vc2.toNat : Int) ≤ 57))
        (some false)
        (cond (decide ((vc2.toNat : Int) = 45))
          (some false)
          (some (!(decide ((vc2.toNat : Int) = 95))))))
      (cond (decide ((vc2.toNat : Int) = 45))
        (some false)
        (some (!(decide ((vc2.toNat : Int) = 95))))))

noncomputable def base_Key_x2 (qs : List UInt8) (vx2 : Int) : Option ((Int) ⊕ (Unit ⊕ Unit)) :=
  cond (decide (vx2 < (qs.length : Int)))
    ((at? qs vx2).bind fun vc2 =>
    (base_Key_x3 vc2).bind fun vx4_1 =>
    cond (vx4_1)
      (some (.inr (.inr ())))
      (some (.inl (IntKind.wrap .i64 (vx2 + 1)))))
    (some (.inr (.inl ())))

noncomputable def base_Key (qs : List UInt8) : Option (Bool) :=
  (base_Key_x1 qs).bind fun vx1 =>
  cond (vx1)
    (some false)
    ((loopO (base_Key_x2 qs) 0).bind fun x => match x with
      | .inl _ =>
        some true
      | .inr _ =>
        some false)

/-! ### beaconfleet/base.Dotted -/
noncomputable def base_Dotted_x1 (qmost : Int) : (List UInt8) × Int → Option (((List UInt8) × Int) ⊕ (Unit ⊕ Bool))
  | (vs, vn) =>
  cond (decide (vn < qmost))
    ((strings_Cut vs ([46] : List UInt8)).bind fun (vr2, vr4_1, vr5_1) =>
    (base_Key vr2).bind fun vr3 =>
    cond (!vr3)
      (some (.inr (.inr false)))
      (cond (!vr5_1)
        (some (.inr (.inr true)))
        (some (.inl (vr4_1, IntKind.wrap .i64 (vn + 1))))))
    (some (.inr (.inl ())))

noncomputable def base_Dotted (qs : List UInt8) (qmost : Int) : Option (Bool) :=
  (loopO (base_Dotted_x1 qmost) (qs, 0)).bind fun x => match x with
    | .inl _ =>
      some false
    | .inr vx1 =>
      some vx1

/-! ### beaconfleet/twin.isName -/
noncomputable def twin_isName (qs : List UInt8) : Option (Bool) :=
  (base_Dotted qs 8).bind fun vr6 =>
  some vr6

/-! ### beaconfleet/base.Out -/
noncomputable def base_Out_x1 (qn : Int) (qlow : Int) (qhigh : Int) : Option (Bool) :=
  cond (decide (qn < qlow))
    (some true)
    (some (decide (qhigh < qn)))

noncomputable def base_Out (qn : Int) (qlow : Int) (qhigh : Int) : Option (Bool) :=
  (base_Out_x1 qn qlow qhigh).bind fun vx1 =>
  some vx1

/-! ### unicode/utf8.ValidString -/
noncomputable def utf8_ValidString (qx : List UInt8) : Option (Bool) :=
  gd (decide (qx.length ≤ 9223372036854775807)) (some (Lib.validD qx))

/-! ### beaconfleet/base.Unmarked -/
noncomputable def base_Unmarked_x2 (qs : List UInt8) (vx : Int) : Option (Bool) :=
  (at? qs vx).bind fun vc1 =>
  cond (decide ((vc1.toNat : Int) < 32))
    (some true)
    (some (decide ((vc1.toNat : Int) = 127)))

noncomputable def base_Unmarked_x1 (qs : List UInt8) (vx : Int) : Option ((Int) ⊕ (Unit ⊕ Unit)) :=
  cond (decide (vx < (qs.length : Int)))
    ((base_Unmarked_x2 qs vx).bind fun vx2_1 =>
    cond (vx2_1)
      (some (.inr (.inr ())))
      (some (.inl (IntKind.wrap .i64 (vx + 1)))))
    (some (.inr (.inl ())))

noncomputable def base_Unmarked (qs : List UInt8) : Option (Bool) :=
  (loopO (base_Unmarked_x1 qs) 0).bind fun x => match x with
    | .inl _ =>
      (utf8_ValidString qs).bind fun vr =>
      some vr
    | .inr _ =>
      some false

/-! ### beaconfleet/twin.valueFault -/
noncomputable def twin_valueFault_x1 (qv : api_Value) : Option (api_Value ⊕ Unit) :=
  cond (decide (qv.Kind = 0))
    (some (.inl (api_Value.mk qv.Kind false 0 ([] : List UInt8))))
    (cond (decide (qv.Kind = 1))
      (some (.inl (api_Value.mk qv.Kind qv.Flag 0 ([] : List UInt8))))
      (cond (decide (qv.Kind = 2))
        (some (.inl (api_Value.mk qv.Kind false qv.Number ([] : List UInt8))))
        (cond (decide (qv.Kind = 3))
          (some (.inl (api_Value.mk qv.Kind false 0 qv.Words)))
          (some (.inr ())))))

noncomputable def twin_valueFault (qv : api_Value) : Option (Int) :=
  (twin_valueFault_x1 qv).bind fun x => match x with
    | .inl vused1 =>
      cond (!(decide (qv.Kind = vused1.Kind) && ((qv.Flag == vused1.Flag) && (decide (qv.Number = vused1.Number) && (decide (qv.Words = vused1.Words) && true)))))
        (some 3)
        ((base_Out qv.Number (-1000000000) 1000000000).bind fun vr =>
        cond (vr)
          (some 1)
          (cond (decide (1000 < (qv.Words.length : Int)))
            (some 2)
            ((base_Unmarked qv.Words).bind fun vr1 =>
            cond (!vr1)
              (some 3)
              (some 0))))
    | .inr _ =>
      some 4

/-! ### beaconfleet/base.Moment -/
noncomputable def base_Moment (qn : Int) : Option (Bool) :=
  (base_Out qn 0 345686399999).bind fun vr =>
  some (!vr)

/-! ### beaconfleet/twin.stampFault -/
noncomputable def twin_stampFault (qs : api_Stamp) : Option (Int) :=
  (base_Moment qs.At).bind fun vr1 =>
  cond (!vr1)
    (some 1)
    ((base_Key qs.By).bind fun vr =>
    cond (!vr)
      (some 5)
      ((base_Out qs.No 0 1000000000).bind fun vr2 =>
      cond (vr2)
        (some 1)
        (some 0)))

/-! ### beaconfleet/base.First -/
noncomputable def base_First_x1 (ql : List Int) (vx : Int) : Option ((Int) ⊕ (Unit ⊕ Int)) :=
  cond (decide (vx < (ql.length : Int)))
    ((at? ql vx).bind fun vy1 =>
    cond (!decide (vy1 = 0))
      (some (.inr (.inr vy1)))
      (some (.inl (IntKind.wrap .i64 (vx + 1)))))
    (some (.inr (.inl ())))

noncomputable def base_First (ql : List Int) : Option (Int) :=
  (loopO (base_First_x1 ql) 0).bind fun x => match x with
    | .inl _ =>
      some 0
    | .inr vx1_1 =>
      some vx1_1

/-! ### beaconfleet/twin.CheckCells -/
noncomputable def twin_CheckCells_x2 (ql : List api_Cell) (vx : Int) (vy2 : api_Cell) : Option (Bool) :=
  cond (decide (0 < vx))
    ((at? ql (IntKind.wrap .i64 (vx - 1))).bind fun vy3 =>
    some (Op.bytesLess vy2.Prop_.Name vy3.Prop_.Name || decide (vy2.Prop_.Name = vy3.Prop_.Name)))
    (some false)

noncomputable def twin_CheckCells_x1 (ql : List api_Cell) (vx : Int) : Option ((Int) ⊕ (Unit ⊕ Int)) :=
  cond (decide (vx < (ql.length : Int)))
    ((at? ql vx).bind fun vy2 =>
    (twin_isName vy2.Prop_.Name).bind fun vr4 =>
    cond (!vr4)
      (some (.inr (.inr 5)))
      ((twin_valueFault (api_Value.mk vy2.Prop_.Value.Kind vy2.Prop_.Value.Flag vy2.Prop_.Value.Number vy2.Prop_.Value.Words)).bind fun vr2_1 =>
      (twin_stampFault (api_Stamp.mk vy2.Stamp.At vy2.Stamp.By vy2.Stamp.No)).bind fun vr3_1 =>
      (base_First ([vr2_1, vr3_1] : List Int)).bind fun vr5 =>
      cond (!decide (vr5 = 0))
        (some (.inr (.inr vr5)))
        ((twin_CheckCells_x2 ql vx vy2).bind fun vx2_1 =>
        cond (vx2_1)
          (some (.inr (.inr 7)))
          (some (.inl (IntKind.wrap .i64 (vx + 1)))))))
    (some (.inr (.inl ())))

noncomputable def twin_CheckCells (ql : List api_Cell) : Option (Int) :=
  cond (decide (500 < (ql.length : Int)))
    (some 2)
    ((loopO (twin_CheckCells_x1 ql) 0).bind fun x => match x with
      | .inl _ =>
        some 0
      | .inr vx3_1 =>
        some vx3_1)

/-! ### cmp.isNaN[int] -/
noncomputable def cmp_isNaN_int (qx : Int) : Option (Unit) :=
  some ()

/-! ### cmp.Compare[int] -/
noncomputable def cmp_Compare_int (qx : Int) (qy : Int) : Option (Int) :=
  (cmp_isNaN_int qx).bind fun _ =>
  (cmp_isNaN_int qy).bind fun _ =>
  cond (!decide (qx = qx))
    (cond (!decide (qy = qy))
      (some 0)
      (some (-1)))
    (cond (!decide (qy = qy))
      (some 1)
      (cond (decide (qx < qy))
        (some (-1))
        (cond (decide (qy < qx))
          (some 1)
          (some 0))))

/-! ### cmp.Or[int] -/
noncomputable def cmp_Or_int_x1 (qvals : List Int) (vx : Int) : Option ((Int) ⊕ (Unit ⊕ Int)) :=
  cond (decide (vx < (qvals.length : Int)))
    ((at? qvals vx).bind fun vy1 =>
    cond (!decide (vy1 = 0))
      (some (.inr (.inr vy1)))
      (some (.inl (IntKind.wrap .i64 (vx + 1)))))
    (some (.inr (.inl ())))

noncomputable def cmp_Or_int (qvals : List Int) : Option (Int) :=
  (loopO (cmp_Or_int_x1 qvals) 0).bind fun x => match x with
    | .inl _ =>
      some 0
    | .inr vx1_1 =>
      some vx1_1

/-! ### beaconfleet/twin.byStamp -/
noncomputable def twin_byStamp (qa : api_Stamp) (qb : api_Stamp) : Option (Int) :=
  (cmp_Compare_int qa.At qb.At).bind fun vr =>
  (strings_Compare qa.By qb.By).bind fun _ =>
  (cmp_Compare_int qa.No qb.No).bind fun vr1 =>
  (cmp_Or_int ([vr, Lib.compareBytes qa.By qb.By, vr1] : List Int)).bind fun vr2 =>
  some vr2

/-! ### unicode/utf8.RuneCountInString -/
noncomputable def utf8_RuneCountInString_x1 (qs : List UInt8) : Nat × Int → Option ((Nat × Int) ⊕ (Int))
  | (vpos, vn) =>
  cond (decide (vpos < qs.length))
    ((some (dec qs vpos)).bind fun vd1 =>
    some (.inl ((vpos + vd1.2 : Nat), IntKind.wrap .i64 (vn + 1))))
    (some (.inr vn))

noncomputable def utf8_RuneCountInString (qs : List UInt8) : Option (Int) :=
  (loopO (utf8_RuneCountInString_x1 qs) ((0 : Nat), 0)).bind fun vn1_1 =>
  some vn1_1

/-! ### unicode/utf8.decodeRuneInStringSlow -/
noncomputable def utf8_decodeRuneInStringSlow (qx : List UInt8) : Option (Unit) :=
  cond (decide ((qx.length : Int) < 1))
    (some ())
    ((at? qx 0).bind fun vc =>
    none)

/-! ### unicode/utf8.DecodeRuneInString -/
noncomputable def utf8_DecodeRuneInString_x1 (qs : List UInt8) : Option (Bool) :=
  cond (!decide (qs = ([] : List UInt8)))
    ((at? qs 0).bind fun vc =>
    some (decide ((vc.toNat : Int) < 128)))
    (some false)

noncomputable def utf8_DecodeRuneInString (qs : List UInt8) : Option (Int × Int) :=
  (utf8_DecodeRuneInString_x1 qs).bind fun vx1 =>
  cond (vx1)
    ((at? qs 0).bind fun vc1 =>
    some (IntKind.wrap .i32 ((vc1.toNat : Int)), 1))
    ((utf8_decodeRuneInStringSlow qs).bind fun _ =>
    some (65533, 0))

/-! ### strings.explode -/
noncomputable def strings_explode_x2 (qn : Int) (vr : Int) : Option (Bool) :=
  cond (decide (qn < 0))
    (some true)
    (some (decide (vr < qn)))

noncomputable def strings_explode_x1 (qn : Int) (vr : Int) : Option (Int) :=
  (strings_explode_x2 qn vr).bind fun vx1 =>
  cond (vx1)
    (some vr)
    (some qn)

noncomputable def strings_explode_x3 (vn1 : Int) : (List UInt8) × (List (List UInt8)) × Int → Option (((List UInt8) × (List (List UInt8)) × Int) ⊕ (((List UInt8) × (List (List UInt8)))))
  | (vs, va, vi) =>
  cond (decide (vi < (IntKind.wrap .i64 (vn1 - 1))))
    ((utf8_DecodeRuneInString vs).bind fun (vr2, vr1_2) =>
    (sub? vs 0 vr1_2).bind fun vs3 =>
    (at? va vi).bind fun vy1 =>
    (sub? vs vr1_2 (vs.length : Int)).bind fun vs4 =>
    some (.inl (vs4, va.set vi.toNat vs3, IntKind.wrap .i64 (vi + 1))))
    (some (.inr (vs, va)))

noncomputable def strings_explode_x4 (vn1 : Int) (vs5_1 : List UInt8) (va1_1 : List (List UInt8)) : Option ((List (List UInt8))) :=
  cond (decide (0 < vn1))
    ((at? va1_1 (IntKind.wrap .i64 (vn1 - 1))).bind fun vy2 =>
    some (va1_1.set (IntKind.wrap .i64 (vn1 - 1)).toNat vs5_1))
    (some va1_1)

noncomputable def strings_explode (qs : List UInt8) (qn : Int) : Option ((List (List UInt8))) :=
  (utf8_RuneCountInString qs).bind fun vr =>
  (strings_explode_x1 qn vr).bind fun vn1 =>
  gd (decide (0 ≤ vn1) && decide (vn1 ≤ vn1) && decide (vn1 ≤ 137438953472)) <|
  (loopO (strings_explode_x3 vn1) (qs, List.replicate vn1.toNat ([] : List UInt8), 0)).bind fun (vs5_1, va1_1) =>
  (strings_explode_x4 vn1 vs5_1 va1_1).bind fun va2_1 =>
  some va2_1

/-! ### strings.Index -/
noncomputable def strings_Index (qs : List UInt8) (qsubstr : List UInt8) : Option (Int) :=
  (stringslite_Index qs qsubstr).bind fun vr =>
  some vr

/-! ### strings.Count -/
noncomputable def strings_Count_x1 (qsubstr : List UInt8) : (List UInt8) × Int → Option (((List UInt8) × Int) ⊕ (Int))
  | (vs, vn) =>
  (strings_Index vs qsubstr).bind fun vr1_1 =>
  cond (decide (vr1_1 = (-1)))
    (some (.inr vn))
    ((sub? vs (IntKind.wrap .i64 (vr1_1 + (qsubstr.length : Int))) (vs.length : Int)).bind fun vs2 =>
    some (.inl (vs2, IntKind.wrap .i64 (vn + 1))))

noncomputable def strings_Count (qs : List UInt8) (qsubstr : List UInt8) : Option (Int) :=
  cond (decide ((qsubstr.length : Int) = 0))
    ((utf8_RuneCountInString qs).bind fun vr =>
    some (IntKind.wrap .i64 (vr + 1)))
    (cond (decide ((qsubstr.length : Int) = 1))
      ((at? qsubstr 0).bind fun vc =>
      some (countB qs (vc.toNat : Int).toNat.toUInt8))
      ((loopO (strings_Count_x1 qsubstr) (qs, 0)).bind fun vx1 =>
      some vx1))

/-! ### strings.genSplit -/
noncomputable def strings_genSplit_x1 (qx : List UInt8) (qx1 : List UInt8) (qx3 : Int) : Option (Int) :=
  cond (decide (qx3 < 0))
    ((strings_Count qx qx1).bind fun vr2 =>
    some (IntKind.wrap .i64 (vr2 + 1)))
    (some qx3)

noncomputable def strings_genSplit_x2 (qx : List UInt8) (qx1 : List UInt8) (qx2 : Int) (vx1 : Int) : (List UInt8) × (List (List UInt8)) × Int → Option (((List UInt8) × (List (List UInt8)) × Int) ⊕ (((List UInt8) × (List (List UInt8)) × Int)))
  | (vx2, vx3, vx4) =>
  cond (decide (vx4 < (IntKind.wrap .i64 ((imin vx1 (IntKind.wrap .i64 ((qx.length : Int) + 1))) - 1))))
    ((strings_Index vx2 qx1).bind fun vr1_1 =>
    cond (decide (vr1_1 < 0))
      (some (.inr (vx2, vx3, vx4)))
      ((sub? vx2 0 (IntKind.wrap .i64 (vr1_1 + qx2))).bind fun vs2 =>
      (at? vx3 vx4).bind fun vy1 =>
      (sub? vx2 (IntKind.wrap .i64 (vr1_1 + (qx1.length : Int))) (vx2.length : Int)).bind fun vs3 =>
      some (.inl (vs3, vx3.set vx4.toNat vs2, IntKind.wrap .i64 (vx4 + 1)))))
    (some (.inr (vx2, vx3, vx4)))

noncomputable def strings_genSplit (qx : List UInt8) (qx1 : List UInt8) (qx2 : Int) (qx3 : Int) : Option ((List (List UInt8))) :=
  cond (decide (qx3 = 0))
    (some [])
    (cond (decide (qx1 = ([] : List UInt8)))
      ((strings_explode qx qx3).bind fun vr3 =>
      some vr3)
      ((strings_genSplit_x1 qx qx1 qx3).bind fun vx1 =>
      gd (decide (0 ≤ (imin vx1 (IntKind.wrap .i64 ((qx.length : Int) + 1)))) && decide ((imin vx1 (IntKind.wrap .i64 ((qx.length : Int) + 1))) ≤ (imin vx1 (IntKind.wrap .i64 ((qx.length : Int) + 1)))) && decide ((imin vx1 (IntKind.wrap .i64 ((qx.length : Int) + 1))) ≤ 137438953472)) <|
      (loopO (strings_genSplit_x2 qx qx1 qx2 vx1) (qx, List.replicate (imin vx1 (IntKind.wrap .i64 ((qx.length : Int) + 1))).toNat ([] : List UInt8), 0)).bind fun (vx5_1, vx6_1, vx7_1) =>
      (at? vx6_1 vx7_1).bind fun vy2 =>
      gd (decide (0 ≤ (IntKind.wrap .i64 (vx7_1 + 1))) && decide ((IntKind.wrap .i64 (vx7_1 + 1)) ≤ ((vx6_1.set vx7_1.toNat vx5_1).length : Int))) <|
      some ((vx6_1.set vx7_1.toNat vx5_1).take (IntKind.wrap .i64 (vx7_1 + 1)).toNat)))

/-! ### strings.Split -/
noncomputable def strings_Split (qs : List UInt8) (qsep : List UInt8) : Option ((List (List UInt8))) :=
  (strings_genSplit qs qsep 0 (-1)).bind fun vr =>
  some vr

/-! ### beaconfleet/fleetref2.in -/
noncomputable def fleetref2_in_x1 (qn : Int) (qlow : Int) (qhigh : Int) : Option (Bool) :=
  cond (decide (qlow ≤ qn))
    (some (decide (qn ≤ qhigh)))
    (some false)

noncomputable def fleetref2_in (qn : Int) (qlow : Int) (qhigh : Int) : Option (Bool) :=
  (fleetref2_in_x1 qn qlow qhigh).bind fun vx1 =>
  some vx1

/-! ### strings.IndexByte -/
noncomputable def strings_IndexByte (qs : List UInt8) (qc : Int) : Option (Unit) :=
  (stringslite_IndexByte qs qc).bind fun _ =>
  some ()

/-! ### beaconfleet/fleetref2.only -/
noncomputable def fleetref2_only_x1 (qs : List UInt8) (qsome : List UInt8) (vx : Int) : Option ((Int) ⊕ (Unit ⊕ Unit)) :=
  cond (decide (vx < (qs.length : Int)))
    ((at? qs vx).bind fun vc1 =>
    (strings_IndexByte qsome (vc1.toNat : Int)).bind fun _ =>
    cond (decide ((Lib.indexByte qsome (vc1.toNat : Int).toNat.toUInt8) < 0))
      (some (.inr (.inr ())))
      (some (.inl (IntKind.wrap .i64 (vx + 1)))))
    (some (.inr (.inl ())))

noncomputable def fleetref2_only (qs : List UInt8) (qsome : List UInt8) : Option (Bool) :=
  (loopO (fleetref2_only_x1 qs qsome) 0).bind fun x => match x with
    | .inl _ =>
      some true
    | .inr _ =>
      some false

/-! ### beaconfleet/fleetref2.Key -/
noncomputable def fleetref2_Key_x1 (qs : List UInt8) : Option (Bool) :=
  (fleetref2_in (qs.length : Int) 1 40).bind fun vr =>
  cond (vr)
    ((sub? qs 0 1).bind fun vs =>
    (fleetref2_only vs ([97, 98, 99, 100, 101, 102, 103, 104, 105, 106, 107, 108, 109, 110, 111, 112, 113, 114, 115, 116, 117, 118, 119, 120, 121, 122] : List UInt8)).bind fun vr1 =>
    cond (vr1)
      ((fleetref2_only qs ([97, 98, 99, 100, 101, 102, 103, 104, 105, 106, 107, 108, 109, 110, 111, 112, 113, 114, 115, 116, 117, 118, 119, 120, 121, 122, 48, 49, 50, 51, 52, 53, 54, 55, 56, 57, 45, 95] : List UInt8)).bind fun vr2 =>
      some vr2)
      (some false))
    (some false)

noncomputable def fleetref2_Key (qs : List UInt8) : Option (Bool) :=
  (fleetref2_Key_x1 qs).bind fun vx1 =>
  some vx1

/-! ### beaconfleet/fleetref2.PropName$1 -/
noncomputable def fleetref2_PropName_1 (qk : List UInt8) : Option (Bool) :=
  (fleetref2_Key qk).bind fun vr3 =>
  some (!vr3)

/-! ### slices.IndexFunc[[]string,string] -/
noncomputable def slices_IndexFunc_string_string_f1_fleetref2_PropName_1_x1 (qs : List (List UInt8)) (vx : Int) : Option ((Int) ⊕ (Unit ⊕ Int)) :=
  cond (decide (vx < (qs.length : Int)))
    ((at? qs vx).bind fun vy1 =>
    (fleetref2_PropName_1 vy1).bind fun vr1 =>
    cond (vr1)
      (some (.inr (.inr vx)))
      (some (.inl (IntKind.wrap .i64 (vx + 1)))))
    (some (.inr (.inl ())))

noncomputable def slices_IndexFunc_string_string_f1_fleetref2_PropName_1 (qs : List (List UInt8)) : Option (Int) :=
  (loopO (slices_IndexFunc_string_string_f1_fleetref2_PropName_1_x1 qs) 0).bind fun x => match x with
    | .inl _ =>
      some (-1)
    | .inr vx1_1 =>
      some vx1_1

/-! ### slices.ContainsFunc[[]string,string] -/
noncomputable def slices_ContainsFunc_string_string_f1_fleetref2_PropName_1 (qs : List (List UInt8)) : Option (Bool) :=
  (slices_IndexFunc_string_string_f1_fleetref2_PropName_1 qs).bind fun vr2 =>
  some (decide (0 ≤ vr2))

/-! ### beaconfleet/fleetref2.PropName -/
noncomputable def fleetref2_PropName_x1 (vr1 : List (List UInt8)) : Option (Bool) :=
  cond (decide ((vr1.length : Int) ≤ 8))
    ((slices_ContainsFunc_string_string_f1_fleetref2_PropName_1 vr1).bind fun vr =>
    some (!vr))
    (some false)

noncomputable def fleetref2_PropName (qs : List UInt8) : Option (Bool) :=
  (strings_Split qs ([46] : List UInt8)).bind fun vr1 =>
  (fleetref2_PropName_x1 vr1).bind fun vx1 =>
  some vx1

/-! ### beaconfleet/fleetref2.Printed$1 -/
noncomputable def fleetref2_Printed_1_x1 (qr : Int) : Option (Bool) :=
  cond (decide (qr < 32))
    (some true)
    (some (decide (qr = 127)))

noncomputable def fleetref2_Printed_1 (qr : Int) : Option (Bool) :=
  (fleetref2_Printed_1_x1 qr).bind fun vx1 =>
  some vx1

/-! ### strings.indexFunc -/
noncomputable def strings_indexFunc_f1_fleetref2_Printed_1_x1 (qs : List UInt8) (qtruth : Bool) (vpos : Nat) : Option ((Nat) ⊕ (Unit ⊕ Int)) :=
  cond (decide (vpos < qs.length))
    ((some (dec qs vpos)).bind fun vd1 =>
    (fleetref2_Printed_1 ((vd1.1 : Nat) : Int)).bind fun vr1 =>
    cond (vr1 == qtruth)
      (some (.inr (.inr ((vpos : Nat) : Int))))
      (some (.inl (vpos + vd1.2 : Nat))))
    (some (.inr (.inl ())))

noncomputable def strings_indexFunc_f1_fleetref2_Printed_1 (qs : List UInt8) (qtruth : Bool) : Option (Int) :=
  (loopO (strings_indexFunc_f1_fleetref2_Printed_1_x1 qs qtruth) (0 : Nat)).bind fun x => match x with
    | .inl _ =>
      some (-1)
    | .inr vx1 =>
      some vx1

/-! ### strings.IndexFunc -/
noncomputable def strings_IndexFunc_f1_fleetref2_Printed_1 (qs : List UInt8) : Option (Int) :=
  (strings_indexFunc_f1_fleetref2_Printed_1 qs true).bind fun vr2 =>
  some vr2

/-! ### strings.ContainsFunc -/
noncomputable def strings_ContainsFunc_f1_fleetref2_Printed_1 (qs : List UInt8) : Option (Bool) :=
  (strings_IndexFunc_f1_fleetref2_Printed_1 qs).bind fun vr =>
  some (decide (0 ≤ vr))

/-! ### beaconfleet/fleetref2.Printed -/
noncomputable def fleetref2_Printed_x1 (qs : List UInt8) : Option (Bool) :=
  (utf8_ValidString qs).bind fun vr =>
  cond (vr)
    ((strings_ContainsFunc_f1_fleetref2_Printed_1 qs).bind fun vr1 =>
    some (!vr1))
    (some false)

noncomputable def fleetref2_Printed (qs : List UInt8) : Option (Bool) :=
  (fleetref2_Printed_x1 qs).bind fun vx1 =>
  some vx1

/-! ### beaconfleet/fleetref2.ValueFault -/
noncomputable def fleetref2_ValueFault_x1 (qv : api_Value) : Option (api_Value) :=
  cond (decide (qv.Kind = 1))
    (some (api_Value.mk qv.Kind qv.Flag 0 ([] : List UInt8)))
    (cond (decide (qv.Kind = 2))
      (some (api_Value.mk qv.Kind false qv.Number ([] : List UInt8)))
      (cond (decide (qv.Kind = 3))
        (some (api_Value.mk qv.Kind false 0 qv.Words))
        (some (api_Value.mk qv.Kind false 0 ([] : List UInt8)))))

noncomputable def fleetref2_ValueFault (qv : api_Value) : Option (Int) :=
  (fleetref2_in qv.Kind 0 3).bind fun vr =>
  cond (!vr)
    (some 4)
    ((fleetref2_ValueFault_x1 qv).bind fun vplain1 =>
    cond (!(decide (vplain1.Kind = qv.Kind) && ((vplain1.Flag == qv.Flag) && (decide (vplain1.Number = qv.Number) && (decide (vplain1.Words = qv.Words) && true)))))
      (some 3)
      ((fleetref2_in qv.Number (-1000000000) 1000000000).bind fun vr1 =>
      cond (!vr1)
        (some 1)
        (cond (decide (1000 < (qv.Words.length : Int)))
          (some 2)
          ((fleetref2_Printed qv.Words).bind fun vr2 =>
          cond (!vr2)
            (some 3)
            (some 0)))))

/-! ### beaconfleet/fleetref2.Moment -/
noncomputable def fleetref2_Moment (qat : Int) : Option (Bool) :=
  (fleetref2_in qat 0 345686399999).bind fun vr =>
  some vr

/-! ### beaconfleet/fleetref2.StampFault -/
noncomputable def fleetref2_StampFault (qs : api_Stamp) : Option (Int) :=
  (fleetref2_Moment qs.At).bind fun vr1 =>
  cond (!vr1)
    (some 1)
    ((fleetref2_Key qs.By).bind fun vr3 =>
    cond (!vr3)
      (some 5)
      ((fleetref2_in qs.No 0 1000000000).bind fun vr =>
      cond (!vr)
        (some 1)
        (some 0)))

/-! ### beaconfleet/fleetref2.CellsFault -/
noncomputable def fleetref2_CellsFault_x2 (vr3_1 : Int) (vr2_3 : Int) (vx4 : Int) : Option ((Int) ⊕ (Unit ⊕ Int)) :=
  cond (decide (vx4 < (([vr3_1, vr2_3] : List Int).length : Int)))
    ((at? ([vr3_1, vr2_3] : List Int) vx4).bind fun vy6 =>
    cond (!decide (vy6 = 0))
      (some (.inr (.inr vy6)))
      (some (.inl (IntKind.wrap .i64 (vx4 + 1)))))
    (some (.inr (.inl ())))

noncomputable def fleetref2_CellsFault_x3 (ql : List api_Cell) (vx : Int) (vy4 : api_Cell) : Option (Bool) :=
  cond (decide (0 < vx))
    ((at? ql (IntKind.wrap .i64 (vx - 1))).bind fun vy7 =>
    some (Op.bytesLess vy4.Prop_.Name vy7.Prop_.Name || decide (vy4.Prop_.Name = vy7.Prop_.Name)))
    (some false)

noncomputable def fleetref2_CellsFault_x1 (ql : List api_Cell) (vx : Int) : Option ((Int) ⊕ (Unit ⊕ Int)) :=
  cond (decide (vx < (ql.length : Int)))
    ((at? ql vx).bind fun vy4 =>
    (fleetref2_PropName vy4.Prop_.Name).bind fun vr2_2 =>
    cond (!vr2_2)
      (some (.inr (.inr 5)))
      ((fleetref2_ValueFault (api_Value.mk vy4.Prop_.Value.Kind vy4.Prop_.Value.Flag vy4.Prop_.Value.Number vy4.Prop_.Value.Words)).bind fun vr3_1 =>
      (fleetref2_StampFault (api_Stamp.mk vy4.Stamp.At vy4.Stamp.By vy4.Stamp.No)).bind fun vr2_3 =>
      (loopO (fleetref2_CellsFault_x2 vr3_1 vr2_3) 0).bind fun x => match x with
        | .inl _ =>
          (fleetref2_CellsFault_x3 ql vx vy4).bind fun vx6_1 =>
          cond (vx6_1)
            (some (.inr (.inr 7)))
            (some (.inl (IntKind.wrap .i64 (vx + 1))))
        | .inr vx5_1 =>
          some (.inr (.inr vx5_1))))
    (some (.inr (.inl ())))

noncomputable def fleetref2_CellsFault (ql : List api_Cell) : Option (Int) :=
  cond (decide (500 < (ql.length : Int)))
    (some 2)
    ((loopO (fleetref2_CellsFault_x1 ql) 0).bind fun x => match x with
      | .inl _ =>
        some 0
      | .inr vx7_1 =>
        some vx7_1)

/-! ### beaconfleet/fleetlaw2.when -/
noncomputable def fleetlaw2_when (qis : Bool) (qe : Int) : Option (Int) :=
  cond (qis)
    (some qe)
    (some 0)

/-! ### beaconfleet/fleetlaw2.errs -/
noncomputable def fleetlaw2_errs_x1 (ql : List Int) (vx : Int) : Option ((Int) ⊕ (Unit ⊕ Int)) :=
  cond (decide (vx < (ql.length : Int)))
    ((at? ql vx).bind fun vy1 =>
    cond (!decide (vy1 = 0))
      (some (.inr (.inr vy1)))
      (some (.inl (IntKind.wrap .i64 (vx + 1)))))
    (some (.inr (.inl ())))

noncomputable def fleetlaw2_errs (ql : List Int) : Option (Int) :=
  (loopO (fleetlaw2_errs_x1 ql) 0).bind fun x => match x with
    | .inl _ =>
      some 0
    | .inr vx1_1 =>
      some vx1_1

/-! ### beaconfleet/fleetref2.sign -/
noncomputable def fleetref2_sign (qn : Int) : Option (Int) :=
  cond (decide (qn < 0))
    (some (-1))
    (cond (decide (0 < qn))
      (some 1)
      (some 0))

/-! ### beaconfleet/fleetref2.StampOrder -/
noncomputable def fleetref2_StampOrder (qa : api_Stamp) (qb : api_Stamp) : Option (Int) :=
  cond (!decide (qa.At = qb.At))
    ((fleetref2_sign (IntKind.wrap .i64 (qa.At - qb.At))).bind fun vr =>
    some vr)
    (cond (!decide (qa.By = qb.By))
      ((strings_Compare qa.By qb.By).bind fun _ =>
      some (Lib.compareBytes qa.By qb.By))
      ((fleetref2_sign (IntKind.wrap .i64 (qa.No - qb.No))).bind fun vr1 =>
      some vr1))

/-! ### slices.Equal[[]beaconfleet/api.Cell,beaconfleet/api.Cell] -/
noncomputable def slices_Equal_api_Cell_api_Cell_x1 (qs1 : List api_Cell) (qs2 : List api_Cell) (vx : Int) : Option ((Int) ⊕ (Unit ⊕ Unit)) :=
  cond (decide (vx < (qs1.length : Int)))
    ((at? qs1 vx).bind fun vy2 =>
    (at? qs2 vx).bind fun vy3 =>
    cond (!((decide (vy2.Prop_.Name = vy3.Prop_.Name) && ((decide (vy2.Prop_.Value.Kind = vy3.Prop_.Value.Kind) && ((vy2.Prop_.Value.Flag == vy3.Prop_.Value.Flag) && (decide (vy2.Prop_.Value.Number = vy3.Prop_.Value.Number) && (decide (vy2.Prop_.Value.Words = vy3.Prop_.Value.Words) && true)))) && true)) && ((decide (vy2.Stamp.At = vy3.Stamp.At) && (decide (vy2.Stamp.By = vy3.Stamp.By) && (decide (vy2.Stamp.No = vy3.Stamp.No) && true))) && true)))
      (some (.inr (.inr ())))
      (some (.inl (IntKind.wrap .i64 (vx + 1)))))
    (some (.inr (.inl ())))

noncomputable def slices_Equal_api_Cell_api_Cell (qs1 : List api_Cell) (qs2 : List api_Cell) : Option (Bool) :=
  cond (!decide ((qs1.length : Int) = (qs2.length : Int)))
    (some false)
    ((loopO (slices_Equal_api_Cell_api_Cell_x1 qs1 qs2) 0).bind fun x => match x with
      | .inl _ =>
        some true
      | .inr _ =>
        some false)

/-! ### beaconfleet/twin.CheckProps -/
noncomputable def twin_CheckProps_n0_x1 : Unit → Option ((Unit) ⊕ (Unit))
  | _ =>
  cond (decide ((0 : Int) < 0))
    (none)
    (some (.inr ()))

noncomputable def twin_CheckProps_n0_x2 : Unit → Option ((Unit) ⊕ (Unit))
  | _ =>
  cond (decide ((0 : Int) < 0))
    (none)
    (some (.inr ()))

noncomputable def twin_CheckProps_n0 : Option (Int) :=
  cond (decide (500 < (0 : Int)))
    (some 2)
    ((loopO twin_CheckProps_n0_x1 ()).bind fun _ =>
    (loopO twin_CheckProps_n0_x2 ()).bind fun _ =>
    some 0)

/-! ### beaconfleet/twin.find$1 -/
noncomputable def twin_find_1 (qp : api_Prop) (qname : List UInt8) : Option (Unit) :=
  (strings_Compare qp.Name qname).bind fun _ =>
  some ()

/-! ### slices.BinarySearchFunc[[]beaconfleet/api.Prop,beaconfleet/api.Prop,string] -/
noncomputable def slices_BinarySearchFunc_api_Prop_api_Prop_string_f2_twin_find_1_x1 (qx : List api_Prop) (qtarget : List UInt8) : Int × Int → Option ((Int × Int) ⊕ (Int))
  | (vi, vj) =>
  cond (decide (vi < vj))
    ((at? qx (IntKind.wrap .i64 (ishr .u64 (IntKind.wrap .u64 (IntKind.wrap .i64 (vi + vj))) 1))).bind fun vy1 =>
    (twin_find_1 (api_Prop.mk vy1.Name (api_Value.mk vy1.Value.Kind vy1.Value.Flag vy1.Value.Number vy1.Value.Words)) qtarget).bind fun _ =>
    cond (decide ((Lib.compareBytes vy1.Name qtarget) < 0))
      (some (.inl (IntKind.wrap .i64 ((IntKind.wrap .i64 (ishr .u64 (IntKind.wrap .u64 (IntKind.wrap .i64 (vi + vj))) 1)) + 1), vj)))
      (some (.inl (vi, IntKind.wrap .i64 (ishr .u64 (IntKind.wrap .u64 (IntKind.wrap .i64 (vi + vj))) 1)))))
    (some (.inr vi))

noncomputable def slices_BinarySearchFunc_api_Prop_api_Prop_string_f2_twin_find_1_x2 (qx : List api_Prop) (qtarget : List UInt8) (vi1_1 : Int) : Option (Bool) :=
  cond (decide (vi1_1 < (qx.length : Int)))
    ((at? qx vi1_1).bind fun vy2 =>
    (twin_find_1 (api_Prop.mk vy2.Name (api_Value.mk vy2.Value.Kind vy2.Value.Flag vy2.Value.Number vy2.Value.Words)) qtarget).bind fun _ =>
    some (decide ((Lib.compareBytes vy2.Name qtarget) = 0)))
    (some false)

noncomputable def slices_BinarySearchFunc_api_Prop_api_Prop_string_f2_twin_find_1 (qx : List api_Prop) (qtarget : List UInt8) : Option (Int × Bool) :=
  (loopO (slices_BinarySearchFunc_api_Prop_api_Prop_string_f2_twin_find_1_x1 qx qtarget) (0, (qx.length : Int))).bind fun vi1_1 =>
  (slices_BinarySearchFunc_api_Prop_api_Prop_string_f2_twin_find_1_x2 qx qtarget vi1_1).bind fun vx1 =>
  some (vi1_1, vx1)

/-! ### beaconfleet/twin.find -/
noncomputable def twin_find (ql : List api_Prop) (qname : List UInt8) : Option (Int) :=
  (slices_BinarySearchFunc_api_Prop_api_Prop_string_f2_twin_find_1 ql qname).bind fun (vr, vr1) =>
  cond (!vr1)
    (some (-1))
    (some vr)

/-! ### beaconfleet/twin.CheckProps$1 -/
noncomputable def twin_CheckProps_1 (qs : List UInt8) (qx : List api_Prop) : Option (Bool) :=
  (twin_find qx qs).bind fun vr2 =>
  some (decide (0 ≤ vr2))

/-! ### beaconfleet/twin.above -/
noncomputable def twin_above_f1_twin_CheckProps_1_x2 (qname : List UInt8) (qf : List api_Prop) (vx : Int) : Option (Bool) :=
  (at? qname vx).bind fun vc1 =>
  cond (decide ((vc1.toNat : Int) = 46))
    ((sub? qname 0 vx).bind fun vs1 =>
    (twin_CheckProps_1 vs1 qf).bind fun vr1 =>
    some vr1)
    (some false)

noncomputable def twin_above_f1_twin_CheckProps_1_x1 (qname : List UInt8) (qf : List api_Prop) (vx : Int) : Option ((Int) ⊕ (Unit ⊕ Unit)) :=
  cond (decide (vx < (qname.length : Int)))
    ((twin_above_f1_twin_CheckProps_1_x2 qname qf vx).bind fun vx2_1 =>
    cond (vx2_1)
      (some (.inr (.inr ())))
      (some (.inl (IntKind.wrap .i64 (vx + 1)))))
    (some (.inr (.inl ())))

noncomputable def twin_above_f1_twin_CheckProps_1 (qname : List UInt8) (qf : List api_Prop) : Option (Bool) :=
  (loopO (twin_above_f1_twin_CheckProps_1_x1 qname qf) 0).bind fun x => match x with
    | .inl _ =>
      some false
    | .inr _ =>
      some true

/-! ### beaconfleet/twin.CheckProps -/
noncomputable def twin_CheckProps_x2 (ql : List api_Prop) (vx : Int) (vy2 : api_Prop) : Option (Bool) :=
  cond (decide (0 < vx))
    ((at? ql (IntKind.wrap .i64 (vx - 1))).bind fun vy3 =>
    some (Op.bytesLess vy2.Name vy3.Name || decide (vy2.Name = vy3.Name)))
    (some false)

noncomputable def twin_CheckProps_x1 (ql : List api_Prop) (vx : Int) : Option ((Int) ⊕ (Unit ⊕ Int)) :=
  cond (decide (vx < (ql.length : Int)))
    ((at? ql vx).bind fun vy2 =>
    (twin_isName vy2.Name).bind fun vr1 =>
    cond (!vr1)
      (some (.inr (.inr 5)))
      ((twin_valueFault (api_Value.mk vy2.Value.Kind vy2.Value.Flag vy2.Value.Number vy2.Value.Words)).bind fun vr2_1 =>
      cond (!decide (vr2_1 = 0))
        (some (.inr (.inr vr2_1)))
        (cond (decide (vy2.Value.Kind = 0))
          (some (.inr (.inr 4)))
          ((twin_CheckProps_x2 ql vx vy2).bind fun vx2_1 =>
          cond (vx2_1)
            (some (.inr (.inr 7)))
            (some (.inl (IntKind.wrap .i64 (vx + 1))))))))
    (some (.inr (.inl ())))

noncomputable def twin_CheckProps_x3 (ql : List api_Prop) (vx4 : Int) : Option ((Int) ⊕ (Unit ⊕ Unit)) :=
  cond (decide (vx4 < (ql.length : Int)))
    ((at? ql vx4).bind fun vy5 =>
    (twin_above_f1_twin_CheckProps_1 vy5.Name ql).bind fun vr2_3 =>
    cond (vr2_3)
      (some (.inr (.inr ())))
      (some (.inl (IntKind.wrap .i64 (vx4 + 1)))))
    (some (.inr (.inl ())))

noncomputable def twin_CheckProps (ql : List api_Prop) : Option (Int) :=
  cond (decide (500 < (ql.length : Int)))
    (some 2)
    ((loopO (twin_CheckProps_x1 ql) 0).bind fun x => match x with
      | .inl _ =>
        (loopO (twin_CheckProps_x3 ql) 0).bind fun x => match x with
          | .inl _ =>
            some 0
          | .inr _ =>
            some 13
      | .inr vx3_1 =>
        some vx3_1)

/-! ### math/bits.Len64 -/
noncomputable def bits_Len64_x1 (qx : Int) : Option ((Int × Int)) :=
  cond (decide (4294967296 ≤ qx))
    (some (ishr .u64 qx 32, 32))
    (some (qx, 0))

noncomputable def bits_Len64_x2 (vx1 : Int) (vn1 : Int) : Option ((Int × Int)) :=
  cond (decide (65536 ≤ vx1))
    (some (ishr .u64 vx1 16, IntKind.wrap .i64 (vn1 + 16)))
    (some (vx1, vn1))

noncomputable def bits_Len64_x3 (vx2_1 : Int) (vn2_1 : Int) : Option ((Int × Int)) :=
  cond (decide (256 ≤ vx2_1))
    (some (ishr .u64 vx2_1 8, IntKind.wrap .i64 (vn2_1 + 8)))
    (some (vx2_1, vn2_1))

noncomputable def bits_Len64 (qx : Int) : Option (Int) :=
  (bits_Len64_x1 qx).bind fun (vx1, vn1) =>
  (bits_Len64_x2 vx1 vn1).bind fun (vx2_1, vn2_1) =>
  (bits_Len64_x3 vx2_1 vn2_1).bind fun (vx3_1, vn3_1) =>
  (at? ([0, 1, 2, 2, 3, 3, 3, 3, 4, 4, 4, 4, 4, 4, 4, 4, 5, 5, 5, 5, 5, 5, 5, 5, 5, 5, 5, 5, 5, 5, 5, 5, 6, 6, 6, 6, 6, 6, 6, 6, 6, 6, 6, 6, 6, 6, 6, 6, 6, 6, 6, 6, 6, 6, 6, 6, 6, 6, 6, 6, 6, 6, 6, 6, 7, 7, 7, 7, 7, 7, 7, 7, 7, 7, 7, 7, 7, 7, 7, 7, 7, 7, 7, 7, 7, 7, 7, 7, 7, 7, 7, 7, 7, 7, 7, 7, 7, 7, 7, 7, 7, 7, 7, 7, 7, 7, 7, 7, 7, 7, 7, 7, 7, 7, 7, 7, 7, 7, 7, 7, 7, 7, 7, 7, 7, 7, 7, 7, 8, 8, 8, 8, 8, 8, 8, 8, 8, 8, 8, 8, 8, 8, 8, 8, 8, 8, 8, 8, 8, 8, 8, 8, 8, 8, 8, 8, 8, 8, 8, 8, 8, 8, 8, 8, 8, 8, 8, 8, 8, 8, 8, 8, 8, 8, 8, 8, 8, 8, 8, 8, 8, 8, 8, 8, 8, 8, 8, 8, 8, 8, 8, 8, 8, 8, 8, 8, 8, 8, 8, 8, 8, 8, 8, 8, 8, 8, 8, 8, 8, 8, 8, 8, 8, 8, 8, 8, 8, 8, 8, 8, 8, 8, 8, 8, 8, 8, 8, 8, 8, 8, 8, 8, 8, 8, 8, 8, 8, 8, 8, 8, 8, 8, 8, 8, 8, 8, 8, 8, 8, 8, 8, 8, 8, 8, 8, 8] : List UInt8) (IntKind.wrap .u8 (vx3_1))).bind fun vc =>
  some (IntKind.wrap .i64 (vn3_1 + (IntKind.wrap .i64 ((vc.toNat : Int)))))

/-! ### math/bits.Len -/
noncomputable def bits_Len (qx : Int) : Option (Int) :=
  (bits_Len64 qx).bind fun vr =>
  some vr

/-! ### cmp.isNaN[string] -/
noncomputable def cmp_isNaN_string (qx : List UInt8) : Option (Unit) :=
  some ()

/-! ### cmp.Less[string] -/
noncomputable def cmp_Less_string_x1 (qx : List UInt8) (qy : List UInt8) : Option (Bool) :=
  (cmp_isNaN_string qx).bind fun _ =>
  cond (!decide (qx = qx))
    ((cmp_isNaN_string qy).bind fun _ =>
    cond (!(!decide (qy = qy)))
      (some true)
      (some (Op.bytesLess qx qy)))
    (some (Op.bytesLess qx qy))

noncomputable def cmp_Less_string (qx : List UInt8) (qy : List UInt8) : Option (Bool) :=
  (cmp_Less_string_x1 qx qy).bind fun vx1 =>
  some vx1

/-! ### slices.insertionSortOrdered[string] -/
noncomputable def slices_insertionSortOrdered_string_o0_x3 (qa : Int) (vl3 : List (List UInt8)) (vj1 : Int) : Option (Bool) :=
  cond (decide (qa < vj1))
    ((at? vl3 vj1).bind fun vy15 =>
    (at? vl3 (IntKind.wrap .i64 (vj1 - 1))).bind fun vy16 =>
    (cmp_Less_string vy15 vy16).bind fun vr3 =>
    some vr3)
    (some false)

noncomputable def slices_insertionSortOrdered_string_o0_x2 (qa : Int) : (List (List UInt8)) × Int → Option (((List (List UInt8)) × Int) ⊕ ((List (List UInt8))))
  | (vl3, vj1) =>
  (slices_insertionSortOrdered_string_o0_x3 qa vl3 vj1).bind fun vx4_1 =>
  cond (vx4_1)
    ((at? vl3 (IntKind.wrap .i64 (vj1 - 1))).bind fun vy17 =>
    (at? vl3 vj1).bind fun vy18 =>
    (at? (vl3.set vj1.toNat vy17) (IntKind.wrap .i64 (vj1 - 1))).bind fun vy19 =>
    some (.inl ((vl3.set vj1.toNat vy17).set (IntKind.wrap .i64 (vj1 - 1)).toNat vy18, IntKind.wrap .i64 (vj1 - 1))))
    (some (.inr vl3))

noncomputable def slices_insertionSortOrdered_string_o0_x1 (qa : Int) (qb : Int) : (List (List UInt8)) × Int → Option (((List (List UInt8)) × Int) ⊕ ((List (List UInt8))))
  | (vl, vi) =>
  cond (decide (vi < qb))
    ((loopO (slices_insertionSortOrdered_string_o0_x2 qa) (vl, vi)).bind fun vl4_1 =>
    some (.inl (vl4_1, IntKind.wrap .i64 (vi + 1))))
    (some (.inr vl))

noncomputable def slices_insertionSortOrdered_string_o0 (qdata : List (List UInt8)) (qa : Int) (qb : Int) : Option ((List (List UInt8))) :=
  (loopO (slices_insertionSortOrdered_string_o0_x1 qa qb) (qdata, IntKind.wrap .i64 (qa + 1))).bind fun vl5_1 =>
  some vl5_1

/-! ### slices.pdqsortOrdered[string] -/
noncomputable def slices_pdqsortOrdered_string_o0_x1 (qx : List (List UInt8)) (qx1 : Int) (qx2 : Int) (qx3 : Int) : Unit → Option ((Unit) ⊕ ((List (List UInt8))))
  | _ =>
  cond (decide ((IntKind.wrap .i64 (qx2 - qx1)) ≤ 12))
    ((slices_insertionSortOrdered_string_o0 qx qx1 qx2).bind fun vl6_1 =>
    gd (vl6_1.length == qx.length) <|
    some (.inr vl6_1))
    (cond (decide (qx3 = 0))
      (none)
      (none))

noncomputable def slices_pdqsortOrdered_string_o0 (qx : List (List UInt8)) (qx1 : Int) (qx2 : Int) (qx3 : Int) : Option ((List (List UInt8))) :=
  (loopO (slices_pdqsortOrdered_string_o0_x1 qx qx1 qx2 qx3) ()).bind fun vl1 =>
  some vl1

/-! ### slices.Sort[[]string,string] -/
noncomputable def slices_Sort_string_string_o0 (qx : List (List UInt8)) : Option ((List (List UInt8))) :=
  (bits_Len (IntKind.wrap .u64 ((qx.length : Int)))).bind fun vr1 =>
  (slices_pdqsortOrdered_string_o0 qx 0 (qx.length : Int) vr1).bind fun vl2 =>
  gd (vl2.length == qx.length) <|
  some vl2

/-! ### slices.Compact[[]string,string] -/
noncomputable def slices_Compact_string_string_o0_x3 (qs : List (List UInt8)) (vk : Int) (vl4 : List (List UInt8)) (vk6 : Int) (vk2_1 : Int) : Option (((List (List UInt8)) × Int)) :=
  gd (decide (0 ≤ vk) && decide (0 ≤ vk2_1) && decide (vk2_1 < (qs.length : Int) - vk)) <|
  (at? vl4 (vk + vk2_1)).bind fun vy13 =>
  gd (decide (0 ≤ vk) && decide (0 ≤ (IntKind.wrap .i64 (vk2_1 - 1))) && decide ((IntKind.wrap .i64 (vk2_1 - 1)) < (qs.length : Int) - vk)) <|
  (at? vl4 (vk + (IntKind.wrap .i64 (vk2_1 - 1)))).bind fun vy14 =>
  cond (!decide (vy13 = vy14))
    ((at? vl4 vk6).bind fun vy15 =>
    some (vl4.set vk6.toNat vy13, IntKind.wrap .i64 (vk6 + 1)))
    (some (vl4, vk6))

noncomputable def slices_Compact_string_string_o0_x2 (qs : List (List UInt8)) (vk : Int) : (List (List UInt8)) × Int × Int → Option (((List (List UInt8)) × Int × Int) ⊕ (((List (List UInt8)) × Int)))
  | (vl4, vk6, vk2_1) =>
  cond (decide (vk2_1 < (((qs.length : Int).toNat - vk.toNat : Nat) : Int)))
    ((slices_Compact_string_string_o0_x3 qs vk vl4 vk6 vk2_1).bind fun (vl6_1, vk8_1) =>
    some (.inl (vl6_1, vk8_1, IntKind.wrap .i64 (vk2_1 + 1))))
    (some (.inr (vl4, vk6)))

noncomputable def slices_Compact_string_string_o0_x1 (qs : List (List UInt8)) (vk : Int) : Option ((Int) ⊕ (Unit ⊕ (List (List UInt8)))) :=
  cond (decide (vk < (qs.length : Int)))
    ((at? qs vk).bind fun vy8 =>
    (at? qs (IntKind.wrap .i64 (vk - 1))).bind fun vy9 =>
    cond (decide (vy8 = vy9))
      (gd (decide (0 ≤ vk) && decide (vk ≤ (qs.length : Int)) && decide ((qs.length : Int) ≤ (qs.length : Int))) <|
      (loopO (slices_Compact_string_string_o0_x2 qs vk) (qs, vk, 1)).bind fun (vl7_1, vk9_1) =>
      gd (decide (0 ≤ vk9_1) && decide (vk9_1 ≤ (vl7_1.length : Int)) && decide ((vl7_1.length : Int) ≤ (vl7_1.length : Int))) <|
      gd (decide (0 ≤ vk9_1) && decide (vk9_1 ≤ ((vl7_1.take vk9_1.toNat ++ (List.replicate ((vl7_1.length : Int).toNat - vk9_1.toNat) ([] : List UInt8) ++ vl7_1.drop (vk9_1.toNat + ((vl7_1.length : Int).toNat - vk9_1.toNat)))).length : Int))) <|
      some (.inr (.inr ((vl7_1.take vk9_1.toNat ++ (List.replicate ((vl7_1.length : Int).toNat - vk9_1.toNat) ([] : List UInt8) ++ vl7_1.drop (vk9_1.toNat + ((vl7_1.length : Int).toNat - vk9_1.toNat)))).take vk9_1.toNat))))
      (some (.inl (IntKind.wrap .i64 (vk + 1)))))
    (some (.inr (.inl ())))

noncomputable def slices_Compact_string_string_o0 (qs : List (List UInt8)) : Option ((List (List UInt8))) :=
  cond (decide ((qs.length : Int) < 2))
    (some qs)
    ((loopO (slices_Compact_string_string_o0_x1 qs) 1).bind fun x => match x with
      | .inl _ =>
        some qs
      | .inr vx1 =>
        some vx1)

/-! ### beaconfleet/twin.names -/
noncomputable def twin_names_o0_x2 (vy3 : List api_Prop) : (List (List UInt8)) × Int → Option (((List (List UInt8)) × Int) ⊕ ((List (List UInt8))))
  | (vout3, vx2) =>
  cond (decide (vx2 < (vy3.length : Int)))
    ((at? vy3 vx2).bind fun vy5 =>
    gd (Nat.ble (vout3.length + ([vy5.Name] : List (List UInt8)).length) LIM) <|
    some (.inl (vout3 ++ ([vy5.Name] : List (List UInt8)), IntKind.wrap .i64 (vx2 + 1))))
    (some (.inr vout3))

noncomputable def twin_names_o0_x1 (qlists : List (List api_Prop)) : (List (List UInt8)) × Int → Option (((List (List UInt8)) × Int) ⊕ ((List (List UInt8))))
  | (vout, vx) =>
  cond (decide (vx < (qlists.length : Int)))
    ((at? qlists vx).bind fun vy3 =>
    (loopO (twin_names_o0_x2 vy3) (vout, 0)).bind fun vout4_1 =>
    some (.inl (vout4_1, IntKind.wrap .i64 (vx + 1))))
    (some (.inr vout))

noncomputable def twin_names_o0 (qlists : List (List api_Prop)) : Option ((List (List UInt8))) :=
  (loopO (twin_names_o0_x1 qlists) ([], 0)).bind fun vout5_1 =>
  (slices_Sort_string_string_o0 vout5_1).bind fun vl =>
  gd (vl.length == vout5_1.length) <|
  (slices_Compact_string_string_o0 vl).bind fun vr =>
  some vr

/-! ### slices.BinarySearchFunc[[]beaconfleet/api.Prop,beaconfleet/api.Prop,string] -/
noncomputable def slices_BinarySearchFunc_api_Prop_api_Prop_string_n0_f2_twin_find_1_x1 : Unit → Option ((Unit) ⊕ (Unit))
  | _ =>
  cond (decide ((0 : Int) < 0))
    (none)
    (some (.inr ()))

noncomputable def slices_BinarySearchFunc_api_Prop_api_Prop_string_n0_f2_twin_find_1 (qtarget : List UInt8) : Option (Unit) :=
  (loopO slices_BinarySearchFunc_api_Prop_api_Prop_string_n0_f2_twin_find_1_x1 ()).bind fun _ =>
  cond (decide ((0 : Int) < 0))
    (none)
    (some ())

/-! ### beaconfleet/twin.find -/
noncomputable def twin_find_n0 (qname : List UInt8) : Option (Unit) :=
  (slices_BinarySearchFunc_api_Prop_api_Prop_string_n0_f2_twin_find_1 qname).bind fun _ =>
  some ()

/-! ### beaconfleet/twin.valueOf -/
noncomputable def twin_valueOf_n0 (qname : List UInt8) : Option (Unit) :=
  (twin_find_n0 qname).bind fun _ =>
  cond (decide (0 ≤ ((-1) : Int)))
    (none)
    (some ())

/-! ### beaconfleet/twin.valueOf -/
noncomputable def twin_valueOf (ql : List api_Prop) (qname : List UInt8) : Option (api_Value) :=
  (twin_find ql qname).bind fun vr2 =>
  cond (decide (0 ≤ vr2))
    ((at? ql vr2).bind fun vy =>
    some (api_Value.mk vy.Value.Kind vy.Value.Flag vy.Value.Number vy.Value.Words))
    (some (api_Value.mk 0 false 0 ([] : List UInt8)))

/-! ### beaconfleet/twin.Differ -/
noncomputable def twin_Differ_n0_o1_x2 (qb : List api_Prop) (vr1_1 : List (List UInt8)) (vout : List api_Change) (vx : Int) : Option ((List api_Change)) :=
  (at? vr1_1 vx).bind fun vy1 =>
  (twin_valueOf_n0 vy1).bind fun _ =>
  (twin_valueOf qb vy1).bind fun vr4 =>
  cond (!(decide ((0 : Int) = vr4.Kind) && ((false == vr4.Flag) && (decide ((0 : Int) = vr4.Number) && (decide (([] : List UInt8) = vr4.Words) && true)))))
    (gd (Nat.ble (vout.length + ([api_Change.mk vy1 (api_Value.mk 0 false 0 ([] : List UInt8)) vr4] : List api_Change).length) LIM) <|
    some (vout ++ ([api_Change.mk vy1 (api_Value.mk 0 false 0 ([] : List UInt8)) vr4] : List api_Change)))
    (some vout)

noncomputable def twin_Differ_n0_o1_x1 (qb : List api_Prop) (vr1_1 : List (List UInt8)) : (List api_Change) × Int → Option (((List api_Change) × Int) ⊕ ((List api_Change)))
  | (vout, vx) =>
  cond (decide (vx < (vr1_1.length : Int)))
    ((twin_Differ_n0_o1_x2 qb vr1_1 vout vx).bind fun vout2_1 =>
    some (.inl (vout2_1, IntKind.wrap .i64 (vx + 1))))
    (some (.inr vout))

noncomputable def twin_Differ_n0_o1 (qb : List api_Prop) : Option ((List api_Change) × Int) :=
  (twin_CheckProps_n0).bind fun vr =>
  (twin_CheckProps qb).bind fun vr3 =>
  (base_First ([vr, vr3] : List Int)).bind fun vr1 =>
  cond (!decide (vr1 = 0))
    (some ([], vr1))
    ((twin_names_o0 ([[], qb] : List (List api_Prop))).bind fun vr1_1 =>
    (loopO (twin_Differ_n0_o1_x1 qb vr1_1) ([], 0)).bind fun vout3_1 =>
    some (vout3_1, 0))

/-! ### beaconfleet/fleetlaw2.twinned -/
noncomputable def fleetlaw2_twinned_x1 (vr5 : List api_Change) (vr6 : Int) : Option (Bool) :=
  cond (decide (vr6 = 0))
    (cond (decide ((vr5.length : Int) = 1))
      ((at? vr5 0).bind fun vy =>
      some (decide (vy.Name = ([97] : List UInt8))))
      (some false))
    (some false)

noncomputable def fleetlaw2_twinned : Option (Bool) :=
  (twin_Differ_n0_o1 ([api_Prop.mk ([97] : List UInt8) (api_Value.mk 1 false 0 ([] : List UInt8))] : List api_Prop)).bind fun (vr5, vr6) =>
  (fleetlaw2_twinned_x1 vr5 vr6).bind fun vx1 =>
  some vx1

/-! ### slices.Grow[[]beaconfleet/api.Cell,beaconfleet/api.Cell] -/
noncomputable def slices_Grow_api_Cell_api_Cell_n0_x1 (qn : Int) : Option ((List api_Cell)) :=
  cond (decide (0 < (IntKind.wrap .i64 (qn - (IntKind.wrap .i64 ((0 : Int) - 0))))))
    (gd (decide (0 ≤ (IntKind.wrap .i64 (qn - (IntKind.wrap .i64 ((0 : Int) - 0))))) && decide ((IntKind.wrap .i64 (qn - (IntKind.wrap .i64 ((0 : Int) - 0)))) ≤ 137438953472)) <|
    gd (decide (0 ≤ (0 : Int)) && decide ((0 : Int) ≤ ((List.replicate (IntKind.wrap .i64 (qn - (IntKind.wrap .i64 ((0 : Int) - 0)))).toNat (api_Cell.mk (api_Prop.mk ([] : List UInt8) (api_Value.mk 0 false 0 ([] : List UInt8))) (api_Stamp.mk 0 ([] : List UInt8) 0))).length : Int))) <|
    some ((List.replicate (IntKind.wrap .i64 (qn - (IntKind.wrap .i64 ((0 : Int) - 0)))).toNat (api_Cell.mk (api_Prop.mk ([] : List UInt8) (api_Value.mk 0 false 0 ([] : List UInt8))) (api_Stamp.mk 0 ([] : List UInt8) 0))).take (0 : Int).toNat))
    (some [])

noncomputable def slices_Grow_api_Cell_api_Cell_n0 (qn : Int) : Option ((List api_Cell)) :=
  cond (decide (qn < 0))
    (none)
    ((slices_Grow_api_Cell_api_Cell_n0_x1 qn).bind fun vs1 =>
    some vs1)

/-! ### slices.Concat[[]beaconfleet/api.Cell,beaconfleet/api.Cell] -/
noncomputable def slices_Concat_api_Cell_api_Cell_o0_x1 (qslices : List (List api_Cell)) : Int × Int → Option ((Int × Int) ⊕ (Int))
  | (vsize, vx) =>
  cond (decide (vx < (qslices.length : Int)))
    ((at? qslices vx).bind fun vy1 =>
    cond (decide ((IntKind.wrap .i64 (vsize + (vy1.length : Int))) < 0))
      (none)
      (some (.inl (IntKind.wrap .i64 (vsize + (vy1.length : Int)), IntKind.wrap .i64 (vx + 1)))))
    (some (.inr vsize))

noncomputable def slices_Concat_api_Cell_api_Cell_o0_x2 (qslices : List (List api_Cell)) : (List api_Cell) × Int → Option (((List api_Cell) × Int) ⊕ ((List api_Cell)))
  | (vnewslice, vx1) =>
  cond (decide (vx1 < (qslices.length : Int)))
    ((at? qslices vx1).bind fun vy3 =>
    gd (Nat.ble (vnewslice.length + vy3.length) LIM) <|
    some (.inl (vnewslice ++ vy3, IntKind.wrap .i64 (vx1 + 1))))
    (some (.inr vnewslice))

noncomputable def slices_Concat_api_Cell_api_Cell_o0 (qslices : List (List api_Cell)) : Option ((List api_Cell)) :=
  (loopO (slices_Concat_api_Cell_api_Cell_o0_x1 qslices) (0, 0)).bind fun vsize1_1 =>
  (slices_Grow_api_Cell_api_Cell_n0 vsize1_1).bind fun vr =>
  (loopO (slices_Concat_api_Cell_api_Cell_o0_x2 qslices) (vr, 0)).bind fun vnewslice1_1 =>
  some vnewslice1_1

/-! ### beaconfleet/twin.joined -/
noncomputable def twin_joined_x2 (vx : List api_Cell) (vx1 : List api_Cell) : Option (Bool) :=
  cond (decide (0 < (vx.length : Int)))
    (some (decide (0 < (vx1.length : Int))))
    (some false)

noncomputable def twin_joined_x4 (vx : List api_Cell) (vx1 : List api_Cell) (vr3_1 : Int) : Option (Bool) :=
  cond (decide (vr3_1 = 0))
    ((at? vx 0).bind fun vy10 =>
    (at? vx1 0).bind fun vy11 =>
    some (!(decide (vy10.Prop_.Value.Kind = vy11.Prop_.Value.Kind) && ((vy10.Prop_.Value.Flag == vy11.Prop_.Value.Flag) && (decide (vy10.Prop_.Value.Number = vy11.Prop_.Value.Number) && (decide (vy10.Prop_.Value.Words = vy11.Prop_.Value.Words) && true))))))
    (some false)

noncomputable def twin_joined_x3 (vx : List api_Cell) (vx1 : List api_Cell) (vx2 : List api_Cell) : Option ((List api_Cell) ⊕ Unit) :=
  (at? vx 0).bind fun vy8 =>
  (at? vx1 0).bind fun vy9 =>
  (twin_byStamp (api_Stamp.mk vy8.Stamp.At vy8.Stamp.By vy8.Stamp.No) (api_Stamp.mk vy9.Stamp.At vy9.Stamp.By vy9.Stamp.No)).bind fun vr3_1 =>
  (twin_joined_x4 vx vx1 vr3_1).bind fun vx7_1 =>
  cond (vx7_1)
    (some (.inr ()))
    (cond (decide (0 ≤ vr3_1))
      (gd (Nat.ble (vx2.length + ([api_Cell.mk (api_Prop.mk vy8.Prop_.Name (api_Value.mk vy8.Prop_.Value.Kind vy8.Prop_.Value.Flag vy8.Prop_.Value.Number vy8.Prop_.Value.Words)) (api_Stamp.mk vy8.Stamp.At vy8.Stamp.By vy8.Stamp.No)] : List api_Cell).length) LIM) <|
      some (.inl (vx2 ++ ([api_Cell.mk (api_Prop.mk vy8.Prop_.Name (api_Value.mk vy8.Prop_.Value.Kind vy8.Prop_.Value.Flag vy8.Prop_.Value.Number vy8.Prop_.Value.Words)) (api_Stamp.mk vy8.Stamp.At vy8.Stamp.By vy8.Stamp.No)] : List api_Cell))))
      (gd (Nat.ble (vx2.length + ([api_Cell.mk (api_Prop.mk vy9.Prop_.Name (api_Value.mk vy9.Prop_.Value.Kind vy9.Prop_.Value.Flag vy9.Prop_.Value.Number vy9.Prop_.Value.Words)) (api_Stamp.mk vy9.Stamp.At vy9.Stamp.By vy9.Stamp.No)] : List api_Cell).length) LIM) <|
      some (.inl (vx2 ++ ([api_Cell.mk (api_Prop.mk vy9.Prop_.Name (api_Value.mk vy9.Prop_.Value.Kind vy9.Prop_.Value.Flag vy9.Prop_.Value.Number vy9.Prop_.Value.Words)) (api_Stamp.mk vy9.Stamp.At vy9.Stamp.By vy9.Stamp.No)] : List api_Cell)))))

noncomputable def twin_joined_x1 : (List api_Cell) × (List api_Cell) × (List api_Cell) → Option (((List api_Cell) × (List api_Cell) × (List api_Cell)) ⊕ (((List api_Cell) × (List api_Cell) × (List api_Cell)) ⊕ Unit))
  | (vx, vx1, vx2) =>
  (twin_joined_x2 vx vx1).bind fun vx6_1 =>
  cond (vx6_1)
    ((at? vx 0).bind fun vy6 =>
    (at? vx1 0).bind fun vy7 =>
    (strings_Compare vy6.Prop_.Name vy7.Prop_.Name).bind fun _ =>
    cond (decide ((Lib.compareBytes vy6.Prop_.Name vy7.Prop_.Name) < 0))
      (gd (Nat.ble (vx2.length + ([api_Cell.mk (api_Prop.mk vy6.Prop_.Name (api_Value.mk vy6.Prop_.Value.Kind vy6.Prop_.Value.Flag vy6.Prop_.Value.Number vy6.Prop_.Value.Words)) (api_Stamp.mk vy6.Stamp.At vy6.Stamp.By vy6.Stamp.No)] : List api_Cell).length) LIM) <|
      (sub? vx 1 (vx.length : Int)).bind fun vl4 =>
      some (.inl (vl4, vx1, vx2 ++ ([api_Cell.mk (api_Prop.mk vy6.Prop_.Name (api_Value.mk vy6.Prop_.Value.Kind vy6.Prop_.Value.Flag vy6.Prop_.Value.Number vy6.Prop_.Value.Words)) (api_Stamp.mk vy6.Stamp.At vy6.Stamp.By vy6.Stamp.No)] : List api_Cell))))
      (cond (decide (0 < (Lib.compareBytes vy6.Prop_.Name vy7.Prop_.Name)))
        (gd (Nat.ble (vx2.length + ([api_Cell.mk (api_Prop.mk vy7.Prop_.Name (api_Value.mk vy7.Prop_.Value.Kind vy7.Prop_.Value.Flag vy7.Prop_.Value.Number vy7.Prop_.Value.Words)) (api_Stamp.mk vy7.Stamp.At vy7.Stamp.By vy7.Stamp.No)] : List api_Cell).length) LIM) <|
        (sub? vx1 1 (vx1.length : Int)).bind fun vl5 =>
        some (.inl (vx, vl5, vx2 ++ ([api_Cell.mk (api_Prop.mk vy7.Prop_.Name (api_Value.mk vy7.Prop_.Value.Kind vy7.Prop_.Value.Flag vy7.Prop_.Value.Number vy7.Prop_.Value.Words)) (api_Stamp.mk vy7.Stamp.At vy7.Stamp.By vy7.Stamp.No)] : List api_Cell))))
        ((twin_joined_x3 vx vx1 vx2).bind fun x => match x with
          | .inl vx8_1 =>
            (sub? vx 1 (vx.length : Int)).bind fun vl6 =>
            (sub? vx1 1 (vx1.length : Int)).bind fun vl7 =>
            some (.inl (vl6, vl7, vx8_1))
          | .inr _ =>
            some (.inr (.inr ())))))
    (some (.inr (.inl (vx, vx1, vx2))))

noncomputable def twin_joined (qx : List api_Cell) (qx1 : List api_Cell) : Option ((List api_Cell) × Int) :=
  (loopO twin_joined_x1 (qx, qx1, [])).bind fun x => match x with
    | .inl (vx9_1, vx10_1, vx11_1) =>
      (slices_Concat_api_Cell_api_Cell_o0 ([vx11_1, vx9_1, vx10_1] : List (List api_Cell))).bind fun vr1 =>
      some (vr1, 0)
    | .inr _ =>
      some ([], 13)

/-! ### beaconfleet/twin.merged -/
noncomputable def twin_merged_x2 (vr : List api_Cell) (vr2 : Int) : Option (Bool) :=
  cond (decide (vr2 = 0))
    (some (decide (500 < (vr.length : Int))))
    (some false)

noncomputable def twin_merged_x1 (vr : List api_Cell) (vr2 : Int) : Option (Int) :=
  (twin_merged_x2 vr vr2).bind fun vx1 =>
  cond (vx1)
    (some 2)
    (some vr2)

noncomputable def twin_merged (qa : List api_Cell) (qb : List api_Cell) : Option ((List api_Cell) × Int) :=
  (twin_joined qa qb).bind fun (vr, vr2) =>
  (twin_merged_x1 vr vr2).bind fun ve1 =>
  cond (!decide (ve1 = 0))
    (some ([], ve1))
    (some (vr, 0))

/-! ### beaconfleet/twin.Merge -/
noncomputable def twin_Merge (qa : List api_Cell) (qb : List api_Cell) : Option ((List api_Cell) × Int) :=
  (twin_CheckCells qa).bind fun vr6 =>
  (twin_CheckCells qb).bind fun vr6_1 =>
  (base_First ([vr6, vr6_1] : List Int)).bind fun vr =>
  cond (!decide (vr = 0))
    (some ([], vr))
    ((twin_merged qa qb).bind fun (vr1, vr3) =>
    some (vr1, vr3))

/-! ### beaconfleet/twin.Set -/
noncomputable def twin_Set (ql : List api_Cell) (qp : api_Prop) (qs : api_Stamp) : Option ((List api_Cell) × Int) :=
  (twin_CheckCells ql).bind fun vr6 =>
  (twin_CheckCells ([api_Cell.mk (api_Prop.mk qp.Name (api_Value.mk qp.Value.Kind qp.Value.Flag qp.Value.Number qp.Value.Words)) qs] : List api_Cell)).bind fun vr6_1 =>
  (base_First ([vr6, vr6_1] : List Int)).bind fun vr =>
  cond (!decide (vr = 0))
    (some ([], vr))
    (cond (decide (qp.Value.Kind = 0))
      (some ([], 4))
      ((twin_merged ql ([api_Cell.mk (api_Prop.mk qp.Name (api_Value.mk qp.Value.Kind qp.Value.Flag qp.Value.Number qp.Value.Words)) qs] : List api_Cell)).bind fun (vr1, vr3) =>
      some (vr1, vr3)))

/-! ### beaconfleet/twin.Merge -/
noncomputable def twin_Merge_o1 (qa : List api_Cell) (qb : List api_Cell) : Option ((List api_Cell) × Int) :=
  (twin_CheckCells qa).bind fun vr6 =>
  (twin_CheckCells qb).bind fun vr6_1 =>
  (base_First ([vr6, vr6_1] : List Int)).bind fun vr =>
  cond (!decide (vr = 0))
    (some ([], vr))
    ((twin_merged qa qb).bind fun (vr1, vr3) =>
    some (vr1, vr3))

/-! ### beaconfleet/twin.Clear -/
noncomputable def twin_Clear (ql : List api_Cell) (qname : List UInt8) (qs : api_Stamp) : Option ((List api_Cell) × Int) :=
  (twin_Merge_o1 ql ([api_Cell.mk (api_Prop.mk qname (api_Value.mk 0 false 0 ([] : List UInt8))) qs] : List api_Cell)).bind fun (vr2, vr4) =>
  some (vr2, vr4)

/-! ### beaconfleet/fleetref2.MergeOf$1 -/
noncomputable def fleetref2_MergeOf_1 (qx : api_Cell) (qy : api_Cell) : Option (Int) :=
  (fleetref2_StampOrder (api_Stamp.mk qx.Stamp.At qx.Stamp.By qx.Stamp.No) (api_Stamp.mk qy.Stamp.At qy.Stamp.By qy.Stamp.No)).bind fun vr2 =>
  some vr2

/-! ### slices.insertionSortCmpFunc[beaconfleet/api.Cell] -/
noncomputable def slices_insertionSortCmpFunc_api_Cell_o0_f3_fleetref2_MergeOf_1_x3 (qa : Int) (vl3 : List api_Cell) (vj1 : Int) : Option (Bool) :=
  cond (decide (qa < vj1))
    ((at? vl3 vj1).bind fun vy15 =>
    (at? vl3 (IntKind.wrap .i64 (vj1 - 1))).bind fun vy16 =>
    (fleetref2_MergeOf_1 (api_Cell.mk (api_Prop.mk vy15.Prop_.Name (api_Value.mk vy15.Prop_.Value.Kind vy15.Prop_.Value.Flag vy15.Prop_.Value.Number vy15.Prop_.Value.Words)) (api_Stamp.mk vy15.Stamp.At vy15.Stamp.By vy15.Stamp.No)) (api_Cell.mk (api_Prop.mk vy16.Prop_.Name (api_Value.mk vy16.Prop_.Value.Kind vy16.Prop_.Value.Flag vy16.Prop_.Value.Number vy16.Prop_.Value.Words)) (api_Stamp.mk vy16.Stamp.At vy16.Stamp.By vy16.Stamp.No))).bind fun vr3 =>
    some (decide (vr3 < 0)))
    (some false)

noncomputable def slices_insertionSortCmpFunc_api_Cell_o0_f3_fleetref2_MergeOf_1_x2 (qa : Int) : (List api_Cell) × Int → Option (((List api_Cell) × Int) ⊕ ((List api_Cell)))
  | (vl3, vj1) =>
  (slices_insertionSortCmpFunc_api_Cell_o0_f3_fleetref2_MergeOf_1_x3 qa vl3 vj1).bind fun vx4_1 =>
  cond (vx4_1)
    ((at? vl3 (IntKind.wrap .i64 (vj1 - 1))).bind fun vy17 =>
    (at? vl3 vj1).bind fun vy18 =>
    (at? (vl3.set vj1.toNat (api_Cell.mk (api_Prop.mk vy17.Prop_.Name (api_Value.mk vy17.Prop_.Value.Kind vy17.Prop_.Value.Flag vy17.Prop_.Value.Number vy17.Prop_.Value.Words)) (api_Stamp.mk vy17.Stamp.At vy17.Stamp.By vy17.Stamp.No))) (IntKind.wrap .i64 (vj1 - 1))).bind fun vy19 =>
    some (.inl ((vl3.set vj1.toNat (api_Cell.mk (api_Prop.mk vy17.Prop_.Name (api_Value.mk vy17.Prop_.Value.Kind vy17.Prop_.Value.Flag vy17.Prop_.Value.Number vy17.Prop_.Value.Words)) (api_Stamp.mk vy17.Stamp.At vy17.Stamp.By vy17.Stamp.No))).set (IntKind.wrap .i64 (vj1 - 1)).toNat (api_Cell.mk (api_Prop.mk vy18.Prop_.Name (api_Value.mk vy18.Prop_.Value.Kind vy18.Prop_.Value.Flag vy18.Prop_.Value.Number vy18.Prop_.Value.Words)) (api_Stamp.mk vy18.Stamp.At vy18.Stamp.By vy18.Stamp.No)), IntKind.wrap .i64 (vj1 - 1))))
    (some (.inr vl3))

noncomputable def slices_insertionSortCmpFunc_api_Cell_o0_f3_fleetref2_MergeOf_1_x1 (qa : Int) (qb : Int) : (List api_Cell) × Int → Option (((List api_Cell) × Int) ⊕ ((List api_Cell)))
  | (vl, vi) =>
  cond (decide (vi < qb))
    ((loopO (slices_insertionSortCmpFunc_api_Cell_o0_f3_fleetref2_MergeOf_1_x2 qa) (vl, vi)).bind fun vl4_1 =>
    some (.inl (vl4_1, IntKind.wrap .i64 (vi + 1))))
    (some (.inr vl))

noncomputable def slices_insertionSortCmpFunc_api_Cell_o0_f3_fleetref2_MergeOf_1 (qdata : List api_Cell) (qa : Int) (qb : Int) : Option ((List api_Cell)) :=
  (loopO (slices_insertionSortCmpFunc_api_Cell_o0_f3_fleetref2_MergeOf_1_x1 qa qb) (qdata, IntKind.wrap .i64 (qa + 1))).bind fun vl5_1 =>
  some vl5_1

/-! ### slices.stableCmpFunc[beaconfleet/api.Cell] -/
noncomputable def slices_stableCmpFunc_api_Cell_o0_f2_fleetref2_MergeOf_1_x1 (qn : Int) : (List api_Cell) × Int × Int → Option (((List api_Cell) × Int × Int) ⊕ (((List api_Cell) × Int)))
  | (vl, va, vb) =>
  cond (decide (vb ≤ qn))
    ((slices_insertionSortCmpFunc_api_Cell_o0_f3_fleetref2_MergeOf_1 vl va vb).bind fun vl6_1 =>
    gd (vl6_1.length == vl.length) <|
    some (.inl (vl6_1, vb, IntKind.wrap .i64 (vb + 20))))
    (some (.inr (vl, va)))

noncomputable def slices_stableCmpFunc_api_Cell_o0_f2_fleetref2_MergeOf_1_x3 (qn : Int) (vblockSize : Int) : Unit → Option ((Unit) ⊕ (Unit))
  | _ =>
  cond (decide ((IntKind.wrap .i64 ((2 : Int) * vblockSize)) ≤ qn))
    (none)
    (some (.inr ()))

noncomputable def slices_stableCmpFunc_api_Cell_o0_f2_fleetref2_MergeOf_1_x2 (qn : Int) (vblockSize : Int) : Option ((Int) ⊕ (Unit)) :=
  cond (decide (vblockSize < qn))
    ((loopO (slices_stableCmpFunc_api_Cell_o0_f2_fleetref2_MergeOf_1_x3 qn vblockSize) ()).bind fun _ =>
    cond (decide ((IntKind.wrap .i64 ((0 : Int) + vblockSize)) < qn))
      (none)
      (some (.inl (IntKind.wrap .i64 (vblockSize * 2)))))
    (some (.inr ()))

noncomputable def slices_stableCmpFunc_api_Cell_o0_f2_fleetref2_MergeOf_1 (qdata : List api_Cell) (qn : Int) : Option ((List api_Cell)) :=
  (loopO (slices_stableCmpFunc_api_Cell_o0_f2_fleetref2_MergeOf_1_x1 qn) (qdata, 0, 20)).bind fun (vl1_1, va1_1) =>
  (slices_insertionSortCmpFunc_api_Cell_o0_f3_fleetref2_MergeOf_1 vl1_1 va1_1 qn).bind fun vl6_2 =>
  gd (vl6_2.length == vl1_1.length) <|
  (loopO (slices_stableCmpFunc_api_Cell_o0_f2_fleetref2_MergeOf_1_x2 qn) 20).bind fun _ =>
  some vl6_2

/-! ### slices.SortStableFunc[[]beaconfleet/api.Cell,beaconfleet/api.Cell] -/
noncomputable def slices_SortStableFunc_api_Cell_api_Cell_o0_f1_fleetref2_MergeOf_1 (qx : List api_Cell) : Option ((List api_Cell)) :=
  (slices_stableCmpFunc_api_Cell_o0_f2_fleetref2_MergeOf_1 qx (qx.length : Int)).bind fun vl2 =>
  gd (vl2.length == qx.length) <|
  some vl2

/-! ### beaconfleet/fleetref2.MergeOf$2 -/
noncomputable def fleetref2_MergeOf_2 (qx : api_Cell) (qy : api_Cell) : Option (Unit) :=
  (strings_Compare qx.Prop_.Name qy.Prop_.Name).bind fun _ =>
  some ()

/-! ### slices.insertionSortCmpFunc[beaconfleet/api.Cell] -/
noncomputable def slices_insertionSortCmpFunc_api_Cell_o0_f3_fleetref2_MergeOf_2_x3 (qa : Int) (vl3 : List api_Cell) (vj1 : Int) : Option (Bool) :=
  cond (decide (qa < vj1))
    ((at? vl3 vj1).bind fun vy15 =>
    (at? vl3 (IntKind.wrap .i64 (vj1 - 1))).bind fun vy16 =>
    (fleetref2_MergeOf_2 (api_Cell.mk (api_Prop.mk vy15.Prop_.Name (api_Value.mk vy15.Prop_.Value.Kind vy15.Prop_.Value.Flag vy15.Prop_.Value.Number vy15.Prop_.Value.Words)) (api_Stamp.mk vy15.Stamp.At vy15.Stamp.By vy15.Stamp.No)) (api_Cell.mk (api_Prop.mk vy16.Prop_.Name (api_Value.mk vy16.Prop_.Value.Kind vy16.Prop_.Value.Flag vy16.Prop_.Value.Number vy16.Prop_.Value.Words)) (api_Stamp.mk vy16.Stamp.At vy16.Stamp.By vy16.Stamp.No))).bind fun _ =>
    some (decide ((Lib.compareBytes vy15.Prop_.Name vy16.Prop_.Name) < 0)))
    (some false)

noncomputable def slices_insertionSortCmpFunc_api_Cell_o0_f3_fleetref2_MergeOf_2_x2 (qa : Int) : (List api_Cell) × Int → Option (((List api_Cell) × Int) ⊕ ((List api_Cell)))
  | (vl3, vj1) =>
  (slices_insertionSortCmpFunc_api_Cell_o0_f3_fleetref2_MergeOf_2_x3 qa vl3 vj1).bind fun vx4_1 =>
  cond (vx4_1)
    ((at? vl3 (IntKind.wrap .i64 (vj1 - 1))).bind fun vy17 =>
    (at? vl3 vj1).bind fun vy18 =>
    (at? (vl3.set vj1.toNat (api_Cell.mk (api_Prop.mk vy17.Prop_.Name (api_Value.mk vy17.Prop_.Value.Kind vy17.Prop_.Value.Flag vy17.Prop_.Value.Number vy17.Prop_.Value.Words)) (api_Stamp.mk vy17.Stamp.At vy17.Stamp.By vy17.Stamp.No))) (IntKind.wrap .i64 (vj1 - 1))).bind fun vy19 =>
    some (.inl ((vl3.set vj1.toNat (api_Cell.mk (api_Prop.mk vy17.Prop_.Name (api_Value.mk vy17.Prop_.Value.Kind vy17.Prop_.Value.Flag vy17.Prop_.Value.Number vy17.Prop_.Value.Words)) (api_Stamp.mk vy17.Stamp.At vy17.Stamp.By vy17.Stamp.No))).set (IntKind.wrap .i64 (vj1 - 1)).toNat (api_Cell.mk (api_Prop.mk vy18.Prop_.Name (api_Value.mk vy18.Prop_.Value.Kind vy18.Prop_.Value.Flag vy18.Prop_.Value.Number vy18.Prop_.Value.Words)) (api_Stamp.mk vy18.Stamp.At vy18.Stamp.By vy18.Stamp.No)), IntKind.wrap .i64 (vj1 - 1))))
    (some (.inr vl3))

noncomputable def slices_insertionSortCmpFunc_api_Cell_o0_f3_fleetref2_MergeOf_2_x1 (qa : Int) (qb : Int) : (List api_Cell) × Int → Option (((List api_Cell) × Int) ⊕ ((List api_Cell)))
  | (vl, vi) =>
  cond (decide (vi < qb))
    ((loopO (slices_insertionSortCmpFunc_api_Cell_o0_f3_fleetref2_MergeOf_2_x2 qa) (vl, vi)).bind fun vl4_1 =>
    some (.inl (vl4_1, IntKind.wrap .i64 (vi + 1))))
    (some (.inr vl))

noncomputable def slices_insertionSortCmpFunc_api_Cell_o0_f3_fleetref2_MergeOf_2 (qdata : List api_Cell) (qa : Int) (qb : Int) : Option ((List api_Cell)) :=
  (loopO (slices_insertionSortCmpFunc_api_Cell_o0_f3_fleetref2_MergeOf_2_x1 qa qb) (qdata, IntKind.wrap .i64 (qa + 1))).bind fun vl5_1 =>
  some vl5_1

/-! ### slices.pdqsortCmpFunc[beaconfleet/api.Cell] -/
noncomputable def slices_pdqsortCmpFunc_api_Cell_o0_f4_fleetref2_MergeOf_2_x1 (qx : List api_Cell) (qx1 : Int) (qx2 : Int) (qx3 : Int) : Unit → Option ((Unit) ⊕ ((List api_Cell)))
  | _ =>
  cond (decide ((IntKind.wrap .i64 (qx2 - qx1)) ≤ 12))
    ((slices_insertionSortCmpFunc_api_Cell_o0_f3_fleetref2_MergeOf_2 qx qx1 qx2).bind fun vl6_1 =>
    gd (vl6_1.length == qx.length) <|
    some (.inr vl6_1))
    (cond (decide (qx3 = 0))
      (none)
      (none))

noncomputable def slices_pdqsortCmpFunc_api_Cell_o0_f4_fleetref2_MergeOf_2 (qx : List api_Cell) (qx1 : Int) (qx2 : Int) (qx3 : Int) : Option ((List api_Cell)) :=
  (loopO (slices_pdqsortCmpFunc_api_Cell_o0_f4_fleetref2_MergeOf_2_x1 qx qx1 qx2 qx3) ()).bind fun vl1 =>
  some vl1

/-! ### slices.SortFunc[[]beaconfleet/api.Cell,beaconfleet/api.Cell] -/
noncomputable def slices_SortFunc_api_Cell_api_Cell_o0_f1_fleetref2_MergeOf_2 (qx : List api_Cell) : Option ((List api_Cell)) :=
  (bits_Len (IntKind.wrap .u64 ((qx.length : Int)))).bind fun vr1 =>
  (slices_pdqsortCmpFunc_api_Cell_o0_f4_fleetref2_MergeOf_2 qx 0 (qx.length : Int) vr1).bind fun vl2 =>
  gd (vl2.length == qx.length) <|
  some vl2

/-! ### beaconfleet/fleetref2.MergeOf -/
noncomputable def fleetref2_MergeOf_x2 (vy1 : api_Cell) (ve1 : api_Cell) (vis1 : Bool) : Option (Bool) :=
  cond (vis1)
    ((fleetref2_StampOrder (api_Stamp.mk ve1.Stamp.At ve1.Stamp.By ve1.Stamp.No) (api_Stamp.mk vy1.Stamp.At vy1.Stamp.By vy1.Stamp.No)).bind fun vr2_1 =>
    cond (decide (vr2_1 = 0))
      (some (!((decide (ve1.Prop_.Name = vy1.Prop_.Name) && ((decide (ve1.Prop_.Value.Kind = vy1.Prop_.Value.Kind) && ((ve1.Prop_.Value.Flag == vy1.Prop_.Value.Flag) && (decide (ve1.Prop_.Value.Number = vy1.Prop_.Value.Number) && (decide (ve1.Prop_.Value.Words = vy1.Prop_.Value.Words) && true)))) && true)) && ((decide (ve1.Stamp.At = vy1.Stamp.At) && (decide (ve1.Stamp.By = vy1.Stamp.By) && (decide (ve1.Stamp.No = vy1.Stamp.No) && true))) && true))))
      (some false))
    (some false)

noncomputable def fleetref2_MergeOf_x1 (vl : List api_Cell) : (List (List UInt8 × api_Cell)) × Int → Option (((List (List UInt8 × api_Cell)) × Int) ⊕ ((List (List UInt8 × api_Cell)) ⊕ Unit))
  | (vm, vx) =>
  cond (decide (vx < (vl.length : Int)))
    ((at? vl vx).bind fun vy1 =>
    (some ((aget vm vy1.Prop_.Name).getD (api_Cell.mk (api_Prop.mk ([] : List UInt8) (api_Value.mk 0 false 0 ([] : List UInt8))) (api_Stamp.mk 0 ([] : List UInt8) 0)))).bind fun ve1 =>
    (some (aget vm vy1.Prop_.Name).isSome).bind fun vis1 =>
    (fleetref2_MergeOf_x2 vy1 ve1 vis1).bind fun vx2_1 =>
    cond (vx2_1)
      (some (.inr (.inr ())))
      (some (.inl (aput vm vy1.Prop_.Name (api_Cell.mk (api_Prop.mk vy1.Prop_.Name (api_Value.mk vy1.Prop_.Value.Kind vy1.Prop_.Value.Flag vy1.Prop_.Value.Number vy1.Prop_.Value.Words)) (api_Stamp.mk vy1.Stamp.At vy1.Stamp.By vy1.Stamp.No)), IntKind.wrap .i64 (vx + 1)))))
    (some (.inr (.inl vm)))

noncomputable def fleetref2_MergeOf_x3 (qe : Option (List UInt8 × api_Cell)) (vx3 : List api_Cell) : Option (((List api_Cell)) ⊕ ((List api_Cell))) :=
  match qe with
  | none =>
    some (.inr vx3)
  | some ve3 =>
    gd (Nat.ble (vx3.length + ([api_Cell.mk (api_Prop.mk ve3.2.Prop_.Name (api_Value.mk ve3.2.Prop_.Value.Kind ve3.2.Prop_.Value.Flag ve3.2.Prop_.Value.Number ve3.2.Prop_.Value.Words)) (api_Stamp.mk ve3.2.Stamp.At ve3.2.Stamp.By ve3.2.Stamp.No)] : List api_Cell).length) LIM) <|
    some (.inl (vx3 ++ ([api_Cell.mk (api_Prop.mk ve3.2.Prop_.Name (api_Value.mk ve3.2.Prop_.Value.Kind ve3.2.Prop_.Value.Flag ve3.2.Prop_.Value.Number ve3.2.Prop_.Value.Words)) (api_Stamp.mk ve3.2.Stamp.At ve3.2.Stamp.By ve3.2.Stamp.No)] : List api_Cell)))

noncomputable def fleetref2_MergeOf (qx : List api_Cell) (qx1 : List api_Cell) : Option ((List api_Cell) × Int) :=
  (slices_Concat_api_Cell_api_Cell_o0 ([qx, qx1] : List (List api_Cell))).bind fun vr1 =>
  (slices_SortStableFunc_api_Cell_api_Cell_o0_f1_fleetref2_MergeOf_1 vr1).bind fun vl =>
  gd (vl.length == vr1.length) <|
  (loopO (fleetref2_MergeOf_x1 vl) (([] : List (List UInt8 × api_Cell)), 0)).bind fun x => match x with
    | .inl vm1_1 =>
      allPerm vm1_1 fun zo =>
      (rngO (fleetref2_MergeOf_x3) zo []).bind fun vx4_1 =>
      (slices_SortFunc_api_Cell_api_Cell_o0_f1_fleetref2_MergeOf_2 vx4_1).bind fun vl4 =>
      gd (vl4.length == vx4_1.length) <|
      cond (decide (500 < (vl4.length : Int)))
        (some ([], 2))
        (some (vl4, 0))
    | .inr _ =>
      some ([], 13)

/-! ### beaconfleet/fleetlaw2.CellsMerge$1 -/
noncomputable def fleetlaw2_CellsMerge_1_b1o (qb : List api_Cell) (qmore : Int) (qx : Int) (qx1 : List api_Cell) : Option ((List api_Cell) × Int) :=
  (fleetref2_CellsFault qb).bind fun vr =>
  (fleetlaw2_errs ([qx, vr, qmore] : List Int)).bind fun vr1 =>
  cond (!decide (vr1 = 0))
    (some ([], vr1))
    ((fleetref2_MergeOf qx1 qb).bind fun (vr2, vr3) =>
    some (vr2, vr3))

/-! ### beaconfleet/fleetlaw2.CellsMerge$1 -/
noncomputable def fleetlaw2_CellsMerge_1_o0_b1o (qb : List api_Cell) (qmore : Int) (qx : Int) (qx1 : List api_Cell) : Option ((List api_Cell) × Int) :=
  (fleetref2_CellsFault qb).bind fun vr =>
  (fleetlaw2_errs ([qx, vr, qmore] : List Int)).bind fun vr1 =>
  cond (!decide (vr1 = 0))
    (some ([], vr1))
    ((fleetref2_MergeOf qx1 qb).bind fun (vr2, vr3) =>
    some (vr2, vr3))

/-! ### beaconfleet/fleetlaw2.CellsMerge -/
noncomputable def fleetlaw2_CellsMerge_x1 (vr2_1 : List api_Cell) (vr4_1 : Int) (vr2_2 : List api_Cell) (vr4_2 : Int) (vr : List api_Cell) (vr1 : Int) (vr4_3 : List api_Cell) (vr5_1 : Int) (vr4_4 : List api_Cell) (vr5_2 : Int) (vr4_5 : List api_Cell) (vr5_3 : Int) : Option (Bool) :=
  cond (decide (vr4_1 = vr5_1))
    ((slices_Equal_api_Cell_api_Cell vr2_1 vr4_3).bind fun vr9 =>
    cond (vr9)
      (cond (decide (vr4_2 = vr5_2))
        ((slices_Equal_api_Cell_api_Cell vr2_2 vr4_4).bind fun vr10 =>
        cond (vr10)
          (cond (decide (vr1 = vr5_3))
            ((slices_Equal_api_Cell_api_Cell vr vr4_5).bind fun vr11 =>
            cond (vr11)
              ((fleetlaw2_twinned).bind fun vr12 =>
              some vr12)
              (some false))
            (some false))
          (some false))
        (some false))
      (some false))
    (some false)

noncomputable def fleetlaw2_CellsMerge (qx : List Int) : Option (Bool) :=
  (fleetmake_Stream_Cells (fleetmake_Stream.mk qx 0)).bind fun (vs2, vr3) =>
  (fleetmake_Stream_Cells vs2).bind fun (vs2_1, vr3_1) =>
  (fleetmake_Stream_PropName vs2_1).bind fun vr4 =>
  (fleetmake_Stream_Value (fleetmake_Stream.mk vs2_1.L (IntKind.wrap .i64 ((IntKind.wrap .i64 (vs2_1.at_ + 1)) + 1)))).bind fun (vs3, vr7) =>
  (fleetmake_Stream_Stamp vs3).bind fun (vs3_1, vr2) =>
  (twin_Merge vr3 vr3_1).bind fun (vr2_1, vr4_1) =>
  (twin_Set vr3 (api_Prop.mk vr4 vr7) vr2).bind fun (vr2_2, vr4_2) =>
  (twin_Clear vr3 vr4 vr2).bind fun (vr, vr1) =>
  (fleetref2_CellsFault vr3).bind fun vr5 =>
  (twin_CheckCells vr3).bind fun vr6 =>
  cond (!decide (vr6 = vr5))
    (some false)
    ((fleetlaw2_CellsMerge_1_b1o vr3_1 0 vr5 vr3).bind fun (vr4_3, vr5_1) =>
    (fleetlaw2_when (decide (vr7.Kind = 0)) 4).bind fun vr8 =>
    (fleetlaw2_CellsMerge_1_o0_b1o ([api_Cell.mk (api_Prop.mk vr4 vr7) vr2] : List api_Cell) vr8 vr5 vr3).bind fun (vr4_4, vr5_2) =>
    (fleetlaw2_CellsMerge_1_o0_b1o ([api_Cell.mk (api_Prop.mk vr4 (api_Value.mk 0 false 0 ([] : List UInt8))) vr2] : List api_Cell) 0 vr5 vr3).bind fun (vr4_5, vr5_3) =>
    (fleetlaw2_CellsMerge_x1 vr2_1 vr4_1 vr2_2 vr4_2 vr vr1 vr4_3 vr5_1 vr4_4 vr5_2 vr4_5 vr5_3).bind fun vx1 =>
    some vx1)

end Go.Eng
