/-
The Go functions that the law TwinsStay reaches, as plain functions.
-/
import Derived.Test.YtigejlfinklddaaGreatDoorEngV

import Derived.Lib.ValidU

namespace Go.Eng

open Go

set_option linter.unusedVariables false

structure z240 where
  L : List Int
  at_ : Int

def z240.enc (x : z240) : List D := [.lst (List.map (encI .i64) x.L), .int .i64 x.at_]

structure api_Value where
  Kind : Int
  Flag : Bool
  Number : Int
  Words : List UInt8

def api_Value.enc (x : api_Value) : List D := [.int .i64 x.Kind, .bool x.Flag, .int .i64 x.Number, .str x.Words]

structure api_Stamp where
  At : Int
  By : List UInt8
  No : Int

def api_Stamp.enc (x : api_Stamp) : List D := [.int .i64 x.At, .str x.By, .int .i64 x.No]

structure api_Prop where
  Name : List UInt8
  Value : api_Value

def api_Prop.enc (x : api_Prop) : List D := [.str x.Name, .int .i64 x.Value.Kind, .bool x.Value.Flag, .int .i64 x.Value.Number, .str x.Value.Words]

structure api_Cell where
  Prop_ : api_Prop
  Stamp : api_Stamp

def api_Cell.enc (x : api_Cell) : List D := [.str x.Prop_.Name, .int .i64 x.Prop_.Value.Kind, .bool x.Prop_.Value.Flag, .int .i64 x.Prop_.Value.Number, .str x.Prop_.Value.Words, .int .i64 x.Stamp.At, .str x.Stamp.By, .int .i64 x.Stamp.No]

structure api_Twin where
  Desired : List api_Cell
  Reported : List api_Cell

def api_Twin.enc (x : api_Twin) : List D := [.lst (List.map api_Cell.enc x.Desired), .lst (List.map api_Cell.enc x.Reported)]

structure api_Change where
  Name : List UInt8
  From : api_Value
  To : api_Value

def api_Change.enc (x : api_Change) : List D := [.str x.Name, .int .i64 x.From.Kind, .bool x.From.Flag, .int .i64 x.From.Number, .str x.From.Words, .int .i64 x.To.Kind, .bool x.To.Flag, .int .i64 x.To.Number, .str x.To.Words]

structure api_Sample where
  Device : List UInt8
  Metric : List UInt8
  At : Int
  Value : Int

def api_Sample.enc (x : api_Sample) : List D := [.str x.Device, .str x.Metric, .int .i64 x.At, .int .i64 x.Value]

structure api_Version where
  Major : Int
  Minor : Int
  Patch : Int

def api_Version.enc (x : api_Version) : List D := [.int .i64 x.Major, .int .i64 x.Minor, .int .i64 x.Patch]

structure api_Spot where
  X : Int
  Y : Int

def api_Spot.enc (x : api_Spot) : List D := [.int .i64 x.X, .int .i64 x.Y]

structure api_Letter where
  Id : List UInt8
  Slot : List UInt8
  Body : List UInt8
  Prio : Int
  At : Int
  Until : Int

def api_Letter.enc (x : api_Letter) : List D := [.str x.Id, .str x.Slot, .str x.Body, .int .i64 x.Prio, .int .i64 x.At, .int .i64 x.Until]

/-! ### beaconfleet/fleetmake.Below -/
noncomputable def z235 (qx : Int) (qn : Int) : Option (Int) :=
  cond (decide ((qx.tmod qn) < 0))
    (some (IntKind.wrap .i64 ((qx.tmod qn) + qn)))
    (some (qx.tmod qn))

noncomputable def z232 (qx : Int) (qn : Int) : Option (Int) :=
  cond (decide (qn < 1))
    (some 0)
    (gd (!(qn == 0)) <|
    (z235 qx qn).bind fun vx1 =>
    some vx1)

/-! ### (*beaconfleet/fleetmake.Stream).Next -/
noncomputable def z244 (qs : z240) (qn : Int) : Option (Int) :=
  cond (decide ((qs.L.length : Int) = 0))
    ((z232 (IntKind.wrap .i64 ((IntKind.wrap .i64 (qs.at_ + 1)) * 7919)) qn).bind fun vr =>
    some vr)
    (gd (!((qs.L.length : Int) == 0)) <|
    (at? qs.L ((IntKind.wrap .i64 ((IntKind.wrap .i64 (qs.at_ + 1)) - 1)).tmod (qs.L.length : Int))).bind fun vy =>
    (z232 vy 1073741824).bind fun vr1 =>
    (z232 (IntKind.wrap .i64 (vr1 + (IntKind.wrap .i64 ((IntKind.wrap .i64 ((IntKind.wrap .i64 ((IntKind.wrap .i64 (qs.at_ + 1)) - 1)).tdiv (qs.L.length : Int))) * (IntKind.wrap .i64 ((7919 : Int) + ((IntKind.wrap .i64 ((IntKind.wrap .i64 (qs.at_ + 1)) - 1)).tmod (qs.L.length : Int)))))))) qn).bind fun vr2 =>
    some vr2)

/-! ### (*beaconfleet/fleetmake.Stream).Range -/
noncomputable def z250 (qs : z240) (qlow : Int) (qhigh : Int) : Option (z240 × Int) :=
  cond (decide (qhigh < qlow))
    (some (qs, qlow))
    ((z244 qs (IntKind.wrap .i64 ((IntKind.wrap .i64 (qhigh - qlow)) + 1))).bind fun vr3 =>
    some (z240.mk qs.L (IntKind.wrap .i64 (qs.at_ + 1)), IntKind.wrap .i64 (qlow + vr3)))

/-! ### (*beaconfleet/fleetmake.Stream).Some -/
noncomputable def z288 (qs : z240) (ql : List (List UInt8)) : Option ((List UInt8)) :=
  (z244 qs (ql.length : Int)).bind fun vr3 =>
  (at? ql vr3).bind fun vy =>
  some vy

/-! ### (*beaconfleet/fleetmake.Stream).Flip -/
noncomputable def z241 (qs : z240) (qn : Int) : Option (Bool) :=
  (z244 qs qn).bind fun vr3 =>
  some (decide (vr3 = 0))

/-! ### (*beaconfleet/fleetmake.Stream).Pick -/
noncomputable def z247 (qs : z240) (ql : List Int) : Option (Int) :=
  (z244 qs (ql.length : Int)).bind fun vr3 =>
  (at? ql vr3).bind fun vy =>
  some vy

/-! ### (*beaconfleet/fleetmake.Stream).RightValue -/
noncomputable def z285 (qs : z240) : Option (api_Value) :=
  (z244 qs 4).bind fun vr3 =>
  cond (decide (vr3 = 0))
    ((z241 (z240.mk qs.L (IntKind.wrap .i64 (qs.at_ + 1))) 2).bind fun vr =>
    some (api_Value.mk 1 vr 0 ([] : List UInt8)))
    (cond (decide (vr3 = 1))
      ((z288 (z240.mk qs.L (IntKind.wrap .i64 (qs.at_ + 1))) ([([] : List UInt8), ([120] : List UInt8), ([97, 32, 34, 98, 34] : List UInt8), ([92] : List UInt8), ([195, 169] : List UInt8), ([45, 32, 49] : List UInt8)] : List (List UInt8))).bind fun vr1 =>
      some (api_Value.mk 3 false 0 vr1))
      ((z247 (z240.mk qs.L (IntKind.wrap .i64 (qs.at_ + 1))) ([1, 2, 2, 3, 0, (-5), 1000000000] : List Int)).bind fun vr2 =>
      some (api_Value.mk 2 false vr2 ([] : List UInt8))))

/-! ### (*beaconfleet/fleetmake.Stream).RightStamp -/
noncomputable def z282 (qs : z240) : Option (z240 × api_Stamp) :=
  (z250 qs 0 9).bind fun (vs, vr) =>
  (z288 vs ([([104] : List UInt8), ([104] : List UInt8), ([107] : List UInt8)] : List (List UInt8))).bind fun vr1 =>
  (z247 (z240.mk vs.L (IntKind.wrap .i64 (vs.at_ + 1))) ([0, 0, 1] : List Int)).bind fun vr2 =>
  some (z240.mk vs.L (IntKind.wrap .i64 ((IntKind.wrap .i64 (vs.at_ + 1)) + 1)), api_Stamp.mk vr vr1 vr2)

/-! ### internal/bytealg.CompareString -/
noncomputable def z129 (qa : List UInt8) (qb : List UInt8) : Option (Unit) :=
  some ()

/-! ### strings.Compare -/
noncomputable def z999 (qa : List UInt8) (qb : List UInt8) : Option (Unit) :=
  (z129 qa qb).bind fun _ =>
  some ()

/-! ### beaconfleet/fleetmake.cellOrder -/
noncomputable def z291 (qa : api_Cell) (qb : api_Cell) : Option (Unit) :=
  (z999 qa.Prop_.Name qb.Prop_.Name).bind fun _ =>
  some ()

/-! ### slices.insertionSortCmpFunc[beaconfleet/api.Cell] -/
noncomputable def z689 (qa : Int) (vl3 : List api_Cell) (vj1 : Int) : Option (Bool) :=
  cond (decide (qa < vj1))
    ((at? vl3 vj1).bind fun vy15 =>
    (at? vl3 (IntKind.wrap .i64 (vj1 - 1))).bind fun vy16 =>
    (z291 (api_Cell.mk (api_Prop.mk vy15.Prop_.Name (api_Value.mk vy15.Prop_.Value.Kind vy15.Prop_.Value.Flag vy15.Prop_.Value.Number vy15.Prop_.Value.Words)) (api_Stamp.mk vy15.Stamp.At vy15.Stamp.By vy15.Stamp.No)) (api_Cell.mk (api_Prop.mk vy16.Prop_.Name (api_Value.mk vy16.Prop_.Value.Kind vy16.Prop_.Value.Flag vy16.Prop_.Value.Number vy16.Prop_.Value.Words)) (api_Stamp.mk vy16.Stamp.At vy16.Stamp.By vy16.Stamp.No))).bind fun _ =>
    some (decide ((Lib.compareBytes vy15.Prop_.Name vy16.Prop_.Name) < 0)))
    (some false)

noncomputable def z684 (qa : Int) : (List api_Cell) × Int → Option (((List api_Cell) × Int) ⊕ ((List api_Cell)))
  | (vl3, vj1) =>
  (z689 qa vl3 vj1).bind fun vx4_1 =>
  cond (vx4_1)
    ((at? vl3 (IntKind.wrap .i64 (vj1 - 1))).bind fun vy17 =>
    (at? vl3 vj1).bind fun vy18 =>
    (at? (vl3.set vj1.toNat (api_Cell.mk (api_Prop.mk vy17.Prop_.Name (api_Value.mk vy17.Prop_.Value.Kind vy17.Prop_.Value.Flag vy17.Prop_.Value.Number vy17.Prop_.Value.Words)) (api_Stamp.mk vy17.Stamp.At vy17.Stamp.By vy17.Stamp.No))) (IntKind.wrap .i64 (vj1 - 1))).bind fun vy19 =>
    some (.inl ((vl3.set vj1.toNat (api_Cell.mk (api_Prop.mk vy17.Prop_.Name (api_Value.mk vy17.Prop_.Value.Kind vy17.Prop_.Value.Flag vy17.Prop_.Value.Number vy17.Prop_.Value.Words)) (api_Stamp.mk vy17.Stamp.At vy17.Stamp.By vy17.Stamp.No))).set (IntKind.wrap .i64 (vj1 - 1)).toNat (api_Cell.mk (api_Prop.mk vy18.Prop_.Name (api_Value.mk vy18.Prop_.Value.Kind vy18.Prop_.Value.Flag vy18.Prop_.Value.Number vy18.Prop_.Value.Words)) (api_Stamp.mk vy18.Stamp.At vy18.Stamp.By vy18.Stamp.No)), IntKind.wrap .i64 (vj1 - 1))))
    (some (.inr vl3))

noncomputable def z679 (qa : Int) (qb : Int) : (List api_Cell) × Int → Option (((List api_Cell) × Int) ⊕ ((List api_Cell)))
  | (vl, vi) =>
  cond (decide (vi < qb))
    ((loopO (z684 qa) (vl, vi)).bind fun vl4_1 =>
    some (.inl (vl4_1, IntKind.wrap .i64 (vi + 1))))
    (some (.inr vl))

noncomputable def z676 (qdata : List api_Cell) (qa : Int) (qb : Int) : Option ((List api_Cell)) :=
  (loopO (z679 qa qb) (qdata, IntKind.wrap .i64 (qa + 1))).bind fun vl5_1 =>
  some vl5_1

/-! ### slices.stableCmpFunc[beaconfleet/api.Cell] -/
noncomputable def z801 (qn : Int) : (List api_Cell) × Int × Int → Option (((List api_Cell) × Int × Int) ⊕ (((List api_Cell) × Int)))
  | (vl, va, vb) =>
  cond (decide (vb ≤ qn))
    ((z676 vl va vb).bind fun vl6_1 =>
    gd (vl6_1.length == vl.length) <|
    some (.inl (vl6_1, vb, IntKind.wrap .i64 (vb + 20))))
    (some (.inr (vl, va)))

noncomputable def z811 (qn : Int) (vblockSize : Int) : Unit → Option ((Unit) ⊕ (Unit))
  | _ =>
  cond (decide ((IntKind.wrap .i64 ((2 : Int) * vblockSize)) ≤ qn))
    (none)
    (some (.inr ()))

noncomputable def z806 (qn : Int) (vblockSize : Int) : Option ((Int) ⊕ (Unit)) :=
  cond (decide (vblockSize < qn))
    ((loopO (z811 qn vblockSize) ()).bind fun _ =>
    cond (decide ((IntKind.wrap .i64 ((0 : Int) + vblockSize)) < qn))
      (none)
      (some (.inl (IntKind.wrap .i64 (vblockSize * 2)))))
    (some (.inr ()))

noncomputable def z798 (qdata : List api_Cell) (qn : Int) : Option ((List api_Cell)) :=
  (loopO (z801 qn) (qdata, 0, 20)).bind fun (vl1_1, va1_1) =>
  (z676 vl1_1 va1_1 qn).bind fun vl6_2 =>
  gd (vl6_2.length == vl1_1.length) <|
  (loopO (z806 qn) 20).bind fun _ =>
  some vl6_2

/-! ### slices.SortStableFunc[[]beaconfleet/api.Cell,beaconfleet/api.Cell] -/
noncomputable def z670 (qx : List api_Cell) : Option ((List api_Cell)) :=
  (z798 qx (qx.length : Int)).bind fun vl2 =>
  gd (vl2.length == qx.length) <|
  some vl2

/-! ### (*beaconfleet/fleetmake.Stream).RightCells$1 -/
noncomputable def z254 (qa : api_Cell) (qb : api_Cell) : Option (Unit) :=
  some ()

/-! ### slices.CompactFunc[[]beaconfleet/api.Cell,beaconfleet/api.Cell] -/
noncomputable def z516 (qx : List api_Cell) (vx : Int) (vl4 : List api_Cell) (vx6 : Int) (vx7 : Int) : Option (((List api_Cell) × Int)) :=
  gd (decide (0 ≤ vx) && decide (0 ≤ vx7) && decide (vx7 < (qx.length : Int) - vx)) <|
  (at? vl4 (vx + vx7)).bind fun vy13 =>
  gd (decide (0 ≤ vx) && decide (0 ≤ (IntKind.wrap .i64 (vx7 - 1))) && decide ((IntKind.wrap .i64 (vx7 - 1)) < (qx.length : Int) - vx)) <|
  (at? vl4 (vx + (IntKind.wrap .i64 (vx7 - 1)))).bind fun vy14 =>
  (z254 (api_Cell.mk (api_Prop.mk vy13.Prop_.Name (api_Value.mk vy13.Prop_.Value.Kind vy13.Prop_.Value.Flag vy13.Prop_.Value.Number vy13.Prop_.Value.Words)) (api_Stamp.mk vy13.Stamp.At vy13.Stamp.By vy13.Stamp.No)) (api_Cell.mk (api_Prop.mk vy14.Prop_.Name (api_Value.mk vy14.Prop_.Value.Kind vy14.Prop_.Value.Flag vy14.Prop_.Value.Number vy14.Prop_.Value.Words)) (api_Stamp.mk vy14.Stamp.At vy14.Stamp.By vy14.Stamp.No))).bind fun _ =>
  cond (!(decide (vy13.Prop_.Name = vy14.Prop_.Name)))
    ((at? vl4 vx6).bind fun vy15 =>
    some (vl4.set vx6.toNat (api_Cell.mk (api_Prop.mk vy13.Prop_.Name (api_Value.mk vy13.Prop_.Value.Kind vy13.Prop_.Value.Flag vy13.Prop_.Value.Number vy13.Prop_.Value.Words)) (api_Stamp.mk vy13.Stamp.At vy13.Stamp.By vy13.Stamp.No)), IntKind.wrap .i64 (vx6 + 1)))
    (some (vl4, vx6))

noncomputable def z511 (qx : List api_Cell) (vx : Int) : (List api_Cell) × Int × Int → Option (((List api_Cell) × Int × Int) ⊕ (((List api_Cell) × Int)))
  | (vl4, vx6, vx7) =>
  cond (decide (vx7 < (((qx.length : Int).toNat - vx.toNat : Nat) : Int)))
    ((z516 qx vx vl4 vx6 vx7).bind fun (vl6_1, vx9_1) =>
    some (.inl (vl6_1, vx9_1, IntKind.wrap .i64 (vx7 + 1))))
    (some (.inr (vl4, vx6)))

noncomputable def z506 (qx : List api_Cell) (vx : Int) : Option ((Int) ⊕ (Unit ⊕ (List api_Cell))) :=
  cond (decide (vx < (qx.length : Int)))
    ((at? qx vx).bind fun vy8 =>
    (at? qx (IntKind.wrap .i64 (vx - 1))).bind fun vy9 =>
    (z254 (api_Cell.mk (api_Prop.mk vy8.Prop_.Name (api_Value.mk vy8.Prop_.Value.Kind vy8.Prop_.Value.Flag vy8.Prop_.Value.Number vy8.Prop_.Value.Words)) (api_Stamp.mk vy8.Stamp.At vy8.Stamp.By vy8.Stamp.No)) (api_Cell.mk (api_Prop.mk vy9.Prop_.Name (api_Value.mk vy9.Prop_.Value.Kind vy9.Prop_.Value.Flag vy9.Prop_.Value.Number vy9.Prop_.Value.Words)) (api_Stamp.mk vy9.Stamp.At vy9.Stamp.By vy9.Stamp.No))).bind fun _ =>
    cond (decide (vy8.Prop_.Name = vy9.Prop_.Name))
      (gd (decide (0 ≤ vx) && decide (vx ≤ (qx.length : Int)) && decide ((qx.length : Int) ≤ (qx.length : Int))) <|
      (loopO (z511 qx vx) (qx, vx, 1)).bind fun (vl7_1, vx10_1) =>
      gd (decide (0 ≤ vx10_1) && decide (vx10_1 ≤ (vl7_1.length : Int)) && decide ((vl7_1.length : Int) ≤ (vl7_1.length : Int))) <|
      gd (decide (0 ≤ vx10_1) && decide (vx10_1 ≤ ((vl7_1.take vx10_1.toNat ++ (List.replicate ((vl7_1.length : Int).toNat - vx10_1.toNat) (api_Cell.mk (api_Prop.mk ([] : List UInt8) (api_Value.mk 0 false 0 ([] : List UInt8))) (api_Stamp.mk 0 ([] : List UInt8) 0)) ++ vl7_1.drop (vx10_1.toNat + ((vl7_1.length : Int).toNat - vx10_1.toNat)))).length : Int))) <|
      some (.inr (.inr ((vl7_1.take vx10_1.toNat ++ (List.replicate ((vl7_1.length : Int).toNat - vx10_1.toNat) (api_Cell.mk (api_Prop.mk ([] : List UInt8) (api_Value.mk 0 false 0 ([] : List UInt8))) (api_Stamp.mk 0 ([] : List UInt8) 0)) ++ vl7_1.drop (vx10_1.toNat + ((vl7_1.length : Int).toNat - vx10_1.toNat)))).take vx10_1.toNat))))
      (some (.inl (IntKind.wrap .i64 (vx + 1)))))
    (some (.inr (.inl ())))

noncomputable def z503 (qx : List api_Cell) : Option ((List api_Cell)) :=
  cond (decide ((qx.length : Int) < 2))
    (some qx)
    ((loopO (z506 qx) 1).bind fun x => match x with
      | .inl _ =>
        some qx
      | .inr vx11_1 =>
        some vx11_1)

/-! ### (*beaconfleet/fleetmake.Stream).RightCells -/
noncomputable def z264 (vr5 : List UInt8) (vr4_1 : api_Value) (vs1_2 : z240) (vr3_1 : api_Stamp) : Option (api_Cell) :=
  (z241 vs1_2 3).bind fun vr6 =>
  cond (vr6)
    (some (api_Cell.mk (api_Prop.mk vr5 (api_Value.mk 0 false 0 ([] : List UInt8))) vr3_1))
    (some (api_Cell.mk (api_Prop.mk vr5 vr4_1) vr3_1))

noncomputable def z259 (vr : Int) : z240 × (List api_Cell) × Int → Option ((z240 × (List api_Cell) × Int) ⊕ ((z240 × (List api_Cell))))
  | (vs1, vout, vx) =>
  cond (decide (vx < vr))
    ((z288 vs1 ([([97] : List UInt8), ([97] : List UInt8), ([97, 46, 120] : List UInt8), ([97, 46, 121] : List UInt8), ([97, 46, 120, 46, 112] : List UInt8), ([98] : List UInt8), ([98, 46, 122] : List UInt8), ([97, 98] : List UInt8)] : List (List UInt8))).bind fun vr5 =>
    (z285 (z240.mk vs1.L (IntKind.wrap .i64 (vs1.at_ + 1)))).bind fun vr4_1 =>
    (z282 (z240.mk vs1.L (IntKind.wrap .i64 ((IntKind.wrap .i64 ((IntKind.wrap .i64 (vs1.at_ + 1)) + 1)) + 1)))).bind fun (vs1_2, vr3_1) =>
    (z264 vr5 vr4_1 vs1_2 vr3_1).bind fun vc2_1 =>
    gd (Nat.ble (vout.length + ([api_Cell.mk (api_Prop.mk vc2_1.Prop_.Name (api_Value.mk vc2_1.Prop_.Value.Kind vc2_1.Prop_.Value.Flag vc2_1.Prop_.Value.Number vc2_1.Prop_.Value.Words)) (api_Stamp.mk vc2_1.Stamp.At vc2_1.Stamp.By vc2_1.Stamp.No)] : List api_Cell).length) LIM) <|
    some (.inl (z240.mk vs1_2.L (IntKind.wrap .i64 (vs1_2.at_ + 1)), vout ++ ([api_Cell.mk (api_Prop.mk vc2_1.Prop_.Name (api_Value.mk vc2_1.Prop_.Value.Kind vc2_1.Prop_.Value.Flag vc2_1.Prop_.Value.Number vc2_1.Prop_.Value.Words)) (api_Stamp.mk vc2_1.Stamp.At vc2_1.Stamp.By vc2_1.Stamp.No)] : List api_Cell), IntKind.wrap .i64 (vx + 1))))
    (some (.inr (vs1, vout)))

noncomputable def z253 (qs : z240) : Option (z240 × (List api_Cell)) :=
  (z250 qs 0 6).bind fun (vs, vr) =>
  (loopO (z259 vr) (vs, [], 0)).bind fun (vs2_1, vout1_1) =>
  (z670 vout1_1).bind fun vl =>
  gd (vl.length == vout1_1.length) <|
  (z503 vl).bind fun vr7 =>
  some (vs2_1, vr7)

/-! ### slices.Clone[[]beaconfleet/api.Prop,beaconfleet/api.Prop] -/
noncomputable def z500 (qs : List api_Prop) : Option (List api_Prop) :=
  gd (Nat.ble (([] : List api_Prop).length + qs.length) LIM) (some qs)

/-! ### math/bits.Len64 -/
noncomputable def z111 (qx : Int) : Option ((Int × Int)) :=
  cond (decide (4294967296 ≤ qx))
    (some (ishr .u64 qx 32, 32))
    (some (qx, 0))

noncomputable def z116 (vx1 : Int) (vn1 : Int) : Option ((Int × Int)) :=
  cond (decide (65536 ≤ vx1))
    (some (ishr .u64 vx1 16, IntKind.wrap .i64 (vn1 + 16)))
    (some (vx1, vn1))

noncomputable def z122 (vx2_1 : Int) (vn2_1 : Int) : Option ((Int × Int)) :=
  cond (decide (256 ≤ vx2_1))
    (some (ishr .u64 vx2_1 8, IntKind.wrap .i64 (vn2_1 + 8)))
    (some (vx2_1, vn2_1))

noncomputable def z108 (qx : Int) : Option (Int) :=
  (z111 qx).bind fun (vx1, vn1) =>
  (z116 vx1 vn1).bind fun (vx2_1, vn2_1) =>
  (z122 vx2_1 vn2_1).bind fun (vx3_1, vn3_1) =>
  (at? ([0, 1, 2, 2, 3, 3, 3, 3, 4, 4, 4, 4, 4, 4, 4, 4, 5, 5, 5, 5, 5, 5, 5, 5, 5, 5, 5, 5, 5, 5, 5, 5, 6, 6, 6, 6, 6, 6, 6, 6, 6, 6, 6, 6, 6, 6, 6, 6, 6, 6, 6, 6, 6, 6, 6, 6, 6, 6, 6, 6, 6, 6, 6, 6, 7, 7, 7, 7, 7, 7, 7, 7, 7, 7, 7, 7, 7, 7, 7, 7, 7, 7, 7, 7, 7, 7, 7, 7, 7, 7, 7, 7, 7, 7, 7, 7, 7, 7, 7, 7, 7, 7, 7, 7, 7, 7, 7, 7, 7, 7, 7, 7, 7, 7, 7, 7, 7, 7, 7, 7, 7, 7, 7, 7, 7, 7, 7, 7, 8, 8, 8, 8, 8, 8, 8, 8, 8, 8, 8, 8, 8, 8, 8, 8, 8, 8, 8, 8, 8, 8, 8, 8, 8, 8, 8, 8, 8, 8, 8, 8, 8, 8, 8, 8, 8, 8, 8, 8, 8, 8, 8, 8, 8, 8, 8, 8, 8, 8, 8, 8, 8, 8, 8, 8, 8, 8, 8, 8, 8, 8, 8, 8, 8, 8, 8, 8, 8, 8, 8, 8, 8, 8, 8, 8, 8, 8, 8, 8, 8, 8, 8, 8, 8, 8, 8, 8, 8, 8, 8, 8, 8, 8, 8, 8, 8, 8, 8, 8, 8, 8, 8, 8, 8, 8, 8, 8, 8, 8, 8, 8, 8, 8, 8, 8, 8, 8, 8, 8, 8, 8, 8, 8, 8, 8, 8, 8] : List UInt8) (IntKind.wrap .u8 (vx3_1))).bind fun vc =>
  some (IntKind.wrap .i64 (vn3_1 + (IntKind.wrap .i64 ((vc.toNat : Int)))))

/-! ### math/bits.Len -/
noncomputable def bits_Len (qx : Int) : Option (Int) :=
  (z108 qx).bind fun vr =>
  some vr

/-! ### beaconfleet/fleetmake.propOrder -/
noncomputable def z294 (qa : api_Prop) (qb : api_Prop) : Option (Unit) :=
  (z999 qa.Name qb.Name).bind fun _ =>
  some ()

/-! ### slices.insertionSortCmpFunc[beaconfleet/api.Prop] -/
noncomputable def z725 (qa : Int) (vl3 : List api_Prop) (vj1 : Int) : Option (Bool) :=
  cond (decide (qa < vj1))
    ((at? vl3 vj1).bind fun vy15 =>
    (at? vl3 (IntKind.wrap .i64 (vj1 - 1))).bind fun vy16 =>
    (z294 (api_Prop.mk vy15.Name (api_Value.mk vy15.Value.Kind vy15.Value.Flag vy15.Value.Number vy15.Value.Words)) (api_Prop.mk vy16.Name (api_Value.mk vy16.Value.Kind vy16.Value.Flag vy16.Value.Number vy16.Value.Words))).bind fun _ =>
    some (decide ((Lib.compareBytes vy15.Name vy16.Name) < 0)))
    (some false)

noncomputable def z720 (qa : Int) : (List api_Prop) × Int → Option (((List api_Prop) × Int) ⊕ ((List api_Prop)))
  | (vl3, vj1) =>
  (z725 qa vl3 vj1).bind fun vx4_1 =>
  cond (vx4_1)
    ((at? vl3 (IntKind.wrap .i64 (vj1 - 1))).bind fun vy17 =>
    (at? vl3 vj1).bind fun vy18 =>
    (at? (vl3.set vj1.toNat (api_Prop.mk vy17.Name (api_Value.mk vy17.Value.Kind vy17.Value.Flag vy17.Value.Number vy17.Value.Words))) (IntKind.wrap .i64 (vj1 - 1))).bind fun vy19 =>
    some (.inl ((vl3.set vj1.toNat (api_Prop.mk vy17.Name (api_Value.mk vy17.Value.Kind vy17.Value.Flag vy17.Value.Number vy17.Value.Words))).set (IntKind.wrap .i64 (vj1 - 1)).toNat (api_Prop.mk vy18.Name (api_Value.mk vy18.Value.Kind vy18.Value.Flag vy18.Value.Number vy18.Value.Words)), IntKind.wrap .i64 (vj1 - 1))))
    (some (.inr vl3))

noncomputable def z715 (qa : Int) (qb : Int) : (List api_Prop) × Int → Option (((List api_Prop) × Int) ⊕ ((List api_Prop)))
  | (vl, vi) =>
  cond (decide (vi < qb))
    ((loopO (z720 qa) (vl, vi)).bind fun vl4_1 =>
    some (.inl (vl4_1, IntKind.wrap .i64 (vi + 1))))
    (some (.inr vl))

noncomputable def z712 (qdata : List api_Prop) (qa : Int) (qb : Int) : Option ((List api_Prop)) :=
  (loopO (z715 qa qb) (qdata, IntKind.wrap .i64 (qa + 1))).bind fun vl5_1 =>
  some vl5_1

/-! ### slices.pdqsortCmpFunc[beaconfleet/api.Prop] -/
noncomputable def z777 (qx : List api_Prop) (qx1 : Int) (qx2 : Int) (qx3 : Int) : Unit → Option ((Unit) ⊕ ((List api_Prop)))
  | _ =>
  cond (decide ((IntKind.wrap .i64 (qx2 - qx1)) ≤ 12))
    ((z712 qx qx1 qx2).bind fun vl6_1 =>
    gd (vl6_1.length == qx.length) <|
    some (.inr vl6_1))
    (cond (decide (qx3 = 0))
      (none)
      (none))

noncomputable def z774 (qx : List api_Prop) (qx1 : Int) (qx2 : Int) (qx3 : Int) : Option ((List api_Prop)) :=
  (loopO (z777 qx qx1 qx2 qx3) ()).bind fun vl1 =>
  some vl1

/-! ### slices.SortFunc[[]beaconfleet/api.Prop,beaconfleet/api.Prop] -/
noncomputable def z664 (qx : List api_Prop) : Option ((List api_Prop)) :=
  (bits_Len (IntKind.wrap .u64 ((qx.length : Int)))).bind fun vr1 =>
  (z774 qx 0 (qx.length : Int) vr1).bind fun vl2 =>
  gd (vl2.length == qx.length) <|
  some vl2

/-! ### unicode/utf8.RuneCountInString -/
noncomputable def z1422 (qs : List UInt8) : Nat × Int → Option ((Nat × Int) ⊕ (Int))
  | (vpos, vn) =>
  cond (decide (vpos < qs.length))
    ((some (dec qs vpos)).bind fun vd1 =>
    some (.inl ((vpos + vd1.2 : Nat), IntKind.wrap .i64 (vn + 1))))
    (some (.inr vn))

noncomputable def z1419 (qs : List UInt8) : Option (Int) :=
  (loopO (z1422 qs) ((0 : Nat), 0)).bind fun vn1_1 =>
  some vn1_1

/-! ### unicode/utf8.decodeRuneInStringSlow -/
noncomputable def z1429 (qx : List UInt8) : Option (Unit) :=
  cond (decide ((qx.length : Int) < 1))
    (some ())
    ((at? qx 0).bind fun vc =>
    none)

/-! ### unicode/utf8.DecodeRuneInString -/
noncomputable def z1414 (qs : List UInt8) : Option (Bool) :=
  cond (!decide (qs = ([] : List UInt8)))
    ((at? qs 0).bind fun vc =>
    some (decide ((vc.toNat : Int) < 128)))
    (some false)

noncomputable def z1411 (qs : List UInt8) : Option (Int × Int) :=
  (z1414 qs).bind fun vx1 =>
  cond (vx1)
    ((at? qs 0).bind fun vc1 =>
    some (IntKind.wrap .i32 ((vc1.toNat : Int)), 1))
    ((z1429 qs).bind fun _ =>
    some (65533, 0))

/-! ### strings.explode -/
noncomputable def z1042 (qn : Int) (vr : Int) : Option (Bool) :=
  cond (decide (qn < 0))
    (some true)
    (some (decide (vr < qn)))

noncomputable def z1037 (qn : Int) (vr : Int) : Option (Int) :=
  (z1042 qn vr).bind fun vx1 =>
  cond (vx1)
    (some vr)
    (some qn)

noncomputable def z1047 (vn1 : Int) : (List UInt8) × (List (List UInt8)) × Int → Option (((List UInt8) × (List (List UInt8)) × Int) ⊕ (((List UInt8) × (List (List UInt8)))))
  | (vs, va, vi) =>
  cond (decide (vi < (IntKind.wrap .i64 (vn1 - 1))))
    ((z1411 vs).bind fun (vr2, vr1_2) =>
    (sub? vs 0 vr1_2).bind fun vs3 =>
    (at? va vi).bind fun vy1 =>
    (sub? vs vr1_2 (vs.length : Int)).bind fun vs4 =>
    some (.inl (vs4, va.set vi.toNat vs3, IntKind.wrap .i64 (vi + 1))))
    (some (.inr (vs, va)))

noncomputable def z1052 (vn1 : Int) (vs5_1 : List UInt8) (va1_1 : List (List UInt8)) : Option ((List (List UInt8))) :=
  cond (decide (0 < vn1))
    ((at? va1_1 (IntKind.wrap .i64 (vn1 - 1))).bind fun vy2 =>
    some (va1_1.set (IntKind.wrap .i64 (vn1 - 1)).toNat vs5_1))
    (some va1_1)

noncomputable def z1034 (qs : List UInt8) (qn : Int) : Option ((List (List UInt8))) :=
  (z1419 qs).bind fun vr =>
  (z1037 qn vr).bind fun vn1 =>
  gd (decide (0 ≤ vn1) && decide (vn1 ≤ vn1) && decide (vn1 ≤ 137438953472)) <|
  (loopO (z1047 vn1) (qs, List.replicate vn1.toNat ([] : List UInt8), 0)).bind fun (vs5_1, va1_1) =>
  (z1052 vn1 vs5_1 va1_1).bind fun va2_1 =>
  some va2_1

/-! ### internal/stringslite.IndexByte -/
noncomputable def z1090 (qs : List UInt8) (qc : Int) : Option (Unit) :=
  some ()

/-! ### internal/stringslite.Index -/
noncomputable def z1095 (qx : List UInt8) (qx1 : List UInt8) : Option (Bool) :=
  cond (decide ((qx1.length : Int) = 0))
    (some true)
    (some (decide (qx1 = qx)))

noncomputable def z1089 (qx : List UInt8) (qx1 : List UInt8) : Option (Int) :=
  (z1095 qx qx1).bind fun vx1 =>
  cond (vx1)
    (some 0)
    (cond (decide ((qx1.length : Int) = 1))
      ((at? qx1 0).bind fun vc =>
      (z1090 qx (vc.toNat : Int)).bind fun _ =>
      some (Lib.indexByte qx (vc.toNat : Int).toNat.toUInt8))
      (cond (decide ((qx.length : Int) ≤ (qx1.length : Int)))
        (some (-1))
        (none)))

/-! ### strings.Index -/
noncomputable def z1019 (qs : List UInt8) (qsubstr : List UInt8) : Option (Int) :=
  (z1089 qs qsubstr).bind fun vr =>
  some vr

/-! ### strings.Count -/
noncomputable def z1008 (qsubstr : List UInt8) : (List UInt8) × Int → Option (((List UInt8) × Int) ⊕ (Int))
  | (vs, vn) =>
  (z1019 vs qsubstr).bind fun vr1_1 =>
  cond (decide (vr1_1 = (-1)))
    (some (.inr vn))
    ((sub? vs (IntKind.wrap .i64 (vr1_1 + (qsubstr.length : Int))) (vs.length : Int)).bind fun vs2 =>
    some (.inl (vs2, IntKind.wrap .i64 (vn + 1))))

noncomputable def z1005 (qs : List UInt8) (qsubstr : List UInt8) : Option (Int) :=
  cond (decide ((qsubstr.length : Int) = 0))
    ((z1419 qs).bind fun vr =>
    some (IntKind.wrap .i64 (vr + 1)))
    (cond (decide ((qsubstr.length : Int) = 1))
      ((at? qsubstr 0).bind fun vc =>
      some (countB qs (vc.toNat : Int).toNat.toUInt8))
      ((loopO (z1008 qsubstr) (qs, 0)).bind fun vx1 =>
      some vx1))

/-! ### strings.genSplit -/
noncomputable def z1060 (qx : List UInt8) (qx1 : List UInt8) (qx3 : Int) : Option (Int) :=
  cond (decide (qx3 < 0))
    ((z1005 qx qx1).bind fun vr2 =>
    some (IntKind.wrap .i64 (vr2 + 1)))
    (some qx3)

noncomputable def z1065 (qx : List UInt8) (qx1 : List UInt8) (qx2 : Int) (vx1 : Int) : (List UInt8) × (List (List UInt8)) × Int → Option (((List UInt8) × (List (List UInt8)) × Int) ⊕ (((List UInt8) × (List (List UInt8)) × Int)))
  | (vx2, vx3, vx4) =>
  cond (decide (vx4 < (IntKind.wrap .i64 ((imin vx1 (IntKind.wrap .i64 ((qx.length : Int) + 1))) - 1))))
    ((z1019 vx2 qx1).bind fun vr1_1 =>
    cond (decide (vr1_1 < 0))
      (some (.inr (vx2, vx3, vx4)))
      ((sub? vx2 0 (IntKind.wrap .i64 (vr1_1 + qx2))).bind fun vs2 =>
      (at? vx3 vx4).bind fun vy1 =>
      (sub? vx2 (IntKind.wrap .i64 (vr1_1 + (qx1.length : Int))) (vx2.length : Int)).bind fun vs3 =>
      some (.inl (vs3, vx3.set vx4.toNat vs2, IntKind.wrap .i64 (vx4 + 1)))))
    (some (.inr (vx2, vx3, vx4)))

noncomputable def z1057 (qx : List UInt8) (qx1 : List UInt8) (qx2 : Int) (qx3 : Int) : Option ((List (List UInt8))) :=
  cond (decide (qx3 = 0))
    (some [])
    (cond (decide (qx1 = ([] : List UInt8)))
      ((z1034 qx qx3).bind fun vr3 =>
      some vr3)
      ((z1060 qx qx1 qx3).bind fun vx1 =>
      gd (decide (0 ≤ (imin vx1 (IntKind.wrap .i64 ((qx.length : Int) + 1)))) && decide ((imin vx1 (IntKind.wrap .i64 ((qx.length : Int) + 1))) ≤ (imin vx1 (IntKind.wrap .i64 ((qx.length : Int) + 1)))) && decide ((imin vx1 (IntKind.wrap .i64 ((qx.length : Int) + 1))) ≤ 137438953472)) <|
      (loopO (z1065 qx qx1 qx2 vx1) (qx, List.replicate (imin vx1 (IntKind.wrap .i64 ((qx.length : Int) + 1))).toNat ([] : List UInt8), 0)).bind fun (vx5_1, vx6_1, vx7_1) =>
      (at? vx6_1 vx7_1).bind fun vy2 =>
      gd (decide (0 ≤ (IntKind.wrap .i64 (vx7_1 + 1))) && decide ((IntKind.wrap .i64 (vx7_1 + 1)) ≤ ((vx6_1.set vx7_1.toNat vx5_1).length : Int))) <|
      some ((vx6_1.set vx7_1.toNat vx5_1).take (IntKind.wrap .i64 (vx7_1 + 1)).toNat)))

/-! ### strings.Split -/
noncomputable def z1028 (qs : List UInt8) (qsep : List UInt8) : Option ((List (List UInt8))) :=
  (z1057 qs qsep 0 (-1)).bind fun vr =>
  some vr

/-! ### beaconfleet/fleetref2.in -/
noncomputable def z367 (qn : Int) (qlow : Int) (qhigh : Int) : Option (Bool) :=
  cond (decide (qlow ≤ qn))
    (some (decide (qn ≤ qhigh)))
    (some false)

noncomputable def z364 (qn : Int) (qlow : Int) (qhigh : Int) : Option (Bool) :=
  (z367 qn qlow qhigh).bind fun vx1 =>
  some vx1

/-! ### strings.IndexByte -/
noncomputable def z1020 (qs : List UInt8) (qc : Int) : Option (Unit) :=
  (z1090 qs qc).bind fun _ =>
  some ()

/-! ### beaconfleet/fleetref2.only -/
noncomputable def z375 (qs : List UInt8) (qsome : List UInt8) (vx : Int) : Option ((Int) ⊕ (Unit ⊕ Unit)) :=
  cond (decide (vx < (qs.length : Int)))
    ((at? qs vx).bind fun vc1 =>
    (z1020 qsome (vc1.toNat : Int)).bind fun _ =>
    cond (decide ((Lib.indexByte qsome (vc1.toNat : Int).toNat.toUInt8) < 0))
      (some (.inr (.inr ())))
      (some (.inl (IntKind.wrap .i64 (vx + 1)))))
    (some (.inr (.inl ())))

noncomputable def z372 (qs : List UInt8) (qsome : List UInt8) : Option (Bool) :=
  (loopO (z375 qs qsome) 0).bind fun x => match x with
    | .inl _ =>
      some true
    | .inr _ =>
      some false

/-! ### beaconfleet/fleetref2.Key -/
noncomputable def z300 (qs : List UInt8) : Option (Bool) :=
  (z364 (qs.length : Int) 1 40).bind fun vr =>
  cond (vr)
    ((sub? qs 0 1).bind fun vs =>
    (z372 vs ([97, 98, 99, 100, 101, 102, 103, 104, 105, 106, 107, 108, 109, 110, 111, 112, 113, 114, 115, 116, 117, 118, 119, 120, 121, 122] : List UInt8)).bind fun vr1 =>
    cond (vr1)
      ((z372 qs ([97, 98, 99, 100, 101, 102, 103, 104, 105, 106, 107, 108, 109, 110, 111, 112, 113, 114, 115, 116, 117, 118, 119, 120, 121, 122, 48, 49, 50, 51, 52, 53, 54, 55, 56, 57, 45, 95] : List UInt8)).bind fun vr2 =>
      some vr2)
      (some false))
    (some false)

noncomputable def z297 (qs : List UInt8) : Option (Bool) :=
  (z300 qs).bind fun vx1 =>
  some vx1

/-! ### beaconfleet/fleetref2.PropName$1 -/
noncomputable def z322 (qk : List UInt8) : Option (Bool) :=
  (z297 qk).bind fun vr3 =>
  some (!vr3)

/-! ### slices.IndexFunc[[]string,string] -/
noncomputable def z656 (qs : List (List UInt8)) (vx : Int) : Option ((Int) ⊕ (Unit ⊕ Int)) :=
  cond (decide (vx < (qs.length : Int)))
    ((at? qs vx).bind fun vy1 =>
    (z322 vy1).bind fun vr1 =>
    cond (vr1)
      (some (.inr (.inr vx)))
      (some (.inl (IntKind.wrap .i64 (vx + 1)))))
    (some (.inr (.inl ())))

noncomputable def z653 (qs : List (List UInt8)) : Option (Int) :=
  (loopO (z656 qs) 0).bind fun x => match x with
    | .inl _ =>
      some (-1)
    | .inr vx1_1 =>
      some vx1_1

/-! ### slices.ContainsFunc[[]string,string] -/
noncomputable def z570 (qs : List (List UInt8)) : Option (Bool) :=
  (z653 qs).bind fun vr2 =>
  some (decide (0 ≤ vr2))

/-! ### beaconfleet/fleetref2.PropName -/
noncomputable def z327 (vr1 : List (List UInt8)) : Option (Bool) :=
  cond (decide ((vr1.length : Int) ≤ 8))
    ((z570 vr1).bind fun vr =>
    some (!vr))
    (some false)

noncomputable def z321 (qs : List UInt8) : Option (Bool) :=
  (z1028 qs ([46] : List UInt8)).bind fun vr1 =>
  (z327 vr1).bind fun vx1 =>
  some vx1

/-! ### unicode/utf8.ValidString -/
noncomputable def utf8_ValidString (qx : List UInt8) : Option (Bool) :=
  gd (decide (qx.length ≤ 9223372036854775807)) (some (Lib.validD qx))

/-! ### beaconfleet/fleetref2.Printed$1 -/
noncomputable def z309 (qr : Int) : Option (Bool) :=
  cond (decide (qr < 32))
    (some true)
    (some (decide (qr = 127)))

noncomputable def z306 (qr : Int) : Option (Bool) :=
  (z309 qr).bind fun vx1 =>
  some vx1

/-! ### strings.indexFunc -/
noncomputable def z1073 (qs : List UInt8) (qtruth : Bool) (vpos : Nat) : Option ((Nat) ⊕ (Unit ⊕ Int)) :=
  cond (decide (vpos < qs.length))
    ((some (dec qs vpos)).bind fun vd1 =>
    (z306 ((vd1.1 : Nat) : Int)).bind fun vr1 =>
    cond (vr1 == qtruth)
      (some (.inr (.inr ((vpos : Nat) : Int))))
      (some (.inl (vpos + vd1.2 : Nat))))
    (some (.inr (.inl ())))

noncomputable def z1070 (qs : List UInt8) (qtruth : Bool) : Option (Int) :=
  (loopO (z1073 qs qtruth) (0 : Nat)).bind fun x => match x with
    | .inl _ =>
      some (-1)
    | .inr vx1 =>
      some vx1

/-! ### strings.IndexFunc -/
noncomputable def z1023 (qs : List UInt8) : Option (Int) :=
  (z1070 qs true).bind fun vr2 =>
  some vr2

/-! ### strings.ContainsFunc -/
noncomputable def z1002 (qs : List UInt8) : Option (Bool) :=
  (z1023 qs).bind fun vr =>
  some (decide (0 ≤ vr))

/-! ### beaconfleet/fleetref2.Printed -/
noncomputable def z316 (qs : List UInt8) : Option (Bool) :=
  (utf8_ValidString qs).bind fun vr =>
  cond (vr)
    ((z1002 qs).bind fun vr1 =>
    some (!vr1))
    (some false)

noncomputable def z305 (qs : List UInt8) : Option (Bool) :=
  (z316 qs).bind fun vx1 =>
  some vx1

/-! ### beaconfleet/fleetref2.ValueFault -/
noncomputable def z356 (qv : api_Value) : Option (api_Value) :=
  cond (decide (qv.Kind = 1))
    (some (api_Value.mk qv.Kind qv.Flag 0 ([] : List UInt8)))
    (cond (decide (qv.Kind = 2))
      (some (api_Value.mk qv.Kind false qv.Number ([] : List UInt8)))
      (cond (decide (qv.Kind = 3))
        (some (api_Value.mk qv.Kind false 0 qv.Words))
        (some (api_Value.mk qv.Kind false 0 ([] : List UInt8)))))

noncomputable def z353 (qv : api_Value) : Option (Int) :=
  (z364 qv.Kind 0 3).bind fun vr =>
  cond (!vr)
    (some 4)
    ((z356 qv).bind fun vplain1 =>
    cond (!(decide (vplain1.Kind = qv.Kind) && ((vplain1.Flag == qv.Flag) && (decide (vplain1.Number = qv.Number) && (decide (vplain1.Words = qv.Words) && true)))))
      (some 3)
      ((z364 qv.Number (-1000000000) 1000000000).bind fun vr1 =>
      cond (!vr1)
        (some 1)
        (cond (decide (1000 < (qv.Words.length : Int)))
          (some 2)
          ((z305 qv.Words).bind fun vr2 =>
          cond (!vr2)
            (some 3)
            (some 0)))))

/-! ### internal/stringslite.HasPrefix -/
noncomputable def z1084 (qs : List UInt8) (qprefix : List UInt8) : Option (Bool) :=
  cond (decide ((qprefix.length : Int) ≤ (qs.length : Int)))
    ((sub? qs 0 (qprefix.length : Int)).bind fun vs =>
    some (decide (vs = qprefix)))
    (some false)

noncomputable def z1081 (qs : List UInt8) (qprefix : List UInt8) : Option (Bool) :=
  (z1084 qs qprefix).bind fun vx1 =>
  some vx1

/-! ### strings.HasPrefix -/
noncomputable def z1016 (qs : List UInt8) (qprefix : List UInt8) : Option (Bool) :=
  (z1081 qs qprefix).bind fun vr =>
  some vr

/-! ### beaconfleet/fleetref2.above -/
noncomputable def z361 (qa : List UInt8) (qb : List UInt8) : Option (Bool) :=
  gd (Nat.ble (qa.length + ([46] : List UInt8).length) LIM) <|
  (z1016 qb (qa ++ ([46] : List UInt8))).bind fun vr1 =>
  some vr1

/-! ### beaconfleet/fleetref2.PropsFault$1 -/
noncomputable def z333 (qq : api_Prop) (qx : api_Prop) : Option (Bool) :=
  (z361 qq.Name qx.Name).bind fun vr =>
  some vr

/-! ### slices.IndexFunc[[]beaconfleet/api.Prop,beaconfleet/api.Prop] -/
noncomputable def z640 (qs : List api_Prop) (qf : api_Prop) (vx : Int) : Option ((Int) ⊕ (Unit ⊕ Int)) :=
  cond (decide (vx < (qs.length : Int)))
    ((at? qs vx).bind fun vy1 =>
    (z333 (api_Prop.mk vy1.Name (api_Value.mk vy1.Value.Kind vy1.Value.Flag vy1.Value.Number vy1.Value.Words)) (api_Prop.mk qf.Name (api_Value.mk qf.Value.Kind qf.Value.Flag qf.Value.Number qf.Value.Words))).bind fun vr1_1 =>
    cond (vr1_1)
      (some (.inr (.inr vx)))
      (some (.inl (IntKind.wrap .i64 (vx + 1)))))
    (some (.inr (.inl ())))

noncomputable def z637 (qs : List api_Prop) (qf : api_Prop) : Option (Int) :=
  (loopO (z640 qs qf) 0).bind fun x => match x with
    | .inl _ =>
      some (-1)
    | .inr vx1_1 =>
      some vx1_1

/-! ### slices.ContainsFunc[[]beaconfleet/api.Prop,beaconfleet/api.Prop] -/
noncomputable def z564 (qs : List api_Prop) (qf : api_Prop) : Option (Bool) :=
  (z637 qs (api_Prop.mk qf.Name (api_Value.mk qf.Value.Kind qf.Value.Flag qf.Value.Number qf.Value.Words))).bind fun vr =>
  some (decide (0 ≤ vr))

/-! ### beaconfleet/fleetref2.PropsFault -/
noncomputable def z343 (ql : List api_Prop) (vx : Int) (vy2 : api_Prop) : Option (Bool) :=
  cond (decide (0 < vx))
    ((at? ql (IntKind.wrap .i64 (vx - 1))).bind fun vy3 =>
    some (Op.bytesLess vy2.Name vy3.Name || decide (vy2.Name = vy3.Name)))
    (some false)

noncomputable def z338 (ql : List api_Prop) (vx : Int) : Option ((Int) ⊕ (Unit ⊕ Int)) :=
  cond (decide (vx < (ql.length : Int)))
    ((at? ql vx).bind fun vy2 =>
    (z321 vy2.Name).bind fun vr2_1 =>
    cond (!vr2_1)
      (some (.inr (.inr 5)))
      ((z353 (api_Value.mk vy2.Value.Kind vy2.Value.Flag vy2.Value.Number vy2.Value.Words)).bind fun vr3_1 =>
      cond (!decide (vr3_1 = 0))
        (some (.inr (.inr vr3_1)))
        (cond (decide (vy2.Value.Kind = 0))
          (some (.inr (.inr 4)))
          ((z343 ql vx vy2).bind fun vx2_1 =>
          cond (vx2_1)
            (some (.inr (.inr 7)))
            (some (.inl (IntKind.wrap .i64 (vx + 1))))))))
    (some (.inr (.inl ())))

noncomputable def z348 (ql : List api_Prop) (vx4 : Int) : Option ((Int) ⊕ (Unit ⊕ Unit)) :=
  cond (decide (vx4 < (ql.length : Int)))
    ((at? ql vx4).bind fun vy5 =>
    (z564 ql (api_Prop.mk vy5.Name (api_Value.mk vy5.Value.Kind vy5.Value.Flag vy5.Value.Number vy5.Value.Words))).bind fun vr1_1 =>
    cond (vr1_1)
      (some (.inr (.inr ())))
      (some (.inl (IntKind.wrap .i64 (vx4 + 1)))))
    (some (.inr (.inl ())))

noncomputable def z332 (ql : List api_Prop) : Option (Int) :=
  cond (decide (500 < (ql.length : Int)))
    (some 2)
    ((loopO (z338 ql) 0).bind fun x => match x with
      | .inl _ =>
        (loopO (z348 ql) 0).bind fun x => match x with
          | .inl _ =>
            some 0
          | .inr _ =>
            some 13
      | .inr vx3_1 =>
        some vx3_1)

/-! ### (*beaconfleet/fleetmake.Stream).RightProps -/
noncomputable def z277 (vs1 : z240) (vout : List api_Prop) : Option ((List api_Prop)) :=
  (z500 vout).bind fun vr5 =>
  (z288 vs1 ([([97] : List UInt8), ([97, 46, 120] : List UInt8), ([97, 46, 121] : List UInt8), ([97, 46, 120, 46, 112] : List UInt8), ([98] : List UInt8), ([98, 46, 122] : List UInt8), ([97, 98] : List UInt8)] : List (List UInt8))).bind fun vr6 =>
  (z285 (z240.mk vs1.L (IntKind.wrap .i64 (vs1.at_ + 1)))).bind fun vr4_1 =>
  gd (Nat.ble (vr5.length + ([api_Prop.mk vr6 vr4_1] : List api_Prop).length) LIM) <|
  (z664 (vr5 ++ ([api_Prop.mk vr6 vr4_1] : List api_Prop))).bind fun vl1 =>
  gd (vl1.length == (vr5 ++ ([api_Prop.mk vr6 vr4_1] : List api_Prop)).length) <|
  (z332 vl1).bind fun vr7 =>
  cond (decide (vr7 = 0))
    (some vl1)
    (some vout)

noncomputable def z272 (vr : Int) : z240 × (List api_Prop) × Int → Option ((z240 × (List api_Prop) × Int) ⊕ ((z240 × (List api_Prop))))
  | (vs1, vout, vx) =>
  cond (decide (vx < vr))
    ((z277 vs1 vout).bind fun vout2_1 =>
    some (.inl (z240.mk vs1.L (IntKind.wrap .i64 ((IntKind.wrap .i64 ((IntKind.wrap .i64 (vs1.at_ + 1)) + 1)) + 1)), vout2_1, IntKind.wrap .i64 (vx + 1))))
    (some (.inr (vs1, vout)))

noncomputable def z269 (qs : z240) : Option (z240 × (List api_Prop)) :=
  (z250 qs 0 5).bind fun (vs, vr) =>
  (loopO (z272 vr) (vs, [], 0)).bind fun (vs2_1, vout3_1) =>
  some (vs2_1, vout3_1)

/-! ### internal/stringslite.Cut -/
noncomputable def z1078 (qs : List UInt8) (qsep : List UInt8) : Option ((List UInt8) × (List UInt8) × Bool) :=
  (z1089 qs qsep).bind fun vr =>
  cond (decide (0 ≤ vr))
    ((sub? qs 0 vr).bind fun vs =>
    (sub? qs (IntKind.wrap .i64 (vr + (qsep.length : Int))) (qs.length : Int)).bind fun vs1 =>
    some (vs, vs1, true))
    (some (qs, ([] : List UInt8), false))

/-! ### strings.Cut -/
noncomputable def z1013 (qs : List UInt8) (qsep : List UInt8) : Option ((List UInt8) × (List UInt8) × Bool) :=
  (z1078 qs qsep).bind fun (vr1, vr2, vr3) =>
  some (vr1, vr2, vr3)

/-! ### beaconfleet/base.Key -/
noncomputable def z34 (qs : List UInt8) : Option (Bool) :=
  cond (decide (qs = ([] : List UInt8)))
    (some true)
    (cond (decide (40 < (qs.length : Int)))
      (some true)
      ((at? qs 0).bind fun vc =>
      cond (decide ((vc.toNat : Int) < 97))
        (some true)
        (some (decide (122 < (vc.toNat : Int))))))

noncomputable def z44 (vc2 : UInt8) : Option (Bool) :=
  cond (decide (97 ≤ (vc2.toNat : Int)))
    (cond (decide ((vc2.toNat : Int) ≤ 122))
      (some false)
      (cond (decide (48 ≤ (vc2.toNat : Int)))
        (cond (decide ((vc2.toNat : Int) ≤ 57))
          (some false)
          (cond (decide ((vc2.toNat : Int) = 45))
            (some false)
            (some (!(decide ((vc2.toNat : Int) = 95))))))
        (cond (decide ((vc2.toNat : Int) = 45))
          (some false)
          (some (!(decide ((vc2.toNat : Int) = 95)))))))
    (cond (decide (48 ≤ (vc2.toNat : Int)))
      (cond (decide ((vc2.toNat : Int) ≤ 57))
        (some false)
        (cond (decide ((vc2.toNat : Int) = 45))
          (some false)
          (some (!(decide ((vc2.toNat : Int) = 95))))))
      (cond (decide ((vc2.toNat : Int) = 45))
        (some false)
        (some (!(decide ((vc2.toNat : Int) = 95))))))

noncomputable def z39 (qs : List UInt8) (vx2 : Int) : Option ((Int) ⊕ (Unit ⊕ Unit)) :=
  cond (decide (vx2 < (qs.length : Int)))
    ((at? qs vx2).bind fun vc2 =>
    (z44 vc2).bind fun vx4_1 =>
    cond (vx4_1)
      (some (.inr (.inr ())))
      (some (.inl (IntKind.wrap .i64 (vx2 + 1)))))
    (some (.inr (.inl ())))

noncomputable def base_Key (qs : List UInt8) : Option (Bool) :=
  (z34 qs).bind fun vx1 =>
  cond (vx1)
    (some false)
    ((loopO (z39 qs) 0).bind fun x => match x with
      | .inl _ =>
        some true
      | .inr _ =>
        some false)

/-! ### beaconfleet/base.Dotted -/
noncomputable def z19 (qmost : Int) : (List UInt8) × Int → Option (((List UInt8) × Int) ⊕ (Unit ⊕ Bool))
  | (vs, vn) =>
  cond (decide (vn < qmost))
    ((z1013 vs ([46] : List UInt8)).bind fun (vr2, vr4_1, vr5_1) =>
    (base_Key vr2).bind fun vr3 =>
    cond (!vr3)
      (some (.inr (.inr false)))
      (cond (!vr5_1)
        (some (.inr (.inr true)))
        (some (.inl (vr4_1, IntKind.wrap .i64 (vn + 1))))))
    (some (.inr (.inl ())))

noncomputable def z16 (qs : List UInt8) (qmost : Int) : Option (Bool) :=
  (loopO (z19 qmost) (qs, 0)).bind fun x => match x with
    | .inl _ =>
      some false
    | .inr vx1 =>
      some vx1

/-! ### beaconfleet/twin.isName -/
noncomputable def z1313 (qs : List UInt8) : Option (Bool) :=
  (z16 qs 8).bind fun vr6 =>
  some vr6

/-! ### beaconfleet/base.Out -/
noncomputable def z82 (qn : Int) (qlow : Int) (qhigh : Int) : Option (Bool) :=
  cond (decide (qn < qlow))
    (some true)
    (some (decide (qhigh < qn)))

noncomputable def base_Out (qn : Int) (qlow : Int) (qhigh : Int) : Option (Bool) :=
  (z82 qn qlow qhigh).bind fun vx1 =>
  some vx1

/-! ### beaconfleet/base.Unmarked -/
noncomputable def z95 (qs : List UInt8) (vx : Int) : Option (Bool) :=
  (at? qs vx).bind fun vc1 =>
  cond (decide ((vc1.toNat : Int) < 32))
    (some true)
    (some (decide ((vc1.toNat : Int) = 127)))

noncomputable def z90 (qs : List UInt8) (vx : Int) : Option ((Int) ⊕ (Unit ⊕ Unit)) :=
  cond (decide (vx < (qs.length : Int)))
    ((z95 qs vx).bind fun vx2_1 =>
    cond (vx2_1)
      (some (.inr (.inr ())))
      (some (.inl (IntKind.wrap .i64 (vx + 1)))))
    (some (.inr (.inl ())))

noncomputable def z87 (qs : List UInt8) : Option (Bool) :=
  (loopO (z90 qs) 0).bind fun x => match x with
    | .inl _ =>
      (utf8_ValidString qs).bind fun vr =>
      some vr
    | .inr _ =>
      some false

/-! ### beaconfleet/twin.valueFault -/
noncomputable def z1400 (qv : api_Value) : Option (api_Value ⊕ Unit) :=
  cond (decide (qv.Kind = 0))
    (some (.inl (api_Value.mk qv.Kind false 0 ([] : List UInt8))))
    (cond (decide (qv.Kind = 1))
      (some (.inl (api_Value.mk qv.Kind qv.Flag 0 ([] : List UInt8))))
      (cond (decide (qv.Kind = 2))
        (some (.inl (api_Value.mk qv.Kind false qv.Number ([] : List UInt8))))
        (cond (decide (qv.Kind = 3))
          (some (.inl (api_Value.mk qv.Kind false 0 qv.Words)))
          (some (.inr ())))))

noncomputable def z1397 (qv : api_Value) : Option (Int) :=
  (z1400 qv).bind fun x => match x with
    | .inl vused1 =>
      cond (!(decide (qv.Kind = vused1.Kind) && ((qv.Flag == vused1.Flag) && (decide (qv.Number = vused1.Number) && (decide (qv.Words = vused1.Words) && true)))))
        (some 3)
        ((base_Out qv.Number (-1000000000) 1000000000).bind fun vr =>
        cond (vr)
          (some 1)
          (cond (decide (1000 < (qv.Words.length : Int)))
            (some 2)
            ((z87 qv.Words).bind fun vr1 =>
            cond (!vr1)
              (some 3)
              (some 0))))
    | .inr _ =>
      some 4

/-! ### beaconfleet/base.Moment -/
noncomputable def z50 (qn : Int) : Option (Bool) :=
  (base_Out qn 0 345686399999).bind fun vr =>
  some (!vr)

/-! ### beaconfleet/twin.stampFault -/
noncomputable def z1391 (qs : api_Stamp) : Option (Int) :=
  (z50 qs.At).bind fun vr1 =>
  cond (!vr1)
    (some 1)
    ((base_Key qs.By).bind fun vr =>
    cond (!vr)
      (some 5)
      ((base_Out qs.No 0 1000000000).bind fun vr2 =>
      cond (vr2)
        (some 1)
        (some 0)))

/-! ### beaconfleet/base.First -/
noncomputable def z27 (ql : List Int) (vx : Int) : Option ((Int) ⊕ (Unit ⊕ Int)) :=
  cond (decide (vx < (ql.length : Int)))
    ((at? ql vx).bind fun vy1 =>
    cond (!decide (vy1 = 0))
      (some (.inr (.inr vy1)))
      (some (.inl (IntKind.wrap .i64 (vx + 1)))))
    (some (.inr (.inl ())))

noncomputable def z24 (ql : List Int) : Option (Int) :=
  (loopO (z27 ql) 0).bind fun x => match x with
    | .inl _ =>
      some 0
    | .inr vx1_1 =>
      some vx1_1

/-! ### beaconfleet/twin.CheckCells -/
noncomputable def z1137 (ql : List api_Cell) (vx : Int) (vy2 : api_Cell) : Option (Bool) :=
  cond (decide (0 < vx))
    ((at? ql (IntKind.wrap .i64 (vx - 1))).bind fun vy3 =>
    some (Op.bytesLess vy2.Prop_.Name vy3.Prop_.Name || decide (vy2.Prop_.Name = vy3.Prop_.Name)))
    (some false)

noncomputable def z1132 (ql : List api_Cell) (vx : Int) : Option ((Int) ⊕ (Unit ⊕ Int)) :=
  cond (decide (vx < (ql.length : Int)))
    ((at? ql vx).bind fun vy2 =>
    (z1313 vy2.Prop_.Name).bind fun vr4 =>
    cond (!vr4)
      (some (.inr (.inr 5)))
      ((z1397 (api_Value.mk vy2.Prop_.Value.Kind vy2.Prop_.Value.Flag vy2.Prop_.Value.Number vy2.Prop_.Value.Words)).bind fun vr2_1 =>
      (z1391 (api_Stamp.mk vy2.Stamp.At vy2.Stamp.By vy2.Stamp.No)).bind fun vr3_1 =>
      (z24 ([vr2_1, vr3_1] : List Int)).bind fun vr5 =>
      cond (!decide (vr5 = 0))
        (some (.inr (.inr vr5)))
        ((z1137 ql vx vy2).bind fun vx2_1 =>
        cond (vx2_1)
          (some (.inr (.inr 7)))
          (some (.inl (IntKind.wrap .i64 (vx + 1)))))))
    (some (.inr (.inl ())))

noncomputable def z1129 (ql : List api_Cell) : Option (Int) :=
  cond (decide (500 < (ql.length : Int)))
    (some 2)
    ((loopO (z1132 ql) 0).bind fun x => match x with
      | .inl _ =>
        some 0
      | .inr vx3_1 =>
        some vx3_1)

/-! ### cmp.isNaN[int] -/
noncomputable def z161 (qx : Int) : Option (Unit) :=
  some ()

/-! ### cmp.Compare[int] -/
noncomputable def z142 (qx : Int) (qy : Int) : Option (Int) :=
  (z161 qx).bind fun _ =>
  (z161 qy).bind fun _ =>
  cond (!decide (qx = qx))
    (cond (!decide (qy = qy))
      (some 0)
      (some (-1)))
    (cond (!decide (qy = qy))
      (some 1)
      (cond (decide (qx < qy))
        (some (-1))
        (cond (decide (qy < qx))
          (some 1)
          (some 0))))

/-! ### cmp.Or[int] -/
noncomputable def z156 (qvals : List Int) (vx : Int) : Option ((Int) ⊕ (Unit ⊕ Int)) :=
  cond (decide (vx < (qvals.length : Int)))
    ((at? qvals vx).bind fun vy1 =>
    cond (!decide (vy1 = 0))
      (some (.inr (.inr vy1)))
      (some (.inl (IntKind.wrap .i64 (vx + 1)))))
    (some (.inr (.inl ())))

noncomputable def z153 (qvals : List Int) : Option (Int) :=
  (loopO (z156 qvals) 0).bind fun x => match x with
    | .inl _ =>
      some 0
    | .inr vx1_1 =>
      some vx1_1

/-! ### beaconfleet/twin.byStamp -/
noncomputable def z1278 (qa : api_Stamp) (qb : api_Stamp) : Option (Int) :=
  (z142 qa.At qb.At).bind fun vr =>
  (z999 qa.By qb.By).bind fun _ =>
  (z142 qa.No qb.No).bind fun vr1 =>
  (z153 ([vr, Lib.compareBytes qa.By qb.By, vr1] : List Int)).bind fun vr2 =>
  some vr2

/-! ### slices.Grow[[]beaconfleet/api.Cell,beaconfleet/api.Cell] -/
noncomputable def z600 (qn : Int) : Option ((List api_Cell)) :=
  cond (decide (0 < (IntKind.wrap .i64 (qn - (IntKind.wrap .i64 ((0 : Int) - 0))))))
    (gd (decide (0 ≤ (IntKind.wrap .i64 (qn - (IntKind.wrap .i64 ((0 : Int) - 0))))) && decide ((IntKind.wrap .i64 (qn - (IntKind.wrap .i64 ((0 : Int) - 0)))) ≤ 137438953472)) <|
    gd (decide (0 ≤ (0 : Int)) && decide ((0 : Int) ≤ ((List.replicate (IntKind.wrap .i64 (qn - (IntKind.wrap .i64 ((0 : Int) - 0)))).toNat (api_Cell.mk (api_Prop.mk ([] : List UInt8) (api_Value.mk 0 false 0 ([] : List UInt8))) (api_Stamp.mk 0 ([] : List UInt8) 0))).length : Int))) <|
    some ((List.replicate (IntKind.wrap .i64 (qn - (IntKind.wrap .i64 ((0 : Int) - 0)))).toNat (api_Cell.mk (api_Prop.mk ([] : List UInt8) (api_Value.mk 0 false 0 ([] : List UInt8))) (api_Stamp.mk 0 ([] : List UInt8) 0))).take (0 : Int).toNat))
    (some [])

noncomputable def z597 (qn : Int) : Option ((List api_Cell)) :=
  cond (decide (qn < 0))
    (none)
    ((z600 qn).bind fun vs1 =>
    some vs1)

/-! ### slices.Concat[[]beaconfleet/api.Cell,beaconfleet/api.Cell] -/
noncomputable def z542 (qslices : List (List api_Cell)) : Int × Int → Option ((Int × Int) ⊕ (Int))
  | (vsize, vx) =>
  cond (decide (vx < (qslices.length : Int)))
    ((at? qslices vx).bind fun vy1 =>
    cond (decide ((IntKind.wrap .i64 (vsize + (vy1.length : Int))) < 0))
      (none)
      (some (.inl (IntKind.wrap .i64 (vsize + (vy1.length : Int)), IntKind.wrap .i64 (vx + 1)))))
    (some (.inr vsize))

noncomputable def z547 (qslices : List (List api_Cell)) : (List api_Cell) × Int → Option (((List api_Cell) × Int) ⊕ ((List api_Cell)))
  | (vnewslice, vx1) =>
  cond (decide (vx1 < (qslices.length : Int)))
    ((at? qslices vx1).bind fun vy3 =>
    gd (Nat.ble (vnewslice.length + vy3.length) LIM) <|
    some (.inl (vnewslice ++ vy3, IntKind.wrap .i64 (vx1 + 1))))
    (some (.inr vnewslice))

noncomputable def z539 (qslices : List (List api_Cell)) : Option ((List api_Cell)) :=
  (loopO (z542 qslices) (0, 0)).bind fun vsize1_1 =>
  (z597 vsize1_1).bind fun vr =>
  (loopO (z547 qslices) (vr, 0)).bind fun vnewslice1_1 =>
  some vnewslice1_1

/-! ### beaconfleet/twin.joined -/
noncomputable def z1337 (vx : List api_Cell) (vx1 : List api_Cell) : Option (Bool) :=
  cond (decide (0 < (vx.length : Int)))
    (some (decide (0 < (vx1.length : Int))))
    (some false)

noncomputable def z1347 (vx : List api_Cell) (vx1 : List api_Cell) (vr3_1 : Int) : Option (Bool) :=
  cond (decide (vr3_1 = 0))
    ((at? vx 0).bind fun vy10 =>
    (at? vx1 0).bind fun vy11 =>
    some (!(decide (vy10.Prop_.Value.Kind = vy11.Prop_.Value.Kind) && ((vy10.Prop_.Value.Flag == vy11.Prop_.Value.Flag) && (decide (vy10.Prop_.Value.Number = vy11.Prop_.Value.Number) && (decide (vy10.Prop_.Value.Words = vy11.Prop_.Value.Words) && true))))))
    (some false)

noncomputable def z1342 (vx : List api_Cell) (vx1 : List api_Cell) (vx2 : List api_Cell) : Option ((List api_Cell) ⊕ Unit) :=
  (at? vx 0).bind fun vy8 =>
  (at? vx1 0).bind fun vy9 =>
  (z1278 (api_Stamp.mk vy8.Stamp.At vy8.Stamp.By vy8.Stamp.No) (api_Stamp.mk vy9.Stamp.At vy9.Stamp.By vy9.Stamp.No)).bind fun vr3_1 =>
  (z1347 vx vx1 vr3_1).bind fun vx7_1 =>
  cond (vx7_1)
    (some (.inr ()))
    (cond (decide (0 ≤ vr3_1))
      (gd (Nat.ble (vx2.length + ([api_Cell.mk (api_Prop.mk vy8.Prop_.Name (api_Value.mk vy8.Prop_.Value.Kind vy8.Prop_.Value.Flag vy8.Prop_.Value.Number vy8.Prop_.Value.Words)) (api_Stamp.mk vy8.Stamp.At vy8.Stamp.By vy8.Stamp.No)] : List api_Cell).length) LIM) <|
      some (.inl (vx2 ++ ([api_Cell.mk (api_Prop.mk vy8.Prop_.Name (api_Value.mk vy8.Prop_.Value.Kind vy8.Prop_.Value.Flag vy8.Prop_.Value.Number vy8.Prop_.Value.Words)) (api_Stamp.mk vy8.Stamp.At vy8.Stamp.By vy8.Stamp.No)] : List api_Cell))))
      (gd (Nat.ble (vx2.length + ([api_Cell.mk (api_Prop.mk vy9.Prop_.Name (api_Value.mk vy9.Prop_.Value.Kind vy9.Prop_.Value.Flag vy9.Prop_.Value.Number vy9.Prop_.Value.Words)) (api_Stamp.mk vy9.Stamp.At vy9.Stamp.By vy9.Stamp.No)] : List api_Cell).length) LIM) <|
      some (.inl (vx2 ++ ([api_Cell.mk (api_Prop.mk vy9.Prop_.Name (api_Value.mk vy9.Prop_.Value.Kind vy9.Prop_.Value.Flag vy9.Prop_.Value.Number vy9.Prop_.Value.Words)) (api_Stamp.mk vy9.Stamp.At vy9.Stamp.By vy9.Stamp.No)] : List api_Cell)))))

noncomputable def z1332 : (List api_Cell) × (List api_Cell) × (List api_Cell) → Option (((List api_Cell) × (List api_Cell) × (List api_Cell)) ⊕ (((List api_Cell) × (List api_Cell) × (List api_Cell)) ⊕ Unit))
  | (vx, vx1, vx2) =>
  (z1337 vx vx1).bind fun vx6_1 =>
  cond (vx6_1)
    ((at? vx 0).bind fun vy6 =>
    (at? vx1 0).bind fun vy7 =>
    (z999 vy6.Prop_.Name vy7.Prop_.Name).bind fun _ =>
    cond (decide ((Lib.compareBytes vy6.Prop_.Name vy7.Prop_.Name) < 0))
      (gd (Nat.ble (vx2.length + ([api_Cell.mk (api_Prop.mk vy6.Prop_.Name (api_Value.mk vy6.Prop_.Value.Kind vy6.Prop_.Value.Flag vy6.Prop_.Value.Number vy6.Prop_.Value.Words)) (api_Stamp.mk vy6.Stamp.At vy6.Stamp.By vy6.Stamp.No)] : List api_Cell).length) LIM) <|
      (sub? vx 1 (vx.length : Int)).bind fun vl4 =>
      some (.inl (vl4, vx1, vx2 ++ ([api_Cell.mk (api_Prop.mk vy6.Prop_.Name (api_Value.mk vy6.Prop_.Value.Kind vy6.Prop_.Value.Flag vy6.Prop_.Value.Number vy6.Prop_.Value.Words)) (api_Stamp.mk vy6.Stamp.At vy6.Stamp.By vy6.Stamp.No)] : List api_Cell))))
      (cond (decide (0 < (Lib.compareBytes vy6.Prop_.Name vy7.Prop_.Name)))
        (gd (Nat.ble (vx2.length + ([api_Cell.mk (api_Prop.mk vy7.Prop_.Name (api_Value.mk vy7.Prop_.Value.Kind vy7.Prop_.Value.Flag vy7.Prop_.Value.Number vy7.Prop_.Value.Words)) (api_Stamp.mk vy7.Stamp.At vy7.Stamp.By vy7.Stamp.No)] : List api_Cell).length) LIM) <|
        (sub? vx1 1 (vx1.length : Int)).bind fun vl5 =>
        some (.inl (vx, vl5, vx2 ++ ([api_Cell.mk (api_Prop.mk vy7.Prop_.Name (api_Value.mk vy7.Prop_.Value.Kind vy7.Prop_.Value.Flag vy7.Prop_.Value.Number vy7.Prop_.Value.Words)) (api_Stamp.mk vy7.Stamp.At vy7.Stamp.By vy7.Stamp.No)] : List api_Cell))))
        ((z1342 vx vx1 vx2).bind fun x => match x with
          | .inl vx8_1 =>
            (sub? vx 1 (vx.length : Int)).bind fun vl6 =>
            (sub? vx1 1 (vx1.length : Int)).bind fun vl7 =>
            some (.inl (vl6, vl7, vx8_1))
          | .inr _ =>
            some (.inr (.inr ())))))
    (some (.inr (.inl (vx, vx1, vx2))))

noncomputable def z1316 (qx : List api_Cell) (qx1 : List api_Cell) : Option ((List api_Cell) × Int) :=
  (loopO z1332 (qx, qx1, [])).bind fun x => match x with
    | .inl (vx9_1, vx10_1, vx11_1) =>
      (z539 ([vx11_1, vx9_1, vx10_1] : List (List api_Cell))).bind fun vr1 =>
      some (vr1, 0)
    | .inr _ =>
      some ([], 13)

/-! ### beaconfleet/twin.merged -/
noncomputable def z1373 (vr : List api_Cell) (vr2 : Int) : Option (Bool) :=
  cond (decide (vr2 = 0))
    (some (decide (500 < (vr.length : Int))))
    (some false)

noncomputable def z1368 (vr : List api_Cell) (vr2 : Int) : Option (Int) :=
  (z1373 vr vr2).bind fun vx1 =>
  cond (vx1)
    (some 2)
    (some vr2)

noncomputable def z1352 (qa : List api_Cell) (qb : List api_Cell) : Option ((List api_Cell) × Int) :=
  (z1316 qa qb).bind fun (vr, vr2) =>
  (z1368 vr vr2).bind fun ve1 =>
  cond (!decide (ve1 = 0))
    (some ([], ve1))
    (some (vr, 0))

/-! ### beaconfleet/twin.Merge -/
noncomputable def z1231 (qa : List api_Cell) (qb : List api_Cell) : Option ((List api_Cell) × Int) :=
  (z1129 qa).bind fun vr6 =>
  (z1129 qb).bind fun vr6_1 =>
  (z24 ([vr6, vr6_1] : List Int)).bind fun vr =>
  cond (!decide (vr = 0))
    (some ([], vr))
    ((z1352 qa qb).bind fun (vr1, vr3) =>
    some (vr1, vr3))

/-! ### beaconfleet/fleetkeep2.spoil[beaconfleet/api.Cell] -/
noncomputable def z219 (ql : List api_Cell) : (List api_Cell) × Int → Option (((List api_Cell) × Int) ⊕ ((List api_Cell)))
  | (vl, vx) =>
  cond (decide (vx < (ql.length : Int)))
    ((at? vl vx).bind fun vy1 =>
    some (.inl (vl.set vx.toNat (api_Cell.mk (api_Prop.mk ([] : List UInt8) (api_Value.mk 0 false 0 ([] : List UInt8))) (api_Stamp.mk 0 ([] : List UInt8) 0)), IntKind.wrap .i64 (vx + 1))))
    (some (.inr vl))

noncomputable def z216 (ql : List api_Cell) : Option ((List api_Cell)) :=
  (loopO (z219 ql) (ql, 0)).bind fun vl1_1 =>
  some vl1_1

/-! ### beaconfleet/base.Below -/
noncomputable def z10 (qname : List UInt8) (qabove : List UInt8) : Option (Bool) :=
  cond (decide ((qabove.length : Int) < (qname.length : Int)))
    ((at? qname (qabove.length : Int)).bind fun vc =>
    cond (decide ((vc.toNat : Int) = 46))
      ((sub? qname 0 (qabove.length : Int)).bind fun vs =>
      some (decide (vs = qabove)))
      (some false))
    (some false)

noncomputable def z6 (qname : List UInt8) (qabove : List UInt8) : Option (Bool) :=
  (z10 qname qabove).bind fun vx1 =>
  some vx1

/-! ### beaconfleet/twin.hides -/
noncomputable def z1303 (qy : api_Cell) (vr : Bool) (vr1 : Bool) : Option (Bool) :=
  cond (vr)
    (some true)
    (cond (vr1)
      (some (!decide (qy.Prop_.Value.Kind = 0)))
      (some false))

noncomputable def z1308 (qx : api_Cell) (qy : api_Cell) (vr : Bool) : Option (Bool) :=
  cond (vr)
    (cond (!decide (qx.Prop_.Value.Kind = 0))
      (some (!decide (qy.Prop_.Value.Kind = 0)))
      (some false))
    (some false)

noncomputable def z1300 (qx : api_Cell) (qy : api_Cell) : Option (Bool) :=
  (z6 qy.Prop_.Name qx.Prop_.Name).bind fun vr =>
  (z6 qx.Prop_.Name qy.Prop_.Name).bind fun vr1 =>
  (z1278 (api_Stamp.mk qx.Stamp.At qx.Stamp.By qx.Stamp.No) (api_Stamp.mk qy.Stamp.At qy.Stamp.By qy.Stamp.No)).bind fun vr3 =>
  cond (decide (0 < vr3))
    ((z1303 qy vr vr1).bind fun vx1 =>
    some vx1)
    (cond (decide (vr3 = 0))
      ((z1308 qx qy vr).bind fun vx2_1 =>
      some vx2_1)
      (some false))

/-! ### beaconfleet/twin.Compact$1 -/
noncomputable def z1185 (qc : api_Cell) (qx : Int) : Option (Unit) :=
  some ()

/-! ### beaconfleet/twin.hidden$1 -/
noncomputable def z1292 (qx : api_Cell) (qx1 : api_Cell) (qx2 : Int) : Option (Bool) :=
  (z1300 (api_Cell.mk (api_Prop.mk qx.Prop_.Name (api_Value.mk qx.Prop_.Value.Kind qx.Prop_.Value.Flag qx.Prop_.Value.Number qx.Prop_.Value.Words)) (api_Stamp.mk qx.Stamp.At qx.Stamp.By qx.Stamp.No)) (api_Cell.mk (api_Prop.mk qx1.Prop_.Name (api_Value.mk qx1.Prop_.Value.Kind qx1.Prop_.Value.Flag qx1.Prop_.Value.Number qx1.Prop_.Value.Words)) (api_Stamp.mk qx1.Stamp.At qx1.Stamp.By qx1.Stamp.No))).bind fun vr2 =>
  cond (vr2)
    ((z1185 (api_Cell.mk (api_Prop.mk qx.Prop_.Name (api_Value.mk qx.Prop_.Value.Kind qx.Prop_.Value.Flag qx.Prop_.Value.Number qx.Prop_.Value.Words)) (api_Stamp.mk qx.Stamp.At qx.Stamp.By qx.Stamp.No)) qx2).bind fun _ =>
    some (decide (qx.Stamp.At < qx2)))
    (some false)

noncomputable def z1289 (qx : api_Cell) (qx1 : api_Cell) (qx2 : Int) : Option (Bool) :=
  (z1292 qx qx1 qx2).bind fun vx1 =>
  some vx1

/-! ### slices.IndexFunc[[]beaconfleet/api.Cell,beaconfleet/api.Cell] -/
noncomputable def z624 (qs : List api_Cell) (qf : api_Cell) (qf1 : Int) (vx : Int) : Option ((Int) ⊕ (Unit ⊕ Int)) :=
  cond (decide (vx < (qs.length : Int)))
    ((at? qs vx).bind fun vy1 =>
    (z1289 (api_Cell.mk (api_Prop.mk vy1.Prop_.Name (api_Value.mk vy1.Prop_.Value.Kind vy1.Prop_.Value.Flag vy1.Prop_.Value.Number vy1.Prop_.Value.Words)) (api_Stamp.mk vy1.Stamp.At vy1.Stamp.By vy1.Stamp.No)) (api_Cell.mk (api_Prop.mk qf.Prop_.Name (api_Value.mk qf.Prop_.Value.Kind qf.Prop_.Value.Flag qf.Prop_.Value.Number qf.Prop_.Value.Words)) (api_Stamp.mk qf.Stamp.At qf.Stamp.By qf.Stamp.No)) qf1).bind fun vr1 =>
    cond (vr1)
      (some (.inr (.inr vx)))
      (some (.inl (IntKind.wrap .i64 (vx + 1)))))
    (some (.inr (.inl ())))

noncomputable def z621 (qs : List api_Cell) (qf : api_Cell) (qf1 : Int) : Option (Int) :=
  (loopO (z624 qs qf qf1) 0).bind fun x => match x with
    | .inl _ =>
      some (-1)
    | .inr vx1_1 =>
      some vx1_1

/-! ### slices.ContainsFunc[[]beaconfleet/api.Cell,beaconfleet/api.Cell] -/
noncomputable def z558 (qs : List api_Cell) (qf : api_Cell) (qf1 : Int) : Option (Bool) :=
  (z621 qs (api_Cell.mk (api_Prop.mk qf.Prop_.Name (api_Value.mk qf.Prop_.Value.Kind qf.Prop_.Value.Flag qf.Prop_.Value.Number qf.Prop_.Value.Words)) (api_Stamp.mk qf.Stamp.At qf.Stamp.By qf.Stamp.No)) qf1).bind fun vr2 =>
  some (decide (0 ≤ vr2))

/-! ### beaconfleet/twin.hidden -/
noncomputable def z1297 (ql : List api_Cell) (qy : api_Cell) (qcounts : Int) : Option (Bool) :=
  (z558 ql (api_Cell.mk (api_Prop.mk qy.Prop_.Name (api_Value.mk qy.Prop_.Value.Kind qy.Prop_.Value.Flag qy.Prop_.Value.Number qy.Prop_.Value.Words)) (api_Stamp.mk qy.Stamp.At qy.Stamp.By qy.Stamp.No)) qcounts).bind fun vr =>
  some vr

/-! ### beaconfleet/twin.Compact$2 -/
noncomputable def z1188 (qx : api_Cell) (qx1 : api_Cell) : Option (Bool) :=
  (z6 qx.Prop_.Name qx1.Prop_.Name).bind fun vr =>
  some vr

/-! ### slices.IndexFunc[[]beaconfleet/api.Cell,beaconfleet/api.Cell] -/
noncomputable def z608 (qs : List api_Cell) (qf : api_Cell) (vx : Int) : Option ((Int) ⊕ (Unit ⊕ Int)) :=
  cond (decide (vx < (qs.length : Int)))
    ((at? qs vx).bind fun vy1 =>
    (z1188 (api_Cell.mk (api_Prop.mk vy1.Prop_.Name (api_Value.mk vy1.Prop_.Value.Kind vy1.Prop_.Value.Flag vy1.Prop_.Value.Number vy1.Prop_.Value.Words)) (api_Stamp.mk vy1.Stamp.At vy1.Stamp.By vy1.Stamp.No)) (api_Cell.mk (api_Prop.mk qf.Prop_.Name (api_Value.mk qf.Prop_.Value.Kind qf.Prop_.Value.Flag qf.Prop_.Value.Number qf.Prop_.Value.Words)) (api_Stamp.mk qf.Stamp.At qf.Stamp.By qf.Stamp.No))).bind fun vr1_1 =>
    cond (vr1_1)
      (some (.inr (.inr vx)))
      (some (.inl (IntKind.wrap .i64 (vx + 1)))))
    (some (.inr (.inl ())))

noncomputable def z605 (qs : List api_Cell) (qf : api_Cell) : Option (Int) :=
  (loopO (z608 qs qf) 0).bind fun x => match x with
    | .inl _ =>
      some (-1)
    | .inr vx1_1 =>
      some vx1_1

/-! ### slices.ContainsFunc[[]beaconfleet/api.Cell,beaconfleet/api.Cell] -/
noncomputable def z552 (qs : List api_Cell) (qf : api_Cell) : Option (Bool) :=
  (z605 qs (api_Cell.mk (api_Prop.mk qf.Prop_.Name (api_Value.mk qf.Prop_.Value.Kind qf.Prop_.Value.Flag qf.Prop_.Value.Number qf.Prop_.Value.Words)) (api_Stamp.mk qf.Stamp.At qf.Stamp.By qf.Stamp.No))).bind fun vr =>
  some (decide (0 ≤ vr))

/-! ### beaconfleet/twin.Compact -/
noncomputable def z1198 (qx : List api_Cell) (qx1 : Int) (vx : List api_Cell) (vx1 : Int) : Option ((List api_Cell)) :=
  (at? qx vx1).bind fun vy1 =>
  (z1297 qx (api_Cell.mk (api_Prop.mk vy1.Prop_.Name (api_Value.mk vy1.Prop_.Value.Kind vy1.Prop_.Value.Flag vy1.Prop_.Value.Number vy1.Prop_.Value.Words)) (api_Stamp.mk vy1.Stamp.At vy1.Stamp.By vy1.Stamp.No)) qx1).bind fun vr1_1 =>
  cond (!vr1_1)
    (gd (Nat.ble (vx.length + ([api_Cell.mk (api_Prop.mk vy1.Prop_.Name (api_Value.mk vy1.Prop_.Value.Kind vy1.Prop_.Value.Flag vy1.Prop_.Value.Number vy1.Prop_.Value.Words)) (api_Stamp.mk vy1.Stamp.At vy1.Stamp.By vy1.Stamp.No)] : List api_Cell).length) LIM) <|
    some (vx ++ ([api_Cell.mk (api_Prop.mk vy1.Prop_.Name (api_Value.mk vy1.Prop_.Value.Kind vy1.Prop_.Value.Flag vy1.Prop_.Value.Number vy1.Prop_.Value.Words)) (api_Stamp.mk vy1.Stamp.At vy1.Stamp.By vy1.Stamp.No)] : List api_Cell)))
    (some vx)

noncomputable def z1193 (qx : List api_Cell) (qx1 : Int) : (List api_Cell) × Int → Option (((List api_Cell) × Int) ⊕ ((List api_Cell)))
  | (vx, vx1) =>
  cond (decide (vx1 < (qx.length : Int)))
    ((z1198 qx qx1 vx vx1).bind fun vx3_1 =>
    some (.inl (vx3_1, IntKind.wrap .i64 (vx1 + 1))))
    (some (.inr vx))

noncomputable def z1213 (qx1 : Int) (vx4_1 : List api_Cell) (vy3 : api_Cell) : Option (Bool) :=
  cond (!decide (vy3.Prop_.Value.Kind = 0))
    (some true)
    ((z1185 (api_Cell.mk (api_Prop.mk vy3.Prop_.Name (api_Value.mk vy3.Prop_.Value.Kind vy3.Prop_.Value.Flag vy3.Prop_.Value.Number vy3.Prop_.Value.Words)) (api_Stamp.mk vy3.Stamp.At vy3.Stamp.By vy3.Stamp.No)) qx1).bind fun _ =>
    cond (!(decide (vy3.Stamp.At < qx1)))
      (some true)
      ((z552 vx4_1 (api_Cell.mk (api_Prop.mk vy3.Prop_.Name (api_Value.mk vy3.Prop_.Value.Kind vy3.Prop_.Value.Flag vy3.Prop_.Value.Number vy3.Prop_.Value.Words)) (api_Stamp.mk vy3.Stamp.At vy3.Stamp.By vy3.Stamp.No))).bind fun vr1_3 =>
      some vr1_3))

noncomputable def z1208 (qx1 : Int) (vx4_1 : List api_Cell) (vx5 : List api_Cell) (vx6 : Int) : Option ((List api_Cell)) :=
  (at? vx4_1 vx6).bind fun vy3 =>
  (z1213 qx1 vx4_1 vy3).bind fun vx9_1 =>
  cond (vx9_1)
    (gd (Nat.ble (vx5.length + ([api_Cell.mk (api_Prop.mk vy3.Prop_.Name (api_Value.mk vy3.Prop_.Value.Kind vy3.Prop_.Value.Flag vy3.Prop_.Value.Number vy3.Prop_.Value.Words)) (api_Stamp.mk vy3.Stamp.At vy3.Stamp.By vy3.Stamp.No)] : List api_Cell).length) LIM) <|
    some (vx5 ++ ([api_Cell.mk (api_Prop.mk vy3.Prop_.Name (api_Value.mk vy3.Prop_.Value.Kind vy3.Prop_.Value.Flag vy3.Prop_.Value.Number vy3.Prop_.Value.Words)) (api_Stamp.mk vy3.Stamp.At vy3.Stamp.By vy3.Stamp.No)] : List api_Cell)))
    (some vx5)

noncomputable def z1203 (qx1 : Int) (vx4_1 : List api_Cell) : (List api_Cell) × Int → Option (((List api_Cell) × Int) ⊕ ((List api_Cell)))
  | (vx5, vx6) =>
  cond (decide (vx6 < (vx4_1.length : Int)))
    ((z1208 qx1 vx4_1 vx5 vx6).bind fun vx10_1 =>
    some (.inl (vx10_1, IntKind.wrap .i64 (vx6 + 1))))
    (some (.inr vx5))

noncomputable def z1184 (qx : List api_Cell) (qx1 : Int) : Option ((List api_Cell) × Int) :=
  (z1129 qx).bind fun vr6 =>
  cond (!decide (vr6 = 0))
    (some ([], vr6))
    ((base_Out qx1 0 345686400000).bind fun vr =>
    cond (vr)
      (some ([], 1))
      ((loopO (z1193 qx qx1) ([], 0)).bind fun vx4_1 =>
      (loopO (z1203 qx1 vx4_1) ([], 0)).bind fun vx11_1 =>
      some (vx11_1, 0)))

/-! ### beaconfleet/twin.Set -/
noncomputable def twin_Set (ql : List api_Cell) (qp : api_Prop) (qs : api_Stamp) : Option ((List api_Cell) × Int) :=
  (z1129 ql).bind fun vr6 =>
  (z1129 ([api_Cell.mk (api_Prop.mk qp.Name (api_Value.mk qp.Value.Kind qp.Value.Flag qp.Value.Number qp.Value.Words)) qs] : List api_Cell)).bind fun vr6_1 =>
  (z24 ([vr6, vr6_1] : List Int)).bind fun vr =>
  cond (!decide (vr = 0))
    (some ([], vr))
    (cond (decide (qp.Value.Kind = 0))
      (some ([], 4))
      ((z1352 ql ([api_Cell.mk (api_Prop.mk qp.Name (api_Value.mk qp.Value.Kind qp.Value.Flag qp.Value.Number qp.Value.Words)) qs] : List api_Cell)).bind fun (vr1, vr3) =>
      some (vr1, vr3)))

/-! ### beaconfleet/twin.find$1 -/
noncomputable def z1281 (qp : api_Prop) (qname : List UInt8) : Option (Unit) :=
  (z999 qp.Name qname).bind fun _ =>
  some ()

/-! ### slices.BinarySearchFunc[[]beaconfleet/api.Prop,beaconfleet/api.Prop,string] -/
noncomputable def z476 (qx : List api_Prop) (qtarget : List UInt8) : Int × Int → Option ((Int × Int) ⊕ (Int))
  | (vi, vj) =>
  cond (decide (vi < vj))
    ((at? qx (IntKind.wrap .i64 (ishr .u64 (IntKind.wrap .u64 (IntKind.wrap .i64 (vi + vj))) 1))).bind fun vy1 =>
    (z1281 (api_Prop.mk vy1.Name (api_Value.mk vy1.Value.Kind vy1.Value.Flag vy1.Value.Number vy1.Value.Words)) qtarget).bind fun _ =>
    cond (decide ((Lib.compareBytes vy1.Name qtarget) < 0))
      (some (.inl (IntKind.wrap .i64 ((IntKind.wrap .i64 (ishr .u64 (IntKind.wrap .u64 (IntKind.wrap .i64 (vi + vj))) 1)) + 1), vj)))
      (some (.inl (vi, IntKind.wrap .i64 (ishr .u64 (IntKind.wrap .u64 (IntKind.wrap .i64 (vi + vj))) 1)))))
    (some (.inr vi))

noncomputable def z481 (qx : List api_Prop) (qtarget : List UInt8) (vi1_1 : Int) : Option (Bool) :=
  cond (decide (vi1_1 < (qx.length : Int)))
    ((at? qx vi1_1).bind fun vy2 =>
    (z1281 (api_Prop.mk vy2.Name (api_Value.mk vy2.Value.Kind vy2.Value.Flag vy2.Value.Number vy2.Value.Words)) qtarget).bind fun _ =>
    some (decide ((Lib.compareBytes vy2.Name qtarget) = 0)))
    (some false)

noncomputable def z473 (qx : List api_Prop) (qtarget : List UInt8) : Option (Int × Bool) :=
  (loopO (z476 qx qtarget) (0, (qx.length : Int))).bind fun vi1_1 =>
  (z481 qx qtarget vi1_1).bind fun vx1 =>
  some (vi1_1, vx1)

/-! ### beaconfleet/twin.find -/
noncomputable def twin_find (ql : List api_Prop) (qname : List UInt8) : Option (Int) :=
  (z473 ql qname).bind fun (vr, vr1) =>
  cond (!vr1)
    (some (-1))
    (some vr)

/-! ### beaconfleet/twin.CheckProps$1 -/
noncomputable def z1151 (qs : List UInt8) (qx : List api_Prop) : Option (Bool) :=
  (twin_find qx qs).bind fun vr2 =>
  some (decide (0 ≤ vr2))

/-! ### beaconfleet/twin.above -/
noncomputable def z1273 (qname : List UInt8) (qf : List api_Prop) (vx : Int) : Option (Bool) :=
  (at? qname vx).bind fun vc1 =>
  cond (decide ((vc1.toNat : Int) = 46))
    ((sub? qname 0 vx).bind fun vs1 =>
    (z1151 vs1 qf).bind fun vr1 =>
    some vr1)
    (some false)

noncomputable def z1268 (qname : List UInt8) (qf : List api_Prop) (vx : Int) : Option ((Int) ⊕ (Unit ⊕ Unit)) :=
  cond (decide (vx < (qname.length : Int)))
    ((z1273 qname qf vx).bind fun vx2_1 =>
    cond (vx2_1)
      (some (.inr (.inr ())))
      (some (.inl (IntKind.wrap .i64 (vx + 1)))))
    (some (.inr (.inl ())))

noncomputable def z1265 (qname : List UInt8) (qf : List api_Prop) : Option (Bool) :=
  (loopO (z1268 qname qf) 0).bind fun x => match x with
    | .inl _ =>
      some false
    | .inr _ =>
      some true

/-! ### beaconfleet/twin.CheckProps -/
noncomputable def z1174 (ql : List api_Prop) (vx : Int) (vy2 : api_Prop) : Option (Bool) :=
  cond (decide (0 < vx))
    ((at? ql (IntKind.wrap .i64 (vx - 1))).bind fun vy3 =>
    some (Op.bytesLess vy2.Name vy3.Name || decide (vy2.Name = vy3.Name)))
    (some false)

noncomputable def z1169 (ql : List api_Prop) (vx : Int) : Option ((Int) ⊕ (Unit ⊕ Int)) :=
  cond (decide (vx < (ql.length : Int)))
    ((at? ql vx).bind fun vy2 =>
    (z1313 vy2.Name).bind fun vr1 =>
    cond (!vr1)
      (some (.inr (.inr 5)))
      ((z1397 (api_Value.mk vy2.Value.Kind vy2.Value.Flag vy2.Value.Number vy2.Value.Words)).bind fun vr2_1 =>
      cond (!decide (vr2_1 = 0))
        (some (.inr (.inr vr2_1)))
        (cond (decide (vy2.Value.Kind = 0))
          (some (.inr (.inr 4)))
          ((z1174 ql vx vy2).bind fun vx2_1 =>
          cond (vx2_1)
            (some (.inr (.inr 7)))
            (some (.inl (IntKind.wrap .i64 (vx + 1))))))))
    (some (.inr (.inl ())))

noncomputable def z1179 (ql : List api_Prop) (vx4 : Int) : Option ((Int) ⊕ (Unit ⊕ Unit)) :=
  cond (decide (vx4 < (ql.length : Int)))
    ((at? ql vx4).bind fun vy5 =>
    (z1265 vy5.Name ql).bind fun vr2_3 =>
    cond (vr2_3)
      (some (.inr (.inr ())))
      (some (.inl (IntKind.wrap .i64 (vx4 + 1)))))
    (some (.inr (.inl ())))

noncomputable def z1150 (ql : List api_Prop) : Option (Int) :=
  cond (decide (500 < (ql.length : Int)))
    (some 2)
    ((loopO (z1169 ql) 0).bind fun x => match x with
      | .inl _ =>
        (loopO (z1179 ql) 0).bind fun x => match x with
          | .inl _ =>
            some 0
          | .inr _ =>
            some 13
      | .inr vx3_1 =>
        some vx3_1)

/-! ### beaconfleet/twin.Under -/
noncomputable def z1260 (qname : List UInt8) (vy1 : api_Prop) : Option (Bool) :=
  cond (decide (vy1.Name = qname))
    (some true)
    ((z6 vy1.Name qname).bind fun vr2 =>
    some vr2)

noncomputable def z1255 (ql : List api_Prop) (qname : List UInt8) (vout : List api_Prop) (vx : Int) : Option ((List api_Prop)) :=
  (at? ql vx).bind fun vy1 =>
  (z1260 qname vy1).bind fun vx2_1 =>
  cond (vx2_1)
    (gd (Nat.ble (vout.length + ([api_Prop.mk vy1.Name (api_Value.mk vy1.Value.Kind vy1.Value.Flag vy1.Value.Number vy1.Value.Words)] : List api_Prop).length) LIM) <|
    some (vout ++ ([api_Prop.mk vy1.Name (api_Value.mk vy1.Value.Kind vy1.Value.Flag vy1.Value.Number vy1.Value.Words)] : List api_Prop)))
    (some vout)

noncomputable def z1250 (ql : List api_Prop) (qname : List UInt8) : (List api_Prop) × Int → Option (((List api_Prop) × Int) ⊕ ((List api_Prop)))
  | (vout, vx) =>
  cond (decide (vx < (ql.length : Int)))
    ((z1255 ql qname vout vx).bind fun vout2_1 =>
    some (.inl (vout2_1, IntKind.wrap .i64 (vx + 1))))
    (some (.inr vout))

noncomputable def z1247 (ql : List api_Prop) (qname : List UInt8) : Option ((List api_Prop) × Int) :=
  (z1150 ql).bind fun vr3 =>
  cond (!decide (vr3 = 0))
    (some ([], vr3))
    ((z1313 qname).bind fun vr =>
    cond (!vr)
      (some ([], 5))
      ((loopO (z1250 ql qname) ([], 0)).bind fun vout3_1 =>
      some (vout3_1, 0)))

/-! ### beaconfleet/fleetkeep2.spoil[beaconfleet/api.Prop] -/
noncomputable def z227 (ql : List api_Prop) : (List api_Prop) × Int → Option (((List api_Prop) × Int) ⊕ ((List api_Prop)))
  | (vl, vx) =>
  cond (decide (vx < (ql.length : Int)))
    ((at? vl vx).bind fun vy1 =>
    some (.inl (vl.set vx.toNat (api_Prop.mk ([] : List UInt8) (api_Value.mk 0 false 0 ([] : List UInt8))), IntKind.wrap .i64 (vx + 1))))
    (some (.inr vl))

noncomputable def z224 (ql : List api_Prop) : Option ((List api_Prop)) :=
  (loopO (z227 ql) (ql, 0)).bind fun vl1_1 =>
  some vl1_1

/-! ### beaconfleet/twin.CheckChanges -/
noncomputable def z1145 : Unit → Option ((Unit) ⊕ (Unit))
  | _ =>
  cond (decide ((0 : Int) < 0))
    (none)
    (some (.inr ()))

noncomputable def z1142 : Option (Int) :=
  cond (decide (1000 < (0 : Int)))
    (some 2)
    ((loopO z1145 ()).bind fun _ =>
    some 0)

/-! ### beaconfleet/twin.Apply$1 -/
noncomputable def z1103 (qa : api_Prop) (qb : api_Prop) : Option (Unit) :=
  (z999 qa.Name qb.Name).bind fun _ =>
  some ()

/-! ### slices.insertionSortCmpFunc[beaconfleet/api.Prop] -/
noncomputable def z743 (qa : Int) (vl3 : List api_Prop) (vj1 : Int) : Option (Bool) :=
  cond (decide (qa < vj1))
    ((at? vl3 vj1).bind fun vy15 =>
    (at? vl3 (IntKind.wrap .i64 (vj1 - 1))).bind fun vy16 =>
    (z1103 (api_Prop.mk vy15.Name (api_Value.mk vy15.Value.Kind vy15.Value.Flag vy15.Value.Number vy15.Value.Words)) (api_Prop.mk vy16.Name (api_Value.mk vy16.Value.Kind vy16.Value.Flag vy16.Value.Number vy16.Value.Words))).bind fun _ =>
    some (decide ((Lib.compareBytes vy15.Name vy16.Name) < 0)))
    (some false)

noncomputable def z738 (qa : Int) : (List api_Prop) × Int → Option (((List api_Prop) × Int) ⊕ ((List api_Prop)))
  | (vl3, vj1) =>
  (z743 qa vl3 vj1).bind fun vx4_1 =>
  cond (vx4_1)
    ((at? vl3 (IntKind.wrap .i64 (vj1 - 1))).bind fun vy17 =>
    (at? vl3 vj1).bind fun vy18 =>
    (at? (vl3.set vj1.toNat (api_Prop.mk vy17.Name (api_Value.mk vy17.Value.Kind vy17.Value.Flag vy17.Value.Number vy17.Value.Words))) (IntKind.wrap .i64 (vj1 - 1))).bind fun vy19 =>
    some (.inl ((vl3.set vj1.toNat (api_Prop.mk vy17.Name (api_Value.mk vy17.Value.Kind vy17.Value.Flag vy17.Value.Number vy17.Value.Words))).set (IntKind.wrap .i64 (vj1 - 1)).toNat (api_Prop.mk vy18.Name (api_Value.mk vy18.Value.Kind vy18.Value.Flag vy18.Value.Number vy18.Value.Words)), IntKind.wrap .i64 (vj1 - 1))))
    (some (.inr vl3))

noncomputable def z733 (qa : Int) (qb : Int) : (List api_Prop) × Int → Option (((List api_Prop) × Int) ⊕ ((List api_Prop)))
  | (vl, vi) =>
  cond (decide (vi < qb))
    ((loopO (z738 qa) (vl, vi)).bind fun vl4_1 =>
    some (.inl (vl4_1, IntKind.wrap .i64 (vi + 1))))
    (some (.inr vl))

noncomputable def z730 (qdata : List api_Prop) (qa : Int) (qb : Int) : Option ((List api_Prop)) :=
  (loopO (z733 qa qb) (qdata, IntKind.wrap .i64 (qa + 1))).bind fun vl5_1 =>
  some vl5_1

/-! ### slices.pdqsortCmpFunc[beaconfleet/api.Prop] -/
noncomputable def z785 (qx : List api_Prop) (qx1 : Int) (qx2 : Int) (qx3 : Int) : Unit → Option ((Unit) ⊕ ((List api_Prop)))
  | _ =>
  cond (decide ((IntKind.wrap .i64 (qx2 - qx1)) ≤ 12))
    ((z730 qx qx1 qx2).bind fun vl6_1 =>
    gd (vl6_1.length == qx.length) <|
    some (.inr vl6_1))
    (cond (decide (qx3 = 0))
      (none)
      (none))

noncomputable def z782 (qx : List api_Prop) (qx1 : Int) (qx2 : Int) (qx3 : Int) : Option ((List api_Prop)) :=
  (loopO (z785 qx qx1 qx2 qx3) ()).bind fun vl1 =>
  some vl1

/-! ### slices.SortFunc[[]beaconfleet/api.Prop,beaconfleet/api.Prop] -/
noncomputable def z667 (qx : List api_Prop) : Option ((List api_Prop)) :=
  (bits_Len (IntKind.wrap .u64 ((qx.length : Int)))).bind fun vr1 =>
  (z782 qx 0 (qx.length : Int) vr1).bind fun vl2 =>
  gd (vl2.length == qx.length) <|
  some vl2

/-! ### beaconfleet/twin.Apply -/
noncomputable def z1109 : Unit → Option ((Unit) ⊕ (Unit))
  | _ =>
  cond (decide ((0 : Int) < 0))
    (none)
    (some (.inr ()))

noncomputable def z1119 (qx : List api_Prop) (vx : List api_Prop) (vx1 : Int) : Option ((List api_Prop)) :=
  (at? qx vx1).bind fun vy1 =>
  (some ((aget ([] : List (List UInt8 × api_Value)) vy1.Name).getD (api_Value.mk 0 false 0 ([] : List UInt8)))).bind fun ve1 =>
  (some (aget ([] : List (List UInt8 × api_Value)) vy1.Name).isSome).bind fun vis1 =>
  cond (!vis1)
    (gd (Nat.ble (vx.length + ([api_Prop.mk vy1.Name (api_Value.mk vy1.Value.Kind vy1.Value.Flag vy1.Value.Number vy1.Value.Words)] : List api_Prop).length) LIM) <|
    some (vx ++ ([api_Prop.mk vy1.Name (api_Value.mk vy1.Value.Kind vy1.Value.Flag vy1.Value.Number vy1.Value.Words)] : List api_Prop)))
    (some vx)

noncomputable def z1114 (qx : List api_Prop) : (List api_Prop) × Int → Option (((List api_Prop) × Int) ⊕ ((List api_Prop)))
  | (vx, vx1) =>
  cond (decide (vx1 < (qx.length : Int)))
    ((z1119 qx vx vx1).bind fun vx3_1 =>
    some (.inl (vx3_1, IntKind.wrap .i64 (vx1 + 1))))
    (some (.inr vx))

noncomputable def z1124 : Unit → Option ((Unit) ⊕ (Unit))
  | _ =>
  cond (decide ((0 : Int) < 0))
    (none)
    (some (.inr ()))

noncomputable def z1106 (qx : List api_Prop) : Option ((List api_Prop) × Int) :=
  (z1150 qx).bind fun vr3 =>
  (z1142).bind fun vr =>
  (z24 ([vr3, vr] : List Int)).bind fun vr1 =>
  cond (!decide (vr1 = 0))
    (some ([], vr1))
    ((loopO z1109 ()).bind fun _ =>
    (loopO (z1114 qx) ([], 0)).bind fun vx4_1 =>
    (loopO z1124 ()).bind fun _ =>
    (z667 vx4_1).bind fun vl =>
    gd (vl.length == vx4_1.length) <|
    (z1150 vl).bind fun vr3_1 =>
    cond (!decide (vr3_1 = 0))
      (some ([], vr3_1))
      (some (vl, 0)))

/-! ### beaconfleet/twin.twinFault -/
noncomputable def z1394 (qt : api_Twin) : Option (Int) :=
  (z1129 qt.Desired).bind fun vr6 =>
  (z1129 qt.Reported).bind fun vr6_1 =>
  (z24 ([vr6, vr6_1] : List Int)).bind fun vr =>
  some vr

/-! ### beaconfleet/twin.Take$1 -/
noncomputable def z1236 (qx : api_Cell) (qx1 : api_Stamp) : Option (Bool) :=
  (z1278 (api_Stamp.mk qx.Stamp.At qx.Stamp.By qx.Stamp.No) qx1).bind fun vr3 =>
  some (decide (0 ≤ vr3))

/-! ### slices.IndexFunc[[]beaconfleet/api.Cell,beaconfleet/api.Cell] -/
noncomputable def z616 (qs : List api_Cell) (qf : api_Stamp) (vx : Int) : Option ((Int) ⊕ (Unit ⊕ Int)) :=
  cond (decide (vx < (qs.length : Int)))
    ((at? qs vx).bind fun vy1 =>
    (z1236 (api_Cell.mk (api_Prop.mk vy1.Prop_.Name (api_Value.mk vy1.Prop_.Value.Kind vy1.Prop_.Value.Flag vy1.Prop_.Value.Number vy1.Prop_.Value.Words)) (api_Stamp.mk vy1.Stamp.At vy1.Stamp.By vy1.Stamp.No)) qf).bind fun vr1 =>
    cond (vr1)
      (some (.inr (.inr vx)))
      (some (.inl (IntKind.wrap .i64 (vx + 1)))))
    (some (.inr (.inl ())))

noncomputable def z613 (qs : List api_Cell) (qf : api_Stamp) : Option (Int) :=
  (loopO (z616 qs qf) 0).bind fun x => match x with
    | .inl _ =>
      some (-1)
    | .inr vx1_1 =>
      some vx1_1

/-! ### slices.ContainsFunc[[]beaconfleet/api.Cell,beaconfleet/api.Cell] -/
noncomputable def z555 (qs : List api_Cell) (qf : api_Stamp) : Option (Bool) :=
  (z613 qs qf).bind fun vr2 =>
  some (decide (0 ≤ vr2))

/-! ### beaconfleet/twin.joined -/
noncomputable def z1326 (qx : List api_Cell) : Option (Bool) :=
  cond (decide (0 < (qx.length : Int)))
    (some (decide (0 < (0 : Int))))
    (some false)

noncomputable def z1321 (qx : List api_Cell) : Unit → Option ((Unit) ⊕ (Unit))
  | _ =>
  (z1326 qx).bind fun vx2_1 =>
  cond (vx2_1)
    ((at? qx 0).bind fun vy1 =>
    none)
    (some (.inr ()))

noncomputable def z1318 (qx : List api_Cell) : Option ((List api_Cell)) :=
  (loopO (z1321 qx) ()).bind fun _ =>
  (z539 ([[], qx, []] : List (List api_Cell))).bind fun vr1 =>
  some vr1

/-! ### beaconfleet/twin.merged -/
noncomputable def z1362 (vr : List api_Cell) : Option (Bool) :=
  cond (decide ((0 : Int) = 0))
    (some (decide (500 < (vr.length : Int))))
    (some false)

noncomputable def z1357 (vr : List api_Cell) : Option (Int) :=
  (z1362 vr).bind fun vx1 =>
  cond (vx1)
    (some 2)
    (some 0)

noncomputable def z1354 (qa : List api_Cell) : Option ((List api_Cell) × Int) :=
  (z1318 qa).bind fun vr =>
  (z1357 vr).bind fun ve1 =>
  cond (!decide (ve1 = 0))
    (some ([], ve1))
    (some (vr, 0))

/-! ### slices.Clone[[]beaconfleet/api.Cell,beaconfleet/api.Cell] -/
noncomputable def z494 (qs : List api_Cell) : Option (List api_Cell) :=
  gd (Nat.ble (([] : List api_Cell).length + qs.length) LIM) (some qs)

/-! ### beaconfleet/twin.Take -/
noncomputable def z1242 : Unit → Option ((Unit) ⊕ (Unit))
  | _ =>
  cond (decide ((0 : Int) < 0))
    (none)
    (some (.inr ()))

noncomputable def z1239 (qt : api_Twin) (qs : api_Stamp) : Option ((List api_Cell) × (List api_Cell) × Int) :=
  (z1394 qt).bind fun vr1 =>
  (z1142).bind fun vr =>
  (z1391 qs).bind fun vr3 =>
  (z24 ([vr1, vr, vr3] : List Int)).bind fun vr2 =>
  cond (!decide (vr2 = 0))
    (some ([], [], vr2))
    ((z555 qt.Reported qs).bind fun vr4 =>
    cond (vr4)
      (some ([], [], 7))
      ((loopO z1242 ()).bind fun _ =>
      (z1354 qt.Reported).bind fun (vr1_1, vr2_1) =>
      cond (!decide (vr2_1 = 0))
        (some ([], [], vr2_1))
        ((z494 qt.Desired).bind fun vr5 =>
        some (vr5, vr1_1, 0))))

/-! ### slices.Equal[[]beaconfleet/api.Cell,beaconfleet/api.Cell] -/
noncomputable def z576 (qs1 : List api_Cell) (vx : Int) : Option ((Int) ⊕ (Unit ⊕ Unit)) :=
  cond (decide (vx < (qs1.length : Int)))
    ((at? qs1 vx).bind fun vy1 =>
    cond (!((decide (vy1.Prop_.Name = vy1.Prop_.Name) && ((decide (vy1.Prop_.Value.Kind = vy1.Prop_.Value.Kind) && ((vy1.Prop_.Value.Flag == vy1.Prop_.Value.Flag) && (decide (vy1.Prop_.Value.Number = vy1.Prop_.Value.Number) && (decide (vy1.Prop_.Value.Words = vy1.Prop_.Value.Words) && true)))) && true)) && ((decide (vy1.Stamp.At = vy1.Stamp.At) && (decide (vy1.Stamp.By = vy1.Stamp.By) && (decide (vy1.Stamp.No = vy1.Stamp.No) && true))) && true)))
      (some (.inr (.inr ())))
      (some (.inl (IntKind.wrap .i64 (vx + 1)))))
    (some (.inr (.inl ())))

noncomputable def z573 (qs1 : List api_Cell) : Option (Bool) :=
  cond (!decide ((qs1.length : Int) = (qs1.length : Int)))
    (some false)
    ((loopO (z576 qs1) 0).bind fun x => match x with
      | .inl _ =>
        some true
      | .inr _ =>
        some false)

/-! ### slices.Equal[[]beaconfleet/api.Prop,beaconfleet/api.Prop] -/
noncomputable def z584 (qs1 : List api_Prop) (vx : Int) : Option ((Int) ⊕ (Unit ⊕ Unit)) :=
  cond (decide (vx < (qs1.length : Int)))
    ((at? qs1 vx).bind fun vy1 =>
    cond (!(decide (vy1.Name = vy1.Name) && ((decide (vy1.Value.Kind = vy1.Value.Kind) && ((vy1.Value.Flag == vy1.Value.Flag) && (decide (vy1.Value.Number = vy1.Value.Number) && (decide (vy1.Value.Words = vy1.Value.Words) && true)))) && true)))
      (some (.inr (.inr ())))
      (some (.inl (IntKind.wrap .i64 (vx + 1)))))
    (some (.inr (.inl ())))

noncomputable def z581 (qs1 : List api_Prop) : Option (Bool) :=
  cond (!decide ((qs1.length : Int) = (qs1.length : Int)))
    (some false)
    ((loopO (z584 qs1) 0).bind fun x => match x with
      | .inl _ =>
        some true
      | .inr _ =>
        some false)

/-! ### beaconfleet/twin.CheckProps -/
noncomputable def z1158 : Unit → Option ((Unit) ⊕ (Unit))
  | _ =>
  cond (decide ((0 : Int) < 0))
    (none)
    (some (.inr ()))

noncomputable def z1163 : Unit → Option ((Unit) ⊕ (Unit))
  | _ =>
  cond (decide ((0 : Int) < 0))
    (none)
    (some (.inr ()))

noncomputable def z1155 : Option (Int) :=
  cond (decide (500 < (0 : Int)))
    (some 2)
    ((loopO z1158 ()).bind fun _ =>
    (loopO z1163 ()).bind fun _ =>
    some 0)

/-! ### cmp.isNaN[string] -/
noncomputable def z164 (qx : List UInt8) : Option (Unit) :=
  some ()

/-! ### cmp.Less[string] -/
noncomputable def z148 (qx : List UInt8) (qy : List UInt8) : Option (Bool) :=
  (z164 qx).bind fun _ =>
  cond (!decide (qx = qx))
    ((z164 qy).bind fun _ =>
    cond (!(!decide (qy = qy)))
      (some true)
      (some (Op.bytesLess qx qy)))
    (some (Op.bytesLess qx qy))

noncomputable def z145 (qx : List UInt8) (qy : List UInt8) : Option (Bool) :=
  (z148 qx qy).bind fun vx1 =>
  some vx1

/-! ### slices.insertionSortOrdered[string] -/
noncomputable def z761 (qa : Int) (vl3 : List (List UInt8)) (vj1 : Int) : Option (Bool) :=
  cond (decide (qa < vj1))
    ((at? vl3 vj1).bind fun vy15 =>
    (at? vl3 (IntKind.wrap .i64 (vj1 - 1))).bind fun vy16 =>
    (z145 vy15 vy16).bind fun vr3 =>
    some vr3)
    (some false)

noncomputable def z756 (qa : Int) : (List (List UInt8)) × Int → Option (((List (List UInt8)) × Int) ⊕ ((List (List UInt8))))
  | (vl3, vj1) =>
  (z761 qa vl3 vj1).bind fun vx4_1 =>
  cond (vx4_1)
    ((at? vl3 (IntKind.wrap .i64 (vj1 - 1))).bind fun vy17 =>
    (at? vl3 vj1).bind fun vy18 =>
    (at? (vl3.set vj1.toNat vy17) (IntKind.wrap .i64 (vj1 - 1))).bind fun vy19 =>
    some (.inl ((vl3.set vj1.toNat vy17).set (IntKind.wrap .i64 (vj1 - 1)).toNat vy18, IntKind.wrap .i64 (vj1 - 1))))
    (some (.inr vl3))

noncomputable def z751 (qa : Int) (qb : Int) : (List (List UInt8)) × Int → Option (((List (List UInt8)) × Int) ⊕ ((List (List UInt8))))
  | (vl, vi) =>
  cond (decide (vi < qb))
    ((loopO (z756 qa) (vl, vi)).bind fun vl4_1 =>
    some (.inl (vl4_1, IntKind.wrap .i64 (vi + 1))))
    (some (.inr vl))

noncomputable def z748 (qdata : List (List UInt8)) (qa : Int) (qb : Int) : Option ((List (List UInt8))) :=
  (loopO (z751 qa qb) (qdata, IntKind.wrap .i64 (qa + 1))).bind fun vl5_1 =>
  some vl5_1

/-! ### slices.pdqsortOrdered[string] -/
noncomputable def z793 (qx : List (List UInt8)) (qx1 : Int) (qx2 : Int) (qx3 : Int) : Unit → Option ((Unit) ⊕ ((List (List UInt8))))
  | _ =>
  cond (decide ((IntKind.wrap .i64 (qx2 - qx1)) ≤ 12))
    ((z748 qx qx1 qx2).bind fun vl6_1 =>
    gd (vl6_1.length == qx.length) <|
    some (.inr vl6_1))
    (cond (decide (qx3 = 0))
      (none)
      (none))

noncomputable def z790 (qx : List (List UInt8)) (qx1 : Int) (qx2 : Int) (qx3 : Int) : Option ((List (List UInt8))) :=
  (loopO (z793 qx qx1 qx2 qx3) ()).bind fun vl1 =>
  some vl1

/-! ### slices.Sort[[]string,string] -/
noncomputable def z673 (qx : List (List UInt8)) : Option ((List (List UInt8))) :=
  (bits_Len (IntKind.wrap .u64 ((qx.length : Int)))).bind fun vr1 =>
  (z790 qx 0 (qx.length : Int) vr1).bind fun vl2 =>
  gd (vl2.length == qx.length) <|
  some vl2

/-! ### slices.Compact[[]string,string] -/
noncomputable def z534 (qs : List (List UInt8)) (vk : Int) (vl4 : List (List UInt8)) (vk6 : Int) (vk2_1 : Int) : Option (((List (List UInt8)) × Int)) :=
  gd (decide (0 ≤ vk) && decide (0 ≤ vk2_1) && decide (vk2_1 < (qs.length : Int) - vk)) <|
  (at? vl4 (vk + vk2_1)).bind fun vy13 =>
  gd (decide (0 ≤ vk) && decide (0 ≤ (IntKind.wrap .i64 (vk2_1 - 1))) && decide ((IntKind.wrap .i64 (vk2_1 - 1)) < (qs.length : Int) - vk)) <|
  (at? vl4 (vk + (IntKind.wrap .i64 (vk2_1 - 1)))).bind fun vy14 =>
  cond (!decide (vy13 = vy14))
    ((at? vl4 vk6).bind fun vy15 =>
    some (vl4.set vk6.toNat vy13, IntKind.wrap .i64 (vk6 + 1)))
    (some (vl4, vk6))

noncomputable def z529 (qs : List (List UInt8)) (vk : Int) : (List (List UInt8)) × Int × Int → Option (((List (List UInt8)) × Int × Int) ⊕ (((List (List UInt8)) × Int)))
  | (vl4, vk6, vk2_1) =>
  cond (decide (vk2_1 < (((qs.length : Int).toNat - vk.toNat : Nat) : Int)))
    ((z534 qs vk vl4 vk6 vk2_1).bind fun (vl6_1, vk8_1) =>
    some (.inl (vl6_1, vk8_1, IntKind.wrap .i64 (vk2_1 + 1))))
    (some (.inr (vl4, vk6)))

noncomputable def z524 (qs : List (List UInt8)) (vk : Int) : Option ((Int) ⊕ (Unit ⊕ (List (List UInt8)))) :=
  cond (decide (vk < (qs.length : Int)))
    ((at? qs vk).bind fun vy8 =>
    (at? qs (IntKind.wrap .i64 (vk - 1))).bind fun vy9 =>
    cond (decide (vy8 = vy9))
      (gd (decide (0 ≤ vk) && decide (vk ≤ (qs.length : Int)) && decide ((qs.length : Int) ≤ (qs.length : Int))) <|
      (loopO (z529 qs vk) (qs, vk, 1)).bind fun (vl7_1, vk9_1) =>
      gd (decide (0 ≤ vk9_1) && decide (vk9_1 ≤ (vl7_1.length : Int)) && decide ((vl7_1.length : Int) ≤ (vl7_1.length : Int))) <|
      gd (decide (0 ≤ vk9_1) && decide (vk9_1 ≤ ((vl7_1.take vk9_1.toNat ++ (List.replicate ((vl7_1.length : Int).toNat - vk9_1.toNat) ([] : List UInt8) ++ vl7_1.drop (vk9_1.toNat + ((vl7_1.length : Int).toNat - vk9_1.toNat)))).length : Int))) <|
      some (.inr (.inr ((vl7_1.take vk9_1.toNat ++ (List.replicate ((vl7_1.length : Int).toNat - vk9_1.toNat) ([] : List UInt8) ++ vl7_1.drop (vk9_1.toNat + ((vl7_1.length : Int).toNat - vk9_1.toNat)))).take vk9_1.toNat))))
      (some (.inl (IntKind.wrap .i64 (vk + 1)))))
    (some (.inr (.inl ())))

noncomputable def z521 (qs : List (List UInt8)) : Option ((List (List UInt8))) :=
  cond (decide ((qs.length : Int) < 2))
    (some qs)
    ((loopO (z524 qs) 1).bind fun x => match x with
      | .inl _ =>
        some qs
      | .inr vx1 =>
        some vx1)

/-! ### beaconfleet/twin.names -/
noncomputable def z1386 (vy3 : List api_Prop) : (List (List UInt8)) × Int → Option (((List (List UInt8)) × Int) ⊕ ((List (List UInt8))))
  | (vout3, vx2) =>
  cond (decide (vx2 < (vy3.length : Int)))
    ((at? vy3 vx2).bind fun vy5 =>
    gd (Nat.ble (vout3.length + ([vy5.Name] : List (List UInt8)).length) LIM) <|
    some (.inl (vout3 ++ ([vy5.Name] : List (List UInt8)), IntKind.wrap .i64 (vx2 + 1))))
    (some (.inr vout3))

noncomputable def z1381 (qlists : List (List api_Prop)) : (List (List UInt8)) × Int → Option (((List (List UInt8)) × Int) ⊕ ((List (List UInt8))))
  | (vout, vx) =>
  cond (decide (vx < (qlists.length : Int)))
    ((at? qlists vx).bind fun vy3 =>
    (loopO (z1386 vy3) (vout, 0)).bind fun vout4_1 =>
    some (.inl (vout4_1, IntKind.wrap .i64 (vx + 1))))
    (some (.inr vout))

noncomputable def z1378 (qlists : List (List api_Prop)) : Option ((List (List UInt8))) :=
  (loopO (z1381 qlists) ([], 0)).bind fun vout5_1 =>
  (z673 vout5_1).bind fun vl =>
  gd (vl.length == vout5_1.length) <|
  (z521 vl).bind fun vr =>
  some vr

/-! ### slices.BinarySearchFunc[[]beaconfleet/api.Prop,beaconfleet/api.Prop,string] -/
noncomputable def z489 : Unit → Option ((Unit) ⊕ (Unit))
  | _ =>
  cond (decide ((0 : Int) < 0))
    (none)
    (some (.inr ()))

noncomputable def z486 (qtarget : List UInt8) : Option (Unit) :=
  (loopO z489 ()).bind fun _ =>
  cond (decide ((0 : Int) < 0))
    (none)
    (some ())

/-! ### beaconfleet/twin.find -/
noncomputable def z1285 (qname : List UInt8) : Option (Unit) :=
  (z486 qname).bind fun _ =>
  some ()

/-! ### beaconfleet/twin.valueOf -/
noncomputable def z1407 (qname : List UInt8) : Option (Unit) :=
  (z1285 qname).bind fun _ =>
  cond (decide (0 ≤ ((-1) : Int)))
    (none)
    (some ())

/-! ### beaconfleet/twin.valueOf -/
noncomputable def z1405 (ql : List api_Prop) (qname : List UInt8) : Option (api_Value) :=
  (twin_find ql qname).bind fun vr2 =>
  cond (decide (0 ≤ vr2))
    ((at? ql vr2).bind fun vy =>
    some (api_Value.mk vy.Value.Kind vy.Value.Flag vy.Value.Number vy.Value.Words))
    (some (api_Value.mk 0 false 0 ([] : List UInt8)))

/-! ### beaconfleet/twin.Differ -/
noncomputable def z1226 (qb : List api_Prop) (vr1_1 : List (List UInt8)) (vout : List api_Change) (vx : Int) : Option ((List api_Change)) :=
  (at? vr1_1 vx).bind fun vy1 =>
  (z1407 vy1).bind fun _ =>
  (z1405 qb vy1).bind fun vr4 =>
  cond (!(decide ((0 : Int) = vr4.Kind) && ((false == vr4.Flag) && (decide ((0 : Int) = vr4.Number) && (decide (([] : List UInt8) = vr4.Words) && true)))))
    (gd (Nat.ble (vout.length + ([api_Change.mk vy1 (api_Value.mk 0 false 0 ([] : List UInt8)) vr4] : List api_Change).length) LIM) <|
    some (vout ++ ([api_Change.mk vy1 (api_Value.mk 0 false 0 ([] : List UInt8)) vr4] : List api_Change)))
    (some vout)

noncomputable def z1221 (qb : List api_Prop) (vr1_1 : List (List UInt8)) : (List api_Change) × Int → Option (((List api_Change) × Int) ⊕ ((List api_Change)))
  | (vout, vx) =>
  cond (decide (vx < (vr1_1.length : Int)))
    ((z1226 qb vr1_1 vout vx).bind fun vout2_1 =>
    some (.inl (vout2_1, IntKind.wrap .i64 (vx + 1))))
    (some (.inr vout))

noncomputable def z1218 (qb : List api_Prop) : Option ((List api_Change) × Int) :=
  (z1155).bind fun vr =>
  (z1150 qb).bind fun vr3 =>
  (z24 ([vr, vr3] : List Int)).bind fun vr1 =>
  cond (!decide (vr1 = 0))
    (some ([], vr1))
    ((z1378 ([[], qb] : List (List api_Prop))).bind fun vr1_1 =>
    (loopO (z1221 qb vr1_1) ([], 0)).bind fun vout3_1 =>
    some (vout3_1, 0))

/-! ### beaconfleet/series.byDevice -/
noncomputable def z438 (qa : api_Sample) (qb : api_Sample) : Option (Int) :=
  (z999 qa.Device qb.Device).bind fun _ =>
  (z999 qa.Metric qb.Metric).bind fun _ =>
  (z142 qa.At qb.At).bind fun vr =>
  (z153 ([Lib.compareBytes qa.Device qb.Device, Lib.compareBytes qa.Metric qb.Metric, vr] : List Int)).bind fun vr1 =>
  some vr1

/-! ### beaconfleet/series.Check -/
noncomputable def z420 (vy2 : api_Sample) : Option (Bool) :=
  (base_Key vy2.Device).bind fun vr3 =>
  cond (!vr3)
    (some true)
    ((base_Key vy2.Metric).bind fun vr4 =>
    some (!vr4))

noncomputable def z425 (vy2 : api_Sample) : Option (Bool) :=
  (z50 vy2.At).bind fun vr1_2 =>
  cond (!vr1_2)
    (some true)
    ((base_Out vy2.Value (-1000000000) 1000000000).bind fun vr5 =>
    some vr5)

noncomputable def z430 (ql : List api_Sample) (vx : Int) (vy2 : api_Sample) : Option (Bool) :=
  cond (decide (0 < vx))
    ((at? ql (IntKind.wrap .i64 (vx - 1))).bind fun vy3 =>
    (z438 vy2 vy3).bind fun vr2_2 =>
    some (decide (vr2_2 ≤ 0)))
    (some false)

noncomputable def z415 (ql : List api_Sample) (vx : Int) : Option ((Int) ⊕ (Unit ⊕ Int)) :=
  cond (decide (vx < (ql.length : Int)))
    ((at? ql vx).bind fun vy2 =>
    (z420 vy2).bind fun vx4_1 =>
    cond (vx4_1)
      (some (.inr (.inr 5)))
      ((z425 vy2).bind fun vx5_1 =>
      cond (vx5_1)
        (some (.inr (.inr 1)))
        ((z430 ql vx vy2).bind fun vx6_1 =>
        cond (vx6_1)
          (some (.inr (.inr 7)))
          (some (.inl (IntKind.wrap .i64 (vx + 1)))))))
    (some (.inr (.inl ())))

noncomputable def z401 (ql : List api_Sample) : Option (Int) :=
  cond (decide (5000 < (ql.length : Int)))
    (some 2)
    ((loopO (z415 ql) 0).bind fun x => match x with
      | .inl _ =>
        some 0
      | .inr vx7_1 =>
        some vx7_1)

/-! ### beaconfleet/series.CheckSeries$1 -/
noncomputable def z406 (qs : api_Sample) (qx : List api_Sample) : Option (Bool) :=
  (at? qx 0).bind fun vy =>
  cond (!decide (qs.Device = vy.Device))
    (some true)
    (some (!decide (qs.Metric = vy.Metric)))

noncomputable def z403 (qs : api_Sample) (qx : List api_Sample) : Option (Bool) :=
  (z406 qs qx).bind fun vx1 =>
  some vx1

/-! ### slices.IndexFunc[[]beaconfleet/api.Sample,beaconfleet/api.Sample] -/
noncomputable def z648 (qs : List api_Sample) (vx : Int) : Option ((Int) ⊕ (Unit ⊕ Int)) :=
  cond (decide (vx < (qs.length : Int)))
    ((at? qs vx).bind fun vy1 =>
    (z403 vy1 qs).bind fun vr1 =>
    cond (vr1)
      (some (.inr (.inr vx)))
      (some (.inl (IntKind.wrap .i64 (vx + 1)))))
    (some (.inr (.inl ())))

noncomputable def z645 (qs : List api_Sample) : Option (Int) :=
  (loopO (z648 qs) 0).bind fun x => match x with
    | .inl _ =>
      some (-1)
    | .inr vx1_1 =>
      some vx1_1

/-! ### slices.ContainsFunc[[]beaconfleet/api.Sample,beaconfleet/api.Sample] -/
noncomputable def z567 (qs : List api_Sample) : Option (Bool) :=
  (z645 qs).bind fun vr2 =>
  some (decide (0 ≤ vr2))

/-! ### beaconfleet/series.CheckSeries -/
noncomputable def z402 (ql : List api_Sample) : Option (Int) :=
  (z401 ql).bind fun vr6 =>
  cond (!decide (vr6 = 0))
    (some vr6)
    ((z567 ql).bind fun vr =>
    cond (vr)
      (some 13)
      (some 0))

/-! ### beaconfleet/series.seven -/
noncomputable def z460 : (List Int) × Int → Option (((List Int) × Int) ⊕ (((List Int) × Int)))
  | (vb, vn) =>
  cond (decide (128 ≤ vn))
    (gd (Nat.ble (vb.length + ([ibits .or .u8 (IntKind.wrap .u8 (ibits .and .u64 vn 127)) 128] : List Int).length) LIM) <|
    some (.inl (vb ++ ([ibits .or .u8 (IntKind.wrap .u8 (ibits .and .u64 vn 127)) 128] : List Int), ishr .u64 vn 7)))
    (some (.inr (vb, vn)))

noncomputable def z457 (qn : Int) : Option ((List Int)) :=
  (loopO z460 ([], qn)).bind fun (vb1_1, vn1_1) =>
  gd (Nat.ble (vb1_1.length + ([IntKind.wrap .u8 (vn1_1)] : List Int).length) LIM) <|
  some (vb1_1 ++ ([IntKind.wrap .u8 (vn1_1)] : List Int))

/-! ### beaconfleet/series.doubled -/
noncomputable def z441 (qn : Int) : Option (Int) :=
  cond (decide (qn < 0))
    (some (IntKind.wrap .u64 (IntKind.wrap .i64 ((IntKind.wrap .i64 (((-2) : Int) * qn)) - 1))))
    (some (IntKind.wrap .u64 (IntKind.wrap .i64 ((2 : Int) * qn))))

/-! ### beaconfleet/series.seven -/
noncomputable def z468 : (List Int) × Int → Option (((List Int) × Int) ⊕ (((List Int) × Int)))
  | (vb, vn) =>
  cond (decide (128 ≤ vn))
    (gd (Nat.ble (vb.length + ([ibits .or .u8 (IntKind.wrap .u8 (ibits .and .u64 vn 127)) 128] : List Int).length) LIM) <|
    some (.inl (vb ++ ([ibits .or .u8 (IntKind.wrap .u8 (ibits .and .u64 vn 127)) 128] : List Int), ishr .u64 vn 7)))
    (some (.inr (vb, vn)))

noncomputable def z465 (qb : List Int) (qn : Int) : Option ((List Int)) :=
  (loopO z468 (qb, qn)).bind fun (vb1_1, vn1_1) =>
  gd (Nat.ble (vb1_1.length + ([IntKind.wrap .u8 (vn1_1)] : List Int).length) LIM) <|
  some (vb1_1 ++ ([IntKind.wrap .u8 (vn1_1)] : List Int))

/-! ### beaconfleet/series.pack -/
noncomputable def z452 (vat : Int) (vby : Int) (vx : Int) (vy1 : api_Sample) : Option (Int) :=
  cond (decide (0 < vx))
    (some (IntKind.wrap .i64 (vy1.At - vat)))
    (some vby)

noncomputable def z447 (ql : List api_Sample) : (List Int) × Int × Int × Int × Int → Option (((List Int) × Int × Int × Int × Int) ⊕ ((List Int)))
  | (vout, vat, vby, vvalue, vx) =>
  cond (decide (vx < (ql.length : Int)))
    ((at? ql vx).bind fun vy1 =>
    (z441 (IntKind.wrap .i64 ((IntKind.wrap .i64 (vy1.At - vat)) - vby))).bind fun vr5 =>
    (z465 vout vr5).bind fun vr6 =>
    (z441 (IntKind.wrap .i64 (vy1.Value - vvalue))).bind fun vr7 =>
    (z465 vr6 vr7).bind fun vr8 =>
    (z452 vat vby vx vy1).bind fun vby2_1 =>
    some (.inl (vr8, vy1.At, vby2_1, vy1.Value, IntKind.wrap .i64 (vx + 1))))
    (some (.inr vout))

noncomputable def z444 (ql : List api_Sample) : Option ((List Int)) :=
  (z457 (IntKind.wrap .u64 ((ql.length : Int)))).bind fun vr =>
  (loopO (z447 ql) (vr, 0, 0, 0, 0)).bind fun vout1_1 =>
  some vout1_1

/-! ### beaconfleet/series.Pack -/
noncomputable def z435 (ql : List api_Sample) : Option ((List Int) × Int) :=
  (z402 ql).bind fun vr1 =>
  cond (!decide (vr1 = 0))
    (some ([], vr1))
    ((z444 ql).bind fun vr9 =>
    some (vr9, 0))

/-! ### internal/stringslite.TrimPrefix -/
noncomputable def z1100 (qs : List UInt8) (qprefix : List UInt8) : Option ((List UInt8)) :=
  (z1081 qs qprefix).bind fun vr =>
  cond (vr)
    ((sub? qs (qprefix.length : Int) (qs.length : Int)).bind fun vs =>
    some vs)
    (some qs)

/-! ### strings.TrimPrefix -/
noncomputable def z1031 (qs : List UInt8) (qprefix : List UInt8) : Option ((List UInt8)) :=
  (z1100 qs qprefix).bind fun vr1 =>
  some vr1

/-! ### internal/strconv.lower -/
noncomputable def z958 (qc : Int) : Option (Unit) :=
  some ()

/-! ### internal/strconv.underscoreOK -/
noncomputable def z969 (qx : List UInt8) : Option (Bool) :=
  cond (decide (1 ≤ (qx.length : Int)))
    ((at? qx 0).bind fun vc =>
    cond (decide ((vc.toNat : Int) = 45))
      (some true)
      (some (decide ((vc.toNat : Int) = 43))))
    (some false)

noncomputable def z964 (qx : List UInt8) : Option ((List UInt8)) :=
  (z969 qx).bind fun vx1 =>
  cond (vx1)
    ((sub? qx 1 (qx.length : Int)).bind fun vs =>
    some vs)
    (some qx)

noncomputable def z979 (vx2_1 : List UInt8) : Option (Bool) :=
  cond (decide (2 ≤ (vx2_1.length : Int)))
    ((at? vx2_1 0).bind fun vc1 =>
    cond (decide ((vc1.toNat : Int) = 48))
      ((at? vx2_1 1).bind fun vc2 =>
      (z958 (vc2.toNat : Int)).bind fun _ =>
      cond (decide ((ibits .or .u8 (vc2.toNat : Int) 32) = 98))
        (some true)
        (cond (decide ((ibits .or .u8 (vc2.toNat : Int) 32) = 111))
          (some true)
          (some (decide ((ibits .or .u8 (vc2.toNat : Int) 32) = 120)))))
      (some false))
    (some false)

noncomputable def z974 (vx2_1 : List UInt8) : Option ((Int × Int × Bool)) :=
  (z979 vx2_1).bind fun vx3_1 =>
  cond (vx3_1)
    ((at? vx2_1 1).bind fun vc3 =>
    (z958 (vc3.toNat : Int)).bind fun _ =>
    some (48, 2, decide ((ibits .or .u8 (vc3.toNat : Int) 32) = 120)))
    (some (94, 0, false))

noncomputable def z994 (vx2_1 : List UInt8) (vx6_1 : Bool) (vx8 : Int) : Option (Bool) :=
  (at? vx2_1 vx8).bind fun vc6 =>
  cond (decide ((48 : Int) ≤ (vc6.toNat : Int)))
    (cond (decide ((vc6.toNat : Int) ≤ 57))
      (some true)
      (cond (vx6_1)
        ((z958 (vc6.toNat : Int)).bind fun _ =>
        cond (decide ((97 : Int) ≤ (ibits .or .u8 (vc6.toNat : Int) 32)))
          (some (decide ((ibits .or .u8 (vc6.toNat : Int) 32) ≤ 102)))
          (some false))
        (some false)))
    (cond (vx6_1)
      ((z958 (vc6.toNat : Int)).bind fun _ =>
      cond (decide ((97 : Int) ≤ (ibits .or .u8 (vc6.toNat : Int) 32)))
        (some (decide ((ibits .or .u8 (vc6.toNat : Int) 32) ≤ 102)))
        (some false))
      (some false))

noncomputable def z989 (vx2_1 : List UInt8) (vx6_1 : Bool) (vx7 : Int) (vx8 : Int) : Option (Int ⊕ Unit) :=
  (z994 vx2_1 vx6_1 vx8).bind fun vx11_1 =>
  cond (vx11_1)
    (some (.inl 48))
    ((at? vx2_1 vx8).bind fun vc7 =>
    cond (decide ((vc7.toNat : Int) = 95))
      (cond (!decide (vx7 = 48))
        (some (.inr ()))
        (some (.inl 95)))
      (cond (decide (vx7 = 95))
        (some (.inr ()))
        (some (.inl 33))))

noncomputable def z984 (vx2_1 : List UInt8) (vx6_1 : Bool) : Int × Int → Option ((Int × Int) ⊕ (Int ⊕ Unit))
  | (vx7, vx8) =>
  cond (decide (vx8 < (vx2_1.length : Int)))
    ((z989 vx2_1 vx6_1 vx7 vx8).bind fun x => match x with
      | .inl vx12_1 =>
        some (.inl (vx12_1, IntKind.wrap .i64 (vx8 + 1)))
      | .inr _ =>
        some (.inr (.inr ())))
    (some (.inr (.inl vx7)))

noncomputable def z961 (qx : List UInt8) : Option (Bool) :=
  (z964 qx).bind fun vx2_1 =>
  (z974 vx2_1).bind fun (vx4_1, vx5_1, vx6_1) =>
  (loopO (z984 vx2_1 vx6_1) (vx4_1, vx5_1)).bind fun x => match x with
    | .inl vx13_1 =>
      some (!decide (vx13_1 = 95))
    | .inr _ =>
      some false

/-! ### internal/strconv.ParseUint -/
noncomputable def z918 (qx1 : Int) : Option (Bool) :=
  cond (decide ((2 : Int) ≤ qx1))
    (some (decide (qx1 ≤ 36)))
    (some false)

noncomputable def z923 (qx : List UInt8) : Option (Bool) :=
  cond (decide (3 ≤ (qx.length : Int)))
    ((at? qx 1).bind fun vc1 =>
    (z958 (vc1.toNat : Int)).bind fun _ =>
    some (decide ((ibits .or .u8 (vc1.toNat : Int) 32) = 98)))
    (some false)

noncomputable def z928 (qx : List UInt8) : Option (Bool) :=
  cond (decide (3 ≤ (qx.length : Int)))
    ((at? qx 1).bind fun vc2 =>
    (z958 (vc2.toNat : Int)).bind fun _ =>
    some (decide ((ibits .or .u8 (vc2.toNat : Int) 32) = 111)))
    (some false)

noncomputable def z933 (qx : List UInt8) : Option (Bool) :=
  cond (decide (3 ≤ (qx.length : Int)))
    ((at? qx 1).bind fun vc3 =>
    (z958 (vc3.toNat : Int)).bind fun _ =>
    some (decide ((ibits .or .u8 (vc3.toNat : Int) 32) = 120)))
    (some false)

noncomputable def z878 (qx : List UInt8) (qx1 : Int) : Option (((List UInt8) × Int)) :=
  (z918 qx1).bind fun vx1 =>
  cond (vx1)
    (some (qx, qx1))
    (cond (decide (qx1 = 0))
      ((at? qx 0).bind fun vc =>
      cond (decide ((vc.toNat : Int) = 48))
        ((z923 qx).bind fun vx2_1 =>
        cond (vx2_1)
          ((sub? qx 2 (qx.length : Int)).bind fun vs =>
          some (vs, 2))
          ((z928 qx).bind fun vx3_1 =>
          cond (vx3_1)
            ((sub? qx 2 (qx.length : Int)).bind fun vs1 =>
            some (vs1, 8))
            ((z933 qx).bind fun vx4_1 =>
            cond (vx4_1)
              ((sub? qx 2 (qx.length : Int)).bind fun vs2 =>
              some (vs2, 16))
              ((sub? qx 1 (qx.length : Int)).bind fun vs3 =>
              some (vs3, 8)))))
        (some (qx, 10)))
      (none))

noncomputable def z943 (qx2 : Int) : Option (Bool) :=
  cond (decide (qx2 < 0))
    (some true)
    (some (decide (64 < qx2)))

noncomputable def z938 (qx2 : Int) : Option (Int) :=
  cond (decide (qx2 = 0))
    (some 64)
    ((z943 qx2).bind fun vx7_1 =>
    cond (vx7_1)
      (none)
      (some qx2))

noncomputable def z948 (vx6_1 : Int) : Option (Int) :=
  cond (decide (vx6_1 = 10))
    (some 1844674407370955162)
    (cond (decide (vx6_1 = 16))
      (some 1152921504606846976)
      (gd (!((IntKind.wrap .u64 (vx6_1)) == 0)) <|
      some (IntKind.wrap .u64 ((IntKind.wrap .u64 ((18446744073709551615 : Int).tdiv (IntKind.wrap .u64 (vx6_1)))) + 1))))

noncomputable def z889 (qx1 : Int) (vy1 : Int) : Option (Bool) :=
  cond (decide (vy1 = 95))
    (some (decide (qx1 = 0)))
    (some false)

noncomputable def z894 (vy1 : Int) : Option (Bool) :=
  cond (decide ((48 : Int) ≤ vy1))
    (some (decide (vy1 ≤ 57)))
    (some false)

noncomputable def z899 (vy1 : Int) : Option (Bool) :=
  (z958 vy1).bind fun _ =>
  cond (decide ((97 : Int) ≤ (ibits .or .u8 vy1 32)))
    (some (decide ((ibits .or .u8 vy1 32) ≤ 122)))
    (some false)

noncomputable def z884 (qx1 : Int) (vy1 : Int) : Option (Int ⊕ Unit) :=
  (z889 qx1 vy1).bind fun vx20_1 =>
  cond (vx20_1)
    (some (.inr ()))
    ((z894 vy1).bind fun vx21_1 =>
    cond (vx21_1)
      (some (.inl (IntKind.wrap .u8 (vy1 - 48))))
      ((z899 vy1).bind fun vx22_1 =>
      cond (vx22_1)
        ((z958 vy1).bind fun _ =>
        some (.inl (IntKind.wrap .u8 ((IntKind.wrap .u8 ((ibits .or .u8 vy1 32) - 97)) + 10))))
        (none)))

noncomputable def z904 (vx6_1 : Int) (vx8_1 : Int) (vx11 : Int) (vx23_1 : Int) : Option (Bool) :=
  cond (decide ((IntKind.wrap .u64 ((IntKind.wrap .u64 (vx11 * (IntKind.wrap .u64 (vx6_1)))) + (IntKind.wrap .u64 (vx23_1)))) < (IntKind.wrap .u64 (vx11 * (IntKind.wrap .u64 (vx6_1))))))
    (some true)
    (some (decide ((IntKind.wrap .u64 ((ishl .u64 1 (IntKind.wrap .u64 (vx8_1))) - 1)) < (IntKind.wrap .u64 ((IntKind.wrap .u64 (vx11 * (IntKind.wrap .u64 (vx6_1)))) + (IntKind.wrap .u64 (vx23_1)))))))

noncomputable def z879 (qx1 : Int) (vx5_1 : List UInt8) (vx6_1 : Int) (vx8_1 : Int) (vx9_1 : Int) (vx10 : Bool) (vx11 : Int) (vx12 : Int) : Option ((Bool × Int)) :=
  (at? (bytesD vx5_1) vx12).bind fun vy1 =>
  (z884 qx1 vy1).bind fun x => match x with
    | .inl vx23_1 =>
      cond (decide ((IntKind.wrap .u8 (vx6_1)) ≤ vx23_1))
        (none)
        (cond (decide (vx9_1 ≤ vx11))
          (none)
          ((z904 vx6_1 vx8_1 vx11 vx23_1).bind fun vx24_1 =>
          cond (vx24_1)
            (none)
            (some (vx10, IntKind.wrap .u64 ((IntKind.wrap .u64 (vx11 * (IntKind.wrap .u64 (vx6_1)))) + (IntKind.wrap .u64 (vx23_1)))))))
    | .inr _ =>
      some (true, vx11)

noncomputable def z953 (qx1 : Int) (vx5_1 : List UInt8) (vx6_1 : Int) (vx8_1 : Int) (vx9_1 : Int) : Bool × Int × Int → Option ((Bool × Int × Int) ⊕ ((Bool × Int)))
  | (vx10, vx11, vx12) =>
  cond (decide (vx12 < ((bytesD vx5_1).length : Int)))
    ((z879 qx1 vx5_1 vx6_1 vx8_1 vx9_1 vx10 vx11 vx12).bind fun (vx25_1, vx26_1) =>
    some (.inl (vx25_1, vx26_1, IntKind.wrap .i64 (vx12 + 1))))
    (some (.inr (vx10, vx11)))

noncomputable def z909 (qx : List UInt8) (vx27_1 : Bool) : Option (Bool) :=
  cond (vx27_1)
    ((z961 qx).bind fun vr =>
    some (!vr))
    (some false)

noncomputable def z875 (qx : List UInt8) (qx1 : Int) (qx2 : Int) : Option (Int) :=
  cond (decide (qx = ([] : List UInt8)))
    (none)
    ((z878 qx qx1).bind fun (vx5_1, vx6_1) =>
    (z938 qx2).bind fun vx8_1 =>
    (z948 vx6_1).bind fun vx9_1 =>
    gd (decide (0 ≤ (IntKind.wrap .u64 (vx8_1)))) <|
    (loopO (z953 qx1 vx5_1 vx6_1 vx8_1 vx9_1) (false, 0, 0)).bind fun (vx27_1, vx28_1) =>
    (z909 qx vx27_1).bind fun vx29_1 =>
    cond (vx29_1)
      (none)
      (some vx28_1))

/-! ### internal/strconv.ParseInt -/
noncomputable def z850 (qx : List UInt8) : Option (((List UInt8) × Bool)) :=
  (at? qx 0).bind fun vc =>
  cond (decide ((vc.toNat : Int) = 43))
    ((sub? qx 1 (qx.length : Int)).bind fun vs =>
    some (vs, false))
    (cond (decide ((vc.toNat : Int) = 45))
      ((sub? qx 1 (qx.length : Int)).bind fun vs1 =>
      some (vs1, true))
      (some (qx, false)))

noncomputable def z855 (qx2 : Int) : Option (Int) :=
  cond (decide (qx2 = 0))
    (some 64)
    (some qx2)

noncomputable def z860 (vx1_1 : Bool) (vr1 : Int) (vx3_1 : Int) : Option (Bool) :=
  cond (!vx1_1)
    (some (decide ((ishl .u64 1 (IntKind.wrap .u64 (IntKind.wrap .i64 (vx3_1 - 1)))) ≤ vr1)))
    (some false)

noncomputable def z865 (vx1_1 : Bool) (vr1 : Int) (vx3_1 : Int) : Option (Bool) :=
  cond (vx1_1)
    (some (decide ((ishl .u64 1 (IntKind.wrap .u64 (IntKind.wrap .i64 (vx3_1 - 1)))) < vr1)))
    (some false)

noncomputable def z870 (vx1_1 : Bool) (vr1 : Int) : Option (Int) :=
  cond (vx1_1)
    (some (IntKind.wrap .i64 (0 - (IntKind.wrap .i64 (vr1)))))
    (some (IntKind.wrap .i64 (vr1)))

noncomputable def z847 (qx : List UInt8) (qx1 : Int) (qx2 : Int) : Option (Int) :=
  cond (decide (qx = ([] : List UInt8)))
    (none)
    ((z850 qx).bind fun (vx2, vx1_1) =>
    (z875 vx2 qx1 qx2).bind fun vr1 =>
    (z855 qx2).bind fun vx3_1 =>
    gd (decide (0 ≤ (IntKind.wrap .u64 (IntKind.wrap .i64 (vx3_1 - 1))))) <|
    (z860 vx1_1 vr1 vx3_1).bind fun vx4_1 =>
    cond (vx4_1)
      (none)
      ((z865 vx1_1 vr1 vx3_1).bind fun vx5_1 =>
      cond (vx5_1)
        (none)
        ((z870 vx1_1 vr1).bind fun vx6_1 =>
        some vx6_1)))

/-! ### internal/strconv.Atoi -/
noncomputable def z820 (qx : List UInt8) : Option (Bool) :=
  cond (decide ((0 : Int) < (qx.length : Int)))
    (some (decide ((qx.length : Int) < 19)))
    (some false)

noncomputable def z830 (qx : List UInt8) : Option (Bool) :=
  (at? qx 0).bind fun vc =>
  cond (decide ((vc.toNat : Int) = 45))
    (some true)
    (some (decide ((vc.toNat : Int) = 43)))

noncomputable def z825 (qx : List UInt8) : Option ((List UInt8)) :=
  (z830 qx).bind fun vx2_1 =>
  cond (vx2_1)
    ((sub? qx 1 (qx.length : Int)).bind fun vs =>
    cond (decide ((vs.length : Int) < 1))
      (none)
      (some vs))
    (some qx)

noncomputable def z835 (vx3_1 : List UInt8) : Int × Int → Option ((Int × Int) ⊕ (Int))
  | (vx4, vx5) =>
  cond (decide (vx5 < ((bytesD vx3_1).length : Int)))
    ((at? (bytesD vx3_1) vx5).bind fun vy1 =>
    cond (decide (9 < (IntKind.wrap .u8 (vy1 - 48))))
      (none)
      (some (.inl (IntKind.wrap .i64 ((IntKind.wrap .i64 (vx4 * 10)) + (IntKind.wrap .i64 (IntKind.wrap .u8 (vy1 - 48)))), IntKind.wrap .i64 (vx5 + 1)))))
    (some (.inr vx4))

noncomputable def z840 (qx : List UInt8) (vx6_1 : Int) : Option (Int) :=
  (at? qx 0).bind fun vc1 =>
  cond (decide ((vc1.toNat : Int) = 45))
    (some (IntKind.wrap .i64 (0 - vx6_1)))
    (some vx6_1)

noncomputable def z817 (qx : List UInt8) : Option (Int) :=
  (z820 qx).bind fun vx1 =>
  cond (vx1)
    ((z825 qx).bind fun vx3_1 =>
    (loopO (z835 vx3_1) (0, 0)).bind fun vx6_1 =>
    (z840 qx vx6_1).bind fun vx7_1 =>
    some vx7_1)
    ((z847 qx 10 0).bind fun vr =>
    some vr)

/-! ### strconv.Atoi -/
noncomputable def z816 (qs : List UInt8) : Option (Int) :=
  (z817 qs).bind fun vr1 =>
  some vr1

/-! ### beaconfleet/base.Number -/
noncomputable def z57 (qs : List UInt8) (qdigits : Int) (vr : List UInt8) : Option (Bool) :=
  cond (decide (vr = ([] : List UInt8)))
    (some true)
    (cond (decide (qdigits < (vr.length : Int)))
      (some true)
      ((at? vr 0).bind fun vc =>
      cond (decide ((vc.toNat : Int) = 48))
        (cond (decide (1 < (vr.length : Int)))
          (some true)
          (some (decide ((vr.length : Int) < (qs.length : Int)))))
        (some false)))

noncomputable def z67 (vr : List UInt8) (vx2 : Int) : Option (Bool) :=
  (at? vr vx2).bind fun vc2 =>
  cond (decide ((vc2.toNat : Int) < 48))
    (some true)
    (some (decide (57 < (vc2.toNat : Int))))

noncomputable def z62 (vr : List UInt8) (vx2 : Int) : Option ((Int) ⊕ (Unit ⊕ Unit)) :=
  cond (decide (vx2 < (vr.length : Int)))
    ((z67 vr vx2).bind fun vx4_1 =>
    cond (vx4_1)
      (some (.inr (.inr ())))
      (some (.inl (IntKind.wrap .i64 (vx2 + 1)))))
    (some (.inr (.inl ())))

noncomputable def z54 (qs : List UInt8) (qdigits : Int) : Option (Int × Bool) :=
  (z1031 qs ([45] : List UInt8)).bind fun vr =>
  (z57 qs qdigits vr).bind fun vx1 =>
  cond (vx1)
    (some (0, false))
    ((loopO (z62 vr) 0).bind fun x => match x with
      | .inl _ =>
        (z816 qs).bind fun vr1 =>
        some (vr1, true)
      | .inr _ =>
        some (0, false))

/-! ### beaconfleet/base.Numbers -/
noncomputable def z75 (qwords : List (List UInt8)) (qdigits : Int) : (List Int) × Int → Option (((List Int) × Int) ⊕ ((List Int) ⊕ Unit))
  | (vout, vx) =>
  cond (decide (vx < (qwords.length : Int)))
    ((at? qwords vx).bind fun vy1 =>
    (z54 vy1 qdigits).bind fun (vr2_1, vr3_1) =>
    cond (!vr3_1)
      (some (.inr (.inr ())))
      (gd (Nat.ble (vout.length + ([vr2_1] : List Int).length) LIM) <|
      some (.inl (vout ++ ([vr2_1] : List Int), IntKind.wrap .i64 (vx + 1)))))
    (some (.inr (.inl vout)))

noncomputable def z72 (qwords : List (List UInt8)) (qdigits : Int) : Option ((List Int) × Bool) :=
  (loopO (z75 qwords qdigits) ([], 0)).bind fun x => match x with
    | .inl vout1_1 =>
      some (vout1_1, true)
    | .inr _ =>
      some ([], false)

/-! ### beaconfleet/base.Version -/
noncomputable def z103 (qv : api_Version) : Option (Bool) :=
  (base_Out qv.Major 0 9999).bind fun vr =>
  cond (!vr)
    ((base_Out qv.Minor 0 9999).bind fun vr1 =>
    cond (!vr1)
      ((base_Out qv.Patch 0 9999).bind fun vr2 =>
      some (!vr2))
      (some false))
    (some false)

noncomputable def z100 (qv : api_Version) : Option (Bool) :=
  (z103 qv).bind fun vx1 =>
  some vx1

/-! ### beaconfleet/campaign.ParseVersion -/
noncomputable def z135 (vr : List Int) (vr1_1 : Bool) : Option (Bool) :=
  cond (!vr1_1)
    (some true)
    (some (!decide ((vr.length : Int) = 3)))

noncomputable def z132 (qs : List UInt8) : Option (api_Version × Int) :=
  (z1028 qs ([46] : List UInt8)).bind fun vr1 =>
  (z72 vr1 4).bind fun (vr, vr1_1) =>
  (z135 vr vr1_1).bind fun vx1 =>
  cond (vx1)
    (some (api_Version.mk 0 0 0, 9))
    ((at? vr 0).bind fun vy =>
    (at? vr 1).bind fun vy1 =>
    (at? vr 2).bind fun vy2 =>
    (z100 (api_Version.mk vy vy1 vy2)).bind fun vr3 =>
    cond (!vr3)
      (some (api_Version.mk 0 0 0, 9))
      (some (api_Version.mk vy vy1 vy2, 0)))

/-! ### beaconfleet/place.isSpot -/
noncomputable def z396 (qs : api_Spot) : Option (Bool) :=
  (base_Out qs.X (-10000) 10000).bind fun vr =>
  cond (!vr)
    ((base_Out qs.Y (-10000) 10000).bind fun vr1 =>
    some (!vr1))
    (some false)

noncomputable def z393 (qs : api_Spot) : Option (Bool) :=
  (z396 qs).bind fun vx1 =>
  some vx1

/-! ### beaconfleet/place.Cell -/
noncomputable def z383 (qs : api_Spot) (qlevel : Int) : Option (Bool) :=
  (z393 qs).bind fun vr2 =>
  cond (!vr2)
    (some true)
    ((base_Out qlevel 0 15).bind fun vr =>
    some vr)

noncomputable def z388 (qs : api_Spot) (qlevel : Int) : (List Int) × Int × Int → Option (((List Int) × Int × Int) ⊕ ((List Int)))
  | (vout, vlong, vx2) =>
  cond (decide (vx2 < qlevel))
    (gd (!((IntKind.wrap .i64 (vlong.tdiv 2)) == 0)) <|
    gd (Nat.ble (vout.length + ([IntKind.wrap .u8 ((IntKind.wrap .u8 ((48 : Int) + (IntKind.wrap .u8 ((IntKind.wrap .i64 ((IntKind.wrap .i64 (qs.X - (-16384))).tdiv (IntKind.wrap .i64 (vlong.tdiv 2)))).tmod 2)))) + (IntKind.wrap .u8 ((2 : Int) * (IntKind.wrap .u8 ((IntKind.wrap .i64 ((IntKind.wrap .i64 (qs.Y - (-16384))).tdiv (IntKind.wrap .i64 (vlong.tdiv 2)))).tmod 2)))))] : List Int).length) LIM) <|
    some (.inl (vout ++ ([IntKind.wrap .u8 ((IntKind.wrap .u8 ((48 : Int) + (IntKind.wrap .u8 ((IntKind.wrap .i64 ((IntKind.wrap .i64 (qs.X - (-16384))).tdiv (IntKind.wrap .i64 (vlong.tdiv 2)))).tmod 2)))) + (IntKind.wrap .u8 ((2 : Int) * (IntKind.wrap .u8 ((IntKind.wrap .i64 ((IntKind.wrap .i64 (qs.Y - (-16384))).tdiv (IntKind.wrap .i64 (vlong.tdiv 2)))).tmod 2)))))] : List Int), IntKind.wrap .i64 (vlong.tdiv 2), IntKind.wrap .i64 (vx2 + 1))))
    (some (.inr vout))

noncomputable def z380 (qs : api_Spot) (qlevel : Int) : Option ((List UInt8) × Int) :=
  (z383 qs qlevel).bind fun vx1 =>
  cond (vx1)
    (some (([] : List UInt8), 1))
    ((loopO (z388 qs qlevel) ([], 32768, 0)).bind fun vout1_1 =>
    some (vout1_1.map fun n => UInt8.ofNat n.toNat, 0))

/-! ### beaconfleet/command.CheckLetter -/
noncomputable def z170 (ql : api_Letter) : Option (Bool) :=
  (base_Key ql.Id).bind fun vr =>
  cond (!vr)
    (some true)
    (cond (!decide (ql.Slot = ([] : List UInt8)))
      ((base_Key ql.Slot).bind fun vr1 =>
      some (!vr1))
      (some false))

noncomputable def z175 (ql : api_Letter) : Option (Bool) :=
  (base_Out ql.Prio 0 9).bind fun vr2 =>
  cond (vr2)
    (some true)
    ((z50 ql.At).bind fun vr1_2 =>
    cond (!vr1_2)
      (some true)
      (cond (decide (ql.Until ≤ ql.At))
        (some true)
        (some (decide (345686400000 < ql.Until)))))

noncomputable def z167 (ql : api_Letter) : Option (Int) :=
  (z170 ql).bind fun vx1 =>
  cond (vx1)
    (some 5)
    (cond (decide (1000 < (ql.Body.length : Int)))
      (some 2)
      ((z87 ql.Body).bind fun vr1_1 =>
      cond (!vr1_1)
        (some 3)
        ((z175 ql).bind fun vx2_1 =>
        cond (vx2_1)
          (some 1)
          (some 0))))

/-! ### beaconfleet/command.Order$1 -/
noncomputable def z180 (qy : api_Letter) (qx : api_Letter) : Option (Unit) :=
  some ()

/-! ### slices.IndexFunc[[]beaconfleet/api.Letter,beaconfleet/api.Letter] -/
noncomputable def z632 (qs : List api_Letter) (qf : api_Letter) (vx : Int) : Option ((Int) ⊕ (Unit ⊕ Int)) :=
  cond (decide (vx < (qs.length : Int)))
    ((at? qs vx).bind fun vy1 =>
    (z180 vy1 qf).bind fun _ =>
    cond (decide (vy1.Id = qf.Id))
      (some (.inr (.inr vx)))
      (some (.inl (IntKind.wrap .i64 (vx + 1)))))
    (some (.inr (.inl ())))

noncomputable def z629 (qs : List api_Letter) (qf : api_Letter) : Option (Int) :=
  (loopO (z632 qs qf) 0).bind fun x => match x with
    | .inl _ =>
      some (-1)
    | .inr vx1_1 =>
      some vx1_1

/-! ### slices.ContainsFunc[[]beaconfleet/api.Letter,beaconfleet/api.Letter] -/
noncomputable def z561 (qs : List api_Letter) (qf : api_Letter) : Option (Bool) :=
  (z629 qs qf).bind fun vr =>
  some (decide (0 ≤ vr))

/-! ### slices.Clone[[]beaconfleet/api.Letter,beaconfleet/api.Letter] -/
noncomputable def z497 (qs : List api_Letter) : Option (List api_Letter) :=
  gd (Nat.ble (([] : List api_Letter).length + qs.length) LIM) (some qs)

/-! ### beaconfleet/command.byOrder -/
noncomputable def z191 (qa : api_Letter) (qb : api_Letter) : Option (Int) :=
  (z142 qb.Prio qa.Prio).bind fun vr =>
  (z142 qa.At qb.At).bind fun vr1 =>
  (z999 qa.Id qb.Id).bind fun _ =>
  (z153 ([vr, vr1, Lib.compareBytes qa.Id qb.Id] : List Int)).bind fun vr2 =>
  some vr2

/-! ### slices.insertionSortCmpFunc[beaconfleet/api.Letter] -/
noncomputable def z707 (qa : Int) (vl3 : List api_Letter) (vj1 : Int) : Option (Bool) :=
  cond (decide (qa < vj1))
    ((at? vl3 vj1).bind fun vy15 =>
    (at? vl3 (IntKind.wrap .i64 (vj1 - 1))).bind fun vy16 =>
    (z191 vy15 vy16).bind fun vr3_3 =>
    some (decide (vr3_3 < 0)))
    (some false)

noncomputable def z702 (qa : Int) : (List api_Letter) × Int → Option (((List api_Letter) × Int) ⊕ ((List api_Letter)))
  | (vl3, vj1) =>
  (z707 qa vl3 vj1).bind fun vx4_1 =>
  cond (vx4_1)
    ((at? vl3 (IntKind.wrap .i64 (vj1 - 1))).bind fun vy17 =>
    (at? vl3 vj1).bind fun vy18 =>
    (at? (vl3.set vj1.toNat vy17) (IntKind.wrap .i64 (vj1 - 1))).bind fun vy19 =>
    some (.inl ((vl3.set vj1.toNat vy17).set (IntKind.wrap .i64 (vj1 - 1)).toNat vy18, IntKind.wrap .i64 (vj1 - 1))))
    (some (.inr vl3))

noncomputable def z697 (qa : Int) (qb : Int) : (List api_Letter) × Int → Option (((List api_Letter) × Int) ⊕ ((List api_Letter)))
  | (vl, vi) =>
  cond (decide (vi < qb))
    ((loopO (z702 qa) (vl, vi)).bind fun vl4_1 =>
    some (.inl (vl4_1, IntKind.wrap .i64 (vi + 1))))
    (some (.inr vl))

noncomputable def z694 (qdata : List api_Letter) (qa : Int) (qb : Int) : Option ((List api_Letter)) :=
  (loopO (z697 qa qb) (qdata, IntKind.wrap .i64 (qa + 1))).bind fun vl5_1 =>
  some vl5_1

/-! ### slices.pdqsortCmpFunc[beaconfleet/api.Letter] -/
noncomputable def z769 (qx : List api_Letter) (qx1 : Int) (qx2 : Int) (qx3 : Int) : Unit → Option ((Unit) ⊕ ((List api_Letter)))
  | _ =>
  cond (decide ((IntKind.wrap .i64 (qx2 - qx1)) ≤ 12))
    ((z694 qx qx1 qx2).bind fun vl6_1 =>
    gd (vl6_1.length == qx.length) <|
    some (.inr vl6_1))
    (cond (decide (qx3 = 0))
      (none)
      (none))

noncomputable def z766 (qx : List api_Letter) (qx1 : Int) (qx2 : Int) (qx3 : Int) : Option ((List api_Letter)) :=
  (loopO (z769 qx qx1 qx2 qx3) ()).bind fun vl1 =>
  some vl1

/-! ### slices.SortFunc[[]beaconfleet/api.Letter,beaconfleet/api.Letter] -/
noncomputable def z661 (qx : List api_Letter) : Option ((List api_Letter)) :=
  (bits_Len (IntKind.wrap .u64 ((qx.length : Int)))).bind fun vr1 =>
  (z766 qx 0 (qx.length : Int) vr1).bind fun vl2 =>
  gd (vl2.length == qx.length) <|
  some vl2

/-! ### beaconfleet/command.Order -/
noncomputable def z186 (ql : List api_Letter) (vx : Int) : Option ((Int) ⊕ (Unit ⊕ Int)) :=
  cond (decide (vx < (ql.length : Int)))
    ((at? ql vx).bind fun vy1 =>
    (z167 vy1).bind fun vr3_1 =>
    cond (!decide (vr3_1 = 0))
      (some (.inr (.inr vr3_1)))
      ((sub? ql 0 vx).bind fun vl1 =>
      (z561 vl1 vy1).bind fun vr1_1 =>
      cond (vr1_1)
        (some (.inr (.inr 6)))
        (some (.inl (IntKind.wrap .i64 (vx + 1))))))
    (some (.inr (.inl ())))

noncomputable def z183 (ql : List api_Letter) : Option ((List api_Letter) × Int) :=
  cond (decide (500 < (ql.length : Int)))
    (some ([], 2))
    ((loopO (z186 ql) 0).bind fun x => match x with
      | .inl _ =>
        (z497 ql).bind fun vr =>
        (z661 vr).bind fun vl2 =>
        gd (vl2.length == vr.length) <|
        some (vl2, 0)
      | .inr vx1_1 =>
        some ([], vx1_1))

/-! ### beaconfleet/fleetkeep2.errs -/
noncomputable def z203 (ql : List Int) (vx : Int) : Option ((Int) ⊕ (Unit ⊕ Int)) :=
  cond (decide (vx < (ql.length : Int)))
    ((at? ql vx).bind fun vy1 =>
    cond (!decide (vy1 = 0))
      (some (.inr (.inr vy1)))
      (some (.inl (IntKind.wrap .i64 (vx + 1)))))
    (some (.inr (.inl ())))

noncomputable def z200 (ql : List Int) : Option (Int) :=
  (loopO (z203 ql) 0).bind fun x => match x with
    | .inl _ =>
      some 0
    | .inr vx1_1 =>
      some vx1_1

/-! ### slices.Equal[[]byte,byte] -/
noncomputable def z592 (qs1 : List Int) (qs2 : List Int) (vx : Int) : Option ((Int) ⊕ (Unit ⊕ Unit)) :=
  cond (decide (vx < (qs1.length : Int)))
    ((at? qs1 vx).bind fun vy2 =>
    (at? qs2 vx).bind fun vy3 =>
    cond (!decide (vy2 = vy3))
      (some (.inr (.inr ())))
      (some (.inl (IntKind.wrap .i64 (vx + 1)))))
    (some (.inr (.inl ())))

noncomputable def z589 (qs1 : List Int) (qs2 : List Int) : Option (Bool) :=
  cond (!decide ((qs1.length : Int) = (qs2.length : Int)))
    (some false)
    ((loopO (z592 qs1 qs2) 0).bind fun x => match x with
      | .inl _ =>
        some true
      | .inr _ =>
        some false)

/-! ### beaconfleet/fleetkeep2.ready -/
noncomputable def z211 (vr5 : List api_Change) (vr6 : Int) (vr : List Int) (vr2 : Int) (vr2_1 : api_Version) (vr4 : Int) (vr1 : List UInt8) (vr3 : Int) (vr2_2 : List api_Letter) (vr4_1 : Int) : Option (Bool) :=
  (z200 ([vr6, vr2, vr4, vr3, vr4_1] : List Int)).bind fun vr7 =>
  cond (decide (vr7 = 0))
    (cond (decide ((vr5.length : Int) = 1))
      ((z589 vr ([1, 2, 2] : List Int)).bind fun vr8 =>
      cond (vr8)
        (cond (decide (vr2_1.Patch = 3))
          (cond (decide (vr1 = ([51] : List UInt8)))
            (some (decide ((vr2_2.length : Int) = 1)))
            (some false))
          (some false))
        (some false))
      (some false))
    (some false)

noncomputable def z208 : Option (Bool) :=
  (z1218 ([api_Prop.mk ([97] : List UInt8) (api_Value.mk 1 false 0 ([] : List UInt8))] : List api_Prop)).bind fun (vr5, vr6) =>
  (z435 ([api_Sample.mk ([100] : List UInt8) ([109] : List UInt8) 1 1] : List api_Sample)).bind fun (vr, vr2) =>
  (z132 ([49, 46, 50, 46, 51] : List UInt8)).bind fun (vr2_1, vr4) =>
  (z380 (api_Spot.mk 0 0) 1).bind fun (vr1, vr3) =>
  (z183 ([api_Letter.mk ([97] : List UInt8) ([] : List UInt8) ([] : List UInt8) 0 0 5] : List api_Letter)).bind fun (vr2_2, vr4_1) =>
  (z211 vr5 vr6 vr vr2 vr2_1 vr4 vr1 vr3 vr2_2 vr4_1).bind fun vx1 =>
  some vx1

/-! ### beaconfleet/fleetkeep2.TwinsStay -/
noncomputable def z195 (vr8 : List api_Cell) (vr8_1 : List api_Cell) (vr8_2 : List api_Prop) : Option (Bool) :=
  (z573 vr8).bind fun vr =>
  cond (vr)
    ((z573 vr8_1).bind fun vr1 =>
    cond (vr1)
      ((z581 vr8_2).bind fun vr9 =>
      cond (vr9)
        ((z208).bind fun vr9_1 =>
        some vr9_1)
        (some false))
      (some false))
    (some false)

noncomputable def fleetkeep2_TwinsStay (qx : List Int) : Option (Bool) :=
  (z253 (z240.mk qx 0)).bind fun (vs3, vr8) =>
  (z253 vs3).bind fun (vs3_1, vr8_1) =>
  (z269 vs3_1).bind fun (vs3_2, vr8_2) =>
  (z1231 vr8 vr8_1).bind fun (vr2, vr4) =>
  (z216 vr2).bind fun vl2 =>
  gd (vl2.length == vr2.length) <|
  (z1184 vr8 5).bind fun (vr2_1, vr3) =>
  (z216 vr2_1).bind fun vl2_1 =>
  gd (vl2_1.length == vr2_1.length) <|
  (twin_Set vr8 (api_Prop.mk ([122, 122] : List UInt8) (api_Value.mk 1 false 0 ([] : List UInt8))) (api_Stamp.mk 9 ([122] : List UInt8) 0)).bind fun (vr2_2, vr4_1) =>
  (z216 vr2_2).bind fun vl2_2 =>
  gd (vl2_2.length == vr2_2.length) <|
  (z1247 vr8_2 ([97] : List UInt8)).bind fun (vr4_2, vr5) =>
  (z224 vr4_2).bind fun vl2_3 =>
  gd (vl2_3.length == vr4_2.length) <|
  (z1106 vr8_2).bind fun (vr2_3, vr4_3) =>
  (z224 vr2_3).bind fun vl2_4 =>
  gd (vl2_4.length == vr2_3.length) <|
  (z1239 (api_Twin.mk vr8 vr8_1) (api_Stamp.mk 99 ([122] : List UInt8) 0)).bind fun (vr6, vr7, vr8_3) =>
  (z216 vr6).bind fun vl2_5 =>
  gd (vl2_5.length == vr6.length) <|
  (z216 vr7).bind fun vl2_6 =>
  gd (vl2_6.length == vr7.length) <|
  (z195 vr8 vr8_1 vr8_2).bind fun vx1 =>
  some vx1

end Go.Eng
