/-
The Go functions that the law CommandsStay reaches, as plain functions.
-/
import Derived.Test.YtfbeijbgfhelfaaGreatDoorEngV

import Derived.Lib.Repeat

import Derived.Lib.ValidU

namespace Go.Eng

open Go

set_option linter.unusedVariables false

structure z477 where
  L : List Int
  at_ : Int

def z477.enc (x : z477) : List D := [.lst (List.map (encI .i64) x.L), .int .i64 x.at_]

structure api_Post where
  Room : Int
  Timeout : Int
  Tries : Int
  Kept : Int

def api_Post.enc (x : api_Post) : List D := [.int .i64 x.Room, .int .i64 x.Timeout, .int .i64 x.Tries, .int .i64 x.Kept]

structure api_Letter where
  Id : List UInt8
  Slot : List UInt8
  Body : List UInt8
  Prio : Int
  At : Int
  Until : Int

def api_Letter.enc (x : api_Letter) : List D := [.str x.Id, .str x.Slot, .str x.Body, .int .i64 x.Prio, .int .i64 x.At, .int .i64 x.Until]

structure api_Note where
  Letter : api_Letter
  State : Int
  Tries : Int
  Since : Int

def api_Note.enc (x : api_Note) : List D := [.str x.Letter.Id, .str x.Letter.Slot, .str x.Letter.Body, .int .i64 x.Letter.Prio, .int .i64 x.Letter.At, .int .i64 x.Letter.Until, .int .i64 x.State, .int .i64 x.Tries, .int .i64 x.Since]

structure z386 where
  id_ : List UInt8
  until_ : Int

def z386.enc (x : z386) : List D := [.str x.id_, .int .i64 x.until_]

structure z201 where
  most_ : Int
  l_ : List z386
  time_ : Int

def z201.enc (x : z201) : List D := [.int .i64 x.most_, .lst (List.map z386.enc x.l_), .int .i64 x.time_]

structure z540 where
  Most : Int
  L : List api_Letter
  time_ : Int

def z540.enc (x : z540) : List D := [.int .i64 x.Most, .lst (List.map api_Letter.enc x.L), .int .i64 x.time_]

structure api_Value where
  Kind : Int
  Flag : Bool
  Number : Int
  Words : List UInt8

def api_Value.enc (x : api_Value) : List D := [.int .i64 x.Kind, .bool x.Flag, .int .i64 x.Number, .str x.Words]

structure api_Stamp where
  At : Int
  By : List UInt8
  No : Int

def api_Stamp.enc (x : api_Stamp) : List D := [.int .i64 x.At, .str x.By, .int .i64 x.No]

structure api_Prop where
  Name : List UInt8
  Value : api_Value

def api_Prop.enc (x : api_Prop) : List D := [.str x.Name, .int .i64 x.Value.Kind, .bool x.Value.Flag, .int .i64 x.Value.Number, .str x.Value.Words]

structure api_Cell where
  Prop_ : api_Prop
  Stamp : api_Stamp

def api_Cell.enc (x : api_Cell) : List D := [.str x.Prop_.Name, .int .i64 x.Prop_.Value.Kind, .bool x.Prop_.Value.Flag, .int .i64 x.Prop_.Value.Number, .str x.Prop_.Value.Words, .int .i64 x.Stamp.At, .str x.Stamp.By, .int .i64 x.Stamp.No]

structure api_Twin where
  Desired : List api_Cell
  Reported : List api_Cell

def api_Twin.enc (x : api_Twin) : List D := [.lst (List.map api_Cell.enc x.Desired), .lst (List.map api_Cell.enc x.Reported)]

structure api_Change where
  Name : List UInt8
  From : api_Value
  To : api_Value

def api_Change.enc (x : api_Change) : List D := [.str x.Name, .int .i64 x.From.Kind, .bool x.From.Flag, .int .i64 x.From.Number, .str x.From.Words, .int .i64 x.To.Kind, .bool x.To.Flag, .int .i64 x.To.Number, .str x.To.Words]

structure api_Sample where
  Device : List UInt8
  Metric : List UInt8
  At : Int
  Value : Int

def api_Sample.enc (x : api_Sample) : List D := [.str x.Device, .str x.Metric, .int .i64 x.At, .int .i64 x.Value]

structure api_Version where
  Major : Int
  Minor : Int
  Patch : Int

def api_Version.enc (x : api_Version) : List D := [.int .i64 x.Major, .int .i64 x.Minor, .int .i64 x.Patch]

structure api_Spot where
  X : Int
  Y : Int

def api_Spot.enc (x : api_Spot) : List D := [.int .i64 x.X, .int .i64 x.Y]

/-! ### beaconfleet/fleetmake.Below -/
noncomputable def z473 (qx : Int) (qn : Int) : Option (Int) :=
  cond (decide ((qx.tmod qn) < 0))
    (some (IntKind.wrap .i64 ((qx.tmod qn) + qn)))
    (some (qx.tmod qn))

noncomputable def z470 (qx : Int) (qn : Int) : Option (Int) :=
  cond (decide (qn < 1))
    (some 0)
    (gd (!(qn == 0)) <|
    (z473 qx qn).bind fun vx1 =>
    some vx1)

/-! ### (*beaconfleet/fleetmake.Stream).Next -/
noncomputable def z506 (qs : z477) (qn : Int) : Option (Int) :=
  cond (decide ((qs.L.length : Int) = 0))
    ((z470 (IntKind.wrap .i64 ((IntKind.wrap .i64 (qs.at_ + 1)) * 7919)) qn).bind fun vr =>
    some vr)
    (gd (!((qs.L.length : Int) == 0)) <|
    (at? qs.L ((IntKind.wrap .i64 ((IntKind.wrap .i64 (qs.at_ + 1)) - 1)).tmod (qs.L.length : Int))).bind fun vy =>
    (z470 vy 1073741824).bind fun vr1 =>
    (z470 (IntKind.wrap .i64 (vr1 + (IntKind.wrap .i64 ((IntKind.wrap .i64 ((IntKind.wrap .i64 ((IntKind.wrap .i64 (qs.at_ + 1)) - 1)).tdiv (qs.L.length : Int))) * (IntKind.wrap .i64 ((7919 : Int) + ((IntKind.wrap .i64 ((IntKind.wrap .i64 (qs.at_ + 1)) - 1)).tmod (qs.L.length : Int)))))))) qn).bind fun vr2 =>
    some vr2)

/-! ### (*beaconfleet/fleetmake.Stream).Pick -/
noncomputable def z528 (qs : z477) (ql : List Int) : Option (Int) :=
  (z506 qs (ql.length : Int)).bind fun vr3 =>
  (at? ql vr3).bind fun vy =>
  some vy

/-! ### beaconfleet/base.Out -/
noncomputable def z77 (qn : Int) (qlow : Int) (qhigh : Int) : Option (Bool) :=
  cond (decide (qn < qlow))
    (some true)
    (some (decide (qhigh < qn)))

noncomputable def base_Out (qn : Int) (qlow : Int) (qhigh : Int) : Option (Bool) :=
  (z77 qn qlow qhigh).bind fun vx1 =>
  some vx1

/-! ### beaconfleet/command.NewDoer -/
noncomputable def z247 (qremember : Int) : Option (Unit ⊕ Unit) :=
  (base_Out qremember 1 1000).bind fun vr =>
  cond (vr)
    (some (.inl ()))
    (some (.inr ()))

/-! ### beaconfleet/command.CheckPost -/
noncomputable def z197 (qp : api_Post) : Option (Bool) :=
  (base_Out qp.Room 1 500).bind fun vr =>
  cond (vr)
    (some true)
    ((base_Out qp.Timeout 1 86400000).bind fun vr1 =>
    cond (vr1)
      (some true)
      ((base_Out qp.Tries 1 20).bind fun vr2 =>
      cond (vr2)
        (some true)
        ((base_Out qp.Kept 0 1000).bind fun vr3 =>
        some vr3)))

noncomputable def z194 (qp : api_Post) : Option (Int) :=
  (z197 qp).bind fun vx1 =>
  cond (vx1)
    (some 1)
    (some 0)

/-! ### beaconfleet/command.New -/
noncomputable def z246 (qp : api_Post) : Option (Int ⊕ Unit) :=
  (z194 qp).bind fun vr4 =>
  cond (!decide (vr4 = 0))
    (some (.inl vr4))
    (some (.inr ()))

/-! ### beaconfleet/base.Key -/
noncomputable def z27 (qs : List UInt8) : Option (Bool) :=
  cond (decide (qs = ([] : List UInt8)))
    (some true)
    (cond (decide (40 < (qs.length : Int)))
      (some true)
      ((at? qs 0).bind fun vc =>
      cond (decide ((vc.toNat : Int) < 97))
        (some true)
        (some (decide (122 < (vc.toNat : Int))))))

noncomputable def z36 (vc2 : UInt8) : Option (Bool) :=
  cond (decide (97 ≤ (vc2.toNat : Int)))
    (cond (decide ((vc2.toNat : Int) ≤ 122))
      (some false)
      (cond (decide (48 ≤ (vc2.toNat : Int)))
        (cond (decide ((vc2.toNat : Int) ≤ 57))
          (some false)
          (cond (decide ((vc2.toNat : Int) = 45))
            (some false)
            (some (!(decide ((vc2.toNat : Int) = 95))))))
        (cond (decide ((vc2.toNat : Int) = 45))
          (some false)
          (some (!(decide ((vc2.toNat : Int) = 95)))))))
    (cond (decide (48 ≤ (vc2.toNat : Int)))
      (cond (decide ((vc2.toNat : Int) ≤ 57))
        (some false)
        (cond (decide ((vc2.toNat : Int) = 45))
          (some false)
          (some (!(decide ((vc2.toNat : Int) = 95))))))
      (cond (decide ((vc2.toNat : Int) = 45))
        (some false)
        (some (!(decide ((vc2.toNat : Int) = 95))))))

noncomputable def z31 (qs : List UInt8) (vx2 : Int) : Option ((Int) ⊕ (Unit ⊕ Unit)) :=
  cond (decide (vx2 < (qs.length : Int)))
    ((at? qs vx2).bind fun vc2 =>
    (z36 vc2).bind fun vx4_1 =>
    cond (vx4_1)
      (some (.inr (.inr ())))
      (some (.inl (IntKind.wrap .i64 (vx2 + 1)))))
    (some (.inr (.inl ())))

noncomputable def base_Key (qs : List UInt8) : Option (Bool) :=
  (z27 qs).bind fun vx1 =>
  cond (vx1)
    (some false)
    ((loopO (z31 qs) 0).bind fun x => match x with
      | .inl _ =>
        some true
      | .inr _ =>
        some false)

/-! ### unicode/utf8.ValidString -/
noncomputable def utf8_ValidString (qx : List UInt8) : Option (Bool) :=
  gd (decide (qx.length ≤ 9223372036854775807)) (some (Lib.validD qx))

/-! ### beaconfleet/base.Unmarked -/
noncomputable def z89 (qs : List UInt8) (vx : Int) : Option (Bool) :=
  (at? qs vx).bind fun vc1 =>
  cond (decide ((vc1.toNat : Int) < 32))
    (some true)
    (some (decide ((vc1.toNat : Int) = 127)))

noncomputable def z84 (qs : List UInt8) (vx : Int) : Option ((Int) ⊕ (Unit ⊕ Unit)) :=
  cond (decide (vx < (qs.length : Int)))
    ((z89 qs vx).bind fun vx2_1 =>
    cond (vx2_1)
      (some (.inr (.inr ())))
      (some (.inl (IntKind.wrap .i64 (vx + 1)))))
    (some (.inr (.inl ())))

noncomputable def z81 (qs : List UInt8) : Option (Bool) :=
  (loopO (z84 qs) 0).bind fun x => match x with
    | .inl _ =>
      (utf8_ValidString qs).bind fun vr =>
      some vr
    | .inr _ =>
      some false

/-! ### beaconfleet/base.Moment -/
noncomputable def z41 (qn : Int) : Option (Bool) :=
  (base_Out qn 0 345686399999).bind fun vr =>
  some (!vr)

/-! ### beaconfleet/command.CheckLetter -/
noncomputable def z161 (ql : api_Letter) : Option (Bool) :=
  (base_Key ql.Id).bind fun vr =>
  cond (!vr)
    (some true)
    (cond (!decide (ql.Slot = ([] : List UInt8)))
      ((base_Key ql.Slot).bind fun vr1 =>
      some (!vr1))
      (some false))

noncomputable def z166 (ql : api_Letter) : Option (Bool) :=
  (base_Out ql.Prio 0 9).bind fun vr2 =>
  cond (vr2)
    (some true)
    ((z41 ql.At).bind fun vr1_2 =>
    cond (!vr1_2)
      (some true)
      (cond (decide (ql.Until ≤ ql.At))
        (some true)
        (some (decide (345686400000 < ql.Until)))))

noncomputable def z158 (ql : api_Letter) : Option (Int) :=
  (z161 ql).bind fun vx1 =>
  cond (vx1)
    (some 5)
    (cond (decide (1000 < (ql.Body.length : Int)))
      (some 2)
      ((z81 ql.Body).bind fun vr1_1 =>
      cond (!vr1_1)
        (some 3)
        ((z166 ql).bind fun vx2_1 =>
        cond (vx2_1)
          (some 1)
          (some 0))))

/-! ### beaconfleet/base.First -/
noncomputable def z19 (ql : List Int) (vx : Int) : Option ((Int) ⊕ (Unit ⊕ Int)) :=
  cond (decide (vx < (ql.length : Int)))
    ((at? ql vx).bind fun vy1 =>
    cond (!decide (vy1 = 0))
      (some (.inr (.inr vy1)))
      (some (.inl (IntKind.wrap .i64 (vx + 1)))))
    (some (.inr (.inl ())))

noncomputable def z16 (ql : List Int) : Option (Int) :=
  (loopO (z19 ql) 0).bind fun x => match x with
    | .inl _ =>
      some 0
    | .inr vx1_1 =>
      some vx1_1

/-! ### beaconfleet/command.ended -/
noncomputable def z387 (qstate : Int) : Option (Unit) :=
  some ()

/-! ### math/bits.Len64 -/
noncomputable def z103 (qx : Int) : Option ((Int × Int)) :=
  cond (decide (4294967296 ≤ qx))
    (some (ishr .u64 qx 32, 32))
    (some (qx, 0))

noncomputable def z107 (vx1 : Int) (vn1 : Int) : Option ((Int × Int)) :=
  cond (decide (65536 ≤ vx1))
    (some (ishr .u64 vx1 16, IntKind.wrap .i64 (vn1 + 16)))
    (some (vx1, vn1))

noncomputable def z112 (vx2_1 : Int) (vn2_1 : Int) : Option ((Int × Int)) :=
  cond (decide (256 ≤ vx2_1))
    (some (ishr .u64 vx2_1 8, IntKind.wrap .i64 (vn2_1 + 8)))
    (some (vx2_1, vn2_1))

noncomputable def z100 (qx : Int) : Option (Int) :=
  (z103 qx).bind fun (vx1, vn1) =>
  (z107 vx1 vn1).bind fun (vx2_1, vn2_1) =>
  (z112 vx2_1 vn2_1).bind fun (vx3_1, vn3_1) =>
  (at? ([0, 1, 2, 2, 3, 3, 3, 3, 4, 4, 4, 4, 4, 4, 4, 4, 5, 5, 5, 5, 5, 5, 5, 5, 5, 5, 5, 5, 5, 5, 5, 5, 6, 6, 6, 6, 6, 6, 6, 6, 6, 6, 6, 6, 6, 6, 6, 6, 6, 6, 6, 6, 6, 6, 6, 6, 6, 6, 6, 6, 6, 6, 6, 6, 7, 7, 7, 7, 7, 7, 7, 7, 7, 7, 7, 7, 7, 7, 7, 7, 7, 7, 7, 7, 7, 7, 7, 7, 7, 7, 7, 7, 7, 7, 7, 7, 7, 7, 7, 7, 7, 7, 7, 7, 7, 7, 7, 7, 7, 7, 7, 7, 7, 7, 7, 7, 7, 7, 7, 7, 7, 7, 7, 7, 7, 7, 7, 7, 8, 8, 8, 8, 8, 8, 8, 8, 8, 8, 8, 8, 8, 8, 8, 8, 8, 8, 8, 8, 8, 8, 8, 8, 8, 8, 8, 8, 8, 8, 8, 8, 8, 8, 8, 8, 8, 8, 8, 8, 8, 8, 8, 8, 8, 8, 8, 8, 8, 8, 8, 8, 8, 8, 8, 8, 8, 8, 8, 8, 8, 8, 8, 8, 8, 8, 8, 8, 8, 8, 8, 8, 8, 8, 8, 8, 8, 8, 8, 8, 8, 8, 8, 8, 8, 8, 8, 8, 8, 8, 8, 8, 8, 8, 8, 8, 8, 8, 8, 8, 8, 8, 8, 8, 8, 8, 8, 8, 8, 8, 8, 8, 8, 8, 8, 8, 8, 8, 8, 8, 8, 8, 8, 8, 8, 8, 8, 8] : List UInt8) (IntKind.wrap .u8 (vx3_1))).bind fun vc =>
  some (IntKind.wrap .i64 (vn3_1 + (IntKind.wrap .i64 ((vc.toNat : Int)))))

/-! ### math/bits.Len -/
noncomputable def bits_Len (qx : Int) : Option (Int) :=
  (z100 qx).bind fun vr =>
  some vr

/-! ### cmp.isNaN[int] -/
noncomputable def z152 (qx : Int) : Option (Unit) :=
  some ()

/-! ### cmp.Compare[int] -/
noncomputable def z130 (qx : Int) (qy : Int) : Option (Int) :=
  (z152 qx).bind fun _ =>
  (z152 qy).bind fun _ =>
  cond (!decide (qx = qx))
    (cond (!decide (qy = qy))
      (some 0)
      (some (-1)))
    (cond (!decide (qy = qy))
      (some 1)
      (cond (decide (qx < qy))
        (some (-1))
        (cond (decide (qy < qx))
          (some 1)
          (some 0))))

/-! ### internal/bytealg.CompareString -/
noncomputable def z118 (qa : List UInt8) (qb : List UInt8) : Option (Unit) :=
  some ()

/-! ### strings.Compare -/
noncomputable def z1102 (qa : List UInt8) (qb : List UInt8) : Option (Unit) :=
  (z118 qa qb).bind fun _ =>
  some ()

/-! ### cmp.Or[int] -/
noncomputable def z145 (qvals : List Int) (vx : Int) : Option ((Int) ⊕ (Unit ⊕ Int)) :=
  cond (decide (vx < (qvals.length : Int)))
    ((at? qvals vx).bind fun vy1 =>
    cond (!decide (vy1 = 0))
      (some (.inr (.inr vy1)))
      (some (.inl (IntKind.wrap .i64 (vx + 1)))))
    (some (.inr (.inl ())))

noncomputable def z142 (qvals : List Int) : Option (Int) :=
  (loopO (z145 qvals) 0).bind fun x => match x with
    | .inl _ =>
      some 0
    | .inr vx1_1 =>
      some vx1_1

/-! ### (*beaconfleet/command.Office).aged$1 -/
noncomputable def z304 (qa : api_Note) (qb : api_Note) : Option (Int) :=
  (z130 qa.Since qb.Since).bind fun vr =>
  (z1102 qa.Letter.Id qb.Letter.Id).bind fun _ =>
  (z142 ([vr, Lib.compareBytes qa.Letter.Id qb.Letter.Id] : List Int)).bind fun vr1 =>
  some vr1

/-! ### slices.insertionSortCmpFunc[beaconfleet/api.Note] -/
noncomputable def z876 (qa : Int) (vl3 : List api_Note) (vj1 : Int) : Option (Bool) :=
  cond (decide (qa < vj1))
    ((at? vl3 vj1).bind fun vy15 =>
    (at? vl3 (IntKind.wrap .i64 (vj1 - 1))).bind fun vy16 =>
    (z304 (api_Note.mk (api_Letter.mk vy15.Letter.Id vy15.Letter.Slot vy15.Letter.Body vy15.Letter.Prio vy15.Letter.At vy15.Letter.Until) vy15.State vy15.Tries vy15.Since) (api_Note.mk (api_Letter.mk vy16.Letter.Id vy16.Letter.Slot vy16.Letter.Body vy16.Letter.Prio vy16.Letter.At vy16.Letter.Until) vy16.State vy16.Tries vy16.Since)).bind fun vr2_3 =>
    some (decide (vr2_3 < 0)))
    (some false)

noncomputable def z871 (qa : Int) : (List api_Note) × Int → Option (((List api_Note) × Int) ⊕ ((List api_Note)))
  | (vl3, vj1) =>
  (z876 qa vl3 vj1).bind fun vx4_1 =>
  cond (vx4_1)
    ((at? vl3 (IntKind.wrap .i64 (vj1 - 1))).bind fun vy17 =>
    (at? vl3 vj1).bind fun vy18 =>
    (at? (vl3.set vj1.toNat (api_Note.mk (api_Letter.mk vy17.Letter.Id vy17.Letter.Slot vy17.Letter.Body vy17.Letter.Prio vy17.Letter.At vy17.Letter.Until) vy17.State vy17.Tries vy17.Since)) (IntKind.wrap .i64 (vj1 - 1))).bind fun vy19 =>
    some (.inl ((vl3.set vj1.toNat (api_Note.mk (api_Letter.mk vy17.Letter.Id vy17.Letter.Slot vy17.Letter.Body vy17.Letter.Prio vy17.Letter.At vy17.Letter.Until) vy17.State vy17.Tries vy17.Since)).set (IntKind.wrap .i64 (vj1 - 1)).toNat (api_Note.mk (api_Letter.mk vy18.Letter.Id vy18.Letter.Slot vy18.Letter.Body vy18.Letter.Prio vy18.Letter.At vy18.Letter.Until) vy18.State vy18.Tries vy18.Since), IntKind.wrap .i64 (vj1 - 1))))
    (some (.inr vl3))

noncomputable def z866 (qa : Int) (qb : Int) : (List api_Note) × Int → Option (((List api_Note) × Int) ⊕ ((List api_Note)))
  | (vl, vi) =>
  cond (decide (vi < qb))
    ((loopO (z871 qa) (vl, vi)).bind fun vl4_1 =>
    some (.inl (vl4_1, IntKind.wrap .i64 (vi + 1))))
    (some (.inr vl))

noncomputable def z863 (qdata : List api_Note) (qa : Int) (qb : Int) : Option ((List api_Note)) :=
  (loopO (z866 qa qb) (qdata, IntKind.wrap .i64 (qa + 1))).bind fun vl5_1 =>
  some vl5_1

/-! ### slices.pdqsortCmpFunc[beaconfleet/api.Note] -/
noncomputable def z916 (qx : List api_Note) (qx1 : Int) (qx2 : Int) (qx3 : Int) : Unit → Option ((Unit) ⊕ ((List api_Note)))
  | _ =>
  cond (decide ((IntKind.wrap .i64 (qx2 - qx1)) ≤ 12))
    ((z863 qx qx1 qx2).bind fun vl6_1 =>
    gd (vl6_1.length == qx.length) <|
    some (.inr vl6_1))
    (cond (decide (qx3 = 0))
      (none)
      (none))

noncomputable def z913 (qx : List api_Note) (qx1 : Int) (qx2 : Int) (qx3 : Int) : Option ((List api_Note)) :=
  (loopO (z916 qx qx1 qx2 qx3) ()).bind fun vl1 =>
  some vl1

/-! ### slices.SortFunc[[]beaconfleet/api.Note,beaconfleet/api.Note] -/
noncomputable def z803 (qx : List api_Note) : Option ((List api_Note)) :=
  (bits_Len (IntKind.wrap .u64 ((qx.length : Int)))).bind fun vr1 =>
  (z913 qx 0 (qx.length : Int) vr1).bind fun vl2 =>
  gd (vl2.length == qx.length) <|
  some vl2

/-! ### beaconfleet/command.pending -/
noncomputable def z393 (qe : Option (List UInt8 × api_Note)) (vk : Int) : Option ((Int) ⊕ (Int)) :=
  match qe with
  | none =>
    some (.inr vk)
  | some ve1 =>
    (z387 ve1.2.State).bind fun _ =>
    cond (!(decide (3 ≤ ve1.2.State)))
      (some (.inl (IntKind.wrap .i64 (vk + 1))))
      (some (.inl vk))

noncomputable def z390 (qm : List (List UInt8 × api_Note)) : Option (Int) :=
  allPerm qm fun zo =>
  (rngO (z393) zo 0).bind fun vk1_1 =>
  some vk1_1

/-! ### (*beaconfleet/fleetmake.Stream).Range -/
noncomputable def z531 (qs : z477) (qlow : Int) (qhigh : Int) : Option (z477 × Int) :=
  cond (decide (qhigh < qlow))
    (some (qs, qlow))
    ((z506 qs (IntKind.wrap .i64 ((IntKind.wrap .i64 (qhigh - qlow)) + 1))).bind fun vr3 =>
    some (z477.mk qs.L (IntKind.wrap .i64 (qs.at_ + 1)), IntKind.wrap .i64 (qlow + vr3)))

/-! ### (*beaconfleet/fleetmake.Stream).Flip -/
noncomputable def z478 (qs : z477) (qn : Int) : Option (Bool) :=
  (z506 qs qn).bind fun vr3 =>
  some (decide (vr3 = 0))

/-! ### (*beaconfleet/fleetmake.Stream).Some -/
noncomputable def z537 (qs : z477) (ql : List (List UInt8)) : Option ((List UInt8)) :=
  (z506 qs (ql.length : Int)).bind fun vr3 =>
  (at? ql vr3).bind fun vy =>
  some vy

/-! ### (*beaconfleet/fleetmake.Stream).RightLetter -/
noncomputable def z534 (qs : z477) (qat : Int) : Option (api_Letter) :=
  (z537 qs ([([108, 97] : List UInt8), ([108, 98] : List UInt8), ([108, 99] : List UInt8), ([108, 100] : List UInt8), ([108, 101] : List UInt8), ([108, 102] : List UInt8)] : List (List UInt8))).bind fun vr =>
  (z537 (z477.mk qs.L (IntKind.wrap .i64 (qs.at_ + 1))) ([([] : List UInt8), ([] : List UInt8), ([115, 97] : List UInt8), ([115, 98] : List UInt8)] : List (List UInt8))).bind fun vr1 =>
  (z537 (z477.mk qs.L (IntKind.wrap .i64 ((IntKind.wrap .i64 (qs.at_ + 1)) + 1))) ([([100, 111] : List UInt8), ([] : List UInt8), ([97, 32, 34, 98, 34] : List UInt8)] : List (List UInt8))).bind fun vr2 =>
  (z528 (z477.mk qs.L (IntKind.wrap .i64 ((IntKind.wrap .i64 ((IntKind.wrap .i64 (qs.at_ + 1)) + 1)) + 1))) ([0, 0, 1, 5, 9] : List Int)).bind fun vr3 =>
  (z528 (z477.mk qs.L (IntKind.wrap .i64 ((IntKind.wrap .i64 ((IntKind.wrap .i64 ((IntKind.wrap .i64 (qs.at_ + 1)) + 1)) + 1)) + 1))) ([1, 5, 10, 20, 50, 1000] : List Int)).bind fun vr4 =>
  some (api_Letter.mk vr vr1 vr2 vr3 qat (IntKind.wrap .i64 (qat + vr4)))

/-! ### strings.Repeat -/
noncomputable def strings_Repeat (qx : List UInt8) (qx1 : Int) : Option (List UInt8) :=
  gd (decide (0 ≤ qx1) && decide (qx1 ≤ 9223372036854775807) && decide (qx.length * qx1.toNat ≤ 140737488355328)) (some (Lib.repeatL qx qx1.toNat))

/-! ### (*beaconfleet/fleetmake.Stream).Odd -/
noncomputable def z525 (qs : z477) (qlow : Int) (qhigh : Int) : Option (z477 × Int) :=
  (z478 qs 12).bind fun vr =>
  cond (vr)
    ((z528 (z477.mk qs.L (IntKind.wrap .i64 (qs.at_ + 1))) ([IntKind.wrap .i64 (qlow - 1), IntKind.wrap .i64 (qhigh + 1), qlow, qhigh, (-1099511627776), 1099511627776] : List Int)).bind fun vr1 =>
    some (z477.mk qs.L (IntKind.wrap .i64 ((IntKind.wrap .i64 (qs.at_ + 1)) + 1)), vr1))
    ((z531 (z477.mk qs.L (IntKind.wrap .i64 (qs.at_ + 1))) qlow qhigh).bind fun (vs, vr2) =>
    some (vs, vr2))

/-! ### (*beaconfleet/fleetmake.Stream).Letter -/
noncomputable def z484 (qs : z477) (vr5 : api_Letter) : Option ((z477 × api_Letter)) :=
  (z478 (z477.mk qs.L (IntKind.wrap .i64 ((IntKind.wrap .i64 ((IntKind.wrap .i64 ((IntKind.wrap .i64 ((IntKind.wrap .i64 (qs.at_ + 1)) + 1)) + 1)) + 1)) + 1))) 15).bind fun vr =>
  cond (vr)
    ((z506 (z477.mk qs.L (IntKind.wrap .i64 ((IntKind.wrap .i64 ((IntKind.wrap .i64 ((IntKind.wrap .i64 ((IntKind.wrap .i64 ((IntKind.wrap .i64 (qs.at_ + 1)) + 1)) + 1)) + 1)) + 1)) + 1))) 5).bind fun vr3 =>
    cond (decide (vr3 = 0))
      ((z537 (z477.mk qs.L (IntKind.wrap .i64 ((IntKind.wrap .i64 ((IntKind.wrap .i64 ((IntKind.wrap .i64 ((IntKind.wrap .i64 ((IntKind.wrap .i64 ((IntKind.wrap .i64 (qs.at_ + 1)) + 1)) + 1)) + 1)) + 1)) + 1)) + 1))) ([([] : List UInt8), ([65] : List UInt8)] : List (List UInt8))).bind fun vr1 =>
      some (z477.mk qs.L (IntKind.wrap .i64 ((IntKind.wrap .i64 ((IntKind.wrap .i64 ((IntKind.wrap .i64 ((IntKind.wrap .i64 ((IntKind.wrap .i64 ((IntKind.wrap .i64 ((IntKind.wrap .i64 (qs.at_ + 1)) + 1)) + 1)) + 1)) + 1)) + 1)) + 1)) + 1)), api_Letter.mk vr1 vr5.Slot vr5.Body vr5.Prio vr5.At vr5.Until))
      (cond (decide (vr3 = 1))
        ((z537 (z477.mk qs.L (IntKind.wrap .i64 ((IntKind.wrap .i64 ((IntKind.wrap .i64 ((IntKind.wrap .i64 ((IntKind.wrap .i64 ((IntKind.wrap .i64 ((IntKind.wrap .i64 (qs.at_ + 1)) + 1)) + 1)) + 1)) + 1)) + 1)) + 1))) ([([65] : List UInt8), ([45] : List UInt8)] : List (List UInt8))).bind fun vr2 =>
        some (z477.mk qs.L (IntKind.wrap .i64 ((IntKind.wrap .i64 ((IntKind.wrap .i64 ((IntKind.wrap .i64 ((IntKind.wrap .i64 ((IntKind.wrap .i64 ((IntKind.wrap .i64 ((IntKind.wrap .i64 (qs.at_ + 1)) + 1)) + 1)) + 1)) + 1)) + 1)) + 1)) + 1)), api_Letter.mk vr5.Id vr2 vr5.Body vr5.Prio vr5.At vr5.Until))
        (cond (decide (vr3 = 2))
          ((strings_Repeat ([98] : List UInt8) 1001).bind fun vr4 =>
          (z537 (z477.mk qs.L (IntKind.wrap .i64 ((IntKind.wrap .i64 ((IntKind.wrap .i64 ((IntKind.wrap .i64 ((IntKind.wrap .i64 ((IntKind.wrap .i64 ((IntKind.wrap .i64 (qs.at_ + 1)) + 1)) + 1)) + 1)) + 1)) + 1)) + 1))) ([([10] : List UInt8), ([127] : List UInt8), ([255] : List UInt8), vr4] : List (List UInt8))).bind fun vr6 =>
          some (z477.mk qs.L (IntKind.wrap .i64 ((IntKind.wrap .i64 ((IntKind.wrap .i64 ((IntKind.wrap .i64 ((IntKind.wrap .i64 ((IntKind.wrap .i64 ((IntKind.wrap .i64 ((IntKind.wrap .i64 (qs.at_ + 1)) + 1)) + 1)) + 1)) + 1)) + 1)) + 1)) + 1)), api_Letter.mk vr5.Id vr5.Slot vr6 vr5.Prio vr5.At vr5.Until))
          (cond (decide (vr3 = 3))
            ((z525 (z477.mk qs.L (IntKind.wrap .i64 ((IntKind.wrap .i64 ((IntKind.wrap .i64 ((IntKind.wrap .i64 ((IntKind.wrap .i64 ((IntKind.wrap .i64 ((IntKind.wrap .i64 (qs.at_ + 1)) + 1)) + 1)) + 1)) + 1)) + 1)) + 1))) 0 9).bind fun (vs1, vr3_1) =>
            some (vs1, api_Letter.mk vr5.Id vr5.Slot vr5.Body vr3_1 vr5.At vr5.Until))
            ((z525 (z477.mk qs.L (IntKind.wrap .i64 ((IntKind.wrap .i64 ((IntKind.wrap .i64 ((IntKind.wrap .i64 ((IntKind.wrap .i64 ((IntKind.wrap .i64 ((IntKind.wrap .i64 (qs.at_ + 1)) + 1)) + 1)) + 1)) + 1)) + 1)) + 1))) 0 50).bind fun (vs1_1, vr3_2) =>
            (z525 vs1_1 0 100).bind fun (vs1_2, vr3_3) =>
            some (vs1_2, api_Letter.mk vr5.Id vr5.Slot vr5.Body vr5.Prio vr3_2 vr3_3))))))
    (some (z477.mk qs.L (IntKind.wrap .i64 ((IntKind.wrap .i64 ((IntKind.wrap .i64 ((IntKind.wrap .i64 ((IntKind.wrap .i64 ((IntKind.wrap .i64 (qs.at_ + 1)) + 1)) + 1)) + 1)) + 1)) + 1)), vr5))

noncomputable def z481 (qs : z477) (qat : Int) : Option (z477 × api_Letter) :=
  (z534 qs qat).bind fun vr5 =>
  (z484 qs vr5).bind fun (vs2, vl1) =>
  some (vs2, vl1)

/-! ### (*beaconfleet/command.Doer).Do$1 -/
noncomputable def z203 (qx : z386) (qx1 : api_Letter) : Option (Unit) :=
  some ()

/-! ### slices.IndexFunc[[]beaconfleet/command.done,beaconfleet/command.done] -/
noncomputable def z792 (qs : List z386) (qf : api_Letter) (vx : Int) : Option ((Int) ⊕ (Unit ⊕ Int)) :=
  cond (decide (vx < (qs.length : Int)))
    ((at? qs vx).bind fun vy1 =>
    (z203 vy1 qf).bind fun _ =>
    cond (decide (vy1.id_ = qf.Id))
      (some (.inr (.inr vx)))
      (some (.inl (IntKind.wrap .i64 (vx + 1)))))
    (some (.inr (.inl ())))

noncomputable def z789 (qs : List z386) (qf : api_Letter) : Option (Int) :=
  (loopO (z792 qs qf) 0).bind fun x => match x with
    | .inl _ =>
      some (-1)
    | .inr vx1_1 =>
      some vx1_1

/-! ### slices.ContainsFunc[[]beaconfleet/command.done,beaconfleet/command.done] -/
noncomputable def z726 (qs : List z386) (qf : api_Letter) : Option (Bool) :=
  (z789 qs qf).bind fun vr =>
  some (decide (0 ≤ vr))

/-! ### slices.Clone[[]beaconfleet/command.done,beaconfleet/command.done] -/
noncomputable def z669 (qs : List z386) : Option (List z386) :=
  gd (Nat.ble (([] : List z386).length + qs.length) LIM) (some qs)

/-! ### slices.Delete[[]beaconfleet/command.done,beaconfleet/command.done] -/
noncomputable def z729 (qs : List z386) (qi : Int) (qj : Int) : Option (List z386) :=
  gd (decide (0 ≤ qi) && decide (qi ≤ qj) && decide (qj ≤ (qs.length : Int)) && decide ((qs.length : Int) ≤ (qs.length : Int))) (cond (decide (qi = qj)) (some qs) (some (qs.take qi.toNat ++ qs.drop qj.toNat)))

/-! ### (*beaconfleet/command.Doer).Do -/
noncomputable def z208 (qx : z201) (qx1 : api_Letter) (qx2 : Int) : Option (Bool) :=
  cond (decide (qx1.Until ≤ qx2))
    (some true)
    ((z726 qx.l_ qx1).bind fun vr1_1 =>
    some vr1_1)

noncomputable def z222 (vx2 : List z386) (vx8 : Int) (vx9 : Int) : Option (Int) :=
  (at? vx2 vx9).bind fun vy7 =>
  (at? vx2 vx8).bind fun vy8 =>
  cond (decide (vy7.until_ < vy8.until_))
    (some vx9)
    (some vx8)

noncomputable def z217 (vx2 : List z386) : Int × Int → Option ((Int × Int) ⊕ (Int))
  | (vx8, vx9) =>
  cond (decide (vx9 < (vx2.length : Int)))
    ((z222 vx2 vx8 vx9).bind fun vx11_1 =>
    some (.inl (vx11_1, IntKind.wrap .i64 (vx9 + 1))))
    (some (.inr vx8))

noncomputable def z212 (qx : z201) (qx2 : Int) (vx2 : List z386) : Option (((List z386)) ⊕ ((List z386) ⊕ Unit)) :=
  cond (decide (qx.most_ < (vx2.length : Int)))
    ((loopO (z217 vx2) (0, 0)).bind fun vx12_1 =>
    (at? vx2 vx12_1).bind fun vy9 =>
    cond (decide (qx2 < vy9.until_))
      (some (.inr (.inr ())))
      ((z729 vx2 vx12_1 (IntKind.wrap .i64 (vx12_1 + 1))).bind fun vr4 =>
      some (.inl vr4)))
    (some (.inr (.inl vx2)))

noncomputable def z202 (qx : z201) (qx1 : api_Letter) (qx2 : Int) : Option ((List z386) × Int × Bool × Int) :=
  (z158 qx1).bind fun vr3 =>
  cond (!decide (vr3 = 0))
    (some (qx.l_, qx.time_, false, vr3))
    ((z41 qx2).bind fun vr1 =>
    cond (!vr1)
      (some (qx.l_, qx.time_, false, 1))
      (cond (decide (qx2 < qx.time_))
        (some (qx.l_, qx.time_, false, 7))
        ((z208 qx qx1 qx2).bind fun vx1 =>
        cond (vx1)
          (some (qx.l_, qx2, false, 0))
          ((z669 qx.l_).bind fun vr =>
          gd (Nat.ble (vr.length + ([z386.mk qx1.Id qx1.Until] : List z386).length) LIM) <|
          (loopO (z212 qx qx2) (vr ++ ([z386.mk qx1.Id qx1.Until] : List z386))).bind fun x => match x with
            | .inl vx13_1 =>
              some (vx13_1, qx2, true, 0)
            | .inr _ =>
              some (qx.l_, qx.time_, false, 12)))))

/-! ### beaconfleet/fleetref2.in -/
noncomputable def z556 (qn : Int) (qlow : Int) (qhigh : Int) : Option (Bool) :=
  cond (decide (qlow ≤ qn))
    (some (decide (qn ≤ qhigh)))
    (some false)

noncomputable def z555 (qn : Int) (qlow : Int) (qhigh : Int) : Option (Bool) :=
  (z556 qn qlow qhigh).bind fun vx1 =>
  some vx1

/-! ### internal/stringslite.IndexByte -/
noncomputable def z1175 (qs : List UInt8) (qc : Int) : Option (Unit) :=
  some ()

/-! ### strings.IndexByte -/
noncomputable def z1118 (qs : List UInt8) (qc : Int) : Option (Unit) :=
  (z1175 qs qc).bind fun _ =>
  some ()

/-! ### beaconfleet/fleetref2.only -/
noncomputable def z558 (qs : List UInt8) (qsome : List UInt8) (vx : Int) : Option ((Int) ⊕ (Unit ⊕ Unit)) :=
  cond (decide (vx < (qs.length : Int)))
    ((at? qs vx).bind fun vc1 =>
    (z1118 qsome (vc1.toNat : Int)).bind fun _ =>
    cond (decide ((Lib.indexByte qsome (vc1.toNat : Int).toNat.toUInt8) < 0))
      (some (.inr (.inr ())))
      (some (.inl (IntKind.wrap .i64 (vx + 1)))))
    (some (.inr (.inl ())))

noncomputable def z557 (qs : List UInt8) (qsome : List UInt8) : Option (Bool) :=
  (loopO (z558 qs qsome) 0).bind fun x => match x with
    | .inl _ =>
      some true
    | .inr _ =>
      some false

/-! ### beaconfleet/fleetref2.Key -/
noncomputable def z542 (qs : List UInt8) : Option (Bool) :=
  (z555 (qs.length : Int) 1 40).bind fun vr =>
  cond (vr)
    ((sub? qs 0 1).bind fun vs =>
    (z557 vs ([97, 98, 99, 100, 101, 102, 103, 104, 105, 106, 107, 108, 109, 110, 111, 112, 113, 114, 115, 116, 117, 118, 119, 120, 121, 122] : List UInt8)).bind fun vr1 =>
    cond (vr1)
      ((z557 qs ([97, 98, 99, 100, 101, 102, 103, 104, 105, 106, 107, 108, 109, 110, 111, 112, 113, 114, 115, 116, 117, 118, 119, 120, 121, 122, 48, 49, 50, 51, 52, 53, 54, 55, 56, 57, 45, 95] : List UInt8)).bind fun vr2 =>
      some vr2)
      (some false))
    (some false)

noncomputable def z541 (qs : List UInt8) : Option (Bool) :=
  (z542 qs).bind fun vx1 =>
  some vx1

/-! ### beaconfleet/fleetref2.Printed$1 -/
noncomputable def z553 (qr : Int) : Option (Bool) :=
  cond (decide (qr < 32))
    (some true)
    (some (decide (qr = 127)))

noncomputable def z552 (qr : Int) : Option (Bool) :=
  (z553 qr).bind fun vx1 =>
  some vx1

/-! ### strings.indexFunc -/
noncomputable def z1163 (qs : List UInt8) (qtruth : Bool) (vpos : Nat) : Option ((Nat) ⊕ (Unit ⊕ Int)) :=
  cond (decide (vpos < qs.length))
    ((some (dec qs vpos)).bind fun vd1 =>
    (z552 ((vd1.1 : Nat) : Int)).bind fun vr1 =>
    cond (vr1 == qtruth)
      (some (.inr (.inr ((vpos : Nat) : Int))))
      (some (.inl (vpos + vd1.2 : Nat))))
    (some (.inr (.inl ())))

noncomputable def z1162 (qs : List UInt8) (qtruth : Bool) : Option (Int) :=
  (loopO (z1163 qs qtruth) (0 : Nat)).bind fun x => match x with
    | .inl _ =>
      some (-1)
    | .inr vx1 =>
      some vx1

/-! ### strings.IndexFunc -/
noncomputable def z1119 (qs : List UInt8) : Option (Int) :=
  (z1162 qs true).bind fun vr2 =>
  some vr2

/-! ### strings.ContainsFunc -/
noncomputable def z1105 (qs : List UInt8) : Option (Bool) :=
  (z1119 qs).bind fun vr =>
  some (decide (0 ≤ vr))

/-! ### beaconfleet/fleetref2.Printed -/
noncomputable def z554 (qs : List UInt8) : Option (Bool) :=
  (utf8_ValidString qs).bind fun vr =>
  cond (vr)
    ((z1105 qs).bind fun vr1 =>
    some (!vr1))
    (some false)

noncomputable def z551 (qs : List UInt8) : Option (Bool) :=
  (z554 qs).bind fun vx1 =>
  some vx1

/-! ### beaconfleet/fleetref2.Moment -/
noncomputable def z550 (qat : Int) : Option (Bool) :=
  (z555 qat 0 345686399999).bind fun vr =>
  some vr

/-! ### beaconfleet/fleetref2.LetterFault -/
noncomputable def z544 (ql : api_Letter) : Option (Bool) :=
  (z541 ql.Id).bind fun vr3 =>
  cond (!vr3)
    (some true)
    (cond (!decide (ql.Slot = ([] : List UInt8)))
      ((z541 ql.Slot).bind fun vr3_1 =>
      some (!vr3_1))
      (some false))

noncomputable def z545 (ql : api_Letter) : Option (Bool) :=
  (z555 ql.Prio 0 9).bind fun vr =>
  cond (!vr)
    (some true)
    ((z550 ql.At).bind fun vr1 =>
    cond (!vr1)
      (some true)
      (cond (decide (ql.Until ≤ ql.At))
        (some true)
        (some (decide (345686400000 < ql.Until)))))

noncomputable def z543 (ql : api_Letter) : Option (Int) :=
  (z544 ql).bind fun vx1 =>
  cond (vx1)
    (some 5)
    (cond (decide (1000 < (ql.Body.length : Int)))
      (some 2)
      ((z551 ql.Body).bind fun vr2 =>
      cond (!vr2)
        (some 3)
        ((z545 ql).bind fun vx2_1 =>
        cond (vx2_1)
          (some 1)
          (some 0))))

/-! ### slices.Clone[[]beaconfleet/api.Letter,beaconfleet/api.Letter] -/
noncomputable def z666 (qs : List api_Letter) : Option (List api_Letter) :=
  gd (Nat.ble (([] : List api_Letter).length + qs.length) LIM) (some qs)

/-! ### (*beaconfleet/command.Doer).Done -/
noncomputable def z229 (qd : z201) : (List (List UInt8)) × Int → Option (((List (List UInt8)) × Int) ⊕ ((List (List UInt8))))
  | (vout, vx) =>
  cond (decide (vx < (qd.l_.length : Int)))
    ((at? qd.l_ vx).bind fun vy1 =>
    gd (Nat.ble (vout.length + ([vy1.id_] : List (List UInt8)).length) LIM) <|
    some (.inl (vout ++ ([vy1.id_] : List (List UInt8)), IntKind.wrap .i64 (vx + 1))))
    (some (.inr vout))

noncomputable def z226 (qd : z201) : Option ((List (List UInt8))) :=
  (loopO (z229 qd) ([], 0)).bind fun vout1_1 =>
  some vout1_1

/-! ### slices.Equal[[]string,string] -/
noncomputable def z759 (qs1 : List (List UInt8)) (qs2 : List (List UInt8)) (vx : Int) : Option ((Int) ⊕ (Unit ⊕ Unit)) :=
  cond (decide (vx < (qs1.length : Int)))
    ((at? qs1 vx).bind fun vy2 =>
    (at? qs2 vx).bind fun vy3 =>
    cond (!decide (vy2 = vy3))
      (some (.inr (.inr ())))
      (some (.inl (IntKind.wrap .i64 (vx + 1)))))
    (some (.inr (.inl ())))

noncomputable def z756 (qs1 : List (List UInt8)) (qs2 : List (List UInt8)) : Option (Bool) :=
  cond (!decide ((qs1.length : Int) = (qs2.length : Int)))
    (some false)
    ((loopO (z759 qs1 qs2) 0).bind fun x => match x with
      | .inl _ =>
        some true
      | .inr _ =>
        some false)

/-! ### (*beaconfleet/fleetmake.Stream).Letters$1 -/
noncomputable def z489 (qa : api_Letter) (qb : api_Letter) : Option (Unit) :=
  (z1102 qa.Id qb.Id).bind fun _ =>
  some ()

/-! ### slices.insertionSortCmpFunc[beaconfleet/api.Letter] -/
noncomputable def z842 (qa : Int) (vl3 : List api_Letter) (vj1 : Int) : Option (Bool) :=
  cond (decide (qa < vj1))
    ((at? vl3 vj1).bind fun vy15 =>
    (at? vl3 (IntKind.wrap .i64 (vj1 - 1))).bind fun vy16 =>
    (z489 vy15 vy16).bind fun _ =>
    some (decide ((Lib.compareBytes vy15.Id vy16.Id) < 0)))
    (some false)

noncomputable def z837 (qa : Int) : (List api_Letter) × Int → Option (((List api_Letter) × Int) ⊕ ((List api_Letter)))
  | (vl3, vj1) =>
  (z842 qa vl3 vj1).bind fun vx4_1 =>
  cond (vx4_1)
    ((at? vl3 (IntKind.wrap .i64 (vj1 - 1))).bind fun vy17 =>
    (at? vl3 vj1).bind fun vy18 =>
    (at? (vl3.set vj1.toNat vy17) (IntKind.wrap .i64 (vj1 - 1))).bind fun vy19 =>
    some (.inl ((vl3.set vj1.toNat vy17).set (IntKind.wrap .i64 (vj1 - 1)).toNat vy18, IntKind.wrap .i64 (vj1 - 1))))
    (some (.inr vl3))

noncomputable def z832 (qa : Int) (qb : Int) : (List api_Letter) × Int → Option (((List api_Letter) × Int) ⊕ ((List api_Letter)))
  | (vl, vi) =>
  cond (decide (vi < qb))
    ((loopO (z837 qa) (vl, vi)).bind fun vl4_1 =>
    some (.inl (vl4_1, IntKind.wrap .i64 (vi + 1))))
    (some (.inr vl))

noncomputable def z829 (qdata : List api_Letter) (qa : Int) (qb : Int) : Option ((List api_Letter)) :=
  (loopO (z832 qa qb) (qdata, IntKind.wrap .i64 (qa + 1))).bind fun vl5_1 =>
  some vl5_1

/-! ### slices.stableCmpFunc[beaconfleet/api.Letter] -/
noncomputable def z932 (qn : Int) : (List api_Letter) × Int × Int → Option (((List api_Letter) × Int × Int) ⊕ (((List api_Letter) × Int)))
  | (vl, va, vb) =>
  cond (decide (vb ≤ qn))
    ((z829 vl va vb).bind fun vl6_1 =>
    gd (vl6_1.length == vl.length) <|
    some (.inl (vl6_1, vb, IntKind.wrap .i64 (vb + 20))))
    (some (.inr (vl, va)))

noncomputable def z942 (qn : Int) (vblockSize : Int) : Unit → Option ((Unit) ⊕ (Unit))
  | _ =>
  cond (decide ((IntKind.wrap .i64 ((2 : Int) * vblockSize)) ≤ qn))
    (none)
    (some (.inr ()))

noncomputable def z937 (qn : Int) (vblockSize : Int) : Option ((Int) ⊕ (Unit)) :=
  cond (decide (vblockSize < qn))
    ((loopO (z942 qn vblockSize) ()).bind fun _ =>
    cond (decide ((IntKind.wrap .i64 ((0 : Int) + vblockSize)) < qn))
      (none)
      (some (.inl (IntKind.wrap .i64 (vblockSize * 2)))))
    (some (.inr ()))

noncomputable def z929 (qdata : List api_Letter) (qn : Int) : Option ((List api_Letter)) :=
  (loopO (z932 qn) (qdata, 0, 20)).bind fun (vl1_1, va1_1) =>
  (z829 vl1_1 va1_1 qn).bind fun vl6_2 =>
  gd (vl6_2.length == vl1_1.length) <|
  (loopO (z937 qn) 20).bind fun _ =>
  some vl6_2

/-! ### slices.SortStableFunc[[]beaconfleet/api.Letter,beaconfleet/api.Letter] -/
noncomputable def z806 (qx : List api_Letter) : Option ((List api_Letter)) :=
  (z929 qx (qx.length : Int)).bind fun vl2 =>
  gd (vl2.length == qx.length) <|
  some vl2

/-! ### (*beaconfleet/fleetmake.Stream).Letters$2 -/
noncomputable def z492 (qa : api_Letter) (qb : api_Letter) : Option (Unit) :=
  some ()

/-! ### slices.CompactFunc[[]beaconfleet/api.Letter,beaconfleet/api.Letter] -/
noncomputable def z685 (qx : List api_Letter) (vx : Int) (vl4 : List api_Letter) (vx6 : Int) (vx7 : Int) : Option (((List api_Letter) × Int)) :=
  gd (decide (0 ≤ vx) && decide (0 ≤ vx7) && decide (vx7 < (qx.length : Int) - vx)) <|
  (at? vl4 (vx + vx7)).bind fun vy13 =>
  gd (decide (0 ≤ vx) && decide (0 ≤ (IntKind.wrap .i64 (vx7 - 1))) && decide ((IntKind.wrap .i64 (vx7 - 1)) < (qx.length : Int) - vx)) <|
  (at? vl4 (vx + (IntKind.wrap .i64 (vx7 - 1)))).bind fun vy14 =>
  (z492 vy13 vy14).bind fun _ =>
  cond (!(decide (vy13.Id = vy14.Id)))
    ((at? vl4 vx6).bind fun vy15 =>
    some (vl4.set vx6.toNat vy13, IntKind.wrap .i64 (vx6 + 1)))
    (some (vl4, vx6))

noncomputable def z680 (qx : List api_Letter) (vx : Int) : (List api_Letter) × Int × Int → Option (((List api_Letter) × Int × Int) ⊕ (((List api_Letter) × Int)))
  | (vl4, vx6, vx7) =>
  cond (decide (vx7 < (((qx.length : Int).toNat - vx.toNat : Nat) : Int)))
    ((z685 qx vx vl4 vx6 vx7).bind fun (vl6_1, vx9_1) =>
    some (.inl (vl6_1, vx9_1, IntKind.wrap .i64 (vx7 + 1))))
    (some (.inr (vl4, vx6)))

noncomputable def z675 (qx : List api_Letter) (vx : Int) : Option ((Int) ⊕ (Unit ⊕ (List api_Letter))) :=
  cond (decide (vx < (qx.length : Int)))
    ((at? qx vx).bind fun vy8 =>
    (at? qx (IntKind.wrap .i64 (vx - 1))).bind fun vy9 =>
    (z492 vy8 vy9).bind fun _ =>
    cond (decide (vy8.Id = vy9.Id))
      (gd (decide (0 ≤ vx) && decide (vx ≤ (qx.length : Int)) && decide ((qx.length : Int) ≤ (qx.length : Int))) <|
      (loopO (z680 qx vx) (qx, vx, 1)).bind fun (vl7_1, vx10_1) =>
      gd (decide (0 ≤ vx10_1) && decide (vx10_1 ≤ (vl7_1.length : Int)) && decide ((vl7_1.length : Int) ≤ (vl7_1.length : Int))) <|
      gd (decide (0 ≤ vx10_1) && decide (vx10_1 ≤ ((vl7_1.take vx10_1.toNat ++ (List.replicate ((vl7_1.length : Int).toNat - vx10_1.toNat) (api_Letter.mk ([] : List UInt8) ([] : List UInt8) ([] : List UInt8) 0 0 0) ++ vl7_1.drop (vx10_1.toNat + ((vl7_1.length : Int).toNat - vx10_1.toNat)))).length : Int))) <|
      some (.inr (.inr ((vl7_1.take vx10_1.toNat ++ (List.replicate ((vl7_1.length : Int).toNat - vx10_1.toNat) (api_Letter.mk ([] : List UInt8) ([] : List UInt8) ([] : List UInt8) 0 0 0) ++ vl7_1.drop (vx10_1.toNat + ((vl7_1.length : Int).toNat - vx10_1.toNat)))).take vx10_1.toNat))))
      (some (.inl (IntKind.wrap .i64 (vx + 1)))))
    (some (.inr (.inl ())))

noncomputable def z672 (qx : List api_Letter) : Option ((List api_Letter)) :=
  cond (decide ((qx.length : Int) < 2))
    (some qx)
    ((loopO (z675 qx) 1).bind fun x => match x with
      | .inl _ =>
        some qx
      | .inr vx11_1 =>
        some vx11_1)

/-! ### (*beaconfleet/fleetmake.Stream).Letters -/
noncomputable def z497 (qmany : Int) : z477 × (List api_Letter) × Int → Option ((z477 × (List api_Letter) × Int) ⊕ ((z477 × (List api_Letter))))
  | (vs, vout, vx) =>
  cond (decide (vx < qmany))
    ((z528 vs ([0, 5, 5, 9] : List Int)).bind fun vr1 =>
    (z481 (z477.mk vs.L (IntKind.wrap .i64 (vs.at_ + 1))) vr1).bind fun (vs3_1, vr7_1) =>
    gd (Nat.ble (vout.length + ([vr7_1] : List api_Letter).length) LIM) <|
    some (.inl (vs3_1, vout ++ ([vr7_1] : List api_Letter), IntKind.wrap .i64 (vx + 1))))
    (some (.inr (vs, vout)))

noncomputable def z502 (vs1_1 : z477) (vout1_1 : List api_Letter) : Option ((List api_Letter)) :=
  (z478 vs1_1 8).bind fun vr2 =>
  cond (!vr2)
    ((z806 vout1_1).bind fun vl =>
    gd (vl.length == vout1_1.length) <|
    (z672 vl).bind fun vr3 =>
    some vr3)
    (some vout1_1)

noncomputable def z488 (qs : z477) (qmany : Int) : Option (z477 × (List api_Letter)) :=
  (loopO (z497 qmany) (qs, [], 0)).bind fun (vs1_1, vout1_1) =>
  (z502 vs1_1 vout1_1).bind fun vout2_1 =>
  some (z477.mk vs1_1.L (IntKind.wrap .i64 (vs1_1.at_ + 1)), vout2_1)

/-! ### beaconfleet/command.Order$1 -/
noncomputable def z365 (qy : api_Letter) (qx : api_Letter) : Option (Unit) :=
  some ()

/-! ### slices.IndexFunc[[]beaconfleet/api.Letter,beaconfleet/api.Letter] -/
noncomputable def z774 (qs : List api_Letter) (qf : api_Letter) (vx : Int) : Option ((Int) ⊕ (Unit ⊕ Int)) :=
  cond (decide (vx < (qs.length : Int)))
    ((at? qs vx).bind fun vy1 =>
    (z365 vy1 qf).bind fun _ =>
    cond (decide (vy1.Id = qf.Id))
      (some (.inr (.inr vx)))
      (some (.inl (IntKind.wrap .i64 (vx + 1)))))
    (some (.inr (.inl ())))

noncomputable def z771 (qs : List api_Letter) (qf : api_Letter) : Option (Int) :=
  (loopO (z774 qs qf) 0).bind fun x => match x with
    | .inl _ =>
      some (-1)
    | .inr vx1_1 =>
      some vx1_1

/-! ### slices.ContainsFunc[[]beaconfleet/api.Letter,beaconfleet/api.Letter] -/
noncomputable def z719 (qs : List api_Letter) (qf : api_Letter) : Option (Bool) :=
  (z771 qs qf).bind fun vr =>
  some (decide (0 ≤ vr))

/-! ### beaconfleet/command.byOrder -/
noncomputable def z383 (qa : api_Letter) (qb : api_Letter) : Option (Int) :=
  (z130 qb.Prio qa.Prio).bind fun vr =>
  (z130 qa.At qb.At).bind fun vr1 =>
  (z1102 qa.Id qb.Id).bind fun _ =>
  (z142 ([vr, vr1, Lib.compareBytes qa.Id qb.Id] : List Int)).bind fun vr2 =>
  some vr2

/-! ### slices.insertionSortCmpFunc[beaconfleet/api.Letter] -/
noncomputable def z825 (qa : Int) (vl3 : List api_Letter) (vj1 : Int) : Option (Bool) :=
  cond (decide (qa < vj1))
    ((at? vl3 vj1).bind fun vy15 =>
    (at? vl3 (IntKind.wrap .i64 (vj1 - 1))).bind fun vy16 =>
    (z383 vy15 vy16).bind fun vr3_3 =>
    some (decide (vr3_3 < 0)))
    (some false)

noncomputable def z820 (qa : Int) : (List api_Letter) × Int → Option (((List api_Letter) × Int) ⊕ ((List api_Letter)))
  | (vl3, vj1) =>
  (z825 qa vl3 vj1).bind fun vx4_1 =>
  cond (vx4_1)
    ((at? vl3 (IntKind.wrap .i64 (vj1 - 1))).bind fun vy17 =>
    (at? vl3 vj1).bind fun vy18 =>
    (at? (vl3.set vj1.toNat vy17) (IntKind.wrap .i64 (vj1 - 1))).bind fun vy19 =>
    some (.inl ((vl3.set vj1.toNat vy17).set (IntKind.wrap .i64 (vj1 - 1)).toNat vy18, IntKind.wrap .i64 (vj1 - 1))))
    (some (.inr vl3))

noncomputable def z815 (qa : Int) (qb : Int) : (List api_Letter) × Int → Option (((List api_Letter) × Int) ⊕ ((List api_Letter)))
  | (vl, vi) =>
  cond (decide (vi < qb))
    ((loopO (z820 qa) (vl, vi)).bind fun vl4_1 =>
    some (.inl (vl4_1, IntKind.wrap .i64 (vi + 1))))
    (some (.inr vl))

noncomputable def z812 (qdata : List api_Letter) (qa : Int) (qb : Int) : Option ((List api_Letter)) :=
  (loopO (z815 qa qb) (qdata, IntKind.wrap .i64 (qa + 1))).bind fun vl5_1 =>
  some vl5_1

/-! ### slices.pdqsortCmpFunc[beaconfleet/api.Letter] -/
noncomputable def z900 (qx : List api_Letter) (qx1 : Int) (qx2 : Int) (qx3 : Int) : Unit → Option ((Unit) ⊕ ((List api_Letter)))
  | _ =>
  cond (decide ((IntKind.wrap .i64 (qx2 - qx1)) ≤ 12))
    ((z812 qx qx1 qx2).bind fun vl6_1 =>
    gd (vl6_1.length == qx.length) <|
    some (.inr vl6_1))
    (cond (decide (qx3 = 0))
      (none)
      (none))

noncomputable def z897 (qx : List api_Letter) (qx1 : Int) (qx2 : Int) (qx3 : Int) : Option ((List api_Letter)) :=
  (loopO (z900 qx qx1 qx2 qx3) ()).bind fun vl1 =>
  some vl1

/-! ### slices.SortFunc[[]beaconfleet/api.Letter,beaconfleet/api.Letter] -/
noncomputable def z797 (qx : List api_Letter) : Option ((List api_Letter)) :=
  (bits_Len (IntKind.wrap .u64 ((qx.length : Int)))).bind fun vr1 =>
  (z897 qx 0 (qx.length : Int) vr1).bind fun vl2 =>
  gd (vl2.length == qx.length) <|
  some vl2

/-! ### beaconfleet/command.Order -/
noncomputable def z378 (ql : List api_Letter) (vx : Int) : Option ((Int) ⊕ (Unit ⊕ Int)) :=
  cond (decide (vx < (ql.length : Int)))
    ((at? ql vx).bind fun vy1 =>
    (z158 vy1).bind fun vr3_1 =>
    cond (!decide (vr3_1 = 0))
      (some (.inr (.inr vr3_1)))
      ((sub? ql 0 vx).bind fun vl1 =>
      (z719 vl1 vy1).bind fun vr1_1 =>
      cond (vr1_1)
        (some (.inr (.inr 6)))
        (some (.inl (IntKind.wrap .i64 (vx + 1))))))
    (some (.inr (.inl ())))

noncomputable def z364 (ql : List api_Letter) : Option ((List api_Letter) × Int) :=
  cond (decide (500 < (ql.length : Int)))
    (some ([], 2))
    ((loopO (z378 ql) 0).bind fun x => match x with
      | .inl _ =>
        (z666 ql).bind fun vr =>
        (z797 vr).bind fun vl2 =>
        gd (vl2.length == vr.length) <|
        some (vl2, 0)
      | .inr vx1_1 =>
        some ([], vx1_1))

/-! ### beaconfleet/fleetref2.LettersFault$1 -/
noncomputable def z548 (qo : api_Letter) (qx : api_Letter) : Option (Unit) :=
  some ()

/-! ### slices.IndexFunc[[]beaconfleet/api.Letter,beaconfleet/api.Letter] -/
noncomputable def z780 (qs : List api_Letter) (qf : api_Letter) (vx : Int) : Option ((Int) ⊕ (Unit ⊕ Int)) :=
  cond (decide (vx < (qs.length : Int)))
    ((at? qs vx).bind fun vy1 =>
    (z548 vy1 qf).bind fun _ =>
    cond (decide (vy1.Id = qf.Id))
      (some (.inr (.inr vx)))
      (some (.inl (IntKind.wrap .i64 (vx + 1)))))
    (some (.inr (.inl ())))

noncomputable def z779 (qs : List api_Letter) (qf : api_Letter) : Option (Int) :=
  (loopO (z780 qs qf) 0).bind fun x => match x with
    | .inl _ =>
      some (-1)
    | .inr vx1_1 =>
      some vx1_1

/-! ### slices.ContainsFunc[[]beaconfleet/api.Letter,beaconfleet/api.Letter] -/
noncomputable def z722 (qs : List api_Letter) (qf : api_Letter) : Option (Bool) :=
  (z779 qs qf).bind fun vr =>
  some (decide (0 ≤ vr))

/-! ### beaconfleet/fleetref2.LettersFault -/
noncomputable def z549 (ql : List api_Letter) (vx : Int) : Option ((Int) ⊕ (Unit ⊕ Int)) :=
  cond (decide (vx < (ql.length : Int)))
    ((at? ql vx).bind fun vy1 =>
    (z543 vy1).bind fun vr4_1 =>
    cond (!decide (vr4_1 = 0))
      (some (.inr (.inr vr4_1)))
      ((sub? ql 0 vx).bind fun vl1 =>
      (z722 vl1 vy1).bind fun vr1_1 =>
      cond (vr1_1)
        (some (.inr (.inr 6)))
        (some (.inl (IntKind.wrap .i64 (vx + 1))))))
    (some (.inr (.inl ())))

noncomputable def z547 (ql : List api_Letter) : Option (Int) :=
  cond (decide (500 < (ql.length : Int)))
    (some 2)
    ((loopO (z549 ql) 0).bind fun x => match x with
      | .inl _ =>
        some 0
      | .inr vx1_1 =>
        some vx1_1)

/-! ### beaconfleet/fleetref2.sign -/
noncomputable def z559 (qn : Int) : Option (Int) :=
  cond (decide (qn < 0))
    (some (-1))
    (cond (decide (0 < qn))
      (some 1)
      (some 0))

/-! ### beaconfleet/fleetref2.LetterOrder -/
noncomputable def z546 (qa : api_Letter) (qb : api_Letter) : Option (Int) :=
  cond (!decide (qa.Prio = qb.Prio))
    ((z559 (IntKind.wrap .i64 (qb.Prio - qa.Prio))).bind fun vr =>
    some vr)
    (cond (!decide (qa.At = qb.At))
      ((z559 (IntKind.wrap .i64 (qa.At - qb.At))).bind fun vr1 =>
      some vr1)
      ((z1102 qa.Id qb.Id).bind fun _ =>
      some (Lib.compareBytes qa.Id qb.Id)))

/-! ### internal/stringslite.Index -/
noncomputable def z1180 (qx : List UInt8) (qx1 : List UInt8) : Option (Bool) :=
  cond (decide ((qx1.length : Int) = 0))
    (some true)
    (some (decide (qx1 = qx)))

noncomputable def z1174 (qx : List UInt8) (qx1 : List UInt8) : Option (Int) :=
  (z1180 qx qx1).bind fun vx1 =>
  cond (vx1)
    (some 0)
    (cond (decide ((qx1.length : Int) = 1))
      ((at? qx1 0).bind fun vc =>
      (z1175 qx (vc.toNat : Int)).bind fun _ =>
      some (Lib.indexByte qx (vc.toNat : Int).toNat.toUInt8))
      (cond (decide ((qx.length : Int) ≤ (qx1.length : Int)))
        (some (-1))
        (none)))

/-! ### internal/stringslite.Cut -/
noncomputable def z1164 (qs : List UInt8) (qsep : List UInt8) : Option ((List UInt8) × (List UInt8) × Bool) :=
  (z1174 qs qsep).bind fun vr =>
  cond (decide (0 ≤ vr))
    ((sub? qs 0 vr).bind fun vs =>
    (sub? qs (IntKind.wrap .i64 (vr + (qsep.length : Int))) (qs.length : Int)).bind fun vs1 =>
    some (vs, vs1, true))
    (some (qs, ([] : List UInt8), false))

/-! ### strings.Cut -/
noncomputable def z1114 (qs : List UInt8) (qsep : List UInt8) : Option ((List UInt8) × (List UInt8) × Bool) :=
  (z1164 qs qsep).bind fun (vr1, vr2, vr3) =>
  some (vr1, vr2, vr3)

/-! ### beaconfleet/base.Dotted -/
noncomputable def z10 (qmost : Int) : (List UInt8) × Int → Option (((List UInt8) × Int) ⊕ (Unit ⊕ Bool))
  | (vs, vn) =>
  cond (decide (vn < qmost))
    ((z1114 vs ([46] : List UInt8)).bind fun (vr2, vr4_1, vr5_1) =>
    (base_Key vr2).bind fun vr3 =>
    cond (!vr3)
      (some (.inr (.inr false)))
      (cond (!vr5_1)
        (some (.inr (.inr true)))
        (some (.inl (vr4_1, IntKind.wrap .i64 (vn + 1))))))
    (some (.inr (.inl ())))

noncomputable def z6 (qs : List UInt8) (qmost : Int) : Option (Bool) :=
  (loopO (z10 qmost) (qs, 0)).bind fun x => match x with
    | .inl _ =>
      some false
    | .inr vx1 =>
      some vx1

/-! ### beaconfleet/twin.isName -/
noncomputable def z1252 (qs : List UInt8) : Option (Bool) :=
  (z6 qs 8).bind fun vr6 =>
  some vr6

/-! ### beaconfleet/twin.valueFault -/
noncomputable def z1271 (qv : api_Value) : Option (api_Value ⊕ Unit) :=
  cond (decide (qv.Kind = 0))
    (some (.inl (api_Value.mk qv.Kind false 0 ([] : List UInt8))))
    (cond (decide (qv.Kind = 1))
      (some (.inl (api_Value.mk qv.Kind qv.Flag 0 ([] : List UInt8))))
      (cond (decide (qv.Kind = 2))
        (some (.inl (api_Value.mk qv.Kind false qv.Number ([] : List UInt8))))
        (cond (decide (qv.Kind = 3))
          (some (.inl (api_Value.mk qv.Kind false 0 qv.Words)))
          (some (.inr ())))))

noncomputable def z1268 (qv : api_Value) : Option (Int) :=
  (z1271 qv).bind fun x => match x with
    | .inl vused1 =>
      cond (!(decide (qv.Kind = vused1.Kind) && ((qv.Flag == vused1.Flag) && (decide (qv.Number = vused1.Number) && (decide (qv.Words = vused1.Words) && true)))))
        (some 3)
        ((base_Out qv.Number (-1000000000) 1000000000).bind fun vr =>
        cond (vr)
          (some 1)
          (cond (decide (1000 < (qv.Words.length : Int)))
            (some 2)
            ((z81 qv.Words).bind fun vr1 =>
            cond (!vr1)
              (some 3)
              (some 0))))
    | .inr _ =>
      some 4

/-! ### cmp.isNaN[string] -/
noncomputable def z155 (qx : List UInt8) : Option (Unit) :=
  some ()

/-! ### cmp.Less[string] -/
noncomputable def z136 (qx : List UInt8) (qy : List UInt8) : Option (Bool) :=
  (z155 qx).bind fun _ =>
  cond (!decide (qx = qx))
    ((z155 qy).bind fun _ =>
    cond (!(!decide (qy = qy)))
      (some true)
      (some (Op.bytesLess qx qy)))
    (some (Op.bytesLess qx qy))

noncomputable def z133 (qx : List UInt8) (qy : List UInt8) : Option (Bool) :=
  (z136 qx qy).bind fun vx1 =>
  some vx1

/-! ### slices.insertionSortOrdered[string] -/
noncomputable def z893 (qa : Int) (vl3 : List (List UInt8)) (vj1 : Int) : Option (Bool) :=
  cond (decide (qa < vj1))
    ((at? vl3 vj1).bind fun vy15 =>
    (at? vl3 (IntKind.wrap .i64 (vj1 - 1))).bind fun vy16 =>
    (z133 vy15 vy16).bind fun vr3 =>
    some vr3)
    (some false)

noncomputable def z888 (qa : Int) : (List (List UInt8)) × Int → Option (((List (List UInt8)) × Int) ⊕ ((List (List UInt8))))
  | (vl3, vj1) =>
  (z893 qa vl3 vj1).bind fun vx4_1 =>
  cond (vx4_1)
    ((at? vl3 (IntKind.wrap .i64 (vj1 - 1))).bind fun vy17 =>
    (at? vl3 vj1).bind fun vy18 =>
    (at? (vl3.set vj1.toNat vy17) (IntKind.wrap .i64 (vj1 - 1))).bind fun vy19 =>
    some (.inl ((vl3.set vj1.toNat vy17).set (IntKind.wrap .i64 (vj1 - 1)).toNat vy18, IntKind.wrap .i64 (vj1 - 1))))
    (some (.inr vl3))

noncomputable def z883 (qa : Int) (qb : Int) : (List (List UInt8)) × Int → Option (((List (List UInt8)) × Int) ⊕ ((List (List UInt8))))
  | (vl, vi) =>
  cond (decide (vi < qb))
    ((loopO (z888 qa) (vl, vi)).bind fun vl4_1 =>
    some (.inl (vl4_1, IntKind.wrap .i64 (vi + 1))))
    (some (.inr vl))

noncomputable def z880 (qdata : List (List UInt8)) (qa : Int) (qb : Int) : Option ((List (List UInt8))) :=
  (loopO (z883 qa qb) (qdata, IntKind.wrap .i64 (qa + 1))).bind fun vl5_1 =>
  some vl5_1

/-! ### slices.pdqsortOrdered[string] -/
noncomputable def z924 (qx : List (List UInt8)) (qx1 : Int) (qx2 : Int) (qx3 : Int) : Unit → Option ((Unit) ⊕ ((List (List UInt8))))
  | _ =>
  cond (decide ((IntKind.wrap .i64 (qx2 - qx1)) ≤ 12))
    ((z880 qx qx1 qx2).bind fun vl6_1 =>
    gd (vl6_1.length == qx.length) <|
    some (.inr vl6_1))
    (cond (decide (qx3 = 0))
      (none)
      (none))

noncomputable def z921 (qx : List (List UInt8)) (qx1 : Int) (qx2 : Int) (qx3 : Int) : Option ((List (List UInt8))) :=
  (loopO (z924 qx qx1 qx2 qx3) ()).bind fun vl1 =>
  some vl1

/-! ### slices.Sort[[]string,string] -/
noncomputable def z809 (qx : List (List UInt8)) : Option ((List (List UInt8))) :=
  (bits_Len (IntKind.wrap .u64 ((qx.length : Int)))).bind fun vr1 =>
  (z921 qx 0 (qx.length : Int) vr1).bind fun vl2 =>
  gd (vl2.length == qx.length) <|
  some vl2

/-! ### slices.Compact[[]string,string] -/
noncomputable def z702 (qs : List (List UInt8)) (vk : Int) (vl4 : List (List UInt8)) (vk6 : Int) (vk2_1 : Int) : Option (((List (List UInt8)) × Int)) :=
  gd (decide (0 ≤ vk) && decide (0 ≤ vk2_1) && decide (vk2_1 < (qs.length : Int) - vk)) <|
  (at? vl4 (vk + vk2_1)).bind fun vy13 =>
  gd (decide (0 ≤ vk) && decide (0 ≤ (IntKind.wrap .i64 (vk2_1 - 1))) && decide ((IntKind.wrap .i64 (vk2_1 - 1)) < (qs.length : Int) - vk)) <|
  (at? vl4 (vk + (IntKind.wrap .i64 (vk2_1 - 1)))).bind fun vy14 =>
  cond (!decide (vy13 = vy14))
    ((at? vl4 vk6).bind fun vy15 =>
    some (vl4.set vk6.toNat vy13, IntKind.wrap .i64 (vk6 + 1)))
    (some (vl4, vk6))

noncomputable def z697 (qs : List (List UInt8)) (vk : Int) : (List (List UInt8)) × Int × Int → Option (((List (List UInt8)) × Int × Int) ⊕ (((List (List UInt8)) × Int)))
  | (vl4, vk6, vk2_1) =>
  cond (decide (vk2_1 < (((qs.length : Int).toNat - vk.toNat : Nat) : Int)))
    ((z702 qs vk vl4 vk6 vk2_1).bind fun (vl6_1, vk8_1) =>
    some (.inl (vl6_1, vk8_1, IntKind.wrap .i64 (vk2_1 + 1))))
    (some (.inr (vl4, vk6)))

noncomputable def z692 (qs : List (List UInt8)) (vk : Int) : Option ((Int) ⊕ (Unit ⊕ (List (List UInt8)))) :=
  cond (decide (vk < (qs.length : Int)))
    ((at? qs vk).bind fun vy8 =>
    (at? qs (IntKind.wrap .i64 (vk - 1))).bind fun vy9 =>
    cond (decide (vy8 = vy9))
      (gd (decide (0 ≤ vk) && decide (vk ≤ (qs.length : Int)) && decide ((qs.length : Int) ≤ (qs.length : Int))) <|
      (loopO (z697 qs vk) (qs, vk, 1)).bind fun (vl7_1, vk9_1) =>
      gd (decide (0 ≤ vk9_1) && decide (vk9_1 ≤ (vl7_1.length : Int)) && decide ((vl7_1.length : Int) ≤ (vl7_1.length : Int))) <|
      gd (decide (0 ≤ vk9_1) && decide (vk9_1 ≤ ((vl7_1.take vk9_1.toNat ++ (List.replicate ((vl7_1.length : Int).toNat - vk9_1.toNat) ([] : List UInt8) ++ vl7_1.drop (vk9_1.toNat + ((vl7_1.length : Int).toNat - vk9_1.toNat)))).length : Int))) <|
      some (.inr (.inr ((vl7_1.take vk9_1.toNat ++ (List.replicate ((vl7_1.length : Int).toNat - vk9_1.toNat) ([] : List UInt8) ++ vl7_1.drop (vk9_1.toNat + ((vl7_1.length : Int).toNat - vk9_1.toNat)))).take vk9_1.toNat))))
      (some (.inl (IntKind.wrap .i64 (vk + 1)))))
    (some (.inr (.inl ())))

noncomputable def z689 (qs : List (List UInt8)) : Option ((List (List UInt8))) :=
  cond (decide ((qs.length : Int) < 2))
    (some qs)
    ((loopO (z692 qs) 1).bind fun x => match x with
      | .inl _ =>
        some qs
      | .inr vx1 =>
        some vx1)

/-! ### beaconfleet/twin.names -/
noncomputable def z1263 (vy3 : List api_Prop) : (List (List UInt8)) × Int → Option (((List (List UInt8)) × Int) ⊕ ((List (List UInt8))))
  | (vout3, vx2) =>
  cond (decide (vx2 < (vy3.length : Int)))
    ((at? vy3 vx2).bind fun vy5 =>
    gd (Nat.ble (vout3.length + ([vy5.Name] : List (List UInt8)).length) LIM) <|
    some (.inl (vout3 ++ ([vy5.Name] : List (List UInt8)), IntKind.wrap .i64 (vx2 + 1))))
    (some (.inr vout3))

noncomputable def z1258 (qlists : List (List api_Prop)) : (List (List UInt8)) × Int → Option (((List (List UInt8)) × Int) ⊕ ((List (List UInt8))))
  | (vout, vx) =>
  cond (decide (vx < (qlists.length : Int)))
    ((at? qlists vx).bind fun vy3 =>
    (loopO (z1263 vy3) (vout, 0)).bind fun vout4_1 =>
    some (.inl (vout4_1, IntKind.wrap .i64 (vx + 1))))
    (some (.inr vout))

noncomputable def z1255 (qlists : List (List api_Prop)) : Option ((List (List UInt8))) :=
  (loopO (z1258 qlists) ([], 0)).bind fun vout5_1 =>
  (z809 vout5_1).bind fun vl =>
  gd (vl.length == vout5_1.length) <|
  (z689 vl).bind fun vr =>
  some vr

/-! ### beaconfleet/twin.find$1 -/
noncomputable def z1244 (qp : api_Prop) (qname : List UInt8) : Option (Unit) :=
  (z1102 qp.Name qname).bind fun _ =>
  some ()

/-! ### slices.BinarySearchFunc[[]beaconfleet/api.Prop,beaconfleet/api.Prop,string] -/
noncomputable def z649 (qx : List api_Prop) (qtarget : List UInt8) : Int × Int → Option ((Int × Int) ⊕ (Int))
  | (vi, vj) =>
  cond (decide (vi < vj))
    ((at? qx (IntKind.wrap .i64 (ishr .u64 (IntKind.wrap .u64 (IntKind.wrap .i64 (vi + vj))) 1))).bind fun vy1 =>
    (z1244 (api_Prop.mk vy1.Name (api_Value.mk vy1.Value.Kind vy1.Value.Flag vy1.Value.Number vy1.Value.Words)) qtarget).bind fun _ =>
    cond (decide ((Lib.compareBytes vy1.Name qtarget) < 0))
      (some (.inl (IntKind.wrap .i64 ((IntKind.wrap .i64 (ishr .u64 (IntKind.wrap .u64 (IntKind.wrap .i64 (vi + vj))) 1)) + 1), vj)))
      (some (.inl (vi, IntKind.wrap .i64 (ishr .u64 (IntKind.wrap .u64 (IntKind.wrap .i64 (vi + vj))) 1)))))
    (some (.inr vi))

noncomputable def z654 (qx : List api_Prop) (qtarget : List UInt8) (vi1_1 : Int) : Option (Bool) :=
  cond (decide (vi1_1 < (qx.length : Int)))
    ((at? qx vi1_1).bind fun vy2 =>
    (z1244 (api_Prop.mk vy2.Name (api_Value.mk vy2.Value.Kind vy2.Value.Flag vy2.Value.Number vy2.Value.Words)) qtarget).bind fun _ =>
    some (decide ((Lib.compareBytes vy2.Name qtarget) = 0)))
    (some false)

noncomputable def z646 (qx : List api_Prop) (qtarget : List UInt8) : Option (Int × Bool) :=
  (loopO (z649 qx qtarget) (0, (qx.length : Int))).bind fun vi1_1 =>
  (z654 qx qtarget vi1_1).bind fun vx1 =>
  some (vi1_1, vx1)

/-! ### beaconfleet/twin.find -/
noncomputable def twin_find (ql : List api_Prop) (qname : List UInt8) : Option (Int) :=
  (z646 ql qname).bind fun (vr, vr1) =>
  cond (!vr1)
    (some (-1))
    (some vr)

/-! ### beaconfleet/twin.valueOf -/
noncomputable def z1276 (ql : List api_Prop) (qname : List UInt8) : Option (api_Value) :=
  (twin_find ql qname).bind fun vr2 =>
  cond (decide (0 ≤ vr2))
    ((at? ql vr2).bind fun vy =>
    some (api_Value.mk vy.Value.Kind vy.Value.Flag vy.Value.Number vy.Value.Words))
    (some (api_Value.mk 0 false 0 ([] : List UInt8)))

/-! ### unicode/utf8.RuneCountInString -/
noncomputable def z1292 (qs : List UInt8) : Nat × Int → Option ((Nat × Int) ⊕ (Int))
  | (vpos, vn) =>
  cond (decide (vpos < qs.length))
    ((some (dec qs vpos)).bind fun vd1 =>
    some (.inl ((vpos + vd1.2 : Nat), IntKind.wrap .i64 (vn + 1))))
    (some (.inr vn))

noncomputable def z1289 (qs : List UInt8) : Option (Int) :=
  (loopO (z1292 qs) ((0 : Nat), 0)).bind fun vn1_1 =>
  some vn1_1

/-! ### unicode/utf8.decodeRuneInStringSlow -/
noncomputable def z1299 (qx : List UInt8) : Option (Unit) :=
  cond (decide ((qx.length : Int) < 1))
    (some ())
    ((at? qx 0).bind fun vc =>
    none)

/-! ### unicode/utf8.DecodeRuneInString -/
noncomputable def z1285 (qs : List UInt8) : Option (Bool) :=
  cond (!decide (qs = ([] : List UInt8)))
    ((at? qs 0).bind fun vc =>
    some (decide ((vc.toNat : Int) < 128)))
    (some false)

noncomputable def z1282 (qs : List UInt8) : Option (Int × Int) :=
  (z1285 qs).bind fun vx1 =>
  cond (vx1)
    ((at? qs 0).bind fun vc1 =>
    some (IntKind.wrap .i32 ((vc1.toNat : Int)), 1))
    ((z1299 qs).bind fun _ =>
    some (65533, 0))

/-! ### strings.explode -/
noncomputable def z1137 (qn : Int) (vr : Int) : Option (Bool) :=
  cond (decide (qn < 0))
    (some true)
    (some (decide (vr < qn)))

noncomputable def z1133 (qn : Int) (vr : Int) : Option (Int) :=
  (z1137 qn vr).bind fun vx1 =>
  cond (vx1)
    (some vr)
    (some qn)

noncomputable def z1141 (vn1 : Int) : (List UInt8) × (List (List UInt8)) × Int → Option (((List UInt8) × (List (List UInt8)) × Int) ⊕ (((List UInt8) × (List (List UInt8)))))
  | (vs, va, vi) =>
  cond (decide (vi < (IntKind.wrap .i64 (vn1 - 1))))
    ((z1282 vs).bind fun (vr2, vr1_2) =>
    (sub? vs 0 vr1_2).bind fun vs3 =>
    (at? va vi).bind fun vy1 =>
    (sub? vs vr1_2 (vs.length : Int)).bind fun vs4 =>
    some (.inl (vs4, va.set vi.toNat vs3, IntKind.wrap .i64 (vi + 1))))
    (some (.inr (vs, va)))

noncomputable def z1146 (vn1 : Int) (vs5_1 : List UInt8) (va1_1 : List (List UInt8)) : Option ((List (List UInt8))) :=
  cond (decide (0 < vn1))
    ((at? va1_1 (IntKind.wrap .i64 (vn1 - 1))).bind fun vy2 =>
    some (va1_1.set (IntKind.wrap .i64 (vn1 - 1)).toNat vs5_1))
    (some va1_1)

noncomputable def z1130 (qs : List UInt8) (qn : Int) : Option ((List (List UInt8))) :=
  (z1289 qs).bind fun vr =>
  (z1133 qn vr).bind fun vn1 =>
  gd (decide (0 ≤ vn1) && decide (vn1 ≤ vn1) && decide (vn1 ≤ 137438953472)) <|
  (loopO (z1141 vn1) (qs, List.replicate vn1.toNat ([] : List UInt8), 0)).bind fun (vs5_1, va1_1) =>
  (z1146 vn1 vs5_1 va1_1).bind fun va2_1 =>
  some va2_1

/-! ### strings.Index -/
noncomputable def z1117 (qs : List UInt8) (qsubstr : List UInt8) : Option (Int) :=
  (z1174 qs qsubstr).bind fun vr =>
  some vr

/-! ### strings.Count -/
noncomputable def z1109 (qsubstr : List UInt8) : (List UInt8) × Int → Option (((List UInt8) × Int) ⊕ (Int))
  | (vs, vn) =>
  (z1117 vs qsubstr).bind fun vr1_1 =>
  cond (decide (vr1_1 = (-1)))
    (some (.inr vn))
    ((sub? vs (IntKind.wrap .i64 (vr1_1 + (qsubstr.length : Int))) (vs.length : Int)).bind fun vs2 =>
    some (.inl (vs2, IntKind.wrap .i64 (vn + 1))))

noncomputable def z1106 (qs : List UInt8) (qsubstr : List UInt8) : Option (Int) :=
  cond (decide ((qsubstr.length : Int) = 0))
    ((z1289 qs).bind fun vr =>
    some (IntKind.wrap .i64 (vr + 1)))
    (cond (decide ((qsubstr.length : Int) = 1))
      ((at? qsubstr 0).bind fun vc =>
      some (countB qs (vc.toNat : Int).toNat.toUInt8))
      ((loopO (z1109 qsubstr) (qs, 0)).bind fun vx1 =>
      some vx1))

/-! ### strings.genSplit -/
noncomputable def z1153 (qx : List UInt8) (qx1 : List UInt8) (qx3 : Int) : Option (Int) :=
  cond (decide (qx3 < 0))
    ((z1106 qx qx1).bind fun vr2 =>
    some (IntKind.wrap .i64 (vr2 + 1)))
    (some qx3)

noncomputable def z1157 (qx : List UInt8) (qx1 : List UInt8) (qx2 : Int) (vx1 : Int) : (List UInt8) × (List (List UInt8)) × Int → Option (((List UInt8) × (List (List UInt8)) × Int) ⊕ (((List UInt8) × (List (List UInt8)) × Int)))
  | (vx2, vx3, vx4) =>
  cond (decide (vx4 < (IntKind.wrap .i64 ((imin vx1 (IntKind.wrap .i64 ((qx.length : Int) + 1))) - 1))))
    ((z1117 vx2 qx1).bind fun vr1_1 =>
    cond (decide (vr1_1 < 0))
      (some (.inr (vx2, vx3, vx4)))
      ((sub? vx2 0 (IntKind.wrap .i64 (vr1_1 + qx2))).bind fun vs2 =>
      (at? vx3 vx4).bind fun vy1 =>
      (sub? vx2 (IntKind.wrap .i64 (vr1_1 + (qx1.length : Int))) (vx2.length : Int)).bind fun vs3 =>
      some (.inl (vs3, vx3.set vx4.toNat vs2, IntKind.wrap .i64 (vx4 + 1)))))
    (some (.inr (vx2, vx3, vx4)))

noncomputable def z1150 (qx : List UInt8) (qx1 : List UInt8) (qx2 : Int) (qx3 : Int) : Option ((List (List UInt8))) :=
  cond (decide (qx3 = 0))
    (some [])
    (cond (decide (qx1 = ([] : List UInt8)))
      ((z1130 qx qx3).bind fun vr3 =>
      some vr3)
      ((z1153 qx qx1 qx3).bind fun vx1 =>
      gd (decide (0 ≤ (imin vx1 (IntKind.wrap .i64 ((qx.length : Int) + 1)))) && decide ((imin vx1 (IntKind.wrap .i64 ((qx.length : Int) + 1))) ≤ (imin vx1 (IntKind.wrap .i64 ((qx.length : Int) + 1)))) && decide ((imin vx1 (IntKind.wrap .i64 ((qx.length : Int) + 1))) ≤ 137438953472)) <|
      (loopO (z1157 qx qx1 qx2 vx1) (qx, List.replicate (imin vx1 (IntKind.wrap .i64 ((qx.length : Int) + 1))).toNat ([] : List UInt8), 0)).bind fun (vx5_1, vx6_1, vx7_1) =>
      (at? vx6_1 vx7_1).bind fun vy2 =>
      gd (decide (0 ≤ (IntKind.wrap .i64 (vx7_1 + 1))) && decide ((IntKind.wrap .i64 (vx7_1 + 1)) ≤ ((vx6_1.set vx7_1.toNat vx5_1).length : Int))) <|
      some ((vx6_1.set vx7_1.toNat vx5_1).take (IntKind.wrap .i64 (vx7_1 + 1)).toNat)))

/-! ### strings.Split -/
noncomputable def z1124 (qs : List UInt8) (qsep : List UInt8) : Option ((List (List UInt8))) :=
  (z1150 qs qsep 0 (-1)).bind fun vr =>
  some vr

/-! ### internal/stringslite.HasPrefix -/
noncomputable def z1170 (qs : List UInt8) (qprefix : List UInt8) : Option (Bool) :=
  cond (decide ((qprefix.length : Int) ≤ (qs.length : Int)))
    ((sub? qs 0 (qprefix.length : Int)).bind fun vs =>
    some (decide (vs = qprefix)))
    (some false)

noncomputable def z1167 (qs : List UInt8) (qprefix : List UInt8) : Option (Bool) :=
  (z1170 qs qprefix).bind fun vx1 =>
  some vx1

/-! ### beaconfleet/twin.CheckProps -/
noncomputable def z1195 : Unit → Option ((Unit) ⊕ (Unit))
  | _ =>
  cond (decide ((0 : Int) < 0))
    (none)
    (some (.inr ()))

noncomputable def z1200 : Unit → Option ((Unit) ⊕ (Unit))
  | _ =>
  cond (decide ((0 : Int) < 0))
    (none)
    (some (.inr ()))

noncomputable def z1192 : Option (Int) :=
  cond (decide (500 < (0 : Int)))
    (some 2)
    ((loopO z1195 ()).bind fun _ =>
    (loopO z1200 ()).bind fun _ =>
    some 0)

/-! ### beaconfleet/twin.CheckProps$1 -/
noncomputable def z1188 (qs : List UInt8) (qx : List api_Prop) : Option (Bool) :=
  (twin_find qx qs).bind fun vr2 =>
  some (decide (0 ≤ vr2))

/-! ### beaconfleet/twin.above -/
noncomputable def z1240 (qname : List UInt8) (qf : List api_Prop) (vx : Int) : Option (Bool) :=
  (at? qname vx).bind fun vc1 =>
  cond (decide ((vc1.toNat : Int) = 46))
    ((sub? qname 0 vx).bind fun vs1 =>
    (z1188 vs1 qf).bind fun vr1 =>
    some vr1)
    (some false)

noncomputable def z1235 (qname : List UInt8) (qf : List api_Prop) (vx : Int) : Option ((Int) ⊕ (Unit ⊕ Unit)) :=
  cond (decide (vx < (qname.length : Int)))
    ((z1240 qname qf vx).bind fun vx2_1 =>
    cond (vx2_1)
      (some (.inr (.inr ())))
      (some (.inl (IntKind.wrap .i64 (vx + 1)))))
    (some (.inr (.inl ())))

noncomputable def z1232 (qname : List UInt8) (qf : List api_Prop) : Option (Bool) :=
  (loopO (z1235 qname qf) 0).bind fun x => match x with
    | .inl _ =>
      some false
    | .inr _ =>
      some true

/-! ### beaconfleet/twin.CheckProps -/
noncomputable def z1211 (ql : List api_Prop) (vx : Int) (vy2 : api_Prop) : Option (Bool) :=
  cond (decide (0 < vx))
    ((at? ql (IntKind.wrap .i64 (vx - 1))).bind fun vy3 =>
    some (Op.bytesLess vy2.Name vy3.Name || decide (vy2.Name = vy3.Name)))
    (some false)

noncomputable def z1206 (ql : List api_Prop) (vx : Int) : Option ((Int) ⊕ (Unit ⊕ Int)) :=
  cond (decide (vx < (ql.length : Int)))
    ((at? ql vx).bind fun vy2 =>
    (z1252 vy2.Name).bind fun vr1 =>
    cond (!vr1)
      (some (.inr (.inr 5)))
      ((z1268 (api_Value.mk vy2.Value.Kind vy2.Value.Flag vy2.Value.Number vy2.Value.Words)).bind fun vr2_1 =>
      cond (!decide (vr2_1 = 0))
        (some (.inr (.inr vr2_1)))
        (cond (decide (vy2.Value.Kind = 0))
          (some (.inr (.inr 4)))
          ((z1211 ql vx vy2).bind fun vx2_1 =>
          cond (vx2_1)
            (some (.inr (.inr 7)))
            (some (.inl (IntKind.wrap .i64 (vx + 1))))))))
    (some (.inr (.inl ())))

noncomputable def z1215 (ql : List api_Prop) (vx4 : Int) : Option ((Int) ⊕ (Unit ⊕ Unit)) :=
  cond (decide (vx4 < (ql.length : Int)))
    ((at? ql vx4).bind fun vy5 =>
    (z1232 vy5.Name ql).bind fun vr2_3 =>
    cond (vr2_3)
      (some (.inr (.inr ())))
      (some (.inl (IntKind.wrap .i64 (vx4 + 1)))))
    (some (.inr (.inl ())))

noncomputable def z1187 (ql : List api_Prop) : Option (Int) :=
  cond (decide (500 < (ql.length : Int)))
    (some 2)
    ((loopO (z1206 ql) 0).bind fun x => match x with
      | .inl _ =>
        (loopO (z1215 ql) 0).bind fun x => match x with
          | .inl _ =>
            some 0
          | .inr _ =>
            some 13
      | .inr vx3_1 =>
        some vx3_1)

/-! ### slices.BinarySearchFunc[[]beaconfleet/api.Prop,beaconfleet/api.Prop,string] -/
noncomputable def z661 : Unit → Option ((Unit) ⊕ (Unit))
  | _ =>
  cond (decide ((0 : Int) < 0))
    (none)
    (some (.inr ()))

noncomputable def z658 (qtarget : List UInt8) : Option (Unit) :=
  (loopO z661 ()).bind fun _ =>
  cond (decide ((0 : Int) < 0))
    (none)
    (some ())

/-! ### beaconfleet/twin.find -/
noncomputable def z1248 (qname : List UInt8) : Option (Unit) :=
  (z658 qname).bind fun _ =>
  some ()

/-! ### beaconfleet/twin.valueOf -/
noncomputable def z1278 (qname : List UInt8) : Option (Unit) :=
  (z1248 qname).bind fun _ =>
  cond (decide (0 ≤ ((-1) : Int)))
    (none)
    (some ())

/-! ### beaconfleet/twin.Differ -/
noncomputable def z1228 (qb : List api_Prop) (vr1_1 : List (List UInt8)) (vout : List api_Change) (vx : Int) : Option ((List api_Change)) :=
  (at? vr1_1 vx).bind fun vy1 =>
  (z1278 vy1).bind fun _ =>
  (z1276 qb vy1).bind fun vr4 =>
  cond (!(decide ((0 : Int) = vr4.Kind) && ((false == vr4.Flag) && (decide ((0 : Int) = vr4.Number) && (decide (([] : List UInt8) = vr4.Words) && true)))))
    (gd (Nat.ble (vout.length + ([api_Change.mk vy1 (api_Value.mk 0 false 0 ([] : List UInt8)) vr4] : List api_Change).length) LIM) <|
    some (vout ++ ([api_Change.mk vy1 (api_Value.mk 0 false 0 ([] : List UInt8)) vr4] : List api_Change)))
    (some vout)

noncomputable def z1223 (qb : List api_Prop) (vr1_1 : List (List UInt8)) : (List api_Change) × Int → Option (((List api_Change) × Int) ⊕ ((List api_Change)))
  | (vout, vx) =>
  cond (decide (vx < (vr1_1.length : Int)))
    ((z1228 qb vr1_1 vout vx).bind fun vout2_1 =>
    some (.inl (vout2_1, IntKind.wrap .i64 (vx + 1))))
    (some (.inr vout))

noncomputable def z1220 (qb : List api_Prop) : Option ((List api_Change) × Int) :=
  (z1192).bind fun vr =>
  (z1187 qb).bind fun vr3 =>
  (z16 ([vr, vr3] : List Int)).bind fun vr1 =>
  cond (!decide (vr1 = 0))
    (some ([], vr1))
    ((z1255 ([[], qb] : List (List api_Prop))).bind fun vr1_1 =>
    (loopO (z1223 qb vr1_1) ([], 0)).bind fun vout3_1 =>
    some (vout3_1, 0))

/-! ### beaconfleet/series.byDevice -/
noncomputable def z612 (qa : api_Sample) (qb : api_Sample) : Option (Int) :=
  (z1102 qa.Device qb.Device).bind fun _ =>
  (z1102 qa.Metric qb.Metric).bind fun _ =>
  (z130 qa.At qb.At).bind fun vr =>
  (z142 ([Lib.compareBytes qa.Device qb.Device, Lib.compareBytes qa.Metric qb.Metric, vr] : List Int)).bind fun vr1 =>
  some vr1

/-! ### beaconfleet/series.Check -/
noncomputable def z597 (vy2 : api_Sample) : Option (Bool) :=
  (base_Key vy2.Device).bind fun vr3 =>
  cond (!vr3)
    (some true)
    ((base_Key vy2.Metric).bind fun vr4 =>
    some (!vr4))

noncomputable def z601 (vy2 : api_Sample) : Option (Bool) :=
  (z41 vy2.At).bind fun vr1_2 =>
  cond (!vr1_2)
    (some true)
    ((base_Out vy2.Value (-1000000000) 1000000000).bind fun vr5 =>
    some vr5)

noncomputable def z605 (ql : List api_Sample) (vx : Int) (vy2 : api_Sample) : Option (Bool) :=
  cond (decide (0 < vx))
    ((at? ql (IntKind.wrap .i64 (vx - 1))).bind fun vy3 =>
    (z612 vy2 vy3).bind fun vr2_2 =>
    some (decide (vr2_2 ≤ 0)))
    (some false)

noncomputable def z592 (ql : List api_Sample) (vx : Int) : Option ((Int) ⊕ (Unit ⊕ Int)) :=
  cond (decide (vx < (ql.length : Int)))
    ((at? ql vx).bind fun vy2 =>
    (z597 vy2).bind fun vx4_1 =>
    cond (vx4_1)
      (some (.inr (.inr 5)))
      ((z601 vy2).bind fun vx5_1 =>
      cond (vx5_1)
        (some (.inr (.inr 1)))
        ((z605 ql vx vy2).bind fun vx6_1 =>
        cond (vx6_1)
          (some (.inr (.inr 7)))
          (some (.inl (IntKind.wrap .i64 (vx + 1)))))))
    (some (.inr (.inl ())))

noncomputable def z579 (ql : List api_Sample) : Option (Int) :=
  cond (decide (5000 < (ql.length : Int)))
    (some 2)
    ((loopO (z592 ql) 0).bind fun x => match x with
      | .inl _ =>
        some 0
      | .inr vx7_1 =>
        some vx7_1)

/-! ### beaconfleet/series.CheckSeries$1 -/
noncomputable def z584 (qs : api_Sample) (qx : List api_Sample) : Option (Bool) :=
  (at? qx 0).bind fun vy =>
  cond (!decide (qs.Device = vy.Device))
    (some true)
    (some (!decide (qs.Metric = vy.Metric)))

noncomputable def z581 (qs : api_Sample) (qx : List api_Sample) : Option (Bool) :=
  (z584 qs qx).bind fun vx1 =>
  some vx1

/-! ### slices.IndexFunc[[]beaconfleet/api.Sample,beaconfleet/api.Sample] -/
noncomputable def z784 (qs : List api_Sample) (vx : Int) : Option ((Int) ⊕ (Unit ⊕ Int)) :=
  cond (decide (vx < (qs.length : Int)))
    ((at? qs vx).bind fun vy1 =>
    (z581 vy1 qs).bind fun vr1 =>
    cond (vr1)
      (some (.inr (.inr vx)))
      (some (.inl (IntKind.wrap .i64 (vx + 1)))))
    (some (.inr (.inl ())))

noncomputable def z781 (qs : List api_Sample) : Option (Int) :=
  (loopO (z784 qs) 0).bind fun x => match x with
    | .inl _ =>
      some (-1)
    | .inr vx1_1 =>
      some vx1_1

/-! ### slices.ContainsFunc[[]beaconfleet/api.Sample,beaconfleet/api.Sample] -/
noncomputable def z723 (qs : List api_Sample) : Option (Bool) :=
  (z781 qs).bind fun vr2 =>
  some (decide (0 ≤ vr2))

/-! ### beaconfleet/series.CheckSeries -/
noncomputable def z580 (ql : List api_Sample) : Option (Int) :=
  (z579 ql).bind fun vr6 =>
  cond (!decide (vr6 = 0))
    (some vr6)
    ((z723 ql).bind fun vr =>
    cond (vr)
      (some 13)
      (some 0))

/-! ### beaconfleet/series.seven -/
noncomputable def z633 : (List Int) × Int → Option (((List Int) × Int) ⊕ (((List Int) × Int)))
  | (vb, vn) =>
  cond (decide (128 ≤ vn))
    (gd (Nat.ble (vb.length + ([ibits .or .u8 (IntKind.wrap .u8 (ibits .and .u64 vn 127)) 128] : List Int).length) LIM) <|
    some (.inl (vb ++ ([ibits .or .u8 (IntKind.wrap .u8 (ibits .and .u64 vn 127)) 128] : List Int), ishr .u64 vn 7)))
    (some (.inr (vb, vn)))

noncomputable def z630 (qn : Int) : Option ((List Int)) :=
  (loopO z633 ([], qn)).bind fun (vb1_1, vn1_1) =>
  gd (Nat.ble (vb1_1.length + ([IntKind.wrap .u8 (vn1_1)] : List Int).length) LIM) <|
  some (vb1_1 ++ ([IntKind.wrap .u8 (vn1_1)] : List Int))

/-! ### beaconfleet/series.doubled -/
noncomputable def z615 (qn : Int) : Option (Int) :=
  cond (decide (qn < 0))
    (some (IntKind.wrap .u64 (IntKind.wrap .i64 ((IntKind.wrap .i64 (((-2) : Int) * qn)) - 1))))
    (some (IntKind.wrap .u64 (IntKind.wrap .i64 ((2 : Int) * qn))))

/-! ### beaconfleet/series.seven -/
noncomputable def z641 : (List Int) × Int → Option (((List Int) × Int) ⊕ (((List Int) × Int)))
  | (vb, vn) =>
  cond (decide (128 ≤ vn))
    (gd (Nat.ble (vb.length + ([ibits .or .u8 (IntKind.wrap .u8 (ibits .and .u64 vn 127)) 128] : List Int).length) LIM) <|
    some (.inl (vb ++ ([ibits .or .u8 (IntKind.wrap .u8 (ibits .and .u64 vn 127)) 128] : List Int), ishr .u64 vn 7)))
    (some (.inr (vb, vn)))

noncomputable def z638 (qb : List Int) (qn : Int) : Option ((List Int)) :=
  (loopO z641 (qb, qn)).bind fun (vb1_1, vn1_1) =>
  gd (Nat.ble (vb1_1.length + ([IntKind.wrap .u8 (vn1_1)] : List Int).length) LIM) <|
  some (vb1_1 ++ ([IntKind.wrap .u8 (vn1_1)] : List Int))

/-! ### beaconfleet/series.pack -/
noncomputable def z626 (vat : Int) (vby : Int) (vx : Int) (vy1 : api_Sample) : Option (Int) :=
  cond (decide (0 < vx))
    (some (IntKind.wrap .i64 (vy1.At - vat)))
    (some vby)

noncomputable def z621 (ql : List api_Sample) : (List Int) × Int × Int × Int × Int → Option (((List Int) × Int × Int × Int × Int) ⊕ ((List Int)))
  | (vout, vat, vby, vvalue, vx) =>
  cond (decide (vx < (ql.length : Int)))
    ((at? ql vx).bind fun vy1 =>
    (z615 (IntKind.wrap .i64 ((IntKind.wrap .i64 (vy1.At - vat)) - vby))).bind fun vr5 =>
    (z638 vout vr5).bind fun vr6 =>
    (z615 (IntKind.wrap .i64 (vy1.Value - vvalue))).bind fun vr7 =>
    (z638 vr6 vr7).bind fun vr8 =>
    (z626 vat vby vx vy1).bind fun vby2_1 =>
    some (.inl (vr8, vy1.At, vby2_1, vy1.Value, IntKind.wrap .i64 (vx + 1))))
    (some (.inr vout))

noncomputable def z618 (ql : List api_Sample) : Option ((List Int)) :=
  (z630 (IntKind.wrap .u64 ((ql.length : Int)))).bind fun vr =>
  (loopO (z621 ql) (vr, 0, 0, 0, 0)).bind fun vout1_1 =>
  some vout1_1

/-! ### beaconfleet/series.Pack -/
noncomputable def z609 (ql : List api_Sample) : Option ((List Int) × Int) :=
  (z580 ql).bind fun vr1 =>
  cond (!decide (vr1 = 0))
    (some ([], vr1))
    ((z618 ql).bind fun vr9 =>
    some (vr9, 0))

/-! ### internal/stringslite.TrimPrefix -/
noncomputable def z1184 (qs : List UInt8) (qprefix : List UInt8) : Option ((List UInt8)) :=
  (z1167 qs qprefix).bind fun vr =>
  cond (vr)
    ((sub? qs (qprefix.length : Int) (qs.length : Int)).bind fun vs =>
    some vs)
    (some qs)

/-! ### strings.TrimPrefix -/
noncomputable def z1127 (qs : List UInt8) (qprefix : List UInt8) : Option ((List UInt8)) :=
  (z1184 qs qprefix).bind fun vr1 =>
  some vr1

/-! ### internal/strconv.lower -/
noncomputable def z1066 (qc : Int) : Option (Unit) :=
  some ()

/-! ### internal/strconv.underscoreOK -/
noncomputable def z1076 (qx : List UInt8) : Option (Bool) :=
  cond (decide (1 ≤ (qx.length : Int)))
    ((at? qx 0).bind fun vc =>
    cond (decide ((vc.toNat : Int) = 45))
      (some true)
      (some (decide ((vc.toNat : Int) = 43))))
    (some false)

noncomputable def z1072 (qx : List UInt8) : Option ((List UInt8)) :=
  (z1076 qx).bind fun vx1 =>
  cond (vx1)
    ((sub? qx 1 (qx.length : Int)).bind fun vs =>
    some vs)
    (some qx)

noncomputable def z1084 (vx2_1 : List UInt8) : Option (Bool) :=
  cond (decide (2 ≤ (vx2_1.length : Int)))
    ((at? vx2_1 0).bind fun vc1 =>
    cond (decide ((vc1.toNat : Int) = 48))
      ((at? vx2_1 1).bind fun vc2 =>
      (z1066 (vc2.toNat : Int)).bind fun _ =>
      cond (decide ((ibits .or .u8 (vc2.toNat : Int) 32) = 98))
        (some true)
        (cond (decide ((ibits .or .u8 (vc2.toNat : Int) 32) = 111))
          (some true)
          (some (decide ((ibits .or .u8 (vc2.toNat : Int) 32) = 120)))))
      (some false))
    (some false)

noncomputable def z1080 (vx2_1 : List UInt8) : Option ((Int × Int × Bool)) :=
  (z1084 vx2_1).bind fun vx3_1 =>
  cond (vx3_1)
    ((at? vx2_1 1).bind fun vc3 =>
    (z1066 (vc3.toNat : Int)).bind fun _ =>
    some (48, 2, decide ((ibits .or .u8 (vc3.toNat : Int) 32) = 120)))
    (some (94, 0, false))

noncomputable def z1098 (vx2_1 : List UInt8) (vx6_1 : Bool) (vx8 : Int) : Option (Bool) :=
  (at? vx2_1 vx8).bind fun vc6 =>
  cond (decide ((48 : Int) ≤ (vc6.toNat : Int)))
    (cond (decide ((vc6.toNat : Int) ≤ 57))
      (some true)
      (cond (vx6_1)
        ((z1066 (vc6.toNat : Int)).bind fun _ =>
        cond (decide ((97 : Int) ≤ (ibits .or .u8 (vc6.toNat : Int) 32)))
          (some (decide ((ibits .or .u8 (vc6.toNat : Int) 32) ≤ 102)))
          (some false))
        (some false)))
    (cond (vx6_1)
      ((z1066 (vc6.toNat : Int)).bind fun _ =>
      cond (decide ((97 : Int) ≤ (ibits .or .u8 (vc6.toNat : Int) 32)))
        (some (decide ((ibits .or .u8 (vc6.toNat : Int) 32) ≤ 102)))
        (some false))
      (some false))

noncomputable def z1093 (vx2_1 : List UInt8) (vx6_1 : Bool) (vx7 : Int) (vx8 : Int) : Option (Int ⊕ Unit) :=
  (z1098 vx2_1 vx6_1 vx8).bind fun vx11_1 =>
  cond (vx11_1)
    (some (.inl 48))
    ((at? vx2_1 vx8).bind fun vc7 =>
    cond (decide ((vc7.toNat : Int) = 95))
      (cond (!decide (vx7 = 48))
        (some (.inr ()))
        (some (.inl 95)))
      (cond (decide (vx7 = 95))
        (some (.inr ()))
        (some (.inl 33))))

noncomputable def z1088 (vx2_1 : List UInt8) (vx6_1 : Bool) : Int × Int → Option ((Int × Int) ⊕ (Int ⊕ Unit))
  | (vx7, vx8) =>
  cond (decide (vx8 < (vx2_1.length : Int)))
    ((z1093 vx2_1 vx6_1 vx7 vx8).bind fun x => match x with
      | .inl vx12_1 =>
        some (.inl (vx12_1, IntKind.wrap .i64 (vx8 + 1)))
      | .inr _ =>
        some (.inr (.inr ())))
    (some (.inr (.inl vx7)))

noncomputable def z1069 (qx : List UInt8) : Option (Bool) :=
  (z1072 qx).bind fun vx2_1 =>
  (z1080 vx2_1).bind fun (vx4_1, vx5_1, vx6_1) =>
  (loopO (z1088 vx2_1 vx6_1) (vx4_1, vx5_1)).bind fun x => match x with
    | .inl vx13_1 =>
      some (!decide (vx13_1 = 95))
    | .inr _ =>
      some false

/-! ### internal/strconv.ParseUint -/
noncomputable def z1033 (qx1 : Int) : Option (Bool) :=
  cond (decide ((2 : Int) ≤ qx1))
    (some (decide (qx1 ≤ 36)))
    (some false)

noncomputable def z1037 (qx : List UInt8) : Option (Bool) :=
  cond (decide (3 ≤ (qx.length : Int)))
    ((at? qx 1).bind fun vc1 =>
    (z1066 (vc1.toNat : Int)).bind fun _ =>
    some (decide ((ibits .or .u8 (vc1.toNat : Int) 32) = 98)))
    (some false)

noncomputable def z1041 (qx : List UInt8) : Option (Bool) :=
  cond (decide (3 ≤ (qx.length : Int)))
    ((at? qx 1).bind fun vc2 =>
    (z1066 (vc2.toNat : Int)).bind fun _ =>
    some (decide ((ibits .or .u8 (vc2.toNat : Int) 32) = 111)))
    (some false)

noncomputable def z1045 (qx : List UInt8) : Option (Bool) :=
  cond (decide (3 ≤ (qx.length : Int)))
    ((at? qx 1).bind fun vc3 =>
    (z1066 (vc3.toNat : Int)).bind fun _ =>
    some (decide ((ibits .or .u8 (vc3.toNat : Int) 32) = 120)))
    (some false)

noncomputable def z1000 (qx : List UInt8) (qx1 : Int) : Option (((List UInt8) × Int)) :=
  (z1033 qx1).bind fun vx1 =>
  cond (vx1)
    (some (qx, qx1))
    (cond (decide (qx1 = 0))
      ((at? qx 0).bind fun vc =>
      cond (decide ((vc.toNat : Int) = 48))
        ((z1037 qx).bind fun vx2_1 =>
        cond (vx2_1)
          ((sub? qx 2 (qx.length : Int)).bind fun vs =>
          some (vs, 2))
          ((z1041 qx).bind fun vx3_1 =>
          cond (vx3_1)
            ((sub? qx 2 (qx.length : Int)).bind fun vs1 =>
            some (vs1, 8))
            ((z1045 qx).bind fun vx4_1 =>
            cond (vx4_1)
              ((sub? qx 2 (qx.length : Int)).bind fun vs2 =>
              some (vs2, 16))
              ((sub? qx 1 (qx.length : Int)).bind fun vs3 =>
              some (vs3, 8)))))
        (some (qx, 10)))
      (none))

noncomputable def z1053 (qx2 : Int) : Option (Bool) :=
  cond (decide (qx2 < 0))
    (some true)
    (some (decide (64 < qx2)))

noncomputable def z1049 (qx2 : Int) : Option (Int) :=
  cond (decide (qx2 = 0))
    (some 64)
    ((z1053 qx2).bind fun vx7_1 =>
    cond (vx7_1)
      (none)
      (some qx2))

noncomputable def z1057 (vx6_1 : Int) : Option (Int) :=
  cond (decide (vx6_1 = 10))
    (some 1844674407370955162)
    (cond (decide (vx6_1 = 16))
      (some 1152921504606846976)
      (gd (!((IntKind.wrap .u64 (vx6_1)) == 0)) <|
      some (IntKind.wrap .u64 ((IntKind.wrap .u64 ((18446744073709551615 : Int).tdiv (IntKind.wrap .u64 (vx6_1)))) + 1))))

noncomputable def z1010 (qx1 : Int) (vy1 : Int) : Option (Bool) :=
  cond (decide (vy1 = 95))
    (some (decide (qx1 = 0)))
    (some false)

noncomputable def z1014 (vy1 : Int) : Option (Bool) :=
  cond (decide ((48 : Int) ≤ vy1))
    (some (decide (vy1 ≤ 57)))
    (some false)

noncomputable def z1018 (vy1 : Int) : Option (Bool) :=
  (z1066 vy1).bind fun _ =>
  cond (decide ((97 : Int) ≤ (ibits .or .u8 vy1 32)))
    (some (decide ((ibits .or .u8 vy1 32) ≤ 122)))
    (some false)

noncomputable def z1005 (qx1 : Int) (vy1 : Int) : Option (Int ⊕ Unit) :=
  (z1010 qx1 vy1).bind fun vx20_1 =>
  cond (vx20_1)
    (some (.inr ()))
    ((z1014 vy1).bind fun vx21_1 =>
    cond (vx21_1)
      (some (.inl (IntKind.wrap .u8 (vy1 - 48))))
      ((z1018 vy1).bind fun vx22_1 =>
      cond (vx22_1)
        ((z1066 vy1).bind fun _ =>
        some (.inl (IntKind.wrap .u8 ((IntKind.wrap .u8 ((ibits .or .u8 vy1 32) - 97)) + 10))))
        (none)))

noncomputable def z1022 (vx6_1 : Int) (vx8_1 : Int) (vx11 : Int) (vx23_1 : Int) : Option (Bool) :=
  cond (decide ((IntKind.wrap .u64 ((IntKind.wrap .u64 (vx11 * (IntKind.wrap .u64 (vx6_1)))) + (IntKind.wrap .u64 (vx23_1)))) < (IntKind.wrap .u64 (vx11 * (IntKind.wrap .u64 (vx6_1))))))
    (some true)
    (some (decide ((IntKind.wrap .u64 ((ishl .u64 1 (IntKind.wrap .u64 (vx8_1))) - 1)) < (IntKind.wrap .u64 ((IntKind.wrap .u64 (vx11 * (IntKind.wrap .u64 (vx6_1)))) + (IntKind.wrap .u64 (vx23_1)))))))

noncomputable def z1001 (qx1 : Int) (vx5_1 : List UInt8) (vx6_1 : Int) (vx8_1 : Int) (vx9_1 : Int) (vx10 : Bool) (vx11 : Int) (vx12 : Int) : Option ((Bool × Int)) :=
  (at? (bytesD vx5_1) vx12).bind fun vy1 =>
  (z1005 qx1 vy1).bind fun x => match x with
    | .inl vx23_1 =>
      cond (decide ((IntKind.wrap .u8 (vx6_1)) ≤ vx23_1))
        (none)
        (cond (decide (vx9_1 ≤ vx11))
          (none)
          ((z1022 vx6_1 vx8_1 vx11 vx23_1).bind fun vx24_1 =>
          cond (vx24_1)
            (none)
            (some (vx10, IntKind.wrap .u64 ((IntKind.wrap .u64 (vx11 * (IntKind.wrap .u64 (vx6_1)))) + (IntKind.wrap .u64 (vx23_1)))))))
    | .inr _ =>
      some (true, vx11)

noncomputable def z1061 (qx1 : Int) (vx5_1 : List UInt8) (vx6_1 : Int) (vx8_1 : Int) (vx9_1 : Int) : Bool × Int × Int → Option ((Bool × Int × Int) ⊕ ((Bool × Int)))
  | (vx10, vx11, vx12) =>
  cond (decide (vx12 < ((bytesD vx5_1).length : Int)))
    ((z1001 qx1 vx5_1 vx6_1 vx8_1 vx9_1 vx10 vx11 vx12).bind fun (vx25_1, vx26_1) =>
    some (.inl (vx25_1, vx26_1, IntKind.wrap .i64 (vx12 + 1))))
    (some (.inr (vx10, vx11)))

noncomputable def z1026 (qx : List UInt8) (vx27_1 : Bool) : Option (Bool) :=
  cond (vx27_1)
    ((z1069 qx).bind fun vr =>
    some (!vr))
    (some false)

noncomputable def z997 (qx : List UInt8) (qx1 : Int) (qx2 : Int) : Option (Int) :=
  cond (decide (qx = ([] : List UInt8)))
    (none)
    ((z1000 qx qx1).bind fun (vx5_1, vx6_1) =>
    (z1049 qx2).bind fun vx8_1 =>
    (z1057 vx6_1).bind fun vx9_1 =>
    gd (decide (0 ≤ (IntKind.wrap .u64 (vx8_1)))) <|
    (loopO (z1061 qx1 vx5_1 vx6_1 vx8_1 vx9_1) (false, 0, 0)).bind fun (vx27_1, vx28_1) =>
    (z1026 qx vx27_1).bind fun vx29_1 =>
    cond (vx29_1)
      (none)
      (some vx28_1))

/-! ### internal/strconv.ParseInt -/
noncomputable def z977 (qx : List UInt8) : Option (((List UInt8) × Bool)) :=
  (at? qx 0).bind fun vc =>
  cond (decide ((vc.toNat : Int) = 43))
    ((sub? qx 1 (qx.length : Int)).bind fun vs =>
    some (vs, false))
    (cond (decide ((vc.toNat : Int) = 45))
      ((sub? qx 1 (qx.length : Int)).bind fun vs1 =>
      some (vs1, true))
      (some (qx, false)))

noncomputable def z981 (qx2 : Int) : Option (Int) :=
  cond (decide (qx2 = 0))
    (some 64)
    (some qx2)

noncomputable def z985 (vx1_1 : Bool) (vr1 : Int) (vx3_1 : Int) : Option (Bool) :=
  cond (!vx1_1)
    (some (decide ((ishl .u64 1 (IntKind.wrap .u64 (IntKind.wrap .i64 (vx3_1 - 1)))) ≤ vr1)))
    (some false)

noncomputable def z989 (vx1_1 : Bool) (vr1 : Int) (vx3_1 : Int) : Option (Bool) :=
  cond (vx1_1)
    (some (decide ((ishl .u64 1 (IntKind.wrap .u64 (IntKind.wrap .i64 (vx3_1 - 1)))) < vr1)))
    (some false)

noncomputable def z993 (vx1_1 : Bool) (vr1 : Int) : Option (Int) :=
  cond (vx1_1)
    (some (IntKind.wrap .i64 (0 - (IntKind.wrap .i64 (vr1)))))
    (some (IntKind.wrap .i64 (vr1)))

noncomputable def z974 (qx : List UInt8) (qx1 : Int) (qx2 : Int) : Option (Int) :=
  cond (decide (qx = ([] : List UInt8)))
    (none)
    ((z977 qx).bind fun (vx2, vx1_1) =>
    (z997 vx2 qx1 qx2).bind fun vr1 =>
    (z981 qx2).bind fun vx3_1 =>
    gd (decide (0 ≤ (IntKind.wrap .u64 (IntKind.wrap .i64 (vx3_1 - 1))))) <|
    (z985 vx1_1 vr1 vx3_1).bind fun vx4_1 =>
    cond (vx4_1)
      (none)
      ((z989 vx1_1 vr1 vx3_1).bind fun vx5_1 =>
      cond (vx5_1)
        (none)
        ((z993 vx1_1 vr1).bind fun vx6_1 =>
        some vx6_1)))

/-! ### internal/strconv.Atoi -/
noncomputable def z951 (qx : List UInt8) : Option (Bool) :=
  cond (decide ((0 : Int) < (qx.length : Int)))
    (some (decide ((qx.length : Int) < 19)))
    (some false)

noncomputable def z959 (qx : List UInt8) : Option (Bool) :=
  (at? qx 0).bind fun vc =>
  cond (decide ((vc.toNat : Int) = 45))
    (some true)
    (some (decide ((vc.toNat : Int) = 43)))

noncomputable def z955 (qx : List UInt8) : Option ((List UInt8)) :=
  (z959 qx).bind fun vx2_1 =>
  cond (vx2_1)
    ((sub? qx 1 (qx.length : Int)).bind fun vs =>
    cond (decide ((vs.length : Int) < 1))
      (none)
      (some vs))
    (some qx)

noncomputable def z963 (vx3_1 : List UInt8) : Int × Int → Option ((Int × Int) ⊕ (Int))
  | (vx4, vx5) =>
  cond (decide (vx5 < ((bytesD vx3_1).length : Int)))
    ((at? (bytesD vx3_1) vx5).bind fun vy1 =>
    cond (decide (9 < (IntKind.wrap .u8 (vy1 - 48))))
      (none)
      (some (.inl (IntKind.wrap .i64 ((IntKind.wrap .i64 (vx4 * 10)) + (IntKind.wrap .i64 (IntKind.wrap .u8 (vy1 - 48)))), IntKind.wrap .i64 (vx5 + 1)))))
    (some (.inr vx4))

noncomputable def z968 (qx : List UInt8) (vx6_1 : Int) : Option (Int) :=
  (at? qx 0).bind fun vc1 =>
  cond (decide ((vc1.toNat : Int) = 45))
    (some (IntKind.wrap .i64 (0 - vx6_1)))
    (some vx6_1)

noncomputable def z948 (qx : List UInt8) : Option (Int) :=
  (z951 qx).bind fun vx1 =>
  cond (vx1)
    ((z955 qx).bind fun vx3_1 =>
    (loopO (z963 vx3_1) (0, 0)).bind fun vx6_1 =>
    (z968 qx vx6_1).bind fun vx7_1 =>
    some vx7_1)
    ((z974 qx 10 0).bind fun vr =>
    some vr)

/-! ### strconv.Atoi -/
noncomputable def z947 (qs : List UInt8) : Option (Int) :=
  (z948 qs).bind fun vr1 =>
  some vr1

/-! ### beaconfleet/base.Number -/
noncomputable def z48 (qs : List UInt8) (qdigits : Int) (vr : List UInt8) : Option (Bool) :=
  cond (decide (vr = ([] : List UInt8)))
    (some true)
    (cond (decide (qdigits < (vr.length : Int)))
      (some true)
      ((at? vr 0).bind fun vc =>
      cond (decide ((vc.toNat : Int) = 48))
        (cond (decide (1 < (vr.length : Int)))
          (some true)
          (some (decide ((vr.length : Int) < (qs.length : Int)))))
        (some false)))

noncomputable def z59 (vr : List UInt8) (vx2 : Int) : Option (Bool) :=
  (at? vr vx2).bind fun vc2 =>
  cond (decide ((vc2.toNat : Int) < 48))
    (some true)
    (some (decide (57 < (vc2.toNat : Int))))

noncomputable def z54 (vr : List UInt8) (vx2 : Int) : Option ((Int) ⊕ (Unit ⊕ Unit)) :=
  cond (decide (vx2 < (vr.length : Int)))
    ((z59 vr vx2).bind fun vx4_1 =>
    cond (vx4_1)
      (some (.inr (.inr ())))
      (some (.inl (IntKind.wrap .i64 (vx2 + 1)))))
    (some (.inr (.inl ())))

noncomputable def z44 (qs : List UInt8) (qdigits : Int) : Option (Int × Bool) :=
  (z1127 qs ([45] : List UInt8)).bind fun vr =>
  (z48 qs qdigits vr).bind fun vx1 =>
  cond (vx1)
    (some (0, false))
    ((loopO (z54 vr) 0).bind fun x => match x with
      | .inl _ =>
        (z947 qs).bind fun vr1 =>
        some (vr1, true)
      | .inr _ =>
        some (0, false))

/-! ### beaconfleet/base.Numbers -/
noncomputable def z66 (qwords : List (List UInt8)) (qdigits : Int) : (List Int) × Int → Option (((List Int) × Int) ⊕ ((List Int) ⊕ Unit))
  | (vout, vx) =>
  cond (decide (vx < (qwords.length : Int)))
    ((at? qwords vx).bind fun vy1 =>
    (z44 vy1 qdigits).bind fun (vr2_1, vr3_1) =>
    cond (!vr3_1)
      (some (.inr (.inr ())))
      (gd (Nat.ble (vout.length + ([vr2_1] : List Int).length) LIM) <|
      some (.inl (vout ++ ([vr2_1] : List Int), IntKind.wrap .i64 (vx + 1)))))
    (some (.inr (.inl vout)))

noncomputable def z63 (qwords : List (List UInt8)) (qdigits : Int) : Option ((List Int) × Bool) :=
  (loopO (z66 qwords qdigits) ([], 0)).bind fun x => match x with
    | .inl vout1_1 =>
      some (vout1_1, true)
    | .inr _ =>
      some ([], false)

/-! ### beaconfleet/base.Version -/
noncomputable def z96 (qv : api_Version) : Option (Bool) :=
  (base_Out qv.Major 0 9999).bind fun vr =>
  cond (!vr)
    ((base_Out qv.Minor 0 9999).bind fun vr1 =>
    cond (!vr1)
      ((base_Out qv.Patch 0 9999).bind fun vr2 =>
      some (!vr2))
      (some false))
    (some false)

noncomputable def z93 (qv : api_Version) : Option (Bool) :=
  (z96 qv).bind fun vx1 =>
  some vx1

/-! ### beaconfleet/campaign.ParseVersion -/
noncomputable def z125 (vr : List Int) (vr1_1 : Bool) : Option (Bool) :=
  cond (!vr1_1)
    (some true)
    (some (!decide ((vr.length : Int) = 3)))

noncomputable def z122 (qs : List UInt8) : Option (api_Version × Int) :=
  (z1124 qs ([46] : List UInt8)).bind fun vr1 =>
  (z63 vr1 4).bind fun (vr, vr1_1) =>
  (z125 vr vr1_1).bind fun vx1 =>
  cond (vx1)
    (some (api_Version.mk 0 0 0, 9))
    ((at? vr 0).bind fun vy =>
    (at? vr 1).bind fun vy1 =>
    (at? vr 2).bind fun vy2 =>
    (z93 (api_Version.mk vy vy1 vy2)).bind fun vr3 =>
    cond (!vr3)
      (some (api_Version.mk 0 0 0, 9))
      (some (api_Version.mk vy vy1 vy2, 0)))

/-! ### beaconfleet/place.isSpot -/
noncomputable def z575 (qs : api_Spot) : Option (Bool) :=
  (base_Out qs.X (-10000) 10000).bind fun vr =>
  cond (!vr)
    ((base_Out qs.Y (-10000) 10000).bind fun vr1 =>
    some (!vr1))
    (some false)

noncomputable def z572 (qs : api_Spot) : Option (Bool) :=
  (z575 qs).bind fun vx1 =>
  some vx1

/-! ### beaconfleet/place.Cell -/
noncomputable def z563 (qs : api_Spot) (qlevel : Int) : Option (Bool) :=
  (z572 qs).bind fun vr2 =>
  cond (!vr2)
    (some true)
    ((base_Out qlevel 0 15).bind fun vr =>
    some vr)

noncomputable def z567 (qs : api_Spot) (qlevel : Int) : (List Int) × Int × Int → Option (((List Int) × Int × Int) ⊕ ((List Int)))
  | (vout, vlong, vx2) =>
  cond (decide (vx2 < qlevel))
    (gd (!((IntKind.wrap .i64 (vlong.tdiv 2)) == 0)) <|
    gd (Nat.ble (vout.length + ([IntKind.wrap .u8 ((IntKind.wrap .u8 ((48 : Int) + (IntKind.wrap .u8 ((IntKind.wrap .i64 ((IntKind.wrap .i64 (qs.X - (-16384))).tdiv (IntKind.wrap .i64 (vlong.tdiv 2)))).tmod 2)))) + (IntKind.wrap .u8 ((2 : Int) * (IntKind.wrap .u8 ((IntKind.wrap .i64 ((IntKind.wrap .i64 (qs.Y - (-16384))).tdiv (IntKind.wrap .i64 (vlong.tdiv 2)))).tmod 2)))))] : List Int).length) LIM) <|
    some (.inl (vout ++ ([IntKind.wrap .u8 ((IntKind.wrap .u8 ((48 : Int) + (IntKind.wrap .u8 ((IntKind.wrap .i64 ((IntKind.wrap .i64 (qs.X - (-16384))).tdiv (IntKind.wrap .i64 (vlong.tdiv 2)))).tmod 2)))) + (IntKind.wrap .u8 ((2 : Int) * (IntKind.wrap .u8 ((IntKind.wrap .i64 ((IntKind.wrap .i64 (qs.Y - (-16384))).tdiv (IntKind.wrap .i64 (vlong.tdiv 2)))).tmod 2)))))] : List Int), IntKind.wrap .i64 (vlong.tdiv 2), IntKind.wrap .i64 (vx2 + 1))))
    (some (.inr vout))

noncomputable def z560 (qs : api_Spot) (qlevel : Int) : Option ((List UInt8) × Int) :=
  (z563 qs qlevel).bind fun vx1 =>
  cond (vx1)
    (some (([] : List UInt8), 1))
    ((loopO (z567 qs qlevel) ([], 32768, 0)).bind fun vout1_1 =>
    some (vout1_1.map fun n => UInt8.ofNat n.toNat, 0))

/-! ### beaconfleet/command.Order -/
noncomputable def z372 (ql : List api_Letter) (vx : Int) : Option ((Int) ⊕ (Unit ⊕ Int)) :=
  cond (decide (vx < (ql.length : Int)))
    ((at? ql vx).bind fun vy1 =>
    (z158 vy1).bind fun vr3_1 =>
    cond (!decide (vr3_1 = 0))
      (some (.inr (.inr vr3_1)))
      ((sub? ql 0 vx).bind fun vl1 =>
      (z719 vl1 vy1).bind fun vr1_1 =>
      cond (vr1_1)
        (some (.inr (.inr 6)))
        (some (.inl (IntKind.wrap .i64 (vx + 1))))))
    (some (.inr (.inl ())))

noncomputable def z369 (ql : List api_Letter) : Option ((List api_Letter) × Int) :=
  cond (decide (500 < (ql.length : Int)))
    (some ([], 2))
    ((loopO (z372 ql) 0).bind fun x => match x with
      | .inl _ =>
        (z666 ql).bind fun vr =>
        (z797 vr).bind fun vl2 =>
        gd (vl2.length == vr.length) <|
        some (vl2, 0)
      | .inr vx1_1 =>
        some ([], vx1_1))

/-! ### beaconfleet/fleetkeep2.errs -/
noncomputable def z434 (ql : List Int) (vx : Int) : Option ((Int) ⊕ (Unit ⊕ Int)) :=
  cond (decide (vx < (ql.length : Int)))
    ((at? ql vx).bind fun vy1 =>
    cond (!decide (vy1 = 0))
      (some (.inr (.inr vy1)))
      (some (.inl (IntKind.wrap .i64 (vx + 1)))))
    (some (.inr (.inl ())))

noncomputable def z431 (ql : List Int) : Option (Int) :=
  (loopO (z434 ql) 0).bind fun x => match x with
    | .inl _ =>
      some 0
    | .inr vx1_1 =>
      some vx1_1

/-! ### slices.Equal[[]byte,byte] -/
noncomputable def z751 (qs1 : List Int) (qs2 : List Int) (vx : Int) : Option ((Int) ⊕ (Unit ⊕ Unit)) :=
  cond (decide (vx < (qs1.length : Int)))
    ((at? qs1 vx).bind fun vy2 =>
    (at? qs2 vx).bind fun vy3 =>
    cond (!decide (vy2 = vy3))
      (some (.inr (.inr ())))
      (some (.inl (IntKind.wrap .i64 (vx + 1)))))
    (some (.inr (.inl ())))

noncomputable def z748 (qs1 : List Int) (qs2 : List Int) : Option (Bool) :=
  cond (!decide ((qs1.length : Int) = (qs2.length : Int)))
    (some false)
    ((loopO (z751 qs1 qs2) 0).bind fun x => match x with
      | .inl _ =>
        some true
      | .inr _ =>
        some false)

/-! ### beaconfleet/fleetkeep2.ready -/
noncomputable def z442 (vr5 : List api_Change) (vr6 : Int) (vr : List Int) (vr2 : Int) (vr2_1 : api_Version) (vr4 : Int) (vr1 : List UInt8) (vr3 : Int) (vr2_2 : List api_Letter) (vr4_1 : Int) : Option (Bool) :=
  (z431 ([vr6, vr2, vr4, vr3, vr4_1] : List Int)).bind fun vr7 =>
  cond (decide (vr7 = 0))
    (cond (decide ((vr5.length : Int) = 1))
      ((z748 vr ([1, 2, 2] : List Int)).bind fun vr8 =>
      cond (vr8)
        (cond (decide (vr2_1.Patch = 3))
          (cond (decide (vr1 = ([51] : List UInt8)))
            (some (decide ((vr2_2.length : Int) = 1)))
            (some false))
          (some false))
        (some false))
      (some false))
    (some false)

noncomputable def z439 : Option (Bool) :=
  (z1220 ([api_Prop.mk ([97] : List UInt8) (api_Value.mk 1 false 0 ([] : List UInt8))] : List api_Prop)).bind fun (vr5, vr6) =>
  (z609 ([api_Sample.mk ([100] : List UInt8) ([109] : List UInt8) 1 1] : List api_Sample)).bind fun (vr, vr2) =>
  (z122 ([49, 46, 50, 46, 51] : List UInt8)).bind fun (vr2_1, vr4) =>
  (z560 (api_Spot.mk 0 0) 1).bind fun (vr1, vr3) =>
  (z369 ([api_Letter.mk ([97] : List UInt8) ([] : List UInt8) ([] : List UInt8) 0 0 5] : List api_Letter)).bind fun (vr2_2, vr4_1) =>
  (z442 vr5 vr6 vr vr2 vr2_1 vr4 vr1 vr3 vr2_2 vr4_1).bind fun vx1 =>
  some vx1

/-! ### (*beaconfleet/fleetmake.Stream).Notes -/
noncomputable def z521 (vy1 : List UInt8) (vr10 : List UInt8) (vr11 : List UInt8) (vr12 : Int) (vs4 : z477) (vr13 : Int) (vr14 : Int) (vr15 : Int) : Option ((z477 × api_Note)) :=
  (z478 (z477.mk vs4.L (IntKind.wrap .i64 ((IntKind.wrap .i64 (vs4.at_ + 1)) + 1))) 40).bind fun vr16 =>
  cond (vr16)
    ((z537 (z477.mk vs4.L (IntKind.wrap .i64 ((IntKind.wrap .i64 ((IntKind.wrap .i64 (vs4.at_ + 1)) + 1)) + 1))) ([vy1, ([] : List UInt8), ([108, 97] : List UInt8)] : List (List UInt8))).bind fun vr17 =>
    (z525 (z477.mk vs4.L (IntKind.wrap .i64 ((IntKind.wrap .i64 ((IntKind.wrap .i64 ((IntKind.wrap .i64 (vs4.at_ + 1)) + 1)) + 1)) + 1))) 1 7).bind fun (vs1_4, vr3_4) =>
    (z525 vs1_4 0 20).bind fun (vs1_5, vr3_5) =>
    (z525 vs1_5 0 50).bind fun (vs1_6, vr3_6) =>
    some (vs1_6, api_Note.mk (api_Letter.mk vr17 vr10 vr11 vr12 0 100) vr3_4 vr3_5 vr3_6))
    (some (z477.mk vs4.L (IntKind.wrap .i64 ((IntKind.wrap .i64 ((IntKind.wrap .i64 (vs4.at_ + 1)) + 1)) + 1)), api_Note.mk (api_Letter.mk vy1 vr10 vr11 vr12 0 100) vr13 vr14 vr15))

noncomputable def z517 (vs : z477) (vout : List api_Note) (vx : Int) : Option ((z477 × (List api_Note))) :=
  (at? ([([108, 97] : List UInt8), ([108, 98] : List UInt8), ([108, 99] : List UInt8), ([108, 100] : List UInt8)] : List (List UInt8)) vx).bind fun vy1 =>
  (z478 vs 3).bind fun vr9 =>
  cond (vr9)
    (some (z477.mk vs.L (IntKind.wrap .i64 (vs.at_ + 1)), vout))
    ((z537 (z477.mk vs.L (IntKind.wrap .i64 (vs.at_ + 1))) ([([] : List UInt8), ([115, 97] : List UInt8)] : List (List UInt8))).bind fun vr10 =>
    (z537 (z477.mk vs.L (IntKind.wrap .i64 ((IntKind.wrap .i64 (vs.at_ + 1)) + 1))) ([([100, 111] : List UInt8), ([100, 111] : List UInt8), ([120, 32, 34, 121, 34] : List UInt8)] : List (List UInt8))).bind fun vr11 =>
    (z528 (z477.mk vs.L (IntKind.wrap .i64 ((IntKind.wrap .i64 ((IntKind.wrap .i64 (vs.at_ + 1)) + 1)) + 1))) ([0, 0, 0, 5] : List Int)).bind fun vr12 =>
    (z531 (z477.mk vs.L (IntKind.wrap .i64 ((IntKind.wrap .i64 ((IntKind.wrap .i64 ((IntKind.wrap .i64 (vs.at_ + 1)) + 1)) + 1)) + 1))) 1 7).bind fun (vs4, vr13) =>
    (z528 vs4 ([0, 1, 1, 2] : List Int)).bind fun vr14 =>
    (z528 (z477.mk vs4.L (IntKind.wrap .i64 (vs4.at_ + 1))) ([0, 5, 5, 9] : List Int)).bind fun vr15 =>
    (z521 vy1 vr10 vr11 vr12 vs4 vr13 vr14 vr15).bind fun (vs5_1, vn2_1) =>
    gd (Nat.ble (vout.length + ([api_Note.mk (api_Letter.mk vn2_1.Letter.Id vn2_1.Letter.Slot vn2_1.Letter.Body vn2_1.Letter.Prio vn2_1.Letter.At vn2_1.Letter.Until) vn2_1.State vn2_1.Tries vn2_1.Since] : List api_Note).length) LIM) <|
    some (vs5_1, vout ++ ([api_Note.mk (api_Letter.mk vn2_1.Letter.Id vn2_1.Letter.Slot vn2_1.Letter.Body vn2_1.Letter.Prio vn2_1.Letter.At vn2_1.Letter.Until) vn2_1.State vn2_1.Tries vn2_1.Since] : List api_Note)))

noncomputable def z512 : z477 × (List api_Note) × Int → Option ((z477 × (List api_Note) × Int) ⊕ ((z477 × (List api_Note))))
  | (vs, vout, vx) =>
  cond (decide (vx < (([([108, 97] : List UInt8), ([108, 98] : List UInt8), ([108, 99] : List UInt8), ([108, 100] : List UInt8)] : List (List UInt8)).length : Int)))
    ((z517 vs vout vx).bind fun (vs6_1, vout2_1) =>
    some (.inl (vs6_1, vout2_1, IntKind.wrap .i64 (vx + 1))))
    (some (.inr (vs, vout)))

noncomputable def z509 (qs : z477) : Option (z477 × (List api_Note)) :=
  (loopO z512 (qs, [], 0)).bind fun (vs7_1, vout3_1) =>
  some (vs7_1, vout3_1)

/-! ### beaconfleet/fleetkeep2.spoil[beaconfleet/api.Letter] -/
noncomputable def z449 (ql : List api_Letter) : (List api_Letter) × Int → Option (((List api_Letter) × Int) ⊕ ((List api_Letter)))
  | (vl, vx) =>
  cond (decide (vx < (ql.length : Int)))
    ((at? vl vx).bind fun vy1 =>
    some (.inl (vl.set vx.toNat (api_Letter.mk ([] : List UInt8) ([] : List UInt8) ([] : List UInt8) 0 0 0), IntKind.wrap .i64 (vx + 1))))
    (some (.inr vl))

noncomputable def z446 (ql : List api_Letter) : Option ((List api_Letter)) :=
  (loopO (z449 ql) (ql, 0)).bind fun vl1_1 =>
  some vl1_1

/-! ### beaconfleet/command.CheckNotes -/
noncomputable def z186 (vy2 : api_Note) : Option (Bool) :=
  (base_Out vy2.Tries 0 20).bind fun vr4 =>
  cond (vr4)
    (some true)
    ((z41 vy2.Since).bind fun vr1_2 =>
    some (!vr1_2))

noncomputable def z190 (ql : List api_Note) (vx : Int) (vy2 : api_Note) : Option (Bool) :=
  cond (decide (0 < vx))
    ((at? ql (IntKind.wrap .i64 (vx - 1))).bind fun vy3 =>
    some (Op.bytesLess vy2.Letter.Id vy3.Letter.Id || decide (vy2.Letter.Id = vy3.Letter.Id)))
    (some false)

noncomputable def z181 (ql : List api_Note) (vx : Int) : Option ((Int) ⊕ (Unit ⊕ Int)) :=
  cond (decide (vx < (ql.length : Int)))
    ((at? ql vx).bind fun vy2 =>
    (z158 (api_Letter.mk vy2.Letter.Id vy2.Letter.Slot vy2.Letter.Body vy2.Letter.Prio vy2.Letter.At vy2.Letter.Until)).bind fun vr3_1 =>
    cond (!decide (vr3_1 = 0))
      (some (.inr (.inr vr3_1)))
      ((base_Out vy2.State 1 7).bind fun vr2 =>
      cond (vr2)
        (some (.inr (.inr 4)))
        ((z186 vy2).bind fun vx3_1 =>
        cond (vx3_1)
          (some (.inr (.inr 1)))
          ((z190 ql vx vy2).bind fun vx4_1 =>
          cond (vx4_1)
            (some (.inr (.inr 7)))
            (some (.inl (IntKind.wrap .i64 (vx + 1))))))))
    (some (.inr (.inl ())))

noncomputable def z170 (ql : List api_Note) : Option (Int) :=
  cond (decide (1500 < (ql.length : Int)))
    (some 2)
    ((loopO (z181 ql) 0).bind fun x => match x with
      | .inl _ =>
        some 0
      | .inr vx5_1 =>
        some vx5_1)

/-! ### beaconfleet/command.CheckNotes -/
noncomputable def z175 : Unit → Option ((Unit) ⊕ (Unit))
  | _ =>
  cond (decide ((0 : Int) < 0))
    (none)
    (some (.inr ()))

noncomputable def z172 : Option (Int) :=
  cond (decide (1500 < (0 : Int)))
    (some 2)
    ((loopO z175 ()).bind fun _ =>
    some 0)

/-! ### slices.Grow[[]beaconfleet/api.Note,beaconfleet/api.Note] -/
noncomputable def z767 (qn : Int) : Option ((List api_Note)) :=
  cond (decide (0 < (IntKind.wrap .i64 (qn - (IntKind.wrap .i64 ((0 : Int) - 0))))))
    (gd (decide (0 ≤ (IntKind.wrap .i64 (qn - (IntKind.wrap .i64 ((0 : Int) - 0))))) && decide ((IntKind.wrap .i64 (qn - (IntKind.wrap .i64 ((0 : Int) - 0)))) ≤ 137438953472)) <|
    gd (decide (0 ≤ (0 : Int)) && decide ((0 : Int) ≤ ((List.replicate (IntKind.wrap .i64 (qn - (IntKind.wrap .i64 ((0 : Int) - 0)))).toNat (api_Note.mk (api_Letter.mk ([] : List UInt8) ([] : List UInt8) ([] : List UInt8) 0 0 0) 0 0 0)).length : Int))) <|
    some ((List.replicate (IntKind.wrap .i64 (qn - (IntKind.wrap .i64 ((0 : Int) - 0)))).toNat (api_Note.mk (api_Letter.mk ([] : List UInt8) ([] : List UInt8) ([] : List UInt8) 0 0 0) 0 0 0)).take (0 : Int).toNat))
    (some [])

noncomputable def z764 (qn : Int) : Option ((List api_Note)) :=
  cond (decide (qn < 0))
    (none)
    ((z767 qn).bind fun vs1 =>
    some vs1)

/-! ### slices.Concat[[]beaconfleet/api.Note,beaconfleet/api.Note] -/
noncomputable def z709 (qslices : List (List api_Note)) : Int × Int → Option ((Int × Int) ⊕ (Int))
  | (vsize, vx) =>
  cond (decide (vx < (qslices.length : Int)))
    ((at? qslices vx).bind fun vy1 =>
    cond (decide ((IntKind.wrap .i64 (vsize + (vy1.length : Int))) < 0))
      (none)
      (some (.inl (IntKind.wrap .i64 (vsize + (vy1.length : Int)), IntKind.wrap .i64 (vx + 1)))))
    (some (.inr vsize))

noncomputable def z714 (qslices : List (List api_Note)) : (List api_Note) × Int → Option (((List api_Note) × Int) ⊕ ((List api_Note)))
  | (vnewslice, vx1) =>
  cond (decide (vx1 < (qslices.length : Int)))
    ((at? qslices vx1).bind fun vy3 =>
    gd (Nat.ble (vnewslice.length + vy3.length) LIM) <|
    some (.inl (vnewslice ++ vy3, IntKind.wrap .i64 (vx1 + 1))))
    (some (.inr vnewslice))

noncomputable def z706 (qslices : List (List api_Note)) : Option ((List api_Note)) :=
  (loopO (z709 qslices) (0, 0)).bind fun vsize1_1 =>
  (z764 vsize1_1).bind fun vr =>
  (loopO (z714 qslices) (vr, 0)).bind fun vnewslice1_1 =>
  some vnewslice1_1

/-! ### beaconfleet/command.Merge -/
noncomputable def z242 (qx : List api_Note) : Option (Bool) :=
  cond (decide (0 < (qx.length : Int)))
    (some (decide (0 < (0 : Int))))
    (some false)

noncomputable def z237 (qx : List api_Note) : Unit → Option ((Unit) ⊕ (Unit))
  | _ =>
  (z242 qx).bind fun vx2_1 =>
  cond (vx2_1)
    ((at? qx 0).bind fun vy1 =>
    none)
    (some (.inr ()))

noncomputable def z234 (qx : List api_Note) : Option ((List api_Note) × Int) :=
  (z170 qx).bind fun vr5 =>
  (z172).bind fun vr =>
  (z16 ([vr5, vr] : List Int)).bind fun vr1 =>
  cond (!decide (vr1 = 0))
    (some ([], vr1))
    ((loopO (z237 qx) ()).bind fun _ =>
    (z706 ([[], qx, []] : List (List api_Note))).bind fun vr1_1 =>
    cond (decide (1500 < (vr1_1.length : Int)))
      (some ([], 2))
      (some (vr1_1, 0)))

/-! ### beaconfleet/fleetkeep2.spoil[beaconfleet/api.Note] -/
noncomputable def z457 (ql : List api_Note) : (List api_Note) × Int → Option (((List api_Note) × Int) ⊕ ((List api_Note)))
  | (vl, vx) =>
  cond (decide (vx < (ql.length : Int)))
    ((at? vl vx).bind fun vy1 =>
    some (.inl (vl.set vx.toNat (api_Note.mk (api_Letter.mk ([] : List UInt8) ([] : List UInt8) ([] : List UInt8) 0 0 0) 0 0 0), IntKind.wrap .i64 (vx + 1))))
    (some (.inr vl))

noncomputable def z454 (ql : List api_Note) : Option ((List api_Note)) :=
  (loopO (z457 ql) (ql, 0)).bind fun vl1_1 =>
  some vl1_1

/-! ### (*beaconfleet/command.Office).timeFault -/
noncomputable def z355 (qo : Int) (qo1 : Int) (qo2 : Int) (qm : List (List UInt8 × api_Note)) (qo3 : Int) (qat : Int) : Option (Int) :=
  (z41 qat).bind fun vr1 =>
  cond (!vr1)
    (some 1)
    (cond (decide (qat < qo3))
      (some 7)
      (some 0))

/-! ### (*beaconfleet/command.Office).turn -/
noncomputable def z361 (qo : Int) (qo1 : Int) (qo2 : Int) (qo3 : Int) (qn : api_Note) : Option (Int) :=
  cond (decide (qn.State = 2))
    (some (imin qn.Letter.Until (IntKind.wrap .i64 (qn.Since + qo1))))
    (some qn.Letter.Until)

/-! ### (*beaconfleet/command.Office).grown -/
noncomputable def z336 (qo : Int) (qo1 : Int) (qo2 : Int) (qo3 : Int) (qat : Int) (vn : api_Note) : Option ((api_Note) ⊕ (api_Note)) :=
  (z387 vn.State).bind fun _ =>
  cond (!(decide (3 ≤ vn.State)))
    ((z361 qo qo1 qo2 qo3 (api_Note.mk (api_Letter.mk vn.Letter.Id vn.Letter.Slot vn.Letter.Body vn.Letter.Prio vn.Letter.At vn.Letter.Until) vn.State vn.Tries vn.Since)).bind fun vr1 =>
    cond (decide (qat < vr1))
      (some (.inr (api_Note.mk (api_Letter.mk vn.Letter.Id vn.Letter.Slot vn.Letter.Body vn.Letter.Prio vn.Letter.At vn.Letter.Until) vn.State vn.Tries vn.Since)))
      (cond (decide (vr1 = vn.Letter.Until))
        (some (.inl (api_Note.mk (api_Letter.mk vn.Letter.Id vn.Letter.Slot vn.Letter.Body vn.Letter.Prio vn.Letter.At vn.Letter.Until) 5 vn.Tries vr1)))
        (cond (decide (vn.Tries = qo2))
          (some (.inl (api_Note.mk (api_Letter.mk vn.Letter.Id vn.Letter.Slot vn.Letter.Body vn.Letter.Prio vn.Letter.At vn.Letter.Until) 7 vn.Tries vr1)))
          (some (.inl (api_Note.mk (api_Letter.mk vn.Letter.Id vn.Letter.Slot vn.Letter.Body vn.Letter.Prio vn.Letter.At vn.Letter.Until) 1 vn.Tries vr1))))))
    (some (.inr (api_Note.mk (api_Letter.mk vn.Letter.Id vn.Letter.Slot vn.Letter.Body vn.Letter.Prio vn.Letter.At vn.Letter.Until) vn.State vn.Tries vn.Since)))

noncomputable def z333 (qo : Int) (qo1 : Int) (qo2 : Int) (qo3 : Int) (qn : api_Note) (qat : Int) : Option (api_Note) :=
  (loopO (z336 qo qo1 qo2 qo3 qat) (api_Note.mk (api_Letter.mk qn.Letter.Id qn.Letter.Slot qn.Letter.Body qn.Letter.Prio qn.Letter.At qn.Letter.Until) qn.State qn.Tries qn.Since)).bind fun vn1_1 =>
  some (api_Note.mk (api_Letter.mk vn1_1.Letter.Id vn1_1.Letter.Slot vn1_1.Letter.Body vn1_1.Letter.Prio vn1_1.Letter.At vn1_1.Letter.Until) vn1_1.State vn1_1.Tries vn1_1.Since)

/-! ### (*beaconfleet/command.Office).aged -/
noncomputable def z310 (qo : Int) (qo1 : Int) (qo2 : Int) (qo3 : Int) (qat : Int) (qe : Option (List UInt8 × api_Note)) : (List (List UInt8 × api_Note)) × (List api_Note) → Option (((List (List UInt8 × api_Note)) × (List api_Note)) ⊕ (((List (List UInt8 × api_Note)) × (List api_Note))))
  | (vm, vover) =>
  match qe with
  | none =>
    some (.inr (vm, vover))
  | some ve1 =>
    (z333 qo qo1 qo2 qo3 (api_Note.mk (api_Letter.mk ve1.2.Letter.Id ve1.2.Letter.Slot ve1.2.Letter.Body ve1.2.Letter.Prio ve1.2.Letter.At ve1.2.Letter.Until) ve1.2.State ve1.2.Tries ve1.2.Since) qat).bind fun vr2_1 =>
    (z387 vr2_1.State).bind fun _ =>
    cond (decide (3 ≤ vr2_1.State))
      (gd (Nat.ble (vover.length + ([api_Note.mk (api_Letter.mk vr2_1.Letter.Id vr2_1.Letter.Slot vr2_1.Letter.Body vr2_1.Letter.Prio vr2_1.Letter.At vr2_1.Letter.Until) vr2_1.State vr2_1.Tries vr2_1.Since] : List api_Note).length) LIM) <|
      some (.inl (aput vm ve1.1 (api_Note.mk (api_Letter.mk vr2_1.Letter.Id vr2_1.Letter.Slot vr2_1.Letter.Body vr2_1.Letter.Prio vr2_1.Letter.At vr2_1.Letter.Until) vr2_1.State vr2_1.Tries vr2_1.Since), vover ++ ([api_Note.mk (api_Letter.mk vr2_1.Letter.Id vr2_1.Letter.Slot vr2_1.Letter.Body vr2_1.Letter.Prio vr2_1.Letter.At vr2_1.Letter.Until) vr2_1.State vr2_1.Tries vr2_1.Since] : List api_Note))))
      (some (.inl (aput vm ve1.1 (api_Note.mk (api_Letter.mk vr2_1.Letter.Id vr2_1.Letter.Slot vr2_1.Letter.Body vr2_1.Letter.Prio vr2_1.Letter.At vr2_1.Letter.Until) vr2_1.State vr2_1.Tries vr2_1.Since), vover)))

noncomputable def z315 (qo : Int) (vl3 : List api_Note) : (List (List UInt8 × api_Note)) × Int → Option (((List (List UInt8 × api_Note)) × Int) ⊕ ((List (List UInt8 × api_Note))))
  | (vm2, vx) =>
  cond (decide (vx < ((vl3.take (imax 0 (IntKind.wrap .i64 ((vl3.length : Int) - qo))).toNat).length : Int)))
    ((at? (vl3.take (imax 0 (IntKind.wrap .i64 ((vl3.length : Int) - qo))).toNat) vx).bind fun vy1 =>
    some (.inl (adel vm2 vy1.Letter.Id, IntKind.wrap .i64 (vx + 1))))
    (some (.inr vm2))

noncomputable def z307 (qo : Int) (qo1 : Int) (qo2 : Int) (qm : List (List UInt8 × api_Note)) (qo3 : Int) (qat : Int) : Option ((List (List UInt8 × api_Note))) :=
  allPerm qm fun zo =>
  (rngO (z310 qo qo1 qo2 qo3 qat) zo (([] : List (List UInt8 × api_Note)), [])).bind fun (vm1_1, vover1_1) =>
  (z803 vover1_1).bind fun vl3 =>
  gd (vl3.length == vover1_1.length) <|
  gd (decide (0 ≤ (imax 0 (IntKind.wrap .i64 ((vl3.length : Int) - qo)))) && decide ((imax 0 (IntKind.wrap .i64 ((vl3.length : Int) - qo))) ≤ (vl3.length : Int))) <|
  (loopO (z315 qo vl3) (vm1_1, 0)).bind fun vm3_1 =>
  some vm3_1

/-! ### (*beaconfleet/command.Office).keep -/
noncomputable def z349 (qo : Int) (qo1 : Int) (qo2 : Int) (qm : List (List UInt8 × api_Note)) (qo3 : Int) (qm1 : List (List UInt8 × api_Note)) (qat : Int) : Option (Unit) :=
  some ()

/-! ### (*beaconfleet/command.Office).Put -/
noncomputable def z292 (qx4 : api_Letter) (ve2 : (List UInt8 × api_Note)) : Option (Bool) :=
  cond (!decide (qx4.Slot = ([] : List UInt8)))
    (cond (decide (ve2.2.Letter.Slot = qx4.Slot))
      (cond (decide (ve2.2.State = 1))
        (some (decide (ve2.2.Tries = 0)))
        (some false))
      (some false))
    (some false)

noncomputable def z287 (qx4 : api_Letter) (qe : Option (List UInt8 × api_Note)) (vx : List UInt8) : Option (((List UInt8)) ⊕ ((List UInt8))) :=
  match qe with
  | none =>
    some (.inr vx)
  | some ve2 =>
    (z292 qx4 ve2).bind fun vx2_1 =>
    cond (vx2_1)
      (some (.inl ve2.1))
      (some (.inl vx))

noncomputable def z296 (qx : Int) (vx3_1 : List UInt8) : Option (Int) :=
  cond (!decide (vx3_1 = ([] : List UInt8)))
    (some (IntKind.wrap .i64 (qx + 1)))
    (some qx)

noncomputable def z300 (qx4 : api_Letter) (vm4 : List (List UInt8 × api_Note)) (vx3_1 : List UInt8) : Option ((List (List UInt8 × api_Note))) :=
  cond (!decide (vx3_1 = ([] : List UInt8)))
    ((some ((aget vm4 vx3_1).getD (api_Note.mk (api_Letter.mk ([] : List UInt8) ([] : List UInt8) ([] : List UInt8) 0 0 0) 0 0 0))).bind fun ve3 =>
    some (aput vm4 vx3_1 (api_Note.mk (api_Letter.mk ve3.Letter.Id ve3.Letter.Slot ve3.Letter.Body ve3.Letter.Prio ve3.Letter.At ve3.Letter.Until) 6 ve3.Tries qx4.At)))
    (some vm4)

noncomputable def z284 (qx : Int) (qx1 : Int) (qx2 : Int) (qm : List (List UInt8 × api_Note)) (qx3 : Int) (qx4 : api_Letter) : Option (Int ⊕ (List (List UInt8 × api_Note))) :=
  (z158 qx4).bind fun vr3 =>
  (z355 qx qx1 qx2 qm qx3 qx4.At).bind fun vr =>
  (z16 ([vr3, vr] : List Int)).bind fun vr1 =>
  cond (!decide (vr1 = 0))
    (some (.inl vr1))
    ((z307 qx qx1 qx2 qm qx3 qx4.At).bind fun vm4 =>
    (some ((aget vm4 qx4.Id).getD (api_Note.mk (api_Letter.mk ([] : List UInt8) ([] : List UInt8) ([] : List UInt8) 0 0 0) 0 0 0))).bind fun ve =>
    (some (aget vm4 qx4.Id).isSome).bind fun vis =>
    cond (vis)
      (some (.inl 6))
      (allPerm vm4 fun zo =>
      (rngO (z287 qx4) zo ([] : List UInt8)).bind fun vx3_1 =>
      (z296 qx vx3_1).bind fun vx4_1 =>
      (z390 vm4).bind fun vr2 =>
      cond (decide (vx4_1 ≤ vr2))
        (some (.inl 12))
        ((z300 qx4 vm4 vx3_1).bind fun vm1 =>
        (z349 qx qx1 qx2 qm qx3 (aput vm1 qx4.Id (api_Note.mk qx4 1 0 qx4.At)) qx4.At).bind fun _ =>
        some (.inr (aput vm1 qx4.Id (api_Note.mk qx4 1 0 qx4.At))))))

/-! ### (*beaconfleet/command.Office).timeFault -/
noncomputable def z358 (qo : Int) (qo1 : Int) (qo2 : Int) (qm : List (List UInt8 × api_Note)) (qo3 : Int) : Option (Int) :=
  (z41 qo3).bind fun vr1 =>
  cond (!vr1)
    (some 1)
    (cond (decide (qo3 < qo3))
      (some 7)
      (some 0))

/-! ### (*beaconfleet/command.Office).grown -/
noncomputable def z344 (qo : Int) (qo1 : Int) (qo2 : Int) (qo3 : Int) (vn : api_Note) : Option ((api_Note) ⊕ (api_Note)) :=
  (z387 vn.State).bind fun _ =>
  cond (!(decide (3 ≤ vn.State)))
    ((z361 qo qo1 qo2 qo3 (api_Note.mk (api_Letter.mk vn.Letter.Id vn.Letter.Slot vn.Letter.Body vn.Letter.Prio vn.Letter.At vn.Letter.Until) vn.State vn.Tries vn.Since)).bind fun vr1 =>
    cond (decide (qo3 < vr1))
      (some (.inr (api_Note.mk (api_Letter.mk vn.Letter.Id vn.Letter.Slot vn.Letter.Body vn.Letter.Prio vn.Letter.At vn.Letter.Until) vn.State vn.Tries vn.Since)))
      (cond (decide (vr1 = vn.Letter.Until))
        (some (.inl (api_Note.mk (api_Letter.mk vn.Letter.Id vn.Letter.Slot vn.Letter.Body vn.Letter.Prio vn.Letter.At vn.Letter.Until) 5 vn.Tries vr1)))
        (cond (decide (vn.Tries = qo2))
          (some (.inl (api_Note.mk (api_Letter.mk vn.Letter.Id vn.Letter.Slot vn.Letter.Body vn.Letter.Prio vn.Letter.At vn.Letter.Until) 7 vn.Tries vr1)))
          (some (.inl (api_Note.mk (api_Letter.mk vn.Letter.Id vn.Letter.Slot vn.Letter.Body vn.Letter.Prio vn.Letter.At vn.Letter.Until) 1 vn.Tries vr1))))))
    (some (.inr (api_Note.mk (api_Letter.mk vn.Letter.Id vn.Letter.Slot vn.Letter.Body vn.Letter.Prio vn.Letter.At vn.Letter.Until) vn.State vn.Tries vn.Since)))

noncomputable def z341 (qo : Int) (qo1 : Int) (qo2 : Int) (qo3 : Int) (qn : api_Note) : Option (api_Note) :=
  (loopO (z344 qo qo1 qo2 qo3) (api_Note.mk (api_Letter.mk qn.Letter.Id qn.Letter.Slot qn.Letter.Body qn.Letter.Prio qn.Letter.At qn.Letter.Until) qn.State qn.Tries qn.Since)).bind fun vn1_1 =>
  some (api_Note.mk (api_Letter.mk vn1_1.Letter.Id vn1_1.Letter.Slot vn1_1.Letter.Body vn1_1.Letter.Prio vn1_1.Letter.At vn1_1.Letter.Until) vn1_1.State vn1_1.Tries vn1_1.Since)

/-! ### (*beaconfleet/command.Office).aged -/
noncomputable def z323 (qo : Int) (qo1 : Int) (qo2 : Int) (qo3 : Int) (qe : Option (List UInt8 × api_Note)) : (List (List UInt8 × api_Note)) × (List api_Note) → Option (((List (List UInt8 × api_Note)) × (List api_Note)) ⊕ (((List (List UInt8 × api_Note)) × (List api_Note))))
  | (vm, vover) =>
  match qe with
  | none =>
    some (.inr (vm, vover))
  | some ve1 =>
    (z341 qo qo1 qo2 qo3 (api_Note.mk (api_Letter.mk ve1.2.Letter.Id ve1.2.Letter.Slot ve1.2.Letter.Body ve1.2.Letter.Prio ve1.2.Letter.At ve1.2.Letter.Until) ve1.2.State ve1.2.Tries ve1.2.Since)).bind fun vr2_1 =>
    (z387 vr2_1.State).bind fun _ =>
    cond (decide (3 ≤ vr2_1.State))
      (gd (Nat.ble (vover.length + ([api_Note.mk (api_Letter.mk vr2_1.Letter.Id vr2_1.Letter.Slot vr2_1.Letter.Body vr2_1.Letter.Prio vr2_1.Letter.At vr2_1.Letter.Until) vr2_1.State vr2_1.Tries vr2_1.Since] : List api_Note).length) LIM) <|
      some (.inl (aput vm ve1.1 (api_Note.mk (api_Letter.mk vr2_1.Letter.Id vr2_1.Letter.Slot vr2_1.Letter.Body vr2_1.Letter.Prio vr2_1.Letter.At vr2_1.Letter.Until) vr2_1.State vr2_1.Tries vr2_1.Since), vover ++ ([api_Note.mk (api_Letter.mk vr2_1.Letter.Id vr2_1.Letter.Slot vr2_1.Letter.Body vr2_1.Letter.Prio vr2_1.Letter.At vr2_1.Letter.Until) vr2_1.State vr2_1.Tries vr2_1.Since] : List api_Note))))
      (some (.inl (aput vm ve1.1 (api_Note.mk (api_Letter.mk vr2_1.Letter.Id vr2_1.Letter.Slot vr2_1.Letter.Body vr2_1.Letter.Prio vr2_1.Letter.At vr2_1.Letter.Until) vr2_1.State vr2_1.Tries vr2_1.Since), vover)))

noncomputable def z328 (qo : Int) (vl3 : List api_Note) : (List (List UInt8 × api_Note)) × Int → Option (((List (List UInt8 × api_Note)) × Int) ⊕ ((List (List UInt8 × api_Note))))
  | (vm2, vx) =>
  cond (decide (vx < ((vl3.take (imax 0 (IntKind.wrap .i64 ((vl3.length : Int) - qo))).toNat).length : Int)))
    ((at? (vl3.take (imax 0 (IntKind.wrap .i64 ((vl3.length : Int) - qo))).toNat) vx).bind fun vy1 =>
    some (.inl (adel vm2 vy1.Letter.Id, IntKind.wrap .i64 (vx + 1))))
    (some (.inr vm2))

noncomputable def z320 (qo : Int) (qo1 : Int) (qo2 : Int) (qm : List (List UInt8 × api_Note)) (qo3 : Int) : Option ((List (List UInt8 × api_Note))) :=
  allPerm qm fun zo =>
  (rngO (z323 qo qo1 qo2 qo3) zo (([] : List (List UInt8 × api_Note)), [])).bind fun (vm1_1, vover1_1) =>
  (z803 vover1_1).bind fun vl3 =>
  gd (vl3.length == vover1_1.length) <|
  gd (decide (0 ≤ (imax 0 (IntKind.wrap .i64 ((vl3.length : Int) - qo)))) && decide ((imax 0 (IntKind.wrap .i64 ((vl3.length : Int) - qo))) ≤ (vl3.length : Int))) <|
  (loopO (z328 qo vl3) (vm1_1, 0)).bind fun vm3_1 =>
  some vm3_1

/-! ### (*beaconfleet/command.Office).keep -/
noncomputable def z352 (qo : Int) (qo1 : Int) (qo2 : Int) (qm : List (List UInt8 × api_Note)) (qo3 : Int) (qm1 : List (List UInt8 × api_Note)) : Option (Unit) :=
  some ()

/-! ### (*beaconfleet/command.Office).Notes$1 -/
noncomputable def z266 (qa : api_Note) (qb : api_Note) : Option (Unit) :=
  (z1102 qa.Letter.Id qb.Letter.Id).bind fun _ =>
  some ()

/-! ### slices.insertionSortCmpFunc[beaconfleet/api.Note] -/
noncomputable def z859 (qa : Int) (vl3 : List api_Note) (vj1 : Int) : Option (Bool) :=
  cond (decide (qa < vj1))
    ((at? vl3 vj1).bind fun vy15 =>
    (at? vl3 (IntKind.wrap .i64 (vj1 - 1))).bind fun vy16 =>
    (z266 (api_Note.mk (api_Letter.mk vy15.Letter.Id vy15.Letter.Slot vy15.Letter.Body vy15.Letter.Prio vy15.Letter.At vy15.Letter.Until) vy15.State vy15.Tries vy15.Since) (api_Note.mk (api_Letter.mk vy16.Letter.Id vy16.Letter.Slot vy16.Letter.Body vy16.Letter.Prio vy16.Letter.At vy16.Letter.Until) vy16.State vy16.Tries vy16.Since)).bind fun _ =>
    some (decide ((Lib.compareBytes vy15.Letter.Id vy16.Letter.Id) < 0)))
    (some false)

noncomputable def z854 (qa : Int) : (List api_Note) × Int → Option (((List api_Note) × Int) ⊕ ((List api_Note)))
  | (vl3, vj1) =>
  (z859 qa vl3 vj1).bind fun vx4_1 =>
  cond (vx4_1)
    ((at? vl3 (IntKind.wrap .i64 (vj1 - 1))).bind fun vy17 =>
    (at? vl3 vj1).bind fun vy18 =>
    (at? (vl3.set vj1.toNat (api_Note.mk (api_Letter.mk vy17.Letter.Id vy17.Letter.Slot vy17.Letter.Body vy17.Letter.Prio vy17.Letter.At vy17.Letter.Until) vy17.State vy17.Tries vy17.Since)) (IntKind.wrap .i64 (vj1 - 1))).bind fun vy19 =>
    some (.inl ((vl3.set vj1.toNat (api_Note.mk (api_Letter.mk vy17.Letter.Id vy17.Letter.Slot vy17.Letter.Body vy17.Letter.Prio vy17.Letter.At vy17.Letter.Until) vy17.State vy17.Tries vy17.Since)).set (IntKind.wrap .i64 (vj1 - 1)).toNat (api_Note.mk (api_Letter.mk vy18.Letter.Id vy18.Letter.Slot vy18.Letter.Body vy18.Letter.Prio vy18.Letter.At vy18.Letter.Until) vy18.State vy18.Tries vy18.Since), IntKind.wrap .i64 (vj1 - 1))))
    (some (.inr vl3))

noncomputable def z849 (qa : Int) (qb : Int) : (List api_Note) × Int → Option (((List api_Note) × Int) ⊕ ((List api_Note)))
  | (vl, vi) =>
  cond (decide (vi < qb))
    ((loopO (z854 qa) (vl, vi)).bind fun vl4_1 =>
    some (.inl (vl4_1, IntKind.wrap .i64 (vi + 1))))
    (some (.inr vl))

noncomputable def z846 (qdata : List api_Note) (qa : Int) (qb : Int) : Option ((List api_Note)) :=
  (loopO (z849 qa qb) (qdata, IntKind.wrap .i64 (qa + 1))).bind fun vl5_1 =>
  some vl5_1

/-! ### slices.pdqsortCmpFunc[beaconfleet/api.Note] -/
noncomputable def z908 (qx : List api_Note) (qx1 : Int) (qx2 : Int) (qx3 : Int) : Unit → Option ((Unit) ⊕ ((List api_Note)))
  | _ =>
  cond (decide ((IntKind.wrap .i64 (qx2 - qx1)) ≤ 12))
    ((z846 qx qx1 qx2).bind fun vl6_1 =>
    gd (vl6_1.length == qx.length) <|
    some (.inr vl6_1))
    (cond (decide (qx3 = 0))
      (none)
      (none))

noncomputable def z905 (qx : List api_Note) (qx1 : Int) (qx2 : Int) (qx3 : Int) : Option ((List api_Note)) :=
  (loopO (z908 qx qx1 qx2 qx3) ()).bind fun vl1 =>
  some vl1

/-! ### slices.SortFunc[[]beaconfleet/api.Note,beaconfleet/api.Note] -/
noncomputable def z800 (qx : List api_Note) : Option ((List api_Note)) :=
  (bits_Len (IntKind.wrap .u64 ((qx.length : Int)))).bind fun vr1 =>
  (z905 qx 0 (qx.length : Int) vr1).bind fun vl2 =>
  gd (vl2.length == qx.length) <|
  some vl2

/-! ### (*beaconfleet/command.Office).Notes -/
noncomputable def z279 (qe : Option (List UInt8 × api_Note)) (vout : List api_Note) : Option (((List api_Note)) ⊕ ((List api_Note))) :=
  match qe with
  | none =>
    some (.inr vout)
  | some ve1 =>
    gd (Nat.ble (vout.length + ([api_Note.mk (api_Letter.mk ve1.2.Letter.Id ve1.2.Letter.Slot ve1.2.Letter.Body ve1.2.Letter.Prio ve1.2.Letter.At ve1.2.Letter.Until) ve1.2.State ve1.2.Tries ve1.2.Since] : List api_Note).length) LIM) <|
    some (.inl (vout ++ ([api_Note.mk (api_Letter.mk ve1.2.Letter.Id ve1.2.Letter.Slot ve1.2.Letter.Body ve1.2.Letter.Prio ve1.2.Letter.At ve1.2.Letter.Until) ve1.2.State ve1.2.Tries ve1.2.Since] : List api_Note)))

noncomputable def z265 (qo : Int) (qo1 : Int) (qo2 : Int) (qm : List (List UInt8 × api_Note)) (qo3 : Int) : Option (Int ⊕ ((List (List UInt8 × api_Note)) × (List api_Note))) :=
  (z358 qo qo1 qo2 qm qo3).bind fun vr =>
  cond (!decide (vr = 0))
    (some (.inl vr))
    ((z320 qo qo1 qo2 qm qo3).bind fun vm4 =>
    (z352 qo qo1 qo2 qm qo3 vm4).bind fun _ =>
    allPerm vm4 fun zo =>
    (rngO (z279) zo []).bind fun vout1_1 =>
    (z800 vout1_1).bind fun vl3 =>
    gd (vl3.length == vout1_1.length) <|
    some (.inr (vm4, vl3)))

/-! ### (*beaconfleet/command.Office).Fetch -/
noncomputable def z255 (qe : Option (List UInt8 × api_Note)) (vx : List api_Letter) : Option (((List api_Letter)) ⊕ ((List api_Letter))) :=
  match qe with
  | none =>
    some (.inr vx)
  | some ve1 =>
    cond (decide (ve1.2.State = 1))
      (gd (Nat.ble (vx.length + ([api_Letter.mk ve1.2.Letter.Id ve1.2.Letter.Slot ve1.2.Letter.Body ve1.2.Letter.Prio ve1.2.Letter.At ve1.2.Letter.Until] : List api_Letter).length) LIM) <|
      some (.inl (vx ++ ([api_Letter.mk ve1.2.Letter.Id ve1.2.Letter.Slot ve1.2.Letter.Body ve1.2.Letter.Prio ve1.2.Letter.At ve1.2.Letter.Until] : List api_Letter))))
      (some (.inl vx))

noncomputable def z260 (qx4 : Int) (vr2 : List api_Letter) : (List (List UInt8 × api_Note)) × Int → Option (((List (List UInt8 × api_Note)) × Int) ⊕ ((List (List UInt8 × api_Note))))
  | (vm, vx2) =>
  cond (decide (vx2 < (vr2.length : Int)))
    ((at? vr2 vx2).bind fun vy1 =>
    (some ((aget vm vy1.Id).getD (api_Note.mk (api_Letter.mk ([] : List UInt8) ([] : List UInt8) ([] : List UInt8) 0 0 0) 0 0 0))).bind fun ve3 =>
    some (.inl (aput vm vy1.Id (api_Note.mk (api_Letter.mk ve3.Letter.Id ve3.Letter.Slot ve3.Letter.Body ve3.Letter.Prio ve3.Letter.At ve3.Letter.Until) 2 (IntKind.wrap .i64 (ve3.Tries + 1)) qx4), IntKind.wrap .i64 (vx2 + 1))))
    (some (.inr vm))

noncomputable def z252 (qx : Int) (qx1 : Int) (qx2 : Int) (qm : List (List UInt8 × api_Note)) (qx3 : Int) (qx4 : Int) : Option (Int ⊕ ((List (List UInt8 × api_Note)) × (List api_Letter))) :=
  (z355 qx qx1 qx2 qm qx3 qx4).bind fun vr =>
  cond (!decide (vr = 0))
    (some (.inl vr))
    ((base_Out qx 0 500).bind fun vr1 =>
    cond (vr1)
      (some (.inl 1))
      ((z307 qx qx1 qx2 qm qx3 qx4).bind fun vm4 =>
      allPerm vm4 fun zo =>
      (rngO (z255) zo []).bind fun vx1_1 =>
      (z797 vx1_1).bind fun vl3 =>
      gd (vl3.length == vx1_1.length) <|
      (sub? vl3 0 (imin qx (vl3.length : Int))).bind fun vl4 =>
      (z666 vl4).bind fun vr2 =>
      (loopO (z260 qx4 vr2) (vm4, 0)).bind fun vm1_1 =>
      (z349 qx qx1 qx2 qm qx3 vm1_1 qx4).bind fun _ =>
      some (.inr (vm1_1, vr2))))

/-! ### (*beaconfleet/command.Office).Notes -/
noncomputable def z272 (qe : Option (List UInt8 × api_Note)) (vout : List api_Note) : Option (((List api_Note)) ⊕ ((List api_Note))) :=
  match qe with
  | none =>
    some (.inr vout)
  | some ve1 =>
    gd (Nat.ble (vout.length + ([api_Note.mk (api_Letter.mk ve1.2.Letter.Id ve1.2.Letter.Slot ve1.2.Letter.Body ve1.2.Letter.Prio ve1.2.Letter.At ve1.2.Letter.Until) ve1.2.State ve1.2.Tries ve1.2.Since] : List api_Note).length) LIM) <|
    some (.inl (vout ++ ([api_Note.mk (api_Letter.mk ve1.2.Letter.Id ve1.2.Letter.Slot ve1.2.Letter.Body ve1.2.Letter.Prio ve1.2.Letter.At ve1.2.Letter.Until) ve1.2.State ve1.2.Tries ve1.2.Since] : List api_Note)))

noncomputable def z269 (qo : Int) (qo1 : Int) (qo2 : Int) (qm : List (List UInt8 × api_Note)) (qo3 : Int) (qat : Int) : Option (Int ⊕ ((List (List UInt8 × api_Note)) × (List api_Note))) :=
  (z355 qo qo1 qo2 qm qo3 qat).bind fun vr =>
  cond (!decide (vr = 0))
    (some (.inl vr))
    ((z307 qo qo1 qo2 qm qo3 qat).bind fun vm4 =>
    (z349 qo qo1 qo2 qm qo3 vm4 qat).bind fun _ =>
    allPerm vm4 fun zo =>
    (rngO (z272) zo []).bind fun vout1_1 =>
    (z800 vout1_1).bind fun vl3 =>
    gd (vl3.length == vout1_1.length) <|
    some (.inr (vm4, vl3)))

/-! ### beaconfleet/fleetkeep2.spoil[string] -/
noncomputable def z465 (ql : List (List UInt8)) : (List (List UInt8)) × Int → Option (((List (List UInt8)) × Int) ⊕ ((List (List UInt8))))
  | (vl, vx) =>
  cond (decide (vx < (ql.length : Int)))
    ((at? vl vx).bind fun vy1 =>
    some (.inl (vl.set vx.toNat ([] : List UInt8), IntKind.wrap .i64 (vx + 1))))
    (some (.inr vl))

noncomputable def z462 (ql : List (List UInt8)) : Option ((List (List UInt8))) :=
  (loopO (z465 ql) (ql, 0)).bind fun vl1_1 =>
  some vl1_1

/-! ### slices.Equal[[]beaconfleet/api.Letter,beaconfleet/api.Letter] -/
noncomputable def z735 (qs1 : List api_Letter) (vx : Int) : Option ((Int) ⊕ (Unit ⊕ Unit)) :=
  cond (decide (vx < (qs1.length : Int)))
    ((at? qs1 vx).bind fun vy1 =>
    cond (!(decide (vy1.Id = vy1.Id) && (decide (vy1.Slot = vy1.Slot) && (decide (vy1.Body = vy1.Body) && (decide (vy1.Prio = vy1.Prio) && (decide (vy1.At = vy1.At) && (decide (vy1.Until = vy1.Until) && true)))))))
      (some (.inr (.inr ())))
      (some (.inl (IntKind.wrap .i64 (vx + 1)))))
    (some (.inr (.inl ())))

noncomputable def z732 (qs1 : List api_Letter) : Option (Bool) :=
  cond (!decide ((qs1.length : Int) = (qs1.length : Int)))
    (some false)
    ((loopO (z735 qs1) 0).bind fun x => match x with
      | .inl _ =>
        some true
      | .inr _ =>
        some false)

/-! ### slices.Equal[[]beaconfleet/api.Note,beaconfleet/api.Note] -/
noncomputable def z743 (qs1 : List api_Note) (vx : Int) : Option ((Int) ⊕ (Unit ⊕ Unit)) :=
  cond (decide (vx < (qs1.length : Int)))
    ((at? qs1 vx).bind fun vy1 =>
    cond (!((decide (vy1.Letter.Id = vy1.Letter.Id) && (decide (vy1.Letter.Slot = vy1.Letter.Slot) && (decide (vy1.Letter.Body = vy1.Letter.Body) && (decide (vy1.Letter.Prio = vy1.Letter.Prio) && (decide (vy1.Letter.At = vy1.Letter.At) && (decide (vy1.Letter.Until = vy1.Letter.Until) && true)))))) && (decide (vy1.State = vy1.State) && (decide (vy1.Tries = vy1.Tries) && (decide (vy1.Since = vy1.Since) && true)))))
      (some (.inr (.inr ())))
      (some (.inl (IntKind.wrap .i64 (vx + 1)))))
    (some (.inr (.inl ())))

noncomputable def z740 (qs1 : List api_Note) : Option (Bool) :=
  cond (!decide ((qs1.length : Int) = (qs1.length : Int)))
    (some false)
    ((loopO (z743 qs1) 0).bind fun x => match x with
      | .inl _ =>
        some true
      | .inr _ =>
        some false)

/-! ### beaconfleet/fleetkeep2.CommandsStay -/
noncomputable def z399 (vr : Int) : Option (Unit) :=
  cond (!decide (vr = 0))
    (some ())
    (cond (!decide ((1 : Int) = 0))
      (some ())
      (some ()))

noncomputable def z403 (vr : Int) : Option (Unit) :=
  cond (!decide (vr = 0))
    (some ())
    (cond (!decide ((0 : Int) = 0))
      (some ())
      (some ()))

noncomputable def z407 : Option (Unit) :=
  cond (!decide ((0 : Int) = 0))
    (some ())
    (cond (!decide ((1 : Int) = 0))
      (some ())
      (some ()))

noncomputable def z411 : Option (((List (List UInt8 × api_Note)) × Bool)) :=
  cond (!decide ((0 : Int) = 0))
    (some (([] : List (List UInt8 × api_Note)), true))
    ((z284 5 10 2 ([] : List (List UInt8 × api_Note)) 0 (api_Letter.mk ([108, 97] : List UInt8) ([] : List UInt8) ([] : List UInt8) 0 0 50)).bind fun x => match x with
      | .inl vr4_2 =>
        some (([] : List (List UInt8 × api_Note)), !decide (vr4_2 = 0))
      | .inr vm2 =>
        some (vm2, false))

noncomputable def z415 (vm1 : List (List UInt8 × api_Note)) : Option (((List (List UInt8 × api_Note)) × (List api_Note))) :=
  (z265 5 10 2 vm1 0).bind fun x => match x with
    | .inl vr1 =>
      some (vm1, [])
    | .inr (vm3, vr2_2) =>
      some (vm3, vr2_2)

noncomputable def z419 (vm4_1 : List (List UInt8 × api_Note)) : Option (((List (List UInt8 × api_Note)) × Int × (List api_Letter))) :=
  (z252 5 10 2 vm4_1 0 1).bind fun x => match x with
    | .inl vr3_1 =>
      some (vm4_1, 0, [])
    | .inr (vm2_1, vr4_3) =>
      some (vm2_1, 1, vr4_3)

noncomputable def z423 (vm5_1 : List (List UInt8 × api_Note)) (vx3_1 : Int) : Option ((Int × (List api_Note))) :=
  (z269 5 10 2 vm5_1 vx3_1 1).bind fun x => match x with
    | .inl vr1_1 =>
      some (vr1_1, [])
    | .inr (vm6, vr2_3) =>
      some (0, vr2_3)

noncomputable def z427 (vr4 : List api_Letter) (vr18 : List api_Note) (vx5_1 : Int) (vx6_1 : List api_Note) (vs : List z386) (vs1 : Int) : Option (Bool) :=
  cond (decide (vx5_1 = 0))
    (cond (decide ((vx6_1.length : Int) = 1))
      ((at? vx6_1 0).bind fun vy =>
      cond (decide (vy.Letter.Id = ([108, 97] : List UInt8)))
        ((z226 (z201.mk 5 vs vs1)).bind fun vr8 =>
        (z756 vr8 ([([108, 97] : List UInt8)] : List (List UInt8))).bind fun vr9 =>
        cond (vr9)
          ((z732 vr4).bind fun vr10 =>
          cond (vr10)
            ((z740 vr18).bind fun vr11 =>
            cond (vr11)
              ((z439).bind fun vr9_1 =>
              some vr9_1)
              (some false))
            (some false))
          (some false))
        (some false))
      (some false))
    (some false)

noncomputable def fleetkeep2_CommandsStay (qx : List Int) : Option (Bool) :=
  (z488 (z477.mk qx 0) 5).bind fun (vs2, vr4) =>
  (z509 vs2).bind fun (vs8, vr18) =>
  (z364 vr4).bind fun (vr2, vr4_1) =>
  (z446 vr2).bind fun vl2 =>
  gd (vl2.length == vr2.length) <|
  (z234 vr18).bind fun (vr2_1, vr3) =>
  (z454 vr2_1).bind fun vl2_1 =>
  gd (vl2_1.length == vr2_1.length) <|
  (z246 (api_Post.mk 5 10 2 5)).bind fun x => match x with
    | .inl vr =>
      (z247 5).bind fun x => match x with
        | .inl _ =>
          (z399 vr).bind fun _ =>
          some false
        | .inr _ =>
          (z403 vr).bind fun _ =>
          some false
    | .inr _ =>
      (z247 5).bind fun x => match x with
        | .inl _ =>
          (z407).bind fun _ =>
          some false
        | .inr _ =>
          (z411).bind fun (vm1, vx1) =>
          cond (vx1)
            (some false)
            ((z415 vm1).bind fun (vm4_1, vx2_1) =>
            (z454 vx2_1).bind fun vl2_2 =>
            gd (vl2_2.length == vx2_1.length) <|
            (z419 vm4_1).bind fun (vm5_1, vx3_1, vx4_1) =>
            (z446 vx4_1).bind fun vl2_3 =>
            gd (vl2_3.length == vx4_1.length) <|
            (z423 vm5_1 vx3_1).bind fun (vx5_1, vx6_1) =>
            (z202 (z201.mk 5 [] 0) (api_Letter.mk ([108, 97] : List UInt8) ([] : List UInt8) ([] : List UInt8) 0 0 50) 1).bind fun (vs, vs1, vr5, vr6) =>
            (z226 (z201.mk 5 vs vs1)).bind fun vr7 =>
            (z462 vr7).bind fun vl2_4 =>
            gd (vl2_4.length == vr7.length) <|
            (z427 vr4 vr18 vx5_1 vx6_1 vs vs1).bind fun vx7_1 =>
            some vx7_1)

end Go.Eng
