/-
The Go functions that the law TwinsSettle reaches, as plain functions.
-/
import Derived.Test.YtfbeijbgfhelfaaGreatDoorEngV

import Derived.Lib.Repeat

import Derived.Lib.ValidU

namespace Go.Eng

open Go

set_option linter.unusedVariables false

structure z177 where
  L : List Int
  at_ : Int

def z177.enc (x : z177) : List D := [.lst (List.map (encI .i64) x.L), .int .i64 x.at_]

structure api_Post where
  Room : Int
  Timeout : Int
  Tries : Int
  Kept : Int

def api_Post.enc (x : api_Post) : List D := [.int .i64 x.Room, .int .i64 x.Timeout, .int .i64 x.Tries, .int .i64 x.Kept]

structure api_Letter where
  Id : List UInt8
  Slot : List UInt8
  Body : List UInt8
  Prio : Int
  At : Int
  Until : Int

def api_Letter.enc (x : api_Letter) : List D := [.str x.Id, .str x.Slot, .str x.Body, .int .i64 x.Prio, .int .i64 x.At, .int .i64 x.Until]

structure api_Note where
  Letter : api_Letter
  State : Int
  Tries : Int
  Since : Int

def api_Note.enc (x : api_Note) : List D := [.str x.Letter.Id, .str x.Letter.Slot, .str x.Letter.Body, .int .i64 x.Letter.Prio, .int .i64 x.Letter.At, .int .i64 x.Letter.Until, .int .i64 x.State, .int .i64 x.Tries, .int .i64 x.Since]

structure z123 where
  id_ : List UInt8
  until_ : Int

def z123.enc (x : z123) : List D := [.str x.id_, .int .i64 x.until_]

structure z122 where
  most_ : Int
  l_ : List z123
  time_ : Int

def z122.enc (x : z122) : List D := [.int .i64 x.most_, .lst (List.map z123.enc x.l_), .int .i64 x.time_]

structure z319 where
  Most : Int
  L : List api_Letter
  time_ : Int

def z319.enc (x : z319) : List D := [.int .i64 x.Most, .lst (List.map api_Letter.enc x.L), .int .i64 x.time_]

structure api_Value where
  Kind : Int
  Flag : Bool
  Number : Int
  Words : List UInt8

def api_Value.enc (x : api_Value) : List D := [.int .i64 x.Kind, .bool x.Flag, .int .i64 x.Number, .str x.Words]

structure api_Stamp where
  At : Int
  By : List UInt8
  No : Int

def api_Stamp.enc (x : api_Stamp) : List D := [.int .i64 x.At, .str x.By, .int .i64 x.No]

structure api_Prop where
  Name : List UInt8
  Value : api_Value

def api_Prop.enc (x : api_Prop) : List D := [.str x.Name, .int .i64 x.Value.Kind, .bool x.Value.Flag, .int .i64 x.Value.Number, .str x.Value.Words]

structure api_Cell where
  Prop_ : api_Prop
  Stamp : api_Stamp

def api_Cell.enc (x : api_Cell) : List D := [.str x.Prop_.Name, .int .i64 x.Prop_.Value.Kind, .bool x.Prop_.Value.Flag, .int .i64 x.Prop_.Value.Number, .str x.Prop_.Value.Words, .int .i64 x.Stamp.At, .str x.Stamp.By, .int .i64 x.Stamp.No]

structure api_Twin where
  Desired : List api_Cell
  Reported : List api_Cell

def api_Twin.enc (x : api_Twin) : List D := [.lst (List.map api_Cell.enc x.Desired), .lst (List.map api_Cell.enc x.Reported)]

structure api_Change where
  Name : List UInt8
  From : api_Value
  To : api_Value

def api_Change.enc (x : api_Change) : List D := [.str x.Name, .int .i64 x.From.Kind, .bool x.From.Flag, .int .i64 x.From.Number, .str x.From.Words, .int .i64 x.To.Kind, .bool x.To.Flag, .int .i64 x.To.Number, .str x.To.Words]

structure api_Sample where
  Device : List UInt8
  Metric : List UInt8
  At : Int
  Value : Int

def api_Sample.enc (x : api_Sample) : List D := [.str x.Device, .str x.Metric, .int .i64 x.At, .int .i64 x.Value]

structure api_Version where
  Major : Int
  Minor : Int
  Patch : Int

def api_Version.enc (x : api_Version) : List D := [.int .i64 x.Major, .int .i64 x.Minor, .int .i64 x.Patch]

structure api_Spot where
  X : Int
  Y : Int

def api_Spot.enc (x : api_Spot) : List D := [.int .i64 x.X, .int .i64 x.Y]

/-! ### beaconfleet/fleetmake.Below -/
noncomputable def z173 (qx : Int) (qn : Int) : Option (Int) :=
  cond (decide ((qx.tmod qn) < 0))
    (some (IntKind.wrap .i64 ((qx.tmod qn) + qn)))
    (some (qx.tmod qn))

noncomputable def z170 (qx : Int) (qn : Int) : Option (Int) :=
  cond (decide (qn < 1))
    (some 0)
    (gd (!(qn == 0)) <|
    (z173 qx qn).bind fun vx1 =>
    some vx1)

/-! ### (*beaconfleet/fleetmake.Stream).Next -/
noncomputable def z199 (qs : z177) (qn : Int) : Option (Int) :=
  cond (decide ((qs.L.length : Int) = 0))
    ((z170 (IntKind.wrap .i64 ((IntKind.wrap .i64 (qs.at_ + 1)) * 7919)) qn).bind fun vr =>
    some vr)
    (gd (!((qs.L.length : Int) == 0)) <|
    (at? qs.L ((IntKind.wrap .i64 ((IntKind.wrap .i64 (qs.at_ + 1)) - 1)).tmod (qs.L.length : Int))).bind fun vy =>
    (z170 vy 1073741824).bind fun vr1 =>
    (z170 (IntKind.wrap .i64 (vr1 + (IntKind.wrap .i64 ((IntKind.wrap .i64 ((IntKind.wrap .i64 ((IntKind.wrap .i64 (qs.at_ + 1)) - 1)).tdiv (qs.L.length : Int))) * (IntKind.wrap .i64 ((7919 : Int) + ((IntKind.wrap .i64 ((IntKind.wrap .i64 (qs.at_ + 1)) - 1)).tmod (qs.L.length : Int)))))))) qn).bind fun vr2 =>
    some vr2)

/-! ### (*beaconfleet/fleetmake.Stream).Pick -/
noncomputable def z205 (qs : z177) (ql : List Int) : Option (Int) :=
  (z199 qs (ql.length : Int)).bind fun vr3 =>
  (at? ql vr3).bind fun vy =>
  some vy

/-! ### beaconfleet/base.Out -/
noncomputable def z56 (qn : Int) (qlow : Int) (qhigh : Int) : Option (Bool) :=
  cond (decide (qn < qlow))
    (some true)
    (some (decide (qhigh < qn)))

noncomputable def base_Out (qn : Int) (qlow : Int) (qhigh : Int) : Option (Bool) :=
  (z56 qn qlow qhigh).bind fun vx1 =>
  some vx1

/-! ### beaconfleet/base.Key -/
noncomputable def z34 (qs : List UInt8) : Option (Bool) :=
  cond (decide (qs = ([] : List UInt8)))
    (some true)
    (cond (decide (40 < (qs.length : Int)))
      (some true)
      ((at? qs 0).bind fun vc =>
      cond (decide ((vc.toNat : Int) < 97))
        (some true)
        (some (decide (122 < (vc.toNat : Int))))))

noncomputable def z44 (vc2 : UInt8) : Option (Bool) :=
  cond (decide (97 ≤ (vc2.toNat : Int)))
    (cond (decide ((vc2.toNat : Int) ≤ 122))
      (some false)
      (cond (decide (48 ≤ (vc2.toNat : Int)))
        (cond (decide ((vc2.toNat : Int) ≤ 57))
          (some false)
          (cond (decide ((vc2.toNat : Int) = 45))
            (some false)
            (some (!(decide ((vc2.toNat : Int) = 95))))))
        (cond (decide ((vc2.toNat : Int) = 45))
          (some false)
          (some (!(decide ((vc2.toNat : Int) = 95)))))))
    (cond (decide (48 ≤ (vc2.toNat : Int)))
      (cond (decide ((vc2.toNat : Int) ≤ 57))
        (some false)
        (cond (decide ((vc2.toNat : Int) = 45))
          (some false)
          (some (!(decide ((vc2.toNat : Int) = 95))))))
      (cond (decide ((vc2.toNat : Int) = 45))
        (some false)
        (some (!(decide ((vc2.toNat : Int) = 95))))))

noncomputable def z39 (qs : List UInt8) (vx2 : Int) : Option ((Int) ⊕ (Unit ⊕ Unit)) :=
  cond (decide (vx2 < (qs.length : Int)))
    ((at? qs vx2).bind fun vc2 =>
    (z44 vc2).bind fun vx4_1 =>
    cond (vx4_1)
      (some (.inr (.inr ())))
      (some (.inl (IntKind.wrap .i64 (vx2 + 1)))))
    (some (.inr (.inl ())))

noncomputable def base_Key (qs : List UInt8) : Option (Bool) :=
  (z34 qs).bind fun vx1 =>
  cond (vx1)
    (some false)
    ((loopO (z39 qs) 0).bind fun x => match x with
      | .inl _ =>
        some true
      | .inr _ =>
        some false)

/-! ### unicode/utf8.ValidString -/
noncomputable def utf8_ValidString (qx : List UInt8) : Option (Bool) :=
  gd (decide (qx.length ≤ 9223372036854775807)) (some (Lib.validD qx))

/-! ### beaconfleet/base.Unmarked -/
noncomputable def z68 (qs : List UInt8) (vx : Int) : Option (Bool) :=
  (at? qs vx).bind fun vc1 =>
  cond (decide ((vc1.toNat : Int) < 32))
    (some true)
    (some (decide ((vc1.toNat : Int) = 127)))

noncomputable def z63 (qs : List UInt8) (vx : Int) : Option ((Int) ⊕ (Unit ⊕ Unit)) :=
  cond (decide (vx < (qs.length : Int)))
    ((z68 qs vx).bind fun vx2_1 =>
    cond (vx2_1)
      (some (.inr (.inr ())))
      (some (.inl (IntKind.wrap .i64 (vx + 1)))))
    (some (.inr (.inl ())))

noncomputable def z60 (qs : List UInt8) : Option (Bool) :=
  (loopO (z63 qs) 0).bind fun x => match x with
    | .inl _ =>
      (utf8_ValidString qs).bind fun vr =>
      some vr
    | .inr _ =>
      some false

/-! ### beaconfleet/base.Moment -/
noncomputable def z49 (qn : Int) : Option (Bool) :=
  (base_Out qn 0 345686399999).bind fun vr =>
  some (!vr)

/-! ### beaconfleet/base.First -/
noncomputable def z27 (ql : List Int) (vx : Int) : Option ((Int) ⊕ (Unit ⊕ Int)) :=
  cond (decide (vx < (ql.length : Int)))
    ((at? ql vx).bind fun vy1 =>
    cond (!decide (vy1 = 0))
      (some (.inr (.inr vy1)))
      (some (.inl (IntKind.wrap .i64 (vx + 1)))))
    (some (.inr (.inl ())))

noncomputable def z24 (ql : List Int) : Option (Int) :=
  (loopO (z27 ql) 0).bind fun x => match x with
    | .inl _ =>
      some 0
    | .inr vx1_1 =>
      some vx1_1

/-! ### math/bits.Len64 -/
noncomputable def z79 (qx : Int) : Option ((Int × Int)) :=
  cond (decide (4294967296 ≤ qx))
    (some (ishr .u64 qx 32, 32))
    (some (qx, 0))

noncomputable def z83 (vx1 : Int) (vn1 : Int) : Option ((Int × Int)) :=
  cond (decide (65536 ≤ vx1))
    (some (ishr .u64 vx1 16, IntKind.wrap .i64 (vn1 + 16)))
    (some (vx1, vn1))

noncomputable def z87 (vx2_1 : Int) (vn2_1 : Int) : Option ((Int × Int)) :=
  cond (decide (256 ≤ vx2_1))
    (some (ishr .u64 vx2_1 8, IntKind.wrap .i64 (vn2_1 + 8)))
    (some (vx2_1, vn2_1))

noncomputable def z74 (qx : Int) : Option (Int) :=
  (z79 qx).bind fun (vx1, vn1) =>
  (z83 vx1 vn1).bind fun (vx2_1, vn2_1) =>
  (z87 vx2_1 vn2_1).bind fun (vx3_1, vn3_1) =>
  (at? ([0, 1, 2, 2, 3, 3, 3, 3, 4, 4, 4, 4, 4, 4, 4, 4, 5, 5, 5, 5, 5, 5, 5, 5, 5, 5, 5, 5, 5, 5, 5, 5, 6, 6, 6, 6, 6, 6, 6, 6, 6, 6, 6, 6, 6, 6, 6, 6, 6, 6, 6, 6, 6, 6, 6, 6, 6, 6, 6, 6, 6, 6, 6, 6, 7, 7, 7, 7, 7, 7, 7, 7, 7, 7, 7, 7, 7, 7, 7, 7, 7, 7, 7, 7, 7, 7, 7, 7, 7, 7, 7, 7, 7, 7, 7, 7, 7, 7, 7, 7, 7, 7, 7, 7, 7, 7, 7, 7, 7, 7, 7, 7, 7, 7, 7, 7, 7, 7, 7, 7, 7, 7, 7, 7, 7, 7, 7, 7, 8, 8, 8, 8, 8, 8, 8, 8, 8, 8, 8, 8, 8, 8, 8, 8, 8, 8, 8, 8, 8, 8, 8, 8, 8, 8, 8, 8, 8, 8, 8, 8, 8, 8, 8, 8, 8, 8, 8, 8, 8, 8, 8, 8, 8, 8, 8, 8, 8, 8, 8, 8, 8, 8, 8, 8, 8, 8, 8, 8, 8, 8, 8, 8, 8, 8, 8, 8, 8, 8, 8, 8, 8, 8, 8, 8, 8, 8, 8, 8, 8, 8, 8, 8, 8, 8, 8, 8, 8, 8, 8, 8, 8, 8, 8, 8, 8, 8, 8, 8, 8, 8, 8, 8, 8, 8, 8, 8, 8, 8, 8, 8, 8, 8, 8, 8, 8, 8, 8, 8, 8, 8, 8, 8, 8, 8, 8, 8] : List UInt8) (IntKind.wrap .u8 (vx3_1))).bind fun vc =>
  some (IntKind.wrap .i64 (vn3_1 + (IntKind.wrap .i64 ((vc.toNat : Int)))))

/-! ### math/bits.Len -/
noncomputable def bits_Len (qx : Int) : Option (Int) :=
  (z74 qx).bind fun vr =>
  some vr

/-! ### cmp.isNaN[int] -/
noncomputable def z115 (qx : Int) : Option (Unit) :=
  some ()

/-! ### cmp.Compare[int] -/
noncomputable def z96 (qx : Int) (qy : Int) : Option (Int) :=
  (z115 qx).bind fun _ =>
  (z115 qy).bind fun _ =>
  cond (!decide (qx = qx))
    (cond (!decide (qy = qy))
      (some 0)
      (some (-1)))
    (cond (!decide (qy = qy))
      (some 1)
      (cond (decide (qx < qy))
        (some (-1))
        (cond (decide (qy < qx))
          (some 1)
          (some 0))))

/-! ### internal/bytealg.CompareString -/
noncomputable def z93 (qa : List UInt8) (qb : List UInt8) : Option (Unit) :=
  some ()

/-! ### strings.Compare -/
noncomputable def z905 (qa : List UInt8) (qb : List UInt8) : Option (Unit) :=
  (z93 qa qb).bind fun _ =>
  some ()

/-! ### cmp.Or[int] -/
noncomputable def z110 (qvals : List Int) (vx : Int) : Option ((Int) ⊕ (Unit ⊕ Int)) :=
  cond (decide (vx < (qvals.length : Int)))
    ((at? qvals vx).bind fun vy1 =>
    cond (!decide (vy1 = 0))
      (some (.inr (.inr vy1)))
      (some (.inl (IntKind.wrap .i64 (vx + 1)))))
    (some (.inr (.inl ())))

noncomputable def z106 (qvals : List Int) : Option (Int) :=
  (loopO (z110 qvals) 0).bind fun x => match x with
    | .inl _ =>
      some 0
    | .inr vx1_1 =>
      some vx1_1

/-! ### (*beaconfleet/fleetmake.Stream).Range -/
noncomputable def z211 (qs : z177) (qlow : Int) (qhigh : Int) : Option (z177 × Int) :=
  cond (decide (qhigh < qlow))
    (some (qs, qlow))
    ((z199 qs (IntKind.wrap .i64 ((IntKind.wrap .i64 (qhigh - qlow)) + 1))).bind fun vr3 =>
    some (z177.mk qs.L (IntKind.wrap .i64 (qs.at_ + 1)), IntKind.wrap .i64 (qlow + vr3)))

/-! ### (*beaconfleet/fleetmake.Stream).Flip -/
noncomputable def z196 (qs : z177) (qn : Int) : Option (Bool) :=
  (z199 qs qn).bind fun vr3 =>
  some (decide (vr3 = 0))

/-! ### (*beaconfleet/fleetmake.Stream).Some -/
noncomputable def z247 (qs : z177) (ql : List (List UInt8)) : Option ((List UInt8)) :=
  (z199 qs (ql.length : Int)).bind fun vr3 =>
  (at? ql vr3).bind fun vy =>
  some vy

/-! ### strings.Repeat -/
noncomputable def strings_Repeat (qx : List UInt8) (qx1 : Int) : Option (List UInt8) :=
  gd (decide (0 ≤ qx1) && decide (qx1 ≤ 9223372036854775807) && decide (qx.length * qx1.toNat ≤ 140737488355328)) (some (Lib.repeatL qx qx1.toNat))

/-! ### (*beaconfleet/fleetmake.Stream).Odd -/
noncomputable def z202 (qs : z177) (qlow : Int) (qhigh : Int) : Option (z177 × Int) :=
  (z196 qs 12).bind fun vr =>
  cond (vr)
    ((z205 (z177.mk qs.L (IntKind.wrap .i64 (qs.at_ + 1))) ([IntKind.wrap .i64 (qlow - 1), IntKind.wrap .i64 (qhigh + 1), qlow, qhigh, (-1099511627776), 1099511627776] : List Int)).bind fun vr1 =>
    some (z177.mk qs.L (IntKind.wrap .i64 ((IntKind.wrap .i64 (qs.at_ + 1)) + 1)), vr1))
    ((z211 (z177.mk qs.L (IntKind.wrap .i64 (qs.at_ + 1))) qlow qhigh).bind fun (vs, vr2) =>
    some (vs, vr2))

/-! ### beaconfleet/fleetref2.in -/
noncomputable def z530 (qn : Int) (qlow : Int) (qhigh : Int) : Option (Bool) :=
  cond (decide (qlow ≤ qn))
    (some (decide (qn ≤ qhigh)))
    (some false)

noncomputable def z527 (qn : Int) (qlow : Int) (qhigh : Int) : Option (Bool) :=
  (z530 qn qlow qhigh).bind fun vx1 =>
  some vx1

/-! ### internal/stringslite.IndexByte -/
noncomputable def z990 (qs : List UInt8) (qc : Int) : Option (Unit) :=
  some ()

/-! ### strings.IndexByte -/
noncomputable def z926 (qs : List UInt8) (qc : Int) : Option (Unit) :=
  (z990 qs qc).bind fun _ =>
  some ()

/-! ### beaconfleet/fleetref2.only -/
noncomputable def z550 (qs : List UInt8) (qsome : List UInt8) (vx : Int) : Option ((Int) ⊕ (Unit ⊕ Unit)) :=
  cond (decide (vx < (qs.length : Int)))
    ((at? qs vx).bind fun vc1 =>
    (z926 qsome (vc1.toNat : Int)).bind fun _ =>
    cond (decide ((Lib.indexByte qsome (vc1.toNat : Int).toNat.toUInt8) < 0))
      (some (.inr (.inr ())))
      (some (.inl (IntKind.wrap .i64 (vx + 1)))))
    (some (.inr (.inl ())))

noncomputable def z547 (qs : List UInt8) (qsome : List UInt8) : Option (Bool) :=
  (loopO (z550 qs qsome) 0).bind fun x => match x with
    | .inl _ =>
      some true
    | .inr _ =>
      some false

/-! ### beaconfleet/fleetref2.Key -/
noncomputable def z323 (qs : List UInt8) : Option (Bool) :=
  (z527 (qs.length : Int) 1 40).bind fun vr =>
  cond (vr)
    ((sub? qs 0 1).bind fun vs =>
    (z547 vs ([97, 98, 99, 100, 101, 102, 103, 104, 105, 106, 107, 108, 109, 110, 111, 112, 113, 114, 115, 116, 117, 118, 119, 120, 121, 122] : List UInt8)).bind fun vr1 =>
    cond (vr1)
      ((z547 qs ([97, 98, 99, 100, 101, 102, 103, 104, 105, 106, 107, 108, 109, 110, 111, 112, 113, 114, 115, 116, 117, 118, 119, 120, 121, 122, 48, 49, 50, 51, 52, 53, 54, 55, 56, 57, 45, 95] : List UInt8)).bind fun vr2 =>
      some vr2)
      (some false))
    (some false)

noncomputable def z320 (qs : List UInt8) : Option (Bool) :=
  (z323 qs).bind fun vx1 =>
  some vx1

/-! ### beaconfleet/fleetref2.Printed$1 -/
noncomputable def z401 (qr : Int) : Option (Bool) :=
  cond (decide (qr < 32))
    (some true)
    (some (decide (qr = 127)))

noncomputable def z398 (qr : Int) : Option (Bool) :=
  (z401 qr).bind fun vx1 =>
  some vx1

/-! ### strings.indexFunc -/
noncomputable def z974 (qs : List UInt8) (qtruth : Bool) (vpos : Nat) : Option ((Nat) ⊕ (Unit ⊕ Int)) :=
  cond (decide (vpos < qs.length))
    ((some (dec qs vpos)).bind fun vd1 =>
    (z398 ((vd1.1 : Nat) : Int)).bind fun vr1 =>
    cond (vr1 == qtruth)
      (some (.inr (.inr ((vpos : Nat) : Int))))
      (some (.inl (vpos + vd1.2 : Nat))))
    (some (.inr (.inl ())))

noncomputable def z971 (qs : List UInt8) (qtruth : Bool) : Option (Int) :=
  (loopO (z974 qs qtruth) (0 : Nat)).bind fun x => match x with
    | .inl _ =>
      some (-1)
    | .inr vx1 =>
      some vx1

/-! ### strings.IndexFunc -/
noncomputable def z929 (qs : List UInt8) : Option (Int) :=
  (z971 qs true).bind fun vr2 =>
  some vr2

/-! ### strings.ContainsFunc -/
noncomputable def z908 (qs : List UInt8) : Option (Bool) :=
  (z929 qs).bind fun vr =>
  some (decide (0 ≤ vr))

/-! ### beaconfleet/fleetref2.Printed -/
noncomputable def z407 (qs : List UInt8) : Option (Bool) :=
  (utf8_ValidString qs).bind fun vr =>
  cond (vr)
    ((z908 qs).bind fun vr1 =>
    some (!vr1))
    (some false)

noncomputable def z397 (qs : List UInt8) : Option (Bool) :=
  (z407 qs).bind fun vx1 =>
  some vx1

/-! ### beaconfleet/fleetref2.Moment -/
noncomputable def z350 (qat : Int) : Option (Bool) :=
  (z527 qat 0 345686399999).bind fun vr =>
  some vr

/-! ### beaconfleet/fleetref2.sign -/
noncomputable def z555 (qn : Int) : Option (Int) :=
  cond (decide (qn < 0))
    (some (-1))
    (cond (decide (0 < qn))
      (some 1)
      (some 0))

/-! ### (*beaconfleet/fleetmake.Stream).RightValue -/
noncomputable def z244 (qs : z177) : Option (api_Value) :=
  (z199 qs 4).bind fun vr3 =>
  cond (decide (vr3 = 0))
    ((z196 (z177.mk qs.L (IntKind.wrap .i64 (qs.at_ + 1))) 2).bind fun vr =>
    some (api_Value.mk 1 vr 0 ([] : List UInt8)))
    (cond (decide (vr3 = 1))
      ((z247 (z177.mk qs.L (IntKind.wrap .i64 (qs.at_ + 1))) ([([] : List UInt8), ([120] : List UInt8), ([97, 32, 34, 98, 34] : List UInt8), ([92] : List UInt8), ([195, 169] : List UInt8), ([45, 32, 49] : List UInt8)] : List (List UInt8))).bind fun vr1 =>
      some (api_Value.mk 3 false 0 vr1))
      ((z205 (z177.mk qs.L (IntKind.wrap .i64 (qs.at_ + 1))) ([1, 2, 2, 3, 0, (-5), 1000000000] : List Int)).bind fun vr2 =>
      some (api_Value.mk 2 false vr2 ([] : List UInt8))))

/-! ### (*beaconfleet/fleetmake.Stream).RightStamp -/
noncomputable def z241 (qs : z177) : Option (z177 × api_Stamp) :=
  (z211 qs 0 9).bind fun (vs, vr) =>
  (z247 vs ([([104] : List UInt8), ([104] : List UInt8), ([107] : List UInt8)] : List (List UInt8))).bind fun vr1 =>
  (z205 (z177.mk vs.L (IntKind.wrap .i64 (vs.at_ + 1))) ([0, 0, 1] : List Int)).bind fun vr2 =>
  some (z177.mk vs.L (IntKind.wrap .i64 ((IntKind.wrap .i64 (vs.at_ + 1)) + 1)), api_Stamp.mk vr vr1 vr2)

/-! ### beaconfleet/fleetmake.cellOrder -/
noncomputable def z267 (qa : api_Cell) (qb : api_Cell) : Option (Unit) :=
  (z905 qa.Prop_.Name qb.Prop_.Name).bind fun _ =>
  some ()

/-! ### slices.insertionSortCmpFunc[beaconfleet/api.Cell] -/
noncomputable def z773 (qa : Int) (vl3 : List api_Cell) (vj1 : Int) : Option (Bool) :=
  cond (decide (qa < vj1))
    ((at? vl3 vj1).bind fun vy15 =>
    (at? vl3 (IntKind.wrap .i64 (vj1 - 1))).bind fun vy16 =>
    (z267 (api_Cell.mk (api_Prop.mk vy15.Prop_.Name (api_Value.mk vy15.Prop_.Value.Kind vy15.Prop_.Value.Flag vy15.Prop_.Value.Number vy15.Prop_.Value.Words)) (api_Stamp.mk vy15.Stamp.At vy15.Stamp.By vy15.Stamp.No)) (api_Cell.mk (api_Prop.mk vy16.Prop_.Name (api_Value.mk vy16.Prop_.Value.Kind vy16.Prop_.Value.Flag vy16.Prop_.Value.Number vy16.Prop_.Value.Words)) (api_Stamp.mk vy16.Stamp.At vy16.Stamp.By vy16.Stamp.No))).bind fun _ =>
    some (decide ((Lib.compareBytes vy15.Prop_.Name vy16.Prop_.Name) < 0)))
    (some false)

noncomputable def z768 (qa : Int) : (List api_Cell) × Int → Option (((List api_Cell) × Int) ⊕ ((List api_Cell)))
  | (vl3, vj1) =>
  (z773 qa vl3 vj1).bind fun vx4_1 =>
  cond (vx4_1)
    ((at? vl3 (IntKind.wrap .i64 (vj1 - 1))).bind fun vy17 =>
    (at? vl3 vj1).bind fun vy18 =>
    (at? (vl3.set vj1.toNat (api_Cell.mk (api_Prop.mk vy17.Prop_.Name (api_Value.mk vy17.Prop_.Value.Kind vy17.Prop_.Value.Flag vy17.Prop_.Value.Number vy17.Prop_.Value.Words)) (api_Stamp.mk vy17.Stamp.At vy17.Stamp.By vy17.Stamp.No))) (IntKind.wrap .i64 (vj1 - 1))).bind fun vy19 =>
    some (.inl ((vl3.set vj1.toNat (api_Cell.mk (api_Prop.mk vy17.Prop_.Name (api_Value.mk vy17.Prop_.Value.Kind vy17.Prop_.Value.Flag vy17.Prop_.Value.Number vy17.Prop_.Value.Words)) (api_Stamp.mk vy17.Stamp.At vy17.Stamp.By vy17.Stamp.No))).set (IntKind.wrap .i64 (vj1 - 1)).toNat (api_Cell.mk (api_Prop.mk vy18.Prop_.Name (api_Value.mk vy18.Prop_.Value.Kind vy18.Prop_.Value.Flag vy18.Prop_.Value.Number vy18.Prop_.Value.Words)) (api_Stamp.mk vy18.Stamp.At vy18.Stamp.By vy18.Stamp.No)), IntKind.wrap .i64 (vj1 - 1))))
    (some (.inr vl3))

noncomputable def z763 (qa : Int) (qb : Int) : (List api_Cell) × Int → Option (((List api_Cell) × Int) ⊕ ((List api_Cell)))
  | (vl, vi) =>
  cond (decide (vi < qb))
    ((loopO (z768 qa) (vl, vi)).bind fun vl4_1 =>
    some (.inl (vl4_1, IntKind.wrap .i64 (vi + 1))))
    (some (.inr vl))

noncomputable def z760 (qdata : List api_Cell) (qa : Int) (qb : Int) : Option ((List api_Cell)) :=
  (loopO (z763 qa qb) (qdata, IntKind.wrap .i64 (qa + 1))).bind fun vl5_1 =>
  some vl5_1

/-! ### slices.stableCmpFunc[beaconfleet/api.Cell] -/
noncomputable def z872 (qn : Int) : (List api_Cell) × Int × Int → Option (((List api_Cell) × Int × Int) ⊕ (((List api_Cell) × Int)))
  | (vl, va, vb) =>
  cond (decide (vb ≤ qn))
    ((z760 vl va vb).bind fun vl6_1 =>
    gd (vl6_1.length == vl.length) <|
    some (.inl (vl6_1, vb, IntKind.wrap .i64 (vb + 20))))
    (some (.inr (vl, va)))

noncomputable def z882 (qn : Int) (vblockSize : Int) : Unit → Option ((Unit) ⊕ (Unit))
  | _ =>
  cond (decide ((IntKind.wrap .i64 ((2 : Int) * vblockSize)) ≤ qn))
    (none)
    (some (.inr ()))

noncomputable def z877 (qn : Int) (vblockSize : Int) : Option ((Int) ⊕ (Unit)) :=
  cond (decide (vblockSize < qn))
    ((loopO (z882 qn vblockSize) ()).bind fun _ =>
    cond (decide ((IntKind.wrap .i64 ((0 : Int) + vblockSize)) < qn))
      (none)
      (some (.inl (IntKind.wrap .i64 (vblockSize * 2)))))
    (some (.inr ()))

noncomputable def z869 (qdata : List api_Cell) (qn : Int) : Option ((List api_Cell)) :=
  (loopO (z872 qn) (qdata, 0, 20)).bind fun (vl1_1, va1_1) =>
  (z760 vl1_1 va1_1 qn).bind fun vl6_2 =>
  gd (vl6_2.length == vl1_1.length) <|
  (loopO (z877 qn) 20).bind fun _ =>
  some vl6_2

/-! ### slices.SortStableFunc[[]beaconfleet/api.Cell,beaconfleet/api.Cell] -/
noncomputable def z751 (qx : List api_Cell) : Option ((List api_Cell)) :=
  (z869 qx (qx.length : Int)).bind fun vl2 =>
  gd (vl2.length == qx.length) <|
  some vl2

/-! ### (*beaconfleet/fleetmake.Stream).RightCells$1 -/
noncomputable def z215 (qa : api_Cell) (qb : api_Cell) : Option (Unit) :=
  some ()

/-! ### slices.CompactFunc[[]beaconfleet/api.Cell,beaconfleet/api.Cell] -/
noncomputable def z600 (qx : List api_Cell) (vx : Int) (vl4 : List api_Cell) (vx6 : Int) (vx7 : Int) : Option (((List api_Cell) × Int)) :=
  gd (decide (0 ≤ vx) && decide (0 ≤ vx7) && decide (vx7 < (qx.length : Int) - vx)) <|
  (at? vl4 (vx + vx7)).bind fun vy13 =>
  gd (decide (0 ≤ vx) && decide (0 ≤ (IntKind.wrap .i64 (vx7 - 1))) && decide ((IntKind.wrap .i64 (vx7 - 1)) < (qx.length : Int) - vx)) <|
  (at? vl4 (vx + (IntKind.wrap .i64 (vx7 - 1)))).bind fun vy14 =>
  (z215 (api_Cell.mk (api_Prop.mk vy13.Prop_.Name (api_Value.mk vy13.Prop_.Value.Kind vy13.Prop_.Value.Flag vy13.Prop_.Value.Number vy13.Prop_.Value.Words)) (api_Stamp.mk vy13.Stamp.At vy13.Stamp.By vy13.Stamp.No)) (api_Cell.mk (api_Prop.mk vy14.Prop_.Name (api_Value.mk vy14.Prop_.Value.Kind vy14.Prop_.Value.Flag vy14.Prop_.Value.Number vy14.Prop_.Value.Words)) (api_Stamp.mk vy14.Stamp.At vy14.Stamp.By vy14.Stamp.No))).bind fun _ =>
  cond (!(decide (vy13.Prop_.Name = vy14.Prop_.Name)))
    ((at? vl4 vx6).bind fun vy15 =>
    some (vl4.set vx6.toNat (api_Cell.mk (api_Prop.mk vy13.Prop_.Name (api_Value.mk vy13.Prop_.Value.Kind vy13.Prop_.Value.Flag vy13.Prop_.Value.Number vy13.Prop_.Value.Words)) (api_Stamp.mk vy13.Stamp.At vy13.Stamp.By vy13.Stamp.No)), IntKind.wrap .i64 (vx6 + 1)))
    (some (vl4, vx6))

noncomputable def z595 (qx : List api_Cell) (vx : Int) : (List api_Cell) × Int × Int → Option (((List api_Cell) × Int × Int) ⊕ (((List api_Cell) × Int)))
  | (vl4, vx6, vx7) =>
  cond (decide (vx7 < (((qx.length : Int).toNat - vx.toNat : Nat) : Int)))
    ((z600 qx vx vl4 vx6 vx7).bind fun (vl6_1, vx9_1) =>
    some (.inl (vl6_1, vx9_1, IntKind.wrap .i64 (vx7 + 1))))
    (some (.inr (vl4, vx6)))

noncomputable def z590 (qx : List api_Cell) (vx : Int) : Option ((Int) ⊕ (Unit ⊕ (List api_Cell))) :=
  cond (decide (vx < (qx.length : Int)))
    ((at? qx vx).bind fun vy8 =>
    (at? qx (IntKind.wrap .i64 (vx - 1))).bind fun vy9 =>
    (z215 (api_Cell.mk (api_Prop.mk vy8.Prop_.Name (api_Value.mk vy8.Prop_.Value.Kind vy8.Prop_.Value.Flag vy8.Prop_.Value.Number vy8.Prop_.Value.Words)) (api_Stamp.mk vy8.Stamp.At vy8.Stamp.By vy8.Stamp.No)) (api_Cell.mk (api_Prop.mk vy9.Prop_.Name (api_Value.mk vy9.Prop_.Value.Kind vy9.Prop_.Value.Flag vy9.Prop_.Value.Number vy9.Prop_.Value.Words)) (api_Stamp.mk vy9.Stamp.At vy9.Stamp.By vy9.Stamp.No))).bind fun _ =>
    cond (decide (vy8.Prop_.Name = vy9.Prop_.Name))
      (gd (decide (0 ≤ vx) && decide (vx ≤ (qx.length : Int)) && decide ((qx.length : Int) ≤ (qx.length : Int))) <|
      (loopO (z595 qx vx) (qx, vx, 1)).bind fun (vl7_1, vx10_1) =>
      gd (decide (0 ≤ vx10_1) && decide (vx10_1 ≤ (vl7_1.length : Int)) && decide ((vl7_1.length : Int) ≤ (vl7_1.length : Int))) <|
      gd (decide (0 ≤ vx10_1) && decide (vx10_1 ≤ ((vl7_1.take vx10_1.toNat ++ (List.replicate ((vl7_1.length : Int).toNat - vx10_1.toNat) (api_Cell.mk (api_Prop.mk ([] : List UInt8) (api_Value.mk 0 false 0 ([] : List UInt8))) (api_Stamp.mk 0 ([] : List UInt8) 0)) ++ vl7_1.drop (vx10_1.toNat + ((vl7_1.length : Int).toNat - vx10_1.toNat)))).length : Int))) <|
      some (.inr (.inr ((vl7_1.take vx10_1.toNat ++ (List.replicate ((vl7_1.length : Int).toNat - vx10_1.toNat) (api_Cell.mk (api_Prop.mk ([] : List UInt8) (api_Value.mk 0 false 0 ([] : List UInt8))) (api_Stamp.mk 0 ([] : List UInt8) 0)) ++ vl7_1.drop (vx10_1.toNat + ((vl7_1.length : Int).toNat - vx10_1.toNat)))).take vx10_1.toNat))))
      (some (.inl (IntKind.wrap .i64 (vx + 1)))))
    (some (.inr (.inl ())))

noncomputable def z587 (qx : List api_Cell) : Option ((List api_Cell)) :=
  cond (decide ((qx.length : Int) < 2))
    (some qx)
    ((loopO (z590 qx) 1).bind fun x => match x with
      | .inl _ =>
        some qx
      | .inr vx11_1 =>
        some vx11_1)

/-! ### (*beaconfleet/fleetmake.Stream).RightCells -/
noncomputable def z225 (vr5 : List UInt8) (vr4_1 : api_Value) (vs1_2 : z177) (vr3_1 : api_Stamp) : Option (api_Cell) :=
  (z196 vs1_2 3).bind fun vr6 =>
  cond (vr6)
    (some (api_Cell.mk (api_Prop.mk vr5 (api_Value.mk 0 false 0 ([] : List UInt8))) vr3_1))
    (some (api_Cell.mk (api_Prop.mk vr5 vr4_1) vr3_1))

noncomputable def z220 (vr : Int) : z177 × (List api_Cell) × Int → Option ((z177 × (List api_Cell) × Int) ⊕ ((z177 × (List api_Cell))))
  | (vs1, vout, vx) =>
  cond (decide (vx < vr))
    ((z247 vs1 ([([97] : List UInt8), ([97] : List UInt8), ([97, 46, 120] : List UInt8), ([97, 46, 121] : List UInt8), ([97, 46, 120, 46, 112] : List UInt8), ([98] : List UInt8), ([98, 46, 122] : List UInt8), ([97, 98] : List UInt8)] : List (List UInt8))).bind fun vr5 =>
    (z244 (z177.mk vs1.L (IntKind.wrap .i64 (vs1.at_ + 1)))).bind fun vr4_1 =>
    (z241 (z177.mk vs1.L (IntKind.wrap .i64 ((IntKind.wrap .i64 ((IntKind.wrap .i64 (vs1.at_ + 1)) + 1)) + 1)))).bind fun (vs1_2, vr3_1) =>
    (z225 vr5 vr4_1 vs1_2 vr3_1).bind fun vc2_1 =>
    gd (Nat.ble (vout.length + ([api_Cell.mk (api_Prop.mk vc2_1.Prop_.Name (api_Value.mk vc2_1.Prop_.Value.Kind vc2_1.Prop_.Value.Flag vc2_1.Prop_.Value.Number vc2_1.Prop_.Value.Words)) (api_Stamp.mk vc2_1.Stamp.At vc2_1.Stamp.By vc2_1.Stamp.No)] : List api_Cell).length) LIM) <|
    some (.inl (z177.mk vs1_2.L (IntKind.wrap .i64 (vs1_2.at_ + 1)), vout ++ ([api_Cell.mk (api_Prop.mk vc2_1.Prop_.Name (api_Value.mk vc2_1.Prop_.Value.Kind vc2_1.Prop_.Value.Flag vc2_1.Prop_.Value.Number vc2_1.Prop_.Value.Words)) (api_Stamp.mk vc2_1.Stamp.At vc2_1.Stamp.By vc2_1.Stamp.No)] : List api_Cell), IntKind.wrap .i64 (vx + 1))))
    (some (.inr (vs1, vout)))

noncomputable def z214 (qs : z177) : Option (z177 × (List api_Cell)) :=
  (z211 qs 0 6).bind fun (vs, vr) =>
  (loopO (z220 vr) (vs, [], 0)).bind fun (vs2_1, vout1_1) =>
  (z751 vout1_1).bind fun vl =>
  gd (vl.length == vout1_1.length) <|
  (z587 vl).bind fun vr7 =>
  some (vs2_1, vr7)

/-! ### (*beaconfleet/fleetmake.Stream).PropName -/
noncomputable def z208 (qs : z177) : Option ((List UInt8)) :=
  (z196 qs 25).bind fun vr =>
  cond (vr)
    ((strings_Repeat ([97] : List UInt8) 41).bind fun vr1 =>
    (z247 (z177.mk qs.L (IntKind.wrap .i64 (qs.at_ + 1))) ([([] : List UInt8), ([65] : List UInt8), ([97, 46] : List UInt8), ([46, 97] : List UInt8), ([97, 46, 46, 98] : List UInt8), ([97, 46, 98, 46, 99, 46, 100, 46, 101, 46, 102, 46, 103, 46, 104, 46, 105] : List UInt8), ([97, 32, 98] : List UInt8), vr1] : List (List UInt8))).bind fun vr2 =>
    some vr2)
    ((z247 (z177.mk qs.L (IntKind.wrap .i64 (qs.at_ + 1))) ([([97] : List UInt8), ([97] : List UInt8), ([97, 46, 120] : List UInt8), ([97, 46, 120] : List UInt8), ([97, 46, 121] : List UInt8), ([97, 46, 120, 46, 112] : List UInt8), ([98] : List UInt8), ([98, 46, 122] : List UInt8), ([97, 98] : List UInt8), ([97, 45, 49] : List UInt8)] : List (List UInt8))).bind fun vr3 =>
    some vr3)

/-! ### (*beaconfleet/fleetmake.Stream).Value -/
noncomputable def z263 (qs : z177) (vr4 : api_Value) : Option ((z177 × api_Value)) :=
  (z196 (z177.mk qs.L (IntKind.wrap .i64 ((IntKind.wrap .i64 ((IntKind.wrap .i64 (qs.at_ + 1)) + 1)) + 1))) 25).bind fun vr1 =>
  cond (vr1)
    ((z199 (z177.mk qs.L (IntKind.wrap .i64 ((IntKind.wrap .i64 ((IntKind.wrap .i64 ((IntKind.wrap .i64 (qs.at_ + 1)) + 1)) + 1)) + 1))) 5).bind fun vr3 =>
    cond (decide (vr3 = 0))
      ((z205 (z177.mk qs.L (IntKind.wrap .i64 ((IntKind.wrap .i64 ((IntKind.wrap .i64 ((IntKind.wrap .i64 ((IntKind.wrap .i64 (qs.at_ + 1)) + 1)) + 1)) + 1)) + 1))) ([(-1), 4, 0] : List Int)).bind fun vr2 =>
      some (z177.mk qs.L (IntKind.wrap .i64 ((IntKind.wrap .i64 ((IntKind.wrap .i64 ((IntKind.wrap .i64 ((IntKind.wrap .i64 ((IntKind.wrap .i64 (qs.at_ + 1)) + 1)) + 1)) + 1)) + 1)) + 1)), api_Value.mk vr2 vr4.Flag vr4.Number vr4.Words))
      (cond (decide (vr3 = 1))
        (some (z177.mk qs.L (IntKind.wrap .i64 ((IntKind.wrap .i64 ((IntKind.wrap .i64 ((IntKind.wrap .i64 ((IntKind.wrap .i64 (qs.at_ + 1)) + 1)) + 1)) + 1)) + 1)), api_Value.mk vr4.Kind (!vr4.Flag) vr4.Number vr4.Words))
        (cond (decide (vr3 = 2))
          ((z202 (z177.mk qs.L (IntKind.wrap .i64 ((IntKind.wrap .i64 ((IntKind.wrap .i64 ((IntKind.wrap .i64 ((IntKind.wrap .i64 (qs.at_ + 1)) + 1)) + 1)) + 1)) + 1))) (-1000000000) 1000000000).bind fun (vs1, vr3_1) =>
          some (vs1, api_Value.mk vr4.Kind vr4.Flag vr3_1 vr4.Words))
          (cond (decide (vr3 = 3))
            ((strings_Repeat ([119] : List UInt8) 1001).bind fun vr5 =>
            (z247 (z177.mk qs.L (IntKind.wrap .i64 ((IntKind.wrap .i64 ((IntKind.wrap .i64 ((IntKind.wrap .i64 ((IntKind.wrap .i64 (qs.at_ + 1)) + 1)) + 1)) + 1)) + 1))) ([([10] : List UInt8), ([127] : List UInt8), ([255] : List UInt8), vr5] : List (List UInt8))).bind fun vr6 =>
            some (z177.mk qs.L (IntKind.wrap .i64 ((IntKind.wrap .i64 ((IntKind.wrap .i64 ((IntKind.wrap .i64 ((IntKind.wrap .i64 ((IntKind.wrap .i64 (qs.at_ + 1)) + 1)) + 1)) + 1)) + 1)) + 1)), api_Value.mk 3 false 0 vr6))
            (some (z177.mk qs.L (IntKind.wrap .i64 ((IntKind.wrap .i64 ((IntKind.wrap .i64 ((IntKind.wrap .i64 ((IntKind.wrap .i64 (qs.at_ + 1)) + 1)) + 1)) + 1)) + 1)), api_Value.mk vr4.Kind vr4.Flag vr4.Number ([122] : List UInt8)))))))
    (some (z177.mk qs.L (IntKind.wrap .i64 ((IntKind.wrap .i64 ((IntKind.wrap .i64 ((IntKind.wrap .i64 (qs.at_ + 1)) + 1)) + 1)) + 1)), vr4))

noncomputable def z260 (qs : z177) : Option (z177 × api_Value) :=
  (z244 qs).bind fun vr4 =>
  (z196 (z177.mk qs.L (IntKind.wrap .i64 ((IntKind.wrap .i64 (qs.at_ + 1)) + 1))) 6).bind fun vr =>
  cond (vr)
    (some (z177.mk qs.L (IntKind.wrap .i64 ((IntKind.wrap .i64 ((IntKind.wrap .i64 (qs.at_ + 1)) + 1)) + 1)), api_Value.mk 0 false 0 ([] : List UInt8)))
    ((z263 qs vr4).bind fun (vs2, vv1) =>
    some (vs2, vv1))

/-! ### (*beaconfleet/fleetmake.Stream).Stamp -/
noncomputable def z253 (vs1 : z177) (vr3 : api_Stamp) : Option ((z177 × api_Stamp)) :=
  (z196 vs1 25).bind fun vr =>
  cond (vr)
    ((z202 (z177.mk vs1.L (IntKind.wrap .i64 (vs1.at_ + 1))) 0 9).bind fun (vs1_1, vr3_1) =>
    (z247 vs1_1 ([([104] : List UInt8), ([] : List UInt8), ([65] : List UInt8)] : List (List UInt8))).bind fun vr1 =>
    (z202 (z177.mk vs1_1.L (IntKind.wrap .i64 (vs1_1.at_ + 1))) 0 9).bind fun (vs1_2, vr3_2) =>
    some (vs1_2, api_Stamp.mk vr3_1 vr1 vr3_2))
    (some (z177.mk vs1.L (IntKind.wrap .i64 (vs1.at_ + 1)), vr3))

noncomputable def z250 (qs : z177) : Option (z177 × api_Stamp) :=
  (z241 qs).bind fun (vs1, vr3) =>
  (z253 vs1 vr3).bind fun (vs2, vt1) =>
  some (vs2, vt1)

/-! ### (*beaconfleet/fleetmake.Stream).Cells -/
noncomputable def z181 (vs3 : z177) (vr8 : List api_Cell) : Option ((z177 × (List api_Cell))) :=
  (z196 vs3 10).bind fun vr =>
  cond (vr)
    ((z208 (z177.mk vs3.L (IntKind.wrap .i64 (vs3.at_ + 1)))).bind fun vr4 =>
    (z260 (z177.mk vs3.L (IntKind.wrap .i64 ((IntKind.wrap .i64 ((IntKind.wrap .i64 (vs3.at_ + 1)) + 1)) + 1)))).bind fun (vs3_1, vr7) =>
    (z250 vs3_1).bind fun (vs3_2, vr2) =>
    gd (Nat.ble (vr8.length + ([api_Cell.mk (api_Prop.mk vr4 vr7) vr2] : List api_Cell).length) LIM) <|
    (z196 vs3_2 2).bind fun vr1 =>
    cond (vr1)
      ((z751 (vr8 ++ ([api_Cell.mk (api_Prop.mk vr4 vr7) vr2] : List api_Cell))).bind fun vl =>
      gd (vl.length == (vr8 ++ ([api_Cell.mk (api_Prop.mk vr4 vr7) vr2] : List api_Cell)).length) <|
      some (z177.mk vs3_2.L (IntKind.wrap .i64 (vs3_2.at_ + 1)), vl))
      (some (z177.mk vs3_2.L (IntKind.wrap .i64 (vs3_2.at_ + 1)), vr8 ++ ([api_Cell.mk (api_Prop.mk vr4 vr7) vr2] : List api_Cell))))
    (some (z177.mk vs3.L (IntKind.wrap .i64 (vs3.at_ + 1)), vr8))

noncomputable def z178 (qs : z177) : Option (z177 × (List api_Cell)) :=
  (z214 qs).bind fun (vs3, vr8) =>
  (z181 vs3 vr8).bind fun (vs1, vout1) =>
  some (vs1, vout1)

/-! ### (*beaconfleet/fleetmake.Stream).Twin -/
noncomputable def z257 (qs : z177) : Option (z177 × (List api_Cell) × (List api_Cell)) :=
  (z178 qs).bind fun (vs2, vr3) =>
  (z178 vs2).bind fun (vs2_1, vr3_1) =>
  some (vs2_1, vr3, vr3_1)

/-! ### internal/stringslite.Index -/
noncomputable def z995 (qx : List UInt8) (qx1 : List UInt8) : Option (Bool) :=
  cond (decide ((qx1.length : Int) = 0))
    (some true)
    (some (decide (qx1 = qx)))

noncomputable def z989 (qx : List UInt8) (qx1 : List UInt8) : Option (Int) :=
  (z995 qx qx1).bind fun vx1 =>
  cond (vx1)
    (some 0)
    (cond (decide ((qx1.length : Int) = 1))
      ((at? qx1 0).bind fun vc =>
      (z990 qx (vc.toNat : Int)).bind fun _ =>
      some (Lib.indexByte qx (vc.toNat : Int).toNat.toUInt8))
      (cond (decide ((qx.length : Int) ≤ (qx1.length : Int)))
        (some (-1))
        (none)))

/-! ### internal/stringslite.Cut -/
noncomputable def z979 (qs : List UInt8) (qsep : List UInt8) : Option ((List UInt8) × (List UInt8) × Bool) :=
  (z989 qs qsep).bind fun vr =>
  cond (decide (0 ≤ vr))
    ((sub? qs 0 vr).bind fun vs =>
    (sub? qs (IntKind.wrap .i64 (vr + (qsep.length : Int))) (qs.length : Int)).bind fun vs1 =>
    some (vs, vs1, true))
    (some (qs, ([] : List UInt8), false))

/-! ### strings.Cut -/
noncomputable def z919 (qs : List UInt8) (qsep : List UInt8) : Option ((List UInt8) × (List UInt8) × Bool) :=
  (z979 qs qsep).bind fun (vr1, vr2, vr3) =>
  some (vr1, vr2, vr3)

/-! ### beaconfleet/base.Dotted -/
noncomputable def z18 (qmost : Int) : (List UInt8) × Int → Option (((List UInt8) × Int) ⊕ (Unit ⊕ Bool))
  | (vs, vn) =>
  cond (decide (vn < qmost))
    ((z919 vs ([46] : List UInt8)).bind fun (vr2, vr4_1, vr5_1) =>
    (base_Key vr2).bind fun vr3 =>
    cond (!vr3)
      (some (.inr (.inr false)))
      (cond (!vr5_1)
        (some (.inr (.inr true)))
        (some (.inl (vr4_1, IntKind.wrap .i64 (vn + 1))))))
    (some (.inr (.inl ())))

noncomputable def z15 (qs : List UInt8) (qmost : Int) : Option (Bool) :=
  (loopO (z18 qmost) (qs, 0)).bind fun x => match x with
    | .inl _ =>
      some false
    | .inr vx1 =>
      some vx1

/-! ### beaconfleet/twin.isName -/
noncomputable def z1170 (qs : List UInt8) : Option (Bool) :=
  (z15 qs 8).bind fun vr6 =>
  some vr6

/-! ### beaconfleet/twin.valueFault -/
noncomputable def z1227 (qv : api_Value) : Option (api_Value ⊕ Unit) :=
  cond (decide (qv.Kind = 0))
    (some (.inl (api_Value.mk qv.Kind false 0 ([] : List UInt8))))
    (cond (decide (qv.Kind = 1))
      (some (.inl (api_Value.mk qv.Kind qv.Flag 0 ([] : List UInt8))))
      (cond (decide (qv.Kind = 2))
        (some (.inl (api_Value.mk qv.Kind false qv.Number ([] : List UInt8))))
        (cond (decide (qv.Kind = 3))
          (some (.inl (api_Value.mk qv.Kind false 0 qv.Words)))
          (some (.inr ())))))

noncomputable def z1224 (qv : api_Value) : Option (Int) :=
  (z1227 qv).bind fun x => match x with
    | .inl vused1 =>
      cond (!(decide (qv.Kind = vused1.Kind) && ((qv.Flag == vused1.Flag) && (decide (qv.Number = vused1.Number) && (decide (qv.Words = vused1.Words) && true)))))
        (some 3)
        ((base_Out qv.Number (-1000000000) 1000000000).bind fun vr =>
        cond (vr)
          (some 1)
          (cond (decide (1000 < (qv.Words.length : Int)))
            (some 2)
            ((z60 qv.Words).bind fun vr1 =>
            cond (!vr1)
              (some 3)
              (some 0))))
    | .inr _ =>
      some 4

/-! ### beaconfleet/twin.stampFault -/
noncomputable def z1218 (qs : api_Stamp) : Option (Int) :=
  (z49 qs.At).bind fun vr1 =>
  cond (!vr1)
    (some 1)
    ((base_Key qs.By).bind fun vr =>
    cond (!vr)
      (some 5)
      ((base_Out qs.No 0 1000000000).bind fun vr2 =>
      cond (vr2)
        (some 1)
        (some 0)))

/-! ### beaconfleet/twin.CheckCells -/
noncomputable def z1007 (ql : List api_Cell) (vx : Int) (vy2 : api_Cell) : Option (Bool) :=
  cond (decide (0 < vx))
    ((at? ql (IntKind.wrap .i64 (vx - 1))).bind fun vy3 =>
    some (Op.bytesLess vy2.Prop_.Name vy3.Prop_.Name || decide (vy2.Prop_.Name = vy3.Prop_.Name)))
    (some false)

noncomputable def z1002 (ql : List api_Cell) (vx : Int) : Option ((Int) ⊕ (Unit ⊕ Int)) :=
  cond (decide (vx < (ql.length : Int)))
    ((at? ql vx).bind fun vy2 =>
    (z1170 vy2.Prop_.Name).bind fun vr4 =>
    cond (!vr4)
      (some (.inr (.inr 5)))
      ((z1224 (api_Value.mk vy2.Prop_.Value.Kind vy2.Prop_.Value.Flag vy2.Prop_.Value.Number vy2.Prop_.Value.Words)).bind fun vr2_1 =>
      (z1218 (api_Stamp.mk vy2.Stamp.At vy2.Stamp.By vy2.Stamp.No)).bind fun vr3_1 =>
      (z24 ([vr2_1, vr3_1] : List Int)).bind fun vr5 =>
      cond (!decide (vr5 = 0))
        (some (.inr (.inr vr5)))
        ((z1007 ql vx vy2).bind fun vx2_1 =>
        cond (vx2_1)
          (some (.inr (.inr 7)))
          (some (.inl (IntKind.wrap .i64 (vx + 1)))))))
    (some (.inr (.inl ())))

noncomputable def z999 (ql : List api_Cell) : Option (Int) :=
  cond (decide (500 < (ql.length : Int)))
    (some 2)
    ((loopO (z1002 ql) 0).bind fun x => match x with
      | .inl _ =>
        some 0
      | .inr vx3_1 =>
        some vx3_1)

/-! ### beaconfleet/twin.twinFault -/
noncomputable def z1221 (qt : api_Twin) : Option (Int) :=
  (z999 qt.Desired).bind fun vr6 =>
  (z999 qt.Reported).bind fun vr6_1 =>
  (z24 ([vr6, vr6_1] : List Int)).bind fun vr =>
  some vr

/-! ### beaconfleet/base.Below -/
noncomputable def z10 (qname : List UInt8) (qabove : List UInt8) : Option (Bool) :=
  cond (decide ((qabove.length : Int) < (qname.length : Int)))
    ((at? qname (qabove.length : Int)).bind fun vc =>
    cond (decide ((vc.toNat : Int) = 46))
      ((sub? qname 0 (qabove.length : Int)).bind fun vs =>
      some (decide (vs = qabove)))
      (some false))
    (some false)

noncomputable def z6 (qname : List UInt8) (qabove : List UInt8) : Option (Bool) :=
  (z10 qname qabove).bind fun vx1 =>
  some vx1

/-! ### beaconfleet/twin.byStamp -/
noncomputable def z1135 (qa : api_Stamp) (qb : api_Stamp) : Option (Int) :=
  (z96 qa.At qb.At).bind fun vr =>
  (z905 qa.By qb.By).bind fun _ =>
  (z96 qa.No qb.No).bind fun vr1 =>
  (z106 ([vr, Lib.compareBytes qa.By qb.By, vr1] : List Int)).bind fun vr2 =>
  some vr2

/-! ### beaconfleet/twin.hides -/
noncomputable def z1162 (qy : api_Cell) (vr : Bool) (vr1 : Bool) : Option (Bool) :=
  cond (vr)
    (some true)
    (cond (vr1)
      (some (!decide (qy.Prop_.Value.Kind = 0)))
      (some false))

noncomputable def z1166 (qx : api_Cell) (qy : api_Cell) (vr : Bool) : Option (Bool) :=
  cond (vr)
    (cond (!decide (qx.Prop_.Value.Kind = 0))
      (some (!decide (qy.Prop_.Value.Kind = 0)))
      (some false))
    (some false)

noncomputable def z1159 (qx : api_Cell) (qy : api_Cell) : Option (Bool) :=
  (z6 qy.Prop_.Name qx.Prop_.Name).bind fun vr =>
  (z6 qx.Prop_.Name qy.Prop_.Name).bind fun vr1 =>
  (z1135 (api_Stamp.mk qx.Stamp.At qx.Stamp.By qx.Stamp.No) (api_Stamp.mk qy.Stamp.At qy.Stamp.By qy.Stamp.No)).bind fun vr3 =>
  cond (decide (0 < vr3))
    ((z1162 qy vr vr1).bind fun vx1 =>
    some vx1)
    (cond (decide (vr3 = 0))
      ((z1166 qx qy vr).bind fun vx2_1 =>
      some vx2_1)
      (some false))

/-! ### beaconfleet/twin.every -/
noncomputable def z1138 (qx : api_Cell) : Option (Unit) :=
  some ()

/-! ### beaconfleet/twin.hidden$1 -/
noncomputable def z1152 (qx : api_Cell) (qx1 : api_Cell) : Option (Bool) :=
  (z1159 (api_Cell.mk (api_Prop.mk qx.Prop_.Name (api_Value.mk qx.Prop_.Value.Kind qx.Prop_.Value.Flag qx.Prop_.Value.Number qx.Prop_.Value.Words)) (api_Stamp.mk qx.Stamp.At qx.Stamp.By qx.Stamp.No)) (api_Cell.mk (api_Prop.mk qx1.Prop_.Name (api_Value.mk qx1.Prop_.Value.Kind qx1.Prop_.Value.Flag qx1.Prop_.Value.Number qx1.Prop_.Value.Words)) (api_Stamp.mk qx1.Stamp.At qx1.Stamp.By qx1.Stamp.No))).bind fun vr2 =>
  cond (vr2)
    ((z1138 (api_Cell.mk (api_Prop.mk qx.Prop_.Name (api_Value.mk qx.Prop_.Value.Kind qx.Prop_.Value.Flag qx.Prop_.Value.Number qx.Prop_.Value.Words)) (api_Stamp.mk qx.Stamp.At qx.Stamp.By qx.Stamp.No))).bind fun _ =>
    some true)
    (some false)

noncomputable def z1149 (qx : api_Cell) (qx1 : api_Cell) : Option (Bool) :=
  (z1152 qx qx1).bind fun vx1 =>
  some vx1

/-! ### slices.IndexFunc[[]beaconfleet/api.Cell,beaconfleet/api.Cell] -/
noncomputable def z708 (qs : List api_Cell) (qf : api_Cell) (vx : Int) : Option ((Int) ⊕ (Unit ⊕ Int)) :=
  cond (decide (vx < (qs.length : Int)))
    ((at? qs vx).bind fun vy1 =>
    (z1149 (api_Cell.mk (api_Prop.mk vy1.Prop_.Name (api_Value.mk vy1.Prop_.Value.Kind vy1.Prop_.Value.Flag vy1.Prop_.Value.Number vy1.Prop_.Value.Words)) (api_Stamp.mk vy1.Stamp.At vy1.Stamp.By vy1.Stamp.No)) (api_Cell.mk (api_Prop.mk qf.Prop_.Name (api_Value.mk qf.Prop_.Value.Kind qf.Prop_.Value.Flag qf.Prop_.Value.Number qf.Prop_.Value.Words)) (api_Stamp.mk qf.Stamp.At qf.Stamp.By qf.Stamp.No))).bind fun vr1 =>
    cond (vr1)
      (some (.inr (.inr vx)))
      (some (.inl (IntKind.wrap .i64 (vx + 1)))))
    (some (.inr (.inl ())))

noncomputable def z705 (qs : List api_Cell) (qf : api_Cell) : Option (Int) :=
  (loopO (z708 qs qf) 0).bind fun x => match x with
    | .inl _ =>
      some (-1)
    | .inr vx1_1 =>
      some vx1_1

/-! ### slices.ContainsFunc[[]beaconfleet/api.Cell,beaconfleet/api.Cell] -/
noncomputable def z643 (qs : List api_Cell) (qf : api_Cell) : Option (Bool) :=
  (z705 qs (api_Cell.mk (api_Prop.mk qf.Prop_.Name (api_Value.mk qf.Prop_.Value.Kind qf.Prop_.Value.Flag qf.Prop_.Value.Number qf.Prop_.Value.Words)) (api_Stamp.mk qf.Stamp.At qf.Stamp.By qf.Stamp.No))).bind fun vr2 =>
  some (decide (0 ≤ vr2))

/-! ### beaconfleet/twin.hidden -/
noncomputable def z1156 (ql : List api_Cell) (qy : api_Cell) : Option (Bool) :=
  (z643 ql (api_Cell.mk (api_Prop.mk qy.Prop_.Name (api_Value.mk qy.Prop_.Value.Kind qy.Prop_.Value.Flag qy.Prop_.Value.Number qy.Prop_.Value.Words)) (api_Stamp.mk qy.Stamp.At qy.Stamp.By qy.Stamp.No))).bind fun vr =>
  some vr

/-! ### beaconfleet/twin.visible -/
noncomputable def z1250 (ql : List api_Cell) (vy1 : api_Cell) : Option (Bool) :=
  cond (!decide (vy1.Prop_.Value.Kind = 0))
    ((z1156 ql (api_Cell.mk (api_Prop.mk vy1.Prop_.Name (api_Value.mk vy1.Prop_.Value.Kind vy1.Prop_.Value.Flag vy1.Prop_.Value.Number vy1.Prop_.Value.Words)) (api_Stamp.mk vy1.Stamp.At vy1.Stamp.By vy1.Stamp.No))).bind fun vr1_1 =>
    some (!vr1_1))
    (some false)

noncomputable def z1246 (ql : List api_Cell) (vout : List api_Prop) (vx : Int) : Option ((List api_Prop)) :=
  (at? ql vx).bind fun vy1 =>
  (z1250 ql vy1).bind fun vx2_1 =>
  cond (vx2_1)
    (gd (Nat.ble (vout.length + ([api_Prop.mk vy1.Prop_.Name (api_Value.mk vy1.Prop_.Value.Kind vy1.Prop_.Value.Flag vy1.Prop_.Value.Number vy1.Prop_.Value.Words)] : List api_Prop).length) LIM) <|
    some (vout ++ ([api_Prop.mk vy1.Prop_.Name (api_Value.mk vy1.Prop_.Value.Kind vy1.Prop_.Value.Flag vy1.Prop_.Value.Number vy1.Prop_.Value.Words)] : List api_Prop)))
    (some vout)

noncomputable def z1241 (ql : List api_Cell) : (List api_Prop) × Int → Option (((List api_Prop) × Int) ⊕ ((List api_Prop)))
  | (vout, vx) =>
  cond (decide (vx < (ql.length : Int)))
    ((z1246 ql vout vx).bind fun vout2_1 =>
    some (.inl (vout2_1, IntKind.wrap .i64 (vx + 1))))
    (some (.inr vout))

noncomputable def z1238 (ql : List api_Cell) : Option ((List api_Prop)) :=
  (loopO (z1241 ql) ([], 0)).bind fun vout3_1 =>
  some vout3_1

/-! ### cmp.isNaN[string] -/
noncomputable def z118 (qx : List UInt8) : Option (Unit) :=
  some ()

/-! ### cmp.Less[string] -/
noncomputable def z102 (qx : List UInt8) (qy : List UInt8) : Option (Bool) :=
  (z118 qx).bind fun _ =>
  cond (!decide (qx = qx))
    ((z118 qy).bind fun _ =>
    cond (!(!decide (qy = qy)))
      (some true)
      (some (Op.bytesLess qx qy)))
    (some (Op.bytesLess qx qy))

noncomputable def z99 (qx : List UInt8) (qy : List UInt8) : Option (Bool) :=
  (z102 qx qy).bind fun vx1 =>
  some vx1

/-! ### slices.insertionSortOrdered[string] -/
noncomputable def z841 (qa : Int) (vl3 : List (List UInt8)) (vj1 : Int) : Option (Bool) :=
  cond (decide (qa < vj1))
    ((at? vl3 vj1).bind fun vy15 =>
    (at? vl3 (IntKind.wrap .i64 (vj1 - 1))).bind fun vy16 =>
    (z99 vy15 vy16).bind fun vr3 =>
    some vr3)
    (some false)

noncomputable def z836 (qa : Int) : (List (List UInt8)) × Int → Option (((List (List UInt8)) × Int) ⊕ ((List (List UInt8))))
  | (vl3, vj1) =>
  (z841 qa vl3 vj1).bind fun vx4_1 =>
  cond (vx4_1)
    ((at? vl3 (IntKind.wrap .i64 (vj1 - 1))).bind fun vy17 =>
    (at? vl3 vj1).bind fun vy18 =>
    (at? (vl3.set vj1.toNat vy17) (IntKind.wrap .i64 (vj1 - 1))).bind fun vy19 =>
    some (.inl ((vl3.set vj1.toNat vy17).set (IntKind.wrap .i64 (vj1 - 1)).toNat vy18, IntKind.wrap .i64 (vj1 - 1))))
    (some (.inr vl3))

noncomputable def z831 (qa : Int) (qb : Int) : (List (List UInt8)) × Int → Option (((List (List UInt8)) × Int) ⊕ ((List (List UInt8))))
  | (vl, vi) =>
  cond (decide (vi < qb))
    ((loopO (z836 qa) (vl, vi)).bind fun vl4_1 =>
    some (.inl (vl4_1, IntKind.wrap .i64 (vi + 1))))
    (some (.inr vl))

noncomputable def z828 (qdata : List (List UInt8)) (qa : Int) (qb : Int) : Option ((List (List UInt8))) :=
  (loopO (z831 qa qb) (qdata, IntKind.wrap .i64 (qa + 1))).bind fun vl5_1 =>
  some vl5_1

/-! ### slices.pdqsortOrdered[string] -/
noncomputable def z864 (qx : List (List UInt8)) (qx1 : Int) (qx2 : Int) (qx3 : Int) : Unit → Option ((Unit) ⊕ ((List (List UInt8))))
  | _ =>
  cond (decide ((IntKind.wrap .i64 (qx2 - qx1)) ≤ 12))
    ((z828 qx qx1 qx2).bind fun vl6_1 =>
    gd (vl6_1.length == qx.length) <|
    some (.inr vl6_1))
    (cond (decide (qx3 = 0))
      (none)
      (none))

noncomputable def z861 (qx : List (List UInt8)) (qx1 : Int) (qx2 : Int) (qx3 : Int) : Option ((List (List UInt8))) :=
  (loopO (z864 qx qx1 qx2 qx3) ()).bind fun vl1 =>
  some vl1

/-! ### slices.Sort[[]string,string] -/
noncomputable def z757 (qx : List (List UInt8)) : Option ((List (List UInt8))) :=
  (bits_Len (IntKind.wrap .u64 ((qx.length : Int)))).bind fun vr1 =>
  (z861 qx 0 (qx.length : Int) vr1).bind fun vl2 =>
  gd (vl2.length == qx.length) <|
  some vl2

/-! ### slices.Compact[[]string,string] -/
noncomputable def z617 (qs : List (List UInt8)) (vk : Int) (vl4 : List (List UInt8)) (vk6 : Int) (vk2_1 : Int) : Option (((List (List UInt8)) × Int)) :=
  gd (decide (0 ≤ vk) && decide (0 ≤ vk2_1) && decide (vk2_1 < (qs.length : Int) - vk)) <|
  (at? vl4 (vk + vk2_1)).bind fun vy13 =>
  gd (decide (0 ≤ vk) && decide (0 ≤ (IntKind.wrap .i64 (vk2_1 - 1))) && decide ((IntKind.wrap .i64 (vk2_1 - 1)) < (qs.length : Int) - vk)) <|
  (at? vl4 (vk + (IntKind.wrap .i64 (vk2_1 - 1)))).bind fun vy14 =>
  cond (!decide (vy13 = vy14))
    ((at? vl4 vk6).bind fun vy15 =>
    some (vl4.set vk6.toNat vy13, IntKind.wrap .i64 (vk6 + 1)))
    (some (vl4, vk6))

noncomputable def z612 (qs : List (List UInt8)) (vk : Int) : (List (List UInt8)) × Int × Int → Option (((List (List UInt8)) × Int × Int) ⊕ (((List (List UInt8)) × Int)))
  | (vl4, vk6, vk2_1) =>
  cond (decide (vk2_1 < (((qs.length : Int).toNat - vk.toNat : Nat) : Int)))
    ((z617 qs vk vl4 vk6 vk2_1).bind fun (vl6_1, vk8_1) =>
    some (.inl (vl6_1, vk8_1, IntKind.wrap .i64 (vk2_1 + 1))))
    (some (.inr (vl4, vk6)))

noncomputable def z607 (qs : List (List UInt8)) (vk : Int) : Option ((Int) ⊕ (Unit ⊕ (List (List UInt8)))) :=
  cond (decide (vk < (qs.length : Int)))
    ((at? qs vk).bind fun vy8 =>
    (at? qs (IntKind.wrap .i64 (vk - 1))).bind fun vy9 =>
    cond (decide (vy8 = vy9))
      (gd (decide (0 ≤ vk) && decide (vk ≤ (qs.length : Int)) && decide ((qs.length : Int) ≤ (qs.length : Int))) <|
      (loopO (z612 qs vk) (qs, vk, 1)).bind fun (vl7_1, vk9_1) =>
      gd (decide (0 ≤ vk9_1) && decide (vk9_1 ≤ (vl7_1.length : Int)) && decide ((vl7_1.length : Int) ≤ (vl7_1.length : Int))) <|
      gd (decide (0 ≤ vk9_1) && decide (vk9_1 ≤ ((vl7_1.take vk9_1.toNat ++ (List.replicate ((vl7_1.length : Int).toNat - vk9_1.toNat) ([] : List UInt8) ++ vl7_1.drop (vk9_1.toNat + ((vl7_1.length : Int).toNat - vk9_1.toNat)))).length : Int))) <|
      some (.inr (.inr ((vl7_1.take vk9_1.toNat ++ (List.replicate ((vl7_1.length : Int).toNat - vk9_1.toNat) ([] : List UInt8) ++ vl7_1.drop (vk9_1.toNat + ((vl7_1.length : Int).toNat - vk9_1.toNat)))).take vk9_1.toNat))))
      (some (.inl (IntKind.wrap .i64 (vk + 1)))))
    (some (.inr (.inl ())))

noncomputable def z604 (qs : List (List UInt8)) : Option ((List (List UInt8))) :=
  cond (decide ((qs.length : Int) < 2))
    (some qs)
    ((loopO (z607 qs) 1).bind fun x => match x with
      | .inl _ =>
        some qs
      | .inr vx1 =>
        some vx1)

/-! ### beaconfleet/twin.names -/
noncomputable def z1213 (vy3 : List api_Prop) : (List (List UInt8)) × Int → Option (((List (List UInt8)) × Int) ⊕ ((List (List UInt8))))
  | (vout3, vx2) =>
  cond (decide (vx2 < (vy3.length : Int)))
    ((at? vy3 vx2).bind fun vy5 =>
    gd (Nat.ble (vout3.length + ([vy5.Name] : List (List UInt8)).length) LIM) <|
    some (.inl (vout3 ++ ([vy5.Name] : List (List UInt8)), IntKind.wrap .i64 (vx2 + 1))))
    (some (.inr vout3))

noncomputable def z1208 (qlists : List (List api_Prop)) : (List (List UInt8)) × Int → Option (((List (List UInt8)) × Int) ⊕ ((List (List UInt8))))
  | (vout, vx) =>
  cond (decide (vx < (qlists.length : Int)))
    ((at? qlists vx).bind fun vy3 =>
    (loopO (z1213 vy3) (vout, 0)).bind fun vout4_1 =>
    some (.inl (vout4_1, IntKind.wrap .i64 (vx + 1))))
    (some (.inr vout))

noncomputable def z1205 (qlists : List (List api_Prop)) : Option ((List (List UInt8))) :=
  (loopO (z1208 qlists) ([], 0)).bind fun vout5_1 =>
  (z757 vout5_1).bind fun vl =>
  gd (vl.length == vout5_1.length) <|
  (z604 vl).bind fun vr =>
  some vr

/-! ### beaconfleet/twin.find$1 -/
noncomputable def z1141 (qp : api_Prop) (qname : List UInt8) : Option (Unit) :=
  (z905 qp.Name qname).bind fun _ =>
  some ()

/-! ### slices.BinarySearchFunc[[]beaconfleet/api.Prop,beaconfleet/api.Prop,string] -/
noncomputable def z564 (qx : List api_Prop) (qtarget : List UInt8) : Int × Int → Option ((Int × Int) ⊕ (Int))
  | (vi, vj) =>
  cond (decide (vi < vj))
    ((at? qx (IntKind.wrap .i64 (ishr .u64 (IntKind.wrap .u64 (IntKind.wrap .i64 (vi + vj))) 1))).bind fun vy1 =>
    (z1141 (api_Prop.mk vy1.Name (api_Value.mk vy1.Value.Kind vy1.Value.Flag vy1.Value.Number vy1.Value.Words)) qtarget).bind fun _ =>
    cond (decide ((Lib.compareBytes vy1.Name qtarget) < 0))
      (some (.inl (IntKind.wrap .i64 ((IntKind.wrap .i64 (ishr .u64 (IntKind.wrap .u64 (IntKind.wrap .i64 (vi + vj))) 1)) + 1), vj)))
      (some (.inl (vi, IntKind.wrap .i64 (ishr .u64 (IntKind.wrap .u64 (IntKind.wrap .i64 (vi + vj))) 1)))))
    (some (.inr vi))

noncomputable def z569 (qx : List api_Prop) (qtarget : List UInt8) (vi1_1 : Int) : Option (Bool) :=
  cond (decide (vi1_1 < (qx.length : Int)))
    ((at? qx vi1_1).bind fun vy2 =>
    (z1141 (api_Prop.mk vy2.Name (api_Value.mk vy2.Value.Kind vy2.Value.Flag vy2.Value.Number vy2.Value.Words)) qtarget).bind fun _ =>
    some (decide ((Lib.compareBytes vy2.Name qtarget) = 0)))
    (some false)

noncomputable def z561 (qx : List api_Prop) (qtarget : List UInt8) : Option (Int × Bool) :=
  (loopO (z564 qx qtarget) (0, (qx.length : Int))).bind fun vi1_1 =>
  (z569 qx qtarget vi1_1).bind fun vx1 =>
  some (vi1_1, vx1)

/-! ### beaconfleet/twin.find -/
noncomputable def twin_find (ql : List api_Prop) (qname : List UInt8) : Option (Int) :=
  (z561 ql qname).bind fun (vr, vr1) =>
  cond (!vr1)
    (some (-1))
    (some vr)

/-! ### beaconfleet/twin.valueOf -/
noncomputable def z1232 (ql : List api_Prop) (qname : List UInt8) : Option (api_Value) :=
  (twin_find ql qname).bind fun vr2 =>
  cond (decide (0 ≤ vr2))
    ((at? ql vr2).bind fun vy =>
    some (api_Value.mk vy.Value.Kind vy.Value.Flag vy.Value.Number vy.Value.Words))
    (some (api_Value.mk 0 false 0 ([] : List UInt8)))

/-! ### beaconfleet/twin.Owed$1 -/
noncomputable def z1071 (qs : List UInt8) (qx : List UInt8) : Option (Bool) :=
  cond (decide (qs = qx))
    (some true)
    ((z6 qx qs).bind fun vr =>
    some vr)

noncomputable def z1068 (qs : List UInt8) (qx : List UInt8) : Option (Bool) :=
  (z1071 qs qx).bind fun vx1 =>
  some vx1

/-! ### slices.IndexFunc[[]string,string] -/
noncomputable def z740 (qs : List (List UInt8)) (qf : List UInt8) (vx : Int) : Option ((Int) ⊕ (Unit ⊕ Int)) :=
  cond (decide (vx < (qs.length : Int)))
    ((at? qs vx).bind fun vy1 =>
    (z1068 vy1 qf).bind fun vr1_1 =>
    cond (vr1_1)
      (some (.inr (.inr vx)))
      (some (.inl (IntKind.wrap .i64 (vx + 1)))))
    (some (.inr (.inl ())))

noncomputable def z737 (qs : List (List UInt8)) (qf : List UInt8) : Option (Int) :=
  (loopO (z740 qs qf) 0).bind fun x => match x with
    | .inl _ =>
      some (-1)
    | .inr vx1_1 =>
      some vx1_1

/-! ### slices.ContainsFunc[[]string,string] -/
noncomputable def z655 (qs : List (List UInt8)) (qf : List UInt8) : Option (Bool) :=
  (z737 qs qf).bind fun vr =>
  some (decide (0 ≤ vr))

/-! ### beaconfleet/twin.Owed$2 -/
noncomputable def z1075 (qp : api_Prop) (qx : List UInt8) : Option (Bool) :=
  (z6 qp.Name qx).bind fun vr =>
  some vr

/-! ### slices.IndexFunc[[]beaconfleet/api.Prop,beaconfleet/api.Prop] -/
noncomputable def z724 (qs : List api_Prop) (qf : List UInt8) (vx : Int) : Option ((Int) ⊕ (Unit ⊕ Int)) :=
  cond (decide (vx < (qs.length : Int)))
    ((at? qs vx).bind fun vy1 =>
    (z1075 (api_Prop.mk vy1.Name (api_Value.mk vy1.Value.Kind vy1.Value.Flag vy1.Value.Number vy1.Value.Words)) qf).bind fun vr1_1 =>
    cond (vr1_1)
      (some (.inr (.inr vx)))
      (some (.inl (IntKind.wrap .i64 (vx + 1)))))
    (some (.inr (.inl ())))

noncomputable def z721 (qs : List api_Prop) (qf : List UInt8) : Option (Int) :=
  (loopO (z724 qs qf) 0).bind fun x => match x with
    | .inl _ =>
      some (-1)
    | .inr vx1_1 =>
      some vx1_1

/-! ### slices.ContainsFunc[[]beaconfleet/api.Prop,beaconfleet/api.Prop] -/
noncomputable def z649 (qs : List api_Prop) (qf : List UInt8) : Option (Bool) :=
  (z721 qs qf).bind fun vr =>
  some (decide (0 ≤ vr))

/-! ### beaconfleet/twin.Owed -/
noncomputable def z1089 (qx : api_Twin) (vy1 : api_Cell) : Option (Bool) :=
  cond (decide (vy1.Prop_.Value.Kind = 0))
    ((z1156 qx.Desired (api_Cell.mk (api_Prop.mk vy1.Prop_.Name (api_Value.mk vy1.Prop_.Value.Kind vy1.Prop_.Value.Flag vy1.Prop_.Value.Number vy1.Prop_.Value.Words)) (api_Stamp.mk vy1.Stamp.At vy1.Stamp.By vy1.Stamp.No))).bind fun vr1_2 =>
    some (!vr1_2))
    (some false)

noncomputable def z1085 (qx : api_Twin) (vx : List (List UInt8)) (vx1 : Int) : Option ((List (List UInt8))) :=
  (at? qx.Desired vx1).bind fun vy1 =>
  (z1089 qx vy1).bind fun vx4_1 =>
  cond (vx4_1)
    (gd (Nat.ble (vx.length + ([vy1.Prop_.Name] : List (List UInt8)).length) LIM) <|
    some (vx ++ ([vy1.Prop_.Name] : List (List UInt8))))
    (some vx)

noncomputable def z1080 (qx : api_Twin) : (List (List UInt8)) × Int → Option (((List (List UInt8)) × Int) ⊕ ((List (List UInt8))))
  | (vx, vx1) =>
  cond (decide (vx1 < (qx.Desired.length : Int)))
    ((z1085 qx vx vx1).bind fun vx5_1 =>
    some (.inl (vx5_1, IntKind.wrap .i64 (vx1 + 1))))
    (some (.inr vx))

noncomputable def z1102 (vr : List api_Prop) (vx6_1 : List (List UInt8)) (vy3 : List UInt8) (vr6 : api_Value) : Option (Bool) :=
  cond (decide (vr6.Kind = 0))
    ((z655 vx6_1 vy3).bind fun vr1_6 =>
    cond (!vr1_6)
      ((z649 vr vy3).bind fun vr1_7 =>
      some (!vr1_7))
      (some false))
    (some false)

noncomputable def z1098 (vr : List api_Prop) (vr2 : List api_Prop) (vx6_1 : List (List UInt8)) (vr1_3 : List (List UInt8)) (vx7 : List api_Change) (vx8 : Int) : Option ((List api_Change)) :=
  (at? vr1_3 vx8).bind fun vy3 =>
  (z1232 vr2 vy3).bind fun vr5 =>
  (z1232 vr vy3).bind fun vr6 =>
  (z1102 vr vx6_1 vy3 vr6).bind fun vx11_1 =>
  cond (vx11_1)
    (some vx7)
    (cond (!(decide (vr5.Kind = vr6.Kind) && ((vr5.Flag == vr6.Flag) && (decide (vr5.Number = vr6.Number) && (decide (vr5.Words = vr6.Words) && true)))))
      (gd (Nat.ble (vx7.length + ([api_Change.mk vy3 vr5 vr6] : List api_Change).length) LIM) <|
      some (vx7 ++ ([api_Change.mk vy3 vr5 vr6] : List api_Change)))
      (some vx7))

noncomputable def z1093 (vr : List api_Prop) (vr2 : List api_Prop) (vx6_1 : List (List UInt8)) (vr1_3 : List (List UInt8)) : (List api_Change) × Int → Option (((List api_Change) × Int) ⊕ ((List api_Change)))
  | (vx7, vx8) =>
  cond (decide (vx8 < (vr1_3.length : Int)))
    ((z1098 vr vr2 vx6_1 vr1_3 vx7 vx8).bind fun vx12_1 =>
    some (.inl (vx12_1, IntKind.wrap .i64 (vx8 + 1))))
    (some (.inr vx7))

noncomputable def twin_Owed (qx : api_Twin) : Option ((List api_Change) × Int) :=
  (z1221 qx).bind fun vr1 =>
  cond (!decide (vr1 = 0))
    (some ([], vr1))
    ((z1238 qx.Desired).bind fun vr =>
    (z1238 qx.Reported).bind fun vr2 =>
    (loopO (z1080 qx) ([], 0)).bind fun vx6_1 =>
    (z1205 ([vr, vr2] : List (List api_Prop))).bind fun vr1_3 =>
    (loopO (z1093 vr vr2 vx6_1 vr1_3) ([], 0)).bind fun vx13_1 =>
    some (vx13_1, 0))

/-! ### beaconfleet/twin.Settled -/
noncomputable def z1109 (vr7 : List api_Change) (vr8 : Int) : Option (Bool) :=
  cond (decide (vr8 = 0))
    (some (decide ((vr7.length : Int) = 0)))
    (some false)

noncomputable def z1106 (qt : api_Twin) : Option (Bool × Int) :=
  (twin_Owed qt).bind fun (vr7, vr8) =>
  (z1109 vr7 vr8).bind fun vx1 =>
  some (vx1, vr8)

/-! ### unicode/utf8.RuneCountInString -/
noncomputable def z1264 (qs : List UInt8) : Nat × Int → Option ((Nat × Int) ⊕ (Int))
  | (vpos, vn) =>
  cond (decide (vpos < qs.length))
    ((some (dec qs vpos)).bind fun vd1 =>
    some (.inl ((vpos + vd1.2 : Nat), IntKind.wrap .i64 (vn + 1))))
    (some (.inr vn))

noncomputable def z1261 (qs : List UInt8) : Option (Int) :=
  (loopO (z1264 qs) ((0 : Nat), 0)).bind fun vn1_1 =>
  some vn1_1

/-! ### unicode/utf8.decodeRuneInStringSlow -/
noncomputable def z1271 (qx : List UInt8) : Option (Unit) :=
  cond (decide ((qx.length : Int) < 1))
    (some ())
    ((at? qx 0).bind fun vc =>
    none)

/-! ### unicode/utf8.DecodeRuneInString -/
noncomputable def z1257 (qs : List UInt8) : Option (Bool) :=
  cond (!decide (qs = ([] : List UInt8)))
    ((at? qs 0).bind fun vc =>
    some (decide ((vc.toNat : Int) < 128)))
    (some false)

noncomputable def z1254 (qs : List UInt8) : Option (Int × Int) :=
  (z1257 qs).bind fun vx1 =>
  cond (vx1)
    ((at? qs 0).bind fun vc1 =>
    some (IntKind.wrap .i32 ((vc1.toNat : Int)), 1))
    ((z1271 qs).bind fun _ =>
    some (65533, 0))

/-! ### strings.explode -/
noncomputable def z946 (qn : Int) (vr : Int) : Option (Bool) :=
  cond (decide (qn < 0))
    (some true)
    (some (decide (vr < qn)))

noncomputable def z942 (qn : Int) (vr : Int) : Option (Int) :=
  (z946 qn vr).bind fun vx1 =>
  cond (vx1)
    (some vr)
    (some qn)

noncomputable def z950 (vn1 : Int) : (List UInt8) × (List (List UInt8)) × Int → Option (((List UInt8) × (List (List UInt8)) × Int) ⊕ (((List UInt8) × (List (List UInt8)))))
  | (vs, va, vi) =>
  cond (decide (vi < (IntKind.wrap .i64 (vn1 - 1))))
    ((z1254 vs).bind fun (vr2, vr1_2) =>
    (sub? vs 0 vr1_2).bind fun vs3 =>
    (at? va vi).bind fun vy1 =>
    (sub? vs vr1_2 (vs.length : Int)).bind fun vs4 =>
    some (.inl (vs4, va.set vi.toNat vs3, IntKind.wrap .i64 (vi + 1))))
    (some (.inr (vs, va)))

noncomputable def z955 (vn1 : Int) (vs5_1 : List UInt8) (va1_1 : List (List UInt8)) : Option ((List (List UInt8))) :=
  cond (decide (0 < vn1))
    ((at? va1_1 (IntKind.wrap .i64 (vn1 - 1))).bind fun vy2 =>
    some (va1_1.set (IntKind.wrap .i64 (vn1 - 1)).toNat vs5_1))
    (some va1_1)

noncomputable def z939 (qs : List UInt8) (qn : Int) : Option ((List (List UInt8))) :=
  (z1261 qs).bind fun vr =>
  (z942 qn vr).bind fun vn1 =>
  gd (decide (0 ≤ vn1) && decide (vn1 ≤ vn1) && decide (vn1 ≤ 137438953472)) <|
  (loopO (z950 vn1) (qs, List.replicate vn1.toNat ([] : List UInt8), 0)).bind fun (vs5_1, va1_1) =>
  (z955 vn1 vs5_1 va1_1).bind fun va2_1 =>
  some va2_1

/-! ### strings.Index -/
noncomputable def z925 (qs : List UInt8) (qsubstr : List UInt8) : Option (Int) :=
  (z989 qs qsubstr).bind fun vr =>
  some vr

/-! ### strings.Count -/
noncomputable def z914 (qsubstr : List UInt8) : (List UInt8) × Int → Option (((List UInt8) × Int) ⊕ (Int))
  | (vs, vn) =>
  (z925 vs qsubstr).bind fun vr1_1 =>
  cond (decide (vr1_1 = (-1)))
    (some (.inr vn))
    ((sub? vs (IntKind.wrap .i64 (vr1_1 + (qsubstr.length : Int))) (vs.length : Int)).bind fun vs2 =>
    some (.inl (vs2, IntKind.wrap .i64 (vn + 1))))

noncomputable def z911 (qs : List UInt8) (qsubstr : List UInt8) : Option (Int) :=
  cond (decide ((qsubstr.length : Int) = 0))
    ((z1261 qs).bind fun vr =>
    some (IntKind.wrap .i64 (vr + 1)))
    (cond (decide ((qsubstr.length : Int) = 1))
      ((at? qsubstr 0).bind fun vc =>
      some (countB qs (vc.toNat : Int).toNat.toUInt8))
      ((loopO (z914 qsubstr) (qs, 0)).bind fun vx1 =>
      some vx1))

/-! ### strings.genSplit -/
noncomputable def z962 (qx : List UInt8) (qx1 : List UInt8) (qx3 : Int) : Option (Int) :=
  cond (decide (qx3 < 0))
    ((z911 qx qx1).bind fun vr2 =>
    some (IntKind.wrap .i64 (vr2 + 1)))
    (some qx3)

noncomputable def z966 (qx : List UInt8) (qx1 : List UInt8) (qx2 : Int) (vx1 : Int) : (List UInt8) × (List (List UInt8)) × Int → Option (((List UInt8) × (List (List UInt8)) × Int) ⊕ (((List UInt8) × (List (List UInt8)) × Int)))
  | (vx2, vx3, vx4) =>
  cond (decide (vx4 < (IntKind.wrap .i64 ((imin vx1 (IntKind.wrap .i64 ((qx.length : Int) + 1))) - 1))))
    ((z925 vx2 qx1).bind fun vr1_1 =>
    cond (decide (vr1_1 < 0))
      (some (.inr (vx2, vx3, vx4)))
      ((sub? vx2 0 (IntKind.wrap .i64 (vr1_1 + qx2))).bind fun vs2 =>
      (at? vx3 vx4).bind fun vy1 =>
      (sub? vx2 (IntKind.wrap .i64 (vr1_1 + (qx1.length : Int))) (vx2.length : Int)).bind fun vs3 =>
      some (.inl (vs3, vx3.set vx4.toNat vs2, IntKind.wrap .i64 (vx4 + 1)))))
    (some (.inr (vx2, vx3, vx4)))

noncomputable def z959 (qx : List UInt8) (qx1 : List UInt8) (qx2 : Int) (qx3 : Int) : Option ((List (List UInt8))) :=
  cond (decide (qx3 = 0))
    (some [])
    (cond (decide (qx1 = ([] : List UInt8)))
      ((z939 qx qx3).bind fun vr3 =>
      some vr3)
      ((z962 qx qx1 qx3).bind fun vx1 =>
      gd (decide (0 ≤ (imin vx1 (IntKind.wrap .i64 ((qx.length : Int) + 1)))) && decide ((imin vx1 (IntKind.wrap .i64 ((qx.length : Int) + 1))) ≤ (imin vx1 (IntKind.wrap .i64 ((qx.length : Int) + 1)))) && decide ((imin vx1 (IntKind.wrap .i64 ((qx.length : Int) + 1))) ≤ 137438953472)) <|
      (loopO (z966 qx qx1 qx2 vx1) (qx, List.replicate (imin vx1 (IntKind.wrap .i64 ((qx.length : Int) + 1))).toNat ([] : List UInt8), 0)).bind fun (vx5_1, vx6_1, vx7_1) =>
      (at? vx6_1 vx7_1).bind fun vy2 =>
      gd (decide (0 ≤ (IntKind.wrap .i64 (vx7_1 + 1))) && decide ((IntKind.wrap .i64 (vx7_1 + 1)) ≤ ((vx6_1.set vx7_1.toNat vx5_1).length : Int))) <|
      some ((vx6_1.set vx7_1.toNat vx5_1).take (IntKind.wrap .i64 (vx7_1 + 1)).toNat)))

/-! ### strings.Split -/
noncomputable def z936 (qs : List UInt8) (qsep : List UInt8) : Option ((List (List UInt8))) :=
  (z959 qs qsep 0 (-1)).bind fun vr =>
  some vr

/-! ### beaconfleet/fleetref2.PropName$1 -/
noncomputable def z412 (qk : List UInt8) : Option (Bool) :=
  (z320 qk).bind fun vr3 =>
  some (!vr3)

/-! ### slices.IndexFunc[[]string,string] -/
noncomputable def z732 (qs : List (List UInt8)) (vx : Int) : Option ((Int) ⊕ (Unit ⊕ Int)) :=
  cond (decide (vx < (qs.length : Int)))
    ((at? qs vx).bind fun vy1 =>
    (z412 vy1).bind fun vr1 =>
    cond (vr1)
      (some (.inr (.inr vx)))
      (some (.inl (IntKind.wrap .i64 (vx + 1)))))
    (some (.inr (.inl ())))

noncomputable def z729 (qs : List (List UInt8)) : Option (Int) :=
  (loopO (z732 qs) 0).bind fun x => match x with
    | .inl _ =>
      some (-1)
    | .inr vx1_1 =>
      some vx1_1

/-! ### slices.ContainsFunc[[]string,string] -/
noncomputable def z652 (qs : List (List UInt8)) : Option (Bool) :=
  (z729 qs).bind fun vr2 =>
  some (decide (0 ≤ vr2))

/-! ### beaconfleet/fleetref2.PropName -/
noncomputable def z417 (vr1 : List (List UInt8)) : Option (Bool) :=
  cond (decide ((vr1.length : Int) ≤ 8))
    ((z652 vr1).bind fun vr =>
    some (!vr))
    (some false)

noncomputable def z411 (qs : List UInt8) : Option (Bool) :=
  (z936 qs ([46] : List UInt8)).bind fun vr1 =>
  (z417 vr1).bind fun vx1 =>
  some vx1

/-! ### beaconfleet/fleetref2.ValueFault -/
noncomputable def z471 (qv : api_Value) : Option (api_Value) :=
  cond (decide (qv.Kind = 1))
    (some (api_Value.mk qv.Kind qv.Flag 0 ([] : List UInt8)))
    (cond (decide (qv.Kind = 2))
      (some (api_Value.mk qv.Kind false qv.Number ([] : List UInt8)))
      (cond (decide (qv.Kind = 3))
        (some (api_Value.mk qv.Kind false 0 qv.Words))
        (some (api_Value.mk qv.Kind false 0 ([] : List UInt8)))))

noncomputable def z468 (qv : api_Value) : Option (Int) :=
  (z527 qv.Kind 0 3).bind fun vr =>
  cond (!vr)
    (some 4)
    ((z471 qv).bind fun vplain1 =>
    cond (!(decide (vplain1.Kind = qv.Kind) && ((vplain1.Flag == qv.Flag) && (decide (vplain1.Number = qv.Number) && (decide (vplain1.Words = qv.Words) && true)))))
      (some 3)
      ((z527 qv.Number (-1000000000) 1000000000).bind fun vr1 =>
      cond (!vr1)
        (some 1)
        (cond (decide (1000 < (qv.Words.length : Int)))
          (some 2)
          ((z397 qv.Words).bind fun vr2 =>
          cond (!vr2)
            (some 3)
            (some 0)))))

/-! ### beaconfleet/fleetref2.StampFault -/
noncomputable def z448 (qs : api_Stamp) : Option (Int) :=
  (z350 qs.At).bind fun vr1 =>
  cond (!vr1)
    (some 1)
    ((z320 qs.By).bind fun vr3 =>
    cond (!vr3)
      (some 5)
      ((z527 qs.No 0 1000000000).bind fun vr =>
      cond (!vr)
        (some 1)
        (some 0)))

/-! ### beaconfleet/fleetref2.CellsFault -/
noncomputable def z281 (vr3_1 : Int) (vr2_3 : Int) (vx4 : Int) : Option ((Int) ⊕ (Unit ⊕ Int)) :=
  cond (decide (vx4 < (([vr3_1, vr2_3] : List Int).length : Int)))
    ((at? ([vr3_1, vr2_3] : List Int) vx4).bind fun vy6 =>
    cond (!decide (vy6 = 0))
      (some (.inr (.inr vy6)))
      (some (.inl (IntKind.wrap .i64 (vx4 + 1)))))
    (some (.inr (.inl ())))

noncomputable def z286 (ql : List api_Cell) (vx : Int) (vy4 : api_Cell) : Option (Bool) :=
  cond (decide (0 < vx))
    ((at? ql (IntKind.wrap .i64 (vx - 1))).bind fun vy7 =>
    some (Op.bytesLess vy4.Prop_.Name vy7.Prop_.Name || decide (vy4.Prop_.Name = vy7.Prop_.Name)))
    (some false)

noncomputable def z276 (ql : List api_Cell) (vx : Int) : Option ((Int) ⊕ (Unit ⊕ Int)) :=
  cond (decide (vx < (ql.length : Int)))
    ((at? ql vx).bind fun vy4 =>
    (z411 vy4.Prop_.Name).bind fun vr2_2 =>
    cond (!vr2_2)
      (some (.inr (.inr 5)))
      ((z468 (api_Value.mk vy4.Prop_.Value.Kind vy4.Prop_.Value.Flag vy4.Prop_.Value.Number vy4.Prop_.Value.Words)).bind fun vr3_1 =>
      (z448 (api_Stamp.mk vy4.Stamp.At vy4.Stamp.By vy4.Stamp.No)).bind fun vr2_3 =>
      (loopO (z281 vr3_1 vr2_3) 0).bind fun x => match x with
        | .inl _ =>
          (z286 ql vx vy4).bind fun vx6_1 =>
          cond (vx6_1)
            (some (.inr (.inr 7)))
            (some (.inl (IntKind.wrap .i64 (vx + 1))))
        | .inr vx5_1 =>
          some (.inr (.inr vx5_1))))
    (some (.inr (.inl ())))

noncomputable def z273 (ql : List api_Cell) : Option (Int) :=
  cond (decide (500 < (ql.length : Int)))
    (some 2)
    ((loopO (z276 ql) 0).bind fun x => match x with
      | .inl _ =>
        some 0
      | .inr vx7_1 =>
        some vx7_1)

/-! ### beaconfleet/fleetref2.TwinFault -/
noncomputable def z465 (qt : api_Twin) : Option (Int) :=
  (z273 qt.Desired).bind fun vr =>
  cond (!decide (vr = 0))
    (some vr)
    ((z273 qt.Reported).bind fun vr1 =>
    some vr1)

/-! ### beaconfleet/fleetref2.valued -/
noncomputable def z558 (qc : api_Cell) : Option (Unit) :=
  some ()

/-! ### beaconfleet/fleetref2.StampOrder -/
noncomputable def z451 (qa : api_Stamp) (qb : api_Stamp) : Option (Int) :=
  cond (!decide (qa.At = qb.At))
    ((z555 (IntKind.wrap .i64 (qa.At - qb.At))).bind fun vr =>
    some vr)
    (cond (!decide (qa.By = qb.By))
      ((z905 qa.By qb.By).bind fun _ =>
      some (Lib.compareBytes qa.By qb.By))
      ((z555 (IntKind.wrap .i64 (qa.No - qb.No))).bind fun vr1 =>
      some vr1))

/-! ### internal/stringslite.HasPrefix -/
noncomputable def z985 (qs : List UInt8) (qprefix : List UInt8) : Option (Bool) :=
  cond (decide ((qprefix.length : Int) ≤ (qs.length : Int)))
    ((sub? qs 0 (qprefix.length : Int)).bind fun vs =>
    some (decide (vs = qprefix)))
    (some false)

noncomputable def z982 (qs : List UInt8) (qprefix : List UInt8) : Option (Bool) :=
  (z985 qs qprefix).bind fun vx1 =>
  some vx1

/-! ### strings.HasPrefix -/
noncomputable def z922 (qs : List UInt8) (qprefix : List UInt8) : Option (Bool) :=
  (z982 qs qprefix).bind fun vr =>
  some vr

/-! ### beaconfleet/fleetref2.above -/
noncomputable def z507 (qa : List UInt8) (qb : List UInt8) : Option (Bool) :=
  gd (Nat.ble (qa.length + ([46] : List UInt8).length) LIM) <|
  (z922 qb (qa ++ ([46] : List UInt8))).bind fun vr1 =>
  some vr1

/-! ### beaconfleet/fleetref2.hides -/
noncomputable def z519 (qa : api_Cell) (qb : api_Cell) (vr2 : Int) : Option (Bool) :=
  cond (decide (0 < vr2))
    (some true)
    (cond (decide (vr2 = 0))
      ((z558 (api_Cell.mk (api_Prop.mk qa.Prop_.Name (api_Value.mk qa.Prop_.Value.Kind qa.Prop_.Value.Flag qa.Prop_.Value.Number qa.Prop_.Value.Words)) (api_Stamp.mk qa.Stamp.At qa.Stamp.By qa.Stamp.No))).bind fun _ =>
      cond (!decide (qa.Prop_.Value.Kind = 0))
        ((z558 (api_Cell.mk (api_Prop.mk qb.Prop_.Name (api_Value.mk qb.Prop_.Value.Kind qb.Prop_.Value.Flag qb.Prop_.Value.Number qb.Prop_.Value.Words)) (api_Stamp.mk qb.Stamp.At qb.Stamp.By qb.Stamp.No))).bind fun _ =>
        some (!decide (qb.Prop_.Value.Kind = 0)))
        (some false))
      (some false))

noncomputable def z523 (qb : api_Cell) (vr2 : Int) : Option (Bool) :=
  cond (decide (0 < vr2))
    ((z558 (api_Cell.mk (api_Prop.mk qb.Prop_.Name (api_Value.mk qb.Prop_.Value.Kind qb.Prop_.Value.Flag qb.Prop_.Value.Number qb.Prop_.Value.Words)) (api_Stamp.mk qb.Stamp.At qb.Stamp.By qb.Stamp.No))).bind fun _ =>
    some (!decide (qb.Prop_.Value.Kind = 0)))
    (some false)

noncomputable def z516 (qa : api_Cell) (qb : api_Cell) : Option (Bool) :=
  (z451 (api_Stamp.mk qa.Stamp.At qa.Stamp.By qa.Stamp.No) (api_Stamp.mk qb.Stamp.At qb.Stamp.By qb.Stamp.No)).bind fun vr2 =>
  (z507 qa.Prop_.Name qb.Prop_.Name).bind fun vr =>
  cond (vr)
    ((z519 qa qb vr2).bind fun vx1 =>
    some vx1)
    ((z507 qb.Prop_.Name qa.Prop_.Name).bind fun vr1 =>
    cond (vr1)
      ((z523 qb vr2).bind fun vx2_1 =>
      some vx2_1)
      (some false))

/-! ### beaconfleet/fleetref2.hidden$1 -/
noncomputable def z511 (qo : api_Cell) (qx : api_Cell) : Option (Bool) :=
  (z516 (api_Cell.mk (api_Prop.mk qo.Prop_.Name (api_Value.mk qo.Prop_.Value.Kind qo.Prop_.Value.Flag qo.Prop_.Value.Number qo.Prop_.Value.Words)) (api_Stamp.mk qo.Stamp.At qo.Stamp.By qo.Stamp.No)) (api_Cell.mk (api_Prop.mk qx.Prop_.Name (api_Value.mk qx.Prop_.Value.Kind qx.Prop_.Value.Flag qx.Prop_.Value.Number qx.Prop_.Value.Words)) (api_Stamp.mk qx.Stamp.At qx.Stamp.By qx.Stamp.No))).bind fun vr3 =>
  some vr3

/-! ### slices.IndexFunc[[]beaconfleet/api.Cell,beaconfleet/api.Cell] -/
noncomputable def z692 (qs : List api_Cell) (qf : api_Cell) (vx : Int) : Option ((Int) ⊕ (Unit ⊕ Int)) :=
  cond (decide (vx < (qs.length : Int)))
    ((at? qs vx).bind fun vy1 =>
    (z511 (api_Cell.mk (api_Prop.mk vy1.Prop_.Name (api_Value.mk vy1.Prop_.Value.Kind vy1.Prop_.Value.Flag vy1.Prop_.Value.Number vy1.Prop_.Value.Words)) (api_Stamp.mk vy1.Stamp.At vy1.Stamp.By vy1.Stamp.No)) (api_Cell.mk (api_Prop.mk qf.Prop_.Name (api_Value.mk qf.Prop_.Value.Kind qf.Prop_.Value.Flag qf.Prop_.Value.Number qf.Prop_.Value.Words)) (api_Stamp.mk qf.Stamp.At qf.Stamp.By qf.Stamp.No))).bind fun vr1 =>
    cond (vr1)
      (some (.inr (.inr vx)))
      (some (.inl (IntKind.wrap .i64 (vx + 1)))))
    (some (.inr (.inl ())))

noncomputable def z689 (qs : List api_Cell) (qf : api_Cell) : Option (Int) :=
  (loopO (z692 qs qf) 0).bind fun x => match x with
    | .inl _ =>
      some (-1)
    | .inr vx1_1 =>
      some vx1_1

/-! ### slices.ContainsFunc[[]beaconfleet/api.Cell,beaconfleet/api.Cell] -/
noncomputable def z637 (qs : List api_Cell) (qf : api_Cell) : Option (Bool) :=
  (z689 qs (api_Cell.mk (api_Prop.mk qf.Prop_.Name (api_Value.mk qf.Prop_.Value.Kind qf.Prop_.Value.Flag qf.Prop_.Value.Number qf.Prop_.Value.Words)) (api_Stamp.mk qf.Stamp.At qf.Stamp.By qf.Stamp.No))).bind fun vr2 =>
  some (decide (0 ≤ vr2))

/-! ### beaconfleet/fleetref2.hidden -/
noncomputable def z510 (ql : List api_Cell) (qc : api_Cell) : Option (Bool) :=
  (z637 ql (api_Cell.mk (api_Prop.mk qc.Prop_.Name (api_Value.mk qc.Prop_.Value.Kind qc.Prop_.Value.Flag qc.Prop_.Value.Number qc.Prop_.Value.Words)) (api_Stamp.mk qc.Stamp.At qc.Stamp.By qc.Stamp.No))).bind fun vr =>
  some vr

/-! ### beaconfleet/fleetref2.VisibleOf -/
noncomputable def z503 (ql : List api_Cell) (vy1 : api_Cell) : Option (Bool) :=
  (z558 (api_Cell.mk (api_Prop.mk vy1.Prop_.Name (api_Value.mk vy1.Prop_.Value.Kind vy1.Prop_.Value.Flag vy1.Prop_.Value.Number vy1.Prop_.Value.Words)) (api_Stamp.mk vy1.Stamp.At vy1.Stamp.By vy1.Stamp.No))).bind fun _ =>
  cond (!decide (vy1.Prop_.Value.Kind = 0))
    ((z510 ql (api_Cell.mk (api_Prop.mk vy1.Prop_.Name (api_Value.mk vy1.Prop_.Value.Kind vy1.Prop_.Value.Flag vy1.Prop_.Value.Number vy1.Prop_.Value.Words)) (api_Stamp.mk vy1.Stamp.At vy1.Stamp.By vy1.Stamp.No))).bind fun vr1_1 =>
    some (!vr1_1))
    (some false)

noncomputable def z499 (ql : List api_Cell) (vout : List api_Prop) (vx : Int) : Option ((List api_Prop)) :=
  (at? ql vx).bind fun vy1 =>
  (z503 ql vy1).bind fun vx2_1 =>
  cond (vx2_1)
    (gd (Nat.ble (vout.length + ([api_Prop.mk vy1.Prop_.Name (api_Value.mk vy1.Prop_.Value.Kind vy1.Prop_.Value.Flag vy1.Prop_.Value.Number vy1.Prop_.Value.Words)] : List api_Prop).length) LIM) <|
    some (vout ++ ([api_Prop.mk vy1.Prop_.Name (api_Value.mk vy1.Prop_.Value.Kind vy1.Prop_.Value.Flag vy1.Prop_.Value.Number vy1.Prop_.Value.Words)] : List api_Prop)))
    (some vout)

noncomputable def z494 (ql : List api_Cell) : (List api_Prop) × Int → Option (((List api_Prop) × Int) ⊕ ((List api_Prop)))
  | (vout, vx) =>
  cond (decide (vx < (ql.length : Int)))
    ((z499 ql vout vx).bind fun vout2_1 =>
    some (.inl (vout2_1, IntKind.wrap .i64 (vx + 1))))
    (some (.inr vout))

noncomputable def z491 (ql : List api_Cell) : Option ((List api_Prop)) :=
  (loopO (z494 ql) ([], 0)).bind fun vout3_1 =>
  some vout3_1

/-! ### beaconfleet/fleetref2.namesOf -/
noncomputable def z542 (vy3 : List api_Prop) : (List (List UInt8)) × Int → Option (((List (List UInt8)) × Int) ⊕ ((List (List UInt8))))
  | (vout3, vx2) =>
  cond (decide (vx2 < (vy3.length : Int)))
    ((at? vy3 vx2).bind fun vy5 =>
    gd (Nat.ble (vout3.length + ([vy5.Name] : List (List UInt8)).length) LIM) <|
    some (.inl (vout3 ++ ([vy5.Name] : List (List UInt8)), IntKind.wrap .i64 (vx2 + 1))))
    (some (.inr vout3))

noncomputable def z537 (qlists : List (List api_Prop)) : (List (List UInt8)) × Int → Option (((List (List UInt8)) × Int) ⊕ ((List (List UInt8))))
  | (vout, vx) =>
  cond (decide (vx < (qlists.length : Int)))
    ((at? qlists vx).bind fun vy3 =>
    (loopO (z542 vy3) (vout, 0)).bind fun vout4_1 =>
    some (.inl (vout4_1, IntKind.wrap .i64 (vx + 1))))
    (some (.inr vout))

noncomputable def z534 (qlists : List (List api_Prop)) : Option ((List (List UInt8))) :=
  (loopO (z537 qlists) ([], 0)).bind fun vout5_1 =>
  (z757 vout5_1).bind fun vl =>
  gd (vl.length == vout5_1.length) <|
  (z604 vl).bind fun vr =>
  some vr

/-! ### beaconfleet/fleetref2.ValueOf -/
noncomputable def z486 (ql : List api_Prop) (qname : List UInt8) (vx : Int) : Option ((Int) ⊕ (Unit ⊕ api_Value)) :=
  cond (decide (vx < (ql.length : Int)))
    ((at? ql vx).bind fun vy1 =>
    cond (decide (vy1.Name = qname))
      (some (.inr (.inr (api_Value.mk vy1.Value.Kind vy1.Value.Flag vy1.Value.Number vy1.Value.Words))))
      (some (.inl (IntKind.wrap .i64 (vx + 1)))))
    (some (.inr (.inl ())))

noncomputable def z475 (ql : List api_Prop) (qname : List UInt8) : Option (api_Value) :=
  (loopO (z486 ql qname) 0).bind fun x => match x with
    | .inl _ =>
      some (api_Value.mk 0 false 0 ([] : List UInt8))
    | .inr vx1_1 =>
      some vx1_1

/-! ### beaconfleet/fleetref2.OwedOf -/
noncomputable def z370 (qx : api_Twin) (vy5 : api_Prop) (vy7 : api_Cell) : Option (Bool) :=
  (z558 (api_Cell.mk (api_Prop.mk vy7.Prop_.Name (api_Value.mk vy7.Prop_.Value.Kind vy7.Prop_.Value.Flag vy7.Prop_.Value.Number vy7.Prop_.Value.Words)) (api_Stamp.mk vy7.Stamp.At vy7.Stamp.By vy7.Stamp.No))).bind fun _ =>
  cond (!(!decide (vy7.Prop_.Value.Kind = 0)))
    ((z510 qx.Desired (api_Cell.mk (api_Prop.mk vy7.Prop_.Name (api_Value.mk vy7.Prop_.Value.Kind vy7.Prop_.Value.Flag vy7.Prop_.Value.Number vy7.Prop_.Value.Words)) (api_Stamp.mk vy7.Stamp.At vy7.Stamp.By vy7.Stamp.No))).bind fun vr1_4 =>
    cond (!vr1_4)
      (cond (decide (vy7.Prop_.Name = vy5.Name))
        (some true)
        ((z507 vy7.Prop_.Name vy5.Name).bind fun vr7 =>
        some vr7))
      (some false))
    (some false)

noncomputable def z366 (qx : api_Twin) (vy5 : api_Prop) (vm9 : List (List UInt8 × api_Value)) (vx5 : Int) : Option ((List (List UInt8 × api_Value))) :=
  (at? qx.Desired vx5).bind fun vy7 =>
  (z370 qx vy5 vy7).bind fun vx7_1 =>
  cond (vx7_1)
    (some (aput vm9 vy5.Name (api_Value.mk 0 false 0 ([] : List UInt8))))
    (some vm9)

noncomputable def z361 (qx : api_Twin) (vy5 : api_Prop) : (List (List UInt8 × api_Value)) × Int → Option (((List (List UInt8 × api_Value)) × Int) ⊕ ((List (List UInt8 × api_Value))))
  | (vm9, vx5) =>
  cond (decide (vx5 < (qx.Desired.length : Int)))
    ((z366 qx vy5 vm9 vx5).bind fun vm11_1 =>
    some (.inl (vm11_1, IntKind.wrap .i64 (vx5 + 1))))
    (some (.inr vm9))

noncomputable def z379 (vr : List api_Prop) (vy5 : api_Prop) (vm13 : List (List UInt8 × api_Value)) (vx8 : Int) : Option ((List (List UInt8 × api_Value))) :=
  (at? vr vx8).bind fun vy9 =>
  (z507 vy5.Name vy9.Name).bind fun vr9 =>
  cond (vr9)
    (some (aput vm13 vy5.Name (api_Value.mk 0 false 0 ([] : List UInt8))))
    (some vm13)

noncomputable def z374 (vr : List api_Prop) (vy5 : api_Prop) : (List (List UInt8 × api_Value)) × Int → Option (((List (List UInt8 × api_Value)) × Int) ⊕ ((List (List UInt8 × api_Value))))
  | (vm13, vx8) =>
  cond (decide (vx8 < (vr.length : Int)))
    ((z379 vr vy5 vm13 vx8).bind fun vm15_1 =>
    some (.inl (vm15_1, IntKind.wrap .i64 (vx8 + 1))))
    (some (.inr vm13))

noncomputable def z356 (qx : api_Twin) (vr : List api_Prop) (vr1 : List api_Prop) : (List (List UInt8 × api_Value)) × Int → Option (((List (List UInt8 × api_Value)) × Int) ⊕ ((List (List UInt8 × api_Value))))
  | (vm, vx) =>
  cond (decide (vx < (vr1.length : Int)))
    ((at? vr1 vx).bind fun vy5 =>
    (loopO (z361 qx vy5) (aput vm vy5.Name (api_Value.mk vy5.Value.Kind vy5.Value.Flag vy5.Value.Number vy5.Value.Words), 0)).bind fun vm12_1 =>
    (loopO (z374 vr vy5) (vm12_1, 0)).bind fun vm16_1 =>
    some (.inl (vm16_1, IntKind.wrap .i64 (vx + 1))))
    (some (.inr vm))

noncomputable def z383 (vr : List api_Prop) : (List (List UInt8 × api_Value)) × Int → Option (((List (List UInt8 × api_Value)) × Int) ⊕ ((List (List UInt8 × api_Value))))
  | (vm18, vx9) =>
  cond (decide (vx9 < (vr.length : Int)))
    ((at? vr vx9).bind fun vy11 =>
    some (.inl (aput vm18 vy11.Name (api_Value.mk vy11.Value.Kind vy11.Value.Flag vy11.Value.Number vy11.Value.Words), IntKind.wrap .i64 (vx9 + 1))))
    (some (.inr vm18))

noncomputable def z393 (vr1 : List api_Prop) (vm19_1 : List (List UInt8 × api_Value)) (vr1_5 : List (List UInt8)) (vx10 : List api_Change) (vx11 : Int) : Option ((List api_Change)) :=
  (at? vr1_5 vx11).bind fun vy13 =>
  (some ((aget vm19_1 vy13).getD (api_Value.mk 0 false 0 ([] : List UInt8)))).bind fun ve1 =>
  (z475 vr1 vy13).bind fun vr11 =>
  cond (!(decide (ve1.Kind = vr11.Kind) && ((ve1.Flag == vr11.Flag) && (decide (ve1.Number = vr11.Number) && (decide (ve1.Words = vr11.Words) && true)))))
    (gd (Nat.ble (vx10.length + ([api_Change.mk vy13 vr11 ve1] : List api_Change).length) LIM) <|
    some (vx10 ++ ([api_Change.mk vy13 vr11 ve1] : List api_Change)))
    (some vx10)

noncomputable def z388 (vr1 : List api_Prop) (vm19_1 : List (List UInt8 × api_Value)) (vr1_5 : List (List UInt8)) : (List api_Change) × Int → Option (((List api_Change) × Int) ⊕ ((List api_Change)))
  | (vx10, vx11) =>
  cond (decide (vx11 < (vr1_5.length : Int)))
    ((z393 vr1 vm19_1 vr1_5 vx10 vx11).bind fun vx13_1 =>
    some (.inl (vx13_1, IntKind.wrap .i64 (vx11 + 1))))
    (some (.inr vx10))

noncomputable def z353 (qx : api_Twin) : Option ((List api_Change)) :=
  (z491 qx.Desired).bind fun vr =>
  (z491 qx.Reported).bind fun vr1 =>
  (loopO (z356 qx vr vr1) (([] : List (List UInt8 × api_Value)), 0)).bind fun vm17_1 =>
  (loopO (z383 vr) (vm17_1, 0)).bind fun vm19_1 =>
  (z534 ([vr, vr1] : List (List api_Prop))).bind fun vr1_5 =>
  (loopO (z388 vr1 vm19_1 vr1_5) ([], 0)).bind fun vx14_1 =>
  some vx14_1

/-! ### slices.Equal[[]beaconfleet/api.Change,beaconfleet/api.Change] -/
noncomputable def z669 (qs1 : List api_Change) (qs2 : List api_Change) (vx : Int) : Option ((Int) ⊕ (Unit ⊕ Unit)) :=
  cond (decide (vx < (qs1.length : Int)))
    ((at? qs1 vx).bind fun vy2 =>
    (at? qs2 vx).bind fun vy3 =>
    cond (!(decide (vy2.Name = vy3.Name) && ((decide (vy2.From.Kind = vy3.From.Kind) && ((vy2.From.Flag == vy3.From.Flag) && (decide (vy2.From.Number = vy3.From.Number) && (decide (vy2.From.Words = vy3.From.Words) && true)))) && ((decide (vy2.To.Kind = vy3.To.Kind) && ((vy2.To.Flag == vy3.To.Flag) && (decide (vy2.To.Number = vy3.To.Number) && (decide (vy2.To.Words = vy3.To.Words) && true)))) && true))))
      (some (.inr (.inr ())))
      (some (.inl (IntKind.wrap .i64 (vx + 1)))))
    (some (.inr (.inl ())))

noncomputable def z666 (qs1 : List api_Change) (qs2 : List api_Change) : Option (Bool) :=
  cond (!decide ((qs1.length : Int) = (qs2.length : Int)))
    (some false)
    ((loopO (z669 qs1 qs2) 0).bind fun x => match x with
      | .inl _ =>
        some true
      | .inr _ =>
        some false)

/-! ### slices.Clone[[]beaconfleet/api.Prop,beaconfleet/api.Prop] -/
noncomputable def z584 (qs : List api_Prop) : Option (List api_Prop) :=
  gd (Nat.ble (([] : List api_Prop).length + qs.length) LIM) (some qs)

/-! ### beaconfleet/fleetmake.propOrder -/
noncomputable def z270 (qa : api_Prop) (qb : api_Prop) : Option (Unit) :=
  (z905 qa.Name qb.Name).bind fun _ =>
  some ()

/-! ### slices.insertionSortCmpFunc[beaconfleet/api.Prop] -/
noncomputable def z824 (qa : Int) (vl3 : List api_Prop) (vj1 : Int) : Option (Bool) :=
  cond (decide (qa < vj1))
    ((at? vl3 vj1).bind fun vy15 =>
    (at? vl3 (IntKind.wrap .i64 (vj1 - 1))).bind fun vy16 =>
    (z270 (api_Prop.mk vy15.Name (api_Value.mk vy15.Value.Kind vy15.Value.Flag vy15.Value.Number vy15.Value.Words)) (api_Prop.mk vy16.Name (api_Value.mk vy16.Value.Kind vy16.Value.Flag vy16.Value.Number vy16.Value.Words))).bind fun _ =>
    some (decide ((Lib.compareBytes vy15.Name vy16.Name) < 0)))
    (some false)

noncomputable def z819 (qa : Int) : (List api_Prop) × Int → Option (((List api_Prop) × Int) ⊕ ((List api_Prop)))
  | (vl3, vj1) =>
  (z824 qa vl3 vj1).bind fun vx4_1 =>
  cond (vx4_1)
    ((at? vl3 (IntKind.wrap .i64 (vj1 - 1))).bind fun vy17 =>
    (at? vl3 vj1).bind fun vy18 =>
    (at? (vl3.set vj1.toNat (api_Prop.mk vy17.Name (api_Value.mk vy17.Value.Kind vy17.Value.Flag vy17.Value.Number vy17.Value.Words))) (IntKind.wrap .i64 (vj1 - 1))).bind fun vy19 =>
    some (.inl ((vl3.set vj1.toNat (api_Prop.mk vy17.Name (api_Value.mk vy17.Value.Kind vy17.Value.Flag vy17.Value.Number vy17.Value.Words))).set (IntKind.wrap .i64 (vj1 - 1)).toNat (api_Prop.mk vy18.Name (api_Value.mk vy18.Value.Kind vy18.Value.Flag vy18.Value.Number vy18.Value.Words)), IntKind.wrap .i64 (vj1 - 1))))
    (some (.inr vl3))

noncomputable def z814 (qa : Int) (qb : Int) : (List api_Prop) × Int → Option (((List api_Prop) × Int) ⊕ ((List api_Prop)))
  | (vl, vi) =>
  cond (decide (vi < qb))
    ((loopO (z819 qa) (vl, vi)).bind fun vl4_1 =>
    some (.inl (vl4_1, IntKind.wrap .i64 (vi + 1))))
    (some (.inr vl))

noncomputable def z811 (qdata : List api_Prop) (qa : Int) (qb : Int) : Option ((List api_Prop)) :=
  (loopO (z814 qa qb) (qdata, IntKind.wrap .i64 (qa + 1))).bind fun vl5_1 =>
  some vl5_1

/-! ### slices.pdqsortCmpFunc[beaconfleet/api.Prop] -/
noncomputable def z856 (qx : List api_Prop) (qx1 : Int) (qx2 : Int) (qx3 : Int) : Unit → Option ((Unit) ⊕ ((List api_Prop)))
  | _ =>
  cond (decide ((IntKind.wrap .i64 (qx2 - qx1)) ≤ 12))
    ((z811 qx qx1 qx2).bind fun vl6_1 =>
    gd (vl6_1.length == qx.length) <|
    some (.inr vl6_1))
    (cond (decide (qx3 = 0))
      (none)
      (none))

noncomputable def z853 (qx : List api_Prop) (qx1 : Int) (qx2 : Int) (qx3 : Int) : Option ((List api_Prop)) :=
  (loopO (z856 qx qx1 qx2 qx3) ()).bind fun vl1 =>
  some vl1

/-! ### slices.SortFunc[[]beaconfleet/api.Prop,beaconfleet/api.Prop] -/
noncomputable def z748 (qx : List api_Prop) : Option ((List api_Prop)) :=
  (bits_Len (IntKind.wrap .u64 ((qx.length : Int)))).bind fun vr1 =>
  (z853 qx 0 (qx.length : Int) vr1).bind fun vl2 =>
  gd (vl2.length == qx.length) <|
  some vl2

/-! ### beaconfleet/fleetref2.PropsFault$1 -/
noncomputable def z422 (qq : api_Prop) (qx : api_Prop) : Option (Bool) :=
  (z507 qq.Name qx.Name).bind fun vr =>
  some vr

/-! ### slices.IndexFunc[[]beaconfleet/api.Prop,beaconfleet/api.Prop] -/
noncomputable def z716 (qs : List api_Prop) (qf : api_Prop) (vx : Int) : Option ((Int) ⊕ (Unit ⊕ Int)) :=
  cond (decide (vx < (qs.length : Int)))
    ((at? qs vx).bind fun vy1 =>
    (z422 (api_Prop.mk vy1.Name (api_Value.mk vy1.Value.Kind vy1.Value.Flag vy1.Value.Number vy1.Value.Words)) (api_Prop.mk qf.Name (api_Value.mk qf.Value.Kind qf.Value.Flag qf.Value.Number qf.Value.Words))).bind fun vr1_1 =>
    cond (vr1_1)
      (some (.inr (.inr vx)))
      (some (.inl (IntKind.wrap .i64 (vx + 1)))))
    (some (.inr (.inl ())))

noncomputable def z713 (qs : List api_Prop) (qf : api_Prop) : Option (Int) :=
  (loopO (z716 qs qf) 0).bind fun x => match x with
    | .inl _ =>
      some (-1)
    | .inr vx1_1 =>
      some vx1_1

/-! ### slices.ContainsFunc[[]beaconfleet/api.Prop,beaconfleet/api.Prop] -/
noncomputable def z646 (qs : List api_Prop) (qf : api_Prop) : Option (Bool) :=
  (z713 qs (api_Prop.mk qf.Name (api_Value.mk qf.Value.Kind qf.Value.Flag qf.Value.Number qf.Value.Words))).bind fun vr =>
  some (decide (0 ≤ vr))

/-! ### beaconfleet/fleetref2.PropsFault -/
noncomputable def z432 (ql : List api_Prop) (vx : Int) (vy2 : api_Prop) : Option (Bool) :=
  cond (decide (0 < vx))
    ((at? ql (IntKind.wrap .i64 (vx - 1))).bind fun vy3 =>
    some (Op.bytesLess vy2.Name vy3.Name || decide (vy2.Name = vy3.Name)))
    (some false)

noncomputable def z427 (ql : List api_Prop) (vx : Int) : Option ((Int) ⊕ (Unit ⊕ Int)) :=
  cond (decide (vx < (ql.length : Int)))
    ((at? ql vx).bind fun vy2 =>
    (z411 vy2.Name).bind fun vr2_1 =>
    cond (!vr2_1)
      (some (.inr (.inr 5)))
      ((z468 (api_Value.mk vy2.Value.Kind vy2.Value.Flag vy2.Value.Number vy2.Value.Words)).bind fun vr3_1 =>
      cond (!decide (vr3_1 = 0))
        (some (.inr (.inr vr3_1)))
        (cond (decide (vy2.Value.Kind = 0))
          (some (.inr (.inr 4)))
          ((z432 ql vx vy2).bind fun vx2_1 =>
          cond (vx2_1)
            (some (.inr (.inr 7)))
            (some (.inl (IntKind.wrap .i64 (vx + 1))))))))
    (some (.inr (.inl ())))

noncomputable def z436 (ql : List api_Prop) (vx4 : Int) : Option ((Int) ⊕ (Unit ⊕ Unit)) :=
  cond (decide (vx4 < (ql.length : Int)))
    ((at? ql vx4).bind fun vy5 =>
    (z646 ql (api_Prop.mk vy5.Name (api_Value.mk vy5.Value.Kind vy5.Value.Flag vy5.Value.Number vy5.Value.Words))).bind fun vr1_1 =>
    cond (vr1_1)
      (some (.inr (.inr ())))
      (some (.inl (IntKind.wrap .i64 (vx4 + 1)))))
    (some (.inr (.inl ())))

noncomputable def z421 (ql : List api_Prop) : Option (Int) :=
  cond (decide (500 < (ql.length : Int)))
    (some 2)
    ((loopO (z427 ql) 0).bind fun x => match x with
      | .inl _ =>
        (loopO (z436 ql) 0).bind fun x => match x with
          | .inl _ =>
            some 0
          | .inr _ =>
            some 13
      | .inr vx3_1 =>
        some vx3_1)

/-! ### (*beaconfleet/fleetmake.Stream).RightProps -/
noncomputable def z237 (vs1 : z177) (vout : List api_Prop) : Option ((List api_Prop)) :=
  (z584 vout).bind fun vr5 =>
  (z247 vs1 ([([97] : List UInt8), ([97, 46, 120] : List UInt8), ([97, 46, 121] : List UInt8), ([97, 46, 120, 46, 112] : List UInt8), ([98] : List UInt8), ([98, 46, 122] : List UInt8), ([97, 98] : List UInt8)] : List (List UInt8))).bind fun vr6 =>
  (z244 (z177.mk vs1.L (IntKind.wrap .i64 (vs1.at_ + 1)))).bind fun vr4_1 =>
  gd (Nat.ble (vr5.length + ([api_Prop.mk vr6 vr4_1] : List api_Prop).length) LIM) <|
  (z748 (vr5 ++ ([api_Prop.mk vr6 vr4_1] : List api_Prop))).bind fun vl1 =>
  gd (vl1.length == (vr5 ++ ([api_Prop.mk vr6 vr4_1] : List api_Prop)).length) <|
  (z421 vl1).bind fun vr7 =>
  cond (decide (vr7 = 0))
    (some vl1)
    (some vout)

noncomputable def z232 (vr : Int) : z177 × (List api_Prop) × Int → Option ((z177 × (List api_Prop) × Int) ⊕ ((z177 × (List api_Prop))))
  | (vs1, vout, vx) =>
  cond (decide (vx < vr))
    ((z237 vs1 vout).bind fun vout2_1 =>
    some (.inl (z177.mk vs1.L (IntKind.wrap .i64 ((IntKind.wrap .i64 ((IntKind.wrap .i64 (vs1.at_ + 1)) + 1)) + 1)), vout2_1, IntKind.wrap .i64 (vx + 1))))
    (some (.inr (vs1, vout)))

noncomputable def z229 (qs : z177) : Option (z177 × (List api_Prop)) :=
  (z211 qs 0 5).bind fun (vs, vr) =>
  (loopO (z232 vr) (vs, [], 0)).bind fun (vs2_1, vout3_1) =>
  some (vs2_1, vout3_1)

/-! ### beaconfleet/fleetref2.ValueOf -/
noncomputable def z480 : Unit → Option ((Unit) ⊕ (Unit))
  | _ =>
  cond (decide ((0 : Int) < 0))
    (none)
    (some (.inr ()))

noncomputable def z477 (qname : List UInt8) : Option (Unit) :=
  (loopO z480 ()).bind fun _ =>
  some ()

/-! ### beaconfleet/fleetref2.DifferOf -/
noncomputable def z315 (qb : List api_Prop) (vr1 : List (List UInt8)) (vout : List api_Change) (vx : Int) : Option ((List api_Change)) :=
  (at? vr1 vx).bind fun vy1 =>
  (z477 vy1).bind fun _ =>
  (z475 qb vy1).bind fun vr2 =>
  cond (!(decide ((0 : Int) = vr2.Kind) && ((false == vr2.Flag) && (decide ((0 : Int) = vr2.Number) && (decide (([] : List UInt8) = vr2.Words) && true)))))
    (gd (Nat.ble (vout.length + ([api_Change.mk vy1 (api_Value.mk 0 false 0 ([] : List UInt8)) vr2] : List api_Change).length) LIM) <|
    some (vout ++ ([api_Change.mk vy1 (api_Value.mk 0 false 0 ([] : List UInt8)) vr2] : List api_Change)))
    (some vout)

noncomputable def z310 (qb : List api_Prop) (vr1 : List (List UInt8)) : (List api_Change) × Int → Option (((List api_Change) × Int) ⊕ ((List api_Change)))
  | (vout, vx) =>
  cond (decide (vx < (vr1.length : Int)))
    ((z315 qb vr1 vout vx).bind fun vout2_1 =>
    some (.inl (vout2_1, IntKind.wrap .i64 (vx + 1))))
    (some (.inr vout))

noncomputable def z307 (qb : List api_Prop) : Option ((List api_Change)) :=
  (z534 ([[], qb] : List (List api_Prop))).bind fun vr1 =>
  (loopO (z310 qb vr1) ([], 0)).bind fun vout3_1 =>
  some vout3_1

/-! ### (*beaconfleet/fleetmake.Stream).Changes -/
noncomputable def z192 (vs3 : z177) (vr3 : List api_Change) : Option ((z177 × Bool)) :=
  cond (decide (0 < (vr3.length : Int)))
    ((z196 vs3 5).bind fun vr =>
    some (z177.mk vs3.L (IntKind.wrap .i64 (vs3.at_ + 1)), vr))
    (some (vs3, false))

noncomputable def z188 (vs3 : z177) (vr3 : List api_Change) : Option ((z177 × (List api_Change))) :=
  (z192 vs3 vr3).bind fun (vs1, vx1) =>
  cond (vx1)
    ((z199 vs1 (vr3.length : Int)).bind fun vr3_1 =>
    (at? vr3 vr3_1).bind fun vy =>
    (z199 (z177.mk vs1.L (IntKind.wrap .i64 (vs1.at_ + 1))) 4).bind fun vr3_2 =>
    cond (decide (vr3_2 = 0))
      ((z208 (z177.mk vs1.L (IntKind.wrap .i64 ((IntKind.wrap .i64 (vs1.at_ + 1)) + 1)))).bind fun vr4 =>
      some (z177.mk vs1.L (IntKind.wrap .i64 ((IntKind.wrap .i64 ((IntKind.wrap .i64 ((IntKind.wrap .i64 (vs1.at_ + 1)) + 1)) + 1)) + 1)), vr3.set vr3_1.toNat (api_Change.mk vr4 (api_Value.mk vy.From.Kind vy.From.Flag vy.From.Number vy.From.Words) (api_Value.mk vy.To.Kind vy.To.Flag vy.To.Number vy.To.Words))))
      (cond (decide (vr3_2 = 1))
        ((z260 (z177.mk vs1.L (IntKind.wrap .i64 ((IntKind.wrap .i64 (vs1.at_ + 1)) + 1)))).bind fun (vs3_1, vr7) =>
        some (vs3_1, vr3.set vr3_1.toNat (api_Change.mk vy.Name vr7 (api_Value.mk vy.To.Kind vy.To.Flag vy.To.Number vy.To.Words))))
        (cond (decide (vr3_2 = 2))
          ((z260 (z177.mk vs1.L (IntKind.wrap .i64 ((IntKind.wrap .i64 (vs1.at_ + 1)) + 1)))).bind fun (vs3_2, vr7_1) =>
          some (vs3_2, vr3.set vr3_1.toNat (api_Change.mk vy.Name (api_Value.mk vy.From.Kind vy.From.Flag vy.From.Number vy.From.Words) vr7_1)))
          (some (z177.mk vs1.L (IntKind.wrap .i64 ((IntKind.wrap .i64 (vs1.at_ + 1)) + 1)), vr3.set vr3_1.toNat (api_Change.mk vy.Name (api_Value.mk vy.To.Kind vy.To.Flag vy.To.Number vy.To.Words) (api_Value.mk vy.To.Kind vy.To.Flag vy.To.Number vy.To.Words)))))))
    (some (vs1, vr3))

noncomputable def z185 (qs : z177) : Option (z177 × (List api_Change)) :=
  (z229 qs).bind fun (vs3, vr8) =>
  (z307 vr8).bind fun vr3 =>
  (z188 vs3 vr3).bind fun (vs2_1, vout1) =>
  some (vs2_1, vout1)

/-! ### beaconfleet/twin.CheckChanges -/
noncomputable def z1019 (ql : List api_Change) (vx : Int) (vy2 : api_Change) : Option (Bool) :=
  cond (decide (0 < vx))
    ((at? ql (IntKind.wrap .i64 (vx - 1))).bind fun vy3 =>
    some (Op.bytesLess vy2.Name vy3.Name || decide (vy2.Name = vy3.Name)))
    (some false)

noncomputable def z1014 (ql : List api_Change) (vx : Int) : Option ((Int) ⊕ (Unit ⊕ Int)) :=
  cond (decide (vx < (ql.length : Int)))
    ((at? ql vx).bind fun vy2 =>
    (z1170 vy2.Name).bind fun vr3 =>
    cond (!vr3)
      (some (.inr (.inr 5)))
      ((z1224 (api_Value.mk vy2.From.Kind vy2.From.Flag vy2.From.Number vy2.From.Words)).bind fun vr2_2 =>
      (z1224 (api_Value.mk vy2.To.Kind vy2.To.Flag vy2.To.Number vy2.To.Words)).bind fun vr2_3 =>
      (z24 ([vr2_2, vr2_3] : List Int)).bind fun vr4 =>
      cond (!decide (vr4 = 0))
        (some (.inr (.inr vr4)))
        (cond ((decide (vy2.From.Kind = vy2.To.Kind) && ((vy2.From.Flag == vy2.To.Flag) && (decide (vy2.From.Number = vy2.To.Number) && (decide (vy2.From.Words = vy2.To.Words) && true)))))
          (some (.inr (.inr 3)))
          ((z1019 ql vx vy2).bind fun vx2_1 =>
          cond (vx2_1)
            (some (.inr (.inr 7)))
            (some (.inl (IntKind.wrap .i64 (vx + 1))))))))
    (some (.inr (.inl ())))

noncomputable def z1011 (ql : List api_Change) : Option (Int) :=
  cond (decide (1000 < (ql.length : Int)))
    (some 2)
    ((loopO (z1014 ql) 0).bind fun x => match x with
      | .inl _ =>
        some 0
      | .inr vx3_1 =>
        some vx3_1)

/-! ### beaconfleet/twin.Take$1 -/
noncomputable def z1113 (qx : api_Cell) (qx1 : api_Stamp) : Option (Bool) :=
  (z1135 (api_Stamp.mk qx.Stamp.At qx.Stamp.By qx.Stamp.No) qx1).bind fun vr3 =>
  some (decide (0 ≤ vr3))

/-! ### slices.IndexFunc[[]beaconfleet/api.Cell,beaconfleet/api.Cell] -/
noncomputable def z700 (qs : List api_Cell) (qf : api_Stamp) (vx : Int) : Option ((Int) ⊕ (Unit ⊕ Int)) :=
  cond (decide (vx < (qs.length : Int)))
    ((at? qs vx).bind fun vy1 =>
    (z1113 (api_Cell.mk (api_Prop.mk vy1.Prop_.Name (api_Value.mk vy1.Prop_.Value.Kind vy1.Prop_.Value.Flag vy1.Prop_.Value.Number vy1.Prop_.Value.Words)) (api_Stamp.mk vy1.Stamp.At vy1.Stamp.By vy1.Stamp.No)) qf).bind fun vr1 =>
    cond (vr1)
      (some (.inr (.inr vx)))
      (some (.inl (IntKind.wrap .i64 (vx + 1)))))
    (some (.inr (.inl ())))

noncomputable def z697 (qs : List api_Cell) (qf : api_Stamp) : Option (Int) :=
  (loopO (z700 qs qf) 0).bind fun x => match x with
    | .inl _ =>
      some (-1)
    | .inr vx1_1 =>
      some vx1_1

/-! ### slices.ContainsFunc[[]beaconfleet/api.Cell,beaconfleet/api.Cell] -/
noncomputable def z640 (qs : List api_Cell) (qf : api_Stamp) : Option (Bool) :=
  (z697 qs qf).bind fun vr2 =>
  some (decide (0 ≤ vr2))

/-! ### slices.Grow[[]beaconfleet/api.Cell,beaconfleet/api.Cell] -/
noncomputable def z677 (qn : Int) : Option ((List api_Cell)) :=
  cond (decide (0 < (IntKind.wrap .i64 (qn - (IntKind.wrap .i64 ((0 : Int) - 0))))))
    (gd (decide (0 ≤ (IntKind.wrap .i64 (qn - (IntKind.wrap .i64 ((0 : Int) - 0))))) && decide ((IntKind.wrap .i64 (qn - (IntKind.wrap .i64 ((0 : Int) - 0)))) ≤ 137438953472)) <|
    gd (decide (0 ≤ (0 : Int)) && decide ((0 : Int) ≤ ((List.replicate (IntKind.wrap .i64 (qn - (IntKind.wrap .i64 ((0 : Int) - 0)))).toNat (api_Cell.mk (api_Prop.mk ([] : List UInt8) (api_Value.mk 0 false 0 ([] : List UInt8))) (api_Stamp.mk 0 ([] : List UInt8) 0))).length : Int))) <|
    some ((List.replicate (IntKind.wrap .i64 (qn - (IntKind.wrap .i64 ((0 : Int) - 0)))).toNat (api_Cell.mk (api_Prop.mk ([] : List UInt8) (api_Value.mk 0 false 0 ([] : List UInt8))) (api_Stamp.mk 0 ([] : List UInt8) 0))).take (0 : Int).toNat))
    (some [])

noncomputable def z674 (qn : Int) : Option ((List api_Cell)) :=
  cond (decide (qn < 0))
    (none)
    ((z677 qn).bind fun vs1 =>
    some vs1)

/-! ### slices.Concat[[]beaconfleet/api.Cell,beaconfleet/api.Cell] -/
noncomputable def z624 (qslices : List (List api_Cell)) : Int × Int → Option ((Int × Int) ⊕ (Int))
  | (vsize, vx) =>
  cond (decide (vx < (qslices.length : Int)))
    ((at? qslices vx).bind fun vy1 =>
    cond (decide ((IntKind.wrap .i64 (vsize + (vy1.length : Int))) < 0))
      (none)
      (some (.inl (IntKind.wrap .i64 (vsize + (vy1.length : Int)), IntKind.wrap .i64 (vx + 1)))))
    (some (.inr vsize))

noncomputable def z629 (qslices : List (List api_Cell)) : (List api_Cell) × Int → Option (((List api_Cell) × Int) ⊕ ((List api_Cell)))
  | (vnewslice, vx1) =>
  cond (decide (vx1 < (qslices.length : Int)))
    ((at? qslices vx1).bind fun vy3 =>
    gd (Nat.ble (vnewslice.length + vy3.length) LIM) <|
    some (.inl (vnewslice ++ vy3, IntKind.wrap .i64 (vx1 + 1))))
    (some (.inr vnewslice))

noncomputable def z621 (qslices : List (List api_Cell)) : Option ((List api_Cell)) :=
  (loopO (z624 qslices) (0, 0)).bind fun vsize1_1 =>
  (z674 vsize1_1).bind fun vr =>
  (loopO (z629 qslices) (vr, 0)).bind fun vnewslice1_1 =>
  some vnewslice1_1

/-! ### beaconfleet/twin.joined -/
noncomputable def z1181 (vx : List api_Cell) (vx1 : List api_Cell) : Option (Bool) :=
  cond (decide (0 < (vx.length : Int)))
    (some (decide (0 < (vx1.length : Int))))
    (some false)

noncomputable def z1190 (vx : List api_Cell) (vx1 : List api_Cell) (vr3_1 : Int) : Option (Bool) :=
  cond (decide (vr3_1 = 0))
    ((at? vx 0).bind fun vy10 =>
    (at? vx1 0).bind fun vy11 =>
    some (!(decide (vy10.Prop_.Value.Kind = vy11.Prop_.Value.Kind) && ((vy10.Prop_.Value.Flag == vy11.Prop_.Value.Flag) && (decide (vy10.Prop_.Value.Number = vy11.Prop_.Value.Number) && (decide (vy10.Prop_.Value.Words = vy11.Prop_.Value.Words) && true))))))
    (some false)

noncomputable def z1185 (vx : List api_Cell) (vx1 : List api_Cell) (vx2 : List api_Cell) : Option ((List api_Cell) ⊕ Unit) :=
  (at? vx 0).bind fun vy8 =>
  (at? vx1 0).bind fun vy9 =>
  (z1135 (api_Stamp.mk vy8.Stamp.At vy8.Stamp.By vy8.Stamp.No) (api_Stamp.mk vy9.Stamp.At vy9.Stamp.By vy9.Stamp.No)).bind fun vr3_1 =>
  (z1190 vx vx1 vr3_1).bind fun vx7_1 =>
  cond (vx7_1)
    (some (.inr ()))
    (cond (decide (0 ≤ vr3_1))
      (gd (Nat.ble (vx2.length + ([api_Cell.mk (api_Prop.mk vy8.Prop_.Name (api_Value.mk vy8.Prop_.Value.Kind vy8.Prop_.Value.Flag vy8.Prop_.Value.Number vy8.Prop_.Value.Words)) (api_Stamp.mk vy8.Stamp.At vy8.Stamp.By vy8.Stamp.No)] : List api_Cell).length) LIM) <|
      some (.inl (vx2 ++ ([api_Cell.mk (api_Prop.mk vy8.Prop_.Name (api_Value.mk vy8.Prop_.Value.Kind vy8.Prop_.Value.Flag vy8.Prop_.Value.Number vy8.Prop_.Value.Words)) (api_Stamp.mk vy8.Stamp.At vy8.Stamp.By vy8.Stamp.No)] : List api_Cell))))
      (gd (Nat.ble (vx2.length + ([api_Cell.mk (api_Prop.mk vy9.Prop_.Name (api_Value.mk vy9.Prop_.Value.Kind vy9.Prop_.Value.Flag vy9.Prop_.Value.Number vy9.Prop_.Value.Words)) (api_Stamp.mk vy9.Stamp.At vy9.Stamp.By vy9.Stamp.No)] : List api_Cell).length) LIM) <|
      some (.inl (vx2 ++ ([api_Cell.mk (api_Prop.mk vy9.Prop_.Name (api_Value.mk vy9.Prop_.Value.Kind vy9.Prop_.Value.Flag vy9.Prop_.Value.Number vy9.Prop_.Value.Words)) (api_Stamp.mk vy9.Stamp.At vy9.Stamp.By vy9.Stamp.No)] : List api_Cell)))))

noncomputable def z1176 : (List api_Cell) × (List api_Cell) × (List api_Cell) → Option (((List api_Cell) × (List api_Cell) × (List api_Cell)) ⊕ (((List api_Cell) × (List api_Cell) × (List api_Cell)) ⊕ Unit))
  | (vx, vx1, vx2) =>
  (z1181 vx vx1).bind fun vx6_1 =>
  cond (vx6_1)
    ((at? vx 0).bind fun vy6 =>
    (at? vx1 0).bind fun vy7 =>
    (z905 vy6.Prop_.Name vy7.Prop_.Name).bind fun _ =>
    cond (decide ((Lib.compareBytes vy6.Prop_.Name vy7.Prop_.Name) < 0))
      (gd (Nat.ble (vx2.length + ([api_Cell.mk (api_Prop.mk vy6.Prop_.Name (api_Value.mk vy6.Prop_.Value.Kind vy6.Prop_.Value.Flag vy6.Prop_.Value.Number vy6.Prop_.Value.Words)) (api_Stamp.mk vy6.Stamp.At vy6.Stamp.By vy6.Stamp.No)] : List api_Cell).length) LIM) <|
      (sub? vx 1 (vx.length : Int)).bind fun vl4 =>
      some (.inl (vl4, vx1, vx2 ++ ([api_Cell.mk (api_Prop.mk vy6.Prop_.Name (api_Value.mk vy6.Prop_.Value.Kind vy6.Prop_.Value.Flag vy6.Prop_.Value.Number vy6.Prop_.Value.Words)) (api_Stamp.mk vy6.Stamp.At vy6.Stamp.By vy6.Stamp.No)] : List api_Cell))))
      (cond (decide (0 < (Lib.compareBytes vy6.Prop_.Name vy7.Prop_.Name)))
        (gd (Nat.ble (vx2.length + ([api_Cell.mk (api_Prop.mk vy7.Prop_.Name (api_Value.mk vy7.Prop_.Value.Kind vy7.Prop_.Value.Flag vy7.Prop_.Value.Number vy7.Prop_.Value.Words)) (api_Stamp.mk vy7.Stamp.At vy7.Stamp.By vy7.Stamp.No)] : List api_Cell).length) LIM) <|
        (sub? vx1 1 (vx1.length : Int)).bind fun vl5 =>
        some (.inl (vx, vl5, vx2 ++ ([api_Cell.mk (api_Prop.mk vy7.Prop_.Name (api_Value.mk vy7.Prop_.Value.Kind vy7.Prop_.Value.Flag vy7.Prop_.Value.Number vy7.Prop_.Value.Words)) (api_Stamp.mk vy7.Stamp.At vy7.Stamp.By vy7.Stamp.No)] : List api_Cell))))
        ((z1185 vx vx1 vx2).bind fun x => match x with
          | .inl vx8_1 =>
            (sub? vx 1 (vx.length : Int)).bind fun vl6 =>
            (sub? vx1 1 (vx1.length : Int)).bind fun vl7 =>
            some (.inl (vl6, vl7, vx8_1))
          | .inr _ =>
            some (.inr (.inr ())))))
    (some (.inr (.inl (vx, vx1, vx2))))

noncomputable def z1173 (qx : List api_Cell) (qx1 : List api_Cell) : Option ((List api_Cell) × Int) :=
  (loopO z1176 (qx, qx1, [])).bind fun x => match x with
    | .inl (vx9_1, vx10_1, vx11_1) =>
      (z621 ([vx11_1, vx9_1, vx10_1] : List (List api_Cell))).bind fun vr1 =>
      some (vr1, 0)
    | .inr _ =>
      some ([], 13)

/-! ### beaconfleet/twin.merged -/
noncomputable def z1201 (vr : List api_Cell) (vr2 : Int) : Option (Bool) :=
  cond (decide (vr2 = 0))
    (some (decide (500 < (vr.length : Int))))
    (some false)

noncomputable def z1197 (vr : List api_Cell) (vr2 : Int) : Option (Int) :=
  (z1201 vr vr2).bind fun vx1 =>
  cond (vx1)
    (some 2)
    (some vr2)

noncomputable def z1194 (qa : List api_Cell) (qb : List api_Cell) : Option ((List api_Cell) × Int) :=
  (z1173 qa qb).bind fun (vr, vr2) =>
  (z1197 vr vr2).bind fun ve1 =>
  cond (!decide (ve1 = 0))
    (some ([], ve1))
    (some (vr, 0))

/-! ### slices.Clone[[]beaconfleet/api.Cell,beaconfleet/api.Cell] -/
noncomputable def z581 (qs : List api_Cell) : Option (List api_Cell) :=
  gd (Nat.ble (([] : List api_Cell).length + qs.length) LIM) (some qs)

/-! ### beaconfleet/twin.Take -/
noncomputable def z1118 (qc : List api_Change) (qs : api_Stamp) : (List api_Cell) × Int → Option (((List api_Cell) × Int) ⊕ ((List api_Cell)))
  | (vl, vx) =>
  cond (decide (vx < (qc.length : Int)))
    ((at? qc vx).bind fun vy1 =>
    gd (Nat.ble (vl.length + ([api_Cell.mk (api_Prop.mk vy1.Name (api_Value.mk vy1.To.Kind vy1.To.Flag vy1.To.Number vy1.To.Words)) qs] : List api_Cell).length) LIM) <|
    some (.inl (vl ++ ([api_Cell.mk (api_Prop.mk vy1.Name (api_Value.mk vy1.To.Kind vy1.To.Flag vy1.To.Number vy1.To.Words)) qs] : List api_Cell), IntKind.wrap .i64 (vx + 1))))
    (some (.inr vl))

noncomputable def twin_Take (qt : api_Twin) (qc : List api_Change) (qs : api_Stamp) : Option ((List api_Cell) × (List api_Cell) × Int) :=
  (z1221 qt).bind fun vr1 =>
  (z1011 qc).bind fun vr5 =>
  (z1218 qs).bind fun vr3 =>
  (z24 ([vr1, vr5, vr3] : List Int)).bind fun vr =>
  cond (!decide (vr = 0))
    (some ([], [], vr))
    ((z640 qt.Reported qs).bind fun vr2 =>
    cond (vr2)
      (some ([], [], 7))
      ((loopO (z1118 qc qs) ([], 0)).bind fun vl1_1 =>
      (z1194 qt.Reported vl1_1).bind fun (vr1_1, vr3_1) =>
      cond (!decide (vr3_1 = 0))
        (some ([], [], vr3_1))
        ((z581 qt.Desired).bind fun vr4 =>
        some (vr4, vr1_1, 0))))

/-! ### beaconfleet/fleetref2.ChangesFault -/
noncomputable def z298 (vr3_2 : Int) (vr3_3 : Int) (vx4 : Int) : Option ((Int) ⊕ (Unit ⊕ Int)) :=
  cond (decide (vx4 < (([vr3_2, vr3_3] : List Int).length : Int)))
    ((at? ([vr3_2, vr3_3] : List Int) vx4).bind fun vy6 =>
    cond (!decide (vy6 = 0))
      (some (.inr (.inr vy6)))
      (some (.inl (IntKind.wrap .i64 (vx4 + 1)))))
    (some (.inr (.inl ())))

noncomputable def z303 (ql : List api_Change) (vx : Int) (vy4 : api_Change) : Option (Bool) :=
  cond (decide (0 < vx))
    ((at? ql (IntKind.wrap .i64 (vx - 1))).bind fun vy7 =>
    some (Op.bytesLess vy4.Name vy7.Name || decide (vy4.Name = vy7.Name)))
    (some false)

noncomputable def z293 (ql : List api_Change) (vx : Int) : Option ((Int) ⊕ (Unit ⊕ Int)) :=
  cond (decide (vx < (ql.length : Int)))
    ((at? ql vx).bind fun vy4 =>
    (z411 vy4.Name).bind fun vr2_1 =>
    cond (!vr2_1)
      (some (.inr (.inr 5)))
      ((z468 (api_Value.mk vy4.From.Kind vy4.From.Flag vy4.From.Number vy4.From.Words)).bind fun vr3_2 =>
      (z468 (api_Value.mk vy4.To.Kind vy4.To.Flag vy4.To.Number vy4.To.Words)).bind fun vr3_3 =>
      (loopO (z298 vr3_2 vr3_3) 0).bind fun x => match x with
        | .inl _ =>
          cond ((decide (vy4.From.Kind = vy4.To.Kind) && ((vy4.From.Flag == vy4.To.Flag) && (decide (vy4.From.Number = vy4.To.Number) && (decide (vy4.From.Words = vy4.To.Words) && true)))))
            (some (.inr (.inr 3)))
            ((z303 ql vx vy4).bind fun vx6_1 =>
            cond (vx6_1)
              (some (.inr (.inr 7)))
              (some (.inl (IntKind.wrap .i64 (vx + 1)))))
        | .inr vx5_1 =>
          some (.inr (.inr vx5_1))))
    (some (.inr (.inl ())))

noncomputable def z290 (ql : List api_Change) : Option (Int) :=
  cond (decide (1000 < (ql.length : Int)))
    (some 2)
    ((loopO (z293 ql) 0).bind fun x => match x with
      | .inl _ =>
        some 0
      | .inr vx7_1 =>
        some vx7_1)

/-! ### beaconfleet/fleetlaw2.errs -/
noncomputable def z157 (ql : List Int) (vx : Int) : Option ((Int) ⊕ (Unit ⊕ Int)) :=
  cond (decide (vx < (ql.length : Int)))
    ((at? ql vx).bind fun vy1 =>
    cond (!decide (vy1 = 0))
      (some (.inr (.inr vy1)))
      (some (.inl (IntKind.wrap .i64 (vx + 1)))))
    (some (.inr (.inl ())))

noncomputable def z154 (ql : List Int) : Option (Int) :=
  (loopO (z157 ql) 0).bind fun x => match x with
    | .inl _ =>
      some 0
    | .inr vx1_1 =>
      some vx1_1

/-! ### beaconfleet/fleetref2.TakeOf$1 -/
noncomputable def z455 (qo : api_Cell) (qx : api_Stamp) : Option (Bool) :=
  (z451 (api_Stamp.mk qo.Stamp.At qo.Stamp.By qo.Stamp.No) qx).bind fun vr2 =>
  some (decide (0 ≤ vr2))

/-! ### slices.IndexFunc[[]beaconfleet/api.Cell,beaconfleet/api.Cell] -/
noncomputable def z684 (qs : List api_Cell) (qf : api_Stamp) (vx : Int) : Option ((Int) ⊕ (Unit ⊕ Int)) :=
  cond (decide (vx < (qs.length : Int)))
    ((at? qs vx).bind fun vy1 =>
    (z455 (api_Cell.mk (api_Prop.mk vy1.Prop_.Name (api_Value.mk vy1.Prop_.Value.Kind vy1.Prop_.Value.Flag vy1.Prop_.Value.Number vy1.Prop_.Value.Words)) (api_Stamp.mk vy1.Stamp.At vy1.Stamp.By vy1.Stamp.No)) qf).bind fun vr1 =>
    cond (vr1)
      (some (.inr (.inr vx)))
      (some (.inl (IntKind.wrap .i64 (vx + 1)))))
    (some (.inr (.inl ())))

noncomputable def z681 (qs : List api_Cell) (qf : api_Stamp) : Option (Int) :=
  (loopO (z684 qs qf) 0).bind fun x => match x with
    | .inl _ =>
      some (-1)
    | .inr vx1_1 =>
      some vx1_1

/-! ### slices.ContainsFunc[[]beaconfleet/api.Cell,beaconfleet/api.Cell] -/
noncomputable def z634 (qs : List api_Cell) (qf : api_Stamp) : Option (Bool) :=
  (z681 qs qf).bind fun vr2 =>
  some (decide (0 ≤ vr2))

/-! ### beaconfleet/fleetref2.MergeOf$1 -/
noncomputable def z327 (qx : api_Cell) (qy : api_Cell) : Option (Int) :=
  (z451 (api_Stamp.mk qx.Stamp.At qx.Stamp.By qx.Stamp.No) (api_Stamp.mk qy.Stamp.At qy.Stamp.By qy.Stamp.No)).bind fun vr2 =>
  some vr2

/-! ### slices.insertionSortCmpFunc[beaconfleet/api.Cell] -/
noncomputable def z790 (qa : Int) (vl3 : List api_Cell) (vj1 : Int) : Option (Bool) :=
  cond (decide (qa < vj1))
    ((at? vl3 vj1).bind fun vy15 =>
    (at? vl3 (IntKind.wrap .i64 (vj1 - 1))).bind fun vy16 =>
    (z327 (api_Cell.mk (api_Prop.mk vy15.Prop_.Name (api_Value.mk vy15.Prop_.Value.Kind vy15.Prop_.Value.Flag vy15.Prop_.Value.Number vy15.Prop_.Value.Words)) (api_Stamp.mk vy15.Stamp.At vy15.Stamp.By vy15.Stamp.No)) (api_Cell.mk (api_Prop.mk vy16.Prop_.Name (api_Value.mk vy16.Prop_.Value.Kind vy16.Prop_.Value.Flag vy16.Prop_.Value.Number vy16.Prop_.Value.Words)) (api_Stamp.mk vy16.Stamp.At vy16.Stamp.By vy16.Stamp.No))).bind fun vr3 =>
    some (decide (vr3 < 0)))
    (some false)

noncomputable def z785 (qa : Int) : (List api_Cell) × Int → Option (((List api_Cell) × Int) ⊕ ((List api_Cell)))
  | (vl3, vj1) =>
  (z790 qa vl3 vj1).bind fun vx4_1 =>
  cond (vx4_1)
    ((at? vl3 (IntKind.wrap .i64 (vj1 - 1))).bind fun vy17 =>
    (at? vl3 vj1).bind fun vy18 =>
    (at? (vl3.set vj1.toNat (api_Cell.mk (api_Prop.mk vy17.Prop_.Name (api_Value.mk vy17.Prop_.Value.Kind vy17.Prop_.Value.Flag vy17.Prop_.Value.Number vy17.Prop_.Value.Words)) (api_Stamp.mk vy17.Stamp.At vy17.Stamp.By vy17.Stamp.No))) (IntKind.wrap .i64 (vj1 - 1))).bind fun vy19 =>
    some (.inl ((vl3.set vj1.toNat (api_Cell.mk (api_Prop.mk vy17.Prop_.Name (api_Value.mk vy17.Prop_.Value.Kind vy17.Prop_.Value.Flag vy17.Prop_.Value.Number vy17.Prop_.Value.Words)) (api_Stamp.mk vy17.Stamp.At vy17.Stamp.By vy17.Stamp.No))).set (IntKind.wrap .i64 (vj1 - 1)).toNat (api_Cell.mk (api_Prop.mk vy18.Prop_.Name (api_Value.mk vy18.Prop_.Value.Kind vy18.Prop_.Value.Flag vy18.Prop_.Value.Number vy18.Prop_.Value.Words)) (api_Stamp.mk vy18.Stamp.At vy18.Stamp.By vy18.Stamp.No)), IntKind.wrap .i64 (vj1 - 1))))
    (some (.inr vl3))

noncomputable def z780 (qa : Int) (qb : Int) : (List api_Cell) × Int → Option (((List api_Cell) × Int) ⊕ ((List api_Cell)))
  | (vl, vi) =>
  cond (decide (vi < qb))
    ((loopO (z785 qa) (vl, vi)).bind fun vl4_1 =>
    some (.inl (vl4_1, IntKind.wrap .i64 (vi + 1))))
    (some (.inr vl))

noncomputable def z777 (qdata : List api_Cell) (qa : Int) (qb : Int) : Option ((List api_Cell)) :=
  (loopO (z780 qa qb) (qdata, IntKind.wrap .i64 (qa + 1))).bind fun vl5_1 =>
  some vl5_1

/-! ### slices.stableCmpFunc[beaconfleet/api.Cell] -/
noncomputable def z890 (qn : Int) : (List api_Cell) × Int × Int → Option (((List api_Cell) × Int × Int) ⊕ (((List api_Cell) × Int)))
  | (vl, va, vb) =>
  cond (decide (vb ≤ qn))
    ((z777 vl va vb).bind fun vl6_1 =>
    gd (vl6_1.length == vl.length) <|
    some (.inl (vl6_1, vb, IntKind.wrap .i64 (vb + 20))))
    (some (.inr (vl, va)))

noncomputable def z900 (qn : Int) (vblockSize : Int) : Unit → Option ((Unit) ⊕ (Unit))
  | _ =>
  cond (decide ((IntKind.wrap .i64 ((2 : Int) * vblockSize)) ≤ qn))
    (none)
    (some (.inr ()))

noncomputable def z895 (qn : Int) (vblockSize : Int) : Option ((Int) ⊕ (Unit)) :=
  cond (decide (vblockSize < qn))
    ((loopO (z900 qn vblockSize) ()).bind fun _ =>
    cond (decide ((IntKind.wrap .i64 ((0 : Int) + vblockSize)) < qn))
      (none)
      (some (.inl (IntKind.wrap .i64 (vblockSize * 2)))))
    (some (.inr ()))

noncomputable def z887 (qdata : List api_Cell) (qn : Int) : Option ((List api_Cell)) :=
  (loopO (z890 qn) (qdata, 0, 20)).bind fun (vl1_1, va1_1) =>
  (z777 vl1_1 va1_1 qn).bind fun vl6_2 =>
  gd (vl6_2.length == vl1_1.length) <|
  (loopO (z895 qn) 20).bind fun _ =>
  some vl6_2

/-! ### slices.SortStableFunc[[]beaconfleet/api.Cell,beaconfleet/api.Cell] -/
noncomputable def z754 (qx : List api_Cell) : Option ((List api_Cell)) :=
  (z887 qx (qx.length : Int)).bind fun vl2 =>
  gd (vl2.length == qx.length) <|
  some vl2

/-! ### beaconfleet/fleetref2.MergeOf$2 -/
noncomputable def z330 (qx : api_Cell) (qy : api_Cell) : Option (Unit) :=
  (z905 qx.Prop_.Name qy.Prop_.Name).bind fun _ =>
  some ()

/-! ### slices.insertionSortCmpFunc[beaconfleet/api.Cell] -/
noncomputable def z807 (qa : Int) (vl3 : List api_Cell) (vj1 : Int) : Option (Bool) :=
  cond (decide (qa < vj1))
    ((at? vl3 vj1).bind fun vy15 =>
    (at? vl3 (IntKind.wrap .i64 (vj1 - 1))).bind fun vy16 =>
    (z330 (api_Cell.mk (api_Prop.mk vy15.Prop_.Name (api_Value.mk vy15.Prop_.Value.Kind vy15.Prop_.Value.Flag vy15.Prop_.Value.Number vy15.Prop_.Value.Words)) (api_Stamp.mk vy15.Stamp.At vy15.Stamp.By vy15.Stamp.No)) (api_Cell.mk (api_Prop.mk vy16.Prop_.Name (api_Value.mk vy16.Prop_.Value.Kind vy16.Prop_.Value.Flag vy16.Prop_.Value.Number vy16.Prop_.Value.Words)) (api_Stamp.mk vy16.Stamp.At vy16.Stamp.By vy16.Stamp.No))).bind fun _ =>
    some (decide ((Lib.compareBytes vy15.Prop_.Name vy16.Prop_.Name) < 0)))
    (some false)

noncomputable def z802 (qa : Int) : (List api_Cell) × Int → Option (((List api_Cell) × Int) ⊕ ((List api_Cell)))
  | (vl3, vj1) =>
  (z807 qa vl3 vj1).bind fun vx4_1 =>
  cond (vx4_1)
    ((at? vl3 (IntKind.wrap .i64 (vj1 - 1))).bind fun vy17 =>
    (at? vl3 vj1).bind fun vy18 =>
    (at? (vl3.set vj1.toNat (api_Cell.mk (api_Prop.mk vy17.Prop_.Name (api_Value.mk vy17.Prop_.Value.Kind vy17.Prop_.Value.Flag vy17.Prop_.Value.Number vy17.Prop_.Value.Words)) (api_Stamp.mk vy17.Stamp.At vy17.Stamp.By vy17.Stamp.No))) (IntKind.wrap .i64 (vj1 - 1))).bind fun vy19 =>
    some (.inl ((vl3.set vj1.toNat (api_Cell.mk (api_Prop.mk vy17.Prop_.Name (api_Value.mk vy17.Prop_.Value.Kind vy17.Prop_.Value.Flag vy17.Prop_.Value.Number vy17.Prop_.Value.Words)) (api_Stamp.mk vy17.Stamp.At vy17.Stamp.By vy17.Stamp.No))).set (IntKind.wrap .i64 (vj1 - 1)).toNat (api_Cell.mk (api_Prop.mk vy18.Prop_.Name (api_Value.mk vy18.Prop_.Value.Kind vy18.Prop_.Value.Flag vy18.Prop_.Value.Number vy18.Prop_.Value.Words)) (api_Stamp.mk vy18.Stamp.At vy18.Stamp.By vy18.Stamp.No)), IntKind.wrap .i64 (vj1 - 1))))
    (some (.inr vl3))

noncomputable def z797 (qa : Int) (qb : Int) : (List api_Cell) × Int → Option (((List api_Cell) × Int) ⊕ ((List api_Cell)))
  | (vl, vi) =>
  cond (decide (vi < qb))
    ((loopO (z802 qa) (vl, vi)).bind fun vl4_1 =>
    some (.inl (vl4_1, IntKind.wrap .i64 (vi + 1))))
    (some (.inr vl))

noncomputable def z794 (qdata : List api_Cell) (qa : Int) (qb : Int) : Option ((List api_Cell)) :=
  (loopO (z797 qa qb) (qdata, IntKind.wrap .i64 (qa + 1))).bind fun vl5_1 =>
  some vl5_1

/-! ### slices.pdqsortCmpFunc[beaconfleet/api.Cell] -/
noncomputable def z848 (qx : List api_Cell) (qx1 : Int) (qx2 : Int) (qx3 : Int) : Unit → Option ((Unit) ⊕ ((List api_Cell)))
  | _ =>
  cond (decide ((IntKind.wrap .i64 (qx2 - qx1)) ≤ 12))
    ((z794 qx qx1 qx2).bind fun vl6_1 =>
    gd (vl6_1.length == qx.length) <|
    some (.inr vl6_1))
    (cond (decide (qx3 = 0))
      (none)
      (none))

noncomputable def z845 (qx : List api_Cell) (qx1 : Int) (qx2 : Int) (qx3 : Int) : Option ((List api_Cell)) :=
  (loopO (z848 qx qx1 qx2 qx3) ()).bind fun vl1 =>
  some vl1

/-! ### slices.SortFunc[[]beaconfleet/api.Cell,beaconfleet/api.Cell] -/
noncomputable def z745 (qx : List api_Cell) : Option ((List api_Cell)) :=
  (bits_Len (IntKind.wrap .u64 ((qx.length : Int)))).bind fun vr1 =>
  (z845 qx 0 (qx.length : Int) vr1).bind fun vl2 =>
  gd (vl2.length == qx.length) <|
  some vl2

/-! ### beaconfleet/fleetref2.MergeOf -/
noncomputable def z341 (vy1 : api_Cell) (ve1 : api_Cell) (vis1 : Bool) : Option (Bool) :=
  cond (vis1)
    ((z451 (api_Stamp.mk ve1.Stamp.At ve1.Stamp.By ve1.Stamp.No) (api_Stamp.mk vy1.Stamp.At vy1.Stamp.By vy1.Stamp.No)).bind fun vr2_1 =>
    cond (decide (vr2_1 = 0))
      (some (!((decide (ve1.Prop_.Name = vy1.Prop_.Name) && ((decide (ve1.Prop_.Value.Kind = vy1.Prop_.Value.Kind) && ((ve1.Prop_.Value.Flag == vy1.Prop_.Value.Flag) && (decide (ve1.Prop_.Value.Number = vy1.Prop_.Value.Number) && (decide (ve1.Prop_.Value.Words = vy1.Prop_.Value.Words) && true)))) && true)) && ((decide (ve1.Stamp.At = vy1.Stamp.At) && (decide (ve1.Stamp.By = vy1.Stamp.By) && (decide (ve1.Stamp.No = vy1.Stamp.No) && true))) && true))))
      (some false))
    (some false)

noncomputable def z336 (vl : List api_Cell) : (List (List UInt8 × api_Cell)) × Int → Option (((List (List UInt8 × api_Cell)) × Int) ⊕ ((List (List UInt8 × api_Cell)) ⊕ Unit))
  | (vm, vx) =>
  cond (decide (vx < (vl.length : Int)))
    ((at? vl vx).bind fun vy1 =>
    (some ((aget vm vy1.Prop_.Name).getD (api_Cell.mk (api_Prop.mk ([] : List UInt8) (api_Value.mk 0 false 0 ([] : List UInt8))) (api_Stamp.mk 0 ([] : List UInt8) 0)))).bind fun ve1 =>
    (some (aget vm vy1.Prop_.Name).isSome).bind fun vis1 =>
    (z341 vy1 ve1 vis1).bind fun vx2_1 =>
    cond (vx2_1)
      (some (.inr (.inr ())))
      (some (.inl (aput vm vy1.Prop_.Name (api_Cell.mk (api_Prop.mk vy1.Prop_.Name (api_Value.mk vy1.Prop_.Value.Kind vy1.Prop_.Value.Flag vy1.Prop_.Value.Number vy1.Prop_.Value.Words)) (api_Stamp.mk vy1.Stamp.At vy1.Stamp.By vy1.Stamp.No)), IntKind.wrap .i64 (vx + 1)))))
    (some (.inr (.inl vm)))

noncomputable def z345 (qe : Option (List UInt8 × api_Cell)) (vx3 : List api_Cell) : Option (((List api_Cell)) ⊕ ((List api_Cell))) :=
  match qe with
  | none =>
    some (.inr vx3)
  | some ve3 =>
    gd (Nat.ble (vx3.length + ([api_Cell.mk (api_Prop.mk ve3.2.Prop_.Name (api_Value.mk ve3.2.Prop_.Value.Kind ve3.2.Prop_.Value.Flag ve3.2.Prop_.Value.Number ve3.2.Prop_.Value.Words)) (api_Stamp.mk ve3.2.Stamp.At ve3.2.Stamp.By ve3.2.Stamp.No)] : List api_Cell).length) LIM) <|
    some (.inl (vx3 ++ ([api_Cell.mk (api_Prop.mk ve3.2.Prop_.Name (api_Value.mk ve3.2.Prop_.Value.Kind ve3.2.Prop_.Value.Flag ve3.2.Prop_.Value.Number ve3.2.Prop_.Value.Words)) (api_Stamp.mk ve3.2.Stamp.At ve3.2.Stamp.By ve3.2.Stamp.No)] : List api_Cell)))

noncomputable def z333 (qx : List api_Cell) (qx1 : List api_Cell) : Option ((List api_Cell) × Int) :=
  (z621 ([qx, qx1] : List (List api_Cell))).bind fun vr1 =>
  (z754 vr1).bind fun vl =>
  gd (vl.length == vr1.length) <|
  (loopO (z336 vl) (([] : List (List UInt8 × api_Cell)), 0)).bind fun x => match x with
    | .inl vm1_1 =>
      allPerm vm1_1 fun zo =>
      (rngO (z345) zo []).bind fun vx4_1 =>
      (z745 vx4_1).bind fun vl4 =>
      gd (vl4.length == vx4_1.length) <|
      cond (decide (500 < (vl4.length : Int)))
        (some ([], 2))
        (some (vl4, 0))
    | .inr _ =>
      some ([], 13)

/-! ### beaconfleet/fleetref2.TakeOf -/
noncomputable def z460 (qc : List api_Change) (qs : api_Stamp) : (List api_Cell) × Int → Option (((List api_Cell) × Int) ⊕ ((List api_Cell)))
  | (vl, vx) =>
  cond (decide (vx < (qc.length : Int)))
    ((at? qc vx).bind fun vy1 =>
    gd (Nat.ble (vl.length + ([api_Cell.mk (api_Prop.mk vy1.Name (api_Value.mk vy1.To.Kind vy1.To.Flag vy1.To.Number vy1.To.Words)) qs] : List api_Cell).length) LIM) <|
    some (.inl (vl ++ ([api_Cell.mk (api_Prop.mk vy1.Name (api_Value.mk vy1.To.Kind vy1.To.Flag vy1.To.Number vy1.To.Words)) qs] : List api_Cell), IntKind.wrap .i64 (vx + 1))))
    (some (.inr vl))

noncomputable def z454 (qt : api_Twin) (qc : List api_Change) (qs : api_Stamp) : Option ((List api_Cell) × (List api_Cell) × Int) :=
  (z634 qt.Reported qs).bind fun vr =>
  cond (vr)
    (some ([], [], 7))
    ((loopO (z460 qc qs) ([], 0)).bind fun vl1_1 =>
    (z333 qt.Reported vl1_1).bind fun (vr1, vr3) =>
    cond (!decide (vr3 = 0))
      (some ([], [], vr3))
      ((z581 qt.Desired).bind fun vr2 =>
      some (vr2, vr1, 0)))

/-! ### slices.Equal[[]beaconfleet/api.Cell,beaconfleet/api.Cell] -/
noncomputable def z661 (qs1 : List api_Cell) (qs2 : List api_Cell) (vx : Int) : Option ((Int) ⊕ (Unit ⊕ Unit)) :=
  cond (decide (vx < (qs1.length : Int)))
    ((at? qs1 vx).bind fun vy2 =>
    (at? qs2 vx).bind fun vy3 =>
    cond (!((decide (vy2.Prop_.Name = vy3.Prop_.Name) && ((decide (vy2.Prop_.Value.Kind = vy3.Prop_.Value.Kind) && ((vy2.Prop_.Value.Flag == vy3.Prop_.Value.Flag) && (decide (vy2.Prop_.Value.Number = vy3.Prop_.Value.Number) && (decide (vy2.Prop_.Value.Words = vy3.Prop_.Value.Words) && true)))) && true)) && ((decide (vy2.Stamp.At = vy3.Stamp.At) && (decide (vy2.Stamp.By = vy3.Stamp.By) && (decide (vy2.Stamp.No = vy3.Stamp.No) && true))) && true)))
      (some (.inr (.inr ())))
      (some (.inl (IntKind.wrap .i64 (vx + 1)))))
    (some (.inr (.inl ())))

noncomputable def z658 (qs1 : List api_Cell) (qs2 : List api_Cell) : Option (Bool) :=
  cond (!decide ((qs1.length : Int) = (qs2.length : Int)))
    (some false)
    ((loopO (z661 qs1 qs2) 0).bind fun x => match x with
      | .inl _ =>
        some true
      | .inr _ =>
        some false)

/-! ### beaconfleet/fleetref2.SameTwin -/
noncomputable def z444 (qa : api_Twin) (qb : api_Twin) : Option (Bool) :=
  (z658 qa.Desired qb.Desired).bind fun vr =>
  cond (vr)
    ((z658 qa.Reported qb.Reported).bind fun vr1 =>
    some vr1)
    (some false)

noncomputable def z441 (qa : api_Twin) (qb : api_Twin) : Option (Bool) :=
  (z444 qa qb).bind fun vx1 =>
  some vx1

/-! ### beaconfleet/twin.CheckProps -/
noncomputable def z1031 : Unit → Option ((Unit) ⊕ (Unit))
  | _ =>
  cond (decide ((0 : Int) < 0))
    (none)
    (some (.inr ()))

noncomputable def z1036 : Unit → Option ((Unit) ⊕ (Unit))
  | _ =>
  cond (decide ((0 : Int) < 0))
    (none)
    (some (.inr ()))

noncomputable def z1028 : Option (Int) :=
  cond (decide (500 < (0 : Int)))
    (some 2)
    ((loopO z1031 ()).bind fun _ =>
    (loopO z1036 ()).bind fun _ =>
    some 0)

/-! ### beaconfleet/twin.CheckProps$1 -/
noncomputable def z1024 (qs : List UInt8) (qx : List api_Prop) : Option (Bool) :=
  (twin_find qx qs).bind fun vr2 =>
  some (decide (0 ≤ vr2))

/-! ### beaconfleet/twin.above -/
noncomputable def z1131 (qname : List UInt8) (qf : List api_Prop) (vx : Int) : Option (Bool) :=
  (at? qname vx).bind fun vc1 =>
  cond (decide ((vc1.toNat : Int) = 46))
    ((sub? qname 0 vx).bind fun vs1 =>
    (z1024 vs1 qf).bind fun vr1 =>
    some vr1)
    (some false)

noncomputable def z1126 (qname : List UInt8) (qf : List api_Prop) (vx : Int) : Option ((Int) ⊕ (Unit ⊕ Unit)) :=
  cond (decide (vx < (qname.length : Int)))
    ((z1131 qname qf vx).bind fun vx2_1 =>
    cond (vx2_1)
      (some (.inr (.inr ())))
      (some (.inl (IntKind.wrap .i64 (vx + 1)))))
    (some (.inr (.inl ())))

noncomputable def z1123 (qname : List UInt8) (qf : List api_Prop) : Option (Bool) :=
  (loopO (z1126 qname qf) 0).bind fun x => match x with
    | .inl _ =>
      some false
    | .inr _ =>
      some true

/-! ### beaconfleet/twin.CheckProps -/
noncomputable def z1047 (ql : List api_Prop) (vx : Int) (vy2 : api_Prop) : Option (Bool) :=
  cond (decide (0 < vx))
    ((at? ql (IntKind.wrap .i64 (vx - 1))).bind fun vy3 =>
    some (Op.bytesLess vy2.Name vy3.Name || decide (vy2.Name = vy3.Name)))
    (some false)

noncomputable def z1042 (ql : List api_Prop) (vx : Int) : Option ((Int) ⊕ (Unit ⊕ Int)) :=
  cond (decide (vx < (ql.length : Int)))
    ((at? ql vx).bind fun vy2 =>
    (z1170 vy2.Name).bind fun vr1 =>
    cond (!vr1)
      (some (.inr (.inr 5)))
      ((z1224 (api_Value.mk vy2.Value.Kind vy2.Value.Flag vy2.Value.Number vy2.Value.Words)).bind fun vr2_1 =>
      cond (!decide (vr2_1 = 0))
        (some (.inr (.inr vr2_1)))
        (cond (decide (vy2.Value.Kind = 0))
          (some (.inr (.inr 4)))
          ((z1047 ql vx vy2).bind fun vx2_1 =>
          cond (vx2_1)
            (some (.inr (.inr 7)))
            (some (.inl (IntKind.wrap .i64 (vx + 1))))))))
    (some (.inr (.inl ())))

noncomputable def z1051 (ql : List api_Prop) (vx4 : Int) : Option ((Int) ⊕ (Unit ⊕ Unit)) :=
  cond (decide (vx4 < (ql.length : Int)))
    ((at? ql vx4).bind fun vy5 =>
    (z1123 vy5.Name ql).bind fun vr2_3 =>
    cond (vr2_3)
      (some (.inr (.inr ())))
      (some (.inl (IntKind.wrap .i64 (vx4 + 1)))))
    (some (.inr (.inl ())))

noncomputable def z1023 (ql : List api_Prop) : Option (Int) :=
  cond (decide (500 < (ql.length : Int)))
    (some 2)
    ((loopO (z1042 ql) 0).bind fun x => match x with
      | .inl _ =>
        (loopO (z1051 ql) 0).bind fun x => match x with
          | .inl _ =>
            some 0
          | .inr _ =>
            some 13
      | .inr vx3_1 =>
        some vx3_1)

/-! ### slices.BinarySearchFunc[[]beaconfleet/api.Prop,beaconfleet/api.Prop,string] -/
noncomputable def z576 : Unit → Option ((Unit) ⊕ (Unit))
  | _ =>
  cond (decide ((0 : Int) < 0))
    (none)
    (some (.inr ()))

noncomputable def z573 (qtarget : List UInt8) : Option (Unit) :=
  (loopO z576 ()).bind fun _ =>
  cond (decide ((0 : Int) < 0))
    (none)
    (some ())

/-! ### beaconfleet/twin.find -/
noncomputable def z1145 (qname : List UInt8) : Option (Unit) :=
  (z573 qname).bind fun _ =>
  some ()

/-! ### beaconfleet/twin.valueOf -/
noncomputable def z1234 (qname : List UInt8) : Option (Unit) :=
  (z1145 qname).bind fun _ =>
  cond (decide (0 ≤ ((-1) : Int)))
    (none)
    (some ())

/-! ### beaconfleet/twin.Differ -/
noncomputable def z1064 (qb : List api_Prop) (vr1_1 : List (List UInt8)) (vout : List api_Change) (vx : Int) : Option ((List api_Change)) :=
  (at? vr1_1 vx).bind fun vy1 =>
  (z1234 vy1).bind fun _ =>
  (z1232 qb vy1).bind fun vr4 =>
  cond (!(decide ((0 : Int) = vr4.Kind) && ((false == vr4.Flag) && (decide ((0 : Int) = vr4.Number) && (decide (([] : List UInt8) = vr4.Words) && true)))))
    (gd (Nat.ble (vout.length + ([api_Change.mk vy1 (api_Value.mk 0 false 0 ([] : List UInt8)) vr4] : List api_Change).length) LIM) <|
    some (vout ++ ([api_Change.mk vy1 (api_Value.mk 0 false 0 ([] : List UInt8)) vr4] : List api_Change)))
    (some vout)

noncomputable def z1059 (qb : List api_Prop) (vr1_1 : List (List UInt8)) : (List api_Change) × Int → Option (((List api_Change) × Int) ⊕ ((List api_Change)))
  | (vout, vx) =>
  cond (decide (vx < (vr1_1.length : Int)))
    ((z1064 qb vr1_1 vout vx).bind fun vout2_1 =>
    some (.inl (vout2_1, IntKind.wrap .i64 (vx + 1))))
    (some (.inr vout))

noncomputable def z1056 (qb : List api_Prop) : Option ((List api_Change) × Int) :=
  (z1028).bind fun vr =>
  (z1023 qb).bind fun vr3 =>
  (z24 ([vr, vr3] : List Int)).bind fun vr1 =>
  cond (!decide (vr1 = 0))
    (some ([], vr1))
    ((z1205 ([[], qb] : List (List api_Prop))).bind fun vr1_1 =>
    (loopO (z1059 qb vr1_1) ([], 0)).bind fun vout3_1 =>
    some (vout3_1, 0))

/-! ### beaconfleet/fleetlaw2.twinned -/
noncomputable def z166 (vr5 : List api_Change) (vr6 : Int) : Option (Bool) :=
  cond (decide (vr6 = 0))
    (cond (decide ((vr5.length : Int) = 1))
      ((at? vr5 0).bind fun vy =>
      some (decide (vy.Name = ([97] : List UInt8))))
      (some false))
    (some false)

noncomputable def z162 : Option (Bool) :=
  (z1056 ([api_Prop.mk ([97] : List UInt8) (api_Value.mk 1 false 0 ([] : List UInt8))] : List api_Prop)).bind fun (vr5, vr6) =>
  (z166 vr5 vr6).bind fun vx1 =>
  some vx1

/-! ### beaconfleet/fleetlaw2.TwinsSettle -/
noncomputable def z125 (vs : z177) (vr2 : Int) (vr3 : List UInt8) (vr4 : Int) : Option ((z177 × api_Stamp)) :=
  (z196 (z177.mk vs.L (IntKind.wrap .i64 ((IntKind.wrap .i64 ((IntKind.wrap .i64 (vs.at_ + 1)) + 1)) + 1))) 15).bind fun vr5 =>
  cond (vr5)
    ((z250 (z177.mk vs.L (IntKind.wrap .i64 ((IntKind.wrap .i64 ((IntKind.wrap .i64 ((IntKind.wrap .i64 (vs.at_ + 1)) + 1)) + 1)) + 1)))).bind fun (vs3, vr2_1) =>
    some (vs3, vr2_1))
    (some (z177.mk vs.L (IntKind.wrap .i64 ((IntKind.wrap .i64 ((IntKind.wrap .i64 ((IntKind.wrap .i64 (vs.at_ + 1)) + 1)) + 1)) + 1)), api_Stamp.mk vr2 vr3 vr4))

noncomputable def z130 (vr : List api_Cell) (vr1 : List api_Cell) (vr2_2 : Int) : Option ((List api_Change)) :=
  cond (decide (vr2_2 = 0))
    ((z353 (api_Twin.mk vr vr1)).bind fun vr12 =>
    some vr12)
    (some [])

noncomputable def z134 (vr7 : List api_Change) (vr8 : Int) (vr6 : Bool) (vr1_1 : Int) (vr2_2 : Int) (vx3_1 : List api_Change) : Option (Bool) :=
  cond (!decide (vr8 = vr2_2))
    (some true)
    (cond (!decide (vr1_1 = vr2_2))
      (some true)
      ((z666 vr7 vx3_1).bind fun vr9 =>
      cond (!vr9)
        (some true)
        (cond (decide (vr2_2 = 0))
          (some (vr6 != (decide ((vx3_1.length : Int) = 0))))
          (some (vr6 != false)))))

noncomputable def z140 (vx2 : z177) (vr7 : List api_Change) : Option ((List api_Change)) :=
  (z196 vx2 3).bind fun vr10 =>
  cond (vr10)
    ((z185 (z177.mk vx2.L (IntKind.wrap .i64 (vx2.at_ + 1)))).bind fun (vs4, vr1_2) =>
    some vr1_2)
    (some vr7)

noncomputable def z144 (vr : List api_Cell) (vr1 : List api_Cell) (vx1_1 : api_Stamp) (vr2_2 : Int) (vx5_1 : List api_Change) : Option (((List api_Cell) × (List api_Cell) × Int)) :=
  (z290 vx5_1).bind fun vr11 =>
  (z448 vx1_1).bind fun vr2_3 =>
  (z154 ([vr2_2, vr11, vr2_3] : List Int)).bind fun vr13 =>
  cond (decide (vr13 = 0))
    ((z454 (api_Twin.mk vr vr1) vx5_1 vx1_1).bind fun (vr4_1, vr5_1, vr6_2) =>
    some (vr4_1, vr5_1, vr6_2))
    (some ([], [], vr13))

noncomputable def z150 (vr6_1 : List api_Cell) (vr7_1 : List api_Cell) (vr8_1 : Int) (vx6_1 : List api_Cell) (vx7_1 : List api_Cell) (vx8_1 : Int) : Option (Bool) :=
  cond (decide (vr8_1 = vx8_1))
    ((z441 (api_Twin.mk vr6_1 vr7_1) (api_Twin.mk vx6_1 vx7_1)).bind fun vr2_4 =>
    cond (vr2_4)
      ((z162).bind fun vr14 =>
      some vr14)
      (some false))
    (some false)

noncomputable def fleetlaw2_TwinsSettle (qx : List Int) : Option (Bool) :=
  (z257 (z177.mk qx 0)).bind fun (vs, vr, vr1) =>
  (z205 vs ([9, 10, 10, 10] : List Int)).bind fun vr2 =>
  (z247 (z177.mk vs.L (IntKind.wrap .i64 (vs.at_ + 1))) ([([100] : List UInt8), ([107] : List UInt8)] : List (List UInt8))).bind fun vr3 =>
  (z205 (z177.mk vs.L (IntKind.wrap .i64 ((IntKind.wrap .i64 (vs.at_ + 1)) + 1))) ([0, 1] : List Int)).bind fun vr4 =>
  (z125 vs vr2 vr3 vr4).bind fun (vx2, vx1_1) =>
  (twin_Owed (api_Twin.mk vr vr1)).bind fun (vr7, vr8) =>
  (z1106 (api_Twin.mk vr vr1)).bind fun (vr6, vr1_1) =>
  (z465 (api_Twin.mk vr vr1)).bind fun vr2_2 =>
  (z130 vr vr1 vr2_2).bind fun vx3_1 =>
  (z134 vr7 vr8 vr6 vr1_1 vr2_2 vx3_1).bind fun vx4_1 =>
  cond (vx4_1)
    (some false)
    ((z140 vx2 vr7).bind fun vx5_1 =>
    (twin_Take (api_Twin.mk vr vr1) vx5_1 vx1_1).bind fun (vr6_1, vr7_1, vr8_1) =>
    (z144 vr vr1 vx1_1 vr2_2 vx5_1).bind fun (vx6_1, vx7_1, vx8_1) =>
    (z150 vr6_1 vr7_1 vr8_1 vx6_1 vx7_1 vx8_1).bind fun vx9_1 =>
    some vx9_1)

end Go.Eng
