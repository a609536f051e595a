/-
The Go functions that the law DevicesRemember reaches, as plain functions.
-/
import Derived.Test.YtfbeijbgfhelfaaGreatDoorEngV

import Derived.Lib.Repeat

import Derived.Lib.ValidU

namespace Go.Eng

open Go

set_option linter.unusedVariables false

structure fleetmake_Stream where
  L : List Int
  at_ : Int

def fleetmake_Stream.enc (x : fleetmake_Stream) : List D := [.lst (List.map (encI .i64) x.L), .int .i64 x.at_]

structure api_Post where
  Room : Int
  Timeout : Int
  Tries : Int
  Kept : Int

def api_Post.enc (x : api_Post) : List D := [.int .i64 x.Room, .int .i64 x.Timeout, .int .i64 x.Tries, .int .i64 x.Kept]

structure api_Letter where
  Id : List UInt8
  Slot : List UInt8
  Body : List UInt8
  Prio : Int
  At : Int
  Until : Int

def api_Letter.enc (x : api_Letter) : List D := [.str x.Id, .str x.Slot, .str x.Body, .int .i64 x.Prio, .int .i64 x.At, .int .i64 x.Until]

structure api_Note where
  Letter : api_Letter
  State : Int
  Tries : Int
  Since : Int

def api_Note.enc (x : api_Note) : List D := [.str x.Letter.Id, .str x.Letter.Slot, .str x.Letter.Body, .int .i64 x.Letter.Prio, .int .i64 x.Letter.At, .int .i64 x.Letter.Until, .int .i64 x.State, .int .i64 x.Tries, .int .i64 x.Since]

structure command_done where
  id_ : List UInt8
  until_ : Int

def command_done.enc (x : command_done) : List D := [.str x.id_, .int .i64 x.until_]

structure command_Doer where
  most_ : Int
  l_ : List command_done
  time_ : Int

def command_Doer.enc (x : command_Doer) : List D := [.int .i64 x.most_, .lst (List.map command_done.enc x.l_), .int .i64 x.time_]

structure fleetref2_Hand where
  Most : Int
  L : List api_Letter
  time_ : Int

def fleetref2_Hand.enc (x : fleetref2_Hand) : List D := [.int .i64 x.Most, .lst (List.map api_Letter.enc x.L), .int .i64 x.time_]

structure api_Value where
  Kind : Int
  Flag : Bool
  Number : Int
  Words : List UInt8

def api_Value.enc (x : api_Value) : List D := [.int .i64 x.Kind, .bool x.Flag, .int .i64 x.Number, .str x.Words]

structure api_Stamp where
  At : Int
  By : List UInt8
  No : Int

def api_Stamp.enc (x : api_Stamp) : List D := [.int .i64 x.At, .str x.By, .int .i64 x.No]

structure api_Prop where
  Name : List UInt8
  Value : api_Value

def api_Prop.enc (x : api_Prop) : List D := [.str x.Name, .int .i64 x.Value.Kind, .bool x.Value.Flag, .int .i64 x.Value.Number, .str x.Value.Words]

structure api_Cell where
  Prop_ : api_Prop
  Stamp : api_Stamp

def api_Cell.enc (x : api_Cell) : List D := [.str x.Prop_.Name, .int .i64 x.Prop_.Value.Kind, .bool x.Prop_.Value.Flag, .int .i64 x.Prop_.Value.Number, .str x.Prop_.Value.Words, .int .i64 x.Stamp.At, .str x.Stamp.By, .int .i64 x.Stamp.No]

structure api_Twin where
  Desired : List api_Cell
  Reported : List api_Cell

def api_Twin.enc (x : api_Twin) : List D := [.lst (List.map api_Cell.enc x.Desired), .lst (List.map api_Cell.enc x.Reported)]

structure api_Change where
  Name : List UInt8
  From : api_Value
  To : api_Value

def api_Change.enc (x : api_Change) : List D := [.str x.Name, .int .i64 x.From.Kind, .bool x.From.Flag, .int .i64 x.From.Number, .str x.From.Words, .int .i64 x.To.Kind, .bool x.To.Flag, .int .i64 x.To.Number, .str x.To.Words]

structure api_Sample where
  Device : List UInt8
  Metric : List UInt8
  At : Int
  Value : Int

def api_Sample.enc (x : api_Sample) : List D := [.str x.Device, .str x.Metric, .int .i64 x.At, .int .i64 x.Value]

structure api_Version where
  Major : Int
  Minor : Int
  Patch : Int

def api_Version.enc (x : api_Version) : List D := [.int .i64 x.Major, .int .i64 x.Minor, .int .i64 x.Patch]

structure api_Spot where
  X : Int
  Y : Int

def api_Spot.enc (x : api_Spot) : List D := [.int .i64 x.X, .int .i64 x.Y]

/-! ### beaconfleet/fleetmake.Below -/
noncomputable def fleetmake_Below_x1 (qx : Int) (qn : Int) : Option (Int) :=
  cond (decide ((qx.tmod qn) < 0))
    (some (IntKind.wrap .i64 ((qx.tmod qn) + qn)))
    (some (qx.tmod qn))

noncomputable def fleetmake_Below (qx : Int) (qn : Int) : Option (Int) :=
  cond (decide (qn < 1))
    (some 0)
    (gd (!(qn == 0)) <|
    (fleetmake_Below_x1 qx qn).bind fun vx1 =>
    some vx1)

/-! ### (*beaconfleet/fleetmake.Stream).Next -/
noncomputable def fleetmake_Stream_Next (qs : fleetmake_Stream) (qn : Int) : Option (Int) :=
  cond (decide ((qs.L.length : Int) = 0))
    ((fleetmake_Below (IntKind.wrap .i64 ((IntKind.wrap .i64 (qs.at_ + 1)) * 7919)) qn).bind fun vr =>
    some vr)
    (gd (!((qs.L.length : Int) == 0)) <|
    (at? qs.L ((IntKind.wrap .i64 ((IntKind.wrap .i64 (qs.at_ + 1)) - 1)).tmod (qs.L.length : Int))).bind fun vy =>
    (fleetmake_Below vy 1073741824).bind fun vr1 =>
    (fleetmake_Below (IntKind.wrap .i64 (vr1 + (IntKind.wrap .i64 ((IntKind.wrap .i64 ((IntKind.wrap .i64 ((IntKind.wrap .i64 (qs.at_ + 1)) - 1)).tdiv (qs.L.length : Int))) * (IntKind.wrap .i64 ((7919 : Int) + ((IntKind.wrap .i64 ((IntKind.wrap .i64 (qs.at_ + 1)) - 1)).tmod (qs.L.length : Int)))))))) qn).bind fun vr2 =>
    some vr2)

/-! ### (*beaconfleet/fleetmake.Stream).Pick -/
noncomputable def fleetmake_Stream_Pick_o1 (qs : fleetmake_Stream) (ql : List Int) : Option (Int) :=
  (fleetmake_Stream_Next qs (ql.length : Int)).bind fun vr3 =>
  (at? ql vr3).bind fun vy =>
  some vy

/-! ### beaconfleet/base.Out -/
noncomputable def base_Out_x1 (qn : Int) (qlow : Int) (qhigh : Int) : Option (Bool) :=
  cond (decide (qn < qlow))
    (some true)
    (some (decide (qhigh < qn)))

noncomputable def base_Out (qn : Int) (qlow : Int) (qhigh : Int) : Option (Bool) :=
  (base_Out_x1 qn qlow qhigh).bind fun vx1 =>
  some vx1

/-! ### beaconfleet/command.NewDoer -/
noncomputable def command_NewDoer (qremember : Int) : Option (Unit ⊕ Unit) :=
  (base_Out qremember 1 1000).bind fun vr =>
  cond (vr)
    (some (.inl ()))
    (some (.inr ()))

/-! ### beaconfleet/fleetlaw2.when -/
noncomputable def fleetlaw2_when (qis : Bool) (qe : Int) : Option (Int) :=
  cond (qis)
    (some qe)
    (some 0)

/-! ### beaconfleet/command.CheckPost -/
noncomputable def command_CheckPost_x1 (qp : api_Post) : Option (Bool) :=
  (base_Out qp.Room 1 500).bind fun vr =>
  cond (vr)
    (some true)
    ((base_Out qp.Timeout 1 86400000).bind fun vr1 =>
    cond (vr1)
      (some true)
      ((base_Out qp.Tries 1 20).bind fun vr2 =>
      cond (vr2)
        (some true)
        ((base_Out qp.Kept 0 1000).bind fun vr3 =>
        some vr3)))

noncomputable def command_CheckPost (qp : api_Post) : Option (Int) :=
  (command_CheckPost_x1 qp).bind fun vx1 =>
  cond (vx1)
    (some 1)
    (some 0)

/-! ### beaconfleet/command.New -/
noncomputable def command_New (qp : api_Post) : Option (Int ⊕ Unit) :=
  (command_CheckPost qp).bind fun vr4 =>
  cond (!decide (vr4 = 0))
    (some (.inl vr4))
    (some (.inr ()))

/-! ### beaconfleet/base.Key -/
noncomputable def base_Key_x1 (qs : List UInt8) : Option (Bool) :=
  cond (decide (qs = ([] : List UInt8)))
    (some true)
    (cond (decide (40 < (qs.length : Int)))
      (some true)
      ((at? qs 0).bind fun vc =>
      cond (decide ((vc.toNat : Int) < 97))
        (some true)
        (some (decide (122 < (vc.toNat : Int))))))

noncomputable def base_Key_x3 (vc2 : UInt8) : Option (Bool) :=
  cond (decide (97 ≤ (vc2.toNat : Int)))
    (cond (decide ((vc2.toNat : Int) ≤ 122))
      (some false)
      (cond (decide (48 ≤ (vc2.toNat : Int)))
        (cond (decide ((vc2.toNat : Int) ≤ 57))
          (some false)
          (cond (decide ((vc2.toNat : Int) = 45))
            (some false)
            (some (!(decide ((vc2.toNat : Int) = 95))))))
        (cond (decide ((vc2.toNat : Int) = 45))
          (some false)
          (some (!(decide ((vc2.toNat : Int) = 95)))))))
    (cond (decide (48 ≤ (vc2.toNat : Int)))
      (cond (decide ((vc2.toNat : Int) ≤ 57))
        (some false)
        (cond (decide ((vc2.toNat : Int) = 45))
          (some false)
          (some (!(decide ((vc2.toNat : Int) = 95))))))
      (cond (decide ((vc2.toNat : Int) = 45))
        (some false)
        (some (!(decide ((vc2.toNat : Int) = 95))))))

noncomputable def base_Key_x2 (qs : List UInt8) (vx2 : Int) : Option ((Int) ⊕ (Unit ⊕ Unit)) :=
  cond (decide (vx2 < (qs.length : Int)))
    ((at? qs vx2).bind fun vc2 =>
    (base_Key_x3 vc2).bind fun vx4_1 =>
    cond (vx4_1)
      (some (.inr (.inr ())))
      (some (.inl (IntKind.wrap .i64 (vx2 + 1)))))
    (some (.inr (.inl ())))

noncomputable def base_Key (qs : List UInt8) : Option (Bool) :=
  (base_Key_x1 qs).bind fun vx1 =>
  cond (vx1)
    (some false)
    ((loopO (base_Key_x2 qs) 0).bind fun x => match x with
      | .inl _ =>
        some true
      | .inr _ =>
        some false)

/-! ### unicode/utf8.ValidString -/
noncomputable def utf8_ValidString (qx : List UInt8) : Option (Bool) :=
  gd (decide (qx.length ≤ 9223372036854775807)) (some (Lib.validD qx))

/-! ### beaconfleet/base.Unmarked -/
noncomputable def base_Unmarked_x2 (qs : List UInt8) (vx : Int) : Option (Bool) :=
  (at? qs vx).bind fun vc1 =>
  cond (decide ((vc1.toNat : Int) < 32))
    (some true)
    (some (decide ((vc1.toNat : Int) = 127)))

noncomputable def base_Unmarked_x1 (qs : List UInt8) (vx : Int) : Option ((Int) ⊕ (Unit ⊕ Unit)) :=
  cond (decide (vx < (qs.length : Int)))
    ((base_Unmarked_x2 qs vx).bind fun vx2_1 =>
    cond (vx2_1)
      (some (.inr (.inr ())))
      (some (.inl (IntKind.wrap .i64 (vx + 1)))))
    (some (.inr (.inl ())))

noncomputable def base_Unmarked (qs : List UInt8) : Option (Bool) :=
  (loopO (base_Unmarked_x1 qs) 0).bind fun x => match x with
    | .inl _ =>
      (utf8_ValidString qs).bind fun vr =>
      some vr
    | .inr _ =>
      some false

/-! ### beaconfleet/base.Moment -/
noncomputable def base_Moment (qn : Int) : Option (Bool) :=
  (base_Out qn 0 345686399999).bind fun vr =>
  some (!vr)

/-! ### beaconfleet/command.CheckLetter -/
noncomputable def command_CheckLetter_x1 (ql : api_Letter) : Option (Bool) :=
  (base_Key ql.Id).bind fun vr =>
  cond (!vr)
    (some true)
    (cond (!decide (ql.Slot = ([] : List UInt8)))
      ((base_Key ql.Slot).bind fun vr1 =>
      some (!vr1))
      (some false))

noncomputable def command_CheckLetter_x2 (ql : api_Letter) : Option (Bool) :=
  (base_Out ql.Prio 0 9).bind fun vr2 =>
  cond (vr2)
    (some true)
    ((base_Moment ql.At).bind fun vr1_2 =>
    cond (!vr1_2)
      (some true)
      (cond (decide (ql.Until ≤ ql.At))
        (some true)
        (some (decide (345686400000 < ql.Until)))))

noncomputable def command_CheckLetter (ql : api_Letter) : Option (Int) :=
  (command_CheckLetter_x1 ql).bind fun vx1 =>
  cond (vx1)
    (some 5)
    (cond (decide (1000 < (ql.Body.length : Int)))
      (some 2)
      ((base_Unmarked ql.Body).bind fun vr1_1 =>
      cond (!vr1_1)
        (some 3)
        ((command_CheckLetter_x2 ql).bind fun vx2_1 =>
        cond (vx2_1)
          (some 1)
          (some 0))))

/-! ### (*beaconfleet/command.Office).timeFault -/
noncomputable def command_Office_timeFault (qo : Int) (qo1 : Int) (qm : List (List UInt8 × api_Note)) (qat : Int) : Option (Int) :=
  (base_Moment qat).bind fun vr1 =>
  cond (!vr1)
    (some 1)
    (cond (decide (qat < qo1))
      (some 7)
      (some 0))

/-! ### beaconfleet/base.First -/
noncomputable def base_First_x1 (ql : List Int) (vx : Int) : Option ((Int) ⊕ (Unit ⊕ Int)) :=
  cond (decide (vx < (ql.length : Int)))
    ((at? ql vx).bind fun vy1 =>
    cond (!decide (vy1 = 0))
      (some (.inr (.inr vy1)))
      (some (.inl (IntKind.wrap .i64 (vx + 1)))))
    (some (.inr (.inl ())))

noncomputable def base_First (ql : List Int) : Option (Int) :=
  (loopO (base_First_x1 ql) 0).bind fun x => match x with
    | .inl _ =>
      some 0
    | .inr vx1_1 =>
      some vx1_1

/-! ### beaconfleet/command.ended -/
noncomputable def command_ended (qstate : Int) : Option (Unit) :=
  some ()

/-! ### (*beaconfleet/command.Office).turn -/
noncomputable def command_Office_turn (qo : Int) (qo1 : Int) (qn : api_Note) : Option (Int) :=
  cond (decide (qn.State = 2))
    (some (imin qn.Letter.Until (IntKind.wrap .i64 (qn.Since + qo))))
    (some qn.Letter.Until)

/-! ### (*beaconfleet/command.Office).grown -/
noncomputable def command_Office_grown_x1 (qo : Int) (qo1 : Int) (qat : Int) (vn : api_Note) : Option ((api_Note) ⊕ (api_Note)) :=
  (command_ended vn.State).bind fun _ =>
  cond (!(decide (3 ≤ vn.State)))
    ((command_Office_turn qo qo1 (api_Note.mk (api_Letter.mk vn.Letter.Id vn.Letter.Slot vn.Letter.Body vn.Letter.Prio vn.Letter.At vn.Letter.Until) vn.State vn.Tries vn.Since)).bind fun vr1 =>
    cond (decide (qat < vr1))
      (some (.inr (api_Note.mk (api_Letter.mk vn.Letter.Id vn.Letter.Slot vn.Letter.Body vn.Letter.Prio vn.Letter.At vn.Letter.Until) vn.State vn.Tries vn.Since)))
      (cond (decide (vr1 = vn.Letter.Until))
        (some (.inl (api_Note.mk (api_Letter.mk vn.Letter.Id vn.Letter.Slot vn.Letter.Body vn.Letter.Prio vn.Letter.At vn.Letter.Until) 5 vn.Tries vr1)))
        (cond (decide (vn.Tries = qo))
          (some (.inl (api_Note.mk (api_Letter.mk vn.Letter.Id vn.Letter.Slot vn.Letter.Body vn.Letter.Prio vn.Letter.At vn.Letter.Until) 7 vn.Tries vr1)))
          (some (.inl (api_Note.mk (api_Letter.mk vn.Letter.Id vn.Letter.Slot vn.Letter.Body vn.Letter.Prio vn.Letter.At vn.Letter.Until) 1 vn.Tries vr1))))))
    (some (.inr (api_Note.mk (api_Letter.mk vn.Letter.Id vn.Letter.Slot vn.Letter.Body vn.Letter.Prio vn.Letter.At vn.Letter.Until) vn.State vn.Tries vn.Since)))

noncomputable def command_Office_grown (qo : Int) (qo1 : Int) (qn : api_Note) (qat : Int) : Option (api_Note) :=
  (loopO (command_Office_grown_x1 qo qo1 qat) (api_Note.mk (api_Letter.mk qn.Letter.Id qn.Letter.Slot qn.Letter.Body qn.Letter.Prio qn.Letter.At qn.Letter.Until) qn.State qn.Tries qn.Since)).bind fun vn1_1 =>
  some (api_Note.mk (api_Letter.mk vn1_1.Letter.Id vn1_1.Letter.Slot vn1_1.Letter.Body vn1_1.Letter.Prio vn1_1.Letter.At vn1_1.Letter.Until) vn1_1.State vn1_1.Tries vn1_1.Since)

/-! ### math/bits.Len64 -/
noncomputable def bits_Len64_x1 (qx : Int) : Option ((Int × Int)) :=
  cond (decide (4294967296 ≤ qx))
    (some (ishr .u64 qx 32, 32))
    (some (qx, 0))

noncomputable def bits_Len64_x2 (vx1 : Int) (vn1 : Int) : Option ((Int × Int)) :=
  cond (decide (65536 ≤ vx1))
    (some (ishr .u64 vx1 16, IntKind.wrap .i64 (vn1 + 16)))
    (some (vx1, vn1))

noncomputable def bits_Len64_x3 (vx2_1 : Int) (vn2_1 : Int) : Option ((Int × Int)) :=
  cond (decide (256 ≤ vx2_1))
    (some (ishr .u64 vx2_1 8, IntKind.wrap .i64 (vn2_1 + 8)))
    (some (vx2_1, vn2_1))

noncomputable def bits_Len64 (qx : Int) : Option (Int) :=
  (bits_Len64_x1 qx).bind fun (vx1, vn1) =>
  (bits_Len64_x2 vx1 vn1).bind fun (vx2_1, vn2_1) =>
  (bits_Len64_x3 vx2_1 vn2_1).bind fun (vx3_1, vn3_1) =>
  (at? ([0, 1, 2, 2, 3, 3, 3, 3, 4, 4, 4, 4, 4, 4, 4, 4, 5, 5, 5, 5, 5, 5, 5, 5, 5, 5, 5, 5, 5, 5, 5, 5, 6, 6, 6, 6, 6, 6, 6, 6, 6, 6, 6, 6, 6, 6, 6, 6, 6, 6, 6, 6, 6, 6, 6, 6, 6, 6, 6, 6, 6, 6, 6, 6, 7, 7, 7, 7, 7, 7, 7, 7, 7, 7, 7, 7, 7, 7, 7, 7, 7, 7, 7, 7, 7, 7, 7, 7, 7, 7, 7, 7, 7, 7, 7, 7, 7, 7, 7, 7, 7, 7, 7, 7, 7, 7, 7, 7, 7, 7, 7, 7, 7, 7, 7, 7, 7, 7, 7, 7, 7, 7, 7, 7, 7, 7, 7, 7, 8, 8, 8, 8, 8, 8, 8, 8, 8, 8, 8, 8, 8, 8, 8, 8, 8, 8, 8, 8, 8, 8, 8, 8, 8, 8, 8, 8, 8, 8, 8, 8, 8, 8, 8, 8, 8, 8, 8, 8, 8, 8, 8, 8, 8, 8, 8, 8, 8, 8, 8, 8, 8, 8, 8, 8, 8, 8, 8, 8, 8, 8, 8, 8, 8, 8, 8, 8, 8, 8, 8, 8, 8, 8, 8, 8, 8, 8, 8, 8, 8, 8, 8, 8, 8, 8, 8, 8, 8, 8, 8, 8, 8, 8, 8, 8, 8, 8, 8, 8, 8, 8, 8, 8, 8, 8, 8, 8, 8, 8, 8, 8, 8, 8, 8, 8, 8, 8, 8, 8, 8, 8, 8, 8, 8, 8, 8, 8] : List UInt8) (IntKind.wrap .u8 (vx3_1))).bind fun vc =>
  some (IntKind.wrap .i64 (vn3_1 + (IntKind.wrap .i64 ((vc.toNat : Int)))))

/-! ### math/bits.Len -/
noncomputable def bits_Len (qx : Int) : Option (Int) :=
  (bits_Len64 qx).bind fun vr =>
  some vr

/-! ### cmp.isNaN[int] -/
noncomputable def cmp_isNaN_int (qx : Int) : Option (Unit) :=
  some ()

/-! ### cmp.Compare[int] -/
noncomputable def cmp_Compare_int (qx : Int) (qy : Int) : Option (Int) :=
  (cmp_isNaN_int qx).bind fun _ =>
  (cmp_isNaN_int qy).bind fun _ =>
  cond (!decide (qx = qx))
    (cond (!decide (qy = qy))
      (some 0)
      (some (-1)))
    (cond (!decide (qy = qy))
      (some 1)
      (cond (decide (qx < qy))
        (some (-1))
        (cond (decide (qy < qx))
          (some 1)
          (some 0))))

/-! ### internal/bytealg.CompareString -/
noncomputable def bytealg_CompareString (qa : List UInt8) (qb : List UInt8) : Option (Unit) :=
  some ()

/-! ### strings.Compare -/
noncomputable def strings_Compare (qa : List UInt8) (qb : List UInt8) : Option (Unit) :=
  (bytealg_CompareString qa qb).bind fun _ =>
  some ()

/-! ### cmp.Or[int] -/
noncomputable def cmp_Or_int_x1 (qvals : List Int) (vx : Int) : Option ((Int) ⊕ (Unit ⊕ Int)) :=
  cond (decide (vx < (qvals.length : Int)))
    ((at? qvals vx).bind fun vy1 =>
    cond (!decide (vy1 = 0))
      (some (.inr (.inr vy1)))
      (some (.inl (IntKind.wrap .i64 (vx + 1)))))
    (some (.inr (.inl ())))

noncomputable def cmp_Or_int (qvals : List Int) : Option (Int) :=
  (loopO (cmp_Or_int_x1 qvals) 0).bind fun x => match x with
    | .inl _ =>
      some 0
    | .inr vx1_1 =>
      some vx1_1

/-! ### (*beaconfleet/command.Office).aged$1 -/
noncomputable def command_Office_aged_1 (qa : api_Note) (qb : api_Note) : Option (Int) :=
  (cmp_Compare_int qa.Since qb.Since).bind fun vr =>
  (strings_Compare qa.Letter.Id qb.Letter.Id).bind fun _ =>
  (cmp_Or_int ([vr, Lib.compareBytes qa.Letter.Id qb.Letter.Id] : List Int)).bind fun vr1 =>
  some vr1

/-! ### slices.insertionSortCmpFunc[beaconfleet/api.Note] -/
noncomputable def slices_insertionSortCmpFunc_api_Note_o0_f3_command_Office_aged_1_x3 (qa : Int) (vl3 : List api_Note) (vj1 : Int) : Option (Bool) :=
  cond (decide (qa < vj1))
    ((at? vl3 vj1).bind fun vy15 =>
    (at? vl3 (IntKind.wrap .i64 (vj1 - 1))).bind fun vy16 =>
    (command_Office_aged_1 (api_Note.mk (api_Letter.mk vy15.Letter.Id vy15.Letter.Slot vy15.Letter.Body vy15.Letter.Prio vy15.Letter.At vy15.Letter.Until) vy15.State vy15.Tries vy15.Since) (api_Note.mk (api_Letter.mk vy16.Letter.Id vy16.Letter.Slot vy16.Letter.Body vy16.Letter.Prio vy16.Letter.At vy16.Letter.Until) vy16.State vy16.Tries vy16.Since)).bind fun vr2_3 =>
    some (decide (vr2_3 < 0)))
    (some false)

noncomputable def slices_insertionSortCmpFunc_api_Note_o0_f3_command_Office_aged_1_x2 (qa : Int) : (List api_Note) × Int → Option (((List api_Note) × Int) ⊕ ((List api_Note)))
  | (vl3, vj1) =>
  (slices_insertionSortCmpFunc_api_Note_o0_f3_command_Office_aged_1_x3 qa vl3 vj1).bind fun vx4_1 =>
  cond (vx4_1)
    ((at? vl3 (IntKind.wrap .i64 (vj1 - 1))).bind fun vy17 =>
    (at? vl3 vj1).bind fun vy18 =>
    (at? (vl3.set vj1.toNat (api_Note.mk (api_Letter.mk vy17.Letter.Id vy17.Letter.Slot vy17.Letter.Body vy17.Letter.Prio vy17.Letter.At vy17.Letter.Until) vy17.State vy17.Tries vy17.Since)) (IntKind.wrap .i64 (vj1 - 1))).bind fun vy19 =>
    some (.inl ((vl3.set vj1.toNat (api_Note.mk (api_Letter.mk vy17.Letter.Id vy17.Letter.Slot vy17.Letter.Body vy17.Letter.Prio vy17.Letter.At vy17.Letter.Until) vy17.State vy17.Tries vy17.Since)).set (IntKind.wrap .i64 (vj1 - 1)).toNat (api_Note.mk (api_Letter.mk vy18.Letter.Id vy18.Letter.Slot vy18.Letter.Body vy18.Letter.Prio vy18.Letter.At vy18.Letter.Until) vy18.State vy18.Tries vy18.Since), IntKind.wrap .i64 (vj1 - 1))))
    (some (.inr vl3))

noncomputable def slices_insertionSortCmpFunc_api_Note_o0_f3_command_Office_aged_1_x1 (qa : Int) (qb : Int) : (List api_Note) × Int → Option (((List api_Note) × Int) ⊕ ((List api_Note)))
  | (vl, vi) =>
  cond (decide (vi < qb))
    ((loopO (slices_insertionSortCmpFunc_api_Note_o0_f3_command_Office_aged_1_x2 qa) (vl, vi)).bind fun vl4_1 =>
    some (.inl (vl4_1, IntKind.wrap .i64 (vi + 1))))
    (some (.inr vl))

noncomputable def slices_insertionSortCmpFunc_api_Note_o0_f3_command_Office_aged_1 (qdata : List api_Note) (qa : Int) (qb : Int) : Option ((List api_Note)) :=
  (loopO (slices_insertionSortCmpFunc_api_Note_o0_f3_command_Office_aged_1_x1 qa qb) (qdata, IntKind.wrap .i64 (qa + 1))).bind fun vl5_1 =>
  some vl5_1

/-! ### slices.pdqsortCmpFunc[beaconfleet/api.Note] -/
noncomputable def slices_pdqsortCmpFunc_api_Note_o0_f4_command_Office_aged_1_x1 (qx : List api_Note) (qx1 : Int) (qx2 : Int) (qx3 : Int) : Unit → Option ((Unit) ⊕ ((List api_Note)))
  | _ =>
  cond (decide ((IntKind.wrap .i64 (qx2 - qx1)) ≤ 12))
    ((slices_insertionSortCmpFunc_api_Note_o0_f3_command_Office_aged_1 qx qx1 qx2).bind fun vl6_1 =>
    gd (vl6_1.length == qx.length) <|
    some (.inr vl6_1))
    (cond (decide (qx3 = 0))
      (none)
      (none))

noncomputable def slices_pdqsortCmpFunc_api_Note_o0_f4_command_Office_aged_1 (qx : List api_Note) (qx1 : Int) (qx2 : Int) (qx3 : Int) : Option ((List api_Note)) :=
  (loopO (slices_pdqsortCmpFunc_api_Note_o0_f4_command_Office_aged_1_x1 qx qx1 qx2 qx3) ()).bind fun vl1 =>
  some vl1

/-! ### slices.SortFunc[[]beaconfleet/api.Note,beaconfleet/api.Note] -/
noncomputable def slices_SortFunc_api_Note_api_Note_o0_f1_command_Office_aged_1 (qx : List api_Note) : Option ((List api_Note)) :=
  (bits_Len (IntKind.wrap .u64 ((qx.length : Int)))).bind fun vr1 =>
  (slices_pdqsortCmpFunc_api_Note_o0_f4_command_Office_aged_1 qx 0 (qx.length : Int) vr1).bind fun vl2 =>
  gd (vl2.length == qx.length) <|
  some vl2

/-! ### (*beaconfleet/command.Office).aged -/
noncomputable def command_Office_aged_x1 (qo : Int) (qo1 : Int) (qat : Int) (qe : Option (List UInt8 × api_Note)) : (List (List UInt8 × api_Note)) × (List api_Note) → Option (((List (List UInt8 × api_Note)) × (List api_Note)) ⊕ (((List (List UInt8 × api_Note)) × (List api_Note))))
  | (vm, vover) =>
  match qe with
  | none =>
    some (.inr (vm, vover))
  | some ve1 =>
    (command_Office_grown qo qo1 (api_Note.mk (api_Letter.mk ve1.2.Letter.Id ve1.2.Letter.Slot ve1.2.Letter.Body ve1.2.Letter.Prio ve1.2.Letter.At ve1.2.Letter.Until) ve1.2.State ve1.2.Tries ve1.2.Since) qat).bind fun vr2_1 =>
    (command_ended vr2_1.State).bind fun _ =>
    cond (decide (3 ≤ vr2_1.State))
      (gd (Nat.ble (vover.length + ([api_Note.mk (api_Letter.mk vr2_1.Letter.Id vr2_1.Letter.Slot vr2_1.Letter.Body vr2_1.Letter.Prio vr2_1.Letter.At vr2_1.Letter.Until) vr2_1.State vr2_1.Tries vr2_1.Since] : List api_Note).length) LIM) <|
      some (.inl (aput vm ve1.1 (api_Note.mk (api_Letter.mk vr2_1.Letter.Id vr2_1.Letter.Slot vr2_1.Letter.Body vr2_1.Letter.Prio vr2_1.Letter.At vr2_1.Letter.Until) vr2_1.State vr2_1.Tries vr2_1.Since), vover ++ ([api_Note.mk (api_Letter.mk vr2_1.Letter.Id vr2_1.Letter.Slot vr2_1.Letter.Body vr2_1.Letter.Prio vr2_1.Letter.At vr2_1.Letter.Until) vr2_1.State vr2_1.Tries vr2_1.Since] : List api_Note))))
      (some (.inl (aput vm ve1.1 (api_Note.mk (api_Letter.mk vr2_1.Letter.Id vr2_1.Letter.Slot vr2_1.Letter.Body vr2_1.Letter.Prio vr2_1.Letter.At vr2_1.Letter.Until) vr2_1.State vr2_1.Tries vr2_1.Since), vover)))

noncomputable def command_Office_aged_x2 (qo1 : Int) (vl3 : List api_Note) : (List (List UInt8 × api_Note)) × Int → Option (((List (List UInt8 × api_Note)) × Int) ⊕ ((List (List UInt8 × api_Note))))
  | (vm2, vx) =>
  cond (decide (vx < ((vl3.take (imax 0 (IntKind.wrap .i64 ((vl3.length : Int) - qo1))).toNat).length : Int)))
    ((at? (vl3.take (imax 0 (IntKind.wrap .i64 ((vl3.length : Int) - qo1))).toNat) vx).bind fun vy1 =>
    some (.inl (adel vm2 vy1.Letter.Id, IntKind.wrap .i64 (vx + 1))))
    (some (.inr vm2))

noncomputable def command_Office_aged (qo : Int) (qo1 : Int) (qm : List (List UInt8 × api_Note)) (qat : Int) : Option ((List (List UInt8 × api_Note))) :=
  allPerm qm fun zo =>
  (rngO (command_Office_aged_x1 qo qo1 qat) zo (([] : List (List UInt8 × api_Note)), [])).bind fun (vm1_1, vover1_1) =>
  (slices_SortFunc_api_Note_api_Note_o0_f1_command_Office_aged_1 vover1_1).bind fun vl3 =>
  gd (vl3.length == vover1_1.length) <|
  gd (decide (0 ≤ (imax 0 (IntKind.wrap .i64 ((vl3.length : Int) - qo1)))) && decide ((imax 0 (IntKind.wrap .i64 ((vl3.length : Int) - qo1))) ≤ (vl3.length : Int))) <|
  (loopO (command_Office_aged_x2 qo1 vl3) (vm1_1, 0)).bind fun vm3_1 =>
  some vm3_1

/-! ### beaconfleet/command.pending -/
noncomputable def command_pending_x1 (qe : Option (List UInt8 × api_Note)) (vk : Int) : Option ((Int) ⊕ (Int)) :=
  match qe with
  | none =>
    some (.inr vk)
  | some ve1 =>
    (command_ended ve1.2.State).bind fun _ =>
    cond (!(decide (3 ≤ ve1.2.State)))
      (some (.inl (IntKind.wrap .i64 (vk + 1))))
      (some (.inl vk))

noncomputable def command_pending (qm : List (List UInt8 × api_Note)) : Option (Int) :=
  allPerm qm fun zo =>
  (rngO (command_pending_x1) zo 0).bind fun vk1_1 =>
  some vk1_1

/-! ### (*beaconfleet/command.Office).keep -/
noncomputable def command_Office_keep (qo : Int) (qo1 : Int) (qm : List (List UInt8 × api_Note)) (qm1 : List (List UInt8 × api_Note)) (qat : Int) : Option (Unit) :=
  some ()

/-! ### (*beaconfleet/command.Office).Put -/
noncomputable def command_Office_Put_x2 (qx2 : api_Letter) (ve2 : (List UInt8 × api_Note)) : Option (Bool) :=
  cond (!decide (qx2.Slot = ([] : List UInt8)))
    (cond (decide (ve2.2.Letter.Slot = qx2.Slot))
      (cond (decide (ve2.2.State = 1))
        (some (decide (ve2.2.Tries = 0)))
        (some false))
      (some false))
    (some false)

noncomputable def command_Office_Put_x1 (qx2 : api_Letter) (qe : Option (List UInt8 × api_Note)) (vx : List UInt8) : Option (((List UInt8)) ⊕ ((List UInt8))) :=
  match qe with
  | none =>
    some (.inr vx)
  | some ve2 =>
    (command_Office_Put_x2 qx2 ve2).bind fun vx2_1 =>
    cond (vx2_1)
      (some (.inl ve2.1))
      (some (.inl vx))

noncomputable def command_Office_Put_x3 (qx : Int) (vx3_1 : List UInt8) : Option (Int) :=
  cond (!decide (vx3_1 = ([] : List UInt8)))
    (some (IntKind.wrap .i64 (qx + 1)))
    (some qx)

noncomputable def command_Office_Put_x4 (qx2 : api_Letter) (vm4 : List (List UInt8 × api_Note)) (vx3_1 : List UInt8) : Option ((List (List UInt8 × api_Note))) :=
  cond (!decide (vx3_1 = ([] : List UInt8)))
    ((some ((aget vm4 vx3_1).getD (api_Note.mk (api_Letter.mk ([] : List UInt8) ([] : List UInt8) ([] : List UInt8) 0 0 0) 0 0 0))).bind fun ve3 =>
    some (aput vm4 vx3_1 (api_Note.mk (api_Letter.mk ve3.Letter.Id ve3.Letter.Slot ve3.Letter.Body ve3.Letter.Prio ve3.Letter.At ve3.Letter.Until) 6 ve3.Tries qx2.At)))
    (some vm4)

noncomputable def command_Office_Put (qx : Int) (qx1 : Int) (qm : List (List UInt8 × api_Note)) (qx2 : api_Letter) : Option (Int ⊕ (List (List UInt8 × api_Note))) :=
  (command_CheckLetter qx2).bind fun vr3 =>
  (command_Office_timeFault qx qx1 qm qx2.At).bind fun vr =>
  (base_First ([vr3, vr] : List Int)).bind fun vr1 =>
  cond (!decide (vr1 = 0))
    (some (.inl vr1))
    ((command_Office_aged qx qx1 qm qx2.At).bind fun vm4 =>
    (some ((aget vm4 qx2.Id).getD (api_Note.mk (api_Letter.mk ([] : List UInt8) ([] : List UInt8) ([] : List UInt8) 0 0 0) 0 0 0))).bind fun ve =>
    (some (aget vm4 qx2.Id).isSome).bind fun vis =>
    cond (vis)
      (some (.inl 6))
      (allPerm vm4 fun zo =>
      (rngO (command_Office_Put_x1 qx2) zo ([] : List UInt8)).bind fun vx3_1 =>
      (command_Office_Put_x3 qx vx3_1).bind fun vx4_1 =>
      (command_pending vm4).bind fun vr2 =>
      cond (decide (vx4_1 ≤ vr2))
        (some (.inl 12))
        ((command_Office_Put_x4 qx2 vm4 vx3_1).bind fun vm1 =>
        (command_Office_keep qx qx1 qm (aput vm1 qx2.Id (api_Note.mk qx2 1 0 qx2.At)) qx2.At).bind fun _ =>
        some (.inr (aput vm1 qx2.Id (api_Note.mk qx2 1 0 qx2.At))))))

/-! ### (*beaconfleet/command.Office).timeFault -/
noncomputable def command_Office_timeFault_2 (qo : Int) (qo1 : Int) (qm : List (List UInt8 × api_Note)) : Option (Int) :=
  (base_Moment qo1).bind fun vr1 =>
  cond (!vr1)
    (some 1)
    (cond (decide (qo1 < qo1))
      (some 7)
      (some 0))

/-! ### (*beaconfleet/command.Office).grown -/
noncomputable def command_Office_grown_2_x1 (qo : Int) (qo1 : Int) (vn : api_Note) : Option ((api_Note) ⊕ (api_Note)) :=
  (command_ended vn.State).bind fun _ =>
  cond (!(decide (3 ≤ vn.State)))
    ((command_Office_turn qo qo1 (api_Note.mk (api_Letter.mk vn.Letter.Id vn.Letter.Slot vn.Letter.Body vn.Letter.Prio vn.Letter.At vn.Letter.Until) vn.State vn.Tries vn.Since)).bind fun vr1 =>
    cond (decide (qo1 < vr1))
      (some (.inr (api_Note.mk (api_Letter.mk vn.Letter.Id vn.Letter.Slot vn.Letter.Body vn.Letter.Prio vn.Letter.At vn.Letter.Until) vn.State vn.Tries vn.Since)))
      (cond (decide (vr1 = vn.Letter.Until))
        (some (.inl (api_Note.mk (api_Letter.mk vn.Letter.Id vn.Letter.Slot vn.Letter.Body vn.Letter.Prio vn.Letter.At vn.Letter.Until) 5 vn.Tries vr1)))
        (cond (decide (vn.Tries = qo))
          (some (.inl (api_Note.mk (api_Letter.mk vn.Letter.Id vn.Letter.Slot vn.Letter.Body vn.Letter.Prio vn.Letter.At vn.Letter.Until) 7 vn.Tries vr1)))
          (some (.inl (api_Note.mk (api_Letter.mk vn.Letter.Id vn.Letter.Slot vn.Letter.Body vn.Letter.Prio vn.Letter.At vn.Letter.Until) 1 vn.Tries vr1))))))
    (some (.inr (api_Note.mk (api_Letter.mk vn.Letter.Id vn.Letter.Slot vn.Letter.Body vn.Letter.Prio vn.Letter.At vn.Letter.Until) vn.State vn.Tries vn.Since)))

noncomputable def command_Office_grown_2 (qo : Int) (qo1 : Int) (qn : api_Note) : Option (api_Note) :=
  (loopO (command_Office_grown_2_x1 qo qo1) (api_Note.mk (api_Letter.mk qn.Letter.Id qn.Letter.Slot qn.Letter.Body qn.Letter.Prio qn.Letter.At qn.Letter.Until) qn.State qn.Tries qn.Since)).bind fun vn1_1 =>
  some (api_Note.mk (api_Letter.mk vn1_1.Letter.Id vn1_1.Letter.Slot vn1_1.Letter.Body vn1_1.Letter.Prio vn1_1.Letter.At vn1_1.Letter.Until) vn1_1.State vn1_1.Tries vn1_1.Since)

/-! ### (*beaconfleet/command.Office).aged -/
noncomputable def command_Office_aged_2_x1 (qo : Int) (qo1 : Int) (qe : Option (List UInt8 × api_Note)) : (List (List UInt8 × api_Note)) × (List api_Note) → Option (((List (List UInt8 × api_Note)) × (List api_Note)) ⊕ (((List (List UInt8 × api_Note)) × (List api_Note))))
  | (vm, vover) =>
  match qe with
  | none =>
    some (.inr (vm, vover))
  | some ve1 =>
    (command_Office_grown_2 qo qo1 (api_Note.mk (api_Letter.mk ve1.2.Letter.Id ve1.2.Letter.Slot ve1.2.Letter.Body ve1.2.Letter.Prio ve1.2.Letter.At ve1.2.Letter.Until) ve1.2.State ve1.2.Tries ve1.2.Since)).bind fun vr2_1 =>
    (command_ended vr2_1.State).bind fun _ =>
    cond (decide (3 ≤ vr2_1.State))
      (gd (Nat.ble (vover.length + ([api_Note.mk (api_Letter.mk vr2_1.Letter.Id vr2_1.Letter.Slot vr2_1.Letter.Body vr2_1.Letter.Prio vr2_1.Letter.At vr2_1.Letter.Until) vr2_1.State vr2_1.Tries vr2_1.Since] : List api_Note).length) LIM) <|
      some (.inl (aput vm ve1.1 (api_Note.mk (api_Letter.mk vr2_1.Letter.Id vr2_1.Letter.Slot vr2_1.Letter.Body vr2_1.Letter.Prio vr2_1.Letter.At vr2_1.Letter.Until) vr2_1.State vr2_1.Tries vr2_1.Since), vover ++ ([api_Note.mk (api_Letter.mk vr2_1.Letter.Id vr2_1.Letter.Slot vr2_1.Letter.Body vr2_1.Letter.Prio vr2_1.Letter.At vr2_1.Letter.Until) vr2_1.State vr2_1.Tries vr2_1.Since] : List api_Note))))
      (some (.inl (aput vm ve1.1 (api_Note.mk (api_Letter.mk vr2_1.Letter.Id vr2_1.Letter.Slot vr2_1.Letter.Body vr2_1.Letter.Prio vr2_1.Letter.At vr2_1.Letter.Until) vr2_1.State vr2_1.Tries vr2_1.Since), vover)))

noncomputable def command_Office_aged_2_x2 (qo1 : Int) (vl3 : List api_Note) : (List (List UInt8 × api_Note)) × Int → Option (((List (List UInt8 × api_Note)) × Int) ⊕ ((List (List UInt8 × api_Note))))
  | (vm2, vx) =>
  cond (decide (vx < ((vl3.take (imax 0 (IntKind.wrap .i64 ((vl3.length : Int) - qo1))).toNat).length : Int)))
    ((at? (vl3.take (imax 0 (IntKind.wrap .i64 ((vl3.length : Int) - qo1))).toNat) vx).bind fun vy1 =>
    some (.inl (adel vm2 vy1.Letter.Id, IntKind.wrap .i64 (vx + 1))))
    (some (.inr vm2))

noncomputable def command_Office_aged_2 (qo : Int) (qo1 : Int) (qm : List (List UInt8 × api_Note)) : Option ((List (List UInt8 × api_Note))) :=
  allPerm qm fun zo =>
  (rngO (command_Office_aged_2_x1 qo qo1) zo (([] : List (List UInt8 × api_Note)), [])).bind fun (vm1_1, vover1_1) =>
  (slices_SortFunc_api_Note_api_Note_o0_f1_command_Office_aged_1 vover1_1).bind fun vl3 =>
  gd (vl3.length == vover1_1.length) <|
  gd (decide (0 ≤ (imax 0 (IntKind.wrap .i64 ((vl3.length : Int) - qo1)))) && decide ((imax 0 (IntKind.wrap .i64 ((vl3.length : Int) - qo1))) ≤ (vl3.length : Int))) <|
  (loopO (command_Office_aged_2_x2 qo1 vl3) (vm1_1, 0)).bind fun vm3_1 =>
  some vm3_1

/-! ### (*beaconfleet/command.Office).keep -/
noncomputable def command_Office_keep_2 (qo : Int) (qo1 : Int) (qm : List (List UInt8 × api_Note)) (qm1 : List (List UInt8 × api_Note)) : Option (Unit) :=
  some ()

/-! ### (*beaconfleet/command.Office).Waiting -/
noncomputable def command_Office_Waiting (qo : Int) (qo1 : Int) (qm : List (List UInt8 × api_Note)) : Option (Int ⊕ ((List (List UInt8 × api_Note)) × Int)) :=
  (command_Office_timeFault_2 qo qo1 qm).bind fun vr =>
  cond (!decide (vr = 0))
    (some (.inl vr))
    ((command_Office_aged_2 qo qo1 qm).bind fun vm4 =>
    (command_Office_keep_2 qo qo1 qm vm4).bind fun _ =>
    (command_pending vm4).bind fun vr1 =>
    some (.inr (vm4, vr1)))

/-! ### beaconfleet/fleetlaw2.posted -/
noncomputable def fleetlaw2_posted_x1 (vr : Int) : Option (Unit) :=
  cond (!decide (vr = 0))
    (some ())
    (some ())

noncomputable def fleetlaw2_posted_x2 : Option (((List (List UInt8 × api_Note)) × Bool)) :=
  cond (!decide ((0 : Int) = 0))
    (some (([] : List (List UInt8 × api_Note)), true))
    ((command_Office_Put 1 0 ([] : List (List UInt8 × api_Note)) (api_Letter.mk ([97] : List UInt8) ([] : List UInt8) ([] : List UInt8) 0 0 5)).bind fun x => match x with
      | .inl vr4 =>
        some (([] : List (List UInt8 × api_Note)), !decide (vr4 = 0))
      | .inr vm2 =>
        some (vm2, false))

noncomputable def fleetlaw2_posted_x3 (vm1 : List (List UInt8 × api_Note)) : Option ((Int × Int)) :=
  (command_Office_Waiting 1 0 vm1).bind fun x => match x with
    | .inl vr2 =>
      some (vr2, 0)
    | .inr (vm3, vr3) =>
      some (0, vr3)

noncomputable def fleetlaw2_posted_x4 (ve1 : Int) (vn1 : Int) : Option (Bool) :=
  cond (decide (ve1 = 0))
    (some (decide (vn1 = 1)))
    (some false)

noncomputable def fleetlaw2_posted : Option (Bool) :=
  (command_New (api_Post.mk 1 1 1 0)).bind fun x => match x with
    | .inl vr =>
      (fleetlaw2_posted_x1 vr).bind fun _ =>
      some false
    | .inr _ =>
      (fleetlaw2_posted_x2).bind fun (vm1, vx1) =>
      cond (vx1)
        (some false)
        ((fleetlaw2_posted_x3 vm1).bind fun (ve1, vn1) =>
        (fleetlaw2_posted_x4 ve1 vn1).bind fun vx2_1 =>
        some vx2_1)

/-! ### (*beaconfleet/fleetmake.Stream).Range -/
noncomputable def fleetmake_Stream_Range (qs : fleetmake_Stream) (qlow : Int) (qhigh : Int) : Option (fleetmake_Stream × Int) :=
  cond (decide (qhigh < qlow))
    (some (qs, qlow))
    ((fleetmake_Stream_Next qs (IntKind.wrap .i64 ((IntKind.wrap .i64 (qhigh - qlow)) + 1))).bind fun vr3 =>
    some (fleetmake_Stream.mk qs.L (IntKind.wrap .i64 (qs.at_ + 1)), IntKind.wrap .i64 (qlow + vr3)))

/-! ### (*beaconfleet/fleetmake.Stream).Flip -/
noncomputable def fleetmake_Stream_Flip (qs : fleetmake_Stream) (qn : Int) : Option (Bool) :=
  (fleetmake_Stream_Next qs qn).bind fun vr3 =>
  some (decide (vr3 = 0))

/-! ### (*beaconfleet/fleetmake.Stream).Some -/
noncomputable def fleetmake_Stream_Some_o1 (qs : fleetmake_Stream) (ql : List (List UInt8)) : Option ((List UInt8)) :=
  (fleetmake_Stream_Next qs (ql.length : Int)).bind fun vr3 =>
  (at? ql vr3).bind fun vy =>
  some vy

/-! ### (*beaconfleet/fleetmake.Stream).RightLetter -/
noncomputable def fleetmake_Stream_RightLetter (qs : fleetmake_Stream) (qat : Int) : Option (api_Letter) :=
  (fleetmake_Stream_Some_o1 qs ([([108, 97] : List UInt8), ([108, 98] : List UInt8), ([108, 99] : List UInt8), ([108, 100] : List UInt8), ([108, 101] : List UInt8), ([108, 102] : List UInt8)] : List (List UInt8))).bind fun vr =>
  (fleetmake_Stream_Some_o1 (fleetmake_Stream.mk qs.L (IntKind.wrap .i64 (qs.at_ + 1))) ([([] : List UInt8), ([] : List UInt8), ([115, 97] : List UInt8), ([115, 98] : List UInt8)] : List (List UInt8))).bind fun vr1 =>
  (fleetmake_Stream_Some_o1 (fleetmake_Stream.mk qs.L (IntKind.wrap .i64 ((IntKind.wrap .i64 (qs.at_ + 1)) + 1))) ([([100, 111] : List UInt8), ([] : List UInt8), ([97, 32, 34, 98, 34] : List UInt8)] : List (List UInt8))).bind fun vr2 =>
  (fleetmake_Stream_Pick_o1 (fleetmake_Stream.mk qs.L (IntKind.wrap .i64 ((IntKind.wrap .i64 ((IntKind.wrap .i64 (qs.at_ + 1)) + 1)) + 1))) ([0, 0, 1, 5, 9] : List Int)).bind fun vr3 =>
  (fleetmake_Stream_Pick_o1 (fleetmake_Stream.mk qs.L (IntKind.wrap .i64 ((IntKind.wrap .i64 ((IntKind.wrap .i64 ((IntKind.wrap .i64 (qs.at_ + 1)) + 1)) + 1)) + 1))) ([1, 5, 10, 20, 50, 1000] : List Int)).bind fun vr4 =>
  some (api_Letter.mk vr vr1 vr2 vr3 qat (IntKind.wrap .i64 (qat + vr4)))

/-! ### strings.Repeat -/
noncomputable def strings_Repeat (qx : List UInt8) (qx1 : Int) : Option (List UInt8) :=
  gd (decide (0 ≤ qx1) && decide (qx1 ≤ 9223372036854775807) && decide (qx.length * qx1.toNat ≤ 140737488355328)) (some (Lib.repeatL qx qx1.toNat))

/-! ### (*beaconfleet/fleetmake.Stream).Odd -/
noncomputable def fleetmake_Stream_Odd (qs : fleetmake_Stream) (qlow : Int) (qhigh : Int) : Option (fleetmake_Stream × Int) :=
  (fleetmake_Stream_Flip qs 12).bind fun vr =>
  cond (vr)
    ((fleetmake_Stream_Pick_o1 (fleetmake_Stream.mk qs.L (IntKind.wrap .i64 (qs.at_ + 1))) ([IntKind.wrap .i64 (qlow - 1), IntKind.wrap .i64 (qhigh + 1), qlow, qhigh, (-1099511627776), 1099511627776] : List Int)).bind fun vr1 =>
    some (fleetmake_Stream.mk qs.L (IntKind.wrap .i64 ((IntKind.wrap .i64 (qs.at_ + 1)) + 1)), vr1))
    ((fleetmake_Stream_Range (fleetmake_Stream.mk qs.L (IntKind.wrap .i64 (qs.at_ + 1))) qlow qhigh).bind fun (vs, vr2) =>
    some (vs, vr2))

/-! ### (*beaconfleet/fleetmake.Stream).Letter -/
noncomputable def fleetmake_Stream_Letter_x1 (qs : fleetmake_Stream) (vr5 : api_Letter) : Option ((fleetmake_Stream × api_Letter)) :=
  (fleetmake_Stream_Flip (fleetmake_Stream.mk qs.L (IntKind.wrap .i64 ((IntKind.wrap .i64 ((IntKind.wrap .i64 ((IntKind.wrap .i64 ((IntKind.wrap .i64 (qs.at_ + 1)) + 1)) + 1)) + 1)) + 1))) 15).bind fun vr =>
  cond (vr)
    ((fleetmake_Stream_Next (fleetmake_Stream.mk qs.L (IntKind.wrap .i64 ((IntKind.wrap .i64 ((IntKind.wrap .i64 ((IntKind.wrap .i64 ((IntKind.wrap .i64 ((IntKind.wrap .i64 (qs.at_ + 1)) + 1)) + 1)) + 1)) + 1)) + 1))) 5).bind fun vr3 =>
    cond (decide (vr3 = 0))
      ((fleetmake_Stream_Some_o1 (fleetmake_Stream.mk qs.L (IntKind.wrap .i64 ((IntKind.wrap .i64 ((IntKind.wrap .i64 ((IntKind.wrap .i64 ((IntKind.wrap .i64 ((IntKind.wrap .i64 ((IntKind.wrap .i64 (qs.at_ + 1)) + 1)) + 1)) + 1)) + 1)) + 1)) + 1))) ([([] : List UInt8), ([65] : List UInt8)] : List (List UInt8))).bind fun vr1 =>
      some (fleetmake_Stream.mk qs.L (IntKind.wrap .i64 ((IntKind.wrap .i64 ((IntKind.wrap .i64 ((IntKind.wrap .i64 ((IntKind.wrap .i64 ((IntKind.wrap .i64 ((IntKind.wrap .i64 ((IntKind.wrap .i64 (qs.at_ + 1)) + 1)) + 1)) + 1)) + 1)) + 1)) + 1)) + 1)), api_Letter.mk vr1 vr5.Slot vr5.Body vr5.Prio vr5.At vr5.Until))
      (cond (decide (vr3 = 1))
        ((fleetmake_Stream_Some_o1 (fleetmake_Stream.mk qs.L (IntKind.wrap .i64 ((IntKind.wrap .i64 ((IntKind.wrap .i64 ((IntKind.wrap .i64 ((IntKind.wrap .i64 ((IntKind.wrap .i64 ((IntKind.wrap .i64 (qs.at_ + 1)) + 1)) + 1)) + 1)) + 1)) + 1)) + 1))) ([([65] : List UInt8), ([45] : List UInt8)] : List (List UInt8))).bind fun vr2 =>
        some (fleetmake_Stream.mk qs.L (IntKind.wrap .i64 ((IntKind.wrap .i64 ((IntKind.wrap .i64 ((IntKind.wrap .i64 ((IntKind.wrap .i64 ((IntKind.wrap .i64 ((IntKind.wrap .i64 ((IntKind.wrap .i64 (qs.at_ + 1)) + 1)) + 1)) + 1)) + 1)) + 1)) + 1)) + 1)), api_Letter.mk vr5.Id vr2 vr5.Body vr5.Prio vr5.At vr5.Until))
        (cond (decide (vr3 = 2))
          ((strings_Repeat ([98] : List UInt8) 1001).bind fun vr4 =>
          (fleetmake_Stream_Some_o1 (fleetmake_Stream.mk qs.L (IntKind.wrap .i64 ((IntKind.wrap .i64 ((IntKind.wrap .i64 ((IntKind.wrap .i64 ((IntKind.wrap .i64 ((IntKind.wrap .i64 ((IntKind.wrap .i64 (qs.at_ + 1)) + 1)) + 1)) + 1)) + 1)) + 1)) + 1))) ([([10] : List UInt8), ([127] : List UInt8), ([255] : List UInt8), vr4] : List (List UInt8))).bind fun vr6 =>
          some (fleetmake_Stream.mk qs.L (IntKind.wrap .i64 ((IntKind.wrap .i64 ((IntKind.wrap .i64 ((IntKind.wrap .i64 ((IntKind.wrap .i64 ((IntKind.wrap .i64 ((IntKind.wrap .i64 ((IntKind.wrap .i64 (qs.at_ + 1)) + 1)) + 1)) + 1)) + 1)) + 1)) + 1)) + 1)), api_Letter.mk vr5.Id vr5.Slot vr6 vr5.Prio vr5.At vr5.Until))
          (cond (decide (vr3 = 3))
            ((fleetmake_Stream_Odd (fleetmake_Stream.mk qs.L (IntKind.wrap .i64 ((IntKind.wrap .i64 ((IntKind.wrap .i64 ((IntKind.wrap .i64 ((IntKind.wrap .i64 ((IntKind.wrap .i64 ((IntKind.wrap .i64 (qs.at_ + 1)) + 1)) + 1)) + 1)) + 1)) + 1)) + 1))) 0 9).bind fun (vs1, vr3_1) =>
            some (vs1, api_Letter.mk vr5.Id vr5.Slot vr5.Body vr3_1 vr5.At vr5.Until))
            ((fleetmake_Stream_Odd (fleetmake_Stream.mk qs.L (IntKind.wrap .i64 ((IntKind.wrap .i64 ((IntKind.wrap .i64 ((IntKind.wrap .i64 ((IntKind.wrap .i64 ((IntKind.wrap .i64 ((IntKind.wrap .i64 (qs.at_ + 1)) + 1)) + 1)) + 1)) + 1)) + 1)) + 1))) 0 50).bind fun (vs1_1, vr3_2) =>
            (fleetmake_Stream_Odd vs1_1 0 100).bind fun (vs1_2, vr3_3) =>
            some (vs1_2, api_Letter.mk vr5.Id vr5.Slot vr5.Body vr5.Prio vr3_2 vr3_3))))))
    (some (fleetmake_Stream.mk qs.L (IntKind.wrap .i64 ((IntKind.wrap .i64 ((IntKind.wrap .i64 ((IntKind.wrap .i64 ((IntKind.wrap .i64 ((IntKind.wrap .i64 (qs.at_ + 1)) + 1)) + 1)) + 1)) + 1)) + 1)), vr5))

noncomputable def fleetmake_Stream_Letter (qs : fleetmake_Stream) (qat : Int) : Option (fleetmake_Stream × api_Letter) :=
  (fleetmake_Stream_RightLetter qs qat).bind fun vr5 =>
  (fleetmake_Stream_Letter_x1 qs vr5).bind fun (vs2, vl1) =>
  some (vs2, vl1)

/-! ### (*beaconfleet/command.Doer).Do$1 -/
noncomputable def command_Doer_Do_1 (qx : command_done) (qx1 : api_Letter) : Option (Unit) :=
  some ()

/-! ### slices.IndexFunc[[]beaconfleet/command.done,beaconfleet/command.done] -/
noncomputable def slices_IndexFunc_command_done_command_done_f1_command_Doer_Do_1_x1 (qs : List command_done) (qf : api_Letter) (vx : Int) : Option ((Int) ⊕ (Unit ⊕ Int)) :=
  cond (decide (vx < (qs.length : Int)))
    ((at? qs vx).bind fun vy1 =>
    (command_Doer_Do_1 vy1 qf).bind fun _ =>
    cond (decide (vy1.id_ = qf.Id))
      (some (.inr (.inr vx)))
      (some (.inl (IntKind.wrap .i64 (vx + 1)))))
    (some (.inr (.inl ())))

noncomputable def slices_IndexFunc_command_done_command_done_f1_command_Doer_Do_1 (qs : List command_done) (qf : api_Letter) : Option (Int) :=
  (loopO (slices_IndexFunc_command_done_command_done_f1_command_Doer_Do_1_x1 qs qf) 0).bind fun x => match x with
    | .inl _ =>
      some (-1)
    | .inr vx1_1 =>
      some vx1_1

/-! ### slices.ContainsFunc[[]beaconfleet/command.done,beaconfleet/command.done] -/
noncomputable def slices_ContainsFunc_command_done_command_done_f1_command_Doer_Do_1 (qs : List command_done) (qf : api_Letter) : Option (Bool) :=
  (slices_IndexFunc_command_done_command_done_f1_command_Doer_Do_1 qs qf).bind fun vr =>
  some (decide (0 ≤ vr))

/-! ### slices.Clone[[]beaconfleet/command.done,beaconfleet/command.done] -/
noncomputable def slices_Clone_command_done_command_done (qs : List command_done) : Option (List command_done) :=
  gd (Nat.ble (([] : List command_done).length + qs.length) LIM) (some qs)

/-! ### slices.Delete[[]beaconfleet/command.done,beaconfleet/command.done] -/
noncomputable def slices_Delete_command_done_command_done_o0 (qs : List command_done) (qi : Int) (qj : Int) : Option (List command_done) :=
  gd (decide (0 ≤ qi) && decide (qi ≤ qj) && decide (qj ≤ (qs.length : Int)) && decide ((qs.length : Int) ≤ (qs.length : Int))) (cond (decide (qi = qj)) (some qs) (some (qs.take qi.toNat ++ qs.drop qj.toNat)))

/-! ### (*beaconfleet/command.Doer).Do -/
noncomputable def command_Doer_Do_x1 (qx : command_Doer) (qx1 : api_Letter) (qx2 : Int) : Option (Bool) :=
  cond (decide (qx1.Until ≤ qx2))
    (some true)
    ((slices_ContainsFunc_command_done_command_done_f1_command_Doer_Do_1 qx.l_ qx1).bind fun vr1_1 =>
    some vr1_1)

noncomputable def command_Doer_Do_x4 (vx2 : List command_done) (vx8 : Int) (vx9 : Int) : Option (Int) :=
  (at? vx2 vx9).bind fun vy7 =>
  (at? vx2 vx8).bind fun vy8 =>
  cond (decide (vy7.until_ < vy8.until_))
    (some vx9)
    (some vx8)

noncomputable def command_Doer_Do_x3 (vx2 : List command_done) : Int × Int → Option ((Int × Int) ⊕ (Int))
  | (vx8, vx9) =>
  cond (decide (vx9 < (vx2.length : Int)))
    ((command_Doer_Do_x4 vx2 vx8 vx9).bind fun vx11_1 =>
    some (.inl (vx11_1, IntKind.wrap .i64 (vx9 + 1))))
    (some (.inr vx8))

noncomputable def command_Doer_Do_x2 (qx : command_Doer) (qx2 : Int) (vx2 : List command_done) : Option (((List command_done)) ⊕ ((List command_done) ⊕ Unit)) :=
  cond (decide (qx.most_ < (vx2.length : Int)))
    ((loopO (command_Doer_Do_x3 vx2) (0, 0)).bind fun vx12_1 =>
    (at? vx2 vx12_1).bind fun vy9 =>
    cond (decide (qx2 < vy9.until_))
      (some (.inr (.inr ())))
      ((slices_Delete_command_done_command_done_o0 vx2 vx12_1 (IntKind.wrap .i64 (vx12_1 + 1))).bind fun vr4 =>
      some (.inl vr4)))
    (some (.inr (.inl vx2)))

noncomputable def command_Doer_Do (qx : command_Doer) (qx1 : api_Letter) (qx2 : Int) : Option ((List command_done) × Int × Bool × Int) :=
  (command_CheckLetter qx1).bind fun vr3 =>
  cond (!decide (vr3 = 0))
    (some (qx.l_, qx.time_, false, vr3))
    ((base_Moment qx2).bind fun vr1 =>
    cond (!vr1)
      (some (qx.l_, qx.time_, false, 1))
      (cond (decide (qx2 < qx.time_))
        (some (qx.l_, qx.time_, false, 7))
        ((command_Doer_Do_x1 qx qx1 qx2).bind fun vx1 =>
        cond (vx1)
          (some (qx.l_, qx2, false, 0))
          ((slices_Clone_command_done_command_done qx.l_).bind fun vr =>
          gd (Nat.ble (vr.length + ([command_done.mk qx1.Id qx1.Until] : List command_done).length) LIM) <|
          (loopO (command_Doer_Do_x2 qx qx2) (vr ++ ([command_done.mk qx1.Id qx1.Until] : List command_done))).bind fun x => match x with
            | .inl vx13_1 =>
              some (vx13_1, qx2, true, 0)
            | .inr _ =>
              some (qx.l_, qx.time_, false, 12)))))

/-! ### beaconfleet/fleetref2.in -/
noncomputable def fleetref2_in_x1 (qn : Int) (qlow : Int) (qhigh : Int) : Option (Bool) :=
  cond (decide (qlow ≤ qn))
    (some (decide (qn ≤ qhigh)))
    (some false)

noncomputable def fleetref2_in (qn : Int) (qlow : Int) (qhigh : Int) : Option (Bool) :=
  (fleetref2_in_x1 qn qlow qhigh).bind fun vx1 =>
  some vx1

/-! ### internal/stringslite.IndexByte -/
noncomputable def stringslite_IndexByte (qs : List UInt8) (qc : Int) : Option (Unit) :=
  some ()

/-! ### strings.IndexByte -/
noncomputable def strings_IndexByte (qs : List UInt8) (qc : Int) : Option (Unit) :=
  (stringslite_IndexByte qs qc).bind fun _ =>
  some ()

/-! ### beaconfleet/fleetref2.only -/
noncomputable def fleetref2_only_x1 (qs : List UInt8) (qsome : List UInt8) (vx : Int) : Option ((Int) ⊕ (Unit ⊕ Unit)) :=
  cond (decide (vx < (qs.length : Int)))
    ((at? qs vx).bind fun vc1 =>
    (strings_IndexByte qsome (vc1.toNat : Int)).bind fun _ =>
    cond (decide ((Lib.indexByte qsome (vc1.toNat : Int).toNat.toUInt8) < 0))
      (some (.inr (.inr ())))
      (some (.inl (IntKind.wrap .i64 (vx + 1)))))
    (some (.inr (.inl ())))

noncomputable def fleetref2_only (qs : List UInt8) (qsome : List UInt8) : Option (Bool) :=
  (loopO (fleetref2_only_x1 qs qsome) 0).bind fun x => match x with
    | .inl _ =>
      some true
    | .inr _ =>
      some false

/-! ### beaconfleet/fleetref2.Key -/
noncomputable def fleetref2_Key_x1 (qs : List UInt8) : Option (Bool) :=
  (fleetref2_in (qs.length : Int) 1 40).bind fun vr =>
  cond (vr)
    ((sub? qs 0 1).bind fun vs =>
    (fleetref2_only vs ([97, 98, 99, 100, 101, 102, 103, 104, 105, 106, 107, 108, 109, 110, 111, 112, 113, 114, 115, 116, 117, 118, 119, 120, 121, 122] : List UInt8)).bind fun vr1 =>
    cond (vr1)
      ((fleetref2_only qs ([97, 98, 99, 100, 101, 102, 103, 104, 105, 106, 107, 108, 109, 110, 111, 112, 113, 114, 115, 116, 117, 118, 119, 120, 121, 122, 48, 49, 50, 51, 52, 53, 54, 55, 56, 57, 45, 95] : List UInt8)).bind fun vr2 =>
      some vr2)
      (some false))
    (some false)

noncomputable def fleetref2_Key (qs : List UInt8) : Option (Bool) :=
  (fleetref2_Key_x1 qs).bind fun vx1 =>
  some vx1

/-! ### beaconfleet/fleetref2.Printed$1 -/
noncomputable def fleetref2_Printed_1_x1 (qr : Int) : Option (Bool) :=
  cond (decide (qr < 32))
    (some true)
    (some (decide (qr = 127)))

noncomputable def fleetref2_Printed_1 (qr : Int) : Option (Bool) :=
  (fleetref2_Printed_1_x1 qr).bind fun vx1 =>
  some vx1

/-! ### strings.indexFunc -/
noncomputable def strings_indexFunc_f1_fleetref2_Printed_1_x1 (qs : List UInt8) (qtruth : Bool) (vpos : Nat) : Option ((Nat) ⊕ (Unit ⊕ Int)) :=
  cond (decide (vpos < qs.length))
    ((some (dec qs vpos)).bind fun vd1 =>
    (fleetref2_Printed_1 ((vd1.1 : Nat) : Int)).bind fun vr1 =>
    cond (vr1 == qtruth)
      (some (.inr (.inr ((vpos : Nat) : Int))))
      (some (.inl (vpos + vd1.2 : Nat))))
    (some (.inr (.inl ())))

noncomputable def strings_indexFunc_f1_fleetref2_Printed_1 (qs : List UInt8) (qtruth : Bool) : Option (Int) :=
  (loopO (strings_indexFunc_f1_fleetref2_Printed_1_x1 qs qtruth) (0 : Nat)).bind fun x => match x with
    | .inl _ =>
      some (-1)
    | .inr vx1 =>
      some vx1

/-! ### strings.IndexFunc -/
noncomputable def strings_IndexFunc_f1_fleetref2_Printed_1 (qs : List UInt8) : Option (Int) :=
  (strings_indexFunc_f1_fleetref2_Printed_1 qs true).bind fun vr2 =>
  some vr2

/-! ### strings.ContainsFunc -/
noncomputable def strings_ContainsFunc_f1_fleetref2_Printed_1 (qs : List UInt8) : Option (Bool) :=
  (strings_IndexFunc_f1_fleetref2_Printed_1 qs).bind fun vr =>
  some (decide (0 ≤ vr))

/-! ### beaconfleet/fleetref2.Printed -/
noncomputable def fleetref2_Printed_x1 (qs : List UInt8) : Option (Bool) :=
  (utf8_ValidString qs).bind fun vr =>
  cond (vr)
    ((strings_ContainsFunc_f1_fleetref2_Printed_1 qs).bind fun vr1 =>
    some (!vr1))
    (some false)

noncomputable def fleetref2_Printed (qs : List UInt8) : Option (Bool) :=
  (fleetref2_Printed_x1 qs).bind fun vx1 =>
  some vx1

/-! ### beaconfleet/fleetref2.Moment -/
noncomputable def fleetref2_Moment (qat : Int) : Option (Bool) :=
  (fleetref2_in qat 0 345686399999).bind fun vr =>
  some vr

/-! ### beaconfleet/fleetref2.LetterFault -/
noncomputable def fleetref2_LetterFault_x1 (ql : api_Letter) : Option (Bool) :=
  (fleetref2_Key ql.Id).bind fun vr3 =>
  cond (!vr3)
    (some true)
    (cond (!decide (ql.Slot = ([] : List UInt8)))
      ((fleetref2_Key ql.Slot).bind fun vr3_1 =>
      some (!vr3_1))
      (some false))

noncomputable def fleetref2_LetterFault_x2 (ql : api_Letter) : Option (Bool) :=
  (fleetref2_in ql.Prio 0 9).bind fun vr =>
  cond (!vr)
    (some true)
    ((fleetref2_Moment ql.At).bind fun vr1 =>
    cond (!vr1)
      (some true)
      (cond (decide (ql.Until ≤ ql.At))
        (some true)
        (some (decide (345686400000 < ql.Until)))))

noncomputable def fleetref2_LetterFault (ql : api_Letter) : Option (Int) :=
  (fleetref2_LetterFault_x1 ql).bind fun vx1 =>
  cond (vx1)
    (some 5)
    (cond (decide (1000 < (ql.Body.length : Int)))
      (some 2)
      ((fleetref2_Printed ql.Body).bind fun vr2 =>
      cond (!vr2)
        (some 3)
        ((fleetref2_LetterFault_x2 ql).bind fun vx2_1 =>
        cond (vx2_1)
          (some 1)
          (some 0))))

/-! ### (*beaconfleet/fleetref2.Hand).Do$1 -/
noncomputable def fleetref2_Hand_Do_1 (qo : api_Letter) (qx : api_Letter) : Option (Unit) :=
  some ()

/-! ### slices.IndexFunc[[]beaconfleet/api.Letter,beaconfleet/api.Letter] -/
noncomputable def slices_IndexFunc_api_Letter_api_Letter_f1_fleetref2_Hand_Do_1_x1 (qs : List api_Letter) (qf : api_Letter) (vx : Int) : Option ((Int) ⊕ (Unit ⊕ Int)) :=
  cond (decide (vx < (qs.length : Int)))
    ((at? qs vx).bind fun vy1 =>
    (fleetref2_Hand_Do_1 vy1 qf).bind fun _ =>
    cond (decide (vy1.Id = qf.Id))
      (some (.inr (.inr vx)))
      (some (.inl (IntKind.wrap .i64 (vx + 1)))))
    (some (.inr (.inl ())))

noncomputable def slices_IndexFunc_api_Letter_api_Letter_f1_fleetref2_Hand_Do_1 (qs : List api_Letter) (qf : api_Letter) : Option (Int) :=
  (loopO (slices_IndexFunc_api_Letter_api_Letter_f1_fleetref2_Hand_Do_1_x1 qs qf) 0).bind fun x => match x with
    | .inl _ =>
      some (-1)
    | .inr vx1_1 =>
      some vx1_1

/-! ### slices.ContainsFunc[[]beaconfleet/api.Letter,beaconfleet/api.Letter] -/
noncomputable def slices_ContainsFunc_api_Letter_api_Letter_f1_fleetref2_Hand_Do_1 (qs : List api_Letter) (qf : api_Letter) : Option (Bool) :=
  (slices_IndexFunc_api_Letter_api_Letter_f1_fleetref2_Hand_Do_1 qs qf).bind fun vr =>
  some (decide (0 ≤ vr))

/-! ### slices.Clone[[]beaconfleet/api.Letter,beaconfleet/api.Letter] -/
noncomputable def slices_Clone_api_Letter_api_Letter (qs : List api_Letter) : Option (List api_Letter) :=
  gd (Nat.ble (([] : List api_Letter).length + qs.length) LIM) (some qs)

/-! ### slices.Delete[[]beaconfleet/api.Letter,beaconfleet/api.Letter] -/
noncomputable def slices_Delete_api_Letter_api_Letter_o0 (qs : List api_Letter) (qi : Int) (qj : Int) : Option (List api_Letter) :=
  gd (decide (0 ≤ qi) && decide (qi ≤ qj) && decide (qj ≤ (qs.length : Int)) && decide ((qs.length : Int) ≤ (qs.length : Int))) (cond (decide (qi = qj)) (some qs) (some (qs.take qi.toNat ++ qs.drop qj.toNat)))

/-! ### (*beaconfleet/fleetref2.Hand).Do -/
noncomputable def fleetref2_Hand_Do_x1 (qx1 : api_Letter) (qx2 : Int) (vr1_1 : Bool) : Option (Bool) :=
  cond (vr1_1)
    (some true)
    (some (decide (qx1.Until ≤ qx2)))

noncomputable def fleetref2_Hand_Do_x4 (vx2 : List api_Letter) (vx8 : Int) (vx9 : Int) : Option (Int) :=
  (at? vx2 vx9).bind fun vy7 =>
  (at? vx2 vx8).bind fun vy8 =>
  cond (decide (vy7.Until < vy8.Until))
    (some vx9)
    (some vx8)

noncomputable def fleetref2_Hand_Do_x3 (vx2 : List api_Letter) : Int × Int → Option ((Int × Int) ⊕ (Int))
  | (vx8, vx9) =>
  cond (decide (vx9 < (vx2.length : Int)))
    ((fleetref2_Hand_Do_x4 vx2 vx8 vx9).bind fun vx11_1 =>
    some (.inl (vx11_1, IntKind.wrap .i64 (vx9 + 1))))
    (some (.inr vx8))

noncomputable def fleetref2_Hand_Do_x2 (qx : fleetref2_Hand) (qx2 : Int) (vx2 : List api_Letter) : Option (((List api_Letter)) ⊕ ((List api_Letter) ⊕ Unit)) :=
  cond (decide (qx.Most < (vx2.length : Int)))
    ((loopO (fleetref2_Hand_Do_x3 vx2) (0, 0)).bind fun vx12_1 =>
    (at? vx2 vx12_1).bind fun vy9 =>
    cond (decide (qx2 < vy9.Until))
      (some (.inr (.inr ())))
      ((slices_Delete_api_Letter_api_Letter_o0 vx2 vx12_1 (IntKind.wrap .i64 (vx12_1 + 1))).bind fun vr3 =>
      some (.inl vr3)))
    (some (.inr (.inl vx2)))

noncomputable def fleetref2_Hand_Do (qx : fleetref2_Hand) (qx1 : api_Letter) (qx2 : Int) : Option ((List api_Letter) × Int × Bool × Int) :=
  (fleetref2_LetterFault qx1).bind fun vr4 =>
  cond (!decide (vr4 = 0))
    (some (qx.L, qx.time_, false, vr4))
    ((fleetref2_Moment qx2).bind fun vr1 =>
    cond (!vr1)
      (some (qx.L, qx.time_, false, 1))
      (cond (decide (qx2 < qx.time_))
        (some (qx.L, qx.time_, false, 7))
        ((slices_ContainsFunc_api_Letter_api_Letter_f1_fleetref2_Hand_Do_1 qx.L qx1).bind fun vr1_1 =>
        (fleetref2_Hand_Do_x1 qx1 qx2 vr1_1).bind fun vx1 =>
        cond (vx1)
          (some (qx.L, qx2, false, 0))
          ((slices_Clone_api_Letter_api_Letter qx.L).bind fun vr =>
          gd (Nat.ble (vr.length + ([qx1] : List api_Letter).length) LIM) <|
          (loopO (fleetref2_Hand_Do_x2 qx qx2) (vr ++ ([qx1] : List api_Letter))).bind fun x => match x with
            | .inl vx13_1 =>
              some (vx13_1, qx2, true, 0)
            | .inr _ =>
              some (qx.L, qx.time_, false, 12)))))

/-! ### (*beaconfleet/command.Doer).Done -/
noncomputable def command_Doer_Done_x1 (qd : command_Doer) : (List (List UInt8)) × Int → Option (((List (List UInt8)) × Int) ⊕ ((List (List UInt8))))
  | (vout, vx) =>
  cond (decide (vx < (qd.l_.length : Int)))
    ((at? qd.l_ vx).bind fun vy1 =>
    gd (Nat.ble (vout.length + ([vy1.id_] : List (List UInt8)).length) LIM) <|
    some (.inl (vout ++ ([vy1.id_] : List (List UInt8)), IntKind.wrap .i64 (vx + 1))))
    (some (.inr vout))

noncomputable def command_Doer_Done (qd : command_Doer) : Option ((List (List UInt8))) :=
  (loopO (command_Doer_Done_x1 qd) ([], 0)).bind fun vout1_1 =>
  some vout1_1

/-! ### (*beaconfleet/fleetref2.Hand).Done -/
noncomputable def fleetref2_Hand_Done_x1 (qh : fleetref2_Hand) : (List (List UInt8)) × Int → Option (((List (List UInt8)) × Int) ⊕ ((List (List UInt8))))
  | (vout, vx) =>
  cond (decide (vx < (qh.L.length : Int)))
    ((at? qh.L vx).bind fun vy1 =>
    gd (Nat.ble (vout.length + ([vy1.Id] : List (List UInt8)).length) LIM) <|
    some (.inl (vout ++ ([vy1.Id] : List (List UInt8)), IntKind.wrap .i64 (vx + 1))))
    (some (.inr vout))

noncomputable def fleetref2_Hand_Done (qh : fleetref2_Hand) : Option ((List (List UInt8))) :=
  (loopO (fleetref2_Hand_Done_x1 qh) ([], 0)).bind fun vout1_1 =>
  some vout1_1

/-! ### slices.Equal[[]string,string] -/
noncomputable def slices_Equal_string_string_x1 (qs1 : List (List UInt8)) (qs2 : List (List UInt8)) (vx : Int) : Option ((Int) ⊕ (Unit ⊕ Unit)) :=
  cond (decide (vx < (qs1.length : Int)))
    ((at? qs1 vx).bind fun vy2 =>
    (at? qs2 vx).bind fun vy3 =>
    cond (!decide (vy2 = vy3))
      (some (.inr (.inr ())))
      (some (.inl (IntKind.wrap .i64 (vx + 1)))))
    (some (.inr (.inl ())))

noncomputable def slices_Equal_string_string (qs1 : List (List UInt8)) (qs2 : List (List UInt8)) : Option (Bool) :=
  cond (!decide ((qs1.length : Int) = (qs2.length : Int)))
    (some false)
    ((loopO (slices_Equal_string_string_x1 qs1 qs2) 0).bind fun x => match x with
      | .inl _ =>
        some true
      | .inr _ =>
        some false)

/-! ### beaconfleet/fleetlaw2.DevicesRemember -/
noncomputable def fleetlaw2_DevicesRemember_x1 (vr : Int) : Option (Int) :=
  cond (decide (vr < 1))
    ((fleetlaw2_when true 1).bind fun vr1 =>
    some vr1)
    ((fleetlaw2_when (decide (1000 < vr)) 1).bind fun vr2 =>
    some vr2)

noncomputable def fleetlaw2_DevicesRemember_x2 (vx1 : Int) : Option (Bool) :=
  cond (!decide ((1 : Int) = vx1))
    (some true)
    (some (!decide (vx1 = 0)))

noncomputable def fleetlaw2_DevicesRemember_x3 (vx1 : Int) : Option (Bool) :=
  cond (decide ((1 : Int) = vx1))
    ((fleetlaw2_posted).bind fun vr1_1 =>
    some vr1_1)
    (some false)

noncomputable def fleetlaw2_DevicesRemember_x4 (vr : Int) : Option (Int) :=
  cond (decide (vr < 1))
    ((fleetlaw2_when true 1).bind fun vr3 =>
    some vr3)
    ((fleetlaw2_when (decide (1000 < vr)) 1).bind fun vr4 =>
    some vr4)

noncomputable def fleetlaw2_DevicesRemember_x5 (vx4_1 : Int) : Option (Bool) :=
  cond (!decide ((0 : Int) = vx4_1))
    (some true)
    (some (!decide (vx4_1 = 0)))

noncomputable def fleetlaw2_DevicesRemember_x6 (vx4_1 : Int) : Option (Unit) :=
  cond (decide ((0 : Int) = vx4_1))
    (some ())
    (some ())

noncomputable def fleetlaw2_DevicesRemember_x8 (vx6 : fleetmake_Stream) (vx9 : Int) (vr13 : Int) : Option ((fleetmake_Stream × Int)) :=
  (fleetmake_Stream_Flip (fleetmake_Stream.mk vx6.L (IntKind.wrap .i64 (vx6.at_ + 1))) 25).bind fun vr14 =>
  cond (vr14)
    ((fleetmake_Stream_Pick_o1 (fleetmake_Stream.mk vx6.L (IntKind.wrap .i64 ((IntKind.wrap .i64 (vx6.at_ + 1)) + 1))) ([(-1), 345686400000, IntKind.wrap .i64 ((IntKind.wrap .i64 (vx9 + vr13)) - 1)] : List Int)).bind fun vr15 =>
    some (fleetmake_Stream.mk vx6.L (IntKind.wrap .i64 ((IntKind.wrap .i64 ((IntKind.wrap .i64 (vx6.at_ + 1)) + 1)) + 1)), vr15))
    (some (fleetmake_Stream.mk vx6.L (IntKind.wrap .i64 ((IntKind.wrap .i64 (vx6.at_ + 1)) + 1)), IntKind.wrap .i64 (vx9 + vr13)))

noncomputable def fleetlaw2_DevicesRemember_x9 (vx7 : command_Doer) (vx8 : fleetref2_Hand) (vs4 : List command_done) (vs1_3 : Int) (vr5_3 : Bool) (vr6_3 : Int) (vs5 : List api_Letter) (vs1_4 : Int) (vr5_4 : Bool) (vr6_4 : Int) : Option (Bool) :=
  cond (vr5_3 != vr5_4)
    (some true)
    (cond (!decide (vr6_3 = vr6_4))
      (some true)
      ((command_Doer_Done (command_Doer.mk vx7.most_ vs4 vs1_3)).bind fun vr17 =>
      (fleetref2_Hand_Done (fleetref2_Hand.mk vx8.Most vs5 vs1_4)).bind fun vr18 =>
      (slices_Equal_string_string vr17 vr18).bind fun vr19 =>
      some (!vr19)))

noncomputable def fleetlaw2_DevicesRemember_x7 (vr5 : Int) : fleetmake_Stream × command_Doer × fleetref2_Hand × Int × Int → Option ((fleetmake_Stream × command_Doer × fleetref2_Hand × Int × Int) ⊕ (Unit ⊕ Unit))
  | (vx6, vx7, vx8, vx9, vx10) =>
  cond (decide (vx10 < vr5))
    ((fleetmake_Stream_Pick_o1 vx6 ([0, 1, 2, 5, 10] : List Int)).bind fun vr13 =>
    (fleetlaw2_DevicesRemember_x8 vx6 vx9 vr13).bind fun (vx14_1, vx15_1) =>
    (fleetmake_Stream_Pick_o1 vx14_1 ([0, 0, 5, 20] : List Int)).bind fun vr16 =>
    (fleetmake_Stream_Letter (fleetmake_Stream.mk vx14_1.L (IntKind.wrap .i64 (vx14_1.at_ + 1))) (imax 0 (IntKind.wrap .i64 ((IntKind.wrap .i64 (vx9 + vr13)) - vr16)))).bind fun (vs3_1, vr7_2) =>
    (command_Doer_Do vx7 vr7_2 vx15_1).bind fun (vs4, vs1_3, vr5_3, vr6_3) =>
    (fleetref2_Hand_Do vx8 vr7_2 vx15_1).bind fun (vs5, vs1_4, vr5_4, vr6_4) =>
    (fleetlaw2_DevicesRemember_x9 vx7 vx8 vs4 vs1_3 vr5_3 vr6_3 vs5 vs1_4 vr5_4 vr6_4).bind fun vx16_1 =>
    cond (vx16_1)
      (some (.inr (.inr ())))
      (some (.inl (vs3_1, command_Doer.mk vx7.most_ vs4 vs1_3, fleetref2_Hand.mk vx8.Most vs5 vs1_4, IntKind.wrap .i64 (vx9 + vr13), IntKind.wrap .i64 (vx10 + 1)))))
    (some (.inr (.inl ())))

noncomputable def fleetlaw2_DevicesRemember (qx : List Int) : Option (Bool) :=
  (fleetmake_Stream_Pick_o1 (fleetmake_Stream.mk qx 0) ([1, 2, 3, 1000, 0, 1001] : List Int)).bind fun vr =>
  (command_NewDoer vr).bind fun x => match x with
    | .inl _ =>
      (fleetlaw2_DevicesRemember_x1 vr).bind fun vx1 =>
      (fleetlaw2_DevicesRemember_x2 vx1).bind fun vx2_1 =>
      cond (vx2_1)
        ((fleetlaw2_DevicesRemember_x3 vx1).bind fun vx3_1 =>
        some vx3_1)
        (some false)
    | .inr _ =>
      (fleetlaw2_DevicesRemember_x4 vr).bind fun vx4_1 =>
      (fleetlaw2_DevicesRemember_x5 vx4_1).bind fun vx5_1 =>
      cond (vx5_1)
        ((fleetlaw2_DevicesRemember_x6 vx4_1).bind fun _ =>
        some false)
        ((fleetmake_Stream_Range (fleetmake_Stream.mk qx (IntKind.wrap .i64 (0 + 1))) 1 14).bind fun (vs, vr5) =>
        (loopO (fleetlaw2_DevicesRemember_x7 vr5) (vs, command_Doer.mk vr [] 0, fleetref2_Hand.mk vr [] 0, 0, 0)).bind fun x => match x with
          | .inl _ =>
            (fleetlaw2_posted).bind fun vr1_2 =>
            some vr1_2
          | .inr _ =>
            some false)

end Go.Eng
