/-
The Go functions that the law LettersEnd reaches, as plain functions.
-/
import Derived.Test.YtigejlfinklddaaGreatDoorEngV

import Derived.Lib.ValidU

namespace Go.Eng

open Go

set_option linter.unusedVariables false

structure z453 where
  L : List Int
  at_ : Int

def z453.enc (x : z453) : List D := [.lst (List.map (encI .i64) x.L), .int .i64 x.at_]

structure api_Post where
  Room : Int
  Timeout : Int
  Tries : Int
  Kept : Int

def api_Post.enc (x : api_Post) : List D := [.int .i64 x.Room, .int .i64 x.Timeout, .int .i64 x.Tries, .int .i64 x.Kept]

structure api_Letter where
  Id : List UInt8
  Slot : List UInt8
  Body : List UInt8
  Prio : Int
  At : Int
  Until : Int

def api_Letter.enc (x : api_Letter) : List D := [.str x.Id, .str x.Slot, .str x.Body, .int .i64 x.Prio, .int .i64 x.At, .int .i64 x.Until]

structure api_Note where
  Letter : api_Letter
  State : Int
  Tries : Int
  Since : Int

def api_Note.enc (x : api_Note) : List D := [.str x.Letter.Id, .str x.Letter.Slot, .str x.Letter.Body, .int .i64 x.Letter.Prio, .int .i64 x.Letter.At, .int .i64 x.Letter.Until, .int .i64 x.State, .int .i64 x.Tries, .int .i64 x.Since]

structure api_Value where
  Kind : Int
  Flag : Bool
  Number : Int
  Words : List UInt8

def api_Value.enc (x : api_Value) : List D := [.int .i64 x.Kind, .bool x.Flag, .int .i64 x.Number, .str x.Words]

structure api_Prop where
  Name : List UInt8
  Value : api_Value

def api_Prop.enc (x : api_Prop) : List D := [.str x.Name, .int .i64 x.Value.Kind, .bool x.Value.Flag, .int .i64 x.Value.Number, .str x.Value.Words]

structure api_Change where
  Name : List UInt8
  From : api_Value
  To : api_Value

def api_Change.enc (x : api_Change) : List D := [.str x.Name, .int .i64 x.From.Kind, .bool x.From.Flag, .int .i64 x.From.Number, .str x.From.Words, .int .i64 x.To.Kind, .bool x.To.Flag, .int .i64 x.To.Number, .str x.To.Words]

structure api_Sample where
  Device : List UInt8
  Metric : List UInt8
  At : Int
  Value : Int

def api_Sample.enc (x : api_Sample) : List D := [.str x.Device, .str x.Metric, .int .i64 x.At, .int .i64 x.Value]

structure api_Version where
  Major : Int
  Minor : Int
  Patch : Int

def api_Version.enc (x : api_Version) : List D := [.int .i64 x.Major, .int .i64 x.Minor, .int .i64 x.Patch]

structure api_Spot where
  X : Int
  Y : Int

def api_Spot.enc (x : api_Spot) : List D := [.int .i64 x.X, .int .i64 x.Y]

/-! ### beaconfleet/fleetmake.Below -/
noncomputable def z448 (qx : Int) (qn : Int) : Option (Int) :=
  cond (decide ((qx.tmod qn) < 0))
    (some (IntKind.wrap .i64 ((qx.tmod qn) + qn)))
    (some (qx.tmod qn))

noncomputable def z445 (qx : Int) (qn : Int) : Option (Int) :=
  cond (decide (qn < 1))
    (some 0)
    (gd (!(qn == 0)) <|
    (z448 qx qn).bind fun vx1 =>
    some vx1)

/-! ### (*beaconfleet/fleetmake.Stream).Next -/
noncomputable def z454 (qs : z453) (qn : Int) : Option (Int) :=
  cond (decide ((qs.L.length : Int) = 0))
    ((z445 (IntKind.wrap .i64 ((IntKind.wrap .i64 (qs.at_ + 1)) * 7919)) qn).bind fun vr =>
    some vr)
    (gd (!((qs.L.length : Int) == 0)) <|
    (at? qs.L ((IntKind.wrap .i64 ((IntKind.wrap .i64 (qs.at_ + 1)) - 1)).tmod (qs.L.length : Int))).bind fun vy =>
    (z445 vy 1073741824).bind fun vr1 =>
    (z445 (IntKind.wrap .i64 (vr1 + (IntKind.wrap .i64 ((IntKind.wrap .i64 ((IntKind.wrap .i64 ((IntKind.wrap .i64 (qs.at_ + 1)) - 1)).tdiv (qs.L.length : Int))) * (IntKind.wrap .i64 ((7919 : Int) + ((IntKind.wrap .i64 ((IntKind.wrap .i64 (qs.at_ + 1)) - 1)).tmod (qs.L.length : Int)))))))) qn).bind fun vr2 =>
    some vr2)

/-! ### (*beaconfleet/fleetmake.Stream).Pick -/
noncomputable def z457 (qs : z453) (ql : List Int) : Option (Int) :=
  (z454 qs (ql.length : Int)).bind fun vr3 =>
  (at? ql vr3).bind fun vy =>
  some vy

/-! ### (*beaconfleet/fleetmake.Stream).RightPost -/
noncomputable def z466 (qs : z453) : Option (api_Post) :=
  (z457 qs ([1, 2, 3, 5] : List Int)).bind fun vr =>
  (z457 (z453.mk qs.L (IntKind.wrap .i64 (qs.at_ + 1))) ([1, 5, 10] : List Int)).bind fun vr1 =>
  (z457 (z453.mk qs.L (IntKind.wrap .i64 ((IntKind.wrap .i64 (qs.at_ + 1)) + 1))) ([1, 2, 3] : List Int)).bind fun vr2 =>
  (z457 (z453.mk qs.L (IntKind.wrap .i64 ((IntKind.wrap .i64 ((IntKind.wrap .i64 (qs.at_ + 1)) + 1)) + 1))) ([0, 1, 2, 10] : List Int)).bind fun vr3 =>
  some (api_Post.mk vr vr1 vr2 vr3)

/-! ### beaconfleet/base.Out -/
noncomputable def z74 (qn : Int) (qlow : Int) (qhigh : Int) : Option (Bool) :=
  cond (decide (qn < qlow))
    (some true)
    (some (decide (qhigh < qn)))

noncomputable def base_Out (qn : Int) (qlow : Int) (qhigh : Int) : Option (Bool) :=
  (z74 qn qlow qhigh).bind fun vx1 =>
  some vx1

/-! ### beaconfleet/command.CheckPost -/
noncomputable def z193 (qp : api_Post) : Option (Bool) :=
  (base_Out qp.Room 1 500).bind fun vr =>
  cond (vr)
    (some true)
    ((base_Out qp.Timeout 1 86400000).bind fun vr1 =>
    cond (vr1)
      (some true)
      ((base_Out qp.Tries 1 20).bind fun vr2 =>
      cond (vr2)
        (some true)
        ((base_Out qp.Kept 0 1000).bind fun vr3 =>
        some vr3)))

noncomputable def z190 (qp : api_Post) : Option (Int) :=
  (z193 qp).bind fun vx1 =>
  cond (vx1)
    (some 1)
    (some 0)

/-! ### beaconfleet/command.New -/
noncomputable def z198 (qp : api_Post) : Option (Int ⊕ Unit) :=
  (z190 qp).bind fun vr4 =>
  cond (!decide (vr4 = 0))
    (some (.inl vr4))
    (some (.inr ()))

/-! ### (*beaconfleet/fleetmake.Stream).Range -/
noncomputable def z460 (qs : z453) (qlow : Int) (qhigh : Int) : Option (z453 × Int) :=
  cond (decide (qhigh < qlow))
    (some (qs, qlow))
    ((z454 qs (IntKind.wrap .i64 ((IntKind.wrap .i64 (qhigh - qlow)) + 1))).bind fun vr3 =>
    some (z453.mk qs.L (IntKind.wrap .i64 (qs.at_ + 1)), IntKind.wrap .i64 (qlow + vr3)))

/-! ### (*beaconfleet/fleetmake.Stream).Some -/
noncomputable def z469 (qs : z453) (ql : List (List UInt8)) : Option ((List UInt8)) :=
  (z454 qs (ql.length : Int)).bind fun vr3 =>
  (at? ql vr3).bind fun vy =>
  some vy

/-! ### (*beaconfleet/fleetmake.Stream).RightLetter -/
noncomputable def z463 (qs : z453) (qat : Int) : Option (api_Letter) :=
  (z469 qs ([([108, 97] : List UInt8), ([108, 98] : List UInt8), ([108, 99] : List UInt8), ([108, 100] : List UInt8), ([108, 101] : List UInt8), ([108, 102] : List UInt8)] : List (List UInt8))).bind fun vr =>
  (z469 (z453.mk qs.L (IntKind.wrap .i64 (qs.at_ + 1))) ([([] : List UInt8), ([] : List UInt8), ([115, 97] : List UInt8), ([115, 98] : List UInt8)] : List (List UInt8))).bind fun vr1 =>
  (z469 (z453.mk qs.L (IntKind.wrap .i64 ((IntKind.wrap .i64 (qs.at_ + 1)) + 1))) ([([100, 111] : List UInt8), ([] : List UInt8), ([97, 32, 34, 98, 34] : List UInt8)] : List (List UInt8))).bind fun vr2 =>
  (z457 (z453.mk qs.L (IntKind.wrap .i64 ((IntKind.wrap .i64 ((IntKind.wrap .i64 (qs.at_ + 1)) + 1)) + 1))) ([0, 0, 1, 5, 9] : List Int)).bind fun vr3 =>
  (z457 (z453.mk qs.L (IntKind.wrap .i64 ((IntKind.wrap .i64 ((IntKind.wrap .i64 ((IntKind.wrap .i64 (qs.at_ + 1)) + 1)) + 1)) + 1))) ([1, 5, 10, 20, 50, 1000] : List Int)).bind fun vr4 =>
  some (api_Letter.mk vr vr1 vr2 vr3 qat (IntKind.wrap .i64 (qat + vr4)))

/-! ### beaconfleet/base.Key -/
noncomputable def z26 (qs : List UInt8) : Option (Bool) :=
  cond (decide (qs = ([] : List UInt8)))
    (some true)
    (cond (decide (40 < (qs.length : Int)))
      (some true)
      ((at? qs 0).bind fun vc =>
      cond (decide ((vc.toNat : Int) < 97))
        (some true)
        (some (decide (122 < (vc.toNat : Int))))))

noncomputable def z36 (vc2 : UInt8) : Option (Bool) :=
  cond (decide (97 ≤ (vc2.toNat : Int)))
    (cond (decide ((vc2.toNat : Int) ≤ 122))
      (some false)
      (cond (decide (48 ≤ (vc2.toNat : Int)))
        (cond (decide ((vc2.toNat : Int) ≤ 57))
          (some false)
          (cond (decide ((vc2.toNat : Int) = 45))
            (some false)
            (some (!(decide ((vc2.toNat : Int) = 95))))))
        (cond (decide ((vc2.toNat : Int) = 45))
          (some false)
          (some (!(decide ((vc2.toNat : Int) = 95)))))))
    (cond (decide (48 ≤ (vc2.toNat : Int)))
      (cond (decide ((vc2.toNat : Int) ≤ 57))
        (some false)
        (cond (decide ((vc2.toNat : Int) = 45))
          (some false)
          (some (!(decide ((vc2.toNat : Int) = 95))))))
      (cond (decide ((vc2.toNat : Int) = 45))
        (some false)
        (some (!(decide ((vc2.toNat : Int) = 95))))))

noncomputable def z31 (qs : List UInt8) (vx2 : Int) : Option ((Int) ⊕ (Unit ⊕ Unit)) :=
  cond (decide (vx2 < (qs.length : Int)))
    ((at? qs vx2).bind fun vc2 =>
    (z36 vc2).bind fun vx4_1 =>
    cond (vx4_1)
      (some (.inr (.inr ())))
      (some (.inl (IntKind.wrap .i64 (vx2 + 1)))))
    (some (.inr (.inl ())))

noncomputable def base_Key (qs : List UInt8) : Option (Bool) :=
  (z26 qs).bind fun vx1 =>
  cond (vx1)
    (some false)
    ((loopO (z31 qs) 0).bind fun x => match x with
      | .inl _ =>
        some true
      | .inr _ =>
        some false)

/-! ### unicode/utf8.ValidString -/
noncomputable def utf8_ValidString (qx : List UInt8) : Option (Bool) :=
  gd (decide (qx.length ≤ 9223372036854775807)) (some (Lib.validD qx))

/-! ### beaconfleet/base.Unmarked -/
noncomputable def z87 (qs : List UInt8) (vx : Int) : Option (Bool) :=
  (at? qs vx).bind fun vc1 =>
  cond (decide ((vc1.toNat : Int) < 32))
    (some true)
    (some (decide ((vc1.toNat : Int) = 127)))

noncomputable def z82 (qs : List UInt8) (vx : Int) : Option ((Int) ⊕ (Unit ⊕ Unit)) :=
  cond (decide (vx < (qs.length : Int)))
    ((z87 qs vx).bind fun vx2_1 =>
    cond (vx2_1)
      (some (.inr (.inr ())))
      (some (.inl (IntKind.wrap .i64 (vx + 1)))))
    (some (.inr (.inl ())))

noncomputable def z79 (qs : List UInt8) : Option (Bool) :=
  (loopO (z82 qs) 0).bind fun x => match x with
    | .inl _ =>
      (utf8_ValidString qs).bind fun vr =>
      some vr
    | .inr _ =>
      some false

/-! ### beaconfleet/base.Moment -/
noncomputable def z41 (qn : Int) : Option (Bool) :=
  (base_Out qn 0 345686399999).bind fun vr =>
  some (!vr)

/-! ### beaconfleet/command.CheckLetter -/
noncomputable def z162 (ql : api_Letter) : Option (Bool) :=
  (base_Key ql.Id).bind fun vr =>
  cond (!vr)
    (some true)
    (cond (!decide (ql.Slot = ([] : List UInt8)))
      ((base_Key ql.Slot).bind fun vr1 =>
      some (!vr1))
      (some false))

noncomputable def z167 (ql : api_Letter) : Option (Bool) :=
  (base_Out ql.Prio 0 9).bind fun vr2 =>
  cond (vr2)
    (some true)
    ((z41 ql.At).bind fun vr1_2 =>
    cond (!vr1_2)
      (some true)
      (cond (decide (ql.Until ≤ ql.At))
        (some true)
        (some (decide (345686400000 < ql.Until)))))

noncomputable def z159 (ql : api_Letter) : Option (Int) :=
  (z162 ql).bind fun vx1 =>
  cond (vx1)
    (some 5)
    (cond (decide (1000 < (ql.Body.length : Int)))
      (some 2)
      ((z79 ql.Body).bind fun vr1_1 =>
      cond (!vr1_1)
        (some 3)
        ((z167 ql).bind fun vx2_1 =>
        cond (vx2_1)
          (some 1)
          (some 0))))

/-! ### (*beaconfleet/command.Office).timeFault -/
noncomputable def z304 (qo : Int) (qo1 : Int) (qo2 : Int) (qo3 : Int) (qm : List (List UInt8 × api_Note)) (qo4 : Int) (qat : Int) : Option (Int) :=
  (z41 qat).bind fun vr1 =>
  cond (!vr1)
    (some 1)
    (cond (decide (qat < qo4))
      (some 7)
      (some 0))

/-! ### beaconfleet/base.First -/
noncomputable def z19 (ql : List Int) (vx : Int) : Option ((Int) ⊕ (Unit ⊕ Int)) :=
  cond (decide (vx < (ql.length : Int)))
    ((at? ql vx).bind fun vy1 =>
    cond (!decide (vy1 = 0))
      (some (.inr (.inr vy1)))
      (some (.inl (IntKind.wrap .i64 (vx + 1)))))
    (some (.inr (.inl ())))

noncomputable def z16 (ql : List Int) : Option (Int) :=
  (loopO (z19 ql) 0).bind fun x => match x with
    | .inl _ =>
      some 0
    | .inr vx1_1 =>
      some vx1_1

/-! ### beaconfleet/command.ended -/
noncomputable def z324 (qstate : Int) : Option (Unit) :=
  some ()

/-! ### (*beaconfleet/command.Office).turn -/
noncomputable def z307 (qo : Int) (qo1 : Int) (qo2 : Int) (qo3 : Int) (qo4 : Int) (qn : api_Note) : Option (Int) :=
  cond (decide (qn.State = 2))
    (some (imin qn.Letter.Until (IntKind.wrap .i64 (qn.Since + qo1))))
    (some qn.Letter.Until)

/-! ### (*beaconfleet/command.Office).grown -/
noncomputable def z296 (qo : Int) (qo1 : Int) (qo2 : Int) (qo3 : Int) (qo4 : Int) (qat : Int) (vn : api_Note) : Option ((api_Note) ⊕ (api_Note)) :=
  (z324 vn.State).bind fun _ =>
  cond (!(decide (3 ≤ vn.State)))
    ((z307 qo qo1 qo2 qo3 qo4 (api_Note.mk (api_Letter.mk vn.Letter.Id vn.Letter.Slot vn.Letter.Body vn.Letter.Prio vn.Letter.At vn.Letter.Until) vn.State vn.Tries vn.Since)).bind fun vr1 =>
    cond (decide (qat < vr1))
      (some (.inr (api_Note.mk (api_Letter.mk vn.Letter.Id vn.Letter.Slot vn.Letter.Body vn.Letter.Prio vn.Letter.At vn.Letter.Until) vn.State vn.Tries vn.Since)))
      (cond (decide (vr1 = vn.Letter.Until))
        (some (.inl (api_Note.mk (api_Letter.mk vn.Letter.Id vn.Letter.Slot vn.Letter.Body vn.Letter.Prio vn.Letter.At vn.Letter.Until) 5 vn.Tries vr1)))
        (cond (decide (vn.Tries = qo2))
          (some (.inl (api_Note.mk (api_Letter.mk vn.Letter.Id vn.Letter.Slot vn.Letter.Body vn.Letter.Prio vn.Letter.At vn.Letter.Until) 7 vn.Tries vr1)))
          (some (.inl (api_Note.mk (api_Letter.mk vn.Letter.Id vn.Letter.Slot vn.Letter.Body vn.Letter.Prio vn.Letter.At vn.Letter.Until) 1 vn.Tries vr1))))))
    (some (.inr (api_Note.mk (api_Letter.mk vn.Letter.Id vn.Letter.Slot vn.Letter.Body vn.Letter.Prio vn.Letter.At vn.Letter.Until) vn.State vn.Tries vn.Since)))

noncomputable def z293 (qo : Int) (qo1 : Int) (qo2 : Int) (qo3 : Int) (qo4 : Int) (qn : api_Note) (qat : Int) : Option (api_Note) :=
  (loopO (z296 qo qo1 qo2 qo3 qo4 qat) (api_Note.mk (api_Letter.mk qn.Letter.Id qn.Letter.Slot qn.Letter.Body qn.Letter.Prio qn.Letter.At qn.Letter.Until) qn.State qn.Tries qn.Since)).bind fun vn1_1 =>
  some (api_Note.mk (api_Letter.mk vn1_1.Letter.Id vn1_1.Letter.Slot vn1_1.Letter.Body vn1_1.Letter.Prio vn1_1.Letter.At vn1_1.Letter.Until) vn1_1.State vn1_1.Tries vn1_1.Since)

/-! ### math/bits.Len64 -/
noncomputable def z103 (qx : Int) : Option ((Int × Int)) :=
  cond (decide (4294967296 ≤ qx))
    (some (ishr .u64 qx 32, 32))
    (some (qx, 0))

noncomputable def z108 (vx1 : Int) (vn1 : Int) : Option ((Int × Int)) :=
  cond (decide (65536 ≤ vx1))
    (some (ishr .u64 vx1 16, IntKind.wrap .i64 (vn1 + 16)))
    (some (vx1, vn1))

noncomputable def z113 (vx2_1 : Int) (vn2_1 : Int) : Option ((Int × Int)) :=
  cond (decide (256 ≤ vx2_1))
    (some (ishr .u64 vx2_1 8, IntKind.wrap .i64 (vn2_1 + 8)))
    (some (vx2_1, vn2_1))

noncomputable def z100 (qx : Int) : Option (Int) :=
  (z103 qx).bind fun (vx1, vn1) =>
  (z108 vx1 vn1).bind fun (vx2_1, vn2_1) =>
  (z113 vx2_1 vn2_1).bind fun (vx3_1, vn3_1) =>
  (at? ([0, 1, 2, 2, 3, 3, 3, 3, 4, 4, 4, 4, 4, 4, 4, 4, 5, 5, 5, 5, 5, 5, 5, 5, 5, 5, 5, 5, 5, 5, 5, 5, 6, 6, 6, 6, 6, 6, 6, 6, 6, 6, 6, 6, 6, 6, 6, 6, 6, 6, 6, 6, 6, 6, 6, 6, 6, 6, 6, 6, 6, 6, 6, 6, 7, 7, 7, 7, 7, 7, 7, 7, 7, 7, 7, 7, 7, 7, 7, 7, 7, 7, 7, 7, 7, 7, 7, 7, 7, 7, 7, 7, 7, 7, 7, 7, 7, 7, 7, 7, 7, 7, 7, 7, 7, 7, 7, 7, 7, 7, 7, 7, 7, 7, 7, 7, 7, 7, 7, 7, 7, 7, 7, 7, 7, 7, 7, 7, 8, 8, 8, 8, 8, 8, 8, 8, 8, 8, 8, 8, 8, 8, 8, 8, 8, 8, 8, 8, 8, 8, 8, 8, 8, 8, 8, 8, 8, 8, 8, 8, 8, 8, 8, 8, 8, 8, 8, 8, 8, 8, 8, 8, 8, 8, 8, 8, 8, 8, 8, 8, 8, 8, 8, 8, 8, 8, 8, 8, 8, 8, 8, 8, 8, 8, 8, 8, 8, 8, 8, 8, 8, 8, 8, 8, 8, 8, 8, 8, 8, 8, 8, 8, 8, 8, 8, 8, 8, 8, 8, 8, 8, 8, 8, 8, 8, 8, 8, 8, 8, 8, 8, 8, 8, 8, 8, 8, 8, 8, 8, 8, 8, 8, 8, 8, 8, 8, 8, 8, 8, 8, 8, 8, 8, 8, 8, 8] : List UInt8) (IntKind.wrap .u8 (vx3_1))).bind fun vc =>
  some (IntKind.wrap .i64 (vn3_1 + (IntKind.wrap .i64 ((vc.toNat : Int)))))

/-! ### math/bits.Len -/
noncomputable def bits_Len (qx : Int) : Option (Int) :=
  (z100 qx).bind fun vr =>
  some vr

/-! ### cmp.isNaN[int] -/
noncomputable def z153 (qx : Int) : Option (Unit) :=
  some ()

/-! ### cmp.Compare[int] -/
noncomputable def z132 (qx : Int) (qy : Int) : Option (Int) :=
  (z153 qx).bind fun _ =>
  (z153 qy).bind fun _ =>
  cond (!decide (qx = qx))
    (cond (!decide (qy = qy))
      (some 0)
      (some (-1)))
    (cond (!decide (qy = qy))
      (some 1)
      (cond (decide (qx < qy))
        (some (-1))
        (cond (decide (qy < qx))
          (some 1)
          (some 0))))

/-! ### internal/bytealg.CompareString -/
noncomputable def z121 (qa : List UInt8) (qb : List UInt8) : Option (Unit) :=
  some ()

/-! ### strings.Compare -/
noncomputable def z958 (qa : List UInt8) (qb : List UInt8) : Option (Unit) :=
  (z121 qa qb).bind fun _ =>
  some ()

/-! ### cmp.Or[int] -/
noncomputable def z148 (qvals : List Int) (vx : Int) : Option ((Int) ⊕ (Unit ⊕ Int)) :=
  cond (decide (vx < (qvals.length : Int)))
    ((at? qvals vx).bind fun vy1 =>
    cond (!decide (vy1 = 0))
      (some (.inr (.inr vy1)))
      (some (.inl (IntKind.wrap .i64 (vx + 1)))))
    (some (.inr (.inl ())))

noncomputable def z145 (qvals : List Int) : Option (Int) :=
  (loopO (z148 qvals) 0).bind fun x => match x with
    | .inl _ =>
      some 0
    | .inr vx1_1 =>
      some vx1_1

/-! ### (*beaconfleet/command.Office).aged$1 -/
noncomputable def z278 (qa : api_Note) (qb : api_Note) : Option (Int) :=
  (z132 qa.Since qb.Since).bind fun vr =>
  (z958 qa.Letter.Id qb.Letter.Id).bind fun _ =>
  (z145 ([vr, Lib.compareBytes qa.Letter.Id qb.Letter.Id] : List Int)).bind fun vr1 =>
  some vr1

/-! ### slices.insertionSortCmpFunc[beaconfleet/api.Note] -/
noncomputable def z720 (qa : Int) (vl3 : List api_Note) (vj1 : Int) : Option (Bool) :=
  cond (decide (qa < vj1))
    ((at? vl3 vj1).bind fun vy15 =>
    (at? vl3 (IntKind.wrap .i64 (vj1 - 1))).bind fun vy16 =>
    (z278 (api_Note.mk (api_Letter.mk vy15.Letter.Id vy15.Letter.Slot vy15.Letter.Body vy15.Letter.Prio vy15.Letter.At vy15.Letter.Until) vy15.State vy15.Tries vy15.Since) (api_Note.mk (api_Letter.mk vy16.Letter.Id vy16.Letter.Slot vy16.Letter.Body vy16.Letter.Prio vy16.Letter.At vy16.Letter.Until) vy16.State vy16.Tries vy16.Since)).bind fun vr2_3 =>
    some (decide (vr2_3 < 0)))
    (some false)

noncomputable def z715 (qa : Int) : (List api_Note) × Int → Option (((List api_Note) × Int) ⊕ ((List api_Note)))
  | (vl3, vj1) =>
  (z720 qa vl3 vj1).bind fun vx4_1 =>
  cond (vx4_1)
    ((at? vl3 (IntKind.wrap .i64 (vj1 - 1))).bind fun vy17 =>
    (at? vl3 vj1).bind fun vy18 =>
    (at? (vl3.set vj1.toNat (api_Note.mk (api_Letter.mk vy17.Letter.Id vy17.Letter.Slot vy17.Letter.Body vy17.Letter.Prio vy17.Letter.At vy17.Letter.Until) vy17.State vy17.Tries vy17.Since)) (IntKind.wrap .i64 (vj1 - 1))).bind fun vy19 =>
    some (.inl ((vl3.set vj1.toNat (api_Note.mk (api_Letter.mk vy17.Letter.Id vy17.Letter.Slot vy17.Letter.Body vy17.Letter.Prio vy17.Letter.At vy17.Letter.Until) vy17.State vy17.Tries vy17.Since)).set (IntKind.wrap .i64 (vj1 - 1)).toNat (api_Note.mk (api_Letter.mk vy18.Letter.Id vy18.Letter.Slot vy18.Letter.Body vy18.Letter.Prio vy18.Letter.At vy18.Letter.Until) vy18.State vy18.Tries vy18.Since), IntKind.wrap .i64 (vj1 - 1))))
    (some (.inr vl3))

noncomputable def z710 (qa : Int) (qb : Int) : (List api_Note) × Int → Option (((List api_Note) × Int) ⊕ ((List api_Note)))
  | (vl, vi) =>
  cond (decide (vi < qb))
    ((loopO (z715 qa) (vl, vi)).bind fun vl4_1 =>
    some (.inl (vl4_1, IntKind.wrap .i64 (vi + 1))))
    (some (.inr vl))

noncomputable def z707 (qdata : List api_Note) (qa : Int) (qb : Int) : Option ((List api_Note)) :=
  (loopO (z710 qa qb) (qdata, IntKind.wrap .i64 (qa + 1))).bind fun vl5_1 =>
  some vl5_1

/-! ### slices.pdqsortCmpFunc[beaconfleet/api.Note] -/
noncomputable def z762 (qx : List api_Note) (qx1 : Int) (qx2 : Int) (qx3 : Int) : Unit → Option ((Unit) ⊕ ((List api_Note)))
  | _ =>
  cond (decide ((IntKind.wrap .i64 (qx2 - qx1)) ≤ 12))
    ((z707 qx qx1 qx2).bind fun vl6_1 =>
    gd (vl6_1.length == qx.length) <|
    some (.inr vl6_1))
    (cond (decide (qx3 = 0))
      (none)
      (none))

noncomputable def z759 (qx : List api_Note) (qx1 : Int) (qx2 : Int) (qx3 : Int) : Option ((List api_Note)) :=
  (loopO (z762 qx qx1 qx2 qx3) ()).bind fun vl1 =>
  some vl1

/-! ### slices.SortFunc[[]beaconfleet/api.Note,beaconfleet/api.Note] -/
noncomputable def z665 (qx : List api_Note) : Option ((List api_Note)) :=
  (bits_Len (IntKind.wrap .u64 ((qx.length : Int)))).bind fun vr1 =>
  (z759 qx 0 (qx.length : Int) vr1).bind fun vl2 =>
  gd (vl2.length == qx.length) <|
  some vl2

/-! ### (*beaconfleet/command.Office).aged -/
noncomputable def z283 (qo : Int) (qo1 : Int) (qo2 : Int) (qo3 : Int) (qo4 : Int) (qat : Int) (qe : Option (List UInt8 × api_Note)) : (List (List UInt8 × api_Note)) × (List api_Note) → Option (((List (List UInt8 × api_Note)) × (List api_Note)) ⊕ (((List (List UInt8 × api_Note)) × (List api_Note))))
  | (vm, vover) =>
  match qe with
  | none =>
    some (.inr (vm, vover))
  | some ve1 =>
    (z293 qo qo1 qo2 qo3 qo4 (api_Note.mk (api_Letter.mk ve1.2.Letter.Id ve1.2.Letter.Slot ve1.2.Letter.Body ve1.2.Letter.Prio ve1.2.Letter.At ve1.2.Letter.Until) ve1.2.State ve1.2.Tries ve1.2.Since) qat).bind fun vr2_1 =>
    (z324 vr2_1.State).bind fun _ =>
    cond (decide (3 ≤ vr2_1.State))
      (gd (Nat.ble (vover.length + ([api_Note.mk (api_Letter.mk vr2_1.Letter.Id vr2_1.Letter.Slot vr2_1.Letter.Body vr2_1.Letter.Prio vr2_1.Letter.At vr2_1.Letter.Until) vr2_1.State vr2_1.Tries vr2_1.Since] : List api_Note).length) LIM) <|
      some (.inl (aput vm ve1.1 (api_Note.mk (api_Letter.mk vr2_1.Letter.Id vr2_1.Letter.Slot vr2_1.Letter.Body vr2_1.Letter.Prio vr2_1.Letter.At vr2_1.Letter.Until) vr2_1.State vr2_1.Tries vr2_1.Since), vover ++ ([api_Note.mk (api_Letter.mk vr2_1.Letter.Id vr2_1.Letter.Slot vr2_1.Letter.Body vr2_1.Letter.Prio vr2_1.Letter.At vr2_1.Letter.Until) vr2_1.State vr2_1.Tries vr2_1.Since] : List api_Note))))
      (some (.inl (aput vm ve1.1 (api_Note.mk (api_Letter.mk vr2_1.Letter.Id vr2_1.Letter.Slot vr2_1.Letter.Body vr2_1.Letter.Prio vr2_1.Letter.At vr2_1.Letter.Until) vr2_1.State vr2_1.Tries vr2_1.Since), vover)))

noncomputable def z288 (qo3 : Int) (vl3 : List api_Note) : (List (List UInt8 × api_Note)) × Int → Option (((List (List UInt8 × api_Note)) × Int) ⊕ ((List (List UInt8 × api_Note))))
  | (vm2, vx) =>
  cond (decide (vx < ((vl3.take (imax 0 (IntKind.wrap .i64 ((vl3.length : Int) - qo3))).toNat).length : Int)))
    ((at? (vl3.take (imax 0 (IntKind.wrap .i64 ((vl3.length : Int) - qo3))).toNat) vx).bind fun vy1 =>
    some (.inl (adel vm2 vy1.Letter.Id, IntKind.wrap .i64 (vx + 1))))
    (some (.inr vm2))

noncomputable def z277 (qo : Int) (qo1 : Int) (qo2 : Int) (qo3 : Int) (qm : List (List UInt8 × api_Note)) (qo4 : Int) (qat : Int) : Option ((List (List UInt8 × api_Note))) :=
  allPerm qm fun zo =>
  (rngO (z283 qo qo1 qo2 qo3 qo4 qat) zo (([] : List (List UInt8 × api_Note)), [])).bind fun (vm1_1, vover1_1) =>
  (z665 vover1_1).bind fun vl3 =>
  gd (vl3.length == vover1_1.length) <|
  gd (decide (0 ≤ (imax 0 (IntKind.wrap .i64 ((vl3.length : Int) - qo3)))) && decide ((imax 0 (IntKind.wrap .i64 ((vl3.length : Int) - qo3))) ≤ (vl3.length : Int))) <|
  (loopO (z288 qo3 vl3) (vm1_1, 0)).bind fun vm3_1 =>
  some vm3_1

/-! ### beaconfleet/command.pending -/
noncomputable def z330 (qe : Option (List UInt8 × api_Note)) (vk : Int) : Option ((Int) ⊕ (Int)) :=
  match qe with
  | none =>
    some (.inr vk)
  | some ve1 =>
    (z324 ve1.2.State).bind fun _ =>
    cond (!(decide (3 ≤ ve1.2.State)))
      (some (.inl (IntKind.wrap .i64 (vk + 1))))
      (some (.inl vk))

noncomputable def z327 (qm : List (List UInt8 × api_Note)) : Option (Int) :=
  allPerm qm fun zo =>
  (rngO (z330) zo 0).bind fun vk1_1 =>
  some vk1_1

/-! ### (*beaconfleet/command.Office).keep -/
noncomputable def z301 (qo : Int) (qo1 : Int) (qo2 : Int) (qo3 : Int) (qm : List (List UInt8 × api_Note)) (qo4 : Int) (qm1 : List (List UInt8 × api_Note)) (qat : Int) : Option (Unit) :=
  some ()

/-! ### (*beaconfleet/command.Office).Put -/
noncomputable def z246 (qx5 : api_Letter) (ve2 : (List UInt8 × api_Note)) : Option (Bool) :=
  cond (!decide (qx5.Slot = ([] : List UInt8)))
    (cond (decide (ve2.2.Letter.Slot = qx5.Slot))
      (cond (decide (ve2.2.State = 1))
        (some (decide (ve2.2.Tries = 0)))
        (some false))
      (some false))
    (some false)

noncomputable def z241 (qx5 : api_Letter) (qe : Option (List UInt8 × api_Note)) (vx : List UInt8) : Option (((List UInt8)) ⊕ ((List UInt8))) :=
  match qe with
  | none =>
    some (.inr vx)
  | some ve2 =>
    (z246 qx5 ve2).bind fun vx2_1 =>
    cond (vx2_1)
      (some (.inl ve2.1))
      (some (.inl vx))

noncomputable def z251 (qx : Int) (vx3_1 : List UInt8) : Option (Int) :=
  cond (!decide (vx3_1 = ([] : List UInt8)))
    (some (IntKind.wrap .i64 (qx + 1)))
    (some qx)

noncomputable def z256 (qx5 : api_Letter) (vm4 : List (List UInt8 × api_Note)) (vx3_1 : List UInt8) : Option ((List (List UInt8 × api_Note))) :=
  cond (!decide (vx3_1 = ([] : List UInt8)))
    ((some ((aget vm4 vx3_1).getD (api_Note.mk (api_Letter.mk ([] : List UInt8) ([] : List UInt8) ([] : List UInt8) 0 0 0) 0 0 0))).bind fun ve3 =>
    some (aput vm4 vx3_1 (api_Note.mk (api_Letter.mk ve3.Letter.Id ve3.Letter.Slot ve3.Letter.Body ve3.Letter.Prio ve3.Letter.At ve3.Letter.Until) 6 ve3.Tries qx5.At)))
    (some vm4)

noncomputable def z238 (qx : Int) (qx1 : Int) (qx2 : Int) (qx3 : Int) (qm : List (List UInt8 × api_Note)) (qx4 : Int) (qx5 : api_Letter) : Option (Int ⊕ (List (List UInt8 × api_Note))) :=
  (z159 qx5).bind fun vr3 =>
  (z304 qx qx1 qx2 qx3 qm qx4 qx5.At).bind fun vr =>
  (z16 ([vr3, vr] : List Int)).bind fun vr1 =>
  cond (!decide (vr1 = 0))
    (some (.inl vr1))
    ((z277 qx qx1 qx2 qx3 qm qx4 qx5.At).bind fun vm4 =>
    (some ((aget vm4 qx5.Id).getD (api_Note.mk (api_Letter.mk ([] : List UInt8) ([] : List UInt8) ([] : List UInt8) 0 0 0) 0 0 0))).bind fun ve =>
    (some (aget vm4 qx5.Id).isSome).bind fun vis =>
    cond (vis)
      (some (.inl 6))
      (allPerm vm4 fun zo =>
      (rngO (z241 qx5) zo ([] : List UInt8)).bind fun vx3_1 =>
      (z251 qx vx3_1).bind fun vx4_1 =>
      (z327 vm4).bind fun vr2 =>
      cond (decide (vx4_1 ≤ vr2))
        (some (.inl 12))
        ((z256 qx5 vm4 vx3_1).bind fun vm1 =>
        (z301 qx qx1 qx2 qx3 qm qx4 (aput vm1 qx5.Id (api_Note.mk qx5 1 0 qx5.At)) qx5.At).bind fun _ =>
        some (.inr (aput vm1 qx5.Id (api_Note.mk qx5 1 0 qx5.At))))))

/-! ### beaconfleet/command.byOrder -/
noncomputable def z321 (qa : api_Letter) (qb : api_Letter) : Option (Int) :=
  (z132 qb.Prio qa.Prio).bind fun vr =>
  (z132 qa.At qb.At).bind fun vr1 =>
  (z958 qa.Id qb.Id).bind fun _ =>
  (z145 ([vr, vr1, Lib.compareBytes qa.Id qb.Id] : List Int)).bind fun vr2 =>
  some vr2

/-! ### slices.insertionSortCmpFunc[beaconfleet/api.Letter] -/
noncomputable def z684 (qa : Int) (vl3 : List api_Letter) (vj1 : Int) : Option (Bool) :=
  cond (decide (qa < vj1))
    ((at? vl3 vj1).bind fun vy15 =>
    (at? vl3 (IntKind.wrap .i64 (vj1 - 1))).bind fun vy16 =>
    (z321 vy15 vy16).bind fun vr3_3 =>
    some (decide (vr3_3 < 0)))
    (some false)

noncomputable def z679 (qa : Int) : (List api_Letter) × Int → Option (((List api_Letter) × Int) ⊕ ((List api_Letter)))
  | (vl3, vj1) =>
  (z684 qa vl3 vj1).bind fun vx4_1 =>
  cond (vx4_1)
    ((at? vl3 (IntKind.wrap .i64 (vj1 - 1))).bind fun vy17 =>
    (at? vl3 vj1).bind fun vy18 =>
    (at? (vl3.set vj1.toNat vy17) (IntKind.wrap .i64 (vj1 - 1))).bind fun vy19 =>
    some (.inl ((vl3.set vj1.toNat vy17).set (IntKind.wrap .i64 (vj1 - 1)).toNat vy18, IntKind.wrap .i64 (vj1 - 1))))
    (some (.inr vl3))

noncomputable def z674 (qa : Int) (qb : Int) : (List api_Letter) × Int → Option (((List api_Letter) × Int) ⊕ ((List api_Letter)))
  | (vl, vi) =>
  cond (decide (vi < qb))
    ((loopO (z679 qa) (vl, vi)).bind fun vl4_1 =>
    some (.inl (vl4_1, IntKind.wrap .i64 (vi + 1))))
    (some (.inr vl))

noncomputable def z671 (qdata : List api_Letter) (qa : Int) (qb : Int) : Option ((List api_Letter)) :=
  (loopO (z674 qa qb) (qdata, IntKind.wrap .i64 (qa + 1))).bind fun vl5_1 =>
  some vl5_1

/-! ### slices.pdqsortCmpFunc[beaconfleet/api.Letter] -/
noncomputable def z746 (qx : List api_Letter) (qx1 : Int) (qx2 : Int) (qx3 : Int) : Unit → Option ((Unit) ⊕ ((List api_Letter)))
  | _ =>
  cond (decide ((IntKind.wrap .i64 (qx2 - qx1)) ≤ 12))
    ((z671 qx qx1 qx2).bind fun vl6_1 =>
    gd (vl6_1.length == qx.length) <|
    some (.inr vl6_1))
    (cond (decide (qx3 = 0))
      (none)
      (none))

noncomputable def z743 (qx : List api_Letter) (qx1 : Int) (qx2 : Int) (qx3 : Int) : Option ((List api_Letter)) :=
  (loopO (z746 qx qx1 qx2 qx3) ()).bind fun vl1 =>
  some vl1

/-! ### slices.SortFunc[[]beaconfleet/api.Letter,beaconfleet/api.Letter] -/
noncomputable def z659 (qx : List api_Letter) : Option ((List api_Letter)) :=
  (bits_Len (IntKind.wrap .u64 ((qx.length : Int)))).bind fun vr1 =>
  (z743 qx 0 (qx.length : Int) vr1).bind fun vl2 =>
  gd (vl2.length == qx.length) <|
  some vl2

/-! ### slices.Clone[[]beaconfleet/api.Letter,beaconfleet/api.Letter] -/
noncomputable def z586 (qs : List api_Letter) : Option (List api_Letter) :=
  gd (Nat.ble (([] : List api_Letter).length + qs.length) LIM) (some qs)

/-! ### (*beaconfleet/command.Office).Fetch -/
noncomputable def z217 (qe : Option (List UInt8 × api_Note)) (vx : List api_Letter) : Option (((List api_Letter)) ⊕ ((List api_Letter))) :=
  match qe with
  | none =>
    some (.inr vx)
  | some ve1 =>
    cond (decide (ve1.2.State = 1))
      (gd (Nat.ble (vx.length + ([api_Letter.mk ve1.2.Letter.Id ve1.2.Letter.Slot ve1.2.Letter.Body ve1.2.Letter.Prio ve1.2.Letter.At ve1.2.Letter.Until] : List api_Letter).length) LIM) <|
      some (.inl (vx ++ ([api_Letter.mk ve1.2.Letter.Id ve1.2.Letter.Slot ve1.2.Letter.Body ve1.2.Letter.Prio ve1.2.Letter.At ve1.2.Letter.Until] : List api_Letter))))
      (some (.inl vx))

noncomputable def z222 (qx5 : Int) (vr2 : List api_Letter) : (List (List UInt8 × api_Note)) × Int → Option (((List (List UInt8 × api_Note)) × Int) ⊕ ((List (List UInt8 × api_Note))))
  | (vm, vx2) =>
  cond (decide (vx2 < (vr2.length : Int)))
    ((at? vr2 vx2).bind fun vy1 =>
    (some ((aget vm vy1.Id).getD (api_Note.mk (api_Letter.mk ([] : List UInt8) ([] : List UInt8) ([] : List UInt8) 0 0 0) 0 0 0))).bind fun ve3 =>
    some (.inl (aput vm vy1.Id (api_Note.mk (api_Letter.mk ve3.Letter.Id ve3.Letter.Slot ve3.Letter.Body ve3.Letter.Prio ve3.Letter.At ve3.Letter.Until) 2 (IntKind.wrap .i64 (ve3.Tries + 1)) qx5), IntKind.wrap .i64 (vx2 + 1))))
    (some (.inr vm))

noncomputable def z214 (qx : Int) (qx1 : Int) (qx2 : Int) (qx3 : Int) (qm : List (List UInt8 × api_Note)) (qx4 : Int) (qx5 : Int) (qx6 : Int) : Option (Int ⊕ ((List (List UInt8 × api_Note)) × (List api_Letter))) :=
  (z304 qx qx1 qx2 qx3 qm qx4 qx5).bind fun vr =>
  cond (!decide (vr = 0))
    (some (.inl vr))
    ((base_Out qx6 0 500).bind fun vr1 =>
    cond (vr1)
      (some (.inl 1))
      ((z277 qx qx1 qx2 qx3 qm qx4 qx5).bind fun vm4 =>
      allPerm vm4 fun zo =>
      (rngO (z217) zo []).bind fun vx1_1 =>
      (z659 vx1_1).bind fun vl3 =>
      gd (vl3.length == vx1_1.length) <|
      (sub? vl3 0 (imin qx6 (vl3.length : Int))).bind fun vl4 =>
      (z586 vl4).bind fun vr2 =>
      (loopO (z222 qx5 vr2) (vm4, 0)).bind fun vm1_1 =>
      (z301 qx qx1 qx2 qx3 qm qx4 vm1_1 qx5).bind fun _ =>
      some (.inr (vm1_1, vr2))))

/-! ### (*beaconfleet/command.Office).Wake -/
noncomputable def z272 (vnext : Int) (ve1 : (List UInt8 × api_Note)) (vr2 : Int) : Option (Bool) :=
  (z324 ve1.2.State).bind fun _ =>
  cond (!(decide (3 ≤ ve1.2.State)))
    (cond (decide (vnext < 0))
      (some true)
      (some (decide (vr2 < vnext))))
    (some false)

noncomputable def z267 (qo : Int) (qo1 : Int) (qo2 : Int) (qo3 : Int) (qat : Int) (qe : Option (List UInt8 × api_Note)) (vnext : Int) : Option ((Int) ⊕ (Int)) :=
  match qe with
  | none =>
    some (.inr vnext)
  | some ve1 =>
    (z307 qo qo1 qo2 qo3 qat (api_Note.mk (api_Letter.mk ve1.2.Letter.Id ve1.2.Letter.Slot ve1.2.Letter.Body ve1.2.Letter.Prio ve1.2.Letter.At ve1.2.Letter.Until) ve1.2.State ve1.2.Tries ve1.2.Since)).bind fun vr2 =>
    (z272 vnext ve1 vr2).bind fun vx2_1 =>
    cond (vx2_1)
      (some (.inl vr2))
      (some (.inl vnext))

noncomputable def z264 (qo : Int) (qo1 : Int) (qo2 : Int) (qo3 : Int) (qm : List (List UInt8 × api_Note)) (qo4 : Int) (qat : Int) : Option (Int ⊕ ((List (List UInt8 × api_Note)) × Int)) :=
  (z304 qo qo1 qo2 qo3 qm qo4 qat).bind fun vr =>
  cond (!decide (vr = 0))
    (some (.inl vr))
    ((z277 qo qo1 qo2 qo3 qm qo4 qat).bind fun vm4 =>
    (z301 qo qo1 qo2 qo3 qm qo4 vm4 qat).bind fun _ =>
    allPerm vm4 fun zo =>
    (rngO (z267 qo qo1 qo2 qo3 qat) zo (-1)).bind fun vnext1_1 =>
    some (.inr (vm4, vnext1_1)))

/-! ### (*beaconfleet/command.Office).Notes$1 -/
noncomputable def z228 (qa : api_Note) (qb : api_Note) : Option (Unit) :=
  (z958 qa.Letter.Id qb.Letter.Id).bind fun _ =>
  some ()

/-! ### slices.insertionSortCmpFunc[beaconfleet/api.Note] -/
noncomputable def z702 (qa : Int) (vl3 : List api_Note) (vj1 : Int) : Option (Bool) :=
  cond (decide (qa < vj1))
    ((at? vl3 vj1).bind fun vy15 =>
    (at? vl3 (IntKind.wrap .i64 (vj1 - 1))).bind fun vy16 =>
    (z228 (api_Note.mk (api_Letter.mk vy15.Letter.Id vy15.Letter.Slot vy15.Letter.Body vy15.Letter.Prio vy15.Letter.At vy15.Letter.Until) vy15.State vy15.Tries vy15.Since) (api_Note.mk (api_Letter.mk vy16.Letter.Id vy16.Letter.Slot vy16.Letter.Body vy16.Letter.Prio vy16.Letter.At vy16.Letter.Until) vy16.State vy16.Tries vy16.Since)).bind fun _ =>
    some (decide ((Lib.compareBytes vy15.Letter.Id vy16.Letter.Id) < 0)))
    (some false)

noncomputable def z697 (qa : Int) : (List api_Note) × Int → Option (((List api_Note) × Int) ⊕ ((List api_Note)))
  | (vl3, vj1) =>
  (z702 qa vl3 vj1).bind fun vx4_1 =>
  cond (vx4_1)
    ((at? vl3 (IntKind.wrap .i64 (vj1 - 1))).bind fun vy17 =>
    (at? vl3 vj1).bind fun vy18 =>
    (at? (vl3.set vj1.toNat (api_Note.mk (api_Letter.mk vy17.Letter.Id vy17.Letter.Slot vy17.Letter.Body vy17.Letter.Prio vy17.Letter.At vy17.Letter.Until) vy17.State vy17.Tries vy17.Since)) (IntKind.wrap .i64 (vj1 - 1))).bind fun vy19 =>
    some (.inl ((vl3.set vj1.toNat (api_Note.mk (api_Letter.mk vy17.Letter.Id vy17.Letter.Slot vy17.Letter.Body vy17.Letter.Prio vy17.Letter.At vy17.Letter.Until) vy17.State vy17.Tries vy17.Since)).set (IntKind.wrap .i64 (vj1 - 1)).toNat (api_Note.mk (api_Letter.mk vy18.Letter.Id vy18.Letter.Slot vy18.Letter.Body vy18.Letter.Prio vy18.Letter.At vy18.Letter.Until) vy18.State vy18.Tries vy18.Since), IntKind.wrap .i64 (vj1 - 1))))
    (some (.inr vl3))

noncomputable def z692 (qa : Int) (qb : Int) : (List api_Note) × Int → Option (((List api_Note) × Int) ⊕ ((List api_Note)))
  | (vl, vi) =>
  cond (decide (vi < qb))
    ((loopO (z697 qa) (vl, vi)).bind fun vl4_1 =>
    some (.inl (vl4_1, IntKind.wrap .i64 (vi + 1))))
    (some (.inr vl))

noncomputable def z689 (qdata : List api_Note) (qa : Int) (qb : Int) : Option ((List api_Note)) :=
  (loopO (z692 qa qb) (qdata, IntKind.wrap .i64 (qa + 1))).bind fun vl5_1 =>
  some vl5_1

/-! ### slices.pdqsortCmpFunc[beaconfleet/api.Note] -/
noncomputable def z754 (qx : List api_Note) (qx1 : Int) (qx2 : Int) (qx3 : Int) : Unit → Option ((Unit) ⊕ ((List api_Note)))
  | _ =>
  cond (decide ((IntKind.wrap .i64 (qx2 - qx1)) ≤ 12))
    ((z689 qx qx1 qx2).bind fun vl6_1 =>
    gd (vl6_1.length == qx.length) <|
    some (.inr vl6_1))
    (cond (decide (qx3 = 0))
      (none)
      (none))

noncomputable def z751 (qx : List api_Note) (qx1 : Int) (qx2 : Int) (qx3 : Int) : Option ((List api_Note)) :=
  (loopO (z754 qx qx1 qx2 qx3) ()).bind fun vl1 =>
  some vl1

/-! ### slices.SortFunc[[]beaconfleet/api.Note,beaconfleet/api.Note] -/
noncomputable def z662 (qx : List api_Note) : Option ((List api_Note)) :=
  (bits_Len (IntKind.wrap .u64 ((qx.length : Int)))).bind fun vr1 =>
  (z751 qx 0 (qx.length : Int) vr1).bind fun vl2 =>
  gd (vl2.length == qx.length) <|
  some vl2

/-! ### (*beaconfleet/command.Office).Notes -/
noncomputable def z233 (qe : Option (List UInt8 × api_Note)) (vout : List api_Note) : Option (((List api_Note)) ⊕ ((List api_Note))) :=
  match qe with
  | none =>
    some (.inr vout)
  | some ve1 =>
    gd (Nat.ble (vout.length + ([api_Note.mk (api_Letter.mk ve1.2.Letter.Id ve1.2.Letter.Slot ve1.2.Letter.Body ve1.2.Letter.Prio ve1.2.Letter.At ve1.2.Letter.Until) ve1.2.State ve1.2.Tries ve1.2.Since] : List api_Note).length) LIM) <|
    some (.inl (vout ++ ([api_Note.mk (api_Letter.mk ve1.2.Letter.Id ve1.2.Letter.Slot ve1.2.Letter.Body ve1.2.Letter.Prio ve1.2.Letter.At ve1.2.Letter.Until) ve1.2.State ve1.2.Tries ve1.2.Since] : List api_Note)))

noncomputable def z227 (qo : Int) (qo1 : Int) (qo2 : Int) (qo3 : Int) (qm : List (List UInt8 × api_Note)) (qo4 : Int) (qat : Int) : Option (Int ⊕ ((List (List UInt8 × api_Note)) × (List api_Note))) :=
  (z304 qo qo1 qo2 qo3 qm qo4 qat).bind fun vr =>
  cond (!decide (vr = 0))
    (some (.inl vr))
    ((z277 qo qo1 qo2 qo3 qm qo4 qat).bind fun vm4 =>
    (z301 qo qo1 qo2 qo3 qm qo4 vm4 qat).bind fun _ =>
    allPerm vm4 fun zo =>
    (rngO (z233) zo []).bind fun vout1_1 =>
    (z662 vout1_1).bind fun vl3 =>
    gd (vl3.length == vout1_1.length) <|
    some (.inr (vm4, vl3)))

/-! ### beaconfleet/twin.CheckProps -/
noncomputable def z1050 : Unit → Option ((Unit) ⊕ (Unit))
  | _ =>
  cond (decide ((0 : Int) < 0))
    (none)
    (some (.inr ()))

noncomputable def z1055 : Unit → Option ((Unit) ⊕ (Unit))
  | _ =>
  cond (decide ((0 : Int) < 0))
    (none)
    (some (.inr ()))

noncomputable def z1047 : Option (Int) :=
  cond (decide (500 < (0 : Int)))
    (some 2)
    ((loopO z1050 ()).bind fun _ =>
    (loopO z1055 ()).bind fun _ =>
    some 0)

/-! ### internal/stringslite.IndexByte -/
noncomputable def z1029 (qs : List UInt8) (qc : Int) : Option (Unit) :=
  some ()

/-! ### internal/stringslite.Index -/
noncomputable def z1034 (qx : List UInt8) (qx1 : List UInt8) : Option (Bool) :=
  cond (decide ((qx1.length : Int) = 0))
    (some true)
    (some (decide (qx1 = qx)))

noncomputable def z1028 (qx : List UInt8) (qx1 : List UInt8) : Option (Int) :=
  (z1034 qx qx1).bind fun vx1 =>
  cond (vx1)
    (some 0)
    (cond (decide ((qx1.length : Int) = 1))
      ((at? qx1 0).bind fun vc =>
      (z1029 qx (vc.toNat : Int)).bind fun _ =>
      some (Lib.indexByte qx (vc.toNat : Int).toNat.toUInt8))
      (cond (decide ((qx.length : Int) ≤ (qx1.length : Int)))
        (some (-1))
        (none)))

/-! ### internal/stringslite.Cut -/
noncomputable def z1017 (qs : List UInt8) (qsep : List UInt8) : Option ((List UInt8) × (List UInt8) × Bool) :=
  (z1028 qs qsep).bind fun vr =>
  cond (decide (0 ≤ vr))
    ((sub? qs 0 vr).bind fun vs =>
    (sub? qs (IntKind.wrap .i64 (vr + (qsep.length : Int))) (qs.length : Int)).bind fun vs1 =>
    some (vs, vs1, true))
    (some (qs, ([] : List UInt8), false))

/-! ### strings.Cut -/
noncomputable def z969 (qs : List UInt8) (qsep : List UInt8) : Option ((List UInt8) × (List UInt8) × Bool) :=
  (z1017 qs qsep).bind fun (vr1, vr2, vr3) =>
  some (vr1, vr2, vr3)

/-! ### beaconfleet/base.Dotted -/
noncomputable def z10 (qmost : Int) : (List UInt8) × Int → Option (((List UInt8) × Int) ⊕ (Unit ⊕ Bool))
  | (vs, vn) =>
  cond (decide (vn < qmost))
    ((z969 vs ([46] : List UInt8)).bind fun (vr2, vr4_1, vr5_1) =>
    (base_Key vr2).bind fun vr3 =>
    cond (!vr3)
      (some (.inr (.inr false)))
      (cond (!vr5_1)
        (some (.inr (.inr true)))
        (some (.inl (vr4_1, IntKind.wrap .i64 (vn + 1))))))
    (some (.inr (.inl ())))

noncomputable def z6 (qs : List UInt8) (qmost : Int) : Option (Bool) :=
  (loopO (z10 qmost) (qs, 0)).bind fun x => match x with
    | .inl _ =>
      some false
    | .inr vx1 =>
      some vx1

/-! ### beaconfleet/twin.isName -/
noncomputable def z1110 (qs : List UInt8) : Option (Bool) :=
  (z6 qs 8).bind fun vr6 =>
  some vr6

/-! ### beaconfleet/twin.valueFault -/
noncomputable def z1129 (qv : api_Value) : Option (api_Value ⊕ Unit) :=
  cond (decide (qv.Kind = 0))
    (some (.inl (api_Value.mk qv.Kind false 0 ([] : List UInt8))))
    (cond (decide (qv.Kind = 1))
      (some (.inl (api_Value.mk qv.Kind qv.Flag 0 ([] : List UInt8))))
      (cond (decide (qv.Kind = 2))
        (some (.inl (api_Value.mk qv.Kind false qv.Number ([] : List UInt8))))
        (cond (decide (qv.Kind = 3))
          (some (.inl (api_Value.mk qv.Kind false 0 qv.Words)))
          (some (.inr ())))))

noncomputable def z1126 (qv : api_Value) : Option (Int) :=
  (z1129 qv).bind fun x => match x with
    | .inl vused1 =>
      cond (!(decide (qv.Kind = vused1.Kind) && ((qv.Flag == vused1.Flag) && (decide (qv.Number = vused1.Number) && (decide (qv.Words = vused1.Words) && true)))))
        (some 3)
        ((base_Out qv.Number (-1000000000) 1000000000).bind fun vr =>
        cond (vr)
          (some 1)
          (cond (decide (1000 < (qv.Words.length : Int)))
            (some 2)
            ((z79 qv.Words).bind fun vr1 =>
            cond (!vr1)
              (some 3)
              (some 0))))
    | .inr _ =>
      some 4

/-! ### beaconfleet/twin.find$1 -/
noncomputable def z1102 (qp : api_Prop) (qname : List UInt8) : Option (Unit) :=
  (z958 qp.Name qname).bind fun _ =>
  some ()

/-! ### slices.BinarySearchFunc[[]beaconfleet/api.Prop,beaconfleet/api.Prop,string] -/
noncomputable def z568 (qx : List api_Prop) (qtarget : List UInt8) : Int × Int → Option ((Int × Int) ⊕ (Int))
  | (vi, vj) =>
  cond (decide (vi < vj))
    ((at? qx (IntKind.wrap .i64 (ishr .u64 (IntKind.wrap .u64 (IntKind.wrap .i64 (vi + vj))) 1))).bind fun vy1 =>
    (z1102 (api_Prop.mk vy1.Name (api_Value.mk vy1.Value.Kind vy1.Value.Flag vy1.Value.Number vy1.Value.Words)) qtarget).bind fun _ =>
    cond (decide ((Lib.compareBytes vy1.Name qtarget) < 0))
      (some (.inl (IntKind.wrap .i64 ((IntKind.wrap .i64 (ishr .u64 (IntKind.wrap .u64 (IntKind.wrap .i64 (vi + vj))) 1)) + 1), vj)))
      (some (.inl (vi, IntKind.wrap .i64 (ishr .u64 (IntKind.wrap .u64 (IntKind.wrap .i64 (vi + vj))) 1)))))
    (some (.inr vi))

noncomputable def z573 (qx : List api_Prop) (qtarget : List UInt8) (vi1_1 : Int) : Option (Bool) :=
  cond (decide (vi1_1 < (qx.length : Int)))
    ((at? qx vi1_1).bind fun vy2 =>
    (z1102 (api_Prop.mk vy2.Name (api_Value.mk vy2.Value.Kind vy2.Value.Flag vy2.Value.Number vy2.Value.Words)) qtarget).bind fun _ =>
    some (decide ((Lib.compareBytes vy2.Name qtarget) = 0)))
    (some false)

noncomputable def z565 (qx : List api_Prop) (qtarget : List UInt8) : Option (Int × Bool) :=
  (loopO (z568 qx qtarget) (0, (qx.length : Int))).bind fun vi1_1 =>
  (z573 qx qtarget vi1_1).bind fun vx1 =>
  some (vi1_1, vx1)

/-! ### beaconfleet/twin.find -/
noncomputable def twin_find (ql : List api_Prop) (qname : List UInt8) : Option (Int) :=
  (z565 ql qname).bind fun (vr, vr1) =>
  cond (!vr1)
    (some (-1))
    (some vr)

/-! ### beaconfleet/twin.CheckProps$1 -/
noncomputable def z1043 (qs : List UInt8) (qx : List api_Prop) : Option (Bool) :=
  (twin_find qx qs).bind fun vr2 =>
  some (decide (0 ≤ vr2))

/-! ### beaconfleet/twin.above -/
noncomputable def z1097 (qname : List UInt8) (qf : List api_Prop) (vx : Int) : Option (Bool) :=
  (at? qname vx).bind fun vc1 =>
  cond (decide ((vc1.toNat : Int) = 46))
    ((sub? qname 0 vx).bind fun vs1 =>
    (z1043 vs1 qf).bind fun vr1 =>
    some vr1)
    (some false)

noncomputable def z1092 (qname : List UInt8) (qf : List api_Prop) (vx : Int) : Option ((Int) ⊕ (Unit ⊕ Unit)) :=
  cond (decide (vx < (qname.length : Int)))
    ((z1097 qname qf vx).bind fun vx2_1 =>
    cond (vx2_1)
      (some (.inr (.inr ())))
      (some (.inl (IntKind.wrap .i64 (vx + 1)))))
    (some (.inr (.inl ())))

noncomputable def z1089 (qname : List UInt8) (qf : List api_Prop) : Option (Bool) :=
  (loopO (z1092 qname qf) 0).bind fun x => match x with
    | .inl _ =>
      some false
    | .inr _ =>
      some true

/-! ### beaconfleet/twin.CheckProps -/
noncomputable def z1066 (ql : List api_Prop) (vx : Int) (vy2 : api_Prop) : Option (Bool) :=
  cond (decide (0 < vx))
    ((at? ql (IntKind.wrap .i64 (vx - 1))).bind fun vy3 =>
    some (Op.bytesLess vy2.Name vy3.Name || decide (vy2.Name = vy3.Name)))
    (some false)

noncomputable def z1061 (ql : List api_Prop) (vx : Int) : Option ((Int) ⊕ (Unit ⊕ Int)) :=
  cond (decide (vx < (ql.length : Int)))
    ((at? ql vx).bind fun vy2 =>
    (z1110 vy2.Name).bind fun vr1 =>
    cond (!vr1)
      (some (.inr (.inr 5)))
      ((z1126 (api_Value.mk vy2.Value.Kind vy2.Value.Flag vy2.Value.Number vy2.Value.Words)).bind fun vr2_1 =>
      cond (!decide (vr2_1 = 0))
        (some (.inr (.inr vr2_1)))
        (cond (decide (vy2.Value.Kind = 0))
          (some (.inr (.inr 4)))
          ((z1066 ql vx vy2).bind fun vx2_1 =>
          cond (vx2_1)
            (some (.inr (.inr 7)))
            (some (.inl (IntKind.wrap .i64 (vx + 1))))))))
    (some (.inr (.inl ())))

noncomputable def z1071 (ql : List api_Prop) (vx4 : Int) : Option ((Int) ⊕ (Unit ⊕ Unit)) :=
  cond (decide (vx4 < (ql.length : Int)))
    ((at? ql vx4).bind fun vy5 =>
    (z1089 vy5.Name ql).bind fun vr2_3 =>
    cond (vr2_3)
      (some (.inr (.inr ())))
      (some (.inl (IntKind.wrap .i64 (vx4 + 1)))))
    (some (.inr (.inl ())))

noncomputable def z1042 (ql : List api_Prop) : Option (Int) :=
  cond (decide (500 < (ql.length : Int)))
    (some 2)
    ((loopO (z1061 ql) 0).bind fun x => match x with
      | .inl _ =>
        (loopO (z1071 ql) 0).bind fun x => match x with
          | .inl _ =>
            some 0
          | .inr _ =>
            some 13
      | .inr vx3_1 =>
        some vx3_1)

/-! ### cmp.isNaN[string] -/
noncomputable def z156 (qx : List UInt8) : Option (Unit) :=
  some ()

/-! ### cmp.Less[string] -/
noncomputable def z140 (qx : List UInt8) (qy : List UInt8) : Option (Bool) :=
  (z156 qx).bind fun _ =>
  cond (!decide (qx = qx))
    ((z156 qy).bind fun _ =>
    cond (!(!decide (qy = qy)))
      (some true)
      (some (Op.bytesLess qx qy)))
    (some (Op.bytesLess qx qy))

noncomputable def z135 (qx : List UInt8) (qy : List UInt8) : Option (Bool) :=
  (z140 qx qy).bind fun vx1 =>
  some vx1

/-! ### slices.insertionSortOrdered[string] -/
noncomputable def z738 (qa : Int) (vl3 : List (List UInt8)) (vj1 : Int) : Option (Bool) :=
  cond (decide (qa < vj1))
    ((at? vl3 vj1).bind fun vy15 =>
    (at? vl3 (IntKind.wrap .i64 (vj1 - 1))).bind fun vy16 =>
    (z135 vy15 vy16).bind fun vr3 =>
    some vr3)
    (some false)

noncomputable def z733 (qa : Int) : (List (List UInt8)) × Int → Option (((List (List UInt8)) × Int) ⊕ ((List (List UInt8))))
  | (vl3, vj1) =>
  (z738 qa vl3 vj1).bind fun vx4_1 =>
  cond (vx4_1)
    ((at? vl3 (IntKind.wrap .i64 (vj1 - 1))).bind fun vy17 =>
    (at? vl3 vj1).bind fun vy18 =>
    (at? (vl3.set vj1.toNat vy17) (IntKind.wrap .i64 (vj1 - 1))).bind fun vy19 =>
    some (.inl ((vl3.set vj1.toNat vy17).set (IntKind.wrap .i64 (vj1 - 1)).toNat vy18, IntKind.wrap .i64 (vj1 - 1))))
    (some (.inr vl3))

noncomputable def z728 (qa : Int) (qb : Int) : (List (List UInt8)) × Int → Option (((List (List UInt8)) × Int) ⊕ ((List (List UInt8))))
  | (vl, vi) =>
  cond (decide (vi < qb))
    ((loopO (z733 qa) (vl, vi)).bind fun vl4_1 =>
    some (.inl (vl4_1, IntKind.wrap .i64 (vi + 1))))
    (some (.inr vl))

noncomputable def z725 (qdata : List (List UInt8)) (qa : Int) (qb : Int) : Option ((List (List UInt8))) :=
  (loopO (z728 qa qb) (qdata, IntKind.wrap .i64 (qa + 1))).bind fun vl5_1 =>
  some vl5_1

/-! ### slices.pdqsortOrdered[string] -/
noncomputable def z770 (qx : List (List UInt8)) (qx1 : Int) (qx2 : Int) (qx3 : Int) : Unit → Option ((Unit) ⊕ ((List (List UInt8))))
  | _ =>
  cond (decide ((IntKind.wrap .i64 (qx2 - qx1)) ≤ 12))
    ((z725 qx qx1 qx2).bind fun vl6_1 =>
    gd (vl6_1.length == qx.length) <|
    some (.inr vl6_1))
    (cond (decide (qx3 = 0))
      (none)
      (none))

noncomputable def z767 (qx : List (List UInt8)) (qx1 : Int) (qx2 : Int) (qx3 : Int) : Option ((List (List UInt8))) :=
  (loopO (z770 qx qx1 qx2 qx3) ()).bind fun vl1 =>
  some vl1

/-! ### slices.Sort[[]string,string] -/
noncomputable def z668 (qx : List (List UInt8)) : Option ((List (List UInt8))) :=
  (bits_Len (IntKind.wrap .u64 ((qx.length : Int)))).bind fun vr1 =>
  (z767 qx 0 (qx.length : Int) vr1).bind fun vl2 =>
  gd (vl2.length == qx.length) <|
  some vl2

/-! ### slices.Compact[[]string,string] -/
noncomputable def z602 (qs : List (List UInt8)) (vk : Int) (vl4 : List (List UInt8)) (vk6 : Int) (vk2_1 : Int) : Option (((List (List UInt8)) × Int)) :=
  gd (decide (0 ≤ vk) && decide (0 ≤ vk2_1) && decide (vk2_1 < (qs.length : Int) - vk)) <|
  (at? vl4 (vk + vk2_1)).bind fun vy13 =>
  gd (decide (0 ≤ vk) && decide (0 ≤ (IntKind.wrap .i64 (vk2_1 - 1))) && decide ((IntKind.wrap .i64 (vk2_1 - 1)) < (qs.length : Int) - vk)) <|
  (at? vl4 (vk + (IntKind.wrap .i64 (vk2_1 - 1)))).bind fun vy14 =>
  cond (!decide (vy13 = vy14))
    ((at? vl4 vk6).bind fun vy15 =>
    some (vl4.set vk6.toNat vy13, IntKind.wrap .i64 (vk6 + 1)))
    (some (vl4, vk6))

noncomputable def z597 (qs : List (List UInt8)) (vk : Int) : (List (List UInt8)) × Int × Int → Option (((List (List UInt8)) × Int × Int) ⊕ (((List (List UInt8)) × Int)))
  | (vl4, vk6, vk2_1) =>
  cond (decide (vk2_1 < (((qs.length : Int).toNat - vk.toNat : Nat) : Int)))
    ((z602 qs vk vl4 vk6 vk2_1).bind fun (vl6_1, vk8_1) =>
    some (.inl (vl6_1, vk8_1, IntKind.wrap .i64 (vk2_1 + 1))))
    (some (.inr (vl4, vk6)))

noncomputable def z592 (qs : List (List UInt8)) (vk : Int) : Option ((Int) ⊕ (Unit ⊕ (List (List UInt8)))) :=
  cond (decide (vk < (qs.length : Int)))
    ((at? qs vk).bind fun vy8 =>
    (at? qs (IntKind.wrap .i64 (vk - 1))).bind fun vy9 =>
    cond (decide (vy8 = vy9))
      (gd (decide (0 ≤ vk) && decide (vk ≤ (qs.length : Int)) && decide ((qs.length : Int) ≤ (qs.length : Int))) <|
      (loopO (z597 qs vk) (qs, vk, 1)).bind fun (vl7_1, vk9_1) =>
      gd (decide (0 ≤ vk9_1) && decide (vk9_1 ≤ (vl7_1.length : Int)) && decide ((vl7_1.length : Int) ≤ (vl7_1.length : Int))) <|
      gd (decide (0 ≤ vk9_1) && decide (vk9_1 ≤ ((vl7_1.take vk9_1.toNat ++ (List.replicate ((vl7_1.length : Int).toNat - vk9_1.toNat) ([] : List UInt8) ++ vl7_1.drop (vk9_1.toNat + ((vl7_1.length : Int).toNat - vk9_1.toNat)))).length : Int))) <|
      some (.inr (.inr ((vl7_1.take vk9_1.toNat ++ (List.replicate ((vl7_1.length : Int).toNat - vk9_1.toNat) ([] : List UInt8) ++ vl7_1.drop (vk9_1.toNat + ((vl7_1.length : Int).toNat - vk9_1.toNat)))).take vk9_1.toNat))))
      (some (.inl (IntKind.wrap .i64 (vk + 1)))))
    (some (.inr (.inl ())))

noncomputable def z589 (qs : List (List UInt8)) : Option ((List (List UInt8))) :=
  cond (decide ((qs.length : Int) < 2))
    (some qs)
    ((loopO (z592 qs) 1).bind fun x => match x with
      | .inl _ =>
        some qs
      | .inr vx1 =>
        some vx1)

/-! ### beaconfleet/twin.names -/
noncomputable def z1121 (vy3 : List api_Prop) : (List (List UInt8)) × Int → Option (((List (List UInt8)) × Int) ⊕ ((List (List UInt8))))
  | (vout3, vx2) =>
  cond (decide (vx2 < (vy3.length : Int)))
    ((at? vy3 vx2).bind fun vy5 =>
    gd (Nat.ble (vout3.length + ([vy5.Name] : List (List UInt8)).length) LIM) <|
    some (.inl (vout3 ++ ([vy5.Name] : List (List UInt8)), IntKind.wrap .i64 (vx2 + 1))))
    (some (.inr vout3))

noncomputable def z1116 (qlists : List (List api_Prop)) : (List (List UInt8)) × Int → Option (((List (List UInt8)) × Int) ⊕ ((List (List UInt8))))
  | (vout, vx) =>
  cond (decide (vx < (qlists.length : Int)))
    ((at? qlists vx).bind fun vy3 =>
    (loopO (z1121 vy3) (vout, 0)).bind fun vout4_1 =>
    some (.inl (vout4_1, IntKind.wrap .i64 (vx + 1))))
    (some (.inr vout))

noncomputable def z1113 (qlists : List (List api_Prop)) : Option ((List (List UInt8))) :=
  (loopO (z1116 qlists) ([], 0)).bind fun vout5_1 =>
  (z668 vout5_1).bind fun vl =>
  gd (vl.length == vout5_1.length) <|
  (z589 vl).bind fun vr =>
  some vr

/-! ### slices.BinarySearchFunc[[]beaconfleet/api.Prop,beaconfleet/api.Prop,string] -/
noncomputable def z581 : Unit → Option ((Unit) ⊕ (Unit))
  | _ =>
  cond (decide ((0 : Int) < 0))
    (none)
    (some (.inr ()))

noncomputable def z578 (qtarget : List UInt8) : Option (Unit) :=
  (loopO z581 ()).bind fun _ =>
  cond (decide ((0 : Int) < 0))
    (none)
    (some ())

/-! ### beaconfleet/twin.find -/
noncomputable def z1106 (qname : List UInt8) : Option (Unit) :=
  (z578 qname).bind fun _ =>
  some ()

/-! ### beaconfleet/twin.valueOf -/
noncomputable def z1136 (qname : List UInt8) : Option (Unit) :=
  (z1106 qname).bind fun _ =>
  cond (decide (0 ≤ ((-1) : Int)))
    (none)
    (some ())

/-! ### beaconfleet/twin.valueOf -/
noncomputable def z1134 (ql : List api_Prop) (qname : List UInt8) : Option (api_Value) :=
  (twin_find ql qname).bind fun vr2 =>
  cond (decide (0 ≤ vr2))
    ((at? ql vr2).bind fun vy =>
    some (api_Value.mk vy.Value.Kind vy.Value.Flag vy.Value.Number vy.Value.Words))
    (some (api_Value.mk 0 false 0 ([] : List UInt8)))

/-! ### beaconfleet/twin.Differ -/
noncomputable def z1084 (qb : List api_Prop) (vr1_1 : List (List UInt8)) (vout : List api_Change) (vx : Int) : Option ((List api_Change)) :=
  (at? vr1_1 vx).bind fun vy1 =>
  (z1136 vy1).bind fun _ =>
  (z1134 qb vy1).bind fun vr4 =>
  cond (!(decide ((0 : Int) = vr4.Kind) && ((false == vr4.Flag) && (decide ((0 : Int) = vr4.Number) && (decide (([] : List UInt8) = vr4.Words) && true)))))
    (gd (Nat.ble (vout.length + ([api_Change.mk vy1 (api_Value.mk 0 false 0 ([] : List UInt8)) vr4] : List api_Change).length) LIM) <|
    some (vout ++ ([api_Change.mk vy1 (api_Value.mk 0 false 0 ([] : List UInt8)) vr4] : List api_Change)))
    (some vout)

noncomputable def z1079 (qb : List api_Prop) (vr1_1 : List (List UInt8)) : (List api_Change) × Int → Option (((List api_Change) × Int) ⊕ ((List api_Change)))
  | (vout, vx) =>
  cond (decide (vx < (vr1_1.length : Int)))
    ((z1084 qb vr1_1 vout vx).bind fun vout2_1 =>
    some (.inl (vout2_1, IntKind.wrap .i64 (vx + 1))))
    (some (.inr vout))

noncomputable def z1076 (qb : List api_Prop) : Option ((List api_Change) × Int) :=
  (z1047).bind fun vr =>
  (z1042 qb).bind fun vr3 =>
  (z16 ([vr, vr3] : List Int)).bind fun vr1 =>
  cond (!decide (vr1 = 0))
    (some ([], vr1))
    ((z1113 ([[], qb] : List (List api_Prop))).bind fun vr1_1 =>
    (loopO (z1079 qb vr1_1) ([], 0)).bind fun vout3_1 =>
    some (vout3_1, 0))

/-! ### beaconfleet/series.byDevice -/
noncomputable def z530 (qa : api_Sample) (qb : api_Sample) : Option (Int) :=
  (z958 qa.Device qb.Device).bind fun _ =>
  (z958 qa.Metric qb.Metric).bind fun _ =>
  (z132 qa.At qb.At).bind fun vr =>
  (z145 ([Lib.compareBytes qa.Device qb.Device, Lib.compareBytes qa.Metric qb.Metric, vr] : List Int)).bind fun vr1 =>
  some vr1

/-! ### beaconfleet/series.Check -/
noncomputable def z512 (vy2 : api_Sample) : Option (Bool) :=
  (base_Key vy2.Device).bind fun vr3 =>
  cond (!vr3)
    (some true)
    ((base_Key vy2.Metric).bind fun vr4 =>
    some (!vr4))

noncomputable def z517 (vy2 : api_Sample) : Option (Bool) :=
  (z41 vy2.At).bind fun vr1_2 =>
  cond (!vr1_2)
    (some true)
    ((base_Out vy2.Value (-1000000000) 1000000000).bind fun vr5 =>
    some vr5)

noncomputable def z522 (ql : List api_Sample) (vx : Int) (vy2 : api_Sample) : Option (Bool) :=
  cond (decide (0 < vx))
    ((at? ql (IntKind.wrap .i64 (vx - 1))).bind fun vy3 =>
    (z530 vy2 vy3).bind fun vr2_2 =>
    some (decide (vr2_2 ≤ 0)))
    (some false)

noncomputable def z507 (ql : List api_Sample) (vx : Int) : Option ((Int) ⊕ (Unit ⊕ Int)) :=
  cond (decide (vx < (ql.length : Int)))
    ((at? ql vx).bind fun vy2 =>
    (z512 vy2).bind fun vx4_1 =>
    cond (vx4_1)
      (some (.inr (.inr 5)))
      ((z517 vy2).bind fun vx5_1 =>
      cond (vx5_1)
        (some (.inr (.inr 1)))
        ((z522 ql vx vy2).bind fun vx6_1 =>
        cond (vx6_1)
          (some (.inr (.inr 7)))
          (some (.inl (IntKind.wrap .i64 (vx + 1)))))))
    (some (.inr (.inl ())))

noncomputable def z493 (ql : List api_Sample) : Option (Int) :=
  cond (decide (5000 < (ql.length : Int)))
    (some 2)
    ((loopO (z507 ql) 0).bind fun x => match x with
      | .inl _ =>
        some 0
      | .inr vx7_1 =>
        some vx7_1)

/-! ### beaconfleet/series.CheckSeries$1 -/
noncomputable def z498 (qs : api_Sample) (qx : List api_Sample) : Option (Bool) :=
  (at? qx 0).bind fun vy =>
  cond (!decide (qs.Device = vy.Device))
    (some true)
    (some (!decide (qs.Metric = vy.Metric)))

noncomputable def z495 (qs : api_Sample) (qx : List api_Sample) : Option (Bool) :=
  (z498 qs qx).bind fun vx1 =>
  some vx1

/-! ### slices.IndexFunc[[]beaconfleet/api.Sample,beaconfleet/api.Sample] -/
noncomputable def z646 (qs : List api_Sample) (vx : Int) : Option ((Int) ⊕ (Unit ⊕ Int)) :=
  cond (decide (vx < (qs.length : Int)))
    ((at? qs vx).bind fun vy1 =>
    (z495 vy1 qs).bind fun vr1 =>
    cond (vr1)
      (some (.inr (.inr vx)))
      (some (.inl (IntKind.wrap .i64 (vx + 1)))))
    (some (.inr (.inl ())))

noncomputable def z643 (qs : List api_Sample) : Option (Int) :=
  (loopO (z646 qs) 0).bind fun x => match x with
    | .inl _ =>
      some (-1)
    | .inr vx1_1 =>
      some vx1_1

/-! ### slices.ContainsFunc[[]beaconfleet/api.Sample,beaconfleet/api.Sample] -/
noncomputable def z613 (qs : List api_Sample) : Option (Bool) :=
  (z643 qs).bind fun vr2 =>
  some (decide (0 ≤ vr2))

/-! ### beaconfleet/series.CheckSeries -/
noncomputable def z494 (ql : List api_Sample) : Option (Int) :=
  (z493 ql).bind fun vr6 =>
  cond (!decide (vr6 = 0))
    (some vr6)
    ((z613 ql).bind fun vr =>
    cond (vr)
      (some 13)
      (some 0))

/-! ### beaconfleet/series.seven -/
noncomputable def z552 : (List Int) × Int → Option (((List Int) × Int) ⊕ (((List Int) × Int)))
  | (vb, vn) =>
  cond (decide (128 ≤ vn))
    (gd (Nat.ble (vb.length + ([ibits .or .u8 (IntKind.wrap .u8 (ibits .and .u64 vn 127)) 128] : List Int).length) LIM) <|
    some (.inl (vb ++ ([ibits .or .u8 (IntKind.wrap .u8 (ibits .and .u64 vn 127)) 128] : List Int), ishr .u64 vn 7)))
    (some (.inr (vb, vn)))

noncomputable def z549 (qn : Int) : Option ((List Int)) :=
  (loopO z552 ([], qn)).bind fun (vb1_1, vn1_1) =>
  gd (Nat.ble (vb1_1.length + ([IntKind.wrap .u8 (vn1_1)] : List Int).length) LIM) <|
  some (vb1_1 ++ ([IntKind.wrap .u8 (vn1_1)] : List Int))

/-! ### beaconfleet/series.doubled -/
noncomputable def z533 (qn : Int) : Option (Int) :=
  cond (decide (qn < 0))
    (some (IntKind.wrap .u64 (IntKind.wrap .i64 ((IntKind.wrap .i64 (((-2) : Int) * qn)) - 1))))
    (some (IntKind.wrap .u64 (IntKind.wrap .i64 ((2 : Int) * qn))))

/-! ### beaconfleet/series.seven -/
noncomputable def z560 : (List Int) × Int → Option (((List Int) × Int) ⊕ (((List Int) × Int)))
  | (vb, vn) =>
  cond (decide (128 ≤ vn))
    (gd (Nat.ble (vb.length + ([ibits .or .u8 (IntKind.wrap .u8 (ibits .and .u64 vn 127)) 128] : List Int).length) LIM) <|
    some (.inl (vb ++ ([ibits .or .u8 (IntKind.wrap .u8 (ibits .and .u64 vn 127)) 128] : List Int), ishr .u64 vn 7)))
    (some (.inr (vb, vn)))

noncomputable def z557 (qb : List Int) (qn : Int) : Option ((List Int)) :=
  (loopO z560 (qb, qn)).bind fun (vb1_1, vn1_1) =>
  gd (Nat.ble (vb1_1.length + ([IntKind.wrap .u8 (vn1_1)] : List Int).length) LIM) <|
  some (vb1_1 ++ ([IntKind.wrap .u8 (vn1_1)] : List Int))

/-! ### beaconfleet/series.pack -/
noncomputable def z544 (vat : Int) (vby : Int) (vx : Int) (vy1 : api_Sample) : Option (Int) :=
  cond (decide (0 < vx))
    (some (IntKind.wrap .i64 (vy1.At - vat)))
    (some vby)

noncomputable def z539 (ql : List api_Sample) : (List Int) × Int × Int × Int × Int → Option (((List Int) × Int × Int × Int × Int) ⊕ ((List Int)))
  | (vout, vat, vby, vvalue, vx) =>
  cond (decide (vx < (ql.length : Int)))
    ((at? ql vx).bind fun vy1 =>
    (z533 (IntKind.wrap .i64 ((IntKind.wrap .i64 (vy1.At - vat)) - vby))).bind fun vr5 =>
    (z557 vout vr5).bind fun vr6 =>
    (z533 (IntKind.wrap .i64 (vy1.Value - vvalue))).bind fun vr7 =>
    (z557 vr6 vr7).bind fun vr8 =>
    (z544 vat vby vx vy1).bind fun vby2_1 =>
    some (.inl (vr8, vy1.At, vby2_1, vy1.Value, IntKind.wrap .i64 (vx + 1))))
    (some (.inr vout))

noncomputable def z536 (ql : List api_Sample) : Option ((List Int)) :=
  (z549 (IntKind.wrap .u64 ((ql.length : Int)))).bind fun vr =>
  (loopO (z539 ql) (vr, 0, 0, 0, 0)).bind fun vout1_1 =>
  some vout1_1

/-! ### beaconfleet/series.Pack -/
noncomputable def z527 (ql : List api_Sample) : Option ((List Int) × Int) :=
  (z494 ql).bind fun vr1 =>
  cond (!decide (vr1 = 0))
    (some ([], vr1))
    ((z536 ql).bind fun vr9 =>
    some (vr9, 0))

/-! ### unicode/utf8.RuneCountInString -/
noncomputable def z1151 (qs : List UInt8) : Nat × Int → Option ((Nat × Int) ⊕ (Int))
  | (vpos, vn) =>
  cond (decide (vpos < qs.length))
    ((some (dec qs vpos)).bind fun vd1 =>
    some (.inl ((vpos + vd1.2 : Nat), IntKind.wrap .i64 (vn + 1))))
    (some (.inr vn))

noncomputable def z1148 (qs : List UInt8) : Option (Int) :=
  (loopO (z1151 qs) ((0 : Nat), 0)).bind fun vn1_1 =>
  some vn1_1

/-! ### unicode/utf8.decodeRuneInStringSlow -/
noncomputable def z1158 (qx : List UInt8) : Option (Unit) :=
  cond (decide ((qx.length : Int) < 1))
    (some ())
    ((at? qx 0).bind fun vc =>
    none)

/-! ### unicode/utf8.DecodeRuneInString -/
noncomputable def z1143 (qs : List UInt8) : Option (Bool) :=
  cond (!decide (qs = ([] : List UInt8)))
    ((at? qs 0).bind fun vc =>
    some (decide ((vc.toNat : Int) < 128)))
    (some false)

noncomputable def z1140 (qs : List UInt8) : Option (Int × Int) :=
  (z1143 qs).bind fun vx1 =>
  cond (vx1)
    ((at? qs 0).bind fun vc1 =>
    some (IntKind.wrap .i32 ((vc1.toNat : Int)), 1))
    ((z1158 qs).bind fun _ =>
    some (65533, 0))

/-! ### strings.explode -/
noncomputable def z989 (qn : Int) (vr : Int) : Option (Bool) :=
  cond (decide (qn < 0))
    (some true)
    (some (decide (vr < qn)))

noncomputable def z984 (qn : Int) (vr : Int) : Option (Int) :=
  (z989 qn vr).bind fun vx1 =>
  cond (vx1)
    (some vr)
    (some qn)

noncomputable def z994 (vn1 : Int) : (List UInt8) × (List (List UInt8)) × Int → Option (((List UInt8) × (List (List UInt8)) × Int) ⊕ (((List UInt8) × (List (List UInt8)))))
  | (vs, va, vi) =>
  cond (decide (vi < (IntKind.wrap .i64 (vn1 - 1))))
    ((z1140 vs).bind fun (vr2, vr1_2) =>
    (sub? vs 0 vr1_2).bind fun vs3 =>
    (at? va vi).bind fun vy1 =>
    (sub? vs vr1_2 (vs.length : Int)).bind fun vs4 =>
    some (.inl (vs4, va.set vi.toNat vs3, IntKind.wrap .i64 (vi + 1))))
    (some (.inr (vs, va)))

noncomputable def z999 (vn1 : Int) (vs5_1 : List UInt8) (va1_1 : List (List UInt8)) : Option ((List (List UInt8))) :=
  cond (decide (0 < vn1))
    ((at? va1_1 (IntKind.wrap .i64 (vn1 - 1))).bind fun vy2 =>
    some (va1_1.set (IntKind.wrap .i64 (vn1 - 1)).toNat vs5_1))
    (some va1_1)

noncomputable def z981 (qs : List UInt8) (qn : Int) : Option ((List (List UInt8))) :=
  (z1148 qs).bind fun vr =>
  (z984 qn vr).bind fun vn1 =>
  gd (decide (0 ≤ vn1) && decide (vn1 ≤ vn1) && decide (vn1 ≤ 137438953472)) <|
  (loopO (z994 vn1) (qs, List.replicate vn1.toNat ([] : List UInt8), 0)).bind fun (vs5_1, va1_1) =>
  (z999 vn1 vs5_1 va1_1).bind fun va2_1 =>
  some va2_1

/-! ### strings.Index -/
noncomputable def z972 (qs : List UInt8) (qsubstr : List UInt8) : Option (Int) :=
  (z1028 qs qsubstr).bind fun vr =>
  some vr

/-! ### strings.Count -/
noncomputable def z964 (qsubstr : List UInt8) : (List UInt8) × Int → Option (((List UInt8) × Int) ⊕ (Int))
  | (vs, vn) =>
  (z972 vs qsubstr).bind fun vr1_1 =>
  cond (decide (vr1_1 = (-1)))
    (some (.inr vn))
    ((sub? vs (IntKind.wrap .i64 (vr1_1 + (qsubstr.length : Int))) (vs.length : Int)).bind fun vs2 =>
    some (.inl (vs2, IntKind.wrap .i64 (vn + 1))))

noncomputable def z961 (qs : List UInt8) (qsubstr : List UInt8) : Option (Int) :=
  cond (decide ((qsubstr.length : Int) = 0))
    ((z1148 qs).bind fun vr =>
    some (IntKind.wrap .i64 (vr + 1)))
    (cond (decide ((qsubstr.length : Int) = 1))
      ((at? qsubstr 0).bind fun vc =>
      some (countB qs (vc.toNat : Int).toNat.toUInt8))
      ((loopO (z964 qsubstr) (qs, 0)).bind fun vx1 =>
      some vx1))

/-! ### strings.genSplit -/
noncomputable def z1007 (qx : List UInt8) (qx1 : List UInt8) (qx3 : Int) : Option (Int) :=
  cond (decide (qx3 < 0))
    ((z961 qx qx1).bind fun vr2 =>
    some (IntKind.wrap .i64 (vr2 + 1)))
    (some qx3)

noncomputable def z1012 (qx : List UInt8) (qx1 : List UInt8) (qx2 : Int) (vx1 : Int) : (List UInt8) × (List (List UInt8)) × Int → Option (((List UInt8) × (List (List UInt8)) × Int) ⊕ (((List UInt8) × (List (List UInt8)) × Int)))
  | (vx2, vx3, vx4) =>
  cond (decide (vx4 < (IntKind.wrap .i64 ((imin vx1 (IntKind.wrap .i64 ((qx.length : Int) + 1))) - 1))))
    ((z972 vx2 qx1).bind fun vr1_1 =>
    cond (decide (vr1_1 < 0))
      (some (.inr (vx2, vx3, vx4)))
      ((sub? vx2 0 (IntKind.wrap .i64 (vr1_1 + qx2))).bind fun vs2 =>
      (at? vx3 vx4).bind fun vy1 =>
      (sub? vx2 (IntKind.wrap .i64 (vr1_1 + (qx1.length : Int))) (vx2.length : Int)).bind fun vs3 =>
      some (.inl (vs3, vx3.set vx4.toNat vs2, IntKind.wrap .i64 (vx4 + 1)))))
    (some (.inr (vx2, vx3, vx4)))

noncomputable def z1004 (qx : List UInt8) (qx1 : List UInt8) (qx2 : Int) (qx3 : Int) : Option ((List (List UInt8))) :=
  cond (decide (qx3 = 0))
    (some [])
    (cond (decide (qx1 = ([] : List UInt8)))
      ((z981 qx qx3).bind fun vr3 =>
      some vr3)
      ((z1007 qx qx1 qx3).bind fun vx1 =>
      gd (decide (0 ≤ (imin vx1 (IntKind.wrap .i64 ((qx.length : Int) + 1)))) && decide ((imin vx1 (IntKind.wrap .i64 ((qx.length : Int) + 1))) ≤ (imin vx1 (IntKind.wrap .i64 ((qx.length : Int) + 1)))) && decide ((imin vx1 (IntKind.wrap .i64 ((qx.length : Int) + 1))) ≤ 137438953472)) <|
      (loopO (z1012 qx qx1 qx2 vx1) (qx, List.replicate (imin vx1 (IntKind.wrap .i64 ((qx.length : Int) + 1))).toNat ([] : List UInt8), 0)).bind fun (vx5_1, vx6_1, vx7_1) =>
      (at? vx6_1 vx7_1).bind fun vy2 =>
      gd (decide (0 ≤ (IntKind.wrap .i64 (vx7_1 + 1))) && decide ((IntKind.wrap .i64 (vx7_1 + 1)) ≤ ((vx6_1.set vx7_1.toNat vx5_1).length : Int))) <|
      some ((vx6_1.set vx7_1.toNat vx5_1).take (IntKind.wrap .i64 (vx7_1 + 1)).toNat)))

/-! ### strings.Split -/
noncomputable def z975 (qs : List UInt8) (qsep : List UInt8) : Option ((List (List UInt8))) :=
  (z1004 qs qsep 0 (-1)).bind fun vr =>
  some vr

/-! ### internal/stringslite.HasPrefix -/
noncomputable def z1023 (qs : List UInt8) (qprefix : List UInt8) : Option (Bool) :=
  cond (decide ((qprefix.length : Int) ≤ (qs.length : Int)))
    ((sub? qs 0 (qprefix.length : Int)).bind fun vs =>
    some (decide (vs = qprefix)))
    (some false)

noncomputable def z1020 (qs : List UInt8) (qprefix : List UInt8) : Option (Bool) :=
  (z1023 qs qprefix).bind fun vx1 =>
  some vx1

/-! ### internal/stringslite.TrimPrefix -/
noncomputable def z1039 (qs : List UInt8) (qprefix : List UInt8) : Option ((List UInt8)) :=
  (z1020 qs qprefix).bind fun vr =>
  cond (vr)
    ((sub? qs (qprefix.length : Int) (qs.length : Int)).bind fun vs =>
    some vs)
    (some qs)

/-! ### strings.TrimPrefix -/
noncomputable def z978 (qs : List UInt8) (qprefix : List UInt8) : Option ((List UInt8)) :=
  (z1039 qs qprefix).bind fun vr1 =>
  some vr1

/-! ### internal/strconv.lower -/
noncomputable def z917 (qc : Int) : Option (Unit) :=
  some ()

/-! ### internal/strconv.underscoreOK -/
noncomputable def z928 (qx : List UInt8) : Option (Bool) :=
  cond (decide (1 ≤ (qx.length : Int)))
    ((at? qx 0).bind fun vc =>
    cond (decide ((vc.toNat : Int) = 45))
      (some true)
      (some (decide ((vc.toNat : Int) = 43))))
    (some false)

noncomputable def z923 (qx : List UInt8) : Option ((List UInt8)) :=
  (z928 qx).bind fun vx1 =>
  cond (vx1)
    ((sub? qx 1 (qx.length : Int)).bind fun vs =>
    some vs)
    (some qx)

noncomputable def z938 (vx2_1 : List UInt8) : Option (Bool) :=
  cond (decide (2 ≤ (vx2_1.length : Int)))
    ((at? vx2_1 0).bind fun vc1 =>
    cond (decide ((vc1.toNat : Int) = 48))
      ((at? vx2_1 1).bind fun vc2 =>
      (z917 (vc2.toNat : Int)).bind fun _ =>
      cond (decide ((ibits .or .u8 (vc2.toNat : Int) 32) = 98))
        (some true)
        (cond (decide ((ibits .or .u8 (vc2.toNat : Int) 32) = 111))
          (some true)
          (some (decide ((ibits .or .u8 (vc2.toNat : Int) 32) = 120)))))
      (some false))
    (some false)

noncomputable def z933 (vx2_1 : List UInt8) : Option ((Int × Int × Bool)) :=
  (z938 vx2_1).bind fun vx3_1 =>
  cond (vx3_1)
    ((at? vx2_1 1).bind fun vc3 =>
    (z917 (vc3.toNat : Int)).bind fun _ =>
    some (48, 2, decide ((ibits .or .u8 (vc3.toNat : Int) 32) = 120)))
    (some (94, 0, false))

noncomputable def z953 (vx2_1 : List UInt8) (vx6_1 : Bool) (vx8 : Int) : Option (Bool) :=
  (at? vx2_1 vx8).bind fun vc6 =>
  cond (decide ((48 : Int) ≤ (vc6.toNat : Int)))
    (cond (decide ((vc6.toNat : Int) ≤ 57))
      (some true)
      (cond (vx6_1)
        ((z917 (vc6.toNat : Int)).bind fun _ =>
        cond (decide ((97 : Int) ≤ (ibits .or .u8 (vc6.toNat : Int) 32)))
          (some (decide ((ibits .or .u8 (vc6.toNat : Int) 32) ≤ 102)))
          (some false))
        (some false)))
    (cond (vx6_1)
      ((z917 (vc6.toNat : Int)).bind fun _ =>
      cond (decide ((97 : Int) ≤ (ibits .or .u8 (vc6.toNat : Int) 32)))
        (some (decide ((ibits .or .u8 (vc6.toNat : Int) 32) ≤ 102)))
        (some false))
      (some false))

noncomputable def z948 (vx2_1 : List UInt8) (vx6_1 : Bool) (vx7 : Int) (vx8 : Int) : Option (Int ⊕ Unit) :=
  (z953 vx2_1 vx6_1 vx8).bind fun vx11_1 =>
  cond (vx11_1)
    (some (.inl 48))
    ((at? vx2_1 vx8).bind fun vc7 =>
    cond (decide ((vc7.toNat : Int) = 95))
      (cond (!decide (vx7 = 48))
        (some (.inr ()))
        (some (.inl 95)))
      (cond (decide (vx7 = 95))
        (some (.inr ()))
        (some (.inl 33))))

noncomputable def z943 (vx2_1 : List UInt8) (vx6_1 : Bool) : Int × Int → Option ((Int × Int) ⊕ (Int ⊕ Unit))
  | (vx7, vx8) =>
  cond (decide (vx8 < (vx2_1.length : Int)))
    ((z948 vx2_1 vx6_1 vx7 vx8).bind fun x => match x with
      | .inl vx12_1 =>
        some (.inl (vx12_1, IntKind.wrap .i64 (vx8 + 1)))
      | .inr _ =>
        some (.inr (.inr ())))
    (some (.inr (.inl vx7)))

noncomputable def z920 (qx : List UInt8) : Option (Bool) :=
  (z923 qx).bind fun vx2_1 =>
  (z933 vx2_1).bind fun (vx4_1, vx5_1, vx6_1) =>
  (loopO (z943 vx2_1 vx6_1) (vx4_1, vx5_1)).bind fun x => match x with
    | .inl vx13_1 =>
      some (!decide (vx13_1 = 95))
    | .inr _ =>
      some false

/-! ### internal/strconv.ParseUint -/
noncomputable def z877 (qx1 : Int) : Option (Bool) :=
  cond (decide ((2 : Int) ≤ qx1))
    (some (decide (qx1 ≤ 36)))
    (some false)

noncomputable def z882 (qx : List UInt8) : Option (Bool) :=
  cond (decide (3 ≤ (qx.length : Int)))
    ((at? qx 1).bind fun vc1 =>
    (z917 (vc1.toNat : Int)).bind fun _ =>
    some (decide ((ibits .or .u8 (vc1.toNat : Int) 32) = 98)))
    (some false)

noncomputable def z887 (qx : List UInt8) : Option (Bool) :=
  cond (decide (3 ≤ (qx.length : Int)))
    ((at? qx 1).bind fun vc2 =>
    (z917 (vc2.toNat : Int)).bind fun _ =>
    some (decide ((ibits .or .u8 (vc2.toNat : Int) 32) = 111)))
    (some false)

noncomputable def z892 (qx : List UInt8) : Option (Bool) :=
  cond (decide (3 ≤ (qx.length : Int)))
    ((at? qx 1).bind fun vc3 =>
    (z917 (vc3.toNat : Int)).bind fun _ =>
    some (decide ((ibits .or .u8 (vc3.toNat : Int) 32) = 120)))
    (some false)

noncomputable def z837 (qx : List UInt8) (qx1 : Int) : Option (((List UInt8) × Int)) :=
  (z877 qx1).bind fun vx1 =>
  cond (vx1)
    (some (qx, qx1))
    (cond (decide (qx1 = 0))
      ((at? qx 0).bind fun vc =>
      cond (decide ((vc.toNat : Int) = 48))
        ((z882 qx).bind fun vx2_1 =>
        cond (vx2_1)
          ((sub? qx 2 (qx.length : Int)).bind fun vs =>
          some (vs, 2))
          ((z887 qx).bind fun vx3_1 =>
          cond (vx3_1)
            ((sub? qx 2 (qx.length : Int)).bind fun vs1 =>
            some (vs1, 8))
            ((z892 qx).bind fun vx4_1 =>
            cond (vx4_1)
              ((sub? qx 2 (qx.length : Int)).bind fun vs2 =>
              some (vs2, 16))
              ((sub? qx 1 (qx.length : Int)).bind fun vs3 =>
              some (vs3, 8)))))
        (some (qx, 10)))
      (none))

noncomputable def z902 (qx2 : Int) : Option (Bool) :=
  cond (decide (qx2 < 0))
    (some true)
    (some (decide (64 < qx2)))

noncomputable def z897 (qx2 : Int) : Option (Int) :=
  cond (decide (qx2 = 0))
    (some 64)
    ((z902 qx2).bind fun vx7_1 =>
    cond (vx7_1)
      (none)
      (some qx2))

noncomputable def z907 (vx6_1 : Int) : Option (Int) :=
  cond (decide (vx6_1 = 10))
    (some 1844674407370955162)
    (cond (decide (vx6_1 = 16))
      (some 1152921504606846976)
      (gd (!((IntKind.wrap .u64 (vx6_1)) == 0)) <|
      some (IntKind.wrap .u64 ((IntKind.wrap .u64 ((18446744073709551615 : Int).tdiv (IntKind.wrap .u64 (vx6_1)))) + 1))))

noncomputable def z848 (qx1 : Int) (vy1 : Int) : Option (Bool) :=
  cond (decide (vy1 = 95))
    (some (decide (qx1 = 0)))
    (some false)

noncomputable def z853 (vy1 : Int) : Option (Bool) :=
  cond (decide ((48 : Int) ≤ vy1))
    (some (decide (vy1 ≤ 57)))
    (some false)

noncomputable def z858 (vy1 : Int) : Option (Bool) :=
  (z917 vy1).bind fun _ =>
  cond (decide ((97 : Int) ≤ (ibits .or .u8 vy1 32)))
    (some (decide ((ibits .or .u8 vy1 32) ≤ 122)))
    (some false)

noncomputable def z843 (qx1 : Int) (vy1 : Int) : Option (Int ⊕ Unit) :=
  (z848 qx1 vy1).bind fun vx20_1 =>
  cond (vx20_1)
    (some (.inr ()))
    ((z853 vy1).bind fun vx21_1 =>
    cond (vx21_1)
      (some (.inl (IntKind.wrap .u8 (vy1 - 48))))
      ((z858 vy1).bind fun vx22_1 =>
      cond (vx22_1)
        ((z917 vy1).bind fun _ =>
        some (.inl (IntKind.wrap .u8 ((IntKind.wrap .u8 ((ibits .or .u8 vy1 32) - 97)) + 10))))
        (none)))

noncomputable def z863 (vx6_1 : Int) (vx8_1 : Int) (vx11 : Int) (vx23_1 : Int) : Option (Bool) :=
  cond (decide ((IntKind.wrap .u64 ((IntKind.wrap .u64 (vx11 * (IntKind.wrap .u64 (vx6_1)))) + (IntKind.wrap .u64 (vx23_1)))) < (IntKind.wrap .u64 (vx11 * (IntKind.wrap .u64 (vx6_1))))))
    (some true)
    (some (decide ((IntKind.wrap .u64 ((ishl .u64 1 (IntKind.wrap .u64 (vx8_1))) - 1)) < (IntKind.wrap .u64 ((IntKind.wrap .u64 (vx11 * (IntKind.wrap .u64 (vx6_1)))) + (IntKind.wrap .u64 (vx23_1)))))))

noncomputable def z838 (qx1 : Int) (vx5_1 : List UInt8) (vx6_1 : Int) (vx8_1 : Int) (vx9_1 : Int) (vx10 : Bool) (vx11 : Int) (vx12 : Int) : Option ((Bool × Int)) :=
  (at? (bytesD vx5_1) vx12).bind fun vy1 =>
  (z843 qx1 vy1).bind fun x => match x with
    | .inl vx23_1 =>
      cond (decide ((IntKind.wrap .u8 (vx6_1)) ≤ vx23_1))
        (none)
        (cond (decide (vx9_1 ≤ vx11))
          (none)
          ((z863 vx6_1 vx8_1 vx11 vx23_1).bind fun vx24_1 =>
          cond (vx24_1)
            (none)
            (some (vx10, IntKind.wrap .u64 ((IntKind.wrap .u64 (vx11 * (IntKind.wrap .u64 (vx6_1)))) + (IntKind.wrap .u64 (vx23_1)))))))
    | .inr _ =>
      some (true, vx11)

noncomputable def z912 (qx1 : Int) (vx5_1 : List UInt8) (vx6_1 : Int) (vx8_1 : Int) (vx9_1 : Int) : Bool × Int × Int → Option ((Bool × Int × Int) ⊕ ((Bool × Int)))
  | (vx10, vx11, vx12) =>
  cond (decide (vx12 < ((bytesD vx5_1).length : Int)))
    ((z838 qx1 vx5_1 vx6_1 vx8_1 vx9_1 vx10 vx11 vx12).bind fun (vx25_1, vx26_1) =>
    some (.inl (vx25_1, vx26_1, IntKind.wrap .i64 (vx12 + 1))))
    (some (.inr (vx10, vx11)))

noncomputable def z868 (qx : List UInt8) (vx27_1 : Bool) : Option (Bool) :=
  cond (vx27_1)
    ((z920 qx).bind fun vr =>
    some (!vr))
    (some false)

noncomputable def z834 (qx : List UInt8) (qx1 : Int) (qx2 : Int) : Option (Int) :=
  cond (decide (qx = ([] : List UInt8)))
    (none)
    ((z837 qx qx1).bind fun (vx5_1, vx6_1) =>
    (z897 qx2).bind fun vx8_1 =>
    (z907 vx6_1).bind fun vx9_1 =>
    gd (decide (0 ≤ (IntKind.wrap .u64 (vx8_1)))) <|
    (loopO (z912 qx1 vx5_1 vx6_1 vx8_1 vx9_1) (false, 0, 0)).bind fun (vx27_1, vx28_1) =>
    (z868 qx vx27_1).bind fun vx29_1 =>
    cond (vx29_1)
      (none)
      (some vx28_1))

/-! ### internal/strconv.ParseInt -/
noncomputable def z809 (qx : List UInt8) : Option (((List UInt8) × Bool)) :=
  (at? qx 0).bind fun vc =>
  cond (decide ((vc.toNat : Int) = 43))
    ((sub? qx 1 (qx.length : Int)).bind fun vs =>
    some (vs, false))
    (cond (decide ((vc.toNat : Int) = 45))
      ((sub? qx 1 (qx.length : Int)).bind fun vs1 =>
      some (vs1, true))
      (some (qx, false)))

noncomputable def z814 (qx2 : Int) : Option (Int) :=
  cond (decide (qx2 = 0))
    (some 64)
    (some qx2)

noncomputable def z819 (vx1_1 : Bool) (vr1 : Int) (vx3_1 : Int) : Option (Bool) :=
  cond (!vx1_1)
    (some (decide ((ishl .u64 1 (IntKind.wrap .u64 (IntKind.wrap .i64 (vx3_1 - 1)))) ≤ vr1)))
    (some false)

noncomputable def z824 (vx1_1 : Bool) (vr1 : Int) (vx3_1 : Int) : Option (Bool) :=
  cond (vx1_1)
    (some (decide ((ishl .u64 1 (IntKind.wrap .u64 (IntKind.wrap .i64 (vx3_1 - 1)))) < vr1)))
    (some false)

noncomputable def z829 (vx1_1 : Bool) (vr1 : Int) : Option (Int) :=
  cond (vx1_1)
    (some (IntKind.wrap .i64 (0 - (IntKind.wrap .i64 (vr1)))))
    (some (IntKind.wrap .i64 (vr1)))

noncomputable def z806 (qx : List UInt8) (qx1 : Int) (qx2 : Int) : Option (Int) :=
  cond (decide (qx = ([] : List UInt8)))
    (none)
    ((z809 qx).bind fun (vx2, vx1_1) =>
    (z834 vx2 qx1 qx2).bind fun vr1 =>
    (z814 qx2).bind fun vx3_1 =>
    gd (decide (0 ≤ (IntKind.wrap .u64 (IntKind.wrap .i64 (vx3_1 - 1))))) <|
    (z819 vx1_1 vr1 vx3_1).bind fun vx4_1 =>
    cond (vx4_1)
      (none)
      ((z824 vx1_1 vr1 vx3_1).bind fun vx5_1 =>
      cond (vx5_1)
        (none)
        ((z829 vx1_1 vr1).bind fun vx6_1 =>
        some vx6_1)))

/-! ### internal/strconv.Atoi -/
noncomputable def z779 (qx : List UInt8) : Option (Bool) :=
  cond (decide ((0 : Int) < (qx.length : Int)))
    (some (decide ((qx.length : Int) < 19)))
    (some false)

noncomputable def z789 (qx : List UInt8) : Option (Bool) :=
  (at? qx 0).bind fun vc =>
  cond (decide ((vc.toNat : Int) = 45))
    (some true)
    (some (decide ((vc.toNat : Int) = 43)))

noncomputable def z784 (qx : List UInt8) : Option ((List UInt8)) :=
  (z789 qx).bind fun vx2_1 =>
  cond (vx2_1)
    ((sub? qx 1 (qx.length : Int)).bind fun vs =>
    cond (decide ((vs.length : Int) < 1))
      (none)
      (some vs))
    (some qx)

noncomputable def z794 (vx3_1 : List UInt8) : Int × Int → Option ((Int × Int) ⊕ (Int))
  | (vx4, vx5) =>
  cond (decide (vx5 < ((bytesD vx3_1).length : Int)))
    ((at? (bytesD vx3_1) vx5).bind fun vy1 =>
    cond (decide (9 < (IntKind.wrap .u8 (vy1 - 48))))
      (none)
      (some (.inl (IntKind.wrap .i64 ((IntKind.wrap .i64 (vx4 * 10)) + (IntKind.wrap .i64 (IntKind.wrap .u8 (vy1 - 48)))), IntKind.wrap .i64 (vx5 + 1)))))
    (some (.inr vx4))

noncomputable def z799 (qx : List UInt8) (vx6_1 : Int) : Option (Int) :=
  (at? qx 0).bind fun vc1 =>
  cond (decide ((vc1.toNat : Int) = 45))
    (some (IntKind.wrap .i64 (0 - vx6_1)))
    (some vx6_1)

noncomputable def z776 (qx : List UInt8) : Option (Int) :=
  (z779 qx).bind fun vx1 =>
  cond (vx1)
    ((z784 qx).bind fun vx3_1 =>
    (loopO (z794 vx3_1) (0, 0)).bind fun vx6_1 =>
    (z799 qx vx6_1).bind fun vx7_1 =>
    some vx7_1)
    ((z806 qx 10 0).bind fun vr =>
    some vr)

/-! ### strconv.Atoi -/
noncomputable def z775 (qs : List UInt8) : Option (Int) :=
  (z776 qs).bind fun vr1 =>
  some vr1

/-! ### beaconfleet/base.Number -/
noncomputable def z48 (qs : List UInt8) (qdigits : Int) (vr : List UInt8) : Option (Bool) :=
  cond (decide (vr = ([] : List UInt8)))
    (some true)
    (cond (decide (qdigits < (vr.length : Int)))
      (some true)
      ((at? vr 0).bind fun vc =>
      cond (decide ((vc.toNat : Int) = 48))
        (cond (decide (1 < (vr.length : Int)))
          (some true)
          (some (decide ((vr.length : Int) < (qs.length : Int)))))
        (some false)))

noncomputable def z59 (vr : List UInt8) (vx2 : Int) : Option (Bool) :=
  (at? vr vx2).bind fun vc2 =>
  cond (decide ((vc2.toNat : Int) < 48))
    (some true)
    (some (decide (57 < (vc2.toNat : Int))))

noncomputable def z54 (vr : List UInt8) (vx2 : Int) : Option ((Int) ⊕ (Unit ⊕ Unit)) :=
  cond (decide (vx2 < (vr.length : Int)))
    ((z59 vr vx2).bind fun vx4_1 =>
    cond (vx4_1)
      (some (.inr (.inr ())))
      (some (.inl (IntKind.wrap .i64 (vx2 + 1)))))
    (some (.inr (.inl ())))

noncomputable def z44 (qs : List UInt8) (qdigits : Int) : Option (Int × Bool) :=
  (z978 qs ([45] : List UInt8)).bind fun vr =>
  (z48 qs qdigits vr).bind fun vx1 =>
  cond (vx1)
    (some (0, false))
    ((loopO (z54 vr) 0).bind fun x => match x with
      | .inl _ =>
        (z775 qs).bind fun vr1 =>
        some (vr1, true)
      | .inr _ =>
        some (0, false))

/-! ### beaconfleet/base.Numbers -/
noncomputable def z67 (qwords : List (List UInt8)) (qdigits : Int) : (List Int) × Int → Option (((List Int) × Int) ⊕ ((List Int) ⊕ Unit))
  | (vout, vx) =>
  cond (decide (vx < (qwords.length : Int)))
    ((at? qwords vx).bind fun vy1 =>
    (z44 vy1 qdigits).bind fun (vr2_1, vr3_1) =>
    cond (!vr3_1)
      (some (.inr (.inr ())))
      (gd (Nat.ble (vout.length + ([vr2_1] : List Int).length) LIM) <|
      some (.inl (vout ++ ([vr2_1] : List Int), IntKind.wrap .i64 (vx + 1)))))
    (some (.inr (.inl vout)))

noncomputable def z64 (qwords : List (List UInt8)) (qdigits : Int) : Option ((List Int) × Bool) :=
  (loopO (z67 qwords qdigits) ([], 0)).bind fun x => match x with
    | .inl vout1_1 =>
      some (vout1_1, true)
    | .inr _ =>
      some ([], false)

/-! ### beaconfleet/base.Version -/
noncomputable def z95 (qv : api_Version) : Option (Bool) :=
  (base_Out qv.Major 0 9999).bind fun vr =>
  cond (!vr)
    ((base_Out qv.Minor 0 9999).bind fun vr1 =>
    cond (!vr1)
      ((base_Out qv.Patch 0 9999).bind fun vr2 =>
      some (!vr2))
      (some false))
    (some false)

noncomputable def z92 (qv : api_Version) : Option (Bool) :=
  (z95 qv).bind fun vx1 =>
  some vx1

/-! ### beaconfleet/campaign.ParseVersion -/
noncomputable def z127 (vr : List Int) (vr1_1 : Bool) : Option (Bool) :=
  cond (!vr1_1)
    (some true)
    (some (!decide ((vr.length : Int) = 3)))

noncomputable def z124 (qs : List UInt8) : Option (api_Version × Int) :=
  (z975 qs ([46] : List UInt8)).bind fun vr1 =>
  (z64 vr1 4).bind fun (vr, vr1_1) =>
  (z127 vr vr1_1).bind fun vx1 =>
  cond (vx1)
    (some (api_Version.mk 0 0 0, 9))
    ((at? vr 0).bind fun vy =>
    (at? vr 1).bind fun vy1 =>
    (at? vr 2).bind fun vy2 =>
    (z92 (api_Version.mk vy vy1 vy2)).bind fun vr3 =>
    cond (!vr3)
      (some (api_Version.mk 0 0 0, 9))
      (some (api_Version.mk vy vy1 vy2, 0)))

/-! ### beaconfleet/place.isSpot -/
noncomputable def z488 (qs : api_Spot) : Option (Bool) :=
  (base_Out qs.X (-10000) 10000).bind fun vr =>
  cond (!vr)
    ((base_Out qs.Y (-10000) 10000).bind fun vr1 =>
    some (!vr1))
    (some false)

noncomputable def z485 (qs : api_Spot) : Option (Bool) :=
  (z488 qs).bind fun vx1 =>
  some vx1

/-! ### beaconfleet/place.Cell -/
noncomputable def z475 (qs : api_Spot) (qlevel : Int) : Option (Bool) :=
  (z485 qs).bind fun vr2 =>
  cond (!vr2)
    (some true)
    ((base_Out qlevel 0 15).bind fun vr =>
    some vr)

noncomputable def z480 (qs : api_Spot) (qlevel : Int) : (List Int) × Int × Int → Option (((List Int) × Int × Int) ⊕ ((List Int)))
  | (vout, vlong, vx2) =>
  cond (decide (vx2 < qlevel))
    (gd (!((IntKind.wrap .i64 (vlong.tdiv 2)) == 0)) <|
    gd (Nat.ble (vout.length + ([IntKind.wrap .u8 ((IntKind.wrap .u8 ((48 : Int) + (IntKind.wrap .u8 ((IntKind.wrap .i64 ((IntKind.wrap .i64 (qs.X - (-16384))).tdiv (IntKind.wrap .i64 (vlong.tdiv 2)))).tmod 2)))) + (IntKind.wrap .u8 ((2 : Int) * (IntKind.wrap .u8 ((IntKind.wrap .i64 ((IntKind.wrap .i64 (qs.Y - (-16384))).tdiv (IntKind.wrap .i64 (vlong.tdiv 2)))).tmod 2)))))] : List Int).length) LIM) <|
    some (.inl (vout ++ ([IntKind.wrap .u8 ((IntKind.wrap .u8 ((48 : Int) + (IntKind.wrap .u8 ((IntKind.wrap .i64 ((IntKind.wrap .i64 (qs.X - (-16384))).tdiv (IntKind.wrap .i64 (vlong.tdiv 2)))).tmod 2)))) + (IntKind.wrap .u8 ((2 : Int) * (IntKind.wrap .u8 ((IntKind.wrap .i64 ((IntKind.wrap .i64 (qs.Y - (-16384))).tdiv (IntKind.wrap .i64 (vlong.tdiv 2)))).tmod 2)))))] : List Int), IntKind.wrap .i64 (vlong.tdiv 2), IntKind.wrap .i64 (vx2 + 1))))
    (some (.inr vout))

noncomputable def z472 (qs : api_Spot) (qlevel : Int) : Option ((List UInt8) × Int) :=
  (z475 qs qlevel).bind fun vx1 =>
  cond (vx1)
    (some (([] : List UInt8), 1))
    ((loopO (z480 qs qlevel) ([], 32768, 0)).bind fun vout1_1 =>
    some (vout1_1.map fun n => UInt8.ofNat n.toNat, 0))

/-! ### beaconfleet/command.Order$1 -/
noncomputable def z310 (qy : api_Letter) (qx : api_Letter) : Option (Unit) :=
  some ()

/-! ### slices.IndexFunc[[]beaconfleet/api.Letter,beaconfleet/api.Letter] -/
noncomputable def z630 (qs : List api_Letter) (qf : api_Letter) (vx : Int) : Option ((Int) ⊕ (Unit ⊕ Int)) :=
  cond (decide (vx < (qs.length : Int)))
    ((at? qs vx).bind fun vy1 =>
    (z310 vy1 qf).bind fun _ =>
    cond (decide (vy1.Id = qf.Id))
      (some (.inr (.inr vx)))
      (some (.inl (IntKind.wrap .i64 (vx + 1)))))
    (some (.inr (.inl ())))

noncomputable def z627 (qs : List api_Letter) (qf : api_Letter) : Option (Int) :=
  (loopO (z630 qs qf) 0).bind fun x => match x with
    | .inl _ =>
      some (-1)
    | .inr vx1_1 =>
      some vx1_1

/-! ### slices.ContainsFunc[[]beaconfleet/api.Letter,beaconfleet/api.Letter] -/
noncomputable def z607 (qs : List api_Letter) (qf : api_Letter) : Option (Bool) :=
  (z627 qs qf).bind fun vr =>
  some (decide (0 ≤ vr))

/-! ### beaconfleet/command.Order -/
noncomputable def z316 (ql : List api_Letter) (vx : Int) : Option ((Int) ⊕ (Unit ⊕ Int)) :=
  cond (decide (vx < (ql.length : Int)))
    ((at? ql vx).bind fun vy1 =>
    (z159 vy1).bind fun vr3_1 =>
    cond (!decide (vr3_1 = 0))
      (some (.inr (.inr vr3_1)))
      ((sub? ql 0 vx).bind fun vl1 =>
      (z607 vl1 vy1).bind fun vr1_1 =>
      cond (vr1_1)
        (some (.inr (.inr 6)))
        (some (.inl (IntKind.wrap .i64 (vx + 1))))))
    (some (.inr (.inl ())))

noncomputable def z313 (ql : List api_Letter) : Option ((List api_Letter) × Int) :=
  cond (decide (500 < (ql.length : Int)))
    (some ([], 2))
    ((loopO (z316 ql) 0).bind fun x => match x with
      | .inl _ =>
        (z586 ql).bind fun vr =>
        (z659 vr).bind fun vl2 =>
        gd (vl2.length == vr.length) <|
        some (vl2, 0)
      | .inr vx1_1 =>
        some ([], vx1_1))

/-! ### beaconfleet/fleetkeep2.errs -/
noncomputable def z432 (ql : List Int) (vx : Int) : Option ((Int) ⊕ (Unit ⊕ Int)) :=
  cond (decide (vx < (ql.length : Int)))
    ((at? ql vx).bind fun vy1 =>
    cond (!decide (vy1 = 0))
      (some (.inr (.inr vy1)))
      (some (.inl (IntKind.wrap .i64 (vx + 1)))))
    (some (.inr (.inl ())))

noncomputable def z429 (ql : List Int) : Option (Int) :=
  (loopO (z432 ql) 0).bind fun x => match x with
    | .inl _ =>
      some 0
    | .inr vx1_1 =>
      some vx1_1

/-! ### slices.Equal[[]byte,byte] -/
noncomputable def z622 (qs1 : List Int) (qs2 : List Int) (vx : Int) : Option ((Int) ⊕ (Unit ⊕ Unit)) :=
  cond (decide (vx < (qs1.length : Int)))
    ((at? qs1 vx).bind fun vy2 =>
    (at? qs2 vx).bind fun vy3 =>
    cond (!decide (vy2 = vy3))
      (some (.inr (.inr ())))
      (some (.inl (IntKind.wrap .i64 (vx + 1)))))
    (some (.inr (.inl ())))

noncomputable def z619 (qs1 : List Int) (qs2 : List Int) : Option (Bool) :=
  cond (!decide ((qs1.length : Int) = (qs2.length : Int)))
    (some false)
    ((loopO (z622 qs1 qs2) 0).bind fun x => match x with
      | .inl _ =>
        some true
      | .inr _ =>
        some false)

/-! ### beaconfleet/fleetkeep2.ready -/
noncomputable def z440 (vr5 : List api_Change) (vr6 : Int) (vr : List Int) (vr2 : Int) (vr2_1 : api_Version) (vr4 : Int) (vr1 : List UInt8) (vr3 : Int) (vr2_2 : List api_Letter) (vr4_1 : Int) : Option (Bool) :=
  (z429 ([vr6, vr2, vr4, vr3, vr4_1] : List Int)).bind fun vr7 =>
  cond (decide (vr7 = 0))
    (cond (decide ((vr5.length : Int) = 1))
      ((z619 vr ([1, 2, 2] : List Int)).bind fun vr8 =>
      cond (vr8)
        (cond (decide (vr2_1.Patch = 3))
          (cond (decide (vr1 = ([51] : List UInt8)))
            (some (decide ((vr2_2.length : Int) = 1)))
            (some false))
          (some false))
        (some false))
      (some false))
    (some false)

noncomputable def z437 : Option (Bool) :=
  (z1076 ([api_Prop.mk ([97] : List UInt8) (api_Value.mk 1 false 0 ([] : List UInt8))] : List api_Prop)).bind fun (vr5, vr6) =>
  (z527 ([api_Sample.mk ([100] : List UInt8) ([109] : List UInt8) 1 1] : List api_Sample)).bind fun (vr, vr2) =>
  (z124 ([49, 46, 50, 46, 51] : List UInt8)).bind fun (vr2_1, vr4) =>
  (z472 (api_Spot.mk 0 0) 1).bind fun (vr1, vr3) =>
  (z313 ([api_Letter.mk ([97] : List UInt8) ([] : List UInt8) ([] : List UInt8) 0 0 5] : List api_Letter)).bind fun (vr2_2, vr4_1) =>
  (z440 vr5 vr6 vr vr2 vr2_1 vr4 vr1 vr3 vr2_2 vr4_1).bind fun vx1 =>
  some vx1

/-! ### (*beaconfleet/command.Office).Answer -/
noncomputable def z204 (ve : api_Note) : Option (Bool) :=
  cond (decide (ve.Tries = 0))
    (some true)
    ((z324 ve.State).bind fun _ =>
    some (decide (3 ≤ ve.State)))

noncomputable def z209 (qat : Int) (qdone : Bool) (ve : api_Note) : Option (api_Note) :=
  cond (qdone)
    (some (api_Note.mk (api_Letter.mk ve.Letter.Id ve.Letter.Slot ve.Letter.Body ve.Letter.Prio ve.Letter.At ve.Letter.Until) 3 ve.Tries qat))
    (some (api_Note.mk (api_Letter.mk ve.Letter.Id ve.Letter.Slot ve.Letter.Body ve.Letter.Prio ve.Letter.At ve.Letter.Until) 4 ve.Tries qat))

noncomputable def z201 (qo : Int) (qo1 : Int) (qo2 : Int) (qo3 : Int) (qm : List (List UInt8 × api_Note)) (qo4 : Int) (qid : List UInt8) (qat : Int) (qdone : Bool) : Option (Int ⊕ (List (List UInt8 × api_Note))) :=
  (z304 qo qo1 qo2 qo3 qm qo4 qat).bind fun vr =>
  cond (!decide (vr = 0))
    (some (.inl vr))
    ((z277 qo qo1 qo2 qo3 qm qo4 qat).bind fun vm4 =>
    (some ((aget vm4 qid).getD (api_Note.mk (api_Letter.mk ([] : List UInt8) ([] : List UInt8) ([] : List UInt8) 0 0 0) 0 0 0))).bind fun ve =>
    (some (aget vm4 qid).isSome).bind fun vis =>
    cond (!vis)
      (some (.inl 8))
      ((z204 ve).bind fun vx1 =>
      cond (vx1)
        (some (.inl 11))
        ((z209 qat qdone ve).bind fun vn1 =>
        (z301 qo qo1 qo2 qo3 qm qo4 (aput vm4 qid (api_Note.mk (api_Letter.mk vn1.Letter.Id vn1.Letter.Slot vn1.Letter.Body vn1.Letter.Prio vn1.Letter.At vn1.Letter.Until) vn1.State vn1.Tries vn1.Since)) qat).bind fun _ =>
        some (.inr (aput vm4 qid (api_Note.mk (api_Letter.mk vn1.Letter.Id vn1.Letter.Slot vn1.Letter.Body vn1.Letter.Prio vn1.Letter.At vn1.Letter.Until) vn1.State vn1.Tries vn1.Since))))))

/-! ### (*beaconfleet/command.Office).Waiting -/
noncomputable def z261 (qo : Int) (qo1 : Int) (qo2 : Int) (qo3 : Int) (qm : List (List UInt8 × api_Note)) (qo4 : Int) (qat : Int) : Option (Int ⊕ ((List (List UInt8 × api_Note)) × Int)) :=
  (z304 qo qo1 qo2 qo3 qm qo4 qat).bind fun vr =>
  cond (!decide (vr = 0))
    (some (.inl vr))
    ((z277 qo qo1 qo2 qo3 qm qo4 qat).bind fun vm4 =>
    (z301 qo qo1 qo2 qo3 qm qo4 vm4 qat).bind fun _ =>
    (z327 vm4).bind fun vr1 =>
    some (.inr (vm4, vr1)))

/-! ### slices.Index[[]string,string] -/
noncomputable def z654 (qs : List (List UInt8)) (qv : List UInt8) (vx : Int) : Option ((Int) ⊕ (Unit ⊕ Int)) :=
  cond (decide (vx < (qs.length : Int)))
    ((at? qs vx).bind fun vy1 =>
    cond (decide (qv = vy1))
      (some (.inr (.inr vx)))
      (some (.inl (IntKind.wrap .i64 (vx + 1)))))
    (some (.inr (.inl ())))

noncomputable def z651 (qs : List (List UInt8)) (qv : List UInt8) : Option (Int) :=
  (loopO (z654 qs qv) 0).bind fun x => match x with
    | .inl _ =>
      some (-1)
    | .inr vx1_1 =>
      some vx1_1

/-! ### slices.Contains[[]string,string] -/
noncomputable def z616 (qs : List (List UInt8)) (qv : List UInt8) : Option (Bool) :=
  (z651 qs qv).bind fun vr =>
  some (decide (0 ≤ vr))

/-! ### beaconfleet/fleetkeep2.LettersEnd$1 -/
noncomputable def z338 (qx : api_Letter) (qx1 : List (List UInt8)) (qx2 : Int) : Option (Bool) :=
  (z616 qx1 qx.Id).bind fun vr1 =>
  cond (vr1)
    (some true)
    (some (decide (qx.Until ≤ qx2)))

noncomputable def z335 (qx : api_Letter) (qx1 : List (List UInt8)) (qx2 : Int) : Option (Bool) :=
  (z338 qx qx1 qx2).bind fun vx1 =>
  some vx1

/-! ### slices.IndexFunc[[]beaconfleet/api.Letter,beaconfleet/api.Letter] -/
noncomputable def z638 (qs : List api_Letter) (qf : List (List UInt8)) (qf1 : Int) (vx : Int) : Option ((Int) ⊕ (Unit ⊕ Int)) :=
  cond (decide (vx < (qs.length : Int)))
    ((at? qs vx).bind fun vy1 =>
    (z335 vy1 qf qf1).bind fun vr1 =>
    cond (vr1)
      (some (.inr (.inr vx)))
      (some (.inl (IntKind.wrap .i64 (vx + 1)))))
    (some (.inr (.inl ())))

noncomputable def z635 (qs : List api_Letter) (qf : List (List UInt8)) (qf1 : Int) : Option (Int) :=
  (loopO (z638 qs qf qf1) 0).bind fun x => match x with
    | .inl _ =>
      some (-1)
    | .inr vx1_1 =>
      some vx1_1

/-! ### slices.ContainsFunc[[]beaconfleet/api.Letter,beaconfleet/api.Letter] -/
noncomputable def z610 (qs : List api_Letter) (qf : List (List UInt8)) (qf1 : Int) : Option (Bool) :=
  (z635 qs qf qf1).bind fun vr2 =>
  some (decide (0 ≤ vr2))

/-! ### beaconfleet/command.CheckNotes -/
noncomputable def z180 (vy2 : api_Note) : Option (Bool) :=
  (base_Out vy2.Tries 0 20).bind fun vr4 =>
  cond (vr4)
    (some true)
    ((z41 vy2.Since).bind fun vr1_2 =>
    some (!vr1_2))

noncomputable def z185 (ql : List api_Note) (vx : Int) (vy2 : api_Note) : Option (Bool) :=
  cond (decide (0 < vx))
    ((at? ql (IntKind.wrap .i64 (vx - 1))).bind fun vy3 =>
    some (Op.bytesLess vy2.Letter.Id vy3.Letter.Id || decide (vy2.Letter.Id = vy3.Letter.Id)))
    (some false)

noncomputable def z175 (ql : List api_Note) (vx : Int) : Option ((Int) ⊕ (Unit ⊕ Int)) :=
  cond (decide (vx < (ql.length : Int)))
    ((at? ql vx).bind fun vy2 =>
    (z159 (api_Letter.mk vy2.Letter.Id vy2.Letter.Slot vy2.Letter.Body vy2.Letter.Prio vy2.Letter.At vy2.Letter.Until)).bind fun vr3_1 =>
    cond (!decide (vr3_1 = 0))
      (some (.inr (.inr vr3_1)))
      ((base_Out vy2.State 1 7).bind fun vr2 =>
      cond (vr2)
        (some (.inr (.inr 4)))
        ((z180 vy2).bind fun vx3_1 =>
        cond (vx3_1)
          (some (.inr (.inr 1)))
          ((z185 ql vx vy2).bind fun vx4_1 =>
          cond (vx4_1)
            (some (.inr (.inr 7)))
            (some (.inl (IntKind.wrap .i64 (vx + 1))))))))
    (some (.inr (.inl ())))

noncomputable def z172 (ql : List api_Note) : Option (Int) :=
  cond (decide (1500 < (ql.length : Int)))
    (some 2)
    ((loopO (z175 ql) 0).bind fun x => match x with
      | .inl _ =>
        some 0
      | .inr vx5_1 =>
        some vx5_1)

/-! ### beaconfleet/fleetkeep2.LettersEnd -/
noncomputable def z344 (vr : Int) : Option (Unit) :=
  cond (!decide (vr = 0))
    (some ())
    (some ())

noncomputable def z389 : Option (Bool) :=
  cond (!decide ((0 : Int) = 0))
    (some true)
    (some false)

noncomputable def z404 (vr4 : api_Post) (vm : List (List UInt8 × api_Note)) (vx3 : Int) (vr5_1 : api_Letter) : Option (((List (List UInt8 × api_Note)) × Int × Bool)) :=
  (z238 vr4.Room vr4.Timeout vr4.Tries 1000 vm vx3 vr5_1).bind fun x => match x with
    | .inl vr4_3 =>
      some (vm, vx3, decide (vr4_3 = 0))
    | .inr vm2_2 =>
      some (vm2_2, vr5_1.At, decide ((0 : Int) = 0))

noncomputable def z409 (vr4 : api_Post) (vx2 : z453) (vm : List (List UInt8 × api_Note)) (vx3 : Int) (vx5 : Int) (vr9 : Int) : Option ((z453 × (List (List UInt8 × api_Note)) × Int × (List api_Letter) × Int)) :=
  (z460 (z453.mk vx2.L (IntKind.wrap .i64 ((IntKind.wrap .i64 (vx2.at_ + 1)) + 1))) 0 3).bind fun (vs2, vr10) =>
  (z214 vr4.Room vr4.Timeout vr4.Tries 1000 vm vx3 (IntKind.wrap .i64 (vx5 + vr9)) vr10).bind fun x => match x with
    | .inl vr3_4 =>
      some (vs2, vm, vx3, [], vr3_4)
    | .inr (vm2_3, vr4_4) =>
      some (vs2, vm2_3, IntKind.wrap .i64 (vx5 + vr9), vr4_4, 0)

noncomputable def z414 (vx4 : List (List UInt8)) (vx5 : Int) (vr9 : Int) (vx29_1 : List api_Letter) (vx30_1 : Int) : Option (Bool) :=
  cond (!decide (vx30_1 = 0))
    (some true)
    ((z610 vx29_1 vx4 (IntKind.wrap .i64 (vx5 + vr9))).bind fun vr11 =>
    some vr11)

noncomputable def z419 (vr4 : api_Post) (vm : List (List UInt8 × api_Note)) (vx3 : Int) (vx5 : Int) (vr9 : Int) (vr12 : List UInt8) : Option (((List (List UInt8 × api_Note)) × Int × Bool)) :=
  (z201 vr4.Room vr4.Timeout vr4.Tries 1000 vm vx3 vr12 (IntKind.wrap .i64 (vx5 + vr9)) true).bind fun x => match x with
    | .inl vr1_2 =>
      some (vm, vx3, decide (vr1_2 = 0))
    | .inr vm11 =>
      some (vm11, IntKind.wrap .i64 (vx5 + vr9), decide ((0 : Int) = 0))

noncomputable def z399 (vr4 : api_Post) (vx2 : z453) (vm : List (List UInt8 × api_Note)) (vx3 : Int) (vx4 : List (List UInt8)) (vx5 : Int) (vx6 : List api_Letter) (vr9 : Int) : Option ((z453 × (List (List UInt8 × api_Note)) × Int × (List (List UInt8)) × (List api_Letter)) ⊕ Unit) :=
  (z454 (z453.mk vx2.L (IntKind.wrap .i64 (vx2.at_ + 1))) 3).bind fun vr3_3 =>
  cond (decide (vr3_3 = 0))
    ((z463 (z453.mk vx2.L (IntKind.wrap .i64 ((IntKind.wrap .i64 (vx2.at_ + 1)) + 1))) (IntKind.wrap .i64 (vx5 + vr9))).bind fun vr5_1 =>
    (z404 vr4 vm vx3 vr5_1).bind fun (vm9_1, vx25_1, vx26_1) =>
    cond (vx26_1)
      (gd (Nat.ble (vx6.length + ([vr5_1] : List api_Letter).length) LIM) <|
      some (.inl (z453.mk vx2.L (IntKind.wrap .i64 ((IntKind.wrap .i64 ((IntKind.wrap .i64 ((IntKind.wrap .i64 ((IntKind.wrap .i64 ((IntKind.wrap .i64 ((IntKind.wrap .i64 (vx2.at_ + 1)) + 1)) + 1)) + 1)) + 1)) + 1)) + 1)), vm9_1, vx25_1, vx4, vx6 ++ ([vr5_1] : List api_Letter))))
      (some (.inl (z453.mk vx2.L (IntKind.wrap .i64 ((IntKind.wrap .i64 ((IntKind.wrap .i64 ((IntKind.wrap .i64 ((IntKind.wrap .i64 ((IntKind.wrap .i64 ((IntKind.wrap .i64 (vx2.at_ + 1)) + 1)) + 1)) + 1)) + 1)) + 1)) + 1)), vm9_1, vx25_1, vx4, vx6))))
    (cond (decide (vr3_3 = 1))
      ((z409 vr4 vx2 vm vx3 vx5 vr9).bind fun (vx27_1, vm10_1, vx28_1, vx29_1, vx30_1) =>
      (z414 vx4 vx5 vr9 vx29_1 vx30_1).bind fun vx31_1 =>
      cond (vx31_1)
        (some (.inr ()))
        (some (.inl (vx27_1, vm10_1, vx28_1, vx4, vx6))))
      ((z469 (z453.mk vx2.L (IntKind.wrap .i64 ((IntKind.wrap .i64 (vx2.at_ + 1)) + 1))) ([([108, 97] : List UInt8), ([108, 98] : List UInt8), ([108, 99] : List UInt8)] : List (List UInt8))).bind fun vr12 =>
      (z419 vr4 vm vx3 vx5 vr9 vr12).bind fun (vm12_1, vx32_1, vx33_1) =>
      cond (vx33_1)
        (gd (Nat.ble (vx4.length + ([vr12] : List (List UInt8)).length) LIM) <|
        some (.inl (z453.mk vx2.L (IntKind.wrap .i64 ((IntKind.wrap .i64 ((IntKind.wrap .i64 (vx2.at_ + 1)) + 1)) + 1)), vm12_1, vx32_1, vx4 ++ ([vr12] : List (List UInt8)), vx6)))
        (some (.inl (z453.mk vx2.L (IntKind.wrap .i64 ((IntKind.wrap .i64 ((IntKind.wrap .i64 (vx2.at_ + 1)) + 1)) + 1)), vm12_1, vx32_1, vx4, vx6)))))

noncomputable def z424 (vr4 : api_Post) (vx5 : Int) (vr9 : Int) (vm13_1 : List (List UInt8 × api_Note)) (vx35_1 : Int) : Option (((List (List UInt8 × api_Note)) × Int × Int × Int)) :=
  (z261 vr4.Room vr4.Timeout vr4.Tries 1000 vm13_1 vx35_1 (IntKind.wrap .i64 (vx5 + vr9))).bind fun x => match x with
    | .inl vr2_2 =>
      some (vm13_1, vx35_1, 0, vr2_2)
    | .inr (vm14, vr3_5) =>
      some (vm14, IntKind.wrap .i64 (vx5 + vr9), vr3_5, 0)

noncomputable def z345 (vr4 : api_Post) (vx39_1 : Int) (vx40_1 : Int) : Option (Bool) :=
  cond (!decide (vx40_1 = 0))
    (some true)
    (some (decide (vr4.Room < vx39_1)))

noncomputable def z394 (vr4 : api_Post) (vr1 : Int) : z453 × (List (List UInt8 × api_Note)) × Int × (List (List UInt8)) × Int × (List api_Letter) × Int → Option ((z453 × (List (List UInt8 × api_Note)) × Int × (List (List UInt8)) × Int × (List api_Letter) × Int) ⊕ (((List (List UInt8 × api_Note)) × Int × (List (List UInt8)) × Int × (List api_Letter)) ⊕ Unit))
  | (vx2, vm, vx3, vx4, vx5, vx6, vx7) =>
  cond (decide (vx7 < vr1))
    ((z457 vx2 ([0, 1, 2, 5] : List Int)).bind fun vr9 =>
    (z399 vr4 vx2 vm vx3 vx4 vx5 vx6 vr9).bind fun x => match x with
      | .inl (vx34_1, vm13_1, vx35_1, vx36_1, vx37_1) =>
        (z424 vr4 vx5 vr9 vm13_1 vx35_1).bind fun (vm15_1, vx38_1, vx39_1, vx40_1) =>
        (z345 vr4 vx39_1 vx40_1).bind fun vx41_1 =>
        cond (vx41_1)
          (some (.inr (.inr ())))
          (some (.inl (vx34_1, vm15_1, vx38_1, vx36_1, IntKind.wrap .i64 (vx5 + vr9), vx37_1, IntKind.wrap .i64 (vx7 + 1))))
      | .inr _ =>
        some (.inr (.inr ())))
    (some (.inr (.inl (vm, vx3, vx4, vx5, vx6))))

noncomputable def z350 (vr4 : api_Post) (vm16_1 : List (List UInt8 × api_Note)) (vx42_1 : Int) (vx44_1 : Int) : Option (((List (List UInt8 × api_Note)) × Int × Int × (List api_Note))) :=
  (z227 vr4.Room vr4.Timeout vr4.Tries 1000 vm16_1 vx42_1 (IntKind.wrap .i64 (vx44_1 + 1000))).bind fun x => match x with
    | .inl vr1_3 =>
      some (vm16_1, vx42_1, vr1_3, [])
    | .inr (vm17, vr2_3) =>
      some (vm17, IntKind.wrap .i64 (vx44_1 + 1000), 0, vr2_3)

noncomputable def z355 (vx45_1 : List api_Letter) (vx47_1 : Int) (vx48_1 : List api_Note) : Option (Bool) :=
  cond (!decide (vx47_1 = 0))
    (some true)
    (some (!decide ((vx48_1.length : Int) = (vx45_1.length : Int))))

noncomputable def z365 (vy1 : api_Note) : Option (Bool) :=
  cond (decide (3 ≤ vy1.State))
    (some (decide (vy1.State ≤ 7)))
    (some false)

noncomputable def z370 (vr4 : api_Post) (vx43_1 : List (List UInt8)) (vy1 : api_Note) (vx53_1 : Bool) : Option (Bool) :=
  cond (!vx53_1)
    (some true)
    (cond (decide (vy1.Letter.Until < vy1.Since))
      (some true)
      (cond (decide (vy1.Since < vy1.Letter.At))
        (some true)
        (cond (decide (vr4.Tries < vy1.Tries))
          (some true)
          ((z616 vx43_1 vy1.Letter.Id).bind fun vr1_5 =>
          some ((decide (vy1.State = 3)) != vr1_5)))))

noncomputable def z360 (vr4 : api_Post) (vx43_1 : List (List UInt8)) (vx48_1 : List api_Note) (vx50 : Int) : Option ((Int) ⊕ (Unit ⊕ Unit)) :=
  cond (decide (vx50 < (vx48_1.length : Int)))
    ((at? vx48_1 vx50).bind fun vy1 =>
    (z365 vy1).bind fun vx53_1 =>
    (z370 vr4 vx43_1 vy1 vx53_1).bind fun vx54_1 =>
    cond (vx54_1)
      (some (.inr (.inr ())))
      (some (.inl (IntKind.wrap .i64 (vx50 + 1)))))
    (some (.inr (.inl ())))

noncomputable def z375 (vr4 : api_Post) (vx44_1 : Int) (vm18_1 : List (List UInt8 × api_Note)) (vx46_1 : Int) : Option ((Int × Int)) :=
  (z264 vr4.Room vr4.Timeout vr4.Tries 1000 vm18_1 vx46_1 (IntKind.wrap .i64 (vx44_1 + 1000))).bind fun x => match x with
    | .inl vr3_6 =>
      some (vr3_6, 0)
    | .inr (vm19, vr4_5) =>
      some (0, vr4_5)

noncomputable def z380 (vx48_1 : List api_Note) (vx55_1 : Int) (vx56_1 : Int) : Option (Bool) :=
  cond (decide (vx55_1 = 0))
    (cond (decide (vx56_1 = (-1)))
      ((z172 vx48_1).bind fun vr5_2 =>
      cond (decide (vr5_2 = 0))
        ((z437).bind fun vr9_1 =>
        some vr9_1)
        (some false))
      (some false))
    (some false)

noncomputable def fleetkeep2_LettersEnd (qx : List Int) : Option (Bool) :=
  (z466 (z453.mk qx 0)).bind fun vr4 =>
  (z198 (api_Post.mk vr4.Room vr4.Timeout vr4.Tries 1000)).bind fun x => match x with
    | .inl vr =>
      (z344 vr).bind fun _ =>
      some false
    | .inr _ =>
      (z389).bind fun vx1 =>
      cond (vx1)
        (some false)
        ((z460 (z453.mk qx (IntKind.wrap .i64 ((IntKind.wrap .i64 ((IntKind.wrap .i64 ((IntKind.wrap .i64 (0 + 1)) + 1)) + 1)) + 1))) 1 16).bind fun (vs, vr1) =>
        (loopO (z394 vr4 vr1) (vs, ([] : List (List UInt8 × api_Note)), 0, [], 0, [], 0)).bind fun x => match x with
          | .inl (vm16_1, vx42_1, vx43_1, vx44_1, vx45_1) =>
            (z350 vr4 vm16_1 vx42_1 vx44_1).bind fun (vm18_1, vx46_1, vx47_1, vx48_1) =>
            (z355 vx45_1 vx47_1 vx48_1).bind fun vx49_1 =>
            cond (vx49_1)
              (some false)
              ((loopO (z360 vr4 vx43_1 vx48_1) 0).bind fun x => match x with
                | .inl _ =>
                  (z375 vr4 vx44_1 vm18_1 vx46_1).bind fun (vx55_1, vx56_1) =>
                  (z380 vx48_1 vx55_1 vx56_1).bind fun vx57_1 =>
                  some vx57_1
                | .inr _ =>
                  some false)
          | .inr _ =>
            some false)

end Go.Eng
