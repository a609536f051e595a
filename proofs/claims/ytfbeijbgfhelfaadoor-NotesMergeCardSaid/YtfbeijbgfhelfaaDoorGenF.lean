/-
The Go functions that the law NotesMerge reaches, as plain functions.
-/
import Derived.Test.YtfbeijbgfhelfaaDoorEngV

import Derived.Lib.ValidU

namespace Go.Eng

open Go

set_option linter.unusedVariables false

structure fleetmake_Stream where
  L : List Int
  at_ : Int

def fleetmake_Stream.enc (x : fleetmake_Stream) : List D := [.lst (List.map (encI .i64) x.L), .int .i64 x.at_]

structure api_Letter where
  Id : List UInt8
  Slot : List UInt8
  Body : List UInt8
  Prio : Int
  At : Int
  Until : Int

def api_Letter.enc (x : api_Letter) : List D := [.str x.Id, .str x.Slot, .str x.Body, .int .i64 x.Prio, .int .i64 x.At, .int .i64 x.Until]

structure api_Note where
  Letter : api_Letter
  State : Int
  Tries : Int
  Since : Int

def api_Note.enc (x : api_Note) : List D := [.str x.Letter.Id, .str x.Letter.Slot, .str x.Letter.Body, .int .i64 x.Letter.Prio, .int .i64 x.Letter.At, .int .i64 x.Letter.Until, .int .i64 x.State, .int .i64 x.Tries, .int .i64 x.Since]

structure api_Post where
  Room : Int
  Timeout : Int
  Tries : Int
  Kept : Int

def api_Post.enc (x : api_Post) : List D := [.int .i64 x.Room, .int .i64 x.Timeout, .int .i64 x.Tries, .int .i64 x.Kept]

/-! ### beaconfleet/fleetmake.Below -/
noncomputable def fleetmake_Below_x1 (qx : Int) (qn : Int) : Option (Int) :=
  cond (decide ((qx.tmod qn) < 0))
    (some (IntKind.wrap .i64 ((qx.tmod qn) + qn)))
    (some (qx.tmod qn))

noncomputable def fleetmake_Below (qx : Int) (qn : Int) : Option (Int) :=
  cond (decide (qn < 1))
    (some 0)
    (gd (!(qn == 0)) <|
    (fleetmake_Below_x1 qx qn).bind fun vx1 =>
    some vx1)

/-! ### (*beaconfleet/fleetmake.Stream).Next -/
noncomputable def fleetmake_Stream_Next (qs : fleetmake_Stream) (qn : Int) : Option (Int) :=
  cond (decide ((qs.L.length : Int) = 0))
    ((fleetmake_Below (IntKind.wrap .i64 ((IntKind.wrap .i64 (qs.at_ + 1)) * 7919)) qn).bind fun vr =>
    some vr)
    (gd (!((qs.L.length : Int) == 0)) <|
    (at? qs.L ((IntKind.wrap .i64 ((IntKind.wrap .i64 (qs.at_ + 1)) - 1)).tmod (qs.L.length : Int))).bind fun vy =>
    (fleetmake_Below vy 1073741824).bind fun vr1 =>
    (fleetmake_Below (IntKind.wrap .i64 (vr1 + (IntKind.wrap .i64 ((IntKind.wrap .i64 ((IntKind.wrap .i64 ((IntKind.wrap .i64 (qs.at_ + 1)) - 1)).tdiv (qs.L.length : Int))) * (IntKind.wrap .i64 ((7919 : Int) + ((IntKind.wrap .i64 ((IntKind.wrap .i64 (qs.at_ + 1)) - 1)).tmod (qs.L.length : Int)))))))) qn).bind fun vr2 =>
    some vr2)

/-! ### (*beaconfleet/fleetmake.Stream).Flip -/
noncomputable def fleetmake_Stream_Flip (qs : fleetmake_Stream) (qn : Int) : Option (Bool) :=
  (fleetmake_Stream_Next qs qn).bind fun vr3 =>
  some (decide (vr3 = 0))

/-! ### (*beaconfleet/fleetmake.Stream).Some -/
noncomputable def fleetmake_Stream_Some_o1 (qs : fleetmake_Stream) (ql : List (List UInt8)) : Option ((List UInt8)) :=
  (fleetmake_Stream_Next qs (ql.length : Int)).bind fun vr3 =>
  (at? ql vr3).bind fun vy =>
  some vy

/-! ### (*beaconfleet/fleetmake.Stream).Pick -/
noncomputable def fleetmake_Stream_Pick_o1 (qs : fleetmake_Stream) (ql : List Int) : Option (Int) :=
  (fleetmake_Stream_Next qs (ql.length : Int)).bind fun vr3 =>
  (at? ql vr3).bind fun vy =>
  some vy

/-! ### (*beaconfleet/fleetmake.Stream).Range -/
noncomputable def fleetmake_Stream_Range (qs : fleetmake_Stream) (qlow : Int) (qhigh : Int) : Option (fleetmake_Stream × Int) :=
  cond (decide (qhigh < qlow))
    (some (qs, qlow))
    ((fleetmake_Stream_Next qs (IntKind.wrap .i64 ((IntKind.wrap .i64 (qhigh - qlow)) + 1))).bind fun vr3 =>
    some (fleetmake_Stream.mk qs.L (IntKind.wrap .i64 (qs.at_ + 1)), IntKind.wrap .i64 (qlow + vr3)))

/-! ### (*beaconfleet/fleetmake.Stream).Odd -/
noncomputable def fleetmake_Stream_Odd (qs : fleetmake_Stream) (qlow : Int) (qhigh : Int) : Option (fleetmake_Stream × Int) :=
  (fleetmake_Stream_Flip qs 12).bind fun vr =>
  cond (vr)
    ((fleetmake_Stream_Pick_o1 (fleetmake_Stream.mk qs.L (IntKind.wrap .i64 (qs.at_ + 1))) ([IntKind.wrap .i64 (qlow - 1), IntKind.wrap .i64 (qhigh + 1), qlow, qhigh, (-1099511627776), 1099511627776] : List Int)).bind fun vr1 =>
    some (fleetmake_Stream.mk qs.L (IntKind.wrap .i64 ((IntKind.wrap .i64 (qs.at_ + 1)) + 1)), vr1))
    ((fleetmake_Stream_Range (fleetmake_Stream.mk qs.L (IntKind.wrap .i64 (qs.at_ + 1))) qlow qhigh).bind fun (vs, vr2) =>
    some (vs, vr2))

/-! ### (*beaconfleet/fleetmake.Stream).Notes -/
noncomputable def fleetmake_Stream_Notes_x3 (vy1 : List UInt8) (vr10 : List UInt8) (vr11 : List UInt8) (vr12 : Int) (vs4 : fleetmake_Stream) (vr13 : Int) (vr14 : Int) (vr15 : Int) : Option ((fleetmake_Stream × api_Note)) :=
  (fleetmake_Stream_Flip (fleetmake_Stream.mk vs4.L (IntKind.wrap .i64 ((IntKind.wrap .i64 (vs4.at_ + 1)) + 1))) 40).bind fun vr16 =>
  cond (vr16)
    ((fleetmake_Stream_Some_o1 (fleetmake_Stream.mk vs4.L (IntKind.wrap .i64 ((IntKind.wrap .i64 ((IntKind.wrap .i64 (vs4.at_ + 1)) + 1)) + 1))) ([vy1, ([] : List UInt8), ([108, 97] : List UInt8)] : List (List UInt8))).bind fun vr17 =>
    (fleetmake_Stream_Odd (fleetmake_Stream.mk vs4.L (IntKind.wrap .i64 ((IntKind.wrap .i64 ((IntKind.wrap .i64 ((IntKind.wrap .i64 (vs4.at_ + 1)) + 1)) + 1)) + 1))) 1 7).bind fun (vs1_4, vr3_4) =>
    (fleetmake_Stream_Odd vs1_4 0 20).bind fun (vs1_5, vr3_5) =>
    (fleetmake_Stream_Odd vs1_5 0 50).bind fun (vs1_6, vr3_6) =>
    some (vs1_6, api_Note.mk (api_Letter.mk vr17 vr10 vr11 vr12 0 100) vr3_4 vr3_5 vr3_6))
    (some (fleetmake_Stream.mk vs4.L (IntKind.wrap .i64 ((IntKind.wrap .i64 ((IntKind.wrap .i64 (vs4.at_ + 1)) + 1)) + 1)), api_Note.mk (api_Letter.mk vy1 vr10 vr11 vr12 0 100) vr13 vr14 vr15))

noncomputable def fleetmake_Stream_Notes_x2 (vs : fleetmake_Stream) (vout : List api_Note) (vx : Int) : Option ((fleetmake_Stream × (List api_Note))) :=
  (at? ([([108, 97] : List UInt8), ([108, 98] : List UInt8), ([108, 99] : List UInt8), ([108, 100] : List UInt8)] : List (List UInt8)) vx).bind fun vy1 =>
  (fleetmake_Stream_Flip vs 3).bind fun vr9 =>
  cond (vr9)
    (some (fleetmake_Stream.mk vs.L (IntKind.wrap .i64 (vs.at_ + 1)), vout))
    ((fleetmake_Stream_Some_o1 (fleetmake_Stream.mk vs.L (IntKind.wrap .i64 (vs.at_ + 1))) ([([] : List UInt8), ([115, 97] : List UInt8)] : List (List UInt8))).bind fun vr10 =>
    (fleetmake_Stream_Some_o1 (fleetmake_Stream.mk vs.L (IntKind.wrap .i64 ((IntKind.wrap .i64 (vs.at_ + 1)) + 1))) ([([100, 111] : List UInt8), ([100, 111] : List UInt8), ([120, 32, 34, 121, 34] : List UInt8)] : List (List UInt8))).bind fun vr11 =>
    (fleetmake_Stream_Pick_o1 (fleetmake_Stream.mk vs.L (IntKind.wrap .i64 ((IntKind.wrap .i64 ((IntKind.wrap .i64 (vs.at_ + 1)) + 1)) + 1))) ([0, 0, 0, 5] : List Int)).bind fun vr12 =>
    (fleetmake_Stream_Range (fleetmake_Stream.mk vs.L (IntKind.wrap .i64 ((IntKind.wrap .i64 ((IntKind.wrap .i64 ((IntKind.wrap .i64 (vs.at_ + 1)) + 1)) + 1)) + 1))) 1 7).bind fun (vs4, vr13) =>
    (fleetmake_Stream_Pick_o1 vs4 ([0, 1, 1, 2] : List Int)).bind fun vr14 =>
    (fleetmake_Stream_Pick_o1 (fleetmake_Stream.mk vs4.L (IntKind.wrap .i64 (vs4.at_ + 1))) ([0, 5, 5, 9] : List Int)).bind fun vr15 =>
    (fleetmake_Stream_Notes_x3 vy1 vr10 vr11 vr12 vs4 vr13 vr14 vr15).bind fun (vs5_1, vn2_1) =>
    gd (Nat.ble (vout.length + ([api_Note.mk (api_Letter.mk vn2_1.Letter.Id vn2_1.Letter.Slot vn2_1.Letter.Body vn2_1.Letter.Prio vn2_1.Letter.At vn2_1.Letter.Until) vn2_1.State vn2_1.Tries vn2_1.Since] : List api_Note).length) LIM) <|
    some (vs5_1, vout ++ ([api_Note.mk (api_Letter.mk vn2_1.Letter.Id vn2_1.Letter.Slot vn2_1.Letter.Body vn2_1.Letter.Prio vn2_1.Letter.At vn2_1.Letter.Until) vn2_1.State vn2_1.Tries vn2_1.Since] : List api_Note)))

noncomputable def fleetmake_Stream_Notes_x1 : fleetmake_Stream × (List api_Note) × Int → Option ((fleetmake_Stream × (List api_Note) × Int) ⊕ ((fleetmake_Stream × (List api_Note))))
  | (vs, vout, vx) =>
  cond (decide (vx < (([([108, 97] : List UInt8), ([108, 98] : List UInt8), ([108, 99] : List UInt8), ([108, 100] : List UInt8)] : List (List UInt8)).length : Int)))
    ((fleetmake_Stream_Notes_x2 vs vout vx).bind fun (vs6_1, vout2_1) =>
    some (.inl (vs6_1, vout2_1, IntKind.wrap .i64 (vx + 1))))
    (some (.inr (vs, vout)))

noncomputable def fleetmake_Stream_Notes (qs : fleetmake_Stream) : Option (fleetmake_Stream × (List api_Note)) :=
  (loopO fleetmake_Stream_Notes_x1 (qs, [], 0)).bind fun (vs7_1, vout3_1) =>
  some (vs7_1, vout3_1)

/-! ### slices.Clone[[]beaconfleet/api.Note,beaconfleet/api.Note] -/
noncomputable def slices_Clone_api_Note_api_Note (qs : List api_Note) : Option (List api_Note) :=
  gd (Nat.ble (([] : List api_Note).length + qs.length) LIM) (some qs)

/-! ### beaconfleet/base.Key -/
noncomputable def base_Key_x1 (qs : List UInt8) : Option (Bool) :=
  cond (decide (qs = ([] : List UInt8)))
    (some true)
    (cond (decide (40 < (qs.length : Int)))
      (some true)
      ((at? qs 0).bind fun vc =>
      cond (decide ((vc.toNat : Int) < 97))
        (some true)
        (some (decide (122 < (vc.toNat : Int))))))

noncomputable def base_Key_x3 (vc2 : UInt8) : Option (Bool) :=
  cond (decide (97 ≤ (vc2.toNat : Int)))
    (cond (decide ((vc2.toNat : Int) ≤ 122))
      (some false)
      (cond (decide (48 ≤ (vc2.toNat : Int)))
        (cond (decide ((vc2.toNat : Int) ≤ 57))
          (some false)
          (cond (decide ((vc2.toNat : Int) = 45))
            (some false)
            (some (!(decide ((vc2.toNat : Int) = 95))))))
        (cond (decide ((vc2.toNat : Int) = 45))
          (some false)
          (some (!(decide ((vc2.toNat : Int) = 95)))))))
    (cond (decide (48 ≤ (vc2.toNat : Int)))
      (cond (decide ((vc2.toNat : Int) ≤ 57))
        (some false)
        (cond (decide ((vc2.toNat : Int) = 45))
          (some false)
          (some (!(decide ((vc2.toNat : Int) = 95))))))
      (cond (decide ((vc2.toNat : Int) = 45))
        (some false)
        (some (!(decide ((vc2.toNat : Int) = 95))))))

noncomputable def base_Key_x2 (qs : List UInt8) (vx2 : Int) : Option ((Int) ⊕ (Unit ⊕ Unit)) :=
  cond (decide (vx2 < (qs.length : Int)))
    ((at? qs vx2).bind fun vc2 =>
    (base_Key_x3 vc2).bind fun vx4_1 =>
    cond (vx4_1)
      (some (.inr (.inr ())))
      (some (.inl (IntKind.wrap .i64 (vx2 + 1)))))
    (some (.inr (.inl ())))

noncomputable def base_Key (qs : List UInt8) : Option (Bool) :=
  (base_Key_x1 qs).bind fun vx1 =>
  cond (vx1)
    (some false)
    ((loopO (base_Key_x2 qs) 0).bind fun x => match x with
      | .inl _ =>
        some true
      | .inr _ =>
        some false)

/-! ### unicode/utf8.ValidString -/
noncomputable def utf8_ValidString (qx : List UInt8) : Option (Bool) :=
  gd (decide (qx.length ≤ 9223372036854775807)) (some (Lib.validD qx))

/-! ### beaconfleet/base.Unmarked -/
noncomputable def base_Unmarked_x2 (qs : List UInt8) (vx : Int) : Option (Bool) :=
  (at? qs vx).bind fun vc1 =>
  cond (decide ((vc1.toNat : Int) < 32))
    (some true)
    (some (decide ((vc1.toNat : Int) = 127)))

noncomputable def base_Unmarked_x1 (qs : List UInt8) (vx : Int) : Option ((Int) ⊕ (Unit ⊕ Unit)) :=
  cond (decide (vx < (qs.length : Int)))
    ((base_Unmarked_x2 qs vx).bind fun vx2_1 =>
    cond (vx2_1)
      (some (.inr (.inr ())))
      (some (.inl (IntKind.wrap .i64 (vx + 1)))))
    (some (.inr (.inl ())))

noncomputable def base_Unmarked (qs : List UInt8) : Option (Bool) :=
  (loopO (base_Unmarked_x1 qs) 0).bind fun x => match x with
    | .inl _ =>
      (utf8_ValidString qs).bind fun vr =>
      some vr
    | .inr _ =>
      some false

/-! ### beaconfleet/base.Out -/
noncomputable def base_Out_x1 (qn : Int) (qlow : Int) (qhigh : Int) : Option (Bool) :=
  cond (decide (qn < qlow))
    (some true)
    (some (decide (qhigh < qn)))

noncomputable def base_Out (qn : Int) (qlow : Int) (qhigh : Int) : Option (Bool) :=
  (base_Out_x1 qn qlow qhigh).bind fun vx1 =>
  some vx1

/-! ### beaconfleet/base.Moment -/
noncomputable def base_Moment (qn : Int) : Option (Bool) :=
  (base_Out qn 0 345686399999).bind fun vr =>
  some (!vr)

/-! ### beaconfleet/command.CheckLetter -/
noncomputable def command_CheckLetter_x1 (ql : api_Letter) : Option (Bool) :=
  (base_Key ql.Id).bind fun vr =>
  cond (!vr)
    (some true)
    (cond (!decide (ql.Slot = ([] : List UInt8)))
      ((base_Key ql.Slot).bind fun vr1 =>
      some (!vr1))
      (some false))

noncomputable def command_CheckLetter_x2 (ql : api_Letter) : Option (Bool) :=
  (base_Out ql.Prio 0 9).bind fun vr2 =>
  cond (vr2)
    (some true)
    ((base_Moment ql.At).bind fun vr1_2 =>
    cond (!vr1_2)
      (some true)
      (cond (decide (ql.Until ≤ ql.At))
        (some true)
        (some (decide (345686400000 < ql.Until)))))

noncomputable def command_CheckLetter (ql : api_Letter) : Option (Int) :=
  (command_CheckLetter_x1 ql).bind fun vx1 =>
  cond (vx1)
    (some 5)
    (cond (decide (1000 < (ql.Body.length : Int)))
      (some 2)
      ((base_Unmarked ql.Body).bind fun vr1_1 =>
      cond (!vr1_1)
        (some 3)
        ((command_CheckLetter_x2 ql).bind fun vx2_1 =>
        cond (vx2_1)
          (some 1)
          (some 0))))

/-! ### beaconfleet/command.CheckNotes -/
noncomputable def command_CheckNotes_x2 (vy2 : api_Note) : Option (Bool) :=
  (base_Out vy2.Tries 0 20).bind fun vr4 =>
  cond (vr4)
    (some true)
    ((base_Moment vy2.Since).bind fun vr1_2 =>
    some (!vr1_2))

noncomputable def command_CheckNotes_x3 (ql : List api_Note) (vx : Int) (vy2 : api_Note) : Option (Bool) :=
  cond (decide (0 < vx))
    ((at? ql (IntKind.wrap .i64 (vx - 1))).bind fun vy3 =>
    some (Op.bytesLess vy2.Letter.Id vy3.Letter.Id || decide (vy2.Letter.Id = vy3.Letter.Id)))
    (some false)

noncomputable def command_CheckNotes_x1 (ql : List api_Note) (vx : Int) : Option ((Int) ⊕ (Unit ⊕ Int)) :=
  cond (decide (vx < (ql.length : Int)))
    ((at? ql vx).bind fun vy2 =>
    (command_CheckLetter (api_Letter.mk vy2.Letter.Id vy2.Letter.Slot vy2.Letter.Body vy2.Letter.Prio vy2.Letter.At vy2.Letter.Until)).bind fun vr3_1 =>
    cond (!decide (vr3_1 = 0))
      (some (.inr (.inr vr3_1)))
      ((base_Out vy2.State 1 7).bind fun vr2 =>
      cond (vr2)
        (some (.inr (.inr 4)))
        ((command_CheckNotes_x2 vy2).bind fun vx3_1 =>
        cond (vx3_1)
          (some (.inr (.inr 1)))
          ((command_CheckNotes_x3 ql vx vy2).bind fun vx4_1 =>
          cond (vx4_1)
            (some (.inr (.inr 7)))
            (some (.inl (IntKind.wrap .i64 (vx + 1))))))))
    (some (.inr (.inl ())))

noncomputable def command_CheckNotes (ql : List api_Note) : Option (Int) :=
  cond (decide (1500 < (ql.length : Int)))
    (some 2)
    ((loopO (command_CheckNotes_x1 ql) 0).bind fun x => match x with
      | .inl _ =>
        some 0
      | .inr vx5_1 =>
        some vx5_1)

/-! ### beaconfleet/base.First -/
noncomputable def base_First_x1 (ql : List Int) (vx : Int) : Option ((Int) ⊕ (Unit ⊕ Int)) :=
  cond (decide (vx < (ql.length : Int)))
    ((at? ql vx).bind fun vy1 =>
    cond (!decide (vy1 = 0))
      (some (.inr (.inr vy1)))
      (some (.inl (IntKind.wrap .i64 (vx + 1)))))
    (some (.inr (.inl ())))

noncomputable def base_First (ql : List Int) : Option (Int) :=
  (loopO (base_First_x1 ql) 0).bind fun x => match x with
    | .inl _ =>
      some 0
    | .inr vx1_1 =>
      some vx1_1

/-! ### internal/bytealg.CompareString -/
noncomputable def bytealg_CompareString (qa : List UInt8) (qb : List UInt8) : Option (Unit) :=
  some ()

/-! ### strings.Compare -/
noncomputable def strings_Compare (qa : List UInt8) (qb : List UInt8) : Option (Unit) :=
  (bytealg_CompareString qa qb).bind fun _ =>
  some ()

/-! ### slices.Index[[]int,int] -/
noncomputable def slices_Index_int_int_x1 (qs : List Int) (qv : Int) (vx : Int) : Option ((Int) ⊕ (Unit ⊕ Int)) :=
  cond (decide (vx < (qs.length : Int)))
    ((at? qs vx).bind fun vy1 =>
    cond (decide (qv = vy1))
      (some (.inr (.inr vx)))
      (some (.inl (IntKind.wrap .i64 (vx + 1)))))
    (some (.inr (.inl ())))

noncomputable def slices_Index_int_int (qs : List Int) (qv : Int) : Option (Int) :=
  (loopO (slices_Index_int_int_x1 qs qv) 0).bind fun x => match x with
    | .inl _ =>
      some (-1)
    | .inr vx1_1 =>
      some vx1_1

/-! ### beaconfleet/command.rank -/
noncomputable def command_rank (qstate : Int) : Option (Int) :=
  (slices_Index_int_int ([6, 5, 7, 4, 3] : List Int) qstate).bind fun vr =>
  some (IntKind.wrap .i64 ((1 : Int) + vr))

/-! ### cmp.isNaN[int] -/
noncomputable def cmp_isNaN_int (qx : Int) : Option (Unit) :=
  some ()

/-! ### cmp.Compare[int] -/
noncomputable def cmp_Compare_int (qx : Int) (qy : Int) : Option (Int) :=
  (cmp_isNaN_int qx).bind fun _ =>
  (cmp_isNaN_int qy).bind fun _ =>
  cond (!decide (qx = qx))
    (cond (!decide (qy = qy))
      (some 0)
      (some (-1)))
    (cond (!decide (qy = qy))
      (some 1)
      (cond (decide (qx < qy))
        (some (-1))
        (cond (decide (qy < qx))
          (some 1)
          (some 0))))

/-! ### cmp.Or[int] -/
noncomputable def cmp_Or_int_x1 (qvals : List Int) (vx : Int) : Option ((Int) ⊕ (Unit ⊕ Int)) :=
  cond (decide (vx < (qvals.length : Int)))
    ((at? qvals vx).bind fun vy1 =>
    cond (!decide (vy1 = 0))
      (some (.inr (.inr vy1)))
      (some (.inl (IntKind.wrap .i64 (vx + 1)))))
    (some (.inr (.inl ())))

noncomputable def cmp_Or_int (qvals : List Int) : Option (Int) :=
  (loopO (cmp_Or_int_x1 qvals) 0).bind fun x => match x with
    | .inl _ =>
      some 0
    | .inr vx1_1 =>
      some vx1_1

/-! ### beaconfleet/command.further -/
noncomputable def command_further (qa : api_Note) (qb : api_Note) : Option (Int) :=
  (command_rank qa.State).bind fun vr1 =>
  (command_rank qb.State).bind fun vr1_1 =>
  (cmp_Compare_int vr1 vr1_1).bind fun vr =>
  (cmp_Compare_int qa.Tries qb.Tries).bind fun vr2 =>
  (cmp_Compare_int qb.Since qa.Since).bind fun vr3 =>
  (cmp_Compare_int qb.State qa.State).bind fun vr4 =>
  (cmp_Or_int ([vr, vr2, vr3, vr4] : List Int)).bind fun vr5 =>
  some vr5

/-! ### slices.Grow[[]beaconfleet/api.Note,beaconfleet/api.Note] -/
noncomputable def slices_Grow_api_Note_api_Note_n0_x1 (qn : Int) : Option ((List api_Note)) :=
  cond (decide (0 < (IntKind.wrap .i64 (qn - (IntKind.wrap .i64 ((0 : Int) - 0))))))
    (gd (decide (0 ≤ (IntKind.wrap .i64 (qn - (IntKind.wrap .i64 ((0 : Int) - 0))))) && decide ((IntKind.wrap .i64 (qn - (IntKind.wrap .i64 ((0 : Int) - 0)))) ≤ 137438953472)) <|
    gd (decide (0 ≤ (0 : Int)) && decide ((0 : Int) ≤ ((List.replicate (IntKind.wrap .i64 (qn - (IntKind.wrap .i64 ((0 : Int) - 0)))).toNat (api_Note.mk (api_Letter.mk ([] : List UInt8) ([] : List UInt8) ([] : List UInt8) 0 0 0) 0 0 0)).length : Int))) <|
    some ((List.replicate (IntKind.wrap .i64 (qn - (IntKind.wrap .i64 ((0 : Int) - 0)))).toNat (api_Note.mk (api_Letter.mk ([] : List UInt8) ([] : List UInt8) ([] : List UInt8) 0 0 0) 0 0 0)).take (0 : Int).toNat))
    (some [])

noncomputable def slices_Grow_api_Note_api_Note_n0 (qn : Int) : Option ((List api_Note)) :=
  cond (decide (qn < 0))
    (none)
    ((slices_Grow_api_Note_api_Note_n0_x1 qn).bind fun vs1 =>
    some vs1)

/-! ### slices.Concat[[]beaconfleet/api.Note,beaconfleet/api.Note] -/
noncomputable def slices_Concat_api_Note_api_Note_o0_x1 (qslices : List (List api_Note)) : Int × Int → Option ((Int × Int) ⊕ (Int))
  | (vsize, vx) =>
  cond (decide (vx < (qslices.length : Int)))
    ((at? qslices vx).bind fun vy1 =>
    cond (decide ((IntKind.wrap .i64 (vsize + (vy1.length : Int))) < 0))
      (none)
      (some (.inl (IntKind.wrap .i64 (vsize + (vy1.length : Int)), IntKind.wrap .i64 (vx + 1)))))
    (some (.inr vsize))

noncomputable def slices_Concat_api_Note_api_Note_o0_x2 (qslices : List (List api_Note)) : (List api_Note) × Int → Option (((List api_Note) × Int) ⊕ ((List api_Note)))
  | (vnewslice, vx1) =>
  cond (decide (vx1 < (qslices.length : Int)))
    ((at? qslices vx1).bind fun vy3 =>
    gd (Nat.ble (vnewslice.length + vy3.length) LIM) <|
    some (.inl (vnewslice ++ vy3, IntKind.wrap .i64 (vx1 + 1))))
    (some (.inr vnewslice))

noncomputable def slices_Concat_api_Note_api_Note_o0 (qslices : List (List api_Note)) : Option ((List api_Note)) :=
  (loopO (slices_Concat_api_Note_api_Note_o0_x1 qslices) (0, 0)).bind fun vsize1_1 =>
  (slices_Grow_api_Note_api_Note_n0 vsize1_1).bind fun vr =>
  (loopO (slices_Concat_api_Note_api_Note_o0_x2 qslices) (vr, 0)).bind fun vnewslice1_1 =>
  some vnewslice1_1

/-! ### beaconfleet/command.Merge -/
noncomputable def command_Merge_x2 (vx : List api_Note) (vx1 : List api_Note) : Option (Bool) :=
  cond (decide (0 < (vx.length : Int)))
    (some (decide (0 < (vx1.length : Int))))
    (some false)

noncomputable def command_Merge_x3 (vx1 : List api_Note) (vy3 : api_Note) : Option (api_Note) :=
  (at? vx1 0).bind fun vy5 =>
  (command_further (api_Note.mk (api_Letter.mk vy5.Letter.Id vy5.Letter.Slot vy5.Letter.Body vy5.Letter.Prio vy5.Letter.At vy5.Letter.Until) vy5.State vy5.Tries vy5.Since) (api_Note.mk (api_Letter.mk vy3.Letter.Id vy3.Letter.Slot vy3.Letter.Body vy3.Letter.Prio vy3.Letter.At vy3.Letter.Until) vy3.State vy3.Tries vy3.Since)).bind fun vr6_1 =>
  cond (decide (0 < vr6_1))
    (some (api_Note.mk (api_Letter.mk vy5.Letter.Id vy5.Letter.Slot vy5.Letter.Body vy5.Letter.Prio vy5.Letter.At vy5.Letter.Until) vy5.State vy5.Tries vy5.Since))
    (some (api_Note.mk (api_Letter.mk vy3.Letter.Id vy3.Letter.Slot vy3.Letter.Body vy3.Letter.Prio vy3.Letter.At vy3.Letter.Until) vy3.State vy3.Tries vy3.Since))

noncomputable def command_Merge_x1 : (List api_Note) × (List api_Note) × (List api_Note) → Option (((List api_Note) × (List api_Note) × (List api_Note)) ⊕ (((List api_Note) × (List api_Note) × (List api_Note)) ⊕ Unit))
  | (vx, vx1, vx2) =>
  (command_Merge_x2 vx vx1).bind fun vx5_1 =>
  cond (vx5_1)
    ((at? vx 0).bind fun vy3 =>
    (at? vx1 0).bind fun vy4 =>
    (strings_Compare vy3.Letter.Id vy4.Letter.Id).bind fun _ =>
    cond (decide ((Lib.compareBytes vy3.Letter.Id vy4.Letter.Id) < 0))
      (gd (Nat.ble (vx2.length + ([api_Note.mk (api_Letter.mk vy3.Letter.Id vy3.Letter.Slot vy3.Letter.Body vy3.Letter.Prio vy3.Letter.At vy3.Letter.Until) vy3.State vy3.Tries vy3.Since] : List api_Note).length) LIM) <|
      (sub? vx 1 (vx.length : Int)).bind fun vl4 =>
      some (.inl (vl4, vx1, vx2 ++ ([api_Note.mk (api_Letter.mk vy3.Letter.Id vy3.Letter.Slot vy3.Letter.Body vy3.Letter.Prio vy3.Letter.At vy3.Letter.Until) vy3.State vy3.Tries vy3.Since] : List api_Note))))
      (cond (decide (0 < (Lib.compareBytes vy3.Letter.Id vy4.Letter.Id)))
        (gd (Nat.ble (vx2.length + ([api_Note.mk (api_Letter.mk vy4.Letter.Id vy4.Letter.Slot vy4.Letter.Body vy4.Letter.Prio vy4.Letter.At vy4.Letter.Until) vy4.State vy4.Tries vy4.Since] : List api_Note).length) LIM) <|
        (sub? vx1 1 (vx1.length : Int)).bind fun vl5 =>
        some (.inl (vx, vl5, vx2 ++ ([api_Note.mk (api_Letter.mk vy4.Letter.Id vy4.Letter.Slot vy4.Letter.Body vy4.Letter.Prio vy4.Letter.At vy4.Letter.Until) vy4.State vy4.Tries vy4.Since] : List api_Note))))
        (cond (!(decide (vy3.Letter.Id = vy4.Letter.Id) && (decide (vy3.Letter.Slot = vy4.Letter.Slot) && (decide (vy3.Letter.Body = vy4.Letter.Body) && (decide (vy3.Letter.Prio = vy4.Letter.Prio) && (decide (vy3.Letter.At = vy4.Letter.At) && (decide (vy3.Letter.Until = vy4.Letter.Until) && true)))))))
          (some (.inr (.inr ())))
          ((command_Merge_x3 vx1 vy3).bind fun vx6_1 =>
          gd (Nat.ble (vx2.length + ([api_Note.mk (api_Letter.mk vx6_1.Letter.Id vx6_1.Letter.Slot vx6_1.Letter.Body vx6_1.Letter.Prio vx6_1.Letter.At vx6_1.Letter.Until) vx6_1.State vx6_1.Tries vx6_1.Since] : List api_Note).length) LIM) <|
          (sub? vx 1 (vx.length : Int)).bind fun vl6 =>
          (sub? vx1 1 (vx1.length : Int)).bind fun vl7 =>
          some (.inl (vl6, vl7, vx2 ++ ([api_Note.mk (api_Letter.mk vx6_1.Letter.Id vx6_1.Letter.Slot vx6_1.Letter.Body vx6_1.Letter.Prio vx6_1.Letter.At vx6_1.Letter.Until) vx6_1.State vx6_1.Tries vx6_1.Since] : List api_Note)))))))
    (some (.inr (.inl (vx, vx1, vx2))))

noncomputable def command_Merge (qx : List api_Note) (qx1 : List api_Note) : Option ((List api_Note) × Int) :=
  (command_CheckNotes qx).bind fun vr5 =>
  (command_CheckNotes qx1).bind fun vr5_1 =>
  (base_First ([vr5, vr5_1] : List Int)).bind fun vr =>
  cond (!decide (vr = 0))
    (some ([], vr))
    ((loopO command_Merge_x1 (qx, qx1, [])).bind fun x => match x with
      | .inl (vx7_1, vx8_1, vx9_1) =>
        (slices_Concat_api_Note_api_Note_o0 ([vx9_1, vx7_1, vx8_1] : List (List api_Note))).bind fun vr1 =>
        cond (decide (1500 < (vr1.length : Int)))
          (some ([], 2))
          (some (vr1, 0))
      | .inr _ =>
        some ([], 13))

/-! ### beaconfleet/fleetref2.in -/
noncomputable def fleetref2_in_x1 (qn : Int) (qlow : Int) (qhigh : Int) : Option (Bool) :=
  cond (decide (qlow ≤ qn))
    (some (decide (qn ≤ qhigh)))
    (some false)

noncomputable def fleetref2_in (qn : Int) (qlow : Int) (qhigh : Int) : Option (Bool) :=
  (fleetref2_in_x1 qn qlow qhigh).bind fun vx1 =>
  some vx1

/-! ### internal/stringslite.IndexByte -/
noncomputable def stringslite_IndexByte (qs : List UInt8) (qc : Int) : Option (Unit) :=
  some ()

/-! ### strings.IndexByte -/
noncomputable def strings_IndexByte (qs : List UInt8) (qc : Int) : Option (Unit) :=
  (stringslite_IndexByte qs qc).bind fun _ =>
  some ()

/-! ### beaconfleet/fleetref2.only -/
noncomputable def fleetref2_only_x1 (qs : List UInt8) (qsome : List UInt8) (vx : Int) : Option ((Int) ⊕ (Unit ⊕ Unit)) :=
  cond (decide (vx < (qs.length : Int)))
    ((at? qs vx).bind fun vc1 =>
    (strings_IndexByte qsome (vc1.toNat : Int)).bind fun _ =>
    cond (decide ((Lib.indexByte qsome (vc1.toNat : Int).toNat.toUInt8) < 0))
      (some (.inr (.inr ())))
      (some (.inl (IntKind.wrap .i64 (vx + 1)))))
    (some (.inr (.inl ())))

noncomputable def fleetref2_only (qs : List UInt8) (qsome : List UInt8) : Option (Bool) :=
  (loopO (fleetref2_only_x1 qs qsome) 0).bind fun x => match x with
    | .inl _ =>
      some true
    | .inr _ =>
      some false

/-! ### beaconfleet/fleetref2.Key -/
noncomputable def fleetref2_Key_x1 (qs : List UInt8) : Option (Bool) :=
  (fleetref2_in (qs.length : Int) 1 40).bind fun vr =>
  cond (vr)
    ((sub? qs 0 1).bind fun vs =>
    (fleetref2_only vs ([97, 98, 99, 100, 101, 102, 103, 104, 105, 106, 107, 108, 109, 110, 111, 112, 113, 114, 115, 116, 117, 118, 119, 120, 121, 122] : List UInt8)).bind fun vr1 =>
    cond (vr1)
      ((fleetref2_only qs ([97, 98, 99, 100, 101, 102, 103, 104, 105, 106, 107, 108, 109, 110, 111, 112, 113, 114, 115, 116, 117, 118, 119, 120, 121, 122, 48, 49, 50, 51, 52, 53, 54, 55, 56, 57, 45, 95] : List UInt8)).bind fun vr2 =>
      some vr2)
      (some false))
    (some false)

noncomputable def fleetref2_Key (qs : List UInt8) : Option (Bool) :=
  (fleetref2_Key_x1 qs).bind fun vx1 =>
  some vx1

/-! ### beaconfleet/fleetref2.Printed$1 -/
noncomputable def fleetref2_Printed_1_x1 (qr : Int) : Option (Bool) :=
  cond (decide (qr < 32))
    (some true)
    (some (decide (qr = 127)))

noncomputable def fleetref2_Printed_1 (qr : Int) : Option (Bool) :=
  (fleetref2_Printed_1_x1 qr).bind fun vx1 =>
  some vx1

/-! ### strings.indexFunc -/
noncomputable def strings_indexFunc_f1_fleetref2_Printed_1_x1 (qs : List UInt8) (qtruth : Bool) (vpos : Nat) : Option ((Nat) ⊕ (Unit ⊕ Int)) :=
  cond (decide (vpos < qs.length))
    ((some (dec qs vpos)).bind fun vd1 =>
    (fleetref2_Printed_1 ((vd1.1 : Nat) : Int)).bind fun vr1 =>
    cond (vr1 == qtruth)
      (some (.inr (.inr ((vpos : Nat) : Int))))
      (some (.inl (vpos + vd1.2 : Nat))))
    (some (.inr (.inl ())))

noncomputable def strings_indexFunc_f1_fleetref2_Printed_1 (qs : List UInt8) (qtruth : Bool) : Option (Int) :=
  (loopO (strings_indexFunc_f1_fleetref2_Printed_1_x1 qs qtruth) (0 : Nat)).bind fun x => match x with
    | .inl _ =>
      some (-1)
    | .inr vx1 =>
      some vx1

/-! ### strings.IndexFunc -/
noncomputable def strings_IndexFunc_f1_fleetref2_Printed_1 (qs : List UInt8) : Option (Int) :=
  (strings_indexFunc_f1_fleetref2_Printed_1 qs true).bind fun vr2 =>
  some vr2

/-! ### strings.ContainsFunc -/
noncomputable def strings_ContainsFunc_f1_fleetref2_Printed_1 (qs : List UInt8) : Option (Bool) :=
  (strings_IndexFunc_f1_fleetref2_Printed_1 qs).bind fun vr =>
  some (decide (0 ≤ vr))

/-! ### beaconfleet/fleetref2.Printed -/
noncomputable def fleetref2_Printed_x1 (qs : List UInt8) : Option (Bool) :=
  (utf8_ValidString qs).bind fun vr =>
  cond (vr)
    ((strings_ContainsFunc_f1_fleetref2_Printed_1 qs).bind fun vr1 =>
    some (!vr1))
    (some false)

noncomputable def fleetref2_Printed (qs : List UInt8) : Option (Bool) :=
  (fleetref2_Printed_x1 qs).bind fun vx1 =>
  some vx1

/-! ### beaconfleet/fleetref2.Moment -/
noncomputable def fleetref2_Moment (qat : Int) : Option (Bool) :=
  (fleetref2_in qat 0 345686399999).bind fun vr =>
  some vr

/-! ### beaconfleet/fleetref2.LetterFault -/
noncomputable def fleetref2_LetterFault_x1 (ql : api_Letter) : Option (Bool) :=
  (fleetref2_Key ql.Id).bind fun vr3 =>
  cond (!vr3)
    (some true)
    (cond (!decide (ql.Slot = ([] : List UInt8)))
      ((fleetref2_Key ql.Slot).bind fun vr3_1 =>
      some (!vr3_1))
      (some false))

noncomputable def fleetref2_LetterFault_x2 (ql : api_Letter) : Option (Bool) :=
  (fleetref2_in ql.Prio 0 9).bind fun vr =>
  cond (!vr)
    (some true)
    ((fleetref2_Moment ql.At).bind fun vr1 =>
    cond (!vr1)
      (some true)
      (cond (decide (ql.Until ≤ ql.At))
        (some true)
        (some (decide (345686400000 < ql.Until)))))

noncomputable def fleetref2_LetterFault (ql : api_Letter) : Option (Int) :=
  (fleetref2_LetterFault_x1 ql).bind fun vx1 =>
  cond (vx1)
    (some 5)
    (cond (decide (1000 < (ql.Body.length : Int)))
      (some 2)
      ((fleetref2_Printed ql.Body).bind fun vr2 =>
      cond (!vr2)
        (some 3)
        ((fleetref2_LetterFault_x2 ql).bind fun vx2_1 =>
        cond (vx2_1)
          (some 1)
          (some 0))))

/-! ### beaconfleet/fleetref2.NotesFault -/
noncomputable def fleetref2_NotesFault_x2 (vy1 : api_Note) : Option (Bool) :=
  (fleetref2_in vy1.Tries 0 20).bind fun vr3 =>
  cond (!vr3)
    (some true)
    ((fleetref2_Moment vy1.Since).bind fun vr1_2 =>
    some (!vr1_2))

noncomputable def fleetref2_NotesFault_x1 (ql : List api_Note) : (List UInt8) × Int → Option (((List UInt8) × Int) ⊕ (Unit ⊕ Int))
  | (vlast, vx) =>
  cond (decide (vx < (ql.length : Int)))
    ((at? ql vx).bind fun vy1 =>
    (fleetref2_LetterFault (api_Letter.mk vy1.Letter.Id vy1.Letter.Slot vy1.Letter.Body vy1.Letter.Prio vy1.Letter.At vy1.Letter.Until)).bind fun vr4_1 =>
    cond (!decide (vr4_1 = 0))
      (some (.inr (.inr vr4_1)))
      ((fleetref2_in vy1.State 1 7).bind fun vr2 =>
      cond (!vr2)
        (some (.inr (.inr 4)))
        ((fleetref2_NotesFault_x2 vy1).bind fun vx2_1 =>
        cond (vx2_1)
          (some (.inr (.inr 1)))
          (cond (Op.bytesLess vy1.Letter.Id vlast || decide (vy1.Letter.Id = vlast))
            (some (.inr (.inr 7)))
            (some (.inl (vy1.Letter.Id, IntKind.wrap .i64 (vx + 1))))))))
    (some (.inr (.inl ())))

noncomputable def fleetref2_NotesFault (ql : List api_Note) : Option (Int) :=
  cond (decide (1500 < (ql.length : Int)))
    (some 2)
    ((loopO (fleetref2_NotesFault_x1 ql) (([] : List UInt8), 0)).bind fun x => match x with
      | .inl _ =>
        some 0
      | .inr vx3_1 =>
        some vx3_1)

/-! ### beaconfleet/fleetlaw2.errs -/
noncomputable def fleetlaw2_errs_x1 (ql : List Int) (vx : Int) : Option ((Int) ⊕ (Unit ⊕ Int)) :=
  cond (decide (vx < (ql.length : Int)))
    ((at? ql vx).bind fun vy1 =>
    cond (!decide (vy1 = 0))
      (some (.inr (.inr vy1)))
      (some (.inl (IntKind.wrap .i64 (vx + 1)))))
    (some (.inr (.inl ())))

noncomputable def fleetlaw2_errs (ql : List Int) : Option (Int) :=
  (loopO (fleetlaw2_errs_x1 ql) 0).bind fun x => match x with
    | .inl _ =>
      some 0
    | .inr vx1_1 =>
      some vx1_1

/-! ### beaconfleet/fleetref2.NotesOf$1 -/
noncomputable def fleetref2_NotesOf_1 (qo : api_Note) (qx : api_Note) : Option (Unit) :=
  some ()

/-! ### slices.IndexFunc[[]beaconfleet/api.Note,beaconfleet/api.Note] -/
noncomputable def slices_IndexFunc_api_Note_api_Note_f1_fleetref2_NotesOf_1_x1 (qs : List api_Note) (qf : api_Note) (vx : Int) : Option ((Int) ⊕ (Unit ⊕ Int)) :=
  cond (decide (vx < (qs.length : Int)))
    ((at? qs vx).bind fun vy1 =>
    (fleetref2_NotesOf_1 (api_Note.mk (api_Letter.mk vy1.Letter.Id vy1.Letter.Slot vy1.Letter.Body vy1.Letter.Prio vy1.Letter.At vy1.Letter.Until) vy1.State vy1.Tries vy1.Since) (api_Note.mk (api_Letter.mk qf.Letter.Id qf.Letter.Slot qf.Letter.Body qf.Letter.Prio qf.Letter.At qf.Letter.Until) qf.State qf.Tries qf.Since)).bind fun _ =>
    cond (decide (vy1.Letter.Id = qf.Letter.Id))
      (some (.inr (.inr vx)))
      (some (.inl (IntKind.wrap .i64 (vx + 1)))))
    (some (.inr (.inl ())))

noncomputable def slices_IndexFunc_api_Note_api_Note_f1_fleetref2_NotesOf_1 (qs : List api_Note) (qf : api_Note) : Option (Int) :=
  (loopO (slices_IndexFunc_api_Note_api_Note_f1_fleetref2_NotesOf_1_x1 qs qf) 0).bind fun x => match x with
    | .inl _ =>
      some (-1)
    | .inr vx1_1 =>
      some vx1_1

/-! ### beaconfleet/fleetref2.gone -/
noncomputable def fleetref2_gone (qn : api_Note) : Option ((List Int)) :=
  (some ((aget (aput (aput (aput (aput (aput ([] : List (Int × Int)) (3 : Int) (5 : Int)) (4 : Int) (4 : Int)) (7 : Int) (3 : Int)) (5 : Int) (2 : Int)) (6 : Int) (1 : Int)) qn.State).getD (0 : Int))).bind fun ve =>
  some ([ve, qn.Tries, IntKind.wrap .i64 (0 - qn.Since), IntKind.wrap .i64 (0 - qn.State)] : List Int)

/-! ### slices.Compare[[]int,int] -/
noncomputable def slices_Compare_int_int_x1 (qs1 : List Int) (qs2 : List Int) (vx : Int) : Option ((Int) ⊕ (Unit ⊕ Int)) :=
  cond (decide (vx < (qs1.length : Int)))
    ((at? qs1 vx).bind fun vy2 =>
    cond (decide ((qs2.length : Int) ≤ vx))
      (some (.inr (.inr 1)))
      ((at? qs2 vx).bind fun vy3 =>
      (cmp_Compare_int vy2 vy3).bind fun vr1 =>
      cond (!decide (vr1 = 0))
        (some (.inr (.inr vr1)))
        (some (.inl (IntKind.wrap .i64 (vx + 1))))))
    (some (.inr (.inl ())))

noncomputable def slices_Compare_int_int (qs1 : List Int) (qs2 : List Int) : Option (Int) :=
  (loopO (slices_Compare_int_int_x1 qs1 qs2) 0).bind fun x => match x with
    | .inl _ =>
      cond (decide ((qs1.length : Int) < (qs2.length : Int)))
        (some (-1))
        (some 0)
    | .inr vx1_1 =>
      some vx1_1

/-! ### math/bits.Len64 -/
noncomputable def bits_Len64_x1 (qx : Int) : Option ((Int × Int)) :=
  cond (decide (4294967296 ≤ qx))
    (some (ishr .u64 qx 32, 32))
    (some (qx, 0))

noncomputable def bits_Len64_x2 (vx1 : Int) (vn1 : Int) : Option ((Int × Int)) :=
  cond (decide (65536 ≤ vx1))
    (some (ishr .u64 vx1 16, IntKind.wrap .i64 (vn1 + 16)))
    (some (vx1, vn1))

noncomputable def bits_Len64_x3 (vx2_1 : Int) (vn2_1 : Int) : Option ((Int × Int)) :=
  cond (decide (256 ≤ vx2_1))
    (some (ishr .u64 vx2_1 8, IntKind.wrap .i64 (vn2_1 + 8)))
    (some (vx2_1, vn2_1))

noncomputable def bits_Len64 (qx : Int) : Option (Int) :=
  (bits_Len64_x1 qx).bind fun (vx1, vn1) =>
  (bits_Len64_x2 vx1 vn1).bind fun (vx2_1, vn2_1) =>
  (bits_Len64_x3 vx2_1 vn2_1).bind fun (vx3_1, vn3_1) =>
  (at? ([0, 1, 2, 2, 3, 3, 3, 3, 4, 4, 4, 4, 4, 4, 4, 4, 5, 5, 5, 5, 5, 5, 5, 5, 5, 5, 5, 5, 5, 5, 5, 5, 6, 6, 6, 6, 6, 6, 6, 6, 6, 6, 6, 6, 6, 6, 6, 6, 6, 6, 6, 6, 6, 6, 6, 6, 6, 6, 6, 6, 6, 6, 6, 6, 7, 7, 7, 7, 7, 7, 7, 7, 7, 7, 7, 7, 7, 7, 7, 7, 7, 7, 7, 7, 7, 7, 7, 7, 7, 7, 7, 7, 7, 7, 7, 7, 7, 7, 7, 7, 7, 7, 7, 7, 7, 7, 7, 7, 7, 7, 7, 7, 7, 7, 7, 7, 7, 7, 7, 7, 7, 7, 7, 7, 7, 7, 7, 7, 8, 8, 8, 8, 8, 8, 8, 8, 8, 8, 8, 8, 8, 8, 8, 8, 8, 8, 8, 8, 8, 8, 8, 8, 8, 8, 8, 8, 8, 8, 8, 8, 8, 8, 8, 8, 8, 8, 8, 8, 8, 8, 8, 8, 8, 8, 8, 8, 8, 8, 8, 8, 8, 8, 8, 8, 8, 8, 8, 8, 8, 8, 8, 8, 8, 8, 8, 8, 8, 8, 8, 8, 8, 8, 8, 8, 8, 8, 8, 8, 8, 8, 8, 8, 8, 8, 8, 8, 8, 8, 8, 8, 8, 8, 8, 8, 8, 8, 8, 8, 8, 8, 8, 8, 8, 8, 8, 8, 8, 8, 8, 8, 8, 8, 8, 8, 8, 8, 8, 8, 8, 8, 8, 8, 8, 8, 8, 8] : List UInt8) (IntKind.wrap .u8 (vx3_1))).bind fun vc =>
  some (IntKind.wrap .i64 (vn3_1 + (IntKind.wrap .i64 ((vc.toNat : Int)))))

/-! ### math/bits.Len -/
noncomputable def bits_Len (qx : Int) : Option (Int) :=
  (bits_Len64 qx).bind fun vr =>
  some vr

/-! ### beaconfleet/fleetref2.NotesOf$2 -/
noncomputable def fleetref2_NotesOf_2 (qx : api_Note) (qy : api_Note) : Option (Unit) :=
  (strings_Compare qx.Letter.Id qy.Letter.Id).bind fun _ =>
  some ()

/-! ### slices.insertionSortCmpFunc[beaconfleet/api.Note] -/
noncomputable def slices_insertionSortCmpFunc_api_Note_o0_f3_fleetref2_NotesOf_2_x3 (qa : Int) (vl3 : List api_Note) (vj1 : Int) : Option (Bool) :=
  cond (decide (qa < vj1))
    ((at? vl3 vj1).bind fun vy15 =>
    (at? vl3 (IntKind.wrap .i64 (vj1 - 1))).bind fun vy16 =>
    (fleetref2_NotesOf_2 (api_Note.mk (api_Letter.mk vy15.Letter.Id vy15.Letter.Slot vy15.Letter.Body vy15.Letter.Prio vy15.Letter.At vy15.Letter.Until) vy15.State vy15.Tries vy15.Since) (api_Note.mk (api_Letter.mk vy16.Letter.Id vy16.Letter.Slot vy16.Letter.Body vy16.Letter.Prio vy16.Letter.At vy16.Letter.Until) vy16.State vy16.Tries vy16.Since)).bind fun _ =>
    some (decide ((Lib.compareBytes vy15.Letter.Id vy16.Letter.Id) < 0)))
    (some false)

noncomputable def slices_insertionSortCmpFunc_api_Note_o0_f3_fleetref2_NotesOf_2_x2 (qa : Int) : (List api_Note) × Int → Option (((List api_Note) × Int) ⊕ ((List api_Note)))
  | (vl3, vj1) =>
  (slices_insertionSortCmpFunc_api_Note_o0_f3_fleetref2_NotesOf_2_x3 qa vl3 vj1).bind fun vx4_1 =>
  cond (vx4_1)
    ((at? vl3 (IntKind.wrap .i64 (vj1 - 1))).bind fun vy17 =>
    (at? vl3 vj1).bind fun vy18 =>
    (at? (vl3.set vj1.toNat (api_Note.mk (api_Letter.mk vy17.Letter.Id vy17.Letter.Slot vy17.Letter.Body vy17.Letter.Prio vy17.Letter.At vy17.Letter.Until) vy17.State vy17.Tries vy17.Since)) (IntKind.wrap .i64 (vj1 - 1))).bind fun vy19 =>
    some (.inl ((vl3.set vj1.toNat (api_Note.mk (api_Letter.mk vy17.Letter.Id vy17.Letter.Slot vy17.Letter.Body vy17.Letter.Prio vy17.Letter.At vy17.Letter.Until) vy17.State vy17.Tries vy17.Since)).set (IntKind.wrap .i64 (vj1 - 1)).toNat (api_Note.mk (api_Letter.mk vy18.Letter.Id vy18.Letter.Slot vy18.Letter.Body vy18.Letter.Prio vy18.Letter.At vy18.Letter.Until) vy18.State vy18.Tries vy18.Since), IntKind.wrap .i64 (vj1 - 1))))
    (some (.inr vl3))

noncomputable def slices_insertionSortCmpFunc_api_Note_o0_f3_fleetref2_NotesOf_2_x1 (qa : Int) (qb : Int) : (List api_Note) × Int → Option (((List api_Note) × Int) ⊕ ((List api_Note)))
  | (vl, vi) =>
  cond (decide (vi < qb))
    ((loopO (slices_insertionSortCmpFunc_api_Note_o0_f3_fleetref2_NotesOf_2_x2 qa) (vl, vi)).bind fun vl4_1 =>
    some (.inl (vl4_1, IntKind.wrap .i64 (vi + 1))))
    (some (.inr vl))

noncomputable def slices_insertionSortCmpFunc_api_Note_o0_f3_fleetref2_NotesOf_2 (qdata : List api_Note) (qa : Int) (qb : Int) : Option ((List api_Note)) :=
  (loopO (slices_insertionSortCmpFunc_api_Note_o0_f3_fleetref2_NotesOf_2_x1 qa qb) (qdata, IntKind.wrap .i64 (qa + 1))).bind fun vl5_1 =>
  some vl5_1

/-! ### slices.pdqsortCmpFunc[beaconfleet/api.Note] -/
noncomputable def slices_pdqsortCmpFunc_api_Note_o0_f4_fleetref2_NotesOf_2_x1 (qx : List api_Note) (qx1 : Int) (qx2 : Int) (qx3 : Int) : Unit → Option ((Unit) ⊕ ((List api_Note)))
  | _ =>
  cond (decide ((IntKind.wrap .i64 (qx2 - qx1)) ≤ 12))
    ((slices_insertionSortCmpFunc_api_Note_o0_f3_fleetref2_NotesOf_2 qx qx1 qx2).bind fun vl6_1 =>
    gd (vl6_1.length == qx.length) <|
    some (.inr vl6_1))
    (cond (decide (qx3 = 0))
      (none)
      (none))

noncomputable def slices_pdqsortCmpFunc_api_Note_o0_f4_fleetref2_NotesOf_2 (qx : List api_Note) (qx1 : Int) (qx2 : Int) (qx3 : Int) : Option ((List api_Note)) :=
  (loopO (slices_pdqsortCmpFunc_api_Note_o0_f4_fleetref2_NotesOf_2_x1 qx qx1 qx2 qx3) ()).bind fun vl1 =>
  some vl1

/-! ### slices.SortFunc[[]beaconfleet/api.Note,beaconfleet/api.Note] -/
noncomputable def slices_SortFunc_api_Note_api_Note_o0_f1_fleetref2_NotesOf_2 (qx : List api_Note) : Option ((List api_Note)) :=
  (bits_Len (IntKind.wrap .u64 ((qx.length : Int)))).bind fun vr1 =>
  (slices_pdqsortCmpFunc_api_Note_o0_f4_fleetref2_NotesOf_2 qx 0 (qx.length : Int) vr1).bind fun vl2 =>
  gd (vl2.length == qx.length) <|
  some vl2

/-! ### beaconfleet/fleetref2.NotesOf -/
noncomputable def fleetref2_NotesOf_o1_x2 (qb : List api_Note) (vout : List api_Note) (vx : Int) : Option ((List api_Note) ⊕ Unit) :=
  (at? qb vx).bind fun vy2 =>
  (slices_IndexFunc_api_Note_api_Note_f1_fleetref2_NotesOf_1 vout (api_Note.mk (api_Letter.mk vy2.Letter.Id vy2.Letter.Slot vy2.Letter.Body vy2.Letter.Prio vy2.Letter.At vy2.Letter.Until) vy2.State vy2.Tries vy2.Since)).bind fun vr4 =>
  cond (decide (vr4 < 0))
    (gd (Nat.ble (vout.length + ([api_Note.mk (api_Letter.mk vy2.Letter.Id vy2.Letter.Slot vy2.Letter.Body vy2.Letter.Prio vy2.Letter.At vy2.Letter.Until) vy2.State vy2.Tries vy2.Since] : List api_Note).length) LIM) <|
    some (.inl (vout ++ ([api_Note.mk (api_Letter.mk vy2.Letter.Id vy2.Letter.Slot vy2.Letter.Body vy2.Letter.Prio vy2.Letter.At vy2.Letter.Until) vy2.State vy2.Tries vy2.Since] : List api_Note))))
    ((at? vout vr4).bind fun vy3 =>
    cond (!(decide (vy3.Letter.Id = vy2.Letter.Id) && (decide (vy3.Letter.Slot = vy2.Letter.Slot) && (decide (vy3.Letter.Body = vy2.Letter.Body) && (decide (vy3.Letter.Prio = vy2.Letter.Prio) && (decide (vy3.Letter.At = vy2.Letter.At) && (decide (vy3.Letter.Until = vy2.Letter.Until) && true)))))))
      (some (.inr ()))
      ((fleetref2_gone (api_Note.mk (api_Letter.mk vy2.Letter.Id vy2.Letter.Slot vy2.Letter.Body vy2.Letter.Prio vy2.Letter.At vy2.Letter.Until) vy2.State vy2.Tries vy2.Since)).bind fun vr5 =>
      (fleetref2_gone (api_Note.mk (api_Letter.mk vy3.Letter.Id vy3.Letter.Slot vy3.Letter.Body vy3.Letter.Prio vy3.Letter.At vy3.Letter.Until) vy3.State vy3.Tries vy3.Since)).bind fun vr6 =>
      (slices_Compare_int_int vr5 vr6).bind fun vr2_2 =>
      cond (decide (0 < vr2_2))
        (some (.inl (vout.set vr4.toNat (api_Note.mk (api_Letter.mk vy2.Letter.Id vy2.Letter.Slot vy2.Letter.Body vy2.Letter.Prio vy2.Letter.At vy2.Letter.Until) vy2.State vy2.Tries vy2.Since))))
        (some (.inl vout))))

noncomputable def fleetref2_NotesOf_o1_x1 (qb : List api_Note) : (List api_Note) × Int → Option (((List api_Note) × Int) ⊕ ((List api_Note) ⊕ Unit))
  | (vout, vx) =>
  cond (decide (vx < (qb.length : Int)))
    ((fleetref2_NotesOf_o1_x2 qb vout vx).bind fun x => match x with
      | .inl vout2_1 =>
        some (.inl (vout2_1, IntKind.wrap .i64 (vx + 1)))
      | .inr _ =>
        some (.inr (.inr ())))
    (some (.inr (.inl vout)))

noncomputable def fleetref2_NotesOf_o1 (qa : List api_Note) (qb : List api_Note) : Option ((List api_Note) × Int) :=
  (slices_Clone_api_Note_api_Note qa).bind fun vr =>
  (loopO (fleetref2_NotesOf_o1_x1 qb) (vr, 0)).bind fun x => match x with
    | .inl vout3_1 =>
      (slices_SortFunc_api_Note_api_Note_o0_f1_fleetref2_NotesOf_2 vout3_1).bind fun vl =>
      gd (vl.length == vout3_1.length) <|
      cond (decide (1500 < (vl.length : Int)))
        (some ([], 2))
        (some (vl, 0))
    | .inr _ =>
      some ([], 13)

/-! ### slices.Equal[[]beaconfleet/api.Note,beaconfleet/api.Note] -/
noncomputable def slices_Equal_api_Note_api_Note_x1 (qs1 : List api_Note) (qs2 : List api_Note) (vx : Int) : Option ((Int) ⊕ (Unit ⊕ Unit)) :=
  cond (decide (vx < (qs1.length : Int)))
    ((at? qs1 vx).bind fun vy2 =>
    (at? qs2 vx).bind fun vy3 =>
    cond (!((decide (vy2.Letter.Id = vy3.Letter.Id) && (decide (vy2.Letter.Slot = vy3.Letter.Slot) && (decide (vy2.Letter.Body = vy3.Letter.Body) && (decide (vy2.Letter.Prio = vy3.Letter.Prio) && (decide (vy2.Letter.At = vy3.Letter.At) && (decide (vy2.Letter.Until = vy3.Letter.Until) && true)))))) && (decide (vy2.State = vy3.State) && (decide (vy2.Tries = vy3.Tries) && (decide (vy2.Since = vy3.Since) && true)))))
      (some (.inr (.inr ())))
      (some (.inl (IntKind.wrap .i64 (vx + 1)))))
    (some (.inr (.inl ())))

noncomputable def slices_Equal_api_Note_api_Note (qs1 : List api_Note) (qs2 : List api_Note) : Option (Bool) :=
  cond (!decide ((qs1.length : Int) = (qs2.length : Int)))
    (some false)
    ((loopO (slices_Equal_api_Note_api_Note_x1 qs1 qs2) 0).bind fun x => match x with
      | .inl _ =>
        some true
      | .inr _ =>
        some false)

/-! ### beaconfleet/command.CheckPost -/
noncomputable def command_CheckPost_x1 (qp : api_Post) : Option (Bool) :=
  (base_Out qp.Room 1 500).bind fun vr =>
  cond (vr)
    (some true)
    ((base_Out qp.Timeout 1 86400000).bind fun vr1 =>
    cond (vr1)
      (some true)
      ((base_Out qp.Tries 1 20).bind fun vr2 =>
      cond (vr2)
        (some true)
        ((base_Out qp.Kept 0 1000).bind fun vr3 =>
        some vr3)))

noncomputable def command_CheckPost (qp : api_Post) : Option (Int) :=
  (command_CheckPost_x1 qp).bind fun vx1 =>
  cond (vx1)
    (some 1)
    (some 0)

/-! ### beaconfleet/command.New -/
noncomputable def command_New (qp : api_Post) : Option (Int ⊕ Unit) :=
  (command_CheckPost qp).bind fun vr4 =>
  cond (!decide (vr4 = 0))
    (some (.inl vr4))
    (some (.inr ()))

/-! ### (*beaconfleet/command.Office).timeFault -/
noncomputable def command_Office_timeFault (qo : Int) (qo1 : Int) (qm : List (List UInt8 × api_Note)) (qat : Int) : Option (Int) :=
  (base_Moment qat).bind fun vr1 =>
  cond (!vr1)
    (some 1)
    (cond (decide (qat < qo1))
      (some 7)
      (some 0))

/-! ### beaconfleet/command.ended -/
noncomputable def command_ended (qstate : Int) : Option (Unit) :=
  some ()

/-! ### (*beaconfleet/command.Office).turn -/
noncomputable def command_Office_turn (qo : Int) (qo1 : Int) (qn : api_Note) : Option (Int) :=
  cond (decide (qn.State = 2))
    (some (imin qn.Letter.Until (IntKind.wrap .i64 (qn.Since + qo))))
    (some qn.Letter.Until)

/-! ### (*beaconfleet/command.Office).grown -/
noncomputable def command_Office_grown_x1 (qo : Int) (qo1 : Int) (qat : Int) (vn : api_Note) : Option ((api_Note) ⊕ (api_Note)) :=
  (command_ended vn.State).bind fun _ =>
  cond (!(decide (3 ≤ vn.State)))
    ((command_Office_turn qo qo1 (api_Note.mk (api_Letter.mk vn.Letter.Id vn.Letter.Slot vn.Letter.Body vn.Letter.Prio vn.Letter.At vn.Letter.Until) vn.State vn.Tries vn.Since)).bind fun vr1 =>
    cond (decide (qat < vr1))
      (some (.inr (api_Note.mk (api_Letter.mk vn.Letter.Id vn.Letter.Slot vn.Letter.Body vn.Letter.Prio vn.Letter.At vn.Letter.Until) vn.State vn.Tries vn.Since)))
      (cond (decide (vr1 = vn.Letter.Until))
        (some (.inl (api_Note.mk (api_Letter.mk vn.Letter.Id vn.Letter.Slot vn.Letter.Body vn.Letter.Prio vn.Letter.At vn.Letter.Until) 5 vn.Tries vr1)))
        (cond (decide (vn.Tries = qo))
          (some (.inl (api_Note.mk (api_Letter.mk vn.Letter.Id vn.Letter.Slot vn.Letter.Body vn.Letter.Prio vn.Letter.At vn.Letter.Until) 7 vn.Tries vr1)))
          (some (.inl (api_Note.mk (api_Letter.mk vn.Letter.Id vn.Letter.Slot vn.Letter.Body vn.Letter.Prio vn.Letter.At vn.Letter.Until) 1 vn.Tries vr1))))))
    (some (.inr (api_Note.mk (api_Letter.mk vn.Letter.Id vn.Letter.Slot vn.Letter.Body vn.Letter.Prio vn.Letter.At vn.Letter.Until) vn.State vn.Tries vn.Since)))

noncomputable def command_Office_grown (qo : Int) (qo1 : Int) (qn : api_Note) (qat : Int) : Option (api_Note) :=
  (loopO (command_Office_grown_x1 qo qo1 qat) (api_Note.mk (api_Letter.mk qn.Letter.Id qn.Letter.Slot qn.Letter.Body qn.Letter.Prio qn.Letter.At qn.Letter.Until) qn.State qn.Tries qn.Since)).bind fun vn1_1 =>
  some (api_Note.mk (api_Letter.mk vn1_1.Letter.Id vn1_1.Letter.Slot vn1_1.Letter.Body vn1_1.Letter.Prio vn1_1.Letter.At vn1_1.Letter.Until) vn1_1.State vn1_1.Tries vn1_1.Since)

/-! ### (*beaconfleet/command.Office).aged$1 -/
noncomputable def command_Office_aged_1 (qa : api_Note) (qb : api_Note) : Option (Int) :=
  (cmp_Compare_int qa.Since qb.Since).bind fun vr =>
  (strings_Compare qa.Letter.Id qb.Letter.Id).bind fun _ =>
  (cmp_Or_int ([vr, Lib.compareBytes qa.Letter.Id qb.Letter.Id] : List Int)).bind fun vr1 =>
  some vr1

/-! ### slices.insertionSortCmpFunc[beaconfleet/api.Note] -/
noncomputable def slices_insertionSortCmpFunc_api_Note_o0_f3_command_Office_aged_1_x3 (qa : Int) (vl3 : List api_Note) (vj1 : Int) : Option (Bool) :=
  cond (decide (qa < vj1))
    ((at? vl3 vj1).bind fun vy15 =>
    (at? vl3 (IntKind.wrap .i64 (vj1 - 1))).bind fun vy16 =>
    (command_Office_aged_1 (api_Note.mk (api_Letter.mk vy15.Letter.Id vy15.Letter.Slot vy15.Letter.Body vy15.Letter.Prio vy15.Letter.At vy15.Letter.Until) vy15.State vy15.Tries vy15.Since) (api_Note.mk (api_Letter.mk vy16.Letter.Id vy16.Letter.Slot vy16.Letter.Body vy16.Letter.Prio vy16.Letter.At vy16.Letter.Until) vy16.State vy16.Tries vy16.Since)).bind fun vr2_3 =>
    some (decide (vr2_3 < 0)))
    (some false)

noncomputable def slices_insertionSortCmpFunc_api_Note_o0_f3_command_Office_aged_1_x2 (qa : Int) : (List api_Note) × Int → Option (((List api_Note) × Int) ⊕ ((List api_Note)))
  | (vl3, vj1) =>
  (slices_insertionSortCmpFunc_api_Note_o0_f3_command_Office_aged_1_x3 qa vl3 vj1).bind fun vx4_1 =>
  cond (vx4_1)
    ((at? vl3 (IntKind.wrap .i64 (vj1 - 1))).bind fun vy17 =>
    (at? vl3 vj1).bind fun vy18 =>
    (at? (vl3.set vj1.toNat (api_Note.mk (api_Letter.mk vy17.Letter.Id vy17.Letter.Slot vy17.Letter.Body vy17.Letter.Prio vy17.Letter.At vy17.Letter.Until) vy17.State vy17.Tries vy17.Since)) (IntKind.wrap .i64 (vj1 - 1))).bind fun vy19 =>
    some (.inl ((vl3.set vj1.toNat (api_Note.mk (api_Letter.mk vy17.Letter.Id vy17.Letter.Slot vy17.Letter.Body vy17.Letter.Prio vy17.Letter.At vy17.Letter.Until) vy17.State vy17.Tries vy17.Since)).set (IntKind.wrap .i64 (vj1 - 1)).toNat (api_Note.mk (api_Letter.mk vy18.Letter.Id vy18.Letter.Slot vy18.Letter.Body vy18.Letter.Prio vy18.Letter.At vy18.Letter.Until) vy18.State vy18.Tries vy18.Since), IntKind.wrap .i64 (vj1 - 1))))
    (some (.inr vl3))

noncomputable def slices_insertionSortCmpFunc_api_Note_o0_f3_command_Office_aged_1_x1 (qa : Int) (qb : Int) : (List api_Note) × Int → Option (((List api_Note) × Int) ⊕ ((List api_Note)))
  | (vl, vi) =>
  cond (decide (vi < qb))
    ((loopO (slices_insertionSortCmpFunc_api_Note_o0_f3_command_Office_aged_1_x2 qa) (vl, vi)).bind fun vl4_1 =>
    some (.inl (vl4_1, IntKind.wrap .i64 (vi + 1))))
    (some (.inr vl))

noncomputable def slices_insertionSortCmpFunc_api_Note_o0_f3_command_Office_aged_1 (qdata : List api_Note) (qa : Int) (qb : Int) : Option ((List api_Note)) :=
  (loopO (slices_insertionSortCmpFunc_api_Note_o0_f3_command_Office_aged_1_x1 qa qb) (qdata, IntKind.wrap .i64 (qa + 1))).bind fun vl5_1 =>
  some vl5_1

/-! ### slices.pdqsortCmpFunc[beaconfleet/api.Note] -/
noncomputable def slices_pdqsortCmpFunc_api_Note_o0_f4_command_Office_aged_1_x1 (qx : List api_Note) (qx1 : Int) (qx2 : Int) (qx3 : Int) : Unit → Option ((Unit) ⊕ ((List api_Note)))
  | _ =>
  cond (decide ((IntKind.wrap .i64 (qx2 - qx1)) ≤ 12))
    ((slices_insertionSortCmpFunc_api_Note_o0_f3_command_Office_aged_1 qx qx1 qx2).bind fun vl6_1 =>
    gd (vl6_1.length == qx.length) <|
    some (.inr vl6_1))
    (cond (decide (qx3 = 0))
      (none)
      (none))

noncomputable def slices_pdqsortCmpFunc_api_Note_o0_f4_command_Office_aged_1 (qx : List api_Note) (qx1 : Int) (qx2 : Int) (qx3 : Int) : Option ((List api_Note)) :=
  (loopO (slices_pdqsortCmpFunc_api_Note_o0_f4_command_Office_aged_1_x1 qx qx1 qx2 qx3) ()).bind fun vl1 =>
  some vl1

/-! ### slices.SortFunc[[]beaconfleet/api.Note,beaconfleet/api.Note] -/
noncomputable def slices_SortFunc_api_Note_api_Note_o0_f1_command_Office_aged_1 (qx : List api_Note) : Option ((List api_Note)) :=
  (bits_Len (IntKind.wrap .u64 ((qx.length : Int)))).bind fun vr1 =>
  (slices_pdqsortCmpFunc_api_Note_o0_f4_command_Office_aged_1 qx 0 (qx.length : Int) vr1).bind fun vl2 =>
  gd (vl2.length == qx.length) <|
  some vl2

/-! ### (*beaconfleet/command.Office).aged -/
noncomputable def command_Office_aged_x1 (qo : Int) (qo1 : Int) (qat : Int) (qe : Option (List UInt8 × api_Note)) : (List (List UInt8 × api_Note)) × (List api_Note) → Option (((List (List UInt8 × api_Note)) × (List api_Note)) ⊕ (((List (List UInt8 × api_Note)) × (List api_Note))))
  | (vm, vover) =>
  match qe with
  | none =>
    some (.inr (vm, vover))
  | some ve1 =>
    (command_Office_grown qo qo1 (api_Note.mk (api_Letter.mk ve1.2.Letter.Id ve1.2.Letter.Slot ve1.2.Letter.Body ve1.2.Letter.Prio ve1.2.Letter.At ve1.2.Letter.Until) ve1.2.State ve1.2.Tries ve1.2.Since) qat).bind fun vr2_1 =>
    (command_ended vr2_1.State).bind fun _ =>
    cond (decide (3 ≤ vr2_1.State))
      (gd (Nat.ble (vover.length + ([api_Note.mk (api_Letter.mk vr2_1.Letter.Id vr2_1.Letter.Slot vr2_1.Letter.Body vr2_1.Letter.Prio vr2_1.Letter.At vr2_1.Letter.Until) vr2_1.State vr2_1.Tries vr2_1.Since] : List api_Note).length) LIM) <|
      some (.inl (aput vm ve1.1 (api_Note.mk (api_Letter.mk vr2_1.Letter.Id vr2_1.Letter.Slot vr2_1.Letter.Body vr2_1.Letter.Prio vr2_1.Letter.At vr2_1.Letter.Until) vr2_1.State vr2_1.Tries vr2_1.Since), vover ++ ([api_Note.mk (api_Letter.mk vr2_1.Letter.Id vr2_1.Letter.Slot vr2_1.Letter.Body vr2_1.Letter.Prio vr2_1.Letter.At vr2_1.Letter.Until) vr2_1.State vr2_1.Tries vr2_1.Since] : List api_Note))))
      (some (.inl (aput vm ve1.1 (api_Note.mk (api_Letter.mk vr2_1.Letter.Id vr2_1.Letter.Slot vr2_1.Letter.Body vr2_1.Letter.Prio vr2_1.Letter.At vr2_1.Letter.Until) vr2_1.State vr2_1.Tries vr2_1.Since), vover)))

noncomputable def command_Office_aged_x2 (qo1 : Int) (vl3 : List api_Note) : (List (List UInt8 × api_Note)) × Int → Option (((List (List UInt8 × api_Note)) × Int) ⊕ ((List (List UInt8 × api_Note))))
  | (vm2, vx) =>
  cond (decide (vx < ((vl3.take (imax 0 (IntKind.wrap .i64 ((vl3.length : Int) - qo1))).toNat).length : Int)))
    ((at? (vl3.take (imax 0 (IntKind.wrap .i64 ((vl3.length : Int) - qo1))).toNat) vx).bind fun vy1 =>
    some (.inl (adel vm2 vy1.Letter.Id, IntKind.wrap .i64 (vx + 1))))
    (some (.inr vm2))

noncomputable def command_Office_aged (qo : Int) (qo1 : Int) (qm : List (List UInt8 × api_Note)) (qat : Int) : Option ((List (List UInt8 × api_Note))) :=
  allPerm qm fun zo =>
  (rngO (command_Office_aged_x1 qo qo1 qat) zo (([] : List (List UInt8 × api_Note)), [])).bind fun (vm1_1, vover1_1) =>
  (slices_SortFunc_api_Note_api_Note_o0_f1_command_Office_aged_1 vover1_1).bind fun vl3 =>
  gd (vl3.length == vover1_1.length) <|
  gd (decide (0 ≤ (imax 0 (IntKind.wrap .i64 ((vl3.length : Int) - qo1)))) && decide ((imax 0 (IntKind.wrap .i64 ((vl3.length : Int) - qo1))) ≤ (vl3.length : Int))) <|
  (loopO (command_Office_aged_x2 qo1 vl3) (vm1_1, 0)).bind fun vm3_1 =>
  some vm3_1

/-! ### beaconfleet/command.pending -/
noncomputable def command_pending_x1 (qe : Option (List UInt8 × api_Note)) (vk : Int) : Option ((Int) ⊕ (Int)) :=
  match qe with
  | none =>
    some (.inr vk)
  | some ve1 =>
    (command_ended ve1.2.State).bind fun _ =>
    cond (!(decide (3 ≤ ve1.2.State)))
      (some (.inl (IntKind.wrap .i64 (vk + 1))))
      (some (.inl vk))

noncomputable def command_pending (qm : List (List UInt8 × api_Note)) : Option (Int) :=
  allPerm qm fun zo =>
  (rngO (command_pending_x1) zo 0).bind fun vk1_1 =>
  some vk1_1

/-! ### (*beaconfleet/command.Office).keep -/
noncomputable def command_Office_keep (qo : Int) (qo1 : Int) (qm : List (List UInt8 × api_Note)) (qm1 : List (List UInt8 × api_Note)) (qat : Int) : Option (Unit) :=
  some ()

/-! ### (*beaconfleet/command.Office).Put -/
noncomputable def command_Office_Put_x2 (qx2 : api_Letter) (ve2 : (List UInt8 × api_Note)) : Option (Bool) :=
  cond (!decide (qx2.Slot = ([] : List UInt8)))
    (cond (decide (ve2.2.Letter.Slot = qx2.Slot))
      (cond (decide (ve2.2.State = 1))
        (some (decide (ve2.2.Tries = 0)))
        (some false))
      (some false))
    (some false)

noncomputable def command_Office_Put_x1 (qx2 : api_Letter) (qe : Option (List UInt8 × api_Note)) (vx : List UInt8) : Option (((List UInt8)) ⊕ ((List UInt8))) :=
  match qe with
  | none =>
    some (.inr vx)
  | some ve2 =>
    (command_Office_Put_x2 qx2 ve2).bind fun vx2_1 =>
    cond (vx2_1)
      (some (.inl ve2.1))
      (some (.inl vx))

noncomputable def command_Office_Put_x3 (qx : Int) (vx3_1 : List UInt8) : Option (Int) :=
  cond (!decide (vx3_1 = ([] : List UInt8)))
    (some (IntKind.wrap .i64 (qx + 1)))
    (some qx)

noncomputable def command_Office_Put_x4 (qx2 : api_Letter) (vm4 : List (List UInt8 × api_Note)) (vx3_1 : List UInt8) : Option ((List (List UInt8 × api_Note))) :=
  cond (!decide (vx3_1 = ([] : List UInt8)))
    ((some ((aget vm4 vx3_1).getD (api_Note.mk (api_Letter.mk ([] : List UInt8) ([] : List UInt8) ([] : List UInt8) 0 0 0) 0 0 0))).bind fun ve3 =>
    some (aput vm4 vx3_1 (api_Note.mk (api_Letter.mk ve3.Letter.Id ve3.Letter.Slot ve3.Letter.Body ve3.Letter.Prio ve3.Letter.At ve3.Letter.Until) 6 ve3.Tries qx2.At)))
    (some vm4)

noncomputable def command_Office_Put (qx : Int) (qx1 : Int) (qm : List (List UInt8 × api_Note)) (qx2 : api_Letter) : Option (Int ⊕ (List (List UInt8 × api_Note))) :=
  (command_CheckLetter qx2).bind fun vr3 =>
  (command_Office_timeFault qx qx1 qm qx2.At).bind fun vr =>
  (base_First ([vr3, vr] : List Int)).bind fun vr1 =>
  cond (!decide (vr1 = 0))
    (some (.inl vr1))
    ((command_Office_aged qx qx1 qm qx2.At).bind fun vm4 =>
    (some ((aget vm4 qx2.Id).getD (api_Note.mk (api_Letter.mk ([] : List UInt8) ([] : List UInt8) ([] : List UInt8) 0 0 0) 0 0 0))).bind fun ve =>
    (some (aget vm4 qx2.Id).isSome).bind fun vis =>
    cond (vis)
      (some (.inl 6))
      (allPerm vm4 fun zo =>
      (rngO (command_Office_Put_x1 qx2) zo ([] : List UInt8)).bind fun vx3_1 =>
      (command_Office_Put_x3 qx vx3_1).bind fun vx4_1 =>
      (command_pending vm4).bind fun vr2 =>
      cond (decide (vx4_1 ≤ vr2))
        (some (.inl 12))
        ((command_Office_Put_x4 qx2 vm4 vx3_1).bind fun vm1 =>
        (command_Office_keep qx qx1 qm (aput vm1 qx2.Id (api_Note.mk qx2 1 0 qx2.At)) qx2.At).bind fun _ =>
        some (.inr (aput vm1 qx2.Id (api_Note.mk qx2 1 0 qx2.At))))))

/-! ### (*beaconfleet/command.Office).timeFault -/
noncomputable def command_Office_timeFault_2 (qo : Int) (qo1 : Int) (qm : List (List UInt8 × api_Note)) : Option (Int) :=
  (base_Moment qo1).bind fun vr1 =>
  cond (!vr1)
    (some 1)
    (cond (decide (qo1 < qo1))
      (some 7)
      (some 0))

/-! ### (*beaconfleet/command.Office).grown -/
noncomputable def command_Office_grown_2_x1 (qo : Int) (qo1 : Int) (vn : api_Note) : Option ((api_Note) ⊕ (api_Note)) :=
  (command_ended vn.State).bind fun _ =>
  cond (!(decide (3 ≤ vn.State)))
    ((command_Office_turn qo qo1 (api_Note.mk (api_Letter.mk vn.Letter.Id vn.Letter.Slot vn.Letter.Body vn.Letter.Prio vn.Letter.At vn.Letter.Until) vn.State vn.Tries vn.Since)).bind fun vr1 =>
    cond (decide (qo1 < vr1))
      (some (.inr (api_Note.mk (api_Letter.mk vn.Letter.Id vn.Letter.Slot vn.Letter.Body vn.Letter.Prio vn.Letter.At vn.Letter.Until) vn.State vn.Tries vn.Since)))
      (cond (decide (vr1 = vn.Letter.Until))
        (some (.inl (api_Note.mk (api_Letter.mk vn.Letter.Id vn.Letter.Slot vn.Letter.Body vn.Letter.Prio vn.Letter.At vn.Letter.Until) 5 vn.Tries vr1)))
        (cond (decide (vn.Tries = qo))
          (some (.inl (api_Note.mk (api_Letter.mk vn.Letter.Id vn.Letter.Slot vn.Letter.Body vn.Letter.Prio vn.Letter.At vn.Letter.Until) 7 vn.Tries vr1)))
          (some (.inl (api_Note.mk (api_Letter.mk vn.Letter.Id vn.Letter.Slot vn.Letter.Body vn.Letter.Prio vn.Letter.At vn.Letter.Until) 1 vn.Tries vr1))))))
    (some (.inr (api_Note.mk (api_Letter.mk vn.Letter.Id vn.Letter.Slot vn.Letter.Body vn.Letter.Prio vn.Letter.At vn.Letter.Until) vn.State vn.Tries vn.Since)))

noncomputable def command_Office_grown_2 (qo : Int) (qo1 : Int) (qn : api_Note) : Option (api_Note) :=
  (loopO (command_Office_grown_2_x1 qo qo1) (api_Note.mk (api_Letter.mk qn.Letter.Id qn.Letter.Slot qn.Letter.Body qn.Letter.Prio qn.Letter.At qn.Letter.Until) qn.State qn.Tries qn.Since)).bind fun vn1_1 =>
  some (api_Note.mk (api_Letter.mk vn1_1.Letter.Id vn1_1.Letter.Slot vn1_1.Letter.Body vn1_1.Letter.Prio vn1_1.Letter.At vn1_1.Letter.Until) vn1_1.State vn1_1.Tries vn1_1.Since)

/-! ### (*beaconfleet/command.Office).aged -/
noncomputable def command_Office_aged_2_x1 (qo : Int) (qo1 : Int) (qe : Option (List UInt8 × api_Note)) : (List (List UInt8 × api_Note)) × (List api_Note) → Option (((List (List UInt8 × api_Note)) × (List api_Note)) ⊕ (((List (List UInt8 × api_Note)) × (List api_Note))))
  | (vm, vover) =>
  match qe with
  | none =>
    some (.inr (vm, vover))
  | some ve1 =>
    (command_Office_grown_2 qo qo1 (api_Note.mk (api_Letter.mk ve1.2.Letter.Id ve1.2.Letter.Slot ve1.2.Letter.Body ve1.2.Letter.Prio ve1.2.Letter.At ve1.2.Letter.Until) ve1.2.State ve1.2.Tries ve1.2.Since)).bind fun vr2_1 =>
    (command_ended vr2_1.State).bind fun _ =>
    cond (decide (3 ≤ vr2_1.State))
      (gd (Nat.ble (vover.length + ([api_Note.mk (api_Letter.mk vr2_1.Letter.Id vr2_1.Letter.Slot vr2_1.Letter.Body vr2_1.Letter.Prio vr2_1.Letter.At vr2_1.Letter.Until) vr2_1.State vr2_1.Tries vr2_1.Since] : List api_Note).length) LIM) <|
      some (.inl (aput vm ve1.1 (api_Note.mk (api_Letter.mk vr2_1.Letter.Id vr2_1.Letter.Slot vr2_1.Letter.Body vr2_1.Letter.Prio vr2_1.Letter.At vr2_1.Letter.Until) vr2_1.State vr2_1.Tries vr2_1.Since), vover ++ ([api_Note.mk (api_Letter.mk vr2_1.Letter.Id vr2_1.Letter.Slot vr2_1.Letter.Body vr2_1.Letter.Prio vr2_1.Letter.At vr2_1.Letter.Until) vr2_1.State vr2_1.Tries vr2_1.Since] : List api_Note))))
      (some (.inl (aput vm ve1.1 (api_Note.mk (api_Letter.mk vr2_1.Letter.Id vr2_1.Letter.Slot vr2_1.Letter.Body vr2_1.Letter.Prio vr2_1.Letter.At vr2_1.Letter.Until) vr2_1.State vr2_1.Tries vr2_1.Since), vover)))

noncomputable def command_Office_aged_2_x2 (qo1 : Int) (vl3 : List api_Note) : (List (List UInt8 × api_Note)) × Int → Option (((List (List UInt8 × api_Note)) × Int) ⊕ ((List (List UInt8 × api_Note))))
  | (vm2, vx) =>
  cond (decide (vx < ((vl3.take (imax 0 (IntKind.wrap .i64 ((vl3.length : Int) - qo1))).toNat).length : Int)))
    ((at? (vl3.take (imax 0 (IntKind.wrap .i64 ((vl3.length : Int) - qo1))).toNat) vx).bind fun vy1 =>
    some (.inl (adel vm2 vy1.Letter.Id, IntKind.wrap .i64 (vx + 1))))
    (some (.inr vm2))

noncomputable def command_Office_aged_2 (qo : Int) (qo1 : Int) (qm : List (List UInt8 × api_Note)) : Option ((List (List UInt8 × api_Note))) :=
  allPerm qm fun zo =>
  (rngO (command_Office_aged_2_x1 qo qo1) zo (([] : List (List UInt8 × api_Note)), [])).bind fun (vm1_1, vover1_1) =>
  (slices_SortFunc_api_Note_api_Note_o0_f1_command_Office_aged_1 vover1_1).bind fun vl3 =>
  gd (vl3.length == vover1_1.length) <|
  gd (decide (0 ≤ (imax 0 (IntKind.wrap .i64 ((vl3.length : Int) - qo1)))) && decide ((imax 0 (IntKind.wrap .i64 ((vl3.length : Int) - qo1))) ≤ (vl3.length : Int))) <|
  (loopO (command_Office_aged_2_x2 qo1 vl3) (vm1_1, 0)).bind fun vm3_1 =>
  some vm3_1

/-! ### (*beaconfleet/command.Office).keep -/
noncomputable def command_Office_keep_2 (qo : Int) (qo1 : Int) (qm : List (List UInt8 × api_Note)) (qm1 : List (List UInt8 × api_Note)) : Option (Unit) :=
  some ()

/-! ### (*beaconfleet/command.Office).Waiting -/
noncomputable def command_Office_Waiting (qo : Int) (qo1 : Int) (qm : List (List UInt8 × api_Note)) : Option (Int ⊕ ((List (List UInt8 × api_Note)) × Int)) :=
  (command_Office_timeFault_2 qo qo1 qm).bind fun vr =>
  cond (!decide (vr = 0))
    (some (.inl vr))
    ((command_Office_aged_2 qo qo1 qm).bind fun vm4 =>
    (command_Office_keep_2 qo qo1 qm vm4).bind fun _ =>
    (command_pending vm4).bind fun vr1 =>
    some (.inr (vm4, vr1)))

/-! ### beaconfleet/fleetlaw2.posted -/
noncomputable def fleetlaw2_posted_x1 (vr : Int) : Option (Unit) :=
  cond (!decide (vr = 0))
    (some ())
    (some ())

noncomputable def fleetlaw2_posted_x2 : Option (((List (List UInt8 × api_Note)) × Bool)) :=
  cond (!decide ((0 : Int) = 0))
    (some (([] : List (List UInt8 × api_Note)), true))
    ((command_Office_Put 1 0 ([] : List (List UInt8 × api_Note)) (api_Letter.mk ([97] : List UInt8) ([] : List UInt8) ([] : List UInt8) 0 0 5)).bind fun x => match x with
      | .inl vr4 =>
        some (([] : List (List UInt8 × api_Note)), !decide (vr4 = 0))
      | .inr vm2 =>
        some (vm2, false))

noncomputable def fleetlaw2_posted_x3 (vm1 : List (List UInt8 × api_Note)) : Option ((Int × Int)) :=
  (command_Office_Waiting 1 0 vm1).bind fun x => match x with
    | .inl vr2 =>
      some (vr2, 0)
    | .inr (vm3, vr3) =>
      some (0, vr3)

noncomputable def fleetlaw2_posted_x4 (ve1 : Int) (vn1 : Int) : Option (Bool) :=
  cond (decide (ve1 = 0))
    (some (decide (vn1 = 1)))
    (some false)

noncomputable def fleetlaw2_posted : Option (Bool) :=
  (command_New (api_Post.mk 1 1 1 0)).bind fun x => match x with
    | .inl vr =>
      (fleetlaw2_posted_x1 vr).bind fun _ =>
      some false
    | .inr _ =>
      (fleetlaw2_posted_x2).bind fun (vm1, vx1) =>
      cond (vx1)
        (some false)
        ((fleetlaw2_posted_x3 vm1).bind fun (ve1, vn1) =>
        (fleetlaw2_posted_x4 ve1 vn1).bind fun vx2_1 =>
        some vx2_1)

/-! ### beaconfleet/fleetlaw2.NotesMerge -/
noncomputable def fleetlaw2_NotesMerge_x2 (vr1 : List api_Note) : fleetmake_Stream × (List api_Note) × Int → Option ((fleetmake_Stream × (List api_Note) × Int) ⊕ ((List api_Note)))
  | (vx, vx1, vx2) =>
  cond (decide (vx2 < (vr1.length : Int)))
    ((fleetmake_Stream_Range vx 1 7).bind fun (vs1, vr5) =>
    (fleetmake_Stream_Pick_o1 vs1 ([0, 1, 2] : List Int)).bind fun vr6 =>
    (fleetmake_Stream_Pick_o1 (fleetmake_Stream.mk vs1.L (IntKind.wrap .i64 (vs1.at_ + 1))) ([0, 5, 9] : List Int)).bind fun vr7 =>
    (at? vx1 vx2).bind fun vy3 =>
    (at? (vx1.set vx2.toNat (api_Note.mk (api_Letter.mk vy3.Letter.Id vy3.Letter.Slot vy3.Letter.Body vy3.Letter.Prio vy3.Letter.At vy3.Letter.Until) vr5 vy3.Tries vy3.Since)) vx2).bind fun vy4 =>
    (at? ((vx1.set vx2.toNat (api_Note.mk (api_Letter.mk vy3.Letter.Id vy3.Letter.Slot vy3.Letter.Body vy3.Letter.Prio vy3.Letter.At vy3.Letter.Until) vr5 vy3.Tries vy3.Since)).set vx2.toNat (api_Note.mk (api_Letter.mk vy4.Letter.Id vy4.Letter.Slot vy4.Letter.Body vy4.Letter.Prio vy4.Letter.At vy4.Letter.Until) vy4.State vr6 vy4.Since)) vx2).bind fun vy5 =>
    some (.inl (fleetmake_Stream.mk vs1.L (IntKind.wrap .i64 ((IntKind.wrap .i64 (vs1.at_ + 1)) + 1)), ((vx1.set vx2.toNat (api_Note.mk (api_Letter.mk vy3.Letter.Id vy3.Letter.Slot vy3.Letter.Body vy3.Letter.Prio vy3.Letter.At vy3.Letter.Until) vr5 vy3.Tries vy3.Since)).set vx2.toNat (api_Note.mk (api_Letter.mk vy4.Letter.Id vy4.Letter.Slot vy4.Letter.Body vy4.Letter.Prio vy4.Letter.At vy4.Letter.Until) vy4.State vr6 vy4.Since)).set vx2.toNat (api_Note.mk (api_Letter.mk vy5.Letter.Id vy5.Letter.Slot vy5.Letter.Body vy5.Letter.Prio vy5.Letter.At vy5.Letter.Until) vy5.State vy5.Tries vr7), IntKind.wrap .i64 (vx2 + 1))))
    (some (.inr vx1))

noncomputable def fleetlaw2_NotesMerge_x1 (vr18 : List api_Note) (vs8_1 : fleetmake_Stream) (vr18_1 : List api_Note) : Option ((List api_Note)) :=
  (fleetmake_Stream_Flip vs8_1 2).bind fun vr =>
  cond (vr)
    ((slices_Clone_api_Note_api_Note vr18).bind fun vr1 =>
    (loopO (fleetlaw2_NotesMerge_x2 vr1) (fleetmake_Stream.mk vs8_1.L (IntKind.wrap .i64 (vs8_1.at_ + 1)), vr1, 0)).bind fun vx3_1 =>
    some vx3_1)
    (some vr18_1)

noncomputable def fleetlaw2_NotesMerge_x3 (vr18 : List api_Note) (vx4_1 : List api_Note) (vr5_1 : Int) : Option ((Int × (List api_Note))) :=
  (fleetref2_NotesFault vx4_1).bind fun vr5_3 =>
  (fleetlaw2_errs ([vr5_1, vr5_3] : List Int)).bind fun vr8 =>
  cond (decide (vr8 = 0))
    ((fleetref2_NotesOf_o1 vr18 vx4_1).bind fun (vr7_1, vr8_1) =>
    some (vr8_1, vr7_1))
    (some (vr8, []))

noncomputable def fleetlaw2_NotesMerge_x4 (vr2_1 : List api_Note) (vr3_1 : Int) (vx5_1 : Int) (vx6_1 : List api_Note) : Option (Bool) :=
  cond (decide (vr3_1 = vx5_1))
    ((slices_Equal_api_Note_api_Note vr2_1 vx6_1).bind fun vr9 =>
    cond (vr9)
      ((fleetlaw2_posted).bind fun vr1_1 =>
      some vr1_1)
      (some false))
    (some false)

noncomputable def fleetlaw2_NotesMerge (qx : List Int) : Option (Bool) :=
  (fleetmake_Stream_Notes (fleetmake_Stream.mk qx 0)).bind fun (vs8, vr18) =>
  (fleetmake_Stream_Notes vs8).bind fun (vs8_1, vr18_1) =>
  (fleetlaw2_NotesMerge_x1 vr18 vs8_1 vr18_1).bind fun vx4_1 =>
  (command_Merge vr18 vx4_1).bind fun (vr2_1, vr3_1) =>
  (fleetref2_NotesFault vr18).bind fun vr5_1 =>
  (command_CheckNotes vr18).bind fun vr5_2 =>
  cond (!decide (vr5_2 = vr5_1))
    (some false)
    ((fleetlaw2_NotesMerge_x3 vr18 vx4_1 vr5_1).bind fun (vx5_1, vx6_1) =>
    (fleetlaw2_NotesMerge_x4 vr2_1 vr3_1 vx5_1 vx6_1).bind fun vx7_1 =>
    some vx7_1)

end Go.Eng
