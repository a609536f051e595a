/-
The Go functions that the law VersionsRead reaches, as plain functions.
-/
import Derived.Test.YtemhheohphinpaaDoorEngV

import Derived.Lib.ItoaNum

namespace Go.Eng

open Go

set_option linter.unusedVariables false

structure fleetmake_Stream where
  L : List Int
  at_ : Int

def fleetmake_Stream.enc (x : fleetmake_Stream) : List D := [.lst (List.map (encI .i64) x.L), .int .i64 x.at_]

structure api_Version where
  Major : Int
  Minor : Int
  Patch : Int

def api_Version.enc (x : api_Version) : List D := [.int .i64 x.Major, .int .i64 x.Minor, .int .i64 x.Patch]

structure api_Range where
  Low : api_Version
  High : api_Version

def api_Range.enc (x : api_Range) : List D := [.int .i64 x.Low.Major, .int .i64 x.Low.Minor, .int .i64 x.Low.Patch, .int .i64 x.High.Major, .int .i64 x.High.Minor, .int .i64 x.High.Patch]

structure api_Image where
  Version : api_Version
  Models : List (List UInt8)
  From : List api_Range
  Size : Int

def api_Image.enc (x : api_Image) : List D := [.int .i64 x.Version.Major, .int .i64 x.Version.Minor, .int .i64 x.Version.Patch, .lst (List.map encS x.Models), .lst (List.map api_Range.enc x.From), .int .i64 x.Size]

/-! ### beaconfleet/fleetmake.Below -/
noncomputable def fleetmake_Below_x1 (qx : Int) (qn : Int) : Option (Int) :=
  cond (decide ((qx.tmod qn) < 0))
    (some (IntKind.wrap .i64 ((qx.tmod qn) + qn)))
    (some (qx.tmod qn))

noncomputable def fleetmake_Below (qx : Int) (qn : Int) : Option (Int) :=
  cond (decide (qn < 1))
    (some 0)
    (gd (!(qn == 0)) <|
    (fleetmake_Below_x1 qx qn).bind fun vx1 =>
    some vx1)

/-! ### (*beaconfleet/fleetmake.Stream).Next -/
noncomputable def fleetmake_Stream_Next (qs : fleetmake_Stream) (qn : Int) : Option (Int) :=
  cond (decide ((qs.L.length : Int) = 0))
    ((fleetmake_Below (IntKind.wrap .i64 ((IntKind.wrap .i64 (qs.at_ + 1)) * 7919)) qn).bind fun vr =>
    some vr)
    (gd (!((qs.L.length : Int) == 0)) <|
    (at? qs.L ((IntKind.wrap .i64 ((IntKind.wrap .i64 (qs.at_ + 1)) - 1)).tmod (qs.L.length : Int))).bind fun vy =>
    (fleetmake_Below vy 1073741824).bind fun vr1 =>
    (fleetmake_Below (IntKind.wrap .i64 (vr1 + (IntKind.wrap .i64 ((IntKind.wrap .i64 ((IntKind.wrap .i64 ((IntKind.wrap .i64 (qs.at_ + 1)) - 1)).tdiv (qs.L.length : Int))) * (IntKind.wrap .i64 ((7919 : Int) + ((IntKind.wrap .i64 ((IntKind.wrap .i64 (qs.at_ + 1)) - 1)).tmod (qs.L.length : Int)))))))) qn).bind fun vr2 =>
    some vr2)

/-! ### (*beaconfleet/fleetmake.Stream).Range -/
noncomputable def fleetmake_Stream_Range (qs : fleetmake_Stream) (qlow : Int) (qhigh : Int) : Option (fleetmake_Stream × Int) :=
  cond (decide (qhigh < qlow))
    (some (qs, qlow))
    ((fleetmake_Stream_Next qs (IntKind.wrap .i64 ((IntKind.wrap .i64 (qhigh - qlow)) + 1))).bind fun vr3 =>
    some (fleetmake_Stream.mk qs.L (IntKind.wrap .i64 (qs.at_ + 1)), IntKind.wrap .i64 (qlow + vr3)))

/-! ### (*beaconfleet/fleetmake.Stream).Pick -/
noncomputable def fleetmake_Stream_Pick_o1 (qs : fleetmake_Stream) (ql : List Int) : Option (Int) :=
  (fleetmake_Stream_Next qs (ql.length : Int)).bind fun vr3 =>
  (at? ql vr3).bind fun vy =>
  some vy

/-! ### (*beaconfleet/fleetmake.Stream).RightVersion -/
noncomputable def fleetmake_Stream_RightVersion (qs : fleetmake_Stream) : Option (fleetmake_Stream × api_Version) :=
  (fleetmake_Stream_Range qs 1 4).bind fun (vs, vr) =>
  (fleetmake_Stream_Pick_o1 vs ([0, 0, 1, 5, 9999] : List Int)).bind fun vr1 =>
  (fleetmake_Stream_Pick_o1 (fleetmake_Stream.mk vs.L (IntKind.wrap .i64 (vs.at_ + 1))) ([0, 0, 0, 3, 9999] : List Int)).bind fun vr2 =>
  some (fleetmake_Stream.mk vs.L (IntKind.wrap .i64 ((IntKind.wrap .i64 (vs.at_ + 1)) + 1)), api_Version.mk vr vr1 vr2)

/-! ### (*beaconfleet/fleetmake.Stream).Flip -/
noncomputable def fleetmake_Stream_Flip (qs : fleetmake_Stream) (qn : Int) : Option (Bool) :=
  (fleetmake_Stream_Next qs qn).bind fun vr3 =>
  some (decide (vr3 = 0))

/-! ### (*beaconfleet/fleetmake.Stream).Odd -/
noncomputable def fleetmake_Stream_Odd (qs : fleetmake_Stream) (qlow : Int) (qhigh : Int) : Option (fleetmake_Stream × Int) :=
  (fleetmake_Stream_Flip qs 12).bind fun vr =>
  cond (vr)
    ((fleetmake_Stream_Pick_o1 (fleetmake_Stream.mk qs.L (IntKind.wrap .i64 (qs.at_ + 1))) ([IntKind.wrap .i64 (qlow - 1), IntKind.wrap .i64 (qhigh + 1), qlow, qhigh, (-1099511627776), 1099511627776] : List Int)).bind fun vr1 =>
    some (fleetmake_Stream.mk qs.L (IntKind.wrap .i64 ((IntKind.wrap .i64 (qs.at_ + 1)) + 1)), vr1))
    ((fleetmake_Stream_Range (fleetmake_Stream.mk qs.L (IntKind.wrap .i64 (qs.at_ + 1))) qlow qhigh).bind fun (vs, vr2) =>
    some (vs, vr2))

/-! ### (*beaconfleet/fleetmake.Stream).Version -/
noncomputable def fleetmake_Stream_Version_x1 (vs1 : fleetmake_Stream) (vr3 : api_Version) : Option ((fleetmake_Stream × api_Version)) :=
  (fleetmake_Stream_Flip vs1 30).bind fun vr =>
  cond (vr)
    ((fleetmake_Stream_Odd (fleetmake_Stream.mk vs1.L (IntKind.wrap .i64 (vs1.at_ + 1))) 0 9999).bind fun (vs1_1, vr3_1) =>
    (fleetmake_Stream_Odd vs1_1 0 9999).bind fun (vs1_2, vr3_2) =>
    some (vs1_2, api_Version.mk vr3.Major vr3_2 vr3_1))
    (some (fleetmake_Stream.mk vs1.L (IntKind.wrap .i64 (vs1.at_ + 1)), vr3))

noncomputable def fleetmake_Stream_Version (qs : fleetmake_Stream) : Option (fleetmake_Stream × api_Version) :=
  (fleetmake_Stream_RightVersion qs).bind fun (vs1, vr3) =>
  (fleetmake_Stream_Version_x1 vs1 vr3).bind fun (vs2, vv1) =>
  some (vs2, vv1)

/-! ### strconv.Itoa -/
noncomputable def strconv_Itoa (qi : Int) : Option (List UInt8) :=
  gd (decide (-9223372036854775808 ≤ qi) && decide (qi ≤ 9223372036854775807)) (some (Lib.itoa qi))

/-! ### beaconfleet/fleetref2.VersionLine -/
noncomputable def fleetref2_VersionLine (qv : api_Version) : Option ((List UInt8)) :=
  (strconv_Itoa qv.Major).bind fun vr =>
  gd (Nat.ble (vr.length + ([46] : List UInt8).length) LIM) <|
  (strconv_Itoa qv.Minor).bind fun vr1 =>
  gd (Nat.ble ((vr ++ ([46] : List UInt8)).length + vr1.length) LIM) <|
  gd (Nat.ble (((vr ++ ([46] : List UInt8)) ++ vr1).length + ([46] : List UInt8).length) LIM) <|
  (strconv_Itoa qv.Patch).bind fun vr2 =>
  gd (Nat.ble ((((vr ++ ([46] : List UInt8)) ++ vr1) ++ ([46] : List UInt8)).length + vr2.length) LIM) <|
  some ((((vr ++ ([46] : List UInt8)) ++ vr1) ++ ([46] : List UInt8)) ++ vr2)

/-! ### (*beaconfleet/fleetmake.Stream).Some -/
noncomputable def fleetmake_Stream_Some_o1 (qs : fleetmake_Stream) (ql : List (List UInt8)) : Option ((List UInt8)) :=
  (fleetmake_Stream_Next qs (ql.length : Int)).bind fun vr3 =>
  (at? ql vr3).bind fun vy =>
  some vy

/-! ### (*beaconfleet/fleetmake.Stream).Changed -/
noncomputable def fleetmake_Stream_Changed_x1 (qt : List UInt8) (qwith : List UInt8) : Option (Bool) :=
  cond (decide (qt = ([] : List UInt8)))
    (some true)
    (some (decide (qwith = ([] : List UInt8))))

noncomputable def fleetmake_Stream_Changed (qs : fleetmake_Stream) (qt : List UInt8) (qwith : List UInt8) : Option (fleetmake_Stream × (List UInt8)) :=
  (fleetmake_Stream_Changed_x1 qt qwith).bind fun vx1 =>
  cond (vx1)
    (some (qs, qwith))
    ((fleetmake_Stream_Next qs (qt.length : Int)).bind fun vr3 =>
    (fleetmake_Stream_Next (fleetmake_Stream.mk qs.L (IntKind.wrap .i64 (qs.at_ + 1))) (qwith.length : Int)).bind fun vr3_1 =>
    (at? qwith vr3_1).bind fun vc =>
    (fleetmake_Stream_Next (fleetmake_Stream.mk qs.L (IntKind.wrap .i64 ((IntKind.wrap .i64 (qs.at_ + 1)) + 1))) 3).bind fun vr3_2 =>
    cond (decide (vr3_2 = 0))
      ((sub? qt 0 vr3).bind fun vs =>
      gd (Nat.ble (vs.length + (runeS (IntKind.wrap .i32 ((vc.toNat : Int)))).length) LIM) <|
      (sub? qt (IntKind.wrap .i64 (vr3 + 1)) (qt.length : Int)).bind fun vs1 =>
      gd (Nat.ble ((vs ++ (runeS (IntKind.wrap .i32 ((vc.toNat : Int))))).length + vs1.length) LIM) <|
      some (fleetmake_Stream.mk qs.L (IntKind.wrap .i64 ((IntKind.wrap .i64 ((IntKind.wrap .i64 (qs.at_ + 1)) + 1)) + 1)), (vs ++ (runeS (IntKind.wrap .i32 ((vc.toNat : Int))))) ++ vs1))
      (cond (decide (vr3_2 = 1))
        ((sub? qt 0 vr3).bind fun vs2 =>
        gd (Nat.ble (vs2.length + (runeS (IntKind.wrap .i32 ((vc.toNat : Int)))).length) LIM) <|
        (sub? qt vr3 (qt.length : Int)).bind fun vs3 =>
        gd (Nat.ble ((vs2 ++ (runeS (IntKind.wrap .i32 ((vc.toNat : Int))))).length + vs3.length) LIM) <|
        some (fleetmake_Stream.mk qs.L (IntKind.wrap .i64 ((IntKind.wrap .i64 ((IntKind.wrap .i64 (qs.at_ + 1)) + 1)) + 1)), (vs2 ++ (runeS (IntKind.wrap .i32 ((vc.toNat : Int))))) ++ vs3))
        ((sub? qt 0 vr3).bind fun vs4 =>
        (sub? qt (IntKind.wrap .i64 (vr3 + 1)) (qt.length : Int)).bind fun vs5 =>
        gd (Nat.ble (vs4.length + vs5.length) LIM) <|
        some (fleetmake_Stream.mk qs.L (IntKind.wrap .i64 ((IntKind.wrap .i64 ((IntKind.wrap .i64 (qs.at_ + 1)) + 1)) + 1)), vs4 ++ vs5))))

/-! ### (*beaconfleet/fleetmake.Stream).VersionText -/
noncomputable def fleetmake_Stream_VersionText_x1 (vs1 : fleetmake_Stream) (vr3_1 : List UInt8) : Option ((fleetmake_Stream × (List UInt8))) :=
  (fleetmake_Stream_Flip vs1 6).bind fun vr =>
  cond (vr)
    ((fleetmake_Stream_Some_o1 (fleetmake_Stream.mk vs1.L (IntKind.wrap .i64 (vs1.at_ + 1))) ([([49, 46, 50] : List UInt8), ([49, 46, 50, 46, 51, 46, 52] : List UInt8), ([48, 49, 46, 50, 46, 51] : List UInt8), ([49, 46, 50, 46, 49, 48, 48, 48, 48] : List UInt8), ([49, 46, 46, 50] : List UInt8), ([] : List UInt8), ([45, 49, 46, 48, 46, 48] : List UInt8), ([49, 46, 50, 46, 120] : List UInt8)] : List (List UInt8))).bind fun vr1 =>
    some (fleetmake_Stream.mk vs1.L (IntKind.wrap .i64 ((IntKind.wrap .i64 (vs1.at_ + 1)) + 1)), vr1))
    (some (fleetmake_Stream.mk vs1.L (IntKind.wrap .i64 (vs1.at_ + 1)), vr3_1))

noncomputable def fleetmake_Stream_VersionText_x2 (vr2 : Int) : fleetmake_Stream × (List UInt8) × Int → Option ((fleetmake_Stream × (List UInt8) × Int) ⊕ ((fleetmake_Stream × (List UInt8))))
  | (vs3, vt2, vx) =>
  cond (decide (vx < vr2))
    ((fleetmake_Stream_Changed vs3 vt2 ([48, 49, 50, 51, 46] : List UInt8)).bind fun (vs6_1, vr5) =>
    some (.inl (vs6_1, vr5, IntKind.wrap .i64 (vx + 1))))
    (some (.inr (vs3, vt2)))

noncomputable def fleetmake_Stream_VersionText (qs : fleetmake_Stream) : Option (fleetmake_Stream × (List UInt8)) :=
  (fleetmake_Stream_RightVersion qs).bind fun (vs1, vr3) =>
  (fleetref2_VersionLine vr3).bind fun vr3_1 =>
  (fleetmake_Stream_VersionText_x1 vs1 vr3_1).bind fun (vs2, vt1) =>
  (fleetmake_Stream_Pick_o1 vs2 ([0, 0, 0, 1] : List Int)).bind fun vr2 =>
  (loopO (fleetmake_Stream_VersionText_x2 vr2) (fleetmake_Stream.mk vs2.L (IntKind.wrap .i64 (vs2.at_ + 1)), vt1, 0)).bind fun (vs4_1, vt3_1) =>
  some (vs4_1, vt3_1)

/-! ### beaconfleet/fleetmake.whole -/
noncomputable def fleetmake_whole (qn : Int) : Option (Unit) :=
  some ()

/-! ### cmp.isNaN[int] -/
noncomputable def cmp_isNaN_int (qx : Int) : Option (Unit) :=
  some ()

/-! ### cmp.Compare[int] -/
noncomputable def cmp_Compare_int (qx : Int) (qy : Int) : Option (Int) :=
  (cmp_isNaN_int qx).bind fun _ =>
  (cmp_isNaN_int qy).bind fun _ =>
  cond (!decide (qx = qx))
    (cond (!decide (qy = qy))
      (some 0)
      (some (-1)))
    (cond (!decide (qy = qy))
      (some 1)
      (cond (decide (qx < qy))
        (some (-1))
        (cond (decide (qy < qx))
          (some 1)
          (some 0))))

/-! ### slices.Compare[[]int,int] -/
noncomputable def slices_Compare_int_int_x1 (qs1 : List Int) (qs2 : List Int) (vx : Int) : Option ((Int) ⊕ (Unit ⊕ Int)) :=
  cond (decide (vx < (qs1.length : Int)))
    ((at? qs1 vx).bind fun vy2 =>
    cond (decide ((qs2.length : Int) ≤ vx))
      (some (.inr (.inr 1)))
      ((at? qs2 vx).bind fun vy3 =>
      (cmp_Compare_int vy2 vy3).bind fun vr1 =>
      cond (!decide (vr1 = 0))
        (some (.inr (.inr vr1)))
        (some (.inl (IntKind.wrap .i64 (vx + 1))))))
    (some (.inr (.inl ())))

noncomputable def slices_Compare_int_int (qs1 : List Int) (qs2 : List Int) : Option (Int) :=
  (loopO (slices_Compare_int_int_x1 qs1 qs2) 0).bind fun x => match x with
    | .inl _ =>
      cond (decide ((qs1.length : Int) < (qs2.length : Int)))
        (some (-1))
        (some 0)
    | .inr vx1_1 =>
      some vx1_1

/-! ### beaconfleet/fleetref2.VersionOrder -/
noncomputable def fleetref2_VersionOrder (qa : api_Version) (qb : api_Version) : Option (Int) :=
  (slices_Compare_int_int ([qa.Major, qa.Minor, qa.Patch] : List Int) ([qb.Major, qb.Minor, qb.Patch] : List Int)).bind fun vr2 =>
  some vr2

/-! ### (*beaconfleet/fleetmake.Stream).RightImages -/
noncomputable def fleetmake_Stream_RightImages_x5 (vy9 : Int) (vs10 : fleetmake_Stream) : Option (Bool) :=
  (fleetmake_Stream_Flip (fleetmake_Stream.mk vs10.L (IntKind.wrap .i64 (vs10.at_ + 1))) 4).bind fun vr23 =>
  cond (vr23)
    (some (decide (vy9 = 5)))
    (some false)

noncomputable def fleetmake_Stream_RightImages_x4 (vx1 : Int) (vy9 : Int) (vs10 : fleetmake_Stream) (vr21 : Int) (vr22 : Int) : Option (((List api_Range) × api_Range)) :=
  (fleetmake_Stream_RightImages_x5 vy9 vs10).bind fun vx25_1 =>
  cond (vx25_1)
    ((fleetmake_whole vr21).bind fun _ =>
    (fleetmake_whole vx1).bind fun _ =>
    some (([api_Range.mk (api_Version.mk vr21 0 0) (api_Version.mk vr21 0 0)] : List api_Range), api_Range.mk (api_Version.mk vx1 0 0) (api_Version.mk vx1 4 9999)))
    (some ([], api_Range.mk (api_Version.mk vr21 0 0) (api_Version.mk (IntKind.wrap .i64 (vx1 - 1)) vr22 9999)))

noncomputable def fleetmake_Stream_RightImages_x7 (vx26_1 : List api_Range) (vx27_1 : api_Range) : Option (Bool) :=
  cond (decide ((vx26_1.length : Int) = 0))
    (some true)
    ((at? vx26_1 0).bind fun vy11 =>
    (fleetref2_VersionOrder (api_Version.mk vy11.High.Major vy11.High.Minor vy11.High.Patch) (api_Version.mk vx27_1.Low.Major vx27_1.Low.Minor vx27_1.Low.Patch)).bind fun vr24 =>
    some (decide (vr24 < 0)))

noncomputable def fleetmake_Stream_RightImages_x6 (vx26_1 : List api_Range) (vx27_1 : api_Range) : Option ((List api_Range)) :=
  (fleetmake_Stream_RightImages_x7 vx26_1 vx27_1).bind fun vx28_1 =>
  cond (vx28_1)
    (gd (Nat.ble (vx26_1.length + ([api_Range.mk (api_Version.mk vx27_1.Low.Major vx27_1.Low.Minor vx27_1.Low.Patch) (api_Version.mk vx27_1.High.Major vx27_1.High.Minor vx27_1.High.Patch)] : List api_Range).length) LIM) <|
    some (vx26_1 ++ ([api_Range.mk (api_Version.mk vx27_1.Low.Major vx27_1.Low.Minor vx27_1.Low.Patch) (api_Version.mk vx27_1.High.Major vx27_1.High.Minor vx27_1.High.Patch)] : List api_Range)))
    (some vx26_1)

noncomputable def fleetmake_Stream_RightImages_x3 (vx1 : Int) (vs7 : fleetmake_Stream) (vx17 : List api_Image) (vx18 : Int) : Option ((fleetmake_Stream × (List api_Image))) :=
  (at? ([0, 5] : List Int) vx18).bind fun vy9 =>
  (fleetmake_Stream_Flip vs7 2).bind fun vr19 =>
  cond (vr19)
    (some (fleetmake_Stream.mk vs7.L (IntKind.wrap .i64 (vs7.at_ + 1)), vx17))
    ((fleetmake_Stream_Next (fleetmake_Stream.mk vs7.L (IntKind.wrap .i64 (vs7.at_ + 1))) 4).bind fun vr3_3 =>
    (at? ([([([109] : List UInt8)] : List (List UInt8)), ([([109] : List UInt8)] : List (List UInt8)), ([([109] : List UInt8), ([110] : List UInt8)] : List (List UInt8)), ([([110] : List UInt8)] : List (List UInt8))] : List (List (List UInt8))) vr3_3).bind fun vy10 =>
    (fleetmake_Stream_Pick_o1 (fleetmake_Stream.mk vs7.L (IntKind.wrap .i64 ((IntKind.wrap .i64 (vs7.at_ + 1)) + 1))) ([1, 5, 5, 10] : List Int)).bind fun vr20 =>
    (fleetmake_Stream_Range (fleetmake_Stream.mk vs7.L (IntKind.wrap .i64 ((IntKind.wrap .i64 ((IntKind.wrap .i64 (vs7.at_ + 1)) + 1)) + 1))) 1 (IntKind.wrap .i64 (vx1 - 1))).bind fun (vs10, vr21) =>
    (fleetmake_whole vr21).bind fun _ =>
    (fleetmake_Stream_Pick_o1 vs10 ([0, 5, 9999] : List Int)).bind fun vr22 =>
    (fleetmake_Stream_RightImages_x4 vx1 vy9 vs10 vr21 vr22).bind fun (vx26_1, vx27_1) =>
    (fleetmake_Stream_RightImages_x6 vx26_1 vx27_1).bind fun vx29_1 =>
    gd (Nat.ble (vx17.length + ([api_Image.mk (api_Version.mk vx1 vy9 0) vy10 vx29_1 vr20] : List api_Image).length) LIM) <|
    some (fleetmake_Stream.mk vs10.L (IntKind.wrap .i64 ((IntKind.wrap .i64 (vs10.at_ + 1)) + 1)), vx17 ++ ([api_Image.mk (api_Version.mk vx1 vy9 0) vy10 vx29_1 vr20] : List api_Image)))

noncomputable def fleetmake_Stream_RightImages_x2 (vx1 : Int) : fleetmake_Stream × (List api_Image) × Int → Option ((fleetmake_Stream × (List api_Image) × Int) ⊕ ((fleetmake_Stream × (List api_Image))))
  | (vs7, vx17, vx18) =>
  cond (decide (vx18 < (([0, 5] : List Int).length : Int)))
    ((fleetmake_Stream_RightImages_x3 vx1 vs7 vx17 vx18).bind fun (vs11_1, vx30_1) =>
    some (.inl (vs11_1, vx30_1, IntKind.wrap .i64 (vx18 + 1))))
    (some (.inr (vs7, vx17)))

noncomputable def fleetmake_Stream_RightImages_x1 : fleetmake_Stream × (List api_Image) × Int → Option ((fleetmake_Stream × (List api_Image) × Int) ⊕ ((fleetmake_Stream × (List api_Image))))
  | (vs, vx, vx1) =>
  cond (decide (vx1 ≤ 5))
    ((loopO (fleetmake_Stream_RightImages_x2 vx1) (vs, vx, 0)).bind fun (vs12_1, vx31_1) =>
    some (.inl (vs12_1, vx31_1, IntKind.wrap .i64 (vx1 + 1))))
    (some (.inr (vs, vx)))

noncomputable def fleetmake_Stream_RightImages (qx : fleetmake_Stream) : Option (fleetmake_Stream × (List api_Image)) :=
  (loopO fleetmake_Stream_RightImages_x1 (qx, [], 2)).bind fun (vs13_1, vx32_1) =>
  some (vs13_1, vx32_1)

/-! ### slices.Clone[[]beaconfleet/api.Range,beaconfleet/api.Range] -/
noncomputable def slices_Clone_api_Range_api_Range (qs : List api_Range) : Option (List api_Range) :=
  gd (Nat.ble (([] : List api_Range).length + qs.length) LIM) (some qs)

/-! ### (*beaconfleet/fleetmake.Stream).Images -/
noncomputable def fleetmake_Stream_Images_x2 (vs14 : fleetmake_Stream) (vr25 : List api_Image) : Option ((fleetmake_Stream × Bool)) :=
  cond (decide (0 < (vr25.length : Int)))
    ((fleetmake_Stream_Flip vs14 10).bind fun vr =>
    some (fleetmake_Stream.mk vs14.L (IntKind.wrap .i64 (vs14.at_ + 1)), vr))
    (some (vs14, false))

noncomputable def fleetmake_Stream_Images_x1 (vs14 : fleetmake_Stream) (vr25 : List api_Image) : Option ((fleetmake_Stream × (List api_Image))) :=
  (fleetmake_Stream_Images_x2 vs14 vr25).bind fun (vs1, vx1) =>
  cond (vx1)
    ((fleetmake_Stream_Next vs1 (vr25.length : Int)).bind fun vr3 =>
    (at? vr25 vr3).bind fun vy =>
    (fleetmake_Stream_Next (fleetmake_Stream.mk vs1.L (IntKind.wrap .i64 (vs1.at_ + 1))) 5).bind fun vr3_1 =>
    cond (decide (vr3_1 = 0))
      ((fleetmake_Stream_Version (fleetmake_Stream.mk vs1.L (IntKind.wrap .i64 ((IntKind.wrap .i64 (vs1.at_ + 1)) + 1)))).bind fun (vs3, vr1) =>
      some (vs3, vr25.set vr3.toNat (api_Image.mk vr1 vy.Models vy.From vy.Size)))
      (cond (decide (vr3_1 = 1))
        ((fleetmake_Stream_Next (fleetmake_Stream.mk vs1.L (IntKind.wrap .i64 ((IntKind.wrap .i64 (vs1.at_ + 1)) + 1))) 4).bind fun vr3_2 =>
        (at? ([[], ([([110] : List UInt8), ([109] : List UInt8)] : List (List UInt8)), ([([] : List UInt8)] : List (List UInt8)), ([([109] : List UInt8), ([109] : List UInt8)] : List (List UInt8))] : List (List (List UInt8))) vr3_2).bind fun vy1 =>
        some (fleetmake_Stream.mk vs1.L (IntKind.wrap .i64 ((IntKind.wrap .i64 ((IntKind.wrap .i64 (vs1.at_ + 1)) + 1)) + 1)), vr25.set vr3.toNat (api_Image.mk (api_Version.mk vy.Version.Major vy.Version.Minor vy.Version.Patch) vy1 vy.From vy.Size)))
        (cond (decide (vr3_1 = 2))
          ((slices_Clone_api_Range_api_Range vy.From).bind fun vr2 =>
          (fleetmake_Stream_Version (fleetmake_Stream.mk vs1.L (IntKind.wrap .i64 ((IntKind.wrap .i64 (vs1.at_ + 1)) + 1)))).bind fun (vs3_1, vr1_1) =>
          (fleetmake_Stream_Version vs3_1).bind fun (vs3_2, vr1_2) =>
          gd (Nat.ble (vr2.length + ([api_Range.mk vr1_1 vr1_2] : List api_Range).length) LIM) <|
          some (vs3_2, vr25.set vr3.toNat (api_Image.mk (api_Version.mk vy.Version.Major vy.Version.Minor vy.Version.Patch) vy.Models (vr2 ++ ([api_Range.mk vr1_1 vr1_2] : List api_Range)) vy.Size)))
          (cond (decide (vr3_1 = 3))
            (some (fleetmake_Stream.mk vs1.L (IntKind.wrap .i64 ((IntKind.wrap .i64 (vs1.at_ + 1)) + 1)), vr25.set vr3.toNat (api_Image.mk (api_Version.mk vy.Version.Major vy.Version.Minor vy.Version.Patch) vy.Models ([api_Range.mk (api_Version.mk vy.Version.Major vy.Version.Minor vy.Version.Patch) (api_Version.mk vy.Version.Major vy.Version.Minor vy.Version.Patch)] : List api_Range) vy.Size)))
            ((fleetmake_Stream_Odd (fleetmake_Stream.mk vs1.L (IntKind.wrap .i64 ((IntKind.wrap .i64 (vs1.at_ + 1)) + 1))) 1 100).bind fun (vs1_1, vr3_3) =>
            some (vs1_1, vr25.set vr3.toNat (api_Image.mk (api_Version.mk vy.Version.Major vy.Version.Minor vy.Version.Patch) vy.Models vy.From vr3_3)))))))
    (some (vs1, vr25))

noncomputable def fleetmake_Stream_Images (qx : fleetmake_Stream) : Option (fleetmake_Stream × (List api_Image)) :=
  (fleetmake_Stream_RightImages qx).bind fun (vs14, vr25) =>
  (fleetmake_Stream_Images_x1 vs14 vr25).bind fun (vs2_1, vx2_1) =>
  some (vs2_1, vx2_1)

/-! ### beaconfleet/base.Out -/
noncomputable def base_Out_x1 (qn : Int) (qlow : Int) (qhigh : Int) : Option (Bool) :=
  cond (decide (qn < qlow))
    (some true)
    (some (decide (qhigh < qn)))

noncomputable def base_Out (qn : Int) (qlow : Int) (qhigh : Int) : Option (Bool) :=
  (base_Out_x1 qn qlow qhigh).bind fun vx1 =>
  some vx1

/-! ### beaconfleet/base.Version -/
noncomputable def base_Version_x1 (qv : api_Version) : Option (Bool) :=
  (base_Out qv.Major 0 9999).bind fun vr =>
  cond (!vr)
    ((base_Out qv.Minor 0 9999).bind fun vr1 =>
    cond (!vr1)
      ((base_Out qv.Patch 0 9999).bind fun vr2 =>
      some (!vr2))
      (some false))
    (some false)

noncomputable def base_Version (qv : api_Version) : Option (Bool) :=
  (base_Version_x1 qv).bind fun vx1 =>
  some vx1

/-! ### beaconfleet/campaign.versionFault -/
noncomputable def campaign_versionFault (qv : api_Version) : Option (Int) :=
  (base_Version qv).bind fun vr3 =>
  cond (!vr3)
    (some 1)
    (some 0)

/-! ### beaconfleet/campaign.VersionText -/
noncomputable def campaign_VersionText (qv : api_Version) : Option ((List UInt8) × Int) :=
  (campaign_versionFault qv).bind fun vr =>
  cond (!decide (vr = 0))
    (some (([] : List UInt8), vr))
    ((strconv_Itoa qv.Major).bind fun vr1 =>
    gd (Nat.ble (vr1.length + ([46] : List UInt8).length) LIM) <|
    (strconv_Itoa qv.Minor).bind fun vr2 =>
    gd (Nat.ble ((vr1 ++ ([46] : List UInt8)).length + vr2.length) LIM) <|
    gd (Nat.ble (((vr1 ++ ([46] : List UInt8)) ++ vr2).length + ([46] : List UInt8).length) LIM) <|
    (strconv_Itoa qv.Patch).bind fun vr3 =>
    gd (Nat.ble ((((vr1 ++ ([46] : List UInt8)) ++ vr2) ++ ([46] : List UInt8)).length + vr3.length) LIM) <|
    some ((((vr1 ++ ([46] : List UInt8)) ++ vr2) ++ ([46] : List UInt8)) ++ vr3, 0))

/-! ### beaconfleet/fleetref2.in -/
noncomputable def fleetref2_in_x1 (qn : Int) (qlow : Int) (qhigh : Int) : Option (Bool) :=
  cond (decide (qlow ≤ qn))
    (some (decide (qn ≤ qhigh)))
    (some false)

noncomputable def fleetref2_in (qn : Int) (qlow : Int) (qhigh : Int) : Option (Bool) :=
  (fleetref2_in_x1 qn qlow qhigh).bind fun vx1 =>
  some vx1

/-! ### beaconfleet/fleetref2.versionFault -/
noncomputable def fleetref2_versionFault_x1 (qv : api_Version) : Option (Bool) :=
  (fleetref2_in qv.Major 0 9999).bind fun vr =>
  cond (!vr)
    (some true)
    ((fleetref2_in qv.Minor 0 9999).bind fun vr1 =>
    cond (!vr1)
      (some true)
      ((fleetref2_in qv.Patch 0 9999).bind fun vr2 =>
      some (!vr2)))

noncomputable def fleetref2_versionFault (qv : api_Version) : Option (Int) :=
  (fleetref2_versionFault_x1 qv).bind fun vx1 =>
  cond (vx1)
    (some 1)
    (some 0)

/-! ### beaconfleet/fleetref2.VersionFault -/
noncomputable def fleetref2_VersionFault (qv : api_Version) : Option (Int) :=
  (fleetref2_versionFault qv).bind fun vr3 =>
  some vr3

/-! ### unicode/utf8.RuneCountInString -/
noncomputable def utf8_RuneCountInString_x1 (qs : List UInt8) : Nat × Int → Option ((Nat × Int) ⊕ (Int))
  | (vpos, vn) =>
  cond (decide (vpos < qs.length))
    ((some (dec qs vpos)).bind fun vd1 =>
    some (.inl ((vpos + vd1.2 : Nat), IntKind.wrap .i64 (vn + 1))))
    (some (.inr vn))

noncomputable def utf8_RuneCountInString (qs : List UInt8) : Option (Int) :=
  (loopO (utf8_RuneCountInString_x1 qs) ((0 : Nat), 0)).bind fun vn1_1 =>
  some vn1_1

/-! ### unicode/utf8.decodeRuneInStringSlow -/
noncomputable def utf8_decodeRuneInStringSlow (qx : List UInt8) : Option (Unit) :=
  cond (decide ((qx.length : Int) < 1))
    (some ())
    ((at? qx 0).bind fun vc =>
    none)

/-! ### unicode/utf8.DecodeRuneInString -/
noncomputable def utf8_DecodeRuneInString_x1 (qs : List UInt8) : Option (Bool) :=
  cond (!decide (qs = ([] : List UInt8)))
    ((at? qs 0).bind fun vc =>
    some (decide ((vc.toNat : Int) < 128)))
    (some false)

noncomputable def utf8_DecodeRuneInString (qs : List UInt8) : Option (Int × Int) :=
  (utf8_DecodeRuneInString_x1 qs).bind fun vx1 =>
  cond (vx1)
    ((at? qs 0).bind fun vc1 =>
    some (IntKind.wrap .i32 ((vc1.toNat : Int)), 1))
    ((utf8_decodeRuneInStringSlow qs).bind fun _ =>
    some (65533, 0))

/-! ### strings.explode -/
noncomputable def strings_explode_x2 (qn : Int) (vr : Int) : Option (Bool) :=
  cond (decide (qn < 0))
    (some true)
    (some (decide (vr < qn)))

noncomputable def strings_explode_x1 (qn : Int) (vr : Int) : Option (Int) :=
  (strings_explode_x2 qn vr).bind fun vx1 =>
  cond (vx1)
    (some vr)
    (some qn)

noncomputable def strings_explode_x3 (vn1 : Int) : (List UInt8) × (List (List UInt8)) × Int → Option (((List UInt8) × (List (List UInt8)) × Int) ⊕ (((List UInt8) × (List (List UInt8)))))
  | (vs, va, vi) =>
  cond (decide (vi < (IntKind.wrap .i64 (vn1 - 1))))
    ((utf8_DecodeRuneInString vs).bind fun (vr2, vr1_2) =>
    (sub? vs 0 vr1_2).bind fun vs3 =>
    (at? va vi).bind fun vy1 =>
    (sub? vs vr1_2 (vs.length : Int)).bind fun vs4 =>
    some (.inl (vs4, va.set vi.toNat vs3, IntKind.wrap .i64 (vi + 1))))
    (some (.inr (vs, va)))

noncomputable def strings_explode_x4 (vn1 : Int) (vs5_1 : List UInt8) (va1_1 : List (List UInt8)) : Option ((List (List UInt8))) :=
  cond (decide (0 < vn1))
    ((at? va1_1 (IntKind.wrap .i64 (vn1 - 1))).bind fun vy2 =>
    some (va1_1.set (IntKind.wrap .i64 (vn1 - 1)).toNat vs5_1))
    (some va1_1)

noncomputable def strings_explode (qs : List UInt8) (qn : Int) : Option ((List (List UInt8))) :=
  (utf8_RuneCountInString qs).bind fun vr =>
  (strings_explode_x1 qn vr).bind fun vn1 =>
  gd (decide (0 ≤ vn1) && decide (vn1 ≤ vn1) && decide (vn1 ≤ 137438953472)) <|
  (loopO (strings_explode_x3 vn1) (qs, List.replicate vn1.toNat ([] : List UInt8), 0)).bind fun (vs5_1, va1_1) =>
  (strings_explode_x4 vn1 vs5_1 va1_1).bind fun va2_1 =>
  some va2_1

/-! ### internal/stringslite.IndexByte -/
noncomputable def stringslite_IndexByte (qs : List UInt8) (qc : Int) : Option (Unit) :=
  some ()

/-! ### internal/stringslite.Index -/
noncomputable def stringslite_Index_x1 (qx : List UInt8) (qx1 : List UInt8) : Option (Bool) :=
  cond (decide ((qx1.length : Int) = 0))
    (some true)
    (some (decide (qx1 = qx)))

noncomputable def stringslite_Index (qx : List UInt8) (qx1 : List UInt8) : Option (Int) :=
  (stringslite_Index_x1 qx qx1).bind fun vx1 =>
  cond (vx1)
    (some 0)
    (cond (decide ((qx1.length : Int) = 1))
      ((at? qx1 0).bind fun vc =>
      (stringslite_IndexByte qx (vc.toNat : Int)).bind fun _ =>
      some (Lib.indexByte qx (vc.toNat : Int).toNat.toUInt8))
      (cond (decide ((qx.length : Int) ≤ (qx1.length : Int)))
        (some (-1))
        (none)))

/-! ### strings.Index -/
noncomputable def strings_Index (qs : List UInt8) (qsubstr : List UInt8) : Option (Int) :=
  (stringslite_Index qs qsubstr).bind fun vr =>
  some vr

/-! ### strings.Count -/
noncomputable def strings_Count_x1 (qsubstr : List UInt8) : (List UInt8) × Int → Option (((List UInt8) × Int) ⊕ (Int))
  | (vs, vn) =>
  (strings_Index vs qsubstr).bind fun vr1_1 =>
  cond (decide (vr1_1 = (-1)))
    (some (.inr vn))
    ((sub? vs (IntKind.wrap .i64 (vr1_1 + (qsubstr.length : Int))) (vs.length : Int)).bind fun vs2 =>
    some (.inl (vs2, IntKind.wrap .i64 (vn + 1))))

noncomputable def strings_Count (qs : List UInt8) (qsubstr : List UInt8) : Option (Int) :=
  cond (decide ((qsubstr.length : Int) = 0))
    ((utf8_RuneCountInString qs).bind fun vr =>
    some (IntKind.wrap .i64 (vr + 1)))
    (cond (decide ((qsubstr.length : Int) = 1))
      ((at? qsubstr 0).bind fun vc =>
      some (countB qs (vc.toNat : Int).toNat.toUInt8))
      ((loopO (strings_Count_x1 qsubstr) (qs, 0)).bind fun vx1 =>
      some vx1))

/-! ### strings.genSplit -/
noncomputable def strings_genSplit_x1 (qx : List UInt8) (qx1 : List UInt8) (qx3 : Int) : Option (Int) :=
  cond (decide (qx3 < 0))
    ((strings_Count qx qx1).bind fun vr2 =>
    some (IntKind.wrap .i64 (vr2 + 1)))
    (some qx3)

noncomputable def strings_genSplit_x2 (qx : List UInt8) (qx1 : List UInt8) (qx2 : Int) (vx1 : Int) : (List UInt8) × (List (List UInt8)) × Int → Option (((List UInt8) × (List (List UInt8)) × Int) ⊕ (((List UInt8) × (List (List UInt8)) × Int)))
  | (vx2, vx3, vx4) =>
  cond (decide (vx4 < (IntKind.wrap .i64 ((imin vx1 (IntKind.wrap .i64 ((qx.length : Int) + 1))) - 1))))
    ((strings_Index vx2 qx1).bind fun vr1_1 =>
    cond (decide (vr1_1 < 0))
      (some (.inr (vx2, vx3, vx4)))
      ((sub? vx2 0 (IntKind.wrap .i64 (vr1_1 + qx2))).bind fun vs2 =>
      (at? vx3 vx4).bind fun vy1 =>
      (sub? vx2 (IntKind.wrap .i64 (vr1_1 + (qx1.length : Int))) (vx2.length : Int)).bind fun vs3 =>
      some (.inl (vs3, vx3.set vx4.toNat vs2, IntKind.wrap .i64 (vx4 + 1)))))
    (some (.inr (vx2, vx3, vx4)))

noncomputable def strings_genSplit (qx : List UInt8) (qx1 : List UInt8) (qx2 : Int) (qx3 : Int) : Option ((List (List UInt8))) :=
  cond (decide (qx3 = 0))
    (some [])
    (cond (decide (qx1 = ([] : List UInt8)))
      ((strings_explode qx qx3).bind fun vr3 =>
      some vr3)
      ((strings_genSplit_x1 qx qx1 qx3).bind fun vx1 =>
      gd (decide (0 ≤ (imin vx1 (IntKind.wrap .i64 ((qx.length : Int) + 1)))) && decide ((imin vx1 (IntKind.wrap .i64 ((qx.length : Int) + 1))) ≤ (imin vx1 (IntKind.wrap .i64 ((qx.length : Int) + 1)))) && decide ((imin vx1 (IntKind.wrap .i64 ((qx.length : Int) + 1))) ≤ 137438953472)) <|
      (loopO (strings_genSplit_x2 qx qx1 qx2 vx1) (qx, List.replicate (imin vx1 (IntKind.wrap .i64 ((qx.length : Int) + 1))).toNat ([] : List UInt8), 0)).bind fun (vx5_1, vx6_1, vx7_1) =>
      (at? vx6_1 vx7_1).bind fun vy2 =>
      gd (decide (0 ≤ (IntKind.wrap .i64 (vx7_1 + 1))) && decide ((IntKind.wrap .i64 (vx7_1 + 1)) ≤ ((vx6_1.set vx7_1.toNat vx5_1).length : Int))) <|
      some ((vx6_1.set vx7_1.toNat vx5_1).take (IntKind.wrap .i64 (vx7_1 + 1)).toNat)))

/-! ### strings.Split -/
noncomputable def strings_Split (qs : List UInt8) (qsep : List UInt8) : Option ((List (List UInt8))) :=
  (strings_genSplit qs qsep 0 (-1)).bind fun vr =>
  some vr

/-! ### internal/stringslite.HasPrefix -/
noncomputable def stringslite_HasPrefix_x1 (qs : List UInt8) (qprefix : List UInt8) : Option (Bool) :=
  cond (decide ((qprefix.length : Int) ≤ (qs.length : Int)))
    ((sub? qs 0 (qprefix.length : Int)).bind fun vs =>
    some (decide (vs = qprefix)))
    (some false)

noncomputable def stringslite_HasPrefix (qs : List UInt8) (qprefix : List UInt8) : Option (Bool) :=
  (stringslite_HasPrefix_x1 qs qprefix).bind fun vx1 =>
  some vx1

/-! ### internal/stringslite.TrimPrefix -/
noncomputable def stringslite_TrimPrefix (qs : List UInt8) (qprefix : List UInt8) : Option ((List UInt8)) :=
  (stringslite_HasPrefix qs qprefix).bind fun vr =>
  cond (vr)
    ((sub? qs (qprefix.length : Int) (qs.length : Int)).bind fun vs =>
    some vs)
    (some qs)

/-! ### strings.TrimPrefix -/
noncomputable def strings_TrimPrefix (qs : List UInt8) (qprefix : List UInt8) : Option ((List UInt8)) :=
  (stringslite_TrimPrefix qs qprefix).bind fun vr1 =>
  some vr1

/-! ### internal/strconv.lower -/
noncomputable def strconv_lower (qc : Int) : Option (Unit) :=
  some ()

/-! ### internal/strconv.underscoreOK -/
noncomputable def strconv_underscoreOK_x2 (qx : List UInt8) : Option (Bool) :=
  cond (decide (1 ≤ (qx.length : Int)))
    ((at? qx 0).bind fun vc =>
    cond (decide ((vc.toNat : Int) = 45))
      (some true)
      (some (decide ((vc.toNat : Int) = 43))))
    (some false)

noncomputable def strconv_underscoreOK_x1 (qx : List UInt8) : Option ((List UInt8)) :=
  (strconv_underscoreOK_x2 qx).bind fun vx1 =>
  cond (vx1)
    ((sub? qx 1 (qx.length : Int)).bind fun vs =>
    some vs)
    (some qx)

noncomputable def strconv_underscoreOK_x4 (vx2_1 : List UInt8) : Option (Bool) :=
  cond (decide (2 ≤ (vx2_1.length : Int)))
    ((at? vx2_1 0).bind fun vc1 =>
    cond (decide ((vc1.toNat : Int) = 48))
      ((at? vx2_1 1).bind fun vc2 =>
      (strconv_lower (vc2.toNat : Int)).bind fun _ =>
      cond (decide ((ibits .or .u8 (vc2.toNat : Int) 32) = 98))
        (some true)
        (cond (decide ((ibits .or .u8 (vc2.toNat : Int) 32) = 111))
          (some true)
          (some (decide ((ibits .or .u8 (vc2.toNat : Int) 32) = 120)))))
      (some false))
    (some false)

noncomputable def strconv_underscoreOK_x3 (vx2_1 : List UInt8) : Option ((Int × Int × Bool)) :=
  (strconv_underscoreOK_x4 vx2_1).bind fun vx3_1 =>
  cond (vx3_1)
    ((at? vx2_1 1).bind fun vc3 =>
    (strconv_lower (vc3.toNat : Int)).bind fun _ =>
    some (48, 2, decide ((ibits .or .u8 (vc3.toNat : Int) 32) = 120)))
    (some (94, 0, false))

noncomputable def strconv_underscoreOK_x7 (vx2_1 : List UInt8) (vx6_1 : Bool) (vx8 : Int) : Option (Bool) :=
  (at? vx2_1 vx8).bind fun vc6 =>
  cond (decide ((48 : Int) ≤ (vc6.toNat : Int)))
    (cond (decide ((vc6.toNat : Int) ≤ 57))
      (some true)
      (cond (vx6_1)
        ((strconv_lower (vc6.toNat : Int)).bind fun _ =>
        cond (decide ((97 : Int) ≤ (ibits .or .u8 (vc6.toNat : Int) 32)))
          (some (decide ((ibits .or .u8 (vc6.toNat : Int) 32) ≤ 102)))
          (some false))
        (some false)))
    (cond (vx6_1)
      ((strconv_lower (vc6.toNat : Int)).bind fun _ =>
      cond (decide ((97 : Int) ≤ (ibits .or .u8 (vc6.toNat : Int) 32)))
        (some (decide ((ibits .or .u8 (vc6.toNat : Int) 32) ≤ 102)))
        (some false))
      (some false))

noncomputable def strconv_underscoreOK_x6 (vx2_1 : List UInt8) (vx6_1 : Bool) (vx7 : Int) (vx8 : Int) : Option (Int ⊕ Unit) :=
  (strconv_underscoreOK_x7 vx2_1 vx6_1 vx8).bind fun vx11_1 =>
  cond (vx11_1)
    (some (.inl 48))
    ((at? vx2_1 vx8).bind fun vc7 =>
    cond (decide ((vc7.toNat : Int) = 95))
      (cond (!decide (vx7 = 48))
        (some (.inr ()))
        (some (.inl 95)))
      (cond (decide (vx7 = 95))
        (some (.inr ()))
        (some (.inl 33))))

noncomputable def strconv_underscoreOK_x5 (vx2_1 : List UInt8) (vx6_1 : Bool) : Int × Int → Option ((Int × Int) ⊕ (Int ⊕ Unit))
  | (vx7, vx8) =>
  cond (decide (vx8 < (vx2_1.length : Int)))
    ((strconv_underscoreOK_x6 vx2_1 vx6_1 vx7 vx8).bind fun x => match x with
      | .inl vx12_1 =>
        some (.inl (vx12_1, IntKind.wrap .i64 (vx8 + 1)))
      | .inr _ =>
        some (.inr (.inr ())))
    (some (.inr (.inl vx7)))

noncomputable def strconv_underscoreOK (qx : List UInt8) : Option (Bool) :=
  (strconv_underscoreOK_x1 qx).bind fun vx2_1 =>
  (strconv_underscoreOK_x3 vx2_1).bind fun (vx4_1, vx5_1, vx6_1) =>
  (loopO (strconv_underscoreOK_x5 vx2_1 vx6_1) (vx4_1, vx5_1)).bind fun x => match x with
    | .inl vx13_1 =>
      some (!decide (vx13_1 = 95))
    | .inr _ =>
      some false

/-! ### internal/strconv.ParseUint -/
noncomputable def strconv_ParseUint_x2 (qx1 : Int) : Option (Bool) :=
  cond (decide ((2 : Int) ≤ qx1))
    (some (decide (qx1 ≤ 36)))
    (some false)

noncomputable def strconv_ParseUint_x3 (qx : List UInt8) : Option (Bool) :=
  cond (decide (3 ≤ (qx.length : Int)))
    ((at? qx 1).bind fun vc1 =>
    (strconv_lower (vc1.toNat : Int)).bind fun _ =>
    some (decide ((ibits .or .u8 (vc1.toNat : Int) 32) = 98)))
    (some false)

noncomputable def strconv_ParseUint_x4 (qx : List UInt8) : Option (Bool) :=
  cond (decide (3 ≤ (qx.length : Int)))
    ((at? qx 1).bind fun vc2 =>
    (strconv_lower (vc2.toNat : Int)).bind fun _ =>
    some (decide ((ibits .or .u8 (vc2.toNat : Int) 32) = 111)))
    (some false)

noncomputable def strconv_ParseUint_x5 (qx : List UInt8) : Option (Bool) :=
  cond (decide (3 ≤ (qx.length : Int)))
    ((at? qx 1).bind fun vc3 =>
    (strconv_lower (vc3.toNat : Int)).bind fun _ =>
    some (decide ((ibits .or .u8 (vc3.toNat : Int) 32) = 120)))
    (some false)

noncomputable def strconv_ParseUint_x1 (qx : List UInt8) (qx1 : Int) : Option (((List UInt8) × Int)) :=
  (strconv_ParseUint_x2 qx1).bind fun vx1 =>
  cond (vx1)
    (some (qx, qx1))
    (cond (decide (qx1 = 0))
      ((at? qx 0).bind fun vc =>
      cond (decide ((vc.toNat : Int) = 48))
        ((strconv_ParseUint_x3 qx).bind fun vx2_1 =>
        cond (vx2_1)
          ((sub? qx 2 (qx.length : Int)).bind fun vs =>
          some (vs, 2))
          ((strconv_ParseUint_x4 qx).bind fun vx3_1 =>
          cond (vx3_1)
            ((sub? qx 2 (qx.length : Int)).bind fun vs1 =>
            some (vs1, 8))
            ((strconv_ParseUint_x5 qx).bind fun vx4_1 =>
            cond (vx4_1)
              ((sub? qx 2 (qx.length : Int)).bind fun vs2 =>
              some (vs2, 16))
              ((sub? qx 1 (qx.length : Int)).bind fun vs3 =>
              some (vs3, 8)))))
        (some (qx, 10)))
      (none))

noncomputable def strconv_ParseUint_x7 (qx2 : Int) : Option (Bool) :=
  cond (decide (qx2 < 0))
    (some true)
    (some (decide (64 < qx2)))

noncomputable def strconv_ParseUint_x6 (qx2 : Int) : Option (Int) :=
  cond (decide (qx2 = 0))
    (some 64)
    ((strconv_ParseUint_x7 qx2).bind fun vx7_1 =>
    cond (vx7_1)
      (none)
      (some qx2))

noncomputable def strconv_ParseUint_x8 (vx6_1 : Int) : Option (Int) :=
  cond (decide (vx6_1 = 10))
    (some 1844674407370955162)
    (cond (decide (vx6_1 = 16))
      (some 1152921504606846976)
      (gd (!((IntKind.wrap .u64 (vx6_1)) == 0)) <|
      some (IntKind.wrap .u64 ((IntKind.wrap .u64 ((18446744073709551615 : Int).tdiv (IntKind.wrap .u64 (vx6_1)))) + 1))))

noncomputable def strconv_ParseUint_x12 (qx1 : Int) (vy1 : Int) : Option (Bool) :=
  cond (decide (vy1 = 95))
    (some (decide (qx1 = 0)))
    (some false)

noncomputable def strconv_ParseUint_x13 (vy1 : Int) : Option (Bool) :=
  cond (decide ((48 : Int) ≤ vy1))
    (some (decide (vy1 ≤ 57)))
    (some false)

noncomputable def strconv_ParseUint_x14 (vy1 : Int) : Option (Bool) :=
  (strconv_lower vy1).bind fun _ =>
  cond (decide ((97 : Int) ≤ (ibits .or .u8 vy1 32)))
    (some (decide ((ibits .or .u8 vy1 32) ≤ 122)))
    (some false)

noncomputable def strconv_ParseUint_x11 (qx1 : Int) (vy1 : Int) : Option (Int ⊕ Unit) :=
  (strconv_ParseUint_x12 qx1 vy1).bind fun vx20_1 =>
  cond (vx20_1)
    (some (.inr ()))
    ((strconv_ParseUint_x13 vy1).bind fun vx21_1 =>
    cond (vx21_1)
      (some (.inl (IntKind.wrap .u8 (vy1 - 48))))
      ((strconv_ParseUint_x14 vy1).bind fun vx22_1 =>
      cond (vx22_1)
        ((strconv_lower vy1).bind fun _ =>
        some (.inl (IntKind.wrap .u8 ((IntKind.wrap .u8 ((ibits .or .u8 vy1 32) - 97)) + 10))))
        (none)))

noncomputable def strconv_ParseUint_x15 (vx6_1 : Int) (vx8_1 : Int) (vx11 : Int) (vx23_1 : Int) : Option (Bool) :=
  cond (decide ((IntKind.wrap .u64 ((IntKind.wrap .u64 (vx11 * (IntKind.wrap .u64 (vx6_1)))) + (IntKind.wrap .u64 (vx23_1)))) < (IntKind.wrap .u64 (vx11 * (IntKind.wrap .u64 (vx6_1))))))
    (some true)
    (some (decide ((IntKind.wrap .u64 ((ishl .u64 1 (IntKind.wrap .u64 (vx8_1))) - 1)) < (IntKind.wrap .u64 ((IntKind.wrap .u64 (vx11 * (IntKind.wrap .u64 (vx6_1)))) + (IntKind.wrap .u64 (vx23_1)))))))

noncomputable def strconv_ParseUint_x10 (qx1 : Int) (vx5_1 : List UInt8) (vx6_1 : Int) (vx8_1 : Int) (vx9_1 : Int) (vx10 : Bool) (vx11 : Int) (vx12 : Int) : Option ((Bool × Int)) :=
  (at? (bytesD vx5_1) vx12).bind fun vy1 =>
  (strconv_ParseUint_x11 qx1 vy1).bind fun x => match x with
    | .inl vx23_1 =>
      cond (decide ((IntKind.wrap .u8 (vx6_1)) ≤ vx23_1))
        (none)
        (cond (decide (vx9_1 ≤ vx11))
          (none)
          ((strconv_ParseUint_x15 vx6_1 vx8_1 vx11 vx23_1).bind fun vx24_1 =>
          cond (vx24_1)
            (none)
            (some (vx10, IntKind.wrap .u64 ((IntKind.wrap .u64 (vx11 * (IntKind.wrap .u64 (vx6_1)))) + (IntKind.wrap .u64 (vx23_1)))))))
    | .inr _ =>
      some (true, vx11)

noncomputable def strconv_ParseUint_x9 (qx1 : Int) (vx5_1 : List UInt8) (vx6_1 : Int) (vx8_1 : Int) (vx9_1 : Int) : Bool × Int × Int → Option ((Bool × Int × Int) ⊕ ((Bool × Int)))
  | (vx10, vx11, vx12) =>
  cond (decide (vx12 < ((bytesD vx5_1).length : Int)))
    ((strconv_ParseUint_x10 qx1 vx5_1 vx6_1 vx8_1 vx9_1 vx10 vx11 vx12).bind fun (vx25_1, vx26_1) =>
    some (.inl (vx25_1, vx26_1, IntKind.wrap .i64 (vx12 + 1))))
    (some (.inr (vx10, vx11)))

noncomputable def strconv_ParseUint_x16 (qx : List UInt8) (vx27_1 : Bool) : Option (Bool) :=
  cond (vx27_1)
    ((strconv_underscoreOK qx).bind fun vr =>
    some (!vr))
    (some false)

noncomputable def strconv_ParseUint (qx : List UInt8) (qx1 : Int) (qx2 : Int) : Option (Int) :=
  cond (decide (qx = ([] : List UInt8)))
    (none)
    ((strconv_ParseUint_x1 qx qx1).bind fun (vx5_1, vx6_1) =>
    (strconv_ParseUint_x6 qx2).bind fun vx8_1 =>
    (strconv_ParseUint_x8 vx6_1).bind fun vx9_1 =>
    gd (decide (0 ≤ (IntKind.wrap .u64 (vx8_1)))) <|
    (loopO (strconv_ParseUint_x9 qx1 vx5_1 vx6_1 vx8_1 vx9_1) (false, 0, 0)).bind fun (vx27_1, vx28_1) =>
    (strconv_ParseUint_x16 qx vx27_1).bind fun vx29_1 =>
    cond (vx29_1)
      (none)
      (some vx28_1))

/-! ### internal/strconv.ParseInt -/
noncomputable def strconv_ParseInt_x1 (qx : List UInt8) : Option (((List UInt8) × Bool)) :=
  (at? qx 0).bind fun vc =>
  cond (decide ((vc.toNat : Int) = 43))
    ((sub? qx 1 (qx.length : Int)).bind fun vs =>
    some (vs, false))
    (cond (decide ((vc.toNat : Int) = 45))
      ((sub? qx 1 (qx.length : Int)).bind fun vs1 =>
      some (vs1, true))
      (some (qx, false)))

noncomputable def strconv_ParseInt_x2 (qx2 : Int) : Option (Int) :=
  cond (decide (qx2 = 0))
    (some 64)
    (some qx2)

noncomputable def strconv_ParseInt_x3 (vx1_1 : Bool) (vr1 : Int) (vx3_1 : Int) : Option (Bool) :=
  cond (!vx1_1)
    (some (decide ((ishl .u64 1 (IntKind.wrap .u64 (IntKind.wrap .i64 (vx3_1 - 1)))) ≤ vr1)))
    (some false)

noncomputable def strconv_ParseInt_x4 (vx1_1 : Bool) (vr1 : Int) (vx3_1 : Int) : Option (Bool) :=
  cond (vx1_1)
    (some (decide ((ishl .u64 1 (IntKind.wrap .u64 (IntKind.wrap .i64 (vx3_1 - 1)))) < vr1)))
    (some false)

noncomputable def strconv_ParseInt_x5 (vx1_1 : Bool) (vr1 : Int) : Option (Int) :=
  cond (vx1_1)
    (some (IntKind.wrap .i64 (0 - (IntKind.wrap .i64 (vr1)))))
    (some (IntKind.wrap .i64 (vr1)))

noncomputable def strconv_ParseInt (qx : List UInt8) (qx1 : Int) (qx2 : Int) : Option (Int) :=
  cond (decide (qx = ([] : List UInt8)))
    (none)
    ((strconv_ParseInt_x1 qx).bind fun (vx2, vx1_1) =>
    (strconv_ParseUint vx2 qx1 qx2).bind fun vr1 =>
    (strconv_ParseInt_x2 qx2).bind fun vx3_1 =>
    gd (decide (0 ≤ (IntKind.wrap .u64 (IntKind.wrap .i64 (vx3_1 - 1))))) <|
    (strconv_ParseInt_x3 vx1_1 vr1 vx3_1).bind fun vx4_1 =>
    cond (vx4_1)
      (none)
      ((strconv_ParseInt_x4 vx1_1 vr1 vx3_1).bind fun vx5_1 =>
      cond (vx5_1)
        (none)
        ((strconv_ParseInt_x5 vx1_1 vr1).bind fun vx6_1 =>
        some vx6_1)))

/-! ### internal/strconv.Atoi -/
noncomputable def strconv_Atoi_2_x1 (qx : List UInt8) : Option (Bool) :=
  cond (decide ((0 : Int) < (qx.length : Int)))
    (some (decide ((qx.length : Int) < 19)))
    (some false)

noncomputable def strconv_Atoi_2_x3 (qx : List UInt8) : Option (Bool) :=
  (at? qx 0).bind fun vc =>
  cond (decide ((vc.toNat : Int) = 45))
    (some true)
    (some (decide ((vc.toNat : Int) = 43)))

noncomputable def strconv_Atoi_2_x2 (qx : List UInt8) : Option ((List UInt8)) :=
  (strconv_Atoi_2_x3 qx).bind fun vx2_1 =>
  cond (vx2_1)
    ((sub? qx 1 (qx.length : Int)).bind fun vs =>
    cond (decide ((vs.length : Int) < 1))
      (none)
      (some vs))
    (some qx)

noncomputable def strconv_Atoi_2_x4 (vx3_1 : List UInt8) : Int × Int → Option ((Int × Int) ⊕ (Int))
  | (vx4, vx5) =>
  cond (decide (vx5 < ((bytesD vx3_1).length : Int)))
    ((at? (bytesD vx3_1) vx5).bind fun vy1 =>
    cond (decide (9 < (IntKind.wrap .u8 (vy1 - 48))))
      (none)
      (some (.inl (IntKind.wrap .i64 ((IntKind.wrap .i64 (vx4 * 10)) + (IntKind.wrap .i64 (IntKind.wrap .u8 (vy1 - 48)))), IntKind.wrap .i64 (vx5 + 1)))))
    (some (.inr vx4))

noncomputable def strconv_Atoi_2_x5 (qx : List UInt8) (vx6_1 : Int) : Option (Int) :=
  (at? qx 0).bind fun vc1 =>
  cond (decide ((vc1.toNat : Int) = 45))
    (some (IntKind.wrap .i64 (0 - vx6_1)))
    (some vx6_1)

noncomputable def strconv_Atoi_2 (qx : List UInt8) : Option (Int) :=
  (strconv_Atoi_2_x1 qx).bind fun vx1 =>
  cond (vx1)
    ((strconv_Atoi_2_x2 qx).bind fun vx3_1 =>
    (loopO (strconv_Atoi_2_x4 vx3_1) (0, 0)).bind fun vx6_1 =>
    (strconv_Atoi_2_x5 qx vx6_1).bind fun vx7_1 =>
    some vx7_1)
    ((strconv_ParseInt qx 10 0).bind fun vr =>
    some vr)

/-! ### strconv.Atoi -/
noncomputable def strconv_Atoi (qs : List UInt8) : Option (Int) :=
  (strconv_Atoi_2 qs).bind fun vr1 =>
  some vr1

/-! ### beaconfleet/base.Number -/
noncomputable def base_Number_x1 (qs : List UInt8) (qdigits : Int) (vr : List UInt8) : Option (Bool) :=
  cond (decide (vr = ([] : List UInt8)))
    (some true)
    (cond (decide (qdigits < (vr.length : Int)))
      (some true)
      ((at? vr 0).bind fun vc =>
      cond (decide ((vc.toNat : Int) = 48))
        (cond (decide (1 < (vr.length : Int)))
          (some true)
          (some (decide ((vr.length : Int) < (qs.length : Int)))))
        (some false)))

noncomputable def base_Number_x3 (vr : List UInt8) (vx2 : Int) : Option (Bool) :=
  (at? vr vx2).bind fun vc2 =>
  cond (decide ((vc2.toNat : Int) < 48))
    (some true)
    (some (decide (57 < (vc2.toNat : Int))))

noncomputable def base_Number_x2 (vr : List UInt8) (vx2 : Int) : Option ((Int) ⊕ (Unit ⊕ Unit)) :=
  cond (decide (vx2 < (vr.length : Int)))
    ((base_Number_x3 vr vx2).bind fun vx4_1 =>
    cond (vx4_1)
      (some (.inr (.inr ())))
      (some (.inl (IntKind.wrap .i64 (vx2 + 1)))))
    (some (.inr (.inl ())))

noncomputable def base_Number (qs : List UInt8) (qdigits : Int) : Option (Int × Bool) :=
  (strings_TrimPrefix qs ([45] : List UInt8)).bind fun vr =>
  (base_Number_x1 qs qdigits vr).bind fun vx1 =>
  cond (vx1)
    (some (0, false))
    ((loopO (base_Number_x2 vr) 0).bind fun x => match x with
      | .inl _ =>
        (strconv_Atoi qs).bind fun vr1 =>
        some (vr1, true)
      | .inr _ =>
        some (0, false))

/-! ### beaconfleet/base.Numbers -/
noncomputable def base_Numbers_o0_x1 (qwords : List (List UInt8)) (qdigits : Int) : (List Int) × Int → Option (((List Int) × Int) ⊕ ((List Int) ⊕ Unit))
  | (vout, vx) =>
  cond (decide (vx < (qwords.length : Int)))
    ((at? qwords vx).bind fun vy1 =>
    (base_Number vy1 qdigits).bind fun (vr2_1, vr3_1) =>
    cond (!vr3_1)
      (some (.inr (.inr ())))
      (gd (Nat.ble (vout.length + ([vr2_1] : List Int).length) LIM) <|
      some (.inl (vout ++ ([vr2_1] : List Int), IntKind.wrap .i64 (vx + 1)))))
    (some (.inr (.inl vout)))

noncomputable def base_Numbers_o0 (qwords : List (List UInt8)) (qdigits : Int) : Option ((List Int) × Bool) :=
  (loopO (base_Numbers_o0_x1 qwords qdigits) ([], 0)).bind fun x => match x with
    | .inl vout1_1 =>
      some (vout1_1, true)
    | .inr _ =>
      some ([], false)

/-! ### beaconfleet/campaign.ParseVersion -/
noncomputable def campaign_ParseVersion_x1 (vr : List Int) (vr1_1 : Bool) : Option (Bool) :=
  cond (!vr1_1)
    (some true)
    (some (!decide ((vr.length : Int) = 3)))

noncomputable def campaign_ParseVersion (qs : List UInt8) : Option (api_Version × Int) :=
  (strings_Split qs ([46] : List UInt8)).bind fun vr1 =>
  (base_Numbers_o0 vr1 4).bind fun (vr, vr1_1) =>
  (campaign_ParseVersion_x1 vr vr1_1).bind fun vx1 =>
  cond (vx1)
    (some (api_Version.mk 0 0 0, 9))
    ((at? vr 0).bind fun vy =>
    (at? vr 1).bind fun vy1 =>
    (at? vr 2).bind fun vy2 =>
    (base_Version (api_Version.mk vy vy1 vy2)).bind fun vr3 =>
    cond (!vr3)
      (some (api_Version.mk 0 0 0, 9))
      (some (api_Version.mk vy vy1 vy2, 0)))

/-! ### strings.IndexByte -/
noncomputable def strings_IndexByte (qs : List UInt8) (qc : Int) : Option (Unit) :=
  (stringslite_IndexByte qs qc).bind fun _ =>
  some ()

/-! ### beaconfleet/fleetref2.only -/
noncomputable def fleetref2_only_x1 (qs : List UInt8) (qsome : List UInt8) (vx : Int) : Option ((Int) ⊕ (Unit ⊕ Unit)) :=
  cond (decide (vx < (qs.length : Int)))
    ((at? qs vx).bind fun vc1 =>
    (strings_IndexByte qsome (vc1.toNat : Int)).bind fun _ =>
    cond (decide ((Lib.indexByte qsome (vc1.toNat : Int).toNat.toUInt8) < 0))
      (some (.inr (.inr ())))
      (some (.inl (IntKind.wrap .i64 (vx + 1)))))
    (some (.inr (.inl ())))

noncomputable def fleetref2_only (qs : List UInt8) (qsome : List UInt8) : Option (Bool) :=
  (loopO (fleetref2_only_x1 qs qsome) 0).bind fun x => match x with
    | .inl _ =>
      some true
    | .inr _ =>
      some false

/-! ### beaconfleet/fleetref2.Number -/
noncomputable def fleetref2_Number_x1 (qmost : Int) (vr : List UInt8) : Option (Bool) :=
  cond (decide (vr = ([] : List UInt8)))
    (some true)
    (cond (decide (qmost < (vr.length : Int)))
      (some true)
      ((fleetref2_only vr ([48, 49, 50, 51, 52, 53, 54, 55, 56, 57] : List UInt8)).bind fun vr1 =>
      some (!vr1)))

noncomputable def fleetref2_Number (qs : List UInt8) (qmost : Int) : Option (Int × Bool) :=
  (strings_TrimPrefix qs ([45] : List UInt8)).bind fun vr =>
  (fleetref2_Number_x1 qmost vr).bind fun vx1 =>
  cond (vx1)
    (some (0, false))
    ((strconv_Atoi qs).bind fun vr2 =>
    (strconv_Itoa vr2).bind fun vr3 =>
    some (vr2, decide (vr3 = qs)))

/-! ### beaconfleet/fleetref2.VersionOf -/
noncomputable def fleetref2_VersionOf_x2 (vn : List Int) (vx : Int) (vr4_1 : Int) (vr5_1 : Bool) : Option (Bool) :=
  cond (!vr5_1)
    (some true)
    (gd (decide (0 ≤ vx) && decide (vx < ((3 : Nat) : Int))) <|
    (at? (vn.set vx.toNat vr4_1) vx).bind fun vy5 =>
    some (decide (vy5 < 0)))

noncomputable def fleetref2_VersionOf_x1 (vr1 : List (List UInt8)) : (List Int) × Int → Option (((List Int) × Int) ⊕ ((List Int) ⊕ Unit))
  | (vn, vx) =>
  cond (decide (vx < (vr1.length : Int)))
    ((at? vr1 vx).bind fun vy3 =>
    (fleetref2_Number vy3 4).bind fun (vr4_1, vr5_1) =>
    gd (decide (0 ≤ vx) && decide (vx < ((3 : Nat) : Int))) <|
    (at? vn vx).bind fun vy4 =>
    (fleetref2_VersionOf_x2 vn vx vr4_1 vr5_1).bind fun vx2_1 =>
    cond (vx2_1)
      (some (.inr (.inr ())))
      (some (.inl (vn.set vx.toNat vr4_1, IntKind.wrap .i64 (vx + 1)))))
    (some (.inr (.inl vn)))

noncomputable def fleetref2_VersionOf (qs : List UInt8) : Option (api_Version × Int) :=
  (strings_Split qs ([46] : List UInt8)).bind fun vr1 =>
  cond (!decide ((vr1.length : Int) = 3))
    (some (api_Version.mk 0 0 0, 9))
    ((loopO (fleetref2_VersionOf_x1 vr1) (([0, 0, 0] : List Int), 0)).bind fun x => match x with
      | .inl vn1_1 =>
        (at? vn1_1 (0 : Int)).bind fun vy6 =>
        (at? vn1_1 (1 : Int)).bind fun vy7 =>
        (at? vn1_1 (2 : Int)).bind fun vy8 =>
        some (api_Version.mk vy6 vy7 vy8, 0)
      | .inr _ =>
        some (api_Version.mk 0 0 0, 9))

/-! ### cmp.Or[int] -/
noncomputable def cmp_Or_int_x1 (qvals : List Int) (vx : Int) : Option ((Int) ⊕ (Unit ⊕ Int)) :=
  cond (decide (vx < (qvals.length : Int)))
    ((at? qvals vx).bind fun vy1 =>
    cond (!decide (vy1 = 0))
      (some (.inr (.inr vy1)))
      (some (.inl (IntKind.wrap .i64 (vx + 1)))))
    (some (.inr (.inl ())))

noncomputable def cmp_Or_int (qvals : List Int) : Option (Int) :=
  (loopO (cmp_Or_int_x1 qvals) 0).bind fun x => match x with
    | .inl _ =>
      some 0
    | .inr vx1_1 =>
      some vx1_1

/-! ### beaconfleet/campaign.Compare -/
noncomputable def campaign_Compare (qa : api_Version) (qb : api_Version) : Option (Int) :=
  (cmp_Compare_int qa.Major qb.Major).bind fun vr =>
  (cmp_Compare_int qa.Minor qb.Minor).bind fun vr1 =>
  (cmp_Compare_int qa.Patch qb.Patch).bind fun vr2 =>
  (cmp_Or_int ([vr, vr1, vr2] : List Int)).bind fun vr3 =>
  some vr3

/-! ### beaconfleet/base.Key -/
noncomputable def base_Key_x1 (qs : List UInt8) : Option (Bool) :=
  cond (decide (qs = ([] : List UInt8)))
    (some true)
    (cond (decide (40 < (qs.length : Int)))
      (some true)
      ((at? qs 0).bind fun vc =>
      cond (decide ((vc.toNat : Int) < 97))
        (some true)
        (some (decide (122 < (vc.toNat : Int))))))

noncomputable def base_Key_x3 (vc2 : UInt8) : Option (Bool) :=
  cond (decide (97 ≤ (vc2.toNat : Int)))
    (cond (decide ((vc2.toNat : Int) ≤ 122))
      (some false)
      (cond (decide (48 ≤ (vc2.toNat : Int)))
        (cond (decide ((vc2.toNat : Int) ≤ 57))
          (some false)
          (cond (decide ((vc2.toNat : Int) = 45))
            (some false)
            (some (!(decide ((vc2.toNat : Int) = 95))))))
        (cond (decide ((vc2.toNat : Int) = 45))
          (some false)
          (some (!(decide ((vc2.toNat : Int) = 95)))))))
    (cond (decide (48 ≤ (vc2.toNat : Int)))
      (cond (decide ((vc2.toNat : Int) ≤ 57))
        (some false)
        (cond (decide ((vc2.toNat : Int) = 45))
          (some false)
          (some (!(decide ((vc2.toNat : Int) = 95))))))
      (cond (decide ((vc2.toNat : Int) = 45))
        (some false)
        (some (!(decide ((vc2.toNat : Int) = 95))))))

noncomputable def base_Key_x2 (qs : List UInt8) (vx2 : Int) : Option ((Int) ⊕ (Unit ⊕ Unit)) :=
  cond (decide (vx2 < (qs.length : Int)))
    ((at? qs vx2).bind fun vc2 =>
    (base_Key_x3 vc2).bind fun vx4_1 =>
    cond (vx4_1)
      (some (.inr (.inr ())))
      (some (.inl (IntKind.wrap .i64 (vx2 + 1)))))
    (some (.inr (.inl ())))

noncomputable def base_Key (qs : List UInt8) : Option (Bool) :=
  (base_Key_x1 qs).bind fun vx1 =>
  cond (vx1)
    (some false)
    ((loopO (base_Key_x2 qs) 0).bind fun x => match x with
      | .inl _ =>
        some true
      | .inr _ =>
        some false)

/-! ### beaconfleet/campaign.covers$1 -/
noncomputable def campaign_covers_1_x1 (qr : api_Range) (qx : api_Version) : Option (Bool) :=
  (campaign_Compare (api_Version.mk qr.Low.Major qr.Low.Minor qr.Low.Patch) qx).bind fun vr4 =>
  cond (decide (vr4 ≤ 0))
    ((campaign_Compare qx (api_Version.mk qr.High.Major qr.High.Minor qr.High.Patch)).bind fun vr4_1 =>
    some (decide (vr4_1 ≤ 0)))
    (some false)

noncomputable def campaign_covers_1 (qr : api_Range) (qx : api_Version) : Option (Bool) :=
  (campaign_covers_1_x1 qr qx).bind fun vx1 =>
  some vx1

/-! ### slices.IndexFunc[[]beaconfleet/api.Range,beaconfleet/api.Range] -/
noncomputable def slices_IndexFunc_api_Range_api_Range_f1_campaign_covers_1_x1 (qs : List api_Range) (qf : api_Version) (vx : Int) : Option ((Int) ⊕ (Unit ⊕ Int)) :=
  cond (decide (vx < (qs.length : Int)))
    ((at? qs vx).bind fun vy1 =>
    (campaign_covers_1 (api_Range.mk (api_Version.mk vy1.Low.Major vy1.Low.Minor vy1.Low.Patch) (api_Version.mk vy1.High.Major vy1.High.Minor vy1.High.Patch)) qf).bind fun vr1 =>
    cond (vr1)
      (some (.inr (.inr vx)))
      (some (.inl (IntKind.wrap .i64 (vx + 1)))))
    (some (.inr (.inl ())))

noncomputable def slices_IndexFunc_api_Range_api_Range_f1_campaign_covers_1 (qs : List api_Range) (qf : api_Version) : Option (Int) :=
  (loopO (slices_IndexFunc_api_Range_api_Range_f1_campaign_covers_1_x1 qs qf) 0).bind fun x => match x with
    | .inl _ =>
      some (-1)
    | .inr vx1_1 =>
      some vx1_1

/-! ### slices.ContainsFunc[[]beaconfleet/api.Range,beaconfleet/api.Range] -/
noncomputable def slices_ContainsFunc_api_Range_api_Range_f1_campaign_covers_1 (qs : List api_Range) (qf : api_Version) : Option (Bool) :=
  (slices_IndexFunc_api_Range_api_Range_f1_campaign_covers_1 qs qf).bind fun vr2 =>
  some (decide (0 ≤ vr2))

/-! ### beaconfleet/campaign.covers -/
noncomputable def campaign_covers (qx : api_Image) (qv : api_Version) : Option (Bool) :=
  (slices_ContainsFunc_api_Range_api_Range_f1_campaign_covers_1 qx.From qv).bind fun vr =>
  some vr

/-! ### beaconfleet/campaign.rangesFault -/
noncomputable def campaign_rangesFault_x2 (vy2 : api_Range) : Option (Bool) :=
  (base_Version (api_Version.mk vy2.Low.Major vy2.Low.Minor vy2.Low.Patch)).bind fun vr3_2 =>
  cond (!vr3_2)
    (some true)
    ((base_Version (api_Version.mk vy2.High.Major vy2.High.Minor vy2.High.Patch)).bind fun vr3_3 =>
    cond (!vr3_3)
      (some true)
      ((campaign_Compare (api_Version.mk vy2.Low.Major vy2.Low.Minor vy2.Low.Patch) (api_Version.mk vy2.High.Major vy2.High.Minor vy2.High.Patch)).bind fun vr4_2 =>
      some (decide (0 < vr4_2))))

noncomputable def campaign_rangesFault_x3 (qx : api_Image) (vx : Int) (vy2 : api_Range) : Option (Bool) :=
  cond (decide (0 < vx))
    ((at? qx.From (IntKind.wrap .i64 (vx - 1))).bind fun vy3 =>
    (campaign_Compare (api_Version.mk vy2.Low.Major vy2.Low.Minor vy2.Low.Patch) (api_Version.mk vy3.High.Major vy3.High.Minor vy3.High.Patch)).bind fun vr4_3 =>
    some (decide (vr4_3 ≤ 0)))
    (some false)

noncomputable def campaign_rangesFault_x1 (qx : api_Image) (vx : Int) : Option ((Int) ⊕ (Unit ⊕ Int)) :=
  cond (decide (vx < (qx.From.length : Int)))
    ((at? qx.From vx).bind fun vy2 =>
    (campaign_rangesFault_x2 vy2).bind fun vx3_1 =>
    cond (vx3_1)
      (some (.inr (.inr 1)))
      ((campaign_rangesFault_x3 qx vx vy2).bind fun vx4_1 =>
      cond (vx4_1)
        (some (.inr (.inr 7)))
        (some (.inl (IntKind.wrap .i64 (vx + 1))))))
    (some (.inr (.inl ())))

noncomputable def campaign_rangesFault (qx : api_Image) : Option (Int) :=
  cond (decide (20 < (qx.From.length : Int)))
    (some 2)
    ((loopO (campaign_rangesFault_x1 qx) 0).bind fun x => match x with
      | .inl _ =>
        (campaign_covers (api_Image.mk (api_Version.mk qx.Version.Major qx.Version.Minor qx.Version.Patch) qx.Models qx.From qx.Size) (api_Version.mk qx.Version.Major qx.Version.Minor qx.Version.Patch)).bind fun vr1 =>
        cond (vr1)
          (some 14)
          (some 0)
      | .inr vx5_1 =>
        some vx5_1)

/-! ### beaconfleet/campaign.CheckImages -/
noncomputable def campaign_CheckImages_x2 (qx : List api_Image) (vx : Int) (vy6 : api_Image) : Option (Bool) :=
  cond (decide (0 < vx))
    ((at? qx (IntKind.wrap .i64 (vx - 1))).bind fun vy7 =>
    (campaign_Compare (api_Version.mk vy6.Version.Major vy6.Version.Minor vy6.Version.Patch) (api_Version.mk vy7.Version.Major vy7.Version.Minor vy7.Version.Patch)).bind fun vr4_1 =>
    some (decide (vr4_1 ≤ 0)))
    (some false)

noncomputable def campaign_CheckImages_x4 (vy6 : api_Image) (vx7 : Int) (vy10 : List UInt8) : Option (Bool) :=
  cond (decide (0 < vx7))
    ((at? vy6.Models (IntKind.wrap .i64 (vx7 - 1))).bind fun vy11 =>
    some (Op.bytesLess vy10 vy11 || decide (vy10 = vy11)))
    (some false)

noncomputable def campaign_CheckImages_x3 (vy6 : api_Image) (vx7 : Int) : Option ((Int) ⊕ (Unit ⊕ Int)) :=
  cond (decide (vx7 < (vy6.Models.length : Int)))
    ((at? vy6.Models vx7).bind fun vy10 =>
    (base_Key vy10).bind fun vr7 =>
    cond (!vr7)
      (some (.inr (.inr 5)))
      ((campaign_CheckImages_x4 vy6 vx7 vy10).bind fun vx9_1 =>
      cond (vx9_1)
        (some (.inr (.inr 7)))
        (some (.inl (IntKind.wrap .i64 (vx7 + 1))))))
    (some (.inr (.inl ())))

noncomputable def campaign_CheckImages_x1 (qx : List api_Image) (vx : Int) : Option ((Int) ⊕ (Unit ⊕ Int)) :=
  cond (decide (vx < (qx.length : Int)))
    ((at? qx vx).bind fun vy6 =>
    (base_Version (api_Version.mk vy6.Version.Major vy6.Version.Minor vy6.Version.Patch)).bind fun vr3_1 =>
    cond (!vr3_1)
      (some (.inr (.inr 1)))
      ((campaign_CheckImages_x2 qx vx vy6).bind fun vx6_1 =>
      cond (vx6_1)
        (some (.inr (.inr 7)))
        (cond (decide ((vy6.Models.length : Int) = 0))
          (some (.inr (.inr 3)))
          (cond (decide (20 < (vy6.Models.length : Int)))
            (some (.inr (.inr 2)))
            ((loopO (campaign_CheckImages_x3 vy6) 0).bind fun x => match x with
              | .inl _ =>
                (campaign_rangesFault (api_Image.mk (api_Version.mk vy6.Version.Major vy6.Version.Minor vy6.Version.Patch) vy6.Models vy6.From vy6.Size)).bind fun vr8 =>
                cond (!decide (vr8 = 0))
                  (some (.inr (.inr vr8)))
                  ((base_Out vy6.Size 1 1000000000).bind fun vr9 =>
                  cond (vr9)
                    (some (.inr (.inr 1)))
                    (some (.inl (IntKind.wrap .i64 (vx + 1)))))
              | .inr vx10_1 =>
                some (.inr (.inr vx10_1)))))))
    (some (.inr (.inl ())))

noncomputable def campaign_CheckImages (qx : List api_Image) : Option (Int) :=
  cond (decide (200 < (qx.length : Int)))
    (some 2)
    ((loopO (campaign_CheckImages_x1 qx) 0).bind fun x => match x with
      | .inl _ =>
        some 0
      | .inr vx11_1 =>
        some vx11_1)

/-! ### beaconfleet/fleetref2.Key -/
noncomputable def fleetref2_Key_x1 (qs : List UInt8) : Option (Bool) :=
  (fleetref2_in (qs.length : Int) 1 40).bind fun vr =>
  cond (vr)
    ((sub? qs 0 1).bind fun vs =>
    (fleetref2_only vs ([97, 98, 99, 100, 101, 102, 103, 104, 105, 106, 107, 108, 109, 110, 111, 112, 113, 114, 115, 116, 117, 118, 119, 120, 121, 122] : List UInt8)).bind fun vr1 =>
    cond (vr1)
      ((fleetref2_only qs ([97, 98, 99, 100, 101, 102, 103, 104, 105, 106, 107, 108, 109, 110, 111, 112, 113, 114, 115, 116, 117, 118, 119, 120, 121, 122, 48, 49, 50, 51, 52, 53, 54, 55, 56, 57, 45, 95] : List UInt8)).bind fun vr2 =>
      some vr2)
      (some false))
    (some false)

noncomputable def fleetref2_Key (qs : List UInt8) : Option (Bool) :=
  (fleetref2_Key_x1 qs).bind fun vx1 =>
  some vx1

/-! ### beaconfleet/fleetref2.fits$1 -/
noncomputable def fleetref2_fits_1_x1 (qr : api_Range) (qx : api_Version) : Option (Bool) :=
  (fleetref2_VersionOrder (api_Version.mk qr.Low.Major qr.Low.Minor qr.Low.Patch) qx).bind fun vr =>
  cond (decide (vr ≤ 0))
    ((fleetref2_VersionOrder qx (api_Version.mk qr.High.Major qr.High.Minor qr.High.Patch)).bind fun vr1 =>
    some (decide (vr1 ≤ 0)))
    (some false)

noncomputable def fleetref2_fits_1 (qr : api_Range) (qx : api_Version) : Option (Bool) :=
  (fleetref2_fits_1_x1 qr qx).bind fun vx1 =>
  some vx1

/-! ### slices.IndexFunc[[]beaconfleet/api.Range,beaconfleet/api.Range] -/
noncomputable def slices_IndexFunc_api_Range_api_Range_f1_fleetref2_fits_1_x1 (qs : List api_Range) (qf : api_Version) (vx : Int) : Option ((Int) ⊕ (Unit ⊕ Int)) :=
  cond (decide (vx < (qs.length : Int)))
    ((at? qs vx).bind fun vy1 =>
    (fleetref2_fits_1 (api_Range.mk (api_Version.mk vy1.Low.Major vy1.Low.Minor vy1.Low.Patch) (api_Version.mk vy1.High.Major vy1.High.Minor vy1.High.Patch)) qf).bind fun vr2_1 =>
    cond (vr2_1)
      (some (.inr (.inr vx)))
      (some (.inl (IntKind.wrap .i64 (vx + 1)))))
    (some (.inr (.inl ())))

noncomputable def slices_IndexFunc_api_Range_api_Range_f1_fleetref2_fits_1 (qs : List api_Range) (qf : api_Version) : Option (Int) :=
  (loopO (slices_IndexFunc_api_Range_api_Range_f1_fleetref2_fits_1_x1 qs qf) 0).bind fun x => match x with
    | .inl _ =>
      some (-1)
    | .inr vx1_1 =>
      some vx1_1

/-! ### slices.ContainsFunc[[]beaconfleet/api.Range,beaconfleet/api.Range] -/
noncomputable def slices_ContainsFunc_api_Range_api_Range_f1_fleetref2_fits_1 (qs : List api_Range) (qf : api_Version) : Option (Bool) :=
  (slices_IndexFunc_api_Range_api_Range_f1_fleetref2_fits_1 qs qf).bind fun vr =>
  some (decide (0 ≤ vr))

/-! ### beaconfleet/fleetref2.fits -/
noncomputable def fleetref2_fits (qx : api_Image) (qv : api_Version) : Option (Bool) :=
  (slices_ContainsFunc_api_Range_api_Range_f1_fleetref2_fits_1 qx.From qv).bind fun vr1 =>
  some vr1

/-! ### beaconfleet/fleetref2.rangesFault -/
noncomputable def fleetref2_rangesFault_x2 (vy4 : api_Range) (vx4 : Int) : Option ((Int) ⊕ (Unit ⊕ Int)) :=
  cond (decide (vx4 < (([api_Version.mk vy4.Low.Major vy4.Low.Minor vy4.Low.Patch, api_Version.mk vy4.High.Major vy4.High.Minor vy4.High.Patch] : List api_Version).length : Int)))
    ((at? ([api_Version.mk vy4.Low.Major vy4.Low.Minor vy4.Low.Patch, api_Version.mk vy4.High.Major vy4.High.Minor vy4.High.Patch] : List api_Version) vx4).bind fun vy6 =>
    (fleetref2_versionFault vy6).bind fun vr3_3 =>
    cond (!decide (vr3_3 = 0))
      (some (.inr (.inr vr3_3)))
      (some (.inl (IntKind.wrap .i64 (vx4 + 1)))))
    (some (.inr (.inl ())))

noncomputable def fleetref2_rangesFault_x3 (qx : api_Image) (vx : Int) (vy4 : api_Range) : Option (Bool) :=
  cond (decide (0 < vx))
    ((at? qx.From (IntKind.wrap .i64 (vx - 1))).bind fun vy7 =>
    (fleetref2_VersionOrder (api_Version.mk vy4.Low.Major vy4.Low.Minor vy4.Low.Patch) (api_Version.mk vy7.High.Major vy7.High.Minor vy7.High.Patch)).bind fun vr4 =>
    some (decide (vr4 ≤ 0)))
    (some false)

noncomputable def fleetref2_rangesFault_x1 (qx : api_Image) (vx : Int) : Option ((Int) ⊕ (Unit ⊕ Int)) :=
  cond (decide (vx < (qx.From.length : Int)))
    ((at? qx.From vx).bind fun vy4 =>
    (loopO (fleetref2_rangesFault_x2 vy4) 0).bind fun x => match x with
      | .inl _ =>
        (fleetref2_VersionOrder (api_Version.mk vy4.Low.Major vy4.Low.Minor vy4.Low.Patch) (api_Version.mk vy4.High.Major vy4.High.Minor vy4.High.Patch)).bind fun vr2 =>
        cond (decide (0 < vr2))
          (some (.inr (.inr 1)))
          ((fleetref2_rangesFault_x3 qx vx vy4).bind fun vx6_1 =>
          cond (vx6_1)
            (some (.inr (.inr 7)))
            (some (.inl (IntKind.wrap .i64 (vx + 1)))))
      | .inr vx5_1 =>
        some (.inr (.inr vx5_1)))
    (some (.inr (.inl ())))

noncomputable def fleetref2_rangesFault (qx : api_Image) : Option (Int) :=
  cond (decide (20 < (qx.From.length : Int)))
    (some 2)
    ((loopO (fleetref2_rangesFault_x1 qx) 0).bind fun x => match x with
      | .inl _ =>
        (fleetref2_fits (api_Image.mk (api_Version.mk qx.Version.Major qx.Version.Minor qx.Version.Patch) qx.Models qx.From qx.Size) (api_Version.mk qx.Version.Major qx.Version.Minor qx.Version.Patch)).bind fun vr5 =>
        cond (vr5)
          (some 14)
          (some 0)
      | .inr vx7_1 =>
        some vx7_1)

/-! ### beaconfleet/fleetref2.ImagesFault -/
noncomputable def fleetref2_ImagesFault_x2 (qx : List api_Image) (vx : Int) (vy6 : api_Image) : Option (Bool) :=
  cond (decide (0 < vx))
    ((at? qx (IntKind.wrap .i64 (vx - 1))).bind fun vy7 =>
    (fleetref2_VersionOrder (api_Version.mk vy7.Version.Major vy7.Version.Minor vy7.Version.Patch) (api_Version.mk vy6.Version.Major vy6.Version.Minor vy6.Version.Patch)).bind fun vr2 =>
    some (decide (0 ≤ vr2)))
    (some false)

noncomputable def fleetref2_ImagesFault_x4 (vy6 : api_Image) (vx7 : Int) (vy10 : List UInt8) : Option (Bool) :=
  cond (decide (0 < vx7))
    ((at? vy6.Models (IntKind.wrap .i64 (vx7 - 1))).bind fun vy11 =>
    some (Op.bytesLess vy10 vy11 || decide (vy10 = vy11)))
    (some false)

noncomputable def fleetref2_ImagesFault_x3 (vy6 : api_Image) (vx7 : Int) : Option ((Int) ⊕ (Unit ⊕ Int)) :=
  cond (decide (vx7 < (vy6.Models.length : Int)))
    ((at? vy6.Models vx7).bind fun vy10 =>
    (fleetref2_Key vy10).bind fun vr3_5 =>
    cond (!vr3_5)
      (some (.inr (.inr 5)))
      ((fleetref2_ImagesFault_x4 vy6 vx7 vy10).bind fun vx9_1 =>
      cond (vx9_1)
        (some (.inr (.inr 7)))
        (some (.inl (IntKind.wrap .i64 (vx7 + 1))))))
    (some (.inr (.inl ())))

noncomputable def fleetref2_ImagesFault_x1 (qx : List api_Image) (vx : Int) : Option ((Int) ⊕ (Unit ⊕ Int)) :=
  cond (decide (vx < (qx.length : Int)))
    ((at? qx vx).bind fun vy6 =>
    (fleetref2_versionFault (api_Version.mk vy6.Version.Major vy6.Version.Minor vy6.Version.Patch)).bind fun vr3_3 =>
    cond (!decide (vr3_3 = 0))
      (some (.inr (.inr vr3_3)))
      ((fleetref2_ImagesFault_x2 qx vx vy6).bind fun vx6_1 =>
      cond (vx6_1)
        (some (.inr (.inr 7)))
        (cond (decide ((vy6.Models.length : Int) = 0))
          (some (.inr (.inr 3)))
          (cond (decide (20 < (vy6.Models.length : Int)))
            (some (.inr (.inr 2)))
            ((loopO (fleetref2_ImagesFault_x3 vy6) 0).bind fun x => match x with
              | .inl _ =>
                (fleetref2_rangesFault (api_Image.mk (api_Version.mk vy6.Version.Major vy6.Version.Minor vy6.Version.Patch) vy6.Models vy6.From vy6.Size)).bind fun vr6_1 =>
                cond (!decide (vr6_1 = 0))
                  (some (.inr (.inr vr6_1)))
                  ((fleetref2_in vy6.Size 1 1000000000).bind fun vr4 =>
                  cond (!vr4)
                    (some (.inr (.inr 1)))
                    (some (.inl (IntKind.wrap .i64 (vx + 1)))))
              | .inr vx10_1 =>
                some (.inr (.inr vx10_1)))))))
    (some (.inr (.inl ())))

noncomputable def fleetref2_ImagesFault (qx : List api_Image) : Option (Int) :=
  cond (decide (200 < (qx.length : Int)))
    (some 2)
    ((loopO (fleetref2_ImagesFault_x1 qx) 0).bind fun x => match x with
      | .inl _ =>
        some 0
      | .inr vx11_1 =>
        some vx11_1)

/-! ### beaconfleet/fleetlaw2.versioned -/
noncomputable def fleetlaw2_versioned_x1 (vr2 : api_Version) (vr4 : Int) : Option (Bool) :=
  cond (decide (vr4 = 0))
    (some (decide (vr2.Major = 1) && (decide (vr2.Minor = 2) && (decide (vr2.Patch = 3) && true))))
    (some false)

noncomputable def fleetlaw2_versioned : Option (Bool) :=
  (campaign_ParseVersion ([49, 46, 50, 46, 51] : List UInt8)).bind fun (vr2, vr4) =>
  (fleetlaw2_versioned_x1 vr2 vr4).bind fun vx1 =>
  some vx1

/-! ### beaconfleet/fleetlaw2.VersionsRead -/
noncomputable def fleetlaw2_VersionsRead_x1 (vr1 : api_Version) (vr : Int) : Option ((List UInt8)) :=
  cond (decide (vr = 0))
    ((fleetref2_VersionLine vr1).bind fun vr3 =>
    some vr3)
    (some ([] : List UInt8))

noncomputable def fleetlaw2_VersionsRead_x2 (vr1 : api_Version) (vr1_1 : api_Version) (vr4 : List api_Image) (vr4_1 : List UInt8) (vr5 : Int) (vr : Int) (vx1 : List UInt8) (vr2 : api_Version) (vr4_2 : Int) (vr7 : api_Version) (vr2_1 : Int) : Option (Bool) :=
  cond (decide (vr4_1 = vx1))
    (cond (decide (vr5 = vr))
      (cond ((decide (vr2.Major = vr7.Major) && (decide (vr2.Minor = vr7.Minor) && (decide (vr2.Patch = vr7.Patch) && true))))
        (cond (decide (vr4_2 = vr2_1))
          ((campaign_Compare vr1 vr1_1).bind fun vr4_3 =>
          (fleetref2_VersionOrder vr1 vr1_1).bind fun vr8 =>
          cond (decide (vr4_3 = vr8))
            ((campaign_CheckImages vr4).bind fun vr10 =>
            (fleetref2_ImagesFault vr4).bind fun vr5_1 =>
            cond (decide (vr10 = vr5_1))
              ((fleetlaw2_versioned).bind fun vr9 =>
              some vr9)
              (some false))
            (some false))
          (some false))
        (some false))
      (some false))
    (some false)

noncomputable def fleetlaw2_VersionsRead (qx : List Int) : Option (Bool) :=
  (fleetmake_Stream_Version (fleetmake_Stream.mk qx 0)).bind fun (vs3, vr1) =>
  (fleetmake_Stream_Version vs3).bind fun (vs3_1, vr1_1) =>
  (fleetmake_Stream_VersionText vs3_1).bind fun (vs5, vr6) =>
  (fleetmake_Stream_Images vs5).bind fun (vs4, vr4) =>
  (campaign_VersionText vr1).bind fun (vr4_1, vr5) =>
  (fleetref2_VersionFault vr1).bind fun vr =>
  (fleetlaw2_VersionsRead_x1 vr1 vr).bind fun vx1 =>
  (campaign_ParseVersion vr6).bind fun (vr2, vr4_2) =>
  (fleetref2_VersionOf vr6).bind fun (vr7, vr2_1) =>
  (fleetlaw2_VersionsRead_x2 vr1 vr1_1 vr4 vr4_1 vr5 vr vx1 vr2 vr4_2 vr7 vr2_1).bind fun vx2_1 =>
  some vx2_1

end Go.Eng
