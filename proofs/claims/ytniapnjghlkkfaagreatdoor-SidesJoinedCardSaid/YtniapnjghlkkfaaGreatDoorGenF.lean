/-
The Go functions that the law SidesJoined reaches, as plain functions.
-/
import Derived.Test.YtniapnjghlkkfaaGreatDoorEngV

import Derived.Lib.Repeat

import Derived.Lib.ValidU

namespace Go.Eng

open Go

set_option linter.unusedVariables false

structure fleetmake_Stream where
  L : List Int
  at_ : Int

def fleetmake_Stream.enc (x : fleetmake_Stream) : List D := [.lst (List.map (encI .i64) x.L), .int .i64 x.at_]

structure api_Value where
  Kind : Int
  Flag : Bool
  Number : Int
  Words : List UInt8

def api_Value.enc (x : api_Value) : List D := [.int .i64 x.Kind, .bool x.Flag, .int .i64 x.Number, .str x.Words]

structure api_Prop where
  Name : List UInt8
  Value : api_Value

def api_Prop.enc (x : api_Prop) : List D := [.str x.Name, .int .i64 x.Value.Kind, .bool x.Value.Flag, .int .i64 x.Value.Number, .str x.Value.Words]

structure api_Change where
  Name : List UInt8
  From : api_Value
  To : api_Value

def api_Change.enc (x : api_Change) : List D := [.str x.Name, .int .i64 x.From.Kind, .bool x.From.Flag, .int .i64 x.From.Number, .str x.From.Words, .int .i64 x.To.Kind, .bool x.To.Flag, .int .i64 x.To.Number, .str x.To.Words]

structure api_Clash where
  Name : List UInt8
  Base : api_Value
  A : api_Value
  B : api_Value

def api_Clash.enc (x : api_Clash) : List D := [.str x.Name, .int .i64 x.Base.Kind, .bool x.Base.Flag, .int .i64 x.Base.Number, .str x.Base.Words, .int .i64 x.A.Kind, .bool x.A.Flag, .int .i64 x.A.Number, .str x.A.Words, .int .i64 x.B.Kind, .bool x.B.Flag, .int .i64 x.B.Number, .str x.B.Words]

/-! ### beaconfleet/fleetmake.Below -/
noncomputable def fleetmake_Below_x1 (qx : Int) (qn : Int) : Option (Int) :=
  cond (decide ((qx.tmod qn) < 0))
    (some (IntKind.wrap .i64 ((qx.tmod qn) + qn)))
    (some (qx.tmod qn))

noncomputable def fleetmake_Below (qx : Int) (qn : Int) : Option (Int) :=
  cond (decide (qn < 1))
    (some 0)
    (gd (!(qn == 0)) <|
    (fleetmake_Below_x1 qx qn).bind fun vx1 =>
    some vx1)

/-! ### (*beaconfleet/fleetmake.Stream).Next -/
noncomputable def fleetmake_Stream_Next (qs : fleetmake_Stream) (qn : Int) : Option (Int) :=
  cond (decide ((qs.L.length : Int) = 0))
    ((fleetmake_Below (IntKind.wrap .i64 ((IntKind.wrap .i64 (qs.at_ + 1)) * 7919)) qn).bind fun vr =>
    some vr)
    (gd (!((qs.L.length : Int) == 0)) <|
    (at? qs.L ((IntKind.wrap .i64 ((IntKind.wrap .i64 (qs.at_ + 1)) - 1)).tmod (qs.L.length : Int))).bind fun vy =>
    (fleetmake_Below vy 1073741824).bind fun vr1 =>
    (fleetmake_Below (IntKind.wrap .i64 (vr1 + (IntKind.wrap .i64 ((IntKind.wrap .i64 ((IntKind.wrap .i64 ((IntKind.wrap .i64 (qs.at_ + 1)) - 1)).tdiv (qs.L.length : Int))) * (IntKind.wrap .i64 ((7919 : Int) + ((IntKind.wrap .i64 ((IntKind.wrap .i64 (qs.at_ + 1)) - 1)).tmod (qs.L.length : Int)))))))) qn).bind fun vr2 =>
    some vr2)

/-! ### (*beaconfleet/fleetmake.Stream).Range -/
noncomputable def fleetmake_Stream_Range (qs : fleetmake_Stream) (qlow : Int) (qhigh : Int) : Option (fleetmake_Stream × Int) :=
  cond (decide (qhigh < qlow))
    (some (qs, qlow))
    ((fleetmake_Stream_Next qs (IntKind.wrap .i64 ((IntKind.wrap .i64 (qhigh - qlow)) + 1))).bind fun vr3 =>
    some (fleetmake_Stream.mk qs.L (IntKind.wrap .i64 (qs.at_ + 1)), IntKind.wrap .i64 (qlow + vr3)))

/-! ### slices.Clone[[]beaconfleet/api.Prop,beaconfleet/api.Prop] -/
noncomputable def slices_Clone_api_Prop_api_Prop (qs : List api_Prop) : Option (List api_Prop) :=
  gd (Nat.ble (([] : List api_Prop).length + qs.length) LIM) (some qs)

/-! ### (*beaconfleet/fleetmake.Stream).Some -/
noncomputable def fleetmake_Stream_Some_o1 (qs : fleetmake_Stream) (ql : List (List UInt8)) : Option ((List UInt8)) :=
  (fleetmake_Stream_Next qs (ql.length : Int)).bind fun vr3 =>
  (at? ql vr3).bind fun vy =>
  some vy

/-! ### (*beaconfleet/fleetmake.Stream).Flip -/
noncomputable def fleetmake_Stream_Flip (qs : fleetmake_Stream) (qn : Int) : Option (Bool) :=
  (fleetmake_Stream_Next qs qn).bind fun vr3 =>
  some (decide (vr3 = 0))

/-! ### (*beaconfleet/fleetmake.Stream).Pick -/
noncomputable def fleetmake_Stream_Pick_o1 (qs : fleetmake_Stream) (ql : List Int) : Option (Int) :=
  (fleetmake_Stream_Next qs (ql.length : Int)).bind fun vr3 =>
  (at? ql vr3).bind fun vy =>
  some vy

/-! ### (*beaconfleet/fleetmake.Stream).RightValue -/
noncomputable def fleetmake_Stream_RightValue (qs : fleetmake_Stream) : Option (api_Value) :=
  (fleetmake_Stream_Next qs 4).bind fun vr3 =>
  cond (decide (vr3 = 0))
    ((fleetmake_Stream_Flip (fleetmake_Stream.mk qs.L (IntKind.wrap .i64 (qs.at_ + 1))) 2).bind fun vr =>
    some (api_Value.mk 1 vr 0 ([] : List UInt8)))
    (cond (decide (vr3 = 1))
      ((fleetmake_Stream_Some_o1 (fleetmake_Stream.mk qs.L (IntKind.wrap .i64 (qs.at_ + 1))) ([([] : List UInt8), ([120] : List UInt8), ([97, 32, 34, 98, 34] : List UInt8), ([92] : List UInt8), ([195, 169] : List UInt8), ([45, 32, 49] : List UInt8)] : List (List UInt8))).bind fun vr1 =>
      some (api_Value.mk 3 false 0 vr1))
      ((fleetmake_Stream_Pick_o1 (fleetmake_Stream.mk qs.L (IntKind.wrap .i64 (qs.at_ + 1))) ([1, 2, 2, 3, 0, (-5), 1000000000] : List Int)).bind fun vr2 =>
      some (api_Value.mk 2 false vr2 ([] : List UInt8))))

/-! ### math/bits.Len64 -/
noncomputable def bits_Len64_x1 (qx : Int) : Option ((Int × Int)) :=
  cond (decide (4294967296 ≤ qx))
    (some (ishr .u64 qx 32, 32))
    (some (qx, 0))

noncomputable def bits_Len64_x2 (vx1 : Int) (vn1 : Int) : Option ((Int × Int)) :=
  cond (decide (65536 ≤ vx1))
    (some (ishr .u64 vx1 16, IntKind.wrap .i64 (vn1 + 16)))
    (some (vx1, vn1))

noncomputable def bits_Len64_x3 (vx2_1 : Int) (vn2_1 : Int) : Option ((Int × Int)) :=
  cond (decide (256 ≤ vx2_1))
    (some (ishr .u64 vx2_1 8, IntKind.wrap .i64 (vn2_1 + 8)))
    (some (vx2_1, vn2_1))

noncomputable def bits_Len64 (qx : Int) : Option (Int) :=
  (bits_Len64_x1 qx).bind fun (vx1, vn1) =>
  (bits_Len64_x2 vx1 vn1).bind fun (vx2_1, vn2_1) =>
  (bits_Len64_x3 vx2_1 vn2_1).bind fun (vx3_1, vn3_1) =>
  (at? ([0, 1, 2, 2, 3, 3, 3, 3, 4, 4, 4, 4, 4, 4, 4, 4, 5, 5, 5, 5, 5, 5, 5, 5, 5, 5, 5, 5, 5, 5, 5, 5, 6, 6, 6, 6, 6, 6, 6, 6, 6, 6, 6, 6, 6, 6, 6, 6, 6, 6, 6, 6, 6, 6, 6, 6, 6, 6, 6, 6, 6, 6, 6, 6, 7, 7, 7, 7, 7, 7, 7, 7, 7, 7, 7, 7, 7, 7, 7, 7, 7, 7, 7, 7, 7, 7, 7, 7, 7, 7, 7, 7, 7, 7, 7, 7, 7, 7, 7, 7, 7, 7, 7, 7, 7, 7, 7, 7, 7, 7, 7, 7, 7, 7, 7, 7, 7, 7, 7, 7, 7, 7, 7, 7, 7, 7, 7, 7, 8, 8, 8, 8, 8, 8, 8, 8, 8, 8, 8, 8, 8, 8, 8, 8, 8, 8, 8, 8, 8, 8, 8, 8, 8, 8, 8, 8, 8, 8, 8, 8, 8, 8, 8, 8, 8, 8, 8, 8, 8, 8, 8, 8, 8, 8, 8, 8, 8, 8, 8, 8, 8, 8, 8, 8, 8, 8, 8, 8, 8, 8, 8, 8, 8, 8, 8, 8, 8, 8, 8, 8, 8, 8, 8, 8, 8, 8, 8, 8, 8, 8, 8, 8, 8, 8, 8, 8, 8, 8, 8, 8, 8, 8, 8, 8, 8, 8, 8, 8, 8, 8, 8, 8, 8, 8, 8, 8, 8, 8, 8, 8, 8, 8, 8, 8, 8, 8, 8, 8, 8, 8, 8, 8, 8, 8, 8, 8] : List UInt8) (IntKind.wrap .u8 (vx3_1))).bind fun vc =>
  some (IntKind.wrap .i64 (vn3_1 + (IntKind.wrap .i64 ((vc.toNat : Int)))))

/-! ### math/bits.Len -/
noncomputable def bits_Len (qx : Int) : Option (Int) :=
  (bits_Len64 qx).bind fun vr =>
  some vr

/-! ### internal/bytealg.CompareString -/
noncomputable def bytealg_CompareString (qa : List UInt8) (qb : List UInt8) : Option (Unit) :=
  some ()

/-! ### strings.Compare -/
noncomputable def strings_Compare (qa : List UInt8) (qb : List UInt8) : Option (Unit) :=
  (bytealg_CompareString qa qb).bind fun _ =>
  some ()

/-! ### beaconfleet/fleetmake.propOrder -/
noncomputable def fleetmake_propOrder (qa : api_Prop) (qb : api_Prop) : Option (Unit) :=
  (strings_Compare qa.Name qb.Name).bind fun _ =>
  some ()

/-! ### slices.insertionSortCmpFunc[beaconfleet/api.Prop] -/
noncomputable def slices_insertionSortCmpFunc_api_Prop_o0_f3_fleetmake_propOrder_x3 (qa : Int) (vl3 : List api_Prop) (vj1 : Int) : Option (Bool) :=
  cond (decide (qa < vj1))
    ((at? vl3 vj1).bind fun vy15 =>
    (at? vl3 (IntKind.wrap .i64 (vj1 - 1))).bind fun vy16 =>
    (fleetmake_propOrder (api_Prop.mk vy15.Name (api_Value.mk vy15.Value.Kind vy15.Value.Flag vy15.Value.Number vy15.Value.Words)) (api_Prop.mk vy16.Name (api_Value.mk vy16.Value.Kind vy16.Value.Flag vy16.Value.Number vy16.Value.Words))).bind fun _ =>
    some (decide ((Lib.compareBytes vy15.Name vy16.Name) < 0)))
    (some false)

noncomputable def slices_insertionSortCmpFunc_api_Prop_o0_f3_fleetmake_propOrder_x2 (qa : Int) : (List api_Prop) × Int → Option (((List api_Prop) × Int) ⊕ ((List api_Prop)))
  | (vl3, vj1) =>
  (slices_insertionSortCmpFunc_api_Prop_o0_f3_fleetmake_propOrder_x3 qa vl3 vj1).bind fun vx4_1 =>
  cond (vx4_1)
    ((at? vl3 (IntKind.wrap .i64 (vj1 - 1))).bind fun vy17 =>
    (at? vl3 vj1).bind fun vy18 =>
    (at? (vl3.set vj1.toNat (api_Prop.mk vy17.Name (api_Value.mk vy17.Value.Kind vy17.Value.Flag vy17.Value.Number vy17.Value.Words))) (IntKind.wrap .i64 (vj1 - 1))).bind fun vy19 =>
    some (.inl ((vl3.set vj1.toNat (api_Prop.mk vy17.Name (api_Value.mk vy17.Value.Kind vy17.Value.Flag vy17.Value.Number vy17.Value.Words))).set (IntKind.wrap .i64 (vj1 - 1)).toNat (api_Prop.mk vy18.Name (api_Value.mk vy18.Value.Kind vy18.Value.Flag vy18.Value.Number vy18.Value.Words)), IntKind.wrap .i64 (vj1 - 1))))
    (some (.inr vl3))

noncomputable def slices_insertionSortCmpFunc_api_Prop_o0_f3_fleetmake_propOrder_x1 (qa : Int) (qb : Int) : (List api_Prop) × Int → Option (((List api_Prop) × Int) ⊕ ((List api_Prop)))
  | (vl, vi) =>
  cond (decide (vi < qb))
    ((loopO (slices_insertionSortCmpFunc_api_Prop_o0_f3_fleetmake_propOrder_x2 qa) (vl, vi)).bind fun vl4_1 =>
    some (.inl (vl4_1, IntKind.wrap .i64 (vi + 1))))
    (some (.inr vl))

noncomputable def slices_insertionSortCmpFunc_api_Prop_o0_f3_fleetmake_propOrder (qdata : List api_Prop) (qa : Int) (qb : Int) : Option ((List api_Prop)) :=
  (loopO (slices_insertionSortCmpFunc_api_Prop_o0_f3_fleetmake_propOrder_x1 qa qb) (qdata, IntKind.wrap .i64 (qa + 1))).bind fun vl5_1 =>
  some vl5_1

/-! ### slices.pdqsortCmpFunc[beaconfleet/api.Prop] -/
noncomputable def slices_pdqsortCmpFunc_api_Prop_o0_f4_fleetmake_propOrder_x1 (qx : List api_Prop) (qx1 : Int) (qx2 : Int) (qx3 : Int) : Unit → Option ((Unit) ⊕ ((List api_Prop)))
  | _ =>
  cond (decide ((IntKind.wrap .i64 (qx2 - qx1)) ≤ 12))
    ((slices_insertionSortCmpFunc_api_Prop_o0_f3_fleetmake_propOrder qx qx1 qx2).bind fun vl6_1 =>
    gd (vl6_1.length == qx.length) <|
    some (.inr vl6_1))
    (cond (decide (qx3 = 0))
      (none)
      (none))

noncomputable def slices_pdqsortCmpFunc_api_Prop_o0_f4_fleetmake_propOrder (qx : List api_Prop) (qx1 : Int) (qx2 : Int) (qx3 : Int) : Option ((List api_Prop)) :=
  (loopO (slices_pdqsortCmpFunc_api_Prop_o0_f4_fleetmake_propOrder_x1 qx qx1 qx2 qx3) ()).bind fun vl1 =>
  some vl1

/-! ### slices.SortFunc[[]beaconfleet/api.Prop,beaconfleet/api.Prop] -/
noncomputable def slices_SortFunc_api_Prop_api_Prop_o0_f1_fleetmake_propOrder (qx : List api_Prop) : Option ((List api_Prop)) :=
  (bits_Len (IntKind.wrap .u64 ((qx.length : Int)))).bind fun vr1 =>
  (slices_pdqsortCmpFunc_api_Prop_o0_f4_fleetmake_propOrder qx 0 (qx.length : Int) vr1).bind fun vl2 =>
  gd (vl2.length == qx.length) <|
  some vl2

/-! ### unicode/utf8.RuneCountInString -/
noncomputable def utf8_RuneCountInString_x1 (qs : List UInt8) : Nat × Int → Option ((Nat × Int) ⊕ (Int))
  | (vpos, vn) =>
  cond (decide (vpos < qs.length))
    ((some (dec qs vpos)).bind fun vd1 =>
    some (.inl ((vpos + vd1.2 : Nat), IntKind.wrap .i64 (vn + 1))))
    (some (.inr vn))

noncomputable def utf8_RuneCountInString (qs : List UInt8) : Option (Int) :=
  (loopO (utf8_RuneCountInString_x1 qs) ((0 : Nat), 0)).bind fun vn1_1 =>
  some vn1_1

/-! ### unicode/utf8.decodeRuneInStringSlow -/
noncomputable def utf8_decodeRuneInStringSlow (qx : List UInt8) : Option (Unit) :=
  cond (decide ((qx.length : Int) < 1))
    (some ())
    ((at? qx 0).bind fun vc =>
    none)

/-! ### unicode/utf8.DecodeRuneInString -/
noncomputable def utf8_DecodeRuneInString_x1 (qs : List UInt8) : Option (Bool) :=
  cond (!decide (qs = ([] : List UInt8)))
    ((at? qs 0).bind fun vc =>
    some (decide ((vc.toNat : Int) < 128)))
    (some false)

noncomputable def utf8_DecodeRuneInString (qs : List UInt8) : Option (Int × Int) :=
  (utf8_DecodeRuneInString_x1 qs).bind fun vx1 =>
  cond (vx1)
    ((at? qs 0).bind fun vc1 =>
    some (IntKind.wrap .i32 ((vc1.toNat : Int)), 1))
    ((utf8_decodeRuneInStringSlow qs).bind fun _ =>
    some (65533, 0))

/-! ### strings.explode -/
noncomputable def strings_explode_x2 (qn : Int) (vr : Int) : Option (Bool) :=
  cond (decide (qn < 0))
    (some true)
    (some (decide (vr < qn)))

noncomputable def strings_explode_x1 (qn : Int) (vr : Int) : Option (Int) :=
  (strings_explode_x2 qn vr).bind fun vx1 =>
  cond (vx1)
    (some vr)
    (some qn)

noncomputable def strings_explode_x3 (vn1 : Int) : (List UInt8) × (List (List UInt8)) × Int → Option (((List UInt8) × (List (List UInt8)) × Int) ⊕ (((List UInt8) × (List (List UInt8)))))
  | (vs, va, vi) =>
  cond (decide (vi < (IntKind.wrap .i64 (vn1 - 1))))
    ((utf8_DecodeRuneInString vs).bind fun (vr2, vr1_2) =>
    (sub? vs 0 vr1_2).bind fun vs3 =>
    (at? va vi).bind fun vy1 =>
    (sub? vs vr1_2 (vs.length : Int)).bind fun vs4 =>
    some (.inl (vs4, va.set vi.toNat vs3, IntKind.wrap .i64 (vi + 1))))
    (some (.inr (vs, va)))

noncomputable def strings_explode_x4 (vn1 : Int) (vs5_1 : List UInt8) (va1_1 : List (List UInt8)) : Option ((List (List UInt8))) :=
  cond (decide (0 < vn1))
    ((at? va1_1 (IntKind.wrap .i64 (vn1 - 1))).bind fun vy2 =>
    some (va1_1.set (IntKind.wrap .i64 (vn1 - 1)).toNat vs5_1))
    (some va1_1)

noncomputable def strings_explode (qs : List UInt8) (qn : Int) : Option ((List (List UInt8))) :=
  (utf8_RuneCountInString qs).bind fun vr =>
  (strings_explode_x1 qn vr).bind fun vn1 =>
  gd (decide (0 ≤ vn1) && decide (vn1 ≤ vn1) && decide (vn1 ≤ 137438953472)) <|
  (loopO (strings_explode_x3 vn1) (qs, List.replicate vn1.toNat ([] : List UInt8), 0)).bind fun (vs5_1, va1_1) =>
  (strings_explode_x4 vn1 vs5_1 va1_1).bind fun va2_1 =>
  some va2_1

/-! ### internal/stringslite.IndexByte -/
noncomputable def stringslite_IndexByte (qs : List UInt8) (qc : Int) : Option (Unit) :=
  some ()

/-! ### internal/stringslite.Index -/
noncomputable def stringslite_Index_x1 (qx : List UInt8) (qx1 : List UInt8) : Option (Bool) :=
  cond (decide ((qx1.length : Int) = 0))
    (some true)
    (some (decide (qx1 = qx)))

noncomputable def stringslite_Index (qx : List UInt8) (qx1 : List UInt8) : Option (Int) :=
  (stringslite_Index_x1 qx qx1).bind fun vx1 =>
  cond (vx1)
    (some 0)
    (cond (decide ((qx1.length : Int) = 1))
      ((at? qx1 0).bind fun vc =>
      (stringslite_IndexByte qx (vc.toNat : Int)).bind fun _ =>
      some (Lib.indexByte qx (vc.toNat : Int).toNat.toUInt8))
      (cond (decide ((qx.length : Int) ≤ (qx1.length : Int)))
        (some (-1))
        (none)))

/-! ### strings.Index -/
noncomputable def strings_Index (qs : List UInt8) (qsubstr : List UInt8) : Option (Int) :=
  (stringslite_Index qs qsubstr).bind fun vr =>
  some vr

/-! ### strings.Count -/
noncomputable def strings_Count_x1 (qsubstr : List UInt8) : (List UInt8) × Int → Option (((List UInt8) × Int) ⊕ (Int))
  | (vs, vn) =>
  (strings_Index vs qsubstr).bind fun vr1_1 =>
  cond (decide (vr1_1 = (-1)))
    (some (.inr vn))
    ((sub? vs (IntKind.wrap .i64 (vr1_1 + (qsubstr.length : Int))) (vs.length : Int)).bind fun vs2 =>
    some (.inl (vs2, IntKind.wrap .i64 (vn + 1))))

noncomputable def strings_Count (qs : List UInt8) (qsubstr : List UInt8) : Option (Int) :=
  cond (decide ((qsubstr.length : Int) = 0))
    ((utf8_RuneCountInString qs).bind fun vr =>
    some (IntKind.wrap .i64 (vr + 1)))
    (cond (decide ((qsubstr.length : Int) = 1))
      ((at? qsubstr 0).bind fun vc =>
      some (countB qs (vc.toNat : Int).toNat.toUInt8))
      ((loopO (strings_Count_x1 qsubstr) (qs, 0)).bind fun vx1 =>
      some vx1))

/-! ### strings.genSplit -/
noncomputable def strings_genSplit_x1 (qx : List UInt8) (qx1 : List UInt8) (qx3 : Int) : Option (Int) :=
  cond (decide (qx3 < 0))
    ((strings_Count qx qx1).bind fun vr2 =>
    some (IntKind.wrap .i64 (vr2 + 1)))
    (some qx3)

noncomputable def strings_genSplit_x2 (qx : List UInt8) (qx1 : List UInt8) (qx2 : Int) (vx1 : Int) : (List UInt8) × (List (List UInt8)) × Int → Option (((List UInt8) × (List (List UInt8)) × Int) ⊕ (((List UInt8) × (List (List UInt8)) × Int)))
  | (vx2, vx3, vx4) =>
  cond (decide (vx4 < (IntKind.wrap .i64 ((imin vx1 (IntKind.wrap .i64 ((qx.length : Int) + 1))) - 1))))
    ((strings_Index vx2 qx1).bind fun vr1_1 =>
    cond (decide (vr1_1 < 0))
      (some (.inr (vx2, vx3, vx4)))
      ((sub? vx2 0 (IntKind.wrap .i64 (vr1_1 + qx2))).bind fun vs2 =>
      (at? vx3 vx4).bind fun vy1 =>
      (sub? vx2 (IntKind.wrap .i64 (vr1_1 + (qx1.length : Int))) (vx2.length : Int)).bind fun vs3 =>
      some (.inl (vs3, vx3.set vx4.toNat vs2, IntKind.wrap .i64 (vx4 + 1)))))
    (some (.inr (vx2, vx3, vx4)))

noncomputable def strings_genSplit (qx : List UInt8) (qx1 : List UInt8) (qx2 : Int) (qx3 : Int) : Option ((List (List UInt8))) :=
  cond (decide (qx3 = 0))
    (some [])
    (cond (decide (qx1 = ([] : List UInt8)))
      ((strings_explode qx qx3).bind fun vr3 =>
      some vr3)
      ((strings_genSplit_x1 qx qx1 qx3).bind fun vx1 =>
      gd (decide (0 ≤ (imin vx1 (IntKind.wrap .i64 ((qx.length : Int) + 1)))) && decide ((imin vx1 (IntKind.wrap .i64 ((qx.length : Int) + 1))) ≤ (imin vx1 (IntKind.wrap .i64 ((qx.length : Int) + 1)))) && decide ((imin vx1 (IntKind.wrap .i64 ((qx.length : Int) + 1))) ≤ 137438953472)) <|
      (loopO (strings_genSplit_x2 qx qx1 qx2 vx1) (qx, List.replicate (imin vx1 (IntKind.wrap .i64 ((qx.length : Int) + 1))).toNat ([] : List UInt8), 0)).bind fun (vx5_1, vx6_1, vx7_1) =>
      (at? vx6_1 vx7_1).bind fun vy2 =>
      gd (decide (0 ≤ (IntKind.wrap .i64 (vx7_1 + 1))) && decide ((IntKind.wrap .i64 (vx7_1 + 1)) ≤ ((vx6_1.set vx7_1.toNat vx5_1).length : Int))) <|
      some ((vx6_1.set vx7_1.toNat vx5_1).take (IntKind.wrap .i64 (vx7_1 + 1)).toNat)))

/-! ### strings.Split -/
noncomputable def strings_Split (qs : List UInt8) (qsep : List UInt8) : Option ((List (List UInt8))) :=
  (strings_genSplit qs qsep 0 (-1)).bind fun vr =>
  some vr

/-! ### beaconfleet/fleetref2.in -/
noncomputable def fleetref2_in_x1 (qn : Int) (qlow : Int) (qhigh : Int) : Option (Bool) :=
  cond (decide (qlow ≤ qn))
    (some (decide (qn ≤ qhigh)))
    (some false)

noncomputable def fleetref2_in (qn : Int) (qlow : Int) (qhigh : Int) : Option (Bool) :=
  (fleetref2_in_x1 qn qlow qhigh).bind fun vx1 =>
  some vx1

/-! ### strings.IndexByte -/
noncomputable def strings_IndexByte (qs : List UInt8) (qc : Int) : Option (Unit) :=
  (stringslite_IndexByte qs qc).bind fun _ =>
  some ()

/-! ### beaconfleet/fleetref2.only -/
noncomputable def fleetref2_only_x1 (qs : List UInt8) (qsome : List UInt8) (vx : Int) : Option ((Int) ⊕ (Unit ⊕ Unit)) :=
  cond (decide (vx < (qs.length : Int)))
    ((at? qs vx).bind fun vc1 =>
    (strings_IndexByte qsome (vc1.toNat : Int)).bind fun _ =>
    cond (decide ((Lib.indexByte qsome (vc1.toNat : Int).toNat.toUInt8) < 0))
      (some (.inr (.inr ())))
      (some (.inl (IntKind.wrap .i64 (vx + 1)))))
    (some (.inr (.inl ())))

noncomputable def fleetref2_only (qs : List UInt8) (qsome : List UInt8) : Option (Bool) :=
  (loopO (fleetref2_only_x1 qs qsome) 0).bind fun x => match x with
    | .inl _ =>
      some true
    | .inr _ =>
      some false

/-! ### beaconfleet/fleetref2.Key -/
noncomputable def fleetref2_Key_x1 (qs : List UInt8) : Option (Bool) :=
  (fleetref2_in (qs.length : Int) 1 40).bind fun vr =>
  cond (vr)
    ((sub? qs 0 1).bind fun vs =>
    (fleetref2_only vs ([97, 98, 99, 100, 101, 102, 103, 104, 105, 106, 107, 108, 109, 110, 111, 112, 113, 114, 115, 116, 117, 118, 119, 120, 121, 122] : List UInt8)).bind fun vr1 =>
    cond (vr1)
      ((fleetref2_only qs ([97, 98, 99, 100, 101, 102, 103, 104, 105, 106, 107, 108, 109, 110, 111, 112, 113, 114, 115, 116, 117, 118, 119, 120, 121, 122, 48, 49, 50, 51, 52, 53, 54, 55, 56, 57, 45, 95] : List UInt8)).bind fun vr2 =>
      some vr2)
      (some false))
    (some false)

noncomputable def fleetref2_Key (qs : List UInt8) : Option (Bool) :=
  (fleetref2_Key_x1 qs).bind fun vx1 =>
  some vx1

/-! ### beaconfleet/fleetref2.PropName$1 -/
noncomputable def fleetref2_PropName_1 (qk : List UInt8) : Option (Bool) :=
  (fleetref2_Key qk).bind fun vr3 =>
  some (!vr3)

/-! ### slices.IndexFunc[[]string,string] -/
noncomputable def slices_IndexFunc_string_string_f1_fleetref2_PropName_1_x1 (qs : List (List UInt8)) (vx : Int) : Option ((Int) ⊕ (Unit ⊕ Int)) :=
  cond (decide (vx < (qs.length : Int)))
    ((at? qs vx).bind fun vy1 =>
    (fleetref2_PropName_1 vy1).bind fun vr1 =>
    cond (vr1)
      (some (.inr (.inr vx)))
      (some (.inl (IntKind.wrap .i64 (vx + 1)))))
    (some (.inr (.inl ())))

noncomputable def slices_IndexFunc_string_string_f1_fleetref2_PropName_1 (qs : List (List UInt8)) : Option (Int) :=
  (loopO (slices_IndexFunc_string_string_f1_fleetref2_PropName_1_x1 qs) 0).bind fun x => match x with
    | .inl _ =>
      some (-1)
    | .inr vx1_1 =>
      some vx1_1

/-! ### slices.ContainsFunc[[]string,string] -/
noncomputable def slices_ContainsFunc_string_string_f1_fleetref2_PropName_1 (qs : List (List UInt8)) : Option (Bool) :=
  (slices_IndexFunc_string_string_f1_fleetref2_PropName_1 qs).bind fun vr2 =>
  some (decide (0 ≤ vr2))

/-! ### beaconfleet/fleetref2.PropName -/
noncomputable def fleetref2_PropName_x1 (vr1 : List (List UInt8)) : Option (Bool) :=
  cond (decide ((vr1.length : Int) ≤ 8))
    ((slices_ContainsFunc_string_string_f1_fleetref2_PropName_1 vr1).bind fun vr =>
    some (!vr))
    (some false)

noncomputable def fleetref2_PropName (qs : List UInt8) : Option (Bool) :=
  (strings_Split qs ([46] : List UInt8)).bind fun vr1 =>
  (fleetref2_PropName_x1 vr1).bind fun vx1 =>
  some vx1

/-! ### unicode/utf8.ValidString -/
noncomputable def utf8_ValidString (qx : List UInt8) : Option (Bool) :=
  gd (decide (qx.length ≤ 9223372036854775807)) (some (Lib.validD qx))

/-! ### beaconfleet/fleetref2.Printed$1 -/
noncomputable def fleetref2_Printed_1_x1 (qr : Int) : Option (Bool) :=
  cond (decide (qr < 32))
    (some true)
    (some (decide (qr = 127)))

noncomputable def fleetref2_Printed_1 (qr : Int) : Option (Bool) :=
  (fleetref2_Printed_1_x1 qr).bind fun vx1 =>
  some vx1

/-! ### strings.indexFunc -/
noncomputable def strings_indexFunc_f1_fleetref2_Printed_1_x1 (qs : List UInt8) (qtruth : Bool) (vpos : Nat) : Option ((Nat) ⊕ (Unit ⊕ Int)) :=
  cond (decide (vpos < qs.length))
    ((some (dec qs vpos)).bind fun vd1 =>
    (fleetref2_Printed_1 ((vd1.1 : Nat) : Int)).bind fun vr1 =>
    cond (vr1 == qtruth)
      (some (.inr (.inr ((vpos : Nat) : Int))))
      (some (.inl (vpos + vd1.2 : Nat))))
    (some (.inr (.inl ())))

noncomputable def strings_indexFunc_f1_fleetref2_Printed_1 (qs : List UInt8) (qtruth : Bool) : Option (Int) :=
  (loopO (strings_indexFunc_f1_fleetref2_Printed_1_x1 qs qtruth) (0 : Nat)).bind fun x => match x with
    | .inl _ =>
      some (-1)
    | .inr vx1 =>
      some vx1

/-! ### strings.IndexFunc -/
noncomputable def strings_IndexFunc_f1_fleetref2_Printed_1 (qs : List UInt8) : Option (Int) :=
  (strings_indexFunc_f1_fleetref2_Printed_1 qs true).bind fun vr2 =>
  some vr2

/-! ### strings.ContainsFunc -/
noncomputable def strings_ContainsFunc_f1_fleetref2_Printed_1 (qs : List UInt8) : Option (Bool) :=
  (strings_IndexFunc_f1_fleetref2_Printed_1 qs).bind fun vr =>
  some (decide (0 ≤ vr))

/-! ### beaconfleet/fleetref2.Printed -/
noncomputable def fleetref2_Printed_x1 (qs : List UInt8) : Option (Bool) :=
  (utf8_ValidString qs).bind fun vr =>
  cond (vr)
    ((strings_ContainsFunc_f1_fleetref2_Printed_1 qs).bind fun vr1 =>
    some (!vr1))
    (some false)

noncomputable def fleetref2_Printed (qs : List UInt8) : Option (Bool) :=
  (fleetref2_Printed_x1 qs).bind fun vx1 =>
  some vx1

/-! ### beaconfleet/fleetref2.ValueFault -/
noncomputable def fleetref2_ValueFault_x1 (qv : api_Value) : Option (api_Value) :=
  cond (decide (qv.Kind = 1))
    (some (api_Value.mk qv.Kind qv.Flag 0 ([] : List UInt8)))
    (cond (decide (qv.Kind = 2))
      (some (api_Value.mk qv.Kind false qv.Number ([] : List UInt8)))
      (cond (decide (qv.Kind = 3))
        (some (api_Value.mk qv.Kind false 0 qv.Words))
        (some (api_Value.mk qv.Kind false 0 ([] : List UInt8)))))

noncomputable def fleetref2_ValueFault (qv : api_Value) : Option (Int) :=
  (fleetref2_in qv.Kind 0 3).bind fun vr =>
  cond (!vr)
    (some 4)
    ((fleetref2_ValueFault_x1 qv).bind fun vplain1 =>
    cond (!(decide (vplain1.Kind = qv.Kind) && ((vplain1.Flag == qv.Flag) && (decide (vplain1.Number = qv.Number) && (decide (vplain1.Words = qv.Words) && true)))))
      (some 3)
      ((fleetref2_in qv.Number (-1000000000) 1000000000).bind fun vr1 =>
      cond (!vr1)
        (some 1)
        (cond (decide (1000 < (qv.Words.length : Int)))
          (some 2)
          ((fleetref2_Printed qv.Words).bind fun vr2 =>
          cond (!vr2)
            (some 3)
            (some 0)))))

/-! ### internal/stringslite.HasPrefix -/
noncomputable def stringslite_HasPrefix_x1 (qs : List UInt8) (qprefix : List UInt8) : Option (Bool) :=
  cond (decide ((qprefix.length : Int) ≤ (qs.length : Int)))
    ((sub? qs 0 (qprefix.length : Int)).bind fun vs =>
    some (decide (vs = qprefix)))
    (some false)

noncomputable def stringslite_HasPrefix (qs : List UInt8) (qprefix : List UInt8) : Option (Bool) :=
  (stringslite_HasPrefix_x1 qs qprefix).bind fun vx1 =>
  some vx1

/-! ### strings.HasPrefix -/
noncomputable def strings_HasPrefix (qs : List UInt8) (qprefix : List UInt8) : Option (Bool) :=
  (stringslite_HasPrefix qs qprefix).bind fun vr =>
  some vr

/-! ### beaconfleet/fleetref2.above -/
noncomputable def fleetref2_above (qa : List UInt8) (qb : List UInt8) : Option (Bool) :=
  gd (Nat.ble (qa.length + ([46] : List UInt8).length) LIM) <|
  (strings_HasPrefix qb (qa ++ ([46] : List UInt8))).bind fun vr1 =>
  some vr1

/-! ### beaconfleet/fleetref2.PropsFault$1 -/
noncomputable def fleetref2_PropsFault_1 (qq : api_Prop) (qx : api_Prop) : Option (Bool) :=
  (fleetref2_above qq.Name qx.Name).bind fun vr =>
  some vr

/-! ### slices.IndexFunc[[]beaconfleet/api.Prop,beaconfleet/api.Prop] -/
noncomputable def slices_IndexFunc_api_Prop_api_Prop_f1_fleetref2_PropsFault_1_x1 (qs : List api_Prop) (qf : api_Prop) (vx : Int) : Option ((Int) ⊕ (Unit ⊕ Int)) :=
  cond (decide (vx < (qs.length : Int)))
    ((at? qs vx).bind fun vy1 =>
    (fleetref2_PropsFault_1 (api_Prop.mk vy1.Name (api_Value.mk vy1.Value.Kind vy1.Value.Flag vy1.Value.Number vy1.Value.Words)) (api_Prop.mk qf.Name (api_Value.mk qf.Value.Kind qf.Value.Flag qf.Value.Number qf.Value.Words))).bind fun vr1_1 =>
    cond (vr1_1)
      (some (.inr (.inr vx)))
      (some (.inl (IntKind.wrap .i64 (vx + 1)))))
    (some (.inr (.inl ())))

noncomputable def slices_IndexFunc_api_Prop_api_Prop_f1_fleetref2_PropsFault_1 (qs : List api_Prop) (qf : api_Prop) : Option (Int) :=
  (loopO (slices_IndexFunc_api_Prop_api_Prop_f1_fleetref2_PropsFault_1_x1 qs qf) 0).bind fun x => match x with
    | .inl _ =>
      some (-1)
    | .inr vx1_1 =>
      some vx1_1

/-! ### slices.ContainsFunc[[]beaconfleet/api.Prop,beaconfleet/api.Prop] -/
noncomputable def slices_ContainsFunc_api_Prop_api_Prop_f1_fleetref2_PropsFault_1 (qs : List api_Prop) (qf : api_Prop) : Option (Bool) :=
  (slices_IndexFunc_api_Prop_api_Prop_f1_fleetref2_PropsFault_1 qs (api_Prop.mk qf.Name (api_Value.mk qf.Value.Kind qf.Value.Flag qf.Value.Number qf.Value.Words))).bind fun vr =>
  some (decide (0 ≤ vr))

/-! ### beaconfleet/fleetref2.PropsFault -/
noncomputable def fleetref2_PropsFault_x2 (ql : List api_Prop) (vx : Int) (vy2 : api_Prop) : Option (Bool) :=
  cond (decide (0 < vx))
    ((at? ql (IntKind.wrap .i64 (vx - 1))).bind fun vy3 =>
    some (Op.bytesLess vy2.Name vy3.Name || decide (vy2.Name = vy3.Name)))
    (some false)

noncomputable def fleetref2_PropsFault_x1 (ql : List api_Prop) (vx : Int) : Option ((Int) ⊕ (Unit ⊕ Int)) :=
  cond (decide (vx < (ql.length : Int)))
    ((at? ql vx).bind fun vy2 =>
    (fleetref2_PropName vy2.Name).bind fun vr2_1 =>
    cond (!vr2_1)
      (some (.inr (.inr 5)))
      ((fleetref2_ValueFault (api_Value.mk vy2.Value.Kind vy2.Value.Flag vy2.Value.Number vy2.Value.Words)).bind fun vr3_1 =>
      cond (!decide (vr3_1 = 0))
        (some (.inr (.inr vr3_1)))
        (cond (decide (vy2.Value.Kind = 0))
          (some (.inr (.inr 4)))
          ((fleetref2_PropsFault_x2 ql vx vy2).bind fun vx2_1 =>
          cond (vx2_1)
            (some (.inr (.inr 7)))
            (some (.inl (IntKind.wrap .i64 (vx + 1))))))))
    (some (.inr (.inl ())))

noncomputable def fleetref2_PropsFault_x3 (ql : List api_Prop) (vx4 : Int) : Option ((Int) ⊕ (Unit ⊕ Unit)) :=
  cond (decide (vx4 < (ql.length : Int)))
    ((at? ql vx4).bind fun vy5 =>
    (slices_ContainsFunc_api_Prop_api_Prop_f1_fleetref2_PropsFault_1 ql (api_Prop.mk vy5.Name (api_Value.mk vy5.Value.Kind vy5.Value.Flag vy5.Value.Number vy5.Value.Words))).bind fun vr1_1 =>
    cond (vr1_1)
      (some (.inr (.inr ())))
      (some (.inl (IntKind.wrap .i64 (vx4 + 1)))))
    (some (.inr (.inl ())))

noncomputable def fleetref2_PropsFault (ql : List api_Prop) : Option (Int) :=
  cond (decide (500 < (ql.length : Int)))
    (some 2)
    ((loopO (fleetref2_PropsFault_x1 ql) 0).bind fun x => match x with
      | .inl _ =>
        (loopO (fleetref2_PropsFault_x3 ql) 0).bind fun x => match x with
          | .inl _ =>
            some 0
          | .inr _ =>
            some 13
      | .inr vx3_1 =>
        some vx3_1)

/-! ### (*beaconfleet/fleetmake.Stream).RightProps -/
noncomputable def fleetmake_Stream_RightProps_x2 (vs1 : fleetmake_Stream) (vout : List api_Prop) : Option ((List api_Prop)) :=
  (slices_Clone_api_Prop_api_Prop vout).bind fun vr5 =>
  (fleetmake_Stream_Some_o1 vs1 ([([97] : List UInt8), ([97, 46, 120] : List UInt8), ([97, 46, 121] : List UInt8), ([97, 46, 120, 46, 112] : List UInt8), ([98] : List UInt8), ([98, 46, 122] : List UInt8), ([97, 98] : List UInt8)] : List (List UInt8))).bind fun vr6 =>
  (fleetmake_Stream_RightValue (fleetmake_Stream.mk vs1.L (IntKind.wrap .i64 (vs1.at_ + 1)))).bind fun vr4_1 =>
  gd (Nat.ble (vr5.length + ([api_Prop.mk vr6 vr4_1] : List api_Prop).length) LIM) <|
  (slices_SortFunc_api_Prop_api_Prop_o0_f1_fleetmake_propOrder (vr5 ++ ([api_Prop.mk vr6 vr4_1] : List api_Prop))).bind fun vl1 =>
  gd (vl1.length == (vr5 ++ ([api_Prop.mk vr6 vr4_1] : List api_Prop)).length) <|
  (fleetref2_PropsFault vl1).bind fun vr7 =>
  cond (decide (vr7 = 0))
    (some vl1)
    (some vout)

noncomputable def fleetmake_Stream_RightProps_x1 (vr : Int) : fleetmake_Stream × (List api_Prop) × Int → Option ((fleetmake_Stream × (List api_Prop) × Int) ⊕ ((fleetmake_Stream × (List api_Prop))))
  | (vs1, vout, vx) =>
  cond (decide (vx < vr))
    ((fleetmake_Stream_RightProps_x2 vs1 vout).bind fun vout2_1 =>
    some (.inl (fleetmake_Stream.mk vs1.L (IntKind.wrap .i64 ((IntKind.wrap .i64 ((IntKind.wrap .i64 (vs1.at_ + 1)) + 1)) + 1)), vout2_1, IntKind.wrap .i64 (vx + 1))))
    (some (.inr (vs1, vout)))

noncomputable def fleetmake_Stream_RightProps (qs : fleetmake_Stream) : Option (fleetmake_Stream × (List api_Prop)) :=
  (fleetmake_Stream_Range qs 0 5).bind fun (vs, vr) =>
  (loopO (fleetmake_Stream_RightProps_x1 vr) (vs, [], 0)).bind fun (vs2_1, vout3_1) =>
  some (vs2_1, vout3_1)

/-! ### strings.Repeat -/
noncomputable def strings_Repeat (qx : List UInt8) (qx1 : Int) : Option (List UInt8) :=
  gd (decide (0 ≤ qx1) && decide (qx1 ≤ 9223372036854775807) && decide (qx.length * qx1.toNat ≤ 140737488355328)) (some (Lib.repeatL qx qx1.toNat))

/-! ### (*beaconfleet/fleetmake.Stream).PropName -/
noncomputable def fleetmake_Stream_PropName (qs : fleetmake_Stream) : Option ((List UInt8)) :=
  (fleetmake_Stream_Flip qs 25).bind fun vr =>
  cond (vr)
    ((strings_Repeat ([97] : List UInt8) 41).bind fun vr1 =>
    (fleetmake_Stream_Some_o1 (fleetmake_Stream.mk qs.L (IntKind.wrap .i64 (qs.at_ + 1))) ([([] : List UInt8), ([65] : List UInt8), ([97, 46] : List UInt8), ([46, 97] : List UInt8), ([97, 46, 46, 98] : List UInt8), ([97, 46, 98, 46, 99, 46, 100, 46, 101, 46, 102, 46, 103, 46, 104, 46, 105] : List UInt8), ([97, 32, 98] : List UInt8), vr1] : List (List UInt8))).bind fun vr2 =>
    some vr2)
    ((fleetmake_Stream_Some_o1 (fleetmake_Stream.mk qs.L (IntKind.wrap .i64 (qs.at_ + 1))) ([([97] : List UInt8), ([97] : List UInt8), ([97, 46, 120] : List UInt8), ([97, 46, 120] : List UInt8), ([97, 46, 121] : List UInt8), ([97, 46, 120, 46, 112] : List UInt8), ([98] : List UInt8), ([98, 46, 122] : List UInt8), ([97, 98] : List UInt8), ([97, 45, 49] : List UInt8)] : List (List UInt8))).bind fun vr3 =>
    some vr3)

/-! ### (*beaconfleet/fleetmake.Stream).Odd -/
noncomputable def fleetmake_Stream_Odd (qs : fleetmake_Stream) (qlow : Int) (qhigh : Int) : Option (fleetmake_Stream × Int) :=
  (fleetmake_Stream_Flip qs 12).bind fun vr =>
  cond (vr)
    ((fleetmake_Stream_Pick_o1 (fleetmake_Stream.mk qs.L (IntKind.wrap .i64 (qs.at_ + 1))) ([IntKind.wrap .i64 (qlow - 1), IntKind.wrap .i64 (qhigh + 1), qlow, qhigh, (-1099511627776), 1099511627776] : List Int)).bind fun vr1 =>
    some (fleetmake_Stream.mk qs.L (IntKind.wrap .i64 ((IntKind.wrap .i64 (qs.at_ + 1)) + 1)), vr1))
    ((fleetmake_Stream_Range (fleetmake_Stream.mk qs.L (IntKind.wrap .i64 (qs.at_ + 1))) qlow qhigh).bind fun (vs, vr2) =>
    some (vs, vr2))

/-! ### (*beaconfleet/fleetmake.Stream).Value -/
noncomputable def fleetmake_Stream_Value_x1 (qs : fleetmake_Stream) (vr4 : api_Value) : Option ((fleetmake_Stream × api_Value)) :=
  (fleetmake_Stream_Flip (fleetmake_Stream.mk qs.L (IntKind.wrap .i64 ((IntKind.wrap .i64 ((IntKind.wrap .i64 (qs.at_ + 1)) + 1)) + 1))) 25).bind fun vr1 =>
  cond (vr1)
    ((fleetmake_Stream_Next (fleetmake_Stream.mk qs.L (IntKind.wrap .i64 ((IntKind.wrap .i64 ((IntKind.wrap .i64 ((IntKind.wrap .i64 (qs.at_ + 1)) + 1)) + 1)) + 1))) 5).bind fun vr3 =>
    cond (decide (vr3 = 0))
      ((fleetmake_Stream_Pick_o1 (fleetmake_Stream.mk qs.L (IntKind.wrap .i64 ((IntKind.wrap .i64 ((IntKind.wrap .i64 ((IntKind.wrap .i64 ((IntKind.wrap .i64 (qs.at_ + 1)) + 1)) + 1)) + 1)) + 1))) ([(-1), 4, 0] : List Int)).bind fun vr2 =>
      some (fleetmake_Stream.mk qs.L (IntKind.wrap .i64 ((IntKind.wrap .i64 ((IntKind.wrap .i64 ((IntKind.wrap .i64 ((IntKind.wrap .i64 ((IntKind.wrap .i64 (qs.at_ + 1)) + 1)) + 1)) + 1)) + 1)) + 1)), api_Value.mk vr2 vr4.Flag vr4.Number vr4.Words))
      (cond (decide (vr3 = 1))
        (some (fleetmake_Stream.mk qs.L (IntKind.wrap .i64 ((IntKind.wrap .i64 ((IntKind.wrap .i64 ((IntKind.wrap .i64 ((IntKind.wrap .i64 (qs.at_ + 1)) + 1)) + 1)) + 1)) + 1)), api_Value.mk vr4.Kind (!vr4.Flag) vr4.Number vr4.Words))
        (cond (decide (vr3 = 2))
          ((fleetmake_Stream_Odd (fleetmake_Stream.mk qs.L (IntKind.wrap .i64 ((IntKind.wrap .i64 ((IntKind.wrap .i64 ((IntKind.wrap .i64 ((IntKind.wrap .i64 (qs.at_ + 1)) + 1)) + 1)) + 1)) + 1))) (-1000000000) 1000000000).bind fun (vs1, vr3_1) =>
          some (vs1, api_Value.mk vr4.Kind vr4.Flag vr3_1 vr4.Words))
          (cond (decide (vr3 = 3))
            ((strings_Repeat ([119] : List UInt8) 1001).bind fun vr5 =>
            (fleetmake_Stream_Some_o1 (fleetmake_Stream.mk qs.L (IntKind.wrap .i64 ((IntKind.wrap .i64 ((IntKind.wrap .i64 ((IntKind.wrap .i64 ((IntKind.wrap .i64 (qs.at_ + 1)) + 1)) + 1)) + 1)) + 1))) ([([10] : List UInt8), ([127] : List UInt8), ([255] : List UInt8), vr5] : List (List UInt8))).bind fun vr6 =>
            some (fleetmake_Stream.mk qs.L (IntKind.wrap .i64 ((IntKind.wrap .i64 ((IntKind.wrap .i64 ((IntKind.wrap .i64 ((IntKind.wrap .i64 ((IntKind.wrap .i64 (qs.at_ + 1)) + 1)) + 1)) + 1)) + 1)) + 1)), api_Value.mk 3 false 0 vr6))
            (some (fleetmake_Stream.mk qs.L (IntKind.wrap .i64 ((IntKind.wrap .i64 ((IntKind.wrap .i64 ((IntKind.wrap .i64 ((IntKind.wrap .i64 (qs.at_ + 1)) + 1)) + 1)) + 1)) + 1)), api_Value.mk vr4.Kind vr4.Flag vr4.Number ([122] : List UInt8)))))))
    (some (fleetmake_Stream.mk qs.L (IntKind.wrap .i64 ((IntKind.wrap .i64 ((IntKind.wrap .i64 ((IntKind.wrap .i64 (qs.at_ + 1)) + 1)) + 1)) + 1)), vr4))

noncomputable def fleetmake_Stream_Value (qs : fleetmake_Stream) : Option (fleetmake_Stream × api_Value) :=
  (fleetmake_Stream_RightValue qs).bind fun vr4 =>
  (fleetmake_Stream_Flip (fleetmake_Stream.mk qs.L (IntKind.wrap .i64 ((IntKind.wrap .i64 (qs.at_ + 1)) + 1))) 6).bind fun vr =>
  cond (vr)
    (some (fleetmake_Stream.mk qs.L (IntKind.wrap .i64 ((IntKind.wrap .i64 ((IntKind.wrap .i64 (qs.at_ + 1)) + 1)) + 1)), api_Value.mk 0 false 0 ([] : List UInt8)))
    ((fleetmake_Stream_Value_x1 qs vr4).bind fun (vs2, vv1) =>
    some (vs2, vv1))

/-! ### (*beaconfleet/fleetmake.Stream).Props -/
noncomputable def fleetmake_Stream_Props_x1 (vs3 : fleetmake_Stream) (vr8 : List api_Prop) : Option ((fleetmake_Stream × (List api_Prop))) :=
  (fleetmake_Stream_Flip vs3 10).bind fun vr =>
  cond (vr)
    ((fleetmake_Stream_PropName (fleetmake_Stream.mk vs3.L (IntKind.wrap .i64 (vs3.at_ + 1)))).bind fun vr4 =>
    (fleetmake_Stream_Value (fleetmake_Stream.mk vs3.L (IntKind.wrap .i64 ((IntKind.wrap .i64 ((IntKind.wrap .i64 (vs3.at_ + 1)) + 1)) + 1)))).bind fun (vs3_1, vr7) =>
    gd (Nat.ble (vr8.length + ([api_Prop.mk vr4 vr7] : List api_Prop).length) LIM) <|
    (fleetmake_Stream_Flip vs3_1 2).bind fun vr1 =>
    cond (vr1)
      ((slices_SortFunc_api_Prop_api_Prop_o0_f1_fleetmake_propOrder (vr8 ++ ([api_Prop.mk vr4 vr7] : List api_Prop))).bind fun vl =>
      gd (vl.length == (vr8 ++ ([api_Prop.mk vr4 vr7] : List api_Prop)).length) <|
      some (fleetmake_Stream.mk vs3_1.L (IntKind.wrap .i64 (vs3_1.at_ + 1)), vl))
      (some (fleetmake_Stream.mk vs3_1.L (IntKind.wrap .i64 (vs3_1.at_ + 1)), vr8 ++ ([api_Prop.mk vr4 vr7] : List api_Prop))))
    (some (fleetmake_Stream.mk vs3.L (IntKind.wrap .i64 (vs3.at_ + 1)), vr8))

noncomputable def fleetmake_Stream_Props (qs : fleetmake_Stream) : Option (fleetmake_Stream × (List api_Prop)) :=
  (fleetmake_Stream_RightProps qs).bind fun (vs3, vr8) =>
  (fleetmake_Stream_Props_x1 vs3 vr8).bind fun (vs1, vout1) =>
  some (vs1, vout1)

/-! ### cmp.isNaN[string] -/
noncomputable def cmp_isNaN_string (qx : List UInt8) : Option (Unit) :=
  some ()

/-! ### cmp.Less[string] -/
noncomputable def cmp_Less_string_x1 (qx : List UInt8) (qy : List UInt8) : Option (Bool) :=
  (cmp_isNaN_string qx).bind fun _ =>
  cond (!decide (qx = qx))
    ((cmp_isNaN_string qy).bind fun _ =>
    cond (!(!decide (qy = qy)))
      (some true)
      (some (Op.bytesLess qx qy)))
    (some (Op.bytesLess qx qy))

noncomputable def cmp_Less_string (qx : List UInt8) (qy : List UInt8) : Option (Bool) :=
  (cmp_Less_string_x1 qx qy).bind fun vx1 =>
  some vx1

/-! ### slices.insertionSortOrdered[string] -/
noncomputable def slices_insertionSortOrdered_string_o0_x3 (qa : Int) (vl3 : List (List UInt8)) (vj1 : Int) : Option (Bool) :=
  cond (decide (qa < vj1))
    ((at? vl3 vj1).bind fun vy15 =>
    (at? vl3 (IntKind.wrap .i64 (vj1 - 1))).bind fun vy16 =>
    (cmp_Less_string vy15 vy16).bind fun vr3 =>
    some vr3)
    (some false)

noncomputable def slices_insertionSortOrdered_string_o0_x2 (qa : Int) : (List (List UInt8)) × Int → Option (((List (List UInt8)) × Int) ⊕ ((List (List UInt8))))
  | (vl3, vj1) =>
  (slices_insertionSortOrdered_string_o0_x3 qa vl3 vj1).bind fun vx4_1 =>
  cond (vx4_1)
    ((at? vl3 (IntKind.wrap .i64 (vj1 - 1))).bind fun vy17 =>
    (at? vl3 vj1).bind fun vy18 =>
    (at? (vl3.set vj1.toNat vy17) (IntKind.wrap .i64 (vj1 - 1))).bind fun vy19 =>
    some (.inl ((vl3.set vj1.toNat vy17).set (IntKind.wrap .i64 (vj1 - 1)).toNat vy18, IntKind.wrap .i64 (vj1 - 1))))
    (some (.inr vl3))

noncomputable def slices_insertionSortOrdered_string_o0_x1 (qa : Int) (qb : Int) : (List (List UInt8)) × Int → Option (((List (List UInt8)) × Int) ⊕ ((List (List UInt8))))
  | (vl, vi) =>
  cond (decide (vi < qb))
    ((loopO (slices_insertionSortOrdered_string_o0_x2 qa) (vl, vi)).bind fun vl4_1 =>
    some (.inl (vl4_1, IntKind.wrap .i64 (vi + 1))))
    (some (.inr vl))

noncomputable def slices_insertionSortOrdered_string_o0 (qdata : List (List UInt8)) (qa : Int) (qb : Int) : Option ((List (List UInt8))) :=
  (loopO (slices_insertionSortOrdered_string_o0_x1 qa qb) (qdata, IntKind.wrap .i64 (qa + 1))).bind fun vl5_1 =>
  some vl5_1

/-! ### slices.order2Ordered[string] -/
noncomputable def slices_order2Ordered_string (qdata : List (List UInt8)) (qa : Int) (qb : Int) (qswaps : Int) : Option (Int × Int × Int) :=
  (at? qdata qb).bind fun vy =>
  (at? qdata qa).bind fun vy1 =>
  (cmp_Less_string vy vy1).bind fun vr =>
  cond (vr)
    (some (IntKind.wrap .i64 (qswaps + 1), qb, qa))
    (some (qswaps, qa, qb))

/-! ### slices.medianOrdered[string] -/
noncomputable def slices_medianOrdered_string (qdata : List (List UInt8)) (qa : Int) (qb : Int) (qc : Int) (qswaps : Int) : Option (Int × Int) :=
  (slices_order2Ordered_string qdata qa qb qswaps).bind fun (vs, vr1, vr2) =>
  (slices_order2Ordered_string qdata vr2 qc vs).bind fun (vs1, vr1_1, vr2_1) =>
  (slices_order2Ordered_string qdata vr1 vr1_1 vs1).bind fun (vs2, vr1_2, vr2_2) =>
  some (vs2, vr2_2)

/-! ### slices.medianAdjacentOrdered[string] -/
noncomputable def slices_medianAdjacentOrdered_string (qdata : List (List UInt8)) (qa : Int) (qswaps : Int) : Option (Int × Int) :=
  (slices_medianOrdered_string qdata (IntKind.wrap .i64 (qa - 1)) qa (IntKind.wrap .i64 (qa + 1)) qswaps).bind fun (vs3, vr) =>
  some (vs3, vr)

/-! ### slices.choosePivotOrdered[string] -/
noncomputable def slices_choosePivotOrdered_string_x2 (qdata : List (List UInt8)) (qa : Int) (qb : Int) : Option ((Int × Int × Int × Int)) :=
  cond (decide (50 ≤ (IntKind.wrap .i64 (qb - qa))))
    ((slices_medianAdjacentOrdered_string qdata (IntKind.wrap .i64 (qa + (IntKind.wrap .i64 ((IntKind.wrap .i64 ((IntKind.wrap .i64 (qb - qa)).tdiv 4)) * 1)))) 0).bind fun (vs, vr1) =>
    (slices_medianAdjacentOrdered_string qdata (IntKind.wrap .i64 (qa + (IntKind.wrap .i64 ((IntKind.wrap .i64 ((IntKind.wrap .i64 (qb - qa)).tdiv 4)) * 2)))) vs).bind fun (vs1, vr1_1) =>
    (slices_medianAdjacentOrdered_string qdata (IntKind.wrap .i64 (qa + (IntKind.wrap .i64 ((IntKind.wrap .i64 ((IntKind.wrap .i64 (qb - qa)).tdiv 4)) * 3)))) vs1).bind fun (vs2, vr1_2) =>
    some (vs2, vr1, vr1_1, vr1_2))
    (some (0, IntKind.wrap .i64 (qa + (IntKind.wrap .i64 ((IntKind.wrap .i64 ((IntKind.wrap .i64 (qb - qa)).tdiv 4)) * 1))), IntKind.wrap .i64 (qa + (IntKind.wrap .i64 ((IntKind.wrap .i64 ((IntKind.wrap .i64 (qb - qa)).tdiv 4)) * 2))), IntKind.wrap .i64 (qa + (IntKind.wrap .i64 ((IntKind.wrap .i64 ((IntKind.wrap .i64 (qb - qa)).tdiv 4)) * 3)))))

noncomputable def slices_choosePivotOrdered_string_x1 (qdata : List (List UInt8)) (qa : Int) (qb : Int) : Option ((Int × Int)) :=
  cond (decide (8 ≤ (IntKind.wrap .i64 (qb - qa))))
    ((slices_choosePivotOrdered_string_x2 qdata qa qb).bind fun (vswaps1, vi1, vj1, vk1) =>
    (slices_medianOrdered_string qdata vi1 vj1 vk1 vswaps1).bind fun (vs3, vr) =>
    some (vs3, vr))
    (some (0, IntKind.wrap .i64 (qa + (IntKind.wrap .i64 ((IntKind.wrap .i64 ((IntKind.wrap .i64 (qb - qa)).tdiv 4)) * 2)))))

noncomputable def slices_choosePivotOrdered_string (qdata : List (List UInt8)) (qa : Int) (qb : Int) : Option (Int × Int) :=
  (slices_choosePivotOrdered_string_x1 qdata qa qb).bind fun (vswaps2_1, vj2_1) =>
  cond (decide (vswaps2_1 = 0))
    (some (vj2_1, 1))
    (cond (decide (vswaps2_1 = 12))
      (some (vj2_1, 2))
      (some (vj2_1, 0)))

/-! ### slices.reverseRangeOrdered[string] -/
noncomputable def slices_reverseRangeOrdered_string_o0_x1 : (List (List UInt8)) × Int × Int → Option (((List (List UInt8)) × Int × Int) ⊕ ((List (List UInt8))))
  | (vl, vi, vj) =>
  cond (decide (vi < vj))
    ((at? vl vj).bind fun vy3 =>
    (at? vl vi).bind fun vy4 =>
    (at? (vl.set vi.toNat vy3) vj).bind fun vy5 =>
    some (.inl ((vl.set vi.toNat vy3).set vj.toNat vy4, IntKind.wrap .i64 (vi + 1), IntKind.wrap .i64 (vj - 1))))
    (some (.inr vl))

noncomputable def slices_reverseRangeOrdered_string_o0 (qdata : List (List UInt8)) (qa : Int) (qb : Int) : Option ((List (List UInt8))) :=
  (loopO slices_reverseRangeOrdered_string_o0_x1 (qdata, qa, IntKind.wrap .i64 (qb - 1))).bind fun vl1_1 =>
  some vl1_1

/-! ### slices.partialInsertionSortOrdered[string] -/
noncomputable def slices_partialInsertionSortOrdered_string_o0_x4 (qx2 : Int) (vl : List (List UInt8)) (vx10 : Int) : Option (Bool) :=
  cond (decide (vx10 < qx2))
    ((at? vl vx10).bind fun vy21 =>
    (at? vl (IntKind.wrap .i64 (vx10 - 1))).bind fun vy22 =>
    (cmp_Less_string vy21 vy22).bind fun vr7 =>
    some (!vr7))
    (some false)

noncomputable def slices_partialInsertionSortOrdered_string_o0_x3 (qx2 : Int) (vl : List (List UInt8)) (vx10 : Int) : Option ((Int) ⊕ (Int)) :=
  (slices_partialInsertionSortOrdered_string_o0_x4 qx2 vl vx10).bind fun vx12_1 =>
  cond (vx12_1)
    (some (.inl (IntKind.wrap .i64 (vx10 + 1))))
    (some (.inr vx10))

noncomputable def slices_partialInsertionSortOrdered_string_o0_x6 : (List (List UInt8)) × Int → Option (((List (List UInt8)) × Int) ⊕ ((List (List UInt8))))
  | (vl7, vx14) =>
  cond (decide (1 ≤ vx14))
    ((at? vl7 vx14).bind fun vy29 =>
    (at? vl7 (IntKind.wrap .i64 (vx14 - 1))).bind fun vy30 =>
    (cmp_Less_string vy29 vy30).bind fun vr9 =>
    cond (!vr9)
      (some (.inr vl7))
      ((at? (vl7.set vx14.toNat vy30) (IntKind.wrap .i64 (vx14 - 1))).bind fun vy31 =>
      some (.inl ((vl7.set vx14.toNat vy30).set (IntKind.wrap .i64 (vx14 - 1)).toNat vy29, IntKind.wrap .i64 (vx14 - 1)))))
    (some (.inr vl7))

noncomputable def slices_partialInsertionSortOrdered_string_o0_x5 (qx1 : Int) (vl : List (List UInt8)) (vx13_1 : Int) (vy23 : List UInt8) (vy24 : List UInt8) : Option ((List (List UInt8))) :=
  cond (decide (2 ≤ (IntKind.wrap .i64 (vx13_1 - qx1))))
    ((loopO slices_partialInsertionSortOrdered_string_o0_x6 ((vl.set vx13_1.toNat vy23).set (IntKind.wrap .i64 (vx13_1 - 1)).toNat vy24, IntKind.wrap .i64 (vx13_1 - 1))).bind fun vl8_1 =>
    some vl8_1)
    (some ((vl.set vx13_1.toNat vy23).set (IntKind.wrap .i64 (vx13_1 - 1)).toNat vy24))

noncomputable def slices_partialInsertionSortOrdered_string_o0_x7 (qx2 : Int) : (List (List UInt8)) × Int → Option (((List (List UInt8)) × Int) ⊕ ((List (List UInt8))))
  | (vl10, vx15) =>
  cond (decide (vx15 < qx2))
    ((at? vl10 vx15).bind fun vy35 =>
    (at? vl10 (IntKind.wrap .i64 (vx15 - 1))).bind fun vy36 =>
    (cmp_Less_string vy35 vy36).bind fun vr11 =>
    cond (!vr11)
      (some (.inr vl10))
      ((at? (vl10.set vx15.toNat vy36) (IntKind.wrap .i64 (vx15 - 1))).bind fun vy37 =>
      some (.inl ((vl10.set vx15.toNat vy36).set (IntKind.wrap .i64 (vx15 - 1)).toNat vy35, IntKind.wrap .i64 (vx15 + 1)))))
    (some (.inr vl10))

noncomputable def slices_partialInsertionSortOrdered_string_o0_x2 (qx1 : Int) (qx2 : Int) (vl : List (List UInt8)) (vx : Int) : Option (((List (List UInt8)) × Int) ⊕ Bool) :=
  (loopO (slices_partialInsertionSortOrdered_string_o0_x3 qx2 vl) vx).bind fun vx13_1 =>
  cond (decide (vx13_1 = qx2))
    (some (.inr true))
    (cond (decide ((IntKind.wrap .i64 (qx2 - qx1)) < 50))
      (some (.inr false))
      ((at? vl (IntKind.wrap .i64 (vx13_1 - 1))).bind fun vy23 =>
      (at? vl vx13_1).bind fun vy24 =>
      (at? (vl.set vx13_1.toNat vy23) (IntKind.wrap .i64 (vx13_1 - 1))).bind fun vy25 =>
      (slices_partialInsertionSortOrdered_string_o0_x5 qx1 vl vx13_1 vy23 vy24).bind fun vl9_1 =>
      cond (decide (2 ≤ (IntKind.wrap .i64 (qx2 - vx13_1))))
        ((loopO (slices_partialInsertionSortOrdered_string_o0_x7 qx2) (vl9_1, IntKind.wrap .i64 (vx13_1 + 1))).bind fun vl11_1 =>
        some (.inl (vl11_1, vx13_1)))
        (some (.inl (vl9_1, vx13_1)))))

noncomputable def slices_partialInsertionSortOrdered_string_o0_x1 (qx1 : Int) (qx2 : Int) : (List (List UInt8)) × Int × Int → Option (((List (List UInt8)) × Int × Int) ⊕ ((List (List UInt8)) ⊕ ((List (List UInt8)) × Bool)))
  | (vl, vx, vx1) =>
  cond (decide (vx1 < 5))
    ((slices_partialInsertionSortOrdered_string_o0_x2 qx1 qx2 vl vx).bind fun x => match x with
      | .inl (vl12_1, vx16_1) =>
        some (.inl (vl12_1, vx16_1, IntKind.wrap .i64 (vx1 + 1)))
      | .inr vx17_1 =>
        some (.inr (.inr (vl, vx17_1))))
    (some (.inr (.inl vl)))

noncomputable def slices_partialInsertionSortOrdered_string_o0 (qx : List (List UInt8)) (qx1 : Int) (qx2 : Int) : Option ((List (List UInt8)) × Bool) :=
  (loopO (slices_partialInsertionSortOrdered_string_o0_x1 qx1 qx2) (qx, IntKind.wrap .i64 (qx1 + 1), 0)).bind fun x => match x with
    | .inl vl13_1 =>
      some (vl13_1, false)
    | .inr (vl14_1, vx18_1) =>
      some (vl14_1, vx18_1)

/-! ### slices.partitionEqualOrdered[string] -/
noncomputable def slices_partitionEqualOrdered_string_o0_x3 (qx1 : Int) (vl : List (List UInt8)) (vx1 : Int) (vx10 : Int) : Option (Bool) :=
  cond (decide (vx10 ≤ vx1))
    ((at? vl qx1).bind fun vy16 =>
    (at? vl vx10).bind fun vy17 =>
    (cmp_Less_string vy16 vy17).bind fun vr5 =>
    some (!vr5))
    (some false)

noncomputable def slices_partitionEqualOrdered_string_o0_x2 (qx1 : Int) (vl : List (List UInt8)) (vx1 : Int) (vx10 : Int) : Option ((Int) ⊕ (Int)) :=
  (slices_partitionEqualOrdered_string_o0_x3 qx1 vl vx1 vx10).bind fun vx12_1 =>
  cond (vx12_1)
    (some (.inl (IntKind.wrap .i64 (vx10 + 1))))
    (some (.inr vx10))

noncomputable def slices_partitionEqualOrdered_string_o0_x5 (qx1 : Int) (vl : List (List UInt8)) (vx13_1 : Int) (vx14 : Int) : Option (Bool) :=
  cond (decide (vx13_1 ≤ vx14))
    ((at? vl qx1).bind fun vy20 =>
    (at? vl vx14).bind fun vy21 =>
    (cmp_Less_string vy20 vy21).bind fun vr7 =>
    some vr7)
    (some false)

noncomputable def slices_partitionEqualOrdered_string_o0_x4 (qx1 : Int) (vl : List (List UInt8)) (vx13_1 : Int) (vx14 : Int) : Option ((Int) ⊕ (Int)) :=
  (slices_partitionEqualOrdered_string_o0_x5 qx1 vl vx13_1 vx14).bind fun vx16_1 =>
  cond (vx16_1)
    (some (.inl (IntKind.wrap .i64 (vx14 - 1))))
    (some (.inr vx14))

noncomputable def slices_partitionEqualOrdered_string_o0_x1 (qx1 : Int) : (List (List UInt8)) × Int × Int → Option (((List (List UInt8)) × Int × Int) ⊕ (((List (List UInt8)) × Int)))
  | (vl, vx, vx1) =>
  (loopO (slices_partitionEqualOrdered_string_o0_x2 qx1 vl vx1) vx).bind fun vx13_1 =>
  (loopO (slices_partitionEqualOrdered_string_o0_x4 qx1 vl vx13_1) vx1).bind fun vx17_1 =>
  cond (decide (vx17_1 < vx13_1))
    (some (.inr (vl, vx13_1)))
    ((at? vl vx17_1).bind fun vy22 =>
    (at? vl vx13_1).bind fun vy23 =>
    (at? (vl.set vx13_1.toNat vy22) vx17_1).bind fun vy24 =>
    some (.inl ((vl.set vx13_1.toNat vy22).set vx17_1.toNat vy23, IntKind.wrap .i64 (vx13_1 + 1), IntKind.wrap .i64 (vx17_1 - 1))))

noncomputable def slices_partitionEqualOrdered_string_o0 (qx : List (List UInt8)) (qx1 : Int) (qx2 : Int) (qx3 : Int) : Option ((List (List UInt8)) × Int) :=
  (at? qx qx3).bind fun vy =>
  (at? qx qx1).bind fun vy1 =>
  (at? (qx.set qx1.toNat vy) qx3).bind fun vy2 =>
  (loopO (slices_partitionEqualOrdered_string_o0_x1 qx1) ((qx.set qx1.toNat vy).set qx3.toNat vy1, IntKind.wrap .i64 (qx1 + 1), IntKind.wrap .i64 (qx2 - 1))).bind fun (vl1_1, vx18_1) =>
  some (vl1_1, vx18_1)

/-! ### slices.partitionOrdered[string] -/
noncomputable def slices_partitionOrdered_string_o0_x2 (qx : List (List UInt8)) (qx1 : Int) (qx2 : Int) (qx3 : Int) (vy : List UInt8) (vy1 : List UInt8) (vx : Int) : Option (Bool) :=
  cond (decide (vx ≤ (IntKind.wrap .i64 (qx2 - 1))))
    ((at? ((qx.set qx1.toNat vy).set qx3.toNat vy1) vx).bind fun vy5 =>
    (at? ((qx.set qx1.toNat vy).set qx3.toNat vy1) qx1).bind fun vy6 =>
    (cmp_Less_string vy5 vy6).bind fun vr1 =>
    some vr1)
    (some false)

noncomputable def slices_partitionOrdered_string_o0_x1 (qx : List (List UInt8)) (qx1 : Int) (qx2 : Int) (qx3 : Int) (vy : List UInt8) (vy1 : List UInt8) (vx : Int) : Option ((Int) ⊕ (Int)) :=
  (slices_partitionOrdered_string_o0_x2 qx qx1 qx2 qx3 vy vy1 vx).bind fun vx2_1 =>
  cond (vx2_1)
    (some (.inl (IntKind.wrap .i64 (vx + 1))))
    (some (.inr vx))

noncomputable def slices_partitionOrdered_string_o0_x4 (qx : List (List UInt8)) (qx1 : Int) (qx3 : Int) (vy : List UInt8) (vy1 : List UInt8) (vx3_1 : Int) (vx4 : Int) : Option (Bool) :=
  cond (decide (vx3_1 ≤ vx4))
    ((at? ((qx.set qx1.toNat vy).set qx3.toNat vy1) vx4).bind fun vy9 =>
    (at? ((qx.set qx1.toNat vy).set qx3.toNat vy1) qx1).bind fun vy10 =>
    (cmp_Less_string vy9 vy10).bind fun vr3 =>
    some (!vr3))
    (some false)

noncomputable def slices_partitionOrdered_string_o0_x3 (qx : List (List UInt8)) (qx1 : Int) (qx3 : Int) (vy : List UInt8) (vy1 : List UInt8) (vx3_1 : Int) (vx4 : Int) : Option ((Int) ⊕ (Int)) :=
  (slices_partitionOrdered_string_o0_x4 qx qx1 qx3 vy vy1 vx3_1 vx4).bind fun vx6_1 =>
  cond (vx6_1)
    (some (.inl (IntKind.wrap .i64 (vx4 - 1))))
    (some (.inr vx4))

noncomputable def slices_partitionOrdered_string_o0_x7 (qx1 : Int) (vl : List (List UInt8)) (vx9 : Int) (vx18 : Int) : Option (Bool) :=
  cond (decide (vx18 ≤ vx9))
    ((at? vl vx18).bind fun vy30 =>
    (at? vl qx1).bind fun vy31 =>
    (cmp_Less_string vy30 vy31).bind fun vr9 =>
    some vr9)
    (some false)

noncomputable def slices_partitionOrdered_string_o0_x6 (qx1 : Int) (vl : List (List UInt8)) (vx9 : Int) (vx18 : Int) : Option ((Int) ⊕ (Int)) :=
  (slices_partitionOrdered_string_o0_x7 qx1 vl vx9 vx18).bind fun vx20_1 =>
  cond (vx20_1)
    (some (.inl (IntKind.wrap .i64 (vx18 + 1))))
    (some (.inr vx18))

noncomputable def slices_partitionOrdered_string_o0_x9 (qx1 : Int) (vl : List (List UInt8)) (vx21_1 : Int) (vx22 : Int) : Option (Bool) :=
  cond (decide (vx21_1 ≤ vx22))
    ((at? vl vx22).bind fun vy34 =>
    (at? vl qx1).bind fun vy35 =>
    (cmp_Less_string vy34 vy35).bind fun vr11 =>
    some (!vr11))
    (some false)

noncomputable def slices_partitionOrdered_string_o0_x8 (qx1 : Int) (vl : List (List UInt8)) (vx21_1 : Int) (vx22 : Int) : Option ((Int) ⊕ (Int)) :=
  (slices_partitionOrdered_string_o0_x9 qx1 vl vx21_1 vx22).bind fun vx24_1 =>
  cond (vx24_1)
    (some (.inl (IntKind.wrap .i64 (vx22 - 1))))
    (some (.inr vx22))

noncomputable def slices_partitionOrdered_string_o0_x5 (qx1 : Int) : (List (List UInt8)) × Int × Int → Option (((List (List UInt8)) × Int × Int) ⊕ (((List (List UInt8)) × Int)))
  | (vl, vx8, vx9) =>
  (loopO (slices_partitionOrdered_string_o0_x6 qx1 vl vx9) vx8).bind fun vx21_1 =>
  (loopO (slices_partitionOrdered_string_o0_x8 qx1 vl vx21_1) vx9).bind fun vx25_1 =>
  cond (decide (vx25_1 < vx21_1))
    (some (.inr (vl, vx25_1)))
    ((at? vl vx25_1).bind fun vy36 =>
    (at? vl vx21_1).bind fun vy37 =>
    (at? (vl.set vx21_1.toNat vy36) vx25_1).bind fun vy38 =>
    some (.inl ((vl.set vx21_1.toNat vy36).set vx25_1.toNat vy37, IntKind.wrap .i64 (vx21_1 + 1), IntKind.wrap .i64 (vx25_1 - 1))))

noncomputable def slices_partitionOrdered_string_o0 (qx : List (List UInt8)) (qx1 : Int) (qx2 : Int) (qx3 : Int) : Option ((List (List UInt8)) × Int × Bool) :=
  (at? qx qx3).bind fun vy =>
  (at? qx qx1).bind fun vy1 =>
  (at? (qx.set qx1.toNat vy) qx3).bind fun vy2 =>
  (loopO (slices_partitionOrdered_string_o0_x1 qx qx1 qx2 qx3 vy vy1) (IntKind.wrap .i64 (qx1 + 1))).bind fun vx3_1 =>
  (loopO (slices_partitionOrdered_string_o0_x3 qx qx1 qx3 vy vy1 vx3_1) (IntKind.wrap .i64 (qx2 - 1))).bind fun vx7_1 =>
  cond (decide (vx7_1 < vx3_1))
    ((at? ((qx.set qx1.toNat vy).set qx3.toNat vy1) qx1).bind fun vy11 =>
    (at? ((qx.set qx1.toNat vy).set qx3.toNat vy1) vx7_1).bind fun vy12 =>
    (at? (((qx.set qx1.toNat vy).set qx3.toNat vy1).set vx7_1.toNat vy11) qx1).bind fun vy13 =>
    some ((((qx.set qx1.toNat vy).set qx3.toNat vy1).set vx7_1.toNat vy11).set qx1.toNat vy12, vx7_1, true))
    ((at? ((qx.set qx1.toNat vy).set qx3.toNat vy1) vx7_1).bind fun vy14 =>
    (at? ((qx.set qx1.toNat vy).set qx3.toNat vy1) vx3_1).bind fun vy15 =>
    (at? (((qx.set qx1.toNat vy).set qx3.toNat vy1).set vx3_1.toNat vy14) vx7_1).bind fun vy16 =>
    (loopO (slices_partitionOrdered_string_o0_x5 qx1) ((((qx.set qx1.toNat vy).set qx3.toNat vy1).set vx3_1.toNat vy14).set vx7_1.toNat vy15, IntKind.wrap .i64 (vx3_1 + 1), IntKind.wrap .i64 (vx7_1 - 1))).bind fun (vl1_1, vx26_1) =>
    (at? vl1_1 qx1).bind fun vy39 =>
    (at? vl1_1 vx26_1).bind fun vy40 =>
    (at? (vl1_1.set vx26_1.toNat vy39) qx1).bind fun vy41 =>
    some ((vl1_1.set vx26_1.toNat vy39).set qx1.toNat vy40, vx26_1, false))

/-! ### slices.nextPowerOfTwo -/
noncomputable def slices_nextPowerOfTwo (qlength : Int) : Option (Int) :=
  (bits_Len (IntKind.wrap .u64 (qlength))).bind fun vr1 =>
  gd (decide (0 ≤ vr1)) <|
  some (ishl .u64 1 vr1)

/-! ### (*slices.xorshift).Next -/
noncomputable def slices_xorshift_Next (qr : Int) : Option (Unit) :=
  some ()

/-! ### slices.breakPatternsOrdered[string] -/
noncomputable def slices_breakPatternsOrdered_string_o0_x2 (qx1 : Int) (qx2 : Int) (vr : Int) (vx : Int) : Option (Int) :=
  cond (decide ((IntKind.wrap .i64 (qx2 - qx1)) ≤ (IntKind.wrap .i64 (ibits .and .u64 (ibits .xor .u64 (ibits .xor .u64 (ibits .xor .u64 vx (ishl .u64 vx 13)) (ishr .u64 (ibits .xor .u64 vx (ishl .u64 vx 13)) 7)) (ishl .u64 (ibits .xor .u64 (ibits .xor .u64 vx (ishl .u64 vx 13)) (ishr .u64 (ibits .xor .u64 vx (ishl .u64 vx 13)) 7)) 17)) (IntKind.wrap .u64 (vr - 1))))))
    (some (IntKind.wrap .i64 ((IntKind.wrap .i64 (ibits .and .u64 (ibits .xor .u64 (ibits .xor .u64 (ibits .xor .u64 vx (ishl .u64 vx 13)) (ishr .u64 (ibits .xor .u64 vx (ishl .u64 vx 13)) 7)) (ishl .u64 (ibits .xor .u64 (ibits .xor .u64 vx (ishl .u64 vx 13)) (ishr .u64 (ibits .xor .u64 vx (ishl .u64 vx 13)) 7)) 17)) (IntKind.wrap .u64 (vr - 1)))) - (IntKind.wrap .i64 (qx2 - qx1)))))
    (some (IntKind.wrap .i64 (ibits .and .u64 (ibits .xor .u64 (ibits .xor .u64 (ibits .xor .u64 vx (ishl .u64 vx 13)) (ishr .u64 (ibits .xor .u64 vx (ishl .u64 vx 13)) 7)) (ishl .u64 (ibits .xor .u64 (ibits .xor .u64 vx (ishl .u64 vx 13)) (ishr .u64 (ibits .xor .u64 vx (ishl .u64 vx 13)) 7)) 17)) (IntKind.wrap .u64 (vr - 1)))))

noncomputable def slices_breakPatternsOrdered_string_o0_x1 (qx1 : Int) (qx2 : Int) (vr : Int) : (List (List UInt8)) × Int × Int → Option (((List (List UInt8)) × Int × Int) ⊕ ((List (List UInt8))))
  | (vl, vx, vx1) =>
  cond (decide (vx1 ≤ (IntKind.wrap .i64 ((IntKind.wrap .i64 (qx1 + (IntKind.wrap .i64 ((IntKind.wrap .i64 ((IntKind.wrap .i64 (qx2 - qx1)).tdiv 4)) * 2)))) + 1))))
    ((slices_xorshift_Next vx).bind fun _ =>
    (slices_breakPatternsOrdered_string_o0_x2 qx1 qx2 vr vx).bind fun vx3_1 =>
    (at? vl (IntKind.wrap .i64 (qx1 + vx3_1))).bind fun vy3 =>
    (at? vl vx1).bind fun vy4 =>
    (at? (vl.set vx1.toNat vy3) (IntKind.wrap .i64 (qx1 + vx3_1))).bind fun vy5 =>
    some (.inl ((vl.set vx1.toNat vy3).set (IntKind.wrap .i64 (qx1 + vx3_1)).toNat vy4, ibits .xor .u64 (ibits .xor .u64 (ibits .xor .u64 vx (ishl .u64 vx 13)) (ishr .u64 (ibits .xor .u64 vx (ishl .u64 vx 13)) 7)) (ishl .u64 (ibits .xor .u64 (ibits .xor .u64 vx (ishl .u64 vx 13)) (ishr .u64 (ibits .xor .u64 vx (ishl .u64 vx 13)) 7)) 17), IntKind.wrap .i64 (vx1 + 1))))
    (some (.inr vl))

noncomputable def slices_breakPatternsOrdered_string_o0 (qx : List (List UInt8)) (qx1 : Int) (qx2 : Int) : Option ((List (List UInt8))) :=
  cond (decide (8 ≤ (IntKind.wrap .i64 (qx2 - qx1))))
    ((slices_nextPowerOfTwo (IntKind.wrap .i64 (qx2 - qx1))).bind fun vr =>
    (loopO (slices_breakPatternsOrdered_string_o0_x1 qx1 qx2 vr) (qx, IntKind.wrap .u64 (IntKind.wrap .i64 (qx2 - qx1)), IntKind.wrap .i64 ((IntKind.wrap .i64 (qx1 + (IntKind.wrap .i64 ((IntKind.wrap .i64 ((IntKind.wrap .i64 (qx2 - qx1)).tdiv 4)) * 2)))) - 1))).bind fun vl1_1 =>
    some vl1_1)
    (some qx)

/-! ### slices.pdqsortOrdered[string] -/
noncomputable def slices_pdqsortOrdered_string_o0_x2 (recF : (List (List UInt8)) → Int → Int → Int → Option ((List (List UInt8)))) (vl : List (List UInt8)) (vx : Int) (vx1 : Int) (vx2 : Int) (vx3 : Bool) : Option (((List (List UInt8)) × Int)) :=
  cond (!vx3)
    ((slices_breakPatternsOrdered_string_o0 vl vx vx1).bind fun vl2_4 =>
    gd (vl2_4.length == vl.length) <|
    some (vl2_4, IntKind.wrap .i64 (vx2 - 1)))
    (some (vl, vx2))

noncomputable def slices_pdqsortOrdered_string_o0_x3 (recF : (List (List UInt8)) → Int → Int → Int → Option ((List (List UInt8)))) (vx : Int) (vx1 : Int) (vl7_1 : List (List UInt8)) (vr2_1 : Int) (vr3_1 : Int) : Option (((List (List UInt8)) × Int × Int)) :=
  cond (decide (vr3_1 = 2))
    ((slices_reverseRangeOrdered_string_o0 vl7_1 vx vx1).bind fun vl2_5 =>
    gd (vl2_5.length == vl7_1.length) <|
    some (vl2_5, IntKind.wrap .i64 ((IntKind.wrap .i64 (vx1 - 1)) - (IntKind.wrap .i64 (vr2_1 - vx))), 1))
    (some (vl7_1, vr2_1, vr3_1))

noncomputable def slices_pdqsortOrdered_string_o0_x5 (recF : (List (List UInt8)) → Int → Int → Int → Option ((List (List UInt8)))) (vx3 : Bool) (vx4 : Bool) (vx12_1 : Int) : Option (Bool) :=
  cond (vx3)
    (cond (vx4)
      (some (decide (vx12_1 = 1)))
      (some false))
    (some false)

noncomputable def slices_pdqsortOrdered_string_o0_x4 (recF : (List (List UInt8)) → Int → Int → Int → Option ((List (List UInt8)))) (vx : Int) (vx1 : Int) (vx3 : Bool) (vx4 : Bool) (vl8_1 : List (List UInt8)) (vx12_1 : Int) : Option ((List (List UInt8)) ⊕ (List (List UInt8))) :=
  (slices_pdqsortOrdered_string_o0_x5 recF vx3 vx4 vx12_1).bind fun vx13_1 =>
  cond (vx13_1)
    ((slices_partialInsertionSortOrdered_string_o0 vl8_1 vx vx1).bind fun (vl15_1, vr12_2) =>
    gd (vl15_1.length == vl8_1.length) <|
    cond (vr12_2)
      (some (.inr vl15_1))
      (some (.inl vl15_1)))
    (some (.inl vl8_1))

noncomputable def slices_pdqsortOrdered_string_o0_x6 (recF : (List (List UInt8)) → Int → Int → Int → Option ((List (List UInt8)))) (vx : Int) (vx11_1 : Int) (vl9_1 : List (List UInt8)) : Option (Bool) :=
  cond (decide (0 < vx))
    ((at? vl9_1 (IntKind.wrap .i64 (vx - 1))).bind fun vy2 =>
    (at? vl9_1 vx11_1).bind fun vy3 =>
    (cmp_Less_string vy2 vy3).bind fun vr1 =>
    some (!vr1))
    (some false)

noncomputable def slices_pdqsortOrdered_string_o0_x1 (recF : (List (List UInt8)) → Int → Int → Int → Option ((List (List UInt8)))) : (List (List UInt8)) × Int × Int × Int × Bool × Bool → Option (((List (List UInt8)) × Int × Int × Int × Bool × Bool) ⊕ ((List (List UInt8))))
  | (vl, vx, vx1, vx2, vx3, vx4) =>
  cond (decide ((IntKind.wrap .i64 (vx1 - vx)) ≤ 12))
    ((slices_insertionSortOrdered_string_o0 vl vx vx1).bind fun vl6_1 =>
    gd (vl6_1.length == vl.length) <|
    some (.inr vl6_1))
    (cond (decide (vx2 = 0))
      (none)
      ((slices_pdqsortOrdered_string_o0_x2 recF vl vx vx1 vx2 vx3).bind fun (vl7_1, vx10_1) =>
      (slices_choosePivotOrdered_string vl7_1 vx vx1).bind fun (vr2_1, vr3_1) =>
      (slices_pdqsortOrdered_string_o0_x3 recF vx vx1 vl7_1 vr2_1 vr3_1).bind fun (vl8_1, vx11_1, vx12_1) =>
      (slices_pdqsortOrdered_string_o0_x4 recF vx vx1 vx3 vx4 vl8_1 vx12_1).bind fun x => match x with
        | .inl vl9_1 =>
          (slices_pdqsortOrdered_string_o0_x6 recF vx vx11_1 vl9_1).bind fun vx14_1 =>
          cond (vx14_1)
            ((slices_partitionEqualOrdered_string_o0 vl9_1 vx vx1 vx11_1).bind fun (vl2_6, vr8_1) =>
            gd (vl2_6.length == vl9_1.length) <|
            some (.inl (vl2_6, vr8_1, vx1, vx10_1, vx3, vx4)))
            ((slices_partitionOrdered_string_o0 vl9_1 vx vx1 vx11_1).bind fun (vl2_7, vr12_3, vr13_1) =>
            gd (vl2_7.length == vl9_1.length) <|
            cond (decide ((IntKind.wrap .i64 (vr12_3 - vx)) < (IntKind.wrap .i64 (vx1 - vr12_3))))
              ((recF vl2_7 vx vr12_3 vx10_1).bind fun vl10_2 =>
              gd (vl10_2.length == vl2_7.length) <|
              some (.inl (vl10_2, IntKind.wrap .i64 (vr12_3 + 1), vx1, vx10_1, decide ((IntKind.wrap .i64 ((IntKind.wrap .i64 (vx1 - vx)).tdiv 8)) ≤ (IntKind.wrap .i64 (vr12_3 - vx))), vr13_1)))
              ((recF vl2_7 (IntKind.wrap .i64 (vr12_3 + 1)) vx1 vx10_1).bind fun vl10_3 =>
              gd (vl10_3.length == vl2_7.length) <|
              some (.inl (vl10_3, vx, vr12_3, vx10_1, decide ((IntKind.wrap .i64 ((IntKind.wrap .i64 (vx1 - vx)).tdiv 8)) ≤ (IntKind.wrap .i64 (vx1 - vr12_3))), vr13_1))))
        | .inr vl11_1 =>
          some (.inr vl11_1)))

noncomputable def slices_pdqsortOrdered_string_o0_n : Nat → (List (List UInt8)) → Int → Int → Int → Option ((List (List UInt8)))
  | 0, _, _, _, _ => none
  | n + 1, qx, qx1, qx2, qx3 =>
  (loopO (slices_pdqsortOrdered_string_o0_x1 (slices_pdqsortOrdered_string_o0_n n)) (qx, qx1, qx2, qx3, true, true)).bind fun vl12_1 =>
  some vl12_1

noncomputable def slices_pdqsortOrdered_string_o0 (qx : List (List UInt8)) (qx1 : Int) (qx2 : Int) (qx3 : Int) : Option ((List (List UInt8))) := fixO fun n => slices_pdqsortOrdered_string_o0_n n qx qx1 qx2 qx3

/-! ### slices.Sort[[]string,string] -/
noncomputable def slices_Sort_string_string_o0 (qx : List (List UInt8)) : Option ((List (List UInt8))) :=
  (bits_Len (IntKind.wrap .u64 ((qx.length : Int)))).bind fun vr1 =>
  (slices_pdqsortOrdered_string_o0 qx 0 (qx.length : Int) vr1).bind fun vl13 =>
  gd (vl13.length == qx.length) <|
  some vl13

/-! ### slices.Compact[[]string,string] -/
noncomputable def slices_Compact_string_string_o0_x3 (qs : List (List UInt8)) (vk : Int) (vl4 : List (List UInt8)) (vk6 : Int) (vk2_1 : Int) : Option (((List (List UInt8)) × Int)) :=
  gd (decide (0 ≤ vk) && decide (0 ≤ vk2_1) && decide (vk2_1 < (qs.length : Int) - vk)) <|
  (at? vl4 (vk + vk2_1)).bind fun vy13 =>
  gd (decide (0 ≤ vk) && decide (0 ≤ (IntKind.wrap .i64 (vk2_1 - 1))) && decide ((IntKind.wrap .i64 (vk2_1 - 1)) < (qs.length : Int) - vk)) <|
  (at? vl4 (vk + (IntKind.wrap .i64 (vk2_1 - 1)))).bind fun vy14 =>
  cond (!decide (vy13 = vy14))
    ((at? vl4 vk6).bind fun vy15 =>
    some (vl4.set vk6.toNat vy13, IntKind.wrap .i64 (vk6 + 1)))
    (some (vl4, vk6))

noncomputable def slices_Compact_string_string_o0_x2 (qs : List (List UInt8)) (vk : Int) : (List (List UInt8)) × Int × Int → Option (((List (List UInt8)) × Int × Int) ⊕ (((List (List UInt8)) × Int)))
  | (vl4, vk6, vk2_1) =>
  cond (decide (vk2_1 < (((qs.length : Int).toNat - vk.toNat : Nat) : Int)))
    ((slices_Compact_string_string_o0_x3 qs vk vl4 vk6 vk2_1).bind fun (vl6_1, vk8_1) =>
    some (.inl (vl6_1, vk8_1, IntKind.wrap .i64 (vk2_1 + 1))))
    (some (.inr (vl4, vk6)))

noncomputable def slices_Compact_string_string_o0_x1 (qs : List (List UInt8)) (vk : Int) : Option ((Int) ⊕ (Unit ⊕ (List (List UInt8)))) :=
  cond (decide (vk < (qs.length : Int)))
    ((at? qs vk).bind fun vy8 =>
    (at? qs (IntKind.wrap .i64 (vk - 1))).bind fun vy9 =>
    cond (decide (vy8 = vy9))
      (gd (decide (0 ≤ vk) && decide (vk ≤ (qs.length : Int)) && decide ((qs.length : Int) ≤ (qs.length : Int))) <|
      (loopO (slices_Compact_string_string_o0_x2 qs vk) (qs, vk, 1)).bind fun (vl7_1, vk9_1) =>
      gd (decide (0 ≤ vk9_1) && decide (vk9_1 ≤ (vl7_1.length : Int)) && decide ((vl7_1.length : Int) ≤ (vl7_1.length : Int))) <|
      gd (decide (0 ≤ vk9_1) && decide (vk9_1 ≤ ((vl7_1.take vk9_1.toNat ++ (List.replicate ((vl7_1.length : Int).toNat - vk9_1.toNat) ([] : List UInt8) ++ vl7_1.drop (vk9_1.toNat + ((vl7_1.length : Int).toNat - vk9_1.toNat)))).length : Int))) <|
      some (.inr (.inr ((vl7_1.take vk9_1.toNat ++ (List.replicate ((vl7_1.length : Int).toNat - vk9_1.toNat) ([] : List UInt8) ++ vl7_1.drop (vk9_1.toNat + ((vl7_1.length : Int).toNat - vk9_1.toNat)))).take vk9_1.toNat))))
      (some (.inl (IntKind.wrap .i64 (vk + 1)))))
    (some (.inr (.inl ())))

noncomputable def slices_Compact_string_string_o0 (qs : List (List UInt8)) : Option ((List (List UInt8))) :=
  cond (decide ((qs.length : Int) < 2))
    (some qs)
    ((loopO (slices_Compact_string_string_o0_x1 qs) 1).bind fun x => match x with
      | .inl _ =>
        some qs
      | .inr vx1 =>
        some vx1)

/-! ### beaconfleet/fleetref2.namesOf -/
noncomputable def fleetref2_namesOf_o0_x2 (vy3 : List api_Prop) : (List (List UInt8)) × Int → Option (((List (List UInt8)) × Int) ⊕ ((List (List UInt8))))
  | (vout3, vx2) =>
  cond (decide (vx2 < (vy3.length : Int)))
    ((at? vy3 vx2).bind fun vy5 =>
    gd (Nat.ble (vout3.length + ([vy5.Name] : List (List UInt8)).length) LIM) <|
    some (.inl (vout3 ++ ([vy5.Name] : List (List UInt8)), IntKind.wrap .i64 (vx2 + 1))))
    (some (.inr vout3))

noncomputable def fleetref2_namesOf_o0_x1 (qlists : List (List api_Prop)) : (List (List UInt8)) × Int → Option (((List (List UInt8)) × Int) ⊕ ((List (List UInt8))))
  | (vout, vx) =>
  cond (decide (vx < (qlists.length : Int)))
    ((at? qlists vx).bind fun vy3 =>
    (loopO (fleetref2_namesOf_o0_x2 vy3) (vout, 0)).bind fun vout4_1 =>
    some (.inl (vout4_1, IntKind.wrap .i64 (vx + 1))))
    (some (.inr vout))

noncomputable def fleetref2_namesOf_o0 (qlists : List (List api_Prop)) : Option ((List (List UInt8))) :=
  (loopO (fleetref2_namesOf_o0_x1 qlists) ([], 0)).bind fun vout5_1 =>
  (slices_Sort_string_string_o0 vout5_1).bind fun vl =>
  gd (vl.length == vout5_1.length) <|
  (slices_Compact_string_string_o0 vl).bind fun vr =>
  some vr

/-! ### beaconfleet/fleetref2.ValueOf -/
noncomputable def fleetref2_ValueOf_x1 (ql : List api_Prop) (qname : List UInt8) (vx : Int) : Option ((Int) ⊕ (Unit ⊕ api_Value)) :=
  cond (decide (vx < (ql.length : Int)))
    ((at? ql vx).bind fun vy1 =>
    cond (decide (vy1.Name = qname))
      (some (.inr (.inr (api_Value.mk vy1.Value.Kind vy1.Value.Flag vy1.Value.Number vy1.Value.Words))))
      (some (.inl (IntKind.wrap .i64 (vx + 1)))))
    (some (.inr (.inl ())))

noncomputable def fleetref2_ValueOf (ql : List api_Prop) (qname : List UInt8) : Option (api_Value) :=
  (loopO (fleetref2_ValueOf_x1 ql qname) 0).bind fun x => match x with
    | .inl _ =>
      some (api_Value.mk 0 false 0 ([] : List UInt8))
    | .inr vx1_1 =>
      some vx1_1

/-! ### beaconfleet/fleetref2.DifferOf -/
noncomputable def fleetref2_DifferOf_o1_x2 (qa : List api_Prop) (qb : List api_Prop) (vr1 : List (List UInt8)) (vout : List api_Change) (vx : Int) : Option ((List api_Change)) :=
  (at? vr1 vx).bind fun vy1 =>
  (fleetref2_ValueOf qa vy1).bind fun vr3 =>
  (fleetref2_ValueOf qb vy1).bind fun vr4 =>
  cond (!(decide (vr3.Kind = vr4.Kind) && ((vr3.Flag == vr4.Flag) && (decide (vr3.Number = vr4.Number) && (decide (vr3.Words = vr4.Words) && true)))))
    (gd (Nat.ble (vout.length + ([api_Change.mk vy1 vr3 vr4] : List api_Change).length) LIM) <|
    some (vout ++ ([api_Change.mk vy1 vr3 vr4] : List api_Change)))
    (some vout)

noncomputable def fleetref2_DifferOf_o1_x1 (qa : List api_Prop) (qb : List api_Prop) (vr1 : List (List UInt8)) : (List api_Change) × Int → Option (((List api_Change) × Int) ⊕ ((List api_Change)))
  | (vout, vx) =>
  cond (decide (vx < (vr1.length : Int)))
    ((fleetref2_DifferOf_o1_x2 qa qb vr1 vout vx).bind fun vout2_1 =>
    some (.inl (vout2_1, IntKind.wrap .i64 (vx + 1))))
    (some (.inr vout))

noncomputable def fleetref2_DifferOf_o1 (qa : List api_Prop) (qb : List api_Prop) : Option ((List api_Change)) :=
  (fleetref2_namesOf_o0 ([qa, qb] : List (List api_Prop))).bind fun vr1 =>
  (loopO (fleetref2_DifferOf_o1_x1 qa qb vr1) ([], 0)).bind fun vout3_1 =>
  some vout3_1

/-! ### (*beaconfleet/fleetmake.Stream).Changes -/
noncomputable def fleetmake_Stream_Changes_x2 (vs3 : fleetmake_Stream) (vr5 : List api_Change) : Option ((fleetmake_Stream × Bool)) :=
  cond (decide (0 < (vr5.length : Int)))
    ((fleetmake_Stream_Flip vs3 5).bind fun vr =>
    some (fleetmake_Stream.mk vs3.L (IntKind.wrap .i64 (vs3.at_ + 1)), vr))
    (some (vs3, false))

noncomputable def fleetmake_Stream_Changes_x1 (vs3 : fleetmake_Stream) (vr5 : List api_Change) : Option ((fleetmake_Stream × (List api_Change))) :=
  (fleetmake_Stream_Changes_x2 vs3 vr5).bind fun (vs1, vx1) =>
  cond (vx1)
    ((fleetmake_Stream_Next vs1 (vr5.length : Int)).bind fun vr3 =>
    (at? vr5 vr3).bind fun vy =>
    (fleetmake_Stream_Next (fleetmake_Stream.mk vs1.L (IntKind.wrap .i64 (vs1.at_ + 1))) 4).bind fun vr3_1 =>
    cond (decide (vr3_1 = 0))
      ((fleetmake_Stream_PropName (fleetmake_Stream.mk vs1.L (IntKind.wrap .i64 ((IntKind.wrap .i64 (vs1.at_ + 1)) + 1)))).bind fun vr4 =>
      some (fleetmake_Stream.mk vs1.L (IntKind.wrap .i64 ((IntKind.wrap .i64 ((IntKind.wrap .i64 ((IntKind.wrap .i64 (vs1.at_ + 1)) + 1)) + 1)) + 1)), vr5.set vr3.toNat (api_Change.mk vr4 (api_Value.mk vy.From.Kind vy.From.Flag vy.From.Number vy.From.Words) (api_Value.mk vy.To.Kind vy.To.Flag vy.To.Number vy.To.Words))))
      (cond (decide (vr3_1 = 1))
        ((fleetmake_Stream_Value (fleetmake_Stream.mk vs1.L (IntKind.wrap .i64 ((IntKind.wrap .i64 (vs1.at_ + 1)) + 1)))).bind fun (vs3_1, vr7) =>
        some (vs3_1, vr5.set vr3.toNat (api_Change.mk vy.Name vr7 (api_Value.mk vy.To.Kind vy.To.Flag vy.To.Number vy.To.Words))))
        (cond (decide (vr3_1 = 2))
          ((fleetmake_Stream_Value (fleetmake_Stream.mk vs1.L (IntKind.wrap .i64 ((IntKind.wrap .i64 (vs1.at_ + 1)) + 1)))).bind fun (vs3_2, vr7_1) =>
          some (vs3_2, vr5.set vr3.toNat (api_Change.mk vy.Name (api_Value.mk vy.From.Kind vy.From.Flag vy.From.Number vy.From.Words) vr7_1)))
          (some (fleetmake_Stream.mk vs1.L (IntKind.wrap .i64 ((IntKind.wrap .i64 (vs1.at_ + 1)) + 1)), vr5.set vr3.toNat (api_Change.mk vy.Name (api_Value.mk vy.To.Kind vy.To.Flag vy.To.Number vy.To.Words) (api_Value.mk vy.To.Kind vy.To.Flag vy.To.Number vy.To.Words)))))))
    (some (vs1, vr5))

noncomputable def fleetmake_Stream_Changes (qs : fleetmake_Stream) (ql : List api_Prop) : Option (fleetmake_Stream × (List api_Change)) :=
  (fleetmake_Stream_RightProps qs).bind fun (vs3, vr8) =>
  (fleetref2_DifferOf_o1 ql vr8).bind fun vr5 =>
  (fleetmake_Stream_Changes_x1 vs3 vr5).bind fun (vs2_1, vout1) =>
  some (vs2_1, vout1)

/-! ### beaconfleet/fleetref2.fromValues$1 -/
noncomputable def fleetref2_fromValues_1 (qa : api_Prop) (qb : api_Prop) : Option (Unit) :=
  (strings_Compare qa.Name qb.Name).bind fun _ =>
  some ()

/-! ### slices.insertionSortCmpFunc[beaconfleet/api.Prop] -/
noncomputable def slices_insertionSortCmpFunc_api_Prop_o0_f3_fleetref2_fromValues_1_x3 (qa : Int) (vl3 : List api_Prop) (vj1 : Int) : Option (Bool) :=
  cond (decide (qa < vj1))
    ((at? vl3 vj1).bind fun vy15 =>
    (at? vl3 (IntKind.wrap .i64 (vj1 - 1))).bind fun vy16 =>
    (fleetref2_fromValues_1 (api_Prop.mk vy15.Name (api_Value.mk vy15.Value.Kind vy15.Value.Flag vy15.Value.Number vy15.Value.Words)) (api_Prop.mk vy16.Name (api_Value.mk vy16.Value.Kind vy16.Value.Flag vy16.Value.Number vy16.Value.Words))).bind fun _ =>
    some (decide ((Lib.compareBytes vy15.Name vy16.Name) < 0)))
    (some false)

noncomputable def slices_insertionSortCmpFunc_api_Prop_o0_f3_fleetref2_fromValues_1_x2 (qa : Int) : (List api_Prop) × Int → Option (((List api_Prop) × Int) ⊕ ((List api_Prop)))
  | (vl3, vj1) =>
  (slices_insertionSortCmpFunc_api_Prop_o0_f3_fleetref2_fromValues_1_x3 qa vl3 vj1).bind fun vx4_1 =>
  cond (vx4_1)
    ((at? vl3 (IntKind.wrap .i64 (vj1 - 1))).bind fun vy17 =>
    (at? vl3 vj1).bind fun vy18 =>
    (at? (vl3.set vj1.toNat (api_Prop.mk vy17.Name (api_Value.mk vy17.Value.Kind vy17.Value.Flag vy17.Value.Number vy17.Value.Words))) (IntKind.wrap .i64 (vj1 - 1))).bind fun vy19 =>
    some (.inl ((vl3.set vj1.toNat (api_Prop.mk vy17.Name (api_Value.mk vy17.Value.Kind vy17.Value.Flag vy17.Value.Number vy17.Value.Words))).set (IntKind.wrap .i64 (vj1 - 1)).toNat (api_Prop.mk vy18.Name (api_Value.mk vy18.Value.Kind vy18.Value.Flag vy18.Value.Number vy18.Value.Words)), IntKind.wrap .i64 (vj1 - 1))))
    (some (.inr vl3))

noncomputable def slices_insertionSortCmpFunc_api_Prop_o0_f3_fleetref2_fromValues_1_x1 (qa : Int) (qb : Int) : (List api_Prop) × Int → Option (((List api_Prop) × Int) ⊕ ((List api_Prop)))
  | (vl, vi) =>
  cond (decide (vi < qb))
    ((loopO (slices_insertionSortCmpFunc_api_Prop_o0_f3_fleetref2_fromValues_1_x2 qa) (vl, vi)).bind fun vl4_1 =>
    some (.inl (vl4_1, IntKind.wrap .i64 (vi + 1))))
    (some (.inr vl))

noncomputable def slices_insertionSortCmpFunc_api_Prop_o0_f3_fleetref2_fromValues_1 (qdata : List api_Prop) (qa : Int) (qb : Int) : Option ((List api_Prop)) :=
  (loopO (slices_insertionSortCmpFunc_api_Prop_o0_f3_fleetref2_fromValues_1_x1 qa qb) (qdata, IntKind.wrap .i64 (qa + 1))).bind fun vl5_1 =>
  some vl5_1

/-! ### slices.pdqsortCmpFunc[beaconfleet/api.Prop] -/
noncomputable def slices_pdqsortCmpFunc_api_Prop_o0_f4_fleetref2_fromValues_1_x1 (qx : List api_Prop) (qx1 : Int) (qx2 : Int) (qx3 : Int) : Unit → Option ((Unit) ⊕ ((List api_Prop)))
  | _ =>
  cond (decide ((IntKind.wrap .i64 (qx2 - qx1)) ≤ 12))
    ((slices_insertionSortCmpFunc_api_Prop_o0_f3_fleetref2_fromValues_1 qx qx1 qx2).bind fun vl6_1 =>
    gd (vl6_1.length == qx.length) <|
    some (.inr vl6_1))
    (cond (decide (qx3 = 0))
      (none)
      (none))

noncomputable def slices_pdqsortCmpFunc_api_Prop_o0_f4_fleetref2_fromValues_1 (qx : List api_Prop) (qx1 : Int) (qx2 : Int) (qx3 : Int) : Option ((List api_Prop)) :=
  (loopO (slices_pdqsortCmpFunc_api_Prop_o0_f4_fleetref2_fromValues_1_x1 qx qx1 qx2 qx3) ()).bind fun vl1 =>
  some vl1

/-! ### slices.SortFunc[[]beaconfleet/api.Prop,beaconfleet/api.Prop] -/
noncomputable def slices_SortFunc_api_Prop_api_Prop_o0_f1_fleetref2_fromValues_1 (qx : List api_Prop) : Option ((List api_Prop)) :=
  (bits_Len (IntKind.wrap .u64 ((qx.length : Int)))).bind fun vr1 =>
  (slices_pdqsortCmpFunc_api_Prop_o0_f4_fleetref2_fromValues_1 qx 0 (qx.length : Int) vr1).bind fun vl2 =>
  gd (vl2.length == qx.length) <|
  some vl2

/-! ### beaconfleet/fleetref2.fromValues -/
noncomputable def fleetref2_fromValues_x1 (qe : Option (List UInt8 × api_Value)) (vout : List api_Prop) : Option (((List api_Prop)) ⊕ ((List api_Prop))) :=
  match qe with
  | none =>
    some (.inr vout)
  | some ve1 =>
    cond (!decide (ve1.2.Kind = 0))
      (gd (Nat.ble (vout.length + ([api_Prop.mk ve1.1 (api_Value.mk ve1.2.Kind ve1.2.Flag ve1.2.Number ve1.2.Words)] : List api_Prop).length) LIM) <|
      some (.inl (vout ++ ([api_Prop.mk ve1.1 (api_Value.mk ve1.2.Kind ve1.2.Flag ve1.2.Number ve1.2.Words)] : List api_Prop))))
      (some (.inl vout))

noncomputable def fleetref2_fromValues (qm : List (List UInt8 × api_Value)) : Option ((List api_Prop) × Int) :=
  allPerm qm fun zo =>
  (rngO (fleetref2_fromValues_x1) zo []).bind fun vout1_1 =>
  (slices_SortFunc_api_Prop_api_Prop_o0_f1_fleetref2_fromValues_1 vout1_1).bind fun vl3 =>
  gd (vl3.length == vout1_1.length) <|
  (fleetref2_PropsFault vl3).bind fun vr =>
  cond (!decide (vr = 0))
    (some ([], vr))
    (some (vl3, 0))

/-! ### beaconfleet/fleetref2.ApplyOf -/
noncomputable def fleetref2_ApplyOf_o1_x1 (ql : List api_Prop) : (List (List UInt8 × api_Value)) × Int → Option (((List (List UInt8 × api_Value)) × Int) ⊕ ((List (List UInt8 × api_Value))))
  | (vm, vx) =>
  cond (decide (vx < (ql.length : Int)))
    ((at? ql vx).bind fun vy1 =>
    some (.inl (aput vm vy1.Name (api_Value.mk vy1.Value.Kind vy1.Value.Flag vy1.Value.Number vy1.Value.Words), IntKind.wrap .i64 (vx + 1))))
    (some (.inr vm))

noncomputable def fleetref2_ApplyOf_o1_x2 (qc : List api_Change) : (List (List UInt8 × api_Value)) × Int → Option (((List (List UInt8 × api_Value)) × Int) ⊕ ((List (List UInt8 × api_Value)) ⊕ Unit))
  | (vm2, vx1) =>
  cond (decide (vx1 < (qc.length : Int)))
    ((at? qc vx1).bind fun vy3 =>
    (some ((aget vm2 vy3.Name).getD (api_Value.mk 0 false 0 ([] : List UInt8)))).bind fun ve1 =>
    cond (!(decide (ve1.Kind = vy3.From.Kind) && ((ve1.Flag == vy3.From.Flag) && (decide (ve1.Number = vy3.From.Number) && (decide (ve1.Words = vy3.From.Words) && true)))))
      (some (.inr (.inr ())))
      (some (.inl (aput vm2 vy3.Name (api_Value.mk vy3.To.Kind vy3.To.Flag vy3.To.Number vy3.To.Words), IntKind.wrap .i64 (vx1 + 1)))))
    (some (.inr (.inl vm2)))

noncomputable def fleetref2_ApplyOf_o1 (ql : List api_Prop) (qc : List api_Change) : Option ((List api_Prop) × Int) :=
  (loopO (fleetref2_ApplyOf_o1_x1 ql) (([] : List (List UInt8 × api_Value)), 0)).bind fun vm1_1 =>
  (loopO (fleetref2_ApplyOf_o1_x2 qc) (vm1_1, 0)).bind fun x => match x with
    | .inl vm3_1 =>
      (fleetref2_fromValues vm3_1).bind fun (vr1, vr2) =>
      some (vr1, vr2)
    | .inr _ =>
      some ([], 13)

/-! ### internal/stringslite.Cut -/
noncomputable def stringslite_Cut (qs : List UInt8) (qsep : List UInt8) : Option ((List UInt8) × (List UInt8) × Bool) :=
  (stringslite_Index qs qsep).bind fun vr =>
  cond (decide (0 ≤ vr))
    ((sub? qs 0 vr).bind fun vs =>
    (sub? qs (IntKind.wrap .i64 (vr + (qsep.length : Int))) (qs.length : Int)).bind fun vs1 =>
    some (vs, vs1, true))
    (some (qs, ([] : List UInt8), false))

/-! ### strings.Cut -/
noncomputable def strings_Cut (qs : List UInt8) (qsep : List UInt8) : Option ((List UInt8) × (List UInt8) × Bool) :=
  (stringslite_Cut qs qsep).bind fun (vr1, vr2, vr3) =>
  some (vr1, vr2, vr3)

/-! ### beaconfleet/base.Key -/
noncomputable def base_Key_x1 (qs : List UInt8) : Option (Bool) :=
  cond (decide (qs = ([] : List UInt8)))
    (some true)
    (cond (decide (40 < (qs.length : Int)))
      (some true)
      ((at? qs 0).bind fun vc =>
      cond (decide ((vc.toNat : Int) < 97))
        (some true)
        (some (decide (122 < (vc.toNat : Int))))))

noncomputable def base_Key_x3 (vc2 : UInt8) : Option (Bool) :=
  cond (decide (97 ≤ (vc2.toNat : Int)))
    (cond (decide ((vc2.toNat : Int) ≤ 122))
      (some false)
      (cond (decide (48 ≤ (vc2.toNat : Int)))
        (cond (decide ((vc2.toNat : Int) ≤ 57))
          (some false)
          (cond (decide ((vc2.toNat : Int) = 45))
            (some false)
            (some (!(decide ((vc2.toNat : Int) = 95))))))
        (cond (decide ((vc2.toNat : Int) = 45))
          (some false)
          (some (!(decide ((vc2.toNat : Int) = 95)))))))
    (cond (decide (48 ≤ (vc2.toNat : Int)))
      (cond (decide ((vc2.toNat : Int) ≤ 57))
        (some false)
        (cond (decide ((vc2.toNat : Int) = 45))
          (some false)
          (some (!(decide ((vc2.toNat : Int) = 95))))))
      (cond (decide ((vc2.toNat : Int) = 45))
        (some false)
        (some (!(decide ((vc2.toNat : Int) = 95))))))

noncomputable def base_Key_x2 (qs : List UInt8) (vx2 : Int) : Option ((Int) ⊕ (Unit ⊕ Unit)) :=
  cond (decide (vx2 < (qs.length : Int)))
    ((at? qs vx2).bind fun vc2 =>
    (base_Key_x3 vc2).bind fun vx4_1 =>
    cond (vx4_1)
      (some (.inr (.inr ())))
      (some (.inl (IntKind.wrap .i64 (vx2 + 1)))))
    (some (.inr (.inl ())))

noncomputable def base_Key (qs : List UInt8) : Option (Bool) :=
  (base_Key_x1 qs).bind fun vx1 =>
  cond (vx1)
    (some false)
    ((loopO (base_Key_x2 qs) 0).bind fun x => match x with
      | .inl _ =>
        some true
      | .inr _ =>
        some false)

/-! ### beaconfleet/base.Dotted -/
noncomputable def base_Dotted_x1 (qmost : Int) : (List UInt8) × Int → Option (((List UInt8) × Int) ⊕ (Unit ⊕ Bool))
  | (vs, vn) =>
  cond (decide (vn < qmost))
    ((strings_Cut vs ([46] : List UInt8)).bind fun (vr2, vr4_1, vr5_1) =>
    (base_Key vr2).bind fun vr3 =>
    cond (!vr3)
      (some (.inr (.inr false)))
      (cond (!vr5_1)
        (some (.inr (.inr true)))
        (some (.inl (vr4_1, IntKind.wrap .i64 (vn + 1))))))
    (some (.inr (.inl ())))

noncomputable def base_Dotted (qs : List UInt8) (qmost : Int) : Option (Bool) :=
  (loopO (base_Dotted_x1 qmost) (qs, 0)).bind fun x => match x with
    | .inl _ =>
      some false
    | .inr vx1 =>
      some vx1

/-! ### beaconfleet/twin.isName -/
noncomputable def twin_isName (qs : List UInt8) : Option (Bool) :=
  (base_Dotted qs 8).bind fun vr6 =>
  some vr6

/-! ### beaconfleet/base.Out -/
noncomputable def base_Out_x1 (qn : Int) (qlow : Int) (qhigh : Int) : Option (Bool) :=
  cond (decide (qn < qlow))
    (some true)
    (some (decide (qhigh < qn)))

noncomputable def base_Out (qn : Int) (qlow : Int) (qhigh : Int) : Option (Bool) :=
  (base_Out_x1 qn qlow qhigh).bind fun vx1 =>
  some vx1

/-! ### beaconfleet/base.Unmarked -/
noncomputable def base_Unmarked_x2 (qs : List UInt8) (vx : Int) : Option (Bool) :=
  (at? qs vx).bind fun vc1 =>
  cond (decide ((vc1.toNat : Int) < 32))
    (some true)
    (some (decide ((vc1.toNat : Int) = 127)))

noncomputable def base_Unmarked_x1 (qs : List UInt8) (vx : Int) : Option ((Int) ⊕ (Unit ⊕ Unit)) :=
  cond (decide (vx < (qs.length : Int)))
    ((base_Unmarked_x2 qs vx).bind fun vx2_1 =>
    cond (vx2_1)
      (some (.inr (.inr ())))
      (some (.inl (IntKind.wrap .i64 (vx + 1)))))
    (some (.inr (.inl ())))

noncomputable def base_Unmarked (qs : List UInt8) : Option (Bool) :=
  (loopO (base_Unmarked_x1 qs) 0).bind fun x => match x with
    | .inl _ =>
      (utf8_ValidString qs).bind fun vr =>
      some vr
    | .inr _ =>
      some false

/-! ### beaconfleet/twin.valueFault -/
noncomputable def twin_valueFault_x1 (qv : api_Value) : Option (api_Value ⊕ Unit) :=
  cond (decide (qv.Kind = 0))
    (some (.inl (api_Value.mk qv.Kind false 0 ([] : List UInt8))))
    (cond (decide (qv.Kind = 1))
      (some (.inl (api_Value.mk qv.Kind qv.Flag 0 ([] : List UInt8))))
      (cond (decide (qv.Kind = 2))
        (some (.inl (api_Value.mk qv.Kind false qv.Number ([] : List UInt8))))
        (cond (decide (qv.Kind = 3))
          (some (.inl (api_Value.mk qv.Kind false 0 qv.Words)))
          (some (.inr ())))))

noncomputable def twin_valueFault (qv : api_Value) : Option (Int) :=
  (twin_valueFault_x1 qv).bind fun x => match x with
    | .inl vused1 =>
      cond (!(decide (qv.Kind = vused1.Kind) && ((qv.Flag == vused1.Flag) && (decide (qv.Number = vused1.Number) && (decide (qv.Words = vused1.Words) && true)))))
        (some 3)
        ((base_Out qv.Number (-1000000000) 1000000000).bind fun vr =>
        cond (vr)
          (some 1)
          (cond (decide (1000 < (qv.Words.length : Int)))
            (some 2)
            ((base_Unmarked qv.Words).bind fun vr1 =>
            cond (!vr1)
              (some 3)
              (some 0))))
    | .inr _ =>
      some 4

/-! ### beaconfleet/twin.find$1 -/
noncomputable def twin_find_1 (qp : api_Prop) (qname : List UInt8) : Option (Unit) :=
  (strings_Compare qp.Name qname).bind fun _ =>
  some ()

/-! ### slices.BinarySearchFunc[[]beaconfleet/api.Prop,beaconfleet/api.Prop,string] -/
noncomputable def slices_BinarySearchFunc_api_Prop_api_Prop_string_f2_twin_find_1_x1 (qx : List api_Prop) (qtarget : List UInt8) : Int × Int → Option ((Int × Int) ⊕ (Int))
  | (vi, vj) =>
  cond (decide (vi < vj))
    ((at? qx (IntKind.wrap .i64 (ishr .u64 (IntKind.wrap .u64 (IntKind.wrap .i64 (vi + vj))) 1))).bind fun vy1 =>
    (twin_find_1 (api_Prop.mk vy1.Name (api_Value.mk vy1.Value.Kind vy1.Value.Flag vy1.Value.Number vy1.Value.Words)) qtarget).bind fun _ =>
    cond (decide ((Lib.compareBytes vy1.Name qtarget) < 0))
      (some (.inl (IntKind.wrap .i64 ((IntKind.wrap .i64 (ishr .u64 (IntKind.wrap .u64 (IntKind.wrap .i64 (vi + vj))) 1)) + 1), vj)))
      (some (.inl (vi, IntKind.wrap .i64 (ishr .u64 (IntKind.wrap .u64 (IntKind.wrap .i64 (vi + vj))) 1)))))
    (some (.inr vi))

noncomputable def slices_BinarySearchFunc_api_Prop_api_Prop_string_f2_twin_find_1_x2 (qx : List api_Prop) (qtarget : List UInt8) (vi1_1 : Int) : Option (Bool) :=
  cond (decide (vi1_1 < (qx.length : Int)))
    ((at? qx vi1_1).bind fun vy2 =>
    (twin_find_1 (api_Prop.mk vy2.Name (api_Value.mk vy2.Value.Kind vy2.Value.Flag vy2.Value.Number vy2.Value.Words)) qtarget).bind fun _ =>
    some (decide ((Lib.compareBytes vy2.Name qtarget) = 0)))
    (some false)

noncomputable def slices_BinarySearchFunc_api_Prop_api_Prop_string_f2_twin_find_1 (qx : List api_Prop) (qtarget : List UInt8) : Option (Int × Bool) :=
  (loopO (slices_BinarySearchFunc_api_Prop_api_Prop_string_f2_twin_find_1_x1 qx qtarget) (0, (qx.length : Int))).bind fun vi1_1 =>
  (slices_BinarySearchFunc_api_Prop_api_Prop_string_f2_twin_find_1_x2 qx qtarget vi1_1).bind fun vx1 =>
  some (vi1_1, vx1)

/-! ### beaconfleet/twin.find -/
noncomputable def twin_find (ql : List api_Prop) (qname : List UInt8) : Option (Int) :=
  (slices_BinarySearchFunc_api_Prop_api_Prop_string_f2_twin_find_1 ql qname).bind fun (vr, vr1) =>
  cond (!vr1)
    (some (-1))
    (some vr)

/-! ### beaconfleet/twin.CheckProps$1 -/
noncomputable def twin_CheckProps_1 (qs : List UInt8) (qx : List api_Prop) : Option (Bool) :=
  (twin_find qx qs).bind fun vr2 =>
  some (decide (0 ≤ vr2))

/-! ### beaconfleet/twin.above -/
noncomputable def twin_above_f1_twin_CheckProps_1_x2 (qname : List UInt8) (qf : List api_Prop) (vx : Int) : Option (Bool) :=
  (at? qname vx).bind fun vc1 =>
  cond (decide ((vc1.toNat : Int) = 46))
    ((sub? qname 0 vx).bind fun vs1 =>
    (twin_CheckProps_1 vs1 qf).bind fun vr1 =>
    some vr1)
    (some false)

noncomputable def twin_above_f1_twin_CheckProps_1_x1 (qname : List UInt8) (qf : List api_Prop) (vx : Int) : Option ((Int) ⊕ (Unit ⊕ Unit)) :=
  cond (decide (vx < (qname.length : Int)))
    ((twin_above_f1_twin_CheckProps_1_x2 qname qf vx).bind fun vx2_1 =>
    cond (vx2_1)
      (some (.inr (.inr ())))
      (some (.inl (IntKind.wrap .i64 (vx + 1)))))
    (some (.inr (.inl ())))

noncomputable def twin_above_f1_twin_CheckProps_1 (qname : List UInt8) (qf : List api_Prop) : Option (Bool) :=
  (loopO (twin_above_f1_twin_CheckProps_1_x1 qname qf) 0).bind fun x => match x with
    | .inl _ =>
      some false
    | .inr _ =>
      some true

/-! ### beaconfleet/twin.CheckProps -/
noncomputable def twin_CheckProps_x2 (ql : List api_Prop) (vx : Int) (vy2 : api_Prop) : Option (Bool) :=
  cond (decide (0 < vx))
    ((at? ql (IntKind.wrap .i64 (vx - 1))).bind fun vy3 =>
    some (Op.bytesLess vy2.Name vy3.Name || decide (vy2.Name = vy3.Name)))
    (some false)

noncomputable def twin_CheckProps_x1 (ql : List api_Prop) (vx : Int) : Option ((Int) ⊕ (Unit ⊕ Int)) :=
  cond (decide (vx < (ql.length : Int)))
    ((at? ql vx).bind fun vy2 =>
    (twin_isName vy2.Name).bind fun vr1 =>
    cond (!vr1)
      (some (.inr (.inr 5)))
      ((twin_valueFault (api_Value.mk vy2.Value.Kind vy2.Value.Flag vy2.Value.Number vy2.Value.Words)).bind fun vr2_1 =>
      cond (!decide (vr2_1 = 0))
        (some (.inr (.inr vr2_1)))
        (cond (decide (vy2.Value.Kind = 0))
          (some (.inr (.inr 4)))
          ((twin_CheckProps_x2 ql vx vy2).bind fun vx2_1 =>
          cond (vx2_1)
            (some (.inr (.inr 7)))
            (some (.inl (IntKind.wrap .i64 (vx + 1))))))))
    (some (.inr (.inl ())))

noncomputable def twin_CheckProps_x3 (ql : List api_Prop) (vx4 : Int) : Option ((Int) ⊕ (Unit ⊕ Unit)) :=
  cond (decide (vx4 < (ql.length : Int)))
    ((at? ql vx4).bind fun vy5 =>
    (twin_above_f1_twin_CheckProps_1 vy5.Name ql).bind fun vr2_3 =>
    cond (vr2_3)
      (some (.inr (.inr ())))
      (some (.inl (IntKind.wrap .i64 (vx4 + 1)))))
    (some (.inr (.inl ())))

noncomputable def twin_CheckProps (ql : List api_Prop) : Option (Int) :=
  cond (decide (500 < (ql.length : Int)))
    (some 2)
    ((loopO (twin_CheckProps_x1 ql) 0).bind fun x => match x with
      | .inl _ =>
        (loopO (twin_CheckProps_x3 ql) 0).bind fun x => match x with
          | .inl _ =>
            some 0
          | .inr _ =>
            some 13
      | .inr vx3_1 =>
        some vx3_1)

/-! ### beaconfleet/base.First -/
noncomputable def base_First_x1 (ql : List Int) (vx : Int) : Option ((Int) ⊕ (Unit ⊕ Int)) :=
  cond (decide (vx < (ql.length : Int)))
    ((at? ql vx).bind fun vy1 =>
    cond (!decide (vy1 = 0))
      (some (.inr (.inr vy1)))
      (some (.inl (IntKind.wrap .i64 (vx + 1)))))
    (some (.inr (.inl ())))

noncomputable def base_First (ql : List Int) : Option (Int) :=
  (loopO (base_First_x1 ql) 0).bind fun x => match x with
    | .inl _ =>
      some 0
    | .inr vx1_1 =>
      some vx1_1

/-! ### beaconfleet/twin.names -/
noncomputable def twin_names_o0_x2 (vy3 : List api_Prop) : (List (List UInt8)) × Int → Option (((List (List UInt8)) × Int) ⊕ ((List (List UInt8))))
  | (vout3, vx2) =>
  cond (decide (vx2 < (vy3.length : Int)))
    ((at? vy3 vx2).bind fun vy5 =>
    gd (Nat.ble (vout3.length + ([vy5.Name] : List (List UInt8)).length) LIM) <|
    some (.inl (vout3 ++ ([vy5.Name] : List (List UInt8)), IntKind.wrap .i64 (vx2 + 1))))
    (some (.inr vout3))

noncomputable def twin_names_o0_x1 (qlists : List (List api_Prop)) : (List (List UInt8)) × Int → Option (((List (List UInt8)) × Int) ⊕ ((List (List UInt8))))
  | (vout, vx) =>
  cond (decide (vx < (qlists.length : Int)))
    ((at? qlists vx).bind fun vy3 =>
    (loopO (twin_names_o0_x2 vy3) (vout, 0)).bind fun vout4_1 =>
    some (.inl (vout4_1, IntKind.wrap .i64 (vx + 1))))
    (some (.inr vout))

noncomputable def twin_names_o0 (qlists : List (List api_Prop)) : Option ((List (List UInt8))) :=
  (loopO (twin_names_o0_x1 qlists) ([], 0)).bind fun vout5_1 =>
  (slices_Sort_string_string_o0 vout5_1).bind fun vl =>
  gd (vl.length == vout5_1.length) <|
  (slices_Compact_string_string_o0 vl).bind fun vr =>
  some vr

/-! ### beaconfleet/twin.valueOf -/
noncomputable def twin_valueOf (ql : List api_Prop) (qname : List UInt8) : Option (api_Value) :=
  (twin_find ql qname).bind fun vr2 =>
  cond (decide (0 ≤ vr2))
    ((at? ql vr2).bind fun vy =>
    some (api_Value.mk vy.Value.Kind vy.Value.Flag vy.Value.Number vy.Value.Words))
    (some (api_Value.mk 0 false 0 ([] : List UInt8)))

/-! ### beaconfleet/twin.Three -/
noncomputable def twin_Three_x4 (vr6 : api_Value) (vr7 : api_Value) (vr8 : api_Value) : Option (Bool) :=
  cond ((decide (vr7.Kind = vr6.Kind) && ((vr7.Flag == vr6.Flag) && (decide (vr7.Number = vr6.Number) && (decide (vr7.Words = vr6.Words) && true)))))
    (some true)
    (some (decide (vr7.Kind = vr8.Kind) && ((vr7.Flag == vr8.Flag) && (decide (vr7.Number = vr8.Number) && (decide (vr7.Words = vr8.Words) && true)))))

noncomputable def twin_Three_x3 (vx1 : List api_Clash) (vy1 : List UInt8) (vr6 : api_Value) (vr7 : api_Value) (vr8 : api_Value) : Option ((api_Value × (List api_Clash))) :=
  (twin_Three_x4 vr6 vr7 vr8).bind fun vx8_1 =>
  cond (vx8_1)
    (some (vr8, vx1))
    (cond ((decide (vr8.Kind = vr6.Kind) && ((vr8.Flag == vr6.Flag) && (decide (vr8.Number = vr6.Number) && (decide (vr8.Words = vr6.Words) && true)))))
      (some (vr7, vx1))
      (gd (Nat.ble (vx1.length + ([api_Clash.mk vy1 vr6 vr7 vr8] : List api_Clash).length) LIM) <|
      some (vr6, vx1 ++ ([api_Clash.mk vy1 vr6 vr7 vr8] : List api_Clash))))

noncomputable def twin_Three_x2 (qx : List api_Prop) (qx1 : List api_Prop) (qx2 : List api_Prop) (vr1 : List (List UInt8)) (vx : List api_Prop) (vx1 : List api_Clash) (vx2 : Int) : Option (((List api_Prop) × (List api_Clash))) :=
  (at? vr1 vx2).bind fun vy1 =>
  (twin_valueOf qx vy1).bind fun vr6 =>
  (twin_valueOf qx1 vy1).bind fun vr7 =>
  (twin_valueOf qx2 vy1).bind fun vr8 =>
  (twin_Three_x3 vx1 vy1 vr6 vr7 vr8).bind fun (vx9_1, vx10_1) =>
  cond (!decide (vx9_1.Kind = 0))
    (gd (Nat.ble (vx.length + ([api_Prop.mk vy1 vx9_1] : List api_Prop).length) LIM) <|
    some (vx ++ ([api_Prop.mk vy1 vx9_1] : List api_Prop), vx10_1))
    (some (vx, vx10_1))

noncomputable def twin_Three_x1 (qx : List api_Prop) (qx1 : List api_Prop) (qx2 : List api_Prop) (vr1 : List (List UInt8)) : (List api_Prop) × (List api_Clash) × Int → Option (((List api_Prop) × (List api_Clash) × Int) ⊕ (((List api_Prop) × (List api_Clash))))
  | (vx, vx1, vx2) =>
  cond (decide (vx2 < (vr1.length : Int)))
    ((twin_Three_x2 qx qx1 qx2 vr1 vx vx1 vx2).bind fun (vx11_1, vx12_1) =>
    some (.inl (vx11_1, vx12_1, IntKind.wrap .i64 (vx2 + 1))))
    (some (.inr (vx, vx1)))

noncomputable def twin_Three (qx : List api_Prop) (qx1 : List api_Prop) (qx2 : List api_Prop) : Option ((List api_Prop) × (List api_Clash) × Int) :=
  (twin_CheckProps qx).bind fun vr3 =>
  (twin_CheckProps qx1).bind fun vr3_1 =>
  (twin_CheckProps qx2).bind fun vr3_2 =>
  (base_First ([vr3, vr3_1, vr3_2] : List Int)).bind fun vr =>
  cond (!decide (vr = 0))
    (some ([], [], vr))
    ((twin_names_o0 ([qx, qx1, qx2] : List (List api_Prop))).bind fun vr1 =>
    (loopO (twin_Three_x1 qx qx1 qx2 vr1) ([], [], 0)).bind fun (vx13_1, vx14_1) =>
    (twin_CheckProps vx13_1).bind fun vr3_3 =>
    cond (!decide (vr3_3 = 0))
      (some ([], [], vr3_3))
      (some (vx13_1, vx14_1, 0)))

/-! ### beaconfleet/fleetlaw2.errs -/
noncomputable def fleetlaw2_errs_x1 (ql : List Int) (vx : Int) : Option ((Int) ⊕ (Unit ⊕ Int)) :=
  cond (decide (vx < (ql.length : Int)))
    ((at? ql vx).bind fun vy1 =>
    cond (!decide (vy1 = 0))
      (some (.inr (.inr vy1)))
      (some (.inl (IntKind.wrap .i64 (vx + 1)))))
    (some (.inr (.inl ())))

noncomputable def fleetlaw2_errs (ql : List Int) : Option (Int) :=
  (loopO (fleetlaw2_errs_x1 ql) 0).bind fun x => match x with
    | .inl _ =>
      some 0
    | .inr vx1_1 =>
      some vx1_1

/-! ### beaconfleet/fleetref2.ThreeOf -/
noncomputable def fleetref2_ThreeOf_x3 (vr4 : api_Value) (vr5 : api_Value) (vr6 : api_Value) : Option (Bool) :=
  cond ((decide (vr5.Kind = vr4.Kind) && ((vr5.Flag == vr4.Flag) && (decide (vr5.Number = vr4.Number) && (decide (vr5.Words = vr4.Words) && true)))))
    (some true)
    (some (decide (vr5.Kind = vr6.Kind) && ((vr5.Flag == vr6.Flag) && (decide (vr5.Number = vr6.Number) && (decide (vr5.Words = vr6.Words) && true)))))

noncomputable def fleetref2_ThreeOf_x2 (qx : List api_Prop) (qx1 : List api_Prop) (qx2 : List api_Prop) (vr1 : List (List UInt8)) (vm : List (List UInt8 × api_Value)) (vx : List api_Clash) (vx1 : Int) : Option (((List (List UInt8 × api_Value)) × (List api_Clash))) :=
  (at? vr1 vx1).bind fun vy1 =>
  (fleetref2_ValueOf qx vy1).bind fun vr4 =>
  (fleetref2_ValueOf qx1 vy1).bind fun vr5 =>
  (fleetref2_ValueOf qx2 vy1).bind fun vr6 =>
  (fleetref2_ThreeOf_x3 vr4 vr5 vr6).bind fun vx4_1 =>
  cond (vx4_1)
    (some (aput vm vy1 vr6, vx))
    (cond ((decide (vr6.Kind = vr4.Kind) && ((vr6.Flag == vr4.Flag) && (decide (vr6.Number = vr4.Number) && (decide (vr6.Words = vr4.Words) && true)))))
      (some (aput vm vy1 vr5, vx))
      (gd (Nat.ble (vx.length + ([api_Clash.mk vy1 vr4 vr5 vr6] : List api_Clash).length) LIM) <|
      some (aput vm vy1 vr4, vx ++ ([api_Clash.mk vy1 vr4 vr5 vr6] : List api_Clash))))

noncomputable def fleetref2_ThreeOf_x1 (qx : List api_Prop) (qx1 : List api_Prop) (qx2 : List api_Prop) (vr1 : List (List UInt8)) : (List (List UInt8 × api_Value)) × (List api_Clash) × Int → Option (((List (List UInt8 × api_Value)) × (List api_Clash) × Int) ⊕ (((List (List UInt8 × api_Value)) × (List api_Clash))))
  | (vm, vx, vx1) =>
  cond (decide (vx1 < (vr1.length : Int)))
    ((fleetref2_ThreeOf_x2 qx qx1 qx2 vr1 vm vx vx1).bind fun (vm2_1, vx5_1) =>
    some (.inl (vm2_1, vx5_1, IntKind.wrap .i64 (vx1 + 1))))
    (some (.inr (vm, vx)))

noncomputable def fleetref2_ThreeOf (qx : List api_Prop) (qx1 : List api_Prop) (qx2 : List api_Prop) : Option ((List api_Prop) × (List api_Clash) × Int) :=
  (fleetref2_namesOf_o0 ([qx, qx1, qx2] : List (List api_Prop))).bind fun vr1 =>
  (loopO (fleetref2_ThreeOf_x1 qx qx1 qx2 vr1) (([] : List (List UInt8 × api_Value)), [], 0)).bind fun (vm3_1, vx6_1) =>
  (fleetref2_fromValues vm3_1).bind fun (vr1_1, vr2_1) =>
  cond (!decide (vr2_1 = 0))
    (some ([], [], vr2_1))
    (some (vr1_1, vx6_1, 0))

/-! ### slices.Equal[[]beaconfleet/api.Prop,beaconfleet/api.Prop] -/
noncomputable def slices_Equal_api_Prop_api_Prop_x1 (qs1 : List api_Prop) (qs2 : List api_Prop) (vx : Int) : Option ((Int) ⊕ (Unit ⊕ Unit)) :=
  cond (decide (vx < (qs1.length : Int)))
    ((at? qs1 vx).bind fun vy2 =>
    (at? qs2 vx).bind fun vy3 =>
    cond (!(decide (vy2.Name = vy3.Name) && ((decide (vy2.Value.Kind = vy3.Value.Kind) && ((vy2.Value.Flag == vy3.Value.Flag) && (decide (vy2.Value.Number = vy3.Value.Number) && (decide (vy2.Value.Words = vy3.Value.Words) && true)))) && true)))
      (some (.inr (.inr ())))
      (some (.inl (IntKind.wrap .i64 (vx + 1)))))
    (some (.inr (.inl ())))

noncomputable def slices_Equal_api_Prop_api_Prop (qs1 : List api_Prop) (qs2 : List api_Prop) : Option (Bool) :=
  cond (!decide ((qs1.length : Int) = (qs2.length : Int)))
    (some false)
    ((loopO (slices_Equal_api_Prop_api_Prop_x1 qs1 qs2) 0).bind fun x => match x with
      | .inl _ =>
        some true
      | .inr _ =>
        some false)

/-! ### slices.Equal[[]beaconfleet/api.Clash,beaconfleet/api.Clash] -/
noncomputable def slices_Equal_api_Clash_api_Clash_x1 (qs1 : List api_Clash) (qs2 : List api_Clash) (vx : Int) : Option ((Int) ⊕ (Unit ⊕ Unit)) :=
  cond (decide (vx < (qs1.length : Int)))
    ((at? qs1 vx).bind fun vy2 =>
    (at? qs2 vx).bind fun vy3 =>
    cond (!(decide (vy2.Name = vy3.Name) && ((decide (vy2.Base.Kind = vy3.Base.Kind) && ((vy2.Base.Flag == vy3.Base.Flag) && (decide (vy2.Base.Number = vy3.Base.Number) && (decide (vy2.Base.Words = vy3.Base.Words) && true)))) && ((decide (vy2.A.Kind = vy3.A.Kind) && ((vy2.A.Flag == vy3.A.Flag) && (decide (vy2.A.Number = vy3.A.Number) && (decide (vy2.A.Words = vy3.A.Words) && true)))) && ((decide (vy2.B.Kind = vy3.B.Kind) && ((vy2.B.Flag == vy3.B.Flag) && (decide (vy2.B.Number = vy3.B.Number) && (decide (vy2.B.Words = vy3.B.Words) && true)))) && true)))))
      (some (.inr (.inr ())))
      (some (.inl (IntKind.wrap .i64 (vx + 1)))))
    (some (.inr (.inl ())))

noncomputable def slices_Equal_api_Clash_api_Clash (qs1 : List api_Clash) (qs2 : List api_Clash) : Option (Bool) :=
  cond (!decide ((qs1.length : Int) = (qs2.length : Int)))
    (some false)
    ((loopO (slices_Equal_api_Clash_api_Clash_x1 qs1 qs2) 0).bind fun x => match x with
      | .inl _ =>
        some true
      | .inr _ =>
        some false)

/-! ### beaconfleet/twin.CheckProps -/
noncomputable def twin_CheckProps_n0_x1 : Unit → Option ((Unit) ⊕ (Unit))
  | _ =>
  cond (decide ((0 : Int) < 0))
    (none)
    (some (.inr ()))

noncomputable def twin_CheckProps_n0_x2 : Unit → Option ((Unit) ⊕ (Unit))
  | _ =>
  cond (decide ((0 : Int) < 0))
    (none)
    (some (.inr ()))

noncomputable def twin_CheckProps_n0 : Option (Int) :=
  cond (decide (500 < (0 : Int)))
    (some 2)
    ((loopO twin_CheckProps_n0_x1 ()).bind fun _ =>
    (loopO twin_CheckProps_n0_x2 ()).bind fun _ =>
    some 0)

/-! ### slices.BinarySearchFunc[[]beaconfleet/api.Prop,beaconfleet/api.Prop,string] -/
noncomputable def slices_BinarySearchFunc_api_Prop_api_Prop_string_n0_f2_twin_find_1_x1 : Unit → Option ((Unit) ⊕ (Unit))
  | _ =>
  cond (decide ((0 : Int) < 0))
    (none)
    (some (.inr ()))

noncomputable def slices_BinarySearchFunc_api_Prop_api_Prop_string_n0_f2_twin_find_1 (qtarget : List UInt8) : Option (Unit) :=
  (loopO slices_BinarySearchFunc_api_Prop_api_Prop_string_n0_f2_twin_find_1_x1 ()).bind fun _ =>
  cond (decide ((0 : Int) < 0))
    (none)
    (some ())

/-! ### beaconfleet/twin.find -/
noncomputable def twin_find_n0 (qname : List UInt8) : Option (Unit) :=
  (slices_BinarySearchFunc_api_Prop_api_Prop_string_n0_f2_twin_find_1 qname).bind fun _ =>
  some ()

/-! ### beaconfleet/twin.valueOf -/
noncomputable def twin_valueOf_n0 (qname : List UInt8) : Option (Unit) :=
  (twin_find_n0 qname).bind fun _ =>
  cond (decide (0 ≤ ((-1) : Int)))
    (none)
    (some ())

/-! ### beaconfleet/twin.Differ -/
noncomputable def twin_Differ_n0_o1_x2 (qb : List api_Prop) (vr1_1 : List (List UInt8)) (vout : List api_Change) (vx : Int) : Option ((List api_Change)) :=
  (at? vr1_1 vx).bind fun vy1 =>
  (twin_valueOf_n0 vy1).bind fun _ =>
  (twin_valueOf qb vy1).bind fun vr4 =>
  cond (!(decide ((0 : Int) = vr4.Kind) && ((false == vr4.Flag) && (decide ((0 : Int) = vr4.Number) && (decide (([] : List UInt8) = vr4.Words) && true)))))
    (gd (Nat.ble (vout.length + ([api_Change.mk vy1 (api_Value.mk 0 false 0 ([] : List UInt8)) vr4] : List api_Change).length) LIM) <|
    some (vout ++ ([api_Change.mk vy1 (api_Value.mk 0 false 0 ([] : List UInt8)) vr4] : List api_Change)))
    (some vout)

noncomputable def twin_Differ_n0_o1_x1 (qb : List api_Prop) (vr1_1 : List (List UInt8)) : (List api_Change) × Int → Option (((List api_Change) × Int) ⊕ ((List api_Change)))
  | (vout, vx) =>
  cond (decide (vx < (vr1_1.length : Int)))
    ((twin_Differ_n0_o1_x2 qb vr1_1 vout vx).bind fun vout2_1 =>
    some (.inl (vout2_1, IntKind.wrap .i64 (vx + 1))))
    (some (.inr vout))

noncomputable def twin_Differ_n0_o1 (qb : List api_Prop) : Option ((List api_Change) × Int) :=
  (twin_CheckProps_n0).bind fun vr =>
  (twin_CheckProps qb).bind fun vr3 =>
  (base_First ([vr, vr3] : List Int)).bind fun vr1 =>
  cond (!decide (vr1 = 0))
    (some ([], vr1))
    ((twin_names_o0 ([[], qb] : List (List api_Prop))).bind fun vr1_1 =>
    (loopO (twin_Differ_n0_o1_x1 qb vr1_1) ([], 0)).bind fun vout3_1 =>
    some (vout3_1, 0))

/-! ### beaconfleet/fleetlaw2.twinned -/
noncomputable def fleetlaw2_twinned_x1 (vr5 : List api_Change) (vr6 : Int) : Option (Bool) :=
  cond (decide (vr6 = 0))
    (cond (decide ((vr5.length : Int) = 1))
      ((at? vr5 0).bind fun vy =>
      some (decide (vy.Name = ([97] : List UInt8))))
      (some false))
    (some false)

noncomputable def fleetlaw2_twinned : Option (Bool) :=
  (twin_Differ_n0_o1 ([api_Prop.mk ([97] : List UInt8) (api_Value.mk 1 false 0 ([] : List UInt8))] : List api_Prop)).bind fun (vr5, vr6) =>
  (fleetlaw2_twinned_x1 vr5 vr6).bind fun vx1 =>
  some vx1

/-! ### beaconfleet/fleetlaw2.SidesJoined -/
noncomputable def fleetlaw2_SidesJoined_x2 (vr2 : List api_Prop) (vr3 : Int) : Option (Bool) :=
  cond (decide (vr3 = 0))
    ((fleetref2_PropsFault vr2).bind fun vr4 =>
    some (decide (vr4 = 0)))
    (some false)

noncomputable def fleetlaw2_SidesJoined_x1 (vr2 : List api_Prop) (vs2_1 : fleetmake_Stream) : Option ((fleetmake_Stream × (List api_Prop))) :=
  (fleetmake_Stream_Changes vs2_1 vr2).bind fun (vs4, vr1) =>
  (fleetref2_ApplyOf_o1 vr2 vr1).bind fun (vr, vr3) =>
  (fleetlaw2_SidesJoined_x2 vr2 vr3).bind fun vx1 =>
  cond (vx1)
    (some (vs4, vr))
    (some (vs4, vr2))

noncomputable def fleetlaw2_SidesJoined_x3 (vr2 : List api_Prop) (vr2_1 : List api_Prop) (vx2_1 : fleetmake_Stream) : Option ((List api_Prop)) :=
  (fleetmake_Stream_Flip vx2_1 2).bind fun vr5 =>
  cond (vr5)
    (some vr2)
    (some vr2_1)

noncomputable def fleetlaw2_SidesJoined_x4 (vr2 : List api_Prop) (vx3_1 : List api_Prop) (vx4_1 : List api_Prop) (vr12 : Int) : Option ((Int × (List api_Prop) × (List api_Clash))) :=
  cond (decide (vr12 = 0))
    ((fleetref2_ThreeOf vr2 vx3_1 vx4_1).bind fun (vr7_1, vr8_1, vr9_1) =>
    some (vr9_1, vr7_1, vr8_1))
    (some (vr12, [], []))

noncomputable def fleetlaw2_SidesJoined_x5 (vr9 : List api_Prop) (vr10 : List api_Clash) (vr11 : Int) (vx5_1 : Int) (vx6_1 : List api_Prop) (vx7_1 : List api_Clash) : Option (Bool) :=
  cond (decide (vr11 = vx5_1))
    ((slices_Equal_api_Prop_api_Prop vr9 vx6_1).bind fun vr13 =>
    cond (vr13)
      ((slices_Equal_api_Clash_api_Clash vr10 vx7_1).bind fun vr14 =>
      cond (vr14)
        ((fleetlaw2_twinned).bind fun vr15 =>
        some vr15)
        (some false))
      (some false))
    (some false)

noncomputable def fleetlaw2_SidesJoined (qx : List Int) : Option (Bool) :=
  (fleetmake_Stream_Props (fleetmake_Stream.mk qx 0)).bind fun (vs2, vr2) =>
  (fleetmake_Stream_Props vs2).bind fun (vs2_1, vr2_1) =>
  (fleetlaw2_SidesJoined_x1 vr2 vs2_1).bind fun (vx2_1, vx3_1) =>
  (fleetlaw2_SidesJoined_x3 vr2 vr2_1 vx2_1).bind fun vx4_1 =>
  (twin_Three vr2 vx3_1 vx4_1).bind fun (vr9, vr10, vr11) =>
  (fleetref2_PropsFault vr2).bind fun vr6 =>
  (fleetref2_PropsFault vx3_1).bind fun vr7 =>
  (fleetref2_PropsFault vx4_1).bind fun vr8 =>
  (fleetlaw2_errs ([vr6, vr7, vr8] : List Int)).bind fun vr12 =>
  (fleetlaw2_SidesJoined_x4 vr2 vx3_1 vx4_1 vr12).bind fun (vx5_1, vx6_1, vx7_1) =>
  (fleetlaw2_SidesJoined_x5 vr9 vr10 vr11 vx5_1 vx6_1 vx7_1).bind fun vx8_1 =>
  some vx8_1

end Go.Eng
