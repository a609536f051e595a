/-
The Go functions that the law CellsNest reaches, as plain functions.
-/
import Derived.Test.YtgjgjnfglkdgaaaGreatDoorEngV

import Derived.Lib.SlTrimSet

import Derived.Lib.ValidU

namespace Go.Eng

open Go

set_option linter.unusedVariables false

structure z245 where
  L : List Int
  at_ : Int

def z245.enc (x : z245) : List D := [.lst (List.map (encI .i64) x.L), .int .i64 x.at_]

structure api_Spot where
  X : Int
  Y : Int

def api_Spot.enc (x : api_Spot) : List D := [.int .i64 x.X, .int .i64 x.Y]

structure api_Fence where
  Key : List UInt8
  Corners : List api_Spot

def api_Fence.enc (x : api_Fence) : List D := [.str x.Key, .lst (List.map api_Spot.enc x.Corners)]

structure api_Sample where
  Device : List UInt8
  Metric : List UInt8
  At : Int
  Value : Int

def api_Sample.enc (x : api_Sample) : List D := [.str x.Device, .str x.Metric, .int .i64 x.At, .int .i64 x.Value]

structure api_Version where
  Major : Int
  Minor : Int
  Patch : Int

def api_Version.enc (x : api_Version) : List D := [.int .i64 x.Major, .int .i64 x.Minor, .int .i64 x.Patch]

structure api_Value where
  Kind : Int
  Flag : Bool
  Number : Int
  Words : List UInt8

def api_Value.enc (x : api_Value) : List D := [.int .i64 x.Kind, .bool x.Flag, .int .i64 x.Number, .str x.Words]

structure api_Prop where
  Name : List UInt8
  Value : api_Value

def api_Prop.enc (x : api_Prop) : List D := [.str x.Name, .int .i64 x.Value.Kind, .bool x.Value.Flag, .int .i64 x.Value.Number, .str x.Value.Words]

structure api_Change where
  Name : List UInt8
  From : api_Value
  To : api_Value

def api_Change.enc (x : api_Change) : List D := [.str x.Name, .int .i64 x.From.Kind, .bool x.From.Flag, .int .i64 x.From.Number, .str x.From.Words, .int .i64 x.To.Kind, .bool x.To.Flag, .int .i64 x.To.Number, .str x.To.Words]

structure api_Letter where
  Id : List UInt8
  Slot : List UInt8
  Body : List UInt8
  Prio : Int
  At : Int
  Until : Int

def api_Letter.enc (x : api_Letter) : List D := [.str x.Id, .str x.Slot, .str x.Body, .int .i64 x.Prio, .int .i64 x.At, .int .i64 x.Until]

/-! ### beaconfleet/fleetmake.Below -/
noncomputable def z240 (qx : Int) (qn : Int) : Option (Int) :=
  cond (decide ((qx.tmod qn) < 0))
    (some (IntKind.wrap .i64 ((qx.tmod qn) + qn)))
    (some (qx.tmod qn))

noncomputable def z237 (qx : Int) (qn : Int) : Option (Int) :=
  cond (decide (qn < 1))
    (some 0)
    (gd (!(qn == 0)) <|
    (z240 qx qn).bind fun vx1 =>
    some vx1)

/-! ### (*beaconfleet/fleetmake.Stream).Next -/
noncomputable def z249 (qs : z245) (qn : Int) : Option (Int) :=
  cond (decide ((qs.L.length : Int) = 0))
    ((z237 (IntKind.wrap .i64 ((IntKind.wrap .i64 (qs.at_ + 1)) * 7919)) qn).bind fun vr =>
    some vr)
    (gd (!((qs.L.length : Int) == 0)) <|
    (at? qs.L ((IntKind.wrap .i64 ((IntKind.wrap .i64 (qs.at_ + 1)) - 1)).tmod (qs.L.length : Int))).bind fun vy =>
    (z237 vy 1073741824).bind fun vr1 =>
    (z237 (IntKind.wrap .i64 (vr1 + (IntKind.wrap .i64 ((IntKind.wrap .i64 ((IntKind.wrap .i64 ((IntKind.wrap .i64 (qs.at_ + 1)) - 1)).tdiv (qs.L.length : Int))) * (IntKind.wrap .i64 ((7919 : Int) + ((IntKind.wrap .i64 ((IntKind.wrap .i64 (qs.at_ + 1)) - 1)).tmod (qs.L.length : Int)))))))) qn).bind fun vr2 =>
    some vr2)

/-! ### (*beaconfleet/fleetmake.Stream).Range -/
noncomputable def z258 (qs : z245) (qlow : Int) (qhigh : Int) : Option (z245 × Int) :=
  cond (decide (qhigh < qlow))
    (some (qs, qlow))
    ((z249 qs (IntKind.wrap .i64 ((IntKind.wrap .i64 (qhigh - qlow)) + 1))).bind fun vr3 =>
    some (z245.mk qs.L (IntKind.wrap .i64 (qs.at_ + 1)), IntKind.wrap .i64 (qlow + vr3)))

/-! ### (*beaconfleet/fleetmake.Stream).Pick -/
noncomputable def z252 (qs : z245) (ql : List Int) : Option (Int) :=
  (z249 qs (ql.length : Int)).bind fun vr3 =>
  (at? ql vr3).bind fun vy =>
  some vy

/-! ### (*beaconfleet/fleetmake.Stream).Place -/
noncomputable def z255 (qs : z245) : Option (api_Spot) :=
  (z252 qs ([0, 1, 2, 3, 4, 5, 6, 8, 10, (-1), (-5), 20] : List Int)).bind fun vr =>
  (z252 (z245.mk qs.L (IntKind.wrap .i64 (qs.at_ + 1))) ([0, 1, 2, 3, 4, 5, 6, 8, 10, (-1), (-5), 20] : List Int)).bind fun vr1 =>
  some (api_Spot.mk vr vr1)

/-! ### (*beaconfleet/fleetmake.Stream).Flip -/
noncomputable def z246 (qs : z245) (qn : Int) : Option (Bool) :=
  (z249 qs qn).bind fun vr3 =>
  some (decide (vr3 = 0))

/-! ### beaconfleet/fleetref2.in -/
noncomputable def z337 (qn : Int) (qlow : Int) (qhigh : Int) : Option (Bool) :=
  cond (decide (qlow ≤ qn))
    (some (decide (qn ≤ qhigh)))
    (some false)

noncomputable def z334 (qn : Int) (qlow : Int) (qhigh : Int) : Option (Bool) :=
  (z337 qn qlow qhigh).bind fun vx1 =>
  some vx1

/-! ### beaconfleet/fleetref2.SpotFault -/
noncomputable def z320 (qs : api_Spot) : Option (Bool) :=
  (z334 qs.X (-10000) 10000).bind fun vr =>
  cond (!vr)
    (some true)
    ((z334 qs.Y (-10000) 10000).bind fun vr1 =>
    some (!vr1))

noncomputable def z317 (qs : api_Spot) : Option (Int) :=
  (z320 qs).bind fun vx1 =>
  cond (vx1)
    (some 1)
    (some 0)

/-! ### slices.Index[[]beaconfleet/api.Spot,beaconfleet/api.Spot] -/
noncomputable def z740 (qs : List api_Spot) (qv : api_Spot) (vx : Int) : Option ((Int) ⊕ (Unit ⊕ Int)) :=
  cond (decide (vx < (qs.length : Int)))
    ((at? qs vx).bind fun vy1 =>
    cond ((decide (qv.X = vy1.X) && (decide (qv.Y = vy1.Y) && true)))
      (some (.inr (.inr vx)))
      (some (.inl (IntKind.wrap .i64 (vx + 1)))))
    (some (.inr (.inl ())))

noncomputable def z737 (qs : List api_Spot) (qv : api_Spot) : Option (Int) :=
  (loopO (z740 qs qv) 0).bind fun x => match x with
    | .inl _ =>
      some (-1)
    | .inr vx1_1 =>
      some vx1_1

/-! ### slices.Contains[[]beaconfleet/api.Spot,beaconfleet/api.Spot] -/
noncomputable def z707 (qs : List api_Spot) (qv : api_Spot) : Option (Bool) :=
  (z737 qs qv).bind fun vr =>
  some (decide (0 ≤ vr))

/-! ### beaconfleet/fleetref2.edge -/
noncomputable def z331 (ql : List api_Spot) (qi : Int) : Option (api_Spot × api_Spot) :=
  (at? ql qi).bind fun vy =>
  gd (!((ql.length : Int) == 0)) <|
  (at? ql ((IntKind.wrap .i64 (qi + 1)).tmod (ql.length : Int))).bind fun vy1 =>
  some (vy, vy1)

/-! ### beaconfleet/fleetref2.minus -/
noncomputable def z342 (qa : api_Spot) (qb : api_Spot) : Option (Unit) :=
  some ()

/-! ### beaconfleet/fleetref2.cross -/
noncomputable def z325 (qa : api_Spot) (qb : api_Spot) : Option (Unit) :=
  some ()

/-! ### beaconfleet/fleetref2.sign -/
noncomputable def z356 (qn : Int) : Option (Int) :=
  cond (decide (qn < 0))
    (some (-1))
    (cond (decide (0 < qn))
      (some 1)
      (some 0))

/-! ### beaconfleet/fleetref2.side -/
noncomputable def z353 (qa : api_Spot) (qb : api_Spot) (qs : api_Spot) : Option (Int) :=
  (z342 qb qa).bind fun _ =>
  (z342 qs qa).bind fun _ =>
  (z325 (api_Spot.mk (IntKind.wrap .i64 (qb.X - qa.X)) (IntKind.wrap .i64 (qb.Y - qa.Y))) (api_Spot.mk (IntKind.wrap .i64 (qs.X - qa.X)) (IntKind.wrap .i64 (qs.Y - qa.Y)))).bind fun _ =>
  (z356 (IntKind.wrap .i64 ((IntKind.wrap .i64 ((IntKind.wrap .i64 (qb.X - qa.X)) * (IntKind.wrap .i64 (qs.Y - qa.Y)))) - (IntKind.wrap .i64 ((IntKind.wrap .i64 (qb.Y - qa.Y)) * (IntKind.wrap .i64 (qs.X - qa.X))))))).bind fun vr =>
  some vr

/-! ### beaconfleet/fleetref2.dot -/
noncomputable def z328 (qa : api_Spot) (qb : api_Spot) : Option (Unit) :=
  some ()

/-! ### beaconfleet/fleetref2.onWay -/
noncomputable def z348 (qa : api_Spot) (qb : api_Spot) (qs : api_Spot) : Option (Bool) :=
  (z353 qa qb qs).bind fun vr1 =>
  cond (decide (vr1 = 0))
    ((z342 qa qs).bind fun _ =>
    (z342 qb qs).bind fun _ =>
    (z328 (api_Spot.mk (IntKind.wrap .i64 (qa.X - qs.X)) (IntKind.wrap .i64 (qa.Y - qs.Y))) (api_Spot.mk (IntKind.wrap .i64 (qb.X - qs.X)) (IntKind.wrap .i64 (qb.Y - qs.Y)))).bind fun _ =>
    some (decide ((IntKind.wrap .i64 ((IntKind.wrap .i64 ((IntKind.wrap .i64 (qa.X - qs.X)) * (IntKind.wrap .i64 (qb.X - qs.X)))) + (IntKind.wrap .i64 ((IntKind.wrap .i64 (qa.Y - qs.Y)) * (IntKind.wrap .i64 (qb.Y - qs.Y)))))) ≤ 0)))
    (some false)

noncomputable def z345 (qa : api_Spot) (qb : api_Spot) (qs : api_Spot) : Option (Bool) :=
  (z348 qa qb qs).bind fun vx1 =>
  some vx1

/-! ### beaconfleet/fleetref2.touches -/
noncomputable def z362 (qa : api_Spot) (qb : api_Spot) (qc : api_Spot) (qd : api_Spot) : Option (Bool) :=
  (z345 qa qb qc).bind fun vr =>
  cond (vr)
    (some true)
    ((z345 qa qb qd).bind fun vr1 =>
    cond (vr1)
      (some true)
      ((z345 qc qd qa).bind fun vr2 =>
      cond (vr2)
        (some true)
        ((z345 qc qd qb).bind fun vr3 =>
        some vr3)))

noncomputable def z367 (qa : api_Spot) (qb : api_Spot) (qc : api_Spot) (qd : api_Spot) : Option (Bool) :=
  (z353 qa qb qc).bind fun vr1_1 =>
  (z353 qa qb qd).bind fun vr1_2 =>
  cond (decide ((IntKind.wrap .i64 (vr1_1 * vr1_2)) < 0))
    ((z353 qc qd qa).bind fun vr1_3 =>
    (z353 qc qd qb).bind fun vr1_4 =>
    some (decide ((IntKind.wrap .i64 (vr1_3 * vr1_4)) < 0)))
    (some false)

noncomputable def z359 (qa : api_Spot) (qb : api_Spot) (qc : api_Spot) (qd : api_Spot) : Option (Bool) :=
  (z362 qa qb qc qd).bind fun vx1 =>
  cond (vx1)
    (some true)
    ((z367 qa qb qc qd).bind fun vx2_1 =>
    some vx2_1)

/-! ### beaconfleet/fleetref2.CornersFault -/
noncomputable def z292 (qx : List api_Spot) (vx : Int) : Option ((Int) ⊕ (Unit ⊕ Int)) :=
  cond (decide (vx < (qx.length : Int)))
    ((at? qx vx).bind fun vy1 =>
    (z317 vy1).bind fun vr2_1 =>
    cond (!decide (vr2_1 = 0))
      (some (.inr (.inr vr2_1)))
      ((sub? qx 0 vx).bind fun vl1 =>
      (z707 vl1 vy1).bind fun vr1_1 =>
      cond (vr1_1)
        (some (.inr (.inr 6)))
        (some (.inl (IntKind.wrap .i64 (vx + 1))))))
    (some (.inr (.inl ())))

noncomputable def z312 (vr9 : api_Spot) (vr1_5 : api_Spot) (vr13 : api_Spot) (vr1_7 : api_Spot) : Option (Bool) :=
  (z345 vr9 vr1_5 vr1_7).bind fun vr14 =>
  cond (vr14)
    (some true)
    ((z345 vr13 vr1_7 vr9).bind fun vr15 =>
    some vr15)

noncomputable def z307 (qx : List api_Spot) (vx2 : Int) (vr9 : api_Spot) (vr1_5 : api_Spot) (vx6 : Int) : Option (Unit ⊕ Unit) :=
  (z331 qx vx6).bind fun (vr13, vr1_7) =>
  cond (decide (vx6 = vx2))
    (some (.inl ()))
    (cond ((decide (vr1_5.X = vr13.X) && (decide (vr1_5.Y = vr13.Y) && true)))
      ((z312 vr9 vr1_5 vr13 vr1_7).bind fun vx8_1 =>
      cond (vx8_1)
        (some (.inr ()))
        (some (.inl ())))
      (cond ((decide (vr1_7.X = vr9.X) && (decide (vr1_7.Y = vr9.Y) && true)))
        (some (.inl ()))
        ((z359 vr9 vr1_5 vr13 vr1_7).bind fun vr4_4 =>
        cond (vr4_4)
          (some (.inr ()))
          (some (.inl ())))))

noncomputable def z302 (qx : List api_Spot) (vx2 : Int) (vr9 : api_Spot) (vr1_5 : api_Spot) (vx6 : Int) : Option ((Int) ⊕ (Unit ⊕ Unit)) :=
  cond (decide (vx6 < (qx.length : Int)))
    ((z307 qx vx2 vr9 vr1_5 vx6).bind fun x => match x with
      | .inl _ =>
        some (.inl (IntKind.wrap .i64 (vx6 + 1)))
      | .inr _ =>
        some (.inr (.inr ())))
    (some (.inr (.inl ())))

noncomputable def z297 (qx : List api_Spot) (vx2 : Int) : Option ((Int) ⊕ (Unit ⊕ Unit)) :=
  cond (decide (vx2 < (qx.length : Int)))
    ((z331 qx vx2).bind fun (vr9, vr1_5) =>
    (loopO (z302 qx vx2 vr9 vr1_5) 0).bind fun x => match x with
      | .inl _ =>
        some (.inl (IntKind.wrap .i64 (vx2 + 1)))
      | .inr _ =>
        some (.inr (.inr ())))
    (some (.inr (.inl ())))

noncomputable def z289 (qx : List api_Spot) : Option (Int) :=
  cond (decide ((qx.length : Int) < 3))
    (some 3)
    (cond (decide (200 < (qx.length : Int)))
      (some 2)
      ((loopO (z292 qx) 0).bind fun x => match x with
        | .inl _ =>
          (loopO (z297 qx) 0).bind fun x => match x with
            | .inl _ =>
              some 0
            | .inr _ =>
              some 13
        | .inr vx1_1 =>
          some vx1_1))

/-! ### (*beaconfleet/fleetmake.Stream).RightFence -/
noncomputable def z269 (vr5 : Int) : z245 × (List api_Spot) × Int → Option ((z245 × (List api_Spot) × Int) ⊕ ((z245 × (List api_Spot))))
  | (vs8, vx8, vx9) =>
  cond (decide (vx9 < vr5))
    ((z255 vs8).bind fun vr2_3 =>
    gd (Nat.ble (vx8.length + ([vr2_3] : List api_Spot).length) LIM) <|
    some (.inl (z245.mk vs8.L (IntKind.wrap .i64 ((IntKind.wrap .i64 (vs8.at_ + 1)) + 1)), vx8 ++ ([vr2_3] : List api_Spot), IntKind.wrap .i64 (vx9 + 1))))
    (some (.inr (vs8, vx8)))

noncomputable def z279 (vx10_1 : List api_Spot) : z245 × (List api_Spot) × Int → Option ((z245 × (List api_Spot) × Int) ⊕ ((z245 × (List api_Spot))))
  | (vs10, vx11, vx12) =>
  cond (decide (vx12 < (vx10_1.length : Int)))
    ((at? vx11 vx12).bind fun vy3 =>
    (z252 vs10 ([1, 100, (-400)] : List Int)).bind fun vr8 =>
    some (.inl (z245.mk vs10.L (IntKind.wrap .i64 (vs10.at_ + 1)), vx11.set vx12.toNat (api_Spot.mk (IntKind.wrap .i64 (vy3.X * vr8)) vy3.Y), IntKind.wrap .i64 (vx12 + 1))))
    (some (.inr (vs10, vx11)))

noncomputable def z274 (vs9_1 : z245) (vx10_1 : List api_Spot) : Option ((z245 × (List api_Spot))) :=
  (z246 vs9_1 6).bind fun vr6 =>
  cond (vr6)
    ((loopO (z279 vx10_1) (z245.mk vs9_1.L (IntKind.wrap .i64 (vs9_1.at_ + 1)), vx10_1, 0)).bind fun (vs11_1, vx13_1) =>
    some (vs11_1, vx13_1))
    (some (z245.mk vs9_1.L (IntKind.wrap .i64 (vs9_1.at_ + 1)), vx10_1))

noncomputable def z264 : z245 × Int → Option ((z245 × Int) ⊕ (z245 ⊕ (z245 × (List api_Spot))))
  | (vs, vx) =>
  cond (decide (vx < 4))
    ((z258 vs 3 6).bind fun (vs7, vr5) =>
    (loopO (z269 vr5) (vs7, [], 0)).bind fun (vs9_1, vx10_1) =>
    (z274 vs9_1 vx10_1).bind fun (vs12_1, vx14_1) =>
    (z289 vx14_1).bind fun vr16_1 =>
    cond (decide (vr16_1 = 0))
      (some (.inr (.inr (vs12_1, vx14_1))))
      (some (.inl (vs12_1, IntKind.wrap .i64 (vx + 1)))))
    (some (.inr (.inl vs)))

noncomputable def z284 (vs13_1 : z245) : Option ((List api_Spot)) :=
  (z249 vs13_1 4).bind fun vr3_1 =>
  cond (decide (vr3_1 = 0))
    (some ([api_Spot.mk 0 0, api_Spot.mk 10 0, api_Spot.mk 10 10, api_Spot.mk 5 3, api_Spot.mk 0 10] : List api_Spot))
    (cond (decide (vr3_1 = 1))
      (some ([api_Spot.mk 0 10, api_Spot.mk 10 10, api_Spot.mk 10 0, api_Spot.mk 0 0] : List api_Spot))
      (cond (decide (vr3_1 = 2))
        (some ([api_Spot.mk 0 0, api_Spot.mk 8 0, api_Spot.mk 8 2, api_Spot.mk 2 2, api_Spot.mk 2 6, api_Spot.mk 8 6, api_Spot.mk 8 8, api_Spot.mk 0 8] : List api_Spot))
        (some ([api_Spot.mk 0 0, api_Spot.mk 10 0, api_Spot.mk 10 10, api_Spot.mk 0 10] : List api_Spot))))

noncomputable def z261 (qx : z245) : Option (z245 × (List api_Spot)) :=
  (loopO z264 (qx, 0)).bind fun x => match x with
    | .inl vs13_1 =>
      (z284 vs13_1).bind fun vx16_1 =>
      some (z245.mk vs13_1.L (IntKind.wrap .i64 (vs13_1.at_ + 1)), vx16_1)
    | .inr (vs14_1, vx15_1) =>
      some (vs14_1, vx15_1)

/-! ### beaconfleet/base.Key -/
noncomputable def z28 (qs : List UInt8) : Option (Bool) :=
  cond (decide (qs = ([] : List UInt8)))
    (some true)
    (cond (decide (40 < (qs.length : Int)))
      (some true)
      ((at? qs 0).bind fun vc =>
      cond (decide ((vc.toNat : Int) < 97))
        (some true)
        (some (decide (122 < (vc.toNat : Int))))))

noncomputable def z39 (vc2 : UInt8) : Option (Bool) :=
  cond (decide (97 ≤ (vc2.toNat : Int)))
    (cond (decide ((vc2.toNat : Int) ≤ 122))
      (some false)
      (cond (decide (48 ≤ (vc2.toNat : Int)))
        (cond (decide ((vc2.toNat : Int) ≤ 57))
          (some false)
          (cond (decide ((vc2.toNat : Int) = 45))
            (some false)
            (some (!(decide ((vc2.toNat : Int) = 95))))))
        (cond (decide ((vc2.toNat : Int) = 45))
          (some false)
          (some (!(decide ((vc2.toNat : Int) = 95)))))))
    (cond (decide (48 ≤ (vc2.toNat : Int)))
      (cond (decide ((vc2.toNat : Int) ≤ 57))
        (some false)
        (cond (decide ((vc2.toNat : Int) = 45))
          (some false)
          (some (!(decide ((vc2.toNat : Int) = 95))))))
      (cond (decide ((vc2.toNat : Int) = 45))
        (some false)
        (some (!(decide ((vc2.toNat : Int) = 95))))))

noncomputable def z33 (qs : List UInt8) (vx2 : Int) : Option ((Int) ⊕ (Unit ⊕ Unit)) :=
  cond (decide (vx2 < (qs.length : Int)))
    ((at? qs vx2).bind fun vc2 =>
    (z39 vc2).bind fun vx4_1 =>
    cond (vx4_1)
      (some (.inr (.inr ())))
      (some (.inl (IntKind.wrap .i64 (vx2 + 1)))))
    (some (.inr (.inl ())))

noncomputable def base_Key (qs : List UInt8) : Option (Bool) :=
  (z28 qs).bind fun vx1 =>
  cond (vx1)
    (some false)
    ((loopO (z33 qs) 0).bind fun x => match x with
      | .inl _ =>
        some true
      | .inr _ =>
        some false)

/-! ### beaconfleet/base.Out -/
noncomputable def z78 (qn : Int) (qlow : Int) (qhigh : Int) : Option (Bool) :=
  cond (decide (qn < qlow))
    (some true)
    (some (decide (qhigh < qn)))

noncomputable def base_Out (qn : Int) (qlow : Int) (qhigh : Int) : Option (Bool) :=
  (z78 qn qlow qhigh).bind fun vx1 =>
  some vx1

/-! ### beaconfleet/place.isSpot -/
noncomputable def z508 (qs : api_Spot) : Option (Bool) :=
  (base_Out qs.X (-10000) 10000).bind fun vr =>
  cond (!vr)
    ((base_Out qs.Y (-10000) 10000).bind fun vr1 =>
    some (!vr1))
    (some false)

noncomputable def z505 (qs : api_Spot) : Option (Bool) :=
  (z508 qs).bind fun vx1 =>
  some vx1

/-! ### beaconfleet/place.side -/
noncomputable def z533 (qa : api_Spot) (qb : api_Spot) (qs : api_Spot) : Option (Unit) :=
  some ()

/-! ### beaconfleet/place.on -/
noncomputable def z528 (qa : api_Spot) (qb : api_Spot) (qs : api_Spot) : Option (Bool) :=
  (z533 qa qb qs).bind fun _ =>
  cond (decide ((IntKind.wrap .i64 ((IntKind.wrap .i64 ((IntKind.wrap .i64 (qb.X - qa.X)) * (IntKind.wrap .i64 (qs.Y - qa.Y)))) - (IntKind.wrap .i64 ((IntKind.wrap .i64 (qb.Y - qa.Y)) * (IntKind.wrap .i64 (qs.X - qa.X)))))) = 0))
    (cond (decide ((imin qa.X qb.X) ≤ qs.X))
      (cond (decide (qs.X ≤ (imax qa.X qb.X)))
        (cond (decide ((imin qa.Y qb.Y) ≤ qs.Y))
          (some (decide (qs.Y ≤ (imax qa.Y qb.Y))))
          (some false))
        (some false))
      (some false))
    (some false)

noncomputable def place_on (qa : api_Spot) (qb : api_Spot) (qs : api_Spot) : Option (Bool) :=
  (z528 qa qb qs).bind fun vx1 =>
  some vx1

/-! ### cmp.isNaN[int] -/
noncomputable def z161 (qx : Int) : Option (Unit) :=
  some ()

/-! ### cmp.Compare[int] -/
noncomputable def z142 (qx : Int) (qy : Int) : Option (Int) :=
  (z161 qx).bind fun _ =>
  (z161 qy).bind fun _ =>
  cond (!decide (qx = qx))
    (cond (!decide (qy = qy))
      (some 0)
      (some (-1)))
    (cond (!decide (qy = qy))
      (some 1)
      (cond (decide (qx < qy))
        (some (-1))
        (cond (decide (qy < qx))
          (some 1)
          (some 0))))

/-! ### beaconfleet/place.meets -/
noncomputable def z516 (qx : api_Spot) (qx1 : api_Spot) (qx2 : api_Spot) (qx3 : api_Spot) : Option (Bool) :=
  (place_on qx qx1 qx2).bind fun vr =>
  cond (vr)
    (some true)
    ((place_on qx qx1 qx3).bind fun vr1 =>
    cond (vr1)
      (some true)
      ((place_on qx2 qx3 qx).bind fun vr2 =>
      cond (vr2)
        (some true)
        ((place_on qx2 qx3 qx1).bind fun vr3 =>
        some vr3)))

noncomputable def z521 (vr4 : Int) (vr5 : Int) (vr6 : Int) (vr7 : Int) : Option (Bool) :=
  cond (decide ((IntKind.wrap .i64 (vr4 * vr5)) < 0))
    (some (decide ((IntKind.wrap .i64 (vr6 * vr7)) < 0)))
    (some false)

noncomputable def z513 (qx : api_Spot) (qx1 : api_Spot) (qx2 : api_Spot) (qx3 : api_Spot) : Option (Bool) :=
  (z516 qx qx1 qx2 qx3).bind fun vx1 =>
  cond (vx1)
    (some true)
    ((z533 qx qx1 qx2).bind fun _ =>
    (z142 (IntKind.wrap .i64 ((IntKind.wrap .i64 ((IntKind.wrap .i64 (qx1.X - qx.X)) * (IntKind.wrap .i64 (qx2.Y - qx.Y)))) - (IntKind.wrap .i64 ((IntKind.wrap .i64 (qx1.Y - qx.Y)) * (IntKind.wrap .i64 (qx2.X - qx.X)))))) 0).bind fun vr4 =>
    (z533 qx qx1 qx3).bind fun _ =>
    (z142 (IntKind.wrap .i64 ((IntKind.wrap .i64 ((IntKind.wrap .i64 (qx1.X - qx.X)) * (IntKind.wrap .i64 (qx3.Y - qx.Y)))) - (IntKind.wrap .i64 ((IntKind.wrap .i64 (qx1.Y - qx.Y)) * (IntKind.wrap .i64 (qx3.X - qx.X)))))) 0).bind fun vr5 =>
    (z533 qx2 qx3 qx).bind fun _ =>
    (z142 (IntKind.wrap .i64 ((IntKind.wrap .i64 ((IntKind.wrap .i64 (qx3.X - qx2.X)) * (IntKind.wrap .i64 (qx.Y - qx2.Y)))) - (IntKind.wrap .i64 ((IntKind.wrap .i64 (qx3.Y - qx2.Y)) * (IntKind.wrap .i64 (qx.X - qx2.X)))))) 0).bind fun vr6 =>
    (z533 qx2 qx3 qx1).bind fun _ =>
    (z142 (IntKind.wrap .i64 ((IntKind.wrap .i64 ((IntKind.wrap .i64 (qx3.X - qx2.X)) * (IntKind.wrap .i64 (qx1.Y - qx2.Y)))) - (IntKind.wrap .i64 ((IntKind.wrap .i64 (qx3.Y - qx2.Y)) * (IntKind.wrap .i64 (qx1.X - qx2.X)))))) 0).bind fun vr7 =>
    (z521 vr4 vr5 vr6 vr7).bind fun vx2_1 =>
    some vx2_1)

/-! ### beaconfleet/place.crossed -/
noncomputable def z458 (qx : List api_Spot) (vx : Int) (vy6 : api_Spot) (vy7 : api_Spot) (vx8 : Int) (vy10 : api_Spot) (vy11 : api_Spot) : Option (Bool) :=
  cond (!(decide (vx8 = (IntKind.wrap .i64 (vx + 1)))))
    (cond (!(decide (((IntKind.wrap .i64 (vx8 + 1)).tmod (qx.length : Int)) = vx)))
      ((z513 vy6 vy7 vy10 vy11).bind fun vr8_3 =>
      some vr8_3)
      (some false))
    (some false)

noncomputable def z463 (vx : Int) (vy6 : api_Spot) (vy7 : api_Spot) (vx8 : Int) (vy10 : api_Spot) (vy11 : api_Spot) : Option (Bool) :=
  cond (decide (vx8 = (IntKind.wrap .i64 (vx + 1))))
    ((place_on vy6 vy7 vy11).bind fun vr13 =>
    cond (vr13)
      (some true)
      ((place_on vy10 vy11 vy6).bind fun vr14 =>
      some vr14))
    (some false)

noncomputable def z468 (qx : List api_Spot) (vx : Int) (vy6 : api_Spot) (vy7 : api_Spot) (vx8 : Int) (vy10 : api_Spot) (vy11 : api_Spot) : Option (Bool) :=
  cond (decide (((IntKind.wrap .i64 (vx8 + 1)).tmod (qx.length : Int)) = vx))
    ((place_on vy6 vy7 vy10).bind fun vr15 =>
    cond (vr15)
      (some true)
      ((place_on vy10 vy11 vy7).bind fun vr16 =>
      some vr16))
    (some false)

noncomputable def z453 (qx : List api_Spot) (vx : Int) (vy6 : api_Spot) (vy7 : api_Spot) (vx8 : Int) : Option ((Int) ⊕ (Unit ⊕ Unit)) :=
  cond (decide (vx8 < (qx.length : Int)))
    ((at? qx vx8).bind fun vy10 =>
    gd (!((qx.length : Int) == 0)) <|
    (at? qx ((IntKind.wrap .i64 (vx8 + 1)).tmod (qx.length : Int))).bind fun vy11 =>
    (z458 qx vx vy6 vy7 vx8 vy10 vy11).bind fun vx12_1 =>
    cond (vx12_1)
      (some (.inr (.inr ())))
      ((z463 vx vy6 vy7 vx8 vy10 vy11).bind fun vx13_1 =>
      cond (vx13_1)
        (some (.inr (.inr ())))
        ((z468 qx vx vy6 vy7 vx8 vy10 vy11).bind fun vx14_1 =>
        cond (vx14_1)
          (some (.inr (.inr ())))
          (some (.inl (IntKind.wrap .i64 (vx8 + 1)))))))
    (some (.inr (.inl ())))

noncomputable def z448 (qx : List api_Spot) (vx : Int) : Option ((Int) ⊕ (Unit ⊕ Unit)) :=
  cond (decide (vx < (qx.length : Int)))
    ((at? qx vx).bind fun vy6 =>
    gd (!((qx.length : Int) == 0)) <|
    (at? qx ((IntKind.wrap .i64 (vx + 1)).tmod (qx.length : Int))).bind fun vy7 =>
    (loopO (z453 qx vx vy6 vy7) (IntKind.wrap .i64 (vx + 1))).bind fun x => match x with
      | .inl _ =>
        some (.inl (IntKind.wrap .i64 (vx + 1)))
      | .inr _ =>
        some (.inr (.inr ())))
    (some (.inr (.inl ())))

noncomputable def z445 (qx : List api_Spot) : Option (Bool) :=
  (loopO (z448 qx) 0).bind fun x => match x with
    | .inl _ =>
      some false
    | .inr _ =>
      some true

/-! ### beaconfleet/place.CheckFence -/
noncomputable def z399 (qf : api_Fence) (vx : Int) : Option ((Int) ⊕ (Unit ⊕ Int)) :=
  cond (decide (vx < (qf.Corners.length : Int)))
    ((at? qf.Corners vx).bind fun vy1 =>
    (z505 vy1).bind fun vr2_1 =>
    cond (!vr2_1)
      (some (.inr (.inr 1)))
      ((sub? qf.Corners 0 vx).bind fun vl1 =>
      (z707 vl1 vy1).bind fun vr1_1 =>
      cond (vr1_1)
        (some (.inr (.inr 6)))
        (some (.inl (IntKind.wrap .i64 (vx + 1))))))
    (some (.inr (.inl ())))

noncomputable def z396 (qf : api_Fence) : Option (Int) :=
  (base_Key qf.Key).bind fun vr =>
  cond (!vr)
    (some 5)
    (cond (decide ((qf.Corners.length : Int) < 3))
      (some 3)
      (cond (decide (200 < (qf.Corners.length : Int)))
        (some 2)
        ((loopO (z399 qf) 0).bind fun x => match x with
          | .inl _ =>
            (z445 qf.Corners).bind fun vr17 =>
            cond (vr17)
              (some 13)
              (some 0)
          | .inr vx1_1 =>
            some vx1_1)))

/-! ### beaconfleet/base.First -/
noncomputable def z19 (ql : List Int) (vx : Int) : Option ((Int) ⊕ (Unit ⊕ Int)) :=
  cond (decide (vx < (ql.length : Int)))
    ((at? ql vx).bind fun vy1 =>
    cond (!decide (vy1 = 0))
      (some (.inr (.inr vy1)))
      (some (.inl (IntKind.wrap .i64 (vx + 1)))))
    (some (.inr (.inl ())))

noncomputable def z16 (ql : List Int) : Option (Int) :=
  (loopO (z19 ql) 0).bind fun x => match x with
    | .inl _ =>
      some 0
    | .inr vx1_1 =>
      some vx1_1

/-! ### beaconfleet/place.where$1 -/
noncomputable def z564 (qa : api_Spot) (qb : api_Spot) (qx : api_Spot) : Option (Bool) :=
  (place_on qa qb qx).bind fun vr =>
  some vr

/-! ### beaconfleet/place.edges -/
noncomputable def z492 (ql : List api_Spot) (qf : api_Spot) (vx : Int) : Option ((Int) ⊕ (Unit ⊕ Unit)) :=
  cond (decide (vx < (ql.length : Int)))
    ((at? ql vx).bind fun vy2 =>
    gd (!((ql.length : Int) == 0)) <|
    (at? ql ((IntKind.wrap .i64 (vx + 1)).tmod (ql.length : Int))).bind fun vy3 =>
    (z564 vy2 vy3 qf).bind fun vr1_1 =>
    cond (vr1_1)
      (some (.inr (.inr ())))
      (some (.inl (IntKind.wrap .i64 (vx + 1)))))
    (some (.inr (.inl ())))

noncomputable def z489 (ql : List api_Spot) (qf : api_Spot) : Option (Bool) :=
  (loopO (z492 ql qf) 0).bind fun x => match x with
    | .inl _ =>
      some false
    | .inr _ =>
      some true

/-! ### beaconfleet/place.where$2 -/
noncomputable def z570 (qa : api_Spot) (qb : api_Spot) : Option ((api_Spot × api_Spot)) :=
  cond (decide (qb.Y < qa.Y))
    (some (qb, qa))
    (some (qa, qb))

noncomputable def z580 (qx : api_Spot) (va1 : api_Spot) (vb1 : api_Spot) : Option (Bool) :=
  cond (decide (va1.Y ≤ qx.Y))
    (cond (decide (qx.Y < vb1.Y))
      ((z533 va1 vb1 qx).bind fun _ =>
      some (decide (0 < (IntKind.wrap .i64 ((IntKind.wrap .i64 ((IntKind.wrap .i64 (vb1.X - va1.X)) * (IntKind.wrap .i64 (qx.Y - va1.Y)))) - (IntKind.wrap .i64 ((IntKind.wrap .i64 (vb1.Y - va1.Y)) * (IntKind.wrap .i64 (qx.X - va1.X)))))))))
      (some false))
    (some false)

noncomputable def z575 (qx : api_Spot) (qx1 : Bool) (va1 : api_Spot) (vb1 : api_Spot) : Option (Bool) :=
  (z580 qx va1 vb1).bind fun vx1 =>
  cond (vx1)
    (some (!qx1))
    (some qx1)

noncomputable def z567 (qa : api_Spot) (qb : api_Spot) (qx : api_Spot) (qx1 : Bool) : Option (Bool) :=
  (z570 qa qb).bind fun (va1, vb1) =>
  (z575 qx qx1 va1 vb1).bind fun vs1 =>
  some vs1

/-! ### beaconfleet/place.edges -/
noncomputable def z500 (ql : List api_Spot) (qf : api_Spot) : Bool × Int → Option ((Bool × Int) ⊕ (Bool))
  | (vs, vx) =>
  cond (decide (vx < (ql.length : Int)))
    ((at? ql vx).bind fun vy2 =>
    gd (!((ql.length : Int) == 0)) <|
    (at? ql ((IntKind.wrap .i64 (vx + 1)).tmod (ql.length : Int))).bind fun vy3 =>
    (z567 vy2 vy3 qf vs).bind fun vs2_1 =>
    some (.inl (vs2_1, IntKind.wrap .i64 (vx + 1))))
    (some (.inr vs))

noncomputable def z497 (ql : List api_Spot) (qf : api_Spot) (qf1 : Bool) : Option (Bool) :=
  (loopO (z500 ql qf) (qf1, 0)).bind fun vs1_1 =>
  some vs1_1

/-! ### beaconfleet/place.where -/
noncomputable def z563 (ql : List api_Spot) (qs : api_Spot) : Option (Int) :=
  (z489 ql qs).bind fun vr =>
  cond (vr)
    (some 1)
    ((z497 ql qs false).bind fun vs3 =>
    cond (vs3)
      (some 2)
      (some 0))

/-! ### beaconfleet/place.touch$1$1 -/
noncomputable def z551 (qc : api_Spot) (qd : api_Spot) (qx : api_Spot) (qx1 : api_Spot) : Option (Bool) :=
  (z513 qx qx1 qc qd).bind fun vr8 =>
  some vr8

/-! ### beaconfleet/place.edges -/
noncomputable def z477 (ql : List api_Spot) (qf : api_Spot) (qf1 : api_Spot) (vx : Int) : Option ((Int) ⊕ (Unit ⊕ Unit)) :=
  cond (decide (vx < (ql.length : Int)))
    ((at? ql vx).bind fun vy2 =>
    gd (!((ql.length : Int) == 0)) <|
    (at? ql ((IntKind.wrap .i64 (vx + 1)).tmod (ql.length : Int))).bind fun vy3 =>
    (z551 vy2 vy3 qf qf1).bind fun vr1 =>
    cond (vr1)
      (some (.inr (.inr ())))
      (some (.inl (IntKind.wrap .i64 (vx + 1)))))
    (some (.inr (.inl ())))

noncomputable def z474 (ql : List api_Spot) (qf : api_Spot) (qf1 : api_Spot) : Option (Bool) :=
  (loopO (z477 ql qf qf1) 0).bind fun x => match x with
    | .inl _ =>
      some false
    | .inr _ =>
      some true

/-! ### beaconfleet/place.touch$1 -/
noncomputable def z550 (qa : api_Spot) (qb : api_Spot) (qx : List api_Spot) : Option (Bool) :=
  (z474 qx qa qb).bind fun vr2 =>
  some vr2

/-! ### beaconfleet/place.edges -/
noncomputable def z484 (ql : List api_Spot) (qf : List api_Spot) (vx : Int) : Option ((Int) ⊕ (Unit ⊕ Unit)) :=
  cond (decide (vx < (ql.length : Int)))
    ((at? ql vx).bind fun vy2 =>
    gd (!((ql.length : Int) == 0)) <|
    (at? ql ((IntKind.wrap .i64 (vx + 1)).tmod (ql.length : Int))).bind fun vy3 =>
    (z550 vy2 vy3 qf).bind fun vr1 =>
    cond (vr1)
      (some (.inr (.inr ())))
      (some (.inl (IntKind.wrap .i64 (vx + 1)))))
    (some (.inr (.inl ())))

noncomputable def z473 (ql : List api_Spot) (qf : List api_Spot) : Option (Bool) :=
  (loopO (z484 ql qf) 0).bind fun x => match x with
    | .inl _ =>
      some false
    | .inr _ =>
      some true

/-! ### beaconfleet/place.touch -/
noncomputable def z558 (ql : List api_Spot) (qm : List api_Spot) : Option (Bool) :=
  (at? qm 0).bind fun vy =>
  (z563 ql vy).bind fun vr1 =>
  cond (!decide (vr1 = 0))
    (some true)
    ((at? ql 0).bind fun vy1 =>
    (z563 qm vy1).bind fun vr1_1 =>
    cond (!decide (vr1_1 = 0))
      (some true)
      ((z473 ql qm).bind fun vr2 =>
      some vr2))

noncomputable def z549 (ql : List api_Spot) (qm : List api_Spot) : Option (Bool) :=
  (z558 ql qm).bind fun vx1 =>
  some vx1

/-! ### beaconfleet/place.cellBox -/
noncomputable def z410 (qkey : List UInt8) : api_Spot × Int × Int → Option ((api_Spot × Int × Int) ⊕ ((api_Spot × Int)))
  | (vs, vlong, vx) =>
  cond (decide (vx < (qkey.length : Int)))
    ((at? qkey vx).bind fun vc1 =>
    some (.inl (api_Spot.mk (IntKind.wrap .i64 (vs.X + (IntKind.wrap .i64 (((IntKind.wrap .i64 (IntKind.wrap .u8 ((vc1.toNat : Int) - 48))).tmod 2) * (IntKind.wrap .i64 (vlong.tdiv 2)))))) (IntKind.wrap .i64 (vs.Y + (IntKind.wrap .i64 ((IntKind.wrap .i64 ((IntKind.wrap .i64 (IntKind.wrap .u8 ((vc1.toNat : Int) - 48))).tdiv 2)) * (IntKind.wrap .i64 (vlong.tdiv 2)))))), IntKind.wrap .i64 (vlong.tdiv 2), IntKind.wrap .i64 (vx + 1))))
    (some (.inr (vs, vlong)))

noncomputable def z407 (qkey : List UInt8) : Option (api_Spot × Int) :=
  (loopO (z410 qkey) (api_Spot.mk (-16384) (-16384), 32768, 0)).bind fun (vs1_1, vlong1_1) =>
  some (vs1_1, vlong1_1)

/-! ### beaconfleet/place.cells -/
noncomputable def z435 (recF : (List api_Spot) → (List UInt8) → Int → (List (List UInt8)) → Option ((List (List UInt8)))) (qx : List api_Spot) (qx3 : List (List UInt8)) (vr : api_Spot) (vr1 : Int) : Option (Bool) :=
  cond (decide (1000 < (qx3.length : Int)))
    (some true)
    ((z549 qx ([vr, api_Spot.mk (IntKind.wrap .i64 (vr.X + vr1)) vr.Y, api_Spot.mk (IntKind.wrap .i64 (vr.X + vr1)) (IntKind.wrap .i64 (vr.Y + vr1)), api_Spot.mk vr.X (IntKind.wrap .i64 (vr.Y + vr1))] : List api_Spot)).bind fun vr2 =>
    some (!vr2))

noncomputable def z440 (recF : (List api_Spot) → (List UInt8) → Int → (List (List UInt8)) → Option ((List (List UInt8)))) (qx : List api_Spot) (qx1 : List UInt8) (qx2 : Int) : (List (List UInt8)) × Int → Option (((List (List UInt8)) × Int) ⊕ ((List (List UInt8))))
  | (vx2, vx3) =>
  cond (decide (vx3 < (([([48] : List UInt8), ([49] : List UInt8), ([50] : List UInt8), ([51] : List UInt8)] : List (List UInt8)).length : Int)))
    ((at? ([([48] : List UInt8), ([49] : List UInt8), ([50] : List UInt8), ([51] : List UInt8)] : List (List UInt8)) vx3).bind fun vy1 =>
    gd (Nat.ble (qx1.length + vy1.length) LIM) <|
    (recF qx (qx1 ++ vy1) qx2 vx2).bind fun vr3_1 =>
    some (.inl (vr3_1, IntKind.wrap .i64 (vx3 + 1))))
    (some (.inr vx2))

noncomputable def z432 : Nat → (List api_Spot) → (List UInt8) → Int → (List (List UInt8)) → Option ((List (List UInt8)))
  | 0, _, _, _, _ => none
  | n + 1, qx, qx1, qx2, qx3 =>
  (z407 qx1).bind fun (vr, vr1) =>
  (z435 (z432 n) qx qx3 vr vr1).bind fun vx1 =>
  cond (vx1)
    (some qx3)
    (cond (decide ((qx1.length : Int) = qx2))
      (gd (Nat.ble (qx3.length + ([qx1] : List (List UInt8)).length) LIM) <|
      some (qx3 ++ ([qx1] : List (List UInt8))))
      ((loopO (z440 (z432 n) qx qx1 qx2) (qx3, 0)).bind fun vx4_1 =>
      some vx4_1))

noncomputable def z430 (qx : List api_Spot) (qx1 : List UInt8) (qx2 : Int) (qx3 : List (List UInt8)) : Option ((List (List UInt8))) := fixO fun n => z432 n qx qx1 qx2 qx3

/-! ### beaconfleet/place.cells -/
noncomputable def z420 (recF : (List api_Spot) → (List UInt8) → Int → Option ((List (List UInt8)))) (qx : List api_Spot) (vr : api_Spot) (vr1 : Int) : Option (Bool) :=
  cond (decide (1000 < (0 : Int)))
    (some true)
    ((z549 qx ([vr, api_Spot.mk (IntKind.wrap .i64 (vr.X + vr1)) vr.Y, api_Spot.mk (IntKind.wrap .i64 (vr.X + vr1)) (IntKind.wrap .i64 (vr.Y + vr1)), api_Spot.mk vr.X (IntKind.wrap .i64 (vr.Y + vr1))] : List api_Spot)).bind fun vr2 =>
    some (!vr2))

noncomputable def z425 (recF : (List api_Spot) → (List UInt8) → Int → Option ((List (List UInt8)))) (qx : List api_Spot) (qx1 : List UInt8) (qx2 : Int) : (List (List UInt8)) × Int → Option (((List (List UInt8)) × Int) ⊕ ((List (List UInt8))))
  | (vx2, vx3) =>
  cond (decide (vx3 < (([([48] : List UInt8), ([49] : List UInt8), ([50] : List UInt8), ([51] : List UInt8)] : List (List UInt8)).length : Int)))
    ((at? ([([48] : List UInt8), ([49] : List UInt8), ([50] : List UInt8), ([51] : List UInt8)] : List (List UInt8)) vx3).bind fun vy1 =>
    gd (Nat.ble (qx1.length + vy1.length) LIM) <|
    (z430 qx (qx1 ++ vy1) qx2 vx2).bind fun vr4_1 =>
    some (.inl (vr4_1, IntKind.wrap .i64 (vx3 + 1))))
    (some (.inr vx2))

noncomputable def z417 : Nat → (List api_Spot) → (List UInt8) → Int → Option ((List (List UInt8)))
  | 0, _, _, _ => none
  | n + 1, qx, qx1, qx2 =>
  (z407 qx1).bind fun (vr, vr1) =>
  (z420 (z417 n) qx vr vr1).bind fun vx1 =>
  cond (vx1)
    (some [])
    (cond (decide ((qx1.length : Int) = qx2))
      (some ([qx1] : List (List UInt8)))
      ((loopO (z425 (z417 n) qx qx1 qx2) ([], 0)).bind fun vx4_1 =>
      some vx4_1))

noncomputable def z415 (qx : List api_Spot) (qx1 : List UInt8) (qx2 : Int) : Option ((List (List UInt8))) := fixO fun n => z417 n qx qx1 qx2

/-! ### beaconfleet/place.Cells -/
noncomputable def z393 (qf : api_Fence) (qlevel : Int) : Option ((List (List UInt8)) × Int) :=
  (z396 qf).bind fun vr3 =>
  cond (!decide (vr3 = 0))
    (some ([], vr3))
    ((base_Out qlevel 0 15).bind fun vr =>
    cond (vr)
      (some ([], 1))
      ((z415 qf.Corners ([] : List UInt8) qlevel).bind fun vr3_1 =>
      cond (decide (1000 < (vr3_1.length : Int)))
        (some ([], 2))
        (some (vr3_1, 0))))

/-! ### beaconfleet/base.Moment -/
noncomputable def z44 (qn : Int) : Option (Bool) :=
  (base_Out qn 0 345686399999).bind fun vr =>
  some (!vr)

/-! ### internal/bytealg.CompareString -/
noncomputable def z129 (qa : List UInt8) (qb : List UInt8) : Option (Unit) :=
  some ()

/-! ### strings.Compare -/
noncomputable def z1002 (qa : List UInt8) (qb : List UInt8) : Option (Unit) :=
  (z129 qa qb).bind fun _ =>
  some ()

/-! ### cmp.Or[int] -/
noncomputable def z156 (qvals : List Int) (vx : Int) : Option ((Int) ⊕ (Unit ⊕ Int)) :=
  cond (decide (vx < (qvals.length : Int)))
    ((at? qvals vx).bind fun vy1 =>
    cond (!decide (vy1 = 0))
      (some (.inr (.inr vy1)))
      (some (.inl (IntKind.wrap .i64 (vx + 1)))))
    (some (.inr (.inl ())))

noncomputable def z153 (qvals : List Int) : Option (Int) :=
  (loopO (z156 qvals) 0).bind fun x => match x with
    | .inl _ =>
      some 0
    | .inr vx1_1 =>
      some vx1_1

/-! ### beaconfleet/series.byDevice -/
noncomputable def z624 (qa : api_Sample) (qb : api_Sample) : Option (Int) :=
  (z1002 qa.Device qb.Device).bind fun _ =>
  (z1002 qa.Metric qb.Metric).bind fun _ =>
  (z142 qa.At qb.At).bind fun vr =>
  (z153 ([Lib.compareBytes qa.Device qb.Device, Lib.compareBytes qa.Metric qb.Metric, vr] : List Int)).bind fun vr1 =>
  some vr1

/-! ### beaconfleet/series.Check -/
noncomputable def z606 (vy2 : api_Sample) : Option (Bool) :=
  (base_Key vy2.Device).bind fun vr3 =>
  cond (!vr3)
    (some true)
    ((base_Key vy2.Metric).bind fun vr4 =>
    some (!vr4))

noncomputable def z611 (vy2 : api_Sample) : Option (Bool) :=
  (z44 vy2.At).bind fun vr1_2 =>
  cond (!vr1_2)
    (some true)
    ((base_Out vy2.Value (-1000000000) 1000000000).bind fun vr5 =>
    some vr5)

noncomputable def z616 (ql : List api_Sample) (vx : Int) (vy2 : api_Sample) : Option (Bool) :=
  cond (decide (0 < vx))
    ((at? ql (IntKind.wrap .i64 (vx - 1))).bind fun vy3 =>
    (z624 vy2 vy3).bind fun vr2_2 =>
    some (decide (vr2_2 ≤ 0)))
    (some false)

noncomputable def z601 (ql : List api_Sample) (vx : Int) : Option ((Int) ⊕ (Unit ⊕ Int)) :=
  cond (decide (vx < (ql.length : Int)))
    ((at? ql vx).bind fun vy2 =>
    (z606 vy2).bind fun vx4_1 =>
    cond (vx4_1)
      (some (.inr (.inr 5)))
      ((z611 vy2).bind fun vx5_1 =>
      cond (vx5_1)
        (some (.inr (.inr 1)))
        ((z616 ql vx vy2).bind fun vx6_1 =>
        cond (vx6_1)
          (some (.inr (.inr 7)))
          (some (.inl (IntKind.wrap .i64 (vx + 1)))))))
    (some (.inr (.inl ())))

noncomputable def z587 (ql : List api_Sample) : Option (Int) :=
  cond (decide (5000 < (ql.length : Int)))
    (some 2)
    ((loopO (z601 ql) 0).bind fun x => match x with
      | .inl _ =>
        some 0
      | .inr vx7_1 =>
        some vx7_1)

/-! ### beaconfleet/series.CheckSeries$1 -/
noncomputable def z592 (qs : api_Sample) (qx : List api_Sample) : Option (Bool) :=
  (at? qx 0).bind fun vy =>
  cond (!decide (qs.Device = vy.Device))
    (some true)
    (some (!decide (qs.Metric = vy.Metric)))

noncomputable def z589 (qs : api_Sample) (qx : List api_Sample) : Option (Bool) :=
  (z592 qs qx).bind fun vx1 =>
  some vx1

/-! ### slices.IndexFunc[[]beaconfleet/api.Sample,beaconfleet/api.Sample] -/
noncomputable def z732 (qs : List api_Sample) (vx : Int) : Option ((Int) ⊕ (Unit ⊕ Int)) :=
  cond (decide (vx < (qs.length : Int)))
    ((at? qs vx).bind fun vy1 =>
    (z589 vy1 qs).bind fun vr1 =>
    cond (vr1)
      (some (.inr (.inr vx)))
      (some (.inl (IntKind.wrap .i64 (vx + 1)))))
    (some (.inr (.inl ())))

noncomputable def z729 (qs : List api_Sample) : Option (Int) :=
  (loopO (z732 qs) 0).bind fun x => match x with
    | .inl _ =>
      some (-1)
    | .inr vx1_1 =>
      some vx1_1

/-! ### slices.ContainsFunc[[]beaconfleet/api.Sample,beaconfleet/api.Sample] -/
noncomputable def z704 (qs : List api_Sample) : Option (Bool) :=
  (z729 qs).bind fun vr2 =>
  some (decide (0 ≤ vr2))

/-! ### beaconfleet/series.CheckSeries -/
noncomputable def z588 (ql : List api_Sample) : Option (Int) :=
  (z587 ql).bind fun vr6 =>
  cond (!decide (vr6 = 0))
    (some vr6)
    ((z704 ql).bind fun vr =>
    cond (vr)
      (some 13)
      (some 0))

/-! ### beaconfleet/series.seven -/
noncomputable def z646 : (List Int) × Int → Option (((List Int) × Int) ⊕ (((List Int) × Int)))
  | (vb, vn) =>
  cond (decide (128 ≤ vn))
    (gd (Nat.ble (vb.length + ([ibits .or .u8 (IntKind.wrap .u8 (ibits .and .u64 vn 127)) 128] : List Int).length) LIM) <|
    some (.inl (vb ++ ([ibits .or .u8 (IntKind.wrap .u8 (ibits .and .u64 vn 127)) 128] : List Int), ishr .u64 vn 7)))
    (some (.inr (vb, vn)))

noncomputable def z643 (qn : Int) : Option ((List Int)) :=
  (loopO z646 ([], qn)).bind fun (vb1_1, vn1_1) =>
  gd (Nat.ble (vb1_1.length + ([IntKind.wrap .u8 (vn1_1)] : List Int).length) LIM) <|
  some (vb1_1 ++ ([IntKind.wrap .u8 (vn1_1)] : List Int))

/-! ### beaconfleet/series.doubled -/
noncomputable def z627 (qn : Int) : Option (Int) :=
  cond (decide (qn < 0))
    (some (IntKind.wrap .u64 (IntKind.wrap .i64 ((IntKind.wrap .i64 (((-2) : Int) * qn)) - 1))))
    (some (IntKind.wrap .u64 (IntKind.wrap .i64 ((2 : Int) * qn))))

/-! ### beaconfleet/series.seven -/
noncomputable def z654 : (List Int) × Int → Option (((List Int) × Int) ⊕ (((List Int) × Int)))
  | (vb, vn) =>
  cond (decide (128 ≤ vn))
    (gd (Nat.ble (vb.length + ([ibits .or .u8 (IntKind.wrap .u8 (ibits .and .u64 vn 127)) 128] : List Int).length) LIM) <|
    some (.inl (vb ++ ([ibits .or .u8 (IntKind.wrap .u8 (ibits .and .u64 vn 127)) 128] : List Int), ishr .u64 vn 7)))
    (some (.inr (vb, vn)))

noncomputable def z651 (qb : List Int) (qn : Int) : Option ((List Int)) :=
  (loopO z654 (qb, qn)).bind fun (vb1_1, vn1_1) =>
  gd (Nat.ble (vb1_1.length + ([IntKind.wrap .u8 (vn1_1)] : List Int).length) LIM) <|
  some (vb1_1 ++ ([IntKind.wrap .u8 (vn1_1)] : List Int))

/-! ### beaconfleet/series.pack -/
noncomputable def z638 (vat : Int) (vby : Int) (vx : Int) (vy1 : api_Sample) : Option (Int) :=
  cond (decide (0 < vx))
    (some (IntKind.wrap .i64 (vy1.At - vat)))
    (some vby)

noncomputable def z633 (ql : List api_Sample) : (List Int) × Int × Int × Int × Int → Option (((List Int) × Int × Int × Int × Int) ⊕ ((List Int)))
  | (vout, vat, vby, vvalue, vx) =>
  cond (decide (vx < (ql.length : Int)))
    ((at? ql vx).bind fun vy1 =>
    (z627 (IntKind.wrap .i64 ((IntKind.wrap .i64 (vy1.At - vat)) - vby))).bind fun vr5 =>
    (z651 vout vr5).bind fun vr6 =>
    (z627 (IntKind.wrap .i64 (vy1.Value - vvalue))).bind fun vr7 =>
    (z651 vr6 vr7).bind fun vr8 =>
    (z638 vat vby vx vy1).bind fun vby2_1 =>
    some (.inl (vr8, vy1.At, vby2_1, vy1.Value, IntKind.wrap .i64 (vx + 1))))
    (some (.inr vout))

noncomputable def z630 (ql : List api_Sample) : Option ((List Int)) :=
  (z643 (IntKind.wrap .u64 ((ql.length : Int)))).bind fun vr =>
  (loopO (z633 ql) (vr, 0, 0, 0, 0)).bind fun vout1_1 =>
  some vout1_1

/-! ### beaconfleet/series.Pack -/
noncomputable def z621 (ql : List api_Sample) : Option ((List Int) × Int) :=
  (z588 ql).bind fun vr1 =>
  cond (!decide (vr1 = 0))
    (some ([], vr1))
    ((z630 ql).bind fun vr9 =>
    some (vr9, 0))

/-! ### internal/stringslite.IndexByte -/
noncomputable def z1137 (qs : List UInt8) (qc : Int) : Option (Unit) :=
  some ()

/-! ### internal/stringslite.Index -/
noncomputable def z1142 (qx : List UInt8) (qx1 : List UInt8) : Option (Bool) :=
  cond (decide ((qx1.length : Int) = 0))
    (some true)
    (some (decide (qx1 = qx)))

noncomputable def z1136 (qx : List UInt8) (qx1 : List UInt8) : Option (Int) :=
  (z1142 qx qx1).bind fun vx1 =>
  cond (vx1)
    (some 0)
    (cond (decide ((qx1.length : Int) = 1))
      ((at? qx1 0).bind fun vc =>
      (z1137 qx (vc.toNat : Int)).bind fun _ =>
      some (Lib.indexByte qx (vc.toNat : Int).toNat.toUInt8))
      (cond (decide ((qx.length : Int) ≤ (qx1.length : Int)))
        (some (-1))
        (none)))

/-! ### strings.Index -/
noncomputable def z1016 (qs : List UInt8) (qsubstr : List UInt8) : Option (Int) :=
  (z1136 qs qsubstr).bind fun vr =>
  some vr

/-! ### strings.Count -/
noncomputable def z1008 (qsubstr : List UInt8) : (List UInt8) × Int → Option (((List UInt8) × Int) ⊕ (Int))
  | (vs, vn) =>
  (z1016 vs qsubstr).bind fun vr1_1 =>
  cond (decide (vr1_1 = (-1)))
    (some (.inr vn))
    ((sub? vs (IntKind.wrap .i64 (vr1_1 + (qsubstr.length : Int))) (vs.length : Int)).bind fun vs2 =>
    some (.inl (vs2, IntKind.wrap .i64 (vn + 1))))

noncomputable def z1005 (qs : List UInt8) (qsubstr : List UInt8) : Option (Int) :=
  cond (decide ((qsubstr.length : Int) = 0))
    (none)
    (cond (decide ((qsubstr.length : Int) = 1))
      ((at? qsubstr 0).bind fun vc =>
      some (countB qs (vc.toNat : Int).toNat.toUInt8))
      ((loopO (z1008 qsubstr) (qs, 0)).bind fun vx1 =>
      some vx1))

/-! ### strings.genSplit -/
noncomputable def z1044 (qx : List UInt8) (qx1 : List UInt8) (qx3 : Int) : Option (Int) :=
  cond (decide (qx3 < 0))
    ((z1005 qx qx1).bind fun vr =>
    some (IntKind.wrap .i64 (vr + 1)))
    (some qx3)

noncomputable def z1049 (qx : List UInt8) (qx1 : List UInt8) (qx2 : Int) (vx1 : Int) : (List UInt8) × (List (List UInt8)) × Int → Option (((List UInt8) × (List (List UInt8)) × Int) ⊕ (((List UInt8) × (List (List UInt8)) × Int)))
  | (vx2, vx3, vx4) =>
  cond (decide (vx4 < (IntKind.wrap .i64 ((imin vx1 (IntKind.wrap .i64 ((qx.length : Int) + 1))) - 1))))
    ((z1016 vx2 qx1).bind fun vr1_1 =>
    cond (decide (vr1_1 < 0))
      (some (.inr (vx2, vx3, vx4)))
      ((sub? vx2 0 (IntKind.wrap .i64 (vr1_1 + qx2))).bind fun vs2 =>
      (at? vx3 vx4).bind fun vy1 =>
      (sub? vx2 (IntKind.wrap .i64 (vr1_1 + (qx1.length : Int))) (vx2.length : Int)).bind fun vs3 =>
      some (.inl (vs3, vx3.set vx4.toNat vs2, IntKind.wrap .i64 (vx4 + 1)))))
    (some (.inr (vx2, vx3, vx4)))

noncomputable def z1041 (qx : List UInt8) (qx1 : List UInt8) (qx2 : Int) (qx3 : Int) : Option ((List (List UInt8))) :=
  cond (decide (qx3 = 0))
    (some [])
    (cond (decide (qx1 = ([] : List UInt8)))
      (none)
      ((z1044 qx qx1 qx3).bind fun vx1 =>
      gd (decide (0 ≤ (imin vx1 (IntKind.wrap .i64 ((qx.length : Int) + 1)))) && decide ((imin vx1 (IntKind.wrap .i64 ((qx.length : Int) + 1))) ≤ (imin vx1 (IntKind.wrap .i64 ((qx.length : Int) + 1)))) && decide ((imin vx1 (IntKind.wrap .i64 ((qx.length : Int) + 1))) ≤ 137438953472)) <|
      (loopO (z1049 qx qx1 qx2 vx1) (qx, List.replicate (imin vx1 (IntKind.wrap .i64 ((qx.length : Int) + 1))).toNat ([] : List UInt8), 0)).bind fun (vx5_1, vx6_1, vx7_1) =>
      (at? vx6_1 vx7_1).bind fun vy2 =>
      gd (decide (0 ≤ (IntKind.wrap .i64 (vx7_1 + 1))) && decide ((IntKind.wrap .i64 (vx7_1 + 1)) ≤ ((vx6_1.set vx7_1.toNat vx5_1).length : Int))) <|
      some ((vx6_1.set vx7_1.toNat vx5_1).take (IntKind.wrap .i64 (vx7_1 + 1)).toNat)))

/-! ### strings.Split -/
noncomputable def z1019 (qs : List UInt8) (qsep : List UInt8) : Option ((List (List UInt8))) :=
  (z1041 qs qsep 0 (-1)).bind fun vr2 =>
  some vr2

/-! ### internal/stringslite.HasPrefix -/
noncomputable def z1131 (qs : List UInt8) (qprefix : List UInt8) : Option (Bool) :=
  cond (decide ((qprefix.length : Int) ≤ (qs.length : Int)))
    ((sub? qs 0 (qprefix.length : Int)).bind fun vs =>
    some (decide (vs = qprefix)))
    (some false)

noncomputable def z1128 (qs : List UInt8) (qprefix : List UInt8) : Option (Bool) :=
  (z1131 qs qprefix).bind fun vx1 =>
  some vx1

/-! ### internal/stringslite.TrimPrefix -/
noncomputable def z1147 (qs : List UInt8) (qprefix : List UInt8) : Option ((List UInt8)) :=
  (z1128 qs qprefix).bind fun vr =>
  cond (vr)
    ((sub? qs (qprefix.length : Int) (qs.length : Int)).bind fun vs =>
    some vs)
    (some qs)

/-! ### strings.TrimPrefix -/
noncomputable def z1023 (qs : List UInt8) (qprefix : List UInt8) : Option ((List UInt8)) :=
  (z1147 qs qprefix).bind fun vr1 =>
  some vr1

/-! ### internal/strconv.lower -/
noncomputable def z961 (qc : Int) : Option (Unit) :=
  some ()

/-! ### internal/strconv.underscoreOK -/
noncomputable def z972 (qx : List UInt8) : Option (Bool) :=
  cond (decide (1 ≤ (qx.length : Int)))
    ((at? qx 0).bind fun vc =>
    cond (decide ((vc.toNat : Int) = 45))
      (some true)
      (some (decide ((vc.toNat : Int) = 43))))
    (some false)

noncomputable def z967 (qx : List UInt8) : Option ((List UInt8)) :=
  (z972 qx).bind fun vx1 =>
  cond (vx1)
    ((sub? qx 1 (qx.length : Int)).bind fun vs =>
    some vs)
    (some qx)

noncomputable def z982 (vx2_1 : List UInt8) : Option (Bool) :=
  cond (decide (2 ≤ (vx2_1.length : Int)))
    ((at? vx2_1 0).bind fun vc1 =>
    cond (decide ((vc1.toNat : Int) = 48))
      ((at? vx2_1 1).bind fun vc2 =>
      (z961 (vc2.toNat : Int)).bind fun _ =>
      cond (decide ((ibits .or .u8 (vc2.toNat : Int) 32) = 98))
        (some true)
        (cond (decide ((ibits .or .u8 (vc2.toNat : Int) 32) = 111))
          (some true)
          (some (decide ((ibits .or .u8 (vc2.toNat : Int) 32) = 120)))))
      (some false))
    (some false)

noncomputable def z977 (vx2_1 : List UInt8) : Option ((Int × Int × Bool)) :=
  (z982 vx2_1).bind fun vx3_1 =>
  cond (vx3_1)
    ((at? vx2_1 1).bind fun vc3 =>
    (z961 (vc3.toNat : Int)).bind fun _ =>
    some (48, 2, decide ((ibits .or .u8 (vc3.toNat : Int) 32) = 120)))
    (some (94, 0, false))

noncomputable def z997 (vx2_1 : List UInt8) (vx6_1 : Bool) (vx8 : Int) : Option (Bool) :=
  (at? vx2_1 vx8).bind fun vc6 =>
  cond (decide ((48 : Int) ≤ (vc6.toNat : Int)))
    (cond (decide ((vc6.toNat : Int) ≤ 57))
      (some true)
      (cond (vx6_1)
        ((z961 (vc6.toNat : Int)).bind fun _ =>
        cond (decide ((97 : Int) ≤ (ibits .or .u8 (vc6.toNat : Int) 32)))
          (some (decide ((ibits .or .u8 (vc6.toNat : Int) 32) ≤ 102)))
          (some false))
        (some false)))
    (cond (vx6_1)
      ((z961 (vc6.toNat : Int)).bind fun _ =>
      cond (decide ((97 : Int) ≤ (ibits .or .u8 (vc6.toNat : Int) 32)))
        (some (decide ((ibits .or .u8 (vc6.toNat : Int) 32) ≤ 102)))
        (some false))
      (some false))

noncomputable def z992 (vx2_1 : List UInt8) (vx6_1 : Bool) (vx7 : Int) (vx8 : Int) : Option (Int ⊕ Unit) :=
  (z997 vx2_1 vx6_1 vx8).bind fun vx11_1 =>
  cond (vx11_1)
    (some (.inl 48))
    ((at? vx2_1 vx8).bind fun vc7 =>
    cond (decide ((vc7.toNat : Int) = 95))
      (cond (!decide (vx7 = 48))
        (some (.inr ()))
        (some (.inl 95)))
      (cond (decide (vx7 = 95))
        (some (.inr ()))
        (some (.inl 33))))

noncomputable def z987 (vx2_1 : List UInt8) (vx6_1 : Bool) : Int × Int → Option ((Int × Int) ⊕ (Int ⊕ Unit))
  | (vx7, vx8) =>
  cond (decide (vx8 < (vx2_1.length : Int)))
    ((z992 vx2_1 vx6_1 vx7 vx8).bind fun x => match x with
      | .inl vx12_1 =>
        some (.inl (vx12_1, IntKind.wrap .i64 (vx8 + 1)))
      | .inr _ =>
        some (.inr (.inr ())))
    (some (.inr (.inl vx7)))

noncomputable def z964 (qx : List UInt8) : Option (Bool) :=
  (z967 qx).bind fun vx2_1 =>
  (z977 vx2_1).bind fun (vx4_1, vx5_1, vx6_1) =>
  (loopO (z987 vx2_1 vx6_1) (vx4_1, vx5_1)).bind fun x => match x with
    | .inl vx13_1 =>
      some (!decide (vx13_1 = 95))
    | .inr _ =>
      some false

/-! ### internal/strconv.ParseUint -/
noncomputable def z921 (qx1 : Int) : Option (Bool) :=
  cond (decide ((2 : Int) ≤ qx1))
    (some (decide (qx1 ≤ 36)))
    (some false)

noncomputable def z926 (qx : List UInt8) : Option (Bool) :=
  cond (decide (3 ≤ (qx.length : Int)))
    ((at? qx 1).bind fun vc1 =>
    (z961 (vc1.toNat : Int)).bind fun _ =>
    some (decide ((ibits .or .u8 (vc1.toNat : Int) 32) = 98)))
    (some false)

noncomputable def z931 (qx : List UInt8) : Option (Bool) :=
  cond (decide (3 ≤ (qx.length : Int)))
    ((at? qx 1).bind fun vc2 =>
    (z961 (vc2.toNat : Int)).bind fun _ =>
    some (decide ((ibits .or .u8 (vc2.toNat : Int) 32) = 111)))
    (some false)

noncomputable def z936 (qx : List UInt8) : Option (Bool) :=
  cond (decide (3 ≤ (qx.length : Int)))
    ((at? qx 1).bind fun vc3 =>
    (z961 (vc3.toNat : Int)).bind fun _ =>
    some (decide ((ibits .or .u8 (vc3.toNat : Int) 32) = 120)))
    (some false)

noncomputable def z881 (qx : List UInt8) (qx1 : Int) : Option (((List UInt8) × Int)) :=
  (z921 qx1).bind fun vx1 =>
  cond (vx1)
    (some (qx, qx1))
    (cond (decide (qx1 = 0))
      ((at? qx 0).bind fun vc =>
      cond (decide ((vc.toNat : Int) = 48))
        ((z926 qx).bind fun vx2_1 =>
        cond (vx2_1)
          ((sub? qx 2 (qx.length : Int)).bind fun vs =>
          some (vs, 2))
          ((z931 qx).bind fun vx3_1 =>
          cond (vx3_1)
            ((sub? qx 2 (qx.length : Int)).bind fun vs1 =>
            some (vs1, 8))
            ((z936 qx).bind fun vx4_1 =>
            cond (vx4_1)
              ((sub? qx 2 (qx.length : Int)).bind fun vs2 =>
              some (vs2, 16))
              ((sub? qx 1 (qx.length : Int)).bind fun vs3 =>
              some (vs3, 8)))))
        (some (qx, 10)))
      (none))

noncomputable def z946 (qx2 : Int) : Option (Bool) :=
  cond (decide (qx2 < 0))
    (some true)
    (some (decide (64 < qx2)))

noncomputable def z941 (qx2 : Int) : Option (Int) :=
  cond (decide (qx2 = 0))
    (some 64)
    ((z946 qx2).bind fun vx7_1 =>
    cond (vx7_1)
      (none)
      (some qx2))

noncomputable def z951 (vx6_1 : Int) : Option (Int) :=
  cond (decide (vx6_1 = 10))
    (some 1844674407370955162)
    (cond (decide (vx6_1 = 16))
      (some 1152921504606846976)
      (gd (!((IntKind.wrap .u64 (vx6_1)) == 0)) <|
      some (IntKind.wrap .u64 ((IntKind.wrap .u64 ((18446744073709551615 : Int).tdiv (IntKind.wrap .u64 (vx6_1)))) + 1))))

noncomputable def z892 (qx1 : Int) (vy1 : Int) : Option (Bool) :=
  cond (decide (vy1 = 95))
    (some (decide (qx1 = 0)))
    (some false)

noncomputable def z897 (vy1 : Int) : Option (Bool) :=
  cond (decide ((48 : Int) ≤ vy1))
    (some (decide (vy1 ≤ 57)))
    (some false)

noncomputable def z902 (vy1 : Int) : Option (Bool) :=
  (z961 vy1).bind fun _ =>
  cond (decide ((97 : Int) ≤ (ibits .or .u8 vy1 32)))
    (some (decide ((ibits .or .u8 vy1 32) ≤ 122)))
    (some false)

noncomputable def z887 (qx1 : Int) (vy1 : Int) : Option (Int ⊕ Unit) :=
  (z892 qx1 vy1).bind fun vx20_1 =>
  cond (vx20_1)
    (some (.inr ()))
    ((z897 vy1).bind fun vx21_1 =>
    cond (vx21_1)
      (some (.inl (IntKind.wrap .u8 (vy1 - 48))))
      ((z902 vy1).bind fun vx22_1 =>
      cond (vx22_1)
        ((z961 vy1).bind fun _ =>
        some (.inl (IntKind.wrap .u8 ((IntKind.wrap .u8 ((ibits .or .u8 vy1 32) - 97)) + 10))))
        (none)))

noncomputable def z907 (vx6_1 : Int) (vx8_1 : Int) (vx11 : Int) (vx23_1 : Int) : Option (Bool) :=
  cond (decide ((IntKind.wrap .u64 ((IntKind.wrap .u64 (vx11 * (IntKind.wrap .u64 (vx6_1)))) + (IntKind.wrap .u64 (vx23_1)))) < (IntKind.wrap .u64 (vx11 * (IntKind.wrap .u64 (vx6_1))))))
    (some true)
    (some (decide ((IntKind.wrap .u64 ((ishl .u64 1 (IntKind.wrap .u64 (vx8_1))) - 1)) < (IntKind.wrap .u64 ((IntKind.wrap .u64 (vx11 * (IntKind.wrap .u64 (vx6_1)))) + (IntKind.wrap .u64 (vx23_1)))))))

noncomputable def z882 (qx1 : Int) (vx5_1 : List UInt8) (vx6_1 : Int) (vx8_1 : Int) (vx9_1 : Int) (vx10 : Bool) (vx11 : Int) (vx12 : Int) : Option ((Bool × Int)) :=
  (at? (bytesD vx5_1) vx12).bind fun vy1 =>
  (z887 qx1 vy1).bind fun x => match x with
    | .inl vx23_1 =>
      cond (decide ((IntKind.wrap .u8 (vx6_1)) ≤ vx23_1))
        (none)
        (cond (decide (vx9_1 ≤ vx11))
          (none)
          ((z907 vx6_1 vx8_1 vx11 vx23_1).bind fun vx24_1 =>
          cond (vx24_1)
            (none)
            (some (vx10, IntKind.wrap .u64 ((IntKind.wrap .u64 (vx11 * (IntKind.wrap .u64 (vx6_1)))) + (IntKind.wrap .u64 (vx23_1)))))))
    | .inr _ =>
      some (true, vx11)

noncomputable def z956 (qx1 : Int) (vx5_1 : List UInt8) (vx6_1 : Int) (vx8_1 : Int) (vx9_1 : Int) : Bool × Int × Int → Option ((Bool × Int × Int) ⊕ ((Bool × Int)))
  | (vx10, vx11, vx12) =>
  cond (decide (vx12 < ((bytesD vx5_1).length : Int)))
    ((z882 qx1 vx5_1 vx6_1 vx8_1 vx9_1 vx10 vx11 vx12).bind fun (vx25_1, vx26_1) =>
    some (.inl (vx25_1, vx26_1, IntKind.wrap .i64 (vx12 + 1))))
    (some (.inr (vx10, vx11)))

noncomputable def z912 (qx : List UInt8) (vx27_1 : Bool) : Option (Bool) :=
  cond (vx27_1)
    ((z964 qx).bind fun vr =>
    some (!vr))
    (some false)

noncomputable def z878 (qx : List UInt8) (qx1 : Int) (qx2 : Int) : Option (Int) :=
  cond (decide (qx = ([] : List UInt8)))
    (none)
    ((z881 qx qx1).bind fun (vx5_1, vx6_1) =>
    (z941 qx2).bind fun vx8_1 =>
    (z951 vx6_1).bind fun vx9_1 =>
    gd (decide (0 ≤ (IntKind.wrap .u64 (vx8_1)))) <|
    (loopO (z956 qx1 vx5_1 vx6_1 vx8_1 vx9_1) (false, 0, 0)).bind fun (vx27_1, vx28_1) =>
    (z912 qx vx27_1).bind fun vx29_1 =>
    cond (vx29_1)
      (none)
      (some vx28_1))

/-! ### internal/strconv.ParseInt -/
noncomputable def z853 (qx : List UInt8) : Option (((List UInt8) × Bool)) :=
  (at? qx 0).bind fun vc =>
  cond (decide ((vc.toNat : Int) = 43))
    ((sub? qx 1 (qx.length : Int)).bind fun vs =>
    some (vs, false))
    (cond (decide ((vc.toNat : Int) = 45))
      ((sub? qx 1 (qx.length : Int)).bind fun vs1 =>
      some (vs1, true))
      (some (qx, false)))

noncomputable def z858 (qx2 : Int) : Option (Int) :=
  cond (decide (qx2 = 0))
    (some 64)
    (some qx2)

noncomputable def z863 (vx1_1 : Bool) (vr1 : Int) (vx3_1 : Int) : Option (Bool) :=
  cond (!vx1_1)
    (some (decide ((ishl .u64 1 (IntKind.wrap .u64 (IntKind.wrap .i64 (vx3_1 - 1)))) ≤ vr1)))
    (some false)

noncomputable def z868 (vx1_1 : Bool) (vr1 : Int) (vx3_1 : Int) : Option (Bool) :=
  cond (vx1_1)
    (some (decide ((ishl .u64 1 (IntKind.wrap .u64 (IntKind.wrap .i64 (vx3_1 - 1)))) < vr1)))
    (some false)

noncomputable def z873 (vx1_1 : Bool) (vr1 : Int) : Option (Int) :=
  cond (vx1_1)
    (some (IntKind.wrap .i64 (0 - (IntKind.wrap .i64 (vr1)))))
    (some (IntKind.wrap .i64 (vr1)))

noncomputable def z850 (qx : List UInt8) (qx1 : Int) (qx2 : Int) : Option (Int) :=
  cond (decide (qx = ([] : List UInt8)))
    (none)
    ((z853 qx).bind fun (vx2, vx1_1) =>
    (z878 vx2 qx1 qx2).bind fun vr1 =>
    (z858 qx2).bind fun vx3_1 =>
    gd (decide (0 ≤ (IntKind.wrap .u64 (IntKind.wrap .i64 (vx3_1 - 1))))) <|
    (z863 vx1_1 vr1 vx3_1).bind fun vx4_1 =>
    cond (vx4_1)
      (none)
      ((z868 vx1_1 vr1 vx3_1).bind fun vx5_1 =>
      cond (vx5_1)
        (none)
        ((z873 vx1_1 vr1).bind fun vx6_1 =>
        some vx6_1)))

/-! ### internal/strconv.Atoi -/
noncomputable def z823 (qx : List UInt8) : Option (Bool) :=
  cond (decide ((0 : Int) < (qx.length : Int)))
    (some (decide ((qx.length : Int) < 19)))
    (some false)

noncomputable def z833 (qx : List UInt8) : Option (Bool) :=
  (at? qx 0).bind fun vc =>
  cond (decide ((vc.toNat : Int) = 45))
    (some true)
    (some (decide ((vc.toNat : Int) = 43)))

noncomputable def z828 (qx : List UInt8) : Option ((List UInt8)) :=
  (z833 qx).bind fun vx2_1 =>
  cond (vx2_1)
    ((sub? qx 1 (qx.length : Int)).bind fun vs =>
    cond (decide ((vs.length : Int) < 1))
      (none)
      (some vs))
    (some qx)

noncomputable def z838 (vx3_1 : List UInt8) : Int × Int → Option ((Int × Int) ⊕ (Int))
  | (vx4, vx5) =>
  cond (decide (vx5 < ((bytesD vx3_1).length : Int)))
    ((at? (bytesD vx3_1) vx5).bind fun vy1 =>
    cond (decide (9 < (IntKind.wrap .u8 (vy1 - 48))))
      (none)
      (some (.inl (IntKind.wrap .i64 ((IntKind.wrap .i64 (vx4 * 10)) + (IntKind.wrap .i64 (IntKind.wrap .u8 (vy1 - 48)))), IntKind.wrap .i64 (vx5 + 1)))))
    (some (.inr vx4))

noncomputable def z843 (qx : List UInt8) (vx6_1 : Int) : Option (Int) :=
  (at? qx 0).bind fun vc1 =>
  cond (decide ((vc1.toNat : Int) = 45))
    (some (IntKind.wrap .i64 (0 - vx6_1)))
    (some vx6_1)

noncomputable def z820 (qx : List UInt8) : Option (Int) :=
  (z823 qx).bind fun vx1 =>
  cond (vx1)
    ((z828 qx).bind fun vx3_1 =>
    (loopO (z838 vx3_1) (0, 0)).bind fun vx6_1 =>
    (z843 qx vx6_1).bind fun vx7_1 =>
    some vx7_1)
    ((z850 qx 10 0).bind fun vr =>
    some vr)

/-! ### strconv.Atoi -/
noncomputable def z819 (qs : List UInt8) : Option (Int) :=
  (z820 qs).bind fun vr1 =>
  some vr1

/-! ### beaconfleet/base.Number -/
noncomputable def z52 (qs : List UInt8) (qdigits : Int) (vr : List UInt8) : Option (Bool) :=
  cond (decide (vr = ([] : List UInt8)))
    (some true)
    (cond (decide (qdigits < (vr.length : Int)))
      (some true)
      ((at? vr 0).bind fun vc =>
      cond (decide ((vc.toNat : Int) = 48))
        (cond (decide (1 < (vr.length : Int)))
          (some true)
          (some (decide ((vr.length : Int) < (qs.length : Int)))))
        (some false)))

noncomputable def z63 (vr : List UInt8) (vx2 : Int) : Option (Bool) :=
  (at? vr vx2).bind fun vc2 =>
  cond (decide ((vc2.toNat : Int) < 48))
    (some true)
    (some (decide (57 < (vc2.toNat : Int))))

noncomputable def z58 (vr : List UInt8) (vx2 : Int) : Option ((Int) ⊕ (Unit ⊕ Unit)) :=
  cond (decide (vx2 < (vr.length : Int)))
    ((z63 vr vx2).bind fun vx4_1 =>
    cond (vx4_1)
      (some (.inr (.inr ())))
      (some (.inl (IntKind.wrap .i64 (vx2 + 1)))))
    (some (.inr (.inl ())))

noncomputable def z48 (qs : List UInt8) (qdigits : Int) : Option (Int × Bool) :=
  (z1023 qs ([45] : List UInt8)).bind fun vr =>
  (z52 qs qdigits vr).bind fun vx1 =>
  cond (vx1)
    (some (0, false))
    ((loopO (z58 vr) 0).bind fun x => match x with
      | .inl _ =>
        (z819 qs).bind fun vr1 =>
        some (vr1, true)
      | .inr _ =>
        some (0, false))

/-! ### beaconfleet/base.Numbers -/
noncomputable def z71 (qwords : List (List UInt8)) (qdigits : Int) : (List Int) × Int → Option (((List Int) × Int) ⊕ ((List Int) ⊕ Unit))
  | (vout, vx) =>
  cond (decide (vx < (qwords.length : Int)))
    ((at? qwords vx).bind fun vy1 =>
    (z48 vy1 qdigits).bind fun (vr2_1, vr3_1) =>
    cond (!vr3_1)
      (some (.inr (.inr ())))
      (gd (Nat.ble (vout.length + ([vr2_1] : List Int).length) LIM) <|
      some (.inl (vout ++ ([vr2_1] : List Int), IntKind.wrap .i64 (vx + 1)))))
    (some (.inr (.inl vout)))

noncomputable def z68 (qwords : List (List UInt8)) (qdigits : Int) : Option ((List Int) × Bool) :=
  (loopO (z71 qwords qdigits) ([], 0)).bind fun x => match x with
    | .inl vout1_1 =>
      some (vout1_1, true)
    | .inr _ =>
      some ([], false)

/-! ### beaconfleet/base.Version -/
noncomputable def z99 (qv : api_Version) : Option (Bool) :=
  (base_Out qv.Major 0 9999).bind fun vr =>
  cond (!vr)
    ((base_Out qv.Minor 0 9999).bind fun vr1 =>
    cond (!vr1)
      ((base_Out qv.Patch 0 9999).bind fun vr2 =>
      some (!vr2))
      (some false))
    (some false)

noncomputable def z96 (qv : api_Version) : Option (Bool) :=
  (z99 qv).bind fun vx1 =>
  some vx1

/-! ### beaconfleet/campaign.ParseVersion -/
noncomputable def z135 (vr1 : List Int) (vr1_1 : Bool) : Option (Bool) :=
  cond (!vr1_1)
    (some true)
    (some (!decide ((vr1.length : Int) = 3)))

noncomputable def z132 (qs : List UInt8) : Option (api_Version × Int) :=
  (z1019 qs ([46] : List UInt8)).bind fun vr =>
  (z68 vr 4).bind fun (vr1, vr1_1) =>
  (z135 vr1 vr1_1).bind fun vx1 =>
  cond (vx1)
    (some (api_Version.mk 0 0 0, 9))
    ((at? vr1 0).bind fun vy =>
    (at? vr1 1).bind fun vy1 =>
    (at? vr1 2).bind fun vy2 =>
    (z96 (api_Version.mk vy vy1 vy2)).bind fun vr3 =>
    cond (!vr3)
      (some (api_Version.mk 0 0 0, 9))
      (some (api_Version.mk vy vy1 vy2, 0)))

/-! ### beaconfleet/place.Cell -/
noncomputable def z383 (qs : api_Spot) (qlevel : Int) : Option (Bool) :=
  (z505 qs).bind fun vr2 =>
  cond (!vr2)
    (some true)
    ((base_Out qlevel 0 15).bind fun vr =>
    some vr)

noncomputable def z388 (qs : api_Spot) (qlevel : Int) : (List Int) × Int × Int → Option (((List Int) × Int × Int) ⊕ ((List Int)))
  | (vout, vlong, vx2) =>
  cond (decide (vx2 < qlevel))
    (gd (!((IntKind.wrap .i64 (vlong.tdiv 2)) == 0)) <|
    gd (Nat.ble (vout.length + ([IntKind.wrap .u8 ((IntKind.wrap .u8 ((48 : Int) + (IntKind.wrap .u8 ((IntKind.wrap .i64 ((IntKind.wrap .i64 (qs.X - (-16384))).tdiv (IntKind.wrap .i64 (vlong.tdiv 2)))).tmod 2)))) + (IntKind.wrap .u8 ((2 : Int) * (IntKind.wrap .u8 ((IntKind.wrap .i64 ((IntKind.wrap .i64 (qs.Y - (-16384))).tdiv (IntKind.wrap .i64 (vlong.tdiv 2)))).tmod 2)))))] : List Int).length) LIM) <|
    some (.inl (vout ++ ([IntKind.wrap .u8 ((IntKind.wrap .u8 ((48 : Int) + (IntKind.wrap .u8 ((IntKind.wrap .i64 ((IntKind.wrap .i64 (qs.X - (-16384))).tdiv (IntKind.wrap .i64 (vlong.tdiv 2)))).tmod 2)))) + (IntKind.wrap .u8 ((2 : Int) * (IntKind.wrap .u8 ((IntKind.wrap .i64 ((IntKind.wrap .i64 (qs.Y - (-16384))).tdiv (IntKind.wrap .i64 (vlong.tdiv 2)))).tmod 2)))))] : List Int), IntKind.wrap .i64 (vlong.tdiv 2), IntKind.wrap .i64 (vx2 + 1))))
    (some (.inr vout))

noncomputable def z372 (qs : api_Spot) (qlevel : Int) : Option ((List UInt8) × Int) :=
  (z383 qs qlevel).bind fun vx1 =>
  cond (vx1)
    (some (([] : List UInt8), 1))
    ((loopO (z388 qs qlevel) ([], 32768, 0)).bind fun vout1_1 =>
    some (vout1_1.map fun n => UInt8.ofNat n.toNat, 0))

/-! ### slices.Equal[[]byte,byte] -/
noncomputable def z716 (qs1 : List Int) (qs2 : List Int) (vx : Int) : Option ((Int) ⊕ (Unit ⊕ Unit)) :=
  cond (decide (vx < (qs1.length : Int)))
    ((at? qs1 vx).bind fun vy2 =>
    (at? qs2 vx).bind fun vy3 =>
    cond (!decide (vy2 = vy3))
      (some (.inr (.inr ())))
      (some (.inl (IntKind.wrap .i64 (vx + 1)))))
    (some (.inr (.inl ())))

noncomputable def z713 (qs1 : List Int) (qs2 : List Int) : Option (Bool) :=
  cond (!decide ((qs1.length : Int) = (qs2.length : Int)))
    (some false)
    ((loopO (z716 qs1 qs2) 0).bind fun x => match x with
      | .inl _ =>
        some true
      | .inr _ =>
        some false)

/-! ### slices.Index[[]string,string] -/
noncomputable def z748 (qs : List (List UInt8)) (qv : List UInt8) (vx : Int) : Option ((Int) ⊕ (Unit ⊕ Int)) :=
  cond (decide (vx < (qs.length : Int)))
    ((at? qs vx).bind fun vy1 =>
    cond (decide (qv = vy1))
      (some (.inr (.inr vx)))
      (some (.inl (IntKind.wrap .i64 (vx + 1)))))
    (some (.inr (.inl ())))

noncomputable def z745 (qs : List (List UInt8)) (qv : List UInt8) : Option (Int) :=
  (loopO (z748 qs qv) 0).bind fun x => match x with
    | .inl _ =>
      some (-1)
    | .inr vx1_1 =>
      some vx1_1

/-! ### slices.Contains[[]string,string] -/
noncomputable def z710 (qs : List (List UInt8)) (qv : List UInt8) : Option (Bool) :=
  (z745 qs qv).bind fun vr =>
  some (decide (0 ≤ vr))

/-! ### strings.trimRightByte -/
noncomputable def z1107 (qc : Int) (vs : List UInt8) : Option (Bool) :=
  cond (decide (0 < (vs.length : Int)))
    ((at? vs (IntKind.wrap .i64 ((vs.length : Int) - 1))).bind fun vc1 =>
    some (decide ((vc1.toNat : Int) = qc)))
    (some false)

noncomputable def z1102 (qc : Int) (vs : List UInt8) : Option (((List UInt8)) ⊕ ((List UInt8))) :=
  (z1107 qc vs).bind fun vx2_1 =>
  cond (vx2_1)
    ((sub? vs 0 (IntKind.wrap .i64 ((vs.length : Int) - 1))).bind fun vs2 =>
    some (.inl vs2))
    (some (.inr vs))

noncomputable def z1099 (qs : List UInt8) (qc : Int) : Option ((List UInt8)) :=
  (loopO (z1102 qc) qs).bind fun vs3_1 =>
  some vs3_1

/-! ### strings.trimLeftByte -/
noncomputable def z1078 (qc : Int) (vs : List UInt8) : Option (Bool) :=
  cond (decide (0 < (vs.length : Int)))
    ((at? vs 0).bind fun vc1 =>
    some (decide ((vc1.toNat : Int) = qc)))
    (some false)

noncomputable def z1073 (qc : Int) (vs : List UInt8) : Option (((List UInt8)) ⊕ ((List UInt8))) :=
  (z1078 qc vs).bind fun vx2_1 =>
  cond (vx2_1)
    ((sub? vs 1 (vs.length : Int)).bind fun vs2 =>
    some (.inl vs2))
    (some (.inr vs))

noncomputable def z1070 (qs : List UInt8) (qc : Int) : Option ((List UInt8)) :=
  (loopO (z1073 qc) qs).bind fun vs3_1 =>
  some vs3_1

/-! ### strings.makeASCIISet -/
noncomputable def z1057 (qchars : List UInt8) : Unit → Option ((Unit) ⊕ (Unit ⊕ Unit))
  | _ =>
  cond (decide ((0 : Int) < (qchars.length : Int)))
    ((at? qchars 0).bind fun vc1 =>
    cond (decide (128 ≤ (vc1.toNat : Int)))
      (some (.inr (.inr ())))
      (none))
    (some (.inr (.inl ())))

noncomputable def z1054 (qchars : List UInt8) : Option (Bool) :=
  (loopO (z1057 qchars) ()).bind fun x => match x with
    | .inl _ =>
      some true
    | .inr _ =>
      some false

/-! ### strings.trimRightASCII -/
noncomputable def z1094 (qs : List UInt8) : Unit → Option ((Unit) ⊕ (Unit))
  | _ =>
  cond (decide (0 < (qs.length : Int)))
    ((at? qs (IntKind.wrap .i64 ((qs.length : Int) - 1))).bind fun vc1 =>
    none)
    (some (.inr ()))

noncomputable def z1091 (qs : List UInt8) (qas : Bool) : Option (Unit) :=
  (loopO (z1094 qs) ()).bind fun _ =>
  some ()

/-! ### strings.trimLeftASCII -/
noncomputable def z1065 (qs : List UInt8) : Unit → Option ((Unit) ⊕ (Unit))
  | _ =>
  cond (decide (0 < (qs.length : Int)))
    ((at? qs 0).bind fun vc1 =>
    none)
    (some (.inr ()))

noncomputable def z1062 (qs : List UInt8) (qas : Bool) : Option (Unit) :=
  (loopO (z1065 qs) ()).bind fun _ =>
  some ()

/-! ### unicode/utf8.RuneStart -/
noncomputable def z1269 (qb : Int) : Option (Unit) :=
  some ()

/-! ### unicode/utf8.decodeRuneInStringSlow -/
noncomputable def z1274 (qx : List UInt8) : Option (Unit) :=
  cond (decide ((qx.length : Int) < 1))
    (some ())
    ((at? qx 0).bind fun vc =>
    none)

/-! ### unicode/utf8.DecodeRuneInString -/
noncomputable def z1264 (qs : List UInt8) : Option (Bool) :=
  cond (!decide (qs = ([] : List UInt8)))
    ((at? qs 0).bind fun vc =>
    some (decide ((vc.toNat : Int) < 128)))
    (some false)

noncomputable def z1261 (qs : List UInt8) : Option (Int × Int) :=
  (z1264 qs).bind fun vx1 =>
  cond (vx1)
    ((at? qs 0).bind fun vc1 =>
    some (IntKind.wrap .i32 ((vc1.toNat : Int)), 1))
    ((z1274 qs).bind fun _ =>
    some (65533, 0))

/-! ### unicode/utf8.DecodeLastRuneInString -/
noncomputable def z1251 (qs : List UInt8) (vstart : Int) : Option ((Int) ⊕ (Int)) :=
  cond (decide ((imax (IntKind.wrap .i64 ((qs.length : Int) - 4)) 0) ≤ vstart))
    ((at? qs vstart).bind fun vc2 =>
    (z1269 (vc2.toNat : Int)).bind fun _ =>
    cond (!decide ((ibits .and .u8 (vc2.toNat : Int) 192) = 128))
      (some (.inr vstart))
      (some (.inl (IntKind.wrap .i64 (vstart - 1)))))
    (some (.inr vstart))

noncomputable def z1256 (vstart1_1 : Int) : Option (Int) :=
  cond (decide (vstart1_1 < 0))
    (some 0)
    (some vstart1_1)

noncomputable def z1248 (qs : List UInt8) : Option (Int × Int) :=
  cond (decide ((qs.length : Int) = 0))
    (some (65533, 0))
    ((at? qs (IntKind.wrap .i64 ((qs.length : Int) - 1))).bind fun vc =>
    cond (decide ((IntKind.wrap .i32 ((vc.toNat : Int))) < 128))
      (some (IntKind.wrap .i32 ((vc.toNat : Int)), 1))
      ((loopO (z1251 qs) (IntKind.wrap .i64 ((IntKind.wrap .i64 ((qs.length : Int) - 1)) - 1))).bind fun vstart1_1 =>
      (z1256 vstart1_1).bind fun vstart2_1 =>
      (sub? qs vstart2_1 (qs.length : Int)).bind fun vs =>
      (z1261 vs).bind fun (vr, vr1) =>
      cond (!decide ((IntKind.wrap .i64 (vstart2_1 + vr1)) = (qs.length : Int)))
        (some (65533, 1))
        (some (vr, vr1))))

/-! ### strings.trimRightUnicode -/
noncomputable def z1120 (qs : List UInt8) (vc1 : UInt8) : Option ((Int × Int)) :=
  cond (decide (128 ≤ (IntKind.wrap .i32 ((vc1.toNat : Int)))))
    ((z1248 qs).bind fun (vr2_1, vr3_1) =>
    some (vr2_1, vr3_1))
    (some (IntKind.wrap .i32 ((vc1.toNat : Int)), 1))

noncomputable def z1115 (qs : List UInt8) : Unit → Option ((Unit) ⊕ (Unit))
  | _ =>
  cond (decide (0 < (qs.length : Int)))
    ((at? qs (IntKind.wrap .i64 ((qs.length : Int) - 1))).bind fun vc1 =>
    (z1120 qs vc1).bind fun (vr4_1, vn2_1) =>
    none)
    (some (.inr ()))

noncomputable def z1112 (qs : List UInt8) (qcutset : List UInt8) : Option (Unit) :=
  (loopO (z1115 qs) ()).bind fun _ =>
  some ()

/-! ### strings.trimLeftUnicode -/
noncomputable def z1086 (qs : List UInt8) : Unit → Option ((Unit) ⊕ (Unit))
  | _ =>
  cond (decide (0 < (qs.length : Int)))
    ((z1261 qs).bind fun (vr2, vr1_1) =>
    none)
    (some (.inr ()))

noncomputable def z1083 (qs : List UInt8) (qcutset : List UInt8) : Option (Unit) :=
  (loopO (z1086 qs) ()).bind fun _ =>
  some ()

/-! ### strings.Trim -/
noncomputable def z1031 (qs : List UInt8) (qcutset : List UInt8) : Option (Bool) :=
  cond (decide (qs = ([] : List UInt8)))
    (some true)
    (some (decide (qcutset = ([] : List UInt8))))

noncomputable def z1036 (qcutset : List UInt8) : Option (Bool) :=
  cond (decide ((qcutset.length : Int) = 1))
    ((at? qcutset 0).bind fun vc =>
    some (decide ((vc.toNat : Int) < 128)))
    (some false)

noncomputable def z1022 (qs : List UInt8) (qcutset : List UInt8) : Option ((List UInt8)) :=
  (z1031 qs qcutset).bind fun vx1 =>
  cond (vx1)
    (some qs)
    ((z1036 qcutset).bind fun vx2_1 =>
    cond (vx2_1)
      ((at? qcutset 0).bind fun vc1 =>
      (z1099 qs (vc1.toNat : Int)).bind fun vr =>
      (z1070 vr (vc1.toNat : Int)).bind fun vr1 =>
      some vr1)
      ((z1054 qcutset).bind fun vr2 =>
      cond (vr2)
        ((z1091 qs false).bind fun _ =>
        (z1062 qs false).bind fun _ =>
        some qs)
        ((z1112 qs qcutset).bind fun _ =>
        (z1083 qs qcutset).bind fun _ =>
        some qs)))

/-! ### strings.Trim -/
noncomputable def z1027 (qs : List UInt8) (qcutset : List UInt8) : Option (List UInt8) :=
  cond (decide (qs = [])) (z1022 qs qcutset) (gd (decide (2 ≤ qcutset.length) && decide (0 < qs.length) && decide (qs.length ≤ 9223372036854775807) && decide (qcutset.length < 4294967281) && (qcutset.all fun b => decide (b.toNat < 128))) (some (Lib.trimS qs qcutset)))

/-! ### beaconfleet/place.CellBox -/
noncomputable def z376 (qkey : List UInt8) : Option (Bool) :=
  cond (decide (15 < (qkey.length : Int)))
    (some true)
    ((z1027 qkey ([48, 49, 50, 51] : List UInt8)).bind fun vr =>
    some (!decide (vr = ([] : List UInt8))))

noncomputable def z373 (qkey : List UInt8) : Option (api_Spot × Int × Int) :=
  (z376 qkey).bind fun vx1 =>
  cond (vx1)
    (some (api_Spot.mk 0 0, 0, 9))
    ((z407 qkey).bind fun (vr1, vr1_1) =>
    some (vr1, vr1_1, 0))

/-! ### beaconfleet/fleetkeep2.errs -/
noncomputable def z222 (ql : List Int) (vx : Int) : Option ((Int) ⊕ (Unit ⊕ Int)) :=
  cond (decide (vx < (ql.length : Int)))
    ((at? ql vx).bind fun vy1 =>
    cond (!decide (vy1 = 0))
      (some (.inr (.inr vy1)))
      (some (.inl (IntKind.wrap .i64 (vx + 1)))))
    (some (.inr (.inl ())))

noncomputable def z219 (ql : List Int) : Option (Int) :=
  (loopO (z222 ql) 0).bind fun x => match x with
    | .inl _ =>
      some 0
    | .inr vx1_1 =>
      some vx1_1

/-! ### beaconfleet/place.spotFault -/
noncomputable def z544 (qs : api_Spot) (vr3 : Int) : Option (Bool) :=
  cond (decide (vr3 = 0))
    ((z505 qs).bind fun vr2 =>
    some (!vr2))
    (some false)

noncomputable def z539 (qs : api_Spot) (vr3 : Int) : Option (Int) :=
  (z544 qs vr3).bind fun vx1 =>
  cond (vx1)
    (some 1)
    (some vr3)

noncomputable def z536 (qf : api_Fence) (qs : api_Spot) : Option (Int) :=
  (z396 qf).bind fun vr3 =>
  (z539 qs vr3).bind fun ve1 =>
  some ve1

/-! ### beaconfleet/place.Where -/
noncomputable def z404 (qf : api_Fence) (qs : api_Spot) : Option (Int × Int) :=
  (z536 qf qs).bind fun vr =>
  cond (!decide (vr = 0))
    (some (0, vr))
    ((z563 qf.Corners qs).bind fun vr1 =>
    some (vr1, 0))

/-! ### beaconfleet/twin.CheckProps -/
noncomputable def z1158 : Unit → Option ((Unit) ⊕ (Unit))
  | _ =>
  cond (decide ((0 : Int) < 0))
    (none)
    (some (.inr ()))

noncomputable def z1163 : Unit → Option ((Unit) ⊕ (Unit))
  | _ =>
  cond (decide ((0 : Int) < 0))
    (none)
    (some (.inr ()))

noncomputable def z1155 : Option (Int) :=
  cond (decide (500 < (0 : Int)))
    (some 2)
    ((loopO z1158 ()).bind fun _ =>
    (loopO z1163 ()).bind fun _ =>
    some 0)

/-! ### internal/stringslite.Cut -/
noncomputable def z1125 (qs : List UInt8) (qsep : List UInt8) : Option ((List UInt8) × (List UInt8) × Bool) :=
  (z1136 qs qsep).bind fun vr =>
  cond (decide (0 ≤ vr))
    ((sub? qs 0 vr).bind fun vs =>
    (sub? qs (IntKind.wrap .i64 (vr + (qsep.length : Int))) (qs.length : Int)).bind fun vs1 =>
    some (vs, vs1, true))
    (some (qs, ([] : List UInt8), false))

/-! ### strings.Cut -/
noncomputable def z1013 (qs : List UInt8) (qsep : List UInt8) : Option ((List UInt8) × (List UInt8) × Bool) :=
  (z1125 qs qsep).bind fun (vr1, vr2, vr3) =>
  some (vr1, vr2, vr3)

/-! ### beaconfleet/base.Dotted -/
noncomputable def z10 (qmost : Int) : (List UInt8) × Int → Option (((List UInt8) × Int) ⊕ (Unit ⊕ Bool))
  | (vs, vn) =>
  cond (decide (vn < qmost))
    ((z1013 vs ([46] : List UInt8)).bind fun (vr2, vr4_1, vr5_1) =>
    (base_Key vr2).bind fun vr3 =>
    cond (!vr3)
      (some (.inr (.inr false)))
      (cond (!vr5_1)
        (some (.inr (.inr true)))
        (some (.inl (vr4_1, IntKind.wrap .i64 (vn + 1))))))
    (some (.inr (.inl ())))

noncomputable def z6 (qs : List UInt8) (qmost : Int) : Option (Bool) :=
  (loopO (z10 qmost) (qs, 0)).bind fun x => match x with
    | .inl _ =>
      some false
    | .inr vx1 =>
      some vx1

/-! ### beaconfleet/twin.isName -/
noncomputable def z1218 (qs : List UInt8) : Option (Bool) :=
  (z6 qs 8).bind fun vr6 =>
  some vr6

/-! ### unicode/utf8.ValidString -/
noncomputable def utf8_ValidString (qx : List UInt8) : Option (Bool) :=
  gd (decide (qx.length ≤ 9223372036854775807)) (some (Lib.validD qx))

/-! ### beaconfleet/base.Unmarked -/
noncomputable def z91 (qs : List UInt8) (vx : Int) : Option (Bool) :=
  (at? qs vx).bind fun vc1 =>
  cond (decide ((vc1.toNat : Int) < 32))
    (some true)
    (some (decide ((vc1.toNat : Int) = 127)))

noncomputable def z86 (qs : List UInt8) (vx : Int) : Option ((Int) ⊕ (Unit ⊕ Unit)) :=
  cond (decide (vx < (qs.length : Int)))
    ((z91 qs vx).bind fun vx2_1 =>
    cond (vx2_1)
      (some (.inr (.inr ())))
      (some (.inl (IntKind.wrap .i64 (vx + 1)))))
    (some (.inr (.inl ())))

noncomputable def z83 (qs : List UInt8) : Option (Bool) :=
  (loopO (z86 qs) 0).bind fun x => match x with
    | .inl _ =>
      (utf8_ValidString qs).bind fun vr =>
      some vr
    | .inr _ =>
      some false

/-! ### beaconfleet/twin.valueFault -/
noncomputable def z1237 (qv : api_Value) : Option (api_Value ⊕ Unit) :=
  cond (decide (qv.Kind = 0))
    (some (.inl (api_Value.mk qv.Kind false 0 ([] : List UInt8))))
    (cond (decide (qv.Kind = 1))
      (some (.inl (api_Value.mk qv.Kind qv.Flag 0 ([] : List UInt8))))
      (cond (decide (qv.Kind = 2))
        (some (.inl (api_Value.mk qv.Kind false qv.Number ([] : List UInt8))))
        (cond (decide (qv.Kind = 3))
          (some (.inl (api_Value.mk qv.Kind false 0 qv.Words)))
          (some (.inr ())))))

noncomputable def z1234 (qv : api_Value) : Option (Int) :=
  (z1237 qv).bind fun x => match x with
    | .inl vused1 =>
      cond (!(decide (qv.Kind = vused1.Kind) && ((qv.Flag == vused1.Flag) && (decide (qv.Number = vused1.Number) && (decide (qv.Words = vused1.Words) && true)))))
        (some 3)
        ((base_Out qv.Number (-1000000000) 1000000000).bind fun vr =>
        cond (vr)
          (some 1)
          (cond (decide (1000 < (qv.Words.length : Int)))
            (some 2)
            ((z83 qv.Words).bind fun vr1 =>
            cond (!vr1)
              (some 3)
              (some 0))))
    | .inr _ =>
      some 4

/-! ### beaconfleet/twin.find$1 -/
noncomputable def z1210 (qp : api_Prop) (qname : List UInt8) : Option (Unit) :=
  (z1002 qp.Name qname).bind fun _ =>
  some ()

/-! ### slices.BinarySearchFunc[[]beaconfleet/api.Prop,beaconfleet/api.Prop,string] -/
noncomputable def z662 (qx : List api_Prop) (qtarget : List UInt8) : Int × Int → Option ((Int × Int) ⊕ (Int))
  | (vi, vj) =>
  cond (decide (vi < vj))
    ((at? qx (IntKind.wrap .i64 (ishr .u64 (IntKind.wrap .u64 (IntKind.wrap .i64 (vi + vj))) 1))).bind fun vy1 =>
    (z1210 (api_Prop.mk vy1.Name (api_Value.mk vy1.Value.Kind vy1.Value.Flag vy1.Value.Number vy1.Value.Words)) qtarget).bind fun _ =>
    cond (decide ((Lib.compareBytes vy1.Name qtarget) < 0))
      (some (.inl (IntKind.wrap .i64 ((IntKind.wrap .i64 (ishr .u64 (IntKind.wrap .u64 (IntKind.wrap .i64 (vi + vj))) 1)) + 1), vj)))
      (some (.inl (vi, IntKind.wrap .i64 (ishr .u64 (IntKind.wrap .u64 (IntKind.wrap .i64 (vi + vj))) 1)))))
    (some (.inr vi))

noncomputable def z667 (qx : List api_Prop) (qtarget : List UInt8) (vi1_1 : Int) : Option (Bool) :=
  cond (decide (vi1_1 < (qx.length : Int)))
    ((at? qx vi1_1).bind fun vy2 =>
    (z1210 (api_Prop.mk vy2.Name (api_Value.mk vy2.Value.Kind vy2.Value.Flag vy2.Value.Number vy2.Value.Words)) qtarget).bind fun _ =>
    some (decide ((Lib.compareBytes vy2.Name qtarget) = 0)))
    (some false)

noncomputable def z659 (qx : List api_Prop) (qtarget : List UInt8) : Option (Int × Bool) :=
  (loopO (z662 qx qtarget) (0, (qx.length : Int))).bind fun vi1_1 =>
  (z667 qx qtarget vi1_1).bind fun vx1 =>
  some (vi1_1, vx1)

/-! ### beaconfleet/twin.find -/
noncomputable def twin_find (ql : List api_Prop) (qname : List UInt8) : Option (Int) :=
  (z659 ql qname).bind fun (vr, vr1) =>
  cond (!vr1)
    (some (-1))
    (some vr)

/-! ### beaconfleet/twin.CheckProps$1 -/
noncomputable def z1151 (qs : List UInt8) (qx : List api_Prop) : Option (Bool) :=
  (twin_find qx qs).bind fun vr2 =>
  some (decide (0 ≤ vr2))

/-! ### beaconfleet/twin.above -/
noncomputable def z1205 (qname : List UInt8) (qf : List api_Prop) (vx : Int) : Option (Bool) :=
  (at? qname vx).bind fun vc1 =>
  cond (decide ((vc1.toNat : Int) = 46))
    ((sub? qname 0 vx).bind fun vs1 =>
    (z1151 vs1 qf).bind fun vr1 =>
    some vr1)
    (some false)

noncomputable def z1200 (qname : List UInt8) (qf : List api_Prop) (vx : Int) : Option ((Int) ⊕ (Unit ⊕ Unit)) :=
  cond (decide (vx < (qname.length : Int)))
    ((z1205 qname qf vx).bind fun vx2_1 =>
    cond (vx2_1)
      (some (.inr (.inr ())))
      (some (.inl (IntKind.wrap .i64 (vx + 1)))))
    (some (.inr (.inl ())))

noncomputable def z1197 (qname : List UInt8) (qf : List api_Prop) : Option (Bool) :=
  (loopO (z1200 qname qf) 0).bind fun x => match x with
    | .inl _ =>
      some false
    | .inr _ =>
      some true

/-! ### beaconfleet/twin.CheckProps -/
noncomputable def z1174 (ql : List api_Prop) (vx : Int) (vy2 : api_Prop) : Option (Bool) :=
  cond (decide (0 < vx))
    ((at? ql (IntKind.wrap .i64 (vx - 1))).bind fun vy3 =>
    some (Op.bytesLess vy2.Name vy3.Name || decide (vy2.Name = vy3.Name)))
    (some false)

noncomputable def z1169 (ql : List api_Prop) (vx : Int) : Option ((Int) ⊕ (Unit ⊕ Int)) :=
  cond (decide (vx < (ql.length : Int)))
    ((at? ql vx).bind fun vy2 =>
    (z1218 vy2.Name).bind fun vr1 =>
    cond (!vr1)
      (some (.inr (.inr 5)))
      ((z1234 (api_Value.mk vy2.Value.Kind vy2.Value.Flag vy2.Value.Number vy2.Value.Words)).bind fun vr2_1 =>
      cond (!decide (vr2_1 = 0))
        (some (.inr (.inr vr2_1)))
        (cond (decide (vy2.Value.Kind = 0))
          (some (.inr (.inr 4)))
          ((z1174 ql vx vy2).bind fun vx2_1 =>
          cond (vx2_1)
            (some (.inr (.inr 7)))
            (some (.inl (IntKind.wrap .i64 (vx + 1))))))))
    (some (.inr (.inl ())))

noncomputable def z1179 (ql : List api_Prop) (vx4 : Int) : Option ((Int) ⊕ (Unit ⊕ Unit)) :=
  cond (decide (vx4 < (ql.length : Int)))
    ((at? ql vx4).bind fun vy5 =>
    (z1197 vy5.Name ql).bind fun vr2_3 =>
    cond (vr2_3)
      (some (.inr (.inr ())))
      (some (.inl (IntKind.wrap .i64 (vx4 + 1)))))
    (some (.inr (.inl ())))

noncomputable def z1150 (ql : List api_Prop) : Option (Int) :=
  cond (decide (500 < (ql.length : Int)))
    (some 2)
    ((loopO (z1169 ql) 0).bind fun x => match x with
      | .inl _ =>
        (loopO (z1179 ql) 0).bind fun x => match x with
          | .inl _ =>
            some 0
          | .inr _ =>
            some 13
      | .inr vx3_1 =>
        some vx3_1)

/-! ### math/bits.Len64 -/
noncomputable def z108 (qx : Int) : Option ((Int × Int)) :=
  cond (decide (4294967296 ≤ qx))
    (some (ishr .u64 qx 32, 32))
    (some (qx, 0))

noncomputable def z113 (vx1 : Int) (vn1 : Int) : Option ((Int × Int)) :=
  cond (decide (65536 ≤ vx1))
    (some (ishr .u64 vx1 16, IntKind.wrap .i64 (vn1 + 16)))
    (some (vx1, vn1))

noncomputable def z121 (vx2_1 : Int) (vn2_1 : Int) : Option ((Int × Int)) :=
  cond (decide (256 ≤ vx2_1))
    (some (ishr .u64 vx2_1 8, IntKind.wrap .i64 (vn2_1 + 8)))
    (some (vx2_1, vn2_1))

noncomputable def z104 (qx : Int) : Option (Int) :=
  (z108 qx).bind fun (vx1, vn1) =>
  (z113 vx1 vn1).bind fun (vx2_1, vn2_1) =>
  (z121 vx2_1 vn2_1).bind fun (vx3_1, vn3_1) =>
  (at? ([0, 1, 2, 2, 3, 3, 3, 3, 4, 4, 4, 4, 4, 4, 4, 4, 5, 5, 5, 5, 5, 5, 5, 5, 5, 5, 5, 5, 5, 5, 5, 5, 6, 6, 6, 6, 6, 6, 6, 6, 6, 6, 6, 6, 6, 6, 6, 6, 6, 6, 6, 6, 6, 6, 6, 6, 6, 6, 6, 6, 6, 6, 6, 6, 7, 7, 7, 7, 7, 7, 7, 7, 7, 7, 7, 7, 7, 7, 7, 7, 7, 7, 7, 7, 7, 7, 7, 7, 7, 7, 7, 7, 7, 7, 7, 7, 7, 7, 7, 7, 7, 7, 7, 7, 7, 7, 7, 7, 7, 7, 7, 7, 7, 7, 7, 7, 7, 7, 7, 7, 7, 7, 7, 7, 7, 7, 7, 7, 8, 8, 8, 8, 8, 8, 8, 8, 8, 8, 8, 8, 8, 8, 8, 8, 8, 8, 8, 8, 8, 8, 8, 8, 8, 8, 8, 8, 8, 8, 8, 8, 8, 8, 8, 8, 8, 8, 8, 8, 8, 8, 8, 8, 8, 8, 8, 8, 8, 8, 8, 8, 8, 8, 8, 8, 8, 8, 8, 8, 8, 8, 8, 8, 8, 8, 8, 8, 8, 8, 8, 8, 8, 8, 8, 8, 8, 8, 8, 8, 8, 8, 8, 8, 8, 8, 8, 8, 8, 8, 8, 8, 8, 8, 8, 8, 8, 8, 8, 8, 8, 8, 8, 8, 8, 8, 8, 8, 8, 8, 8, 8, 8, 8, 8, 8, 8, 8, 8, 8, 8, 8, 8, 8, 8, 8, 8, 8] : List UInt8) (IntKind.wrap .u8 (vx3_1))).bind fun vc =>
  some (IntKind.wrap .i64 (vn3_1 + (IntKind.wrap .i64 ((vc.toNat : Int)))))

/-! ### math/bits.Len -/
noncomputable def bits_Len (qx : Int) : Option (Int) :=
  (z104 qx).bind fun vr =>
  some vr

/-! ### cmp.isNaN[string] -/
noncomputable def z164 (qx : List UInt8) : Option (Unit) :=
  some ()

/-! ### cmp.Less[string] -/
noncomputable def z148 (qx : List UInt8) (qy : List UInt8) : Option (Bool) :=
  (z164 qx).bind fun _ =>
  cond (!decide (qx = qx))
    ((z164 qy).bind fun _ =>
    cond (!(!decide (qy = qy)))
      (some true)
      (some (Op.bytesLess qx qy)))
    (some (Op.bytesLess qx qy))

noncomputable def z145 (qx : List UInt8) (qy : List UInt8) : Option (Bool) :=
  (z148 qx qy).bind fun vx1 =>
  some vx1

/-! ### slices.insertionSortOrdered[string] -/
noncomputable def z798 (qa : Int) (vl3 : List (List UInt8)) (vj1 : Int) : Option (Bool) :=
  cond (decide (qa < vj1))
    ((at? vl3 vj1).bind fun vy15 =>
    (at? vl3 (IntKind.wrap .i64 (vj1 - 1))).bind fun vy16 =>
    (z145 vy15 vy16).bind fun vr3 =>
    some vr3)
    (some false)

noncomputable def z793 (qa : Int) : (List (List UInt8)) × Int → Option (((List (List UInt8)) × Int) ⊕ ((List (List UInt8))))
  | (vl3, vj1) =>
  (z798 qa vl3 vj1).bind fun vx4_1 =>
  cond (vx4_1)
    ((at? vl3 (IntKind.wrap .i64 (vj1 - 1))).bind fun vy17 =>
    (at? vl3 vj1).bind fun vy18 =>
    (at? (vl3.set vj1.toNat vy17) (IntKind.wrap .i64 (vj1 - 1))).bind fun vy19 =>
    some (.inl ((vl3.set vj1.toNat vy17).set (IntKind.wrap .i64 (vj1 - 1)).toNat vy18, IntKind.wrap .i64 (vj1 - 1))))
    (some (.inr vl3))

noncomputable def z788 (qa : Int) (qb : Int) : (List (List UInt8)) × Int → Option (((List (List UInt8)) × Int) ⊕ ((List (List UInt8))))
  | (vl, vi) =>
  cond (decide (vi < qb))
    ((loopO (z793 qa) (vl, vi)).bind fun vl4_1 =>
    some (.inl (vl4_1, IntKind.wrap .i64 (vi + 1))))
    (some (.inr vl))

noncomputable def z785 (qdata : List (List UInt8)) (qa : Int) (qb : Int) : Option ((List (List UInt8))) :=
  (loopO (z788 qa qb) (qdata, IntKind.wrap .i64 (qa + 1))).bind fun vl5_1 =>
  some vl5_1

/-! ### slices.pdqsortOrdered[string] -/
noncomputable def z814 (qx : List (List UInt8)) (qx1 : Int) (qx2 : Int) (qx3 : Int) : Unit → Option ((Unit) ⊕ ((List (List UInt8))))
  | _ =>
  cond (decide ((IntKind.wrap .i64 (qx2 - qx1)) ≤ 12))
    ((z785 qx qx1 qx2).bind fun vl6_1 =>
    gd (vl6_1.length == qx.length) <|
    some (.inr vl6_1))
    (cond (decide (qx3 = 0))
      (none)
      (none))

noncomputable def z811 (qx : List (List UInt8)) (qx1 : Int) (qx2 : Int) (qx3 : Int) : Option ((List (List UInt8))) :=
  (loopO (z814 qx qx1 qx2 qx3) ()).bind fun vl1 =>
  some vl1

/-! ### slices.Sort[[]string,string] -/
noncomputable def z764 (qx : List (List UInt8)) : Option ((List (List UInt8))) :=
  (bits_Len (IntKind.wrap .u64 ((qx.length : Int)))).bind fun vr1 =>
  (z811 qx 0 (qx.length : Int) vr1).bind fun vl2 =>
  gd (vl2.length == qx.length) <|
  some vl2

/-! ### slices.Compact[[]string,string] -/
noncomputable def z696 (qs : List (List UInt8)) (vk : Int) (vl4 : List (List UInt8)) (vk6 : Int) (vk2_1 : Int) : Option (((List (List UInt8)) × Int)) :=
  gd (decide (0 ≤ vk) && decide (0 ≤ vk2_1) && decide (vk2_1 < (qs.length : Int) - vk)) <|
  (at? vl4 (vk + vk2_1)).bind fun vy13 =>
  gd (decide (0 ≤ vk) && decide (0 ≤ (IntKind.wrap .i64 (vk2_1 - 1))) && decide ((IntKind.wrap .i64 (vk2_1 - 1)) < (qs.length : Int) - vk)) <|
  (at? vl4 (vk + (IntKind.wrap .i64 (vk2_1 - 1)))).bind fun vy14 =>
  cond (!decide (vy13 = vy14))
    ((at? vl4 vk6).bind fun vy15 =>
    some (vl4.set vk6.toNat vy13, IntKind.wrap .i64 (vk6 + 1)))
    (some (vl4, vk6))

noncomputable def z691 (qs : List (List UInt8)) (vk : Int) : (List (List UInt8)) × Int × Int → Option (((List (List UInt8)) × Int × Int) ⊕ (((List (List UInt8)) × Int)))
  | (vl4, vk6, vk2_1) =>
  cond (decide (vk2_1 < (((qs.length : Int).toNat - vk.toNat : Nat) : Int)))
    ((z696 qs vk vl4 vk6 vk2_1).bind fun (vl6_1, vk8_1) =>
    some (.inl (vl6_1, vk8_1, IntKind.wrap .i64 (vk2_1 + 1))))
    (some (.inr (vl4, vk6)))

noncomputable def z686 (qs : List (List UInt8)) (vk : Int) : Option ((Int) ⊕ (Unit ⊕ (List (List UInt8)))) :=
  cond (decide (vk < (qs.length : Int)))
    ((at? qs vk).bind fun vy8 =>
    (at? qs (IntKind.wrap .i64 (vk - 1))).bind fun vy9 =>
    cond (decide (vy8 = vy9))
      (gd (decide (0 ≤ vk) && decide (vk ≤ (qs.length : Int)) && decide ((qs.length : Int) ≤ (qs.length : Int))) <|
      (loopO (z691 qs vk) (qs, vk, 1)).bind fun (vl7_1, vk9_1) =>
      gd (decide (0 ≤ vk9_1) && decide (vk9_1 ≤ (vl7_1.length : Int)) && decide ((vl7_1.length : Int) ≤ (vl7_1.length : Int))) <|
      gd (decide (0 ≤ vk9_1) && decide (vk9_1 ≤ ((vl7_1.take vk9_1.toNat ++ (List.replicate ((vl7_1.length : Int).toNat - vk9_1.toNat) ([] : List UInt8) ++ vl7_1.drop (vk9_1.toNat + ((vl7_1.length : Int).toNat - vk9_1.toNat)))).length : Int))) <|
      some (.inr (.inr ((vl7_1.take vk9_1.toNat ++ (List.replicate ((vl7_1.length : Int).toNat - vk9_1.toNat) ([] : List UInt8) ++ vl7_1.drop (vk9_1.toNat + ((vl7_1.length : Int).toNat - vk9_1.toNat)))).take vk9_1.toNat))))
      (some (.inl (IntKind.wrap .i64 (vk + 1)))))
    (some (.inr (.inl ())))

noncomputable def z683 (qs : List (List UInt8)) : Option ((List (List UInt8))) :=
  cond (decide ((qs.length : Int) < 2))
    (some qs)
    ((loopO (z686 qs) 1).bind fun x => match x with
      | .inl _ =>
        some qs
      | .inr vx1 =>
        some vx1)

/-! ### beaconfleet/twin.names -/
noncomputable def z1229 (vy3 : List api_Prop) : (List (List UInt8)) × Int → Option (((List (List UInt8)) × Int) ⊕ ((List (List UInt8))))
  | (vout3, vx2) =>
  cond (decide (vx2 < (vy3.length : Int)))
    ((at? vy3 vx2).bind fun vy5 =>
    gd (Nat.ble (vout3.length + ([vy5.Name] : List (List UInt8)).length) LIM) <|
    some (.inl (vout3 ++ ([vy5.Name] : List (List UInt8)), IntKind.wrap .i64 (vx2 + 1))))
    (some (.inr vout3))

noncomputable def z1224 (qlists : List (List api_Prop)) : (List (List UInt8)) × Int → Option (((List (List UInt8)) × Int) ⊕ ((List (List UInt8))))
  | (vout, vx) =>
  cond (decide (vx < (qlists.length : Int)))
    ((at? qlists vx).bind fun vy3 =>
    (loopO (z1229 vy3) (vout, 0)).bind fun vout4_1 =>
    some (.inl (vout4_1, IntKind.wrap .i64 (vx + 1))))
    (some (.inr vout))

noncomputable def z1221 (qlists : List (List api_Prop)) : Option ((List (List UInt8))) :=
  (loopO (z1224 qlists) ([], 0)).bind fun vout5_1 =>
  (z764 vout5_1).bind fun vl =>
  gd (vl.length == vout5_1.length) <|
  (z683 vl).bind fun vr =>
  some vr

/-! ### slices.BinarySearchFunc[[]beaconfleet/api.Prop,beaconfleet/api.Prop,string] -/
noncomputable def z675 : Unit → Option ((Unit) ⊕ (Unit))
  | _ =>
  cond (decide ((0 : Int) < 0))
    (none)
    (some (.inr ()))

noncomputable def z672 (qtarget : List UInt8) : Option (Unit) :=
  (loopO z675 ()).bind fun _ =>
  cond (decide ((0 : Int) < 0))
    (none)
    (some ())

/-! ### beaconfleet/twin.find -/
noncomputable def z1214 (qname : List UInt8) : Option (Unit) :=
  (z672 qname).bind fun _ =>
  some ()

/-! ### beaconfleet/twin.valueOf -/
noncomputable def z1244 (qname : List UInt8) : Option (Unit) :=
  (z1214 qname).bind fun _ =>
  cond (decide (0 ≤ ((-1) : Int)))
    (none)
    (some ())

/-! ### beaconfleet/twin.valueOf -/
noncomputable def z1242 (ql : List api_Prop) (qname : List UInt8) : Option (api_Value) :=
  (twin_find ql qname).bind fun vr2 =>
  cond (decide (0 ≤ vr2))
    ((at? ql vr2).bind fun vy =>
    some (api_Value.mk vy.Value.Kind vy.Value.Flag vy.Value.Number vy.Value.Words))
    (some (api_Value.mk 0 false 0 ([] : List UInt8)))

/-! ### beaconfleet/twin.Differ -/
noncomputable def z1192 (qb : List api_Prop) (vr1_1 : List (List UInt8)) (vout : List api_Change) (vx : Int) : Option ((List api_Change)) :=
  (at? vr1_1 vx).bind fun vy1 =>
  (z1244 vy1).bind fun _ =>
  (z1242 qb vy1).bind fun vr4 =>
  cond (!(decide ((0 : Int) = vr4.Kind) && ((false == vr4.Flag) && (decide ((0 : Int) = vr4.Number) && (decide (([] : List UInt8) = vr4.Words) && true)))))
    (gd (Nat.ble (vout.length + ([api_Change.mk vy1 (api_Value.mk 0 false 0 ([] : List UInt8)) vr4] : List api_Change).length) LIM) <|
    some (vout ++ ([api_Change.mk vy1 (api_Value.mk 0 false 0 ([] : List UInt8)) vr4] : List api_Change)))
    (some vout)

noncomputable def z1187 (qb : List api_Prop) (vr1_1 : List (List UInt8)) : (List api_Change) × Int → Option (((List api_Change) × Int) ⊕ ((List api_Change)))
  | (vout, vx) =>
  cond (decide (vx < (vr1_1.length : Int)))
    ((z1192 qb vr1_1 vout vx).bind fun vout2_1 =>
    some (.inl (vout2_1, IntKind.wrap .i64 (vx + 1))))
    (some (.inr vout))

noncomputable def z1184 (qb : List api_Prop) : Option ((List api_Change) × Int) :=
  (z1155).bind fun vr =>
  (z1150 qb).bind fun vr3 =>
  (z16 ([vr, vr3] : List Int)).bind fun vr1 =>
  cond (!decide (vr1 = 0))
    (some ([], vr1))
    ((z1221 ([[], qb] : List (List api_Prop))).bind fun vr1_1 =>
    (loopO (z1187 qb vr1_1) ([], 0)).bind fun vout3_1 =>
    some (vout3_1, 0))

/-! ### beaconfleet/command.CheckLetter -/
noncomputable def z170 (ql : api_Letter) : Option (Bool) :=
  (base_Key ql.Id).bind fun vr =>
  cond (!vr)
    (some true)
    (cond (!decide (ql.Slot = ([] : List UInt8)))
      ((base_Key ql.Slot).bind fun vr1 =>
      some (!vr1))
      (some false))

noncomputable def z177 (ql : api_Letter) : Option (Bool) :=
  (base_Out ql.Prio 0 9).bind fun vr2 =>
  cond (vr2)
    (some true)
    ((z44 ql.At).bind fun vr1_2 =>
    cond (!vr1_2)
      (some true)
      (cond (decide (ql.Until ≤ ql.At))
        (some true)
        (some (decide (345686400000 < ql.Until)))))

noncomputable def z167 (ql : api_Letter) : Option (Int) :=
  (z170 ql).bind fun vx1 =>
  cond (vx1)
    (some 5)
    (cond (decide (1000 < (ql.Body.length : Int)))
      (some 2)
      ((z83 ql.Body).bind fun vr1_1 =>
      cond (!vr1_1)
        (some 3)
        ((z177 ql).bind fun vx2_1 =>
        cond (vx2_1)
          (some 1)
          (some 0))))

/-! ### beaconfleet/command.Order$1 -/
noncomputable def z182 (qy : api_Letter) (qx : api_Letter) : Option (Unit) :=
  some ()

/-! ### slices.IndexFunc[[]beaconfleet/api.Letter,beaconfleet/api.Letter] -/
noncomputable def z724 (qs : List api_Letter) (qf : api_Letter) (vx : Int) : Option ((Int) ⊕ (Unit ⊕ Int)) :=
  cond (decide (vx < (qs.length : Int)))
    ((at? qs vx).bind fun vy1 =>
    (z182 vy1 qf).bind fun _ =>
    cond (decide (vy1.Id = qf.Id))
      (some (.inr (.inr vx)))
      (some (.inl (IntKind.wrap .i64 (vx + 1)))))
    (some (.inr (.inl ())))

noncomputable def z721 (qs : List api_Letter) (qf : api_Letter) : Option (Int) :=
  (loopO (z724 qs qf) 0).bind fun x => match x with
    | .inl _ =>
      some (-1)
    | .inr vx1_1 =>
      some vx1_1

/-! ### slices.ContainsFunc[[]beaconfleet/api.Letter,beaconfleet/api.Letter] -/
noncomputable def z701 (qs : List api_Letter) (qf : api_Letter) : Option (Bool) :=
  (z721 qs qf).bind fun vr =>
  some (decide (0 ≤ vr))

/-! ### slices.Clone[[]beaconfleet/api.Letter,beaconfleet/api.Letter] -/
noncomputable def z680 (qs : List api_Letter) : Option (List api_Letter) :=
  gd (Nat.ble (([] : List api_Letter).length + qs.length) LIM) (some qs)

/-! ### beaconfleet/command.byOrder -/
noncomputable def z193 (qa : api_Letter) (qb : api_Letter) : Option (Int) :=
  (z142 qb.Prio qa.Prio).bind fun vr =>
  (z142 qa.At qb.At).bind fun vr1 =>
  (z1002 qa.Id qb.Id).bind fun _ =>
  (z153 ([vr, vr1, Lib.compareBytes qa.Id qb.Id] : List Int)).bind fun vr2 =>
  some vr2

/-! ### slices.insertionSortCmpFunc[beaconfleet/api.Letter] -/
noncomputable def z780 (qa : Int) (vl3 : List api_Letter) (vj1 : Int) : Option (Bool) :=
  cond (decide (qa < vj1))
    ((at? vl3 vj1).bind fun vy15 =>
    (at? vl3 (IntKind.wrap .i64 (vj1 - 1))).bind fun vy16 =>
    (z193 vy15 vy16).bind fun vr3_3 =>
    some (decide (vr3_3 < 0)))
    (some false)

noncomputable def z775 (qa : Int) : (List api_Letter) × Int → Option (((List api_Letter) × Int) ⊕ ((List api_Letter)))
  | (vl3, vj1) =>
  (z780 qa vl3 vj1).bind fun vx4_1 =>
  cond (vx4_1)
    ((at? vl3 (IntKind.wrap .i64 (vj1 - 1))).bind fun vy17 =>
    (at? vl3 vj1).bind fun vy18 =>
    (at? (vl3.set vj1.toNat vy17) (IntKind.wrap .i64 (vj1 - 1))).bind fun vy19 =>
    some (.inl ((vl3.set vj1.toNat vy17).set (IntKind.wrap .i64 (vj1 - 1)).toNat vy18, IntKind.wrap .i64 (vj1 - 1))))
    (some (.inr vl3))

noncomputable def z770 (qa : Int) (qb : Int) : (List api_Letter) × Int → Option (((List api_Letter) × Int) ⊕ ((List api_Letter)))
  | (vl, vi) =>
  cond (decide (vi < qb))
    ((loopO (z775 qa) (vl, vi)).bind fun vl4_1 =>
    some (.inl (vl4_1, IntKind.wrap .i64 (vi + 1))))
    (some (.inr vl))

noncomputable def z767 (qdata : List api_Letter) (qa : Int) (qb : Int) : Option ((List api_Letter)) :=
  (loopO (z770 qa qb) (qdata, IntKind.wrap .i64 (qa + 1))).bind fun vl5_1 =>
  some vl5_1

/-! ### slices.pdqsortCmpFunc[beaconfleet/api.Letter] -/
noncomputable def z806 (qx : List api_Letter) (qx1 : Int) (qx2 : Int) (qx3 : Int) : Unit → Option ((Unit) ⊕ ((List api_Letter)))
  | _ =>
  cond (decide ((IntKind.wrap .i64 (qx2 - qx1)) ≤ 12))
    ((z767 qx qx1 qx2).bind fun vl6_1 =>
    gd (vl6_1.length == qx.length) <|
    some (.inr vl6_1))
    (cond (decide (qx3 = 0))
      (none)
      (none))

noncomputable def z803 (qx : List api_Letter) (qx1 : Int) (qx2 : Int) (qx3 : Int) : Option ((List api_Letter)) :=
  (loopO (z806 qx qx1 qx2 qx3) ()).bind fun vl1 =>
  some vl1

/-! ### slices.SortFunc[[]beaconfleet/api.Letter,beaconfleet/api.Letter] -/
noncomputable def z761 (qx : List api_Letter) : Option ((List api_Letter)) :=
  (bits_Len (IntKind.wrap .u64 ((qx.length : Int)))).bind fun vr1 =>
  (z803 qx 0 (qx.length : Int) vr1).bind fun vl2 =>
  gd (vl2.length == qx.length) <|
  some vl2

/-! ### beaconfleet/command.Order -/
noncomputable def z188 (ql : List api_Letter) (vx : Int) : Option ((Int) ⊕ (Unit ⊕ Int)) :=
  cond (decide (vx < (ql.length : Int)))
    ((at? ql vx).bind fun vy1 =>
    (z167 vy1).bind fun vr3_1 =>
    cond (!decide (vr3_1 = 0))
      (some (.inr (.inr vr3_1)))
      ((sub? ql 0 vx).bind fun vl1 =>
      (z701 vl1 vy1).bind fun vr1_1 =>
      cond (vr1_1)
        (some (.inr (.inr 6)))
        (some (.inl (IntKind.wrap .i64 (vx + 1))))))
    (some (.inr (.inl ())))

noncomputable def z185 (ql : List api_Letter) : Option ((List api_Letter) × Int) :=
  cond (decide (500 < (ql.length : Int)))
    (some ([], 2))
    ((loopO (z188 ql) 0).bind fun x => match x with
      | .inl _ =>
        (z680 ql).bind fun vr =>
        (z761 vr).bind fun vl2 =>
        gd (vl2.length == vr.length) <|
        some (vl2, 0)
      | .inr vx1_1 =>
        some ([], vx1_1))

/-! ### beaconfleet/fleetkeep2.ready -/
noncomputable def z230 (vr5 : List api_Change) (vr6 : Int) (vr : List Int) (vr2 : Int) (vr2_1 : api_Version) (vr4 : Int) (vr1 : List UInt8) (vr3 : Int) (vr2_2 : List api_Letter) (vr4_1 : Int) : Option (Bool) :=
  (z219 ([vr6, vr2, vr4, vr3, vr4_1] : List Int)).bind fun vr7 =>
  cond (decide (vr7 = 0))
    (cond (decide ((vr5.length : Int) = 1))
      ((z713 vr ([1, 2, 2] : List Int)).bind fun vr8 =>
      cond (vr8)
        (cond (decide (vr2_1.Patch = 3))
          (cond (decide (vr1 = ([51] : List UInt8)))
            (some (decide ((vr2_2.length : Int) = 1)))
            (some false))
          (some false))
        (some false))
      (some false))
    (some false)

noncomputable def z227 : Option (Bool) :=
  (z1184 ([api_Prop.mk ([97] : List UInt8) (api_Value.mk 1 false 0 ([] : List UInt8))] : List api_Prop)).bind fun (vr5, vr6) =>
  (z621 ([api_Sample.mk ([100] : List UInt8) ([109] : List UInt8) 1 1] : List api_Sample)).bind fun (vr, vr2) =>
  (z132 ([49, 46, 50, 46, 51] : List UInt8)).bind fun (vr2_1, vr4) =>
  (z372 (api_Spot.mk 0 0) 1).bind fun (vr1, vr3) =>
  (z185 ([api_Letter.mk ([97] : List UInt8) ([] : List UInt8) ([] : List UInt8) 0 0 5] : List api_Letter)).bind fun (vr2_2, vr4_1) =>
  (z230 vr5 vr6 vr vr2 vr2_1 vr4 vr1 vr3 vr2_2 vr4_1).bind fun vx1 =>
  some vx1

/-! ### slices.IsSorted[[]string,string] -/
noncomputable def z756 (qx : List (List UInt8)) (vi : Int) : Option ((Int) ⊕ (Unit ⊕ Unit)) :=
  cond (decide (0 < vi))
    ((at? qx vi).bind fun vy2 =>
    (at? qx (IntKind.wrap .i64 (vi - 1))).bind fun vy3 =>
    (z145 vy2 vy3).bind fun vr1 =>
    cond (vr1)
      (some (.inr (.inr ())))
      (some (.inl (IntKind.wrap .i64 (vi - 1)))))
    (some (.inr (.inl ())))

noncomputable def z753 (qx : List (List UInt8)) : Option (Bool) :=
  (loopO (z756 qx) (IntKind.wrap .i64 ((qx.length : Int) - 1))).bind fun x => match x with
    | .inl _ =>
      some true
    | .inr _ =>
      some false

/-! ### beaconfleet/fleetkeep2.CellsNest -/
noncomputable def z197 (vr : Int) (vr1 : Int) (vr2 : Int) (vr1_1 : List UInt8) (vr3 : Int) (vr1_2 : List UInt8) (vr3_1 : Int) (vr2_1 : api_Spot) (vr3_2 : Int) (vr4 : Int) : Option (Bool) :=
  (z219 ([vr3, vr3_1, vr4] : List Int)).bind fun vr5 =>
  cond (!decide (vr5 = 0))
    (some true)
    (cond (!decide ((vr1_1.length : Int) = vr2))
      (some true)
      ((sub? vr1_1 0 (IntKind.wrap .i64 (vr2 - 1))).bind fun vs3 =>
      cond (!decide (vs3 = vr1_2))
        (some true)
        (cond (decide (vr < vr2_1.X))
          (some true)
          (cond (decide ((IntKind.wrap .i64 (vr2_1.X + vr3_2)) ≤ vr))
            (some true)
            (cond (decide (vr1 < vr2_1.Y))
              (some true)
              (some (decide ((IntKind.wrap .i64 (vr2_1.Y + vr3_2)) ≤ vr1))))))))

noncomputable def z202 (vr3_3 : Int) (vr3_4 : Int) (vr2_4 : Int) : Option (Bool) :=
  cond (!decide (vr3_3 = 0))
    (some true)
    (cond (!decide (vr3_4 = 0))
      (some true)
      (some (!decide (vr2_4 = 0))))

noncomputable def z207 (vr3_3 : Int) (vr3_4 : Int) (vr2_4 : Int) : Option (Bool) :=
  cond (decide (vr2_4 = 2))
    (cond (decide (vr3_3 = 0))
      (cond (decide (vr3_4 = 0))
        ((z227).bind fun vr9_1 =>
        some vr9_1)
        (some false))
      (some false))
    (some false)

noncomputable def z214 (vr2_3 : Int) (vr1_3 : List UInt8) (vr1_4 : List (List UInt8)) : Option (Bool) :=
  (z753 vr1_4).bind fun vr2_5 =>
  cond (vr2_5)
    (cond (decide (vr2_3 = 0))
      ((z227).bind fun vr9_2 =>
      some vr9_2)
      ((z710 vr1_4 vr1_3).bind fun vr1_5 =>
      cond (vr1_5)
        ((z227).bind fun vr9_3 =>
        some vr9_3)
        (some false)))
    (some false)

noncomputable def fleetkeep2_CellsNest (qx : List Int) : Option (Bool) :=
  (z258 (z245.mk qx 0) (-10000) 10000).bind fun (vs, vr) =>
  (z258 vs (-10000) 10000).bind fun (vs1, vr1) =>
  (z258 vs1 1 15).bind fun (vs2, vr2) =>
  (z372 (api_Spot.mk vr vr1) vr2).bind fun (vr1_1, vr3) =>
  (z372 (api_Spot.mk vr vr1) (IntKind.wrap .i64 (vr2 - 1))).bind fun (vr1_2, vr3_1) =>
  (z373 vr1_1).bind fun (vr2_1, vr3_2, vr4) =>
  (z197 vr vr1 vr2 vr1_1 vr3 vr1_2 vr3_1 vr2_1 vr3_2 vr4).bind fun vx1 =>
  cond (vx1)
    (some false)
    ((z261 vs2).bind fun (vs15, vr9) =>
    (z255 vs15).bind fun vr2_2 =>
    (z404 (api_Fence.mk ([102] : List UInt8) vr9) vr2_2).bind fun (vr2_3, vr3_3) =>
    (z372 vr2_2 11).bind fun (vr1_3, vr3_4) =>
    (z393 (api_Fence.mk ([102] : List UInt8) vr9) 11).bind fun (vr1_4, vr2_4) =>
    (z202 vr3_3 vr3_4 vr2_4).bind fun vx2_1 =>
    cond (vx2_1)
      ((z207 vr3_3 vr3_4 vr2_4).bind fun vx3_1 =>
      some vx3_1)
      ((z214 vr2_3 vr1_3 vr1_4).bind fun vx4_1 =>
      some vx4_1))

end Go.Eng
