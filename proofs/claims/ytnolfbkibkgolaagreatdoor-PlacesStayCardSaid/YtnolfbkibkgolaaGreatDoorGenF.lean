/-
The Go functions that the law PlacesStay reaches, as plain functions.
-/
import Derived.Test.YtnolfbkibkgolaaGreatDoorEngV

namespace Go.Eng

open Go

set_option linter.unusedVariables false

structure z234 where
  L : List Int
  at_ : Int

def z234.enc (x : z234) : List D := [.lst (List.map (encI .i64) x.L), .int .i64 x.at_]

structure api_Spot where
  X : Int
  Y : Int

def api_Spot.enc (x : api_Spot) : List D := [.int .i64 x.X, .int .i64 x.Y]

structure api_Fix where
  Device : List UInt8
  At : Int
  X : Int
  Y : Int
  Error : Int

def api_Fix.enc (x : api_Fix) : List D := [.str x.Device, .int .i64 x.At, .int .i64 x.X, .int .i64 x.Y, .int .i64 x.Error]

structure api_Fraction where
  Num : Int
  Den : Int

def api_Fraction.enc (x : api_Fraction) : List D := [.int .i64 x.Num, .int .i64 x.Den]

structure api_Fence where
  Key : List UInt8
  Corners : List api_Spot

def api_Fence.enc (x : api_Fence) : List D := [.str x.Key, .lst (List.map api_Spot.enc x.Corners)]

structure api_Stay where
  From : Int
  To : Int
  Spot : api_Spot

def api_Stay.enc (x : api_Stay) : List D := [.int .i64 x.From, .int .i64 x.To, .int .i64 x.Spot.X, .int .i64 x.Spot.Y]

structure api_Value where
  Kind : Int
  Flag : Bool
  Number : Int
  Words : List UInt8

def api_Value.enc (x : api_Value) : List D := [.int .i64 x.Kind, .bool x.Flag, .int .i64 x.Number, .str x.Words]

structure api_Prop where
  Name : List UInt8
  Value : api_Value

def api_Prop.enc (x : api_Prop) : List D := [.str x.Name, .int .i64 x.Value.Kind, .bool x.Value.Flag, .int .i64 x.Value.Number, .str x.Value.Words]

structure api_Change where
  Name : List UInt8
  From : api_Value
  To : api_Value

def api_Change.enc (x : api_Change) : List D := [.str x.Name, .int .i64 x.From.Kind, .bool x.From.Flag, .int .i64 x.From.Number, .str x.From.Words, .int .i64 x.To.Kind, .bool x.To.Flag, .int .i64 x.To.Number, .str x.To.Words]

structure api_Sample where
  Device : List UInt8
  Metric : List UInt8
  At : Int
  Value : Int

def api_Sample.enc (x : api_Sample) : List D := [.str x.Device, .str x.Metric, .int .i64 x.At, .int .i64 x.Value]

structure api_Version where
  Major : Int
  Minor : Int
  Patch : Int

def api_Version.enc (x : api_Version) : List D := [.int .i64 x.Major, .int .i64 x.Minor, .int .i64 x.Patch]

structure api_Letter where
  Id : List UInt8
  Slot : List UInt8
  Body : List UInt8
  Prio : Int
  At : Int
  Until : Int

def api_Letter.enc (x : api_Letter) : List D := [.str x.Id, .str x.Slot, .str x.Body, .int .i64 x.Prio, .int .i64 x.At, .int .i64 x.Until]

/-! ### beaconfleet/fleetmake.Below -/
noncomputable def z230 (qx : Int) (qn : Int) : Option (Int) :=
  cond (decide ((qx.tmod qn) < 0))
    (some (IntKind.wrap .i64 ((qx.tmod qn) + qn)))
    (some (qx.tmod qn))

noncomputable def z227 (qx : Int) (qn : Int) : Option (Int) :=
  cond (decide (qn < 1))
    (some 0)
    (gd (!(qn == 0)) <|
    (z230 qx qn).bind fun vx1 =>
    some vx1)

/-! ### (*beaconfleet/fleetmake.Stream).Next -/
noncomputable def z238 (qs : z234) (qn : Int) : Option (Int) :=
  cond (decide ((qs.L.length : Int) = 0))
    ((z227 (IntKind.wrap .i64 ((IntKind.wrap .i64 (qs.at_ + 1)) * 7919)) qn).bind fun vr =>
    some vr)
    (gd (!((qs.L.length : Int) == 0)) <|
    (at? qs.L ((IntKind.wrap .i64 ((IntKind.wrap .i64 (qs.at_ + 1)) - 1)).tmod (qs.L.length : Int))).bind fun vy =>
    (z227 vy 1073741824).bind fun vr1 =>
    (z227 (IntKind.wrap .i64 (vr1 + (IntKind.wrap .i64 ((IntKind.wrap .i64 ((IntKind.wrap .i64 ((IntKind.wrap .i64 (qs.at_ + 1)) - 1)).tdiv (qs.L.length : Int))) * (IntKind.wrap .i64 ((7919 : Int) + ((IntKind.wrap .i64 ((IntKind.wrap .i64 (qs.at_ + 1)) - 1)).tmod (qs.L.length : Int)))))))) qn).bind fun vr2 =>
    some vr2)

/-! ### (*beaconfleet/fleetmake.Stream).Range -/
noncomputable def z247 (qs : z234) (qlow : Int) (qhigh : Int) : Option (z234 × Int) :=
  cond (decide (qhigh < qlow))
    (some (qs, qlow))
    ((z238 qs (IntKind.wrap .i64 ((IntKind.wrap .i64 (qhigh - qlow)) + 1))).bind fun vr3 =>
    some (z234.mk qs.L (IntKind.wrap .i64 (qs.at_ + 1)), IntKind.wrap .i64 (qlow + vr3)))

/-! ### (*beaconfleet/fleetmake.Stream).Pick -/
noncomputable def z241 (qs : z234) (ql : List Int) : Option (Int) :=
  (z238 qs (ql.length : Int)).bind fun vr3 =>
  (at? ql vr3).bind fun vy =>
  some vy

/-! ### (*beaconfleet/fleetmake.Stream).Place -/
noncomputable def z244 (qs : z234) : Option (api_Spot) :=
  (z241 qs ([0, 1, 2, 3, 4, 5, 6, 8, 10, (-1), (-5), 20] : List Int)).bind fun vr =>
  (z241 (z234.mk qs.L (IntKind.wrap .i64 (qs.at_ + 1))) ([0, 1, 2, 3, 4, 5, 6, 8, 10, (-1), (-5), 20] : List Int)).bind fun vr1 =>
  some (api_Spot.mk vr vr1)

/-! ### (*beaconfleet/fleetmake.Stream).Flip -/
noncomputable def z235 (qs : z234) (qn : Int) : Option (Bool) :=
  (z238 qs qn).bind fun vr3 =>
  some (decide (vr3 = 0))

/-! ### beaconfleet/fleetref2.in -/
noncomputable def z338 (qn : Int) (qlow : Int) (qhigh : Int) : Option (Bool) :=
  cond (decide (qlow ≤ qn))
    (some (decide (qn ≤ qhigh)))
    (some false)

noncomputable def z335 (qn : Int) (qlow : Int) (qhigh : Int) : Option (Bool) :=
  (z338 qn qlow qhigh).bind fun vx1 =>
  some vx1

/-! ### beaconfleet/fleetref2.SpotFault -/
noncomputable def z322 (qs : api_Spot) : Option (Bool) :=
  (z335 qs.X (-10000) 10000).bind fun vr =>
  cond (!vr)
    (some true)
    ((z335 qs.Y (-10000) 10000).bind fun vr1 =>
    some (!vr1))

noncomputable def z319 (qs : api_Spot) : Option (Int) :=
  (z322 qs).bind fun vx1 =>
  cond (vx1)
    (some 1)
    (some 0)

/-! ### slices.Index[[]beaconfleet/api.Spot,beaconfleet/api.Spot] -/
noncomputable def z908 (qs : List api_Spot) (qv : api_Spot) (vx : Int) : Option ((Int) ⊕ (Unit ⊕ Int)) :=
  cond (decide (vx < (qs.length : Int)))
    ((at? qs vx).bind fun vy1 =>
    cond ((decide (qv.X = vy1.X) && (decide (qv.Y = vy1.Y) && true)))
      (some (.inr (.inr vx)))
      (some (.inl (IntKind.wrap .i64 (vx + 1)))))
    (some (.inr (.inl ())))

noncomputable def z905 (qs : List api_Spot) (qv : api_Spot) : Option (Int) :=
  (loopO (z908 qs qv) 0).bind fun x => match x with
    | .inl _ =>
      some (-1)
    | .inr vx1_1 =>
      some vx1_1

/-! ### slices.Contains[[]beaconfleet/api.Spot,beaconfleet/api.Spot] -/
noncomputable def z832 (qs : List api_Spot) (qv : api_Spot) : Option (Bool) :=
  (z905 qs qv).bind fun vr =>
  some (decide (0 ≤ vr))

/-! ### beaconfleet/fleetref2.edge -/
noncomputable def z332 (ql : List api_Spot) (qi : Int) : Option (api_Spot × api_Spot) :=
  (at? ql qi).bind fun vy =>
  gd (!((ql.length : Int) == 0)) <|
  (at? ql ((IntKind.wrap .i64 (qi + 1)).tmod (ql.length : Int))).bind fun vy1 =>
  some (vy, vy1)

/-! ### beaconfleet/fleetref2.minus -/
noncomputable def z342 (qa : api_Spot) (qb : api_Spot) : Option (Unit) :=
  some ()

/-! ### beaconfleet/fleetref2.cross -/
noncomputable def z326 (qa : api_Spot) (qb : api_Spot) : Option (Unit) :=
  some ()

/-! ### beaconfleet/fleetref2.sign -/
noncomputable def z355 (qn : Int) : Option (Int) :=
  cond (decide (qn < 0))
    (some (-1))
    (cond (decide (0 < qn))
      (some 1)
      (some 0))

/-! ### beaconfleet/fleetref2.side -/
noncomputable def z352 (qa : api_Spot) (qb : api_Spot) (qs : api_Spot) : Option (Int) :=
  (z342 qb qa).bind fun _ =>
  (z342 qs qa).bind fun _ =>
  (z326 (api_Spot.mk (IntKind.wrap .i64 (qb.X - qa.X)) (IntKind.wrap .i64 (qb.Y - qa.Y))) (api_Spot.mk (IntKind.wrap .i64 (qs.X - qa.X)) (IntKind.wrap .i64 (qs.Y - qa.Y)))).bind fun _ =>
  (z355 (IntKind.wrap .i64 ((IntKind.wrap .i64 ((IntKind.wrap .i64 (qb.X - qa.X)) * (IntKind.wrap .i64 (qs.Y - qa.Y)))) - (IntKind.wrap .i64 ((IntKind.wrap .i64 (qb.Y - qa.Y)) * (IntKind.wrap .i64 (qs.X - qa.X))))))).bind fun vr =>
  some vr

/-! ### beaconfleet/fleetref2.dot -/
noncomputable def z329 (qa : api_Spot) (qb : api_Spot) : Option (Unit) :=
  some ()

/-! ### beaconfleet/fleetref2.onWay -/
noncomputable def z348 (qa : api_Spot) (qb : api_Spot) (qs : api_Spot) : Option (Bool) :=
  (z352 qa qb qs).bind fun vr1 =>
  cond (decide (vr1 = 0))
    ((z342 qa qs).bind fun _ =>
    (z342 qb qs).bind fun _ =>
    (z329 (api_Spot.mk (IntKind.wrap .i64 (qa.X - qs.X)) (IntKind.wrap .i64 (qa.Y - qs.Y))) (api_Spot.mk (IntKind.wrap .i64 (qb.X - qs.X)) (IntKind.wrap .i64 (qb.Y - qs.Y)))).bind fun _ =>
    some (decide ((IntKind.wrap .i64 ((IntKind.wrap .i64 ((IntKind.wrap .i64 (qa.X - qs.X)) * (IntKind.wrap .i64 (qb.X - qs.X)))) + (IntKind.wrap .i64 ((IntKind.wrap .i64 (qa.Y - qs.Y)) * (IntKind.wrap .i64 (qb.Y - qs.Y)))))) ≤ 0)))
    (some false)

noncomputable def z345 (qa : api_Spot) (qb : api_Spot) (qs : api_Spot) : Option (Bool) :=
  (z348 qa qb qs).bind fun vx1 =>
  some vx1

/-! ### beaconfleet/fleetref2.touches -/
noncomputable def z361 (qa : api_Spot) (qb : api_Spot) (qc : api_Spot) (qd : api_Spot) : Option (Bool) :=
  (z345 qa qb qc).bind fun vr =>
  cond (vr)
    (some true)
    ((z345 qa qb qd).bind fun vr1 =>
    cond (vr1)
      (some true)
      ((z345 qc qd qa).bind fun vr2 =>
      cond (vr2)
        (some true)
        ((z345 qc qd qb).bind fun vr3 =>
        some vr3)))

noncomputable def z365 (qa : api_Spot) (qb : api_Spot) (qc : api_Spot) (qd : api_Spot) : Option (Bool) :=
  (z352 qa qb qc).bind fun vr1_1 =>
  (z352 qa qb qd).bind fun vr1_2 =>
  cond (decide ((IntKind.wrap .i64 (vr1_1 * vr1_2)) < 0))
    ((z352 qc qd qa).bind fun vr1_3 =>
    (z352 qc qd qb).bind fun vr1_4 =>
    some (decide ((IntKind.wrap .i64 (vr1_3 * vr1_4)) < 0)))
    (some false)

noncomputable def z358 (qa : api_Spot) (qb : api_Spot) (qc : api_Spot) (qd : api_Spot) : Option (Bool) :=
  (z361 qa qb qc qd).bind fun vx1 =>
  cond (vx1)
    (some true)
    ((z365 qa qb qc qd).bind fun vx2_1 =>
    some vx2_1)

/-! ### beaconfleet/fleetref2.CornersFault -/
noncomputable def z295 (qx : List api_Spot) (vx : Int) : Option ((Int) ⊕ (Unit ⊕ Int)) :=
  cond (decide (vx < (qx.length : Int)))
    ((at? qx vx).bind fun vy1 =>
    (z319 vy1).bind fun vr2_1 =>
    cond (!decide (vr2_1 = 0))
      (some (.inr (.inr vr2_1)))
      ((sub? qx 0 vx).bind fun vl1 =>
      (z832 vl1 vy1).bind fun vr1_1 =>
      cond (vr1_1)
        (some (.inr (.inr 6)))
        (some (.inl (IntKind.wrap .i64 (vx + 1))))))
    (some (.inr (.inl ())))

noncomputable def z315 (vr9 : api_Spot) (vr1_5 : api_Spot) (vr13 : api_Spot) (vr1_7 : api_Spot) : Option (Bool) :=
  (z345 vr9 vr1_5 vr1_7).bind fun vr14 =>
  cond (vr14)
    (some true)
    ((z345 vr13 vr1_7 vr9).bind fun vr15 =>
    some vr15)

noncomputable def z310 (qx : List api_Spot) (vx2 : Int) (vr9 : api_Spot) (vr1_5 : api_Spot) (vx6 : Int) : Option (Unit ⊕ Unit) :=
  (z332 qx vx6).bind fun (vr13, vr1_7) =>
  cond (decide (vx6 = vx2))
    (some (.inl ()))
    (cond ((decide (vr1_5.X = vr13.X) && (decide (vr1_5.Y = vr13.Y) && true)))
      ((z315 vr9 vr1_5 vr13 vr1_7).bind fun vx8_1 =>
      cond (vx8_1)
        (some (.inr ()))
        (some (.inl ())))
      (cond ((decide (vr1_7.X = vr9.X) && (decide (vr1_7.Y = vr9.Y) && true)))
        (some (.inl ()))
        ((z358 vr9 vr1_5 vr13 vr1_7).bind fun vr4_4 =>
        cond (vr4_4)
          (some (.inr ()))
          (some (.inl ())))))

noncomputable def z305 (qx : List api_Spot) (vx2 : Int) (vr9 : api_Spot) (vr1_5 : api_Spot) (vx6 : Int) : Option ((Int) ⊕ (Unit ⊕ Unit)) :=
  cond (decide (vx6 < (qx.length : Int)))
    ((z310 qx vx2 vr9 vr1_5 vx6).bind fun x => match x with
      | .inl _ =>
        some (.inl (IntKind.wrap .i64 (vx6 + 1)))
      | .inr _ =>
        some (.inr (.inr ())))
    (some (.inr (.inl ())))

noncomputable def z300 (qx : List api_Spot) (vx2 : Int) : Option ((Int) ⊕ (Unit ⊕ Unit)) :=
  cond (decide (vx2 < (qx.length : Int)))
    ((z332 qx vx2).bind fun (vr9, vr1_5) =>
    (loopO (z305 qx vx2 vr9 vr1_5) 0).bind fun x => match x with
      | .inl _ =>
        some (.inl (IntKind.wrap .i64 (vx2 + 1)))
      | .inr _ =>
        some (.inr (.inr ())))
    (some (.inr (.inl ())))

noncomputable def z292 (qx : List api_Spot) : Option (Int) :=
  cond (decide ((qx.length : Int) < 3))
    (some 3)
    (cond (decide (200 < (qx.length : Int)))
      (some 2)
      ((loopO (z295 qx) 0).bind fun x => match x with
        | .inl _ =>
          (loopO (z300 qx) 0).bind fun x => match x with
            | .inl _ =>
              some 0
            | .inr _ =>
              some 13
        | .inr vx1_1 =>
          some vx1_1))

/-! ### (*beaconfleet/fleetmake.Stream).RightFence -/
noncomputable def z258 (vr5 : Int) : z234 × (List api_Spot) × Int → Option ((z234 × (List api_Spot) × Int) ⊕ ((z234 × (List api_Spot))))
  | (vs8, vx8, vx9) =>
  cond (decide (vx9 < vr5))
    ((z244 vs8).bind fun vr2_3 =>
    gd (Nat.ble (vx8.length + ([vr2_3] : List api_Spot).length) LIM) <|
    some (.inl (z234.mk vs8.L (IntKind.wrap .i64 ((IntKind.wrap .i64 (vs8.at_ + 1)) + 1)), vx8 ++ ([vr2_3] : List api_Spot), IntKind.wrap .i64 (vx9 + 1))))
    (some (.inr (vs8, vx8)))

noncomputable def z267 (vx10_1 : List api_Spot) : z234 × (List api_Spot) × Int → Option ((z234 × (List api_Spot) × Int) ⊕ ((z234 × (List api_Spot))))
  | (vs10, vx11, vx12) =>
  cond (decide (vx12 < (vx10_1.length : Int)))
    ((at? vx11 vx12).bind fun vy3 =>
    (z241 vs10 ([1, 100, (-400)] : List Int)).bind fun vr8 =>
    some (.inl (z234.mk vs10.L (IntKind.wrap .i64 (vs10.at_ + 1)), vx11.set vx12.toNat (api_Spot.mk (IntKind.wrap .i64 (vy3.X * vr8)) vy3.Y), IntKind.wrap .i64 (vx12 + 1))))
    (some (.inr (vs10, vx11)))

noncomputable def z263 (vs9_1 : z234) (vx10_1 : List api_Spot) : Option ((z234 × (List api_Spot))) :=
  (z235 vs9_1 6).bind fun vr6 =>
  cond (vr6)
    ((loopO (z267 vx10_1) (z234.mk vs9_1.L (IntKind.wrap .i64 (vs9_1.at_ + 1)), vx10_1, 0)).bind fun (vs11_1, vx13_1) =>
    some (vs11_1, vx13_1))
    (some (z234.mk vs9_1.L (IntKind.wrap .i64 (vs9_1.at_ + 1)), vx10_1))

noncomputable def z253 : z234 × Int → Option ((z234 × Int) ⊕ (z234 ⊕ (z234 × (List api_Spot))))
  | (vs, vx) =>
  cond (decide (vx < 4))
    ((z247 vs 3 6).bind fun (vs7, vr5) =>
    (loopO (z258 vr5) (vs7, [], 0)).bind fun (vs9_1, vx10_1) =>
    (z263 vs9_1 vx10_1).bind fun (vs12_1, vx14_1) =>
    (z292 vx14_1).bind fun vr16_1 =>
    cond (decide (vr16_1 = 0))
      (some (.inr (.inr (vs12_1, vx14_1))))
      (some (.inl (vs12_1, IntKind.wrap .i64 (vx + 1)))))
    (some (.inr (.inl vs)))

noncomputable def z272 (vs13_1 : z234) : Option ((List api_Spot)) :=
  (z238 vs13_1 4).bind fun vr3_1 =>
  cond (decide (vr3_1 = 0))
    (some ([api_Spot.mk 0 0, api_Spot.mk 10 0, api_Spot.mk 10 10, api_Spot.mk 5 3, api_Spot.mk 0 10] : List api_Spot))
    (cond (decide (vr3_1 = 1))
      (some ([api_Spot.mk 0 10, api_Spot.mk 10 10, api_Spot.mk 10 0, api_Spot.mk 0 0] : List api_Spot))
      (cond (decide (vr3_1 = 2))
        (some ([api_Spot.mk 0 0, api_Spot.mk 8 0, api_Spot.mk 8 2, api_Spot.mk 2 2, api_Spot.mk 2 6, api_Spot.mk 8 6, api_Spot.mk 8 8, api_Spot.mk 0 8] : List api_Spot))
        (some ([api_Spot.mk 0 0, api_Spot.mk 10 0, api_Spot.mk 10 10, api_Spot.mk 0 10] : List api_Spot))))

noncomputable def z250 (qx : z234) : Option (z234 × (List api_Spot)) :=
  (loopO z253 (qx, 0)).bind fun x => match x with
    | .inl vs13_1 =>
      (z272 vs13_1).bind fun vx16_1 =>
      some (z234.mk vs13_1.L (IntKind.wrap .i64 (vs13_1.at_ + 1)), vx16_1)
    | .inr (vs14_1, vx15_1) =>
      some (vs14_1, vx15_1)

/-! ### (*beaconfleet/fleetmake.Stream).RightTrack -/
noncomputable def z284 (vs1 : z234) (vp : api_Spot) : Option ((z234 × api_Spot)) :=
  (z235 (z234.mk vs1.L (IntKind.wrap .i64 (vs1.at_ + 1))) 6).bind fun vr10 =>
  cond (vr10)
    ((z244 (z234.mk vs1.L (IntKind.wrap .i64 ((IntKind.wrap .i64 (vs1.at_ + 1)) + 1)))).bind fun vr2_2 =>
    some (z234.mk vs1.L (IntKind.wrap .i64 ((IntKind.wrap .i64 ((IntKind.wrap .i64 ((IntKind.wrap .i64 (vs1.at_ + 1)) + 1)) + 1)) + 1)), vr2_2))
    ((z247 (z234.mk vs1.L (IntKind.wrap .i64 ((IntKind.wrap .i64 (vs1.at_ + 1)) + 1))) (-2) 2).bind fun (vs6, vr11) =>
    (z247 vs6 (-2) 2).bind fun (vs7, vr12) =>
    some (vs7, api_Spot.mk (IntKind.wrap .i64 (vp.X + vr11)) (IntKind.wrap .i64 (vp.Y + vr12))))

noncomputable def z288 (vat : Int) (vr9 : Int) (vs8_1 : z234) (vp2_1 : api_Spot) (vr13 : Int) : Option ((z234 × api_Fix)) :=
  (z235 (z234.mk vs8_1.L (IntKind.wrap .i64 (vs8_1.at_ + 1))) 10).bind fun vr14 =>
  cond (vr14)
    ((z241 (z234.mk vs8_1.L (IntKind.wrap .i64 ((IntKind.wrap .i64 (vs8_1.at_ + 1)) + 1))) ([5000, (-10000), 300] : List Int)).bind fun vr15 =>
    some (z234.mk vs8_1.L (IntKind.wrap .i64 ((IntKind.wrap .i64 ((IntKind.wrap .i64 (vs8_1.at_ + 1)) + 1)) + 1)), api_Fix.mk ([100] : List UInt8) (IntKind.wrap .i64 (vat + vr9)) vr15 vp2_1.Y vr13))
    (some (z234.mk vs8_1.L (IntKind.wrap .i64 ((IntKind.wrap .i64 (vs8_1.at_ + 1)) + 1)), api_Fix.mk ([100] : List UInt8) (IntKind.wrap .i64 (vat + vr9)) vp2_1.X vp2_1.Y vr13))

noncomputable def z279 (vr : Int) : z234 × api_Spot × (List api_Fix) × Int × Int → Option ((z234 × api_Spot × (List api_Fix) × Int × Int) ⊕ ((z234 × (List api_Fix))))
  | (vs1, vp, vout, vat, vx) =>
  cond (decide (vx < vr))
    ((z241 vs1 ([1, 10, 100, 1000, 1000] : List Int)).bind fun vr9 =>
    (z284 vs1 vp).bind fun (vs8_1, vp2_1) =>
    (z241 vs8_1 ([0, 0, 1, 2, 5] : List Int)).bind fun vr13 =>
    (z288 vat vr9 vs8_1 vp2_1 vr13).bind fun (vs9_1, vx2_1) =>
    gd (Nat.ble (vout.length + ([vx2_1] : List api_Fix).length) LIM) <|
    some (.inl (vs9_1, vp2_1, vout ++ ([vx2_1] : List api_Fix), IntKind.wrap .i64 (vat + vr9), IntKind.wrap .i64 (vx + 1))))
    (some (.inr (vs1, vout)))

noncomputable def z276 (qs : z234) (qmost : Int) : Option (z234 × (List api_Fix)) :=
  (z244 qs).bind fun vr2 =>
  (z247 (z234.mk qs.L (IntKind.wrap .i64 ((IntKind.wrap .i64 (qs.at_ + 1)) + 1))) 0 qmost).bind fun (vs, vr) =>
  (loopO (z279 vr) (vs, vr2, [], 0, 0)).bind fun (vs10_1, vout1_1) =>
  some (vs10_1, vout1_1)

/-! ### beaconfleet/base.Out -/
noncomputable def z89 (qn : Int) (qlow : Int) (qhigh : Int) : Option (Bool) :=
  cond (decide (qn < qlow))
    (some true)
    (some (decide (qhigh < qn)))

noncomputable def base_Out (qn : Int) (qlow : Int) (qhigh : Int) : Option (Bool) :=
  (z89 qn qlow qhigh).bind fun vx1 =>
  some vx1

/-! ### beaconfleet/place.isSpot -/
noncomputable def z577 (qs : api_Spot) : Option (Bool) :=
  (base_Out qs.X (-10000) 10000).bind fun vr =>
  cond (!vr)
    ((base_Out qs.Y (-10000) 10000).bind fun vr1 =>
    some (!vr1))
    (some false)

noncomputable def z574 (qs : api_Spot) : Option (Bool) :=
  (z577 qs).bind fun vx1 =>
  some vx1

/-! ### beaconfleet/place.Hull$1 -/
noncomputable def z414 (qs : api_Spot) : Option (Bool) :=
  (z574 qs).bind fun vr2 =>
  some (!vr2)

/-! ### slices.IndexFunc[[]beaconfleet/api.Spot,beaconfleet/api.Spot] -/
noncomputable def z900 (qs : List api_Spot) (vx : Int) : Option ((Int) ⊕ (Unit ⊕ Int)) :=
  cond (decide (vx < (qs.length : Int)))
    ((at? qs vx).bind fun vy1 =>
    (z414 vy1).bind fun vr1 =>
    cond (vr1)
      (some (.inr (.inr vx)))
      (some (.inl (IntKind.wrap .i64 (vx + 1)))))
    (some (.inr (.inl ())))

noncomputable def z897 (qs : List api_Spot) : Option (Int) :=
  (loopO (z900 qs) 0).bind fun x => match x with
    | .inl _ =>
      some (-1)
    | .inr vx1_1 =>
      some vx1_1

/-! ### slices.ContainsFunc[[]beaconfleet/api.Spot,beaconfleet/api.Spot] -/
noncomputable def z829 (qs : List api_Spot) : Option (Bool) :=
  (z897 qs).bind fun vr2 =>
  some (decide (0 ≤ vr2))

/-! ### slices.Clone[[]beaconfleet/api.Spot,beaconfleet/api.Spot] -/
noncomputable def z740 (qs : List api_Spot) : Option (List api_Spot) :=
  gd (Nat.ble (([] : List api_Spot).length + qs.length) LIM) (some qs)

/-! ### math/bits.Len64 -/
noncomputable def z115 (qx : Int) : Option ((Int × Int)) :=
  cond (decide (4294967296 ≤ qx))
    (some (ishr .u64 qx 32, 32))
    (some (qx, 0))

noncomputable def z119 (vx1 : Int) (vn1 : Int) : Option ((Int × Int)) :=
  cond (decide (65536 ≤ vx1))
    (some (ishr .u64 vx1 16, IntKind.wrap .i64 (vn1 + 16)))
    (some (vx1, vn1))

noncomputable def z123 (vx2_1 : Int) (vn2_1 : Int) : Option ((Int × Int)) :=
  cond (decide (256 ≤ vx2_1))
    (some (ishr .u64 vx2_1 8, IntKind.wrap .i64 (vn2_1 + 8)))
    (some (vx2_1, vn2_1))

noncomputable def z112 (qx : Int) : Option (Int) :=
  (z115 qx).bind fun (vx1, vn1) =>
  (z119 vx1 vn1).bind fun (vx2_1, vn2_1) =>
  (z123 vx2_1 vn2_1).bind fun (vx3_1, vn3_1) =>
  (at? ([0, 1, 2, 2, 3, 3, 3, 3, 4, 4, 4, 4, 4, 4, 4, 4, 5, 5, 5, 5, 5, 5, 5, 5, 5, 5, 5, 5, 5, 5, 5, 5, 6, 6, 6, 6, 6, 6, 6, 6, 6, 6, 6, 6, 6, 6, 6, 6, 6, 6, 6, 6, 6, 6, 6, 6, 6, 6, 6, 6, 6, 6, 6, 6, 7, 7, 7, 7, 7, 7, 7, 7, 7, 7, 7, 7, 7, 7, 7, 7, 7, 7, 7, 7, 7, 7, 7, 7, 7, 7, 7, 7, 7, 7, 7, 7, 7, 7, 7, 7, 7, 7, 7, 7, 7, 7, 7, 7, 7, 7, 7, 7, 7, 7, 7, 7, 7, 7, 7, 7, 7, 7, 7, 7, 7, 7, 7, 7, 8, 8, 8, 8, 8, 8, 8, 8, 8, 8, 8, 8, 8, 8, 8, 8, 8, 8, 8, 8, 8, 8, 8, 8, 8, 8, 8, 8, 8, 8, 8, 8, 8, 8, 8, 8, 8, 8, 8, 8, 8, 8, 8, 8, 8, 8, 8, 8, 8, 8, 8, 8, 8, 8, 8, 8, 8, 8, 8, 8, 8, 8, 8, 8, 8, 8, 8, 8, 8, 8, 8, 8, 8, 8, 8, 8, 8, 8, 8, 8, 8, 8, 8, 8, 8, 8, 8, 8, 8, 8, 8, 8, 8, 8, 8, 8, 8, 8, 8, 8, 8, 8, 8, 8, 8, 8, 8, 8, 8, 8, 8, 8, 8, 8, 8, 8, 8, 8, 8, 8, 8, 8, 8, 8, 8, 8, 8, 8] : List UInt8) (IntKind.wrap .u8 (vx3_1))).bind fun vc =>
  some (IntKind.wrap .i64 (vn3_1 + (IntKind.wrap .i64 ((vc.toNat : Int)))))

/-! ### math/bits.Len -/
noncomputable def bits_Len (qx : Int) : Option (Int) :=
  (z112 qx).bind fun vr =>
  some vr

/-! ### cmp.isNaN[int] -/
noncomputable def z160 (qx : Int) : Option (Unit) :=
  some ()

/-! ### cmp.Compare[int] -/
noncomputable def z142 (qx : Int) (qy : Int) : Option (Int) :=
  (z160 qx).bind fun _ =>
  (z160 qy).bind fun _ =>
  cond (!decide (qx = qx))
    (cond (!decide (qy = qy))
      (some 0)
      (some (-1)))
    (cond (!decide (qy = qy))
      (some 1)
      (cond (decide (qx < qy))
        (some (-1))
        (cond (decide (qy < qx))
          (some 1)
          (some 0))))

/-! ### cmp.Or[int] -/
noncomputable def z155 (qvals : List Int) (vx : Int) : Option ((Int) ⊕ (Unit ⊕ Int)) :=
  cond (decide (vx < (qvals.length : Int)))
    ((at? qvals vx).bind fun vy1 =>
    cond (!decide (vy1 = 0))
      (some (.inr (.inr vy1)))
      (some (.inl (IntKind.wrap .i64 (vx + 1)))))
    (some (.inr (.inl ())))

noncomputable def z152 (qvals : List Int) : Option (Int) :=
  (loopO (z155 qvals) 0).bind fun x => match x with
    | .inl _ =>
      some 0
    | .inr vx1_1 =>
      some vx1_1

/-! ### beaconfleet/place.bySpot -/
noncomputable def z495 (qa : api_Spot) (qb : api_Spot) : Option (Int) :=
  (z142 qa.X qb.X).bind fun vr =>
  (z142 qa.Y qb.Y).bind fun vr1 =>
  (z152 ([vr, vr1] : List Int)).bind fun vr2 =>
  some vr2

/-! ### slices.insertionSortCmpFunc[beaconfleet/api.Spot] -/
noncomputable def z980 (qa : Int) (vl3 : List api_Spot) (vj1 : Int) : Option (Bool) :=
  cond (decide (qa < vj1))
    ((at? vl3 vj1).bind fun vy15 =>
    (at? vl3 (IntKind.wrap .i64 (vj1 - 1))).bind fun vy16 =>
    (z495 vy15 vy16).bind fun vr3_3 =>
    some (decide (vr3_3 < 0)))
    (some false)

noncomputable def z975 (qa : Int) : (List api_Spot) × Int → Option (((List api_Spot) × Int) ⊕ ((List api_Spot)))
  | (vl3, vj1) =>
  (z980 qa vl3 vj1).bind fun vx4_1 =>
  cond (vx4_1)
    ((at? vl3 (IntKind.wrap .i64 (vj1 - 1))).bind fun vy17 =>
    (at? vl3 vj1).bind fun vy18 =>
    (at? (vl3.set vj1.toNat vy17) (IntKind.wrap .i64 (vj1 - 1))).bind fun vy19 =>
    some (.inl ((vl3.set vj1.toNat vy17).set (IntKind.wrap .i64 (vj1 - 1)).toNat vy18, IntKind.wrap .i64 (vj1 - 1))))
    (some (.inr vl3))

noncomputable def z970 (qa : Int) (qb : Int) : (List api_Spot) × Int → Option (((List api_Spot) × Int) ⊕ ((List api_Spot)))
  | (vl, vi) =>
  cond (decide (vi < qb))
    ((loopO (z975 qa) (vl, vi)).bind fun vl4_1 =>
    some (.inl (vl4_1, IntKind.wrap .i64 (vi + 1))))
    (some (.inr vl))

noncomputable def z967 (qdata : List api_Spot) (qa : Int) (qb : Int) : Option ((List api_Spot)) :=
  (loopO (z970 qa qb) (qdata, IntKind.wrap .i64 (qa + 1))).bind fun vl5_1 =>
  some vl5_1

/-! ### slices.pdqsortCmpFunc[beaconfleet/api.Spot] -/
noncomputable def z1012 (qx : List api_Spot) (qx1 : Int) (qx2 : Int) (qx3 : Int) : Unit → Option ((Unit) ⊕ ((List api_Spot)))
  | _ =>
  cond (decide ((IntKind.wrap .i64 (qx2 - qx1)) ≤ 12))
    ((z967 qx qx1 qx2).bind fun vl6_1 =>
    gd (vl6_1.length == qx.length) <|
    some (.inr vl6_1))
    (cond (decide (qx3 = 0))
      (none)
      (none))

noncomputable def z1009 (qx : List api_Spot) (qx1 : Int) (qx2 : Int) (qx3 : Int) : Option ((List api_Spot)) :=
  (loopO (z1012 qx qx1 qx2 qx3) ()).bind fun vl1 =>
  some vl1

/-! ### slices.SortFunc[[]beaconfleet/api.Spot,beaconfleet/api.Spot] -/
noncomputable def z924 (qx : List api_Spot) : Option ((List api_Spot)) :=
  (bits_Len (IntKind.wrap .u64 ((qx.length : Int)))).bind fun vr1 =>
  (z1009 qx 0 (qx.length : Int) vr1).bind fun vl2 =>
  gd (vl2.length == qx.length) <|
  some vl2

/-! ### slices.Compact[[]beaconfleet/api.Spot,beaconfleet/api.Spot] -/
noncomputable def z773 (qs : List api_Spot) (vk : Int) (vl4 : List api_Spot) (vk6 : Int) (vk2_1 : Int) : Option (((List api_Spot) × Int)) :=
  gd (decide (0 ≤ vk) && decide (0 ≤ vk2_1) && decide (vk2_1 < (qs.length : Int) - vk)) <|
  (at? vl4 (vk + vk2_1)).bind fun vy13 =>
  gd (decide (0 ≤ vk) && decide (0 ≤ (IntKind.wrap .i64 (vk2_1 - 1))) && decide ((IntKind.wrap .i64 (vk2_1 - 1)) < (qs.length : Int) - vk)) <|
  (at? vl4 (vk + (IntKind.wrap .i64 (vk2_1 - 1)))).bind fun vy14 =>
  cond (!(decide (vy13.X = vy14.X) && (decide (vy13.Y = vy14.Y) && true)))
    ((at? vl4 vk6).bind fun vy15 =>
    some (vl4.set vk6.toNat vy13, IntKind.wrap .i64 (vk6 + 1)))
    (some (vl4, vk6))

noncomputable def z768 (qs : List api_Spot) (vk : Int) : (List api_Spot) × Int × Int → Option (((List api_Spot) × Int × Int) ⊕ (((List api_Spot) × Int)))
  | (vl4, vk6, vk2_1) =>
  cond (decide (vk2_1 < (((qs.length : Int).toNat - vk.toNat : Nat) : Int)))
    ((z773 qs vk vl4 vk6 vk2_1).bind fun (vl6_1, vk8_1) =>
    some (.inl (vl6_1, vk8_1, IntKind.wrap .i64 (vk2_1 + 1))))
    (some (.inr (vl4, vk6)))

noncomputable def z763 (qs : List api_Spot) (vk : Int) : Option ((Int) ⊕ (Unit ⊕ (List api_Spot))) :=
  cond (decide (vk < (qs.length : Int)))
    ((at? qs vk).bind fun vy8 =>
    (at? qs (IntKind.wrap .i64 (vk - 1))).bind fun vy9 =>
    cond ((decide (vy8.X = vy9.X) && (decide (vy8.Y = vy9.Y) && true)))
      (gd (decide (0 ≤ vk) && decide (vk ≤ (qs.length : Int)) && decide ((qs.length : Int) ≤ (qs.length : Int))) <|
      (loopO (z768 qs vk) (qs, vk, 1)).bind fun (vl7_1, vk9_1) =>
      gd (decide (0 ≤ vk9_1) && decide (vk9_1 ≤ (vl7_1.length : Int)) && decide ((vl7_1.length : Int) ≤ (vl7_1.length : Int))) <|
      gd (decide (0 ≤ vk9_1) && decide (vk9_1 ≤ ((vl7_1.take vk9_1.toNat ++ (List.replicate ((vl7_1.length : Int).toNat - vk9_1.toNat) (api_Spot.mk 0 0) ++ vl7_1.drop (vk9_1.toNat + ((vl7_1.length : Int).toNat - vk9_1.toNat)))).length : Int))) <|
      some (.inr (.inr ((vl7_1.take vk9_1.toNat ++ (List.replicate ((vl7_1.length : Int).toNat - vk9_1.toNat) (api_Spot.mk 0 0) ++ vl7_1.drop (vk9_1.toNat + ((vl7_1.length : Int).toNat - vk9_1.toNat)))).take vk9_1.toNat))))
      (some (.inl (IntKind.wrap .i64 (vk + 1)))))
    (some (.inr (.inl ())))

noncomputable def z760 (qs : List api_Spot) : Option ((List api_Spot)) :=
  cond (decide ((qs.length : Int) < 2))
    (some qs)
    ((loopO (z763 qs) 1).bind fun x => match x with
      | .inl _ =>
        some qs
      | .inr vx1 =>
        some vx1)

/-! ### beaconfleet/place.side -/
noncomputable def z601 (qa : api_Spot) (qb : api_Spot) (qs : api_Spot) : Option (Unit) :=
  some ()

/-! ### beaconfleet/place.half -/
noncomputable def z570 (vy5 : api_Spot) (vout3 : List api_Spot) (vn1 : Int) : Option (Bool) :=
  cond (decide (1 < vn1))
    ((at? vout3 (IntKind.wrap .i64 (vn1 - 2))).bind fun vy8 =>
    (at? vout3 (IntKind.wrap .i64 (vn1 - 1))).bind fun vy9 =>
    (z601 vy8 vy9 vy5).bind fun _ =>
    some (decide ((IntKind.wrap .i64 ((IntKind.wrap .i64 ((IntKind.wrap .i64 (vy9.X - vy8.X)) * (IntKind.wrap .i64 (vy5.Y - vy8.Y)))) - (IntKind.wrap .i64 ((IntKind.wrap .i64 (vy9.Y - vy8.Y)) * (IntKind.wrap .i64 (vy5.X - vy8.X)))))) ≤ 0)))
    (some false)

noncomputable def z565 (vy5 : api_Spot) : (List api_Spot) × Int → Option (((List api_Spot) × Int) ⊕ ((List api_Spot)))
  | (vout3, vn1) =>
  (z570 vy5 vout3 vn1).bind fun vx4_1 =>
  cond (vx4_1)
    (gd (decide (0 ≤ (IntKind.wrap .i64 (vn1 - 1))) && decide ((IntKind.wrap .i64 (vn1 - 1)) ≤ (vout3.length : Int))) <|
    some (.inl (vout3.take (IntKind.wrap .i64 (vn1 - 1)).toNat, IntKind.wrap .i64 (vn1 - 1))))
    (some (.inr vout3))

noncomputable def z560 (ql : List api_Spot) : (List api_Spot) × Int → Option (((List api_Spot) × Int) ⊕ ((List api_Spot)))
  | (vout, vx) =>
  cond (decide (vx < (ql.length : Int)))
    ((at? ql vx).bind fun vy5 =>
    (loopO (z565 vy5) (vout, (vout.length : Int))).bind fun vout4_1 =>
    gd (Nat.ble (vout4_1.length + ([vy5] : List api_Spot).length) LIM) <|
    some (.inl (vout4_1 ++ ([vy5] : List api_Spot), IntKind.wrap .i64 (vx + 1))))
    (some (.inr vout))

noncomputable def z557 (ql : List api_Spot) : Option ((List api_Spot)) :=
  (loopO (z560 ql) ([], 0)).bind fun vout5_1 =>
  some vout5_1

/-! ### slices.Reverse[[]beaconfleet/api.Spot,beaconfleet/api.Spot] -/
noncomputable def z916 : (List api_Spot) × Int × Int → Option (((List api_Spot) × Int × Int) ⊕ ((List api_Spot)))
  | (vl, vi, vj) =>
  cond (decide (vi < vj))
    ((at? vl vj).bind fun vy3 =>
    (at? vl vi).bind fun vy4 =>
    (at? (vl.set vi.toNat vy3) vj).bind fun vy5 =>
    some (.inl ((vl.set vi.toNat vy3).set vj.toNat vy4, IntKind.wrap .i64 (vi + 1), IntKind.wrap .i64 (vj - 1))))
    (some (.inr vl))

noncomputable def z913 (qs : List api_Spot) : Option ((List api_Spot)) :=
  (loopO z916 (qs, 0, IntKind.wrap .i64 ((qs.length : Int) - 1))).bind fun vl1_1 =>
  some vl1_1

/-! ### slices.Grow[[]beaconfleet/api.Spot,beaconfleet/api.Spot] -/
noncomputable def z869 (qn : Int) : Option ((List api_Spot)) :=
  cond (decide (0 < (IntKind.wrap .i64 (qn - (IntKind.wrap .i64 ((0 : Int) - 0))))))
    (gd (decide (0 ≤ (IntKind.wrap .i64 (qn - (IntKind.wrap .i64 ((0 : Int) - 0))))) && decide ((IntKind.wrap .i64 (qn - (IntKind.wrap .i64 ((0 : Int) - 0)))) ≤ 137438953472)) <|
    gd (decide (0 ≤ (0 : Int)) && decide ((0 : Int) ≤ ((List.replicate (IntKind.wrap .i64 (qn - (IntKind.wrap .i64 ((0 : Int) - 0)))).toNat (api_Spot.mk 0 0)).length : Int))) <|
    some ((List.replicate (IntKind.wrap .i64 (qn - (IntKind.wrap .i64 ((0 : Int) - 0)))).toNat (api_Spot.mk 0 0)).take (0 : Int).toNat))
    (some [])

noncomputable def z866 (qn : Int) : Option ((List api_Spot)) :=
  cond (decide (qn < 0))
    (none)
    ((z869 qn).bind fun vs1 =>
    some vs1)

/-! ### slices.Concat[[]beaconfleet/api.Spot,beaconfleet/api.Spot] -/
noncomputable def z810 (qslices : List (List api_Spot)) : Int × Int → Option ((Int × Int) ⊕ (Int))
  | (vsize, vx) =>
  cond (decide (vx < (qslices.length : Int)))
    ((at? qslices vx).bind fun vy1 =>
    cond (decide ((IntKind.wrap .i64 (vsize + (vy1.length : Int))) < 0))
      (none)
      (some (.inl (IntKind.wrap .i64 (vsize + (vy1.length : Int)), IntKind.wrap .i64 (vx + 1)))))
    (some (.inr vsize))

noncomputable def z815 (qslices : List (List api_Spot)) : (List api_Spot) × Int → Option (((List api_Spot) × Int) ⊕ ((List api_Spot)))
  | (vnewslice, vx1) =>
  cond (decide (vx1 < (qslices.length : Int)))
    ((at? qslices vx1).bind fun vy3 =>
    gd (Nat.ble (vnewslice.length + vy3.length) LIM) <|
    some (.inl (vnewslice ++ vy3, IntKind.wrap .i64 (vx1 + 1))))
    (some (.inr vnewslice))

noncomputable def z807 (qslices : List (List api_Spot)) : Option ((List api_Spot)) :=
  (loopO (z810 qslices) (0, 0)).bind fun vsize1_1 =>
  (z866 vsize1_1).bind fun vr =>
  (loopO (z815 qslices) (vr, 0)).bind fun vnewslice1_1 =>
  some vnewslice1_1

/-! ### beaconfleet/place.Hull -/
noncomputable def z413 (ql : List api_Spot) : Option ((List api_Spot) × Int) :=
  cond (decide (2000 < (ql.length : Int)))
    (some ([], 2))
    ((z829 ql).bind fun vr =>
    cond (vr)
      (some ([], 1))
      ((z740 ql).bind fun vr1 =>
      (z924 vr1).bind fun vl =>
      gd (vl.length == vr1.length) <|
      (z760 vl).bind fun vr2 =>
      cond (decide ((vr2.length : Int) < 2))
        (some (vr2, 0))
        ((z557 vr2).bind fun vr3 =>
        gd (vr2.length == vr2.length) <|
        (z913 vr2).bind fun vl2 =>
        gd (vl2.length == vr2.length) <|
        (z557 vl2).bind fun vr4 =>
        gd (vl2.length == vl2.length) <|
        (sub? vr4 1 (IntKind.wrap .i64 ((vr4.length : Int) - 1))).bind fun vl1 =>
        (z807 ([vr3, vl1] : List (List api_Spot))).bind fun vr1_1 =>
        some (vr1_1, 0))))

/-! ### beaconfleet/fleetkeep2.spoil[beaconfleet/api.Spot] -/
noncomputable def z222 (ql : List api_Spot) : (List api_Spot) × Int → Option (((List api_Spot) × Int) ⊕ ((List api_Spot)))
  | (vl, vx) =>
  cond (decide (vx < (ql.length : Int)))
    ((at? vl vx).bind fun vy1 =>
    some (.inl (vl.set vx.toNat (api_Spot.mk 0 0), IntKind.wrap .i64 (vx + 1))))
    (some (.inr vl))

noncomputable def z219 (ql : List api_Spot) : Option ((List api_Spot)) :=
  (loopO (z222 ql) (ql, 0)).bind fun vl1_1 =>
  some vl1_1

/-! ### beaconfleet/base.Key -/
noncomputable def z47 (qs : List UInt8) : Option (Bool) :=
  cond (decide (qs = ([] : List UInt8)))
    (some true)
    (cond (decide (40 < (qs.length : Int)))
      (some true)
      ((at? qs 0).bind fun vc =>
      cond (decide ((vc.toNat : Int) < 97))
        (some true)
        (some (decide (122 < (vc.toNat : Int))))))

noncomputable def z56 (vc2 : UInt8) : Option (Bool) :=
  cond (decide (97 ≤ (vc2.toNat : Int)))
    (cond (decide ((vc2.toNat : Int) ≤ 122))
      (some false)
      (cond (decide (48 ≤ (vc2.toNat : Int)))
        (cond (decide ((vc2.toNat : Int) ≤ 57))
          (some false)
          (cond (decide ((vc2.toNat : Int) = 45))
            (some false)
            (some (!(decide ((vc2.toNat : Int) = 95))))))
        (cond (decide ((vc2.toNat : Int) = 45))
          (some false)
          (some (!(decide ((vc2.toNat : Int) = 95)))))))
    (cond (decide (48 ≤ (vc2.toNat : Int)))
      (cond (decide ((vc2.toNat : Int) ≤ 57))
        (some false)
        (cond (decide ((vc2.toNat : Int) = 45))
          (some false)
          (some (!(decide ((vc2.toNat : Int) = 95))))))
      (cond (decide ((vc2.toNat : Int) = 45))
        (some false)
        (some (!(decide ((vc2.toNat : Int) = 95))))))

noncomputable def z51 (qs : List UInt8) (vx2 : Int) : Option ((Int) ⊕ (Unit ⊕ Unit)) :=
  cond (decide (vx2 < (qs.length : Int)))
    ((at? qs vx2).bind fun vc2 =>
    (z56 vc2).bind fun vx4_1 =>
    cond (vx4_1)
      (some (.inr (.inr ())))
      (some (.inl (IntKind.wrap .i64 (vx2 + 1)))))
    (some (.inr (.inl ())))

noncomputable def base_Key (qs : List UInt8) : Option (Bool) :=
  (z47 qs).bind fun vx1 =>
  cond (vx1)
    (some false)
    ((loopO (z51 qs) 0).bind fun x => match x with
      | .inl _ =>
        some true
      | .inr _ =>
        some false)

/-! ### beaconfleet/base.Moment -/
noncomputable def z60 (qn : Int) : Option (Bool) :=
  (base_Out qn 0 345686399999).bind fun vr =>
  some (!vr)

/-! ### beaconfleet/place.spot -/
noncomputable def z604 (qx : api_Fix) : Option (Unit) :=
  some ()

/-! ### internal/bytealg.CompareString -/
noncomputable def z132 (qa : List UInt8) (qb : List UInt8) : Option (Unit) :=
  some ()

/-! ### strings.Compare -/
noncomputable def z1198 (qa : List UInt8) (qb : List UInt8) : Option (Unit) :=
  (z132 qa qb).bind fun _ =>
  some ()

/-! ### beaconfleet/place.byDevice -/
noncomputable def z492 (qa : api_Fix) (qb : api_Fix) : Option (Int) :=
  (z1198 qa.Device qb.Device).bind fun _ =>
  (z142 qa.At qb.At).bind fun vr =>
  (z152 ([Lib.compareBytes qa.Device qb.Device, vr] : List Int)).bind fun vr1 =>
  some vr1

/-! ### beaconfleet/place.CheckFixes -/
noncomputable def z405 (vy2 : api_Fix) : Option (Bool) :=
  (z60 vy2.At).bind fun vr1_1 =>
  cond (!vr1_1)
    (some true)
    ((z604 vy2).bind fun _ =>
    (z574 (api_Spot.mk vy2.X vy2.Y)).bind fun vr2_2 =>
    cond (!vr2_2)
      (some true)
      ((base_Out vy2.Error 0 10000).bind fun vr5 =>
      some vr5))

noncomputable def z409 (ql : List api_Fix) (vx : Int) (vy2 : api_Fix) : Option (Bool) :=
  cond (decide (0 < vx))
    ((at? ql (IntKind.wrap .i64 (vx - 1))).bind fun vy3 =>
    (z492 vy2 vy3).bind fun vr2_3 =>
    some (decide (vr2_3 ≤ 0)))
    (some false)

noncomputable def z400 (ql : List api_Fix) (vx : Int) : Option ((Int) ⊕ (Unit ⊕ Int)) :=
  cond (decide (vx < (ql.length : Int)))
    ((at? ql vx).bind fun vy2 =>
    (base_Key vy2.Device).bind fun vr4 =>
    cond (!vr4)
      (some (.inr (.inr 5)))
      ((z405 vy2).bind fun vx3_1 =>
      cond (vx3_1)
        (some (.inr (.inr 1)))
        ((z409 ql vx vy2).bind fun vx4_1 =>
        cond (vx4_1)
          (some (.inr (.inr 7)))
          (some (.inl (IntKind.wrap .i64 (vx + 1)))))))
    (some (.inr (.inl ())))

noncomputable def z389 (ql : List api_Fix) : Option (Int) :=
  cond (decide (2000 < (ql.length : Int)))
    (some 2)
    ((loopO (z400 ql) 0).bind fun x => match x with
      | .inl _ =>
        some 0
      | .inr vx5_1 =>
        some vx5_1)

/-! ### beaconfleet/place.CheckFixes -/
noncomputable def z394 : Unit → Option ((Unit) ⊕ (Unit))
  | _ =>
  cond (decide ((0 : Int) < 0))
    (none)
    (some (.inr ()))

noncomputable def z391 : Option (Int) :=
  cond (decide (2000 < (0 : Int)))
    (some 2)
    ((loopO z394 ()).bind fun _ =>
    some 0)

/-! ### beaconfleet/base.First -/
noncomputable def z30 (ql : List Int) (vx : Int) : Option ((Int) ⊕ (Unit ⊕ Int)) :=
  cond (decide (vx < (ql.length : Int)))
    ((at? ql vx).bind fun vy1 =>
    cond (!decide (vy1 = 0))
      (some (.inr (.inr vy1)))
      (some (.inl (IntKind.wrap .i64 (vx + 1)))))
    (some (.inr (.inl ())))

noncomputable def z27 (ql : List Int) : Option (Int) :=
  (loopO (z30 ql) 0).bind fun x => match x with
    | .inl _ =>
      some 0
    | .inr vx1_1 =>
      some vx1_1

/-! ### slices.Grow[[]beaconfleet/api.Fix,beaconfleet/api.Fix] -/
noncomputable def z862 (qn : Int) : Option ((List api_Fix)) :=
  cond (decide (0 < (IntKind.wrap .i64 (qn - (IntKind.wrap .i64 ((0 : Int) - 0))))))
    (gd (decide (0 ≤ (IntKind.wrap .i64 (qn - (IntKind.wrap .i64 ((0 : Int) - 0))))) && decide ((IntKind.wrap .i64 (qn - (IntKind.wrap .i64 ((0 : Int) - 0)))) ≤ 137438953472)) <|
    gd (decide (0 ≤ (0 : Int)) && decide ((0 : Int) ≤ ((List.replicate (IntKind.wrap .i64 (qn - (IntKind.wrap .i64 ((0 : Int) - 0)))).toNat (api_Fix.mk ([] : List UInt8) 0 0 0 0)).length : Int))) <|
    some ((List.replicate (IntKind.wrap .i64 (qn - (IntKind.wrap .i64 ((0 : Int) - 0)))).toNat (api_Fix.mk ([] : List UInt8) 0 0 0 0)).take (0 : Int).toNat))
    (some [])

noncomputable def z859 (qn : Int) : Option ((List api_Fix)) :=
  cond (decide (qn < 0))
    (none)
    ((z862 qn).bind fun vs1 =>
    some vs1)

/-! ### slices.Concat[[]beaconfleet/api.Fix,beaconfleet/api.Fix] -/
noncomputable def z797 (qslices : List (List api_Fix)) : Int × Int → Option ((Int × Int) ⊕ (Int))
  | (vsize, vx) =>
  cond (decide (vx < (qslices.length : Int)))
    ((at? qslices vx).bind fun vy1 =>
    cond (decide ((IntKind.wrap .i64 (vsize + (vy1.length : Int))) < 0))
      (none)
      (some (.inl (IntKind.wrap .i64 (vsize + (vy1.length : Int)), IntKind.wrap .i64 (vx + 1)))))
    (some (.inr vsize))

noncomputable def z802 (qslices : List (List api_Fix)) : (List api_Fix) × Int → Option (((List api_Fix) × Int) ⊕ ((List api_Fix)))
  | (vnewslice, vx1) =>
  cond (decide (vx1 < (qslices.length : Int)))
    ((at? qslices vx1).bind fun vy3 =>
    gd (Nat.ble (vnewslice.length + vy3.length) LIM) <|
    some (.inl (vnewslice ++ vy3, IntKind.wrap .i64 (vx1 + 1))))
    (some (.inr vnewslice))

noncomputable def z794 (qslices : List (List api_Fix)) : Option ((List api_Fix)) :=
  (loopO (z797 qslices) (0, 0)).bind fun vsize1_1 =>
  (z859 vsize1_1).bind fun vr =>
  (loopO (z802 qslices) (vr, 0)).bind fun vnewslice1_1 =>
  some vnewslice1_1

/-! ### slices.insertionSortCmpFunc[beaconfleet/api.Fix] -/
noncomputable def z946 (qa : Int) (vl3 : List api_Fix) (vj1 : Int) : Option (Bool) :=
  cond (decide (qa < vj1))
    ((at? vl3 vj1).bind fun vy15 =>
    (at? vl3 (IntKind.wrap .i64 (vj1 - 1))).bind fun vy16 =>
    (z492 vy15 vy16).bind fun vr2_3 =>
    some (decide (vr2_3 < 0)))
    (some false)

noncomputable def z941 (qa : Int) : (List api_Fix) × Int → Option (((List api_Fix) × Int) ⊕ ((List api_Fix)))
  | (vl3, vj1) =>
  (z946 qa vl3 vj1).bind fun vx4_1 =>
  cond (vx4_1)
    ((at? vl3 (IntKind.wrap .i64 (vj1 - 1))).bind fun vy17 =>
    (at? vl3 vj1).bind fun vy18 =>
    (at? (vl3.set vj1.toNat vy17) (IntKind.wrap .i64 (vj1 - 1))).bind fun vy19 =>
    some (.inl ((vl3.set vj1.toNat vy17).set (IntKind.wrap .i64 (vj1 - 1)).toNat vy18, IntKind.wrap .i64 (vj1 - 1))))
    (some (.inr vl3))

noncomputable def z936 (qa : Int) (qb : Int) : (List api_Fix) × Int → Option (((List api_Fix) × Int) ⊕ ((List api_Fix)))
  | (vl, vi) =>
  cond (decide (vi < qb))
    ((loopO (z941 qa) (vl, vi)).bind fun vl4_1 =>
    some (.inl (vl4_1, IntKind.wrap .i64 (vi + 1))))
    (some (.inr vl))

noncomputable def z933 (qdata : List api_Fix) (qa : Int) (qb : Int) : Option ((List api_Fix)) :=
  (loopO (z936 qa qb) (qdata, IntKind.wrap .i64 (qa + 1))).bind fun vl5_1 =>
  some vl5_1

/-! ### slices.stableCmpFunc[beaconfleet/api.Fix] -/
noncomputable def z1028 (qn : Int) : (List api_Fix) × Int × Int → Option (((List api_Fix) × Int × Int) ⊕ (((List api_Fix) × Int)))
  | (vl, va, vb) =>
  cond (decide (vb ≤ qn))
    ((z933 vl va vb).bind fun vl6_1 =>
    gd (vl6_1.length == vl.length) <|
    some (.inl (vl6_1, vb, IntKind.wrap .i64 (vb + 20))))
    (some (.inr (vl, va)))

noncomputable def z1038 (qn : Int) (vblockSize : Int) : Unit → Option ((Unit) ⊕ (Unit))
  | _ =>
  cond (decide ((IntKind.wrap .i64 ((2 : Int) * vblockSize)) ≤ qn))
    (none)
    (some (.inr ()))

noncomputable def z1033 (qn : Int) (vblockSize : Int) : Option ((Int) ⊕ (Unit)) :=
  cond (decide (vblockSize < qn))
    ((loopO (z1038 qn vblockSize) ()).bind fun _ =>
    cond (decide ((IntKind.wrap .i64 ((0 : Int) + vblockSize)) < qn))
      (none)
      (some (.inl (IntKind.wrap .i64 (vblockSize * 2)))))
    (some (.inr ()))

noncomputable def z1025 (qdata : List api_Fix) (qn : Int) : Option ((List api_Fix)) :=
  (loopO (z1028 qn) (qdata, 0, 20)).bind fun (vl1_1, va1_1) =>
  (z933 vl1_1 va1_1 qn).bind fun vl6_2 =>
  gd (vl6_2.length == vl1_1.length) <|
  (loopO (z1033 qn) 20).bind fun _ =>
  some vl6_2

/-! ### slices.SortStableFunc[[]beaconfleet/api.Fix,beaconfleet/api.Fix] -/
noncomputable def z927 (qx : List api_Fix) : Option ((List api_Fix)) :=
  (z1025 qx (qx.length : Int)).bind fun vl2 =>
  gd (vl2.length == qx.length) <|
  some vl2

/-! ### slices.Compact[[]beaconfleet/api.Fix,beaconfleet/api.Fix] -/
noncomputable def z756 (qs : List api_Fix) (vk : Int) (vl4 : List api_Fix) (vk6 : Int) (vk2_1 : Int) : Option (((List api_Fix) × Int)) :=
  gd (decide (0 ≤ vk) && decide (0 ≤ vk2_1) && decide (vk2_1 < (qs.length : Int) - vk)) <|
  (at? vl4 (vk + vk2_1)).bind fun vy13 =>
  gd (decide (0 ≤ vk) && decide (0 ≤ (IntKind.wrap .i64 (vk2_1 - 1))) && decide ((IntKind.wrap .i64 (vk2_1 - 1)) < (qs.length : Int) - vk)) <|
  (at? vl4 (vk + (IntKind.wrap .i64 (vk2_1 - 1)))).bind fun vy14 =>
  cond (!(decide (vy13.Device = vy14.Device) && (decide (vy13.At = vy14.At) && (decide (vy13.X = vy14.X) && (decide (vy13.Y = vy14.Y) && (decide (vy13.Error = vy14.Error) && true))))))
    ((at? vl4 vk6).bind fun vy15 =>
    some (vl4.set vk6.toNat vy13, IntKind.wrap .i64 (vk6 + 1)))
    (some (vl4, vk6))

noncomputable def z751 (qs : List api_Fix) (vk : Int) : (List api_Fix) × Int × Int → Option (((List api_Fix) × Int × Int) ⊕ (((List api_Fix) × Int)))
  | (vl4, vk6, vk2_1) =>
  cond (decide (vk2_1 < (((qs.length : Int).toNat - vk.toNat : Nat) : Int)))
    ((z756 qs vk vl4 vk6 vk2_1).bind fun (vl6_1, vk8_1) =>
    some (.inl (vl6_1, vk8_1, IntKind.wrap .i64 (vk2_1 + 1))))
    (some (.inr (vl4, vk6)))

noncomputable def z746 (qs : List api_Fix) (vk : Int) : Option ((Int) ⊕ (Unit ⊕ (List api_Fix))) :=
  cond (decide (vk < (qs.length : Int)))
    ((at? qs vk).bind fun vy8 =>
    (at? qs (IntKind.wrap .i64 (vk - 1))).bind fun vy9 =>
    cond ((decide (vy8.Device = vy9.Device) && (decide (vy8.At = vy9.At) && (decide (vy8.X = vy9.X) && (decide (vy8.Y = vy9.Y) && (decide (vy8.Error = vy9.Error) && true))))))
      (gd (decide (0 ≤ vk) && decide (vk ≤ (qs.length : Int)) && decide ((qs.length : Int) ≤ (qs.length : Int))) <|
      (loopO (z751 qs vk) (qs, vk, 1)).bind fun (vl7_1, vk9_1) =>
      gd (decide (0 ≤ vk9_1) && decide (vk9_1 ≤ (vl7_1.length : Int)) && decide ((vl7_1.length : Int) ≤ (vl7_1.length : Int))) <|
      gd (decide (0 ≤ vk9_1) && decide (vk9_1 ≤ ((vl7_1.take vk9_1.toNat ++ (List.replicate ((vl7_1.length : Int).toNat - vk9_1.toNat) (api_Fix.mk ([] : List UInt8) 0 0 0 0) ++ vl7_1.drop (vk9_1.toNat + ((vl7_1.length : Int).toNat - vk9_1.toNat)))).length : Int))) <|
      some (.inr (.inr ((vl7_1.take vk9_1.toNat ++ (List.replicate ((vl7_1.length : Int).toNat - vk9_1.toNat) (api_Fix.mk ([] : List UInt8) 0 0 0 0) ++ vl7_1.drop (vk9_1.toNat + ((vl7_1.length : Int).toNat - vk9_1.toNat)))).take vk9_1.toNat))))
      (some (.inl (IntKind.wrap .i64 (vk + 1)))))
    (some (.inr (.inl ())))

noncomputable def z743 (qs : List api_Fix) : Option ((List api_Fix)) :=
  cond (decide ((qs.length : Int) < 2))
    (some qs)
    ((loopO (z746 qs) 1).bind fun x => match x with
      | .inl _ =>
        some qs
      | .inr vx1 =>
        some vx1)

/-! ### beaconfleet/place.Merge -/
noncomputable def z425 (vr2 : List api_Fix) (vi : Int) : Option ((Int) ⊕ (Unit ⊕ Unit)) :=
  cond (decide (vi < (vr2.length : Int)))
    ((at? vr2 (IntKind.wrap .i64 (vi - 1))).bind fun vy2 =>
    (at? vr2 vi).bind fun vy3 =>
    (z492 vy2 vy3).bind fun vr2_2 =>
    cond (decide (vr2_2 = 0))
      (some (.inr (.inr ())))
      (some (.inl (IntKind.wrap .i64 (vi + 1)))))
    (some (.inr (.inl ())))

noncomputable def z422 (qa : List api_Fix) : Option ((List api_Fix) × Int) :=
  (z389 qa).bind fun vr6 =>
  (z391).bind fun vr =>
  (z27 ([vr6, vr] : List Int)).bind fun vr1 =>
  cond (!decide (vr1 = 0))
    (some ([], vr1))
    ((z794 ([qa, []] : List (List api_Fix))).bind fun vr1_1 =>
    (z927 vr1_1).bind fun vl =>
    gd (vl.length == vr1_1.length) <|
    (z743 vl).bind fun vr2 =>
    (loopO (z425 vr2) 1).bind fun x => match x with
      | .inl _ =>
        cond (decide (2000 < (vr2.length : Int)))
          (some ([], 2))
          (some (vr2, 0))
      | .inr _ =>
        some ([], 13))

/-! ### beaconfleet/fleetkeep2.spoil[beaconfleet/api.Fix] -/
noncomputable def z214 (ql : List api_Fix) : (List api_Fix) × Int → Option (((List api_Fix) × Int) ⊕ ((List api_Fix)))
  | (vl, vx) =>
  cond (decide (vx < (ql.length : Int)))
    ((at? vl vx).bind fun vy1 =>
    some (.inl (vl.set vx.toNat (api_Fix.mk ([] : List UInt8) 0 0 0 0), IntKind.wrap .i64 (vx + 1))))
    (some (.inr vl))

noncomputable def z211 (ql : List api_Fix) : Option ((List api_Fix)) :=
  (loopO (z214 ql) (ql, 0)).bind fun vl1_1 =>
  some vl1_1

/-! ### beaconfleet/place.Of -/
noncomputable def z437 (ql : List api_Fix) (qdevice : List UInt8) (vout : List api_Fix) (vx : Int) : Option ((List api_Fix)) :=
  (at? ql vx).bind fun vy1 =>
  cond (decide (vy1.Device = qdevice))
    (gd (Nat.ble (vout.length + ([vy1] : List api_Fix).length) LIM) <|
    some (vout ++ ([vy1] : List api_Fix)))
    (some vout)

noncomputable def z432 (ql : List api_Fix) (qdevice : List UInt8) : (List api_Fix) × Int → Option (((List api_Fix) × Int) ⊕ ((List api_Fix)))
  | (vout, vx) =>
  cond (decide (vx < (ql.length : Int)))
    ((z437 ql qdevice vout vx).bind fun vout2_1 =>
    some (.inl (vout2_1, IntKind.wrap .i64 (vx + 1))))
    (some (.inr vout))

noncomputable def place_Of (ql : List api_Fix) (qdevice : List UInt8) : Option ((List api_Fix) × Int) :=
  (z389 ql).bind fun vr6 =>
  cond (!decide (vr6 = 0))
    (some ([], vr6))
    ((base_Key qdevice).bind fun vr =>
    cond (!vr)
      (some ([], 5))
      ((loopO (z432 ql qdevice) ([], 0)).bind fun vout3_1 =>
      some (vout3_1, 0)))

/-! ### beaconfleet/place.trackFault$1 -/
noncomputable def z624 (qx : api_Fix) (qx1 : List api_Fix) : Option (Bool) :=
  (at? qx1 0).bind fun vy =>
  some (!decide (qx.Device = vy.Device))

/-! ### slices.IndexFunc[[]beaconfleet/api.Fix,beaconfleet/api.Fix] -/
noncomputable def z876 (qs : List api_Fix) (vx : Int) : Option ((Int) ⊕ (Unit ⊕ Int)) :=
  cond (decide (vx < (qs.length : Int)))
    ((at? qs vx).bind fun vy1 =>
    (z624 vy1 qs).bind fun vr1 =>
    cond (vr1)
      (some (.inr (.inr vx)))
      (some (.inl (IntKind.wrap .i64 (vx + 1)))))
    (some (.inr (.inl ())))

noncomputable def z873 (qs : List api_Fix) : Option (Int) :=
  (loopO (z876 qs) 0).bind fun x => match x with
    | .inl _ =>
      some (-1)
    | .inr vx1_1 =>
      some vx1_1

/-! ### slices.ContainsFunc[[]beaconfleet/api.Fix,beaconfleet/api.Fix] -/
noncomputable def z820 (qs : List api_Fix) : Option (Bool) :=
  (z873 qs).bind fun vr2 =>
  some (decide (0 ≤ vr2))

/-! ### beaconfleet/place.trackFault -/
noncomputable def z623 (ql : List api_Fix) : Option (Int) :=
  (z389 ql).bind fun vr6 =>
  cond (!decide (vr6 = 0))
    (some vr6)
    ((z820 ql).bind fun vr =>
    cond (vr)
      (some 13)
      (some 0))

/-! ### beaconfleet/place.square -/
noncomputable def z607 (qa : api_Spot) (qb : api_Spot) : Option (Unit) :=
  some ()

/-! ### beaconfleet/base.Gcd -/
noncomputable def z40 : Int × Int → Option ((Int × Int) ⊕ (Int))
  | (va, vb) =>
  cond (!decide (vb = 0))
    (gd (!(vb == 0)) <|
    some (.inl (vb, va.tmod vb)))
    (some (.inr va))

noncomputable def base_Gcd (qa : Int) (qb : Int) : Option (Int) :=
  (loopO z40 (qa, qb)).bind fun va1_1 =>
  some va1_1

/-! ### beaconfleet/base.Fraction -/
noncomputable def z35 (qnum : Int) (qden : Int) : Option (api_Fraction) :=
  (base_Gcd (imax qnum (IntKind.wrap .i64 (0 - qnum))) qden).bind fun vr =>
  gd (!(vr == 0)) <|
  some (api_Fraction.mk (IntKind.wrap .i64 (qnum.tdiv vr)) (IntKind.wrap .i64 (qden.tdiv vr)))

/-! ### beaconfleet/place.far -/
noncomputable def place_far (qa : api_Spot) (qb : api_Spot) (qs : api_Spot) : Option (api_Fraction) :=
  (z607 qa qb).bind fun _ =>
  cond (decide ((IntKind.wrap .i64 ((IntKind.wrap .i64 ((IntKind.wrap .i64 (qs.X - qa.X)) * (IntKind.wrap .i64 (qb.X - qa.X)))) + (IntKind.wrap .i64 ((IntKind.wrap .i64 (qs.Y - qa.Y)) * (IntKind.wrap .i64 (qb.Y - qa.Y)))))) ≤ 0))
    ((z607 qa qs).bind fun _ =>
    some (api_Fraction.mk (IntKind.wrap .i64 ((IntKind.wrap .i64 ((IntKind.wrap .i64 (qa.X - qs.X)) * (IntKind.wrap .i64 (qa.X - qs.X)))) + (IntKind.wrap .i64 ((IntKind.wrap .i64 (qa.Y - qs.Y)) * (IntKind.wrap .i64 (qa.Y - qs.Y)))))) 1))
    (cond (decide ((IntKind.wrap .i64 ((IntKind.wrap .i64 ((IntKind.wrap .i64 (qa.X - qb.X)) * (IntKind.wrap .i64 (qa.X - qb.X)))) + (IntKind.wrap .i64 ((IntKind.wrap .i64 (qa.Y - qb.Y)) * (IntKind.wrap .i64 (qa.Y - qb.Y)))))) ≤ (IntKind.wrap .i64 ((IntKind.wrap .i64 ((IntKind.wrap .i64 (qs.X - qa.X)) * (IntKind.wrap .i64 (qb.X - qa.X)))) + (IntKind.wrap .i64 ((IntKind.wrap .i64 (qs.Y - qa.Y)) * (IntKind.wrap .i64 (qb.Y - qa.Y))))))))
      ((z607 qb qs).bind fun _ =>
      some (api_Fraction.mk (IntKind.wrap .i64 ((IntKind.wrap .i64 ((IntKind.wrap .i64 (qb.X - qs.X)) * (IntKind.wrap .i64 (qb.X - qs.X)))) + (IntKind.wrap .i64 ((IntKind.wrap .i64 (qb.Y - qs.Y)) * (IntKind.wrap .i64 (qb.Y - qs.Y)))))) 1))
      ((z601 qa qb qs).bind fun _ =>
      (z35 (IntKind.wrap .i64 ((IntKind.wrap .i64 ((IntKind.wrap .i64 ((IntKind.wrap .i64 (qb.X - qa.X)) * (IntKind.wrap .i64 (qs.Y - qa.Y)))) - (IntKind.wrap .i64 ((IntKind.wrap .i64 (qb.Y - qa.Y)) * (IntKind.wrap .i64 (qs.X - qa.X)))))) * (IntKind.wrap .i64 ((IntKind.wrap .i64 ((IntKind.wrap .i64 (qb.X - qa.X)) * (IntKind.wrap .i64 (qs.Y - qa.Y)))) - (IntKind.wrap .i64 ((IntKind.wrap .i64 (qb.Y - qa.Y)) * (IntKind.wrap .i64 (qs.X - qa.X)))))))) (IntKind.wrap .i64 ((IntKind.wrap .i64 ((IntKind.wrap .i64 (qa.X - qb.X)) * (IntKind.wrap .i64 (qa.X - qb.X)))) + (IntKind.wrap .i64 ((IntKind.wrap .i64 (qa.Y - qb.Y)) * (IntKind.wrap .i64 (qa.Y - qb.Y))))))).bind fun vr1 =>
      some vr1))

/-! ### math/bits.Mul64 -/
noncomputable def z129 (qx : Int) (qy : Int) : Option (Unit) :=
  some ()

/-! ### beaconfleet/base.CompareProducts -/
noncomputable def z11 (qa : Int) (qb : Int) (qc : Int) (qd : Int) : Option (Bool) :=
  cond (!decide ((IntKind.wrap .u64 ((IntKind.wrap .u64 ((IntKind.wrap .u64 ((ishr .u64 (IntKind.wrap .u64 (qa)) 32) * (ishr .u64 (IntKind.wrap .u64 (qb)) 32))) + (ishr .u64 (IntKind.wrap .u64 ((IntKind.wrap .u64 ((ishr .u64 (IntKind.wrap .u64 (qa)) 32) * (ibits .and .u64 (IntKind.wrap .u64 (qb)) 4294967295))) + (ishr .u64 (IntKind.wrap .u64 ((ibits .and .u64 (IntKind.wrap .u64 (qa)) 4294967295) * (ibits .and .u64 (IntKind.wrap .u64 (qb)) 4294967295))) 32))) 32))) + (ishr .u64 (IntKind.wrap .u64 ((ibits .and .u64 (IntKind.wrap .u64 ((IntKind.wrap .u64 ((ishr .u64 (IntKind.wrap .u64 (qa)) 32) * (ibits .and .u64 (IntKind.wrap .u64 (qb)) 4294967295))) + (ishr .u64 (IntKind.wrap .u64 ((ibits .and .u64 (IntKind.wrap .u64 (qa)) 4294967295) * (ibits .and .u64 (IntKind.wrap .u64 (qb)) 4294967295))) 32))) 4294967295) + (IntKind.wrap .u64 ((ibits .and .u64 (IntKind.wrap .u64 (qa)) 4294967295) * (ishr .u64 (IntKind.wrap .u64 (qb)) 32))))) 32))) = (IntKind.wrap .u64 ((IntKind.wrap .u64 ((IntKind.wrap .u64 ((ishr .u64 (IntKind.wrap .u64 (qc)) 32) * (ishr .u64 (IntKind.wrap .u64 (qd)) 32))) + (ishr .u64 (IntKind.wrap .u64 ((IntKind.wrap .u64 ((ishr .u64 (IntKind.wrap .u64 (qc)) 32) * (ibits .and .u64 (IntKind.wrap .u64 (qd)) 4294967295))) + (ishr .u64 (IntKind.wrap .u64 ((ibits .and .u64 (IntKind.wrap .u64 (qc)) 4294967295) * (ibits .and .u64 (IntKind.wrap .u64 (qd)) 4294967295))) 32))) 32))) + (ishr .u64 (IntKind.wrap .u64 ((ibits .and .u64 (IntKind.wrap .u64 ((IntKind.wrap .u64 ((ishr .u64 (IntKind.wrap .u64 (qc)) 32) * (ibits .and .u64 (IntKind.wrap .u64 (qd)) 4294967295))) + (ishr .u64 (IntKind.wrap .u64 ((ibits .and .u64 (IntKind.wrap .u64 (qc)) 4294967295) * (ibits .and .u64 (IntKind.wrap .u64 (qd)) 4294967295))) 32))) 4294967295) + (IntKind.wrap .u64 ((ibits .and .u64 (IntKind.wrap .u64 (qc)) 4294967295) * (ishr .u64 (IntKind.wrap .u64 (qd)) 32))))) 32)))))
    (some (decide ((IntKind.wrap .u64 ((IntKind.wrap .u64 ((IntKind.wrap .u64 ((ishr .u64 (IntKind.wrap .u64 (qa)) 32) * (ishr .u64 (IntKind.wrap .u64 (qb)) 32))) + (ishr .u64 (IntKind.wrap .u64 ((IntKind.wrap .u64 ((ishr .u64 (IntKind.wrap .u64 (qa)) 32) * (ibits .and .u64 (IntKind.wrap .u64 (qb)) 4294967295))) + (ishr .u64 (IntKind.wrap .u64 ((ibits .and .u64 (IntKind.wrap .u64 (qa)) 4294967295) * (ibits .and .u64 (IntKind.wrap .u64 (qb)) 4294967295))) 32))) 32))) + (ishr .u64 (IntKind.wrap .u64 ((ibits .and .u64 (IntKind.wrap .u64 ((IntKind.wrap .u64 ((ishr .u64 (IntKind.wrap .u64 (qa)) 32) * (ibits .and .u64 (IntKind.wrap .u64 (qb)) 4294967295))) + (ishr .u64 (IntKind.wrap .u64 ((ibits .and .u64 (IntKind.wrap .u64 (qa)) 4294967295) * (ibits .and .u64 (IntKind.wrap .u64 (qb)) 4294967295))) 32))) 4294967295) + (IntKind.wrap .u64 ((ibits .and .u64 (IntKind.wrap .u64 (qa)) 4294967295) * (ishr .u64 (IntKind.wrap .u64 (qb)) 32))))) 32))) < (IntKind.wrap .u64 ((IntKind.wrap .u64 ((IntKind.wrap .u64 ((ishr .u64 (IntKind.wrap .u64 (qc)) 32) * (ishr .u64 (IntKind.wrap .u64 (qd)) 32))) + (ishr .u64 (IntKind.wrap .u64 ((IntKind.wrap .u64 ((ishr .u64 (IntKind.wrap .u64 (qc)) 32) * (ibits .and .u64 (IntKind.wrap .u64 (qd)) 4294967295))) + (ishr .u64 (IntKind.wrap .u64 ((ibits .and .u64 (IntKind.wrap .u64 (qc)) 4294967295) * (ibits .and .u64 (IntKind.wrap .u64 (qd)) 4294967295))) 32))) 32))) + (ishr .u64 (IntKind.wrap .u64 ((ibits .and .u64 (IntKind.wrap .u64 ((IntKind.wrap .u64 ((ishr .u64 (IntKind.wrap .u64 (qc)) 32) * (ibits .and .u64 (IntKind.wrap .u64 (qd)) 4294967295))) + (ishr .u64 (IntKind.wrap .u64 ((ibits .and .u64 (IntKind.wrap .u64 (qc)) 4294967295) * (ibits .and .u64 (IntKind.wrap .u64 (qd)) 4294967295))) 32))) 4294967295) + (IntKind.wrap .u64 ((ibits .and .u64 (IntKind.wrap .u64 (qc)) 4294967295) * (ishr .u64 (IntKind.wrap .u64 (qd)) 32))))) 32))))))
    (some false)

noncomputable def z7 (qa : Int) (qb : Int) (qc : Int) (qd : Int) : Option (Bool) :=
  (z11 qa qb qc qd).bind fun vx1 =>
  cond (vx1)
    (some vx1)
    (cond (decide ((IntKind.wrap .u64 ((IntKind.wrap .u64 ((IntKind.wrap .u64 ((ishr .u64 (IntKind.wrap .u64 (qa)) 32) * (ishr .u64 (IntKind.wrap .u64 (qb)) 32))) + (ishr .u64 (IntKind.wrap .u64 ((IntKind.wrap .u64 ((ishr .u64 (IntKind.wrap .u64 (qa)) 32) * (ibits .and .u64 (IntKind.wrap .u64 (qb)) 4294967295))) + (ishr .u64 (IntKind.wrap .u64 ((ibits .and .u64 (IntKind.wrap .u64 (qa)) 4294967295) * (ibits .and .u64 (IntKind.wrap .u64 (qb)) 4294967295))) 32))) 32))) + (ishr .u64 (IntKind.wrap .u64 ((ibits .and .u64 (IntKind.wrap .u64 ((IntKind.wrap .u64 ((ishr .u64 (IntKind.wrap .u64 (qa)) 32) * (ibits .and .u64 (IntKind.wrap .u64 (qb)) 4294967295))) + (ishr .u64 (IntKind.wrap .u64 ((ibits .and .u64 (IntKind.wrap .u64 (qa)) 4294967295) * (ibits .and .u64 (IntKind.wrap .u64 (qb)) 4294967295))) 32))) 4294967295) + (IntKind.wrap .u64 ((ibits .and .u64 (IntKind.wrap .u64 (qa)) 4294967295) * (ishr .u64 (IntKind.wrap .u64 (qb)) 32))))) 32))) = (IntKind.wrap .u64 ((IntKind.wrap .u64 ((IntKind.wrap .u64 ((ishr .u64 (IntKind.wrap .u64 (qc)) 32) * (ishr .u64 (IntKind.wrap .u64 (qd)) 32))) + (ishr .u64 (IntKind.wrap .u64 ((IntKind.wrap .u64 ((ishr .u64 (IntKind.wrap .u64 (qc)) 32) * (ibits .and .u64 (IntKind.wrap .u64 (qd)) 4294967295))) + (ishr .u64 (IntKind.wrap .u64 ((ibits .and .u64 (IntKind.wrap .u64 (qc)) 4294967295) * (ibits .and .u64 (IntKind.wrap .u64 (qd)) 4294967295))) 32))) 32))) + (ishr .u64 (IntKind.wrap .u64 ((ibits .and .u64 (IntKind.wrap .u64 ((IntKind.wrap .u64 ((ishr .u64 (IntKind.wrap .u64 (qc)) 32) * (ibits .and .u64 (IntKind.wrap .u64 (qd)) 4294967295))) + (ishr .u64 (IntKind.wrap .u64 ((ibits .and .u64 (IntKind.wrap .u64 (qc)) 4294967295) * (ibits .and .u64 (IntKind.wrap .u64 (qd)) 4294967295))) 32))) 4294967295) + (IntKind.wrap .u64 ((ibits .and .u64 (IntKind.wrap .u64 (qc)) 4294967295) * (ishr .u64 (IntKind.wrap .u64 (qd)) 32))))) 32)))))
      (some (decide ((IntKind.wrap .u64 ((IntKind.wrap .u64 (qa)) * (IntKind.wrap .u64 (qb)))) < (IntKind.wrap .u64 ((IntKind.wrap .u64 (qc)) * (IntKind.wrap .u64 (qd)))))))
      (some false))

noncomputable def z15 (qa : Int) (qb : Int) (qc : Int) (qd : Int) : Option (Bool) :=
  cond (decide ((IntKind.wrap .u64 ((IntKind.wrap .u64 ((IntKind.wrap .u64 ((ishr .u64 (IntKind.wrap .u64 (qa)) 32) * (ishr .u64 (IntKind.wrap .u64 (qb)) 32))) + (ishr .u64 (IntKind.wrap .u64 ((IntKind.wrap .u64 ((ishr .u64 (IntKind.wrap .u64 (qa)) 32) * (ibits .and .u64 (IntKind.wrap .u64 (qb)) 4294967295))) + (ishr .u64 (IntKind.wrap .u64 ((ibits .and .u64 (IntKind.wrap .u64 (qa)) 4294967295) * (ibits .and .u64 (IntKind.wrap .u64 (qb)) 4294967295))) 32))) 32))) + (ishr .u64 (IntKind.wrap .u64 ((ibits .and .u64 (IntKind.wrap .u64 ((IntKind.wrap .u64 ((ishr .u64 (IntKind.wrap .u64 (qa)) 32) * (ibits .and .u64 (IntKind.wrap .u64 (qb)) 4294967295))) + (ishr .u64 (IntKind.wrap .u64 ((ibits .and .u64 (IntKind.wrap .u64 (qa)) 4294967295) * (ibits .and .u64 (IntKind.wrap .u64 (qb)) 4294967295))) 32))) 4294967295) + (IntKind.wrap .u64 ((ibits .and .u64 (IntKind.wrap .u64 (qa)) 4294967295) * (ishr .u64 (IntKind.wrap .u64 (qb)) 32))))) 32))) = (IntKind.wrap .u64 ((IntKind.wrap .u64 ((IntKind.wrap .u64 ((ishr .u64 (IntKind.wrap .u64 (qc)) 32) * (ishr .u64 (IntKind.wrap .u64 (qd)) 32))) + (ishr .u64 (IntKind.wrap .u64 ((IntKind.wrap .u64 ((ishr .u64 (IntKind.wrap .u64 (qc)) 32) * (ibits .and .u64 (IntKind.wrap .u64 (qd)) 4294967295))) + (ishr .u64 (IntKind.wrap .u64 ((ibits .and .u64 (IntKind.wrap .u64 (qc)) 4294967295) * (ibits .and .u64 (IntKind.wrap .u64 (qd)) 4294967295))) 32))) 32))) + (ishr .u64 (IntKind.wrap .u64 ((ibits .and .u64 (IntKind.wrap .u64 ((IntKind.wrap .u64 ((ishr .u64 (IntKind.wrap .u64 (qc)) 32) * (ibits .and .u64 (IntKind.wrap .u64 (qd)) 4294967295))) + (ishr .u64 (IntKind.wrap .u64 ((ibits .and .u64 (IntKind.wrap .u64 (qc)) 4294967295) * (ibits .and .u64 (IntKind.wrap .u64 (qd)) 4294967295))) 32))) 4294967295) + (IntKind.wrap .u64 ((ibits .and .u64 (IntKind.wrap .u64 (qc)) 4294967295) * (ishr .u64 (IntKind.wrap .u64 (qd)) 32))))) 32)))))
    (some (decide ((IntKind.wrap .u64 ((IntKind.wrap .u64 (qa)) * (IntKind.wrap .u64 (qb)))) = (IntKind.wrap .u64 ((IntKind.wrap .u64 (qc)) * (IntKind.wrap .u64 (qd)))))))
    (some false)

noncomputable def z4 (qa : Int) (qb : Int) (qc : Int) (qd : Int) : Option (Int) :=
  (z129 (IntKind.wrap .u64 (qa)) (IntKind.wrap .u64 (qb))).bind fun _ =>
  (z129 (IntKind.wrap .u64 (qc)) (IntKind.wrap .u64 (qd))).bind fun _ =>
  (z7 qa qb qc qd).bind fun vx2_1 =>
  cond (vx2_1)
    (some (-1))
    ((z15 qa qb qc qd).bind fun vx3_1 =>
    cond (vx3_1)
      (some 0)
      (some 1))

/-! ### beaconfleet/place.less -/
noncomputable def z581 (qa : api_Fraction) (qb : api_Fraction) : Option (Bool) :=
  (z4 qa.Num qb.Den qb.Num qa.Den).bind fun vr =>
  some (decide (vr < 0))

/-! ### beaconfleet/place.Plain$1 -/
noncomputable def z452 (recF : Int → Int → (List Bool) → Int → (List api_Fix) → Option ((List Bool))) (qi : Int) (qk : Int) (qx2 : List api_Fix) (vaway : api_Fraction) (vbest : Int) (vm : Int) : Option ((api_Fraction × Int)) :=
  (at? qx2 qi).bind fun vy5 =>
  (z604 vy5).bind fun _ =>
  (at? qx2 qk).bind fun vy6 =>
  (z604 vy6).bind fun _ =>
  (at? qx2 vm).bind fun vy7 =>
  (z604 vy7).bind fun _ =>
  (place_far (api_Spot.mk vy5.X vy5.Y) (api_Spot.mk vy6.X vy6.Y) (api_Spot.mk vy7.X vy7.Y)).bind fun vr2 =>
  (z581 vaway vr2).bind fun vr1_1 =>
  cond (vr1_1)
    (some (vr2, vm))
    (some (vaway, vbest))

noncomputable def z447 (recF : Int → Int → (List Bool) → Int → (List api_Fix) → Option ((List Bool))) (qi : Int) (qk : Int) (qx2 : List api_Fix) : api_Fraction × Int × Int → Option ((api_Fraction × Int × Int) ⊕ (Int))
  | (vaway, vbest, vm) =>
  cond (decide (vm < qk))
    ((z452 recF qi qk qx2 vaway vbest vm).bind fun (vaway2_1, vbest2_1) =>
    some (.inl (vaway2_1, vbest2_1, IntKind.wrap .i64 (vm + 1))))
    (some (.inr vbest))

noncomputable def z444 : Nat → Int → Int → (List Bool) → Int → (List api_Fix) → Option ((List Bool))
  | 0, _, _, _, _, _ => none
  | n + 1, qi, qk, qx, qx1, qx2 =>
  (at? qx qi).bind fun vy =>
  (at? (qx.set qi.toNat true) qk).bind fun vy1 =>
  (loopO (z447 (z444 n) qi qk qx2) (api_Fraction.mk (IntKind.wrap .i64 (qx1 * qx1)) 1, (-1), IntKind.wrap .i64 (qi + 1))).bind fun vbest3_1 =>
  cond (decide (0 ≤ vbest3_1))
    (((z444 n) qi vbest3_1 ((qx.set qi.toNat true).set qk.toNat true) qx1 qx2).bind fun vs =>
    ((z444 n) vbest3_1 qk vs qx1 qx2).bind fun vs1 =>
    some vs1)
    (some ((qx.set qi.toNat true).set qk.toNat true))

noncomputable def z442 (qi : Int) (qk : Int) (qx : List Bool) (qx1 : Int) (qx2 : List api_Fix) : Option ((List Bool)) := fixO fun n => z444 n qi qk qx qx1 qx2

/-! ### beaconfleet/place.Plain -/
noncomputable def z458 (ql : List api_Fix) (qmost : Int) : Option ((List Bool)) :=
  cond (decide (0 < (ql.length : Int)))
    ((z442 0 (IntKind.wrap .i64 ((ql.length : Int) - 1)) (List.replicate (ql.length : Int).toNat false) qmost ql).bind fun vs2 =>
    some vs2)
    (some (List.replicate (ql.length : Int).toNat false))

noncomputable def z467 (vkeep1 : List Bool) (vout : List Int) (vx : Int) : Option ((List Int)) :=
  (at? vkeep1 vx).bind fun vy1 =>
  cond (vy1)
    (gd (Nat.ble (vout.length + ([vx] : List Int).length) LIM) <|
    some (vout ++ ([vx] : List Int)))
    (some vout)

noncomputable def z462 (vkeep1 : List Bool) : (List Int) × Int → Option (((List Int) × Int) ⊕ ((List Int)))
  | (vout, vx) =>
  cond (decide (vx < (vkeep1.length : Int)))
    ((z467 vkeep1 vout vx).bind fun vout2_1 =>
    some (.inl (vout2_1, IntKind.wrap .i64 (vx + 1))))
    (some (.inr vout))

noncomputable def z441 (ql : List api_Fix) (qmost : Int) : Option ((List Int) × Int) :=
  (z623 ql).bind fun vr1 =>
  cond (!decide (vr1 = 0))
    (some ([], vr1))
    ((base_Out qmost 0 10000).bind fun vr =>
    cond (vr)
      (some ([], 1))
      (gd (decide (0 ≤ (ql.length : Int)) && decide ((ql.length : Int) ≤ (ql.length : Int)) && decide ((ql.length : Int) ≤ 137438953472)) <|
      (z458 ql qmost).bind fun vkeep1 =>
      (loopO (z462 vkeep1) ([], 0)).bind fun vout3_1 =>
      some (vout3_1, 0)))

/-! ### beaconfleet/place.on -/
noncomputable def z597 (qa : api_Spot) (qb : api_Spot) (qs : api_Spot) : Option (Bool) :=
  (z601 qa qb qs).bind fun _ =>
  cond (decide ((IntKind.wrap .i64 ((IntKind.wrap .i64 ((IntKind.wrap .i64 (qb.X - qa.X)) * (IntKind.wrap .i64 (qs.Y - qa.Y)))) - (IntKind.wrap .i64 ((IntKind.wrap .i64 (qb.Y - qa.Y)) * (IntKind.wrap .i64 (qs.X - qa.X)))))) = 0))
    (cond (decide ((imin qa.X qb.X) ≤ qs.X))
      (cond (decide (qs.X ≤ (imax qa.X qb.X)))
        (cond (decide ((imin qa.Y qb.Y) ≤ qs.Y))
          (some (decide (qs.Y ≤ (imax qa.Y qb.Y))))
          (some false))
        (some false))
      (some false))
    (some false)

noncomputable def place_on (qa : api_Spot) (qb : api_Spot) (qs : api_Spot) : Option (Bool) :=
  (z597 qa qb qs).bind fun vx1 =>
  some vx1

/-! ### beaconfleet/place.meets -/
noncomputable def z587 (qx : api_Spot) (qx1 : api_Spot) (qx2 : api_Spot) (qx3 : api_Spot) : Option (Bool) :=
  (place_on qx qx1 qx2).bind fun vr =>
  cond (vr)
    (some true)
    ((place_on qx qx1 qx3).bind fun vr1 =>
    cond (vr1)
      (some true)
      ((place_on qx2 qx3 qx).bind fun vr2 =>
      cond (vr2)
        (some true)
        ((place_on qx2 qx3 qx1).bind fun vr3 =>
        some vr3)))

noncomputable def z591 (vr4 : Int) (vr5 : Int) (vr6 : Int) (vr7 : Int) : Option (Bool) :=
  cond (decide ((IntKind.wrap .i64 (vr4 * vr5)) < 0))
    (some (decide ((IntKind.wrap .i64 (vr6 * vr7)) < 0)))
    (some false)

noncomputable def z584 (qx : api_Spot) (qx1 : api_Spot) (qx2 : api_Spot) (qx3 : api_Spot) : Option (Bool) :=
  (z587 qx qx1 qx2 qx3).bind fun vx1 =>
  cond (vx1)
    (some true)
    ((z601 qx qx1 qx2).bind fun _ =>
    (z142 (IntKind.wrap .i64 ((IntKind.wrap .i64 ((IntKind.wrap .i64 (qx1.X - qx.X)) * (IntKind.wrap .i64 (qx2.Y - qx.Y)))) - (IntKind.wrap .i64 ((IntKind.wrap .i64 (qx1.Y - qx.Y)) * (IntKind.wrap .i64 (qx2.X - qx.X)))))) 0).bind fun vr4 =>
    (z601 qx qx1 qx3).bind fun _ =>
    (z142 (IntKind.wrap .i64 ((IntKind.wrap .i64 ((IntKind.wrap .i64 (qx1.X - qx.X)) * (IntKind.wrap .i64 (qx3.Y - qx.Y)))) - (IntKind.wrap .i64 ((IntKind.wrap .i64 (qx1.Y - qx.Y)) * (IntKind.wrap .i64 (qx3.X - qx.X)))))) 0).bind fun vr5 =>
    (z601 qx2 qx3 qx).bind fun _ =>
    (z142 (IntKind.wrap .i64 ((IntKind.wrap .i64 ((IntKind.wrap .i64 (qx3.X - qx2.X)) * (IntKind.wrap .i64 (qx.Y - qx2.Y)))) - (IntKind.wrap .i64 ((IntKind.wrap .i64 (qx3.Y - qx2.Y)) * (IntKind.wrap .i64 (qx.X - qx2.X)))))) 0).bind fun vr6 =>
    (z601 qx2 qx3 qx1).bind fun _ =>
    (z142 (IntKind.wrap .i64 ((IntKind.wrap .i64 ((IntKind.wrap .i64 (qx3.X - qx2.X)) * (IntKind.wrap .i64 (qx1.Y - qx2.Y)))) - (IntKind.wrap .i64 ((IntKind.wrap .i64 (qx3.Y - qx2.Y)) * (IntKind.wrap .i64 (qx1.X - qx2.X)))))) 0).bind fun vr7 =>
    (z591 vr4 vr5 vr6 vr7).bind fun vx2_1 =>
    some vx2_1)

/-! ### beaconfleet/place.crossed -/
noncomputable def z511 (qx : List api_Spot) (vx : Int) (vy6 : api_Spot) (vy7 : api_Spot) (vx8 : Int) (vy10 : api_Spot) (vy11 : api_Spot) : Option (Bool) :=
  cond (!(decide (vx8 = (IntKind.wrap .i64 (vx + 1)))))
    (cond (!(decide (((IntKind.wrap .i64 (vx8 + 1)).tmod (qx.length : Int)) = vx)))
      ((z584 vy6 vy7 vy10 vy11).bind fun vr8_3 =>
      some vr8_3)
      (some false))
    (some false)

noncomputable def z515 (vx : Int) (vy6 : api_Spot) (vy7 : api_Spot) (vx8 : Int) (vy10 : api_Spot) (vy11 : api_Spot) : Option (Bool) :=
  cond (decide (vx8 = (IntKind.wrap .i64 (vx + 1))))
    ((place_on vy6 vy7 vy11).bind fun vr13 =>
    cond (vr13)
      (some true)
      ((place_on vy10 vy11 vy6).bind fun vr14 =>
      some vr14))
    (some false)

noncomputable def z519 (qx : List api_Spot) (vx : Int) (vy6 : api_Spot) (vy7 : api_Spot) (vx8 : Int) (vy10 : api_Spot) (vy11 : api_Spot) : Option (Bool) :=
  cond (decide (((IntKind.wrap .i64 (vx8 + 1)).tmod (qx.length : Int)) = vx))
    ((place_on vy6 vy7 vy10).bind fun vr15 =>
    cond (vr15)
      (some true)
      ((place_on vy10 vy11 vy7).bind fun vr16 =>
      some vr16))
    (some false)

noncomputable def z506 (qx : List api_Spot) (vx : Int) (vy6 : api_Spot) (vy7 : api_Spot) (vx8 : Int) : Option ((Int) ⊕ (Unit ⊕ Unit)) :=
  cond (decide (vx8 < (qx.length : Int)))
    ((at? qx vx8).bind fun vy10 =>
    gd (!((qx.length : Int) == 0)) <|
    (at? qx ((IntKind.wrap .i64 (vx8 + 1)).tmod (qx.length : Int))).bind fun vy11 =>
    (z511 qx vx vy6 vy7 vx8 vy10 vy11).bind fun vx12_1 =>
    cond (vx12_1)
      (some (.inr (.inr ())))
      ((z515 vx vy6 vy7 vx8 vy10 vy11).bind fun vx13_1 =>
      cond (vx13_1)
        (some (.inr (.inr ())))
        ((z519 qx vx vy6 vy7 vx8 vy10 vy11).bind fun vx14_1 =>
        cond (vx14_1)
          (some (.inr (.inr ())))
          (some (.inl (IntKind.wrap .i64 (vx8 + 1)))))))
    (some (.inr (.inl ())))

noncomputable def z501 (qx : List api_Spot) (vx : Int) : Option ((Int) ⊕ (Unit ⊕ Unit)) :=
  cond (decide (vx < (qx.length : Int)))
    ((at? qx vx).bind fun vy6 =>
    gd (!((qx.length : Int) == 0)) <|
    (at? qx ((IntKind.wrap .i64 (vx + 1)).tmod (qx.length : Int))).bind fun vy7 =>
    (loopO (z506 qx vx vy6 vy7) (IntKind.wrap .i64 (vx + 1))).bind fun x => match x with
      | .inl _ =>
        some (.inl (IntKind.wrap .i64 (vx + 1)))
      | .inr _ =>
        some (.inr (.inr ())))
    (some (.inr (.inl ())))

noncomputable def z498 (qx : List api_Spot) : Option (Bool) :=
  (loopO (z501 qx) 0).bind fun x => match x with
    | .inl _ =>
      some false
    | .inr _ =>
      some true

/-! ### beaconfleet/place.CheckFence -/
noncomputable def z384 (qf : api_Fence) (vx : Int) : Option ((Int) ⊕ (Unit ⊕ Int)) :=
  cond (decide (vx < (qf.Corners.length : Int)))
    ((at? qf.Corners vx).bind fun vy1 =>
    (z574 vy1).bind fun vr2_1 =>
    cond (!vr2_1)
      (some (.inr (.inr 1)))
      ((sub? qf.Corners 0 vx).bind fun vl1 =>
      (z832 vl1 vy1).bind fun vr1_1 =>
      cond (vr1_1)
        (some (.inr (.inr 6)))
        (some (.inl (IntKind.wrap .i64 (vx + 1))))))
    (some (.inr (.inl ())))

noncomputable def z381 (qf : api_Fence) : Option (Int) :=
  (base_Key qf.Key).bind fun vr =>
  cond (!vr)
    (some 5)
    (cond (decide ((qf.Corners.length : Int) < 3))
      (some 3)
      (cond (decide (200 < (qf.Corners.length : Int)))
        (some 2)
        ((loopO (z384 qf) 0).bind fun x => match x with
          | .inl _ =>
            (z498 qf.Corners).bind fun vr17 =>
            cond (vr17)
              (some 13)
              (some 0)
          | .inr vx1_1 =>
            some vx1_1)))

/-! ### beaconfleet/place.where$1 -/
noncomputable def z630 (qa : api_Spot) (qb : api_Spot) (qx : api_Spot) : Option (Bool) :=
  (place_on qa qb qx).bind fun vr =>
  some vr

/-! ### beaconfleet/place.edges -/
noncomputable def z542 (ql : List api_Spot) (qf : api_Spot) (vx : Int) : Option ((Int) ⊕ (Unit ⊕ Unit)) :=
  cond (decide (vx < (ql.length : Int)))
    ((at? ql vx).bind fun vy2 =>
    gd (!((ql.length : Int) == 0)) <|
    (at? ql ((IntKind.wrap .i64 (vx + 1)).tmod (ql.length : Int))).bind fun vy3 =>
    (z630 vy2 vy3 qf).bind fun vr1_1 =>
    cond (vr1_1)
      (some (.inr (.inr ())))
      (some (.inl (IntKind.wrap .i64 (vx + 1)))))
    (some (.inr (.inl ())))

noncomputable def z539 (ql : List api_Spot) (qf : api_Spot) : Option (Bool) :=
  (loopO (z542 ql qf) 0).bind fun x => match x with
    | .inl _ =>
      some false
    | .inr _ =>
      some true

/-! ### beaconfleet/place.where$2 -/
noncomputable def z636 (qa : api_Spot) (qb : api_Spot) : Option ((api_Spot × api_Spot)) :=
  cond (decide (qb.Y < qa.Y))
    (some (qb, qa))
    (some (qa, qb))

noncomputable def z644 (qx : api_Spot) (va1 : api_Spot) (vb1 : api_Spot) : Option (Bool) :=
  cond (decide (va1.Y ≤ qx.Y))
    (cond (decide (qx.Y < vb1.Y))
      ((z601 va1 vb1 qx).bind fun _ =>
      some (decide (0 < (IntKind.wrap .i64 ((IntKind.wrap .i64 ((IntKind.wrap .i64 (vb1.X - va1.X)) * (IntKind.wrap .i64 (qx.Y - va1.Y)))) - (IntKind.wrap .i64 ((IntKind.wrap .i64 (vb1.Y - va1.Y)) * (IntKind.wrap .i64 (qx.X - va1.X)))))))))
      (some false))
    (some false)

noncomputable def z640 (qx : api_Spot) (qx1 : Bool) (va1 : api_Spot) (vb1 : api_Spot) : Option (Bool) :=
  (z644 qx va1 vb1).bind fun vx1 =>
  cond (vx1)
    (some (!qx1))
    (some qx1)

noncomputable def z633 (qa : api_Spot) (qb : api_Spot) (qx : api_Spot) (qx1 : Bool) : Option (Bool) :=
  (z636 qa qb).bind fun (va1, vb1) =>
  (z640 qx qx1 va1 vb1).bind fun vs1 =>
  some vs1

/-! ### beaconfleet/place.edges -/
noncomputable def z550 (ql : List api_Spot) (qf : api_Spot) : Bool × Int → Option ((Bool × Int) ⊕ (Bool))
  | (vs, vx) =>
  cond (decide (vx < (ql.length : Int)))
    ((at? ql vx).bind fun vy2 =>
    gd (!((ql.length : Int) == 0)) <|
    (at? ql ((IntKind.wrap .i64 (vx + 1)).tmod (ql.length : Int))).bind fun vy3 =>
    (z633 vy2 vy3 qf vs).bind fun vs2_1 =>
    some (.inl (vs2_1, IntKind.wrap .i64 (vx + 1))))
    (some (.inr vs))

noncomputable def z547 (ql : List api_Spot) (qf : api_Spot) (qf1 : Bool) : Option (Bool) :=
  (loopO (z550 ql qf) (qf1, 0)).bind fun vs1_1 =>
  some vs1_1

/-! ### beaconfleet/place.where -/
noncomputable def z629 (ql : List api_Spot) (qs : api_Spot) : Option (Int) :=
  (z539 ql qs).bind fun vr =>
  cond (vr)
    (some 1)
    ((z547 ql qs false).bind fun vs3 =>
    cond (vs3)
      (some 2)
      (some 0))

/-! ### beaconfleet/place.touch$1$1 -/
noncomputable def z612 (qc : api_Spot) (qd : api_Spot) (qx : api_Spot) (qx1 : api_Spot) : Option (Bool) :=
  (z584 qx qx1 qc qd).bind fun vr8 =>
  some vr8

/-! ### beaconfleet/place.edges -/
noncomputable def z527 (ql : List api_Spot) (qf : api_Spot) (qf1 : api_Spot) (vx : Int) : Option ((Int) ⊕ (Unit ⊕ Unit)) :=
  cond (decide (vx < (ql.length : Int)))
    ((at? ql vx).bind fun vy2 =>
    gd (!((ql.length : Int) == 0)) <|
    (at? ql ((IntKind.wrap .i64 (vx + 1)).tmod (ql.length : Int))).bind fun vy3 =>
    (z612 vy2 vy3 qf qf1).bind fun vr1 =>
    cond (vr1)
      (some (.inr (.inr ())))
      (some (.inl (IntKind.wrap .i64 (vx + 1)))))
    (some (.inr (.inl ())))

noncomputable def z524 (ql : List api_Spot) (qf : api_Spot) (qf1 : api_Spot) : Option (Bool) :=
  (loopO (z527 ql qf qf1) 0).bind fun x => match x with
    | .inl _ =>
      some false
    | .inr _ =>
      some true

/-! ### beaconfleet/place.touch$1 -/
noncomputable def z611 (qa : api_Spot) (qb : api_Spot) (qx : List api_Spot) : Option (Bool) :=
  (z524 qx qa qb).bind fun vr2 =>
  some vr2

/-! ### beaconfleet/place.edges -/
noncomputable def z534 (ql : List api_Spot) (vx : Int) : Option ((Int) ⊕ (Unit ⊕ Unit)) :=
  cond (decide (vx < (ql.length : Int)))
    ((at? ql vx).bind fun vy2 =>
    gd (!((ql.length : Int) == 0)) <|
    (at? ql ((IntKind.wrap .i64 (vx + 1)).tmod (ql.length : Int))).bind fun vy3 =>
    (z611 vy2 vy3 ql).bind fun vr1 =>
    cond (vr1)
      (some (.inr (.inr ())))
      (some (.inl (IntKind.wrap .i64 (vx + 1)))))
    (some (.inr (.inl ())))

noncomputable def z523 (ql : List api_Spot) : Option (Bool) :=
  (loopO (z534 ql) 0).bind fun x => match x with
    | .inl _ =>
      some false
    | .inr _ =>
      some true

/-! ### beaconfleet/place.touch -/
noncomputable def z619 (ql : List api_Spot) : Option (Bool) :=
  (at? ql 0).bind fun vy =>
  (z629 ql vy).bind fun vr1 =>
  cond (!decide (vr1 = 0))
    (some true)
    ((z523 ql).bind fun vr2 =>
    some vr2)

noncomputable def z610 (ql : List api_Spot) : Option (Bool) :=
  (z619 ql).bind fun vx1 =>
  some vx1

/-! ### beaconfleet/place.Meet -/
noncomputable def z419 (qf : api_Fence) : Option (Bool × Int) :=
  (z381 qf).bind fun vr3 =>
  (z27 ([vr3, vr3] : List Int)).bind fun vr =>
  cond (!decide (vr = 0))
    (some (false, vr))
    ((z610 qf.Corners).bind fun vr1 =>
    some (vr1, 0))

/-! ### beaconfleet/place.Stays -/
noncomputable def z474 (qx1 : Int) (qx2 : Int) : Option (Bool) :=
  (base_Out qx1 0 10000).bind fun vr =>
  cond (vr)
    (some true)
    ((base_Out qx2 1 345686400000).bind fun vr2 =>
    some vr2)

noncomputable def z488 (qx : List api_Fix) (qx1 : Int) (vx3 : Int) (vx8 : Int) : Option (Bool) :=
  cond (decide (vx8 < (qx.length : Int)))
    ((at? qx vx3).bind fun vy8 =>
    (z604 vy8).bind fun _ =>
    (at? qx vx8).bind fun vy9 =>
    (z604 vy9).bind fun _ =>
    (z607 (api_Spot.mk vy8.X vy8.Y) (api_Spot.mk vy9.X vy9.Y)).bind fun _ =>
    some (decide ((IntKind.wrap .i64 ((IntKind.wrap .i64 ((IntKind.wrap .i64 (vy8.X - vy9.X)) * (IntKind.wrap .i64 (vy8.X - vy9.X)))) + (IntKind.wrap .i64 ((IntKind.wrap .i64 (vy8.Y - vy9.Y)) * (IntKind.wrap .i64 (vy8.Y - vy9.Y)))))) ≤ (IntKind.wrap .i64 (qx1 * qx1)))))
    (some false)

noncomputable def z483 (qx : List api_Fix) (qx1 : Int) (vx3 : Int) (vx8 : Int) : Option ((Int) ⊕ (Int)) :=
  (z488 qx qx1 vx3 vx8).bind fun vx10_1 =>
  cond (vx10_1)
    (some (.inl (IntKind.wrap .i64 (vx8 + 1))))
    (some (.inr vx8))

noncomputable def z478 (qx : List api_Fix) (qx1 : Int) (qx2 : Int) : (List api_Stay) × Int → Option (((List api_Stay) × Int) ⊕ ((List api_Stay)))
  | (vx2, vx3) =>
  cond (decide (vx3 < (qx.length : Int)))
    ((loopO (z483 qx qx1 vx3) (IntKind.wrap .i64 (vx3 + 1))).bind fun vx11_1 =>
    (at? qx (IntKind.wrap .i64 (vx11_1 - 1))).bind fun vy10 =>
    (at? qx vx3).bind fun vy11 =>
    cond (decide (qx2 ≤ (IntKind.wrap .i64 (vy10.At - vy11.At))))
      ((z604 vy11).bind fun _ =>
      gd (Nat.ble (vx2.length + ([api_Stay.mk vy11.At vy10.At (api_Spot.mk vy11.X vy11.Y)] : List api_Stay).length) LIM) <|
      some (.inl (vx2 ++ ([api_Stay.mk vy11.At vy10.At (api_Spot.mk vy11.X vy11.Y)] : List api_Stay), vx11_1)))
      (some (.inl (vx2, IntKind.wrap .i64 (vx3 + 1)))))
    (some (.inr vx2))

noncomputable def z471 (qx : List api_Fix) (qx1 : Int) (qx2 : Int) : Option ((List api_Stay) × Int) :=
  (z623 qx).bind fun vr1 =>
  cond (!decide (vr1 = 0))
    (some ([], vr1))
    ((z474 qx1 qx2).bind fun vx1 =>
    cond (vx1)
      (some ([], 1))
      ((loopO (z478 qx qx1 qx2) ([], 0)).bind fun vx12_1 =>
      some (vx12_1, 0)))

/-! ### slices.Equal[[]beaconfleet/api.Spot,beaconfleet/api.Spot] -/
noncomputable def z846 (qs1 : List api_Spot) (vx : Int) : Option ((Int) ⊕ (Unit ⊕ Unit)) :=
  cond (decide (vx < (qs1.length : Int)))
    ((at? qs1 vx).bind fun vy1 =>
    cond (!(decide (vy1.X = vy1.X) && (decide (vy1.Y = vy1.Y) && true)))
      (some (.inr (.inr ())))
      (some (.inl (IntKind.wrap .i64 (vx + 1)))))
    (some (.inr (.inl ())))

noncomputable def z843 (qs1 : List api_Spot) : Option (Bool) :=
  cond (!decide ((qs1.length : Int) = (qs1.length : Int)))
    (some false)
    ((loopO (z846 qs1) 0).bind fun x => match x with
      | .inl _ =>
        some true
      | .inr _ =>
        some false)

/-! ### slices.Equal[[]beaconfleet/api.Fix,beaconfleet/api.Fix] -/
noncomputable def z838 (qs1 : List api_Fix) (vx : Int) : Option ((Int) ⊕ (Unit ⊕ Unit)) :=
  cond (decide (vx < (qs1.length : Int)))
    ((at? qs1 vx).bind fun vy1 =>
    cond (!(decide (vy1.Device = vy1.Device) && (decide (vy1.At = vy1.At) && (decide (vy1.X = vy1.X) && (decide (vy1.Y = vy1.Y) && (decide (vy1.Error = vy1.Error) && true))))))
      (some (.inr (.inr ())))
      (some (.inl (IntKind.wrap .i64 (vx + 1)))))
    (some (.inr (.inl ())))

noncomputable def z835 (qs1 : List api_Fix) : Option (Bool) :=
  cond (!decide ((qs1.length : Int) = (qs1.length : Int)))
    (some false)
    ((loopO (z838 qs1) 0).bind fun x => match x with
      | .inl _ =>
        some true
      | .inr _ =>
        some false)

/-! ### beaconfleet/twin.CheckProps -/
noncomputable def z1284 : Unit → Option ((Unit) ⊕ (Unit))
  | _ =>
  cond (decide ((0 : Int) < 0))
    (none)
    (some (.inr ()))

noncomputable def z1289 : Unit → Option ((Unit) ⊕ (Unit))
  | _ =>
  cond (decide ((0 : Int) < 0))
    (none)
    (some (.inr ()))

noncomputable def z1281 : Option (Int) :=
  cond (decide (500 < (0 : Int)))
    (some 2)
    ((loopO z1284 ()).bind fun _ =>
    (loopO z1289 ()).bind fun _ =>
    some 0)

/-! ### internal/stringslite.IndexByte -/
noncomputable def z1264 (qs : List UInt8) (qc : Int) : Option (Unit) :=
  some ()

/-! ### internal/stringslite.Index -/
noncomputable def z1269 (qx : List UInt8) (qx1 : List UInt8) : Option (Bool) :=
  cond (decide ((qx1.length : Int) = 0))
    (some true)
    (some (decide (qx1 = qx)))

noncomputable def z1263 (qx : List UInt8) (qx1 : List UInt8) : Option (Int) :=
  (z1269 qx qx1).bind fun vx1 =>
  cond (vx1)
    (some 0)
    (cond (decide ((qx1.length : Int) = 1))
      ((at? qx1 0).bind fun vc =>
      (z1264 qx (vc.toNat : Int)).bind fun _ =>
      some (Lib.indexByte qx (vc.toNat : Int).toNat.toUInt8))
      (cond (decide ((qx.length : Int) ≤ (qx1.length : Int)))
        (some (-1))
        (none)))

/-! ### internal/stringslite.Cut -/
noncomputable def z1253 (qs : List UInt8) (qsep : List UInt8) : Option ((List UInt8) × (List UInt8) × Bool) :=
  (z1263 qs qsep).bind fun vr =>
  cond (decide (0 ≤ vr))
    ((sub? qs 0 vr).bind fun vs =>
    (sub? qs (IntKind.wrap .i64 (vr + (qsep.length : Int))) (qs.length : Int)).bind fun vs1 =>
    some (vs, vs1, true))
    (some (qs, ([] : List UInt8), false))

/-! ### strings.Cut -/
noncomputable def z1209 (qs : List UInt8) (qsep : List UInt8) : Option ((List UInt8) × (List UInt8) × Bool) :=
  (z1253 qs qsep).bind fun (vr1, vr2, vr3) =>
  some (vr1, vr2, vr3)

/-! ### beaconfleet/base.Dotted -/
noncomputable def z22 (qmost : Int) : (List UInt8) × Int → Option (((List UInt8) × Int) ⊕ (Unit ⊕ Bool))
  | (vs, vn) =>
  cond (decide (vn < qmost))
    ((z1209 vs ([46] : List UInt8)).bind fun (vr2, vr4_1, vr5_1) =>
    (base_Key vr2).bind fun vr3 =>
    cond (!vr3)
      (some (.inr (.inr false)))
      (cond (!vr5_1)
        (some (.inr (.inr true)))
        (some (.inl (vr4_1, IntKind.wrap .i64 (vn + 1))))))
    (some (.inr (.inl ())))

noncomputable def z19 (qs : List UInt8) (qmost : Int) : Option (Bool) :=
  (loopO (z22 qmost) (qs, 0)).bind fun x => match x with
    | .inl _ =>
      some false
    | .inr vx1 =>
      some vx1

/-! ### beaconfleet/twin.isName -/
noncomputable def z1341 (qs : List UInt8) : Option (Bool) :=
  (z19 qs 8).bind fun vr6 =>
  some vr6

/-! ### unicode/utf8.word[string] -/
noncomputable def z1418 (qs : List UInt8) : Option (Int) :=
  (at? qs 0).bind fun vc =>
  (at? qs 1).bind fun vc1 =>
  (at? qs 2).bind fun vc2 =>
  (at? qs 3).bind fun vc3 =>
  (at? qs 4).bind fun vc4 =>
  (at? qs 5).bind fun vc5 =>
  (at? qs 6).bind fun vc6 =>
  (at? qs 7).bind fun vc7 =>
  some (ibits .or .u64 (ibits .or .u64 (ibits .or .u64 (ibits .or .u64 (ibits .or .u64 (ibits .or .u64 (ibits .or .u64 (IntKind.wrap .u64 ((vc.toNat : Int))) (ishl .u64 (IntKind.wrap .u64 ((vc1.toNat : Int))) 8)) (ishl .u64 (IntKind.wrap .u64 ((vc2.toNat : Int))) 16)) (ishl .u64 (IntKind.wrap .u64 ((vc3.toNat : Int))) 24)) (ishl .u64 (IntKind.wrap .u64 ((vc4.toNat : Int))) 32)) (ishl .u64 (IntKind.wrap .u64 ((vc5.toNat : Int))) 40)) (ishl .u64 (IntKind.wrap .u64 ((vc6.toNat : Int))) 48)) (ishl .u64 (IntKind.wrap .u64 ((vc7.toNat : Int))) 56))

/-! ### unicode/utf8.ValidString -/
noncomputable def z1398 (vs12 : List UInt8) : Option (Bool) :=
  cond (decide (8 < (vs12.length : Int)))
    ((z1418 vs12).bind fun vr11 =>
    some (decide ((ibits .and .u64 vr11 9259542123273814144) = 0)))
    (some false)

noncomputable def z1402 (vs13 : List UInt8) : Option (Bool) :=
  cond (decide (16 < (vs13.length : Int)))
    ((z1418 vs13).bind fun vr12 =>
    (sub? vs13 8 (vs13.length : Int)).bind fun vs14 =>
    (z1418 vs14).bind fun vr13 =>
    some (decide ((ibits .and .u64 (ibits .or .u64 vr12 vr13) 9259542123273814144) = 0)))
    (some false)

noncomputable def z1411 (vx10 : List UInt8) : Option (Bool) :=
  cond (decide (32 < (vx10.length : Int)))
    ((z1418 vx10).bind fun vr18 =>
    (sub? vx10 8 (vx10.length : Int)).bind fun vs20 =>
    (z1418 vs20).bind fun vr19 =>
    (sub? vx10 16 (vx10.length : Int)).bind fun vs21 =>
    (z1418 vs21).bind fun vr20 =>
    (sub? vx10 24 (vx10.length : Int)).bind fun vs22 =>
    (z1418 vs22).bind fun vr21 =>
    some (decide ((ibits .and .u64 (ibits .or .u64 (ibits .or .u64 vr18 vr19) (ibits .or .u64 vr20 vr21)) 9259542123273814144) = 0)))
    (some false)

noncomputable def z1406 (vx10 : List UInt8) : Option (((List UInt8)) ⊕ ((List UInt8))) :=
  (z1411 vx10).bind fun vx12_1 =>
  cond (vx12_1)
    ((sub? vx10 32 (vx10.length : Int)).bind fun vs23 =>
    some (.inl vs23))
    (some (.inr vx10))

noncomputable def z1394 (vs12 : List UInt8) : Option ((List UInt8)) :=
  (z1398 vs12).bind fun vx8_1 =>
  cond (vx8_1)
    ((sub? vs12 8 (vs12.length : Int)).bind fun vs13 =>
    (z1402 vs13).bind fun vx9_1 =>
    cond (vx9_1)
      ((sub? vs13 16 (vs13.length : Int)).bind fun vs15 =>
      (loopO z1406 vs15).bind fun vx13_1 =>
      some vx13_1)
      (some vs13))
    (some vs12)

noncomputable def z1389 (vx : List UInt8) : Option (((List UInt8)) ⊕ (Unit)) :=
  cond (decide (0 < (vx.length : Int)))
    ((at? vx 0).bind fun vc1 =>
    cond (decide ((vc1.toNat : Int) < 128))
      ((sub? vx 1 (vx.length : Int)).bind fun vs12 =>
      (z1394 vs12).bind fun vx14_1 =>
      some (.inl vx14_1))
      (none))
    (some (.inr ()))

noncomputable def z1386 (qx : List UInt8) : Option (Unit) :=
  (loopO z1389 qx).bind fun _ =>
  some ()

/-! ### beaconfleet/base.Unmarked -/
noncomputable def z101 (qs : List UInt8) (vx : Int) : Option (Bool) :=
  (at? qs vx).bind fun vc1 =>
  cond (decide ((vc1.toNat : Int) < 32))
    (some true)
    (some (decide ((vc1.toNat : Int) = 127)))

noncomputable def z96 (qs : List UInt8) (vx : Int) : Option ((Int) ⊕ (Unit ⊕ Unit)) :=
  cond (decide (vx < (qs.length : Int)))
    ((z101 qs vx).bind fun vx2_1 =>
    cond (vx2_1)
      (some (.inr (.inr ())))
      (some (.inl (IntKind.wrap .i64 (vx + 1)))))
    (some (.inr (.inl ())))

noncomputable def z93 (qs : List UInt8) : Option (Bool) :=
  (loopO (z96 qs) 0).bind fun x => match x with
    | .inl _ =>
      (z1386 qs).bind fun _ =>
      some true
    | .inr _ =>
      some false

/-! ### beaconfleet/twin.valueFault -/
noncomputable def z1360 (qv : api_Value) : Option (api_Value ⊕ Unit) :=
  cond (decide (qv.Kind = 0))
    (some (.inl (api_Value.mk qv.Kind false 0 ([] : List UInt8))))
    (cond (decide (qv.Kind = 1))
      (some (.inl (api_Value.mk qv.Kind qv.Flag 0 ([] : List UInt8))))
      (cond (decide (qv.Kind = 2))
        (some (.inl (api_Value.mk qv.Kind false qv.Number ([] : List UInt8))))
        (cond (decide (qv.Kind = 3))
          (some (.inl (api_Value.mk qv.Kind false 0 qv.Words)))
          (some (.inr ())))))

noncomputable def z1357 (qv : api_Value) : Option (Int) :=
  (z1360 qv).bind fun x => match x with
    | .inl vused1 =>
      cond (!(decide (qv.Kind = vused1.Kind) && ((qv.Flag == vused1.Flag) && (decide (qv.Number = vused1.Number) && (decide (qv.Words = vused1.Words) && true)))))
        (some 3)
        ((base_Out qv.Number (-1000000000) 1000000000).bind fun vr =>
        cond (vr)
          (some 1)
          (cond (decide (1000 < (qv.Words.length : Int)))
            (some 2)
            ((z93 qv.Words).bind fun vr1 =>
            cond (!vr1)
              (some 3)
              (some 0))))
    | .inr _ =>
      some 4

/-! ### beaconfleet/twin.find$1 -/
noncomputable def z1333 (qp : api_Prop) (qname : List UInt8) : Option (Unit) :=
  (z1198 qp.Name qname).bind fun _ =>
  some ()

/-! ### slices.BinarySearchFunc[[]beaconfleet/api.Prop,beaconfleet/api.Prop,string] -/
noncomputable def z720 (qx : List api_Prop) (qtarget : List UInt8) : Int × Int → Option ((Int × Int) ⊕ (Int))
  | (vi, vj) =>
  cond (decide (vi < vj))
    ((at? qx (IntKind.wrap .i64 (ishr .u64 (IntKind.wrap .u64 (IntKind.wrap .i64 (vi + vj))) 1))).bind fun vy1 =>
    (z1333 (api_Prop.mk vy1.Name (api_Value.mk vy1.Value.Kind vy1.Value.Flag vy1.Value.Number vy1.Value.Words)) qtarget).bind fun _ =>
    cond (decide ((Lib.compareBytes vy1.Name qtarget) < 0))
      (some (.inl (IntKind.wrap .i64 ((IntKind.wrap .i64 (ishr .u64 (IntKind.wrap .u64 (IntKind.wrap .i64 (vi + vj))) 1)) + 1), vj)))
      (some (.inl (vi, IntKind.wrap .i64 (ishr .u64 (IntKind.wrap .u64 (IntKind.wrap .i64 (vi + vj))) 1)))))
    (some (.inr vi))

noncomputable def z725 (qx : List api_Prop) (qtarget : List UInt8) (vi1_1 : Int) : Option (Bool) :=
  cond (decide (vi1_1 < (qx.length : Int)))
    ((at? qx vi1_1).bind fun vy2 =>
    (z1333 (api_Prop.mk vy2.Name (api_Value.mk vy2.Value.Kind vy2.Value.Flag vy2.Value.Number vy2.Value.Words)) qtarget).bind fun _ =>
    some (decide ((Lib.compareBytes vy2.Name qtarget) = 0)))
    (some false)

noncomputable def z717 (qx : List api_Prop) (qtarget : List UInt8) : Option (Int × Bool) :=
  (loopO (z720 qx qtarget) (0, (qx.length : Int))).bind fun vi1_1 =>
  (z725 qx qtarget vi1_1).bind fun vx1 =>
  some (vi1_1, vx1)

/-! ### beaconfleet/twin.find -/
noncomputable def twin_find (ql : List api_Prop) (qname : List UInt8) : Option (Int) :=
  (z717 ql qname).bind fun (vr, vr1) =>
  cond (!vr1)
    (some (-1))
    (some vr)

/-! ### beaconfleet/twin.CheckProps$1 -/
noncomputable def z1277 (qs : List UInt8) (qx : List api_Prop) : Option (Bool) :=
  (twin_find qx qs).bind fun vr2 =>
  some (decide (0 ≤ vr2))

/-! ### beaconfleet/twin.above -/
noncomputable def z1329 (qname : List UInt8) (qf : List api_Prop) (vx : Int) : Option (Bool) :=
  (at? qname vx).bind fun vc1 =>
  cond (decide ((vc1.toNat : Int) = 46))
    ((sub? qname 0 vx).bind fun vs1 =>
    (z1277 vs1 qf).bind fun vr1 =>
    some vr1)
    (some false)

noncomputable def z1324 (qname : List UInt8) (qf : List api_Prop) (vx : Int) : Option ((Int) ⊕ (Unit ⊕ Unit)) :=
  cond (decide (vx < (qname.length : Int)))
    ((z1329 qname qf vx).bind fun vx2_1 =>
    cond (vx2_1)
      (some (.inr (.inr ())))
      (some (.inl (IntKind.wrap .i64 (vx + 1)))))
    (some (.inr (.inl ())))

noncomputable def z1321 (qname : List UInt8) (qf : List api_Prop) : Option (Bool) :=
  (loopO (z1324 qname qf) 0).bind fun x => match x with
    | .inl _ =>
      some false
    | .inr _ =>
      some true

/-! ### beaconfleet/twin.CheckProps -/
noncomputable def z1300 (ql : List api_Prop) (vx : Int) (vy2 : api_Prop) : Option (Bool) :=
  cond (decide (0 < vx))
    ((at? ql (IntKind.wrap .i64 (vx - 1))).bind fun vy3 =>
    some (Op.bytesLess vy2.Name vy3.Name || decide (vy2.Name = vy3.Name)))
    (some false)

noncomputable def z1295 (ql : List api_Prop) (vx : Int) : Option ((Int) ⊕ (Unit ⊕ Int)) :=
  cond (decide (vx < (ql.length : Int)))
    ((at? ql vx).bind fun vy2 =>
    (z1341 vy2.Name).bind fun vr1 =>
    cond (!vr1)
      (some (.inr (.inr 5)))
      ((z1357 (api_Value.mk vy2.Value.Kind vy2.Value.Flag vy2.Value.Number vy2.Value.Words)).bind fun vr2_1 =>
      cond (!decide (vr2_1 = 0))
        (some (.inr (.inr vr2_1)))
        (cond (decide (vy2.Value.Kind = 0))
          (some (.inr (.inr 4)))
          ((z1300 ql vx vy2).bind fun vx2_1 =>
          cond (vx2_1)
            (some (.inr (.inr 7)))
            (some (.inl (IntKind.wrap .i64 (vx + 1))))))))
    (some (.inr (.inl ())))

noncomputable def z1304 (ql : List api_Prop) (vx4 : Int) : Option ((Int) ⊕ (Unit ⊕ Unit)) :=
  cond (decide (vx4 < (ql.length : Int)))
    ((at? ql vx4).bind fun vy5 =>
    (z1321 vy5.Name ql).bind fun vr2_3 =>
    cond (vr2_3)
      (some (.inr (.inr ())))
      (some (.inl (IntKind.wrap .i64 (vx4 + 1)))))
    (some (.inr (.inl ())))

noncomputable def z1276 (ql : List api_Prop) : Option (Int) :=
  cond (decide (500 < (ql.length : Int)))
    (some 2)
    ((loopO (z1295 ql) 0).bind fun x => match x with
      | .inl _ =>
        (loopO (z1304 ql) 0).bind fun x => match x with
          | .inl _ =>
            some 0
          | .inr _ =>
            some 13
      | .inr vx3_1 =>
        some vx3_1)

/-! ### cmp.isNaN[string] -/
noncomputable def z163 (qx : List UInt8) : Option (Unit) :=
  some ()

/-! ### cmp.Less[string] -/
noncomputable def z148 (qx : List UInt8) (qy : List UInt8) : Option (Bool) :=
  (z163 qx).bind fun _ =>
  cond (!decide (qx = qx))
    ((z163 qy).bind fun _ =>
    cond (!(!decide (qy = qy)))
      (some true)
      (some (Op.bytesLess qx qy)))
    (some (Op.bytesLess qx qy))

noncomputable def z145 (qx : List UInt8) (qy : List UInt8) : Option (Bool) :=
  (z148 qx qy).bind fun vx1 =>
  some vx1

/-! ### slices.insertionSortOrdered[string] -/
noncomputable def z997 (qa : Int) (vl3 : List (List UInt8)) (vj1 : Int) : Option (Bool) :=
  cond (decide (qa < vj1))
    ((at? vl3 vj1).bind fun vy15 =>
    (at? vl3 (IntKind.wrap .i64 (vj1 - 1))).bind fun vy16 =>
    (z145 vy15 vy16).bind fun vr3 =>
    some vr3)
    (some false)

noncomputable def z992 (qa : Int) : (List (List UInt8)) × Int → Option (((List (List UInt8)) × Int) ⊕ ((List (List UInt8))))
  | (vl3, vj1) =>
  (z997 qa vl3 vj1).bind fun vx4_1 =>
  cond (vx4_1)
    ((at? vl3 (IntKind.wrap .i64 (vj1 - 1))).bind fun vy17 =>
    (at? vl3 vj1).bind fun vy18 =>
    (at? (vl3.set vj1.toNat vy17) (IntKind.wrap .i64 (vj1 - 1))).bind fun vy19 =>
    some (.inl ((vl3.set vj1.toNat vy17).set (IntKind.wrap .i64 (vj1 - 1)).toNat vy18, IntKind.wrap .i64 (vj1 - 1))))
    (some (.inr vl3))

noncomputable def z987 (qa : Int) (qb : Int) : (List (List UInt8)) × Int → Option (((List (List UInt8)) × Int) ⊕ ((List (List UInt8))))
  | (vl, vi) =>
  cond (decide (vi < qb))
    ((loopO (z992 qa) (vl, vi)).bind fun vl4_1 =>
    some (.inl (vl4_1, IntKind.wrap .i64 (vi + 1))))
    (some (.inr vl))

noncomputable def z984 (qdata : List (List UInt8)) (qa : Int) (qb : Int) : Option ((List (List UInt8))) :=
  (loopO (z987 qa qb) (qdata, IntKind.wrap .i64 (qa + 1))).bind fun vl5_1 =>
  some vl5_1

/-! ### slices.pdqsortOrdered[string] -/
noncomputable def z1020 (qx : List (List UInt8)) (qx1 : Int) (qx2 : Int) (qx3 : Int) : Unit → Option ((Unit) ⊕ ((List (List UInt8))))
  | _ =>
  cond (decide ((IntKind.wrap .i64 (qx2 - qx1)) ≤ 12))
    ((z984 qx qx1 qx2).bind fun vl6_1 =>
    gd (vl6_1.length == qx.length) <|
    some (.inr vl6_1))
    (cond (decide (qx3 = 0))
      (none)
      (none))

noncomputable def z1017 (qx : List (List UInt8)) (qx1 : Int) (qx2 : Int) (qx3 : Int) : Option ((List (List UInt8))) :=
  (loopO (z1020 qx qx1 qx2 qx3) ()).bind fun vl1 =>
  some vl1

/-! ### slices.Sort[[]string,string] -/
noncomputable def z930 (qx : List (List UInt8)) : Option ((List (List UInt8))) :=
  (bits_Len (IntKind.wrap .u64 ((qx.length : Int)))).bind fun vr1 =>
  (z1017 qx 0 (qx.length : Int) vr1).bind fun vl2 =>
  gd (vl2.length == qx.length) <|
  some vl2

/-! ### slices.Compact[[]string,string] -/
noncomputable def z790 (qs : List (List UInt8)) (vk : Int) (vl4 : List (List UInt8)) (vk6 : Int) (vk2_1 : Int) : Option (((List (List UInt8)) × Int)) :=
  gd (decide (0 ≤ vk) && decide (0 ≤ vk2_1) && decide (vk2_1 < (qs.length : Int) - vk)) <|
  (at? vl4 (vk + vk2_1)).bind fun vy13 =>
  gd (decide (0 ≤ vk) && decide (0 ≤ (IntKind.wrap .i64 (vk2_1 - 1))) && decide ((IntKind.wrap .i64 (vk2_1 - 1)) < (qs.length : Int) - vk)) <|
  (at? vl4 (vk + (IntKind.wrap .i64 (vk2_1 - 1)))).bind fun vy14 =>
  cond (!decide (vy13 = vy14))
    ((at? vl4 vk6).bind fun vy15 =>
    some (vl4.set vk6.toNat vy13, IntKind.wrap .i64 (vk6 + 1)))
    (some (vl4, vk6))

noncomputable def z785 (qs : List (List UInt8)) (vk : Int) : (List (List UInt8)) × Int × Int → Option (((List (List UInt8)) × Int × Int) ⊕ (((List (List UInt8)) × Int)))
  | (vl4, vk6, vk2_1) =>
  cond (decide (vk2_1 < (((qs.length : Int).toNat - vk.toNat : Nat) : Int)))
    ((z790 qs vk vl4 vk6 vk2_1).bind fun (vl6_1, vk8_1) =>
    some (.inl (vl6_1, vk8_1, IntKind.wrap .i64 (vk2_1 + 1))))
    (some (.inr (vl4, vk6)))

noncomputable def z780 (qs : List (List UInt8)) (vk : Int) : Option ((Int) ⊕ (Unit ⊕ (List (List UInt8)))) :=
  cond (decide (vk < (qs.length : Int)))
    ((at? qs vk).bind fun vy8 =>
    (at? qs (IntKind.wrap .i64 (vk - 1))).bind fun vy9 =>
    cond (decide (vy8 = vy9))
      (gd (decide (0 ≤ vk) && decide (vk ≤ (qs.length : Int)) && decide ((qs.length : Int) ≤ (qs.length : Int))) <|
      (loopO (z785 qs vk) (qs, vk, 1)).bind fun (vl7_1, vk9_1) =>
      gd (decide (0 ≤ vk9_1) && decide (vk9_1 ≤ (vl7_1.length : Int)) && decide ((vl7_1.length : Int) ≤ (vl7_1.length : Int))) <|
      gd (decide (0 ≤ vk9_1) && decide (vk9_1 ≤ ((vl7_1.take vk9_1.toNat ++ (List.replicate ((vl7_1.length : Int).toNat - vk9_1.toNat) ([] : List UInt8) ++ vl7_1.drop (vk9_1.toNat + ((vl7_1.length : Int).toNat - vk9_1.toNat)))).length : Int))) <|
      some (.inr (.inr ((vl7_1.take vk9_1.toNat ++ (List.replicate ((vl7_1.length : Int).toNat - vk9_1.toNat) ([] : List UInt8) ++ vl7_1.drop (vk9_1.toNat + ((vl7_1.length : Int).toNat - vk9_1.toNat)))).take vk9_1.toNat))))
      (some (.inl (IntKind.wrap .i64 (vk + 1)))))
    (some (.inr (.inl ())))

noncomputable def z777 (qs : List (List UInt8)) : Option ((List (List UInt8))) :=
  cond (decide ((qs.length : Int) < 2))
    (some qs)
    ((loopO (z780 qs) 1).bind fun x => match x with
      | .inl _ =>
        some qs
      | .inr vx1 =>
        some vx1)

/-! ### beaconfleet/twin.names -/
noncomputable def z1352 (vy3 : List api_Prop) : (List (List UInt8)) × Int → Option (((List (List UInt8)) × Int) ⊕ ((List (List UInt8))))
  | (vout3, vx2) =>
  cond (decide (vx2 < (vy3.length : Int)))
    ((at? vy3 vx2).bind fun vy5 =>
    gd (Nat.ble (vout3.length + ([vy5.Name] : List (List UInt8)).length) LIM) <|
    some (.inl (vout3 ++ ([vy5.Name] : List (List UInt8)), IntKind.wrap .i64 (vx2 + 1))))
    (some (.inr vout3))

noncomputable def z1347 (qlists : List (List api_Prop)) : (List (List UInt8)) × Int → Option (((List (List UInt8)) × Int) ⊕ ((List (List UInt8))))
  | (vout, vx) =>
  cond (decide (vx < (qlists.length : Int)))
    ((at? qlists vx).bind fun vy3 =>
    (loopO (z1352 vy3) (vout, 0)).bind fun vout4_1 =>
    some (.inl (vout4_1, IntKind.wrap .i64 (vx + 1))))
    (some (.inr vout))

noncomputable def z1344 (qlists : List (List api_Prop)) : Option ((List (List UInt8))) :=
  (loopO (z1347 qlists) ([], 0)).bind fun vout5_1 =>
  (z930 vout5_1).bind fun vl =>
  gd (vl.length == vout5_1.length) <|
  (z777 vl).bind fun vr =>
  some vr

/-! ### slices.BinarySearchFunc[[]beaconfleet/api.Prop,beaconfleet/api.Prop,string] -/
noncomputable def z732 : Unit → Option ((Unit) ⊕ (Unit))
  | _ =>
  cond (decide ((0 : Int) < 0))
    (none)
    (some (.inr ()))

noncomputable def z729 (qtarget : List UInt8) : Option (Unit) :=
  (loopO z732 ()).bind fun _ =>
  cond (decide ((0 : Int) < 0))
    (none)
    (some ())

/-! ### beaconfleet/twin.find -/
noncomputable def z1337 (qname : List UInt8) : Option (Unit) :=
  (z729 qname).bind fun _ =>
  some ()

/-! ### beaconfleet/twin.valueOf -/
noncomputable def z1367 (qname : List UInt8) : Option (Unit) :=
  (z1337 qname).bind fun _ =>
  cond (decide (0 ≤ ((-1) : Int)))
    (none)
    (some ())

/-! ### beaconfleet/twin.valueOf -/
noncomputable def z1365 (ql : List api_Prop) (qname : List UInt8) : Option (api_Value) :=
  (twin_find ql qname).bind fun vr2 =>
  cond (decide (0 ≤ vr2))
    ((at? ql vr2).bind fun vy =>
    some (api_Value.mk vy.Value.Kind vy.Value.Flag vy.Value.Number vy.Value.Words))
    (some (api_Value.mk 0 false 0 ([] : List UInt8)))

/-! ### beaconfleet/twin.Differ -/
noncomputable def z1317 (qb : List api_Prop) (vr1_1 : List (List UInt8)) (vout : List api_Change) (vx : Int) : Option ((List api_Change)) :=
  (at? vr1_1 vx).bind fun vy1 =>
  (z1367 vy1).bind fun _ =>
  (z1365 qb vy1).bind fun vr4 =>
  cond (!(decide ((0 : Int) = vr4.Kind) && ((false == vr4.Flag) && (decide ((0 : Int) = vr4.Number) && (decide (([] : List UInt8) = vr4.Words) && true)))))
    (gd (Nat.ble (vout.length + ([api_Change.mk vy1 (api_Value.mk 0 false 0 ([] : List UInt8)) vr4] : List api_Change).length) LIM) <|
    some (vout ++ ([api_Change.mk vy1 (api_Value.mk 0 false 0 ([] : List UInt8)) vr4] : List api_Change)))
    (some vout)

noncomputable def z1312 (qb : List api_Prop) (vr1_1 : List (List UInt8)) : (List api_Change) × Int → Option (((List api_Change) × Int) ⊕ ((List api_Change)))
  | (vout, vx) =>
  cond (decide (vx < (vr1_1.length : Int)))
    ((z1317 qb vr1_1 vout vx).bind fun vout2_1 =>
    some (.inl (vout2_1, IntKind.wrap .i64 (vx + 1))))
    (some (.inr vout))

noncomputable def z1309 (qb : List api_Prop) : Option ((List api_Change) × Int) :=
  (z1281).bind fun vr =>
  (z1276 qb).bind fun vr3 =>
  (z27 ([vr, vr3] : List Int)).bind fun vr1 =>
  cond (!decide (vr1 = 0))
    (some ([], vr1))
    ((z1344 ([[], qb] : List (List api_Prop))).bind fun vr1_1 =>
    (loopO (z1312 qb vr1_1) ([], 0)).bind fun vout3_1 =>
    some (vout3_1, 0))

/-! ### beaconfleet/series.byDevice -/
noncomputable def z683 (qa : api_Sample) (qb : api_Sample) : Option (Int) :=
  (z1198 qa.Device qb.Device).bind fun _ =>
  (z1198 qa.Metric qb.Metric).bind fun _ =>
  (z142 qa.At qb.At).bind fun vr =>
  (z152 ([Lib.compareBytes qa.Device qb.Device, Lib.compareBytes qa.Metric qb.Metric, vr] : List Int)).bind fun vr1 =>
  some vr1

/-! ### beaconfleet/series.Check -/
noncomputable def z668 (vy2 : api_Sample) : Option (Bool) :=
  (base_Key vy2.Device).bind fun vr3 =>
  cond (!vr3)
    (some true)
    ((base_Key vy2.Metric).bind fun vr4 =>
    some (!vr4))

noncomputable def z672 (vy2 : api_Sample) : Option (Bool) :=
  (z60 vy2.At).bind fun vr1_2 =>
  cond (!vr1_2)
    (some true)
    ((base_Out vy2.Value (-1000000000) 1000000000).bind fun vr5 =>
    some vr5)

noncomputable def z676 (ql : List api_Sample) (vx : Int) (vy2 : api_Sample) : Option (Bool) :=
  cond (decide (0 < vx))
    ((at? ql (IntKind.wrap .i64 (vx - 1))).bind fun vy3 =>
    (z683 vy2 vy3).bind fun vr2_2 =>
    some (decide (vr2_2 ≤ 0)))
    (some false)

noncomputable def z663 (ql : List api_Sample) (vx : Int) : Option ((Int) ⊕ (Unit ⊕ Int)) :=
  cond (decide (vx < (ql.length : Int)))
    ((at? ql vx).bind fun vy2 =>
    (z668 vy2).bind fun vx4_1 =>
    cond (vx4_1)
      (some (.inr (.inr 5)))
      ((z672 vy2).bind fun vx5_1 =>
      cond (vx5_1)
        (some (.inr (.inr 1)))
        ((z676 ql vx vy2).bind fun vx6_1 =>
        cond (vx6_1)
          (some (.inr (.inr 7)))
          (some (.inl (IntKind.wrap .i64 (vx + 1)))))))
    (some (.inr (.inl ())))

noncomputable def z650 (ql : List api_Sample) : Option (Int) :=
  cond (decide (5000 < (ql.length : Int)))
    (some 2)
    ((loopO (z663 ql) 0).bind fun x => match x with
      | .inl _ =>
        some 0
      | .inr vx7_1 =>
        some vx7_1)

/-! ### beaconfleet/series.CheckSeries$1 -/
noncomputable def z655 (qs : api_Sample) (qx : List api_Sample) : Option (Bool) :=
  (at? qx 0).bind fun vy =>
  cond (!decide (qs.Device = vy.Device))
    (some true)
    (some (!decide (qs.Metric = vy.Metric)))

noncomputable def z652 (qs : api_Sample) (qx : List api_Sample) : Option (Bool) :=
  (z655 qs qx).bind fun vx1 =>
  some vx1

/-! ### slices.IndexFunc[[]beaconfleet/api.Sample,beaconfleet/api.Sample] -/
noncomputable def z892 (qs : List api_Sample) (vx : Int) : Option ((Int) ⊕ (Unit ⊕ Int)) :=
  cond (decide (vx < (qs.length : Int)))
    ((at? qs vx).bind fun vy1 =>
    (z652 vy1 qs).bind fun vr1 =>
    cond (vr1)
      (some (.inr (.inr vx)))
      (some (.inl (IntKind.wrap .i64 (vx + 1)))))
    (some (.inr (.inl ())))

noncomputable def z889 (qs : List api_Sample) : Option (Int) :=
  (loopO (z892 qs) 0).bind fun x => match x with
    | .inl _ =>
      some (-1)
    | .inr vx1_1 =>
      some vx1_1

/-! ### slices.ContainsFunc[[]beaconfleet/api.Sample,beaconfleet/api.Sample] -/
noncomputable def z826 (qs : List api_Sample) : Option (Bool) :=
  (z889 qs).bind fun vr2 =>
  some (decide (0 ≤ vr2))

/-! ### beaconfleet/series.CheckSeries -/
noncomputable def z651 (ql : List api_Sample) : Option (Int) :=
  (z650 ql).bind fun vr6 =>
  cond (!decide (vr6 = 0))
    (some vr6)
    ((z826 ql).bind fun vr =>
    cond (vr)
      (some 13)
      (some 0))

/-! ### beaconfleet/series.seven -/
noncomputable def z704 : (List Int) × Int → Option (((List Int) × Int) ⊕ (((List Int) × Int)))
  | (vb, vn) =>
  cond (decide (128 ≤ vn))
    (gd (Nat.ble (vb.length + ([ibits .or .u8 (IntKind.wrap .u8 (ibits .and .u64 vn 127)) 128] : List Int).length) LIM) <|
    some (.inl (vb ++ ([ibits .or .u8 (IntKind.wrap .u8 (ibits .and .u64 vn 127)) 128] : List Int), ishr .u64 vn 7)))
    (some (.inr (vb, vn)))

noncomputable def z701 (qn : Int) : Option ((List Int)) :=
  (loopO z704 ([], qn)).bind fun (vb1_1, vn1_1) =>
  gd (Nat.ble (vb1_1.length + ([IntKind.wrap .u8 (vn1_1)] : List Int).length) LIM) <|
  some (vb1_1 ++ ([IntKind.wrap .u8 (vn1_1)] : List Int))

/-! ### beaconfleet/series.doubled -/
noncomputable def z686 (qn : Int) : Option (Int) :=
  cond (decide (qn < 0))
    (some (IntKind.wrap .u64 (IntKind.wrap .i64 ((IntKind.wrap .i64 (((-2) : Int) * qn)) - 1))))
    (some (IntKind.wrap .u64 (IntKind.wrap .i64 ((2 : Int) * qn))))

/-! ### beaconfleet/series.seven -/
noncomputable def z712 : (List Int) × Int → Option (((List Int) × Int) ⊕ (((List Int) × Int)))
  | (vb, vn) =>
  cond (decide (128 ≤ vn))
    (gd (Nat.ble (vb.length + ([ibits .or .u8 (IntKind.wrap .u8 (ibits .and .u64 vn 127)) 128] : List Int).length) LIM) <|
    some (.inl (vb ++ ([ibits .or .u8 (IntKind.wrap .u8 (ibits .and .u64 vn 127)) 128] : List Int), ishr .u64 vn 7)))
    (some (.inr (vb, vn)))

noncomputable def z709 (qb : List Int) (qn : Int) : Option ((List Int)) :=
  (loopO z712 (qb, qn)).bind fun (vb1_1, vn1_1) =>
  gd (Nat.ble (vb1_1.length + ([IntKind.wrap .u8 (vn1_1)] : List Int).length) LIM) <|
  some (vb1_1 ++ ([IntKind.wrap .u8 (vn1_1)] : List Int))

/-! ### beaconfleet/series.pack -/
noncomputable def z697 (vat : Int) (vby : Int) (vx : Int) (vy1 : api_Sample) : Option (Int) :=
  cond (decide (0 < vx))
    (some (IntKind.wrap .i64 (vy1.At - vat)))
    (some vby)

noncomputable def z692 (ql : List api_Sample) : (List Int) × Int × Int × Int × Int → Option (((List Int) × Int × Int × Int × Int) ⊕ ((List Int)))
  | (vout, vat, vby, vvalue, vx) =>
  cond (decide (vx < (ql.length : Int)))
    ((at? ql vx).bind fun vy1 =>
    (z686 (IntKind.wrap .i64 ((IntKind.wrap .i64 (vy1.At - vat)) - vby))).bind fun vr5 =>
    (z709 vout vr5).bind fun vr6 =>
    (z686 (IntKind.wrap .i64 (vy1.Value - vvalue))).bind fun vr7 =>
    (z709 vr6 vr7).bind fun vr8 =>
    (z697 vat vby vx vy1).bind fun vby2_1 =>
    some (.inl (vr8, vy1.At, vby2_1, vy1.Value, IntKind.wrap .i64 (vx + 1))))
    (some (.inr vout))

noncomputable def z689 (ql : List api_Sample) : Option ((List Int)) :=
  (z701 (IntKind.wrap .u64 ((ql.length : Int)))).bind fun vr =>
  (loopO (z692 ql) (vr, 0, 0, 0, 0)).bind fun vout1_1 =>
  some vout1_1

/-! ### beaconfleet/series.Pack -/
noncomputable def z680 (ql : List api_Sample) : Option ((List Int) × Int) :=
  (z651 ql).bind fun vr1 =>
  cond (!decide (vr1 = 0))
    (some ([], vr1))
    ((z689 ql).bind fun vr9 =>
    some (vr9, 0))

/-! ### unicode/utf8.RuneCountInString -/
noncomputable def z1381 (qs : List UInt8) : Nat × Int → Option ((Nat × Int) ⊕ (Int))
  | (vpos, vn) =>
  cond (decide (vpos < qs.length))
    ((some (dec qs vpos)).bind fun vd1 =>
    some (.inl ((vpos + vd1.2 : Nat), IntKind.wrap .i64 (vn + 1))))
    (some (.inr vn))

noncomputable def z1378 (qs : List UInt8) : Option (Int) :=
  (loopO (z1381 qs) ((0 : Nat), 0)).bind fun vn1_1 =>
  some vn1_1

/-! ### unicode/utf8.decodeRuneInStringSlow -/
noncomputable def z1415 (qx : List UInt8) : Option (Unit) :=
  cond (decide ((qx.length : Int) < 1))
    (some ())
    ((at? qx 0).bind fun vc =>
    none)

/-! ### unicode/utf8.DecodeRuneInString -/
noncomputable def z1374 (qs : List UInt8) : Option (Bool) :=
  cond (!decide (qs = ([] : List UInt8)))
    ((at? qs 0).bind fun vc =>
    some (decide ((vc.toNat : Int) < 128)))
    (some false)

noncomputable def z1371 (qs : List UInt8) : Option (Int × Int) :=
  (z1374 qs).bind fun vx1 =>
  cond (vx1)
    ((at? qs 0).bind fun vc1 =>
    some (IntKind.wrap .i32 ((vc1.toNat : Int)), 1))
    ((z1415 qs).bind fun _ =>
    some (65533, 0))

/-! ### strings.explode -/
noncomputable def z1228 (qn : Int) (vr : Int) : Option (Bool) :=
  cond (decide (qn < 0))
    (some true)
    (some (decide (vr < qn)))

noncomputable def z1224 (qn : Int) (vr : Int) : Option (Int) :=
  (z1228 qn vr).bind fun vx1 =>
  cond (vx1)
    (some vr)
    (some qn)

noncomputable def z1232 (vn1 : Int) : (List UInt8) × (List (List UInt8)) × Int → Option (((List UInt8) × (List (List UInt8)) × Int) ⊕ (((List UInt8) × (List (List UInt8)))))
  | (vs, va, vi) =>
  cond (decide (vi < (IntKind.wrap .i64 (vn1 - 1))))
    ((z1371 vs).bind fun (vr2, vr1_2) =>
    (sub? vs 0 vr1_2).bind fun vs3 =>
    (at? va vi).bind fun vy1 =>
    (sub? vs vr1_2 (vs.length : Int)).bind fun vs4 =>
    some (.inl (vs4, va.set vi.toNat vs3, IntKind.wrap .i64 (vi + 1))))
    (some (.inr (vs, va)))

noncomputable def z1237 (vn1 : Int) (vs5_1 : List UInt8) (va1_1 : List (List UInt8)) : Option ((List (List UInt8))) :=
  cond (decide (0 < vn1))
    ((at? va1_1 (IntKind.wrap .i64 (vn1 - 1))).bind fun vy2 =>
    some (va1_1.set (IntKind.wrap .i64 (vn1 - 1)).toNat vs5_1))
    (some va1_1)

noncomputable def z1221 (qs : List UInt8) (qn : Int) : Option ((List (List UInt8))) :=
  (z1378 qs).bind fun vr =>
  (z1224 qn vr).bind fun vn1 =>
  gd (decide (0 ≤ vn1) && decide (vn1 ≤ vn1) && decide (vn1 ≤ 137438953472)) <|
  (loopO (z1232 vn1) (qs, List.replicate vn1.toNat ([] : List UInt8), 0)).bind fun (vs5_1, va1_1) =>
  (z1237 vn1 vs5_1 va1_1).bind fun va2_1 =>
  some va2_1

/-! ### strings.Index -/
noncomputable def z1212 (qs : List UInt8) (qsubstr : List UInt8) : Option (Int) :=
  (z1263 qs qsubstr).bind fun vr =>
  some vr

/-! ### strings.Count -/
noncomputable def z1204 (qsubstr : List UInt8) : (List UInt8) × Int → Option (((List UInt8) × Int) ⊕ (Int))
  | (vs, vn) =>
  (z1212 vs qsubstr).bind fun vr1_1 =>
  cond (decide (vr1_1 = (-1)))
    (some (.inr vn))
    ((sub? vs (IntKind.wrap .i64 (vr1_1 + (qsubstr.length : Int))) (vs.length : Int)).bind fun vs2 =>
    some (.inl (vs2, IntKind.wrap .i64 (vn + 1))))

noncomputable def z1201 (qs : List UInt8) (qsubstr : List UInt8) : Option (Int) :=
  cond (decide ((qsubstr.length : Int) = 0))
    ((z1378 qs).bind fun vr =>
    some (IntKind.wrap .i64 (vr + 1)))
    (cond (decide ((qsubstr.length : Int) = 1))
      ((at? qsubstr 0).bind fun vc =>
      some (countB qs (vc.toNat : Int).toNat.toUInt8))
      ((loopO (z1204 qsubstr) (qs, 0)).bind fun vx1 =>
      some vx1))

/-! ### strings.genSplit -/
noncomputable def z1244 (qx : List UInt8) (qx1 : List UInt8) (qx3 : Int) : Option (Int) :=
  cond (decide (qx3 < 0))
    ((z1201 qx qx1).bind fun vr2 =>
    some (IntKind.wrap .i64 (vr2 + 1)))
    (some qx3)

noncomputable def z1248 (qx : List UInt8) (qx1 : List UInt8) (qx2 : Int) (vx1 : Int) : (List UInt8) × (List (List UInt8)) × Int → Option (((List UInt8) × (List (List UInt8)) × Int) ⊕ (((List UInt8) × (List (List UInt8)) × Int)))
  | (vx2, vx3, vx4) =>
  cond (decide (vx4 < (IntKind.wrap .i64 ((imin vx1 (IntKind.wrap .i64 ((qx.length : Int) + 1))) - 1))))
    ((z1212 vx2 qx1).bind fun vr1_1 =>
    cond (decide (vr1_1 < 0))
      (some (.inr (vx2, vx3, vx4)))
      ((sub? vx2 0 (IntKind.wrap .i64 (vr1_1 + qx2))).bind fun vs2 =>
      (at? vx3 vx4).bind fun vy1 =>
      (sub? vx2 (IntKind.wrap .i64 (vr1_1 + (qx1.length : Int))) (vx2.length : Int)).bind fun vs3 =>
      some (.inl (vs3, vx3.set vx4.toNat vs2, IntKind.wrap .i64 (vx4 + 1)))))
    (some (.inr (vx2, vx3, vx4)))

noncomputable def z1241 (qx : List UInt8) (qx1 : List UInt8) (qx2 : Int) (qx3 : Int) : Option ((List (List UInt8))) :=
  cond (decide (qx3 = 0))
    (some [])
    (cond (decide (qx1 = ([] : List UInt8)))
      ((z1221 qx qx3).bind fun vr3 =>
      some vr3)
      ((z1244 qx qx1 qx3).bind fun vx1 =>
      gd (decide (0 ≤ (imin vx1 (IntKind.wrap .i64 ((qx.length : Int) + 1)))) && decide ((imin vx1 (IntKind.wrap .i64 ((qx.length : Int) + 1))) ≤ (imin vx1 (IntKind.wrap .i64 ((qx.length : Int) + 1)))) && decide ((imin vx1 (IntKind.wrap .i64 ((qx.length : Int) + 1))) ≤ 137438953472)) <|
      (loopO (z1248 qx qx1 qx2 vx1) (qx, List.replicate (imin vx1 (IntKind.wrap .i64 ((qx.length : Int) + 1))).toNat ([] : List UInt8), 0)).bind fun (vx5_1, vx6_1, vx7_1) =>
      (at? vx6_1 vx7_1).bind fun vy2 =>
      gd (decide (0 ≤ (IntKind.wrap .i64 (vx7_1 + 1))) && decide ((IntKind.wrap .i64 (vx7_1 + 1)) ≤ ((vx6_1.set vx7_1.toNat vx5_1).length : Int))) <|
      some ((vx6_1.set vx7_1.toNat vx5_1).take (IntKind.wrap .i64 (vx7_1 + 1)).toNat)))

/-! ### strings.Split -/
noncomputable def z1215 (qs : List UInt8) (qsep : List UInt8) : Option ((List (List UInt8))) :=
  (z1241 qs qsep 0 (-1)).bind fun vr =>
  some vr

/-! ### internal/stringslite.HasPrefix -/
noncomputable def z1259 (qs : List UInt8) (qprefix : List UInt8) : Option (Bool) :=
  cond (decide ((qprefix.length : Int) ≤ (qs.length : Int)))
    ((sub? qs 0 (qprefix.length : Int)).bind fun vs =>
    some (decide (vs = qprefix)))
    (some false)

noncomputable def z1256 (qs : List UInt8) (qprefix : List UInt8) : Option (Bool) :=
  (z1259 qs qprefix).bind fun vx1 =>
  some vx1

/-! ### internal/stringslite.TrimPrefix -/
noncomputable def z1273 (qs : List UInt8) (qprefix : List UInt8) : Option ((List UInt8)) :=
  (z1256 qs qprefix).bind fun vr =>
  cond (vr)
    ((sub? qs (qprefix.length : Int) (qs.length : Int)).bind fun vs =>
    some vs)
    (some qs)

/-! ### strings.TrimPrefix -/
noncomputable def z1218 (qs : List UInt8) (qprefix : List UInt8) : Option ((List UInt8)) :=
  (z1273 qs qprefix).bind fun vr1 =>
  some vr1

/-! ### internal/strconv.lower -/
noncomputable def z1162 (qc : Int) : Option (Unit) :=
  some ()

/-! ### internal/strconv.underscoreOK -/
noncomputable def z1172 (qx : List UInt8) : Option (Bool) :=
  cond (decide (1 ≤ (qx.length : Int)))
    ((at? qx 0).bind fun vc =>
    cond (decide ((vc.toNat : Int) = 45))
      (some true)
      (some (decide ((vc.toNat : Int) = 43))))
    (some false)

noncomputable def z1168 (qx : List UInt8) : Option ((List UInt8)) :=
  (z1172 qx).bind fun vx1 =>
  cond (vx1)
    ((sub? qx 1 (qx.length : Int)).bind fun vs =>
    some vs)
    (some qx)

noncomputable def z1180 (vx2_1 : List UInt8) : Option (Bool) :=
  cond (decide (2 ≤ (vx2_1.length : Int)))
    ((at? vx2_1 0).bind fun vc1 =>
    cond (decide ((vc1.toNat : Int) = 48))
      ((at? vx2_1 1).bind fun vc2 =>
      (z1162 (vc2.toNat : Int)).bind fun _ =>
      cond (decide ((ibits .or .u8 (vc2.toNat : Int) 32) = 98))
        (some true)
        (cond (decide ((ibits .or .u8 (vc2.toNat : Int) 32) = 111))
          (some true)
          (some (decide ((ibits .or .u8 (vc2.toNat : Int) 32) = 120)))))
      (some false))
    (some false)

noncomputable def z1176 (vx2_1 : List UInt8) : Option ((Int × Int × Bool)) :=
  (z1180 vx2_1).bind fun vx3_1 =>
  cond (vx3_1)
    ((at? vx2_1 1).bind fun vc3 =>
    (z1162 (vc3.toNat : Int)).bind fun _ =>
    some (48, 2, decide ((ibits .or .u8 (vc3.toNat : Int) 32) = 120)))
    (some (94, 0, false))

noncomputable def z1194 (vx2_1 : List UInt8) (vx6_1 : Bool) (vx8 : Int) : Option (Bool) :=
  (at? vx2_1 vx8).bind fun vc6 =>
  cond (decide ((48 : Int) ≤ (vc6.toNat : Int)))
    (cond (decide ((vc6.toNat : Int) ≤ 57))
      (some true)
      (cond (vx6_1)
        ((z1162 (vc6.toNat : Int)).bind fun _ =>
        cond (decide ((97 : Int) ≤ (ibits .or .u8 (vc6.toNat : Int) 32)))
          (some (decide ((ibits .or .u8 (vc6.toNat : Int) 32) ≤ 102)))
          (some false))
        (some false)))
    (cond (vx6_1)
      ((z1162 (vc6.toNat : Int)).bind fun _ =>
      cond (decide ((97 : Int) ≤ (ibits .or .u8 (vc6.toNat : Int) 32)))
        (some (decide ((ibits .or .u8 (vc6.toNat : Int) 32) ≤ 102)))
        (some false))
      (some false))

noncomputable def z1189 (vx2_1 : List UInt8) (vx6_1 : Bool) (vx7 : Int) (vx8 : Int) : Option (Int ⊕ Unit) :=
  (z1194 vx2_1 vx6_1 vx8).bind fun vx11_1 =>
  cond (vx11_1)
    (some (.inl 48))
    ((at? vx2_1 vx8).bind fun vc7 =>
    cond (decide ((vc7.toNat : Int) = 95))
      (cond (!decide (vx7 = 48))
        (some (.inr ()))
        (some (.inl 95)))
      (cond (decide (vx7 = 95))
        (some (.inr ()))
        (some (.inl 33))))

noncomputable def z1184 (vx2_1 : List UInt8) (vx6_1 : Bool) : Int × Int → Option ((Int × Int) ⊕ (Int ⊕ Unit))
  | (vx7, vx8) =>
  cond (decide (vx8 < (vx2_1.length : Int)))
    ((z1189 vx2_1 vx6_1 vx7 vx8).bind fun x => match x with
      | .inl vx12_1 =>
        some (.inl (vx12_1, IntKind.wrap .i64 (vx8 + 1)))
      | .inr _ =>
        some (.inr (.inr ())))
    (some (.inr (.inl vx7)))

noncomputable def z1165 (qx : List UInt8) : Option (Bool) :=
  (z1168 qx).bind fun vx2_1 =>
  (z1176 vx2_1).bind fun (vx4_1, vx5_1, vx6_1) =>
  (loopO (z1184 vx2_1 vx6_1) (vx4_1, vx5_1)).bind fun x => match x with
    | .inl vx13_1 =>
      some (!decide (vx13_1 = 95))
    | .inr _ =>
      some false

/-! ### internal/strconv.ParseUint -/
noncomputable def z1129 (qx1 : Int) : Option (Bool) :=
  cond (decide ((2 : Int) ≤ qx1))
    (some (decide (qx1 ≤ 36)))
    (some false)

noncomputable def z1133 (qx : List UInt8) : Option (Bool) :=
  cond (decide (3 ≤ (qx.length : Int)))
    ((at? qx 1).bind fun vc1 =>
    (z1162 (vc1.toNat : Int)).bind fun _ =>
    some (decide ((ibits .or .u8 (vc1.toNat : Int) 32) = 98)))
    (some false)

noncomputable def z1137 (qx : List UInt8) : Option (Bool) :=
  cond (decide (3 ≤ (qx.length : Int)))
    ((at? qx 1).bind fun vc2 =>
    (z1162 (vc2.toNat : Int)).bind fun _ =>
    some (decide ((ibits .or .u8 (vc2.toNat : Int) 32) = 111)))
    (some false)

noncomputable def z1141 (qx : List UInt8) : Option (Bool) :=
  cond (decide (3 ≤ (qx.length : Int)))
    ((at? qx 1).bind fun vc3 =>
    (z1162 (vc3.toNat : Int)).bind fun _ =>
    some (decide ((ibits .or .u8 (vc3.toNat : Int) 32) = 120)))
    (some false)

noncomputable def z1096 (qx : List UInt8) (qx1 : Int) : Option (((List UInt8) × Int)) :=
  (z1129 qx1).bind fun vx1 =>
  cond (vx1)
    (some (qx, qx1))
    (cond (decide (qx1 = 0))
      ((at? qx 0).bind fun vc =>
      cond (decide ((vc.toNat : Int) = 48))
        ((z1133 qx).bind fun vx2_1 =>
        cond (vx2_1)
          ((sub? qx 2 (qx.length : Int)).bind fun vs =>
          some (vs, 2))
          ((z1137 qx).bind fun vx3_1 =>
          cond (vx3_1)
            ((sub? qx 2 (qx.length : Int)).bind fun vs1 =>
            some (vs1, 8))
            ((z1141 qx).bind fun vx4_1 =>
            cond (vx4_1)
              ((sub? qx 2 (qx.length : Int)).bind fun vs2 =>
              some (vs2, 16))
              ((sub? qx 1 (qx.length : Int)).bind fun vs3 =>
              some (vs3, 8)))))
        (some (qx, 10)))
      (none))

noncomputable def z1149 (qx2 : Int) : Option (Bool) :=
  cond (decide (qx2 < 0))
    (some true)
    (some (decide (64 < qx2)))

noncomputable def z1145 (qx2 : Int) : Option (Int) :=
  cond (decide (qx2 = 0))
    (some 64)
    ((z1149 qx2).bind fun vx7_1 =>
    cond (vx7_1)
      (none)
      (some qx2))

noncomputable def z1153 (vx6_1 : Int) : Option (Int) :=
  cond (decide (vx6_1 = 10))
    (some 1844674407370955162)
    (cond (decide (vx6_1 = 16))
      (some 1152921504606846976)
      (gd (!((IntKind.wrap .u64 (vx6_1)) == 0)) <|
      some (IntKind.wrap .u64 ((IntKind.wrap .u64 ((18446744073709551615 : Int).tdiv (IntKind.wrap .u64 (vx6_1)))) + 1))))

noncomputable def z1106 (qx1 : Int) (vy1 : Int) : Option (Bool) :=
  cond (decide (vy1 = 95))
    (some (decide (qx1 = 0)))
    (some false)

noncomputable def z1110 (vy1 : Int) : Option (Bool) :=
  cond (decide ((48 : Int) ≤ vy1))
    (some (decide (vy1 ≤ 57)))
    (some false)

noncomputable def z1114 (vy1 : Int) : Option (Bool) :=
  (z1162 vy1).bind fun _ =>
  cond (decide ((97 : Int) ≤ (ibits .or .u8 vy1 32)))
    (some (decide ((ibits .or .u8 vy1 32) ≤ 122)))
    (some false)

noncomputable def z1101 (qx1 : Int) (vy1 : Int) : Option (Int ⊕ Unit) :=
  (z1106 qx1 vy1).bind fun vx20_1 =>
  cond (vx20_1)
    (some (.inr ()))
    ((z1110 vy1).bind fun vx21_1 =>
    cond (vx21_1)
      (some (.inl (IntKind.wrap .u8 (vy1 - 48))))
      ((z1114 vy1).bind fun vx22_1 =>
      cond (vx22_1)
        ((z1162 vy1).bind fun _ =>
        some (.inl (IntKind.wrap .u8 ((IntKind.wrap .u8 ((ibits .or .u8 vy1 32) - 97)) + 10))))
        (none)))

noncomputable def z1118 (vx6_1 : Int) (vx8_1 : Int) (vx11 : Int) (vx23_1 : Int) : Option (Bool) :=
  cond (decide ((IntKind.wrap .u64 ((IntKind.wrap .u64 (vx11 * (IntKind.wrap .u64 (vx6_1)))) + (IntKind.wrap .u64 (vx23_1)))) < (IntKind.wrap .u64 (vx11 * (IntKind.wrap .u64 (vx6_1))))))
    (some true)
    (some (decide ((IntKind.wrap .u64 ((ishl .u64 1 (IntKind.wrap .u64 (vx8_1))) - 1)) < (IntKind.wrap .u64 ((IntKind.wrap .u64 (vx11 * (IntKind.wrap .u64 (vx6_1)))) + (IntKind.wrap .u64 (vx23_1)))))))

noncomputable def z1097 (qx1 : Int) (vx5_1 : List UInt8) (vx6_1 : Int) (vx8_1 : Int) (vx9_1 : Int) (vx10 : Bool) (vx11 : Int) (vx12 : Int) : Option ((Bool × Int)) :=
  (at? (bytesD vx5_1) vx12).bind fun vy1 =>
  (z1101 qx1 vy1).bind fun x => match x with
    | .inl vx23_1 =>
      cond (decide ((IntKind.wrap .u8 (vx6_1)) ≤ vx23_1))
        (none)
        (cond (decide (vx9_1 ≤ vx11))
          (none)
          ((z1118 vx6_1 vx8_1 vx11 vx23_1).bind fun vx24_1 =>
          cond (vx24_1)
            (none)
            (some (vx10, IntKind.wrap .u64 ((IntKind.wrap .u64 (vx11 * (IntKind.wrap .u64 (vx6_1)))) + (IntKind.wrap .u64 (vx23_1)))))))
    | .inr _ =>
      some (true, vx11)

noncomputable def z1157 (qx1 : Int) (vx5_1 : List UInt8) (vx6_1 : Int) (vx8_1 : Int) (vx9_1 : Int) : Bool × Int × Int → Option ((Bool × Int × Int) ⊕ ((Bool × Int)))
  | (vx10, vx11, vx12) =>
  cond (decide (vx12 < ((bytesD vx5_1).length : Int)))
    ((z1097 qx1 vx5_1 vx6_1 vx8_1 vx9_1 vx10 vx11 vx12).bind fun (vx25_1, vx26_1) =>
    some (.inl (vx25_1, vx26_1, IntKind.wrap .i64 (vx12 + 1))))
    (some (.inr (vx10, vx11)))

noncomputable def z1122 (qx : List UInt8) (vx27_1 : Bool) : Option (Bool) :=
  cond (vx27_1)
    ((z1165 qx).bind fun vr =>
    some (!vr))
    (some false)

noncomputable def z1093 (qx : List UInt8) (qx1 : Int) (qx2 : Int) : Option (Int) :=
  cond (decide (qx = ([] : List UInt8)))
    (none)
    ((z1096 qx qx1).bind fun (vx5_1, vx6_1) =>
    (z1145 qx2).bind fun vx8_1 =>
    (z1153 vx6_1).bind fun vx9_1 =>
    gd (decide (0 ≤ (IntKind.wrap .u64 (vx8_1)))) <|
    (loopO (z1157 qx1 vx5_1 vx6_1 vx8_1 vx9_1) (false, 0, 0)).bind fun (vx27_1, vx28_1) =>
    (z1122 qx vx27_1).bind fun vx29_1 =>
    cond (vx29_1)
      (none)
      (some vx28_1))

/-! ### internal/strconv.ParseInt -/
noncomputable def z1073 (qx : List UInt8) : Option (((List UInt8) × Bool)) :=
  (at? qx 0).bind fun vc =>
  cond (decide ((vc.toNat : Int) = 43))
    ((sub? qx 1 (qx.length : Int)).bind fun vs =>
    some (vs, false))
    (cond (decide ((vc.toNat : Int) = 45))
      ((sub? qx 1 (qx.length : Int)).bind fun vs1 =>
      some (vs1, true))
      (some (qx, false)))

noncomputable def z1077 (qx2 : Int) : Option (Int) :=
  cond (decide (qx2 = 0))
    (some 64)
    (some qx2)

noncomputable def z1081 (vx1_1 : Bool) (vr1 : Int) (vx3_1 : Int) : Option (Bool) :=
  cond (!vx1_1)
    (some (decide ((ishl .u64 1 (IntKind.wrap .u64 (IntKind.wrap .i64 (vx3_1 - 1)))) ≤ vr1)))
    (some false)

noncomputable def z1085 (vx1_1 : Bool) (vr1 : Int) (vx3_1 : Int) : Option (Bool) :=
  cond (vx1_1)
    (some (decide ((ishl .u64 1 (IntKind.wrap .u64 (IntKind.wrap .i64 (vx3_1 - 1)))) < vr1)))
    (some false)

noncomputable def z1089 (vx1_1 : Bool) (vr1 : Int) : Option (Int) :=
  cond (vx1_1)
    (some (IntKind.wrap .i64 (0 - (IntKind.wrap .i64 (vr1)))))
    (some (IntKind.wrap .i64 (vr1)))

noncomputable def z1070 (qx : List UInt8) (qx1 : Int) (qx2 : Int) : Option (Int) :=
  cond (decide (qx = ([] : List UInt8)))
    (none)
    ((z1073 qx).bind fun (vx2, vx1_1) =>
    (z1093 vx2 qx1 qx2).bind fun vr1 =>
    (z1077 qx2).bind fun vx3_1 =>
    gd (decide (0 ≤ (IntKind.wrap .u64 (IntKind.wrap .i64 (vx3_1 - 1))))) <|
    (z1081 vx1_1 vr1 vx3_1).bind fun vx4_1 =>
    cond (vx4_1)
      (none)
      ((z1085 vx1_1 vr1 vx3_1).bind fun vx5_1 =>
      cond (vx5_1)
        (none)
        ((z1089 vx1_1 vr1).bind fun vx6_1 =>
        some vx6_1)))

/-! ### internal/strconv.Atoi -/
noncomputable def z1047 (qx : List UInt8) : Option (Bool) :=
  cond (decide ((0 : Int) < (qx.length : Int)))
    (some (decide ((qx.length : Int) < 19)))
    (some false)

noncomputable def z1055 (qx : List UInt8) : Option (Bool) :=
  (at? qx 0).bind fun vc =>
  cond (decide ((vc.toNat : Int) = 45))
    (some true)
    (some (decide ((vc.toNat : Int) = 43)))

noncomputable def z1051 (qx : List UInt8) : Option ((List UInt8)) :=
  (z1055 qx).bind fun vx2_1 =>
  cond (vx2_1)
    ((sub? qx 1 (qx.length : Int)).bind fun vs =>
    cond (decide ((vs.length : Int) < 1))
      (none)
      (some vs))
    (some qx)

noncomputable def z1059 (vx3_1 : List UInt8) : Int × Int → Option ((Int × Int) ⊕ (Int))
  | (vx4, vx5) =>
  cond (decide (vx5 < ((bytesD vx3_1).length : Int)))
    ((at? (bytesD vx3_1) vx5).bind fun vy1 =>
    cond (decide (9 < (IntKind.wrap .u8 (vy1 - 48))))
      (none)
      (some (.inl (IntKind.wrap .i64 ((IntKind.wrap .i64 (vx4 * 10)) + (IntKind.wrap .i64 (IntKind.wrap .u8 (vy1 - 48)))), IntKind.wrap .i64 (vx5 + 1)))))
    (some (.inr vx4))

noncomputable def z1064 (qx : List UInt8) (vx6_1 : Int) : Option (Int) :=
  (at? qx 0).bind fun vc1 =>
  cond (decide ((vc1.toNat : Int) = 45))
    (some (IntKind.wrap .i64 (0 - vx6_1)))
    (some vx6_1)

noncomputable def z1044 (qx : List UInt8) : Option (Int) :=
  (z1047 qx).bind fun vx1 =>
  cond (vx1)
    ((z1051 qx).bind fun vx3_1 =>
    (loopO (z1059 vx3_1) (0, 0)).bind fun vx6_1 =>
    (z1064 qx vx6_1).bind fun vx7_1 =>
    some vx7_1)
    ((z1070 qx 10 0).bind fun vr =>
    some vr)

/-! ### strconv.Atoi -/
noncomputable def z1043 (qs : List UInt8) : Option (Int) :=
  (z1044 qs).bind fun vr1 =>
  some vr1

/-! ### beaconfleet/base.Number -/
noncomputable def z66 (qs : List UInt8) (qdigits : Int) (vr : List UInt8) : Option (Bool) :=
  cond (decide (vr = ([] : List UInt8)))
    (some true)
    (cond (decide (qdigits < (vr.length : Int)))
      (some true)
      ((at? vr 0).bind fun vc =>
      cond (decide ((vc.toNat : Int) = 48))
        (cond (decide (1 < (vr.length : Int)))
          (some true)
          (some (decide ((vr.length : Int) < (qs.length : Int)))))
        (some false)))

noncomputable def z75 (vr : List UInt8) (vx2 : Int) : Option (Bool) :=
  (at? vr vx2).bind fun vc2 =>
  cond (decide ((vc2.toNat : Int) < 48))
    (some true)
    (some (decide (57 < (vc2.toNat : Int))))

noncomputable def z70 (vr : List UInt8) (vx2 : Int) : Option ((Int) ⊕ (Unit ⊕ Unit)) :=
  cond (decide (vx2 < (vr.length : Int)))
    ((z75 vr vx2).bind fun vx4_1 =>
    cond (vx4_1)
      (some (.inr (.inr ())))
      (some (.inl (IntKind.wrap .i64 (vx2 + 1)))))
    (some (.inr (.inl ())))

noncomputable def z63 (qs : List UInt8) (qdigits : Int) : Option (Int × Bool) :=
  (z1218 qs ([45] : List UInt8)).bind fun vr =>
  (z66 qs qdigits vr).bind fun vx1 =>
  cond (vx1)
    (some (0, false))
    ((loopO (z70 vr) 0).bind fun x => match x with
      | .inl _ =>
        (z1043 qs).bind fun vr1 =>
        some (vr1, true)
      | .inr _ =>
        some (0, false))

/-! ### beaconfleet/base.Numbers -/
noncomputable def z82 (qwords : List (List UInt8)) (qdigits : Int) : (List Int) × Int → Option (((List Int) × Int) ⊕ ((List Int) ⊕ Unit))
  | (vout, vx) =>
  cond (decide (vx < (qwords.length : Int)))
    ((at? qwords vx).bind fun vy1 =>
    (z63 vy1 qdigits).bind fun (vr2_1, vr3_1) =>
    cond (!vr3_1)
      (some (.inr (.inr ())))
      (gd (Nat.ble (vout.length + ([vr2_1] : List Int).length) LIM) <|
      some (.inl (vout ++ ([vr2_1] : List Int), IntKind.wrap .i64 (vx + 1)))))
    (some (.inr (.inl vout)))

noncomputable def z79 (qwords : List (List UInt8)) (qdigits : Int) : Option ((List Int) × Bool) :=
  (loopO (z82 qwords qdigits) ([], 0)).bind fun x => match x with
    | .inl vout1_1 =>
      some (vout1_1, true)
    | .inr _ =>
      some ([], false)

/-! ### beaconfleet/base.Version -/
noncomputable def z108 (qv : api_Version) : Option (Bool) :=
  (base_Out qv.Major 0 9999).bind fun vr =>
  cond (!vr)
    ((base_Out qv.Minor 0 9999).bind fun vr1 =>
    cond (!vr1)
      ((base_Out qv.Patch 0 9999).bind fun vr2 =>
      some (!vr2))
      (some false))
    (some false)

noncomputable def z105 (qv : api_Version) : Option (Bool) :=
  (z108 qv).bind fun vx1 =>
  some vx1

/-! ### beaconfleet/campaign.ParseVersion -/
noncomputable def z138 (vr : List Int) (vr1_1 : Bool) : Option (Bool) :=
  cond (!vr1_1)
    (some true)
    (some (!decide ((vr.length : Int) = 3)))

noncomputable def z135 (qs : List UInt8) : Option (api_Version × Int) :=
  (z1215 qs ([46] : List UInt8)).bind fun vr1 =>
  (z79 vr1 4).bind fun (vr, vr1_1) =>
  (z138 vr vr1_1).bind fun vx1 =>
  cond (vx1)
    (some (api_Version.mk 0 0 0, 9))
    ((at? vr 0).bind fun vy =>
    (at? vr 1).bind fun vy1 =>
    (at? vr 2).bind fun vy2 =>
    (z105 (api_Version.mk vy vy1 vy2)).bind fun vr3 =>
    cond (!vr3)
      (some (api_Version.mk 0 0 0, 9))
      (some (api_Version.mk vy vy1 vy2, 0)))

/-! ### beaconfleet/place.Cell -/
noncomputable def z372 (qs : api_Spot) (qlevel : Int) : Option (Bool) :=
  (z574 qs).bind fun vr2 =>
  cond (!vr2)
    (some true)
    ((base_Out qlevel 0 15).bind fun vr =>
    some vr)

noncomputable def z376 (qs : api_Spot) (qlevel : Int) : (List Int) × Int × Int → Option (((List Int) × Int × Int) ⊕ ((List Int)))
  | (vout, vlong, vx2) =>
  cond (decide (vx2 < qlevel))
    (gd (!((IntKind.wrap .i64 (vlong.tdiv 2)) == 0)) <|
    gd (Nat.ble (vout.length + ([IntKind.wrap .u8 ((IntKind.wrap .u8 ((48 : Int) + (IntKind.wrap .u8 ((IntKind.wrap .i64 ((IntKind.wrap .i64 (qs.X - (-16384))).tdiv (IntKind.wrap .i64 (vlong.tdiv 2)))).tmod 2)))) + (IntKind.wrap .u8 ((2 : Int) * (IntKind.wrap .u8 ((IntKind.wrap .i64 ((IntKind.wrap .i64 (qs.Y - (-16384))).tdiv (IntKind.wrap .i64 (vlong.tdiv 2)))).tmod 2)))))] : List Int).length) LIM) <|
    some (.inl (vout ++ ([IntKind.wrap .u8 ((IntKind.wrap .u8 ((48 : Int) + (IntKind.wrap .u8 ((IntKind.wrap .i64 ((IntKind.wrap .i64 (qs.X - (-16384))).tdiv (IntKind.wrap .i64 (vlong.tdiv 2)))).tmod 2)))) + (IntKind.wrap .u8 ((2 : Int) * (IntKind.wrap .u8 ((IntKind.wrap .i64 ((IntKind.wrap .i64 (qs.Y - (-16384))).tdiv (IntKind.wrap .i64 (vlong.tdiv 2)))).tmod 2)))))] : List Int), IntKind.wrap .i64 (vlong.tdiv 2), IntKind.wrap .i64 (vx2 + 1))))
    (some (.inr vout))

noncomputable def z369 (qs : api_Spot) (qlevel : Int) : Option ((List UInt8) × Int) :=
  (z372 qs qlevel).bind fun vx1 =>
  cond (vx1)
    (some (([] : List UInt8), 1))
    ((loopO (z376 qs qlevel) ([], 32768, 0)).bind fun vout1_1 =>
    some (vout1_1.map fun n => UInt8.ofNat n.toNat, 0))

/-! ### beaconfleet/command.CheckLetter -/
noncomputable def z169 (ql : api_Letter) : Option (Bool) :=
  (base_Key ql.Id).bind fun vr =>
  cond (!vr)
    (some true)
    (cond (!decide (ql.Slot = ([] : List UInt8)))
      ((base_Key ql.Slot).bind fun vr1 =>
      some (!vr1))
      (some false))

noncomputable def z173 (ql : api_Letter) : Option (Bool) :=
  (base_Out ql.Prio 0 9).bind fun vr3 =>
  cond (vr3)
    (some true)
    ((z60 ql.At).bind fun vr1_1 =>
    cond (!vr1_1)
      (some true)
      (cond (decide (ql.Until ≤ ql.At))
        (some true)
        (some (decide (345686400000 < ql.Until)))))

noncomputable def z166 (ql : api_Letter) : Option (Int) :=
  (z169 ql).bind fun vx1 =>
  cond (vx1)
    (some 5)
    (cond (decide (1000 < (ql.Body.length : Int)))
      (some 2)
      ((z93 ql.Body).bind fun vr2 =>
      cond (!vr2)
        (some 3)
        ((z173 ql).bind fun vx2_1 =>
        cond (vx2_1)
          (some 1)
          (some 0))))

/-! ### beaconfleet/command.Order$1 -/
noncomputable def z177 (qy : api_Letter) (qx : api_Letter) : Option (Unit) :=
  some ()

/-! ### slices.IndexFunc[[]beaconfleet/api.Letter,beaconfleet/api.Letter] -/
noncomputable def z884 (qs : List api_Letter) (qf : api_Letter) (vx : Int) : Option ((Int) ⊕ (Unit ⊕ Int)) :=
  cond (decide (vx < (qs.length : Int)))
    ((at? qs vx).bind fun vy1 =>
    (z177 vy1 qf).bind fun _ =>
    cond (decide (vy1.Id = qf.Id))
      (some (.inr (.inr vx)))
      (some (.inl (IntKind.wrap .i64 (vx + 1)))))
    (some (.inr (.inl ())))

noncomputable def z881 (qs : List api_Letter) (qf : api_Letter) : Option (Int) :=
  (loopO (z884 qs qf) 0).bind fun x => match x with
    | .inl _ =>
      some (-1)
    | .inr vx1_1 =>
      some vx1_1

/-! ### slices.ContainsFunc[[]beaconfleet/api.Letter,beaconfleet/api.Letter] -/
noncomputable def z823 (qs : List api_Letter) (qf : api_Letter) : Option (Bool) :=
  (z881 qs qf).bind fun vr =>
  some (decide (0 ≤ vr))

/-! ### slices.Clone[[]beaconfleet/api.Letter,beaconfleet/api.Letter] -/
noncomputable def z737 (qs : List api_Letter) : Option (List api_Letter) :=
  gd (Nat.ble (([] : List api_Letter).length + qs.length) LIM) (some qs)

/-! ### beaconfleet/command.byOrder -/
noncomputable def z188 (qa : api_Letter) (qb : api_Letter) : Option (Int) :=
  (z142 qb.Prio qa.Prio).bind fun vr =>
  (z142 qa.At qb.At).bind fun vr1 =>
  (z1198 qa.Id qb.Id).bind fun _ =>
  (z152 ([vr, vr1, Lib.compareBytes qa.Id qb.Id] : List Int)).bind fun vr2 =>
  some vr2

/-! ### slices.insertionSortCmpFunc[beaconfleet/api.Letter] -/
noncomputable def z963 (qa : Int) (vl3 : List api_Letter) (vj1 : Int) : Option (Bool) :=
  cond (decide (qa < vj1))
    ((at? vl3 vj1).bind fun vy15 =>
    (at? vl3 (IntKind.wrap .i64 (vj1 - 1))).bind fun vy16 =>
    (z188 vy15 vy16).bind fun vr3_3 =>
    some (decide (vr3_3 < 0)))
    (some false)

noncomputable def z958 (qa : Int) : (List api_Letter) × Int → Option (((List api_Letter) × Int) ⊕ ((List api_Letter)))
  | (vl3, vj1) =>
  (z963 qa vl3 vj1).bind fun vx4_1 =>
  cond (vx4_1)
    ((at? vl3 (IntKind.wrap .i64 (vj1 - 1))).bind fun vy17 =>
    (at? vl3 vj1).bind fun vy18 =>
    (at? (vl3.set vj1.toNat vy17) (IntKind.wrap .i64 (vj1 - 1))).bind fun vy19 =>
    some (.inl ((vl3.set vj1.toNat vy17).set (IntKind.wrap .i64 (vj1 - 1)).toNat vy18, IntKind.wrap .i64 (vj1 - 1))))
    (some (.inr vl3))

noncomputable def z953 (qa : Int) (qb : Int) : (List api_Letter) × Int → Option (((List api_Letter) × Int) ⊕ ((List api_Letter)))
  | (vl, vi) =>
  cond (decide (vi < qb))
    ((loopO (z958 qa) (vl, vi)).bind fun vl4_1 =>
    some (.inl (vl4_1, IntKind.wrap .i64 (vi + 1))))
    (some (.inr vl))

noncomputable def z950 (qdata : List api_Letter) (qa : Int) (qb : Int) : Option ((List api_Letter)) :=
  (loopO (z953 qa qb) (qdata, IntKind.wrap .i64 (qa + 1))).bind fun vl5_1 =>
  some vl5_1

/-! ### slices.pdqsortCmpFunc[beaconfleet/api.Letter] -/
noncomputable def z1004 (qx : List api_Letter) (qx1 : Int) (qx2 : Int) (qx3 : Int) : Unit → Option ((Unit) ⊕ ((List api_Letter)))
  | _ =>
  cond (decide ((IntKind.wrap .i64 (qx2 - qx1)) ≤ 12))
    ((z950 qx qx1 qx2).bind fun vl6_1 =>
    gd (vl6_1.length == qx.length) <|
    some (.inr vl6_1))
    (cond (decide (qx3 = 0))
      (none)
      (none))

noncomputable def z1001 (qx : List api_Letter) (qx1 : Int) (qx2 : Int) (qx3 : Int) : Option ((List api_Letter)) :=
  (loopO (z1004 qx qx1 qx2 qx3) ()).bind fun vl1 =>
  some vl1

/-! ### slices.SortFunc[[]beaconfleet/api.Letter,beaconfleet/api.Letter] -/
noncomputable def z921 (qx : List api_Letter) : Option ((List api_Letter)) :=
  (bits_Len (IntKind.wrap .u64 ((qx.length : Int)))).bind fun vr1 =>
  (z1001 qx 0 (qx.length : Int) vr1).bind fun vl2 =>
  gd (vl2.length == qx.length) <|
  some vl2

/-! ### beaconfleet/command.Order -/
noncomputable def z183 (ql : List api_Letter) (vx : Int) : Option ((Int) ⊕ (Unit ⊕ Int)) :=
  cond (decide (vx < (ql.length : Int)))
    ((at? ql vx).bind fun vy1 =>
    (z166 vy1).bind fun vr4_1 =>
    cond (!decide (vr4_1 = 0))
      (some (.inr (.inr vr4_1)))
      ((sub? ql 0 vx).bind fun vl1 =>
      (z823 vl1 vy1).bind fun vr1_1 =>
      cond (vr1_1)
        (some (.inr (.inr 6)))
        (some (.inl (IntKind.wrap .i64 (vx + 1))))))
    (some (.inr (.inl ())))

noncomputable def z180 (ql : List api_Letter) : Option ((List api_Letter) × Int) :=
  cond (decide (500 < (ql.length : Int)))
    (some ([], 2))
    ((loopO (z183 ql) 0).bind fun x => match x with
      | .inl _ =>
        (z737 ql).bind fun vr =>
        (z921 vr).bind fun vl2 =>
        gd (vl2.length == vr.length) <|
        some (vl2, 0)
      | .inr vx1_1 =>
        some ([], vx1_1))

/-! ### beaconfleet/fleetkeep2.errs -/
noncomputable def z199 (ql : List Int) (vx : Int) : Option ((Int) ⊕ (Unit ⊕ Int)) :=
  cond (decide (vx < (ql.length : Int)))
    ((at? ql vx).bind fun vy1 =>
    cond (!decide (vy1 = 0))
      (some (.inr (.inr vy1)))
      (some (.inl (IntKind.wrap .i64 (vx + 1)))))
    (some (.inr (.inl ())))

noncomputable def z196 (ql : List Int) : Option (Int) :=
  (loopO (z199 ql) 0).bind fun x => match x with
    | .inl _ =>
      some 0
    | .inr vx1_1 =>
      some vx1_1

/-! ### slices.Equal[[]byte,byte] -/
noncomputable def z854 (qs1 : List Int) (qs2 : List Int) (vx : Int) : Option ((Int) ⊕ (Unit ⊕ Unit)) :=
  cond (decide (vx < (qs1.length : Int)))
    ((at? qs1 vx).bind fun vy2 =>
    (at? qs2 vx).bind fun vy3 =>
    cond (!decide (vy2 = vy3))
      (some (.inr (.inr ())))
      (some (.inl (IntKind.wrap .i64 (vx + 1)))))
    (some (.inr (.inl ())))

noncomputable def z851 (qs1 : List Int) (qs2 : List Int) : Option (Bool) :=
  cond (!decide ((qs1.length : Int) = (qs2.length : Int)))
    (some false)
    ((loopO (z854 qs1 qs2) 0).bind fun x => match x with
      | .inl _ =>
        some true
      | .inr _ =>
        some false)

/-! ### beaconfleet/fleetkeep2.ready -/
noncomputable def z207 (vr5 : List api_Change) (vr6 : Int) (vr : List Int) (vr2 : Int) (vr2_1 : api_Version) (vr4 : Int) (vr1 : List UInt8) (vr3 : Int) (vr2_2 : List api_Letter) (vr3_1 : Int) : Option (Bool) :=
  (z196 ([vr6, vr2, vr4, vr3, vr3_1] : List Int)).bind fun vr7 =>
  cond (decide (vr7 = 0))
    (cond (decide ((vr5.length : Int) = 1))
      ((z851 vr ([1, 2, 2] : List Int)).bind fun vr8 =>
      cond (vr8)
        (cond (decide (vr2_1.Patch = 3))
          (cond (decide (vr1 = ([51] : List UInt8)))
            (some (decide ((vr2_2.length : Int) = 1)))
            (some false))
          (some false))
        (some false))
      (some false))
    (some false)

noncomputable def z204 : Option (Bool) :=
  (z1309 ([api_Prop.mk ([97] : List UInt8) (api_Value.mk 1 false 0 ([] : List UInt8))] : List api_Prop)).bind fun (vr5, vr6) =>
  (z680 ([api_Sample.mk ([100] : List UInt8) ([109] : List UInt8) 1 1] : List api_Sample)).bind fun (vr, vr2) =>
  (z135 ([49, 46, 50, 46, 51] : List UInt8)).bind fun (vr2_1, vr4) =>
  (z369 (api_Spot.mk 0 0) 1).bind fun (vr1, vr3) =>
  (z180 ([api_Letter.mk ([97] : List UInt8) ([] : List UInt8) ([] : List UInt8) 0 0 5] : List api_Letter)).bind fun (vr2_2, vr3_1) =>
  (z207 vr5 vr6 vr vr2 vr2_1 vr4 vr1 vr3 vr2_2 vr3_1).bind fun vx1 =>
  some vx1

/-! ### beaconfleet/fleetkeep2.PlacesStay -/
noncomputable def z192 (vr9 : List api_Spot) (vr16 : List api_Fix) : Option (Bool) :=
  (z843 vr9).bind fun vr =>
  cond (vr)
    ((z835 vr16).bind fun vr7 =>
    cond (vr7)
      ((z204).bind fun vr9_1 =>
      some vr9_1)
      (some false))
    (some false)

noncomputable def fleetkeep2_PlacesStay (qx : List Int) : Option (Bool) :=
  (z250 (z234.mk qx 0)).bind fun (vs15, vr9) =>
  (z276 vs15 9).bind fun (vs11, vr16) =>
  (z413 vr9).bind fun (vr5, vr6) =>
  (z219 vr5).bind fun vl2 =>
  gd (vl2.length == vr5.length) <|
  (z422 vr16).bind fun (vr3, vr4) =>
  (z211 vr3).bind fun vl2_1 =>
  gd (vl2_1.length == vr3.length) <|
  (place_Of vr16 ([100] : List UInt8)).bind fun (vr1, vr2) =>
  (z211 vr1).bind fun vl2_2 =>
  gd (vl2_2.length == vr1.length) <|
  (z441 vr16 2).bind fun (vr2_1, vr3_1) =>
  (z419 (api_Fence.mk ([102] : List UInt8) vr9)).bind fun (vr2_2, vr4_1) =>
  (z471 vr16 2 10).bind fun (vr3_2, vr4_2) =>
  (z192 vr9 vr16).bind fun vx1 =>
  some vx1

end Go.Eng
