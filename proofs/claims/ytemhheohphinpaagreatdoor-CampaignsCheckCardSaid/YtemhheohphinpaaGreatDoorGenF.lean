/-
The Go functions that the law CampaignsCheck reaches, as plain functions.
-/
import Derived.Test.YtemhheohphinpaaGreatDoorEngV

namespace Go.Eng

open Go

set_option linter.unusedVariables false

structure z253 where
  L : List Int
  at_ : Int

def z253.enc (x : z253) : List D := [.lst (List.map (encI .i64) x.L), .int .i64 x.at_]

structure api_Wave where
  Part : Int
  Wait : Int
  Least : Int
  Fails : Int

def api_Wave.enc (x : api_Wave) : List D := [.int .i64 x.Part, .int .i64 x.Wait, .int .i64 x.Least, .int .i64 x.Fails]

structure api_Version where
  Major : Int
  Minor : Int
  Patch : Int

def api_Version.enc (x : api_Version) : List D := [.int .i64 x.Major, .int .i64 x.Minor, .int .i64 x.Patch]

structure api_Pair where
  Name : List UInt8
  Value : List UInt8

def api_Pair.enc (x : api_Pair) : List D := [.str x.Name, .str x.Value]

structure api_Device where
  Key : List UInt8
  Model : List UInt8
  Tenant : List UInt8
  Firmware : api_Version
  Tags : List api_Pair

def api_Device.enc (x : api_Device) : List D := [.str x.Key, .str x.Model, .str x.Tenant, .int .i64 x.Firmware.Major, .int .i64 x.Firmware.Minor, .int .i64 x.Firmware.Patch, .lst (List.map api_Pair.enc x.Tags)]

structure api_Window where
  From : Int
  To : Int

def api_Window.enc (x : api_Window) : List D := [.int .i64 x.From, .int .i64 x.To]

structure api_Campaign where
  Key : List UInt8
  Target : api_Version
  At : Int
  Waves : List api_Wave
  Hours : api_Window
  Room : Int

def api_Campaign.enc (x : api_Campaign) : List D := [.str x.Key, .int .i64 x.Target.Major, .int .i64 x.Target.Minor, .int .i64 x.Target.Patch, .int .i64 x.At, .lst (List.map api_Wave.enc x.Waves), .int .i64 x.Hours.From, .int .i64 x.Hours.To, .int .i64 x.Room]

structure api_Mark where
  At : Int
  Device : List UInt8
  Kind : Int
  Version : api_Version

def api_Mark.enc (x : api_Mark) : List D := [.int .i64 x.At, .str x.Device, .int .i64 x.Kind, .int .i64 x.Version.Major, .int .i64 x.Version.Minor, .int .i64 x.Version.Patch]

/-! ### beaconfleet/fleetmake.Below -/
noncomputable def z249 (qx : Int) (qn : Int) : Option (Int) :=
  cond (decide ((qx.tmod qn) < 0))
    (some (IntKind.wrap .i64 ((qx.tmod qn) + qn)))
    (some (qx.tmod qn))

noncomputable def z246 (qx : Int) (qn : Int) : Option (Int) :=
  cond (decide (qn < 1))
    (some 0)
    (gd (!(qn == 0)) <|
    (z249 qx qn).bind fun vx1 =>
    some vx1)

/-! ### (*beaconfleet/fleetmake.Stream).Next -/
noncomputable def z311 (qs : z253) (qn : Int) : Option (Int) :=
  cond (decide ((qs.L.length : Int) = 0))
    ((z246 (IntKind.wrap .i64 ((IntKind.wrap .i64 (qs.at_ + 1)) * 7919)) qn).bind fun vr =>
    some vr)
    (gd (!((qs.L.length : Int) == 0)) <|
    (at? qs.L ((IntKind.wrap .i64 ((IntKind.wrap .i64 (qs.at_ + 1)) - 1)).tmod (qs.L.length : Int))).bind fun vy =>
    (z246 vy 1073741824).bind fun vr1 =>
    (z246 (IntKind.wrap .i64 (vr1 + (IntKind.wrap .i64 ((IntKind.wrap .i64 ((IntKind.wrap .i64 ((IntKind.wrap .i64 (qs.at_ + 1)) - 1)).tdiv (qs.L.length : Int))) * (IntKind.wrap .i64 ((7919 : Int) + ((IntKind.wrap .i64 ((IntKind.wrap .i64 (qs.at_ + 1)) - 1)).tmod (qs.L.length : Int)))))))) qn).bind fun vr2 =>
    some vr2)

/-! ### (*beaconfleet/fleetmake.Stream).Some -/
noncomputable def z350 (qs : z253) (ql : List (List UInt8)) : Option ((List UInt8)) :=
  (z311 qs (ql.length : Int)).bind fun vr3 =>
  (at? ql vr3).bind fun vy =>
  some vy

/-! ### (*beaconfleet/fleetmake.Stream).Pick -/
noncomputable def z317 (qs : z253) (ql : List Int) : Option (Int) :=
  (z311 qs (ql.length : Int)).bind fun vr3 =>
  (at? ql vr3).bind fun vy =>
  some vy

/-! ### beaconfleet/fleetmake.whole -/
noncomputable def z360 (qn : Int) : Option (Unit) :=
  some ()

/-! ### (*beaconfleet/fleetmake.Stream).Flip -/
noncomputable def z272 (qs : z253) (qn : Int) : Option (Bool) :=
  (z311 qs qn).bind fun vr3 =>
  some (decide (vr3 = 0))

/-! ### (*beaconfleet/fleetmake.Stream).RightCampaign -/
noncomputable def z326 (vy : List Int) : z253 × (List api_Wave) × Int → Option ((z253 × (List api_Wave) × Int) ⊕ ((z253 × (List api_Wave))))
  | (vs, vc, vx) =>
  cond (decide (vx < (vy.length : Int)))
    ((at? vy vx).bind fun vy2 =>
    (z317 vs ([0, 0, 10, 30] : List Int)).bind fun vr7 =>
    (z317 (z253.mk vs.L (IntKind.wrap .i64 (vs.at_ + 1))) ([1, 1, 2, 3] : List Int)).bind fun vr8 =>
    (z317 (z253.mk vs.L (IntKind.wrap .i64 ((IntKind.wrap .i64 (vs.at_ + 1)) + 1))) ([0, 300, 500, 1000] : List Int)).bind fun vr9 =>
    gd (Nat.ble (vc.length + ([api_Wave.mk vy2 vr7 vr8 vr9] : List api_Wave).length) LIM) <|
    some (.inl (z253.mk vs.L (IntKind.wrap .i64 ((IntKind.wrap .i64 ((IntKind.wrap .i64 (vs.at_ + 1)) + 1)) + 1)), vc ++ ([api_Wave.mk vy2 vr7 vr8 vr9] : List api_Wave), IntKind.wrap .i64 (vx + 1))))
    (some (.inr (vs, vc)))

noncomputable def z331 (vs1_1 : z253) : Option ((z253 × Int × Int)) :=
  (z272 vs1_1 3).bind fun vr10 =>
  cond (vr10)
    ((z317 (z253.mk vs1_1.L (IntKind.wrap .i64 (vs1_1.at_ + 1))) ([0, 50, 3600000] : List Int)).bind fun vr11 =>
    (z317 (z253.mk vs1_1.L (IntKind.wrap .i64 ((IntKind.wrap .i64 (vs1_1.at_ + 1)) + 1))) ([0, 40, 200, 86400000] : List Int)).bind fun vr12 =>
    some (z253.mk vs1_1.L (IntKind.wrap .i64 ((IntKind.wrap .i64 ((IntKind.wrap .i64 (vs1_1.at_ + 1)) + 1)) + 1)), vr11, vr12))
    (some (z253.mk vs1_1.L (IntKind.wrap .i64 (vs1_1.at_ + 1)), 0, 0))

noncomputable def z323 (qs : z253) : Option (z253 × (List UInt8) × Int × Int × (List api_Wave) × Int × Int × Int) :=
  (z350 qs ([([99] : List UInt8), ([107] : List UInt8), ([122, 57] : List UInt8)] : List (List UInt8))).bind fun vr =>
  (z317 (z253.mk qs.L (IntKind.wrap .i64 (qs.at_ + 1))) ([2, 3, 4] : List Int)).bind fun vr1 =>
  (z360 vr1).bind fun _ =>
  (z317 (z253.mk qs.L (IntKind.wrap .i64 ((IntKind.wrap .i64 (qs.at_ + 1)) + 1))) ([0, 10, 100] : List Int)).bind fun vr2 =>
  (z317 (z253.mk qs.L (IntKind.wrap .i64 ((IntKind.wrap .i64 ((IntKind.wrap .i64 (qs.at_ + 1)) + 1)) + 1))) ([1, 2, 5] : List Int)).bind fun vr3 =>
  (z311 (z253.mk qs.L (IntKind.wrap .i64 ((IntKind.wrap .i64 ((IntKind.wrap .i64 ((IntKind.wrap .i64 (qs.at_ + 1)) + 1)) + 1)) + 1))) 4).bind fun vr3_1 =>
  (at? ([([1000] : List Int), ([500, 500] : List Int), ([200, 300, 500] : List Int), ([100, 900] : List Int)] : List (List Int)) vr3_1).bind fun vy =>
  (loopO (z326 vy) (z253.mk qs.L (IntKind.wrap .i64 ((IntKind.wrap .i64 ((IntKind.wrap .i64 ((IntKind.wrap .i64 ((IntKind.wrap .i64 (qs.at_ + 1)) + 1)) + 1)) + 1)) + 1)), [], 0)).bind fun (vs1_1, vc1_1) =>
  (z331 vs1_1).bind fun (vs2_1, vc2_1, vc3_1) =>
  some (vs2_1, vr, vr1, vr2, vc1_1, vc2_1, vc3_1, vr3)

/-! ### (*beaconfleet/fleetmake.Stream).Range -/
noncomputable def z320 (qs : z253) (qlow : Int) (qhigh : Int) : Option (z253 × Int) :=
  cond (decide (qhigh < qlow))
    (some (qs, qlow))
    ((z311 qs (IntKind.wrap .i64 ((IntKind.wrap .i64 (qhigh - qlow)) + 1))).bind fun vr3 =>
    some (z253.mk qs.L (IntKind.wrap .i64 (qs.at_ + 1)), IntKind.wrap .i64 (qlow + vr3)))

/-! ### (*beaconfleet/fleetmake.Stream).RightVersion -/
noncomputable def z347 (qs : z253) : Option (z253 × api_Version) :=
  (z320 qs 1 4).bind fun (vs, vr) =>
  (z317 vs ([0, 0, 1, 5, 9999] : List Int)).bind fun vr1 =>
  (z317 (z253.mk vs.L (IntKind.wrap .i64 (vs.at_ + 1))) ([0, 0, 0, 3, 9999] : List Int)).bind fun vr2 =>
  some (z253.mk vs.L (IntKind.wrap .i64 ((IntKind.wrap .i64 (vs.at_ + 1)) + 1)), api_Version.mk vr vr1 vr2)

/-! ### (*beaconfleet/fleetmake.Stream).Odd -/
noncomputable def z314 (qs : z253) (qlow : Int) (qhigh : Int) : Option (z253 × Int) :=
  (z272 qs 12).bind fun vr =>
  cond (vr)
    ((z317 (z253.mk qs.L (IntKind.wrap .i64 (qs.at_ + 1))) ([IntKind.wrap .i64 (qlow - 1), IntKind.wrap .i64 (qhigh + 1), qlow, qhigh, (-1099511627776), 1099511627776] : List Int)).bind fun vr1 =>
    some (z253.mk qs.L (IntKind.wrap .i64 ((IntKind.wrap .i64 (qs.at_ + 1)) + 1)), vr1))
    ((z320 (z253.mk qs.L (IntKind.wrap .i64 (qs.at_ + 1))) qlow qhigh).bind fun (vs, vr2) =>
    some (vs, vr2))

/-! ### (*beaconfleet/fleetmake.Stream).Version -/
noncomputable def z356 (vs1 : z253) (vr3 : api_Version) : Option ((z253 × api_Version)) :=
  (z272 vs1 30).bind fun vr =>
  cond (vr)
    ((z314 (z253.mk vs1.L (IntKind.wrap .i64 (vs1.at_ + 1))) 0 9999).bind fun (vs1_1, vr3_1) =>
    (z314 vs1_1 0 9999).bind fun (vs1_2, vr3_2) =>
    some (vs1_2, api_Version.mk vr3.Major vr3_2 vr3_1))
    (some (z253.mk vs1.L (IntKind.wrap .i64 (vs1.at_ + 1)), vr3))

noncomputable def z353 (qs : z253) : Option (z253 × api_Version) :=
  (z347 qs).bind fun (vs1, vr3) =>
  (z356 vs1 vr3).bind fun (vs2, vv1) =>
  some (vs2, vv1)

/-! ### (*beaconfleet/fleetmake.Stream).Campaign -/
noncomputable def z257 (vs3 : z253) (vr13 : List UInt8) (vr14 : Int) (vr15 : Int) (vr16 : List api_Wave) (vr17 : Int) (vr18 : Int) (vr19 : Int) : Option ((z253 × (List UInt8) × Int × Int × Int × Int × (List api_Wave) × Int × Int × Int)) :=
  (z272 vs3 12).bind fun vr =>
  cond (vr)
    ((z311 (z253.mk vs3.L (IntKind.wrap .i64 (vs3.at_ + 1))) 6).bind fun vr3 =>
    cond (decide (vr3 = 0))
      ((z350 (z253.mk vs3.L (IntKind.wrap .i64 ((IntKind.wrap .i64 (vs3.at_ + 1)) + 1))) ([([] : List UInt8), ([65] : List UInt8)] : List (List UInt8))).bind fun vr1 =>
      some (z253.mk vs3.L (IntKind.wrap .i64 ((IntKind.wrap .i64 ((IntKind.wrap .i64 (vs3.at_ + 1)) + 1)) + 1)), vr1, vr14, 0, 0, vr15, vr16, vr17, vr18, vr19))
      (cond (decide (vr3 = 1))
        ((z353 (z253.mk vs3.L (IntKind.wrap .i64 ((IntKind.wrap .i64 (vs3.at_ + 1)) + 1)))).bind fun (vs3_1, vr1_1) =>
        some (vs3_1, vr13, vr1_1.Major, vr1_1.Minor, vr1_1.Patch, vr15, vr16, vr17, vr18, vr19))
        (cond (decide (vr3 = 2))
          ((z314 (z253.mk vs3.L (IntKind.wrap .i64 ((IntKind.wrap .i64 (vs3.at_ + 1)) + 1))) 0 100).bind fun (vs1, vr3_1) =>
          some (vs1, vr13, vr14, 0, 0, vr3_1, vr16, vr17, vr18, vr19))
          (cond (decide (vr3 = 3))
            ((z314 (z253.mk vs3.L (IntKind.wrap .i64 ((IntKind.wrap .i64 (vs3.at_ + 1)) + 1))) 1 1000).bind fun (vs1_1, vr3_2) =>
            (z314 vs1_1 0 10).bind fun (vs1_2, vr3_3) =>
            (z314 vs1_2 1 500).bind fun (vs1_3, vr3_4) =>
            (z314 vs1_3 0 1000).bind fun (vs1_4, vr3_5) =>
            gd (Nat.ble (vr16.length + ([api_Wave.mk vr3_2 vr3_3 vr3_4 vr3_5] : List api_Wave).length) LIM) <|
            some (vs1_4, vr13, vr14, 0, 0, vr15, vr16 ++ ([api_Wave.mk vr3_2 vr3_3 vr3_4 vr3_5] : List api_Wave), vr17, vr18, vr19))
            (cond (decide (vr3 = 4))
              ((z314 (z253.mk vs3.L (IntKind.wrap .i64 ((IntKind.wrap .i64 (vs3.at_ + 1)) + 1))) 0 86400000).bind fun (vs1_5, vr3_6) =>
              (z314 vs1_5 0 86400000).bind fun (vs1_6, vr3_7) =>
              some (vs1_6, vr13, vr14, 0, 0, vr15, vr16, vr3_6, vr3_7, vr19))
              ((z314 (z253.mk vs3.L (IntKind.wrap .i64 ((IntKind.wrap .i64 (vs3.at_ + 1)) + 1))) 1 500).bind fun (vs1_7, vr3_8) =>
              some (vs1_7, vr13, vr14, 0, 0, vr15, vr16, vr17, vr18, vr3_8)))))))
    (some (z253.mk vs3.L (IntKind.wrap .i64 (vs3.at_ + 1)), vr13, vr14, 0, 0, vr15, vr16, vr17, vr18, vr19))

noncomputable def z254 (qs : z253) : Option (z253 × (List UInt8) × Int × Int × Int × Int × (List api_Wave) × Int × Int × Int) :=
  (z323 qs).bind fun (vs3, vr13, vr14, vr15, vr16, vr17, vr18, vr19) =>
  (z257 vs3 vr13 vr14 vr15 vr16 vr17 vr18 vr19).bind fun (vs2, vc9, vc1_1, vc2_1, vc3_1, vc4_1, vc5_1, vc6_1, vc7_1, vc8_1) =>
  some (vs2, vc9, vc1_1, vc2_1, vc3_1, vc4_1, vc5_1, vc6_1, vc7_1, vc8_1)

/-! ### (*beaconfleet/fleetmake.Stream).RightFleet -/
noncomputable def z343 (qmost : Int) (vs : z253) (vout : List api_Device) (vx : Int) : Option ((z253 × (List api_Device))) :=
  (at? (([([100, 49] : List UInt8), ([100, 50] : List UInt8), ([100, 51] : List UInt8), ([100, 52] : List UInt8), ([100, 53] : List UInt8), ([100, 54] : List UInt8)] : List (List UInt8)).take qmost.toNat) vx).bind fun vy1 =>
  (z272 vs 5).bind fun vr4 =>
  cond (!vr4)
    ((z350 (z253.mk vs.L (IntKind.wrap .i64 (vs.at_ + 1))) ([([109] : List UInt8), ([109] : List UInt8), ([109] : List UInt8), ([110] : List UInt8)] : List (List UInt8))).bind fun vr5 =>
    (z317 (z253.mk vs.L (IntKind.wrap .i64 ((IntKind.wrap .i64 (vs.at_ + 1)) + 1))) ([1, 1, 1, 2, 3] : List Int)).bind fun vr6 =>
    (z317 (z253.mk vs.L (IntKind.wrap .i64 ((IntKind.wrap .i64 ((IntKind.wrap .i64 (vs.at_ + 1)) + 1)) + 1))) ([0, 0, 5] : List Int)).bind fun vr7 =>
    gd (Nat.ble (vout.length + ([api_Device.mk vy1 vr5 ([116] : List UInt8) (api_Version.mk vr6 vr7 0) []] : List api_Device).length) LIM) <|
    some (z253.mk vs.L (IntKind.wrap .i64 ((IntKind.wrap .i64 ((IntKind.wrap .i64 ((IntKind.wrap .i64 (vs.at_ + 1)) + 1)) + 1)) + 1)), vout ++ ([api_Device.mk vy1 vr5 ([116] : List UInt8) (api_Version.mk vr6 vr7 0) []] : List api_Device)))
    (some (z253.mk vs.L (IntKind.wrap .i64 (vs.at_ + 1)), vout))

noncomputable def z338 (qmost : Int) : z253 × (List api_Device) × Int → Option ((z253 × (List api_Device) × Int) ⊕ ((z253 × (List api_Device))))
  | (vs, vout, vx) =>
  cond (decide (vx < ((([([100, 49] : List UInt8), ([100, 50] : List UInt8), ([100, 51] : List UInt8), ([100, 52] : List UInt8), ([100, 53] : List UInt8), ([100, 54] : List UInt8)] : List (List UInt8)).take qmost.toNat).length : Int)))
    ((z343 qmost vs vout vx).bind fun (vs2_1, vout2_1) =>
    some (.inl (vs2_1, vout2_1, IntKind.wrap .i64 (vx + 1))))
    (some (.inr (vs, vout)))

noncomputable def z335 (qs : z253) (qmost : Int) : Option (z253 × (List api_Device)) :=
  gd (decide (0 ≤ qmost) && decide (qmost ≤ (([([100, 49] : List UInt8), ([100, 50] : List UInt8), ([100, 51] : List UInt8), ([100, 52] : List UInt8), ([100, 53] : List UInt8), ([100, 54] : List UInt8)] : List (List UInt8)).length : Int))) <|
  (loopO (z338 qmost) (qs, [], 0)).bind fun (vs3_1, vout3_1) =>
  some (vs3_1, vout3_1)

/-! ### (*beaconfleet/fleetmake.Stream).Fleet -/
noncomputable def z268 (vs4 : z253) (vr8 : List api_Device) : Option ((z253 × Bool)) :=
  cond (decide (0 < (vr8.length : Int)))
    ((z272 vs4 15).bind fun vr =>
    some (z253.mk vs4.L (IntKind.wrap .i64 (vs4.at_ + 1)), vr))
    (some (vs4, false))

noncomputable def z264 (vs4 : z253) (vr8 : List api_Device) : Option ((z253 × (List api_Device))) :=
  (z268 vs4 vr8).bind fun (vs1, vx1) =>
  cond (vx1)
    ((z311 vs1 (vr8.length : Int)).bind fun vr3 =>
    (at? vr8 vr3).bind fun vy =>
    (z350 (z253.mk vs1.L (IntKind.wrap .i64 (vs1.at_ + 1))) ([vy.Key, ([] : List UInt8), ([100, 49] : List UInt8)] : List (List UInt8))).bind fun vr1 =>
    (z350 (z253.mk vs1.L (IntKind.wrap .i64 ((IntKind.wrap .i64 (vs1.at_ + 1)) + 1))) ([([109] : List UInt8), ([] : List UInt8)] : List (List UInt8))).bind fun vr2 =>
    (z353 (z253.mk vs1.L (IntKind.wrap .i64 ((IntKind.wrap .i64 ((IntKind.wrap .i64 (vs1.at_ + 1)) + 1)) + 1)))).bind fun (vs3, vr1_1) =>
    some (vs3, ((vr8.set vr3.toNat (api_Device.mk vr1 vy.Model vy.Tenant (api_Version.mk vy.Firmware.Major vy.Firmware.Minor vy.Firmware.Patch) vy.Tags)).set vr3.toNat (api_Device.mk vr1 vr2 vy.Tenant (api_Version.mk vy.Firmware.Major vy.Firmware.Minor vy.Firmware.Patch) vy.Tags)).set vr3.toNat (api_Device.mk vr1 vr2 vy.Tenant vr1_1 vy.Tags)))
    (some (vs1, vr8))

noncomputable def z261 (qs : z253) (qmost : Int) : Option (z253 × (List api_Device)) :=
  (z335 qs qmost).bind fun (vs4, vr8) =>
  (z264 vs4 vr8).bind fun (vs2_1, vout1) =>
  some (vs2_1, vout1)

/-! ### beaconfleet/fleetref2.sign -/
noncomputable def z459 (qn : Int) : Option (Int) :=
  cond (decide (qn < 0))
    (some (-1))
    (cond (decide (0 < qn))
      (some 1)
      (some 0))

/-! ### internal/bytealg.CompareString -/
noncomputable def z100 (qa : List UInt8) (qb : List UInt8) : Option (Unit) :=
  some ()

/-! ### strings.Compare -/
noncomputable def z930 (qa : List UInt8) (qb : List UInt8) : Option (Unit) :=
  (z100 qa qb).bind fun _ =>
  some ()

/-! ### beaconfleet/fleetref2.MarkOrder -/
noncomputable def z398 (qa : api_Mark) (qb : api_Mark) : Option (Int) :=
  cond (!decide (qa.At = qb.At))
    ((z459 (IntKind.wrap .i64 (qa.At - qb.At))).bind fun vr =>
    some vr)
    ((z930 qa.Device qb.Device).bind fun _ =>
    some (Lib.compareBytes qa.Device qb.Device))

/-! ### slices.insertionSortCmpFunc[beaconfleet/api.Mark] -/
noncomputable def z593 (qa : Int) (vl3 : List api_Mark) (vj1 : Int) : Option (Bool) :=
  cond (decide (qa < vj1))
    ((at? vl3 vj1).bind fun vy15 =>
    (at? vl3 (IntKind.wrap .i64 (vj1 - 1))).bind fun vy16 =>
    (z398 (api_Mark.mk vy15.At vy15.Device vy15.Kind (api_Version.mk vy15.Version.Major vy15.Version.Minor vy15.Version.Patch)) (api_Mark.mk vy16.At vy16.Device vy16.Kind (api_Version.mk vy16.Version.Major vy16.Version.Minor vy16.Version.Patch))).bind fun vr1_3 =>
    some (decide (vr1_3 < 0)))
    (some false)

noncomputable def z588 (qa : Int) : (List api_Mark) × Int → Option (((List api_Mark) × Int) ⊕ ((List api_Mark)))
  | (vl3, vj1) =>
  (z593 qa vl3 vj1).bind fun vx4_1 =>
  cond (vx4_1)
    ((at? vl3 (IntKind.wrap .i64 (vj1 - 1))).bind fun vy17 =>
    (at? vl3 vj1).bind fun vy18 =>
    (at? (vl3.set vj1.toNat (api_Mark.mk vy17.At vy17.Device vy17.Kind (api_Version.mk vy17.Version.Major vy17.Version.Minor vy17.Version.Patch))) (IntKind.wrap .i64 (vj1 - 1))).bind fun vy19 =>
    some (.inl ((vl3.set vj1.toNat (api_Mark.mk vy17.At vy17.Device vy17.Kind (api_Version.mk vy17.Version.Major vy17.Version.Minor vy17.Version.Patch))).set (IntKind.wrap .i64 (vj1 - 1)).toNat (api_Mark.mk vy18.At vy18.Device vy18.Kind (api_Version.mk vy18.Version.Major vy18.Version.Minor vy18.Version.Patch)), IntKind.wrap .i64 (vj1 - 1))))
    (some (.inr vl3))

noncomputable def z583 (qa : Int) (qb : Int) : (List api_Mark) × Int → Option (((List api_Mark) × Int) ⊕ ((List api_Mark)))
  | (vl, vi) =>
  cond (decide (vi < qb))
    ((loopO (z588 qa) (vl, vi)).bind fun vl4_1 =>
    some (.inl (vl4_1, IntKind.wrap .i64 (vi + 1))))
    (some (.inr vl))

noncomputable def z580 (qdata : List api_Mark) (qa : Int) (qb : Int) : Option ((List api_Mark)) :=
  (loopO (z583 qa qb) (qdata, IntKind.wrap .i64 (qa + 1))).bind fun vl5_1 =>
  some vl5_1

/-! ### slices.stableCmpFunc[beaconfleet/api.Mark] -/
noncomputable def z757 (qn : Int) : (List api_Mark) × Int × Int → Option (((List api_Mark) × Int × Int) ⊕ (((List api_Mark) × Int)))
  | (vl, va, vb) =>
  cond (decide (vb ≤ qn))
    ((z580 vl va vb).bind fun vl6_1 =>
    gd (vl6_1.length == vl.length) <|
    some (.inl (vl6_1, vb, IntKind.wrap .i64 (vb + 20))))
    (some (.inr (vl, va)))

noncomputable def z767 (qn : Int) (vblockSize : Int) : Unit → Option ((Unit) ⊕ (Unit))
  | _ =>
  cond (decide ((IntKind.wrap .i64 ((2 : Int) * vblockSize)) ≤ qn))
    (none)
    (some (.inr ()))

noncomputable def z762 (qn : Int) (vblockSize : Int) : Option ((Int) ⊕ (Unit)) :=
  cond (decide (vblockSize < qn))
    ((loopO (z767 qn vblockSize) ()).bind fun _ =>
    cond (decide ((IntKind.wrap .i64 ((0 : Int) + vblockSize)) < qn))
      (none)
      (some (.inl (IntKind.wrap .i64 (vblockSize * 2)))))
    (some (.inr ()))

noncomputable def z754 (qdata : List api_Mark) (qn : Int) : Option ((List api_Mark)) :=
  (loopO (z757 qn) (qdata, 0, 20)).bind fun (vl1_1, va1_1) =>
  (z580 vl1_1 va1_1 qn).bind fun vl6_2 =>
  gd (vl6_2.length == vl1_1.length) <|
  (loopO (z762 qn) 20).bind fun _ =>
  some vl6_2

/-! ### slices.SortStableFunc[[]beaconfleet/api.Mark,beaconfleet/api.Mark] -/
noncomputable def z537 (qx : List api_Mark) : Option ((List api_Mark)) :=
  (z754 qx (qx.length : Int)).bind fun vl2 =>
  gd (vl2.length == qx.length) <|
  some vl2

/-! ### (*beaconfleet/fleetmake.Stream).Marks$1 -/
noncomputable def z276 (qa : api_Mark) (qb : api_Mark) : Option (Bool) :=
  (z398 (api_Mark.mk qa.At qa.Device qa.Kind (api_Version.mk qa.Version.Major qa.Version.Minor qa.Version.Patch)) (api_Mark.mk qb.At qb.Device qb.Kind (api_Version.mk qb.Version.Major qb.Version.Minor qb.Version.Patch))).bind fun vr1 =>
  some (decide (vr1 = 0))

/-! ### slices.CompactFunc[[]beaconfleet/api.Mark,beaconfleet/api.Mark] -/
noncomputable def z485 (qx : List api_Mark) (vx : Int) (vl4 : List api_Mark) (vx6 : Int) (vx7 : Int) : Option (((List api_Mark) × Int)) :=
  gd (decide (0 ≤ vx) && decide (0 ≤ vx7) && decide (vx7 < (qx.length : Int) - vx)) <|
  (at? vl4 (vx + vx7)).bind fun vy13 =>
  gd (decide (0 ≤ vx) && decide (0 ≤ (IntKind.wrap .i64 (vx7 - 1))) && decide ((IntKind.wrap .i64 (vx7 - 1)) < (qx.length : Int) - vx)) <|
  (at? vl4 (vx + (IntKind.wrap .i64 (vx7 - 1)))).bind fun vy14 =>
  (z276 (api_Mark.mk vy13.At vy13.Device vy13.Kind (api_Version.mk vy13.Version.Major vy13.Version.Minor vy13.Version.Patch)) (api_Mark.mk vy14.At vy14.Device vy14.Kind (api_Version.mk vy14.Version.Major vy14.Version.Minor vy14.Version.Patch))).bind fun vr5 =>
  cond (!vr5)
    ((at? vl4 vx6).bind fun vy15 =>
    some (vl4.set vx6.toNat (api_Mark.mk vy13.At vy13.Device vy13.Kind (api_Version.mk vy13.Version.Major vy13.Version.Minor vy13.Version.Patch)), IntKind.wrap .i64 (vx6 + 1)))
    (some (vl4, vx6))

noncomputable def z480 (qx : List api_Mark) (vx : Int) : (List api_Mark) × Int × Int → Option (((List api_Mark) × Int × Int) ⊕ (((List api_Mark) × Int)))
  | (vl4, vx6, vx7) =>
  cond (decide (vx7 < (((qx.length : Int).toNat - vx.toNat : Nat) : Int)))
    ((z485 qx vx vl4 vx6 vx7).bind fun (vl6_1, vx9_1) =>
    some (.inl (vl6_1, vx9_1, IntKind.wrap .i64 (vx7 + 1))))
    (some (.inr (vl4, vx6)))

noncomputable def z475 (qx : List api_Mark) (vx : Int) : Option ((Int) ⊕ (Unit ⊕ (List api_Mark))) :=
  cond (decide (vx < (qx.length : Int)))
    ((at? qx vx).bind fun vy8 =>
    (at? qx (IntKind.wrap .i64 (vx - 1))).bind fun vy9 =>
    (z276 (api_Mark.mk vy8.At vy8.Device vy8.Kind (api_Version.mk vy8.Version.Major vy8.Version.Minor vy8.Version.Patch)) (api_Mark.mk vy9.At vy9.Device vy9.Kind (api_Version.mk vy9.Version.Major vy9.Version.Minor vy9.Version.Patch))).bind fun vr3 =>
    cond (vr3)
      (gd (decide (0 ≤ vx) && decide (vx ≤ (qx.length : Int)) && decide ((qx.length : Int) ≤ (qx.length : Int))) <|
      (loopO (z480 qx vx) (qx, vx, 1)).bind fun (vl7_1, vx10_1) =>
      gd (decide (0 ≤ vx10_1) && decide (vx10_1 ≤ (vl7_1.length : Int)) && decide ((vl7_1.length : Int) ≤ (vl7_1.length : Int))) <|
      gd (decide (0 ≤ vx10_1) && decide (vx10_1 ≤ ((vl7_1.take vx10_1.toNat ++ (List.replicate ((vl7_1.length : Int).toNat - vx10_1.toNat) (api_Mark.mk 0 ([] : List UInt8) 0 (api_Version.mk 0 0 0)) ++ vl7_1.drop (vx10_1.toNat + ((vl7_1.length : Int).toNat - vx10_1.toNat)))).length : Int))) <|
      some (.inr (.inr ((vl7_1.take vx10_1.toNat ++ (List.replicate ((vl7_1.length : Int).toNat - vx10_1.toNat) (api_Mark.mk 0 ([] : List UInt8) 0 (api_Version.mk 0 0 0)) ++ vl7_1.drop (vx10_1.toNat + ((vl7_1.length : Int).toNat - vx10_1.toNat)))).take vx10_1.toNat))))
      (some (.inl (IntKind.wrap .i64 (vx + 1)))))
    (some (.inr (.inl ())))

noncomputable def z472 (qx : List api_Mark) : Option ((List api_Mark)) :=
  cond (decide ((qx.length : Int) < 2))
    (some qx)
    ((loopO (z475 qx) 1).bind fun x => match x with
      | .inl _ =>
        some qx
      | .inr vx11_1 =>
        some vx11_1)

/-! ### (*beaconfleet/fleetmake.Stream).Marks -/
noncomputable def z290 (qx2 : List api_Device) (vs6 : z253) : Option ((z253 × Bool)) :=
  cond (decide (0 < (qx2.length : Int)))
    ((z272 (z253.mk vs6.L (IntKind.wrap .i64 (vs6.at_ + 1))) 12).bind fun vr14 =>
    some (z253.mk vs6.L (IntKind.wrap .i64 ((IntKind.wrap .i64 (vs6.at_ + 1)) + 1)), !vr14))
    (some (z253.mk vs6.L (IntKind.wrap .i64 (vs6.at_ + 1)), false))

noncomputable def z286 (qx2 : List api_Device) (vx1 : Int) (vr10 : Int) (vr11 : List UInt8) (vs6 : z253) (vr12 : Int) (vr13 : Int) : Option ((z253 × api_Mark)) :=
  (z290 qx2 vs6).bind fun (vs7_1, vx12_1) =>
  cond (vx12_1)
    ((z311 vs7_1 (qx2.length : Int)).bind fun vr3_4 =>
    (at? qx2 vr3_4).bind fun vy3 =>
    some (z253.mk vs7_1.L (IntKind.wrap .i64 (vs7_1.at_ + 1)), api_Mark.mk (IntKind.wrap .i64 (vx1 + vr10)) vy3.Key vr12 (api_Version.mk vr13 0 0)))
    (some (vs7_1, api_Mark.mk (IntKind.wrap .i64 (vx1 + vr10)) vr11 vr12 (api_Version.mk vr13 0 0)))

noncomputable def z303 (vx : List api_Mark) (vx13_1 : api_Mark) (vx14 : api_Mark) (vx15 : Int) : Option (api_Mark) :=
  (at? vx vx15).bind fun vy5 =>
  cond (decide (vy5.Device = vx13_1.Device))
    (some (api_Mark.mk vy5.At vy5.Device vy5.Kind (api_Version.mk vy5.Version.Major vy5.Version.Minor vy5.Version.Patch)))
    (some (api_Mark.mk vx14.At vx14.Device vx14.Kind (api_Version.mk vx14.Version.Major vx14.Version.Minor vx14.Version.Patch)))

noncomputable def z298 (vx : List api_Mark) (vx13_1 : api_Mark) : api_Mark × Int → Option ((api_Mark × Int) ⊕ (api_Mark))
  | (vx14, vx15) =>
  cond (decide (vx15 < (vx.length : Int)))
    ((z303 vx vx13_1 vx14 vx15).bind fun vx17_1 =>
    some (.inl (api_Mark.mk vx17_1.At vx17_1.Device vx17_1.Kind (api_Version.mk vx17_1.Version.Major vx17_1.Version.Minor vx17_1.Version.Patch), IntKind.wrap .i64 (vx15 + 1))))
    (some (.inr (api_Mark.mk vx14.At vx14.Device vx14.Kind (api_Version.mk vx14.Version.Major vx14.Version.Minor vx14.Version.Patch))))

noncomputable def z294 (vx : List api_Mark) (vs8_1 : z253) (vx13_1 : api_Mark) : Option ((z253 × api_Mark)) :=
  (z272 vs8_1 5).bind fun vr15 =>
  cond (!vr15)
    ((loopO (z298 vx vx13_1) (api_Mark.mk 0 ([] : List UInt8) 0 (api_Version.mk 0 0 0), 0)).bind fun vx18_1 =>
    cond (decide (vx18_1.Kind = 1))
      ((z317 (z253.mk vs8_1.L (IntKind.wrap .i64 (vs8_1.at_ + 1))) ([2, 2, 2, 5] : List Int)).bind fun vr16 =>
      some (z253.mk vs8_1.L (IntKind.wrap .i64 ((IntKind.wrap .i64 (vs8_1.at_ + 1)) + 1)), api_Mark.mk vx13_1.At vx13_1.Device vr16 (api_Version.mk vx18_1.Version.Major vx18_1.Version.Minor vx18_1.Version.Patch)))
      (cond (decide (vx18_1.Kind = 2))
        ((z317 (z253.mk vs8_1.L (IntKind.wrap .i64 (vs8_1.at_ + 1))) ([3, 3, 4] : List Int)).bind fun vr17 =>
        some (z253.mk vs8_1.L (IntKind.wrap .i64 ((IntKind.wrap .i64 (vs8_1.at_ + 1)) + 1)), api_Mark.mk vx13_1.At vx13_1.Device vr17 (api_Version.mk vx18_1.Version.Major vx18_1.Version.Minor vx18_1.Version.Patch)))
        (some (z253.mk vs8_1.L (IntKind.wrap .i64 (vs8_1.at_ + 1)), api_Mark.mk vx13_1.At vx13_1.Device 1 (api_Version.mk vx13_1.Version.Major vx13_1.Version.Minor vx13_1.Version.Patch)))))
    (some (z253.mk vs8_1.L (IntKind.wrap .i64 (vs8_1.at_ + 1)), api_Mark.mk vx13_1.At vx13_1.Device vx13_1.Kind (api_Version.mk vx13_1.Version.Major vx13_1.Version.Minor vx13_1.Version.Patch)))

noncomputable def z307 (vs9_1 : z253) (vx19_1 : api_Mark) : Option ((z253 × api_Mark)) :=
  (z272 vs9_1 80).bind fun vr18 =>
  cond (vr18)
    ((z314 (z253.mk vs9_1.L (IntKind.wrap .i64 (vs9_1.at_ + 1))) 0 50).bind fun (vs1_3, vr3_5) =>
    (z350 vs1_3 ([([100, 49] : List UInt8), ([] : List UInt8)] : List (List UInt8))).bind fun vr19 =>
    (z314 (z253.mk vs1_3.L (IntKind.wrap .i64 (vs1_3.at_ + 1))) 1 5).bind fun (vs1_4, vr3_6) =>
    some (vs1_4, api_Mark.mk vr3_5 vr19 vr3_6 (api_Version.mk vx19_1.Version.Major vx19_1.Version.Minor vx19_1.Version.Patch)))
    (some (z253.mk vs9_1.L (IntKind.wrap .i64 (vs9_1.at_ + 1)), api_Mark.mk vx19_1.At vx19_1.Device vx19_1.Kind (api_Version.mk vx19_1.Version.Major vx19_1.Version.Minor vx19_1.Version.Patch)))

noncomputable def z281 (qx2 : List api_Device) (qx3 : Int) : z253 × (List api_Mark) × Int × Int → Option ((z253 × (List api_Mark) × Int × Int) ⊕ ((z253 × (List api_Mark))))
  | (vs, vx, vx1, vx2) =>
  cond (decide (vx2 < qx3))
    ((z317 vs ([0, 1, 5, 10, 10] : List Int)).bind fun vr10 =>
    (z350 (z253.mk vs.L (IntKind.wrap .i64 (vs.at_ + 1))) ([([100, 49] : List UInt8), ([100, 50] : List UInt8), ([100, 51] : List UInt8), ([100, 52] : List UInt8), ([100, 53] : List UInt8)] : List (List UInt8))).bind fun vr11 =>
    (z320 (z253.mk vs.L (IntKind.wrap .i64 ((IntKind.wrap .i64 (vs.at_ + 1)) + 1))) 1 5).bind fun (vs6, vr12) =>
    (z317 vs6 ([2, 2, 3, 4] : List Int)).bind fun vr13 =>
    (z360 vr13).bind fun _ =>
    (z286 qx2 vx1 vr10 vr11 vs6 vr12 vr13).bind fun (vs8_1, vx13_1) =>
    (z294 vx vs8_1 vx13_1).bind fun (vs9_1, vx19_1) =>
    (z307 vs9_1 vx19_1).bind fun (vs10_1, vx20_1) =>
    gd (Nat.ble (vx.length + ([api_Mark.mk vx20_1.At vx20_1.Device vx20_1.Kind (api_Version.mk vx20_1.Version.Major vx20_1.Version.Minor vx20_1.Version.Patch)] : List api_Mark).length) LIM) <|
    some (.inl (vs10_1, vx ++ ([api_Mark.mk vx20_1.At vx20_1.Device vx20_1.Kind (api_Version.mk vx20_1.Version.Major vx20_1.Version.Minor vx20_1.Version.Patch)] : List api_Mark), IntKind.wrap .i64 (vx1 + vr10), IntKind.wrap .i64 (vx2 + 1))))
    (some (.inr (vs, vx)))

noncomputable def z275 (qx : z253) (qx1 : api_Campaign) (qx2 : List api_Device) (qx3 : Int) : Option (z253 × (List api_Mark)) :=
  (loopO (z281 qx2 qx3) (qx, [], qx1.At, 0)).bind fun (vs11_1, vx21_1) =>
  (z537 vx21_1).bind fun vl =>
  gd (vl.length == vx21_1.length) <|
  (z272 vs11_1 60).bind fun vr20 =>
  cond (vr20)
    (some (z253.mk vs11_1.L (IntKind.wrap .i64 (vs11_1.at_ + 1)), vl))
    ((z472 vl).bind fun vr6_1 =>
    some (z253.mk vs11_1.L (IntKind.wrap .i64 (vs11_1.at_ + 1)), vr6_1))

/-! ### slices.Clone[[]beaconfleet/api.Mark,beaconfleet/api.Mark] -/
noncomputable def z469 (qs : List api_Mark) : Option (List api_Mark) :=
  gd (Nat.ble (([] : List api_Mark).length + qs.length) LIM) (some qs)

/-! ### beaconfleet/base.Key -/
noncomputable def z30 (qs : List UInt8) : Option (Bool) :=
  cond (decide (qs = ([] : List UInt8)))
    (some true)
    (cond (decide (40 < (qs.length : Int)))
      (some true)
      ((at? qs 0).bind fun vc =>
      cond (decide ((vc.toNat : Int) < 97))
        (some true)
        (some (decide (122 < (vc.toNat : Int))))))

noncomputable def z39 (vc2 : UInt8) : Option (Bool) :=
  cond (decide (97 ≤ (vc2.toNat : Int)))
    (cond (decide ((vc2.toNat : Int) ≤ 122))
      (some false)
      (cond (decide (48 ≤ (vc2.toNat : Int)))
        (cond (decide ((vc2.toNat : Int) ≤ 57))
          (some false)
          (cond (decide ((vc2.toNat : Int) = 45))
            (some false)
            (some (!(decide ((vc2.toNat : Int) = 95))))))
        (cond (decide ((vc2.toNat : Int) = 45))
          (some false)
          (some (!(decide ((vc2.toNat : Int) = 95)))))))
    (cond (decide (48 ≤ (vc2.toNat : Int)))
      (cond (decide ((vc2.toNat : Int) ≤ 57))
        (some false)
        (cond (decide ((vc2.toNat : Int) = 45))
          (some false)
          (some (!(decide ((vc2.toNat : Int) = 95))))))
      (cond (decide ((vc2.toNat : Int) = 45))
        (some false)
        (some (!(decide ((vc2.toNat : Int) = 95))))))

noncomputable def z34 (qs : List UInt8) (vx2 : Int) : Option ((Int) ⊕ (Unit ⊕ Unit)) :=
  cond (decide (vx2 < (qs.length : Int)))
    ((at? qs vx2).bind fun vc2 =>
    (z39 vc2).bind fun vx4_1 =>
    cond (vx4_1)
      (some (.inr (.inr ())))
      (some (.inl (IntKind.wrap .i64 (vx2 + 1)))))
    (some (.inr (.inl ())))

noncomputable def base_Key (qs : List UInt8) : Option (Bool) :=
  (z30 qs).bind fun vx1 =>
  cond (vx1)
    (some false)
    ((loopO (z34 qs) 0).bind fun x => match x with
      | .inl _ =>
        some true
      | .inr _ =>
        some false)

/-! ### beaconfleet/base.Out -/
noncomputable def z72 (qn : Int) (qlow : Int) (qhigh : Int) : Option (Bool) :=
  cond (decide (qn < qlow))
    (some true)
    (some (decide (qhigh < qn)))

noncomputable def base_Out (qn : Int) (qlow : Int) (qhigh : Int) : Option (Bool) :=
  (z72 qn qlow qhigh).bind fun vx1 =>
  some vx1

/-! ### beaconfleet/base.Version -/
noncomputable def z79 (qv : api_Version) : Option (Bool) :=
  (base_Out qv.Major 0 9999).bind fun vr =>
  cond (!vr)
    ((base_Out qv.Minor 0 9999).bind fun vr1 =>
    cond (!vr1)
      ((base_Out qv.Patch 0 9999).bind fun vr2 =>
      some (!vr2))
      (some false))
    (some false)

noncomputable def z76 (qv : api_Version) : Option (Bool) :=
  (z79 qv).bind fun vx1 =>
  some vx1

/-! ### beaconfleet/base.Moment -/
noncomputable def z43 (qn : Int) : Option (Bool) :=
  (base_Out qn 0 345686399999).bind fun vr =>
  some (!vr)

/-! ### beaconfleet/campaign.CheckCampaign -/
noncomputable def z106 (qx : api_Campaign) : Option (Bool) :=
  (z76 (api_Version.mk qx.Target.Major qx.Target.Minor qx.Target.Patch)).bind fun vr3 =>
  cond (!vr3)
    (some true)
    ((z43 qx.At).bind fun vr1 =>
    some (!vr1))

noncomputable def z115 (vy1 : api_Wave) : Option (Bool) :=
  (base_Out vy1.Part 1 1000).bind fun vr7 =>
  cond (vr7)
    (some true)
    ((base_Out vy1.Wait 0 2592000000).bind fun vr8 =>
    cond (vr8)
      (some true)
      ((base_Out vy1.Least 1 500).bind fun vr9 =>
      cond (vr9)
        (some true)
        ((base_Out vy1.Fails 0 1000).bind fun vr10 =>
        some vr10)))

noncomputable def z110 (qx : api_Campaign) : Int × Int → Option ((Int × Int) ⊕ (Int ⊕ Unit))
  | (vx2, vx3) =>
  cond (decide (vx3 < (qx.Waves.length : Int)))
    ((at? qx.Waves vx3).bind fun vy1 =>
    (z115 vy1).bind fun vx5_1 =>
    cond (vx5_1)
      (some (.inr (.inr ())))
      (some (.inl (IntKind.wrap .i64 (vx2 + vy1.Part), IntKind.wrap .i64 (vx3 + 1)))))
    (some (.inr (.inl vx2)))

noncomputable def z119 (qx : api_Campaign) : Option (Bool) :=
  (base_Out qx.Hours.From 0 86400000).bind fun vr11 =>
  cond (vr11)
    (some true)
    ((base_Out qx.Hours.To 0 86400000).bind fun vr12 =>
    cond (vr12)
      (some true)
      ((base_Out qx.Room 1 500).bind fun vr13 =>
      some vr13))

noncomputable def z103 (qx : api_Campaign) : Option (Int) :=
  (base_Key qx.Key).bind fun vr =>
  cond (!vr)
    (some 5)
    ((z106 qx).bind fun vx1 =>
    cond (vx1)
      (some 1)
      (cond (decide ((qx.Waves.length : Int) = 0))
        (some 3)
        (cond (decide (20 < (qx.Waves.length : Int)))
          (some 2)
          ((loopO (z110 qx) (0, 0)).bind fun x => match x with
            | .inl vx6_1 =>
              cond (!decide (vx6_1 = 1000))
                (some 15)
                ((z119 qx).bind fun vx7_1 =>
                cond (vx7_1)
                  (some 1)
                  (some 0))
            | .inr _ =>
              some 1))))

/-! ### beaconfleet/base.Hash -/
noncomputable def z19 (vh : Int) (vx : Int) : Option (Int) :=
  cond (decide (0 < vx))
    (some (IntKind.wrap .u64 (vh * 1099511628211)))
    (some vh)

noncomputable def z23 (vy1 : List UInt8) : Int × Int → Option ((Int × Int) ⊕ (Int))
  | (vh5, vx2) =>
  cond (decide (vx2 < (vy1.length : Int)))
    ((at? vy1 vx2).bind fun vc3 =>
    some (.inl (IntKind.wrap .u64 ((ibits .xor .u64 vh5 (IntKind.wrap .u64 ((vc3.toNat : Int)))) * 1099511628211), IntKind.wrap .i64 (vx2 + 1))))
    (some (.inr vh5))

noncomputable def z14 (qparts : List (List UInt8)) : Int × Int → Option ((Int × Int) ⊕ (Int))
  | (vh, vx) =>
  cond (decide (vx < (qparts.length : Int)))
    ((at? qparts vx).bind fun vy1 =>
    (z19 vh vx).bind fun vh4_1 =>
    (loopO (z23 vy1) (vh4_1, 0)).bind fun vh6_1 =>
    some (.inl (vh6_1, IntKind.wrap .i64 (vx + 1))))
    (some (.inr vh))

noncomputable def base_Hash (qparts : List (List UInt8)) : Option (Int) :=
  (loopO (z14 qparts) (14695981039346656037, 0)).bind fun vh7_1 =>
  some vh7_1

/-! ### beaconfleet/campaign.lot -/
noncomputable def z178 (qc : api_Campaign) (qdevice : List UInt8) : Option (Int) :=
  (base_Hash ([qc.Key, qdevice] : List (List UInt8))).bind fun vr =>
  some (IntKind.wrap .i64 ((ibits .xor .u64 vr (ishr .u64 vr 32)).tmod 1000))

/-! ### beaconfleet/campaign.waveOf -/
noncomputable def z184 (qc : api_Campaign) (vr1 : Int) : Int × Int → Option ((Int × Int) ⊕ (Unit ⊕ Int))
  | (vsum, vx) =>
  cond (decide (vx < (qc.Waves.length : Int)))
    ((at? qc.Waves vx).bind fun vy1 =>
    cond (decide (vr1 < (IntKind.wrap .i64 (vsum + vy1.Part))))
      (some (.inr (.inr vx)))
      (some (.inl (IntKind.wrap .i64 (vsum + vy1.Part), IntKind.wrap .i64 (vx + 1)))))
    (some (.inr (.inl ())))

noncomputable def z181 (qc : api_Campaign) (qdevice : List UInt8) : Option (Int) :=
  (z178 (api_Campaign.mk qc.Key (api_Version.mk qc.Target.Major qc.Target.Minor qc.Target.Patch) qc.At qc.Waves (api_Window.mk qc.Hours.From qc.Hours.To) qc.Room) qdevice).bind fun vr1 =>
  (loopO (z184 qc vr1) (0, 0)).bind fun x => match x with
    | .inl _ =>
      some (IntKind.wrap .i64 ((qc.Waves.length : Int) - 1))
    | .inr vx1_1 =>
      some vx1_1

/-! ### beaconfleet/campaign.Wave -/
noncomputable def z172 (qc : api_Campaign) (qdevice : List UInt8) : Option (Int × Int) :=
  (z103 (api_Campaign.mk qc.Key (api_Version.mk qc.Target.Major qc.Target.Minor qc.Target.Patch) qc.At qc.Waves (api_Window.mk qc.Hours.From qc.Hours.To) qc.Room)).bind fun vr14 =>
  cond (!decide (vr14 = 0))
    (some (0, vr14))
    ((base_Key qdevice).bind fun vr =>
    cond (!vr)
      (some (0, 5))
      ((z181 (api_Campaign.mk qc.Key (api_Version.mk qc.Target.Major qc.Target.Minor qc.Target.Patch) qc.At qc.Waves (api_Window.mk qc.Hours.From qc.Hours.To) qc.Room) qdevice).bind fun vr1 =>
      some (vr1, 0)))

/-! ### cmp.isNaN[int] -/
noncomputable def z200 (qx : Int) : Option (Unit) :=
  some ()

/-! ### cmp.Compare[int] -/
noncomputable def z189 (qx : Int) (qy : Int) : Option (Int) :=
  (z200 qx).bind fun _ =>
  (z200 qy).bind fun _ =>
  cond (!decide (qx = qx))
    (cond (!decide (qy = qy))
      (some 0)
      (some (-1)))
    (cond (!decide (qy = qy))
      (some 1)
      (cond (decide (qx < qy))
        (some (-1))
        (cond (decide (qy < qx))
          (some 1)
          (some 0))))

/-! ### cmp.Or[int] -/
noncomputable def z195 (qvals : List Int) (vx : Int) : Option ((Int) ⊕ (Unit ⊕ Int)) :=
  cond (decide (vx < (qvals.length : Int)))
    ((at? qvals vx).bind fun vy1 =>
    cond (!decide (vy1 = 0))
      (some (.inr (.inr vy1)))
      (some (.inl (IntKind.wrap .i64 (vx + 1)))))
    (some (.inr (.inl ())))

noncomputable def z192 (qvals : List Int) : Option (Int) :=
  (loopO (z195 qvals) 0).bind fun x => match x with
    | .inl _ =>
      some 0
    | .inr vx1_1 =>
      some vx1_1

/-! ### beaconfleet/campaign.byMoment -/
noncomputable def z175 (qa : api_Mark) (qb : api_Mark) : Option (Int) :=
  (z189 qa.At qb.At).bind fun vr =>
  (z930 qa.Device qb.Device).bind fun _ =>
  (z192 ([vr, Lib.compareBytes qa.Device qb.Device] : List Int)).bind fun vr1 =>
  some vr1

/-! ### beaconfleet/campaign.CheckMarks -/
noncomputable def z147 (ql : List api_Mark) (vx : Int) (vy2 : api_Mark) : Option (Bool) :=
  cond (decide (0 < vx))
    ((at? ql (IntKind.wrap .i64 (vx - 1))).bind fun vy3 =>
    (z175 (api_Mark.mk vy2.At vy2.Device vy2.Kind (api_Version.mk vy2.Version.Major vy2.Version.Minor vy2.Version.Patch)) (api_Mark.mk vy3.At vy3.Device vy3.Kind (api_Version.mk vy3.Version.Major vy3.Version.Minor vy3.Version.Patch))).bind fun vr2_2 =>
    some (decide (vr2_2 ≤ 0)))
    (some false)

noncomputable def z142 (ql : List api_Mark) (vx : Int) : Option ((Int) ⊕ (Unit ⊕ Int)) :=
  cond (decide (vx < (ql.length : Int)))
    ((at? ql vx).bind fun vy2 =>
    (z43 vy2.At).bind fun vr1_1 =>
    cond (!vr1_1)
      (some (.inr (.inr 1)))
      ((base_Key vy2.Device).bind fun vr4 =>
      cond (!vr4)
        (some (.inr (.inr 5)))
        ((base_Out vy2.Kind 1 5).bind fun vr5 =>
        cond (vr5)
          (some (.inr (.inr 4)))
          ((z76 (api_Version.mk vy2.Version.Major vy2.Version.Minor vy2.Version.Patch)).bind fun vr3_1 =>
          cond (!vr3_1)
            (some (.inr (.inr 1)))
            ((z147 ql vx vy2).bind fun vx2_1 =>
            cond (vx2_1)
              (some (.inr (.inr 7)))
              (some (.inl (IntKind.wrap .i64 (vx + 1)))))))))
    (some (.inr (.inl ())))

noncomputable def z139 (ql : List api_Mark) : Option (Int) :=
  cond (decide (3000 < (ql.length : Int)))
    (some 2)
    ((loopO (z142 ql) 0).bind fun x => match x with
      | .inl _ =>
        some 0
      | .inr vx3_1 =>
        some vx3_1)

/-! ### beaconfleet/base.First -/
noncomputable def z7 (ql : List Int) (vx : Int) : Option ((Int) ⊕ (Unit ⊕ Int)) :=
  cond (decide (vx < (ql.length : Int)))
    ((at? ql vx).bind fun vy1 =>
    cond (!decide (vy1 = 0))
      (some (.inr (.inr vy1)))
      (some (.inl (IntKind.wrap .i64 (vx + 1)))))
    (some (.inr (.inl ())))

noncomputable def z4 (ql : List Int) : Option (Int) :=
  (loopO (z7 ql) 0).bind fun x => match x with
    | .inl _ =>
      some 0
    | .inr vx1_1 =>
      some vx1_1

/-! ### slices.Grow[[]beaconfleet/api.Mark,beaconfleet/api.Mark] -/
noncomputable def z530 (qn : Int) : Option ((List api_Mark)) :=
  cond (decide (0 < (IntKind.wrap .i64 (qn - (IntKind.wrap .i64 ((0 : Int) - 0))))))
    (gd (decide (0 ≤ (IntKind.wrap .i64 (qn - (IntKind.wrap .i64 ((0 : Int) - 0))))) && decide ((IntKind.wrap .i64 (qn - (IntKind.wrap .i64 ((0 : Int) - 0)))) ≤ 137438953472)) <|
    gd (decide (0 ≤ (0 : Int)) && decide ((0 : Int) ≤ ((List.replicate (IntKind.wrap .i64 (qn - (IntKind.wrap .i64 ((0 : Int) - 0)))).toNat (api_Mark.mk 0 ([] : List UInt8) 0 (api_Version.mk 0 0 0))).length : Int))) <|
    some ((List.replicate (IntKind.wrap .i64 (qn - (IntKind.wrap .i64 ((0 : Int) - 0)))).toNat (api_Mark.mk 0 ([] : List UInt8) 0 (api_Version.mk 0 0 0))).take (0 : Int).toNat))
    (some [])

noncomputable def z527 (qn : Int) : Option ((List api_Mark)) :=
  cond (decide (qn < 0))
    (none)
    ((z530 qn).bind fun vs1 =>
    some vs1)

/-! ### slices.Concat[[]beaconfleet/api.Mark,beaconfleet/api.Mark] -/
noncomputable def z509 (qslices : List (List api_Mark)) : Int × Int → Option ((Int × Int) ⊕ (Int))
  | (vsize, vx) =>
  cond (decide (vx < (qslices.length : Int)))
    ((at? qslices vx).bind fun vy1 =>
    cond (decide ((IntKind.wrap .i64 (vsize + (vy1.length : Int))) < 0))
      (none)
      (some (.inl (IntKind.wrap .i64 (vsize + (vy1.length : Int)), IntKind.wrap .i64 (vx + 1)))))
    (some (.inr vsize))

noncomputable def z514 (qslices : List (List api_Mark)) : (List api_Mark) × Int → Option (((List api_Mark) × Int) ⊕ ((List api_Mark)))
  | (vnewslice, vx1) =>
  cond (decide (vx1 < (qslices.length : Int)))
    ((at? qslices vx1).bind fun vy3 =>
    gd (Nat.ble (vnewslice.length + vy3.length) LIM) <|
    some (.inl (vnewslice ++ vy3, IntKind.wrap .i64 (vx1 + 1))))
    (some (.inr vnewslice))

noncomputable def z506 (qslices : List (List api_Mark)) : Option ((List api_Mark)) :=
  (loopO (z509 qslices) (0, 0)).bind fun vsize1_1 =>
  (z527 vsize1_1).bind fun vr =>
  (loopO (z514 qslices) (vr, 0)).bind fun vnewslice1_1 =>
  some vnewslice1_1

/-! ### math/bits.Len64 -/
noncomputable def z86 (qx : Int) : Option ((Int × Int)) :=
  cond (decide (4294967296 ≤ qx))
    (some (ishr .u64 qx 32, 32))
    (some (qx, 0))

noncomputable def z90 (vx1 : Int) (vn1 : Int) : Option ((Int × Int)) :=
  cond (decide (65536 ≤ vx1))
    (some (ishr .u64 vx1 16, IntKind.wrap .i64 (vn1 + 16)))
    (some (vx1, vn1))

noncomputable def z94 (vx2_1 : Int) (vn2_1 : Int) : Option ((Int × Int)) :=
  cond (decide (256 ≤ vx2_1))
    (some (ishr .u64 vx2_1 8, IntKind.wrap .i64 (vn2_1 + 8)))
    (some (vx2_1, vn2_1))

noncomputable def z83 (qx : Int) : Option (Int) :=
  (z86 qx).bind fun (vx1, vn1) =>
  (z90 vx1 vn1).bind fun (vx2_1, vn2_1) =>
  (z94 vx2_1 vn2_1).bind fun (vx3_1, vn3_1) =>
  (at? ([0, 1, 2, 2, 3, 3, 3, 3, 4, 4, 4, 4, 4, 4, 4, 4, 5, 5, 5, 5, 5, 5, 5, 5, 5, 5, 5, 5, 5, 5, 5, 5, 6, 6, 6, 6, 6, 6, 6, 6, 6, 6, 6, 6, 6, 6, 6, 6, 6, 6, 6, 6, 6, 6, 6, 6, 6, 6, 6, 6, 6, 6, 6, 6, 7, 7, 7, 7, 7, 7, 7, 7, 7, 7, 7, 7, 7, 7, 7, 7, 7, 7, 7, 7, 7, 7, 7, 7, 7, 7, 7, 7, 7, 7, 7, 7, 7, 7, 7, 7, 7, 7, 7, 7, 7, 7, 7, 7, 7, 7, 7, 7, 7, 7, 7, 7, 7, 7, 7, 7, 7, 7, 7, 7, 7, 7, 7, 7, 8, 8, 8, 8, 8, 8, 8, 8, 8, 8, 8, 8, 8, 8, 8, 8, 8, 8, 8, 8, 8, 8, 8, 8, 8, 8, 8, 8, 8, 8, 8, 8, 8, 8, 8, 8, 8, 8, 8, 8, 8, 8, 8, 8, 8, 8, 8, 8, 8, 8, 8, 8, 8, 8, 8, 8, 8, 8, 8, 8, 8, 8, 8, 8, 8, 8, 8, 8, 8, 8, 8, 8, 8, 8, 8, 8, 8, 8, 8, 8, 8, 8, 8, 8, 8, 8, 8, 8, 8, 8, 8, 8, 8, 8, 8, 8, 8, 8, 8, 8, 8, 8, 8, 8, 8, 8, 8, 8, 8, 8, 8, 8, 8, 8, 8, 8, 8, 8, 8, 8, 8, 8, 8, 8, 8, 8, 8, 8] : List UInt8) (IntKind.wrap .u8 (vx3_1))).bind fun vc =>
  some (IntKind.wrap .i64 (vn3_1 + (IntKind.wrap .i64 ((vc.toNat : Int)))))

/-! ### math/bits.Len -/
noncomputable def bits_Len (qx : Int) : Option (Int) :=
  (z83 qx).bind fun vr =>
  some vr

/-! ### beaconfleet/campaign.Compare -/
noncomputable def z151 (qa : api_Version) (qb : api_Version) : Option (Int) :=
  (z189 qa.Major qb.Major).bind fun vr =>
  (z189 qa.Minor qb.Minor).bind fun vr1 =>
  (z189 qa.Patch qb.Patch).bind fun vr2 =>
  (z192 ([vr, vr1, vr2] : List Int)).bind fun vr3 =>
  some vr3

/-! ### beaconfleet/campaign.Merge$1 -/
noncomputable def z155 (qa : api_Mark) (qb : api_Mark) : Option (Int) :=
  (z175 (api_Mark.mk qa.At qa.Device qa.Kind (api_Version.mk qa.Version.Major qa.Version.Minor qa.Version.Patch)) (api_Mark.mk qb.At qb.Device qb.Kind (api_Version.mk qb.Version.Major qb.Version.Minor qb.Version.Patch))).bind fun vr2 =>
  (z189 qa.Kind qb.Kind).bind fun vr =>
  (z151 (api_Version.mk qa.Version.Major qa.Version.Minor qa.Version.Patch) (api_Version.mk qb.Version.Major qb.Version.Minor qb.Version.Patch)).bind fun vr4 =>
  (z192 ([vr2, vr, vr4] : List Int)).bind fun vr1 =>
  some vr1

/-! ### slices.insertionSortCmpFunc[beaconfleet/api.Mark] -/
noncomputable def z576 (qa : Int) (vl3 : List api_Mark) (vj1 : Int) : Option (Bool) :=
  cond (decide (qa < vj1))
    ((at? vl3 vj1).bind fun vy15 =>
    (at? vl3 (IntKind.wrap .i64 (vj1 - 1))).bind fun vy16 =>
    (z155 (api_Mark.mk vy15.At vy15.Device vy15.Kind (api_Version.mk vy15.Version.Major vy15.Version.Minor vy15.Version.Patch)) (api_Mark.mk vy16.At vy16.Device vy16.Kind (api_Version.mk vy16.Version.Major vy16.Version.Minor vy16.Version.Patch))).bind fun vr3_3 =>
    some (decide (vr3_3 < 0)))
    (some false)

noncomputable def z571 (qa : Int) : (List api_Mark) × Int → Option (((List api_Mark) × Int) ⊕ ((List api_Mark)))
  | (vl3, vj1) =>
  (z576 qa vl3 vj1).bind fun vx4_1 =>
  cond (vx4_1)
    ((at? vl3 (IntKind.wrap .i64 (vj1 - 1))).bind fun vy17 =>
    (at? vl3 vj1).bind fun vy18 =>
    (at? (vl3.set vj1.toNat (api_Mark.mk vy17.At vy17.Device vy17.Kind (api_Version.mk vy17.Version.Major vy17.Version.Minor vy17.Version.Patch))) (IntKind.wrap .i64 (vj1 - 1))).bind fun vy19 =>
    some (.inl ((vl3.set vj1.toNat (api_Mark.mk vy17.At vy17.Device vy17.Kind (api_Version.mk vy17.Version.Major vy17.Version.Minor vy17.Version.Patch))).set (IntKind.wrap .i64 (vj1 - 1)).toNat (api_Mark.mk vy18.At vy18.Device vy18.Kind (api_Version.mk vy18.Version.Major vy18.Version.Minor vy18.Version.Patch)), IntKind.wrap .i64 (vj1 - 1))))
    (some (.inr vl3))

noncomputable def z566 (qa : Int) (qb : Int) : (List api_Mark) × Int → Option (((List api_Mark) × Int) ⊕ ((List api_Mark)))
  | (vl, vi) =>
  cond (decide (vi < qb))
    ((loopO (z571 qa) (vl, vi)).bind fun vl4_1 =>
    some (.inl (vl4_1, IntKind.wrap .i64 (vi + 1))))
    (some (.inr vl))

noncomputable def z563 (qdata : List api_Mark) (qa : Int) (qb : Int) : Option ((List api_Mark)) :=
  (loopO (z566 qa qb) (qdata, IntKind.wrap .i64 (qa + 1))).bind fun vl5_1 =>
  some vl5_1

/-! ### slices.order2CmpFunc[beaconfleet/api.Mark] -/
noncomputable def z606 (qdata : List api_Mark) (qa : Int) (qb : Int) (qswaps : Int) : Option (Int × Int × Int) :=
  (at? qdata qb).bind fun vy =>
  (at? qdata qa).bind fun vy1 =>
  (z155 (api_Mark.mk vy.At vy.Device vy.Kind (api_Version.mk vy.Version.Major vy.Version.Minor vy.Version.Patch)) (api_Mark.mk vy1.At vy1.Device vy1.Kind (api_Version.mk vy1.Version.Major vy1.Version.Minor vy1.Version.Patch))).bind fun vr3 =>
  cond (decide (vr3 < 0))
    (some (IntKind.wrap .i64 (qswaps + 1), qb, qa))
    (some (qswaps, qa, qb))

/-! ### slices.medianCmpFunc[beaconfleet/api.Mark] -/
noncomputable def z600 (qdata : List api_Mark) (qa : Int) (qb : Int) (qc : Int) (qswaps : Int) : Option (Int × Int) :=
  (z606 qdata qa qb qswaps).bind fun (vs, vr, vr1) =>
  (z606 qdata vr1 qc vs).bind fun (vs1, vr2, vr1_1) =>
  (z606 qdata vr vr2 vs1).bind fun (vs2, vr3, vr1_2) =>
  some (vs2, vr1_2)

/-! ### slices.medianAdjacentCmpFunc[beaconfleet/api.Mark] -/
noncomputable def z597 (qdata : List api_Mark) (qa : Int) (qswaps : Int) : Option (Int × Int) :=
  (z600 qdata (IntKind.wrap .i64 (qa - 1)) qa (IntKind.wrap .i64 (qa + 1)) qswaps).bind fun (vs3, vr4) =>
  some (vs3, vr4)

/-! ### slices.choosePivotCmpFunc[beaconfleet/api.Mark] -/
noncomputable def z559 (qdata : List api_Mark) (qa : Int) (qb : Int) : Option ((Int × Int × Int × Int)) :=
  cond (decide (50 ≤ (IntKind.wrap .i64 (qb - qa))))
    ((z597 qdata (IntKind.wrap .i64 (qa + (IntKind.wrap .i64 ((IntKind.wrap .i64 ((IntKind.wrap .i64 (qb - qa)).tdiv 4)) * 1)))) 0).bind fun (vs, vr) =>
    (z597 qdata (IntKind.wrap .i64 (qa + (IntKind.wrap .i64 ((IntKind.wrap .i64 ((IntKind.wrap .i64 (qb - qa)).tdiv 4)) * 2)))) vs).bind fun (vs1, vr1) =>
    (z597 qdata (IntKind.wrap .i64 (qa + (IntKind.wrap .i64 ((IntKind.wrap .i64 ((IntKind.wrap .i64 (qb - qa)).tdiv 4)) * 3)))) vs1).bind fun (vs2, vr2) =>
    some (vs2, vr, vr1, vr2))
    (some (0, IntKind.wrap .i64 (qa + (IntKind.wrap .i64 ((IntKind.wrap .i64 ((IntKind.wrap .i64 (qb - qa)).tdiv 4)) * 1))), IntKind.wrap .i64 (qa + (IntKind.wrap .i64 ((IntKind.wrap .i64 ((IntKind.wrap .i64 (qb - qa)).tdiv 4)) * 2))), IntKind.wrap .i64 (qa + (IntKind.wrap .i64 ((IntKind.wrap .i64 ((IntKind.wrap .i64 (qb - qa)).tdiv 4)) * 3)))))

noncomputable def z555 (qdata : List api_Mark) (qa : Int) (qb : Int) : Option ((Int × Int)) :=
  cond (decide (8 ≤ (IntKind.wrap .i64 (qb - qa))))
    ((z559 qdata qa qb).bind fun (vswaps1, vi1, vj1, vk1) =>
    (z600 qdata vi1 vj1 vk1 vswaps1).bind fun (vs3, vr4) =>
    some (vs3, vr4))
    (some (0, IntKind.wrap .i64 (qa + (IntKind.wrap .i64 ((IntKind.wrap .i64 ((IntKind.wrap .i64 (qb - qa)).tdiv 4)) * 2)))))

noncomputable def z552 (qdata : List api_Mark) (qa : Int) (qb : Int) : Option (Int × Int) :=
  (z555 qdata qa qb).bind fun (vswaps2_1, vj2_1) =>
  cond (decide (vswaps2_1 = 0))
    (some (vj2_1, 1))
    (cond (decide (vswaps2_1 = 12))
      (some (vj2_1, 2))
      (some (vj2_1, 0)))

/-! ### slices.reverseRangeCmpFunc[beaconfleet/api.Mark] -/
noncomputable def z749 : (List api_Mark) × Int × Int → Option (((List api_Mark) × Int × Int) ⊕ ((List api_Mark)))
  | (vl, vi, vj) =>
  cond (decide (vi < vj))
    ((at? vl vj).bind fun vy3 =>
    (at? vl vi).bind fun vy4 =>
    (at? (vl.set vi.toNat (api_Mark.mk vy3.At vy3.Device vy3.Kind (api_Version.mk vy3.Version.Major vy3.Version.Minor vy3.Version.Patch))) vj).bind fun vy5 =>
    some (.inl ((vl.set vi.toNat (api_Mark.mk vy3.At vy3.Device vy3.Kind (api_Version.mk vy3.Version.Major vy3.Version.Minor vy3.Version.Patch))).set vj.toNat (api_Mark.mk vy4.At vy4.Device vy4.Kind (api_Version.mk vy4.Version.Major vy4.Version.Minor vy4.Version.Patch)), IntKind.wrap .i64 (vi + 1), IntKind.wrap .i64 (vj - 1))))
    (some (.inr vl))

noncomputable def z746 (qdata : List api_Mark) (qa : Int) (qb : Int) : Option ((List api_Mark)) :=
  (loopO z749 (qdata, qa, IntKind.wrap .i64 (qb - 1))).bind fun vl1_1 =>
  some vl1_1

/-! ### slices.partialInsertionSortCmpFunc[beaconfleet/api.Mark] -/
noncomputable def z627 (qx2 : Int) (vl : List api_Mark) (vx10 : Int) : Option (Bool) :=
  cond (decide (vx10 < qx2))
    ((at? vl vx10).bind fun vy21 =>
    (at? vl (IntKind.wrap .i64 (vx10 - 1))).bind fun vy22 =>
    (z155 (api_Mark.mk vy21.At vy21.Device vy21.Kind (api_Version.mk vy21.Version.Major vy21.Version.Minor vy21.Version.Patch)) (api_Mark.mk vy22.At vy22.Device vy22.Kind (api_Version.mk vy22.Version.Major vy22.Version.Minor vy22.Version.Patch))).bind fun vr3_7 =>
    some (!(decide (vr3_7 < 0))))
    (some false)

noncomputable def z622 (qx2 : Int) (vl : List api_Mark) (vx10 : Int) : Option ((Int) ⊕ (Int)) :=
  (z627 qx2 vl vx10).bind fun vx12_1 =>
  cond (vx12_1)
    (some (.inl (IntKind.wrap .i64 (vx10 + 1))))
    (some (.inr vx10))

noncomputable def z635 : (List api_Mark) × Int → Option (((List api_Mark) × Int) ⊕ ((List api_Mark)))
  | (vl7, vx14) =>
  cond (decide (1 ≤ vx14))
    ((at? vl7 vx14).bind fun vy29 =>
    (at? vl7 (IntKind.wrap .i64 (vx14 - 1))).bind fun vy30 =>
    (z155 (api_Mark.mk vy29.At vy29.Device vy29.Kind (api_Version.mk vy29.Version.Major vy29.Version.Minor vy29.Version.Patch)) (api_Mark.mk vy30.At vy30.Device vy30.Kind (api_Version.mk vy30.Version.Major vy30.Version.Minor vy30.Version.Patch))).bind fun vr3_9 =>
    cond (!(decide (vr3_9 < 0)))
      (some (.inr vl7))
      ((at? (vl7.set vx14.toNat (api_Mark.mk vy30.At vy30.Device vy30.Kind (api_Version.mk vy30.Version.Major vy30.Version.Minor vy30.Version.Patch))) (IntKind.wrap .i64 (vx14 - 1))).bind fun vy31 =>
      some (.inl ((vl7.set vx14.toNat (api_Mark.mk vy30.At vy30.Device vy30.Kind (api_Version.mk vy30.Version.Major vy30.Version.Minor vy30.Version.Patch))).set (IntKind.wrap .i64 (vx14 - 1)).toNat (api_Mark.mk vy29.At vy29.Device vy29.Kind (api_Version.mk vy29.Version.Major vy29.Version.Minor vy29.Version.Patch)), IntKind.wrap .i64 (vx14 - 1)))))
    (some (.inr vl7))

noncomputable def z631 (qx1 : Int) (vl : List api_Mark) (vx13_1 : Int) (vy23 : api_Mark) (vy24 : api_Mark) : Option ((List api_Mark)) :=
  cond (decide (2 ≤ (IntKind.wrap .i64 (vx13_1 - qx1))))
    ((loopO z635 ((vl.set vx13_1.toNat (api_Mark.mk vy23.At vy23.Device vy23.Kind (api_Version.mk vy23.Version.Major vy23.Version.Minor vy23.Version.Patch))).set (IntKind.wrap .i64 (vx13_1 - 1)).toNat (api_Mark.mk vy24.At vy24.Device vy24.Kind (api_Version.mk vy24.Version.Major vy24.Version.Minor vy24.Version.Patch)), IntKind.wrap .i64 (vx13_1 - 1))).bind fun vl8_1 =>
    some vl8_1)
    (some ((vl.set vx13_1.toNat (api_Mark.mk vy23.At vy23.Device vy23.Kind (api_Version.mk vy23.Version.Major vy23.Version.Minor vy23.Version.Patch))).set (IntKind.wrap .i64 (vx13_1 - 1)).toNat (api_Mark.mk vy24.At vy24.Device vy24.Kind (api_Version.mk vy24.Version.Major vy24.Version.Minor vy24.Version.Patch))))

noncomputable def z640 (qx2 : Int) : (List api_Mark) × Int → Option (((List api_Mark) × Int) ⊕ ((List api_Mark)))
  | (vl10, vx15) =>
  cond (decide (vx15 < qx2))
    ((at? vl10 vx15).bind fun vy35 =>
    (at? vl10 (IntKind.wrap .i64 (vx15 - 1))).bind fun vy36 =>
    (z155 (api_Mark.mk vy35.At vy35.Device vy35.Kind (api_Version.mk vy35.Version.Major vy35.Version.Minor vy35.Version.Patch)) (api_Mark.mk vy36.At vy36.Device vy36.Kind (api_Version.mk vy36.Version.Major vy36.Version.Minor vy36.Version.Patch))).bind fun vr3_11 =>
    cond (!(decide (vr3_11 < 0)))
      (some (.inr vl10))
      ((at? (vl10.set vx15.toNat (api_Mark.mk vy36.At vy36.Device vy36.Kind (api_Version.mk vy36.Version.Major vy36.Version.Minor vy36.Version.Patch))) (IntKind.wrap .i64 (vx15 - 1))).bind fun vy37 =>
      some (.inl ((vl10.set vx15.toNat (api_Mark.mk vy36.At vy36.Device vy36.Kind (api_Version.mk vy36.Version.Major vy36.Version.Minor vy36.Version.Patch))).set (IntKind.wrap .i64 (vx15 - 1)).toNat (api_Mark.mk vy35.At vy35.Device vy35.Kind (api_Version.mk vy35.Version.Major vy35.Version.Minor vy35.Version.Patch)), IntKind.wrap .i64 (vx15 + 1)))))
    (some (.inr vl10))

noncomputable def z617 (qx1 : Int) (qx2 : Int) (vl : List api_Mark) (vx : Int) : Option (((List api_Mark) × Int) ⊕ Bool) :=
  (loopO (z622 qx2 vl) vx).bind fun vx13_1 =>
  cond (decide (vx13_1 = qx2))
    (some (.inr true))
    (cond (decide ((IntKind.wrap .i64 (qx2 - qx1)) < 50))
      (some (.inr false))
      ((at? vl (IntKind.wrap .i64 (vx13_1 - 1))).bind fun vy23 =>
      (at? vl vx13_1).bind fun vy24 =>
      (at? (vl.set vx13_1.toNat (api_Mark.mk vy23.At vy23.Device vy23.Kind (api_Version.mk vy23.Version.Major vy23.Version.Minor vy23.Version.Patch))) (IntKind.wrap .i64 (vx13_1 - 1))).bind fun vy25 =>
      (z631 qx1 vl vx13_1 vy23 vy24).bind fun vl9_1 =>
      cond (decide (2 ≤ (IntKind.wrap .i64 (qx2 - vx13_1))))
        ((loopO (z640 qx2) (vl9_1, IntKind.wrap .i64 (vx13_1 + 1))).bind fun vl11_1 =>
        some (.inl (vl11_1, vx13_1)))
        (some (.inl (vl9_1, vx13_1)))))

noncomputable def z612 (qx1 : Int) (qx2 : Int) : (List api_Mark) × Int × Int → Option (((List api_Mark) × Int × Int) ⊕ ((List api_Mark) ⊕ ((List api_Mark) × Bool)))
  | (vl, vx, vx1) =>
  cond (decide (vx1 < 5))
    ((z617 qx1 qx2 vl vx).bind fun x => match x with
      | .inl (vl12_1, vx16_1) =>
        some (.inl (vl12_1, vx16_1, IntKind.wrap .i64 (vx1 + 1)))
      | .inr vx17_1 =>
        some (.inr (.inr (vl, vx17_1))))
    (some (.inr (.inl vl)))

noncomputable def z609 (qx : List api_Mark) (qx1 : Int) (qx2 : Int) : Option ((List api_Mark) × Bool) :=
  (loopO (z612 qx1 qx2) (qx, IntKind.wrap .i64 (qx1 + 1), 0)).bind fun x => match x with
    | .inl vl13_1 =>
      some (vl13_1, false)
    | .inr (vl14_1, vx18_1) =>
      some (vl14_1, vx18_1)

/-! ### slices.partitionEqualCmpFunc[beaconfleet/api.Mark] -/
noncomputable def z702 (qx1 : Int) (vl : List api_Mark) (vx1 : Int) (vx10 : Int) : Option (Bool) :=
  cond (decide (vx10 ≤ vx1))
    ((at? vl qx1).bind fun vy16 =>
    (at? vl vx10).bind fun vy17 =>
    (z155 (api_Mark.mk vy16.At vy16.Device vy16.Kind (api_Version.mk vy16.Version.Major vy16.Version.Minor vy16.Version.Patch)) (api_Mark.mk vy17.At vy17.Device vy17.Kind (api_Version.mk vy17.Version.Major vy17.Version.Minor vy17.Version.Patch))).bind fun vr3_5 =>
    some (!(decide (vr3_5 < 0))))
    (some false)

noncomputable def z697 (qx1 : Int) (vl : List api_Mark) (vx1 : Int) (vx10 : Int) : Option ((Int) ⊕ (Int)) :=
  (z702 qx1 vl vx1 vx10).bind fun vx12_1 =>
  cond (vx12_1)
    (some (.inl (IntKind.wrap .i64 (vx10 + 1))))
    (some (.inr vx10))

noncomputable def z711 (qx1 : Int) (vl : List api_Mark) (vx13_1 : Int) (vx14 : Int) : Option (Bool) :=
  cond (decide (vx13_1 ≤ vx14))
    ((at? vl qx1).bind fun vy20 =>
    (at? vl vx14).bind fun vy21 =>
    (z155 (api_Mark.mk vy20.At vy20.Device vy20.Kind (api_Version.mk vy20.Version.Major vy20.Version.Minor vy20.Version.Patch)) (api_Mark.mk vy21.At vy21.Device vy21.Kind (api_Version.mk vy21.Version.Major vy21.Version.Minor vy21.Version.Patch))).bind fun vr3_7 =>
    some (decide (vr3_7 < 0)))
    (some false)

noncomputable def z706 (qx1 : Int) (vl : List api_Mark) (vx13_1 : Int) (vx14 : Int) : Option ((Int) ⊕ (Int)) :=
  (z711 qx1 vl vx13_1 vx14).bind fun vx16_1 =>
  cond (vx16_1)
    (some (.inl (IntKind.wrap .i64 (vx14 - 1))))
    (some (.inr vx14))

noncomputable def z692 (qx1 : Int) : (List api_Mark) × Int × Int → Option (((List api_Mark) × Int × Int) ⊕ (((List api_Mark) × Int)))
  | (vl, vx, vx1) =>
  (loopO (z697 qx1 vl vx1) vx).bind fun vx13_1 =>
  (loopO (z706 qx1 vl vx13_1) vx1).bind fun vx17_1 =>
  cond (decide (vx17_1 < vx13_1))
    (some (.inr (vl, vx13_1)))
    ((at? vl vx17_1).bind fun vy22 =>
    (at? vl vx13_1).bind fun vy23 =>
    (at? (vl.set vx13_1.toNat (api_Mark.mk vy22.At vy22.Device vy22.Kind (api_Version.mk vy22.Version.Major vy22.Version.Minor vy22.Version.Patch))) vx17_1).bind fun vy24 =>
    some (.inl ((vl.set vx13_1.toNat (api_Mark.mk vy22.At vy22.Device vy22.Kind (api_Version.mk vy22.Version.Major vy22.Version.Minor vy22.Version.Patch))).set vx17_1.toNat (api_Mark.mk vy23.At vy23.Device vy23.Kind (api_Version.mk vy23.Version.Major vy23.Version.Minor vy23.Version.Patch)), IntKind.wrap .i64 (vx13_1 + 1), IntKind.wrap .i64 (vx17_1 - 1))))

noncomputable def z689 (qx : List api_Mark) (qx1 : Int) (qx2 : Int) (qx3 : Int) : Option ((List api_Mark) × Int) :=
  (at? qx qx3).bind fun vy =>
  (at? qx qx1).bind fun vy1 =>
  (at? (qx.set qx1.toNat (api_Mark.mk vy.At vy.Device vy.Kind (api_Version.mk vy.Version.Major vy.Version.Minor vy.Version.Patch))) qx3).bind fun vy2 =>
  (loopO (z692 qx1) ((qx.set qx1.toNat (api_Mark.mk vy.At vy.Device vy.Kind (api_Version.mk vy.Version.Major vy.Version.Minor vy.Version.Patch))).set qx3.toNat (api_Mark.mk vy1.At vy1.Device vy1.Kind (api_Version.mk vy1.Version.Major vy1.Version.Minor vy1.Version.Patch)), IntKind.wrap .i64 (qx1 + 1), IntKind.wrap .i64 (qx2 - 1))).bind fun (vl1_1, vx18_1) =>
  some (vl1_1, vx18_1)

/-! ### slices.partitionCmpFunc[beaconfleet/api.Mark] -/
noncomputable def z653 (qx : List api_Mark) (qx1 : Int) (qx2 : Int) (qx3 : Int) (vy : api_Mark) (vy1 : api_Mark) (vx : Int) : Option (Bool) :=
  cond (decide (vx ≤ (IntKind.wrap .i64 (qx2 - 1))))
    ((at? ((qx.set qx1.toNat (api_Mark.mk vy.At vy.Device vy.Kind (api_Version.mk vy.Version.Major vy.Version.Minor vy.Version.Patch))).set qx3.toNat (api_Mark.mk vy1.At vy1.Device vy1.Kind (api_Version.mk vy1.Version.Major vy1.Version.Minor vy1.Version.Patch))) vx).bind fun vy5 =>
    (at? ((qx.set qx1.toNat (api_Mark.mk vy.At vy.Device vy.Kind (api_Version.mk vy.Version.Major vy.Version.Minor vy.Version.Patch))).set qx3.toNat (api_Mark.mk vy1.At vy1.Device vy1.Kind (api_Version.mk vy1.Version.Major vy1.Version.Minor vy1.Version.Patch))) qx1).bind fun vy6 =>
    (z155 (api_Mark.mk vy5.At vy5.Device vy5.Kind (api_Version.mk vy5.Version.Major vy5.Version.Minor vy5.Version.Patch)) (api_Mark.mk vy6.At vy6.Device vy6.Kind (api_Version.mk vy6.Version.Major vy6.Version.Minor vy6.Version.Patch))).bind fun vr3_1 =>
    some (decide (vr3_1 < 0)))
    (some false)

noncomputable def z648 (qx : List api_Mark) (qx1 : Int) (qx2 : Int) (qx3 : Int) (vy : api_Mark) (vy1 : api_Mark) (vx : Int) : Option ((Int) ⊕ (Int)) :=
  (z653 qx qx1 qx2 qx3 vy vy1 vx).bind fun vx2_1 =>
  cond (vx2_1)
    (some (.inl (IntKind.wrap .i64 (vx + 1))))
    (some (.inr vx))

noncomputable def z662 (qx : List api_Mark) (qx1 : Int) (qx3 : Int) (vy : api_Mark) (vy1 : api_Mark) (vx3_1 : Int) (vx4 : Int) : Option (Bool) :=
  cond (decide (vx3_1 ≤ vx4))
    ((at? ((qx.set qx1.toNat (api_Mark.mk vy.At vy.Device vy.Kind (api_Version.mk vy.Version.Major vy.Version.Minor vy.Version.Patch))).set qx3.toNat (api_Mark.mk vy1.At vy1.Device vy1.Kind (api_Version.mk vy1.Version.Major vy1.Version.Minor vy1.Version.Patch))) vx4).bind fun vy9 =>
    (at? ((qx.set qx1.toNat (api_Mark.mk vy.At vy.Device vy.Kind (api_Version.mk vy.Version.Major vy.Version.Minor vy.Version.Patch))).set qx3.toNat (api_Mark.mk vy1.At vy1.Device vy1.Kind (api_Version.mk vy1.Version.Major vy1.Version.Minor vy1.Version.Patch))) qx1).bind fun vy10 =>
    (z155 (api_Mark.mk vy9.At vy9.Device vy9.Kind (api_Version.mk vy9.Version.Major vy9.Version.Minor vy9.Version.Patch)) (api_Mark.mk vy10.At vy10.Device vy10.Kind (api_Version.mk vy10.Version.Major vy10.Version.Minor vy10.Version.Patch))).bind fun vr3_3 =>
    some (!(decide (vr3_3 < 0))))
    (some false)

noncomputable def z657 (qx : List api_Mark) (qx1 : Int) (qx3 : Int) (vy : api_Mark) (vy1 : api_Mark) (vx3_1 : Int) (vx4 : Int) : Option ((Int) ⊕ (Int)) :=
  (z662 qx qx1 qx3 vy vy1 vx3_1 vx4).bind fun vx6_1 =>
  cond (vx6_1)
    (some (.inl (IntKind.wrap .i64 (vx4 - 1))))
    (some (.inr vx4))

noncomputable def z676 (qx1 : Int) (vl : List api_Mark) (vx9 : Int) (vx18 : Int) : Option (Bool) :=
  cond (decide (vx18 ≤ vx9))
    ((at? vl vx18).bind fun vy30 =>
    (at? vl qx1).bind fun vy31 =>
    (z155 (api_Mark.mk vy30.At vy30.Device vy30.Kind (api_Version.mk vy30.Version.Major vy30.Version.Minor vy30.Version.Patch)) (api_Mark.mk vy31.At vy31.Device vy31.Kind (api_Version.mk vy31.Version.Major vy31.Version.Minor vy31.Version.Patch))).bind fun vr3_9 =>
    some (decide (vr3_9 < 0)))
    (some false)

noncomputable def z671 (qx1 : Int) (vl : List api_Mark) (vx9 : Int) (vx18 : Int) : Option ((Int) ⊕ (Int)) :=
  (z676 qx1 vl vx9 vx18).bind fun vx20_1 =>
  cond (vx20_1)
    (some (.inl (IntKind.wrap .i64 (vx18 + 1))))
    (some (.inr vx18))

noncomputable def z685 (qx1 : Int) (vl : List api_Mark) (vx21_1 : Int) (vx22 : Int) : Option (Bool) :=
  cond (decide (vx21_1 ≤ vx22))
    ((at? vl vx22).bind fun vy34 =>
    (at? vl qx1).bind fun vy35 =>
    (z155 (api_Mark.mk vy34.At vy34.Device vy34.Kind (api_Version.mk vy34.Version.Major vy34.Version.Minor vy34.Version.Patch)) (api_Mark.mk vy35.At vy35.Device vy35.Kind (api_Version.mk vy35.Version.Major vy35.Version.Minor vy35.Version.Patch))).bind fun vr3_11 =>
    some (!(decide (vr3_11 < 0))))
    (some false)

noncomputable def z680 (qx1 : Int) (vl : List api_Mark) (vx21_1 : Int) (vx22 : Int) : Option ((Int) ⊕ (Int)) :=
  (z685 qx1 vl vx21_1 vx22).bind fun vx24_1 =>
  cond (vx24_1)
    (some (.inl (IntKind.wrap .i64 (vx22 - 1))))
    (some (.inr vx22))

noncomputable def z666 (qx1 : Int) : (List api_Mark) × Int × Int → Option (((List api_Mark) × Int × Int) ⊕ (((List api_Mark) × Int)))
  | (vl, vx8, vx9) =>
  (loopO (z671 qx1 vl vx9) vx8).bind fun vx21_1 =>
  (loopO (z680 qx1 vl vx21_1) vx9).bind fun vx25_1 =>
  cond (decide (vx25_1 < vx21_1))
    (some (.inr (vl, vx25_1)))
    ((at? vl vx25_1).bind fun vy36 =>
    (at? vl vx21_1).bind fun vy37 =>
    (at? (vl.set vx21_1.toNat (api_Mark.mk vy36.At vy36.Device vy36.Kind (api_Version.mk vy36.Version.Major vy36.Version.Minor vy36.Version.Patch))) vx25_1).bind fun vy38 =>
    some (.inl ((vl.set vx21_1.toNat (api_Mark.mk vy36.At vy36.Device vy36.Kind (api_Version.mk vy36.Version.Major vy36.Version.Minor vy36.Version.Patch))).set vx25_1.toNat (api_Mark.mk vy37.At vy37.Device vy37.Kind (api_Version.mk vy37.Version.Major vy37.Version.Minor vy37.Version.Patch)), IntKind.wrap .i64 (vx21_1 + 1), IntKind.wrap .i64 (vx25_1 - 1))))

noncomputable def z645 (qx : List api_Mark) (qx1 : Int) (qx2 : Int) (qx3 : Int) : Option ((List api_Mark) × Int × Bool) :=
  (at? qx qx3).bind fun vy =>
  (at? qx qx1).bind fun vy1 =>
  (at? (qx.set qx1.toNat (api_Mark.mk vy.At vy.Device vy.Kind (api_Version.mk vy.Version.Major vy.Version.Minor vy.Version.Patch))) qx3).bind fun vy2 =>
  (loopO (z648 qx qx1 qx2 qx3 vy vy1) (IntKind.wrap .i64 (qx1 + 1))).bind fun vx3_1 =>
  (loopO (z657 qx qx1 qx3 vy vy1 vx3_1) (IntKind.wrap .i64 (qx2 - 1))).bind fun vx7_1 =>
  cond (decide (vx7_1 < vx3_1))
    ((at? ((qx.set qx1.toNat (api_Mark.mk vy.At vy.Device vy.Kind (api_Version.mk vy.Version.Major vy.Version.Minor vy.Version.Patch))).set qx3.toNat (api_Mark.mk vy1.At vy1.Device vy1.Kind (api_Version.mk vy1.Version.Major vy1.Version.Minor vy1.Version.Patch))) qx1).bind fun vy11 =>
    (at? ((qx.set qx1.toNat (api_Mark.mk vy.At vy.Device vy.Kind (api_Version.mk vy.Version.Major vy.Version.Minor vy.Version.Patch))).set qx3.toNat (api_Mark.mk vy1.At vy1.Device vy1.Kind (api_Version.mk vy1.Version.Major vy1.Version.Minor vy1.Version.Patch))) vx7_1).bind fun vy12 =>
    (at? (((qx.set qx1.toNat (api_Mark.mk vy.At vy.Device vy.Kind (api_Version.mk vy.Version.Major vy.Version.Minor vy.Version.Patch))).set qx3.toNat (api_Mark.mk vy1.At vy1.Device vy1.Kind (api_Version.mk vy1.Version.Major vy1.Version.Minor vy1.Version.Patch))).set vx7_1.toNat (api_Mark.mk vy11.At vy11.Device vy11.Kind (api_Version.mk vy11.Version.Major vy11.Version.Minor vy11.Version.Patch))) qx1).bind fun vy13 =>
    some ((((qx.set qx1.toNat (api_Mark.mk vy.At vy.Device vy.Kind (api_Version.mk vy.Version.Major vy.Version.Minor vy.Version.Patch))).set qx3.toNat (api_Mark.mk vy1.At vy1.Device vy1.Kind (api_Version.mk vy1.Version.Major vy1.Version.Minor vy1.Version.Patch))).set vx7_1.toNat (api_Mark.mk vy11.At vy11.Device vy11.Kind (api_Version.mk vy11.Version.Major vy11.Version.Minor vy11.Version.Patch))).set qx1.toNat (api_Mark.mk vy12.At vy12.Device vy12.Kind (api_Version.mk vy12.Version.Major vy12.Version.Minor vy12.Version.Patch)), vx7_1, true))
    ((at? ((qx.set qx1.toNat (api_Mark.mk vy.At vy.Device vy.Kind (api_Version.mk vy.Version.Major vy.Version.Minor vy.Version.Patch))).set qx3.toNat (api_Mark.mk vy1.At vy1.Device vy1.Kind (api_Version.mk vy1.Version.Major vy1.Version.Minor vy1.Version.Patch))) vx7_1).bind fun vy14 =>
    (at? ((qx.set qx1.toNat (api_Mark.mk vy.At vy.Device vy.Kind (api_Version.mk vy.Version.Major vy.Version.Minor vy.Version.Patch))).set qx3.toNat (api_Mark.mk vy1.At vy1.Device vy1.Kind (api_Version.mk vy1.Version.Major vy1.Version.Minor vy1.Version.Patch))) vx3_1).bind fun vy15 =>
    (at? (((qx.set qx1.toNat (api_Mark.mk vy.At vy.Device vy.Kind (api_Version.mk vy.Version.Major vy.Version.Minor vy.Version.Patch))).set qx3.toNat (api_Mark.mk vy1.At vy1.Device vy1.Kind (api_Version.mk vy1.Version.Major vy1.Version.Minor vy1.Version.Patch))).set vx3_1.toNat (api_Mark.mk vy14.At vy14.Device vy14.Kind (api_Version.mk vy14.Version.Major vy14.Version.Minor vy14.Version.Patch))) vx7_1).bind fun vy16 =>
    (loopO (z666 qx1) ((((qx.set qx1.toNat (api_Mark.mk vy.At vy.Device vy.Kind (api_Version.mk vy.Version.Major vy.Version.Minor vy.Version.Patch))).set qx3.toNat (api_Mark.mk vy1.At vy1.Device vy1.Kind (api_Version.mk vy1.Version.Major vy1.Version.Minor vy1.Version.Patch))).set vx3_1.toNat (api_Mark.mk vy14.At vy14.Device vy14.Kind (api_Version.mk vy14.Version.Major vy14.Version.Minor vy14.Version.Patch))).set vx7_1.toNat (api_Mark.mk vy15.At vy15.Device vy15.Kind (api_Version.mk vy15.Version.Major vy15.Version.Minor vy15.Version.Patch)), IntKind.wrap .i64 (vx3_1 + 1), IntKind.wrap .i64 (vx7_1 - 1))).bind fun (vl1_1, vx26_1) =>
    (at? vl1_1 qx1).bind fun vy39 =>
    (at? vl1_1 vx26_1).bind fun vy40 =>
    (at? (vl1_1.set vx26_1.toNat (api_Mark.mk vy39.At vy39.Device vy39.Kind (api_Version.mk vy39.Version.Major vy39.Version.Minor vy39.Version.Patch))) qx1).bind fun vy41 =>
    some ((vl1_1.set vx26_1.toNat (api_Mark.mk vy39.At vy39.Device vy39.Kind (api_Version.mk vy39.Version.Major vy39.Version.Minor vy39.Version.Patch))).set qx1.toNat (api_Mark.mk vy40.At vy40.Device vy40.Kind (api_Version.mk vy40.Version.Major vy40.Version.Minor vy40.Version.Patch)), vx26_1, false))

/-! ### slices.nextPowerOfTwo -/
noncomputable def z603 (qlength : Int) : Option (Int) :=
  (bits_Len (IntKind.wrap .u64 (qlength))).bind fun vr1 =>
  gd (decide (0 ≤ vr1)) <|
  some (ishl .u64 1 vr1)

/-! ### (*slices.xorshift).Next -/
noncomputable def z772 (qr : Int) : Option (Unit) :=
  some ()

/-! ### slices.breakPatternsCmpFunc[beaconfleet/api.Mark] -/
noncomputable def z548 (qx1 : Int) (qx2 : Int) (vr : Int) (vx : Int) : Option (Int) :=
  cond (decide ((IntKind.wrap .i64 (qx2 - qx1)) ≤ (IntKind.wrap .i64 (ibits .and .u64 (ibits .xor .u64 (ibits .xor .u64 (ibits .xor .u64 vx (ishl .u64 vx 13)) (ishr .u64 (ibits .xor .u64 vx (ishl .u64 vx 13)) 7)) (ishl .u64 (ibits .xor .u64 (ibits .xor .u64 vx (ishl .u64 vx 13)) (ishr .u64 (ibits .xor .u64 vx (ishl .u64 vx 13)) 7)) 17)) (IntKind.wrap .u64 (vr - 1))))))
    (some (IntKind.wrap .i64 ((IntKind.wrap .i64 (ibits .and .u64 (ibits .xor .u64 (ibits .xor .u64 (ibits .xor .u64 vx (ishl .u64 vx 13)) (ishr .u64 (ibits .xor .u64 vx (ishl .u64 vx 13)) 7)) (ishl .u64 (ibits .xor .u64 (ibits .xor .u64 vx (ishl .u64 vx 13)) (ishr .u64 (ibits .xor .u64 vx (ishl .u64 vx 13)) 7)) 17)) (IntKind.wrap .u64 (vr - 1)))) - (IntKind.wrap .i64 (qx2 - qx1)))))
    (some (IntKind.wrap .i64 (ibits .and .u64 (ibits .xor .u64 (ibits .xor .u64 (ibits .xor .u64 vx (ishl .u64 vx 13)) (ishr .u64 (ibits .xor .u64 vx (ishl .u64 vx 13)) 7)) (ishl .u64 (ibits .xor .u64 (ibits .xor .u64 vx (ishl .u64 vx 13)) (ishr .u64 (ibits .xor .u64 vx (ishl .u64 vx 13)) 7)) 17)) (IntKind.wrap .u64 (vr - 1)))))

noncomputable def z543 (qx1 : Int) (qx2 : Int) (vr : Int) : (List api_Mark) × Int × Int → Option (((List api_Mark) × Int × Int) ⊕ ((List api_Mark)))
  | (vl, vx, vx1) =>
  cond (decide (vx1 ≤ (IntKind.wrap .i64 ((IntKind.wrap .i64 (qx1 + (IntKind.wrap .i64 ((IntKind.wrap .i64 ((IntKind.wrap .i64 (qx2 - qx1)).tdiv 4)) * 2)))) + 1))))
    ((z772 vx).bind fun _ =>
    (z548 qx1 qx2 vr vx).bind fun vx3_1 =>
    (at? vl (IntKind.wrap .i64 (qx1 + vx3_1))).bind fun vy3 =>
    (at? vl vx1).bind fun vy4 =>
    (at? (vl.set vx1.toNat (api_Mark.mk vy3.At vy3.Device vy3.Kind (api_Version.mk vy3.Version.Major vy3.Version.Minor vy3.Version.Patch))) (IntKind.wrap .i64 (qx1 + vx3_1))).bind fun vy5 =>
    some (.inl ((vl.set vx1.toNat (api_Mark.mk vy3.At vy3.Device vy3.Kind (api_Version.mk vy3.Version.Major vy3.Version.Minor vy3.Version.Patch))).set (IntKind.wrap .i64 (qx1 + vx3_1)).toNat (api_Mark.mk vy4.At vy4.Device vy4.Kind (api_Version.mk vy4.Version.Major vy4.Version.Minor vy4.Version.Patch)), ibits .xor .u64 (ibits .xor .u64 (ibits .xor .u64 vx (ishl .u64 vx 13)) (ishr .u64 (ibits .xor .u64 vx (ishl .u64 vx 13)) 7)) (ishl .u64 (ibits .xor .u64 (ibits .xor .u64 vx (ishl .u64 vx 13)) (ishr .u64 (ibits .xor .u64 vx (ishl .u64 vx 13)) 7)) 17), IntKind.wrap .i64 (vx1 + 1))))
    (some (.inr vl))

noncomputable def z540 (qx : List api_Mark) (qx1 : Int) (qx2 : Int) : Option ((List api_Mark)) :=
  cond (decide (8 ≤ (IntKind.wrap .i64 (qx2 - qx1))))
    ((z603 (IntKind.wrap .i64 (qx2 - qx1))).bind fun vr =>
    (loopO (z543 qx1 qx2 vr) (qx, IntKind.wrap .u64 (IntKind.wrap .i64 (qx2 - qx1)), IntKind.wrap .i64 ((IntKind.wrap .i64 (qx1 + (IntKind.wrap .i64 ((IntKind.wrap .i64 ((IntKind.wrap .i64 (qx2 - qx1)).tdiv 4)) * 2)))) - 1))).bind fun vl1_1 =>
    some vl1_1)
    (some qx)

/-! ### slices.pdqsortCmpFunc[beaconfleet/api.Mark] -/
noncomputable def z725 (recF : (List api_Mark) → Int → Int → Int → Option ((List api_Mark))) (vl : List api_Mark) (vx : Int) (vx1 : Int) (vx2 : Int) (vx3 : Bool) : Option (((List api_Mark) × Int)) :=
  cond (!vx3)
    ((z540 vl vx vx1).bind fun vl2_4 =>
    gd (vl2_4.length == vl.length) <|
    some (vl2_4, IntKind.wrap .i64 (vx2 - 1)))
    (some (vl, vx2))

noncomputable def z729 (recF : (List api_Mark) → Int → Int → Int → Option ((List api_Mark))) (vx : Int) (vx1 : Int) (vl7_1 : List api_Mark) (vr3_2 : Int) (vr5_1 : Int) : Option (((List api_Mark) × Int × Int)) :=
  cond (decide (vr5_1 = 2))
    ((z746 vl7_1 vx vx1).bind fun vl2_5 =>
    gd (vl2_5.length == vl7_1.length) <|
    some (vl2_5, IntKind.wrap .i64 ((IntKind.wrap .i64 (vx1 - 1)) - (IntKind.wrap .i64 (vr3_2 - vx))), 1))
    (some (vl7_1, vr3_2, vr5_1))

noncomputable def z738 (recF : (List api_Mark) → Int → Int → Int → Option ((List api_Mark))) (vx3 : Bool) (vx4 : Bool) (vx12_1 : Int) : Option (Bool) :=
  cond (vx3)
    (cond (vx4)
      (some (decide (vx12_1 = 1)))
      (some false))
    (some false)

noncomputable def z733 (recF : (List api_Mark) → Int → Int → Int → Option ((List api_Mark))) (vx : Int) (vx1 : Int) (vx3 : Bool) (vx4 : Bool) (vl8_1 : List api_Mark) (vx12_1 : Int) : Option ((List api_Mark) ⊕ (List api_Mark)) :=
  (z738 recF vx3 vx4 vx12_1).bind fun vx13_1 =>
  cond (vx13_1)
    ((z609 vl8_1 vx vx1).bind fun (vl15_1, vr4) =>
    gd (vl15_1.length == vl8_1.length) <|
    cond (vr4)
      (some (.inr vl15_1))
      (some (.inl vl15_1)))
    (some (.inl vl8_1))

noncomputable def z742 (recF : (List api_Mark) → Int → Int → Int → Option ((List api_Mark))) (vx : Int) (vx11_1 : Int) (vl9_1 : List api_Mark) : Option (Bool) :=
  cond (decide (0 < vx))
    ((at? vl9_1 (IntKind.wrap .i64 (vx - 1))).bind fun vy2 =>
    (at? vl9_1 vx11_1).bind fun vy3 =>
    (z155 (api_Mark.mk vy2.At vy2.Device vy2.Kind (api_Version.mk vy2.Version.Major vy2.Version.Minor vy2.Version.Patch)) (api_Mark.mk vy3.At vy3.Device vy3.Kind (api_Version.mk vy3.Version.Major vy3.Version.Minor vy3.Version.Patch))).bind fun vr3_3 =>
    some (!(decide (vr3_3 < 0))))
    (some false)

noncomputable def z720 (recF : (List api_Mark) → Int → Int → Int → Option ((List api_Mark))) : (List api_Mark) × Int × Int × Int × Bool × Bool → Option (((List api_Mark) × Int × Int × Int × Bool × Bool) ⊕ ((List api_Mark)))
  | (vl, vx, vx1, vx2, vx3, vx4) =>
  cond (decide ((IntKind.wrap .i64 (vx1 - vx)) ≤ 12))
    ((z563 vl vx vx1).bind fun vl6_1 =>
    gd (vl6_1.length == vl.length) <|
    some (.inr vl6_1))
    (cond (decide (vx2 = 0))
      (none)
      ((z725 recF vl vx vx1 vx2 vx3).bind fun (vl7_1, vx10_1) =>
      (z552 vl7_1 vx vx1).bind fun (vr3_2, vr5_1) =>
      (z729 recF vx vx1 vl7_1 vr3_2 vr5_1).bind fun (vl8_1, vx11_1, vx12_1) =>
      (z733 recF vx vx1 vx3 vx4 vl8_1 vx12_1).bind fun x => match x with
        | .inl vl9_1 =>
          (z742 recF vx vx11_1 vl9_1).bind fun vx14_1 =>
          cond (vx14_1)
            ((z689 vl9_1 vx vx1 vx11_1).bind fun (vl2_6, vr6) =>
            gd (vl2_6.length == vl9_1.length) <|
            some (.inl (vl2_6, vr6, vx1, vx10_1, vx3, vx4)))
            ((z645 vl9_1 vx vx1 vx11_1).bind fun (vl2_7, vr7, vr1_2) =>
            gd (vl2_7.length == vl9_1.length) <|
            cond (decide ((IntKind.wrap .i64 (vr7 - vx)) < (IntKind.wrap .i64 (vx1 - vr7))))
              ((recF vl2_7 vx vr7 vx10_1).bind fun vl10_2 =>
              gd (vl10_2.length == vl2_7.length) <|
              some (.inl (vl10_2, IntKind.wrap .i64 (vr7 + 1), vx1, vx10_1, decide ((IntKind.wrap .i64 ((IntKind.wrap .i64 (vx1 - vx)).tdiv 8)) ≤ (IntKind.wrap .i64 (vr7 - vx))), vr1_2)))
              ((recF vl2_7 (IntKind.wrap .i64 (vr7 + 1)) vx1 vx10_1).bind fun vl10_3 =>
              gd (vl10_3.length == vl2_7.length) <|
              some (.inl (vl10_3, vx, vr7, vx10_1, decide ((IntKind.wrap .i64 ((IntKind.wrap .i64 (vx1 - vx)).tdiv 8)) ≤ (IntKind.wrap .i64 (vx1 - vr7))), vr1_2))))
        | .inr vl11_1 =>
          some (.inr vl11_1)))

noncomputable def z717 : Nat → (List api_Mark) → Int → Int → Int → Option ((List api_Mark))
  | 0, _, _, _, _ => none
  | n + 1, qx, qx1, qx2, qx3 =>
  (loopO (z720 (z717 n)) (qx, qx1, qx2, qx3, true, true)).bind fun vl12_1 =>
  some vl12_1

noncomputable def z715 (qx : List api_Mark) (qx1 : Int) (qx2 : Int) (qx3 : Int) : Option ((List api_Mark)) := fixO fun n => z717 n qx qx1 qx2 qx3

/-! ### slices.SortFunc[[]beaconfleet/api.Mark,beaconfleet/api.Mark] -/
noncomputable def z534 (qx : List api_Mark) : Option ((List api_Mark)) :=
  (bits_Len (IntKind.wrap .u64 ((qx.length : Int)))).bind fun vr1 =>
  (z715 qx 0 (qx.length : Int) vr1).bind fun vl13 =>
  gd (vl13.length == qx.length) <|
  some vl13

/-! ### slices.Compact[[]beaconfleet/api.Mark,beaconfleet/api.Mark] -/
noncomputable def z502 (qs : List api_Mark) (vk : Int) (vl4 : List api_Mark) (vk6 : Int) (vk2_1 : Int) : Option (((List api_Mark) × Int)) :=
  gd (decide (0 ≤ vk) && decide (0 ≤ vk2_1) && decide (vk2_1 < (qs.length : Int) - vk)) <|
  (at? vl4 (vk + vk2_1)).bind fun vy13 =>
  gd (decide (0 ≤ vk) && decide (0 ≤ (IntKind.wrap .i64 (vk2_1 - 1))) && decide ((IntKind.wrap .i64 (vk2_1 - 1)) < (qs.length : Int) - vk)) <|
  (at? vl4 (vk + (IntKind.wrap .i64 (vk2_1 - 1)))).bind fun vy14 =>
  cond (!(decide (vy13.At = vy14.At) && (decide (vy13.Device = vy14.Device) && (decide (vy13.Kind = vy14.Kind) && ((decide (vy13.Version.Major = vy14.Version.Major) && (decide (vy13.Version.Minor = vy14.Version.Minor) && (decide (vy13.Version.Patch = vy14.Version.Patch) && true))) && true)))))
    ((at? vl4 vk6).bind fun vy15 =>
    some (vl4.set vk6.toNat (api_Mark.mk vy13.At vy13.Device vy13.Kind (api_Version.mk vy13.Version.Major vy13.Version.Minor vy13.Version.Patch)), IntKind.wrap .i64 (vk6 + 1)))
    (some (vl4, vk6))

noncomputable def z497 (qs : List api_Mark) (vk : Int) : (List api_Mark) × Int × Int → Option (((List api_Mark) × Int × Int) ⊕ (((List api_Mark) × Int)))
  | (vl4, vk6, vk2_1) =>
  cond (decide (vk2_1 < (((qs.length : Int).toNat - vk.toNat : Nat) : Int)))
    ((z502 qs vk vl4 vk6 vk2_1).bind fun (vl6_1, vk8_1) =>
    some (.inl (vl6_1, vk8_1, IntKind.wrap .i64 (vk2_1 + 1))))
    (some (.inr (vl4, vk6)))

noncomputable def z492 (qs : List api_Mark) (vk : Int) : Option ((Int) ⊕ (Unit ⊕ (List api_Mark))) :=
  cond (decide (vk < (qs.length : Int)))
    ((at? qs vk).bind fun vy8 =>
    (at? qs (IntKind.wrap .i64 (vk - 1))).bind fun vy9 =>
    cond ((decide (vy8.At = vy9.At) && (decide (vy8.Device = vy9.Device) && (decide (vy8.Kind = vy9.Kind) && ((decide (vy8.Version.Major = vy9.Version.Major) && (decide (vy8.Version.Minor = vy9.Version.Minor) && (decide (vy8.Version.Patch = vy9.Version.Patch) && true))) && true)))))
      (gd (decide (0 ≤ vk) && decide (vk ≤ (qs.length : Int)) && decide ((qs.length : Int) ≤ (qs.length : Int))) <|
      (loopO (z497 qs vk) (qs, vk, 1)).bind fun (vl7_1, vk9_1) =>
      gd (decide (0 ≤ vk9_1) && decide (vk9_1 ≤ (vl7_1.length : Int)) && decide ((vl7_1.length : Int) ≤ (vl7_1.length : Int))) <|
      gd (decide (0 ≤ vk9_1) && decide (vk9_1 ≤ ((vl7_1.take vk9_1.toNat ++ (List.replicate ((vl7_1.length : Int).toNat - vk9_1.toNat) (api_Mark.mk 0 ([] : List UInt8) 0 (api_Version.mk 0 0 0)) ++ vl7_1.drop (vk9_1.toNat + ((vl7_1.length : Int).toNat - vk9_1.toNat)))).length : Int))) <|
      some (.inr (.inr ((vl7_1.take vk9_1.toNat ++ (List.replicate ((vl7_1.length : Int).toNat - vk9_1.toNat) (api_Mark.mk 0 ([] : List UInt8) 0 (api_Version.mk 0 0 0)) ++ vl7_1.drop (vk9_1.toNat + ((vl7_1.length : Int).toNat - vk9_1.toNat)))).take vk9_1.toNat))))
      (some (.inl (IntKind.wrap .i64 (vk + 1)))))
    (some (.inr (.inl ())))

noncomputable def z489 (qs : List api_Mark) : Option ((List api_Mark)) :=
  cond (decide ((qs.length : Int) < 2))
    (some qs)
    ((loopO (z492 qs) 1).bind fun x => match x with
      | .inl _ =>
        some qs
      | .inr vx1 =>
        some vx1)

/-! ### beaconfleet/campaign.Merge -/
noncomputable def z160 (vr2 : List api_Mark) (vi : Int) : Option ((Int) ⊕ (Unit ⊕ Unit)) :=
  cond (decide (vi < (vr2.length : Int)))
    ((at? vr2 (IntKind.wrap .i64 (vi - 1))).bind fun vy2 =>
    (at? vr2 vi).bind fun vy3 =>
    (z175 (api_Mark.mk vy2.At vy2.Device vy2.Kind (api_Version.mk vy2.Version.Major vy2.Version.Minor vy2.Version.Patch)) (api_Mark.mk vy3.At vy3.Device vy3.Kind (api_Version.mk vy3.Version.Major vy3.Version.Minor vy3.Version.Patch))).bind fun vr2_2 =>
    cond (decide (vr2_2 = 0))
      (some (.inr (.inr ())))
      (some (.inl (IntKind.wrap .i64 (vi + 1)))))
    (some (.inr (.inl ())))

noncomputable def z154 (qa : List api_Mark) (qb : List api_Mark) : Option ((List api_Mark) × Int) :=
  (z139 qa).bind fun vr6 =>
  (z139 qb).bind fun vr6_1 =>
  (z4 ([vr6, vr6_1] : List Int)).bind fun vr =>
  cond (!decide (vr = 0))
    (some ([], vr))
    ((z506 ([qa, qb] : List (List api_Mark))).bind fun vr1 =>
    (z534 vr1).bind fun vl =>
    gd (vl.length == vr1.length) <|
    (z489 vl).bind fun vr2 =>
    (loopO (z160 vr2) 1).bind fun x => match x with
      | .inl _ =>
        cond (decide (3000 < (vr2.length : Int)))
          (some ([], 2))
          (some (vr2, 0))
      | .inr _ =>
        some ([], 13))

/-! ### beaconfleet/fleetref2.in -/
noncomputable def z439 (qn : Int) (qlow : Int) (qhigh : Int) : Option (Bool) :=
  cond (decide (qlow ≤ qn))
    (some (decide (qn ≤ qhigh)))
    (some false)

noncomputable def z436 (qn : Int) (qlow : Int) (qhigh : Int) : Option (Bool) :=
  (z439 qn qlow qhigh).bind fun vx1 =>
  some vx1

/-! ### internal/stringslite.IndexByte -/
noncomputable def z993 (qs : List UInt8) (qc : Int) : Option (Unit) :=
  some ()

/-! ### strings.IndexByte -/
noncomputable def z942 (qs : List UInt8) (qc : Int) : Option (Unit) :=
  (z993 qs qc).bind fun _ =>
  some ()

/-! ### beaconfleet/fleetref2.only -/
noncomputable def z454 (qs : List UInt8) (qsome : List UInt8) (vx : Int) : Option ((Int) ⊕ (Unit ⊕ Unit)) :=
  cond (decide (vx < (qs.length : Int)))
    ((at? qs vx).bind fun vc1 =>
    (z942 qsome (vc1.toNat : Int)).bind fun _ =>
    cond (decide ((Lib.indexByte qsome (vc1.toNat : Int).toNat.toUInt8) < 0))
      (some (.inr (.inr ())))
      (some (.inl (IntKind.wrap .i64 (vx + 1)))))
    (some (.inr (.inl ())))

noncomputable def z451 (qs : List UInt8) (qsome : List UInt8) : Option (Bool) :=
  (loopO (z454 qs qsome) 0).bind fun x => match x with
    | .inl _ =>
      some true
    | .inr _ =>
      some false

/-! ### beaconfleet/fleetref2.Key -/
noncomputable def z394 (qs : List UInt8) : Option (Bool) :=
  (z436 (qs.length : Int) 1 40).bind fun vr =>
  cond (vr)
    ((sub? qs 0 1).bind fun vs =>
    (z451 vs ([97, 98, 99, 100, 101, 102, 103, 104, 105, 106, 107, 108, 109, 110, 111, 112, 113, 114, 115, 116, 117, 118, 119, 120, 121, 122] : List UInt8)).bind fun vr1 =>
    cond (vr1)
      ((z451 qs ([97, 98, 99, 100, 101, 102, 103, 104, 105, 106, 107, 108, 109, 110, 111, 112, 113, 114, 115, 116, 117, 118, 119, 120, 121, 122, 48, 49, 50, 51, 52, 53, 54, 55, 56, 57, 45, 95] : List UInt8)).bind fun vr2 =>
      some vr2)
      (some false))
    (some false)

noncomputable def z391 (qs : List UInt8) : Option (Bool) :=
  (z394 qs).bind fun vx1 =>
  some vx1

/-! ### beaconfleet/fleetref2.versionFault -/
noncomputable def z465 (qv : api_Version) : Option (Bool) :=
  (z436 qv.Major 0 9999).bind fun vr =>
  cond (!vr)
    (some true)
    ((z436 qv.Minor 0 9999).bind fun vr1 =>
    cond (!vr1)
      (some true)
      ((z436 qv.Patch 0 9999).bind fun vr2 =>
      some (!vr2)))

noncomputable def z462 (qv : api_Version) : Option (Int) :=
  (z465 qv).bind fun vx1 =>
  cond (vx1)
    (some 1)
    (some 0)

/-! ### beaconfleet/fleetref2.Moment -/
noncomputable def z425 (qat : Int) : Option (Bool) :=
  (z436 qat 0 345686399999).bind fun vr =>
  some vr

/-! ### beaconfleet/fleetref2.CampaignFault -/
noncomputable def z371 (vy1 : api_Wave) : Option (Bool) :=
  (z436 vy1.Part 1 1000).bind fun vr6 =>
  cond (!vr6)
    (some true)
    ((z436 vy1.Wait 0 2592000000).bind fun vr7 =>
    cond (!vr7)
      (some true)
      ((z436 vy1.Least 1 500).bind fun vr8 =>
      cond (!vr8)
        (some true)
        ((z436 vy1.Fails 0 1000).bind fun vr9 =>
        some (!vr9))))

noncomputable def z366 (qx : api_Campaign) : Int × Int → Option ((Int × Int) ⊕ (Int ⊕ Unit))
  | (vx, vx1) =>
  cond (decide (vx1 < (qx.Waves.length : Int)))
    ((at? qx.Waves vx1).bind fun vy1 =>
    (z371 vy1).bind fun vx3_1 =>
    cond (vx3_1)
      (some (.inr (.inr ())))
      (some (.inl (IntKind.wrap .i64 (vx + vy1.Part), IntKind.wrap .i64 (vx1 + 1)))))
    (some (.inr (.inl vx)))

noncomputable def z375 (qx : api_Campaign) : Option (Bool) :=
  (z436 qx.Hours.From 0 86400000).bind fun vr10 =>
  cond (!vr10)
    (some true)
    ((z436 qx.Hours.To 0 86400000).bind fun vr11 =>
    cond (!vr11)
      (some true)
      ((z436 qx.Room 1 500).bind fun vr12 =>
      some (!vr12)))

noncomputable def z363 (qx : api_Campaign) : Option (Int) :=
  (z391 qx.Key).bind fun vr3 =>
  cond (!vr3)
    (some 5)
    ((z462 (api_Version.mk qx.Target.Major qx.Target.Minor qx.Target.Patch)).bind fun vr3_1 =>
    cond (!decide (vr3_1 = 0))
      (some vr3_1)
      ((z425 qx.At).bind fun vr1 =>
      cond (!vr1)
        (some 1)
        (cond (decide ((qx.Waves.length : Int) = 0))
          (some 3)
          (cond (decide (20 < (qx.Waves.length : Int)))
            (some 2)
            ((loopO (z366 qx) (0, 0)).bind fun x => match x with
              | .inl vx4_1 =>
                cond (!decide (vx4_1 = 1000))
                  (some 15)
                  ((z375 qx).bind fun vx5_1 =>
                  cond (vx5_1)
                    (some 1)
                    (some 0))
              | .inr _ =>
                some 1)))))

/-! ### beaconfleet/campaign.CheckFleet -/
noncomputable def z131 (vy2 : api_Device) : Option (Bool) :=
  (base_Key vy2.Key).bind fun vr4 =>
  cond (!vr4)
    (some true)
    ((base_Key vy2.Model).bind fun vr5 =>
    cond (!vr5)
      (some true)
      ((base_Key vy2.Tenant).bind fun vr6 =>
      some (!vr6)))

noncomputable def z135 (ql : List api_Device) (vx : Int) (vy2 : api_Device) : Option (Bool) :=
  cond (decide (0 < vx))
    ((at? ql (IntKind.wrap .i64 (vx - 1))).bind fun vy3 =>
    some (Op.bytesLess vy2.Key vy3.Key || decide (vy2.Key = vy3.Key)))
    (some false)

noncomputable def z126 (ql : List api_Device) (vx : Int) : Option ((Int) ⊕ (Unit ⊕ Int)) :=
  cond (decide (vx < (ql.length : Int)))
    ((at? ql vx).bind fun vy2 =>
    (z131 vy2).bind fun vx3_1 =>
    cond (vx3_1)
      (some (.inr (.inr 5)))
      ((z135 ql vx vy2).bind fun vx4_1 =>
      cond (vx4_1)
        (some (.inr (.inr 7)))
        ((z76 (api_Version.mk vy2.Firmware.Major vy2.Firmware.Minor vy2.Firmware.Patch)).bind fun vr3_1 =>
        cond (!vr3_1)
          (some (.inr (.inr 1)))
          (cond (decide (20 < (vy2.Tags.length : Int)))
            (some (.inr (.inr 2)))
            (some (.inl (IntKind.wrap .i64 (vx + 1))))))))
    (some (.inr (.inl ())))

noncomputable def z123 (ql : List api_Device) : Option (Int) :=
  cond (decide (500 < (ql.length : Int)))
    (some 2)
    ((loopO (z126 ql) 0).bind fun x => match x with
      | .inl _ =>
        some 0
      | .inr vx5_1 =>
        some vx5_1)

/-! ### beaconfleet/fleetref2.FleetFault -/
noncomputable def z387 (vy1 : api_Device) : Option (Bool) :=
  (z391 vy1.Key).bind fun vr3_4 =>
  cond (!vr3_4)
    (some true)
    ((z391 vy1.Model).bind fun vr3_5 =>
    cond (!vr3_5)
      (some true)
      ((z391 vy1.Tenant).bind fun vr3_6 =>
      some (!vr3_6)))

noncomputable def z382 (ql : List api_Device) : (List UInt8) × Int → Option (((List UInt8) × Int) ⊕ (Unit ⊕ Int))
  | (vlast, vx) =>
  cond (decide (vx < (ql.length : Int)))
    ((at? ql vx).bind fun vy1 =>
    (z387 vy1).bind fun vx2_1 =>
    cond (vx2_1)
      (some (.inr (.inr 5)))
      (cond (Op.bytesLess vy1.Key vlast || decide (vy1.Key = vlast))
        (some (.inr (.inr 7)))
        ((z462 (api_Version.mk vy1.Firmware.Major vy1.Firmware.Minor vy1.Firmware.Patch)).bind fun vr3_7 =>
        cond (!decide (vr3_7 = 0))
          (some (.inr (.inr vr3_7)))
          (cond (decide (20 < (vy1.Tags.length : Int)))
            (some (.inr (.inr 2)))
            (some (.inl (vy1.Key, IntKind.wrap .i64 (vx + 1))))))))
    (some (.inr (.inl ())))

noncomputable def z379 (ql : List api_Device) : Option (Int) :=
  cond (decide (500 < (ql.length : Int)))
    (some 2)
    ((loopO (z382 ql) (([] : List UInt8), 0)).bind fun x => match x with
      | .inl _ =>
        some 0
      | .inr vx3_1 =>
        some vx3_1)

/-! ### beaconfleet/fleetref2.MarksFault -/
noncomputable def z409 (ql : List api_Mark) (vx : Int) (vy2 : api_Mark) : Option (Bool) :=
  cond (decide (0 < vx))
    ((at? ql (IntKind.wrap .i64 (vx - 1))).bind fun vy3 =>
    (z398 (api_Mark.mk vy3.At vy3.Device vy3.Kind (api_Version.mk vy3.Version.Major vy3.Version.Minor vy3.Version.Patch)) (api_Mark.mk vy2.At vy2.Device vy2.Kind (api_Version.mk vy2.Version.Major vy2.Version.Minor vy2.Version.Patch))).bind fun vr1_3 =>
    some (decide (0 ≤ vr1_3)))
    (some false)

noncomputable def z404 (ql : List api_Mark) (vx : Int) : Option ((Int) ⊕ (Unit ⊕ Int)) :=
  cond (decide (vx < (ql.length : Int)))
    ((at? ql vx).bind fun vy2 =>
    (z425 vy2.At).bind fun vr1_2 =>
    cond (!vr1_2)
      (some (.inr (.inr 1)))
      ((z391 vy2.Device).bind fun vr3_2 =>
      cond (!vr3_2)
        (some (.inr (.inr 5)))
        ((z436 vy2.Kind 1 5).bind fun vr2 =>
        cond (!vr2)
          (some (.inr (.inr 4)))
          ((z462 (api_Version.mk vy2.Version.Major vy2.Version.Minor vy2.Version.Patch)).bind fun vr3_3 =>
          cond (!decide (vr3_3 = 0))
            (some (.inr (.inr vr3_3)))
            ((z409 ql vx vy2).bind fun vx2_1 =>
            cond (vx2_1)
              (some (.inr (.inr 7)))
              (some (.inl (IntKind.wrap .i64 (vx + 1)))))))))
    (some (.inr (.inl ())))

noncomputable def z401 (ql : List api_Mark) : Option (Int) :=
  cond (decide (3000 < (ql.length : Int)))
    (some 2)
    ((loopO (z404 ql) 0).bind fun x => match x with
      | .inl _ =>
        some 0
      | .inr vx3_1 =>
        some vx3_1)

/-! ### beaconfleet/fleetlaw2.when -/
noncomputable def z243 (qis : Bool) (qe : Int) : Option (Int) :=
  cond (qis)
    (some qe)
    (some 0)

/-! ### beaconfleet/fleetlaw2.errs -/
noncomputable def z231 (ql : List Int) (vx : Int) : Option ((Int) ⊕ (Unit ⊕ Int)) :=
  cond (decide (vx < (ql.length : Int)))
    ((at? ql vx).bind fun vy1 =>
    cond (!decide (vy1 = 0))
      (some (.inr (.inr vy1)))
      (some (.inl (IntKind.wrap .i64 (vx + 1)))))
    (some (.inr (.inl ())))

noncomputable def z228 (ql : List Int) : Option (Int) :=
  (loopO (z231 ql) 0).bind fun x => match x with
    | .inl _ =>
      some 0
    | .inr vx1_1 =>
      some vx1_1

/-! ### beaconfleet/fleetref2.lot -/
noncomputable def z446 (qc : api_Campaign) (qdevice : List UInt8) : Int × Int → Option ((Int × Int) ⊕ (Int))
  | (vh, vx) =>
  cond (decide (vx < ((bytesD ((qc.Key ++ ([0] : List UInt8)) ++ qdevice)).length : Int)))
    ((at? (bytesD ((qc.Key ++ ([0] : List UInt8)) ++ qdevice)) vx).bind fun vy1 =>
    some (.inl (IntKind.wrap .u64 ((ibits .xor .u64 vh (IntKind.wrap .u64 (vy1))) * 1099511628211), IntKind.wrap .i64 (vx + 1))))
    (some (.inr vh))

noncomputable def z443 (qc : api_Campaign) (qdevice : List UInt8) : Option (Int) :=
  gd (Nat.ble (qc.Key.length + ([0] : List UInt8).length) LIM) <|
  gd (Nat.ble ((qc.Key ++ ([0] : List UInt8)).length + qdevice.length) LIM) <|
  (loopO (z446 qc qdevice) (14695981039346656037, 0)).bind fun vh1_1 =>
  some (IntKind.wrap .i64 ((ibits .xor .u64 vh1_1 (ishr .u64 vh1_1 32)).tmod 1000))

/-! ### beaconfleet/fleetref2.WaveOf -/
noncomputable def z431 (qc : api_Campaign) : Int × Int → Option ((Int × Int) ⊕ (Unit ⊕ Int))
  | (vn, vx) =>
  cond (decide (vx < (qc.Waves.length : Int)))
    ((at? qc.Waves vx).bind fun vy1 =>
    cond (decide ((IntKind.wrap .i64 (vn - vy1.Part)) < 0))
      (some (.inr (.inr vx)))
      (some (.inl (IntKind.wrap .i64 (vn - vy1.Part), IntKind.wrap .i64 (vx + 1)))))
    (some (.inr (.inl ())))

noncomputable def z428 (qc : api_Campaign) (qdevice : List UInt8) : Option (Int) :=
  (z443 (api_Campaign.mk qc.Key (api_Version.mk qc.Target.Major qc.Target.Minor qc.Target.Patch) qc.At qc.Waves (api_Window.mk qc.Hours.From qc.Hours.To) qc.Room) qdevice).bind fun vr =>
  (loopO (z431 qc) (vr, 0)).bind fun x => match x with
    | .inl _ =>
      some 0
    | .inr vx1_1 =>
      some vx1_1

/-! ### beaconfleet/fleetref2.MarksOf -/
noncomputable def z421 (vr : List api_Mark) (vx : Int) : Option (Bool) :=
  cond (decide (0 < vx))
    ((at? vr (IntKind.wrap .i64 (vx - 1))).bind fun vy2 =>
    (at? vr vx).bind fun vy3 =>
    (z398 (api_Mark.mk vy2.At vy2.Device vy2.Kind (api_Version.mk vy2.Version.Major vy2.Version.Minor vy2.Version.Patch)) (api_Mark.mk vy3.At vy3.Device vy3.Kind (api_Version.mk vy3.Version.Major vy3.Version.Minor vy3.Version.Patch))).bind fun vr1_2 =>
    some (decide (vr1_2 = 0)))
    (some false)

noncomputable def z416 (vr : List api_Mark) (vx : Int) : Option ((Int) ⊕ (Unit ⊕ Unit)) :=
  cond (decide (vx < (vr.length : Int)))
    ((z421 vr vx).bind fun vx2_1 =>
    cond (vx2_1)
      (some (.inr (.inr ())))
      (some (.inl (IntKind.wrap .i64 (vx + 1)))))
    (some (.inr (.inl ())))

noncomputable def z413 (qa : List api_Mark) (qb : List api_Mark) : Option ((List api_Mark) × Int) :=
  (z506 ([qa, qb] : List (List api_Mark))).bind fun vr1 =>
  (z537 vr1).bind fun vl =>
  gd (vl.length == vr1.length) <|
  (z489 vl).bind fun vr =>
  (loopO (z416 vr) 0).bind fun x => match x with
    | .inl _ =>
      cond (decide (3000 < (vr.length : Int)))
        (some ([], 2))
        (some (vr, 0))
    | .inr _ =>
      some ([], 13)

/-! ### slices.Equal[[]beaconfleet/api.Mark,beaconfleet/api.Mark] -/
noncomputable def z522 (qs1 : List api_Mark) (qs2 : List api_Mark) (vx : Int) : Option ((Int) ⊕ (Unit ⊕ Unit)) :=
  cond (decide (vx < (qs1.length : Int)))
    ((at? qs1 vx).bind fun vy2 =>
    (at? qs2 vx).bind fun vy3 =>
    cond (!(decide (vy2.At = vy3.At) && (decide (vy2.Device = vy3.Device) && (decide (vy2.Kind = vy3.Kind) && ((decide (vy2.Version.Major = vy3.Version.Major) && (decide (vy2.Version.Minor = vy3.Version.Minor) && (decide (vy2.Version.Patch = vy3.Version.Patch) && true))) && true)))))
      (some (.inr (.inr ())))
      (some (.inl (IntKind.wrap .i64 (vx + 1)))))
    (some (.inr (.inl ())))

noncomputable def z519 (qs1 : List api_Mark) (qs2 : List api_Mark) : Option (Bool) :=
  cond (!decide ((qs1.length : Int) = (qs2.length : Int)))
    (some false)
    ((loopO (z522 qs1 qs2) 0).bind fun x => match x with
      | .inl _ =>
        some true
      | .inr _ =>
        some false)

/-! ### unicode/utf8.RuneCountInString -/
noncomputable def z1015 (qs : List UInt8) : Nat × Int → Option ((Nat × Int) ⊕ (Int))
  | (vpos, vn) =>
  cond (decide (vpos < qs.length))
    ((some (dec qs vpos)).bind fun vd1 =>
    some (.inl ((vpos + vd1.2 : Nat), IntKind.wrap .i64 (vn + 1))))
    (some (.inr vn))

noncomputable def z1012 (qs : List UInt8) : Option (Int) :=
  (loopO (z1015 qs) ((0 : Nat), 0)).bind fun vn1_1 =>
  some vn1_1

/-! ### unicode/utf8.decodeRuneInStringSlow -/
noncomputable def z1020 (qx : List UInt8) : Option (Unit) :=
  cond (decide ((qx.length : Int) < 1))
    (some ())
    ((at? qx 0).bind fun vc =>
    none)

/-! ### unicode/utf8.DecodeRuneInString -/
noncomputable def z1008 (qs : List UInt8) : Option (Bool) :=
  cond (!decide (qs = ([] : List UInt8)))
    ((at? qs 0).bind fun vc =>
    some (decide ((vc.toNat : Int) < 128)))
    (some false)

noncomputable def z1005 (qs : List UInt8) : Option (Int × Int) :=
  (z1008 qs).bind fun vx1 =>
  cond (vx1)
    ((at? qs 0).bind fun vc1 =>
    some (IntKind.wrap .i32 ((vc1.toNat : Int)), 1))
    ((z1020 qs).bind fun _ =>
    some (65533, 0))

/-! ### strings.explode -/
noncomputable def z960 (qn : Int) (vr : Int) : Option (Bool) :=
  cond (decide (qn < 0))
    (some true)
    (some (decide (vr < qn)))

noncomputable def z956 (qn : Int) (vr : Int) : Option (Int) :=
  (z960 qn vr).bind fun vx1 =>
  cond (vx1)
    (some vr)
    (some qn)

noncomputable def z964 (vn1 : Int) : (List UInt8) × (List (List UInt8)) × Int → Option (((List UInt8) × (List (List UInt8)) × Int) ⊕ (((List UInt8) × (List (List UInt8)))))
  | (vs, va, vi) =>
  cond (decide (vi < (IntKind.wrap .i64 (vn1 - 1))))
    ((z1005 vs).bind fun (vr2, vr1_2) =>
    (sub? vs 0 vr1_2).bind fun vs3 =>
    (at? va vi).bind fun vy1 =>
    (sub? vs vr1_2 (vs.length : Int)).bind fun vs4 =>
    some (.inl (vs4, va.set vi.toNat vs3, IntKind.wrap .i64 (vi + 1))))
    (some (.inr (vs, va)))

noncomputable def z969 (vn1 : Int) (vs5_1 : List UInt8) (va1_1 : List (List UInt8)) : Option ((List (List UInt8))) :=
  cond (decide (0 < vn1))
    ((at? va1_1 (IntKind.wrap .i64 (vn1 - 1))).bind fun vy2 =>
    some (va1_1.set (IntKind.wrap .i64 (vn1 - 1)).toNat vs5_1))
    (some va1_1)

noncomputable def z953 (qs : List UInt8) (qn : Int) : Option ((List (List UInt8))) :=
  (z1012 qs).bind fun vr =>
  (z956 qn vr).bind fun vn1 =>
  gd (decide (0 ≤ vn1) && decide (vn1 ≤ vn1) && decide (vn1 ≤ 137438953472)) <|
  (loopO (z964 vn1) (qs, List.replicate vn1.toNat ([] : List UInt8), 0)).bind fun (vs5_1, va1_1) =>
  (z969 vn1 vs5_1 va1_1).bind fun va2_1 =>
  some va2_1

/-! ### internal/stringslite.Index -/
noncomputable def z998 (qx : List UInt8) (qx1 : List UInt8) : Option (Bool) :=
  cond (decide ((qx1.length : Int) = 0))
    (some true)
    (some (decide (qx1 = qx)))

noncomputable def z992 (qx : List UInt8) (qx1 : List UInt8) : Option (Int) :=
  (z998 qx qx1).bind fun vx1 =>
  cond (vx1)
    (some 0)
    (cond (decide ((qx1.length : Int) = 1))
      ((at? qx1 0).bind fun vc =>
      (z993 qx (vc.toNat : Int)).bind fun _ =>
      some (Lib.indexByte qx (vc.toNat : Int).toNat.toUInt8))
      (cond (decide ((qx.length : Int) ≤ (qx1.length : Int)))
        (some (-1))
        (none)))

/-! ### strings.Index -/
noncomputable def z941 (qs : List UInt8) (qsubstr : List UInt8) : Option (Int) :=
  (z992 qs qsubstr).bind fun vr =>
  some vr

/-! ### strings.Count -/
noncomputable def z936 (qsubstr : List UInt8) : (List UInt8) × Int → Option (((List UInt8) × Int) ⊕ (Int))
  | (vs, vn) =>
  (z941 vs qsubstr).bind fun vr1_1 =>
  cond (decide (vr1_1 = (-1)))
    (some (.inr vn))
    ((sub? vs (IntKind.wrap .i64 (vr1_1 + (qsubstr.length : Int))) (vs.length : Int)).bind fun vs2 =>
    some (.inl (vs2, IntKind.wrap .i64 (vn + 1))))

noncomputable def z933 (qs : List UInt8) (qsubstr : List UInt8) : Option (Int) :=
  cond (decide ((qsubstr.length : Int) = 0))
    ((z1012 qs).bind fun vr =>
    some (IntKind.wrap .i64 (vr + 1)))
    (cond (decide ((qsubstr.length : Int) = 1))
      ((at? qsubstr 0).bind fun vc =>
      some (countB qs (vc.toNat : Int).toNat.toUInt8))
      ((loopO (z936 qsubstr) (qs, 0)).bind fun vx1 =>
      some vx1))

/-! ### strings.genSplit -/
noncomputable def z976 (qx : List UInt8) (qx1 : List UInt8) (qx3 : Int) : Option (Int) :=
  cond (decide (qx3 < 0))
    ((z933 qx qx1).bind fun vr2 =>
    some (IntKind.wrap .i64 (vr2 + 1)))
    (some qx3)

noncomputable def z980 (qx : List UInt8) (qx1 : List UInt8) (qx2 : Int) (vx1 : Int) : (List UInt8) × (List (List UInt8)) × Int → Option (((List UInt8) × (List (List UInt8)) × Int) ⊕ (((List UInt8) × (List (List UInt8)) × Int)))
  | (vx2, vx3, vx4) =>
  cond (decide (vx4 < (IntKind.wrap .i64 ((imin vx1 (IntKind.wrap .i64 ((qx.length : Int) + 1))) - 1))))
    ((z941 vx2 qx1).bind fun vr1_1 =>
    cond (decide (vr1_1 < 0))
      (some (.inr (vx2, vx3, vx4)))
      ((sub? vx2 0 (IntKind.wrap .i64 (vr1_1 + qx2))).bind fun vs2 =>
      (at? vx3 vx4).bind fun vy1 =>
      (sub? vx2 (IntKind.wrap .i64 (vr1_1 + (qx1.length : Int))) (vx2.length : Int)).bind fun vs3 =>
      some (.inl (vs3, vx3.set vx4.toNat vs2, IntKind.wrap .i64 (vx4 + 1)))))
    (some (.inr (vx2, vx3, vx4)))

noncomputable def z973 (qx : List UInt8) (qx1 : List UInt8) (qx2 : Int) (qx3 : Int) : Option ((List (List UInt8))) :=
  cond (decide (qx3 = 0))
    (some [])
    (cond (decide (qx1 = ([] : List UInt8)))
      ((z953 qx qx3).bind fun vr3 =>
      some vr3)
      ((z976 qx qx1 qx3).bind fun vx1 =>
      gd (decide (0 ≤ (imin vx1 (IntKind.wrap .i64 ((qx.length : Int) + 1)))) && decide ((imin vx1 (IntKind.wrap .i64 ((qx.length : Int) + 1))) ≤ (imin vx1 (IntKind.wrap .i64 ((qx.length : Int) + 1)))) && decide ((imin vx1 (IntKind.wrap .i64 ((qx.length : Int) + 1))) ≤ 137438953472)) <|
      (loopO (z980 qx qx1 qx2 vx1) (qx, List.replicate (imin vx1 (IntKind.wrap .i64 ((qx.length : Int) + 1))).toNat ([] : List UInt8), 0)).bind fun (vx5_1, vx6_1, vx7_1) =>
      (at? vx6_1 vx7_1).bind fun vy2 =>
      gd (decide (0 ≤ (IntKind.wrap .i64 (vx7_1 + 1))) && decide ((IntKind.wrap .i64 (vx7_1 + 1)) ≤ ((vx6_1.set vx7_1.toNat vx5_1).length : Int))) <|
      some ((vx6_1.set vx7_1.toNat vx5_1).take (IntKind.wrap .i64 (vx7_1 + 1)).toNat)))

/-! ### strings.Split -/
noncomputable def z947 (qs : List UInt8) (qsep : List UInt8) : Option ((List (List UInt8))) :=
  (z973 qs qsep 0 (-1)).bind fun vr =>
  some vr

/-! ### internal/stringslite.HasPrefix -/
noncomputable def z988 (qs : List UInt8) (qprefix : List UInt8) : Option (Bool) :=
  cond (decide ((qprefix.length : Int) ≤ (qs.length : Int)))
    ((sub? qs 0 (qprefix.length : Int)).bind fun vs =>
    some (decide (vs = qprefix)))
    (some false)

noncomputable def z985 (qs : List UInt8) (qprefix : List UInt8) : Option (Bool) :=
  (z988 qs qprefix).bind fun vx1 =>
  some vx1

/-! ### internal/stringslite.TrimPrefix -/
noncomputable def z1002 (qs : List UInt8) (qprefix : List UInt8) : Option ((List UInt8)) :=
  (z985 qs qprefix).bind fun vr =>
  cond (vr)
    ((sub? qs (qprefix.length : Int) (qs.length : Int)).bind fun vs =>
    some vs)
    (some qs)

/-! ### strings.TrimPrefix -/
noncomputable def z950 (qs : List UInt8) (qprefix : List UInt8) : Option ((List UInt8)) :=
  (z1002 qs qprefix).bind fun vr1 =>
  some vr1

/-! ### internal/strconv.lower -/
noncomputable def z894 (qc : Int) : Option (Unit) :=
  some ()

/-! ### internal/strconv.underscoreOK -/
noncomputable def z904 (qx : List UInt8) : Option (Bool) :=
  cond (decide (1 ≤ (qx.length : Int)))
    ((at? qx 0).bind fun vc =>
    cond (decide ((vc.toNat : Int) = 45))
      (some true)
      (some (decide ((vc.toNat : Int) = 43))))
    (some false)

noncomputable def z900 (qx : List UInt8) : Option ((List UInt8)) :=
  (z904 qx).bind fun vx1 =>
  cond (vx1)
    ((sub? qx 1 (qx.length : Int)).bind fun vs =>
    some vs)
    (some qx)

noncomputable def z912 (vx2_1 : List UInt8) : Option (Bool) :=
  cond (decide (2 ≤ (vx2_1.length : Int)))
    ((at? vx2_1 0).bind fun vc1 =>
    cond (decide ((vc1.toNat : Int) = 48))
      ((at? vx2_1 1).bind fun vc2 =>
      (z894 (vc2.toNat : Int)).bind fun _ =>
      cond (decide ((ibits .or .u8 (vc2.toNat : Int) 32) = 98))
        (some true)
        (cond (decide ((ibits .or .u8 (vc2.toNat : Int) 32) = 111))
          (some true)
          (some (decide ((ibits .or .u8 (vc2.toNat : Int) 32) = 120)))))
      (some false))
    (some false)

noncomputable def z908 (vx2_1 : List UInt8) : Option ((Int × Int × Bool)) :=
  (z912 vx2_1).bind fun vx3_1 =>
  cond (vx3_1)
    ((at? vx2_1 1).bind fun vc3 =>
    (z894 (vc3.toNat : Int)).bind fun _ =>
    some (48, 2, decide ((ibits .or .u8 (vc3.toNat : Int) 32) = 120)))
    (some (94, 0, false))

noncomputable def z926 (vx2_1 : List UInt8) (vx6_1 : Bool) (vx8 : Int) : Option (Bool) :=
  (at? vx2_1 vx8).bind fun vc6 =>
  cond (decide ((48 : Int) ≤ (vc6.toNat : Int)))
    (cond (decide ((vc6.toNat : Int) ≤ 57))
      (some true)
      (cond (vx6_1)
        ((z894 (vc6.toNat : Int)).bind fun _ =>
        cond (decide ((97 : Int) ≤ (ibits .or .u8 (vc6.toNat : Int) 32)))
          (some (decide ((ibits .or .u8 (vc6.toNat : Int) 32) ≤ 102)))
          (some false))
        (some false)))
    (cond (vx6_1)
      ((z894 (vc6.toNat : Int)).bind fun _ =>
      cond (decide ((97 : Int) ≤ (ibits .or .u8 (vc6.toNat : Int) 32)))
        (some (decide ((ibits .or .u8 (vc6.toNat : Int) 32) ≤ 102)))
        (some false))
      (some false))

noncomputable def z921 (vx2_1 : List UInt8) (vx6_1 : Bool) (vx7 : Int) (vx8 : Int) : Option (Int ⊕ Unit) :=
  (z926 vx2_1 vx6_1 vx8).bind fun vx11_1 =>
  cond (vx11_1)
    (some (.inl 48))
    ((at? vx2_1 vx8).bind fun vc7 =>
    cond (decide ((vc7.toNat : Int) = 95))
      (cond (!decide (vx7 = 48))
        (some (.inr ()))
        (some (.inl 95)))
      (cond (decide (vx7 = 95))
        (some (.inr ()))
        (some (.inl 33))))

noncomputable def z916 (vx2_1 : List UInt8) (vx6_1 : Bool) : Int × Int → Option ((Int × Int) ⊕ (Int ⊕ Unit))
  | (vx7, vx8) =>
  cond (decide (vx8 < (vx2_1.length : Int)))
    ((z921 vx2_1 vx6_1 vx7 vx8).bind fun x => match x with
      | .inl vx12_1 =>
        some (.inl (vx12_1, IntKind.wrap .i64 (vx8 + 1)))
      | .inr _ =>
        some (.inr (.inr ())))
    (some (.inr (.inl vx7)))

noncomputable def z897 (qx : List UInt8) : Option (Bool) :=
  (z900 qx).bind fun vx2_1 =>
  (z908 vx2_1).bind fun (vx4_1, vx5_1, vx6_1) =>
  (loopO (z916 vx2_1 vx6_1) (vx4_1, vx5_1)).bind fun x => match x with
    | .inl vx13_1 =>
      some (!decide (vx13_1 = 95))
    | .inr _ =>
      some false

/-! ### internal/strconv.ParseUint -/
noncomputable def z861 (qx1 : Int) : Option (Bool) :=
  cond (decide ((2 : Int) ≤ qx1))
    (some (decide (qx1 ≤ 36)))
    (some false)

noncomputable def z865 (qx : List UInt8) : Option (Bool) :=
  cond (decide (3 ≤ (qx.length : Int)))
    ((at? qx 1).bind fun vc1 =>
    (z894 (vc1.toNat : Int)).bind fun _ =>
    some (decide ((ibits .or .u8 (vc1.toNat : Int) 32) = 98)))
    (some false)

noncomputable def z869 (qx : List UInt8) : Option (Bool) :=
  cond (decide (3 ≤ (qx.length : Int)))
    ((at? qx 1).bind fun vc2 =>
    (z894 (vc2.toNat : Int)).bind fun _ =>
    some (decide ((ibits .or .u8 (vc2.toNat : Int) 32) = 111)))
    (some false)

noncomputable def z873 (qx : List UInt8) : Option (Bool) :=
  cond (decide (3 ≤ (qx.length : Int)))
    ((at? qx 1).bind fun vc3 =>
    (z894 (vc3.toNat : Int)).bind fun _ =>
    some (decide ((ibits .or .u8 (vc3.toNat : Int) 32) = 120)))
    (some false)

noncomputable def z828 (qx : List UInt8) (qx1 : Int) : Option (((List UInt8) × Int)) :=
  (z861 qx1).bind fun vx1 =>
  cond (vx1)
    (some (qx, qx1))
    (cond (decide (qx1 = 0))
      ((at? qx 0).bind fun vc =>
      cond (decide ((vc.toNat : Int) = 48))
        ((z865 qx).bind fun vx2_1 =>
        cond (vx2_1)
          ((sub? qx 2 (qx.length : Int)).bind fun vs =>
          some (vs, 2))
          ((z869 qx).bind fun vx3_1 =>
          cond (vx3_1)
            ((sub? qx 2 (qx.length : Int)).bind fun vs1 =>
            some (vs1, 8))
            ((z873 qx).bind fun vx4_1 =>
            cond (vx4_1)
              ((sub? qx 2 (qx.length : Int)).bind fun vs2 =>
              some (vs2, 16))
              ((sub? qx 1 (qx.length : Int)).bind fun vs3 =>
              some (vs3, 8)))))
        (some (qx, 10)))
      (none))

noncomputable def z881 (qx2 : Int) : Option (Bool) :=
  cond (decide (qx2 < 0))
    (some true)
    (some (decide (64 < qx2)))

noncomputable def z877 (qx2 : Int) : Option (Int) :=
  cond (decide (qx2 = 0))
    (some 64)
    ((z881 qx2).bind fun vx7_1 =>
    cond (vx7_1)
      (none)
      (some qx2))

noncomputable def z885 (vx6_1 : Int) : Option (Int) :=
  cond (decide (vx6_1 = 10))
    (some 1844674407370955162)
    (cond (decide (vx6_1 = 16))
      (some 1152921504606846976)
      (gd (!((IntKind.wrap .u64 (vx6_1)) == 0)) <|
      some (IntKind.wrap .u64 ((IntKind.wrap .u64 ((18446744073709551615 : Int).tdiv (IntKind.wrap .u64 (vx6_1)))) + 1))))

noncomputable def z838 (qx1 : Int) (vy1 : Int) : Option (Bool) :=
  cond (decide (vy1 = 95))
    (some (decide (qx1 = 0)))
    (some false)

noncomputable def z842 (vy1 : Int) : Option (Bool) :=
  cond (decide ((48 : Int) ≤ vy1))
    (some (decide (vy1 ≤ 57)))
    (some false)

noncomputable def z846 (vy1 : Int) : Option (Bool) :=
  (z894 vy1).bind fun _ =>
  cond (decide ((97 : Int) ≤ (ibits .or .u8 vy1 32)))
    (some (decide ((ibits .or .u8 vy1 32) ≤ 122)))
    (some false)

noncomputable def z833 (qx1 : Int) (vy1 : Int) : Option (Int ⊕ Unit) :=
  (z838 qx1 vy1).bind fun vx20_1 =>
  cond (vx20_1)
    (some (.inr ()))
    ((z842 vy1).bind fun vx21_1 =>
    cond (vx21_1)
      (some (.inl (IntKind.wrap .u8 (vy1 - 48))))
      ((z846 vy1).bind fun vx22_1 =>
      cond (vx22_1)
        ((z894 vy1).bind fun _ =>
        some (.inl (IntKind.wrap .u8 ((IntKind.wrap .u8 ((ibits .or .u8 vy1 32) - 97)) + 10))))
        (none)))

noncomputable def z850 (vx6_1 : Int) (vx8_1 : Int) (vx11 : Int) (vx23_1 : Int) : Option (Bool) :=
  cond (decide ((IntKind.wrap .u64 ((IntKind.wrap .u64 (vx11 * (IntKind.wrap .u64 (vx6_1)))) + (IntKind.wrap .u64 (vx23_1)))) < (IntKind.wrap .u64 (vx11 * (IntKind.wrap .u64 (vx6_1))))))
    (some true)
    (some (decide ((IntKind.wrap .u64 ((ishl .u64 1 (IntKind.wrap .u64 (vx8_1))) - 1)) < (IntKind.wrap .u64 ((IntKind.wrap .u64 (vx11 * (IntKind.wrap .u64 (vx6_1)))) + (IntKind.wrap .u64 (vx23_1)))))))

noncomputable def z829 (qx1 : Int) (vx5_1 : List UInt8) (vx6_1 : Int) (vx8_1 : Int) (vx9_1 : Int) (vx10 : Bool) (vx11 : Int) (vx12 : Int) : Option ((Bool × Int)) :=
  (at? (bytesD vx5_1) vx12).bind fun vy1 =>
  (z833 qx1 vy1).bind fun x => match x with
    | .inl vx23_1 =>
      cond (decide ((IntKind.wrap .u8 (vx6_1)) ≤ vx23_1))
        (none)
        (cond (decide (vx9_1 ≤ vx11))
          (none)
          ((z850 vx6_1 vx8_1 vx11 vx23_1).bind fun vx24_1 =>
          cond (vx24_1)
            (none)
            (some (vx10, IntKind.wrap .u64 ((IntKind.wrap .u64 (vx11 * (IntKind.wrap .u64 (vx6_1)))) + (IntKind.wrap .u64 (vx23_1)))))))
    | .inr _ =>
      some (true, vx11)

noncomputable def z889 (qx1 : Int) (vx5_1 : List UInt8) (vx6_1 : Int) (vx8_1 : Int) (vx9_1 : Int) : Bool × Int × Int → Option ((Bool × Int × Int) ⊕ ((Bool × Int)))
  | (vx10, vx11, vx12) =>
  cond (decide (vx12 < ((bytesD vx5_1).length : Int)))
    ((z829 qx1 vx5_1 vx6_1 vx8_1 vx9_1 vx10 vx11 vx12).bind fun (vx25_1, vx26_1) =>
    some (.inl (vx25_1, vx26_1, IntKind.wrap .i64 (vx12 + 1))))
    (some (.inr (vx10, vx11)))

noncomputable def z854 (qx : List UInt8) (vx27_1 : Bool) : Option (Bool) :=
  cond (vx27_1)
    ((z897 qx).bind fun vr =>
    some (!vr))
    (some false)

noncomputable def z825 (qx : List UInt8) (qx1 : Int) (qx2 : Int) : Option (Int) :=
  cond (decide (qx = ([] : List UInt8)))
    (none)
    ((z828 qx qx1).bind fun (vx5_1, vx6_1) =>
    (z877 qx2).bind fun vx8_1 =>
    (z885 vx6_1).bind fun vx9_1 =>
    gd (decide (0 ≤ (IntKind.wrap .u64 (vx8_1)))) <|
    (loopO (z889 qx1 vx5_1 vx6_1 vx8_1 vx9_1) (false, 0, 0)).bind fun (vx27_1, vx28_1) =>
    (z854 qx vx27_1).bind fun vx29_1 =>
    cond (vx29_1)
      (none)
      (some vx28_1))

/-! ### internal/strconv.ParseInt -/
noncomputable def z805 (qx : List UInt8) : Option (((List UInt8) × Bool)) :=
  (at? qx 0).bind fun vc =>
  cond (decide ((vc.toNat : Int) = 43))
    ((sub? qx 1 (qx.length : Int)).bind fun vs =>
    some (vs, false))
    (cond (decide ((vc.toNat : Int) = 45))
      ((sub? qx 1 (qx.length : Int)).bind fun vs1 =>
      some (vs1, true))
      (some (qx, false)))

noncomputable def z809 (qx2 : Int) : Option (Int) :=
  cond (decide (qx2 = 0))
    (some 64)
    (some qx2)

noncomputable def z813 (vx1_1 : Bool) (vr1 : Int) (vx3_1 : Int) : Option (Bool) :=
  cond (!vx1_1)
    (some (decide ((ishl .u64 1 (IntKind.wrap .u64 (IntKind.wrap .i64 (vx3_1 - 1)))) ≤ vr1)))
    (some false)

noncomputable def z817 (vx1_1 : Bool) (vr1 : Int) (vx3_1 : Int) : Option (Bool) :=
  cond (vx1_1)
    (some (decide ((ishl .u64 1 (IntKind.wrap .u64 (IntKind.wrap .i64 (vx3_1 - 1)))) < vr1)))
    (some false)

noncomputable def z821 (vx1_1 : Bool) (vr1 : Int) : Option (Int) :=
  cond (vx1_1)
    (some (IntKind.wrap .i64 (0 - (IntKind.wrap .i64 (vr1)))))
    (some (IntKind.wrap .i64 (vr1)))

noncomputable def z802 (qx : List UInt8) (qx1 : Int) (qx2 : Int) : Option (Int) :=
  cond (decide (qx = ([] : List UInt8)))
    (none)
    ((z805 qx).bind fun (vx2, vx1_1) =>
    (z825 vx2 qx1 qx2).bind fun vr1 =>
    (z809 qx2).bind fun vx3_1 =>
    gd (decide (0 ≤ (IntKind.wrap .u64 (IntKind.wrap .i64 (vx3_1 - 1))))) <|
    (z813 vx1_1 vr1 vx3_1).bind fun vx4_1 =>
    cond (vx4_1)
      (none)
      ((z817 vx1_1 vr1 vx3_1).bind fun vx5_1 =>
      cond (vx5_1)
        (none)
        ((z821 vx1_1 vr1).bind fun vx6_1 =>
        some vx6_1)))

/-! ### internal/strconv.Atoi -/
noncomputable def z779 (qx : List UInt8) : Option (Bool) :=
  cond (decide ((0 : Int) < (qx.length : Int)))
    (some (decide ((qx.length : Int) < 19)))
    (some false)

noncomputable def z787 (qx : List UInt8) : Option (Bool) :=
  (at? qx 0).bind fun vc =>
  cond (decide ((vc.toNat : Int) = 45))
    (some true)
    (some (decide ((vc.toNat : Int) = 43)))

noncomputable def z783 (qx : List UInt8) : Option ((List UInt8)) :=
  (z787 qx).bind fun vx2_1 =>
  cond (vx2_1)
    ((sub? qx 1 (qx.length : Int)).bind fun vs =>
    cond (decide ((vs.length : Int) < 1))
      (none)
      (some vs))
    (some qx)

noncomputable def z791 (vx3_1 : List UInt8) : Int × Int → Option ((Int × Int) ⊕ (Int))
  | (vx4, vx5) =>
  cond (decide (vx5 < ((bytesD vx3_1).length : Int)))
    ((at? (bytesD vx3_1) vx5).bind fun vy1 =>
    cond (decide (9 < (IntKind.wrap .u8 (vy1 - 48))))
      (none)
      (some (.inl (IntKind.wrap .i64 ((IntKind.wrap .i64 (vx4 * 10)) + (IntKind.wrap .i64 (IntKind.wrap .u8 (vy1 - 48)))), IntKind.wrap .i64 (vx5 + 1)))))
    (some (.inr vx4))

noncomputable def z796 (qx : List UInt8) (vx6_1 : Int) : Option (Int) :=
  (at? qx 0).bind fun vc1 =>
  cond (decide ((vc1.toNat : Int) = 45))
    (some (IntKind.wrap .i64 (0 - vx6_1)))
    (some vx6_1)

noncomputable def z776 (qx : List UInt8) : Option (Int) :=
  (z779 qx).bind fun vx1 =>
  cond (vx1)
    ((z783 qx).bind fun vx3_1 =>
    (loopO (z791 vx3_1) (0, 0)).bind fun vx6_1 =>
    (z796 qx vx6_1).bind fun vx7_1 =>
    some vx7_1)
    ((z802 qx 10 0).bind fun vr =>
    some vr)

/-! ### strconv.Atoi -/
noncomputable def z775 (qs : List UInt8) : Option (Int) :=
  (z776 qs).bind fun vr1 =>
  some vr1

/-! ### beaconfleet/base.Number -/
noncomputable def z49 (qs : List UInt8) (qdigits : Int) (vr : List UInt8) : Option (Bool) :=
  cond (decide (vr = ([] : List UInt8)))
    (some true)
    (cond (decide (qdigits < (vr.length : Int)))
      (some true)
      ((at? vr 0).bind fun vc =>
      cond (decide ((vc.toNat : Int) = 48))
        (cond (decide (1 < (vr.length : Int)))
          (some true)
          (some (decide ((vr.length : Int) < (qs.length : Int)))))
        (some false)))

noncomputable def z58 (vr : List UInt8) (vx2 : Int) : Option (Bool) :=
  (at? vr vx2).bind fun vc2 =>
  cond (decide ((vc2.toNat : Int) < 48))
    (some true)
    (some (decide (57 < (vc2.toNat : Int))))

noncomputable def z53 (vr : List UInt8) (vx2 : Int) : Option ((Int) ⊕ (Unit ⊕ Unit)) :=
  cond (decide (vx2 < (vr.length : Int)))
    ((z58 vr vx2).bind fun vx4_1 =>
    cond (vx4_1)
      (some (.inr (.inr ())))
      (some (.inl (IntKind.wrap .i64 (vx2 + 1)))))
    (some (.inr (.inl ())))

noncomputable def z46 (qs : List UInt8) (qdigits : Int) : Option (Int × Bool) :=
  (z950 qs ([45] : List UInt8)).bind fun vr =>
  (z49 qs qdigits vr).bind fun vx1 =>
  cond (vx1)
    (some (0, false))
    ((loopO (z53 vr) 0).bind fun x => match x with
      | .inl _ =>
        (z775 qs).bind fun vr1 =>
        some (vr1, true)
      | .inr _ =>
        some (0, false))

/-! ### beaconfleet/base.Numbers -/
noncomputable def z65 (qwords : List (List UInt8)) (qdigits : Int) : (List Int) × Int → Option (((List Int) × Int) ⊕ ((List Int) ⊕ Unit))
  | (vout, vx) =>
  cond (decide (vx < (qwords.length : Int)))
    ((at? qwords vx).bind fun vy1 =>
    (z46 vy1 qdigits).bind fun (vr2_1, vr3_1) =>
    cond (!vr3_1)
      (some (.inr (.inr ())))
      (gd (Nat.ble (vout.length + ([vr2_1] : List Int).length) LIM) <|
      some (.inl (vout ++ ([vr2_1] : List Int), IntKind.wrap .i64 (vx + 1)))))
    (some (.inr (.inl vout)))

noncomputable def z62 (qwords : List (List UInt8)) (qdigits : Int) : Option ((List Int) × Bool) :=
  (loopO (z65 qwords qdigits) ([], 0)).bind fun x => match x with
    | .inl vout1_1 =>
      some (vout1_1, true)
    | .inr _ =>
      some ([], false)

/-! ### beaconfleet/campaign.ParseVersion -/
noncomputable def z168 (vr : List Int) (vr1_1 : Bool) : Option (Bool) :=
  cond (!vr1_1)
    (some true)
    (some (!decide ((vr.length : Int) = 3)))

noncomputable def z165 (qs : List UInt8) : Option (api_Version × Int) :=
  (z947 qs ([46] : List UInt8)).bind fun vr1 =>
  (z62 vr1 4).bind fun (vr, vr1_1) =>
  (z168 vr vr1_1).bind fun vx1 =>
  cond (vx1)
    (some (api_Version.mk 0 0 0, 9))
    ((at? vr 0).bind fun vy =>
    (at? vr 1).bind fun vy1 =>
    (at? vr 2).bind fun vy2 =>
    (z76 (api_Version.mk vy vy1 vy2)).bind fun vr3 =>
    cond (!vr3)
      (some (api_Version.mk 0 0 0, 9))
      (some (api_Version.mk vy vy1 vy2, 0)))

/-! ### beaconfleet/fleetlaw2.versioned -/
noncomputable def z239 (vr2 : api_Version) (vr4 : Int) : Option (Bool) :=
  cond (decide (vr4 = 0))
    (some (decide (vr2.Major = 1) && (decide (vr2.Minor = 2) && (decide (vr2.Patch = 3) && true))))
    (some false)

noncomputable def z236 : Option (Bool) :=
  (z165 ([49, 46, 50, 46, 51] : List UInt8)).bind fun (vr2, vr4) =>
  (z239 vr2 vr4).bind fun vx1 =>
  some vx1

/-! ### beaconfleet/fleetlaw2.CampaignsCheck -/
noncomputable def z208 (vr21 : List api_Mark) (vs12_1 : z253) : Option ((z253 × Bool)) :=
  cond (decide (0 < (vr21.length : Int)))
    ((z272 vs12_1 2).bind fun vr12 =>
    some (z253.mk vs12_1.L (IntKind.wrap .i64 (vs12_1.at_ + 1)), vr12))
    (some (vs12_1, false))

noncomputable def z204 (vr21 : List api_Mark) (vs12_1 : z253) (vr21_1 : List api_Mark) : Option ((List api_Mark)) :=
  (z208 vr21 vs12_1).bind fun (vx2, vx1_1) =>
  cond (vx1_1)
    ((z311 vx2 (vr21.length : Int)).bind fun vr3_1 =>
    (sub? vr21 vr3_1 (vr21.length : Int)).bind fun vl =>
    (z469 vl).bind fun vr13 =>
    some vr13)
    (some vr21_1)

noncomputable def z212 (vr2 : List UInt8) (vr4 : Int) (vr5 : Int) (vr6 : Int) (vr7 : Int) (vr8 : List api_Wave) (vr9 : Int) (vr10 : Int) (vr11 : Int) (vr4_1 : List api_Device) (vr21 : List api_Mark) (vr13_1 : Int) : Option (Bool) :=
  (z103 (api_Campaign.mk vr2 (api_Version.mk vr4 vr5 vr6) vr7 vr8 (api_Window.mk vr9 vr10) vr11)).bind fun vr14 =>
  cond (!decide (vr14 = vr13_1))
    (some true)
    ((z123 vr4_1).bind fun vr7_1 =>
    (z379 vr4_1).bind fun vr15 =>
    cond (!decide (vr7_1 = vr15))
      (some true)
      ((z139 vr21).bind fun vr6_1 =>
      (z401 vr21).bind fun vr4_3 =>
      some (!decide (vr6_1 = vr4_3))))

noncomputable def z216 (vr2 : List UInt8) (vr4 : Int) (vr5 : Int) (vr6 : Int) (vr7 : Int) (vr8 : List api_Wave) (vr9 : Int) (vr10 : Int) (vr11 : Int) (vr : List UInt8) (vr13_1 : Int) : Option ((Int × Int)) :=
  (z391 vr).bind fun vr3_4 =>
  (z243 (!vr3_4) 5).bind fun vr16 =>
  (z228 ([vr13_1, vr16] : List Int)).bind fun vr17 =>
  cond (decide (vr17 = 0))
    ((z428 (api_Campaign.mk vr2 (api_Version.mk vr4 vr5 vr6) vr7 vr8 (api_Window.mk vr9 vr10) vr11) vr).bind fun vr1_1 =>
    some (vr17, vr1_1))
    (some (vr17, 0))

noncomputable def z220 (vr21 : List api_Mark) (vx3_1 : List api_Mark) (vr18 : Int) : Option ((Int × (List api_Mark))) :=
  cond (decide (vr18 = 0))
    ((z413 vr21 vx3_1).bind fun (vr2_2, vr3_5) =>
    some (vr3_5, vr2_2))
    (some (vr18, []))

noncomputable def z224 (vr2_1 : Int) (vr3_2 : Int) (vr3_3 : List api_Mark) (vr4_2 : Int) (vx5_1 : Int) (vx6_1 : Int) (vx7_1 : Int) (vx8_1 : List api_Mark) : Option (Bool) :=
  cond (decide (vr3_2 = vx5_1))
    (cond (decide (vr2_1 = vx6_1))
      (cond (decide (vr4_2 = vx7_1))
        ((z519 vr3_3 vx8_1).bind fun vr19 =>
        cond (vr19)
          ((z236).bind fun vr20 =>
          some vr20)
          (some false))
        (some false))
      (some false))
    (some false)

noncomputable def fleetlaw2_CampaignsCheck (qx : List Int) : Option (Bool) :=
  (z254 (z253.mk qx 0)).bind fun (vs4, vr2, vr4, vr5, vr6, vr7, vr8, vr9, vr10, vr11) =>
  (z261 vs4 5).bind fun (vs5, vr4_1) =>
  (z350 vs5 ([([100, 49] : List UInt8), ([100, 50] : List UInt8), ([100, 51] : List UInt8), ([120, 57] : List UInt8), ([] : List UInt8), ([65] : List UInt8)] : List (List UInt8))).bind fun vr =>
  (z320 (z253.mk vs5.L (IntKind.wrap .i64 (vs5.at_ + 1))) 0 8).bind fun (vs, vr1) =>
  (z275 vs (api_Campaign.mk vr2 (api_Version.mk vr4 vr5 vr6) vr7 vr8 (api_Window.mk vr9 vr10) vr11) vr4_1 vr1).bind fun (vs12, vr21) =>
  (z320 vs12 0 5).bind fun (vs1, vr3) =>
  (z275 vs1 (api_Campaign.mk vr2 (api_Version.mk vr4 vr5 vr6) vr7 vr8 (api_Window.mk vr9 vr10) vr11) vr4_1 vr3).bind fun (vs12_1, vr21_1) =>
  (z204 vr21 vs12_1 vr21_1).bind fun vx3_1 =>
  (z172 (api_Campaign.mk vr2 (api_Version.mk vr4 vr5 vr6) vr7 vr8 (api_Window.mk vr9 vr10) vr11) vr).bind fun (vr2_1, vr3_2) =>
  (z154 vr21 vx3_1).bind fun (vr3_3, vr4_2) =>
  (z363 (api_Campaign.mk vr2 (api_Version.mk vr4 vr5 vr6) vr7 vr8 (api_Window.mk vr9 vr10) vr11)).bind fun vr13_1 =>
  (z212 vr2 vr4 vr5 vr6 vr7 vr8 vr9 vr10 vr11 vr4_1 vr21 vr13_1).bind fun vx4_1 =>
  cond (vx4_1)
    (some false)
    ((z216 vr2 vr4 vr5 vr6 vr7 vr8 vr9 vr10 vr11 vr vr13_1).bind fun (vx5_1, vx6_1) =>
    (z401 vr21).bind fun vr4_4 =>
    (z401 vx3_1).bind fun vr4_5 =>
    (z228 ([vr4_4, vr4_5] : List Int)).bind fun vr18 =>
    (z220 vr21 vx3_1 vr18).bind fun (vx7_1, vx8_1) =>
    (z224 vr2_1 vr3_2 vr3_3 vr4_2 vx5_1 vx6_1 vx7_1 vx8_1).bind fun vx9_1 =>
    some vx9_1)

end Go.Eng
