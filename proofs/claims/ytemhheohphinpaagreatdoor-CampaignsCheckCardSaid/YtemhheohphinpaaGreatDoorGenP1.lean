/-
The code of the Go functions that the law CampaignsCheck reaches does what the plain functions say, part 1.
-/
import Derived.Test.YtemhheohphinpaaGreatDoorGenF

import Derived.Test.YtemhheohphinpaaGreatDoorEng9

import Derived.Test.YtemhheohphinpaaGreatDoorProg

import Derived.KernelRfl

namespace Go.Eng

open Go Go.Proofs.Tryz

set_option linter.unusedVariables false

set_option maxRecDepth 20000

set_option maxHeartbeats 0

def ti2 : TI := ⟨1, 8, [.d (.int .i64 0)], false, .int .i64⟩

def ti3 : TI := ⟨1, 8, [.d (.int .i64 0)], false, .int .i64⟩

def ti5 : TI := ⟨1, 1, [.d (.int .u8 0)], false, .int .u8⟩

def ti9 : TI := ⟨1, 16, [.d (.str [])], false, .str⟩

def ti21 : TI := ⟨1, 4, [.d (.int .i32 0)], false, .int .i32⟩

def ti22 : TI := ⟨1, 24, [.nil], false, .slice 3⟩

def ti25 : TI := ⟨2, 32, [.nil, .d (.int .i64 0)], true, .struct [(0, 22), (1, 3)]⟩

def ti27 : TI := ⟨3, 24, [.d (.int .i64 0), .d (.int .i64 0), .d (.int .i64 0)], true, .struct [(0, 3), (1, 3), (2, 3)]⟩

def ti28 : TI := ⟨1, 24, [.nil], false, .slice 103⟩

def ti30 : TI := ⟨2, 16, [.d (.int .i64 0), .d (.int .i64 0)], true, .struct [(0, 3), (1, 3)]⟩

def ti32 : TI := ⟨9, 96, [.d (.str []), .d (.int .i64 0), .d (.int .i64 0), .d (.int .i64 0), .d (.int .i64 0), .nil, .d (.int .i64 0), .d (.int .i64 0), .d (.int .i64 0)], true, .struct [(0, 9), (1, 27), (4, 3), (5, 28), (6, 30), (8, 3)]⟩

def ti34 : TI := ⟨1, 24, [.nil], false, .slice 55⟩

def ti37 : TI := ⟨1, 24, [.nil], false, .slice 88⟩

def ti42 : TI := ⟨1, 8, [.d (.int .i64 0)], false, .int .i64⟩

def ti53 : TI := ⟨1, 24, [.nil], false, .slice 304⟩

def ti55 : TI := ⟨7, 96, [.d (.str []), .d (.str []), .d (.str []), .d (.int .i64 0), .d (.int .i64 0), .d (.int .i64 0), .nil], true, .struct [(0, 9), (1, 9), (2, 9), (3, 27), (6, 53)]⟩

def ti88 : TI := ⟨6, 56, [.d (.int .i64 0), .d (.str []), .d (.int .i64 0), .d (.int .i64 0), .d (.int .i64 0), .d (.int .i64 0)], true, .struct [(0, 3), (1, 9), (2, 3), (3, 27)]⟩

def ti103 : TI := ⟨4, 32, [.d (.int .i64 0), .d (.int .i64 0), .d (.int .i64 0), .d (.int .i64 0)], true, .struct [(0, 3), (1, 3), (2, 3), (3, 3)]⟩

def ti122 : TI := ⟨1, 24, [.nil], false, .slice 42⟩

def ti131 : TI := ⟨1, 24, [.nil], false, .slice 9⟩

def ti168 : TI := ⟨1, 24, [.nil], false, .slice 22⟩

def ti183 : TI := ⟨1, 8, [.d (.int .u64 0)], false, .int .u64⟩

def ti192 : TI := ⟨1, 24, [.nil], false, .slice 37⟩

def ti195 : TI := ⟨1, 8, [.d (.int .u64 0)], false, .int .u64⟩

def ti196 : TI := ⟨1, 24, [.nil], false, .slice 5⟩

def ti207 : TI := ⟨1, 8, [.d (.int .i64 0)], false, .int .i64⟩

def ti232 : TI := ⟨1, 16, [.nili], false, .other⟩

def ti236 : TI := ⟨1, 8, [.d (.int .u64 0)], false, .int .u64⟩

def Γ : Types := [(2, ti2), (3, ti3), (5, ti5), (9, ti9), (21, ti21), (22, ti22), (25, ti25), (27, ti27), (28, ti28), (30, ti30), (32, ti32), (34, ti34), (37, ti37), (42, ti42), (53, ti53), (55, ti55), (88, ti88), (103, ti103), (122, ti122), (131, ti131), (168, ti168), (183, ti183), (192, ti192), (195, ti195), (196, ti196), (207, ti207), (232, ti232), (236, ti236)]

theorem hΓ : TypesOk prog Γ := typesOk_of (by kernel_rfl)

instance : TOk prog Γ := ⟨hΓ⟩

theorem hm : prog.follows .mixedOrders = true := by kernel_rfl

instance : Mixed prog := ⟨hm⟩

/-! ### beaconfleet/fleetmake.Below -/
def z251 (qx : Int) (qn : Int) : Int → St
  | vx => Mem.st ⟨[], []⟩ (tl [(0, .i vx)]) 0

def z250 (qx : Int) (qn : Int) : St := Mem.st ⟨[], []⟩ (tl [(0, .i (qx.tmod qn)), (1, .i qn)]) 0

theorem z252 (qx : Int) (qn : Int) {r} (hF : z249 qx qn = some r) : Awp prog 0 16 (cL (cR (cR (cR (cB f97))))) (Out 0 nrm (z251 qx qn) r) (z250 qx qn) := by
  unfold z249 at hF
  refine sR 2 (cE hF (fun h3 hF => ?_) fun h3 hF => ?_)
  · exact tT h3 (gR 4 (oO hF [] [] rfl))
  · exact tF h3 (awp_skip (oO hF [] [] rfl))

def z247 (qx : Int) (qn : Int) (r : Int) : TV × Mem := (.i r, ⟨[], []⟩)

theorem z248 {qx : Int} {qn : Int} {r} (hF : z246 qx qn = some r) : Holds prog 97 [.i qx, .i qn] ⟨[], []⟩ (Is (z247 qx qn r)) := by
  unfold z246 at hF
  refine hW f97 16 0 0 ?_
  refine sR 1 (awp_seq (sR 2 (cE hF (fun h1 hF => ?_) fun h1 hF => ?_)))
  · exact tT h1 (sR 1 (awp_ret (oF hF [] [])))
  · refine tF h1 (awp_skip (awp_seq (gE hF fun h2 hF => ?_)))
    refine awp_region (aR 2 (aX (x_rem h2) (aR 1 (aE ?_))))
    refine awp_seq (awp_to (st' := z250 qx qn) (oT [] []) ?_)
    refine bE hF fun vx1 h4 hF => awp_sub (z252 qx qn h4) ?_
    exact sR 2 (awp_ret (oF hF [] []))

/-! ### (*beaconfleet/fleetmake.Stream).Next -/
def z312 (qs : z253) (qn : Int) (r : Int) : TV × Mem := (.i r, ⟨[], [(0, [.l (encI .i64) qs.L, .i (IntKind.wrap .i64 (qs.at_ + 1))])]⟩)

theorem z313 {qs : z253} {qn : Int} {r} (hF : z311 qs qn = some r) : Holds prog 39 [.c (.box 0 0), .i qn] ⟨[], [(0, [.l (encI .i64) qs.L, .i qs.at_])]⟩ (Is (z312 qs qn r)) := by
  unfold z311 at hF
  refine hW f39 64 1 1 ?_
  refine sR 1 (sR 8 (awp_seq (awp_seq (awp_region (aR 4 (aL (encI .i64) qs.L (aR 1 (aE ?_))))))))
  refine cE hF (fun h1 hF => ?_) fun h1 hF => ?_
  · refine tT h1 (awp_seq (bE hF fun vr h2 hF => awp_region (aR 6 (aC (z248 h2) [] [] [] (aR 1 (aE ?_))))))
    exact awp_ret (oF hF [] [])
  · refine tF h1 (awp_skip (awp_seq (gE hF fun h3 hF => ?_)))
    refine aD ?_
    refine dR 9 ?_
    refine dL (encI .i64) qs.L ?_
    refine dX (x_rem h3) ?_
    refine dR 1 ?_
    refine dE ?_
    refine awp_seq (aD ?_)
    refine dR 9 ?_
    refine dL (encI .i64) qs.L ?_
    refine dX (x_quo h3) ?_
    refine dR 1 ?_
    refine dE ?_
    refine awp_seq (bE hF fun vy h4 hF => bE hF fun vr1 h5 hF => bE hF fun vr2 h6 hF => awp_region (aR 5 (aX (x_idx (encI .i64) h4) (aR 1 (aC (z248 h5) [] [] [] (aR 6 (aC (z248 h6) [] [] [] (aR 1 (aE ?_)))))))))
    exact awp_ret (oF hF [] [])

/-! ### (*beaconfleet/fleetmake.Stream).Some -/
def z351 (qs : z253) (ql : List (List UInt8)) (r : (List UInt8)) : TV × Mem := (.c (.s r), ⟨[], [(0, [.l (encI .i64) qs.L, .i (IntKind.wrap .i64 (qs.at_ + 1))])]⟩)

theorem z352 {qs : z253} {ql : List (List UInt8)} {r} (hF : z350 qs ql = some r) : Holds prog 24 [.c (.box 0 0), .c (.own 1 none)] ⟨[(1, ⟨9, 1, List.map encS ql⟩)], [(0, [.l (encI .i64) qs.L, .i qs.at_])]⟩ (Is (z351 qs ql r)) := by
  unfold z350 at hF
  refine hW f24 12 2 2 ?_
  refine sR 1 (awp_to (oT (m := ⟨[], [(0, [.l (encI .i64) qs.L, .i qs.at_])]⟩) (ts := [(0, .c (.box 0 0)), (1, .c (.l encS ql))]) (nx := 2) [] []) ?_)
  refine awp_seq (bE hF fun vr3 h1 hF => bE hF fun vy h2 hF => awp_region (aR 3 (aL encS ql (aC (z313 h1) [] [] [] (aX (x_idx encS h2) (aR 2 (aE ?_)))))))
  exact awp_ret (oF hF [] [])

/-! ### (*beaconfleet/fleetmake.Stream).Pick -/
def z318 (qs : z253) (ql : List Int) (r : Int) : TV × Mem := (.i r, ⟨[], [(0, [.l (encI .i64) qs.L, .i (IntKind.wrap .i64 (qs.at_ + 1))])]⟩)

theorem z319 {qs : z253} {ql : List Int} {r} (hF : z317 qs ql = some r) : Holds prog 9 [.c (.box 0 0), .c (.own 1 none)] ⟨[(1, ⟨3, 1, List.map (encI .i64) ql⟩)], [(0, [.l (encI .i64) qs.L, .i qs.at_])]⟩ (Is (z318 qs ql r)) := by
  unfold z317 at hF
  refine hW f9 12 2 2 ?_
  refine sR 1 (awp_to (oT (m := ⟨[], [(0, [.l (encI .i64) qs.L, .i qs.at_])]⟩) (ts := [(0, .c (.box 0 0)), (1, .c (.l (encI .i64) ql))]) (nx := 2) [] []) ?_)
  refine awp_seq (bE hF fun vr3 h1 hF => bE hF fun vy h2 hF => awp_region (aR 3 (aL (encI .i64) ql (aC (z313 h1) [] [] [] (aX (x_idx (encI .i64) h2) (aR 2 (aE ?_)))))))
  exact awp_ret (oF hF [] [])

/-! ### beaconfleet/fleetmake.whole -/
def z361 (qn : Int) (r : Unit) : TV × Mem := (.v (.agg [.i qn, .i 0, .i 0]), ⟨[], []⟩)

theorem z362 {qn : Int} {r} (hF : z360 qn = some r) : Holds prog 56 [.i qn] ⟨[], []⟩ (Is (z361 qn r)) := by
  unfold z360 at hF
  refine hW f56 5 0 0 ?_
  exact sR 1 (sR 3 (awp_ret (oF hF [] [])))

/-! ### (*beaconfleet/fleetmake.Stream).Flip -/
def z273 (qs : z253) (qn : Int) (r : Bool) : TV × Mem := (.b r, ⟨[], [(0, [.l (encI .i64) qs.L, .i (IntKind.wrap .i64 (qs.at_ + 1))])]⟩)

theorem z274 {qs : z253} {qn : Int} {r} (hF : z272 qs qn = some r) : Holds prog 26 [.c (.box 0 0), .i qn] ⟨[], [(0, [.l (encI .i64) qs.L, .i qs.at_])]⟩ (Is (z273 qs qn r)) := by
  unfold z272 at hF
  refine hW f26 9 1 1 ?_
  refine sR 1 (awp_seq (bE hF fun vr3 h1 hF => awp_region (aR 2 (aC (z313 h1) [] [] [] (aR 2 (aE ?_))))))
  exact awp_ret (oF hF [] [])

/-! ### (*beaconfleet/fleetmake.Stream).RightCampaign -/
def z329 : (z253 × (List api_Wave)) → AEx
  | _ => .exit 0

def z328 (vr : List UInt8) (vr1 : Int) (vr2 : Int) (vr3 : Int) (vy : List Int) : (z253 × (List api_Wave)) → St
  | (vs1, vc1) => Mem.st ⟨[(3, ⟨103, 4, List.map api_Wave.enc vc1⟩)], [(0, [.l (encI .i64) vs1.L, .i vs1.at_]), (1, [.s ([] : List UInt8), .i 0, .i 0, .i 0, .i 0, .nil, .i 0, .i 0, .i 0]), (2, [.s vr, .i vr1, .i 0, .i 0, .i vr2, .own 3 none, .i 0, .i 0, .i vr3])]⟩ (tl [(0, .c (.box 0 0)), (2, .c (.box 1 0)), (3, .c (.box 2 0))]) 4

def z327 (vr : List UInt8) (vr1 : Int) (vr2 : Int) (vr3 : Int) (vy : List Int) : z253 × (List api_Wave) × Int → St
  | (vs, vc, vx) => Mem.st ⟨[(3, ⟨103, 4, List.map api_Wave.enc vc⟩)], [(0, [.l (encI .i64) vs.L, .i vs.at_]), (1, [.s ([] : List UInt8), .i 0, .i 0, .i 0, .i 0, .nil, .i 0, .i 0, .i 0]), (2, [.s vr, .i vr1, .i 0, .i 0, .i vr2, .own 3 none, .i 0, .i 0, .i vr3])]⟩ (tl [(0, .c (.box 0 0)), (2, .c (.box 1 0)), (3, .c (.box 2 0)), (30, .c (.l (encI .i64) vy)), (31, .i (vy.length : Int)), (32, .i vx)]) 4

theorem z330 (vr : List UInt8) (vr1 : Int) (vr2 : Int) (vr3 : Int) (vy : List Int) (s : z253 × (List api_Wave) × Int) (r : (z253 × (List api_Wave) × Int) ⊕ ((z253 × (List api_Wave)))) (hF : z326 vy s = some r) : Awp prog 1 64 (cL (cL (cR (cL (cR (cR (cR (cB f53)))))))) (Out 1 (kk z329) (SS (z327 vr vr1 vr2 vr3 vy) (z328 vr vr1 vr2 vr3 vy)) r) (z327 vr vr1 vr2 vr3 vy s) := by
  obtain ⟨vs, vc, vx⟩ := s
  unfold z326 at hF
  refine sR 1 (awp_seq (cE hF (fun h8 hF => ?_) fun h8 hF => ?_))
  · refine tT h8 (awp_skip (awp_seq (awp_block (awp_seq (bE hF fun vy2 h9 hF => awp_region (aX (x_idx (encI .i64) h9) (aR 2 (aE ?_))))))))
    refine bE hF fun vr7 h10 hF => bE hF fun vr8 h11 hF => bE hF fun vr9 h12 hF => gE hF fun h13 hF => ?_
    refine aD ?_
    refine dR 5 ?_
    refine dC (z319 h10) [(1, 8004)] [] [] ?_
    refine dR 2 ?_
    refine dC (z319 h11) [(1, 11004)] [] [] ?_
    refine dR 2 ?_
    refine dC (z319 h12) [(1, 14004)] [] [] ?_
    refine dR 2 ?_
    refine dX (x_app api_Wave.enc 3 h13) ?_
    refine dR 2 ?_
    refine dE ?_
    exact gR 2 (oO hF [(3, 18004)] [] rfl)
  · refine tF h8 (awp_exit ?_)
    exact oO hF [] [] rfl

def z333 (vr : List UInt8) (vr1 : Int) (vr2 : Int) (vr3 : Int) (vs1_1 : z253) (vc1_1 : List api_Wave) : (z253 × Int × Int) → St
  | (vs2, vc2, vc3) => Mem.st ⟨[(3, ⟨103, 4, List.map api_Wave.enc vc1_1⟩)], [(0, [.l (encI .i64) vs2.L, .i vs2.at_]), (1, [.s ([] : List UInt8), .i 0, .i 0, .i 0, .i 0, .nil, .i 0, .i 0, .i 0]), (2, [.s vr, .i vr1, .i 0, .i 0, .i vr2, .own 3 none, .i vc2, .i vc3, .i vr3])]⟩ (tl [(2, .c (.box 1 0)), (3, .c (.box 2 0))]) 4

def z332 (vr : List UInt8) (vr1 : Int) (vr2 : Int) (vr3 : Int) (vs1_1 : z253) (vc1_1 : List api_Wave) : St := Mem.st ⟨[(3, ⟨103, 4, List.map api_Wave.enc vc1_1⟩)], [(0, [.l (encI .i64) vs1_1.L, .i vs1_1.at_]), (1, [.s ([] : List UInt8), .i 0, .i 0, .i 0, .i 0, .nil, .i 0, .i 0, .i 0]), (2, [.s vr, .i vr1, .i 0, .i 0, .i vr2, .own 3 none, .i 0, .i 0, .i vr3])]⟩ (tl [(0, .c (.box 0 0)), (2, .c (.box 1 0)), (3, .c (.box 2 0))]) 4

theorem z334 (vr : List UInt8) (vr1 : Int) (vr2 : Int) (vr3 : Int) (vs1_1 : z253) (vc1_1 : List api_Wave) {r} (hF : z331 vs1_1 = some r) : Awp prog 1 64 (cL (cR (cR (cR (cR (cB f53)))))) (Out 1 nrm (z333 vr vr1 vr2 vr3 vs1_1 vc1_1) r) (z332 vr vr1 vr2 vr3 vs1_1 vc1_1) := by
  unfold z331 at hF
  refine awp_seq (bE hF fun vr10 h15 hF => awp_region (aR 1 (aC (z274 h15) [] [] [] (aE ?_))))
  refine cE hF (fun h16 hF => ?_) fun h16 hF => ?_
  · refine tT h16 (bE hF fun vr11 h17 hF => bE hF fun vr12 h18 hF => awp_region (aR 2 (aC (z319 h17) [(1, 3004)] [] [] (aR 2 (aC (z319 h18) [(1, 6004)] [] [] (aR 3 (aE ?_)))))))
    exact oO hF [] [] rfl
  · exact tF h16 (awp_skip (oO hF [] [] rfl))

def z324 (qs : z253) (r : z253 × (List UInt8) × Int × Int × (List api_Wave) × Int × Int × Int) : TV × Mem := (.v (.agg [.s r.2.1, .i r.2.2.1, .i 0, .i 0, .i r.2.2.2.1, .own 1 none, .i r.2.2.2.2.2.1, .i r.2.2.2.2.2.2.1, .i r.2.2.2.2.2.2.2]), ⟨[(1, ⟨103, 4, List.map api_Wave.enc r.2.2.2.2.1⟩)], [(0, [.l (encI .i64) r.1.L, .i r.1.at_])]⟩)

theorem z325 {qs : z253} {r} (hF : z323 qs = some r) : Holds prog 53 [.c (.box 0 0)] ⟨[], [(0, [.l (encI .i64) qs.L, .i qs.at_])]⟩ (Is (z324 qs r)) := by
  unfold z323 at hF
  refine hW f53 64 1 1 ?_
  refine sR 1 (awp_seq (bE hF fun vr h1 hF => bE hF fun vr1 h2 hF => bE hF fun _ h3 hF => bE hF fun vr2 h4 hF => bE hF fun vr3 h5 hF => awp_region (aR 2 (aC (z352 h1) [(1, 2001)] [] [] (aR 2 (aC (z319 h2) [(1, 5001)] [] [] (aC (z362 h3) [] [] [] (aR 2 ?_))))))))
  refine aC (z319 h4) [(1, 9001)] [] [] (aR 2 (aC (z319 h5) [(1, 12001)] [] [] (aR 3 (aE ?_))))
  refine awp_seq (bE hF fun vr3_1 h6 hF => bE hF fun vy h7 hF => awp_region (aR 4 (aF ⟨[], [(0, [.l (encI .i64) qs.L, .i (IntKind.wrap .i64 ((IntKind.wrap .i64 ((IntKind.wrap .i64 ((IntKind.wrap .i64 (qs.at_ + 1)) + 1)) + 1)) + 1))]), (1, [.s ([] : List UInt8), .i 0, .i 0, .i 0, .i 0, .nil, .i 0, .i 0, .i 0]), (15001, [.s vr, .i vr1, .i 0, .i 0, .i vr2, .nil, .i 0, .i 0, .i vr3])]⟩ [(0, .c (.box 0 0)), (2, .c (.box 1 0)), (3, .c (.box 15001 0)), (21, .c (.l (encI .i64) ([1000] : List Int))), (22, .c (.l (encI .i64) ([500, 500] : List Int))), (23, .c (.l (encI .i64) ([200, 300, 500] : List Int))), (24, .c (.l (encI .i64) ([100, 900] : List Int)))] ?_)))
  refine aR 2 (aC (z313 h6) [] [] [] (aX (x_idxO (encL (encI .i64)) 21001 h7) (aX (x_ldE (encL (encI .i64)) h7) (aR 1 (aE ?_)))))
  refine awp_seq (awp_seq (awp_region (aR 1 (aL (encI .i64) vy (aR 1 (aE ?_))))))
  refine awp_block (awp_to (st' := z327 vr vr1 vr2 vr3 vy (z253.mk qs.L (IntKind.wrap .i64 ((IntKind.wrap .i64 ((IntKind.wrap .i64 ((IntKind.wrap .i64 ((IntKind.wrap .i64 (qs.at_ + 1)) + 1)) + 1)) + 1)) + 1)), [], 0)) (oT [(2, 15001)] [3]) ?_)
  refine bE hF fun x h14 hF => ?_
  obtain ⟨vs1_1, vc1_1⟩ := x
  refine awp_sub (awp_loop' (z327 vr vr1 vr2 vr3 vy) z329 (z328 vr vr1 vr2 vr3 vy) (by intro x; exact fun h => nomatch h) h14 (z330 vr vr1 vr2 vr3 vy)) ?_
  refine awp_seq (awp_to (st' := z332 vr vr1 vr2 vr3 vs1_1 vc1_1) (oT [] []) ?_)
  refine bE hF fun x h19 hF => ?_
  obtain ⟨vs2_1, vc2_1, vc3_1⟩ := x
  refine awp_sub (z334 vr vr1 vr2 vr3 vs1_1 vc1_1 h19) ?_
  exact sR 2 (awp_ret (oF hF [(1, 3)] []))

/-! ### (*beaconfleet/fleetmake.Stream).Range -/
def z321 (qs : z253) (qlow : Int) (qhigh : Int) (r : z253 × Int) : TV × Mem := (.i r.2, ⟨[], [(0, [.l (encI .i64) r.1.L, .i r.1.at_])]⟩)

theorem z322 {qs : z253} {qlow : Int} {qhigh : Int} {r} (hF : z320 qs qlow qhigh = some r) : Holds prog 11 [.c (.box 0 0), .i qlow, .i qhigh] ⟨[], [(0, [.l (encI .i64) qs.L, .i qs.at_])]⟩ (Is (z321 qs qlow qhigh r)) := by
  unfold z320 at hF
  refine hW f11 19 1 1 ?_
  refine sR 1 (awp_seq (sR 3 (cE hF (fun h1 hF => ?_) fun h1 hF => ?_)))
  · exact tT h1 (sR 2 (awp_ret (oF hF [] [])))
  · refine tF h1 (awp_skip (awp_seq (bE hF fun vr3 h2 hF => awp_region (aR 6 (aC (z313 h2) [] [] [] (aR 2 (aE ?_)))))))
    exact awp_ret (oF hF [] [])

/-! ### (*beaconfleet/fleetmake.Stream).RightVersion -/
def z348 (qs : z253) (r : z253 × api_Version) : TV × Mem := (.v (.agg [.i r.2.Major, .i r.2.Minor, .i r.2.Patch]), ⟨[], [(0, [.l (encI .i64) r.1.L, .i r.1.at_])]⟩)

theorem z349 {qs : z253} {r} (hF : z347 qs = some r) : Holds prog 75 [.c (.box 0 0)] ⟨[], [(0, [.l (encI .i64) qs.L, .i qs.at_])]⟩ (Is (z348 qs r)) := by
  unfold z347 at hF
  refine hW f75 12 1 1 ?_
  refine sR 1 (awp_seq (bE hF fun x h1 hF => ?_))
  obtain ⟨vs, vr⟩ := x
  refine bE hF fun vr1 h2 hF => bE hF fun vr2 h3 hF => awp_region (aR 1 (aC (z322 h1) [] [] [] (aR 2 (aC (z319 h2) [(1, 4001)] [] [] (aR 2 (aC (z319 h3) [(1, 7001)] [] [] (aR 2 (aE ?_))))))))
  exact awp_ret (oF hF [] [])

/-! ### (*beaconfleet/fleetmake.Stream).Odd -/
def z315 (qs : z253) (qlow : Int) (qhigh : Int) (r : z253 × Int) : TV × Mem := (.i r.2, ⟨[], [(0, [.l (encI .i64) r.1.L, .i r.1.at_])]⟩)

theorem z316 {qs : z253} {qlow : Int} {qhigh : Int} {r} (hF : z314 qs qlow qhigh = some r) : Holds prog 54 [.c (.box 0 0), .i qlow, .i qhigh] ⟨[], [(0, [.l (encI .i64) qs.L, .i qs.at_])]⟩ (Is (z315 qs qlow qhigh r)) := by
  unfold z314 at hF
  refine hW f54 22 1 1 ?_
  refine sR 1 (awp_seq (awp_seq (bE hF fun vr h1 hF => awp_region (aR 1 (aC (z274 h1) [] [] [] (aE ?_))))))
  refine cE hF (fun h2 hF => ?_) fun h2 hF => ?_
  · refine tT h2 (awp_seq (bE hF fun vr1 h3 hF => awp_region (aR 8 (aC (z319 h3) [(1, 10001)] [] [] (aR 1 (aE ?_))))))
    exact awp_ret (oF hF [] [])
  · refine tF h2 (awp_skip (awp_seq (bE hF fun x h4 hF => ?_)))
    obtain ⟨vs, vr2⟩ := x
    refine awp_region (aR 3 (aC (z322 h4) [] [] [] (aR 1 (aE ?_))))
    exact awp_ret (oF hF [] [])

/-! ### (*beaconfleet/fleetmake.Stream).Version -/
def z358 (vs1 : z253) (vr3 : api_Version) : (z253 × api_Version) → St
  | (vs, vv) => Mem.st ⟨[], [(0, [.l (encI .i64) vs.L, .i vs.at_]), (1, [.i 0, .i 0, .i 0]), (2, [.i vv.Major, .i vv.Minor, .i vv.Patch])]⟩ (tl [(2, .c (.box 1 0)), (3, .c (.box 2 0))]) 3

def z357 (vs1 : z253) (vr3 : api_Version) : St := Mem.st ⟨[], [(0, [.l (encI .i64) vs1.L, .i vs1.at_]), (1, [.i 0, .i 0, .i 0]), (2, [.i vr3.Major, .i vr3.Minor, .i vr3.Patch])]⟩ (tl [(0, .c (.box 0 0)), (2, .c (.box 1 0)), (3, .c (.box 2 0))]) 3

theorem z359 (vs1 : z253) (vr3 : api_Version) {r} (hF : z356 vs1 vr3 = some r) : Awp prog 1 15 (cL (cR (cR (cB f25)))) (Out 1 nrm (z358 vs1 vr3) r) (z357 vs1 vr3) := by
  unfold z356 at hF
  refine awp_seq (bE hF fun vr h2 hF => awp_region (aR 1 (aC (z274 h2) [] [] [] (aE ?_))))
  refine cE hF (fun h3 hF => ?_) fun h3 hF => ?_
  · refine tT h3 (awp_seq (bE hF fun x h4 hF => ?_))
    obtain ⟨vs1_1, vr3_1⟩ := x
    refine awp_region (aR 1 (aC (z316 h4) [] [] [] (aR 2 (aE ?_))))
    refine bE hF fun x h5 hF => ?_
    obtain ⟨vs1_2, vr3_2⟩ := x
    refine awp_region (aR 1 (aC (z316 h5) [] [] [] (aR 2 (aE ?_))))
    exact oO hF [] [] rfl
  · exact tF h3 (awp_skip (oO hF [] [] rfl))

def z354 (qs : z253) (r : z253 × api_Version) : TV × Mem := (.v (.agg [.i r.2.Major, .i r.2.Minor, .i r.2.Patch]), ⟨[], [(0, [.l (encI .i64) r.1.L, .i r.1.at_])]⟩)

theorem z355 {qs : z253} {r} (hF : z353 qs = some r) : Holds prog 25 [.c (.box 0 0)] ⟨[], [(0, [.l (encI .i64) qs.L, .i qs.at_])]⟩ (Is (z354 qs r)) := by
  unfold z353 at hF
  refine hW f25 15 1 1 ?_
  refine sR 1 (awp_seq (bE hF fun x h1 hF => ?_))
  obtain ⟨vs1, vr3⟩ := x
  refine awp_region (aR 1 (aC (z349 h1) [] [] [] (aR 2 (aE ?_))))
  refine awp_seq (awp_to (st' := z357 vs1 vr3) (oT [(2, 3001)] []) ?_)
  refine bE hF fun x h6 hF => ?_
  obtain ⟨vs2, vv1⟩ := x
  refine awp_sub (z359 vs1 vr3 h6) ?_
  exact sR 2 (awp_ret (oF hF [] []))

/-! ### (*beaconfleet/fleetmake.Stream).Campaign -/
def z259 (vs3 : z253) (vr13 : List UInt8) (vr14 : Int) (vr15 : Int) (vr16 : List api_Wave) (vr17 : Int) (vr18 : Int) (vr19 : Int) : (z253 × (List UInt8) × Int × Int × Int × Int × (List api_Wave) × Int × Int × Int) → St
  | (vs, vc, vc1, vc2, vc3, vc4, vc5, vc6, vc7, vc8) => Mem.st ⟨[(3, ⟨103, 4, List.map api_Wave.enc vc5⟩)], [(0, [.l (encI .i64) vs.L, .i vs.at_]), (1, [.s ([] : List UInt8), .i 0, .i 0, .i 0, .i 0, .nil, .i 0, .i 0, .i 0]), (2, [.s vc, .i vc1, .i vc2, .i vc3, .i vc4, .own 3 none, .i vc6, .i vc7, .i vc8])]⟩ (tl [(2, .c (.box 1 0)), (3, .c (.box 2 0))]) 4

def z258 (vs3 : z253) (vr13 : List UInt8) (vr14 : Int) (vr15 : Int) (vr16 : List api_Wave) (vr17 : Int) (vr18 : Int) (vr19 : Int) : St := Mem.st ⟨[(3, ⟨103, 4, List.map api_Wave.enc vr16⟩)], [(0, [.l (encI .i64) vs3.L, .i vs3.at_]), (1, [.s ([] : List UInt8), .i 0, .i 0, .i 0, .i 0, .nil, .i 0, .i 0, .i 0]), (2, [.s vr13, .i vr14, .i 0, .i 0, .i vr15, .own 3 none, .i vr17, .i vr18, .i vr19])]⟩ (tl [(0, .c (.box 0 0)), (2, .c (.box 1 0)), (3, .c (.box 2 0))]) 4

theorem z260 (vs3 : z253) (vr13 : List UInt8) (vr14 : Int) (vr15 : Int) (vr16 : List api_Wave) (vr17 : Int) (vr18 : Int) (vr19 : Int) {r} (hF : z257 vs3 vr13 vr14 vr15 vr16 vr17 vr18 vr19 = some r) : Awp prog 1 54 (cL (cR (cR (cB f7)))) (Out 1 nrm (z259 vs3 vr13 vr14 vr15 vr16 vr17 vr18 vr19) r) (z258 vs3 vr13 vr14 vr15 vr16 vr17 vr18 vr19) := by
  unfold z257 at hF
  refine awp_seq (bE hF fun vr h2 hF => awp_region (aR 1 (aC (z274 h2) [] [] [] (aE ?_))))
  refine cE hF (fun h3 hF => ?_) fun h3 hF => ?_
  · refine tT h3 (awp_seq (bE hF fun vr3 h4 hF => awp_region (aR 1 (aC (z313 h4) [] [] [] (aE ?_)))))
    refine awp_block (sR 2 (cE hF (fun h5 hF => ?_) fun h5 hF => ?_))
    · refine tT h5 (bE hF fun vr1 h6 hF => awp_region (aR 2 (aC (z352 h6) [(1, 7004)] [] [] (aR 2 (aE ?_)))))
      exact oO hF [] [] rfl
    · refine tF h5 (sR 2 (cE hF (fun h7 hF => ?_) fun h7 hF => ?_))
      · refine tT h7 (bE hF fun x h8 hF => ?_)
        obtain ⟨vs3_1, vr1_1⟩ := x
        refine awp_region (aR 1 (aC (z355 h8) [] [] [] (aR 2 (aE ?_))))
        exact oO hF [] [] rfl
      · refine tF h7 (sR 2 (cE hF (fun h9 hF => ?_) fun h9 hF => ?_))
        · refine tT h9 (bE hF fun x h10 hF => ?_)
          obtain ⟨vs1, vr3_1⟩ := x
          refine awp_region (aR 1 (aC (z316 h10) [] [] [] (aR 2 (aE ?_))))
          exact oO hF [] [] rfl
        · refine tF h9 (sR 2 (cE hF (fun h11 hF => ?_) fun h11 hF => ?_))
          · refine tT h11 (bE hF fun x h12 hF => ?_)
            obtain ⟨vs1_1, vr3_2⟩ := x
            refine bE hF fun x h13 hF => ?_
            obtain ⟨vs1_2, vr3_3⟩ := x
            refine bE hF fun x h14 hF => ?_
            obtain ⟨vs1_3, vr3_4⟩ := x
            refine bE hF fun x h15 hF => ?_
            obtain ⟨vs1_4, vr3_5⟩ := x
            refine gE hF fun h16 hF => ?_
            refine aD ?_
            refine dR 3 ?_
            refine dC (z316 h12) [] [] [] ?_
            refine dR 1 ?_
            refine dC (z316 h13) [] [] [] ?_
            refine dR 1 ?_
            refine dC (z316 h14) [] [] [] ?_
            refine dR 1 ?_
            refine dC (z316 h15) [] [] [] ?_
            refine dR 2 ?_
            refine dX (x_app api_Wave.enc 3 h16) ?_
            refine dR 2 ?_
            refine dE ?_
            exact oO hF [(3, 24004)] [] rfl
          · refine tF h11 (sR 2 (cE hF (fun h17 hF => ?_) fun h17 hF => ?_))
            · refine tT h17 (bE hF fun x h18 hF => ?_)
              obtain ⟨vs1_5, vr3_6⟩ := x
              refine bE hF fun x h19 hF => ?_
              obtain ⟨vs1_6, vr3_7⟩ := x
              refine awp_region (aR 1 (aC (z316 h18) [] [] [] (aR 1 (aC (z316 h19) [] [] [] (aR 3 (aE ?_))))))
              exact oO hF [] [] rfl
            · refine tF h17 (bE hF fun x h20 hF => ?_)
              obtain ⟨vs1_7, vr3_8⟩ := x
              refine awp_region (aR 1 (aC (z316 h20) [] [] [] (aR 2 (aE ?_))))
              exact oO hF [] [] rfl
  · exact tF h3 (awp_skip (oO hF [] [] rfl))

def z255 (qs : z253) (r : z253 × (List UInt8) × Int × Int × Int × Int × (List api_Wave) × Int × Int × Int) : TV × Mem := (.v (.agg [.s r.2.1, .i r.2.2.1, .i r.2.2.2.1, .i r.2.2.2.2.1, .i r.2.2.2.2.2.1, .own 1 none, .i r.2.2.2.2.2.2.2.1, .i r.2.2.2.2.2.2.2.2.1, .i r.2.2.2.2.2.2.2.2.2]), ⟨[(1, ⟨103, 4, List.map api_Wave.enc r.2.2.2.2.2.2.1⟩)], [(0, [.l (encI .i64) r.1.L, .i r.1.at_])]⟩)

theorem z256 {qs : z253} {r} (hF : z254 qs = some r) : Holds prog 7 [.c (.box 0 0)] ⟨[], [(0, [.l (encI .i64) qs.L, .i qs.at_])]⟩ (Is (z255 qs r)) := by
  unfold z254 at hF
  refine hW f7 54 1 1 ?_
  refine sR 1 (awp_seq (bE hF fun x h1 hF => ?_))
  obtain ⟨vs3, vr13, vr14, vr15, vr16, vr17, vr18, vr19⟩ := x
  refine awp_region (aR 1 (aC (z325 h1) [] [] [] (aR 2 (aE ?_))))
  refine awp_seq (awp_to (st' := z258 vs3 vr13 vr14 vr15 vr16 vr17 vr18 vr19) (oT [(2, 3001), (3, 2002)] []) ?_)
  refine bE hF fun x h21 hF => ?_
  obtain ⟨vs2, vc9, vc1_1, vc2_1, vc3_1, vc4_1, vc5_1, vc6_1, vc7_1, vc8_1⟩ := x
  refine awp_sub (z260 vs3 vr13 vr14 vr15 vr16 vr17 vr18 vr19 h21) ?_
  exact sR 2 (awp_ret (oF hF [(1, 3)] []))

/-! ### (*beaconfleet/fleetmake.Stream).RightFleet -/
def z345 (qmost : Int) (vs : z253) (vout : List api_Device) (vx : Int) : (z253 × (List api_Device)) → St
  | (vs2, vout2) => Mem.st ⟨[(1, ⟨55, 7, List.map api_Device.enc vout2⟩)], [(0, [.l (encI .i64) vs2.L, .i vs2.at_])]⟩ (tl [(0, .c (.box 0 0)), (5, .c (.own 1 none)), (10, .c (.l encS (([([100, 49] : List UInt8), ([100, 50] : List UInt8), ([100, 51] : List UInt8), ([100, 52] : List UInt8), ([100, 53] : List UInt8), ([100, 54] : List UInt8)] : List (List UInt8)).take qmost.toNat))), (11, .i ((([([100, 49] : List UInt8), ([100, 50] : List UInt8), ([100, 51] : List UInt8), ([100, 52] : List UInt8), ([100, 53] : List UInt8), ([100, 54] : List UInt8)] : List (List UInt8)).take qmost.toNat).length : Int)), (12, .i vx)]) 2

def z344 (qmost : Int) (vs : z253) (vout : List api_Device) (vx : Int) : St := Mem.st ⟨[(1, ⟨55, 7, List.map api_Device.enc vout⟩)], [(0, [.l (encI .i64) vs.L, .i vs.at_])]⟩ (tl [(0, .c (.box 0 0)), (5, .c (.own 1 none)), (10, .c (.l encS (([([100, 49] : List UInt8), ([100, 50] : List UInt8), ([100, 51] : List UInt8), ([100, 52] : List UInt8), ([100, 53] : List UInt8), ([100, 54] : List UInt8)] : List (List UInt8)).take qmost.toNat))), (11, .i ((([([100, 49] : List UInt8), ([100, 50] : List UInt8), ([100, 51] : List UInt8), ([100, 52] : List UInt8), ([100, 53] : List UInt8), ([100, 54] : List UInt8)] : List (List UInt8)).take qmost.toNat).length : Int)), (12, .i vx)]) 2

theorem z346 (qmost : Int) (vs : z253) (vout : List api_Device) (vx : Int) {r} (hF : z343 qmost vs vout vx = some r) : Awp prog 1 36 (cL (cR (cR (cL (cL (cR (cL (cR (cR (cB f55)))))))))) (Out 1 nrm (z345 qmost vs vout vx) r) (z344 qmost vs vout vx) := by
  unfold z343 at hF
  refine awp_block (awp_seq (bE hF fun vy1 h3 hF => awp_region (aX (x_idx encS h3) (aR 2 (aE ?_)))))
  refine awp_seq (bE hF fun vr4 h4 hF => awp_region (aR 1 (aC (z274 h4) [] [] [] (aR 1 (aE ?_)))))
  refine cE hF (fun h5 hF => ?_) fun h5 hF => ?_
  · refine tT h5 (bE hF fun vr5 h6 hF => bE hF fun vr6 h7 hF => bE hF fun vr7 h8 hF => gE hF fun h9 hF => ?_)
    refine awp_region (aR 4 (aC (z352 h6) [(1, 9002)] [] [] (aR 2 (aC (z319 h7) [(1, 12002)] [] [] (aR 2 (aC (z319 h8) [(1, 15002)] [] [] (aR 3 (aX (x_app api_Device.enc 1 h9) (aR 1 (aE ?_))))))))))
    exact oO hF [(1, 20002)] [] rfl
  · exact tF h5 (awp_skip (oO hF [] [] rfl))

def z341 : (z253 × (List api_Device)) → AEx
  | _ => .exit 0

def z340 (qmost : Int) : (z253 × (List api_Device)) → St
  | (vs3, vout3) => Mem.st ⟨[(1, ⟨55, 7, List.map api_Device.enc vout3⟩)], [(0, [.l (encI .i64) vs3.L, .i vs3.at_])]⟩ (tl [(5, .c (.own 1 none))]) 2

def z339 (qmost : Int) : z253 × (List api_Device) × Int → St
  | (vs, vout, vx) => Mem.st ⟨[(1, ⟨55, 7, List.map api_Device.enc vout⟩)], [(0, [.l (encI .i64) vs.L, .i vs.at_])]⟩ (tl [(0, .c (.box 0 0)), (5, .c (.own 1 none)), (10, .c (.l encS (([([100, 49] : List UInt8), ([100, 50] : List UInt8), ([100, 51] : List UInt8), ([100, 52] : List UInt8), ([100, 53] : List UInt8), ([100, 54] : List UInt8)] : List (List UInt8)).take qmost.toNat))), (11, .i ((([([100, 49] : List UInt8), ([100, 50] : List UInt8), ([100, 51] : List UInt8), ([100, 52] : List UInt8), ([100, 53] : List UInt8), ([100, 54] : List UInt8)] : List (List UInt8)).take qmost.toNat).length : Int)), (12, .i vx)]) 2

theorem z342 (qmost : Int) (s : z253 × (List api_Device) × Int) (r : (z253 × (List api_Device) × Int) ⊕ ((z253 × (List api_Device)))) (hF : z338 qmost s = some r) : Awp prog 1 36 (cL (cL (cR (cL (cR (cR (cB f55))))))) (Out 1 (kk z341) (SS (z339 qmost) (z340 qmost)) r) (z339 qmost s) := by
  obtain ⟨vs, vout, vx⟩ := s
  unfold z338 at hF
  refine sR 1 (awp_seq (cE hF (fun h2 hF => ?_) fun h2 hF => ?_))
  · refine tT h2 (awp_skip (awp_seq (awp_to (st' := z344 qmost vs vout vx) (oT [] []) ?_)))
    refine bE hF fun x h10 hF => ?_
    obtain ⟨vs2_1, vout2_1⟩ := x
    refine awp_sub (z346 qmost vs vout vx h10) ?_
    exact gR 2 (oO hF [] [] rfl)
  · refine tF h2 (awp_exit ?_)
    exact oO hF [] [] rfl

def z336 (qs : z253) (qmost : Int) (r : z253 × (List api_Device)) : TV × Mem := (.c (.own 1 none), ⟨[(1, ⟨55, 7, List.map api_Device.enc r.2⟩)], [(0, [.l (encI .i64) r.1.L, .i r.1.at_])]⟩)

theorem z337 {qs : z253} {qmost : Int} {r} (hF : z335 qs qmost = some r) : Holds prog 55 [.c (.box 0 0), .i qmost] ⟨[], [(0, [.l (encI .i64) qs.L, .i qs.at_])]⟩ (Is (z336 qs qmost r)) := by
  unfold z335 at hF
  refine hW f55 36 1 1 ?_
  refine sR 1 (sR 1 (awp_seq (awp_seq (gE hF fun h1 hF => ?_))))
  refine awp_region (aR 2 (aT encS 2001 h1 rfl ?_))
  refine aL encS (([([100, 49] : List UInt8), ([100, 50] : List UInt8), ([100, 51] : List UInt8), ([100, 52] : List UInt8), ([100, 53] : List UInt8), ([100, 54] : List UInt8)] : List (List UInt8)).take qmost.toNat) (aR 1 (aE ?_))
  refine awp_to (oT (m := ⟨[], [(0, [.l (encI .i64) qs.L, .i qs.at_])]⟩) (ts := [(0, .c (.box 0 0)), (5, .c (.nil)), (10, .c (.l encS (([([100, 49] : List UInt8), ([100, 50] : List UInt8), ([100, 51] : List UInt8), ([100, 52] : List UInt8), ([100, 53] : List UInt8), ([100, 54] : List UInt8)] : List (List UInt8)).take qmost.toNat))), (11, .i ((([([100, 49] : List UInt8), ([100, 50] : List UInt8), ([100, 51] : List UInt8), ([100, 52] : List UInt8), ([100, 53] : List UInt8), ([100, 54] : List UInt8)] : List (List UInt8)).take qmost.toNat).length : Int)), (12, .i 0)]) (nx := 1) [] []) ?_
  refine awp_block (awp_to (st' := z339 qmost (qs, [], 0)) (oT [] [1]) ?_)
  refine bE hF fun x h11 hF => ?_
  obtain ⟨vs3_1, vout3_1⟩ := x
  refine awp_sub (awp_loop' (z339 qmost) z341 (z340 qmost) (by intro x; exact fun h => nomatch h) h11 (z342 qmost)) ?_
  exact sR 2 (awp_ret (oF hF [] []))

/-! ### (*beaconfleet/fleetmake.Stream).Fleet -/
def z270 (vs4 : z253) (vr8 : List api_Device) : (z253 × Bool) → St
  | (vs, vx) => Mem.st ⟨[(1, ⟨55, 7, List.map api_Device.enc vr8⟩)], [(0, [.l (encI .i64) vs.L, .i vs.at_])]⟩ (tl [(0, .c (.box 0 0)), (5, .c (.own 1 none)), (16, .b vx)]) 2

def z269 (vs4 : z253) (vr8 : List api_Device) : St := Mem.st ⟨[(1, ⟨55, 7, List.map api_Device.enc vr8⟩)], [(0, [.l (encI .i64) vs4.L, .i vs4.at_])]⟩ (tl [(0, .c (.box 0 0)), (5, .c (.own 1 none))]) 2

theorem z271 (vs4 : z253) (vr8 : List api_Device) {r} (hF : z268 vs4 vr8 = some r) : Awp prog 1 45 (cL (cL (cR (cR (cB f8))))) (Out 1 nrm (z270 vs4 vr8) r) (z269 vs4 vr8) := by
  unfold z268 at hF
  refine cE hF (fun h2 hF => ?_) fun h2 hF => ?_
  · refine bE hF fun vr h3 hF => awp_region (aR 1 (aL api_Device.enc vr8 (aB h2 (aR 2 (aC (z274 h3) [] [] [] (aR 1 (aE ?_)))))))
    exact oO hF [] [] rfl
  · refine awp_region (aR 1 (aL api_Device.enc vr8 (aB h2 (aR 4 (aE ?_)))))
    exact oO hF [] [] rfl

def z266 (vs4 : z253) (vr8 : List api_Device) : (z253 × (List api_Device)) → St
  | (vs2, vout) => Mem.st ⟨[(1, ⟨55, 7, List.map api_Device.enc vout⟩)], [(0, [.l (encI .i64) vs2.L, .i vs2.at_])]⟩ (tl [(5, .c (.own 1 none))]) 2

def z265 (vs4 : z253) (vr8 : List api_Device) : St := Mem.st ⟨[(1, ⟨55, 7, List.map api_Device.enc vr8⟩)], [(0, [.l (encI .i64) vs4.L, .i vs4.at_])]⟩ (tl [(0, .c (.box 0 0)), (5, .c (.own 1 none))]) 2

theorem z267 (vs4 : z253) (vr8 : List api_Device) {r} (hF : z264 vs4 vr8 = some r) : Awp prog 1 45 (cL (cR (cR (cB f8)))) (Out 1 nrm (z266 vs4 vr8) r) (z265 vs4 vr8) := by
  unfold z264 at hF
  refine awp_seq (awp_to (st' := z269 vs4 vr8) (oT [] []) ?_)
  refine bE hF fun x h4 hF => ?_
  obtain ⟨vs1, vx1⟩ := x
  refine awp_sub (z271 vs4 vr8 h4) ?_
  refine cE hF (fun h5 hF => ?_) fun h5 hF => ?_
  · refine tT h5 (awp_seq (bE hF fun vr3 h6 hF => bE hF fun vy h7 hF => awp_region (aR 3 (aL api_Device.enc vr8 (aC (z313 h6) [] [] [] (aX (x_idxO api_Device.enc 1 h7) (aR 1 (aE ?_))))))))
    refine bE hF fun vr1 h8 hF => bE hF fun vr2 h9 hF => bE hF fun x h10 hF => ?_
    obtain ⟨vs3, vr1_1⟩ := x
    refine awp_region (aR 7 (aX (x_ldE api_Device.enc h7) (aR 1 (aC (z352 h8) [(1, 15002)] [] [] (aR 2 (aC (z352 h9) [(1, 18002)] [] [] (aR 1 (aC (z355 h10) [] [] [] (aR 2 (aX (x_stE api_Device.enc (api_Device.mk vr1 vy.Model vy.Tenant (api_Version.mk vy.Firmware.Major vy.Firmware.Minor vy.Firmware.Patch) vy.Tags) h7) (aR 2 (aX (x_stE api_Device.enc (api_Device.mk vr1 vr2 vy.Tenant (api_Version.mk vy.Firmware.Major vy.Firmware.Minor vy.Firmware.Patch) vy.Tags) (at_set (z := (api_Device.mk vr1 vy.Model vy.Tenant (api_Version.mk vy.Firmware.Major vy.Firmware.Minor vy.Firmware.Patch) vy.Tags)) h7)) (aR 2 ?_)))))))))))))
    refine aX (x_stE api_Device.enc (api_Device.mk vr1 vr2 vy.Tenant vr1_1 vy.Tags) (at_set (z := (api_Device.mk vr1 vr2 vy.Tenant (api_Version.mk vy.Firmware.Major vy.Firmware.Minor vy.Firmware.Patch) vy.Tags)) (at_set (z := (api_Device.mk vr1 vy.Model vy.Tenant (api_Version.mk vy.Firmware.Major vy.Firmware.Minor vy.Firmware.Patch) vy.Tags)) h7))) (aE ?_)
    exact oO hF [] [] rfl
  · exact tF h5 (awp_skip (oO hF [] [] rfl))

def z262 (qs : z253) (qmost : Int) (r : z253 × (List api_Device)) : TV × Mem := (.c (.own 1 none), ⟨[(1, ⟨55, 7, List.map api_Device.enc r.2⟩)], [(0, [.l (encI .i64) r.1.L, .i r.1.at_])]⟩)

theorem z263 {qs : z253} {qmost : Int} {r} (hF : z261 qs qmost = some r) : Holds prog 8 [.c (.box 0 0), .i qmost] ⟨[], [(0, [.l (encI .i64) qs.L, .i qs.at_])]⟩ (Is (z262 qs qmost r)) := by
  unfold z261 at hF
  refine hW f8 45 1 1 ?_
  refine sR 1 (awp_seq (bE hF fun x h1 hF => ?_))
  obtain ⟨vs4, vr8⟩ := x
  refine awp_region (aR 2 (aC (z337 h1) [] [] [] (aR 1 (aE ?_))))
  refine awp_seq (awp_to (st' := z265 vs4 vr8) (oT [(1, 3002)] []) ?_)
  refine bE hF fun x h11 hF => ?_
  obtain ⟨vs2_1, vout1⟩ := x
  refine awp_sub (z267 vs4 vr8 h11) ?_
  exact sR 2 (awp_ret (oF hF [] []))

/-! ### beaconfleet/fleetref2.sign -/
def z460 (qn : Int) (r : Int) : TV × Mem := (.i r, ⟨[], []⟩)

theorem z461 {qn : Int} {r} (hF : z459 qn = some r) : Holds prog 120 [.i qn] ⟨[], []⟩ (Is (z460 qn r)) := by
  unfold z459 at hF
  refine hW f120 9 0 0 ?_
  refine sR 1 (awp_seq (awp_block (sR 3 (cE hF (fun h1 hF => ?_) fun h1 hF => ?_))))
  · exact tT h1 (sR 1 (awp_ret (oF hF [] [])))
  · refine tF h1 (sR 3 (cE hF (fun h2 hF => ?_) fun h2 hF => ?_))
    · exact tT h2 (sR 1 (awp_ret (oF hF [] [])))
    · exact tF h2 (awp_skip (sR 1 (awp_ret (oF hF [] []))))

/-! ### internal/bytealg.CompareString -/
def z101 (qa : List UInt8) (qb : List UInt8) (r : Unit) : TV × Mem := (.i (Lib.compareBytes qa qb), ⟨[], []⟩)

theorem z102 {qa : List UInt8} {qb : List UInt8} {r} (hF : z100 qa qb = some r) : Holds prog 153 [.c (.s qa), .c (.s qb)] ⟨[], []⟩ (Is (z101 qa qb r)) := by
  unfold z100 at hF
  refine hW f153 8 0 0 ?_
  refine sR 1 (awp_seq (awp_region (aR 2 (aS (does_cmpstring (g := 192) (fn := f192) (a := qa) (b := qb) rfl (by kernel_rfl) (by kernel_rfl) (by kernel_rfl) (by kernel_rfl) (by kernel_rfl) (by kernel_rfl)) ?_))))
  refine aR 1 (aE ?_)
  exact awp_ret (oF hF [] [])

/-! ### strings.Compare -/
def z931 (qa : List UInt8) (qb : List UInt8) (r : Unit) : TV × Mem := (.i (Lib.compareBytes qa qb), ⟨[], []⟩)

theorem z932 {qa : List UInt8} {qb : List UInt8} {r} (hF : z930 qa qb = some r) : Holds prog 121 [.c (.s qa), .c (.s qb)] ⟨[], []⟩ (Is (z931 qa qb r)) := by
  unfold z930 at hF
  refine hW f121 8 0 0 ?_
  refine sR 1 (awp_seq (bE hF fun _ h1 hF => awp_region (aR 2 (aC (z102 h1) [] [] [] (aR 1 (aE ?_))))))
  exact awp_ret (oF hF [] [])

/-! ### beaconfleet/fleetref2.MarkOrder -/
def z399 (qa : api_Mark) (qb : api_Mark) (r : Int) : TV × Mem := (.i r, ⟨[], []⟩)

theorem z400 {qa : api_Mark} {qb : api_Mark} {r} (hF : z398 qa qb = some r) : Holds prog 58 [.v (.agg [.i qa.At, .s qa.Device, .i qa.Kind, .i qa.Version.Major, .i qa.Version.Minor, .i qa.Version.Patch]), .v (.agg [.i qb.At, .s qb.Device, .i qb.Kind, .i qb.Version.Major, .i qb.Version.Minor, .i qb.Version.Patch])] ⟨[], []⟩ (Is (z399 qa qb r)) := by
  unfold z398 at hF
  refine hW f58 21 0 0 ?_
  refine sR 3 (awp_seq (sR 5 (cE hF (fun h1 hF => ?_) fun h1 hF => ?_)))
  · refine tT h1 (awp_seq (bE hF fun vr h2 hF => awp_region (aR 5 (aC (z461 h2) [] [] [] (aR 1 (aE ?_))))))
    exact awp_ret (oF hF [] [])
  · refine tF h1 (awp_skip (awp_seq (bE hF fun _ h3 hF => awp_region (aR 4 (aC (z932 h3) [] [] [] (aR 1 (aE ?_)))))))
    exact awp_ret (oF hF [] [])

/-! ### slices.insertionSortCmpFunc[beaconfleet/api.Mark] -/
def z595 (qa : Int) (qb : Int) (vi : Int) (vl3 : List api_Mark) (vj1 : Int) : Bool → St
  | vx4 => Mem.st ⟨[(0, ⟨88, 6, List.map api_Mark.enc vl3⟩)], []⟩ (tl [(0, .c (.own 0 none)), (1, .i qa), (2, .i qb), (3, .c (.fn 58 [])), (8, .i vi), (9, .i vj1), (34, .b vx4)]) 1

def z594 (qa : Int) (qb : Int) (vi : Int) (vl3 : List api_Mark) (vj1 : Int) : St := Mem.st ⟨[(0, ⟨88, 6, List.map api_Mark.enc vl3⟩)], []⟩ (tl [(0, .c (.own 0 none)), (1, .i qa), (2, .i qb), (3, .c (.fn 58 [])), (8, .i vi), (9, .i vj1)]) 1

theorem z596 (qa : Int) (qb : Int) (vi : Int) (vl3 : List api_Mark) (vj1 : Int) {r} (hF : z593 qa vl3 vj1 = some r) : Awp prog 1 53 (cL (cL (cL (cL (cR (cL (cL (cR (cL (cL (cR (cB f151)))))))))))) (Out 1 nrm (z595 qa qb vi vl3 vj1) r) (z594 qa qb vi vl3 vj1) := by
  unfold z593 at hF
  refine cE hF (fun h2 hF => ?_) fun h2 hF => ?_
  · refine bE hF fun vy15 h3 hF => bE hF fun vy16 h4 hF => bE hF fun vr1_3 h5 hF => aD ?_
    refine dR 2 ?_
    refine dB h2 ?_
    refine dR 4 ?_
    refine dX (x_idxO api_Mark.enc 0 h3) ?_
    refine dX (x_ldE api_Mark.enc h3) ?_
    refine dR 3 ?_
    refine dX (x_idxO api_Mark.enc 0 h4) ?_
    refine dX (x_ldE api_Mark.enc h4) ?_
    refine dC (z400 h5) [] [] [] ?_
    refine dR 2 ?_
    refine dE ?_
    exact oO hF [] [] rfl
  · refine aD ?_
    refine dR 2 ?_
    refine dB h2 ?_
    refine dR 14 ?_
    refine dE ?_
    exact oO hF [] [] rfl

def z591 : (List api_Mark) → AEx
  | _ => .exit 2

def z590 (qa : Int) (qb : Int) (vi : Int) : (List api_Mark) → St
  | vl4 => Mem.st ⟨[(0, ⟨88, 6, List.map api_Mark.enc vl4⟩)], []⟩ (tl [(0, .c (.own 0 none)), (1, .i qa), (2, .i qb), (3, .c (.fn 58 [])), (8, .i vi)]) 1

def z589 (qa : Int) (qb : Int) (vi : Int) : (List api_Mark) × Int → St
  | (vl3, vj1) => Mem.st ⟨[(0, ⟨88, 6, List.map api_Mark.enc vl3⟩)], []⟩ (tl [(0, .c (.own 0 none)), (1, .i qa), (2, .i qb), (3, .c (.fn 58 [])), (8, .i vi), (9, .i vj1)]) 1

theorem z592 (qa : Int) (qb : Int) (vi : Int) (s : (List api_Mark) × Int) (r : ((List api_Mark) × Int) ⊕ ((List api_Mark))) (hF : z588 qa s = some r) : Awp prog 1 53 (cL (cL (cR (cL (cL (cR (cL (cL (cR (cB f151)))))))))) (Out 1 (kk z591) (SS (z589 qa qb vi) (z590 qa qb vi)) r) (z589 qa qb vi s) := by
  obtain ⟨vl3, vj1⟩ := s
  unfold z588 at hF
  refine awp_seq (awp_seq (awp_to (st' := z594 qa qb vi vl3 vj1) (oT [] []) ?_))
  refine bE hF fun vx4_1 h6 hF => awp_sub (z596 qa qb vi vl3 vj1 h6) ?_
  refine cE hF (fun h7 hF => ?_) fun h7 hF => ?_
  · refine tT h7 (awp_skip (awp_seq (awp_block (bE hF fun vy17 h8 hF => bE hF fun vy18 h9 hF => bE hF fun vy19 h10 hF => aDw [0] ?_))))
    refine dR 8 ?_
    refine dI api_Mark.enc 0 h8 rfl ?_
    refine dX (x_ldE api_Mark.enc h8) ?_
    refine dR 2 ?_
    refine dI api_Mark.enc 0 h9 rfl ?_
    refine dX (x_ldE api_Mark.enc h9) ?_
    refine dI api_Mark.enc 0 h9 rfl ?_
    refine dW api_Mark.enc (api_Mark.mk vy17.At vy17.Device vy17.Kind (api_Version.mk vy17.Version.Major vy17.Version.Minor vy17.Version.Patch)) h9 rfl ?_
    refine dI api_Mark.enc 0 h10 rfl ?_
    refine dW api_Mark.enc (api_Mark.mk vy18.At vy18.Device vy18.Kind (api_Version.mk vy18.Version.Major vy18.Version.Minor vy18.Version.Patch)) h10 rfl ?_
    refine dE ?_
    exact gR 3 (oO hF [] [] rfl)
  · refine tF h7 (awp_exit ?_)
    exact oO hF [] [] rfl

def z586 : (List api_Mark) → AEx
  | _ => .exit 0

def z585 (qa : Int) (qb : Int) : (List api_Mark) → St
  | vl5 => Mem.st ⟨[(0, ⟨88, 6, List.map api_Mark.enc vl5⟩)], []⟩ (tl []) 1

def z584 (qa : Int) (qb : Int) : (List api_Mark) × Int → St
  | (vl, vi) => Mem.st ⟨[(0, ⟨88, 6, List.map api_Mark.enc vl⟩)], []⟩ (tl [(0, .c (.own 0 none)), (1, .i qa), (2, .i qb), (3, .c (.fn 58 [])), (8, .i vi)]) 1

theorem z587 (qa : Int) (qb : Int) (s : (List api_Mark) × Int) (r : ((List api_Mark) × Int) ⊕ ((List api_Mark))) (hF : z583 qa qb s = some r) : Awp prog 1 53 (cL (cL (cR (cB f151)))) (Out 1 (kk z586) (SS (z584 qa qb) (z585 qa qb)) r) (z584 qa qb s) := by
  obtain ⟨vl, vi⟩ := s
  unfold z583 at hF
  refine awp_seq (sR 3 (cE hF (fun h1 hF => ?_) fun h1 hF => ?_))
  · refine tT h1 (awp_skip (awp_seq (awp_block (sR 2 (awp_block (awp_to (st' := z589 qa qb vi (vl, vi)) (oT [] []) ?_))))))
    refine bE hF fun vl4_1 h11 hF => awp_sub (awp_loop' (z589 qa qb vi) z591 (z590 qa qb vi) (by intro x; exact fun h => nomatch h) h11 (z592 qa qb vi)) ?_
    exact gR 3 (oO hF [] [] rfl)
  · refine tF h1 (awp_exit ?_)
    exact oO hF [] [] rfl

def z581 (qdata : List api_Mark) (qa : Int) (qb : Int) (r : (List api_Mark)) : TV × Mem := (.tup [], ⟨[(0, ⟨88, 6, List.map api_Mark.enc r⟩)], []⟩)

theorem z582 {qdata : List api_Mark} {qa : Int} {qb : Int} {r} (hF : z580 qdata qa qb = some r) : Holds prog 151 [.c (.own 0 none), .i qa, .i qb, .c (.fn 58 [])] ⟨[(0, ⟨88, 6, List.map api_Mark.enc qdata⟩)], []⟩ (Is (z581 qdata qa qb r)) := by
  unfold z580 at hF
  refine hW f151 53 1 1 ?_
  refine sR 3 (awp_block (awp_to (st' := z584 qa qb (qdata, IntKind.wrap .i64 (qa + 1))) (oT [] []) ?_))
  refine bE hF fun vl5_1 h12 hF => awp_sub (awp_loop' (z584 qa qb) z586 (z585 qa qb) (by intro x; exact fun h => nomatch h) h12 (z587 qa qb)) ?_
  exact oF hF [] []

/-! ### slices.stableCmpFunc[beaconfleet/api.Mark] -/
def z760 : ((List api_Mark) × Int) → AEx
  | _ => .exit 0

def z759 (qn : Int) : ((List api_Mark) × Int) → St
  | (vl1, va1) => Mem.st ⟨[(0, ⟨88, 6, List.map api_Mark.enc vl1⟩)], []⟩ (tl [(0, .c (.own 0 none)), (1, .i qn), (2, .c (.fn 58 [])), (6, .i 20), (7, .i va1)]) 1

def z758 (qn : Int) : (List api_Mark) × Int × Int → St
  | (vl, va, vb) => Mem.st ⟨[(0, ⟨88, 6, List.map api_Mark.enc vl⟩)], []⟩ (tl [(0, .c (.own 0 none)), (1, .i qn), (2, .c (.fn 58 [])), (6, .i 20), (7, .i va), (8, .i vb)]) 1

theorem z761 (qn : Int) (s : (List api_Mark) × Int × Int) (r : ((List api_Mark) × Int × Int) ⊕ (((List api_Mark) × Int))) (hF : z757 qn s = some r) : Awp prog 1 63 (cL (cL (cL (cR (cR (cB f119)))))) (Out 1 (kk z760) (SS (z758 qn) (z759 qn)) r) (z758 qn s) := by
  obtain ⟨vl, va, vb⟩ := s
  unfold z757 at hF
  refine awp_seq (sR 3 (cE hF (fun h1 hF => ?_) fun h1 hF => ?_))
  · refine tT h1 (awp_skip (awp_block (awp_seq (bE hF fun vl6_1 h2 hF => gE hF fun h3 hF => ?_))))
    refine awp_region (aR 4 (aCp (z582 h2) ⟨⟨rfl, rfl, pin1 h3⟩, trivial⟩ [] [] [] ?_))
    refine aE ?_
    exact sR 2 (gR 4 (oO hF [] [] rfl))
  · refine tF h1 (awp_exit ?_)
    exact oO hF [] [] rfl

def z770 : Unit → AEx
  | _ => .exit 4

def z769 (qn : Int) (vl6_2 : List api_Mark) (vblockSize : Int) : Unit → St
  | _ => Mem.st ⟨[(0, ⟨88, 6, List.map api_Mark.enc vl6_2⟩)], []⟩ (tl [(0, .c (.own 0 none)), (1, .i qn), (2, .c (.fn 58 [])), (6, .i vblockSize), (7, .i 0)]) 1

def z768 (qn : Int) (vl6_2 : List api_Mark) (vblockSize : Int) : Unit → St
  | _ => Mem.st ⟨[(0, ⟨88, 6, List.map api_Mark.enc vl6_2⟩)], []⟩ (tl [(0, .c (.own 0 none)), (1, .i qn), (2, .c (.fn 58 [])), (6, .i vblockSize), (7, .i 0), (8, .i (IntKind.wrap .i64 ((2 : Int) * vblockSize)))]) 1

theorem z771 (qn : Int) (vl6_2 : List api_Mark) (vblockSize : Int) (s : Unit) (r : (Unit) ⊕ (Unit)) (hF : z767 qn vblockSize s = some r) : Awp prog 1 63 (cL (cL (cL (cR (cL (cR (cL (cL (cR (cR (cR (cR (cB f119))))))))))))) (Out 1 (kk z770) (SS (z768 qn vl6_2 vblockSize) (z769 qn vl6_2 vblockSize)) r) (z768 qn vl6_2 vblockSize s) := by
  unfold z767 at hF
  refine awp_seq (sR 3 (cE hF (fun h8 hF => ?_) fun h8 hF => ?_))
  · exact tT h8 (awp_skip (awp_block (awp_seq (nE hF))))
  · refine tF h8 (awp_exit ?_)
    exact oO hF [] [] rfl

def z765 : Unit → AEx
  | _ => .exit 2

def z764 (qn : Int) (vl6_2 : List api_Mark) : Unit → St
  | _ => Mem.st ⟨[(0, ⟨88, 6, List.map api_Mark.enc vl6_2⟩)], []⟩ (tl []) 1

def z763 (qn : Int) (vl6_2 : List api_Mark) : Int → St
  | vblockSize => Mem.st ⟨[(0, ⟨88, 6, List.map api_Mark.enc vl6_2⟩)], []⟩ (tl [(0, .c (.own 0 none)), (1, .i qn), (2, .c (.fn 58 [])), (6, .i vblockSize)]) 1

theorem z766 (qn : Int) (vl6_2 : List api_Mark) (vblockSize : Int) (r : (Int) ⊕ (Unit)) (hF : z762 qn vblockSize = some r) : Awp prog 1 63 (cL (cL (cR (cR (cR (cR (cB f119))))))) (Out 1 (kk z765) (SS (z763 qn vl6_2) (z764 qn vl6_2)) r) (z763 qn vl6_2 vblockSize) := by
  unfold z762 at hF
  refine awp_seq (sR 3 (cE hF (fun h7 hF => ?_) fun h7 hF => ?_))
  · refine tT h7 (awp_skip (awp_block (sR 4 (awp_seq (awp_block (awp_to (st' := z768 qn vl6_2 vblockSize ()) (oT [] []) ?_))))))
    refine bE hF fun _ h10 hF => awp_sub (awp_loop' (z768 qn vl6_2 vblockSize) z770 (z769 qn vl6_2 vblockSize) (by intro x; exact fun h => nomatch h) h10 (z771 qn vl6_2 vblockSize)) ?_
    refine awp_seq (sR 4 (sR 3 (cE hF (fun h11 hF => ?_) fun h11 hF => ?_)))
    · exact tT h11 (nE hF)
    · exact tF h11 (awp_skip (gR 3 (oO hF [] [] rfl)))
  · refine tF h7 (awp_exit ?_)
    exact oO hF [] [] rfl

def z755 (qdata : List api_Mark) (qn : Int) (r : (List api_Mark)) : TV × Mem := (.tup [], ⟨[(0, ⟨88, 6, List.map api_Mark.enc r⟩)], []⟩)

theorem z756 {qdata : List api_Mark} {qn : Int} {r} (hF : z754 qdata qn = some r) : Holds prog 119 [.c (.own 0 none), .i qn, .c (.fn 58 [])] ⟨[(0, ⟨88, 6, List.map api_Mark.enc qdata⟩)], []⟩ (Is (z755 qdata qn r)) := by
  unfold z754 at hF
  refine hW f119 63 1 1 ?_
  refine sR 1 (sR 3 (awp_seq (awp_block (awp_to (st' := z758 qn (qdata, 0, 20)) (oT [] []) ?_))))
  refine bE hF fun x h4 hF => ?_
  obtain ⟨vl1_1, va1_1⟩ := x
  refine awp_sub (awp_loop' (z758 qn) z760 (z759 qn) (by intro x; exact fun h => nomatch h) h4 (z761 qn)) ?_
  refine awp_seq (bE hF fun vl6_2 h5 hF => gE hF fun h6 hF => ?_)
  refine awp_region (aR 4 (aCp (z582 h5) ⟨⟨rfl, rfl, pin1 h6⟩, trivial⟩ [] [] [] ?_))
  refine aE ?_
  refine awp_block (awp_to (st' := z763 qn vl6_2 20) (oT [] []) ?_)
  refine bE hF fun _ h13 hF => awp_sub (awp_loop' (z763 qn vl6_2) z765 (z764 qn vl6_2) (by intro x; exact fun h => nomatch h) h13 (z766 qn vl6_2)) ?_
  exact oF hF [] []

/-! ### slices.SortStableFunc[[]beaconfleet/api.Mark,beaconfleet/api.Mark] -/
def z538 (qx : List api_Mark) (r : (List api_Mark)) : TV × Mem := (.tup [], ⟨[(0, ⟨88, 6, List.map api_Mark.enc r⟩)], []⟩)

theorem z539 {qx : List api_Mark} {r} (hF : z537 qx = some r) : Holds prog 57 [.c (.own 0 none), .c (.fn 58 [])] ⟨[(0, ⟨88, 6, List.map api_Mark.enc qx⟩)], []⟩ (Is (z538 qx r)) := by
  unfold z537 at hF
  refine hW f57 9 1 1 ?_
  refine bE hF fun vl2 h1 hF => gE hF fun h2 hF => ?_
  refine awp_region (aR 2 (aL api_Mark.enc qx (aR 1 (aCp (z756 h1) ⟨⟨rfl, rfl, pin1 h2⟩, trivial⟩ [] [] [] ?_))))
  refine aE ?_
  exact oF hF [] []

/-! ### (*beaconfleet/fleetmake.Stream).Marks$1 -/
def z277 (qa : api_Mark) (qb : api_Mark) (r : Bool) : TV × Mem := (.b r, ⟨[], []⟩)

theorem z278 {qa : api_Mark} {qb : api_Mark} {r} (hF : z276 qa qb = some r) : Holds prog 60 [.v (.agg [.i qa.At, .s qa.Device, .i qa.Kind, .i qa.Version.Major, .i qa.Version.Minor, .i qa.Version.Patch]), .v (.agg [.i qb.At, .s qb.Device, .i qb.Kind, .i qb.Version.Major, .i qb.Version.Minor, .i qb.Version.Patch])] ⟨[], []⟩ (Is (z277 qa qb r)) := by
  unfold z276 at hF
  refine hW f60 9 0 0 ?_
  refine sR 3 (awp_seq (bE hF fun vr1 h1 hF => awp_region (aR 2 (aC (z400 h1) [] [] [] (aR 2 (aE ?_))))))
  exact awp_ret (oF hF [] [])

/-! ### slices.CompactFunc[[]beaconfleet/api.Mark,beaconfleet/api.Mark] -/
def z487 (qx : List api_Mark) (vx : Int) (vl4 : List api_Mark) (vx6 : Int) (vx7 : Int) : ((List api_Mark) × Int) → St
  | (vl6, vx9) => Mem.st ⟨[(0, ⟨88, 6, List.map api_Mark.enc vl6⟩)], []⟩ (tl [(0, .c (.own 0 none)), (1, .c (.fn 60 [])), (5, .i vx9), (6, .c (.view 0 vx.toNat ((qx.length : Int).toNat - vx.toNat))), (7, .i vx7)]) 1

def z486 (qx : List api_Mark) (vx : Int) (vl4 : List api_Mark) (vx6 : Int) (vx7 : Int) : St := Mem.st ⟨[(0, ⟨88, 6, List.map api_Mark.enc vl4⟩)], []⟩ (tl [(0, .c (.own 0 none)), (1, .c (.fn 60 [])), (5, .i vx6), (6, .c (.view 0 vx.toNat ((qx.length : Int).toNat - vx.toNat))), (7, .i vx7)]) 1

theorem z488 (qx : List api_Mark) (vx : Int) (vl4 : List api_Mark) (vx6 : Int) (vx7 : Int) {r} (hF : z485 qx vx vl4 vx6 vx7 = some r) : Awp prog 1 66 (cL (cR (cL (cL (cR (cL (cR (cL (cR (cL (cL (cR (cL (cL (cR (cL (cR (cR (cB f59))))))))))))))))))) (Out 1 nrm (z487 qx vx vl4 vx6 vx7) r) (z486 qx vx vl4 vx6 vx7) := by
  unfold z485 at hF
  refine awp_block (awp_seq (gE hF fun h9 hF => ?_))
  refine bE hF fun vy13 h10 hF => gE hF fun h11 hF => ?_
  refine bE hF fun vy14 h12 hF => bE hF fun vr5 h13 hF => aD ?_
  refine dR 3 ?_
  refine dX (x_idxV api_Mark.enc 0 h9 h10) ?_
  refine dX (x_ldE api_Mark.enc h10) ?_
  refine dR 3 ?_
  refine dX (x_idxV api_Mark.enc 0 h11 h12) ?_
  refine dX (x_ldE api_Mark.enc h12) ?_
  refine dC (z278 h13) [] [] [] ?_
  refine dR 1 ?_
  refine dE ?_
  refine cE hF (fun h14 hF => ?_) fun h14 hF => ?_
  · refine tT h14 (awp_seq (bE hF fun vy15 h15 hF => awp_region (aR 4 (aX (x_idxV api_Mark.enc 0 h9 h10) (aX (x_ldE api_Mark.enc h10) (aX (x_idxO api_Mark.enc 0 h15) (aX (x_stE api_Mark.enc (api_Mark.mk vy13.At vy13.Device vy13.Kind (api_Version.mk vy13.Version.Major vy13.Version.Minor vy13.Version.Patch)) h15) (aE ?_))))))))
    exact gR 3 (oO hF [] [] rfl)
  · exact tF h14 (awp_skip (oO hF [] [] rfl))

def z483 : ((List api_Mark) × Int) → AEx
  | _ => .exit 2

def z482 (qx : List api_Mark) (vx : Int) : ((List api_Mark) × Int) → St
  | (vl7, vx10) => Mem.st ⟨[(0, ⟨88, 6, List.map api_Mark.enc vl7⟩)], []⟩ (tl [(0, .c (.own 0 none)), (5, .i vx10)]) 1

def z481 (qx : List api_Mark) (vx : Int) : (List api_Mark) × Int × Int → St
  | (vl4, vx6, vx7) => Mem.st ⟨[(0, ⟨88, 6, List.map api_Mark.enc vl4⟩)], []⟩ (tl [(0, .c (.own 0 none)), (1, .c (.fn 60 [])), (5, .i vx6), (6, .c (.view 0 vx.toNat ((qx.length : Int).toNat - vx.toNat))), (7, .i vx7)]) 1

theorem z484 (qx : List api_Mark) (vx : Int) (s : (List api_Mark) × Int × Int) (r : ((List api_Mark) × Int × Int) ⊕ (((List api_Mark) × Int))) (hF : z480 qx vx s = some r) : Awp prog 1 66 (cL (cL (cR (cL (cR (cL (cR (cL (cL (cR (cL (cL (cR (cL (cR (cR (cB f59))))))))))))))))) (Out 1 (kk z483) (SS (z481 qx vx) (z482 qx vx)) r) (z481 qx vx s) := by
  obtain ⟨vl4, vx6, vx7⟩ := s
  unfold z480 at hF
  refine awp_seq (sR 4 (cE hF (fun h8 hF => ?_) fun h8 hF => ?_))
  · refine tT h8 (awp_skip (awp_seq (awp_to (st' := z486 qx vx vl4 vx6 vx7) (oT [] []) ?_)))
    refine bE hF fun x h16 hF => ?_
    obtain ⟨vl6_1, vx9_1⟩ := x
    refine awp_sub (z488 qx vx vl4 vx6 vx7 h16) ?_
    exact gR 3 (oO hF [] [] rfl)
  · refine tF h8 (awp_exit ?_)
    exact oO hF [] [] rfl

def z478 : Unit ⊕ (List api_Mark) → AEx
  | .inl _ => .exit 0
  | .inr _ => .ret

def z477 (qx : List api_Mark) : Unit ⊕ (List api_Mark) → St
  | .inl _ => Mem.st ⟨[(0, ⟨88, 6, List.map api_Mark.enc qx⟩)], []⟩ (tl [(0, .c (.own 0 none))]) 1
  | .inr vx11 => Mem.st ⟨[(1, ⟨88, 6, List.map api_Mark.enc vx11⟩)], []⟩ (tl [(4, .c (.own 1 none))]) 2

def z476 (qx : List api_Mark) : Int → St
  | vx => Mem.st ⟨[(0, ⟨88, 6, List.map api_Mark.enc qx⟩)], []⟩ (tl [(0, .c (.own 0 none)), (1, .c (.fn 60 [])), (5, .i vx)]) 1

theorem z479 (qx : List api_Mark) (vx : Int) (r : (Int) ⊕ (Unit ⊕ (List api_Mark))) (hF : z475 qx vx = some r) : Awp prog 1 66 (cL (cL (cR (cL (cR (cR (cB f59))))))) (Out 1 (kk z478) (SS (z476 qx) (z477 qx)) r) (z476 qx vx) := by
  unfold z475 at hF
  refine awp_seq (awp_seq (awp_region (aR 2 (aL api_Mark.enc qx (aR 1 (aE ?_))))))
  refine cE hF (fun h2 hF => ?_) fun h2 hF => ?_
  · refine tT h2 (awp_skip (awp_seq (awp_block (awp_seq (bE hF fun vy8 h3 hF => bE hF fun vy9 h4 hF => bE hF fun vr3 h5 hF => aD ?_)))))
    refine dR 3 ?_
    refine dX (x_idxO api_Mark.enc 0 h3) ?_
    refine dX (x_ldE api_Mark.enc h3) ?_
    refine dR 3 ?_
    refine dX (x_idxO api_Mark.enc 0 h4) ?_
    refine dX (x_ldE api_Mark.enc h4) ?_
    refine dC (z278 h5) [] [] [] ?_
    refine dE ?_
    refine cE hF (fun h6 hF => ?_) fun h6 hF => ?_
    · refine tT h6 (awp_seq (gE hF fun h7 hF => ?_))
      refine awp_region (aR 2 (aX (x_viewN api_Mark.enc 0 h7) (aR 1 (aE ?_))))
      refine awp_seq (sR 1 (awp_block (awp_to (st' := z481 qx vx (qx, vx, 1)) (oT [] []) ?_)))
      refine bE hF fun x h17 hF => ?_
      obtain ⟨vl7_1, vx10_1⟩ := x
      refine awp_sub (awp_loop' (z481 qx vx) z483 (z482 qx vx) (by intro x; exact fun h => nomatch h) h17 (z484 qx vx)) ?_
      refine awp_seq (gE hF fun h18 hF => ?_)
      refine awp_region (aR 2 (aX (x_viewN api_Mark.enc 0 h18) (aCl api_Mark.enc 0 (xs := vl7_1) (y := api_Mark.mk 0 ([] : List UInt8) 0 (api_Version.mk 0 0 0)) (lo := vx10_1) (hi := (vl7_1.length : Int)) rfl ?_)))
      refine aE ?_
      refine awp_seq (gE hF fun h19 hF => ?_)
      refine awp_region (aR 2 (aT api_Mark.enc 0 h19 rfl ?_))
      refine aR 1 (aE ?_)
      exact awp_ret (oO hF [(1, 6001)] [] rfl)
    · exact tF h6 (awp_skip (gR 3 (oO hF [] [] rfl)))
  · refine tF h2 (awp_exit ?_)
    exact oO hF [] [] rfl

def z473 (qx : List api_Mark) (r : (List api_Mark)) : TV × Mem := (.c (.own 1 none), ⟨[(1, ⟨88, 6, List.map api_Mark.enc r⟩)], []⟩)

theorem z474 {qx : List api_Mark} {r} (hF : z472 qx = some r) : Holds prog 59 [.c (.own 0 none), .c (.fn 60 [])] ⟨[(0, ⟨88, 6, List.map api_Mark.enc qx⟩)], []⟩ (Is (z473 qx r)) := by
  unfold z472 at hF
  refine hW f59 66 1 1 ?_
  refine sR 1 (awp_seq (awp_seq (awp_region (aR 1 (aL api_Mark.enc qx (aR 1 (aE ?_)))))))
  refine cE hF (fun h1 hF => ?_) fun h1 hF => ?_
  · exact tT h1 (sR 2 (awp_ret (oF hF [(1, 0)] [])))
  · refine tF h1 (awp_skip (awp_seq (sR 1 (awp_block (awp_to (st' := z476 qx 1) (oT [] []) ?_)))))
    refine bE hF fun x h20 hF => ?_
    rcases x with _ | vx11_1
    · refine awp_sub (awp_loop' (z476 qx) z478 (z477 qx) (by intro x; rcases x with x | x <;> exact fun h => nomatch h) h20 (z479 qx)) ?_
      exact sR 2 (awp_ret (oF hF [(1, 0)] []))
    · refine awp_sub (awp_loop' (z476 qx) z478 (z477 qx) (by intro x; rcases x with x | x <;> exact fun h => nomatch h) h20 (z479 qx)) ?_
      exact oF hF [] []

/-! ### (*beaconfleet/fleetmake.Stream).Marks -/
def z292 (qx2 : List api_Device) (qx3 : Int) (vx : List api_Mark) (vx1 : Int) (vx2 : Int) (vr10 : Int) (vr11 : List UInt8) (vs6 : z253) (vr12 : Int) (vr13 : Int) : (z253 × Bool) → St
  | (vs7, vx12) => Mem.st ⟨[(2, ⟨88, 6, List.map api_Mark.enc vx⟩)], [(0, [.l (encI .i64) vs7.L, .i vs7.at_]), (1, [.i (IntKind.wrap .i64 (vx1 + vr10)), .s vr11, .i vr12, .i vr13, .i 0, .i 0])]⟩ (tl [(0, .c (.box 0 0)), (2, .c (.l api_Device.enc qx2)), (9, .c (.own 2 none)), (10, .i (IntKind.wrap .i64 (vx1 + vr10))), (11, .c (.box 1 0)), (17, .i qx3), (18, .i vx2), (43, .b vx12)]) 3

def z291 (qx2 : List api_Device) (qx3 : Int) (vx : List api_Mark) (vx1 : Int) (vx2 : Int) (vr10 : Int) (vr11 : List UInt8) (vs6 : z253) (vr12 : Int) (vr13 : Int) : St := Mem.st ⟨[(2, ⟨88, 6, List.map api_Mark.enc vx⟩)], [(0, [.l (encI .i64) vs6.L, .i (IntKind.wrap .i64 (vs6.at_ + 1))]), (1, [.i (IntKind.wrap .i64 (vx1 + vr10)), .s vr11, .i vr12, .i vr13, .i 0, .i 0])]⟩ (tl [(0, .c (.box 0 0)), (2, .c (.l api_Device.enc qx2)), (9, .c (.own 2 none)), (10, .i (IntKind.wrap .i64 (vx1 + vr10))), (11, .c (.box 1 0)), (17, .i qx3), (18, .i vx2)]) 3

theorem z293 (qx2 : List api_Device) (qx3 : Int) (vx : List api_Mark) (vx1 : Int) (vx2 : Int) (vr10 : Int) (vr11 : List UInt8) (vs6 : z253) (vr12 : Int) (vr13 : Int) {r} (hF : z290 qx2 vs6 = some r) : Awp prog 1 115 (cL (cL (cR (cR (cL (cL (cR (cR (cL (cL (cR (cL (cR (cR (cR (cB f10)))))))))))))))) (Out 1 nrm (z292 qx2 qx3 vx vx1 vx2 vr10 vr11 vs6 vr12 vr13) r) (z291 qx2 qx3 vx vx1 vx2 vr10 vr11 vs6 vr12 vr13) := by
  unfold z290 at hF
  refine cE hF (fun h7 hF => ?_) fun h7 hF => ?_
  · refine bE hF fun vr14 h8 hF => awp_region (aR 1 (aL api_Device.enc qx2 (aB h7 (aR 2 (aC (z274 h8) [] [] [] (aR 2 (aE ?_)))))))
    exact oO hF [] [] rfl
  · refine awp_region (aR 1 (aL api_Device.enc qx2 (aB h7 (aR 5 (aE ?_)))))
    exact oO hF [] [] rfl

def z288 (qx2 : List api_Device) (qx3 : Int) (vx : List api_Mark) (vx1 : Int) (vx2 : Int) (vr10 : Int) (vr11 : List UInt8) (vs6 : z253) (vr12 : Int) (vr13 : Int) : (z253 × api_Mark) → St
  | (vs8, vx13) => Mem.st ⟨[(2, ⟨88, 6, List.map api_Mark.enc vx⟩)], [(0, [.l (encI .i64) vs8.L, .i vs8.at_]), (1, [.i vx13.At, .s vx13.Device, .i vx13.Kind, .i vx13.Version.Major, .i vx13.Version.Minor, .i vx13.Version.Patch])]⟩ (tl [(0, .c (.box 0 0)), (2, .c (.l api_Device.enc qx2)), (9, .c (.own 2 none)), (10, .i (IntKind.wrap .i64 (vx1 + vr10))), (11, .c (.box 1 0)), (17, .i qx3), (18, .i vx2)]) 3

def z287 (qx2 : List api_Device) (qx3 : Int) (vx : List api_Mark) (vx1 : Int) (vx2 : Int) (vr10 : Int) (vr11 : List UInt8) (vs6 : z253) (vr12 : Int) (vr13 : Int) : St := Mem.st ⟨[(2, ⟨88, 6, List.map api_Mark.enc vx⟩)], [(0, [.l (encI .i64) vs6.L, .i (IntKind.wrap .i64 (vs6.at_ + 1))]), (1, [.i (IntKind.wrap .i64 (vx1 + vr10)), .s vr11, .i vr12, .i vr13, .i 0, .i 0])]⟩ (tl [(0, .c (.box 0 0)), (2, .c (.l api_Device.enc qx2)), (9, .c (.own 2 none)), (10, .i (IntKind.wrap .i64 (vx1 + vr10))), (11, .c (.box 1 0)), (17, .i qx3), (18, .i vx2)]) 3

theorem z289 (qx2 : List api_Device) (qx3 : Int) (vx : List api_Mark) (vx1 : Int) (vx2 : Int) (vr10 : Int) (vr11 : List UInt8) (vs6 : z253) (vr12 : Int) (vr13 : Int) {r} (hF : z286 qx2 vx1 vr10 vr11 vs6 vr12 vr13 = some r) : Awp prog 1 115 (cL (cR (cR (cL (cL (cR (cR (cL (cL (cR (cL (cR (cR (cR (cB f10))))))))))))))) (Out 1 nrm (z288 qx2 qx3 vx vx1 vx2 vr10 vr11 vs6 vr12 vr13) r) (z287 qx2 qx3 vx vx1 vx2 vr10 vr11 vs6 vr12 vr13) := by
  unfold z286 at hF
  refine awp_seq (awp_to (st' := z291 qx2 qx3 vx vx1 vx2 vr10 vr11 vs6 vr12 vr13) (oT [] []) ?_)
  refine bE hF fun x h9 hF => ?_
  obtain ⟨vs7_1, vx12_1⟩ := x
  refine awp_sub (z293 qx2 qx3 vx vx1 vx2 vr10 vr11 vs6 vr12 vr13 h9) ?_
  refine cE hF (fun h10 hF => ?_) fun h10 hF => ?_
  · refine tT h10 (bE hF fun vr3_4 h11 hF => bE hF fun vy3 h12 hF => awp_region (aR 3 (aL api_Device.enc qx2 (aC (z313 h11) [] [] [] (aX (x_idx api_Device.enc h12) (aR 4 (aE ?_)))))))
    exact oO hF [] [] rfl
  · exact tF h10 (awp_skip (oO hF [] [] rfl))

def z305 (qx2 : List api_Device) (qx3 : Int) (vx : List api_Mark) (vx1 : Int) (vx2 : Int) (vr10 : Int) (vs8_1 : z253) (vx13_1 : api_Mark) (vx14 : api_Mark) (vx15 : Int) : api_Mark → St
  | vx17 => Mem.st ⟨[(3, ⟨88, 6, List.map api_Mark.enc vx⟩)], [(0, [.l (encI .i64) vs8_1.L, .i (IntKind.wrap .i64 (vs8_1.at_ + 1))]), (1, [.i vx13_1.At, .s vx13_1.Device, .i vx13_1.Kind, .i vx13_1.Version.Major, .i vx13_1.Version.Minor, .i vx13_1.Version.Patch]), (2, [.i vx17.At, .s vx17.Device, .i vx17.Kind, .i vx17.Version.Major, .i vx17.Version.Minor, .i vx17.Version.Patch])]⟩ (tl [(0, .c (.box 0 0)), (2, .c (.l api_Device.enc qx2)), (9, .c (.own 3 none)), (10, .i (IntKind.wrap .i64 (vx1 + vr10))), (11, .c (.box 1 0)), (12, .c (.box 2 0)), (17, .i qx3), (18, .i vx2), (57, .c (.own 3 none)), (58, .i (vx.length : Int)), (59, .i vx15)]) 4

def z304 (qx2 : List api_Device) (qx3 : Int) (vx : List api_Mark) (vx1 : Int) (vx2 : Int) (vr10 : Int) (vs8_1 : z253) (vx13_1 : api_Mark) (vx14 : api_Mark) (vx15 : Int) : St := Mem.st ⟨[(3, ⟨88, 6, List.map api_Mark.enc vx⟩)], [(0, [.l (encI .i64) vs8_1.L, .i (IntKind.wrap .i64 (vs8_1.at_ + 1))]), (1, [.i vx13_1.At, .s vx13_1.Device, .i vx13_1.Kind, .i vx13_1.Version.Major, .i vx13_1.Version.Minor, .i vx13_1.Version.Patch]), (2, [.i vx14.At, .s vx14.Device, .i vx14.Kind, .i vx14.Version.Major, .i vx14.Version.Minor, .i vx14.Version.Patch])]⟩ (tl [(0, .c (.box 0 0)), (2, .c (.l api_Device.enc qx2)), (9, .c (.own 3 none)), (10, .i (IntKind.wrap .i64 (vx1 + vr10))), (11, .c (.box 1 0)), (12, .c (.box 2 0)), (17, .i qx3), (18, .i vx2), (57, .c (.own 3 none)), (58, .i (vx.length : Int)), (59, .i vx15)]) 4

theorem z306 (qx2 : List api_Device) (qx3 : Int) (vx : List api_Mark) (vx1 : Int) (vx2 : Int) (vr10 : Int) (vs8_1 : z253) (vx13_1 : api_Mark) (vx14 : api_Mark) (vx15 : Int) {r} (hF : z303 vx vx13_1 vx14 vx15 = some r) : Awp prog 1 115 (cL (cR (cR (cL (cL (cR (cL (cR (cL (cR (cL (cR (cR (cR (cL (cL (cR (cR (cL (cL (cR (cL (cR (cR (cR (cB f10)))))))))))))))))))))))))) (Out 1 nrm (z305 qx2 qx3 vx vx1 vx2 vr10 vs8_1 vx13_1 vx14 vx15) r) (z304 qx2 qx3 vx vx1 vx2 vr10 vs8_1 vx13_1 vx14 vx15) := by
  unfold z303 at hF
  refine awp_block (awp_seq (bE hF fun vy5 h17 hF => awp_region (aX (x_idxO api_Mark.enc 3 h17) (aX (x_ldE api_Mark.enc h17) (aR 2 (aE ?_))))))
  refine sR 5 (cE hF (fun h18 hF => ?_) fun h18 hF => ?_)
  · exact tT h18 (gR 2 (oO hF [] [] rfl))
  · exact tF h18 (awp_skip (oO hF [] [] rfl))

def z301 : api_Mark → AEx
  | _ => .exit 2

def z300 (qx2 : List api_Device) (qx3 : Int) (vx : List api_Mark) (vx1 : Int) (vx2 : Int) (vr10 : Int) (vs8_1 : z253) (vx13_1 : api_Mark) : api_Mark → St
  | vx18 => Mem.st ⟨[(3, ⟨88, 6, List.map api_Mark.enc vx⟩)], [(0, [.l (encI .i64) vs8_1.L, .i (IntKind.wrap .i64 (vs8_1.at_ + 1))]), (1, [.i vx13_1.At, .s vx13_1.Device, .i vx13_1.Kind, .i vx13_1.Version.Major, .i vx13_1.Version.Minor, .i vx13_1.Version.Patch]), (2, [.i vx18.At, .s vx18.Device, .i vx18.Kind, .i vx18.Version.Major, .i vx18.Version.Minor, .i vx18.Version.Patch])]⟩ (tl [(0, .c (.box 0 0)), (2, .c (.l api_Device.enc qx2)), (9, .c (.own 3 none)), (10, .i (IntKind.wrap .i64 (vx1 + vr10))), (11, .c (.box 1 0)), (12, .c (.box 2 0)), (17, .i qx3), (18, .i vx2)]) 4

def z299 (qx2 : List api_Device) (qx3 : Int) (vx : List api_Mark) (vx1 : Int) (vx2 : Int) (vr10 : Int) (vs8_1 : z253) (vx13_1 : api_Mark) : api_Mark × Int → St
  | (vx14, vx15) => Mem.st ⟨[(3, ⟨88, 6, List.map api_Mark.enc vx⟩)], [(0, [.l (encI .i64) vs8_1.L, .i (IntKind.wrap .i64 (vs8_1.at_ + 1))]), (1, [.i vx13_1.At, .s vx13_1.Device, .i vx13_1.Kind, .i vx13_1.Version.Major, .i vx13_1.Version.Minor, .i vx13_1.Version.Patch]), (2, [.i vx14.At, .s vx14.Device, .i vx14.Kind, .i vx14.Version.Major, .i vx14.Version.Minor, .i vx14.Version.Patch])]⟩ (tl [(0, .c (.box 0 0)), (2, .c (.l api_Device.enc qx2)), (9, .c (.own 3 none)), (10, .i (IntKind.wrap .i64 (vx1 + vr10))), (11, .c (.box 1 0)), (12, .c (.box 2 0)), (17, .i qx3), (18, .i vx2), (57, .c (.own 3 none)), (58, .i (vx.length : Int)), (59, .i vx15)]) 4

theorem z302 (qx2 : List api_Device) (qx3 : Int) (vx : List api_Mark) (vx1 : Int) (vx2 : Int) (vr10 : Int) (vs8_1 : z253) (vx13_1 : api_Mark) (s : api_Mark × Int) (r : (api_Mark × Int) ⊕ (api_Mark)) (hF : z298 vx vx13_1 s = some r) : Awp prog 1 115 (cL (cL (cR (cL (cR (cL (cR (cL (cR (cR (cR (cL (cL (cR (cR (cL (cL (cR (cL (cR (cR (cR (cB f10))))))))))))))))))))))) (Out 1 (kk z301) (SS (z299 qx2 qx3 vx vx1 vx2 vr10 vs8_1 vx13_1) (z300 qx2 qx3 vx vx1 vx2 vr10 vs8_1 vx13_1)) r) (z299 qx2 qx3 vx vx1 vx2 vr10 vs8_1 vx13_1 s) := by
  obtain ⟨vx14, vx15⟩ := s
  unfold z298 at hF
  refine sR 1 (awp_seq (cE hF (fun h16 hF => ?_) fun h16 hF => ?_))
  · refine tT h16 (awp_skip (awp_seq (awp_to (st' := z304 qx2 qx3 vx vx1 vx2 vr10 vs8_1 vx13_1 vx14 vx15) (oT [] []) ?_)))
    refine bE hF fun vx17_1 h19 hF => awp_sub (z306 qx2 qx3 vx vx1 vx2 vr10 vs8_1 vx13_1 vx14 vx15 h19) ?_
    exact gR 2 (oO hF [] [] rfl)
  · refine tF h16 (awp_exit ?_)
    exact oO hF [] [] rfl

def z296 (qx2 : List api_Device) (qx3 : Int) (vx : List api_Mark) (vx1 : Int) (vx2 : Int) (vr10 : Int) (vs8_1 : z253) (vx13_1 : api_Mark) : (z253 × api_Mark) → St
  | (vs9, vx19) => Mem.st ⟨[(2, ⟨88, 6, List.map api_Mark.enc vx⟩)], [(0, [.l (encI .i64) vs9.L, .i vs9.at_]), (1, [.i vx19.At, .s vx19.Device, .i vx19.Kind, .i vx19.Version.Major, .i vx19.Version.Minor, .i vx19.Version.Patch])]⟩ (tl [(0, .c (.box 0 0)), (2, .c (.l api_Device.enc qx2)), (9, .c (.own 2 none)), (10, .i (IntKind.wrap .i64 (vx1 + vr10))), (11, .c (.box 1 0)), (17, .i qx3), (18, .i vx2)]) 3

def z295 (qx2 : List api_Device) (qx3 : Int) (vx : List api_Mark) (vx1 : Int) (vx2 : Int) (vr10 : Int) (vs8_1 : z253) (vx13_1 : api_Mark) : St := Mem.st ⟨[(2, ⟨88, 6, List.map api_Mark.enc vx⟩)], [(0, [.l (encI .i64) vs8_1.L, .i vs8_1.at_]), (1, [.i vx13_1.At, .s vx13_1.Device, .i vx13_1.Kind, .i vx13_1.Version.Major, .i vx13_1.Version.Minor, .i vx13_1.Version.Patch])]⟩ (tl [(0, .c (.box 0 0)), (2, .c (.l api_Device.enc qx2)), (9, .c (.own 2 none)), (10, .i (IntKind.wrap .i64 (vx1 + vr10))), (11, .c (.box 1 0)), (17, .i qx3), (18, .i vx2)]) 3

theorem z297 (qx2 : List api_Device) (qx3 : Int) (vx : List api_Mark) (vx1 : Int) (vx2 : Int) (vr10 : Int) (vs8_1 : z253) (vx13_1 : api_Mark) {r} (hF : z294 vx vs8_1 vx13_1 = some r) : Awp prog 1 115 (cL (cR (cR (cR (cL (cL (cR (cR (cL (cL (cR (cL (cR (cR (cR (cB f10)))))))))))))))) (Out 1 nrm (z296 qx2 qx3 vx vx1 vx2 vr10 vs8_1 vx13_1) r) (z295 qx2 qx3 vx vx1 vx2 vr10 vs8_1 vx13_1) := by
  unfold z294 at hF
  refine awp_seq (bE hF fun vr15 h14 hF => awp_region (aR 1 (aC (z274 h14) [] [] [] (aR 1 (aE ?_)))))
  refine cE hF (fun h15 hF => ?_) fun h15 hF => ?_
  · refine tT h15 (sR 3 (awp_seq (awp_seq (awp_region (aR 1 (aL api_Mark.enc vx (aR 1 (aE ?_))))))))
    refine awp_block (awp_to (st' := z299 qx2 qx3 vx vx1 vx2 vr10 vs8_1 vx13_1 (api_Mark.mk 0 ([] : List UInt8) 0 (api_Version.mk 0 0 0), 0)) (oT [(2, 4003), (3, 2)] []) ?_)
    refine bE hF fun vx18_1 h20 hF => awp_sub (awp_loop' (z299 qx2 qx3 vx vx1 vx2 vr10 vs8_1 vx13_1) z301 (z300 qx2 qx3 vx vx1 vx2 vr10 vs8_1 vx13_1) (by intro x; exact fun h => nomatch h) h20 (z302 qx2 qx3 vx vx1 vx2 vr10 vs8_1 vx13_1)) ?_
    refine sR 2 (awp_block (sR 2 (cE hF (fun h21 hF => ?_) fun h21 hF => ?_)))
    · refine tT h21 (bE hF fun vr16 h22 hF => aD ?_)
      refine dR 2 ?_
      refine dC (z319 h22) [(1, 5004)] [] [] ?_
      refine dR 6 ?_
      refine dE ?_
      exact oO hF [(2, 3)] [] rfl
    · refine tF h21 (sR 2 (cE hF (fun h23 hF => ?_) fun h23 hF => ?_))
      · refine tT h23 (bE hF fun vr17 h24 hF => aD ?_)
        refine dR 2 ?_
        refine dC (z319 h24) [(1, 7004)] [] [] ?_
        refine dR 6 ?_
        refine dE ?_
        exact oO hF [(2, 3)] [] rfl
      · exact tF h23 (gR 2 (oO hF [(2, 3)] [] rfl))
  · exact tF h15 (awp_skip (oO hF [] [] rfl))

def z309 (qx2 : List api_Device) (qx3 : Int) (vx : List api_Mark) (vx1 : Int) (vx2 : Int) (vr10 : Int) (vs9_1 : z253) (vx19_1 : api_Mark) : (z253 × api_Mark) → St
  | (vs10, vx20) => Mem.st ⟨[(2, ⟨88, 6, List.map api_Mark.enc vx⟩)], [(0, [.l (encI .i64) vs10.L, .i vs10.at_]), (1, [.i vx20.At, .s vx20.Device, .i vx20.Kind, .i vx20.Version.Major, .i vx20.Version.Minor, .i vx20.Version.Patch])]⟩ (tl [(0, .c (.box 0 0)), (2, .c (.l api_Device.enc qx2)), (9, .c (.own 2 none)), (10, .i (IntKind.wrap .i64 (vx1 + vr10))), (11, .c (.box 1 0)), (17, .i qx3), (18, .i vx2)]) 3

def z308 (qx2 : List api_Device) (qx3 : Int) (vx : List api_Mark) (vx1 : Int) (vx2 : Int) (vr10 : Int) (vs9_1 : z253) (vx19_1 : api_Mark) : St := Mem.st ⟨[(2, ⟨88, 6, List.map api_Mark.enc vx⟩)], [(0, [.l (encI .i64) vs9_1.L, .i vs9_1.at_]), (1, [.i vx19_1.At, .s vx19_1.Device, .i vx19_1.Kind, .i vx19_1.Version.Major, .i vx19_1.Version.Minor, .i vx19_1.Version.Patch])]⟩ (tl [(0, .c (.box 0 0)), (2, .c (.l api_Device.enc qx2)), (9, .c (.own 2 none)), (10, .i (IntKind.wrap .i64 (vx1 + vr10))), (11, .c (.box 1 0)), (17, .i qx3), (18, .i vx2)]) 3

theorem z310 (qx2 : List api_Device) (qx3 : Int) (vx : List api_Mark) (vx1 : Int) (vx2 : Int) (vr10 : Int) (vs9_1 : z253) (vx19_1 : api_Mark) {r} (hF : z307 vs9_1 vx19_1 = some r) : Awp prog 1 115 (cL (cR (cR (cR (cR (cL (cL (cR (cR (cL (cL (cR (cL (cR (cR (cR (cB f10))))))))))))))))) (Out 1 nrm (z309 qx2 qx3 vx vx1 vx2 vr10 vs9_1 vx19_1) r) (z308 qx2 qx3 vx vx1 vx2 vr10 vs9_1 vx19_1) := by
  unfold z307 at hF
  refine awp_seq (bE hF fun vr18 h26 hF => awp_region (aR 1 (aC (z274 h26) [] [] [] (aE ?_))))
  refine cE hF (fun h27 hF => ?_) fun h27 hF => ?_
  · refine tT h27 (bE hF fun x h28 hF => ?_)
    obtain ⟨vs1_3, vr3_5⟩ := x
    refine bE hF fun vr19 h29 hF => bE hF fun x h30 hF => ?_
    obtain ⟨vs1_4, vr3_6⟩ := x
    refine awp_region (aR 1 (aC (z316 h28) [] [] [] (aR 2 (aC (z352 h29) [(1, 5003)] [] [] (aR 1 (aC (z316 h30) [] [] [] (aR 6 (aE ?_))))))))
    exact oO hF [] [] rfl
  · exact tF h27 (awp_skip (oO hF [] [] rfl))

def z284 : (z253 × (List api_Mark)) → AEx
  | _ => .exit 0

def z283 (qx2 : List api_Device) (qx3 : Int) : (z253 × (List api_Mark)) → St
  | (vs11, vx21) => Mem.st ⟨[(1, ⟨88, 6, List.map api_Mark.enc vx21⟩)], [(0, [.l (encI .i64) vs11.L, .i vs11.at_])]⟩ (tl [(0, .c (.box 0 0)), (9, .c (.own 1 none))]) 2

def z282 (qx2 : List api_Device) (qx3 : Int) : z253 × (List api_Mark) × Int × Int → St
  | (vs, vx, vx1, vx2) => Mem.st ⟨[(1, ⟨88, 6, List.map api_Mark.enc vx⟩)], [(0, [.l (encI .i64) vs.L, .i vs.at_])]⟩ (tl [(0, .c (.box 0 0)), (2, .c (.l api_Device.enc qx2)), (9, .c (.own 1 none)), (10, .i vx1), (17, .i qx3), (18, .i vx2)]) 2

theorem z285 (qx2 : List api_Device) (qx3 : Int) (s : z253 × (List api_Mark) × Int × Int) (r : (z253 × (List api_Mark) × Int × Int) ⊕ ((z253 × (List api_Mark)))) (hF : z281 qx2 qx3 s = some r) : Awp prog 1 115 (cL (cL (cR (cL (cR (cR (cR (cB f10)))))))) (Out 1 (kk z284) (SS (z282 qx2 qx3) (z283 qx2 qx3)) r) (z282 qx2 qx3 s) := by
  obtain ⟨vs, vx, vx1, vx2⟩ := s
  unfold z281 at hF
  refine sR 1 (awp_seq (cE hF (fun h1 hF => ?_) fun h1 hF => ?_))
  · refine tT h1 (awp_skip (awp_seq (awp_block (awp_seq (bE hF fun vr10 h2 hF => awp_region (aR 3 (aC (z319 h2) [(1, 3002)] [] [] (aR 2 (aE ?_)))))))))
    refine awp_seq (bE hF fun vr11 h3 hF => bE hF fun x h4 hF => ?_)
    obtain ⟨vs6, vr12⟩ := x
    refine bE hF fun vr13 h5 hF => bE hF fun _ h6 hF => awp_region (aR 3 (aC (z352 h3) [(1, 9002)] [] [] (aR 1 (aC (z322 h4) [] [] [] (aR 2 (aC (z319 h5) [(1, 14002)] [] [] (aC (z362 h6) [] [] [] (aR 3 (aE ?_)))))))))
    refine awp_seq (awp_to (st' := z287 qx2 qx3 vx vx1 vx2 vr10 vr11 vs6 vr12 vr13) (oT [(1, 18002), (2, 1)] []) ?_)
    refine bE hF fun x h13 hF => ?_
    obtain ⟨vs8_1, vx13_1⟩ := x
    refine awp_sub (z289 qx2 qx3 vx vx1 vx2 vr10 vr11 vs6 vr12 vr13 h13) ?_
    refine awp_seq (awp_to (st' := z295 qx2 qx3 vx vx1 vx2 vr10 vs8_1 vx13_1) (oT [] []) ?_)
    refine bE hF fun x h25 hF => ?_
    obtain ⟨vs9_1, vx19_1⟩ := x
    refine awp_sub (z297 qx2 qx3 vx vx1 vx2 vr10 vs8_1 vx13_1 h25) ?_
    refine awp_seq (awp_to (st' := z308 qx2 qx3 vx vx1 vx2 vr10 vs9_1 vx19_1) (oT [] []) ?_)
    refine bE hF fun x h31 hF => ?_
    obtain ⟨vs10_1, vx20_1⟩ := x
    refine awp_sub (z310 qx2 qx3 vx vx1 vx2 vr10 vs9_1 vx19_1 h31) ?_
    refine gE hF fun h32 hF => ?_
    refine awp_region (aR 3 (aX (x_app api_Mark.enc 2 h32) (aR 1 (aE ?_))))
    exact gR 2 (oO hF [(1, 3003)] [] rfl)
  · refine tF h1 (awp_exit ?_)
    exact oO hF [] [] rfl

def z279 (qx : z253) (qx1 : api_Campaign) (qx2 : List api_Device) (qx3 : Int) (r : z253 × (List api_Mark)) : TV × Mem := (.c (.own 1 none), ⟨[(1, ⟨88, 6, List.map api_Mark.enc r.2⟩)], [(0, [.l (encI .i64) r.1.L, .i r.1.at_])]⟩)

theorem z280 {qx : z253} {qx1 : api_Campaign} {qx2 : List api_Device} {qx3 : Int} {r} (hF : z275 qx qx1 qx2 qx3 = some r) : Holds prog 10 [.c (.box 0 0), .v (.agg [.s qx1.Key, .i qx1.Target.Major, .i qx1.Target.Minor, .i qx1.Target.Patch, .i qx1.At, .l api_Wave.enc qx1.Waves, .i qx1.Hours.From, .i qx1.Hours.To, .i qx1.Room]), .c (.l api_Device.enc qx2), .i qx3] ⟨[], [(0, [.l (encI .i64) qx.L, .i qx.at_])]⟩ (Is (z279 qx qx1 qx2 qx3 r)) := by
  unfold z275 at hF
  refine hW f10 115 1 1 ?_
  refine sR 2 (sR 1 (sR 3 (awp_seq (sR 2 (awp_block (awp_to (st' := z282 qx2 qx3 (qx, [], qx1.At, 0)) (oT [] [1]) ?_))))))
  refine bE hF fun x h33 hF => ?_
  obtain ⟨vs11_1, vx21_1⟩ := x
  refine awp_sub (awp_loop' (z282 qx2 qx3) z284 (z283 qx2 qx3) (by intro x; exact fun h => nomatch h) h33 (z285 qx2 qx3)) ?_
  refine awp_seq (bE hF fun vl h34 hF => gE hF fun h35 hF => ?_)
  refine awp_region (aR 1 (aCp (z539 h34) ⟨⟨rfl, rfl, pin1 h35⟩, trivial⟩ [(0, 1)] [] [] ?_))
  refine aE ?_
  refine awp_seq (awp_seq (bE hF fun vr20 h36 hF => awp_region (aR 1 (aC (z274 h36) [] [] [] (aE ?_)))))
  refine cE hF (fun h37 hF => ?_) fun h37 hF => ?_
  · exact tT h37 (sR 2 (awp_ret (oF hF [] [])))
  · refine tF h37 (awp_skip (awp_seq (bE hF fun vr6_1 h38 hF => awp_region (aR 1 (aC (z474 h38) [(0, 1)] [] [] (aR 1 (aE ?_)))))))
    exact awp_ret (oF hF [(1, 5003)] [])

/-! ### slices.Clone[[]beaconfleet/api.Mark,beaconfleet/api.Mark] -/
def z470 (qs : List api_Mark) (r : List api_Mark) : TV × Mem := (.c (.own 0 none), ⟨[(0, ⟨88, 6, List.map api_Mark.enc r⟩)], []⟩)

theorem z471 {qs : List api_Mark} {r} (hF : z469 qs = some r) : Holds prog 38 [.c (.l api_Mark.enc qs)] ⟨[], []⟩ (Is (z470 qs r)) := by
  unfold z469 at hF
  refine gE hF fun h1 hF => ?_
  refine hW f38 8 0 0 ?_
  refine sR 1 (awp_seq (awp_seq (awp_region (aR 1 (aN api_Mark.enc qs (fun b hb => ?_) rfl)))))
  refine aE ?_
  cases b with
  | true =>
    obtain rfl := hb rfl
    exact tT rfl (sR 1 (awp_ret (oF hF [] [0])))
  | false =>
    refine tF rfl (awp_skip (awp_seq (awp_region (aR 2 (aX (x_app api_Mark.enc 3000 h1) (aR 1 (aE ?_)))))))
    exact awp_ret (oF hF [(0, 5000)] [])

/-! ### beaconfleet/base.Key -/
def z32 (qs : List UInt8) : Bool → St
  | vx => Mem.st ⟨[], []⟩ (tl [(0, .c (.s qs)), (21, .b vx)]) 0

def z31 (qs : List UInt8) : St := Mem.st ⟨[], []⟩ (tl [(0, .c (.s qs))]) 0

theorem z33 (qs : List UInt8) {r} (hF : z30 qs = some r) : Awp prog 0 54 (cL (cL (cR (cB f98)))) (Out 0 nrm (z32 qs) r) (z31 qs) := by
  unfold z30 at hF
  refine cE hF (fun h1 hF => ?_) fun h1 hF => ?_
  · refine awp_region (aR 1 (aB h1 (aR 15 (aE ?_))))
    exact oO hF [] [] rfl
  · refine cE hF (fun h2 hF => ?_) fun h2 hF => ?_
    · refine awp_region (aR 1 (aB h1 (aR 3 (aB h2 (aR 11 (aE ?_))))))
      exact oO hF [] [] rfl
    · refine bE hF fun vc h3 hF => cE hF (fun h4 hF => ?_) fun h4 hF => ?_
      · refine awp_region (aR 1 (aB h1 (aR 3 (aB h2 (aR 3 (aX (x_idxS h3) (aB h4 (aR 6 (aE ?_)))))))))
        exact oO hF [] [] rfl
      · refine awp_region (aR 1 (aB h1 (aR 3 (aB h2 (aR 3 (aX (x_idxS h3) (aB h4 (aR 3 (aX (x_idxS h3) (aR 2 (aE ?_)))))))))))
        exact oO hF [] [] rfl

def z41 (qs : List UInt8) (vx2 : Int) (vc2 : UInt8) : Bool → St
  | vx4 => Mem.st ⟨[], []⟩ (tl [(0, .c (.s qs)), (23, .i (qs.length : Int)), (24, .i vx2), (52, .b vx4)]) 0

def z40 (qs : List UInt8) (vx2 : Int) (vc2 : UInt8) : St := Mem.st ⟨[], []⟩ (tl [(0, .c (.s qs)), (4, .c (.d (.int .u8 (vc2.toNat : Int)))), (23, .i (qs.length : Int)), (24, .i vx2)]) 0

theorem z42 (qs : List UInt8) (vx2 : Int) (vc2 : UInt8) {r} (hF : z39 vc2 = some r) : Awp prog 0 54 (cL (cR (cR (cL (cL (cR (cR (cL (cL (cR (cL (cR (cR (cB f98)))))))))))))) (Out 0 nrm (z41 qs vx2 vc2) r) (z40 qs vx2 vc2) := by
  unfold z39 at hF
  refine cE hF (fun h9 hF => ?_) fun h9 hF => ?_
  · refine cE hF (fun h10 hF => ?_) fun h10 hF => ?_
    · refine awp_region (aR 1 (aB h9 (aR 2 (aB h10 (aR 18 (aE ?_))))))
      exact oO hF [] [] rfl
    · refine cE hF (fun h11 hF => ?_) fun h11 hF => ?_
      · refine cE hF (fun h12 hF => ?_) fun h12 hF => ?_
        · refine awp_region (aR 1 (aB h9 (aR 2 (aB h10 (aR 3 (aB h11 (aR 2 (aB h12 (aR 11 (aE ?_))))))))))
          exact oO hF [] [] rfl
        · refine cE hF (fun h13 hF => ?_) fun h13 hF => ?_
          · refine awp_region (aR 1 (aB h9 (aR 2 (aB h10 (aR 3 (aB h11 (aR 2 (aB h12 (aR 4 (aB h13 (aR 6 (aE ?_))))))))))))
            exact oO hF [] [] rfl
          · refine awp_region (aR 1 (aB h9 (aR 2 (aB h10 (aR 3 (aB h11 (aR 2 (aB h12 (aR 4 (aB h13 (aR 6 (aE ?_))))))))))))
            exact oO hF [] [] rfl
      · refine cE hF (fun h14 hF => ?_) fun h14 hF => ?_
        · refine awp_region (aR 1 (aB h9 (aR 2 (aB h10 (aR 3 (aB h11 (aR 7 (aB h14 (aR 6 (aE ?_))))))))))
          exact oO hF [] [] rfl
        · refine awp_region (aR 1 (aB h9 (aR 2 (aB h10 (aR 3 (aB h11 (aR 7 (aB h14 (aR 6 (aE ?_))))))))))
          exact oO hF [] [] rfl
  · refine cE hF (fun h15 hF => ?_) fun h15 hF => ?_
    · refine cE hF (fun h16 hF => ?_) fun h16 hF => ?_
      · refine awp_region (aR 1 (aB h9 (aR 6 (aB h15 (aR 2 (aB h16 (aR 11 (aE ?_))))))))
        exact oO hF [] [] rfl
      · refine cE hF (fun h17 hF => ?_) fun h17 hF => ?_
        · refine awp_region (aR 1 (aB h9 (aR 6 (aB h15 (aR 2 (aB h16 (aR 4 (aB h17 (aR 6 (aE ?_))))))))))
          exact oO hF [] [] rfl
        · refine awp_region (aR 1 (aB h9 (aR 6 (aB h15 (aR 2 (aB h16 (aR 4 (aB h17 (aR 6 (aE ?_))))))))))
          exact oO hF [] [] rfl
    · refine cE hF (fun h18 hF => ?_) fun h18 hF => ?_
      · refine awp_region (aR 1 (aB h9 (aR 6 (aB h15 (aR 7 (aB h18 (aR 6 (aE ?_))))))))
        exact oO hF [] [] rfl
      · refine awp_region (aR 1 (aB h9 (aR 6 (aB h15 (aR 7 (aB h18 (aR 6 (aE ?_))))))))
        exact oO hF [] [] rfl

def z37 : Unit ⊕ Unit → AEx
  | .inl _ => .exit 0
  | .inr _ => .ret

def z36 (qs : List UInt8) : Unit ⊕ Unit → St
  | .inl _ => Mem.st ⟨[], []⟩ (tl []) 0
  | .inr _ => Mem.st ⟨[], []⟩ (tl [(2, .b false)]) 0

def z35 (qs : List UInt8) : Int → St
  | vx2 => Mem.st ⟨[], []⟩ (tl [(0, .c (.s qs)), (23, .i (qs.length : Int)), (24, .i vx2)]) 0

theorem z38 (qs : List UInt8) (vx2 : Int) (r : (Int) ⊕ (Unit ⊕ Unit)) (hF : z34 qs vx2 = some r) : Awp prog 0 54 (cL (cL (cR (cL (cR (cR (cB f98))))))) (Out 0 (kk z37) (SS (z35 qs) (z36 qs)) r) (z35 qs vx2) := by
  unfold z34 at hF
  refine sR 1 (awp_seq (cE hF (fun h7 hF => ?_) fun h7 hF => ?_))
  · refine tT h7 (awp_skip (awp_seq (awp_block (sR 2 (awp_seq (bE hF fun vc2 h8 hF => awp_region (aR 2 (aX (x_idxS h8) (aR 1 (aE ?_))))))))))
    refine awp_seq (awp_to (st' := z40 qs vx2 vc2) (oT [] []) ?_)
    refine bE hF fun vx4_1 h19 hF => awp_sub (z42 qs vx2 vc2 h19) ?_
    refine cE hF (fun h20 hF => ?_) fun h20 hF => ?_
    · exact tT h20 (sR 1 (awp_ret (oO hF [] [] rfl)))
    · exact tF h20 (awp_skip (gR 2 (oO hF [] [] rfl)))
  · refine tF h7 (awp_exit ?_)
    exact oO hF [] [] rfl

def z28 (qs : List UInt8) (r : Bool) : TV × Mem := (.b r, ⟨[], []⟩)

theorem z29 {qs : List UInt8} {r} (hF : base_Key qs = some r) : Holds prog 98 [.c (.s qs)] ⟨[], []⟩ (Is (z28 qs r)) := by
  unfold base_Key at hF
  refine hW f98 54 0 0 ?_
  refine sR 1 (awp_seq (awp_seq (awp_to (st' := z31 qs) (oT [] []) ?_)))
  refine bE hF fun vx1 h5 hF => awp_sub (z33 qs h5) ?_
  refine cE hF (fun h6 hF => ?_) fun h6 hF => ?_
  · exact tT h6 (sR 1 (awp_ret (oF hF [] [])))
  · refine tF h6 (awp_skip (awp_seq (sR 3 (awp_block (awp_to (st' := z35 qs 0) (oT [] []) ?_)))))
    refine bE hF fun x h21 hF => ?_
    rcases x with _ | _
    · refine awp_sub (awp_loop' (z35 qs) z37 (z36 qs) (by intro x; rcases x with x | x <;> exact fun h => nomatch h) h21 (z38 qs)) ?_
      exact sR 1 (awp_ret (oF hF [] []))
    · refine awp_sub (awp_loop' (z35 qs) z37 (z36 qs) (by intro x; rcases x with x | x <;> exact fun h => nomatch h) h21 (z38 qs)) ?_
      exact oF hF [] []

/-! ### beaconfleet/base.Out -/
def z74 (qn : Int) (qlow : Int) (qhigh : Int) : Bool → St
  | vx => Mem.st ⟨[], []⟩ (tl [(6, .b vx)]) 0

def z73 (qn : Int) (qlow : Int) (qhigh : Int) : St := Mem.st ⟨[], []⟩ (tl [(0, .i qn), (1, .i qlow), (2, .i qhigh)]) 0

theorem z75 (qn : Int) (qlow : Int) (qhigh : Int) {r} (hF : z72 qn qlow qhigh = some r) : Awp prog 0 15 (cL (cR (cB f110))) (Out 0 nrm (z74 qn qlow qhigh) r) (z73 qn qlow qhigh) := by
  unfold z72 at hF
  refine cE hF (fun h1 hF => ?_) fun h1 hF => ?_
  · refine awp_region (aR 2 (aB h1 (aR 6 (aE ?_))))
    exact oO hF [] [] rfl
  · refine awp_region (aR 2 (aB h1 (aR 6 (aE ?_))))
    exact oO hF [] [] rfl

def z70 (qn : Int) (qlow : Int) (qhigh : Int) (r : Bool) : TV × Mem := (.b r, ⟨[], []⟩)

theorem z71 {qn : Int} {qlow : Int} {qhigh : Int} {r} (hF : base_Out qn qlow qhigh = some r) : Holds prog 110 [.i qn, .i qlow, .i qhigh] ⟨[], []⟩ (Is (z70 qn qlow qhigh r)) := by
  unfold base_Out at hF
  refine hW f110 15 0 0 ?_
  refine sR 1 (awp_seq (awp_to (st' := z73 qn qlow qhigh) (oT [] []) ?_))
  refine bE hF fun vx1 h2 hF => awp_sub (z75 qn qlow qhigh h2) ?_
  exact awp_ret (oF hF [] [])

/-! ### beaconfleet/base.Version -/
def z81 (qv : api_Version) : Bool → St
  | vx => Mem.st ⟨[], []⟩ (tl [(2, .b vx)]) 0

def z80 (qv : api_Version) : St := Mem.st ⟨[], [(0, [.i qv.Major, .i qv.Minor, .i qv.Patch])]⟩ (tl [(1, .c (.box 0 0))]) 1

theorem z82 (qv : api_Version) {r} (hF : z79 qv = some r) : Awp prog 0 19 (cL (cR (cB f108))) (Out 0 nrm (z81 qv) r) (z80 qv) := by
  unfold z79 at hF
  refine bE hF fun vr h1 hF => cE hF (fun h2 hF => ?_) fun h2 hF => ?_
  · refine bE hF fun vr1 h3 hF => cE hF (fun h4 hF => ?_) fun h4 hF => ?_
    · refine bE hF fun vr2 h5 hF => awp_region (aR 2 (aC (z71 h1) [] [] [] (aB h2 (aR 3 (aC (z71 h3) [] [] [] (aB h4 (aR 4 (aC (z71 h5) [] [] [] (aR 3 (aE ?_))))))))))
      exact oO hF [] [] rfl
    · refine awp_region (aR 2 (aC (z71 h1) [] [] [] (aB h2 (aR 3 (aC (z71 h3) [] [] [] (aB h4 (aR 8 (aE ?_))))))))
      exact oO hF [] [] rfl
  · refine awp_region (aR 2 (aC (z71 h1) [] [] [] (aB h2 (aR 13 (aE ?_)))))
    exact oO hF [] [] rfl

def z77 (qv : api_Version) (r : Bool) : TV × Mem := (.b r, ⟨[], []⟩)

theorem z78 {qv : api_Version} {r} (hF : z76 qv = some r) : Holds prog 108 [.v (.agg [.i qv.Major, .i qv.Minor, .i qv.Patch])] ⟨[], []⟩ (Is (z77 qv r)) := by
  unfold z76 at hF
  refine hW f108 19 0 0 ?_
  refine sR 2 (awp_seq (awp_to (st' := z80 qv) (oT [] []) ?_))
  refine bE hF fun vx1 h6 hF => awp_sub (z82 qv h6) ?_
  exact awp_ret (oF hF [] [])

/-! ### beaconfleet/base.Moment -/
def z44 (qn : Int) (r : Bool) : TV × Mem := (.b r, ⟨[], []⟩)

theorem z45 {qn : Int} {r} (hF : z43 qn = some r) : Holds prog 109 [.i qn] ⟨[], []⟩ (Is (z44 qn r)) := by
  unfold z43 at hF
  refine hW f109 6 0 0 ?_
  refine sR 1 (awp_seq (bE hF fun vr h1 hF => awp_region (aR 1 (aC (z71 h1) [] [] [] (aR 2 (aE ?_))))))
  exact awp_ret (oF hF [] [])

/-! ### beaconfleet/campaign.CheckCampaign -/
def z108 (qx : api_Campaign) : Bool → St
  | vx => Mem.st ⟨[], [(0, [.s qx.Key, .i qx.Target.Major, .i qx.Target.Minor, .i qx.Target.Patch, .i qx.At, .l api_Wave.enc qx.Waves, .i qx.Hours.From, .i qx.Hours.To, .i qx.Room])]⟩ (tl [(1, .c (.box 0 0)), (11, .b vx)]) 1

def z107 (qx : api_Campaign) : St := Mem.st ⟨[], [(0, [.s qx.Key, .i qx.Target.Major, .i qx.Target.Minor, .i qx.Target.Patch, .i qx.At, .l api_Wave.enc qx.Waves, .i qx.Hours.From, .i qx.Hours.To, .i qx.Room])]⟩ (tl [(1, .c (.box 0 0))]) 1

theorem z109 (qx : api_Campaign) {r} (hF : z106 qx = some r) : Awp prog 0 81 (cL (cR (cR (cL (cL (cR (cB f42))))))) (Out 0 nrm (z108 qx) r) (z107 qx) := by
  unfold z106 at hF
  refine bE hF fun vr3 h3 hF => cE hF (fun h4 hF => ?_) fun h4 hF => ?_
  · refine awp_region (aR 2 (aC (z78 h3) [] [] [] (aB h4 (aR 7 (aE ?_)))))
    exact oO hF [] [] rfl
  · refine bE hF fun vr1 h5 hF => awp_region (aR 2 (aC (z78 h3) [] [] [] (aB h4 (aR 3 (aC (z45 h5) [] [] [] (aR 3 (aE ?_)))))))
    exact oO hF [] [] rfl

def z117 (qx : api_Campaign) (vx2 : Int) (vx3 : Int) (vy1 : api_Wave) : Bool → St
  | vx5 => Mem.st ⟨[], [(0, [.s qx.Key, .i qx.Target.Major, .i qx.Target.Minor, .i qx.Target.Patch, .i qx.At, .l api_Wave.enc qx.Waves, .i qx.Hours.From, .i qx.Hours.To, .i qx.Room]), (1, [.i vy1.Part, .i vy1.Wait, .i vy1.Least, .i vy1.Fails])]⟩ (tl [(1, .c (.box 0 0)), (3, .i vx2), (5, .c (.box 1 0)), (33, .c (.l api_Wave.enc qx.Waves)), (34, .i (qx.Waves.length : Int)), (35, .i vx3), (56, .b vx5)]) 2

def z116 (qx : api_Campaign) (vx2 : Int) (vx3 : Int) (vy1 : api_Wave) : St := Mem.st ⟨[], [(0, [.s qx.Key, .i qx.Target.Major, .i qx.Target.Minor, .i qx.Target.Patch, .i qx.At, .l api_Wave.enc qx.Waves, .i qx.Hours.From, .i qx.Hours.To, .i qx.Room]), (1, [.i vy1.Part, .i vy1.Wait, .i vy1.Least, .i vy1.Fails])]⟩ (tl [(1, .c (.box 0 0)), (3, .i vx2), (5, .c (.box 1 0)), (33, .c (.l api_Wave.enc qx.Waves)), (34, .i (qx.Waves.length : Int)), (35, .i vx3)]) 2

theorem z118 (qx : api_Campaign) (vx2 : Int) (vx3 : Int) (vy1 : api_Wave) {r} (hF : z115 vy1 = some r) : Awp prog 0 81 (cL (cL (cR (cL (cL (cR (cR (cL (cL (cR (cL (cR (cR (cR (cB f42))))))))))))))) (Out 0 nrm (z117 qx vx2 vx3 vy1) r) (z116 qx vx2 vx3 vy1) := by
  unfold z115 at hF
  refine bE hF fun vr7 h12 hF => cE hF (fun h13 hF => ?_) fun h13 hF => ?_
  · refine awp_region (aR 2 (aCb (z71 h12) [] [] [] h13 ?_))
    refine aR 15 (aE ?_)
    exact oO hF [] [] rfl
  · refine bE hF fun vr8 h14 hF => cE hF (fun h15 hF => ?_) fun h15 hF => ?_
    · refine awp_region (aR 2 (aCb (z71 h12) [] [] [] h13 ?_))
      refine aR 3 (aCb (z71 h14) [] [] [] h15 ?_)
      refine aR 11 (aE ?_)
      exact oO hF [] [] rfl
    · refine bE hF fun vr9 h16 hF => cE hF (fun h17 hF => ?_) fun h17 hF => ?_
      · refine awp_region (aR 2 (aCb (z71 h12) [] [] [] h13 ?_))
        refine aR 3 (aCb (z71 h14) [] [] [] h15 ?_)
        refine aR 4 (aCb (z71 h16) [] [] [] h17 ?_)
        refine aR 6 (aE ?_)
        exact oO hF [] [] rfl
      · refine bE hF fun vr10 h18 hF => awp_region (aR 2 (aCb (z71 h12) [] [] [] h13 ?_))
        refine aR 3 (aCb (z71 h14) [] [] [] h15 ?_)
        refine aR 4 (aCb (z71 h16) [] [] [] h17 ?_)
        refine aR 4 (aC (z71 h18) [] [] [] (aR 1 (aE ?_)))
        exact oO hF [] [] rfl

def z113 : Int ⊕ Unit → AEx
  | .inl _ => .exit 1
  | .inr _ => .ret

def z112 (qx : api_Campaign) : Int ⊕ Unit → St
  | .inl vx6 => Mem.st ⟨[], [(0, [.s qx.Key, .i qx.Target.Major, .i qx.Target.Minor, .i qx.Target.Patch, .i qx.At, .l api_Wave.enc qx.Waves, .i qx.Hours.From, .i qx.Hours.To, .i qx.Room])]⟩ (tl [(1, .c (.box 0 0)), (3, .i vx6)]) 1
  | .inr _ => Mem.st ⟨[], []⟩ (tl [(2, .i 1)]) 0

def z111 (qx : api_Campaign) : Int × Int → St
  | (vx2, vx3) => Mem.st ⟨[], [(0, [.s qx.Key, .i qx.Target.Major, .i qx.Target.Minor, .i qx.Target.Patch, .i qx.At, .l api_Wave.enc qx.Waves, .i qx.Hours.From, .i qx.Hours.To, .i qx.Room])]⟩ (tl [(1, .c (.box 0 0)), (3, .i vx2), (33, .c (.l api_Wave.enc qx.Waves)), (34, .i (qx.Waves.length : Int)), (35, .i vx3)]) 1

theorem z114 (qx : api_Campaign) (s : Int × Int) (r : (Int × Int) ⊕ (Int ⊕ Unit)) (hF : z110 qx s = some r) : Awp prog 0 81 (cL (cL (cR (cL (cR (cR (cR (cB f42)))))))) (Out 0 (kk z113) (SS (z111 qx) (z112 qx)) r) (z111 qx s) := by
  obtain ⟨vx2, vx3⟩ := s
  unfold z110 at hF
  refine sR 1 (awp_seq (cE hF (fun h10 hF => ?_) fun h10 hF => ?_))
  · refine tT h10 (awp_skip (awp_seq (awp_block (awp_seq (bE hF fun vy1 h11 hF => awp_region (aX (x_idx api_Wave.enc h11) (aR 3 (aE ?_))))))))
    refine awp_seq (awp_seq (awp_to (st' := z116 qx vx2 vx3 vy1) (oT [(1, 3001)] []) ?_))
    refine bE hF fun vx5_1 h19 hF => awp_sub (z118 qx vx2 vx3 vy1 h19) ?_
    refine cE hF (fun h20 hF => ?_) fun h20 hF => ?_
    · exact tT h20 (sR 1 (awp_ret (oO hF [] [] rfl)))
    · exact tF h20 (awp_skip (gR 5 (gR 2 (oO hF [] [] rfl))))
  · refine tF h10 (awp_exit ?_)
    exact oO hF [] [] rfl

def z121 (qx : api_Campaign) : Bool → St
  | vx7 => Mem.st ⟨[], []⟩ (tl [(65, .b vx7)]) 0

def z120 (qx : api_Campaign) : St := Mem.st ⟨[], [(0, [.s qx.Key, .i qx.Target.Major, .i qx.Target.Minor, .i qx.Target.Patch, .i qx.At, .l api_Wave.enc qx.Waves, .i qx.Hours.From, .i qx.Hours.To, .i qx.Room])]⟩ (tl [(1, .c (.box 0 0))]) 1

theorem z122 (qx : api_Campaign) {r} (hF : z119 qx = some r) : Awp prog 0 81 (cL (cR (cR (cL (cL (cR (cR (cR (cR (cB f42)))))))))) (Out 0 nrm (z121 qx) r) (z120 qx) := by
  unfold z119 at hF
  refine bE hF fun vr11 h23 hF => cE hF (fun h24 hF => ?_) fun h24 hF => ?_
  · refine awp_region (aR 3 (aCb (z71 h23) [] [] [] h24 ?_))
    refine aR 12 (aE ?_)
    exact oO hF [] [] rfl
  · refine bE hF fun vr12 h25 hF => cE hF (fun h26 hF => ?_) fun h26 hF => ?_
    · refine awp_region (aR 3 (aCb (z71 h23) [] [] [] h24 ?_))
      refine aR 4 (aCb (z71 h25) [] [] [] h26 ?_)
      refine aR 7 (aE ?_)
      exact oO hF [] [] rfl
    · refine bE hF fun vr13 h27 hF => awp_region (aR 3 (aCb (z71 h23) [] [] [] h24 ?_))
      refine aR 4 (aCb (z71 h25) [] [] [] h26 ?_)
      refine aR 4 (aC (z71 h27) [] [] [] (aR 2 (aE ?_)))
      exact oO hF [] [] rfl

def z104 (qx : api_Campaign) (r : Int) : TV × Mem := (.i r, ⟨[], []⟩)

theorem z105 {qx : api_Campaign} {r} (hF : z103 qx = some r) : Holds prog 42 [.v (.agg [.s qx.Key, .i qx.Target.Major, .i qx.Target.Minor, .i qx.Target.Patch, .i qx.At, .l api_Wave.enc qx.Waves, .i qx.Hours.From, .i qx.Hours.To, .i qx.Room])] ⟨[], []⟩ (Is (z104 qx r)) := by
  unfold z103 at hF
  refine hW f42 81 0 0 ?_
  refine sR 2 (awp_seq (awp_block (awp_seq (bE hF fun vr h1 hF => awp_region (aR 2 (aC (z29 h1) [] [] [] (aR 2 (aE ?_))))))))
  refine cE hF (fun h2 hF => ?_) fun h2 hF => ?_
  · exact tT h2 (sR 1 (awp_ret (oF hF [] [])))
  · refine tF h2 (awp_seq (awp_to (st' := z107 qx) (oT [] []) ?_))
    refine bE hF fun vx1 h6 hF => awp_sub (z109 qx h6) ?_
    refine cE hF (fun h7 hF => ?_) fun h7 hF => ?_
    · exact tT h7 (sR 1 (awp_ret (oF hF [] [])))
    · refine tF h7 (awp_seq (awp_region (aR 2 (aL api_Wave.enc qx.Waves (aR 2 (aE ?_))))))
      refine cE hF (fun h8 hF => ?_) fun h8 hF => ?_
      · exact tT h8 (sR 1 (awp_ret (oF hF [] [])))
      · refine tF h8 (awp_seq (awp_region (aR 2 (aL api_Wave.enc qx.Waves (aR 2 (aE ?_))))))
        refine cE hF (fun h9 hF => ?_) fun h9 hF => ?_
        · exact tT h9 (sR 1 (awp_ret (oF hF [] [])))
        · refine tF h9 (awp_skip (sR 1 (awp_seq (awp_seq (awp_region (aR 2 (aL api_Wave.enc qx.Waves (aR 1 (aE ?_)))))))))
          refine awp_block (awp_to (st' := z111 qx (0, 0)) (oT [] []) ?_)
          refine bE hF fun x h21 hF => ?_
          rcases x with vx6_1 | _
          · refine awp_sub (awp_loop' (z111 qx) z113 (z112 qx) (by intro x; rcases x with x | x <;> exact fun h => nomatch h) h21 (z114 qx)) ?_
            refine awp_seq (awp_block (sR 3 (cE hF (fun h22 hF => ?_) fun h22 hF => ?_)))
            · exact tT h22 (sR 1 (awp_ret (oF hF [] [])))
            · refine tF h22 (awp_seq (awp_to (st' := z120 qx) (oT [] []) ?_))
              refine bE hF fun vx7_1 h28 hF => awp_sub (z122 qx h28) ?_
              refine cE hF (fun h29 hF => ?_) fun h29 hF => ?_
              · exact tT h29 (sR 1 (awp_ret (oF hF [] [])))
              · exact tF h29 (awp_skip (sR 1 (awp_ret (oF hF [] []))))
          · refine awp_sub (awp_loop' (z111 qx) z113 (z112 qx) (by intro x; rcases x with x | x <;> exact fun h => nomatch h) h21 (z114 qx)) ?_
            exact oF hF [] []

/-! ### beaconfleet/base.Hash -/
def z21 (qparts : List (List UInt8)) (vh : Int) (vx : Int) (vy1 : List UInt8) : Int → St
  | vh4 => Mem.st ⟨[], []⟩ (tl [(3, .c (.d (.int .u64 vh4))), (5, .c (.s vy1)), (7, .c (.l encS qparts)), (8, .i (qparts.length : Int)), (9, .i vx)]) 0

def z20 (qparts : List (List UInt8)) (vh : Int) (vx : Int) (vy1 : List UInt8) : St := Mem.st ⟨[], []⟩ (tl [(3, .c (.d (.int .u64 vh))), (4, .i vx), (5, .c (.s vy1)), (7, .c (.l encS qparts)), (8, .i (qparts.length : Int)), (9, .i vx)]) 0

theorem z22 (qparts : List (List UInt8)) (vh : Int) (vx : Int) (vy1 : List UInt8) {r} (hF : z19 vh vx = some r) : Awp prog 0 33 (cL (cR (cL (cL (cR (cR (cL (cL (cR (cL (cR (cR (cB f173))))))))))))) (Out 0 nrm (z21 qparts vh vx vy1) r) (z20 qparts vh vx vy1) := by
  unfold z19 at hF
  refine sR 2 (cE hF (fun h3 hF => ?_) fun h3 hF => ?_)
  · exact tT h3 (gR 3 (oO hF [] [] rfl))
  · exact tF h3 (awp_skip (oO hF [] [] rfl))

def z26 : Int → AEx
  | _ => .exit 2

def z25 (qparts : List (List UInt8)) (vx : Int) (vy1 : List UInt8) : Int → St
  | vh6 => Mem.st ⟨[], []⟩ (tl [(3, .c (.d (.int .u64 vh6))), (7, .c (.l encS qparts)), (8, .i (qparts.length : Int)), (9, .i vx)]) 0

def z24 (qparts : List (List UInt8)) (vx : Int) (vy1 : List UInt8) : Int × Int → St
  | (vh5, vx2) => Mem.st ⟨[], []⟩ (tl [(3, .c (.d (.int .u64 vh5))), (5, .c (.s vy1)), (7, .c (.l encS qparts)), (8, .i (qparts.length : Int)), (9, .i vx), (19, .i (vy1.length : Int)), (20, .i vx2)]) 0

theorem z27 (qparts : List (List UInt8)) (vx : Int) (vy1 : List UInt8) (s : Int × Int) (r : (Int × Int) ⊕ (Int)) (hF : z23 vy1 s = some r) : Awp prog 0 33 (cL (cL (cR (cR (cR (cL (cL (cR (cR (cL (cL (cR (cL (cR (cR (cB f173)))))))))))))))) (Out 0 (kk z26) (SS (z24 qparts vx vy1) (z25 qparts vx vy1)) r) (z24 qparts vx vy1 s) := by
  obtain ⟨vh5, vx2⟩ := s
  unfold z23 at hF
  refine sR 1 (awp_seq (cE hF (fun h5 hF => ?_) fun h5 hF => ?_))
  · refine tT h5 (awp_skip (awp_seq (awp_block (sR 2 (bE hF fun vc3 h6 hF => awp_region (aR 3 (aX (x_idxS h6) (aR 4 (aE ?_)))))))))
    exact gR 2 (oO hF [] [] rfl)
  · refine tF h5 (awp_exit ?_)
    exact oO hF [] [] rfl

def z17 : Int → AEx
  | _ => .exit 0

def z16 (qparts : List (List UInt8)) : Int → St
  | vh7 => Mem.st ⟨[], []⟩ (tl [(3, .c (.d (.int .u64 vh7)))]) 0

def z15 (qparts : List (List UInt8)) : Int × Int → St
  | (vh, vx) => Mem.st ⟨[], []⟩ (tl [(3, .c (.d (.int .u64 vh))), (7, .c (.l encS qparts)), (8, .i (qparts.length : Int)), (9, .i vx)]) 0

theorem z18 (qparts : List (List UInt8)) (s : Int × Int) (r : (Int × Int) ⊕ (Int)) (hF : z14 qparts s = some r) : Awp prog 0 33 (cL (cL (cR (cL (cR (cR (cB f173))))))) (Out 0 (kk z17) (SS (z15 qparts) (z16 qparts)) r) (z15 qparts s) := by
  obtain ⟨vh, vx⟩ := s
  unfold z14 at hF
  refine sR 1 (awp_seq (cE hF (fun h1 hF => ?_) fun h1 hF => ?_))
  · refine tT h1 (awp_skip (awp_seq (awp_block (awp_seq (bE hF fun vy1 h2 hF => awp_region (aR 1 (aX (x_idx encS h2) (aR 3 (aE ?_)))))))))
    refine awp_seq (awp_to (st' := z20 qparts vh vx vy1) (oT [] []) ?_)
    refine bE hF fun vh4_1 h4 hF => awp_sub (z22 qparts vh vx vy1 h4) ?_
    refine sR 3 (awp_block (awp_to (st' := z24 qparts vx vy1 (vh4_1, 0)) (oT [] []) ?_))
    refine bE hF fun vh6_1 h7 hF => awp_sub (awp_loop' (z24 qparts vx vy1) z26 (z25 qparts vx vy1) (by intro x; exact fun h => nomatch h) h7 (z27 qparts vx vy1)) ?_
    exact gR 2 (oO hF [] [] rfl)
  · refine tF h1 (awp_exit ?_)
    exact oO hF [] [] rfl

def z12 (qparts : List (List UInt8)) (r : Int) : TV × Mem := (.c (.d (.int .u64 r)), ⟨[], []⟩)

theorem z13 {qparts : List (List UInt8)} {r} (hF : base_Hash qparts = some r) : Holds prog 173 [.c (.l encS qparts)] ⟨[], []⟩ (Is (z12 qparts r)) := by
  unfold base_Hash at hF
  refine hW f173 33 0 0 ?_
  refine sR 1 (sR 1 (awp_seq (awp_seq (awp_region (aR 1 (aL encS qparts (aR 1 (aE ?_))))))))
  refine awp_block (awp_to (st' := z15 qparts (14695981039346656037, 0)) (oT [] []) ?_)
  refine bE hF fun vh7_1 h8 hF => awp_sub (awp_loop' (z15 qparts) z17 (z16 qparts) (by intro x; exact fun h => nomatch h) h8 (z18 qparts)) ?_
  exact sR 2 (awp_ret (oF hF [] []))

/-! ### beaconfleet/campaign.lot -/
def z179 (qc : api_Campaign) (qdevice : List UInt8) (r : Int) : TV × Mem := (.i r, ⟨[], [(0, [.s qc.Key, .i qc.Target.Major, .i qc.Target.Minor, .i qc.Target.Patch, .i qc.At, .l api_Wave.enc qc.Waves, .i qc.Hours.From, .i qc.Hours.To, .i qc.Room])]⟩)

theorem z180 {qc : api_Campaign} {qdevice : List UInt8} {r} (hF : z178 qc qdevice = some r) : Holds prog 143 [.c (.box 0 0), .c (.s qdevice)] ⟨[], [(0, [.s qc.Key, .i qc.Target.Major, .i qc.Target.Minor, .i qc.Target.Patch, .i qc.At, .l api_Wave.enc qc.Waves, .i qc.Hours.From, .i qc.Hours.To, .i qc.Room])]⟩ (Is (z179 qc qdevice r)) := by
  unfold z178 at hF
  refine hW f143 19 1 1 ?_
  refine sR 1 (awp_seq (bE hF fun vr h1 hF => awp_region (aR 6 (aC (z13 h1) [] [] [6001] (aR 1 (aE ?_))))))
  exact sR 7 (awp_ret (oF hF [] []))

/-! ### beaconfleet/campaign.waveOf -/
def z187 : Unit ⊕ Int → AEx
  | .inl _ => .exit 0
  | .inr _ => .ret

def z186 (qc : api_Campaign) (vr1 : Int) : Unit ⊕ Int → St
  | .inl _ => Mem.st ⟨[], [(0, [.s qc.Key, .i qc.Target.Major, .i qc.Target.Minor, .i qc.Target.Patch, .i qc.At, .l api_Wave.enc qc.Waves, .i qc.Hours.From, .i qc.Hours.To, .i qc.Room])]⟩ (tl [(0, .c (.box 0 0))]) 1
  | .inr vx1 => Mem.st ⟨[], [(0, [.s qc.Key, .i qc.Target.Major, .i qc.Target.Minor, .i qc.Target.Patch, .i qc.At, .l api_Wave.enc qc.Waves, .i qc.Hours.From, .i qc.Hours.To, .i qc.Room])]⟩ (tl [(4, .i vx1)]) 1

def z185 (qc : api_Campaign) (vr1 : Int) : Int × Int → St
  | (vsum, vx) => Mem.st ⟨[], [(0, [.s qc.Key, .i qc.Target.Major, .i qc.Target.Minor, .i qc.Target.Patch, .i qc.At, .l api_Wave.enc qc.Waves, .i qc.Hours.From, .i qc.Hours.To, .i qc.Room])]⟩ (tl [(0, .c (.box 0 0)), (5, .i vr1), (6, .i vsum), (15, .c (.l api_Wave.enc qc.Waves)), (16, .i (qc.Waves.length : Int)), (17, .i vx)]) 1

theorem z188 (qc : api_Campaign) (vr1 : Int) (s : Int × Int) (r : (Int × Int) ⊕ (Unit ⊕ Int)) (hF : z184 qc vr1 s = some r) : Awp prog 1 37 (cL (cL (cR (cL (cR (cR (cB f99))))))) (Out 1 (kk z187) (SS (z185 qc vr1) (z186 qc vr1)) r) (z185 qc vr1 s) := by
  obtain ⟨vsum, vx⟩ := s
  unfold z184 at hF
  refine sR 1 (awp_seq (cE hF (fun h2 hF => ?_) fun h2 hF => ?_))
  · refine tT h2 (awp_skip (awp_seq (awp_block (awp_seq (bE hF fun vy1 h3 hF => awp_region (aR 1 (aX (x_idx api_Wave.enc h3) (aR 4 (aE ?_)))))))))
    refine sR 5 (sR 3 (cE hF (fun h4 hF => ?_) fun h4 hF => ?_))
    · exact tT h4 (sR 2 (awp_ret (oO hF [] [] rfl)))
    · exact tF h4 (awp_skip (gR 2 (oO hF [] [] rfl)))
  · refine tF h2 (awp_exit ?_)
    exact oO hF [] [] rfl

def z182 (qc : api_Campaign) (qdevice : List UInt8) (r : Int) : TV × Mem := (.i r, ⟨[], [(0, [.s qc.Key, .i qc.Target.Major, .i qc.Target.Minor, .i qc.Target.Patch, .i qc.At, .l api_Wave.enc qc.Waves, .i qc.Hours.From, .i qc.Hours.To, .i qc.Room])]⟩)

theorem z183 {qc : api_Campaign} {qdevice : List UInt8} {r} (hF : z181 qc qdevice = some r) : Holds prog 99 [.c (.box 0 0), .c (.s qdevice)] ⟨[], [(0, [.s qc.Key, .i qc.Target.Major, .i qc.Target.Minor, .i qc.Target.Patch, .i qc.At, .l api_Wave.enc qc.Waves, .i qc.Hours.From, .i qc.Hours.To, .i qc.Room])]⟩ (Is (z182 qc qdevice r)) := by
  unfold z181 at hF
  refine hW f99 37 1 1 ?_
  refine sR 1 (awp_seq (bE hF fun vr1 h1 hF => awp_region (aR 2 (aC (z180 h1) [] [] [] (aR 2 (aE ?_))))))
  refine awp_seq (awp_seq (awp_region (aR 4 (aL api_Wave.enc qc.Waves (aR 1 (aE ?_))))))
  refine awp_block (awp_to (st' := z185 qc vr1 (0, 0)) (oT [] []) ?_)
  refine bE hF fun x h5 hF => ?_
  rcases x with _ | vx1_1
  · refine awp_sub (awp_loop' (z185 qc vr1) z187 (z186 qc vr1) (by intro x; rcases x with x | x <;> exact fun h => nomatch h) h5 (z188 qc vr1)) ?_
    refine awp_seq (awp_region (aR 4 (aL api_Wave.enc qc.Waves (aR 2 (aE ?_)))))
    exact awp_ret (oF hF [] [])
  · refine awp_sub (awp_loop' (z185 qc vr1) z187 (z186 qc vr1) (by intro x; rcases x with x | x <;> exact fun h => nomatch h) h5 (z188 qc vr1)) ?_
    exact oF hF [] []

/-! ### beaconfleet/campaign.Wave -/
def z173 (qc : api_Campaign) (qdevice : List UInt8) (r : Int × Int) : TV × Mem := (.tup [.one (.i r.1), .one (.i r.2)], ⟨[], []⟩)

theorem z174 {qc : api_Campaign} {qdevice : List UInt8} {r} (hF : z172 qc qdevice = some r) : Holds prog 40 [.v (.agg [.s qc.Key, .i qc.Target.Major, .i qc.Target.Minor, .i qc.Target.Patch, .i qc.At, .l api_Wave.enc qc.Waves, .i qc.Hours.From, .i qc.Hours.To, .i qc.Room]), .c (.s qdevice)] ⟨[], []⟩ (Is (z173 qc qdevice r)) := by
  unfold z172 at hF
  refine hW f40 17 0 0 ?_
  refine sR 3 (awp_seq (awp_seq (bE hF fun vr14 h1 hF => awp_region (aR 1 (aC (z105 h1) [] [] [] (aR 1 (aE ?_)))))))
  refine sR 2 (cE hF (fun h2 hF => ?_) fun h2 hF => ?_)
  · exact tT h2 (sR 3 (awp_ret (oF hF [] [])))
  · refine tF h2 (awp_skip (awp_seq (awp_seq (bE hF fun vr h3 hF => awp_region (aR 1 (aC (z29 h3) [] [] [] (aR 1 (aE ?_))))))))
    refine cE hF (fun h4 hF => ?_) fun h4 hF => ?_
    · exact tT h4 (sR 2 (awp_ret (oF hF [] [])))
    · refine tF h4 (awp_skip (awp_seq (bE hF fun vr1 h5 hF => awp_region (aR 1 (aC (z183 h5) [] [] [] (aR 2 (aE ?_)))))))
      exact awp_ret (oF hF [] [])

/-! ### cmp.isNaN[int] -/
def z201 (qx : Int) (r : Unit) : TV × Mem := (.b (!decide (qx = qx)), ⟨[], []⟩)

theorem z202 {qx : Int} {r} (hF : z200 qx = some r) : Holds prog 146 [.i qx] ⟨[], []⟩ (Is (z201 qx r)) := by
  unfold z200 at hF
  refine hW f146 6 0 0 ?_
  exact sR 1 (sR 4 (awp_ret (oF hF [] [])))

/-! ### cmp.Compare[int] -/
def z190 (qx : Int) (qy : Int) (r : Int) : TV × Mem := (.i r, ⟨[], []⟩)

theorem z191 {qx : Int} {qy : Int} {r} (hF : z189 qx qy = some r) : Holds prog 106 [.i qx, .i qy] ⟨[], []⟩ (Is (z190 qx qy r)) := by
  unfold z189 at hF
  refine hW f106 20 0 0 ?_
  refine sR 1 (awp_seq (bE hF fun _ h1 hF => awp_region (aR 1 (aC (z202 h1) [] [] [] (aR 1 (aE ?_))))))
  refine awp_seq (bE hF fun _ h2 hF => awp_region (aR 1 (aC (z202 h2) [] [] [] (aR 1 (aE ?_)))))
  refine awp_seq (sR 1 (cE hF (fun h3 hF => ?_) fun h3 hF => ?_))
  · refine tT h3 (awp_seq (sR 1 (cE hF (fun h4 hF => ?_) fun h4 hF => ?_)))
    · exact tT h4 (sR 1 (awp_ret (oF hF [] [])))
    · exact tF h4 (awp_skip (sR 1 (awp_ret (oF hF [] []))))
  · refine tF h3 (awp_skip (awp_seq (sR 1 (cE hF (fun h5 hF => ?_) fun h5 hF => ?_))))
    · exact tT h5 (sR 1 (awp_ret (oF hF [] [])))
    · refine tF h5 (awp_skip (awp_seq (sR 3 (cE hF (fun h6 hF => ?_) fun h6 hF => ?_))))
      · exact tT h6 (sR 1 (awp_ret (oF hF [] [])))
      · refine tF h6 (awp_skip (awp_seq (sR 3 (cE hF (fun h7 hF => ?_) fun h7 hF => ?_))))
        · exact tT h7 (sR 1 (awp_ret (oF hF [] [])))
        · exact tF h7 (awp_skip (sR 1 (awp_ret (oF hF [] []))))

/-! ### cmp.Or[int] -/
def z198 : Unit ⊕ Int → AEx
  | .inl _ => .exit 0
  | .inr _ => .ret

def z197 (qvals : List Int) : Unit ⊕ Int → St
  | .inl _ => Mem.st ⟨[], []⟩ (tl [(3, .i 0)]) 0
  | .inr vx1 => Mem.st ⟨[], []⟩ (tl [(2, .i vx1)]) 0

def z196 (qvals : List Int) : Int → St
  | vx => Mem.st ⟨[], []⟩ (tl [(3, .i 0), (6, .c (.l (encI .i64) qvals)), (7, .i (qvals.length : Int)), (8, .i vx)]) 0

theorem z199 (qvals : List Int) (vx : Int) (r : (Int) ⊕ (Unit ⊕ Int)) (hF : z195 qvals vx = some r) : Awp prog 0 18 (cL (cL (cR (cL (cR (cR (cB f104))))))) (Out 0 (kk z198) (SS (z196 qvals) (z197 qvals)) r) (z196 qvals vx) := by
  unfold z195 at hF
  refine sR 1 (awp_seq (cE hF (fun h1 hF => ?_) fun h1 hF => ?_))
  · refine tT h1 (awp_skip (awp_seq (awp_block (awp_seq (bE hF fun vy1 h2 hF => awp_region (aX (x_idx (encI .i64) h2) (aR 2 (aE ?_))))))))
    refine sR 3 (cE hF (fun h3 hF => ?_) fun h3 hF => ?_)
    · exact tT h3 (sR 2 (awp_ret (oO hF [] [] rfl)))
    · exact tF h3 (awp_skip (gR 2 (oO hF [] [] rfl)))
  · refine tF h1 (awp_exit ?_)
    exact oO hF [] [] rfl

def z193 (qvals : List Int) (r : Int) : TV × Mem := (.i r, ⟨[], []⟩)

theorem z194 {qvals : List Int} {r} (hF : z192 qvals = some r) : Holds prog 104 [.c (.l (encI .i64) qvals)] ⟨[], []⟩ (Is (z193 qvals r)) := by
  unfold z192 at hF
  refine hW f104 18 0 0 ?_
  refine sR 1 (sR 1 (awp_seq (awp_seq (awp_region (aR 1 (aL (encI .i64) qvals (aR 1 (aE ?_))))))))
  refine awp_block (awp_to (st' := z196 qvals 0) (oT [] []) ?_)
  refine bE hF fun x h4 hF => ?_
  rcases x with _ | vx1_1
  · refine awp_sub (awp_loop' (z196 qvals) z198 (z197 qvals) (by intro x; rcases x with x | x <;> exact fun h => nomatch h) h4 (z199 qvals)) ?_
    exact sR 2 (awp_ret (oF hF [] []))
  · refine awp_sub (awp_loop' (z196 qvals) z198 (z197 qvals) (by intro x; rcases x with x | x <;> exact fun h => nomatch h) h4 (z199 qvals)) ?_
    exact oF hF [] []

/-! ### beaconfleet/campaign.byMoment -/
def z176 (qa : api_Mark) (qb : api_Mark) (r : Int) : TV × Mem := (.i r, ⟨[], []⟩)

theorem z177 {qa : api_Mark} {qb : api_Mark} {r} (hF : z175 qa qb = some r) : Holds prog 105 [.v (.agg [.i qa.At, .s qa.Device, .i qa.Kind, .i qa.Version.Major, .i qa.Version.Minor, .i qa.Version.Patch]), .v (.agg [.i qb.At, .s qb.Device, .i qb.Kind, .i qb.Version.Major, .i qb.Version.Minor, .i qb.Version.Patch])] ⟨[], []⟩ (Is (z176 qa qb r)) := by
  unfold z175 at hF
  refine hW f105 17 0 0 ?_
  refine sR 3 (awp_seq (bE hF fun vr h1 hF => bE hF fun _ h2 hF => bE hF fun vr1 h3 hF => aD ?_))
  refine dR 4 ?_
  refine dC (z191 h1) [] [] [] ?_
  refine dR 4 ?_
  refine dC (z932 h2) [] [] [] ?_
  refine dR 1 ?_
  refine dC (z194 h3) [] [] [13000] ?_
  refine dR 1 ?_
  refine dE ?_
  exact awp_ret (oF hF [] [])

/-! ### beaconfleet/campaign.CheckMarks -/
def z149 (ql : List api_Mark) (vx : Int) (vy2 : api_Mark) : Bool → St
  | vx2 => Mem.st ⟨[], []⟩ (tl [(0, .c (.l api_Mark.enc ql)), (8, .c (.l api_Mark.enc ql)), (9, .i (ql.length : Int)), (10, .i vx), (34, .b vx2)]) 0

def z148 (ql : List api_Mark) (vx : Int) (vy2 : api_Mark) : St := Mem.st ⟨[], [(0, [.i vy2.At, .s vy2.Device, .i vy2.Kind, .i vy2.Version.Major, .i vy2.Version.Minor, .i vy2.Version.Patch])]⟩ (tl [(0, .c (.l api_Mark.enc ql)), (3, .i vx), (4, .c (.box 0 0)), (8, .c (.l api_Mark.enc ql)), (9, .i (ql.length : Int)), (10, .i vx)]) 1

theorem z150 (ql : List api_Mark) (vx : Int) (vy2 : api_Mark) {r} (hF : z147 ql vx vy2 = some r) : Awp prog 0 48 (cL (cR (cR (cR (cR (cR (cR (cR (cR (cL (cR (cL (cL (cR (cR (cL (cL (cR (cL (cR (cR (cB f44)))))))))))))))))))))) (Out 0 nrm (z149 ql vx vy2) r) (z148 ql vx vy2) := by
  unfold z147 at hF
  refine cE hF (fun h12 hF => ?_) fun h12 hF => ?_
  · refine bE hF fun vy3 h13 hF => bE hF fun vr2_2 h14 hF => aD ?_
    refine dR 1 ?_
    refine dB h12 ?_
    refine dR 5 ?_
    refine dX (x_idx api_Mark.enc h13) ?_
    refine dR 1 ?_
    refine dC (z177 h14) [] [] [] ?_
    refine dR 3 ?_
    refine dE ?_
    exact oO hF [] [] rfl
  · refine aD ?_
    refine dR 1 ?_
    refine dB h12 ?_
    refine dR 11 ?_
    refine dE ?_
    exact oO hF [] [] rfl

def z145 : Unit ⊕ Int → AEx
  | .inl _ => .exit 0
  | .inr _ => .ret

def z144 (ql : List api_Mark) : Unit ⊕ Int → St
  | .inl _ => Mem.st ⟨[], []⟩ (tl []) 0
  | .inr vx3 => Mem.st ⟨[], []⟩ (tl [(2, .i vx3)]) 0

def z143 (ql : List api_Mark) : Int → St
  | vx => Mem.st ⟨[], []⟩ (tl [(0, .c (.l api_Mark.enc ql)), (8, .c (.l api_Mark.enc ql)), (9, .i (ql.length : Int)), (10, .i vx)]) 0

theorem z146 (ql : List api_Mark) (vx : Int) (r : (Int) ⊕ (Unit ⊕ Int)) (hF : z142 ql vx = some r) : Awp prog 0 48 (cL (cL (cR (cL (cR (cR (cB f44))))))) (Out 0 (kk z145) (SS (z143 ql) (z144 ql)) r) (z143 ql vx) := by
  unfold z142 at hF
  refine sR 1 (awp_seq (cE hF (fun h2 hF => ?_) fun h2 hF => ?_))
  · refine tT h2 (awp_skip (awp_seq (awp_block (awp_seq (bE hF fun vy2 h3 hF => awp_region (aR 1 (aX (x_idx api_Mark.enc h3) (aR 4 (aE ?_)))))))))
    refine awp_block (awp_seq (bE hF fun vr1_1 h4 hF => awp_region (aR 2 (aC (z45 h4) [] [] [] (aR 2 (aE ?_))))))
    refine cE hF (fun h5 hF => ?_) fun h5 hF => ?_
    · exact tT h5 (sR 1 (awp_ret (oO hF [] [] rfl)))
    · refine tF h5 (awp_seq (bE hF fun vr4 h6 hF => awp_region (aR 2 (aC (z29 h6) [] [] [] (aR 2 (aE ?_))))))
      refine cE hF (fun h7 hF => ?_) fun h7 hF => ?_
      · exact tT h7 (sR 1 (awp_ret (oO hF [] [] rfl)))
      · refine tF h7 (awp_seq (bE hF fun vr5 h8 hF => awp_region (aR 2 (aC (z71 h8) [] [] [] (aR 1 (aE ?_))))))
        refine cE hF (fun h9 hF => ?_) fun h9 hF => ?_
        · exact tT h9 (sR 1 (awp_ret (oO hF [] [] rfl)))
        · refine tF h9 (awp_seq (bE hF fun vr3_1 h10 hF => awp_region (aR 2 (aC (z78 h10) [] [] [] (aR 2 (aE ?_))))))
          refine cE hF (fun h11 hF => ?_) fun h11 hF => ?_
          · exact tT h11 (sR 1 (awp_ret (oO hF [] [] rfl)))
          · refine tF h11 (awp_seq (awp_to (st' := z148 ql vx vy2) (oT [(0, 4000)] []) ?_))
            refine bE hF fun vx2_1 h15 hF => awp_sub (z150 ql vx vy2 h15) ?_
            refine cE hF (fun h16 hF => ?_) fun h16 hF => ?_
            · exact tT h16 (sR 1 (awp_ret (oO hF [] [] rfl)))
            · exact tF h16 (awp_skip (gR 2 (oO hF [] [] rfl)))
  · refine tF h2 (awp_exit ?_)
    exact oO hF [] [] rfl

def z140 (ql : List api_Mark) (r : Int) : TV × Mem := (.i r, ⟨[], []⟩)

theorem z141 {ql : List api_Mark} {r} (hF : z139 ql = some r) : Holds prog 44 [.c (.l api_Mark.enc ql)] ⟨[], []⟩ (Is (z140 ql r)) := by
  unfold z139 at hF
  refine hW f44 48 0 0 ?_
  refine sR 1 (awp_seq (awp_seq (awp_region (aR 1 (aL api_Mark.enc ql (aR 1 (aE ?_)))))))
  refine cE hF (fun h1 hF => ?_) fun h1 hF => ?_
  · exact tT h1 (sR 1 (awp_ret (oF hF [] [])))
  · refine tF h1 (awp_skip (awp_seq (awp_seq (awp_region (aR 1 (aL api_Mark.enc ql (aR 1 (aE ?_))))))))
    refine awp_block (awp_to (st' := z143 ql 0) (oT [] []) ?_)
    refine bE hF fun x h17 hF => ?_
    rcases x with _ | vx3_1
    · refine awp_sub (awp_loop' (z143 ql) z145 (z144 ql) (by intro x; rcases x with x | x <;> exact fun h => nomatch h) h17 (z146 ql)) ?_
      exact sR 1 (awp_ret (oF hF [] []))
    · refine awp_sub (awp_loop' (z143 ql) z145 (z144 ql) (by intro x; rcases x with x | x <;> exact fun h => nomatch h) h17 (z146 ql)) ?_
      exact oF hF [] []

/-! ### beaconfleet/base.First -/
def z10 : Unit ⊕ Int → AEx
  | .inl _ => .exit 0
  | .inr _ => .ret

def z9 (ql : List Int) : Unit ⊕ Int → St
  | .inl _ => Mem.st ⟨[], []⟩ (tl []) 0
  | .inr vx1 => Mem.st ⟨[], []⟩ (tl [(2, .i vx1)]) 0

def z8 (ql : List Int) : Int → St
  | vx => Mem.st ⟨[], []⟩ (tl [(5, .c (.l (encI .i64) ql)), (6, .i (ql.length : Int)), (7, .i vx)]) 0

theorem z11 (ql : List Int) (vx : Int) (r : (Int) ⊕ (Unit ⊕ Int)) (hF : z7 ql vx = some r) : Awp prog 0 15 (cL (cL (cR (cL (cR (cB f100)))))) (Out 0 (kk z10) (SS (z8 ql) (z9 ql)) r) (z8 ql vx) := by
  unfold z7 at hF
  refine sR 1 (awp_seq (cE hF (fun h1 hF => ?_) fun h1 hF => ?_))
  · refine tT h1 (awp_skip (awp_seq (awp_block (awp_seq (bE hF fun vy1 h2 hF => awp_region (aX (x_idx (encI .i64) h2) (aR 2 (aE ?_))))))))
    refine sR 2 (cE hF (fun h3 hF => ?_) fun h3 hF => ?_)
    · exact tT h3 (sR 2 (awp_ret (oO hF [] [] rfl)))
    · exact tF h3 (awp_skip (gR 2 (oO hF [] [] rfl)))
  · refine tF h1 (awp_exit ?_)
    exact oO hF [] [] rfl

def z5 (ql : List Int) (r : Int) : TV × Mem := (.i r, ⟨[], []⟩)

theorem z6 {ql : List Int} {r} (hF : z4 ql = some r) : Holds prog 100 [.c (.l (encI .i64) ql)] ⟨[], []⟩ (Is (z5 ql r)) := by
  unfold z4 at hF
  refine hW f100 15 0 0 ?_
  refine sR 1 (awp_seq (awp_seq (awp_region (aR 1 (aL (encI .i64) ql (aR 1 (aE ?_)))))))
  refine awp_block (awp_to (st' := z8 ql 0) (oT [] []) ?_)
  refine bE hF fun x h4 hF => ?_
  rcases x with _ | vx1_1
  · refine awp_sub (awp_loop' (z8 ql) z10 (z9 ql) (by intro x; rcases x with x | x <;> exact fun h => nomatch h) h4 (z11 ql)) ?_
    exact sR 1 (awp_ret (oF hF [] []))
  · refine awp_sub (awp_loop' (z8 ql) z10 (z9 ql) (by intro x; rcases x with x | x <;> exact fun h => nomatch h) h4 (z11 ql)) ?_
    exact oF hF [] []

/-! ### slices.Grow[[]beaconfleet/api.Mark,beaconfleet/api.Mark] -/
def z532 (qn : Int) : (List api_Mark) → St
  | vs => Mem.st ⟨[(0, ⟨88, 6, List.map api_Mark.enc vs⟩)], []⟩ (tl [(0, .c (.own 0 none))]) 1

def z531 (qn : Int) : St := Mem.st ⟨[], []⟩ (tl [(0, .c (.nil)), (1, .i qn)]) 0

theorem z533 (qn : Int) {r} (hF : z530 qn = some r) : Awp prog 0 27 (cL (cR (cR (cB f144)))) (Out 0 nrm (z532 qn) r) (z531 qn) := by
  unfold z530 at hF
  refine awp_seq (awp_region (aR 2 (aK rfl ?_)))
  refine aR 5 (aE ?_)
  refine sR 2 (cE hF (fun h3 hF => ?_) fun h3 hF => ?_)
  · refine tT h3 (gE hF fun h4 hF => ?_)
    refine gE hF fun h5 hF => ?_
    refine awp_region (aR 2 (aK rfl ?_))
    refine aSn rfl ?_
    refine aR 1 (aZ api_Mark.enc (api_Mark.mk 0 ([] : List UInt8) 0 (api_Version.mk 0 0 0)) h4 rfl ?_)
    refine aR 2 (aT api_Mark.enc 15000 h5 rfl ?_)
    refine aR 1 (aE ?_)
    exact oO hF [(0, 18000)] [] rfl
  · exact tF h3 (awp_skip (oO hF [] [0] rfl))

def z528 (qn : Int) (r : (List api_Mark)) : TV × Mem := (.c (.own 0 none), ⟨[(0, ⟨88, 6, List.map api_Mark.enc r⟩)], []⟩)

theorem z529 {qn : Int} {r} (hF : z527 qn = some r) : Holds prog 144 [.c (.nil), .i qn] ⟨[], []⟩ (Is (z528 qn r)) := by
  unfold z527 at hF
  refine hW f144 27 0 0 ?_
  refine sR 1 (awp_seq (sR 2 (cE hF (fun h1 hF => ?_) fun h1 hF => ?_)))
  · exact tT h1 (nE hF)
  · refine tF h1 (awp_skip (awp_seq (awp_to (st' := z531 qn) (oT [] []) ?_)))
    refine bE hF fun vs1 h6 hF => awp_sub (z533 qn h6) ?_
    exact sR 2 (awp_ret (oF hF [] []))

/-! ### slices.Concat[[]beaconfleet/api.Mark,beaconfleet/api.Mark] -/
def z512 : Int → AEx
  | _ => .exit 0

def z511 (qslices : List (List api_Mark)) : Int → St
  | vsize1 => Mem.st ⟨[], []⟩ (tl [(0, .c (.l (encL api_Mark.enc) qslices)), (3, .i vsize1)]) 1

def z510 (qslices : List (List api_Mark)) : Int × Int → St
  | (vsize, vx) => Mem.st ⟨[], []⟩ (tl [(0, .c (.l (encL api_Mark.enc) qslices)), (3, .i vsize), (9, .c (.l (encL api_Mark.enc) qslices)), (10, .i (qslices.length : Int)), (11, .i vx)]) 1

theorem z513 (qslices : List (List api_Mark)) (s : Int × Int) (r : (Int × Int) ⊕ (Int)) (hF : z509 qslices s = some r) : Awp prog 1 36 (cL (cL (cR (cL (cR (cR (cB f101))))))) (Out 1 (kk z512) (SS (z510 qslices) (z511 qslices)) r) (z510 qslices s) := by
  obtain ⟨vsize, vx⟩ := s
  unfold z509 at hF
  refine sR 1 (awp_seq (cE hF (fun h1 hF => ?_) fun h1 hF => ?_))
  · refine tT h1 (awp_skip (awp_seq (awp_block (awp_seq (bE hF fun vy1 h2 hF => awp_region (aX (x_idx (encL api_Mark.enc) h2) (aR 2 (aE ?_))))))))
    refine awp_seq (awp_region (aR 2 (aL api_Mark.enc vy1 (aR 2 (aE ?_)))))
    refine sR 2 (cE hF (fun h3 hF => ?_) fun h3 hF => ?_)
    · exact tT h3 (nE hF)
    · exact tF h3 (awp_skip (gR 2 (oO hF [] [] rfl)))
  · refine tF h1 (awp_exit ?_)
    exact oO hF [] [] rfl

def z517 : (List api_Mark) → AEx
  | _ => .exit 2

def z516 (qslices : List (List api_Mark)) : (List api_Mark) → St
  | vnewslice1 => Mem.st ⟨[(1, ⟨88, 6, List.map api_Mark.enc vnewslice1⟩)], []⟩ (tl [(6, .c (.own 1 none))]) 2

def z515 (qslices : List (List api_Mark)) : (List api_Mark) × Int → St
  | (vnewslice, vx1) => Mem.st ⟨[(1, ⟨88, 6, List.map api_Mark.enc vnewslice⟩)], []⟩ (tl [(6, .c (.own 1 none)), (25, .c (.l (encL api_Mark.enc) qslices)), (26, .i (qslices.length : Int)), (27, .i vx1)]) 2

theorem z518 (qslices : List (List api_Mark)) (s : (List api_Mark) × Int) (r : ((List api_Mark) × Int) ⊕ ((List api_Mark))) (hF : z514 qslices s = some r) : Awp prog 1 36 (cL (cL (cR (cL (cR (cR (cR (cR (cB f101))))))))) (Out 1 (kk z517) (SS (z515 qslices) (z516 qslices)) r) (z515 qslices s) := by
  obtain ⟨vnewslice, vx1⟩ := s
  unfold z514 at hF
  refine sR 1 (awp_seq (cE hF (fun h7 hF => ?_) fun h7 hF => ?_))
  · refine tT h7 (awp_skip (awp_seq (awp_block (awp_seq (bE hF fun vy3 h8 hF => awp_region (aX (x_idx (encL api_Mark.enc) h8) (aR 2 (aE ?_))))))))
    refine gE hF fun h9 hF => ?_
    refine awp_region (aR 2 (aX (x_app api_Mark.enc 1 h9) (aR 1 (aE ?_))))
    exact gR 2 (oO hF [(1, 6002)] [] rfl)
  · refine tF h7 (awp_exit ?_)
    exact oO hF [] [] rfl

def z507 (qslices : List (List api_Mark)) (r : (List api_Mark)) : TV × Mem := (.c (.own 1 none), ⟨[(1, ⟨88, 6, List.map api_Mark.enc r⟩)], []⟩)

theorem z508 {qslices : List (List api_Mark)} {r} (hF : z506 qslices = some r) : Holds prog 101 [.c (.own 0 none)] ⟨[(0, ⟨37, 1, List.map (encL api_Mark.enc) qslices⟩)], []⟩ (Is (z507 qslices r)) := by
  unfold z506 at hF
  refine hW f101 36 1 1 ?_
  refine sR 1 (awp_to (oT (m := ⟨[], []⟩) (ts := [(0, .c (.l (encL api_Mark.enc) qslices))]) (nx := 1) [] []) ?_)
  refine sR 1 (awp_seq (awp_seq (awp_region (aR 1 (aL (encL api_Mark.enc) qslices (aR 1 (aE ?_)))))))
  refine awp_block (awp_to (st' := z510 qslices (0, 0)) (oT [] []) ?_)
  refine bE hF fun vsize1_1 h5 hF => awp_sub (awp_loop' (z510 qslices) z512 (z511 qslices) (by intro x; exact fun h => nomatch h) h5 (z513 qslices)) ?_
  refine awp_seq (bE hF fun vr h6 hF => awp_region (aR 1 (aC (z529 h6) [] [] [] (aR 1 (aE ?_)))))
  refine awp_seq (awp_seq (awp_region (aR 1 (aL (encL api_Mark.enc) qslices (aR 1 (aE ?_))))))
  refine awp_block (awp_to (st' := z515 qslices (vr, 0)) (oT [(1, 1001)] []) ?_)
  refine bE hF fun vnewslice1_1 h10 hF => awp_sub (awp_loop' (z515 qslices) z517 (z516 qslices) (by intro x; exact fun h => nomatch h) h10 (z518 qslices)) ?_
  exact sR 2 (awp_ret (oF hF [] []))

/-! ### math/bits.Len64 -/
def z88 (qx : Int) : (Int × Int) → St
  | (vx, vn) => Mem.st ⟨[], []⟩ (tl [(0, .c (.d (.int .u64 vx))), (2, .i vn)]) 0

def z87 (qx : Int) : St := Mem.st ⟨[], []⟩ (tl [(0, .c (.d (.int .u64 qx))), (2, .i 0)]) 0

theorem z89 (qx : Int) {r} (hF : z86 qx = some r) : Awp prog 0 25 (cL (cR (cB f169))) (Out 0 nrm (z88 qx) r) (z87 qx) := by
  unfold z86 at hF
  refine sR 2 (cE hF (fun h1 hF => ?_) fun h1 hF => ?_)
  · exact tT h1 (sR 3 (gR 1 (oO hF [] [] rfl)))
  · exact tF h1 (awp_skip (oO hF [] [] rfl))

def z92 (vx1 : Int) (vn1 : Int) : (Int × Int) → St
  | (vx2, vn2) => Mem.st ⟨[], []⟩ (tl [(0, .c (.d (.int .u64 vx2))), (2, .i vn2)]) 0

def z91 (vx1 : Int) (vn1 : Int) : St := Mem.st ⟨[], []⟩ (tl [(0, .c (.d (.int .u64 vx1))), (2, .i vn1)]) 0

theorem z93 (vx1 : Int) (vn1 : Int) {r} (hF : z90 vx1 vn1 = some r) : Awp prog 0 25 (cL (cR (cR (cB f169)))) (Out 0 nrm (z92 vx1 vn1) r) (z91 vx1 vn1) := by
  unfold z90 at hF
  refine sR 2 (cE hF (fun h3 hF => ?_) fun h3 hF => ?_)
  · exact tT h3 (sR 3 (gR 3 (oO hF [] [] rfl)))
  · exact tF h3 (awp_skip (oO hF [] [] rfl))

def z96 (vx2_1 : Int) (vn2_1 : Int) : (Int × Int) → St
  | (vx3, vn3) => Mem.st ⟨[], []⟩ (tl [(0, .c (.d (.int .u64 vx3))), (2, .i vn3)]) 0

def z95 (vx2_1 : Int) (vn2_1 : Int) : St := Mem.st ⟨[], []⟩ (tl [(0, .c (.d (.int .u64 vx2_1))), (2, .i vn2_1)]) 0

theorem z97 (vx2_1 : Int) (vn2_1 : Int) {r} (hF : z94 vx2_1 vn2_1 = some r) : Awp prog 0 25 (cL (cR (cR (cR (cB f169))))) (Out 0 nrm (z96 vx2_1 vn2_1) r) (z95 vx2_1 vn2_1) := by
  unfold z94 at hF
  refine sR 2 (cE hF (fun h5 hF => ?_) fun h5 hF => ?_)
  · exact tT h5 (sR 3 (gR 3 (oO hF [] [] rfl)))
  · exact tF h5 (awp_skip (oO hF [] [] rfl))

def z84 (qx : Int) (r : Int) : TV × Mem := (.i r, ⟨[], []⟩)

theorem z85 {qx : Int} {r} (hF : z83 qx = some r) : Holds prog 169 [.c (.d (.int .u64 qx))] ⟨[], []⟩ (Is (z84 qx r)) := by
  unfold z83 at hF
  refine hW f169 25 0 0 ?_
  refine sR 1 (awp_seq (awp_to (st' := z87 qx) (oT [] []) ?_))
  refine bE hF fun x h2 hF => ?_
  obtain ⟨vx1, vn1⟩ := x
  refine awp_sub (z89 qx h2) ?_
  refine awp_seq (awp_to (st' := z91 vx1 vn1) (oT [] []) ?_)
  refine bE hF fun x h4 hF => ?_
  obtain ⟨vx2_1, vn2_1⟩ := x
  refine awp_sub (z93 vx1 vn1 h4) ?_
  refine awp_seq (awp_to (st' := z95 vx2_1 vn2_1) (oT [] []) ?_)
  refine bE hF fun x h6 hF => ?_
  obtain ⟨vx3_1, vn3_1⟩ := x
  refine awp_sub (z97 vx2_1 vn2_1 h6) ?_
  refine awp_seq (bE hF fun vc h7 hF => awp_region (aR 3 (aX (x_idxS h7) (aR 3 (aE ?_)))))
  exact awp_ret (oF hF [] [])

/-! ### math/bits.Len -/
def z98 (qx : Int) (r : Int) : TV × Mem := (.i r, ⟨[], []⟩)

theorem z99 {qx : Int} {r} (hF : bits_Len qx = some r) : Holds prog 134 [.c (.d (.int .u64 qx))] ⟨[], []⟩ (Is (z98 qx r)) := by
  unfold bits_Len at hF
  refine hW f134 8 0 0 ?_
  refine sR 1 (awp_seq (tF rfl (awp_skip (awp_seq (bE hF fun vr h1 hF => awp_region (aR 1 (aC (z85 h1) [] [] [] (aR 1 (aE ?_)))))))))
  exact awp_ret (oF hF [] [])

/-! ### beaconfleet/campaign.Compare -/
def z152 (qa : api_Version) (qb : api_Version) (r : Int) : TV × Mem := (.i r, ⟨[], []⟩)

theorem z153 {qa : api_Version} {qb : api_Version} {r} (hF : z151 qa qb = some r) : Holds prog 83 [.v (.agg [.i qa.Major, .i qa.Minor, .i qa.Patch]), .v (.agg [.i qb.Major, .i qb.Minor, .i qb.Patch])] ⟨[], []⟩ (Is (z152 qa qb r)) := by
  unfold z151 at hF
  refine hW f83 22 0 0 ?_
  refine sR 3 (awp_seq (bE hF fun vr h1 hF => bE hF fun vr1 h2 hF => bE hF fun vr2 h3 hF => bE hF fun vr3 h4 hF => aD ?_))
  refine dR 4 ?_
  refine dC (z191 h1) [] [] [] ?_
  refine dR 4 ?_
  refine dC (z191 h2) [] [] [] ?_
  refine dR 4 ?_
  refine dC (z191 h3) [] [] [] ?_
  refine dR 1 ?_
  refine dC (z194 h4) [] [] [18000] ?_
  refine dR 1 ?_
  refine dE ?_
  exact awp_ret (oF hF [] [])

/-! ### beaconfleet/campaign.Merge$1 -/
def z156 (qa : api_Mark) (qb : api_Mark) (r : Int) : TV × Mem := (.i r, ⟨[], []⟩)

theorem z157 {qa : api_Mark} {qb : api_Mark} {r} (hF : z155 qa qb = some r) : Holds prog 103 [.v (.agg [.i qa.At, .s qa.Device, .i qa.Kind, .i qa.Version.Major, .i qa.Version.Minor, .i qa.Version.Patch]), .v (.agg [.i qb.At, .s qb.Device, .i qb.Kind, .i qb.Version.Major, .i qb.Version.Minor, .i qb.Version.Patch])] ⟨[], []⟩ (Is (z156 qa qb r)) := by
  unfold z155 at hF
  refine hW f103 20 0 0 ?_
  refine sR 3 (awp_seq (bE hF fun vr2 h1 hF => bE hF fun vr h2 hF => bE hF fun vr4 h3 hF => bE hF fun vr1 h4 hF => aD ?_))
  refine dR 2 ?_
  refine dC (z177 h1) [] [] [] ?_
  refine dR 4 ?_
  refine dC (z191 h2) [] [] [] ?_
  refine dR 4 ?_
  refine dC (z153 h3) [] [] [] ?_
  refine dR 1 ?_
  refine dC (z194 h4) [] [] [16000] ?_
  refine dR 1 ?_
  refine dE ?_
  exact awp_ret (oF hF [] [])

/-! ### slices.insertionSortCmpFunc[beaconfleet/api.Mark] -/
def z578 (qa : Int) (qb : Int) (vi : Int) (vl3 : List api_Mark) (vj1 : Int) : Bool → St
  | vx4 => Mem.st ⟨[(0, ⟨88, 6, List.map api_Mark.enc vl3⟩)], []⟩ (tl [(0, .c (.own 0 none)), (1, .i qa), (2, .i qb), (3, .c (.fn 103 [])), (8, .i vi), (9, .i vj1), (34, .b vx4)]) 1

def z577 (qa : Int) (qb : Int) (vi : Int) (vl3 : List api_Mark) (vj1 : Int) : St := Mem.st ⟨[(0, ⟨88, 6, List.map api_Mark.enc vl3⟩)], []⟩ (tl [(0, .c (.own 0 none)), (1, .i qa), (2, .i qb), (3, .c (.fn 103 [])), (8, .i vi), (9, .i vj1)]) 1

theorem z579 (qa : Int) (qb : Int) (vi : Int) (vl3 : List api_Mark) (vj1 : Int) {r} (hF : z576 qa vl3 vj1 = some r) : Awp prog 1 53 (cL (cL (cL (cL (cR (cL (cL (cR (cL (cL (cR (cB f151)))))))))))) (Out 1 nrm (z578 qa qb vi vl3 vj1) r) (z577 qa qb vi vl3 vj1) := by
  unfold z576 at hF
  refine cE hF (fun h2 hF => ?_) fun h2 hF => ?_
  · refine bE hF fun vy15 h3 hF => bE hF fun vy16 h4 hF => bE hF fun vr3_3 h5 hF => aD ?_
    refine dR 2 ?_
    refine dB h2 ?_
    refine dR 4 ?_
    refine dX (x_idxO api_Mark.enc 0 h3) ?_
    refine dX (x_ldE api_Mark.enc h3) ?_
    refine dR 3 ?_
    refine dX (x_idxO api_Mark.enc 0 h4) ?_
    refine dX (x_ldE api_Mark.enc h4) ?_
    refine dC (z157 h5) [] [] [] ?_
    refine dR 2 ?_
    refine dE ?_
    exact oO hF [] [] rfl
  · refine aD ?_
    refine dR 2 ?_
    refine dB h2 ?_
    refine dR 14 ?_
    refine dE ?_
    exact oO hF [] [] rfl

def z574 : (List api_Mark) → AEx
  | _ => .exit 2

def z573 (qa : Int) (qb : Int) (vi : Int) : (List api_Mark) → St
  | vl4 => Mem.st ⟨[(0, ⟨88, 6, List.map api_Mark.enc vl4⟩)], []⟩ (tl [(0, .c (.own 0 none)), (1, .i qa), (2, .i qb), (3, .c (.fn 103 [])), (8, .i vi)]) 1

def z572 (qa : Int) (qb : Int) (vi : Int) : (List api_Mark) × Int → St
  | (vl3, vj1) => Mem.st ⟨[(0, ⟨88, 6, List.map api_Mark.enc vl3⟩)], []⟩ (tl [(0, .c (.own 0 none)), (1, .i qa), (2, .i qb), (3, .c (.fn 103 [])), (8, .i vi), (9, .i vj1)]) 1

theorem z575 (qa : Int) (qb : Int) (vi : Int) (s : (List api_Mark) × Int) (r : ((List api_Mark) × Int) ⊕ ((List api_Mark))) (hF : z571 qa s = some r) : Awp prog 1 53 (cL (cL (cR (cL (cL (cR (cL (cL (cR (cB f151)))))))))) (Out 1 (kk z574) (SS (z572 qa qb vi) (z573 qa qb vi)) r) (z572 qa qb vi s) := by
  obtain ⟨vl3, vj1⟩ := s
  unfold z571 at hF
  refine awp_seq (awp_seq (awp_to (st' := z577 qa qb vi vl3 vj1) (oT [] []) ?_))
  refine bE hF fun vx4_1 h6 hF => awp_sub (z579 qa qb vi vl3 vj1 h6) ?_
  refine cE hF (fun h7 hF => ?_) fun h7 hF => ?_
  · refine tT h7 (awp_skip (awp_seq (awp_block (bE hF fun vy17 h8 hF => bE hF fun vy18 h9 hF => bE hF fun vy19 h10 hF => aDw [0] ?_))))
    refine dR 8 ?_
    refine dI api_Mark.enc 0 h8 rfl ?_
    refine dX (x_ldE api_Mark.enc h8) ?_
    refine dR 2 ?_
    refine dI api_Mark.enc 0 h9 rfl ?_
    refine dX (x_ldE api_Mark.enc h9) ?_
    refine dI api_Mark.enc 0 h9 rfl ?_
    refine dW api_Mark.enc (api_Mark.mk vy17.At vy17.Device vy17.Kind (api_Version.mk vy17.Version.Major vy17.Version.Minor vy17.Version.Patch)) h9 rfl ?_
    refine dI api_Mark.enc 0 h10 rfl ?_
    refine dW api_Mark.enc (api_Mark.mk vy18.At vy18.Device vy18.Kind (api_Version.mk vy18.Version.Major vy18.Version.Minor vy18.Version.Patch)) h10 rfl ?_
    refine dE ?_
    exact gR 3 (oO hF [] [] rfl)
  · refine tF h7 (awp_exit ?_)
    exact oO hF [] [] rfl

def z569 : (List api_Mark) → AEx
  | _ => .exit 0

def z568 (qa : Int) (qb : Int) : (List api_Mark) → St
  | vl5 => Mem.st ⟨[(0, ⟨88, 6, List.map api_Mark.enc vl5⟩)], []⟩ (tl []) 1

def z567 (qa : Int) (qb : Int) : (List api_Mark) × Int → St
  | (vl, vi) => Mem.st ⟨[(0, ⟨88, 6, List.map api_Mark.enc vl⟩)], []⟩ (tl [(0, .c (.own 0 none)), (1, .i qa), (2, .i qb), (3, .c (.fn 103 [])), (8, .i vi)]) 1

theorem z570 (qa : Int) (qb : Int) (s : (List api_Mark) × Int) (r : ((List api_Mark) × Int) ⊕ ((List api_Mark))) (hF : z566 qa qb s = some r) : Awp prog 1 53 (cL (cL (cR (cB f151)))) (Out 1 (kk z569) (SS (z567 qa qb) (z568 qa qb)) r) (z567 qa qb s) := by
  obtain ⟨vl, vi⟩ := s
  unfold z566 at hF
  refine awp_seq (sR 3 (cE hF (fun h1 hF => ?_) fun h1 hF => ?_))
  · refine tT h1 (awp_skip (awp_seq (awp_block (sR 2 (awp_block (awp_to (st' := z572 qa qb vi (vl, vi)) (oT [] []) ?_))))))
    refine bE hF fun vl4_1 h11 hF => awp_sub (awp_loop' (z572 qa qb vi) z574 (z573 qa qb vi) (by intro x; exact fun h => nomatch h) h11 (z575 qa qb vi)) ?_
    exact gR 3 (oO hF [] [] rfl)
  · refine tF h1 (awp_exit ?_)
    exact oO hF [] [] rfl

def z564 (qdata : List api_Mark) (qa : Int) (qb : Int) (r : (List api_Mark)) : TV × Mem := (.tup [], ⟨[(0, ⟨88, 6, List.map api_Mark.enc r⟩)], []⟩)

theorem z565 {qdata : List api_Mark} {qa : Int} {qb : Int} {r} (hF : z563 qdata qa qb = some r) : Holds prog 151 [.c (.own 0 none), .i qa, .i qb, .c (.fn 103 [])] ⟨[(0, ⟨88, 6, List.map api_Mark.enc qdata⟩)], []⟩ (Is (z564 qdata qa qb r)) := by
  unfold z563 at hF
  refine hW f151 53 1 1 ?_
  refine sR 3 (awp_block (awp_to (st' := z567 qa qb (qdata, IntKind.wrap .i64 (qa + 1))) (oT [] []) ?_))
  refine bE hF fun vl5_1 h12 hF => awp_sub (awp_loop' (z567 qa qb) z569 (z568 qa qb) (by intro x; exact fun h => nomatch h) h12 (z570 qa qb)) ?_
  exact oF hF [] []

/-! ### slices.order2CmpFunc[beaconfleet/api.Mark] -/
def z607 (qdata : List api_Mark) (qa : Int) (qb : Int) (qswaps : Int) (r : Int × Int × Int) : TV × Mem := (.tup [.one (.i r.2.1), .one (.i r.2.2)], ⟨[], [(0, [.i r.1])]⟩)

theorem z608 {qdata : List api_Mark} {qa : Int} {qb : Int} {qswaps : Int} {r} (hF : z606 qdata qa qb qswaps = some r) : Holds prog 219 [.c (.l api_Mark.enc qdata), .i qa, .i qb, .c (.box 0 0), .c (.fn 103 [])] ⟨[], [(0, [.i qswaps])]⟩ (Is (z607 qdata qa qb qswaps r)) := by
  unfold z606 at hF
  refine hW f219 32 1 1 ?_
  refine sR 2 (awp_seq (awp_seq (bE hF fun vy h1 hF => bE hF fun vy1 h2 hF => bE hF fun vr3 h3 hF => aD ?_)))
  refine dR 3 ?_
  refine dX (x_idx api_Mark.enc h1) ?_
  refine dR 3 ?_
  refine dX (x_idx api_Mark.enc h2) ?_
  refine dR 1 ?_
  refine dC (z157 h3) [] [] [] ?_
  refine dR 1 ?_
  refine dE ?_
  refine cE hF (fun h4 hF => ?_) fun h4 hF => ?_
  · exact tT h4 (sR 6 (sR 4 (awp_ret (oF hF [] []))))
  · exact tF h4 (awp_skip (sR 4 (awp_ret (oF hF [] []))))

/-! ### slices.medianCmpFunc[beaconfleet/api.Mark] -/
def z601 (qdata : List api_Mark) (qa : Int) (qb : Int) (qc : Int) (qswaps : Int) (r : Int × Int) : TV × Mem := (.i r.2, ⟨[], [(0, [.i r.1])]⟩)

theorem z602 {qdata : List api_Mark} {qa : Int} {qb : Int} {qc : Int} {qswaps : Int} {r} (hF : z600 qdata qa qb qc qswaps = some r) : Holds prog 206 [.c (.l api_Mark.enc qdata), .i qa, .i qb, .i qc, .c (.box 0 0), .c (.fn 103 [])] ⟨[], [(0, [.i qswaps])]⟩ (Is (z601 qdata qa qb qc qswaps r)) := by
  unfold z600 at hF
  refine hW f206 41 1 1 ?_
  refine sR 1 (awp_seq (bE hF fun x h1 hF => ?_))
  obtain ⟨vs, vr, vr1⟩ := x
  refine awp_region (aR 5 (aC (z608 h1) [] [] [] (aR 5 (aE ?_))))
  refine awp_seq (bE hF fun x h2 hF => ?_)
  obtain ⟨vs1, vr2, vr1_1⟩ := x
  refine awp_region (aR 5 (aC (z608 h2) [] [] [] (aR 5 (aE ?_))))
  refine awp_seq (bE hF fun x h3 hF => ?_)
  obtain ⟨vs2, vr3, vr1_2⟩ := x
  refine awp_region (aR 5 (aC (z608 h3) [] [] [] (aR 5 (aE ?_))))
  exact sR 2 (awp_ret (oF hF [] []))

/-! ### slices.medianAdjacentCmpFunc[beaconfleet/api.Mark] -/
def z598 (qdata : List api_Mark) (qa : Int) (qswaps : Int) (r : Int × Int) : TV × Mem := (.i r.2, ⟨[], [(0, [.i r.1])]⟩)

theorem z599 {qdata : List api_Mark} {qa : Int} {qswaps : Int} {r} (hF : z597 qdata qa qswaps = some r) : Holds prog 205 [.c (.l api_Mark.enc qdata), .i qa, .c (.box 0 0), .c (.fn 103 [])] ⟨[], [(0, [.i qswaps])]⟩ (Is (z598 qdata qa qswaps r)) := by
  unfold z597 at hF
  refine hW f205 18 1 1 ?_
  refine sR 1 (awp_seq (bE hF fun x h1 hF => ?_))
  obtain ⟨vs3, vr4⟩ := x
  refine awp_region (aR 8 (aC (z602 h1) [] [] [] (aR 1 (aE ?_))))
  exact awp_ret (oF hF [] [])

/-! ### slices.choosePivotCmpFunc[beaconfleet/api.Mark] -/
def z561 (qdata : List api_Mark) (qa : Int) (qb : Int) : (Int × Int × Int × Int) → St
  | (vswaps, vi, vj, vk) => Mem.st ⟨[], [(0, [.i vswaps])]⟩ (tl [(0, .c (.l api_Mark.enc qdata)), (3, .c (.fn 103 [])), (11, .c (.box 0 0)), (12, .i vi), (13, .i vj), (14, .i vk)]) 1

def z560 (qdata : List api_Mark) (qa : Int) (qb : Int) : St := Mem.st ⟨[], [(0, [.i 0])]⟩ (tl [(0, .c (.l api_Mark.enc qdata)), (3, .c (.fn 103 [])), (10, .i (IntKind.wrap .i64 (qb - qa))), (11, .c (.box 0 0)), (12, .i (IntKind.wrap .i64 (qa + (IntKind.wrap .i64 ((IntKind.wrap .i64 ((IntKind.wrap .i64 (qb - qa)).tdiv 4)) * 1))))), (13, .i (IntKind.wrap .i64 (qa + (IntKind.wrap .i64 ((IntKind.wrap .i64 ((IntKind.wrap .i64 (qb - qa)).tdiv 4)) * 2))))), (14, .i (IntKind.wrap .i64 (qa + (IntKind.wrap .i64 ((IntKind.wrap .i64 ((IntKind.wrap .i64 (qb - qa)).tdiv 4)) * 3)))))]) 1

theorem z562 (qdata : List api_Mark) (qa : Int) (qb : Int) {r} (hF : z559 qdata qa qb = some r) : Awp prog 0 63 (cL (cL (cR (cL (cR (cR (cR (cR (cR (cR (cB f176))))))))))) (Out 0 nrm (z561 qdata qa qb) r) (z560 qdata qa qb) := by
  unfold z559 at hF
  refine sR 2 (cE hF (fun h2 hF => ?_) fun h2 hF => ?_)
  · refine tT h2 (awp_seq (bE hF fun x h3 hF => ?_))
    obtain ⟨vs, vr⟩ := x
    refine awp_region (aR 3 (aC (z599 h3) [] [] [] (aR 1 (aE ?_))))
    refine awp_seq (bE hF fun x h4 hF => ?_)
    obtain ⟨vs1, vr1⟩ := x
    refine awp_region (aR 3 (aC (z599 h4) [] [] [] (aR 1 (aE ?_))))
    refine bE hF fun x h5 hF => ?_
    obtain ⟨vs2, vr2⟩ := x
    refine awp_region (aR 3 (aC (z599 h5) [] [] [] (aR 1 (aE ?_))))
    exact oO hF [] [] rfl
  · exact tF h2 (awp_skip (oO hF [] [] rfl))

def z557 (qdata : List api_Mark) (qa : Int) (qb : Int) : (Int × Int) → St
  | (vswaps2, vj2) => Mem.st ⟨[], [(0, [.i vswaps2])]⟩ (tl [(11, .c (.box 0 0)), (13, .i vj2)]) 1

def z556 (qdata : List api_Mark) (qa : Int) (qb : Int) : St := Mem.st ⟨[], [(0, [.i 0])]⟩ (tl [(0, .c (.l api_Mark.enc qdata)), (3, .c (.fn 103 [])), (10, .i (IntKind.wrap .i64 (qb - qa))), (11, .c (.box 0 0)), (12, .i (IntKind.wrap .i64 (qa + (IntKind.wrap .i64 ((IntKind.wrap .i64 ((IntKind.wrap .i64 (qb - qa)).tdiv 4)) * 1))))), (13, .i (IntKind.wrap .i64 (qa + (IntKind.wrap .i64 ((IntKind.wrap .i64 ((IntKind.wrap .i64 (qb - qa)).tdiv 4)) * 2))))), (14, .i (IntKind.wrap .i64 (qa + (IntKind.wrap .i64 ((IntKind.wrap .i64 ((IntKind.wrap .i64 (qb - qa)).tdiv 4)) * 3)))))]) 1

theorem z558 (qdata : List api_Mark) (qa : Int) (qb : Int) {r} (hF : z555 qdata qa qb = some r) : Awp prog 0 63 (cL (cR (cR (cR (cR (cR (cR (cB f176)))))))) (Out 0 nrm (z557 qdata qa qb) r) (z556 qdata qa qb) := by
  unfold z555 at hF
  refine sR 2 (cE hF (fun h1 hF => ?_) fun h1 hF => ?_)
  · refine tT h1 (awp_seq (awp_to (st' := z560 qdata qa qb) (oT [] []) ?_))
    refine bE hF fun x h6 hF => ?_
    obtain ⟨vswaps1, vi1, vj1, vk1⟩ := x
    refine awp_sub (z562 qdata qa qb h6) ?_
    refine bE hF fun x h7 hF => ?_
    obtain ⟨vs3, vr4⟩ := x
    refine awp_region (aR 5 (aC (z602 h7) [] [] [] (aR 1 (aE ?_))))
    exact oO hF [] [] rfl
  · exact tF h1 (awp_skip (oO hF [] [] rfl))

def z553 (qdata : List api_Mark) (qa : Int) (qb : Int) (r : Int × Int) : TV × Mem := (.tup [.one (.i r.1), .one (.i r.2)], ⟨[], []⟩)

theorem z554 {qdata : List api_Mark} {qa : Int} {qb : Int} {r} (hF : z552 qdata qa qb = some r) : Holds prog 176 [.c (.l api_Mark.enc qdata), .i qa, .i qb, .c (.fn 103 [])] ⟨[], []⟩ (Is (z553 qdata qa qb r)) := by
  unfold z552 at hF
  refine hW f176 63 0 0 ?_
  refine sR 2 (sR 4 (sR 1 (sR 6 (sR 6 (sR 6 (awp_seq (awp_to (st' := z556 qdata qa qb) (oT [(0, 6000)] []) ?_)))))))
  refine bE hF fun x h8 hF => ?_
  obtain ⟨vswaps2_1, vj2_1⟩ := x
  refine awp_sub (z558 qdata qa qb h8) ?_
  refine sR 1 (awp_block (sR 2 (cE hF (fun h9 hF => ?_) fun h9 hF => ?_)))
  · exact tT h9 (sR 3 (awp_ret (oF hF [] [])))
  · refine tF h9 (sR 2 (cE hF (fun h10 hF => ?_) fun h10 hF => ?_))
    · exact tT h10 (sR 3 (awp_ret (oF hF [] [])))
    · exact tF h10 (sR 3 (awp_ret (oF hF [] [])))

/-! ### slices.reverseRangeCmpFunc[beaconfleet/api.Mark] -/
def z752 : (List api_Mark) → AEx
  | _ => .exit 0

def z751 : (List api_Mark) → St
  | vl1 => Mem.st ⟨[(0, ⟨88, 6, List.map api_Mark.enc vl1⟩)], []⟩ (tl []) 1

def z750 : (List api_Mark) × Int × Int → St
  | (vl, vi, vj) => Mem.st ⟨[(0, ⟨88, 6, List.map api_Mark.enc vl⟩)], []⟩ (tl [(0, .c (.own 0 none)), (8, .i vi), (9, .i vj)]) 1

theorem z753 (s : (List api_Mark) × Int × Int) (r : ((List api_Mark) × Int × Int) ⊕ ((List api_Mark))) (hF : z749  s = some r) : Awp prog 1 34 (cL (cL (cR (cR (cB f177))))) (Out 1 (kk z752) (SS (z750 ) (z751 )) r) (z750  s) := by
  obtain ⟨vl, vi, vj⟩ := s
  unfold z749 at hF
  refine awp_seq (sR 3 (cE hF (fun h1 hF => ?_) fun h1 hF => ?_))
  · refine tT h1 (awp_skip (awp_block (awp_seq (bE hF fun vy3 h2 hF => bE hF fun vy4 h3 hF => bE hF fun vy5 h4 hF => aDw [0] ?_))))
    refine dR 6 ?_
    refine dI api_Mark.enc 0 h2 rfl ?_
    refine dX (x_ldE api_Mark.enc h2) ?_
    refine dR 2 ?_
    refine dI api_Mark.enc 0 h3 rfl ?_
    refine dX (x_ldE api_Mark.enc h3) ?_
    refine dI api_Mark.enc 0 h3 rfl ?_
    refine dW api_Mark.enc (api_Mark.mk vy3.At vy3.Device vy3.Kind (api_Version.mk vy3.Version.Major vy3.Version.Minor vy3.Version.Patch)) h3 rfl ?_
    refine dI api_Mark.enc 0 h4 rfl ?_
    refine dW api_Mark.enc (api_Mark.mk vy4.At vy4.Device vy4.Kind (api_Version.mk vy4.Version.Major vy4.Version.Minor vy4.Version.Patch)) h4 rfl ?_
    refine dE ?_
    exact sR 3 (gR 3 (oO hF [] [] rfl))
  · refine tF h1 (awp_exit ?_)
    exact oO hF [] [] rfl

def z747 (qdata : List api_Mark) (qa : Int) (qb : Int) (r : (List api_Mark)) : TV × Mem := (.tup [], ⟨[(0, ⟨88, 6, List.map api_Mark.enc r⟩)], []⟩)

theorem z748 {qdata : List api_Mark} {qa : Int} {qb : Int} {r} (hF : z746 qdata qa qb = some r) : Holds prog 177 [.c (.own 0 none), .i qa, .i qb, .c (.fn 103 [])] ⟨[(0, ⟨88, 6, List.map api_Mark.enc qdata⟩)], []⟩ (Is (z747 qdata qa qb r)) := by
  unfold z746 at hF
  refine hW f177 34 1 1 ?_
  refine sR 2 (sR 3 (awp_block (awp_to (st' := z750  (qdata, qa, IntKind.wrap .i64 (qb - 1))) (oT [] []) ?_)))
  refine bE hF fun vl1_1 h5 hF => awp_sub (awp_loop' (z750 ) z752 (z751 ) (by intro x; exact fun h => nomatch h) h5 (z753 )) ?_
  exact oF hF [] []

end Go.Eng
