/-
The code of the Go functions that the law CommandsStay reaches does what the plain functions say, part 3.
-/
import Derived.Test.YtfbeijbgfhelfaaGreatDoorGenP2

namespace Go.Eng

open Go Go.Proofs.Tryz

set_option linter.unusedVariables false

set_option maxRecDepth 20000

set_option maxHeartbeats 0

/-! ### (*beaconfleet/fleetmake.Stream).Notes -/
def z523 (vout : List api_Note) (vx : Int) (vy1 : List UInt8) (vr10 : List UInt8) (vr11 : List UInt8) (vr12 : Int) (vs4 : z477) (vr13 : Int) (vr14 : Int) (vr15 : Int) : (z477 × api_Note) → St
  | (vs5, vn2) => Mem.st ⟨[(2, ⟨65, 9, List.map api_Note.enc vout⟩)], [(0, [.l (encI .i64) vs5.L, .i vs5.at_]), (1, [.s vn2.Letter.Id, .s vn2.Letter.Slot, .s vn2.Letter.Body, .i vn2.Letter.Prio, .i vn2.Letter.At, .i vn2.Letter.Until, .i vn2.State, .i vn2.Tries, .i vn2.Since])]⟩ (tl [(0, .c (.box 0 0)), (3, .c (.own 2 none)), (6, .c (.box 1 0)), (7, .c (.l encS ([([108, 97] : List UInt8), ([108, 98] : List UInt8), ([108, 99] : List UInt8), ([108, 100] : List UInt8)] : List (List UInt8)))), (8, .i (([([108, 97] : List UInt8), ([108, 98] : List UInt8), ([108, 99] : List UInt8), ([108, 100] : List UInt8)] : List (List UInt8)).length : Int)), (9, .i vx)]) 3

def z522 (vout : List api_Note) (vx : Int) (vy1 : List UInt8) (vr10 : List UInt8) (vr11 : List UInt8) (vr12 : Int) (vs4 : z477) (vr13 : Int) (vr14 : Int) (vr15 : Int) : St := Mem.st ⟨[(2, ⟨65, 9, List.map api_Note.enc vout⟩)], [(0, [.l (encI .i64) vs4.L, .i (IntKind.wrap .i64 ((IntKind.wrap .i64 (vs4.at_ + 1)) + 1))]), (1, [.s vy1, .s vr10, .s vr11, .i vr12, .i 0, .i 100, .i vr13, .i vr14, .i vr15])]⟩ (tl [(0, .c (.box 0 0)), (3, .c (.own 2 none)), (5, .c (.s vy1)), (6, .c (.box 1 0)), (7, .c (.l encS ([([108, 97] : List UInt8), ([108, 98] : List UInt8), ([108, 99] : List UInt8), ([108, 100] : List UInt8)] : List (List UInt8)))), (8, .i (([([108, 97] : List UInt8), ([108, 98] : List UInt8), ([108, 99] : List UInt8), ([108, 100] : List UInt8)] : List (List UInt8)).length : Int)), (9, .i vx)]) 3

theorem z524 (vout : List api_Note) (vx : Int) (vy1 : List UInt8) (vr10 : List UInt8) (vr11 : List UInt8) (vr12 : Int) (vs4 : z477) (vr13 : Int) (vr14 : Int) (vr15 : Int) {r} (hF : z521 vy1 vr10 vr11 vr12 vs4 vr13 vr14 vr15 = some r) : Awp prog 1 58 (cL (cR (cR (cR (cL (cL (cR (cR (cL (cL (cR (cL (cR (cR (cB f57))))))))))))))) (Out 1 nrm (z523 vout vx vy1 vr10 vr11 vr12 vs4 vr13 vr14 vr15) r) (z522 vout vx vy1 vr10 vr11 vr12 vs4 vr13 vr14 vr15) := by
  unfold z521 at hF
  refine awp_seq (bE hF fun vr16 h11 hF => awp_region (aR 1 (aC (z480 h11) [] [] [] (aE ?_))))
  refine cE hF (fun h12 hF => ?_) fun h12 hF => ?_
  · refine tT h12 (bE hF fun vr17 h13 hF => bE hF fun x h14 hF => ?_)
    obtain ⟨vs1_4, vr3_4⟩ := x
    refine bE hF fun x h15 hF => ?_
    obtain ⟨vs1_5, vr3_5⟩ := x
    refine bE hF fun x h16 hF => ?_
    obtain ⟨vs1_6, vr3_6⟩ := x
    refine awp_region (aR 3 (aC (z539 h13) [(1, 4003)] [] [] (aR 1 (aC (z527 h14) [] [] [] (aR 1 (aC (z527 h15) [] [] [] (aR 1 (aC (z527 h16) [] [] [] (aR 9 (aE ?_))))))))))
    exact oO hF [] [] rfl
  · exact tF h12 (awp_skip (oO hF [] [] rfl))

def z519 (vs : z477) (vout : List api_Note) (vx : Int) : (z477 × (List api_Note)) → St
  | (vs6, vout2) => Mem.st ⟨[(1, ⟨65, 9, List.map api_Note.enc vout2⟩)], [(0, [.l (encI .i64) vs6.L, .i vs6.at_])]⟩ (tl [(0, .c (.box 0 0)), (3, .c (.own 1 none)), (7, .c (.l encS ([([108, 97] : List UInt8), ([108, 98] : List UInt8), ([108, 99] : List UInt8), ([108, 100] : List UInt8)] : List (List UInt8)))), (8, .i (([([108, 97] : List UInt8), ([108, 98] : List UInt8), ([108, 99] : List UInt8), ([108, 100] : List UInt8)] : List (List UInt8)).length : Int)), (9, .i vx)]) 2

def z518 (vs : z477) (vout : List api_Note) (vx : Int) : St := Mem.st ⟨[(1, ⟨65, 9, List.map api_Note.enc vout⟩)], [(0, [.l (encI .i64) vs.L, .i vs.at_])]⟩ (tl [(0, .c (.box 0 0)), (3, .c (.own 1 none)), (7, .c (.l encS ([([108, 97] : List UInt8), ([108, 98] : List UInt8), ([108, 99] : List UInt8), ([108, 100] : List UInt8)] : List (List UInt8)))), (8, .i (([([108, 97] : List UInt8), ([108, 98] : List UInt8), ([108, 99] : List UInt8), ([108, 100] : List UInt8)] : List (List UInt8)).length : Int)), (9, .i vx)]) 2

theorem z520 (vs : z477) (vout : List api_Note) (vx : Int) {r} (hF : z517 vs vout vx = some r) : Awp prog 1 58 (cL (cR (cR (cL (cL (cR (cL (cR (cR (cB f57)))))))))) (Out 1 nrm (z519 vs vout vx) r) (z518 vs vout vx) := by
  unfold z517 at hF
  refine awp_block (awp_seq (bE hF fun vy1 h2 hF => awp_region (aX (x_idx encS h2) (aR 2 (aE ?_)))))
  refine awp_seq (awp_seq (bE hF fun vr9 h3 hF => awp_region (aR 1 (aC (z480 h3) [] [] [] (aE ?_)))))
  refine cE hF (fun h4 hF => ?_) fun h4 hF => ?_
  · refine tT h4 (awp_exit ?_)
    exact oO hF [] [] rfl
  · refine tF h4 (awp_skip (awp_seq (bE hF fun vr10 h5 hF => bE hF fun vr11 h6 hF => bE hF fun vr12 h7 hF => bE hF fun x h8 hF => ?_)))
    obtain ⟨vs4, vr13⟩ := x
    refine bE hF fun vr14 h9 hF => bE hF fun vr15 h10 hF => awp_region (aR 3 (aC (z539 h5) [(1, 7002)] [] [] (aR 2 (aC (z539 h6) [(1, 10002)] [] [] (aR 2 (aC (z530 h7) [(1, 13002)] [] [] (aR 2 (aC (z533 h8) [] [] [] (aR 2 (aC (z530 h9) [(1, 19002)] [] [] (aR 2 ?_)))))))))))
    refine aC (z530 h10) [(1, 22002)] [] [] (aR 3 (aE ?_))
    refine awp_seq (awp_to (st' := z522 vout vx vy1 vr10 vr11 vr12 vs4 vr13 vr14 vr15) (oT [(1, 25002), (2, 1)] []) ?_)
    refine bE hF fun x h17 hF => ?_
    obtain ⟨vs5_1, vn2_1⟩ := x
    refine awp_sub (z524 vout vx vy1 vr10 vr11 vr12 vs4 vr13 vr14 vr15 h17) ?_
    refine gE hF fun h18 hF => ?_
    refine awp_region (aR 3 (aX (x_app api_Note.enc 2 h18) (aR 1 (aE ?_))))
    exact oO hF [(1, 3003)] [] rfl

def z515 : (z477 × (List api_Note)) → AEx
  | _ => .exit 0

def z514 : (z477 × (List api_Note)) → St
  | (vs7, vout3) => Mem.st ⟨[(1, ⟨65, 9, List.map api_Note.enc vout3⟩)], [(0, [.l (encI .i64) vs7.L, .i vs7.at_])]⟩ (tl [(3, .c (.own 1 none))]) 2

def z513 : z477 × (List api_Note) × Int → St
  | (vs, vout, vx) => Mem.st ⟨[(1, ⟨65, 9, List.map api_Note.enc vout⟩)], [(0, [.l (encI .i64) vs.L, .i vs.at_])]⟩ (tl [(0, .c (.box 0 0)), (3, .c (.own 1 none)), (7, .c (.l encS ([([108, 97] : List UInt8), ([108, 98] : List UInt8), ([108, 99] : List UInt8), ([108, 100] : List UInt8)] : List (List UInt8)))), (8, .i (([([108, 97] : List UInt8), ([108, 98] : List UInt8), ([108, 99] : List UInt8), ([108, 100] : List UInt8)] : List (List UInt8)).length : Int)), (9, .i vx)]) 2

theorem z516 (s : z477 × (List api_Note) × Int) (r : (z477 × (List api_Note) × Int) ⊕ ((z477 × (List api_Note)))) (hF : z512  s = some r) : Awp prog 1 58 (cL (cL (cR (cL (cR (cR (cB f57))))))) (Out 1 (kk z515) (SS (z513 ) (z514 )) r) (z513  s) := by
  obtain ⟨vs, vout, vx⟩ := s
  unfold z512 at hF
  refine sR 1 (awp_seq (cE hF (fun h1 hF => ?_) fun h1 hF => ?_))
  · refine tT h1 (awp_skip (awp_seq (awp_to (st' := z518 vs vout vx) (oT [] []) ?_)))
    refine bE hF fun x h19 hF => ?_
    obtain ⟨vs6_1, vout2_1⟩ := x
    refine awp_sub (z520 vs vout vx h19) ?_
    exact gR 2 (oO hF [] [] rfl)
  · refine tF h1 (awp_exit ?_)
    exact oO hF [] [] rfl

def z510 (qs : z477) (r : z477 × (List api_Note)) : TV × Mem := (.c (.own 1 none), ⟨[(1, ⟨65, 9, List.map api_Note.enc r.2⟩)], [(0, [.l (encI .i64) r.1.L, .i r.1.at_])]⟩)

theorem z511 {qs : z477} {r} (hF : z509 qs = some r) : Holds prog 57 [.c (.box 0 0)] ⟨[], [(0, [.l (encI .i64) qs.L, .i qs.at_])]⟩ (Is (z510 qs r)) := by
  unfold z509 at hF
  refine hW f57 58 1 1 ?_
  refine sR 1 (sR 1 (awp_seq (awp_seq (awp_region (aR 1 (aL encS ([([108, 97] : List UInt8), ([108, 98] : List UInt8), ([108, 99] : List UInt8), ([108, 100] : List UInt8)] : List (List UInt8)) (aR 1 (aE ?_))))))))
  refine awp_to (oT (m := ⟨[], [(0, [.l (encI .i64) qs.L, .i qs.at_])]⟩) (ts := [(0, .c (.box 0 0)), (3, .c (.nil)), (7, .c (.l encS ([([108, 97] : List UInt8), ([108, 98] : List UInt8), ([108, 99] : List UInt8), ([108, 100] : List UInt8)] : List (List UInt8)))), (8, .i (([([108, 97] : List UInt8), ([108, 98] : List UInt8), ([108, 99] : List UInt8), ([108, 100] : List UInt8)] : List (List UInt8)).length : Int)), (9, .i 0)]) (nx := 1) [] []) ?_
  refine awp_block (awp_to (st' := z513  (qs, [], 0)) (oT [] [1]) ?_)
  refine bE hF fun x h20 hF => ?_
  obtain ⟨vs7_1, vout3_1⟩ := x
  refine awp_sub (awp_loop' (z513 ) z515 (z514 ) (by intro x; exact fun h => nomatch h) h20 (z516 )) ?_
  exact sR 2 (awp_ret (oF hF [] []))

/-! ### beaconfleet/fleetkeep2.spoil[beaconfleet/api.Letter] -/
def z452 : (List api_Letter) → AEx
  | _ => .exit 0

def z451 (ql : List api_Letter) : (List api_Letter) → St
  | vl1 => Mem.st ⟨[(0, ⟨40, 6, List.map api_Letter.enc vl1⟩)], []⟩ (tl []) 1

def z450 (ql : List api_Letter) : (List api_Letter) × Int → St
  | (vl, vx) => Mem.st ⟨[(0, ⟨40, 6, List.map api_Letter.enc vl⟩)], [(1, [.s ([] : List UInt8), .s ([] : List UInt8), .s ([] : List UInt8), .i 0, .i 0, .i 0])]⟩ (tl [(0, .c (.own 0 none)), (2, .c (.box 1 0)), (5, .i (ql.length : Int)), (6, .i vx)]) 2

theorem z453 (ql : List api_Letter) (s : (List api_Letter) × Int) (r : ((List api_Letter) × Int) ⊕ ((List api_Letter))) (hF : z449 ql s = some r) : Awp prog 1 14 (cL (cL (cR (cR (cB f58))))) (Out 1 (kk z452) (SS (z450 ql) (z451 ql)) r) (z450 ql s) := by
  obtain ⟨vl, vx⟩ := s
  unfold z449 at hF
  refine sR 1 (awp_seq (cE hF (fun h1 hF => ?_) fun h1 hF => ?_))
  · refine tT h1 (awp_skip (awp_seq (awp_block (sR 2 (bE hF fun vy1 h2 hF => awp_region (aR 3 (aX (x_idxO api_Letter.enc 0 h2) (aX (x_stE api_Letter.enc (api_Letter.mk ([] : List UInt8) ([] : List UInt8) ([] : List UInt8) 0 0 0) h2) (aE ?_)))))))))
    exact gR 2 (oO hF [] [] rfl)
  · refine tF h1 (awp_exit ?_)
    exact oO hF [] [] rfl

def z447 (ql : List api_Letter) (r : (List api_Letter)) : TV × Mem := (.tup [], ⟨[(0, ⟨40, 6, List.map api_Letter.enc r⟩)], []⟩)

theorem z448 {ql : List api_Letter} {r} (hF : z446 ql = some r) : Holds prog 58 [.c (.own 0 none)] ⟨[(0, ⟨40, 6, List.map api_Letter.enc ql⟩)], []⟩ (Is (z447 ql r)) := by
  unfold z446 at hF
  refine hW f58 14 1 1 ?_
  refine sR 1 (awp_seq (awp_region (aR 1 (aL api_Letter.enc ql (aR 1 (aE ?_))))))
  refine awp_block (awp_to (st' := z450 ql (ql, 0)) (oT [] []) ?_)
  refine bE hF fun vl1_1 h3 hF => awp_sub (awp_loop' (z450 ql) z452 (z451 ql) (by intro x; exact fun h => nomatch h) h3 (z453 ql)) ?_
  exact oF hF [] []

/-! ### beaconfleet/command.CheckNotes -/
def z188 (ql : List api_Note) (vx : Int) (vy2 : api_Note) : Bool → St
  | vx3 => Mem.st ⟨[], [(0, [.s vy2.Letter.Id, .s vy2.Letter.Slot, .s vy2.Letter.Body, .i vy2.Letter.Prio, .i vy2.Letter.At, .i vy2.Letter.Until, .i vy2.State, .i vy2.Tries, .i vy2.Since])]⟩ (tl [(0, .c (.l api_Note.enc ql)), (3, .i vx), (4, .c (.box 0 0)), (9, .c (.l api_Note.enc ql)), (10, .i (ql.length : Int)), (11, .i vx), (26, .b vx3)]) 1

def z187 (ql : List api_Note) (vx : Int) (vy2 : api_Note) : St := Mem.st ⟨[], [(0, [.s vy2.Letter.Id, .s vy2.Letter.Slot, .s vy2.Letter.Body, .i vy2.Letter.Prio, .i vy2.Letter.At, .i vy2.Letter.Until, .i vy2.State, .i vy2.Tries, .i vy2.Since])]⟩ (tl [(0, .c (.l api_Note.enc ql)), (3, .i vx), (4, .c (.box 0 0)), (9, .c (.l api_Note.enc ql)), (10, .i (ql.length : Int)), (11, .i vx)]) 1

theorem z189 (ql : List api_Note) (vx : Int) (vy2 : api_Note) {r} (hF : z186 vy2 = some r) : Awp prog 0 53 (cL (cR (cR (cL (cR (cR (cL (cL (cR (cR (cL (cL (cR (cL (cR (cR (cB f159))))))))))))))))) (Out 0 nrm (z188 ql vx vy2) r) (z187 ql vx vy2) := by
  unfold z186 at hF
  refine bE hF fun vr4 h8 hF => cE hF (fun h9 hF => ?_) fun h9 hF => ?_
  · refine awp_region (aR 2 (aCb (z74 h8) [] [] [] h9 ?_))
    refine aR 7 (aE ?_)
    exact oO hF [] [] rfl
  · refine bE hF fun vr1_2 h10 hF => awp_region (aR 2 (aCb (z74 h8) [] [] [] h9 ?_))
    refine aR 3 (aC (z43 h10) [] [] [] (aR 3 (aE ?_)))
    exact oO hF [] [] rfl

def z192 (ql : List api_Note) (vx : Int) (vy2 : api_Note) : Bool → St
  | vx4 => Mem.st ⟨[], []⟩ (tl [(0, .c (.l api_Note.enc ql)), (9, .c (.l api_Note.enc ql)), (10, .i (ql.length : Int)), (11, .i vx), (36, .b vx4)]) 0

def z191 (ql : List api_Note) (vx : Int) (vy2 : api_Note) : St := Mem.st ⟨[], [(0, [.s vy2.Letter.Id, .s vy2.Letter.Slot, .s vy2.Letter.Body, .i vy2.Letter.Prio, .i vy2.Letter.At, .i vy2.Letter.Until, .i vy2.State, .i vy2.Tries, .i vy2.Since])]⟩ (tl [(0, .c (.l api_Note.enc ql)), (3, .i vx), (4, .c (.box 0 0)), (9, .c (.l api_Note.enc ql)), (10, .i (ql.length : Int)), (11, .i vx)]) 1

theorem z193 (ql : List api_Note) (vx : Int) (vy2 : api_Note) {r} (hF : z190 ql vx vy2 = some r) : Awp prog 0 53 (cL (cR (cR (cR (cR (cL (cR (cR (cL (cL (cR (cR (cL (cL (cR (cL (cR (cR (cB f159))))))))))))))))))) (Out 0 nrm (z192 ql vx vy2) r) (z191 ql vx vy2) := by
  unfold z190 at hF
  refine cE hF (fun h13 hF => ?_) fun h13 hF => ?_
  · refine bE hF fun vy3 h14 hF => aD ?_
    refine dR 1 ?_
    refine dB h13 ?_
    refine dR 7 ?_
    refine dX (x_idx api_Note.enc h14) ?_
    refine dR 6 ?_
    refine dE ?_
    exact oO hF [] [] rfl
  · refine aD ?_
    refine dR 1 ?_
    refine dB h13 ?_
    refine dR 14 ?_
    refine dE ?_
    exact oO hF [] [] rfl

def z184 : Unit ⊕ Int → AEx
  | .inl _ => .exit 0
  | .inr _ => .ret

def z183 (ql : List api_Note) : Unit ⊕ Int → St
  | .inl _ => Mem.st ⟨[], []⟩ (tl []) 0
  | .inr vx5 => Mem.st ⟨[], []⟩ (tl [(2, .i vx5)]) 0

def z182 (ql : List api_Note) : Int → St
  | vx => Mem.st ⟨[], []⟩ (tl [(0, .c (.l api_Note.enc ql)), (9, .c (.l api_Note.enc ql)), (10, .i (ql.length : Int)), (11, .i vx)]) 0

theorem z185 (ql : List api_Note) (vx : Int) (r : (Int) ⊕ (Unit ⊕ Int)) (hF : z181 ql vx = some r) : Awp prog 0 53 (cL (cL (cR (cL (cR (cR (cB f159))))))) (Out 0 (kk z184) (SS (z182 ql) (z183 ql)) r) (z182 ql vx) := by
  unfold z181 at hF
  refine sR 1 (awp_seq (cE hF (fun h2 hF => ?_) fun h2 hF => ?_))
  · refine tT h2 (awp_skip (awp_seq (awp_block (awp_seq (bE hF fun vy2 h3 hF => awp_region (aR 1 (aX (x_idx api_Note.enc h3) (aR 4 (aE ?_)))))))))
    refine awp_seq (awp_seq (bE hF fun vr3_1 h4 hF => awp_region (aR 2 (aC (z160 h4) [] [] [] (aR 1 (aE ?_))))))
    refine sR 2 (cE hF (fun h5 hF => ?_) fun h5 hF => ?_)
    · exact tT h5 (sR 2 (awp_ret (oO hF [] [] rfl)))
    · refine tF h5 (awp_skip (awp_block (awp_seq (bE hF fun vr2 h6 hF => awp_region (aR 2 (aC (z74 h6) [] [] [] (aR 1 (aE ?_))))))))
      refine cE hF (fun h7 hF => ?_) fun h7 hF => ?_
      · exact tT h7 (sR 1 (awp_ret (oO hF [] [] rfl)))
      · refine tF h7 (awp_seq (awp_to (st' := z187 ql vx vy2) (oT [(0, 4000)] []) ?_))
        refine bE hF fun vx3_1 h11 hF => awp_sub (z189 ql vx vy2 h11) ?_
        refine cE hF (fun h12 hF => ?_) fun h12 hF => ?_
        · exact tT h12 (sR 1 (awp_ret (oO hF [] [] rfl)))
        · refine tF h12 (awp_seq (awp_to (st' := z191 ql vx vy2) (oT [] []) ?_))
          refine bE hF fun vx4_1 h15 hF => awp_sub (z193 ql vx vy2 h15) ?_
          refine cE hF (fun h16 hF => ?_) fun h16 hF => ?_
          · exact tT h16 (sR 1 (awp_ret (oO hF [] [] rfl)))
          · exact tF h16 (awp_skip (gR 2 (oO hF [] [] rfl)))
  · refine tF h2 (awp_exit ?_)
    exact oO hF [] [] rfl

def z171 (ql : List api_Note) (r : Int) : TV × Mem := (.i r, ⟨[], []⟩)

theorem z180 {ql : List api_Note} {r} (hF : z170 ql = some r) : Holds prog 159 [.c (.l api_Note.enc ql)] ⟨[], []⟩ (Is (z171 ql r)) := by
  unfold z170 at hF
  refine hW f159 53 0 0 ?_
  refine sR 1 (awp_seq (awp_seq (awp_region (aR 1 (aL api_Note.enc ql (aR 1 (aE ?_)))))))
  refine cE hF (fun h1 hF => ?_) fun h1 hF => ?_
  · exact tT h1 (sR 1 (awp_ret (oF hF [] [])))
  · refine tF h1 (awp_skip (awp_seq (awp_seq (awp_region (aR 1 (aL api_Note.enc ql (aR 1 (aE ?_))))))))
    refine awp_block (awp_to (st' := z182 ql 0) (oT [] []) ?_)
    refine bE hF fun x h17 hF => ?_
    rcases x with _ | vx5_1
    · refine awp_sub (awp_loop' (z182 ql) z184 (z183 ql) (by intro x; rcases x with x | x <;> exact fun h => nomatch h) h17 (z185 ql)) ?_
      exact sR 1 (awp_ret (oF hF [] []))
    · refine awp_sub (awp_loop' (z182 ql) z184 (z183 ql) (by intro x; rcases x with x | x <;> exact fun h => nomatch h) h17 (z185 ql)) ?_
      exact oF hF [] []

/-! ### beaconfleet/command.CheckNotes -/
def z178 : Unit → AEx
  | _ => .exit 0

def z177 : Unit → St
  | _ => Mem.st ⟨[], []⟩ (tl []) 0

def z176 : Unit → St
  | _ => Mem.st ⟨[], []⟩ (tl [(0, .c (.nil)), (9, .c (.nil)), (10, .i 0), (11, .i 0)]) 0

theorem z179 (s : Unit) (r : (Unit) ⊕ (Unit)) (hF : z175  s = some r) : Awp prog 0 53 (cL (cL (cR (cL (cR (cR (cB f159))))))) (Out 0 (kk z178) (SS (z176 ) (z177 )) r) (z176  s) := by
  unfold z175 at hF
  refine sR 1 (awp_seq (cE hF (fun h2 hF => ?_) fun h2 hF => ?_))
  · exact tT h2 (awp_skip (awp_seq (awp_block (awp_seq (nE hF)))))
  · refine tF h2 (awp_exit ?_)
    exact oO hF [] [] rfl

def z173 (r : Int) : TV × Mem := (.i r, ⟨[], []⟩)

theorem z174 {r} (hF : z172 = some r) : Holds prog 159 [.c (.nil)] ⟨[], []⟩ (Is (z173  r)) := by
  unfold z172 at hF
  refine hW f159 53 0 0 ?_
  refine sR 1 (awp_seq (sR 3 (cE hF (fun h1 hF => ?_) fun h1 hF => ?_)))
  · exact tT h1 (sR 1 (awp_ret (oF hF [] [])))
  · refine tF h1 (awp_skip (awp_seq (sR 3 (awp_block (awp_to (st' := z176  ()) (oT [] []) ?_)))))
    refine bE hF fun _ h4 hF => awp_sub (awp_loop' (z176 ) z178 (z177 ) (by intro x; exact fun h => nomatch h) h4 (z179 )) ?_
    exact sR 1 (awp_ret (oF hF [] []))

/-! ### slices.Grow[[]beaconfleet/api.Note,beaconfleet/api.Note] -/
def z769 (qn : Int) : (List api_Note) → St
  | vs => Mem.st ⟨[(0, ⟨65, 9, List.map api_Note.enc vs⟩)], []⟩ (tl [(0, .c (.own 0 none))]) 1

def z768 (qn : Int) : St := Mem.st ⟨[], []⟩ (tl [(0, .c (.nil)), (1, .i qn)]) 0

theorem z770 (qn : Int) {r} (hF : z767 qn = some r) : Awp prog 0 27 (cL (cR (cR (cB f239)))) (Out 0 nrm (z769 qn) r) (z768 qn) := by
  unfold z767 at hF
  refine awp_seq (awp_region (aR 2 (aK rfl ?_)))
  refine aR 5 (aE ?_)
  refine sR 2 (cE hF (fun h3 hF => ?_) fun h3 hF => ?_)
  · refine tT h3 (gE hF fun h4 hF => ?_)
    refine gE hF fun h5 hF => ?_
    refine awp_region (aR 2 (aK rfl ?_))
    refine aSn rfl ?_
    refine aR 1 (aZ api_Note.enc (api_Note.mk (api_Letter.mk ([] : List UInt8) ([] : List UInt8) ([] : List UInt8) 0 0 0) 0 0 0) h4 rfl ?_)
    refine aR 2 (aT api_Note.enc 15000 h5 rfl ?_)
    refine aR 1 (aE ?_)
    exact oO hF [(0, 18000)] [] rfl
  · exact tF h3 (awp_skip (oO hF [] [0] rfl))

def z765 (qn : Int) (r : (List api_Note)) : TV × Mem := (.c (.own 0 none), ⟨[(0, ⟨65, 9, List.map api_Note.enc r⟩)], []⟩)

theorem z766 {qn : Int} {r} (hF : z764 qn = some r) : Holds prog 239 [.c (.nil), .i qn] ⟨[], []⟩ (Is (z765 qn r)) := by
  unfold z764 at hF
  refine hW f239 27 0 0 ?_
  refine sR 1 (awp_seq (sR 2 (cE hF (fun h1 hF => ?_) fun h1 hF => ?_)))
  · exact tT h1 (nE hF)
  · refine tF h1 (awp_skip (awp_seq (awp_to (st' := z768 qn) (oT [] []) ?_)))
    refine bE hF fun vs1 h6 hF => awp_sub (z770 qn h6) ?_
    exact sR 2 (awp_ret (oF hF [] []))

/-! ### slices.Concat[[]beaconfleet/api.Note,beaconfleet/api.Note] -/
def z712 : Int → AEx
  | _ => .exit 0

def z711 (qslices : List (List api_Note)) : Int → St
  | vsize1 => Mem.st ⟨[], []⟩ (tl [(0, .c (.l (encL api_Note.enc) qslices)), (3, .i vsize1)]) 1

def z710 (qslices : List (List api_Note)) : Int × Int → St
  | (vsize, vx) => Mem.st ⟨[], []⟩ (tl [(0, .c (.l (encL api_Note.enc) qslices)), (3, .i vsize), (9, .c (.l (encL api_Note.enc) qslices)), (10, .i (qslices.length : Int)), (11, .i vx)]) 1

theorem z713 (qslices : List (List api_Note)) (s : Int × Int) (r : (Int × Int) ⊕ (Int)) (hF : z709 qslices s = some r) : Awp prog 1 36 (cL (cL (cR (cL (cR (cR (cB f161))))))) (Out 1 (kk z712) (SS (z710 qslices) (z711 qslices)) r) (z710 qslices s) := by
  obtain ⟨vsize, vx⟩ := s
  unfold z709 at hF
  refine sR 1 (awp_seq (cE hF (fun h1 hF => ?_) fun h1 hF => ?_))
  · refine tT h1 (awp_skip (awp_seq (awp_block (awp_seq (bE hF fun vy1 h2 hF => awp_region (aX (x_idx (encL api_Note.enc) h2) (aR 2 (aE ?_))))))))
    refine awp_seq (awp_region (aR 2 (aL api_Note.enc vy1 (aR 2 (aE ?_)))))
    refine sR 2 (cE hF (fun h3 hF => ?_) fun h3 hF => ?_)
    · exact tT h3 (nE hF)
    · exact tF h3 (awp_skip (gR 2 (oO hF [] [] rfl)))
  · refine tF h1 (awp_exit ?_)
    exact oO hF [] [] rfl

def z717 : (List api_Note) → AEx
  | _ => .exit 2

def z716 (qslices : List (List api_Note)) : (List api_Note) → St
  | vnewslice1 => Mem.st ⟨[(1, ⟨65, 9, List.map api_Note.enc vnewslice1⟩)], []⟩ (tl [(6, .c (.own 1 none))]) 2

def z715 (qslices : List (List api_Note)) : (List api_Note) × Int → St
  | (vnewslice, vx1) => Mem.st ⟨[(1, ⟨65, 9, List.map api_Note.enc vnewslice⟩)], []⟩ (tl [(6, .c (.own 1 none)), (25, .c (.l (encL api_Note.enc) qslices)), (26, .i (qslices.length : Int)), (27, .i vx1)]) 2

theorem z718 (qslices : List (List api_Note)) (s : (List api_Note) × Int) (r : ((List api_Note) × Int) ⊕ ((List api_Note))) (hF : z714 qslices s = some r) : Awp prog 1 36 (cL (cL (cR (cL (cR (cR (cR (cR (cB f161))))))))) (Out 1 (kk z717) (SS (z715 qslices) (z716 qslices)) r) (z715 qslices s) := by
  obtain ⟨vnewslice, vx1⟩ := s
  unfold z714 at hF
  refine sR 1 (awp_seq (cE hF (fun h7 hF => ?_) fun h7 hF => ?_))
  · refine tT h7 (awp_skip (awp_seq (awp_block (awp_seq (bE hF fun vy3 h8 hF => awp_region (aX (x_idx (encL api_Note.enc) h8) (aR 2 (aE ?_))))))))
    refine gE hF fun h9 hF => ?_
    refine awp_region (aR 2 (aX (x_app api_Note.enc 1 h9) (aR 1 (aE ?_))))
    exact gR 2 (oO hF [(1, 6002)] [] rfl)
  · refine tF h7 (awp_exit ?_)
    exact oO hF [] [] rfl

def z707 (qslices : List (List api_Note)) (r : (List api_Note)) : TV × Mem := (.c (.own 1 none), ⟨[(1, ⟨65, 9, List.map api_Note.enc r⟩)], []⟩)

theorem z708 {qslices : List (List api_Note)} {r} (hF : z706 qslices = some r) : Holds prog 161 [.c (.own 0 none)] ⟨[(0, ⟨56, 1, List.map (encL api_Note.enc) qslices⟩)], []⟩ (Is (z707 qslices r)) := by
  unfold z706 at hF
  refine hW f161 36 1 1 ?_
  refine sR 1 (awp_to (oT (m := ⟨[], []⟩) (ts := [(0, .c (.l (encL api_Note.enc) qslices))]) (nx := 1) [] []) ?_)
  refine sR 1 (awp_seq (awp_seq (awp_region (aR 1 (aL (encL api_Note.enc) qslices (aR 1 (aE ?_)))))))
  refine awp_block (awp_to (st' := z710 qslices (0, 0)) (oT [] []) ?_)
  refine bE hF fun vsize1_1 h5 hF => awp_sub (awp_loop' (z710 qslices) z712 (z711 qslices) (by intro x; exact fun h => nomatch h) h5 (z713 qslices)) ?_
  refine awp_seq (bE hF fun vr h6 hF => awp_region (aR 1 (aC (z766 h6) [] [] [] (aR 1 (aE ?_)))))
  refine awp_seq (awp_seq (awp_region (aR 1 (aL (encL api_Note.enc) qslices (aR 1 (aE ?_))))))
  refine awp_block (awp_to (st' := z715 qslices (vr, 0)) (oT [(1, 1001)] []) ?_)
  refine bE hF fun vnewslice1_1 h10 hF => awp_sub (awp_loop' (z715 qslices) z717 (z716 qslices) (by intro x; exact fun h => nomatch h) h10 (z718 qslices)) ?_
  exact sR 2 (awp_ret (oF hF [] []))

/-! ### beaconfleet/command.Merge -/
def z244 (qx : List api_Note) : Bool → St
  | vx2 => Mem.st ⟨[], []⟩ (tl [(0, .c (.l api_Note.enc qx)), (1, .c (.nil)), (7, .c (.nil)), (26, .b vx2)]) 0

def z243 (qx : List api_Note) : St := Mem.st ⟨[], []⟩ (tl [(0, .c (.l api_Note.enc qx)), (1, .c (.nil)), (7, .c (.nil))]) 0

theorem z245 (qx : List api_Note) {r} (hF : z242 qx = some r) : Awp prog 0 99 (cL (cL (cL (cL (cL (cR (cR (cR (cB f59))))))))) (Out 0 nrm (z244 qx) r) (z243 qx) := by
  unfold z242 at hF
  refine cE hF (fun h5 hF => ?_) fun h5 hF => ?_
  · refine awp_region (aR 1 (aL api_Note.enc qx (aB h5 (aR 5 (aE ?_)))))
    exact oO hF [] [] rfl
  · refine awp_region (aR 1 (aL api_Note.enc qx (aB h5 (aR 5 (aE ?_)))))
    exact oO hF [] [] rfl

def z240 : Unit → AEx
  | _ => .exit 0

def z239 (qx : List api_Note) : Unit → St
  | _ => Mem.st ⟨[], []⟩ (tl [(0, .c (.l api_Note.enc qx)), (1, .c (.nil)), (7, .c (.nil))]) 0

def z238 (qx : List api_Note) : Unit → St
  | _ => Mem.st ⟨[], []⟩ (tl [(0, .c (.l api_Note.enc qx)), (1, .c (.nil)), (7, .c (.nil))]) 0

theorem z241 (qx : List api_Note) (s : Unit) (r : (Unit) ⊕ (Unit)) (hF : z237 qx s = some r) : Awp prog 0 99 (cL (cL (cL (cR (cR (cR (cB f59))))))) (Out 0 (kk z240) (SS (z238 qx) (z239 qx)) r) (z238 qx s) := by
  unfold z237 at hF
  refine awp_seq (awp_seq (awp_to (st' := z243 qx) (oT [] []) ?_))
  refine bE hF fun vx2_1 h6 hF => awp_sub (z245 qx h6) ?_
  refine cE hF (fun h7 hF => ?_) fun h7 hF => ?_
  · exact tT h7 (awp_skip (awp_block (awp_seq (bE hF fun vy1 h8 hF => nE hF))))
  · refine tF h7 (awp_exit ?_)
    exact oO hF [] [] rfl

def z235 (qx : List api_Note) (r : (List api_Note) × Int) : TV × Mem := (.tup [.one (.own 0 none), .one (.i r.2)], ⟨[(0, ⟨65, 9, List.map api_Note.enc r.1⟩)], []⟩)

theorem z236 {qx : List api_Note} {r} (hF : z234 qx = some r) : Holds prog 59 [.c (.l api_Note.enc qx), .c (.nil)] ⟨[], []⟩ (Is (z235 qx r)) := by
  unfold z234 at hF
  refine hW f59 99 0 0 ?_
  refine sR 2 (awp_seq (awp_seq (bE hF fun vr5 h1 hF => bE hF fun vr h2 hF => bE hF fun vr1 h3 hF => awp_region (aR 1 (aC (z180 h1) [] [] [] (aR 1 (aC (z174 h2) [] [] [] (aR 1 (aC (z18 h3) [] [] [6000] (aR 1 ?_))))))))))
  refine aE ?_
  refine sR 2 (cE hF (fun h4 hF => ?_) fun h4 hF => ?_)
  · exact tT h4 (sR 3 (awp_ret (oF hF [] [0])))
  · refine tF h4 (awp_skip (sR 1 (awp_seq (awp_block (awp_to (st' := z238 qx ()) (oT [] []) ?_)))))
    refine bE hF fun _ h10 hF => awp_sub (awp_loop' (z238 qx) z240 (z239 qx) (by intro x; exact fun h => nomatch h) h10 (z241 qx)) ?_
    refine awp_seq (bE hF fun vr1_1 h11 hF => awp_region (aR 4 (aC (z708 h11) [(0, 3000)] [] [] (aR 1 (aE ?_)))))
    refine awp_seq (awp_seq (awp_region (aR 1 (aL api_Note.enc vr1_1 (aR 1 (aE ?_))))))
    refine cE hF (fun h12 hF => ?_) fun h12 hF => ?_
    · exact tT h12 (sR 2 (awp_ret (oF hF [] [0])))
    · exact tF h12 (awp_skip (sR 3 (awp_ret (oF hF [(0, 4001)] []))))

/-! ### beaconfleet/fleetkeep2.spoil[beaconfleet/api.Note] -/
def z460 : (List api_Note) → AEx
  | _ => .exit 0

def z459 (ql : List api_Note) : (List api_Note) → St
  | vl1 => Mem.st ⟨[(0, ⟨65, 9, List.map api_Note.enc vl1⟩)], []⟩ (tl []) 1

def z458 (ql : List api_Note) : (List api_Note) × Int → St
  | (vl, vx) => Mem.st ⟨[(0, ⟨65, 9, List.map api_Note.enc vl⟩)], [(1, [.s ([] : List UInt8), .s ([] : List UInt8), .s ([] : List UInt8), .i 0, .i 0, .i 0, .i 0, .i 0, .i 0])]⟩ (tl [(0, .c (.own 0 none)), (2, .c (.box 1 0)), (5, .i (ql.length : Int)), (6, .i vx)]) 2

theorem z461 (ql : List api_Note) (s : (List api_Note) × Int) (r : ((List api_Note) × Int) ⊕ ((List api_Note))) (hF : z457 ql s = some r) : Awp prog 1 14 (cL (cL (cR (cR (cB f60))))) (Out 1 (kk z460) (SS (z458 ql) (z459 ql)) r) (z458 ql s) := by
  obtain ⟨vl, vx⟩ := s
  unfold z457 at hF
  refine sR 1 (awp_seq (cE hF (fun h1 hF => ?_) fun h1 hF => ?_))
  · refine tT h1 (awp_skip (awp_seq (awp_block (sR 2 (bE hF fun vy1 h2 hF => awp_region (aR 3 (aX (x_idxO api_Note.enc 0 h2) (aX (x_stE api_Note.enc (api_Note.mk (api_Letter.mk ([] : List UInt8) ([] : List UInt8) ([] : List UInt8) 0 0 0) 0 0 0) h2) (aE ?_)))))))))
    exact gR 2 (oO hF [] [] rfl)
  · refine tF h1 (awp_exit ?_)
    exact oO hF [] [] rfl

def z455 (ql : List api_Note) (r : (List api_Note)) : TV × Mem := (.tup [], ⟨[(0, ⟨65, 9, List.map api_Note.enc r⟩)], []⟩)

theorem z456 {ql : List api_Note} {r} (hF : z454 ql = some r) : Holds prog 60 [.c (.own 0 none)] ⟨[(0, ⟨65, 9, List.map api_Note.enc ql⟩)], []⟩ (Is (z455 ql r)) := by
  unfold z454 at hF
  refine hW f60 14 1 1 ?_
  refine sR 1 (awp_seq (awp_region (aR 1 (aL api_Note.enc ql (aR 1 (aE ?_))))))
  refine awp_block (awp_to (st' := z458 ql (ql, 0)) (oT [] []) ?_)
  refine bE hF fun vl1_1 h3 hF => awp_sub (awp_loop' (z458 ql) z460 (z459 ql) (by intro x; exact fun h => nomatch h) h3 (z461 ql)) ?_
  exact oF hF [] []

/-! ### (*beaconfleet/command.Office).timeFault -/
def z356 (qo : Int) (qo1 : Int) (qo2 : Int) (qm : List (List UInt8 × api_Note)) (qo3 : Int) (qat : Int) (r : Int) : TV × Mem := (.i r, ⟨[], [(0, [.i qo, .i qo1, .i qo2, .i qo, .mapp 1, .i qo3]), (1, [.mapc .str true (List.map (encM D.str api_Note.enc) qm)])]⟩)

theorem z357 {qo : Int} {qo1 : Int} {qo2 : Int} {qm : List (List UInt8 × api_Note)} {qo3 : Int} {qat : Int} {r} (hF : z355 qo qo1 qo2 qm qo3 qat = some r) : Holds prog 91 [.c (.box 0 0), .i qat] ⟨[], [(0, [.i qo, .i qo1, .i qo2, .i qo, .mapp 1, .i qo3]), (1, [.mapc .str true (List.map (encM D.str api_Note.enc) qm)])]⟩ (Is (z356 qo qo1 qo2 qm qo3 qat r)) := by
  unfold z355 at hF
  refine hW f91 16 2 2 ?_
  refine sR 1 (awp_seq (awp_block (awp_seq (bE hF fun vr1 h1 hF => awp_region (aR 1 (aC (z43 h1) [] [] [] (aR 2 (aE ?_))))))))
  refine cE hF (fun h2 hF => ?_) fun h2 hF => ?_
  · exact tT h2 (sR 1 (awp_ret (oF hF [] [])))
  · refine tF h2 (sR 7 (cE hF (fun h3 hF => ?_) fun h3 hF => ?_))
    · exact tT h3 (sR 1 (awp_ret (oF hF [] [])))
    · exact tF h3 (awp_skip (sR 1 (awp_ret (oF hF [] []))))

/-! ### (*beaconfleet/command.Office).turn -/
def z362 (qo : Int) (qo1 : Int) (qo2 : Int) (qo3 : Int) (qn : api_Note) (qme0 : List (Nat × List D × List D)) (qcl0 : Nat) (r : Int) : TV × Mem := (.i r, ⟨[], [(0, [.i qo, .i qo1, .i qo2, .i qo, .mapp 1, .i qo3]), (1, [.mapg .str true qme0 qcl0])]⟩)

theorem z363 {qo : Int} {qo1 : Int} {qo2 : Int} {qo3 : Int} {qn : api_Note} {qme0 : List (Nat × List D × List D)} {qcl0 : Nat} {r} (hF : z361 qo qo1 qo2 qo3 qn = some r) : Holds prog 180 [.c (.box 0 0), .v (.agg [.s qn.Letter.Id, .s qn.Letter.Slot, .s qn.Letter.Body, .i qn.Letter.Prio, .i qn.Letter.At, .i qn.Letter.Until, .i qn.State, .i qn.Tries, .i qn.Since])] ⟨[], [(0, [.i qo, .i qo1, .i qo2, .i qo, .mapp 1, .i qo3]), (1, [.mapg .str true qme0 qcl0])]⟩ (Is (z362 qo qo1 qo2 qo3 qn qme0 qcl0 r)) := by
  unfold z361 at hF
  refine hW f180 23 2 2 ?_
  refine sR 2 (awp_seq (sR 3 (cE hF (fun h1 hF => ?_) fun h1 hF => ?_)))
  · refine tT h1 (awp_seq (aD ?_))
    refine dR 13 ?_
    refine dE ?_
    exact awp_ret (oF hF [] [])
  · exact tF h1 (awp_skip (sR 4 (awp_ret (oF hF [] []))))

/-! ### (*beaconfleet/command.Office).grown -/
def z339 : api_Note → AEx
  | _ => .exit 0

def z338 (qo : Int) (qo1 : Int) (qo2 : Int) (qo3 : Int) (qat : Int) (qme0 : List (Nat × List D × List D)) (qcl0 : Nat) : api_Note → St
  | vn1 => Mem.st ⟨[], [(0, [.i qo, .i qo1, .i qo2, .i qo, .mapp 1, .i qo3]), (1, [.mapg .str true qme0 qcl0]), (2, [.s vn1.Letter.Id, .s vn1.Letter.Slot, .s vn1.Letter.Body, .i vn1.Letter.Prio, .i vn1.Letter.At, .i vn1.Letter.Until, .i vn1.State, .i vn1.Tries, .i vn1.Since]), (3, [.s ([] : List UInt8), .s ([] : List UInt8), .s ([] : List UInt8), .i 0, .i 0, .i 0, .i 0, .i 0, .i 0])]⟩ (tl [(4, .c (.box 2 0)), (6, .c (.box 3 0))]) 4

def z337 (qo : Int) (qo1 : Int) (qo2 : Int) (qo3 : Int) (qat : Int) (qme0 : List (Nat × List D × List D)) (qcl0 : Nat) : api_Note → St
  | vn => Mem.st ⟨[], [(0, [.i qo, .i qo1, .i qo2, .i qo, .mapp 1, .i qo3]), (1, [.mapg .str true qme0 qcl0]), (2, [.s vn.Letter.Id, .s vn.Letter.Slot, .s vn.Letter.Body, .i vn.Letter.Prio, .i vn.Letter.At, .i vn.Letter.Until, .i vn.State, .i vn.Tries, .i vn.Since]), (3, [.s ([] : List UInt8), .s ([] : List UInt8), .s ([] : List UInt8), .i 0, .i 0, .i 0, .i 0, .i 0, .i 0])]⟩ (tl [(0, .c (.box 0 0)), (2, .i qat), (4, .c (.box 2 0)), (6, .c (.box 3 0))]) 4

theorem z340 (qo : Int) (qo1 : Int) (qo2 : Int) (qo3 : Int) (qat : Int) (qme0 : List (Nat × List D × List D)) (qcl0 : Nat) (vn : api_Note) (r : (api_Note) ⊕ (api_Note)) (hF : z336 qo qo1 qo2 qo3 qat vn = some r) : Awp prog 2 39 (cL (cL (cL (cR (cB f182))))) (Out 2 (kk z339) (SS (z337 qo qo1 qo2 qo3 qat qme0 qcl0) (z338 qo qo1 qo2 qo3 qat qme0 qcl0)) r) (z337 qo qo1 qo2 qo3 qat qme0 qcl0 vn) := by
  unfold z336 at hF
  refine awp_seq (awp_seq (bE hF fun _ h1 hF => awp_region (aR 2 (aC (z389 h1) [] [] [] (aR 1 (aE ?_))))))
  refine cE hF (fun h2 hF => ?_) fun h2 hF => ?_
  · refine tT h2 (awp_skip (awp_block (awp_seq (bE hF fun vr1 h3 hF => awp_region (aR 2 (aC (z363 (qme0 := qme0) (qcl0 := qcl0) h3) [] [] [] (aR 1 (aE ?_))))))))
    refine awp_seq (sR 3 (cE hF (fun h4 hF => ?_) fun h4 hF => ?_))
    · refine tT h4 (awp_exit ?_)
      exact oO hF [] [] rfl
    · refine tF h4 (awp_skip (sR 3 (awp_block (sR 6 (cE hF (fun h5 hF => ?_) fun h5 hF => ?_)))))
      · exact tT h5 (gR 2 (oO hF [] [] rfl))
      · refine tF h5 (awp_seq (aD ?_))
        refine dR 9 ?_
        refine dE ?_
        refine cE hF (fun h6 hF => ?_) fun h6 hF => ?_
        · exact tT h6 (gR 2 (oO hF [] [] rfl))
        · exact tF h6 (gR 2 (oO hF [] [] rfl))
  · refine tF h2 (awp_exit ?_)
    exact oO hF [] [] rfl

def z334 (qo : Int) (qo1 : Int) (qo2 : Int) (qo3 : Int) (qn : api_Note) (qat : Int) (qme0 : List (Nat × List D × List D)) (qcl0 : Nat) (r : api_Note) : TV × Mem := (.v (.agg [.s r.Letter.Id, .s r.Letter.Slot, .s r.Letter.Body, .i r.Letter.Prio, .i r.Letter.At, .i r.Letter.Until, .i r.State, .i r.Tries, .i r.Since]), ⟨[], [(0, [.i qo, .i qo1, .i qo2, .i qo, .mapp 1, .i qo3]), (1, [.mapg .str true qme0 qcl0])]⟩)

theorem z335 {qo : Int} {qo1 : Int} {qo2 : Int} {qo3 : Int} {qn : api_Note} {qat : Int} {qme0 : List (Nat × List D × List D)} {qcl0 : Nat} {r} (hF : z333 qo qo1 qo2 qo3 qn qat = some r) : Holds prog 182 [.c (.box 0 0), .v (.agg [.s qn.Letter.Id, .s qn.Letter.Slot, .s qn.Letter.Body, .i qn.Letter.Prio, .i qn.Letter.At, .i qn.Letter.Until, .i qn.State, .i qn.Tries, .i qn.Since]), .i qat] ⟨[], [(0, [.i qo, .i qo1, .i qo2, .i qo, .mapp 1, .i qo3]), (1, [.mapg .str true qme0 qcl0])]⟩ (Is (z334 qo qo1 qo2 qo3 qn qat qme0 qcl0 r)) := by
  unfold z333 at hF
  refine hW f182 39 2 2 ?_
  refine sR 2 (awp_seq (awp_block (awp_to (st' := z337 qo qo1 qo2 qo3 qat qme0 qcl0 (api_Note.mk (api_Letter.mk qn.Letter.Id qn.Letter.Slot qn.Letter.Body qn.Letter.Prio qn.Letter.At qn.Letter.Until) qn.State qn.Tries qn.Since)) (oT [(3, 1002)] []) ?_)))
  refine bE hF fun vn1_1 h7 hF => awp_sub (awp_loop' (z337 qo qo1 qo2 qo3 qat qme0 qcl0) z339 (z338 qo qo1 qo2 qo3 qat qme0 qcl0) (by intro x; exact fun h => nomatch h) h7 (z340 qo qo1 qo2 qo3 qat qme0 qcl0)) ?_
  exact sR 2 (awp_ret (oF hF [] []))

/-! ### (*beaconfleet/command.Office).aged -/
def z313 : ((List (List UInt8 × api_Note)) × (List api_Note)) → AEx
  | _ => .exit 0

def z312 (qo : Int) (qo1 : Int) (qo2 : Int) (qm : List (List UInt8 × api_Note)) (qo3 : Int) (qat : Int) (vme : List (Nat × List D × List D)) (vcl : Nat) (vhp : (List.map (encM D.str api_Note.enc) qm).Perm (List.map (·.2) vme)) : ((List (List UInt8 × api_Note)) × (List api_Note)) → St
  | (vm1, vover1) => Mem.st ⟨[(3, ⟨65, 9, List.map api_Note.enc vover1⟩)], [(0, [.i qo, .i qo1, .i qo2, .i qo, .mapp 1, .i qo3]), (1, [.mapc .str true (List.map (encM D.str api_Note.enc) qm)]), (2, [.mapc .str true (List.map (encM D.str api_Note.enc) vm1)])]⟩ (tl [(0, .c (.box 0 0)), (5, .c (.mapp 2)), (6, .c (.own 3 none))]) 4

def z311 (qo : Int) (qo1 : Int) (qo2 : Int) (qm : List (List UInt8 × api_Note)) (qo3 : Int) (qat : Int) (vme : List (Nat × List D × List D)) (vcl : Nat) (vhp : (List.map (encM D.str api_Note.enc) qm).Perm (List.map (·.2) vme)) (vl : List (List UInt8 × api_Note)) : (List (List UInt8 × api_Note)) × (List api_Note) → St
  | (vm, vover) => Mem.st ⟨[(4, ⟨65, 9, List.map api_Note.enc vover⟩)], [(0, [.i qo, .i qo1, .i qo2, .i qo, .mapp 1, .i qo3]), (1, [.mapg .str true vme vcl]), (2, [.iterc 1 vme vcl (List.map (encM D.str api_Note.enc) vl) none]), (3, [.mapc .str true (List.map (encM D.str api_Note.enc) vm)])]⟩ (tl [(0, .c (.box 0 0)), (1, .i qat), (5, .c (.mapp 3)), (6, .c (.own 4 none)), (16, .c (.box 2 0))]) 5

theorem z314 (qo : Int) (qo1 : Int) (qo2 : Int) (qm : List (List UInt8 × api_Note)) (qo3 : Int) (qat : Int) (vme : List (Nat × List D × List D)) (vcl : Nat) (vhp : (List.map (encM D.str api_Note.enc) qm).Perm (List.map (·.2) vme)) (vl : List (List UInt8 × api_Note)) (s : (List (List UInt8 × api_Note)) × (List api_Note)) (hE : vl = [] → ∃ x, z310 qo qo1 qo2 qo3 qat none s = some x) (hP : ∀ e l', List.Perm vl (e :: l') → ∃ x, z310 qo qo1 qo2 qo3 qat (some e) s = some x) : Awp prog 2 60 (cL (cL (cR (cL (cR (cR (cR (cB f93)))))))) (OutR 2 z313 (z310 qo qo1 qo2 qo3 qat) (z311 qo qo1 qo2 qm qo3 qat vme vcl vhp) (z312 qo qo1 qo2 qm qo3 qat vme vcl vhp) vl s) (z311 qo qo1 qo2 qm qo3 qat vme vcl vhp vl s) := by
  obtain ⟨vm, vover⟩ := s
  refine awp_seq (awp_region (aNext (ka := .str) (va := true) (me := vme) (cl := vcl) (cur := none) 2 1 (encM D.str api_Note.enc) vl rfl (fun h3 => ?_) (fun ve1 vl2 vb1 h4 => ?_)))
  · obtain ⟨x, hF0⟩ := hE h3
    have hF := hF0
    unfold z310 at hF
    refine aR 1 (aE ?_)
    refine awp_seq (tF rfl (awp_close (ka := .str) (va := true) (me := vme) (cl := vcl) 1 vhp ?_))
    refine awp_exit ?_
    exact outE h3 hF0 (oO hF [(2, 3), (3, 4)] [] rfl)
  · obtain ⟨x, hF0⟩ := hP _ _ h4
    have hF := hF0
    unfold z310 at hF
    refine aR 1 (aE ?_)
    refine awp_seq (tT rfl (awp_skip (awp_block (awp_seq (awp_region (aEntry (ka := .str) (va := true) (me := vme) (cl := vcl) (b := vb1) (rest := List.map (encM D.str api_Note.enc) vl2) 2 1 (encM D.str api_Note.enc) ve1 rfl ?_))))))
    refine aR 5 (aE ?_)
    refine awp_seq (bE hF fun vr2_1 h5 hF => awp_region (aR 3 (aC (z335 (qme0 := vme) (qcl0 := vcl) h5) [] [] [] (aR 1 (aE ?_)))))
    refine awp_seq (awp_region (aR 3 (aPut 3 .str true (l := vm) (key := ve1.1) (v := (api_Note.mk (api_Letter.mk vr2_1.Letter.Id vr2_1.Letter.Slot vr2_1.Letter.Body vr2_1.Letter.Prio vr2_1.Letter.At vr2_1.Letter.Until) vr2_1.State vr2_1.Tries vr2_1.Since)) D.str api_Note.enc rfl ?_)))
    refine aE ?_
    refine awp_seq (bE hF fun _ h6 hF => awp_region (aR 2 (aC (z389 h6) [] [] [] (aE ?_))))
    refine cE hF (fun h7 hF => ?_) fun h7 hF => ?_
    · refine tT h7 (gE hF fun h8 hF => ?_)
      refine awp_region (aR 3 (aX (x_app api_Note.enc 4 h8) (aR 1 (aE ?_))))
      exact outP h4 hF0 (outCur (idM := 1) (me := vme) (cl := vcl) (rest := List.map (encM D.str api_Note.enc) vl2) (cur := some (vb1, (encM D.str api_Note.enc) ve1)) 2 <| oO hF [(4, 23005)] [] rfl)
    · exact tF h7 (awp_skip (outP h4 hF0 (outCur (idM := 1) (me := vme) (cl := vcl) (rest := List.map (encM D.str api_Note.enc) vl2) (cur := some (vb1, (encM D.str api_Note.enc) ve1)) 2 <| oO hF [] [] rfl)))

def z318 : (List (List UInt8 × api_Note)) → AEx
  | _ => .exit 2

def z317 (qo : Int) (qo1 : Int) (qo2 : Int) (qm : List (List UInt8 × api_Note)) (qo3 : Int) (vl3 : List api_Note) : (List (List UInt8 × api_Note)) → St
  | vm3 => Mem.st ⟨[], [(0, [.i qo, .i qo1, .i qo2, .i qo, .mapp 1, .i qo3]), (1, [.mapc .str true (List.map (encM D.str api_Note.enc) qm)]), (2, [.mapc .str true (List.map (encM D.str api_Note.enc) vm3)])]⟩ (tl [(5, .c (.mapp 2))]) 3

def z316 (qo : Int) (qo1 : Int) (qo2 : Int) (qm : List (List UInt8 × api_Note)) (qo3 : Int) (vl3 : List api_Note) : (List (List UInt8 × api_Note)) × Int → St
  | (vm2, vx) => Mem.st ⟨[], [(0, [.i qo, .i qo1, .i qo2, .i qo, .mapp 1, .i qo3]), (1, [.mapc .str true (List.map (encM D.str api_Note.enc) qm)]), (2, [.mapc .str true (List.map (encM D.str api_Note.enc) vm2)])]⟩ (tl [(5, .c (.mapp 2)), (48, .c (.l api_Note.enc (vl3.take (imax 0 (IntKind.wrap .i64 ((vl3.length : Int) - qo))).toNat))), (49, .i ((vl3.take (imax 0 (IntKind.wrap .i64 ((vl3.length : Int) - qo))).toNat).length : Int)), (50, .i vx)]) 3

theorem z319 (qo : Int) (qo1 : Int) (qo2 : Int) (qm : List (List UInt8 × api_Note)) (qo3 : Int) (vl3 : List api_Note) (s : (List (List UInt8 × api_Note)) × Int) (r : ((List (List UInt8 × api_Note)) × Int) ⊕ ((List (List UInt8 × api_Note)))) (hF : z315 qo vl3 s = some r) : Awp prog 2 60 (cL (cL (cR (cL (cR (cR (cR (cR (cR (cB f93)))))))))) (Out 2 (kk z318) (SS (z316 qo qo1 qo2 qm qo3 vl3) (z317 qo qo1 qo2 qm qo3 vl3)) r) (z316 qo qo1 qo2 qm qo3 vl3 s) := by
  obtain ⟨vm2, vx⟩ := s
  unfold z315 at hF
  refine sR 1 (awp_seq (cE hF (fun h13 hF => ?_) fun h13 hF => ?_))
  · refine tT h13 (awp_skip (awp_seq (awp_block (awp_seq (bE hF fun vy1 h14 hF => awp_region (aX (x_idx api_Note.enc h14) (aR 3 (aE ?_))))))))
    refine awp_region (aR 4 (aDel 2 .str true (l := vm2) (key := vy1.Letter.Id) D.str api_Note.enc rfl ?_))
    refine aE ?_
    exact gR 2 (oO hF [] [] rfl)
  · refine tF h13 (awp_exit ?_)
    exact oO hF [] [] rfl

def z308 (qo : Int) (qo1 : Int) (qo2 : Int) (qm : List (List UInt8 × api_Note)) (qo3 : Int) (qat : Int) (r : (List (List UInt8 × api_Note))) : TV × Mem := (.c (.mapp 2), ⟨[], [(0, [.i qo, .i qo1, .i qo2, .i qo, .mapp 1, .i qo3]), (1, [.mapc .str true (List.map (encM D.str api_Note.enc) qm)]), (2, [.mapc .str true (List.map (encM D.str api_Note.enc) r)])]⟩)

theorem z309 {qo : Int} {qo1 : Int} {qo2 : Int} {qm : List (List UInt8 × api_Note)} {qo3 : Int} {qat : Int} {r} (hF : z307 qo qo1 qo2 qm qo3 qat = some r) : Holds prog 93 [.c (.box 0 0), .i qat] ⟨[], [(0, [.i qo, .i qo1, .i qo2, .i qo, .mapp 1, .i qo3]), (1, [.mapc .str true (List.map (encM D.str api_Note.enc) qm)])]⟩ (Is (z308 qo qo1 qo2 qm qo3 qat r)) := by
  unfold z307 at hF
  refine hW f93 60 2 2 ?_
  refine sR 1 (awp_seq (awp_region (aX (x_map .str true (κ := List UInt8) (β := api_Note) D.str api_Note.enc) (aR 1 (aE ?_)))))
  refine sR 1 (awp_seq (awp_seq (awp_region (aR 4 (aRange (ka := .str) (va := true) 1 (encM D.str api_Note.enc) qm rfl (fun vme vcl vhp => ?_))))))
  refine aE ?_
  refine awp_block (awp_to (st' := z311 qo qo1 qo2 qm qo3 qat vme vcl vhp qm (([] : List (List UInt8 × api_Note)), [])) (oT [(2, 8002), (3, 1002)] [4]) ?_)
  refine rG (H := z311 qo qo1 qo2 qm qo3 qat vme vcl vhp) (k := z313) (S := z312 qo qo1 qo2 qm qo3 qat vme vcl vhp) hF (by intro x; exact fun h => nomatch h) (fun l s => z314 qo qo1 qo2 qm qo3 qat vme vcl vhp l s) (fun x hF => ?_)
  obtain ⟨vm1_1, vover1_1⟩ := x
  refine awp_seq (bE hF fun vl3 h10 hF => gE hF fun h11 hF => ?_)
  refine awp_region (aR 1 (aCp (z805 h10) ⟨⟨rfl, rfl, pin1 h11⟩, trivial⟩ [(0, 3)] [] [] ?_))
  refine aE ?_
  refine awp_seq (awp_seq (gE hF fun h12 hF => ?_))
  refine awp_region (aR 2 (aL api_Note.enc vl3 (aR 7 (aT api_Note.enc 3 h12 rfl ?_))))
  refine aL api_Note.enc (vl3.take (imax 0 (IntKind.wrap .i64 ((vl3.length : Int) - qo))).toNat) (aR 1 (aE ?_))
  refine awp_to (oT (m := ⟨[], [(0, [.i qo, .i qo1, .i qo2, .i qo, .mapp 1, .i qo3]), (1, [.mapc .str true (List.map (encM D.str api_Note.enc) qm)]), (2, [.mapc .str true (List.map (encM D.str api_Note.enc) vm1_1)])]⟩) (ts := [(5, .c (.mapp 2)), (48, .c (.l api_Note.enc (vl3.take (imax 0 (IntKind.wrap .i64 ((vl3.length : Int) - qo))).toNat))), (49, .i ((vl3.take (imax 0 (IntKind.wrap .i64 ((vl3.length : Int) - qo))).toNat).length : Int)), (50, .i 0)]) (nx := 3) [] []) ?_
  refine awp_block (awp_to (st' := z316 qo qo1 qo2 qm qo3 vl3 (vm1_1, 0)) (oT [] []) ?_)
  refine bE hF fun vm3_1 h15 hF => awp_sub (awp_loop' (z316 qo qo1 qo2 qm qo3 vl3) z318 (z317 qo qo1 qo2 qm qo3 vl3) (by intro x; exact fun h => nomatch h) h15 (z319 qo qo1 qo2 qm qo3 vl3)) ?_
  exact sR 2 (awp_ret (oF hF [] []))

/-! ### (*beaconfleet/command.Office).keep -/
def z350 (qo : Int) (qo1 : Int) (qo2 : Int) (qm : List (List UInt8 × api_Note)) (qo3 : Int) (qm1 : List (List UInt8 × api_Note)) (qat : Int) (r : Unit) : TV × Mem := (.tup [], ⟨[], [(0, [.i qo, .i qo1, .i qo2, .i qo, .mapp 2, .i qat]), (1, [.mapc .str true (List.map (encM D.str api_Note.enc) qm)]), (2, [.mapc .str true (List.map (encM D.str api_Note.enc) qm1)])]⟩)

theorem z351 {qo : Int} {qo1 : Int} {qo2 : Int} {qm : List (List UInt8 × api_Note)} {qo3 : Int} {qm1 : List (List UInt8 × api_Note)} {qat : Int} {r} (hF : z349 qo qo1 qo2 qm qo3 qm1 qat = some r) : Holds prog 92 [.c (.box 0 0), .c (.mapp 2), .i qat] ⟨[], [(0, [.i qo, .i qo1, .i qo2, .i qo, .mapp 1, .i qo3]), (1, [.mapc .str true (List.map (encM D.str api_Note.enc) qm)]), (2, [.mapc .str true (List.map (encM D.str api_Note.enc) qm1)])]⟩ (Is (z350 qo qo1 qo2 qm qo3 qm1 qat r)) := by
  unfold z349 at hF
  refine hW f92 14 3 3 ?_
  exact gR 10 (oF hF [] [])

/-! ### (*beaconfleet/command.Office).Put -/
def z294 (qx : Int) (qx1 : Int) (qx2 : Int) (qm : List (List UInt8 × api_Note)) (qx3 : Int) (qx4 : api_Letter) (vm4 : List (List UInt8 × api_Note)) (vme : List (Nat × List D × List D)) (vcl : Nat) (vhp : (List.map (encM D.str api_Note.enc) vm4).Perm (List.map (·.2) vme)) (vx : List UInt8) (ve2 : (List UInt8 × api_Note)) (vl2 : List (List UInt8 × api_Note)) (vb1 : Nat) : Bool → St
  | vx2 => Mem.st ⟨[], [(0, [.i qx, .i qx1, .i qx2, .i qx, .mapp 1, .i qx3]), (1, [.mapc .str true (List.map (encM D.str api_Note.enc) qm)]), (2, [.s qx4.Id, .s qx4.Slot, .s qx4.Body, .i qx4.Prio, .i qx4.At, .i qx4.Until]), (3, [.iterc 4 vme vcl (List.map (encM D.str api_Note.enc) vl2) (some (vb1, (encM D.str api_Note.enc) ve2))]), (4, [.mapg .str true vme vcl])]⟩ (tl [(0, .c (.box 0 0)), (3, .c (.box 2 0)), (6, .c (.mapp 4)), (9, .c (.s vx)), (10, .c (.s ve2.1)), (38, .c (.box 3 0)), (64, .b vx2)]) 5

def z293 (qx : Int) (qx1 : Int) (qx2 : Int) (qm : List (List UInt8 × api_Note)) (qx3 : Int) (qx4 : api_Letter) (vm4 : List (List UInt8 × api_Note)) (vme : List (Nat × List D × List D)) (vcl : Nat) (vhp : (List.map (encM D.str api_Note.enc) vm4).Perm (List.map (·.2) vme)) (vx : List UInt8) (ve2 : (List UInt8 × api_Note)) (vl2 : List (List UInt8 × api_Note)) (vb1 : Nat) : St := Mem.st ⟨[], [(0, [.i qx, .i qx1, .i qx2, .i qx, .mapp 1, .i qx3]), (1, [.mapc .str true (List.map (encM D.str api_Note.enc) qm)]), (2, [.s qx4.Id, .s qx4.Slot, .s qx4.Body, .i qx4.Prio, .i qx4.At, .i qx4.Until]), (3, [.s ve2.2.Letter.Id, .s ve2.2.Letter.Slot, .s ve2.2.Letter.Body, .i ve2.2.Letter.Prio, .i ve2.2.Letter.At, .i ve2.2.Letter.Until, .i ve2.2.State, .i ve2.2.Tries, .i ve2.2.Since]), (4, [.iterc 5 vme vcl (List.map (encM D.str api_Note.enc) vl2) (some (vb1, (encM D.str api_Note.enc) ve2))]), (5, [.mapg .str true vme vcl])]⟩ (tl [(0, .c (.box 0 0)), (3, .c (.box 2 0)), (6, .c (.mapp 5)), (9, .c (.s vx)), (10, .c (.s ve2.1)), (11, .c (.box 3 0)), (38, .c (.box 4 0))]) 6

theorem z295 (qx : Int) (qx1 : Int) (qx2 : Int) (qm : List (List UInt8 × api_Note)) (qx3 : Int) (qx4 : api_Letter) (vm4 : List (List UInt8 × api_Note)) (vme : List (Nat × List D × List D)) (vcl : Nat) (vhp : (List.map (encM D.str api_Note.enc) vm4).Perm (List.map (·.2) vme)) (vx : List UInt8) (ve2 : (List UInt8 × api_Note)) (vl2 : List (List UInt8 × api_Note)) (vb1 : Nat) {r} (hF : z292 qx4 ve2 = some r) : Awp prog 2 103 (cL (cR (cL (cR (cR (cL (cL (cR (cL (cR (cR (cR (cR (cR (cB f61))))))))))))))) (Out 2 nrm (z294 qx qx1 qx2 qm qx3 qx4 vm4 vme vcl vhp vx ve2 vl2 vb1) r) (z293 qx qx1 qx2 qm qx3 qx4 vm4 vme vcl vhp vx ve2 vl2 vb1) := by
  unfold z292 at hF
  refine cE hF (fun h13 hF => ?_) fun h13 hF => ?_
  · refine cE hF (fun h14 hF => ?_) fun h14 hF => ?_
    · refine cE hF (fun h15 hF => ?_) fun h15 hF => ?_
      · refine awp_region (aR 2 (aB h13 (aR 6 (aB h14 (aR 4 (aB h15 (aR 6 (aE ?_))))))))
        exact oO hF [(3, 4), (4, 5)] [] rfl
      · refine awp_region (aR 2 (aB h13 (aR 6 (aB h14 (aR 4 (aB h15 (aR 6 (aE ?_))))))))
        exact oO hF [(3, 4), (4, 5)] [] rfl
    · refine awp_region (aR 2 (aB h13 (aR 6 (aB h14 (aR 11 (aE ?_))))))
      exact oO hF [(3, 4), (4, 5)] [] rfl
  · refine awp_region (aR 2 (aB h13 (aR 18 (aE ?_))))
    exact oO hF [(3, 4), (4, 5)] [] rfl

def z290 : (List UInt8) → AEx
  | _ => .exit 0

def z289 (qx : Int) (qx1 : Int) (qx2 : Int) (qm : List (List UInt8 × api_Note)) (qx3 : Int) (qx4 : api_Letter) (vm4 : List (List UInt8 × api_Note)) (vme : List (Nat × List D × List D)) (vcl : Nat) (vhp : (List.map (encM D.str api_Note.enc) vm4).Perm (List.map (·.2) vme)) : (List UInt8) → St
  | vx3 => Mem.st ⟨[], [(0, [.i qx, .i qx1, .i qx2, .i qx, .mapp 1, .i qx3]), (1, [.mapc .str true (List.map (encM D.str api_Note.enc) qm)]), (2, [.s qx4.Id, .s qx4.Slot, .s qx4.Body, .i qx4.Prio, .i qx4.At, .i qx4.Until]), (3, [.mapc .str true (List.map (encM D.str api_Note.enc) vm4)])]⟩ (tl [(0, .c (.box 0 0)), (3, .c (.box 2 0)), (6, .c (.mapp 3)), (9, .c (.s vx3))]) 4

def z288 (qx : Int) (qx1 : Int) (qx2 : Int) (qm : List (List UInt8 × api_Note)) (qx3 : Int) (qx4 : api_Letter) (vm4 : List (List UInt8 × api_Note)) (vme : List (Nat × List D × List D)) (vcl : Nat) (vhp : (List.map (encM D.str api_Note.enc) vm4).Perm (List.map (·.2) vme)) (vl : List (List UInt8 × api_Note)) : (List UInt8) → St
  | vx => Mem.st ⟨[], [(0, [.i qx, .i qx1, .i qx2, .i qx, .mapp 1, .i qx3]), (1, [.mapc .str true (List.map (encM D.str api_Note.enc) qm)]), (2, [.s qx4.Id, .s qx4.Slot, .s qx4.Body, .i qx4.Prio, .i qx4.At, .i qx4.Until]), (3, [.iterc 4 vme vcl (List.map (encM D.str api_Note.enc) vl) none]), (4, [.mapg .str true vme vcl])]⟩ (tl [(0, .c (.box 0 0)), (3, .c (.box 2 0)), (6, .c (.mapp 4)), (9, .c (.s vx)), (38, .c (.box 3 0))]) 5

theorem z291 (qx : Int) (qx1 : Int) (qx2 : Int) (qm : List (List UInt8 × api_Note)) (qx3 : Int) (qx4 : api_Letter) (vm4 : List (List UInt8 × api_Note)) (vme : List (Nat × List D × List D)) (vcl : Nat) (vhp : (List.map (encM D.str api_Note.enc) vm4).Perm (List.map (·.2) vme)) (vl : List (List UInt8 × api_Note)) (vx : (List UInt8)) (hE : vl = [] → ∃ x, z287 qx4 none vx = some x) (hP : ∀ e l', List.Perm vl (e :: l') → ∃ x, z287 qx4 (some e) vx = some x) : Awp prog 2 103 (cL (cL (cR (cL (cR (cR (cR (cR (cR (cB f61)))))))))) (OutR 2 z290 (z287 qx4) (z288 qx qx1 qx2 qm qx3 qx4 vm4 vme vcl vhp) (z289 qx qx1 qx2 qm qx3 qx4 vm4 vme vcl vhp) vl vx) (z288 qx qx1 qx2 qm qx3 qx4 vm4 vme vcl vhp vl vx) := by
  refine awp_seq (awp_region (aNext (ka := .str) (va := true) (me := vme) (cl := vcl) (cur := none) 3 4 (encM D.str api_Note.enc) vl rfl (fun h11 => ?_) (fun ve2 vl2 vb1 h12 => ?_)))
  · obtain ⟨x, hF0⟩ := hE h11
    have hF := hF0
    unfold z287 at hF
    refine aR 1 (aE ?_)
    refine awp_seq (tF rfl (awp_close (ka := .str) (va := true) (me := vme) (cl := vcl) 4 vhp ?_))
    refine awp_exit ?_
    exact outE h11 hF0 (oO hF [(3, 4)] [] rfl)
  · obtain ⟨x, hF0⟩ := hP _ _ h12
    have hF := hF0
    unfold z287 at hF
    refine aR 1 (aE ?_)
    refine awp_seq (tT rfl (awp_skip (awp_block (awp_seq (awp_region (aEntry (ka := .str) (va := true) (me := vme) (cl := vcl) (b := vb1) (rest := List.map (encM D.str api_Note.enc) vl2) 3 4 (encM D.str api_Note.enc) ve2 rfl ?_))))))
    refine aR 5 (aE ?_)
    refine awp_seq (awp_to (st' := z293 qx qx1 qx2 qm qx3 qx4 vm4 vme vcl vhp vx ve2 vl2 vb1) (oT [(3, 5005), (4, 3), (5, 4)] []) ?_)
    refine bE hF fun vx2_1 h16 hF => awp_sub (z295 qx qx1 qx2 qm qx3 qx4 vm4 vme vcl vhp vx ve2 vl2 vb1 h16) ?_
    refine cE hF (fun h17 hF => ?_) fun h17 hF => ?_
    · exact tT h17 (gR 2 (outP h12 hF0 (outCur (idM := 4) (me := vme) (cl := vcl) (rest := List.map (encM D.str api_Note.enc) vl2) (cur := some (vb1, (encM D.str api_Note.enc) ve2)) 3 <| oO hF [] [] rfl)))
    · exact tF h17 (awp_skip (outP h12 hF0 (outCur (idM := 4) (me := vme) (cl := vcl) (rest := List.map (encM D.str api_Note.enc) vl2) (cur := some (vb1, (encM D.str api_Note.enc) ve2)) 3 <| oO hF [] [] rfl)))

def z298 (qx : Int) (qx1 : Int) (qx2 : Int) (qm : List (List UInt8 × api_Note)) (qx3 : Int) (qx4 : api_Letter) (vm4 : List (List UInt8 × api_Note)) (vx3_1 : List UInt8) : Int → St
  | vx4 => Mem.st ⟨[], [(0, [.i qx, .i qx1, .i qx2, .i qx, .mapp 1, .i qx3]), (1, [.mapc .str true (List.map (encM D.str api_Note.enc) qm)]), (2, [.s qx4.Id, .s qx4.Slot, .s qx4.Body, .i qx4.Prio, .i qx4.At, .i qx4.Until]), (3, [.mapc .str true (List.map (encM D.str api_Note.enc) vm4)])]⟩ (tl [(0, .c (.box 0 0)), (3, .c (.box 2 0)), (6, .c (.mapp 3)), (9, .c (.s vx3_1)), (12, .i vx4)]) 4

def z297 (qx : Int) (qx1 : Int) (qx2 : Int) (qm : List (List UInt8 × api_Note)) (qx3 : Int) (qx4 : api_Letter) (vm4 : List (List UInt8 × api_Note)) (vx3_1 : List UInt8) : St := Mem.st ⟨[], [(0, [.i qx, .i qx1, .i qx2, .i qx, .mapp 1, .i qx3]), (1, [.mapc .str true (List.map (encM D.str api_Note.enc) qm)]), (2, [.s qx4.Id, .s qx4.Slot, .s qx4.Body, .i qx4.Prio, .i qx4.At, .i qx4.Until]), (3, [.mapc .str true (List.map (encM D.str api_Note.enc) vm4)])]⟩ (tl [(0, .c (.box 0 0)), (3, .c (.box 2 0)), (6, .c (.mapp 3)), (9, .c (.s vx3_1)), (12, .i qx)]) 4

theorem z299 (qx : Int) (qx1 : Int) (qx2 : Int) (qm : List (List UInt8 × api_Note)) (qx3 : Int) (qx4 : api_Letter) (vm4 : List (List UInt8 × api_Note)) (vx3_1 : List UInt8) {r} (hF : z296 qx vx3_1 = some r) : Awp prog 2 103 (cL (cR (cR (cR (cR (cR (cR (cR (cB f61))))))))) (Out 2 nrm (z298 qx qx1 qx2 qm qx3 qx4 vm4 vx3_1) r) (z297 qx qx1 qx2 qm qx3 qx4 vm4 vx3_1) := by
  unfold z296 at hF
  refine sR 2 (cE hF (fun h19 hF => ?_) fun h19 hF => ?_)
  · exact tT h19 (gR 3 (oO hF [] [] rfl))
  · exact tF h19 (awp_skip (oO hF [] [] rfl))

def z302 (qx : Int) (qx1 : Int) (qx2 : Int) (qm : List (List UInt8 × api_Note)) (qx3 : Int) (qx4 : api_Letter) (vm4 : List (List UInt8 × api_Note)) (vx3_1 : List UInt8) : (List (List UInt8 × api_Note)) → St
  | vm => Mem.st ⟨[], [(0, [.i qx, .i qx1, .i qx2, .i qx, .mapp 1, .i qx3]), (1, [.mapc .str true (List.map (encM D.str api_Note.enc) qm)]), (2, [.s qx4.Id, .s qx4.Slot, .s qx4.Body, .i qx4.Prio, .i qx4.At, .i qx4.Until]), (3, [.mapc .str true (List.map (encM D.str api_Note.enc) vm)])]⟩ (tl [(0, .c (.box 0 0)), (3, .c (.box 2 0)), (6, .c (.mapp 3))]) 4

def z301 (qx : Int) (qx1 : Int) (qx2 : Int) (qm : List (List UInt8 × api_Note)) (qx3 : Int) (qx4 : api_Letter) (vm4 : List (List UInt8 × api_Note)) (vx3_1 : List UInt8) : St := Mem.st ⟨[], [(0, [.i qx, .i qx1, .i qx2, .i qx, .mapp 1, .i qx3]), (1, [.mapc .str true (List.map (encM D.str api_Note.enc) qm)]), (2, [.s qx4.Id, .s qx4.Slot, .s qx4.Body, .i qx4.Prio, .i qx4.At, .i qx4.Until]), (3, [.mapc .str true (List.map (encM D.str api_Note.enc) vm4)])]⟩ (tl [(0, .c (.box 0 0)), (3, .c (.box 2 0)), (6, .c (.mapp 3)), (9, .c (.s vx3_1))]) 4

theorem z303 (qx : Int) (qx1 : Int) (qx2 : Int) (qm : List (List UInt8 × api_Note)) (qx3 : Int) (qx4 : api_Letter) (vm4 : List (List UInt8 × api_Note)) (vx3_1 : List UInt8) {r} (hF : z300 qx4 vm4 vx3_1 = some r) : Awp prog 2 103 (cL (cR (cR (cR (cR (cR (cR (cR (cR (cR (cB f61))))))))))) (Out 2 nrm (z302 qx qx1 qx2 qm qx3 qx4 vm4 vx3_1) r) (z301 qx qx1 qx2 qm qx3 qx4 vm4 vx3_1) := by
  unfold z300 at hF
  refine sR 2 (cE hF (fun h23 hF => ?_) fun h23 hF => ?_)
  · refine tT h23 (awp_seq (bE hF fun ve3 h24 hF => awp_region (aR 2 (aX (x_get 3 true D.str api_Note.enc h24) (aR 2 (aE ?_))))))
    refine awp_seq (aD ?_)
    refine dR 6 ?_
    refine dE ?_
    refine awp_region (aR 3 (aPut 3 .str true (l := vm4) (key := vx3_1) (v := (api_Note.mk (api_Letter.mk ve3.Letter.Id ve3.Letter.Slot ve3.Letter.Body ve3.Letter.Prio ve3.Letter.At ve3.Letter.Until) 6 ve3.Tries qx4.At)) D.str api_Note.enc rfl ?_))
    refine aE ?_
    exact oO hF [] [] rfl
  · exact tF h23 (awp_skip (oO hF [] [] rfl))

def z285 (qx : Int) (qx1 : Int) (qx2 : Int) (qm : List (List UInt8 × api_Note)) (qx3 : Int) (qx4 : api_Letter) : Int ⊕ (List (List UInt8 × api_Note)) → TV × Mem
  | .inl vr4 => (.i vr4, ⟨[], [(0, [.i qx, .i qx1, .i qx2, .i qx, .mapp 1, .i qx3]), (1, [.mapc .str true (List.map (encM D.str api_Note.enc) qm)])]⟩)
  | .inr vm2 => (.i 0, ⟨[], [(0, [.i qx, .i qx1, .i qx2, .i qx, .mapp 2, .i qx4.At]), (1, [.mapc .str true (List.map (encM D.str api_Note.enc) qm)]), (2, [.mapc .str true (List.map (encM D.str api_Note.enc) vm2)])]⟩)

theorem z286 {qx : Int} {qx1 : Int} {qx2 : Int} {qm : List (List UInt8 × api_Note)} {qx3 : Int} {qx4 : api_Letter} {r} (hF : z284 qx qx1 qx2 qm qx3 qx4 = some r) : Holds prog 61 [.c (.box 0 0), .v (.agg [.s qx4.Id, .s qx4.Slot, .s qx4.Body, .i qx4.Prio, .i qx4.At, .i qx4.Until])] ⟨[], [(0, [.i qx, .i qx1, .i qx2, .i qx, .mapp 1, .i qx3]), (1, [.mapc .str true (List.map (encM D.str api_Note.enc) qm)])]⟩ (Is (z285 qx qx1 qx2 qm qx3 qx4 r)) := by
  unfold z284 at hF
  refine hW f61 103 2 2 ?_
  refine sR 2 (awp_seq (awp_seq (bE hF fun vr3 h1 hF => bE hF fun vr h2 hF => bE hF fun vr1 h3 hF => aD ?_)))
  refine dR 1 ?_
  refine dC (z160 h1) [] [] [] ?_
  refine dR 3 ?_
  refine dC (z357 h2) [] [] [] ?_
  refine dR 1 ?_
  refine dC (z18 h3) [] [] [8002] ?_
  refine dR 1 ?_
  refine dE ?_
  refine sR 2 (cE hF (fun h4 hF => ?_) fun h4 hF => ?_)
  · exact tT h4 (sR 2 (awp_ret (oF hF [] [])))
  · refine tF h4 (awp_skip (awp_seq (bE hF fun vm4 h5 hF => awp_region (aR 3 (aC (z309 h5) [] [] [] (aR 1 (aE ?_)))))))
    refine awp_seq (awp_seq (bE hF fun ve h6 hF => bE hF fun vis h7 hF => awp_region (aR 3 (aX (x_getO 16004 true D.str api_Note.enc h6 h7) (aR 6 (aE ?_))))))
    refine sR 1 (cE hF (fun h8 hF => ?_) fun h8 hF => ?_)
    · exact tT h8 (sR 1 (awp_ret (oF hF [] [])))
    · refine tF h8 (awp_skip (sR 1 (awp_seq (awp_seq (awp_region (aR 1 (aRange (ka := .str) (va := true) 16004 (encM D.str api_Note.enc) vm4 rfl (fun vme vcl vhp => ?_))))))))
      refine aE ?_
      refine awp_block (awp_to (st' := z288 qx qx1 qx2 qm qx3 qx4 vm4 vme vcl vhp vm4 ([] : List UInt8)) (oT [(3, 31002), (4, 16004)] []) ?_)
      refine rG (H := z288 qx qx1 qx2 qm qx3 qx4 vm4 vme vcl vhp) (k := z290) (S := z289 qx qx1 qx2 qm qx3 qx4 vm4 vme vcl vhp) hF (by intro x; exact fun h => nomatch h) (fun l s => z291 qx qx1 qx2 qm qx3 qx4 vm4 vme vcl vhp l s) (fun vx3_1 hF => ?_)
      refine sR 6 (awp_seq (awp_to (st' := z297 qx qx1 qx2 qm qx3 qx4 vm4 vx3_1) (oT [] []) ?_))
      refine bE hF fun vx4_1 h20 hF => awp_sub (z299 qx qx1 qx2 qm qx3 qx4 vm4 vx3_1 h20) ?_
      refine awp_seq (awp_seq (bE hF fun vr2 h21 hF => awp_region (aR 1 (aC (z392 h21) [(0, 3)] [] [] (aR 2 (aE ?_))))))
      refine cE hF (fun h22 hF => ?_) fun h22 hF => ?_
      · exact tT h22 (sR 1 (awp_ret (oF hF [] [])))
      · refine tF h22 (awp_skip (awp_seq (awp_to (st' := z301 qx qx1 qx2 qm qx3 qx4 vm4 vx3_1) (oT [] []) ?_)))
        refine bE hF fun vm1 h25 hF => awp_sub (z303 qx qx1 qx2 qm qx3 qx4 vm4 vx3_1 h25) ?_
        refine awp_seq (awp_region (aR 7 (aPut 3 .str true (l := vm1) (key := qx4.Id) (v := (api_Note.mk qx4 1 0 qx4.At)) D.str api_Note.enc rfl ?_)))
        refine aE ?_
        refine awp_seq (bE hF fun _ h26 hF => awp_region (aR 4 (aC (z351 h26) [(2, 3)] [] [] (aE ?_))))
        exact sR 1 (awp_ret (oF hF [(2, 3)] []))

/-! ### (*beaconfleet/command.Office).timeFault -/
def z359 (qo : Int) (qo1 : Int) (qo2 : Int) (qm : List (List UInt8 × api_Note)) (qo3 : Int) (r : Int) : TV × Mem := (.i r, ⟨[], [(0, [.i qo, .i qo1, .i qo2, .i qo, .mapp 1, .i qo3]), (1, [.mapc .str true (List.map (encM D.str api_Note.enc) qm)])]⟩)

theorem z360 {qo : Int} {qo1 : Int} {qo2 : Int} {qm : List (List UInt8 × api_Note)} {qo3 : Int} {r} (hF : z358 qo qo1 qo2 qm qo3 = some r) : Holds prog 91 [.c (.box 0 0), .i qo3] ⟨[], [(0, [.i qo, .i qo1, .i qo2, .i qo, .mapp 1, .i qo3]), (1, [.mapc .str true (List.map (encM D.str api_Note.enc) qm)])]⟩ (Is (z359 qo qo1 qo2 qm qo3 r)) := by
  unfold z358 at hF
  refine hW f91 16 2 2 ?_
  refine sR 1 (awp_seq (awp_block (awp_seq (bE hF fun vr1 h1 hF => awp_region (aR 1 (aC (z43 h1) [] [] [] (aR 2 (aE ?_))))))))
  refine cE hF (fun h2 hF => ?_) fun h2 hF => ?_
  · exact tT h2 (sR 1 (awp_ret (oF hF [] [])))
  · refine tF h2 (sR 7 (cE hF (fun h3 hF => ?_) fun h3 hF => ?_))
    · exact tT h3 (sR 1 (awp_ret (oF hF [] [])))
    · exact tF h3 (awp_skip (sR 1 (awp_ret (oF hF [] []))))

/-! ### (*beaconfleet/command.Office).grown -/
def z347 : api_Note → AEx
  | _ => .exit 0

def z346 (qo : Int) (qo1 : Int) (qo2 : Int) (qo3 : Int) (qme0 : List (Nat × List D × List D)) (qcl0 : Nat) : api_Note → St
  | vn1 => Mem.st ⟨[], [(0, [.i qo, .i qo1, .i qo2, .i qo, .mapp 1, .i qo3]), (1, [.mapg .str true qme0 qcl0]), (2, [.s vn1.Letter.Id, .s vn1.Letter.Slot, .s vn1.Letter.Body, .i vn1.Letter.Prio, .i vn1.Letter.At, .i vn1.Letter.Until, .i vn1.State, .i vn1.Tries, .i vn1.Since]), (3, [.s ([] : List UInt8), .s ([] : List UInt8), .s ([] : List UInt8), .i 0, .i 0, .i 0, .i 0, .i 0, .i 0])]⟩ (tl [(4, .c (.box 2 0)), (6, .c (.box 3 0))]) 4

def z345 (qo : Int) (qo1 : Int) (qo2 : Int) (qo3 : Int) (qme0 : List (Nat × List D × List D)) (qcl0 : Nat) : api_Note → St
  | vn => Mem.st ⟨[], [(0, [.i qo, .i qo1, .i qo2, .i qo, .mapp 1, .i qo3]), (1, [.mapg .str true qme0 qcl0]), (2, [.s vn.Letter.Id, .s vn.Letter.Slot, .s vn.Letter.Body, .i vn.Letter.Prio, .i vn.Letter.At, .i vn.Letter.Until, .i vn.State, .i vn.Tries, .i vn.Since]), (3, [.s ([] : List UInt8), .s ([] : List UInt8), .s ([] : List UInt8), .i 0, .i 0, .i 0, .i 0, .i 0, .i 0])]⟩ (tl [(0, .c (.box 0 0)), (2, .i qo3), (4, .c (.box 2 0)), (6, .c (.box 3 0))]) 4

theorem z348 (qo : Int) (qo1 : Int) (qo2 : Int) (qo3 : Int) (qme0 : List (Nat × List D × List D)) (qcl0 : Nat) (vn : api_Note) (r : (api_Note) ⊕ (api_Note)) (hF : z344 qo qo1 qo2 qo3 vn = some r) : Awp prog 2 39 (cL (cL (cL (cR (cB f182))))) (Out 2 (kk z347) (SS (z345 qo qo1 qo2 qo3 qme0 qcl0) (z346 qo qo1 qo2 qo3 qme0 qcl0)) r) (z345 qo qo1 qo2 qo3 qme0 qcl0 vn) := by
  unfold z344 at hF
  refine awp_seq (awp_seq (bE hF fun _ h1 hF => awp_region (aR 2 (aC (z389 h1) [] [] [] (aR 1 (aE ?_))))))
  refine cE hF (fun h2 hF => ?_) fun h2 hF => ?_
  · refine tT h2 (awp_skip (awp_block (awp_seq (bE hF fun vr1 h3 hF => awp_region (aR 2 (aC (z363 (qme0 := qme0) (qcl0 := qcl0) h3) [] [] [] (aR 1 (aE ?_))))))))
    refine awp_seq (sR 3 (cE hF (fun h4 hF => ?_) fun h4 hF => ?_))
    · refine tT h4 (awp_exit ?_)
      exact oO hF [] [] rfl
    · refine tF h4 (awp_skip (sR 3 (awp_block (sR 6 (cE hF (fun h5 hF => ?_) fun h5 hF => ?_)))))
      · exact tT h5 (gR 2 (oO hF [] [] rfl))
      · refine tF h5 (awp_seq (aD ?_))
        refine dR 9 ?_
        refine dE ?_
        refine cE hF (fun h6 hF => ?_) fun h6 hF => ?_
        · exact tT h6 (gR 2 (oO hF [] [] rfl))
        · exact tF h6 (gR 2 (oO hF [] [] rfl))
  · refine tF h2 (awp_exit ?_)
    exact oO hF [] [] rfl

def z342 (qo : Int) (qo1 : Int) (qo2 : Int) (qo3 : Int) (qn : api_Note) (qme0 : List (Nat × List D × List D)) (qcl0 : Nat) (r : api_Note) : TV × Mem := (.v (.agg [.s r.Letter.Id, .s r.Letter.Slot, .s r.Letter.Body, .i r.Letter.Prio, .i r.Letter.At, .i r.Letter.Until, .i r.State, .i r.Tries, .i r.Since]), ⟨[], [(0, [.i qo, .i qo1, .i qo2, .i qo, .mapp 1, .i qo3]), (1, [.mapg .str true qme0 qcl0])]⟩)

theorem z343 {qo : Int} {qo1 : Int} {qo2 : Int} {qo3 : Int} {qn : api_Note} {qme0 : List (Nat × List D × List D)} {qcl0 : Nat} {r} (hF : z341 qo qo1 qo2 qo3 qn = some r) : Holds prog 182 [.c (.box 0 0), .v (.agg [.s qn.Letter.Id, .s qn.Letter.Slot, .s qn.Letter.Body, .i qn.Letter.Prio, .i qn.Letter.At, .i qn.Letter.Until, .i qn.State, .i qn.Tries, .i qn.Since]), .i qo3] ⟨[], [(0, [.i qo, .i qo1, .i qo2, .i qo, .mapp 1, .i qo3]), (1, [.mapg .str true qme0 qcl0])]⟩ (Is (z342 qo qo1 qo2 qo3 qn qme0 qcl0 r)) := by
  unfold z341 at hF
  refine hW f182 39 2 2 ?_
  refine sR 2 (awp_seq (awp_block (awp_to (st' := z345 qo qo1 qo2 qo3 qme0 qcl0 (api_Note.mk (api_Letter.mk qn.Letter.Id qn.Letter.Slot qn.Letter.Body qn.Letter.Prio qn.Letter.At qn.Letter.Until) qn.State qn.Tries qn.Since)) (oT [(3, 1002)] []) ?_)))
  refine bE hF fun vn1_1 h7 hF => awp_sub (awp_loop' (z345 qo qo1 qo2 qo3 qme0 qcl0) z347 (z346 qo qo1 qo2 qo3 qme0 qcl0) (by intro x; exact fun h => nomatch h) h7 (z348 qo qo1 qo2 qo3 qme0 qcl0)) ?_
  exact sR 2 (awp_ret (oF hF [] []))

/-! ### (*beaconfleet/command.Office).aged -/
def z326 : ((List (List UInt8 × api_Note)) × (List api_Note)) → AEx
  | _ => .exit 0

def z325 (qo : Int) (qo1 : Int) (qo2 : Int) (qm : List (List UInt8 × api_Note)) (qo3 : Int) (vme : List (Nat × List D × List D)) (vcl : Nat) (vhp : (List.map (encM D.str api_Note.enc) qm).Perm (List.map (·.2) vme)) : ((List (List UInt8 × api_Note)) × (List api_Note)) → St
  | (vm1, vover1) => Mem.st ⟨[(3, ⟨65, 9, List.map api_Note.enc vover1⟩)], [(0, [.i qo, .i qo1, .i qo2, .i qo, .mapp 1, .i qo3]), (1, [.mapc .str true (List.map (encM D.str api_Note.enc) qm)]), (2, [.mapc .str true (List.map (encM D.str api_Note.enc) vm1)])]⟩ (tl [(0, .c (.box 0 0)), (5, .c (.mapp 2)), (6, .c (.own 3 none))]) 4

def z324 (qo : Int) (qo1 : Int) (qo2 : Int) (qm : List (List UInt8 × api_Note)) (qo3 : Int) (vme : List (Nat × List D × List D)) (vcl : Nat) (vhp : (List.map (encM D.str api_Note.enc) qm).Perm (List.map (·.2) vme)) (vl : List (List UInt8 × api_Note)) : (List (List UInt8 × api_Note)) × (List api_Note) → St
  | (vm, vover) => Mem.st ⟨[(4, ⟨65, 9, List.map api_Note.enc vover⟩)], [(0, [.i qo, .i qo1, .i qo2, .i qo, .mapp 1, .i qo3]), (1, [.mapg .str true vme vcl]), (2, [.iterc 1 vme vcl (List.map (encM D.str api_Note.enc) vl) none]), (3, [.mapc .str true (List.map (encM D.str api_Note.enc) vm)])]⟩ (tl [(0, .c (.box 0 0)), (1, .i qo3), (5, .c (.mapp 3)), (6, .c (.own 4 none)), (16, .c (.box 2 0))]) 5

theorem z327 (qo : Int) (qo1 : Int) (qo2 : Int) (qm : List (List UInt8 × api_Note)) (qo3 : Int) (vme : List (Nat × List D × List D)) (vcl : Nat) (vhp : (List.map (encM D.str api_Note.enc) qm).Perm (List.map (·.2) vme)) (vl : List (List UInt8 × api_Note)) (s : (List (List UInt8 × api_Note)) × (List api_Note)) (hE : vl = [] → ∃ x, z323 qo qo1 qo2 qo3 none s = some x) (hP : ∀ e l', List.Perm vl (e :: l') → ∃ x, z323 qo qo1 qo2 qo3 (some e) s = some x) : Awp prog 2 60 (cL (cL (cR (cL (cR (cR (cR (cB f93)))))))) (OutR 2 z326 (z323 qo qo1 qo2 qo3) (z324 qo qo1 qo2 qm qo3 vme vcl vhp) (z325 qo qo1 qo2 qm qo3 vme vcl vhp) vl s) (z324 qo qo1 qo2 qm qo3 vme vcl vhp vl s) := by
  obtain ⟨vm, vover⟩ := s
  refine awp_seq (awp_region (aNext (ka := .str) (va := true) (me := vme) (cl := vcl) (cur := none) 2 1 (encM D.str api_Note.enc) vl rfl (fun h3 => ?_) (fun ve1 vl2 vb1 h4 => ?_)))
  · obtain ⟨x, hF0⟩ := hE h3
    have hF := hF0
    unfold z323 at hF
    refine aR 1 (aE ?_)
    refine awp_seq (tF rfl (awp_close (ka := .str) (va := true) (me := vme) (cl := vcl) 1 vhp ?_))
    refine awp_exit ?_
    exact outE h3 hF0 (oO hF [(2, 3), (3, 4)] [] rfl)
  · obtain ⟨x, hF0⟩ := hP _ _ h4
    have hF := hF0
    unfold z323 at hF
    refine aR 1 (aE ?_)
    refine awp_seq (tT rfl (awp_skip (awp_block (awp_seq (awp_region (aEntry (ka := .str) (va := true) (me := vme) (cl := vcl) (b := vb1) (rest := List.map (encM D.str api_Note.enc) vl2) 2 1 (encM D.str api_Note.enc) ve1 rfl ?_))))))
    refine aR 5 (aE ?_)
    refine awp_seq (bE hF fun vr2_1 h5 hF => awp_region (aR 3 (aC (z343 (qme0 := vme) (qcl0 := vcl) h5) [] [] [] (aR 1 (aE ?_)))))
    refine awp_seq (awp_region (aR 3 (aPut 3 .str true (l := vm) (key := ve1.1) (v := (api_Note.mk (api_Letter.mk vr2_1.Letter.Id vr2_1.Letter.Slot vr2_1.Letter.Body vr2_1.Letter.Prio vr2_1.Letter.At vr2_1.Letter.Until) vr2_1.State vr2_1.Tries vr2_1.Since)) D.str api_Note.enc rfl ?_)))
    refine aE ?_
    refine awp_seq (bE hF fun _ h6 hF => awp_region (aR 2 (aC (z389 h6) [] [] [] (aE ?_))))
    refine cE hF (fun h7 hF => ?_) fun h7 hF => ?_
    · refine tT h7 (gE hF fun h8 hF => ?_)
      refine awp_region (aR 3 (aX (x_app api_Note.enc 4 h8) (aR 1 (aE ?_))))
      exact outP h4 hF0 (outCur (idM := 1) (me := vme) (cl := vcl) (rest := List.map (encM D.str api_Note.enc) vl2) (cur := some (vb1, (encM D.str api_Note.enc) ve1)) 2 <| oO hF [(4, 23005)] [] rfl)
    · exact tF h7 (awp_skip (outP h4 hF0 (outCur (idM := 1) (me := vme) (cl := vcl) (rest := List.map (encM D.str api_Note.enc) vl2) (cur := some (vb1, (encM D.str api_Note.enc) ve1)) 2 <| oO hF [] [] rfl)))

def z331 : (List (List UInt8 × api_Note)) → AEx
  | _ => .exit 2

def z330 (qo : Int) (qo1 : Int) (qo2 : Int) (qm : List (List UInt8 × api_Note)) (qo3 : Int) (vl3 : List api_Note) : (List (List UInt8 × api_Note)) → St
  | vm3 => Mem.st ⟨[], [(0, [.i qo, .i qo1, .i qo2, .i qo, .mapp 1, .i qo3]), (1, [.mapc .str true (List.map (encM D.str api_Note.enc) qm)]), (2, [.mapc .str true (List.map (encM D.str api_Note.enc) vm3)])]⟩ (tl [(5, .c (.mapp 2))]) 3

def z329 (qo : Int) (qo1 : Int) (qo2 : Int) (qm : List (List UInt8 × api_Note)) (qo3 : Int) (vl3 : List api_Note) : (List (List UInt8 × api_Note)) × Int → St
  | (vm2, vx) => Mem.st ⟨[], [(0, [.i qo, .i qo1, .i qo2, .i qo, .mapp 1, .i qo3]), (1, [.mapc .str true (List.map (encM D.str api_Note.enc) qm)]), (2, [.mapc .str true (List.map (encM D.str api_Note.enc) vm2)])]⟩ (tl [(5, .c (.mapp 2)), (48, .c (.l api_Note.enc (vl3.take (imax 0 (IntKind.wrap .i64 ((vl3.length : Int) - qo))).toNat))), (49, .i ((vl3.take (imax 0 (IntKind.wrap .i64 ((vl3.length : Int) - qo))).toNat).length : Int)), (50, .i vx)]) 3

theorem z332 (qo : Int) (qo1 : Int) (qo2 : Int) (qm : List (List UInt8 × api_Note)) (qo3 : Int) (vl3 : List api_Note) (s : (List (List UInt8 × api_Note)) × Int) (r : ((List (List UInt8 × api_Note)) × Int) ⊕ ((List (List UInt8 × api_Note)))) (hF : z328 qo vl3 s = some r) : Awp prog 2 60 (cL (cL (cR (cL (cR (cR (cR (cR (cR (cB f93)))))))))) (Out 2 (kk z331) (SS (z329 qo qo1 qo2 qm qo3 vl3) (z330 qo qo1 qo2 qm qo3 vl3)) r) (z329 qo qo1 qo2 qm qo3 vl3 s) := by
  obtain ⟨vm2, vx⟩ := s
  unfold z328 at hF
  refine sR 1 (awp_seq (cE hF (fun h13 hF => ?_) fun h13 hF => ?_))
  · refine tT h13 (awp_skip (awp_seq (awp_block (awp_seq (bE hF fun vy1 h14 hF => awp_region (aX (x_idx api_Note.enc h14) (aR 3 (aE ?_))))))))
    refine awp_region (aR 4 (aDel 2 .str true (l := vm2) (key := vy1.Letter.Id) D.str api_Note.enc rfl ?_))
    refine aE ?_
    exact gR 2 (oO hF [] [] rfl)
  · refine tF h13 (awp_exit ?_)
    exact oO hF [] [] rfl

def z321 (qo : Int) (qo1 : Int) (qo2 : Int) (qm : List (List UInt8 × api_Note)) (qo3 : Int) (r : (List (List UInt8 × api_Note))) : TV × Mem := (.c (.mapp 2), ⟨[], [(0, [.i qo, .i qo1, .i qo2, .i qo, .mapp 1, .i qo3]), (1, [.mapc .str true (List.map (encM D.str api_Note.enc) qm)]), (2, [.mapc .str true (List.map (encM D.str api_Note.enc) r)])]⟩)

theorem z322 {qo : Int} {qo1 : Int} {qo2 : Int} {qm : List (List UInt8 × api_Note)} {qo3 : Int} {r} (hF : z320 qo qo1 qo2 qm qo3 = some r) : Holds prog 93 [.c (.box 0 0), .i qo3] ⟨[], [(0, [.i qo, .i qo1, .i qo2, .i qo, .mapp 1, .i qo3]), (1, [.mapc .str true (List.map (encM D.str api_Note.enc) qm)])]⟩ (Is (z321 qo qo1 qo2 qm qo3 r)) := by
  unfold z320 at hF
  refine hW f93 60 2 2 ?_
  refine sR 1 (awp_seq (awp_region (aX (x_map .str true (κ := List UInt8) (β := api_Note) D.str api_Note.enc) (aR 1 (aE ?_)))))
  refine sR 1 (awp_seq (awp_seq (awp_region (aR 4 (aRange (ka := .str) (va := true) 1 (encM D.str api_Note.enc) qm rfl (fun vme vcl vhp => ?_))))))
  refine aE ?_
  refine awp_block (awp_to (st' := z324 qo qo1 qo2 qm qo3 vme vcl vhp qm (([] : List (List UInt8 × api_Note)), [])) (oT [(2, 8002), (3, 1002)] [4]) ?_)
  refine rG (H := z324 qo qo1 qo2 qm qo3 vme vcl vhp) (k := z326) (S := z325 qo qo1 qo2 qm qo3 vme vcl vhp) hF (by intro x; exact fun h => nomatch h) (fun l s => z327 qo qo1 qo2 qm qo3 vme vcl vhp l s) (fun x hF => ?_)
  obtain ⟨vm1_1, vover1_1⟩ := x
  refine awp_seq (bE hF fun vl3 h10 hF => gE hF fun h11 hF => ?_)
  refine awp_region (aR 1 (aCp (z805 h10) ⟨⟨rfl, rfl, pin1 h11⟩, trivial⟩ [(0, 3)] [] [] ?_))
  refine aE ?_
  refine awp_seq (awp_seq (gE hF fun h12 hF => ?_))
  refine awp_region (aR 2 (aL api_Note.enc vl3 (aR 7 (aT api_Note.enc 3 h12 rfl ?_))))
  refine aL api_Note.enc (vl3.take (imax 0 (IntKind.wrap .i64 ((vl3.length : Int) - qo))).toNat) (aR 1 (aE ?_))
  refine awp_to (oT (m := ⟨[], [(0, [.i qo, .i qo1, .i qo2, .i qo, .mapp 1, .i qo3]), (1, [.mapc .str true (List.map (encM D.str api_Note.enc) qm)]), (2, [.mapc .str true (List.map (encM D.str api_Note.enc) vm1_1)])]⟩) (ts := [(5, .c (.mapp 2)), (48, .c (.l api_Note.enc (vl3.take (imax 0 (IntKind.wrap .i64 ((vl3.length : Int) - qo))).toNat))), (49, .i ((vl3.take (imax 0 (IntKind.wrap .i64 ((vl3.length : Int) - qo))).toNat).length : Int)), (50, .i 0)]) (nx := 3) [] []) ?_
  refine awp_block (awp_to (st' := z329 qo qo1 qo2 qm qo3 vl3 (vm1_1, 0)) (oT [] []) ?_)
  refine bE hF fun vm3_1 h15 hF => awp_sub (awp_loop' (z329 qo qo1 qo2 qm qo3 vl3) z331 (z330 qo qo1 qo2 qm qo3 vl3) (by intro x; exact fun h => nomatch h) h15 (z332 qo qo1 qo2 qm qo3 vl3)) ?_
  exact sR 2 (awp_ret (oF hF [] []))

/-! ### (*beaconfleet/command.Office).keep -/
def z353 (qo : Int) (qo1 : Int) (qo2 : Int) (qm : List (List UInt8 × api_Note)) (qo3 : Int) (qm1 : List (List UInt8 × api_Note)) (r : Unit) : TV × Mem := (.tup [], ⟨[], [(0, [.i qo, .i qo1, .i qo2, .i qo, .mapp 2, .i qo3]), (1, [.mapc .str true (List.map (encM D.str api_Note.enc) qm)]), (2, [.mapc .str true (List.map (encM D.str api_Note.enc) qm1)])]⟩)

theorem z354 {qo : Int} {qo1 : Int} {qo2 : Int} {qm : List (List UInt8 × api_Note)} {qo3 : Int} {qm1 : List (List UInt8 × api_Note)} {r} (hF : z352 qo qo1 qo2 qm qo3 qm1 = some r) : Holds prog 92 [.c (.box 0 0), .c (.mapp 2), .i qo3] ⟨[], [(0, [.i qo, .i qo1, .i qo2, .i qo, .mapp 1, .i qo3]), (1, [.mapc .str true (List.map (encM D.str api_Note.enc) qm)]), (2, [.mapc .str true (List.map (encM D.str api_Note.enc) qm1)])]⟩ (Is (z353 qo qo1 qo2 qm qo3 qm1 r)) := by
  unfold z352 at hF
  refine hW f92 14 3 3 ?_
  exact gR 10 (oF hF [] [])

/-! ### (*beaconfleet/command.Office).Notes$1 -/
def z267 (qa : api_Note) (qb : api_Note) (r : Unit) : TV × Mem := (.i (Lib.compareBytes qa.Letter.Id qb.Letter.Id), ⟨[], []⟩)

theorem z268 {qa : api_Note} {qb : api_Note} {r} (hF : z266 qa qb = some r) : Holds prog 95 [.v (.agg [.s qa.Letter.Id, .s qa.Letter.Slot, .s qa.Letter.Body, .i qa.Letter.Prio, .i qa.Letter.At, .i qa.Letter.Until, .i qa.State, .i qa.Tries, .i qa.Since]), .v (.agg [.s qb.Letter.Id, .s qb.Letter.Slot, .s qb.Letter.Body, .i qb.Letter.Prio, .i qb.Letter.At, .i qb.Letter.Until, .i qb.State, .i qb.Tries, .i qb.Since])] ⟨[], []⟩ (Is (z267 qa qb r)) := by
  unfold z266 at hF
  refine hW f95 12 0 0 ?_
  refine sR 3 (awp_seq (bE hF fun _ h1 hF => awp_region (aR 6 (aC (z1104 h1) [] [] [] (aR 1 (aE ?_))))))
  exact awp_ret (oF hF [] [])

/-! ### slices.insertionSortCmpFunc[beaconfleet/api.Note] -/
def z861 (qa : Int) (qb : Int) (vi : Int) (vl3 : List api_Note) (vj1 : Int) : Bool → St
  | vx4 => Mem.st ⟨[(0, ⟨65, 9, List.map api_Note.enc vl3⟩)], []⟩ (tl [(0, .c (.own 0 none)), (1, .i qa), (2, .i qb), (3, .c (.fn 95 [])), (8, .i vi), (9, .i vj1), (34, .b vx4)]) 1

def z860 (qa : Int) (qb : Int) (vi : Int) (vl3 : List api_Note) (vj1 : Int) : St := Mem.st ⟨[(0, ⟨65, 9, List.map api_Note.enc vl3⟩)], []⟩ (tl [(0, .c (.own 0 none)), (1, .i qa), (2, .i qb), (3, .c (.fn 95 [])), (8, .i vi), (9, .i vj1)]) 1

theorem z862 (qa : Int) (qb : Int) (vi : Int) (vl3 : List api_Note) (vj1 : Int) {r} (hF : z859 qa vl3 vj1 = some r) : Awp prog 1 53 (cL (cL (cL (cL (cR (cL (cL (cR (cL (cL (cR (cB f247)))))))))))) (Out 1 nrm (z861 qa qb vi vl3 vj1) r) (z860 qa qb vi vl3 vj1) := by
  unfold z859 at hF
  refine cE hF (fun h2 hF => ?_) fun h2 hF => ?_
  · refine bE hF fun vy15 h3 hF => bE hF fun vy16 h4 hF => bE hF fun _ h5 hF => aD ?_
    refine dR 2 ?_
    refine dB h2 ?_
    refine dR 4 ?_
    refine dX (x_idxO api_Note.enc 0 h3) ?_
    refine dX (x_ldE api_Note.enc h3) ?_
    refine dR 3 ?_
    refine dX (x_idxO api_Note.enc 0 h4) ?_
    refine dX (x_ldE api_Note.enc h4) ?_
    refine dC (z268 h5) [] [] [] ?_
    refine dR 2 ?_
    refine dE ?_
    exact oO hF [] [] rfl
  · refine aD ?_
    refine dR 2 ?_
    refine dB h2 ?_
    refine dR 14 ?_
    refine dE ?_
    exact oO hF [] [] rfl

def z857 : (List api_Note) → AEx
  | _ => .exit 2

def z856 (qa : Int) (qb : Int) (vi : Int) : (List api_Note) → St
  | vl4 => Mem.st ⟨[(0, ⟨65, 9, List.map api_Note.enc vl4⟩)], []⟩ (tl [(0, .c (.own 0 none)), (1, .i qa), (2, .i qb), (3, .c (.fn 95 [])), (8, .i vi)]) 1

def z855 (qa : Int) (qb : Int) (vi : Int) : (List api_Note) × Int → St
  | (vl3, vj1) => Mem.st ⟨[(0, ⟨65, 9, List.map api_Note.enc vl3⟩)], []⟩ (tl [(0, .c (.own 0 none)), (1, .i qa), (2, .i qb), (3, .c (.fn 95 [])), (8, .i vi), (9, .i vj1)]) 1

theorem z858 (qa : Int) (qb : Int) (vi : Int) (s : (List api_Note) × Int) (r : ((List api_Note) × Int) ⊕ ((List api_Note))) (hF : z854 qa s = some r) : Awp prog 1 53 (cL (cL (cR (cL (cL (cR (cL (cL (cR (cB f247)))))))))) (Out 1 (kk z857) (SS (z855 qa qb vi) (z856 qa qb vi)) r) (z855 qa qb vi s) := by
  obtain ⟨vl3, vj1⟩ := s
  unfold z854 at hF
  refine awp_seq (awp_seq (awp_to (st' := z860 qa qb vi vl3 vj1) (oT [] []) ?_))
  refine bE hF fun vx4_1 h6 hF => awp_sub (z862 qa qb vi vl3 vj1 h6) ?_
  refine cE hF (fun h7 hF => ?_) fun h7 hF => ?_
  · refine tT h7 (awp_skip (awp_seq (awp_block (bE hF fun vy17 h8 hF => bE hF fun vy18 h9 hF => bE hF fun vy19 h10 hF => aDw [0] ?_))))
    refine dR 8 ?_
    refine dI api_Note.enc 0 h8 rfl ?_
    refine dX (x_ldE api_Note.enc h8) ?_
    refine dR 2 ?_
    refine dI api_Note.enc 0 h9 rfl ?_
    refine dX (x_ldE api_Note.enc h9) ?_
    refine dI api_Note.enc 0 h9 rfl ?_
    refine dW api_Note.enc (api_Note.mk (api_Letter.mk vy17.Letter.Id vy17.Letter.Slot vy17.Letter.Body vy17.Letter.Prio vy17.Letter.At vy17.Letter.Until) vy17.State vy17.Tries vy17.Since) h9 rfl ?_
    refine dI api_Note.enc 0 h10 rfl ?_
    refine dW api_Note.enc (api_Note.mk (api_Letter.mk vy18.Letter.Id vy18.Letter.Slot vy18.Letter.Body vy18.Letter.Prio vy18.Letter.At vy18.Letter.Until) vy18.State vy18.Tries vy18.Since) h10 rfl ?_
    refine dE ?_
    exact gR 3 (oO hF [] [] rfl)
  · refine tF h7 (awp_exit ?_)
    exact oO hF [] [] rfl

def z852 : (List api_Note) → AEx
  | _ => .exit 0

def z851 (qa : Int) (qb : Int) : (List api_Note) → St
  | vl5 => Mem.st ⟨[(0, ⟨65, 9, List.map api_Note.enc vl5⟩)], []⟩ (tl []) 1

def z850 (qa : Int) (qb : Int) : (List api_Note) × Int → St
  | (vl, vi) => Mem.st ⟨[(0, ⟨65, 9, List.map api_Note.enc vl⟩)], []⟩ (tl [(0, .c (.own 0 none)), (1, .i qa), (2, .i qb), (3, .c (.fn 95 [])), (8, .i vi)]) 1

theorem z853 (qa : Int) (qb : Int) (s : (List api_Note) × Int) (r : ((List api_Note) × Int) ⊕ ((List api_Note))) (hF : z849 qa qb s = some r) : Awp prog 1 53 (cL (cL (cR (cB f247)))) (Out 1 (kk z852) (SS (z850 qa qb) (z851 qa qb)) r) (z850 qa qb s) := by
  obtain ⟨vl, vi⟩ := s
  unfold z849 at hF
  refine awp_seq (sR 3 (cE hF (fun h1 hF => ?_) fun h1 hF => ?_))
  · refine tT h1 (awp_skip (awp_seq (awp_block (sR 2 (awp_block (awp_to (st' := z855 qa qb vi (vl, vi)) (oT [] []) ?_))))))
    refine bE hF fun vl4_1 h11 hF => awp_sub (awp_loop' (z855 qa qb vi) z857 (z856 qa qb vi) (by intro x; exact fun h => nomatch h) h11 (z858 qa qb vi)) ?_
    exact gR 3 (oO hF [] [] rfl)
  · refine tF h1 (awp_exit ?_)
    exact oO hF [] [] rfl

def z847 (qdata : List api_Note) (qa : Int) (qb : Int) (r : (List api_Note)) : TV × Mem := (.tup [], ⟨[(0, ⟨65, 9, List.map api_Note.enc r⟩)], []⟩)

theorem z848 {qdata : List api_Note} {qa : Int} {qb : Int} {r} (hF : z846 qdata qa qb = some r) : Holds prog 247 [.c (.own 0 none), .i qa, .i qb, .c (.fn 95 [])] ⟨[(0, ⟨65, 9, List.map api_Note.enc qdata⟩)], []⟩ (Is (z847 qdata qa qb r)) := by
  unfold z846 at hF
  refine hW f247 53 1 1 ?_
  refine sR 3 (awp_block (awp_to (st' := z850 qa qb (qdata, IntKind.wrap .i64 (qa + 1))) (oT [] []) ?_))
  refine bE hF fun vl5_1 h12 hF => awp_sub (awp_loop' (z850 qa qb) z852 (z851 qa qb) (by intro x; exact fun h => nomatch h) h12 (z853 qa qb)) ?_
  exact oF hF [] []

/-! ### slices.pdqsortCmpFunc[beaconfleet/api.Note] -/
def z911 : (List api_Note) → AEx
  | _ => .ret

def z910 (qx : List api_Note) (qx1 : Int) (qx2 : Int) (qx3 : Int) : (List api_Note) → St
  | vl => Mem.st ⟨[(0, ⟨65, 9, List.map api_Note.enc vl⟩)], []⟩ (tl []) 1

def z909 (qx : List api_Note) (qx1 : Int) (qx2 : Int) (qx3 : Int) : Unit → St
  | _ => Mem.st ⟨[(0, ⟨65, 9, List.map api_Note.enc qx⟩)], []⟩ (tl [(0, .c (.own 0 none)), (1, .i qx1), (2, .i qx2), (3, .i qx3), (4, .c (.fn 95 [])), (10, .b true), (11, .b true)]) 1

theorem z912 (qx : List api_Note) (qx1 : Int) (qx2 : Int) (qx3 : Int) (s : Unit) (r : (Unit) ⊕ ((List api_Note))) (hF : z908 qx qx1 qx2 qx3 s = some r) : Awp prog 1 148 (cL (cL (cR (cR (cB f186))))) (Out 1 (kk z911) (SS (z909 qx qx1 qx2 qx3) (z910 qx qx1 qx2 qx3)) r) (z909 qx qx1 qx2 qx3 s) := by
  unfold z908 at hF
  refine awp_block (sR 4 (awp_seq (sR 2 (cE hF (fun h1 hF => ?_) fun h1 hF => ?_))))
  · refine tT h1 (awp_seq (bE hF fun vl6_1 h2 hF => gE hF fun h3 hF => ?_))
    refine awp_region (aR 4 (aCp (z848 h2) ⟨⟨rfl, rfl, pin1 h3⟩, trivial⟩ [] [] [] ?_))
    refine aE ?_
    exact awp_ret (oO hF [] [] rfl)
  · refine tF h1 (awp_skip (awp_seq (sR 2 (cE hF (fun h4 hF => ?_) fun h4 hF => ?_))))
    · exact tT h4 (awp_seq (nE hF))
    · exact tF h4 (awp_skip (awp_seq (sR 2 (tF rfl (awp_skip (awp_seq (nE hF)))))))

def z906 (qx : List api_Note) (qx1 : Int) (qx2 : Int) (qx3 : Int) (r : (List api_Note)) : TV × Mem := (.tup [], ⟨[(0, ⟨65, 9, List.map api_Note.enc r⟩)], []⟩)

theorem z907 {qx : List api_Note} {qx1 : Int} {qx2 : Int} {qx3 : Int} {r} (hF : z905 qx qx1 qx2 qx3 = some r) : Holds prog 186 [.c (.own 0 none), .i qx1, .i qx2, .i qx3, .c (.fn 95 [])] ⟨[(0, ⟨65, 9, List.map api_Note.enc qx⟩)], []⟩ (Is (z906 qx qx1 qx2 qx3 r)) := by
  unfold z905 at hF
  refine hW f186 148 1 1 ?_
  refine sR 1 (sR 1 (awp_block (awp_to (st' := z909 qx qx1 qx2 qx3 ()) (oT [] []) ?_)))
  refine bE hF fun vl1 h7 hF => awp_sub (awp_loop' (z909 qx qx1 qx2 qx3) z911 (z910 qx qx1 qx2 qx3) (by intro x; exact fun h => nomatch h) h7 (z912 qx qx1 qx2 qx3)) ?_
  exact oF hF [] []

/-! ### slices.SortFunc[[]beaconfleet/api.Note,beaconfleet/api.Note] -/
def z801 (qx : List api_Note) (r : (List api_Note)) : TV × Mem := (.tup [], ⟨[(0, ⟨65, 9, List.map api_Note.enc r⟩)], []⟩)

theorem z802 {qx : List api_Note} {r} (hF : z800 qx = some r) : Holds prog 94 [.c (.own 0 none), .c (.fn 95 [])] ⟨[(0, ⟨65, 9, List.map api_Note.enc qx⟩)], []⟩ (Is (z801 qx r)) := by
  unfold z800 at hF
  refine hW f94 14 1 1 ?_
  refine awp_seq (awp_region (aR 1 (aL api_Note.enc qx (aR 1 (aE ?_)))))
  refine bE hF fun vr1 h1 hF => bE hF fun vl2 h2 hF => gE hF fun h3 hF => ?_
  refine awp_region (aR 4 (aC (z117 h1) [] [] [] (aR 1 (aCp (z907 h2) ⟨⟨rfl, rfl, pin1 h3⟩, trivial⟩ [] [] [] ?_))))
  refine aE ?_
  exact oF hF [] []

/-! ### (*beaconfleet/command.Office).Notes -/
def z282 : (List api_Note) → AEx
  | _ => .exit 0

def z281 (qo : Int) (qo1 : Int) (qo2 : Int) (qm : List (List UInt8 × api_Note)) (qo3 : Int) (vm4 : List (List UInt8 × api_Note)) (vme : List (Nat × List D × List D)) (vcl : Nat) (vhp : (List.map (encM D.str api_Note.enc) vm4).Perm (List.map (·.2) vme)) : (List api_Note) → St
  | vout1 => Mem.st ⟨[(3, ⟨65, 9, List.map api_Note.enc vout1⟩)], [(0, [.i qo, .i qo1, .i qo2, .i qo, .mapp 2, .i qo3]), (1, [.mapc .str true (List.map (encM D.str api_Note.enc) qm)]), (2, [.mapc .str true (List.map (encM D.str api_Note.enc) vm4)])]⟩ (tl [(7, .c (.own 3 none))]) 4

def z280 (qo : Int) (qo1 : Int) (qo2 : Int) (qm : List (List UInt8 × api_Note)) (qo3 : Int) (vm4 : List (List UInt8 × api_Note)) (vme : List (Nat × List D × List D)) (vcl : Nat) (vhp : (List.map (encM D.str api_Note.enc) vm4).Perm (List.map (·.2) vme)) (vl : List (List UInt8 × api_Note)) : (List api_Note) → St
  | vout => Mem.st ⟨[(4, ⟨65, 9, List.map api_Note.enc vout⟩)], [(0, [.i qo, .i qo1, .i qo2, .i qo, .mapp 2, .i qo3]), (1, [.mapc .str true (List.map (encM D.str api_Note.enc) qm)]), (2, [.mapg .str true vme vcl]), (3, [.iterc 2 vme vcl (List.map (encM D.str api_Note.enc) vl) none])]⟩ (tl [(7, .c (.own 4 none)), (26, .c (.box 3 0))]) 5

theorem z283 (qo : Int) (qo1 : Int) (qo2 : Int) (qm : List (List UInt8 × api_Note)) (qo3 : Int) (vm4 : List (List UInt8 × api_Note)) (vme : List (Nat × List D × List D)) (vcl : Nat) (vhp : (List.map (encM D.str api_Note.enc) vm4).Perm (List.map (·.2) vme)) (vl : List (List UInt8 × api_Note)) (vout : (List api_Note)) (hE : vl = [] → ∃ x, z279 none vout = some x) (hP : ∀ e l', List.Perm vl (e :: l') → ∃ x, z279 (some e) vout = some x) : Awp prog 2 38 (cL (cL (cR (cL (cR (cR (cR (cR (cB f26))))))))) (OutR 2 z282 (z279) (z280 qo qo1 qo2 qm qo3 vm4 vme vcl vhp) (z281 qo qo1 qo2 qm qo3 vm4 vme vcl vhp) vl vout) (z280 qo qo1 qo2 qm qo3 vm4 vme vcl vhp vl vout) := by
  refine awp_seq (awp_region (aNext (ka := .str) (va := true) (me := vme) (cl := vcl) (cur := none) 3 2 (encM D.str api_Note.enc) vl rfl (fun h7 => ?_) (fun ve1 vl2 vb1 h8 => ?_)))
  · obtain ⟨x, hF0⟩ := hE h7
    have hF := hF0
    unfold z279 at hF
    refine aR 1 (aE ?_)
    refine awp_seq (tF rfl (awp_close (ka := .str) (va := true) (me := vme) (cl := vcl) 2 vhp ?_))
    refine awp_exit ?_
    exact outE h7 hF0 (oO hF [(3, 4)] [] rfl)
  · obtain ⟨x, hF0⟩ := hP _ _ h8
    have hF := hF0
    unfold z279 at hF
    refine aR 1 (aE ?_)
    refine awp_seq (tT rfl (awp_skip (awp_block (awp_seq (awp_region (aEntry (ka := .str) (va := true) (me := vme) (cl := vcl) (b := vb1) (rest := List.map (encM D.str api_Note.enc) vl2) 3 2 (encM D.str api_Note.enc) ve1 rfl ?_))))))
    refine aR 3 (aE ?_)
    refine gE hF fun h9 hF => ?_
    refine awp_region (aR 3 (aX (x_app api_Note.enc 4 h9) (aR 1 (aE ?_))))
    exact outP h8 hF0 (outCur (idM := 2) (me := vme) (cl := vcl) (rest := List.map (encM D.str api_Note.enc) vl2) (cur := some (vb1, (encM D.str api_Note.enc) ve1)) 3 <| oO hF [(4, 9005)] [] rfl)

def z277 (qo : Int) (qo1 : Int) (qo2 : Int) (qm : List (List UInt8 × api_Note)) (qo3 : Int) : Int ⊕ ((List (List UInt8 × api_Note)) × (List api_Note)) → TV × Mem
  | .inl vr1 => (.tup [.one (.nil), .one (.i vr1)], ⟨[], [(0, [.i qo, .i qo1, .i qo2, .i qo, .mapp 1, .i qo3]), (1, [.mapc .str true (List.map (encM D.str api_Note.enc) qm)])]⟩)
  | .inr (vm, vr2) => (.tup [.one (.own 3 none), .one (.i 0)], ⟨[(3, ⟨65, 9, List.map api_Note.enc vr2⟩)], [(0, [.i qo, .i qo1, .i qo2, .i qo, .mapp 2, .i qo3]), (1, [.mapc .str true (List.map (encM D.str api_Note.enc) qm)]), (2, [.mapc .str true (List.map (encM D.str api_Note.enc) vm)])]⟩)

theorem z278 {qo : Int} {qo1 : Int} {qo2 : Int} {qm : List (List UInt8 × api_Note)} {qo3 : Int} {r} (hF : z265 qo qo1 qo2 qm qo3 = some r) : Holds prog 26 [.c (.box 0 0), .i qo3] ⟨[], [(0, [.i qo, .i qo1, .i qo2, .i qo, .mapp 1, .i qo3]), (1, [.mapc .str true (List.map (encM D.str api_Note.enc) qm)])]⟩ (Is (z277 qo qo1 qo2 qm qo3 r)) := by
  unfold z265 at hF
  refine hW f26 38 2 2 ?_
  refine sR 2 (awp_seq (awp_seq (bE hF fun vr h1 hF => awp_region (aR 2 (aC (z360 h1) [] [] [] (aR 1 (aE ?_)))))))
  refine sR 2 (cE hF (fun h2 hF => ?_) fun h2 hF => ?_)
  · exact tT h2 (sR 3 (awp_ret (oF hF [] [])))
  · refine tF h2 (awp_skip (awp_seq (bE hF fun vm4 h3 hF => bE hF fun _ h4 hF => awp_region (aR 3 (aC (z322 h3) [] [] [] (aR 1 (aC (z354 h4) [(2, 11004)] [] [] (aE ?_))))))))
    refine sR 1 (awp_seq (awp_seq (awp_region (aR 4 (aRange (ka := .str) (va := true) 11004 (encM D.str api_Note.enc) vm4 rfl (fun vme vcl vhp => ?_))))))
    refine aE ?_
    refine awp_block (awp_to (st' := z280 qo qo1 qo2 qm qo3 vm4 vme vcl vhp vm4 []) (oT [(2, 11004), (3, 19002)] [4]) ?_)
    refine rG (H := z280 qo qo1 qo2 qm qo3 vm4 vme vcl vhp) (k := z282) (S := z281 qo qo1 qo2 qm qo3 vm4 vme vcl vhp) hF (by intro x; exact fun h => nomatch h) (fun l s => z283 qo qo1 qo2 qm qo3 vm4 vme vcl vhp l s) (fun vout1_1 hF => ?_)
    refine awp_seq (bE hF fun vl3 h11 hF => gE hF fun h12 hF => ?_)
    refine awp_region (aR 1 (aCp (z802 h11) ⟨⟨rfl, rfl, pin1 h12⟩, trivial⟩ [(0, 3)] [] [] ?_))
    refine aE ?_
    exact sR 3 (awp_ret (oF hF [] []))

/-! ### (*beaconfleet/command.Office).Fetch -/
def z258 : (List api_Letter) → AEx
  | _ => .exit 0

def z257 (qx : Int) (qx1 : Int) (qx2 : Int) (qm : List (List UInt8 × api_Note)) (qx3 : Int) (qx4 : Int) (vm4 : List (List UInt8 × api_Note)) (vme : List (Nat × List D × List D)) (vcl : Nat) (vhp : (List.map (encM D.str api_Note.enc) vm4).Perm (List.map (·.2) vme)) : (List api_Letter) → St
  | vx1 => Mem.st ⟨[(3, ⟨40, 6, List.map api_Letter.enc vx1⟩)], [(0, [.i qx, .i qx1, .i qx2, .i qx, .mapp 1, .i qx3]), (1, [.mapc .str true (List.map (encM D.str api_Note.enc) qm)]), (2, [.mapc .str true (List.map (encM D.str api_Note.enc) vm4)])]⟩ (tl [(0, .c (.box 0 0)), (1, .i qx4), (2, .i qx), (9, .c (.mapp 2)), (10, .c (.own 3 none))]) 4

def z256 (qx : Int) (qx1 : Int) (qx2 : Int) (qm : List (List UInt8 × api_Note)) (qx3 : Int) (qx4 : Int) (vm4 : List (List UInt8 × api_Note)) (vme : List (Nat × List D × List D)) (vcl : Nat) (vhp : (List.map (encM D.str api_Note.enc) vm4).Perm (List.map (·.2) vme)) (vl : List (List UInt8 × api_Note)) : (List api_Letter) → St
  | vx => Mem.st ⟨[(4, ⟨40, 6, List.map api_Letter.enc vx⟩)], [(0, [.i qx, .i qx1, .i qx2, .i qx, .mapp 1, .i qx3]), (1, [.mapc .str true (List.map (encM D.str api_Note.enc) qm)]), (2, [.iterc 3 vme vcl (List.map (encM D.str api_Note.enc) vl) none]), (3, [.mapg .str true vme vcl])]⟩ (tl [(0, .c (.box 0 0)), (1, .i qx4), (2, .i qx), (9, .c (.mapp 3)), (10, .c (.own 4 none)), (28, .c (.box 2 0))]) 5

theorem z259 (qx : Int) (qx1 : Int) (qx2 : Int) (qm : List (List UInt8 × api_Note)) (qx3 : Int) (qx4 : Int) (vm4 : List (List UInt8 × api_Note)) (vme : List (Nat × List D × List D)) (vcl : Nat) (vhp : (List.map (encM D.str api_Note.enc) vm4).Perm (List.map (·.2) vme)) (vl : List (List UInt8 × api_Note)) (vx : (List api_Letter)) (hE : vl = [] → ∃ x, z255 none vx = some x) (hP : ∀ e l', List.Perm vl (e :: l') → ∃ x, z255 (some e) vx = some x) : Awp prog 2 77 (cL (cL (cR (cL (cR (cR (cR (cR (cR (cB f62)))))))))) (OutR 2 z258 (z255) (z256 qx qx1 qx2 qm qx3 qx4 vm4 vme vcl vhp) (z257 qx qx1 qx2 qm qx3 qx4 vm4 vme vcl vhp) vl vx) (z256 qx qx1 qx2 qm qx3 qx4 vm4 vme vcl vhp vl vx) := by
  refine awp_seq (awp_region (aNext (ka := .str) (va := true) (me := vme) (cl := vcl) (cur := none) 2 3 (encM D.str api_Note.enc) vl rfl (fun h8 => ?_) (fun ve1 vl2 vb1 h9 => ?_)))
  · obtain ⟨x, hF0⟩ := hE h8
    have hF := hF0
    unfold z255 at hF
    refine aR 1 (aE ?_)
    refine awp_seq (tF rfl (awp_close (ka := .str) (va := true) (me := vme) (cl := vcl) 3 vhp ?_))
    refine awp_exit ?_
    exact outE h8 hF0 (oO hF [(2, 3), (3, 4)] [] rfl)
  · obtain ⟨x, hF0⟩ := hP _ _ h9
    have hF := hF0
    unfold z255 at hF
    refine aR 1 (aE ?_)
    refine awp_seq (tT rfl (awp_skip (awp_block (awp_seq (awp_region (aEntry (ka := .str) (va := true) (me := vme) (cl := vcl) (b := vb1) (rest := List.map (encM D.str api_Note.enc) vl2) 2 3 (encM D.str api_Note.enc) ve1 rfl ?_))))))
    refine aR 3 (aE ?_)
    refine sR 3 (cE hF (fun h10 hF => ?_) fun h10 hF => ?_)
    · refine tT h10 (gE hF fun h11 hF => ?_)
      refine awp_region (aR 4 (aX (x_app api_Letter.enc 4 h11) (aR 1 (aE ?_))))
      exact outP h9 hF0 (outCur (idM := 3) (me := vme) (cl := vcl) (rest := List.map (encM D.str api_Note.enc) vl2) (cur := some (vb1, (encM D.str api_Note.enc) ve1)) 2 <| oO hF [(4, 13005)] [] rfl)
    · exact tF h10 (awp_skip (outP h9 hF0 (outCur (idM := 3) (me := vme) (cl := vcl) (rest := List.map (encM D.str api_Note.enc) vl2) (cur := some (vb1, (encM D.str api_Note.enc) ve1)) 2 <| oO hF [] [] rfl)))

def z263 : (List (List UInt8 × api_Note)) → AEx
  | _ => .exit 2

def z262 (qx : Int) (qx1 : Int) (qx2 : Int) (qm : List (List UInt8 × api_Note)) (qx3 : Int) (qx4 : Int) (vr2 : List api_Letter) : (List (List UInt8 × api_Note)) → St
  | vm1 => Mem.st ⟨[(3, ⟨40, 6, List.map api_Letter.enc vr2⟩)], [(0, [.i qx, .i qx1, .i qx2, .i qx, .mapp 1, .i qx3]), (1, [.mapc .str true (List.map (encM D.str api_Note.enc) qm)]), (2, [.mapc .str true (List.map (encM D.str api_Note.enc) vm1)])]⟩ (tl [(0, .c (.box 0 0)), (1, .i qx4), (9, .c (.mapp 2)), (10, .c (.own 3 none))]) 4

def z261 (qx : Int) (qx1 : Int) (qx2 : Int) (qm : List (List UInt8 × api_Note)) (qx3 : Int) (qx4 : Int) (vr2 : List api_Letter) : (List (List UInt8 × api_Note)) × Int → St
  | (vm, vx2) => Mem.st ⟨[(3, ⟨40, 6, List.map api_Letter.enc vr2⟩)], [(0, [.i qx, .i qx1, .i qx2, .i qx, .mapp 1, .i qx3]), (1, [.mapc .str true (List.map (encM D.str api_Note.enc) qm)]), (2, [.mapc .str true (List.map (encM D.str api_Note.enc) vm)])]⟩ (tl [(0, .c (.box 0 0)), (1, .i qx4), (9, .c (.mapp 2)), (10, .c (.own 3 none)), (50, .c (.own 3 none)), (51, .i (vr2.length : Int)), (52, .i vx2)]) 4

theorem z264 (qx : Int) (qx1 : Int) (qx2 : Int) (qm : List (List UInt8 × api_Note)) (qx3 : Int) (qx4 : Int) (vr2 : List api_Letter) (s : (List (List UInt8 × api_Note)) × Int) (r : ((List (List UInt8 × api_Note)) × Int) ⊕ ((List (List UInt8 × api_Note)))) (hF : z260 qx4 vr2 s = some r) : Awp prog 2 77 (cL (cL (cR (cL (cR (cR (cR (cR (cR (cR (cR (cR (cB f62))))))))))))) (Out 2 (kk z263) (SS (z261 qx qx1 qx2 qm qx3 qx4 vr2) (z262 qx qx1 qx2 qm qx3 qx4 vr2)) r) (z261 qx qx1 qx2 qm qx3 qx4 vr2 s) := by
  obtain ⟨vm, vx2⟩ := s
  unfold z260 at hF
  refine sR 1 (awp_seq (cE hF (fun h17 hF => ?_) fun h17 hF => ?_))
  · refine tT h17 (awp_skip (awp_seq (awp_block (awp_seq (bE hF fun vy1 h18 hF => awp_region (aX (x_idxO api_Letter.enc 3 h18) (aX (x_ldE api_Letter.enc h18) (aR 2 (aE ?_)))))))))
    refine awp_seq (bE hF fun ve3 h19 hF => awp_region (aR 3 (aX (x_get 2 true D.str api_Note.enc h19) (aR 2 (aE ?_)))))
    refine sR 5 (sR 5 (awp_region (aR 4 (aPut 2 .str true (l := vm) (key := vy1.Id) (v := (api_Note.mk (api_Letter.mk ve3.Letter.Id ve3.Letter.Slot ve3.Letter.Body ve3.Letter.Prio ve3.Letter.At ve3.Letter.Until) 2 (IntKind.wrap .i64 (ve3.Tries + 1)) qx4)) D.str api_Note.enc rfl ?_))))
    refine aE ?_
    exact gR 2 (oO hF [] [] rfl)
  · refine tF h17 (awp_exit ?_)
    exact oO hF [] [] rfl

def z253 (qx : Int) (qx1 : Int) (qx2 : Int) (qm : List (List UInt8 × api_Note)) (qx3 : Int) (qx4 : Int) : Int ⊕ ((List (List UInt8 × api_Note)) × (List api_Letter)) → TV × Mem
  | .inl vr3 => (.tup [.one (.nil), .one (.i vr3)], ⟨[], [(0, [.i qx, .i qx1, .i qx2, .i qx, .mapp 1, .i qx3]), (1, [.mapc .str true (List.map (encM D.str api_Note.enc) qm)])]⟩)
  | .inr (vm2, vr4) => (.tup [.one (.own 3 none), .one (.i 0)], ⟨[(3, ⟨40, 6, List.map api_Letter.enc vr4⟩)], [(0, [.i qx, .i qx1, .i qx2, .i qx, .mapp 2, .i qx4]), (1, [.mapc .str true (List.map (encM D.str api_Note.enc) qm)]), (2, [.mapc .str true (List.map (encM D.str api_Note.enc) vm2)])]⟩)

theorem z254 {qx : Int} {qx1 : Int} {qx2 : Int} {qm : List (List UInt8 × api_Note)} {qx3 : Int} {qx4 : Int} {r} (hF : z252 qx qx1 qx2 qm qx3 qx4 = some r) : Holds prog 62 [.c (.box 0 0), .i qx4, .i qx] ⟨[], [(0, [.i qx, .i qx1, .i qx2, .i qx, .mapp 1, .i qx3]), (1, [.mapc .str true (List.map (encM D.str api_Note.enc) qm)])]⟩ (Is (z253 qx qx1 qx2 qm qx3 qx4 r)) := by
  unfold z252 at hF
  refine hW f62 77 2 2 ?_
  refine sR 2 (awp_seq (awp_seq (bE hF fun vr h1 hF => awp_region (aR 2 (aC (z357 h1) [] [] [] (aR 1 (aE ?_)))))))
  refine sR 2 (cE hF (fun h2 hF => ?_) fun h2 hF => ?_)
  · exact tT h2 (sR 3 (awp_ret (oF hF [] [])))
  · refine tF h2 (awp_skip (awp_seq (awp_seq (bE hF fun vr1 h3 hF => awp_region (aR 1 (aC (z74 h3) [] [] [] (aE ?_)))))))
    refine cE hF (fun h4 hF => ?_) fun h4 hF => ?_
    · exact tT h4 (sR 2 (awp_ret (oF hF [] [])))
    · refine tF h4 (awp_skip (awp_seq (bE hF fun vm4 h5 hF => awp_region (aR 2 (aC (z309 h5) [] [] [] (aR 1 (aE ?_)))))))
      refine sR 1 (awp_seq (awp_seq (awp_region (aR 1 (aRange (ka := .str) (va := true) 12004 (encM D.str api_Note.enc) vm4 rfl (fun vme vcl vhp => ?_))))))
      refine aE ?_
      refine awp_block (awp_to (st' := z256 qx qx1 qx2 qm qx3 qx4 vm4 vme vcl vhp vm4 []) (oT [(2, 16002), (3, 12004)] [4]) ?_)
      refine rG (H := z256 qx qx1 qx2 qm qx3 qx4 vm4 vme vcl vhp) (k := z258) (S := z257 qx qx1 qx2 qm qx3 qx4 vm4 vme vcl vhp) hF (by intro x; exact fun h => nomatch h) (fun l s => z259 qx qx1 qx2 qm qx3 qx4 vm4 vme vcl vhp l s) (fun vx1_1 hF => ?_)
      refine awp_seq (bE hF fun vl3 h13 hF => gE hF fun h14 hF => ?_)
      refine awp_region (aR 1 (aCp (z799 h13) ⟨⟨rfl, rfl, pin1 h14⟩, trivial⟩ [(0, 3)] [] [] ?_))
      refine aE ?_
      refine awp_seq (awp_to (oT (m := ⟨[], [(0, [.i qx, .i qx1, .i qx2, .i qx, .mapp 1, .i qx3]), (1, [.mapc .str true (List.map (encM D.str api_Note.enc) qm)]), (2, [.mapc .str true (List.map (encM D.str api_Note.enc) vm4)])]⟩) (ts := [(0, .c (.box 0 0)), (1, .i qx4), (2, .i qx), (9, .c (.mapp 2)), (10, .c (.l api_Letter.enc vl3))]) (nx := 2004) [] []) ?_)
      refine bE hF fun vl4 h15 hF => bE hF fun vr2 h16 hF => awp_region (aR 3 (aL api_Letter.enc vl3 (aR 1 (aX (x_slice api_Letter.enc h15) (aC (z668 h16) [] [] [] (aR 1 (aE ?_)))))))
      refine awp_seq (awp_seq (awp_region (aR 1 (aL api_Letter.enc vr2 (aR 1 (aE ?_))))))
      refine awp_block (awp_to (st' := z261 qx qx1 qx2 qm qx3 qx4 vr2 (vm4, 0)) (oT [(3, 8004)] []) ?_)
      refine bE hF fun vm1_1 h20 hF => awp_sub (awp_loop' (z261 qx qx1 qx2 qm qx3 qx4 vr2) z263 (z262 qx qx1 qx2 qm qx3 qx4 vr2) (by intro x; exact fun h => nomatch h) h20 (z264 qx qx1 qx2 qm qx3 qx4 vr2)) ?_
      refine awp_seq (bE hF fun _ h21 hF => awp_region (aR 3 (aC (z351 h21) [] [] [] (aE ?_))))
      exact sR 3 (awp_ret (oF hF [] []))

/-! ### (*beaconfleet/command.Office).Notes -/
def z275 : (List api_Note) → AEx
  | _ => .exit 0

def z274 (qo : Int) (qo1 : Int) (qo2 : Int) (qm : List (List UInt8 × api_Note)) (qat : Int) (vm4 : List (List UInt8 × api_Note)) (vme : List (Nat × List D × List D)) (vcl : Nat) (vhp : (List.map (encM D.str api_Note.enc) vm4).Perm (List.map (·.2) vme)) : (List api_Note) → St
  | vout1 => Mem.st ⟨[(3, ⟨65, 9, List.map api_Note.enc vout1⟩)], [(0, [.i qo, .i qo1, .i qo2, .i qo, .mapp 2, .i qat]), (1, [.mapc .str true (List.map (encM D.str api_Note.enc) qm)]), (2, [.mapc .str true (List.map (encM D.str api_Note.enc) vm4)])]⟩ (tl [(7, .c (.own 3 none))]) 4

def z273 (qo : Int) (qo1 : Int) (qo2 : Int) (qm : List (List UInt8 × api_Note)) (qat : Int) (vm4 : List (List UInt8 × api_Note)) (vme : List (Nat × List D × List D)) (vcl : Nat) (vhp : (List.map (encM D.str api_Note.enc) vm4).Perm (List.map (·.2) vme)) (vl : List (List UInt8 × api_Note)) : (List api_Note) → St
  | vout => Mem.st ⟨[(4, ⟨65, 9, List.map api_Note.enc vout⟩)], [(0, [.i qo, .i qo1, .i qo2, .i qo, .mapp 2, .i qat]), (1, [.mapc .str true (List.map (encM D.str api_Note.enc) qm)]), (2, [.mapg .str true vme vcl]), (3, [.iterc 2 vme vcl (List.map (encM D.str api_Note.enc) vl) none])]⟩ (tl [(7, .c (.own 4 none)), (26, .c (.box 3 0))]) 5

theorem z276 (qo : Int) (qo1 : Int) (qo2 : Int) (qm : List (List UInt8 × api_Note)) (qat : Int) (vm4 : List (List UInt8 × api_Note)) (vme : List (Nat × List D × List D)) (vcl : Nat) (vhp : (List.map (encM D.str api_Note.enc) vm4).Perm (List.map (·.2) vme)) (vl : List (List UInt8 × api_Note)) (vout : (List api_Note)) (hE : vl = [] → ∃ x, z272 none vout = some x) (hP : ∀ e l', List.Perm vl (e :: l') → ∃ x, z272 (some e) vout = some x) : Awp prog 2 38 (cL (cL (cR (cL (cR (cR (cR (cR (cB f26))))))))) (OutR 2 z275 (z272) (z273 qo qo1 qo2 qm qat vm4 vme vcl vhp) (z274 qo qo1 qo2 qm qat vm4 vme vcl vhp) vl vout) (z273 qo qo1 qo2 qm qat vm4 vme vcl vhp vl vout) := by
  refine awp_seq (awp_region (aNext (ka := .str) (va := true) (me := vme) (cl := vcl) (cur := none) 3 2 (encM D.str api_Note.enc) vl rfl (fun h7 => ?_) (fun ve1 vl2 vb1 h8 => ?_)))
  · obtain ⟨x, hF0⟩ := hE h7
    have hF := hF0
    unfold z272 at hF
    refine aR 1 (aE ?_)
    refine awp_seq (tF rfl (awp_close (ka := .str) (va := true) (me := vme) (cl := vcl) 2 vhp ?_))
    refine awp_exit ?_
    exact outE h7 hF0 (oO hF [(3, 4)] [] rfl)
  · obtain ⟨x, hF0⟩ := hP _ _ h8
    have hF := hF0
    unfold z272 at hF
    refine aR 1 (aE ?_)
    refine awp_seq (tT rfl (awp_skip (awp_block (awp_seq (awp_region (aEntry (ka := .str) (va := true) (me := vme) (cl := vcl) (b := vb1) (rest := List.map (encM D.str api_Note.enc) vl2) 3 2 (encM D.str api_Note.enc) ve1 rfl ?_))))))
    refine aR 3 (aE ?_)
    refine gE hF fun h9 hF => ?_
    refine awp_region (aR 3 (aX (x_app api_Note.enc 4 h9) (aR 1 (aE ?_))))
    exact outP h8 hF0 (outCur (idM := 2) (me := vme) (cl := vcl) (rest := List.map (encM D.str api_Note.enc) vl2) (cur := some (vb1, (encM D.str api_Note.enc) ve1)) 3 <| oO hF [(4, 9005)] [] rfl)

def z270 (qo : Int) (qo1 : Int) (qo2 : Int) (qm : List (List UInt8 × api_Note)) (qo3 : Int) (qat : Int) : Int ⊕ ((List (List UInt8 × api_Note)) × (List api_Note)) → TV × Mem
  | .inl vr1 => (.tup [.one (.nil), .one (.i vr1)], ⟨[], [(0, [.i qo, .i qo1, .i qo2, .i qo, .mapp 1, .i qo3]), (1, [.mapc .str true (List.map (encM D.str api_Note.enc) qm)])]⟩)
  | .inr (vm, vr2) => (.tup [.one (.own 3 none), .one (.i 0)], ⟨[(3, ⟨65, 9, List.map api_Note.enc vr2⟩)], [(0, [.i qo, .i qo1, .i qo2, .i qo, .mapp 2, .i qat]), (1, [.mapc .str true (List.map (encM D.str api_Note.enc) qm)]), (2, [.mapc .str true (List.map (encM D.str api_Note.enc) vm)])]⟩)

theorem z271 {qo : Int} {qo1 : Int} {qo2 : Int} {qm : List (List UInt8 × api_Note)} {qo3 : Int} {qat : Int} {r} (hF : z269 qo qo1 qo2 qm qo3 qat = some r) : Holds prog 26 [.c (.box 0 0), .i qat] ⟨[], [(0, [.i qo, .i qo1, .i qo2, .i qo, .mapp 1, .i qo3]), (1, [.mapc .str true (List.map (encM D.str api_Note.enc) qm)])]⟩ (Is (z270 qo qo1 qo2 qm qo3 qat r)) := by
  unfold z269 at hF
  refine hW f26 38 2 2 ?_
  refine sR 2 (awp_seq (awp_seq (bE hF fun vr h1 hF => awp_region (aR 2 (aC (z357 h1) [] [] [] (aR 1 (aE ?_)))))))
  refine sR 2 (cE hF (fun h2 hF => ?_) fun h2 hF => ?_)
  · exact tT h2 (sR 3 (awp_ret (oF hF [] [])))
  · refine tF h2 (awp_skip (awp_seq (bE hF fun vm4 h3 hF => bE hF fun _ h4 hF => awp_region (aR 3 (aC (z309 h3) [] [] [] (aR 1 (aC (z351 h4) [(2, 11004)] [] [] (aE ?_))))))))
    refine sR 1 (awp_seq (awp_seq (awp_region (aR 4 (aRange (ka := .str) (va := true) 11004 (encM D.str api_Note.enc) vm4 rfl (fun vme vcl vhp => ?_))))))
    refine aE ?_
    refine awp_block (awp_to (st' := z273 qo qo1 qo2 qm qat vm4 vme vcl vhp vm4 []) (oT [(2, 11004), (3, 19002)] [4]) ?_)
    refine rG (H := z273 qo qo1 qo2 qm qat vm4 vme vcl vhp) (k := z275) (S := z274 qo qo1 qo2 qm qat vm4 vme vcl vhp) hF (by intro x; exact fun h => nomatch h) (fun l s => z276 qo qo1 qo2 qm qat vm4 vme vcl vhp l s) (fun vout1_1 hF => ?_)
    refine awp_seq (bE hF fun vl3 h11 hF => gE hF fun h12 hF => ?_)
    refine awp_region (aR 1 (aCp (z802 h11) ⟨⟨rfl, rfl, pin1 h12⟩, trivial⟩ [(0, 3)] [] [] ?_))
    refine aE ?_
    exact sR 3 (awp_ret (oF hF [] []))

/-! ### beaconfleet/fleetkeep2.spoil[string] -/
def z468 : (List (List UInt8)) → AEx
  | _ => .exit 0

def z467 (ql : List (List UInt8)) : (List (List UInt8)) → St
  | vl1 => Mem.st ⟨[(0, ⟨9, 1, List.map encS vl1⟩)], []⟩ (tl []) 1

def z466 (ql : List (List UInt8)) : (List (List UInt8)) × Int → St
  | (vl, vx) => Mem.st ⟨[(0, ⟨9, 1, List.map encS vl⟩)], []⟩ (tl [(0, .c (.own 0 none)), (2, .c (.s ([] : List UInt8))), (5, .i (ql.length : Int)), (6, .i vx)]) 1

theorem z469 (ql : List (List UInt8)) (s : (List (List UInt8)) × Int) (r : ((List (List UInt8)) × Int) ⊕ ((List (List UInt8)))) (hF : z465 ql s = some r) : Awp prog 1 14 (cL (cL (cR (cR (cB f63))))) (Out 1 (kk z468) (SS (z466 ql) (z467 ql)) r) (z466 ql s) := by
  obtain ⟨vl, vx⟩ := s
  unfold z465 at hF
  refine sR 1 (awp_seq (cE hF (fun h1 hF => ?_) fun h1 hF => ?_))
  · refine tT h1 (awp_skip (awp_seq (awp_block (sR 2 (bE hF fun vy1 h2 hF => awp_region (aR 3 (aX (x_idxO encS 0 h2) (aX (x_stE encS ([] : List UInt8) h2) (aE ?_)))))))))
    exact gR 2 (oO hF [] [] rfl)
  · refine tF h1 (awp_exit ?_)
    exact oO hF [] [] rfl

def z463 (ql : List (List UInt8)) (r : (List (List UInt8))) : TV × Mem := (.tup [], ⟨[(0, ⟨9, 1, List.map encS r⟩)], []⟩)

theorem z464 {ql : List (List UInt8)} {r} (hF : z462 ql = some r) : Holds prog 63 [.c (.own 0 none)] ⟨[(0, ⟨9, 1, List.map encS ql⟩)], []⟩ (Is (z463 ql r)) := by
  unfold z462 at hF
  refine hW f63 14 1 1 ?_
  refine sR 1 (awp_seq (awp_region (aR 1 (aL encS ql (aR 1 (aE ?_))))))
  refine awp_block (awp_to (st' := z466 ql (ql, 0)) (oT [] []) ?_)
  refine bE hF fun vl1_1 h3 hF => awp_sub (awp_loop' (z466 ql) z468 (z467 ql) (by intro x; exact fun h => nomatch h) h3 (z469 ql)) ?_
  exact oF hF [] []

/-! ### slices.Equal[[]beaconfleet/api.Letter,beaconfleet/api.Letter] -/
def z738 : Unit ⊕ Unit → AEx
  | .inl _ => .exit 0
  | .inr _ => .ret

def z737 (qs1 : List api_Letter) : Unit ⊕ Unit → St
  | .inl _ => Mem.st ⟨[], []⟩ (tl []) 0
  | .inr _ => Mem.st ⟨[], []⟩ (tl [(4, .b false)]) 0

def z736 (qs1 : List api_Letter) : Int → St
  | vx => Mem.st ⟨[], []⟩ (tl [(0, .c (.l api_Letter.enc qs1)), (1, .c (.l api_Letter.enc qs1)), (12, .i (qs1.length : Int)), (13, .i vx)]) 0

theorem z739 (qs1 : List api_Letter) (vx : Int) (r : (Int) ⊕ (Unit ⊕ Unit)) (hF : z735 qs1 vx = some r) : Awp prog 0 26 (cL (cL (cR (cL (cR (cR (cB f38))))))) (Out 0 (kk z738) (SS (z736 qs1) (z737 qs1)) r) (z736 qs1 vx) := by
  unfold z735 at hF
  refine sR 1 (awp_seq (cE hF (fun h2 hF => ?_) fun h2 hF => ?_))
  · refine tT h2 (awp_skip (awp_seq (awp_block (sR 2 (awp_seq (bE hF fun vy1 h3 hF => aD ?_))))))
    refine dR 2 ?_
    refine dX (x_idx api_Letter.enc h3) ?_
    refine dR 3 ?_
    refine dX (x_idx api_Letter.enc h3) ?_
    refine dR 1 ?_
    refine dS (U := []) (stable_eqS (op := .neq) (xs := [.str vy1.Id, .str vy1.Slot, .str vy1.Body, .int .i64 vy1.Prio, .int .i64 vy1.At, .int .i64 vy1.Until]) (ys := [.str vy1.Id, .str vy1.Slot, .str vy1.Body, .int .i64 vy1.Prio, .int .i64 vy1.At, .int .i64 vy1.Until]) (b := (decide (vy1.Id = vy1.Id) && (decide (vy1.Slot = vy1.Slot) && (decide (vy1.Body = vy1.Body) && (decide (vy1.Prio = vy1.Prio) && (decide (vy1.At = vy1.At) && (decide (vy1.Until = vy1.Until) && true))))))) (c := (!(decide (vy1.Id = vy1.Id) && (decide (vy1.Slot = vy1.Slot) && (decide (vy1.Body = vy1.Body) && (decide (vy1.Prio = vy1.Prio) && (decide (vy1.At = vy1.At) && (decide (vy1.Until = vy1.Until) && true)))))))) rfl (.inr ⟨rfl, rfl⟩) (by kernel_rfl) (by kernel_rfl) (by kernel_rfl) (by kernel_rfl) (by kernel_rfl) (by kernel_rfl)) ?_
    refine dE ?_
    refine cE hF (fun h4 hF => ?_) fun h4 hF => ?_
    · exact tT h4 (sR 1 (awp_ret (oO hF [] [] rfl)))
    · exact tF h4 (awp_skip (gR 2 (oO hF [] [] rfl)))
  · refine tF h2 (awp_exit ?_)
    exact oO hF [] [] rfl

def z733 (qs1 : List api_Letter) (r : Bool) : TV × Mem := (.b r, ⟨[], []⟩)

theorem z734 {qs1 : List api_Letter} {r} (hF : z732 qs1 = some r) : Holds prog 38 [.c (.l api_Letter.enc qs1), .c (.l api_Letter.enc qs1)] ⟨[], []⟩ (Is (z733 qs1 r)) := by
  unfold z732 at hF
  refine hW f38 26 0 0 ?_
  refine sR 1 (awp_seq (awp_seq (awp_region (aR 1 (aL api_Letter.enc qs1 (aR 1 (aL api_Letter.enc qs1 (aR 1 (aE ?_)))))))))
  refine cE hF (fun h1 hF => ?_) fun h1 hF => ?_
  · exact tT h1 (sR 1 (awp_ret (oF hF [] [])))
  · refine tF h1 (awp_skip (awp_seq (awp_seq (awp_region (aR 1 (aL api_Letter.enc qs1 (aR 1 (aE ?_))))))))
    refine awp_block (awp_to (st' := z736 qs1 0) (oT [] []) ?_)
    refine bE hF fun x h5 hF => ?_
    rcases x with _ | _
    · refine awp_sub (awp_loop' (z736 qs1) z738 (z737 qs1) (by intro x; rcases x with x | x <;> exact fun h => nomatch h) h5 (z739 qs1)) ?_
      exact sR 1 (awp_ret (oF hF [] []))
    · refine awp_sub (awp_loop' (z736 qs1) z738 (z737 qs1) (by intro x; rcases x with x | x <;> exact fun h => nomatch h) h5 (z739 qs1)) ?_
      exact oF hF [] []

/-! ### slices.Equal[[]beaconfleet/api.Note,beaconfleet/api.Note] -/
def z746 : Unit ⊕ Unit → AEx
  | .inl _ => .exit 0
  | .inr _ => .ret

def z745 (qs1 : List api_Note) : Unit ⊕ Unit → St
  | .inl _ => Mem.st ⟨[], []⟩ (tl []) 0
  | .inr _ => Mem.st ⟨[], []⟩ (tl [(4, .b false)]) 0

def z744 (qs1 : List api_Note) : Int → St
  | vx => Mem.st ⟨[], []⟩ (tl [(0, .c (.l api_Note.enc qs1)), (1, .c (.l api_Note.enc qs1)), (12, .i (qs1.length : Int)), (13, .i vx)]) 0

theorem z747 (qs1 : List api_Note) (vx : Int) (r : (Int) ⊕ (Unit ⊕ Unit)) (hF : z743 qs1 vx = some r) : Awp prog 0 26 (cL (cL (cR (cL (cR (cR (cB f28))))))) (Out 0 (kk z746) (SS (z744 qs1) (z745 qs1)) r) (z744 qs1 vx) := by
  unfold z743 at hF
  refine sR 1 (awp_seq (cE hF (fun h2 hF => ?_) fun h2 hF => ?_))
  · refine tT h2 (awp_skip (awp_seq (awp_block (sR 2 (awp_seq (bE hF fun vy1 h3 hF => aD ?_))))))
    refine dR 2 ?_
    refine dX (x_idx api_Note.enc h3) ?_
    refine dR 3 ?_
    refine dX (x_idx api_Note.enc h3) ?_
    refine dR 1 ?_
    refine dS (U := []) (stable_eqS (op := .neq) (xs := [.str vy1.Letter.Id, .str vy1.Letter.Slot, .str vy1.Letter.Body, .int .i64 vy1.Letter.Prio, .int .i64 vy1.Letter.At, .int .i64 vy1.Letter.Until, .int .i64 vy1.State, .int .i64 vy1.Tries, .int .i64 vy1.Since]) (ys := [.str vy1.Letter.Id, .str vy1.Letter.Slot, .str vy1.Letter.Body, .int .i64 vy1.Letter.Prio, .int .i64 vy1.Letter.At, .int .i64 vy1.Letter.Until, .int .i64 vy1.State, .int .i64 vy1.Tries, .int .i64 vy1.Since]) (b := ((decide (vy1.Letter.Id = vy1.Letter.Id) && (decide (vy1.Letter.Slot = vy1.Letter.Slot) && (decide (vy1.Letter.Body = vy1.Letter.Body) && (decide (vy1.Letter.Prio = vy1.Letter.Prio) && (decide (vy1.Letter.At = vy1.Letter.At) && (decide (vy1.Letter.Until = vy1.Letter.Until) && true)))))) && (decide (vy1.State = vy1.State) && (decide (vy1.Tries = vy1.Tries) && (decide (vy1.Since = vy1.Since) && true))))) (c := (!((decide (vy1.Letter.Id = vy1.Letter.Id) && (decide (vy1.Letter.Slot = vy1.Letter.Slot) && (decide (vy1.Letter.Body = vy1.Letter.Body) && (decide (vy1.Letter.Prio = vy1.Letter.Prio) && (decide (vy1.Letter.At = vy1.Letter.At) && (decide (vy1.Letter.Until = vy1.Letter.Until) && true)))))) && (decide (vy1.State = vy1.State) && (decide (vy1.Tries = vy1.Tries) && (decide (vy1.Since = vy1.Since) && true)))))) rfl (.inr ⟨rfl, rfl⟩) (by kernel_rfl) (by kernel_rfl) (by kernel_rfl) (by kernel_rfl) (by kernel_rfl) (by kernel_rfl)) ?_
    refine dE ?_
    refine cE hF (fun h4 hF => ?_) fun h4 hF => ?_
    · exact tT h4 (sR 1 (awp_ret (oO hF [] [] rfl)))
    · exact tF h4 (awp_skip (gR 2 (oO hF [] [] rfl)))
  · refine tF h2 (awp_exit ?_)
    exact oO hF [] [] rfl

def z741 (qs1 : List api_Note) (r : Bool) : TV × Mem := (.b r, ⟨[], []⟩)

theorem z742 {qs1 : List api_Note} {r} (hF : z740 qs1 = some r) : Holds prog 28 [.c (.l api_Note.enc qs1), .c (.l api_Note.enc qs1)] ⟨[], []⟩ (Is (z741 qs1 r)) := by
  unfold z740 at hF
  refine hW f28 26 0 0 ?_
  refine sR 1 (awp_seq (awp_seq (awp_region (aR 1 (aL api_Note.enc qs1 (aR 1 (aL api_Note.enc qs1 (aR 1 (aE ?_)))))))))
  refine cE hF (fun h1 hF => ?_) fun h1 hF => ?_
  · exact tT h1 (sR 1 (awp_ret (oF hF [] [])))
  · refine tF h1 (awp_skip (awp_seq (awp_seq (awp_region (aR 1 (aL api_Note.enc qs1 (aR 1 (aE ?_))))))))
    refine awp_block (awp_to (st' := z744 qs1 0) (oT [] []) ?_)
    refine bE hF fun x h5 hF => ?_
    rcases x with _ | _
    · refine awp_sub (awp_loop' (z744 qs1) z746 (z745 qs1) (by intro x; rcases x with x | x <;> exact fun h => nomatch h) h5 (z747 qs1)) ?_
      exact sR 1 (awp_ret (oF hF [] []))
    · refine awp_sub (awp_loop' (z744 qs1) z746 (z745 qs1) (by intro x; rcases x with x | x <;> exact fun h => nomatch h) h5 (z747 qs1)) ?_
      exact oF hF [] []

/-! ### beaconfleet/fleetkeep2.CommandsStay -/
def z401 (vr4 : List api_Letter) (vr18 : List api_Note) (vr : Int) : Unit → St
  | _ => Mem.st ⟨[], []⟩ (tl [(5, .c (.l api_Letter.enc vr4)), (6, .c (.l api_Letter.enc vr4)), (7, .c (.l api_Note.enc vr18)), (8, .c (.l api_Note.enc vr18)), (13, .c (.nilp)), (15, .c (.nilp)), (78, .b true)]) 0

def z400 (vr4 : List api_Letter) (vr18 : List api_Note) (vr : Int) : St := Mem.st ⟨[], []⟩ (tl [(5, .c (.l api_Letter.enc vr4)), (6, .c (.l api_Letter.enc vr4)), (7, .c (.l api_Note.enc vr18)), (8, .c (.l api_Note.enc vr18)), (13, .c (.nilp)), (14, .i vr), (15, .c (.nilp)), (16, .i 1)]) 0

theorem z402 (vr4 : List api_Letter) (vr18 : List api_Note) (vr : Int) {r} (hF : z399 vr = some r) : Awp prog 0 141 (cL (cL (cR (cR (cR (cR (cR (cR (cR (cR (cR (cR (cB f8))))))))))))) (Out 0 nrm (z401 vr4 vr18 vr) r) (z400 vr4 vr18 vr) := by
  unfold z399 at hF
  refine cE hF (fun h11 hF => ?_) fun h11 hF => ?_
  · refine awp_region (aR 1 (aB h11 (aR 18 (aE ?_))))
    exact oO hF [] [] rfl
  · refine cE hF (fun h12 hF => ?_) fun h12 hF => ?_
    · refine awp_region (aR 1 (aB h11 (aR 2 (aB h12 (aR 15 (aE ?_))))))
      exact oO hF [] [] rfl
    · refine awp_region (aR 1 (aB h11 (aR 2 (aB h12 (aR 15 (aE ?_))))))
      exact oO hF [] [] rfl

def z405 (vr4 : List api_Letter) (vr18 : List api_Note) (vr : Int) : Unit → St
  | _ => Mem.st ⟨[], [(0, [.i 5, .nil, .i 0])]⟩ (tl [(5, .c (.l api_Letter.enc vr4)), (6, .c (.l api_Letter.enc vr4)), (7, .c (.l api_Note.enc vr18)), (8, .c (.l api_Note.enc vr18)), (13, .c (.nilp)), (15, .c (.box 0 0)), (78, .b true)]) 1

def z404 (vr4 : List api_Letter) (vr18 : List api_Note) (vr : Int) : St := Mem.st ⟨[], [(0, [.i 5, .nil, .i 0])]⟩ (tl [(5, .c (.l api_Letter.enc vr4)), (6, .c (.l api_Letter.enc vr4)), (7, .c (.l api_Note.enc vr18)), (8, .c (.l api_Note.enc vr18)), (13, .c (.nilp)), (14, .i vr), (15, .c (.box 0 0)), (16, .i 0)]) 1

theorem z406 (vr4 : List api_Letter) (vr18 : List api_Note) (vr : Int) {r} (hF : z403 vr = some r) : Awp prog 0 141 (cL (cL (cR (cR (cR (cR (cR (cR (cR (cR (cR (cR (cB f8))))))))))))) (Out 0 nrm (z405 vr4 vr18 vr) r) (z404 vr4 vr18 vr) := by
  unfold z403 at hF
  refine cE hF (fun h14 hF => ?_) fun h14 hF => ?_
  · refine awp_region (aR 1 (aB h14 (aR 18 (aE ?_))))
    exact oO hF [] [] rfl
  · refine cE hF (fun h15 hF => ?_) fun h15 hF => ?_
    · refine awp_region (aR 1 (aB h14 (aR 2 (aB h15 (aR 15 (aE ?_))))))
      exact oO hF [] [] rfl
    · refine awp_region (aR 1 (aB h14 (aR 2 (aB h15 (aR 15 (aE ?_))))))
      exact oO hF [] [] rfl

def z409 (vr4 : List api_Letter) (vr18 : List api_Note) : Unit → St
  | _ => Mem.st ⟨[], [(0, [.i 5, .i 10, .i 2, .i 5, .mapp 1, .i 0]), (1, [.mapc .str true (List.map (encM D.str api_Note.enc) ([] : List (List UInt8 × api_Note)))])]⟩ (tl [(5, .c (.l api_Letter.enc vr4)), (6, .c (.l api_Letter.enc vr4)), (7, .c (.l api_Note.enc vr18)), (8, .c (.l api_Note.enc vr18)), (13, .c (.box 0 0)), (15, .c (.nilp)), (78, .b true)]) 2

def z408 (vr4 : List api_Letter) (vr18 : List api_Note) : St := Mem.st ⟨[], [(0, [.i 5, .i 10, .i 2, .i 5, .mapp 1, .i 0]), (1, [.mapc .str true (List.map (encM D.str api_Note.enc) ([] : List (List UInt8 × api_Note)))])]⟩ (tl [(5, .c (.l api_Letter.enc vr4)), (6, .c (.l api_Letter.enc vr4)), (7, .c (.l api_Note.enc vr18)), (8, .c (.l api_Note.enc vr18)), (13, .c (.box 0 0)), (14, .i 0), (15, .c (.nilp)), (16, .i 1)]) 2

theorem z410 (vr4 : List api_Letter) (vr18 : List api_Note) {r} (hF : z407  = some r) : Awp prog 0 141 (cL (cL (cR (cR (cR (cR (cR (cR (cR (cR (cR (cR (cB f8))))))))))))) (Out 0 nrm (z409 vr4 vr18) r) (z408 vr4 vr18) := by
  unfold z407 at hF
  refine cE hF (fun h18 hF => ?_) fun h18 hF => ?_
  · refine awp_region (aR 1 (aB h18 (aR 18 (aE ?_))))
    exact oO hF [] [] rfl
  · refine cE hF (fun h19 hF => ?_) fun h19 hF => ?_
    · refine awp_region (aR 1 (aB h18 (aR 2 (aB h19 (aR 15 (aE ?_))))))
      exact oO hF [] [] rfl
    · refine awp_region (aR 1 (aB h18 (aR 2 (aB h19 (aR 15 (aE ?_))))))
      exact oO hF [] [] rfl

def z413 (vr4 : List api_Letter) (vr18 : List api_Note) : ((List (List UInt8 × api_Note)) × Bool) → St
  | (vm, vx) => Mem.st ⟨[], [(0, [.i 5, .i 10, .i 2, .i 5, .mapp 1, .i 0]), (1, [.mapc .str true (List.map (encM D.str api_Note.enc) vm)]), (2, [.i 5, .nil, .i 0])]⟩ (tl [(5, .c (.l api_Letter.enc vr4)), (6, .c (.l api_Letter.enc vr4)), (7, .c (.l api_Note.enc vr18)), (8, .c (.l api_Note.enc vr18)), (13, .c (.box 0 0)), (15, .c (.box 2 0)), (78, .b vx)]) 3

def z412 (vr4 : List api_Letter) (vr18 : List api_Note) : St := Mem.st ⟨[], [(0, [.i 5, .i 10, .i 2, .i 5, .mapp 1, .i 0]), (1, [.mapc .str true (List.map (encM D.str api_Note.enc) ([] : List (List UInt8 × api_Note)))]), (2, [.i 5, .nil, .i 0])]⟩ (tl [(5, .c (.l api_Letter.enc vr4)), (6, .c (.l api_Letter.enc vr4)), (7, .c (.l api_Note.enc vr18)), (8, .c (.l api_Note.enc vr18)), (13, .c (.box 0 0)), (14, .i 0), (15, .c (.box 2 0)), (16, .i 0)]) 3

theorem z414 (vr4 : List api_Letter) (vr18 : List api_Note) {r} (hF : z411  = some r) : Awp prog 0 141 (cL (cL (cR (cR (cR (cR (cR (cR (cR (cR (cR (cR (cB f8))))))))))))) (Out 0 nrm (z413 vr4 vr18) r) (z412 vr4 vr18) := by
  unfold z411 at hF
  refine cE hF (fun h21 hF => ?_) fun h21 hF => ?_
  · refine awp_region (aR 1 (aB h21 (aR 18 (aE ?_))))
    exact oO hF [] [] rfl
  · refine bE hF fun x h22 hF => ?_
    rcases x with vr4_2 | vm2
    · refine awp_region (aR 1 (aB h21 (aR 2 (aB h21 (aR 12 (aC (z286 h22) [] [] [] (aR 2 (aE ?_))))))))
      exact oO hF [] [] rfl
    · refine awp_region (aR 1 (aB h21 (aR 2 (aB h21 (aR 12 (aC (z286 h22) [] [] [] (aB h21 (aR 1 (aE ?_)))))))))
      exact oO hF [(1, 17005)] [] rfl

def z417 (vr4 : List api_Letter) (vr18 : List api_Note) (vm1 : List (List UInt8 × api_Note)) : ((List (List UInt8 × api_Note)) × (List api_Note)) → St
  | (vm4, vx2) => Mem.st ⟨[(3, ⟨65, 9, List.map api_Note.enc vx2⟩)], [(0, [.i 5, .i 10, .i 2, .i 5, .mapp 1, .i 0]), (1, [.mapc .str true (List.map (encM D.str api_Note.enc) vm4)]), (2, [.i 5, .nil, .i 0])]⟩ (tl [(5, .c (.l api_Letter.enc vr4)), (6, .c (.l api_Letter.enc vr4)), (7, .c (.l api_Note.enc vr18)), (8, .c (.l api_Note.enc vr18)), (13, .c (.box 0 0)), (15, .c (.box 2 0)), (17, .c (.own 3 none))]) 4

def z416 (vr4 : List api_Letter) (vr18 : List api_Note) (vm1 : List (List UInt8 × api_Note)) : St := Mem.st ⟨[], [(0, [.i 5, .i 10, .i 2, .i 5, .mapp 1, .i 0]), (1, [.mapc .str true (List.map (encM D.str api_Note.enc) vm1)]), (2, [.i 5, .nil, .i 0])]⟩ (tl [(5, .c (.l api_Letter.enc vr4)), (6, .c (.l api_Letter.enc vr4)), (7, .c (.l api_Note.enc vr18)), (8, .c (.l api_Note.enc vr18)), (13, .c (.box 0 0)), (15, .c (.box 2 0))]) 3

theorem z418 (vr4 : List api_Letter) (vr18 : List api_Note) (vm1 : List (List UInt8 × api_Note)) {r} (hF : z415 vm1 = some r) : Awp prog 0 141 (cL (cR (cR (cR (cR (cR (cR (cR (cR (cR (cR (cR (cB f8))))))))))))) (Out 0 nrm (z417 vr4 vr18 vm1) r) (z416 vr4 vr18 vm1) := by
  unfold z415 at hF
  refine bE hF fun x h25 hF => ?_
  rcases x with vr1 | ⟨vm3, vr2_2⟩
  · refine awp_region (aR 1 (aC (z278 h25) [] [] [] (aR 5 (aE ?_))))
    exact oO hF [] [3] rfl
  · refine awp_region (aR 1 (aC (z278 h25) [] [] [] (aR 5 (aE ?_))))
    exact oO hF [(1, 1005), (3, 1006)] [] rfl

def z421 (vr4 : List api_Letter) (vr18 : List api_Note) (vm4_1 : List (List UInt8 × api_Note)) : ((List (List UInt8 × api_Note)) × Int × (List api_Letter)) → St
  | (vm5, vx3, vx4) => Mem.st ⟨[(3, ⟨40, 6, List.map api_Letter.enc vx4⟩)], [(0, [.i 5, .i 10, .i 2, .i 5, .mapp 1, .i vx3]), (1, [.mapc .str true (List.map (encM D.str api_Note.enc) vm5)]), (2, [.i 5, .nil, .i 0])]⟩ (tl [(5, .c (.l api_Letter.enc vr4)), (6, .c (.l api_Letter.enc vr4)), (7, .c (.l api_Note.enc vr18)), (8, .c (.l api_Note.enc vr18)), (13, .c (.box 0 0)), (15, .c (.box 2 0)), (19, .c (.own 3 none))]) 4

def z420 (vr4 : List api_Letter) (vr18 : List api_Note) (vm4_1 : List (List UInt8 × api_Note)) : St := Mem.st ⟨[], [(0, [.i 5, .i 10, .i 2, .i 5, .mapp 1, .i 0]), (1, [.mapc .str true (List.map (encM D.str api_Note.enc) vm4_1)]), (2, [.i 5, .nil, .i 0])]⟩ (tl [(5, .c (.l api_Letter.enc vr4)), (6, .c (.l api_Letter.enc vr4)), (7, .c (.l api_Note.enc vr18)), (8, .c (.l api_Note.enc vr18)), (13, .c (.box 0 0)), (15, .c (.box 2 0))]) 3

theorem z422 (vr4 : List api_Letter) (vr18 : List api_Note) (vm4_1 : List (List UInt8 × api_Note)) {r} (hF : z419 vm4_1 = some r) : Awp prog 0 141 (cL (cR (cR (cR (cR (cR (cR (cR (cR (cR (cR (cR (cR (cR (cB f8))))))))))))))) (Out 0 nrm (z421 vr4 vr18 vm4_1) r) (z420 vr4 vr18 vm4_1) := by
  unfold z419 at hF
  refine bE hF fun x h29 hF => ?_
  rcases x with vr3_1 | ⟨vm2_1, vr4_3⟩
  · refine awp_region (aR 1 (aC (z254 h29) [] [] [] (aR 5 (aE ?_))))
    exact oO hF [] [3] rfl
  · refine awp_region (aR 1 (aC (z254 h29) [] [] [] (aR 5 (aE ?_))))
    exact oO hF [(1, 1005), (3, 1006)] [] rfl

def z425 (vr4 : List api_Letter) (vr18 : List api_Note) (vm5_1 : List (List UInt8 × api_Note)) (vx3_1 : Int) : (Int × (List api_Note)) → St
  | (vx5, vx6) => Mem.st ⟨[], [(0, [.i 5, .nil, .i 0])]⟩ (tl [(5, .c (.l api_Letter.enc vr4)), (6, .c (.l api_Letter.enc vr4)), (7, .c (.l api_Note.enc vr18)), (8, .c (.l api_Note.enc vr18)), (14, .i vx5), (15, .c (.box 0 0)), (21, .c (.l api_Note.enc vx6))]) 1

def z424 (vr4 : List api_Letter) (vr18 : List api_Note) (vm5_1 : List (List UInt8 × api_Note)) (vx3_1 : Int) : St := Mem.st ⟨[], [(0, [.i 5, .i 10, .i 2, .i 5, .mapp 1, .i vx3_1]), (1, [.mapc .str true (List.map (encM D.str api_Note.enc) vm5_1)]), (2, [.i 5, .nil, .i 0])]⟩ (tl [(5, .c (.l api_Letter.enc vr4)), (6, .c (.l api_Letter.enc vr4)), (7, .c (.l api_Note.enc vr18)), (8, .c (.l api_Note.enc vr18)), (13, .c (.box 0 0)), (15, .c (.box 2 0))]) 3

theorem z426 (vr4 : List api_Letter) (vr18 : List api_Note) (vm5_1 : List (List UInt8 × api_Note)) (vx3_1 : Int) {r} (hF : z423 vm5_1 vx3_1 = some r) : Awp prog 0 141 (cL (cR (cR (cR (cR (cR (cR (cR (cR (cR (cR (cR (cR (cR (cR (cR (cB f8))))))))))))))))) (Out 0 nrm (z425 vr4 vr18 vm5_1 vx3_1) r) (z424 vr4 vr18 vm5_1 vx3_1) := by
  unfold z423 at hF
  refine bE hF fun x h33 hF => ?_
  rcases x with vr1_1 | ⟨vm6, vr2_3⟩
  · refine awp_region (aR 1 (aC (z271 h33) [] [] [] (aR 5 (aE ?_))))
    exact oO hF [(0, 2)] [] rfl
  · refine awp_region (aR 1 (aC (z271 h33) [] [] [] (aR 5 (aE ?_))))
    exact oO hF [(0, 2)] [] rfl

def z429 (vr4 : List api_Letter) (vr18 : List api_Note) (vx5_1 : Int) (vx6_1 : List api_Note) (vs : List z386) (vs1 : Int) : Bool → St
  | vx7 => Mem.st ⟨[], []⟩ (tl [(2, .b vx7)]) 0

def z428 (vr4 : List api_Letter) (vr18 : List api_Note) (vx5_1 : Int) (vx6_1 : List api_Note) (vs : List z386) (vs1 : Int) : St := Mem.st ⟨[], [(0, [.i 5, .l z386.enc vs, .i vs1])]⟩ (tl [(5, .c (.l api_Letter.enc vr4)), (6, .c (.l api_Letter.enc vr4)), (7, .c (.l api_Note.enc vr18)), (8, .c (.l api_Note.enc vr18)), (14, .i vx5_1), (15, .c (.box 0 0)), (21, .c (.l api_Note.enc vx6_1))]) 1

theorem z430 (vr4 : List api_Letter) (vr18 : List api_Note) (vx5_1 : Int) (vx6_1 : List api_Note) (vs : List z386) (vs1 : Int) {r} (hF : z427 vr4 vr18 vx5_1 vx6_1 vs vs1 = some r) : Awp prog 0 141 (cL (cR (cR (cR (cR (cR (cR (cR (cR (cR (cR (cR (cR (cR (cR (cR (cR (cR (cR (cB f8)))))))))))))))))))) (Out 0 nrm (z429 vr4 vr18 vx5_1 vx6_1 vs vs1) r) (z428 vr4 vr18 vx5_1 vx6_1 vs vs1) := by
  unfold z427 at hF
  refine cE hF (fun h39 hF => ?_) fun h39 hF => ?_
  · refine cE hF (fun h40 hF => ?_) fun h40 hF => ?_
    · refine bE hF fun vy h41 hF => cE hF (fun h42 hF => ?_) fun h42 hF => ?_
      · refine bE hF fun vr8 h43 hF => bE hF fun vr9 h44 hF => cE hF (fun h45 hF => ?_) fun h45 hF => ?_
        · refine bE hF fun vr10 h46 hF => cE hF (fun h47 hF => ?_) fun h47 hF => ?_
          · refine bE hF fun vr11 h48 hF => cE hF (fun h49 hF => ?_) fun h49 hF => ?_
            · refine bE hF fun vr9_1 h50 hF => awp_region (aR 1 (aB h39 (aR 2 (aL api_Note.enc vx6_1 (aB h40 (aR 3 (aX (x_idx api_Note.enc h41) (aR 3 (aB h42 (aR 3 (aC (z228 h43) [] [] [] (aR 1 ?_))))))))))))
              refine aCb (z758 h44) [] [] [17002, 18001] h45 ?_
              refine aR 4 (aCb (z734 h46) [] [] [] h47 ?_)
              refine aR 4 (aCb (z742 h48) [] [] [] h49 ?_)
              refine aR 2 (aC (z441 h50) [] [] [] (aR 2 (aE ?_)))
              exact oO hF [] [] rfl
            · refine awp_region (aR 1 (aB h39 (aR 2 (aL api_Note.enc vx6_1 (aB h40 (aR 3 (aX (x_idx api_Note.enc h41) (aR 3 (aB h42 (aR 3 (aC (z228 h43) [] [] [] (aR 1 (aCb (z758 h44) [] [] [17002, 18001] h45 ?_)))))))))))))
              refine aR 4 (aCb (z734 h46) [] [] [] h47 ?_)
              refine aR 4 (aCb (z742 h48) [] [] [] h49 ?_)
              refine aR 5 (aE ?_)
              exact oO hF [] [] rfl
          · refine awp_region (aR 1 (aB h39 (aR 2 (aL api_Note.enc vx6_1 (aB h40 (aR 3 (aX (x_idx api_Note.enc h41) (aR 3 (aB h42 (aR 3 (aC (z228 h43) [] [] [] (aR 1 (aCb (z758 h44) [] [] [17002, 18001] h45 ?_)))))))))))))
            refine aR 4 (aCb (z734 h46) [] [] [] h47 ?_)
            refine aR 10 (aE ?_)
            exact oO hF [] [] rfl
        · refine awp_region (aR 1 (aB h39 (aR 2 (aL api_Note.enc vx6_1 (aB h40 (aR 3 (aX (x_idx api_Note.enc h41) (aR 3 (aB h42 (aR 3 (aC (z228 h43) [] [] [] (aR 1 (aCb (z758 h44) [] [] [17002, 18001] h45 ?_)))))))))))))
          refine aR 15 (aE ?_)
          exact oO hF [] [] rfl
      · refine awp_region (aR 1 (aB h39 (aR 2 (aL api_Note.enc vx6_1 (aB h40 (aR 3 (aX (x_idx api_Note.enc h41) (aR 3 (aB h42 (aR 21 (aE ?_)))))))))))
        exact oO hF [] [] rfl
    · refine awp_region (aR 1 (aB h39 (aR 2 (aL api_Note.enc vx6_1 (aB h40 (aR 29 (aE ?_)))))))
      exact oO hF [] [] rfl
  · refine awp_region (aR 1 (aB h39 (aR 33 (aE ?_))))
    exact oO hF [] [] rfl

def z398 (qx : List Int) (r : Bool) : TV × Mem := (.b r, ⟨[], []⟩)

theorem fleetkeep2_CommandsStay_ok {qx : List Int} {r} (hF : fleetkeep2_CommandsStay qx = some r) : Holds prog 8 [.c (.l (encI .i64) qx)] ⟨[], []⟩ (Is (z398 qx r)) := by
  unfold fleetkeep2_CommandsStay at hF
  refine hW f8 141 0 0 ?_
  refine sR 1 (sR 8 (awp_seq (bE hF fun x h1 hF => ?_)))
  obtain ⟨vs2, vr4⟩ := x
  refine awp_region (aR 1 (aC (z496 h1) [(0, 3000)] [] [] (aR 1 (aC (z496 h1) [(0, 6000)] [] [] (aR 2 (aE ?_))))))
  refine awp_to (oT (m := ⟨[], [(0, [.l (encI .i64) vs2.L, .i vs2.at_]), (1, [.l (encI .i64) vs2.L, .i vs2.at_])]⟩) (ts := [(3, .c (.box 0 0)), (4, .c (.box 1 0)), (5, .c (.l api_Letter.enc vr4)), (6, .c (.l api_Letter.enc vr4))]) (nx := 2) [(0, 3000), (1, 6000)] []) ?_
  refine awp_seq (bE hF fun x h2 hF => ?_)
  obtain ⟨vs8, vr18⟩ := x
  refine awp_region (aR 1 (aC (z511 h2) [] [] [] (aR 1 (aC (z511 h2) [(0, 1)] [] [] (aR 2 (aE ?_))))))
  refine awp_to (oT (m := ⟨[], []⟩) (ts := [(5, .c (.l api_Letter.enc vr4)), (6, .c (.l api_Letter.enc vr4)), (7, .c (.l api_Note.enc vr18)), (8, .c (.l api_Note.enc vr18))]) (nx := 0) [] []) ?_
  refine awp_seq (bE hF fun x h3 hF => ?_)
  obtain ⟨vr2, vr4_1⟩ := x
  refine awp_region (aR 1 (aC (z377 h3) [] [] [] (aR 5 (aE ?_))))
  refine awp_seq (bE hF fun vl2 h4 hF => gE hF fun h5 hF => ?_)
  refine awp_region (aR 1 (aCp (z448 h4) ⟨⟨rfl, rfl, pin1 h5⟩, trivial⟩ [(0, 1000)] [] [] ?_))
  refine aE ?_
  refine awp_seq (bE hF fun x h6 hF => ?_)
  obtain ⟨vr2_1, vr3⟩ := x
  refine awp_region (aR 1 (aC (z236 h6) [] [] [] (aR 5 (aE ?_))))
  refine awp_seq (bE hF fun vl2_1 h7 hF => gE hF fun h8 hF => ?_)
  refine awp_region (aR 1 (aCp (z456 h7) ⟨⟨rfl, rfl, pin1 h8⟩, trivial⟩ [(0, 10000)] [] [] ?_))
  refine aE ?_
  refine awp_seq (bE hF fun x h9 hF => ?_)
  rcases x with vr | _
  · refine awp_region (aR 1 (aC (z251 h9) [] [] [] (aR 5 (aE ?_))))
    refine awp_seq (bE hF fun x h10 hF => ?_)
    rcases x with _ | _
    · refine awp_region (aC (z249 h10) [] [] [] (aR 5 (aE ?_)))
      refine awp_seq (awp_seq (awp_to (st' := z400 vr4 vr18 vr) (oT [] []) ?_))
      refine bE hF fun _ h13 hF => awp_sub (z402 vr4 vr18 vr h13) ?_
      exact tT rfl (sR 1 (awp_ret (oF hF [] [])))
    · refine awp_region (aC (z249 h10) [] [] [] (aR 5 (aE ?_)))
      refine awp_seq (awp_seq (awp_to (st' := z404 vr4 vr18 vr) (oT [(0, 25000)] []) ?_))
      refine bE hF fun _ h16 hF => awp_sub (z406 vr4 vr18 vr h16) ?_
      exact tT rfl (sR 1 (awp_ret (oF hF [] [])))
  · refine awp_region (aR 1 (aC (z251 h9) [] [] [] (aR 5 (aE ?_))))
    refine awp_seq (bE hF fun x h17 hF => ?_)
    rcases x with _ | _
    · refine awp_region (aC (z249 h17) [] [] [] (aR 5 (aE ?_)))
      refine awp_seq (awp_seq (awp_to (st' := z408 vr4 vr18) (oT [(0, 19000), (1, 19001)] []) ?_))
      refine bE hF fun _ h20 hF => awp_sub (z410 vr4 vr18 h20) ?_
      exact tT rfl (sR 1 (awp_ret (oF hF [] [])))
    · refine awp_region (aC (z249 h17) [] [] [] (aR 5 (aE ?_)))
      refine awp_seq (awp_seq (awp_to (st' := z412 vr4 vr18) (oT [(0, 19000), (1, 19001), (2, 25000)] []) ?_))
      refine bE hF fun x h23 hF => ?_
      obtain ⟨vm1, vx1⟩ := x
      refine awp_sub (z414 vr4 vr18 h23) ?_
      refine cE hF (fun h24 hF => ?_) fun h24 hF => ?_
      · exact tT h24 (sR 1 (awp_ret (oF hF [] [])))
      · refine tF h24 (awp_skip (awp_seq (awp_to (st' := z416 vr4 vr18 vm1) (oT [] []) ?_)))
        refine bE hF fun x h26 hF => ?_
        obtain ⟨vm4_1, vx2_1⟩ := x
        refine awp_sub (z418 vr4 vr18 vm1 h26) ?_
        refine awp_seq (bE hF fun vl2_2 h27 hF => gE hF fun h28 hF => ?_)
        refine awp_region (aR 1 (aCp (z456 h27) ⟨⟨rfl, rfl, pin1 h28⟩, trivial⟩ [(0, 3)] [] [] ?_))
        refine aE ?_
        refine awp_seq (awp_to (st' := z420 vr4 vr18 vm4_1) (oT [] []) ?_)
        refine bE hF fun x h30 hF => ?_
        obtain ⟨vm5_1, vx3_1, vx4_1⟩ := x
        refine awp_sub (z422 vr4 vr18 vm4_1 h30) ?_
        refine awp_seq (bE hF fun vl2_3 h31 hF => gE hF fun h32 hF => ?_)
        refine awp_region (aR 1 (aCp (z448 h31) ⟨⟨rfl, rfl, pin1 h32⟩, trivial⟩ [(0, 3)] [] [] ?_))
        refine aE ?_
        refine awp_seq (awp_to (st' := z424 vr4 vr18 vm5_1 vx3_1) (oT [] []) ?_)
        refine bE hF fun x h34 hF => ?_
        obtain ⟨vx5_1, vx6_1⟩ := x
        refine awp_sub (z426 vr4 vr18 vm5_1 vx3_1 h34) ?_
        refine awp_seq (bE hF fun x h35 hF => ?_)
        obtain ⟨vs, vs1, vr5, vr6⟩ := x
        refine awp_region (aR 2 (aC (z207 h35) [] [] [] (aR 3 (aE ?_))))
        refine awp_seq (bE hF fun vr7 h36 hF => bE hF fun vl2_4 h37 hF => gE hF fun h38 hF => ?_)
        refine awp_region (aR 1 (aC (z228 h36) [] [] [] (aCp (z464 h37) ⟨⟨rfl, rfl, pin1 h38⟩, trivial⟩ [(0, 7002)] [] [] ?_)))
        refine aE ?_
        refine awp_seq (awp_to (st' := z428 vr4 vr18 vx5_1 vx6_1 vs vs1) (oT [] []) ?_)
        refine bE hF fun vx7_1 h51 hF => awp_sub (z430 vr4 vr18 vx5_1 vx6_1 vs vs1 h51) ?_
        exact awp_ret (oF hF [] [])

end Go.Eng
