/-
The code of the Go functions that the law SeriesFilled reaches does what the plain functions say, part 1.
-/
import Derived.Test.YtjfpceigbgnjgaaGenF

import Derived.Test.YtjfpceigbgnjgaaProg

import Derived.KernelRfl

namespace Go.Eng

open Go Go.Proofs.Try

set_option linter.unusedVariables false

set_option maxRecDepth 20000

set_option maxHeartbeats 0

def ti3 : TI := ⟨1, 8, [.d (.int .i64 0)], false, .int .i64⟩

def ti5 : TI := ⟨1, 1, [.d (.int .u8 0)], false, .int .u8⟩

def ti9 : TI := ⟨1, 16, [.d (.str [])], false, .str⟩

def ti22 : TI := ⟨1, 24, [.nil], false, .slice 3⟩

def ti25 : TI := ⟨2, 32, [.nil, .d (.int .i64 0)], true, .struct [(0, 22), (1, 3)]⟩

def ti26 : TI := ⟨1, 24, [.nil], false, .slice 42⟩

def ti29 : TI := ⟨2, 16, [.d (.int .i64 0), .d (.int .i64 0)], true, .struct [(0, 3), (1, 3)]⟩

def ti33 : TI := ⟨1, 8, [.d (.int .i64 0)], false, .int .i64⟩

def ti42 : TI := ⟨4, 48, [.d (.str []), .d (.str []), .d (.int .i64 0), .d (.int .i64 0)], true, .struct [(0, 9), (1, 9), (2, 3), (3, 3)]⟩

def ti45 : TI := ⟨1, 24, [.nil], false, .slice 5⟩

def ti159 : TI := ⟨1, 24, [.nil], false, .slice 33⟩

def ti164 : TI := ⟨1, 24, [.nil], false, .slice 9⟩

def ti165 : TI := ⟨1, 8, [.d (.int .u64 0)], false, .int .u64⟩

def Γ : Types := [(3, ti3), (5, ti5), (9, ti9), (22, ti22), (25, ti25), (26, ti26), (29, ti29), (33, ti33), (42, ti42), (45, ti45), (159, ti159), (164, ti164), (165, ti165)]

theorem hΓ : TypesOk prog Γ := typesOk_of (by kernel_rfl)

theorem hm : prog.follows .mixedOrders = true := by kernel_rfl

/-! ### beaconfleet/fleetmake.Below -/
def fleetmake_Below_x1_k : Int → AEx
  | _ => .normal

def fleetmake_Below_x1_S (qx : Int) (qn : Int) : Int → St
  | vx => Mem.st ⟨[], []⟩ (tl [(0, .v (.one (.d (.int .i64 vx))))]) 0

theorem fleetmake_Below_x1_ok (qx : Int) (qn : Int) (r : Int) (hF : fleetmake_Below_x1 qx qn = some r) : Awp prog 0 16 (cL (cR (cR (cR (cB f191))))) (Out 0 fleetmake_Below_x1_k (fleetmake_Below_x1_S qx qn) r) (Mem.st ⟨[], []⟩ (tl [(0, .v (.one (.d (.int .i64 (qx.tmod qn))))), (1, .v (.one (.d (.int .i64 qn))))]) 0) := by
  unfold fleetmake_Below_x1 at hF
  refine awp_seq ?_
  refine awp_region' 0 2000 (by kernel_rfl) (by kernel_rfl) ?_
  refine aops_eff hΓ (.v (.one (.d (.int .i64 (qx.tmod qn))))) [] [] (by kernel_rfl) ?_
  refine aops_eff hΓ (.v (.one (.d (.bool (decide ((qx.tmod qn) < 0)))))) [] [] (by kernel_rfl) ?_
  refine aops_nil ?_
  rcases cond_or hF with ⟨h3, hF⟩ | ⟨h3, hF⟩
  · refine awp_true (by kernel_rfl) h3 ?_
    refine awp_region' 2000 6000 (by kernel_rfl) (by kernel_rfl) ?_
    refine aops_eff hΓ (.v (.one (.d (.int .i64 (qx.tmod qn))))) [] [] (by kernel_rfl) ?_
    refine aops_eff hΓ (.v (.one (.d (.int .i64 qn)))) [] [] (by kernel_rfl) ?_
    refine aops_eff hΓ (.v (.one (.d (.int .i64 (IntKind.wrap .i64 ((qx.tmod qn) + qn)))))) [] [] (by kernel_rfl) ?_
    refine aops_eff hΓ (.v (.one (.d (.int .i64 (IntKind.wrap .i64 ((qx.tmod qn) + qn)))))) [] [] (by kernel_rfl) ?_
    refine aops_nil ?_
    obtain rfl := some_eq hF
    exact out_intro rfl (to_see [] [] ⟨[], []⟩ [(0, .v (.one (.d (.int .i64 (IntKind.wrap .i64 ((qx.tmod qn) + qn))))))] 0 (by kernel_rfl) (by kernel_rfl) (lowc_of (by kernel_rfl)) trivial trivial (⟨t_same (by kernel_rfl) (by kernel_rfl), trivial⟩))
  · refine awp_false (by kernel_rfl) h3 ?_
    refine awp_skip ?_
    obtain rfl := some_eq hF
    exact out_intro rfl (to_see [] [] ⟨[], []⟩ [(0, .v (.one (.d (.int .i64 (qx.tmod qn)))))] 0 (by kernel_rfl) (by kernel_rfl) (lowc_of (by kernel_rfl)) trivial trivial (⟨t_same (by kernel_rfl) (by kernel_rfl), trivial⟩))

theorem fleetmake_Below_ok (qx : Int) (qn : Int) (r : Int) (hF : fleetmake_Below qx qn = some r) : Holds prog 191 [.v (.one (.d (.int .i64 qx))), .v (.one (.d (.int .i64 qn)))] ⟨[], []⟩ (fun tv m => tv = .v (.one (.d (.int .i64 r))) ∧ m = ⟨[], []⟩) := by
  unfold fleetmake_Below at hF
  refine holds_of_awp hΓ (fn := f191) (c := cB f191) (A := 0) (nx := 0) (by kernel_rfl) (by kernel_rfl) (by kernel_rfl) (by kernel_rfl) (by kernel_rfl) (by kernel_rfl) (lowc_of (by kernel_rfl)) ?_
  show Awp prog 0 16 (cB f191) _ _
  refine awp_seq ?_
  refine awp_region' 0 1000 (by kernel_rfl) (by kernel_rfl) ?_
  refine aops_eff hΓ (.v (.one (.d (.int .i64 0)))) [] [] (by kernel_rfl) ?_
  refine aops_nil ?_
  refine awp_seq ?_
  refine awp_seq ?_
  refine awp_region' 1000 3000 (by kernel_rfl) (by kernel_rfl) ?_
  refine aops_eff hΓ (.v (.one (.d (.int .i64 qn)))) [] [] (by kernel_rfl) ?_
  refine aops_eff hΓ (.v (.one (.d (.bool (decide (qn < 1)))))) [] [] (by kernel_rfl) ?_
  refine aops_nil ?_
  rcases cond_or hF with ⟨h1, hF⟩ | ⟨h1, hF⟩
  · refine awp_true (by kernel_rfl) h1 ?_
    refine awp_seq ?_
    refine awp_region' 3000 4000 (by kernel_rfl) (by kernel_rfl) ?_
    refine aops_eff hΓ (.v (.one (.d (.int .i64 0)))) [] [] (by kernel_rfl) ?_
    refine aops_nil ?_
    refine awp_ret ?_
    obtain rfl := some_eq hF
    exact fin_intro (xs := [.one (.d (.int .i64 0))]) (m' := ⟨[], []⟩) (tv := (.v (.one (.d (.int .i64 0))))) (rl := []) (nl := []) (by kernel_rfl) (by kernel_rfl) (by kernel_rfl) (sees_of (by kernel_rfl) trivial trivial) (t_same (by kernel_rfl) (by kernel_rfl)) ⟨rfl, rfl⟩
  · refine awp_false (by kernel_rfl) h1 ?_
    refine awp_skip ?_
    refine awp_seq ?_
    obtain ⟨h2, hF⟩ := gd_some hF
    refine awp_region' 3000 7000 (by kernel_rfl) (by kernel_rfl) ?_
    refine aops_eff hΓ (.v (.one (.d (.int .i64 qx)))) [] [] (by kernel_rfl) ?_
    refine aops_eff hΓ (.v (.one (.d (.int .i64 qn)))) [] [] (by kernel_rfl) ?_
    refine aops_eff hΓ (.v (.one (.d (.int .i64 (qx.tmod qn))))) [] [] (opx_of (by kernel_rfl) (by kernel_rfl) (eff_rem (ti := ti3) (by kernel_rfl) (by kernel_rfl) (by kernel_rfl) (notB h2))) ?_
    refine aops_eff hΓ (.v (.one (.d (.int .i64 (qx.tmod qn))))) [] [] (by kernel_rfl) ?_
    refine aops_nil ?_
    refine awp_seq ?_
    refine awp_to (to_see [] [] ⟨[], []⟩ [(0, .v (.one (.d (.int .i64 (qx.tmod qn))))), (1, .v (.one (.d (.int .i64 qn))))] 0 (by kernel_rfl) (by kernel_rfl) (lowc_of (by kernel_rfl)) trivial trivial (⟨t_same (by kernel_rfl) (by kernel_rfl), t_same (by kernel_rfl) (by kernel_rfl), trivial⟩)) ?_
    obtain ⟨vx1, h4, hF⟩ := bind_some hF
    refine awp_sub (fleetmake_Below_x1_ok qx qn _ h4) ?_
    refine awp_seq ?_
    refine awp_region' 0 2000 (by kernel_rfl) (by kernel_rfl) ?_
    refine aops_eff hΓ (.v (.one (.d (.int .i64 vx1)))) [] [] (by kernel_rfl) ?_
    refine aops_eff hΓ (.v (.one (.d (.int .i64 vx1)))) [] [] (by kernel_rfl) ?_
    refine aops_nil ?_
    refine awp_ret ?_
    obtain rfl := some_eq hF
    exact fin_intro (xs := [.one (.d (.int .i64 vx1))]) (m' := ⟨[], []⟩) (tv := (.v (.one (.d (.int .i64 vx1))))) (rl := []) (nl := []) (by kernel_rfl) (by kernel_rfl) (by kernel_rfl) (sees_of (by kernel_rfl) trivial trivial) (t_same (by kernel_rfl) (by kernel_rfl)) ⟨rfl, rfl⟩

/-! ### (*beaconfleet/fleetmake.Stream).Next -/
theorem fleetmake_Stream_Next_ok (qs : fleetmake_Stream) (qn : Int) (r : Int) (hF : fleetmake_Stream_Next qs qn = some r) : Holds prog 89 [.v (.one (.box 0 0)), .v (.one (.d (.int .i64 qn)))] ⟨[], [(0, [.d (.lst (List.map (encI .i64) qs.L)), .d (.int .i64 qs.at_)])]⟩ (fun tv m => tv = .v (.one (.d (.int .i64 r))) ∧ m = ⟨[], [(0, [.d (.lst (List.map (encI .i64) qs.L)), .d (.int .i64 (IntKind.wrap .i64 (qs.at_ + 1)))])]⟩) := by
  unfold fleetmake_Stream_Next at hF
  refine holds_of_awp hΓ (fn := f89) (c := cB f89) (A := 1) (nx := 1) (by kernel_rfl) (by kernel_rfl) (by kernel_rfl) (by kernel_rfl) (by kernel_rfl) (by kernel_rfl) (lowc_of (by kernel_rfl)) ?_
  show Awp prog 1 64 (cB f89) _ _
  refine awp_seq ?_
  refine awp_region' 1 1001 (by kernel_rfl) (by kernel_rfl) ?_
  refine aops_eff hΓ (.v (.one (.d (.int .i64 0)))) [] [] (by kernel_rfl) ?_
  refine aops_nil ?_
  refine awp_seq ?_
  refine awp_region' 1001 9001 (by kernel_rfl) (by kernel_rfl) ?_
  refine aops_eff hΓ (.v (.one (.box 0 0))) [] [] (by kernel_rfl) ?_
  refine aops_eff hΓ (.v (.one (.box 0 0))) [] [] (by kernel_rfl) ?_
  refine aops_eff hΓ (.v (.one (.box 0 1))) [] [] (by kernel_rfl) ?_
  refine aops_eff hΓ (.v (.one (.d (.int .i64 qs.at_)))) [] [] (by kernel_rfl) ?_
  refine aops_eff hΓ (.v (.one (.d (.int .i64 (IntKind.wrap .i64 (qs.at_ + 1)))))) [] [] (by kernel_rfl) ?_
  refine aops_eff hΓ (.v (.one (.box 0 0))) [] [] (by kernel_rfl) ?_
  refine aops_eff hΓ (.v (.one (.box 0 1))) [] [] (by kernel_rfl) ?_
  refine aops_eff hΓ (.undef) [] [(0, some [.d (.lst (List.map (encI .i64) qs.L)), .d (.int .i64 (IntKind.wrap .i64 (qs.at_ + 1)))])] (by kernel_rfl) ?_
  refine aops_nil ?_
  refine awp_seq ?_
  refine awp_seq ?_
  refine awp_region' 9001 15001 (by kernel_rfl) (by kernel_rfl) ?_
  refine aops_eff hΓ (.v (.one (.box 0 0))) [] [] (by kernel_rfl) ?_
  refine aops_eff hΓ (.v (.one (.box 0 0))) [] [] (by kernel_rfl) ?_
  refine aops_eff hΓ (.v (.one (.box 0 0))) [] [] (by kernel_rfl) ?_
  refine aops_eff hΓ (.v (.one (.d (.lst (List.map (encI .i64) qs.L))))) [] [] (by kernel_rfl) ?_
  refine aops_eff hΓ (.v (.one (.d (.int .i64 (qs.L.length : Int))))) [] [] (opx_len (f := (encI .i64)) (l := qs.L) (by kernel_rfl)) ?_
  refine aops_eff hΓ (.v (.one (.d (.bool (decide ((qs.L.length : Int) = 0)))))) [] [] (by kernel_rfl) ?_
  refine aops_nil ?_
  rcases cond_or hF with ⟨h1, hF⟩ | ⟨h1, hF⟩
  · refine awp_true (by kernel_rfl) h1 ?_
    refine awp_seq ?_
    obtain ⟨vr, h2, hF⟩ := bind_some hF
    refine awp_region' 15001 23001 (by kernel_rfl) (by kernel_rfl) ?_
    refine aops_eff hΓ (.v (.one (.box 0 0))) [] [] (by kernel_rfl) ?_
    refine aops_eff hΓ (.v (.one (.box 0 0))) [] [] (by kernel_rfl) ?_
    refine aops_eff hΓ (.v (.one (.box 0 1))) [] [] (by kernel_rfl) ?_
    refine aops_eff hΓ (.v (.one (.d (.int .i64 (IntKind.wrap .i64 (qs.at_ + 1)))))) [] [] (by kernel_rfl) ?_
    refine aops_eff hΓ (.v (.one (.d (.int .i64 (IntKind.wrap .i64 ((IntKind.wrap .i64 (qs.at_ + 1)) * 7919)))))) [] [] (by kernel_rfl) ?_
    refine aops_eff hΓ (.v (.one (.d (.int .i64 qn)))) [] [] (by kernel_rfl) ?_
    refine aops_call (by kernel_rfl) (by kernel_rfl) (does_call (f := (.func 191)) (g := 191) (caps := []) (tvs := [.v (.one (.d (.int .i64 (IntKind.wrap .i64 ((IntKind.wrap .i64 (qs.at_ + 1)) * 7919))))), .v (.one (.d (.int .i64 qn)))]) (al := [.v (.one (.d (.int .i64 (IntKind.wrap .i64 ((IntKind.wrap .i64 (qs.at_ + 1)) * 7919))))), .v (.one (.d (.int .i64 qn)))]) (m := ⟨[], []⟩) (m' := ⟨[], []⟩) (tv := .v (.one (.d (.int .i64 vr)))) (lens := []) rfl (by kernel_rfl) (by kernel_rfl) (sees_of (rl := []) (nl := []) (by kernel_rfl) trivial trivial) (⟨t_same (by kernel_rfl) (by kernel_rfl), t_same (by kernel_rfl) (by kernel_rfl), trivial⟩) (fleetmake_Below_ok _ _ _ h2) (left_of (by kernel_rfl))) (.v (.one (.d (.int .i64 vr)))) [] [] (by kernel_rfl) ?_
    refine aops_eff hΓ (.v (.one (.d (.int .i64 vr)))) [] [] (by kernel_rfl) ?_
    refine aops_nil ?_
    refine awp_ret ?_
    obtain rfl := some_eq hF
    exact fin_intro (xs := [.one (.d (.int .i64 vr))]) (m' := ⟨[], [(0, [.d (.lst (List.map (encI .i64) qs.L)), .d (.int .i64 (IntKind.wrap .i64 (qs.at_ + 1)))])]⟩) (tv := (.v (.one (.d (.int .i64 vr))))) (rl := []) (nl := []) (by kernel_rfl) (by kernel_rfl) (by kernel_rfl) (sees_of (by kernel_rfl) trivial (⟨⟨by kernel_rfl, [.d (.lst (List.map (encI .i64) qs.L)), .d (.int .i64 (IntKind.wrap .i64 (qs.at_ + 1)))], by kernel_rfl, l2_same (by kernel_rfl) (by kernel_rfl)⟩, trivial⟩)) (t_same (by kernel_rfl) (by kernel_rfl)) ⟨rfl, rfl⟩
  · refine awp_false (by kernel_rfl) h1 ?_
    refine awp_skip ?_
    refine awp_seq ?_
    obtain ⟨h3, hF⟩ := gd_some hF
    refine awp_region_any' hm 15001 27001 [(some ⟨.v (.one (.box 0 0)), [], [], []⟩, [0]), (some ⟨.v (.one (.box 0 0)), [], [], []⟩, [0]), (some ⟨.v (.one (.box 0 1)), [], [], []⟩, [0]), (some ⟨.v (.one (.d (.int .i64 (IntKind.wrap .i64 (qs.at_ + 1))))), [], [], []⟩, [0]), (some ⟨.v (.one (.d (.int .i64 (IntKind.wrap .i64 ((IntKind.wrap .i64 (qs.at_ + 1)) - 1))))), [], [], []⟩, []), (some ⟨.v (.one (.box 0 0)), [], [], []⟩, [0]), (some ⟨.v (.one (.box 0 0)), [], [], []⟩, [0]), (some ⟨.v (.one (.box 0 0)), [], [], []⟩, [0]), (some ⟨.v (.one (.d (.lst (List.map (encI .i64) qs.L)))), [], [], []⟩, [0]), (some ⟨.v (.one (.d (.int .i64 (qs.L.length : Int)))), [], [], []⟩, []), (some ⟨.v (.one (.d (.int .i64 ((IntKind.wrap .i64 ((IntKind.wrap .i64 (qs.at_ + 1)) - 1)).tmod (qs.L.length : Int))))), [], [], []⟩, []), (some ⟨.v (.one (.d (.int .i64 ((IntKind.wrap .i64 ((IntKind.wrap .i64 (qs.at_ + 1)) - 1)).tmod (qs.L.length : Int))))), [], [], []⟩, [])] [[], [0], [0, 1], [0, 1, 2], [0, 1, 2, 3], [], [5], [5, 6], [5, 6, 7], [5, 6, 7, 8], [0, 1, 2, 3, 4, 5, 6, 7, 8, 9], [0, 1, 2, 3, 4, 5, 6, 7, 8, 9, 10]] (by kernel_rfl) (by kernel_rfl) (by kernel_rfl) (by kernel_rfl) ?_
    refine And.intro (step_eff hΓ (.v (.one (.box 0 0))) [] [] (by kernel_rfl) (by kernel_rfl)) ?_
    refine And.intro (step_eff hΓ (.v (.one (.box 0 0))) [] [] (by kernel_rfl) (by kernel_rfl)) ?_
    refine And.intro (step_eff hΓ (.v (.one (.box 0 1))) [] [] (by kernel_rfl) (by kernel_rfl)) ?_
    refine And.intro (step_eff hΓ (.v (.one (.d (.int .i64 (IntKind.wrap .i64 (qs.at_ + 1)))))) [] [] (by kernel_rfl) (by kernel_rfl)) ?_
    refine And.intro (step_eff hΓ (.v (.one (.d (.int .i64 (IntKind.wrap .i64 ((IntKind.wrap .i64 (qs.at_ + 1)) - 1)))))) [] [] (by kernel_rfl) (by kernel_rfl)) ?_
    refine And.intro (step_eff hΓ (.v (.one (.box 0 0))) [] [] (by kernel_rfl) (by kernel_rfl)) ?_
    refine And.intro (step_eff hΓ (.v (.one (.box 0 0))) [] [] (by kernel_rfl) (by kernel_rfl)) ?_
    refine And.intro (step_eff hΓ (.v (.one (.box 0 0))) [] [] (by kernel_rfl) (by kernel_rfl)) ?_
    refine And.intro (step_eff hΓ (.v (.one (.d (.lst (List.map (encI .i64) qs.L))))) [] [] (by kernel_rfl) (by kernel_rfl)) ?_
    refine And.intro (step_eff hΓ (.v (.one (.d (.int .i64 (qs.L.length : Int))))) [] [] (opx_len (f := (encI .i64)) (l := qs.L) (by kernel_rfl)) (by kernel_rfl)) ?_
    refine And.intro (step_eff hΓ (.v (.one (.d (.int .i64 ((IntKind.wrap .i64 ((IntKind.wrap .i64 (qs.at_ + 1)) - 1)).tmod (qs.L.length : Int)))))) [] [] (opx_of (by kernel_rfl) (by kernel_rfl) (eff_rem (ti := ti3) (by kernel_rfl) (by kernel_rfl) (by kernel_rfl) (notB h3))) (by kernel_rfl)) ?_
    refine And.intro (step_eff hΓ (.v (.one (.d (.int .i64 ((IntKind.wrap .i64 ((IntKind.wrap .i64 (qs.at_ + 1)) - 1)).tmod (qs.L.length : Int)))))) [] [] (by kernel_rfl) (by kernel_rfl)) ?_
    refine awp_seq ?_
    refine awp_region_any' hm 27001 39001 [(some ⟨.v (.one (.box 0 0)), [], [], []⟩, [0]), (some ⟨.v (.one (.box 0 0)), [], [], []⟩, [0]), (some ⟨.v (.one (.box 0 1)), [], [], []⟩, [0]), (some ⟨.v (.one (.d (.int .i64 (IntKind.wrap .i64 (qs.at_ + 1))))), [], [], []⟩, [0]), (some ⟨.v (.one (.d (.int .i64 (IntKind.wrap .i64 ((IntKind.wrap .i64 (qs.at_ + 1)) - 1))))), [], [], []⟩, []), (some ⟨.v (.one (.box 0 0)), [], [], []⟩, [0]), (some ⟨.v (.one (.box 0 0)), [], [], []⟩, [0]), (some ⟨.v (.one (.box 0 0)), [], [], []⟩, [0]), (some ⟨.v (.one (.d (.lst (List.map (encI .i64) qs.L)))), [], [], []⟩, [0]), (some ⟨.v (.one (.d (.int .i64 (qs.L.length : Int)))), [], [], []⟩, []), (some ⟨.v (.one (.d (.int .i64 (IntKind.wrap .i64 ((IntKind.wrap .i64 ((IntKind.wrap .i64 (qs.at_ + 1)) - 1)).tdiv (qs.L.length : Int)))))), [], [], []⟩, []), (some ⟨.v (.one (.d (.int .i64 (IntKind.wrap .i64 ((IntKind.wrap .i64 ((IntKind.wrap .i64 (qs.at_ + 1)) - 1)).tdiv (qs.L.length : Int)))))), [], [], []⟩, [])] [[], [0], [0, 1], [0, 1, 2], [0, 1, 2, 3], [], [5], [5, 6], [5, 6, 7], [5, 6, 7, 8], [0, 1, 2, 3, 4, 5, 6, 7, 8, 9], [0, 1, 2, 3, 4, 5, 6, 7, 8, 9, 10]] (by kernel_rfl) (by kernel_rfl) (by kernel_rfl) (by kernel_rfl) ?_
    refine And.intro (step_eff hΓ (.v (.one (.box 0 0))) [] [] (by kernel_rfl) (by kernel_rfl)) ?_
    refine And.intro (step_eff hΓ (.v (.one (.box 0 0))) [] [] (by kernel_rfl) (by kernel_rfl)) ?_
    refine And.intro (step_eff hΓ (.v (.one (.box 0 1))) [] [] (by kernel_rfl) (by kernel_rfl)) ?_
    refine And.intro (step_eff hΓ (.v (.one (.d (.int .i64 (IntKind.wrap .i64 (qs.at_ + 1)))))) [] [] (by kernel_rfl) (by kernel_rfl)) ?_
    refine And.intro (step_eff hΓ (.v (.one (.d (.int .i64 (IntKind.wrap .i64 ((IntKind.wrap .i64 (qs.at_ + 1)) - 1)))))) [] [] (by kernel_rfl) (by kernel_rfl)) ?_
    refine And.intro (step_eff hΓ (.v (.one (.box 0 0))) [] [] (by kernel_rfl) (by kernel_rfl)) ?_
    refine And.intro (step_eff hΓ (.v (.one (.box 0 0))) [] [] (by kernel_rfl) (by kernel_rfl)) ?_
    refine And.intro (step_eff hΓ (.v (.one (.box 0 0))) [] [] (by kernel_rfl) (by kernel_rfl)) ?_
    refine And.intro (step_eff hΓ (.v (.one (.d (.lst (List.map (encI .i64) qs.L))))) [] [] (by kernel_rfl) (by kernel_rfl)) ?_
    refine And.intro (step_eff hΓ (.v (.one (.d (.int .i64 (qs.L.length : Int))))) [] [] (opx_len (f := (encI .i64)) (l := qs.L) (by kernel_rfl)) (by kernel_rfl)) ?_
    refine And.intro (step_eff hΓ (.v (.one (.d (.int .i64 (IntKind.wrap .i64 ((IntKind.wrap .i64 ((IntKind.wrap .i64 (qs.at_ + 1)) - 1)).tdiv (qs.L.length : Int))))))) [] [] (opx_of (by kernel_rfl) (by kernel_rfl) (eff_quo (ti := ti3) (by kernel_rfl) (by kernel_rfl) (by kernel_rfl) (notB h3))) (by kernel_rfl)) ?_
    refine And.intro (step_eff hΓ (.v (.one (.d (.int .i64 (IntKind.wrap .i64 ((IntKind.wrap .i64 ((IntKind.wrap .i64 (qs.at_ + 1)) - 1)).tdiv (qs.L.length : Int))))))) [] [] (by kernel_rfl) (by kernel_rfl)) ?_
    refine awp_seq ?_
    obtain ⟨vy, h4, hF⟩ := bind_some hF
    obtain ⟨vr1, h5, hF⟩ := bind_some hF
    obtain ⟨vr2, h6, hF⟩ := bind_some hF
    refine awp_region' 39001 55001 (by kernel_rfl) (by kernel_rfl) ?_
    refine aops_eff hΓ (.v (.one (.box 0 0))) [] [] (by kernel_rfl) ?_
    refine aops_eff hΓ (.v (.one (.box 0 0))) [] [] (by kernel_rfl) ?_
    refine aops_eff hΓ (.v (.one (.box 0 0))) [] [] (by kernel_rfl) ?_
    refine aops_eff hΓ (.v (.one (.d (.lst (List.map (encI .i64) qs.L))))) [] [] (by kernel_rfl) ?_
    refine aops_eff hΓ (.v (.one (.d (.int .i64 ((IntKind.wrap .i64 ((IntKind.wrap .i64 (qs.at_ + 1)) - 1)).tmod (qs.L.length : Int)))))) [] [] (by kernel_rfl) ?_
    refine aops_eff hΓ (.v (.one (.cp [.int .i64 vy]))) [] [] (opx_of (by kernel_rfl) (by kernel_rfl) (eff_indexAddr (k := .i64) (ti := ti22) (te := ti3) (l := qs.L) (f := (encI .i64)) (y := vy) (by kernel_rfl) rfl (by kernel_rfl) (by kernel_rfl) (by kernel_rfl) h4 (by kernel_rfl))) ?_
    refine aops_eff hΓ (.v (.one (.d (.int .i64 vy)))) [] [] (by kernel_rfl) ?_
    refine aops_call (by kernel_rfl) (by kernel_rfl) (does_call (f := (.func 191)) (g := 191) (caps := []) (tvs := [.v (.one (.d (.int .i64 vy))), .v (.one (.d (.int .i64 1073741824)))]) (al := [.v (.one (.d (.int .i64 vy))), .v (.one (.d (.int .i64 1073741824)))]) (m := ⟨[], []⟩) (m' := ⟨[], []⟩) (tv := .v (.one (.d (.int .i64 vr1)))) (lens := []) rfl (by kernel_rfl) (by kernel_rfl) (sees_of (rl := []) (nl := []) (by kernel_rfl) trivial trivial) (⟨t_same (by kernel_rfl) (by kernel_rfl), t_same (by kernel_rfl) (by kernel_rfl), trivial⟩) (fleetmake_Below_ok _ _ _ h5) (left_of (by kernel_rfl))) (.v (.one (.d (.int .i64 vr1)))) [] [] (by kernel_rfl) ?_
    refine aops_eff hΓ (.v (.one (.d (.int .i64 (IntKind.wrap .i64 ((IntKind.wrap .i64 ((IntKind.wrap .i64 (qs.at_ + 1)) - 1)).tdiv (qs.L.length : Int))))))) [] [] (by kernel_rfl) ?_
    refine aops_eff hΓ (.v (.one (.d (.int .i64 ((IntKind.wrap .i64 ((IntKind.wrap .i64 (qs.at_ + 1)) - 1)).tmod (qs.L.length : Int)))))) [] [] (by kernel_rfl) ?_
    refine aops_eff hΓ (.v (.one (.d (.int .i64 (IntKind.wrap .i64 ((7919 : Int) + ((IntKind.wrap .i64 ((IntKind.wrap .i64 (qs.at_ + 1)) - 1)).tmod (qs.L.length : Int)))))))) [] [] (by kernel_rfl) ?_
    refine aops_eff hΓ (.v (.one (.d (.int .i64 (IntKind.wrap .i64 ((IntKind.wrap .i64 ((IntKind.wrap .i64 ((IntKind.wrap .i64 (qs.at_ + 1)) - 1)).tdiv (qs.L.length : Int))) * (IntKind.wrap .i64 ((7919 : Int) + ((IntKind.wrap .i64 ((IntKind.wrap .i64 (qs.at_ + 1)) - 1)).tmod (qs.L.length : Int)))))))))) [] [] (by kernel_rfl) ?_
    refine aops_eff hΓ (.v (.one (.d (.int .i64 (IntKind.wrap .i64 (vr1 + (IntKind.wrap .i64 ((IntKind.wrap .i64 ((IntKind.wrap .i64 ((IntKind.wrap .i64 (qs.at_ + 1)) - 1)).tdiv (qs.L.length : Int))) * (IntKind.wrap .i64 ((7919 : Int) + ((IntKind.wrap .i64 ((IntKind.wrap .i64 (qs.at_ + 1)) - 1)).tmod (qs.L.length : Int)))))))))))) [] [] (by kernel_rfl) ?_
    refine aops_eff hΓ (.v (.one (.d (.int .i64 qn)))) [] [] (by kernel_rfl) ?_
    refine aops_call (by kernel_rfl) (by kernel_rfl) (does_call (f := (.func 191)) (g := 191) (caps := []) (tvs := [.v (.one (.d (.int .i64 (IntKind.wrap .i64 (vr1 + (IntKind.wrap .i64 ((IntKind.wrap .i64 ((IntKind.wrap .i64 ((IntKind.wrap .i64 (qs.at_ + 1)) - 1)).tdiv (qs.L.length : Int))) * (IntKind.wrap .i64 ((7919 : Int) + ((IntKind.wrap .i64 ((IntKind.wrap .i64 (qs.at_ + 1)) - 1)).tmod (qs.L.length : Int))))))))))), .v (.one (.d (.int .i64 qn)))]) (al := [.v (.one (.d (.int .i64 (IntKind.wrap .i64 (vr1 + (IntKind.wrap .i64 ((IntKind.wrap .i64 ((IntKind.wrap .i64 ((IntKind.wrap .i64 (qs.at_ + 1)) - 1)).tdiv (qs.L.length : Int))) * (IntKind.wrap .i64 ((7919 : Int) + ((IntKind.wrap .i64 ((IntKind.wrap .i64 (qs.at_ + 1)) - 1)).tmod (qs.L.length : Int))))))))))), .v (.one (.d (.int .i64 qn)))]) (m := ⟨[], []⟩) (m' := ⟨[], []⟩) (tv := .v (.one (.d (.int .i64 vr2)))) (lens := []) rfl (by kernel_rfl) (by kernel_rfl) (sees_of (rl := []) (nl := []) (by kernel_rfl) trivial trivial) (⟨t_same (by kernel_rfl) (by kernel_rfl), t_same (by kernel_rfl) (by kernel_rfl), trivial⟩) (fleetmake_Below_ok _ _ _ h6) (left_of (by kernel_rfl))) (.v (.one (.d (.int .i64 vr2)))) [] [] (by kernel_rfl) ?_
    refine aops_eff hΓ (.v (.one (.d (.int .i64 vr2)))) [] [] (by kernel_rfl) ?_
    refine aops_nil ?_
    refine awp_ret ?_
    obtain rfl := some_eq hF
    exact fin_intro (xs := [.one (.d (.int .i64 vr2))]) (m' := ⟨[], [(0, [.d (.lst (List.map (encI .i64) qs.L)), .d (.int .i64 (IntKind.wrap .i64 (qs.at_ + 1)))])]⟩) (tv := (.v (.one (.d (.int .i64 vr2))))) (rl := []) (nl := []) (by kernel_rfl) (by kernel_rfl) (by kernel_rfl) (sees_of (by kernel_rfl) trivial (⟨⟨by kernel_rfl, [.d (.lst (List.map (encI .i64) qs.L)), .d (.int .i64 (IntKind.wrap .i64 (qs.at_ + 1)))], by kernel_rfl, l2_same (by kernel_rfl) (by kernel_rfl)⟩, trivial⟩)) (t_same (by kernel_rfl) (by kernel_rfl)) ⟨rfl, rfl⟩

/-! ### (*beaconfleet/fleetmake.Stream).Pick -/
theorem fleetmake_Stream_Pick_o1_ok (qs : fleetmake_Stream) (ql : List Int) (r : Int) (hF : fleetmake_Stream_Pick_o1 qs ql = some r) : Holds prog 17 [.v (.one (.box 0 0)), .v (.one (.own 1 none))] ⟨[(1, ⟨3, 1, List.map (encI .i64) ql⟩)], [(0, [.d (.lst (List.map (encI .i64) qs.L)), .d (.int .i64 qs.at_)])]⟩ (fun tv m => tv = .v (.one (.d (.int .i64 r))) ∧ m = ⟨[], [(0, [.d (.lst (List.map (encI .i64) qs.L)), .d (.int .i64 (IntKind.wrap .i64 (qs.at_ + 1)))])]⟩) := by
  unfold fleetmake_Stream_Pick_o1 at hF
  refine holds_of_awp hΓ (fn := f17) (c := cB f17) (A := 1) (nx := 2) (by kernel_rfl) (by kernel_rfl) (by kernel_rfl) (by kernel_rfl) (by kernel_rfl) (by kernel_rfl) (lowc_of (by kernel_rfl)) ?_
  show Awp prog 1 12 (cB f17) _ _
  refine awp_seq ?_
  refine awp_region' 2 1002 (by kernel_rfl) (by kernel_rfl) ?_
  refine aops_eff hΓ (.v (.one (.d (.int .i64 0)))) [] [] (by kernel_rfl) ?_
  refine aops_nil ?_
  refine awp_to (to_see [] [] ⟨[], [(0, [.d (.lst (List.map (encI .i64) qs.L)), .d (.int .i64 qs.at_)])]⟩ [(0, .v (.one (.box 0 0))), (1, .v (.one (.d (.lst (List.map (encI .i64) ql)))))] 1 (by kernel_rfl) (by kernel_rfl) (lowc_of (by kernel_rfl)) trivial (⟨⟨by kernel_rfl, [.d (.lst (List.map (encI .i64) qs.L)), .d (.int .i64 qs.at_)], by kernel_rfl, l2_same (by kernel_rfl) (by kernel_rfl)⟩, trivial⟩) (⟨t_same (by kernel_rfl) (by kernel_rfl), t_cell (c := .own 1 none) (by kernel_rfl) (see_own (us := [1]) trivial rfl (by kernel_rfl) (by kernel_rfl)), trivial⟩)) ?_
  refine awp_seq ?_
  obtain ⟨vr3, h1, hF⟩ := bind_some hF
  obtain ⟨vy, h2, hF⟩ := bind_some hF
  refine awp_region' 1 8001 (by kernel_rfl) (by kernel_rfl) ?_
  refine aops_eff hΓ (.v (.one (.d (.lst (List.map (encI .i64) ql))))) [] [] (by kernel_rfl) ?_
  refine aops_eff hΓ (.v (.one (.box 0 0))) [] [] (by kernel_rfl) ?_
  refine aops_eff hΓ (.v (.one (.d (.lst (List.map (encI .i64) ql))))) [] [] (by kernel_rfl) ?_
  refine aops_eff hΓ (.v (.one (.d (.int .i64 (ql.length : Int))))) [] [] (opx_len (f := (encI .i64)) (l := ql) (by kernel_rfl)) ?_
  refine aops_call (by kernel_rfl) (by kernel_rfl) (does_call (f := (.func 89)) (g := 89) (caps := []) (tvs := [.v (.one (.box 0 0)), .v (.one (.d (.int .i64 (ql.length : Int))))]) (al := [.v (.one (.box 0 0)), .v (.one (.d (.int .i64 (ql.length : Int))))]) (m := ⟨[], [(0, [.d (.lst (List.map (encI .i64) qs.L)), .d (.int .i64 qs.at_)])]⟩) (m' := ⟨[], [(0, [.d (.lst (List.map (encI .i64) qs.L)), .d (.int .i64 (IntKind.wrap .i64 (qs.at_ + 1)))])]⟩) (tv := .v (.one (.d (.int .i64 vr3)))) (lens := []) rfl (by kernel_rfl) (by kernel_rfl) (sees_of (rl := []) (nl := []) (by kernel_rfl) trivial (⟨⟨by kernel_rfl, [.d (.lst (List.map (encI .i64) qs.L)), .d (.int .i64 qs.at_)], by kernel_rfl, l2_same (by kernel_rfl) (by kernel_rfl)⟩, trivial⟩)) (⟨t_same (by kernel_rfl) (by kernel_rfl), t_same (by kernel_rfl) (by kernel_rfl), trivial⟩) (fleetmake_Stream_Next_ok _ _ _ h1) (left_of (by kernel_rfl))) (.v (.one (.d (.int .i64 vr3)))) [] [(0, some [.d (.lst (List.map (encI .i64) qs.L)), .d (.int .i64 (IntKind.wrap .i64 (qs.at_ + 1)))])] (by kernel_rfl) ?_
  refine aops_eff hΓ (.v (.one (.cp [.int .i64 vy]))) [] [] (opx_of (by kernel_rfl) (by kernel_rfl) (eff_indexAddr (k := .i64) (ti := ti22) (te := ti3) (l := ql) (f := (encI .i64)) (y := vy) (by kernel_rfl) rfl (by kernel_rfl) (by kernel_rfl) (by kernel_rfl) h2 (by kernel_rfl))) ?_
  refine aops_eff hΓ (.v (.one (.d (.int .i64 vy)))) [] [] (by kernel_rfl) ?_
  refine aops_eff hΓ (.v (.one (.d (.int .i64 vy)))) [] [] (by kernel_rfl) ?_
  refine aops_nil ?_
  refine awp_ret ?_
  obtain rfl := some_eq hF
  exact fin_intro (xs := [.one (.d (.int .i64 vy))]) (m' := ⟨[], [(0, [.d (.lst (List.map (encI .i64) qs.L)), .d (.int .i64 (IntKind.wrap .i64 (qs.at_ + 1)))])]⟩) (tv := (.v (.one (.d (.int .i64 vy))))) (rl := []) (nl := []) (by kernel_rfl) (by kernel_rfl) (by kernel_rfl) (sees_of (by kernel_rfl) trivial (⟨⟨by kernel_rfl, [.d (.lst (List.map (encI .i64) qs.L)), .d (.int .i64 (IntKind.wrap .i64 (qs.at_ + 1)))], by kernel_rfl, l2_same (by kernel_rfl) (by kernel_rfl)⟩, trivial⟩)) (t_same (by kernel_rfl) (by kernel_rfl)) ⟨rfl, rfl⟩

/-! ### (*beaconfleet/fleetmake.Stream).Range -/
theorem fleetmake_Stream_Range_ok (qs : fleetmake_Stream) (qlow : Int) (qhigh : Int) (r : fleetmake_Stream × Int) (hF : fleetmake_Stream_Range qs qlow qhigh = some r) : Holds prog 87 [.v (.one (.box 0 0)), .v (.one (.d (.int .i64 qlow))), .v (.one (.d (.int .i64 qhigh)))] ⟨[], [(0, [.d (.lst (List.map (encI .i64) qs.L)), .d (.int .i64 qs.at_)])]⟩ (fun tv m => tv = .v (.one (.d (.int .i64 r.2))) ∧ m = ⟨[], [(0, [.d (.lst (List.map (encI .i64) r.1.L)), .d (.int .i64 r.1.at_)])]⟩) := by
  unfold fleetmake_Stream_Range at hF
  refine holds_of_awp hΓ (fn := f87) (c := cB f87) (A := 1) (nx := 1) (by kernel_rfl) (by kernel_rfl) (by kernel_rfl) (by kernel_rfl) (by kernel_rfl) (by kernel_rfl) (lowc_of (by kernel_rfl)) ?_
  show Awp prog 1 19 (cB f87) _ _
  refine awp_seq ?_
  refine awp_region' 1 1001 (by kernel_rfl) (by kernel_rfl) ?_
  refine aops_eff hΓ (.v (.one (.d (.int .i64 0)))) [] [] (by kernel_rfl) ?_
  refine aops_nil ?_
  refine awp_seq ?_
  refine awp_seq ?_
  refine awp_region' 1001 4001 (by kernel_rfl) (by kernel_rfl) ?_
  refine aops_eff hΓ (.v (.one (.d (.int .i64 qhigh)))) [] [] (by kernel_rfl) ?_
  refine aops_eff hΓ (.v (.one (.d (.int .i64 qlow)))) [] [] (by kernel_rfl) ?_
  refine aops_eff hΓ (.v (.one (.d (.bool (decide (qhigh < qlow)))))) [] [] (by kernel_rfl) ?_
  refine aops_nil ?_
  rcases cond_or hF with ⟨h1, hF⟩ | ⟨h1, hF⟩
  · refine awp_true (by kernel_rfl) h1 ?_
    refine awp_seq ?_
    refine awp_region' 4001 6001 (by kernel_rfl) (by kernel_rfl) ?_
    refine aops_eff hΓ (.v (.one (.d (.int .i64 qlow)))) [] [] (by kernel_rfl) ?_
    refine aops_eff hΓ (.v (.one (.d (.int .i64 qlow)))) [] [] (by kernel_rfl) ?_
    refine aops_nil ?_
    refine awp_ret ?_
    obtain rfl := some_eq hF
    exact fin_intro (xs := [.one (.d (.int .i64 qlow))]) (m' := ⟨[], [(0, [.d (.lst (List.map (encI .i64) qs.L)), .d (.int .i64 qs.at_)])]⟩) (tv := (.v (.one (.d (.int .i64 qlow))))) (rl := []) (nl := []) (by kernel_rfl) (by kernel_rfl) (by kernel_rfl) (sees_of (by kernel_rfl) trivial (⟨⟨by kernel_rfl, [.d (.lst (List.map (encI .i64) qs.L)), .d (.int .i64 qs.at_)], by kernel_rfl, l2_same (by kernel_rfl) (by kernel_rfl)⟩, trivial⟩)) (t_same (by kernel_rfl) (by kernel_rfl)) ⟨rfl, rfl⟩
  · refine awp_false (by kernel_rfl) h1 ?_
    refine awp_skip ?_
    refine awp_seq ?_
    obtain ⟨vr3, h2, hF⟩ := bind_some hF
    refine awp_region' 4001 13001 (by kernel_rfl) (by kernel_rfl) ?_
    refine aops_eff hΓ (.v (.one (.d (.int .i64 qlow)))) [] [] (by kernel_rfl) ?_
    refine aops_eff hΓ (.v (.one (.box 0 0))) [] [] (by kernel_rfl) ?_
    refine aops_eff hΓ (.v (.one (.d (.int .i64 qhigh)))) [] [] (by kernel_rfl) ?_
    refine aops_eff hΓ (.v (.one (.d (.int .i64 qlow)))) [] [] (by kernel_rfl) ?_
    refine aops_eff hΓ (.v (.one (.d (.int .i64 (IntKind.wrap .i64 (qhigh - qlow)))))) [] [] (by kernel_rfl) ?_
    refine aops_eff hΓ (.v (.one (.d (.int .i64 (IntKind.wrap .i64 ((IntKind.wrap .i64 (qhigh - qlow)) + 1)))))) [] [] (by kernel_rfl) ?_
    refine aops_call (by kernel_rfl) (by kernel_rfl) (does_call (f := (.func 89)) (g := 89) (caps := []) (tvs := [.v (.one (.box 0 0)), .v (.one (.d (.int .i64 (IntKind.wrap .i64 ((IntKind.wrap .i64 (qhigh - qlow)) + 1)))))]) (al := [.v (.one (.box 0 0)), .v (.one (.d (.int .i64 (IntKind.wrap .i64 ((IntKind.wrap .i64 (qhigh - qlow)) + 1)))))]) (m := ⟨[], [(0, [.d (.lst (List.map (encI .i64) qs.L)), .d (.int .i64 qs.at_)])]⟩) (m' := ⟨[], [(0, [.d (.lst (List.map (encI .i64) qs.L)), .d (.int .i64 (IntKind.wrap .i64 (qs.at_ + 1)))])]⟩) (tv := .v (.one (.d (.int .i64 vr3)))) (lens := []) rfl (by kernel_rfl) (by kernel_rfl) (sees_of (rl := []) (nl := []) (by kernel_rfl) trivial (⟨⟨by kernel_rfl, [.d (.lst (List.map (encI .i64) qs.L)), .d (.int .i64 qs.at_)], by kernel_rfl, l2_same (by kernel_rfl) (by kernel_rfl)⟩, trivial⟩)) (⟨t_same (by kernel_rfl) (by kernel_rfl), t_same (by kernel_rfl) (by kernel_rfl), trivial⟩) (fleetmake_Stream_Next_ok _ _ _ h2) (left_of (by kernel_rfl))) (.v (.one (.d (.int .i64 vr3)))) [] [(0, some [.d (.lst (List.map (encI .i64) qs.L)), .d (.int .i64 (IntKind.wrap .i64 (qs.at_ + 1)))])] (by kernel_rfl) ?_
    refine aops_eff hΓ (.v (.one (.d (.int .i64 (IntKind.wrap .i64 (qlow + vr3)))))) [] [] (by kernel_rfl) ?_
    refine aops_eff hΓ (.v (.one (.d (.int .i64 (IntKind.wrap .i64 (qlow + vr3)))))) [] [] (by kernel_rfl) ?_
    refine aops_nil ?_
    refine awp_ret ?_
    obtain rfl := some_eq hF
    exact fin_intro (xs := [.one (.d (.int .i64 (IntKind.wrap .i64 (qlow + vr3))))]) (m' := ⟨[], [(0, [.d (.lst (List.map (encI .i64) qs.L)), .d (.int .i64 (IntKind.wrap .i64 (qs.at_ + 1)))])]⟩) (tv := (.v (.one (.d (.int .i64 (IntKind.wrap .i64 (qlow + vr3))))))) (rl := []) (nl := []) (by kernel_rfl) (by kernel_rfl) (by kernel_rfl) (sees_of (by kernel_rfl) trivial (⟨⟨by kernel_rfl, [.d (.lst (List.map (encI .i64) qs.L)), .d (.int .i64 (IntKind.wrap .i64 (qs.at_ + 1)))], by kernel_rfl, l2_same (by kernel_rfl) (by kernel_rfl)⟩, trivial⟩)) (t_same (by kernel_rfl) (by kernel_rfl)) ⟨rfl, rfl⟩

/-! ### (*beaconfleet/fleetmake.Stream).RightSeries -/
def fleetmake_Stream_RightSeries_x1_k : (fleetmake_Stream × (List api_Sample)) → AEx
  | _ => .exit 0

def fleetmake_Stream_RightSeries_x1_S (qlow : Int) (vr : Int) : (fleetmake_Stream × (List api_Sample)) → St
  | (vs2, vout1) => Mem.st ⟨[(1, ⟨42, 4, List.map api_Sample.enc vout1⟩)], [(0, [.d (.lst (List.map (encI .i64) vs2.L)), .d (.int .i64 vs2.at_)])]⟩ (tl [(7, .v (.one (.own 1 none)))]) 2

def fleetmake_Stream_RightSeries_x1_H (qlow : Int) (vr : Int) : fleetmake_Stream × (List api_Sample) × Int × Int → St
  | (vs1, vout, vat, vx) => Mem.st ⟨[(1, ⟨42, 4, List.map api_Sample.enc vout⟩)], [(0, [.d (.lst (List.map (encI .i64) vs1.L)), .d (.int .i64 vs1.at_)])]⟩ (tl [(0, .v (.one (.box 0 0))), (2, .v (.one (.d (.int .i64 qlow)))), (7, .v (.one (.own 1 none))), (8, .v (.one (.d (.int .i64 vat)))), (11, .v (.one (.d (.int .i64 vr)))), (12, .v (.one (.d (.int .i64 vx))))]) 2

theorem fleetmake_Stream_RightSeries_x1_ok (qlow : Int) (vr : Int) (s : fleetmake_Stream × (List api_Sample) × Int × Int) (r : (fleetmake_Stream × (List api_Sample) × Int × Int) ⊕ ((fleetmake_Stream × (List api_Sample)))) (hF : fleetmake_Stream_RightSeries_x1 qlow vr s = some r) : Awp prog 1 31 (cL (cL (cR (cL (cR (cR (cR (cB f112)))))))) (Out 1 (kk fleetmake_Stream_RightSeries_x1_k) (SS (fleetmake_Stream_RightSeries_x1_H qlow vr) (fleetmake_Stream_RightSeries_x1_S qlow vr)) r) (fleetmake_Stream_RightSeries_x1_H qlow vr s) := by
  obtain ⟨vs1, vout, vat, vx⟩ := s
  unfold fleetmake_Stream_RightSeries_x1 at hF
  refine awp_seq ?_
  refine awp_region' 2 1002 (by kernel_rfl) (by kernel_rfl) ?_
  refine aops_eff hΓ (.v (.one (.d (.bool (decide (vx < vr)))))) [] [] (by kernel_rfl) ?_
  refine aops_nil ?_
  refine awp_seq ?_
  rcases cond_or hF with ⟨h2, hF⟩ | ⟨h2, hF⟩
  · refine awp_true (by kernel_rfl) h2 ?_
    refine awp_skip ?_
    refine awp_seq ?_
    refine awp_block ?_
    refine awp_seq ?_
    obtain ⟨vr3, h3, hF⟩ := bind_some hF
    refine awp_region' 1002 7002 (by kernel_rfl) (by kernel_rfl) ?_
    refine aops_eff hΓ (.v (.one (.d (.int .i64 vat)))) [] [] (by kernel_rfl) ?_
    refine aops_eff hΓ (.v (.one (.box 0 0))) [] [] (by kernel_rfl) ?_
    refine aops_eff hΓ (.v (.one (.own 3002 none))) [(3002, some ⟨3, 1, List.map (encI .i64) ([1, 1, 2, 5, 10, 10, 40, 127, 1000] : List Int)⟩)] [] (by kernel_rfl) ?_
    refine aops_call (by kernel_rfl) (by kernel_rfl) (does_call (f := (.func 17)) (g := 17) (caps := []) (tvs := [.v (.one (.box 0 0)), .v (.one (.own 3002 none))]) (al := [.v (.one (.box 0 0)), .v (.one (.own 1 none))]) (m := ⟨[(1, ⟨3, 1, List.map (encI .i64) ([1, 1, 2, 5, 10, 10, 40, 127, 1000] : List Int)⟩)], [(0, [.d (.lst (List.map (encI .i64) vs1.L)), .d (.int .i64 vs1.at_)])]⟩) (m' := ⟨[], [(0, [.d (.lst (List.map (encI .i64) vs1.L)), .d (.int .i64 (IntKind.wrap .i64 (vs1.at_ + 1)))])]⟩) (tv := .v (.one (.d (.int .i64 vr3)))) (lens := []) rfl (by kernel_rfl) (by kernel_rfl) (sees_of (rl := [(1, 3002)]) (nl := []) (by kernel_rfl) (⟨.inr ⟨by kernel_rfl, by kernel_rfl⟩, trivial⟩) (⟨⟨by kernel_rfl, [.d (.lst (List.map (encI .i64) vs1.L)), .d (.int .i64 vs1.at_)], by kernel_rfl, l2_same (by kernel_rfl) (by kernel_rfl)⟩, trivial⟩)) (⟨t_same (by kernel_rfl) (by kernel_rfl), t_same (by kernel_rfl) (by kernel_rfl), trivial⟩) (fleetmake_Stream_Pick_o1_ok _ _ _ h3) (left_of (by kernel_rfl))) (.v (.one (.d (.int .i64 vr3)))) [(3002, none)] [(0, some [.d (.lst (List.map (encI .i64) vs1.L)), .d (.int .i64 (IntKind.wrap .i64 (vs1.at_ + 1)))])] (by kernel_rfl) ?_
    refine aops_eff hΓ (.v (.one (.d (.int .i64 (IntKind.wrap .i64 (vat + vr3)))))) [] [] (by kernel_rfl) ?_
    refine aops_eff hΓ (.v (.one (.d (.int .i64 (IntKind.wrap .i64 (vat + vr3)))))) [] [] (by kernel_rfl) ?_
    refine aops_nil ?_
    obtain ⟨vr4, h4, hF⟩ := bind_some hF
    obtain ⟨h5, hF⟩ := gd_some hF
    refine awp_region' 7002 18002 (by kernel_rfl) (by kernel_rfl) ?_
    refine aops_eff hΓ (.v (.one (.own 1 none))) [] [] (by kernel_rfl) ?_
    refine aops_eff hΓ (.v (.one (.d (.int .i64 (IntKind.wrap .i64 (vat + vr3)))))) [] [] (by kernel_rfl) ?_
    refine aops_eff hΓ (.v (.one (.d (.int .i64 qlow)))) [] [] (by kernel_rfl) ?_
    refine aops_eff hΓ (.v (.one (.box 0 0))) [] [] (by kernel_rfl) ?_
    refine aops_eff hΓ (.v (.one (.own 11002 none))) [(11002, some ⟨3, 1, List.map (encI .i64) ([0, 1, 2, 5, 7, 9, (-3), (-70), 100, 1000, 5] : List Int)⟩)] [] (by kernel_rfl) ?_
    refine aops_call (by kernel_rfl) (by kernel_rfl) (does_call (f := (.func 17)) (g := 17) (caps := []) (tvs := [.v (.one (.box 0 0)), .v (.one (.own 11002 none))]) (al := [.v (.one (.box 0 0)), .v (.one (.own 1 none))]) (m := ⟨[(1, ⟨3, 1, List.map (encI .i64) ([0, 1, 2, 5, 7, 9, (-3), (-70), 100, 1000, 5] : List Int)⟩)], [(0, [.d (.lst (List.map (encI .i64) vs1.L)), .d (.int .i64 (IntKind.wrap .i64 (vs1.at_ + 1)))])]⟩) (m' := ⟨[], [(0, [.d (.lst (List.map (encI .i64) vs1.L)), .d (.int .i64 (IntKind.wrap .i64 ((IntKind.wrap .i64 (vs1.at_ + 1)) + 1)))])]⟩) (tv := .v (.one (.d (.int .i64 vr4)))) (lens := []) rfl (by kernel_rfl) (by kernel_rfl) (sees_of (rl := [(1, 11002)]) (nl := []) (by kernel_rfl) (⟨.inr ⟨by kernel_rfl, by kernel_rfl⟩, trivial⟩) (⟨⟨by kernel_rfl, [.d (.lst (List.map (encI .i64) vs1.L)), .d (.int .i64 (IntKind.wrap .i64 (vs1.at_ + 1)))], by kernel_rfl, l2_same (by kernel_rfl) (by kernel_rfl)⟩, trivial⟩)) (⟨t_same (by kernel_rfl) (by kernel_rfl), t_same (by kernel_rfl) (by kernel_rfl), trivial⟩) (fleetmake_Stream_Pick_o1_ok _ _ _ h4) (left_of (by kernel_rfl))) (.v (.one (.d (.int .i64 vr4)))) [(11002, none)] [(0, some [.d (.lst (List.map (encI .i64) vs1.L)), .d (.int .i64 (IntKind.wrap .i64 ((IntKind.wrap .i64 (vs1.at_ + 1)) + 1)))])] (by kernel_rfl) ?_
    refine aops_eff hΓ (.v (.one (.d (.int .i64 (imax qlow vr4))))) [] [] (by kernel_rfl) ?_
    refine aops_eff hΓ (.v (.agg [.d (.str ([100] : List UInt8)), .d (.str ([109] : List UInt8)), .d (.int .i64 (IntKind.wrap .i64 (vat + vr3))), .d (.int .i64 (imax qlow vr4))])) [] [] (by kernel_rfl) ?_
    refine aops_eff hΓ (.v (.one (.own 15002 none))) [(15002, some ⟨42, 4, List.map api_Sample.enc ([api_Sample.mk ([100] : List UInt8) ([109] : List UInt8) (IntKind.wrap .i64 (vat + vr3)) (imax qlow vr4)] : List api_Sample)⟩)] [] (by kernel_rfl) ?_
    refine aops_eff hΓ (.v (.one (.own 16002 none))) [(1, none), (16002, some ⟨42, 4, List.map api_Sample.enc (vout ++ ([api_Sample.mk ([100] : List UInt8) ([109] : List UInt8) (IntKind.wrap .i64 (vat + vr3)) (imax qlow vr4)] : List api_Sample))⟩)] [] (opx_of (by kernel_rfl) (by kernel_rfl) (eff_append (ti := ti26) (te := ti42) (tv := .v (.one (.own 15002 none))) (id := 1) (l := vout) (ys := ([api_Sample.mk ([100] : List UInt8) ([109] : List UInt8) (IntKind.wrap .i64 (vat + vr3)) (imax qlow vr4)] : List api_Sample)) (us := [15002]) (f := api_Sample.enc) (by kernel_rfl) rfl (by kernel_rfl) (by kernel_rfl) (by kernel_rfl) (by kernel_rfl) (by kernel_rfl) (fun _ => rfl) ⟨Nat.zero_lt_succ _, Nat.le_of_ble_eq_true (by kernel_rfl), Nat.zero_lt_succ _⟩ h5)) ?_
    refine aops_eff hΓ (.v (.one (.own 16002 none))) [] [] (by kernel_rfl) ?_
    refine aops_nil ?_
    refine awp_region' 18002 20002 (by kernel_rfl) (by kernel_rfl) ?_
    refine aops_eff hΓ (.v (.one (.d (.int .i64 (IntKind.wrap .i64 (vx + 1)))))) [] [] (by kernel_rfl) ?_
    refine aops_eff hΓ (.v (.one (.d (.int .i64 (IntKind.wrap .i64 (vx + 1)))))) [] [] (by kernel_rfl) ?_
    refine aops_nil ?_
    obtain rfl := some_eq hF
    exact out_intro rfl (to_see [(1, 16002)] [] ⟨[(1, ⟨42, 4, List.map api_Sample.enc (vout ++ ([api_Sample.mk ([100] : List UInt8) ([109] : List UInt8) (IntKind.wrap .i64 (vat + vr3)) (imax qlow vr4)] : List api_Sample))⟩)], [(0, [.d (.lst (List.map (encI .i64) vs1.L)), .d (.int .i64 (IntKind.wrap .i64 ((IntKind.wrap .i64 (vs1.at_ + 1)) + 1)))])]⟩ [(0, .v (.one (.box 0 0))), (2, .v (.one (.d (.int .i64 qlow)))), (7, .v (.one (.own 1 none))), (8, .v (.one (.d (.int .i64 (IntKind.wrap .i64 (vat + vr3)))))), (11, .v (.one (.d (.int .i64 vr)))), (12, .v (.one (.d (.int .i64 (IntKind.wrap .i64 (vx + 1))))))] 2 (by kernel_rfl) (by kernel_rfl) (lowc_of (by kernel_rfl)) (⟨.inr ⟨by kernel_rfl, by kernel_rfl⟩, trivial⟩) (⟨⟨by kernel_rfl, [.d (.lst (List.map (encI .i64) vs1.L)), .d (.int .i64 (IntKind.wrap .i64 ((IntKind.wrap .i64 (vs1.at_ + 1)) + 1)))], by kernel_rfl, l2_same (by kernel_rfl) (by kernel_rfl)⟩, trivial⟩) (⟨t_same (by kernel_rfl) (by kernel_rfl), t_same (by kernel_rfl) (by kernel_rfl), t_same (by kernel_rfl) (by kernel_rfl), t_same (by kernel_rfl) (by kernel_rfl), t_same (by kernel_rfl) (by kernel_rfl), t_same (by kernel_rfl) (by kernel_rfl), trivial⟩))
  · refine awp_false (by kernel_rfl) h2 ?_
    refine awp_exit ?_
    obtain rfl := some_eq hF
    exact out_intro rfl (to_see [] [] ⟨[(1, ⟨42, 4, List.map api_Sample.enc vout⟩)], [(0, [.d (.lst (List.map (encI .i64) vs1.L)), .d (.int .i64 vs1.at_)])]⟩ [(7, .v (.one (.own 1 none)))] 2 (by kernel_rfl) (by kernel_rfl) (lowc_of (by kernel_rfl)) (⟨.inr ⟨by kernel_rfl, by kernel_rfl⟩, trivial⟩) (⟨⟨by kernel_rfl, [.d (.lst (List.map (encI .i64) vs1.L)), .d (.int .i64 vs1.at_)], by kernel_rfl, l2_same (by kernel_rfl) (by kernel_rfl)⟩, trivial⟩) (⟨t_same (by kernel_rfl) (by kernel_rfl), trivial⟩))

theorem fleetmake_Stream_RightSeries_ok (qs : fleetmake_Stream) (qmost : Int) (qlow : Int) (r : fleetmake_Stream × (List api_Sample)) (hF : fleetmake_Stream_RightSeries qs qmost qlow = some r) : Holds prog 112 [.v (.one (.box 0 0)), .v (.one (.d (.int .i64 qmost))), .v (.one (.d (.int .i64 qlow)))] ⟨[], [(0, [.d (.lst (List.map (encI .i64) qs.L)), .d (.int .i64 qs.at_)])]⟩ (fun tv m => tv = .v (.one (.own 1 none)) ∧ m = ⟨[(1, ⟨42, 4, List.map api_Sample.enc r.2⟩)], [(0, [.d (.lst (List.map (encI .i64) r.1.L)), .d (.int .i64 r.1.at_)])]⟩) := by
  unfold fleetmake_Stream_RightSeries at hF
  refine holds_of_awp hΓ (fn := f112) (c := cB f112) (A := 1) (nx := 1) (by kernel_rfl) (by kernel_rfl) (by kernel_rfl) (by kernel_rfl) (by kernel_rfl) (by kernel_rfl) (lowc_of (by kernel_rfl)) ?_
  show Awp prog 1 31 (cB f112) _ _
  refine awp_seq ?_
  refine awp_region' 1 1001 (by kernel_rfl) (by kernel_rfl) ?_
  refine aops_eff hΓ (.v (.one (.nil))) [] [] (by kernel_rfl) ?_
  refine aops_nil ?_
  refine awp_seq ?_
  refine awp_region' 1001 2001 (by kernel_rfl) (by kernel_rfl) ?_
  refine aops_eff hΓ (.v (.one (.nil))) [] [] (by kernel_rfl) ?_
  refine aops_nil ?_
  refine awp_seq ?_
  refine awp_region' 2001 3001 (by kernel_rfl) (by kernel_rfl) ?_
  refine aops_eff hΓ (.v (.one (.d (.int .i64 0)))) [] [] (by kernel_rfl) ?_
  refine aops_nil ?_
  refine awp_seq ?_
  refine awp_seq ?_
  obtain ⟨⟨vs, vr⟩, h1, hF⟩ := bind_some hF
  refine awp_region' 3001 7001 (by kernel_rfl) (by kernel_rfl) ?_
  refine aops_eff hΓ (.v (.one (.box 0 0))) [] [] (by kernel_rfl) ?_
  refine aops_eff hΓ (.v (.one (.d (.int .i64 qmost)))) [] [] (by kernel_rfl) ?_
  refine aops_call (by kernel_rfl) (by kernel_rfl) (does_call (f := (.func 87)) (g := 87) (caps := []) (tvs := [.v (.one (.box 0 0)), .v (.one (.d (.int .i64 0))), .v (.one (.d (.int .i64 qmost)))]) (al := [.v (.one (.box 0 0)), .v (.one (.d (.int .i64 0))), .v (.one (.d (.int .i64 qmost)))]) (m := ⟨[], [(0, [.d (.lst (List.map (encI .i64) qs.L)), .d (.int .i64 qs.at_)])]⟩) (m' := ⟨[], [(0, [.d (.lst (List.map (encI .i64) vs.L)), .d (.int .i64 vs.at_)])]⟩) (tv := .v (.one (.d (.int .i64 vr)))) (lens := []) rfl (by kernel_rfl) (by kernel_rfl) (sees_of (rl := []) (nl := []) (by kernel_rfl) trivial (⟨⟨by kernel_rfl, [.d (.lst (List.map (encI .i64) qs.L)), .d (.int .i64 qs.at_)], by kernel_rfl, l2_same (by kernel_rfl) (by kernel_rfl)⟩, trivial⟩)) (⟨t_same (by kernel_rfl) (by kernel_rfl), t_same (by kernel_rfl) (by kernel_rfl), t_same (by kernel_rfl) (by kernel_rfl), trivial⟩) (fleetmake_Stream_Range_ok _ _ _ _ h1) (left_of (by kernel_rfl))) (.v (.one (.d (.int .i64 vr)))) [] [(0, some [.d (.lst (List.map (encI .i64) vs.L)), .d (.int .i64 vs.at_)])] (by kernel_rfl) ?_
  refine aops_eff hΓ (.v (.one (.d (.int .i64 0)))) [] [] (by kernel_rfl) ?_
  refine aops_nil ?_
  refine awp_block ?_
  refine awp_to (st' := fleetmake_Stream_RightSeries_x1_H qlow vr (vs, [], 0, 0)) (to_see [] [1] ⟨[(1, ⟨42, 4, List.map api_Sample.enc []⟩)], [(0, [.d (.lst (List.map (encI .i64) vs.L)), .d (.int .i64 vs.at_)])]⟩ [(0, .v (.one (.box 0 0))), (2, .v (.one (.d (.int .i64 qlow)))), (7, .v (.one (.own 1 none))), (8, .v (.one (.d (.int .i64 0)))), (11, .v (.one (.d (.int .i64 vr)))), (12, .v (.one (.d (.int .i64 0))))] 2 (by kernel_rfl) (by kernel_rfl) (lowc_of (by kernel_rfl)) (⟨.inl ⟨by kernel_rfl, by kernel_rfl, Nat.zero_lt_succ _⟩, trivial⟩) (⟨⟨by kernel_rfl, [.d (.lst (List.map (encI .i64) vs.L)), .d (.int .i64 vs.at_)], by kernel_rfl, l2_same (by kernel_rfl) (by kernel_rfl)⟩, trivial⟩) (⟨t_same (by kernel_rfl) (by kernel_rfl), t_same (by kernel_rfl) (by kernel_rfl), t_cell (c := .nil) (by kernel_rfl) (see_nilown rfl (by kernel_rfl) (by kernel_rfl)), t_same (by kernel_rfl) (by kernel_rfl), t_same (by kernel_rfl) (by kernel_rfl), t_same (by kernel_rfl) (by kernel_rfl), trivial⟩)) ?_
  obtain ⟨⟨vs2_1, vout1_1⟩, h6, hF⟩ := bind_some hF
  refine awp_sub (awp_loop' (fleetmake_Stream_RightSeries_x1_H qlow vr) fleetmake_Stream_RightSeries_x1_k (fleetmake_Stream_RightSeries_x1_S qlow vr) (by intro x; exact fun h => nomatch h) h6 (fleetmake_Stream_RightSeries_x1_ok qlow vr)) ?_
  refine awp_seq ?_
  refine awp_region' 2 2002 (by kernel_rfl) (by kernel_rfl) ?_
  refine aops_eff hΓ (.v (.one (.own 1 none))) [] [] (by kernel_rfl) ?_
  refine aops_eff hΓ (.v (.one (.own 1 none))) [] [] (by kernel_rfl) ?_
  refine aops_nil ?_
  refine awp_ret ?_
  obtain rfl := some_eq hF
  exact fin_intro (xs := [.one (.own 1 none)]) (m' := ⟨[(1, ⟨42, 4, List.map api_Sample.enc vout1_1⟩)], [(0, [.d (.lst (List.map (encI .i64) vs2_1.L)), .d (.int .i64 vs2_1.at_)])]⟩) (tv := (.v (.one (.own 1 none)))) (rl := []) (nl := []) (by kernel_rfl) (by kernel_rfl) (by kernel_rfl) (sees_of (by kernel_rfl) (⟨.inr ⟨by kernel_rfl, by kernel_rfl⟩, trivial⟩) (⟨⟨by kernel_rfl, [.d (.lst (List.map (encI .i64) vs2_1.L)), .d (.int .i64 vs2_1.at_)], by kernel_rfl, l2_same (by kernel_rfl) (by kernel_rfl)⟩, trivial⟩)) (t_same (by kernel_rfl) (by kernel_rfl)) ⟨rfl, rfl⟩

/-! ### (*beaconfleet/fleetmake.Stream).Flip -/
theorem fleetmake_Stream_Flip_ok (qs : fleetmake_Stream) (qn : Int) (r : Bool) (hF : fleetmake_Stream_Flip qs qn = some r) : Holds prog 18 [.v (.one (.box 0 0)), .v (.one (.d (.int .i64 qn)))] ⟨[], [(0, [.d (.lst (List.map (encI .i64) qs.L)), .d (.int .i64 qs.at_)])]⟩ (fun tv m => tv = .v (.one (.d (.bool r))) ∧ m = ⟨[], [(0, [.d (.lst (List.map (encI .i64) qs.L)), .d (.int .i64 (IntKind.wrap .i64 (qs.at_ + 1)))])]⟩) := by
  unfold fleetmake_Stream_Flip at hF
  refine holds_of_awp hΓ (fn := f18) (c := cB f18) (A := 1) (nx := 1) (by kernel_rfl) (by kernel_rfl) (by kernel_rfl) (by kernel_rfl) (by kernel_rfl) (by kernel_rfl) (lowc_of (by kernel_rfl)) ?_
  show Awp prog 1 9 (cB f18) _ _
  refine awp_seq ?_
  refine awp_region' 1 1001 (by kernel_rfl) (by kernel_rfl) ?_
  refine aops_eff hΓ (.v (.one (.d (.bool false)))) [] [] (by kernel_rfl) ?_
  refine aops_nil ?_
  refine awp_seq ?_
  obtain ⟨vr3, h1, hF⟩ := bind_some hF
  refine awp_region' 1001 6001 (by kernel_rfl) (by kernel_rfl) ?_
  refine aops_eff hΓ (.v (.one (.box 0 0))) [] [] (by kernel_rfl) ?_
  refine aops_eff hΓ (.v (.one (.d (.int .i64 qn)))) [] [] (by kernel_rfl) ?_
  refine aops_call (by kernel_rfl) (by kernel_rfl) (does_call (f := (.func 89)) (g := 89) (caps := []) (tvs := [.v (.one (.box 0 0)), .v (.one (.d (.int .i64 qn)))]) (al := [.v (.one (.box 0 0)), .v (.one (.d (.int .i64 qn)))]) (m := ⟨[], [(0, [.d (.lst (List.map (encI .i64) qs.L)), .d (.int .i64 qs.at_)])]⟩) (m' := ⟨[], [(0, [.d (.lst (List.map (encI .i64) qs.L)), .d (.int .i64 (IntKind.wrap .i64 (qs.at_ + 1)))])]⟩) (tv := .v (.one (.d (.int .i64 vr3)))) (lens := []) rfl (by kernel_rfl) (by kernel_rfl) (sees_of (rl := []) (nl := []) (by kernel_rfl) trivial (⟨⟨by kernel_rfl, [.d (.lst (List.map (encI .i64) qs.L)), .d (.int .i64 qs.at_)], by kernel_rfl, l2_same (by kernel_rfl) (by kernel_rfl)⟩, trivial⟩)) (⟨t_same (by kernel_rfl) (by kernel_rfl), t_same (by kernel_rfl) (by kernel_rfl), trivial⟩) (fleetmake_Stream_Next_ok _ _ _ h1) (left_of (by kernel_rfl))) (.v (.one (.d (.int .i64 vr3)))) [] [(0, some [.d (.lst (List.map (encI .i64) qs.L)), .d (.int .i64 (IntKind.wrap .i64 (qs.at_ + 1)))])] (by kernel_rfl) ?_
  refine aops_eff hΓ (.v (.one (.d (.bool (decide (vr3 = 0)))))) [] [] (by kernel_rfl) ?_
  refine aops_eff hΓ (.v (.one (.d (.bool (decide (vr3 = 0)))))) [] [] (by kernel_rfl) ?_
  refine aops_nil ?_
  refine awp_ret ?_
  obtain rfl := some_eq hF
  exact fin_intro (xs := [.one (.d (.bool (decide (vr3 = 0))))]) (m' := ⟨[], [(0, [.d (.lst (List.map (encI .i64) qs.L)), .d (.int .i64 (IntKind.wrap .i64 (qs.at_ + 1)))])]⟩) (tv := (.v (.one (.d (.bool (decide (vr3 = 0))))))) (rl := []) (nl := []) (by kernel_rfl) (by kernel_rfl) (by kernel_rfl) (sees_of (by kernel_rfl) trivial (⟨⟨by kernel_rfl, [.d (.lst (List.map (encI .i64) qs.L)), .d (.int .i64 (IntKind.wrap .i64 (qs.at_ + 1)))], by kernel_rfl, l2_same (by kernel_rfl) (by kernel_rfl)⟩, trivial⟩)) (t_same (by kernel_rfl) (by kernel_rfl)) ⟨rfl, rfl⟩

/-! ### (*beaconfleet/fleetmake.Stream).Some -/
theorem fleetmake_Stream_Some_o1_ok (qs : fleetmake_Stream) (ql : List (List UInt8)) (r : (List UInt8)) (hF : fleetmake_Stream_Some_o1 qs ql = some r) : Holds prog 28 [.v (.one (.box 0 0)), .v (.one (.own 1 none))] ⟨[(1, ⟨9, 1, List.map encS ql⟩)], [(0, [.d (.lst (List.map (encI .i64) qs.L)), .d (.int .i64 qs.at_)])]⟩ (fun tv m => tv = .v (.one (.d (.str r))) ∧ m = ⟨[], [(0, [.d (.lst (List.map (encI .i64) qs.L)), .d (.int .i64 (IntKind.wrap .i64 (qs.at_ + 1)))])]⟩) := by
  unfold fleetmake_Stream_Some_o1 at hF
  refine holds_of_awp hΓ (fn := f28) (c := cB f28) (A := 1) (nx := 2) (by kernel_rfl) (by kernel_rfl) (by kernel_rfl) (by kernel_rfl) (by kernel_rfl) (by kernel_rfl) (lowc_of (by kernel_rfl)) ?_
  show Awp prog 1 12 (cB f28) _ _
  refine awp_seq ?_
  refine awp_region' 2 1002 (by kernel_rfl) (by kernel_rfl) ?_
  refine aops_eff hΓ (.v (.one (.d (.str ([] : List UInt8))))) [] [] (by kernel_rfl) ?_
  refine aops_nil ?_
  refine awp_to (to_see [] [] ⟨[], [(0, [.d (.lst (List.map (encI .i64) qs.L)), .d (.int .i64 qs.at_)])]⟩ [(0, .v (.one (.box 0 0))), (1, .v (.one (.d (.lst (List.map encS ql)))))] 1 (by kernel_rfl) (by kernel_rfl) (lowc_of (by kernel_rfl)) trivial (⟨⟨by kernel_rfl, [.d (.lst (List.map (encI .i64) qs.L)), .d (.int .i64 qs.at_)], by kernel_rfl, l2_same (by kernel_rfl) (by kernel_rfl)⟩, trivial⟩) (⟨t_same (by kernel_rfl) (by kernel_rfl), t_cell (c := .own 1 none) (by kernel_rfl) (see_own (us := [1]) trivial rfl (by kernel_rfl) (by kernel_rfl)), trivial⟩)) ?_
  refine awp_seq ?_
  obtain ⟨vr3, h1, hF⟩ := bind_some hF
  obtain ⟨vy, h2, hF⟩ := bind_some hF
  refine awp_region' 1 8001 (by kernel_rfl) (by kernel_rfl) ?_
  refine aops_eff hΓ (.v (.one (.d (.lst (List.map encS ql))))) [] [] (by kernel_rfl) ?_
  refine aops_eff hΓ (.v (.one (.box 0 0))) [] [] (by kernel_rfl) ?_
  refine aops_eff hΓ (.v (.one (.d (.lst (List.map encS ql))))) [] [] (by kernel_rfl) ?_
  refine aops_eff hΓ (.v (.one (.d (.int .i64 (ql.length : Int))))) [] [] (opx_len (f := encS) (l := ql) (by kernel_rfl)) ?_
  refine aops_call (by kernel_rfl) (by kernel_rfl) (does_call (f := (.func 89)) (g := 89) (caps := []) (tvs := [.v (.one (.box 0 0)), .v (.one (.d (.int .i64 (ql.length : Int))))]) (al := [.v (.one (.box 0 0)), .v (.one (.d (.int .i64 (ql.length : Int))))]) (m := ⟨[], [(0, [.d (.lst (List.map (encI .i64) qs.L)), .d (.int .i64 qs.at_)])]⟩) (m' := ⟨[], [(0, [.d (.lst (List.map (encI .i64) qs.L)), .d (.int .i64 (IntKind.wrap .i64 (qs.at_ + 1)))])]⟩) (tv := .v (.one (.d (.int .i64 vr3)))) (lens := []) rfl (by kernel_rfl) (by kernel_rfl) (sees_of (rl := []) (nl := []) (by kernel_rfl) trivial (⟨⟨by kernel_rfl, [.d (.lst (List.map (encI .i64) qs.L)), .d (.int .i64 qs.at_)], by kernel_rfl, l2_same (by kernel_rfl) (by kernel_rfl)⟩, trivial⟩)) (⟨t_same (by kernel_rfl) (by kernel_rfl), t_same (by kernel_rfl) (by kernel_rfl), trivial⟩) (fleetmake_Stream_Next_ok _ _ _ h1) (left_of (by kernel_rfl))) (.v (.one (.d (.int .i64 vr3)))) [] [(0, some [.d (.lst (List.map (encI .i64) qs.L)), .d (.int .i64 (IntKind.wrap .i64 (qs.at_ + 1)))])] (by kernel_rfl) ?_
  refine aops_eff hΓ (.v (.one (.cp [.str vy]))) [] [] (opx_of (by kernel_rfl) (by kernel_rfl) (eff_indexAddr (k := .i64) (ti := ti164) (te := ti9) (l := ql) (f := encS) (y := vy) (by kernel_rfl) rfl (by kernel_rfl) (by kernel_rfl) (by kernel_rfl) h2 (by kernel_rfl))) ?_
  refine aops_eff hΓ (.v (.one (.d (.str vy)))) [] [] (by kernel_rfl) ?_
  refine aops_eff hΓ (.v (.one (.d (.str vy)))) [] [] (by kernel_rfl) ?_
  refine aops_nil ?_
  refine awp_ret ?_
  obtain rfl := some_eq hF
  exact fin_intro (xs := [.one (.d (.str vy))]) (m' := ⟨[], [(0, [.d (.lst (List.map (encI .i64) qs.L)), .d (.int .i64 (IntKind.wrap .i64 (qs.at_ + 1)))])]⟩) (tv := (.v (.one (.d (.str vy))))) (rl := []) (nl := []) (by kernel_rfl) (by kernel_rfl) (by kernel_rfl) (sees_of (by kernel_rfl) trivial (⟨⟨by kernel_rfl, [.d (.lst (List.map (encI .i64) qs.L)), .d (.int .i64 (IntKind.wrap .i64 (qs.at_ + 1)))], by kernel_rfl, l2_same (by kernel_rfl) (by kernel_rfl)⟩, trivial⟩)) (t_same (by kernel_rfl) (by kernel_rfl)) ⟨rfl, rfl⟩

/-! ### (*beaconfleet/fleetmake.Stream).Odd -/
theorem fleetmake_Stream_Odd_ok (qs : fleetmake_Stream) (qlow : Int) (qhigh : Int) (r : fleetmake_Stream × Int) (hF : fleetmake_Stream_Odd qs qlow qhigh = some r) : Holds prog 70 [.v (.one (.box 0 0)), .v (.one (.d (.int .i64 qlow))), .v (.one (.d (.int .i64 qhigh)))] ⟨[], [(0, [.d (.lst (List.map (encI .i64) qs.L)), .d (.int .i64 qs.at_)])]⟩ (fun tv m => tv = .v (.one (.d (.int .i64 r.2))) ∧ m = ⟨[], [(0, [.d (.lst (List.map (encI .i64) r.1.L)), .d (.int .i64 r.1.at_)])]⟩) := by
  unfold fleetmake_Stream_Odd at hF
  refine holds_of_awp hΓ (fn := f70) (c := cB f70) (A := 1) (nx := 1) (by kernel_rfl) (by kernel_rfl) (by kernel_rfl) (by kernel_rfl) (by kernel_rfl) (by kernel_rfl) (lowc_of (by kernel_rfl)) ?_
  show Awp prog 1 22 (cB f70) _ _
  refine awp_seq ?_
  refine awp_region' 1 1001 (by kernel_rfl) (by kernel_rfl) ?_
  refine aops_eff hΓ (.v (.one (.d (.int .i64 0)))) [] [] (by kernel_rfl) ?_
  refine aops_nil ?_
  refine awp_seq ?_
  refine awp_seq ?_
  obtain ⟨vr, h1, hF⟩ := bind_some hF
  refine awp_region' 1001 3001 (by kernel_rfl) (by kernel_rfl) ?_
  refine aops_eff hΓ (.v (.one (.box 0 0))) [] [] (by kernel_rfl) ?_
  refine aops_call (by kernel_rfl) (by kernel_rfl) (does_call (f := (.func 18)) (g := 18) (caps := []) (tvs := [.v (.one (.box 0 0)), .v (.one (.d (.int .i64 12)))]) (al := [.v (.one (.box 0 0)), .v (.one (.d (.int .i64 12)))]) (m := ⟨[], [(0, [.d (.lst (List.map (encI .i64) qs.L)), .d (.int .i64 qs.at_)])]⟩) (m' := ⟨[], [(0, [.d (.lst (List.map (encI .i64) qs.L)), .d (.int .i64 (IntKind.wrap .i64 (qs.at_ + 1)))])]⟩) (tv := .v (.one (.d (.bool vr)))) (lens := []) rfl (by kernel_rfl) (by kernel_rfl) (sees_of (rl := []) (nl := []) (by kernel_rfl) trivial (⟨⟨by kernel_rfl, [.d (.lst (List.map (encI .i64) qs.L)), .d (.int .i64 qs.at_)], by kernel_rfl, l2_same (by kernel_rfl) (by kernel_rfl)⟩, trivial⟩)) (⟨t_same (by kernel_rfl) (by kernel_rfl), t_same (by kernel_rfl) (by kernel_rfl), trivial⟩) (fleetmake_Stream_Flip_ok _ _ _ h1) (left_of (by kernel_rfl))) (.v (.one (.d (.bool vr)))) [] [(0, some [.d (.lst (List.map (encI .i64) qs.L)), .d (.int .i64 (IntKind.wrap .i64 (qs.at_ + 1)))])] (by kernel_rfl) ?_
  refine aops_nil ?_
  rcases cond_or hF with ⟨h2, hF⟩ | ⟨h2, hF⟩
  · refine awp_true (by kernel_rfl) h2 ?_
    refine awp_seq ?_
    obtain ⟨vr1, h3, hF⟩ := bind_some hF
    refine awp_region' 3001 13001 (by kernel_rfl) (by kernel_rfl) ?_
    refine aops_eff hΓ (.v (.one (.box 0 0))) [] [] (by kernel_rfl) ?_
    refine aops_eff hΓ (.v (.one (.d (.int .i64 qlow)))) [] [] (by kernel_rfl) ?_
    refine aops_eff hΓ (.v (.one (.d (.int .i64 (IntKind.wrap .i64 (qlow - 1)))))) [] [] (by kernel_rfl) ?_
    refine aops_eff hΓ (.v (.one (.d (.int .i64 qhigh)))) [] [] (by kernel_rfl) ?_
    refine aops_eff hΓ (.v (.one (.d (.int .i64 (IntKind.wrap .i64 (qhigh + 1)))))) [] [] (by kernel_rfl) ?_
    refine aops_eff hΓ (.v (.one (.d (.int .i64 qlow)))) [] [] (by kernel_rfl) ?_
    refine aops_eff hΓ (.v (.one (.d (.int .i64 qhigh)))) [] [] (by kernel_rfl) ?_
    refine aops_eff hΓ (.v (.one (.own 10001 none))) [(10001, some ⟨3, 1, List.map (encI .i64) ([IntKind.wrap .i64 (qlow - 1), IntKind.wrap .i64 (qhigh + 1), qlow, qhigh, (-1099511627776), 1099511627776] : List Int)⟩)] [] (by kernel_rfl) ?_
    refine aops_call (by kernel_rfl) (by kernel_rfl) (does_call (f := (.func 17)) (g := 17) (caps := []) (tvs := [.v (.one (.box 0 0)), .v (.one (.own 10001 none))]) (al := [.v (.one (.box 0 0)), .v (.one (.own 1 none))]) (m := ⟨[(1, ⟨3, 1, List.map (encI .i64) ([IntKind.wrap .i64 (qlow - 1), IntKind.wrap .i64 (qhigh + 1), qlow, qhigh, (-1099511627776), 1099511627776] : List Int)⟩)], [(0, [.d (.lst (List.map (encI .i64) qs.L)), .d (.int .i64 (IntKind.wrap .i64 (qs.at_ + 1)))])]⟩) (m' := ⟨[], [(0, [.d (.lst (List.map (encI .i64) qs.L)), .d (.int .i64 (IntKind.wrap .i64 ((IntKind.wrap .i64 (qs.at_ + 1)) + 1)))])]⟩) (tv := .v (.one (.d (.int .i64 vr1)))) (lens := []) rfl (by kernel_rfl) (by kernel_rfl) (sees_of (rl := [(1, 10001)]) (nl := []) (by kernel_rfl) (⟨.inr ⟨by kernel_rfl, by kernel_rfl⟩, trivial⟩) (⟨⟨by kernel_rfl, [.d (.lst (List.map (encI .i64) qs.L)), .d (.int .i64 (IntKind.wrap .i64 (qs.at_ + 1)))], by kernel_rfl, l2_same (by kernel_rfl) (by kernel_rfl)⟩, trivial⟩)) (⟨t_same (by kernel_rfl) (by kernel_rfl), t_same (by kernel_rfl) (by kernel_rfl), trivial⟩) (fleetmake_Stream_Pick_o1_ok _ _ _ h3) (left_of (by kernel_rfl))) (.v (.one (.d (.int .i64 vr1)))) [(10001, none)] [(0, some [.d (.lst (List.map (encI .i64) qs.L)), .d (.int .i64 (IntKind.wrap .i64 ((IntKind.wrap .i64 (qs.at_ + 1)) + 1)))])] (by kernel_rfl) ?_
    refine aops_eff hΓ (.v (.one (.d (.int .i64 vr1)))) [] [] (by kernel_rfl) ?_
    refine aops_nil ?_
    refine awp_ret ?_
    obtain rfl := some_eq hF
    exact fin_intro (xs := [.one (.d (.int .i64 vr1))]) (m' := ⟨[], [(0, [.d (.lst (List.map (encI .i64) qs.L)), .d (.int .i64 (IntKind.wrap .i64 ((IntKind.wrap .i64 (qs.at_ + 1)) + 1)))])]⟩) (tv := (.v (.one (.d (.int .i64 vr1))))) (rl := []) (nl := []) (by kernel_rfl) (by kernel_rfl) (by kernel_rfl) (sees_of (by kernel_rfl) trivial (⟨⟨by kernel_rfl, [.d (.lst (List.map (encI .i64) qs.L)), .d (.int .i64 (IntKind.wrap .i64 ((IntKind.wrap .i64 (qs.at_ + 1)) + 1)))], by kernel_rfl, l2_same (by kernel_rfl) (by kernel_rfl)⟩, trivial⟩)) (t_same (by kernel_rfl) (by kernel_rfl)) ⟨rfl, rfl⟩
  · refine awp_false (by kernel_rfl) h2 ?_
    refine awp_skip ?_
    refine awp_seq ?_
    obtain ⟨⟨vs, vr2⟩, h4, hF⟩ := bind_some hF
    refine awp_region' 3001 8001 (by kernel_rfl) (by kernel_rfl) ?_
    refine aops_eff hΓ (.v (.one (.box 0 0))) [] [] (by kernel_rfl) ?_
    refine aops_eff hΓ (.v (.one (.d (.int .i64 qlow)))) [] [] (by kernel_rfl) ?_
    refine aops_eff hΓ (.v (.one (.d (.int .i64 qhigh)))) [] [] (by kernel_rfl) ?_
    refine aops_call (by kernel_rfl) (by kernel_rfl) (does_call (f := (.func 87)) (g := 87) (caps := []) (tvs := [.v (.one (.box 0 0)), .v (.one (.d (.int .i64 qlow))), .v (.one (.d (.int .i64 qhigh)))]) (al := [.v (.one (.box 0 0)), .v (.one (.d (.int .i64 qlow))), .v (.one (.d (.int .i64 qhigh)))]) (m := ⟨[], [(0, [.d (.lst (List.map (encI .i64) qs.L)), .d (.int .i64 (IntKind.wrap .i64 (qs.at_ + 1)))])]⟩) (m' := ⟨[], [(0, [.d (.lst (List.map (encI .i64) vs.L)), .d (.int .i64 vs.at_)])]⟩) (tv := .v (.one (.d (.int .i64 vr2)))) (lens := []) rfl (by kernel_rfl) (by kernel_rfl) (sees_of (rl := []) (nl := []) (by kernel_rfl) trivial (⟨⟨by kernel_rfl, [.d (.lst (List.map (encI .i64) qs.L)), .d (.int .i64 (IntKind.wrap .i64 (qs.at_ + 1)))], by kernel_rfl, l2_same (by kernel_rfl) (by kernel_rfl)⟩, trivial⟩)) (⟨t_same (by kernel_rfl) (by kernel_rfl), t_same (by kernel_rfl) (by kernel_rfl), t_same (by kernel_rfl) (by kernel_rfl), trivial⟩) (fleetmake_Stream_Range_ok _ _ _ _ h4) (left_of (by kernel_rfl))) (.v (.one (.d (.int .i64 vr2)))) [] [(0, some [.d (.lst (List.map (encI .i64) vs.L)), .d (.int .i64 vs.at_)])] (by kernel_rfl) ?_
    refine aops_eff hΓ (.v (.one (.d (.int .i64 vr2)))) [] [] (by kernel_rfl) ?_
    refine aops_nil ?_
    refine awp_ret ?_
    obtain rfl := some_eq hF
    exact fin_intro (xs := [.one (.d (.int .i64 vr2))]) (m' := ⟨[], [(0, [.d (.lst (List.map (encI .i64) vs.L)), .d (.int .i64 vs.at_)])]⟩) (tv := (.v (.one (.d (.int .i64 vr2))))) (rl := []) (nl := []) (by kernel_rfl) (by kernel_rfl) (by kernel_rfl) (sees_of (by kernel_rfl) trivial (⟨⟨by kernel_rfl, [.d (.lst (List.map (encI .i64) vs.L)), .d (.int .i64 vs.at_)], by kernel_rfl, l2_same (by kernel_rfl) (by kernel_rfl)⟩, trivial⟩)) (t_same (by kernel_rfl) (by kernel_rfl)) ⟨rfl, rfl⟩

/-! ### (*beaconfleet/fleetmake.Stream).Series -/
def fleetmake_Stream_Series_x2_k : (fleetmake_Stream × Bool) → AEx
  | _ => .normal

def fleetmake_Stream_Series_x2_S (vs3 : fleetmake_Stream) (vr5 : List api_Sample) : (fleetmake_Stream × Bool) → St
  | (vs, vx) => Mem.st ⟨[(1, ⟨42, 4, List.map api_Sample.enc vr5⟩)], [(0, [.d (.lst (List.map (encI .i64) vs.L)), .d (.int .i64 vs.at_)])]⟩ (tl [(0, .v (.one (.box 0 0))), (5, .v (.one (.own 1 none))), (20, .v (.one (.d (.bool vx))))]) 2

theorem fleetmake_Stream_Series_x2_ok (vs3 : fleetmake_Stream) (vr5 : List api_Sample) (r : (fleetmake_Stream × Bool)) (hF : fleetmake_Stream_Series_x2 vs3 vr5 = some r) : Awp prog 1 82 (cL (cL (cR (cR (cB f15))))) (Out 1 fleetmake_Stream_Series_x2_k (fleetmake_Stream_Series_x2_S vs3 vr5) r) (Mem.st ⟨[(1, ⟨42, 4, List.map api_Sample.enc vr5⟩)], [(0, [.d (.lst (List.map (encI .i64) vs3.L)), .d (.int .i64 vs3.at_)])]⟩ (tl [(0, .v (.one (.box 0 0))), (5, .v (.one (.own 1 none)))]) 2) := by
  unfold fleetmake_Stream_Series_x2 at hF
  rcases cond_or hF with ⟨h3, hF⟩ | ⟨h3, hF⟩
  · obtain ⟨vr1, h4, hF⟩ := bind_some hF
    refine awp_region' 2 7002 (by kernel_rfl) (by kernel_rfl) ?_
    refine aops_eff hΓ (.v (.one (.own 1 none))) [] [] (by kernel_rfl) ?_
    refine aops_eff hΓ (.v (.one (.d (.int .i64 (vr5.length : Int))))) [] [] (opx_len (f := api_Sample.enc) (l := vr5) (by kernel_rfl)) ?_
    refine aops_eff hΓ (.v (.one (.d (.bool true)))) [] [] (opx_b (by kernel_rfl) h3) ?_
    refine aops_eff hΓ (.v (.one (.d (.bool true)))) [] [] (by kernel_rfl) ?_
    refine aops_eff hΓ (.v (.one (.box 0 0))) [] [] (by kernel_rfl) ?_
    refine aops_call (by kernel_rfl) (by kernel_rfl) (does_call (f := (.func 18)) (g := 18) (caps := []) (tvs := [.v (.one (.box 0 0)), .v (.one (.d (.int .i64 12)))]) (al := [.v (.one (.box 0 0)), .v (.one (.d (.int .i64 12)))]) (m := ⟨[], [(0, [.d (.lst (List.map (encI .i64) vs3.L)), .d (.int .i64 vs3.at_)])]⟩) (m' := ⟨[], [(0, [.d (.lst (List.map (encI .i64) vs3.L)), .d (.int .i64 (IntKind.wrap .i64 (vs3.at_ + 1)))])]⟩) (tv := .v (.one (.d (.bool vr1)))) (lens := []) rfl (by kernel_rfl) (by kernel_rfl) (sees_of (rl := []) (nl := []) (by kernel_rfl) trivial (⟨⟨by kernel_rfl, [.d (.lst (List.map (encI .i64) vs3.L)), .d (.int .i64 vs3.at_)], by kernel_rfl, l2_same (by kernel_rfl) (by kernel_rfl)⟩, trivial⟩)) (⟨t_same (by kernel_rfl) (by kernel_rfl), t_same (by kernel_rfl) (by kernel_rfl), trivial⟩) (fleetmake_Stream_Flip_ok _ _ _ h4) (left_of (by kernel_rfl))) (.v (.one (.d (.bool vr1)))) [] [(0, some [.d (.lst (List.map (encI .i64) vs3.L)), .d (.int .i64 (IntKind.wrap .i64 (vs3.at_ + 1)))])] (by kernel_rfl) ?_
    refine aops_eff hΓ (.v (.one (.d (.bool vr1)))) [] [] (by kernel_rfl) ?_
    refine aops_nil ?_
    obtain rfl := some_eq hF
    exact out_intro rfl (to_see [] [] ⟨[(1, ⟨42, 4, List.map api_Sample.enc vr5⟩)], [(0, [.d (.lst (List.map (encI .i64) vs3.L)), .d (.int .i64 (IntKind.wrap .i64 (vs3.at_ + 1)))])]⟩ [(0, .v (.one (.box 0 0))), (5, .v (.one (.own 1 none))), (20, .v (.one (.d (.bool vr1))))] 2 (by kernel_rfl) (by kernel_rfl) (lowc_of (by kernel_rfl)) (⟨.inr ⟨by kernel_rfl, by kernel_rfl⟩, trivial⟩) (⟨⟨by kernel_rfl, [.d (.lst (List.map (encI .i64) vs3.L)), .d (.int .i64 (IntKind.wrap .i64 (vs3.at_ + 1)))], by kernel_rfl, l2_same (by kernel_rfl) (by kernel_rfl)⟩, trivial⟩) (⟨t_same (by kernel_rfl) (by kernel_rfl), t_same (by kernel_rfl) (by kernel_rfl), t_same (by kernel_rfl) (by kernel_rfl), trivial⟩))
  · refine awp_region' 2 7002 (by kernel_rfl) (by kernel_rfl) ?_
    refine aops_eff hΓ (.v (.one (.own 1 none))) [] [] (by kernel_rfl) ?_
    refine aops_eff hΓ (.v (.one (.d (.int .i64 (vr5.length : Int))))) [] [] (opx_len (f := api_Sample.enc) (l := vr5) (by kernel_rfl)) ?_
    refine aops_eff hΓ (.v (.one (.d (.bool false)))) [] [] (opx_b (by kernel_rfl) h3) ?_
    refine aops_eff hΓ (.v (.one (.d (.bool false)))) [] [] (by kernel_rfl) ?_
    refine aops_skip' (by kernel_rfl) ?_
    refine aops_skip' (by kernel_rfl) ?_
    refine aops_eff hΓ (.v (.one (.d (.bool false)))) [] [] (by kernel_rfl) ?_
    refine aops_nil ?_
    obtain rfl := some_eq hF
    exact out_intro rfl (to_see [] [] ⟨[(1, ⟨42, 4, List.map api_Sample.enc vr5⟩)], [(0, [.d (.lst (List.map (encI .i64) vs3.L)), .d (.int .i64 vs3.at_)])]⟩ [(0, .v (.one (.box 0 0))), (5, .v (.one (.own 1 none))), (20, .v (.one (.d (.bool false))))] 2 (by kernel_rfl) (by kernel_rfl) (lowc_of (by kernel_rfl)) (⟨.inr ⟨by kernel_rfl, by kernel_rfl⟩, trivial⟩) (⟨⟨by kernel_rfl, [.d (.lst (List.map (encI .i64) vs3.L)), .d (.int .i64 vs3.at_)], by kernel_rfl, l2_same (by kernel_rfl) (by kernel_rfl)⟩, trivial⟩) (⟨t_same (by kernel_rfl) (by kernel_rfl), t_same (by kernel_rfl) (by kernel_rfl), t_same (by kernel_rfl) (by kernel_rfl), trivial⟩))

def fleetmake_Stream_Series_x1_k : (fleetmake_Stream × (List api_Sample)) → AEx
  | _ => .normal

def fleetmake_Stream_Series_x1_S (vs3 : fleetmake_Stream) (vr5 : List api_Sample) : (fleetmake_Stream × (List api_Sample)) → St
  | (vs2, vx2) => Mem.st ⟨[(1, ⟨42, 4, List.map api_Sample.enc vx2⟩)], [(0, [.d (.lst (List.map (encI .i64) vs2.L)), .d (.int .i64 vs2.at_)])]⟩ (tl [(0, .v (.one (.box 0 0))), (5, .v (.one (.own 1 none)))]) 2

theorem fleetmake_Stream_Series_x1_ok (vs3 : fleetmake_Stream) (vr5 : List api_Sample) (r : (fleetmake_Stream × (List api_Sample))) (hF : fleetmake_Stream_Series_x1 vs3 vr5 = some r) : Awp prog 1 82 (cL (cR (cR (cB f15)))) (Out 1 fleetmake_Stream_Series_x1_k (fleetmake_Stream_Series_x1_S vs3 vr5) r) (Mem.st ⟨[(1, ⟨42, 4, List.map api_Sample.enc vr5⟩)], [(0, [.d (.lst (List.map (encI .i64) vs3.L)), .d (.int .i64 vs3.at_)])]⟩ (tl [(0, .v (.one (.box 0 0))), (5, .v (.one (.own 1 none)))]) 2) := by
  unfold fleetmake_Stream_Series_x1 at hF
  refine awp_seq ?_
  refine awp_to (to_see [] [] ⟨[(1, ⟨42, 4, List.map api_Sample.enc vr5⟩)], [(0, [.d (.lst (List.map (encI .i64) vs3.L)), .d (.int .i64 vs3.at_)])]⟩ [(0, .v (.one (.box 0 0))), (5, .v (.one (.own 1 none)))] 2 (by kernel_rfl) (by kernel_rfl) (lowc_of (by kernel_rfl)) (⟨.inr ⟨by kernel_rfl, by kernel_rfl⟩, trivial⟩) (⟨⟨by kernel_rfl, [.d (.lst (List.map (encI .i64) vs3.L)), .d (.int .i64 vs3.at_)], by kernel_rfl, l2_same (by kernel_rfl) (by kernel_rfl)⟩, trivial⟩) (⟨t_same (by kernel_rfl) (by kernel_rfl), t_same (by kernel_rfl) (by kernel_rfl), trivial⟩)) ?_
  obtain ⟨⟨vs1, vx1⟩, h5, hF⟩ := bind_some hF
  refine awp_sub (fleetmake_Stream_Series_x2_ok vs3 vr5 _ h5) ?_
  rcases cond_or hF with ⟨h6, hF⟩ | ⟨h6, hF⟩
  · refine awp_true (by kernel_rfl) h6 ?_
    refine awp_seq ?_
    obtain ⟨vr3, h7, hF⟩ := bind_some hF
    obtain ⟨vy, h8, hF⟩ := bind_some hF
    refine awp_region' 2 7002 (by kernel_rfl) (by kernel_rfl) ?_
    refine aops_eff hΓ (.v (.one (.own 1 none))) [] [] (by kernel_rfl) ?_
    refine aops_eff hΓ (.v (.one (.box 0 0))) [] [] (by kernel_rfl) ?_
    refine aops_eff hΓ (.v (.one (.own 1 none))) [] [] (by kernel_rfl) ?_
    refine aops_eff hΓ (.v (.one (.d (.int .i64 (vr5.length : Int))))) [] [] (opx_len (f := api_Sample.enc) (l := vr5) (by kernel_rfl)) ?_
    refine aops_call (by kernel_rfl) (by kernel_rfl) (does_call (f := (.func 89)) (g := 89) (caps := []) (tvs := [.v (.one (.box 0 0)), .v (.one (.d (.int .i64 (vr5.length : Int))))]) (al := [.v (.one (.box 0 0)), .v (.one (.d (.int .i64 (vr5.length : Int))))]) (m := ⟨[], [(0, [.d (.lst (List.map (encI .i64) vs1.L)), .d (.int .i64 vs1.at_)])]⟩) (m' := ⟨[], [(0, [.d (.lst (List.map (encI .i64) vs1.L)), .d (.int .i64 (IntKind.wrap .i64 (vs1.at_ + 1)))])]⟩) (tv := .v (.one (.d (.int .i64 vr3)))) (lens := []) rfl (by kernel_rfl) (by kernel_rfl) (sees_of (rl := []) (nl := []) (by kernel_rfl) trivial (⟨⟨by kernel_rfl, [.d (.lst (List.map (encI .i64) vs1.L)), .d (.int .i64 vs1.at_)], by kernel_rfl, l2_same (by kernel_rfl) (by kernel_rfl)⟩, trivial⟩)) (⟨t_same (by kernel_rfl) (by kernel_rfl), t_same (by kernel_rfl) (by kernel_rfl), trivial⟩) (fleetmake_Stream_Next_ok _ _ _ h7) (left_of (by kernel_rfl))) (.v (.one (.d (.int .i64 vr3)))) [] [(0, some [.d (.lst (List.map (encI .i64) vs1.L)), .d (.int .i64 (IntKind.wrap .i64 (vs1.at_ + 1)))])] (by kernel_rfl) ?_
    refine aops_eff hΓ (.v (.one (.ep 1 vr3.toNat 0))) [] [] (opx_of (by kernel_rfl) (by kernel_rfl) (eff_indexAddrO (k := .i64) (ti := ti26) (te := ti42) (l := vr5) (f := api_Sample.enc) (y := vy) (by kernel_rfl) rfl (by kernel_rfl) (by kernel_rfl) (by kernel_rfl) (by kernel_rfl) h8)) ?_
    refine aops_eff hΓ (.v (.one (.ep 1 vr3.toNat 0))) [] [] (by kernel_rfl) ?_
    refine aops_nil ?_
    refine awp_seq ?_
    obtain ⟨vr3_1, h9, hF⟩ := bind_some hF
    refine awp_region' 7002 9002 (by kernel_rfl) (by kernel_rfl) ?_
    refine aops_eff hΓ (.v (.one (.box 0 0))) [] [] (by kernel_rfl) ?_
    refine aops_call (by kernel_rfl) (by kernel_rfl) (does_call (f := (.func 89)) (g := 89) (caps := []) (tvs := [.v (.one (.box 0 0)), .v (.one (.d (.int .i64 4)))]) (al := [.v (.one (.box 0 0)), .v (.one (.d (.int .i64 4)))]) (m := ⟨[], [(0, [.d (.lst (List.map (encI .i64) vs1.L)), .d (.int .i64 (IntKind.wrap .i64 (vs1.at_ + 1)))])]⟩) (m' := ⟨[], [(0, [.d (.lst (List.map (encI .i64) vs1.L)), .d (.int .i64 (IntKind.wrap .i64 ((IntKind.wrap .i64 (vs1.at_ + 1)) + 1)))])]⟩) (tv := .v (.one (.d (.int .i64 vr3_1)))) (lens := []) rfl (by kernel_rfl) (by kernel_rfl) (sees_of (rl := []) (nl := []) (by kernel_rfl) trivial (⟨⟨by kernel_rfl, [.d (.lst (List.map (encI .i64) vs1.L)), .d (.int .i64 (IntKind.wrap .i64 (vs1.at_ + 1)))], by kernel_rfl, l2_same (by kernel_rfl) (by kernel_rfl)⟩, trivial⟩)) (⟨t_same (by kernel_rfl) (by kernel_rfl), t_same (by kernel_rfl) (by kernel_rfl), trivial⟩) (fleetmake_Stream_Next_ok _ _ _ h9) (left_of (by kernel_rfl))) (.v (.one (.d (.int .i64 vr3_1)))) [] [(0, some [.d (.lst (List.map (encI .i64) vs1.L)), .d (.int .i64 (IntKind.wrap .i64 ((IntKind.wrap .i64 (vs1.at_ + 1)) + 1)))])] (by kernel_rfl) ?_
    refine aops_nil ?_
    refine awp_block ?_
    refine awp_seq ?_
    refine awp_region' 9002 11002 (by kernel_rfl) (by kernel_rfl) ?_
    refine aops_eff hΓ (.v (.one (.d (.bool (decide (vr3_1 = 0)))))) [] [] (by kernel_rfl) ?_
    refine aops_eff hΓ (.v (.one (.d (.bool (decide (vr3_1 = 0)))))) [] [] (by kernel_rfl) ?_
    refine aops_nil ?_
    rcases cond_or hF with ⟨h10, hF⟩ | ⟨h10, hF⟩
    · refine awp_true (by kernel_rfl) h10 ?_
      obtain ⟨vr2, h11, hF⟩ := bind_some hF
      refine awp_region' 11002 18002 (by kernel_rfl) (by kernel_rfl) ?_
      refine aops_eff hΓ (.v (.one (.ep 1 vr3.toNat 0))) [] [] (by kernel_rfl) ?_
      refine aops_eff hΓ (.v (.one (.box 0 0))) [] [] (by kernel_rfl) ?_
      refine aops_eff hΓ (.v (.one (.own 13002 none))) [(13002, some ⟨9, 1, List.map encS ([([] : List UInt8), ([101] : List UInt8), ([65] : List UInt8)] : List (List UInt8))⟩)] [] (by kernel_rfl) ?_
      refine aops_call (by kernel_rfl) (by kernel_rfl) (does_call (f := (.func 28)) (g := 28) (caps := []) (tvs := [.v (.one (.box 0 0)), .v (.one (.own 13002 none))]) (al := [.v (.one (.box 0 0)), .v (.one (.own 1 none))]) (m := ⟨[(1, ⟨9, 1, List.map encS ([([] : List UInt8), ([101] : List UInt8), ([65] : List UInt8)] : List (List UInt8))⟩)], [(0, [.d (.lst (List.map (encI .i64) vs1.L)), .d (.int .i64 (IntKind.wrap .i64 ((IntKind.wrap .i64 (vs1.at_ + 1)) + 1)))])]⟩) (m' := ⟨[], [(0, [.d (.lst (List.map (encI .i64) vs1.L)), .d (.int .i64 (IntKind.wrap .i64 ((IntKind.wrap .i64 ((IntKind.wrap .i64 (vs1.at_ + 1)) + 1)) + 1)))])]⟩) (tv := .v (.one (.d (.str vr2)))) (lens := []) rfl (by kernel_rfl) (by kernel_rfl) (sees_of (rl := [(1, 13002)]) (nl := []) (by kernel_rfl) (⟨.inr ⟨by kernel_rfl, by kernel_rfl⟩, trivial⟩) (⟨⟨by kernel_rfl, [.d (.lst (List.map (encI .i64) vs1.L)), .d (.int .i64 (IntKind.wrap .i64 ((IntKind.wrap .i64 (vs1.at_ + 1)) + 1)))], by kernel_rfl, l2_same (by kernel_rfl) (by kernel_rfl)⟩, trivial⟩)) (⟨t_same (by kernel_rfl) (by kernel_rfl), t_same (by kernel_rfl) (by kernel_rfl), trivial⟩) (fleetmake_Stream_Some_o1_ok _ _ _ h11) (left_of (by kernel_rfl))) (.v (.one (.d (.str vr2)))) [(13002, none)] [(0, some [.d (.lst (List.map (encI .i64) vs1.L)), .d (.int .i64 (IntKind.wrap .i64 ((IntKind.wrap .i64 ((IntKind.wrap .i64 (vs1.at_ + 1)) + 1)) + 1)))])] (by kernel_rfl) ?_
      refine aops_eff hΓ (.v (.one (.ep 1 vr3.toNat 0))) [] [] (by kernel_rfl) ?_
      refine aops_eff hΓ (.v (.one (.ep 1 vr3.toNat 0))) [] [] (by kernel_rfl) ?_
      refine aops_eff hΓ (.undef) [(1, some ⟨42, 4, List.map api_Sample.enc (vr5.set vr3.toNat (api_Sample.mk vr2 vy.Metric vy.At vy.Value))⟩)] [] (opx_of (by kernel_rfl) (by kernel_rfl) (eff_storeE (ti := ti9) (id := 1) (off := 0) (n := vr3) (et := 42) (sz := 4) (l := vr5) (f := api_Sample.enc) (y := vy) (z := (api_Sample.mk vr2 vy.Metric vy.At vy.Value)) (tv := .one (.d (.str vr2))) (vs := [.str vr2]) (by kernel_rfl) (by kernel_rfl) (by kernel_rfl) h8 (by kernel_rfl) (by kernel_rfl) (by kernel_rfl) (by kernel_rfl))) ?_
      refine aops_nil ?_
      obtain rfl := some_eq hF
      exact out_intro rfl (to_see [] [] ⟨[(1, ⟨42, 4, List.map api_Sample.enc (vr5.set vr3.toNat (api_Sample.mk vr2 vy.Metric vy.At vy.Value))⟩)], [(0, [.d (.lst (List.map (encI .i64) vs1.L)), .d (.int .i64 (IntKind.wrap .i64 ((IntKind.wrap .i64 ((IntKind.wrap .i64 (vs1.at_ + 1)) + 1)) + 1)))])]⟩ [(0, .v (.one (.box 0 0))), (5, .v (.one (.own 1 none)))] 2 (by kernel_rfl) (by kernel_rfl) (lowc_of (by kernel_rfl)) (⟨.inr ⟨by kernel_rfl, by kernel_rfl⟩, trivial⟩) (⟨⟨by kernel_rfl, [.d (.lst (List.map (encI .i64) vs1.L)), .d (.int .i64 (IntKind.wrap .i64 ((IntKind.wrap .i64 ((IntKind.wrap .i64 (vs1.at_ + 1)) + 1)) + 1)))], by kernel_rfl, l2_same (by kernel_rfl) (by kernel_rfl)⟩, trivial⟩) (⟨t_same (by kernel_rfl) (by kernel_rfl), t_same (by kernel_rfl) (by kernel_rfl), trivial⟩))
    · refine awp_false (by kernel_rfl) h10 ?_
      refine awp_seq ?_
      refine awp_region' 11002 13002 (by kernel_rfl) (by kernel_rfl) ?_
      refine aops_eff hΓ (.v (.one (.d (.bool (decide (vr3_1 = 1)))))) [] [] (by kernel_rfl) ?_
      refine aops_eff hΓ (.v (.one (.d (.bool (decide (vr3_1 = 1)))))) [] [] (by kernel_rfl) ?_
      refine aops_nil ?_
      rcases cond_or hF with ⟨h12, hF⟩ | ⟨h12, hF⟩
      · refine awp_true (by kernel_rfl) h12 ?_
        obtain ⟨vr4, h13, hF⟩ := bind_some hF
        refine awp_region' 13002 20002 (by kernel_rfl) (by kernel_rfl) ?_
        refine aops_eff hΓ (.v (.one (.ep 1 vr3.toNat 0))) [] [] (by kernel_rfl) ?_
        refine aops_eff hΓ (.v (.one (.box 0 0))) [] [] (by kernel_rfl) ?_
        refine aops_eff hΓ (.v (.one (.own 15002 none))) [(15002, some ⟨9, 1, List.map encS ([([] : List UInt8), ([110] : List UInt8)] : List (List UInt8))⟩)] [] (by kernel_rfl) ?_
        refine aops_call (by kernel_rfl) (by kernel_rfl) (does_call (f := (.func 28)) (g := 28) (caps := []) (tvs := [.v (.one (.box 0 0)), .v (.one (.own 15002 none))]) (al := [.v (.one (.box 0 0)), .v (.one (.own 1 none))]) (m := ⟨[(1, ⟨9, 1, List.map encS ([([] : List UInt8), ([110] : List UInt8)] : List (List UInt8))⟩)], [(0, [.d (.lst (List.map (encI .i64) vs1.L)), .d (.int .i64 (IntKind.wrap .i64 ((IntKind.wrap .i64 (vs1.at_ + 1)) + 1)))])]⟩) (m' := ⟨[], [(0, [.d (.lst (List.map (encI .i64) vs1.L)), .d (.int .i64 (IntKind.wrap .i64 ((IntKind.wrap .i64 ((IntKind.wrap .i64 (vs1.at_ + 1)) + 1)) + 1)))])]⟩) (tv := .v (.one (.d (.str vr4)))) (lens := []) rfl (by kernel_rfl) (by kernel_rfl) (sees_of (rl := [(1, 15002)]) (nl := []) (by kernel_rfl) (⟨.inr ⟨by kernel_rfl, by kernel_rfl⟩, trivial⟩) (⟨⟨by kernel_rfl, [.d (.lst (List.map (encI .i64) vs1.L)), .d (.int .i64 (IntKind.wrap .i64 ((IntKind.wrap .i64 (vs1.at_ + 1)) + 1)))], by kernel_rfl, l2_same (by kernel_rfl) (by kernel_rfl)⟩, trivial⟩)) (⟨t_same (by kernel_rfl) (by kernel_rfl), t_same (by kernel_rfl) (by kernel_rfl), trivial⟩) (fleetmake_Stream_Some_o1_ok _ _ _ h13) (left_of (by kernel_rfl))) (.v (.one (.d (.str vr4)))) [(15002, none)] [(0, some [.d (.lst (List.map (encI .i64) vs1.L)), .d (.int .i64 (IntKind.wrap .i64 ((IntKind.wrap .i64 ((IntKind.wrap .i64 (vs1.at_ + 1)) + 1)) + 1)))])] (by kernel_rfl) ?_
        refine aops_eff hΓ (.v (.one (.ep 1 vr3.toNat 0))) [] [] (by kernel_rfl) ?_
        refine aops_eff hΓ (.v (.one (.ep 1 vr3.toNat 1))) [] [] (by kernel_rfl) ?_
        refine aops_eff hΓ (.undef) [(1, some ⟨42, 4, List.map api_Sample.enc (vr5.set vr3.toNat (api_Sample.mk vy.Device vr4 vy.At vy.Value))⟩)] [] (opx_of (by kernel_rfl) (by kernel_rfl) (eff_storeE (ti := ti9) (id := 1) (off := 1) (n := vr3) (et := 42) (sz := 4) (l := vr5) (f := api_Sample.enc) (y := vy) (z := (api_Sample.mk vy.Device vr4 vy.At vy.Value)) (tv := .one (.d (.str vr4))) (vs := [.str vr4]) (by kernel_rfl) (by kernel_rfl) (by kernel_rfl) h8 (by kernel_rfl) (by kernel_rfl) (by kernel_rfl) (by kernel_rfl))) ?_
        refine aops_nil ?_
        obtain rfl := some_eq hF
        exact out_intro rfl (to_see [] [] ⟨[(1, ⟨42, 4, List.map api_Sample.enc (vr5.set vr3.toNat (api_Sample.mk vy.Device vr4 vy.At vy.Value))⟩)], [(0, [.d (.lst (List.map (encI .i64) vs1.L)), .d (.int .i64 (IntKind.wrap .i64 ((IntKind.wrap .i64 ((IntKind.wrap .i64 (vs1.at_ + 1)) + 1)) + 1)))])]⟩ [(0, .v (.one (.box 0 0))), (5, .v (.one (.own 1 none)))] 2 (by kernel_rfl) (by kernel_rfl) (lowc_of (by kernel_rfl)) (⟨.inr ⟨by kernel_rfl, by kernel_rfl⟩, trivial⟩) (⟨⟨by kernel_rfl, [.d (.lst (List.map (encI .i64) vs1.L)), .d (.int .i64 (IntKind.wrap .i64 ((IntKind.wrap .i64 ((IntKind.wrap .i64 (vs1.at_ + 1)) + 1)) + 1)))], by kernel_rfl, l2_same (by kernel_rfl) (by kernel_rfl)⟩, trivial⟩) (⟨t_same (by kernel_rfl) (by kernel_rfl), t_same (by kernel_rfl) (by kernel_rfl), trivial⟩))
      · refine awp_false (by kernel_rfl) h12 ?_
        refine awp_seq ?_
        refine awp_region' 13002 15002 (by kernel_rfl) (by kernel_rfl) ?_
        refine aops_eff hΓ (.v (.one (.d (.bool (decide (vr3_1 = 2)))))) [] [] (by kernel_rfl) ?_
        refine aops_eff hΓ (.v (.one (.d (.bool (decide (vr3_1 = 2)))))) [] [] (by kernel_rfl) ?_
        refine aops_nil ?_
        rcases cond_or hF with ⟨h14, hF⟩ | ⟨h14, hF⟩
        · refine awp_true (by kernel_rfl) h14 ?_
          obtain ⟨⟨vs1_1, vr3_2⟩, h15, hF⟩ := bind_some hF
          refine awp_region' 15002 21002 (by kernel_rfl) (by kernel_rfl) ?_
          refine aops_eff hΓ (.v (.one (.ep 1 vr3.toNat 0))) [] [] (by kernel_rfl) ?_
          refine aops_eff hΓ (.v (.one (.box 0 0))) [] [] (by kernel_rfl) ?_
          refine aops_call (by kernel_rfl) (by kernel_rfl) (does_call (f := (.func 70)) (g := 70) (caps := []) (tvs := [.v (.one (.box 0 0)), .v (.one (.d (.int .i64 0))), .v (.one (.d (.int .i64 100)))]) (al := [.v (.one (.box 0 0)), .v (.one (.d (.int .i64 0))), .v (.one (.d (.int .i64 100)))]) (m := ⟨[], [(0, [.d (.lst (List.map (encI .i64) vs1.L)), .d (.int .i64 (IntKind.wrap .i64 ((IntKind.wrap .i64 (vs1.at_ + 1)) + 1)))])]⟩) (m' := ⟨[], [(0, [.d (.lst (List.map (encI .i64) vs1_1.L)), .d (.int .i64 vs1_1.at_)])]⟩) (tv := .v (.one (.d (.int .i64 vr3_2)))) (lens := []) rfl (by kernel_rfl) (by kernel_rfl) (sees_of (rl := []) (nl := []) (by kernel_rfl) trivial (⟨⟨by kernel_rfl, [.d (.lst (List.map (encI .i64) vs1.L)), .d (.int .i64 (IntKind.wrap .i64 ((IntKind.wrap .i64 (vs1.at_ + 1)) + 1)))], by kernel_rfl, l2_same (by kernel_rfl) (by kernel_rfl)⟩, trivial⟩)) (⟨t_same (by kernel_rfl) (by kernel_rfl), t_same (by kernel_rfl) (by kernel_rfl), t_same (by kernel_rfl) (by kernel_rfl), trivial⟩) (fleetmake_Stream_Odd_ok _ _ _ _ h15) (left_of (by kernel_rfl))) (.v (.one (.d (.int .i64 vr3_2)))) [] [(0, some [.d (.lst (List.map (encI .i64) vs1_1.L)), .d (.int .i64 vs1_1.at_)])] (by kernel_rfl) ?_
          refine aops_eff hΓ (.v (.one (.ep 1 vr3.toNat 0))) [] [] (by kernel_rfl) ?_
          refine aops_eff hΓ (.v (.one (.ep 1 vr3.toNat 2))) [] [] (by kernel_rfl) ?_
          refine aops_eff hΓ (.undef) [(1, some ⟨42, 4, List.map api_Sample.enc (vr5.set vr3.toNat (api_Sample.mk vy.Device vy.Metric vr3_2 vy.Value))⟩)] [] (opx_of (by kernel_rfl) (by kernel_rfl) (eff_storeE (ti := ti3) (id := 1) (off := 2) (n := vr3) (et := 42) (sz := 4) (l := vr5) (f := api_Sample.enc) (y := vy) (z := (api_Sample.mk vy.Device vy.Metric vr3_2 vy.Value)) (tv := .one (.d (.int .i64 vr3_2))) (vs := [.int .i64 vr3_2]) (by kernel_rfl) (by kernel_rfl) (by kernel_rfl) h8 (by kernel_rfl) (by kernel_rfl) (by kernel_rfl) (by kernel_rfl))) ?_
          refine aops_nil ?_
          obtain rfl := some_eq hF
          exact out_intro rfl (to_see [] [] ⟨[(1, ⟨42, 4, List.map api_Sample.enc (vr5.set vr3.toNat (api_Sample.mk vy.Device vy.Metric vr3_2 vy.Value))⟩)], [(0, [.d (.lst (List.map (encI .i64) vs1_1.L)), .d (.int .i64 vs1_1.at_)])]⟩ [(0, .v (.one (.box 0 0))), (5, .v (.one (.own 1 none)))] 2 (by kernel_rfl) (by kernel_rfl) (lowc_of (by kernel_rfl)) (⟨.inr ⟨by kernel_rfl, by kernel_rfl⟩, trivial⟩) (⟨⟨by kernel_rfl, [.d (.lst (List.map (encI .i64) vs1_1.L)), .d (.int .i64 vs1_1.at_)], by kernel_rfl, l2_same (by kernel_rfl) (by kernel_rfl)⟩, trivial⟩) (⟨t_same (by kernel_rfl) (by kernel_rfl), t_same (by kernel_rfl) (by kernel_rfl), trivial⟩))
        · refine awp_false (by kernel_rfl) h14 ?_
          obtain ⟨⟨vs1_2, vr3_3⟩, h16, hF⟩ := bind_some hF
          refine awp_region' 15002 21002 (by kernel_rfl) (by kernel_rfl) ?_
          refine aops_eff hΓ (.v (.one (.ep 1 vr3.toNat 0))) [] [] (by kernel_rfl) ?_
          refine aops_eff hΓ (.v (.one (.box 0 0))) [] [] (by kernel_rfl) ?_
          refine aops_call (by kernel_rfl) (by kernel_rfl) (does_call (f := (.func 70)) (g := 70) (caps := []) (tvs := [.v (.one (.box 0 0)), .v (.one (.d (.int .i64 (-1000000000)))), .v (.one (.d (.int .i64 1000000000)))]) (al := [.v (.one (.box 0 0)), .v (.one (.d (.int .i64 (-1000000000)))), .v (.one (.d (.int .i64 1000000000)))]) (m := ⟨[], [(0, [.d (.lst (List.map (encI .i64) vs1.L)), .d (.int .i64 (IntKind.wrap .i64 ((IntKind.wrap .i64 (vs1.at_ + 1)) + 1)))])]⟩) (m' := ⟨[], [(0, [.d (.lst (List.map (encI .i64) vs1_2.L)), .d (.int .i64 vs1_2.at_)])]⟩) (tv := .v (.one (.d (.int .i64 vr3_3)))) (lens := []) rfl (by kernel_rfl) (by kernel_rfl) (sees_of (rl := []) (nl := []) (by kernel_rfl) trivial (⟨⟨by kernel_rfl, [.d (.lst (List.map (encI .i64) vs1.L)), .d (.int .i64 (IntKind.wrap .i64 ((IntKind.wrap .i64 (vs1.at_ + 1)) + 1)))], by kernel_rfl, l2_same (by kernel_rfl) (by kernel_rfl)⟩, trivial⟩)) (⟨t_same (by kernel_rfl) (by kernel_rfl), t_same (by kernel_rfl) (by kernel_rfl), t_same (by kernel_rfl) (by kernel_rfl), trivial⟩) (fleetmake_Stream_Odd_ok _ _ _ _ h16) (left_of (by kernel_rfl))) (.v (.one (.d (.int .i64 vr3_3)))) [] [(0, some [.d (.lst (List.map (encI .i64) vs1_2.L)), .d (.int .i64 vs1_2.at_)])] (by kernel_rfl) ?_
          refine aops_eff hΓ (.v (.one (.ep 1 vr3.toNat 0))) [] [] (by kernel_rfl) ?_
          refine aops_eff hΓ (.v (.one (.ep 1 vr3.toNat 3))) [] [] (by kernel_rfl) ?_
          refine aops_eff hΓ (.undef) [(1, some ⟨42, 4, List.map api_Sample.enc (vr5.set vr3.toNat (api_Sample.mk vy.Device vy.Metric vy.At vr3_3))⟩)] [] (opx_of (by kernel_rfl) (by kernel_rfl) (eff_storeE (ti := ti3) (id := 1) (off := 3) (n := vr3) (et := 42) (sz := 4) (l := vr5) (f := api_Sample.enc) (y := vy) (z := (api_Sample.mk vy.Device vy.Metric vy.At vr3_3)) (tv := .one (.d (.int .i64 vr3_3))) (vs := [.int .i64 vr3_3]) (by kernel_rfl) (by kernel_rfl) (by kernel_rfl) h8 (by kernel_rfl) (by kernel_rfl) (by kernel_rfl) (by kernel_rfl))) ?_
          refine aops_nil ?_
          obtain rfl := some_eq hF
          exact out_intro rfl (to_see [] [] ⟨[(1, ⟨42, 4, List.map api_Sample.enc (vr5.set vr3.toNat (api_Sample.mk vy.Device vy.Metric vy.At vr3_3))⟩)], [(0, [.d (.lst (List.map (encI .i64) vs1_2.L)), .d (.int .i64 vs1_2.at_)])]⟩ [(0, .v (.one (.box 0 0))), (5, .v (.one (.own 1 none)))] 2 (by kernel_rfl) (by kernel_rfl) (lowc_of (by kernel_rfl)) (⟨.inr ⟨by kernel_rfl, by kernel_rfl⟩, trivial⟩) (⟨⟨by kernel_rfl, [.d (.lst (List.map (encI .i64) vs1_2.L)), .d (.int .i64 vs1_2.at_)], by kernel_rfl, l2_same (by kernel_rfl) (by kernel_rfl)⟩, trivial⟩) (⟨t_same (by kernel_rfl) (by kernel_rfl), t_same (by kernel_rfl) (by kernel_rfl), trivial⟩))
  · refine awp_false (by kernel_rfl) h6 ?_
    refine awp_skip ?_
    obtain rfl := some_eq hF
    exact out_intro rfl (to_see [] [] ⟨[(1, ⟨42, 4, List.map api_Sample.enc vr5⟩)], [(0, [.d (.lst (List.map (encI .i64) vs1.L)), .d (.int .i64 vs1.at_)])]⟩ [(0, .v (.one (.box 0 0))), (5, .v (.one (.own 1 none)))] 2 (by kernel_rfl) (by kernel_rfl) (lowc_of (by kernel_rfl)) (⟨.inr ⟨by kernel_rfl, by kernel_rfl⟩, trivial⟩) (⟨⟨by kernel_rfl, [.d (.lst (List.map (encI .i64) vs1.L)), .d (.int .i64 vs1.at_)], by kernel_rfl, l2_same (by kernel_rfl) (by kernel_rfl)⟩, trivial⟩) (⟨t_same (by kernel_rfl) (by kernel_rfl), t_same (by kernel_rfl) (by kernel_rfl), trivial⟩))

def fleetmake_Stream_Series_x4_k : (fleetmake_Stream × Bool) → AEx
  | _ => .normal

def fleetmake_Stream_Series_x4_S (vs2_1 : fleetmake_Stream) (vx2_1 : List api_Sample) : (fleetmake_Stream × Bool) → St
  | (vs4, vx3) => Mem.st ⟨[(1, ⟨42, 4, List.map api_Sample.enc vx2_1⟩)], [(0, [.d (.lst (List.map (encI .i64) vs4.L)), .d (.int .i64 vs4.at_)])]⟩ (tl [(0, .v (.one (.box 0 0))), (5, .v (.one (.own 1 none))), (63, .v (.one (.d (.bool vx3))))]) 2

theorem fleetmake_Stream_Series_x4_ok (vs2_1 : fleetmake_Stream) (vx2_1 : List api_Sample) (r : (fleetmake_Stream × Bool)) (hF : fleetmake_Stream_Series_x4 vs2_1 vx2_1 = some r) : Awp prog 1 82 (cL (cL (cR (cR (cR (cB f15)))))) (Out 1 fleetmake_Stream_Series_x4_k (fleetmake_Stream_Series_x4_S vs2_1 vx2_1) r) (Mem.st ⟨[(1, ⟨42, 4, List.map api_Sample.enc vx2_1⟩)], [(0, [.d (.lst (List.map (encI .i64) vs2_1.L)), .d (.int .i64 vs2_1.at_)])]⟩ (tl [(0, .v (.one (.box 0 0))), (5, .v (.one (.own 1 none)))]) 2) := by
  unfold fleetmake_Stream_Series_x4 at hF
  rcases cond_or hF with ⟨h18, hF⟩ | ⟨h18, hF⟩
  · obtain ⟨vr6, h19, hF⟩ := bind_some hF
    refine awp_region' 2 7002 (by kernel_rfl) (by kernel_rfl) ?_
    refine aops_eff hΓ (.v (.one (.own 1 none))) [] [] (by kernel_rfl) ?_
    refine aops_eff hΓ (.v (.one (.d (.int .i64 (vx2_1.length : Int))))) [] [] (opx_len (f := api_Sample.enc) (l := vx2_1) (by kernel_rfl)) ?_
    refine aops_eff hΓ (.v (.one (.d (.bool true)))) [] [] (opx_b (by kernel_rfl) h18) ?_
    refine aops_eff hΓ (.v (.one (.d (.bool true)))) [] [] (by kernel_rfl) ?_
    refine aops_eff hΓ (.v (.one (.box 0 0))) [] [] (by kernel_rfl) ?_
    refine aops_call (by kernel_rfl) (by kernel_rfl) (does_call (f := (.func 18)) (g := 18) (caps := []) (tvs := [.v (.one (.box 0 0)), .v (.one (.d (.int .i64 25)))]) (al := [.v (.one (.box 0 0)), .v (.one (.d (.int .i64 25)))]) (m := ⟨[], [(0, [.d (.lst (List.map (encI .i64) vs2_1.L)), .d (.int .i64 vs2_1.at_)])]⟩) (m' := ⟨[], [(0, [.d (.lst (List.map (encI .i64) vs2_1.L)), .d (.int .i64 (IntKind.wrap .i64 (vs2_1.at_ + 1)))])]⟩) (tv := .v (.one (.d (.bool vr6)))) (lens := []) rfl (by kernel_rfl) (by kernel_rfl) (sees_of (rl := []) (nl := []) (by kernel_rfl) trivial (⟨⟨by kernel_rfl, [.d (.lst (List.map (encI .i64) vs2_1.L)), .d (.int .i64 vs2_1.at_)], by kernel_rfl, l2_same (by kernel_rfl) (by kernel_rfl)⟩, trivial⟩)) (⟨t_same (by kernel_rfl) (by kernel_rfl), t_same (by kernel_rfl) (by kernel_rfl), trivial⟩) (fleetmake_Stream_Flip_ok _ _ _ h19) (left_of (by kernel_rfl))) (.v (.one (.d (.bool vr6)))) [] [(0, some [.d (.lst (List.map (encI .i64) vs2_1.L)), .d (.int .i64 (IntKind.wrap .i64 (vs2_1.at_ + 1)))])] (by kernel_rfl) ?_
    refine aops_eff hΓ (.v (.one (.d (.bool vr6)))) [] [] (by kernel_rfl) ?_
    refine aops_nil ?_
    obtain rfl := some_eq hF
    exact out_intro rfl (to_see [] [] ⟨[(1, ⟨42, 4, List.map api_Sample.enc vx2_1⟩)], [(0, [.d (.lst (List.map (encI .i64) vs2_1.L)), .d (.int .i64 (IntKind.wrap .i64 (vs2_1.at_ + 1)))])]⟩ [(0, .v (.one (.box 0 0))), (5, .v (.one (.own 1 none))), (63, .v (.one (.d (.bool vr6))))] 2 (by kernel_rfl) (by kernel_rfl) (lowc_of (by kernel_rfl)) (⟨.inr ⟨by kernel_rfl, by kernel_rfl⟩, trivial⟩) (⟨⟨by kernel_rfl, [.d (.lst (List.map (encI .i64) vs2_1.L)), .d (.int .i64 (IntKind.wrap .i64 (vs2_1.at_ + 1)))], by kernel_rfl, l2_same (by kernel_rfl) (by kernel_rfl)⟩, trivial⟩) (⟨t_same (by kernel_rfl) (by kernel_rfl), t_same (by kernel_rfl) (by kernel_rfl), t_same (by kernel_rfl) (by kernel_rfl), trivial⟩))
  · refine awp_region' 2 7002 (by kernel_rfl) (by kernel_rfl) ?_
    refine aops_eff hΓ (.v (.one (.own 1 none))) [] [] (by kernel_rfl) ?_
    refine aops_eff hΓ (.v (.one (.d (.int .i64 (vx2_1.length : Int))))) [] [] (opx_len (f := api_Sample.enc) (l := vx2_1) (by kernel_rfl)) ?_
    refine aops_eff hΓ (.v (.one (.d (.bool false)))) [] [] (opx_b (by kernel_rfl) h18) ?_
    refine aops_eff hΓ (.v (.one (.d (.bool false)))) [] [] (by kernel_rfl) ?_
    refine aops_skip' (by kernel_rfl) ?_
    refine aops_skip' (by kernel_rfl) ?_
    refine aops_eff hΓ (.v (.one (.d (.bool false)))) [] [] (by kernel_rfl) ?_
    refine aops_nil ?_
    obtain rfl := some_eq hF
    exact out_intro rfl (to_see [] [] ⟨[(1, ⟨42, 4, List.map api_Sample.enc vx2_1⟩)], [(0, [.d (.lst (List.map (encI .i64) vs2_1.L)), .d (.int .i64 vs2_1.at_)])]⟩ [(0, .v (.one (.box 0 0))), (5, .v (.one (.own 1 none))), (63, .v (.one (.d (.bool false))))] 2 (by kernel_rfl) (by kernel_rfl) (lowc_of (by kernel_rfl)) (⟨.inr ⟨by kernel_rfl, by kernel_rfl⟩, trivial⟩) (⟨⟨by kernel_rfl, [.d (.lst (List.map (encI .i64) vs2_1.L)), .d (.int .i64 vs2_1.at_)], by kernel_rfl, l2_same (by kernel_rfl) (by kernel_rfl)⟩, trivial⟩) (⟨t_same (by kernel_rfl) (by kernel_rfl), t_same (by kernel_rfl) (by kernel_rfl), t_same (by kernel_rfl) (by kernel_rfl), trivial⟩))

def fleetmake_Stream_Series_x3_k : (fleetmake_Stream × (List api_Sample)) → AEx
  | _ => .normal

def fleetmake_Stream_Series_x3_S (vs2_1 : fleetmake_Stream) (vx2_1 : List api_Sample) : (fleetmake_Stream × (List api_Sample)) → St
  | (vs5, vx4) => Mem.st ⟨[(1, ⟨42, 4, List.map api_Sample.enc vx4⟩)], [(0, [.d (.lst (List.map (encI .i64) vs5.L)), .d (.int .i64 vs5.at_)])]⟩ (tl [(5, .v (.one (.own 1 none)))]) 2

theorem fleetmake_Stream_Series_x3_ok (vs2_1 : fleetmake_Stream) (vx2_1 : List api_Sample) (r : (fleetmake_Stream × (List api_Sample))) (hF : fleetmake_Stream_Series_x3 vs2_1 vx2_1 = some r) : Awp prog 1 82 (cL (cR (cR (cR (cB f15))))) (Out 1 fleetmake_Stream_Series_x3_k (fleetmake_Stream_Series_x3_S vs2_1 vx2_1) r) (Mem.st ⟨[(1, ⟨42, 4, List.map api_Sample.enc vx2_1⟩)], [(0, [.d (.lst (List.map (encI .i64) vs2_1.L)), .d (.int .i64 vs2_1.at_)])]⟩ (tl [(0, .v (.one (.box 0 0))), (5, .v (.one (.own 1 none)))]) 2) := by
  unfold fleetmake_Stream_Series_x3 at hF
  refine awp_seq ?_
  refine awp_to (to_see [] [] ⟨[(1, ⟨42, 4, List.map api_Sample.enc vx2_1⟩)], [(0, [.d (.lst (List.map (encI .i64) vs2_1.L)), .d (.int .i64 vs2_1.at_)])]⟩ [(0, .v (.one (.box 0 0))), (5, .v (.one (.own 1 none)))] 2 (by kernel_rfl) (by kernel_rfl) (lowc_of (by kernel_rfl)) (⟨.inr ⟨by kernel_rfl, by kernel_rfl⟩, trivial⟩) (⟨⟨by kernel_rfl, [.d (.lst (List.map (encI .i64) vs2_1.L)), .d (.int .i64 vs2_1.at_)], by kernel_rfl, l2_same (by kernel_rfl) (by kernel_rfl)⟩, trivial⟩) (⟨t_same (by kernel_rfl) (by kernel_rfl), t_same (by kernel_rfl) (by kernel_rfl), trivial⟩)) ?_
  obtain ⟨⟨vs4_1, vx3_1⟩, h20, hF⟩ := bind_some hF
  refine awp_sub (fleetmake_Stream_Series_x4_ok vs2_1 vx2_1 _ h20) ?_
  rcases cond_or hF with ⟨h21, hF⟩ | ⟨h21, hF⟩
  · refine awp_true (by kernel_rfl) h21 ?_
    refine awp_seq ?_
    obtain ⟨vy1, h22, hF⟩ := bind_some hF
    refine awp_region' 2 6002 (by kernel_rfl) (by kernel_rfl) ?_
    refine aops_eff hΓ (.v (.one (.own 1 none))) [] [] (by kernel_rfl) ?_
    refine aops_eff hΓ (.v (.one (.own 1 none))) [] [] (by kernel_rfl) ?_
    refine aops_eff hΓ (.v (.one (.d (.int .i64 (vx2_1.length : Int))))) [] [] (opx_len (f := api_Sample.enc) (l := vx2_1) (by kernel_rfl)) ?_
    refine aops_eff hΓ (.v (.one (.d (.int .i64 (IntKind.wrap .i64 ((vx2_1.length : Int) - 1)))))) [] [] (by kernel_rfl) ?_
    refine aops_eff hΓ (.v (.one (.ep 1 (IntKind.wrap .i64 ((vx2_1.length : Int) - 1)).toNat 0))) [] [] (opx_of (by kernel_rfl) (by kernel_rfl) (eff_indexAddrO (k := .i64) (ti := ti26) (te := ti42) (l := vx2_1) (f := api_Sample.enc) (y := vy1) (by kernel_rfl) rfl (by kernel_rfl) (by kernel_rfl) (by kernel_rfl) (by kernel_rfl) h22)) ?_
    refine aops_eff hΓ (.v (.one (.ep 1 (IntKind.wrap .i64 ((vx2_1.length : Int) - 1)).toNat 0))) [] [] (by kernel_rfl) ?_
    refine aops_nil ?_
    obtain ⟨vr7, h23, hF⟩ := bind_some hF
    obtain ⟨vr8, h24, hF⟩ := bind_some hF
    refine awp_region' 6002 20002 (by kernel_rfl) (by kernel_rfl) ?_
    refine aops_eff hΓ (.v (.one (.ep 1 (IntKind.wrap .i64 ((vx2_1.length : Int) - 1)).toNat 0))) [] [] (by kernel_rfl) ?_
    refine aops_eff hΓ (.v (.one (.ep 1 (IntKind.wrap .i64 ((vx2_1.length : Int) - 1)).toNat 0))) [] [] (by kernel_rfl) ?_
    refine aops_eff hΓ (.v (.one (.box 0 0))) [] [] (by kernel_rfl) ?_
    refine aops_eff hΓ (.v (.one (.own 9002 none))) [(9002, some ⟨3, 1, List.map (encI .i64) ([345686399999, 3456000000, 950400000] : List Int)⟩)] [] (by kernel_rfl) ?_
    refine aops_call (by kernel_rfl) (by kernel_rfl) (does_call (f := (.func 17)) (g := 17) (caps := []) (tvs := [.v (.one (.box 0 0)), .v (.one (.own 9002 none))]) (al := [.v (.one (.box 0 0)), .v (.one (.own 1 none))]) (m := ⟨[(1, ⟨3, 1, List.map (encI .i64) ([345686399999, 3456000000, 950400000] : List Int)⟩)], [(0, [.d (.lst (List.map (encI .i64) vs4_1.L)), .d (.int .i64 vs4_1.at_)])]⟩) (m' := ⟨[], [(0, [.d (.lst (List.map (encI .i64) vs4_1.L)), .d (.int .i64 (IntKind.wrap .i64 (vs4_1.at_ + 1)))])]⟩) (tv := .v (.one (.d (.int .i64 vr7)))) (lens := []) rfl (by kernel_rfl) (by kernel_rfl) (sees_of (rl := [(1, 9002)]) (nl := []) (by kernel_rfl) (⟨.inr ⟨by kernel_rfl, by kernel_rfl⟩, trivial⟩) (⟨⟨by kernel_rfl, [.d (.lst (List.map (encI .i64) vs4_1.L)), .d (.int .i64 vs4_1.at_)], by kernel_rfl, l2_same (by kernel_rfl) (by kernel_rfl)⟩, trivial⟩)) (⟨t_same (by kernel_rfl) (by kernel_rfl), t_same (by kernel_rfl) (by kernel_rfl), trivial⟩) (fleetmake_Stream_Pick_o1_ok _ _ _ h23) (left_of (by kernel_rfl))) (.v (.one (.d (.int .i64 vr7)))) [(9002, none)] [(0, some [.d (.lst (List.map (encI .i64) vs4_1.L)), .d (.int .i64 (IntKind.wrap .i64 (vs4_1.at_ + 1)))])] (by kernel_rfl) ?_
    refine aops_eff hΓ (.v (.one (.box 0 0))) [] [] (by kernel_rfl) ?_
    refine aops_eff hΓ (.v (.one (.own 12002 none))) [(12002, some ⟨3, 1, List.map (encI .i64) ([1000000000, (-1000000000)] : List Int)⟩)] [] (by kernel_rfl) ?_
    refine aops_call (by kernel_rfl) (by kernel_rfl) (does_call (f := (.func 17)) (g := 17) (caps := []) (tvs := [.v (.one (.box 0 0)), .v (.one (.own 12002 none))]) (al := [.v (.one (.box 0 0)), .v (.one (.own 1 none))]) (m := ⟨[(1, ⟨3, 1, List.map (encI .i64) ([1000000000, (-1000000000)] : List Int)⟩)], [(0, [.d (.lst (List.map (encI .i64) vs4_1.L)), .d (.int .i64 (IntKind.wrap .i64 (vs4_1.at_ + 1)))])]⟩) (m' := ⟨[], [(0, [.d (.lst (List.map (encI .i64) vs4_1.L)), .d (.int .i64 (IntKind.wrap .i64 ((IntKind.wrap .i64 (vs4_1.at_ + 1)) + 1)))])]⟩) (tv := .v (.one (.d (.int .i64 vr8)))) (lens := []) rfl (by kernel_rfl) (by kernel_rfl) (sees_of (rl := [(1, 12002)]) (nl := []) (by kernel_rfl) (⟨.inr ⟨by kernel_rfl, by kernel_rfl⟩, trivial⟩) (⟨⟨by kernel_rfl, [.d (.lst (List.map (encI .i64) vs4_1.L)), .d (.int .i64 (IntKind.wrap .i64 (vs4_1.at_ + 1)))], by kernel_rfl, l2_same (by kernel_rfl) (by kernel_rfl)⟩, trivial⟩)) (⟨t_same (by kernel_rfl) (by kernel_rfl), t_same (by kernel_rfl) (by kernel_rfl), trivial⟩) (fleetmake_Stream_Pick_o1_ok _ _ _ h24) (left_of (by kernel_rfl))) (.v (.one (.d (.int .i64 vr8)))) [(12002, none)] [(0, some [.d (.lst (List.map (encI .i64) vs4_1.L)), .d (.int .i64 (IntKind.wrap .i64 ((IntKind.wrap .i64 (vs4_1.at_ + 1)) + 1)))])] (by kernel_rfl) ?_
    refine aops_eff hΓ (.v (.one (.ep 1 (IntKind.wrap .i64 ((vx2_1.length : Int) - 1)).toNat 0))) [] [] (by kernel_rfl) ?_
    refine aops_eff hΓ (.v (.one (.ep 1 (IntKind.wrap .i64 ((vx2_1.length : Int) - 1)).toNat 2))) [] [] (by kernel_rfl) ?_
    refine aops_eff hΓ (.undef) [(1, some ⟨42, 4, List.map api_Sample.enc (vx2_1.set (IntKind.wrap .i64 ((vx2_1.length : Int) - 1)).toNat (api_Sample.mk vy1.Device vy1.Metric vr7 vy1.Value))⟩)] [] (opx_of (by kernel_rfl) (by kernel_rfl) (eff_storeE (ti := ti3) (id := 1) (off := 2) (n := (IntKind.wrap .i64 ((vx2_1.length : Int) - 1))) (et := 42) (sz := 4) (l := vx2_1) (f := api_Sample.enc) (y := vy1) (z := (api_Sample.mk vy1.Device vy1.Metric vr7 vy1.Value)) (tv := .one (.d (.int .i64 vr7))) (vs := [.int .i64 vr7]) (by kernel_rfl) (by kernel_rfl) (by kernel_rfl) h22 (by kernel_rfl) (by kernel_rfl) (by kernel_rfl) (by kernel_rfl))) ?_
    refine aops_eff hΓ (.v (.one (.ep 1 (IntKind.wrap .i64 ((vx2_1.length : Int) - 1)).toNat 0))) [] [] (by kernel_rfl) ?_
    refine aops_eff hΓ (.v (.one (.ep 1 (IntKind.wrap .i64 ((vx2_1.length : Int) - 1)).toNat 3))) [] [] (by kernel_rfl) ?_
    refine aops_eff hΓ (.undef) [(1, some ⟨42, 4, List.map api_Sample.enc ((vx2_1.set (IntKind.wrap .i64 ((vx2_1.length : Int) - 1)).toNat (api_Sample.mk vy1.Device vy1.Metric vr7 vy1.Value)).set (IntKind.wrap .i64 ((vx2_1.length : Int) - 1)).toNat (api_Sample.mk vy1.Device vy1.Metric vr7 vr8))⟩)] [] (opx_of (by kernel_rfl) (by kernel_rfl) (eff_storeE (ti := ti3) (id := 1) (off := 3) (n := (IntKind.wrap .i64 ((vx2_1.length : Int) - 1))) (et := 42) (sz := 4) (l := (vx2_1.set (IntKind.wrap .i64 ((vx2_1.length : Int) - 1)).toNat (api_Sample.mk vy1.Device vy1.Metric vr7 vy1.Value))) (f := api_Sample.enc) (y := (api_Sample.mk vy1.Device vy1.Metric vr7 vy1.Value)) (z := (api_Sample.mk vy1.Device vy1.Metric vr7 vr8)) (tv := .one (.d (.int .i64 vr8))) (vs := [.int .i64 vr8]) (by kernel_rfl) (by kernel_rfl) (by kernel_rfl) (at_set (z := (api_Sample.mk vy1.Device vy1.Metric vr7 vy1.Value)) h22) (by kernel_rfl) (by kernel_rfl) (by kernel_rfl) (by kernel_rfl))) ?_
    refine aops_nil ?_
    obtain rfl := some_eq hF
    exact out_intro rfl (to_see [] [] ⟨[(1, ⟨42, 4, List.map api_Sample.enc ((vx2_1.set (IntKind.wrap .i64 ((vx2_1.length : Int) - 1)).toNat (api_Sample.mk vy1.Device vy1.Metric vr7 vy1.Value)).set (IntKind.wrap .i64 ((vx2_1.length : Int) - 1)).toNat (api_Sample.mk vy1.Device vy1.Metric vr7 vr8))⟩)], [(0, [.d (.lst (List.map (encI .i64) vs4_1.L)), .d (.int .i64 (IntKind.wrap .i64 ((IntKind.wrap .i64 (vs4_1.at_ + 1)) + 1)))])]⟩ [(5, .v (.one (.own 1 none)))] 2 (by kernel_rfl) (by kernel_rfl) (lowc_of (by kernel_rfl)) (⟨.inr ⟨by kernel_rfl, by kernel_rfl⟩, trivial⟩) (⟨⟨by kernel_rfl, [.d (.lst (List.map (encI .i64) vs4_1.L)), .d (.int .i64 (IntKind.wrap .i64 ((IntKind.wrap .i64 (vs4_1.at_ + 1)) + 1)))], by kernel_rfl, l2_same (by kernel_rfl) (by kernel_rfl)⟩, trivial⟩) (⟨t_same (by kernel_rfl) (by kernel_rfl), trivial⟩))
  · refine awp_false (by kernel_rfl) h21 ?_
    refine awp_skip ?_
    obtain rfl := some_eq hF
    exact out_intro rfl (to_see [] [] ⟨[(1, ⟨42, 4, List.map api_Sample.enc vx2_1⟩)], [(0, [.d (.lst (List.map (encI .i64) vs4_1.L)), .d (.int .i64 vs4_1.at_)])]⟩ [(5, .v (.one (.own 1 none)))] 2 (by kernel_rfl) (by kernel_rfl) (lowc_of (by kernel_rfl)) (⟨.inr ⟨by kernel_rfl, by kernel_rfl⟩, trivial⟩) (⟨⟨by kernel_rfl, [.d (.lst (List.map (encI .i64) vs4_1.L)), .d (.int .i64 vs4_1.at_)], by kernel_rfl, l2_same (by kernel_rfl) (by kernel_rfl)⟩, trivial⟩) (⟨t_same (by kernel_rfl) (by kernel_rfl), trivial⟩))

theorem fleetmake_Stream_Series_ok (qx : fleetmake_Stream) (qx1 : Int) (r : fleetmake_Stream × (List api_Sample)) (hF : fleetmake_Stream_Series qx qx1 = some r) : Holds prog 15 [.v (.one (.box 0 0)), .v (.one (.d (.int .i64 qx1)))] ⟨[], [(0, [.d (.lst (List.map (encI .i64) qx.L)), .d (.int .i64 qx.at_)])]⟩ (fun tv m => tv = .v (.one (.own 1 none)) ∧ m = ⟨[(1, ⟨42, 4, List.map api_Sample.enc r.2⟩)], [(0, [.d (.lst (List.map (encI .i64) r.1.L)), .d (.int .i64 r.1.at_)])]⟩) := by
  unfold fleetmake_Stream_Series at hF
  refine holds_of_awp hΓ (fn := f15) (c := cB f15) (A := 1) (nx := 1) (by kernel_rfl) (by kernel_rfl) (by kernel_rfl) (by kernel_rfl) (by kernel_rfl) (by kernel_rfl) (lowc_of (by kernel_rfl)) ?_
  show Awp prog 1 82 (cB f15) _ _
  refine awp_seq ?_
  refine awp_region' 1 1001 (by kernel_rfl) (by kernel_rfl) ?_
  refine aops_eff hΓ (.v (.one (.nil))) [] [] (by kernel_rfl) ?_
  refine aops_nil ?_
  refine awp_seq ?_
  obtain ⟨vr, h1, hF⟩ := bind_some hF
  obtain ⟨⟨vs3, vr5⟩, h2, hF⟩ := bind_some hF
  refine awp_region' 1001 8001 (by kernel_rfl) (by kernel_rfl) ?_
  refine aops_eff hΓ (.v (.one (.box 0 0))) [] [] (by kernel_rfl) ?_
  refine aops_eff hΓ (.v (.one (.d (.int .i64 qx1)))) [] [] (by kernel_rfl) ?_
  refine aops_eff hΓ (.v (.one (.box 0 0))) [] [] (by kernel_rfl) ?_
  refine aops_eff hΓ (.v (.one (.own 4001 none))) [(4001, some ⟨3, 1, List.map (encI .i64) ([0, (-100)] : List Int)⟩)] [] (by kernel_rfl) ?_
  refine aops_call (by kernel_rfl) (by kernel_rfl) (does_call (f := (.func 17)) (g := 17) (caps := []) (tvs := [.v (.one (.box 0 0)), .v (.one (.own 4001 none))]) (al := [.v (.one (.box 0 0)), .v (.one (.own 1 none))]) (m := ⟨[(1, ⟨3, 1, List.map (encI .i64) ([0, (-100)] : List Int)⟩)], [(0, [.d (.lst (List.map (encI .i64) qx.L)), .d (.int .i64 qx.at_)])]⟩) (m' := ⟨[], [(0, [.d (.lst (List.map (encI .i64) qx.L)), .d (.int .i64 (IntKind.wrap .i64 (qx.at_ + 1)))])]⟩) (tv := .v (.one (.d (.int .i64 vr)))) (lens := []) rfl (by kernel_rfl) (by kernel_rfl) (sees_of (rl := [(1, 4001)]) (nl := []) (by kernel_rfl) (⟨.inr ⟨by kernel_rfl, by kernel_rfl⟩, trivial⟩) (⟨⟨by kernel_rfl, [.d (.lst (List.map (encI .i64) qx.L)), .d (.int .i64 qx.at_)], by kernel_rfl, l2_same (by kernel_rfl) (by kernel_rfl)⟩, trivial⟩)) (⟨t_same (by kernel_rfl) (by kernel_rfl), t_same (by kernel_rfl) (by kernel_rfl), trivial⟩) (fleetmake_Stream_Pick_o1_ok _ _ _ h1) (left_of (by kernel_rfl))) (.v (.one (.d (.int .i64 vr)))) [(4001, none)] [(0, some [.d (.lst (List.map (encI .i64) qx.L)), .d (.int .i64 (IntKind.wrap .i64 (qx.at_ + 1)))])] (by kernel_rfl) ?_
  refine aops_call (by kernel_rfl) (by kernel_rfl) (does_call (f := (.func 112)) (g := 112) (caps := []) (tvs := [.v (.one (.box 0 0)), .v (.one (.d (.int .i64 qx1))), .v (.one (.d (.int .i64 vr)))]) (al := [.v (.one (.box 0 0)), .v (.one (.d (.int .i64 qx1))), .v (.one (.d (.int .i64 vr)))]) (m := ⟨[], [(0, [.d (.lst (List.map (encI .i64) qx.L)), .d (.int .i64 (IntKind.wrap .i64 (qx.at_ + 1)))])]⟩) (m' := ⟨[(1, ⟨42, 4, List.map api_Sample.enc vr5⟩)], [(0, [.d (.lst (List.map (encI .i64) vs3.L)), .d (.int .i64 vs3.at_)])]⟩) (tv := .v (.one (.own 1 none))) (lens := []) rfl (by kernel_rfl) (by kernel_rfl) (sees_of (rl := []) (nl := []) (by kernel_rfl) trivial (⟨⟨by kernel_rfl, [.d (.lst (List.map (encI .i64) qx.L)), .d (.int .i64 (IntKind.wrap .i64 (qx.at_ + 1)))], by kernel_rfl, l2_same (by kernel_rfl) (by kernel_rfl)⟩, trivial⟩)) (⟨t_same (by kernel_rfl) (by kernel_rfl), t_same (by kernel_rfl) (by kernel_rfl), t_same (by kernel_rfl) (by kernel_rfl), trivial⟩) (fleetmake_Stream_RightSeries_ok _ _ _ _ h2) (left_of (by kernel_rfl))) (.v (.one (.own 6002 none))) [(6002, some ⟨42, 4, List.map api_Sample.enc vr5⟩)] [(0, some [.d (.lst (List.map (encI .i64) vs3.L)), .d (.int .i64 vs3.at_)])] (by kernel_rfl) ?_
  refine aops_eff hΓ (.v (.one (.own 6002 none))) [] [] (by kernel_rfl) ?_
  refine aops_nil ?_
  refine awp_seq ?_
  refine awp_to (to_see [(1, 6002)] [] ⟨[(1, ⟨42, 4, List.map api_Sample.enc vr5⟩)], [(0, [.d (.lst (List.map (encI .i64) vs3.L)), .d (.int .i64 vs3.at_)])]⟩ [(0, .v (.one (.box 0 0))), (5, .v (.one (.own 1 none)))] 2 (by kernel_rfl) (by kernel_rfl) (lowc_of (by kernel_rfl)) (⟨.inr ⟨by kernel_rfl, by kernel_rfl⟩, trivial⟩) (⟨⟨by kernel_rfl, [.d (.lst (List.map (encI .i64) vs3.L)), .d (.int .i64 vs3.at_)], by kernel_rfl, l2_same (by kernel_rfl) (by kernel_rfl)⟩, trivial⟩) (⟨t_same (by kernel_rfl) (by kernel_rfl), t_same (by kernel_rfl) (by kernel_rfl), trivial⟩)) ?_
  obtain ⟨⟨vs2_1, vx2_1⟩, h17, hF⟩ := bind_some hF
  refine awp_sub (fleetmake_Stream_Series_x1_ok vs3 vr5 _ h17) ?_
  refine awp_seq ?_
  refine awp_to (to_see [] [] ⟨[(1, ⟨42, 4, List.map api_Sample.enc vx2_1⟩)], [(0, [.d (.lst (List.map (encI .i64) vs2_1.L)), .d (.int .i64 vs2_1.at_)])]⟩ [(0, .v (.one (.box 0 0))), (5, .v (.one (.own 1 none)))] 2 (by kernel_rfl) (by kernel_rfl) (lowc_of (by kernel_rfl)) (⟨.inr ⟨by kernel_rfl, by kernel_rfl⟩, trivial⟩) (⟨⟨by kernel_rfl, [.d (.lst (List.map (encI .i64) vs2_1.L)), .d (.int .i64 vs2_1.at_)], by kernel_rfl, l2_same (by kernel_rfl) (by kernel_rfl)⟩, trivial⟩) (⟨t_same (by kernel_rfl) (by kernel_rfl), t_same (by kernel_rfl) (by kernel_rfl), trivial⟩)) ?_
  obtain ⟨⟨vs5_1, vx4_1⟩, h25, hF⟩ := bind_some hF
  refine awp_sub (fleetmake_Stream_Series_x3_ok vs2_1 vx2_1 _ h25) ?_
  refine awp_seq ?_
  refine awp_region' 2 2002 (by kernel_rfl) (by kernel_rfl) ?_
  refine aops_eff hΓ (.v (.one (.own 1 none))) [] [] (by kernel_rfl) ?_
  refine aops_eff hΓ (.v (.one (.own 1 none))) [] [] (by kernel_rfl) ?_
  refine aops_nil ?_
  refine awp_ret ?_
  obtain rfl := some_eq hF
  exact fin_intro (xs := [.one (.own 1 none)]) (m' := ⟨[(1, ⟨42, 4, List.map api_Sample.enc vx4_1⟩)], [(0, [.d (.lst (List.map (encI .i64) vs5_1.L)), .d (.int .i64 vs5_1.at_)])]⟩) (tv := (.v (.one (.own 1 none)))) (rl := []) (nl := []) (by kernel_rfl) (by kernel_rfl) (by kernel_rfl) (sees_of (by kernel_rfl) (⟨.inr ⟨by kernel_rfl, by kernel_rfl⟩, trivial⟩) (⟨⟨by kernel_rfl, [.d (.lst (List.map (encI .i64) vs5_1.L)), .d (.int .i64 vs5_1.at_)], by kernel_rfl, l2_same (by kernel_rfl) (by kernel_rfl)⟩, trivial⟩)) (t_same (by kernel_rfl) (by kernel_rfl)) ⟨rfl, rfl⟩

/-! ### (*beaconfleet/fleetmake.Stream).Frame -/
def fleetmake_Stream_Frame_x2_k : (fleetmake_Stream × Bool) → AEx
  | _ => .normal

def fleetmake_Stream_Frame_x2_S (qs : fleetmake_Stream) (vr : Int) (vr1 : Int) : (fleetmake_Stream × Bool) → St
  | (vs, vx) => Mem.st ⟨[], [(0, [.d (.lst (List.map (encI .i64) vs.L)), .d (.int .i64 vs.at_)]), (1, [.d (.int .i64 0), .d (.int .i64 0)]), (2, [.d (.int .i64 vr), .d (.int .i64 vr1)])]⟩ (tl [(0, .v (.one (.box 0 0))), (2, .v (.one (.box 1 0))), (3, .v (.one (.box 2 0))), (20, .v (.one (.d (.bool vx))))]) 3

theorem fleetmake_Stream_Frame_x2_ok (qs : fleetmake_Stream) (vr : Int) (vr1 : Int) (r : (fleetmake_Stream × Bool)) (hF : fleetmake_Stream_Frame_x2 qs vr vr1 = some r) : Awp prog 1 39 (cL (cL (cR (cR (cB f16))))) (Out 1 fleetmake_Stream_Frame_x2_k (fleetmake_Stream_Frame_x2_S qs vr vr1) r) (Mem.st ⟨[], [(0, [.d (.lst (List.map (encI .i64) qs.L)), .d (.int .i64 (IntKind.wrap .i64 ((IntKind.wrap .i64 (qs.at_ + 1)) + 1)))]), (1, [.d (.int .i64 0), .d (.int .i64 0)]), (2, [.d (.int .i64 vr), .d (.int .i64 vr1)])]⟩ (tl [(0, .v (.one (.box 0 0))), (2, .v (.one (.box 1 0))), (3, .v (.one (.box 2 0)))]) 3) := by
  unfold fleetmake_Stream_Frame_x2 at hF
  rcases cond_or hF with ⟨h3, hF⟩ | ⟨h3, hF⟩
  · obtain ⟨vr2, h4, hF⟩ := bind_some hF
    refine awp_region' 3 10003 (by kernel_rfl) (by kernel_rfl) ?_
    refine aops_eff hΓ (.v (.one (.box 2 0))) [] [] (by kernel_rfl) ?_
    refine aops_eff hΓ (.v (.one (.d (.int .i64 vr)))) [] [] (by kernel_rfl) ?_
    refine aops_eff hΓ (.v (.one (.box 2 1))) [] [] (by kernel_rfl) ?_
    refine aops_eff hΓ (.v (.one (.d (.int .i64 vr1)))) [] [] (by kernel_rfl) ?_
    refine aops_eff hΓ (.v (.one (.d (.bool true)))) [] [] (opx_b (by kernel_rfl) h3) ?_
    refine aops_eff hΓ (.v (.one (.d (.bool true)))) [] [] (by kernel_rfl) ?_
    refine aops_eff hΓ (.v (.one (.box 0 0))) [] [] (by kernel_rfl) ?_
    refine aops_call (by kernel_rfl) (by kernel_rfl) (does_call (f := (.func 18)) (g := 18) (caps := []) (tvs := [.v (.one (.box 0 0)), .v (.one (.d (.int .i64 3)))]) (al := [.v (.one (.box 0 0)), .v (.one (.d (.int .i64 3)))]) (m := ⟨[], [(0, [.d (.lst (List.map (encI .i64) qs.L)), .d (.int .i64 (IntKind.wrap .i64 ((IntKind.wrap .i64 (qs.at_ + 1)) + 1)))])]⟩) (m' := ⟨[], [(0, [.d (.lst (List.map (encI .i64) qs.L)), .d (.int .i64 (IntKind.wrap .i64 ((IntKind.wrap .i64 ((IntKind.wrap .i64 (qs.at_ + 1)) + 1)) + 1)))])]⟩) (tv := .v (.one (.d (.bool vr2)))) (lens := []) rfl (by kernel_rfl) (by kernel_rfl) (sees_of (rl := []) (nl := []) (by kernel_rfl) trivial (⟨⟨by kernel_rfl, [.d (.lst (List.map (encI .i64) qs.L)), .d (.int .i64 (IntKind.wrap .i64 ((IntKind.wrap .i64 (qs.at_ + 1)) + 1)))], by kernel_rfl, l2_same (by kernel_rfl) (by kernel_rfl)⟩, trivial⟩)) (⟨t_same (by kernel_rfl) (by kernel_rfl), t_same (by kernel_rfl) (by kernel_rfl), trivial⟩) (fleetmake_Stream_Flip_ok _ _ _ h4) (left_of (by kernel_rfl))) (.v (.one (.d (.bool vr2)))) [] [(0, some [.d (.lst (List.map (encI .i64) qs.L)), .d (.int .i64 (IntKind.wrap .i64 ((IntKind.wrap .i64 ((IntKind.wrap .i64 (qs.at_ + 1)) + 1)) + 1)))])] (by kernel_rfl) ?_
    refine aops_eff hΓ (.v (.one (.d (.bool (!vr2))))) [] [] (by kernel_rfl) ?_
    refine aops_eff hΓ (.v (.one (.d (.bool (!vr2))))) [] [] (by kernel_rfl) ?_
    refine aops_nil ?_
    obtain rfl := some_eq hF
    exact out_intro rfl (to_see [] [] ⟨[], [(0, [.d (.lst (List.map (encI .i64) qs.L)), .d (.int .i64 (IntKind.wrap .i64 ((IntKind.wrap .i64 ((IntKind.wrap .i64 (qs.at_ + 1)) + 1)) + 1)))]), (1, [.d (.int .i64 0), .d (.int .i64 0)]), (2, [.d (.int .i64 vr), .d (.int .i64 vr1)])]⟩ [(0, .v (.one (.box 0 0))), (2, .v (.one (.box 1 0))), (3, .v (.one (.box 2 0))), (20, .v (.one (.d (.bool (!vr2)))))] 3 (by kernel_rfl) (by kernel_rfl) (lowc_of (by kernel_rfl)) trivial (⟨⟨by kernel_rfl, [.d (.lst (List.map (encI .i64) qs.L)), .d (.int .i64 (IntKind.wrap .i64 ((IntKind.wrap .i64 ((IntKind.wrap .i64 (qs.at_ + 1)) + 1)) + 1)))], by kernel_rfl, l2_same (by kernel_rfl) (by kernel_rfl)⟩, ⟨by kernel_rfl, [.d (.int .i64 0), .d (.int .i64 0)], by kernel_rfl, l2_same (by kernel_rfl) (by kernel_rfl)⟩, ⟨by kernel_rfl, [.d (.int .i64 vr), .d (.int .i64 vr1)], by kernel_rfl, l2_same (by kernel_rfl) (by kernel_rfl)⟩, trivial⟩) (⟨t_same (by kernel_rfl) (by kernel_rfl), t_same (by kernel_rfl) (by kernel_rfl), t_same (by kernel_rfl) (by kernel_rfl), t_same (by kernel_rfl) (by kernel_rfl), trivial⟩))
  · refine awp_region' 3 10003 (by kernel_rfl) (by kernel_rfl) ?_
    refine aops_eff hΓ (.v (.one (.box 2 0))) [] [] (by kernel_rfl) ?_
    refine aops_eff hΓ (.v (.one (.d (.int .i64 vr)))) [] [] (by kernel_rfl) ?_
    refine aops_eff hΓ (.v (.one (.box 2 1))) [] [] (by kernel_rfl) ?_
    refine aops_eff hΓ (.v (.one (.d (.int .i64 vr1)))) [] [] (by kernel_rfl) ?_
    refine aops_eff hΓ (.v (.one (.d (.bool false)))) [] [] (opx_b (by kernel_rfl) h3) ?_
    refine aops_eff hΓ (.v (.one (.d (.bool false)))) [] [] (by kernel_rfl) ?_
    refine aops_skip' (by kernel_rfl) ?_
    refine aops_skip' (by kernel_rfl) ?_
    refine aops_skip' (by kernel_rfl) ?_
    refine aops_eff hΓ (.v (.one (.d (.bool false)))) [] [] (by kernel_rfl) ?_
    refine aops_nil ?_
    obtain rfl := some_eq hF
    exact out_intro rfl (to_see [] [] ⟨[], [(0, [.d (.lst (List.map (encI .i64) qs.L)), .d (.int .i64 (IntKind.wrap .i64 ((IntKind.wrap .i64 (qs.at_ + 1)) + 1)))]), (1, [.d (.int .i64 0), .d (.int .i64 0)]), (2, [.d (.int .i64 vr), .d (.int .i64 vr1)])]⟩ [(0, .v (.one (.box 0 0))), (2, .v (.one (.box 1 0))), (3, .v (.one (.box 2 0))), (20, .v (.one (.d (.bool false))))] 3 (by kernel_rfl) (by kernel_rfl) (lowc_of (by kernel_rfl)) trivial (⟨⟨by kernel_rfl, [.d (.lst (List.map (encI .i64) qs.L)), .d (.int .i64 (IntKind.wrap .i64 ((IntKind.wrap .i64 (qs.at_ + 1)) + 1)))], by kernel_rfl, l2_same (by kernel_rfl) (by kernel_rfl)⟩, ⟨by kernel_rfl, [.d (.int .i64 0), .d (.int .i64 0)], by kernel_rfl, l2_same (by kernel_rfl) (by kernel_rfl)⟩, ⟨by kernel_rfl, [.d (.int .i64 vr), .d (.int .i64 vr1)], by kernel_rfl, l2_same (by kernel_rfl) (by kernel_rfl)⟩, trivial⟩) (⟨t_same (by kernel_rfl) (by kernel_rfl), t_same (by kernel_rfl) (by kernel_rfl), t_same (by kernel_rfl) (by kernel_rfl), t_same (by kernel_rfl) (by kernel_rfl), trivial⟩))

def fleetmake_Stream_Frame_x1_k : (fleetmake_Stream × api_Window) → AEx
  | _ => .normal

def fleetmake_Stream_Frame_x1_S (qs : fleetmake_Stream) (vr : Int) (vr1 : Int) : (fleetmake_Stream × api_Window) → St
  | (vs2, vw) => Mem.st ⟨[], [(0, [.d (.lst (List.map (encI .i64) vs2.L)), .d (.int .i64 vs2.at_)]), (1, [.d (.int .i64 0), .d (.int .i64 0)]), (2, [.d (.int .i64 vw.From), .d (.int .i64 vw.To)])]⟩ (tl [(0, .v (.one (.box 0 0))), (2, .v (.one (.box 1 0))), (3, .v (.one (.box 2 0)))]) 3

theorem fleetmake_Stream_Frame_x1_ok (qs : fleetmake_Stream) (vr : Int) (vr1 : Int) (r : (fleetmake_Stream × api_Window)) (hF : fleetmake_Stream_Frame_x1 qs vr vr1 = some r) : Awp prog 1 39 (cL (cR (cR (cB f16)))) (Out 1 fleetmake_Stream_Frame_x1_k (fleetmake_Stream_Frame_x1_S qs vr vr1) r) (Mem.st ⟨[], [(0, [.d (.lst (List.map (encI .i64) qs.L)), .d (.int .i64 (IntKind.wrap .i64 ((IntKind.wrap .i64 (qs.at_ + 1)) + 1)))]), (1, [.d (.int .i64 0), .d (.int .i64 0)]), (2, [.d (.int .i64 vr), .d (.int .i64 vr1)])]⟩ (tl [(0, .v (.one (.box 0 0))), (2, .v (.one (.box 1 0))), (3, .v (.one (.box 2 0)))]) 3) := by
  unfold fleetmake_Stream_Frame_x1 at hF
  refine awp_seq ?_
  refine awp_to (to_see [] [] ⟨[], [(0, [.d (.lst (List.map (encI .i64) qs.L)), .d (.int .i64 (IntKind.wrap .i64 ((IntKind.wrap .i64 (qs.at_ + 1)) + 1)))]), (1, [.d (.int .i64 0), .d (.int .i64 0)]), (2, [.d (.int .i64 vr), .d (.int .i64 vr1)])]⟩ [(0, .v (.one (.box 0 0))), (2, .v (.one (.box 1 0))), (3, .v (.one (.box 2 0)))] 3 (by kernel_rfl) (by kernel_rfl) (lowc_of (by kernel_rfl)) trivial (⟨⟨by kernel_rfl, [.d (.lst (List.map (encI .i64) qs.L)), .d (.int .i64 (IntKind.wrap .i64 ((IntKind.wrap .i64 (qs.at_ + 1)) + 1)))], by kernel_rfl, l2_same (by kernel_rfl) (by kernel_rfl)⟩, ⟨by kernel_rfl, [.d (.int .i64 0), .d (.int .i64 0)], by kernel_rfl, l2_same (by kernel_rfl) (by kernel_rfl)⟩, ⟨by kernel_rfl, [.d (.int .i64 vr), .d (.int .i64 vr1)], by kernel_rfl, l2_same (by kernel_rfl) (by kernel_rfl)⟩, trivial⟩) (⟨t_same (by kernel_rfl) (by kernel_rfl), t_same (by kernel_rfl) (by kernel_rfl), t_same (by kernel_rfl) (by kernel_rfl), trivial⟩)) ?_
  obtain ⟨⟨vs1, vx1⟩, h5, hF⟩ := bind_some hF
  refine awp_sub (fleetmake_Stream_Frame_x2_ok qs vr vr1 _ h5) ?_
  rcases cond_or hF with ⟨h6, hF⟩ | ⟨h6, hF⟩
  · refine awp_true (by kernel_rfl) h6 ?_
    refine awp_region' 3 2003 (by kernel_rfl) (by kernel_rfl) ?_
    refine aops_eff hΓ (.v (.one (.box 2 0))) [] [] (by kernel_rfl) ?_
    refine aops_eff hΓ (.undef) [] [(2, some [.d (.int .i64 0), .d (.int .i64 vr1)])] (by kernel_rfl) ?_
    refine aops_nil ?_
    obtain rfl := some_eq hF
    exact out_intro rfl (to_see [] [] ⟨[], [(0, [.d (.lst (List.map (encI .i64) vs1.L)), .d (.int .i64 vs1.at_)]), (1, [.d (.int .i64 0), .d (.int .i64 0)]), (2, [.d (.int .i64 0), .d (.int .i64 vr1)])]⟩ [(0, .v (.one (.box 0 0))), (2, .v (.one (.box 1 0))), (3, .v (.one (.box 2 0)))] 3 (by kernel_rfl) (by kernel_rfl) (lowc_of (by kernel_rfl)) trivial (⟨⟨by kernel_rfl, [.d (.lst (List.map (encI .i64) vs1.L)), .d (.int .i64 vs1.at_)], by kernel_rfl, l2_same (by kernel_rfl) (by kernel_rfl)⟩, ⟨by kernel_rfl, [.d (.int .i64 0), .d (.int .i64 0)], by kernel_rfl, l2_same (by kernel_rfl) (by kernel_rfl)⟩, ⟨by kernel_rfl, [.d (.int .i64 0), .d (.int .i64 vr1)], by kernel_rfl, l2_same (by kernel_rfl) (by kernel_rfl)⟩, trivial⟩) (⟨t_same (by kernel_rfl) (by kernel_rfl), t_same (by kernel_rfl) (by kernel_rfl), t_same (by kernel_rfl) (by kernel_rfl), trivial⟩))
  · refine awp_false (by kernel_rfl) h6 ?_
    refine awp_skip ?_
    obtain rfl := some_eq hF
    exact out_intro rfl (to_see [] [] ⟨[], [(0, [.d (.lst (List.map (encI .i64) vs1.L)), .d (.int .i64 vs1.at_)]), (1, [.d (.int .i64 0), .d (.int .i64 0)]), (2, [.d (.int .i64 vr), .d (.int .i64 vr1)])]⟩ [(0, .v (.one (.box 0 0))), (2, .v (.one (.box 1 0))), (3, .v (.one (.box 2 0)))] 3 (by kernel_rfl) (by kernel_rfl) (lowc_of (by kernel_rfl)) trivial (⟨⟨by kernel_rfl, [.d (.lst (List.map (encI .i64) vs1.L)), .d (.int .i64 vs1.at_)], by kernel_rfl, l2_same (by kernel_rfl) (by kernel_rfl)⟩, ⟨by kernel_rfl, [.d (.int .i64 0), .d (.int .i64 0)], by kernel_rfl, l2_same (by kernel_rfl) (by kernel_rfl)⟩, ⟨by kernel_rfl, [.d (.int .i64 vr), .d (.int .i64 vr1)], by kernel_rfl, l2_same (by kernel_rfl) (by kernel_rfl)⟩, trivial⟩) (⟨t_same (by kernel_rfl) (by kernel_rfl), t_same (by kernel_rfl) (by kernel_rfl), t_same (by kernel_rfl) (by kernel_rfl), trivial⟩))

def fleetmake_Stream_Frame_x3_k : (fleetmake_Stream × api_Window) → AEx
  | _ => .normal

def fleetmake_Stream_Frame_x3_S (vs2_1 : fleetmake_Stream) (vw1 : api_Window) : (fleetmake_Stream × api_Window) → St
  | (vs3, vw2) => Mem.st ⟨[], [(0, [.d (.lst (List.map (encI .i64) vs3.L)), .d (.int .i64 vs3.at_)]), (1, [.d (.int .i64 0), .d (.int .i64 0)]), (2, [.d (.int .i64 vw2.From), .d (.int .i64 vw2.To)])]⟩ (tl [(0, .v (.one (.box 0 0))), (2, .v (.one (.box 1 0))), (3, .v (.one (.box 2 0)))]) 3

theorem fleetmake_Stream_Frame_x3_ok (vs2_1 : fleetmake_Stream) (vw1 : api_Window) (r : (fleetmake_Stream × api_Window)) (hF : fleetmake_Stream_Frame_x3 vs2_1 vw1 = some r) : Awp prog 1 39 (cL (cR (cR (cR (cB f16))))) (Out 1 fleetmake_Stream_Frame_x3_k (fleetmake_Stream_Frame_x3_S vs2_1 vw1) r) (Mem.st ⟨[], [(0, [.d (.lst (List.map (encI .i64) vs2_1.L)), .d (.int .i64 vs2_1.at_)]), (1, [.d (.int .i64 0), .d (.int .i64 0)]), (2, [.d (.int .i64 vw1.From), .d (.int .i64 vw1.To)])]⟩ (tl [(0, .v (.one (.box 0 0))), (2, .v (.one (.box 1 0))), (3, .v (.one (.box 2 0)))]) 3) := by
  unfold fleetmake_Stream_Frame_x3 at hF
  refine awp_seq ?_
  obtain ⟨vr3, h8, hF⟩ := bind_some hF
  refine awp_region' 3 2003 (by kernel_rfl) (by kernel_rfl) ?_
  refine aops_eff hΓ (.v (.one (.box 0 0))) [] [] (by kernel_rfl) ?_
  refine aops_call (by kernel_rfl) (by kernel_rfl) (does_call (f := (.func 18)) (g := 18) (caps := []) (tvs := [.v (.one (.box 0 0)), .v (.one (.d (.int .i64 15)))]) (al := [.v (.one (.box 0 0)), .v (.one (.d (.int .i64 15)))]) (m := ⟨[], [(0, [.d (.lst (List.map (encI .i64) vs2_1.L)), .d (.int .i64 vs2_1.at_)])]⟩) (m' := ⟨[], [(0, [.d (.lst (List.map (encI .i64) vs2_1.L)), .d (.int .i64 (IntKind.wrap .i64 (vs2_1.at_ + 1)))])]⟩) (tv := .v (.one (.d (.bool vr3)))) (lens := []) rfl (by kernel_rfl) (by kernel_rfl) (sees_of (rl := []) (nl := []) (by kernel_rfl) trivial (⟨⟨by kernel_rfl, [.d (.lst (List.map (encI .i64) vs2_1.L)), .d (.int .i64 vs2_1.at_)], by kernel_rfl, l2_same (by kernel_rfl) (by kernel_rfl)⟩, trivial⟩)) (⟨t_same (by kernel_rfl) (by kernel_rfl), t_same (by kernel_rfl) (by kernel_rfl), trivial⟩) (fleetmake_Stream_Flip_ok _ _ _ h8) (left_of (by kernel_rfl))) (.v (.one (.d (.bool vr3)))) [] [(0, some [.d (.lst (List.map (encI .i64) vs2_1.L)), .d (.int .i64 (IntKind.wrap .i64 (vs2_1.at_ + 1)))])] (by kernel_rfl) ?_
  refine aops_nil ?_
  rcases cond_or hF with ⟨h9, hF⟩ | ⟨h9, hF⟩
  · refine awp_true (by kernel_rfl) h9 ?_
    obtain ⟨⟨vs1_1, vr3_1⟩, h10, hF⟩ := bind_some hF
    obtain ⟨⟨vs1_2, vr3_2⟩, h11, hF⟩ := bind_some hF
    refine awp_region' 2003 8003 (by kernel_rfl) (by kernel_rfl) ?_
    refine aops_eff hΓ (.v (.one (.box 0 0))) [] [] (by kernel_rfl) ?_
    refine aops_call (by kernel_rfl) (by kernel_rfl) (does_call (f := (.func 70)) (g := 70) (caps := []) (tvs := [.v (.one (.box 0 0)), .v (.one (.d (.int .i64 0))), .v (.one (.d (.int .i64 100)))]) (al := [.v (.one (.box 0 0)), .v (.one (.d (.int .i64 0))), .v (.one (.d (.int .i64 100)))]) (m := ⟨[], [(0, [.d (.lst (List.map (encI .i64) vs2_1.L)), .d (.int .i64 (IntKind.wrap .i64 (vs2_1.at_ + 1)))])]⟩) (m' := ⟨[], [(0, [.d (.lst (List.map (encI .i64) vs1_1.L)), .d (.int .i64 vs1_1.at_)])]⟩) (tv := .v (.one (.d (.int .i64 vr3_1)))) (lens := []) rfl (by kernel_rfl) (by kernel_rfl) (sees_of (rl := []) (nl := []) (by kernel_rfl) trivial (⟨⟨by kernel_rfl, [.d (.lst (List.map (encI .i64) vs2_1.L)), .d (.int .i64 (IntKind.wrap .i64 (vs2_1.at_ + 1)))], by kernel_rfl, l2_same (by kernel_rfl) (by kernel_rfl)⟩, trivial⟩)) (⟨t_same (by kernel_rfl) (by kernel_rfl), t_same (by kernel_rfl) (by kernel_rfl), t_same (by kernel_rfl) (by kernel_rfl), trivial⟩) (fleetmake_Stream_Odd_ok _ _ _ _ h10) (left_of (by kernel_rfl))) (.v (.one (.d (.int .i64 vr3_1)))) [] [(0, some [.d (.lst (List.map (encI .i64) vs1_1.L)), .d (.int .i64 vs1_1.at_)])] (by kernel_rfl) ?_
    refine aops_eff hΓ (.v (.one (.box 0 0))) [] [] (by kernel_rfl) ?_
    refine aops_call (by kernel_rfl) (by kernel_rfl) (does_call (f := (.func 70)) (g := 70) (caps := []) (tvs := [.v (.one (.box 0 0)), .v (.one (.d (.int .i64 0))), .v (.one (.d (.int .i64 1000)))]) (al := [.v (.one (.box 0 0)), .v (.one (.d (.int .i64 0))), .v (.one (.d (.int .i64 1000)))]) (m := ⟨[], [(0, [.d (.lst (List.map (encI .i64) vs1_1.L)), .d (.int .i64 vs1_1.at_)])]⟩) (m' := ⟨[], [(0, [.d (.lst (List.map (encI .i64) vs1_2.L)), .d (.int .i64 vs1_2.at_)])]⟩) (tv := .v (.one (.d (.int .i64 vr3_2)))) (lens := []) rfl (by kernel_rfl) (by kernel_rfl) (sees_of (rl := []) (nl := []) (by kernel_rfl) trivial (⟨⟨by kernel_rfl, [.d (.lst (List.map (encI .i64) vs1_1.L)), .d (.int .i64 vs1_1.at_)], by kernel_rfl, l2_same (by kernel_rfl) (by kernel_rfl)⟩, trivial⟩)) (⟨t_same (by kernel_rfl) (by kernel_rfl), t_same (by kernel_rfl) (by kernel_rfl), t_same (by kernel_rfl) (by kernel_rfl), trivial⟩) (fleetmake_Stream_Odd_ok _ _ _ _ h11) (left_of (by kernel_rfl))) (.v (.one (.d (.int .i64 vr3_2)))) [] [(0, some [.d (.lst (List.map (encI .i64) vs1_2.L)), .d (.int .i64 vs1_2.at_)])] (by kernel_rfl) ?_
    refine aops_eff hΓ (.v (.agg [.d (.int .i64 vr3_1), .d (.int .i64 vr3_2)])) [] [] (by kernel_rfl) ?_
    refine aops_eff hΓ (.undef) [] [(2, some [.d (.int .i64 vr3_1), .d (.int .i64 vr3_2)])] (by kernel_rfl) ?_
    refine aops_nil ?_
    obtain rfl := some_eq hF
    exact out_intro rfl (to_see [] [] ⟨[], [(0, [.d (.lst (List.map (encI .i64) vs1_2.L)), .d (.int .i64 vs1_2.at_)]), (1, [.d (.int .i64 0), .d (.int .i64 0)]), (2, [.d (.int .i64 vr3_1), .d (.int .i64 vr3_2)])]⟩ [(0, .v (.one (.box 0 0))), (2, .v (.one (.box 1 0))), (3, .v (.one (.box 2 0)))] 3 (by kernel_rfl) (by kernel_rfl) (lowc_of (by kernel_rfl)) trivial (⟨⟨by kernel_rfl, [.d (.lst (List.map (encI .i64) vs1_2.L)), .d (.int .i64 vs1_2.at_)], by kernel_rfl, l2_same (by kernel_rfl) (by kernel_rfl)⟩, ⟨by kernel_rfl, [.d (.int .i64 0), .d (.int .i64 0)], by kernel_rfl, l2_same (by kernel_rfl) (by kernel_rfl)⟩, ⟨by kernel_rfl, [.d (.int .i64 vr3_1), .d (.int .i64 vr3_2)], by kernel_rfl, l2_same (by kernel_rfl) (by kernel_rfl)⟩, trivial⟩) (⟨t_same (by kernel_rfl) (by kernel_rfl), t_same (by kernel_rfl) (by kernel_rfl), t_same (by kernel_rfl) (by kernel_rfl), trivial⟩))
  · refine awp_false (by kernel_rfl) h9 ?_
    refine awp_skip ?_
    obtain rfl := some_eq hF
    exact out_intro rfl (to_see [] [] ⟨[], [(0, [.d (.lst (List.map (encI .i64) vs2_1.L)), .d (.int .i64 (IntKind.wrap .i64 (vs2_1.at_ + 1)))]), (1, [.d (.int .i64 0), .d (.int .i64 0)]), (2, [.d (.int .i64 vw1.From), .d (.int .i64 vw1.To)])]⟩ [(0, .v (.one (.box 0 0))), (2, .v (.one (.box 1 0))), (3, .v (.one (.box 2 0)))] 3 (by kernel_rfl) (by kernel_rfl) (lowc_of (by kernel_rfl)) trivial (⟨⟨by kernel_rfl, [.d (.lst (List.map (encI .i64) vs2_1.L)), .d (.int .i64 (IntKind.wrap .i64 (vs2_1.at_ + 1)))], by kernel_rfl, l2_same (by kernel_rfl) (by kernel_rfl)⟩, ⟨by kernel_rfl, [.d (.int .i64 0), .d (.int .i64 0)], by kernel_rfl, l2_same (by kernel_rfl) (by kernel_rfl)⟩, ⟨by kernel_rfl, [.d (.int .i64 vw1.From), .d (.int .i64 vw1.To)], by kernel_rfl, l2_same (by kernel_rfl) (by kernel_rfl)⟩, trivial⟩) (⟨t_same (by kernel_rfl) (by kernel_rfl), t_same (by kernel_rfl) (by kernel_rfl), t_same (by kernel_rfl) (by kernel_rfl), trivial⟩))

def fleetmake_Stream_Frame_x4_k : (fleetmake_Stream × api_Window) → AEx
  | _ => .normal

def fleetmake_Stream_Frame_x4_S (vs3_1 : fleetmake_Stream) (vw2_1 : api_Window) : (fleetmake_Stream × api_Window) → St
  | (vs4, vw3) => Mem.st ⟨[], [(0, [.d (.lst (List.map (encI .i64) vs4.L)), .d (.int .i64 vs4.at_)]), (1, [.d (.int .i64 0), .d (.int .i64 0)]), (2, [.d (.int .i64 vw3.From), .d (.int .i64 vw3.To)])]⟩ (tl [(2, .v (.one (.box 1 0))), (3, .v (.one (.box 2 0)))]) 3

theorem fleetmake_Stream_Frame_x4_ok (vs3_1 : fleetmake_Stream) (vw2_1 : api_Window) (r : (fleetmake_Stream × api_Window)) (hF : fleetmake_Stream_Frame_x4 vs3_1 vw2_1 = some r) : Awp prog 1 39 (cL (cR (cR (cR (cR (cB f16)))))) (Out 1 fleetmake_Stream_Frame_x4_k (fleetmake_Stream_Frame_x4_S vs3_1 vw2_1) r) (Mem.st ⟨[], [(0, [.d (.lst (List.map (encI .i64) vs3_1.L)), .d (.int .i64 vs3_1.at_)]), (1, [.d (.int .i64 0), .d (.int .i64 0)]), (2, [.d (.int .i64 vw2_1.From), .d (.int .i64 vw2_1.To)])]⟩ (tl [(0, .v (.one (.box 0 0))), (2, .v (.one (.box 1 0))), (3, .v (.one (.box 2 0)))]) 3) := by
  unfold fleetmake_Stream_Frame_x4 at hF
  refine awp_seq ?_
  obtain ⟨vr4, h13, hF⟩ := bind_some hF
  refine awp_region' 3 2003 (by kernel_rfl) (by kernel_rfl) ?_
  refine aops_eff hΓ (.v (.one (.box 0 0))) [] [] (by kernel_rfl) ?_
  refine aops_call (by kernel_rfl) (by kernel_rfl) (does_call (f := (.func 18)) (g := 18) (caps := []) (tvs := [.v (.one (.box 0 0)), .v (.one (.d (.int .i64 25)))]) (al := [.v (.one (.box 0 0)), .v (.one (.d (.int .i64 25)))]) (m := ⟨[], [(0, [.d (.lst (List.map (encI .i64) vs3_1.L)), .d (.int .i64 vs3_1.at_)])]⟩) (m' := ⟨[], [(0, [.d (.lst (List.map (encI .i64) vs3_1.L)), .d (.int .i64 (IntKind.wrap .i64 (vs3_1.at_ + 1)))])]⟩) (tv := .v (.one (.d (.bool vr4)))) (lens := []) rfl (by kernel_rfl) (by kernel_rfl) (sees_of (rl := []) (nl := []) (by kernel_rfl) trivial (⟨⟨by kernel_rfl, [.d (.lst (List.map (encI .i64) vs3_1.L)), .d (.int .i64 vs3_1.at_)], by kernel_rfl, l2_same (by kernel_rfl) (by kernel_rfl)⟩, trivial⟩)) (⟨t_same (by kernel_rfl) (by kernel_rfl), t_same (by kernel_rfl) (by kernel_rfl), trivial⟩) (fleetmake_Stream_Flip_ok _ _ _ h13) (left_of (by kernel_rfl))) (.v (.one (.d (.bool vr4)))) [] [(0, some [.d (.lst (List.map (encI .i64) vs3_1.L)), .d (.int .i64 (IntKind.wrap .i64 (vs3_1.at_ + 1)))])] (by kernel_rfl) ?_
  refine aops_nil ?_
  rcases cond_or hF with ⟨h14, hF⟩ | ⟨h14, hF⟩
  · refine awp_true (by kernel_rfl) h14 ?_
    obtain ⟨vr5, h15, hF⟩ := bind_some hF
    obtain ⟨vr6, h16, hF⟩ := bind_some hF
    refine awp_region' 2003 10003 (by kernel_rfl) (by kernel_rfl) ?_
    refine aops_eff hΓ (.v (.one (.box 0 0))) [] [] (by kernel_rfl) ?_
    refine aops_eff hΓ (.v (.one (.own 3003 none))) [(3003, some ⟨3, 1, List.map (encI .i64) ([0, 5] : List Int)⟩)] [] (by kernel_rfl) ?_
    refine aops_call (by kernel_rfl) (by kernel_rfl) (does_call (f := (.func 17)) (g := 17) (caps := []) (tvs := [.v (.one (.box 0 0)), .v (.one (.own 3003 none))]) (al := [.v (.one (.box 0 0)), .v (.one (.own 1 none))]) (m := ⟨[(1, ⟨3, 1, List.map (encI .i64) ([0, 5] : List Int)⟩)], [(0, [.d (.lst (List.map (encI .i64) vs3_1.L)), .d (.int .i64 (IntKind.wrap .i64 (vs3_1.at_ + 1)))])]⟩) (m' := ⟨[], [(0, [.d (.lst (List.map (encI .i64) vs3_1.L)), .d (.int .i64 (IntKind.wrap .i64 ((IntKind.wrap .i64 (vs3_1.at_ + 1)) + 1)))])]⟩) (tv := .v (.one (.d (.int .i64 vr5)))) (lens := []) rfl (by kernel_rfl) (by kernel_rfl) (sees_of (rl := [(1, 3003)]) (nl := []) (by kernel_rfl) (⟨.inr ⟨by kernel_rfl, by kernel_rfl⟩, trivial⟩) (⟨⟨by kernel_rfl, [.d (.lst (List.map (encI .i64) vs3_1.L)), .d (.int .i64 (IntKind.wrap .i64 (vs3_1.at_ + 1)))], by kernel_rfl, l2_same (by kernel_rfl) (by kernel_rfl)⟩, trivial⟩)) (⟨t_same (by kernel_rfl) (by kernel_rfl), t_same (by kernel_rfl) (by kernel_rfl), trivial⟩) (fleetmake_Stream_Pick_o1_ok _ _ _ h15) (left_of (by kernel_rfl))) (.v (.one (.d (.int .i64 vr5)))) [(3003, none)] [(0, some [.d (.lst (List.map (encI .i64) vs3_1.L)), .d (.int .i64 (IntKind.wrap .i64 ((IntKind.wrap .i64 (vs3_1.at_ + 1)) + 1)))])] (by kernel_rfl) ?_
    refine aops_eff hΓ (.v (.one (.box 0 0))) [] [] (by kernel_rfl) ?_
    refine aops_eff hΓ (.v (.one (.own 6003 none))) [(6003, some ⟨3, 1, List.map (encI .i64) ([345686400000, 345686400001, 7776000000, 7862400000] : List Int)⟩)] [] (by kernel_rfl) ?_
    refine aops_call (by kernel_rfl) (by kernel_rfl) (does_call (f := (.func 17)) (g := 17) (caps := []) (tvs := [.v (.one (.box 0 0)), .v (.one (.own 6003 none))]) (al := [.v (.one (.box 0 0)), .v (.one (.own 1 none))]) (m := ⟨[(1, ⟨3, 1, List.map (encI .i64) ([345686400000, 345686400001, 7776000000, 7862400000] : List Int)⟩)], [(0, [.d (.lst (List.map (encI .i64) vs3_1.L)), .d (.int .i64 (IntKind.wrap .i64 ((IntKind.wrap .i64 (vs3_1.at_ + 1)) + 1)))])]⟩) (m' := ⟨[], [(0, [.d (.lst (List.map (encI .i64) vs3_1.L)), .d (.int .i64 (IntKind.wrap .i64 ((IntKind.wrap .i64 ((IntKind.wrap .i64 (vs3_1.at_ + 1)) + 1)) + 1)))])]⟩) (tv := .v (.one (.d (.int .i64 vr6)))) (lens := []) rfl (by kernel_rfl) (by kernel_rfl) (sees_of (rl := [(1, 6003)]) (nl := []) (by kernel_rfl) (⟨.inr ⟨by kernel_rfl, by kernel_rfl⟩, trivial⟩) (⟨⟨by kernel_rfl, [.d (.lst (List.map (encI .i64) vs3_1.L)), .d (.int .i64 (IntKind.wrap .i64 ((IntKind.wrap .i64 (vs3_1.at_ + 1)) + 1)))], by kernel_rfl, l2_same (by kernel_rfl) (by kernel_rfl)⟩, trivial⟩)) (⟨t_same (by kernel_rfl) (by kernel_rfl), t_same (by kernel_rfl) (by kernel_rfl), trivial⟩) (fleetmake_Stream_Pick_o1_ok _ _ _ h16) (left_of (by kernel_rfl))) (.v (.one (.d (.int .i64 vr6)))) [(6003, none)] [(0, some [.d (.lst (List.map (encI .i64) vs3_1.L)), .d (.int .i64 (IntKind.wrap .i64 ((IntKind.wrap .i64 ((IntKind.wrap .i64 (vs3_1.at_ + 1)) + 1)) + 1)))])] (by kernel_rfl) ?_
    refine aops_eff hΓ (.v (.agg [.d (.int .i64 vr5), .d (.int .i64 vr6)])) [] [] (by kernel_rfl) ?_
    refine aops_eff hΓ (.undef) [] [(2, some [.d (.int .i64 vr5), .d (.int .i64 vr6)])] (by kernel_rfl) ?_
    refine aops_nil ?_
    obtain rfl := some_eq hF
    exact out_intro rfl (to_see [] [] ⟨[], [(0, [.d (.lst (List.map (encI .i64) vs3_1.L)), .d (.int .i64 (IntKind.wrap .i64 ((IntKind.wrap .i64 ((IntKind.wrap .i64 (vs3_1.at_ + 1)) + 1)) + 1)))]), (1, [.d (.int .i64 0), .d (.int .i64 0)]), (2, [.d (.int .i64 vr5), .d (.int .i64 vr6)])]⟩ [(2, .v (.one (.box 1 0))), (3, .v (.one (.box 2 0)))] 3 (by kernel_rfl) (by kernel_rfl) (lowc_of (by kernel_rfl)) trivial (⟨⟨by kernel_rfl, [.d (.lst (List.map (encI .i64) vs3_1.L)), .d (.int .i64 (IntKind.wrap .i64 ((IntKind.wrap .i64 ((IntKind.wrap .i64 (vs3_1.at_ + 1)) + 1)) + 1)))], by kernel_rfl, l2_same (by kernel_rfl) (by kernel_rfl)⟩, ⟨by kernel_rfl, [.d (.int .i64 0), .d (.int .i64 0)], by kernel_rfl, l2_same (by kernel_rfl) (by kernel_rfl)⟩, ⟨by kernel_rfl, [.d (.int .i64 vr5), .d (.int .i64 vr6)], by kernel_rfl, l2_same (by kernel_rfl) (by kernel_rfl)⟩, trivial⟩) (⟨t_same (by kernel_rfl) (by kernel_rfl), t_same (by kernel_rfl) (by kernel_rfl), trivial⟩))
  · refine awp_false (by kernel_rfl) h14 ?_
    refine awp_skip ?_
    obtain rfl := some_eq hF
    exact out_intro rfl (to_see [] [] ⟨[], [(0, [.d (.lst (List.map (encI .i64) vs3_1.L)), .d (.int .i64 (IntKind.wrap .i64 (vs3_1.at_ + 1)))]), (1, [.d (.int .i64 0), .d (.int .i64 0)]), (2, [.d (.int .i64 vw2_1.From), .d (.int .i64 vw2_1.To)])]⟩ [(2, .v (.one (.box 1 0))), (3, .v (.one (.box 2 0)))] 3 (by kernel_rfl) (by kernel_rfl) (lowc_of (by kernel_rfl)) trivial (⟨⟨by kernel_rfl, [.d (.lst (List.map (encI .i64) vs3_1.L)), .d (.int .i64 (IntKind.wrap .i64 (vs3_1.at_ + 1)))], by kernel_rfl, l2_same (by kernel_rfl) (by kernel_rfl)⟩, ⟨by kernel_rfl, [.d (.int .i64 0), .d (.int .i64 0)], by kernel_rfl, l2_same (by kernel_rfl) (by kernel_rfl)⟩, ⟨by kernel_rfl, [.d (.int .i64 vw2_1.From), .d (.int .i64 vw2_1.To)], by kernel_rfl, l2_same (by kernel_rfl) (by kernel_rfl)⟩, trivial⟩) (⟨t_same (by kernel_rfl) (by kernel_rfl), t_same (by kernel_rfl) (by kernel_rfl), trivial⟩))

theorem fleetmake_Stream_Frame_ok (qs : fleetmake_Stream) (r : fleetmake_Stream × api_Window) (hF : fleetmake_Stream_Frame qs = some r) : Holds prog 16 [.v (.one (.box 0 0))] ⟨[], [(0, [.d (.lst (List.map (encI .i64) qs.L)), .d (.int .i64 qs.at_)])]⟩ (fun tv m => tv = .v (.agg [.d (.int .i64 r.2.From), .d (.int .i64 r.2.To)]) ∧ m = ⟨[], [(0, [.d (.lst (List.map (encI .i64) r.1.L)), .d (.int .i64 r.1.at_)])]⟩) := by
  unfold fleetmake_Stream_Frame at hF
  refine holds_of_awp hΓ (fn := f16) (c := cB f16) (A := 1) (nx := 1) (by kernel_rfl) (by kernel_rfl) (by kernel_rfl) (by kernel_rfl) (by kernel_rfl) (by kernel_rfl) (lowc_of (by kernel_rfl)) ?_
  show Awp prog 1 39 (cB f16) _ _
  refine awp_seq ?_
  refine awp_region' 1 1001 (by kernel_rfl) (by kernel_rfl) ?_
  refine aops_eff hΓ (.v (.one (.box 1 0))) [] [(1, some [.d (.int .i64 0), .d (.int .i64 0)])] (by kernel_rfl) ?_
  refine aops_nil ?_
  refine awp_seq ?_
  obtain ⟨vr, h1, hF⟩ := bind_some hF
  obtain ⟨vr1, h2, hF⟩ := bind_some hF
  refine awp_region' 1001 10001 (by kernel_rfl) (by kernel_rfl) ?_
  refine aops_eff hΓ (.v (.one (.box 0 0))) [] [] (by kernel_rfl) ?_
  refine aops_eff hΓ (.v (.one (.own 2001 none))) [(2001, some ⟨3, 1, List.map (encI .i64) ([0, 0, 1, 5, 10, 50] : List Int)⟩)] [] (by kernel_rfl) ?_
  refine aops_call (by kernel_rfl) (by kernel_rfl) (does_call (f := (.func 17)) (g := 17) (caps := []) (tvs := [.v (.one (.box 0 0)), .v (.one (.own 2001 none))]) (al := [.v (.one (.box 0 0)), .v (.one (.own 1 none))]) (m := ⟨[(1, ⟨3, 1, List.map (encI .i64) ([0, 0, 1, 5, 10, 50] : List Int)⟩)], [(0, [.d (.lst (List.map (encI .i64) qs.L)), .d (.int .i64 qs.at_)])]⟩) (m' := ⟨[], [(0, [.d (.lst (List.map (encI .i64) qs.L)), .d (.int .i64 (IntKind.wrap .i64 (qs.at_ + 1)))])]⟩) (tv := .v (.one (.d (.int .i64 vr)))) (lens := []) rfl (by kernel_rfl) (by kernel_rfl) (sees_of (rl := [(1, 2001)]) (nl := []) (by kernel_rfl) (⟨.inr ⟨by kernel_rfl, by kernel_rfl⟩, trivial⟩) (⟨⟨by kernel_rfl, [.d (.lst (List.map (encI .i64) qs.L)), .d (.int .i64 qs.at_)], by kernel_rfl, l2_same (by kernel_rfl) (by kernel_rfl)⟩, trivial⟩)) (⟨t_same (by kernel_rfl) (by kernel_rfl), t_same (by kernel_rfl) (by kernel_rfl), trivial⟩) (fleetmake_Stream_Pick_o1_ok _ _ _ h1) (left_of (by kernel_rfl))) (.v (.one (.d (.int .i64 vr)))) [(2001, none)] [(0, some [.d (.lst (List.map (encI .i64) qs.L)), .d (.int .i64 (IntKind.wrap .i64 (qs.at_ + 1)))])] (by kernel_rfl) ?_
  refine aops_eff hΓ (.v (.one (.box 0 0))) [] [] (by kernel_rfl) ?_
  refine aops_eff hΓ (.v (.one (.own 5001 none))) [(5001, some ⟨3, 1, List.map (encI .i64) ([10, 50, 100, 300, 3000] : List Int)⟩)] [] (by kernel_rfl) ?_
  refine aops_call (by kernel_rfl) (by kernel_rfl) (does_call (f := (.func 17)) (g := 17) (caps := []) (tvs := [.v (.one (.box 0 0)), .v (.one (.own 5001 none))]) (al := [.v (.one (.box 0 0)), .v (.one (.own 1 none))]) (m := ⟨[(1, ⟨3, 1, List.map (encI .i64) ([10, 50, 100, 300, 3000] : List Int)⟩)], [(0, [.d (.lst (List.map (encI .i64) qs.L)), .d (.int .i64 (IntKind.wrap .i64 (qs.at_ + 1)))])]⟩) (m' := ⟨[], [(0, [.d (.lst (List.map (encI .i64) qs.L)), .d (.int .i64 (IntKind.wrap .i64 ((IntKind.wrap .i64 (qs.at_ + 1)) + 1)))])]⟩) (tv := .v (.one (.d (.int .i64 vr1)))) (lens := []) rfl (by kernel_rfl) (by kernel_rfl) (sees_of (rl := [(1, 5001)]) (nl := []) (by kernel_rfl) (⟨.inr ⟨by kernel_rfl, by kernel_rfl⟩, trivial⟩) (⟨⟨by kernel_rfl, [.d (.lst (List.map (encI .i64) qs.L)), .d (.int .i64 (IntKind.wrap .i64 (qs.at_ + 1)))], by kernel_rfl, l2_same (by kernel_rfl) (by kernel_rfl)⟩, trivial⟩)) (⟨t_same (by kernel_rfl) (by kernel_rfl), t_same (by kernel_rfl) (by kernel_rfl), trivial⟩) (fleetmake_Stream_Pick_o1_ok _ _ _ h2) (left_of (by kernel_rfl))) (.v (.one (.d (.int .i64 vr1)))) [(5001, none)] [(0, some [.d (.lst (List.map (encI .i64) qs.L)), .d (.int .i64 (IntKind.wrap .i64 ((IntKind.wrap .i64 (qs.at_ + 1)) + 1)))])] (by kernel_rfl) ?_
  refine aops_eff hΓ (.v (.agg [.d (.int .i64 vr), .d (.int .i64 vr1)])) [] [] (by kernel_rfl) ?_
  refine aops_eff hΓ (.v (.one (.box 8001 0))) [] [(8001, some [.d (.int .i64 0), .d (.int .i64 0)])] (by kernel_rfl) ?_
  refine aops_eff hΓ (.undef) [] [(8001, some [.d (.int .i64 vr), .d (.int .i64 vr1)])] (by kernel_rfl) ?_
  refine aops_nil ?_
  refine awp_seq ?_
  refine awp_to (to_see [(2, 8001)] [] ⟨[], [(0, [.d (.lst (List.map (encI .i64) qs.L)), .d (.int .i64 (IntKind.wrap .i64 ((IntKind.wrap .i64 (qs.at_ + 1)) + 1)))]), (1, [.d (.int .i64 0), .d (.int .i64 0)]), (2, [.d (.int .i64 vr), .d (.int .i64 vr1)])]⟩ [(0, .v (.one (.box 0 0))), (2, .v (.one (.box 1 0))), (3, .v (.one (.box 2 0)))] 3 (by kernel_rfl) (by kernel_rfl) (lowc_of (by kernel_rfl)) trivial (⟨⟨by kernel_rfl, [.d (.lst (List.map (encI .i64) qs.L)), .d (.int .i64 (IntKind.wrap .i64 ((IntKind.wrap .i64 (qs.at_ + 1)) + 1)))], by kernel_rfl, l2_same (by kernel_rfl) (by kernel_rfl)⟩, ⟨by kernel_rfl, [.d (.int .i64 0), .d (.int .i64 0)], by kernel_rfl, l2_same (by kernel_rfl) (by kernel_rfl)⟩, ⟨by kernel_rfl, [.d (.int .i64 vr), .d (.int .i64 vr1)], by kernel_rfl, l2_same (by kernel_rfl) (by kernel_rfl)⟩, trivial⟩) (⟨t_same (by kernel_rfl) (by kernel_rfl), t_same (by kernel_rfl) (by kernel_rfl), t_same (by kernel_rfl) (by kernel_rfl), trivial⟩)) ?_
  obtain ⟨⟨vs2_1, vw1⟩, h7, hF⟩ := bind_some hF
  refine awp_sub (fleetmake_Stream_Frame_x1_ok qs vr vr1 _ h7) ?_
  refine awp_seq ?_
  refine awp_to (to_see [] [] ⟨[], [(0, [.d (.lst (List.map (encI .i64) vs2_1.L)), .d (.int .i64 vs2_1.at_)]), (1, [.d (.int .i64 0), .d (.int .i64 0)]), (2, [.d (.int .i64 vw1.From), .d (.int .i64 vw1.To)])]⟩ [(0, .v (.one (.box 0 0))), (2, .v (.one (.box 1 0))), (3, .v (.one (.box 2 0)))] 3 (by kernel_rfl) (by kernel_rfl) (lowc_of (by kernel_rfl)) trivial (⟨⟨by kernel_rfl, [.d (.lst (List.map (encI .i64) vs2_1.L)), .d (.int .i64 vs2_1.at_)], by kernel_rfl, l2_same (by kernel_rfl) (by kernel_rfl)⟩, ⟨by kernel_rfl, [.d (.int .i64 0), .d (.int .i64 0)], by kernel_rfl, l2_same (by kernel_rfl) (by kernel_rfl)⟩, ⟨by kernel_rfl, [.d (.int .i64 vw1.From), .d (.int .i64 vw1.To)], by kernel_rfl, l2_same (by kernel_rfl) (by kernel_rfl)⟩, trivial⟩) (⟨t_same (by kernel_rfl) (by kernel_rfl), t_same (by kernel_rfl) (by kernel_rfl), t_same (by kernel_rfl) (by kernel_rfl), trivial⟩)) ?_
  obtain ⟨⟨vs3_1, vw2_1⟩, h12, hF⟩ := bind_some hF
  refine awp_sub (fleetmake_Stream_Frame_x3_ok vs2_1 vw1 _ h12) ?_
  refine awp_seq ?_
  refine awp_to (to_see [] [] ⟨[], [(0, [.d (.lst (List.map (encI .i64) vs3_1.L)), .d (.int .i64 vs3_1.at_)]), (1, [.d (.int .i64 0), .d (.int .i64 0)]), (2, [.d (.int .i64 vw2_1.From), .d (.int .i64 vw2_1.To)])]⟩ [(0, .v (.one (.box 0 0))), (2, .v (.one (.box 1 0))), (3, .v (.one (.box 2 0)))] 3 (by kernel_rfl) (by kernel_rfl) (lowc_of (by kernel_rfl)) trivial (⟨⟨by kernel_rfl, [.d (.lst (List.map (encI .i64) vs3_1.L)), .d (.int .i64 vs3_1.at_)], by kernel_rfl, l2_same (by kernel_rfl) (by kernel_rfl)⟩, ⟨by kernel_rfl, [.d (.int .i64 0), .d (.int .i64 0)], by kernel_rfl, l2_same (by kernel_rfl) (by kernel_rfl)⟩, ⟨by kernel_rfl, [.d (.int .i64 vw2_1.From), .d (.int .i64 vw2_1.To)], by kernel_rfl, l2_same (by kernel_rfl) (by kernel_rfl)⟩, trivial⟩) (⟨t_same (by kernel_rfl) (by kernel_rfl), t_same (by kernel_rfl) (by kernel_rfl), t_same (by kernel_rfl) (by kernel_rfl), trivial⟩)) ?_
  obtain ⟨⟨vs4_1, vw3_1⟩, h17, hF⟩ := bind_some hF
  refine awp_sub (fleetmake_Stream_Frame_x4_ok vs3_1 vw2_1 _ h17) ?_
  refine awp_seq ?_
  refine awp_region' 3 2003 (by kernel_rfl) (by kernel_rfl) ?_
  refine aops_eff hΓ (.v (.agg [.d (.int .i64 vw3_1.From), .d (.int .i64 vw3_1.To)])) [] [] (by kernel_rfl) ?_
  refine aops_eff hΓ (.undef) [] [(1, some [.d (.int .i64 vw3_1.From), .d (.int .i64 vw3_1.To)])] (by kernel_rfl) ?_
  refine aops_nil ?_
  refine awp_ret ?_
  obtain rfl := some_eq hF
  exact fin_intro (xs := [.agg [.d (.int .i64 vw3_1.From), .d (.int .i64 vw3_1.To)]]) (m' := ⟨[], [(0, [.d (.lst (List.map (encI .i64) vs4_1.L)), .d (.int .i64 vs4_1.at_)])]⟩) (tv := (.v (.agg [.d (.int .i64 vw3_1.From), .d (.int .i64 vw3_1.To)]))) (rl := []) (nl := []) (by kernel_rfl) (by kernel_rfl) (by kernel_rfl) (sees_of (by kernel_rfl) trivial (⟨⟨by kernel_rfl, [.d (.lst (List.map (encI .i64) vs4_1.L)), .d (.int .i64 vs4_1.at_)], by kernel_rfl, l2_same (by kernel_rfl) (by kernel_rfl)⟩, trivial⟩)) (t_same (by kernel_rfl) (by kernel_rfl)) ⟨rfl, rfl⟩

/-! ### beaconfleet/base.Key -/
def base_Key_x1_k : Bool → AEx
  | _ => .normal

def base_Key_x1_S (qs : List UInt8) : Bool → St
  | vx => Mem.st ⟨[], []⟩ (tl [(0, .v (.one (.d (.str qs)))), (21, .v (.one (.d (.bool vx))))]) 0

theorem base_Key_x1_ok (qs : List UInt8) (r : Bool) (hF : base_Key_x1 qs = some r) : Awp prog 0 54 (cL (cL (cR (cB f124)))) (Out 0 base_Key_x1_k (base_Key_x1_S qs) r) (Mem.st ⟨[], []⟩ (tl [(0, .v (.one (.d (.str qs))))]) 0) := by
  unfold base_Key_x1 at hF
  rcases cond_or hF with ⟨h1, hF⟩ | ⟨h1, hF⟩
  · refine awp_region' 0 17000 (by kernel_rfl) (by kernel_rfl) ?_
    refine aops_eff hΓ (.v (.one (.d (.str qs)))) [] [] (by kernel_rfl) ?_
    refine aops_eff hΓ (.v (.one (.d (.bool true)))) [] [] (opx_b (by kernel_rfl) h1) ?_
    refine aops_eff hΓ (.v (.one (.d (.bool true)))) [] [] (by kernel_rfl) ?_
    refine aops_skip' (by kernel_rfl) ?_
    refine aops_skip' (by kernel_rfl) ?_
    refine aops_skip' (by kernel_rfl) ?_
    refine aops_eff hΓ (.v (.one (.d (.bool true)))) [] [] (by kernel_rfl) ?_
    refine aops_eff hΓ (.v (.one (.d (.bool true)))) [] [] (by kernel_rfl) ?_
    refine aops_skip' (by kernel_rfl) ?_
    refine aops_skip' (by kernel_rfl) ?_
    refine aops_skip' (by kernel_rfl) ?_
    refine aops_eff hΓ (.v (.one (.d (.bool true)))) [] [] (by kernel_rfl) ?_
    refine aops_eff hΓ (.v (.one (.d (.bool true)))) [] [] (by kernel_rfl) ?_
    refine aops_skip' (by kernel_rfl) ?_
    refine aops_skip' (by kernel_rfl) ?_
    refine aops_skip' (by kernel_rfl) ?_
    refine aops_eff hΓ (.v (.one (.d (.bool true)))) [] [] (by kernel_rfl) ?_
    refine aops_nil ?_
    obtain rfl := some_eq hF
    exact out_intro rfl (to_see [] [] ⟨[], []⟩ [(0, .v (.one (.d (.str qs)))), (21, .v (.one (.d (.bool true))))] 0 (by kernel_rfl) (by kernel_rfl) (lowc_of (by kernel_rfl)) trivial trivial (⟨t_same (by kernel_rfl) (by kernel_rfl), t_same (by kernel_rfl) (by kernel_rfl), trivial⟩))
  · rcases cond_or hF with ⟨h2, hF⟩ | ⟨h2, hF⟩
    · refine awp_region' 0 17000 (by kernel_rfl) (by kernel_rfl) ?_
      refine aops_eff hΓ (.v (.one (.d (.str qs)))) [] [] (by kernel_rfl) ?_
      refine aops_eff hΓ (.v (.one (.d (.bool false)))) [] [] (opx_b (by kernel_rfl) h1) ?_
      refine aops_eff hΓ (.v (.one (.d (.bool false)))) [] [] (by kernel_rfl) ?_
      refine aops_eff hΓ (.v (.one (.d (.str qs)))) [] [] (by kernel_rfl) ?_
      refine aops_eff hΓ (.v (.one (.d (.int .i64 (qs.length : Int))))) [] [] (by kernel_rfl) ?_
      refine aops_eff hΓ (.v (.one (.d (.bool true)))) [] [] (opx_b (by kernel_rfl) h2) ?_
      refine aops_eff hΓ (.v (.one (.d (.bool true)))) [] [] (by kernel_rfl) ?_
      refine aops_eff hΓ (.v (.one (.d (.bool true)))) [] [] (by kernel_rfl) ?_
      refine aops_skip' (by kernel_rfl) ?_
      refine aops_skip' (by kernel_rfl) ?_
      refine aops_skip' (by kernel_rfl) ?_
      refine aops_eff hΓ (.v (.one (.d (.bool true)))) [] [] (by kernel_rfl) ?_
      refine aops_eff hΓ (.v (.one (.d (.bool true)))) [] [] (by kernel_rfl) ?_
      refine aops_skip' (by kernel_rfl) ?_
      refine aops_skip' (by kernel_rfl) ?_
      refine aops_skip' (by kernel_rfl) ?_
      refine aops_eff hΓ (.v (.one (.d (.bool true)))) [] [] (by kernel_rfl) ?_
      refine aops_nil ?_
      obtain rfl := some_eq hF
      exact out_intro rfl (to_see [] [] ⟨[], []⟩ [(0, .v (.one (.d (.str qs)))), (21, .v (.one (.d (.bool true))))] 0 (by kernel_rfl) (by kernel_rfl) (lowc_of (by kernel_rfl)) trivial trivial (⟨t_same (by kernel_rfl) (by kernel_rfl), t_same (by kernel_rfl) (by kernel_rfl), trivial⟩))
    · obtain ⟨vc, h3, hF⟩ := bind_some hF
      rcases cond_or hF with ⟨h4, hF⟩ | ⟨h4, hF⟩
      · refine awp_region' 0 17000 (by kernel_rfl) (by kernel_rfl) ?_
        refine aops_eff hΓ (.v (.one (.d (.str qs)))) [] [] (by kernel_rfl) ?_
        refine aops_eff hΓ (.v (.one (.d (.bool false)))) [] [] (opx_b (by kernel_rfl) h1) ?_
        refine aops_eff hΓ (.v (.one (.d (.bool false)))) [] [] (by kernel_rfl) ?_
        refine aops_eff hΓ (.v (.one (.d (.str qs)))) [] [] (by kernel_rfl) ?_
        refine aops_eff hΓ (.v (.one (.d (.int .i64 (qs.length : Int))))) [] [] (by kernel_rfl) ?_
        refine aops_eff hΓ (.v (.one (.d (.bool false)))) [] [] (opx_b (by kernel_rfl) h2) ?_
        refine aops_eff hΓ (.v (.one (.d (.bool false)))) [] [] (by kernel_rfl) ?_
        refine aops_eff hΓ (.v (.one (.d (.bool false)))) [] [] (by kernel_rfl) ?_
        refine aops_eff hΓ (.v (.one (.d (.str qs)))) [] [] (by kernel_rfl) ?_
        refine aops_eff hΓ (.v (.one (.d (.int .u8 (vc.toNat : Int))))) [] [] (opx_of (by kernel_rfl) (by kernel_rfl) (eff_indexS (k := .i64) (ti := ti9) (l := qs) (y := vc) (by kernel_rfl) rfl (by kernel_rfl) (by kernel_rfl) h3)) ?_
        refine aops_eff hΓ (.v (.one (.d (.bool true)))) [] [] (opx_b (by kernel_rfl) h4) ?_
        refine aops_eff hΓ (.v (.one (.d (.bool true)))) [] [] (by kernel_rfl) ?_
        refine aops_eff hΓ (.v (.one (.d (.bool true)))) [] [] (by kernel_rfl) ?_
        refine aops_skip' (by kernel_rfl) ?_
        refine aops_skip' (by kernel_rfl) ?_
        refine aops_skip' (by kernel_rfl) ?_
        refine aops_eff hΓ (.v (.one (.d (.bool true)))) [] [] (by kernel_rfl) ?_
        refine aops_nil ?_
        obtain rfl := some_eq hF
        exact out_intro rfl (to_see [] [] ⟨[], []⟩ [(0, .v (.one (.d (.str qs)))), (21, .v (.one (.d (.bool true))))] 0 (by kernel_rfl) (by kernel_rfl) (lowc_of (by kernel_rfl)) trivial trivial (⟨t_same (by kernel_rfl) (by kernel_rfl), t_same (by kernel_rfl) (by kernel_rfl), trivial⟩))
      · refine awp_region' 0 17000 (by kernel_rfl) (by kernel_rfl) ?_
        refine aops_eff hΓ (.v (.one (.d (.str qs)))) [] [] (by kernel_rfl) ?_
        refine aops_eff hΓ (.v (.one (.d (.bool false)))) [] [] (opx_b (by kernel_rfl) h1) ?_
        refine aops_eff hΓ (.v (.one (.d (.bool false)))) [] [] (by kernel_rfl) ?_
        refine aops_eff hΓ (.v (.one (.d (.str qs)))) [] [] (by kernel_rfl) ?_
        refine aops_eff hΓ (.v (.one (.d (.int .i64 (qs.length : Int))))) [] [] (by kernel_rfl) ?_
        refine aops_eff hΓ (.v (.one (.d (.bool false)))) [] [] (opx_b (by kernel_rfl) h2) ?_
        refine aops_eff hΓ (.v (.one (.d (.bool false)))) [] [] (by kernel_rfl) ?_
        refine aops_eff hΓ (.v (.one (.d (.bool false)))) [] [] (by kernel_rfl) ?_
        refine aops_eff hΓ (.v (.one (.d (.str qs)))) [] [] (by kernel_rfl) ?_
        refine aops_eff hΓ (.v (.one (.d (.int .u8 (vc.toNat : Int))))) [] [] (opx_of (by kernel_rfl) (by kernel_rfl) (eff_indexS (k := .i64) (ti := ti9) (l := qs) (y := vc) (by kernel_rfl) rfl (by kernel_rfl) (by kernel_rfl) h3)) ?_
        refine aops_eff hΓ (.v (.one (.d (.bool false)))) [] [] (opx_b (by kernel_rfl) h4) ?_
        refine aops_eff hΓ (.v (.one (.d (.bool false)))) [] [] (by kernel_rfl) ?_
        refine aops_eff hΓ (.v (.one (.d (.bool false)))) [] [] (by kernel_rfl) ?_
        refine aops_eff hΓ (.v (.one (.d (.str qs)))) [] [] (by kernel_rfl) ?_
        refine aops_eff hΓ (.v (.one (.d (.int .u8 (vc.toNat : Int))))) [] [] (opx_of (by kernel_rfl) (by kernel_rfl) (eff_indexS (k := .i64) (ti := ti9) (l := qs) (y := vc) (by kernel_rfl) rfl (by kernel_rfl) (by kernel_rfl) h3)) ?_
        refine aops_eff hΓ (.v (.one (.d (.bool (decide (122 < (vc.toNat : Int))))))) [] [] (by kernel_rfl) ?_
        refine aops_eff hΓ (.v (.one (.d (.bool (decide (122 < (vc.toNat : Int))))))) [] [] (by kernel_rfl) ?_
        refine aops_nil ?_
        obtain rfl := some_eq hF
        exact out_intro rfl (to_see [] [] ⟨[], []⟩ [(0, .v (.one (.d (.str qs)))), (21, .v (.one (.d (.bool (decide (122 < (vc.toNat : Int)))))))] 0 (by kernel_rfl) (by kernel_rfl) (lowc_of (by kernel_rfl)) trivial trivial (⟨t_same (by kernel_rfl) (by kernel_rfl), t_same (by kernel_rfl) (by kernel_rfl), trivial⟩))

def base_Key_x3_k : Bool → AEx
  | _ => .normal

def base_Key_x3_S (qs : List UInt8) (vx2 : Int) (vc2 : UInt8) : Bool → St
  | vx4 => Mem.st ⟨[], []⟩ (tl [(0, .v (.one (.d (.str qs)))), (23, .v (.one (.d (.int .i64 (qs.length : Int))))), (24, .v (.one (.d (.int .i64 vx2)))), (52, .v (.one (.d (.bool vx4))))]) 0

theorem base_Key_x3_ok (qs : List UInt8) (vx2 : Int) (vc2 : UInt8) (r : Bool) (hF : base_Key_x3 vc2 = some r) : Awp prog 0 54 (cL (cR (cR (cL (cL (cR (cR (cL (cL (cR (cL (cR (cR (cB f124)))))))))))))) (Out 0 base_Key_x3_k (base_Key_x3_S qs vx2 vc2) r) (Mem.st ⟨[], []⟩ (tl [(0, .v (.one (.d (.str qs)))), (4, .v (.one (.d (.int .u8 (vc2.toNat : Int))))), (23, .v (.one (.d (.int .i64 (qs.length : Int))))), (24, .v (.one (.d (.int .i64 vx2))))]) 0) := by
  unfold base_Key_x3 at hF
  rcases cond_or hF with ⟨h9, hF⟩ | ⟨h9, hF⟩
  · rcases cond_or hF with ⟨h10, hF⟩ | ⟨h10, hF⟩
    · refine awp_region' 0 23000 (by kernel_rfl) (by kernel_rfl) ?_
      refine aops_eff hΓ (.v (.one (.d (.int .u8 (vc2.toNat : Int))))) [] [] (by kernel_rfl) ?_
      refine aops_eff hΓ (.v (.one (.d (.bool true)))) [] [] (opx_b (by kernel_rfl) h9) ?_
      refine aops_eff hΓ (.v (.one (.d (.bool true)))) [] [] (by kernel_rfl) ?_
      refine aops_eff hΓ (.v (.one (.d (.int .u8 (vc2.toNat : Int))))) [] [] (by kernel_rfl) ?_
      refine aops_eff hΓ (.v (.one (.d (.bool true)))) [] [] (opx_b (by kernel_rfl) h10) ?_
      refine aops_eff hΓ (.v (.one (.d (.bool true)))) [] [] (by kernel_rfl) ?_
      refine aops_eff hΓ (.v (.one (.d (.bool true)))) [] [] (by kernel_rfl) ?_
      refine aops_skip' (by kernel_rfl) ?_
      refine aops_skip' (by kernel_rfl) ?_
      refine aops_skip' (by kernel_rfl) ?_
      refine aops_skip' (by kernel_rfl) ?_
      refine aops_skip' (by kernel_rfl) ?_
      refine aops_skip' (by kernel_rfl) ?_
      refine aops_eff hΓ (.v (.one (.d (.bool true)))) [] [] (by kernel_rfl) ?_
      refine aops_eff hΓ (.v (.one (.d (.bool true)))) [] [] (by kernel_rfl) ?_
      refine aops_skip' (by kernel_rfl) ?_
      refine aops_skip' (by kernel_rfl) ?_
      refine aops_eff hΓ (.v (.one (.d (.bool true)))) [] [] (by kernel_rfl) ?_
      refine aops_eff hΓ (.v (.one (.d (.bool true)))) [] [] (by kernel_rfl) ?_
      refine aops_skip' (by kernel_rfl) ?_
      refine aops_skip' (by kernel_rfl) ?_
      refine aops_eff hΓ (.v (.one (.d (.bool true)))) [] [] (by kernel_rfl) ?_
      refine aops_eff hΓ (.v (.one (.d (.bool false)))) [] [] (by kernel_rfl) ?_
      refine aops_nil ?_
      obtain rfl := some_eq hF
      exact out_intro rfl (to_see [] [] ⟨[], []⟩ [(0, .v (.one (.d (.str qs)))), (23, .v (.one (.d (.int .i64 (qs.length : Int))))), (24, .v (.one (.d (.int .i64 vx2)))), (52, .v (.one (.d (.bool false))))] 0 (by kernel_rfl) (by kernel_rfl) (lowc_of (by kernel_rfl)) trivial trivial (⟨t_same (by kernel_rfl) (by kernel_rfl), t_same (by kernel_rfl) (by kernel_rfl), t_same (by kernel_rfl) (by kernel_rfl), t_same (by kernel_rfl) (by kernel_rfl), trivial⟩))
    · rcases cond_or hF with ⟨h11, hF⟩ | ⟨h11, hF⟩
      · rcases cond_or hF with ⟨h12, hF⟩ | ⟨h12, hF⟩
        · refine awp_region' 0 23000 (by kernel_rfl) (by kernel_rfl) ?_
          refine aops_eff hΓ (.v (.one (.d (.int .u8 (vc2.toNat : Int))))) [] [] (by kernel_rfl) ?_
          refine aops_eff hΓ (.v (.one (.d (.bool true)))) [] [] (opx_b (by kernel_rfl) h9) ?_
          refine aops_eff hΓ (.v (.one (.d (.bool true)))) [] [] (by kernel_rfl) ?_
          refine aops_eff hΓ (.v (.one (.d (.int .u8 (vc2.toNat : Int))))) [] [] (by kernel_rfl) ?_
          refine aops_eff hΓ (.v (.one (.d (.bool false)))) [] [] (opx_b (by kernel_rfl) h10) ?_
          refine aops_eff hΓ (.v (.one (.d (.bool false)))) [] [] (by kernel_rfl) ?_
          refine aops_eff hΓ (.v (.one (.d (.bool false)))) [] [] (by kernel_rfl) ?_
          refine aops_eff hΓ (.v (.one (.d (.int .u8 (vc2.toNat : Int))))) [] [] (by kernel_rfl) ?_
          refine aops_eff hΓ (.v (.one (.d (.bool true)))) [] [] (opx_b (by kernel_rfl) h11) ?_
          refine aops_eff hΓ (.v (.one (.d (.bool true)))) [] [] (by kernel_rfl) ?_
          refine aops_eff hΓ (.v (.one (.d (.int .u8 (vc2.toNat : Int))))) [] [] (by kernel_rfl) ?_
          refine aops_eff hΓ (.v (.one (.d (.bool true)))) [] [] (opx_b (by kernel_rfl) h12) ?_
          refine aops_eff hΓ (.v (.one (.d (.bool true)))) [] [] (by kernel_rfl) ?_
          refine aops_eff hΓ (.v (.one (.d (.bool true)))) [] [] (by kernel_rfl) ?_
          refine aops_eff hΓ (.v (.one (.d (.bool true)))) [] [] (by kernel_rfl) ?_
          refine aops_skip' (by kernel_rfl) ?_
          refine aops_skip' (by kernel_rfl) ?_
          refine aops_eff hΓ (.v (.one (.d (.bool true)))) [] [] (by kernel_rfl) ?_
          refine aops_eff hΓ (.v (.one (.d (.bool true)))) [] [] (by kernel_rfl) ?_
          refine aops_skip' (by kernel_rfl) ?_
          refine aops_skip' (by kernel_rfl) ?_
          refine aops_eff hΓ (.v (.one (.d (.bool true)))) [] [] (by kernel_rfl) ?_
          refine aops_eff hΓ (.v (.one (.d (.bool false)))) [] [] (by kernel_rfl) ?_
          refine aops_nil ?_
          obtain rfl := some_eq hF
          exact out_intro rfl (to_see [] [] ⟨[], []⟩ [(0, .v (.one (.d (.str qs)))), (23, .v (.one (.d (.int .i64 (qs.length : Int))))), (24, .v (.one (.d (.int .i64 vx2)))), (52, .v (.one (.d (.bool false))))] 0 (by kernel_rfl) (by kernel_rfl) (lowc_of (by kernel_rfl)) trivial trivial (⟨t_same (by kernel_rfl) (by kernel_rfl), t_same (by kernel_rfl) (by kernel_rfl), t_same (by kernel_rfl) (by kernel_rfl), t_same (by kernel_rfl) (by kernel_rfl), trivial⟩))
        · rcases cond_or hF with ⟨h13, hF⟩ | ⟨h13, hF⟩
          · refine awp_region' 0 23000 (by kernel_rfl) (by kernel_rfl) ?_
            refine aops_eff hΓ (.v (.one (.d (.int .u8 (vc2.toNat : Int))))) [] [] (by kernel_rfl) ?_
            refine aops_eff hΓ (.v (.one (.d (.bool true)))) [] [] (opx_b (by kernel_rfl) h9) ?_
            refine aops_eff hΓ (.v (.one (.d (.bool true)))) [] [] (by kernel_rfl) ?_
            refine aops_eff hΓ (.v (.one (.d (.int .u8 (vc2.toNat : Int))))) [] [] (by kernel_rfl) ?_
            refine aops_eff hΓ (.v (.one (.d (.bool false)))) [] [] (opx_b (by kernel_rfl) h10) ?_
            refine aops_eff hΓ (.v (.one (.d (.bool false)))) [] [] (by kernel_rfl) ?_
            refine aops_eff hΓ (.v (.one (.d (.bool false)))) [] [] (by kernel_rfl) ?_
            refine aops_eff hΓ (.v (.one (.d (.int .u8 (vc2.toNat : Int))))) [] [] (by kernel_rfl) ?_
            refine aops_eff hΓ (.v (.one (.d (.bool true)))) [] [] (opx_b (by kernel_rfl) h11) ?_
            refine aops_eff hΓ (.v (.one (.d (.bool true)))) [] [] (by kernel_rfl) ?_
            refine aops_eff hΓ (.v (.one (.d (.int .u8 (vc2.toNat : Int))))) [] [] (by kernel_rfl) ?_
            refine aops_eff hΓ (.v (.one (.d (.bool false)))) [] [] (opx_b (by kernel_rfl) h12) ?_
            refine aops_eff hΓ (.v (.one (.d (.bool false)))) [] [] (by kernel_rfl) ?_
            refine aops_eff hΓ (.v (.one (.d (.bool false)))) [] [] (by kernel_rfl) ?_
            refine aops_eff hΓ (.v (.one (.d (.bool false)))) [] [] (by kernel_rfl) ?_
            refine aops_eff hΓ (.v (.one (.d (.int .u8 (vc2.toNat : Int))))) [] [] (by kernel_rfl) ?_
            refine aops_eff hΓ (.v (.one (.d (.bool true)))) [] [] (opx_b (by kernel_rfl) h13) ?_
            refine aops_eff hΓ (.v (.one (.d (.bool true)))) [] [] (by kernel_rfl) ?_
            refine aops_eff hΓ (.v (.one (.d (.bool true)))) [] [] (by kernel_rfl) ?_
            refine aops_skip' (by kernel_rfl) ?_
            refine aops_skip' (by kernel_rfl) ?_
            refine aops_eff hΓ (.v (.one (.d (.bool true)))) [] [] (by kernel_rfl) ?_
            refine aops_eff hΓ (.v (.one (.d (.bool false)))) [] [] (by kernel_rfl) ?_
            refine aops_nil ?_
            obtain rfl := some_eq hF
            exact out_intro rfl (to_see [] [] ⟨[], []⟩ [(0, .v (.one (.d (.str qs)))), (23, .v (.one (.d (.int .i64 (qs.length : Int))))), (24, .v (.one (.d (.int .i64 vx2)))), (52, .v (.one (.d (.bool false))))] 0 (by kernel_rfl) (by kernel_rfl) (lowc_of (by kernel_rfl)) trivial trivial (⟨t_same (by kernel_rfl) (by kernel_rfl), t_same (by kernel_rfl) (by kernel_rfl), t_same (by kernel_rfl) (by kernel_rfl), t_same (by kernel_rfl) (by kernel_rfl), trivial⟩))
          · refine awp_region' 0 23000 (by kernel_rfl) (by kernel_rfl) ?_
            refine aops_eff hΓ (.v (.one (.d (.int .u8 (vc2.toNat : Int))))) [] [] (by kernel_rfl) ?_
            refine aops_eff hΓ (.v (.one (.d (.bool true)))) [] [] (opx_b (by kernel_rfl) h9) ?_
            refine aops_eff hΓ (.v (.one (.d (.bool true)))) [] [] (by kernel_rfl) ?_
            refine aops_eff hΓ (.v (.one (.d (.int .u8 (vc2.toNat : Int))))) [] [] (by kernel_rfl) ?_
            refine aops_eff hΓ (.v (.one (.d (.bool false)))) [] [] (opx_b (by kernel_rfl) h10) ?_
            refine aops_eff hΓ (.v (.one (.d (.bool false)))) [] [] (by kernel_rfl) ?_
            refine aops_eff hΓ (.v (.one (.d (.bool false)))) [] [] (by kernel_rfl) ?_
            refine aops_eff hΓ (.v (.one (.d (.int .u8 (vc2.toNat : Int))))) [] [] (by kernel_rfl) ?_
            refine aops_eff hΓ (.v (.one (.d (.bool true)))) [] [] (opx_b (by kernel_rfl) h11) ?_
            refine aops_eff hΓ (.v (.one (.d (.bool true)))) [] [] (by kernel_rfl) ?_
            refine aops_eff hΓ (.v (.one (.d (.int .u8 (vc2.toNat : Int))))) [] [] (by kernel_rfl) ?_
            refine aops_eff hΓ (.v (.one (.d (.bool false)))) [] [] (opx_b (by kernel_rfl) h12) ?_
            refine aops_eff hΓ (.v (.one (.d (.bool false)))) [] [] (by kernel_rfl) ?_
            refine aops_eff hΓ (.v (.one (.d (.bool false)))) [] [] (by kernel_rfl) ?_
            refine aops_eff hΓ (.v (.one (.d (.bool false)))) [] [] (by kernel_rfl) ?_
            refine aops_eff hΓ (.v (.one (.d (.int .u8 (vc2.toNat : Int))))) [] [] (by kernel_rfl) ?_
            refine aops_eff hΓ (.v (.one (.d (.bool false)))) [] [] (opx_b (by kernel_rfl) h13) ?_
            refine aops_eff hΓ (.v (.one (.d (.bool false)))) [] [] (by kernel_rfl) ?_
            refine aops_eff hΓ (.v (.one (.d (.bool false)))) [] [] (by kernel_rfl) ?_
            refine aops_eff hΓ (.v (.one (.d (.int .u8 (vc2.toNat : Int))))) [] [] (by kernel_rfl) ?_
            refine aops_eff hΓ (.v (.one (.d (.bool (decide ((vc2.toNat : Int) = 95)))))) [] [] (by kernel_rfl) ?_
            refine aops_eff hΓ (.v (.one (.d (.bool (decide ((vc2.toNat : Int) = 95)))))) [] [] (by kernel_rfl) ?_
            refine aops_eff hΓ (.v (.one (.d (.bool (!(decide ((vc2.toNat : Int) = 95))))))) [] [] (by kernel_rfl) ?_
            refine aops_nil ?_
            obtain rfl := some_eq hF
            exact out_intro rfl (to_see [] [] ⟨[], []⟩ [(0, .v (.one (.d (.str qs)))), (23, .v (.one (.d (.int .i64 (qs.length : Int))))), (24, .v (.one (.d (.int .i64 vx2)))), (52, .v (.one (.d (.bool (!(decide ((vc2.toNat : Int) = 95)))))))] 0 (by kernel_rfl) (by kernel_rfl) (lowc_of (by kernel_rfl)) trivial trivial (⟨t_same (by kernel_rfl) (by kernel_rfl), t_same (by kernel_rfl) (by kernel_rfl), t_same (by kernel_rfl) (by kernel_rfl), t_same (by kernel_rfl) (by kernel_rfl), trivial⟩))
      · rcases cond_or hF with ⟨h14, hF⟩ | ⟨h14, hF⟩
        · refine awp_region' 0 23000 (by kernel_rfl) (by kernel_rfl) ?_
          refine aops_eff hΓ (.v (.one (.d (.int .u8 (vc2.toNat : Int))))) [] [] (by kernel_rfl) ?_
          refine aops_eff hΓ (.v (.one (.d (.bool true)))) [] [] (opx_b (by kernel_rfl) h9) ?_
          refine aops_eff hΓ (.v (.one (.d (.bool true)))) [] [] (by kernel_rfl) ?_
          refine aops_eff hΓ (.v (.one (.d (.int .u8 (vc2.toNat : Int))))) [] [] (by kernel_rfl) ?_
          refine aops_eff hΓ (.v (.one (.d (.bool false)))) [] [] (opx_b (by kernel_rfl) h10) ?_
          refine aops_eff hΓ (.v (.one (.d (.bool false)))) [] [] (by kernel_rfl) ?_
          refine aops_eff hΓ (.v (.one (.d (.bool false)))) [] [] (by kernel_rfl) ?_
          refine aops_eff hΓ (.v (.one (.d (.int .u8 (vc2.toNat : Int))))) [] [] (by kernel_rfl) ?_
          refine aops_eff hΓ (.v (.one (.d (.bool false)))) [] [] (opx_b (by kernel_rfl) h11) ?_
          refine aops_eff hΓ (.v (.one (.d (.bool false)))) [] [] (by kernel_rfl) ?_
          refine aops_skip' (by kernel_rfl) ?_
          refine aops_skip' (by kernel_rfl) ?_
          refine aops_eff hΓ (.v (.one (.d (.bool false)))) [] [] (by kernel_rfl) ?_
          refine aops_eff hΓ (.v (.one (.d (.bool false)))) [] [] (by kernel_rfl) ?_
          refine aops_eff hΓ (.v (.one (.d (.bool false)))) [] [] (by kernel_rfl) ?_
          refine aops_eff hΓ (.v (.one (.d (.int .u8 (vc2.toNat : Int))))) [] [] (by kernel_rfl) ?_
          refine aops_eff hΓ (.v (.one (.d (.bool true)))) [] [] (opx_b (by kernel_rfl) h14) ?_
          refine aops_eff hΓ (.v (.one (.d (.bool true)))) [] [] (by kernel_rfl) ?_
          refine aops_eff hΓ (.v (.one (.d (.bool true)))) [] [] (by kernel_rfl) ?_
          refine aops_skip' (by kernel_rfl) ?_
          refine aops_skip' (by kernel_rfl) ?_
          refine aops_eff hΓ (.v (.one (.d (.bool true)))) [] [] (by kernel_rfl) ?_
          refine aops_eff hΓ (.v (.one (.d (.bool false)))) [] [] (by kernel_rfl) ?_
          refine aops_nil ?_
          obtain rfl := some_eq hF
          exact out_intro rfl (to_see [] [] ⟨[], []⟩ [(0, .v (.one (.d (.str qs)))), (23, .v (.one (.d (.int .i64 (qs.length : Int))))), (24, .v (.one (.d (.int .i64 vx2)))), (52, .v (.one (.d (.bool false))))] 0 (by kernel_rfl) (by kernel_rfl) (lowc_of (by kernel_rfl)) trivial trivial (⟨t_same (by kernel_rfl) (by kernel_rfl), t_same (by kernel_rfl) (by kernel_rfl), t_same (by kernel_rfl) (by kernel_rfl), t_same (by kernel_rfl) (by kernel_rfl), trivial⟩))
        · refine awp_region' 0 23000 (by kernel_rfl) (by kernel_rfl) ?_
          refine aops_eff hΓ (.v (.one (.d (.int .u8 (vc2.toNat : Int))))) [] [] (by kernel_rfl) ?_
          refine aops_eff hΓ (.v (.one (.d (.bool true)))) [] [] (opx_b (by kernel_rfl) h9) ?_
          refine aops_eff hΓ (.v (.one (.d (.bool true)))) [] [] (by kernel_rfl) ?_
          refine aops_eff hΓ (.v (.one (.d (.int .u8 (vc2.toNat : Int))))) [] [] (by kernel_rfl) ?_
          refine aops_eff hΓ (.v (.one (.d (.bool false)))) [] [] (opx_b (by kernel_rfl) h10) ?_
          refine aops_eff hΓ (.v (.one (.d (.bool false)))) [] [] (by kernel_rfl) ?_
          refine aops_eff hΓ (.v (.one (.d (.bool false)))) [] [] (by kernel_rfl) ?_
          refine aops_eff hΓ (.v (.one (.d (.int .u8 (vc2.toNat : Int))))) [] [] (by kernel_rfl) ?_
          refine aops_eff hΓ (.v (.one (.d (.bool false)))) [] [] (opx_b (by kernel_rfl) h11) ?_
          refine aops_eff hΓ (.v (.one (.d (.bool false)))) [] [] (by kernel_rfl) ?_
          refine aops_skip' (by kernel_rfl) ?_
          refine aops_skip' (by kernel_rfl) ?_
          refine aops_eff hΓ (.v (.one (.d (.bool false)))) [] [] (by kernel_rfl) ?_
          refine aops_eff hΓ (.v (.one (.d (.bool false)))) [] [] (by kernel_rfl) ?_
          refine aops_eff hΓ (.v (.one (.d (.bool false)))) [] [] (by kernel_rfl) ?_
          refine aops_eff hΓ (.v (.one (.d (.int .u8 (vc2.toNat : Int))))) [] [] (by kernel_rfl) ?_
          refine aops_eff hΓ (.v (.one (.d (.bool false)))) [] [] (opx_b (by kernel_rfl) h14) ?_
          refine aops_eff hΓ (.v (.one (.d (.bool false)))) [] [] (by kernel_rfl) ?_
          refine aops_eff hΓ (.v (.one (.d (.bool false)))) [] [] (by kernel_rfl) ?_
          refine aops_eff hΓ (.v (.one (.d (.int .u8 (vc2.toNat : Int))))) [] [] (by kernel_rfl) ?_
          refine aops_eff hΓ (.v (.one (.d (.bool (decide ((vc2.toNat : Int) = 95)))))) [] [] (by kernel_rfl) ?_
          refine aops_eff hΓ (.v (.one (.d (.bool (decide ((vc2.toNat : Int) = 95)))))) [] [] (by kernel_rfl) ?_
          refine aops_eff hΓ (.v (.one (.d (.bool (!(decide ((vc2.toNat : Int) = 95))))))) [] [] (by kernel_rfl) ?_
          refine aops_nil ?_
          obtain rfl := some_eq hF
          exact out_intro rfl (to_see [] [] ⟨[], []⟩ [(0, .v (.one (.d (.str qs)))), (23, .v (.one (.d (.int .i64 (qs.length : Int))))), (24, .v (.one (.d (.int .i64 vx2)))), (52, .v (.one (.d (.bool (!(decide ((vc2.toNat : Int) = 95)))))))] 0 (by kernel_rfl) (by kernel_rfl) (lowc_of (by kernel_rfl)) trivial trivial (⟨t_same (by kernel_rfl) (by kernel_rfl), t_same (by kernel_rfl) (by kernel_rfl), t_same (by kernel_rfl) (by kernel_rfl), t_same (by kernel_rfl) (by kernel_rfl), trivial⟩))
  · rcases cond_or hF with ⟨h15, hF⟩ | ⟨h15, hF⟩
    · rcases cond_or hF with ⟨h16, hF⟩ | ⟨h16, hF⟩
      · refine awp_region' 0 23000 (by kernel_rfl) (by kernel_rfl) ?_
        refine aops_eff hΓ (.v (.one (.d (.int .u8 (vc2.toNat : Int))))) [] [] (by kernel_rfl) ?_
        refine aops_eff hΓ (.v (.one (.d (.bool false)))) [] [] (opx_b (by kernel_rfl) h9) ?_
        refine aops_eff hΓ (.v (.one (.d (.bool false)))) [] [] (by kernel_rfl) ?_
        refine aops_skip' (by kernel_rfl) ?_
        refine aops_skip' (by kernel_rfl) ?_
        refine aops_eff hΓ (.v (.one (.d (.bool false)))) [] [] (by kernel_rfl) ?_
        refine aops_eff hΓ (.v (.one (.d (.bool false)))) [] [] (by kernel_rfl) ?_
        refine aops_eff hΓ (.v (.one (.d (.int .u8 (vc2.toNat : Int))))) [] [] (by kernel_rfl) ?_
        refine aops_eff hΓ (.v (.one (.d (.bool true)))) [] [] (opx_b (by kernel_rfl) h15) ?_
        refine aops_eff hΓ (.v (.one (.d (.bool true)))) [] [] (by kernel_rfl) ?_
        refine aops_eff hΓ (.v (.one (.d (.int .u8 (vc2.toNat : Int))))) [] [] (by kernel_rfl) ?_
        refine aops_eff hΓ (.v (.one (.d (.bool true)))) [] [] (opx_b (by kernel_rfl) h16) ?_
        refine aops_eff hΓ (.v (.one (.d (.bool true)))) [] [] (by kernel_rfl) ?_
        refine aops_eff hΓ (.v (.one (.d (.bool true)))) [] [] (by kernel_rfl) ?_
        refine aops_eff hΓ (.v (.one (.d (.bool true)))) [] [] (by kernel_rfl) ?_
        refine aops_skip' (by kernel_rfl) ?_
        refine aops_skip' (by kernel_rfl) ?_
        refine aops_eff hΓ (.v (.one (.d (.bool true)))) [] [] (by kernel_rfl) ?_
        refine aops_eff hΓ (.v (.one (.d (.bool true)))) [] [] (by kernel_rfl) ?_
        refine aops_skip' (by kernel_rfl) ?_
        refine aops_skip' (by kernel_rfl) ?_
        refine aops_eff hΓ (.v (.one (.d (.bool true)))) [] [] (by kernel_rfl) ?_
        refine aops_eff hΓ (.v (.one (.d (.bool false)))) [] [] (by kernel_rfl) ?_
        refine aops_nil ?_
        obtain rfl := some_eq hF
        exact out_intro rfl (to_see [] [] ⟨[], []⟩ [(0, .v (.one (.d (.str qs)))), (23, .v (.one (.d (.int .i64 (qs.length : Int))))), (24, .v (.one (.d (.int .i64 vx2)))), (52, .v (.one (.d (.bool false))))] 0 (by kernel_rfl) (by kernel_rfl) (lowc_of (by kernel_rfl)) trivial trivial (⟨t_same (by kernel_rfl) (by kernel_rfl), t_same (by kernel_rfl) (by kernel_rfl), t_same (by kernel_rfl) (by kernel_rfl), t_same (by kernel_rfl) (by kernel_rfl), trivial⟩))
      · rcases cond_or hF with ⟨h17, hF⟩ | ⟨h17, hF⟩
        · refine awp_region' 0 23000 (by kernel_rfl) (by kernel_rfl) ?_
          refine aops_eff hΓ (.v (.one (.d (.int .u8 (vc2.toNat : Int))))) [] [] (by kernel_rfl) ?_
          refine aops_eff hΓ (.v (.one (.d (.bool false)))) [] [] (opx_b (by kernel_rfl) h9) ?_
          refine aops_eff hΓ (.v (.one (.d (.bool false)))) [] [] (by kernel_rfl) ?_
          refine aops_skip' (by kernel_rfl) ?_
          refine aops_skip' (by kernel_rfl) ?_
          refine aops_eff hΓ (.v (.one (.d (.bool false)))) [] [] (by kernel_rfl) ?_
          refine aops_eff hΓ (.v (.one (.d (.bool false)))) [] [] (by kernel_rfl) ?_
          refine aops_eff hΓ (.v (.one (.d (.int .u8 (vc2.toNat : Int))))) [] [] (by kernel_rfl) ?_
          refine aops_eff hΓ (.v (.one (.d (.bool true)))) [] [] (opx_b (by kernel_rfl) h15) ?_
          refine aops_eff hΓ (.v (.one (.d (.bool true)))) [] [] (by kernel_rfl) ?_
          refine aops_eff hΓ (.v (.one (.d (.int .u8 (vc2.toNat : Int))))) [] [] (by kernel_rfl) ?_
          refine aops_eff hΓ (.v (.one (.d (.bool false)))) [] [] (opx_b (by kernel_rfl) h16) ?_
          refine aops_eff hΓ (.v (.one (.d (.bool false)))) [] [] (by kernel_rfl) ?_
          refine aops_eff hΓ (.v (.one (.d (.bool false)))) [] [] (by kernel_rfl) ?_
          refine aops_eff hΓ (.v (.one (.d (.bool false)))) [] [] (by kernel_rfl) ?_
          refine aops_eff hΓ (.v (.one (.d (.int .u8 (vc2.toNat : Int))))) [] [] (by kernel_rfl) ?_
          refine aops_eff hΓ (.v (.one (.d (.bool true)))) [] [] (opx_b (by kernel_rfl) h17) ?_
          refine aops_eff hΓ (.v (.one (.d (.bool true)))) [] [] (by kernel_rfl) ?_
          refine aops_eff hΓ (.v (.one (.d (.bool true)))) [] [] (by kernel_rfl) ?_
          refine aops_skip' (by kernel_rfl) ?_
          refine aops_skip' (by kernel_rfl) ?_
          refine aops_eff hΓ (.v (.one (.d (.bool true)))) [] [] (by kernel_rfl) ?_
          refine aops_eff hΓ (.v (.one (.d (.bool false)))) [] [] (by kernel_rfl) ?_
          refine aops_nil ?_
          obtain rfl := some_eq hF
          exact out_intro rfl (to_see [] [] ⟨[], []⟩ [(0, .v (.one (.d (.str qs)))), (23, .v (.one (.d (.int .i64 (qs.length : Int))))), (24, .v (.one (.d (.int .i64 vx2)))), (52, .v (.one (.d (.bool false))))] 0 (by kernel_rfl) (by kernel_rfl) (lowc_of (by kernel_rfl)) trivial trivial (⟨t_same (by kernel_rfl) (by kernel_rfl), t_same (by kernel_rfl) (by kernel_rfl), t_same (by kernel_rfl) (by kernel_rfl), t_same (by kernel_rfl) (by kernel_rfl), trivial⟩))
        · refine awp_region' 0 23000 (by kernel_rfl) (by kernel_rfl) ?_
          refine aops_eff hΓ (.v (.one (.d (.int .u8 (vc2.toNat : Int))))) [] [] (by kernel_rfl) ?_
          refine aops_eff hΓ (.v (.one (.d (.bool false)))) [] [] (opx_b (by kernel_rfl) h9) ?_
          refine aops_eff hΓ (.v (.one (.d (.bool false)))) [] [] (by kernel_rfl) ?_
          refine aops_skip' (by kernel_rfl) ?_
          refine aops_skip' (by kernel_rfl) ?_
          refine aops_eff hΓ (.v (.one (.d (.bool false)))) [] [] (by kernel_rfl) ?_
          refine aops_eff hΓ (.v (.one (.d (.bool false)))) [] [] (by kernel_rfl) ?_
          refine aops_eff hΓ (.v (.one (.d (.int .u8 (vc2.toNat : Int))))) [] [] (by kernel_rfl) ?_
          refine aops_eff hΓ (.v (.one (.d (.bool true)))) [] [] (opx_b (by kernel_rfl) h15) ?_
          refine aops_eff hΓ (.v (.one (.d (.bool true)))) [] [] (by kernel_rfl) ?_
          refine aops_eff hΓ (.v (.one (.d (.int .u8 (vc2.toNat : Int))))) [] [] (by kernel_rfl) ?_
          refine aops_eff hΓ (.v (.one (.d (.bool false)))) [] [] (opx_b (by kernel_rfl) h16) ?_
          refine aops_eff hΓ (.v (.one (.d (.bool false)))) [] [] (by kernel_rfl) ?_
          refine aops_eff hΓ (.v (.one (.d (.bool false)))) [] [] (by kernel_rfl) ?_
          refine aops_eff hΓ (.v (.one (.d (.bool false)))) [] [] (by kernel_rfl) ?_
          refine aops_eff hΓ (.v (.one (.d (.int .u8 (vc2.toNat : Int))))) [] [] (by kernel_rfl) ?_
          refine aops_eff hΓ (.v (.one (.d (.bool false)))) [] [] (opx_b (by kernel_rfl) h17) ?_
          refine aops_eff hΓ (.v (.one (.d (.bool false)))) [] [] (by kernel_rfl) ?_
          refine aops_eff hΓ (.v (.one (.d (.bool false)))) [] [] (by kernel_rfl) ?_
          refine aops_eff hΓ (.v (.one (.d (.int .u8 (vc2.toNat : Int))))) [] [] (by kernel_rfl) ?_
          refine aops_eff hΓ (.v (.one (.d (.bool (decide ((vc2.toNat : Int) = 95)))))) [] [] (by kernel_rfl) ?_
          refine aops_eff hΓ (.v (.one (.d (.bool (decide ((vc2.toNat : Int) = 95)))))) [] [] (by kernel_rfl) ?_
          refine aops_eff hΓ (.v (.one (.d (.bool (!(decide ((vc2.toNat : Int) = 95))))))) [] [] (by kernel_rfl) ?_
          refine aops_nil ?_
          obtain rfl := some_eq hF
          exact out_intro rfl (to_see [] [] ⟨[], []⟩ [(0, .v (.one (.d (.str qs)))), (23, .v (.one (.d (.int .i64 (qs.length : Int))))), (24, .v (.one (.d (.int .i64 vx2)))), (52, .v (.one (.d (.bool (!(decide ((vc2.toNat : Int) = 95)))))))] 0 (by kernel_rfl) (by kernel_rfl) (lowc_of (by kernel_rfl)) trivial trivial (⟨t_same (by kernel_rfl) (by kernel_rfl), t_same (by kernel_rfl) (by kernel_rfl), t_same (by kernel_rfl) (by kernel_rfl), t_same (by kernel_rfl) (by kernel_rfl), trivial⟩))
    · rcases cond_or hF with ⟨h18, hF⟩ | ⟨h18, hF⟩
      · refine awp_region' 0 23000 (by kernel_rfl) (by kernel_rfl) ?_
        refine aops_eff hΓ (.v (.one (.d (.int .u8 (vc2.toNat : Int))))) [] [] (by kernel_rfl) ?_
        refine aops_eff hΓ (.v (.one (.d (.bool false)))) [] [] (opx_b (by kernel_rfl) h9) ?_
        refine aops_eff hΓ (.v (.one (.d (.bool false)))) [] [] (by kernel_rfl) ?_
        refine aops_skip' (by kernel_rfl) ?_
        refine aops_skip' (by kernel_rfl) ?_
        refine aops_eff hΓ (.v (.one (.d (.bool false)))) [] [] (by kernel_rfl) ?_
        refine aops_eff hΓ (.v (.one (.d (.bool false)))) [] [] (by kernel_rfl) ?_
        refine aops_eff hΓ (.v (.one (.d (.int .u8 (vc2.toNat : Int))))) [] [] (by kernel_rfl) ?_
        refine aops_eff hΓ (.v (.one (.d (.bool false)))) [] [] (opx_b (by kernel_rfl) h15) ?_
        refine aops_eff hΓ (.v (.one (.d (.bool false)))) [] [] (by kernel_rfl) ?_
        refine aops_skip' (by kernel_rfl) ?_
        refine aops_skip' (by kernel_rfl) ?_
        refine aops_eff hΓ (.v (.one (.d (.bool false)))) [] [] (by kernel_rfl) ?_
        refine aops_eff hΓ (.v (.one (.d (.bool false)))) [] [] (by kernel_rfl) ?_
        refine aops_eff hΓ (.v (.one (.d (.bool false)))) [] [] (by kernel_rfl) ?_
        refine aops_eff hΓ (.v (.one (.d (.int .u8 (vc2.toNat : Int))))) [] [] (by kernel_rfl) ?_
        refine aops_eff hΓ (.v (.one (.d (.bool true)))) [] [] (opx_b (by kernel_rfl) h18) ?_
        refine aops_eff hΓ (.v (.one (.d (.bool true)))) [] [] (by kernel_rfl) ?_
        refine aops_eff hΓ (.v (.one (.d (.bool true)))) [] [] (by kernel_rfl) ?_
        refine aops_skip' (by kernel_rfl) ?_
        refine aops_skip' (by kernel_rfl) ?_
        refine aops_eff hΓ (.v (.one (.d (.bool true)))) [] [] (by kernel_rfl) ?_
        refine aops_eff hΓ (.v (.one (.d (.bool false)))) [] [] (by kernel_rfl) ?_
        refine aops_nil ?_
        obtain rfl := some_eq hF
        exact out_intro rfl (to_see [] [] ⟨[], []⟩ [(0, .v (.one (.d (.str qs)))), (23, .v (.one (.d (.int .i64 (qs.length : Int))))), (24, .v (.one (.d (.int .i64 vx2)))), (52, .v (.one (.d (.bool false))))] 0 (by kernel_rfl) (by kernel_rfl) (lowc_of (by kernel_rfl)) trivial trivial (⟨t_same (by kernel_rfl) (by kernel_rfl), t_same (by kernel_rfl) (by kernel_rfl), t_same (by kernel_rfl) (by kernel_rfl), t_same (by kernel_rfl) (by kernel_rfl), trivial⟩))
      · refine awp_region' 0 23000 (by kernel_rfl) (by kernel_rfl) ?_
        refine aops_eff hΓ (.v (.one (.d (.int .u8 (vc2.toNat : Int))))) [] [] (by kernel_rfl) ?_
        refine aops_eff hΓ (.v (.one (.d (.bool false)))) [] [] (opx_b (by kernel_rfl) h9) ?_
        refine aops_eff hΓ (.v (.one (.d (.bool false)))) [] [] (by kernel_rfl) ?_
        refine aops_skip' (by kernel_rfl) ?_
        refine aops_skip' (by kernel_rfl) ?_
        refine aops_eff hΓ (.v (.one (.d (.bool false)))) [] [] (by kernel_rfl) ?_
        refine aops_eff hΓ (.v (.one (.d (.bool false)))) [] [] (by kernel_rfl) ?_
        refine aops_eff hΓ (.v (.one (.d (.int .u8 (vc2.toNat : Int))))) [] [] (by kernel_rfl) ?_
        refine aops_eff hΓ (.v (.one (.d (.bool false)))) [] [] (opx_b (by kernel_rfl) h15) ?_
        refine aops_eff hΓ (.v (.one (.d (.bool false)))) [] [] (by kernel_rfl) ?_
        refine aops_skip' (by kernel_rfl) ?_
        refine aops_skip' (by kernel_rfl) ?_
        refine aops_eff hΓ (.v (.one (.d (.bool false)))) [] [] (by kernel_rfl) ?_
        refine aops_eff hΓ (.v (.one (.d (.bool false)))) [] [] (by kernel_rfl) ?_
        refine aops_eff hΓ (.v (.one (.d (.bool false)))) [] [] (by kernel_rfl) ?_
        refine aops_eff hΓ (.v (.one (.d (.int .u8 (vc2.toNat : Int))))) [] [] (by kernel_rfl) ?_
        refine aops_eff hΓ (.v (.one (.d (.bool false)))) [] [] (opx_b (by kernel_rfl) h18) ?_
        refine aops_eff hΓ (.v (.one (.d (.bool false)))) [] [] (by kernel_rfl) ?_
        refine aops_eff hΓ (.v (.one (.d (.bool false)))) [] [] (by kernel_rfl) ?_
        refine aops_eff hΓ (.v (.one (.d (.int .u8 (vc2.toNat : Int))))) [] [] (by kernel_rfl) ?_
        refine aops_eff hΓ (.v (.one (.d (.bool (decide ((vc2.toNat : Int) = 95)))))) [] [] (by kernel_rfl) ?_
        refine aops_eff hΓ (.v (.one (.d (.bool (decide ((vc2.toNat : Int) = 95)))))) [] [] (by kernel_rfl) ?_
        refine aops_eff hΓ (.v (.one (.d (.bool (!(decide ((vc2.toNat : Int) = 95))))))) [] [] (by kernel_rfl) ?_
        refine aops_nil ?_
        obtain rfl := some_eq hF
        exact out_intro rfl (to_see [] [] ⟨[], []⟩ [(0, .v (.one (.d (.str qs)))), (23, .v (.one (.d (.int .i64 (qs.length : Int))))), (24, .v (.one (.d (.int .i64 vx2)))), (52, .v (.one (.d (.bool (!(decide ((vc2.toNat : Int) = 95)))))))] 0 (by kernel_rfl) (by kernel_rfl) (lowc_of (by kernel_rfl)) trivial trivial (⟨t_same (by kernel_rfl) (by kernel_rfl), t_same (by kernel_rfl) (by kernel_rfl), t_same (by kernel_rfl) (by kernel_rfl), t_same (by kernel_rfl) (by kernel_rfl), trivial⟩))

def base_Key_x2_k : Unit ⊕ Unit → AEx
  | .inl _ => .exit 0
  | .inr _ => .ret

def base_Key_x2_S (qs : List UInt8) : Unit ⊕ Unit → St
  | .inl _ => Mem.st ⟨[], []⟩ (tl []) 0
  | .inr _ => Mem.st ⟨[], []⟩ (tl [(2, .v (.one (.d (.bool false))))]) 0

def base_Key_x2_H (qs : List UInt8) : Int → St
  | vx2 => Mem.st ⟨[], []⟩ (tl [(0, .v (.one (.d (.str qs)))), (23, .v (.one (.d (.int .i64 (qs.length : Int))))), (24, .v (.one (.d (.int .i64 vx2))))]) 0

theorem base_Key_x2_ok (qs : List UInt8) (vx2 : Int) (r : (Int) ⊕ (Unit ⊕ Unit)) (hF : base_Key_x2 qs vx2 = some r) : Awp prog 0 54 (cL (cL (cR (cL (cR (cR (cB f124))))))) (Out 0 (kk base_Key_x2_k) (SS (base_Key_x2_H qs) (base_Key_x2_S qs)) r) (base_Key_x2_H qs vx2) := by
  unfold base_Key_x2 at hF
  refine awp_seq ?_
  refine awp_region' 0 1000 (by kernel_rfl) (by kernel_rfl) ?_
  refine aops_eff hΓ (.v (.one (.d (.bool (decide (vx2 < (qs.length : Int))))))) [] [] (by kernel_rfl) ?_
  refine aops_nil ?_
  refine awp_seq ?_
  rcases cond_or hF with ⟨h7, hF⟩ | ⟨h7, hF⟩
  · refine awp_true (by kernel_rfl) h7 ?_
    refine awp_skip ?_
    refine awp_seq ?_
    refine awp_block ?_
    refine awp_seq ?_
    refine awp_region' 1000 3000 (by kernel_rfl) (by kernel_rfl) ?_
    refine aops_eff hΓ (.v (.one (.d (.int .i64 vx2)))) [] [] (by kernel_rfl) ?_
    refine aops_eff hΓ (.v (.one (.d (.int .i64 vx2)))) [] [] (by kernel_rfl) ?_
    refine aops_nil ?_
    refine awp_seq ?_
    obtain ⟨vc2, h8, hF⟩ := bind_some hF
    refine awp_region' 3000 7000 (by kernel_rfl) (by kernel_rfl) ?_
    refine aops_eff hΓ (.v (.one (.d (.str qs)))) [] [] (by kernel_rfl) ?_
    refine aops_eff hΓ (.v (.one (.d (.int .i64 vx2)))) [] [] (by kernel_rfl) ?_
    refine aops_eff hΓ (.v (.one (.d (.int .u8 (vc2.toNat : Int))))) [] [] (opx_of (by kernel_rfl) (by kernel_rfl) (eff_indexS (k := .i64) (ti := ti9) (l := qs) (y := vc2) (by kernel_rfl) rfl (by kernel_rfl) (by kernel_rfl) h8)) ?_
    refine aops_eff hΓ (.v (.one (.d (.int .u8 (vc2.toNat : Int))))) [] [] (by kernel_rfl) ?_
    refine aops_nil ?_
    refine awp_seq ?_
    refine awp_to (to_see [] [] ⟨[], []⟩ [(0, .v (.one (.d (.str qs)))), (4, .v (.one (.d (.int .u8 (vc2.toNat : Int))))), (23, .v (.one (.d (.int .i64 (qs.length : Int))))), (24, .v (.one (.d (.int .i64 vx2))))] 0 (by kernel_rfl) (by kernel_rfl) (lowc_of (by kernel_rfl)) trivial trivial (⟨t_same (by kernel_rfl) (by kernel_rfl), t_same (by kernel_rfl) (by kernel_rfl), t_same (by kernel_rfl) (by kernel_rfl), t_same (by kernel_rfl) (by kernel_rfl), trivial⟩)) ?_
    obtain ⟨vx4_1, h19, hF⟩ := bind_some hF
    refine awp_sub (base_Key_x3_ok qs vx2 vc2 _ h19) ?_
    rcases cond_or hF with ⟨h20, hF⟩ | ⟨h20, hF⟩
    · refine awp_true (by kernel_rfl) h20 ?_
      refine awp_seq ?_
      refine awp_region' 0 1000 (by kernel_rfl) (by kernel_rfl) ?_
      refine aops_eff hΓ (.v (.one (.d (.bool false)))) [] [] (by kernel_rfl) ?_
      refine aops_nil ?_
      refine awp_ret ?_
      obtain rfl := some_eq hF
      exact out_intro rfl (to_see [] [] ⟨[], []⟩ [(2, .v (.one (.d (.bool false))))] 0 (by kernel_rfl) (by kernel_rfl) (lowc_of (by kernel_rfl)) trivial trivial (⟨t_same (by kernel_rfl) (by kernel_rfl), trivial⟩))
    · refine awp_false (by kernel_rfl) h20 ?_
      refine awp_skip ?_
      refine awp_region' 0 2000 (by kernel_rfl) (by kernel_rfl) ?_
      refine aops_eff hΓ (.v (.one (.d (.int .i64 (IntKind.wrap .i64 (vx2 + 1)))))) [] [] (by kernel_rfl) ?_
      refine aops_eff hΓ (.v (.one (.d (.int .i64 (IntKind.wrap .i64 (vx2 + 1)))))) [] [] (by kernel_rfl) ?_
      refine aops_nil ?_
      obtain rfl := some_eq hF
      exact out_intro rfl (to_see [] [] ⟨[], []⟩ [(0, .v (.one (.d (.str qs)))), (23, .v (.one (.d (.int .i64 (qs.length : Int))))), (24, .v (.one (.d (.int .i64 (IntKind.wrap .i64 (vx2 + 1))))))] 0 (by kernel_rfl) (by kernel_rfl) (lowc_of (by kernel_rfl)) trivial trivial (⟨t_same (by kernel_rfl) (by kernel_rfl), t_same (by kernel_rfl) (by kernel_rfl), t_same (by kernel_rfl) (by kernel_rfl), trivial⟩))
  · refine awp_false (by kernel_rfl) h7 ?_
    refine awp_exit ?_
    obtain rfl := some_eq hF
    exact out_intro rfl (to_see [] [] ⟨[], []⟩ [] 0 (by kernel_rfl) (by kernel_rfl) (lowc_of (by kernel_rfl)) trivial trivial trivial)

theorem base_Key_ok (qs : List UInt8) (r : Bool) (hF : base_Key qs = some r) : Holds prog 124 [.v (.one (.d (.str qs)))] ⟨[], []⟩ (fun tv m => tv = .v (.one (.d (.bool r))) ∧ m = ⟨[], []⟩) := by
  unfold base_Key at hF
  refine holds_of_awp hΓ (fn := f124) (c := cB f124) (A := 0) (nx := 0) (by kernel_rfl) (by kernel_rfl) (by kernel_rfl) (by kernel_rfl) (by kernel_rfl) (by kernel_rfl) (lowc_of (by kernel_rfl)) ?_
  show Awp prog 0 54 (cB f124) _ _
  refine awp_seq ?_
  refine awp_region' 0 1000 (by kernel_rfl) (by kernel_rfl) ?_
  refine aops_eff hΓ (.v (.one (.d (.bool false)))) [] [] (by kernel_rfl) ?_
  refine aops_nil ?_
  refine awp_seq ?_
  refine awp_seq ?_
  refine awp_to (to_see [] [] ⟨[], []⟩ [(0, .v (.one (.d (.str qs))))] 0 (by kernel_rfl) (by kernel_rfl) (lowc_of (by kernel_rfl)) trivial trivial (⟨t_same (by kernel_rfl) (by kernel_rfl), trivial⟩)) ?_
  obtain ⟨vx1, h5, hF⟩ := bind_some hF
  refine awp_sub (base_Key_x1_ok qs _ h5) ?_
  rcases cond_or hF with ⟨h6, hF⟩ | ⟨h6, hF⟩
  · refine awp_true (by kernel_rfl) h6 ?_
    refine awp_seq ?_
    refine awp_region' 0 1000 (by kernel_rfl) (by kernel_rfl) ?_
    refine aops_eff hΓ (.v (.one (.d (.bool false)))) [] [] (by kernel_rfl) ?_
    refine aops_nil ?_
    refine awp_ret ?_
    obtain rfl := some_eq hF
    exact fin_intro (xs := [.one (.d (.bool false))]) (m' := ⟨[], []⟩) (tv := (.v (.one (.d (.bool false))))) (rl := []) (nl := []) (by kernel_rfl) (by kernel_rfl) (by kernel_rfl) (sees_of (by kernel_rfl) trivial trivial) (t_same (by kernel_rfl) (by kernel_rfl)) ⟨rfl, rfl⟩
  · refine awp_false (by kernel_rfl) h6 ?_
    refine awp_skip ?_
    refine awp_seq ?_
    refine awp_seq ?_
    refine awp_region' 0 3000 (by kernel_rfl) (by kernel_rfl) ?_
    refine aops_eff hΓ (.v (.one (.d (.str qs)))) [] [] (by kernel_rfl) ?_
    refine aops_eff hΓ (.v (.one (.d (.int .i64 (qs.length : Int))))) [] [] (by kernel_rfl) ?_
    refine aops_eff hΓ (.v (.one (.d (.int .i64 0)))) [] [] (by kernel_rfl) ?_
    refine aops_nil ?_
    refine awp_block ?_
    refine awp_to (st' := base_Key_x2_H qs 0) (to_see [] [] ⟨[], []⟩ [(0, .v (.one (.d (.str qs)))), (23, .v (.one (.d (.int .i64 (qs.length : Int))))), (24, .v (.one (.d (.int .i64 0))))] 0 (by kernel_rfl) (by kernel_rfl) (lowc_of (by kernel_rfl)) trivial trivial (⟨t_same (by kernel_rfl) (by kernel_rfl), t_same (by kernel_rfl) (by kernel_rfl), t_same (by kernel_rfl) (by kernel_rfl), trivial⟩)) ?_
    obtain ⟨(_ | _), h21, hF⟩ := bind_some hF
    · refine awp_sub (awp_loop' (base_Key_x2_H qs) base_Key_x2_k (base_Key_x2_S qs) (by intro x; rcases x with x | x <;> exact fun h => nomatch h) h21 (base_Key_x2_ok qs)) ?_
      refine awp_seq ?_
      refine awp_region' 0 1000 (by kernel_rfl) (by kernel_rfl) ?_
      refine aops_eff hΓ (.v (.one (.d (.bool true)))) [] [] (by kernel_rfl) ?_
      refine aops_nil ?_
      refine awp_ret ?_
      obtain rfl := some_eq hF
      exact fin_intro (xs := [.one (.d (.bool true))]) (m' := ⟨[], []⟩) (tv := (.v (.one (.d (.bool true))))) (rl := []) (nl := []) (by kernel_rfl) (by kernel_rfl) (by kernel_rfl) (sees_of (by kernel_rfl) trivial trivial) (t_same (by kernel_rfl) (by kernel_rfl)) ⟨rfl, rfl⟩
    · refine awp_sub (awp_loop' (base_Key_x2_H qs) base_Key_x2_k (base_Key_x2_S qs) (by intro x; rcases x with x | x <;> exact fun h => nomatch h) h21 (base_Key_x2_ok qs)) ?_
      obtain rfl := some_eq hF
      exact fin_intro (xs := [.one (.d (.bool false))]) (m' := ⟨[], []⟩) (tv := (.v (.one (.d (.bool false))))) (rl := []) (nl := []) (by kernel_rfl) (by kernel_rfl) (by kernel_rfl) (sees_of (by kernel_rfl) trivial trivial) (t_same (by kernel_rfl) (by kernel_rfl)) ⟨rfl, rfl⟩

/-! ### beaconfleet/base.Out -/
def base_Out_x1_k : Bool → AEx
  | _ => .normal

def base_Out_x1_S (qn : Int) (qlow : Int) (qhigh : Int) : Bool → St
  | vx => Mem.st ⟨[], []⟩ (tl [(6, .v (.one (.d (.bool vx))))]) 0

theorem base_Out_x1_ok (qn : Int) (qlow : Int) (qhigh : Int) (r : Bool) (hF : base_Out_x1 qn qlow qhigh = some r) : Awp prog 0 15 (cL (cR (cB f114))) (Out 0 base_Out_x1_k (base_Out_x1_S qn qlow qhigh) r) (Mem.st ⟨[], []⟩ (tl [(0, .v (.one (.d (.int .i64 qn)))), (1, .v (.one (.d (.int .i64 qlow)))), (2, .v (.one (.d (.int .i64 qhigh))))]) 0) := by
  unfold base_Out_x1 at hF
  rcases cond_or hF with ⟨h1, hF⟩ | ⟨h1, hF⟩
  · refine awp_region' 0 9000 (by kernel_rfl) (by kernel_rfl) ?_
    refine aops_eff hΓ (.v (.one (.d (.int .i64 qn)))) [] [] (by kernel_rfl) ?_
    refine aops_eff hΓ (.v (.one (.d (.int .i64 qlow)))) [] [] (by kernel_rfl) ?_
    refine aops_eff hΓ (.v (.one (.d (.bool true)))) [] [] (opx_b (by kernel_rfl) h1) ?_
    refine aops_eff hΓ (.v (.one (.d (.bool true)))) [] [] (by kernel_rfl) ?_
    refine aops_skip' (by kernel_rfl) ?_
    refine aops_skip' (by kernel_rfl) ?_
    refine aops_skip' (by kernel_rfl) ?_
    refine aops_eff hΓ (.v (.one (.d (.bool true)))) [] [] (by kernel_rfl) ?_
    refine aops_eff hΓ (.v (.one (.d (.bool true)))) [] [] (by kernel_rfl) ?_
    refine aops_nil ?_
    obtain rfl := some_eq hF
    exact out_intro rfl (to_see [] [] ⟨[], []⟩ [(6, .v (.one (.d (.bool true))))] 0 (by kernel_rfl) (by kernel_rfl) (lowc_of (by kernel_rfl)) trivial trivial (⟨t_same (by kernel_rfl) (by kernel_rfl), trivial⟩))
  · refine awp_region' 0 9000 (by kernel_rfl) (by kernel_rfl) ?_
    refine aops_eff hΓ (.v (.one (.d (.int .i64 qn)))) [] [] (by kernel_rfl) ?_
    refine aops_eff hΓ (.v (.one (.d (.int .i64 qlow)))) [] [] (by kernel_rfl) ?_
    refine aops_eff hΓ (.v (.one (.d (.bool false)))) [] [] (opx_b (by kernel_rfl) h1) ?_
    refine aops_eff hΓ (.v (.one (.d (.bool false)))) [] [] (by kernel_rfl) ?_
    refine aops_eff hΓ (.v (.one (.d (.int .i64 qn)))) [] [] (by kernel_rfl) ?_
    refine aops_eff hΓ (.v (.one (.d (.int .i64 qhigh)))) [] [] (by kernel_rfl) ?_
    refine aops_eff hΓ (.v (.one (.d (.bool (decide (qhigh < qn)))))) [] [] (by kernel_rfl) ?_
    refine aops_eff hΓ (.v (.one (.d (.bool (decide (qhigh < qn)))))) [] [] (by kernel_rfl) ?_
    refine aops_eff hΓ (.v (.one (.d (.bool (decide (qhigh < qn)))))) [] [] (by kernel_rfl) ?_
    refine aops_nil ?_
    obtain rfl := some_eq hF
    exact out_intro rfl (to_see [] [] ⟨[], []⟩ [(6, .v (.one (.d (.bool (decide (qhigh < qn))))))] 0 (by kernel_rfl) (by kernel_rfl) (lowc_of (by kernel_rfl)) trivial trivial (⟨t_same (by kernel_rfl) (by kernel_rfl), trivial⟩))

theorem base_Out_ok (qn : Int) (qlow : Int) (qhigh : Int) (r : Bool) (hF : base_Out qn qlow qhigh = some r) : Holds prog 114 [.v (.one (.d (.int .i64 qn))), .v (.one (.d (.int .i64 qlow))), .v (.one (.d (.int .i64 qhigh)))] ⟨[], []⟩ (fun tv m => tv = .v (.one (.d (.bool r))) ∧ m = ⟨[], []⟩) := by
  unfold base_Out at hF
  refine holds_of_awp hΓ (fn := f114) (c := cB f114) (A := 0) (nx := 0) (by kernel_rfl) (by kernel_rfl) (by kernel_rfl) (by kernel_rfl) (by kernel_rfl) (by kernel_rfl) (lowc_of (by kernel_rfl)) ?_
  show Awp prog 0 15 (cB f114) _ _
  refine awp_seq ?_
  refine awp_region' 0 1000 (by kernel_rfl) (by kernel_rfl) ?_
  refine aops_eff hΓ (.v (.one (.d (.bool false)))) [] [] (by kernel_rfl) ?_
  refine aops_nil ?_
  refine awp_seq ?_
  refine awp_to (to_see [] [] ⟨[], []⟩ [(0, .v (.one (.d (.int .i64 qn)))), (1, .v (.one (.d (.int .i64 qlow)))), (2, .v (.one (.d (.int .i64 qhigh))))] 0 (by kernel_rfl) (by kernel_rfl) (lowc_of (by kernel_rfl)) trivial trivial (⟨t_same (by kernel_rfl) (by kernel_rfl), t_same (by kernel_rfl) (by kernel_rfl), t_same (by kernel_rfl) (by kernel_rfl), trivial⟩)) ?_
  obtain ⟨vx1, h2, hF⟩ := bind_some hF
  refine awp_sub (base_Out_x1_ok qn qlow qhigh _ h2) ?_
  refine awp_ret ?_
  obtain rfl := some_eq hF
  exact fin_intro (xs := [.one (.d (.bool vx1))]) (m' := ⟨[], []⟩) (tv := (.v (.one (.d (.bool vx1))))) (rl := []) (nl := []) (by kernel_rfl) (by kernel_rfl) (by kernel_rfl) (sees_of (by kernel_rfl) trivial trivial) (t_same (by kernel_rfl) (by kernel_rfl)) ⟨rfl, rfl⟩

/-! ### beaconfleet/base.Moment -/
theorem base_Moment_ok (qn : Int) (r : Bool) (hF : base_Moment qn = some r) : Holds prog 127 [.v (.one (.d (.int .i64 qn)))] ⟨[], []⟩ (fun tv m => tv = .v (.one (.d (.bool r))) ∧ m = ⟨[], []⟩) := by
  unfold base_Moment at hF
  refine holds_of_awp hΓ (fn := f127) (c := cB f127) (A := 0) (nx := 0) (by kernel_rfl) (by kernel_rfl) (by kernel_rfl) (by kernel_rfl) (by kernel_rfl) (by kernel_rfl) (lowc_of (by kernel_rfl)) ?_
  show Awp prog 0 6 (cB f127) _ _
  refine awp_seq ?_
  refine awp_region' 0 1000 (by kernel_rfl) (by kernel_rfl) ?_
  refine aops_eff hΓ (.v (.one (.d (.bool false)))) [] [] (by kernel_rfl) ?_
  refine aops_nil ?_
  refine awp_seq ?_
  obtain ⟨vr, h1, hF⟩ := bind_some hF
  refine awp_region' 1000 5000 (by kernel_rfl) (by kernel_rfl) ?_
  refine aops_eff hΓ (.v (.one (.d (.int .i64 qn)))) [] [] (by kernel_rfl) ?_
  refine aops_call (by kernel_rfl) (by kernel_rfl) (does_call (f := (.func 114)) (g := 114) (caps := []) (tvs := [.v (.one (.d (.int .i64 qn))), .v (.one (.d (.int .i64 0))), .v (.one (.d (.int .i64 345686399999)))]) (al := [.v (.one (.d (.int .i64 qn))), .v (.one (.d (.int .i64 0))), .v (.one (.d (.int .i64 345686399999)))]) (m := ⟨[], []⟩) (m' := ⟨[], []⟩) (tv := .v (.one (.d (.bool vr)))) (lens := []) rfl (by kernel_rfl) (by kernel_rfl) (sees_of (rl := []) (nl := []) (by kernel_rfl) trivial trivial) (⟨t_same (by kernel_rfl) (by kernel_rfl), t_same (by kernel_rfl) (by kernel_rfl), t_same (by kernel_rfl) (by kernel_rfl), trivial⟩) (base_Out_ok _ _ _ _ h1) (left_of (by kernel_rfl))) (.v (.one (.d (.bool vr)))) [] [] (by kernel_rfl) ?_
  refine aops_eff hΓ (.v (.one (.d (.bool (!vr))))) [] [] (by kernel_rfl) ?_
  refine aops_eff hΓ (.v (.one (.d (.bool (!vr))))) [] [] (by kernel_rfl) ?_
  refine aops_nil ?_
  refine awp_ret ?_
  obtain rfl := some_eq hF
  exact fin_intro (xs := [.one (.d (.bool (!vr)))]) (m' := ⟨[], []⟩) (tv := (.v (.one (.d (.bool (!vr)))))) (rl := []) (nl := []) (by kernel_rfl) (by kernel_rfl) (by kernel_rfl) (sees_of (by kernel_rfl) trivial trivial) (t_same (by kernel_rfl) (by kernel_rfl)) ⟨rfl, rfl⟩

/-! ### internal/bytealg.CompareString -/
theorem bytealg_CompareString_ok (qa : List UInt8) (qb : List UInt8) (r : Unit) (hF : bytealg_CompareString qa qb = some r) : Holds prog 248 [.v (.one (.d (.str qa))), .v (.one (.d (.str qb)))] ⟨[], []⟩ (fun tv m => tv = .v (.one (.d (.int .i64 (Lib.compareBytes qa qb)))) ∧ m = ⟨[], []⟩) := by
  unfold bytealg_CompareString at hF
  refine holds_of_awp hΓ (fn := f248) (c := cB f248) (A := 0) (nx := 0) (by kernel_rfl) (by kernel_rfl) (by kernel_rfl) (by kernel_rfl) (by kernel_rfl) (by kernel_rfl) (lowc_of (by kernel_rfl)) ?_
  show Awp prog 0 8 (cB f248) _ _
  refine awp_seq ?_
  refine awp_region' 0 1000 (by kernel_rfl) (by kernel_rfl) ?_
  refine aops_eff hΓ (.v (.one (.d (.int .i64 0)))) [] [] (by kernel_rfl) ?_
  refine aops_nil ?_
  refine awp_seq ?_
  refine awp_region' 1000 5000 (by kernel_rfl) (by kernel_rfl) ?_
  refine aops_eff hΓ (.v (.one (.d (.str qa)))) [] [] (by kernel_rfl) ?_
  refine aops_eff hΓ (.v (.one (.d (.str qb)))) [] [] (by kernel_rfl) ?_
  refine aops_call (by kernel_rfl) (by kernel_rfl) (does_cmpstring (g := 265) (fn := f265) (a := qa) (b := qb) rfl (by kernel_rfl) (by kernel_rfl) (by kernel_rfl) (by kernel_rfl) (by kernel_rfl) (by kernel_rfl)) (.v (.one (.d (.int .i64 (Lib.compareBytes qa qb))))) [] [] (by kernel_rfl) ?_
  refine aops_eff hΓ (.v (.one (.d (.int .i64 (Lib.compareBytes qa qb))))) [] [] (by kernel_rfl) ?_
  refine aops_nil ?_
  refine awp_ret ?_
  obtain rfl := some_eq hF
  exact fin_intro (xs := [.one (.d (.int .i64 (Lib.compareBytes qa qb)))]) (m' := ⟨[], []⟩) (tv := (.v (.one (.d (.int .i64 (Lib.compareBytes qa qb)))))) (rl := []) (nl := []) (by kernel_rfl) (by kernel_rfl) (by kernel_rfl) (sees_of (by kernel_rfl) trivial trivial) (t_same (by kernel_rfl) (by kernel_rfl)) ⟨rfl, rfl⟩

/-! ### strings.Compare -/
theorem strings_Compare_ok (qa : List UInt8) (qb : List UInt8) (r : Unit) (hF : strings_Compare qa qb = some r) : Holds prog 229 [.v (.one (.d (.str qa))), .v (.one (.d (.str qb)))] ⟨[], []⟩ (fun tv m => tv = .v (.one (.d (.int .i64 (Lib.compareBytes qa qb)))) ∧ m = ⟨[], []⟩) := by
  unfold strings_Compare at hF
  refine holds_of_awp hΓ (fn := f229) (c := cB f229) (A := 0) (nx := 0) (by kernel_rfl) (by kernel_rfl) (by kernel_rfl) (by kernel_rfl) (by kernel_rfl) (by kernel_rfl) (lowc_of (by kernel_rfl)) ?_
  show Awp prog 0 8 (cB f229) _ _
  refine awp_seq ?_
  refine awp_region' 0 1000 (by kernel_rfl) (by kernel_rfl) ?_
  refine aops_eff hΓ (.v (.one (.d (.int .i64 0)))) [] [] (by kernel_rfl) ?_
  refine aops_nil ?_
  refine awp_seq ?_
  obtain ⟨_, h1, hF⟩ := bind_some hF
  refine awp_region' 1000 5000 (by kernel_rfl) (by kernel_rfl) ?_
  refine aops_eff hΓ (.v (.one (.d (.str qa)))) [] [] (by kernel_rfl) ?_
  refine aops_eff hΓ (.v (.one (.d (.str qb)))) [] [] (by kernel_rfl) ?_
  refine aops_call (by kernel_rfl) (by kernel_rfl) (does_call (f := (.func 248)) (g := 248) (caps := []) (tvs := [.v (.one (.d (.str qa))), .v (.one (.d (.str qb)))]) (al := [.v (.one (.d (.str qa))), .v (.one (.d (.str qb)))]) (m := ⟨[], []⟩) (m' := ⟨[], []⟩) (tv := .v (.one (.d (.int .i64 (Lib.compareBytes qa qb))))) (lens := []) rfl (by kernel_rfl) (by kernel_rfl) (sees_of (rl := []) (nl := []) (by kernel_rfl) trivial trivial) (⟨t_same (by kernel_rfl) (by kernel_rfl), t_same (by kernel_rfl) (by kernel_rfl), trivial⟩) (bytealg_CompareString_ok _ _ _ h1) (left_of (by kernel_rfl))) (.v (.one (.d (.int .i64 (Lib.compareBytes qa qb))))) [] [] (by kernel_rfl) ?_
  refine aops_eff hΓ (.v (.one (.d (.int .i64 (Lib.compareBytes qa qb))))) [] [] (by kernel_rfl) ?_
  refine aops_nil ?_
  refine awp_ret ?_
  obtain rfl := some_eq hF
  exact fin_intro (xs := [.one (.d (.int .i64 (Lib.compareBytes qa qb)))]) (m' := ⟨[], []⟩) (tv := (.v (.one (.d (.int .i64 (Lib.compareBytes qa qb)))))) (rl := []) (nl := []) (by kernel_rfl) (by kernel_rfl) (by kernel_rfl) (sees_of (by kernel_rfl) trivial trivial) (t_same (by kernel_rfl) (by kernel_rfl)) ⟨rfl, rfl⟩

/-! ### cmp.isNaN[int] -/
theorem cmp_isNaN_int_ok (qx : Int) (r : Unit) (hF : cmp_isNaN_int qx = some r) : Holds prog 227 [.v (.one (.d (.int .i64 qx)))] ⟨[], []⟩ (fun tv m => tv = .v (.one (.d (.bool (!decide (qx = qx))))) ∧ m = ⟨[], []⟩) := by
  unfold cmp_isNaN_int at hF
  refine holds_of_awp hΓ (fn := f227) (c := cB f227) (A := 0) (nx := 0) (by kernel_rfl) (by kernel_rfl) (by kernel_rfl) (by kernel_rfl) (by kernel_rfl) (by kernel_rfl) (lowc_of (by kernel_rfl)) ?_
  show Awp prog 0 6 (cB f227) _ _
  refine awp_seq ?_
  refine awp_region' 0 1000 (by kernel_rfl) (by kernel_rfl) ?_
  refine aops_eff hΓ (.v (.one (.d (.bool false)))) [] [] (by kernel_rfl) ?_
  refine aops_nil ?_
  refine awp_seq ?_
  refine awp_region' 1000 5000 (by kernel_rfl) (by kernel_rfl) ?_
  refine aops_eff hΓ (.v (.one (.d (.int .i64 qx)))) [] [] (by kernel_rfl) ?_
  refine aops_eff hΓ (.v (.one (.d (.int .i64 qx)))) [] [] (by kernel_rfl) ?_
  refine aops_eff hΓ (.v (.one (.d (.bool (!decide (qx = qx)))))) [] [] (by kernel_rfl) ?_
  refine aops_eff hΓ (.v (.one (.d (.bool (!decide (qx = qx)))))) [] [] (by kernel_rfl) ?_
  refine aops_nil ?_
  refine awp_ret ?_
  obtain rfl := some_eq hF
  exact fin_intro (xs := [.one (.d (.bool (!decide (qx = qx))))]) (m' := ⟨[], []⟩) (tv := (.v (.one (.d (.bool (!decide (qx = qx))))))) (rl := []) (nl := []) (by kernel_rfl) (by kernel_rfl) (by kernel_rfl) (sees_of (by kernel_rfl) trivial trivial) (t_same (by kernel_rfl) (by kernel_rfl)) ⟨rfl, rfl⟩

/-! ### cmp.Compare[int] -/
theorem cmp_Compare_int_ok (qx : Int) (qy : Int) (r : Int) (hF : cmp_Compare_int qx qy = some r) : Holds prog 165 [.v (.one (.d (.int .i64 qx))), .v (.one (.d (.int .i64 qy)))] ⟨[], []⟩ (fun tv m => tv = .v (.one (.d (.int .i64 r))) ∧ m = ⟨[], []⟩) := by
  unfold cmp_Compare_int at hF
  refine holds_of_awp hΓ (fn := f165) (c := cB f165) (A := 0) (nx := 0) (by kernel_rfl) (by kernel_rfl) (by kernel_rfl) (by kernel_rfl) (by kernel_rfl) (by kernel_rfl) (lowc_of (by kernel_rfl)) ?_
  show Awp prog 0 20 (cB f165) _ _
  refine awp_seq ?_
  refine awp_region' 0 1000 (by kernel_rfl) (by kernel_rfl) ?_
  refine aops_eff hΓ (.v (.one (.d (.int .i64 0)))) [] [] (by kernel_rfl) ?_
  refine aops_nil ?_
  refine awp_seq ?_
  obtain ⟨_, h1, hF⟩ := bind_some hF
  refine awp_region' 1000 4000 (by kernel_rfl) (by kernel_rfl) ?_
  refine aops_eff hΓ (.v (.one (.d (.int .i64 qx)))) [] [] (by kernel_rfl) ?_
  refine aops_call (by kernel_rfl) (by kernel_rfl) (does_call (f := (.func 227)) (g := 227) (caps := []) (tvs := [.v (.one (.d (.int .i64 qx)))]) (al := [.v (.one (.d (.int .i64 qx)))]) (m := ⟨[], []⟩) (m' := ⟨[], []⟩) (tv := .v (.one (.d (.bool (!decide (qx = qx)))))) (lens := []) rfl (by kernel_rfl) (by kernel_rfl) (sees_of (rl := []) (nl := []) (by kernel_rfl) trivial trivial) (⟨t_same (by kernel_rfl) (by kernel_rfl), trivial⟩) (cmp_isNaN_int_ok _ _ h1) (left_of (by kernel_rfl))) (.v (.one (.d (.bool (!decide (qx = qx)))))) [] [] (by kernel_rfl) ?_
  refine aops_eff hΓ (.v (.one (.d (.bool (!decide (qx = qx)))))) [] [] (by kernel_rfl) ?_
  refine aops_nil ?_
  refine awp_seq ?_
  obtain ⟨_, h2, hF⟩ := bind_some hF
  refine awp_region' 4000 7000 (by kernel_rfl) (by kernel_rfl) ?_
  refine aops_eff hΓ (.v (.one (.d (.int .i64 qy)))) [] [] (by kernel_rfl) ?_
  refine aops_call (by kernel_rfl) (by kernel_rfl) (does_call (f := (.func 227)) (g := 227) (caps := []) (tvs := [.v (.one (.d (.int .i64 qy)))]) (al := [.v (.one (.d (.int .i64 qy)))]) (m := ⟨[], []⟩) (m' := ⟨[], []⟩) (tv := .v (.one (.d (.bool (!decide (qy = qy)))))) (lens := []) rfl (by kernel_rfl) (by kernel_rfl) (sees_of (rl := []) (nl := []) (by kernel_rfl) trivial trivial) (⟨t_same (by kernel_rfl) (by kernel_rfl), trivial⟩) (cmp_isNaN_int_ok _ _ h2) (left_of (by kernel_rfl))) (.v (.one (.d (.bool (!decide (qy = qy)))))) [] [] (by kernel_rfl) ?_
  refine aops_eff hΓ (.v (.one (.d (.bool (!decide (qy = qy)))))) [] [] (by kernel_rfl) ?_
  refine aops_nil ?_
  refine awp_seq ?_
  refine awp_seq ?_
  refine awp_region' 7000 8000 (by kernel_rfl) (by kernel_rfl) ?_
  refine aops_eff hΓ (.v (.one (.d (.bool (!decide (qx = qx)))))) [] [] (by kernel_rfl) ?_
  refine aops_nil ?_
  rcases cond_or hF with ⟨h3, hF⟩ | ⟨h3, hF⟩
  · refine awp_true (by kernel_rfl) h3 ?_
    refine awp_seq ?_
    refine awp_seq ?_
    refine awp_region' 8000 9000 (by kernel_rfl) (by kernel_rfl) ?_
    refine aops_eff hΓ (.v (.one (.d (.bool (!decide (qy = qy)))))) [] [] (by kernel_rfl) ?_
    refine aops_nil ?_
    rcases cond_or hF with ⟨h4, hF⟩ | ⟨h4, hF⟩
    · refine awp_true (by kernel_rfl) h4 ?_
      refine awp_seq ?_
      refine awp_region' 9000 10000 (by kernel_rfl) (by kernel_rfl) ?_
      refine aops_eff hΓ (.v (.one (.d (.int .i64 0)))) [] [] (by kernel_rfl) ?_
      refine aops_nil ?_
      refine awp_ret ?_
      obtain rfl := some_eq hF
      exact fin_intro (xs := [.one (.d (.int .i64 0))]) (m' := ⟨[], []⟩) (tv := (.v (.one (.d (.int .i64 0))))) (rl := []) (nl := []) (by kernel_rfl) (by kernel_rfl) (by kernel_rfl) (sees_of (by kernel_rfl) trivial trivial) (t_same (by kernel_rfl) (by kernel_rfl)) ⟨rfl, rfl⟩
    · refine awp_false (by kernel_rfl) h4 ?_
      refine awp_skip ?_
      refine awp_seq ?_
      refine awp_region' 9000 10000 (by kernel_rfl) (by kernel_rfl) ?_
      refine aops_eff hΓ (.v (.one (.d (.int .i64 (-1))))) [] [] (by kernel_rfl) ?_
      refine aops_nil ?_
      refine awp_ret ?_
      obtain rfl := some_eq hF
      exact fin_intro (xs := [.one (.d (.int .i64 (-1)))]) (m' := ⟨[], []⟩) (tv := (.v (.one (.d (.int .i64 (-1)))))) (rl := []) (nl := []) (by kernel_rfl) (by kernel_rfl) (by kernel_rfl) (sees_of (by kernel_rfl) trivial trivial) (t_same (by kernel_rfl) (by kernel_rfl)) ⟨rfl, rfl⟩
  · refine awp_false (by kernel_rfl) h3 ?_
    refine awp_skip ?_
    refine awp_seq ?_
    refine awp_seq ?_
    refine awp_region' 8000 9000 (by kernel_rfl) (by kernel_rfl) ?_
    refine aops_eff hΓ (.v (.one (.d (.bool (!decide (qy = qy)))))) [] [] (by kernel_rfl) ?_
    refine aops_nil ?_
    rcases cond_or hF with ⟨h5, hF⟩ | ⟨h5, hF⟩
    · refine awp_true (by kernel_rfl) h5 ?_
      refine awp_seq ?_
      refine awp_region' 9000 10000 (by kernel_rfl) (by kernel_rfl) ?_
      refine aops_eff hΓ (.v (.one (.d (.int .i64 1)))) [] [] (by kernel_rfl) ?_
      refine aops_nil ?_
      refine awp_ret ?_
      obtain rfl := some_eq hF
      exact fin_intro (xs := [.one (.d (.int .i64 1))]) (m' := ⟨[], []⟩) (tv := (.v (.one (.d (.int .i64 1))))) (rl := []) (nl := []) (by kernel_rfl) (by kernel_rfl) (by kernel_rfl) (sees_of (by kernel_rfl) trivial trivial) (t_same (by kernel_rfl) (by kernel_rfl)) ⟨rfl, rfl⟩
    · refine awp_false (by kernel_rfl) h5 ?_
      refine awp_skip ?_
      refine awp_seq ?_
      refine awp_seq ?_
      refine awp_region' 9000 12000 (by kernel_rfl) (by kernel_rfl) ?_
      refine aops_eff hΓ (.v (.one (.d (.int .i64 qx)))) [] [] (by kernel_rfl) ?_
      refine aops_eff hΓ (.v (.one (.d (.int .i64 qy)))) [] [] (by kernel_rfl) ?_
      refine aops_eff hΓ (.v (.one (.d (.bool (decide (qx < qy)))))) [] [] (by kernel_rfl) ?_
      refine aops_nil ?_
      rcases cond_or hF with ⟨h6, hF⟩ | ⟨h6, hF⟩
      · refine awp_true (by kernel_rfl) h6 ?_
        refine awp_seq ?_
        refine awp_region' 12000 13000 (by kernel_rfl) (by kernel_rfl) ?_
        refine aops_eff hΓ (.v (.one (.d (.int .i64 (-1))))) [] [] (by kernel_rfl) ?_
        refine aops_nil ?_
        refine awp_ret ?_
        obtain rfl := some_eq hF
        exact fin_intro (xs := [.one (.d (.int .i64 (-1)))]) (m' := ⟨[], []⟩) (tv := (.v (.one (.d (.int .i64 (-1)))))) (rl := []) (nl := []) (by kernel_rfl) (by kernel_rfl) (by kernel_rfl) (sees_of (by kernel_rfl) trivial trivial) (t_same (by kernel_rfl) (by kernel_rfl)) ⟨rfl, rfl⟩
      · refine awp_false (by kernel_rfl) h6 ?_
        refine awp_skip ?_
        refine awp_seq ?_
        refine awp_seq ?_
        refine awp_region' 12000 15000 (by kernel_rfl) (by kernel_rfl) ?_
        refine aops_eff hΓ (.v (.one (.d (.int .i64 qx)))) [] [] (by kernel_rfl) ?_
        refine aops_eff hΓ (.v (.one (.d (.int .i64 qy)))) [] [] (by kernel_rfl) ?_
        refine aops_eff hΓ (.v (.one (.d (.bool (decide (qy < qx)))))) [] [] (by kernel_rfl) ?_
        refine aops_nil ?_
        rcases cond_or hF with ⟨h7, hF⟩ | ⟨h7, hF⟩
        · refine awp_true (by kernel_rfl) h7 ?_
          refine awp_seq ?_
          refine awp_region' 15000 16000 (by kernel_rfl) (by kernel_rfl) ?_
          refine aops_eff hΓ (.v (.one (.d (.int .i64 1)))) [] [] (by kernel_rfl) ?_
          refine aops_nil ?_
          refine awp_ret ?_
          obtain rfl := some_eq hF
          exact fin_intro (xs := [.one (.d (.int .i64 1))]) (m' := ⟨[], []⟩) (tv := (.v (.one (.d (.int .i64 1))))) (rl := []) (nl := []) (by kernel_rfl) (by kernel_rfl) (by kernel_rfl) (sees_of (by kernel_rfl) trivial trivial) (t_same (by kernel_rfl) (by kernel_rfl)) ⟨rfl, rfl⟩
        · refine awp_false (by kernel_rfl) h7 ?_
          refine awp_skip ?_
          refine awp_seq ?_
          refine awp_region' 15000 16000 (by kernel_rfl) (by kernel_rfl) ?_
          refine aops_eff hΓ (.v (.one (.d (.int .i64 0)))) [] [] (by kernel_rfl) ?_
          refine aops_nil ?_
          refine awp_ret ?_
          obtain rfl := some_eq hF
          exact fin_intro (xs := [.one (.d (.int .i64 0))]) (m' := ⟨[], []⟩) (tv := (.v (.one (.d (.int .i64 0))))) (rl := []) (nl := []) (by kernel_rfl) (by kernel_rfl) (by kernel_rfl) (sees_of (by kernel_rfl) trivial trivial) (t_same (by kernel_rfl) (by kernel_rfl)) ⟨rfl, rfl⟩

/-! ### cmp.Or[int] -/
def cmp_Or_int_x1_k : Unit ⊕ Int → AEx
  | .inl _ => .exit 0
  | .inr _ => .ret

def cmp_Or_int_x1_S (qvals : List Int) : Unit ⊕ Int → St
  | .inl _ => Mem.st ⟨[], []⟩ (tl [(3, .v (.one (.d (.int .i64 0))))]) 0
  | .inr vx1 => Mem.st ⟨[], []⟩ (tl [(2, .v (.one (.d (.int .i64 vx1))))]) 0

def cmp_Or_int_x1_H (qvals : List Int) : Int → St
  | vx => Mem.st ⟨[], []⟩ (tl [(3, .v (.one (.d (.int .i64 0)))), (6, .v (.one (.d (.lst (List.map (encI .i64) qvals))))), (7, .v (.one (.d (.int .i64 (qvals.length : Int))))), (8, .v (.one (.d (.int .i64 vx))))]) 0

theorem cmp_Or_int_x1_ok (qvals : List Int) (vx : Int) (r : (Int) ⊕ (Unit ⊕ Int)) (hF : cmp_Or_int_x1 qvals vx = some r) : Awp prog 0 18 (cL (cL (cR (cL (cR (cR (cB f233))))))) (Out 0 (kk cmp_Or_int_x1_k) (SS (cmp_Or_int_x1_H qvals) (cmp_Or_int_x1_S qvals)) r) (cmp_Or_int_x1_H qvals vx) := by
  unfold cmp_Or_int_x1 at hF
  refine awp_seq ?_
  refine awp_region' 0 1000 (by kernel_rfl) (by kernel_rfl) ?_
  refine aops_eff hΓ (.v (.one (.d (.bool (decide (vx < (qvals.length : Int))))))) [] [] (by kernel_rfl) ?_
  refine aops_nil ?_
  refine awp_seq ?_
  rcases cond_or hF with ⟨h1, hF⟩ | ⟨h1, hF⟩
  · refine awp_true (by kernel_rfl) h1 ?_
    refine awp_skip ?_
    refine awp_seq ?_
    refine awp_block ?_
    refine awp_seq ?_
    obtain ⟨vy1, h2, hF⟩ := bind_some hF
    refine awp_region' 1000 4000 (by kernel_rfl) (by kernel_rfl) ?_
    refine aops_eff hΓ (.v (.one (.cp [.int .i64 vy1]))) [] [] (opx_of (by kernel_rfl) (by kernel_rfl) (eff_indexAddr (k := .i64) (ti := ti22) (te := ti3) (l := qvals) (f := (encI .i64)) (y := vy1) (by kernel_rfl) rfl (by kernel_rfl) (by kernel_rfl) (by kernel_rfl) h2 (by kernel_rfl))) ?_
    refine aops_eff hΓ (.v (.one (.d (.int .i64 vy1)))) [] [] (by kernel_rfl) ?_
    refine aops_eff hΓ (.v (.one (.d (.int .i64 vy1)))) [] [] (by kernel_rfl) ?_
    refine aops_nil ?_
    refine awp_seq ?_
    refine awp_region' 4000 7000 (by kernel_rfl) (by kernel_rfl) ?_
    refine aops_eff hΓ (.v (.one (.d (.int .i64 vy1)))) [] [] (by kernel_rfl) ?_
    refine aops_eff hΓ (.v (.one (.d (.int .i64 0)))) [] [] (by kernel_rfl) ?_
    refine aops_eff hΓ (.v (.one (.d (.bool (!decide (vy1 = 0)))))) [] [] (by kernel_rfl) ?_
    refine aops_nil ?_
    rcases cond_or hF with ⟨h3, hF⟩ | ⟨h3, hF⟩
    · refine awp_true (by kernel_rfl) h3 ?_
      refine awp_seq ?_
      refine awp_region' 7000 9000 (by kernel_rfl) (by kernel_rfl) ?_
      refine aops_eff hΓ (.v (.one (.d (.int .i64 vy1)))) [] [] (by kernel_rfl) ?_
      refine aops_eff hΓ (.v (.one (.d (.int .i64 vy1)))) [] [] (by kernel_rfl) ?_
      refine aops_nil ?_
      refine awp_ret ?_
      obtain rfl := some_eq hF
      exact out_intro rfl (to_see [] [] ⟨[], []⟩ [(2, .v (.one (.d (.int .i64 vy1))))] 0 (by kernel_rfl) (by kernel_rfl) (lowc_of (by kernel_rfl)) trivial trivial (⟨t_same (by kernel_rfl) (by kernel_rfl), trivial⟩))
    · refine awp_false (by kernel_rfl) h3 ?_
      refine awp_skip ?_
      refine awp_region' 7000 9000 (by kernel_rfl) (by kernel_rfl) ?_
      refine aops_eff hΓ (.v (.one (.d (.int .i64 (IntKind.wrap .i64 (vx + 1)))))) [] [] (by kernel_rfl) ?_
      refine aops_eff hΓ (.v (.one (.d (.int .i64 (IntKind.wrap .i64 (vx + 1)))))) [] [] (by kernel_rfl) ?_
      refine aops_nil ?_
      obtain rfl := some_eq hF
      exact out_intro rfl (to_see [] [] ⟨[], []⟩ [(3, .v (.one (.d (.int .i64 0)))), (6, .v (.one (.d (.lst (List.map (encI .i64) qvals))))), (7, .v (.one (.d (.int .i64 (qvals.length : Int))))), (8, .v (.one (.d (.int .i64 (IntKind.wrap .i64 (vx + 1))))))] 0 (by kernel_rfl) (by kernel_rfl) (lowc_of (by kernel_rfl)) trivial trivial (⟨t_same (by kernel_rfl) (by kernel_rfl), t_same (by kernel_rfl) (by kernel_rfl), t_same (by kernel_rfl) (by kernel_rfl), t_same (by kernel_rfl) (by kernel_rfl), trivial⟩))
  · refine awp_false (by kernel_rfl) h1 ?_
    refine awp_exit ?_
    obtain rfl := some_eq hF
    exact out_intro rfl (to_see [] [] ⟨[], []⟩ [(3, .v (.one (.d (.int .i64 0))))] 0 (by kernel_rfl) (by kernel_rfl) (lowc_of (by kernel_rfl)) trivial trivial (⟨t_same (by kernel_rfl) (by kernel_rfl), trivial⟩))

theorem cmp_Or_int_ok (qvals : List Int) (r : Int) (hF : cmp_Or_int qvals = some r) : Holds prog 233 [.v (.one (.d (.lst (List.map (encI .i64) qvals))))] ⟨[], []⟩ (fun tv m => tv = .v (.one (.d (.int .i64 r))) ∧ m = ⟨[], []⟩) := by
  unfold cmp_Or_int at hF
  refine holds_of_awp hΓ (fn := f233) (c := cB f233) (A := 0) (nx := 0) (by kernel_rfl) (by kernel_rfl) (by kernel_rfl) (by kernel_rfl) (by kernel_rfl) (by kernel_rfl) (lowc_of (by kernel_rfl)) ?_
  show Awp prog 0 18 (cB f233) _ _
  refine awp_seq ?_
  refine awp_region' 0 1000 (by kernel_rfl) (by kernel_rfl) ?_
  refine aops_eff hΓ (.v (.one (.d (.int .i64 0)))) [] [] (by kernel_rfl) ?_
  refine aops_nil ?_
  refine awp_seq ?_
  refine awp_region' 1000 2000 (by kernel_rfl) (by kernel_rfl) ?_
  refine aops_eff hΓ (.v (.one (.d (.int .i64 0)))) [] [] (by kernel_rfl) ?_
  refine aops_nil ?_
  refine awp_seq ?_
  refine awp_seq ?_
  refine awp_region' 2000 5000 (by kernel_rfl) (by kernel_rfl) ?_
  refine aops_eff hΓ (.v (.one (.d (.lst (List.map (encI .i64) qvals))))) [] [] (by kernel_rfl) ?_
  refine aops_eff hΓ (.v (.one (.d (.int .i64 (qvals.length : Int))))) [] [] (opx_len (f := (encI .i64)) (l := qvals) (by kernel_rfl)) ?_
  refine aops_eff hΓ (.v (.one (.d (.int .i64 0)))) [] [] (by kernel_rfl) ?_
  refine aops_nil ?_
  refine awp_block ?_
  refine awp_to (st' := cmp_Or_int_x1_H qvals 0) (to_see [] [] ⟨[], []⟩ [(3, .v (.one (.d (.int .i64 0)))), (6, .v (.one (.d (.lst (List.map (encI .i64) qvals))))), (7, .v (.one (.d (.int .i64 (qvals.length : Int))))), (8, .v (.one (.d (.int .i64 0))))] 0 (by kernel_rfl) (by kernel_rfl) (lowc_of (by kernel_rfl)) trivial trivial (⟨t_same (by kernel_rfl) (by kernel_rfl), t_same (by kernel_rfl) (by kernel_rfl), t_same (by kernel_rfl) (by kernel_rfl), t_same (by kernel_rfl) (by kernel_rfl), trivial⟩)) ?_
  obtain ⟨(_ | vx1_1), h4, hF⟩ := bind_some hF
  · refine awp_sub (awp_loop' (cmp_Or_int_x1_H qvals) cmp_Or_int_x1_k (cmp_Or_int_x1_S qvals) (by intro x; rcases x with x | x <;> exact fun h => nomatch h) h4 (cmp_Or_int_x1_ok qvals)) ?_
    refine awp_seq ?_
    refine awp_region' 0 2000 (by kernel_rfl) (by kernel_rfl) ?_
    refine aops_eff hΓ (.v (.one (.d (.int .i64 0)))) [] [] (by kernel_rfl) ?_
    refine aops_eff hΓ (.v (.one (.d (.int .i64 0)))) [] [] (by kernel_rfl) ?_
    refine aops_nil ?_
    refine awp_ret ?_
    obtain rfl := some_eq hF
    exact fin_intro (xs := [.one (.d (.int .i64 0))]) (m' := ⟨[], []⟩) (tv := (.v (.one (.d (.int .i64 0))))) (rl := []) (nl := []) (by kernel_rfl) (by kernel_rfl) (by kernel_rfl) (sees_of (by kernel_rfl) trivial trivial) (t_same (by kernel_rfl) (by kernel_rfl)) ⟨rfl, rfl⟩
  · refine awp_sub (awp_loop' (cmp_Or_int_x1_H qvals) cmp_Or_int_x1_k (cmp_Or_int_x1_S qvals) (by intro x; rcases x with x | x <;> exact fun h => nomatch h) h4 (cmp_Or_int_x1_ok qvals)) ?_
    obtain rfl := some_eq hF
    exact fin_intro (xs := [.one (.d (.int .i64 vx1_1))]) (m' := ⟨[], []⟩) (tv := (.v (.one (.d (.int .i64 vx1_1))))) (rl := []) (nl := []) (by kernel_rfl) (by kernel_rfl) (by kernel_rfl) (sees_of (by kernel_rfl) trivial trivial) (t_same (by kernel_rfl) (by kernel_rfl)) ⟨rfl, rfl⟩

/-! ### beaconfleet/series.byDevice -/
theorem series_byDevice_ok (qa : api_Sample) (qb : api_Sample) (r : Int) (hF : series_byDevice qa qb = some r) : Holds prog 246 [.v (.agg [.d (.str qa.Device), .d (.str qa.Metric), .d (.int .i64 qa.At), .d (.int .i64 qa.Value)]), .v (.agg [.d (.str qb.Device), .d (.str qb.Metric), .d (.int .i64 qb.At), .d (.int .i64 qb.Value)])] ⟨[], []⟩ (fun tv m => tv = .v (.one (.d (.int .i64 r))) ∧ m = ⟨[], []⟩) := by
  unfold series_byDevice at hF
  refine holds_of_awp hΓ (fn := f246) (c := cB f246) (A := 0) (nx := 0) (by kernel_rfl) (by kernel_rfl) (by kernel_rfl) (by kernel_rfl) (by kernel_rfl) (by kernel_rfl) (lowc_of (by kernel_rfl)) ?_
  show Awp prog 0 22 (cB f246) _ _
  refine awp_seq ?_
  refine awp_region' 0 3000 (by kernel_rfl) (by kernel_rfl) ?_
  refine aops_eff hΓ (.v (.one (.box 0 0))) [] [(0, some [.d (.str qa.Device), .d (.str qa.Metric), .d (.int .i64 qa.At), .d (.int .i64 qa.Value)])] (by kernel_rfl) ?_
  refine aops_eff hΓ (.v (.one (.box 1000 0))) [] [(1000, some [.d (.str qb.Device), .d (.str qb.Metric), .d (.int .i64 qb.At), .d (.int .i64 qb.Value)])] (by kernel_rfl) ?_
  refine aops_eff hΓ (.v (.one (.d (.int .i64 0)))) [] [] (by kernel_rfl) ?_
  refine aops_nil ?_
  refine awp_seq ?_
  obtain ⟨_, h1, hF⟩ := bind_some hF
  obtain ⟨_, h2, hF⟩ := bind_some hF
  obtain ⟨vr, h3, hF⟩ := bind_some hF
  obtain ⟨vr1, h4, hF⟩ := bind_some hF
  refine awp_region_any' hm 3000 21000 [(some ⟨.v (.one (.box 0 0)), [], [], []⟩, [0]), (some ⟨.v (.one (.d (.str qa.Device))), [], [], []⟩, [0]), (some ⟨.v (.one (.box 1000 0)), [], [], []⟩, [1000]), (some ⟨.v (.one (.d (.str qb.Device))), [], [], []⟩, [1000]), (some ⟨.v (.one (.d (.int .i64 (Lib.compareBytes qa.Device qb.Device)))), [], [], []⟩, []), (some ⟨.v (.one (.box 0 1)), [], [], []⟩, [0]), (some ⟨.v (.one (.d (.str qa.Metric))), [], [], []⟩, [0]), (some ⟨.v (.one (.box 1000 1)), [], [], []⟩, [1000]), (some ⟨.v (.one (.d (.str qb.Metric))), [], [], []⟩, [1000]), (some ⟨.v (.one (.d (.int .i64 (Lib.compareBytes qa.Metric qb.Metric)))), [], [], []⟩, []), (some ⟨.v (.one (.box 0 2)), [], [], []⟩, [0]), (some ⟨.v (.one (.d (.int .i64 qa.At))), [], [], []⟩, [0]), (some ⟨.v (.one (.box 1000 2)), [], [], []⟩, [1000]), (some ⟨.v (.one (.d (.int .i64 qb.At))), [], [], []⟩, [1000]), (some ⟨.v (.one (.d (.int .i64 vr))), [], [], []⟩, []), (some ⟨.v (.one (.own 18000 none)), [(18000, some ⟨3, 1, List.map (encI .i64) ([Lib.compareBytes qa.Device qb.Device, Lib.compareBytes qa.Metric qb.Metric, vr] : List Int)⟩)], [], []⟩, []), (some ⟨.v (.one (.d (.int .i64 vr1))), [], [], []⟩, [18000]), (some ⟨.v (.one (.d (.int .i64 vr1))), [], [], []⟩, [])] [[], [0], [], [2], [0, 1, 2, 3], [], [5], [], [7], [0, 1, 2, 3, 4, 5, 6, 7, 8], [], [10], [], [12], [0, 1, 2, 3, 4, 5, 6, 7, 8, 9, 10, 11, 12, 13], [0, 1, 2, 3, 4, 5, 6, 7, 8, 9, 10, 11, 12, 13, 14], [0, 1, 2, 3, 4, 5, 6, 7, 8, 9, 10, 11, 12, 13, 14, 15], [0, 1, 2, 3, 4, 5, 6, 7, 8, 9, 10, 11, 12, 13, 14, 15, 16]] (by kernel_rfl) (by kernel_rfl) (by kernel_rfl) (by kernel_rfl) ?_
  refine And.intro (step_eff hΓ (.v (.one (.box 0 0))) [] [] (by kernel_rfl) (by kernel_rfl)) ?_
  refine And.intro (step_eff hΓ (.v (.one (.d (.str qa.Device)))) [] [] (by kernel_rfl) (by kernel_rfl)) ?_
  refine And.intro (step_eff hΓ (.v (.one (.box 1000 0))) [] [] (by kernel_rfl) (by kernel_rfl)) ?_
  refine And.intro (step_eff hΓ (.v (.one (.d (.str qb.Device)))) [] [] (by kernel_rfl) (by kernel_rfl)) ?_
  refine And.intro (step_call (by kernel_rfl) (by kernel_rfl) (stable_call (f := (.func 229)) (g := 229) (caps := []) (tvs := [.v (.one (.d (.str qa.Device))), .v (.one (.d (.str qb.Device)))]) (al := [.v (.one (.d (.str qa.Device))), .v (.one (.d (.str qb.Device)))]) (m := ⟨[], []⟩) (m' := ⟨[], []⟩) (tv := .v (.one (.d (.int .i64 (Lib.compareBytes qa.Device qb.Device))))) (lens := []) rfl (by kernel_rfl) (by kernel_rfl) (sees_of (rl := []) (nl := []) (by kernel_rfl) trivial trivial) (⟨t_same (by kernel_rfl) (by kernel_rfl), t_same (by kernel_rfl) (by kernel_rfl), trivial⟩) (strings_Compare_ok _ _ _ h1) (left_of (by kernel_rfl)) (by kernel_rfl)) (.v (.one (.d (.int .i64 (Lib.compareBytes qa.Device qb.Device))))) [] [] (by kernel_rfl)) ?_
  refine And.intro (step_eff hΓ (.v (.one (.box 0 1))) [] [] (by kernel_rfl) (by kernel_rfl)) ?_
  refine And.intro (step_eff hΓ (.v (.one (.d (.str qa.Metric)))) [] [] (by kernel_rfl) (by kernel_rfl)) ?_
  refine And.intro (step_eff hΓ (.v (.one (.box 1000 1))) [] [] (by kernel_rfl) (by kernel_rfl)) ?_
  refine And.intro (step_eff hΓ (.v (.one (.d (.str qb.Metric)))) [] [] (by kernel_rfl) (by kernel_rfl)) ?_
  refine And.intro (step_call (by kernel_rfl) (by kernel_rfl) (stable_call (f := (.func 229)) (g := 229) (caps := []) (tvs := [.v (.one (.d (.str qa.Metric))), .v (.one (.d (.str qb.Metric)))]) (al := [.v (.one (.d (.str qa.Metric))), .v (.one (.d (.str qb.Metric)))]) (m := ⟨[], []⟩) (m' := ⟨[], []⟩) (tv := .v (.one (.d (.int .i64 (Lib.compareBytes qa.Metric qb.Metric))))) (lens := []) rfl (by kernel_rfl) (by kernel_rfl) (sees_of (rl := []) (nl := []) (by kernel_rfl) trivial trivial) (⟨t_same (by kernel_rfl) (by kernel_rfl), t_same (by kernel_rfl) (by kernel_rfl), trivial⟩) (strings_Compare_ok _ _ _ h2) (left_of (by kernel_rfl)) (by kernel_rfl)) (.v (.one (.d (.int .i64 (Lib.compareBytes qa.Metric qb.Metric))))) [] [] (by kernel_rfl)) ?_
  refine And.intro (step_eff hΓ (.v (.one (.box 0 2))) [] [] (by kernel_rfl) (by kernel_rfl)) ?_
  refine And.intro (step_eff hΓ (.v (.one (.d (.int .i64 qa.At)))) [] [] (by kernel_rfl) (by kernel_rfl)) ?_
  refine And.intro (step_eff hΓ (.v (.one (.box 1000 2))) [] [] (by kernel_rfl) (by kernel_rfl)) ?_
  refine And.intro (step_eff hΓ (.v (.one (.d (.int .i64 qb.At)))) [] [] (by kernel_rfl) (by kernel_rfl)) ?_
  refine And.intro (step_call (by kernel_rfl) (by kernel_rfl) (stable_call (f := (.func 165)) (g := 165) (caps := []) (tvs := [.v (.one (.d (.int .i64 qa.At))), .v (.one (.d (.int .i64 qb.At)))]) (al := [.v (.one (.d (.int .i64 qa.At))), .v (.one (.d (.int .i64 qb.At)))]) (m := ⟨[], []⟩) (m' := ⟨[], []⟩) (tv := .v (.one (.d (.int .i64 vr)))) (lens := []) rfl (by kernel_rfl) (by kernel_rfl) (sees_of (rl := []) (nl := []) (by kernel_rfl) trivial trivial) (⟨t_same (by kernel_rfl) (by kernel_rfl), t_same (by kernel_rfl) (by kernel_rfl), trivial⟩) (cmp_Compare_int_ok _ _ _ h3) (left_of (by kernel_rfl)) (by kernel_rfl)) (.v (.one (.d (.int .i64 vr)))) [] [] (by kernel_rfl)) ?_
  refine And.intro (step_eff hΓ (.v (.one (.own 18000 none))) [(18000, some ⟨3, 1, List.map (encI .i64) ([Lib.compareBytes qa.Device qb.Device, Lib.compareBytes qa.Metric qb.Metric, vr] : List Int)⟩)] [] (by kernel_rfl) (by kernel_rfl)) ?_
  refine And.intro (step_call (by kernel_rfl) (by kernel_rfl) (stable_call (f := (.func 233)) (g := 233) (caps := []) (tvs := [.v (.one (.own 18000 none))]) (al := [.v (.one (.d (.lst (List.map (encI .i64) ([Lib.compareBytes qa.Device qb.Device, Lib.compareBytes qa.Metric qb.Metric, vr] : List Int)))))]) (m := ⟨[], []⟩) (m' := ⟨[], []⟩) (tv := .v (.one (.d (.int .i64 vr1)))) (lens := [18000]) rfl (by kernel_rfl) (by kernel_rfl) (sees_of (rl := []) (nl := []) (by kernel_rfl) trivial trivial) (⟨t_cell (c := .own 18000 none) (by kernel_rfl) (see_own (us := [18000]) (by simp) rfl (by kernel_rfl) (by kernel_rfl)), trivial⟩) (cmp_Or_int_ok _ _ h4) (left_of (by kernel_rfl)) (by kernel_rfl)) (.v (.one (.d (.int .i64 vr1)))) [] [] (by kernel_rfl)) ?_
  refine And.intro (step_eff hΓ (.v (.one (.d (.int .i64 vr1)))) [] [] (by kernel_rfl) (by kernel_rfl)) ?_
  refine awp_ret ?_
  obtain rfl := some_eq hF
  exact fin_intro (xs := [.one (.d (.int .i64 vr1))]) (m' := ⟨[], []⟩) (tv := (.v (.one (.d (.int .i64 vr1))))) (rl := []) (nl := []) (by kernel_rfl) (by kernel_rfl) (by kernel_rfl) (sees_of (by kernel_rfl) trivial trivial) (t_same (by kernel_rfl) (by kernel_rfl)) ⟨rfl, rfl⟩

/-! ### beaconfleet/series.Check -/
def series_Check_x2_k : Bool → AEx
  | _ => .normal

def series_Check_x2_S (ql : List api_Sample) (vx : Int) (vy2 : api_Sample) : Bool → St
  | vx4 => Mem.st ⟨[], [(0, [.d (.str vy2.Device), .d (.str vy2.Metric), .d (.int .i64 vy2.At), .d (.int .i64 vy2.Value)])]⟩ (tl [(0, .v (.one (.d (.lst (List.map api_Sample.enc ql))))), (3, .v (.one (.d (.int .i64 vx)))), (4, .v (.one (.box 0 0))), (8, .v (.one (.d (.lst (List.map api_Sample.enc ql))))), (9, .v (.one (.d (.int .i64 (ql.length : Int))))), (10, .v (.one (.d (.int .i64 vx)))), (15, .v (.one (.d (.bool vx4))))]) 1

theorem series_Check_x2_ok (ql : List api_Sample) (vx : Int) (vy2 : api_Sample) (r : Bool) (hF : series_Check_x2 vy2 = some r) : Awp prog 0 50 (cL (cL (cR (cL (cL (cR (cR (cL (cL (cR (cL (cR (cR (cB f211)))))))))))))) (Out 0 series_Check_x2_k (series_Check_x2_S ql vx vy2) r) (Mem.st ⟨[], [(0, [.d (.str vy2.Device), .d (.str vy2.Metric), .d (.int .i64 vy2.At), .d (.int .i64 vy2.Value)])]⟩ (tl [(0, .v (.one (.d (.lst (List.map api_Sample.enc ql))))), (3, .v (.one (.d (.int .i64 vx)))), (4, .v (.one (.box 0 0))), (8, .v (.one (.d (.lst (List.map api_Sample.enc ql))))), (9, .v (.one (.d (.int .i64 (ql.length : Int))))), (10, .v (.one (.d (.int .i64 vx))))]) 1) := by
  unfold series_Check_x2 at hF
  obtain ⟨vr3, h4, hF⟩ := bind_some hF
  rcases cond_or hF with ⟨h5, hF⟩ | ⟨h5, hF⟩
  · refine awp_region' 1 11001 (by kernel_rfl) (by kernel_rfl) ?_
    refine aops_eff hΓ (.v (.one (.box 0 0))) [] [] (by kernel_rfl) ?_
    refine aops_eff hΓ (.v (.one (.d (.str vy2.Device)))) [] [] (by kernel_rfl) ?_
    refine aops_call (by kernel_rfl) (by kernel_rfl) (does_call (f := (.func 124)) (g := 124) (caps := []) (tvs := [.v (.one (.d (.str vy2.Device)))]) (al := [.v (.one (.d (.str vy2.Device)))]) (m := ⟨[], []⟩) (m' := ⟨[], []⟩) (tv := .v (.one (.d (.bool vr3)))) (lens := []) rfl (by kernel_rfl) (by kernel_rfl) (sees_of (rl := []) (nl := []) (by kernel_rfl) trivial trivial) (⟨t_same (by kernel_rfl) (by kernel_rfl), trivial⟩) (base_Key_ok _ _ h4) (left_of (by kernel_rfl))) (.v (.one (.d (.bool vr3)))) [] [] (by kernel_rfl) ?_
    refine aops_eff hΓ (.v (.one (.d (.bool true)))) [] [] (opx_b (by kernel_rfl) h5) ?_
    refine aops_eff hΓ (.v (.one (.d (.bool true)))) [] [] (by kernel_rfl) ?_
    refine aops_skip' (by kernel_rfl) ?_
    refine aops_skip' (by kernel_rfl) ?_
    refine aops_skip' (by kernel_rfl) ?_
    refine aops_skip' (by kernel_rfl) ?_
    refine aops_eff hΓ (.v (.one (.d (.bool true)))) [] [] (by kernel_rfl) ?_
    refine aops_eff hΓ (.v (.one (.d (.bool true)))) [] [] (by kernel_rfl) ?_
    refine aops_nil ?_
    obtain rfl := some_eq hF
    exact out_intro rfl (to_see [] [] ⟨[], [(0, [.d (.str vy2.Device), .d (.str vy2.Metric), .d (.int .i64 vy2.At), .d (.int .i64 vy2.Value)])]⟩ [(0, .v (.one (.d (.lst (List.map api_Sample.enc ql))))), (3, .v (.one (.d (.int .i64 vx)))), (4, .v (.one (.box 0 0))), (8, .v (.one (.d (.lst (List.map api_Sample.enc ql))))), (9, .v (.one (.d (.int .i64 (ql.length : Int))))), (10, .v (.one (.d (.int .i64 vx)))), (15, .v (.one (.d (.bool true))))] 1 (by kernel_rfl) (by kernel_rfl) (lowc_of (by kernel_rfl)) trivial (⟨⟨by kernel_rfl, [.d (.str vy2.Device), .d (.str vy2.Metric), .d (.int .i64 vy2.At), .d (.int .i64 vy2.Value)], by kernel_rfl, l2_same (by kernel_rfl) (by kernel_rfl)⟩, trivial⟩) (⟨t_same (by kernel_rfl) (by kernel_rfl), t_same (by kernel_rfl) (by kernel_rfl), t_same (by kernel_rfl) (by kernel_rfl), t_same (by kernel_rfl) (by kernel_rfl), t_same (by kernel_rfl) (by kernel_rfl), t_same (by kernel_rfl) (by kernel_rfl), t_same (by kernel_rfl) (by kernel_rfl), trivial⟩))
  · obtain ⟨vr4, h6, hF⟩ := bind_some hF
    refine awp_region' 1 11001 (by kernel_rfl) (by kernel_rfl) ?_
    refine aops_eff hΓ (.v (.one (.box 0 0))) [] [] (by kernel_rfl) ?_
    refine aops_eff hΓ (.v (.one (.d (.str vy2.Device)))) [] [] (by kernel_rfl) ?_
    refine aops_call (by kernel_rfl) (by kernel_rfl) (does_call (f := (.func 124)) (g := 124) (caps := []) (tvs := [.v (.one (.d (.str vy2.Device)))]) (al := [.v (.one (.d (.str vy2.Device)))]) (m := ⟨[], []⟩) (m' := ⟨[], []⟩) (tv := .v (.one (.d (.bool vr3)))) (lens := []) rfl (by kernel_rfl) (by kernel_rfl) (sees_of (rl := []) (nl := []) (by kernel_rfl) trivial trivial) (⟨t_same (by kernel_rfl) (by kernel_rfl), trivial⟩) (base_Key_ok _ _ h4) (left_of (by kernel_rfl))) (.v (.one (.d (.bool vr3)))) [] [] (by kernel_rfl) ?_
    refine aops_eff hΓ (.v (.one (.d (.bool false)))) [] [] (opx_b (by kernel_rfl) h5) ?_
    refine aops_eff hΓ (.v (.one (.d (.bool false)))) [] [] (by kernel_rfl) ?_
    refine aops_eff hΓ (.v (.one (.box 0 1))) [] [] (by kernel_rfl) ?_
    refine aops_eff hΓ (.v (.one (.d (.str vy2.Metric)))) [] [] (by kernel_rfl) ?_
    refine aops_call (by kernel_rfl) (by kernel_rfl) (does_call (f := (.func 124)) (g := 124) (caps := []) (tvs := [.v (.one (.d (.str vy2.Metric)))]) (al := [.v (.one (.d (.str vy2.Metric)))]) (m := ⟨[], []⟩) (m' := ⟨[], []⟩) (tv := .v (.one (.d (.bool vr4)))) (lens := []) rfl (by kernel_rfl) (by kernel_rfl) (sees_of (rl := []) (nl := []) (by kernel_rfl) trivial trivial) (⟨t_same (by kernel_rfl) (by kernel_rfl), trivial⟩) (base_Key_ok _ _ h6) (left_of (by kernel_rfl))) (.v (.one (.d (.bool vr4)))) [] [] (by kernel_rfl) ?_
    refine aops_eff hΓ (.v (.one (.d (.bool (!vr4))))) [] [] (by kernel_rfl) ?_
    refine aops_eff hΓ (.v (.one (.d (.bool (!vr4))))) [] [] (by kernel_rfl) ?_
    refine aops_eff hΓ (.v (.one (.d (.bool (!vr4))))) [] [] (by kernel_rfl) ?_
    refine aops_nil ?_
    obtain rfl := some_eq hF
    exact out_intro rfl (to_see [] [] ⟨[], [(0, [.d (.str vy2.Device), .d (.str vy2.Metric), .d (.int .i64 vy2.At), .d (.int .i64 vy2.Value)])]⟩ [(0, .v (.one (.d (.lst (List.map api_Sample.enc ql))))), (3, .v (.one (.d (.int .i64 vx)))), (4, .v (.one (.box 0 0))), (8, .v (.one (.d (.lst (List.map api_Sample.enc ql))))), (9, .v (.one (.d (.int .i64 (ql.length : Int))))), (10, .v (.one (.d (.int .i64 vx)))), (15, .v (.one (.d (.bool (!vr4)))))] 1 (by kernel_rfl) (by kernel_rfl) (lowc_of (by kernel_rfl)) trivial (⟨⟨by kernel_rfl, [.d (.str vy2.Device), .d (.str vy2.Metric), .d (.int .i64 vy2.At), .d (.int .i64 vy2.Value)], by kernel_rfl, l2_same (by kernel_rfl) (by kernel_rfl)⟩, trivial⟩) (⟨t_same (by kernel_rfl) (by kernel_rfl), t_same (by kernel_rfl) (by kernel_rfl), t_same (by kernel_rfl) (by kernel_rfl), t_same (by kernel_rfl) (by kernel_rfl), t_same (by kernel_rfl) (by kernel_rfl), t_same (by kernel_rfl) (by kernel_rfl), t_same (by kernel_rfl) (by kernel_rfl), trivial⟩))

def series_Check_x3_k : Bool → AEx
  | _ => .normal

def series_Check_x3_S (ql : List api_Sample) (vx : Int) (vy2 : api_Sample) : Bool → St
  | vx5 => Mem.st ⟨[], [(0, [.d (.str vy2.Device), .d (.str vy2.Metric), .d (.int .i64 vy2.At), .d (.int .i64 vy2.Value)])]⟩ (tl [(0, .v (.one (.d (.lst (List.map api_Sample.enc ql))))), (3, .v (.one (.d (.int .i64 vx)))), (4, .v (.one (.box 0 0))), (8, .v (.one (.d (.lst (List.map api_Sample.enc ql))))), (9, .v (.one (.d (.int .i64 (ql.length : Int))))), (10, .v (.one (.d (.int .i64 vx)))), (26, .v (.one (.d (.bool vx5))))]) 1

theorem series_Check_x3_ok (ql : List api_Sample) (vx : Int) (vy2 : api_Sample) (r : Bool) (hF : series_Check_x3 vy2 = some r) : Awp prog 0 50 (cL (cR (cR (cL (cR (cL (cL (cR (cR (cL (cL (cR (cL (cR (cR (cB f211)))))))))))))))) (Out 0 series_Check_x3_k (series_Check_x3_S ql vx vy2) r) (Mem.st ⟨[], [(0, [.d (.str vy2.Device), .d (.str vy2.Metric), .d (.int .i64 vy2.At), .d (.int .i64 vy2.Value)])]⟩ (tl [(0, .v (.one (.d (.lst (List.map api_Sample.enc ql))))), (3, .v (.one (.d (.int .i64 vx)))), (4, .v (.one (.box 0 0))), (8, .v (.one (.d (.lst (List.map api_Sample.enc ql))))), (9, .v (.one (.d (.int .i64 (ql.length : Int))))), (10, .v (.one (.d (.int .i64 vx))))]) 1) := by
  unfold series_Check_x3 at hF
  obtain ⟨vr1_2, h9, hF⟩ := bind_some hF
  rcases cond_or hF with ⟨h10, hF⟩ | ⟨h10, hF⟩
  · refine awp_region' 1 10001 (by kernel_rfl) (by kernel_rfl) ?_
    refine aops_eff hΓ (.v (.one (.box 0 2))) [] [] (by kernel_rfl) ?_
    refine aops_eff hΓ (.v (.one (.d (.int .i64 vy2.At)))) [] [] (by kernel_rfl) ?_
    refine aops_call (by kernel_rfl) (by kernel_rfl) (does_call (f := (.func 127)) (g := 127) (caps := []) (tvs := [.v (.one (.d (.int .i64 vy2.At)))]) (al := [.v (.one (.d (.int .i64 vy2.At)))]) (m := ⟨[], []⟩) (m' := ⟨[], []⟩) (tv := .v (.one (.d (.bool vr1_2)))) (lens := []) rfl (by kernel_rfl) (by kernel_rfl) (sees_of (rl := []) (nl := []) (by kernel_rfl) trivial trivial) (⟨t_same (by kernel_rfl) (by kernel_rfl), trivial⟩) (base_Moment_ok _ _ h9) (left_of (by kernel_rfl))) (.v (.one (.d (.bool vr1_2)))) [] [] (by kernel_rfl) ?_
    refine aops_eff hΓ (.v (.one (.d (.bool true)))) [] [] (opx_b (by kernel_rfl) h10) ?_
    refine aops_eff hΓ (.v (.one (.d (.bool true)))) [] [] (by kernel_rfl) ?_
    refine aops_skip' (by kernel_rfl) ?_
    refine aops_skip' (by kernel_rfl) ?_
    refine aops_skip' (by kernel_rfl) ?_
    refine aops_eff hΓ (.v (.one (.d (.bool true)))) [] [] (by kernel_rfl) ?_
    refine aops_eff hΓ (.v (.one (.d (.bool true)))) [] [] (by kernel_rfl) ?_
    refine aops_nil ?_
    obtain rfl := some_eq hF
    exact out_intro rfl (to_see [] [] ⟨[], [(0, [.d (.str vy2.Device), .d (.str vy2.Metric), .d (.int .i64 vy2.At), .d (.int .i64 vy2.Value)])]⟩ [(0, .v (.one (.d (.lst (List.map api_Sample.enc ql))))), (3, .v (.one (.d (.int .i64 vx)))), (4, .v (.one (.box 0 0))), (8, .v (.one (.d (.lst (List.map api_Sample.enc ql))))), (9, .v (.one (.d (.int .i64 (ql.length : Int))))), (10, .v (.one (.d (.int .i64 vx)))), (26, .v (.one (.d (.bool true))))] 1 (by kernel_rfl) (by kernel_rfl) (lowc_of (by kernel_rfl)) trivial (⟨⟨by kernel_rfl, [.d (.str vy2.Device), .d (.str vy2.Metric), .d (.int .i64 vy2.At), .d (.int .i64 vy2.Value)], by kernel_rfl, l2_same (by kernel_rfl) (by kernel_rfl)⟩, trivial⟩) (⟨t_same (by kernel_rfl) (by kernel_rfl), t_same (by kernel_rfl) (by kernel_rfl), t_same (by kernel_rfl) (by kernel_rfl), t_same (by kernel_rfl) (by kernel_rfl), t_same (by kernel_rfl) (by kernel_rfl), t_same (by kernel_rfl) (by kernel_rfl), t_same (by kernel_rfl) (by kernel_rfl), trivial⟩))
  · obtain ⟨vr5, h11, hF⟩ := bind_some hF
    refine awp_region' 1 10001 (by kernel_rfl) (by kernel_rfl) ?_
    refine aops_eff hΓ (.v (.one (.box 0 2))) [] [] (by kernel_rfl) ?_
    refine aops_eff hΓ (.v (.one (.d (.int .i64 vy2.At)))) [] [] (by kernel_rfl) ?_
    refine aops_call (by kernel_rfl) (by kernel_rfl) (does_call (f := (.func 127)) (g := 127) (caps := []) (tvs := [.v (.one (.d (.int .i64 vy2.At)))]) (al := [.v (.one (.d (.int .i64 vy2.At)))]) (m := ⟨[], []⟩) (m' := ⟨[], []⟩) (tv := .v (.one (.d (.bool vr1_2)))) (lens := []) rfl (by kernel_rfl) (by kernel_rfl) (sees_of (rl := []) (nl := []) (by kernel_rfl) trivial trivial) (⟨t_same (by kernel_rfl) (by kernel_rfl), trivial⟩) (base_Moment_ok _ _ h9) (left_of (by kernel_rfl))) (.v (.one (.d (.bool vr1_2)))) [] [] (by kernel_rfl) ?_
    refine aops_eff hΓ (.v (.one (.d (.bool false)))) [] [] (opx_b (by kernel_rfl) h10) ?_
    refine aops_eff hΓ (.v (.one (.d (.bool false)))) [] [] (by kernel_rfl) ?_
    refine aops_eff hΓ (.v (.one (.box 0 3))) [] [] (by kernel_rfl) ?_
    refine aops_eff hΓ (.v (.one (.d (.int .i64 vy2.Value)))) [] [] (by kernel_rfl) ?_
    refine aops_call (by kernel_rfl) (by kernel_rfl) (does_call (f := (.func 114)) (g := 114) (caps := []) (tvs := [.v (.one (.d (.int .i64 vy2.Value))), .v (.one (.d (.int .i64 (-1000000000)))), .v (.one (.d (.int .i64 1000000000)))]) (al := [.v (.one (.d (.int .i64 vy2.Value))), .v (.one (.d (.int .i64 (-1000000000)))), .v (.one (.d (.int .i64 1000000000)))]) (m := ⟨[], []⟩) (m' := ⟨[], []⟩) (tv := .v (.one (.d (.bool vr5)))) (lens := []) rfl (by kernel_rfl) (by kernel_rfl) (sees_of (rl := []) (nl := []) (by kernel_rfl) trivial trivial) (⟨t_same (by kernel_rfl) (by kernel_rfl), t_same (by kernel_rfl) (by kernel_rfl), t_same (by kernel_rfl) (by kernel_rfl), trivial⟩) (base_Out_ok _ _ _ _ h11) (left_of (by kernel_rfl))) (.v (.one (.d (.bool vr5)))) [] [] (by kernel_rfl) ?_
    refine aops_eff hΓ (.v (.one (.d (.bool vr5)))) [] [] (by kernel_rfl) ?_
    refine aops_eff hΓ (.v (.one (.d (.bool vr5)))) [] [] (by kernel_rfl) ?_
    refine aops_nil ?_
    obtain rfl := some_eq hF
    exact out_intro rfl (to_see [] [] ⟨[], [(0, [.d (.str vy2.Device), .d (.str vy2.Metric), .d (.int .i64 vy2.At), .d (.int .i64 vy2.Value)])]⟩ [(0, .v (.one (.d (.lst (List.map api_Sample.enc ql))))), (3, .v (.one (.d (.int .i64 vx)))), (4, .v (.one (.box 0 0))), (8, .v (.one (.d (.lst (List.map api_Sample.enc ql))))), (9, .v (.one (.d (.int .i64 (ql.length : Int))))), (10, .v (.one (.d (.int .i64 vx)))), (26, .v (.one (.d (.bool vr5))))] 1 (by kernel_rfl) (by kernel_rfl) (lowc_of (by kernel_rfl)) trivial (⟨⟨by kernel_rfl, [.d (.str vy2.Device), .d (.str vy2.Metric), .d (.int .i64 vy2.At), .d (.int .i64 vy2.Value)], by kernel_rfl, l2_same (by kernel_rfl) (by kernel_rfl)⟩, trivial⟩) (⟨t_same (by kernel_rfl) (by kernel_rfl), t_same (by kernel_rfl) (by kernel_rfl), t_same (by kernel_rfl) (by kernel_rfl), t_same (by kernel_rfl) (by kernel_rfl), t_same (by kernel_rfl) (by kernel_rfl), t_same (by kernel_rfl) (by kernel_rfl), t_same (by kernel_rfl) (by kernel_rfl), trivial⟩))

def series_Check_x4_k : Bool → AEx
  | _ => .normal

def series_Check_x4_S (ql : List api_Sample) (vx : Int) (vy2 : api_Sample) : Bool → St
  | vx6 => Mem.st ⟨[], []⟩ (tl [(0, .v (.one (.d (.lst (List.map api_Sample.enc ql))))), (8, .v (.one (.d (.lst (List.map api_Sample.enc ql))))), (9, .v (.one (.d (.int .i64 (ql.length : Int))))), (10, .v (.one (.d (.int .i64 vx)))), (36, .v (.one (.d (.bool vx6))))]) 0

theorem series_Check_x4_ok (ql : List api_Sample) (vx : Int) (vy2 : api_Sample) (r : Bool) (hF : series_Check_x4 ql vx vy2 = some r) : Awp prog 0 50 (cL (cR (cR (cR (cR (cL (cR (cL (cL (cR (cR (cL (cL (cR (cL (cR (cR (cB f211)))))))))))))))))) (Out 0 series_Check_x4_k (series_Check_x4_S ql vx vy2) r) (Mem.st ⟨[], [(0, [.d (.str vy2.Device), .d (.str vy2.Metric), .d (.int .i64 vy2.At), .d (.int .i64 vy2.Value)])]⟩ (tl [(0, .v (.one (.d (.lst (List.map api_Sample.enc ql))))), (3, .v (.one (.d (.int .i64 vx)))), (4, .v (.one (.box 0 0))), (8, .v (.one (.d (.lst (List.map api_Sample.enc ql))))), (9, .v (.one (.d (.int .i64 (ql.length : Int))))), (10, .v (.one (.d (.int .i64 vx))))]) 1) := by
  unfold series_Check_x4 at hF
  rcases cond_or hF with ⟨h14, hF⟩ | ⟨h14, hF⟩
  · obtain ⟨vy3, h15, hF⟩ := bind_some hF
    obtain ⟨vr2_2, h16, hF⟩ := bind_some hF
    refine awp_region_any' hm 1 13001 [(some ⟨.v (.one (.d (.int .i64 vx))), [], [], []⟩, []), (some ⟨.v (.one (.d (.bool true))), [], [], []⟩, []), (some ⟨.v (.one (.d (.bool true))), [], [], []⟩, []), (some ⟨.v (.agg [.d (.str vy2.Device), .d (.str vy2.Metric), .d (.int .i64 vy2.At), .d (.int .i64 vy2.Value)]), [], [], []⟩, [0]), (some ⟨.v (.one (.d (.lst (List.map api_Sample.enc ql)))), [], [], []⟩, []), (some ⟨.v (.one (.d (.int .i64 vx))), [], [], []⟩, []), (some ⟨.v (.one (.d (.int .i64 (IntKind.wrap .i64 (vx - 1))))), [], [], []⟩, []), (some ⟨.v (.one (.cp [.str vy3.Device, .str vy3.Metric, .int .i64 vy3.At, .int .i64 vy3.Value])), [], [], []⟩, []), (some ⟨.v (.agg [.d (.str vy3.Device), .d (.str vy3.Metric), .d (.int .i64 vy3.At), .d (.int .i64 vy3.Value)]), [], [], []⟩, []), (some ⟨.v (.one (.d (.int .i64 vr2_2))), [], [], []⟩, []), (some ⟨.v (.one (.d (.bool (decide (vr2_2 ≤ 0))))), [], [], []⟩, []), (some ⟨.v (.one (.d (.bool (decide (vr2_2 ≤ 0))))), [], [], []⟩, []), (some ⟨.v (.one (.d (.bool (decide (vr2_2 ≤ 0))))), [], [], []⟩, [])] [[], [0], [0, 1], [0, 1, 2], [0, 1, 2], [0, 1, 2], [0, 1, 2, 5], [0, 1, 2, 4, 5, 6], [0, 1, 2, 4, 5, 6, 7], [0, 1, 2, 3, 4, 5, 6, 7, 8], [0, 1, 2, 3, 4, 5, 6, 7, 8, 9], [0, 1, 2, 3, 4, 5, 6, 7, 8, 9, 10], [0, 1, 2, 3, 4, 5, 6, 7, 8, 9, 10, 11]] (by kernel_rfl) (by kernel_rfl) (by kernel_rfl) (by kernel_rfl) ?_
    refine And.intro (step_eff hΓ (.v (.one (.d (.int .i64 vx)))) [] [] (by kernel_rfl) (by kernel_rfl)) ?_
    refine And.intro (step_eff hΓ (.v (.one (.d (.bool true)))) [] [] (opx_b (by kernel_rfl) h14) (by kernel_rfl)) ?_
    refine And.intro (step_eff hΓ (.v (.one (.d (.bool true)))) [] [] (by kernel_rfl) (by kernel_rfl)) ?_
    refine And.intro (step_eff hΓ (.v (.agg [.d (.str vy2.Device), .d (.str vy2.Metric), .d (.int .i64 vy2.At), .d (.int .i64 vy2.Value)])) [] [] (by kernel_rfl) (by kernel_rfl)) ?_
    refine And.intro (step_eff hΓ (.v (.one (.d (.lst (List.map api_Sample.enc ql))))) [] [] (by kernel_rfl) (by kernel_rfl)) ?_
    refine And.intro (step_eff hΓ (.v (.one (.d (.int .i64 vx)))) [] [] (by kernel_rfl) (by kernel_rfl)) ?_
    refine And.intro (step_eff hΓ (.v (.one (.d (.int .i64 (IntKind.wrap .i64 (vx - 1)))))) [] [] (by kernel_rfl) (by kernel_rfl)) ?_
    refine And.intro (step_eff hΓ (.v (.one (.cp [.str vy3.Device, .str vy3.Metric, .int .i64 vy3.At, .int .i64 vy3.Value]))) [] [] (opx_of (by kernel_rfl) (by kernel_rfl) (eff_indexAddr (k := .i64) (ti := ti26) (te := ti42) (l := ql) (f := api_Sample.enc) (y := vy3) (by kernel_rfl) rfl (by kernel_rfl) (by kernel_rfl) (by kernel_rfl) h15 (by kernel_rfl))) (by kernel_rfl)) ?_
    refine And.intro (step_eff hΓ (.v (.agg [.d (.str vy3.Device), .d (.str vy3.Metric), .d (.int .i64 vy3.At), .d (.int .i64 vy3.Value)])) [] [] (by kernel_rfl) (by kernel_rfl)) ?_
    refine And.intro (step_call (by kernel_rfl) (by kernel_rfl) (stable_call (f := (.func 246)) (g := 246) (caps := []) (tvs := [.v (.agg [.d (.str vy2.Device), .d (.str vy2.Metric), .d (.int .i64 vy2.At), .d (.int .i64 vy2.Value)]), .v (.agg [.d (.str vy3.Device), .d (.str vy3.Metric), .d (.int .i64 vy3.At), .d (.int .i64 vy3.Value)])]) (al := [.v (.agg [.d (.str vy2.Device), .d (.str vy2.Metric), .d (.int .i64 vy2.At), .d (.int .i64 vy2.Value)]), .v (.agg [.d (.str vy3.Device), .d (.str vy3.Metric), .d (.int .i64 vy3.At), .d (.int .i64 vy3.Value)])]) (m := ⟨[], []⟩) (m' := ⟨[], []⟩) (tv := .v (.one (.d (.int .i64 vr2_2)))) (lens := []) rfl (by kernel_rfl) (by kernel_rfl) (sees_of (rl := []) (nl := []) (by kernel_rfl) trivial trivial) (⟨t_same (by kernel_rfl) (by kernel_rfl), t_same (by kernel_rfl) (by kernel_rfl), trivial⟩) (series_byDevice_ok _ _ _ h16) (left_of (by kernel_rfl)) (by kernel_rfl)) (.v (.one (.d (.int .i64 vr2_2)))) [] [] (by kernel_rfl)) ?_
    refine And.intro (step_eff hΓ (.v (.one (.d (.bool (decide (vr2_2 ≤ 0)))))) [] [] (by kernel_rfl) (by kernel_rfl)) ?_
    refine And.intro (step_eff hΓ (.v (.one (.d (.bool (decide (vr2_2 ≤ 0)))))) [] [] (by kernel_rfl) (by kernel_rfl)) ?_
    refine And.intro (step_eff hΓ (.v (.one (.d (.bool (decide (vr2_2 ≤ 0)))))) [] [] (by kernel_rfl) (by kernel_rfl)) ?_
    obtain rfl := some_eq hF
    exact out_intro rfl (to_see [] [] ⟨[], []⟩ [(0, .v (.one (.d (.lst (List.map api_Sample.enc ql))))), (8, .v (.one (.d (.lst (List.map api_Sample.enc ql))))), (9, .v (.one (.d (.int .i64 (ql.length : Int))))), (10, .v (.one (.d (.int .i64 vx)))), (36, .v (.one (.d (.bool (decide (vr2_2 ≤ 0))))))] 0 (by kernel_rfl) (by kernel_rfl) (lowc_of (by kernel_rfl)) trivial trivial (⟨t_same (by kernel_rfl) (by kernel_rfl), t_same (by kernel_rfl) (by kernel_rfl), t_same (by kernel_rfl) (by kernel_rfl), t_same (by kernel_rfl) (by kernel_rfl), t_same (by kernel_rfl) (by kernel_rfl), trivial⟩))
  · refine awp_region_any' hm 1 13001 [(some ⟨.v (.one (.d (.int .i64 vx))), [], [], []⟩, []), (some ⟨.v (.one (.d (.bool false))), [], [], []⟩, []), (some ⟨.v (.one (.d (.bool false))), [], [], []⟩, []), (none, []), (none, []), (none, []), (none, []), (none, []), (none, []), (none, []), (none, []), (some ⟨.v (.one (.d (.bool false))), [], [], []⟩, []), (some ⟨.v (.one (.d (.bool false))), [], [], []⟩, [])] [[], [0], [0, 1], [0, 1, 2], [0, 1, 2], [0, 1, 2], [0, 1, 2, 5], [0, 1, 2, 4, 5, 6], [0, 1, 2, 4, 5, 6, 7], [0, 1, 2, 3, 4, 5, 6, 7, 8], [0, 1, 2, 3, 4, 5, 6, 7, 8, 9], [0, 1, 2, 3, 4, 5, 6, 7, 8, 9, 10], [0, 1, 2, 3, 4, 5, 6, 7, 8, 9, 10, 11]] (by kernel_rfl) (by kernel_rfl) (by kernel_rfl) (by kernel_rfl) ?_
    refine And.intro (step_eff hΓ (.v (.one (.d (.int .i64 vx)))) [] [] (by kernel_rfl) (by kernel_rfl)) ?_
    refine And.intro (step_eff hΓ (.v (.one (.d (.bool false)))) [] [] (opx_b (by kernel_rfl) h14) (by kernel_rfl)) ?_
    refine And.intro (step_eff hΓ (.v (.one (.d (.bool false)))) [] [] (by kernel_rfl) (by kernel_rfl)) ?_
    refine And.intro (step_skip' (by kernel_rfl)) ?_
    refine And.intro (step_skip' (by kernel_rfl)) ?_
    refine And.intro (step_skip' (by kernel_rfl)) ?_
    refine And.intro (step_skip' (by kernel_rfl)) ?_
    refine And.intro (step_skip' (by kernel_rfl)) ?_
    refine And.intro (step_skip' (by kernel_rfl)) ?_
    refine And.intro (step_skip' (by kernel_rfl)) ?_
    refine And.intro (step_skip' (by kernel_rfl)) ?_
    refine And.intro (step_eff hΓ (.v (.one (.d (.bool false)))) [] [] (by kernel_rfl) (by kernel_rfl)) ?_
    refine And.intro (step_eff hΓ (.v (.one (.d (.bool false)))) [] [] (by kernel_rfl) (by kernel_rfl)) ?_
    obtain rfl := some_eq hF
    exact out_intro rfl (to_see [] [] ⟨[], []⟩ [(0, .v (.one (.d (.lst (List.map api_Sample.enc ql))))), (8, .v (.one (.d (.lst (List.map api_Sample.enc ql))))), (9, .v (.one (.d (.int .i64 (ql.length : Int))))), (10, .v (.one (.d (.int .i64 vx)))), (36, .v (.one (.d (.bool false))))] 0 (by kernel_rfl) (by kernel_rfl) (lowc_of (by kernel_rfl)) trivial trivial (⟨t_same (by kernel_rfl) (by kernel_rfl), t_same (by kernel_rfl) (by kernel_rfl), t_same (by kernel_rfl) (by kernel_rfl), t_same (by kernel_rfl) (by kernel_rfl), t_same (by kernel_rfl) (by kernel_rfl), trivial⟩))

def series_Check_x1_k : Unit ⊕ Int → AEx
  | .inl _ => .exit 0
  | .inr _ => .ret

def series_Check_x1_S (ql : List api_Sample) : Unit ⊕ Int → St
  | .inl _ => Mem.st ⟨[], []⟩ (tl []) 0
  | .inr vx7 => Mem.st ⟨[], []⟩ (tl [(2, .v (.one (.d (.int .i64 vx7))))]) 0

def series_Check_x1_H (ql : List api_Sample) : Int → St
  | vx => Mem.st ⟨[], []⟩ (tl [(0, .v (.one (.d (.lst (List.map api_Sample.enc ql))))), (8, .v (.one (.d (.lst (List.map api_Sample.enc ql))))), (9, .v (.one (.d (.int .i64 (ql.length : Int))))), (10, .v (.one (.d (.int .i64 vx))))]) 0

theorem series_Check_x1_ok (ql : List api_Sample) (vx : Int) (r : (Int) ⊕ (Unit ⊕ Int)) (hF : series_Check_x1 ql vx = some r) : Awp prog 0 50 (cL (cL (cR (cL (cR (cR (cB f211))))))) (Out 0 (kk series_Check_x1_k) (SS (series_Check_x1_H ql) (series_Check_x1_S ql)) r) (series_Check_x1_H ql vx) := by
  unfold series_Check_x1 at hF
  refine awp_seq ?_
  refine awp_region' 0 1000 (by kernel_rfl) (by kernel_rfl) ?_
  refine aops_eff hΓ (.v (.one (.d (.bool (decide (vx < (ql.length : Int))))))) [] [] (by kernel_rfl) ?_
  refine aops_nil ?_
  refine awp_seq ?_
  rcases cond_or hF with ⟨h2, hF⟩ | ⟨h2, hF⟩
  · refine awp_true (by kernel_rfl) h2 ?_
    refine awp_skip ?_
    refine awp_seq ?_
    refine awp_block ?_
    refine awp_seq ?_
    obtain ⟨vy2, h3, hF⟩ := bind_some hF
    refine awp_region' 1000 7000 (by kernel_rfl) (by kernel_rfl) ?_
    refine aops_eff hΓ (.v (.one (.d (.int .i64 vx)))) [] [] (by kernel_rfl) ?_
    refine aops_eff hΓ (.v (.one (.cp [.str vy2.Device, .str vy2.Metric, .int .i64 vy2.At, .int .i64 vy2.Value]))) [] [] (opx_of (by kernel_rfl) (by kernel_rfl) (eff_indexAddr (k := .i64) (ti := ti26) (te := ti42) (l := ql) (f := api_Sample.enc) (y := vy2) (by kernel_rfl) rfl (by kernel_rfl) (by kernel_rfl) (by kernel_rfl) h3 (by kernel_rfl))) ?_
    refine aops_eff hΓ (.v (.agg [.d (.str vy2.Device), .d (.str vy2.Metric), .d (.int .i64 vy2.At), .d (.int .i64 vy2.Value)])) [] [] (by kernel_rfl) ?_
    refine aops_eff hΓ (.v (.one (.box 4000 0))) [] [(4000, some [.d (.str ([] : List UInt8)), .d (.str ([] : List UInt8)), .d (.int .i64 0), .d (.int .i64 0)])] (by kernel_rfl) ?_
    refine aops_eff hΓ (.v (.one (.d (.int .i64 vx)))) [] [] (by kernel_rfl) ?_
    refine aops_eff hΓ (.undef) [] [(4000, some [.d (.str vy2.Device), .d (.str vy2.Metric), .d (.int .i64 vy2.At), .d (.int .i64 vy2.Value)])] (by kernel_rfl) ?_
    refine aops_nil ?_
    refine awp_block ?_
    refine awp_seq ?_
    refine awp_to (to_see [(0, 4000)] [] ⟨[], [(0, [.d (.str vy2.Device), .d (.str vy2.Metric), .d (.int .i64 vy2.At), .d (.int .i64 vy2.Value)])]⟩ [(0, .v (.one (.d (.lst (List.map api_Sample.enc ql))))), (3, .v (.one (.d (.int .i64 vx)))), (4, .v (.one (.box 0 0))), (8, .v (.one (.d (.lst (List.map api_Sample.enc ql))))), (9, .v (.one (.d (.int .i64 (ql.length : Int))))), (10, .v (.one (.d (.int .i64 vx))))] 1 (by kernel_rfl) (by kernel_rfl) (lowc_of (by kernel_rfl)) trivial (⟨⟨by kernel_rfl, [.d (.str vy2.Device), .d (.str vy2.Metric), .d (.int .i64 vy2.At), .d (.int .i64 vy2.Value)], by kernel_rfl, l2_same (by kernel_rfl) (by kernel_rfl)⟩, trivial⟩) (⟨t_same (by kernel_rfl) (by kernel_rfl), t_same (by kernel_rfl) (by kernel_rfl), t_same (by kernel_rfl) (by kernel_rfl), t_same (by kernel_rfl) (by kernel_rfl), t_same (by kernel_rfl) (by kernel_rfl), t_same (by kernel_rfl) (by kernel_rfl), trivial⟩)) ?_
    obtain ⟨vx4_1, h7, hF⟩ := bind_some hF
    refine awp_sub (series_Check_x2_ok ql vx vy2 _ h7) ?_
    rcases cond_or hF with ⟨h8, hF⟩ | ⟨h8, hF⟩
    · refine awp_true (by kernel_rfl) h8 ?_
      refine awp_seq ?_
      refine awp_region' 1 1001 (by kernel_rfl) (by kernel_rfl) ?_
      refine aops_eff hΓ (.v (.one (.d (.int .i64 5)))) [] [] (by kernel_rfl) ?_
      refine aops_nil ?_
      refine awp_ret ?_
      obtain rfl := some_eq hF
      exact out_intro rfl (to_see [] [] ⟨[], []⟩ [(2, .v (.one (.d (.int .i64 5))))] 0 (by kernel_rfl) (by kernel_rfl) (lowc_of (by kernel_rfl)) trivial trivial (⟨t_same (by kernel_rfl) (by kernel_rfl), trivial⟩))
    · refine awp_false (by kernel_rfl) h8 ?_
      refine awp_seq ?_
      refine awp_to (to_see [] [] ⟨[], [(0, [.d (.str vy2.Device), .d (.str vy2.Metric), .d (.int .i64 vy2.At), .d (.int .i64 vy2.Value)])]⟩ [(0, .v (.one (.d (.lst (List.map api_Sample.enc ql))))), (3, .v (.one (.d (.int .i64 vx)))), (4, .v (.one (.box 0 0))), (8, .v (.one (.d (.lst (List.map api_Sample.enc ql))))), (9, .v (.one (.d (.int .i64 (ql.length : Int))))), (10, .v (.one (.d (.int .i64 vx))))] 1 (by kernel_rfl) (by kernel_rfl) (lowc_of (by kernel_rfl)) trivial (⟨⟨by kernel_rfl, [.d (.str vy2.Device), .d (.str vy2.Metric), .d (.int .i64 vy2.At), .d (.int .i64 vy2.Value)], by kernel_rfl, l2_same (by kernel_rfl) (by kernel_rfl)⟩, trivial⟩) (⟨t_same (by kernel_rfl) (by kernel_rfl), t_same (by kernel_rfl) (by kernel_rfl), t_same (by kernel_rfl) (by kernel_rfl), t_same (by kernel_rfl) (by kernel_rfl), t_same (by kernel_rfl) (by kernel_rfl), t_same (by kernel_rfl) (by kernel_rfl), trivial⟩)) ?_
      obtain ⟨vx5_1, h12, hF⟩ := bind_some hF
      refine awp_sub (series_Check_x3_ok ql vx vy2 _ h12) ?_
      rcases cond_or hF with ⟨h13, hF⟩ | ⟨h13, hF⟩
      · refine awp_true (by kernel_rfl) h13 ?_
        refine awp_seq ?_
        refine awp_region' 1 1001 (by kernel_rfl) (by kernel_rfl) ?_
        refine aops_eff hΓ (.v (.one (.d (.int .i64 1)))) [] [] (by kernel_rfl) ?_
        refine aops_nil ?_
        refine awp_ret ?_
        obtain rfl := some_eq hF
        exact out_intro rfl (to_see [] [] ⟨[], []⟩ [(2, .v (.one (.d (.int .i64 1))))] 0 (by kernel_rfl) (by kernel_rfl) (lowc_of (by kernel_rfl)) trivial trivial (⟨t_same (by kernel_rfl) (by kernel_rfl), trivial⟩))
      · refine awp_false (by kernel_rfl) h13 ?_
        refine awp_seq ?_
        refine awp_to (to_see [] [] ⟨[], [(0, [.d (.str vy2.Device), .d (.str vy2.Metric), .d (.int .i64 vy2.At), .d (.int .i64 vy2.Value)])]⟩ [(0, .v (.one (.d (.lst (List.map api_Sample.enc ql))))), (3, .v (.one (.d (.int .i64 vx)))), (4, .v (.one (.box 0 0))), (8, .v (.one (.d (.lst (List.map api_Sample.enc ql))))), (9, .v (.one (.d (.int .i64 (ql.length : Int))))), (10, .v (.one (.d (.int .i64 vx))))] 1 (by kernel_rfl) (by kernel_rfl) (lowc_of (by kernel_rfl)) trivial (⟨⟨by kernel_rfl, [.d (.str vy2.Device), .d (.str vy2.Metric), .d (.int .i64 vy2.At), .d (.int .i64 vy2.Value)], by kernel_rfl, l2_same (by kernel_rfl) (by kernel_rfl)⟩, trivial⟩) (⟨t_same (by kernel_rfl) (by kernel_rfl), t_same (by kernel_rfl) (by kernel_rfl), t_same (by kernel_rfl) (by kernel_rfl), t_same (by kernel_rfl) (by kernel_rfl), t_same (by kernel_rfl) (by kernel_rfl), t_same (by kernel_rfl) (by kernel_rfl), trivial⟩)) ?_
        obtain ⟨vx6_1, h17, hF⟩ := bind_some hF
        refine awp_sub (series_Check_x4_ok ql vx vy2 _ h17) ?_
        rcases cond_or hF with ⟨h18, hF⟩ | ⟨h18, hF⟩
        · refine awp_true (by kernel_rfl) h18 ?_
          refine awp_seq ?_
          refine awp_region' 0 1000 (by kernel_rfl) (by kernel_rfl) ?_
          refine aops_eff hΓ (.v (.one (.d (.int .i64 7)))) [] [] (by kernel_rfl) ?_
          refine aops_nil ?_
          refine awp_ret ?_
          obtain rfl := some_eq hF
          exact out_intro rfl (to_see [] [] ⟨[], []⟩ [(2, .v (.one (.d (.int .i64 7))))] 0 (by kernel_rfl) (by kernel_rfl) (lowc_of (by kernel_rfl)) trivial trivial (⟨t_same (by kernel_rfl) (by kernel_rfl), trivial⟩))
        · refine awp_false (by kernel_rfl) h18 ?_
          refine awp_skip ?_
          refine awp_region' 0 2000 (by kernel_rfl) (by kernel_rfl) ?_
          refine aops_eff hΓ (.v (.one (.d (.int .i64 (IntKind.wrap .i64 (vx + 1)))))) [] [] (by kernel_rfl) ?_
          refine aops_eff hΓ (.v (.one (.d (.int .i64 (IntKind.wrap .i64 (vx + 1)))))) [] [] (by kernel_rfl) ?_
          refine aops_nil ?_
          obtain rfl := some_eq hF
          exact out_intro rfl (to_see [] [] ⟨[], []⟩ [(0, .v (.one (.d (.lst (List.map api_Sample.enc ql))))), (8, .v (.one (.d (.lst (List.map api_Sample.enc ql))))), (9, .v (.one (.d (.int .i64 (ql.length : Int))))), (10, .v (.one (.d (.int .i64 (IntKind.wrap .i64 (vx + 1))))))] 0 (by kernel_rfl) (by kernel_rfl) (lowc_of (by kernel_rfl)) trivial trivial (⟨t_same (by kernel_rfl) (by kernel_rfl), t_same (by kernel_rfl) (by kernel_rfl), t_same (by kernel_rfl) (by kernel_rfl), t_same (by kernel_rfl) (by kernel_rfl), trivial⟩))
  · refine awp_false (by kernel_rfl) h2 ?_
    refine awp_exit ?_
    obtain rfl := some_eq hF
    exact out_intro rfl (to_see [] [] ⟨[], []⟩ [] 0 (by kernel_rfl) (by kernel_rfl) (lowc_of (by kernel_rfl)) trivial trivial trivial)

theorem series_Check_ok (ql : List api_Sample) (r : Int) (hF : series_Check ql = some r) : Holds prog 211 [.v (.one (.d (.lst (List.map api_Sample.enc ql))))] ⟨[], []⟩ (fun tv m => tv = .v (.one (.d (.int .i64 r))) ∧ m = ⟨[], []⟩) := by
  unfold series_Check at hF
  refine holds_of_awp hΓ (fn := f211) (c := cB f211) (A := 0) (nx := 0) (by kernel_rfl) (by kernel_rfl) (by kernel_rfl) (by kernel_rfl) (by kernel_rfl) (by kernel_rfl) (lowc_of (by kernel_rfl)) ?_
  show Awp prog 0 50 (cB f211) _ _
  refine awp_seq ?_
  refine awp_region' 0 1000 (by kernel_rfl) (by kernel_rfl) ?_
  refine aops_eff hΓ (.v (.one (.d (.int .i64 0)))) [] [] (by kernel_rfl) ?_
  refine aops_nil ?_
  refine awp_seq ?_
  refine awp_seq ?_
  refine awp_region' 1000 4000 (by kernel_rfl) (by kernel_rfl) ?_
  refine aops_eff hΓ (.v (.one (.d (.lst (List.map api_Sample.enc ql))))) [] [] (by kernel_rfl) ?_
  refine aops_eff hΓ (.v (.one (.d (.int .i64 (ql.length : Int))))) [] [] (opx_len (f := api_Sample.enc) (l := ql) (by kernel_rfl)) ?_
  refine aops_eff hΓ (.v (.one (.d (.bool (decide (5000 < (ql.length : Int))))))) [] [] (by kernel_rfl) ?_
  refine aops_nil ?_
  rcases cond_or hF with ⟨h1, hF⟩ | ⟨h1, hF⟩
  · refine awp_true (by kernel_rfl) h1 ?_
    refine awp_seq ?_
    refine awp_region' 4000 5000 (by kernel_rfl) (by kernel_rfl) ?_
    refine aops_eff hΓ (.v (.one (.d (.int .i64 2)))) [] [] (by kernel_rfl) ?_
    refine aops_nil ?_
    refine awp_ret ?_
    obtain rfl := some_eq hF
    exact fin_intro (xs := [.one (.d (.int .i64 2))]) (m' := ⟨[], []⟩) (tv := (.v (.one (.d (.int .i64 2))))) (rl := []) (nl := []) (by kernel_rfl) (by kernel_rfl) (by kernel_rfl) (sees_of (by kernel_rfl) trivial trivial) (t_same (by kernel_rfl) (by kernel_rfl)) ⟨rfl, rfl⟩
  · refine awp_false (by kernel_rfl) h1 ?_
    refine awp_skip ?_
    refine awp_seq ?_
    refine awp_seq ?_
    refine awp_region' 4000 7000 (by kernel_rfl) (by kernel_rfl) ?_
    refine aops_eff hΓ (.v (.one (.d (.lst (List.map api_Sample.enc ql))))) [] [] (by kernel_rfl) ?_
    refine aops_eff hΓ (.v (.one (.d (.int .i64 (ql.length : Int))))) [] [] (opx_len (f := api_Sample.enc) (l := ql) (by kernel_rfl)) ?_
    refine aops_eff hΓ (.v (.one (.d (.int .i64 0)))) [] [] (by kernel_rfl) ?_
    refine aops_nil ?_
    refine awp_block ?_
    refine awp_to (st' := series_Check_x1_H ql 0) (to_see [] [] ⟨[], []⟩ [(0, .v (.one (.d (.lst (List.map api_Sample.enc ql))))), (8, .v (.one (.d (.lst (List.map api_Sample.enc ql))))), (9, .v (.one (.d (.int .i64 (ql.length : Int))))), (10, .v (.one (.d (.int .i64 0))))] 0 (by kernel_rfl) (by kernel_rfl) (lowc_of (by kernel_rfl)) trivial trivial (⟨t_same (by kernel_rfl) (by kernel_rfl), t_same (by kernel_rfl) (by kernel_rfl), t_same (by kernel_rfl) (by kernel_rfl), t_same (by kernel_rfl) (by kernel_rfl), trivial⟩)) ?_
    obtain ⟨(_ | vx7_1), h19, hF⟩ := bind_some hF
    · refine awp_sub (awp_loop' (series_Check_x1_H ql) series_Check_x1_k (series_Check_x1_S ql) (by intro x; rcases x with x | x <;> exact fun h => nomatch h) h19 (series_Check_x1_ok ql)) ?_
      refine awp_seq ?_
      refine awp_region' 0 1000 (by kernel_rfl) (by kernel_rfl) ?_
      refine aops_eff hΓ (.v (.one (.d (.int .i64 0)))) [] [] (by kernel_rfl) ?_
      refine aops_nil ?_
      refine awp_ret ?_
      obtain rfl := some_eq hF
      exact fin_intro (xs := [.one (.d (.int .i64 0))]) (m' := ⟨[], []⟩) (tv := (.v (.one (.d (.int .i64 0))))) (rl := []) (nl := []) (by kernel_rfl) (by kernel_rfl) (by kernel_rfl) (sees_of (by kernel_rfl) trivial trivial) (t_same (by kernel_rfl) (by kernel_rfl)) ⟨rfl, rfl⟩
    · refine awp_sub (awp_loop' (series_Check_x1_H ql) series_Check_x1_k (series_Check_x1_S ql) (by intro x; rcases x with x | x <;> exact fun h => nomatch h) h19 (series_Check_x1_ok ql)) ?_
      obtain rfl := some_eq hF
      exact fin_intro (xs := [.one (.d (.int .i64 vx7_1))]) (m' := ⟨[], []⟩) (tv := (.v (.one (.d (.int .i64 vx7_1))))) (rl := []) (nl := []) (by kernel_rfl) (by kernel_rfl) (by kernel_rfl) (sees_of (by kernel_rfl) trivial trivial) (t_same (by kernel_rfl) (by kernel_rfl)) ⟨rfl, rfl⟩

/-! ### beaconfleet/series.CheckSeries$1 -/
def series_CheckSeries_1_x1_k : Bool → AEx
  | _ => .normal

def series_CheckSeries_1_x1_S (qs : api_Sample) (qx : List api_Sample) : Bool → St
  | vx => Mem.st ⟨[], [(0, [.d (.lst (List.map api_Sample.enc qx))])]⟩ (tl [(3, .v (.one (.d (.bool vx))))]) 1

theorem series_CheckSeries_1_x1_ok (qs : api_Sample) (qx : List api_Sample) (r : Bool) (hF : series_CheckSeries_1_x1 qs qx = some r) : Awp prog 1 20 (cL (cR (cB f212))) (Out 1 series_CheckSeries_1_x1_k (series_CheckSeries_1_x1_S qs qx) r) (Mem.st ⟨[], [(0, [.d (.lst (List.map api_Sample.enc qx))]), (1, [.d (.str qs.Device), .d (.str qs.Metric), .d (.int .i64 qs.At), .d (.int .i64 qs.Value)])]⟩ (tl [(1, .v (.one (.box 0 0))), (2, .v (.one (.box 1 0)))]) 2) := by
  unfold series_CheckSeries_1_x1 at hF
  obtain ⟨vy, h1, hF⟩ := bind_some hF
  rcases cond_or hF with ⟨h2, hF⟩ | ⟨h2, hF⟩
  · refine awp_region_any' hm 2 17002 [(some ⟨.v (.one (.box 1 0)), [], [], []⟩, [1]), (some ⟨.v (.one (.d (.str qs.Device))), [], [], []⟩, [1]), (some ⟨.v (.one (.d (.lst (List.map api_Sample.enc qx)))), [], [], []⟩, [0]), (some ⟨.v (.one (.cp [.str vy.Device, .str vy.Metric, .int .i64 vy.At, .int .i64 vy.Value])), [], [], []⟩, []), (some ⟨.v (.one (.cp [.str vy.Device, .str vy.Metric, .int .i64 vy.At, .int .i64 vy.Value])), [], [], []⟩, []), (some ⟨.v (.one (.d (.str vy.Device))), [], [], []⟩, []), (some ⟨.v (.one (.d (.bool true))), [], [], []⟩, []), (some ⟨.v (.one (.d (.bool true))), [], [], []⟩, []), (none, []), (none, []), (none, []), (none, []), (none, []), (none, []), (none, []), (some ⟨.v (.one (.d (.bool true))), [], [], []⟩, []), (some ⟨.v (.one (.d (.bool true))), [], [], []⟩, [])] [[], [0], [], [2], [2, 3], [2, 3, 4], [0, 1, 2, 3, 4, 5], [0, 1, 2, 3, 4, 5, 6], [0, 1, 2, 3, 4, 5, 6, 7], [0, 1, 2, 3, 4, 5, 6, 7, 8], [0, 1, 2, 3, 4, 5, 6, 7], [0, 1, 2, 3, 4, 5, 6, 7, 10], [0, 1, 2, 3, 4, 5, 6, 7, 10, 11], [0, 1, 2, 3, 4, 5, 6, 7, 10, 11, 12], [0, 1, 2, 3, 4, 5, 6, 7, 8, 9, 10, 11, 12, 13], [0, 1, 2, 3, 4, 5, 6, 7, 8, 9, 10, 11, 12, 13, 14], [0, 1, 2, 3, 4, 5, 6, 7, 8, 9, 10, 11, 12, 13, 14, 15]] (by kernel_rfl) (by kernel_rfl) (by kernel_rfl) (by kernel_rfl) ?_
    refine And.intro (step_eff hΓ (.v (.one (.box 1 0))) [] [] (by kernel_rfl) (by kernel_rfl)) ?_
    refine And.intro (step_eff hΓ (.v (.one (.d (.str qs.Device)))) [] [] (by kernel_rfl) (by kernel_rfl)) ?_
    refine And.intro (step_eff hΓ (.v (.one (.d (.lst (List.map api_Sample.enc qx))))) [] [] (by kernel_rfl) (by kernel_rfl)) ?_
    refine And.intro (step_eff hΓ (.v (.one (.cp [.str vy.Device, .str vy.Metric, .int .i64 vy.At, .int .i64 vy.Value]))) [] [] (opx_of (by kernel_rfl) (by kernel_rfl) (eff_indexAddr (k := .i64) (ti := ti26) (te := ti42) (l := qx) (f := api_Sample.enc) (y := vy) (by kernel_rfl) rfl (by kernel_rfl) (by kernel_rfl) (by kernel_rfl) h1 (by kernel_rfl))) (by kernel_rfl)) ?_
    refine And.intro (step_eff hΓ (.v (.one (.cp [.str vy.Device, .str vy.Metric, .int .i64 vy.At, .int .i64 vy.Value]))) [] [] (by kernel_rfl) (by kernel_rfl)) ?_
    refine And.intro (step_eff hΓ (.v (.one (.d (.str vy.Device)))) [] [] (by kernel_rfl) (by kernel_rfl)) ?_
    refine And.intro (step_eff hΓ (.v (.one (.d (.bool true)))) [] [] (opx_b (by kernel_rfl) h2) (by kernel_rfl)) ?_
    refine And.intro (step_eff hΓ (.v (.one (.d (.bool true)))) [] [] (by kernel_rfl) (by kernel_rfl)) ?_
    refine And.intro (step_skip' (by kernel_rfl)) ?_
    refine And.intro (step_skip' (by kernel_rfl)) ?_
    refine And.intro (step_skip' (by kernel_rfl)) ?_
    refine And.intro (step_skip' (by kernel_rfl)) ?_
    refine And.intro (step_skip' (by kernel_rfl)) ?_
    refine And.intro (step_skip' (by kernel_rfl)) ?_
    refine And.intro (step_skip' (by kernel_rfl)) ?_
    refine And.intro (step_eff hΓ (.v (.one (.d (.bool true)))) [] [] (by kernel_rfl) (by kernel_rfl)) ?_
    refine And.intro (step_eff hΓ (.v (.one (.d (.bool true)))) [] [] (by kernel_rfl) (by kernel_rfl)) ?_
    obtain rfl := some_eq hF
    exact out_intro rfl (to_see [] [] ⟨[], [(0, [.d (.lst (List.map api_Sample.enc qx))])]⟩ [(3, .v (.one (.d (.bool true))))] 1 (by kernel_rfl) (by kernel_rfl) (lowc_of (by kernel_rfl)) trivial (⟨⟨by kernel_rfl, [.d (.lst (List.map api_Sample.enc qx))], by kernel_rfl, l2_same (by kernel_rfl) (by kernel_rfl)⟩, trivial⟩) (⟨t_same (by kernel_rfl) (by kernel_rfl), trivial⟩))
  · refine awp_region_any' hm 2 17002 [(some ⟨.v (.one (.box 1 0)), [], [], []⟩, [1]), (some ⟨.v (.one (.d (.str qs.Device))), [], [], []⟩, [1]), (some ⟨.v (.one (.d (.lst (List.map api_Sample.enc qx)))), [], [], []⟩, [0]), (some ⟨.v (.one (.cp [.str vy.Device, .str vy.Metric, .int .i64 vy.At, .int .i64 vy.Value])), [], [], []⟩, []), (some ⟨.v (.one (.cp [.str vy.Device, .str vy.Metric, .int .i64 vy.At, .int .i64 vy.Value])), [], [], []⟩, []), (some ⟨.v (.one (.d (.str vy.Device))), [], [], []⟩, []), (some ⟨.v (.one (.d (.bool false))), [], [], []⟩, []), (some ⟨.v (.one (.d (.bool false))), [], [], []⟩, []), (some ⟨.v (.one (.box 1 1)), [], [], []⟩, [1]), (some ⟨.v (.one (.d (.str qs.Metric))), [], [], []⟩, [1]), (some ⟨.v (.one (.d (.lst (List.map api_Sample.enc qx)))), [], [], []⟩, [0]), (some ⟨.v (.one (.cp [.str vy.Device, .str vy.Metric, .int .i64 vy.At, .int .i64 vy.Value])), [], [], []⟩, []), (some ⟨.v (.one (.cp [.str vy.Metric, .int .i64 vy.At, .int .i64 vy.Value])), [], [], []⟩, []), (some ⟨.v (.one (.d (.str vy.Metric))), [], [], []⟩, []), (some ⟨.v (.one (.d (.bool (!decide (qs.Metric = vy.Metric))))), [], [], []⟩, []), (some ⟨.v (.one (.d (.bool (!decide (qs.Metric = vy.Metric))))), [], [], []⟩, []), (some ⟨.v (.one (.d (.bool (!decide (qs.Metric = vy.Metric))))), [], [], []⟩, [])] [[], [0], [], [2], [2, 3], [2, 3, 4], [0, 1, 2, 3, 4, 5], [0, 1, 2, 3, 4, 5, 6], [0, 1, 2, 3, 4, 5, 6, 7], [0, 1, 2, 3, 4, 5, 6, 7, 8], [0, 1, 2, 3, 4, 5, 6, 7], [0, 1, 2, 3, 4, 5, 6, 7, 10], [0, 1, 2, 3, 4, 5, 6, 7, 10, 11], [0, 1, 2, 3, 4, 5, 6, 7, 10, 11, 12], [0, 1, 2, 3, 4, 5, 6, 7, 8, 9, 10, 11, 12, 13], [0, 1, 2, 3, 4, 5, 6, 7, 8, 9, 10, 11, 12, 13, 14], [0, 1, 2, 3, 4, 5, 6, 7, 8, 9, 10, 11, 12, 13, 14, 15]] (by kernel_rfl) (by kernel_rfl) (by kernel_rfl) (by kernel_rfl) ?_
    refine And.intro (step_eff hΓ (.v (.one (.box 1 0))) [] [] (by kernel_rfl) (by kernel_rfl)) ?_
    refine And.intro (step_eff hΓ (.v (.one (.d (.str qs.Device)))) [] [] (by kernel_rfl) (by kernel_rfl)) ?_
    refine And.intro (step_eff hΓ (.v (.one (.d (.lst (List.map api_Sample.enc qx))))) [] [] (by kernel_rfl) (by kernel_rfl)) ?_
    refine And.intro (step_eff hΓ (.v (.one (.cp [.str vy.Device, .str vy.Metric, .int .i64 vy.At, .int .i64 vy.Value]))) [] [] (opx_of (by kernel_rfl) (by kernel_rfl) (eff_indexAddr (k := .i64) (ti := ti26) (te := ti42) (l := qx) (f := api_Sample.enc) (y := vy) (by kernel_rfl) rfl (by kernel_rfl) (by kernel_rfl) (by kernel_rfl) h1 (by kernel_rfl))) (by kernel_rfl)) ?_
    refine And.intro (step_eff hΓ (.v (.one (.cp [.str vy.Device, .str vy.Metric, .int .i64 vy.At, .int .i64 vy.Value]))) [] [] (by kernel_rfl) (by kernel_rfl)) ?_
    refine And.intro (step_eff hΓ (.v (.one (.d (.str vy.Device)))) [] [] (by kernel_rfl) (by kernel_rfl)) ?_
    refine And.intro (step_eff hΓ (.v (.one (.d (.bool false)))) [] [] (opx_b (by kernel_rfl) h2) (by kernel_rfl)) ?_
    refine And.intro (step_eff hΓ (.v (.one (.d (.bool false)))) [] [] (by kernel_rfl) (by kernel_rfl)) ?_
    refine And.intro (step_eff hΓ (.v (.one (.box 1 1))) [] [] (by kernel_rfl) (by kernel_rfl)) ?_
    refine And.intro (step_eff hΓ (.v (.one (.d (.str qs.Metric)))) [] [] (by kernel_rfl) (by kernel_rfl)) ?_
    refine And.intro (step_eff hΓ (.v (.one (.d (.lst (List.map api_Sample.enc qx))))) [] [] (by kernel_rfl) (by kernel_rfl)) ?_
    refine And.intro (step_eff hΓ (.v (.one (.cp [.str vy.Device, .str vy.Metric, .int .i64 vy.At, .int .i64 vy.Value]))) [] [] (opx_of (by kernel_rfl) (by kernel_rfl) (eff_indexAddr (k := .i64) (ti := ti26) (te := ti42) (l := qx) (f := api_Sample.enc) (y := vy) (by kernel_rfl) rfl (by kernel_rfl) (by kernel_rfl) (by kernel_rfl) h1 (by kernel_rfl))) (by kernel_rfl)) ?_
    refine And.intro (step_eff hΓ (.v (.one (.cp [.str vy.Metric, .int .i64 vy.At, .int .i64 vy.Value]))) [] [] (by kernel_rfl) (by kernel_rfl)) ?_
    refine And.intro (step_eff hΓ (.v (.one (.d (.str vy.Metric)))) [] [] (by kernel_rfl) (by kernel_rfl)) ?_
    refine And.intro (step_eff hΓ (.v (.one (.d (.bool (!decide (qs.Metric = vy.Metric)))))) [] [] (by kernel_rfl) (by kernel_rfl)) ?_
    refine And.intro (step_eff hΓ (.v (.one (.d (.bool (!decide (qs.Metric = vy.Metric)))))) [] [] (by kernel_rfl) (by kernel_rfl)) ?_
    refine And.intro (step_eff hΓ (.v (.one (.d (.bool (!decide (qs.Metric = vy.Metric)))))) [] [] (by kernel_rfl) (by kernel_rfl)) ?_
    obtain rfl := some_eq hF
    exact out_intro rfl (to_see [] [] ⟨[], [(0, [.d (.lst (List.map api_Sample.enc qx))])]⟩ [(3, .v (.one (.d (.bool (!decide (qs.Metric = vy.Metric))))))] 1 (by kernel_rfl) (by kernel_rfl) (lowc_of (by kernel_rfl)) trivial (⟨⟨by kernel_rfl, [.d (.lst (List.map api_Sample.enc qx))], by kernel_rfl, l2_same (by kernel_rfl) (by kernel_rfl)⟩, trivial⟩) (⟨t_same (by kernel_rfl) (by kernel_rfl), trivial⟩))

theorem series_CheckSeries_1_ok (qs : api_Sample) (qx : List api_Sample) (r : Bool) (hF : series_CheckSeries_1 qs qx = some r) : Holds prog 212 [.v (.agg [.d (.str qs.Device), .d (.str qs.Metric), .d (.int .i64 qs.At), .d (.int .i64 qs.Value)]), .v (.one (.box 0 0))] ⟨[], [(0, [.d (.lst (List.map api_Sample.enc qx))])]⟩ (fun tv m => tv = .v (.one (.d (.bool r))) ∧ m = ⟨[], [(0, [.d (.lst (List.map api_Sample.enc qx))])]⟩) := by
  unfold series_CheckSeries_1 at hF
  refine holds_of_awp hΓ (fn := f212) (c := cB f212) (A := 1) (nx := 1) (by kernel_rfl) (by kernel_rfl) (by kernel_rfl) (by kernel_rfl) (by kernel_rfl) (by kernel_rfl) (lowc_of (by kernel_rfl)) ?_
  show Awp prog 1 20 (cB f212) _ _
  refine awp_seq ?_
  refine awp_region' 1 2001 (by kernel_rfl) (by kernel_rfl) ?_
  refine aops_eff hΓ (.v (.one (.box 1 0))) [] [(1, some [.d (.str qs.Device), .d (.str qs.Metric), .d (.int .i64 qs.At), .d (.int .i64 qs.Value)])] (by kernel_rfl) ?_
  refine aops_eff hΓ (.v (.one (.d (.bool false)))) [] [] (by kernel_rfl) ?_
  refine aops_nil ?_
  refine awp_seq ?_
  refine awp_to (to_see [] [] ⟨[], [(0, [.d (.lst (List.map api_Sample.enc qx))]), (1, [.d (.str qs.Device), .d (.str qs.Metric), .d (.int .i64 qs.At), .d (.int .i64 qs.Value)])]⟩ [(1, .v (.one (.box 0 0))), (2, .v (.one (.box 1 0)))] 2 (by kernel_rfl) (by kernel_rfl) (lowc_of (by kernel_rfl)) trivial (⟨⟨by kernel_rfl, [.d (.lst (List.map api_Sample.enc qx))], by kernel_rfl, l2_same (by kernel_rfl) (by kernel_rfl)⟩, ⟨by kernel_rfl, [.d (.str qs.Device), .d (.str qs.Metric), .d (.int .i64 qs.At), .d (.int .i64 qs.Value)], by kernel_rfl, l2_same (by kernel_rfl) (by kernel_rfl)⟩, trivial⟩) (⟨t_same (by kernel_rfl) (by kernel_rfl), t_same (by kernel_rfl) (by kernel_rfl), trivial⟩)) ?_
  obtain ⟨vx1, h3, hF⟩ := bind_some hF
  refine awp_sub (series_CheckSeries_1_x1_ok qs qx _ h3) ?_
  refine awp_ret ?_
  obtain rfl := some_eq hF
  exact fin_intro (xs := [.one (.d (.bool vx1))]) (m' := ⟨[], [(0, [.d (.lst (List.map api_Sample.enc qx))])]⟩) (tv := (.v (.one (.d (.bool vx1))))) (rl := []) (nl := []) (by kernel_rfl) (by kernel_rfl) (by kernel_rfl) (sees_of (by kernel_rfl) trivial (⟨⟨by kernel_rfl, [.d (.lst (List.map api_Sample.enc qx))], by kernel_rfl, l2_same (by kernel_rfl) (by kernel_rfl)⟩, trivial⟩)) (t_same (by kernel_rfl) (by kernel_rfl)) ⟨rfl, rfl⟩

end Go.Eng
