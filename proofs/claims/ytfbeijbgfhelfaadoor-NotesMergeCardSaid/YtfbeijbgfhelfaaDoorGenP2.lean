/-
The code of the Go functions that the law NotesMerge reaches does what the plain functions say, part 2.
-/
import Derived.Test.YtfbeijbgfhelfaaDoorGenP1

namespace Go.Eng

open Go Go.Proofs.Tryd

set_option linter.unusedVariables false

set_option maxRecDepth 20000

set_option maxHeartbeats 0

/-! ### (*beaconfleet/command.Office).Put -/
def command_Office_Put_x2_k : Bool → AEx
  | _ => .normal

def command_Office_Put_x2_S (qx : Int) (qx1 : Int) (qm : List (List UInt8 × api_Note)) (qx2 : api_Letter) (vm4 : List (List UInt8 × api_Note)) (vme : List (Nat × List D × List D)) (vcl : Nat) (vhp : (List.map (encM D.str api_Note.enc) vm4).Perm (List.map (·.2) vme)) (vx : List UInt8) (ve2 : (List UInt8 × api_Note)) (vl2 : List (List UInt8 × api_Note)) (vb1 : Nat) : Bool → St
  | vx2 => Mem.st ⟨[], [(0, [.d (.int .i64 qx), .d (.int .i64 qx), .d (.int .i64 qx), .d (.int .i64 qx1), .mapp 1, .d (.int .i64 qx1)]), (1, [.mapc .str true (List.map (encM D.str api_Note.enc) qm)]), (2, [.d (.str qx2.Id), .d (.str qx2.Slot), .d (.str qx2.Body), .d (.int .i64 qx2.Prio), .d (.int .i64 qx2.At), .d (.int .i64 qx2.Until)]), (3, [.iterc 4 vme vcl (List.map (encM D.str api_Note.enc) vl2) (some (vb1, (encM D.str api_Note.enc) ve2))]), (4, [.mapg .str true vme vcl])]⟩ (tl [(0, .v (.one (.box 0 0))), (3, .v (.one (.box 2 0))), (6, .v (.one (.mapp 4))), (9, .v (.one (.d (.str vx)))), (10, .v (.one (.d (.str ve2.1)))), (38, .v (.one (.box 3 0))), (64, .v (.one (.d (.bool vx2))))]) 5

def command_Office_Put_x2_I (qx : Int) (qx1 : Int) (qm : List (List UInt8 × api_Note)) (qx2 : api_Letter) (vm4 : List (List UInt8 × api_Note)) (vme : List (Nat × List D × List D)) (vcl : Nat) (vhp : (List.map (encM D.str api_Note.enc) vm4).Perm (List.map (·.2) vme)) (vx : List UInt8) (ve2 : (List UInt8 × api_Note)) (vl2 : List (List UInt8 × api_Note)) (vb1 : Nat) : St := Mem.st ⟨[], [(0, [.d (.int .i64 qx), .d (.int .i64 qx), .d (.int .i64 qx), .d (.int .i64 qx1), .mapp 1, .d (.int .i64 qx1)]), (1, [.mapc .str true (List.map (encM D.str api_Note.enc) qm)]), (2, [.d (.str qx2.Id), .d (.str qx2.Slot), .d (.str qx2.Body), .d (.int .i64 qx2.Prio), .d (.int .i64 qx2.At), .d (.int .i64 qx2.Until)]), (3, [.d (.str ve2.2.Letter.Id), .d (.str ve2.2.Letter.Slot), .d (.str ve2.2.Letter.Body), .d (.int .i64 ve2.2.Letter.Prio), .d (.int .i64 ve2.2.Letter.At), .d (.int .i64 ve2.2.Letter.Until), .d (.int .i64 ve2.2.State), .d (.int .i64 ve2.2.Tries), .d (.int .i64 ve2.2.Since)]), (4, [.iterc 5 vme vcl (List.map (encM D.str api_Note.enc) vl2) (some (vb1, (encM D.str api_Note.enc) ve2))]), (5, [.mapg .str true vme vcl])]⟩ (tl [(0, .v (.one (.box 0 0))), (3, .v (.one (.box 2 0))), (6, .v (.one (.mapp 5))), (9, .v (.one (.d (.str vx)))), (10, .v (.one (.d (.str ve2.1)))), (11, .v (.one (.box 3 0))), (38, .v (.one (.box 4 0)))]) 6

theorem command_Office_Put_x2_ok (qx : Int) (qx1 : Int) (qm : List (List UInt8 × api_Note)) (qx2 : api_Letter) (vm4 : List (List UInt8 × api_Note)) (vme : List (Nat × List D × List D)) (vcl : Nat) (vhp : (List.map (encM D.str api_Note.enc) vm4).Perm (List.map (·.2) vme)) (vx : List UInt8) (ve2 : (List UInt8 × api_Note)) (vl2 : List (List UInt8 × api_Note)) (vb1 : Nat) {r} (hF : command_Office_Put_x2 qx2 ve2 = some r) : Awp prog 2 103 (cL (cR (cL (cR (cR (cL (cL (cR (cL (cR (cR (cR (cR (cR (cB f36))))))))))))))) (Out 2 command_Office_Put_x2_k (command_Office_Put_x2_S qx qx1 qm qx2 vm4 vme vcl vhp vx ve2 vl2 vb1) r) (command_Office_Put_x2_I qx qx1 qm qx2 vm4 vme vcl vhp vx ve2 vl2 vb1) := by
  unfold command_Office_Put_x2 at hF
  refine cE hF (fun h13 hF => ?_) fun h13 hF => ?_
  · refine cE hF (fun h14 hF => ?_) fun h14 hF => ?_
    · refine cE hF (fun h15 hF => ?_) fun h15 hF => ?_
      · refine awp_region ?_
        refine aR 2 ?_
        refine aB h13 ?_
        refine aR 6 ?_
        refine aB h14 ?_
        refine aR 4 ?_
        refine aB h15 ?_
        refine aR 6 ?_
        refine aE ?_
        exact oO hF [(3, 4), (4, 5)] [] rfl
      · refine awp_region ?_
        refine aR 2 ?_
        refine aB h13 ?_
        refine aR 6 ?_
        refine aB h14 ?_
        refine aR 4 ?_
        refine aB h15 ?_
        refine aR 6 ?_
        refine aE ?_
        exact oO hF [(3, 4), (4, 5)] [] rfl
    · refine awp_region ?_
      refine aR 2 ?_
      refine aB h13 ?_
      refine aR 6 ?_
      refine aB h14 ?_
      refine aR 11 ?_
      refine aE ?_
      exact oO hF [(3, 4), (4, 5)] [] rfl
  · refine awp_region ?_
    refine aR 2 ?_
    refine aB h13 ?_
    refine aR 18 ?_
    refine aE ?_
    exact oO hF [(3, 4), (4, 5)] [] rfl

def command_Office_Put_x1_k : (List UInt8) → AEx
  | _ => .exit 0

def command_Office_Put_x1_S (qx : Int) (qx1 : Int) (qm : List (List UInt8 × api_Note)) (qx2 : api_Letter) (vm4 : List (List UInt8 × api_Note)) (vme : List (Nat × List D × List D)) (vcl : Nat) (vhp : (List.map (encM D.str api_Note.enc) vm4).Perm (List.map (·.2) vme)) : (List UInt8) → St
  | vx3 => Mem.st ⟨[], [(0, [.d (.int .i64 qx), .d (.int .i64 qx), .d (.int .i64 qx), .d (.int .i64 qx1), .mapp 1, .d (.int .i64 qx1)]), (1, [.mapc .str true (List.map (encM D.str api_Note.enc) qm)]), (2, [.d (.str qx2.Id), .d (.str qx2.Slot), .d (.str qx2.Body), .d (.int .i64 qx2.Prio), .d (.int .i64 qx2.At), .d (.int .i64 qx2.Until)]), (3, [.mapc .str true (List.map (encM D.str api_Note.enc) vm4)])]⟩ (tl [(0, .v (.one (.box 0 0))), (3, .v (.one (.box 2 0))), (6, .v (.one (.mapp 3))), (9, .v (.one (.d (.str vx3))))]) 4

def command_Office_Put_x1_H (qx : Int) (qx1 : Int) (qm : List (List UInt8 × api_Note)) (qx2 : api_Letter) (vm4 : List (List UInt8 × api_Note)) (vme : List (Nat × List D × List D)) (vcl : Nat) (vhp : (List.map (encM D.str api_Note.enc) vm4).Perm (List.map (·.2) vme)) (vl : List (List UInt8 × api_Note)) : (List UInt8) → St
  | vx => Mem.st ⟨[], [(0, [.d (.int .i64 qx), .d (.int .i64 qx), .d (.int .i64 qx), .d (.int .i64 qx1), .mapp 1, .d (.int .i64 qx1)]), (1, [.mapc .str true (List.map (encM D.str api_Note.enc) qm)]), (2, [.d (.str qx2.Id), .d (.str qx2.Slot), .d (.str qx2.Body), .d (.int .i64 qx2.Prio), .d (.int .i64 qx2.At), .d (.int .i64 qx2.Until)]), (3, [.iterc 4 vme vcl (List.map (encM D.str api_Note.enc) vl) none]), (4, [.mapg .str true vme vcl])]⟩ (tl [(0, .v (.one (.box 0 0))), (3, .v (.one (.box 2 0))), (6, .v (.one (.mapp 4))), (9, .v (.one (.d (.str vx)))), (38, .v (.one (.box 3 0)))]) 5

theorem command_Office_Put_x1_ok (qx : Int) (qx1 : Int) (qm : List (List UInt8 × api_Note)) (qx2 : api_Letter) (vm4 : List (List UInt8 × api_Note)) (vme : List (Nat × List D × List D)) (vcl : Nat) (vhp : (List.map (encM D.str api_Note.enc) vm4).Perm (List.map (·.2) vme)) (vl : List (List UInt8 × api_Note)) (vx : (List UInt8)) (hE : vl = [] → ∃ x, command_Office_Put_x1 qx2 none vx = some x) (hP : ∀ e l', List.Perm vl (e :: l') → ∃ x, command_Office_Put_x1 qx2 (some e) vx = some x) : Awp prog 2 103 (cL (cL (cR (cL (cR (cR (cR (cR (cR (cB f36)))))))))) (OutR 2 command_Office_Put_x1_k (command_Office_Put_x1 qx2) (command_Office_Put_x1_H qx qx1 qm qx2 vm4 vme vcl vhp) (command_Office_Put_x1_S qx qx1 qm qx2 vm4 vme vcl vhp) vl vx) (command_Office_Put_x1_H qx qx1 qm qx2 vm4 vme vcl vhp vl vx) := by
  refine awp_seq ?_
  refine awp_region ?_
  refine aNext (ka := .str) (va := true) (me := vme) (cl := vcl) (cur := none) 3 4 (encM D.str api_Note.enc) vl rfl (fun h11 => ?_) (fun ve2 vl2 vb1 h12 => ?_)
  · obtain ⟨x, hF0⟩ := hE h11
    have hF := hF0
    unfold command_Office_Put_x1 at hF
    refine aR 1 ?_
    refine aE ?_
    refine awp_seq ?_
    refine awp_false (by kernel_rfl) rfl ?_
    refine awp_close (ka := .str) (va := true) (me := vme) (cl := vcl) 4 vhp ?_
    refine awp_exit ?_
    exact outE h11 hF0 (oO hF [(3, 4)] [] rfl)
  · obtain ⟨x, hF0⟩ := hP _ _ h12
    have hF := hF0
    unfold command_Office_Put_x1 at hF
    refine aR 1 ?_
    refine aE ?_
    refine awp_seq ?_
    refine awp_true (by kernel_rfl) rfl ?_
    refine awp_skip ?_
    refine awp_block ?_
    refine awp_seq ?_
    refine awp_region ?_
    refine aEntry (ka := .str) (va := true) (me := vme) (cl := vcl) (b := vb1) (rest := List.map (encM D.str api_Note.enc) vl2) 3 4 (encM D.str api_Note.enc) ve2 rfl ?_
    refine aR 5 ?_
    refine aE ?_
    refine awp_seq ?_
    refine awp_to (st' := command_Office_Put_x2_I qx qx1 qm qx2 vm4 vme vcl vhp vx ve2 vl2 vb1) (oT [(3, 5005), (4, 3), (5, 4)] []) ?_
    refine bE hF fun vx2_1 h16 hF => ?_
    refine awp_sub (command_Office_Put_x2_ok qx qx1 qm qx2 vm4 vme vcl vhp vx ve2 vl2 vb1 h16) ?_
    refine cE hF (fun h17 hF => ?_) fun h17 hF => ?_
    · refine awp_true (by kernel_rfl) h17 ?_
      refine awp_region ?_
      refine aR 2 ?_
      refine aE ?_
      exact outP h12 hF0 (outCur (idM := 4) (me := vme) (cl := vcl) (rest := List.map (encM D.str api_Note.enc) vl2) (cur := some (vb1, (encM D.str api_Note.enc) ve2)) 3 <| oO hF [] [] rfl)
    · refine awp_false (by kernel_rfl) h17 ?_
      refine awp_skip ?_
      exact outP h12 hF0 (outCur (idM := 4) (me := vme) (cl := vcl) (rest := List.map (encM D.str api_Note.enc) vl2) (cur := some (vb1, (encM D.str api_Note.enc) ve2)) 3 <| oO hF [] [] rfl)

def command_Office_Put_x3_k : Int → AEx
  | _ => .normal

def command_Office_Put_x3_S (qx : Int) (qx1 : Int) (qm : List (List UInt8 × api_Note)) (qx2 : api_Letter) (vm4 : List (List UInt8 × api_Note)) (vx3_1 : List UInt8) : Int → St
  | vx4 => Mem.st ⟨[], [(0, [.d (.int .i64 qx), .d (.int .i64 qx), .d (.int .i64 qx), .d (.int .i64 qx1), .mapp 1, .d (.int .i64 qx1)]), (1, [.mapc .str true (List.map (encM D.str api_Note.enc) qm)]), (2, [.d (.str qx2.Id), .d (.str qx2.Slot), .d (.str qx2.Body), .d (.int .i64 qx2.Prio), .d (.int .i64 qx2.At), .d (.int .i64 qx2.Until)]), (3, [.mapc .str true (List.map (encM D.str api_Note.enc) vm4)])]⟩ (tl [(0, .v (.one (.box 0 0))), (3, .v (.one (.box 2 0))), (6, .v (.one (.mapp 3))), (9, .v (.one (.d (.str vx3_1)))), (12, .v (.one (.d (.int .i64 vx4))))]) 4

def command_Office_Put_x3_I (qx : Int) (qx1 : Int) (qm : List (List UInt8 × api_Note)) (qx2 : api_Letter) (vm4 : List (List UInt8 × api_Note)) (vx3_1 : List UInt8) : St := Mem.st ⟨[], [(0, [.d (.int .i64 qx), .d (.int .i64 qx), .d (.int .i64 qx), .d (.int .i64 qx1), .mapp 1, .d (.int .i64 qx1)]), (1, [.mapc .str true (List.map (encM D.str api_Note.enc) qm)]), (2, [.d (.str qx2.Id), .d (.str qx2.Slot), .d (.str qx2.Body), .d (.int .i64 qx2.Prio), .d (.int .i64 qx2.At), .d (.int .i64 qx2.Until)]), (3, [.mapc .str true (List.map (encM D.str api_Note.enc) vm4)])]⟩ (tl [(0, .v (.one (.box 0 0))), (3, .v (.one (.box 2 0))), (6, .v (.one (.mapp 3))), (9, .v (.one (.d (.str vx3_1)))), (12, .v (.one (.d (.int .i64 qx))))]) 4

theorem command_Office_Put_x3_ok (qx : Int) (qx1 : Int) (qm : List (List UInt8 × api_Note)) (qx2 : api_Letter) (vm4 : List (List UInt8 × api_Note)) (vx3_1 : List UInt8) {r} (hF : command_Office_Put_x3 qx vx3_1 = some r) : Awp prog 2 103 (cL (cR (cR (cR (cR (cR (cR (cR (cB f36))))))))) (Out 2 command_Office_Put_x3_k (command_Office_Put_x3_S qx qx1 qm qx2 vm4 vx3_1) r) (command_Office_Put_x3_I qx qx1 qm qx2 vm4 vx3_1) := by
  unfold command_Office_Put_x3 at hF
  refine awp_seq ?_
  refine awp_region ?_
  refine aR 2 ?_
  refine aE ?_
  refine cE hF (fun h19 hF => ?_) fun h19 hF => ?_
  · refine awp_true (by kernel_rfl) h19 ?_
    refine awp_region ?_
    refine aR 3 ?_
    refine aE ?_
    exact oO hF [] [] rfl
  · refine awp_false (by kernel_rfl) h19 ?_
    refine awp_skip ?_
    exact oO hF [] [] rfl

def command_Office_Put_x4_k : (List (List UInt8 × api_Note)) → AEx
  | _ => .normal

def command_Office_Put_x4_S (qx : Int) (qx1 : Int) (qm : List (List UInt8 × api_Note)) (qx2 : api_Letter) (vm4 : List (List UInt8 × api_Note)) (vx3_1 : List UInt8) : (List (List UInt8 × api_Note)) → St
  | vm => Mem.st ⟨[], [(0, [.d (.int .i64 qx), .d (.int .i64 qx), .d (.int .i64 qx), .d (.int .i64 qx1), .mapp 1, .d (.int .i64 qx1)]), (1, [.mapc .str true (List.map (encM D.str api_Note.enc) qm)]), (2, [.d (.str qx2.Id), .d (.str qx2.Slot), .d (.str qx2.Body), .d (.int .i64 qx2.Prio), .d (.int .i64 qx2.At), .d (.int .i64 qx2.Until)]), (3, [.mapc .str true (List.map (encM D.str api_Note.enc) vm)])]⟩ (tl [(0, .v (.one (.box 0 0))), (3, .v (.one (.box 2 0))), (6, .v (.one (.mapp 3)))]) 4

def command_Office_Put_x4_I (qx : Int) (qx1 : Int) (qm : List (List UInt8 × api_Note)) (qx2 : api_Letter) (vm4 : List (List UInt8 × api_Note)) (vx3_1 : List UInt8) : St := Mem.st ⟨[], [(0, [.d (.int .i64 qx), .d (.int .i64 qx), .d (.int .i64 qx), .d (.int .i64 qx1), .mapp 1, .d (.int .i64 qx1)]), (1, [.mapc .str true (List.map (encM D.str api_Note.enc) qm)]), (2, [.d (.str qx2.Id), .d (.str qx2.Slot), .d (.str qx2.Body), .d (.int .i64 qx2.Prio), .d (.int .i64 qx2.At), .d (.int .i64 qx2.Until)]), (3, [.mapc .str true (List.map (encM D.str api_Note.enc) vm4)])]⟩ (tl [(0, .v (.one (.box 0 0))), (3, .v (.one (.box 2 0))), (6, .v (.one (.mapp 3))), (9, .v (.one (.d (.str vx3_1))))]) 4

theorem command_Office_Put_x4_ok (qx : Int) (qx1 : Int) (qm : List (List UInt8 × api_Note)) (qx2 : api_Letter) (vm4 : List (List UInt8 × api_Note)) (vx3_1 : List UInt8) {r} (hF : command_Office_Put_x4 qx2 vm4 vx3_1 = some r) : Awp prog 2 103 (cL (cR (cR (cR (cR (cR (cR (cR (cR (cR (cB f36))))))))))) (Out 2 command_Office_Put_x4_k (command_Office_Put_x4_S qx qx1 qm qx2 vm4 vx3_1) r) (command_Office_Put_x4_I qx qx1 qm qx2 vm4 vx3_1) := by
  unfold command_Office_Put_x4 at hF
  refine awp_seq ?_
  refine awp_region ?_
  refine aR 2 ?_
  refine aE ?_
  refine cE hF (fun h23 hF => ?_) fun h23 hF => ?_
  · refine awp_true (by kernel_rfl) h23 ?_
    refine awp_seq ?_
    refine bE hF fun ve3 h24 hF => ?_
    refine awp_region ?_
    refine aR 2 ?_
    refine aX (x_get 3 true D.str api_Note.enc h24) ?_
    refine aR 2 ?_
    refine aE ?_
    refine awp_seq ?_
    refine aD ?_
    refine dR 6 ?_
    refine dE ?_
    refine awp_region ?_
    refine aR 3 ?_
    refine aPut 3 .str true (l := vm4) (key := vx3_1) (v := (api_Note.mk (api_Letter.mk ve3.Letter.Id ve3.Letter.Slot ve3.Letter.Body ve3.Letter.Prio ve3.Letter.At ve3.Letter.Until) 6 ve3.Tries qx2.At)) D.str api_Note.enc rfl ?_
    refine aE ?_
    exact oO hF [] [] rfl
  · refine awp_false (by kernel_rfl) h23 ?_
    refine awp_skip ?_
    exact oO hF [] [] rfl

def command_Office_Put_R (qx : Int) (qx1 : Int) (qm : List (List UInt8 × api_Note)) (qx2 : api_Letter) : Int ⊕ (List (List UInt8 × api_Note)) → TV × Mem
  | .inl vr4 => (.v (.one (.d (.int .i64 vr4))), ⟨[], [(0, [.d (.int .i64 qx), .d (.int .i64 qx), .d (.int .i64 qx), .d (.int .i64 qx1), .mapp 1, .d (.int .i64 qx1)]), (1, [.mapc .str true (List.map (encM D.str api_Note.enc) qm)])]⟩)
  | .inr vm2 => (.v (.one (.d (.int .i64 0))), ⟨[], [(0, [.d (.int .i64 qx), .d (.int .i64 qx), .d (.int .i64 qx), .d (.int .i64 qx1), .mapp 2, .d (.int .i64 qx2.At)]), (1, [.mapc .str true (List.map (encM D.str api_Note.enc) qm)]), (2, [.mapc .str true (List.map (encM D.str api_Note.enc) vm2)])]⟩)

theorem command_Office_Put_ok {qx : Int} {qx1 : Int} {qm : List (List UInt8 × api_Note)} {qx2 : api_Letter} {r} (hF : command_Office_Put qx qx1 qm qx2 = some r) : Holds prog 36 [.v (.one (.box 0 0)), .v (.agg [.d (.str qx2.Id), .d (.str qx2.Slot), .d (.str qx2.Body), .d (.int .i64 qx2.Prio), .d (.int .i64 qx2.At), .d (.int .i64 qx2.Until)])] ⟨[], [(0, [.d (.int .i64 qx), .d (.int .i64 qx), .d (.int .i64 qx), .d (.int .i64 qx1), .mapp 1, .d (.int .i64 qx1)]), (1, [.mapc .str true (List.map (encM D.str api_Note.enc) qm)])]⟩ (Is (command_Office_Put_R qx qx1 qm qx2 r)) := by
  unfold command_Office_Put at hF
  refine holds_of_awp hΓ (fn := f36) (c := cB f36) (A := 2) (nx := 2) (by kernel_rfl) (by kernel_rfl) (by kernel_rfl) (by kernel_rfl) (by kernel_rfl) (by kernel_rfl) (lowc_of (by kernel_rfl)) ?_
  show Awp prog 2 103 (cB f36) _ _
  refine awp_seq ?_
  refine awp_region ?_
  refine aR 2 ?_
  refine aE ?_
  refine awp_seq ?_
  refine awp_seq ?_
  refine bE hF fun vr3 h1 hF => ?_
  refine bE hF fun vr h2 hF => ?_
  refine bE hF fun vr1 h3 hF => ?_
  refine aD ?_
  refine dR 1 ?_
  refine dC (command_CheckLetter_ok h1) [] [] [] ?_
  refine dR 3 ?_
  refine dC (command_Office_timeFault_ok h2) [] [] [] ?_
  refine dR 1 ?_
  refine dC (base_First_ok h3) [] [] [8002] ?_
  refine dR 1 ?_
  refine dE ?_
  refine awp_seq ?_
  refine awp_region ?_
  refine aR 2 ?_
  refine aE ?_
  refine cE hF (fun h4 hF => ?_) fun h4 hF => ?_
  · refine awp_true (by kernel_rfl) h4 ?_
    refine awp_seq ?_
    refine awp_region ?_
    refine aR 2 ?_
    refine aE ?_
    refine awp_ret ?_
    exact oF hF [] []
  · refine awp_false (by kernel_rfl) h4 ?_
    refine awp_skip ?_
    refine awp_seq ?_
    refine bE hF fun vm4 h5 hF => ?_
    refine awp_region ?_
    refine aR 3 ?_
    refine aC (command_Office_aged_ok h5) [] [] [] ?_
    refine aR 1 ?_
    refine aE ?_
    refine awp_seq ?_
    refine awp_seq ?_
    refine bE hF fun ve h6 hF => ?_
    refine bE hF fun vis h7 hF => ?_
    refine awp_region ?_
    refine aR 3 ?_
    refine aX (x_getO 16004 true D.str api_Note.enc h6 h7) ?_
    refine aR 6 ?_
    refine aE ?_
    refine awp_seq ?_
    refine awp_region ?_
    refine aR 1 ?_
    refine aE ?_
    refine cE hF (fun h8 hF => ?_) fun h8 hF => ?_
    · refine awp_true (by kernel_rfl) h8 ?_
      refine awp_seq ?_
      refine awp_region ?_
      refine aR 1 ?_
      refine aE ?_
      refine awp_ret ?_
      exact oF hF [] []
    · refine awp_false (by kernel_rfl) h8 ?_
      refine awp_skip ?_
      refine awp_seq ?_
      refine awp_region ?_
      refine aR 1 ?_
      refine aE ?_
      refine awp_seq ?_
      refine awp_seq ?_
      refine awp_region ?_
      refine aR 1 ?_
      refine aRange (ka := .str) (va := true) 16004 (encM D.str api_Note.enc) vm4 rfl (fun vme vcl vhp => ?_)
      refine aE ?_
      refine awp_block ?_
      refine awp_to (st' := command_Office_Put_x1_H qx qx1 qm qx2 vm4 vme vcl vhp vm4 ([] : List UInt8)) (oT [(3, 31002), (4, 16004)] []) ?_
      refine rG (H := command_Office_Put_x1_H qx qx1 qm qx2 vm4 vme vcl vhp) (k := command_Office_Put_x1_k) (S := command_Office_Put_x1_S qx qx1 qm qx2 vm4 vme vcl vhp) hF (by intro x; exact fun h => nomatch h) (fun l s => command_Office_Put_x1_ok qx qx1 qm qx2 vm4 vme vcl vhp l s) (fun vx3_1 hF => ?_)
      refine awp_seq ?_
      refine awp_region ?_
      refine aR 6 ?_
      refine aE ?_
      refine awp_seq ?_
      refine awp_to (st' := command_Office_Put_x3_I qx qx1 qm qx2 vm4 vx3_1) (oT [] []) ?_
      refine bE hF fun vx4_1 h20 hF => ?_
      refine awp_sub (command_Office_Put_x3_ok qx qx1 qm qx2 vm4 vx3_1 h20) ?_
      refine awp_seq ?_
      refine awp_seq ?_
      refine bE hF fun vr2 h21 hF => ?_
      refine awp_region ?_
      refine aR 1 ?_
      refine aC (command_pending_ok h21) [(0, 3)] [] [] ?_
      refine aR 2 ?_
      refine aE ?_
      refine cE hF (fun h22 hF => ?_) fun h22 hF => ?_
      · refine awp_true (by kernel_rfl) h22 ?_
        refine awp_seq ?_
        refine awp_region ?_
        refine aR 1 ?_
        refine aE ?_
        refine awp_ret ?_
        exact oF hF [] []
      · refine awp_false (by kernel_rfl) h22 ?_
        refine awp_skip ?_
        refine awp_seq ?_
        refine awp_to (st' := command_Office_Put_x4_I qx qx1 qm qx2 vm4 vx3_1) (oT [] []) ?_
        refine bE hF fun vm1 h25 hF => ?_
        refine awp_sub (command_Office_Put_x4_ok qx qx1 qm qx2 vm4 vx3_1 h25) ?_
        refine awp_seq ?_
        refine awp_region ?_
        refine aR 7 ?_
        refine aPut 3 .str true (l := vm1) (key := qx2.Id) (v := (api_Note.mk qx2 1 0 qx2.At)) D.str api_Note.enc rfl ?_
        refine aE ?_
        refine awp_seq ?_
        refine bE hF fun _ h26 hF => ?_
        refine awp_region ?_
        refine aR 4 ?_
        refine aC (command_Office_keep_ok h26) [(2, 3)] [] [] ?_
        refine aE ?_
        refine awp_seq ?_
        refine awp_region ?_
        refine aR 1 ?_
        refine aE ?_
        refine awp_ret ?_
        exact oF hF [(2, 3)] []

/-! ### (*beaconfleet/command.Office).timeFault -/
def command_Office_timeFault_2_R (qo : Int) (qo1 : Int) (qm : List (List UInt8 × api_Note)) (r : Int) : TV × Mem := (.v (.one (.d (.int .i64 r))), ⟨[], [(0, [.d (.int .i64 qo), .d (.int .i64 qo), .d (.int .i64 qo), .d (.int .i64 qo1), .mapp 1, .d (.int .i64 qo1)]), (1, [.mapc .str true (List.map (encM D.str api_Note.enc) qm)])]⟩)

theorem command_Office_timeFault_2_ok {qo : Int} {qo1 : Int} {qm : List (List UInt8 × api_Note)} {r} (hF : command_Office_timeFault_2 qo qo1 qm = some r) : Holds prog 51 [.v (.one (.box 0 0)), .v (.one (.d (.int .i64 qo1)))] ⟨[], [(0, [.d (.int .i64 qo), .d (.int .i64 qo), .d (.int .i64 qo), .d (.int .i64 qo1), .mapp 1, .d (.int .i64 qo1)]), (1, [.mapc .str true (List.map (encM D.str api_Note.enc) qm)])]⟩ (Is (command_Office_timeFault_2_R qo qo1 qm r)) := by
  unfold command_Office_timeFault_2 at hF
  refine holds_of_awp hΓ (fn := f51) (c := cB f51) (A := 2) (nx := 2) (by kernel_rfl) (by kernel_rfl) (by kernel_rfl) (by kernel_rfl) (by kernel_rfl) (by kernel_rfl) (lowc_of (by kernel_rfl)) ?_
  show Awp prog 2 16 (cB f51) _ _
  refine awp_seq ?_
  refine awp_region ?_
  refine aR 1 ?_
  refine aE ?_
  refine awp_seq ?_
  refine awp_block ?_
  refine awp_seq ?_
  refine bE hF fun vr1 h1 hF => ?_
  refine awp_region ?_
  refine aR 1 ?_
  refine aC (base_Moment_ok h1) [] [] [] ?_
  refine aR 2 ?_
  refine aE ?_
  refine cE hF (fun h2 hF => ?_) fun h2 hF => ?_
  · refine awp_true (by kernel_rfl) h2 ?_
    refine awp_seq ?_
    refine awp_region ?_
    refine aR 1 ?_
    refine aE ?_
    refine awp_ret ?_
    exact oF hF [] []
  · refine awp_false (by kernel_rfl) h2 ?_
    refine awp_seq ?_
    refine awp_region ?_
    refine aR 7 ?_
    refine aE ?_
    refine cE hF (fun h3 hF => ?_) fun h3 hF => ?_
    · refine awp_true (by kernel_rfl) h3 ?_
      refine awp_seq ?_
      refine awp_region ?_
      refine aR 1 ?_
      refine aE ?_
      refine awp_ret ?_
      exact oF hF [] []
    · refine awp_false (by kernel_rfl) h3 ?_
      refine awp_skip ?_
      refine awp_seq ?_
      refine awp_region ?_
      refine aR 1 ?_
      refine aE ?_
      refine awp_ret ?_
      exact oF hF [] []

/-! ### (*beaconfleet/command.Office).grown -/
def command_Office_grown_2_x1_k : api_Note → AEx
  | _ => .exit 0

def command_Office_grown_2_x1_S (qo : Int) (qo1 : Int) (qme0 : List (Nat × List D × List D)) (qcl0 : Nat) : api_Note → St
  | vn1 => Mem.st ⟨[], [(0, [.d (.int .i64 qo), .d (.int .i64 qo), .d (.int .i64 qo), .d (.int .i64 qo1), .mapp 1, .d (.int .i64 qo1)]), (1, [.mapg .str true qme0 qcl0]), (2, [.d (.str vn1.Letter.Id), .d (.str vn1.Letter.Slot), .d (.str vn1.Letter.Body), .d (.int .i64 vn1.Letter.Prio), .d (.int .i64 vn1.Letter.At), .d (.int .i64 vn1.Letter.Until), .d (.int .i64 vn1.State), .d (.int .i64 vn1.Tries), .d (.int .i64 vn1.Since)]), (3, [.d (.str ([] : List UInt8)), .d (.str ([] : List UInt8)), .d (.str ([] : List UInt8)), .d (.int .i64 0), .d (.int .i64 0), .d (.int .i64 0), .d (.int .i64 0), .d (.int .i64 0), .d (.int .i64 0)])]⟩ (tl [(4, .v (.one (.box 2 0))), (6, .v (.one (.box 3 0)))]) 4

def command_Office_grown_2_x1_H (qo : Int) (qo1 : Int) (qme0 : List (Nat × List D × List D)) (qcl0 : Nat) : api_Note → St
  | vn => Mem.st ⟨[], [(0, [.d (.int .i64 qo), .d (.int .i64 qo), .d (.int .i64 qo), .d (.int .i64 qo1), .mapp 1, .d (.int .i64 qo1)]), (1, [.mapg .str true qme0 qcl0]), (2, [.d (.str vn.Letter.Id), .d (.str vn.Letter.Slot), .d (.str vn.Letter.Body), .d (.int .i64 vn.Letter.Prio), .d (.int .i64 vn.Letter.At), .d (.int .i64 vn.Letter.Until), .d (.int .i64 vn.State), .d (.int .i64 vn.Tries), .d (.int .i64 vn.Since)]), (3, [.d (.str ([] : List UInt8)), .d (.str ([] : List UInt8)), .d (.str ([] : List UInt8)), .d (.int .i64 0), .d (.int .i64 0), .d (.int .i64 0), .d (.int .i64 0), .d (.int .i64 0), .d (.int .i64 0)])]⟩ (tl [(0, .v (.one (.box 0 0))), (2, .v (.one (.d (.int .i64 qo1)))), (4, .v (.one (.box 2 0))), (6, .v (.one (.box 3 0)))]) 4

theorem command_Office_grown_2_x1_ok (qo : Int) (qo1 : Int) (qme0 : List (Nat × List D × List D)) (qcl0 : Nat) (vn : api_Note) (r : (api_Note) ⊕ (api_Note)) (hF : command_Office_grown_2_x1 qo qo1 vn = some r) : Awp prog 2 39 (cL (cL (cL (cR (cB f72))))) (Out 2 (kk command_Office_grown_2_x1_k) (SS (command_Office_grown_2_x1_H qo qo1 qme0 qcl0) (command_Office_grown_2_x1_S qo qo1 qme0 qcl0)) r) (command_Office_grown_2_x1_H qo qo1 qme0 qcl0 vn) := by
  unfold command_Office_grown_2_x1 at hF
  refine awp_seq ?_
  refine awp_seq ?_
  refine bE hF fun _ h1 hF => ?_
  refine awp_region ?_
  refine aR 2 ?_
  refine aC (command_ended_ok h1) [] [] [] ?_
  refine aR 1 ?_
  refine aE ?_
  refine cE hF (fun h2 hF => ?_) fun h2 hF => ?_
  · refine awp_true (by kernel_rfl) h2 ?_
    refine awp_skip ?_
    refine awp_block ?_
    refine awp_seq ?_
    refine bE hF fun vr1 h3 hF => ?_
    refine awp_region ?_
    refine aR 2 ?_
    refine aC (command_Office_turn_ok (qme0 := qme0) (qcl0 := qcl0) h3) [] [] [] ?_
    refine aR 1 ?_
    refine aE ?_
    refine awp_seq ?_
    refine awp_seq ?_
    refine awp_region ?_
    refine aR 3 ?_
    refine aE ?_
    refine cE hF (fun h4 hF => ?_) fun h4 hF => ?_
    · refine awp_true (by kernel_rfl) h4 ?_
      refine awp_exit ?_
      exact oO hF [] [] rfl
    · refine awp_false (by kernel_rfl) h4 ?_
      refine awp_skip ?_
      refine awp_seq ?_
      refine awp_region ?_
      refine aR 3 ?_
      refine aE ?_
      refine awp_block ?_
      refine awp_seq ?_
      refine awp_region ?_
      refine aR 6 ?_
      refine aE ?_
      refine cE hF (fun h5 hF => ?_) fun h5 hF => ?_
      · refine awp_true (by kernel_rfl) h5 ?_
        refine awp_region ?_
        refine aR 2 ?_
        refine aE ?_
        exact oO hF [] [] rfl
      · refine awp_false (by kernel_rfl) h5 ?_
        refine awp_seq ?_
        refine aD ?_
        refine dR 9 ?_
        refine dE ?_
        refine cE hF (fun h6 hF => ?_) fun h6 hF => ?_
        · refine awp_true (by kernel_rfl) h6 ?_
          refine awp_region ?_
          refine aR 2 ?_
          refine aE ?_
          exact oO hF [] [] rfl
        · refine awp_false (by kernel_rfl) h6 ?_
          refine awp_region ?_
          refine aR 2 ?_
          refine aE ?_
          exact oO hF [] [] rfl
  · refine awp_false (by kernel_rfl) h2 ?_
    refine awp_exit ?_
    exact oO hF [] [] rfl

def command_Office_grown_2_R (qo : Int) (qo1 : Int) (qn : api_Note) (qme0 : List (Nat × List D × List D)) (qcl0 : Nat) (r : api_Note) : TV × Mem := (.v (.agg [.d (.str r.Letter.Id), .d (.str r.Letter.Slot), .d (.str r.Letter.Body), .d (.int .i64 r.Letter.Prio), .d (.int .i64 r.Letter.At), .d (.int .i64 r.Letter.Until), .d (.int .i64 r.State), .d (.int .i64 r.Tries), .d (.int .i64 r.Since)]), ⟨[], [(0, [.d (.int .i64 qo), .d (.int .i64 qo), .d (.int .i64 qo), .d (.int .i64 qo1), .mapp 1, .d (.int .i64 qo1)]), (1, [.mapg .str true qme0 qcl0])]⟩)

theorem command_Office_grown_2_ok {qo : Int} {qo1 : Int} {qn : api_Note} {qme0 : List (Nat × List D × List D)} {qcl0 : Nat} {r} (hF : command_Office_grown_2 qo qo1 qn = some r) : Holds prog 72 [.v (.one (.box 0 0)), .v (.agg [.d (.str qn.Letter.Id), .d (.str qn.Letter.Slot), .d (.str qn.Letter.Body), .d (.int .i64 qn.Letter.Prio), .d (.int .i64 qn.Letter.At), .d (.int .i64 qn.Letter.Until), .d (.int .i64 qn.State), .d (.int .i64 qn.Tries), .d (.int .i64 qn.Since)]), .v (.one (.d (.int .i64 qo1)))] ⟨[], [(0, [.d (.int .i64 qo), .d (.int .i64 qo), .d (.int .i64 qo), .d (.int .i64 qo1), .mapp 1, .d (.int .i64 qo1)]), (1, [.mapg .str true qme0 qcl0])]⟩ (Is (command_Office_grown_2_R qo qo1 qn qme0 qcl0 r)) := by
  unfold command_Office_grown_2 at hF
  refine holds_of_awp hΓ (fn := f72) (c := cB f72) (A := 2) (nx := 2) (by kernel_rfl) (by kernel_rfl) (by kernel_rfl) (by kernel_rfl) (by kernel_rfl) (by kernel_rfl) (lowc_of (by kernel_rfl)) ?_
  show Awp prog 2 39 (cB f72) _ _
  refine awp_seq ?_
  refine awp_region ?_
  refine aR 2 ?_
  refine aE ?_
  refine awp_seq ?_
  refine awp_block ?_
  refine awp_to (st' := command_Office_grown_2_x1_H qo qo1 qme0 qcl0 (api_Note.mk (api_Letter.mk qn.Letter.Id qn.Letter.Slot qn.Letter.Body qn.Letter.Prio qn.Letter.At qn.Letter.Until) qn.State qn.Tries qn.Since)) (oT [(3, 1002)] []) ?_
  refine bE hF fun vn1_1 h7 hF => ?_
  refine awp_sub (awp_loop' (command_Office_grown_2_x1_H qo qo1 qme0 qcl0) command_Office_grown_2_x1_k (command_Office_grown_2_x1_S qo qo1 qme0 qcl0) (by intro x; exact fun h => nomatch h) h7 (command_Office_grown_2_x1_ok qo qo1 qme0 qcl0)) ?_
  refine awp_seq ?_
  refine awp_region ?_
  refine aR 2 ?_
  refine aE ?_
  refine awp_ret ?_
  exact oF hF [] []

/-! ### (*beaconfleet/command.Office).aged -/
def command_Office_aged_2_x1_k : ((List (List UInt8 × api_Note)) × (List api_Note)) → AEx
  | _ => .exit 0

def command_Office_aged_2_x1_S (qo : Int) (qo1 : Int) (qm : List (List UInt8 × api_Note)) (vme : List (Nat × List D × List D)) (vcl : Nat) (vhp : (List.map (encM D.str api_Note.enc) qm).Perm (List.map (·.2) vme)) : ((List (List UInt8 × api_Note)) × (List api_Note)) → St
  | (vm1, vover1) => Mem.st ⟨[(3, ⟨33, 9, List.map api_Note.enc vover1⟩)], [(0, [.d (.int .i64 qo), .d (.int .i64 qo), .d (.int .i64 qo), .d (.int .i64 qo1), .mapp 1, .d (.int .i64 qo1)]), (1, [.mapc .str true (List.map (encM D.str api_Note.enc) qm)]), (2, [.mapc .str true (List.map (encM D.str api_Note.enc) vm1)])]⟩ (tl [(0, .v (.one (.box 0 0))), (5, .v (.one (.mapp 2))), (6, .v (.one (.own 3 none)))]) 4

def command_Office_aged_2_x1_H (qo : Int) (qo1 : Int) (qm : List (List UInt8 × api_Note)) (vme : List (Nat × List D × List D)) (vcl : Nat) (vhp : (List.map (encM D.str api_Note.enc) qm).Perm (List.map (·.2) vme)) (vl : List (List UInt8 × api_Note)) : (List (List UInt8 × api_Note)) × (List api_Note) → St
  | (vm, vover) => Mem.st ⟨[(4, ⟨33, 9, List.map api_Note.enc vover⟩)], [(0, [.d (.int .i64 qo), .d (.int .i64 qo), .d (.int .i64 qo), .d (.int .i64 qo1), .mapp 1, .d (.int .i64 qo1)]), (1, [.mapg .str true vme vcl]), (2, [.iterc 1 vme vcl (List.map (encM D.str api_Note.enc) vl) none]), (3, [.mapc .str true (List.map (encM D.str api_Note.enc) vm)])]⟩ (tl [(0, .v (.one (.box 0 0))), (1, .v (.one (.d (.int .i64 qo1)))), (5, .v (.one (.mapp 3))), (6, .v (.one (.own 4 none))), (16, .v (.one (.box 2 0)))]) 5

theorem command_Office_aged_2_x1_ok (qo : Int) (qo1 : Int) (qm : List (List UInt8 × api_Note)) (vme : List (Nat × List D × List D)) (vcl : Nat) (vhp : (List.map (encM D.str api_Note.enc) qm).Perm (List.map (·.2) vme)) (vl : List (List UInt8 × api_Note)) (s : (List (List UInt8 × api_Note)) × (List api_Note)) (hE : vl = [] → ∃ x, command_Office_aged_2_x1 qo qo1 none s = some x) (hP : ∀ e l', List.Perm vl (e :: l') → ∃ x, command_Office_aged_2_x1 qo qo1 (some e) s = some x) : Awp prog 2 60 (cL (cL (cR (cL (cR (cR (cR (cB f52)))))))) (OutR 2 command_Office_aged_2_x1_k (command_Office_aged_2_x1 qo qo1) (command_Office_aged_2_x1_H qo qo1 qm vme vcl vhp) (command_Office_aged_2_x1_S qo qo1 qm vme vcl vhp) vl s) (command_Office_aged_2_x1_H qo qo1 qm vme vcl vhp vl s) := by
  obtain ⟨vm, vover⟩ := s
  refine awp_seq ?_
  refine awp_region ?_
  refine aNext (ka := .str) (va := true) (me := vme) (cl := vcl) (cur := none) 2 1 (encM D.str api_Note.enc) vl rfl (fun h3 => ?_) (fun ve1 vl2 vb1 h4 => ?_)
  · obtain ⟨x, hF0⟩ := hE h3
    have hF := hF0
    unfold command_Office_aged_2_x1 at hF
    refine aR 1 ?_
    refine aE ?_
    refine awp_seq ?_
    refine awp_false (by kernel_rfl) rfl ?_
    refine awp_close (ka := .str) (va := true) (me := vme) (cl := vcl) 1 vhp ?_
    refine awp_exit ?_
    exact outE h3 hF0 (oO hF [(2, 3), (3, 4)] [] rfl)
  · obtain ⟨x, hF0⟩ := hP _ _ h4
    have hF := hF0
    unfold command_Office_aged_2_x1 at hF
    refine aR 1 ?_
    refine aE ?_
    refine awp_seq ?_
    refine awp_true (by kernel_rfl) rfl ?_
    refine awp_skip ?_
    refine awp_block ?_
    refine awp_seq ?_
    refine awp_region ?_
    refine aEntry (ka := .str) (va := true) (me := vme) (cl := vcl) (b := vb1) (rest := List.map (encM D.str api_Note.enc) vl2) 2 1 (encM D.str api_Note.enc) ve1 rfl ?_
    refine aR 5 ?_
    refine aE ?_
    refine awp_seq ?_
    refine bE hF fun vr2_1 h5 hF => ?_
    refine awp_region ?_
    refine aR 3 ?_
    refine aC (command_Office_grown_2_ok (qme0 := vme) (qcl0 := vcl) h5) [] [] [] ?_
    refine aR 1 ?_
    refine aE ?_
    refine awp_seq ?_
    refine awp_region ?_
    refine aR 3 ?_
    refine aPut 3 .str true (l := vm) (key := ve1.1) (v := (api_Note.mk (api_Letter.mk vr2_1.Letter.Id vr2_1.Letter.Slot vr2_1.Letter.Body vr2_1.Letter.Prio vr2_1.Letter.At vr2_1.Letter.Until) vr2_1.State vr2_1.Tries vr2_1.Since)) D.str api_Note.enc rfl ?_
    refine aE ?_
    refine awp_seq ?_
    refine bE hF fun _ h6 hF => ?_
    refine awp_region ?_
    refine aR 2 ?_
    refine aC (command_ended_ok h6) [] [] [] ?_
    refine aE ?_
    refine cE hF (fun h7 hF => ?_) fun h7 hF => ?_
    · refine awp_true (by kernel_rfl) h7 ?_
      refine gE hF fun h8 hF => ?_
      refine awp_region ?_
      refine aR 3 ?_
      refine aX (x_app api_Note.enc 4 h8) ?_
      refine aR 1 ?_
      refine aE ?_
      exact outP h4 hF0 (outCur (idM := 1) (me := vme) (cl := vcl) (rest := List.map (encM D.str api_Note.enc) vl2) (cur := some (vb1, (encM D.str api_Note.enc) ve1)) 2 <| oO hF [(4, 23005)] [] rfl)
    · refine awp_false (by kernel_rfl) h7 ?_
      refine awp_skip ?_
      exact outP h4 hF0 (outCur (idM := 1) (me := vme) (cl := vcl) (rest := List.map (encM D.str api_Note.enc) vl2) (cur := some (vb1, (encM D.str api_Note.enc) ve1)) 2 <| oO hF [] [] rfl)

def command_Office_aged_2_x2_k : (List (List UInt8 × api_Note)) → AEx
  | _ => .exit 2

def command_Office_aged_2_x2_S (qo : Int) (qo1 : Int) (qm : List (List UInt8 × api_Note)) (vl3 : List api_Note) : (List (List UInt8 × api_Note)) → St
  | vm3 => Mem.st ⟨[], [(0, [.d (.int .i64 qo), .d (.int .i64 qo), .d (.int .i64 qo), .d (.int .i64 qo1), .mapp 1, .d (.int .i64 qo1)]), (1, [.mapc .str true (List.map (encM D.str api_Note.enc) qm)]), (2, [.mapc .str true (List.map (encM D.str api_Note.enc) vm3)])]⟩ (tl [(5, .v (.one (.mapp 2)))]) 3

def command_Office_aged_2_x2_H (qo : Int) (qo1 : Int) (qm : List (List UInt8 × api_Note)) (vl3 : List api_Note) : (List (List UInt8 × api_Note)) × Int → St
  | (vm2, vx) => Mem.st ⟨[], [(0, [.d (.int .i64 qo), .d (.int .i64 qo), .d (.int .i64 qo), .d (.int .i64 qo1), .mapp 1, .d (.int .i64 qo1)]), (1, [.mapc .str true (List.map (encM D.str api_Note.enc) qm)]), (2, [.mapc .str true (List.map (encM D.str api_Note.enc) vm2)])]⟩ (tl [(5, .v (.one (.mapp 2))), (48, .v (.one (.d (.lst (List.map api_Note.enc (vl3.take (imax 0 (IntKind.wrap .i64 ((vl3.length : Int) - qo1))).toNat)))))), (49, .v (.one (.d (.int .i64 ((vl3.take (imax 0 (IntKind.wrap .i64 ((vl3.length : Int) - qo1))).toNat).length : Int))))), (50, .v (.one (.d (.int .i64 vx))))]) 3

theorem command_Office_aged_2_x2_ok (qo : Int) (qo1 : Int) (qm : List (List UInt8 × api_Note)) (vl3 : List api_Note) (s : (List (List UInt8 × api_Note)) × Int) (r : ((List (List UInt8 × api_Note)) × Int) ⊕ ((List (List UInt8 × api_Note)))) (hF : command_Office_aged_2_x2 qo1 vl3 s = some r) : Awp prog 2 60 (cL (cL (cR (cL (cR (cR (cR (cR (cR (cB f52)))))))))) (Out 2 (kk command_Office_aged_2_x2_k) (SS (command_Office_aged_2_x2_H qo qo1 qm vl3) (command_Office_aged_2_x2_S qo qo1 qm vl3)) r) (command_Office_aged_2_x2_H qo qo1 qm vl3 s) := by
  obtain ⟨vm2, vx⟩ := s
  unfold command_Office_aged_2_x2 at hF
  refine awp_seq ?_
  refine awp_region ?_
  refine aR 1 ?_
  refine aE ?_
  refine awp_seq ?_
  refine cE hF (fun h13 hF => ?_) fun h13 hF => ?_
  · refine awp_true (by kernel_rfl) h13 ?_
    refine awp_skip ?_
    refine awp_seq ?_
    refine awp_block ?_
    refine awp_seq ?_
    refine bE hF fun vy1 h14 hF => ?_
    refine awp_region ?_
    refine aX (x_idx api_Note.enc h14) ?_
    refine aR 3 ?_
    refine aE ?_
    refine awp_region ?_
    refine aR 4 ?_
    refine aDel 2 .str true (l := vm2) (key := vy1.Letter.Id) D.str api_Note.enc rfl ?_
    refine aE ?_
    refine awp_region ?_
    refine aR 2 ?_
    refine aE ?_
    exact oO hF [] [] rfl
  · refine awp_false (by kernel_rfl) h13 ?_
    refine awp_exit ?_
    exact oO hF [] [] rfl

def command_Office_aged_2_R (qo : Int) (qo1 : Int) (qm : List (List UInt8 × api_Note)) (r : (List (List UInt8 × api_Note))) : TV × Mem := (.v (.one (.mapp 2)), ⟨[], [(0, [.d (.int .i64 qo), .d (.int .i64 qo), .d (.int .i64 qo), .d (.int .i64 qo1), .mapp 1, .d (.int .i64 qo1)]), (1, [.mapc .str true (List.map (encM D.str api_Note.enc) qm)]), (2, [.mapc .str true (List.map (encM D.str api_Note.enc) r)])]⟩)

theorem command_Office_aged_2_ok {qo : Int} {qo1 : Int} {qm : List (List UInt8 × api_Note)} {r} (hF : command_Office_aged_2 qo qo1 qm = some r) : Holds prog 52 [.v (.one (.box 0 0)), .v (.one (.d (.int .i64 qo1)))] ⟨[], [(0, [.d (.int .i64 qo), .d (.int .i64 qo), .d (.int .i64 qo), .d (.int .i64 qo1), .mapp 1, .d (.int .i64 qo1)]), (1, [.mapc .str true (List.map (encM D.str api_Note.enc) qm)])]⟩ (Is (command_Office_aged_2_R qo qo1 qm r)) := by
  unfold command_Office_aged_2 at hF
  refine holds_of_awp hΓ (fn := f52) (c := cB f52) (A := 2) (nx := 2) (by kernel_rfl) (by kernel_rfl) (by kernel_rfl) (by kernel_rfl) (by kernel_rfl) (by kernel_rfl) (lowc_of (by kernel_rfl)) ?_
  show Awp prog 2 60 (cB f52) _ _
  refine awp_seq ?_
  refine awp_region ?_
  refine aR 1 ?_
  refine aE ?_
  refine awp_seq ?_
  refine awp_region ?_
  refine aX (x_map .str true (κ := List UInt8) (β := api_Note) D.str api_Note.enc) ?_
  refine aR 1 ?_
  refine aE ?_
  refine awp_seq ?_
  refine awp_region ?_
  refine aR 1 ?_
  refine aE ?_
  refine awp_seq ?_
  refine awp_seq ?_
  refine awp_region ?_
  refine aR 4 ?_
  refine aRange (ka := .str) (va := true) 1 (encM D.str api_Note.enc) qm rfl (fun vme vcl vhp => ?_)
  refine aE ?_
  refine awp_block ?_
  refine awp_to (st' := command_Office_aged_2_x1_H qo qo1 qm vme vcl vhp qm (([] : List (List UInt8 × api_Note)), [])) (oT [(2, 8002), (3, 1002)] [4]) ?_
  refine rG (H := command_Office_aged_2_x1_H qo qo1 qm vme vcl vhp) (k := command_Office_aged_2_x1_k) (S := command_Office_aged_2_x1_S qo qo1 qm vme vcl vhp) hF (by intro x; exact fun h => nomatch h) (fun l s => command_Office_aged_2_x1_ok qo qo1 qm vme vcl vhp l s) (fun x hF => ?_)
  obtain ⟨vm1_1, vover1_1⟩ := x
  refine awp_seq ?_
  refine bE hF fun vl3 h10 hF => ?_
  refine gE hF fun h11 hF => ?_
  refine awp_region ?_
  refine aR 1 ?_
  refine aCp (slices_SortFunc_api_Note_api_Note_o0_f1_command_Office_aged_1_ok h10) ⟨⟨rfl, rfl, pin1 h11⟩, trivial⟩ [(0, 3)] [] [] ?_
  refine aE ?_
  refine awp_seq ?_
  refine awp_seq ?_
  refine gE hF fun h12 hF => ?_
  refine awp_region ?_
  refine aR 2 ?_
  refine aL api_Note.enc vl3 ?_
  refine aR 7 ?_
  refine aT api_Note.enc 3 h12 rfl ?_
  refine aL api_Note.enc (vl3.take (imax 0 (IntKind.wrap .i64 ((vl3.length : Int) - qo1))).toNat) ?_
  refine aR 1 ?_
  refine aE ?_
  refine awp_to (oT (m := ⟨[], [(0, [.d (.int .i64 qo), .d (.int .i64 qo), .d (.int .i64 qo), .d (.int .i64 qo1), .mapp 1, .d (.int .i64 qo1)]), (1, [.mapc .str true (List.map (encM D.str api_Note.enc) qm)]), (2, [.mapc .str true (List.map (encM D.str api_Note.enc) vm1_1)])]⟩) (ts := [(5, .v (.one (.mapp 2))), (48, .v (.one (.d (.lst (List.map api_Note.enc (vl3.take (imax 0 (IntKind.wrap .i64 ((vl3.length : Int) - qo1))).toNat)))))), (49, .v (.one (.d (.int .i64 ((vl3.take (imax 0 (IntKind.wrap .i64 ((vl3.length : Int) - qo1))).toNat).length : Int))))), (50, .v (.one (.d (.int .i64 0))))]) (nx := 3) [] []) ?_
  refine awp_block ?_
  refine awp_to (st' := command_Office_aged_2_x2_H qo qo1 qm vl3 (vm1_1, 0)) (oT [] []) ?_
  refine bE hF fun vm3_1 h15 hF => ?_
  refine awp_sub (awp_loop' (command_Office_aged_2_x2_H qo qo1 qm vl3) command_Office_aged_2_x2_k (command_Office_aged_2_x2_S qo qo1 qm vl3) (by intro x; exact fun h => nomatch h) h15 (command_Office_aged_2_x2_ok qo qo1 qm vl3)) ?_
  refine awp_seq ?_
  refine awp_region ?_
  refine aR 2 ?_
  refine aE ?_
  refine awp_ret ?_
  exact oF hF [] []

/-! ### (*beaconfleet/command.Office).keep -/
def command_Office_keep_2_R (qo : Int) (qo1 : Int) (qm : List (List UInt8 × api_Note)) (qm1 : List (List UInt8 × api_Note)) (r : Unit) : TV × Mem := (.tup [], ⟨[], [(0, [.d (.int .i64 qo), .d (.int .i64 qo), .d (.int .i64 qo), .d (.int .i64 qo1), .mapp 2, .d (.int .i64 qo1)]), (1, [.mapc .str true (List.map (encM D.str api_Note.enc) qm)]), (2, [.mapc .str true (List.map (encM D.str api_Note.enc) qm1)])]⟩)

theorem command_Office_keep_2_ok {qo : Int} {qo1 : Int} {qm : List (List UInt8 × api_Note)} {qm1 : List (List UInt8 × api_Note)} {r} (hF : command_Office_keep_2 qo qo1 qm qm1 = some r) : Holds prog 54 [.v (.one (.box 0 0)), .v (.one (.mapp 2)), .v (.one (.d (.int .i64 qo1)))] ⟨[], [(0, [.d (.int .i64 qo), .d (.int .i64 qo), .d (.int .i64 qo), .d (.int .i64 qo1), .mapp 1, .d (.int .i64 qo1)]), (1, [.mapc .str true (List.map (encM D.str api_Note.enc) qm)]), (2, [.mapc .str true (List.map (encM D.str api_Note.enc) qm1)])]⟩ (Is (command_Office_keep_2_R qo qo1 qm qm1 r)) := by
  unfold command_Office_keep_2 at hF
  refine holds_of_awp hΓ (fn := f54) (c := cB f54) (A := 3) (nx := 3) (by kernel_rfl) (by kernel_rfl) (by kernel_rfl) (by kernel_rfl) (by kernel_rfl) (by kernel_rfl) (lowc_of (by kernel_rfl)) ?_
  show Awp prog 3 14 (cB f54) _ _
  refine awp_region ?_
  refine aR 10 ?_
  refine aE ?_
  exact oF hF [] []

/-! ### (*beaconfleet/command.Office).Waiting -/
def command_Office_Waiting_R (qo : Int) (qo1 : Int) (qm : List (List UInt8 × api_Note)) : Int ⊕ ((List (List UInt8 × api_Note)) × Int) → TV × Mem
  | .inl vr2 => (.tup [.one (.d (.int .i64 0)), .one (.d (.int .i64 vr2))], ⟨[], [(0, [.d (.int .i64 qo), .d (.int .i64 qo), .d (.int .i64 qo), .d (.int .i64 qo1), .mapp 1, .d (.int .i64 qo1)]), (1, [.mapc .str true (List.map (encM D.str api_Note.enc) qm)])]⟩)
  | .inr (vm, vr3) => (.tup [.one (.d (.int .i64 vr3)), .one (.d (.int .i64 0))], ⟨[], [(0, [.d (.int .i64 qo), .d (.int .i64 qo), .d (.int .i64 qo), .d (.int .i64 qo1), .mapp 2, .d (.int .i64 qo1)]), (1, [.mapc .str true (List.map (encM D.str api_Note.enc) qm)]), (2, [.mapc .str true (List.map (encM D.str api_Note.enc) vm)])]⟩)

theorem command_Office_Waiting_ok {qo : Int} {qo1 : Int} {qm : List (List UInt8 × api_Note)} {r} (hF : command_Office_Waiting qo qo1 qm = some r) : Holds prog 37 [.v (.one (.box 0 0)), .v (.one (.d (.int .i64 qo1)))] ⟨[], [(0, [.d (.int .i64 qo), .d (.int .i64 qo), .d (.int .i64 qo), .d (.int .i64 qo1), .mapp 1, .d (.int .i64 qo1)]), (1, [.mapc .str true (List.map (encM D.str api_Note.enc) qm)])]⟩ (Is (command_Office_Waiting_R qo qo1 qm r)) := by
  unfold command_Office_Waiting at hF
  refine holds_of_awp hΓ (fn := f37) (c := cB f37) (A := 2) (nx := 2) (by kernel_rfl) (by kernel_rfl) (by kernel_rfl) (by kernel_rfl) (by kernel_rfl) (by kernel_rfl) (lowc_of (by kernel_rfl)) ?_
  show Awp prog 2 24 (cB f37) _ _
  refine awp_seq ?_
  refine awp_region ?_
  refine aR 2 ?_
  refine aE ?_
  refine awp_seq ?_
  refine awp_seq ?_
  refine bE hF fun vr h1 hF => ?_
  refine awp_region ?_
  refine aR 2 ?_
  refine aC (command_Office_timeFault_2_ok h1) [] [] [] ?_
  refine aR 1 ?_
  refine aE ?_
  refine awp_seq ?_
  refine awp_region ?_
  refine aR 2 ?_
  refine aE ?_
  refine cE hF (fun h2 hF => ?_) fun h2 hF => ?_
  · refine awp_true (by kernel_rfl) h2 ?_
    refine awp_seq ?_
    refine awp_region ?_
    refine aR 3 ?_
    refine aE ?_
    refine awp_ret ?_
    exact oF hF [] []
  · refine awp_false (by kernel_rfl) h2 ?_
    refine awp_skip ?_
    refine awp_seq ?_
    refine bE hF fun vm4 h3 hF => ?_
    refine bE hF fun _ h4 hF => ?_
    refine awp_region ?_
    refine aR 3 ?_
    refine aC (command_Office_aged_2_ok h3) [] [] [] ?_
    refine aR 1 ?_
    refine aC (command_Office_keep_2_ok h4) [(2, 11004)] [] [] ?_
    refine aE ?_
    refine awp_seq ?_
    refine bE hF fun vr1 h5 hF => ?_
    refine awp_region ?_
    refine aR 4 ?_
    refine aC (command_pending_ok h5) [(0, 11004)] [] [] ?_
    refine aR 2 ?_
    refine aE ?_
    refine awp_ret ?_
    exact oF hF [(2, 11004)] []

/-! ### beaconfleet/fleetlaw2.posted -/
def fleetlaw2_posted_x1_k : Unit → AEx
  | _ => .normal

def fleetlaw2_posted_x1_S (vr : Int) : Unit → St
  | _ => Mem.st ⟨[], []⟩ (tl [(1, .v (.one (.nilp))), (20, .v (.one (.d (.bool true))))]) 0

def fleetlaw2_posted_x1_I (vr : Int) : St := Mem.st ⟨[], []⟩ (tl [(1, .v (.one (.nilp))), (2, .v (.one (.d (.int .i64 vr))))]) 0

theorem fleetlaw2_posted_x1_ok (vr : Int) {r} (hF : fleetlaw2_posted_x1 vr = some r) : Awp prog 0 32 (cL (cL (cR (cR (cB f15))))) (Out 0 fleetlaw2_posted_x1_k (fleetlaw2_posted_x1_S vr) r) (fleetlaw2_posted_x1_I vr) := by
  unfold fleetlaw2_posted_x1 at hF
  refine cE hF (fun h2 hF => ?_) fun h2 hF => ?_
  · refine awp_region ?_
    refine aR 1 ?_
    refine aB h2 ?_
    refine aR 10 ?_
    refine aE ?_
    exact oO hF [] [] rfl
  · refine awp_region ?_
    refine aR 1 ?_
    refine aB h2 ?_
    refine aR 10 ?_
    refine aE ?_
    exact oO hF [] [] rfl

def fleetlaw2_posted_x2_k : ((List (List UInt8 × api_Note)) × Bool) → AEx
  | _ => .normal

def fleetlaw2_posted_x2_S : ((List (List UInt8 × api_Note)) × Bool) → St
  | (vm, vx) => Mem.st ⟨[], [(0, [.d (.int .i64 1), .d (.int .i64 1), .d (.int .i64 1), .d (.int .i64 0), .mapp 1, .d (.int .i64 0)]), (1, [.mapc .str true (List.map (encM D.str api_Note.enc) vm)])]⟩ (tl [(1, .v (.one (.box 0 0))), (20, .v (.one (.d (.bool vx))))]) 2

def fleetlaw2_posted_x2_I : St := Mem.st ⟨[], [(0, [.d (.int .i64 1), .d (.int .i64 1), .d (.int .i64 1), .d (.int .i64 0), .mapp 1, .d (.int .i64 0)]), (1, [.mapc .str true (List.map (encM D.str api_Note.enc) ([] : List (List UInt8 × api_Note)))])]⟩ (tl [(1, .v (.one (.box 0 0))), (2, .v (.one (.d (.int .i64 0))))]) 2

theorem fleetlaw2_posted_x2_ok {r} (hF : fleetlaw2_posted_x2  = some r) : Awp prog 0 32 (cL (cL (cR (cR (cB f15))))) (Out 0 fleetlaw2_posted_x2_k (fleetlaw2_posted_x2_S ) r) (fleetlaw2_posted_x2_I ) := by
  unfold fleetlaw2_posted_x2 at hF
  refine cE hF (fun h4 hF => ?_) fun h4 hF => ?_
  · refine awp_region ?_
    refine aR 1 ?_
    refine aB h4 ?_
    refine aR 10 ?_
    refine aE ?_
    exact oO hF [] [] rfl
  · refine bE hF fun x h5 hF => ?_
    rcases x with vr4 | vm2
    · refine awp_region ?_
      refine aR 1 ?_
      refine aB h4 ?_
      refine aR 7 ?_
      refine aC (command_Office_Put_ok h5) [] [] [] ?_
      refine aR 2 ?_
      refine aE ?_
      exact oO hF [] [] rfl
    · refine awp_region ?_
      refine aR 1 ?_
      refine aB h4 ?_
      refine aR 7 ?_
      refine aC (command_Office_Put_ok h5) [] [] [] ?_
      refine aB h4 ?_
      refine aR 1 ?_
      refine aE ?_
      exact oO hF [(1, 9004)] [] rfl

def fleetlaw2_posted_x3_k : (Int × Int) → AEx
  | _ => .normal

def fleetlaw2_posted_x3_S (vm1 : List (List UInt8 × api_Note)) : (Int × Int) → St
  | (ve, vn) => Mem.st ⟨[], []⟩ (tl [(2, .v (.one (.d (.int .i64 ve)))), (3, .v (.one (.d (.int .i64 vn))))]) 0

def fleetlaw2_posted_x3_I (vm1 : List (List UInt8 × api_Note)) : St := Mem.st ⟨[], [(0, [.d (.int .i64 1), .d (.int .i64 1), .d (.int .i64 1), .d (.int .i64 0), .mapp 1, .d (.int .i64 0)]), (1, [.mapc .str true (List.map (encM D.str api_Note.enc) vm1)])]⟩ (tl [(1, .v (.one (.box 0 0)))]) 2

theorem fleetlaw2_posted_x3_ok (vm1 : List (List UInt8 × api_Note)) {r} (hF : fleetlaw2_posted_x3 vm1 = some r) : Awp prog 0 32 (cL (cR (cR (cR (cB f15))))) (Out 0 fleetlaw2_posted_x3_k (fleetlaw2_posted_x3_S vm1) r) (fleetlaw2_posted_x3_I vm1) := by
  unfold fleetlaw2_posted_x3 at hF
  refine bE hF fun x h8 hF => ?_
  rcases x with vr2 | ⟨vm3, vr3⟩
  · refine awp_region ?_
    refine aR 1 ?_
    refine aC (command_Office_Waiting_ok h8) [] [] [] ?_
    refine aR 5 ?_
    refine aE ?_
    exact oO hF [] [] rfl
  · refine awp_region ?_
    refine aR 1 ?_
    refine aC (command_Office_Waiting_ok h8) [] [] [] ?_
    refine aR 5 ?_
    refine aE ?_
    exact oO hF [] [] rfl

def fleetlaw2_posted_x4_k : Bool → AEx
  | _ => .normal

def fleetlaw2_posted_x4_S (ve1 : Int) (vn1 : Int) : Bool → St
  | vx2 => Mem.st ⟨[], []⟩ (tl [(0, .v (.one (.d (.bool vx2))))]) 0

def fleetlaw2_posted_x4_I (ve1 : Int) (vn1 : Int) : St := Mem.st ⟨[], []⟩ (tl [(2, .v (.one (.d (.int .i64 ve1)))), (3, .v (.one (.d (.int .i64 vn1))))]) 0

theorem fleetlaw2_posted_x4_ok (ve1 : Int) (vn1 : Int) {r} (hF : fleetlaw2_posted_x4 ve1 vn1 = some r) : Awp prog 0 32 (cL (cR (cR (cR (cR (cB f15)))))) (Out 0 fleetlaw2_posted_x4_k (fleetlaw2_posted_x4_S ve1 vn1) r) (fleetlaw2_posted_x4_I ve1 vn1) := by
  unfold fleetlaw2_posted_x4 at hF
  refine cE hF (fun h10 hF => ?_) fun h10 hF => ?_
  · refine awp_region ?_
    refine aR 1 ?_
    refine aB h10 ?_
    refine aR 5 ?_
    refine aE ?_
    exact oO hF [] [] rfl
  · refine awp_region ?_
    refine aR 1 ?_
    refine aB h10 ?_
    refine aR 5 ?_
    refine aE ?_
    exact oO hF [] [] rfl

def fleetlaw2_posted_R (r : Bool) : TV × Mem := (.v (.one (.d (.bool r))), ⟨[], []⟩)

theorem fleetlaw2_posted_ok {r} (hF : fleetlaw2_posted = some r) : Holds prog 15 [] ⟨[], []⟩ (Is (fleetlaw2_posted_R  r)) := by
  unfold fleetlaw2_posted at hF
  refine holds_of_awp hΓ (fn := f15) (c := cB f15) (A := 0) (nx := 0) (by kernel_rfl) (by kernel_rfl) (by kernel_rfl) (by kernel_rfl) (by kernel_rfl) (by kernel_rfl) (lowc_of (by kernel_rfl)) ?_
  show Awp prog 0 32 (cB f15) _ _
  refine awp_seq ?_
  refine awp_region ?_
  refine aR 1 ?_
  refine aE ?_
  refine awp_seq ?_
  refine bE hF fun x h1 hF => ?_
  rcases x with vr | _
  · refine awp_region ?_
    refine aR 1 ?_
    refine aC (command_New_ok h1) [] [] [] ?_
    refine aR 5 ?_
    refine aE ?_
    refine awp_seq ?_
    refine awp_seq ?_
    refine awp_to (st' := fleetlaw2_posted_x1_I vr) (oT [] []) ?_
    refine bE hF fun _ h3 hF => ?_
    refine awp_sub (fleetlaw2_posted_x1_ok vr h3) ?_
    refine awp_true (by kernel_rfl) rfl ?_
    refine awp_seq ?_
    refine awp_region ?_
    refine aR 1 ?_
    refine aE ?_
    refine awp_ret ?_
    exact oF hF [] []
  · refine awp_region ?_
    refine aR 1 ?_
    refine aC (command_New_ok h1) [] [] [] ?_
    refine aR 5 ?_
    refine aE ?_
    refine awp_seq ?_
    refine awp_seq ?_
    refine awp_to (st' := fleetlaw2_posted_x2_I ) (oT [(0, 2000), (1, 2001)] []) ?_
    refine bE hF fun x h6 hF => ?_
    obtain ⟨vm1, vx1⟩ := x
    refine awp_sub (fleetlaw2_posted_x2_ok  h6) ?_
    refine cE hF (fun h7 hF => ?_) fun h7 hF => ?_
    · refine awp_true (by kernel_rfl) h7 ?_
      refine awp_seq ?_
      refine awp_region ?_
      refine aR 1 ?_
      refine aE ?_
      refine awp_ret ?_
      exact oF hF [] []
    · refine awp_false (by kernel_rfl) h7 ?_
      refine awp_skip ?_
      refine awp_seq ?_
      refine awp_to (st' := fleetlaw2_posted_x3_I vm1) (oT [] []) ?_
      refine bE hF fun x h9 hF => ?_
      obtain ⟨ve1, vn1⟩ := x
      refine awp_sub (fleetlaw2_posted_x3_ok vm1 h9) ?_
      refine awp_seq ?_
      refine awp_to (st' := fleetlaw2_posted_x4_I ve1 vn1) (oT [] []) ?_
      refine bE hF fun vx2_1 h11 hF => ?_
      refine awp_sub (fleetlaw2_posted_x4_ok ve1 vn1 h11) ?_
      refine awp_ret ?_
      exact oF hF [] []

/-! ### beaconfleet/fleetlaw2.NotesMerge -/
def fleetlaw2_NotesMerge_x2_k : (List api_Note) → AEx
  | _ => .exit 0

def fleetlaw2_NotesMerge_x2_S (vr18 : List api_Note) (vr1 : List api_Note) : (List api_Note) → St
  | vx3 => Mem.st ⟨[(0, ⟨33, 9, List.map api_Note.enc vx3⟩)], []⟩ (tl [(4, .v (.one (.d (.lst (List.map api_Note.enc vr18))))), (5, .v (.one (.own 0 none)))]) 1

def fleetlaw2_NotesMerge_x2_H (vr18 : List api_Note) (vr1 : List api_Note) : fleetmake_Stream × (List api_Note) × Int → St
  | (vx, vx1, vx2) => Mem.st ⟨[(1, ⟨33, 9, List.map api_Note.enc vx1⟩)], [(0, [.d (.lst (List.map (encI .i64) vx.L)), .d (.int .i64 vx.at_)])]⟩ (tl [(3, .v (.one (.box 0 0))), (4, .v (.one (.d (.lst (List.map api_Note.enc vr18))))), (5, .v (.one (.own 1 none))), (23, .v (.one (.d (.int .i64 (vr1.length : Int))))), (24, .v (.one (.d (.int .i64 vx2))))]) 2

theorem fleetlaw2_NotesMerge_x2_ok (vr18 : List api_Note) (vr1 : List api_Note) (s : fleetmake_Stream × (List api_Note) × Int) (r : (fleetmake_Stream × (List api_Note) × Int) ⊕ ((List api_Note))) (hF : fleetlaw2_NotesMerge_x2 vr1 s = some r) : Awp prog 0 84 (cL (cL (cR (cR (cL (cR (cL (cR (cR (cR (cB f3))))))))))) (Out 0 (kk fleetlaw2_NotesMerge_x2_k) (SS (fleetlaw2_NotesMerge_x2_H vr18 vr1) (fleetlaw2_NotesMerge_x2_S vr18 vr1)) r) (fleetlaw2_NotesMerge_x2_H vr18 vr1 s) := by
  obtain ⟨vx, vx1, vx2⟩ := s
  unfold fleetlaw2_NotesMerge_x2 at hF
  refine awp_seq ?_
  refine awp_region ?_
  refine aR 1 ?_
  refine aE ?_
  refine awp_seq ?_
  refine cE hF (fun h6 hF => ?_) fun h6 hF => ?_
  · refine awp_true (by kernel_rfl) h6 ?_
    refine awp_skip ?_
    refine awp_seq ?_
    refine awp_block ?_
    refine awp_seq ?_
    refine awp_region ?_
    refine aR 2 ?_
    refine aE ?_
    refine bE hF fun x h7 hF => ?_
    obtain ⟨vs1, vr5⟩ := x
    refine bE hF fun vr6 h8 hF => ?_
    refine bE hF fun vr7 h9 hF => ?_
    refine bE hF fun vy3 h10 hF => ?_
    refine bE hF fun vy4 h11 hF => ?_
    refine bE hF fun vy5 h12 hF => ?_
    refine awp_region ?_
    refine aR 7 ?_
    refine aC (fleetmake_Stream_Range_ok h7) [] [] [] ?_
    refine aR 2 ?_
    refine aC (fleetmake_Stream_Pick_o1_ok h8) [(1, 12002)] [] [] ?_
    refine aR 2 ?_
    refine aC (fleetmake_Stream_Pick_o1_ok h9) [(1, 15002)] [] [] ?_
    refine aX (x_idxO api_Note.enc 1 h10) ?_
    refine aR 1 ?_
    refine aX (x_stE api_Note.enc (api_Note.mk (api_Letter.mk vy3.Letter.Id vy3.Letter.Slot vy3.Letter.Body vy3.Letter.Prio vy3.Letter.At vy3.Letter.Until) vr5 vy3.Tries vy3.Since) h10) ?_
    refine aX (x_idxO api_Note.enc 1 h11) ?_
    refine aR 1 ?_
    refine aX (x_stE api_Note.enc (api_Note.mk (api_Letter.mk vy4.Letter.Id vy4.Letter.Slot vy4.Letter.Body vy4.Letter.Prio vy4.Letter.At vy4.Letter.Until) vy4.State vr6 vy4.Since) h11) ?_
    refine aX (x_idxO api_Note.enc 1 h12) ?_
    refine aR 1 ?_
    refine aX (x_stE api_Note.enc (api_Note.mk (api_Letter.mk vy5.Letter.Id vy5.Letter.Slot vy5.Letter.Body vy5.Letter.Prio vy5.Letter.At vy5.Letter.Until) vy5.State vy5.Tries vr7) h12) ?_
    refine aE ?_
    refine awp_region ?_
    refine aR 2 ?_
    refine aE ?_
    exact oO hF [] [] rfl
  · refine awp_false (by kernel_rfl) h6 ?_
    refine awp_exit ?_
    exact oO hF [(0, 1)] [] rfl

def fleetlaw2_NotesMerge_x1_k : (List api_Note) → AEx
  | _ => .normal

def fleetlaw2_NotesMerge_x1_S (vr18 : List api_Note) (vs8_1 : fleetmake_Stream) (vr18_1 : List api_Note) : (List api_Note) → St
  | vx4 => Mem.st ⟨[(0, ⟨33, 9, List.map api_Note.enc vx4⟩)], []⟩ (tl [(4, .v (.one (.d (.lst (List.map api_Note.enc vr18))))), (5, .v (.one (.own 0 none)))]) 1

def fleetlaw2_NotesMerge_x1_I (vr18 : List api_Note) (vs8_1 : fleetmake_Stream) (vr18_1 : List api_Note) : St := Mem.st ⟨[(1, ⟨33, 9, List.map api_Note.enc vr18_1⟩)], [(0, [.d (.lst (List.map (encI .i64) vs8_1.L)), .d (.int .i64 vs8_1.at_)])]⟩ (tl [(3, .v (.one (.box 0 0))), (4, .v (.one (.d (.lst (List.map api_Note.enc vr18))))), (5, .v (.one (.own 1 none)))]) 2

theorem fleetlaw2_NotesMerge_x1_ok (vr18 : List api_Note) (vs8_1 : fleetmake_Stream) (vr18_1 : List api_Note) {r} (hF : fleetlaw2_NotesMerge_x1 vr18 vs8_1 vr18_1 = some r) : Awp prog 0 84 (cL (cR (cR (cR (cB f3))))) (Out 0 fleetlaw2_NotesMerge_x1_k (fleetlaw2_NotesMerge_x1_S vr18 vs8_1 vr18_1) r) (fleetlaw2_NotesMerge_x1_I vr18 vs8_1 vr18_1) := by
  unfold fleetlaw2_NotesMerge_x1 at hF
  refine awp_seq ?_
  refine bE hF fun vr h3 hF => ?_
  refine awp_region ?_
  refine aR 1 ?_
  refine aC (fleetmake_Stream_Flip_ok h3) [] [] [] ?_
  refine aE ?_
  refine cE hF (fun h4 hF => ?_) fun h4 hF => ?_
  · refine awp_true (by kernel_rfl) h4 ?_
    refine awp_seq ?_
    refine bE hF fun vr1 h5 hF => ?_
    refine awp_region ?_
    refine aR 1 ?_
    refine aC (slices_Clone_api_Note_api_Note_ok h5) [] [] [] ?_
    refine aR 1 ?_
    refine aE ?_
    refine awp_seq ?_
    refine awp_region ?_
    refine aR 1 ?_
    refine aL api_Note.enc vr1 ?_
    refine aR 1 ?_
    refine aE ?_
    refine awp_block ?_
    refine awp_to (st' := fleetlaw2_NotesMerge_x2_H vr18 vr1 (fleetmake_Stream.mk vs8_1.L (IntKind.wrap .i64 (vs8_1.at_ + 1)), vr1, 0)) (oT [(1, 3002)] []) ?_
    refine bE hF fun vx3_1 h13 hF => ?_
    refine awp_sub (awp_loop' (fleetlaw2_NotesMerge_x2_H vr18 vr1) fleetlaw2_NotesMerge_x2_k (fleetlaw2_NotesMerge_x2_S vr18 vr1) (by intro x; exact fun h => nomatch h) h13 (fleetlaw2_NotesMerge_x2_ok vr18 vr1)) ?_
    exact oO hF [] [] rfl
  · refine awp_false (by kernel_rfl) h4 ?_
    refine awp_skip ?_
    exact oO hF [(0, 1)] [] rfl

def fleetlaw2_NotesMerge_x3_k : (Int × (List api_Note)) → AEx
  | _ => .normal

def fleetlaw2_NotesMerge_x3_S (vr18 : List api_Note) (vx4_1 : List api_Note) (vr2_1 : List api_Note) (vr3_1 : Int) (vr5_1 : Int) : (Int × (List api_Note)) → St
  | (vx5, vx6) => Mem.st ⟨[], []⟩ (tl [(7, .v (.one (.d (.lst (List.map api_Note.enc vr2_1))))), (8, .v (.one (.d (.int .i64 vr3_1)))), (9, .v (.one (.d (.int .i64 vx5)))), (10, .v (.one (.d (.lst (List.map api_Note.enc vx6)))))]) 0

def fleetlaw2_NotesMerge_x3_I (vr18 : List api_Note) (vx4_1 : List api_Note) (vr2_1 : List api_Note) (vr3_1 : Int) (vr5_1 : Int) : St := Mem.st ⟨[(0, ⟨33, 9, List.map api_Note.enc vx4_1⟩)], []⟩ (tl [(4, .v (.one (.d (.lst (List.map api_Note.enc vr18))))), (5, .v (.one (.own 0 none))), (7, .v (.one (.d (.lst (List.map api_Note.enc vr2_1))))), (8, .v (.one (.d (.int .i64 vr3_1)))), (9, .v (.one (.d (.int .i64 vr5_1)))), (10, .v (.one (.nil)))]) 1

theorem fleetlaw2_NotesMerge_x3_ok (vr18 : List api_Note) (vx4_1 : List api_Note) (vr2_1 : List api_Note) (vr3_1 : Int) (vr5_1 : Int) {r} (hF : fleetlaw2_NotesMerge_x3 vr18 vx4_1 vr5_1 = some r) : Awp prog 0 84 (cL (cR (cR (cR (cR (cR (cR (cR (cR (cB f3)))))))))) (Out 0 fleetlaw2_NotesMerge_x3_k (fleetlaw2_NotesMerge_x3_S vr18 vx4_1 vr2_1 vr3_1 vr5_1) r) (fleetlaw2_NotesMerge_x3_I vr18 vx4_1 vr2_1 vr3_1 vr5_1) := by
  unfold fleetlaw2_NotesMerge_x3 at hF
  refine awp_seq ?_
  refine bE hF fun vr5_3 h19 hF => ?_
  refine bE hF fun vr8 h20 hF => ?_
  refine awp_region ?_
  refine aR 2 ?_
  refine aC (fleetref2_NotesFault_ok h19) [] [] [0] ?_
  refine aR 1 ?_
  refine aC (fleetlaw2_errs_ok h20) [] [] [3001] ?_
  refine aR 1 ?_
  refine aE ?_
  refine awp_seq ?_
  refine awp_region ?_
  refine aR 2 ?_
  refine aE ?_
  refine cE hF (fun h21 hF => ?_) fun h21 hF => ?_
  · refine awp_true (by kernel_rfl) h21 ?_
    refine bE hF fun x h22 hF => ?_
    obtain ⟨vr7_1, vr8_1⟩ := x
    refine awp_region ?_
    refine aR 2 ?_
    refine aC (fleetref2_NotesOf_o1_ok h22) [] [] [] ?_
    refine aR 5 ?_
    refine aE ?_
    exact oO hF [] [] rfl
  · refine awp_false (by kernel_rfl) h21 ?_
    refine awp_skip ?_
    exact oO hF [] [] rfl

def fleetlaw2_NotesMerge_x4_k : Bool → AEx
  | _ => .normal

def fleetlaw2_NotesMerge_x4_S (vr2_1 : List api_Note) (vr3_1 : Int) (vx5_1 : Int) (vx6_1 : List api_Note) : Bool → St
  | vx7 => Mem.st ⟨[], []⟩ (tl [(2, .v (.one (.d (.bool vx7))))]) 0

def fleetlaw2_NotesMerge_x4_I (vr2_1 : List api_Note) (vr3_1 : Int) (vx5_1 : Int) (vx6_1 : List api_Note) : St := Mem.st ⟨[], []⟩ (tl [(7, .v (.one (.d (.lst (List.map api_Note.enc vr2_1))))), (8, .v (.one (.d (.int .i64 vr3_1)))), (9, .v (.one (.d (.int .i64 vx5_1)))), (10, .v (.one (.d (.lst (List.map api_Note.enc vx6_1)))))]) 0

theorem fleetlaw2_NotesMerge_x4_ok (vr2_1 : List api_Note) (vr3_1 : Int) (vx5_1 : Int) (vx6_1 : List api_Note) {r} (hF : fleetlaw2_NotesMerge_x4 vr2_1 vr3_1 vx5_1 vx6_1 = some r) : Awp prog 0 84 (cL (cR (cR (cR (cR (cR (cR (cR (cR (cR (cB f3))))))))))) (Out 0 fleetlaw2_NotesMerge_x4_k (fleetlaw2_NotesMerge_x4_S vr2_1 vr3_1 vx5_1 vx6_1) r) (fleetlaw2_NotesMerge_x4_I vr2_1 vr3_1 vx5_1 vx6_1) := by
  unfold fleetlaw2_NotesMerge_x4 at hF
  refine cE hF (fun h24 hF => ?_) fun h24 hF => ?_
  · refine bE hF fun vr9 h25 hF => ?_
    refine cE hF (fun h26 hF => ?_) fun h26 hF => ?_
    · refine bE hF fun vr1_1 h27 hF => ?_
      refine awp_region ?_
      refine aR 2 ?_
      refine aB h24 ?_
      refine aR 3 ?_
      refine aCb (slices_Equal_api_Note_api_Note_ok h25) [] [] [] h26 ?_
      refine aR 2 ?_
      refine aC (fleetlaw2_posted_ok h27) [] [] [] ?_
      refine aR 2 ?_
      refine aE ?_
      exact oO hF [] [] rfl
    · refine awp_region ?_
      refine aR 2 ?_
      refine aB h24 ?_
      refine aR 3 ?_
      refine aCb (slices_Equal_api_Note_api_Note_ok h25) [] [] [] h26 ?_
      refine aR 5 ?_
      refine aE ?_
      exact oO hF [] [] rfl
  · refine awp_region ?_
    refine aR 2 ?_
    refine aB h24 ?_
    refine aR 9 ?_
    refine aE ?_
    exact oO hF [] [] rfl

def fleetlaw2_NotesMerge_R (qx : List Int) (r : Bool) : TV × Mem := (.v (.one (.d (.bool r))), ⟨[], []⟩)

theorem fleetlaw2_NotesMerge_ok {qx : List Int} {r} (hF : fleetlaw2_NotesMerge qx = some r) : Holds prog 3 [.v (.one (.d (.lst (List.map (encI .i64) qx))))] ⟨[], []⟩ (Is (fleetlaw2_NotesMerge_R qx r)) := by
  unfold fleetlaw2_NotesMerge at hF
  refine holds_of_awp hΓ (fn := f3) (c := cB f3) (A := 0) (nx := 0) (by kernel_rfl) (by kernel_rfl) (by kernel_rfl) (by kernel_rfl) (by kernel_rfl) (by kernel_rfl) (lowc_of (by kernel_rfl)) ?_
  show Awp prog 0 84 (cB f3) _ _
  refine awp_seq ?_
  refine awp_region ?_
  refine aR 1 ?_
  refine aE ?_
  refine awp_seq ?_
  refine awp_region ?_
  refine aR 4 ?_
  refine aE ?_
  refine awp_seq ?_
  refine bE hF fun x h1 hF => ?_
  obtain ⟨vs8, vr18⟩ := x
  refine bE hF fun x h2 hF => ?_
  obtain ⟨vs8_1, vr18_1⟩ := x
  refine awp_region ?_
  refine aR 1 ?_
  refine aC (fleetmake_Stream_Notes_ok h1) [(0, 3000)] [] [] ?_
  refine aR 1 ?_
  refine aC (fleetmake_Stream_Notes_ok h2) [(0, 3000)] [] [] ?_
  refine aR 2 ?_
  refine aE ?_
  refine awp_to (oT (m := ⟨[(1, ⟨33, 9, List.map api_Note.enc vr18_1⟩)], [(0, [.d (.lst (List.map (encI .i64) vs8_1.L)), .d (.int .i64 vs8_1.at_)])]⟩) (ts := [(3, .v (.one (.box 0 0))), (4, .v (.one (.d (.lst (List.map api_Note.enc vr18))))), (5, .v (.one (.own 1 none)))]) (nx := 2) [(0, 3000), (1, 8001)] []) ?_
  refine awp_seq ?_
  refine awp_to (st' := fleetlaw2_NotesMerge_x1_I vr18 vs8_1 vr18_1) (oT [] []) ?_
  refine bE hF fun vx4_1 h14 hF => ?_
  refine awp_sub (fleetlaw2_NotesMerge_x1_ok vr18 vs8_1 vr18_1 h14) ?_
  refine awp_seq ?_
  refine bE hF fun x h15 hF => ?_
  obtain ⟨vr2_1, vr3_1⟩ := x
  refine awp_region ?_
  refine aR 2 ?_
  refine aCf (command_Merge_ok h15) (plainO_one (f := api_Note.enc) fun _ => by kernel_rfl) [] [] [0] ?_
  refine aR 5 ?_
  refine aE ?_
  refine awp_to (oT (m := ⟨[(0, ⟨33, 9, List.map api_Note.enc vx4_1⟩)], []⟩) (ts := [(4, .v (.one (.d (.lst (List.map api_Note.enc vr18))))), (5, .v (.one (.own 0 none))), (7, .v (.one (.d (.lst (List.map api_Note.enc vr2_1))))), (8, .v (.one (.d (.int .i64 vr3_1))))]) (nx := 1) [] []) ?_
  refine awp_seq ?_
  refine bE hF fun vr5_1 h16 hF => ?_
  refine awp_region ?_
  refine aR 1 ?_
  refine aC (fleetref2_NotesFault_ok h16) [] [] [] ?_
  refine aR 1 ?_
  refine aE ?_
  refine awp_seq ?_
  refine awp_seq ?_
  refine bE hF fun vr5_2 h17 hF => ?_
  refine awp_region ?_
  refine aR 1 ?_
  refine aC (command_CheckNotes_ok h17) [] [] [] ?_
  refine aR 2 ?_
  refine aE ?_
  refine cE hF (fun h18 hF => ?_) fun h18 hF => ?_
  · refine awp_true (by kernel_rfl) h18 ?_
    refine awp_seq ?_
    refine awp_region ?_
    refine aR 1 ?_
    refine aE ?_
    refine awp_ret ?_
    exact oF hF [] []
  · refine awp_false (by kernel_rfl) h18 ?_
    refine awp_skip ?_
    refine awp_seq ?_
    refine awp_region ?_
    refine aR 1 ?_
    refine aE ?_
    refine awp_seq ?_
    refine awp_to (st' := fleetlaw2_NotesMerge_x3_I vr18 vx4_1 vr2_1 vr3_1 vr5_1) (oT [] []) ?_
    refine bE hF fun x h23 hF => ?_
    obtain ⟨vx5_1, vx6_1⟩ := x
    refine awp_sub (fleetlaw2_NotesMerge_x3_ok vr18 vx4_1 vr2_1 vr3_1 vr5_1 h23) ?_
    refine awp_seq ?_
    refine awp_to (st' := fleetlaw2_NotesMerge_x4_I vr2_1 vr3_1 vx5_1 vx6_1) (oT [] []) ?_
    refine bE hF fun vx7_1 h28 hF => ?_
    refine awp_sub (fleetlaw2_NotesMerge_x4_ok vr2_1 vr3_1 vx5_1 vx6_1 h28) ?_
    refine awp_ret ?_
    exact oF hF [] []

end Go.Eng
