/-
The code of the Go functions that the law LettersEnd reaches does what the plain functions say, part 3.
-/
import Derived.Test.YtigejlfinklddaaGreatDoorGenP2

namespace Go.Eng

open Go Go.Proofs.Tryz

set_option linter.unusedVariables false

set_option maxRecDepth 20000

set_option maxHeartbeats 0

/-! ### (*beaconfleet/command.Office).Answer -/
def z207 : Bool → AEx
  | _ => .normal

def z206 (qo : Int) (qo1 : Int) (qo2 : Int) (qo3 : Int) (qm : List (List UInt8 × api_Note)) (qo4 : Int) (qid : List UInt8) (qat : Int) (qdone : Bool) (vm4 : List (List UInt8 × api_Note)) (ve : api_Note) : Bool → St
  | vx => Mem.st ⟨[], [(0, [.d (.int .i64 qo), .d (.int .i64 qo1), .d (.int .i64 qo2), .d (.int .i64 qo3), .mapp 1, .d (.int .i64 qo4)]), (1, [.mapc .str true (List.map (encM D.str api_Note.enc) qm)]), (2, [.d (.str ve.Letter.Id), .d (.str ve.Letter.Slot), .d (.str ve.Letter.Body), .d (.int .i64 ve.Letter.Prio), .d (.int .i64 ve.Letter.At), .d (.int .i64 ve.Letter.Until), .d (.int .i64 ve.State), .d (.int .i64 ve.Tries), .d (.int .i64 ve.Since)]), (3, [.mapc .str true (List.map (encM D.str api_Note.enc) vm4)])]⟩ (tl [(0, .v (.one (.box 0 0))), (1, .v (.one (.d (.str qid)))), (2, .v (.one (.d (.int .i64 qat)))), (3, .v (.one (.d (.bool qdone)))), (10, .v (.one (.mapp 3))), (11, .v (.one (.box 2 0))), (31, .v (.one (.d (.bool vx))))]) 4

def z205 (qo : Int) (qo1 : Int) (qo2 : Int) (qo3 : Int) (qm : List (List UInt8 × api_Note)) (qo4 : Int) (qid : List UInt8) (qat : Int) (qdone : Bool) (vm4 : List (List UInt8 × api_Note)) (ve : api_Note) : St := Mem.st ⟨[], [(0, [.d (.int .i64 qo), .d (.int .i64 qo1), .d (.int .i64 qo2), .d (.int .i64 qo3), .mapp 1, .d (.int .i64 qo4)]), (1, [.mapc .str true (List.map (encM D.str api_Note.enc) qm)]), (2, [.d (.str ve.Letter.Id), .d (.str ve.Letter.Slot), .d (.str ve.Letter.Body), .d (.int .i64 ve.Letter.Prio), .d (.int .i64 ve.Letter.At), .d (.int .i64 ve.Letter.Until), .d (.int .i64 ve.State), .d (.int .i64 ve.Tries), .d (.int .i64 ve.Since)]), (3, [.mapc .str true (List.map (encM D.str api_Note.enc) vm4)])]⟩ (tl [(0, .v (.one (.box 0 0))), (1, .v (.one (.d (.str qid)))), (2, .v (.one (.d (.int .i64 qat)))), (3, .v (.one (.d (.bool qdone)))), (10, .v (.one (.mapp 3))), (11, .v (.one (.box 2 0)))]) 4

theorem z208 (qo : Int) (qo1 : Int) (qo2 : Int) (qo3 : Int) (qm : List (List UInt8 × api_Note)) (qo4 : Int) (qid : List UInt8) (qat : Int) (qdone : Bool) (vm4 : List (List UInt8 × api_Note)) (ve : api_Note) {r} (hF : z204 ve = some r) : Awp prog 2 52 (cL (cR (cR (cL (cL (cR (cR (cR (cR (cB f27)))))))))) (Out 2 z207 (z206 qo qo1 qo2 qo3 qm qo4 qid qat qdone vm4 ve) r) (z205 qo qo1 qo2 qo3 qm qo4 qid qat qdone vm4 ve) := by
  unfold z204 at hF
  refine cE hF (fun h7 hF => ?_) fun h7 hF => ?_
  · refine awp_region ?_
    refine aR 2 ?_
    refine aB h7 ?_
    refine aR 6 ?_
    refine aE ?_
    exact oO hF [] [] rfl
  · refine bE hF fun _ h8 hF => ?_
    refine awp_region ?_
    refine aR 2 ?_
    refine aB h7 ?_
    refine aR 3 ?_
    refine aC (z326 h8) [] [] [] ?_
    refine aR 2 ?_
    refine aE ?_
    exact oO hF [] [] rfl

def z212 : api_Note → AEx
  | _ => .normal

def z211 (qo : Int) (qo1 : Int) (qo2 : Int) (qo3 : Int) (qm : List (List UInt8 × api_Note)) (qo4 : Int) (qid : List UInt8) (qat : Int) (qdone : Bool) (vm4 : List (List UInt8 × api_Note)) (ve : api_Note) : api_Note → St
  | vn => Mem.st ⟨[], [(0, [.d (.int .i64 qo), .d (.int .i64 qo1), .d (.int .i64 qo2), .d (.int .i64 qo3), .mapp 1, .d (.int .i64 qo4)]), (1, [.mapc .str true (List.map (encM D.str api_Note.enc) qm)]), (2, [.d (.str vn.Letter.Id), .d (.str vn.Letter.Slot), .d (.str vn.Letter.Body), .d (.int .i64 vn.Letter.Prio), .d (.int .i64 vn.Letter.At), .d (.int .i64 vn.Letter.Until), .d (.int .i64 vn.State), .d (.int .i64 vn.Tries), .d (.int .i64 vn.Since)]), (3, [.mapc .str true (List.map (encM D.str api_Note.enc) vm4)])]⟩ (tl [(0, .v (.one (.box 0 0))), (1, .v (.one (.d (.str qid)))), (2, .v (.one (.d (.int .i64 qat)))), (10, .v (.one (.mapp 3))), (11, .v (.one (.box 2 0)))]) 4

def z210 (qo : Int) (qo1 : Int) (qo2 : Int) (qo3 : Int) (qm : List (List UInt8 × api_Note)) (qo4 : Int) (qid : List UInt8) (qat : Int) (qdone : Bool) (vm4 : List (List UInt8 × api_Note)) (ve : api_Note) : St := Mem.st ⟨[], [(0, [.d (.int .i64 qo), .d (.int .i64 qo1), .d (.int .i64 qo2), .d (.int .i64 qo3), .mapp 1, .d (.int .i64 qo4)]), (1, [.mapc .str true (List.map (encM D.str api_Note.enc) qm)]), (2, [.d (.str ve.Letter.Id), .d (.str ve.Letter.Slot), .d (.str ve.Letter.Body), .d (.int .i64 ve.Letter.Prio), .d (.int .i64 ve.Letter.At), .d (.int .i64 ve.Letter.Until), .d (.int .i64 4), .d (.int .i64 ve.Tries), .d (.int .i64 qat)]), (3, [.mapc .str true (List.map (encM D.str api_Note.enc) vm4)])]⟩ (tl [(0, .v (.one (.box 0 0))), (1, .v (.one (.d (.str qid)))), (2, .v (.one (.d (.int .i64 qat)))), (3, .v (.one (.d (.bool qdone)))), (10, .v (.one (.mapp 3))), (11, .v (.one (.box 2 0)))]) 4

theorem z213 (qo : Int) (qo1 : Int) (qo2 : Int) (qo3 : Int) (qm : List (List UInt8 × api_Note)) (qo4 : Int) (qid : List UInt8) (qat : Int) (qdone : Bool) (vm4 : List (List UInt8 × api_Note)) (ve : api_Note) {r} (hF : z209 qat qdone ve = some r) : Awp prog 2 52 (cL (cR (cR (cR (cR (cR (cR (cB f27)))))))) (Out 2 z212 (z211 qo qo1 qo2 qo3 qm qo4 qid qat qdone vm4 ve) r) (z210 qo qo1 qo2 qo3 qm qo4 qid qat qdone vm4 ve) := by
  unfold z209 at hF
  refine awp_seq ?_
  refine awp_region ?_
  refine aR 1 ?_
  refine aE ?_
  refine cE hF (fun h11 hF => ?_) fun h11 hF => ?_
  · refine awp_true (by kernel_rfl) h11 ?_
    refine awp_region ?_
    refine aR 2 ?_
    refine aE ?_
    exact oO hF [] [] rfl
  · refine awp_false (by kernel_rfl) h11 ?_
    refine awp_skip ?_
    exact oO hF [] [] rfl

def z202 (qo : Int) (qo1 : Int) (qo2 : Int) (qo3 : Int) (qm : List (List UInt8 × api_Note)) (qo4 : Int) (qid : List UInt8) (qat : Int) (qdone : Bool) : Int ⊕ (List (List UInt8 × api_Note)) → TV × Mem
  | .inl vr1 => (.v (.one (.d (.int .i64 vr1))), ⟨[], [(0, [.d (.int .i64 qo), .d (.int .i64 qo1), .d (.int .i64 qo2), .d (.int .i64 qo3), .mapp 1, .d (.int .i64 qo4)]), (1, [.mapc .str true (List.map (encM D.str api_Note.enc) qm)])]⟩)
  | .inr vm => (.v (.one (.d (.int .i64 0))), ⟨[], [(0, [.d (.int .i64 qo), .d (.int .i64 qo1), .d (.int .i64 qo2), .d (.int .i64 qo3), .mapp 2, .d (.int .i64 qat)]), (1, [.mapc .str true (List.map (encM D.str api_Note.enc) qm)]), (2, [.mapc .str true (List.map (encM D.str api_Note.enc) vm)])]⟩)

theorem z203 {qo : Int} {qo1 : Int} {qo2 : Int} {qo3 : Int} {qm : List (List UInt8 × api_Note)} {qo4 : Int} {qid : List UInt8} {qat : Int} {qdone : Bool} {r} (hF : z201 qo qo1 qo2 qo3 qm qo4 qid qat qdone = some r) : Holds prog 27 [.v (.one (.box 0 0)), .v (.one (.d (.str qid))), .v (.one (.d (.int .i64 qat))), .v (.one (.d (.bool qdone)))] ⟨[], [(0, [.d (.int .i64 qo), .d (.int .i64 qo1), .d (.int .i64 qo2), .d (.int .i64 qo3), .mapp 1, .d (.int .i64 qo4)]), (1, [.mapc .str true (List.map (encM D.str api_Note.enc) qm)])]⟩ (Is (z202 qo qo1 qo2 qo3 qm qo4 qid qat qdone r)) := by
  unfold z201 at hF
  refine holds_of_awp hΓ (fn := f27) (c := cB f27) (A := 2) (nx := 2) (by kernel_rfl) (by kernel_rfl) (by kernel_rfl) (by kernel_rfl) (by kernel_rfl) (by kernel_rfl) (lowc_of (by kernel_rfl)) ?_
  show Awp prog 2 52 (cB f27) _ _
  refine awp_seq ?_
  refine awp_region ?_
  refine aR 1 ?_
  refine aE ?_
  refine awp_seq ?_
  refine awp_seq ?_
  refine bE hF fun vr h1 hF => ?_
  refine awp_region ?_
  refine aR 2 ?_
  refine aC (z306 h1) [] [] [] ?_
  refine aR 1 ?_
  refine aE ?_
  refine awp_seq ?_
  refine awp_region ?_
  refine aR 2 ?_
  refine aE ?_
  refine cE hF (fun h2 hF => ?_) fun h2 hF => ?_
  · refine awp_true (by kernel_rfl) h2 ?_
    refine awp_seq ?_
    refine awp_region ?_
    refine aR 2 ?_
    refine aE ?_
    refine awp_ret ?_
    exact oF hF [] []
  · refine awp_false (by kernel_rfl) h2 ?_
    refine awp_skip ?_
    refine awp_seq ?_
    refine bE hF fun vm4 h3 hF => ?_
    refine awp_region ?_
    refine aR 2 ?_
    refine aC (z282 h3) [] [] [] ?_
    refine aR 1 ?_
    refine aE ?_
    refine awp_seq ?_
    refine bE hF fun ve h4 hF => ?_
    refine bE hF fun vis h5 hF => ?_
    refine awp_region ?_
    refine aR 2 ?_
    refine aX (x_getO 9004 true D.str api_Note.enc h4 h5) ?_
    refine aR 6 ?_
    refine aE ?_
    refine awp_seq ?_
    refine awp_block ?_
    refine awp_seq ?_
    refine awp_region ?_
    refine aR 3 ?_
    refine aE ?_
    refine cE hF (fun h6 hF => ?_) fun h6 hF => ?_
    · refine awp_true (by kernel_rfl) h6 ?_
      refine awp_seq ?_
      refine awp_region ?_
      refine aR 1 ?_
      refine aE ?_
      refine awp_ret ?_
      exact oF hF [] []
    · refine awp_false (by kernel_rfl) h6 ?_
      refine awp_seq ?_
      refine awp_to (st' := z205 qo qo1 qo2 qo3 qm qo4 qid qat qdone vm4 ve) (oT [(2, 17002), (3, 9004)] []) ?_
      refine bE hF fun vx1 h9 hF => ?_
      refine awp_sub (z208 qo qo1 qo2 qo3 qm qo4 qid qat qdone vm4 ve h9) ?_
      refine cE hF (fun h10 hF => ?_) fun h10 hF => ?_
      · refine awp_true (by kernel_rfl) h10 ?_
        refine awp_seq ?_
        refine awp_region ?_
        refine aR 1 ?_
        refine aE ?_
        refine awp_ret ?_
        exact oF hF [] []
      · refine awp_false (by kernel_rfl) h10 ?_
        refine awp_skip ?_
        refine awp_seq ?_
        refine awp_region ?_
        refine aR 5 ?_
        refine aE ?_
        refine awp_seq ?_
        refine awp_to (st' := z210 qo qo1 qo2 qo3 qm qo4 qid qat qdone vm4 ve) (oT [] []) ?_
        refine bE hF fun vn1 h12 hF => ?_
        refine awp_sub (z213 qo qo1 qo2 qo3 qm qo4 qid qat qdone vm4 ve h12) ?_
        refine awp_seq ?_
        refine awp_region ?_
        refine aR 3 ?_
        refine aPut 3 .str true (l := vm4) (key := qid) (v := (api_Note.mk (api_Letter.mk vn1.Letter.Id vn1.Letter.Slot vn1.Letter.Body vn1.Letter.Prio vn1.Letter.At vn1.Letter.Until) vn1.State vn1.Tries vn1.Since)) D.str api_Note.enc rfl ?_
        refine aE ?_
        refine awp_seq ?_
        refine bE hF fun _ h13 hF => ?_
        refine awp_region ?_
        refine aR 3 ?_
        refine aC (z303 h13) [(2, 3)] [] [] ?_
        refine aE ?_
        refine awp_seq ?_
        refine awp_region ?_
        refine aR 1 ?_
        refine aE ?_
        refine awp_ret ?_
        exact oF hF [(2, 3)] []

/-! ### (*beaconfleet/command.Office).Waiting -/
def z262 (qo : Int) (qo1 : Int) (qo2 : Int) (qo3 : Int) (qm : List (List UInt8 × api_Note)) (qo4 : Int) (qat : Int) : Int ⊕ ((List (List UInt8 × api_Note)) × Int) → TV × Mem
  | .inl vr2 => (.tup [.one (.d (.int .i64 0)), .one (.d (.int .i64 vr2))], ⟨[], [(0, [.d (.int .i64 qo), .d (.int .i64 qo1), .d (.int .i64 qo2), .d (.int .i64 qo3), .mapp 1, .d (.int .i64 qo4)]), (1, [.mapc .str true (List.map (encM D.str api_Note.enc) qm)])]⟩)
  | .inr (vm, vr3) => (.tup [.one (.d (.int .i64 vr3)), .one (.d (.int .i64 0))], ⟨[], [(0, [.d (.int .i64 qo), .d (.int .i64 qo1), .d (.int .i64 qo2), .d (.int .i64 qo3), .mapp 2, .d (.int .i64 qat)]), (1, [.mapc .str true (List.map (encM D.str api_Note.enc) qm)]), (2, [.mapc .str true (List.map (encM D.str api_Note.enc) vm)])]⟩)

theorem z263 {qo : Int} {qo1 : Int} {qo2 : Int} {qo3 : Int} {qm : List (List UInt8 × api_Note)} {qo4 : Int} {qat : Int} {r} (hF : z261 qo qo1 qo2 qo3 qm qo4 qat = some r) : Holds prog 28 [.v (.one (.box 0 0)), .v (.one (.d (.int .i64 qat)))] ⟨[], [(0, [.d (.int .i64 qo), .d (.int .i64 qo1), .d (.int .i64 qo2), .d (.int .i64 qo3), .mapp 1, .d (.int .i64 qo4)]), (1, [.mapc .str true (List.map (encM D.str api_Note.enc) qm)])]⟩ (Is (z262 qo qo1 qo2 qo3 qm qo4 qat r)) := by
  unfold z261 at hF
  refine holds_of_awp hΓ (fn := f28) (c := cB f28) (A := 2) (nx := 2) (by kernel_rfl) (by kernel_rfl) (by kernel_rfl) (by kernel_rfl) (by kernel_rfl) (by kernel_rfl) (lowc_of (by kernel_rfl)) ?_
  show Awp prog 2 24 (cB f28) _ _
  refine awp_seq ?_
  refine awp_region ?_
  refine aR 2 ?_
  refine aE ?_
  refine awp_seq ?_
  refine awp_seq ?_
  refine bE hF fun vr h1 hF => ?_
  refine awp_region ?_
  refine aR 2 ?_
  refine aC (z306 h1) [] [] [] ?_
  refine aR 1 ?_
  refine aE ?_
  refine awp_seq ?_
  refine awp_region ?_
  refine aR 2 ?_
  refine aE ?_
  refine cE hF (fun h2 hF => ?_) fun h2 hF => ?_
  · refine awp_true (by kernel_rfl) h2 ?_
    refine awp_seq ?_
    refine awp_region ?_
    refine aR 3 ?_
    refine aE ?_
    refine awp_ret ?_
    exact oF hF [] []
  · refine awp_false (by kernel_rfl) h2 ?_
    refine awp_skip ?_
    refine awp_seq ?_
    refine bE hF fun vm4 h3 hF => ?_
    refine bE hF fun _ h4 hF => ?_
    refine awp_region ?_
    refine aR 3 ?_
    refine aC (z282 h3) [] [] [] ?_
    refine aR 1 ?_
    refine aC (z303 h4) [(2, 11004)] [] [] ?_
    refine aE ?_
    refine awp_seq ?_
    refine bE hF fun vr1 h5 hF => ?_
    refine awp_region ?_
    refine aR 4 ?_
    refine aC (z329 h5) [(0, 11004)] [] [] ?_
    refine aR 2 ?_
    refine aE ?_
    refine awp_ret ?_
    exact oF hF [(2, 11004)] []

/-! ### slices.Index[[]string,string] -/
def z657 : Unit ⊕ Int → AEx
  | .inl _ => .exit 0
  | .inr _ => .ret

def z656 (qs : List (List UInt8)) (qv : List UInt8) : Unit ⊕ Int → St
  | .inl _ => Mem.st ⟨[], []⟩ (tl []) 0
  | .inr vx1 => Mem.st ⟨[], []⟩ (tl [(4, .v (.one (.d (.int .i64 vx1))))]) 0

def z655 (qs : List (List UInt8)) (qv : List UInt8) : Int → St
  | vx => Mem.st ⟨[], []⟩ (tl [(0, .v (.one (.d (.lst (List.map encS qs))))), (1, .v (.one (.d (.str qv)))), (7, .v (.one (.d (.int .i64 (qs.length : Int))))), (8, .v (.one (.d (.int .i64 vx))))]) 0

theorem z658 (qs : List (List UInt8)) (qv : List UInt8) (vx : Int) (r : (Int) ⊕ (Unit ⊕ Int)) (hF : z654 qs qv vx = some r) : Awp prog 0 19 (cL (cL (cR (cL (cR (cB f65)))))) (Out 0 (kk z657) (SS (z655 qs qv) (z656 qs qv)) r) (z655 qs qv vx) := by
  unfold z654 at hF
  refine awp_seq ?_
  refine awp_region ?_
  refine aR 1 ?_
  refine aE ?_
  refine awp_seq ?_
  refine cE hF (fun h1 hF => ?_) fun h1 hF => ?_
  · refine awp_true (by kernel_rfl) h1 ?_
    refine awp_skip ?_
    refine awp_seq ?_
    refine awp_block ?_
    refine awp_seq ?_
    refine awp_region ?_
    refine aR 2 ?_
    refine aE ?_
    refine awp_seq ?_
    refine bE hF fun vy1 h2 hF => ?_
    refine awp_region ?_
    refine aR 3 ?_
    refine aX (x_idx encS h2) ?_
    refine aR 2 ?_
    refine aE ?_
    refine cE hF (fun h3 hF => ?_) fun h3 hF => ?_
    · refine awp_true (by kernel_rfl) h3 ?_
      refine awp_seq ?_
      refine awp_region ?_
      refine aR 2 ?_
      refine aE ?_
      refine awp_ret ?_
      exact oO hF [] [] rfl
    · refine awp_false (by kernel_rfl) h3 ?_
      refine awp_skip ?_
      refine awp_region ?_
      refine aR 2 ?_
      refine aE ?_
      exact oO hF [] [] rfl
  · refine awp_false (by kernel_rfl) h1 ?_
    refine awp_exit ?_
    exact oO hF [] [] rfl

def z652 (qs : List (List UInt8)) (qv : List UInt8) (r : Int) : TV × Mem := (.v (.one (.d (.int .i64 r))), ⟨[], []⟩)

theorem z653 {qs : List (List UInt8)} {qv : List UInt8} {r} (hF : z651 qs qv = some r) : Holds prog 65 [.v (.one (.d (.lst (List.map encS qs)))), .v (.one (.d (.str qv)))] ⟨[], []⟩ (Is (z652 qs qv r)) := by
  unfold z651 at hF
  refine holds_of_awp hΓ (fn := f65) (c := cB f65) (A := 0) (nx := 0) (by kernel_rfl) (by kernel_rfl) (by kernel_rfl) (by kernel_rfl) (by kernel_rfl) (by kernel_rfl) (lowc_of (by kernel_rfl)) ?_
  show Awp prog 0 19 (cB f65) _ _
  refine awp_seq ?_
  refine awp_region ?_
  refine aR 1 ?_
  refine aE ?_
  refine awp_seq ?_
  refine awp_seq ?_
  refine awp_region ?_
  refine aR 1 ?_
  refine aL encS qs ?_
  refine aR 1 ?_
  refine aE ?_
  refine awp_block ?_
  refine awp_to (st' := z655 qs qv 0) (oT [] []) ?_
  refine bE hF fun x h4 hF => ?_
  rcases x with _ | vx1_1
  · refine awp_sub (awp_loop' (z655 qs qv) z657 (z656 qs qv) (by intro x; rcases x with x | x <;> exact fun h => nomatch h) h4 (z658 qs qv)) ?_
    refine awp_seq ?_
    refine awp_region ?_
    refine aR 1 ?_
    refine aE ?_
    refine awp_ret ?_
    exact oF hF [] []
  · refine awp_sub (awp_loop' (z655 qs qv) z657 (z656 qs qv) (by intro x; rcases x with x | x <;> exact fun h => nomatch h) h4 (z658 qs qv)) ?_
    exact oF hF [] []

/-! ### slices.Contains[[]string,string] -/
def z617 (qs : List (List UInt8)) (qv : List UInt8) (r : Bool) : TV × Mem := (.v (.one (.d (.bool r))), ⟨[], []⟩)

theorem z618 {qs : List (List UInt8)} {qv : List UInt8} {r} (hF : z616 qs qv = some r) : Holds prog 13 [.v (.one (.d (.lst (List.map encS qs)))), .v (.one (.d (.str qv)))] ⟨[], []⟩ (Is (z617 qs qv r)) := by
  unfold z616 at hF
  refine holds_of_awp hΓ (fn := f13) (c := cB f13) (A := 0) (nx := 0) (by kernel_rfl) (by kernel_rfl) (by kernel_rfl) (by kernel_rfl) (by kernel_rfl) (by kernel_rfl) (lowc_of (by kernel_rfl)) ?_
  show Awp prog 0 9 (cB f13) _ _
  refine awp_seq ?_
  refine awp_region ?_
  refine aR 1 ?_
  refine aE ?_
  refine awp_seq ?_
  refine bE hF fun vr h1 hF => ?_
  refine awp_region ?_
  refine aR 2 ?_
  refine aC (z653 h1) [] [] [] ?_
  refine aR 2 ?_
  refine aE ?_
  refine awp_ret ?_
  exact oF hF [] []

/-! ### beaconfleet/fleetkeep2.LettersEnd$1 -/
def z341 : Bool → AEx
  | _ => .normal

def z340 (qx : api_Letter) (qx1 : List (List UInt8)) (qx2 : Int) : Bool → St
  | vx => Mem.st ⟨[(3, ⟨9, 1, List.map encS qx1⟩)], [(0, [.own 3 none]), (1, [.d (.int .i64 qx2)])]⟩ (tl [(4, .v (.one (.d (.bool vx))))]) 4

def z339 (qx : api_Letter) (qx1 : List (List UInt8)) (qx2 : Int) : St := Mem.st ⟨[(3, ⟨9, 1, List.map encS qx1⟩)], [(0, [.own 3 none]), (1, [.d (.int .i64 qx2)]), (4, [.d (.str qx.Id), .d (.str qx.Slot), .d (.str qx.Body), .d (.int .i64 qx.Prio), .d (.int .i64 qx.At), .d (.int .i64 qx.Until)])]⟩ (tl [(1, .v (.one (.box 0 0))), (2, .v (.one (.box 1 0))), (3, .v (.one (.box 4 0)))]) 5

theorem z342 (qx : api_Letter) (qx1 : List (List UInt8)) (qx2 : Int) {r} (hF : z338 qx qx1 qx2 = some r) : Awp prog 3 15 (cL (cR (cB f25))) (Out 3 z341 (z340 qx qx1 qx2) r) (z339 qx qx1 qx2) := by
  unfold z338 at hF
  refine bE hF fun vr1 h1 hF => ?_
  refine cE hF (fun h2 hF => ?_) fun h2 hF => ?_
  · refine awp_region ?_
    refine aR 3 ?_
    refine aCb (z618 h1) [] [] [3] h2 ?_
    refine aR 7 ?_
    refine aE ?_
    exact oO hF [] [] rfl
  · refine awp_region ?_
    refine aR 3 ?_
    refine aCb (z618 h1) [] [] [3] h2 ?_
    refine aR 7 ?_
    refine aE ?_
    exact oO hF [] [] rfl

def z336 (qx : api_Letter) (qx1 : List (List UInt8)) (qx2 : Int) (r : Bool) : TV × Mem := (.v (.one (.d (.bool r))), ⟨[(3, ⟨9, 1, List.map encS qx1⟩)], [(0, [.own 3 none]), (1, [.d (.int .i64 qx2)])]⟩)

theorem z337 {qx : api_Letter} {qx1 : List (List UInt8)} {qx2 : Int} {r} (hF : z335 qx qx1 qx2 = some r) : Holds prog 25 [.v (.agg [.d (.str qx.Id), .d (.str qx.Slot), .d (.str qx.Body), .d (.int .i64 qx.Prio), .d (.int .i64 qx.At), .d (.int .i64 qx.Until)]), .v (.one (.box 0 0)), .v (.one (.box 1 0))] ⟨[(2, ⟨9, 1, List.map encS qx1⟩)], [(0, [.own 2 none]), (1, [.d (.int .i64 qx2)])]⟩ (Is (z336 qx qx1 qx2 r)) := by
  unfold z335 at hF
  refine holds_of_awp hΓ (fn := f25) (c := cB f25) (A := 3) (nx := 3) (by kernel_rfl) (by kernel_rfl) (by kernel_rfl) (by kernel_rfl) (by kernel_rfl) (by kernel_rfl) (lowc_of (by kernel_rfl)) ?_
  show Awp prog 3 15 (cB f25) _ _
  refine awp_seq ?_
  refine awp_region ?_
  refine aR 2 ?_
  refine aE ?_
  refine awp_seq ?_
  refine awp_to (st' := z339 qx qx1 qx2) (oT [(3, 2), (4, 3)] []) ?_
  refine bE hF fun vx1 h3 hF => ?_
  refine awp_sub (z342 qx qx1 qx2 h3) ?_
  refine awp_ret ?_
  exact oF hF [] []

/-! ### slices.IndexFunc[[]beaconfleet/api.Letter,beaconfleet/api.Letter] -/
def z641 : Unit ⊕ Int → AEx
  | .inl _ => .exit 0
  | .inr _ => .ret

def z640 (qs : List api_Letter) (qf : List (List UInt8)) (qf1 : Int) : Unit ⊕ Int → St
  | .inl _ => Mem.st ⟨[(3, ⟨9, 1, List.map encS qf⟩)], [(0, [.own 3 none]), (1, [.d (.int .i64 qf1)])]⟩ (tl []) 4
  | .inr vx1 => Mem.st ⟨[(3, ⟨9, 1, List.map encS qf⟩)], [(0, [.own 3 none]), (1, [.d (.int .i64 qf1)])]⟩ (tl [(4, .v (.one (.d (.int .i64 vx1))))]) 4

def z639 (qs : List api_Letter) (qf : List (List UInt8)) (qf1 : Int) : Int → St
  | vx => Mem.st ⟨[(3, ⟨9, 1, List.map encS qf⟩)], [(0, [.own 3 none]), (1, [.d (.int .i64 qf1)])]⟩ (tl [(0, .v (.one (.d (.lst (List.map api_Letter.enc qs))))), (1, .v (.one (.fn 25 [0, 1]))), (7, .v (.one (.d (.int .i64 (qs.length : Int))))), (8, .v (.one (.d (.int .i64 vx))))]) 4

theorem z642 (qs : List api_Letter) (qf : List (List UInt8)) (qf1 : Int) (vx : Int) (r : (Int) ⊕ (Unit ⊕ Int)) (hF : z638 qs qf qf1 vx = some r) : Awp prog 3 19 (cL (cL (cR (cL (cR (cB f86)))))) (Out 3 (kk z641) (SS (z639 qs qf qf1) (z640 qs qf qf1)) r) (z639 qs qf qf1 vx) := by
  unfold z638 at hF
  refine awp_seq ?_
  refine awp_region ?_
  refine aR 1 ?_
  refine aE ?_
  refine awp_seq ?_
  refine cE hF (fun h1 hF => ?_) fun h1 hF => ?_
  · refine awp_true (by kernel_rfl) h1 ?_
    refine awp_skip ?_
    refine awp_seq ?_
    refine awp_block ?_
    refine awp_seq ?_
    refine awp_region ?_
    refine aR 2 ?_
    refine aE ?_
    refine awp_seq ?_
    refine bE hF fun vy1 h2 hF => ?_
    refine bE hF fun vr1 h3 hF => ?_
    refine awp_region ?_
    refine aR 3 ?_
    refine aX (x_idx api_Letter.enc h2) ?_
    refine aR 1 ?_
    refine aC (z337 h3) [(2, 3)] [] [] ?_
    refine aE ?_
    refine cE hF (fun h4 hF => ?_) fun h4 hF => ?_
    · refine awp_true (by kernel_rfl) h4 ?_
      refine awp_seq ?_
      refine awp_region ?_
      refine aR 2 ?_
      refine aE ?_
      refine awp_ret ?_
      exact oO hF [(3, 8007)] [] rfl
    · refine awp_false (by kernel_rfl) h4 ?_
      refine awp_skip ?_
      refine awp_region ?_
      refine aR 2 ?_
      refine aE ?_
      exact oO hF [(3, 8007)] [] rfl
  · refine awp_false (by kernel_rfl) h1 ?_
    refine awp_exit ?_
    exact oO hF [] [] rfl

def z636 (qs : List api_Letter) (qf : List (List UInt8)) (qf1 : Int) (r : Int) : TV × Mem := (.v (.one (.d (.int .i64 r))), ⟨[(3, ⟨9, 1, List.map encS qf⟩)], [(0, [.own 3 none]), (1, [.d (.int .i64 qf1)])]⟩)

theorem z637 {qs : List api_Letter} {qf : List (List UInt8)} {qf1 : Int} {r} (hF : z635 qs qf qf1 = some r) : Holds prog 86 [.v (.one (.d (.lst (List.map api_Letter.enc qs)))), .v (.one (.fn 25 [0, 1]))] ⟨[(2, ⟨9, 1, List.map encS qf⟩)], [(0, [.own 2 none]), (1, [.d (.int .i64 qf1)])]⟩ (Is (z636 qs qf qf1 r)) := by
  unfold z635 at hF
  refine holds_of_awp hΓ (fn := f86) (c := cB f86) (A := 3) (nx := 3) (by kernel_rfl) (by kernel_rfl) (by kernel_rfl) (by kernel_rfl) (by kernel_rfl) (by kernel_rfl) (lowc_of (by kernel_rfl)) ?_
  show Awp prog 3 19 (cB f86) _ _
  refine awp_seq ?_
  refine awp_region ?_
  refine aR 1 ?_
  refine aE ?_
  refine awp_seq ?_
  refine awp_seq ?_
  refine awp_region ?_
  refine aR 1 ?_
  refine aL api_Letter.enc qs ?_
  refine aR 1 ?_
  refine aE ?_
  refine awp_block ?_
  refine awp_to (st' := z639 qs qf qf1 0) (oT [(3, 2)] []) ?_
  refine bE hF fun x h5 hF => ?_
  rcases x with _ | vx1_1
  · refine awp_sub (awp_loop' (z639 qs qf qf1) z641 (z640 qs qf qf1) (by intro x; rcases x with x | x <;> exact fun h => nomatch h) h5 (z642 qs qf qf1)) ?_
    refine awp_seq ?_
    refine awp_region ?_
    refine aR 1 ?_
    refine aE ?_
    refine awp_ret ?_
    exact oF hF [] []
  · refine awp_sub (awp_loop' (z639 qs qf qf1) z641 (z640 qs qf qf1) (by intro x; rcases x with x | x <;> exact fun h => nomatch h) h5 (z642 qs qf qf1)) ?_
    exact oF hF [] []

/-! ### slices.ContainsFunc[[]beaconfleet/api.Letter,beaconfleet/api.Letter] -/
def z611 (qs : List api_Letter) (qf : List (List UInt8)) (qf1 : Int) (r : Bool) : TV × Mem := (.v (.one (.d (.bool r))), ⟨[(3, ⟨9, 1, List.map encS qf⟩)], [(0, [.own 3 none]), (1, [.d (.int .i64 qf1)])]⟩)

theorem z612 {qs : List api_Letter} {qf : List (List UInt8)} {qf1 : Int} {r} (hF : z610 qs qf qf1 = some r) : Holds prog 24 [.v (.one (.d (.lst (List.map api_Letter.enc qs)))), .v (.one (.fn 25 [0, 1]))] ⟨[(2, ⟨9, 1, List.map encS qf⟩)], [(0, [.own 2 none]), (1, [.d (.int .i64 qf1)])]⟩ (Is (z611 qs qf qf1 r)) := by
  unfold z610 at hF
  refine holds_of_awp hΓ (fn := f24) (c := cB f24) (A := 3) (nx := 3) (by kernel_rfl) (by kernel_rfl) (by kernel_rfl) (by kernel_rfl) (by kernel_rfl) (by kernel_rfl) (lowc_of (by kernel_rfl)) ?_
  show Awp prog 3 9 (cB f24) _ _
  refine awp_seq ?_
  refine awp_region ?_
  refine aR 1 ?_
  refine aE ?_
  refine awp_seq ?_
  refine bE hF fun vr2 h1 hF => ?_
  refine awp_region ?_
  refine aR 2 ?_
  refine aC (z637 h1) [] [] [] ?_
  refine aR 2 ?_
  refine aE ?_
  refine awp_ret ?_
  exact oF hF [(3, 3006)] []

/-! ### beaconfleet/command.CheckNotes -/
def z183 : Bool → AEx
  | _ => .normal

def z182 (ql : List api_Note) (vx : Int) (vy2 : api_Note) : Bool → St
  | vx3 => Mem.st ⟨[], [(0, [.d (.str vy2.Letter.Id), .d (.str vy2.Letter.Slot), .d (.str vy2.Letter.Body), .d (.int .i64 vy2.Letter.Prio), .d (.int .i64 vy2.Letter.At), .d (.int .i64 vy2.Letter.Until), .d (.int .i64 vy2.State), .d (.int .i64 vy2.Tries), .d (.int .i64 vy2.Since)])]⟩ (tl [(0, .v (.one (.d (.lst (List.map api_Note.enc ql))))), (3, .v (.one (.d (.int .i64 vx)))), (4, .v (.one (.box 0 0))), (9, .v (.one (.d (.lst (List.map api_Note.enc ql))))), (10, .v (.one (.d (.int .i64 (ql.length : Int))))), (11, .v (.one (.d (.int .i64 vx)))), (26, .v (.one (.d (.bool vx3))))]) 1

def z181 (ql : List api_Note) (vx : Int) (vy2 : api_Note) : St := Mem.st ⟨[], [(0, [.d (.str vy2.Letter.Id), .d (.str vy2.Letter.Slot), .d (.str vy2.Letter.Body), .d (.int .i64 vy2.Letter.Prio), .d (.int .i64 vy2.Letter.At), .d (.int .i64 vy2.Letter.Until), .d (.int .i64 vy2.State), .d (.int .i64 vy2.Tries), .d (.int .i64 vy2.Since)])]⟩ (tl [(0, .v (.one (.d (.lst (List.map api_Note.enc ql))))), (3, .v (.one (.d (.int .i64 vx)))), (4, .v (.one (.box 0 0))), (9, .v (.one (.d (.lst (List.map api_Note.enc ql))))), (10, .v (.one (.d (.int .i64 (ql.length : Int))))), (11, .v (.one (.d (.int .i64 vx))))]) 1

theorem z184 (ql : List api_Note) (vx : Int) (vy2 : api_Note) {r} (hF : z180 vy2 = some r) : Awp prog 0 53 (cL (cR (cR (cL (cR (cR (cL (cL (cR (cR (cL (cL (cR (cL (cR (cR (cB f29))))))))))))))))) (Out 0 z183 (z182 ql vx vy2) r) (z181 ql vx vy2) := by
  unfold z180 at hF
  refine bE hF fun vr4 h8 hF => ?_
  refine cE hF (fun h9 hF => ?_) fun h9 hF => ?_
  · refine awp_region ?_
    refine aR 2 ?_
    refine aCb (z73 h8) [] [] [] h9 ?_
    refine aR 7 ?_
    refine aE ?_
    exact oO hF [] [] rfl
  · refine bE hF fun vr1_2 h10 hF => ?_
    refine awp_region ?_
    refine aR 2 ?_
    refine aCb (z73 h8) [] [] [] h9 ?_
    refine aR 3 ?_
    refine aC (z43 h10) [] [] [] ?_
    refine aR 3 ?_
    refine aE ?_
    exact oO hF [] [] rfl

def z188 : Bool → AEx
  | _ => .normal

def z187 (ql : List api_Note) (vx : Int) (vy2 : api_Note) : Bool → St
  | vx4 => Mem.st ⟨[], []⟩ (tl [(0, .v (.one (.d (.lst (List.map api_Note.enc ql))))), (9, .v (.one (.d (.lst (List.map api_Note.enc ql))))), (10, .v (.one (.d (.int .i64 (ql.length : Int))))), (11, .v (.one (.d (.int .i64 vx)))), (36, .v (.one (.d (.bool vx4))))]) 0

def z186 (ql : List api_Note) (vx : Int) (vy2 : api_Note) : St := Mem.st ⟨[], [(0, [.d (.str vy2.Letter.Id), .d (.str vy2.Letter.Slot), .d (.str vy2.Letter.Body), .d (.int .i64 vy2.Letter.Prio), .d (.int .i64 vy2.Letter.At), .d (.int .i64 vy2.Letter.Until), .d (.int .i64 vy2.State), .d (.int .i64 vy2.Tries), .d (.int .i64 vy2.Since)])]⟩ (tl [(0, .v (.one (.d (.lst (List.map api_Note.enc ql))))), (3, .v (.one (.d (.int .i64 vx)))), (4, .v (.one (.box 0 0))), (9, .v (.one (.d (.lst (List.map api_Note.enc ql))))), (10, .v (.one (.d (.int .i64 (ql.length : Int))))), (11, .v (.one (.d (.int .i64 vx))))]) 1

theorem z189 (ql : List api_Note) (vx : Int) (vy2 : api_Note) {r} (hF : z185 ql vx vy2 = some r) : Awp prog 0 53 (cL (cR (cR (cR (cR (cL (cR (cR (cL (cL (cR (cR (cL (cL (cR (cL (cR (cR (cB f29))))))))))))))))))) (Out 0 z188 (z187 ql vx vy2) r) (z186 ql vx vy2) := by
  unfold z185 at hF
  refine cE hF (fun h13 hF => ?_) fun h13 hF => ?_
  · refine bE hF fun vy3 h14 hF => ?_
    refine aD ?_
    refine dR 1 ?_
    refine dB h13 ?_
    refine dR 7 ?_
    refine dX (x_idx api_Note.enc h14) ?_
    refine dR 6 ?_
    refine dE ?_
    exact oO hF [] [] rfl
  · refine aD ?_
    refine dR 1 ?_
    refine dB h13 ?_
    refine dR 14 ?_
    refine dE ?_
    exact oO hF [] [] rfl

def z178 : Unit ⊕ Int → AEx
  | .inl _ => .exit 0
  | .inr _ => .ret

def z177 (ql : List api_Note) : Unit ⊕ Int → St
  | .inl _ => Mem.st ⟨[], []⟩ (tl []) 0
  | .inr vx5 => Mem.st ⟨[], []⟩ (tl [(2, .v (.one (.d (.int .i64 vx5))))]) 0

def z176 (ql : List api_Note) : Int → St
  | vx => Mem.st ⟨[], []⟩ (tl [(0, .v (.one (.d (.lst (List.map api_Note.enc ql))))), (9, .v (.one (.d (.lst (List.map api_Note.enc ql))))), (10, .v (.one (.d (.int .i64 (ql.length : Int))))), (11, .v (.one (.d (.int .i64 vx))))]) 0

theorem z179 (ql : List api_Note) (vx : Int) (r : (Int) ⊕ (Unit ⊕ Int)) (hF : z175 ql vx = some r) : Awp prog 0 53 (cL (cL (cR (cL (cR (cR (cB f29))))))) (Out 0 (kk z178) (SS (z176 ql) (z177 ql)) r) (z176 ql vx) := by
  unfold z175 at hF
  refine awp_seq ?_
  refine awp_region ?_
  refine aR 1 ?_
  refine aE ?_
  refine awp_seq ?_
  refine cE hF (fun h2 hF => ?_) fun h2 hF => ?_
  · refine awp_true (by kernel_rfl) h2 ?_
    refine awp_skip ?_
    refine awp_seq ?_
    refine awp_block ?_
    refine awp_seq ?_
    refine bE hF fun vy2 h3 hF => ?_
    refine awp_region ?_
    refine aR 1 ?_
    refine aX (x_idx api_Note.enc h3) ?_
    refine aR 4 ?_
    refine aE ?_
    refine awp_seq ?_
    refine awp_seq ?_
    refine bE hF fun vr3_1 h4 hF => ?_
    refine awp_region ?_
    refine aR 2 ?_
    refine aC (z161 h4) [] [] [] ?_
    refine aR 1 ?_
    refine aE ?_
    refine awp_seq ?_
    refine awp_region ?_
    refine aR 2 ?_
    refine aE ?_
    refine cE hF (fun h5 hF => ?_) fun h5 hF => ?_
    · refine awp_true (by kernel_rfl) h5 ?_
      refine awp_seq ?_
      refine awp_region ?_
      refine aR 2 ?_
      refine aE ?_
      refine awp_ret ?_
      exact oO hF [] [] rfl
    · refine awp_false (by kernel_rfl) h5 ?_
      refine awp_skip ?_
      refine awp_block ?_
      refine awp_seq ?_
      refine bE hF fun vr2 h6 hF => ?_
      refine awp_region ?_
      refine aR 2 ?_
      refine aC (z73 h6) [] [] [] ?_
      refine aR 1 ?_
      refine aE ?_
      refine cE hF (fun h7 hF => ?_) fun h7 hF => ?_
      · refine awp_true (by kernel_rfl) h7 ?_
        refine awp_seq ?_
        refine awp_region ?_
        refine aR 1 ?_
        refine aE ?_
        refine awp_ret ?_
        exact oO hF [] [] rfl
      · refine awp_false (by kernel_rfl) h7 ?_
        refine awp_seq ?_
        refine awp_to (st' := z181 ql vx vy2) (oT [(0, 4000)] []) ?_
        refine bE hF fun vx3_1 h11 hF => ?_
        refine awp_sub (z184 ql vx vy2 h11) ?_
        refine cE hF (fun h12 hF => ?_) fun h12 hF => ?_
        · refine awp_true (by kernel_rfl) h12 ?_
          refine awp_seq ?_
          refine awp_region ?_
          refine aR 1 ?_
          refine aE ?_
          refine awp_ret ?_
          exact oO hF [] [] rfl
        · refine awp_false (by kernel_rfl) h12 ?_
          refine awp_seq ?_
          refine awp_to (st' := z186 ql vx vy2) (oT [] []) ?_
          refine bE hF fun vx4_1 h15 hF => ?_
          refine awp_sub (z189 ql vx vy2 h15) ?_
          refine cE hF (fun h16 hF => ?_) fun h16 hF => ?_
          · refine awp_true (by kernel_rfl) h16 ?_
            refine awp_seq ?_
            refine awp_region ?_
            refine aR 1 ?_
            refine aE ?_
            refine awp_ret ?_
            exact oO hF [] [] rfl
          · refine awp_false (by kernel_rfl) h16 ?_
            refine awp_skip ?_
            refine awp_region ?_
            refine aR 2 ?_
            refine aE ?_
            exact oO hF [] [] rfl
  · refine awp_false (by kernel_rfl) h2 ?_
    refine awp_exit ?_
    exact oO hF [] [] rfl

def z173 (ql : List api_Note) (r : Int) : TV × Mem := (.v (.one (.d (.int .i64 r))), ⟨[], []⟩)

theorem z174 {ql : List api_Note} {r} (hF : z172 ql = some r) : Holds prog 29 [.v (.one (.d (.lst (List.map api_Note.enc ql))))] ⟨[], []⟩ (Is (z173 ql r)) := by
  unfold z172 at hF
  refine holds_of_awp hΓ (fn := f29) (c := cB f29) (A := 0) (nx := 0) (by kernel_rfl) (by kernel_rfl) (by kernel_rfl) (by kernel_rfl) (by kernel_rfl) (by kernel_rfl) (lowc_of (by kernel_rfl)) ?_
  show Awp prog 0 53 (cB f29) _ _
  refine awp_seq ?_
  refine awp_region ?_
  refine aR 1 ?_
  refine aE ?_
  refine awp_seq ?_
  refine awp_seq ?_
  refine awp_region ?_
  refine aR 1 ?_
  refine aL api_Note.enc ql ?_
  refine aR 1 ?_
  refine aE ?_
  refine cE hF (fun h1 hF => ?_) fun h1 hF => ?_
  · refine awp_true (by kernel_rfl) h1 ?_
    refine awp_seq ?_
    refine awp_region ?_
    refine aR 1 ?_
    refine aE ?_
    refine awp_ret ?_
    exact oF hF [] []
  · refine awp_false (by kernel_rfl) h1 ?_
    refine awp_skip ?_
    refine awp_seq ?_
    refine awp_seq ?_
    refine awp_region ?_
    refine aR 1 ?_
    refine aL api_Note.enc ql ?_
    refine aR 1 ?_
    refine aE ?_
    refine awp_block ?_
    refine awp_to (st' := z176 ql 0) (oT [] []) ?_
    refine bE hF fun x h17 hF => ?_
    rcases x with _ | vx5_1
    · refine awp_sub (awp_loop' (z176 ql) z178 (z177 ql) (by intro x; rcases x with x | x <;> exact fun h => nomatch h) h17 (z179 ql)) ?_
      refine awp_seq ?_
      refine awp_region ?_
      refine aR 1 ?_
      refine aE ?_
      refine awp_ret ?_
      exact oF hF [] []
    · refine awp_sub (awp_loop' (z176 ql) z178 (z177 ql) (by intro x; rcases x with x | x <;> exact fun h => nomatch h) h17 (z179 ql)) ?_
      exact oF hF [] []

/-! ### beaconfleet/fleetkeep2.LettersEnd -/
def z387 : Unit → AEx
  | _ => .normal

def z386 (qx : List Int) (vr4 : api_Post) (vr : Int) : Unit → St
  | _ => Mem.st ⟨[], [(0, [.d (.lst (List.map (encI .i64) qx)), .d (.int .i64 (IntKind.wrap .i64 ((IntKind.wrap .i64 ((IntKind.wrap .i64 ((IntKind.wrap .i64 (0 + 1)) + 1)) + 1)) + 1)))]), (1, [.d (.int .i64 vr4.Room), .d (.int .i64 vr4.Timeout), .d (.int .i64 vr4.Tries), .d (.int .i64 1000)])]⟩ (tl [(3, .v (.one (.box 0 0))), (4, .v (.one (.box 1 0))), (5, .v (.one (.nilp))), (38, .v (.one (.d (.bool true))))]) 2

def z385 (qx : List Int) (vr4 : api_Post) (vr : Int) : St := Mem.st ⟨[], [(0, [.d (.lst (List.map (encI .i64) qx)), .d (.int .i64 (IntKind.wrap .i64 ((IntKind.wrap .i64 ((IntKind.wrap .i64 ((IntKind.wrap .i64 (0 + 1)) + 1)) + 1)) + 1)))]), (1, [.d (.int .i64 vr4.Room), .d (.int .i64 vr4.Timeout), .d (.int .i64 vr4.Tries), .d (.int .i64 1000)])]⟩ (tl [(3, .v (.one (.box 0 0))), (4, .v (.one (.box 1 0))), (5, .v (.one (.nilp))), (6, .v (.one (.d (.int .i64 vr))))]) 2

theorem z388 (qx : List Int) (vr4 : api_Post) (vr : Int) {r} (hF : z344 vr = some r) : Awp prog 0 195 (cL (cL (cR (cR (cR (cR (cR (cB f5)))))))) (Out 0 z387 (z386 qx vr4 vr) r) (z385 qx vr4 vr) := by
  unfold z344 at hF
  refine cE hF (fun h3 hF => ?_) fun h3 hF => ?_
  · refine awp_region ?_
    refine aR 1 ?_
    refine aB h3 ?_
    refine aR 4 ?_
    refine aE ?_
    exact oO hF [] [] rfl
  · refine awp_region ?_
    refine aR 1 ?_
    refine aB h3 ?_
    refine aR 4 ?_
    refine aE ?_
    exact oO hF [] [] rfl

def z392 : Bool → AEx
  | _ => .normal

def z391 (qx : List Int) (vr4 : api_Post) : Bool → St
  | vx => Mem.st ⟨[], [(0, [.d (.lst (List.map (encI .i64) qx)), .d (.int .i64 (IntKind.wrap .i64 ((IntKind.wrap .i64 ((IntKind.wrap .i64 ((IntKind.wrap .i64 (0 + 1)) + 1)) + 1)) + 1)))]), (1, [.d (.int .i64 vr4.Room), .d (.int .i64 vr4.Timeout), .d (.int .i64 vr4.Tries), .d (.int .i64 1000)]), (2, [.d (.int .i64 vr4.Room), .d (.int .i64 vr4.Timeout), .d (.int .i64 vr4.Tries), .d (.int .i64 1000), .mapp 3, .d (.int .i64 0)]), (3, [.mapc .str true (List.map (encM D.str api_Note.enc) ([] : List (List UInt8 × api_Note)))])]⟩ (tl [(3, .v (.one (.box 0 0))), (4, .v (.one (.box 1 0))), (5, .v (.one (.box 2 0))), (38, .v (.one (.d (.bool vx))))]) 4

def z390 (qx : List Int) (vr4 : api_Post) : St := Mem.st ⟨[], [(0, [.d (.lst (List.map (encI .i64) qx)), .d (.int .i64 (IntKind.wrap .i64 ((IntKind.wrap .i64 ((IntKind.wrap .i64 ((IntKind.wrap .i64 (0 + 1)) + 1)) + 1)) + 1)))]), (1, [.d (.int .i64 vr4.Room), .d (.int .i64 vr4.Timeout), .d (.int .i64 vr4.Tries), .d (.int .i64 1000)]), (2, [.d (.int .i64 vr4.Room), .d (.int .i64 vr4.Timeout), .d (.int .i64 vr4.Tries), .d (.int .i64 1000), .mapp 3, .d (.int .i64 0)]), (3, [.mapc .str true (List.map (encM D.str api_Note.enc) ([] : List (List UInt8 × api_Note)))])]⟩ (tl [(3, .v (.one (.box 0 0))), (4, .v (.one (.box 1 0))), (5, .v (.one (.box 2 0))), (6, .v (.one (.d (.int .i64 0))))]) 4

theorem z393 (qx : List Int) (vr4 : api_Post) {r} (hF : z389  = some r) : Awp prog 0 195 (cL (cL (cR (cR (cR (cR (cR (cB f5)))))))) (Out 0 z392 (z391 qx vr4) r) (z390 qx vr4) := by
  unfold z389 at hF
  refine cE hF (fun h5 hF => ?_) fun h5 hF => ?_
  · refine awp_region ?_
    refine aR 1 ?_
    refine aB h5 ?_
    refine aR 4 ?_
    refine aE ?_
    exact oO hF [] [] rfl
  · refine awp_region ?_
    refine aR 1 ?_
    refine aB h5 ?_
    refine aR 4 ?_
    refine aE ?_
    exact oO hF [] [] rfl

def z407 : ((List (List UInt8 × api_Note)) × Int × Bool) → AEx
  | _ => .normal

def z406 (vr4 : api_Post) (vr1 : Int) (vx2 : z453) (vm : List (List UInt8 × api_Note)) (vx3 : Int) (vx4 : List (List UInt8)) (vx5 : Int) (vx6 : List api_Letter) (vx7 : Int) (vr9 : Int) (vr5_1 : api_Letter) : ((List (List UInt8 × api_Note)) × Int × Bool) → St
  | (vm9, vx25, vx26) => Mem.st ⟨[(5, ⟨9, 1, List.map encS vx4⟩), (8, ⟨32, 6, List.map api_Letter.enc vx6⟩)], [(0, [.d (.lst (List.map (encI .i64) vx2.L)), .d (.int .i64 (IntKind.wrap .i64 ((IntKind.wrap .i64 ((IntKind.wrap .i64 ((IntKind.wrap .i64 ((IntKind.wrap .i64 ((IntKind.wrap .i64 ((IntKind.wrap .i64 (vx2.at_ + 1)) + 1)) + 1)) + 1)) + 1)) + 1)) + 1)))]), (1, [.d (.int .i64 vr4.Room), .d (.int .i64 vr4.Timeout), .d (.int .i64 vr4.Tries), .d (.int .i64 1000)]), (2, [.d (.int .i64 vr4.Room), .d (.int .i64 vr4.Timeout), .d (.int .i64 vr4.Tries), .d (.int .i64 1000), .mapp 3, .d (.int .i64 vx25)]), (3, [.mapc .str true (List.map (encM D.str api_Note.enc) vm9)]), (4, [.own 5 none]), (6, [.d (.int .i64 (IntKind.wrap .i64 (vx5 + vr9)))]), (7, [.d (.str vr5_1.Id), .d (.str vr5_1.Slot), .d (.str vr5_1.Body), .d (.int .i64 vr5_1.Prio), .d (.int .i64 vr5_1.At), .d (.int .i64 vr5_1.Until)])]⟩ (tl [(3, .v (.one (.box 0 0))), (4, .v (.one (.box 1 0))), (5, .v (.one (.box 2 0))), (7, .v (.one (.own 8 none))), (8, .v (.one (.box 4 0))), (9, .v (.one (.box 6 0))), (10, .v (.one (.box 7 0))), (40, .v (.one (.d (.int .i64 vr1)))), (41, .v (.one (.d (.int .i64 vx7)))), (70, .v (.one (.d (.bool vx26))))]) 9

def z405 (vr4 : api_Post) (vr1 : Int) (vx2 : z453) (vm : List (List UInt8 × api_Note)) (vx3 : Int) (vx4 : List (List UInt8)) (vx5 : Int) (vx6 : List api_Letter) (vx7 : Int) (vr9 : Int) (vr5_1 : api_Letter) : St := Mem.st ⟨[(5, ⟨9, 1, List.map encS vx4⟩), (8, ⟨32, 6, List.map api_Letter.enc vx6⟩)], [(0, [.d (.lst (List.map (encI .i64) vx2.L)), .d (.int .i64 (IntKind.wrap .i64 ((IntKind.wrap .i64 ((IntKind.wrap .i64 ((IntKind.wrap .i64 ((IntKind.wrap .i64 ((IntKind.wrap .i64 ((IntKind.wrap .i64 (vx2.at_ + 1)) + 1)) + 1)) + 1)) + 1)) + 1)) + 1)))]), (1, [.d (.int .i64 vr4.Room), .d (.int .i64 vr4.Timeout), .d (.int .i64 vr4.Tries), .d (.int .i64 1000)]), (2, [.d (.int .i64 vr4.Room), .d (.int .i64 vr4.Timeout), .d (.int .i64 vr4.Tries), .d (.int .i64 1000), .mapp 3, .d (.int .i64 vx3)]), (3, [.mapc .str true (List.map (encM D.str api_Note.enc) vm)]), (4, [.own 5 none]), (6, [.d (.int .i64 (IntKind.wrap .i64 (vx5 + vr9)))]), (7, [.d (.str vr5_1.Id), .d (.str vr5_1.Slot), .d (.str vr5_1.Body), .d (.int .i64 vr5_1.Prio), .d (.int .i64 vr5_1.At), .d (.int .i64 vr5_1.Until)])]⟩ (tl [(3, .v (.one (.box 0 0))), (4, .v (.one (.box 1 0))), (5, .v (.one (.box 2 0))), (7, .v (.one (.own 8 none))), (8, .v (.one (.box 4 0))), (9, .v (.one (.box 6 0))), (10, .v (.one (.box 7 0))), (40, .v (.one (.d (.int .i64 vr1)))), (41, .v (.one (.d (.int .i64 vx7))))]) 9

theorem z408 (vr4 : api_Post) (vr1 : Int) (vx2 : z453) (vm : List (List UInt8 × api_Note)) (vx3 : Int) (vx4 : List (List UInt8)) (vx5 : Int) (vx6 : List api_Letter) (vx7 : Int) (vr9 : Int) (vr5_1 : api_Letter) {r} (hF : z404 vr4 vm vx3 vr5_1 = some r) : Awp prog 0 195 (cL (cR (cL (cR (cL (cR (cL (cR (cL (cL (cR (cR (cL (cL (cR (cL (cR (cR (cR (cR (cR (cR (cR (cR (cR (cB f5)))))))))))))))))))))))))) (Out 0 z407 (z406 vr4 vr1 vx2 vm vx3 vx4 vx5 vx6 vx7 vr9 vr5_1) r) (z405 vr4 vr1 vx2 vm vx3 vx4 vx5 vx6 vx7 vr9 vr5_1) := by
  unfold z404 at hF
  refine bE hF fun x h14 hF => ?_
  rcases x with vr4_3 | vm2_2
  · refine awp_region ?_
    refine aR 2 ?_
    refine aC (z240 h14) [(0, 2), (1, 3)] [] [] ?_
    refine aR 1 ?_
    refine aE ?_
    exact oO hF [] [] rfl
  · refine awp_region ?_
    refine aR 2 ?_
    refine aC (z240 h14) [(0, 2), (1, 3)] [] [] ?_
    refine aR 1 ?_
    refine aE ?_
    exact oO hF [(3, 2011)] [] rfl

def z412 : (z453 × (List (List UInt8 × api_Note)) × Int × (List api_Letter) × Int) → AEx
  | _ => .normal

def z411 (vr4 : api_Post) (vr1 : Int) (vx2 : z453) (vm : List (List UInt8 × api_Note)) (vx3 : Int) (vx4 : List (List UInt8)) (vx5 : Int) (vx6 : List api_Letter) (vx7 : Int) (vr9 : Int) : (z453 × (List (List UInt8 × api_Note)) × Int × (List api_Letter) × Int) → St
  | (vx27, vm10, vx28, vx29, vx30) => Mem.st ⟨[(5, ⟨9, 1, List.map encS vx4⟩), (7, ⟨32, 6, List.map api_Letter.enc vx6⟩)], [(0, [.d (.lst (List.map (encI .i64) vx27.L)), .d (.int .i64 vx27.at_)]), (1, [.d (.int .i64 vr4.Room), .d (.int .i64 vr4.Timeout), .d (.int .i64 vr4.Tries), .d (.int .i64 1000)]), (2, [.d (.int .i64 vr4.Room), .d (.int .i64 vr4.Timeout), .d (.int .i64 vr4.Tries), .d (.int .i64 1000), .mapp 3, .d (.int .i64 vx28)]), (3, [.mapc .str true (List.map (encM D.str api_Note.enc) vm10)]), (4, [.own 5 none]), (6, [.d (.int .i64 (IntKind.wrap .i64 (vx5 + vr9)))])]⟩ (tl [(3, .v (.one (.box 0 0))), (4, .v (.one (.box 1 0))), (5, .v (.one (.box 2 0))), (7, .v (.one (.own 7 none))), (8, .v (.one (.box 4 0))), (9, .v (.one (.box 6 0))), (11, .v (.one (.d (.lst (List.map api_Letter.enc vx29))))), (12, .v (.one (.d (.int .i64 vx30)))), (40, .v (.one (.d (.int .i64 vr1)))), (41, .v (.one (.d (.int .i64 vx7))))]) 8

def z410 (vr4 : api_Post) (vr1 : Int) (vx2 : z453) (vm : List (List UInt8 × api_Note)) (vx3 : Int) (vx4 : List (List UInt8)) (vx5 : Int) (vx6 : List api_Letter) (vx7 : Int) (vr9 : Int) : St := Mem.st ⟨[(5, ⟨9, 1, List.map encS vx4⟩), (7, ⟨32, 6, List.map api_Letter.enc vx6⟩)], [(0, [.d (.lst (List.map (encI .i64) vx2.L)), .d (.int .i64 (IntKind.wrap .i64 ((IntKind.wrap .i64 (vx2.at_ + 1)) + 1)))]), (1, [.d (.int .i64 vr4.Room), .d (.int .i64 vr4.Timeout), .d (.int .i64 vr4.Tries), .d (.int .i64 1000)]), (2, [.d (.int .i64 vr4.Room), .d (.int .i64 vr4.Timeout), .d (.int .i64 vr4.Tries), .d (.int .i64 1000), .mapp 3, .d (.int .i64 vx3)]), (3, [.mapc .str true (List.map (encM D.str api_Note.enc) vm)]), (4, [.own 5 none]), (6, [.d (.int .i64 (IntKind.wrap .i64 (vx5 + vr9)))])]⟩ (tl [(3, .v (.one (.box 0 0))), (4, .v (.one (.box 1 0))), (5, .v (.one (.box 2 0))), (7, .v (.one (.own 7 none))), (8, .v (.one (.box 4 0))), (9, .v (.one (.box 6 0))), (40, .v (.one (.d (.int .i64 vr1)))), (41, .v (.one (.d (.int .i64 vx7))))]) 8

theorem z413 (vr4 : api_Post) (vr1 : Int) (vx2 : z453) (vm : List (List UInt8 × api_Note)) (vx3 : Int) (vx4 : List (List UInt8)) (vx5 : Int) (vx6 : List api_Letter) (vx7 : Int) (vr9 : Int) {r} (hF : z409 vr4 vx2 vm vx3 vx5 vr9 = some r) : Awp prog 0 195 (cL (cL (cR (cR (cR (cL (cR (cL (cR (cL (cL (cR (cR (cL (cL (cR (cL (cR (cR (cR (cR (cR (cR (cR (cR (cR (cB f5))))))))))))))))))))))))))) (Out 0 z412 (z411 vr4 vr1 vx2 vm vx3 vx4 vx5 vx6 vx7 vr9) r) (z410 vr4 vr1 vx2 vm vx3 vx4 vx5 vx6 vx7 vr9) := by
  unfold z409 at hF
  refine bE hF fun x h19 hF => ?_
  obtain ⟨vs2, vr10⟩ := x
  refine bE hF fun x h20 hF => ?_
  rcases x with vr3_4 | ⟨vm2_3, vr4_4⟩
  · refine aD ?_
    refine dR 3 ?_
    refine dC (z462 h19) [] [] [] ?_
    refine dC (z216 h20) [(0, 2), (1, 3)] [] [] ?_
    refine dR 5 ?_
    refine dE ?_
    exact oO hF [] [] rfl
  · refine aD ?_
    refine dR 3 ?_
    refine dC (z462 h19) [] [] [] ?_
    refine dC (z216 h20) [(0, 2), (1, 3)] [] [] ?_
    refine dR 5 ?_
    refine dE ?_
    exact oO hF [(3, 4010)] [] rfl

def z417 : Bool → AEx
  | _ => .normal

def z416 (vr4 : api_Post) (vr1 : Int) (vx4 : List (List UInt8)) (vx5 : Int) (vx6 : List api_Letter) (vx7 : Int) (vr9 : Int) (vx27_1 : z453) (vm10_1 : List (List UInt8 × api_Note)) (vx28_1 : Int) (vx29_1 : List api_Letter) (vx30_1 : Int) : Bool → St
  | vx31 => Mem.st ⟨[(5, ⟨9, 1, List.map encS vx4⟩), (7, ⟨32, 6, List.map api_Letter.enc vx6⟩)], [(0, [.d (.lst (List.map (encI .i64) vx27_1.L)), .d (.int .i64 vx27_1.at_)]), (1, [.d (.int .i64 vr4.Room), .d (.int .i64 vr4.Timeout), .d (.int .i64 vr4.Tries), .d (.int .i64 1000)]), (2, [.d (.int .i64 vr4.Room), .d (.int .i64 vr4.Timeout), .d (.int .i64 vr4.Tries), .d (.int .i64 1000), .mapp 3, .d (.int .i64 vx28_1)]), (3, [.mapc .str true (List.map (encM D.str api_Note.enc) vm10_1)]), (4, [.own 5 none]), (6, [.d (.int .i64 (IntKind.wrap .i64 (vx5 + vr9)))])]⟩ (tl [(3, .v (.one (.box 0 0))), (4, .v (.one (.box 1 0))), (5, .v (.one (.box 2 0))), (7, .v (.one (.own 7 none))), (8, .v (.one (.box 4 0))), (9, .v (.one (.box 6 0))), (40, .v (.one (.d (.int .i64 vr1)))), (41, .v (.one (.d (.int .i64 vx7)))), (91, .v (.one (.d (.bool vx31))))]) 8

def z415 (vr4 : api_Post) (vr1 : Int) (vx4 : List (List UInt8)) (vx5 : Int) (vx6 : List api_Letter) (vx7 : Int) (vr9 : Int) (vx27_1 : z453) (vm10_1 : List (List UInt8 × api_Note)) (vx28_1 : Int) (vx29_1 : List api_Letter) (vx30_1 : Int) : St := Mem.st ⟨[(5, ⟨9, 1, List.map encS vx4⟩), (7, ⟨32, 6, List.map api_Letter.enc vx6⟩)], [(0, [.d (.lst (List.map (encI .i64) vx27_1.L)), .d (.int .i64 vx27_1.at_)]), (1, [.d (.int .i64 vr4.Room), .d (.int .i64 vr4.Timeout), .d (.int .i64 vr4.Tries), .d (.int .i64 1000)]), (2, [.d (.int .i64 vr4.Room), .d (.int .i64 vr4.Timeout), .d (.int .i64 vr4.Tries), .d (.int .i64 1000), .mapp 3, .d (.int .i64 vx28_1)]), (3, [.mapc .str true (List.map (encM D.str api_Note.enc) vm10_1)]), (4, [.own 5 none]), (6, [.d (.int .i64 (IntKind.wrap .i64 (vx5 + vr9)))])]⟩ (tl [(3, .v (.one (.box 0 0))), (4, .v (.one (.box 1 0))), (5, .v (.one (.box 2 0))), (7, .v (.one (.own 7 none))), (8, .v (.one (.box 4 0))), (9, .v (.one (.box 6 0))), (11, .v (.one (.d (.lst (List.map api_Letter.enc vx29_1))))), (12, .v (.one (.d (.int .i64 vx30_1)))), (40, .v (.one (.d (.int .i64 vr1)))), (41, .v (.one (.d (.int .i64 vx7))))]) 8

theorem z418 (vr4 : api_Post) (vr1 : Int) (vx4 : List (List UInt8)) (vx5 : Int) (vx6 : List api_Letter) (vx7 : Int) (vr9 : Int) (vx27_1 : z453) (vm10_1 : List (List UInt8 × api_Note)) (vx28_1 : Int) (vx29_1 : List api_Letter) (vx30_1 : Int) {r} (hF : z414 vx4 vx5 vr9 vx29_1 vx30_1 = some r) : Awp prog 0 195 (cL (cR (cL (cR (cR (cR (cL (cR (cL (cR (cL (cL (cR (cR (cL (cL (cR (cL (cR (cR (cR (cR (cR (cR (cR (cR (cR (cB f5)))))))))))))))))))))))))))) (Out 0 z417 (z416 vr4 vr1 vx4 vx5 vx6 vx7 vr9 vx27_1 vm10_1 vx28_1 vx29_1 vx30_1) r) (z415 vr4 vr1 vx4 vx5 vx6 vx7 vr9 vx27_1 vm10_1 vx28_1 vx29_1 vx30_1) := by
  unfold z414 at hF
  refine cE hF (fun h22 hF => ?_) fun h22 hF => ?_
  · refine awp_region ?_
    refine aR 1 ?_
    refine aB h22 ?_
    refine aR 5 ?_
    refine aE ?_
    exact oO hF [] [] rfl
  · refine bE hF fun vr11 h23 hF => ?_
    refine awp_region ?_
    refine aR 1 ?_
    refine aB h22 ?_
    refine aR 3 ?_
    refine aC (z612 h23) [(0, 4), (1, 6), (2, 5)] [] [] ?_
    refine aR 1 ?_
    refine aE ?_
    exact oO hF [(5, 5011)] [] rfl

def z422 : ((List (List UInt8 × api_Note)) × Int × Bool) → AEx
  | _ => .normal

def z421 (vr4 : api_Post) (vr1 : Int) (vx2 : z453) (vm : List (List UInt8 × api_Note)) (vx3 : Int) (vx4 : List (List UInt8)) (vx5 : Int) (vx6 : List api_Letter) (vx7 : Int) (vr9 : Int) (vr12 : List UInt8) : ((List (List UInt8 × api_Note)) × Int × Bool) → St
  | (vm12, vx32, vx33) => Mem.st ⟨[(5, ⟨9, 1, List.map encS vx4⟩), (7, ⟨32, 6, List.map api_Letter.enc vx6⟩)], [(0, [.d (.lst (List.map (encI .i64) vx2.L)), .d (.int .i64 (IntKind.wrap .i64 ((IntKind.wrap .i64 ((IntKind.wrap .i64 (vx2.at_ + 1)) + 1)) + 1)))]), (1, [.d (.int .i64 vr4.Room), .d (.int .i64 vr4.Timeout), .d (.int .i64 vr4.Tries), .d (.int .i64 1000)]), (2, [.d (.int .i64 vr4.Room), .d (.int .i64 vr4.Timeout), .d (.int .i64 vr4.Tries), .d (.int .i64 1000), .mapp 3, .d (.int .i64 vx32)]), (3, [.mapc .str true (List.map (encM D.str api_Note.enc) vm12)]), (4, [.own 5 none]), (6, [.d (.int .i64 (IntKind.wrap .i64 (vx5 + vr9)))])]⟩ (tl [(3, .v (.one (.box 0 0))), (4, .v (.one (.box 1 0))), (5, .v (.one (.box 2 0))), (7, .v (.one (.own 7 none))), (8, .v (.one (.box 4 0))), (9, .v (.one (.box 6 0))), (13, .v (.one (.d (.str vr12)))), (40, .v (.one (.d (.int .i64 vr1)))), (41, .v (.one (.d (.int .i64 vx7)))), (57, .v (.one (.d (.bool vx33))))]) 8

def z420 (vr4 : api_Post) (vr1 : Int) (vx2 : z453) (vm : List (List UInt8 × api_Note)) (vx3 : Int) (vx4 : List (List UInt8)) (vx5 : Int) (vx6 : List api_Letter) (vx7 : Int) (vr9 : Int) (vr12 : List UInt8) : St := Mem.st ⟨[(5, ⟨9, 1, List.map encS vx4⟩), (7, ⟨32, 6, List.map api_Letter.enc vx6⟩)], [(0, [.d (.lst (List.map (encI .i64) vx2.L)), .d (.int .i64 (IntKind.wrap .i64 ((IntKind.wrap .i64 ((IntKind.wrap .i64 (vx2.at_ + 1)) + 1)) + 1)))]), (1, [.d (.int .i64 vr4.Room), .d (.int .i64 vr4.Timeout), .d (.int .i64 vr4.Tries), .d (.int .i64 1000)]), (2, [.d (.int .i64 vr4.Room), .d (.int .i64 vr4.Timeout), .d (.int .i64 vr4.Tries), .d (.int .i64 1000), .mapp 3, .d (.int .i64 vx3)]), (3, [.mapc .str true (List.map (encM D.str api_Note.enc) vm)]), (4, [.own 5 none]), (6, [.d (.int .i64 (IntKind.wrap .i64 (vx5 + vr9)))])]⟩ (tl [(3, .v (.one (.box 0 0))), (4, .v (.one (.box 1 0))), (5, .v (.one (.box 2 0))), (7, .v (.one (.own 7 none))), (8, .v (.one (.box 4 0))), (9, .v (.one (.box 6 0))), (13, .v (.one (.d (.str vr12)))), (40, .v (.one (.d (.int .i64 vr1)))), (41, .v (.one (.d (.int .i64 vx7))))]) 8

theorem z423 (vr4 : api_Post) (vr1 : Int) (vx2 : z453) (vm : List (List UInt8 × api_Note)) (vx3 : Int) (vx4 : List (List UInt8)) (vx5 : Int) (vx6 : List api_Letter) (vx7 : Int) (vr9 : Int) (vr12 : List UInt8) {r} (hF : z419 vr4 vm vx3 vx5 vr9 vr12 = some r) : Awp prog 0 195 (cL (cR (cR (cR (cR (cR (cL (cR (cL (cR (cL (cL (cR (cR (cL (cL (cR (cL (cR (cR (cR (cR (cR (cR (cR (cR (cR (cB f5)))))))))))))))))))))))))))) (Out 0 z422 (z421 vr4 vr1 vx2 vm vx3 vx4 vx5 vx6 vx7 vr9 vr12) r) (z420 vr4 vr1 vx2 vm vx3 vx4 vx5 vx6 vx7 vr9 vr12) := by
  unfold z419 at hF
  refine bE hF fun x h27 hF => ?_
  rcases x with vr1_2 | vm11
  · refine awp_region ?_
    refine aR 3 ?_
    refine aC (z203 h27) [(0, 2), (1, 3)] [] [] ?_
    refine aR 1 ?_
    refine aE ?_
    exact oO hF [] [] rfl
  · refine awp_region ?_
    refine aR 3 ?_
    refine aC (z203 h27) [(0, 2), (1, 3)] [] [] ?_
    refine aR 1 ?_
    refine aE ?_
    exact oO hF [(3, 3010)] [] rfl

def z402 : (z453 × (List (List UInt8 × api_Note)) × Int × (List (List UInt8)) × (List api_Letter)) ⊕ Unit → AEx
  | .inl _ => .normal
  | .inr _ => .ret

def z401 (vr4 : api_Post) (vr1 : Int) (vx2 : z453) (vm : List (List UInt8 × api_Note)) (vx3 : Int) (vx4 : List (List UInt8)) (vx5 : Int) (vx6 : List api_Letter) (vx7 : Int) (vr9 : Int) : (z453 × (List (List UInt8 × api_Note)) × Int × (List (List UInt8)) × (List api_Letter)) ⊕ Unit → St
  | .inl (vx34, vm13, vx35, vx36, vx37) => Mem.st ⟨[(5, ⟨9, 1, List.map encS vx36⟩), (7, ⟨32, 6, List.map api_Letter.enc vx37⟩)], [(0, [.d (.lst (List.map (encI .i64) vx34.L)), .d (.int .i64 vx34.at_)]), (1, [.d (.int .i64 vr4.Room), .d (.int .i64 vr4.Timeout), .d (.int .i64 vr4.Tries), .d (.int .i64 1000)]), (2, [.d (.int .i64 vr4.Room), .d (.int .i64 vr4.Timeout), .d (.int .i64 vr4.Tries), .d (.int .i64 1000), .mapp 3, .d (.int .i64 vx35)]), (3, [.mapc .str true (List.map (encM D.str api_Note.enc) vm13)]), (4, [.own 5 none]), (6, [.d (.int .i64 (IntKind.wrap .i64 (vx5 + vr9)))])]⟩ (tl [(3, .v (.one (.box 0 0))), (4, .v (.one (.box 1 0))), (5, .v (.one (.box 2 0))), (7, .v (.one (.own 7 none))), (8, .v (.one (.box 4 0))), (9, .v (.one (.box 6 0))), (40, .v (.one (.d (.int .i64 vr1)))), (41, .v (.one (.d (.int .i64 vx7))))]) 8
  | .inr _ => Mem.st ⟨[], []⟩ (tl [(2, .v (.one (.d (.bool false))))]) 0

def z400 (vr4 : api_Post) (vr1 : Int) (vx2 : z453) (vm : List (List UInt8 × api_Note)) (vx3 : Int) (vx4 : List (List UInt8)) (vx5 : Int) (vx6 : List api_Letter) (vx7 : Int) (vr9 : Int) : St := Mem.st ⟨[(5, ⟨9, 1, List.map encS vx4⟩), (7, ⟨32, 6, List.map api_Letter.enc vx6⟩)], [(0, [.d (.lst (List.map (encI .i64) vx2.L)), .d (.int .i64 (IntKind.wrap .i64 (vx2.at_ + 1)))]), (1, [.d (.int .i64 vr4.Room), .d (.int .i64 vr4.Timeout), .d (.int .i64 vr4.Tries), .d (.int .i64 1000)]), (2, [.d (.int .i64 vr4.Room), .d (.int .i64 vr4.Timeout), .d (.int .i64 vr4.Tries), .d (.int .i64 1000), .mapp 3, .d (.int .i64 vx3)]), (3, [.mapc .str true (List.map (encM D.str api_Note.enc) vm)]), (4, [.own 5 none]), (6, [.d (.int .i64 (IntKind.wrap .i64 (vx5 + vr9)))])]⟩ (tl [(3, .v (.one (.box 0 0))), (4, .v (.one (.box 1 0))), (5, .v (.one (.box 2 0))), (7, .v (.one (.own 7 none))), (8, .v (.one (.box 4 0))), (9, .v (.one (.box 6 0))), (40, .v (.one (.d (.int .i64 vr1)))), (41, .v (.one (.d (.int .i64 vx7))))]) 8

theorem z403 (vr4 : api_Post) (vr1 : Int) (vx2 : z453) (vm : List (List UInt8 × api_Note)) (vx3 : Int) (vx4 : List (List UInt8)) (vx5 : Int) (vx6 : List api_Letter) (vx7 : Int) (vr9 : Int) {r} (hF : z399 vr4 vx2 vm vx3 vx4 vx5 vx6 vr9 = some r) : Awp prog 0 195 (cL (cR (cL (cL (cR (cR (cL (cL (cR (cL (cR (cR (cR (cR (cR (cR (cR (cR (cR (cB f5)))))))))))))))))))) (Out 0 z402 (z401 vr4 vr1 vx2 vm vx3 vx4 vx5 vx6 vx7 vr9) r) (z400 vr4 vr1 vx2 vm vx3 vx4 vx5 vx6 vx7 vr9) := by
  unfold z399 at hF
  refine awp_seq ?_
  refine bE hF fun vr3_3 h11 hF => ?_
  refine awp_region ?_
  refine aR 1 ?_
  refine aC (z456 h11) [] [] [] ?_
  refine aE ?_
  refine awp_block ?_
  refine awp_seq ?_
  refine awp_region ?_
  refine aR 2 ?_
  refine aE ?_
  refine cE hF (fun h12 hF => ?_) fun h12 hF => ?_
  · refine awp_true (by kernel_rfl) h12 ?_
    refine awp_seq ?_
    refine bE hF fun vr5_1 h13 hF => ?_
    refine awp_region ?_
    refine aR 2 ?_
    refine aC (z465 h13) [] [] [] ?_
    refine aR 2 ?_
    refine aE ?_
    refine awp_seq ?_
    refine awp_to (st' := z405 vr4 vr1 vx2 vm vx3 vx4 vx5 vx6 vx7 vr9 vr5_1) (oT [(7, 7008), (8, 7)] []) ?_
    refine bE hF fun x h15 hF => ?_
    obtain ⟨vm9_1, vx25_1, vx26_1⟩ := x
    refine awp_sub (z408 vr4 vr1 vx2 vm vx3 vx4 vx5 vx6 vx7 vr9 vr5_1 h15) ?_
    refine cE hF (fun h16 hF => ?_) fun h16 hF => ?_
    · refine awp_true (by kernel_rfl) h16 ?_
      refine gE hF fun h17 hF => ?_
      refine awp_region ?_
      refine aR 3 ?_
      refine aX (x_app api_Letter.enc 8 h17) ?_
      refine aR 1 ?_
      refine aE ?_
      exact oO hF [(7, 3009)] [] rfl
    · refine awp_false (by kernel_rfl) h16 ?_
      refine awp_skip ?_
      exact oO hF [(7, 8)] [] rfl
  · refine awp_false (by kernel_rfl) h12 ?_
    refine awp_seq ?_
    refine awp_region ?_
    refine aR 2 ?_
    refine aE ?_
    refine cE hF (fun h18 hF => ?_) fun h18 hF => ?_
    · refine awp_true (by kernel_rfl) h18 ?_
      refine awp_seq ?_
      refine awp_to (st' := z410 vr4 vr1 vx2 vm vx3 vx4 vx5 vx6 vx7 vr9) (oT [] []) ?_
      refine bE hF fun x h21 hF => ?_
      obtain ⟨vx27_1, vm10_1, vx28_1, vx29_1, vx30_1⟩ := x
      refine awp_sub (z413 vr4 vr1 vx2 vm vx3 vx4 vx5 vx6 vx7 vr9 h21) ?_
      refine awp_seq ?_
      refine awp_to (st' := z415 vr4 vr1 vx4 vx5 vx6 vx7 vr9 vx27_1 vm10_1 vx28_1 vx29_1 vx30_1) (oT [] []) ?_
      refine bE hF fun vx31_1 h24 hF => ?_
      refine awp_sub (z418 vr4 vr1 vx4 vx5 vx6 vx7 vr9 vx27_1 vm10_1 vx28_1 vx29_1 vx30_1 h24) ?_
      refine cE hF (fun h25 hF => ?_) fun h25 hF => ?_
      · refine awp_true (by kernel_rfl) h25 ?_
        refine awp_seq ?_
        refine awp_region ?_
        refine aR 1 ?_
        refine aE ?_
        refine awp_ret ?_
        exact oO hF [] [] rfl
      · refine awp_false (by kernel_rfl) h25 ?_
        refine awp_skip ?_
        exact oO hF [] [] rfl
    · refine awp_false (by kernel_rfl) h18 ?_
      refine awp_seq ?_
      refine bE hF fun vr12 h26 hF => ?_
      refine awp_region ?_
      refine aR 2 ?_
      refine aC (z471 h26) [(1, 7008)] [] [] ?_
      refine aR 1 ?_
      refine aE ?_
      refine awp_seq ?_
      refine awp_to (st' := z420 vr4 vr1 vx2 vm vx3 vx4 vx5 vx6 vx7 vr9 vr12) (oT [] []) ?_
      refine bE hF fun x h28 hF => ?_
      obtain ⟨vm12_1, vx32_1, vx33_1⟩ := x
      refine awp_sub (z423 vr4 vr1 vx2 vm vx3 vx4 vx5 vx6 vx7 vr9 vr12 h28) ?_
      refine cE hF (fun h29 hF => ?_) fun h29 hF => ?_
      · refine awp_true (by kernel_rfl) h29 ?_
        refine gE hF fun h30 hF => ?_
        refine awp_region ?_
        refine aR 3 ?_
        refine aX (x_app encS 5 h30) ?_
        refine aR 1 ?_
        refine aE ?_
        exact oO hF [(5, 3008)] [] rfl
      · refine awp_false (by kernel_rfl) h29 ?_
        refine awp_skip ?_
        exact oO hF [] [] rfl

def z427 : ((List (List UInt8 × api_Note)) × Int × Int × Int) → AEx
  | _ => .normal

def z426 (vr4 : api_Post) (vr1 : Int) (vx5 : Int) (vx7 : Int) (vr9 : Int) (vx34_1 : z453) (vm13_1 : List (List UInt8 × api_Note)) (vx35_1 : Int) (vx36_1 : List (List UInt8)) (vx37_1 : List api_Letter) : ((List (List UInt8 × api_Note)) × Int × Int × Int) → St
  | (vm15, vx38, vx39, vx40) => Mem.st ⟨[(5, ⟨9, 1, List.map encS vx36_1⟩), (7, ⟨32, 6, List.map api_Letter.enc vx37_1⟩)], [(0, [.d (.lst (List.map (encI .i64) vx34_1.L)), .d (.int .i64 vx34_1.at_)]), (1, [.d (.int .i64 vr4.Room), .d (.int .i64 vr4.Timeout), .d (.int .i64 vr4.Tries), .d (.int .i64 1000)]), (2, [.d (.int .i64 vr4.Room), .d (.int .i64 vr4.Timeout), .d (.int .i64 vr4.Tries), .d (.int .i64 1000), .mapp 3, .d (.int .i64 vx38)]), (3, [.mapc .str true (List.map (encM D.str api_Note.enc) vm15)]), (4, [.own 5 none]), (6, [.d (.int .i64 (IntKind.wrap .i64 (vx5 + vr9)))])]⟩ (tl [(3, .v (.one (.box 0 0))), (4, .v (.one (.box 1 0))), (5, .v (.one (.box 2 0))), (7, .v (.one (.own 7 none))), (8, .v (.one (.box 4 0))), (9, .v (.one (.box 6 0))), (14, .v (.one (.d (.int .i64 vx39)))), (15, .v (.one (.d (.int .i64 vx40)))), (40, .v (.one (.d (.int .i64 vr1)))), (41, .v (.one (.d (.int .i64 vx7))))]) 8

def z425 (vr4 : api_Post) (vr1 : Int) (vx5 : Int) (vx7 : Int) (vr9 : Int) (vx34_1 : z453) (vm13_1 : List (List UInt8 × api_Note)) (vx35_1 : Int) (vx36_1 : List (List UInt8)) (vx37_1 : List api_Letter) : St := Mem.st ⟨[(5, ⟨9, 1, List.map encS vx36_1⟩), (7, ⟨32, 6, List.map api_Letter.enc vx37_1⟩)], [(0, [.d (.lst (List.map (encI .i64) vx34_1.L)), .d (.int .i64 vx34_1.at_)]), (1, [.d (.int .i64 vr4.Room), .d (.int .i64 vr4.Timeout), .d (.int .i64 vr4.Tries), .d (.int .i64 1000)]), (2, [.d (.int .i64 vr4.Room), .d (.int .i64 vr4.Timeout), .d (.int .i64 vr4.Tries), .d (.int .i64 1000), .mapp 3, .d (.int .i64 vx35_1)]), (3, [.mapc .str true (List.map (encM D.str api_Note.enc) vm13_1)]), (4, [.own 5 none]), (6, [.d (.int .i64 (IntKind.wrap .i64 (vx5 + vr9)))])]⟩ (tl [(3, .v (.one (.box 0 0))), (4, .v (.one (.box 1 0))), (5, .v (.one (.box 2 0))), (7, .v (.one (.own 7 none))), (8, .v (.one (.box 4 0))), (9, .v (.one (.box 6 0))), (40, .v (.one (.d (.int .i64 vr1)))), (41, .v (.one (.d (.int .i64 vx7))))]) 8

theorem z428 (vr4 : api_Post) (vr1 : Int) (vx5 : Int) (vx7 : Int) (vr9 : Int) (vx34_1 : z453) (vm13_1 : List (List UInt8 × api_Note)) (vx35_1 : Int) (vx36_1 : List (List UInt8)) (vx37_1 : List api_Letter) {r} (hF : z424 vr4 vx5 vr9 vm13_1 vx35_1 = some r) : Awp prog 0 195 (cL (cR (cR (cL (cL (cR (cR (cL (cL (cR (cL (cR (cR (cR (cR (cR (cR (cR (cR (cR (cB f5))))))))))))))))))))) (Out 0 z427 (z426 vr4 vr1 vx5 vx7 vr9 vx34_1 vm13_1 vx35_1 vx36_1 vx37_1) r) (z425 vr4 vr1 vx5 vx7 vr9 vx34_1 vm13_1 vx35_1 vx36_1 vx37_1) := by
  unfold z424 at hF
  refine bE hF fun x h32 hF => ?_
  rcases x with vr2_2 | ⟨vm14, vr3_5⟩
  · refine awp_region ?_
    refine aR 2 ?_
    refine aC (z263 h32) [(0, 2), (1, 3)] [] [] ?_
    refine aR 5 ?_
    refine aE ?_
    exact oO hF [] [] rfl
  · refine awp_region ?_
    refine aR 2 ?_
    refine aC (z263 h32) [(0, 2), (1, 3)] [] [] ?_
    refine aR 5 ?_
    refine aE ?_
    exact oO hF [(3, 2010)] [] rfl

def z348 : Bool → AEx
  | _ => .normal

def z347 (vr4 : api_Post) (vr1 : Int) (vx5 : Int) (vx7 : Int) (vr9 : Int) (vx34_1 : z453) (vx36_1 : List (List UInt8)) (vx37_1 : List api_Letter) (vm15_1 : List (List UInt8 × api_Note)) (vx38_1 : Int) (vx39_1 : Int) (vx40_1 : Int) : Bool → St
  | vx41 => Mem.st ⟨[(5, ⟨9, 1, List.map encS vx36_1⟩), (7, ⟨32, 6, List.map api_Letter.enc vx37_1⟩)], [(0, [.d (.lst (List.map (encI .i64) vx34_1.L)), .d (.int .i64 vx34_1.at_)]), (1, [.d (.int .i64 vr4.Room), .d (.int .i64 vr4.Timeout), .d (.int .i64 vr4.Tries), .d (.int .i64 1000)]), (2, [.d (.int .i64 vr4.Room), .d (.int .i64 vr4.Timeout), .d (.int .i64 vr4.Tries), .d (.int .i64 1000), .mapp 3, .d (.int .i64 vx38_1)]), (3, [.mapc .str true (List.map (encM D.str api_Note.enc) vm15_1)]), (4, [.own 5 none]), (6, [.d (.int .i64 (IntKind.wrap .i64 (vx5 + vr9)))])]⟩ (tl [(3, .v (.one (.box 0 0))), (4, .v (.one (.box 1 0))), (5, .v (.one (.box 2 0))), (7, .v (.one (.own 7 none))), (8, .v (.one (.box 4 0))), (9, .v (.one (.box 6 0))), (40, .v (.one (.d (.int .i64 vr1)))), (41, .v (.one (.d (.int .i64 vx7)))), (105, .v (.one (.d (.bool vx41))))]) 8

def z346 (vr4 : api_Post) (vr1 : Int) (vx5 : Int) (vx7 : Int) (vr9 : Int) (vx34_1 : z453) (vx36_1 : List (List UInt8)) (vx37_1 : List api_Letter) (vm15_1 : List (List UInt8 × api_Note)) (vx38_1 : Int) (vx39_1 : Int) (vx40_1 : Int) : St := Mem.st ⟨[(5, ⟨9, 1, List.map encS vx36_1⟩), (7, ⟨32, 6, List.map api_Letter.enc vx37_1⟩)], [(0, [.d (.lst (List.map (encI .i64) vx34_1.L)), .d (.int .i64 vx34_1.at_)]), (1, [.d (.int .i64 vr4.Room), .d (.int .i64 vr4.Timeout), .d (.int .i64 vr4.Tries), .d (.int .i64 1000)]), (2, [.d (.int .i64 vr4.Room), .d (.int .i64 vr4.Timeout), .d (.int .i64 vr4.Tries), .d (.int .i64 1000), .mapp 3, .d (.int .i64 vx38_1)]), (3, [.mapc .str true (List.map (encM D.str api_Note.enc) vm15_1)]), (4, [.own 5 none]), (6, [.d (.int .i64 (IntKind.wrap .i64 (vx5 + vr9)))])]⟩ (tl [(3, .v (.one (.box 0 0))), (4, .v (.one (.box 1 0))), (5, .v (.one (.box 2 0))), (7, .v (.one (.own 7 none))), (8, .v (.one (.box 4 0))), (9, .v (.one (.box 6 0))), (14, .v (.one (.d (.int .i64 vx39_1)))), (15, .v (.one (.d (.int .i64 vx40_1)))), (40, .v (.one (.d (.int .i64 vr1)))), (41, .v (.one (.d (.int .i64 vx7))))]) 8

theorem z349 (vr4 : api_Post) (vr1 : Int) (vx5 : Int) (vx7 : Int) (vr9 : Int) (vx34_1 : z453) (vx36_1 : List (List UInt8)) (vx37_1 : List api_Letter) (vm15_1 : List (List UInt8 × api_Note)) (vx38_1 : Int) (vx39_1 : Int) (vx40_1 : Int) {r} (hF : z345 vr4 vx39_1 vx40_1 = some r) : Awp prog 0 195 (cL (cR (cR (cR (cL (cL (cR (cR (cL (cL (cR (cL (cR (cR (cR (cR (cR (cR (cR (cR (cR (cB f5)))))))))))))))))))))) (Out 0 z348 (z347 vr4 vr1 vx5 vx7 vr9 vx34_1 vx36_1 vx37_1 vm15_1 vx38_1 vx39_1 vx40_1) r) (z346 vr4 vr1 vx5 vx7 vr9 vx34_1 vx36_1 vx37_1 vm15_1 vx38_1 vx39_1 vx40_1) := by
  unfold z345 at hF
  refine cE hF (fun h34 hF => ?_) fun h34 hF => ?_
  · refine awp_region ?_
    refine aR 1 ?_
    refine aB h34 ?_
    refine aR 6 ?_
    refine aE ?_
    exact oO hF [] [] rfl
  · refine awp_region ?_
    refine aR 1 ?_
    refine aB h34 ?_
    refine aR 6 ?_
    refine aE ?_
    exact oO hF [] [] rfl

def z397 : ((List (List UInt8 × api_Note)) × Int × (List (List UInt8)) × Int × (List api_Letter)) ⊕ Unit → AEx
  | .inl _ => .exit 0
  | .inr _ => .ret

def z396 (vr4 : api_Post) (vr1 : Int) : ((List (List UInt8 × api_Note)) × Int × (List (List UInt8)) × Int × (List api_Letter)) ⊕ Unit → St
  | .inl (vm16, vx42, vx43, vx44, vx45) => Mem.st ⟨[(4, ⟨9, 1, List.map encS vx43⟩), (6, ⟨32, 6, List.map api_Letter.enc vx45⟩)], [(0, [.d (.int .i64 vr4.Room), .d (.int .i64 vr4.Timeout), .d (.int .i64 vr4.Tries), .d (.int .i64 1000)]), (1, [.d (.int .i64 vr4.Room), .d (.int .i64 vr4.Timeout), .d (.int .i64 vr4.Tries), .d (.int .i64 1000), .mapp 2, .d (.int .i64 vx42)]), (2, [.mapc .str true (List.map (encM D.str api_Note.enc) vm16)]), (3, [.own 4 none]), (5, [.d (.int .i64 vx44)])]⟩ (tl [(4, .v (.one (.box 0 0))), (5, .v (.one (.box 1 0))), (7, .v (.one (.own 6 none))), (8, .v (.one (.box 3 0))), (9, .v (.one (.box 5 0)))]) 7
  | .inr _ => Mem.st ⟨[], []⟩ (tl [(2, .v (.one (.d (.bool false))))]) 0

def z395 (vr4 : api_Post) (vr1 : Int) : z453 × (List (List UInt8 × api_Note)) × Int × (List (List UInt8)) × Int × (List api_Letter) × Int → St
  | (vx2, vm, vx3, vx4, vx5, vx6, vx7) => Mem.st ⟨[(5, ⟨9, 1, List.map encS vx4⟩), (7, ⟨32, 6, List.map api_Letter.enc vx6⟩)], [(0, [.d (.lst (List.map (encI .i64) vx2.L)), .d (.int .i64 vx2.at_)]), (1, [.d (.int .i64 vr4.Room), .d (.int .i64 vr4.Timeout), .d (.int .i64 vr4.Tries), .d (.int .i64 1000)]), (2, [.d (.int .i64 vr4.Room), .d (.int .i64 vr4.Timeout), .d (.int .i64 vr4.Tries), .d (.int .i64 1000), .mapp 3, .d (.int .i64 vx3)]), (3, [.mapc .str true (List.map (encM D.str api_Note.enc) vm)]), (4, [.own 5 none]), (6, [.d (.int .i64 vx5)])]⟩ (tl [(3, .v (.one (.box 0 0))), (4, .v (.one (.box 1 0))), (5, .v (.one (.box 2 0))), (7, .v (.one (.own 7 none))), (8, .v (.one (.box 4 0))), (9, .v (.one (.box 6 0))), (40, .v (.one (.d (.int .i64 vr1)))), (41, .v (.one (.d (.int .i64 vx7))))]) 8

theorem z398 (vr4 : api_Post) (vr1 : Int) (s : z453 × (List (List UInt8 × api_Note)) × Int × (List (List UInt8)) × Int × (List api_Letter) × Int) (r : (z453 × (List (List UInt8 × api_Note)) × Int × (List (List UInt8)) × Int × (List api_Letter) × Int) ⊕ (((List (List UInt8 × api_Note)) × Int × (List (List UInt8)) × Int × (List api_Letter)) ⊕ Unit)) (hF : z394 vr4 vr1 s = some r) : Awp prog 0 195 (cL (cL (cR (cL (cR (cR (cR (cR (cR (cR (cR (cR (cR (cB f5)))))))))))))) (Out 0 (kk z397) (SS (z395 vr4 vr1) (z396 vr4 vr1)) r) (z395 vr4 vr1 s) := by
  obtain ⟨vx2, vm, vx3, vx4, vx5, vx6, vx7⟩ := s
  unfold z394 at hF
  refine awp_seq ?_
  refine awp_region ?_
  refine aR 1 ?_
  refine aE ?_
  refine awp_seq ?_
  refine cE hF (fun h9 hF => ?_) fun h9 hF => ?_
  · refine awp_true (by kernel_rfl) h9 ?_
    refine awp_skip ?_
    refine awp_seq ?_
    refine awp_block ?_
    refine awp_seq ?_
    refine bE hF fun vr9 h10 hF => ?_
    refine aD ?_
    refine dR 3 ?_
    refine dC (z459 h10) [(1, 3008)] [] [] ?_
    refine dR 2 ?_
    refine dE ?_
    refine awp_seq ?_
    refine awp_to (st' := z400 vr4 vr1 vx2 vm vx3 vx4 vx5 vx6 vx7 vr9) (oT [] []) ?_
    refine bE hF fun x h31 hF => ?_
    rcases x with ⟨vx34_1, vm13_1, vx35_1, vx36_1, vx37_1⟩ | _
    · refine awp_sub (z403 vr4 vr1 vx2 vm vx3 vx4 vx5 vx6 vx7 vr9 h31) ?_
      refine awp_seq ?_
      refine awp_to (st' := z425 vr4 vr1 vx5 vx7 vr9 vx34_1 vm13_1 vx35_1 vx36_1 vx37_1) (oT [] []) ?_
      refine bE hF fun x h33 hF => ?_
      obtain ⟨vm15_1, vx38_1, vx39_1, vx40_1⟩ := x
      refine awp_sub (z428 vr4 vr1 vx5 vx7 vr9 vx34_1 vm13_1 vx35_1 vx36_1 vx37_1 h33) ?_
      refine awp_seq ?_
      refine awp_to (st' := z346 vr4 vr1 vx5 vx7 vr9 vx34_1 vx36_1 vx37_1 vm15_1 vx38_1 vx39_1 vx40_1) (oT [] []) ?_
      refine bE hF fun vx41_1 h35 hF => ?_
      refine awp_sub (z349 vr4 vr1 vx5 vx7 vr9 vx34_1 vx36_1 vx37_1 vm15_1 vx38_1 vx39_1 vx40_1 h35) ?_
      refine cE hF (fun h36 hF => ?_) fun h36 hF => ?_
      · refine awp_true (by kernel_rfl) h36 ?_
        refine awp_seq ?_
        refine awp_region ?_
        refine aR 1 ?_
        refine aE ?_
        refine awp_ret ?_
        exact oO hF [] [] rfl
      · refine awp_false (by kernel_rfl) h36 ?_
        refine awp_skip ?_
        refine awp_region ?_
        refine aR 2 ?_
        refine aE ?_
        exact oO hF [] [] rfl
    · refine awp_sub (z403 vr4 vr1 vx2 vm vx3 vx4 vx5 vx6 vx7 vr9 h31) ?_
      exact oO hF [] [] rfl
  · refine awp_false (by kernel_rfl) h9 ?_
    refine awp_exit ?_
    exact oO hF [(0, 1), (1, 2), (2, 3), (3, 4), (4, 5), (5, 6), (6, 7)] [] rfl

def z353 : ((List (List UInt8 × api_Note)) × Int × Int × (List api_Note)) → AEx
  | _ => .normal

def z352 (vr4 : api_Post) (vm16_1 : List (List UInt8 × api_Note)) (vx42_1 : Int) (vx43_1 : List (List UInt8)) (vx44_1 : Int) (vx45_1 : List api_Letter) : ((List (List UInt8 × api_Note)) × Int × Int × (List api_Note)) → St
  | (vm18, vx46, vx47, vx48) => Mem.st ⟨[(4, ⟨9, 1, List.map encS vx43_1⟩), (5, ⟨32, 6, List.map api_Letter.enc vx45_1⟩)], [(0, [.d (.int .i64 vr4.Room), .d (.int .i64 vr4.Timeout), .d (.int .i64 vr4.Tries), .d (.int .i64 1000)]), (1, [.d (.int .i64 vr4.Room), .d (.int .i64 vr4.Timeout), .d (.int .i64 vr4.Tries), .d (.int .i64 1000), .mapp 2, .d (.int .i64 vx46)]), (2, [.mapc .str true (List.map (encM D.str api_Note.enc) vm18)]), (3, [.own 4 none])]⟩ (tl [(4, .v (.one (.box 0 0))), (5, .v (.one (.box 1 0))), (6, .v (.one (.d (.int .i64 vx47)))), (7, .v (.one (.own 5 none))), (8, .v (.one (.box 3 0))), (16, .v (.one (.d (.int .i64 (IntKind.wrap .i64 (vx44_1 + 1000)))))), (17, .v (.one (.d (.lst (List.map api_Note.enc vx48)))))]) 6

def z351 (vr4 : api_Post) (vm16_1 : List (List UInt8 × api_Note)) (vx42_1 : Int) (vx43_1 : List (List UInt8)) (vx44_1 : Int) (vx45_1 : List api_Letter) : St := Mem.st ⟨[(4, ⟨9, 1, List.map encS vx43_1⟩), (5, ⟨32, 6, List.map api_Letter.enc vx45_1⟩)], [(0, [.d (.int .i64 vr4.Room), .d (.int .i64 vr4.Timeout), .d (.int .i64 vr4.Tries), .d (.int .i64 1000)]), (1, [.d (.int .i64 vr4.Room), .d (.int .i64 vr4.Timeout), .d (.int .i64 vr4.Tries), .d (.int .i64 1000), .mapp 2, .d (.int .i64 vx42_1)]), (2, [.mapc .str true (List.map (encM D.str api_Note.enc) vm16_1)]), (3, [.own 4 none])]⟩ (tl [(4, .v (.one (.box 0 0))), (5, .v (.one (.box 1 0))), (7, .v (.one (.own 5 none))), (8, .v (.one (.box 3 0))), (16, .v (.one (.d (.int .i64 (IntKind.wrap .i64 (vx44_1 + 1000))))))]) 6

theorem z354 (vr4 : api_Post) (vm16_1 : List (List UInt8 × api_Note)) (vx42_1 : Int) (vx43_1 : List (List UInt8)) (vx44_1 : Int) (vx45_1 : List api_Letter) {r} (hF : z350 vr4 vm16_1 vx42_1 vx44_1 = some r) : Awp prog 0 195 (cL (cR (cR (cR (cR (cR (cR (cR (cR (cR (cR (cR (cB f5))))))))))))) (Out 0 z353 (z352 vr4 vm16_1 vx42_1 vx43_1 vx44_1 vx45_1) r) (z351 vr4 vm16_1 vx42_1 vx43_1 vx44_1 vx45_1) := by
  unfold z350 at hF
  refine bE hF fun x h38 hF => ?_
  rcases x with vr1_3 | ⟨vm17, vr2_3⟩
  · refine awp_region ?_
    refine aR 2 ?_
    refine aC (z232 h38) [(0, 1), (1, 2)] [] [] ?_
    refine aR 5 ?_
    refine aE ?_
    exact oO hF [] [] rfl
  · refine awp_region ?_
    refine aR 2 ?_
    refine aC (z232 h38) [(0, 1), (1, 2)] [] [] ?_
    refine aR 5 ?_
    refine aE ?_
    exact oO hF [(2, 2008)] [] rfl

def z358 : Bool → AEx
  | _ => .normal

def z357 (vr4 : api_Post) (vx43_1 : List (List UInt8)) (vx44_1 : Int) (vx45_1 : List api_Letter) (vm18_1 : List (List UInt8 × api_Note)) (vx46_1 : Int) (vx47_1 : Int) (vx48_1 : List api_Note) : Bool → St
  | vx49 => Mem.st ⟨[(4, ⟨9, 1, List.map encS vx43_1⟩)], [(0, [.d (.int .i64 vr4.Room), .d (.int .i64 vr4.Timeout), .d (.int .i64 vr4.Tries), .d (.int .i64 1000)]), (1, [.d (.int .i64 vr4.Room), .d (.int .i64 vr4.Timeout), .d (.int .i64 vr4.Tries), .d (.int .i64 1000), .mapp 2, .d (.int .i64 vx46_1)]), (2, [.mapc .str true (List.map (encM D.str api_Note.enc) vm18_1)]), (3, [.own 4 none])]⟩ (tl [(4, .v (.one (.box 0 0))), (5, .v (.one (.box 1 0))), (8, .v (.one (.box 3 0))), (16, .v (.one (.d (.int .i64 (IntKind.wrap .i64 (vx44_1 + 1000)))))), (17, .v (.one (.d (.lst (List.map api_Note.enc vx48_1))))), (123, .v (.one (.d (.bool vx49))))]) 5

def z356 (vr4 : api_Post) (vx43_1 : List (List UInt8)) (vx44_1 : Int) (vx45_1 : List api_Letter) (vm18_1 : List (List UInt8 × api_Note)) (vx46_1 : Int) (vx47_1 : Int) (vx48_1 : List api_Note) : St := Mem.st ⟨[(4, ⟨9, 1, List.map encS vx43_1⟩), (5, ⟨32, 6, List.map api_Letter.enc vx45_1⟩)], [(0, [.d (.int .i64 vr4.Room), .d (.int .i64 vr4.Timeout), .d (.int .i64 vr4.Tries), .d (.int .i64 1000)]), (1, [.d (.int .i64 vr4.Room), .d (.int .i64 vr4.Timeout), .d (.int .i64 vr4.Tries), .d (.int .i64 1000), .mapp 2, .d (.int .i64 vx46_1)]), (2, [.mapc .str true (List.map (encM D.str api_Note.enc) vm18_1)]), (3, [.own 4 none])]⟩ (tl [(4, .v (.one (.box 0 0))), (5, .v (.one (.box 1 0))), (6, .v (.one (.d (.int .i64 vx47_1)))), (7, .v (.one (.own 5 none))), (8, .v (.one (.box 3 0))), (16, .v (.one (.d (.int .i64 (IntKind.wrap .i64 (vx44_1 + 1000)))))), (17, .v (.one (.d (.lst (List.map api_Note.enc vx48_1)))))]) 6

theorem z359 (vr4 : api_Post) (vx43_1 : List (List UInt8)) (vx44_1 : Int) (vx45_1 : List api_Letter) (vm18_1 : List (List UInt8 × api_Note)) (vx46_1 : Int) (vx47_1 : Int) (vx48_1 : List api_Note) {r} (hF : z355 vx45_1 vx47_1 vx48_1 = some r) : Awp prog 0 195 (cL (cL (cR (cR (cR (cR (cR (cR (cR (cR (cR (cR (cR (cR (cB f5))))))))))))))) (Out 0 z358 (z357 vr4 vx43_1 vx44_1 vx45_1 vm18_1 vx46_1 vx47_1 vx48_1) r) (z356 vr4 vx43_1 vx44_1 vx45_1 vm18_1 vx46_1 vx47_1 vx48_1) := by
  unfold z355 at hF
  refine cE hF (fun h40 hF => ?_) fun h40 hF => ?_
  · refine awp_region ?_
    refine aR 1 ?_
    refine aB h40 ?_
    refine aR 7 ?_
    refine aE ?_
    exact oO hF [] [] rfl
  · refine awp_region ?_
    refine aR 1 ?_
    refine aB h40 ?_
    refine aR 2 ?_
    refine aL api_Note.enc vx48_1 ?_
    refine aR 1 ?_
    refine aL api_Letter.enc vx45_1 ?_
    refine aR 2 ?_
    refine aE ?_
    exact oO hF [] [] rfl

def z368 : Bool → AEx
  | _ => .normal

def z367 (vr4 : api_Post) (vx43_1 : List (List UInt8)) (vx44_1 : Int) (vm18_1 : List (List UInt8 × api_Note)) (vx46_1 : Int) (vx48_1 : List api_Note) (vx50 : Int) (vy1 : api_Note) : Bool → St
  | vx53 => Mem.st ⟨[(4, ⟨9, 1, List.map encS vx43_1⟩)], [(0, [.d (.int .i64 vr4.Room), .d (.int .i64 vr4.Timeout), .d (.int .i64 vr4.Tries), .d (.int .i64 1000)]), (1, [.d (.int .i64 vr4.Room), .d (.int .i64 vr4.Timeout), .d (.int .i64 vr4.Tries), .d (.int .i64 1000), .mapp 2, .d (.int .i64 vx46_1)]), (2, [.mapc .str true (List.map (encM D.str api_Note.enc) vm18_1)]), (3, [.own 4 none]), (5, [.d (.str vy1.Letter.Id), .d (.str vy1.Letter.Slot), .d (.str vy1.Letter.Body), .d (.int .i64 vy1.Letter.Prio), .d (.int .i64 vy1.Letter.At), .d (.int .i64 vy1.Letter.Until), .d (.int .i64 vy1.State), .d (.int .i64 vy1.Tries), .d (.int .i64 vy1.Since)])]⟩ (tl [(4, .v (.one (.box 0 0))), (5, .v (.one (.box 1 0))), (8, .v (.one (.box 3 0))), (16, .v (.one (.d (.int .i64 (IntKind.wrap .i64 (vx44_1 + 1000)))))), (17, .v (.one (.d (.lst (List.map api_Note.enc vx48_1))))), (19, .v (.one (.box 5 0))), (20, .v (.one (.d (.bool vx53)))), (124, .v (.one (.d (.lst (List.map api_Note.enc vx48_1))))), (125, .v (.one (.d (.int .i64 (vx48_1.length : Int))))), (126, .v (.one (.d (.int .i64 vx50))))]) 6

def z366 (vr4 : api_Post) (vx43_1 : List (List UInt8)) (vx44_1 : Int) (vm18_1 : List (List UInt8 × api_Note)) (vx46_1 : Int) (vx48_1 : List api_Note) (vx50 : Int) (vy1 : api_Note) : St := Mem.st ⟨[(4, ⟨9, 1, List.map encS vx43_1⟩)], [(0, [.d (.int .i64 vr4.Room), .d (.int .i64 vr4.Timeout), .d (.int .i64 vr4.Tries), .d (.int .i64 1000)]), (1, [.d (.int .i64 vr4.Room), .d (.int .i64 vr4.Timeout), .d (.int .i64 vr4.Tries), .d (.int .i64 1000), .mapp 2, .d (.int .i64 vx46_1)]), (2, [.mapc .str true (List.map (encM D.str api_Note.enc) vm18_1)]), (3, [.own 4 none]), (5, [.d (.str vy1.Letter.Id), .d (.str vy1.Letter.Slot), .d (.str vy1.Letter.Body), .d (.int .i64 vy1.Letter.Prio), .d (.int .i64 vy1.Letter.At), .d (.int .i64 vy1.Letter.Until), .d (.int .i64 vy1.State), .d (.int .i64 vy1.Tries), .d (.int .i64 vy1.Since)])]⟩ (tl [(4, .v (.one (.box 0 0))), (5, .v (.one (.box 1 0))), (8, .v (.one (.box 3 0))), (16, .v (.one (.d (.int .i64 (IntKind.wrap .i64 (vx44_1 + 1000)))))), (17, .v (.one (.d (.lst (List.map api_Note.enc vx48_1))))), (19, .v (.one (.box 5 0))), (124, .v (.one (.d (.lst (List.map api_Note.enc vx48_1))))), (125, .v (.one (.d (.int .i64 (vx48_1.length : Int))))), (126, .v (.one (.d (.int .i64 vx50))))]) 6

theorem z369 (vr4 : api_Post) (vx43_1 : List (List UInt8)) (vx44_1 : Int) (vm18_1 : List (List UInt8 × api_Note)) (vx46_1 : Int) (vx48_1 : List api_Note) (vx50 : Int) (vy1 : api_Note) {r} (hF : z365 vy1 = some r) : Awp prog 0 195 (cL (cR (cL (cL (cR (cR (cL (cL (cR (cL (cR (cR (cR (cR (cR (cR (cR (cR (cR (cR (cR (cR (cR (cB f5)))))))))))))))))))))))) (Out 0 z368 (z367 vr4 vx43_1 vx44_1 vm18_1 vx46_1 vx48_1 vx50 vy1) r) (z366 vr4 vx43_1 vx44_1 vm18_1 vx46_1 vx48_1 vx50 vy1) := by
  unfold z365 at hF
  refine cE hF (fun h45 hF => ?_) fun h45 hF => ?_
  · refine awp_region ?_
    refine aR 2 ?_
    refine aB h45 ?_
    refine aR 6 ?_
    refine aE ?_
    exact oO hF [] [] rfl
  · refine awp_region ?_
    refine aR 2 ?_
    refine aB h45 ?_
    refine aR 6 ?_
    refine aE ?_
    exact oO hF [] [] rfl

def z373 : Bool → AEx
  | _ => .normal

def z372 (vr4 : api_Post) (vx43_1 : List (List UInt8)) (vx44_1 : Int) (vm18_1 : List (List UInt8 × api_Note)) (vx46_1 : Int) (vx48_1 : List api_Note) (vx50 : Int) (vy1 : api_Note) (vx53_1 : Bool) : Bool → St
  | vx54 => Mem.st ⟨[(4, ⟨9, 1, List.map encS vx43_1⟩)], [(0, [.d (.int .i64 vr4.Room), .d (.int .i64 vr4.Timeout), .d (.int .i64 vr4.Tries), .d (.int .i64 1000)]), (1, [.d (.int .i64 vr4.Room), .d (.int .i64 vr4.Timeout), .d (.int .i64 vr4.Tries), .d (.int .i64 1000), .mapp 2, .d (.int .i64 vx46_1)]), (2, [.mapc .str true (List.map (encM D.str api_Note.enc) vm18_1)]), (3, [.own 4 none])]⟩ (tl [(4, .v (.one (.box 0 0))), (5, .v (.one (.box 1 0))), (8, .v (.one (.box 3 0))), (16, .v (.one (.d (.int .i64 (IntKind.wrap .i64 (vx44_1 + 1000)))))), (17, .v (.one (.d (.lst (List.map api_Note.enc vx48_1))))), (124, .v (.one (.d (.lst (List.map api_Note.enc vx48_1))))), (125, .v (.one (.d (.int .i64 (vx48_1.length : Int))))), (126, .v (.one (.d (.int .i64 vx50)))), (173, .v (.one (.d (.bool vx54))))]) 5

def z371 (vr4 : api_Post) (vx43_1 : List (List UInt8)) (vx44_1 : Int) (vm18_1 : List (List UInt8 × api_Note)) (vx46_1 : Int) (vx48_1 : List api_Note) (vx50 : Int) (vy1 : api_Note) (vx53_1 : Bool) : St := Mem.st ⟨[(4, ⟨9, 1, List.map encS vx43_1⟩)], [(0, [.d (.int .i64 vr4.Room), .d (.int .i64 vr4.Timeout), .d (.int .i64 vr4.Tries), .d (.int .i64 1000)]), (1, [.d (.int .i64 vr4.Room), .d (.int .i64 vr4.Timeout), .d (.int .i64 vr4.Tries), .d (.int .i64 1000), .mapp 2, .d (.int .i64 vx46_1)]), (2, [.mapc .str true (List.map (encM D.str api_Note.enc) vm18_1)]), (3, [.own 4 none]), (5, [.d (.str vy1.Letter.Id), .d (.str vy1.Letter.Slot), .d (.str vy1.Letter.Body), .d (.int .i64 vy1.Letter.Prio), .d (.int .i64 vy1.Letter.At), .d (.int .i64 vy1.Letter.Until), .d (.int .i64 vy1.State), .d (.int .i64 vy1.Tries), .d (.int .i64 vy1.Since)])]⟩ (tl [(4, .v (.one (.box 0 0))), (5, .v (.one (.box 1 0))), (8, .v (.one (.box 3 0))), (16, .v (.one (.d (.int .i64 (IntKind.wrap .i64 (vx44_1 + 1000)))))), (17, .v (.one (.d (.lst (List.map api_Note.enc vx48_1))))), (19, .v (.one (.box 5 0))), (20, .v (.one (.d (.bool vx53_1)))), (124, .v (.one (.d (.lst (List.map api_Note.enc vx48_1))))), (125, .v (.one (.d (.int .i64 (vx48_1.length : Int))))), (126, .v (.one (.d (.int .i64 vx50))))]) 6

theorem z374 (vr4 : api_Post) (vx43_1 : List (List UInt8)) (vx44_1 : Int) (vm18_1 : List (List UInt8 × api_Note)) (vx46_1 : Int) (vx48_1 : List api_Note) (vx50 : Int) (vy1 : api_Note) (vx53_1 : Bool) {r} (hF : z370 vr4 vx43_1 vy1 vx53_1 = some r) : Awp prog 0 195 (cL (cR (cR (cL (cL (cR (cR (cL (cL (cR (cL (cR (cR (cR (cR (cR (cR (cR (cR (cR (cR (cR (cR (cR (cB f5))))))))))))))))))))))))) (Out 0 z373 (z372 vr4 vx43_1 vx44_1 vm18_1 vx46_1 vx48_1 vx50 vy1 vx53_1) r) (z371 vr4 vx43_1 vx44_1 vm18_1 vx46_1 vx48_1 vx50 vy1 vx53_1) := by
  unfold z370 at hF
  refine cE hF (fun h47 hF => ?_) fun h47 hF => ?_
  · refine aD ?_
    refine dR 1 ?_
    refine dB h47 ?_
    refine dR 34 ?_
    refine dE ?_
    exact oO hF [] [] rfl
  · refine cE hF (fun h48 hF => ?_) fun h48 hF => ?_
    · refine aD ?_
      refine dR 1 ?_
      refine dB h47 ?_
      refine dR 6 ?_
      refine dB h48 ?_
      refine dR 27 ?_
      refine dE ?_
      exact oO hF [] [] rfl
    · refine cE hF (fun h49 hF => ?_) fun h49 hF => ?_
      · refine aD ?_
        refine dR 1 ?_
        refine dB h47 ?_
        refine dR 6 ?_
        refine dB h48 ?_
        refine dR 7 ?_
        refine dB h49 ?_
        refine dR 19 ?_
        refine dE ?_
        exact oO hF [] [] rfl
      · refine cE hF (fun h50 hF => ?_) fun h50 hF => ?_
        · refine aD ?_
          refine dR 1 ?_
          refine dB h47 ?_
          refine dR 6 ?_
          refine dB h48 ?_
          refine dR 7 ?_
          refine dB h49 ?_
          refine dR 6 ?_
          refine dB h50 ?_
          refine dR 12 ?_
          refine dE ?_
          exact oO hF [] [] rfl
        · refine bE hF fun vr1_5 h51 hF => ?_
          refine aD ?_
          refine dR 1 ?_
          refine dB h47 ?_
          refine dR 6 ?_
          refine dB h48 ?_
          refine dR 7 ?_
          refine dB h49 ?_
          refine dR 6 ?_
          refine dB h50 ?_
          refine dR 9 ?_
          refine dC (z618 h51) [] [] [4] ?_
          refine dR 2 ?_
          refine dE ?_
          exact oO hF [] [] rfl

def z363 : Unit ⊕ Unit → AEx
  | .inl _ => .exit 3
  | .inr _ => .ret

def z362 (vr4 : api_Post) (vx43_1 : List (List UInt8)) (vx44_1 : Int) (vm18_1 : List (List UInt8 × api_Note)) (vx46_1 : Int) (vx48_1 : List api_Note) : Unit ⊕ Unit → St
  | .inl _ => Mem.st ⟨[], [(0, [.d (.int .i64 vr4.Room), .d (.int .i64 vr4.Timeout), .d (.int .i64 vr4.Tries), .d (.int .i64 1000), .mapp 1, .d (.int .i64 vx46_1)]), (1, [.mapc .str true (List.map (encM D.str api_Note.enc) vm18_1)])]⟩ (tl [(5, .v (.one (.box 0 0))), (16, .v (.one (.d (.int .i64 (IntKind.wrap .i64 (vx44_1 + 1000)))))), (17, .v (.one (.d (.lst (List.map api_Note.enc vx48_1)))))]) 2
  | .inr _ => Mem.st ⟨[], []⟩ (tl [(2, .v (.one (.d (.bool false))))]) 0

def z361 (vr4 : api_Post) (vx43_1 : List (List UInt8)) (vx44_1 : Int) (vm18_1 : List (List UInt8 × api_Note)) (vx46_1 : Int) (vx48_1 : List api_Note) : Int → St
  | vx50 => Mem.st ⟨[(4, ⟨9, 1, List.map encS vx43_1⟩)], [(0, [.d (.int .i64 vr4.Room), .d (.int .i64 vr4.Timeout), .d (.int .i64 vr4.Tries), .d (.int .i64 1000)]), (1, [.d (.int .i64 vr4.Room), .d (.int .i64 vr4.Timeout), .d (.int .i64 vr4.Tries), .d (.int .i64 1000), .mapp 2, .d (.int .i64 vx46_1)]), (2, [.mapc .str true (List.map (encM D.str api_Note.enc) vm18_1)]), (3, [.own 4 none])]⟩ (tl [(4, .v (.one (.box 0 0))), (5, .v (.one (.box 1 0))), (8, .v (.one (.box 3 0))), (16, .v (.one (.d (.int .i64 (IntKind.wrap .i64 (vx44_1 + 1000)))))), (17, .v (.one (.d (.lst (List.map api_Note.enc vx48_1))))), (124, .v (.one (.d (.lst (List.map api_Note.enc vx48_1))))), (125, .v (.one (.d (.int .i64 (vx48_1.length : Int))))), (126, .v (.one (.d (.int .i64 vx50))))]) 5

theorem z364 (vr4 : api_Post) (vx43_1 : List (List UInt8)) (vx44_1 : Int) (vm18_1 : List (List UInt8 × api_Note)) (vx46_1 : Int) (vx48_1 : List api_Note) (vx50 : Int) (r : (Int) ⊕ (Unit ⊕ Unit)) (hF : z360 vr4 vx43_1 vx48_1 vx50 = some r) : Awp prog 0 195 (cL (cL (cR (cL (cR (cR (cR (cR (cR (cR (cR (cR (cR (cR (cR (cR (cR (cB f5)))))))))))))))))) (Out 0 (kk z363) (SS (z361 vr4 vx43_1 vx44_1 vm18_1 vx46_1 vx48_1) (z362 vr4 vx43_1 vx44_1 vm18_1 vx46_1 vx48_1)) r) (z361 vr4 vx43_1 vx44_1 vm18_1 vx46_1 vx48_1 vx50) := by
  unfold z360 at hF
  refine awp_seq ?_
  refine awp_region ?_
  refine aR 1 ?_
  refine aE ?_
  refine awp_seq ?_
  refine cE hF (fun h43 hF => ?_) fun h43 hF => ?_
  · refine awp_true (by kernel_rfl) h43 ?_
    refine awp_skip ?_
    refine awp_seq ?_
    refine awp_block ?_
    refine awp_seq ?_
    refine bE hF fun vy1 h44 hF => ?_
    refine awp_region ?_
    refine aX (x_idx api_Note.enc h44) ?_
    refine aR 3 ?_
    refine aE ?_
    refine awp_seq ?_
    refine awp_to (st' := z366 vr4 vx43_1 vx44_1 vm18_1 vx46_1 vx48_1 vx50 vy1) (oT [(5, 3005)] []) ?_
    refine bE hF fun vx53_1 h46 hF => ?_
    refine awp_sub (z369 vr4 vx43_1 vx44_1 vm18_1 vx46_1 vx48_1 vx50 vy1 h46) ?_
    refine awp_seq ?_
    refine awp_to (st' := z371 vr4 vx43_1 vx44_1 vm18_1 vx46_1 vx48_1 vx50 vy1 vx53_1) (oT [] []) ?_
    refine bE hF fun vx54_1 h52 hF => ?_
    refine awp_sub (z374 vr4 vx43_1 vx44_1 vm18_1 vx46_1 vx48_1 vx50 vy1 vx53_1 h52) ?_
    refine cE hF (fun h53 hF => ?_) fun h53 hF => ?_
    · refine awp_true (by kernel_rfl) h53 ?_
      refine awp_seq ?_
      refine awp_region ?_
      refine aR 1 ?_
      refine aE ?_
      refine awp_ret ?_
      exact oO hF [] [] rfl
    · refine awp_false (by kernel_rfl) h53 ?_
      refine awp_skip ?_
      refine awp_region ?_
      refine aR 2 ?_
      refine aE ?_
      exact oO hF [] [] rfl
  · refine awp_false (by kernel_rfl) h43 ?_
    refine awp_exit ?_
    exact oO hF [(0, 1), (1, 2)] [] rfl

def z378 : (Int × Int) → AEx
  | _ => .normal

def z377 (vr4 : api_Post) (vx44_1 : Int) (vm18_1 : List (List UInt8 × api_Note)) (vx46_1 : Int) (vx48_1 : List api_Note) : (Int × Int) → St
  | (vx55, vx56) => Mem.st ⟨[], []⟩ (tl [(6, .v (.one (.d (.int .i64 vx55)))), (17, .v (.one (.d (.lst (List.map api_Note.enc vx48_1))))), (21, .v (.one (.d (.int .i64 vx56))))]) 0

def z376 (vr4 : api_Post) (vx44_1 : Int) (vm18_1 : List (List UInt8 × api_Note)) (vx46_1 : Int) (vx48_1 : List api_Note) : St := Mem.st ⟨[], [(0, [.d (.int .i64 vr4.Room), .d (.int .i64 vr4.Timeout), .d (.int .i64 vr4.Tries), .d (.int .i64 1000), .mapp 1, .d (.int .i64 vx46_1)]), (1, [.mapc .str true (List.map (encM D.str api_Note.enc) vm18_1)])]⟩ (tl [(5, .v (.one (.box 0 0))), (16, .v (.one (.d (.int .i64 (IntKind.wrap .i64 (vx44_1 + 1000)))))), (17, .v (.one (.d (.lst (List.map api_Note.enc vx48_1)))))]) 2

theorem z379 (vr4 : api_Post) (vx44_1 : Int) (vm18_1 : List (List UInt8 × api_Note)) (vx46_1 : Int) (vx48_1 : List api_Note) {r} (hF : z375 vr4 vx44_1 vm18_1 vx46_1 = some r) : Awp prog 0 195 (cL (cR (cR (cR (cR (cR (cR (cR (cR (cR (cR (cR (cR (cR (cR (cB f5)))))))))))))))) (Out 0 z378 (z377 vr4 vx44_1 vm18_1 vx46_1 vx48_1) r) (z376 vr4 vx44_1 vm18_1 vx46_1 vx48_1) := by
  unfold z375 at hF
  refine bE hF fun x h55 hF => ?_
  rcases x with vr3_6 | ⟨vm19, vr4_5⟩
  · refine awp_region ?_
    refine aR 2 ?_
    refine aC (z266 h55) [] [] [] ?_
    refine aR 5 ?_
    refine aE ?_
    exact oO hF [] [] rfl
  · refine awp_region ?_
    refine aR 2 ?_
    refine aC (z266 h55) [] [] [] ?_
    refine aR 5 ?_
    refine aE ?_
    exact oO hF [] [] rfl

def z383 : Bool → AEx
  | _ => .normal

def z382 (vx48_1 : List api_Note) (vx55_1 : Int) (vx56_1 : Int) : Bool → St
  | vx57 => Mem.st ⟨[], []⟩ (tl [(2, .v (.one (.d (.bool vx57))))]) 0

def z381 (vx48_1 : List api_Note) (vx55_1 : Int) (vx56_1 : Int) : St := Mem.st ⟨[], []⟩ (tl [(6, .v (.one (.d (.int .i64 vx55_1)))), (17, .v (.one (.d (.lst (List.map api_Note.enc vx48_1))))), (21, .v (.one (.d (.int .i64 vx56_1))))]) 0

theorem z384 (vx48_1 : List api_Note) (vx55_1 : Int) (vx56_1 : Int) {r} (hF : z380 vx48_1 vx55_1 vx56_1 = some r) : Awp prog 0 195 (cL (cR (cR (cR (cR (cR (cR (cR (cR (cR (cR (cR (cR (cR (cR (cR (cB f5))))))))))))))))) (Out 0 z383 (z382 vx48_1 vx55_1 vx56_1) r) (z381 vx48_1 vx55_1 vx56_1) := by
  unfold z380 at hF
  refine cE hF (fun h57 hF => ?_) fun h57 hF => ?_
  · refine cE hF (fun h58 hF => ?_) fun h58 hF => ?_
    · refine bE hF fun vr5_2 h59 hF => ?_
      refine cE hF (fun h60 hF => ?_) fun h60 hF => ?_
      · refine bE hF fun vr9_1 h61 hF => ?_
        refine awp_region ?_
        refine aR 1 ?_
        refine aB h57 ?_
        refine aR 2 ?_
        refine aB h58 ?_
        refine aR 3 ?_
        refine aC (z174 h59) [] [] [] ?_
        refine aB h60 ?_
        refine aR 2 ?_
        refine aC (z439 h61) [] [] [] ?_
        refine aR 2 ?_
        refine aE ?_
        exact oO hF [] [] rfl
      · refine awp_region ?_
        refine aR 1 ?_
        refine aB h57 ?_
        refine aR 2 ?_
        refine aB h58 ?_
        refine aR 3 ?_
        refine aC (z174 h59) [] [] [] ?_
        refine aB h60 ?_
        refine aR 5 ?_
        refine aE ?_
        exact oO hF [] [] rfl
    · refine awp_region ?_
      refine aR 1 ?_
      refine aB h57 ?_
      refine aR 2 ?_
      refine aB h58 ?_
      refine aR 10 ?_
      refine aE ?_
      exact oO hF [] [] rfl
  · refine awp_region ?_
    refine aR 1 ?_
    refine aB h57 ?_
    refine aR 13 ?_
    refine aE ?_
    exact oO hF [] [] rfl

def z343 (qx : List Int) (r : Bool) : TV × Mem := (.v (.one (.d (.bool r))), ⟨[], []⟩)

theorem fleetkeep2_LettersEnd_ok {qx : List Int} {r} (hF : fleetkeep2_LettersEnd qx = some r) : Holds prog 5 [.v (.one (.d (.lst (List.map (encI .i64) qx))))] ⟨[], []⟩ (Is (z343 qx r)) := by
  unfold fleetkeep2_LettersEnd at hF
  refine holds_of_awp hΓ (fn := f5) (c := cB f5) (A := 0) (nx := 0) (by kernel_rfl) (by kernel_rfl) (by kernel_rfl) (by kernel_rfl) (by kernel_rfl) (by kernel_rfl) (lowc_of (by kernel_rfl)) ?_
  show Awp prog 0 195 (cB f5) _ _
  refine awp_seq ?_
  refine awp_region ?_
  refine aR 1 ?_
  refine aE ?_
  refine awp_seq ?_
  refine awp_region ?_
  refine aR 4 ?_
  refine aE ?_
  refine awp_seq ?_
  refine bE hF fun vr4 h1 hF => ?_
  refine awp_region ?_
  refine aR 1 ?_
  refine aC (z468 h1) [(0, 3000)] [] [] ?_
  refine aR 2 ?_
  refine aE ?_
  refine awp_seq ?_
  refine awp_region ?_
  refine aR 2 ?_
  refine aE ?_
  refine awp_seq ?_
  refine bE hF fun x h2 hF => ?_
  rcases x with vr | _
  · refine awp_region ?_
    refine aR 1 ?_
    refine aC (z200 h2) [] [] [] ?_
    refine aR 5 ?_
    refine aE ?_
    refine awp_seq ?_
    refine awp_seq ?_
    refine awp_to (st' := z385 qx vr4 vr) (oT [(0, 3000), (1, 7000)] []) ?_
    refine bE hF fun _ h4 hF => ?_
    refine awp_sub (z388 qx vr4 vr h4) ?_
    refine awp_true (by kernel_rfl) rfl ?_
    refine awp_seq ?_
    refine awp_region ?_
    refine aR 1 ?_
    refine aE ?_
    refine awp_ret ?_
    exact oF hF [] []
  · refine awp_region ?_
    refine aR 1 ?_
    refine aC (z200 h2) [] [] [] ?_
    refine aR 5 ?_
    refine aE ?_
    refine awp_seq ?_
    refine awp_seq ?_
    refine awp_to (st' := z390 qx vr4) (oT [(0, 3000), (1, 7000), (2, 12000), (3, 12001)] []) ?_
    refine bE hF fun vx1 h6 hF => ?_
    refine awp_sub (z393 qx vr4 h6) ?_
    refine cE hF (fun h7 hF => ?_) fun h7 hF => ?_
    · refine awp_true (by kernel_rfl) h7 ?_
      refine awp_seq ?_
      refine awp_region ?_
      refine aR 1 ?_
      refine aE ?_
      refine awp_ret ?_
      exact oF hF [] []
    · refine awp_false (by kernel_rfl) h7 ?_
      refine awp_skip ?_
      refine awp_seq ?_
      refine awp_region ?_
      refine aR 1 ?_
      refine aE ?_
      refine awp_seq ?_
      refine awp_region ?_
      refine aR 1 ?_
      refine aE ?_
      refine awp_seq ?_
      refine awp_region ?_
      refine aR 2 ?_
      refine aE ?_
      refine awp_seq ?_
      refine awp_seq ?_
      refine bE hF fun x h8 hF => ?_
      obtain ⟨vs, vr1⟩ := x
      refine awp_region ?_
      refine aR 1 ?_
      refine aC (z462 h8) [] [] [] ?_
      refine aR 1 ?_
      refine aE ?_
      refine awp_block ?_
      refine awp_to (st' := z395 vr4 vr1 (vs, ([] : List (List UInt8 × api_Note)), 0, [], 0, [], 0)) (oT [(4, 1004), (6, 2004)] [5, 7]) ?_
      refine bE hF fun x h37 hF => ?_
      rcases x with ⟨vm16_1, vx42_1, vx43_1, vx44_1, vx45_1⟩ | _
      · refine awp_sub (awp_loop' (z395 vr4 vr1) z397 (z396 vr4 vr1) (by intro x; rcases x with x | x <;> exact fun h => nomatch h) h37 (z398 vr4 vr1)) ?_
        refine awp_seq ?_
        refine awp_region ?_
        refine aR 3 ?_
        refine aE ?_
        refine awp_seq ?_
        refine awp_to (st' := z351 vr4 vm16_1 vx42_1 vx43_1 vx44_1 vx45_1) (oT [(5, 6)] []) ?_
        refine bE hF fun x h39 hF => ?_
        obtain ⟨vm18_1, vx46_1, vx47_1, vx48_1⟩ := x
        refine awp_sub (z354 vr4 vm16_1 vx42_1 vx43_1 vx44_1 vx45_1 h39) ?_
        refine awp_seq ?_
        refine awp_seq ?_
        refine awp_to (st' := z356 vr4 vx43_1 vx44_1 vx45_1 vm18_1 vx46_1 vx47_1 vx48_1) (oT [] []) ?_
        refine bE hF fun vx49_1 h41 hF => ?_
        refine awp_sub (z359 vr4 vx43_1 vx44_1 vx45_1 vm18_1 vx46_1 vx47_1 vx48_1 h41) ?_
        refine cE hF (fun h42 hF => ?_) fun h42 hF => ?_
        · refine awp_true (by kernel_rfl) h42 ?_
          refine awp_seq ?_
          refine awp_region ?_
          refine aR 1 ?_
          refine aE ?_
          refine awp_ret ?_
          exact oF hF [] []
        · refine awp_false (by kernel_rfl) h42 ?_
          refine awp_skip ?_
          refine awp_seq ?_
          refine awp_seq ?_
          refine awp_region ?_
          refine aR 1 ?_
          refine aL api_Note.enc vx48_1 ?_
          refine aR 1 ?_
          refine aE ?_
          refine awp_block ?_
          refine awp_to (st' := z361 vr4 vx43_1 vx44_1 vm18_1 vx46_1 vx48_1 0) (oT [] []) ?_
          refine bE hF fun x h54 hF => ?_
          rcases x with _ | _
          · refine awp_sub (awp_loop' (z361 vr4 vx43_1 vx44_1 vm18_1 vx46_1 vx48_1) z363 (z362 vr4 vx43_1 vx44_1 vm18_1 vx46_1 vx48_1) (by intro x; rcases x with x | x <;> exact fun h => nomatch h) h54 (z364 vr4 vx43_1 vx44_1 vm18_1 vx46_1 vx48_1)) ?_
            refine awp_seq ?_
            refine awp_to (st' := z376 vr4 vx44_1 vm18_1 vx46_1 vx48_1) (oT [] []) ?_
            refine bE hF fun x h56 hF => ?_
            obtain ⟨vx55_1, vx56_1⟩ := x
            refine awp_sub (z379 vr4 vx44_1 vm18_1 vx46_1 vx48_1 h56) ?_
            refine awp_seq ?_
            refine awp_to (st' := z381 vx48_1 vx55_1 vx56_1) (oT [] []) ?_
            refine bE hF fun vx57_1 h62 hF => ?_
            refine awp_sub (z384 vx48_1 vx55_1 vx56_1 h62) ?_
            refine awp_ret ?_
            exact oF hF [] []
          · refine awp_sub (awp_loop' (z361 vr4 vx43_1 vx44_1 vm18_1 vx46_1 vx48_1) z363 (z362 vr4 vx43_1 vx44_1 vm18_1 vx46_1 vx48_1) (by intro x; rcases x with x | x <;> exact fun h => nomatch h) h54 (z364 vr4 vx43_1 vx44_1 vm18_1 vx46_1 vx48_1)) ?_
            exact oF hF [] []
      · refine awp_sub (awp_loop' (z395 vr4 vr1) z397 (z396 vr4 vr1) (by intro x; rcases x with x | x <;> exact fun h => nomatch h) h37 (z398 vr4 vr1)) ?_
        exact oF hF [] []

end Go.Eng
