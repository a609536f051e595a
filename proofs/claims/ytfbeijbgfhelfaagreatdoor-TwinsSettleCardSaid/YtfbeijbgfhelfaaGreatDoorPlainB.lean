/-
What the plain functions of the law TwinsSettle answer, part 2.
-/
import Derived.Test.YtfbeijbgfhelfaaGreatDoorPlainA
/-
The law TwinsSettle: what is owed, and what is taken, as the code and the reference have it.
-/
namespace Go.Eng
open Go
set_option linter.unusedVariables false
set_option linter.unusedSimpArgs false

/-! ### What is owed, by the reference -/
theorem foldl_put {α β : Type} (q : α → Bool) (k : List UInt8) (v : β) : ∀ (l : List α) (m : List (List UInt8 × β)), KS m → l.foldl (fun m c => bif q c then aput m k v else m) m = if l.any q then aput m k v else m
  | [], m, h => by simp
  | c :: l, m, h => by
    rw [List.foldl_cons]
    cases hq : q c with
    | false => rw [cond_false, foldl_put q k v l m h, List.any_cons, hq, Bool.false_or]
    | true =>
      rw [cond_true, foldl_put q k v l _ (aput_ks h _ _), List.any_cons, hq, Bool.true_or, if_pos rfl, aput_aput h]
      split <;> rfl
theorem gone_any (D : List api_Cell) (n : List UInt8) : (D.any fun c => (decide (c.Prop_.Value.Kind = 0) && !(D.any fun x => hidesB x c)) && (decide (nm c = n) || belB n (nm c))) = (goneL D).any fun s => decide (s = n) || belB n s := by
  unfold goneL
  rw [List.any_map, List.any_filter]
  rfl
theorem ref2_eq {D R : List api_Cell} (kD : ∀ c ∈ D, KC c) (lD : D.length ≤ 1000) {p : api_Prop} {m : List (List UInt8 × api_Value)} (hm : KS m) :
    loopO (z361 (api_Twin.mk D R) p) (m, 0) = some (if (goneL D).any (fun s => decide (s = p.Name) || belB p.Name s) then aput m p.Name zV else m) := by
  have := fold_loop0 (l := D) (f := z361 (api_Twin.mk D R) p) (fun (s : List (List UInt8 × api_Value)) i => (s, i)) (fun m c => bif (decide (c.Prop_.Value.Kind = 0) && !(D.any fun x => hidesB x c)) && (decide (nm c = p.Name) || belB p.Name (nm c)) then aput m p.Name zV else m) id (fun _ _ => True) (s0 := m) (by omega)
    (fun i hi s _ => by
      refine ⟨?_, trivial⟩
      have hc : (i : Int) < D.length := by omega
      have kc := kD _ (List.getElem_mem hi)
      have h2 : z510 D (api_Cell.mk (api_Prop.mk D[i].Prop_.Name (api_Value.mk D[i].Prop_.Value.Kind D[i].Prop_.Value.Flag D[i].Prop_.Value.Number D[i].Prop_.Value.Words)) (api_Stamp.mk D[i].Stamp.At D[i].Stamp.By D[i].Stamp.No)) = some (D.any fun x => hidesB x D[i]) := refHidden_eq lD kD kc
      have h3 : z507 D[i].Prop_.Name p.Name = some (belB p.Name (nm D[i])) := above_is _ _ kc.len
      have h4 : z370 (api_Twin.mk D R) p D[i] = some ((decide (D[i].Prop_.Value.Kind = 0) && !(D.any fun x => hidesB x D[i])) && (decide (nm D[i] = p.Name) || belB p.Name (nm D[i]))) := by
        unfold z370 z558
        simp only [Option.bind_some, h2, h3, Bool.not_not]
        cases decide (D[i].Prop_.Value.Kind = 0) with
        | false => rfl
        | true =>
          cases (D.any fun x => hidesB x D[i]) with
          | true => rfl
          | false =>
            simp only [cond_true, Bool.not_false, Bool.and_self, Bool.true_and]
            show (bif decide (nm D[i] = p.Name) then _ else _) = _
            cases decide (nm D[i] = p.Name) <;> rfl
      unfold z361 z366
      simp only [hc, decide_true, cond_true, at_nat hi, Option.bind_some, h4]
      cases ((decide (D[i].Prop_.Value.Kind = 0) && !(D.any fun x => hidesB x D[i])) && (decide (nm D[i] = p.Name) || belB p.Name (nm D[i]))) <;> rfl)
    (fun s _ => by unfold z361; simp) trivial
  rw [this.1, foldl_put _ _ _ _ _ hm, gone_any]
  rfl
theorem ref5_eq {W : List api_Prop} {p : api_Prop} (lW : W.length ≤ 1000) (lp : p.Name.length ≤ 10000) {m : List (List UInt8 × api_Value)} (hm : KS m) :
    loopO (z374 W p) (m, 0) = some (if W.any (fun q => belB q.Name p.Name) then aput m p.Name zV else m) := by
  have := fold_loop0 (l := W) (f := z374 W p) (fun (s : List (List UInt8 × api_Value)) i => (s, i)) (fun m q => bif belB q.Name p.Name then aput m p.Name zV else m) id (fun _ _ => True) (s0 := m) (by omega)
    (fun i hi s _ => by
      refine ⟨?_, trivial⟩
      have hc : (i : Int) < W.length := by omega
      unfold z374 z379
      simp only [hc, decide_true, cond_true, at_nat hi, Option.bind_some, above_is _ _ lp]
      cases belB W[i].Name p.Name <;> rfl)
    (fun s _ => by unfold z374; simp) trivial
  rw [this.1, foldl_put _ _ _ _ _ hm]
  rfl
theorem ref1_eq {D R : List api_Cell} {H : List api_Prop} (kD : ∀ c ∈ D, KC c) (lD : D.length ≤ 1000) (lH : H.length ≤ 1000) (hn : ∀ p ∈ H, p.Name.length ≤ 10000) :
    loopO (z356 (api_Twin.mk D R) (vis D) H) (([] : List (List UInt8 × api_Value)), 0) = some (H.foldl (fun m p => aput m p.Name (wantV D p)) []) := by
  have lW := vis_len D
  have := fold_loop0 (l := H) (f := z356 (api_Twin.mk D R) (vis D) H) (fun (s : List (List UInt8 × api_Value)) i => (s, i)) (fun m p => aput m p.Name (wantV D p)) id (fun _ m => KS m) (s0 := []) (by omega)
    (fun i hi s hs => by
      refine ⟨?_, aput_ks hs _ _⟩
      have hc : (i : Int) < H.length := by omega
      have hk := aput_ks hs H[i].Name H[i].Value
      have e2 : loopO (z361 (api_Twin.mk D R) H[i]) (aput s H[i].Name (api_Value.mk H[i].Value.Kind H[i].Value.Flag H[i].Value.Number H[i].Value.Words), 0) = _ := ref2_eq (R := R) kD lD hk
      unfold z356
      simp only [hc, decide_true, cond_true, at_nat hi, Option.bind_some, e2]
      have hk2 : KS (if (goneL D).any (fun s => decide (s = H[i].Name) || belB H[i].Name s) then aput (aput s H[i].Name H[i].Value) H[i].Name zV else aput s H[i].Name H[i].Value) := by
        split
        · exact aput_ks hk _ _
        · exact hk
      rw [ref5_eq (by omega) (hn _ (List.getElem_mem hi)) hk2]
      simp only [Option.bind_some]
      congr 3
      unfold wantV skipB
      cases (goneL D).any fun s => decide (s = H[i].Name) || belB H[i].Name s with
      | true =>
        simp only [if_true, Bool.not_true, Bool.false_and, Bool.false_eq_true, if_false, aput_aput hs]
        split
        · rfl
        · rfl
      | false =>
        simp only [Bool.false_eq_true, if_false, Bool.not_false, Bool.true_and]
        cases (vis D).any fun q => belB q.Name H[i].Name with
        | true => simp [aput_aput hs]
        | false => simp)
    (fun s _ => by unfold z356; simp) List.Pairwise.nil
  rw [this.1]
  rfl
theorem ref7_eq {W : List api_Prop} (lW : W.length ≤ 1000) (m : List (List UInt8 × api_Value)) : loopO (z383 W) (m, 0) = some (W.foldl (fun m p => aput m p.Name p.Value) m) := by
  have := fold_loop0 (l := W) (f := z383 W) (fun (s : List (List UInt8 × api_Value)) i => (s, i)) (fun m p => aput m p.Name p.Value) id (fun _ _ => True) (s0 := m) (by omega)
    (fun i hi s _ => by
      refine ⟨?_, trivial⟩
      have hc : (i : Int) < W.length := by omega
      unfold z383
      simp only [hc, decide_true, cond_true, at_nat hi, Option.bind_some])
    (fun s _ => by unfold z383; simp) trivial
  rw [this.1]
  rfl
theorem ref8_eq {D R : List api_Cell} {M : List (List UInt8 × api_Value)} {ns : List (List UInt8)} (hD : Srt D) (hR : Srt R) (lR : R.length ≤ 1000) (hM : ∀ n, (aget M n).getD zV = owV D R n) (ln : ns.length ≤ 1000) :
    loopO (z388 (vis R) M ns) ([], 0) = some (owL D R ns) := by
  have lV := vis_len R
  have := fold_loop0 (l := ns) (f := z388 (vis R) M ns) (fun (s : List api_Change) i => (s, i)) (fun s n => bif keepB D R n then s ++ [mkCh D R n] else s) id (fun i s => s.length ≤ i) (s0 := []) (by omega)
    (fun i hi s hs => by
      have hc : (i : Int) < ns.length := by omega
      refine ⟨?_, by cases keepB D R ns[i] <;> simp <;> omega⟩
      obtain ⟨k1, k2⟩ := owV_keep hD hR ns[i]
      have hg : (aget M ns[i]).getD (api_Value.mk 0 false 0 ([] : List UInt8)) = owV D R ns[i] := hM ns[i]
      unfold z388 z393
      simp only [hc, decide_true, cond_true, at_nat hi, hg, Option.bind_some, ValueOf_eq (show (vis R).length ≤ 10000 by omega)]
      show (Option.bind (bif !eqV (owV D R ns[i]) (vo (vis R) ns[i]) then _ else _) _) = _
      rw [k1]
      cases hk : keepB D R ns[i] with
      | false => rfl
      | true =>
        simp only [cond_true, gd]
        rw [lim_ok (by simp; omega), k2 hk]
        rfl)
    (fun s _ => by unfold z388; simp) (by simp)
  rw [this.1, foldl_filter (keepB D R) (mkCh D R)]
  rfl
theorem vis_kq {l : List api_Cell} (h : ∀ c ∈ l, KC c) : ∀ p ∈ vis l, KQ p := by
  intro p hp
  obtain ⟨c, hc, _, rfl⟩ := vis_mem.1 hp
  exact ⟨(h c hc).name, (h c hc).val⟩
theorem kq_len {p : api_Prop} (h : KQ p) : p.Name.length ≤ 10000 := h.kp.2.2
/-- both say the same -/
theorem Owed_both {D R : List api_Cell} (kD : ∀ c ∈ D, KC c) (kR : ∀ c ∈ R, KC c) (gD : ∀ c ∈ D, GC c) (gR : ∀ c ∈ R, GC c) (hD : Srt D) (hR : Srt R) (lD : D.length ≤ 100) (lR : R.length ≤ 100) (h0 : z1221 (api_Twin.mk D R) = some 0) :
    ∃ C, twin_Owed (api_Twin.mk D R) = some (C, 0) ∧ z353 (api_Twin.mk D R) = some C ∧ C.length ≤ 12 ∧ ∀ c ∈ C, KH c := by
  have v1 := vis_few hD fun c hc => good8 (kD c hc) (gD c hc)
  have v2 := vis_few hR fun c hc => good8 (kR c hc) (gR c hc)
  have fl : ([vis D, vis R].flatMap (List.map api_Prop.Name)).length = (vis D).length + (vis R).length := two_flat _ _
  obtain ⟨ns, n1, n2, n3, n4⟩ := names18 (Ls := [vis D, vis R]) (by simp) (by rw [fl]; omega) (by
    intro l hl p hp
    simp only [List.mem_cons, List.not_mem_nil, or_false] at hl
    rcases hl with rfl | rfl
    · exact (vis_kq kD p hp).name
    · exact (vis_kq kR p hp).name)
  rw [fl] at n2
  refine ⟨owL D R ns, ?_, ?_, ?_, fun c hc => ?_⟩
  · unfold twin_Owed
    have e1 := gone_eq (t := api_Twin.mk D R) (show D.length ≤ 10000 by omega)
    simp only at e1
    simp only [h0, Option.bind_some, decide_true, Bool.not_true, cond_false, visible_eq (show D.length ≤ 10000 by omega), visible_eq (show R.length ≤ 10000 by omega), e1, n1, owed_loop hD hR (show D.length ≤ 500 by omega) (show R.length ≤ 500 by omega) (show ns.length ≤ 10000 by omega)]
  · obtain ⟨p1, p2⟩ := aget_puts (wantV D) (vis R) [] List.Pairwise.nil (vis_srt hR)
    obtain ⟨q1, q2⟩ := aget_puts (fun p : api_Prop => p.Value) (vis D) _ p1 (vis_srt hD)
    have hM : ∀ n, (aget ((vis D).foldl (fun m p => aput m p.Name p.Value) ((vis R).foldl (fun m p => aput m p.Name (wantV D p)) [])) n).getD zV = owV D R n := by
      intro n
      rw [q2, p2]
      unfold owV
      cases (vis D).find? (fun p => decide (p.Name = n)) with
      | some p => rfl
      | none =>
        simp only
        cases (vis R).find? (fun p => decide (p.Name = n)) with
        | some p => rfl
        | none => rfl
    unfold z353
    simp only [refVis_eq (show D.length ≤ 1000 by omega) kD, refVis_eq (show R.length ≤ 1000 by omega) kR, Option.bind_some]
    rw [ref1_eq (R := R) kD (by omega) (by omega) fun p hp => kq_len (vis_kq kR p hp)]
    simp only [Option.bind_some]
    rw [ref7_eq (by omega)]
    simp only [Option.bind_some, namesOf_eq, n1]
    rw [ref8_eq hD hR (by omega) hM (by omega)]
    rfl
  · unfold owL
    rw [List.length_map]
    exact Nat.le_trans (List.length_filter_le _ _) (by omega)
  · obtain ⟨n, hn, rfl⟩ := List.mem_map.1 hc
    exact ⟨(n4 n (List.mem_filter.1 hn).1).1, vo_val (vis_kq kR) n, vo_val (vis_kq kD) n⟩

/-! ### Changes that streams make out of nothing -/
theorem diff0_loop {b : List api_Prop} {ns : List (List UInt8)} (hb : b.length ≤ 1000) (hns : ns.length ≤ 1000) : loopO (z310 b ns) ([], 0) = some (chL [] b ns) := by
  have := fold_loop0 (l := ns) (f := z310 b ns) (fun (s : List api_Change) i => (s, i)) (fun s n => bif !eqV (vo [] n) (vo b n) then s ++ [api_Change.mk n (vo [] n) (vo b n)] else s) id (fun i s => s.length ≤ i) (s0 := []) (by omega)
    (fun i hi s hs => by
      have hc : (i : Int) < ns.length := by omega
      refine ⟨?_, by cases (!eqV (vo [] ns[i]) (vo b ns[i])) <;> simp <;> omega⟩
      have h0 : z477 ns[i] = some () := by
        unfold z477
        rw [loop_out (r := ()) (by unfold z480; simp)]
        rfl
      unfold z310 z315
      simp only [hc, decide_true, cond_true, at_nat hi, Option.bind_some, h0, ValueOf_eq (show b.length ≤ 10000 by omega)]
      show (Option.bind (bif !eqV (vo [] ns[i]) (vo b ns[i]) then _ else _) _) = _
      cases (!eqV (vo [] ns[i]) (vo b ns[i])) with
      | false => rfl
      | true =>
        simp only [cond_true, gd]
        rw [lim_ok (by simp; omega)]
        rfl)
    (fun s _ => by unfold z310; simp) (by simp)
  rw [this.1, foldl_filter]
  rfl
theorem kh_set {C : List api_Change} (h : ∀ c ∈ C, KH c) (hl : C.length ≤ 9) {i : Nat} {c : api_Change} (hc : KH c) : (∀ d ∈ C.set i c, KH d) ∧ (C.set i c).length ≤ 9 := by
  refine ⟨fun d hd => ?_, by simpa using hl⟩
  rcases List.mem_or_eq_of_mem_set hd with hd | rfl
  · exact h d hd
  · exact hc
theorem Changes0_ok {k : Nat} {s : z177} (h : StrOk k s) (hk : k + 200 < 1099511627776) : Ok (z185 s) (fun r => (∀ c ∈ r.2, KH c) ∧ r.2.length ≤ 9) := by
  unfold z185
  refine (RightProps_ok h (by omega)).bind fun ⟨s1, b⟩ ⟨b1, b2⟩ => ?_
  simp only at b1 b2
  have hlb := b2.len
  have hq : ∀ p ∈ b, KQ p := fun p hp => (b2.rp p hp).kq
  have fl : ([[], b].flatMap (List.map api_Prop.Name)).length = b.length := by rw [two_flat]; simp
  obtain ⟨ns, n1, n2, _, n4⟩ := names18 (Ls := [[], b]) (by simp) (by rw [fl]; omega) (by
    intro l hl p hp
    simp only [List.mem_cons, List.not_mem_nil, or_false] at hl
    rcases hl with rfl | rfl
    · cases hp
    · exact (hq p hp).name)
  rw [fl] at n2
  have hd : z307 b = some (chL [] b ns) := by
    unfold z307
    rw [namesOf_eq, n1]
    simp only [Option.bind_some]
    rw [diff0_loop (by omega) (by omega)]
    rfl
  have hkh : ∀ c ∈ chL [] b ns, KH c := by
    intro c hc
    obtain ⟨n, hn, rfl⟩ := List.mem_map.1 hc
    exact ⟨(n4 n (List.mem_filter.1 hn).1).1, vo_val (fun p hp => by cases hp) n, vo_val hq n⟩
  have hCl : (chL [] b ns).length ≤ 9 := by
    unfold chL
    rw [List.length_map]
    exact Nat.le_trans (List.length_filter_le _ _) (by omega)
  dsimp only
  rw [hd]
  simp only [Option.bind_some]
  generalize chL [] b ns = C at hkh hCl
  have hx : Ok (z188 s1 C) (fun r => (∀ c ∈ r.2, KH c) ∧ r.2.length ≤ 9) := by
    unfold z188
    have hx2 : Ok (z192 s1 C) (fun r => StrOk (k + 61) r.1 ∧ (r.2 = true → 0 < C.length)) := by
      unfold z192
      refine .cond (fun hp => ?_) (fun _ => .some ⟨b1.mono (by omega), by simp⟩)
      have hp : 0 < (C.length : Int) := by simpa using hp
      exact (Flip_ok b1 (by omega) (by unfold I64; omega)).bind fun b _ => .some ⟨nxt_mk b1 (by omega), fun _ => by omega⟩
    refine hx2.bind fun ⟨s2, f⟩ ⟨f1, f2⟩ => ?_
    simp only at f1 f2
    refine .cond (fun hf => ?_) (fun _ => .some ⟨hkh, hCl⟩)
    have hpos := f2 hf
    refine (Next_ok f1 (by omega) (by unfold I64; omega)).bind fun i hi => ?_
    have hi := hi.1 (by omega)
    refine (at_mem hi.1 hi.2).bind fun c hc => ?_
    have hcc := hkh c hc
    have a1 := nxt_mk f1 (by omega)
    have a2 := nxt_mk a1 (by omega)
    refine (Next_ok a1 (by omega) (by unfold I64; omega)).bind fun n _ => .cond (fun _ => ?_) (fun _ => .cond (fun _ => ?_) (fun _ => .cond (fun _ => ?_) (fun _ => ?_)))
    · exact (PropName_ok a2 (by omega)).bind fun m hm => .some (kh_set hkh hCl ⟨hm, hcc.frm, hcc.to_⟩)
    · exact (Value_ok a2 (by omega)).bind fun ⟨s3, v⟩ ⟨v1, v2⟩ => .some (kh_set hkh hCl ⟨hcc.name, v2, hcc.to_⟩)
    · exact (Value_ok a2 (by omega)).bind fun ⟨s3, v⟩ ⟨v1, v2⟩ => .some (kh_set hkh hCl ⟨hcc.name, hcc.frm, v2⟩)
    · exact .some (kh_set hkh hCl ⟨hcc.name, hcc.to_, hcc.to_⟩)
  exact hx.bind fun ⟨s2, v1⟩ hr => .some hr

/-! ### What is taken -/
theorem First_abc (a b c : Int) : z24 [a, b, c] = some (or0 a (or0 b c)) := by
  unfold z24 or0
  rw [range_loop (l := [a, b, c]) (fun _ x => if x = 0 then none else some (.inr x)) (.inl ()) (by simp)]
  · by_cases ha : a = 0 <;> by_cases hb : b = 0 <;> by_cases hc : c = 0 <;> simp [scan, ha, hb, hc]
  · intro i hi
    unfold z27
    have hc : (i : Int) < ([a, b, c] : List Int).length := by omega
    simp only [hc, decide_true, cond_true, at_nat hi, Option.bind_some]
    by_cases h0 : ([a, b, c] : List Int)[i] = 0 <;> simp [h0]
  · unfold z27; simp
def lateB (st : api_Stamp) (c : api_Cell) : Bool := decide (0 ≤ stO c.Stamp st)
theorem ownLate {R : List api_Cell} (st : api_Stamp) (hl : (R.length : Int) ≤ 9223372036854775807) : z640 R st = some (R.any (lateB st)) := by
  have h0 : z640 R st = ((z697 R st).bind fun vr2 => some (decide (0 ≤ vr2))) := rfl
  rw [h0]
  unfold z697
  obtain ⟨x, h1, h2⟩ := find_loop (l := R) (f := z700 R st) (lateB st) hl (fun i h => by
    unfold z700 z1113
    have hc : (i : Int) < R.length := by omega
    simp only [hc, decide_true, cond_true, at_nat h, Option.bind_some]
    have : z1135 (api_Stamp.mk R[i].Stamp.At R[i].Stamp.By R[i].Stamp.No) st = some (stO R[i].Stamp st) := byStamp_eq R[i].Stamp st
    rw [this]
    simp only [Option.bind_some, lateB]
    cases decide (0 ≤ stO R[i].Stamp st) <;> rfl) (by unfold z700; simp)
  rw [h1, ← h2]
  cases x <;> rfl
theorem refLate {R : List api_Cell} {st : api_Stamp} (hs : KSt st) (kR : ∀ c ∈ R, KC c) (hl : (R.length : Int) ≤ 9223372036854775807) : z634 R st = some (R.any (lateB st)) := by
  have h0 : z634 R st = ((z681 R st).bind fun vr2 => some (decide (0 ≤ vr2))) := rfl
  rw [h0]
  unfold z681
  obtain ⟨x, h1, h2⟩ := find_loop (l := R) (f := z684 R st) (lateB st) hl (fun i h => by
    unfold z684 z455
    have hc : (i : Int) < R.length := by omega
    simp only [hc, decide_true, cond_true, at_nat h, Option.bind_some]
    have : z451 (api_Stamp.mk R[i].Stamp.At R[i].Stamp.By R[i].Stamp.No) st = some (stO R[i].Stamp st) := refO_eq (kR _ (List.getElem_mem h)).st hs
    rw [this]
    simp only [Option.bind_some, lateB]
    cases decide (0 ≤ stO R[i].Stamp st) <;> rfl) (by unfold z684; simp)
  rw [h1, ← h2]
  cases x <;> rfl
def tkC (st : api_Stamp) (c : api_Change) : api_Cell := api_Cell.mk (api_Prop.mk c.Name c.To) st
theorem takeLoop {l : List api_Change} (st : api_Stamp) (hl : l.length ≤ 1000) : loopO (z1118 l st) ([], 0) = some (l.map (tkC st)) := by
  have := fold_loop0 (l := l) (f := z1118 l st) (fun (s : List api_Cell) i => (s, i)) (fun s c => s ++ [tkC st c]) id (fun i m => m.length ≤ i) (s0 := []) (by omega)
    (fun i hi m hm => by
      have hc : (i : Int) < l.length := by omega
      refine ⟨?_, by simp; omega⟩
      unfold z1118
      simp only [hc, decide_true, cond_true, at_nat hi, Option.bind_some, gd]
      rw [lim_ok (by simp; omega)]
      rfl)
    (fun s _ => by unfold z1118; simp) (by simp)
  rw [this.1, foldl_app]
  rfl
theorem refTake_x1 : z460 = z1118 := by kernel_rfl
theorem Take_both {D R : List api_Cell} {C : List api_Change} {st : api_Stamp} (kR : ∀ c ∈ R, KC c) (lD : D.length ≤ 100) (lR : R.length ≤ 7) (kC : ∀ c ∈ C, KH c) (lC : C.length ≤ 12) (ks : KSt st) {f g h : Int}
    (hf : z1221 (api_Twin.mk D R) = some f) (hg : z1011 C = some g) (hh : z1218 st = some h) (pf : f = 0 → Srt R ∧ ∀ c ∈ R, GC c) (pg : g = 0 → C.Pairwise fun x y => nlt x.Name y.Name) :
    ∃ x y e, twin_Take (api_Twin.mk D R) C st = some (x, y, e) ∧ (if or0 f (or0 g h) = 0 then z454 (api_Twin.mk D R) C st else some ([], [], or0 f (or0 g h))) = some (x, y, e) ∧ x.length ≤ 1000 ∧ y.length ≤ 1000 := by
  unfold twin_Take
  rw [hf]
  simp only [hg, hh, Option.bind_some, First_abc]
  by_cases h0 : or0 f (or0 g h) = 0
  · obtain ⟨f0, h1⟩ := or0_zero.1 h0
    obtain ⟨g0, hh0⟩ := or0_zero.1 h1
    subst f0; subst g0; subst hh0
    obtain ⟨sR, gR⟩ := pf rfl
    rw [if_pos h0, h0]
    unfold z454
    simp only [decide_true, Bool.not_true, cond_false, ownLate st (show (R.length : Int) ≤ 9223372036854775807 by omega), refLate ks kR (show (R.length : Int) ≤ 9223372036854775807 by omega), Option.bind_some]
    cases R.any (lateB st) with
    | true => exact ⟨[], [], 7, rfl, rfl, by simp, by simp⟩
    | false =>
      have gC := hgood (by omega) kC hg
      have kT : ∀ c ∈ C.map (tkC st), KC c := fun c hc => by
        obtain ⟨d, hd, rfl⟩ := List.mem_map.1 hc
        exact ⟨(kC d hd).name, (kC d hd).to_, ks⟩
      have gT : ∀ c ∈ C.map (tkC st), GC c := fun c hc => by
        obtain ⟨d, hd, rfl⟩ := List.mem_map.1 hc
        exact ⟨(gC d hd).name, (gC d hd).to_, hh⟩
      have sT : Srt (C.map (tkC st)) := by
        unfold Srt
        rw [List.pairwise_map]
        exact pg rfl
      have lT : (C.map (tkC st)).length ≤ 12 := by simpa using lC
      have hsp := mrg_spec R (C.map (tkC st)) sR sT
      simp only [cond_false, refTake_x1, takeLoop st (show C.length ≤ 1000 by omega), Option.bind_some, merged_eq (show R.length + (C.map (tkC st)).length ≤ 500 by omega) sR sT, MergeOf_eq kR kT gR gT sR sT (show R.length + (C.map (tkC st)).length ≤ 19 by omega)]
      cases hm : mrg R (C.map (tkC st)) with
      | none => exact ⟨[], [], 13, rfl, rfl, by simp, by simp⟩
      | some N =>
        rw [hm] at hsp
        have lN := hsp.2.2.2.2
        simp only [decide_true, Bool.not_true, cond_false, z581, gd]
        rw [lim_ok (show ([] : List api_Cell).length + D.length ≤ 100000 by simp; omega)]
        exact ⟨D, N, 0, rfl, rfl, by omega, by omega⟩
  · rw [if_neg h0]
    simp only [h0, decide_false, Bool.not_false, cond_true]
    exact ⟨[], [], _, rfl, rfl, by simp, by simp⟩
theorem stampBoth {s : api_Stamp} (h : KSt s) : ∃ e, z1218 s = some e ∧ z448 s = some e := stf_same h
theorem TwinsSettle_true (L : List Int) (hL : L.length ≤ 9223372036854775807) (hI : ∀ n ∈ L, -9223372036854775808 ≤ n ∧ n ≤ 9223372036854775807) : fleetlaw2_TwinsSettle L = some true := by
  apply Ok.eq
  unfold fleetlaw2_TwinsSettle z257
  have h0 : StrOk 0 (z177.mk L 0) := ⟨Int.le_refl _, by simp, hL, hI⟩
  have hT : Ok ((z178 (z177.mk L 0)).bind fun (vs2, vr3) => (z178 vs2).bind fun (vs2_1, vr3_1) => some (vs2_1, vr3, vr3_1)) (fun r => StrOk 200 r.1 ∧ ((∀ c ∈ r.2.1, KC c) ∧ r.2.1.length ≤ 7) ∧ (∀ c ∈ r.2.2, KC c) ∧ r.2.2.length ≤ 7) := by
    refine (Cells_ok h0 (by omega)).bind fun ⟨s1, a⟩ ⟨a1, ka, la⟩ => ?_
    simp only at a1 ka la
    exact (Cells_ok a1 (by omega)).bind fun ⟨s2, b⟩ ⟨b1, kb, lb⟩ => .some ⟨StrOk.mono b1 (by omega), ⟨ka, la⟩, kb, lb⟩
  refine hT.bind fun ⟨s1, D, R⟩ ⟨b1, ⟨kD, lD⟩, kR, lR⟩ => ?_
  simp only at b1 kD lD kR lR
  have c1 := nxt_mk b1 (by omega)
  have c2 := nxt_mk c1 (by omega)
  have c3 := nxt_mk c2 (by omega)
  have c4 := nxt_mk c3 (by omega)
  refine (Pick_ok b1 (by omega) (by simp) (by simp)).bind fun p1 hp1 => ?_
  refine (Some_ok c1 (by omega) (by simp) (by simp)).bind fun p2 hp2 => ?_
  refine (Pick_ok c2 (by omega) (by simp) (by simp)).bind fun p3 hp3 => ?_
  have hx1 : Ok (z125 s1 p1 p2 p3) (fun r => StrOk 220 r.1 ∧ KSt r.2) := by
    unfold z125
    refine (Flip_ok c3 (by omega) (by unfold I64; omega)).bind fun b _ => .cond (fun _ => ?_) (fun _ => .some ⟨StrOk.mono c4 (by omega), ?_⟩)
    · exact (Stamp_ok c4 (by omega)).bind fun ⟨s3, t⟩ ⟨t1, t2⟩ => .some ⟨StrOk.mono t1 (by omega), t2⟩
    · simp only [List.mem_cons, List.not_mem_nil, or_false] at hp1 hp2 hp3
      refine ⟨by unfold Bd; simp only; omega, by unfold Bd; simp only; omega, ?_⟩
      rcases hp2 with h | h <;> rw [h] <;> simp [by4]
  refine hx1.bind fun ⟨s2, st⟩ ⟨d1, ks⟩ => ?_
  simp only at d1 ks
  obtain ⟨ea, p1, p2, p3⟩ := cchecks (show D.length ≤ 400 by omega) kD
  obtain ⟨eb, q1, q2, q3⟩ := cchecks (show R.length ≤ 400 by omega) kR
  obtain ⟨es, w1, w2⟩ := stampBoth ks
  have hf : z1221 (api_Twin.mk D R) = some (or0 ea eb) := by
    unfold z1221
    simp only [p1, q1, Option.bind_some, First_ab]
  have hr : z465 (api_Twin.mk D R) = some (or0 ea eb) := by
    unfold z465 or0
    simp only [p2, q2, Option.bind_some]
    by_cases h : ea = 0 <;> simp [h]
  -- what is owed
  obtain ⟨C, o1, o2, lC, kC⟩ : ∃ C, twin_Owed (api_Twin.mk D R) = some (C, or0 ea eb) ∧ z130 D R (or0 ea eb) = some C ∧ C.length ≤ 12 ∧ ∀ c ∈ C, KH c := by
    by_cases he : or0 ea eb = 0
    · obtain ⟨e1, e2⟩ := or0_zero.1 he
      obtain ⟨sD, gD⟩ := p3 e1
      obtain ⟨sR, gR⟩ := q3 e2
      obtain ⟨C, z1, z2, z3, z4⟩ := Owed_both kD kR gD gR sD sR (by omega) (by omega) (by rw [hf, he])
      refine ⟨C, by rw [z1, he], ?_, z3, z4⟩
      unfold z130
      rw [he, z2]
      rfl
    · refine ⟨[], ?_, ?_, by simp, fun c hc => by cases hc⟩
      · unfold twin_Owed
        rw [hf]
        simp [he]
      · unfold z130
        simp [he]
  have hS : z1106 (api_Twin.mk D R) = some ((bif decide (or0 ea eb = 0) then decide ((C.length : Int) = 0) else false), or0 ea eb) := by
    unfold z1106 z1109
    rw [o1]
    simp only [Option.bind_some]
    cases decide (or0 ea eb = 0) <;> rfl
  have hx3 : z134 C (or0 ea eb) (bif decide (or0 ea eb = 0) then decide ((C.length : Int) = 0) else false) (or0 ea eb) (or0 ea eb) C = some false := by
    unfold z134
    simp only [decide_true, Bool.not_true, cond_false, hEqual_self (show (C.length : Int) ≤ 9223372036854775807 by omega), Option.bind_some]
    cases decide (or0 ea eb = 0) <;> simp
  simp only [o1, o2, hS, hr, hx3, Option.bind_some, cond_false]
  have hx4 : Ok (z140 s2 C) (fun C2 => C2.length ≤ 12 ∧ ∀ c ∈ C2, KH c) := by
    unfold z140
    refine (Flip_ok d1 (by omega) (by unfold I64; omega)).bind fun b _ => .cond (fun _ => ?_) (fun _ => .some ⟨lC, kC⟩)
    exact (Changes0_ok (nxt_mk d1 (by omega)) (by omega)).bind fun ⟨s3, C2⟩ ⟨z1, z2⟩ => .some ⟨by simp only at z2; omega, z1⟩
  refine hx4.bind fun C2 ⟨lC2, kC2⟩ => ?_
  obtain ⟨g, g1, g2, g3⟩ := hchecks (show C2.length ≤ 400 by omega) kC2
  obtain ⟨x, y, e, t1, t2, t3, t4⟩ := Take_both (D := D) kR (by omega) lR kC2 lC2 ks hf g1 w1 (fun h => q3 (or0_zero.1 h).2) g3
  have hx5 : z144 D R st (or0 ea eb) C2 = some (x, y, e) := by
    unfold z144
    simp only [g2, w2, errs3, Option.bind_some]
    rw [← t2]
    by_cases h : or0 (or0 ea eb) (or0 g es) = 0
    · rw [if_pos h]
      simp only [h, decide_true, cond_true]
      cases z454 (api_Twin.mk D R) C2 st <;> rfl
    · rw [if_neg h]
      simp [h]
  have hx6 : z150 x y e x y e = some true := by
    unfold z150 z441 z444
    simp only [decide_true, cond_true, cEqual_self (show (x.length : Int) ≤ 9223372036854775807 by omega), cEqual_self (show (y.length : Int) ≤ 9223372036854775807 by omega), Option.bind_some, twinned_eq]
  simp only [t1, hx5, hx6, Option.bind_some]
  exact .some rfl
end Go.Eng

