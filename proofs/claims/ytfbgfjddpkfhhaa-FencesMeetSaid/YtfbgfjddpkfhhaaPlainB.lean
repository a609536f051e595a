/-
What the plain functions of the law FencesMeet answer, part 2.
-/
import Derived.Test.YtfbgfjddpkfhhaaPlainA
import Derived.KernelRfl
/-
Spots in order, each once.
-/
namespace Go.Eng
open Go Geo
open scoped Classical
set_option linter.unusedVariables false
set_option linter.unusedSimpArgs false

def sO (a b : api_Spot) : Int := or0 (cmpI a.X b.X) (cmpI a.Y b.Y)
theorem bySpot_eq (a b : api_Spot) : place_bySpot a b = some (sO a b) := by
  unfold place_bySpot
  simp only [cmpInt_eq, Option.bind_some]
  have h2 : cmp_Or_int [cmpI a.X b.X, cmpI a.Y b.Y] = some (sO a b) := by
    rw [Or_eq _ (by simp)]
    unfold sO or0
    by_cases ha : cmpI a.X b.X = 0 <;> by_cases hb : cmpI a.Y b.Y = 0 <;> simp [ha, hb]
  rw [h2]; rfl
theorem spotOrder_eq {a b : api_Spot} (ha : InB a) (hb : InB b) : fleetref2_spotOrder a b = some (sO a b) := by
  unfold InB at ha hb
  unfold fleetref2_spotOrder sO or0
  rw [wrap64 (by omega) (by omega), wrap64 (by omega) (by omega)]
  simp only [sign_eq, Option.bind_some]
  by_cases h : a.X = b.X
  · have e : cmpI a.X b.X = 0 := by unfold cmpI; rw [if_neg (by omega), if_neg (by omega)]
    have e2 : cmpI (a.Y - b.Y) 0 = cmpI a.Y b.Y := by unfold cmpI; (repeat' split) <;> omega
    rw [e, if_pos rfl, decide_eq_true h, e2]; rfl
  · have e : cmpI a.X b.X ≠ 0 := by unfold cmpI; (repeat' split) <;> omega
    have e2 : cmpI (a.X - b.X) 0 = cmpI a.X b.X := by unfold cmpI; (repeat' split) <;> omega
    rw [if_neg e, decide_eq_false h, e2]; rfl
theorem sO_anti (a b : api_Spot) : sO b a = - sO a b := by
  unfold sO
  rw [cmpI_anti a.X b.X, cmpI_anti a.Y b.Y, or0_neg]
theorem sO_le {a b : api_Spot} : sO a b ≤ 0 ↔ (a.X < b.X ∨ (a.X = b.X ∧ a.Y ≤ b.Y)) := by
  unfold sO or0 cmpI; (repeat' split) <;> omega
theorem sO_tr (a b c : api_Spot) (h1 : sO a b ≤ 0) (h2 : sO b c ≤ 0) : sO a c ≤ 0 := by
  rw [sO_le] at *; omega
def kS (s : api_Spot) : Int := ph 30000 (pt s)
theorem kS_le {a b : api_Spot} (ha : InB a) (hb : InB b) (h : sO a b ≤ 0) : kS a ≤ kS b := by
  rw [sO_le] at h
  unfold InB at ha hb
  unfold kS ph pt; simp only; omega
theorem kS_inj {a b : api_Spot} (ha : InB a) (hb : InB b) (h : kS a = kS b) : a = b := by
  unfold InB at ha hb
  unfold kS ph pt at h; simp only at h
  apply pt_inj
  unfold pt
  have e1 : a.X = b.X := by omega
  have e2 : a.Y = b.Y := by omega
  rw [e1, e2]
theorem len_few' {n : Nat} (h : n ≤ 12) : ∃ r, bits_Len (IntKind.wrap .u64 (n : Int)) = some r := by
  have : ∀ k : _root_.Fin 13, (bits_Len (IntKind.wrap .u64 (k.val : Int))).isSome = true := by decide +kernel
  have h := this ⟨n, by omega⟩
  exact Option.isSome_iff_exists.1 h
theorem sort_both {l : List api_Spot} (hl : l.length ≤ 12) (hb : All InB l) :
    ∃ r, slices_SortFunc_api_Spot_api_Spot_o0_f1_place_bySpot l = some r ∧ slices_SortFunc_api_Spot_api_Spot_o0_f1_fleetref2_spotOrder l = some r ∧ r.length = l.length ∧ All InB r ∧ Ord sO r l.length := by
  obtain ⟨r, r1, r2, r3, r4⟩ := gI_both (c1 := place_bySpot) (c2 := fleetref2_spotOrder) (fun x y hx hy => ⟨_, bySpot_eq x y, spotOrder_eq hx hy⟩) (n := l.length) (by omega) rfl hb
  obtain ⟨r', q1, q2, q3, q4⟩ := gI_ord (c := place_bySpot) (P := InB) (fun x y _ _ => bySpot_eq x y) sO_anti sO_tr (by omega) hb
  rw [r1] at q1
  have e := Option.some.inj q1
  subst e
  obtain ⟨n, hn⟩ := len_few' hl
  have w0 : IntKind.wrap .i64 ((l.length : Int) - 0) = l.length := by rw [wrap64 (by omega) (by omega)]; omega
  have h12 : ((l.length : Int) ≤ 12) := by omega
  have hlen : (r.length == l.length) = true := by simp [r3]
  have i1 : slices_insertionSortCmpFunc_api_Spot_o0_f3_place_bySpot l 0 l.length = some r := r1
  have i2 : slices_insertionSortCmpFunc_api_Spot_o0_f3_fleetref2_spotOrder l 0 l.length = some r := r2
  refine ⟨r, ?_, ?_, r3, r4, q4⟩
  · unfold slices_SortFunc_api_Spot_api_Spot_o0_f1_place_bySpot slices_pdqsortCmpFunc_api_Spot_o0_f4_place_bySpot
    rw [hn]
    simp only [Option.bind_some]
    rw [loop_out (r := r)]
    · simp only [Option.bind_some, gd_true hlen]
    · unfold slices_pdqsortCmpFunc_api_Spot_o0_f4_place_bySpot_x1
      simp only [w0, h12, decide_true, cond_true, i1, Option.bind_some, gd_true hlen]
  · unfold slices_SortFunc_api_Spot_api_Spot_o0_f1_fleetref2_spotOrder slices_pdqsortCmpFunc_api_Spot_o0_f4_fleetref2_spotOrder
    rw [hn]
    simp only [Option.bind_some]
    rw [loop_out (r := r)]
    · simp only [Option.bind_some, gd_true hlen]
    · unfold slices_pdqsortCmpFunc_api_Spot_o0_f4_fleetref2_spotOrder_x1
      simp only [w0, h12, decide_true, cond_true, i2, Option.bind_some, gd_true hlen]

/-! ### Each once -/
section
variable {α : Type}
theorem gCom_strict {P : α → Prop} {t : α → α → Option Bool} (ht : ∀ x y, P x → P y → ∃ b, t x y = some b ∧ (b = true ↔ x = y)) {kf : α → Int} (hk : ∀ x y, P x → P y → kf x = kf y → x = y) {z : α} {l : List α} (hl : l.length ≤ 100000) (hp : All P l)
    (hs : ∀ p q (hpq : p < q) (hq : q < l.length), kf (l[p]'(by omega)) ≤ kf l[q]) : Ok (gCom t z l) (fun r => r.length ≤ l.length ∧ All P r ∧ r.Pairwise (fun x y => kf x < kf y)) := by
  unfold gCom
  have small : ∀ k, (k ≤ l.length) → (∀ q (hq : q + 1 < k) (hk : k ≤ l.length), l[q + 1]'(by omega) ≠ l[q]'(by omega)) → (l.take k).Pairwise (fun x y => kf x < kf y) := by
    intro k hkl hne
    rw [List.pairwise_iff_getElem]
    intro i j hi hj hij
    simp only [List.getElem_take]
    have hjl : j < l.length := by simp at hj; omega
    have hjk : j < k := by simp at hj; omega
    have h1 : kf (l[i]'(by omega)) ≤ kf (l[j - 1]'(by omega)) := by
      by_cases e : i = j - 1
      · subst e; exact Int.le_refl _
      · exact hs i (j - 1) (by omega) (by omega)
    have h2 := hs (j - 1) j (by omega) hjl
    have h3 : kf (l[j - 1]'(by omega)) ≠ kf l[j] := by
      intro e
      have e2 := hk _ _ (hp _ (List.getElem_mem (show j - 1 < l.length by omega))) (hp _ (List.getElem_mem hjl)) e
      have := hne (j - 1) (by omega) hkl
      apply this
      have e3 : j - 1 + 1 = j := by omega
      simp only [e3]
      exact e2.symm
    omega
  refine .cond (fun hc => .some ⟨Nat.le_refl _, hp, ?_⟩) (fun hc => ?_)
  · have hc := of_decide_eq_true hc
    match l, hc with
    | [], _ => simp
    | [x], _ => simp
    | x :: y :: m, hc => simp at hc; omega
  have hl2 : (2 : Int) ≤ l.length := by simpa using hc
  refine Ok.bind (P := fun x => match x with | .inl _ => l.Pairwise (fun x y => kf x < kf y) | .inr r => r.length ≤ l.length ∧ All P r ∧ r.Pairwise (fun x y => kf x < kf y)) ?_ (fun x hx => ?_)
  · refine loop_ok (fun k : Int => ∃ n : Nat, k = (n : Int) ∧ 1 ≤ n ∧ n ≤ l.length ∧ ∀ q (hq : q + 1 < n) (hk : n ≤ l.length), l[q + 1]'(by omega) ≠ l[q]'(by omega)) (fun k => ((l.length : Int) - k).toNat) ?_ ⟨1, rfl, by omega, by omega, fun q hq => by omega⟩
    rintro k ⟨n, rfl, n1, n2, n3⟩
    unfold gC1
    by_cases hk' : n < l.length
    · have hki : (n : Int) < l.length := by omega
      have w1 : IntKind.wrap .i64 ((n : Int) - 1) = ((n - 1 : Nat) : Int) := by rw [wrap64 (by omega) (by omega)]; omega
      have w2 : IntKind.wrap .i64 ((n : Int) + 1) = ((n + 1 : Nat) : Int) := by rw [wrap64 (by omega) (by omega)]; omega
      obtain ⟨b, hb, hbe⟩ := ht l[n] (l[n - 1]'(by omega)) (hp _ (List.getElem_mem hk')) (hp _ (List.getElem_mem (show n - 1 < l.length by omega)))
      simp only [hki, decide_true, cond_true, w1, at_nat hk', at_nat (show n - 1 < l.length by omega), hb, Option.bind_some]
      cases b with
      | false =>
        simp only [cond_false, w2]
        refine .some ⟨⟨n + 1, rfl, by omega, by omega, fun q hq hk => ?_⟩, by omega⟩
        by_cases e : q + 1 = n
        · subst e
          intro he
          have : (false : Bool) = true := hbe.2 he
          cases this
        · exact n3 q (by omega) n2
      | true =>
        have heq : l[n] = l[n - 1]'(by omega) := hbe.1 rfl
        simp only [cond_true]
        refine .gd (by simp; omega) ?_
        have hkn : (((l.length : Int).toNat - (n : Int).toNat : Nat) : Int) = l.length - n := by omega
        refine Ok.bind (P := fun q : List α × Int => q.1.length = l.length ∧ ∃ i : Nat, q.2 = (i : Int) ∧ i ≤ l.length ∧ All P q.1 ∧ (q.1.take i).Pairwise (fun x y => kf x < kf y)) ?_ (fun ⟨l7, k9⟩ ⟨q1, i, q2, q3, q4, q5⟩ => ?_)
        · refine loop_ok (fun q : List α × Int × Int => q.1.length = l.length ∧ All P q.1 ∧ ∃ i j : Nat, q.2.1 = (i : Int) ∧ q.2.2 = (j : Int) ∧ 1 ≤ j ∧ n + j ≤ l.length ∧ 1 ≤ i ∧ i ≤ n + j - 1 ∧ q.1.drop (n + j - 1) = l.drop (n + j - 1) ∧
            (q.1.take i).Pairwise (fun x y => kf x < kf y) ∧ ∀ (h1 : i - 1 < q.1.length) (h2 : n + j - 1 < l.length), q.1[i - 1] = l[n + j - 1]) (fun q => ((l.length : Int) - q.2.2).toNat) ?_
            ⟨rfl, hp, n, 1, rfl, rfl, by omega, by omega, by omega, by omega, rfl, small n n2 n3, fun h1 h2 => by simp only [Nat.add_sub_cancel]; exact heq.symm⟩
          rintro ⟨m, i', j'⟩ ⟨m1, m2, i, j, rfl, rfl, j1, j2, i1, i2, d1, d2, d3⟩
          simp only at m1 m2 d1 d2 d3
          unfold gC2
          rw [hkn]
          refine .cond (fun hj => ?_) (fun hj => .some ⟨m1, i, rfl, by omega, m2, d2⟩)
          have hj : (j : Int) < l.length - n := by simpa using hj
          have w3 : IntKind.wrap .i64 ((j : Int) - 1) = ((j - 1 : Nat) : Int) := by rw [wrap64 (by omega) (by omega)]; omega
          have w4 : IntKind.wrap .i64 ((i : Int) + 1) = ((i + 1 : Nat) : Int) := by rw [wrap64 (by omega) (by omega)]; omega
          have w5 : IntKind.wrap .i64 ((j : Int) + 1) = ((j + 1 : Nat) : Int) := by rw [wrap64 (by omega) (by omega)]; omega
          have a1 : m[n + j]'(by omega) = l[n + j]'(by omega) := by
            have h := congrArg (fun x => x[1]?) d1
            simp only [List.getElem?_drop] at h
            rw [show n + j - 1 + 1 = n + j by omega, List.getElem?_eq_getElem (by omega), List.getElem?_eq_getElem (by omega)] at h
            exact Option.some.inj h
          have a2 : m[n + j - 1]'(by omega) = l[n + j - 1]'(by omega) := by
            have h := congrArg (fun x => x[0]?) d1
            simp only [List.getElem?_drop] at h
            rw [show n + j - 1 + 0 = n + j - 1 by omega, List.getElem?_eq_getElem (by omega), List.getElem?_eq_getElem (by omega)] at h
            exact Option.some.inj h
          have hx := hp _ (List.getElem_mem (show n + j < l.length by omega))
          have hy := hp _ (List.getElem_mem (show n + j - 1 < l.length by omega))
          obtain ⟨b, hb, hbe⟩ := ht (l[n + j]'(by omega)) (l[n + j - 1]'(by omega)) hx hy
          refine Ok.bind (P := fun q : List α × Int => q.1.length = l.length ∧ All P q.1 ∧ ∃ i : Nat, q.2 = (i : Int) ∧ 1 ≤ i ∧ i ≤ n + j ∧ q.1.drop (n + j) = l.drop (n + j) ∧ (q.1.take i).Pairwise (fun x y => kf x < kf y) ∧ ∀ (h1 : i - 1 < q.1.length) (h2 : n + j < l.length), q.1[i - 1] = l[n + j]) ?_ (fun ⟨m', i''⟩ ⟨g1, g2, i3, g3, g4, g5, g6, g7, g8⟩ => ?_)
          · unfold gC3
            rw [w3]
            refine .gd (by simp; omega) ?_
            have e1 : (n : Int) + (j : Int) = ((n + j : Nat) : Int) := by omega
            have e2 : (n : Int) + ((j - 1 : Nat) : Int) = ((n + j - 1 : Nat) : Int) := by omega
            rw [e1, at_nat (show n + j < m.length by omega)]
            simp only [Option.bind_some]
            refine .gd (by simp; omega) ?_
            rw [e2, at_nat (show n + j - 1 < m.length by omega), at_nat (show i < m.length by omega)]
            simp only [Option.bind_some, a1, a2, hb, w4, Int.toNat_natCast]
            have hdrop : m.drop (n + j) = l.drop (n + j) := by
              have h := congrArg (List.drop 1) d1
              rw [List.drop_drop, List.drop_drop, show n + j - 1 + 1 = n + j by omega] at h
              exact h
            cases b with
            | true =>
              have he : l[n + j]'(by omega) = l[n + j - 1]'(by omega) := hbe.1 rfl
              refine .some ⟨m1, m2, i, rfl, i1, by omega, hdrop, d2, fun h1 h2 => ?_⟩
              rw [d3 h1 (by omega)]; exact he.symm
            | false =>
              have hne : l[n + j]'(by omega) ≠ l[n + j - 1]'(by omega) := fun e => by have := hbe.2 e; cases this
              refine .some ⟨by simp [m1], m2.set hx, i + 1, rfl, by omega, by omega, ?_, ?_, fun h1 h2 => ?_⟩
              · simp only
                rw [List.drop_set_of_lt (by omega)]; exact hdrop
              · simp only
                rw [List.take_succ_eq_append_getElem (by simp; omega), List.take_set_of_le (by omega)]
                simp only [List.getElem_set_self]
                rw [List.pairwise_append]
                refine ⟨d2, by simp, fun x hx' y hy' => ?_⟩
                rw [List.mem_singleton] at hy'
                subst hy'
                have hlast := d3 (by omega) (by omega)
                have hle : kf x ≤ kf (l[n + j - 1]'(by omega)) := by
                  obtain ⟨p, hp', rfl⟩ := List.mem_iff_getElem.1 hx'
                  simp only [List.getElem_take]
                  rw [← hlast]
                  have hpi : p < i := by simp at hp'; omega
                  by_cases e : p = i - 1
                  · subst e; exact Int.le_refl _
                  · have := (List.pairwise_iff_getElem.1 d2) p (i - 1) hp' (by simp; omega) (by omega)
                    simp only [List.getElem_take] at this
                    omega
                have hlt : kf (l[n + j - 1]'(by omega)) < kf (l[n + j]'(by omega)) := by
                  have h1 := hs (n + j - 1) (n + j) (by omega) (by omega)
                  by_cases e : kf (l[n + j - 1]'(by omega)) = kf (l[n + j]'(by omega))
                  · exact absurd (hk _ _ hy hx e).symm hne
                  · omega
                omega
              · simp
          · simp only at g1 g2 g3 g6 g7 g8
            subst g3
            rw [w5]
            refine .some ⟨⟨g1, g2, i3, j + 1, rfl, rfl, by omega, by omega, g4, by omega, ?_, g7, fun h1 h2 => ?_⟩, by simp only; omega⟩
            · simp only
              rw [show n + (j + 1) - 1 = n + j by omega]; exact g6
            · simp only
              have := g8 h1 (by omega)
              rw [this]
              congr 1
        · simp only at q1 q2 q4 q5
          subst q2
          refine .gd (by simp; omega) (.gd ?_ ?_)
          · simp only [Bool.and_eq_true, decide_eq_true_eq]
            refine ⟨by omega, ?_⟩
            simp only [List.length_append, List.length_take, List.length_replicate, List.length_drop, Int.toNat_natCast]
            omega
          · rw [take_part (by simp; omega)]
            refine .some ⟨?_, fun x hx => q4 x (List.mem_of_mem_take hx), by simpa using q5⟩
            simp only [List.length_take]; omega
    · have hki : ¬ (n : Int) < l.length := by omega
      simp only [hki, decide_false, cond_false]
      refine .some ?_
      have := small l.length (Nat.le_refl _) (fun q hq hk => n3 q (by omega) n2)
      rwa [List.take_length] at this
  · cases x with
    | inl _ => exact .some ⟨Nat.le_refl _, hp, hx⟩
    | inr r => exact .some hx
end
end Go.Eng

/-
The hull as the code makes it.
-/
namespace Go.Eng
open Go Geo
open scoped Classical
set_option linter.unusedVariables false
set_option linter.unusedSimpArgs false

theorem sdp_pt (a b s : api_Spot) : sdp (pt a) (pt b) (pt s) = sd a.X a.Y b.X b.Y s.X s.Y := rfl
theorem last_two {α} (t u : α) (r : List α) : at? (t :: u :: r).reverse ((((t :: u :: r).length : Int)) - 2) = some u ∧ at? (t :: u :: r).reverse ((((t :: u :: r).length : Int)) - 1) = some t := by
  have hl : (t :: u :: r).reverse.length = r.length + 2 := by simp
  have e : ((t :: u :: r).length : Int) = ((r.length + 2 : Nat) : Int) := by simp; omega
  refine ⟨?_, ?_⟩
  · rw [e, show ((r.length + 2 : Nat) : Int) - 2 = (r.length : Int) by omega, at_nat (by rw [hl]; omega)]
    congr 1
    simp [List.getElem_append_right]
  · rw [e, show ((r.length + 2 : Nat) : Int) - 1 = ((r.length + 1 : Nat) : Int) by omega, at_nat (by rw [hl]; omega)]
    congr 1
    simp [List.getElem_append_right]

theorem half_pop {s : api_Spot} (hs : InB s) {r0 : List api_Spot} (h0 : All InB r0) (hl : r0.length ≤ 100000) :
    Ok (loopO (place_half_o0_x2 s) (r0.reverse, (r0.reverse.length : Int))) (fun v => ∃ r, v = r.reverse ∧ r.map pt = popS (pt s) (r0.map pt) ∧ All InB r ∧ r.length ≤ r0.length) := by
  refine loop_ok (fun q : List api_Spot × Int => ∃ r, q.1 = r.reverse ∧ q.2 = (r.length : Int) ∧ popS (pt s) (r.map pt) = popS (pt s) (r0.map pt) ∧ All InB r ∧ r.length ≤ r0.length) (fun q => q.2.toNat) ?_ ⟨r0, rfl, by simp, rfl, h0, Nat.le_refl _⟩
  rintro ⟨v, n⟩ ⟨r, rfl, rfl, h1, h2, h3⟩
  unfold place_half_o0_x2 place_half_o0_x3
  match r, h1, h2, h3 with
  | [], h1, h2, h3 => exact .some ⟨[], rfl, by rw [← h1]; rfl, h2, h3⟩
  | [t], h1, h2, h3 => exact .some ⟨[t], rfl, by rw [← h1]; rfl, h2, h3⟩
  | t :: u :: r, h1, h2, h3 =>
    have hc : (1 : Int) < ((t :: u :: r).length : Int) := by simp only [List.length_cons]; omega
    have hlen : (t :: u :: r).length ≤ 100000 := by omega
    have w2 : IntKind.wrap .i64 (((t :: u :: r).length : Int) - 2) = ((t :: u :: r).length : Int) - 2 := wrap64 (by omega) (by omega)
    have w1 : IntKind.wrap .i64 (((t :: u :: r).length : Int) - 1) = ((t :: u :: r).length : Int) - 1 := wrap64 (by omega) (by omega)
    obtain ⟨a2, a1⟩ := last_two t u r
    have hu : InB u := h2 _ (by simp)
    have ht : InB t := h2 _ (by simp)
    unfold place_side
    simp only [hc, decide_true, cond_true, w2, w1, a2, a1, Option.bind_some, side_wrap hu ht hs]
    by_cases hd : sd u.X u.Y t.X t.Y s.X s.Y ≤ 0
    · simp only [hd, decide_true, cond_true]
      have g : (decide (0 ≤ ((t :: u :: r).length : Int) - 1) && decide (((t :: u :: r).length : Int) - 1 ≤ ((t :: u :: r).reverse.length : Int))) = true := by simp; omega
      refine .gd g (.some ⟨⟨u :: r, ?_, ?_, ?_, fun x hx => h2 x (List.mem_cons_of_mem _ hx), by simp at h3 ⊢; omega⟩, by simp only [List.length_cons]; omega⟩)
      · have e : (((t :: u :: r).length : Int) - 1).toNat = (u :: r).reverse.length := by simp
        rw [e, List.reverse_cons (a := t), List.take_left]
      · simp only [List.length_cons]; omega
      · rw [← h1]
        simp only [List.map_cons]
        conv => rhs; unfold popS
        rw [if_pos (by rw [sdp_pt]; exact hd)]
    · simp only [hd, decide_false, cond_false]
      refine .some ⟨_, rfl, ?_, h2, h3⟩
      rw [← h1]
      simp only [List.map_cons]
      conv => rhs; unfold popS
      rw [if_neg (by rw [sdp_pt]; exact hd)]

theorem take_succ' {α} {l : List α} {i : Nat} (h : i < l.length) : l.take (i + 1) = l.take i ++ [l[i]] := List.take_succ_eq_append_getElem h
theorem half_eq {l : List api_Spot} (h0 : All InB l) (hl : l.length ≤ 10000) :
    Ok (place_half_o0 l) (fun v => ∃ r, v = r.reverse ∧ r.map pt = (l.map pt).foldl pushS [] ∧ All InB r ∧ r.length ≤ l.length) := by
  unfold place_half_o0
  refine Ok.bind (P := fun v => ∃ r, v = r.reverse ∧ r.map pt = (l.map pt).foldl pushS [] ∧ All InB r ∧ r.length ≤ l.length) ?_ (fun v hv => .some hv)
  refine loop_ok (fun q : List api_Spot × Int => ∃ k : Nat, q.2 = (k : Int) ∧ k ≤ l.length ∧ ∃ r, q.1 = r.reverse ∧ r.map pt = ((l.take k).map pt).foldl pushS [] ∧ All InB r ∧ r.length ≤ k) (fun q => ((l.length : Int) - q.2).toNat) ?_ ⟨0, rfl, by omega, [], rfl, rfl, fun _ h => by simp at h, by simp⟩
  rintro ⟨v, i⟩ ⟨k, rfl, k1, r, rfl, r1, r2, r3⟩
  unfold place_half_o0_x1
  by_cases hk : k < l.length
  · have hk' : (k : Int) < l.length := by omega
    have w1 : IntKind.wrap .i64 ((k : Int) + 1) = ((k + 1 : Nat) : Int) := by rw [wrap64 (by omega) (by omega)]; omega
    have hs := h0 _ (List.getElem_mem hk)
    simp only [hk', decide_true, cond_true, at_nat hk, Option.bind_some, w1]
    refine (half_pop hs r2 (by omega)).bind fun v ⟨r', hv, e1, e2, e3⟩ => ?_
    subst hv
    refine .gd (ble_lim (by simp; omega)) (.some ⟨⟨k + 1, rfl, by omega, l[k] :: r', by simp, ?_, ?_, by simp; omega⟩, by simp only; omega⟩)
    · rw [take_succ' hk, List.map_append, List.foldl_append, ← r1]
      simp only [List.map_cons, List.map_nil, List.foldl_cons, List.foldl_nil]
      unfold pushS
      rw [e1]
    · intro x hx
      rcases List.mem_cons.1 hx with rfl | hx
      · exact hs
      · exact e2 x hx
  · have hk' : ¬ (k : Int) < l.length := by omega
    simp only [hk', decide_false, cond_false]
    refine .some ⟨r, rfl, ?_, r2, by omega⟩
    rw [r1, List.take_of_length_le (by omega)]

/-! ### Turned round -/
theorem rev_eq {l : List api_Spot} (hl : l.length ≤ 100000) : slices_Reverse_api_Spot_api_Spot_o0 l = some l.reverse := by
  apply Ok.eq
  unfold slices_Reverse_api_Spot_api_Spot_o0
  rw [wrap64 (by omega) (by omega)]
  refine Ok.bind (P := fun v => v = l.reverse) ?_ (fun v hv => .some hv)
  refine loop_ok (fun q : List api_Spot × Int × Int => q.1.length = l.length ∧ ∃ i : Nat, q.2.1 = (i : Int) ∧ q.2.2 = (l.length : Int) - 1 - i ∧ (i : Int) ≤ (l.length : Int) - i ∧ (∀ p (hp : p < q.1.length) (hl : p < l.length), i ≤ p → p < l.length - i → q.1[p] = l[p]) ∧
    (∀ p (hp : p < q.1.length) (hl : l.length - 1 - p < l.length), (p < i ∨ l.length - i ≤ p) → q.1[p] = l[l.length - 1 - p])) (fun q => ((l.length : Int) - q.2.1).toNat) ?_
    ⟨rfl, 0, rfl, by simp, by simp, fun _ _ _ _ _ => rfl, fun p hp _ h => by simp only at hp; omega⟩
  rintro ⟨v, i', j'⟩ ⟨v1, i, rfl, rfl, v2, v3, v4⟩
  simp only at v1 v3 v4
  unfold slices_Reverse_api_Spot_api_Spot_o0_x1
  by_cases hc : (i : Int) < (l.length : Int) - 1 - i
  · have hi : i < v.length := by omega
    have hj : l.length - 1 - i < v.length := by omega
    have ej : (l.length : Int) - 1 - i = ((l.length - 1 - i : Nat) : Int) := by omega
    have w1 : IntKind.wrap .i64 ((i : Int) + 1) = ((i + 1 : Nat) : Int) := by rw [wrap64 (by omega) (by omega)]; omega
    have w2 : IntKind.wrap .i64 (((l.length - 1 - i : Nat) : Int) - 1) = (l.length : Int) - 1 - ((i + 1 : Nat) : Int) := by rw [wrap64 (by omega) (by omega)]; omega
    have hc' := hc
    rw [ej] at hc'
    have hne : l.length - 1 - i ≠ i := by omega
    rw [ej]
    simp only [hc', decide_true, cond_true, at_nat hi, at_nat hj, Option.bind_some, Int.toNat_natCast, w1, w2]
    rw [at_nat (show l.length - 1 - i < (v.set i v[l.length - 1 - i]).length by simp; omega)]
    simp only [Option.bind_some]
    refine .some ⟨⟨by simp [v1], i + 1, rfl, rfl, by omega, ?_, ?_⟩, by simp only; omega⟩
    · intro p hp hpl h1 h2
      simp only [List.getElem_set]
      rw [if_neg (by omega), if_neg (by omega)]
      exact v3 p (by omega) hpl (by omega) (by omega)
    · intro p hp hpl h
      simp only [List.getElem_set]
      by_cases h1 : l.length - 1 - i = p
      · subst h1
        rw [if_pos rfl, v3 i hi (by omega) (by omega) (by omega)]
        congr 1; omega
      · rw [if_neg h1]
        by_cases h2 : i = p
        · subst h2
          rw [if_pos rfl]
          exact v3 _ hj (by omega) (by omega) (by omega)
        · rw [if_neg h2]
          exact v4 p (by simp at hp; omega) hpl (by omega)
  · simp only [hc, decide_false, cond_false]
    refine .some ?_
    apply List.ext_getElem (by simp [v1])
    intro p h1 h2
    rw [List.getElem_reverse]
    by_cases h : p < i ∨ l.length - i ≤ p
    · exact v4 p h1 (by omega) h
    · rw [v3 p h1 (by omega) (by omega) (by omega)]
      congr 1; omega

theorem sconcat_eq {a b : List api_Spot} (ha : a.length ≤ 10000) (hb : b.length ≤ 10000) : slices_Concat_api_Spot_api_Spot_o0 [a, b] = some (a ++ b) := by
  unfold slices_Concat_api_Spot_api_Spot_o0
  have w1 : IntKind.wrap .i64 ((0 : Int) + a.length) = a.length := by rw [wrap64 (by omega) (by omega)]; omega
  have w2 : IntKind.wrap .i64 ((a.length : Int) + b.length) = (a.length : Int) + b.length := wrap64 (by omega) (by omega)
  have n1 : ¬ (a.length : Int) < 0 := by omega
  have n2 : ¬ (a.length : Int) + b.length < 0 := by omega
  have i1 : IntKind.wrap .i64 ((0 : Int) + 1) = 1 := by decide
  have i2 : IntKind.wrap .i64 ((1 : Int) + 1) = 2 := by decide
  have t0 : at? [a, b] 0 = some a := rfl
  have t1 : at? [a, b] 1 = some b := rfl
  have c0 : (0 : Int) < (([a, b] : List (List api_Spot)).length : Int) := by simp
  have c1 : (1 : Int) < (([a, b] : List (List api_Spot)).length : Int) := by simp
  have c2 : ¬ (2 : Int) < (([a, b] : List (List api_Spot)).length : Int) := by simp
  have l1 : loopO (slices_Concat_api_Spot_api_Spot_o0_x1 [a, b]) (0, 0) = some ((a.length : Int) + b.length) := by
    rw [loop_in (s' := ((a.length : Int), 1)), loop_in (s' := ((a.length : Int) + b.length, 2)), loop_out (r := (a.length : Int) + b.length)]
    · unfold slices_Concat_api_Spot_api_Spot_o0_x1
      simp only [c2, decide_false, cond_false]
    · unfold slices_Concat_api_Spot_api_Spot_o0_x1
      simp only [c1, decide_true, cond_true, t1, Option.bind_some, w2, n2, decide_false, cond_false, i2]
    · unfold slices_Concat_api_Spot_api_Spot_o0_x1
      simp only [c0, decide_true, cond_true, t0, Option.bind_some, w1, n1, decide_false, cond_false, i1]
  have l2 : loopO (slices_Concat_api_Spot_api_Spot_o0_x2 [a, b]) ([], 0) = some (a ++ b) := by
    have g1 : Nat.ble (([] : List api_Spot).length + a.length) LIM = true := ble_lim (by simp; omega)
    have g2 : Nat.ble (a.length + b.length) LIM = true := ble_lim (by omega)
    rw [loop_in (s' := (a, 1)), loop_in (s' := (a ++ b, 2)), loop_out (r := a ++ b)]
    · unfold slices_Concat_api_Spot_api_Spot_o0_x2
      simp only [c2, decide_false, cond_false]
    · unfold slices_Concat_api_Spot_api_Spot_o0_x2
      simp only [c1, decide_true, cond_true, t1, Option.bind_some, gd_true g2, i2]
    · unfold slices_Concat_api_Spot_api_Spot_o0_x2
      simp only [c0, decide_true, cond_true, t0, Option.bind_some, gd_true g1, i1, List.nil_append]
  have g : slices_Grow_api_Spot_api_Spot_n0 ((a.length : Int) + b.length) = some [] := by
    unfold slices_Grow_api_Spot_api_Spot_n0 slices_Grow_api_Spot_api_Spot_n0_x1
    have w3 : IntKind.wrap .i64 ((0 : Int) - 0) = 0 := by decide
    have w4 : IntKind.wrap .i64 ((a.length : Int) + b.length - 0) = (a.length : Int) + b.length := by rw [wrap64 (by omega) (by omega)]; omega
    simp only [n2, decide_false, cond_false, w3, w4]
    by_cases hz : (0 : Int) < (a.length : Int) + b.length
    · have h1 : (decide (0 ≤ (a.length : Int) + b.length) && decide ((a.length : Int) + b.length ≤ 137438953472)) = true := by simp; omega
      simp only [hz, decide_true, cond_true, gd_true h1]
      rw [gd_true (by simp; omega)]; rfl
    · simp only [hz, decide_false, cond_false]; rfl
  rw [l1]
  simp only [Option.bind_some, g, l2]

/-! ### Each spot once -/
def eqSp (x y : api_Spot) : Option Bool := some (decide (x.X = y.X) && (decide (x.Y = y.Y) && true))
theorem compact_eq (l : List api_Spot) : slices_Compact_api_Spot_api_Spot_o0 l = gCom eqSp (api_Spot.mk 0 0) l := by kernel_rfl
theorem eqSp_ok (x y : api_Spot) : ∃ b, eqSp x y = some b ∧ (b = true ↔ x = y) := by
  refine ⟨_, rfl, ?_⟩
  exact spB_iff
/-- the spots in order, each once -/
theorem sorted_ok {l : List api_Spot} (hl : l.length ≤ 12) (hb : All InB l) : ∃ r m, slices_SortFunc_api_Spot_api_Spot_o0_f1_place_bySpot l = some r ∧ slices_SortFunc_api_Spot_api_Spot_o0_f1_fleetref2_spotOrder l = some r ∧ r.length = l.length ∧
    slices_Compact_api_Spot_api_Spot_o0 r = some m ∧ m.length ≤ 12 ∧ All InB m ∧ asc 30000 (m.map pt) := by
  obtain ⟨r, r1, r2, r3, r4, r5⟩ := sort_both hl hb
  obtain ⟨m, m1, m2, m3, m4⟩ := gCom_strict (P := InB) (t := eqSp) (fun x y _ _ => eqSp_ok x y) (kf := kS) (fun x y hx hy => kS_inj hx hy) (z := api_Spot.mk 0 0) (l := r) (by omega) r4 (fun p q hpq hq => by
    have := r5 p q hpq (by omega) (by omega)
    exact kS_le (r4 _ (List.getElem_mem _)) (r4 _ (List.getElem_mem _)) this)
  refine ⟨r, m, r1, r2, r3, ?_, by omega, m3, ?_⟩
  · rw [compact_eq, m1]
  · unfold asc
    rw [List.pairwise_map]
    exact m4
end Go.Eng

/-
The hull, both ways.
-/
namespace Go.Eng
open Go Geo
open scoped Classical
set_option linter.unusedVariables false
set_option linter.unusedSimpArgs false

theorem scan_idxp {α : Type} {p : α → Bool} : ∀ (l : List α) (k : Nat), ∃ r : Int, (match ((scan (fun i x => cond (p x) (some (Sum.inr (i : Int))) none) k l).getD (Sum.inl ()) : Unit ⊕ Int) with | .inl _ => (-1 : Int) | .inr i => i) = r ∧ (decide (0 ≤ r) = l.any p)
  | [], k => ⟨-1, rfl, rfl⟩
  | x :: l, k => by
    simp only [scan, List.any_cons]
    cases p x with
    | true => exact ⟨k, rfl, by simp⟩
    | false => simpa using scan_idxp l (k + 1)
noncomputable def inB (s : api_Spot) : Bool := decide (InB s)
theorem hull1_eq (s : api_Spot) : place_Hull_1 s = some (!inB s) := by
  unfold place_Hull_1 inB
  rw [isSpot_eq]
  simp only [Option.bind_some]
  congr 2
  rw [Bool.eq_iff_iff, decide_eq_true_iff]
  exact inB_iff s
theorem hcontains_eq (l : List api_Spot) (hl : l.length ≤ 100000) : slices_ContainsFunc_api_Spot_api_Spot_f1_place_Hull_1 l = some (l.any fun s => !inB s) := by
  unfold slices_ContainsFunc_api_Spot_api_Spot_f1_place_Hull_1 slices_IndexFunc_api_Spot_api_Spot_f1_place_Hull_1
  rw [range_loop (l := l) (fun i x => cond (!inB x) (some (.inr (i : Int))) none) (.inl ()) (by omega)]
  · obtain ⟨r, h1, h2⟩ := scan_idxp (p := fun x => !inB x) l 0
    revert h1
    generalize ((scan (fun i x => cond (!inB x) (some (Sum.inr (i : Int))) none) 0 l).getD (Sum.inl ()) : Unit ⊕ Int) = q
    intro h1
    rw [← h2, ← h1]
    cases q <;> rfl
  · intro i hi
    unfold slices_IndexFunc_api_Spot_api_Spot_f1_place_Hull_1_x1
    have h : (i : Int) < l.length := by omega
    simp only [h, decide_true, cond_true, at_nat hi, Option.bind_some, hull1_eq]
    cases inB l[i] <;> rfl
  · unfold slices_IndexFunc_api_Spot_api_Spot_f1_place_Hull_1_x1
    simp
theorem sideb_eq {a b s : api_Spot} {m : List api_Spot} (ha : InB a) (hb : InB b) (hs : InB s) (h0 : at? m 0 = some a) (h1 : at? m (IntKind.wrap .i64 ((m.length : Int) - 1)) = some b) : fleetref2_HullOf_1 s m = some (!decide (sd a.X a.Y b.X b.Y s.X s.Y = 0)) := by
  unfold fleetref2_HullOf_1
  simp only [h0, h1, Option.bind_some, rside_eq ha hb hs]
  congr 2
  rw [Bool.eq_iff_iff, decide_eq_true_iff, decide_eq_true_iff]
  unfold cmpI; (repeat' split) <;> omega
theorem rcontains_eq {m : List api_Spot} {a b : api_Spot} (hm : All InB m) (hl : m.length ≤ 100000) (ha : InB a) (hb : InB b) (h0 : at? m 0 = some a) (h1 : at? m (IntKind.wrap .i64 ((m.length : Int) - 1)) = some b) :
    slices_ContainsFunc_api_Spot_api_Spot_f1_fleetref2_HullOf_1 m = some (m.any fun s => !decide (sd a.X a.Y b.X b.Y s.X s.Y = 0)) := by
  unfold slices_ContainsFunc_api_Spot_api_Spot_f1_fleetref2_HullOf_1 slices_IndexFunc_api_Spot_api_Spot_f1_fleetref2_HullOf_1
  rw [range_loop (l := m) (fun i x => cond (!decide (sd a.X a.Y b.X b.Y x.X x.Y = 0)) (some (.inr (i : Int))) none) (.inl ()) (by omega)]
  · obtain ⟨r, g1, g2⟩ := scan_idxp (p := fun x : api_Spot => !decide (sd a.X a.Y b.X b.Y x.X x.Y = 0)) m 0
    revert g1
    generalize ((scan (fun i (x : api_Spot) => cond (!decide (sd a.X a.Y b.X b.Y x.X x.Y = 0)) (some (Sum.inr (i : Int))) none) 0 m).getD (Sum.inl ()) : Unit ⊕ Int) = q
    intro g1
    rw [← g2, ← g1]
    cases q <;> rfl
  · intro i hi
    unfold slices_IndexFunc_api_Spot_api_Spot_f1_fleetref2_HullOf_1_x1
    have h : (i : Int) < m.length := by omega
    simp only [h, decide_true, cond_true, at_nat hi, Option.bind_some, sideb_eq ha hb (hm _ (List.getElem_mem hi)) h0 h1]
    cases decide (sd a.X a.Y b.X b.Y m[i].X m[i].Y = 0) <;> rfl
  · unfold slices_IndexFunc_api_Spot_api_Spot_f1_fleetref2_HullOf_1_x1
    simp

/-! ### One step around -/
noncomputable def gwA (a nx s : api_Spot) : api_Spot := if s = a then nx else if nx = a ∨ sdp (pt a) (pt nx) (pt s) < 0 ∨ (sdp (pt a) (pt nx) (pt s) = 0 ∧ d2 (pt a) (pt nx) < d2 (pt a) (pt s)) then s else nx
theorem pt_eq {a b : api_Spot} : pt a = pt b ↔ a = b := ⟨pt_inj, fun h => by rw [h]⟩
theorem gwA_pt (a nx s : api_Spot) : pt (gwA a nx s) = gwS (pt a) (pt nx) (pt s) := by
  unfold gwA gwS
  simp only [pt_eq]
  (repeat' split) <;> rfl
theorem gwA_fold (a : api_Spot) : ∀ (l : List api_Spot) (nx : api_Spot), pt (l.foldl (gwA a) nx) = (l.map pt).foldl (gwS (pt a)) (pt nx)
  | [], nx => rfl
  | s :: l, nx => by rw [List.foldl_cons, List.map_cons, List.foldl_cons, ← gwA_pt, gwA_fold a l]
theorem gwA_in {a nx s : api_Spot} (hn : InB nx) (hs : InB s) : InB (gwA a nx s) := by
  unfold gwA; (repeat' split) <;> assumption
theorem d2_wrap {a s : api_Spot} (ha : InB a) (hs : InB s) :
    (IntKind.wrap .i64 ((IntKind.wrap .i64 ((IntKind.wrap .i64 (s.X - a.X)) * (IntKind.wrap .i64 (s.X - a.X)))) + (IntKind.wrap .i64 ((IntKind.wrap .i64 (s.Y - a.Y)) * (IntKind.wrap .i64 (s.Y - a.Y)))))) = d2 (pt a) (pt s) := by
  obtain ⟨a1, a2⟩ := ha; obtain ⟨s1, s2⟩ := hs
  rw [wrap64 (n := s.X - a.X) (by omega) (by omega), wrap64 (n := s.Y - a.Y) (by omega) (by omega)]
  have m1 := wmul (x := s.X - a.X) (y := s.X - a.X) (by omega) (by omega)
  have m2 := wmul (x := s.Y - a.Y) (y := s.Y - a.Y) (by omega) (by omega)
  rw [m1.1, m2.1, wrap64 (by omega) (by omega)]
  rfl
theorem step_eq {m : List api_Spot} {a nx : api_Spot} (hm : All InB m) (ha : InB a) (hn : InB nx) {i : Nat} (hi : i < m.length) : fleetref2_HullOf_x3 m a nx (i : Int) = some (gwA a nx m[i]) := by
  have hs := hm _ (List.getElem_mem hi)
  unfold fleetref2_HullOf_x3
  rw [at_nat hi]
  generalize m[i] = s at hs
  simp only [Option.bind_some]
  have e1 : (decide (s.X = a.X) && (decide (s.Y = a.Y) && true)) = decide (s = a) := by
    rw [Bool.eq_iff_iff, decide_eq_true_iff]; exact spot_eq
  have e2 : (decide (nx.X = a.X) && (decide (nx.Y = a.Y) && true)) = decide (nx = a) := by
    rw [Bool.eq_iff_iff, decide_eq_true_iff]; exact spot_eq
  unfold gwA
  rw [e1, rside_eq ha hn hs]
  by_cases h1 : s = a
  · rw [decide_eq_true h1, if_pos h1]; rfl
  rw [decide_eq_false h1, if_neg h1]
  simp only [cond_false, Option.bind_some]
  unfold fleetref2_HullOf_x4 fleetref2_minus fleetref2_dot_2
  rw [e2]
  have hsd : sdp (pt a) (pt nx) (pt s) = sd a.X a.Y nx.X nx.Y s.X s.Y := rfl
  rw [← hsd]
  generalize hg : sdp (pt a) (pt nx) (pt s) = g
  have c1 : decide (cmpI g 0 < 0) = decide (g < 0) := by
    rw [Bool.eq_iff_iff, decide_eq_true_iff, decide_eq_true_iff]; unfold cmpI; (repeat' split) <;> omega
  have c2 : decide (cmpI g 0 = 0) = decide (g = 0) := by
    rw [Bool.eq_iff_iff, decide_eq_true_iff, decide_eq_true_iff]; unfold cmpI; (repeat' split) <;> omega
  rw [c1, c2]
  simp only [Option.bind_some, d2_wrap ha hs, d2_wrap ha hn]
  by_cases h2 : nx = a
  · rw [decide_eq_true h2, if_pos (.inl h2)]; rfl
  · rw [decide_eq_false h2]
    by_cases h3 : g < 0
    · rw [decide_eq_true h3, if_pos (.inr (.inl h3))]; rfl
    · rw [decide_eq_false h3]
      by_cases h4 : g = 0
      · rw [decide_eq_true h4]
        by_cases h5 : d2 (pt a) (pt nx) < d2 (pt a) (pt s)
        · rw [decide_eq_true h5, if_pos (.inr (.inr ⟨h4, h5⟩))]; rfl
        · rw [decide_eq_false h5, if_neg (fun h => h.elim h2 fun h => h.elim h3 fun h => h5 h.2)]; rfl
      · rw [decide_eq_false h4, if_neg (fun h => h.elim h2 fun h => h.elim h3 fun h => h4 h.1)]; rfl
theorem next_eq {m : List api_Spot} {a : api_Spot} (hm : All InB m) (hl : m.length ≤ 100000) (ha : InB a) : ∃ b, loopO (fleetref2_HullOf_x2 m a) (a, 0) = some b ∧ pt b = gw (m.map pt) (pt a) ∧ InB b := by
  have := gather_loop (l := m) (f := fleetref2_HullOf_x2 m a) (fun (s : api_Spot) i => (s, i)) (gwA a) id (fun _ s => InB s) (s0 := a) (by omega) (fun i hi s hs => by
    unfold fleetref2_HullOf_x2
    have h : (i : Int) < m.length := by omega
    simp only [h, decide_true, cond_true, step_eq hm ha hs hi, Option.bind_some, true_and]
    exact gwA_in hs (hm _ (List.getElem_mem hi))) (fun s _ => by unfold fleetref2_HullOf_x2; simp) ha
  refine ⟨_, this.1, ?_, this.2⟩
  exact gwA_fold a m a
/-- all the way around -/
theorem round_eq {m T : List api_Spot} {a : api_Spot} (hm : All InB m) (hl : m.length ≤ 100000) (hT : All InB (a :: T)) (hTl : T.length ≤ 100000) (hne : ∀ x ∈ T, x ≠ a) (hN : ∀ e ∈ ring (a :: T), Nx 30000 (m.map pt) (pt e.1) (pt e.2)) :
    loopO (fleetref2_HullOf_x1 m) [a] = some (a :: T) := by
  apply Ok.eq
  refine loop_ok (fun v : List api_Spot => ∃ k : Nat, k < (a :: T).length ∧ v = (a :: T).take (k + 1)) (fun v => (a :: T).length - v.length) ?_ ⟨0, by simp, by simp⟩
  rintro v ⟨k, k1, rfl⟩
  have hvl : ((a :: T).take (k + 1)).length = k + 1 := by rw [List.length_take]; omega
  have hTl' : (a :: T).length ≤ 100001 := by simp; omega
  unfold fleetref2_HullOf_x1
  rw [hvl, wrap64 (by omega) (by omega), show (((k + 1 : Nat) : Int) - 1) = (k : Int) by omega, at_nat (by rw [hvl]; omega)]
  have hg : ((a :: T).take (k + 1))[k]'(by rw [hvl]; omega) = (a :: T)[k] := List.getElem_take
  rw [hg]
  simp only [Option.bind_some]
  obtain ⟨b, b1, b2, b3⟩ := next_eq (m := m) hm hl (hT _ (List.getElem_mem k1))
  have hr := ring_get k1
  have hmem : (ring (a :: T))[k]'(by rw [ring_len]; exact k1) ∈ ring (a :: T) := List.getElem_mem _
  have hN' := hN _ hmem
  rw [hr] at hN'
  have hb : b = (a :: T)[(k + 1) % (a :: T).length]'(Nat.mod_lt _ (by omega)) := pt_inj (b2.trans (gw_eq hN'))
  have h0 : at? ((a :: T).take (k + 1)) 0 = some a := by rw [show (0 : Int) = ((0 : Nat) : Int) from rfl, at_nat (by rw [hvl]; omega)]; rfl
  have e2 : (decide (b.X = a.X) && (decide (b.Y = a.Y) && true)) = decide (b = a) := by
    rw [Bool.eq_iff_iff, decide_eq_true_iff]; exact spot_eq
  rw [b1]
  simp only [Option.bind_some, h0, e2]
  by_cases hk : k + 1 < (a :: T).length
  · have hb' : b = (a :: T)[k + 1] := by
      rw [hb]; congr 1; exact Nat.mod_eq_of_lt hk
    have hba : b ≠ a := by
      rw [hb']
      exact hne _ (by simp)
    rw [decide_eq_false hba]
    refine .gd (ble_lim (by simp; omega)) (.some ⟨⟨k + 1, hk, ?_⟩, ?_⟩)
    · rw [hb', ← List.take_succ_eq_append_getElem hk]
    · simp only [List.length_append, hvl, List.length_singleton]; omega
  · have hb' : b = a := by
      rw [hb]
      have : (k + 1) % (a :: T).length = 0 := by rw [show k + 1 = (a :: T).length by omega]; exact Nat.mod_self _
      simp only [this]; rfl
    rw [decide_eq_true hb']
    refine .some ?_
    exact List.take_of_length_le (by omega)

/-! ### The hull, both ways -/
theorem hull_both {l : List api_Spot} (hl : l.length ≤ 12) (hb : All InB l) : ∃ h, place_Hull l = some (h, 0) ∧ fleetref2_HullOf l = some h ∧ h.length ≤ 100 := by
  obtain ⟨r, m, r1, r2, r3, m1, m2, m3, m4⟩ := sorted_ok hl hb
  have hcl : slices_Clone_api_Spot_api_Spot l = some l := by
    unfold slices_Clone_api_Spot_api_Spot
    rw [gd_true (ble_lim (by simp; omega))]
  have hrl : (r.length == l.length) = true := by simp [r3]
  have hl2 : ¬ (2000 : Int) < l.length := by omega
  have hany : (l.any fun s => !inB s) = false := by
    rw [← Bool.not_eq_true, List.any_eq_true]
    rintro ⟨x, hx, h⟩
    have := hb x hx
    unfold inB at h
    rw [decide_eq_true this] at h; cases h
  have hP : place_Hull l = cond (decide ((m.length : Int) < 2)) (some (m, 0)) ((place_half_o0 m).bind fun vr3 =>
        gd (m.length == m.length) <|
        (slices_Reverse_api_Spot_api_Spot_o0 m).bind fun vl2 =>
        gd (vl2.length == m.length) <|
        (place_half_o0 vl2).bind fun vr4 =>
        gd (vl2.length == vl2.length) <|
        (sub? vr4 1 (IntKind.wrap .i64 ((vr4.length : Int) - 1))).bind fun vl1 =>
        (slices_Concat_api_Spot_api_Spot_o0 ([vr3, vl1] : List (List api_Spot))).bind fun vr1_1 =>
        some (vr1_1, 0)) := by
    unfold place_Hull
    simp only [hl2, decide_false, cond_false, hcontains_eq l (by omega), Option.bind_some, hany, hcl, r1, gd_true hrl, m1]
  have hR : fleetref2_HullOf l = cond (decide ((m.length : Int) < 3)) (some m) ((slices_ContainsFunc_api_Spot_api_Spot_f1_fleetref2_HullOf_1 m).bind fun vr2 =>
    cond (!vr2)
      ((at? m 0).bind fun vy =>
      (at? m (IntKind.wrap .i64 ((m.length : Int) - 1))).bind fun vy1 =>
      some ([vy, vy1] : List api_Spot))
      ((at? m 0).bind fun vy2 =>
      (loopO (fleetref2_HullOf_x1 m) ([vy2] : List api_Spot)).bind fun vx15_1 =>
      some vx15_1)) := by
    unfold fleetref2_HullOf
    simp only [hcl, Option.bind_some, r2, gd_true hrl, m1]
  rw [hP, hR]
  by_cases h2 : m.length < 2
  · have c2 : (m.length : Int) < 2 := by omega
    have c3 : (m.length : Int) < 3 := by omega
    simp only [c2, c3, decide_true, cond_true]
    exact ⟨m, rfl, rfl, by omega⟩
  have c2 : ¬ (m.length : Int) < 2 := by omega
  simp only [c2, decide_false, cond_false]
  obtain ⟨a, b', m', rfl⟩ : ∃ a b' m', m = a :: b' :: m' := by
    cases m with
    | nil => simp at h2
    | cons a m => cases m with
      | nil => simp at h2
      | cons b m => exact ⟨a, b, m, rfl⟩
  generalize hmm : b' :: m' = M at *
  have hMne : M ≠ [] := by rw [← hmm]; simp
  clear hmm
  -- the greatest
  let z := M.getLast hMne
  have hz : z ∈ M := List.getLast_mem hMne
  have hasc : asc 30000 (pt a :: M.map pt) := m4
  have haz : ph 30000 (pt a) < ph 30000 (pt z) := (List.pairwise_cons.1 hasc).1 _ (List.mem_map_of_mem hz)
  have hazne : pt a ≠ pt z := fun e => by rw [e] at haz; omega
  have hmax : ∀ x ∈ pt a :: M.map pt, ph 30000 x ≤ ph 30000 (pt z) := by
    intro x hx
    rcases List.mem_cons.1 hx with rfl | hx
    · omega
    · obtain ⟨y, hy, rfl⟩ := List.mem_map.1 hx
      have hp := (List.pairwise_cons.1 hasc).2
      rw [List.pairwise_map] at hp
      have hsplit : M = M.dropLast ++ [z] := (List.dropLast_concat_getLast hMne).symm
      rw [hsplit] at hy hp
      rcases List.mem_append.1 hy with hy | hy
      · have := (List.pairwise_append.1 hp).2.2 y hy z (by simp); omega
      · rw [List.mem_singleton.1 hy]; exact Int.le_refl _
  have hzm : pt z ∈ pt a :: M.map pt := List.mem_cons_of_mem _ (List.mem_map_of_mem hz)
  have hInA : InB a := m3 a (by simp)
  have hInZ : InB z := m3 z (List.mem_cons_of_mem _ hz)
  have hat0 : at? (a :: M) 0 = some a := rfl
  have hatl : at? (a :: M) (IntKind.wrap .i64 (((a :: M).length : Int) - 1)) = some z := by
    rw [wrap64 (by omega) (by omega), show (((a :: M).length : Int) - 1) = ((M.length : Nat) : Int) by simp, at_nat (by simp)]
    congr 1
    have hpos : 0 < M.length := List.length_pos_iff.2 hMne
    rw [List.getElem_cons, dif_neg (by omega)]
    exact (List.getLast_eq_getElem hMne).symm
  -- the code
  obtain ⟨L1, U1, e1, e2, e3⟩ := ends hasc hzm hmax hazne
  obtain ⟨v3, q1, s1, rfl, q2, q3, q4⟩ := half_eq m3 (by omega)
  have m3' : All InB (a :: M).reverse := fun x hx => m3 x (List.mem_reverse.1 hx)
  obtain ⟨v4, p1, s2, rfl, p2, p3, p4⟩ := half_eq m3' (by rw [List.length_reverse]; omega)
  rw [List.length_reverse] at p4
  have hlo : s1.map pt = loS (pt a :: M.map pt) := q2
  have hup : s2.map pt = upS (pt a :: M.map pt) := by rw [p2]; unfold upS; rw [← List.map_cons, List.map_reverse]
  have hs2r : s2.reverse.map pt = pt z :: (U1 ++ [pt a]) := by rw [List.map_reverse, hup, e2]
  have hs2l : s2.reverse.length = U1.length + 2 := by have := congrArg List.length hs2r; simpa using this
  have hs2l' : s2.length = U1.length + 2 := by rw [← hs2l, List.length_reverse]
  have hH : ((s1.reverse ++ (s2.reverse.drop 1).dropLast).map pt) = hullL (pt a :: M.map pt) := by
    unfold hullL
    rw [List.map_append, List.map_reverse, hlo, List.map_dropLast, List.map_drop, List.map_reverse, hup]
  have hsub : sub? s2.reverse 1 (IntKind.wrap .i64 ((s2.reverse.length : Int) - 1)) = some ((s2.reverse.drop 1).dropLast) := by
    rw [wrap64 (by omega) (by omega)]
    unfold sub?
    rw [if_pos (by omega)]
    congr 1
    rw [List.dropLast_eq_take, List.length_drop, List.drop_take]
    rw [show ((s2.reverse.length : Int) - 1).toNat = s2.reverse.length - 1 by omega]
    rfl
  have hcode : (place_half_o0 (a :: M)).bind (fun vr3 =>
        gd ((a :: M).length == (a :: M).length) <|
        (slices_Reverse_api_Spot_api_Spot_o0 (a :: M)).bind fun vl2 =>
        gd (vl2.length == (a :: M).length) <|
        (place_half_o0 vl2).bind fun vr4 =>
        gd (vl2.length == vl2.length) <|
        (sub? vr4 1 (IntKind.wrap .i64 ((vr4.length : Int) - 1))).bind fun vl1 =>
        (slices_Concat_api_Spot_api_Spot_o0 ([vr3, vl1] : List (List api_Spot))).bind fun vr1_1 =>
        some (vr1_1, (0 : Int))) = some (s1.reverse ++ (s2.reverse.drop 1).dropLast, 0) := by
    rw [q1]
    simp only [Option.bind_some, rev_eq (show (a :: M).length ≤ 100000 by omega)]
    rw [gd_true (by simp), gd_true (by simp), p1]
    simp only [Option.bind_some]
    rw [gd_true (by simp), hsub]
    simp only [Option.bind_some]
    rw [sconcat_eq (by rw [List.length_reverse]; omega) (by rw [List.length_dropLast, List.length_drop]; omega)]
    rfl
  rw [hcode]
  generalize hHd : s1.reverse ++ (s2.reverse.drop 1).dropLast = H at hH hcode
  have hHl : H.length ≤ 100 := by
    rw [← hHd, List.length_append, List.length_reverse, List.length_dropLast, List.length_drop]; omega
  have hHb : All InB H := by
    rw [← hHd]
    intro x hx
    rcases List.mem_append.1 hx with hx | hx
    · exact q3 x (List.mem_reverse.1 hx)
    · exact p3 x (List.mem_reverse.1 (List.mem_of_mem_drop ((List.dropLast_subset _) hx)))
  clear hHd hcode
  have hinj : ∀ l l' : List api_Spot, l.map pt = l'.map pt → l = l' := by
    intro l
    induction l with
    | nil => intro l' h; cases l' with
      | nil => rfl
      | cons => simp at h
    | cons x l ih => intro l' h; cases l' with
      | nil => simp at h
      | cons y l' =>
        simp only [List.map_cons, List.cons.injEq] at h
        rw [pt_inj h.1, ih l' h.2]
  have hcolH : (∀ x ∈ a :: M, sd a.X a.Y z.X z.Y x.X x.Y = 0) → H = [a, z] := by
    intro h
    apply hinj
    rw [hH, hull_col hasc hzm hmax hazne]
    · rfl
    · intro x hx
      rw [← List.map_cons] at hx
      obtain ⟨y, hy, rfl⟩ := List.mem_map.1 hx
      exact h y hy
  by_cases h3 : (a :: M).length < 3
  · have c3 : ((a :: M).length : Int) < 3 := by omega
    simp only [c3, decide_true, cond_true]
    have hM1 : M = [z] := by
      have : M.length = 1 := by have : 0 < M.length := List.length_pos_iff.2 hMne; simp at h3; omega
      obtain ⟨w, hw⟩ := List.length_eq_one_iff.1 this
      have : z = w := by simp only [z]; simp [hw]
      rw [hw, this]
    have hHe := hcolH (fun x hx => by
      rw [hM1] at hx
      rcases List.mem_cons.1 hx with rfl | hx
      · exact sdp_self (pt x) (pt z)
      · rw [List.mem_singleton.1 hx]; exact sdp_end (pt a) (pt z))
    refine ⟨H, rfl, ?_, hHl⟩
    rw [hHe]
    conv => lhs; rw [hM1]
  · have c3 : ¬ ((a :: M).length : Int) < 3 := by omega
    simp only [c3, decide_false, cond_false]
    rw [rcontains_eq m3 (by omega) hInA hInZ hat0 hatl]
    simp only [Option.bind_some]
    by_cases hc : ((a :: M).any fun s => !decide (sd a.X a.Y z.X z.Y s.X s.Y = 0)) = true
    · rw [hc]
      simp only [Bool.not_true, cond_false, hat0, Option.bind_some]
      obtain ⟨T, t1, t2, t3⟩ := hull_ring hasc hzm hmax hazne
      rw [t1] at hH
      obtain ⟨T', rfl, hT'⟩ : ∃ T', H = a :: T' ∧ T'.map pt = T := by
        cases H with
        | nil => simp at hH
        | cons x H =>
          simp only [List.map_cons, List.cons.injEq] at hH
          rw [pt_inj hH.1]
          exact ⟨H, rfl, hH.2⟩
      refine ⟨a :: T', rfl, ?_, hHl⟩
      rw [round_eq m3 (by omega) hHb (by simp at hHl; omega)]
      · rfl
      · intro x hx e
        exact t2 (pt x) (by rw [← hT']; exact List.mem_map_of_mem hx) (by rw [e])
      · intro e he
        have := t3 (pte e) (by rw [← hT', ← List.map_cons, ring_pt]; exact List.mem_map_of_mem he)
        exact this
    · rw [Bool.not_eq_true] at hc
      rw [hc]
      simp only [Bool.not_false, cond_true, hat0, hatl, Option.bind_some]
      refine ⟨H, rfl, ?_, hHl⟩
      rw [hcolH]
      intro x hx
      have := List.any_eq_false.1 hc x hx
      simpa using this
end Go.Eng

/-
The law FencesMeet.
-/
namespace Go.Eng
open Go Geo
open scoped Classical
set_option linter.unusedVariables false
set_option linter.unusedSimpArgs false

/-! ### Do two fences meet, as the document has it -/
theorem redge_at {l : List api_Spot} (hl : (l.length : Int) ≤ 1000000) {i : Nat} (h : i < l.length) : fleetref2_edge l (i : Int) = some ((ring l)[i]'(by rw [ring_len]; exact h)) := by
  obtain ⟨a1, a2, a3⟩ := edge_at hl h
  unfold fleetref2_edge
  simp only [a1, a2, gd_true a3, Option.bind_some]
theorem meet_inner {m : List api_Spot} (hl : m.length ≤ 200) (hb : ∀ s ∈ m, InB s) {a b : api_Spot} (ha : InB a) (hb' : InB b) :
    loopO (fleetref2_MeetOf_x2 m a b) 0 = some (cond ((ring m).any fun f => meB (a, b) f) (.inr ()) (.inl ())) := by
  have hlen := ring_len m
  rw [range_loop (l := ring m) (fun _ f => cond (meB (a, b) f) (some (.inr ())) none) (.inl ()) (by omega), scan_any]
  · intro i hi
    have hi' : i < m.length := by omega
    have hx := inb_ring hb (List.getElem_mem hi)
    unfold fleetref2_MeetOf_x2
    rw [redge_at (by omega) hi']
    generalize (ring m)[i] = x at hx
    obtain ⟨c, d⟩ := x
    have h : (i : Int) < m.length := by omega
    simp only [h, decide_true, cond_true, Option.bind_some, touches_eq ha hb' hx.1 hx.2]
    cases meB (a, b) (c, d) <;> rfl
  · rw [hlen]
    unfold fleetref2_MeetOf_x2
    simp
theorem meetof_eq {l m : List api_Spot} (hl : FRight l) (hm : FRight m) : fleetref2_MeetOf l m = some (touB l m) := by
  have hl' := hl
  have hm' := hm
  obtain ⟨l3, l200, lb, lS⟩ := hl'
  obtain ⟨m3, m200, mb, mS⟩ := hm'
  have hl0 := head_at l3
  have hm0 := head_at m3
  have hlen := ring_len l
  unfold fleetref2_MeetOf touB
  rw [range_loop (l := ring l) (fun _ e => cond ((ring m).any fun f => meB e f) (some (.inr ())) none) (.inl ()) (by omega), scan_any]
  · cases hc : (ring l).any fun e => (ring m).any fun f => meB e f with
    | true => simp
    | false =>
      simp only [cond_false, Option.bind_some]
      unfold fleetref2_MeetOf_x3
      simp only [hl0.1, hm0.1, Option.bind_some, whereof_eq hl (mb _ hm0.2), whereof_eq hm (lb _ hl0.2)]
      cases decide (wher l (m.headD ⟨0, 0⟩) = 0) <;> cases decide (wher m (l.headD ⟨0, 0⟩) = 0) <;> rfl
  · intro i hi
    have hi' : i < l.length := by omega
    have hx := inb_ring lb (List.getElem_mem hi)
    unfold fleetref2_MeetOf_x1
    rw [redge_at (by omega) hi']
    generalize (ring l)[i] = x at hx
    obtain ⟨c, d⟩ := x
    have h : (i : Int) < l.length := by omega
    simp only [h, decide_true, cond_true, Option.bind_some, meet_inner m200 mb hx.1 hx.2]
    cases (ring m).any fun f => meB (c, d) f <;> rfl
  · rw [hlen]
    unfold fleetref2_MeetOf_x1
    simp
theorem meet_code {f g : api_Fence} {a b : Int} (ha : place_CheckFence f = some a) (hb : place_CheckFence g = some b) (h1 : a = 0 → FRight f.Corners) (h2 : b = 0 → FRight g.Corners) :
    place_Meet f g = some (if or0 a b = 0 then touB f.Corners g.Corners else false, or0 a b) := by
  unfold place_Meet
  simp only [ha, hb, Option.bind_some, first2]
  by_cases h : or0 a b = 0
  · have h' : a = 0 ∧ b = 0 := by unfold or0 at h; split at h <;> omega
    rw [if_pos h, h]
    simp only [decide_true, Bool.not_true, cond_false, touch_eq (h1 h'.1) (h2 h'.2), Option.bind_some]
  · rw [if_neg h, decide_eq_false h]; rfl

/-! ### Fences of the stream -/
theorem Fence2_ok {k : Nat} {s : fleetmake_Stream} (h : StrOk k s) (hk : k + 2000 < 1099511627776) : Ok (fleetmake_Stream_Fence s) (fun r => StrOk (k + 120) r.1 ∧ r.2.Key.length ≤ 5 ∧ r.2.Corners.length ≤ 10) := by
  unfold fleetmake_Stream_Fence
  refine (RightFence_ok h (by omega)).bind fun ⟨s1, l⟩ ⟨h1, h2, h3⟩ => ?_
  have hl : 3 ≤ l.length := (right_of_zero h2).1
  have h1 : StrOk (k + 100) s1 := h1
  have h3 : l.length ≤ 8 := h3
  have hx : Ok (fleetmake_Stream_Fence_x1 s1 l) (fun r => StrOk (k + 120) r.1 ∧ r.2.1.length ≤ 5 ∧ r.2.2.length ≤ 10) := by
    unfold fleetmake_Stream_Fence_x1
    have a1 := h1.nxt (by omega)
    have a2 := a1.nxt (by omega)
    refine (Flip_ok h1 (by omega) (by unfold I64; omega)).bind fun b _ => .cond (fun _ => ?_) (fun _ => .some ⟨a1.mono (by omega), by simp, by simp only; omega⟩)
    refine (Next_ok a1 (by omega) (by unfold I64; omega)).bind fun n _ => .cond (fun _ => ?_) (fun _ => .cond (fun _ => ?_) (fun _ => .cond (fun _ => ?_) (fun _ => ?_)))
    · refine (Some_ok a2 (by omega) (by simp) (by simp)).bind fun t ht => .some ⟨(a2.nxt (by omega)).mono (by omega), ?_, by simp only; omega⟩
      simp only [List.mem_cons, List.not_mem_nil, or_false] at ht
      rcases ht with rfl | rfl <;> simp
    · refine (Next_ok a2 (by omega) (by unfold I64; omega)).bind fun m hm => ?_
      have hm := hm.1 (by omega)
      have hs : sub? l 0 m = some (l.take m.toNat) := by
        unfold sub?
        rw [if_pos (by omega)]
        simp
      rw [hs]
      exact .some ⟨(a2.nxt (by omega)).mono (by omega), by simp, by simp; omega⟩
    · unfold slices_Clone_api_Spot_api_Spot
      rw [gd_true (ble_lim (by simp; omega))]
      refine (Spot_ok a2 (by omega)).bind fun ⟨s3, p⟩ hp => .gd (ble_lim (by simp; omega)) (.some ⟨hp.mono (by omega), by simp, by simp; omega⟩)
    · have a4 := (a2.nxt (by omega)).nxt (by omega)
      have a6 := (a4.nxt (by omega)).nxt (by omega)
      have a8 := (a6.nxt (by omega)).nxt (by omega)
      have a10 := (a8.nxt (by omega)).nxt (by omega)
      exact (Place_ok a2 (by omega)).bind fun _ _ => (Place_ok a4 (by omega)).bind fun _ _ => (Place_ok a6 (by omega)).bind fun _ _ => (Place_ok a8 (by omega)).bind fun _ _ => .some ⟨a10.mono (by omega), by simp, by simp⟩
  exact hx.bind fun ⟨s2, key, cs⟩ hq => .some ⟨hq.1, hq.2.1, hq.2.2⟩

theorem shift_ok {x y : Int} {l0 : List api_Spot} (hl : l0.length ≤ 1000) : Ok (loopO (fleetlaw2_FencesMeet_x1 x y l0) (l0, 0)) (fun _ => True) := by
  refine loop_ok (fun q : List api_Spot × Int => q.1.length = l0.length ∧ ∃ k : Nat, q.2 = (k : Int) ∧ k ≤ l0.length) (fun q => ((l0.length : Int) - q.2).toNat) ?_ ⟨rfl, 0, rfl, by omega⟩
  rintro ⟨v, i⟩ ⟨h1, k, rfl, h2⟩
  simp only at h1
  unfold fleetlaw2_FencesMeet_x1
  by_cases hk : k < l0.length
  · have hk' : (k : Int) < l0.length := by omega
    have w1 : IntKind.wrap .i64 ((k : Int) + 1) = ((k + 1 : Nat) : Int) := by rw [wrap64 (by omega) (by omega)]; omega
    simp only [hk', decide_true, cond_true, at_nat (show k < v.length by omega), Option.bind_some, w1]
    rw [at_nat (by simp; omega)]
    exact .some ⟨⟨by simp [h1], k + 1, rfl, by omega⟩, by simp only; omega⟩
  · have hk' : ¬ (k : Int) < l0.length := by omega
    simp only [hk', decide_false, cond_false]
    exact .some trivial
theorem spots_made {k : Nat} {s : fleetmake_Stream} {n : Int} (h : StrOk k s) (hk : k + 1000 < 1099511627776) (hn : 0 ≤ n ∧ n ≤ 8) : Ok (loopO (fleetlaw2_FencesMeet_x2 n) (s, [], 0)) (fun l => l.length ≤ 8) := by
  refine loop_ok (fun q : fleetmake_Stream × List api_Spot × Int => ∃ j : Nat, q.2.2 = (j : Int) ∧ (j : Int) ≤ n ∧ q.2.1.length = j ∧ StrOk (k + 5 * j) q.1) (fun q => (n - q.2.2).toNat) ?_ ⟨0, rfl, hn.1, rfl, h⟩
  rintro ⟨s', v, i⟩ ⟨j, rfl, j1, j2, j3⟩
  simp only at j2 j3
  unfold fleetlaw2_FencesMeet_x2
  by_cases hj : (j : Int) < n
  · have w1 : IntKind.wrap .i64 ((j : Int) + 1) = ((j + 1 : Nat) : Int) := by rw [wrap64 (by omega) (by omega)]; omega
    simp only [hj, decide_true, cond_true, w1]
    refine (Spot_ok j3 (by omega)).bind fun ⟨s2, p⟩ hp => .gd (ble_lim (by simp; omega)) (.some ⟨⟨j + 1, rfl, by omega, by simp [j2], hp.mono (by omega)⟩, by simp only; omega⟩)
  · simp only [hj, decide_false, cond_false]
    exact .some (by omega)
noncomputable def spFs (l : List api_Spot) : Int := if All InB l then 0 else 1
theorem spots_fault {l : List api_Spot} (hl : l.length ≤ 1000) : loopO (fleetlaw2_FencesMeet_x3 l) (0, 0) = some (spFs l) := by
  have := gather_loop (l := l) (f := fleetlaw2_FencesMeet_x3 l) (fun (s : Int) i => (s, i)) (fun s p => or0 s (spF p)) id (fun i s => s = if All InB (l.take i) then 0 else 1) (s0 := 0) (by omega) (fun i hi s hs => by
    unfold fleetlaw2_FencesMeet_x3
    have h : (i : Int) < l.length := by omega
    simp only [h, decide_true, cond_true, at_nat hi, spotFault_r, errs2, Option.bind_some, true_and]
    rw [hs, take_succ' hi]
    by_cases h1 : All InB (l.take i)
    · rw [if_pos h1]
      by_cases h2 : InB l[i]
      · have h3 : All InB (l.take i ++ [l[i]]) := by
          intro x hx
          rcases List.mem_append.1 hx with hx | hx
          · exact h1 x hx
          · rw [List.mem_singleton.1 hx]; exact h2
        rw [if_pos h3]; unfold or0 spF; rw [if_pos h2]; rfl
      · have h3 : ¬ All InB (l.take i ++ [l[i]]) := fun hh => h2 (hh _ (List.mem_append.2 (.inr (List.mem_singleton.2 rfl))))
        rw [if_neg h3]; unfold or0 spF; rw [if_neg h2]; rfl
    · have h3 : ¬ All InB (l.take i ++ [l[i]]) := fun hh => h1 fun x hx => hh x (List.mem_append.2 (.inl hx))
      rw [if_neg h1, if_neg h3]; rfl) (fun s _ => by unfold fleetlaw2_FencesMeet_x3; simp) (by simp [All])
  rw [this.1, id]
  have h2 := this.2
  rw [List.take_length] at h2
  rw [h2]; rfl
theorem sequal_self {l : List api_Spot} (hl : (l.length : Int) ≤ 9223372036854775807) : slices_Equal_api_Spot_api_Spot l l = some true := by
  unfold slices_Equal_api_Spot_api_Spot
  simp only [decide_true, Bool.not_true, cond_false]
  rw [range_loop (l := l) (fun _ _ => none) (.inl ()) hl]
  · simp only [Option.bind_some]
    have : scan (fun (_ : Nat) (_ : api_Spot) => (none : Option (Unit ⊕ Unit))) 0 l = none := scan_none.2 fun _ _ _ => rfl
    rw [this]
    rfl
  · intro i hi
    unfold slices_Equal_api_Spot_api_Spot_x1
    have : ((i : Int) < l.length) := by omega
    simp only [this, decide_true, cond_true, at_nat hi, Option.bind_some, Bool.and_self, Bool.not_true, cond_false]
  · unfold slices_Equal_api_Spot_api_Spot_x1
    simp
/-- the hull of spots, right or not -/
theorem hull_all {l : List api_Spot} (hl : l.length ≤ 12) : ∃ h, place_Hull l = some (h, spFs l) ∧ fleetlaw2_FencesMeet_x4 l (spFs l) = some h ∧ h.length ≤ 100 := by
  unfold spFs fleetlaw2_FencesMeet_x4
  by_cases hb : All InB l
  · rw [if_pos hb]
    obtain ⟨h, h1, h2, h3⟩ := hull_both hl hb
    exact ⟨h, h1, by rw [h2]; rfl, h3⟩
  · rw [if_neg hb]
    refine ⟨[], ?_, rfl, by simp⟩
    unfold place_Hull
    have hl2 : ¬ (2000 : Int) < l.length := by omega
    have hany : (l.any fun s => !inB s) = true := by
      rw [← Bool.not_eq_false]
      intro h
      apply hb
      intro x hx
      have := List.any_eq_false.1 h x hx
      unfold inB at this
      simpa using this
    simp only [hl2, decide_false, cond_false, hcontains_eq l (by omega), Option.bind_some, hany, cond_true]
theorem FencesMeet_true (L : List Int) (hL : L.length ≤ 9223372036854775807) (hI : ∀ n ∈ L, -9223372036854775808 ≤ n ∧ n ≤ 9223372036854775807) : fleetlaw2_FencesMeet L = some true := by
  apply Ok.eq
  unfold fleetlaw2_FencesMeet
  have h0 : StrOk 0 (fleetmake_Stream.mk L 0) := ⟨Int.le_refl _, by simp, hL, hI⟩
  refine (Fence2_ok h0 (by omega)).bind fun ⟨s1, f⟩ ⟨f1, f2, f3⟩ => ?_
  refine (Fence2_ok f1 (by omega)).bind fun ⟨s2, g⟩ ⟨g1, g2, g3⟩ => ?_
  simp only at f2 f3 g2 g3
  refine (Pick_ok g1 (by omega) (by simp) (by simp)).bind fun x _ => ?_
  have g4 := g1.nxt (by omega)
  refine (Pick_ok g4 (by omega) (by simp) (by simp)).bind fun y _ => ?_
  have g5 := g4.nxt (by omega)
  have hcl : slices_Clone_api_Spot_api_Spot g.Corners = some g.Corners := by
    unfold slices_Clone_api_Spot_api_Spot
    rw [gd_true (ble_lim (by simp; omega))]
  rw [hcl]
  simp only [Option.bind_some]
  refine (shift_ok (by omega)).bind fun cs _ => ?_
  refine (Range_ok g5 (by omega) (by omega) (by omega)).bind fun ⟨s3, n⟩ ⟨r1, r2, r3, _⟩ => ?_
  simp only at r1 r2 r3
  refine (spots_made r1 (by omega) ⟨r2, r3 (by omega)⟩).bind fun p hp => ?_
  obtain ⟨cf, _, cf2, cf3, cf4⟩ := fence_both f (by omega)
  obtain ⟨cg, _, cg2, cg3, cg4⟩ := fence_both (api_Fence.mk g.Key cs) (by simp only; omega)
  generalize he : cond (keyB f.Key) cf 5 = e at cf3 cf4
  generalize hq : cond (keyB (api_Fence.mk g.Key cs).Key) cg 5 = q at cg3 cg4
  have hr : e = 0 → FRight f.Corners := by
    intro h
    cases hk : keyB f.Key with
    | true => rw [hk] at he; exact cf2 (he.trans h)
    | false => rw [hk] at he; simp only [cond_false] at he; omega
  have hr2 : q = 0 → FRight cs := by
    intro h
    cases hk : keyB (api_Fence.mk g.Key cs).Key with
    | true => rw [hk] at hq; exact cg2 (hq.trans h)
    | false => rw [hk] at hq; simp only [cond_false] at hq; omega
  obtain ⟨h, h1, h2, h3⟩ := hull_all (l := p) (by omega)
  simp only [meet_code cf3 cg3 hr hr2, h1, cf4, cg4, errs2, spots_fault (l := p) (by omega), h2, Option.bind_some]
  unfold fleetlaw2_FencesMeet_x5
  simp only [decide_true, cond_true, sequal_self (l := h) (by omega), placed_eq, Option.bind_some]
  by_cases hz : or0 e q = 0
  · have h' : e = 0 ∧ q = 0 := by unfold or0 at hz; split at hz <;> omega
    simp only [hz, decide_true, cond_true, if_true, meetof_eq (hr h'.1) (hr2 h'.2), Option.bind_some, beq_self_eq_true]
    exact .some rfl
  · simp only [hz, decide_false, cond_false, if_false, beq_self_eq_true, cond_true]
    exact .some rfl
end Go.Eng

