/-
Fill and FillOf answer the same for a right series.
-/
import Derived.Test.YtjfpceigbgnjgaaPlainF
namespace Go.Eng
open Go
set_option linter.unusedVariables false
set_option linter.unusedSimpArgs false

theorem scan_some {α ρ : Type} {g : Nat → α → Option ρ} : ∀ {l : List α} {k : Nat} {r : ρ}, scan g k l = some r → ∃ i x, l[i]? = some x ∧ g (k + i) x = some r
  | [], _, _, h => by cases h
  | y :: l, k, r, h => by
    simp only [scan] at h
    cases hg : g k y with
    | some r' => rw [hg] at h; cases h; exact ⟨0, y, rfl, by rw [Nat.add_zero]; exact hg⟩
    | none =>
      rw [hg] at h
      obtain ⟨i, x, h1, h2⟩ := scan_some h
      exact ⟨i + 1, x, by simpa using h1, by rw [← h2]; congr 1; omega⟩

theorem smpB_none {x : api_Sample} (h : smpB x = none) : (0 ≤ x.At ∧ x.At ≤ 345686399999) ∧ (-1000000000 ≤ x.Value ∧ x.Value ≤ 1000000000) := by
  unfold smpB at h
  split at h
  · cases h
  · split at h
    · cases h
    · rename_i h2
      simp at h2
      omega
theorem chkG_ne {l : List api_Sample} {i : Nat} {x : api_Sample} : chkG l i x ≠ some 0 := by
  unfold chkG smpB
  split
  · rename_i e he
    split at he
    · cases he; simp
    · split at he
      · cases he; simp
      · cases he
  · split
    · simp
    · split
      · split <;> simp
      · simp

theorem check_zero {l : List api_Sample} (h : checkV l = 0) : l.length ≤ 5000 ∧ ∀ (i : Nat) (x : api_Sample), l[i]? = some x → chkG l i x = none := by
  unfold checkV at h
  split at h
  · cases h
  · rename_i h5
    refine ⟨by omega, ?_⟩
    cases hs : scan (chkG l) 0 l with
    | some r =>
      rw [hs] at h
      have h' : r = 0 := h
      subst h'
      obtain ⟨i, x, _, h2⟩ := scan_some hs
      exact absurd h2 chkG_ne
    | none =>
      have := scan_none.1 hs
      simpa using this

/-- A right series: its moments rise. -/
structure Right (l : List api_Sample) : Prop where
  len : l.length ≤ 5000
  bnd : ∀ (i : Nat) (h : i < l.length), (0 ≤ l[i].At ∧ l[i].At ≤ 345686399999) ∧ (-1000000000 ≤ l[i].Value ∧ l[i].Value ≤ 1000000000)
  next : ∀ (i : Nat) (h : i + 1 < l.length), l[i].At < l[i + 1].At

theorem right_of {l : List api_Sample} (h : seriesV l = 0) : Right l := by
  have hc : checkV l = 0 := by
    unfold seriesV at h
    split at h
    · exact h
    · rename_i h1; simpa using h1
  have hd : anyDiff l = false := by
    unfold seriesV at h
    rw [if_neg (by simp [hc])] at h
    cases ha : anyDiff l with
    | false => rfl
    | true => rw [ha] at h; cases h
  obtain ⟨h1, h2⟩ := check_zero hc
  have hs : ∀ (i : Nat) (h : i < l.length), smpB l[i] = none := fun i hi => by
    have := h2 i _ (List.getElem?_eq_getElem hi)
    unfold chkG at this
    split at this
    · cases this
    · assumption
  have same : ∀ x ∈ l, ∀ y ∈ l, x.Device = y.Device ∧ x.Metric = y.Metric := by
    cases l with
    | nil => intro x hx; cases hx
    | cons y l =>
      unfold anyDiff at hd
      rw [List.any_eq_false] at hd
      have h0 : ∀ x ∈ y :: l, x.Device = y.Device ∧ x.Metric = y.Metric := fun x hx => by
        have := hd x hx
        simpa [diffB] using this
      intro x hx z hz
      exact ⟨(h0 x hx).1.trans (h0 z hz).1.symm, (h0 x hx).2.trans (h0 z hz).2.symm⟩
  refine ⟨h1, fun i hi => smpB_none (hs i hi), fun i hi => ?_⟩
  have h3 := h2 (i + 1) _ (List.getElem?_eq_getElem hi)
  unfold chkG at h3
  rw [hs (i + 1) hi] at h3
  simp only at h3
  rw [List.getElem?_eq_getElem (by omega : i < l.length)] at h3
  simp only at h3
  split at h3
  · cases h3
  · rename_i h4
    obtain ⟨g1, g2⟩ := same l[i + 1] (List.getElem_mem hi) l[i] (List.getElem_mem (by omega))
    unfold sOrd or0 at h4
    rw [g1, g2, cmpB_self, cmpB_self] at h4
    simp only [if_true] at h4
    unfold cmpI at h4
    split at h4
    · omega
    · split at h4 <;> omega

theorem Right.mono {l : List api_Sample} (h : Right l) : ∀ (i j : Nat) (hij : i < j) (hj : j < l.length), l[i].At < l[j].At := by
  intro i j hij
  induction j with
  | zero => omega
  | succ j ih =>
    intro hj
    have h1 := h.next j hj
    by_cases he : i = j
    · subst he; exact h1
    · have := ih (by omega) (by omega)
      omega

/-! ### The place of a moment -/
/-- k is the last place whose moment is not behind 'at'; -1: none. -/
def Place (l : List api_Sample) (t k : Int) : Prop := -1 ≤ k ∧ k < l.length ∧ (∀ (j : Nat) (h : j < l.length), (j : Int) ≤ k → l[j].At ≤ t) ∧ ∀ (j : Nat) (h : j < l.length), k < (j : Int) → t < l[j].At

theorem fill_inner {l : List api_Sample} (h : Right l) {t k : Int} (h1 : -1 ≤ k) (h2 : k < l.length) (h3 : ∀ (j : Nat) (h : j < l.length), (j : Int) ≤ k → l[j].At ≤ t) : Ok (loopO (series_Fill_x4 l t) k) (Place l t) := by
  have hlen := h.len
  refine loop_ok (fun k : Int => -1 ≤ k ∧ k < (l.length : Int) ∧ ∀ (j : Nat) (h : j < l.length), (j : Int) ≤ k → l[j].At ≤ t) (fun k : Int => ((l.length : Int) - k).toNat) ?_ ⟨h1, h2, h3⟩
  rintro k ⟨h1, h2, h3⟩
  unfold series_Fill_x4 series_Fill_x5
  rw [wrap64 (by omega) (by omega)]
  by_cases hk : k + 1 < l.length
  · obtain ⟨n, hn⟩ : ∃ n : Nat, k + 1 = (n : Int) := ⟨(k + 1).toNat, by omega⟩
    have hnl : n < l.length := by omega
    rw [hn, at_nat hnl]
    have hk' : ((n : Int) < l.length) := by omega
    simp only [hk', decide_true, cond_true, Option.bind_some]
    by_cases ha : l[n].At ≤ t
    · simp only [ha, decide_true, cond_true]
      refine .some ⟨⟨by omega, by omega, fun j hj hjk => ?_⟩, by omega⟩
      by_cases hjn : j = n
      · subst hjn; exact ha
      · exact h3 j hj (by omega)
    · simp only [ha, decide_false, cond_false]
      refine .some ⟨h1, h2, h3, fun j hj hjk => ?_⟩
      by_cases hjn : j = n
      · subst hjn; omega
      · have := h.mono n j (by omega) hj
        omega
  · have hk' : ¬ (k + 1 < (l.length : Int)) := hk
    simp only [hk', decide_false, cond_false, Option.bind_some]
    exact .some ⟨h1, h2, h3, fun j hj hjk => by omega⟩

/-- The first place whose moment is not ahead of 'at'. -/
def afterOf (l : List api_Sample) (t k : Int) : Int := if h : 0 ≤ k ∧ k < l.length then (if (l[k.toNat]'(by omega)).At = t then k else if k + 1 < l.length then k + 1 else -1) else if k + 1 < l.length then k + 1 else -1

theorem fillof_inner {l : List api_Sample} (h : Right l) {t k : Int} (hp : Place l t k) : loopO (fleetref2_FillOf_x3 l t) (-1, -1, 0) = some (k, afterOf l t k) := by
  have hlen := h.len
  obtain ⟨p1, p2, p3, p4⟩ := hp
  refine Ok.eq (loop_ok (fun s : Int × Int × Int => 0 ≤ s.2.2 ∧ s.2.2 ≤ (l.length : Int) ∧ s.1 = min (s.2.2 - 1) k ∧ s.2.1 = (if s.2.2 ≤ k then -1 else if s.2.2 = k + 1 then (if h : 0 ≤ k ∧ k < l.length then (if (l[k.toNat]'(by omega)).At = t then k else -1) else -1) else afterOf l t k)) (fun s : Int × Int × Int => ((l.length : Int) - s.2.2).toNat) ?_ ?_)
  · rintro ⟨b, a, i⟩ ⟨h1, h2, h3, h4⟩
    simp only at h1 h2 h3 h4
    unfold fleetref2_FillOf_x3
    by_cases hi : i < l.length
    · obtain ⟨n, rfl⟩ : ∃ n : Nat, i = (n : Int) := ⟨i.toNat, by omega⟩
      have hnl : n < l.length := by omega
      unfold fleetref2_FillOf_x4 fleetref2_FillOf_x5 fleetref2_FillOf_x6
      simp only [hi, decide_true, cond_true, at_nat hnl, Option.bind_some]
      rw [wrap64 (by omega) (by omega)]
      by_cases hnk : (n : Int) ≤ k
      · have ha := p3 n hnl hnk
        rw [if_pos hnk] at h4
        subst h4
        simp only [ha, decide_true, cond_true, Option.bind_some]
        by_cases hnk2 : (n : Int) = k
        · have hkk : 0 ≤ k ∧ k < l.length := by omega
          have hget : (l[k.toNat]'(by omega)) = l[n] := by congr 1; omega
          by_cases he : t ≤ l[n].At
          · have he' : l[n].At = t := by omega
            simp only [he, decide_true, cond_true, Option.bind_some, show ((-1 : Int) < 0) by omega]
            refine .some ⟨⟨by simp only; omega, by simp only; omega, ?_, ?_⟩, by simp only; omega⟩
            · show (n : Int) = min ((n : Int) + 1 - 1) k; omega
            · show (n : Int) = if (n : Int) + 1 ≤ k then -1 else if (n : Int) + 1 = k + 1 then _ else _
              rw [if_neg (by omega), if_pos (by omega), dif_pos hkk, hget, if_pos he']; omega
          · simp only [he, decide_false, cond_false, Option.bind_some]
            refine .some ⟨⟨by simp only; omega, by simp only; omega, ?_, ?_⟩, by simp only; omega⟩
            · show (n : Int) = min ((n : Int) + 1 - 1) k; omega
            · show (-1 : Int) = if (n : Int) + 1 ≤ k then -1 else if (n : Int) + 1 = k + 1 then _ else _
              rw [if_neg (by omega), if_pos (by omega), dif_pos hkk, hget, if_neg (by omega)]
        · have hlt : l[n].At < t := by
            obtain ⟨m, hm⟩ : ∃ m : Nat, k = (m : Int) := ⟨k.toNat, by omega⟩
            have hml : m < l.length := by omega
            have g1 := h.mono n m (by omega) hml
            have g2 := p3 m hml (by omega)
            omega
          have he : ¬ t ≤ l[n].At := by omega
          simp only [he, decide_false, cond_false, Option.bind_some]
          refine .some ⟨⟨by simp only; omega, by simp only; omega, ?_, ?_⟩, by simp only; omega⟩
          · show (n : Int) = min ((n : Int) + 1 - 1) k; omega
          · show (-1 : Int) = if (n : Int) + 1 ≤ k then -1 else _
            rw [if_pos (by omega)]
      · have ha := p4 n hnl (by omega)
        have ha1 : ¬ l[n].At ≤ t := by omega
        have ha2 : t ≤ l[n].At := by omega
        rw [if_neg hnk] at h4
        simp only [ha1, decide_false, cond_false, Option.bind_some, ha2, decide_true, cond_true]
        have hb : b = k := by omega
        by_cases hn1 : (n : Int) = k + 1
        · rw [if_pos hn1] at h4
          have hafter : afterOf l t k = if h : 0 ≤ k ∧ k < l.length then (if (l[k.toNat]'(by omega)).At = t then k else k + 1) else k + 1 := by
            unfold afterOf
            split
            · split
              · rfl
              · rw [if_pos (by omega)]
            · rw [if_pos (by omega)]
          by_cases hneg : a < 0
          · simp only [hneg, decide_true, cond_true]
            refine .some ⟨⟨by simp only; omega, by simp only; omega, ?_, ?_⟩, by simp only; omega⟩
            · show b = min ((n : Int) + 1 - 1) k; omega
            · show (n : Int) = if (n : Int) + 1 ≤ k then -1 else if (n : Int) + 1 = k + 1 then _ else afterOf l t k
              rw [if_neg (by omega), if_neg (by omega), hafter]
              split at h4
              · split at h4
                · omega
                · rename_i g1 g2; rw [dif_pos g1, if_neg g2]; exact hn1
              · rename_i g1; rw [dif_neg g1]; exact hn1
          · simp only [hneg, decide_false, cond_false]
            refine .some ⟨⟨by simp only; omega, by simp only; omega, ?_, ?_⟩, by simp only; omega⟩
            · show b = min ((n : Int) + 1 - 1) k; omega
            · show a = if (n : Int) + 1 ≤ k then -1 else if (n : Int) + 1 = k + 1 then _ else afterOf l t k
              rw [if_neg (by omega), if_neg (by omega), hafter]
              split at h4
              · split at h4
                · rename_i g1 g2; rw [dif_pos g1, if_pos g2]; exact h4
                · omega
              · omega
        · rw [if_neg hn1] at h4
          have hpos : ¬ a < 0 := by
            rw [h4]; unfold afterOf
            split
            · split
              · omega
              · rw [if_pos (by omega)]; omega
            · rw [if_pos (by omega)]; omega
          simp only [hpos, decide_false, cond_false]
          refine .some ⟨⟨by simp only; omega, by simp only; omega, ?_, ?_⟩, by simp only; omega⟩
          · show b = min ((n : Int) + 1 - 1) k; omega
          · show a = if (n : Int) + 1 ≤ k then -1 else if (n : Int) + 1 = k + 1 then _ else afterOf l t k
            rw [if_neg (by omega), if_neg (by omega)]; exact h4
    · simp only [hi, decide_false, cond_false]
      refine .some ?_
      show (b, a) = (k, afterOf l t k)
      have hb : b = k := by omega
      rw [if_neg (by omega)] at h4
      have : a = afterOf l t k := by
        by_cases he : i = k + 1
        · rw [if_pos he] at h4
          rw [h4]
          unfold afterOf
          split
          · split
            · rfl
            · rw [if_neg (by omega)]
          · rw [if_neg (by omega)]
        · rw [if_neg he] at h4; exact h4
      rw [hb, this]
  · refine ⟨by simp, by simp, ?_, ?_⟩
    · show (-1 : Int) = min (0 - 1) k; omega
    · show (-1 : Int) = if (0 : Int) ≤ k then -1 else if (0 : Int) = k + 1 then _ else _
      by_cases hk : 0 ≤ k
      · rw [if_pos hk]
      · rw [if_neg hk, if_pos (by omega), dif_neg (by omega)]
end Go.Eng
