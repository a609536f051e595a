/-
Pairing two series: the nearest measurement, found by halving and by looking at all.
-/
import Derived.Test.YtjfpceigbgnjgaaPlainH
import Derived.Test.YtjfpceigbgnjgaaPlainI
import Derived.Test.YtjfpceigbgnjgaaPlainM
namespace Go.Eng
open Go
set_option linter.unusedVariables false
set_option linter.unusedSimpArgs false

def dist (t a : Int) : Int := imax (t - a) (a - t)
theorem dist_le {t a : Int} (h : a ≤ t) : dist t a = t - a := by unfold dist imax; split <;> omega
theorem dist_ge {t a : Int} (h : t ≤ a) : dist t a = a - t := by unfold dist imax; split <;> omega

/-- The first of those that are nearest, if it is near enough. -/
def Best (A : Nat → Int) (n : Nat) (t most k : Int) : Prop :=
  (k = -1 ∧ ∀ j, j < n → most < dist t (A j)) ∨
  ∃ m : Nat, k = m ∧ m < n ∧ dist t (A m) ≤ most ∧ (∀ j, j < m → dist t (A m) < dist t (A j)) ∧ ∀ j, m < j → j < n → dist t (A m) ≤ dist t (A j)
theorem Best.uniq {A : Nat → Int} {n : Nat} {t most k k' : Int} (h : Best A n t most k) (h' : Best A n t most k') : k = k' := by
  rcases h with ⟨h1, h2⟩ | ⟨m, h1, h2, h3, h4, h5⟩ <;> rcases h' with ⟨g1, g2⟩ | ⟨m', g1, g2, g3, g4, g5⟩
  · omega
  · have := h2 m' g2; omega
  · have := g2 m h2; omega
  · rcases Nat.lt_trichotomy m m' with h | h | h
    · have := g4 m h; have := h5 m' h g2; omega
    · omega
    · have := h4 m' h; have := g5 m h h2; omega

/-- Found by halving: the place of a moment among moments that rise. -/
theorem best_place {A : Nat → Int} {n i : Nat} {t most : Int} (hA : ∀ j k, j < k → k < n → A j < A k) (hi : i ≤ n) (h1 : ∀ j, j < i → A j < t) (h2 : ∀ j, i ≤ j → j < n → t ≤ A j) :
    (∀ a, i = a + 1 → dist t (A a) ≤ most → (i < n → dist t (A a) ≤ dist t (A i)) → Best A n t most a) ∧
    (∀ a, i = a + 1 → i < n → dist t (A i) < dist t (A a) → dist t (A i) ≤ most → Best A n t most i) ∧
    (i = 0 → i < n → dist t (A i) ≤ most → Best A n t most i) ∧
    ((∀ a, i = a + 1 → most < dist t (A a)) → (i < n → most < dist t (A i)) → Best A n t most (-1)) := by
  have lo : ∀ j, j < i → dist t (A j) = t - A j := fun j hj => dist_le (Int.le_of_lt (h1 j hj))
  have hg : ∀ j, i ≤ j → j < n → dist t (A j) = A j - t := fun j hj hn => dist_ge (h2 j hj hn)
  refine ⟨fun a ha hm hn => .inr ⟨a, rfl, by omega, hm, fun j hj => ?_, fun j hj hjn => ?_⟩, fun a ha hin hl hm => .inr ⟨i, rfl, hin, hm, fun j hj => ?_, fun j hj hjn => ?_⟩, fun h0 hin hm => .inr ⟨i, rfl, hin, hm, fun j hj => by omega, fun j hj hjn => ?_⟩, fun ha hb => .inl ⟨rfl, fun j hj => ?_⟩⟩
  · rw [lo a (by omega), lo j (by omega)]
    have := hA j a hj (by omega); omega
  · by_cases hji : j = i
    · subst hji; exact hn hjn
    · have := hn (by omega)
      rw [hg i (by omega) (by omega)] at this
      rw [hg j (by omega) hjn]
      have := hA i j (by omega) hjn; omega
  · rw [lo a (by omega)] at hl
    rw [lo j hj]
    by_cases hja : j = a
    · subst hja; exact hl
    · have := hA j a (by omega) (by omega); omega
  · rw [hg i (by omega) (by omega), hg j (by omega) hjn]
    have := hA i j hj hjn; omega
  · rw [hg i (by omega) (by omega), hg j (by omega) hjn]
    have := hA i j hj hjn; omega
  · by_cases hji : j < i
    · have := ha (i - 1) (by omega)
      rw [lo (i - 1) (by omega)] at this
      rw [lo j hji]
      by_cases h3 : j = i - 1
      · subst h3; exact this
      · have := hA j (i - 1) (by omega) (by omega); omega
    · have := hb (by omega)
      rw [hg i (by omega) (by omega)] at this
      rw [hg j (by omega) hj]
      by_cases h3 : j = i
      · subst h3; exact this
      · have := hA i j (by omega) hj; omega

def atN (l : List api_Sample) (j : Nat) : Int := (l[j]?.map (·.At)).getD 0
theorem atN_eq {l : List api_Sample} {j : Nat} (h : j < l.length) : atN l j = l[j].At := by unfold atN; rw [List.getElem?_eq_getElem h]; rfl

theorem cmp1_eq (x : api_Sample) (t : Int) : series_Pair_1 x t = some (cmpI x.At t) := by unfold series_Pair_1; rw [cmpInt_eq]; rfl
theorem half_eq {i j : Int} (h0 : 0 ≤ i) (h1 : i ≤ j) (h2 : j ≤ 1000000) : IntKind.wrap .i64 (ishr .u64 (IntKind.wrap .u64 (IntKind.wrap .i64 (i + j))) 1) = (i + j) / 2 := by
  rw [wrap64 (n := i + j) (by omega) (by omega)]
  have e : IntKind.wrap .u64 (i + j) = i + j := by
    unfold IntKind.wrap
    simp [IntKind.min, IntKind.max, IntKind.bits, IntKind.signed]
    omega
  rw [e]
  have e2 : ishr .u64 (i + j) 1 = (i + j) / 2 := by
    unfold ishr
    have : (2 : Int) ^ (min (1 : Int).toNat (IntKind.bits .u64)) = 2 := by decide
    rw [this]
    exact Int.fdiv_eq_ediv_of_nonneg _ (by omega)
  rw [e2, wrap64 (by omega) (by omega)]

theorem bs_loop {l : List api_Sample} (h : Right l) (t : Int) :
    Ok (loopO (slices_BinarySearchFunc_api_Sample_api_Sample_int_f2_series_Pair_1_x1 l t) (0, (l.length : Int))) (fun i => 0 ≤ i ∧ i ≤ l.length ∧ (∀ j : Nat, (j : Int) < i → j < l.length → atN l j < t) ∧ ∀ j : Nat, i ≤ j → j < l.length → t ≤ atN l j) := by
  have hlen := h.len
  refine loop_ok (fun s => 0 ≤ s.1 ∧ s.1 ≤ s.2 ∧ s.2 ≤ (l.length : Int) ∧ (∀ j : Nat, (j : Int) < s.1 → j < l.length → atN l j < t) ∧ ∀ j : Nat, s.2 ≤ (j : Int) → j < l.length → t ≤ atN l j) (fun s => (s.2 - s.1).toNat) ?_ ⟨by omega, by omega, by omega, fun j hj => by omega, fun j hj hj2 => by omega⟩
  rintro ⟨i, j⟩ ⟨h1, h2, h3, h4, h5⟩
  simp only at h1 h2 h3 h4 h5
  unfold slices_BinarySearchFunc_api_Sample_api_Sample_int_f2_series_Pair_1_x1
  simp only [half_eq h1 h2 (by omega)]
  refine .cond (fun hc => ?_) (fun hc => ?_)
  · have hc := of_decide_eq_true hc
    rw [at_lt (l := l) (n := (i + j) / 2) (by omega) (by omega)]
    simp only [Option.bind_some, cmp1_eq]
    have hm : ((i + j) / 2).toNat < l.length := by omega
    have hAt := atN_eq hm
    have mono : ∀ a b : Nat, a < b → b < l.length → atN l a < atN l b := fun a b hab hb => by
      rw [atN_eq (by omega), atN_eq hb]; exact h.mono a b hab hb
    refine .cond (fun hd => ?_) (fun hd => ?_)
    · have hd := of_decide_eq_true hd
      have hlt : atN l ((i + j) / 2).toNat < t := by
        rw [hAt]; unfold cmpI at hd; split at hd
        · assumption
        · split at hd <;> omega
      rw [wrap64 (by omega) (by omega)]
      refine .some ⟨⟨by omega, by omega, by omega, fun k hk hk2 => ?_, h5⟩, by simp only; omega⟩
      by_cases hkm : k = ((i + j) / 2).toNat
      · subst hkm; exact hlt
      · have := mono k _ (by omega) hm; omega
    · have hd := of_decide_eq_false hd
      have hlt : t ≤ atN l ((i + j) / 2).toNat := by
        rw [hAt]; unfold cmpI at hd; split at hd
        · omega
        · omega
      refine .some ⟨⟨by omega, by omega, by omega, h4, fun k hk hk2 => ?_⟩, by simp only; omega⟩
      by_cases hkm : k = ((i + j) / 2).toNat
      · subst hkm; exact hlt
      · have := mono _ k (show ((i + j) / 2).toNat < k by omega) hk2; omega
  · have hc := of_decide_eq_false hc
    have : i = j := by omega
    subst this
    exact .some ⟨h1, h3, h4, h5⟩

theorem bs_ok {l : List api_Sample} (h : Right l) (t : Int) :
    Ok (slices_BinarySearchFunc_api_Sample_api_Sample_int_f2_series_Pair_1 l t) (fun r => 0 ≤ r.1 ∧ r.1 ≤ l.length ∧ (∀ j : Nat, (j : Int) < r.1 → j < l.length → atN l j < t) ∧ ∀ j : Nat, r.1 ≤ j → j < l.length → t ≤ atN l j) := by
  unfold slices_BinarySearchFunc_api_Sample_api_Sample_int_f2_series_Pair_1
  refine (bs_loop h t).bind fun i hi => ?_
  refine Ok.bind (P := fun _ => True) ?_ fun b _ => .some hi
  unfold slices_BinarySearchFunc_api_Sample_api_Sample_int_f2_series_Pair_1_x2
  refine .cond (fun hc => ?_) (fun _ => .some trivial)
  have hc := of_decide_eq_true hc
  rw [at_lt (l := l) hi.1 hc]
  simp only [Option.bind_some, cmp1_eq]
  exact .some trivial

/-! ### Looking at two -/
theorem two_loop {l : List api_Sample} (hb : Right l) {x : api_Sample} (hx : 0 ≤ x.At ∧ x.At ≤ 345686399999) {most i : Int} (hm : 0 ≤ most ∧ most ≤ 345686400000) (h1 : 0 ≤ i) (h2 : i ≤ l.length) (h3 : ∀ j : Nat, (j : Int) < i → j < l.length → atN l j < x.At)
    (h4 : ∀ j : Nat, i ≤ j → j < l.length → x.At ≤ atN l j) : Ok (loopO (series_Pair_x3 l x i) (-1, IntKind.wrap .i64 (most + 1), 0)) (Best (atN l) l.length x.At most) := by
  have hlen := hb.len
  have bnd : ∀ j (h : j < l.length), 0 ≤ l[j].At ∧ l[j].At ≤ 345686399999 := fun j h => (hb.bnd j h).1
  have mono : ∀ a b : Nat, a < b → b < l.length → atN l a < atN l b := fun a b hab hb' => by
    rw [atN_eq (by omega), atN_eq hb']; exact hb.mono a b hab hb'
  obtain ⟨n, rfl⟩ : ∃ n : Nat, i = n := ⟨i.toNat, by omega⟩
  obtain ⟨b1, b2, b3, b4⟩ := best_place (most := most) (A := atN l) (n := l.length) (i := n) (t := x.At) mono (by omega) (fun j hj => h3 j (by omega) (by omega)) (fun j hj hjn => h4 j (by omega) hjn)
  have x5 : ∀ (far k : Int), series_Pair_x5 l x far k = some (if h : 0 ≤ k ∧ k < l.length then decide (dist x.At (atN l k.toNat) < far) else false) := by
    intro far k
    unfold series_Pair_x5
    by_cases k0 : 0 ≤ k
    · by_cases k1 : k < l.length
      · have hk : k.toNat < l.length := by omega
        have := bnd _ hk
        simp only [k0, k1, decide_true, cond_true, at_lt k0 k1, Option.bind_some, and_self, dif_pos, atN_eq hk]
        rw [wrap64 (by omega) (by omega), wrap64 (by omega) (by omega)]
        rfl
      · simp [k0, k1]
    · simp [k0]
  have x4 : ∀ (best far idx : Int) (hi : 0 ≤ idx ∧ idx < 2), series_Pair_x4 l x n best far idx = some (if h : 0 ≤ (if idx = 0 then (n : Int) - 1 else n) ∧ (if idx = 0 then (n : Int) - 1 else n) < l.length ∧ dist x.At (atN l (if idx = 0 then (n : Int) - 1 else n).toNat) < far
      then ((if idx = 0 then (n : Int) - 1 else n), dist x.At (atN l (if idx = 0 then (n : Int) - 1 else n).toNat)) else (best, far)) := by
    intro best far idx hi
    unfold series_Pair_x4
    have ha : at? ([IntKind.wrap .i64 ((n : Int) - 1), n] : List Int) idx = some (if idx = 0 then (n : Int) - 1 else n) := by
      rw [wrap64 (by omega) (by omega)]
      rcases (by omega : idx = 0 ∨ idx = 1) with rfl | rfl <;> rfl
    rw [ha]
    generalize (if idx = 0 then (n : Int) - 1 else (n : Int)) = k
    simp only [Option.bind_some, x5]
    by_cases hk : 0 ≤ k ∧ k < l.length
    · have hk' : k.toNat < l.length := by omega
      have := bnd _ hk'
      by_cases hd : dist x.At (atN l k.toNat) < far
      · simp only [hk, and_self, hd, dif_pos, decide_true, cond_true, at_lt hk.1 hk.2, Option.bind_some, atN_eq hk']
        rw [atN_eq hk'] at hd
        simp only [hd, dif_pos]
        rw [wrap64 (by omega) (by omega), wrap64 (by omega) (by omega)]
        rfl
      · simp [hk, hd]
    · have : ¬ (0 ≤ k ∧ k < l.length ∧ dist x.At (atN l k.toNat) < far) := fun h => hk ⟨h.1, h.2.1⟩
      simp [hk, this]
  have x3 : ∀ (best far idx : Int) (hi : 0 ≤ idx ∧ idx < 2), series_Pair_x3 l x n (best, far, idx) = (series_Pair_x4 l x n best far idx).bind fun (b, f) => some (.inl (b, f, idx + 1)) := by
    intro best far idx hi
    unfold series_Pair_x3
    have : idx < (([IntKind.wrap .i64 ((n : Int) - 1), n] : List Int).length : Int) := by simp; omega
    simp only [this, decide_true, cond_true, wrap64 (n := idx + 1) (by omega) (by omega)]
  have x3e : ∀ (best far : Int), series_Pair_x3 l x n (best, far, 2) = some (.inr best) := by
    intro best far
    unfold series_Pair_x3
    simp
  rw [wrap64 (by omega) (by omega)]
  have e1 : (n : Int).toNat = n := by omega
  have e2 : ((n : Int) - 1).toNat = n - 1 := by omega
  rw [loopO_eq, x3 _ _ _ (by omega), x4 _ _ _ (by omega)]
  simp only [if_true, Option.bind_some]
  by_cases hA : 0 ≤ (n : Int) - 1 ∧ (n : Int) - 1 < l.length ∧ dist x.At (atN l ((n : Int) - 1).toNat) < most + 1
  · simp only [hA, and_self, dif_pos, Option.bind_some, Int.zero_add]
    rw [loopO_eq, x3 _ _ _ (by omega), x4 _ _ _ (by omega)]
    simp only [show ¬ ((1 : Int) = 0) by omega, if_false, Option.bind_some]
    by_cases hB : 0 ≤ (n : Int) ∧ (n : Int) < l.length ∧ dist x.At (atN l (n : Int).toNat) < dist x.At (atN l ((n : Int) - 1).toNat)
    · simp only [hB, and_self, dif_pos, Option.bind_some]
      rw [show (1 : Int) + 1 = 2 from rfl, loopO_eq, x3e]
      refine .some ?_
      rw [e1, e2] at hB
      rw [e2] at hA
      exact b2 (n - 1) (by omega) (by omega) hB.2.2 (by omega)
    · simp only [hB, dif_neg, not_false_eq_true, Option.bind_some]
      rw [show (1 : Int) + 1 = 2 from rfl, loopO_eq, x3e]
      refine .some ?_
      rw [e1, e2] at hB
      rw [e2] at hA
      have := b1 (n - 1) (by omega) (by omega) (fun hn => by
        by_cases h : dist x.At (atN l n) < dist x.At (atN l (n - 1))
        · exact absurd ⟨by omega, by omega, h⟩ hB
        · omega)
      rw [show ((n : Int) - 1) = ((n - 1 : Nat) : Int) by omega]
      exact this
  · simp only [hA, dif_neg, not_false_eq_true, Option.bind_some, Int.zero_add]
    rw [e2] at hA
    have hA' : ∀ a, n = a + 1 → most < dist x.At (atN l a) := by
      intro a ha
      have : n - 1 = a := by omega
      rw [this] at hA
      by_cases h : dist x.At (atN l a) < most + 1
      · exact absurd ⟨by omega, by omega, h⟩ hA
      · omega
    rw [loopO_eq, x3 _ _ _ (by omega), x4 _ _ _ (by omega)]
    simp only [show ¬ ((1 : Int) = 0) by omega, if_false, Option.bind_some]
    by_cases hB : 0 ≤ (n : Int) ∧ (n : Int) < l.length ∧ dist x.At (atN l (n : Int).toNat) < most + 1
    · simp only [hB, and_self, dif_pos, Option.bind_some]
      rw [show (1 : Int) + 1 = 2 from rfl, loopO_eq, x3e]
      refine .some ?_
      rw [e1] at hB
      by_cases h0 : n = 0
      · exact b3 h0 (by omega) (by omega)
      · exact b2 (n - 1) (by omega) (by omega) (by have := hA' (n - 1) (by omega); omega) (by omega)
    · simp only [hB, dif_neg, not_false_eq_true, Option.bind_some]
      rw [show (1 : Int) + 1 = 2 from rfl, loopO_eq, x3e]
      refine .some ?_
      rw [e1] at hB
      refine b4 hA' fun hn => ?_
      by_cases h : dist x.At (atN l n) < most + 1
      · exact absurd ⟨by omega, by omega, h⟩ hB
      · omega

/-! ### Looking at all -/
theorem all_loop {l : List api_Sample} (hb : Right l) {x : api_Sample} (hx : 0 ≤ x.At ∧ x.At ≤ 345686399999) {most : Int} : Ok (loopO (fleetref2_PairsOf_x3 l most x) (-1, 0)) (Best (atN l) l.length x.At most) := by
  have hlen := hb.len
  have bnd : ∀ j (h : j < l.length), 0 ≤ l[j].At ∧ l[j].At ≤ 345686399999 := fun j h => (hb.bnd j h).1
  refine loop_ok (fun s => 0 ≤ s.2 ∧ s.2 ≤ (l.length : Int) ∧ Best (atN l) s.2.toNat x.At most s.1) (fun s => ((l.length : Int) - s.2).toNat) ?_ ⟨by omega, by omega, .inl ⟨rfl, fun j hj => by simp at hj⟩⟩
  rintro ⟨k, i⟩ ⟨h1, h2, h3⟩
  simp only at h1 h2 h3
  unfold fleetref2_PairsOf_x3
  refine .cond (fun hc => ?_) (fun hc => ?_)
  · have hc := of_decide_eq_true hc
    have hi : i.toNat < l.length := by omega
    have := bnd _ hi
    have x4 : fleetref2_PairsOf_x4 l most x k i = some (if dist x.At (atN l i.toNat) ≤ most ∧ (k < 0 ∨ dist x.At (atN l i.toNat) < dist x.At (atN l k.toNat)) then i else k) := by
      unfold fleetref2_PairsOf_x4 fleetref2_PairsOf_x5
      simp only [at_lt h1 hc, Option.bind_some]
      have ed : imax (IntKind.wrap .i64 (x.At - l[i.toNat].At)) (IntKind.wrap .i64 (l[i.toNat].At - x.At)) = dist x.At (atN l i.toNat) := by
        rw [wrap64 (by omega) (by omega), wrap64 (by omega) (by omega), atN_eq hi]; rfl
      rw [ed]
      by_cases d1 : dist x.At (atN l i.toNat) ≤ most
      · by_cases d2 : k < 0
        · simp [d1, d2]
        · have hk : k.toNat < l.length ∧ k < l.length := by
            rcases h3 with ⟨g, _⟩ | ⟨m, g1, g2, _⟩
            · omega
            · omega
          have := bnd _ hk.1
          have ek : imax (IntKind.wrap .i64 (x.At - l[k.toNat].At)) (IntKind.wrap .i64 (l[k.toNat].At - x.At)) = dist x.At (atN l k.toNat) := by
            rw [wrap64 (by omega) (by omega), wrap64 (by omega) (by omega), atN_eq hk.1]; rfl
          simp only [d1, d2, decide_true, decide_false, cond_true, cond_false, at_lt (show 0 ≤ k by omega) hk.2, Option.bind_some, ek, true_and, false_or]
          by_cases d3 : dist x.At (atN l i.toNat) < dist x.At (atN l k.toNat) <;> simp [d3]
      · simp [d1]
    rw [x4]
    simp only [Option.bind_some]
    rw [wrap64 (by omega) (by omega)]
    refine .some ⟨⟨by omega, by omega, ?_⟩, by simp only; omega⟩
    have et : (i + 1).toNat = i.toNat + 1 := by omega
    simp only [et]
    have ei : ((i.toNat : Nat) : Int) = i := by omega
    rcases h3 with ⟨g1, g2⟩ | ⟨m, g1, g2, g3, g4, g5⟩
    · have hk : k < 0 := by omega
      simp only [hk, true_or, and_true]
      by_cases d1 : dist x.At (atN l i.toNat) ≤ most
      · simp only [d1, if_true]
        refine .inr ⟨i.toNat, ei.symm, by omega, d1, fun j hj => ?_, fun j hj hj2 => by omega⟩
        have := g2 j hj; omega
      · simp only [d1, if_false]
        refine .inl ⟨g1, fun j hj => ?_⟩
        by_cases hji : j = i.toNat
        · subst hji; omega
        · exact g2 j (by omega)
    · have hk : ¬ k < 0 := by omega
      have ek : k.toNat = m := by omega
      simp only [hk, false_or, ek]
      by_cases d1 : dist x.At (atN l i.toNat) ≤ most ∧ dist x.At (atN l i.toNat) < dist x.At (atN l m)
      · simp only [d1, and_self, if_true]
        refine .inr ⟨i.toNat, ei.symm, by omega, d1.1, fun j hj => ?_, fun j hj hj2 => by omega⟩
        rcases Nat.lt_trichotomy j m with h | h | h
        · have := g4 j h; omega
        · subst h; exact d1.2
        · have := g5 j h hj; omega
      · simp only [d1, if_false]
        refine .inr ⟨m, g1, by omega, g3, g4, fun j hj hj2 => ?_⟩
        by_cases hji : j = i.toNat
        · subst hji
          by_cases d2 : dist x.At (atN l i.toNat) ≤ most
          · have : ¬ dist x.At (atN l i.toNat) < dist x.At (atN l m) := fun h => d1 ⟨d2, h⟩
            omega
          · omega
        · exact g5 j hj (by omega)
  · have hc := of_decide_eq_false hc
    have : i.toNat = l.length := by omega
    rw [this] at h3
    exact .some h3

theorem pair_round {a b : List api_Sample} (ha : Right a) (hb : Right b) {most : Int} (hm : 0 ≤ most ∧ most ≤ 345686400000) {i : Int} (h0 : 0 ≤ i) (h1 : i < a.length) {out : List api_Pairing} (ho : out.length ≤ 100000) :
    ∃ out', series_Pair_x2 a b most out i = some out' ∧ fleetref2_PairsOf_x2 a b most out i = some out' ∧ out'.length ≤ out.length + 1 := by
  have hlen := hb.len
  have hx := (ha.bnd i.toNat (by omega)).1
  unfold series_Pair_x2 fleetref2_PairsOf_x2
  rw [at_lt h0 h1]
  simp only [Option.bind_some]
  obtain ⟨⟨j, f⟩, e1, p1, p2, p3, p4⟩ := bs_ok hb (a[i.toNat]'(by omega)).At
  rw [e1]
  simp only at p1 p2 p3 p4
  simp only [Option.bind_some]
  obtain ⟨k, e2, q2⟩ := two_loop hb hx hm p1 p2 p3 p4
  obtain ⟨k', e3, q3⟩ := all_loop hb hx (most := most)
  have := q2.uniq q3
  subst this
  rw [e2, e3]
  simp only [Option.bind_some]
  by_cases hk : 0 ≤ k
  · have hk2 : k < b.length := by
      rcases q2 with ⟨g, _⟩ | ⟨m, g1, g2, _⟩ <;> omega
    simp only [hk, decide_true, cond_true, at_lt hk hk2, Option.bind_some]
    rw [gd_true (ble_lim (by simp; omega))]
    exact ⟨_, rfl, rfl, by simp⟩
  · simp only [hk, decide_false, cond_false]
    exact ⟨_, rfl, rfl, by omega⟩

theorem pair_both {a b : List api_Sample} (ha : Right a) (hb : Right b) {most : Int} (hm : 0 ≤ most ∧ most ≤ 345686400000) :
    ∃ out, loopO (series_Pair_x1 a b most) ([], 0) = some out ∧ loopO (fleetref2_PairsOf_x1 a b most) ([], 0) = some out ∧ out.length ≤ 100000 := by
  have hlen := ha.len
  have step : ∀ s t : List api_Pairing × Int, (s = t ∧ 0 ≤ s.2 ∧ s.2 ≤ (a.length : Int) ∧ (s.1.length : Int) ≤ s.2) →
      (∃ s' t', series_Pair_x1 a b most s = some (.inl s') ∧ fleetref2_PairsOf_x1 a b most t = some (.inl t') ∧ (s' = t' ∧ 0 ≤ s'.2 ∧ s'.2 ≤ (a.length : Int) ∧ (s'.1.length : Int) ≤ s'.2) ∧ ((a.length : Int) - s'.2).toNat < ((a.length : Int) - s.2).toNat) ∨
      (∃ r r', series_Pair_x1 a b most s = some (.inr r) ∧ fleetref2_PairsOf_x1 a b most t = some (.inr r') ∧ (r = r' ∧ r.length ≤ 100000)) := by
    rintro ⟨out, i⟩ t ⟨rfl, h1, h2, h3⟩
    simp only at h1 h2 h3
    unfold series_Pair_x1 fleetref2_PairsOf_x1
    by_cases hi : i < a.length
    · obtain ⟨out', g1, g2, g3⟩ := pair_round ha hb hm h1 hi (out := out) (by omega)
      left
      refine ⟨(out', i + 1), (out', i + 1), ?_, ?_, ⟨rfl, by simp only; omega, by simp only; omega, by simp only; omega⟩, by simp only; omega⟩
      · simp only [hi, decide_true, cond_true, g1, Option.bind_some, wrap64 (n := i + 1) (by omega) (by omega)]
      · simp only [hi, decide_true, cond_true, g2, Option.bind_some, wrap64 (n := i + 1) (by omega) (by omega)]
    · right
      refine ⟨out, out, ?_, ?_, rfl, by omega⟩ <;> simp only [hi, decide_false, cond_false]
  obtain ⟨r, r', e1, e2, e3, e4⟩ := loop_sim _ (fun s : List api_Pairing × Int => ((a.length : Int) - s.2).toNat) _ step (s := ([], 0)) (t := ([], 0)) ⟨rfl, by omega, by simp, by simp⟩
  subst e3
  exact ⟨r, e1, e2, e4⟩
end Go.Eng
