/-
What the plain functions of the law ChangesLead answer, part 1.
-/
import Derived.Test.YtaelfnlccccinaaGreatDoorGenF
import Derived.KernelRfl
import Derived.Test.YtaelfnlccccinaaGreatDoorEngV
/-
Plain functions: what they answer, in total. Loops by an invariant and a measure.
-/
namespace Go.Eng
open Go
set_option linter.unusedVariables false
set_option linter.unusedSimpArgs false

def Ok {α : Type} (x : Option α) (P : α → Prop) : Prop := ∃ r, x = some r ∧ P r
section
variable {α β σ ρ : Type} {P Q : α → Prop} {R : β → Prop}
theorem Ok.some {r : α} (h : P r) : Ok (some r) P := ⟨r, rfl, h⟩
theorem Ok.mono {x : Option α} (h : Ok x P) (hq : ∀ r, P r → Q r) : Ok x Q := let ⟨r, h1, h2⟩ := h; ⟨r, h1, hq r h2⟩
theorem Ok.bind {x : Option α} {f : α → Option β} (h : Ok x P) (hf : ∀ r, P r → Ok (f r) R) : Ok (x.bind f) R := by
  obtain ⟨r, rfl, hr⟩ := h
  exact hf r hr
theorem Ok.cond {b : Bool} {x y : Option α} (ht : b = true → Ok x P) (hf : b = false → Ok y P) : Ok (cond b x y) P := by
  cases b
  · exact hf rfl
  · exact ht rfl
theorem Ok.gd {b : Bool} {x : Option α} (hb : b = true) (h : Ok x P) : Ok (gd b x) P := by
  subst hb; exact h
theorem Ok.eq {x : Option α} {r : α} (h : Ok x fun y => y = r) : x = Option.some r := by
  obtain ⟨y, h1, h2⟩ := h
  rw [h1, h2]
theorem Ok.of_eq {x : Option α} {r : α} (h : x = Option.some r) (hp : P r) : Ok x P := ⟨r, h, hp⟩

theorem loop_ok {f : σ → Option (σ ⊕ ρ)} {Q : ρ → Prop} (I : σ → Prop) (μ : σ → Nat)
    (step : ∀ s, I s → Ok (f s) fun x => match x with | .inl s' => I s' ∧ μ s' < μ s | .inr r => Q r) {s : σ} (h : I s) : Ok (loopO f s) Q := by
  generalize hn : μ s = n
  induction n using Nat.strongRecOn generalizing s with
  | _ n ih =>
    obtain ⟨x, h1, h2⟩ := step s h
    cases x with
    | inl s' =>
      obtain ⟨h3, h4⟩ := h2
      obtain ⟨r, h5, h6⟩ := ih (μ s') (by omega) h3 rfl
      refine ⟨r, ?_, h6⟩
      rw [loopO_eq, h1]
      exact h5
    | inr r =>
      refine ⟨r, ?_, h2⟩
      rw [loopO_eq, h1]
      rfl

theorem at_lt {l : List α} {n : Int} (h : 0 ≤ n) (h2 : n < l.length) : at? l n = Option.some (l[n.toNat]'(by omega)) := by
  unfold at?
  rw [if_pos h, List.getElem?_eq_getElem]
theorem at_nat {l : List α} {n : Nat} (h : n < l.length) : at? l (n : Int) = Option.some l[n] := by
  rw [at_lt (by omega) (by omega)]
  simp
theorem at_ok {l : List α} {n : Int} (h : 0 ≤ n) (h2 : n < l.length) : Ok (at? l n) (fun y => l[n.toNat]? = Option.some y) := by
  refine ⟨_, at_lt h h2, ?_⟩
  rw [List.getElem?_eq_getElem]
theorem at_mem {l : List α} {n : Int} (h : 0 ≤ n) (h2 : n < l.length) : Ok (at? l n) (fun y => y ∈ l) := by
  refine (at_ok h h2).mono fun y hy => List.mem_of_getElem? hy
end

/-! ### Integers of 64 bits -/
def I64 (n : Int) : Prop := -9223372036854775808 ≤ n ∧ n ≤ 9223372036854775807
theorem wrap64 {n : Int} (h : -9223372036854775808 ≤ n) (h2 : n ≤ 9223372036854775807) : IntKind.wrap .i64 n = n := by
  unfold IntKind.wrap
  simp [IntKind.min, IntKind.max, IntKind.bits, IntKind.signed]
  omega
theorem tmod_nonneg {a b : Int} (h : 0 ≤ a) : 0 ≤ a.tmod b := Int.tmod_nonneg b h
theorem tmod_lt' {a b : Int} (h : 0 < b) : a.tmod b < b := Int.tmod_lt_of_pos a h
theorem lim_eq : LIM = 137438953472 := by decide
theorem ble_lim {n : Nat} (h : n ≤ 137438953472) : Nat.ble n LIM = true := by rw [Nat.ble_eq, lim_eq]; exact h
end Go.Eng

/-
Loops over the elements of a list; keys.
-/
namespace Go.Eng
open Go
set_option linter.unusedVariables false
set_option linter.unusedSimpArgs false

/-- The first answer of the elements from number k on. -/
def scan {α ρ : Type} (g : Nat → α → Option ρ) : Nat → List α → Option ρ
  | _, [] => none
  | k, x :: xs => match g k x with
    | some r => some r
    | none => scan g (k + 1) xs

theorem drop_get {α : Type} {l : List α} {i : Nat} (h : i < l.length) : l.drop i = l[i] :: l.drop (i + 1) := List.drop_eq_getElem_cons h

/-- A loop over a list that ends at the first element with an answer. -/
theorem range_loop {α ρ : Type} {l : List α} {f : Int → Option (Int ⊕ ρ)} (g : Nat → α → Option ρ) (done : ρ) (hl : (l.length : Int) ≤ 9223372036854775807)
    (hf : ∀ (i : Nat) (h : i < l.length), f i = some (match g i l[i] with | none => .inl (IntKind.wrap .i64 (i + 1)) | some r => .inr r)) (hd : f l.length = some (.inr done)) :
    loopO f 0 = some ((scan g 0 l).getD done) := by
  have key : ∀ (n i : Nat), l.length - i = n → i ≤ l.length → loopO f i = some ((scan g i (l.drop i)).getD done) := by
    intro n
    induction n with
    | zero =>
      intro i h1 h2
      have : i = l.length := by omega
      subst this
      rw [loopO_eq, hd, List.drop_length]
      rfl
    | succ n ih =>
      intro i h1 h2
      have hi : i < l.length := by omega
      rw [loopO_eq, hf i hi, drop_get hi]
      simp only [scan]
      cases hg : g i l[i] with
      | some r => rfl
      | none =>
        simp only [Option.bind_some]
        rw [wrap64 (by omega) (by omega)]
        exact ih (i + 1) (by omega) (by omega)
  exact key l.length 0 (by omega) (by omega)

theorem scan_none {α ρ : Type} {g : Nat → α → Option ρ} : ∀ {l : List α} {k : Nat}, scan g k l = none ↔ ∀ (i : Nat) (x : α), l[i]? = some x → g (k + i) x = none
  | [], k => by simp [scan]
  | y :: l, k => by
    simp only [scan]
    cases hg : g k y with
    | some r =>
      simp only [reduceCtorEq, false_iff]
      intro h
      have := h 0 y rfl
      rw [Nat.add_zero, hg] at this
      cases this
    | none =>
      simp only
      rw [scan_none]
      constructor
      · intro h i x hi
        cases i with
        | zero => simp at hi; subst hi; exact hg
        | succ i => rw [show k + (i + 1) = k + 1 + i by omega]; exact h i x (by simpa using hi)
      · intro h i x hi
        rw [show k + 1 + i = k + (i + 1) by omega]
        exact h (i + 1) x (by simpa using hi)
/-! ### Keys -/
end Go.Eng

/-
Small checks; the order of measurements.
-/
namespace Go.Eng
open Go
set_option linter.unusedVariables false
set_option linter.unusedSimpArgs false

/-! ### Orders -/
theorem cmpB_self : ∀ a : List UInt8, Lib.compareBytes a a = 0
  | [] => rfl
  | x :: a => by
    unfold Lib.compareBytes
    simp [UInt8.lt_irrefl, cmpB_self a]
theorem cmpB_anti : ∀ a b : List UInt8, Lib.compareBytes b a = -Lib.compareBytes a b
  | [], [] => rfl
  | [], _ :: _ => rfl
  | _ :: _, [] => rfl
  | x :: a, y :: b => by
    unfold Lib.compareBytes
    by_cases h1 : x < y
    · have h2 : ¬ y < x := UInt8.lt_asymm h1
      simp [h1, h2]
    · by_cases h2 : y < x
      · simp [h1, h2]
      · simp [h1, h2, cmpB_anti a b]
theorem cmpB_zero : ∀ {a b : List UInt8}, Lib.compareBytes a b = 0 ↔ a = b
  | [], [] => by simp [Lib.compareBytes]
  | [], _ :: _ => by simp [Lib.compareBytes]
  | _ :: _, [] => by simp [Lib.compareBytes]
  | x :: a, y :: b => by
    unfold Lib.compareBytes
    by_cases h1 : x < y
    · have : x ≠ y := fun h => UInt8.lt_irrefl y (h ▸ h1)
      simp [h1, this]
    · by_cases h2 : y < x
      · have : x ≠ y := fun h => UInt8.lt_irrefl x (by rw [h] at h2 ⊢; exact h2)
        simp [h1, h2, this]
      · have : x = y := UInt8.le_antisymm (UInt8.not_lt.1 h2) (UInt8.not_lt.1 h1)
        simp [h1, h2, cmpB_zero (a := a) (b := b), this]
theorem cmpB_less : ∀ a b : List UInt8, Op.bytesLess a b = decide (Lib.compareBytes a b < 0)
  | [], [] => rfl
  | [], _ :: _ => rfl
  | _ :: _, [] => rfl
  | x :: a, y :: b => by
    unfold Lib.compareBytes
    rw [Op.bytesLess]
    by_cases h1 : x < y
    · simp [h1]
    · by_cases h2 : y < x
      · have h3 : ¬ x = y := fun h => UInt8.lt_irrefl x (by rw [h] at h2 ⊢; exact h2)
        simp [h1, h2, h3]
      · have h3 : x = y := UInt8.le_antisymm (UInt8.not_lt.1 h2) (UInt8.not_lt.1 h1)
        simp [h1, h2, h3, cmpB_less a b]
end Go.Eng

/-
Checks of measurements and series, both ways.
-/
namespace Go.Eng
open Go
set_option linter.unusedVariables false
set_option linter.unusedSimpArgs false

/-! ### Check -/
end Go.Eng

/-
Sorting of few elements, and what is left of equal ones, for all kinds of elements.
-/
namespace Go.Eng
open Go
set_option linter.unusedVariables false
set_option linter.unusedSimpArgs false

theorem loop_out {σ ρ : Type} {f : σ → Option (σ ⊕ ρ)} {s : σ} {r : ρ} (h : f s = some (.inr r)) : loopO f s = some r := by rw [loopO_eq, h]; rfl

section
variable {α : Type}
/-! ### Insertion, as the code has it -/
noncomputable def gI3 (cmp : α → α → Option Int) (qa : Int) (vl3 : List α) (vj1 : Int) : Option (Bool) :=
  cond (decide (qa < vj1))
    ((at? vl3 vj1).bind fun vy15 =>
    (at? vl3 (IntKind.wrap .i64 (vj1 - 1))).bind fun vy16 =>
    (cmp vy15 vy16).bind fun vr1_3 =>
    some (decide (vr1_3 < 0)))
    (some false)
noncomputable def gI2 (cmp : α → α → Option Int) (qa : Int) : (List α) × Int → Option (((List α) × Int) ⊕ ((List α)))
  | (vl3, vj1) =>
  (gI3 cmp qa vl3 vj1).bind fun vx4_1 =>
  cond (vx4_1)
    ((at? vl3 (IntKind.wrap .i64 (vj1 - 1))).bind fun vy17 =>
    (at? vl3 vj1).bind fun vy18 =>
    (at? (vl3.set vj1.toNat vy17) (IntKind.wrap .i64 (vj1 - 1))).bind fun vy19 =>
    some (.inl ((vl3.set vj1.toNat vy17).set (IntKind.wrap .i64 (vj1 - 1)).toNat vy18, IntKind.wrap .i64 (vj1 - 1))))
    (some (.inr vl3))
noncomputable def gI1 (cmp : α → α → Option Int) (qa : Int) (qb : Int) : (List α) × Int → Option (((List α) × Int) ⊕ ((List α)))
  | (vl, vi) =>
  cond (decide (vi < qb))
    ((loopO (gI2 cmp qa) (vl, vi)).bind fun vl4_1 =>
    some (.inl (vl4_1, IntKind.wrap .i64 (vi + 1))))
    (some (.inr vl))
noncomputable def gI (cmp : α → α → Option Int) (qdata : List α) (qa : Int) (qb : Int) : Option ((List α)) :=
  (loopO (gI1 cmp qa qb) (qdata, IntKind.wrap .i64 (qa + 1))).bind fun vl5_1 =>
  some vl5_1
def All (p : α → Prop) (l : List α) : Prop := ∀ x ∈ l, p x
theorem All.nil {p : α → Prop} : All p [] := fun _ h => nomatch h
theorem All.set {p : α → Prop} {l : List α} (h : All p l) {i : Nat} {x : α} (hx : p x) : All p (l.set i x) := by
  intro y hy
  rcases List.mem_or_eq_of_mem_set hy with hy | rfl
  · exact h y hy
  · exact hx
theorem All.at {p : α → Prop} {l : List α} (h : All p l) {i : Nat} (hi : i < l.length) : p l[i] := h _ (List.getElem_mem hi)

/-! ### Equal ones, as the code has it -/
noncomputable def gC3 (t : α → α → Option Bool) (qx : List α) (vx : Int) (vl4 : List α) (vx6 : Int) (vx7 : Int) : Option (((List α) × Int)) :=
  gd (decide (0 ≤ vx) && decide (0 ≤ vx7) && decide (vx7 < (qx.length : Int) - vx)) <|
  (at? vl4 (vx + vx7)).bind fun vy13 =>
  gd (decide (0 ≤ vx) && decide (0 ≤ (IntKind.wrap .i64 (vx7 - 1))) && decide ((IntKind.wrap .i64 (vx7 - 1)) < (qx.length : Int) - vx)) <|
  (at? vl4 (vx + (IntKind.wrap .i64 (vx7 - 1)))).bind fun vy14 =>
  (t vy13 vy14).bind fun vr5 =>
  cond (!vr5)
    ((at? vl4 vx6).bind fun vy15 =>
    some (vl4.set vx6.toNat vy13, IntKind.wrap .i64 (vx6 + 1)))
    (some (vl4, vx6))
noncomputable def gC2 (t : α → α → Option Bool) (qx : List α) (vx : Int) : (List α) × Int × Int → Option (((List α) × Int × Int) ⊕ (((List α) × Int)))
  | (vl4, vx6, vx7) =>
  cond (decide (vx7 < (((qx.length : Int).toNat - vx.toNat : Nat) : Int)))
    ((gC3 t qx vx vl4 vx6 vx7).bind fun (vl6_1, vx9_1) =>
    some (.inl (vl6_1, vx9_1, IntKind.wrap .i64 (vx7 + 1))))
    (some (.inr (vl4, vx6)))
noncomputable def gC1 (t : α → α → Option Bool) (z : α) (qx : List α) (vx : Int) : Option ((Int) ⊕ (Unit ⊕ (List α))) :=
  cond (decide (vx < (qx.length : Int)))
    ((at? qx vx).bind fun vy8 =>
    (at? qx (IntKind.wrap .i64 (vx - 1))).bind fun vy9 =>
    (t vy8 vy9).bind fun vr3 =>
    cond (vr3)
      (gd (decide (0 ≤ vx) && decide (vx ≤ (qx.length : Int)) && decide ((qx.length : Int) ≤ (qx.length : Int))) <|
      (loopO (gC2 t qx vx) (qx, vx, 1)).bind fun (vl7_1, vx10_1) =>
      gd (decide (0 ≤ vx10_1) && decide (vx10_1 ≤ (vl7_1.length : Int)) && decide ((vl7_1.length : Int) ≤ (vl7_1.length : Int))) <|
      gd (decide (0 ≤ vx10_1) && decide (vx10_1 ≤ ((vl7_1.take vx10_1.toNat ++ (List.replicate ((vl7_1.length : Int).toNat - vx10_1.toNat) z ++ vl7_1.drop (vx10_1.toNat + ((vl7_1.length : Int).toNat - vx10_1.toNat)))).length : Int))) <|
      some (.inr (.inr ((vl7_1.take vx10_1.toNat ++ (List.replicate ((vl7_1.length : Int).toNat - vx10_1.toNat) z ++ vl7_1.drop (vx10_1.toNat + ((vl7_1.length : Int).toNat - vx10_1.toNat)))).take vx10_1.toNat))))
      (some (.inl (IntKind.wrap .i64 (vx + 1)))))
    (some (.inr (.inl ())))
noncomputable def gCom (t : α → α → Option Bool) (z : α) (qx : List α) : Option ((List α)) :=
  cond (decide ((qx.length : Int) < 2))
    (some qx)
    ((loopO (gC1 t z qx) 1).bind fun x => match x with
      | .inl _ =>
        some qx
      | .inr vx11_1 =>
        some vx11_1)

theorem take_part {l m : List α} {k : Nat} (h : k ≤ l.length) : (l.take k ++ m).take k = l.take k := by
  rw [List.take_append_of_le_length (by simp; omega), List.take_take]
  congr 1
  omega
end
end Go.Eng

/-
Insertion sorts; what is left of equal ones rises.
-/
namespace Go.Eng
open Go
set_option linter.unusedVariables false
set_option linter.unusedSimpArgs false
section
variable {α : Type}
/-- the first n are in order -/
def Ord (f : α → α → Int) (l : List α) (n : Nat) : Prop := ∀ p q (hp : p < q) (hq : q < n) (hn : n ≤ l.length), f (l[p]'(by omega)) (l[q]'(by omega)) ≤ 0

theorem gI2_ord {P : α → Prop} {f : α → α → Int} {c : α → α → Option Int} (hc : ∀ x y, P x → P y → c x y = some (f x y)) (anti : ∀ x y, f y x = - f x y) (tr : ∀ x y z, f x y ≤ 0 → f y z ≤ 0 → f x z ≤ 0)
    {n : Nat} (hn : n ≤ 100000) {l : List α} (hl : l.length = n) (hP : All P l) {i : Nat} (hi : i < n) (ho : Ord f l i) :
    Ok (loopO (gI2 c 0) (l, (i : Int))) (fun r => r.length = n ∧ All P r ∧ Ord f r (i + 1)) := by
  refine loop_ok (fun s : List α × Int => s.1.length = n ∧ All P s.1 ∧ ∃ j : Nat, s.2 = (j : Int) ∧ j ≤ i ∧ ∀ p q (hp : p < q) (hq : q ≤ i) (hqj : q ≠ j) (hs : i < s.1.length), f (s.1[p]'(by omega)) (s.1[q]'(by omega)) ≤ 0) (fun s => s.2.toNat) ?_
    ⟨hl, hP, i, rfl, Nat.le_refl _, fun p q hp hq hqj hs => ho p q hp (by omega) (by simp only at hs; omega)⟩
  rintro ⟨m, q⟩ ⟨m1, m2, j, rfl, j1, j2⟩
  simp only at m1 m2 j2
  unfold gI2 gI3
  by_cases hj : (0 : Int) < j
  · have w1 : IntKind.wrap .i64 ((j : Int) - 1) = ((j - 1 : Nat) : Int) := by rw [wrap64 (by omega) (by omega)]; omega
    have hjm : j < m.length := by omega
    have hjm1 : j - 1 < m.length := by omega
    have hy := m2 _ (List.getElem_mem hjm)
    have hx := m2 _ (List.getElem_mem hjm1)
    simp only [hj, decide_true, cond_true, w1, at_nat hjm, at_nat hjm1, Option.bind_some, hc _ _ hy hx]
    refine .cond (fun hlt => ?_) (fun hge => ?_)
    · have hlt := of_decide_eq_true hlt
      have g3 : at? (m.set (j : Int).toNat m[j - 1]) ((j - 1 : Nat) : Int) = some m[j - 1] := by
        rw [at_nat (by simp; omega)]
        simp only [Int.toNat_natCast, List.getElem_set]
        rw [if_neg (by omega)]
      rw [g3]
      simp only [Option.bind_some, Int.toNat_natCast]
      refine .some ⟨⟨by simp [m1], (m2.set hx).set hy, j - 1, rfl, by omega, ?_⟩, by simp only; omega⟩
      intro p q hp hq hqj hs
      simp only [List.getElem_set]
      have hin : i < m.length := by omega
      by_cases q1 : q = j
      · subst q1
        by_cases p1 : p = q - 1
        · subst p1
          have e1 : ¬ (q - 1 = q) := by omega
          simp only [e1, if_true, if_false]
          omega
        · have e1 : ¬ (q - 1 = p) := by omega
          have e2 : ¬ (q = p) := by omega
          have e3 : ¬ (q - 1 = q) := by omega
          simp only [e1, e2, e3, if_true, if_false]
          exact j2 p (q - 1) (by omega) (by omega) (by omega) hin
      · have e4 : ¬ (j = q) := by omega
        have e5 : ¬ (j - 1 = q) := by omega
        simp only [e4, e5, if_false]
        by_cases p1 : p = j - 1
        · subst p1
          simp only [if_true]
          exact j2 j q (by omega) hq q1 hin
        · by_cases p2 : p = j
          · subst p2
            have e6 : ¬ (p - 1 = p) := by omega
            simp only [e6, if_true, if_false]
            exact j2 (p - 1) q (by omega) hq q1 hin
          · have e7 : ¬ (j - 1 = p) := by omega
            have e8 : ¬ (j = p) := by omega
            simp only [e7, e8, if_false]
            exact j2 p q hp hq q1 hin
    · have hge := of_decide_eq_false hge
      refine .some ⟨m1, m2, fun p q hp hq hs => ?_⟩
      have hin : i < m.length := by omega
      by_cases q1 : q = j
      · subst q1
        have h0 : f m[q - 1] m[q] ≤ 0 := by have := anti m[q] m[q - 1]; omega
        by_cases p1 : p = q - 1
        · subst p1; exact h0
        · exact tr _ _ _ (j2 p (q - 1) (by omega) (by omega) (by omega) hin) h0
      · exact j2 p q hp (by omega) q1 hin
  · have hj' : ¬ (0 : Int) < j := hj
    have j0 : j = 0 := by omega
    subst j0
    simp only [hj', decide_false, cond_false, Option.bind_some]
    exact .some ⟨m1, m2, fun p q hp hq hs => j2 p q hp (by omega) (by omega) (by omega)⟩
theorem gI_ord {P : α → Prop} {f : α → α → Int} {c : α → α → Option Int} (hc : ∀ x y, P x → P y → c x y = some (f x y)) (anti : ∀ x y, f y x = - f x y) (tr : ∀ x y z, f x y ≤ 0 → f y z ≤ 0 → f x z ≤ 0)
    {l : List α} (hl : l.length ≤ 100000) (hP : All P l) : Ok (gI c l 0 l.length) (fun r => r.length = l.length ∧ All P r ∧ Ord f r l.length) := by
  unfold gI
  have w : IntKind.wrap .i64 ((0 : Int) + 1) = 1 := by decide
  rw [w]
  refine Ok.bind (P := fun r : List α => r.length = l.length ∧ All P r ∧ Ord f r l.length) (loop_ok (fun s : List α × Int => s.1.length = l.length ∧ All P s.1 ∧ ∃ i : Nat, s.2 = (i : Int) ∧ 1 ≤ i ∧ Ord f s.1 (min i l.length)) (fun s => ((l.length : Int) - s.2).toNat) ?_
    ⟨rfl, hP, 1, rfl, by omega, fun p q hp hq hn => by omega⟩) fun r hr => .some hr
  rintro ⟨m, q⟩ ⟨m1, m2, i, rfl, i1, i2⟩
  simp only at m1 m2 i2
  unfold gI1
  by_cases hi : i < l.length
  · have hi' : (i : Int) < l.length := by omega
    have w1 : IntKind.wrap .i64 ((i : Int) + 1) = ((i + 1 : Nat) : Int) := by rw [wrap64 (by omega) (by omega)]; omega
    simp only [hi', decide_true, cond_true]
    rw [Nat.min_eq_left (by omega)] at i2
    refine (gI2_ord hc anti tr (n := l.length) hl m1 m2 hi i2).bind fun r hr => ?_
    rw [w1]
    refine .some ⟨⟨hr.1, hr.2.1, i + 1, rfl, by omega, ?_⟩, by simp only; omega⟩
    rw [Nat.min_eq_left (by omega)]
    exact hr.2.2
  · have hi' : ¬ (i : Int) < l.length := by omega
    simp only [hi', decide_false, cond_false]
    rw [Nat.min_eq_right (by omega)] at i2
    exact .some ⟨m1, m2, i2⟩
end
end Go.Eng

/-
Loops that only gather.
-/
namespace Go.Eng
open Go
set_option linter.unusedVariables false
set_option linter.unusedSimpArgs false

/-- A loop over all elements of a list that only gathers. -/
theorem fold_loop0 {τ σ ρ α : Type} {l : List α} {f : τ → Option (τ ⊕ ρ)} (e : σ → Int → τ) (h : σ → α → σ) (fin : σ → ρ) (I : Nat → σ → Prop) {s0 : σ} (hl : (l.length : Int) ≤ 9223372036854775807)
    (hf : ∀ (i : Nat) (hi : i < l.length) (s : σ), I i s → f (e s i) = some (.inl (e (h s l[i]) (IntKind.wrap .i64 (i + 1)))) ∧ I (i + 1) (h s l[i])) (hd : ∀ s, I l.length s → f (e s l.length) = some (.inr (fin s))) (h0 : I 0 s0) :
    loopO f (e s0 0) = some (fin (l.foldl h s0)) ∧ I l.length (l.foldl h s0) := by
  have key : ∀ (n i : Nat) (s : σ), l.length - i = n → i ≤ l.length → I i s → loopO f (e s i) = some (fin ((l.drop i).foldl h s)) ∧ I l.length ((l.drop i).foldl h s) := by
    intro n
    induction n with
    | zero =>
      intro i s h1 h2 h3
      have : i = l.length := by omega
      subst this
      rw [List.drop_length]
      refine ⟨?_, h3⟩
      rw [loopO_eq, hd s h3]
      rfl
    | succ n ih =>
      intro i s h1 h2 h3
      have hi : i < l.length := by omega
      obtain ⟨g1, g2⟩ := hf i hi s h3
      obtain ⟨f1, f2⟩ := ih (i + 1) (h s l[i]) (by omega) (by omega) g2
      rw [List.drop_eq_getElem_cons hi, List.foldl_cons]
      refine ⟨?_, f2⟩
      rw [loopO_eq, g1]
      simp only [Option.bind_some]
      rw [wrap64 (by omega) (by omega)]
      exact f1
  have := key l.length 0 s0 (by omega) (by omega) h0
  simpa using this
theorem scan_find0 {α : Type} {p : α → Bool} : ∀ {l : List α} {k : Nat}, ∃ r : Int, (match (scan (fun i x => cond (p x) (some (Sum.inr (i : Int) : Unit ⊕ Int)) none) k l).getD (.inl ()) with | .inl _ => (-1 : Int) | .inr v => v) = r ∧ decide (0 ≤ r) = l.any p
  | [], k => ⟨-1, rfl, rfl⟩
  | x :: l, k => by
    simp only [scan, List.any_cons]
    cases p x with
    | true => exact ⟨k, rfl, by simp⟩
    | false => simp only [cond_false, Bool.false_or]; exact scan_find0 (l := l) (k := k + 1)
/-- A search for the first element that meets a test: is there one? -/
theorem find_loop {α : Type} {l : List α} {f : Int → Option (Int ⊕ (Unit ⊕ Int))} (p : α → Bool) (hl : (l.length : Int) ≤ 9223372036854775807)
    (hf : ∀ (i : Nat) (h : i < l.length), f i = some (cond (p l[i]) (.inr (.inr (i : Int))) (.inl (IntKind.wrap .i64 ((i : Int) + 1))))) (hd : f l.length = some (.inr (.inl ()))) :
    ∃ x, loopO f 0 = some x ∧ decide (0 ≤ (match x with | .inl _ => (-1 : Int) | .inr v => v)) = l.any p := by
  refine ⟨_, range_loop (l := l) (fun i x => cond (p x) (some (.inr (i : Int))) none) (.inl ()) hl (fun i h => ?_) hd, ?_⟩
  · rw [hf i h]
    cases p l[i] <;> rfl
  · obtain ⟨r, h1, h2⟩ := scan_find0 (p := p) (l := l) (k := 0)
    rw [h1]; exact h2
end Go.Eng

/-
What the laws ask of each package once.
-/
namespace Go.Eng
open Go
theorem ready_eq : fleetkeep2_ready = some true := by kernel_rfl
end Go.Eng

/-
Twins: the order of names and of stamps; sorted cells as tables; merging.
-/
namespace Go.Eng
open Go
set_option linter.unusedVariables false
set_option linter.unusedSimpArgs false

/-! ### Orders -/
theorem cmpB_tr : ∀ {a b c : List UInt8}, Lib.compareBytes a b ≤ 0 → Lib.compareBytes b c ≤ 0 → Lib.compareBytes a c ≤ 0
  | [], [], c, _, h => h
  | [], _ :: _, [], _, _ => by simp [Lib.compareBytes]
  | [], _ :: _, _ :: _, _, _ => by simp [Lib.compareBytes]
  | _ :: _, [], _, h, _ => by simp [Lib.compareBytes] at h
  | _ :: _, _ :: _, [], _, h => by simp [Lib.compareBytes] at h
  | x :: a, y :: b, z :: c, h1, h2 => by
    unfold Lib.compareBytes at *
    by_cases xy : x < y
    · by_cases yz : y < z
      · simp [UInt8.lt_trans xy yz]
      · by_cases zy : z < y
        · simp [yz, zy] at h2
        · have e : y = z := UInt8.le_antisymm (UInt8.not_lt.1 zy) (UInt8.not_lt.1 yz)
          subst e; simp [xy]
    · by_cases yx : y < x
      · simp [xy, yx] at h1
      · have e : x = y := UInt8.le_antisymm (UInt8.not_lt.1 yx) (UInt8.not_lt.1 xy)
        subst e
        simp only [xy, if_false] at h1
        by_cases xz : x < z
        · simp [xz]
        · by_cases zx : z < x
          · simp [xz, zx] at h2
          · simp only [xz, zx, if_false] at h2 ⊢
            exact cmpB_tr h1 h2
/-- one name is ahead of another one -/
def nlt (a b : List UInt8) : Prop := Lib.compareBytes a b < 0
theorem nlt_irrefl (a : List UInt8) : ¬ nlt a a := by unfold nlt; rw [cmpB_self]; omega
theorem nlt_trans {a b c : List UInt8} (h1 : nlt a b) (h2 : nlt b c) : nlt a c := by
  unfold nlt at *
  have h := cmpB_tr (a := a) (b := b) (c := c) (by omega) (by omega)
  by_cases h0 : Lib.compareBytes a c = 0
  · have := cmpB_zero.1 h0
    subst this
    have := cmpB_anti a b
    omega
  · omega
theorem nlt_asymm {a b : List UInt8} (h : nlt a b) : ¬ nlt b a := fun h2 => nlt_irrefl a (nlt_trans h h2)
theorem nlt_ne {a b : List UInt8} (h : nlt a b) : a ≠ b := fun e => nlt_irrefl b (e ▸ h)
theorem cmpB_cases (a b : List UInt8) : nlt a b ∨ a = b ∨ nlt b a := by
  unfold nlt
  have := cmpB_anti a b
  by_cases h0 : Lib.compareBytes a b = 0
  · exact .inr (.inl (cmpB_zero.1 h0))
  · omega
/-! ### Sorted cells -/
/-! ### Merging -/
theorem veq_iff {a b : api_Value} : (decide (a.Kind = b.Kind) && ((a.Flag == b.Flag) && (decide (a.Number = b.Number) && (decide (a.Words = b.Words) && true)))) = true ↔ a = b := by
  obtain ⟨a1, a2, a3, a4⟩ := a
  obtain ⟨b1, b2, b3, b4⟩ := b
  simp
end Go.Eng

/-
Twins: the code's merging and checks are those of tables.
-/
namespace Go.Eng
open Go
set_option linter.unusedVariables false
set_option linter.unusedSimpArgs false

theorem lim_ok {n : Nat} (h : n ≤ 100000) : Nat.ble n LIM = true := ble_lim (by omega)

/-! ### Checks -/
theorem First_zero : base_First [0, 0] = some 0 := by kernel_rfl
end Go.Eng

/-
Twins: merging in any order; what is visible.
-/
namespace Go.Eng
open Go
set_option linter.unusedVariables false
set_option linter.unusedSimpArgs false

/-! ### Merging in any order -/
end Go.Eng

/-
Twins: what is visible; checks of properties; searching.
-/
namespace Go.Eng
open Go
set_option linter.unusedVariables false
set_option linter.unusedSimpArgs false

/-! ### Names below names -/
/-- the first name is below the second one -/
def belB (n a : List UInt8) : Bool := (a ++ [46]).isPrefixOf n
theorem bel_iff {n a : List UInt8} : belB n a = true ↔ ∃ r, n = a ++ 46 :: r := by
  unfold belB
  rw [List.isPrefixOf_iff_prefix]
  constructor
  · rintro ⟨r, h⟩; exact ⟨r, by rw [← h]; simp⟩
  · rintro ⟨r, h⟩; exact ⟨r, by rw [h]; simp⟩
/-! ### What hides what -/
theorem foldl_filter {α β : Type} (p : α → Bool) (f : α → β) : ∀ (l : List α) (s : List β), l.foldl (fun s c => bif p c then s ++ [f c] else s) s = s ++ (l.filter p).map f
  | [], s => by simp
  | x :: l, s => by
    rw [List.foldl_cons, foldl_filter p f l]
    cases hp : p x <;> simp [hp]
/-! ### Searching -/
def PSrt (l : List api_Prop) : Prop := l.Pairwise fun x y => nlt x.Name y.Name
theorem mid_eq {s : Int} (h0 : 0 ≤ s) (h1 : s ≤ 100000) : IntKind.wrap .i64 (ishr .u64 (IntKind.wrap .u64 (IntKind.wrap .i64 s)) 1) = s / 2 := by
  have w1 : IntKind.wrap .i64 s = s := wrap64 (by omega) (by omega)
  have w2 : IntKind.wrap .u64 s = s := by unfold IntKind.wrap; simp [IntKind.min, IntKind.max, IntKind.bits, IntKind.signed]; omega
  have w3 : ishr .u64 s 1 = s / 2 := by
    unfold ishr
    simp [IntKind.bits]
    exact Int.fdiv_eq_ediv_of_nonneg s (by omega)
  rw [w1, w2, w3, wrap64 (by omega) (by omega)]
theorem find_eq {l : List api_Prop} (hs : PSrt l) (hl : l.length ≤ 10000) (t : List UInt8) :
    (twin_find l t = some (-1) ∧ ∀ q ∈ l, q.Name ≠ t) ∨ ∃ (i : Nat) (h : i < l.length), twin_find l t = some (i : Int) ∧ l[i].Name = t := by
  have key : ∃ i : Nat, i ≤ l.length ∧ loopO (slices_BinarySearchFunc_api_Prop_api_Prop_string_f2_twin_find_1_x1 l t) (0, (l.length : Int)) = some (i : Int) ∧ (∀ k (h : k < l.length), k < i → nlt l[k].Name t) ∧ (∀ k (h : k < l.length), i ≤ k → ¬ nlt l[k].Name t) := by
    obtain ⟨r, h1, i, h2, h3⟩ := loop_ok (f := slices_BinarySearchFunc_api_Prop_api_Prop_string_f2_twin_find_1_x1 l t) (Q := fun r : Int => ∃ i : Nat, r = i ∧ i ≤ l.length ∧ (∀ k (h : k < l.length), k < i → nlt l[k].Name t) ∧ (∀ k (h : k < l.length), i ≤ k → ¬ nlt l[k].Name t))
      (fun s => ∃ i j : Nat, s = ((i : Int), (j : Int)) ∧ i ≤ j ∧ j ≤ l.length ∧ (∀ k (h : k < l.length), k < i → nlt l[k].Name t) ∧ (∀ k (h : k < l.length), j ≤ k → ¬ nlt l[k].Name t)) (fun s => (s.2 - s.1).toNat) (by
        rintro _ ⟨i, j, rfl, ij, jl, lo, hi⟩
        unfold slices_BinarySearchFunc_api_Prop_api_Prop_string_f2_twin_find_1_x1
        refine .cond (fun hc => ?_) (fun hc => ?_)
        · have hc : (i : Int) < j := by simpa using hc
          have hm : IntKind.wrap .i64 (ishr .u64 (IntKind.wrap .u64 (IntKind.wrap .i64 ((i : Int) + j))) 1) = (((i + j) / 2 : Nat) : Int) := by rw [mid_eq (by omega) (by omega)]; omega
          have hml : (i + j) / 2 < l.length := by omega
          rw [hm, at_nat hml]
          have hf1 : twin_find_1 l[(i + j) / 2] t = some () := rfl
          simp only [Option.bind_some]
          have hf1' : twin_find_1 (api_Prop.mk l[(i + j) / 2].Name (api_Value.mk l[(i + j) / 2].Value.Kind l[(i + j) / 2].Value.Flag l[(i + j) / 2].Value.Number l[(i + j) / 2].Value.Words)) t = some () := rfl
          rw [hf1']
          simp only [Option.bind_some]
          refine .cond (fun h => ?_) (fun h => ?_)
          · have h : nlt l[(i + j) / 2].Name t := by unfold nlt; simpa using h
            have w : IntKind.wrap .i64 ((((i + j) / 2 : Nat) : Int) + 1) = (((i + j) / 2 + 1 : Nat) : Int) := by rw [wrap64 (by omega) (by omega)]; omega
            rw [w]
            refine .some ⟨⟨(i + j) / 2 + 1, j, rfl, by omega, jl, fun k hk hki => ?_, hi⟩, by simp only; omega⟩
            by_cases e : k = (i + j) / 2
            · subst e; exact h
            · exact nlt_trans ((List.pairwise_iff_getElem.1 hs) k ((i + j) / 2) hk hml (by omega)) h
          · have h : ¬ nlt l[(i + j) / 2].Name t := by unfold nlt; simpa using h
            refine .some ⟨⟨i, (i + j) / 2, rfl, by omega, by omega, lo, fun k hk hki => ?_⟩, by simp only; omega⟩
            by_cases e : k = (i + j) / 2
            · subst e; exact h
            · exact fun hn => h (nlt_trans ((List.pairwise_iff_getElem.1 hs) ((i + j) / 2) k hml hk (by omega)) hn)
        · have hc : ¬ (i : Int) < j := by simpa using hc
          have e : i = j := by omega
          subst e
          exact .some ⟨i, rfl, jl, lo, hi⟩) (s := ((0 : Int), (l.length : Int))) ⟨0, l.length, rfl, by omega, by omega, fun k h hk => by omega, fun k h hk => by omega⟩
    subst h2
    exact ⟨i, h3.1, h1, h3.2⟩
  obtain ⟨i, h0, h1, lo, hi⟩ := key
  unfold twin_find slices_BinarySearchFunc_api_Prop_api_Prop_string_f2_twin_find_1
  rw [h1]
  simp only [Option.bind_some]
  have far : ∀ (k : Nat) (h : k < l.length), l[k].Name = t → k = i := by
    intro k hk e
    rcases Nat.lt_trichotomy k i with h | h | h
    · have := lo k hk h; rw [e] at this; exact absurd this (nlt_irrefl _)
    · exact h
    · have h2 : i < l.length := by omega
      have h3 := hi i h2 (Nat.le_refl _)
      have h4 := (List.pairwise_iff_getElem.1 hs) i k h2 hk h
      rw [e] at h4
      exact absurd h4 h3
  unfold slices_BinarySearchFunc_api_Prop_api_Prop_string_f2_twin_find_1_x2
  by_cases hil : (i : Int) < l.length
  · have hil' : i < l.length := by omega
    simp only [hil, decide_true, cond_true, at_nat hil', Option.bind_some]
    have hf1' : twin_find_1 (api_Prop.mk l[i].Name (api_Value.mk l[i].Value.Kind l[i].Value.Flag l[i].Value.Number l[i].Value.Words)) t = some () := rfl
    rw [hf1']
    simp only [Option.bind_some]
    by_cases hz : Lib.compareBytes l[i].Name t = 0
    · right
      refine ⟨i, hil', ?_, cmpB_zero.1 hz⟩
      simp [hz]
    · left
      refine ⟨by simp [hz], fun q hq e => ?_⟩
      obtain ⟨k, hk, rfl⟩ := List.mem_iff_getElem.1 hq
      have := far k hk e
      subst this
      exact hz (cmpB_zero.2 e)
  · left
    refine ⟨by simp [hil], fun q hq e => ?_⟩
    obtain ⟨k, hk, rfl⟩ := List.mem_iff_getElem.1 hq
    have := far k hk e
    omega

/-! ### Checks of properties -/
def GP (p : api_Prop) : Prop := twin_isName p.Name = some true ∧ twin_valueFault p.Value = some 0 ∧ p.Value.Kind ≠ 0
theorem above_ok {l : List api_Prop} (hs : PSrt l) (hl : l.length ≤ 10000) {n : List UInt8} (hn : (n.length : Int) ≤ 9223372036854775807) (h : ∀ q ∈ l, belB n q.Name = false) : twin_above_f1_twin_CheckProps_1 n l = some false := by
  unfold twin_above_f1_twin_CheckProps_1
  rw [range_loop (l := n) (fun _ _ => none) (.inl ()) hn]
  · have : ∀ (k : Nat) (m : List UInt8), scan (fun (_ : Nat) (_ : UInt8) => (none : Option (Unit ⊕ Unit))) k m = none := fun k m => scan_none.2 fun _ _ _ => rfl
    rw [this]; rfl
  · intro i hi
    unfold twin_above_f1_twin_CheckProps_1_x1 twin_above_f1_twin_CheckProps_1_x2
    have hc : (i : Int) < n.length := by omega
    simp only [hc, decide_true, cond_true, at_nat hi, Option.bind_some]
    by_cases h2 : (n[i].toNat : Int) = 46
    · have hsub : sub? n 0 (i : Int) = some (n.take i) := by
        unfold sub?
        rw [if_pos ⟨by omega, by omega, by omega⟩]
        simp
      simp only [h2, decide_true, cond_true, hsub, Option.bind_some, twin_CheckProps_1]
      rcases find_eq hs hl (n.take i) with ⟨f1, _⟩ | ⟨k, hk, f1, f2⟩
      · rw [f1]; rfl
      · exfalso
        have h3 : n[i] = 46 := by
          have : n[i].toNat = (46 : UInt8).toNat := by show n[i].toNat = 46; omega
          exact UInt8.toNat_inj.1 this
        have := h l[k] (List.getElem_mem _)
        rw [Bool.eq_false_iff] at this
        apply this
        rw [bel_iff, f2]
        refine ⟨n.drop (i + 1), ?_⟩
        conv => lhs; rw [← List.take_append_drop i n, List.drop_eq_getElem_cons hi, h3]
    · simp only [h2, decide_false, cond_false, Option.bind_some]
  · unfold twin_above_f1_twin_CheckProps_1_x1
    simp
theorem props_ok {l : List api_Prop} (h : ∀ p ∈ l, GP p) (hs : PSrt l) (hl : l.length ≤ 500) (hn : ∀ p ∈ l, (p.Name.length : Int) ≤ 9223372036854775807) (hb : ∀ p ∈ l, ∀ q ∈ l, belB p.Name q.Name = false) : twin_CheckProps l = some 0 := by
  unfold twin_CheckProps
  have : ¬ (500 : Int) < l.length := by omega
  simp only [this, decide_false, cond_false]
  have c1 : loopO (twin_CheckProps_x1 l) 0 = some (.inl ()) := by
    rw [range_loop (l := l) (fun _ _ => none) (.inl ()) (by omega)]
    · have : ∀ (k : Nat) (m : List api_Prop), scan (fun (_ : Nat) (_ : api_Prop) => (none : Option (Unit ⊕ Int))) k m = none := fun k m => scan_none.2 fun _ _ _ => rfl
      rw [this]; rfl
    · intro i hi
      obtain ⟨h1, h2, h3⟩ := h l[i] (List.getElem_mem _)
      have hc : (i : Int) < l.length := by omega
      have h2' : twin_valueFault (api_Value.mk l[i].Value.Kind l[i].Value.Flag l[i].Value.Number l[i].Value.Words) = some 0 := h2
      have hx2 : twin_CheckProps_x2 l i l[i] = some false := by
        unfold twin_CheckProps_x2
        cases i with
        | zero => simp
        | succ i =>
          have hp : (0 : Int) < ((i + 1 : Nat) : Int) := by omega
          have w : IntKind.wrap .i64 (((i + 1 : Nat) : Int) - 1) = (i : Int) := by rw [wrap64 (by omega) (by omega)]; omega
          simp only [hp, decide_true, cond_true, w, at_nat (show i < l.length by omega), Option.bind_some]
          congr 1
          have g1 : nlt (l[i]'(by omega)).Name l[i + 1].Name := (List.pairwise_iff_getElem.1 hs) i (i + 1) (by omega) hi (by omega)
          rw [cmpB_less]
          have g2 := nlt_asymm g1
          have g3 := nlt_ne g1
          unfold nlt at g2
          simp only [Bool.or_eq_false_iff, decide_eq_false_iff_not]
          exact ⟨g2, fun e => g3 e.symm⟩
      unfold twin_CheckProps_x1
      simp only [hc, decide_true, cond_true, at_nat hi, Option.bind_some, h1, Bool.not_true, cond_false, h2', h3, decide_false, hx2]
    · unfold twin_CheckProps_x1; simp
  have c2 : loopO (twin_CheckProps_x3 l) 0 = some (.inl ()) := by
    rw [range_loop (l := l) (fun _ _ => none) (.inl ()) (by omega)]
    · have : ∀ (k : Nat) (m : List api_Prop), scan (fun (_ : Nat) (_ : api_Prop) => (none : Option (Unit ⊕ Unit))) k m = none := fun k m => scan_none.2 fun _ _ _ => rfl
      rw [this]; rfl
    · intro i hi
      have hc : (i : Int) < l.length := by omega
      have hm := List.getElem_mem hi
      unfold twin_CheckProps_x3
      simp only [hc, decide_true, cond_true, at_nat hi, Option.bind_some, above_ok hs (by omega) (hn _ hm) (fun q hq => hb _ hm q hq), cond_false]
    · unfold twin_CheckProps_x3; simp
  simp only [c1, c2, Option.bind_some]
/-! ### Equal rows -/
end Go.Eng

/-
What is left of a sorted row, each key once.
-/
namespace Go.Eng
open Go
set_option linter.unusedVariables false
set_option linter.unusedSimpArgs false
section
variable {α : Type}
end
end Go.Eng

/-
The streams.
-/
namespace Go.Eng
open Go
set_option linter.unusedVariables false
set_option linter.unusedSimpArgs false

theorem wrap_I64 (n : Int) : I64 (IntKind.wrap .i64 n) := by
  unfold IntKind.wrap I64
  simp [IntKind.bits, IntKind.signed]
  split <;> omega

theorem Below_eq {x n : Int} (hx : I64 x) (hn : I64 n) : fleetmake_Below x n = some (if n < 1 then 0 else x % n) := by
  unfold I64 at hx hn
  unfold fleetmake_Below fleetmake_Below_x1
  by_cases h : n < 1
  · simp [h]
  · have h0 : (n == 0) = false := by simp; omega
    have e := Int.emod_eq_tmod (a := x) (b := n)
    have nn := Int.emod_nonneg x (show n ≠ 0 by omega)
    have lt := Int.emod_lt_of_pos x (show 0 < n by omega)
    simp only [h, decide_false, cond_false, h0, Bool.not_false, gd, cond_true, Option.bind_some, if_false]
    by_cases h3 : x.tmod n < 0
    · simp only [h3, decide_true, cond_true, Option.bind_some]
      split at e
      · omega
      · rw [wrap64 (by omega) (by omega)]
        congr 1
        omega
    · simp only [h3, decide_false, cond_false, Option.bind_some]
      congr 1
      split at e <;> omega
theorem Below_ok {x n : Int} (hx : I64 x) (hn : I64 n) : Ok (fleetmake_Below x n) (fun r => (1 ≤ n → 0 ≤ r ∧ r < n) ∧ (n < 1 → r = 0)) := by
  refine .of_eq (Below_eq hx hn) ⟨fun h => ?_, fun h => by simp [h]⟩
  rw [if_neg (by omega)]
  exact ⟨Int.emod_nonneg _ (by omega), Int.emod_lt_of_pos _ (by omega)⟩

/-- A stream whose numbers are of 64 bits, of which at most k were taken. -/
def StrOk (k : Nat) (s : fleetmake_Stream) : Prop := 0 ≤ s.at_ ∧ s.at_ ≤ k ∧ s.L.length ≤ 9223372036854775807 ∧ ∀ n ∈ s.L, I64 n
theorem StrOk.mono {k k' : Nat} {s : fleetmake_Stream} (h : StrOk k s) (hk : k ≤ k') : StrOk k' s := ⟨h.1, by have := h.2.1; omega, h.2.2⟩
/-- One number further. -/
abbrev nxt (s : fleetmake_Stream) : fleetmake_Stream := fleetmake_Stream.mk s.L (IntKind.wrap .i64 (s.at_ + 1))
theorem StrOk.nxt {k : Nat} {s : fleetmake_Stream} (h : StrOk k s) (hk : k < 1099511627776) : StrOk (k + 1) (nxt s) := by
  obtain ⟨h1, h2, h3, h4⟩ := h
  refine ⟨?_, ?_, h3, h4⟩
  · show 0 ≤ IntKind.wrap .i64 (s.at_ + 1)
    rw [wrap64 (by omega) (by omega)]; omega
  · show IntKind.wrap .i64 (s.at_ + 1) ≤ _
    rw [wrap64 (by omega) (by omega)]; omega

theorem Next_ok {k : Nat} {s : fleetmake_Stream} {n : Int} (h : StrOk k s) (hk : k < 1099511627776) (hn : I64 n) : Ok (fleetmake_Stream_Next s n) (fun r => (1 ≤ n → 0 ≤ r ∧ r < n) ∧ (n < 1 → r = 0)) := by
  obtain ⟨h1, h2, h3, h4⟩ := h
  unfold fleetmake_Stream_Next
  refine .cond (fun _ => ?_) (fun hl => ?_)
  · exact (Below_ok (wrap_I64 _) hn).bind fun r hr => .some hr
  · have hl' : s.L.length ≠ 0 := by simpa using hl
    have e1 : IntKind.wrap .i64 (s.at_ + 1) = s.at_ + 1 := wrap64 (by omega) (by omega)
    have e2 : IntKind.wrap .i64 (s.at_ + 1 - 1) = s.at_ := by rw [wrap64 (by omega) (by omega)]; omega
    refine .gd (by simpa using hl') ?_
    rw [e1, e2]
    refine (at_mem (tmod_nonneg h1) (tmod_lt' (by omega))).bind fun y hy => ?_
    refine (Below_ok (h4 y hy) (by unfold I64; omega)).bind fun r1 hr1 => ?_
    exact (Below_ok (wrap_I64 _) hn).bind fun r hr => .some hr

theorem Pick_ok {k : Nat} {s : fleetmake_Stream} {l : List Int} (h : StrOk k s) (hk : k < 1099511627776) (hl : 0 < l.length) (hl2 : l.length < 1000) : Ok (fleetmake_Stream_Pick_o1 s l) (fun r => r ∈ l) := by
  unfold fleetmake_Stream_Pick_o1
  refine (Next_ok h hk (by unfold I64; omega)).bind fun r hr => ?_
  have := hr.1 (by omega)
  exact (at_mem this.1 this.2).bind fun y hy => .some hy
theorem Some_ok {k : Nat} {s : fleetmake_Stream} {l : List (List UInt8)} (h : StrOk k s) (hk : k < 1099511627776) (hl : 0 < l.length) (hl2 : l.length < 1000) : Ok (fleetmake_Stream_Some_o1 s l) (fun r => r ∈ l) := by
  unfold fleetmake_Stream_Some_o1
  refine (Next_ok h hk (by unfold I64; omega)).bind fun r hr => ?_
  have := hr.1 (by omega)
  exact (at_mem this.1 this.2).bind fun y hy => .some hy
theorem Flip_ok {k : Nat} {s : fleetmake_Stream} {n : Int} (h : StrOk k s) (hk : k < 1099511627776) (hn : I64 n) : Ok (fleetmake_Stream_Flip s n) (fun _ => True) := by
  unfold fleetmake_Stream_Flip
  exact (Next_ok h hk hn).bind fun r hr => .some trivial
theorem Range_ok {k : Nat} {s : fleetmake_Stream} {low high : Int} (h : StrOk k s) (hk : k < 1099511627776) (hlow : -4611686018427387903 < low ∧ low < 4611686018427387904) (hh : -4611686018427387904 < high ∧ high < 4611686018427387903) :
    Ok (fleetmake_Stream_Range s low high) (fun r => StrOk (k + 1) r.1 ∧ low ≤ r.2 ∧ (low ≤ high → r.2 ≤ high) ∧ (high < low → r.2 = low)) := by
  unfold fleetmake_Stream_Range
  refine .cond (fun hc => ?_) (fun hc => ?_)
  · have hc' : high < low := by simpa using hc
    exact .some ⟨h.mono (by omega), Int.le_refl _, by intro h; omega, fun _ => rfl⟩
  · have hc' : ¬ high < low := by simpa using hc
    have e1 : IntKind.wrap .i64 (high - low) = high - low := wrap64 (by omega) (by omega)
    have e2 : IntKind.wrap .i64 (high - low + 1) = high - low + 1 := wrap64 (by omega) (by omega)
    rw [e1, e2]
    refine (Next_ok h hk (by unfold I64; omega)).bind fun r hr => ?_
    have := hr.1 (by omega)
    refine .some ⟨h.nxt hk, ?_, fun _ => ?_, fun h => by omega⟩
    · show low ≤ IntKind.wrap .i64 (low + r)
      rw [wrap64 (by omega) (by omega)]; omega
    · show IntKind.wrap .i64 (low + r) ≤ high
      rw [wrap64 (by omega) (by omega)]; omega
end Go.Eng

/-
The law CellsInAnyOrder: cells that streams make; cells that are merged in any order.
-/
namespace Go.Eng
open Go
set_option linter.unusedVariables false
set_option linter.unusedSimpArgs false

/-! ### Cells that streams make -/
def nm7 : List (List UInt8) := [[97], [97, 46, 120], [97, 46, 121], [97, 46, 120, 46, 112], [98], [98, 46, 122], [97, 98]]
def rk (n : List UInt8) : Int := if n = [97] then 0 else if n = [97, 46, 120] then 1 else if n = [97, 46, 120, 46, 112] then 2 else if n = [97, 46, 121] then 3 else if n = [97, 98] then 4 else if n = [98] then 5 else 6
theorem rk_all : (nm7.all fun x => nm7.all fun y => (decide (Lib.compareBytes x y ≤ 0) == decide (rk x ≤ rk y)) && (decide (Lib.compareBytes x y < 0) == decide (rk x < rk y)) && (decide (rk x = rk y) == decide (x = y))) = true := by decide
theorem rk_spec {x y : List UInt8} (hx : x ∈ nm7) (hy : y ∈ nm7) : (Lib.compareBytes x y ≤ 0 ↔ rk x ≤ rk y) ∧ (nlt x y ↔ rk x < rk y) ∧ (rk x = rk y ↔ x = y) := by
  have := List.all_eq_true.1 (List.all_eq_true.1 rk_all x hx) y hy
  simp only [Bool.and_eq_true, beq_iff_eq, decide_eq_decide] at this
  exact ⟨this.1.1, this.1.2, this.2⟩
theorem nm7_ok : (nm7.all fun n => decide (twin_isName n = some true)) = true := by kernel_rfl
theorem nm7_len : (nm7.all fun n => decide (n.length ≤ 10)) = true := by decide
theorem fault_none : twin_valueFault (api_Value.mk 0 false 0 []) = some 0 := by kernel_rfl
theorem nxt_mk {k : Nat} {s : fleetmake_Stream} (h : StrOk k s) (hk : k < 1099511627776) : StrOk (k + 1) (fleetmake_Stream.mk s.L (IntKind.wrap .i64 (s.at_ + 1))) := h.nxt hk
/-! ### In any order -/
end Go.Eng

/-
The law CompactStays: what nobody needs any more is left out; what is visible stays, also after a merge with what comes later.
-/
namespace Go.Eng
open Go
set_option linter.unusedVariables false
set_option linter.unusedSimpArgs false

/-! ### Compact -/
/-! ### What is left -/
/-! ### Equal rows of properties -/
theorem pEqual_self {l : List api_Prop} (hl : (l.length : Int) ≤ 9223372036854775807) : slices_Equal_api_Prop_api_Prop l l = some true := by
  unfold slices_Equal_api_Prop_api_Prop
  simp only [decide_true, Bool.not_true, cond_false]
  rw [range_loop (l := l) (fun _ _ => none) (.inl ()) hl]
  · have : ∀ (k : Nat) (m : List api_Prop), scan (fun (_ : Nat) (_ : api_Prop) => (none : Option (Unit ⊕ Unit))) k m = none := fun k m => scan_none.2 fun _ _ _ => rfl
    rw [this]; rfl
  · intro i hi
    unfold slices_Equal_api_Prop_api_Prop_x1
    have hc : (i : Int) < l.length := by omega
    simp only [hc, decide_true, cond_true, at_nat hi, Option.bind_some, beq_self_eq_true, Bool.and_self, Bool.and_true]
    rfl
  · unfold slices_Equal_api_Prop_api_Prop_x1; simp
/-! ### Later cells -/
end Go.Eng

/-
What is left of a sorted row, each key once, with what is found again.
-/
namespace Go.Eng
open Go
set_option linter.unusedVariables false
set_option linter.unusedSimpArgs false
section
variable {α : Type}
theorem gCom_key2 {P : α → Prop} {t : α → α → Option Bool} {kf : α → Int} (ht : ∀ x y, P x → P y → ∃ b, t x y = some b ∧ (b = true ↔ kf x = kf y)) {z : α} {l : List α} (hl : l.length ≤ 100000) (hp : All P l)
    (hs : ∀ p q (hpq : p < q) (hq : q < l.length), kf (l[p]'(by omega)) ≤ kf l[q]) : Ok (gCom t z l) (fun r => (r.length ≤ l.length ∧ All P r ∧ r.Pairwise (fun x y => kf x < kf y)) ∧ ∀ x ∈ l, ∃ y ∈ r, kf y = kf x) := by
  unfold gCom
  have small : ∀ k, (k ≤ l.length) → (∀ q (hq : q + 1 < k) (hk : k ≤ l.length), kf (l[q + 1]'(by omega)) ≠ kf (l[q]'(by omega))) → (l.take k).Pairwise (fun x y => kf x < kf y) := by
    intro k hkl hne
    rw [List.pairwise_iff_getElem]
    intro i j hi hj hij
    simp only [List.getElem_take]
    have hjl : j < l.length := by simp at hj; omega
    have hjk : j < k := by simp at hj; omega
    have h1 : kf (l[i]'(by omega)) ≤ kf (l[j - 1]'(by omega)) := by
      by_cases e : i = j - 1
      · subst e; exact Int.le_refl _
      · exact hs i (j - 1) (by omega) (by omega)
    have h2 := hs (j - 1) j (by omega) hjl
    have h3 : kf (l[j - 1]'(by omega)) ≠ kf l[j] := by
      intro e
      have := hne (j - 1) (by omega) hkl
      apply this
      have e3 : j - 1 + 1 = j := by omega
      simp only [e3]
      exact e.symm
    omega
  refine .cond (fun hc => .some ⟨⟨Nat.le_refl _, hp, ?_⟩, fun x hx => ⟨x, hx, rfl⟩⟩) (fun hc => ?_)
  · have hc := of_decide_eq_true hc
    match l, hc with
    | [], _ => simp
    | [x], _ => simp
    | x :: y :: m, hc => simp at hc; omega
  have hl2 : (2 : Int) ≤ l.length := by simpa using hc
  refine Ok.bind (P := fun x => match x with | .inl _ => l.Pairwise (fun x y => kf x < kf y) | .inr r => (r.length ≤ l.length ∧ All P r ∧ r.Pairwise (fun x y => kf x < kf y)) ∧ ∀ x ∈ l, ∃ y ∈ r, kf y = kf x) ?_ (fun x hx => ?_)
  · refine loop_ok (fun k : Int => ∃ n : Nat, k = (n : Int) ∧ 1 ≤ n ∧ n ≤ l.length ∧ ∀ q (hq : q + 1 < n) (hk : n ≤ l.length), kf (l[q + 1]'(by omega)) ≠ kf (l[q]'(by omega))) (fun k => ((l.length : Int) - k).toNat) ?_ ⟨1, rfl, by omega, by omega, fun q hq => by omega⟩
    rintro k ⟨n, rfl, n1, n2, n3⟩
    unfold gC1
    by_cases hk' : n < l.length
    · have hki : (n : Int) < l.length := by omega
      have w1 : IntKind.wrap .i64 ((n : Int) - 1) = ((n - 1 : Nat) : Int) := by rw [wrap64 (by omega) (by omega)]; omega
      have w2 : IntKind.wrap .i64 ((n : Int) + 1) = ((n + 1 : Nat) : Int) := by rw [wrap64 (by omega) (by omega)]; omega
      obtain ⟨b, hb, hbe⟩ := ht l[n] (l[n - 1]'(by omega)) (hp _ (List.getElem_mem hk')) (hp _ (List.getElem_mem (show n - 1 < l.length by omega)))
      simp only [hki, decide_true, cond_true, w1, at_nat hk', at_nat (show n - 1 < l.length by omega), hb, Option.bind_some]
      cases b with
      | false =>
        simp only [cond_false, w2]
        refine .some ⟨⟨n + 1, rfl, by omega, by omega, fun q hq hk => ?_⟩, by omega⟩
        by_cases e : q + 1 = n
        · subst e
          intro he
          have : (false : Bool) = true := hbe.2 he
          cases this
        · exact n3 q (by omega) n2
      | true =>
        have heq : kf l[n] = kf (l[n - 1]'(by omega)) := hbe.1 rfl
        simp only [cond_true]
        refine .gd (by simp; omega) ?_
        have hkn : (((l.length : Int).toNat - (n : Int).toNat : Nat) : Int) = l.length - n := by omega
        refine Ok.bind (P := fun q : List α × Int => q.1.length = l.length ∧ ∃ i : Nat, q.2 = (i : Int) ∧ i ≤ l.length ∧ All P q.1 ∧ (q.1.take i).Pairwise (fun x y => kf x < kf y) ∧ ∀ x ∈ l, ∃ y ∈ q.1.take i, kf y = kf x) ?_ (fun ⟨l7, k9⟩ ⟨q1, i, q2, q3, q4, q5, q6⟩ => ?_)
        · refine loop_ok (fun q : List α × Int × Int => q.1.length = l.length ∧ All P q.1 ∧ ∃ i j : Nat, q.2.1 = (i : Int) ∧ q.2.2 = (j : Int) ∧ 1 ≤ j ∧ n + j ≤ l.length ∧ 1 ≤ i ∧ i ≤ n + j - 1 ∧ q.1.drop (n + j - 1) = l.drop (n + j - 1) ∧
            (q.1.take i).Pairwise (fun x y => kf x < kf y) ∧ (∀ (h1 : i - 1 < q.1.length) (h2 : n + j - 1 < l.length), kf q.1[i - 1] = kf l[n + j - 1]) ∧ ∀ x ∈ l.take (n + j), ∃ y ∈ q.1.take i, kf y = kf x) (fun q => ((l.length : Int) - q.2.2).toNat) ?_
            ⟨rfl, hp, n, 1, rfl, rfl, by omega, by omega, by omega, by omega, rfl, small n n2 n3, fun h1 h2 => by simp only [Nat.add_sub_cancel]; exact heq.symm, fun x hx => by
              rw [List.take_succ_eq_append_getElem hk'] at hx
              rcases List.mem_append.1 hx with hx | hx
              · exact ⟨x, hx, rfl⟩
              · rw [List.mem_singleton] at hx
                subst hx
                exact ⟨l[n - 1]'(by omega), List.mem_iff_getElem.2 ⟨n - 1, by simp; omega, by simp⟩, heq.symm⟩⟩
          rintro ⟨m, i', j'⟩ ⟨m1, m2, i, j, rfl, rfl, j1, j2, i1, i2, d1, d2, d3, d4⟩
          simp only at m1 m2 d1 d2 d3 d4
          unfold gC2
          rw [hkn]
          refine .cond (fun hj => ?_) (fun hj => .some ⟨m1, i, rfl, by omega, m2, d2, by
            have hj : ¬ (j : Int) < l.length - n := by simpa using hj
            rw [List.take_of_length_le (show l.length ≤ n + j by omega)] at d4
            exact d4⟩)
          have hj : (j : Int) < l.length - n := by simpa using hj
          have w3 : IntKind.wrap .i64 ((j : Int) - 1) = ((j - 1 : Nat) : Int) := by rw [wrap64 (by omega) (by omega)]; omega
          have w4 : IntKind.wrap .i64 ((i : Int) + 1) = ((i + 1 : Nat) : Int) := by rw [wrap64 (by omega) (by omega)]; omega
          have w5 : IntKind.wrap .i64 ((j : Int) + 1) = ((j + 1 : Nat) : Int) := by rw [wrap64 (by omega) (by omega)]; omega
          have a1 : m[n + j]'(by omega) = l[n + j]'(by omega) := by
            have h := congrArg (fun x => x[1]?) d1
            simp only [List.getElem?_drop] at h
            rw [show n + j - 1 + 1 = n + j by omega, List.getElem?_eq_getElem (by omega), List.getElem?_eq_getElem (by omega)] at h
            exact Option.some.inj h
          have a2 : m[n + j - 1]'(by omega) = l[n + j - 1]'(by omega) := by
            have h := congrArg (fun x => x[0]?) d1
            simp only [List.getElem?_drop] at h
            rw [show n + j - 1 + 0 = n + j - 1 by omega, List.getElem?_eq_getElem (by omega), List.getElem?_eq_getElem (by omega)] at h
            exact Option.some.inj h
          have hx := hp _ (List.getElem_mem (show n + j < l.length by omega))
          have hy := hp _ (List.getElem_mem (show n + j - 1 < l.length by omega))
          obtain ⟨b, hb, hbe⟩ := ht (l[n + j]'(by omega)) (l[n + j - 1]'(by omega)) hx hy
          refine Ok.bind (P := fun q : List α × Int => q.1.length = l.length ∧ All P q.1 ∧ ∃ i : Nat, q.2 = (i : Int) ∧ 1 ≤ i ∧ i ≤ n + j ∧ q.1.drop (n + j) = l.drop (n + j) ∧ (q.1.take i).Pairwise (fun x y => kf x < kf y) ∧ (∀ (h1 : i - 1 < q.1.length) (h2 : n + j < l.length), kf q.1[i - 1] = kf l[n + j]) ∧ ∀ x ∈ l.take (n + j + 1), ∃ y ∈ q.1.take i, kf y = kf x) ?_ (fun ⟨m', i''⟩ ⟨g1, g2, i3, g3, g4, g5, g6, g7, g8, g9⟩ => ?_)
          · unfold gC3
            rw [w3]
            refine .gd (by simp; omega) ?_
            have e1 : (n : Int) + (j : Int) = ((n + j : Nat) : Int) := by omega
            have e2 : (n : Int) + ((j - 1 : Nat) : Int) = ((n + j - 1 : Nat) : Int) := by omega
            rw [e1, at_nat (show n + j < m.length by omega)]
            simp only [Option.bind_some]
            refine .gd (by simp; omega) ?_
            rw [e2, at_nat (show n + j - 1 < m.length by omega), at_nat (show i < m.length by omega)]
            simp only [Option.bind_some, a1, a2, hb, w4, Int.toNat_natCast]
            have hdrop : m.drop (n + j) = l.drop (n + j) := by
              have h := congrArg (List.drop 1) d1
              rw [List.drop_drop, List.drop_drop, show n + j - 1 + 1 = n + j by omega] at h
              exact h
            cases b with
            | true =>
              have he : kf (l[n + j]'(by omega)) = kf (l[n + j - 1]'(by omega)) := hbe.1 rfl
              refine .some ⟨m1, m2, i, rfl, i1, by omega, hdrop, d2, fun h1 h2 => ?_, fun x hx => ?_⟩
              · rw [d3 h1 (by omega)]; exact he.symm
              · rw [List.take_succ_eq_append_getElem (show n + j < l.length by omega)] at hx
                rcases List.mem_append.1 hx with hx | hx
                · exact d4 x hx
                · rw [List.mem_singleton] at hx
                  subst hx
                  obtain ⟨y, y1, y2⟩ := d4 (l[n + j - 1]'(by omega)) (List.mem_iff_getElem.2 ⟨n + j - 1, by simp; omega, by simp⟩)
                  exact ⟨y, y1, y2.trans he.symm⟩
            | false =>
              have hne : kf (l[n + j]'(by omega)) ≠ kf (l[n + j - 1]'(by omega)) := fun e => by have := hbe.2 e; cases this
              refine .some ⟨by simp [m1], m2.set hx, i + 1, rfl, by omega, by omega, ?_, ?_, fun h1 h2 => ?_, fun x hx' => ?_⟩
              · simp only
                rw [List.drop_set_of_lt (by omega)]; exact hdrop
              · simp only
                rw [List.take_succ_eq_append_getElem (by simp; omega), List.take_set_of_le (by omega)]
                simp only [List.getElem_set_self]
                rw [List.pairwise_append]
                refine ⟨d2, by simp, fun x hx' y hy' => ?_⟩
                rw [List.mem_singleton] at hy'
                subst hy'
                have hlast := d3 (by omega) (by omega)
                have hle : kf x ≤ kf (l[n + j - 1]'(by omega)) := by
                  obtain ⟨p, hp', rfl⟩ := List.mem_iff_getElem.1 hx'
                  simp only [List.getElem_take]
                  rw [← hlast]
                  have hpi : p < i := by simp at hp'; omega
                  by_cases e : p = i - 1
                  · subst e; exact Int.le_refl _
                  · have := (List.pairwise_iff_getElem.1 d2) p (i - 1) hp' (by simp; omega) (by omega)
                    simp only [List.getElem_take] at this
                    omega
                have hlt : kf (l[n + j - 1]'(by omega)) < kf (l[n + j]'(by omega)) := by
                  have h1 := hs (n + j - 1) (n + j) (by omega) (by omega)
                  by_cases e : kf (l[n + j - 1]'(by omega)) = kf (l[n + j]'(by omega))
                  · exact absurd e.symm hne
                  · omega
                omega
              · simp
              · simp only
                rw [List.take_succ_eq_append_getElem (show i < (m.set i (l[n + j]'(by omega))).length by simp; omega), List.take_set_of_le (by omega)]
                simp only [List.getElem_set_self]
                rw [List.take_succ_eq_append_getElem (show n + j < l.length by omega)] at hx'
                rcases List.mem_append.1 hx' with hx' | hx'
                · obtain ⟨y, y1, y2⟩ := d4 x hx'
                  exact ⟨y, List.mem_append_left _ y1, y2⟩
                · rw [List.mem_singleton] at hx'
                  subst hx'
                  exact ⟨_, List.mem_append_right _ (List.mem_singleton.2 rfl), rfl⟩
          · simp only at g1 g2 g3 g6 g7 g8 g9
            subst g3
            rw [w5]
            refine .some ⟨⟨g1, g2, i3, j + 1, rfl, rfl, by omega, by omega, g4, by omega, ?_, g7, fun h1 h2 => ?_, g9⟩, by simp only; omega⟩
            · simp only
              rw [show n + (j + 1) - 1 = n + j by omega]; exact g6
            · simp only
              have := g8 h1 (by omega)
              rw [this]
              congr 1
        · simp only at q1 q2 q4 q5
          subst q2
          refine .gd (by simp; omega) (.gd ?_ ?_)
          · simp only [Bool.and_eq_true, decide_eq_true_eq]
            refine ⟨by omega, ?_⟩
            simp only [List.length_append, List.length_take, List.length_replicate, List.length_drop, Int.toNat_natCast]
            omega
          · rw [take_part (by simp; omega)]
            refine .some ⟨⟨?_, fun x hx => q4 x (List.mem_of_mem_take hx), by simpa using q5⟩, by simpa using q6⟩
            simp only [List.length_take]; omega
    · have hki : ¬ (n : Int) < l.length := by omega
      simp only [hki, decide_false, cond_false]
      refine .some ?_
      have := small l.length (Nat.le_refl _) (fun q hq hk => n3 q (by omega) n2)
      rwa [List.take_length] at this
  · cases x with
    | inl _ => exact .some ⟨⟨Nat.le_refl _, hp, hx⟩, fun x hx => ⟨x, hx, rfl⟩⟩
    | inr r => exact .some hx
end
end Go.Eng

/-
Twins: names of properties, sorted, each once.
-/
namespace Go.Eng
open Go
set_option linter.unusedVariables false
set_option linter.unusedSimpArgs false

section
variable {α : Type}
theorem mem_swap {l : List α} {j : Nat} (h : 0 < j) (hj : j < l.length) {x : α} (hx : x ∈ l) : x ∈ (l.set j (l[j - 1]'(by omega))).set (j - 1) l[j] := by
  obtain ⟨k, hk, rfl⟩ := List.mem_iff_getElem.1 hx
  by_cases e1 : k = j
  · subst e1
    exact List.mem_iff_getElem.2 ⟨k - 1, by simp; omega, by simp⟩
  · by_cases e2 : k = j - 1
    · subst e2
      refine List.mem_iff_getElem.2 ⟨j, by simp; omega, ?_⟩
      rw [List.getElem_set_ne (by omega)]
      simp
    · refine List.mem_iff_getElem.2 ⟨k, by simp; omega, ?_⟩
      rw [List.getElem_set_ne (by omega), List.getElem_set_ne (by omega)]
theorem gI2_mem {P : α → Prop} {f : α → α → Int} {c : α → α → Option Int} (hc : ∀ x y, P x → P y → c x y = some (f x y)) {n : Nat} (hn : n ≤ 100000) {l0 l : List α} (hl : l.length = n) (hP : All P l) (h0 : ∀ x ∈ l0, x ∈ l) {i : Nat} (hi : i < n) :
    Ok (loopO (gI2 c 0) (l, (i : Int))) (fun r => r.length = n ∧ All P r ∧ ∀ x ∈ l0, x ∈ r) := by
  refine loop_ok (fun s : List α × Int => s.1.length = n ∧ All P s.1 ∧ (∀ x ∈ l0, x ∈ s.1) ∧ ∃ j : Nat, s.2 = (j : Int) ∧ j ≤ i) (fun s => s.2.toNat) ?_ ⟨hl, hP, h0, i, rfl, Nat.le_refl _⟩
  rintro ⟨m, q⟩ ⟨m1, m2, m3, j, rfl, j1⟩
  simp only at m1 m2 m3
  unfold gI2 gI3
  by_cases hj : (0 : Int) < j
  · have w1 : IntKind.wrap .i64 ((j : Int) - 1) = ((j - 1 : Nat) : Int) := by rw [wrap64 (by omega) (by omega)]; omega
    have hjm : j < m.length := by omega
    have hjm1 : j - 1 < m.length := by omega
    have hy := m2 _ (List.getElem_mem hjm)
    have hx := m2 _ (List.getElem_mem hjm1)
    simp only [hj, decide_true, cond_true, w1, at_nat hjm, at_nat hjm1, Option.bind_some, hc _ _ hy hx]
    refine .cond (fun hlt => ?_) (fun hge => ?_)
    · have g3 : at? (m.set (j : Int).toNat m[j - 1]) ((j - 1 : Nat) : Int) = some m[j - 1] := by
        rw [at_nat (by simp; omega)]
        simp only [Int.toNat_natCast, List.getElem_set]
        rw [if_neg (by omega)]
      rw [g3]
      simp only [Option.bind_some, Int.toNat_natCast]
      exact .some ⟨⟨by simp [m1], (m2.set hx).set hy, fun x hx => mem_swap (by omega) hjm (m3 x hx), j - 1, rfl, by omega⟩, by simp only; omega⟩
    · exact .some ⟨m1, m2, m3⟩
  · have hj' : ¬ (0 : Int) < j := hj
    simp only [hj', decide_false, cond_false, Option.bind_some]
    exact .some ⟨m1, m2, m3⟩
theorem gI_mem {P : α → Prop} {f : α → α → Int} {c : α → α → Option Int} (hc : ∀ x y, P x → P y → c x y = some (f x y)) {l : List α} (hl : l.length ≤ 100000) (hP : All P l) : Ok (gI c l 0 l.length) (fun r => ∀ x ∈ l, x ∈ r) := by
  unfold gI
  have w : IntKind.wrap .i64 ((0 : Int) + 1) = 1 := by decide
  rw [w]
  refine Ok.bind (P := fun r : List α => ∀ x ∈ l, x ∈ r) (loop_ok (fun s : List α × Int => s.1.length = l.length ∧ All P s.1 ∧ (∀ x ∈ l, x ∈ s.1) ∧ ∃ i : Nat, s.2 = (i : Int)) (fun s => ((l.length : Int) - s.2).toNat) ?_
    ⟨rfl, hP, fun x h => h, 1, rfl⟩) fun r hr => .some hr
  rintro ⟨m, q⟩ ⟨m1, m2, m3, i, rfl⟩
  simp only at m1 m2 m3
  unfold gI1
  by_cases hi : i < l.length
  · have hi' : (i : Int) < l.length := by omega
    have w1 : IntKind.wrap .i64 ((i : Int) + 1) = ((i + 1 : Nat) : Int) := by rw [wrap64 (by omega) (by omega)]; omega
    simp only [hi', decide_true, cond_true]
    refine (gI2_mem hc (n := l.length) hl m1 m2 m3 hi).bind fun r hr => ?_
    rw [w1]
    exact .some ⟨⟨hr.1, hr.2.1, hr.2.2, i + 1, rfl⟩, by simp only; omega⟩
  · have hi' : ¬ (i : Int) < l.length := by omega
    simp only [hi', decide_false, cond_false]
    exact .some m3
theorem Ok.and {f : Option α} {P Q : α → Prop} (h1 : Ok f P) (h2 : Ok f Q) : Ok f (fun r => P r ∧ Q r) := by
  obtain ⟨r, e1, p1⟩ := h1
  obtain ⟨s, e2, p2⟩ := h2
  rw [e1] at e2
  obtain rfl := Option.some.inj e2
  exact ⟨r, e1, p1, p2⟩
end

/-! ### Sorting of strings -/
def cmpS (x y : List UInt8) : Option Int := some (Lib.compareBytes x y)
theorem Less_eq (x y : List UInt8) : cmp_Less_string x y = some (decide (Lib.compareBytes x y < 0)) := by
  unfold cmp_Less_string cmp_Less_string_x1 cmp_isNaN_string
  simp only [Option.bind_some, decide_true, Bool.not_true, cond_false, cmpB_less]
theorem ins3_eq : slices_insertionSortOrdered_string_o0_x3 = gI3 cmpS := by
  funext qa l j
  unfold slices_insertionSortOrdered_string_o0_x3 gI3
  simp only [Less_eq, cmpS, Option.bind_some]
theorem ins2_eq : slices_insertionSortOrdered_string_o0_x2 = gI2 cmpS := by
  funext qa ⟨l, j⟩
  unfold slices_insertionSortOrdered_string_o0_x2 gI2
  rw [ins3_eq]
theorem ins1_eq : slices_insertionSortOrdered_string_o0_x1 = gI1 cmpS := by
  funext qa qb ⟨l, j⟩
  unfold slices_insertionSortOrdered_string_o0_x1 gI1
  rw [ins2_eq]
theorem ins_eq : slices_insertionSortOrdered_string_o0 = gI cmpS := by
  funext l qa qb
  unfold slices_insertionSortOrdered_string_o0 gI
  rw [ins1_eq]
def InN (n : List UInt8) : Prop := n ∈ nm7
theorem bitLen12 (n : Nat) (h : n ≤ 12) : Ok (bits_Len (IntKind.wrap .u64 (n : Int))) (fun _ => True) := by
  match n, h with
  | 0, _ => exact ⟨0, by kernel_rfl, trivial⟩
  | 1, _ => exact ⟨1, by kernel_rfl, trivial⟩
  | 2, _ => exact ⟨2, by kernel_rfl, trivial⟩
  | 3, _ => exact ⟨2, by kernel_rfl, trivial⟩
  | 4, _ => exact ⟨3, by kernel_rfl, trivial⟩
  | 5, _ => exact ⟨3, by kernel_rfl, trivial⟩
  | 6, _ => exact ⟨3, by kernel_rfl, trivial⟩
  | 7, _ => exact ⟨3, by kernel_rfl, trivial⟩
  | 8, _ => exact ⟨4, by kernel_rfl, trivial⟩
  | 9, _ => exact ⟨4, by kernel_rfl, trivial⟩
  | 10, _ => exact ⟨4, by kernel_rfl, trivial⟩
  | 11, _ => exact ⟨4, by kernel_rfl, trivial⟩
  | 12, _ => exact ⟨4, by kernel_rfl, trivial⟩
theorem sortS_ok {P : List UInt8 → Prop} {l : List (List UInt8)} (hl : l.length ≤ 12) (hP : All P l) : Ok (slices_Sort_string_string_o0 l) (fun r => (r.length = l.length ∧ All P r ∧ Ord (fun x y => Lib.compareBytes x y) r l.length) ∧ ∀ x ∈ l, x ∈ r) := by
  unfold slices_Sort_string_string_o0
  refine (bitLen12 l.length hl).bind fun b _ => ?_
  have hI := (gI_ord (P := P) (f := fun x y => Lib.compareBytes x y) (c := cmpS) (fun _ _ _ _ => rfl) (fun x y => cmpB_anti _ _) (fun x y z => cmpB_tr) (l := l) (by omega) hP).and (gI_mem (P := P) (f := fun x y => Lib.compareBytes x y) (c := cmpS) (fun _ _ _ _ => rfl) (l := l) (by omega) hP)
  obtain ⟨r, h1, h2⟩ := hI
  have e : slices_pdqsortOrdered_string_o0 l 0 l.length b = some r := by
    unfold slices_pdqsortOrdered_string_o0
    have : loopO (slices_pdqsortOrdered_string_o0_x1 l 0 (l.length : Int) b) () = some r := by
      refine loop_out ?_
      unfold slices_pdqsortOrdered_string_o0_x1
      have w : IntKind.wrap .i64 ((l.length : Int) - 0) = l.length := by rw [wrap64 (by omega) (by omega)]; omega
      have hc : (l.length : Int) ≤ 12 := by omega
      rw [w, ins_eq, h1]
      simp only [hc, decide_true, cond_true, Option.bind_some, gd, h2.1.1, beq_self_eq_true]
    rw [this]; rfl
  rw [e]
  simp only [Option.bind_some]
  exact .gd (by simp [h2.1.1]) (.some h2)
theorem comS_eq : slices_Compact_string_string_o0 = gCom (fun a b => some (decide (a = b))) [] := by kernel_rfl

/-! ### Names -/
theorem foldl_app {α β : Type} (f : α → β) : ∀ (l : List α) (s : List β), l.foldl (fun s c => s ++ [f c]) s = s ++ l.map f
  | [], s => by simp
  | x :: l, s => by rw [List.foldl_cons, foldl_app f l]; simp
theorem names2_eq {a : List api_Prop} {s : List (List UInt8)} (h : a.length + s.length ≤ 10000) : loopO (twin_names_o0_x2 a) (s, 0) = some (s ++ a.map api_Prop.Name) := by
  have := fold_loop0 (l := a) (f := twin_names_o0_x2 a) (fun (s : List (List UInt8)) i => (s, i)) (fun s c => s ++ [c.Name]) id (fun i m => m.length ≤ s.length + i) (s0 := s) (by omega)
    (fun i hi m hm => by
      have hc : (i : Int) < a.length := by omega
      refine ⟨?_, by simp; omega⟩
      unfold twin_names_o0_x2
      simp only [hc, decide_true, cond_true, at_nat hi, Option.bind_some, gd]
      rw [lim_ok (by simp; omega)]
      rfl)
    (fun s _ => by unfold twin_names_o0_x2; simp) (by simp)
  rw [this.1, foldl_app]
  rfl
end Go.Eng

/-
Twins: what is owed.
-/
namespace Go.Eng
open Go
set_option linter.unusedVariables false
set_option linter.unusedSimpArgs false

/-! ### Values of names -/
def zV : api_Value := api_Value.mk 0 false 0 []
def vo (l : List api_Prop) (n : List UInt8) : api_Value := match l.find? fun p => decide (p.Name = n) with | some p => p.Value | none => zV
theorem vo_mem {l : List api_Prop} (hs : PSrt l) {p : api_Prop} (hp : p ∈ l) : vo l p.Name = p.Value := by
  unfold vo
  cases h : l.find? fun q => decide (q.Name = p.Name) with
  | none =>
    have := List.find?_eq_none.1 h p hp
    simp at this
  | some q =>
    have h1 : q.Name = p.Name := by simpa using List.find?_some h
    have h2 := List.mem_of_find?_eq_some h
    simp only
    obtain ⟨i, hi, rfl⟩ := List.mem_iff_getElem.1 hp
    obtain ⟨j, hj, rfl⟩ := List.mem_iff_getElem.1 h2
    rcases Nat.lt_trichotomy i j with h3 | h3 | h3
    · have := (List.pairwise_iff_getElem.1 hs) i j hi hj h3
      rw [h1] at this
      exact absurd this (nlt_irrefl _)
    · subst h3; rfl
    · have := (List.pairwise_iff_getElem.1 hs) j i hj hi h3
      rw [h1] at this
      exact absurd this (nlt_irrefl _)
theorem vo_none {l : List api_Prop} {n : List UInt8} (h : ∀ p ∈ l, p.Name ≠ n) : vo l n = zV := by
  unfold vo
  have : (l.find? fun p => decide (p.Name = n)) = none := List.find?_eq_none.2 fun p hp => by simpa using h p hp
  rw [this]
theorem vo_cases {l : List api_Prop} (hs : PSrt l) (n : List UInt8) : (∃ p ∈ l, p.Name = n ∧ vo l n = p.Value) ∨ ((∀ p ∈ l, p.Name ≠ n) ∧ vo l n = zV) := by
  by_cases h : ∃ p ∈ l, p.Name = n
  · obtain ⟨p, hp, rfl⟩ := h
    exact .inl ⟨p, hp, rfl, vo_mem hs hp⟩
  · have h2 : ∀ p ∈ l, p.Name ≠ n := fun p hp e => h ⟨p, hp, e⟩
    exact .inr ⟨h2, vo_none h2⟩
theorem valueOf_eq {l : List api_Prop} (hs : PSrt l) (hl : l.length ≤ 10000) (n : List UInt8) : twin_valueOf l n = some (vo l n) := by
  unfold twin_valueOf
  rcases find_eq hs hl n with ⟨h1, h2⟩ | ⟨i, hi, h1, h2⟩
  · rw [h1, vo_none h2]; rfl
  · have h0 : (0 : Int) ≤ (i : Int) := by omega
    rw [h1]
    simp only [Option.bind_some, h0, decide_true, cond_true, at_nat hi]
    have := vo_mem hs (List.getElem_mem hi)
    rw [h2] at this
    rw [this]

/-! ### What is visible -/
theorem up_len {α : Type} (f : α → Int) : ∀ {l : List α} {lo hi : Int}, l.Pairwise (fun x y => f x < f y) → (∀ x ∈ l, lo ≤ f x ∧ f x ≤ hi) → lo ≤ hi + 1 → (l.length : Int) ≤ hi - lo + 1
  | [], lo, hi, _, _, h => by simp; omega
  | x :: l, lo, hi, hp, hb, h => by
    obtain ⟨h1, h2⟩ := List.pairwise_cons.1 hp
    have h3 := hb x (List.mem_cons_self ..)
    have := up_len f (l := l) (lo := f x + 1) (hi := hi) h2 (fun y hy => ⟨by have := h1 y hy; omega, (hb y (List.mem_cons_of_mem _ hy)).2⟩) (by omega)
    simp only [List.length_cons]
    omega
/-! ### What is gone -/
def eqV (a b : api_Value) : Bool := (decide (a.Kind = b.Kind) && ((a.Flag == b.Flag) && (decide (a.Number = b.Number) && (decide (a.Words = b.Words) && true))))
theorem eqV_iff {a b : api_Value} : eqV a b = true ↔ a = b := veq_iff
end Go.Eng

/-
Lists of properties that streams make: they are right.
-/
namespace Go.Eng
open Go
set_option linter.unusedVariables false
set_option linter.unusedSimpArgs false

/-! ### Sorting keeps what there is -/
section
variable {α : Type}
theorem swap_pm {l : List α} {j : Nat} (h : 0 < j) (hj : j < l.length) : ((l.set j (l[j - 1]'(by omega))).set (j - 1) l[j]).Perm l := by
  have h1 := Array.swap_perm (xs := l.toArray) (i := j) (j := j - 1) (by simpa using hj) (by simp; omega)
  have h2 := Array.perm_iff_toList_perm.1 h1
  simpa [Array.swap] using h2
theorem gI2_pm {P : α → Prop} {f : α → α → Int} {c : α → α → Option Int} (hc : ∀ x y, P x → P y → c x y = some (f x y)) {n : Nat} (hn : n ≤ 100000) {l0 l : List α} (hl : l.length = n) (hP : All P l) (h0 : l.Perm l0) {i : Nat} (hi : i < n) :
    Ok (loopO (gI2 c 0) (l, (i : Int))) (fun r => r.length = n ∧ All P r ∧ r.Perm l0) := by
  refine loop_ok (fun s : List α × Int => s.1.length = n ∧ All P s.1 ∧ s.1.Perm l0 ∧ ∃ j : Nat, s.2 = (j : Int) ∧ j ≤ i) (fun s => s.2.toNat) ?_ ⟨hl, hP, h0, i, rfl, Nat.le_refl _⟩
  rintro ⟨m, q⟩ ⟨m1, m2, m3, j, rfl, j1⟩
  simp only at m1 m2 m3
  unfold gI2 gI3
  by_cases hj : (0 : Int) < j
  · have w1 : IntKind.wrap .i64 ((j : Int) - 1) = ((j - 1 : Nat) : Int) := by rw [wrap64 (by omega) (by omega)]; omega
    have hjm : j < m.length := by omega
    have hjm1 : j - 1 < m.length := by omega
    have hy := m2 _ (List.getElem_mem hjm)
    have hx := m2 _ (List.getElem_mem hjm1)
    simp only [hj, decide_true, cond_true, w1, at_nat hjm, at_nat hjm1, Option.bind_some, hc _ _ hy hx]
    refine .cond (fun hlt => ?_) (fun hge => ?_)
    · have g3 : at? (m.set (j : Int).toNat m[j - 1]) ((j - 1 : Nat) : Int) = some m[j - 1] := by
        rw [at_nat (by simp; omega)]
        simp only [Int.toNat_natCast, List.getElem_set]
        rw [if_neg (by omega)]
      rw [g3]
      simp only [Option.bind_some, Int.toNat_natCast]
      exact .some ⟨⟨by simp [m1], (m2.set hx).set hy, (swap_pm (by omega) hjm).trans m3, j - 1, rfl, by omega⟩, by simp only; omega⟩
    · exact .some ⟨m1, m2, m3⟩
  · have hj' : ¬ (0 : Int) < j := hj
    simp only [hj', decide_false, cond_false, Option.bind_some]
    exact .some ⟨m1, m2, m3⟩
theorem gI_pm {P : α → Prop} {f : α → α → Int} {c : α → α → Option Int} (hc : ∀ x y, P x → P y → c x y = some (f x y)) {l : List α} (hl : l.length ≤ 100000) (hP : All P l) : Ok (gI c l 0 l.length) (fun r => r.Perm l) := by
  unfold gI
  have w : IntKind.wrap .i64 ((0 : Int) + 1) = 1 := by decide
  rw [w]
  refine Ok.bind (P := fun r : List α => r.Perm l) (loop_ok (fun s : List α × Int => s.1.length = l.length ∧ All P s.1 ∧ s.1.Perm l ∧ ∃ i : Nat, s.2 = (i : Int)) (fun s => ((l.length : Int) - s.2).toNat) ?_
    ⟨rfl, hP, List.Perm.refl _, 1, rfl⟩) fun r hr => .some hr
  rintro ⟨m, q⟩ ⟨m1, m2, m3, i, rfl⟩
  simp only at m1 m2 m3
  unfold gI1
  by_cases hi : i < l.length
  · have hi' : (i : Int) < l.length := by omega
    have w1 : IntKind.wrap .i64 ((i : Int) + 1) = ((i + 1 : Nat) : Int) := by rw [wrap64 (by omega) (by omega)]; omega
    simp only [hi', decide_true, cond_true]
    refine (gI2_pm hc (n := l.length) hl m1 m2 m3 hi).bind fun r hr => ?_
    rw [w1]
    exact .some ⟨⟨hr.1, hr.2.1, hr.2.2, i + 1, rfl⟩, by simp only; omega⟩
  · have hi' : ¬ (i : Int) < l.length := by omega
    simp only [hi', decide_false, cond_false]
    exact .some m3
end
def cmpP (x y : api_Prop) : Option Int := some (Lib.compareBytes x.Name y.Name)
theorem insP_eq : slices_insertionSortCmpFunc_api_Prop_o0_f3_fleetmake_propOrder = gI cmpP := by kernel_rfl
def POrd (l : List api_Prop) : Prop := Ord (fun x y : api_Prop => Lib.compareBytes x.Name y.Name) l l.length
theorem sortP_ok {l : List api_Prop} (hl : l.length ≤ 12) : Ok (slices_SortFunc_api_Prop_api_Prop_o0_f1_fleetmake_propOrder l) (fun r => r.Perm l ∧ POrd r) := by
  unfold slices_SortFunc_api_Prop_api_Prop_o0_f1_fleetmake_propOrder
  refine (bitLen12 l.length hl).bind fun b _ => ?_
  have hP : All (fun _ : api_Prop => True) l := fun _ _ => trivial
  have hI := (gI_ord (P := fun _ => True) (f := fun x y : api_Prop => Lib.compareBytes x.Name y.Name) (c := cmpP) (fun _ _ _ _ => rfl) (fun x y => cmpB_anti _ _) (fun x y z => cmpB_tr) (l := l) (by omega) hP).and (gI_pm (P := fun _ => True) (f := fun x y : api_Prop => Lib.compareBytes x.Name y.Name) (c := cmpP) (fun _ _ _ _ => rfl) (l := l) (by omega) hP)
  obtain ⟨r, h1, ⟨h2, h3, h4⟩, h5⟩ := hI
  have e : slices_pdqsortCmpFunc_api_Prop_o0_f4_fleetmake_propOrder l 0 l.length b = some r := by
    unfold slices_pdqsortCmpFunc_api_Prop_o0_f4_fleetmake_propOrder
    have : loopO (slices_pdqsortCmpFunc_api_Prop_o0_f4_fleetmake_propOrder_x1 l 0 (l.length : Int) b) () = some r := by
      refine loop_out ?_
      unfold slices_pdqsortCmpFunc_api_Prop_o0_f4_fleetmake_propOrder_x1
      have w : IntKind.wrap .i64 ((l.length : Int) - 0) = l.length := by rw [wrap64 (by omega) (by omega)]; omega
      have hc : (l.length : Int) ≤ 12 := by omega
      rw [w, insP_eq, h1]
      simp only [hc, decide_true, cond_true, Option.bind_some, gd, h2, beq_self_eq_true]
    rw [this]; rfl
  rw [e]
  simp only [Option.bind_some]
  refine .gd (by simp [h2]) (.some ⟨h5, ?_⟩)
  unfold POrd
  rw [h2]
  exact h4
/-- sorted, and each name once -/
theorem psrt_of {l : List api_Prop} (h : POrd l) (hn : (l.map api_Prop.Name).Nodup) : PSrt l := by
  unfold PSrt
  rw [List.pairwise_iff_getElem]
  intro i j hi hj hij
  have h1 := h i j hij hj (Nat.le_refl _)
  rcases cmpB_cases l[i].Name l[j].Name with h2 | h2 | h2
  · exact h2
  · have := (List.pairwise_iff_getElem.1 hn) i j (by simpa using hi) (by simpa using hj) hij
    simp at this
    exact absurd h2 this
  · unfold nlt at h2
    have := cmpB_anti l[i].Name l[j].Name
    simp only at h1
    omega
theorem psrt_names {l : List api_Prop} (h : PSrt l) : (l.map api_Prop.Name).Nodup := by
  unfold List.Nodup
  rw [List.pairwise_map]
  exact h.imp fun hxy => nlt_ne hxy
theorem psrt_nodup {l : List api_Prop} (h : PSrt l) : l.Nodup := by
  unfold List.Nodup
  exact List.Pairwise.imp (fun hab e => nlt_ne hab (congrArg api_Prop.Name e)) h
theorem pext : ∀ {l m : List api_Prop}, PSrt l → PSrt m → (∀ p, p ∈ l ↔ p ∈ m) → l = m := by
  intro l m h1 h2 h
  have hp : l.Perm m := (List.perm_ext_iff_of_nodup (psrt_nodup h1) (psrt_nodup h2)).2 h
  exact List.Perm.eq_of_pairwise (le := fun x y : api_Prop => nlt x.Name y.Name) (fun a b _ _ hab hba => absurd hba (nlt_asymm hab)) h1 h2 hp

/-! ### Values and names -/
def rv15 : List api_Value := [api_Value.mk 1 false 0 [], api_Value.mk 1 true 0 [], api_Value.mk 3 false 0 [], api_Value.mk 3 false 0 [120], api_Value.mk 3 false 0 [97, 32, 34, 98, 34], api_Value.mk 3 false 0 [92],
  api_Value.mk 3 false 0 [195, 169], api_Value.mk 3 false 0 [45, 32, 49], api_Value.mk 2 false 1 [], api_Value.mk 2 false 2 [], api_Value.mk 2 false 3 [], api_Value.mk 2 false 0 [], api_Value.mk 2 false (-5) [], api_Value.mk 2 false 1000000000 []]
theorem rv_own : (rv15.all fun v => decide (twin_valueFault v = some 0) && !decide (v.Kind = 0)) = true := by kernel_rfl
theorem rv_ref : (rv15.all fun v => decide (fleetref2_ValueFault v = some 0)) = true := by kernel_rfl
theorem nm7_ref : (nm7.all fun n => decide (fleetref2_PropName n = some true)) = true := by kernel_rfl
theorem nm7_above : (nm7.all fun a => nm7.all fun b => decide (fleetref2_above a b = some (belB b a))) = true := by kernel_rfl
def RP (p : api_Prop) : Prop := p.Name ∈ nm7 ∧ p.Value ∈ rv15
theorem isName7 {n : List UInt8} (h : n ∈ nm7) : twin_isName n = some true := of_decide_eq_true (List.all_eq_true.1 nm7_ok _ h)
theorem RP.gp {p : api_Prop} (h : RP p) : GP p := by
  have := List.all_eq_true.1 rv_own _ h.2
  simp only [Bool.and_eq_true, decide_eq_true_eq, Bool.not_eq_true', decide_eq_false_iff_not] at this
  exact ⟨isName7 h.1, this.1, this.2⟩
theorem RP.len {p : api_Prop} (h : RP p) : (p.Name.length : Int) ≤ 9223372036854775807 := by
  have := of_decide_eq_true (List.all_eq_true.1 nm7_len _ h.1)
  omega
theorem RightValue_in {k : Nat} {s : fleetmake_Stream} (h : StrOk k s) (hk : k + 10 < 1099511627776) : Ok (fleetmake_Stream_RightValue s) (fun v => v ∈ rv15) := by
  unfold fleetmake_Stream_RightValue
  have h1 := nxt_mk h (by omega)
  refine (Next_ok h (by omega) (by unfold I64; omega)).bind fun n _ => .cond (fun _ => ?_) (fun _ => .cond (fun _ => ?_) (fun _ => ?_))
  · exact (Flip_ok h1 (by omega) (by unfold I64; omega)).bind fun b _ => .some (by cases b <;> simp [rv15])
  · refine (Some_ok h1 (by omega) (by simp) (by simp)).bind fun w hw => .some ?_
    simp at hw
    rcases hw with rfl | rfl | rfl | rfl | rfl | rfl <;> simp [rv15]
  · refine (Pick_ok h1 (by omega) (by simp) (by simp)).bind fun n hn => .some ?_
    simp at hn
    rcases hn with rfl | rfl | rfl | rfl | rfl | rfl | rfl <;> simp [rv15]

/-! ### The reference's check -/
theorem above7 {a b : List UInt8} (ha : a ∈ nm7) (hb : b ∈ nm7) : fleetref2_above a b = some (belB b a) := of_decide_eq_true (List.all_eq_true.1 (List.all_eq_true.1 nm7_above _ ha) _ hb)
theorem refC_eq {l : List api_Prop} (hl : l.length ≤ 1000) (hR : ∀ p ∈ l, RP p) {p : api_Prop} (hp : RP p) : slices_ContainsFunc_api_Prop_api_Prop_f1_fleetref2_PropsFault_1 l p = some (l.any fun q => belB p.Name q.Name) := by
  have h0 : slices_ContainsFunc_api_Prop_api_Prop_f1_fleetref2_PropsFault_1 l p = ((slices_IndexFunc_api_Prop_api_Prop_f1_fleetref2_PropsFault_1 l p).bind fun vr2 => some (decide (0 ≤ vr2))) := rfl
  rw [h0]
  unfold slices_IndexFunc_api_Prop_api_Prop_f1_fleetref2_PropsFault_1
  obtain ⟨x, h1, h2⟩ := find_loop (l := l) (f := slices_IndexFunc_api_Prop_api_Prop_f1_fleetref2_PropsFault_1_x1 l p) (fun q => belB p.Name q.Name) (by omega) (fun i h => by
    unfold slices_IndexFunc_api_Prop_api_Prop_f1_fleetref2_PropsFault_1_x1 fleetref2_PropsFault_1
    have hc : (i : Int) < l.length := by omega
    simp only [hc, decide_true, cond_true, at_nat h, Option.bind_some, above7 (hR _ (List.getElem_mem h)).1 hp.1]
    cases belB p.Name l[i].Name <;> rfl) (by unfold slices_IndexFunc_api_Prop_api_Prop_f1_fleetref2_PropsFault_1_x1; simp)
  rw [h1, ← h2]
  cases x <;> rfl
def Anti (l : List api_Prop) : Prop := ∀ p ∈ l, ∀ q ∈ l, belB p.Name q.Name = false
theorem refP_ok {l : List api_Prop} (hl : l.length ≤ 400) (hR : ∀ p ∈ l, RP p) : Ok (fleetref2_PropsFault l) (fun e => e = 0 → PSrt l ∧ Anti l) := by
  unfold fleetref2_PropsFault
  refine .cond (fun h => absurd (of_decide_eq_true h) (by omega)) fun _ => ?_
  have one : Ok (loopO (fleetref2_PropsFault_x1 l) 0) (fun r => match r with | .inl _ => PSrt l | .inr e => e ≠ 0) := by
    refine loop_ok (fun s : Int => ∃ i : Nat, s = (i : Int) ∧ i ≤ l.length ∧ ∀ j (h0 : 0 < j) (h : j < i) (hl : j < l.length), nlt (l[j - 1]'(by omega)).Name l[j].Name) (fun s => ((l.length : Int) - s).toNat) ?_ ⟨0, rfl, by omega, fun j h0 h => by omega⟩
    rintro _ ⟨i, rfl, i1, i2⟩
    unfold fleetref2_PropsFault_x1
    by_cases hi : i < l.length
    · have hc : (i : Int) < l.length := by omega
      have hp := hR _ (List.getElem_mem hi)
      have w1 : IntKind.wrap .i64 ((i : Int) + 1) = ((i + 1 : Nat) : Int) := by rw [wrap64 (by omega) (by omega)]; omega
      have e1 : fleetref2_PropName l[i].Name = some true := of_decide_eq_true (List.all_eq_true.1 nm7_ref _ hp.1)
      have e2 : fleetref2_ValueFault (api_Value.mk l[i].Value.Kind l[i].Value.Flag l[i].Value.Number l[i].Value.Words) = some 0 := of_decide_eq_true (List.all_eq_true.1 rv_ref _ hp.2)
      have e3 := hp.gp.2.2
      simp only [hc, decide_true, cond_true, at_nat hi, Option.bind_some, e1, e2, e3, Bool.not_true, cond_false, decide_false, w1]
      unfold fleetref2_PropsFault_x2
      cases i with
      | zero =>
        simp only [show ¬ (0 : Int) < ((0 : Nat) : Int) by omega, decide_false, cond_false, Option.bind_some]
        exact .some ⟨⟨1, rfl, by omega, fun j h0 h => by omega⟩, by omega⟩
      | succ i =>
        have hp0 : (0 : Int) < ((i + 1 : Nat) : Int) := by omega
        have w : IntKind.wrap .i64 (((i + 1 : Nat) : Int) - 1) = (i : Int) := by rw [wrap64 (by omega) (by omega)]; omega
        simp only [hp0, decide_true, cond_true, w, at_nat (show i < l.length by omega), Option.bind_some]
        refine .cond (fun _ => .some (by simp)) fun hlt => .some ⟨⟨i + 1 + 1, rfl, by omega, fun j h0 h hjl => ?_⟩, by omega⟩
        by_cases hj : j < i + 1
        · exact i2 j h0 hj hjl
        · have : j = i + 1 := by omega
          subst this
          simp only [Bool.or_eq_false_iff, cmpB_less, decide_eq_false_iff_not] at hlt
          show nlt l[i].Name l[i + 1].Name
          rcases cmpB_cases l[i].Name l[i + 1].Name with h2 | h2 | h2
          · exact h2
          · exact absurd h2.symm hlt.2
          · exact absurd h2 hlt.1
    · have hc : ¬ (i : Int) < l.length := by omega
      simp only [hc, decide_false, cond_false]
      refine .some ?_
      show PSrt l
      have key : ∀ (d j : Nat) (hj : j + d + 1 < l.length), nlt (l[j]'(by omega)).Name l[j + d + 1].Name := by
        intro d
        induction d with
        | zero =>
          intro j hj
          exact i2 (j + 1) (by omega) (by omega) (by omega)
        | succ d ih =>
          intro j hj
          exact nlt_trans (ih j (by omega)) (i2 (j + d + 2) (by omega) (by omega) (by omega))
      unfold PSrt
      rw [List.pairwise_iff_getElem]
      intro i j hi hj hij
      have := key (j - i - 1) i (by omega)
      simpa [show i + (j - i - 1) + 1 = j by omega] using this
  obtain ⟨r, h1, h2⟩ := one
  rw [h1]
  cases r with
  | inr e => exact .some fun h => absurd h h2
  | inl _ =>
    have h2 : PSrt l := h2
    simp only [Option.bind_some]
    rw [range_loop (l := l) (fun _ p => bif l.any (fun q => belB p.Name q.Name) then some (.inr ()) else none) (.inl ()) (by omega)]
    · cases hs : scan (fun _ p => bif l.any (fun q => belB p.Name q.Name) then some (.inr () : Unit ⊕ Unit) else none) 0 l with
      | some x =>
        have : x = .inr () := by
          have key : ∀ (m : List api_Prop) (k : Nat), scan (fun _ p => bif l.any (fun q => belB p.Name q.Name) then some (.inr () : Unit ⊕ Unit) else none) k m = some x → x = .inr () := by
            intro m
            induction m with
            | nil => intro k h; simp [scan] at h
            | cons y m ih =>
              intro k h
              simp only [scan] at h
              cases hb : l.any fun q => belB y.Name q.Name with
              | true => rw [hb] at h; simp at h; exact h.symm
              | false => rw [hb] at h; exact ih _ h
          exact key _ _ hs
        subst this
        exact .some fun h => by cases h
      | none =>
        refine .some fun _ => ⟨h2, fun p hp q hq => ?_⟩
        obtain ⟨i, hi, rfl⟩ := List.mem_iff_getElem.1 hp
        have := scan_none.1 hs i l[i] (List.getElem?_eq_getElem hi)
        cases hb : l.any fun q => belB l[i].Name q.Name with
        | true => rw [hb] at this; cases this
        | false =>
          have := List.any_eq_false.1 hb q hq
          simpa using this
    · intro i hi
      have hc : (i : Int) < l.length := by omega
      have hp := hR _ (List.getElem_mem hi)
      unfold fleetref2_PropsFault_x3
      have e : slices_ContainsFunc_api_Prop_api_Prop_f1_fleetref2_PropsFault_1 l (api_Prop.mk l[i].Name (api_Value.mk l[i].Value.Kind l[i].Value.Flag l[i].Value.Number l[i].Value.Words)) = some (l.any fun q => belB l[i].Name q.Name) := refC_eq (by omega) hR hp
      simp only [hc, decide_true, cond_true, at_nat hi, Option.bind_some, e]
      cases l.any (fun q => belB l[i].Name q.Name) <;> rfl
    · unfold fleetref2_PropsFault_x3; simp

/-! ### Right properties -/
structure GR (l : List api_Prop) : Prop where
  rp : ∀ p ∈ l, RP p
  srt : PSrt l
  anti : Anti l
def rk4 (n : List UInt8) : Int := if n = [97] then 1 else if n = [97, 46, 120] then 1 else if n = [97, 46, 120, 46, 112] then 1 else if n = [97, 46, 121] then 2 else if n = [97, 98] then 3 else 4
theorem rk4_up : (nm7.all fun n => nm7.all fun m => !decide (rk n < rk m) || (belB m n || decide (rk4 n < rk4 m))) = true := by decide
theorem rk4_range : (nm7.all fun n => decide (1 ≤ rk4 n) && decide (rk4 n ≤ 4)) = true := by decide
theorem GR.len {l : List api_Prop} (h : GR l) : l.length ≤ 4 := by
  have := up_len (fun p : api_Prop => rk4 p.Name) (l := l) (lo := 1) (hi := 4) (List.Pairwise.imp_of_mem (fun {p q} hp hq hpq => by
    have h1 := (rk_spec (h.rp p hp).1 (h.rp q hq).1).2.1.1 hpq
    have h2 := List.all_eq_true.1 (List.all_eq_true.1 rk4_up _ (h.rp p hp).1) _ (h.rp q hq).1
    simpa [h1, h.anti q hq p hp] using h2) h.srt) (fun p hp => by
    have := List.all_eq_true.1 rk4_range _ (h.rp p hp).1
    simpa using this) (by omega)
  omega
theorem GR.ok {l : List api_Prop} (h : GR l) : twin_CheckProps l = some 0 := by
  have := h.len
  exact props_ok (fun p hp => (h.rp p hp).gp) h.srt (by omega) (fun p hp => (h.rp p hp).len) h.anti
theorem RightProps_ok {k : Nat} {s : fleetmake_Stream} (h : StrOk k s) (hk : k + 100 < 1099511627776) : Ok (fleetmake_Stream_RightProps s) (fun r => StrOk (k + 60) r.1 ∧ GR r.2) := by
  unfold fleetmake_Stream_RightProps
  refine (Range_ok h (by omega) (by omega) (by omega)).bind fun ⟨s1, n⟩ ⟨r1, r2, r3, _⟩ => ?_
  simp only at r1 r2 r3
  have r3 := r3 (by omega)
  refine Ok.bind (P := fun q : fleetmake_Stream × List api_Prop => StrOk (k + 60) q.1 ∧ GR q.2) ?_ fun q hq => .some hq
  refine loop_ok (fun q : fleetmake_Stream × List api_Prop × Int => ∃ j : Nat, q.2.2 = (j : Int) ∧ (j : Int) ≤ 5 ∧ StrOk (k + 1 + 3 * j) q.1 ∧ GR q.2.1) (fun q => ((5 : Int) - q.2.2).toNat) ?_ ⟨0, rfl, by omega, by simpa using r1, ⟨(fun _ h => nomatch h), List.Pairwise.nil, (fun _ h => nomatch h)⟩⟩
  rintro ⟨s2, l, i⟩ ⟨j, rfl, j1, j2, j3⟩
  simp only at j2 j3
  unfold fleetmake_Stream_RightProps_x1
  refine .cond (fun hc => ?_) (fun hc => .some ⟨j2.mono (by omega), j3⟩)
  have hc : (j : Int) < n := by simpa using hc
  have hlen := j3.len
  have hx2 : Ok (fleetmake_Stream_RightProps_x2 s2 l) GR := by
    unfold fleetmake_Stream_RightProps_x2 slices_Clone_api_Prop_api_Prop
    have hb : Nat.ble (([] : List api_Prop).length + l.length) LIM = true := lim_ok (by simp; omega)
    rw [hb]
    simp only [gd, cond_true, Option.bind_some]
    refine (Some_ok j2 (by omega) (by simp) (by simp)).bind fun w hw => ?_
    have a1 := nxt_mk j2 (by omega)
    refine (RightValue_in a1 (by omega)).bind fun v hv => ?_
    have hw7 : w ∈ nm7 := by
      simp at hw
      rcases hw with rfl | rfl | rfl | rfl | rfl | rfl | rfl <;> decide
    rw [lim_ok (show (l.length + [api_Prop.mk w v].length) ≤ 100000 by simp; omega)]
    simp only [cond_true]
    refine (sortP_ok (by simp; omega)).bind fun r ⟨q1, q2⟩ => ?_
    have hr : ∀ p ∈ r, RP p := by
      intro p hp
      rcases List.mem_append.1 (q1.mem_iff.1 hp) with hp | hp
      · exact j3.rp p hp
      · rw [List.mem_singleton] at hp; subst hp; exact ⟨hw7, hv⟩
    have hlr : r.length = (l ++ [api_Prop.mk w v]).length := q1.length_eq
    rw [hlr]
    simp only [beq_self_eq_true, cond_true]
    refine (refP_ok (by rw [hlr]; simp; omega) hr).bind fun e he => .cond (fun h0 => .some ⟨hr, ?_, ?_⟩) fun _ => .some j3
    · exact (he (of_decide_eq_true h0)).1
    · exact (he (of_decide_eq_true h0)).2
  refine hx2.bind fun m hm => ?_
  have w1 : IntKind.wrap .i64 ((j : Int) + 1) = ((j + 1 : Nat) : Int) := by rw [wrap64 (by omega) (by omega)]; omega
  refine .some ⟨⟨j + 1, w1, by omega, (nxt_mk (nxt_mk (nxt_mk j2 (by omega)) (by omega)) (by omega)).mono (by omega), hm⟩, ?_⟩
  show ((5 : Int) - IntKind.wrap .i64 ((j : Int) + 1)).toNat < _
  rw [w1]; simp only; omega
end Go.Eng

/-
Changes of properties: what makes one list of another, and back; what two sides made of one base.
-/
namespace Go.Eng
open Go
set_option linter.unusedVariables false
set_option linter.unusedSimpArgs false

theorem vo_iff {l : List api_Prop} (hs : PSrt l) {p : api_Prop} (hk : p.Value.Kind ≠ 0) : p ∈ l ↔ vo l p.Name = p.Value := by
  constructor
  · exact vo_mem hs
  · intro h
    rcases vo_cases hs p.Name with ⟨q, hq, e1, e2⟩ | ⟨_, e2⟩
    · have : q = p := by
        obtain ⟨n1, v1⟩ := p
        obtain ⟨n2, v2⟩ := q
        simp only at e1 e2 h
        rw [e1, ← e2.symm.trans h.symm.symm]
      rw [← this]; exact hq
    · rw [e2] at h
      rw [← h] at hk
      exact absurd rfl hk
theorem vo_rv {l : List api_Prop} (h : GR l) (n : List UInt8) : vo l n ∈ rv15 ∨ vo l n = zV := by
  rcases vo_cases h.srt n with ⟨q, hq, e1, e2⟩ | ⟨_, e2⟩
  · rw [e2]; exact .inl (h.rp q hq).2
  · exact .inr e2
theorem vo_fault {l : List api_Prop} (h : GR l) (n : List UInt8) : twin_valueFault (vo l n) = some 0 := by
  rcases vo_rv h n with h | h
  · have := List.all_eq_true.1 rv_own _ h
    simp only [Bool.and_eq_true, decide_eq_true_eq] at this
    exact this.1
  · rw [h]; exact fault_none
theorem GR.kind {l : List api_Prop} (h : GR l) : ∀ p ∈ l, p.Value.Kind ≠ 0 := fun p hp => (h.rp p hp).gp.2.2

/-! ### Names of several lists -/
theorem namesL_ok {Ls : List (List api_Prop)} (hLs : Ls.length ≤ 100) (hl : (Ls.flatMap (List.map api_Prop.Name)).length ≤ 12) (hn : ∀ l ∈ Ls, ∀ p ∈ l, p.Name ∈ nm7) :
    ∃ r, twin_names_o0 Ls = some r ∧ r.length ≤ (Ls.flatMap (List.map api_Prop.Name)).length ∧ r.Pairwise nlt ∧ (∀ n, n ∈ r ↔ ∃ l ∈ Ls, ∃ p ∈ l, p.Name = n) := by
  have hmem : ∀ n, n ∈ Ls.flatMap (List.map api_Prop.Name) ↔ ∃ l ∈ Ls, ∃ p ∈ l, p.Name = n := by
    intro n
    simp only [List.mem_flatMap, List.mem_map]
  have hin : All (fun n => InN n ∧ n ∈ Ls.flatMap (List.map api_Prop.Name)) (Ls.flatMap (List.map api_Prop.Name)) := by
    intro n hn'
    refine ⟨?_, hn'⟩
    obtain ⟨l, hl, p, hp, rfl⟩ := (hmem n).1 hn'
    exact hn l hl p hp
  have e : loopO (twin_names_o0_x1 Ls) ([], 0) = some (Ls.flatMap (List.map api_Prop.Name)) := by
    have := fold_loop0 (l := Ls) (f := twin_names_o0_x1 Ls) (fun (s : List (List UInt8)) i => (s, i)) (fun s a => s ++ a.map api_Prop.Name) id (fun i s => s.length + ((Ls.drop i).flatMap (List.map api_Prop.Name)).length ≤ 12) (s0 := []) (by omega)
      (fun i hi s hs => by
        have hc : (i : Int) < Ls.length := by omega
        rw [List.drop_eq_getElem_cons hi, List.flatMap_cons, List.length_append, List.length_map] at hs
        refine ⟨?_, by rw [List.length_append, List.length_map]; omega⟩
        unfold twin_names_o0_x1
        simp only [hc, decide_true, cond_true, at_nat hi, Option.bind_some]
        rw [names2_eq (by omega)]
        rfl)
      (fun s _ => by unfold twin_names_o0_x1; simp) (by simpa using hl)
    rw [this.1]
    have key : ∀ (m : List (List api_Prop)) (s : List (List UInt8)), m.foldl (fun s a => s ++ a.map api_Prop.Name) s = s ++ m.flatMap (List.map api_Prop.Name) := by
      intro m
      induction m with
      | nil => intro s; simp
      | cons y m ih => intro s; rw [List.foldl_cons, ih, List.flatMap_cons, List.append_assoc]
    rw [key]
    rfl
  generalize Ls.flatMap (List.map api_Prop.Name) = N at hl hmem hin e
  obtain ⟨m, m0, ⟨m1, m2, m3⟩, m4⟩ := sortS_ok hl hin
  obtain ⟨r, r0, ⟨r1, r2, r3⟩, r4⟩ := gCom_key2 (P := fun n => InN n ∧ n ∈ N) (t := fun a b => some (decide (a = b))) (kf := rk) (fun x y hx hy => ⟨_, rfl, by rw [decide_eq_true_iff]; exact (rk_spec hx.1 hy.1).2.2.symm⟩) (z := []) (l := m) (by omega) m2 (fun p q hpq hq =>
    (rk_spec (m2 _ (List.getElem_mem (show p < m.length by omega))).1 (m2 _ (List.getElem_mem hq)).1).1.1 (m3 p q hpq (by omega) (by omega)))
  refine ⟨r, ?_, by omega, ?_, fun n => ?_⟩
  · unfold twin_names_o0
    rw [e]
    simp only [Option.bind_some, m0, comS_eq]
    rw [show (m.length == N.length) = true by simp [m1]]
    simp only [gd, r0, Option.bind_some, cond_true]
  · refine List.Pairwise.imp_of_mem ?_ r3
    intro x y hx hy hxy
    exact (rk_spec (r2 x hx).1 (r2 y hy).1).2.1.2 hxy
  · rw [← hmem]
    refine ⟨fun h => (r2 n h).2, fun h => ?_⟩
    obtain ⟨y, y1, y2⟩ := r4 n (m4 n h)
    have : y = n := (rk_spec (r2 y y1).1 (hin n h).1).2.2.1 y2
    rw [← this]; exact y1
theorem next_ {l m : List (List UInt8)} (h1 : l.Pairwise nlt) (h2 : m.Pairwise nlt) (h : ∀ n, n ∈ l ↔ n ∈ m) : l = m := by
  have nd : ∀ {l : List (List UInt8)}, l.Pairwise nlt → l.Nodup := fun h => by
    unfold List.Nodup
    exact List.Pairwise.imp (fun hab => nlt_ne hab) h
  exact List.Perm.eq_of_pairwise (le := nlt) (fun a b _ _ hab hba => absurd hba (nlt_asymm hab)) h1 h2 ((List.perm_ext_iff_of_nodup (nd h1) (nd h2)).2 h)

/-! ### Changes -/
structure CH (a b : List api_Prop) (C : List api_Change) : Prop where
  srt : C.Pairwise fun x y => nlt x.Name y.Name
  nm : ∀ c ∈ C, c.Name ∈ nm7
  frm : ∀ c ∈ C, c.From = vo a c.Name
  to_ : ∀ c ∈ C, c.To = vo b c.Name
  ne : ∀ c ∈ C, vo a c.Name ≠ vo b c.Name
  all : ∀ n, vo a n ≠ vo b n → ∃ c ∈ C, c.Name = n
  len : C.length ≤ 8
theorem CH.check {a b : List api_Prop} {l : List api_Change} (h : CH a b l) (ha : GR a) (hb : GR b) : twin_CheckChanges l = some 0 := by
  have l1 := h.len
  unfold twin_CheckChanges
  have : ¬ (1000 : Int) < l.length := by omega
  simp only [this, decide_false, cond_false]
  rw [range_loop (l := l) (fun _ _ => none) (.inl ()) (by omega)]
  · have : ∀ (k : Nat) (m : List api_Change), scan (fun (_ : Nat) (_ : api_Change) => (none : Option (Unit ⊕ Int))) k m = none := fun k m => scan_none.2 fun _ _ _ => rfl
    rw [this]; rfl
  · intro i hi
    have hm := List.getElem_mem hi
    have hc : (i : Int) < l.length := by omega
    have h2' : twin_valueFault (api_Value.mk l[i].From.Kind l[i].From.Flag l[i].From.Number l[i].From.Words) = some 0 := (congrArg twin_valueFault (h.frm _ hm)).trans (vo_fault ha _)
    have h3' : twin_valueFault (api_Value.mk l[i].To.Kind l[i].To.Flag l[i].To.Number l[i].To.Words) = some 0 := (congrArg twin_valueFault (h.to_ _ hm)).trans (vo_fault hb _)
    have h4 : eqV l[i].From l[i].To = false := by
      rw [Bool.eq_false_iff]
      intro e
      have := eqV_iff.1 e
      rw [h.frm _ hm, h.to_ _ hm] at this
      exact h.ne _ hm this
    have hx2 : twin_CheckChanges_x2 l i l[i] = some false := by
      unfold twin_CheckChanges_x2
      cases i with
      | zero => simp
      | succ i =>
        have hp : (0 : Int) < ((i + 1 : Nat) : Int) := by omega
        have w : IntKind.wrap .i64 (((i + 1 : Nat) : Int) - 1) = (i : Int) := by rw [wrap64 (by omega) (by omega)]; omega
        simp only [hp, decide_true, cond_true, w, at_nat (show i < l.length by omega), Option.bind_some]
        congr 1
        have g1 : nlt (l[i]'(by omega)).Name l[i + 1].Name := (List.pairwise_iff_getElem.1 h.srt) i (i + 1) (by omega) hi (by omega)
        rw [cmpB_less]
        have g2 := nlt_asymm g1
        have g3 := nlt_ne g1
        unfold nlt at g2
        simp only [Bool.or_eq_false_iff, decide_eq_false_iff_not]
        exact ⟨g2, fun e => g3 e.symm⟩
    unfold eqV at h4
    unfold twin_CheckChanges_x1
    simp only [hc, decide_true, cond_true, at_nat hi, Option.bind_some, isName7 (h.nm _ hm), Bool.not_true, cond_false, h2', h3', First_zero, h4, hx2]
  · unfold twin_CheckChanges_x1; simp
def chL (a b : List api_Prop) (ns : List (List UInt8)) : List api_Change := (ns.filter fun n => !eqV (vo a n) (vo b n)).map fun n => api_Change.mk n (vo a n) (vo b n)
theorem Differ_ok {a b : List api_Prop} (ha : GR a) (hb : GR b) : ∃ C, twin_Differ a b = some (C, 0) ∧ CH a b C := by
  have la := ha.len
  have lb := hb.len
  obtain ⟨ns, n1, n2, n3, n4⟩ := namesL_ok (Ls := [a, b]) (by simp) (by simp; omega) (fun l hl p hp => by
    simp at hl
    rcases hl with rfl | rfl
    · exact (ha.rp p hp).1
    · exact (hb.rp p hp).1)
  have n2 : ns.length ≤ 8 := by simp at n2; omega
  refine ⟨chL a b ns, ?_, ?_⟩
  · unfold twin_Differ
    simp only [ha.ok, hb.ok, Option.bind_some, First_zero, decide_true, Bool.not_true, cond_false, n1]
    have := fold_loop0 (l := ns) (f := twin_Differ_x1 a b ns) (fun (s : List api_Change) i => (s, i)) (fun s n => bif !eqV (vo a n) (vo b n) then s ++ [api_Change.mk n (vo a n) (vo b n)] else s) id (fun i s => s.length ≤ i) (s0 := []) (by omega)
      (fun i hi s hs => by
        have hc : (i : Int) < ns.length := by omega
        have hx : twin_Differ_x2 a b ns s i = some (bif !eqV (vo a ns[i]) (vo b ns[i]) then s ++ [api_Change.mk ns[i] (vo a ns[i]) (vo b ns[i])] else s) := by
          unfold twin_Differ_x2
          simp only [at_nat hi, Option.bind_some, valueOf_eq ha.srt (show a.length ≤ 10000 by omega), valueOf_eq hb.srt (show b.length ≤ 10000 by omega)]
          show (bif !eqV (vo a ns[i]) (vo b ns[i]) then _ else _) = _
          cases eqV (vo a ns[i]) (vo b ns[i]) with
          | true => rfl
          | false =>
            simp only [Bool.not_false, cond_true, gd]
            rw [lim_ok (by simp; omega)]
            rfl
        refine ⟨?_, ?_⟩
        · unfold twin_Differ_x1
          simp only [hc, decide_true, cond_true, hx, Option.bind_some]
        · cases eqV (vo a ns[i]) (vo b ns[i]) <;> simp <;> omega)
      (fun s _ => by unfold twin_Differ_x1; simp) (by simp)
    rw [this.1, foldl_filter (fun n => !eqV (vo a n) (vo b n)) (fun n => api_Change.mk n (vo a n) (vo b n))]
    rfl
  · have hm : ∀ c ∈ chL a b ns, ∃ n ∈ ns, eqV (vo a n) (vo b n) = false ∧ c = api_Change.mk n (vo a n) (vo b n) := by
      intro c hc
      obtain ⟨n, h1, rfl⟩ := List.mem_map.1 hc
      obtain ⟨h2, h3⟩ := List.mem_filter.1 h1
      exact ⟨n, h2, by simpa using h3, rfl⟩
    refine ⟨?_, fun c hc => ?_, fun c hc => ?_, fun c hc => ?_, fun c hc => ?_, fun n hne => ?_, ?_⟩
    · unfold chL
      rw [List.pairwise_map]
      exact List.Pairwise.filter _ n3
    · obtain ⟨n, h1, _, rfl⟩ := hm c hc
      obtain ⟨l, hl, p, hp, rfl⟩ := (n4 n).1 h1
      simp at hl
      rcases hl with rfl | rfl
      · exact (ha.rp p hp).1
      · exact (hb.rp p hp).1
    · obtain ⟨n, h1, _, rfl⟩ := hm c hc; rfl
    · obtain ⟨n, h1, _, rfl⟩ := hm c hc; rfl
    · obtain ⟨n, h1, h2, rfl⟩ := hm c hc
      intro e
      have := eqV_iff.2 e
      rw [h2] at this; cases this
    · refine ⟨api_Change.mk n (vo a n) (vo b n), List.mem_map.2 ⟨n, List.mem_filter.2 ⟨(n4 n).2 ?_, ?_⟩, rfl⟩, rfl⟩
      · rcases vo_cases ha.srt n with ⟨p, hp, e1, e2⟩ | ⟨_, e2⟩
        · exact ⟨a, by simp, p, hp, e1⟩
        · rcases vo_cases hb.srt n with ⟨p, hp, e1, e3⟩ | ⟨_, e3⟩
          · exact ⟨b, by simp, p, hp, e1⟩
          · exact absurd (e2.trans e3.symm) hne
      · cases h : eqV (vo a n) (vo b n) with
        | false => rfl
        | true => exact absurd (eqV_iff.1 h) hne
    · unfold chL
      rw [List.length_map]
      exact Nat.le_trans (List.length_filter_le _ _) n2
/-! ### Back -/
def swp (c : api_Change) : api_Change := api_Change.mk c.Name c.To c.From
theorem CH.turn {a b : List api_Prop} {C : List api_Change} (h : CH a b C) : CH b a (C.map swp) := by
  have hm : ∀ c ∈ C.map swp, ∃ d ∈ C, c = swp d := fun c hc => by
    obtain ⟨d, hd, rfl⟩ := List.mem_map.1 hc
    exact ⟨d, hd, rfl⟩
  refine ⟨?_, fun c hc => ?_, fun c hc => ?_, fun c hc => ?_, fun c hc => ?_, fun n hne => ?_, by simpa using h.len⟩
  · rw [List.pairwise_map]; exact h.srt
  · obtain ⟨d, hd, rfl⟩ := hm c hc; exact h.nm d hd
  · obtain ⟨d, hd, rfl⟩ := hm c hc; exact h.to_ d hd
  · obtain ⟨d, hd, rfl⟩ := hm c hc; exact h.frm d hd
  · obtain ⟨d, hd, rfl⟩ := hm c hc; exact fun e => h.ne d hd e.symm
  · obtain ⟨d, hd, e⟩ := h.all n fun e => hne e.symm
    exact ⟨swp d, List.mem_map.2 ⟨d, hd, rfl⟩, e⟩
theorem Turn_ok {a b : List api_Prop} {C : List api_Change} (h : CH a b C) (ha : GR a) (hb : GR b) : twin_Turn C = some (C.map swp, 0) := by
  have hl := h.len
  unfold twin_Turn
  simp only [h.check ha hb, Option.bind_some, decide_true, Bool.not_true, cond_false]
  have := fold_loop0 (l := C) (f := twin_Turn_x1 C) (fun (s : List api_Change) i => (s, i)) (fun s c => s ++ [swp c]) id (fun i s => s.length ≤ i) (s0 := []) (by omega)
    (fun i hi s hs => by
      have hc : (i : Int) < C.length := by omega
      refine ⟨?_, by simp; omega⟩
      unfold twin_Turn_x1
      simp only [hc, decide_true, cond_true, at_nat hi, Option.bind_some, gd]
      rw [lim_ok (by simp; omega)]
      rfl)
    (fun s _ => by unfold twin_Turn_x1; simp) (by simp)
  rw [this.1, foldl_app swp]
  rfl
/-! ### Making changes -/
theorem aget_any {β : Type} (l : List (List UInt8 × β)) (n : List UInt8) : (aget l n).isSome = l.any fun e => decide (n = e.1) := by
  unfold aget
  rw [Option.isSome_map, List.isSome_find?]
theorem any_aput {β : Type} (l : List (List UInt8 × β)) (k n : List UInt8) (v : β) : ((aput l k v).any fun e => decide (n = e.1)) = (decide (n = k) || l.any fun e => decide (n = e.1)) := by
  unfold aput
  cases h : l.any fun e => decide (k = e.1) with
  | false => simp [List.any_append, Bool.or_comm]
  | true =>
    simp only [cond_true, List.any_map]
    have : ((fun e : List UInt8 × β => decide (n = e.1)) ∘ fun e => bif decide (k = e.1) then (k, v) else e) = fun e => decide (n = e.1) := by
      funext e
      simp only [Function.comp]
      by_cases hk : k = e.1
      · simp [hk]
      · simp [hk]
    rw [this]
    by_cases hn : n = k
    · subst hn; rw [h]; simp
    · simp [hn]
theorem eqV_self (v : api_Value) : eqV v v = true := eqV_iff.2 rfl
def putC (m : List (List UInt8 × api_Value)) (c : api_Change) : List (List UInt8 × api_Value) := aput m c.Name c.To
theorem put_any : ∀ (C : List api_Change) (m : List (List UInt8 × api_Value)) (n : List UInt8), ((C.foldl putC m).any fun e => decide (n = e.1)) = ((m.any fun e => decide (n = e.1)) || C.any fun c => decide (n = c.Name))
  | [], m, n => by simp
  | c :: C, m, n => by
    rw [List.foldl_cons, put_any C]
    unfold putC
    rw [any_aput, List.any_cons]
    cases decide (n = c.Name) <;> cases m.any (fun e => decide (n = e.1)) <;> simp
theorem sortA_eq : slices_SortFunc_api_Prop_api_Prop_o0_f1_twin_Apply_1 = slices_SortFunc_api_Prop_api_Prop_o0_f1_fleetmake_propOrder := by kernel_rfl
def appL (a : List api_Prop) (C : List api_Change) : List api_Prop := (a.filter fun p => !(C.any fun c => decide (p.Name = c.Name))) ++ (C.filter fun c => !decide (c.To.Kind = 0)).map fun c => api_Prop.mk c.Name c.To
theorem app_names {a b : List api_Prop} {C : List api_Change} (h : CH a b C) (ha : GR a) : ((appL a C).map api_Prop.Name).Nodup := by
  unfold appL
  rw [List.map_append, List.map_map, List.nodup_append]
  refine ⟨psrt_names (List.Pairwise.filter _ ha.srt), ?_, fun x hx y hy => ?_⟩
  · unfold List.Nodup
    rw [List.pairwise_map]
    exact List.Pairwise.imp (fun hab => nlt_ne hab) (List.Pairwise.filter _ h.srt)
  · obtain ⟨p, hp, rfl⟩ := List.mem_map.1 hx
    obtain ⟨c, hc, rfl⟩ := List.mem_map.1 hy
    obtain ⟨h1, h2⟩ := List.mem_filter.1 hp
    obtain ⟨h3, h4⟩ := List.mem_filter.1 hc
    intro e
    simp only [Bool.not_eq_true', List.any_eq_false, decide_eq_true_eq] at h2
    exact h2 c h3 e
theorem app_mem {a b : List api_Prop} {C : List api_Change} (h : CH a b C) (ha : GR a) (hb : GR b) (p : api_Prop) : p ∈ appL a C ↔ p ∈ b := by
  unfold appL
  rw [List.mem_append, List.mem_filter, List.mem_map]
  constructor
  · rintro (⟨h1, h2⟩ | ⟨c, h1, rfl⟩)
    · have hk := ha.kind p h1
      rw [vo_iff hb.srt hk]
      simp only [Bool.not_eq_true', List.any_eq_false, decide_eq_true_eq] at h2
      have e : vo a p.Name = vo b p.Name := by
        refine Classical.byContradiction fun hne => ?_
        obtain ⟨c, hc, e⟩ := h.all p.Name hne
        exact h2 c hc e.symm
      rw [← e]
      exact vo_mem ha.srt h1
    · obtain ⟨h1, h2⟩ := List.mem_filter.1 h1
      have hk : c.To.Kind ≠ 0 := by simpa using h2
      rw [vo_iff hb.srt (p := api_Prop.mk c.Name c.To) hk]
      exact (h.to_ c h1).symm
  · intro hp
    have hk := hb.kind p hp
    have hv := vo_mem hb.srt hp
    by_cases e : vo a p.Name = vo b p.Name
    · refine .inl ⟨(vo_iff ha.srt hk).2 (e.trans hv), ?_⟩
      simp only [Bool.not_eq_true', List.any_eq_false, decide_eq_true_eq]
      intro c hc e2
      have := h.ne c hc
      rw [← e2] at this
      exact this e
    · obtain ⟨c, hc, e2⟩ := h.all _ e
      have e3 : c.To = p.Value := by rw [h.to_ c hc, e2]; exact hv
      refine .inr ⟨c, List.mem_filter.2 ⟨hc, ?_⟩, ?_⟩
      · rw [e3]; simpa using hk
      · obtain ⟨n, v⟩ := p
        simp only at e2 e3
        rw [e2, e3]
theorem Apply_ok {a b : List api_Prop} {C : List api_Change} (h : CH a b C) (ha : GR a) (hb : GR b) : twin_Apply a C = some (b, 0) := by
  have hl := h.len
  have la := ha.len
  unfold twin_Apply
  simp only [ha.ok, h.check ha hb, Option.bind_some, First_zero, decide_true, Bool.not_true, cond_false]
  have l1 := fold_loop0 (l := C) (f := twin_Apply_x1 a C) (fun (s : List (List UInt8 × api_Value)) i => (s, i)) putC Sum.inl (fun _ _ => True) (s0 := []) (by omega)
    (fun i hi s hs => by
      have hc : (i : Int) < C.length := by omega
      refine ⟨?_, trivial⟩
      have hm := List.getElem_mem hi
      unfold twin_Apply_x1
      simp only [hc, decide_true, cond_true, at_nat hi, Option.bind_some, valueOf_eq ha.srt (show a.length ≤ 10000 by omega)]
      show (bif !eqV (vo a C[i].Name) C[i].From then _ else _) = _
      rw [← h.frm _ hm, eqV_self]
      rfl)
    (fun s _ => by unfold twin_Apply_x1; simp) trivial
  rw [l1.1]
  simp only [Option.bind_some]
  have l2 := fold_loop0 (l := a) (f := twin_Apply_x2 a (C.foldl putC [])) (fun (s : List api_Prop) i => (s, i)) (fun s p => bif !(C.any fun c => decide (p.Name = c.Name)) then s ++ [p] else s) id (fun i s => s.length ≤ i) (s0 := []) (by omega)
    (fun i hi s hs => by
      have hc : (i : Int) < a.length := by omega
      have hx : twin_Apply_x3 a (C.foldl putC []) s i = some (bif !(C.any fun c => decide (a[i].Name = c.Name)) then s ++ [a[i]] else s) := by
        unfold twin_Apply_x3
        simp only [at_nat hi, Option.bind_some, aget_any, put_any, List.any_nil, Bool.false_or]
        cases C.any (fun c => decide (a[i].Name = c.Name)) with
        | true => rfl
        | false =>
          simp only [Bool.not_false, cond_true, gd]
          rw [lim_ok (by simp; omega)]
          rfl
      refine ⟨?_, ?_⟩
      · unfold twin_Apply_x2
        simp only [hc, decide_true, cond_true, hx, Option.bind_some]
      · cases C.any (fun c => decide (a[i].Name = c.Name)) <;> simp <;> omega)
    (fun s _ => by unfold twin_Apply_x2; simp) (by simp)
  rw [l2.1, foldl_filter (fun p : api_Prop => !(C.any fun c => decide (p.Name = c.Name))) (fun p => p)]
  simp only [Option.bind_some, List.nil_append, List.map_id', id]
  have lf : (a.filter fun p => !(C.any fun c => decide (p.Name = c.Name))).length ≤ 4 := Nat.le_trans (List.length_filter_le _ _) la
  have l3 := fold_loop0 (l := C) (f := twin_Apply_x4 C) (fun (s : List api_Prop) i => (s, i)) (fun s c => bif !decide (c.To.Kind = 0) then s ++ [api_Prop.mk c.Name c.To] else s) id (fun i s => s.length ≤ 4 + i) (s0 := a.filter fun p => !(C.any fun c => decide (p.Name = c.Name))) (by omega)
    (fun i hi s hs => by
      have hc : (i : Int) < C.length := by omega
      have hx : twin_Apply_x5 C s i = some (bif !decide (C[i].To.Kind = 0) then s ++ [api_Prop.mk C[i].Name C[i].To] else s) := by
        unfold twin_Apply_x5
        simp only [at_nat hi, Option.bind_some]
        cases decide (C[i].To.Kind = 0) with
        | true => rfl
        | false =>
          simp only [Bool.not_false, cond_true, gd]
          rw [lim_ok (by simp; omega)]
          rfl
      refine ⟨?_, ?_⟩
      · unfold twin_Apply_x4
        simp only [hc, decide_true, cond_true, hx, Option.bind_some]
      · cases decide (C[i].To.Kind = 0) <;> simp <;> omega)
    (fun s _ => by unfold twin_Apply_x4; simp) lf
  rw [l3.1, foldl_filter (fun c : api_Change => !decide (c.To.Kind = 0)) (fun c => api_Prop.mk c.Name c.To)]
  simp only [Option.bind_some, id]
  have hX : (a.filter fun p => !(C.any fun c => decide (p.Name = c.Name))) ++ (C.filter fun c => !decide (c.To.Kind = 0)).map (fun c => api_Prop.mk c.Name c.To) = appL a C := rfl
  rw [hX]
  have lX : (appL a C).length ≤ 12 := by
    unfold appL
    rw [List.length_append, List.length_map]
    have := List.length_filter_le (fun c : api_Change => !decide (c.To.Kind = 0)) C
    omega
  have hnd := app_names h ha
  have hndX : (appL a C).Nodup := by
    unfold List.Nodup at hnd ⊢
    rw [List.pairwise_map] at hnd
    exact List.Pairwise.imp (fun hab e => hab (congrArg api_Prop.Name e)) hnd
  have hperm : (appL a C).Perm b := (List.perm_ext_iff_of_nodup hndX (psrt_nodup hb.srt)).2 (app_mem h ha hb)
  rw [sortA_eq]
  obtain ⟨r, r1, r2, r3⟩ := sortP_ok lX
  have hr : r = b := pext (psrt_of r3 (((r2.trans hperm).map api_Prop.Name).nodup_iff.2 (psrt_names hb.srt))) hb.srt fun p => (r2.trans hperm).mem_iff
  rw [r1]
  subst hr
  simp only [Option.bind_some, gd, r2.length_eq, beq_self_eq_true, cond_true, hb.ok, decide_true, Bool.not_true, cond_false]
end Go.Eng

/-
The law ChangesLead: the changes of two lists lead from one to the other, turned round they lead back, and without clashes both sides agree.
-/
namespace Go.Eng
open Go
set_option linter.unusedVariables false
set_option linter.unusedSimpArgs false

/-! ### The check of properties always answers -/
theorem above_tot {l : List api_Prop} (hs : PSrt l) (hl : l.length ≤ 10000) {n : List UInt8} (hn : (n.length : Int) ≤ 9223372036854775800) : Ok (twin_above_f1_twin_CheckProps_1 n l) (fun _ => True) := by
  unfold twin_above_f1_twin_CheckProps_1
  refine Ok.bind (P := fun _ => True) (loop_ok (fun s : Int => ∃ i : Nat, s = (i : Int) ∧ i ≤ n.length) (fun s => ((n.length : Int) - s).toNat) ?_ ⟨0, rfl, by omega⟩) fun x _ => by cases x <;> exact .some trivial
  rintro _ ⟨i, rfl, i1⟩
  unfold twin_above_f1_twin_CheckProps_1_x1
  by_cases hi : i < n.length
  · have hc : (i : Int) < n.length := by omega
    have w1 : IntKind.wrap .i64 ((i : Int) + 1) = ((i + 1 : Nat) : Int) := by rw [wrap64 (by omega) (by omega)]; omega
    have hx : Ok (twin_above_f1_twin_CheckProps_1_x2 n l i) (fun _ => True) := by
      unfold twin_above_f1_twin_CheckProps_1_x2
      simp only [at_nat hi, Option.bind_some]
      refine .cond (fun _ => ?_) fun _ => .some trivial
      have hsub : sub? n 0 (i : Int) = some (n.take i) := by
        unfold sub?
        rw [if_pos ⟨by omega, by omega, by omega⟩]
        simp
      rw [hsub]
      simp only [Option.bind_some, twin_CheckProps_1]
      rcases find_eq hs hl (n.take i) with ⟨f1, _⟩ | ⟨k, hk, f1, f2⟩
      · rw [f1]; exact .some trivial
      · rw [f1]; exact .some trivial
    simp only [hc, decide_true, cond_true]
    refine hx.bind fun b _ => .cond (fun _ => .some trivial) fun _ => ?_
    rw [w1]
    exact .some ⟨⟨i + 1, rfl, by omega⟩, by omega⟩
  · have hc : ¬ (i : Int) < n.length := by omega
    simp only [hc, decide_false, cond_false]
    exact .some trivial
theorem props_tot {l : List api_Prop} (h : ∀ p ∈ l, GP p) (hs : PSrt l) (hl : l.length ≤ 500) (hn : ∀ p ∈ l, (p.Name.length : Int) ≤ 9223372036854775800) : Ok (twin_CheckProps l) (fun _ => True) := by
  unfold twin_CheckProps
  have : ¬ (500 : Int) < l.length := by omega
  simp only [this, decide_false, cond_false]
  have c1 : loopO (twin_CheckProps_x1 l) 0 = some (.inl ()) := by
    rw [range_loop (l := l) (fun _ _ => none) (.inl ()) (by omega)]
    · have : ∀ (k : Nat) (m : List api_Prop), scan (fun (_ : Nat) (_ : api_Prop) => (none : Option (Unit ⊕ Int))) k m = none := fun k m => scan_none.2 fun _ _ _ => rfl
      rw [this]; rfl
    · intro i hi
      obtain ⟨h1, h2, h3⟩ := h l[i] (List.getElem_mem _)
      have hc : (i : Int) < l.length := by omega
      have h2' : twin_valueFault (api_Value.mk l[i].Value.Kind l[i].Value.Flag l[i].Value.Number l[i].Value.Words) = some 0 := h2
      have hx2 : twin_CheckProps_x2 l i l[i] = some false := by
        unfold twin_CheckProps_x2
        cases i with
        | zero => simp
        | succ i =>
          have hp : (0 : Int) < ((i + 1 : Nat) : Int) := by omega
          have w : IntKind.wrap .i64 (((i + 1 : Nat) : Int) - 1) = (i : Int) := by rw [wrap64 (by omega) (by omega)]; omega
          simp only [hp, decide_true, cond_true, w, at_nat (show i < l.length by omega), Option.bind_some]
          congr 1
          have g1 : nlt (l[i]'(by omega)).Name l[i + 1].Name := (List.pairwise_iff_getElem.1 hs) i (i + 1) (by omega) hi (by omega)
          rw [cmpB_less]
          have g2 := nlt_asymm g1
          have g3 := nlt_ne g1
          unfold nlt at g2
          simp only [Bool.or_eq_false_iff, decide_eq_false_iff_not]
          exact ⟨g2, fun e => g3 e.symm⟩
      unfold twin_CheckProps_x1
      simp only [hc, decide_true, cond_true, at_nat hi, Option.bind_some, h1, Bool.not_true, cond_false, h2', h3, decide_false, hx2]
    · unfold twin_CheckProps_x1; simp
  rw [c1]
  simp only [Option.bind_some]
  refine Ok.bind (P := fun _ => True) (loop_ok (fun s : Int => ∃ i : Nat, s = (i : Int) ∧ i ≤ l.length) (fun s => ((l.length : Int) - s).toNat) ?_ ⟨0, rfl, by omega⟩) fun x _ => by cases x <;> exact .some trivial
  rintro _ ⟨i, rfl, i1⟩
  unfold twin_CheckProps_x3
  by_cases hi : i < l.length
  · have hc : (i : Int) < l.length := by omega
    have w1 : IntKind.wrap .i64 ((i : Int) + 1) = ((i + 1 : Nat) : Int) := by rw [wrap64 (by omega) (by omega)]; omega
    simp only [hc, decide_true, cond_true, at_nat hi, Option.bind_some]
    refine (above_tot hs (by omega) (hn _ (List.getElem_mem hi))).bind fun b _ => .cond (fun _ => .some trivial) fun _ => ?_
    rw [w1]
    exact .some ⟨⟨i + 1, rfl, by omega⟩, by omega⟩
  · have hc : ¬ (i : Int) < l.length := by omega
    simp only [hc, decide_false, cond_false]
    exact .some trivial

/-! ### Three lists -/
def w3 (o x y : api_Value) : api_Value := bif eqV x o || eqV x y then y else bif eqV y o then x else o
def cl3 (o x y : api_Value) : Bool := !(eqV x o || eqV x y) && !eqV y o
theorem eqV_comm (x y : api_Value) : eqV x y = eqV y x := by
  cases h : eqV x y with
  | true => rw [eqV_iff.1 h, eqV_self]
  | false =>
    cases h2 : eqV y x with
    | false => rfl
    | true => rw [eqV_iff.1 h2, eqV_self] at h; cases h
theorem w3_comm (o x y : api_Value) : w3 o x y = w3 o y x := by
  unfold w3
  rw [eqV_comm y x]
  cases h1 : eqV x o with
  | true =>
    have := eqV_iff.1 h1; subst this
    cases h2 : eqV x y with
    | true => have := eqV_iff.1 h2; subst this; simp
    | false => rw [eqV_comm y x, h2]; simp
  | false =>
    cases h2 : eqV x y with
    | true => have := eqV_iff.1 h2; subst this; simp
    | false => cases h3 : eqV y o <;> simp
theorem cl3_comm (o x y : api_Value) : cl3 o x y = cl3 o y x := by
  unfold cl3
  rw [eqV_comm y x]
  cases eqV x o <;> cases eqV x y <;> cases eqV y o <;> rfl
theorem w3_or (o x y : api_Value) : w3 o x y = o ∨ w3 o x y = x ∨ w3 o x y = y := by
  unfold w3
  cases eqV x o || eqV x y
  · cases eqV y o <;> simp
  · simp
theorem foldl_two {α β γ : Type} (p r : α → Bool) (f : α → β) (g : α → γ) : ∀ (l : List α) (s : List β) (t : List γ),
    l.foldl (fun (q : List β × List γ) n => (bif p n then q.1 ++ [f n] else q.1, bif r n then q.2 ++ [g n] else q.2)) (s, t) = (s ++ (l.filter p).map f, t ++ (l.filter r).map g)
  | [], s, t => by simp
  | x :: l, s, t => by
    rw [List.foldl_cons, foldl_two p r f g l]
    cases h1 : p x <;> cases h2 : r x <;> simp [h1, h2]
def out3 (o a b : List api_Prop) (ns : List (List UInt8)) : List api_Prop := (ns.filter fun n => !decide ((w3 (vo o n) (vo a n) (vo b n)).Kind = 0)).map fun n => api_Prop.mk n (w3 (vo o n) (vo a n) (vo b n))
def cls3 (o a b : List api_Prop) (ns : List (List UInt8)) : List api_Clash := (ns.filter fun n => cl3 (vo o n) (vo a n) (vo b n)).map fun n => api_Clash.mk n (vo o n) (vo a n) (vo b n)
theorem First3 : base_First [0, 0, 0] = some 0 := by kernel_rfl
theorem out3_srt {o a b : List api_Prop} {ns : List (List UInt8)} (h : ns.Pairwise nlt) : PSrt (out3 o a b ns) := by
  unfold PSrt out3
  rw [List.pairwise_map]
  exact List.Pairwise.filter _ h
theorem out3_gp {o a b : List api_Prop} {ns : List (List UInt8)} (ho : GR o) (ha : GR a) (hb : GR b) (hn : ∀ n ∈ ns, n ∈ nm7) : ∀ p ∈ out3 o a b ns, GP p ∧ p.Name ∈ nm7 := by
  intro p hp
  obtain ⟨n, h1, rfl⟩ := List.mem_map.1 hp
  obtain ⟨h2, h3⟩ := List.mem_filter.1 h1
  refine ⟨⟨isName7 (hn n h2), ?_, by simpa using h3⟩, hn n h2⟩
  show twin_valueFault (w3 (vo o n) (vo a n) (vo b n)) = some 0
  rcases w3_or (vo o n) (vo a n) (vo b n) with e | e | e <;> rw [e]
  · exact vo_fault ho n
  · exact vo_fault ha n
  · exact vo_fault hb n
/-- what the three lists' names are -/
theorem names3 {o a b : List api_Prop} (ho : GR o) (ha : GR a) (hb : GR b) : ∃ ns, twin_names_o0 [o, a, b] = some ns ∧ ns.length ≤ 12 ∧ ns.Pairwise nlt ∧ (∀ n ∈ ns, n ∈ nm7) ∧
    ∀ n, n ∈ ns ↔ (∃ p ∈ o, p.Name = n) ∨ (∃ p ∈ a, p.Name = n) ∨ ∃ p ∈ b, p.Name = n := by
  have lo := ho.len
  have la := ha.len
  have lb := hb.len
  have hm : ∀ l ∈ [o, a, b], ∀ p ∈ l, p.Name ∈ nm7 := fun l hl p hp => by
    simp at hl
    rcases hl with rfl | rfl | rfl
    · exact (ho.rp p hp).1
    · exact (ha.rp p hp).1
    · exact (hb.rp p hp).1
  obtain ⟨ns, n1, n2, n3, n4⟩ := namesL_ok (Ls := [o, a, b]) (by simp) (by simp; omega) hm
  refine ⟨ns, n1, by simp at n2; omega, n3, fun n hn => ?_, fun n => ?_⟩
  · obtain ⟨l, hl, p, hp, rfl⟩ := (n4 n).1 hn
    exact hm l hl p hp
  · rw [n4]
    simp
theorem Three_ok {o a b : List api_Prop} (ho : GR o) (ha : GR a) (hb : GR b) {ns : List (List UInt8)} (h1 : twin_names_o0 [o, a, b] = some ns) (h2 : ns.length ≤ 12) :
    twin_Three o a b = (twin_CheckProps (out3 o a b ns)).bind fun e => cond (!decide (e = 0)) (some ([], [], e)) (some (out3 o a b ns, cls3 o a b ns, 0)) := by
  have lo := ho.len
  have la := ha.len
  have lb := hb.len
  unfold twin_Three
  simp only [ho.ok, ha.ok, hb.ok, Option.bind_some, First3, decide_true, Bool.not_true, cond_false, h1]
  have := fold_loop0 (l := ns) (f := twin_Three_x1 o a b ns) (fun (s : List api_Prop × List api_Clash) i => (s.1, s.2, i))
    (fun q n => (bif !decide ((w3 (vo o n) (vo a n) (vo b n)).Kind = 0) then q.1 ++ [api_Prop.mk n (w3 (vo o n) (vo a n) (vo b n))] else q.1, bif cl3 (vo o n) (vo a n) (vo b n) then q.2 ++ [api_Clash.mk n (vo o n) (vo a n) (vo b n)] else q.2)) id
    (fun i s => s.1.length ≤ i ∧ s.2.length ≤ i) (s0 := ([], [])) (by omega)
    (fun i hi s hs => by
      obtain ⟨s, t⟩ := s
      obtain ⟨hs1, hs2⟩ := hs
      simp only at hs1 hs2
      have hc : (i : Int) < ns.length := by omega
      have hx3 : twin_Three_x3 t ns[i] (vo o ns[i]) (vo a ns[i]) (vo b ns[i]) = some (w3 (vo o ns[i]) (vo a ns[i]) (vo b ns[i]), bif cl3 (vo o ns[i]) (vo a ns[i]) (vo b ns[i]) then t ++ [api_Clash.mk ns[i] (vo o ns[i]) (vo a ns[i]) (vo b ns[i])] else t) := by
        unfold twin_Three_x3
        have hx4 : twin_Three_x4 (vo o ns[i]) (vo a ns[i]) (vo b ns[i]) = some (eqV (vo a ns[i]) (vo o ns[i]) || eqV (vo a ns[i]) (vo b ns[i])) := by
          unfold twin_Three_x4
          show (bif eqV (vo a ns[i]) (vo o ns[i]) then some true else some (eqV (vo a ns[i]) (vo b ns[i]))) = _
          cases eqV (vo a ns[i]) (vo o ns[i]) <;> rfl
        rw [hx4]
        simp only [Option.bind_some]
        unfold w3 cl3
        cases hq : (eqV (vo a ns[i]) (vo o ns[i]) || eqV (vo a ns[i]) (vo b ns[i])) with
        | true => rfl
        | false =>
          show (bif eqV (vo b ns[i]) (vo o ns[i]) then _ else _) = _
          cases eqV (vo b ns[i]) (vo o ns[i]) with
          | true => rfl
          | false =>
            simp only [cond_false, gd]
            rw [lim_ok (by simp; omega)]
            rfl
      have hx2 : twin_Three_x2 o a b ns s t i = some (bif !decide ((w3 (vo o ns[i]) (vo a ns[i]) (vo b ns[i])).Kind = 0) then s ++ [api_Prop.mk ns[i] (w3 (vo o ns[i]) (vo a ns[i]) (vo b ns[i]))] else s, bif cl3 (vo o ns[i]) (vo a ns[i]) (vo b ns[i]) then t ++ [api_Clash.mk ns[i] (vo o ns[i]) (vo a ns[i]) (vo b ns[i])] else t) := by
        unfold twin_Three_x2
        simp only [at_nat hi, Option.bind_some, valueOf_eq ho.srt (show o.length ≤ 10000 by omega), valueOf_eq ha.srt (show a.length ≤ 10000 by omega), valueOf_eq hb.srt (show b.length ≤ 10000 by omega), hx3]
        cases decide ((w3 (vo o ns[i]) (vo a ns[i]) (vo b ns[i])).Kind = 0) with
        | true => rfl
        | false =>
          simp only [Bool.not_false, cond_true, gd]
          rw [lim_ok (by simp; omega)]
          rfl
      refine ⟨?_, ?_, ?_⟩
      · unfold twin_Three_x1
        simp only [hc, decide_true, cond_true, hx2, Option.bind_some]
      · simp only; cases decide ((w3 (vo o ns[i]) (vo a ns[i]) (vo b ns[i])).Kind = 0) <;> simp <;> omega
      · simp only; cases cl3 (vo o ns[i]) (vo a ns[i]) (vo b ns[i]) <;> simp <;> omega)
    (fun s _ => by unfold twin_Three_x1; simp) ⟨by simp, by simp⟩
  have h3 := this.1
  simp only at h3
  rw [h3, foldl_two (fun n => !decide ((w3 (vo o n) (vo a n) (vo b n)).Kind = 0)) (fun n => cl3 (vo o n) (vo a n) (vo b n)) (fun n => api_Prop.mk n (w3 (vo o n) (vo a n) (vo b n))) (fun n => api_Clash.mk n (vo o n) (vo a n) (vo b n))]
  rfl
/-- one side did nothing -/
theorem Three2_ok {o a : List api_Prop} (ho : GR o) (ha : GR a) : ∃ cl, twin_Three_2 o a = some (a, cl, 0) := by
  have lo := ho.len
  have la := ha.len
  obtain ⟨ns, n1, n2, n3, n4, n5⟩ := names3 ho ha ho
  unfold twin_Three_2
  simp only [ho.ok, ha.ok, Option.bind_some, First3, decide_true, Bool.not_true, cond_false, n1]
  have := fold_loop0 (l := ns) (f := twin_Three_2_x1 o a ns) (fun (s : List api_Prop × List api_Clash) i => (s.1, s.2, i))
    (fun q n => (bif !decide ((vo a n).Kind = 0) then q.1 ++ [api_Prop.mk n (vo a n)] else q.1, bif false then q.2 ++ [api_Clash.mk n (vo o n) (vo a n) (vo o n)] else q.2)) id
    (fun i s => s.1.length ≤ i ∧ s.2.length ≤ i) (s0 := ([], [])) (by omega)
    (fun i hi s hs => by
      obtain ⟨s, t⟩ := s
      obtain ⟨hs1, hs2⟩ := hs
      simp only at hs1 hs2
      have hc : (i : Int) < ns.length := by omega
      have hx3 : twin_Three_2_x3 t ns[i] (vo o ns[i]) (vo a ns[i]) = some (vo a ns[i], t) := by
        unfold twin_Three_2_x3
        have hx4 : twin_Three_2_x4 (vo o ns[i]) (vo a ns[i]) = some (eqV (vo a ns[i]) (vo o ns[i])) := by
          unfold twin_Three_2_x4
          show (bif eqV (vo a ns[i]) (vo o ns[i]) then some true else some false) = _
          cases eqV (vo a ns[i]) (vo o ns[i]) <;> rfl
        rw [hx4]
        simp only [Option.bind_some]
        cases hq : eqV (vo a ns[i]) (vo o ns[i]) with
        | true => rw [eqV_iff.1 hq]; rfl
        | false =>
          simp only [cond_false, decide_true, beq_self_eq_true, Bool.and_self, cond_true]
      have hx2 : twin_Three_2_x2 o a ns s t i = some (bif !decide ((vo a ns[i]).Kind = 0) then s ++ [api_Prop.mk ns[i] (vo a ns[i])] else s, t) := by
        unfold twin_Three_2_x2
        simp only [at_nat hi, Option.bind_some, valueOf_eq ho.srt (show o.length ≤ 10000 by omega), valueOf_eq ha.srt (show a.length ≤ 10000 by omega), hx3]
        cases decide ((vo a ns[i]).Kind = 0) with
        | true => rfl
        | false =>
          simp only [Bool.not_false, cond_true, gd]
          rw [lim_ok (by simp; omega)]
          rfl
      refine ⟨?_, ?_, ?_⟩
      · unfold twin_Three_2_x1
        simp only [hc, decide_true, cond_true, hx2, Option.bind_some, cond_false]
      · simp only; cases decide ((vo a ns[i]).Kind = 0) <;> simp <;> omega
      · simp only [cond_false]; omega)
    (fun s _ => by unfold twin_Three_2_x1; simp) ⟨by simp, by simp⟩
  have h3 := this.1
  simp only at h3
  rw [h3, foldl_two (fun n => !decide ((vo a n).Kind = 0)) (fun _ => false) (fun n => api_Prop.mk n (vo a n)) (fun n => api_Clash.mk n (vo o n) (vo a n) (vo o n))]
  have e : (ns.filter fun n => !decide ((vo a n).Kind = 0)).map (fun n => api_Prop.mk n (vo a n)) = a := by
    refine pext ?_ ha.srt fun p => ?_
    · unfold PSrt
      rw [List.pairwise_map]
      exact List.Pairwise.filter _ n3
    · constructor
      · intro hp
        obtain ⟨n, h1, rfl⟩ := List.mem_map.1 hp
        obtain ⟨h2, h3⟩ := List.mem_filter.1 h1
        have hk : (vo a n).Kind ≠ 0 := by simpa using h3
        exact (vo_iff ha.srt (p := api_Prop.mk n (vo a n)) hk).2 rfl
      · intro hp
        have hv := vo_mem ha.srt hp
        refine List.mem_map.2 ⟨p.Name, List.mem_filter.2 ⟨(n5 _).2 (.inr (.inl ⟨p, hp, rfl⟩)), ?_⟩, ?_⟩
        · rw [hv]; simpa using ha.kind p hp
        · rw [hv]
  simp only [List.nil_append, id, Option.bind_some]
  rw [e, ha.ok]
  simp only [Option.bind_some, decide_true, Bool.not_true, cond_false]
  exact ⟨_, rfl⟩

/-! ### The law -/
theorem ChangesLead_true (L : List Int) (hL : L.length ≤ 9223372036854775807) (hI : ∀ n ∈ L, -9223372036854775808 ≤ n ∧ n ≤ 9223372036854775807) : fleetkeep2_ChangesLead L = some true := by
  apply Ok.eq
  unfold fleetkeep2_ChangesLead
  have h0 : StrOk 0 (fleetmake_Stream.mk L 0) := ⟨Int.le_refl _, by simp, hL, hI⟩
  obtain ⟨⟨s1, a⟩, e1, a1, ha⟩ := RightProps_ok h0 (by omega)
  obtain ⟨⟨s2, b⟩, e2, b1, hb⟩ := RightProps_ok a1 (by omega)
  obtain ⟨⟨s3, o⟩, e3, c1, ho⟩ := RightProps_ok b1 (by omega)
  simp only at ha hb ho e2 e3
  obtain ⟨C, d1, hC⟩ := Differ_ok ha hb
  have la := ha.len
  have lb := hb.len
  have er : fleetkeep2_errs [0, 0, 0, 0] = some 0 := by kernel_rfl
  simp only [e1, e2, d1, Option.bind_some, Apply_ok hC ha hb, Turn_ok hC ha hb, Apply_ok hC.turn hb ha, fleetkeep2_ChangesLead_x1, er, decide_true, Bool.not_true, cond_false, pEqual_self (show (a.length : Int) ≤ 9223372036854775807 by omega), pEqual_self (show (b.length : Int) ≤ 9223372036854775807 by omega), e3]
  obtain ⟨ns, n1, n2, n3, n4, n5⟩ := names3 ho ha hb
  obtain ⟨ms, m1, m2, m3, m4, m5⟩ := names3 ho hb ha
  have hnm : ms = ns := next_ m3 n3 fun n => by
    rw [m5, n5]
    constructor <;> (rintro (h | h | h) <;> simp [h])
  subst hnm
  rw [Three_ok ho ha hb n1 n2, Three_ok ho hb ha m1 m2]
  have ho3 : out3 o b a ms = out3 o a b ms := by
    unfold out3
    simp only [fun n => w3_comm (vo o n) (vo b n) (vo a n)]
  have hc3 : (cls3 o b a ms).length = (cls3 o a b ms).length := by
    unfold cls3
    rw [List.length_map, List.length_map]
    simp only [fun n => cl3_comm (vo o n) (vo b n) (vo a n)]
  rw [ho3]
  have lout : (out3 o a b ms).length ≤ 12 := by
    unfold out3
    rw [List.length_map]
    exact Nat.le_trans (List.length_filter_le _ _) m2
  obtain ⟨e, f1, _⟩ := props_tot (l := out3 o a b ms) (fun p hp => (out3_gp ho ha hb n4 p hp).1) (out3_srt m3) (by omega) (fun p hp => by
    have := of_decide_eq_true (List.all_eq_true.1 nm7_len _ (out3_gp ho ha hb n4 p hp).2)
    omega)
  obtain ⟨cl, t1⟩ := Three2_ok ho ha
  have pe : ∀ l : List api_Prop, l.length ≤ 12 → slices_Equal_api_Prop_api_Prop l l = some true := fun l hl => pEqual_self (by omega)
  rw [f1]
  simp only [Option.bind_some]
  have fin : Ok ((twin_Three_2 o a).bind fun x => match x with | (vr7_1, vr8_4, vr9_2) => (fleetkeep2_ChangesLead_x3 a vr7_1 vr9_2).bind fun vx3_1 => some vx3_1) (fun y => y = true) := by
    rw [t1]
    simp only [Option.bind_some, fleetkeep2_ChangesLead_x3, decide_true, cond_true, pe a (by omega), ready_eq]
    exact .some rfl
  cases hz : decide (e = 0) with
  | true =>
    simp only [Bool.not_true, cond_false, Option.bind_some, fleetkeep2_ChangesLead_x2, decide_true, hc3, pe _ lout]
    exact fin
  | false =>
    simp only [Bool.not_false, cond_true, Option.bind_some, fleetkeep2_ChangesLead_x2, decide_true, Bool.not_true, cond_false, pe [] (by simp)]
    exact fin
end Go.Eng

