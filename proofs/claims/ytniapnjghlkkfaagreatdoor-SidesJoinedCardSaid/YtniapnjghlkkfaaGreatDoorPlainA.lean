/-
What the plain functions of the law SidesJoined answer, part 1.
-/
import Derived.Test.YtniapnjghlkkfaaGreatDoorGenF
import Derived.KernelRfl
import Derived.Test.YtniapnjghlkkfaaGreatDoorEngV
/-
Plain functions: what they answer, in total. Loops by an invariant and a measure.
-/
namespace Go.Eng
open Go
set_option linter.unusedVariables false
set_option linter.unusedSimpArgs false

def Ok {α : Type} (x : Option α) (P : α → Prop) : Prop := ∃ r, x = some r ∧ P r
section
variable {α β σ ρ : Type} {P Q : α → Prop} {R : β → Prop}
theorem Ok.some {r : α} (h : P r) : Ok (some r) P := ⟨r, rfl, h⟩
theorem Ok.mono {x : Option α} (h : Ok x P) (hq : ∀ r, P r → Q r) : Ok x Q := let ⟨r, h1, h2⟩ := h; ⟨r, h1, hq r h2⟩
theorem Ok.bind {x : Option α} {f : α → Option β} (h : Ok x P) (hf : ∀ r, P r → Ok (f r) R) : Ok (x.bind f) R := by
  obtain ⟨r, rfl, hr⟩ := h
  exact hf r hr
theorem Ok.cond {b : Bool} {x y : Option α} (ht : b = true → Ok x P) (hf : b = false → Ok y P) : Ok (cond b x y) P := by
  cases b
  · exact hf rfl
  · exact ht rfl
theorem Ok.gd {b : Bool} {x : Option α} (hb : b = true) (h : Ok x P) : Ok (gd b x) P := by
  subst hb; exact h
theorem Ok.eq {x : Option α} {r : α} (h : Ok x fun y => y = r) : x = Option.some r := by
  obtain ⟨y, h1, h2⟩ := h
  rw [h1, h2]
theorem Ok.of_eq {x : Option α} {r : α} (h : x = Option.some r) (hp : P r) : Ok x P := ⟨r, h, hp⟩

theorem loop_ok {f : σ → Option (σ ⊕ ρ)} {Q : ρ → Prop} (I : σ → Prop) (μ : σ → Nat)
    (step : ∀ s, I s → Ok (f s) fun x => match x with | .inl s' => I s' ∧ μ s' < μ s | .inr r => Q r) {s : σ} (h : I s) : Ok (loopO f s) Q := by
  generalize hn : μ s = n
  induction n using Nat.strongRecOn generalizing s with
  | _ n ih =>
    obtain ⟨x, h1, h2⟩ := step s h
    cases x with
    | inl s' =>
      obtain ⟨h3, h4⟩ := h2
      obtain ⟨r, h5, h6⟩ := ih (μ s') (by omega) h3 rfl
      refine ⟨r, ?_, h6⟩
      rw [loopO_eq, h1]
      exact h5
    | inr r =>
      refine ⟨r, ?_, h2⟩
      rw [loopO_eq, h1]
      rfl

theorem at_lt {l : List α} {n : Int} (h : 0 ≤ n) (h2 : n < l.length) : at? l n = Option.some (l[n.toNat]'(by omega)) := by
  unfold at?
  rw [if_pos h, List.getElem?_eq_getElem]
theorem at_nat {l : List α} {n : Nat} (h : n < l.length) : at? l (n : Int) = Option.some l[n] := by
  rw [at_lt (by omega) (by omega)]
  simp
theorem at_ok {l : List α} {n : Int} (h : 0 ≤ n) (h2 : n < l.length) : Ok (at? l n) (fun y => l[n.toNat]? = Option.some y) := by
  refine ⟨_, at_lt h h2, ?_⟩
  rw [List.getElem?_eq_getElem]
theorem at_mem {l : List α} {n : Int} (h : 0 ≤ n) (h2 : n < l.length) : Ok (at? l n) (fun y => y ∈ l) := by
  refine (at_ok h h2).mono fun y hy => List.mem_of_getElem? hy
end

/-! ### Integers of 64 bits -/
def I64 (n : Int) : Prop := -9223372036854775808 ≤ n ∧ n ≤ 9223372036854775807
theorem wrap64 {n : Int} (h : -9223372036854775808 ≤ n) (h2 : n ≤ 9223372036854775807) : IntKind.wrap .i64 n = n := by
  unfold IntKind.wrap
  simp [IntKind.min, IntKind.max, IntKind.bits, IntKind.signed]
  omega
theorem tmod_nonneg {a b : Int} (h : 0 ≤ a) : 0 ≤ a.tmod b := Int.tmod_nonneg b h
theorem tmod_lt' {a b : Int} (h : 0 < b) : a.tmod b < b := Int.tmod_lt_of_pos a h
theorem lim_eq : LIM = 137438953472 := by decide
theorem ble_lim {n : Nat} (h : n ≤ 137438953472) : Nat.ble n LIM = true := by rw [Nat.ble_eq, lim_eq]; exact h
end Go.Eng

/-
Loops over the elements of a list; keys.
-/
namespace Go.Eng
open Go
set_option linter.unusedVariables false
set_option linter.unusedSimpArgs false

/-- The first answer of the elements from number k on. -/
def scan {α ρ : Type} (g : Nat → α → Option ρ) : Nat → List α → Option ρ
  | _, [] => none
  | k, x :: xs => match g k x with
    | some r => some r
    | none => scan g (k + 1) xs

theorem drop_get {α : Type} {l : List α} {i : Nat} (h : i < l.length) : l.drop i = l[i] :: l.drop (i + 1) := List.drop_eq_getElem_cons h

/-- A loop over a list that ends at the first element with an answer. -/
theorem range_loop {α ρ : Type} {l : List α} {f : Int → Option (Int ⊕ ρ)} (g : Nat → α → Option ρ) (done : ρ) (hl : (l.length : Int) ≤ 9223372036854775807)
    (hf : ∀ (i : Nat) (h : i < l.length), f i = some (match g i l[i] with | none => .inl (IntKind.wrap .i64 (i + 1)) | some r => .inr r)) (hd : f l.length = some (.inr done)) :
    loopO f 0 = some ((scan g 0 l).getD done) := by
  have key : ∀ (n i : Nat), l.length - i = n → i ≤ l.length → loopO f i = some ((scan g i (l.drop i)).getD done) := by
    intro n
    induction n with
    | zero =>
      intro i h1 h2
      have : i = l.length := by omega
      subst this
      rw [loopO_eq, hd, List.drop_length]
      rfl
    | succ n ih =>
      intro i h1 h2
      have hi : i < l.length := by omega
      rw [loopO_eq, hf i hi, drop_get hi]
      simp only [scan]
      cases hg : g i l[i] with
      | some r => rfl
      | none =>
        simp only [Option.bind_some]
        rw [wrap64 (by omega) (by omega)]
        exact ih (i + 1) (by omega) (by omega)
  exact key l.length 0 (by omega) (by omega)

theorem scan_none {α ρ : Type} {g : Nat → α → Option ρ} : ∀ {l : List α} {k : Nat}, scan g k l = none ↔ ∀ (i : Nat) (x : α), l[i]? = some x → g (k + i) x = none
  | [], k => by simp [scan]
  | y :: l, k => by
    simp only [scan]
    cases hg : g k y with
    | some r =>
      simp only [reduceCtorEq, false_iff]
      intro h
      have := h 0 y rfl
      rw [Nat.add_zero, hg] at this
      cases this
    | none =>
      simp only
      rw [scan_none]
      constructor
      · intro h i x hi
        cases i with
        | zero => simp at hi; subst hi; exact hg
        | succ i => rw [show k + (i + 1) = k + 1 + i by omega]; exact h i x (by simpa using hi)
      · intro h i x hi
        rw [show k + 1 + i = k + (i + 1) by omega]
        exact h (i + 1) x (by simpa using hi)
/-! ### Keys -/
end Go.Eng

/-
Small checks; the order of measurements.
-/
namespace Go.Eng
open Go
set_option linter.unusedVariables false
set_option linter.unusedSimpArgs false

theorem Out_eq (n low high : Int) : base_Out n low high = some (decide (n < low) || decide (high < n)) := by
  unfold base_Out base_Out_x1
  by_cases h : n < low <;> simp [h]
/-! ### Orders -/
def or0 (a b : Int) : Int := if a = 0 then b else a
theorem cmpB_self : ∀ a : List UInt8, Lib.compareBytes a a = 0
  | [] => rfl
  | x :: a => by
    unfold Lib.compareBytes
    simp [UInt8.lt_irrefl, cmpB_self a]
theorem cmpB_anti : ∀ a b : List UInt8, Lib.compareBytes b a = -Lib.compareBytes a b
  | [], [] => rfl
  | [], _ :: _ => rfl
  | _ :: _, [] => rfl
  | x :: a, y :: b => by
    unfold Lib.compareBytes
    by_cases h1 : x < y
    · have h2 : ¬ y < x := UInt8.lt_asymm h1
      simp [h1, h2]
    · by_cases h2 : y < x
      · simp [h1, h2]
      · simp [h1, h2, cmpB_anti a b]
theorem cmpB_zero : ∀ {a b : List UInt8}, Lib.compareBytes a b = 0 ↔ a = b
  | [], [] => by simp [Lib.compareBytes]
  | [], _ :: _ => by simp [Lib.compareBytes]
  | _ :: _, [] => by simp [Lib.compareBytes]
  | x :: a, y :: b => by
    unfold Lib.compareBytes
    by_cases h1 : x < y
    · have : x ≠ y := fun h => UInt8.lt_irrefl y (h ▸ h1)
      simp [h1, this]
    · by_cases h2 : y < x
      · have : x ≠ y := fun h => UInt8.lt_irrefl x (by rw [h] at h2 ⊢; exact h2)
        simp [h1, h2, this]
      · have : x = y := UInt8.le_antisymm (UInt8.not_lt.1 h2) (UInt8.not_lt.1 h1)
        simp [h1, h2, cmpB_zero (a := a) (b := b), this]
theorem cmpB_less : ∀ a b : List UInt8, Op.bytesLess a b = decide (Lib.compareBytes a b < 0)
  | [], [] => rfl
  | [], _ :: _ => rfl
  | _ :: _, [] => rfl
  | x :: a, y :: b => by
    unfold Lib.compareBytes
    rw [Op.bytesLess]
    by_cases h1 : x < y
    · simp [h1]
    · by_cases h2 : y < x
      · have h3 : ¬ x = y := fun h => UInt8.lt_irrefl x (by rw [h] at h2 ⊢; exact h2)
        simp [h1, h2, h3]
      · have h3 : x = y := UInt8.le_antisymm (UInt8.not_lt.1 h2) (UInt8.not_lt.1 h1)
        simp [h1, h2, h3, cmpB_less a b]
end Go.Eng

/-
Checks of measurements and series, both ways.
-/
namespace Go.Eng
open Go
set_option linter.unusedVariables false
set_option linter.unusedSimpArgs false

/-! ### Check -/
end Go.Eng

/-
Sorting of few elements, and what is left of equal ones, for all kinds of elements.
-/
namespace Go.Eng
open Go
set_option linter.unusedVariables false
set_option linter.unusedSimpArgs false

theorem loop_out {σ ρ : Type} {f : σ → Option (σ ⊕ ρ)} {s : σ} {r : ρ} (h : f s = some (.inr r)) : loopO f s = some r := by rw [loopO_eq, h]; rfl

section
variable {α : Type}
/-! ### Insertion, as the code has it -/
noncomputable def gI3 (cmp : α → α → Option Int) (qa : Int) (vl3 : List α) (vj1 : Int) : Option (Bool) :=
  cond (decide (qa < vj1))
    ((at? vl3 vj1).bind fun vy15 =>
    (at? vl3 (IntKind.wrap .i64 (vj1 - 1))).bind fun vy16 =>
    (cmp vy15 vy16).bind fun vr1_3 =>
    some (decide (vr1_3 < 0)))
    (some false)
noncomputable def gI2 (cmp : α → α → Option Int) (qa : Int) : (List α) × Int → Option (((List α) × Int) ⊕ ((List α)))
  | (vl3, vj1) =>
  (gI3 cmp qa vl3 vj1).bind fun vx4_1 =>
  cond (vx4_1)
    ((at? vl3 (IntKind.wrap .i64 (vj1 - 1))).bind fun vy17 =>
    (at? vl3 vj1).bind fun vy18 =>
    (at? (vl3.set vj1.toNat vy17) (IntKind.wrap .i64 (vj1 - 1))).bind fun vy19 =>
    some (.inl ((vl3.set vj1.toNat vy17).set (IntKind.wrap .i64 (vj1 - 1)).toNat vy18, IntKind.wrap .i64 (vj1 - 1))))
    (some (.inr vl3))
noncomputable def gI1 (cmp : α → α → Option Int) (qa : Int) (qb : Int) : (List α) × Int → Option (((List α) × Int) ⊕ ((List α)))
  | (vl, vi) =>
  cond (decide (vi < qb))
    ((loopO (gI2 cmp qa) (vl, vi)).bind fun vl4_1 =>
    some (.inl (vl4_1, IntKind.wrap .i64 (vi + 1))))
    (some (.inr vl))
noncomputable def gI (cmp : α → α → Option Int) (qdata : List α) (qa : Int) (qb : Int) : Option ((List α)) :=
  (loopO (gI1 cmp qa qb) (qdata, IntKind.wrap .i64 (qa + 1))).bind fun vl5_1 =>
  some vl5_1
def All (p : α → Prop) (l : List α) : Prop := ∀ x ∈ l, p x
theorem All.nil {p : α → Prop} : All p [] := fun _ h => nomatch h
theorem All.set {p : α → Prop} {l : List α} (h : All p l) {i : Nat} {x : α} (hx : p x) : All p (l.set i x) := by
  intro y hy
  rcases List.mem_or_eq_of_mem_set hy with hy | rfl
  · exact h y hy
  · exact hx
theorem All.at {p : α → Prop} {l : List α} (h : All p l) {i : Nat} (hi : i < l.length) : p l[i] := h _ (List.getElem_mem hi)

/-! ### Equal ones, as the code has it -/
noncomputable def gC3 (t : α → α → Option Bool) (qx : List α) (vx : Int) (vl4 : List α) (vx6 : Int) (vx7 : Int) : Option (((List α) × Int)) :=
  gd (decide (0 ≤ vx) && decide (0 ≤ vx7) && decide (vx7 < (qx.length : Int) - vx)) <|
  (at? vl4 (vx + vx7)).bind fun vy13 =>
  gd (decide (0 ≤ vx) && decide (0 ≤ (IntKind.wrap .i64 (vx7 - 1))) && decide ((IntKind.wrap .i64 (vx7 - 1)) < (qx.length : Int) - vx)) <|
  (at? vl4 (vx + (IntKind.wrap .i64 (vx7 - 1)))).bind fun vy14 =>
  (t vy13 vy14).bind fun vr5 =>
  cond (!vr5)
    ((at? vl4 vx6).bind fun vy15 =>
    some (vl4.set vx6.toNat vy13, IntKind.wrap .i64 (vx6 + 1)))
    (some (vl4, vx6))
noncomputable def gC2 (t : α → α → Option Bool) (qx : List α) (vx : Int) : (List α) × Int × Int → Option (((List α) × Int × Int) ⊕ (((List α) × Int)))
  | (vl4, vx6, vx7) =>
  cond (decide (vx7 < (((qx.length : Int).toNat - vx.toNat : Nat) : Int)))
    ((gC3 t qx vx vl4 vx6 vx7).bind fun (vl6_1, vx9_1) =>
    some (.inl (vl6_1, vx9_1, IntKind.wrap .i64 (vx7 + 1))))
    (some (.inr (vl4, vx6)))
noncomputable def gC1 (t : α → α → Option Bool) (z : α) (qx : List α) (vx : Int) : Option ((Int) ⊕ (Unit ⊕ (List α))) :=
  cond (decide (vx < (qx.length : Int)))
    ((at? qx vx).bind fun vy8 =>
    (at? qx (IntKind.wrap .i64 (vx - 1))).bind fun vy9 =>
    (t vy8 vy9).bind fun vr3 =>
    cond (vr3)
      (gd (decide (0 ≤ vx) && decide (vx ≤ (qx.length : Int)) && decide ((qx.length : Int) ≤ (qx.length : Int))) <|
      (loopO (gC2 t qx vx) (qx, vx, 1)).bind fun (vl7_1, vx10_1) =>
      gd (decide (0 ≤ vx10_1) && decide (vx10_1 ≤ (vl7_1.length : Int)) && decide ((vl7_1.length : Int) ≤ (vl7_1.length : Int))) <|
      gd (decide (0 ≤ vx10_1) && decide (vx10_1 ≤ ((vl7_1.take vx10_1.toNat ++ (List.replicate ((vl7_1.length : Int).toNat - vx10_1.toNat) z ++ vl7_1.drop (vx10_1.toNat + ((vl7_1.length : Int).toNat - vx10_1.toNat)))).length : Int))) <|
      some (.inr (.inr ((vl7_1.take vx10_1.toNat ++ (List.replicate ((vl7_1.length : Int).toNat - vx10_1.toNat) z ++ vl7_1.drop (vx10_1.toNat + ((vl7_1.length : Int).toNat - vx10_1.toNat)))).take vx10_1.toNat))))
      (some (.inl (IntKind.wrap .i64 (vx + 1)))))
    (some (.inr (.inl ())))
noncomputable def gCom (t : α → α → Option Bool) (z : α) (qx : List α) : Option ((List α)) :=
  cond (decide ((qx.length : Int) < 2))
    (some qx)
    ((loopO (gC1 t z qx) 1).bind fun x => match x with
      | .inl _ =>
        some qx
      | .inr vx11_1 =>
        some vx11_1)

theorem take_part {l m : List α} {k : Nat} (h : k ≤ l.length) : (l.take k ++ m).take k = l.take k := by
  rw [List.take_append_of_le_length (by simp; omega), List.take_take]
  congr 1
  omega
end
end Go.Eng

/-
Insertion sorts; what is left of equal ones rises.
-/
namespace Go.Eng
open Go
set_option linter.unusedVariables false
set_option linter.unusedSimpArgs false
section
variable {α : Type}
/-- the first n are in order -/
def Ord (f : α → α → Int) (l : List α) (n : Nat) : Prop := ∀ p q (hp : p < q) (hq : q < n) (hn : n ≤ l.length), f (l[p]'(by omega)) (l[q]'(by omega)) ≤ 0

theorem gI2_ord {P : α → Prop} {f : α → α → Int} {c : α → α → Option Int} (hc : ∀ x y, P x → P y → c x y = some (f x y)) (anti : ∀ x y, f y x = - f x y) (tr : ∀ x y z, f x y ≤ 0 → f y z ≤ 0 → f x z ≤ 0)
    {n : Nat} (hn : n ≤ 100000) {l : List α} (hl : l.length = n) (hP : All P l) {i : Nat} (hi : i < n) (ho : Ord f l i) :
    Ok (loopO (gI2 c 0) (l, (i : Int))) (fun r => r.length = n ∧ All P r ∧ Ord f r (i + 1)) := by
  refine loop_ok (fun s : List α × Int => s.1.length = n ∧ All P s.1 ∧ ∃ j : Nat, s.2 = (j : Int) ∧ j ≤ i ∧ ∀ p q (hp : p < q) (hq : q ≤ i) (hqj : q ≠ j) (hs : i < s.1.length), f (s.1[p]'(by omega)) (s.1[q]'(by omega)) ≤ 0) (fun s => s.2.toNat) ?_
    ⟨hl, hP, i, rfl, Nat.le_refl _, fun p q hp hq hqj hs => ho p q hp (by omega) (by simp only at hs; omega)⟩
  rintro ⟨m, q⟩ ⟨m1, m2, j, rfl, j1, j2⟩
  simp only at m1 m2 j2
  unfold gI2 gI3
  by_cases hj : (0 : Int) < j
  · have w1 : IntKind.wrap .i64 ((j : Int) - 1) = ((j - 1 : Nat) : Int) := by rw [wrap64 (by omega) (by omega)]; omega
    have hjm : j < m.length := by omega
    have hjm1 : j - 1 < m.length := by omega
    have hy := m2 _ (List.getElem_mem hjm)
    have hx := m2 _ (List.getElem_mem hjm1)
    simp only [hj, decide_true, cond_true, w1, at_nat hjm, at_nat hjm1, Option.bind_some, hc _ _ hy hx]
    refine .cond (fun hlt => ?_) (fun hge => ?_)
    · have hlt := of_decide_eq_true hlt
      have g3 : at? (m.set (j : Int).toNat m[j - 1]) ((j - 1 : Nat) : Int) = some m[j - 1] := by
        rw [at_nat (by simp; omega)]
        simp only [Int.toNat_natCast, List.getElem_set]
        rw [if_neg (by omega)]
      rw [g3]
      simp only [Option.bind_some, Int.toNat_natCast]
      refine .some ⟨⟨by simp [m1], (m2.set hx).set hy, j - 1, rfl, by omega, ?_⟩, by simp only; omega⟩
      intro p q hp hq hqj hs
      simp only [List.getElem_set]
      have hin : i < m.length := by omega
      by_cases q1 : q = j
      · subst q1
        by_cases p1 : p = q - 1
        · subst p1
          have e1 : ¬ (q - 1 = q) := by omega
          simp only [e1, if_true, if_false]
          omega
        · have e1 : ¬ (q - 1 = p) := by omega
          have e2 : ¬ (q = p) := by omega
          have e3 : ¬ (q - 1 = q) := by omega
          simp only [e1, e2, e3, if_true, if_false]
          exact j2 p (q - 1) (by omega) (by omega) (by omega) hin
      · have e4 : ¬ (j = q) := by omega
        have e5 : ¬ (j - 1 = q) := by omega
        simp only [e4, e5, if_false]
        by_cases p1 : p = j - 1
        · subst p1
          simp only [if_true]
          exact j2 j q (by omega) hq q1 hin
        · by_cases p2 : p = j
          · subst p2
            have e6 : ¬ (p - 1 = p) := by omega
            simp only [e6, if_true, if_false]
            exact j2 (p - 1) q (by omega) hq q1 hin
          · have e7 : ¬ (j - 1 = p) := by omega
            have e8 : ¬ (j = p) := by omega
            simp only [e7, e8, if_false]
            exact j2 p q hp hq q1 hin
    · have hge := of_decide_eq_false hge
      refine .some ⟨m1, m2, fun p q hp hq hs => ?_⟩
      have hin : i < m.length := by omega
      by_cases q1 : q = j
      · subst q1
        have h0 : f m[q - 1] m[q] ≤ 0 := by have := anti m[q] m[q - 1]; omega
        by_cases p1 : p = q - 1
        · subst p1; exact h0
        · exact tr _ _ _ (j2 p (q - 1) (by omega) (by omega) (by omega) hin) h0
      · exact j2 p q hp (by omega) q1 hin
  · have hj' : ¬ (0 : Int) < j := hj
    have j0 : j = 0 := by omega
    subst j0
    simp only [hj', decide_false, cond_false, Option.bind_some]
    exact .some ⟨m1, m2, fun p q hp hq hs => j2 p q hp (by omega) (by omega) (by omega)⟩
theorem gI_ord {P : α → Prop} {f : α → α → Int} {c : α → α → Option Int} (hc : ∀ x y, P x → P y → c x y = some (f x y)) (anti : ∀ x y, f y x = - f x y) (tr : ∀ x y z, f x y ≤ 0 → f y z ≤ 0 → f x z ≤ 0)
    {l : List α} (hl : l.length ≤ 100000) (hP : All P l) : Ok (gI c l 0 l.length) (fun r => r.length = l.length ∧ All P r ∧ Ord f r l.length) := by
  unfold gI
  have w : IntKind.wrap .i64 ((0 : Int) + 1) = 1 := by decide
  rw [w]
  refine Ok.bind (P := fun r : List α => r.length = l.length ∧ All P r ∧ Ord f r l.length) (loop_ok (fun s : List α × Int => s.1.length = l.length ∧ All P s.1 ∧ ∃ i : Nat, s.2 = (i : Int) ∧ 1 ≤ i ∧ Ord f s.1 (min i l.length)) (fun s => ((l.length : Int) - s.2).toNat) ?_
    ⟨rfl, hP, 1, rfl, by omega, fun p q hp hq hn => by omega⟩) fun r hr => .some hr
  rintro ⟨m, q⟩ ⟨m1, m2, i, rfl, i1, i2⟩
  simp only at m1 m2 i2
  unfold gI1
  by_cases hi : i < l.length
  · have hi' : (i : Int) < l.length := by omega
    have w1 : IntKind.wrap .i64 ((i : Int) + 1) = ((i + 1 : Nat) : Int) := by rw [wrap64 (by omega) (by omega)]; omega
    simp only [hi', decide_true, cond_true]
    rw [Nat.min_eq_left (by omega)] at i2
    refine (gI2_ord hc anti tr (n := l.length) hl m1 m2 hi i2).bind fun r hr => ?_
    rw [w1]
    refine .some ⟨⟨hr.1, hr.2.1, i + 1, rfl, by omega, ?_⟩, by simp only; omega⟩
    rw [Nat.min_eq_left (by omega)]
    exact hr.2.2
  · have hi' : ¬ (i : Int) < l.length := by omega
    simp only [hi', decide_false, cond_false]
    rw [Nat.min_eq_right (by omega)] at i2
    exact .some ⟨m1, m2, i2⟩
end
end Go.Eng

/-
Loops that only gather.
-/
namespace Go.Eng
open Go
set_option linter.unusedVariables false
set_option linter.unusedSimpArgs false

/-- A loop over all elements of a list that only gathers. -/
theorem fold_loop0 {τ σ ρ α : Type} {l : List α} {f : τ → Option (τ ⊕ ρ)} (e : σ → Int → τ) (h : σ → α → σ) (fin : σ → ρ) (I : Nat → σ → Prop) {s0 : σ} (hl : (l.length : Int) ≤ 9223372036854775807)
    (hf : ∀ (i : Nat) (hi : i < l.length) (s : σ), I i s → f (e s i) = some (.inl (e (h s l[i]) (IntKind.wrap .i64 (i + 1)))) ∧ I (i + 1) (h s l[i])) (hd : ∀ s, I l.length s → f (e s l.length) = some (.inr (fin s))) (h0 : I 0 s0) :
    loopO f (e s0 0) = some (fin (l.foldl h s0)) ∧ I l.length (l.foldl h s0) := by
  have key : ∀ (n i : Nat) (s : σ), l.length - i = n → i ≤ l.length → I i s → loopO f (e s i) = some (fin ((l.drop i).foldl h s)) ∧ I l.length ((l.drop i).foldl h s) := by
    intro n
    induction n with
    | zero =>
      intro i s h1 h2 h3
      have : i = l.length := by omega
      subst this
      rw [List.drop_length]
      refine ⟨?_, h3⟩
      rw [loopO_eq, hd s h3]
      rfl
    | succ n ih =>
      intro i s h1 h2 h3
      have hi : i < l.length := by omega
      obtain ⟨g1, g2⟩ := hf i hi s h3
      obtain ⟨f1, f2⟩ := ih (i + 1) (h s l[i]) (by omega) (by omega) g2
      rw [List.drop_eq_getElem_cons hi, List.foldl_cons]
      refine ⟨?_, f2⟩
      rw [loopO_eq, g1]
      simp only [Option.bind_some]
      rw [wrap64 (by omega) (by omega)]
      exact f1
  have := key l.length 0 s0 (by omega) (by omega) h0
  simpa using this
theorem scan_find0 {α : Type} {p : α → Bool} : ∀ {l : List α} {k : Nat}, ∃ r : Int, (match (scan (fun i x => cond (p x) (some (Sum.inr (i : Int) : Unit ⊕ Int)) none) k l).getD (.inl ()) with | .inl _ => (-1 : Int) | .inr v => v) = r ∧ decide (0 ≤ r) = l.any p
  | [], k => ⟨-1, rfl, rfl⟩
  | x :: l, k => by
    simp only [scan, List.any_cons]
    cases p x with
    | true => exact ⟨k, rfl, by simp⟩
    | false => simp only [cond_false, Bool.false_or]; exact scan_find0 (l := l) (k := k + 1)
/-- A search for the first element that meets a test: is there one? -/
theorem find_loop {α : Type} {l : List α} {f : Int → Option (Int ⊕ (Unit ⊕ Int))} (p : α → Bool) (hl : (l.length : Int) ≤ 9223372036854775807)
    (hf : ∀ (i : Nat) (h : i < l.length), f i = some (cond (p l[i]) (.inr (.inr (i : Int))) (.inl (IntKind.wrap .i64 ((i : Int) + 1))))) (hd : f l.length = some (.inr (.inl ()))) :
    ∃ x, loopO f 0 = some x ∧ decide (0 ≤ (match x with | .inl _ => (-1 : Int) | .inr v => v)) = l.any p := by
  refine ⟨_, range_loop (l := l) (fun i x => cond (p x) (some (.inr (i : Int))) none) (.inl ()) hl (fun i h => ?_) hd, ?_⟩
  · rw [hf i h]
    cases p l[i] <;> rfl
  · obtain ⟨r, h1, h2⟩ := scan_find0 (p := p) (l := l) (k := 0)
    rw [h1]; exact h2
end Go.Eng

/-
What the laws ask of each package once.
-/
namespace Go.Eng
open Go
end Go.Eng

/-
Twins: the order of names and of stamps; sorted cells as tables; merging.
-/
namespace Go.Eng
open Go
set_option linter.unusedVariables false
set_option linter.unusedSimpArgs false

/-! ### Orders -/
theorem cmpB_tr : ∀ {a b c : List UInt8}, Lib.compareBytes a b ≤ 0 → Lib.compareBytes b c ≤ 0 → Lib.compareBytes a c ≤ 0
  | [], [], c, _, h => h
  | [], _ :: _, [], _, _ => by simp [Lib.compareBytes]
  | [], _ :: _, _ :: _, _, _ => by simp [Lib.compareBytes]
  | _ :: _, [], _, h, _ => by simp [Lib.compareBytes] at h
  | _ :: _, _ :: _, [], _, h => by simp [Lib.compareBytes] at h
  | x :: a, y :: b, z :: c, h1, h2 => by
    unfold Lib.compareBytes at *
    by_cases xy : x < y
    · by_cases yz : y < z
      · simp [UInt8.lt_trans xy yz]
      · by_cases zy : z < y
        · simp [yz, zy] at h2
        · have e : y = z := UInt8.le_antisymm (UInt8.not_lt.1 zy) (UInt8.not_lt.1 yz)
          subst e; simp [xy]
    · by_cases yx : y < x
      · simp [xy, yx] at h1
      · have e : x = y := UInt8.le_antisymm (UInt8.not_lt.1 yx) (UInt8.not_lt.1 xy)
        subst e
        simp only [xy, if_false] at h1
        by_cases xz : x < z
        · simp [xz]
        · by_cases zx : z < x
          · simp [xz, zx] at h2
          · simp only [xz, zx, if_false] at h2 ⊢
            exact cmpB_tr h1 h2
/-- one name is ahead of another one -/
def nlt (a b : List UInt8) : Prop := Lib.compareBytes a b < 0
theorem nlt_irrefl (a : List UInt8) : ¬ nlt a a := by unfold nlt; rw [cmpB_self]; omega
theorem nlt_trans {a b c : List UInt8} (h1 : nlt a b) (h2 : nlt b c) : nlt a c := by
  unfold nlt at *
  have h := cmpB_tr (a := a) (b := b) (c := c) (by omega) (by omega)
  by_cases h0 : Lib.compareBytes a c = 0
  · have := cmpB_zero.1 h0
    subst this
    have := cmpB_anti a b
    omega
  · omega
theorem nlt_asymm {a b : List UInt8} (h : nlt a b) : ¬ nlt b a := fun h2 => nlt_irrefl a (nlt_trans h h2)
theorem nlt_ne {a b : List UInt8} (h : nlt a b) : a ≠ b := fun e => nlt_irrefl b (e ▸ h)
theorem cmpB_cases (a b : List UInt8) : nlt a b ∨ a = b ∨ nlt b a := by
  unfold nlt
  have := cmpB_anti a b
  by_cases h0 : Lib.compareBytes a b = 0
  · exact .inr (.inl (cmpB_zero.1 h0))
  · omega
theorem or0_zero {a b : Int} : or0 a b = 0 ↔ a = 0 ∧ b = 0 := by unfold or0; split <;> omega
/-! ### Sorted cells -/
/-! ### Merging -/
theorem veq_iff {a b : api_Value} : (decide (a.Kind = b.Kind) && ((a.Flag == b.Flag) && (decide (a.Number = b.Number) && (decide (a.Words = b.Words) && true)))) = true ↔ a = b := by
  obtain ⟨a1, a2, a3, a4⟩ := a
  obtain ⟨b1, b2, b3, b4⟩ := b
  simp
end Go.Eng

/-
Twins: the code's merging and checks are those of tables.
-/
namespace Go.Eng
open Go
set_option linter.unusedVariables false
set_option linter.unusedSimpArgs false

theorem lim_ok {n : Nat} (h : n ≤ 100000) : Nat.ble n LIM = true := ble_lim (by omega)

/-! ### Checks -/
end Go.Eng

/-
Twins: merging in any order; what is visible.
-/
namespace Go.Eng
open Go
set_option linter.unusedVariables false
set_option linter.unusedSimpArgs false

/-! ### Merging in any order -/
end Go.Eng

/-
Twins: what is visible; checks of properties; searching.
-/
namespace Go.Eng
open Go
set_option linter.unusedVariables false
set_option linter.unusedSimpArgs false

/-! ### Names below names -/
/-- the first name is below the second one -/
def belB (n a : List UInt8) : Bool := (a ++ [46]).isPrefixOf n
theorem bel_iff {n a : List UInt8} : belB n a = true ↔ ∃ r, n = a ++ 46 :: r := by
  unfold belB
  rw [List.isPrefixOf_iff_prefix]
  constructor
  · rintro ⟨r, h⟩; exact ⟨r, by rw [← h]; simp⟩
  · rintro ⟨r, h⟩; exact ⟨r, by rw [h]; simp⟩
/-! ### What hides what -/
theorem foldl_filter {α β : Type} (p : α → Bool) (f : α → β) : ∀ (l : List α) (s : List β), l.foldl (fun s c => bif p c then s ++ [f c] else s) s = s ++ (l.filter p).map f
  | [], s => by simp
  | x :: l, s => by
    rw [List.foldl_cons, foldl_filter p f l]
    cases hp : p x <;> simp [hp]
/-! ### Searching -/
def PSrt (l : List api_Prop) : Prop := l.Pairwise fun x y => nlt x.Name y.Name
theorem mid_eq {s : Int} (h0 : 0 ≤ s) (h1 : s ≤ 100000) : IntKind.wrap .i64 (ishr .u64 (IntKind.wrap .u64 (IntKind.wrap .i64 s)) 1) = s / 2 := by
  have w1 : IntKind.wrap .i64 s = s := wrap64 (by omega) (by omega)
  have w2 : IntKind.wrap .u64 s = s := by unfold IntKind.wrap; simp [IntKind.min, IntKind.max, IntKind.bits, IntKind.signed]; omega
  have w3 : ishr .u64 s 1 = s / 2 := by
    unfold ishr
    simp [IntKind.bits]
    exact Int.fdiv_eq_ediv_of_nonneg s (by omega)
  rw [w1, w2, w3, wrap64 (by omega) (by omega)]
theorem find_eq {l : List api_Prop} (hs : PSrt l) (hl : l.length ≤ 10000) (t : List UInt8) :
    (twin_find l t = some (-1) ∧ ∀ q ∈ l, q.Name ≠ t) ∨ ∃ (i : Nat) (h : i < l.length), twin_find l t = some (i : Int) ∧ l[i].Name = t := by
  have key : ∃ i : Nat, i ≤ l.length ∧ loopO (slices_BinarySearchFunc_api_Prop_api_Prop_string_f2_twin_find_1_x1 l t) (0, (l.length : Int)) = some (i : Int) ∧ (∀ k (h : k < l.length), k < i → nlt l[k].Name t) ∧ (∀ k (h : k < l.length), i ≤ k → ¬ nlt l[k].Name t) := by
    obtain ⟨r, h1, i, h2, h3⟩ := loop_ok (f := slices_BinarySearchFunc_api_Prop_api_Prop_string_f2_twin_find_1_x1 l t) (Q := fun r : Int => ∃ i : Nat, r = i ∧ i ≤ l.length ∧ (∀ k (h : k < l.length), k < i → nlt l[k].Name t) ∧ (∀ k (h : k < l.length), i ≤ k → ¬ nlt l[k].Name t))
      (fun s => ∃ i j : Nat, s = ((i : Int), (j : Int)) ∧ i ≤ j ∧ j ≤ l.length ∧ (∀ k (h : k < l.length), k < i → nlt l[k].Name t) ∧ (∀ k (h : k < l.length), j ≤ k → ¬ nlt l[k].Name t)) (fun s => (s.2 - s.1).toNat) (by
        rintro _ ⟨i, j, rfl, ij, jl, lo, hi⟩
        unfold slices_BinarySearchFunc_api_Prop_api_Prop_string_f2_twin_find_1_x1
        refine .cond (fun hc => ?_) (fun hc => ?_)
        · have hc : (i : Int) < j := by simpa using hc
          have hm : IntKind.wrap .i64 (ishr .u64 (IntKind.wrap .u64 (IntKind.wrap .i64 ((i : Int) + j))) 1) = (((i + j) / 2 : Nat) : Int) := by rw [mid_eq (by omega) (by omega)]; omega
          have hml : (i + j) / 2 < l.length := by omega
          rw [hm, at_nat hml]
          have hf1 : twin_find_1 l[(i + j) / 2] t = some () := rfl
          simp only [Option.bind_some]
          have hf1' : twin_find_1 (api_Prop.mk l[(i + j) / 2].Name (api_Value.mk l[(i + j) / 2].Value.Kind l[(i + j) / 2].Value.Flag l[(i + j) / 2].Value.Number l[(i + j) / 2].Value.Words)) t = some () := rfl
          rw [hf1']
          simp only [Option.bind_some]
          refine .cond (fun h => ?_) (fun h => ?_)
          · have h : nlt l[(i + j) / 2].Name t := by unfold nlt; simpa using h
            have w : IntKind.wrap .i64 ((((i + j) / 2 : Nat) : Int) + 1) = (((i + j) / 2 + 1 : Nat) : Int) := by rw [wrap64 (by omega) (by omega)]; omega
            rw [w]
            refine .some ⟨⟨(i + j) / 2 + 1, j, rfl, by omega, jl, fun k hk hki => ?_, hi⟩, by simp only; omega⟩
            by_cases e : k = (i + j) / 2
            · subst e; exact h
            · exact nlt_trans ((List.pairwise_iff_getElem.1 hs) k ((i + j) / 2) hk hml (by omega)) h
          · have h : ¬ nlt l[(i + j) / 2].Name t := by unfold nlt; simpa using h
            refine .some ⟨⟨i, (i + j) / 2, rfl, by omega, by omega, lo, fun k hk hki => ?_⟩, by simp only; omega⟩
            by_cases e : k = (i + j) / 2
            · subst e; exact h
            · exact fun hn => h (nlt_trans ((List.pairwise_iff_getElem.1 hs) ((i + j) / 2) k hml hk (by omega)) hn)
        · have hc : ¬ (i : Int) < j := by simpa using hc
          have e : i = j := by omega
          subst e
          exact .some ⟨i, rfl, jl, lo, hi⟩) (s := ((0 : Int), (l.length : Int))) ⟨0, l.length, rfl, by omega, by omega, fun k h hk => by omega, fun k h hk => by omega⟩
    subst h2
    exact ⟨i, h3.1, h1, h3.2⟩
  obtain ⟨i, h0, h1, lo, hi⟩ := key
  unfold twin_find slices_BinarySearchFunc_api_Prop_api_Prop_string_f2_twin_find_1
  rw [h1]
  simp only [Option.bind_some]
  have far : ∀ (k : Nat) (h : k < l.length), l[k].Name = t → k = i := by
    intro k hk e
    rcases Nat.lt_trichotomy k i with h | h | h
    · have := lo k hk h; rw [e] at this; exact absurd this (nlt_irrefl _)
    · exact h
    · have h2 : i < l.length := by omega
      have h3 := hi i h2 (Nat.le_refl _)
      have h4 := (List.pairwise_iff_getElem.1 hs) i k h2 hk h
      rw [e] at h4
      exact absurd h4 h3
  unfold slices_BinarySearchFunc_api_Prop_api_Prop_string_f2_twin_find_1_x2
  by_cases hil : (i : Int) < l.length
  · have hil' : i < l.length := by omega
    simp only [hil, decide_true, cond_true, at_nat hil', Option.bind_some]
    have hf1' : twin_find_1 (api_Prop.mk l[i].Name (api_Value.mk l[i].Value.Kind l[i].Value.Flag l[i].Value.Number l[i].Value.Words)) t = some () := rfl
    rw [hf1']
    simp only [Option.bind_some]
    by_cases hz : Lib.compareBytes l[i].Name t = 0
    · right
      refine ⟨i, hil', ?_, cmpB_zero.1 hz⟩
      simp [hz]
    · left
      refine ⟨by simp [hz], fun q hq e => ?_⟩
      obtain ⟨k, hk, rfl⟩ := List.mem_iff_getElem.1 hq
      have := far k hk e
      subst this
      exact hz (cmpB_zero.2 e)
  · left
    refine ⟨by simp [hil], fun q hq e => ?_⟩
    obtain ⟨k, hk, rfl⟩ := List.mem_iff_getElem.1 hq
    have := far k hk e
    omega

/-! ### Checks of properties -/
def GP (p : api_Prop) : Prop := twin_isName p.Name = some true ∧ twin_valueFault p.Value = some 0 ∧ p.Value.Kind ≠ 0
/-! ### Equal rows -/
end Go.Eng

/-
What is left of a sorted row, each key once.
-/
namespace Go.Eng
open Go
set_option linter.unusedVariables false
set_option linter.unusedSimpArgs false
section
variable {α : Type}
end
end Go.Eng

/-
The streams.
-/
namespace Go.Eng
open Go
set_option linter.unusedVariables false
set_option linter.unusedSimpArgs false

theorem wrap_I64 (n : Int) : I64 (IntKind.wrap .i64 n) := by
  unfold IntKind.wrap I64
  simp [IntKind.bits, IntKind.signed]
  split <;> omega

theorem Below_eq {x n : Int} (hx : I64 x) (hn : I64 n) : fleetmake_Below x n = some (if n < 1 then 0 else x % n) := by
  unfold I64 at hx hn
  unfold fleetmake_Below fleetmake_Below_x1
  by_cases h : n < 1
  · simp [h]
  · have h0 : (n == 0) = false := by simp; omega
    have e := Int.emod_eq_tmod (a := x) (b := n)
    have nn := Int.emod_nonneg x (show n ≠ 0 by omega)
    have lt := Int.emod_lt_of_pos x (show 0 < n by omega)
    simp only [h, decide_false, cond_false, h0, Bool.not_false, gd, cond_true, Option.bind_some, if_false]
    by_cases h3 : x.tmod n < 0
    · simp only [h3, decide_true, cond_true, Option.bind_some]
      split at e
      · omega
      · rw [wrap64 (by omega) (by omega)]
        congr 1
        omega
    · simp only [h3, decide_false, cond_false, Option.bind_some]
      congr 1
      split at e <;> omega
theorem Below_ok {x n : Int} (hx : I64 x) (hn : I64 n) : Ok (fleetmake_Below x n) (fun r => (1 ≤ n → 0 ≤ r ∧ r < n) ∧ (n < 1 → r = 0)) := by
  refine .of_eq (Below_eq hx hn) ⟨fun h => ?_, fun h => by simp [h]⟩
  rw [if_neg (by omega)]
  exact ⟨Int.emod_nonneg _ (by omega), Int.emod_lt_of_pos _ (by omega)⟩

/-- A stream whose numbers are of 64 bits, of which at most k were taken. -/
def StrOk (k : Nat) (s : fleetmake_Stream) : Prop := 0 ≤ s.at_ ∧ s.at_ ≤ k ∧ s.L.length ≤ 9223372036854775807 ∧ ∀ n ∈ s.L, I64 n
theorem StrOk.mono {k k' : Nat} {s : fleetmake_Stream} (h : StrOk k s) (hk : k ≤ k') : StrOk k' s := ⟨h.1, by have := h.2.1; omega, h.2.2⟩
/-- One number further. -/
abbrev nxt (s : fleetmake_Stream) : fleetmake_Stream := fleetmake_Stream.mk s.L (IntKind.wrap .i64 (s.at_ + 1))
theorem StrOk.nxt {k : Nat} {s : fleetmake_Stream} (h : StrOk k s) (hk : k < 1099511627776) : StrOk (k + 1) (nxt s) := by
  obtain ⟨h1, h2, h3, h4⟩ := h
  refine ⟨?_, ?_, h3, h4⟩
  · show 0 ≤ IntKind.wrap .i64 (s.at_ + 1)
    rw [wrap64 (by omega) (by omega)]; omega
  · show IntKind.wrap .i64 (s.at_ + 1) ≤ _
    rw [wrap64 (by omega) (by omega)]; omega

theorem Next_ok {k : Nat} {s : fleetmake_Stream} {n : Int} (h : StrOk k s) (hk : k < 1099511627776) (hn : I64 n) : Ok (fleetmake_Stream_Next s n) (fun r => (1 ≤ n → 0 ≤ r ∧ r < n) ∧ (n < 1 → r = 0)) := by
  obtain ⟨h1, h2, h3, h4⟩ := h
  unfold fleetmake_Stream_Next
  refine .cond (fun _ => ?_) (fun hl => ?_)
  · exact (Below_ok (wrap_I64 _) hn).bind fun r hr => .some hr
  · have hl' : s.L.length ≠ 0 := by simpa using hl
    have e1 : IntKind.wrap .i64 (s.at_ + 1) = s.at_ + 1 := wrap64 (by omega) (by omega)
    have e2 : IntKind.wrap .i64 (s.at_ + 1 - 1) = s.at_ := by rw [wrap64 (by omega) (by omega)]; omega
    refine .gd (by simpa using hl') ?_
    rw [e1, e2]
    refine (at_mem (tmod_nonneg h1) (tmod_lt' (by omega))).bind fun y hy => ?_
    refine (Below_ok (h4 y hy) (by unfold I64; omega)).bind fun r1 hr1 => ?_
    exact (Below_ok (wrap_I64 _) hn).bind fun r hr => .some hr

theorem Pick_ok {k : Nat} {s : fleetmake_Stream} {l : List Int} (h : StrOk k s) (hk : k < 1099511627776) (hl : 0 < l.length) (hl2 : l.length < 1000) : Ok (fleetmake_Stream_Pick_o1 s l) (fun r => r ∈ l) := by
  unfold fleetmake_Stream_Pick_o1
  refine (Next_ok h hk (by unfold I64; omega)).bind fun r hr => ?_
  have := hr.1 (by omega)
  exact (at_mem this.1 this.2).bind fun y hy => .some hy
theorem Some_ok {k : Nat} {s : fleetmake_Stream} {l : List (List UInt8)} (h : StrOk k s) (hk : k < 1099511627776) (hl : 0 < l.length) (hl2 : l.length < 1000) : Ok (fleetmake_Stream_Some_o1 s l) (fun r => r ∈ l) := by
  unfold fleetmake_Stream_Some_o1
  refine (Next_ok h hk (by unfold I64; omega)).bind fun r hr => ?_
  have := hr.1 (by omega)
  exact (at_mem this.1 this.2).bind fun y hy => .some hy
theorem Flip_ok {k : Nat} {s : fleetmake_Stream} {n : Int} (h : StrOk k s) (hk : k < 1099511627776) (hn : I64 n) : Ok (fleetmake_Stream_Flip s n) (fun _ => True) := by
  unfold fleetmake_Stream_Flip
  exact (Next_ok h hk hn).bind fun r hr => .some trivial
theorem Range_ok {k : Nat} {s : fleetmake_Stream} {low high : Int} (h : StrOk k s) (hk : k < 1099511627776) (hlow : -4611686018427387903 < low ∧ low < 4611686018427387904) (hh : -4611686018427387904 < high ∧ high < 4611686018427387903) :
    Ok (fleetmake_Stream_Range s low high) (fun r => StrOk (k + 1) r.1 ∧ low ≤ r.2 ∧ (low ≤ high → r.2 ≤ high) ∧ (high < low → r.2 = low)) := by
  unfold fleetmake_Stream_Range
  refine .cond (fun hc => ?_) (fun hc => ?_)
  · have hc' : high < low := by simpa using hc
    exact .some ⟨h.mono (by omega), Int.le_refl _, by intro h; omega, fun _ => rfl⟩
  · have hc' : ¬ high < low := by simpa using hc
    have e1 : IntKind.wrap .i64 (high - low) = high - low := wrap64 (by omega) (by omega)
    have e2 : IntKind.wrap .i64 (high - low + 1) = high - low + 1 := wrap64 (by omega) (by omega)
    rw [e1, e2]
    refine (Next_ok h hk (by unfold I64; omega)).bind fun r hr => ?_
    have := hr.1 (by omega)
    refine .some ⟨h.nxt hk, ?_, fun _ => ?_, fun h => by omega⟩
    · show low ≤ IntKind.wrap .i64 (low + r)
      rw [wrap64 (by omega) (by omega)]; omega
    · show IntKind.wrap .i64 (low + r) ≤ high
      rw [wrap64 (by omega) (by omega)]; omega
end Go.Eng

/-
The law CellsInAnyOrder: cells that streams make; cells that are merged in any order.
-/
namespace Go.Eng
open Go
set_option linter.unusedVariables false
set_option linter.unusedSimpArgs false

/-! ### Cells that streams make -/
def nm7 : List (List UInt8) := [[97], [97, 46, 120], [97, 46, 121], [97, 46, 120, 46, 112], [98], [98, 46, 122], [97, 98]]
def rk (n : List UInt8) : Int := if n = [97] then 0 else if n = [97, 46, 120] then 1 else if n = [97, 46, 120, 46, 112] then 2 else if n = [97, 46, 121] then 3 else if n = [97, 98] then 4 else if n = [98] then 5 else 6
theorem rk_all : (nm7.all fun x => nm7.all fun y => (decide (Lib.compareBytes x y ≤ 0) == decide (rk x ≤ rk y)) && (decide (Lib.compareBytes x y < 0) == decide (rk x < rk y)) && (decide (rk x = rk y) == decide (x = y))) = true := by decide
theorem rk_spec {x y : List UInt8} (hx : x ∈ nm7) (hy : y ∈ nm7) : (Lib.compareBytes x y ≤ 0 ↔ rk x ≤ rk y) ∧ (nlt x y ↔ rk x < rk y) ∧ (rk x = rk y ↔ x = y) := by
  have := List.all_eq_true.1 (List.all_eq_true.1 rk_all x hx) y hy
  simp only [Bool.and_eq_true, beq_iff_eq, decide_eq_decide] at this
  exact ⟨this.1.1, this.1.2, this.2⟩
theorem nm7_ok : (nm7.all fun n => decide (twin_isName n = some true)) = true := by kernel_rfl
theorem nm7_len : (nm7.all fun n => decide (n.length ≤ 10)) = true := by decide
theorem nxt_mk {k : Nat} {s : fleetmake_Stream} (h : StrOk k s) (hk : k < 1099511627776) : StrOk (k + 1) (fleetmake_Stream.mk s.L (IntKind.wrap .i64 (s.at_ + 1))) := h.nxt hk
/-! ### In any order -/
end Go.Eng

/-
The law CompactStays: what nobody needs any more is left out; what is visible stays, also after a merge with what comes later.
-/
namespace Go.Eng
open Go
set_option linter.unusedVariables false
set_option linter.unusedSimpArgs false

/-! ### Compact -/
/-! ### What is left -/
/-! ### Equal rows of properties -/
theorem pEqual_self {l : List api_Prop} (hl : (l.length : Int) ≤ 9223372036854775807) : slices_Equal_api_Prop_api_Prop l l = some true := by
  unfold slices_Equal_api_Prop_api_Prop
  simp only [decide_true, Bool.not_true, cond_false]
  rw [range_loop (l := l) (fun _ _ => none) (.inl ()) hl]
  · have : ∀ (k : Nat) (m : List api_Prop), scan (fun (_ : Nat) (_ : api_Prop) => (none : Option (Unit ⊕ Unit))) k m = none := fun k m => scan_none.2 fun _ _ _ => rfl
    rw [this]; rfl
  · intro i hi
    unfold slices_Equal_api_Prop_api_Prop_x1
    have hc : (i : Int) < l.length := by omega
    simp only [hc, decide_true, cond_true, at_nat hi, Option.bind_some, beq_self_eq_true, Bool.and_self, Bool.and_true]
    rfl
  · unfold slices_Equal_api_Prop_api_Prop_x1; simp
/-! ### Later cells -/
end Go.Eng

/-
Sorting of up to fifteen: the code's quicksort that defeats patterns; it never comes to heap sort.
-/
namespace Go.Eng
open Go
set_option linter.unusedVariables false
set_option linter.unusedSimpArgs false
set_option linter.unusedSectionVars false
section
variable {α : Type}
noncomputable def pN (qlength : Int) : Option (Int) :=
  (bits_Len (IntKind.wrap .u64 (qlength))).bind fun vr1 =>
  gd (decide (0 ≤ vr1)) <|
  some (ishl .u64 1 vr1)
noncomputable def pX (qr : Int) : Option (Unit) :=
  some ()
noncomputable def pO (c : α → α → Option Int) (qdata : List α) (qa : Int) (qb : Int) (qswaps : Int) : Option (Int × Int × Int) :=
  (at? qdata qb).bind fun vy =>
  (at? qdata qa).bind fun vy1 =>
  (c vy vy1).bind fun vcc =>
  cond (decide (vcc < 0))
    (some (IntKind.wrap .i64 (qswaps + 1), qb, qa))
    (some (qswaps, qa, qb))

noncomputable def pM (c : α → α → Option Int) (qdata : List α) (qa : Int) (qb : Int) (qc : Int) (qswaps : Int) : Option (Int × Int) :=
  (pO c qdata qa qb qswaps).bind fun (vs, vr, vr1) =>
  (pO c qdata vr1 qc vs).bind fun (vs1, vr2, vr1_1) =>
  (pO c qdata vr vr2 vs1).bind fun (vs2, vr3, vr1_2) =>
  some (vs2, vr1_2)

noncomputable def pMA (c : α → α → Option Int) (qdata : List α) (qa : Int) (qswaps : Int) : Option (Int × Int) :=
  (pM c qdata (IntKind.wrap .i64 (qa - 1)) qa (IntKind.wrap .i64 (qa + 1)) qswaps).bind fun (vs3, vr4) =>
  some (vs3, vr4)

noncomputable def pCx2 (c : α → α → Option Int) (qdata : List α) (qa : Int) (qb : Int) : Option ((Int × Int × Int × Int)) :=
  cond (decide (50 ≤ (IntKind.wrap .i64 (qb - qa))))
    ((pMA c qdata (IntKind.wrap .i64 (qa + (IntKind.wrap .i64 ((IntKind.wrap .i64 ((IntKind.wrap .i64 (qb - qa)).tdiv 4)) * 1)))) 0).bind fun (vs, vr) =>
    (pMA c qdata (IntKind.wrap .i64 (qa + (IntKind.wrap .i64 ((IntKind.wrap .i64 ((IntKind.wrap .i64 (qb - qa)).tdiv 4)) * 2)))) vs).bind fun (vs1, vr1) =>
    (pMA c qdata (IntKind.wrap .i64 (qa + (IntKind.wrap .i64 ((IntKind.wrap .i64 ((IntKind.wrap .i64 (qb - qa)).tdiv 4)) * 3)))) vs1).bind fun (vs2, vr2) =>
    some (vs2, vr, vr1, vr2))
    (some (0, IntKind.wrap .i64 (qa + (IntKind.wrap .i64 ((IntKind.wrap .i64 ((IntKind.wrap .i64 (qb - qa)).tdiv 4)) * 1))), IntKind.wrap .i64 (qa + (IntKind.wrap .i64 ((IntKind.wrap .i64 ((IntKind.wrap .i64 (qb - qa)).tdiv 4)) * 2))), IntKind.wrap .i64 (qa + (IntKind.wrap .i64 ((IntKind.wrap .i64 ((IntKind.wrap .i64 (qb - qa)).tdiv 4)) * 3)))))

noncomputable def pCx1 (c : α → α → Option Int) (qdata : List α) (qa : Int) (qb : Int) : Option ((Int × Int)) :=
  cond (decide (8 ≤ (IntKind.wrap .i64 (qb - qa))))
    ((pCx2 c qdata qa qb).bind fun (vswaps1, vi1, vj1, vk1) =>
    (pM c qdata vi1 vj1 vk1 vswaps1).bind fun (vs3, vr4) =>
    some (vs3, vr4))
    (some (0, IntKind.wrap .i64 (qa + (IntKind.wrap .i64 ((IntKind.wrap .i64 ((IntKind.wrap .i64 (qb - qa)).tdiv 4)) * 2)))))

noncomputable def pC (c : α → α → Option Int) (qdata : List α) (qa : Int) (qb : Int) : Option (Int × Int) :=
  (pCx1 c qdata qa qb).bind fun (vswaps2_1, vj2_1) =>
  cond (decide (vswaps2_1 = 0))
    (some (vj2_1, 1))
    (cond (decide (vswaps2_1 = 12))
      (some (vj2_1, 2))
      (some (vj2_1, 0)))

noncomputable def pRx1 : (List α) × Int × Int → Option (((List α) × Int × Int) ⊕ ((List α)))
  | (vl, vi, vj) =>
  cond (decide (vi < vj))
    ((at? vl vj).bind fun vy3 =>
    (at? vl vi).bind fun vy4 =>
    (at? (vl.set vi.toNat vy3) vj).bind fun vy5 =>
    some (.inl ((vl.set vi.toNat vy3).set vj.toNat vy4, IntKind.wrap .i64 (vi + 1), IntKind.wrap .i64 (vj - 1))))
    (some (.inr vl))

noncomputable def pR (qdata : List α) (qa : Int) (qb : Int) : Option ((List α)) :=
  (loopO pRx1 (qdata, qa, IntKind.wrap .i64 (qb - 1))).bind fun vl1_1 =>
  some vl1_1

noncomputable def pIx4 (c : α → α → Option Int) (qx2 : Int) (vl : List α) (vx10 : Int) : Option (Bool) :=
  cond (decide (vx10 < qx2))
    ((at? vl vx10).bind fun vy21 =>
    (at? vl (IntKind.wrap .i64 (vx10 - 1))).bind fun vy22 =>
    (c vy21 vy22).bind fun vcc =>
    some (!(decide (vcc < 0))))
    (some false)

noncomputable def pIx3 (c : α → α → Option Int) (qx2 : Int) (vl : List α) (vx10 : Int) : Option ((Int) ⊕ (Int)) :=
  (pIx4 c qx2 vl vx10).bind fun vx12_1 =>
  cond (vx12_1)
    (some (.inl (IntKind.wrap .i64 (vx10 + 1))))
    (some (.inr vx10))

noncomputable def pIx6 (c : α → α → Option Int) : (List α) × Int → Option (((List α) × Int) ⊕ ((List α)))
  | (vl7, vx14) =>
  cond (decide (1 ≤ vx14))
    ((at? vl7 vx14).bind fun vy29 =>
    (at? vl7 (IntKind.wrap .i64 (vx14 - 1))).bind fun vy30 =>
    (c vy29 vy30).bind fun vcc =>
    cond (!(decide (vcc < 0)))
      (some (.inr vl7))
      ((at? (vl7.set vx14.toNat vy30) (IntKind.wrap .i64 (vx14 - 1))).bind fun vy31 =>
      some (.inl ((vl7.set vx14.toNat vy30).set (IntKind.wrap .i64 (vx14 - 1)).toNat vy29, IntKind.wrap .i64 (vx14 - 1)))))
    (some (.inr vl7))

noncomputable def pIx5 (c : α → α → Option Int) (qx1 : Int) (vl : List α) (vx13_1 : Int) (vy23 : α) (vy24 : α) : Option ((List α)) :=
  cond (decide (2 ≤ (IntKind.wrap .i64 (vx13_1 - qx1))))
    ((loopO (pIx6 c) ((vl.set vx13_1.toNat vy23).set (IntKind.wrap .i64 (vx13_1 - 1)).toNat vy24, IntKind.wrap .i64 (vx13_1 - 1))).bind fun vl8_1 =>
    some vl8_1)
    (some ((vl.set vx13_1.toNat vy23).set (IntKind.wrap .i64 (vx13_1 - 1)).toNat vy24))

noncomputable def pIx7 (c : α → α → Option Int) (qx2 : Int) : (List α) × Int → Option (((List α) × Int) ⊕ ((List α)))
  | (vl10, vx15) =>
  cond (decide (vx15 < qx2))
    ((at? vl10 vx15).bind fun vy35 =>
    (at? vl10 (IntKind.wrap .i64 (vx15 - 1))).bind fun vy36 =>
    (c vy35 vy36).bind fun vcc =>
    cond (!(decide (vcc < 0)))
      (some (.inr vl10))
      ((at? (vl10.set vx15.toNat vy36) (IntKind.wrap .i64 (vx15 - 1))).bind fun vy37 =>
      some (.inl ((vl10.set vx15.toNat vy36).set (IntKind.wrap .i64 (vx15 - 1)).toNat vy35, IntKind.wrap .i64 (vx15 + 1)))))
    (some (.inr vl10))

noncomputable def pIx2 (c : α → α → Option Int) (qx1 : Int) (qx2 : Int) (vl : List α) (vx : Int) : Option (((List α) × Int) ⊕ Bool) :=
  (loopO (pIx3 c qx2 vl) vx).bind fun vx13_1 =>
  cond (decide (vx13_1 = qx2))
    (some (.inr true))
    (cond (decide ((IntKind.wrap .i64 (qx2 - qx1)) < 50))
      (some (.inr false))
      ((at? vl (IntKind.wrap .i64 (vx13_1 - 1))).bind fun vy23 =>
      (at? vl vx13_1).bind fun vy24 =>
      (at? (vl.set vx13_1.toNat vy23) (IntKind.wrap .i64 (vx13_1 - 1))).bind fun vy25 =>
      (pIx5 c qx1 vl vx13_1 vy23 vy24).bind fun vl9_1 =>
      cond (decide (2 ≤ (IntKind.wrap .i64 (qx2 - vx13_1))))
        ((loopO (pIx7 c qx2) (vl9_1, IntKind.wrap .i64 (vx13_1 + 1))).bind fun vl11_1 =>
        some (.inl (vl11_1, vx13_1)))
        (some (.inl (vl9_1, vx13_1)))))

noncomputable def pIx1 (c : α → α → Option Int) (qx1 : Int) (qx2 : Int) : (List α) × Int × Int → Option (((List α) × Int × Int) ⊕ ((List α) ⊕ ((List α) × Bool)))
  | (vl, vx, vx1) =>
  cond (decide (vx1 < 5))
    ((pIx2 c qx1 qx2 vl vx).bind fun x => match x with
      | .inl (vl12_1, vx16_1) =>
        some (.inl (vl12_1, vx16_1, IntKind.wrap .i64 (vx1 + 1)))
      | .inr vx17_1 =>
        some (.inr (.inr (vl, vx17_1))))
    (some (.inr (.inl vl)))

noncomputable def pI (c : α → α → Option Int) (qx : List α) (qx1 : Int) (qx2 : Int) : Option ((List α) × Bool) :=
  (loopO (pIx1 c qx1 qx2) (qx, IntKind.wrap .i64 (qx1 + 1), 0)).bind fun x => match x with
    | .inl vl13_1 =>
      some (vl13_1, false)
    | .inr (vl14_1, vx18_1) =>
      some (vl14_1, vx18_1)

noncomputable def pEx3 (c : α → α → Option Int) (qx1 : Int) (vl : List α) (vx1 : Int) (vx10 : Int) : Option (Bool) :=
  cond (decide (vx10 ≤ vx1))
    ((at? vl qx1).bind fun vy16 =>
    (at? vl vx10).bind fun vy17 =>
    (c vy16 vy17).bind fun vcc =>
    some (!(decide (vcc < 0))))
    (some false)

noncomputable def pEx2 (c : α → α → Option Int) (qx1 : Int) (vl : List α) (vx1 : Int) (vx10 : Int) : Option ((Int) ⊕ (Int)) :=
  (pEx3 c qx1 vl vx1 vx10).bind fun vx12_1 =>
  cond (vx12_1)
    (some (.inl (IntKind.wrap .i64 (vx10 + 1))))
    (some (.inr vx10))

noncomputable def pEx5 (c : α → α → Option Int) (qx1 : Int) (vl : List α) (vx13_1 : Int) (vx14 : Int) : Option (Bool) :=
  cond (decide (vx13_1 ≤ vx14))
    ((at? vl qx1).bind fun vy20 =>
    (at? vl vx14).bind fun vy21 =>
    (c vy20 vy21).bind fun vcc =>
    some (decide (vcc < 0)))
    (some false)

noncomputable def pEx4 (c : α → α → Option Int) (qx1 : Int) (vl : List α) (vx13_1 : Int) (vx14 : Int) : Option ((Int) ⊕ (Int)) :=
  (pEx5 c qx1 vl vx13_1 vx14).bind fun vx16_1 =>
  cond (vx16_1)
    (some (.inl (IntKind.wrap .i64 (vx14 - 1))))
    (some (.inr vx14))

noncomputable def pEx1 (c : α → α → Option Int) (qx1 : Int) : (List α) × Int × Int → Option (((List α) × Int × Int) ⊕ (((List α) × Int)))
  | (vl, vx, vx1) =>
  (loopO (pEx2 c qx1 vl vx1) vx).bind fun vx13_1 =>
  (loopO (pEx4 c qx1 vl vx13_1) vx1).bind fun vx17_1 =>
  cond (decide (vx17_1 < vx13_1))
    (some (.inr (vl, vx13_1)))
    ((at? vl vx17_1).bind fun vy22 =>
    (at? vl vx13_1).bind fun vy23 =>
    (at? (vl.set vx13_1.toNat vy22) vx17_1).bind fun vy24 =>
    some (.inl ((vl.set vx13_1.toNat vy22).set vx17_1.toNat vy23, IntKind.wrap .i64 (vx13_1 + 1), IntKind.wrap .i64 (vx17_1 - 1))))

noncomputable def pE (c : α → α → Option Int) (qx : List α) (qx1 : Int) (qx2 : Int) (qx3 : Int) : Option ((List α) × Int) :=
  (at? qx qx3).bind fun vy =>
  (at? qx qx1).bind fun vy1 =>
  (at? (qx.set qx1.toNat vy) qx3).bind fun vy2 =>
  (loopO (pEx1 c qx1) ((qx.set qx1.toNat vy).set qx3.toNat vy1, IntKind.wrap .i64 (qx1 + 1), IntKind.wrap .i64 (qx2 - 1))).bind fun (vl1_1, vx18_1) =>
  some (vl1_1, vx18_1)

noncomputable def pPx2 (c : α → α → Option Int) (qx : List α) (qx1 : Int) (qx2 : Int) (qx3 : Int) (vy : α) (vy1 : α) (vx : Int) : Option (Bool) :=
  cond (decide (vx ≤ (IntKind.wrap .i64 (qx2 - 1))))
    ((at? ((qx.set qx1.toNat vy).set qx3.toNat vy1) vx).bind fun vy5 =>
    (at? ((qx.set qx1.toNat vy).set qx3.toNat vy1) qx1).bind fun vy6 =>
    (c vy5 vy6).bind fun vcc =>
    some (decide (vcc < 0)))
    (some false)

noncomputable def pPx1 (c : α → α → Option Int) (qx : List α) (qx1 : Int) (qx2 : Int) (qx3 : Int) (vy : α) (vy1 : α) (vx : Int) : Option ((Int) ⊕ (Int)) :=
  (pPx2 c qx qx1 qx2 qx3 vy vy1 vx).bind fun vx2_1 =>
  cond (vx2_1)
    (some (.inl (IntKind.wrap .i64 (vx + 1))))
    (some (.inr vx))

noncomputable def pPx4 (c : α → α → Option Int) (qx : List α) (qx1 : Int) (qx3 : Int) (vy : α) (vy1 : α) (vx3_1 : Int) (vx4 : Int) : Option (Bool) :=
  cond (decide (vx3_1 ≤ vx4))
    ((at? ((qx.set qx1.toNat vy).set qx3.toNat vy1) vx4).bind fun vy9 =>
    (at? ((qx.set qx1.toNat vy).set qx3.toNat vy1) qx1).bind fun vy10 =>
    (c vy9 vy10).bind fun vcc =>
    some (!(decide (vcc < 0))))
    (some false)

noncomputable def pPx3 (c : α → α → Option Int) (qx : List α) (qx1 : Int) (qx3 : Int) (vy : α) (vy1 : α) (vx3_1 : Int) (vx4 : Int) : Option ((Int) ⊕ (Int)) :=
  (pPx4 c qx qx1 qx3 vy vy1 vx3_1 vx4).bind fun vx6_1 =>
  cond (vx6_1)
    (some (.inl (IntKind.wrap .i64 (vx4 - 1))))
    (some (.inr vx4))

noncomputable def pPx7 (c : α → α → Option Int) (qx1 : Int) (vl : List α) (vx9 : Int) (vx18 : Int) : Option (Bool) :=
  cond (decide (vx18 ≤ vx9))
    ((at? vl vx18).bind fun vy30 =>
    (at? vl qx1).bind fun vy31 =>
    (c vy30 vy31).bind fun vcc =>
    some (decide (vcc < 0)))
    (some false)

noncomputable def pPx6 (c : α → α → Option Int) (qx1 : Int) (vl : List α) (vx9 : Int) (vx18 : Int) : Option ((Int) ⊕ (Int)) :=
  (pPx7 c qx1 vl vx9 vx18).bind fun vx20_1 =>
  cond (vx20_1)
    (some (.inl (IntKind.wrap .i64 (vx18 + 1))))
    (some (.inr vx18))

noncomputable def pPx9 (c : α → α → Option Int) (qx1 : Int) (vl : List α) (vx21_1 : Int) (vx22 : Int) : Option (Bool) :=
  cond (decide (vx21_1 ≤ vx22))
    ((at? vl vx22).bind fun vy34 =>
    (at? vl qx1).bind fun vy35 =>
    (c vy34 vy35).bind fun vcc =>
    some (!(decide (vcc < 0))))
    (some false)

noncomputable def pPx8 (c : α → α → Option Int) (qx1 : Int) (vl : List α) (vx21_1 : Int) (vx22 : Int) : Option ((Int) ⊕ (Int)) :=
  (pPx9 c qx1 vl vx21_1 vx22).bind fun vx24_1 =>
  cond (vx24_1)
    (some (.inl (IntKind.wrap .i64 (vx22 - 1))))
    (some (.inr vx22))

noncomputable def pPx5 (c : α → α → Option Int) (qx1 : Int) : (List α) × Int × Int → Option (((List α) × Int × Int) ⊕ (((List α) × Int)))
  | (vl, vx8, vx9) =>
  (loopO (pPx6 c qx1 vl vx9) vx8).bind fun vx21_1 =>
  (loopO (pPx8 c qx1 vl vx21_1) vx9).bind fun vx25_1 =>
  cond (decide (vx25_1 < vx21_1))
    (some (.inr (vl, vx25_1)))
    ((at? vl vx25_1).bind fun vy36 =>
    (at? vl vx21_1).bind fun vy37 =>
    (at? (vl.set vx21_1.toNat vy36) vx25_1).bind fun vy38 =>
    some (.inl ((vl.set vx21_1.toNat vy36).set vx25_1.toNat vy37, IntKind.wrap .i64 (vx21_1 + 1), IntKind.wrap .i64 (vx25_1 - 1))))

noncomputable def pP (c : α → α → Option Int) (qx : List α) (qx1 : Int) (qx2 : Int) (qx3 : Int) : Option ((List α) × Int × Bool) :=
  (at? qx qx3).bind fun vy =>
  (at? qx qx1).bind fun vy1 =>
  (at? (qx.set qx1.toNat vy) qx3).bind fun vy2 =>
  (loopO (pPx1 c qx qx1 qx2 qx3 vy vy1) (IntKind.wrap .i64 (qx1 + 1))).bind fun vx3_1 =>
  (loopO (pPx3 c qx qx1 qx3 vy vy1 vx3_1) (IntKind.wrap .i64 (qx2 - 1))).bind fun vx7_1 =>
  cond (decide (vx7_1 < vx3_1))
    ((at? ((qx.set qx1.toNat vy).set qx3.toNat vy1) qx1).bind fun vy11 =>
    (at? ((qx.set qx1.toNat vy).set qx3.toNat vy1) vx7_1).bind fun vy12 =>
    (at? (((qx.set qx1.toNat vy).set qx3.toNat vy1).set vx7_1.toNat vy11) qx1).bind fun vy13 =>
    some ((((qx.set qx1.toNat vy).set qx3.toNat vy1).set vx7_1.toNat vy11).set qx1.toNat vy12, vx7_1, true))
    ((at? ((qx.set qx1.toNat vy).set qx3.toNat vy1) vx7_1).bind fun vy14 =>
    (at? ((qx.set qx1.toNat vy).set qx3.toNat vy1) vx3_1).bind fun vy15 =>
    (at? (((qx.set qx1.toNat vy).set qx3.toNat vy1).set vx3_1.toNat vy14) vx7_1).bind fun vy16 =>
    (loopO (pPx5 c qx1) ((((qx.set qx1.toNat vy).set qx3.toNat vy1).set vx3_1.toNat vy14).set vx7_1.toNat vy15, IntKind.wrap .i64 (vx3_1 + 1), IntKind.wrap .i64 (vx7_1 - 1))).bind fun (vl1_1, vx26_1) =>
    (at? vl1_1 qx1).bind fun vy39 =>
    (at? vl1_1 vx26_1).bind fun vy40 =>
    (at? (vl1_1.set vx26_1.toNat vy39) qx1).bind fun vy41 =>
    some ((vl1_1.set vx26_1.toNat vy39).set qx1.toNat vy40, vx26_1, false))

noncomputable def pBx2 (qx1 : Int) (qx2 : Int) (vr : Int) (vx : Int) : Option (Int) :=
  cond (decide ((IntKind.wrap .i64 (qx2 - qx1)) ≤ (IntKind.wrap .i64 (ibits .and .u64 (ibits .xor .u64 (ibits .xor .u64 (ibits .xor .u64 vx (ishl .u64 vx 13)) (ishr .u64 (ibits .xor .u64 vx (ishl .u64 vx 13)) 7)) (ishl .u64 (ibits .xor .u64 (ibits .xor .u64 vx (ishl .u64 vx 13)) (ishr .u64 (ibits .xor .u64 vx (ishl .u64 vx 13)) 7)) 17)) (IntKind.wrap .u64 (vr - 1))))))
    (some (IntKind.wrap .i64 ((IntKind.wrap .i64 (ibits .and .u64 (ibits .xor .u64 (ibits .xor .u64 (ibits .xor .u64 vx (ishl .u64 vx 13)) (ishr .u64 (ibits .xor .u64 vx (ishl .u64 vx 13)) 7)) (ishl .u64 (ibits .xor .u64 (ibits .xor .u64 vx (ishl .u64 vx 13)) (ishr .u64 (ibits .xor .u64 vx (ishl .u64 vx 13)) 7)) 17)) (IntKind.wrap .u64 (vr - 1)))) - (IntKind.wrap .i64 (qx2 - qx1)))))
    (some (IntKind.wrap .i64 (ibits .and .u64 (ibits .xor .u64 (ibits .xor .u64 (ibits .xor .u64 vx (ishl .u64 vx 13)) (ishr .u64 (ibits .xor .u64 vx (ishl .u64 vx 13)) 7)) (ishl .u64 (ibits .xor .u64 (ibits .xor .u64 vx (ishl .u64 vx 13)) (ishr .u64 (ibits .xor .u64 vx (ishl .u64 vx 13)) 7)) 17)) (IntKind.wrap .u64 (vr - 1)))))

noncomputable def pBx1 (qx1 : Int) (qx2 : Int) (vr : Int) : (List α) × Int × Int → Option (((List α) × Int × Int) ⊕ ((List α)))
  | (vl, vx, vx1) =>
  cond (decide (vx1 ≤ (IntKind.wrap .i64 ((IntKind.wrap .i64 (qx1 + (IntKind.wrap .i64 ((IntKind.wrap .i64 ((IntKind.wrap .i64 (qx2 - qx1)).tdiv 4)) * 2)))) + 1))))
    ((pX vx).bind fun _ =>
    (pBx2 qx1 qx2 vr vx).bind fun vx3_1 =>
    (at? vl (IntKind.wrap .i64 (qx1 + vx3_1))).bind fun vy3 =>
    (at? vl vx1).bind fun vy4 =>
    (at? (vl.set vx1.toNat vy3) (IntKind.wrap .i64 (qx1 + vx3_1))).bind fun vy5 =>
    some (.inl ((vl.set vx1.toNat vy3).set (IntKind.wrap .i64 (qx1 + vx3_1)).toNat vy4, ibits .xor .u64 (ibits .xor .u64 (ibits .xor .u64 vx (ishl .u64 vx 13)) (ishr .u64 (ibits .xor .u64 vx (ishl .u64 vx 13)) 7)) (ishl .u64 (ibits .xor .u64 (ibits .xor .u64 vx (ishl .u64 vx 13)) (ishr .u64 (ibits .xor .u64 vx (ishl .u64 vx 13)) 7)) 17), IntKind.wrap .i64 (vx1 + 1))))
    (some (.inr vl))

noncomputable def pB (qx : List α) (qx1 : Int) (qx2 : Int) : Option ((List α)) :=
  cond (decide (8 ≤ (IntKind.wrap .i64 (qx2 - qx1))))
    ((pN (IntKind.wrap .i64 (qx2 - qx1))).bind fun vr =>
    (loopO (pBx1 qx1 qx2 vr) (qx, IntKind.wrap .u64 (IntKind.wrap .i64 (qx2 - qx1)), IntKind.wrap .i64 ((IntKind.wrap .i64 (qx1 + (IntKind.wrap .i64 ((IntKind.wrap .i64 ((IntKind.wrap .i64 (qx2 - qx1)).tdiv 4)) * 2)))) - 1))).bind fun vl1_1 =>
    some vl1_1)
    (some qx)

noncomputable def pQx2 (recF : (List α) → Int → Int → Int → Option ((List α))) (vl : List α) (vx : Int) (vx1 : Int) (vx2 : Int) (vx3 : Bool) : Option (((List α) × Int)) :=
  cond (!vx3)
    ((pB vl vx vx1).bind fun vl2_4 =>
    gd (vl2_4.length == vl.length) <|
    some (vl2_4, IntKind.wrap .i64 (vx2 - 1)))
    (some (vl, vx2))

noncomputable def pQx3 (recF : (List α) → Int → Int → Int → Option ((List α))) (vx : Int) (vx1 : Int) (vl7_1 : List α) (vr3_1 : Int) (vr5_1 : Int) : Option (((List α) × Int × Int)) :=
  cond (decide (vr5_1 = 2))
    ((pR vl7_1 vx vx1).bind fun vl2_5 =>
    gd (vl2_5.length == vl7_1.length) <|
    some (vl2_5, IntKind.wrap .i64 ((IntKind.wrap .i64 (vx1 - 1)) - (IntKind.wrap .i64 (vr3_1 - vx))), 1))
    (some (vl7_1, vr3_1, vr5_1))

noncomputable def pQx5 (recF : (List α) → Int → Int → Int → Option ((List α))) (vx3 : Bool) (vx4 : Bool) (vx12_1 : Int) : Option (Bool) :=
  cond (vx3)
    (cond (vx4)
      (some (decide (vx12_1 = 1)))
      (some false))
    (some false)

noncomputable def pQx4 (c : α → α → Option Int) (recF : (List α) → Int → Int → Int → Option ((List α))) (vx : Int) (vx1 : Int) (vx3 : Bool) (vx4 : Bool) (vl8_1 : List α) (vx12_1 : Int) : Option ((List α) ⊕ (List α)) :=
  (pQx5 recF vx3 vx4 vx12_1).bind fun vx13_1 =>
  cond (vx13_1)
    ((pI c vl8_1 vx vx1).bind fun (vl15_1, vr4) =>
    gd (vl15_1.length == vl8_1.length) <|
    cond (vr4)
      (some (.inr vl15_1))
      (some (.inl vl15_1)))
    (some (.inl vl8_1))

noncomputable def pQx6 (c : α → α → Option Int) (recF : (List α) → Int → Int → Int → Option ((List α))) (vx : Int) (vx11_1 : Int) (vl9_1 : List α) : Option (Bool) :=
  cond (decide (0 < vx))
    ((at? vl9_1 (IntKind.wrap .i64 (vx - 1))).bind fun vy2 =>
    (at? vl9_1 vx11_1).bind fun vy3 =>
    (c vy2 vy3).bind fun vcc =>
    some (!(decide (vcc < 0))))
    (some false)

noncomputable def pQx1 (c : α → α → Option Int) (recF : (List α) → Int → Int → Int → Option ((List α))) : (List α) × Int × Int × Int × Bool × Bool → Option (((List α) × Int × Int × Int × Bool × Bool) ⊕ ((List α)))
  | (vl, vx, vx1, vx2, vx3, vx4) =>
  cond (decide ((IntKind.wrap .i64 (vx1 - vx)) ≤ 12))
    ((gI c vl vx vx1).bind fun vl6_1 =>
    gd (vl6_1.length == vl.length) <|
    some (.inr vl6_1))
    (cond (decide (vx2 = 0))
      (none)
      ((pQx2 recF vl vx vx1 vx2 vx3).bind fun (vl7_1, vx10_1) =>
      (pC c vl7_1 vx vx1).bind fun (vr3_1, vr5_1) =>
      (pQx3 recF vx vx1 vl7_1 vr3_1 vr5_1).bind fun (vl8_1, vx11_1, vx12_1) =>
      (pQx4 c recF vx vx1 vx3 vx4 vl8_1 vx12_1).bind fun x => match x with
        | .inl vl9_1 =>
          (pQx6 c recF vx vx11_1 vl9_1).bind fun vx14_1 =>
          cond (vx14_1)
            ((pE c vl9_1 vx vx1 vx11_1).bind fun (vl2_6, vr6) =>
            gd (vl2_6.length == vl9_1.length) <|
            some (.inl (vl2_6, vr6, vx1, vx10_1, vx3, vx4)))
            ((pP c vl9_1 vx vx1 vx11_1).bind fun (vl2_7, vr7, vr1_2) =>
            gd (vl2_7.length == vl9_1.length) <|
            cond (decide ((IntKind.wrap .i64 (vr7 - vx)) < (IntKind.wrap .i64 (vx1 - vr7))))
              ((recF vl2_7 vx vr7 vx10_1).bind fun vl10_2 =>
              gd (vl10_2.length == vl2_7.length) <|
              some (.inl (vl10_2, IntKind.wrap .i64 (vr7 + 1), vx1, vx10_1, decide ((IntKind.wrap .i64 ((IntKind.wrap .i64 (vx1 - vx)).tdiv 8)) ≤ (IntKind.wrap .i64 (vr7 - vx))), vr1_2)))
              ((recF vl2_7 (IntKind.wrap .i64 (vr7 + 1)) vx1 vx10_1).bind fun vl10_3 =>
              gd (vl10_3.length == vl2_7.length) <|
              some (.inl (vl10_3, vx, vr7, vx10_1, decide ((IntKind.wrap .i64 ((IntKind.wrap .i64 (vx1 - vx)).tdiv 8)) ≤ (IntKind.wrap .i64 (vx1 - vr7))), vr1_2))))
        | .inr vl11_1 =>
          some (.inr vl11_1)))

noncomputable def pQn (c : α → α → Option Int) : Nat → (List α) → Int → Int → Int → Option ((List α))
  | 0, _, _, _, _ => none
  | n + 1, qx, qx1, qx2, qx3 =>
  (loopO (pQx1 c (pQn c n)) (qx, qx1, qx2, qx3, true, true)).bind fun vl12_1 =>
  some vl12_1

noncomputable def pQ (c : α → α → Option Int) (qx : List α) (qx1 : Int) (qx2 : Int) (qx3 : Int) : Option ((List α)) := fixO fun n => pQn c n qx qx1 qx2 qx3
theorem fixO_20 {β : Type} {g : Nat → Option β} {r : β} (h : g 20 = some r) : fixO g = some r := by
  unfold fixO
  rw [h]
/-! ### Places -/
def G (d : α) (l : List α) (k : Nat) : α := l.getD k d
theorem at_G {d : α} {l : List α} {k : Nat} (h : k < l.length) : at? l (k : Int) = some (G d l k) := by
  rw [at_nat h]
  unfold G
  rw [List.getD_eq_getElem?_getD, List.getElem?_eq_getElem h]
  rfl
def swpQ (d : α) (l : List α) (i j : Nat) : List α := (l.set i (G d l j)).set j (G d l i)
theorem swp_len (d : α) (l : List α) (i j : Nat) : (swpQ d l i j).length = l.length := by unfold swpQ; simp
theorem G_set {d : α} {l : List α} {i k : Nat} {x : α} (hi : i < l.length) : G d (l.set i x) k = if i = k then x else G d l k := by
  unfold G
  rw [List.getD_eq_getElem?_getD, List.getD_eq_getElem?_getD, List.getElem?_set]
  by_cases h : i = k
  · subst h; simp [hi]
  · simp [h]
theorem G_swp {d : α} {l : List α} {i j k : Nat} (hi : i < l.length) (hj : j < l.length) : G d (swpQ d l i j) k = if j = k then G d l i else if i = k then G d l j else G d l k := by
  unfold swpQ
  rw [G_set (by simpa using hj), G_set hi]
theorem swp_perm {d : α} {l : List α} {i j : Nat} (hi : i < l.length) (hj : j < l.length) : (swpQ d l i j).Perm l := by
  have h1 := Array.swap_perm (xs := l.toArray) (i := i) (j := j) (by simpa using hi) (by simpa using hj)
  have h2 := Array.perm_iff_toList_perm.1 h1
  have e1 : G d l i = l[i] := by unfold G; rw [List.getD_eq_getElem?_getD, List.getElem?_eq_getElem hi]; rfl
  have e2 : G d l j = l[j] := by unfold G; rw [List.getD_eq_getElem?_getD, List.getElem?_eq_getElem hj]; rfl
  unfold swpQ
  rw [e1, e2]
  simpa [Array.swap] using h2
/-- what becomes of a list, where only a part of it is touched -/
structure Rg (d : α) (a b : Nat) (l l' : List α) : Prop where
  perm : l'.Perm l
  out : ∀ i, (i < a ∨ b ≤ i) → G d l' i = G d l i
  seg : ∀ i, a ≤ i → i < b → ∃ j, a ≤ j ∧ j < b ∧ G d l' i = G d l j
theorem Rg.len {d : α} {a b : Nat} {l l' : List α} (h : Rg d a b l l') : l'.length = l.length := h.perm.length_eq
theorem Rg.refl (d : α) (a b : Nat) (l : List α) : Rg d a b l l := ⟨List.Perm.refl _, fun _ _ => rfl, fun i h1 h2 => ⟨i, h1, h2, rfl⟩⟩
theorem Rg.trans {d : α} {a b : Nat} {l m r : List α} (h1 : Rg d a b l m) (h2 : Rg d a b m r) : Rg d a b l r :=
  ⟨h2.perm.trans h1.perm, fun i h => (h2.out i h).trans (h1.out i h), fun i q1 q2 => by
    obtain ⟨j, j1, j2, j3⟩ := h2.seg i q1 q2
    obtain ⟨k, k1, k2, k3⟩ := h1.seg j j1 j2
    exact ⟨k, k1, k2, j3.trans k3⟩⟩
theorem Rg.mono {d : α} {a b a' b' : Nat} {l m : List α} (h : Rg d a b l m) (ha : a' ≤ a) (hb : b ≤ b') : Rg d a' b' l m :=
  ⟨h.perm, fun i q => h.out i (by omega), fun i q1 q2 => by
    by_cases hi : a ≤ i ∧ i < b
    · obtain ⟨j, j1, j2, j3⟩ := h.seg i hi.1 hi.2
      exact ⟨j, by omega, by omega, j3⟩
    · exact ⟨i, q1, q2, h.out i (by omega)⟩⟩
theorem rg_swp {d : α} {l : List α} {a b i j : Nat} (hi : a ≤ i ∧ i < b) (hj : a ≤ j ∧ j < b) (hil : i < l.length) (hjl : j < l.length) : Rg d a b l (swpQ d l i j) := by
  refine ⟨swp_perm hil hjl, fun k hk => ?_, fun k k1 k2 => ?_⟩
  · rw [G_swp hil hjl, if_neg (by omega), if_neg (by omega)]
  · rw [G_swp hil hjl]
    by_cases h1 : j = k
    · rw [if_pos h1]; exact ⟨i, hi.1, hi.2, rfl⟩
    · rw [if_neg h1]
      by_cases h2 : i = k
      · rw [if_pos h2]; exact ⟨j, hj.1, hj.2, rfl⟩
      · rw [if_neg h2]; exact ⟨k, k1, k2, rfl⟩
theorem w_nat {n : Int} {k : Nat} (h : n = (k : Int)) (hk : k ≤ 100000) : IntKind.wrap .i64 n = (k : Int) := by subst h; exact wrap64 (by omega) (by omega)

variable {d : α} {f : α → α → Int} {c : α → α → Option Int} (hc : ∀ x y, c x y = some (f x y)) (anti : ∀ x y, f y x = - f x y) (tr : ∀ x y z, f x y ≤ 0 → f y z ≤ 0 → f x z ≤ 0)
include hc
/-! ### The place of the middle one -/
theorem pO_ok {l : List α} {lo hi x y s : Int} (hl : (hi : Int) ≤ l.length) (h0 : 0 ≤ lo) (hx : lo ≤ x ∧ x < hi) (hy : lo ≤ y ∧ y < hi) (hs : 0 ≤ s ∧ s ≤ 1000) : Ok (pO c l x y s) (fun r => (s ≤ r.1 ∧ r.1 ≤ s + 1) ∧ (lo ≤ r.2.1 ∧ r.2.1 < hi) ∧ lo ≤ r.2.2 ∧ r.2.2 < hi) := by
  unfold pO
  rw [at_lt (by omega) (by omega), at_lt (by omega) (by omega)]
  simp only [Option.bind_some, hc]
  refine .cond (fun _ => .some ⟨?_, hy, hx⟩) (fun _ => .some ⟨by simp only; omega, hx, hy⟩)
  rw [wrap64 (by omega) (by omega)]
  simp only; omega
theorem pM_ok {l : List α} {lo hi x y z s : Int} (hl : (hi : Int) ≤ l.length) (h0 : 0 ≤ lo) (hx : lo ≤ x ∧ x < hi) (hy : lo ≤ y ∧ y < hi) (hz : lo ≤ z ∧ z < hi) (hs : 0 ≤ s ∧ s ≤ 900) : Ok (pM c l x y z s) (fun r => (s ≤ r.1 ∧ r.1 ≤ s + 3) ∧ lo ≤ r.2 ∧ r.2 < hi) := by
  unfold pM
  refine (pO_ok hc hl h0 hx hy (by omega)).bind fun ⟨s1, x1, y1⟩ ⟨g1, g2, g3⟩ => ?_
  simp only at g1 g2 g3
  refine (pO_ok hc hl h0 g3 hz (by omega)).bind fun ⟨s2, x2, y2⟩ ⟨k1, k2, k3⟩ => ?_
  simp only at k1 k2 k3
  refine (pO_ok hc hl h0 g2 k2 (by omega)).bind fun ⟨s3, x3, y3⟩ ⟨m1, m2, m3⟩ => ?_
  simp only at m1 m2 m3
  exact .some ⟨by simp only; omega, m3⟩
theorem pC_ok {l : List α} {a b : Nat} (hl : b ≤ l.length) (hl2 : l.length ≤ 1000) (hab : a + 13 ≤ b ∧ b ≤ a + 15) : Ok (pC c l a b) (fun r => ((a : Int) ≤ r.1 ∧ r.1 < b) ∧ r.2 ≠ 2) := by
  have w0 : IntKind.wrap .i64 ((b : Int) - a) = ((b - a : Nat) : Int) := w_nat (by omega) (by omega)
  have q3 : ((b - a : Nat) : Int).tdiv 4 = 3 := by rw [Int.tdiv_eq_ediv_of_nonneg (by omega)]; omega
  have w3 : IntKind.wrap .i64 3 = 3 := by decide
  have m1 : IntKind.wrap .i64 (3 * 1) = 3 := by decide
  have m2 : IntKind.wrap .i64 (3 * 2) = 6 := by decide
  have m3 : IntKind.wrap .i64 (3 * 3) = 9 := by decide
  have i1 : IntKind.wrap .i64 ((a : Int) + 3) = ((a + 3 : Nat) : Int) := w_nat (by omega) (by omega)
  have i2 : IntKind.wrap .i64 ((a : Int) + 6) = ((a + 6 : Nat) : Int) := w_nat (by omega) (by omega)
  have i3 : IntKind.wrap .i64 ((a : Int) + 9) = ((a + 9 : Nat) : Int) := w_nat (by omega) (by omega)
  have n50 : ¬ (50 : Int) ≤ ((b - a : Nat) : Int) := by omega
  have n8 : (8 : Int) ≤ ((b - a : Nat) : Int) := by omega
  unfold pC pCx1 pCx2
  simp only [w0, q3, w3, m1, m2, m3, i1, i2, i3, n50, n8, decide_true, decide_false, cond_true, cond_false, Option.bind_some]
  refine Ok.bind (P := fun r : Int × Int => (0 ≤ r.1 ∧ r.1 ≤ 3) ∧ (a : Int) ≤ r.2 ∧ r.2 < b) ?_ fun ⟨s, m⟩ ⟨h1, h2⟩ => ?_
  · exact (pM_ok hc (lo := a) (hi := b) (by omega) (by omega) (by omega) (by omega) (by omega) (by omega)).bind fun ⟨s, m⟩ ⟨g1, g2⟩ => .some ⟨by simp only at g1 ⊢; omega, g2⟩
  · simp only at h1 h2
    refine .cond (fun _ => .some ⟨h2, by simp⟩) fun _ => .cond (fun h12 => ?_) fun _ => .some ⟨h2, by simp⟩
    have : s = 12 := by simpa using h12
    omega
/-! ### Whether it is in order already -/
include anti in
theorem pI_ok {l : List α} {a b : Nat} (hl : b ≤ l.length) (hl2 : l.length ≤ 1000) (hab : a < b ∧ b < a + 50) : ∃ g, pI c l a b = some (l, g) ∧ (g = true → ∀ i, a ≤ i → i + 1 < b → f (G d l i) (G d l (i + 1)) ≤ 0) := by
  have w1 : IntKind.wrap .i64 ((a : Int) + 1) = ((a + 1 : Nat) : Int) := w_nat (by omega) (by omega)
  have w0 : IntKind.wrap .i64 ((b : Int) - a) = ((b - a : Nat) : Int) := w_nat (by omega) (by omega)
  have loop : Ok (loopO (pIx3 c b l) ((a + 1 : Nat) : Int)) (fun r => r = (b : Int) → ∀ i, a ≤ i → i + 1 < b → f (G d l i) (G d l (i + 1)) ≤ 0) := by
    refine loop_ok (fun s : Int => ∃ k : Nat, s = (k : Int) ∧ a + 1 ≤ k ∧ k ≤ b ∧ ∀ i, a ≤ i → i + 1 < k → f (G d l i) (G d l (i + 1)) ≤ 0) (fun s => ((b : Int) - s).toNat) ?_ ⟨a + 1, rfl, by omega, by omega, fun i h1 h2 => by omega⟩
    rintro _ ⟨k, rfl, k1, k2, k3⟩
    unfold pIx3 pIx4
    by_cases hk : k < b
    · have hkb : (k : Int) < b := by omega
      have w2 : IntKind.wrap .i64 ((k : Int) - 1) = ((k - 1 : Nat) : Int) := w_nat (by omega) (by omega)
      have w3 : IntKind.wrap .i64 ((k : Int) + 1) = ((k + 1 : Nat) : Int) := w_nat (by omega) (by omega)
      simp only [hkb, decide_true, cond_true, w2, w3, at_G (d := d) (show k < l.length by omega), at_G (d := d) (show k - 1 < l.length by omega), Option.bind_some, hc]
      refine .cond (fun h => .some ⟨⟨k + 1, rfl, by omega, by omega, fun i i1 i2 => ?_⟩, by omega⟩) (fun h => .some fun he => by omega)
      by_cases hik : i + 1 < k
      · exact k3 i i1 hik
      · have : i = k - 1 := by omega
        subst this
        have h : ¬ f (G d l k) (G d l (k - 1)) < 0 := by simpa using h
        rw [show k - 1 + 1 = k by omega]
        have := anti (G d l (k - 1)) (G d l k)
        omega
    · have hkb : ¬ (k : Int) < b := by omega
      simp only [hkb, decide_false, cond_false, Option.bind_some]
      exact .some fun he i i1 i2 => k3 i i1 (by omega)
  obtain ⟨r, r1, r2⟩ := loop
  have hx1 : pIx1 c (a : Int) b (l, ((a + 1 : Nat) : Int), 0) = some (.inr (.inr (l, decide (r = (b : Int))))) := by
    unfold pIx1 pIx2
    have n50 : ((b - a : Nat) : Int) < 50 := by omega
    simp only [show (0 : Int) < 5 by decide, decide_true, cond_true, r1, Option.bind_some, w0, n50]
    by_cases hr : r = (b : Int)
    · simp [hr]
    · simp [hr]
  refine ⟨decide (r = (b : Int)), ?_, fun hg => r2 (by simpa using hg)⟩
  unfold pI
  rw [w1, loop_out hx1]
  rfl
/-! ### Two ends that come together -/
omit hc
theorem up_loop {g : Int → Option (Int ⊕ Int)} {q : Nat → Bool} {i j : Nat} (hij : i ≤ j + 1) (hj : j ≤ 1000)
    (hg : ∀ x : Nat, i ≤ x → x ≤ j + 1 → g x = some (if x ≤ j ∧ q x = true then .inl ((x + 1 : Nat) : Int) else .inr (x : Int))) :
    ∃ x : Nat, loopO g i = some (x : Int) ∧ i ≤ x ∧ x ≤ j + 1 ∧ (∀ k, i ≤ k → k < x → q k = true) ∧ (x ≤ j → q x = false) := by
  have := loop_ok (f := g) (Q := fun r => ∃ x : Nat, r = (x : Int) ∧ i ≤ x ∧ x ≤ j + 1 ∧ (∀ k, i ≤ k → k < x → q k = true) ∧ (x ≤ j → q x = false)) (fun s : Int => ∃ x : Nat, s = (x : Int) ∧ i ≤ x ∧ x ≤ j + 1 ∧ ∀ k, i ≤ k → k < x → q k = true) (fun s => ((j : Int) + 1 - s).toNat) (by
    rintro _ ⟨x, rfl, x1, x2, x3⟩
    rw [hg x x1 x2]
    by_cases h : x ≤ j ∧ q x = true
    · rw [if_pos h]
      refine .some ⟨⟨x + 1, rfl, by omega, by omega, fun k k1 k2 => ?_⟩, by omega⟩
      by_cases hk : k < x
      · exact x3 k k1 hk
      · have : k = x := by omega
        subst this; exact h.2
    · rw [if_neg h]
      refine .some ⟨x, rfl, x1, x2, x3, fun hx => ?_⟩
      cases hq : q x with
      | false => rfl
      | true => exact absurd ⟨hx, hq⟩ h) (s := (i : Int)) ⟨i, rfl, by omega, hij, fun k h1 h2 => by omega⟩
  obtain ⟨r, r1, x, rfl, r2⟩ := this
  exact ⟨x, r1, r2⟩
theorem dn_loop {g : Int → Option (Int ⊕ Int)} {q : Nat → Bool} {i j : Nat} (hi : 1 ≤ i) (hij : i ≤ j + 1) (hj : j ≤ 1000)
    (hg : ∀ y : Nat, i ≤ y + 1 → y ≤ j → g y = some (if i ≤ y ∧ q y = true then .inl ((y - 1 : Nat) : Int) else .inr (y : Int))) :
    ∃ y : Nat, loopO g j = some (y : Int) ∧ i ≤ y + 1 ∧ y ≤ j ∧ (∀ k, y < k → k ≤ j → q k = true) ∧ (i ≤ y → q y = false) := by
  have := loop_ok (f := g) (Q := fun r => ∃ y : Nat, r = (y : Int) ∧ i ≤ y + 1 ∧ y ≤ j ∧ (∀ k, y < k → k ≤ j → q k = true) ∧ (i ≤ y → q y = false)) (fun s : Int => ∃ y : Nat, s = (y : Int) ∧ i ≤ y + 1 ∧ y ≤ j ∧ ∀ k, y < k → k ≤ j → q k = true) (fun s => s.toNat) (by
    rintro _ ⟨y, rfl, y1, y2, y3⟩
    rw [hg y y1 y2]
    by_cases h : i ≤ y ∧ q y = true
    · rw [if_pos h]
      refine .some ⟨⟨y - 1, rfl, by omega, by omega, fun k k1 k2 => ?_⟩, by omega⟩
      by_cases hk : y < k
      · exact y3 k hk k2
      · have : k = y := by omega
        subst this; exact h.2
    · rw [if_neg h]
      refine .some ⟨y, rfl, y1, y2, y3, fun hy => ?_⟩
      cases hq : q y with
      | false => rfl
      | true => exact absurd ⟨hy, hq⟩ h) (s := (j : Int)) ⟨j, rfl, by omega, Nat.le_refl _, fun k h1 h2 => by omega⟩
  obtain ⟨r, r1, y, rfl, r2⟩ := this
  exact ⟨y, r1, r2⟩
include hc
/-! ### Partition -/
/-- what holds while the ends come together -/
structure PJ (d : α) (q : α → Bool) (pv : α) (a b : Nat) (l0 l : List α) (i j : Nat) : Prop where
  rg : Rg d a b l0 l
  pv : G d l a = pv
  i1 : a + 1 ≤ i
  ij : i ≤ j + 1
  ja : a ≤ j
  jb : j + 1 ≤ b
  lo : ∀ k, a + 1 ≤ k → k < i → q (G d l k) = true
  hi : ∀ k, j < k → k < b → q (G d l k) = false
omit hc
/-- both ends go on as far as they can -/
theorem pj_ends {q : α → Bool} {pv : α} {a b : Nat} {l0 l : List α} {i j : Nat} (J : PJ d q pv a b l0 l i j) (hl : b ≤ l.length) (hl2 : l.length ≤ 1000) {g1 : Int → Option (Int ⊕ Int)} {g2 : Int → Int → Option (Int ⊕ Int)}
    (h1 : ∀ x : Nat, i ≤ x → x ≤ j + 1 → g1 x = some (if x ≤ j ∧ q (G d l x) = true then .inl ((x + 1 : Nat) : Int) else .inr (x : Int)))
    (h2 : ∀ x y : Nat, i ≤ x → x ≤ y + 1 → y ≤ j → g2 x y = some (if x ≤ y ∧ (!q (G d l y)) = true then .inl ((y - 1 : Nat) : Int) else .inr (y : Int))) :
    ∃ x y : Nat, loopO g1 i = some (x : Int) ∧ loopO (g2 x) j = some (y : Int) ∧ PJ d q pv a b l0 l x y ∧ i ≤ x ∧ y ≤ j ∧ (x ≤ y → q (G d l x) = false ∧ q (G d l y) = true) := by
  obtain ⟨x, x1, x2, x3, x4, x5⟩ := up_loop (g := g1) (q := fun k => q (G d l k)) J.ij (by have := J.jb; omega) h1
  obtain ⟨y, y1, y2, y3, y4, y5⟩ := dn_loop (g := g2 x) (q := fun k => !q (G d l k)) (i := x) (j := j) (by have := J.i1; omega) x3 (by have := J.jb; omega) (fun y h3 h4 => h2 x y x2 h3 h4)
  have i1 := J.i1
  have jb := J.jb
  refine ⟨x, y, x1, y1, ⟨J.rg, J.pv, by omega, by omega, by omega, by omega, fun k k1 k2 => ?_, fun k k1 k2 => ?_⟩, x2, y3, fun hxy => ?_⟩
  · by_cases hk : k < i
    · exact J.lo k k1 hk
    · exact x4 k (by omega) k2
  · by_cases hk : j < k
    · exact J.hi k hk k2
    · simpa using y4 k k1 (by omega)
  · exact ⟨x5 (by omega), by simpa using y5 hxy⟩
/-- two that stand wrong change places -/
theorem pj_swap {q : α → Bool} {pv : α} {a b : Nat} {l0 l : List α} {x y : Nat} (J : PJ d q pv a b l0 l x y) (hl : b ≤ l.length) (hxy : x ≤ y) (h : q (G d l x) = false ∧ q (G d l y) = true) : PJ d q pv a b l0 (swpQ d l x y) (x + 1) (y - 1) ∧ x < y := by
  have hne : x ≠ y := fun e => by subst e; rw [h.1] at h; cases h.2
  have i1 := J.i1
  have jb := J.jb
  have hx : x < l.length := by omega
  have hy : y < l.length := by omega
  refine ⟨⟨J.rg.trans (rg_swp ⟨by omega, by omega⟩ ⟨by omega, by omega⟩ hx hy), ?_, by omega, by omega, by omega, by omega, fun k k1 k2 => ?_, fun k k1 k2 => ?_⟩, by omega⟩
  · rw [G_swp hx hy, if_neg (by omega), if_neg (by omega)]
    exact J.pv
  · rw [G_swp hx hy, if_neg (by omega)]
    by_cases hk : x = k
    · rw [if_pos hk]; exact h.2
    · rw [if_neg hk]; exact J.lo k k1 (by omega)
  · rw [G_swp hx hy]
    by_cases hk : y = k
    · rw [if_pos hk]; exact h.1
    · rw [if_neg hk, if_neg (by omega)]; exact J.hi k (by omega) k2
include hc
/-- parted at m -/
structure Pt (d : α) (f : α → α → Int) (a b : Nat) (l : List α) (m : Nat) : Prop where
  ma : a ≤ m
  mb : m < b
  lo : ∀ k, a ≤ k → k < m → f (G d l k) (G d l m) ≤ 0
  hi : ∀ k, m < k → k < b → f (G d l m) (G d l k) ≤ 0
include anti in
theorem pj_end {pv : α} {a b : Nat} {l0 l : List α} {x y : Nat} (J : PJ d (fun z => decide (f z pv < 0)) pv a b l0 l x y) (hl : b ≤ l.length) (hxy : y < x) : Rg d a b l0 (swpQ d l y a) ∧ Pt d f a b (swpQ d l y a) y := by
  have i1 := J.i1
  have jb := J.jb
  have ja := J.ja
  have hy : y < l.length := by omega
  have ha : a < l.length := by omega
  have hm : G d (swpQ d l y a) y = pv := by
    rw [G_swp hy ha]
    by_cases h : a = y
    · rw [if_pos h, ← h]; exact J.pv
    · rw [if_neg h, if_pos rfl]; exact J.pv
  refine ⟨J.rg.trans (rg_swp ⟨by omega, by omega⟩ ⟨by omega, by omega⟩ hy ha), ⟨ja, by omega, fun k k1 k2 => ?_, fun k k1 k2 => ?_⟩⟩
  · rw [hm, G_swp hy ha]
    by_cases h : a = k
    · rw [if_pos h]
      have := of_decide_eq_true (J.lo y (by omega) (by omega))
      omega
    · rw [if_neg h, if_neg (by omega)]
      have := of_decide_eq_true (J.lo k (by omega) (by omega))
      omega
  · rw [hm, G_swp hy ha, if_neg (by omega), if_neg (by omega)]
    have h1 := of_decide_eq_false (J.hi k k1 k2)
    have := anti pv (G d l k)
    omega
include anti in
theorem pP_ok {l : List α} {a b p : Nat} (hl : b ≤ l.length) (hl2 : l.length ≤ 1000) (hp : a ≤ p ∧ p < b) : Ok (pP c l a b p) (fun r => Rg d a b l r.1 ∧ ∃ m : Nat, r.2.1 = (m : Int) ∧ Pt d f a b r.1 m) := by
  have hpl : p < l.length := by omega
  have hal : a < l.length := by omega
  have wb : IntKind.wrap .i64 ((b : Int) - 1) = ((b - 1 : Nat) : Int) := w_nat (by omega) (by omega)
  have wa : IntKind.wrap .i64 ((a : Int) + 1) = ((a + 1 : Nat) : Int) := w_nat (by omega) (by omega)
  have el1 : (l.set a (G d l p)).set p (G d l a) = swpQ d l a p := rfl
  have hl1 : (swpQ d l a p).length = l.length := swp_len _ _ _ _
  have J0 : PJ d (fun z => decide (f z (G d (swpQ d l a p) a) < 0)) (G d (swpQ d l a p) a) a b l (swpQ d l a p) (a + 1) (b - 1) := ⟨rg_swp ⟨by omega, by omega⟩ hp hal hpl, rfl, by omega, by omega, by omega, by omega, fun k k1 k2 => by omega, fun k k1 k2 => by omega⟩
  have hup : ∀ {m : List α} {j : Nat} (hm : b ≤ m.length) (hj : j < b) (g : Int → Option (Int ⊕ Int)) (gq : Int → Option Bool), (∀ x : Int, g x = (gq x).bind fun v => cond v (some (.inl (IntKind.wrap .i64 (x + 1)))) (some (.inr x))) →
      (∀ x : Int, gq x = cond (decide (x ≤ (j : Int))) ((at? m x).bind fun v => (at? m (a : Int)).bind fun w => (c v w).bind fun z => some (decide (z < 0))) (some false)) →
      ∀ x : Nat, a + 1 ≤ x → x ≤ j + 1 → g x = some (if x ≤ j ∧ decide (f (G d m x) (G d m a) < 0) = true then .inl ((x + 1 : Nat) : Int) else .inr (x : Int)) := by
    intro m j hm hj g gq e1 e2 x x1 x2
    rw [e1, e2]
    by_cases hx : x ≤ j
    · have hx' : (x : Int) ≤ j := by omega
      have w : IntKind.wrap .i64 ((x : Int) + 1) = ((x + 1 : Nat) : Int) := w_nat (by omega) (by omega)
      simp only [hx', decide_true, cond_true, at_G (d := d) (show x < m.length by omega), at_G (d := d) (show a < m.length by omega), Option.bind_some, hc, w, hx, true_and]
      by_cases hf : f (G d m x) (G d m a) < 0 <;> simp [hf]
    · have hx' : ¬ (x : Int) ≤ j := by omega
      simp [hx', hx]
  have hdn : ∀ {m : List α} (x : Nat) {j : Nat} (hm : b ≤ m.length) (hj : j < b) (g : Int → Option (Int ⊕ Int)) (gq : Int → Option Bool), a + 1 ≤ x → (∀ y : Int, g y = (gq y).bind fun v => cond v (some (.inl (IntKind.wrap .i64 (y - 1)))) (some (.inr y))) →
      (∀ y : Int, gq y = cond (decide ((x : Int) ≤ y)) ((at? m y).bind fun v => (at? m (a : Int)).bind fun w => (c v w).bind fun z => some (!(decide (z < 0)))) (some false)) →
      ∀ y : Nat, x ≤ y + 1 → y ≤ j → g y = some (if x ≤ y ∧ (!decide (f (G d m y) (G d m a) < 0)) = true then .inl ((y - 1 : Nat) : Int) else .inr (y : Int)) := by
    intro m x j hm hj g gq x1 e1 e2 y y1 y2
    rw [e1, e2]
    by_cases hx : x ≤ y
    · have hx' : (x : Int) ≤ y := by omega
      have w : IntKind.wrap .i64 ((y : Int) - 1) = ((y - 1 : Nat) : Int) := w_nat (by omega) (by omega)
      simp only [hx', decide_true, cond_true, at_G (d := d) (show y < m.length by omega), at_G (d := d) (show a < m.length by omega), Option.bind_some, hc, w, hx, true_and]
      by_cases hf : f (G d m y) (G d m a) < 0 <;> simp [hf]
    · have hx' : ¬ (x : Int) ≤ y := by omega
      simp [hx', hx]
  have loop5 : ∀ {m : List α} {i j : Nat}, PJ d (fun z => decide (f z (G d (swpQ d l a p) a) < 0)) (G d (swpQ d l a p) a) a b l m i j → Ok (loopO (pPx5 c (a : Int)) (m, (i : Int), (j : Int))) (fun r => ∃ (q : List α) (x y : Nat), r = (q, (y : Int)) ∧ PJ d (fun z => decide (f z (G d (swpQ d l a p) a) < 0)) (G d (swpQ d l a p) a) a b l q x y ∧ y < x) := by
    intro m i j J
    refine loop_ok (fun s : List α × Int × Int => ∃ (q : List α) (i j : Nat), s = (q, (i : Int), (j : Int)) ∧ PJ d (fun z => decide (f z (G d (swpQ d l a p) a) < 0)) (G d (swpQ d l a p) a) a b l q i j) (fun s => s.2.2.toNat) ?_ ⟨m, i, j, rfl, J⟩
    rintro _ ⟨q, i, j, rfl, J⟩
    have hql := J.rg.len
    have jb := J.jb
    obtain ⟨x, y, x1, y1, J2, hix, hyj, hxy⟩ := pj_ends J (by omega) (by omega) (g1 := pPx6 c a q j) (g2 := fun x => pPx8 c a q x)
      (fun x h1 h2 => by rw [← J.pv]; exact hup (m := q) (j := j) (by omega) (by omega) (pPx6 c a q j) (pPx7 c a q j) (fun _ => rfl) (fun _ => rfl) x (by have := J.i1; omega) h2)
      (fun x y h1 h2 h3 => by rw [← J.pv]; exact hdn (m := q) x (j := j) (by omega) (by omega) (pPx8 c a q x) (pPx9 c a q x) (by have := J.i1; omega) (fun _ => rfl) (fun _ => rfl) y h2 h3)
    unfold pPx5
    simp only [x1, y1, Option.bind_some]
    by_cases hlt : y < x
    · have : (y : Int) < x := by omega
      simp only [this, decide_true, cond_true]
      exact .some ⟨q, x, y, rfl, J2, hlt⟩
    · have : ¬ (y : Int) < x := by omega
      obtain ⟨J3, hne⟩ := pj_swap J2 (by omega) (by omega) (hxy (by omega))
      have hyl : y < q.length := by omega
      have hxl : x < q.length := by omega
      have wx : IntKind.wrap .i64 ((x : Int) + 1) = ((x + 1 : Nat) : Int) := w_nat (by omega) (by omega)
      have wy : IntKind.wrap .i64 ((y : Int) - 1) = ((y - 1 : Nat) : Int) := w_nat (by omega) (by omega)
      simp only [this, decide_false, cond_false, at_G (d := d) hyl, at_G (d := d) hxl, Option.bind_some, Int.toNat_natCast, at_G (d := d) (l := q.set x (G d q y)) (k := y) (by simpa using hyl), wx, wy]
      exact .some ⟨⟨swpQ d q x y, x + 1, y - 1, rfl, J3⟩, by simp only; omega⟩
  obtain ⟨x, y, x1, y1, J2, hix, hyj, hxy⟩ := pj_ends J0 (by omega) (by omega) (g1 := pPx1 c l a b p (G d l p) (G d l a)) (g2 := fun x => pPx3 c l a p (G d l p) (G d l a) x)
    (fun x h1 h2 => hup (m := swpQ d l a p) (j := b - 1) (by omega) (by omega) (pPx1 c l a b p (G d l p) (G d l a)) (pPx2 c l a b p (G d l p) (G d l a)) (fun _ => rfl) (fun x => by unfold pPx2; rw [wb]; rfl) x h1 h2)
    (fun x y h1 h2 h3 => hdn (m := swpQ d l a p) x (j := b - 1) (by omega) (by omega) (pPx3 c l a p (G d l p) (G d l a) x) (pPx4 c l a p (G d l p) (G d l a) x) h1 (fun _ => rfl) (fun _ => rfl) y h2 h3)
  have jb2 := J2.jb
  have i12 := J2.i1
  have hyl : y < (swpQ d l a p).length := by omega
  have hal2 : a < (swpQ d l a p).length := by omega
  unfold pP
  simp only [at_G (d := d) hpl, at_G (d := d) hal, at_G (d := d) (l := l.set a (G d l p)) (k := p) (by simpa using hpl), Option.bind_some, Int.toNat_natCast, el1, wa, wb, x1, y1]
  by_cases hlt : y < x
  · have : (y : Int) < x := by omega
    obtain ⟨e1, e2⟩ := pj_end hc anti J2 (by omega) hlt
    simp only [this, decide_true, cond_true, at_G (d := d) hyl, at_G (d := d) hal2, Option.bind_some, at_G (d := d) (l := (swpQ d l a p).set y (G d (swpQ d l a p) a)) (k := a) (by simpa using hal2)]
    exact .some ⟨e1, y, rfl, e2⟩
  · have : ¬ (y : Int) < x := by omega
    obtain ⟨J3, hne⟩ := pj_swap J2 (by omega) (by omega) (hxy (by omega))
    have hxl : x < (swpQ d l a p).length := by omega
    have wx : IntKind.wrap .i64 ((x : Int) + 1) = ((x + 1 : Nat) : Int) := w_nat (by omega) (by omega)
    have wy : IntKind.wrap .i64 ((y : Int) - 1) = ((y - 1 : Nat) : Int) := w_nat (by omega) (by omega)
    simp only [this, decide_false, cond_false, at_G (d := d) hyl, at_G (d := d) hxl, Option.bind_some, at_G (d := d) (l := (swpQ d l a p).set x (G d (swpQ d l a p) y)) (k := y) (by simpa using hyl), wx, wy]
    refine (loop5 J3).bind fun r ⟨q, x', y', hr, J4, hlt'⟩ => ?_
    subst hr
    have hql := J4.rg.len
    have jb4 := J4.jb
    have hy4 : y' < q.length := by omega
    have ha4 : a < q.length := by omega
    obtain ⟨e1, e2⟩ := pj_end hc anti J4 (by omega) hlt'
    simp only [at_G (d := d) hy4, at_G (d := d) ha4, Option.bind_some, Int.toNat_natCast, at_G (d := d) (l := q.set y' (G d q a)) (k := a) (by simpa using ha4)]
    exact .some ⟨e1, y', rfl, e2⟩

include anti in
/-- those that are like the least come first -/
theorem pE_ok {l : List α} {a b p : Nat} (hl : b ≤ l.length) (hl2 : l.length ≤ 1000) (hp : a ≤ p ∧ p < b) : Ok (pE c l a b p) (fun r => Rg d a b l r.1 ∧ ∃ m : Nat, r.2 = (m : Int) ∧ a + 1 ≤ m ∧ m ≤ b ∧ ∀ k, a ≤ k → k < m → f (G d r.1 k) (G d l p) ≤ 0) := by
  have hpl : p < l.length := by omega
  have hal : a < l.length := by omega
  have wb : IntKind.wrap .i64 ((b : Int) - 1) = ((b - 1 : Nat) : Int) := w_nat (by omega) (by omega)
  have wa : IntKind.wrap .i64 ((a : Int) + 1) = ((a + 1 : Nat) : Int) := w_nat (by omega) (by omega)
  have el1 : (l.set a (G d l p)).set p (G d l a) = swpQ d l a p := rfl
  have hpv : G d (swpQ d l a p) a = G d l p := by
    rw [G_swp hal hpl]
    by_cases h : p = a
    · rw [if_pos h, h]
    · rw [if_neg h, if_pos rfl]
  have J0 : PJ d (fun z => !decide (f (G d l p) z < 0)) (G d l p) a b l (swpQ d l a p) (a + 1) (b - 1) := ⟨rg_swp ⟨by omega, by omega⟩ hp hal hpl, hpv, by omega, by omega, by omega, by omega, fun k k1 k2 => by omega, fun k k1 k2 => by omega⟩
  have key : Ok (loopO (pEx1 c (a : Int)) (swpQ d l a p, ((a + 1 : Nat) : Int), ((b - 1 : Nat) : Int))) (fun r => ∃ (q : List α) (x y : Nat), r = (q, (x : Int)) ∧ PJ d (fun z => !decide (f (G d l p) z < 0)) (G d l p) a b l q x y) := by
    refine loop_ok (fun s : List α × Int × Int => ∃ (q : List α) (i j : Nat), s = (q, (i : Int), (j : Int)) ∧ PJ d (fun z => !decide (f (G d l p) z < 0)) (G d l p) a b l q i j) (fun s => s.2.2.toNat) ?_ ⟨swpQ d l a p, a + 1, b - 1, rfl, J0⟩
    rintro _ ⟨q, i, j, rfl, J⟩
    have hql := J.rg.len
    have jb := J.jb
    have i1 := J.i1
    obtain ⟨x, y, x1, y1, J2, hix, hyj, hxy⟩ := pj_ends J (by omega) (by omega) (g1 := pEx2 c a q j) (g2 := fun x => pEx4 c a q x)
      (fun x h1 h2 => by
        unfold pEx2 pEx3
        by_cases hx : x ≤ j
        · have hx' : (x : Int) ≤ j := by omega
          have w : IntKind.wrap .i64 ((x : Int) + 1) = ((x + 1 : Nat) : Int) := w_nat (by omega) (by omega)
          simp only [hx', decide_true, cond_true, at_G (d := d) (show x < q.length by omega), at_G (d := d) (show a < q.length by omega), Option.bind_some, hc, w, hx, true_and, J.pv]
          by_cases hf : f (G d l p) (G d q x) < 0 <;> simp [hf]
        · have hx' : ¬ (x : Int) ≤ j := by omega
          simp [hx', hx])
      (fun x y h1 h2 h3 => by
        unfold pEx4 pEx5
        by_cases hx : x ≤ y
        · have hx' : (x : Int) ≤ y := by omega
          have w : IntKind.wrap .i64 ((y : Int) - 1) = ((y - 1 : Nat) : Int) := w_nat (by omega) (by omega)
          simp only [hx', decide_true, cond_true, at_G (d := d) (show y < q.length by omega), at_G (d := d) (show a < q.length by omega), Option.bind_some, hc, w, hx, true_and, J.pv]
          by_cases hf : f (G d l p) (G d q y) < 0 <;> simp [hf]
        · have hx' : ¬ (x : Int) ≤ y := by omega
          simp [hx', hx])
    unfold pEx1
    simp only [x1, y1, Option.bind_some]
    by_cases hlt : y < x
    · have : (y : Int) < x := by omega
      simp only [this, decide_true, cond_true]
      exact .some ⟨q, x, y, rfl, J2⟩
    · have : ¬ (y : Int) < x := by omega
      obtain ⟨J3, hne⟩ := pj_swap J2 (by omega) (by omega) (hxy (by omega))
      have hyl : y < q.length := by omega
      have hxl : x < q.length := by omega
      have wx : IntKind.wrap .i64 ((x : Int) + 1) = ((x + 1 : Nat) : Int) := w_nat (by omega) (by omega)
      have wy : IntKind.wrap .i64 ((y : Int) - 1) = ((y - 1 : Nat) : Int) := w_nat (by omega) (by omega)
      simp only [this, decide_false, cond_false, at_G (d := d) hyl, at_G (d := d) hxl, Option.bind_some, Int.toNat_natCast, at_G (d := d) (l := q.set x (G d q y)) (k := y) (by simpa using hyl), wx, wy]
      exact .some ⟨⟨swpQ d q x y, x + 1, y - 1, rfl, J3⟩, by simp only; omega⟩
  unfold pE
  simp only [at_G (d := d) hpl, at_G (d := d) hal, at_G (d := d) (l := l.set a (G d l p)) (k := p) (by simpa using hpl), Option.bind_some, Int.toNat_natCast, el1, wa, wb]
  refine key.bind fun r ⟨q, x, y, hr, J⟩ => ?_
  subst hr
  have i1 := J.i1
  have ij := J.ij
  have jb := J.jb
  refine .some ⟨J.rg, x, rfl, i1, by omega, fun k k1 k2 => ?_⟩
  by_cases hk : k = a
  · simp only
    rw [hk, J.pv]
    have := anti (G d l p) (G d l p)
    omega
  · have h1 := J.lo k (by omega) k2
    have h2 := anti (G d l p) (G d q k)
    have h3 : ¬ f (G d l p) (G d q k) < 0 := by simpa using h1
    show f (G d q k) (G d l p) ≤ 0
    omega
omit hc
/-! ### Patterns are broken -/
theorem and15 (x : Int) : 0 ≤ ibits .and .u64 x 15 ∧ ibits .and .u64 x 15 ≤ 15 := by
  have h : (BitVec.ofInt IntKind.u64.bits x &&& BitVec.ofInt IntKind.u64.bits 15).toNat ≤ 15 := by
    rw [BitVec.toNat_and]
    exact Nat.le_trans Nat.and_le_right (by decide)
  unfold ibits
  simp only
  generalize (BitVec.ofInt IntKind.u64.bits x &&& BitVec.ofInt IntKind.u64.bits 15).toNat = n at h
  have : IntKind.wrap .u64 (n : Int) = (n : Int) := by
    unfold IntKind.wrap
    simp [IntKind.bits, IntKind.signed]
    omega
  rw [this]
  omega
theorem pBx2_ok {a b : Nat} (hab : a + 13 ≤ b ∧ b ≤ a + 15) (hb : b ≤ 1000) (x : Int) : ∃ r : Nat, pBx2 a b 16 x = some (r : Int) ∧ a + r < b := by
  have w0 : IntKind.wrap .i64 ((b : Int) - a) = ((b - a : Nat) : Int) := w_nat (by omega) (by omega)
  have w15 : IntKind.wrap .u64 (16 - 1) = 15 := by decide
  unfold pBx2
  rw [w0, w15]
  generalize ibits .xor .u64 (ibits .xor .u64 (ibits .xor .u64 x (ishl .u64 x 13)) (ishr .u64 (ibits .xor .u64 x (ishl .u64 x 13)) 7)) (ishl .u64 (ibits .xor .u64 (ibits .xor .u64 x (ishl .u64 x 13)) (ishr .u64 (ibits .xor .u64 x (ishl .u64 x 13)) 7)) 17) = X
  obtain ⟨h1, h2⟩ := and15 X
  generalize ibits .and .u64 X 15 = y at h1 h2
  have wy : IntKind.wrap .i64 y = y := wrap64 (by omega) (by omega)
  rw [wy]
  by_cases h : ((b - a : Nat) : Int) ≤ y
  · have w2 : IntKind.wrap .i64 (y - ((b - a : Nat) : Int)) = y - ((b - a : Nat) : Int) := wrap64 (by omega) (by omega)
    refine ⟨(y - ((b - a : Nat) : Int)).toNat, ?_, by omega⟩
    simp only [h, decide_true, cond_true, w2]
    congr 1
    omega
  · refine ⟨y.toNat, ?_, by omega⟩
    simp only [h, decide_false, cond_false]
    congr 1
    omega
theorem pN13 : pN 13 = some 16 := by kernel_rfl
theorem pN14 : pN 14 = some 16 := by kernel_rfl
theorem pN15 : pN 15 = some 16 := by kernel_rfl
theorem pB_ok {l : List α} {a b : Nat} (hl : b ≤ l.length) (hl2 : l.length ≤ 1000) (hab : a + 13 ≤ b ∧ b ≤ a + 15) : Ok (pB l a b) (fun r => Rg d a b l r) := by
  have w0 : IntKind.wrap .i64 ((b : Int) - a) = ((b - a : Nat) : Int) := w_nat (by omega) (by omega)
  have hN : pN ((b - a : Nat) : Int) = some 16 := by
    have : b - a = 13 ∨ b - a = 14 ∨ b - a = 15 := by omega
    rcases this with h | h | h <;> rw [h]
    · exact pN13
    · exact pN14
    · exact pN15
  have q3 : ((b - a : Nat) : Int).tdiv 4 = 3 := by rw [Int.tdiv_eq_ediv_of_nonneg (by omega)]; omega
  have w3 : IntKind.wrap .i64 3 = 3 := by decide
  have m2 : IntKind.wrap .i64 (3 * 2) = 6 := by decide
  have i2 : IntKind.wrap .i64 ((a : Int) + 6) = ((a + 6 : Nat) : Int) := w_nat (by omega) (by omega)
  have i3 : IntKind.wrap .i64 (((a + 6 : Nat) : Int) - 1) = ((a + 5 : Nat) : Int) := w_nat (by omega) (by omega)
  have i4 : IntKind.wrap .i64 (((a + 6 : Nat) : Int) + 1) = ((a + 7 : Nat) : Int) := w_nat (by omega) (by omega)
  have n8 : (8 : Int) ≤ ((b - a : Nat) : Int) := by omega
  unfold pB
  simp only [w0, n8, decide_true, cond_true, hN, Option.bind_some, q3, w3, m2, i2, i3]
  refine Ok.bind (P := fun r => Rg d a b l r) (loop_ok (fun s : List α × Int × Int => ∃ (q : List α) (x : Int) (k : Nat), s = (q, x, (k : Int)) ∧ a + 5 ≤ k ∧ k ≤ a + 8 ∧ Rg d a b l q) (fun s => ((a : Int) + 8 - s.2.2).toNat) ?_ ⟨l, _, a + 5, rfl, by omega, by omega, Rg.refl d a b l⟩) fun r hr => .some hr
  rintro _ ⟨q, x, k, rfl, k1, k2, R⟩
  have hql := R.len
  unfold pBx1
  simp only [w0, q3, w3, m2, i2, i4]
  by_cases hk : k ≤ a + 7
  · have hk' : (k : Int) ≤ ((a + 7 : Nat) : Int) := by omega
    obtain ⟨r, r1, r2⟩ := pBx2_ok hab (by omega) x
    have wr : IntKind.wrap .i64 ((a : Int) + r) = ((a + r : Nat) : Int) := w_nat (by omega) (by omega)
    have wk : IntKind.wrap .i64 ((k : Int) + 1) = ((k + 1 : Nat) : Int) := w_nat (by omega) (by omega)
    have h1 : a + r < q.length := by omega
    have h2 : k < q.length := by omega
    simp only [hk', decide_true, cond_true, pX, Option.bind_some, r1, wr, wk, at_G (d := d) h1, at_G (d := d) h2, Int.toNat_natCast, at_G (d := d) (l := q.set k (G d q (a + r))) (k := a + r) (by simpa using h1)]
    exact .some ⟨⟨swpQ d q k (a + r), _, k + 1, rfl, by omega, by omega, R.trans (rg_swp ⟨by omega, by omega⟩ ⟨by omega, by omega⟩ h2 h1)⟩, by simp only; omega⟩
  · have hk' : ¬ (k : Int) ≤ ((a + 7 : Nat) : Int) := by omega
    simp only [hk', decide_false, cond_false]
    exact .some R
include hc
/-! ### Insertion within a part -/
include anti tr in
theorem gIr_ok {l : List α} {a b : Nat} (hl : b ≤ l.length) (hl2 : l.length ≤ 1000) (hab : a ≤ b) : Ok (gI c l a b) (fun r => Rg d a b l r ∧ ∀ i j, a ≤ i → i < j → j < b → f (G d r i) (G d r j) ≤ 0) := by
  have wa : IntKind.wrap .i64 ((a : Int) + 1) = ((a + 1 : Nat) : Int) := w_nat (by omega) (by omega)
  have inner : ∀ {m : List α} {i : Nat}, a < i → i < b → b ≤ m.length → m.length ≤ 1000 → (∀ x y, a ≤ x → x < y → y < i → f (G d m x) (G d m y) ≤ 0) →
      Ok (loopO (gI2 c (a : Int)) (m, (i : Int))) (fun r => Rg d a b m r ∧ ∀ x y, a ≤ x → x < y → y < i + 1 → f (G d r x) (G d r y) ≤ 0) := by
    intro m i h1 h2 hm hm2 hs
    refine loop_ok (fun s : List α × Int => ∃ (q : List α) (j : Nat), s = (q, (j : Int)) ∧ a ≤ j ∧ j ≤ i ∧ Rg d a b m q ∧ ∀ x y, a ≤ x → x < y → y < i + 1 → y ≠ j → f (G d q x) (G d q y) ≤ 0) (fun s => s.2.toNat) ?_ ⟨m, i, rfl, by omega, Nat.le_refl _, Rg.refl d a b m, fun x y x1 x2 x3 x4 => hs x y x1 x2 (by omega)⟩
    rintro _ ⟨q, j, rfl, j1, j2, R, S⟩
    have hql := R.len
    unfold gI2 gI3
    by_cases hj : a < j
    · have hj' : (a : Int) < j := by omega
      have w1 : IntKind.wrap .i64 ((j : Int) - 1) = ((j - 1 : Nat) : Int) := w_nat (by omega) (by omega)
      have hjl : j < q.length := by omega
      have hjl1 : j - 1 < q.length := by omega
      simp only [hj', decide_true, cond_true, w1, at_G (d := d) hjl, at_G (d := d) hjl1, Option.bind_some, hc]
      refine .cond (fun hlt => ?_) (fun hge => .some ⟨R, fun x y x1 x2 x3 => ?_⟩)
      · have hlt : f (G d q j) (G d q (j - 1)) < 0 := by simpa using hlt
        simp only [Int.toNat_natCast, at_G (d := d) (l := q.set j (G d q (j - 1))) (k := j - 1) (by simpa using hjl1), Option.bind_some]
        refine .some ⟨⟨swpQ d q j (j - 1), j - 1, rfl, by omega, by omega, R.trans (rg_swp ⟨by omega, by omega⟩ ⟨by omega, by omega⟩ hjl hjl1), fun x y x1 x2 x3 x4 => ?_⟩, by simp only; omega⟩
        have ex : G d (swpQ d q j (j - 1)) x = if j - 1 = x then G d q j else if j = x then G d q (j - 1) else G d q x := G_swp hjl hjl1
        have ey : G d (swpQ d q j (j - 1)) y = if j = y then G d q (j - 1) else G d q y := by rw [G_swp hjl hjl1, if_neg (fun e => x4 e.symm)]
        rw [ex, ey]
        by_cases hy : j = y
        · rw [if_pos hy]
          by_cases hx : j - 1 = x
          · rw [if_pos hx]; omega
          · rw [if_neg hx, if_neg (by omega)]
            exact S x (j - 1) x1 (by omega) (by omega) (by omega)
        · rw [if_neg hy]
          by_cases hx : j - 1 = x
          · rw [if_pos hx]
            by_cases hjy : j < y
            · exact S j y (by omega) hjy x3 (by omega)
            · omega
          · rw [if_neg hx]
            by_cases hx2 : j = x
            · rw [if_pos hx2]
              exact S (j - 1) y (by omega) (by omega) x3 (fun e => hy e.symm)
            · rw [if_neg hx2]
              exact S x y x1 x2 x3 (fun e => hy e.symm)
      · have hge : ¬ f (G d q j) (G d q (j - 1)) < 0 := by simpa using hge
        by_cases hy : y = j
        · subst hy
          have h3 : f (G d q (y - 1)) (G d q y) ≤ 0 := by have := anti (G d q y) (G d q (y - 1)); omega
          by_cases hx : x = y - 1
          · rw [hx]; exact h3
          · exact tr _ _ _ (S x (y - 1) x1 (by omega) (by omega) (by omega)) h3
        · exact S x y x1 x2 x3 hy
    · have hj' : ¬ (a : Int) < j := by omega
      simp only [hj', decide_false, cond_false, Option.bind_some]
      exact .some ⟨R, fun x y x1 x2 x3 => S x y x1 x2 x3 (by omega)⟩
  unfold gI
  rw [wa]
  refine Ok.bind (P := fun r => Rg d a b l r ∧ ∀ i j, a ≤ i → i < j → j < b → f (G d r i) (G d r j) ≤ 0) (loop_ok (fun s : List α × Int => ∃ (q : List α) (i : Nat), s = (q, (i : Int)) ∧ a + 1 ≤ i ∧ (i ≤ b ∨ i = a + 1) ∧ Rg d a b l q ∧ ∀ x y, a ≤ x → x < y → y < i → f (G d q x) (G d q y) ≤ 0) (fun s => ((b : Int) - s.2).toNat) ?_ ⟨l, a + 1, rfl, by omega, .inr rfl, Rg.refl d a b l, fun x y x1 x2 x3 => by omega⟩) fun r hr => .some hr
  rintro _ ⟨q, i, rfl, i1, i2, R, S⟩
  have hql := R.len
  unfold gI1
  by_cases hi : i < b
  · have hi' : (i : Int) < b := by omega
    have w1 : IntKind.wrap .i64 ((i : Int) + 1) = ((i + 1 : Nat) : Int) := w_nat (by omega) (by omega)
    simp only [hi', decide_true, cond_true]
    refine (inner (by omega) hi (by omega) (by omega) S).bind fun r ⟨r1, r2⟩ => ?_
    rw [w1]
    exact .some ⟨⟨r, i + 1, rfl, by omega, .inl (by omega), R.trans r1, r2⟩, by simp only; omega⟩
  · have hi' : ¬ (i : Int) < b := by omega
    simp only [hi', decide_false, cond_false]
    exact .some ⟨R, fun x y x1 x2 x3 => S x y x1 x2 (by omega)⟩
/-! ### All of it -/
omit hc in
theorem fin_rg {A B a b : Nat} {q r : List α} (F : ∀ i j, A ≤ i → i < j → j < B → (i < a ∨ b ≤ j) → f (G d q i) (G d q j) ≤ 0) (hA : A ≤ a) (hB : b ≤ B) (R : Rg d a b q r) : ∀ i j, A ≤ i → i < j → j < B → (i < a ∨ b ≤ j) → f (G d r i) (G d r j) ≤ 0 := by
  intro i j i1 i2 i3 h
  rcases h with h | h
  · rw [R.out i (.inl h)]
    by_cases hj : a ≤ j ∧ j < b
    · obtain ⟨k, k1, k2, k3⟩ := R.seg j hj.1 hj.2
      rw [k3]
      exact F i k i1 (by omega) (by omega) (.inl h)
    · rw [R.out j (by omega)]
      exact F i j i1 i2 i3 (.inl h)
  · rw [R.out j (.inr h)]
    by_cases hi : a ≤ i ∧ i < b
    · obtain ⟨k, k1, k2, k3⟩ := R.seg i hi.1 hi.2
      rw [k3]
      exact F k j (by omega) (by omega) i3 (.inr h)
    · rw [R.out i (by omega)]
      exact F i j i1 i2 i3 (.inr h)
include anti tr in
theorem pQn_ok : ∀ (n : Nat) (l : List α) (A B : Nat) (lim : Int), B - A + 1 ≤ n → A ≤ B → B ≤ l.length → l.length ≤ 1000 → B ≤ A + 15 → ((B - A : Nat) : Int) ≤ lim + 11 → lim ≤ 1000 → -100 ≤ lim →
    (0 < A → ∀ k, A ≤ k → k < B → f (G d l (A - 1)) (G d l k) ≤ 0) → Ok (pQn c n l A B lim) (fun r => Rg d A B l r ∧ ∀ i j, A ≤ i → i < j → j < B → f (G d r i) (G d r j) ≤ 0)
  | 0, l, A, B, lim, h, _, _, _, _, _, _, _, _ => by omega
  | n + 1, l, A, B, lim, hn, hAB, hl, hl2, h15, hlim, hlim2, hlim3, pre => by
    unfold pQn
    refine Ok.bind (P := fun r => Rg d A B l r ∧ ∀ i j, A ≤ i → i < j → j < B → f (G d r i) (G d r j) ≤ 0) ?_ fun r hr => .some hr
    refine loop_ok (fun s : List α × Int × Int × Int × Bool × Bool => ∃ (q : List α) (a b : Nat) (lm : Int) (w p : Bool), s = (q, (a : Int), (b : Int), lm, w, p) ∧ A ≤ a ∧ a ≤ b ∧ b ≤ B ∧ Rg d A B l q ∧ (∀ i j, A ≤ i → i < j → j < B → (i < a ∨ b ≤ j) → f (G d q i) (G d q j) ≤ 0) ∧ ((b - a : Nat) : Int) ≤ lm + 11 ∧ lm ≤ 1000 ∧ -100 ≤ lm) (fun s => (s.2.2.1 - s.2.1).toNat) ?_
      ⟨l, A, B, lim, true, true, rfl, Nat.le_refl _, hAB, Nat.le_refl _, Rg.refl d A B l, fun i j i1 i2 i3 h => by omega, hlim, hlim2, hlim3⟩
    rintro _ ⟨q, a, b, lm, w, p, rfl, a1, ab, b1, R, F, L1, L2, L3⟩
    have hql := R.len
    have w0 : IntKind.wrap .i64 ((b : Int) - a) = ((b - a : Nat) : Int) := w_nat (by omega) (by omega)
    have prea : 0 < a → ∀ k, a ≤ k → k < b → f (G d q (a - 1)) (G d q k) ≤ 0 := by
      intro h0 k k1 k2
      by_cases hA : A < a
      · exact F (a - 1) k (by omega) (by omega) (by omega) (.inl (by omega))
      · have : a = A := by omega
        subst this
        rw [R.out (a - 1) (.inl (by omega))]
        obtain ⟨k', q1, q2, q3⟩ := R.seg k k1 (by omega)
        rw [q3]
        exact pre h0 k' q1 q2
    -- what is in order within as well is in order
    have whole : ∀ {r : List α}, Rg d a b q r → (∀ i j, a ≤ i → i < j → j < b → f (G d r i) (G d r j) ≤ 0) → Rg d A B l r ∧ ∀ i j, A ≤ i → i < j → j < B → f (G d r i) (G d r j) ≤ 0 := by
      intro r Rr S
      refine ⟨R.trans (Rr.mono a1 b1), fun i j i1 i2 i3 => ?_⟩
      by_cases h : i < a ∨ b ≤ j
      · exact fin_rg F a1 b1 Rr i j i1 i2 i3 h
      · exact S i j (by omega) i2 (by omega)
    unfold pQx1
    dsimp only
    rw [w0]
    by_cases h12 : b - a ≤ 12
    · have h12' : ((b - a : Nat) : Int) ≤ 12 := by omega
      simp only [h12', decide_true, cond_true]
      refine (gIr_ok hc anti tr (d := d) (show b ≤ q.length by omega) (by omega) ab).bind fun r ⟨r1, r2⟩ => ?_
      exact .gd (by simp [r1.len]) (.some (whole r1 r2))
    · have h12' : ¬ ((b - a : Nat) : Int) ≤ 12 := by omega
      have hl0 : ¬ lm = 0 := by omega
      have hr13 : a + 13 ≤ b ∧ b ≤ a + 15 := by omega
      simp only [h12', hl0, decide_false, cond_false]
      have hx2 : Ok (pQx2 (pQn c n) q a b lm w) (fun x => Rg d a b q x.1 ∧ lm - 1 ≤ x.2 ∧ x.2 ≤ lm) := by
        unfold pQx2
        refine .cond (fun _ => ?_) (fun _ => .some ⟨Rg.refl d a b q, by simp only; omega, by simp only; omega⟩)
        refine (pB_ok (d := d) (show b ≤ q.length by omega) (by omega) hr13).bind fun r hr => ?_
        rw [wrap64 (by omega) (by omega)]
        exact .gd (by simp [hr.len]) (.some ⟨hr, by simp only; omega, by simp only; omega⟩)
      refine hx2.bind fun ⟨q1, lm1⟩ ⟨R1, m1, m2⟩ => ?_
      simp only at R1 m1 m2
      have hq1 := R1.len
      refine (pC_ok hc (l := q1) (a := a) (b := b) (by omega) (by omega) hr13).bind fun ⟨pi, h⟩ ⟨p1, p2⟩ => ?_
      simp only at p1 p2
      obtain ⟨pn, rfl⟩ : ∃ pn : Nat, pi = (pn : Int) := ⟨pi.toNat, by omega⟩
      have hx3 : pQx3 (pQn c n) a b q1 pn h = some (q1, (pn : Int), h) := by
        unfold pQx3
        simp [p2]
      simp only [hx3, Option.bind_some]
      have F1 := fin_rg F a1 b1 R1
      have pre1 : 0 < a → ∀ k, a ≤ k → k < b → f (G d q1 (a - 1)) (G d q1 k) ≤ 0 := by
        intro h0 k k1 k2
        rw [R1.out (a - 1) (.inl (by omega))]
        obtain ⟨k', e1, e2, e3⟩ := R1.seg k k1 k2
        rw [e3]
        exact prea h0 k' e1 e2
      have hx4 : Ok (pQx4 c (pQn c n) a b w p q1 h) (fun x => match x with | .inl r => r = q1 | .inr r => r = q1 ∧ ∀ i, a ≤ i → i + 1 < b → f (G d q1 i) (G d q1 (i + 1)) ≤ 0) := by
        unfold pQx4
        refine Ok.bind (P := fun _ => True) ?_ fun v _ => .cond (fun _ => ?_) (fun _ => .some rfl)
        · unfold pQx5
          exact .cond (fun _ => .cond (fun _ => .some trivial) fun _ => .some trivial) fun _ => .some trivial
        · obtain ⟨g, g1, g2⟩ := pI_ok hc anti (d := d) (l := q1) (a := a) (b := b) (by omega) (by omega) (by omega)
          rw [g1]
          simp only [Option.bind_some]
          refine .gd (by simp) ?_
          cases g with
          | true => exact .some ⟨rfl, g2 rfl⟩
          | false => exact .some rfl
      refine hx4.bind fun x hx => ?_
      cases x with
      | inr r =>
        obtain ⟨rfl, hs⟩ := hx
        refine .some (whole R1 fun i j i1 i2 i3 => ?_)
        have key : ∀ k, i + 1 + k < b → f (G d r i) (G d r (i + 1 + k)) ≤ 0 := by
          intro k
          induction k with
          | zero => intro hk; exact hs i i1 hk
          | succ k ih => intro hk; exact tr _ _ _ (ih (by omega)) (hs (i + 1 + k) (by omega) (by omega))
        have := key (j - i - 1) (by omega)
        rwa [show i + 1 + (j - i - 1) = j by omega] at this
      | inl r =>
        have hx : r = q1 := hx
        subst hx
        have hx6 : pQx6 c (pQn c n) a pn r = some (decide (0 < a) && !decide (f (G d r (a - 1)) (G d r pn) < 0)) := by
          unfold pQx6
          by_cases h0 : 0 < a
          · have h0' : (0 : Int) < a := by omega
            have wm : IntKind.wrap .i64 ((a : Int) - 1) = ((a - 1 : Nat) : Int) := w_nat (by omega) (by omega)
            simp only [h0', h0, decide_true, cond_true, wm, at_G (d := d) (show a - 1 < r.length by omega), at_G (d := d) (show pn < r.length by omega), Option.bind_some, hc, Bool.true_and]
          · have h0' : ¬ (0 : Int) < a := by omega
            simp [h0', h0]
        simp only [hx6, Option.bind_some]
        refine .cond (fun hT => ?_) (fun _ => ?_)
        · simp only [Bool.and_eq_true, decide_eq_true_eq, Bool.not_eq_true', decide_eq_false_iff_not] at hT
          obtain ⟨h0, hpl⟩ := hT
          have pre0 := pre1 h0
          refine (pE_ok hc anti (d := d) (l := r) (a := a) (b := b) (p := pn) (by omega) (by omega) (by omega)).bind fun ⟨q2, mi⟩ ⟨R2, m, hm, n1, n2, n3⟩ => ?_
          simp only at R2 hm n1 n2 n3
          subst hm
          have hq2 := R2.len
          refine .gd (by simp [hq2]) (.some ⟨⟨q2, m, b, lm1, w, p, rfl, by omega, n2, b1, R.trans ((R1.trans R2).mono a1 b1), fun i j i1 i2 i3 h => ?_, by omega, by omega, by omega⟩, by simp only; omega⟩)
          by_cases h' : i < a ∨ b ≤ j
          · exact fin_rg F1 a1 b1 R2 i j i1 i2 i3 h'
          · have e1 := n3 i (by omega) (by omega)
            have e2 : f (G d r pn) (G d r (a - 1)) ≤ 0 := by have := anti (G d r (a - 1)) (G d r pn); omega
            have e3 : f (G d r (a - 1)) (G d q2 j) ≤ 0 := by
              obtain ⟨k', u1, u2, u3⟩ := R2.seg j (by omega) (by omega)
              rw [u3]
              exact pre0 k' u1 u2
            exact tr _ _ _ (tr _ _ _ e1 e2) e3
        · refine (pP_ok hc anti (d := d) (l := r) (a := a) (b := b) (p := pn) (by omega) (by omega) (by omega)).bind fun ⟨q2, mi, fl⟩ ⟨R2, m, hm, P⟩ => ?_
          simp only at R2 hm P
          subst hm
          have hq2 := R2.len
          have ma := P.ma
          have mb := P.mb
          have F2 := fin_rg F1 a1 b1 R2
          have wm1 : IntKind.wrap .i64 ((m : Int) + 1) = ((m + 1 : Nat) : Int) := w_nat (by omega) (by omega)
          refine .gd (by simp [hq2]) ?_
          rw [wm1]
          refine .cond (fun _ => ?_) (fun _ => ?_)
          · refine (pQn_ok n q2 a m lm1 (by omega) ma (by omega) (by omega) (by omega) (by omega) (by omega) (by omega) (fun h0 k k1 k2 => by
              rw [R2.out (a - 1) (.inl (by omega))]
              obtain ⟨k', u1, u2, u3⟩ := R2.seg k k1 (by omega)
              rw [u3]
              exact pre1 h0 k' u1 u2)).bind fun q3 ⟨R3, S3⟩ => ?_
            have hq3 := R3.len
            have R3b := R3.mono (Nat.le_refl a) (show m ≤ b by omega)
            refine .gd (by simp [hq3]) (.some ⟨⟨q3, m + 1, b, lm1, _, fl, rfl, by omega, by omega, b1, R.trans (((R1.trans R2).trans R3b).mono a1 b1), fun i j i1 i2 i3 h => ?_, by omega, by omega, by omega⟩, by simp only; omega⟩)
            by_cases h' : i < a ∨ b ≤ j
            · exact fin_rg F2 a1 b1 R3b i j i1 i2 i3 h'
            · have hmm : G d q3 m = G d q2 m := R3.out m (.inr (Nat.le_refl _))
              by_cases him : i = m
              · subst him
                rw [hmm, R3.out j (.inr (by omega))]
                exact P.hi j i2 (by omega)
              · by_cases hjm : j < m
                · exact S3 i j (by omega) i2 hjm
                · obtain ⟨i', u1, u2, u3⟩ := R3.seg i (by omega) (by omega)
                  have e1 := P.lo i' u1 u2
                  rw [u3]
                  by_cases hje : j = m
                  · subst hje
                    rw [hmm]; exact e1
                  · rw [R3.out j (.inr (by omega))]
                    exact tr _ _ _ e1 (P.hi j (by omega) (by omega))
          · refine (pQn_ok n q2 (m + 1) b lm1 (by omega) (by omega) (by omega) (by omega) (by omega) (by omega) (by omega) (by omega) (fun h0 k k1 k2 => by
              rw [show m + 1 - 1 = m by omega]
              exact P.hi k (by omega) k2)).bind fun q3 ⟨R3, S3⟩ => ?_
            have hq3 := R3.len
            have R3b := R3.mono (show a ≤ m + 1 by omega) (Nat.le_refl b)
            refine .gd (by simp [hq3]) (.some ⟨⟨q3, a, m, lm1, _, fl, rfl, a1, ma, by omega, R.trans (((R1.trans R2).trans R3b).mono a1 b1), fun i j i1 i2 i3 h => ?_, by omega, by omega, by omega⟩, by simp only; omega⟩)
            by_cases h' : i < a ∨ b ≤ j
            · exact fin_rg F2 a1 b1 R3b i j i1 i2 i3 h'
            · have hmm : G d q3 m = G d q2 m := R3.out m (.inl (by omega))
              by_cases hjm : j = m
              · subst hjm
                rw [hmm, R3.out i (.inl (by omega))]
                exact P.lo i (by omega) i2
              · by_cases him : m < i
                · exact S3 i j (by omega) i2 (by omega)
                · obtain ⟨j', u1, u2, u3⟩ := R3.seg j (by omega) (by omega)
                  have e1 := P.hi j' (by omega) u2
                  rw [u3]
                  by_cases hie : i = m
                  · subst hie
                    rw [hmm]; exact e1
                  · rw [R3.out i (.inl (by omega))]
                    exact tr _ _ _ (P.lo i (by omega) (by omega)) e1
/-- the code's sorting of up to fifteen -/
noncomputable def gSQ (c : α → α → Option Int) (qx : List α) : Option (List α) :=
  (bits_Len (IntKind.wrap .u64 ((qx.length : Int)))).bind fun vr1 =>
  (pQ c qx 0 (qx.length : Int) vr1).bind fun vl2 =>
  gd (vl2.length == qx.length) <|
  some vl2
omit hc in
theorem bitLen15 (n : Nat) (h : n ≤ 15) : ∃ b, bits_Len (IntKind.wrap .u64 (n : Int)) = some b ∧ (n : Int) ≤ b + 11 ∧ b ≤ 1000 ∧ -100 ≤ b := by
  have key : ((List.range 16).all fun k => match bits_Len (IntKind.wrap .u64 (k : Int)) with | some b => decide ((k : Int) ≤ b + 11) && (decide (b ≤ 1000) && decide (-100 ≤ b)) | none => false) = true := by kernel_rfl
  have := List.all_eq_true.1 key n (List.mem_range.2 (by omega))
  cases hb : bits_Len (IntKind.wrap .u64 (n : Int)) with
  | none => rw [hb] at this; cases this
  | some b =>
    rw [hb] at this
    simp only [Bool.and_eq_true, decide_eq_true_eq] at this
    exact ⟨b, rfl, this.1, this.2.1, this.2.2⟩
include anti tr in
theorem gSQ_ok {l : List α} (hl : l.length ≤ 15) : ∃ r, gSQ c l = some r ∧ r.Perm l ∧ r.Pairwise fun x y => f x y ≤ 0 := by
  cases hl0 : l with
  | nil =>
    have : gSQ c ([] : List α) = some [] := by
      obtain ⟨b, b1, _⟩ := bitLen15 0 (by omega)
      have h0 : pQ c ([] : List α) 0 0 b = some [] := by
        unfold pQ
        refine fixO_20 ?_
        unfold pQn
        rw [loop_out (r := ([] : List α)) (by
          unfold pQx1
          have w : IntKind.wrap .i64 ((0 : Int) - 0) = 0 := by decide
          have w1 : IntKind.wrap .i64 ((0 : Int) + 1) = 1 := by decide
          have hg : gI c ([] : List α) 0 0 = some [] := by
            unfold gI
            rw [w1, loop_out (r := ([] : List α)) (by unfold gI1; simp)]
            rfl
          dsimp only
          rw [w]
          simp only [show ((0 : Int) ≤ 12) by decide, decide_true, cond_true, hg, Option.bind_some]
          rfl)]
        rfl
      unfold gSQ
      have b1' : bits_Len (IntKind.wrap .u64 ((([] : List α).length : Nat) : Int)) = some b := b1
      rw [b1']
      simp only [Option.bind_some, List.length_nil]
      have h0' : pQ c ([] : List α) 0 ((0 : Nat) : Int) b = some [] := h0
      rw [h0']
      rfl
    exact ⟨[], this, List.Perm.refl _, List.Pairwise.nil⟩
  | cons x0 l0 =>
    rw [← hl0]
    obtain ⟨b, b1, b2, b3, b4⟩ := bitLen15 l.length hl
    obtain ⟨r, r1, r2, r3⟩ := pQn_ok hc anti tr (d := x0) 20 l 0 l.length b (by omega) (by omega) (Nat.le_refl _) (by omega) (by omega) (by omega) b3 b4 (fun h => by omega)
    refine ⟨r, ?_, r2.perm, ?_⟩
    · have r1' : pQn c 20 l 0 (l.length : Int) b = some r := r1
      unfold gSQ pQ
      rw [b1]
      simp only [Option.bind_some]
      rw [fixO_20 r1']
      simp only [Option.bind_some, gd, r2.len, beq_self_eq_true, cond_true]
    · rw [List.pairwise_iff_getElem]
      intro i j hi hj hij
      have := r3 i j (by omega) hij (by rw [← r2.len]; exact hj)
      have e1 : G x0 r i = r[i] := by unfold G; rw [List.getD_eq_getElem?_getD, List.getElem?_eq_getElem hi]; rfl
      have e2 : G x0 r j = r[j] := by unfold G; rw [List.getD_eq_getElem?_getD, List.getElem?_eq_getElem hj]; rfl
      rw [e1, e2] at this
      exact this
end
end Go.Eng

/-
Sorting of up to fifteen strings.
-/
namespace Go.Eng
open Go
set_option linter.unusedVariables false
set_option linter.unusedSimpArgs false

def cmpS (x y : List UInt8) : Option Int := some (Lib.compareBytes x y)
theorem Less_eq (x y : List UInt8) : cmp_Less_string x y = some (decide (Lib.compareBytes x y < 0)) := by
  unfold cmp_Less_string cmp_Less_string_x1 cmp_isNaN_string
  simp only [Option.bind_some, decide_true, Bool.not_true, cond_false, cmpB_less]
theorem ins3_eq : slices_insertionSortOrdered_string_o0_x3 = gI3 cmpS := by
  funext qa l j
  unfold slices_insertionSortOrdered_string_o0_x3 gI3
  simp only [Less_eq, cmpS, Option.bind_some]
theorem ins2_eq : slices_insertionSortOrdered_string_o0_x2 = gI2 cmpS := by
  funext qa ⟨l, j⟩
  unfold slices_insertionSortOrdered_string_o0_x2 gI2
  rw [ins3_eq]
theorem ins1_eq : slices_insertionSortOrdered_string_o0_x1 = gI1 cmpS := by
  funext qa qb ⟨l, j⟩
  unfold slices_insertionSortOrdered_string_o0_x1 gI1
  rw [ins2_eq]
theorem ins_eq : slices_insertionSortOrdered_string_o0 = gI cmpS := by
  funext l qa qb
  unfold slices_insertionSortOrdered_string_o0 gI
  rw [ins1_eq]
theorem ps_pO : slices_order2Ordered_string = pO cmpS := by
  funext p0 p1 p2 p3
  unfold slices_order2Ordered_string pO
  simp only [Less_eq, cmpS, Option.bind_some] <;> (show _ = _; kernel_rfl)
theorem ps_pM : slices_medianOrdered_string = pM cmpS := by
  funext p0 p1 p2 p3 p4
  unfold slices_medianOrdered_string pM
  simp only [Less_eq, cmpS, Option.bind_some, ps_pO] <;> (show _ = _; kernel_rfl)
theorem ps_pMA : slices_medianAdjacentOrdered_string = pMA cmpS := by
  funext p0 p1 p2
  unfold slices_medianAdjacentOrdered_string pMA
  simp only [Less_eq, cmpS, Option.bind_some, ps_pO, ps_pM] <;> (show _ = _; kernel_rfl)
theorem ps_pCx2 : slices_choosePivotOrdered_string_x2 = pCx2 cmpS := by
  funext p0 p1 p2
  unfold slices_choosePivotOrdered_string_x2 pCx2
  simp only [Less_eq, cmpS, Option.bind_some, ps_pO, ps_pM, ps_pMA] <;> (show _ = _; kernel_rfl)
theorem ps_pCx1 : slices_choosePivotOrdered_string_x1 = pCx1 cmpS := by
  funext p0 p1 p2
  unfold slices_choosePivotOrdered_string_x1 pCx1
  simp only [Less_eq, cmpS, Option.bind_some, ps_pO, ps_pM, ps_pMA, ps_pCx2] <;> (show _ = _; kernel_rfl)
theorem ps_pC : slices_choosePivotOrdered_string = pC cmpS := by
  funext p0 p1 p2
  unfold slices_choosePivotOrdered_string pC
  simp only [Less_eq, cmpS, Option.bind_some, ps_pO, ps_pM, ps_pMA, ps_pCx2, ps_pCx1] <;> (show _ = _; kernel_rfl)
theorem ps_pRx1 : slices_reverseRangeOrdered_string_o0_x1 = pRx1 (α := List UInt8) := by kernel_rfl
theorem ps_pR : slices_reverseRangeOrdered_string_o0 = pR (α := List UInt8) := by kernel_rfl
theorem ps_pIx4 : slices_partialInsertionSortOrdered_string_o0_x4 = pIx4 cmpS := by
  funext p0 p1 p2
  unfold slices_partialInsertionSortOrdered_string_o0_x4 pIx4
  simp only [Less_eq, cmpS, Option.bind_some, ps_pO, ps_pM, ps_pMA, ps_pCx2, ps_pCx1, ps_pC, ps_pRx1, ps_pR] <;> (show _ = _; kernel_rfl)
theorem ps_pIx3 : slices_partialInsertionSortOrdered_string_o0_x3 = pIx3 cmpS := by
  funext p0 p1 p2
  unfold slices_partialInsertionSortOrdered_string_o0_x3 pIx3
  simp only [Less_eq, cmpS, Option.bind_some, ps_pO, ps_pM, ps_pMA, ps_pCx2, ps_pCx1, ps_pC, ps_pRx1, ps_pR, ps_pIx4] <;> (show _ = _; kernel_rfl)
theorem ps_pIx6 : slices_partialInsertionSortOrdered_string_o0_x6 = pIx6 cmpS := by
  funext ⟨t0, t1⟩
  unfold slices_partialInsertionSortOrdered_string_o0_x6 pIx6
  simp only [Less_eq, cmpS, Option.bind_some, ps_pO, ps_pM, ps_pMA, ps_pCx2, ps_pCx1, ps_pC, ps_pRx1, ps_pR, ps_pIx4, ps_pIx3] <;> (show _ = _; kernel_rfl)
theorem ps_pIx5 : slices_partialInsertionSortOrdered_string_o0_x5 = pIx5 cmpS := by
  funext p0 p1 p2 p3 p4
  unfold slices_partialInsertionSortOrdered_string_o0_x5 pIx5
  simp only [Less_eq, cmpS, Option.bind_some, ps_pO, ps_pM, ps_pMA, ps_pCx2, ps_pCx1, ps_pC, ps_pRx1, ps_pR, ps_pIx4, ps_pIx3, ps_pIx6] <;> (show _ = _; kernel_rfl)
theorem ps_pIx7 : slices_partialInsertionSortOrdered_string_o0_x7 = pIx7 cmpS := by
  funext p0 ⟨t0, t1⟩
  unfold slices_partialInsertionSortOrdered_string_o0_x7 pIx7
  simp only [Less_eq, cmpS, Option.bind_some, ps_pO, ps_pM, ps_pMA, ps_pCx2, ps_pCx1, ps_pC, ps_pRx1, ps_pR, ps_pIx4, ps_pIx3, ps_pIx6, ps_pIx5] <;> (show _ = _; kernel_rfl)
theorem ps_pIx2 : slices_partialInsertionSortOrdered_string_o0_x2 = pIx2 cmpS := by
  funext p0 p1 p2 p3
  unfold slices_partialInsertionSortOrdered_string_o0_x2 pIx2
  simp only [Less_eq, cmpS, Option.bind_some, ps_pO, ps_pM, ps_pMA, ps_pCx2, ps_pCx1, ps_pC, ps_pRx1, ps_pR, ps_pIx4, ps_pIx3, ps_pIx6, ps_pIx5, ps_pIx7] <;> (show _ = _; kernel_rfl)
theorem ps_pIx1 : slices_partialInsertionSortOrdered_string_o0_x1 = pIx1 cmpS := by
  funext p0 p1 ⟨t0, t1, t2⟩
  unfold slices_partialInsertionSortOrdered_string_o0_x1 pIx1
  simp only [Less_eq, cmpS, Option.bind_some, ps_pO, ps_pM, ps_pMA, ps_pCx2, ps_pCx1, ps_pC, ps_pRx1, ps_pR, ps_pIx4, ps_pIx3, ps_pIx6, ps_pIx5, ps_pIx7, ps_pIx2] <;> (show _ = _; kernel_rfl)
theorem ps_pI : slices_partialInsertionSortOrdered_string_o0 = pI cmpS := by
  funext p0 p1 p2
  unfold slices_partialInsertionSortOrdered_string_o0 pI
  simp only [Less_eq, cmpS, Option.bind_some, ps_pO, ps_pM, ps_pMA, ps_pCx2, ps_pCx1, ps_pC, ps_pRx1, ps_pR, ps_pIx4, ps_pIx3, ps_pIx6, ps_pIx5, ps_pIx7, ps_pIx2, ps_pIx1] <;> (show _ = _; kernel_rfl)
theorem ps_pEx3 : slices_partitionEqualOrdered_string_o0_x3 = pEx3 cmpS := by
  funext p0 p1 p2 p3
  unfold slices_partitionEqualOrdered_string_o0_x3 pEx3
  simp only [Less_eq, cmpS, Option.bind_some, ps_pO, ps_pM, ps_pMA, ps_pCx2, ps_pCx1, ps_pC, ps_pRx1, ps_pR, ps_pIx4, ps_pIx3, ps_pIx6, ps_pIx5, ps_pIx7, ps_pIx2, ps_pIx1, ps_pI] <;> (show _ = _; kernel_rfl)
theorem ps_pEx2 : slices_partitionEqualOrdered_string_o0_x2 = pEx2 cmpS := by
  funext p0 p1 p2 p3
  unfold slices_partitionEqualOrdered_string_o0_x2 pEx2
  simp only [Less_eq, cmpS, Option.bind_some, ps_pO, ps_pM, ps_pMA, ps_pCx2, ps_pCx1, ps_pC, ps_pRx1, ps_pR, ps_pIx4, ps_pIx3, ps_pIx6, ps_pIx5, ps_pIx7, ps_pIx2, ps_pIx1, ps_pI, ps_pEx3] <;> (show _ = _; kernel_rfl)
theorem ps_pEx5 : slices_partitionEqualOrdered_string_o0_x5 = pEx5 cmpS := by
  funext p0 p1 p2 p3
  unfold slices_partitionEqualOrdered_string_o0_x5 pEx5
  simp only [Less_eq, cmpS, Option.bind_some, ps_pO, ps_pM, ps_pMA, ps_pCx2, ps_pCx1, ps_pC, ps_pRx1, ps_pR, ps_pIx4, ps_pIx3, ps_pIx6, ps_pIx5, ps_pIx7, ps_pIx2, ps_pIx1, ps_pI, ps_pEx3, ps_pEx2] <;> (show _ = _; kernel_rfl)
theorem ps_pEx4 : slices_partitionEqualOrdered_string_o0_x4 = pEx4 cmpS := by
  funext p0 p1 p2 p3
  unfold slices_partitionEqualOrdered_string_o0_x4 pEx4
  simp only [Less_eq, cmpS, Option.bind_some, ps_pO, ps_pM, ps_pMA, ps_pCx2, ps_pCx1, ps_pC, ps_pRx1, ps_pR, ps_pIx4, ps_pIx3, ps_pIx6, ps_pIx5, ps_pIx7, ps_pIx2, ps_pIx1, ps_pI, ps_pEx3, ps_pEx2, ps_pEx5] <;> (show _ = _; kernel_rfl)
theorem ps_pEx1 : slices_partitionEqualOrdered_string_o0_x1 = pEx1 cmpS := by
  funext p0 ⟨t0, t1, t2⟩
  unfold slices_partitionEqualOrdered_string_o0_x1 pEx1
  simp only [Less_eq, cmpS, Option.bind_some, ps_pO, ps_pM, ps_pMA, ps_pCx2, ps_pCx1, ps_pC, ps_pRx1, ps_pR, ps_pIx4, ps_pIx3, ps_pIx6, ps_pIx5, ps_pIx7, ps_pIx2, ps_pIx1, ps_pI, ps_pEx3, ps_pEx2, ps_pEx5, ps_pEx4] <;> (show _ = _; kernel_rfl)
theorem ps_pE : slices_partitionEqualOrdered_string_o0 = pE cmpS := by
  funext p0 p1 p2 p3
  unfold slices_partitionEqualOrdered_string_o0 pE
  simp only [Less_eq, cmpS, Option.bind_some, ps_pO, ps_pM, ps_pMA, ps_pCx2, ps_pCx1, ps_pC, ps_pRx1, ps_pR, ps_pIx4, ps_pIx3, ps_pIx6, ps_pIx5, ps_pIx7, ps_pIx2, ps_pIx1, ps_pI, ps_pEx3, ps_pEx2, ps_pEx5, ps_pEx4, ps_pEx1] <;> (show _ = _; kernel_rfl)
theorem ps_pPx2 : slices_partitionOrdered_string_o0_x2 = pPx2 cmpS := by
  funext p0 p1 p2 p3 p4 p5 p6
  unfold slices_partitionOrdered_string_o0_x2 pPx2
  simp only [Less_eq, cmpS, Option.bind_some, ps_pO, ps_pM, ps_pMA, ps_pCx2, ps_pCx1, ps_pC, ps_pRx1, ps_pR, ps_pIx4, ps_pIx3, ps_pIx6, ps_pIx5, ps_pIx7, ps_pIx2, ps_pIx1, ps_pI, ps_pEx3, ps_pEx2, ps_pEx5, ps_pEx4, ps_pEx1, ps_pE] <;> (show _ = _; kernel_rfl)
theorem ps_pPx1 : slices_partitionOrdered_string_o0_x1 = pPx1 cmpS := by
  funext p0 p1 p2 p3 p4 p5 p6
  unfold slices_partitionOrdered_string_o0_x1 pPx1
  simp only [Less_eq, cmpS, Option.bind_some, ps_pO, ps_pM, ps_pMA, ps_pCx2, ps_pCx1, ps_pC, ps_pRx1, ps_pR, ps_pIx4, ps_pIx3, ps_pIx6, ps_pIx5, ps_pIx7, ps_pIx2, ps_pIx1, ps_pI, ps_pEx3, ps_pEx2, ps_pEx5, ps_pEx4, ps_pEx1, ps_pE, ps_pPx2] <;> (show _ = _; kernel_rfl)
theorem ps_pPx4 : slices_partitionOrdered_string_o0_x4 = pPx4 cmpS := by
  funext p0 p1 p2 p3 p4 p5 p6
  unfold slices_partitionOrdered_string_o0_x4 pPx4
  simp only [Less_eq, cmpS, Option.bind_some, ps_pO, ps_pM, ps_pMA, ps_pCx2, ps_pCx1, ps_pC, ps_pRx1, ps_pR, ps_pIx4, ps_pIx3, ps_pIx6, ps_pIx5, ps_pIx7, ps_pIx2, ps_pIx1, ps_pI, ps_pEx3, ps_pEx2, ps_pEx5, ps_pEx4, ps_pEx1, ps_pE, ps_pPx2, ps_pPx1] <;> (show _ = _; kernel_rfl)
theorem ps_pPx3 : slices_partitionOrdered_string_o0_x3 = pPx3 cmpS := by
  funext p0 p1 p2 p3 p4 p5 p6
  unfold slices_partitionOrdered_string_o0_x3 pPx3
  simp only [Less_eq, cmpS, Option.bind_some, ps_pO, ps_pM, ps_pMA, ps_pCx2, ps_pCx1, ps_pC, ps_pRx1, ps_pR, ps_pIx4, ps_pIx3, ps_pIx6, ps_pIx5, ps_pIx7, ps_pIx2, ps_pIx1, ps_pI, ps_pEx3, ps_pEx2, ps_pEx5, ps_pEx4, ps_pEx1, ps_pE, ps_pPx2, ps_pPx1, ps_pPx4] <;> (show _ = _; kernel_rfl)
theorem ps_pPx7 : slices_partitionOrdered_string_o0_x7 = pPx7 cmpS := by
  funext p0 p1 p2 p3
  unfold slices_partitionOrdered_string_o0_x7 pPx7
  simp only [Less_eq, cmpS, Option.bind_some, ps_pO, ps_pM, ps_pMA, ps_pCx2, ps_pCx1, ps_pC, ps_pRx1, ps_pR, ps_pIx4, ps_pIx3, ps_pIx6, ps_pIx5, ps_pIx7, ps_pIx2, ps_pIx1, ps_pI, ps_pEx3, ps_pEx2, ps_pEx5, ps_pEx4, ps_pEx1, ps_pE, ps_pPx2, ps_pPx1, ps_pPx4, ps_pPx3] <;> (show _ = _; kernel_rfl)
theorem ps_pPx6 : slices_partitionOrdered_string_o0_x6 = pPx6 cmpS := by
  funext p0 p1 p2 p3
  unfold slices_partitionOrdered_string_o0_x6 pPx6
  simp only [Less_eq, cmpS, Option.bind_some, ps_pO, ps_pM, ps_pMA, ps_pCx2, ps_pCx1, ps_pC, ps_pRx1, ps_pR, ps_pIx4, ps_pIx3, ps_pIx6, ps_pIx5, ps_pIx7, ps_pIx2, ps_pIx1, ps_pI, ps_pEx3, ps_pEx2, ps_pEx5, ps_pEx4, ps_pEx1, ps_pE, ps_pPx2, ps_pPx1, ps_pPx4, ps_pPx3, ps_pPx7] <;> (show _ = _; kernel_rfl)
theorem ps_pPx9 : slices_partitionOrdered_string_o0_x9 = pPx9 cmpS := by
  funext p0 p1 p2 p3
  unfold slices_partitionOrdered_string_o0_x9 pPx9
  simp only [Less_eq, cmpS, Option.bind_some, ps_pO, ps_pM, ps_pMA, ps_pCx2, ps_pCx1, ps_pC, ps_pRx1, ps_pR, ps_pIx4, ps_pIx3, ps_pIx6, ps_pIx5, ps_pIx7, ps_pIx2, ps_pIx1, ps_pI, ps_pEx3, ps_pEx2, ps_pEx5, ps_pEx4, ps_pEx1, ps_pE, ps_pPx2, ps_pPx1, ps_pPx4, ps_pPx3, ps_pPx7, ps_pPx6] <;> (show _ = _; kernel_rfl)
theorem ps_pPx8 : slices_partitionOrdered_string_o0_x8 = pPx8 cmpS := by
  funext p0 p1 p2 p3
  unfold slices_partitionOrdered_string_o0_x8 pPx8
  simp only [Less_eq, cmpS, Option.bind_some, ps_pO, ps_pM, ps_pMA, ps_pCx2, ps_pCx1, ps_pC, ps_pRx1, ps_pR, ps_pIx4, ps_pIx3, ps_pIx6, ps_pIx5, ps_pIx7, ps_pIx2, ps_pIx1, ps_pI, ps_pEx3, ps_pEx2, ps_pEx5, ps_pEx4, ps_pEx1, ps_pE, ps_pPx2, ps_pPx1, ps_pPx4, ps_pPx3, ps_pPx7, ps_pPx6, ps_pPx9] <;> (show _ = _; kernel_rfl)
theorem ps_pPx5 : slices_partitionOrdered_string_o0_x5 = pPx5 cmpS := by
  funext p0 ⟨t0, t1, t2⟩
  unfold slices_partitionOrdered_string_o0_x5 pPx5
  simp only [Less_eq, cmpS, Option.bind_some, ps_pO, ps_pM, ps_pMA, ps_pCx2, ps_pCx1, ps_pC, ps_pRx1, ps_pR, ps_pIx4, ps_pIx3, ps_pIx6, ps_pIx5, ps_pIx7, ps_pIx2, ps_pIx1, ps_pI, ps_pEx3, ps_pEx2, ps_pEx5, ps_pEx4, ps_pEx1, ps_pE, ps_pPx2, ps_pPx1, ps_pPx4, ps_pPx3, ps_pPx7, ps_pPx6, ps_pPx9, ps_pPx8] <;> (show _ = _; kernel_rfl)
theorem ps_pP : slices_partitionOrdered_string_o0 = pP cmpS := by
  funext p0 p1 p2 p3
  unfold slices_partitionOrdered_string_o0 pP
  simp only [Less_eq, cmpS, Option.bind_some, ps_pO, ps_pM, ps_pMA, ps_pCx2, ps_pCx1, ps_pC, ps_pRx1, ps_pR, ps_pIx4, ps_pIx3, ps_pIx6, ps_pIx5, ps_pIx7, ps_pIx2, ps_pIx1, ps_pI, ps_pEx3, ps_pEx2, ps_pEx5, ps_pEx4, ps_pEx1, ps_pE, ps_pPx2, ps_pPx1, ps_pPx4, ps_pPx3, ps_pPx7, ps_pPx6, ps_pPx9, ps_pPx8, ps_pPx5] <;> (show _ = _; kernel_rfl)
theorem ps_pBx2 : slices_breakPatternsOrdered_string_o0_x2 = pBx2 := by kernel_rfl
theorem ps_pBx1 : slices_breakPatternsOrdered_string_o0_x1 = pBx1 (α := List UInt8) := by kernel_rfl
theorem ps_pB : slices_breakPatternsOrdered_string_o0 = pB (α := List UInt8) := by kernel_rfl
theorem ps_pQx2 : slices_pdqsortOrdered_string_o0_x2 = pQx2 (α := List UInt8) := by kernel_rfl
theorem ps_pQx3 : slices_pdqsortOrdered_string_o0_x3 = pQx3 (α := List UInt8) := by kernel_rfl
theorem ps_pQx5 : slices_pdqsortOrdered_string_o0_x5 = pQx5 (α := List UInt8) := by kernel_rfl
theorem ps_pQx4 : slices_pdqsortOrdered_string_o0_x4 = pQx4 cmpS := by
  funext p0 p1 p2 p3 p4 p5 p6
  unfold slices_pdqsortOrdered_string_o0_x4 pQx4
  simp only [Less_eq, cmpS, Option.bind_some, ps_pO, ps_pM, ps_pMA, ps_pCx2, ps_pCx1, ps_pC, ps_pRx1, ps_pR, ps_pIx4, ps_pIx3, ps_pIx6, ps_pIx5, ps_pIx7, ps_pIx2, ps_pIx1, ps_pI, ps_pEx3, ps_pEx2, ps_pEx5, ps_pEx4, ps_pEx1, ps_pE, ps_pPx2, ps_pPx1, ps_pPx4, ps_pPx3, ps_pPx7, ps_pPx6, ps_pPx9, ps_pPx8, ps_pPx5, ps_pP, ps_pBx2, ps_pBx1, ps_pB, ps_pQx2, ps_pQx3, ps_pQx5, ins_eq] <;> (show _ = _; kernel_rfl)
theorem ps_pQx6 : slices_pdqsortOrdered_string_o0_x6 = pQx6 cmpS := by
  funext p0 p1 p2 p3
  unfold slices_pdqsortOrdered_string_o0_x6 pQx6
  simp only [Less_eq, cmpS, Option.bind_some, ps_pO, ps_pM, ps_pMA, ps_pCx2, ps_pCx1, ps_pC, ps_pRx1, ps_pR, ps_pIx4, ps_pIx3, ps_pIx6, ps_pIx5, ps_pIx7, ps_pIx2, ps_pIx1, ps_pI, ps_pEx3, ps_pEx2, ps_pEx5, ps_pEx4, ps_pEx1, ps_pE, ps_pPx2, ps_pPx1, ps_pPx4, ps_pPx3, ps_pPx7, ps_pPx6, ps_pPx9, ps_pPx8, ps_pPx5, ps_pP, ps_pBx2, ps_pBx1, ps_pB, ps_pQx2, ps_pQx3, ps_pQx5, ps_pQx4, ins_eq] <;> (show _ = _; kernel_rfl)
theorem ps_pQx1 : slices_pdqsortOrdered_string_o0_x1 = pQx1 cmpS := by
  funext p0 ⟨t0, t1, t2, t3, t4, t5⟩
  unfold slices_pdqsortOrdered_string_o0_x1 pQx1
  simp only [Less_eq, cmpS, Option.bind_some, ps_pO, ps_pM, ps_pMA, ps_pCx2, ps_pCx1, ps_pC, ps_pRx1, ps_pR, ps_pIx4, ps_pIx3, ps_pIx6, ps_pIx5, ps_pIx7, ps_pIx2, ps_pIx1, ps_pI, ps_pEx3, ps_pEx2, ps_pEx5, ps_pEx4, ps_pEx1, ps_pE, ps_pPx2, ps_pPx1, ps_pPx4, ps_pPx3, ps_pPx7, ps_pPx6, ps_pPx9, ps_pPx8, ps_pPx5, ps_pP, ps_pBx2, ps_pBx1, ps_pB, ps_pQx2, ps_pQx3, ps_pQx5, ps_pQx4, ps_pQx6, ins_eq] <;> (show _ = _; kernel_rfl)
theorem ps_pQn : slices_pdqsortOrdered_string_o0_n = pQn cmpS := by
  funext n
  induction n with
  | zero => rfl
  | succ n ih =>
    funext l a b m
    simp only [slices_pdqsortOrdered_string_o0_n, pQn, ih, ps_pQx2, ps_pQx3, ps_pQx5, ps_pQx4, ps_pQx6, ps_pQx1] <;> (show _ = _; kernel_rfl)
theorem ps_pQ : slices_pdqsortOrdered_string_o0 = pQ cmpS := by
  funext p0 p1 p2 p3
  unfold slices_pdqsortOrdered_string_o0 pQ
  simp only [Less_eq, cmpS, Option.bind_some, ps_pO, ps_pM, ps_pMA, ps_pCx2, ps_pCx1, ps_pC, ps_pRx1, ps_pR, ps_pIx4, ps_pIx3, ps_pIx6, ps_pIx5, ps_pIx7, ps_pIx2, ps_pIx1, ps_pI, ps_pEx3, ps_pEx2, ps_pEx5, ps_pEx4, ps_pEx1, ps_pE, ps_pPx2, ps_pPx1, ps_pPx4, ps_pPx3, ps_pPx7, ps_pPx6, ps_pPx9, ps_pPx8, ps_pPx5, ps_pP, ps_pBx2, ps_pBx1, ps_pB, ps_pQx2, ps_pQx3, ps_pQx5, ps_pQx4, ps_pQx6, ps_pQx1, ps_pQn, ins_eq] <;> (show _ = _; kernel_rfl)
theorem sortS_gSQ : slices_Sort_string_string_o0 = gSQ cmpS := by
  funext l
  unfold slices_Sort_string_string_o0 gSQ
  rw [ps_pQ]
theorem sortS_ok {P : List UInt8 → Prop} {l : List (List UInt8)} (hl : l.length ≤ 15) (hP : All P l) : Ok (slices_Sort_string_string_o0 l) (fun r => (r.length = l.length ∧ All P r ∧ Ord (fun x y => Lib.compareBytes x y) r l.length) ∧ ∀ x ∈ l, x ∈ r) := by
  obtain ⟨r, r1, r2, r3⟩ := gSQ_ok (f := fun x y => Lib.compareBytes x y) (c := cmpS) (fun _ _ => rfl) (fun x y => cmpB_anti _ _) (fun x y z => cmpB_tr) hl
  rw [sortS_gSQ]
  refine ⟨r, r1, ⟨r2.length_eq, fun x hx => hP x (r2.mem_iff.1 hx), fun p q hpq hq hql => ?_⟩, fun x hx => r2.mem_iff.2 hx⟩
  exact (List.pairwise_iff_getElem.1 r3) p q (by omega) (by omega) hpq
end Go.Eng

/-
What is left of a sorted row, each key once, with what is found again.
-/
namespace Go.Eng
open Go
set_option linter.unusedVariables false
set_option linter.unusedSimpArgs false
section
variable {α : Type}
theorem gCom_key2 {P : α → Prop} {t : α → α → Option Bool} {kf : α → Int} (ht : ∀ x y, P x → P y → ∃ b, t x y = some b ∧ (b = true ↔ kf x = kf y)) {z : α} {l : List α} (hl : l.length ≤ 100000) (hp : All P l)
    (hs : ∀ p q (hpq : p < q) (hq : q < l.length), kf (l[p]'(by omega)) ≤ kf l[q]) : Ok (gCom t z l) (fun r => (r.length ≤ l.length ∧ All P r ∧ r.Pairwise (fun x y => kf x < kf y)) ∧ ∀ x ∈ l, ∃ y ∈ r, kf y = kf x) := by
  unfold gCom
  have small : ∀ k, (k ≤ l.length) → (∀ q (hq : q + 1 < k) (hk : k ≤ l.length), kf (l[q + 1]'(by omega)) ≠ kf (l[q]'(by omega))) → (l.take k).Pairwise (fun x y => kf x < kf y) := by
    intro k hkl hne
    rw [List.pairwise_iff_getElem]
    intro i j hi hj hij
    simp only [List.getElem_take]
    have hjl : j < l.length := by simp at hj; omega
    have hjk : j < k := by simp at hj; omega
    have h1 : kf (l[i]'(by omega)) ≤ kf (l[j - 1]'(by omega)) := by
      by_cases e : i = j - 1
      · subst e; exact Int.le_refl _
      · exact hs i (j - 1) (by omega) (by omega)
    have h2 := hs (j - 1) j (by omega) hjl
    have h3 : kf (l[j - 1]'(by omega)) ≠ kf l[j] := by
      intro e
      have := hne (j - 1) (by omega) hkl
      apply this
      have e3 : j - 1 + 1 = j := by omega
      simp only [e3]
      exact e.symm
    omega
  refine .cond (fun hc => .some ⟨⟨Nat.le_refl _, hp, ?_⟩, fun x hx => ⟨x, hx, rfl⟩⟩) (fun hc => ?_)
  · have hc := of_decide_eq_true hc
    match l, hc with
    | [], _ => simp
    | [x], _ => simp
    | x :: y :: m, hc => simp at hc; omega
  have hl2 : (2 : Int) ≤ l.length := by simpa using hc
  refine Ok.bind (P := fun x => match x with | .inl _ => l.Pairwise (fun x y => kf x < kf y) | .inr r => (r.length ≤ l.length ∧ All P r ∧ r.Pairwise (fun x y => kf x < kf y)) ∧ ∀ x ∈ l, ∃ y ∈ r, kf y = kf x) ?_ (fun x hx => ?_)
  · refine loop_ok (fun k : Int => ∃ n : Nat, k = (n : Int) ∧ 1 ≤ n ∧ n ≤ l.length ∧ ∀ q (hq : q + 1 < n) (hk : n ≤ l.length), kf (l[q + 1]'(by omega)) ≠ kf (l[q]'(by omega))) (fun k => ((l.length : Int) - k).toNat) ?_ ⟨1, rfl, by omega, by omega, fun q hq => by omega⟩
    rintro k ⟨n, rfl, n1, n2, n3⟩
    unfold gC1
    by_cases hk' : n < l.length
    · have hki : (n : Int) < l.length := by omega
      have w1 : IntKind.wrap .i64 ((n : Int) - 1) = ((n - 1 : Nat) : Int) := by rw [wrap64 (by omega) (by omega)]; omega
      have w2 : IntKind.wrap .i64 ((n : Int) + 1) = ((n + 1 : Nat) : Int) := by rw [wrap64 (by omega) (by omega)]; omega
      obtain ⟨b, hb, hbe⟩ := ht l[n] (l[n - 1]'(by omega)) (hp _ (List.getElem_mem hk')) (hp _ (List.getElem_mem (show n - 1 < l.length by omega)))
      simp only [hki, decide_true, cond_true, w1, at_nat hk', at_nat (show n - 1 < l.length by omega), hb, Option.bind_some]
      cases b with
      | false =>
        simp only [cond_false, w2]
        refine .some ⟨⟨n + 1, rfl, by omega, by omega, fun q hq hk => ?_⟩, by omega⟩
        by_cases e : q + 1 = n
        · subst e
          intro he
          have : (false : Bool) = true := hbe.2 he
          cases this
        · exact n3 q (by omega) n2
      | true =>
        have heq : kf l[n] = kf (l[n - 1]'(by omega)) := hbe.1 rfl
        simp only [cond_true]
        refine .gd (by simp; omega) ?_
        have hkn : (((l.length : Int).toNat - (n : Int).toNat : Nat) : Int) = l.length - n := by omega
        refine Ok.bind (P := fun q : List α × Int => q.1.length = l.length ∧ ∃ i : Nat, q.2 = (i : Int) ∧ i ≤ l.length ∧ All P q.1 ∧ (q.1.take i).Pairwise (fun x y => kf x < kf y) ∧ ∀ x ∈ l, ∃ y ∈ q.1.take i, kf y = kf x) ?_ (fun ⟨l7, k9⟩ ⟨q1, i, q2, q3, q4, q5, q6⟩ => ?_)
        · refine loop_ok (fun q : List α × Int × Int => q.1.length = l.length ∧ All P q.1 ∧ ∃ i j : Nat, q.2.1 = (i : Int) ∧ q.2.2 = (j : Int) ∧ 1 ≤ j ∧ n + j ≤ l.length ∧ 1 ≤ i ∧ i ≤ n + j - 1 ∧ q.1.drop (n + j - 1) = l.drop (n + j - 1) ∧
            (q.1.take i).Pairwise (fun x y => kf x < kf y) ∧ (∀ (h1 : i - 1 < q.1.length) (h2 : n + j - 1 < l.length), kf q.1[i - 1] = kf l[n + j - 1]) ∧ ∀ x ∈ l.take (n + j), ∃ y ∈ q.1.take i, kf y = kf x) (fun q => ((l.length : Int) - q.2.2).toNat) ?_
            ⟨rfl, hp, n, 1, rfl, rfl, by omega, by omega, by omega, by omega, rfl, small n n2 n3, fun h1 h2 => by simp only [Nat.add_sub_cancel]; exact heq.symm, fun x hx => by
              rw [List.take_succ_eq_append_getElem hk'] at hx
              rcases List.mem_append.1 hx with hx | hx
              · exact ⟨x, hx, rfl⟩
              · rw [List.mem_singleton] at hx
                subst hx
                exact ⟨l[n - 1]'(by omega), List.mem_iff_getElem.2 ⟨n - 1, by simp; omega, by simp⟩, heq.symm⟩⟩
          rintro ⟨m, i', j'⟩ ⟨m1, m2, i, j, rfl, rfl, j1, j2, i1, i2, d1, d2, d3, d4⟩
          simp only at m1 m2 d1 d2 d3 d4
          unfold gC2
          rw [hkn]
          refine .cond (fun hj => ?_) (fun hj => .some ⟨m1, i, rfl, by omega, m2, d2, by
            have hj : ¬ (j : Int) < l.length - n := by simpa using hj
            rw [List.take_of_length_le (show l.length ≤ n + j by omega)] at d4
            exact d4⟩)
          have hj : (j : Int) < l.length - n := by simpa using hj
          have w3 : IntKind.wrap .i64 ((j : Int) - 1) = ((j - 1 : Nat) : Int) := by rw [wrap64 (by omega) (by omega)]; omega
          have w4 : IntKind.wrap .i64 ((i : Int) + 1) = ((i + 1 : Nat) : Int) := by rw [wrap64 (by omega) (by omega)]; omega
          have w5 : IntKind.wrap .i64 ((j : Int) + 1) = ((j + 1 : Nat) : Int) := by rw [wrap64 (by omega) (by omega)]; omega
          have a1 : m[n + j]'(by omega) = l[n + j]'(by omega) := by
            have h := congrArg (fun x => x[1]?) d1
            simp only [List.getElem?_drop] at h
            rw [show n + j - 1 + 1 = n + j by omega, List.getElem?_eq_getElem (by omega), List.getElem?_eq_getElem (by omega)] at h
            exact Option.some.inj h
          have a2 : m[n + j - 1]'(by omega) = l[n + j - 1]'(by omega) := by
            have h := congrArg (fun x => x[0]?) d1
            simp only [List.getElem?_drop] at h
            rw [show n + j - 1 + 0 = n + j - 1 by omega, List.getElem?_eq_getElem (by omega), List.getElem?_eq_getElem (by omega)] at h
            exact Option.some.inj h
          have hx := hp _ (List.getElem_mem (show n + j < l.length by omega))
          have hy := hp _ (List.getElem_mem (show n + j - 1 < l.length by omega))
          obtain ⟨b, hb, hbe⟩ := ht (l[n + j]'(by omega)) (l[n + j - 1]'(by omega)) hx hy
          refine Ok.bind (P := fun q : List α × Int => q.1.length = l.length ∧ All P q.1 ∧ ∃ i : Nat, q.2 = (i : Int) ∧ 1 ≤ i ∧ i ≤ n + j ∧ q.1.drop (n + j) = l.drop (n + j) ∧ (q.1.take i).Pairwise (fun x y => kf x < kf y) ∧ (∀ (h1 : i - 1 < q.1.length) (h2 : n + j < l.length), kf q.1[i - 1] = kf l[n + j]) ∧ ∀ x ∈ l.take (n + j + 1), ∃ y ∈ q.1.take i, kf y = kf x) ?_ (fun ⟨m', i''⟩ ⟨g1, g2, i3, g3, g4, g5, g6, g7, g8, g9⟩ => ?_)
          · unfold gC3
            rw [w3]
            refine .gd (by simp; omega) ?_
            have e1 : (n : Int) + (j : Int) = ((n + j : Nat) : Int) := by omega
            have e2 : (n : Int) + ((j - 1 : Nat) : Int) = ((n + j - 1 : Nat) : Int) := by omega
            rw [e1, at_nat (show n + j < m.length by omega)]
            simp only [Option.bind_some]
            refine .gd (by simp; omega) ?_
            rw [e2, at_nat (show n + j - 1 < m.length by omega), at_nat (show i < m.length by omega)]
            simp only [Option.bind_some, a1, a2, hb, w4, Int.toNat_natCast]
            have hdrop : m.drop (n + j) = l.drop (n + j) := by
              have h := congrArg (List.drop 1) d1
              rw [List.drop_drop, List.drop_drop, show n + j - 1 + 1 = n + j by omega] at h
              exact h
            cases b with
            | true =>
              have he : kf (l[n + j]'(by omega)) = kf (l[n + j - 1]'(by omega)) := hbe.1 rfl
              refine .some ⟨m1, m2, i, rfl, i1, by omega, hdrop, d2, fun h1 h2 => ?_, fun x hx => ?_⟩
              · rw [d3 h1 (by omega)]; exact he.symm
              · rw [List.take_succ_eq_append_getElem (show n + j < l.length by omega)] at hx
                rcases List.mem_append.1 hx with hx | hx
                · exact d4 x hx
                · rw [List.mem_singleton] at hx
                  subst hx
                  obtain ⟨y, y1, y2⟩ := d4 (l[n + j - 1]'(by omega)) (List.mem_iff_getElem.2 ⟨n + j - 1, by simp; omega, by simp⟩)
                  exact ⟨y, y1, y2.trans he.symm⟩
            | false =>
              have hne : kf (l[n + j]'(by omega)) ≠ kf (l[n + j - 1]'(by omega)) := fun e => by have := hbe.2 e; cases this
              refine .some ⟨by simp [m1], m2.set hx, i + 1, rfl, by omega, by omega, ?_, ?_, fun h1 h2 => ?_, fun x hx' => ?_⟩
              · simp only
                rw [List.drop_set_of_lt (by omega)]; exact hdrop
              · simp only
                rw [List.take_succ_eq_append_getElem (by simp; omega), List.take_set_of_le (by omega)]
                simp only [List.getElem_set_self]
                rw [List.pairwise_append]
                refine ⟨d2, by simp, fun x hx' y hy' => ?_⟩
                rw [List.mem_singleton] at hy'
                subst hy'
                have hlast := d3 (by omega) (by omega)
                have hle : kf x ≤ kf (l[n + j - 1]'(by omega)) := by
                  obtain ⟨p, hp', rfl⟩ := List.mem_iff_getElem.1 hx'
                  simp only [List.getElem_take]
                  rw [← hlast]
                  have hpi : p < i := by simp at hp'; omega
                  by_cases e : p = i - 1
                  · subst e; exact Int.le_refl _
                  · have := (List.pairwise_iff_getElem.1 d2) p (i - 1) hp' (by simp; omega) (by omega)
                    simp only [List.getElem_take] at this
                    omega
                have hlt : kf (l[n + j - 1]'(by omega)) < kf (l[n + j]'(by omega)) := by
                  have h1 := hs (n + j - 1) (n + j) (by omega) (by omega)
                  by_cases e : kf (l[n + j - 1]'(by omega)) = kf (l[n + j]'(by omega))
                  · exact absurd e.symm hne
                  · omega
                omega
              · simp
              · simp only
                rw [List.take_succ_eq_append_getElem (show i < (m.set i (l[n + j]'(by omega))).length by simp; omega), List.take_set_of_le (by omega)]
                simp only [List.getElem_set_self]
                rw [List.take_succ_eq_append_getElem (show n + j < l.length by omega)] at hx'
                rcases List.mem_append.1 hx' with hx' | hx'
                · obtain ⟨y, y1, y2⟩ := d4 x hx'
                  exact ⟨y, List.mem_append_left _ y1, y2⟩
                · rw [List.mem_singleton] at hx'
                  subst hx'
                  exact ⟨_, List.mem_append_right _ (List.mem_singleton.2 rfl), rfl⟩
          · simp only at g1 g2 g3 g6 g7 g8 g9
            subst g3
            rw [w5]
            refine .some ⟨⟨g1, g2, i3, j + 1, rfl, rfl, by omega, by omega, g4, by omega, ?_, g7, fun h1 h2 => ?_, g9⟩, by simp only; omega⟩
            · simp only
              rw [show n + (j + 1) - 1 = n + j by omega]; exact g6
            · simp only
              have := g8 h1 (by omega)
              rw [this]
              congr 1
        · simp only at q1 q2 q4 q5
          subst q2
          refine .gd (by simp; omega) (.gd ?_ ?_)
          · simp only [Bool.and_eq_true, decide_eq_true_eq]
            refine ⟨by omega, ?_⟩
            simp only [List.length_append, List.length_take, List.length_replicate, List.length_drop, Int.toNat_natCast]
            omega
          · rw [take_part (by simp; omega)]
            refine .some ⟨⟨?_, fun x hx => q4 x (List.mem_of_mem_take hx), by simpa using q5⟩, by simpa using q6⟩
            simp only [List.length_take]; omega
    · have hki : ¬ (n : Int) < l.length := by omega
      simp only [hki, decide_false, cond_false]
      refine .some ?_
      have := small l.length (Nat.le_refl _) (fun q hq hk => n3 q (by omega) n2)
      rwa [List.take_length] at this
  · cases x with
    | inl _ => exact .some ⟨⟨Nat.le_refl _, hp, hx⟩, fun x hx => ⟨x, hx, rfl⟩⟩
    | inr r => exact .some hx
end
end Go.Eng

/-
Twins: names of properties, sorted, each once.
-/
namespace Go.Eng
open Go
set_option linter.unusedVariables false
set_option linter.unusedSimpArgs false

section
variable {α : Type}
theorem Ok.and {f : Option α} {P Q : α → Prop} (h1 : Ok f P) (h2 : Ok f Q) : Ok f (fun r => P r ∧ Q r) := by
  obtain ⟨r, e1, p1⟩ := h1
  obtain ⟨s, e2, p2⟩ := h2
  rw [e1] at e2
  obtain rfl := Option.some.inj e2
  exact ⟨r, e1, p1, p2⟩
end

/-! ### Sorting of strings -/
theorem bitLen12 (n : Nat) (h : n ≤ 12) : Ok (bits_Len (IntKind.wrap .u64 (n : Int))) (fun _ => True) := by
  match n, h with
  | 0, _ => exact ⟨0, by kernel_rfl, trivial⟩
  | 1, _ => exact ⟨1, by kernel_rfl, trivial⟩
  | 2, _ => exact ⟨2, by kernel_rfl, trivial⟩
  | 3, _ => exact ⟨2, by kernel_rfl, trivial⟩
  | 4, _ => exact ⟨3, by kernel_rfl, trivial⟩
  | 5, _ => exact ⟨3, by kernel_rfl, trivial⟩
  | 6, _ => exact ⟨3, by kernel_rfl, trivial⟩
  | 7, _ => exact ⟨3, by kernel_rfl, trivial⟩
  | 8, _ => exact ⟨4, by kernel_rfl, trivial⟩
  | 9, _ => exact ⟨4, by kernel_rfl, trivial⟩
  | 10, _ => exact ⟨4, by kernel_rfl, trivial⟩
  | 11, _ => exact ⟨4, by kernel_rfl, trivial⟩
  | 12, _ => exact ⟨4, by kernel_rfl, trivial⟩
theorem comS_eq : slices_Compact_string_string_o0 = gCom (fun a b => some (decide (a = b))) [] := by kernel_rfl

/-! ### Names -/
theorem foldl_app {α β : Type} (f : α → β) : ∀ (l : List α) (s : List β), l.foldl (fun s c => s ++ [f c]) s = s ++ l.map f
  | [], s => by simp
  | x :: l, s => by rw [List.foldl_cons, foldl_app f l]; simp
theorem names2_eq {a : List api_Prop} {s : List (List UInt8)} (h : a.length + s.length ≤ 10000) : loopO (twin_names_o0_x2 a) (s, 0) = some (s ++ a.map api_Prop.Name) := by
  have := fold_loop0 (l := a) (f := twin_names_o0_x2 a) (fun (s : List (List UInt8)) i => (s, i)) (fun s c => s ++ [c.Name]) id (fun i m => m.length ≤ s.length + i) (s0 := s) (by omega)
    (fun i hi m hm => by
      have hc : (i : Int) < a.length := by omega
      refine ⟨?_, by simp; omega⟩
      unfold twin_names_o0_x2
      simp only [hc, decide_true, cond_true, at_nat hi, Option.bind_some, gd]
      rw [lim_ok (by simp; omega)]
      rfl)
    (fun s _ => by unfold twin_names_o0_x2; simp) (by simp)
  rw [this.1, foldl_app]
  rfl
end Go.Eng

/-
Twins: what is owed.
-/
namespace Go.Eng
open Go
set_option linter.unusedVariables false
set_option linter.unusedSimpArgs false

/-! ### Values of names -/
def zV : api_Value := api_Value.mk 0 false 0 []
def vo (l : List api_Prop) (n : List UInt8) : api_Value := match l.find? fun p => decide (p.Name = n) with | some p => p.Value | none => zV
theorem vo_mem {l : List api_Prop} (hs : PSrt l) {p : api_Prop} (hp : p ∈ l) : vo l p.Name = p.Value := by
  unfold vo
  cases h : l.find? fun q => decide (q.Name = p.Name) with
  | none =>
    have := List.find?_eq_none.1 h p hp
    simp at this
  | some q =>
    have h1 : q.Name = p.Name := by simpa using List.find?_some h
    have h2 := List.mem_of_find?_eq_some h
    simp only
    obtain ⟨i, hi, rfl⟩ := List.mem_iff_getElem.1 hp
    obtain ⟨j, hj, rfl⟩ := List.mem_iff_getElem.1 h2
    rcases Nat.lt_trichotomy i j with h3 | h3 | h3
    · have := (List.pairwise_iff_getElem.1 hs) i j hi hj h3
      rw [h1] at this
      exact absurd this (nlt_irrefl _)
    · subst h3; rfl
    · have := (List.pairwise_iff_getElem.1 hs) j i hj hi h3
      rw [h1] at this
      exact absurd this (nlt_irrefl _)
theorem vo_none {l : List api_Prop} {n : List UInt8} (h : ∀ p ∈ l, p.Name ≠ n) : vo l n = zV := by
  unfold vo
  have : (l.find? fun p => decide (p.Name = n)) = none := List.find?_eq_none.2 fun p hp => by simpa using h p hp
  rw [this]
theorem valueOf_eq {l : List api_Prop} (hs : PSrt l) (hl : l.length ≤ 10000) (n : List UInt8) : twin_valueOf l n = some (vo l n) := by
  unfold twin_valueOf
  rcases find_eq hs hl n with ⟨h1, h2⟩ | ⟨i, hi, h1, h2⟩
  · rw [h1, vo_none h2]; rfl
  · have h0 : (0 : Int) ≤ (i : Int) := by omega
    rw [h1]
    simp only [Option.bind_some, h0, decide_true, cond_true, at_nat hi]
    have := vo_mem hs (List.getElem_mem hi)
    rw [h2] at this
    rw [this]

/-! ### What is visible -/
theorem up_len {α : Type} (f : α → Int) : ∀ {l : List α} {lo hi : Int}, l.Pairwise (fun x y => f x < f y) → (∀ x ∈ l, lo ≤ f x ∧ f x ≤ hi) → lo ≤ hi + 1 → (l.length : Int) ≤ hi - lo + 1
  | [], lo, hi, _, _, h => by simp; omega
  | x :: l, lo, hi, hp, hb, h => by
    obtain ⟨h1, h2⟩ := List.pairwise_cons.1 hp
    have h3 := hb x (List.mem_cons_self ..)
    have := up_len f (l := l) (lo := f x + 1) (hi := hi) h2 (fun y hy => ⟨by have := h1 y hy; omega, (hb y (List.mem_cons_of_mem _ hy)).2⟩) (by omega)
    simp only [List.length_cons]
    omega
/-! ### What is gone -/
def eqV (a b : api_Value) : Bool := (decide (a.Kind = b.Kind) && ((a.Flag == b.Flag) && (decide (a.Number = b.Number) && (decide (a.Words = b.Words) && true))))
theorem eqV_iff {a b : api_Value} : eqV a b = true ↔ a = b := veq_iff
end Go.Eng

/-
Lists of properties that streams make: they are right.
-/
namespace Go.Eng
open Go
set_option linter.unusedVariables false
set_option linter.unusedSimpArgs false

/-! ### Sorting keeps what there is -/
section
variable {α : Type}
theorem swap_pm {l : List α} {j : Nat} (h : 0 < j) (hj : j < l.length) : ((l.set j (l[j - 1]'(by omega))).set (j - 1) l[j]).Perm l := by
  have h1 := Array.swap_perm (xs := l.toArray) (i := j) (j := j - 1) (by simpa using hj) (by simp; omega)
  have h2 := Array.perm_iff_toList_perm.1 h1
  simpa [Array.swap] using h2
theorem gI2_pm {P : α → Prop} {f : α → α → Int} {c : α → α → Option Int} (hc : ∀ x y, P x → P y → c x y = some (f x y)) {n : Nat} (hn : n ≤ 100000) {l0 l : List α} (hl : l.length = n) (hP : All P l) (h0 : l.Perm l0) {i : Nat} (hi : i < n) :
    Ok (loopO (gI2 c 0) (l, (i : Int))) (fun r => r.length = n ∧ All P r ∧ r.Perm l0) := by
  refine loop_ok (fun s : List α × Int => s.1.length = n ∧ All P s.1 ∧ s.1.Perm l0 ∧ ∃ j : Nat, s.2 = (j : Int) ∧ j ≤ i) (fun s => s.2.toNat) ?_ ⟨hl, hP, h0, i, rfl, Nat.le_refl _⟩
  rintro ⟨m, q⟩ ⟨m1, m2, m3, j, rfl, j1⟩
  simp only at m1 m2 m3
  unfold gI2 gI3
  by_cases hj : (0 : Int) < j
  · have w1 : IntKind.wrap .i64 ((j : Int) - 1) = ((j - 1 : Nat) : Int) := by rw [wrap64 (by omega) (by omega)]; omega
    have hjm : j < m.length := by omega
    have hjm1 : j - 1 < m.length := by omega
    have hy := m2 _ (List.getElem_mem hjm)
    have hx := m2 _ (List.getElem_mem hjm1)
    simp only [hj, decide_true, cond_true, w1, at_nat hjm, at_nat hjm1, Option.bind_some, hc _ _ hy hx]
    refine .cond (fun hlt => ?_) (fun hge => ?_)
    · have g3 : at? (m.set (j : Int).toNat m[j - 1]) ((j - 1 : Nat) : Int) = some m[j - 1] := by
        rw [at_nat (by simp; omega)]
        simp only [Int.toNat_natCast, List.getElem_set]
        rw [if_neg (by omega)]
      rw [g3]
      simp only [Option.bind_some, Int.toNat_natCast]
      exact .some ⟨⟨by simp [m1], (m2.set hx).set hy, (swap_pm (by omega) hjm).trans m3, j - 1, rfl, by omega⟩, by simp only; omega⟩
    · exact .some ⟨m1, m2, m3⟩
  · have hj' : ¬ (0 : Int) < j := hj
    simp only [hj', decide_false, cond_false, Option.bind_some]
    exact .some ⟨m1, m2, m3⟩
theorem gI_pm {P : α → Prop} {f : α → α → Int} {c : α → α → Option Int} (hc : ∀ x y, P x → P y → c x y = some (f x y)) {l : List α} (hl : l.length ≤ 100000) (hP : All P l) : Ok (gI c l 0 l.length) (fun r => r.Perm l) := by
  unfold gI
  have w : IntKind.wrap .i64 ((0 : Int) + 1) = 1 := by decide
  rw [w]
  refine Ok.bind (P := fun r : List α => r.Perm l) (loop_ok (fun s : List α × Int => s.1.length = l.length ∧ All P s.1 ∧ s.1.Perm l ∧ ∃ i : Nat, s.2 = (i : Int)) (fun s => ((l.length : Int) - s.2).toNat) ?_
    ⟨rfl, hP, List.Perm.refl _, 1, rfl⟩) fun r hr => .some hr
  rintro ⟨m, q⟩ ⟨m1, m2, m3, i, rfl⟩
  simp only at m1 m2 m3
  unfold gI1
  by_cases hi : i < l.length
  · have hi' : (i : Int) < l.length := by omega
    have w1 : IntKind.wrap .i64 ((i : Int) + 1) = ((i + 1 : Nat) : Int) := by rw [wrap64 (by omega) (by omega)]; omega
    simp only [hi', decide_true, cond_true]
    refine (gI2_pm hc (n := l.length) hl m1 m2 m3 hi).bind fun r hr => ?_
    rw [w1]
    exact .some ⟨⟨hr.1, hr.2.1, hr.2.2, i + 1, rfl⟩, by simp only; omega⟩
  · have hi' : ¬ (i : Int) < l.length := by omega
    simp only [hi', decide_false, cond_false]
    exact .some m3
end
def cmpP (x y : api_Prop) : Option Int := some (Lib.compareBytes x.Name y.Name)
theorem insP_eq : slices_insertionSortCmpFunc_api_Prop_o0_f3_fleetmake_propOrder = gI cmpP := by kernel_rfl
def POrd (l : List api_Prop) : Prop := Ord (fun x y : api_Prop => Lib.compareBytes x.Name y.Name) l l.length
theorem sortP_ok {l : List api_Prop} (hl : l.length ≤ 12) : Ok (slices_SortFunc_api_Prop_api_Prop_o0_f1_fleetmake_propOrder l) (fun r => r.Perm l ∧ POrd r) := by
  unfold slices_SortFunc_api_Prop_api_Prop_o0_f1_fleetmake_propOrder
  refine (bitLen12 l.length hl).bind fun b _ => ?_
  have hP : All (fun _ : api_Prop => True) l := fun _ _ => trivial
  have hI := (gI_ord (P := fun _ => True) (f := fun x y : api_Prop => Lib.compareBytes x.Name y.Name) (c := cmpP) (fun _ _ _ _ => rfl) (fun x y => cmpB_anti _ _) (fun x y z => cmpB_tr) (l := l) (by omega) hP).and (gI_pm (P := fun _ => True) (f := fun x y : api_Prop => Lib.compareBytes x.Name y.Name) (c := cmpP) (fun _ _ _ _ => rfl) (l := l) (by omega) hP)
  obtain ⟨r, h1, ⟨h2, h3, h4⟩, h5⟩ := hI
  have e : slices_pdqsortCmpFunc_api_Prop_o0_f4_fleetmake_propOrder l 0 l.length b = some r := by
    unfold slices_pdqsortCmpFunc_api_Prop_o0_f4_fleetmake_propOrder
    have : loopO (slices_pdqsortCmpFunc_api_Prop_o0_f4_fleetmake_propOrder_x1 l 0 (l.length : Int) b) () = some r := by
      refine loop_out ?_
      unfold slices_pdqsortCmpFunc_api_Prop_o0_f4_fleetmake_propOrder_x1
      have w : IntKind.wrap .i64 ((l.length : Int) - 0) = l.length := by rw [wrap64 (by omega) (by omega)]; omega
      have hc : (l.length : Int) ≤ 12 := by omega
      rw [w, insP_eq, h1]
      simp only [hc, decide_true, cond_true, Option.bind_some, gd, h2, beq_self_eq_true]
    rw [this]; rfl
  rw [e]
  simp only [Option.bind_some]
  refine .gd (by simp [h2]) (.some ⟨h5, ?_⟩)
  unfold POrd
  rw [h2]
  exact h4
/-- sorted, and each name once -/
theorem psrt_of {l : List api_Prop} (h : POrd l) (hn : (l.map api_Prop.Name).Nodup) : PSrt l := by
  unfold PSrt
  rw [List.pairwise_iff_getElem]
  intro i j hi hj hij
  have h1 := h i j hij hj (Nat.le_refl _)
  rcases cmpB_cases l[i].Name l[j].Name with h2 | h2 | h2
  · exact h2
  · have := (List.pairwise_iff_getElem.1 hn) i j (by simpa using hi) (by simpa using hj) hij
    simp at this
    exact absurd h2 this
  · unfold nlt at h2
    have := cmpB_anti l[i].Name l[j].Name
    simp only at h1
    omega
theorem psrt_nodup {l : List api_Prop} (h : PSrt l) : l.Nodup := by
  unfold List.Nodup
  exact List.Pairwise.imp (fun hab e => nlt_ne hab (congrArg api_Prop.Name e)) h
theorem pext : ∀ {l m : List api_Prop}, PSrt l → PSrt m → (∀ p, p ∈ l ↔ p ∈ m) → l = m := by
  intro l m h1 h2 h
  have hp : l.Perm m := (List.perm_ext_iff_of_nodup (psrt_nodup h1) (psrt_nodup h2)).2 h
  exact List.Perm.eq_of_pairwise (le := fun x y : api_Prop => nlt x.Name y.Name) (fun a b _ _ hab hba => absurd hba (nlt_asymm hab)) h1 h2 hp

/-! ### Values and names -/
def rv15 : List api_Value := [api_Value.mk 1 false 0 [], api_Value.mk 1 true 0 [], api_Value.mk 3 false 0 [], api_Value.mk 3 false 0 [120], api_Value.mk 3 false 0 [97, 32, 34, 98, 34], api_Value.mk 3 false 0 [92],
  api_Value.mk 3 false 0 [195, 169], api_Value.mk 3 false 0 [45, 32, 49], api_Value.mk 2 false 1 [], api_Value.mk 2 false 2 [], api_Value.mk 2 false 3 [], api_Value.mk 2 false 0 [], api_Value.mk 2 false (-5) [], api_Value.mk 2 false 1000000000 []]
theorem rv_own : (rv15.all fun v => decide (twin_valueFault v = some 0) && !decide (v.Kind = 0)) = true := by kernel_rfl
theorem rv_ref : (rv15.all fun v => decide (fleetref2_ValueFault v = some 0)) = true := by kernel_rfl
theorem nm7_ref : (nm7.all fun n => decide (fleetref2_PropName n = some true)) = true := by kernel_rfl
theorem nm7_above : (nm7.all fun a => nm7.all fun b => decide (fleetref2_above a b = some (belB b a))) = true := by kernel_rfl
def RP (p : api_Prop) : Prop := p.Name ∈ nm7 ∧ p.Value ∈ rv15
theorem isName7 {n : List UInt8} (h : n ∈ nm7) : twin_isName n = some true := of_decide_eq_true (List.all_eq_true.1 nm7_ok _ h)
theorem RP.gp {p : api_Prop} (h : RP p) : GP p := by
  have := List.all_eq_true.1 rv_own _ h.2
  simp only [Bool.and_eq_true, decide_eq_true_eq, Bool.not_eq_true', decide_eq_false_iff_not] at this
  exact ⟨isName7 h.1, this.1, this.2⟩
theorem RP.len {p : api_Prop} (h : RP p) : (p.Name.length : Int) ≤ 9223372036854775807 := by
  have := of_decide_eq_true (List.all_eq_true.1 nm7_len _ h.1)
  omega
theorem RightValue_in {k : Nat} {s : fleetmake_Stream} (h : StrOk k s) (hk : k + 10 < 1099511627776) : Ok (fleetmake_Stream_RightValue s) (fun v => v ∈ rv15) := by
  unfold fleetmake_Stream_RightValue
  have h1 := nxt_mk h (by omega)
  refine (Next_ok h (by omega) (by unfold I64; omega)).bind fun n _ => .cond (fun _ => ?_) (fun _ => .cond (fun _ => ?_) (fun _ => ?_))
  · exact (Flip_ok h1 (by omega) (by unfold I64; omega)).bind fun b _ => .some (by cases b <;> simp [rv15])
  · refine (Some_ok h1 (by omega) (by simp) (by simp)).bind fun w hw => .some ?_
    simp at hw
    rcases hw with rfl | rfl | rfl | rfl | rfl | rfl <;> simp [rv15]
  · refine (Pick_ok h1 (by omega) (by simp) (by simp)).bind fun n hn => .some ?_
    simp at hn
    rcases hn with rfl | rfl | rfl | rfl | rfl | rfl | rfl <;> simp [rv15]

/-! ### The reference's check -/
theorem above7 {a b : List UInt8} (ha : a ∈ nm7) (hb : b ∈ nm7) : fleetref2_above a b = some (belB b a) := of_decide_eq_true (List.all_eq_true.1 (List.all_eq_true.1 nm7_above _ ha) _ hb)
theorem refC_eq {l : List api_Prop} (hl : l.length ≤ 1000) (hR : ∀ p ∈ l, RP p) {p : api_Prop} (hp : RP p) : slices_ContainsFunc_api_Prop_api_Prop_f1_fleetref2_PropsFault_1 l p = some (l.any fun q => belB p.Name q.Name) := by
  have h0 : slices_ContainsFunc_api_Prop_api_Prop_f1_fleetref2_PropsFault_1 l p = ((slices_IndexFunc_api_Prop_api_Prop_f1_fleetref2_PropsFault_1 l p).bind fun vr2 => some (decide (0 ≤ vr2))) := rfl
  rw [h0]
  unfold slices_IndexFunc_api_Prop_api_Prop_f1_fleetref2_PropsFault_1
  obtain ⟨x, h1, h2⟩ := find_loop (l := l) (f := slices_IndexFunc_api_Prop_api_Prop_f1_fleetref2_PropsFault_1_x1 l p) (fun q => belB p.Name q.Name) (by omega) (fun i h => by
    unfold slices_IndexFunc_api_Prop_api_Prop_f1_fleetref2_PropsFault_1_x1 fleetref2_PropsFault_1
    have hc : (i : Int) < l.length := by omega
    simp only [hc, decide_true, cond_true, at_nat h, Option.bind_some, above7 (hR _ (List.getElem_mem h)).1 hp.1]
    cases belB p.Name l[i].Name <;> rfl) (by unfold slices_IndexFunc_api_Prop_api_Prop_f1_fleetref2_PropsFault_1_x1; simp)
  rw [h1, ← h2]
  cases x <;> rfl
def Anti (l : List api_Prop) : Prop := ∀ p ∈ l, ∀ q ∈ l, belB p.Name q.Name = false
theorem refP_ok {l : List api_Prop} (hl : l.length ≤ 400) (hR : ∀ p ∈ l, RP p) : Ok (fleetref2_PropsFault l) (fun e => e = 0 → PSrt l ∧ Anti l) := by
  unfold fleetref2_PropsFault
  refine .cond (fun h => absurd (of_decide_eq_true h) (by omega)) fun _ => ?_
  have one : Ok (loopO (fleetref2_PropsFault_x1 l) 0) (fun r => match r with | .inl _ => PSrt l | .inr e => e ≠ 0) := by
    refine loop_ok (fun s : Int => ∃ i : Nat, s = (i : Int) ∧ i ≤ l.length ∧ ∀ j (h0 : 0 < j) (h : j < i) (hl : j < l.length), nlt (l[j - 1]'(by omega)).Name l[j].Name) (fun s => ((l.length : Int) - s).toNat) ?_ ⟨0, rfl, by omega, fun j h0 h => by omega⟩
    rintro _ ⟨i, rfl, i1, i2⟩
    unfold fleetref2_PropsFault_x1
    by_cases hi : i < l.length
    · have hc : (i : Int) < l.length := by omega
      have hp := hR _ (List.getElem_mem hi)
      have w1 : IntKind.wrap .i64 ((i : Int) + 1) = ((i + 1 : Nat) : Int) := by rw [wrap64 (by omega) (by omega)]; omega
      have e1 : fleetref2_PropName l[i].Name = some true := of_decide_eq_true (List.all_eq_true.1 nm7_ref _ hp.1)
      have e2 : fleetref2_ValueFault (api_Value.mk l[i].Value.Kind l[i].Value.Flag l[i].Value.Number l[i].Value.Words) = some 0 := of_decide_eq_true (List.all_eq_true.1 rv_ref _ hp.2)
      have e3 := hp.gp.2.2
      simp only [hc, decide_true, cond_true, at_nat hi, Option.bind_some, e1, e2, e3, Bool.not_true, cond_false, decide_false, w1]
      unfold fleetref2_PropsFault_x2
      cases i with
      | zero =>
        simp only [show ¬ (0 : Int) < ((0 : Nat) : Int) by omega, decide_false, cond_false, Option.bind_some]
        exact .some ⟨⟨1, rfl, by omega, fun j h0 h => by omega⟩, by omega⟩
      | succ i =>
        have hp0 : (0 : Int) < ((i + 1 : Nat) : Int) := by omega
        have w : IntKind.wrap .i64 (((i + 1 : Nat) : Int) - 1) = (i : Int) := by rw [wrap64 (by omega) (by omega)]; omega
        simp only [hp0, decide_true, cond_true, w, at_nat (show i < l.length by omega), Option.bind_some]
        refine .cond (fun _ => .some (by simp)) fun hlt => .some ⟨⟨i + 1 + 1, rfl, by omega, fun j h0 h hjl => ?_⟩, by omega⟩
        by_cases hj : j < i + 1
        · exact i2 j h0 hj hjl
        · have : j = i + 1 := by omega
          subst this
          simp only [Bool.or_eq_false_iff, cmpB_less, decide_eq_false_iff_not] at hlt
          show nlt l[i].Name l[i + 1].Name
          rcases cmpB_cases l[i].Name l[i + 1].Name with h2 | h2 | h2
          · exact h2
          · exact absurd h2.symm hlt.2
          · exact absurd h2 hlt.1
    · have hc : ¬ (i : Int) < l.length := by omega
      simp only [hc, decide_false, cond_false]
      refine .some ?_
      show PSrt l
      have key : ∀ (d j : Nat) (hj : j + d + 1 < l.length), nlt (l[j]'(by omega)).Name l[j + d + 1].Name := by
        intro d
        induction d with
        | zero =>
          intro j hj
          exact i2 (j + 1) (by omega) (by omega) (by omega)
        | succ d ih =>
          intro j hj
          exact nlt_trans (ih j (by omega)) (i2 (j + d + 2) (by omega) (by omega) (by omega))
      unfold PSrt
      rw [List.pairwise_iff_getElem]
      intro i j hi hj hij
      have := key (j - i - 1) i (by omega)
      simpa [show i + (j - i - 1) + 1 = j by omega] using this
  obtain ⟨r, h1, h2⟩ := one
  rw [h1]
  cases r with
  | inr e => exact .some fun h => absurd h h2
  | inl _ =>
    have h2 : PSrt l := h2
    simp only [Option.bind_some]
    rw [range_loop (l := l) (fun _ p => bif l.any (fun q => belB p.Name q.Name) then some (.inr ()) else none) (.inl ()) (by omega)]
    · cases hs : scan (fun _ p => bif l.any (fun q => belB p.Name q.Name) then some (.inr () : Unit ⊕ Unit) else none) 0 l with
      | some x =>
        have : x = .inr () := by
          have key : ∀ (m : List api_Prop) (k : Nat), scan (fun _ p => bif l.any (fun q => belB p.Name q.Name) then some (.inr () : Unit ⊕ Unit) else none) k m = some x → x = .inr () := by
            intro m
            induction m with
            | nil => intro k h; simp [scan] at h
            | cons y m ih =>
              intro k h
              simp only [scan] at h
              cases hb : l.any fun q => belB y.Name q.Name with
              | true => rw [hb] at h; simp at h; exact h.symm
              | false => rw [hb] at h; exact ih _ h
          exact key _ _ hs
        subst this
        exact .some fun h => by cases h
      | none =>
        refine .some fun _ => ⟨h2, fun p hp q hq => ?_⟩
        obtain ⟨i, hi, rfl⟩ := List.mem_iff_getElem.1 hp
        have := scan_none.1 hs i l[i] (List.getElem?_eq_getElem hi)
        cases hb : l.any fun q => belB l[i].Name q.Name with
        | true => rw [hb] at this; cases this
        | false =>
          have := List.any_eq_false.1 hb q hq
          simpa using this
    · intro i hi
      have hc : (i : Int) < l.length := by omega
      have hp := hR _ (List.getElem_mem hi)
      unfold fleetref2_PropsFault_x3
      have e : slices_ContainsFunc_api_Prop_api_Prop_f1_fleetref2_PropsFault_1 l (api_Prop.mk l[i].Name (api_Value.mk l[i].Value.Kind l[i].Value.Flag l[i].Value.Number l[i].Value.Words)) = some (l.any fun q => belB l[i].Name q.Name) := refC_eq (by omega) hR hp
      simp only [hc, decide_true, cond_true, at_nat hi, Option.bind_some, e]
      cases l.any (fun q => belB l[i].Name q.Name) <;> rfl
    · unfold fleetref2_PropsFault_x3; simp

/-! ### Right properties -/
structure GR (l : List api_Prop) : Prop where
  rp : ∀ p ∈ l, RP p
  srt : PSrt l
  anti : Anti l
def rk4 (n : List UInt8) : Int := if n = [97] then 1 else if n = [97, 46, 120] then 1 else if n = [97, 46, 120, 46, 112] then 1 else if n = [97, 46, 121] then 2 else if n = [97, 98] then 3 else 4
theorem rk4_up : (nm7.all fun n => nm7.all fun m => !decide (rk n < rk m) || (belB m n || decide (rk4 n < rk4 m))) = true := by decide
theorem rk4_range : (nm7.all fun n => decide (1 ≤ rk4 n) && decide (rk4 n ≤ 4)) = true := by decide
theorem GR.len {l : List api_Prop} (h : GR l) : l.length ≤ 4 := by
  have := up_len (fun p : api_Prop => rk4 p.Name) (l := l) (lo := 1) (hi := 4) (List.Pairwise.imp_of_mem (fun {p q} hp hq hpq => by
    have h1 := (rk_spec (h.rp p hp).1 (h.rp q hq).1).2.1.1 hpq
    have h2 := List.all_eq_true.1 (List.all_eq_true.1 rk4_up _ (h.rp p hp).1) _ (h.rp q hq).1
    simpa [h1, h.anti q hq p hp] using h2) h.srt) (fun p hp => by
    have := List.all_eq_true.1 rk4_range _ (h.rp p hp).1
    simpa using this) (by omega)
  omega
theorem RightProps_ok {k : Nat} {s : fleetmake_Stream} (h : StrOk k s) (hk : k + 100 < 1099511627776) : Ok (fleetmake_Stream_RightProps s) (fun r => StrOk (k + 60) r.1 ∧ GR r.2) := by
  unfold fleetmake_Stream_RightProps
  refine (Range_ok h (by omega) (by omega) (by omega)).bind fun ⟨s1, n⟩ ⟨r1, r2, r3, _⟩ => ?_
  simp only at r1 r2 r3
  have r3 := r3 (by omega)
  refine Ok.bind (P := fun q : fleetmake_Stream × List api_Prop => StrOk (k + 60) q.1 ∧ GR q.2) ?_ fun q hq => .some hq
  refine loop_ok (fun q : fleetmake_Stream × List api_Prop × Int => ∃ j : Nat, q.2.2 = (j : Int) ∧ (j : Int) ≤ 5 ∧ StrOk (k + 1 + 3 * j) q.1 ∧ GR q.2.1) (fun q => ((5 : Int) - q.2.2).toNat) ?_ ⟨0, rfl, by omega, by simpa using r1, ⟨(fun _ h => nomatch h), List.Pairwise.nil, (fun _ h => nomatch h)⟩⟩
  rintro ⟨s2, l, i⟩ ⟨j, rfl, j1, j2, j3⟩
  simp only at j2 j3
  unfold fleetmake_Stream_RightProps_x1
  refine .cond (fun hc => ?_) (fun hc => .some ⟨j2.mono (by omega), j3⟩)
  have hc : (j : Int) < n := by simpa using hc
  have hlen := j3.len
  have hx2 : Ok (fleetmake_Stream_RightProps_x2 s2 l) GR := by
    unfold fleetmake_Stream_RightProps_x2 slices_Clone_api_Prop_api_Prop
    have hb : Nat.ble (([] : List api_Prop).length + l.length) LIM = true := lim_ok (by simp; omega)
    rw [hb]
    simp only [gd, cond_true, Option.bind_some]
    refine (Some_ok j2 (by omega) (by simp) (by simp)).bind fun w hw => ?_
    have a1 := nxt_mk j2 (by omega)
    refine (RightValue_in a1 (by omega)).bind fun v hv => ?_
    have hw7 : w ∈ nm7 := by
      simp at hw
      rcases hw with rfl | rfl | rfl | rfl | rfl | rfl | rfl <;> decide
    rw [lim_ok (show (l.length + [api_Prop.mk w v].length) ≤ 100000 by simp; omega)]
    simp only [cond_true]
    refine (sortP_ok (by simp; omega)).bind fun r ⟨q1, q2⟩ => ?_
    have hr : ∀ p ∈ r, RP p := by
      intro p hp
      rcases List.mem_append.1 (q1.mem_iff.1 hp) with hp | hp
      · exact j3.rp p hp
      · rw [List.mem_singleton] at hp; subst hp; exact ⟨hw7, hv⟩
    have hlr : r.length = (l ++ [api_Prop.mk w v]).length := q1.length_eq
    rw [hlr]
    simp only [beq_self_eq_true, cond_true]
    refine (refP_ok (by rw [hlr]; simp; omega) hr).bind fun e he => .cond (fun h0 => .some ⟨hr, ?_, ?_⟩) fun _ => .some j3
    · exact (he (of_decide_eq_true h0)).1
    · exact (he (of_decide_eq_true h0)).2
  refine hx2.bind fun m hm => ?_
  have w1 : IntKind.wrap .i64 ((j : Int) + 1) = ((j + 1 : Nat) : Int) := by rw [wrap64 (by omega) (by omega)]; omega
  refine .some ⟨⟨j + 1, w1, by omega, (nxt_mk (nxt_mk (nxt_mk j2 (by omega)) (by omega)) (by omega)).mono (by omega), hm⟩, ?_⟩
  show ((5 : Int) - IntKind.wrap .i64 ((j : Int) + 1)).toNat < _
  rw [w1]; simp only; omega
end Go.Eng

/-
Checks of properties: the code's and the reference's say the same.
-/
namespace Go.Eng
open Go
set_option linter.unusedVariables false
set_option linter.unusedSimpArgs false

/-! ### Values -/
theorem eqV_self' (v : api_Value) : eqV v v = true := eqV_iff.2 rfl
theorem eqV_comm' (x y : api_Value) : eqV x y = eqV y x := by
  cases h : eqV x y with
  | true => rw [eqV_iff.1 h, eqV_self']
  | false =>
    cases h2 : eqV y x with
    | false => rfl
    | true => rw [eqV_iff.1 h2, eqV_self'] at h; cases h
theorem in_not (n low high : Int) : fleetref2_in n low high = some (!(decide (n < low) || decide (high < n))) := by
  unfold fleetref2_in fleetref2_in_x1
  by_cases h1 : low ≤ n
  · have h2 : ¬ n < low := by omega
    by_cases h3 : n ≤ high
    · have h4 : ¬ high < n := by omega
      simp [h1, h2, h3, h4]
    · have h4 : high < n := by omega
      simp [h1, h2, h3, h4]
  · have h2 : n < low := by omega
    simp [h1, h2]
/-- what is used of a value -/
def pl (v : api_Value) : api_Value := if v.Kind = 1 then api_Value.mk v.Kind v.Flag 0 [] else if v.Kind = 2 then api_Value.mk v.Kind false v.Number [] else if v.Kind = 3 then api_Value.mk v.Kind false 0 v.Words else api_Value.mk v.Kind false 0 []
def vfI (v : api_Value) (b : Bool) : Int := bif decide (v.Kind < 0) || decide (3 < v.Kind) then 4 else bif !eqV v (pl v) then 3 else bif decide (v.Number < -1000000000) || decide (1000000000 < v.Number) then 1 else
  bif decide (1000 < (v.Words.length : Int)) then 2 else bif !b then 3 else 0
def KW (w : List UInt8) (b : Bool) : Prop := w.length ≤ 1000 → base_Unmarked w = some b ∧ fleetref2_Printed w = some b
theorem vf_own {v : api_Value} {b : Bool} (h : KW v.Words b) : twin_valueFault v = some (vfI v b) := by
  have last : (bif decide (1000 < (v.Words.length : Int)) then some 2 else (base_Unmarked v.Words).bind fun vr1 => bif !vr1 then some 3 else some 0) = some (bif decide (1000 < (v.Words.length : Int)) then 2 else bif !b then 3 else 0 : Int) := by
    by_cases hl : 1000 < (v.Words.length : Int)
    · simp [hl]
    · rw [(h (by omega)).1]
      simp only [hl, decide_false, cond_false, Option.bind_some]
      cases b <;> rfl
  have x1 : twin_valueFault_x1 v = if v.Kind < 0 ∨ 3 < v.Kind then some (.inr ()) else some (.inl (pl v)) := by
    unfold twin_valueFault_x1 pl
    by_cases k0 : v.Kind = 0
    · simp [k0]
    · by_cases k1 : v.Kind = 1
      · simp [k1]
      · by_cases k2 : v.Kind = 2
        · simp [k2]
        · by_cases k3 : v.Kind = 3
          · simp [k3]
          · have : v.Kind < 0 ∨ 3 < v.Kind := by omega
            simp [k0, k1, k2, k3, this]
  unfold twin_valueFault
  rw [x1]
  unfold vfI
  by_cases hk : v.Kind < 0 ∨ 3 < v.Kind
  · rw [if_pos hk]
    have : (decide (v.Kind < 0) || decide (3 < v.Kind)) = true := by simpa using hk
    rw [this]; rfl
  · rw [if_neg hk]
    have : (decide (v.Kind < 0) || decide (3 < v.Kind)) = false := by simpa using hk
    rw [this]
    simp only [Option.bind_some, cond_false]
    show (bif !eqV v (pl v) then some 3 else _) = _
    cases eqV v (pl v) with
    | false => rfl
    | true =>
      simp only [Bool.not_true, cond_false, Out_eq, Option.bind_some]
      cases (decide (v.Number < -1000000000) || decide (1000000000 < v.Number)) with
      | true => rfl
      | false => exact last
theorem vf_ref {v : api_Value} {b : Bool} (h : KW v.Words b) : fleetref2_ValueFault v = some (vfI v b) := by
  have last : (bif decide (1000 < (v.Words.length : Int)) then some 2 else (fleetref2_Printed v.Words).bind fun vr1 => bif !vr1 then some 3 else some 0) = some (bif decide (1000 < (v.Words.length : Int)) then 2 else bif !b then 3 else 0 : Int) := by
    by_cases hl : 1000 < (v.Words.length : Int)
    · simp [hl]
    · rw [(h (by omega)).2]
      simp only [hl, decide_false, cond_false, Option.bind_some]
      cases b <;> rfl
  have x1 : fleetref2_ValueFault_x1 v = some (pl v) := by
    unfold fleetref2_ValueFault_x1 pl
    by_cases k1 : v.Kind = 1
    · simp [k1]
    · by_cases k2 : v.Kind = 2
      · simp [k2]
      · by_cases k3 : v.Kind = 3
        · simp [k3]
        · simp [k1, k2, k3]
  unfold fleetref2_ValueFault
  rw [x1]
  unfold vfI
  simp only [in_not, Option.bind_some, Bool.not_not]
  cases (decide (v.Kind < 0) || decide (3 < v.Kind)) with
  | true => rfl
  | false =>
    simp only [cond_false]
    have e : (decide ((pl v).Kind = v.Kind) && (((pl v).Flag == v.Flag) && (decide ((pl v).Number = v.Number) && (decide ((pl v).Words = v.Words) && true)))) = eqV v (pl v) := eqV_comm' (pl v) v
    rw [e]
    cases eqV v (pl v) with
    | false => rfl
    | true =>
      simp only [Bool.not_true, cond_false]
      cases (decide (v.Number < -1000000000) || decide (1000000000 < v.Number)) with
      | true => rfl
      | false => exact last

/-! ### Names above one another -/
theorem above_is (a b : List UInt8) (hl : a.length ≤ 10000) : fleetref2_above a b = some (belB b a) := by
  unfold fleetref2_above strings_HasPrefix stringslite_HasPrefix stringslite_HasPrefix_x1
  have h0 : Nat.ble (a.length + ([46] : List UInt8).length) LIM = true := lim_ok (by simp; omega)
  rw [h0]
  simp only [gd, cond_true, Option.bind_some]
  unfold belB
  by_cases h : (((a ++ ([46] : List UInt8)).length : Nat) : Int) ≤ (b.length : Int)
  · have hsub : sub? b 0 (((a ++ ([46] : List UInt8)).length : Nat) : Int) = some (b.take (a ++ ([46] : List UInt8)).length) := by
      unfold sub?
      rw [if_pos ⟨by omega, by omega, by omega⟩]
      simp
    simp only [h, decide_true, cond_true, hsub, Option.bind_some]
    congr 1
    rw [Bool.eq_iff_iff, decide_eq_true_iff, List.isPrefixOf_iff_prefix, List.prefix_iff_eq_take, eq_comm]
  · simp only [h, decide_false, cond_false, Option.bind_some]
    congr 1
    rw [eq_comm, Bool.eq_false_iff]
    intro hp
    have := (List.isPrefixOf_iff_prefix.1 hp).length_le
    omega
theorem refC_is {l : List api_Prop} (hl : l.length ≤ 1000) (hn : ∀ q ∈ l, q.Name.length ≤ 10000) (p : api_Prop) : slices_ContainsFunc_api_Prop_api_Prop_f1_fleetref2_PropsFault_1 l p = some (l.any fun q => belB p.Name q.Name) := by
  have h0 : slices_ContainsFunc_api_Prop_api_Prop_f1_fleetref2_PropsFault_1 l p = ((slices_IndexFunc_api_Prop_api_Prop_f1_fleetref2_PropsFault_1 l p).bind fun vr2 => some (decide (0 ≤ vr2))) := rfl
  rw [h0]
  unfold slices_IndexFunc_api_Prop_api_Prop_f1_fleetref2_PropsFault_1
  obtain ⟨x, h1, h2⟩ := find_loop (l := l) (f := slices_IndexFunc_api_Prop_api_Prop_f1_fleetref2_PropsFault_1_x1 l p) (fun q => belB p.Name q.Name) (by omega) (fun i h => by
    unfold slices_IndexFunc_api_Prop_api_Prop_f1_fleetref2_PropsFault_1_x1 fleetref2_PropsFault_1
    have hc : (i : Int) < l.length := by omega
    simp only [hc, decide_true, cond_true, at_nat h, Option.bind_some, above_is _ _ (hn _ (List.getElem_mem h))]
    cases belB p.Name l[i].Name <;> rfl) (by unfold slices_IndexFunc_api_Prop_api_Prop_f1_fleetref2_PropsFault_1_x1; simp)
  rw [h1, ← h2]
  cases x <;> rfl
theorem above_eq {l : List api_Prop} (hs : PSrt l) (hl : l.length ≤ 10000) {n : List UInt8} (hn : (n.length : Int) ≤ 9223372036854775807) : twin_above_f1_twin_CheckProps_1 n l = some (l.any fun q => belB n q.Name) := by
  unfold twin_above_f1_twin_CheckProps_1
  rw [range_loop (l := n) (fun i c => bif decide ((c.toNat : Int) = 46) && (l.any fun q => decide (q.Name = n.take i)) then some (.inr ()) else none) (.inl ()) hn]
  · cases hs2 : scan (fun i c => bif decide (((c : UInt8).toNat : Int) = 46) && (l.any fun q => decide (q.Name = n.take i)) then some (.inr () : Unit ⊕ Unit) else none) 0 n with
    | none =>
      have hno : (l.any fun q => belB n q.Name) = false := by
        rw [List.any_eq_false]
        intro q hq hb
        obtain ⟨r, hr⟩ := bel_iff.1 hb
        have h1 : n[q.Name.length]? = some 46 := by rw [hr]; simp
        have := scan_none.1 hs2 q.Name.length 46 h1
        have h2 : (l.any fun q' => decide (q'.Name = n.take (0 + q.Name.length))) = true := List.any_eq_true.2 ⟨q, hq, by rw [hr]; simp⟩
        rw [h2] at this
        exact absurd this (by simp)
      rw [hno]; rfl
    | some x =>
      have key : ∀ (m : List UInt8) (k : Nat), m = n.drop k → scan (fun i c => bif decide (((c : UInt8).toNat : Int) = 46) && (l.any fun q => decide (q.Name = n.take i)) then some (.inr () : Unit ⊕ Unit) else none) k m = some x → x = .inr () ∧ (l.any fun q => belB n q.Name) = true := by
        intro m
        induction m with
        | nil => intro k _ h; simp [scan] at h
        | cons y m ih =>
          intro k hm h
          simp only [scan] at h
          cases hb : (decide ((y.toNat : Int) = 46) && (l.any fun q => decide (q.Name = n.take k))) with
          | false =>
            rw [hb] at h
            refine ih (k + 1) ?_ h
            have := congrArg List.tail hm
            simpa using this
          | true =>
            rw [hb] at h
            simp at h
            refine ⟨h.symm, ?_⟩
            simp only [Bool.and_eq_true, decide_eq_true_eq, List.any_eq_true] at hb
            obtain ⟨h46, q, hq, hqn⟩ := hb
            have hy : y = 46 := by
              have : y.toNat = (46 : UInt8).toNat := by show y.toNat = 46; omega
              exact UInt8.toNat_inj.1 this
            refine List.any_eq_true.2 ⟨q, hq, bel_iff.2 ⟨m, ?_⟩⟩
            rw [hqn, ← hy, hm, List.take_append_drop]
      obtain ⟨h1, h2⟩ := key n 0 rfl hs2
      subst h1
      rw [h2]; rfl
  · intro i hi
    unfold twin_above_f1_twin_CheckProps_1_x1 twin_above_f1_twin_CheckProps_1_x2
    have hc : (i : Int) < n.length := by omega
    simp only [hc, decide_true, cond_true, at_nat hi, Option.bind_some]
    by_cases h2 : (n[i].toNat : Int) = 46
    · have hsub : sub? n 0 (i : Int) = some (n.take i) := by
        unfold sub?
        rw [if_pos ⟨by omega, by omega, by omega⟩]
        simp
      simp only [h2, decide_true, cond_true, hsub, Option.bind_some, twin_CheckProps_1, Bool.true_and]
      rcases find_eq hs hl (n.take i) with ⟨f1, f2⟩ | ⟨k, hk, f1, f2⟩
      · have : (l.any fun q => decide (q.Name = n.take i)) = false := by
          rw [List.any_eq_false]
          intro q hq h
          exact f2 q hq (by simpa using h)
        rw [f1, this]; rfl
      · have : (l.any fun q => decide (q.Name = n.take i)) = true := List.any_eq_true.2 ⟨l[k], List.getElem_mem hk, by simpa using f2⟩
        have h0 : (0 : Int) ≤ (k : Int) := by omega
        rw [f1, this]
        simp only [Option.bind_some, h0, decide_true, cond_true]
    · simp only [h2, decide_false, cond_false, Option.bind_some, Bool.false_and]
  · unfold twin_above_f1_twin_CheckProps_1_x1
    simp

/-! ### The checks -/
/-- a property of which both checks know what to say -/
def KP (p : api_Prop) : Prop := (∃ b, twin_isName p.Name = some b ∧ fleetref2_PropName p.Name = some b) ∧ (∃ b, KW p.Value.Words b) ∧ p.Name.length ≤ 10000
theorem x1_same {l : List api_Prop} (h : ∀ p ∈ l, KP p) : twin_CheckProps_x1 l = fleetref2_PropsFault_x1 l := by
  funext i
  unfold twin_CheckProps_x1 fleetref2_PropsFault_x1
  cases ha : at? l i with
  | none => rfl
  | some p =>
    have hp : p ∈ l := by
      unfold at? at ha
      split at ha
      · exact List.mem_of_getElem? ha
      · cases ha
    obtain ⟨⟨b, h1, h2⟩, ⟨c, h3⟩, _⟩ := h p hp
    simp only [Option.bind_some, h1, h2]
    have e1 : twin_valueFault (api_Value.mk p.Value.Kind p.Value.Flag p.Value.Number p.Value.Words) = some (vfI p.Value c) := vf_own h3
    have e2 : fleetref2_ValueFault (api_Value.mk p.Value.Kind p.Value.Flag p.Value.Number p.Value.Words) = some (vfI p.Value c) := vf_ref h3
    rw [e1, e2]
    rfl
structure PGood (l : List api_Prop) : Prop where
  srt : PSrt l
  anti : Anti l
  gp : ∀ p ∈ l, GP p
theorem one_ok {l : List api_Prop} (hl : l.length ≤ 400) (hK : ∀ p ∈ l, KP p) : Ok (loopO (twin_CheckProps_x1 l) 0) (fun r => match r with | .inl _ => PSrt l ∧ ∀ p ∈ l, GP p | .inr e => e ≠ 0) := by
  refine loop_ok (fun s : Int => ∃ i : Nat, s = (i : Int) ∧ i ≤ l.length ∧ (∀ j (h0 : 0 < j) (h : j < i) (hl : j < l.length), nlt (l[j - 1]'(by omega)).Name l[j].Name) ∧ ∀ j (h : j < i) (hl : j < l.length), GP l[j]) (fun s => ((l.length : Int) - s).toNat) ?_ ⟨0, rfl, by omega, fun j h0 h => by omega, fun j h => by omega⟩
  rintro _ ⟨i, rfl, i1, i2, i3⟩
  unfold twin_CheckProps_x1
  by_cases hi : i < l.length
  · have hc : (i : Int) < l.length := by omega
    have w1 : IntKind.wrap .i64 ((i : Int) + 1) = ((i + 1 : Nat) : Int) := by rw [wrap64 (by omega) (by omega)]; omega
    obtain ⟨⟨b, h1, h2⟩, ⟨c, h3⟩, _⟩ := hK _ (List.getElem_mem hi)
    have e1 : twin_valueFault (api_Value.mk l[i].Value.Kind l[i].Value.Flag l[i].Value.Number l[i].Value.Words) = some (vfI l[i].Value c) := vf_own h3
    simp only [hc, decide_true, cond_true, at_nat hi, Option.bind_some, h1, e1, w1]
    refine .cond (fun _ => .some (by simp)) fun hb => .cond (fun hz => .some ?_) fun hz => .cond (fun _ => .some (by simp)) fun hk => ?_
    · show vfI l[i].Value c ≠ 0
      simpa using hz
    have hb : b = true := by simpa using hb
    have hz : vfI l[i].Value c = 0 := by simpa using hz
    have hk : l[i].Value.Kind ≠ 0 := by simpa using hk
    have gp : GP l[i] := ⟨by rw [h1, hb], by rw [vf_own h3, hz], hk⟩
    have gps : ∀ j (h : j < i + 1) (hl : j < l.length), GP l[j] := fun j h hjl => by
      by_cases hj : j < i
      · exact i3 j hj hjl
      · have : j = i := by omega
        subst this; exact gp
    unfold twin_CheckProps_x2
    cases i with
    | zero =>
      simp only [show ¬ (0 : Int) < ((0 : Nat) : Int) by omega, decide_false, cond_false, Option.bind_some]
      exact .some ⟨⟨1, rfl, by omega, fun j h0 h => by omega, gps⟩, by omega⟩
    | succ i =>
      have hp0 : (0 : Int) < ((i + 1 : Nat) : Int) := by omega
      have w : IntKind.wrap .i64 (((i + 1 : Nat) : Int) - 1) = (i : Int) := by rw [wrap64 (by omega) (by omega)]; omega
      simp only [hp0, decide_true, cond_true, w, at_nat (show i < l.length by omega), Option.bind_some]
      refine .cond (fun _ => .some (by simp)) fun hlt => .some ⟨⟨i + 1 + 1, rfl, by omega, fun j h0 h hjl => ?_, gps⟩, by omega⟩
      by_cases hj : j < i + 1
      · exact i2 j h0 hj hjl
      · have : j = i + 1 := by omega
        subst this
        simp only [Bool.or_eq_false_iff, cmpB_less, decide_eq_false_iff_not] at hlt
        show nlt l[i].Name l[i + 1].Name
        rcases cmpB_cases l[i].Name l[i + 1].Name with h2 | h2 | h2
        · exact h2
        · exact absurd h2.symm hlt.2
        · exact absurd h2 hlt.1
  · have hc : ¬ (i : Int) < l.length := by omega
    simp only [hc, decide_false, cond_false]
    refine .some ⟨?_, fun p hp => ?_⟩
    · have key : ∀ (d j : Nat) (hj : j + d + 1 < l.length), nlt (l[j]'(by omega)).Name l[j + d + 1].Name := by
        intro d
        induction d with
        | zero =>
          intro j hj
          exact i2 (j + 1) (by omega) (by omega) (by omega)
        | succ d ih =>
          intro j hj
          exact nlt_trans (ih j (by omega)) (i2 (j + d + 2) (by omega) (by omega) (by omega))
      unfold PSrt
      rw [List.pairwise_iff_getElem]
      intro i j hi hj hij
      have := key (j - i - 1) i (by omega)
      simpa [show i + (j - i - 1) + 1 = j by omega] using this
    · obtain ⟨j, hj, rfl⟩ := List.mem_iff_getElem.1 hp
      exact i3 j (by omega) hj
/-- both checks say the same -/
theorem checks {l : List api_Prop} (hl : l.length ≤ 400) (hK : ∀ p ∈ l, KP p) : ∃ e, twin_CheckProps l = some e ∧ fleetref2_PropsFault l = some e ∧ (e = 0 → PGood l) := by
  have h500 : ¬ (500 : Int) < l.length := by omega
  unfold twin_CheckProps fleetref2_PropsFault
  simp only [h500, decide_false, cond_false]
  rw [← x1_same hK]
  obtain ⟨r, h1, h2⟩ := one_ok hl hK
  rw [h1]
  cases r with
  | inr e => exact ⟨e, rfl, rfl, fun h => absurd h h2⟩
  | inl _ =>
    obtain ⟨hs, hg⟩ : PSrt l ∧ ∀ p ∈ l, GP p := h2
    simp only [Option.bind_some]
    have f1 : ∀ i : Nat, (h : i < l.length) → twin_CheckProps_x3 l i = some (bif l.any (fun q => belB l[i].Name q.Name) then .inr (.inr ()) else .inl (IntKind.wrap .i64 (i + 1))) := by
      intro i hi
      have hc : (i : Int) < l.length := by omega
      have hp := (hK _ (List.getElem_mem hi)).2.2
      unfold twin_CheckProps_x3
      simp only [hc, decide_true, cond_true, at_nat hi, Option.bind_some, above_eq hs (show l.length ≤ 10000 by omega) (show (l[i].Name.length : Int) ≤ 9223372036854775807 by omega)]
      cases l.any (fun q => belB l[i].Name q.Name) <;> rfl
    have f2 : ∀ i : Nat, (h : i < l.length) → fleetref2_PropsFault_x3 l i = some (bif l.any (fun q => belB l[i].Name q.Name) then .inr (.inr ()) else .inl (IntKind.wrap .i64 (i + 1))) := by
      intro i hi
      have hc : (i : Int) < l.length := by omega
      unfold fleetref2_PropsFault_x3
      have e : slices_ContainsFunc_api_Prop_api_Prop_f1_fleetref2_PropsFault_1 l (api_Prop.mk l[i].Name (api_Value.mk l[i].Value.Kind l[i].Value.Flag l[i].Value.Number l[i].Value.Words)) = some (l.any fun q => belB l[i].Name q.Name) := refC_is (by omega) (fun q hq => (hK q hq).2.2) l[i]
      simp only [hc, decide_true, cond_true, at_nat hi, Option.bind_some, e]
      cases l.any (fun q => belB l[i].Name q.Name) <;> rfl
    have g1 := range_loop (l := l) (f := twin_CheckProps_x3 l) (fun _ p => bif l.any (fun q => belB p.Name q.Name) then some (.inr () : Unit ⊕ Unit) else none) (.inl ()) (by omega) (fun i hi => by
      rw [f1 i hi]; cases l.any (fun q => belB l[i].Name q.Name) <;> rfl) (by unfold twin_CheckProps_x3; simp)
    have g2 := range_loop (l := l) (f := fleetref2_PropsFault_x3 l) (fun _ p => bif l.any (fun q => belB p.Name q.Name) then some (.inr () : Unit ⊕ Unit) else none) (.inl ()) (by omega) (fun i hi => by
      rw [f2 i hi]; cases l.any (fun q => belB l[i].Name q.Name) <;> rfl) (by unfold fleetref2_PropsFault_x3; simp)
    rw [g1, g2]
    cases hs2 : scan (fun _ p => bif l.any (fun q => belB p.Name q.Name) then some (.inr () : Unit ⊕ Unit) else none) 0 l with
    | some x =>
      cases x with
      | inl _ =>
        have key : ∀ (m : List api_Prop) (k : Nat), scan (fun _ p => bif l.any (fun q => belB p.Name q.Name) then some (.inr () : Unit ⊕ Unit) else none) k m ≠ some (.inl ()) := by
          intro m
          induction m with
          | nil => intro k h; simp [scan] at h
          | cons y m ih =>
            intro k h
            simp only [scan] at h
            cases hb : l.any fun q => belB y.Name q.Name with
            | true => rw [hb] at h; simp at h
            | false => rw [hb] at h; exact ih _ h
        exact absurd hs2 (key _ _)
      | inr _ => exact ⟨13, rfl, rfl, fun h => by cases h⟩
    | none =>
      refine ⟨0, rfl, rfl, fun _ => ⟨hs, fun p hp q hq => ?_, hg⟩⟩
      obtain ⟨i, hi, rfl⟩ := List.mem_iff_getElem.1 hp
      have := scan_none.1 hs2 i l[i] (List.getElem?_eq_getElem hi)
      cases hb : l.any fun q => belB l[i].Name q.Name with
      | true => rw [hb] at this; cases this
      | false =>
        have := List.any_eq_false.1 hb q hq
        simpa using this
end Go.Eng

/-
Properties that streams make, nearly always right ones: names, values, words.
-/
namespace Go.Eng
open Go
set_option linter.unusedVariables false
set_option linter.unusedSimpArgs false

def nm18 : List (List UInt8) := nm7 ++ [[97, 45, 49], [], [65], [97, 46], [46, 97], [97, 46, 46, 98], [97, 46, 98, 46, 99, 46, 100, 46, 101, 46, 102, 46, 103, 46, 104, 46, 105], [97, 32, 98], List.replicate 41 97]
noncomputable def okName (n : List UInt8) : Bool := match twin_isName n, fleetref2_PropName n with
  | some a, some b => a == b
  | _, _ => false
theorem nm18_same : (nm18.all okName) = true := by kernel_rfl
theorem nm18_len : (nm18.all fun n => decide (n.length ≤ 100)) = true := by decide
theorem okName_spec {n : List UInt8} (h : okName n = true) : ∃ b, twin_isName n = some b ∧ fleetref2_PropName n = some b := by
  unfold okName at h
  split at h
  · rename_i a b h1 h2
    have : a = b := by simpa using h
    subst this
    exact ⟨a, h1, h2⟩
  · cases h
def wd11 : List (List UInt8) := [[], [120], [97, 32, 34, 98, 34], [92], [195, 169], [45, 32, 49], [10], [127], [255], [122]]
noncomputable def okWord (w : List UInt8) : Bool := match base_Unmarked w, fleetref2_Printed w with
  | some a, some b => a == b
  | _, _ => false
theorem wd11_same : (wd11.all okWord) = true := by kernel_rfl
theorem okWord_spec {w : List UInt8} (h : w ∈ wd11) : ∃ b, KW w b := by
  have h := List.all_eq_true.1 wd11_same _ h
  unfold okWord at h
  split at h
  · rename_i a b h1 h2
    have : a = b := by simpa using h
    subst this
    exact ⟨a, fun _ => ⟨h1, h2⟩⟩
  · cases h
end Go.Eng

/-
Twins: cells and properties that streams make, nearly always right ones; checks of cells.
-/
namespace Go.Eng
open Go
set_option linter.unusedVariables false
set_option linter.unusedSimpArgs false

theorem twinned_eq : fleetlaw2_twinned = some true := by kernel_rfl
theorem errs3 (a b c : Int) : fleetlaw2_errs [a, b, c] = some (or0 a (or0 b c)) := by
  unfold fleetlaw2_errs or0
  rw [range_loop (l := [a, b, c]) (fun _ x => if x = 0 then none else some (.inr x)) (.inl ()) (by simp)]
  · by_cases ha : a = 0 <;> by_cases hb : b = 0 <;> by_cases hc : c = 0 <;> simp [scan, ha, hb, hc]
  · intro i hi
    unfold fleetlaw2_errs_x1
    have hc : (i : Int) < ([a, b, c] : List Int).length := by omega
    simp only [hc, decide_true, cond_true, at_nat hi, Option.bind_some]
    by_cases h0 : ([a, b, c] : List Int)[i] = 0 <;> simp [h0]
  · unfold fleetlaw2_errs_x1; simp
/-! ### What streams make -/
def KVal (v : api_Value) : Prop := ∃ b, KW v.Words b
theorem kval_in {v : api_Value} (h : v.Words ∈ wd11) : KVal v := okWord_spec h
theorem rv15_words : (rv15.all fun v => wd11.any fun w => decide (w = v.Words)) = true := by kernel_rfl
theorem rv15_in {v : api_Value} (h : v ∈ rv15) : v.Words ∈ wd11 := by
  have := List.all_eq_true.1 rv15_words v h
  obtain ⟨w, hw, h2⟩ := List.any_eq_true.1 this
  have := of_decide_eq_true h2
  rw [← this]; exact hw
theorem rep41 : strings_Repeat [97] 41 = some (List.replicate 41 97) := by kernel_rfl
theorem rep1001 : strings_Repeat [119] 1001 = some (Lib.repeatL [119] 1001) := by
  unfold strings_Repeat
  exact rfl
theorem PropName_ok {k : Nat} {s : fleetmake_Stream} (h : StrOk k s) (hk : k + 10 < 1099511627776) : Ok (fleetmake_Stream_PropName s) (fun n => n ∈ nm18) := by
  unfold fleetmake_Stream_PropName
  have h1 := nxt_mk h (by omega)
  refine (Flip_ok h (by omega) (by unfold I64; omega)).bind fun b _ => .cond (fun _ => ?_) (fun _ => ?_)
  · rw [rep41]
    simp only [Option.bind_some]
    refine (Some_ok h1 (by omega) (by simp) (by simp)).bind fun w hw => .some ?_
    unfold nm18
    simp only [List.mem_cons, List.not_mem_nil, or_false] at hw
    rcases hw with h | h | h | h | h | h | h | h <;> subst h <;> simp
  · refine (Some_ok h1 (by omega) (by simp) (by simp)).bind fun w hw => .some ?_
    unfold nm18 nm7
    simp only [List.mem_cons, List.not_mem_nil, or_false] at hw
    rcases hw with h | h | h | h | h | h | h | h | h | h <;> subst h <;> simp
def Bd (n : Int) : Prop := -2000000000000 ≤ n ∧ n ≤ 2000000000000
theorem OddP_ok {k : Nat} {s : fleetmake_Stream} {lo hi : Int} (h : StrOk k s) (hk : k + 10 < 1099511627776) (h1 : -1000000000 ≤ lo ∧ lo ≤ hi ∧ hi ≤ 1000000000) : Ok (fleetmake_Stream_Odd s lo hi) (fun r => StrOk (k + 2) r.1 ∧ Bd r.2) := by
  unfold fleetmake_Stream_Odd
  have a1 := nxt_mk h (by omega)
  refine (Flip_ok h (by omega) (by unfold I64; omega)).bind fun b _ => .cond (fun _ => ?_) (fun _ => ?_)
  · refine (Pick_ok a1 (by omega) (by simp) (by simp)).bind fun n hn => .some ⟨nxt_mk a1 (by omega), ?_⟩
    have w1 : IntKind.wrap .i64 (lo - 1) = lo - 1 := wrap64 (by omega) (by omega)
    have w2 : IntKind.wrap .i64 (hi + 1) = hi + 1 := wrap64 (by omega) (by omega)
    rw [w1, w2] at hn
    simp only [List.mem_cons, List.not_mem_nil, or_false] at hn
    unfold Bd
    simp only
    omega
  · refine (Range_ok a1 (by omega) (by omega) (by omega)).bind fun ⟨s1, n⟩ ⟨r1, r2, r3, _⟩ => ?_
    simp only at r1 r2 r3
    have r3 := r3 (by omega)
    exact .some ⟨r1, by unfold Bd; simp only; omega⟩
theorem Value_ok {k : Nat} {s : fleetmake_Stream} (h : StrOk k s) (hk : k + 20 < 1099511627776) : Ok (fleetmake_Stream_Value s) (fun r => StrOk (k + 8) r.1 ∧ KVal r.2) := by
  unfold fleetmake_Stream_Value
  have a1 := nxt_mk h (by omega)
  have a2 := nxt_mk a1 (by omega)
  have a3 := nxt_mk a2 (by omega)
  have a4 := nxt_mk a3 (by omega)
  have a5 := nxt_mk a4 (by omega)
  refine (RightValue_in h (by omega)).bind fun v hv => (Flip_ok a2 (by omega) (by unfold I64; omega)).bind fun b _ => .cond (fun _ => ?_) (fun _ => ?_)
  · exact .some ⟨a3.mono (by omega), kval_in (by simp [wd11])⟩
  · have hw := rv15_in hv
    have hx : Ok (fleetmake_Stream_Value_x1 s v) (fun r => StrOk (k + 8) r.1 ∧ KVal r.2) := by
      unfold fleetmake_Stream_Value_x1
      refine (Flip_ok a3 (by omega) (by unfold I64; omega)).bind fun b _ => .cond (fun _ => ?_) (fun _ => .some ⟨a4.mono (by omega), kval_in hw⟩)
      refine (Next_ok a4 (by omega) (by unfold I64; omega)).bind fun n _ => .cond (fun _ => ?_) (fun _ => .cond (fun _ => .some ⟨a5.mono (by omega), kval_in hw⟩) (fun _ => .cond (fun _ => ?_) (fun _ => .cond (fun _ => ?_) (fun _ => ?_))))
      · exact (Pick_ok a5 (by omega) (by simp) (by simp)).bind fun m _ => .some ⟨(nxt_mk a5 (by omega)).mono (by omega), kval_in hw⟩
      · exact (OddP_ok a5 (by omega) (by omega)).bind fun ⟨s1, m⟩ ⟨r1, r2⟩ => .some ⟨r1.mono (by omega), kval_in hw⟩
      · rw [rep1001]
        simp only [Option.bind_some]
        refine (Some_ok a5 (by omega) (by simp) (by simp)).bind fun w hw => .some ⟨(nxt_mk a5 (by omega)).mono (by omega), ?_⟩
        simp only [List.mem_cons, List.not_mem_nil, or_false] at hw
        rcases hw with h | h | h | h
        · subst h; exact kval_in (by simp [wd11])
        · subst h; exact kval_in (by simp [wd11])
        · subst h; exact kval_in (by simp [wd11])
        · refine ⟨true, fun hl => ?_⟩
          rw [h] at hl
          rw [Lib.repeatL_length] at hl
          simp at hl
      · exact .some ⟨a5.mono (by omega), kval_in (by simp [wd11])⟩
    exact hx.bind fun ⟨s1, v1⟩ hr => .some hr
theorem KP_of {p : api_Prop} (hn : p.Name ∈ nm18) (hv : KVal p.Value) : KP p := by
  refine ⟨okName_spec (List.all_eq_true.1 nm18_same _ hn), hv, ?_⟩
  have := of_decide_eq_true (List.all_eq_true.1 nm18_len _ hn)
  omega
theorem nm7_18 {n : List UInt8} (h : n ∈ nm7) : n ∈ nm18 := List.mem_append_left _ h
/-! ### Checks of cells -/
end Go.Eng

/-
The law PropsTell: what is wrong with properties, the value of a name, what is under a name.
-/
namespace Go.Eng
open Go
set_option linter.unusedVariables false
set_option linter.unusedSimpArgs false

theorem sortP_all {P : api_Prop → Prop} {l r : List api_Prop} (h : r.Perm l) (hP : ∀ p ∈ l, P p) : ∀ p ∈ r, P p := fun p hp => hP p (h.mem_iff.1 hp)
/-- a property of which both checks know what to say, made by streams -/
structure KQ (p : api_Prop) : Prop where
  name : p.Name ∈ nm18
  val : KVal p.Value
theorem KQ.kp {p : api_Prop} (h : KQ p) : KP p := KP_of h.name h.val
theorem RP.kq {p : api_Prop} (h : RP p) : KQ p := ⟨nm7_18 h.1, kval_in (rv15_in h.2)⟩
theorem Props_ok {k : Nat} {s : fleetmake_Stream} (h : StrOk k s) (hk : k + 200 < 1099511627776) : Ok (fleetmake_Stream_Props s) (fun r => StrOk (k + 90) r.1 ∧ (∀ p ∈ r.2, KQ p) ∧ r.2.length ≤ 5) := by
  unfold fleetmake_Stream_Props
  refine (RightProps_ok h (by omega)).bind fun ⟨s1, l⟩ ⟨b1, b2⟩ => ?_
  simp only at b1 b2
  have hlen := b2.len
  have hq : ∀ p ∈ l, KQ p := fun p hp => (b2.rp p hp).kq
  have hx : Ok (fleetmake_Stream_Props_x1 s1 l) (fun r => StrOk (k + 90) r.1 ∧ (∀ p ∈ r.2, KQ p) ∧ r.2.length ≤ 5) := by
    unfold fleetmake_Stream_Props_x1
    have a1 := nxt_mk b1 (by omega)
    have a2 := nxt_mk a1 (by omega)
    have a3 := nxt_mk a2 (by omega)
    refine (Flip_ok b1 (by omega) (by unfold I64; omega)).bind fun b _ => .cond (fun _ => ?_) (fun _ => .some ⟨a1.mono (by omega), hq, by simp only; omega⟩)
    refine (PropName_ok a1 (by omega)).bind fun n hn => ?_
    refine (Value_ok a3 (by omega)).bind fun ⟨s2, v⟩ ⟨v1, v2⟩ => ?_
    simp only at v1 v2
    have hall : ∀ p ∈ l ++ [api_Prop.mk n v], KQ p := by
      intro p hp
      rcases List.mem_append.1 hp with hp | hp
      · exact hq p hp
      · rw [List.mem_singleton] at hp; subst hp; exact ⟨hn, v2⟩
    refine .gd (lim_ok (by simp; omega)) ?_
    have a4 := nxt_mk v1 (by omega)
    refine (Flip_ok v1 (by omega) (by unfold I64; omega)).bind fun b _ => .cond (fun _ => ?_) (fun _ => .some ⟨a4.mono (by omega), hall, by simp; omega⟩)
    refine (sortP_ok (by simp; omega)).bind fun r ⟨q1, q2⟩ => ?_
    have hlr : r.length = (l ++ [api_Prop.mk n v]).length := q1.length_eq
    exact .gd (by rw [hlr]; simp) (.some ⟨a4.mono (by omega), sortP_all q1 hall, by simp only; rw [hlr]; simp; omega⟩)
  exact hx.bind fun ⟨s2, v1⟩ hr => .some hr

/-! ### What is under a name -/
/-! ### The value of a name -/
theorem ValueOf_eq {l : List api_Prop} (hl : l.length ≤ 10000) (n : List UInt8) : fleetref2_ValueOf l n = some (vo l n) := by
  unfold fleetref2_ValueOf vo
  rw [range_loop (l := l) (fun _ p => if p.Name = n then some (.inr p.Value) else none) (.inl ()) (by omega)]
  · have key : ∀ (m : List api_Prop) (k : Nat), scan (fun (_ : Nat) (p : api_Prop) => if p.Name = n then some (.inr p.Value : Unit ⊕ api_Value) else none) k m = (m.find? fun p => decide (p.Name = n)).map fun p => .inr p.Value := by
      intro m
      induction m with
      | nil => intro k; rfl
      | cons p m ih =>
        intro k
        simp only [scan]
        by_cases h : p.Name = n
        · simp [h]
        · simp only [h, if_false, List.find?_cons, decide_false]
          exact ih (k + 1)
    rw [key]
    cases l.find? fun p => decide (p.Name = n) <;> rfl
  · intro i hi
    unfold fleetref2_ValueOf_x1
    have hc : (i : Int) < l.length := by omega
    simp only [hc, decide_true, cond_true, at_nat hi, Option.bind_some]
    by_cases h : l[i].Name = n <;> simp [h]
  · unfold fleetref2_ValueOf_x1; simp
end Go.Eng

/-
Changes of properties: what makes one list of another, and back; what two sides made of one base.
-/
namespace Go.Eng
open Go
set_option linter.unusedVariables false
set_option linter.unusedSimpArgs false

/-! ### Names of several lists -/
/-! ### Changes -/
def chL (a b : List api_Prop) (ns : List (List UInt8)) : List api_Change := (ns.filter fun n => !eqV (vo a n) (vo b n)).map fun n => api_Change.mk n (vo a n) (vo b n)
/-! ### Back -/
/-! ### Making changes -/
end Go.Eng

/-
Maps whose keys are strings, as rows of entries in the order of their keys; sorting of what has an order.
-/
namespace Go.Eng
open Go
set_option linter.unusedVariables false
set_option linter.unusedSimpArgs false

section
variable {β : Type}
def KS (l : List (List UInt8 × β)) : Prop := l.Pairwise fun x y => nlt x.1 y.1
theorem ks_keys {l : List (List UInt8 × β)} (h : KS l) : (l.map (·.1)).Nodup := by
  unfold List.Nodup
  rw [List.pairwise_map]
  exact List.Pairwise.imp (fun hab => nlt_ne hab) h
theorem lt_is (a b : List UInt8) : KOrd.lt a b = true ↔ nlt a b := by
  show Op.bytesLess a b = true ↔ _
  rw [cmpB_less, decide_eq_true_iff]
  rfl
theorem aput_mem {l : List (List UInt8 × β)} {k : List UInt8} {v : β} {x : List UInt8 × β} : x ∈ aput l k v ↔ x = (k, v) ∨ (x ∈ l ∧ x.1 ≠ k) := by
  unfold aput
  cases ha : l.any fun e => decide (k = e.1) with
  | true =>
    simp only [cond_true, List.mem_map]
    constructor
    · rintro ⟨e, he, rfl⟩
      by_cases hk : k = e.1
      · simp [hk]
      · simp only [hk, decide_false, cond_false]
        exact .inr ⟨he, fun h => hk h.symm⟩
    · rintro (rfl | ⟨h1, h2⟩)
      · obtain ⟨e, he, hk⟩ := List.any_eq_true.1 ha
        exact ⟨e, he, by rw [hk]; rfl⟩
      · refine ⟨x, h1, ?_⟩
        have : ¬ k = x.1 := fun h => h2 h.symm
        simp [this]
  | false =>
    simp only [cond_false, List.mem_append, List.mem_cons]
    have hno : ∀ y ∈ l, y.1 ≠ k := fun y hy e => by
      have := List.any_eq_false.1 ha y hy
      exact this (by simpa using e.symm)
    have hsp : ∀ y, y ∈ l ↔ y ∈ l.takeWhile (fun e => KOrd.lt e.1 k) ∨ y ∈ l.dropWhile (fun e => KOrd.lt e.1 k) := fun y => by
      rw [← List.mem_append, List.takeWhile_append_dropWhile]
    constructor
    · rintro (h | rfl | h)
      · exact .inr ⟨(hsp x).2 (.inl h), hno x ((hsp x).2 (.inl h))⟩
      · exact .inl rfl
      · exact .inr ⟨(hsp x).2 (.inr h), hno x ((hsp x).2 (.inr h))⟩
    · rintro (rfl | ⟨h, _⟩)
      · exact .inr (.inl rfl)
      · rcases (hsp x).1 h with h | h
        · exact .inl h
        · exact .inr (.inr h)
theorem take_lt {l : List (List UInt8 × β)} {k : List UInt8} : ∀ x ∈ l.takeWhile (fun e => KOrd.lt e.1 k), nlt x.1 k := by
  induction l with
  | nil => intro x hx; simp at hx
  | cons y l ih =>
    intro x hx
    rw [List.takeWhile_cons] at hx
    cases hb : KOrd.lt y.1 k with
    | false => rw [hb] at hx; simp at hx
    | true =>
      rw [hb] at hx
      simp only [if_true, List.mem_cons] at hx
      rcases hx with rfl | hx
      · exact (lt_is _ _).1 hb
      · exact ih x hx
theorem drop_ge {k : List UInt8} : ∀ {l : List (List UInt8 × β)}, KS l → ∀ x ∈ l.dropWhile (fun e => KOrd.lt e.1 k), ¬ nlt x.1 k
  | [], _, x, hx => by simp at hx
  | y :: l, h, x, hx => by
    rw [List.dropWhile_cons] at hx
    obtain ⟨h1, h2⟩ := List.pairwise_cons.1 h
    cases hb : KOrd.lt y.1 k with
    | true =>
      rw [hb] at hx
      exact drop_ge h2 x (by simpa using hx)
    | false =>
      rw [hb] at hx
      simp only [Bool.false_eq_true, if_false, List.mem_cons] at hx
      have hy : ¬ nlt y.1 k := fun hc => by rw [(lt_is _ _).2 hc] at hb; cases hb
      rcases hx with rfl | hx
      · exact hy
      · intro hc
        exact hy (nlt_trans (h1 x hx) hc)
theorem aput_ks {l : List (List UInt8 × β)} (h : KS l) (k : List UInt8) (v : β) : KS (aput l k v) := by
  unfold aput
  cases ha : l.any fun e => decide (k = e.1) with
  | true =>
    simp only [cond_true]
    unfold KS
    rw [List.pairwise_map]
    refine List.Pairwise.imp ?_ h
    intro x y hxy
    have key : ∀ e : List UInt8 × β, (bif decide (k = e.1) then (k, v) else e).1 = e.1 := fun e => by
      by_cases hk : k = e.1
      · simp [hk]
      · simp [hk]
    rw [key, key]
    exact hxy
  | false =>
    simp only [cond_false]
    have hno : ∀ y ∈ l, y.1 ≠ k := fun y hy e => by
      have := List.any_eq_false.1 ha y hy
      exact this (by simpa using e.symm)
    have hgt : ∀ y ∈ l.dropWhile (fun e => KOrd.lt e.1 k), nlt k y.1 := fun y hy => by
      have h1 := drop_ge h y hy
      have h2 := hno y (List.dropWhile_sublist _ |>.subset hy)
      rcases cmpB_cases y.1 k with h3 | h3 | h3
      · exact absurd h3 h1
      · exact absurd h3 h2
      · exact h3
    unfold KS
    rw [List.pairwise_append]
    refine ⟨h.sublist (List.takeWhile_sublist _), List.pairwise_cons.2 ⟨hgt, h.sublist (List.dropWhile_sublist _)⟩, fun x hx y hy => ?_⟩
    have hx' := take_lt x hx
    rcases List.mem_cons.1 hy with rfl | hy
    · exact hx'
    · exact nlt_trans hx' (hgt y hy)
/-- entries put in one after the other -/
theorem puts_ks {γ : Type} (fk : γ → List UInt8) (fv : γ → β) : ∀ (o : List γ) (l : List (List UInt8 × β)), KS l → KS (o.foldl (fun m e => aput m (fk e) (fv e)) l)
  | [], l, h => h
  | e :: o, l, h => puts_ks fk fv o _ (aput_ks h _ _)
theorem puts_mem {γ : Type} (fk : γ → List UInt8) (fv : γ → β) : ∀ (o : List γ) (l : List (List UInt8 × β)), (o.map fk).Nodup → ∀ x, x ∈ o.foldl (fun m e => aput m (fk e) (fv e)) l ↔ (∃ e ∈ o, x = (fk e, fv e)) ∨ (x ∈ l ∧ ∀ e ∈ o, x.1 ≠ fk e)
  | [], l, _, x => by simp
  | e :: o, l, h, x => by
    rw [List.map_cons, List.nodup_cons] at h
    rw [List.foldl_cons, puts_mem fk fv o _ h.2, aput_mem]
    constructor
    · rintro (⟨g, hg, rfl⟩ | ⟨rfl | ⟨h1, h2⟩, h3⟩)
      · exact .inl ⟨g, List.mem_cons_of_mem _ hg, rfl⟩
      · exact .inl ⟨e, List.mem_cons_self .., rfl⟩
      · exact .inr ⟨h1, fun g hg => by
          rcases List.mem_cons.1 hg with rfl | hg
          · exact h2
          · exact h3 g hg⟩
    · rintro (⟨g, hg, rfl⟩ | ⟨h1, h2⟩)
      · rcases List.mem_cons.1 hg with rfl | hg
        · exact .inr ⟨.inl rfl, fun d hd hne => h.1 (List.mem_map.2 ⟨d, hd, hne.symm⟩)⟩
        · exact .inl ⟨g, hg, rfl⟩
      · exact .inr ⟨.inr ⟨h1, h2 e (List.mem_cons_self ..)⟩, fun g hg => h2 g (List.mem_cons_of_mem _ hg)⟩
end

/-! ### Sorting of what has an order -/
section
variable {α : Type}
end
end Go.Eng

/-
Changes of properties, nearly always right ones: the code and the reference do the same.
-/
namespace Go.Eng
open Go
set_option linter.unusedVariables false
set_option linter.unusedSimpArgs false

/-! ### Names of two lists -/
def s18 : List (List UInt8) := [[], [46, 97], [65], [97], [97, 32, 98], [97, 45, 49], [97, 46], [97, 46, 46, 98], [97, 46, 98, 46, 99, 46, 100, 46, 101, 46, 102, 46, 103, 46, 104, 46, 105], [97, 46, 120], [97, 46, 120, 46, 112], [97, 46, 121], List.replicate 41 97, [97, 98], [98], [98, 46, 122]]
def rk18 (n : List UInt8) : Int := ((s18.takeWhile fun x => !decide (x = n)).length : Int)
theorem rk18_all : (nm18.all fun x => nm18.all fun y => (decide (Lib.compareBytes x y ≤ 0) == decide (rk18 x ≤ rk18 y)) && (decide (Lib.compareBytes x y < 0) == decide (rk18 x < rk18 y)) && (decide (rk18 x = rk18 y) == decide (x = y))) = true := by kernel_rfl
theorem rk18_spec {x y : List UInt8} (hx : x ∈ nm18) (hy : y ∈ nm18) : (Lib.compareBytes x y ≤ 0 ↔ rk18 x ≤ rk18 y) ∧ (nlt x y ↔ rk18 x < rk18 y) ∧ (rk18 x = rk18 y ↔ x = y) := by
  have := List.all_eq_true.1 (List.all_eq_true.1 rk18_all x hx) y hy
  simp only [Bool.and_eq_true, beq_iff_eq, decide_eq_decide] at this
  exact ⟨this.1.1, this.1.2, this.2⟩
theorem names18 {Ls : List (List api_Prop)} (hLs : Ls.length ≤ 100) (hl : (Ls.flatMap (List.map api_Prop.Name)).length ≤ 15) (hn : ∀ l ∈ Ls, ∀ p ∈ l, p.Name ∈ nm18) :
    ∃ r, twin_names_o0 Ls = some r ∧ r.length ≤ (Ls.flatMap (List.map api_Prop.Name)).length ∧ r.Pairwise nlt ∧ ∀ n ∈ r, n ∈ nm18 ∧ ∃ l ∈ Ls, ∃ p ∈ l, p.Name = n := by
  have hmem : ∀ n, n ∈ Ls.flatMap (List.map api_Prop.Name) ↔ ∃ l ∈ Ls, ∃ p ∈ l, p.Name = n := by
    intro n
    simp only [List.mem_flatMap, List.mem_map]
  have hin : All (fun n => n ∈ nm18 ∧ n ∈ Ls.flatMap (List.map api_Prop.Name)) (Ls.flatMap (List.map api_Prop.Name)) := by
    intro n hn'
    refine ⟨?_, hn'⟩
    obtain ⟨l, hl, p, hp, rfl⟩ := (hmem n).1 hn'
    exact hn l hl p hp
  have e : loopO (twin_names_o0_x1 Ls) ([], 0) = some (Ls.flatMap (List.map api_Prop.Name)) := by
    have := fold_loop0 (l := Ls) (f := twin_names_o0_x1 Ls) (fun (s : List (List UInt8)) i => (s, i)) (fun s a => s ++ a.map api_Prop.Name) id (fun i s => s.length + ((Ls.drop i).flatMap (List.map api_Prop.Name)).length ≤ 15) (s0 := []) (by omega)
      (fun i hi s hs => by
        have hc : (i : Int) < Ls.length := by omega
        rw [List.drop_eq_getElem_cons hi, List.flatMap_cons, List.length_append, List.length_map] at hs
        refine ⟨?_, by rw [List.length_append, List.length_map]; omega⟩
        unfold twin_names_o0_x1
        simp only [hc, decide_true, cond_true, at_nat hi, Option.bind_some]
        rw [names2_eq (by omega)]
        rfl)
      (fun s _ => by unfold twin_names_o0_x1; simp) (by simpa using hl)
    rw [this.1]
    have key : ∀ (m : List (List api_Prop)) (s : List (List UInt8)), m.foldl (fun s a => s ++ a.map api_Prop.Name) s = s ++ m.flatMap (List.map api_Prop.Name) := by
      intro m
      induction m with
      | nil => intro s; simp
      | cons y m ih => intro s; rw [List.foldl_cons, ih, List.flatMap_cons, List.append_assoc]
    rw [key]
    rfl
  generalize Ls.flatMap (List.map api_Prop.Name) = N at hl hmem hin e
  obtain ⟨m, m0, ⟨m1, m2, m3⟩, m4⟩ := sortS_ok hl hin
  obtain ⟨r, r0, ⟨r1, r2, r3⟩, r4⟩ := gCom_key2 (P := fun n => n ∈ nm18 ∧ n ∈ N) (t := fun a b => some (decide (a = b))) (kf := rk18) (fun x y hx hy => ⟨_, rfl, by rw [decide_eq_true_iff]; exact (rk18_spec hx.1 hy.1).2.2.symm⟩) (z := []) (l := m) (by omega) m2 (fun p q hpq hq =>
    (rk18_spec (m2 _ (List.getElem_mem (show p < m.length by omega))).1 (m2 _ (List.getElem_mem hq)).1).1.1 (m3 p q hpq (by omega) (by omega)))
  refine ⟨r, ?_, by omega, ?_, fun n h => ⟨(r2 n h).1, (hmem n).1 (r2 n h).2⟩⟩
  · unfold twin_names_o0
    rw [e]
    simp only [Option.bind_some, m0, comS_eq]
    rw [show (m.length == N.length) = true by simp [m1]]
    simp only [gd, r0, Option.bind_some, cond_true]
  · refine List.Pairwise.imp_of_mem ?_ r3
    intro x y hx hy hxy
    exact (rk18_spec (r2 x hx).1 (r2 y hy).1).2.1.2 hxy
theorem namesOf_eq : fleetref2_namesOf_o0 = twin_names_o0 := by kernel_rfl

/-! ### What differs -/
theorem refDiff_loop {a b : List api_Prop} {ns : List (List UInt8)} (ha : a.length ≤ 1000) (hb : b.length ≤ 1000) (hns : ns.length ≤ 1000) : loopO (fleetref2_DifferOf_o1_x1 a b ns) ([], 0) = some (chL a b ns) := by
  have := fold_loop0 (l := ns) (f := fleetref2_DifferOf_o1_x1 a b ns) (fun (s : List api_Change) i => (s, i)) (fun s n => bif !eqV (vo a n) (vo b n) then s ++ [api_Change.mk n (vo a n) (vo b n)] else s) id (fun i s => s.length ≤ i) (s0 := []) (by omega)
    (fun i hi s hs => by
      have hc : (i : Int) < ns.length := by omega
      refine ⟨?_, by cases (!eqV (vo a ns[i]) (vo b ns[i])) <;> simp <;> omega⟩
      unfold fleetref2_DifferOf_o1_x1 fleetref2_DifferOf_o1_x2
      simp only [hc, decide_true, cond_true, at_nat hi, Option.bind_some, ValueOf_eq (show a.length ≤ 10000 by omega), ValueOf_eq (show b.length ≤ 10000 by omega)]
      show (Option.bind (bif !eqV (vo a ns[i]) (vo b ns[i]) then _ else _) _) = _
      cases (!eqV (vo a ns[i]) (vo b ns[i])) with
      | false => rfl
      | true =>
        simp only [cond_true, gd]
        rw [lim_ok (by simp; omega)]
        rfl)
    (fun s _ => by unfold fleetref2_DifferOf_o1_x1; simp) (by simp)
  rw [this.1, foldl_filter]
  rfl
theorem vo_val {l : List api_Prop} (h : ∀ p ∈ l, KQ p) (n : List UInt8) : KVal (vo l n) := by
  unfold vo
  cases hf : l.find? fun p => decide (p.Name = n) with
  | none => exact kval_in (by simp [wd11, zV])
  | some p => exact (h p (List.mem_of_find?_eq_some hf)).val
/-- a change of which both checks know what to say -/
structure KH (c : api_Change) : Prop where
  name : c.Name ∈ nm18
  frm : KVal c.From
  to_ : KVal c.To
theorem diff_o1 : fleetref2_DifferOf_o1 = fleetref2_DifferOf_o1 := by kernel_rfl
theorem two_flat (a b : List api_Prop) : ([a, b].flatMap (List.map api_Prop.Name)).length = a.length + b.length := by simp
theorem Diff_ok {a b : List api_Prop} (ha : ∀ p ∈ a, KQ p) (hb : ∀ p ∈ b, KQ p) (hl : a.length + b.length ≤ 12) :
    ∃ ns, twin_names_o0 [a, b] = some ns ∧ ns.length ≤ a.length + b.length ∧ fleetref2_DifferOf_o1 a b = some (chL a b ns) ∧ (∀ c ∈ chL a b ns, KH c ∧ ((∃ p ∈ a, p.Name = c.Name) ∨ ∃ p ∈ b, p.Name = c.Name)) ∧ (chL a b ns).length ≤ a.length + b.length := by
  obtain ⟨ns, h1, h2, h3, h4⟩ := names18 (Ls := [a, b]) (by simp) (by rw [two_flat]; omega) (by
    intro l hl p hp
    simp only [List.mem_cons, List.not_mem_nil, or_false] at hl
    rcases hl with rfl | rfl
    · exact (ha p hp).name
    · exact (hb p hp).name)
  rw [two_flat] at h2
  refine ⟨ns, h1, h2, ?_, fun c hc => ?_, ?_⟩
  · unfold fleetref2_DifferOf_o1
    rw [namesOf_eq, h1]
    simp only [Option.bind_some]
    rw [refDiff_loop (by omega) (by omega) (by omega)]
    rfl
  · obtain ⟨n, hn, rfl⟩ := List.mem_map.1 hc
    have hn := (List.mem_filter.1 hn).1
    obtain ⟨q1, l, hl, p, hp, q2⟩ := h4 n hn
    refine ⟨⟨q1, vo_val ha n, vo_val hb n⟩, ?_⟩
    simp only [List.mem_cons, List.not_mem_nil, or_false] at hl
    rcases hl with rfl | rfl
    · exact .inl ⟨p, hp, q2⟩
    · exact .inr ⟨p, hp, q2⟩
  · unfold chL
    rw [List.length_map]
    exact Nat.le_trans (List.length_filter_le _ _) h2

/-! ### Changes that streams make -/
structure CS (a : List api_Prop) (C : List api_Change) : Prop where
  kh : ∀ c ∈ C, KH c
  len : C.length ≤ 9
  few : ∃ N : List (List UInt8), N.length ≤ 10 ∧ (∀ p ∈ a, p.Name ∈ N) ∧ ∀ c ∈ C, c.Name ∈ N
theorem cs_set {a : List api_Prop} {C : List api_Change} {N : List (List UInt8)} (h : ∀ c ∈ C, KH c) (hl : C.length ≤ 9) (hN : N.length ≤ 9) (h1 : ∀ p ∈ a, p.Name ∈ N) (h2 : ∀ c ∈ C, c.Name ∈ N) {i : Nat} {c : api_Change} (hc : KH c) : CS a (C.set i c) := by
  refine ⟨fun d hd => ?_, by simpa using hl, c.Name :: N, by simp; omega, fun p hp => List.mem_cons_of_mem _ (h1 p hp), fun d hd => ?_⟩
  · rcases List.mem_or_eq_of_mem_set hd with hd | rfl
    · exact h d hd
    · exact hc
  · rcases List.mem_or_eq_of_mem_set hd with hd | rfl
    · exact List.mem_cons_of_mem _ (h2 d hd)
    · exact List.mem_cons_self ..
theorem Changes_ok {k : Nat} {s : fleetmake_Stream} (h : StrOk k s) (hk : k + 200 < 1099511627776) {a : List api_Prop} (ha : ∀ p ∈ a, KQ p) (hla : a.length ≤ 5) : Ok (fleetmake_Stream_Changes s a) (fun r => StrOk (k + 90) r.1 ∧ CS a r.2) := by
  unfold fleetmake_Stream_Changes
  refine (RightProps_ok h (by omega)).bind fun ⟨s1, b⟩ ⟨b1, b2⟩ => ?_
  simp only at b1 b2
  have hlb := b2.len
  obtain ⟨ns, d1, d2, d3, d4, d5⟩ := Diff_ok ha (fun p hp => (b2.rp p hp).kq) (show a.length + b.length ≤ 12 by omega)
  dsimp only
  rw [diff_o1, d3]
  simp only [Option.bind_some]
  generalize chL a b ns = C at d3 d4 d5
  have hkh : ∀ c ∈ C, KH c := fun c hc => (d4 c hc).1
  have hNl : (a.map api_Prop.Name ++ b.map api_Prop.Name).length ≤ 9 := by simp; omega
  have hN1 : ∀ p ∈ a, p.Name ∈ a.map api_Prop.Name ++ b.map api_Prop.Name := fun p hp => List.mem_append_left _ (List.mem_map.2 ⟨p, hp, rfl⟩)
  have hN2 : ∀ c ∈ C, c.Name ∈ a.map api_Prop.Name ++ b.map api_Prop.Name := fun c hc => by
    rcases (d4 c hc).2 with ⟨p, hp, e⟩ | ⟨p, hp, e⟩
    · exact List.mem_append_left _ (List.mem_map.2 ⟨p, hp, e⟩)
    · exact List.mem_append_right _ (List.mem_map.2 ⟨p, hp, e⟩)
  generalize a.map api_Prop.Name ++ b.map api_Prop.Name = N at hNl hN1 hN2
  have hCl : C.length ≤ 9 := by omega
  have hC : CS a C := ⟨hkh, hCl, N, by omega, hN1, hN2⟩
  have hx : Ok (fleetmake_Stream_Changes_x1 s1 C) (fun r => StrOk (k + 90) r.1 ∧ CS a r.2) := by
    unfold fleetmake_Stream_Changes_x1
    have hx2 : Ok (fleetmake_Stream_Changes_x2 s1 C) (fun r => StrOk (k + 61) r.1 ∧ (r.2 = true → 0 < C.length)) := by
      unfold fleetmake_Stream_Changes_x2
      refine .cond (fun hp => ?_) (fun _ => .some ⟨b1.mono (by omega), by simp⟩)
      have hp : 0 < (C.length : Int) := by simpa using hp
      exact (Flip_ok b1 (by omega) (by unfold I64; omega)).bind fun b _ => .some ⟨nxt_mk b1 (by omega), fun _ => by omega⟩
    refine hx2.bind fun ⟨s2, f⟩ ⟨f1, f2⟩ => ?_
    simp only at f1 f2
    refine .cond (fun hf => ?_) (fun _ => .some ⟨f1.mono (by omega), hC⟩)
    have hpos := f2 hf
    refine (Next_ok f1 (by omega) (by unfold I64; omega)).bind fun i hi => ?_
    have hi := hi.1 (by omega)
    refine (at_mem hi.1 hi.2).bind fun c hc => ?_
    have hcc := hkh c hc
    have a1 := nxt_mk f1 (by omega)
    have a2 := nxt_mk a1 (by omega)
    have a3 := nxt_mk a2 (by omega)
    have a4 := nxt_mk a3 (by omega)
    refine (Next_ok a1 (by omega) (by unfold I64; omega)).bind fun n _ => .cond (fun _ => ?_) (fun _ => .cond (fun _ => ?_) (fun _ => .cond (fun _ => ?_) (fun _ => ?_)))
    · exact (PropName_ok a2 (by omega)).bind fun m hm => .some ⟨a4.mono (by omega), cs_set hkh hCl hNl hN1 hN2 ⟨hm, hcc.frm, hcc.to_⟩⟩
    · exact (Value_ok a2 (by omega)).bind fun ⟨s3, v⟩ ⟨v1, v2⟩ => .some ⟨v1.mono (by omega), cs_set hkh hCl hNl hN1 hN2 ⟨hcc.name, v2, hcc.to_⟩⟩
    · exact (Value_ok a2 (by omega)).bind fun ⟨s3, v⟩ ⟨v1, v2⟩ => .some ⟨v1.mono (by omega), cs_set hkh hCl hNl hN1 hN2 ⟨hcc.name, hcc.frm, v2⟩⟩
    · exact .some ⟨a2.mono (by omega), cs_set hkh hCl hNl hN1 hN2 ⟨hcc.name, hcc.to_, hcc.to_⟩⟩
  exact hx.bind fun ⟨s2, v1⟩ hr => .some hr

/-! ### Checks of changes -/
end Go.Eng

/-
The law ChangesMade: what differs, what is wrong with changes, making changes, and turning them round.
-/
namespace Go.Eng
open Go
set_option linter.unusedVariables false
set_option linter.unusedSimpArgs false

/-- the values of properties as a map -/
def vM (a : List api_Prop) : List (List UInt8 × api_Value) := a.foldl (fun m p => aput m p.Name p.Value) []
theorem vM_ks (a : List api_Prop) : KS (vM a) := puts_ks (fun p : api_Prop => p.Name) (fun p => p.Value) a [] List.Pairwise.nil
theorem refPut0 {a : List api_Prop} (hl : a.length ≤ 1000) : loopO (fleetref2_ApplyOf_o1_x1 a) (([] : List (List UInt8 × api_Value)), 0) = some (vM a) := by
  have := fold_loop0 (l := a) (f := fleetref2_ApplyOf_o1_x1 a) (fun (s : List (List UInt8 × api_Value)) i => (s, i)) (fun m p => aput m p.Name p.Value) id (fun _ _ => True) (s0 := []) (by omega)
    (fun i hi s _ => by
      have hc : (i : Int) < a.length := by omega
      refine ⟨?_, trivial⟩
      unfold fleetref2_ApplyOf_o1_x1
      simp only [hc, decide_true, cond_true, at_nat hi, Option.bind_some])
    (fun s _ => by unfold fleetref2_ApplyOf_o1_x1; simp) trivial
  rw [this.1]
  rfl
/-! ### The list that is made -/
theorem nodup_few {α : Type} : ∀ {l m : List α}, l.Nodup → (∀ x ∈ l, x ∈ m) → l.length ≤ m.length
  | [], m, _, _ => by simp
  | x :: l, m, h, hs => by
    rw [List.nodup_cons] at h
    obtain ⟨s, t, rfl⟩ := List.append_of_mem (hs x (List.mem_cons_self ..))
    have := nodup_few (l := l) (m := s ++ t) h.2 fun y hy => by
      have h1 := hs y (List.mem_cons_of_mem _ hy)
      have h2 : y ≠ x := fun e => h.1 (e ▸ hy)
      simp only [List.mem_append, List.mem_cons] at h1 ⊢
      rcases h1 with h1 | h1 | h1
      · exact .inl h1
      · exact absurd h1 h2
      · exact .inr h1
    simp only [List.length_append, List.length_cons] at this ⊢
    omega
theorem from_rng : ∀ (zo : List (List UInt8 × api_Value)) (s : List api_Prop), s.length + zo.length ≤ 1000 → rngO fleetref2_fromValues_x1 zo s = some (s ++ (zo.filter fun e => !decide (e.2.Kind = 0)).map fun e => api_Prop.mk e.1 e.2)
  | [], s, _ => by simp [rngO, fleetref2_fromValues_x1]
  | e :: zo, s, h => by
    have hx : fleetref2_fromValues_x1 (some e) s = some (.inl (bif !decide (e.2.Kind = 0) then s ++ [api_Prop.mk e.1 e.2] else s)) := by
      unfold fleetref2_fromValues_x1
      simp only
      cases decide (e.2.Kind = 0) with
      | true => rfl
      | false =>
        simp only [Bool.not_false, cond_true, gd]
        rw [lim_ok (by simp at h ⊢; omega)]
        rfl
    rw [rngO, hx]
    simp only [Option.bind_some]
    rw [from_rng zo _ (by simp at h; cases decide (e.2.Kind = 0) <;> simp <;> omega), List.filter_cons]
    cases decide (e.2.Kind = 0) <;> simp
theorem sortV_eq : slices_SortFunc_api_Prop_api_Prop_o0_f1_fleetref2_fromValues_1 = slices_SortFunc_api_Prop_api_Prop_o0_f1_fleetmake_propOrder := by kernel_rfl
end Go.Eng

/-
Properties of three lists: what is made of a map of values; how many names there are.
-/
namespace Go.Eng
open Go
set_option linter.unusedVariables false
set_option linter.unusedSimpArgs false

def cls5 (n : List UInt8) : Nat := if n = [97] ∨ n = [97, 46, 120] ∨ n = [97, 46, 120, 46, 112] then 1 else if n = [97, 46, 121] then 2 else if n = [97, 45, 49] then 3 else if n = [97, 98] then 4 else 5
def nm8b : List (List UInt8) := [[97], [97, 46, 120], [97, 46, 121], [97, 46, 120, 46, 112], [98], [98, 46, 122], [97, 98], [97, 45, 49]]
theorem nm18_8b : (nm18.all fun n => !decide (twin_isName n = some true) || nm8b.any fun m => decide (m = n)) = true := by kernel_rfl
theorem cls5_all : (nm8b.all fun n => nm8b.all fun m => !(decide (Lib.compareBytes n m < 0)) || belB m n || belB n m || !decide (cls5 n = cls5 m)) = true := by decide
theorem cls5_in : (nm8b.all fun n => decide (cls5 n ∈ [1, 2, 3, 4, 5])) = true := by decide
theorem few5 {l : List api_Prop} (hg : PGood l) (hq : ∀ p ∈ l, KQ p) : l.length ≤ 5 := by
  have hnm : ∀ p ∈ l, p.Name ∈ nm8b := by
    intro p hp
    have := List.all_eq_true.1 nm18_8b _ (hq p hp).name
    rw [(hg.gp p hp).1] at this
    simp only [decide_true, Bool.not_true, Bool.false_or, List.any_eq_true] at this
    obtain ⟨m, hm, e⟩ := this
    rw [← of_decide_eq_true e]; exact hm
  have hnd : (l.map fun p => cls5 p.Name).Nodup := by
    unfold List.Nodup
    rw [List.pairwise_map]
    refine List.Pairwise.imp_of_mem ?_ hg.srt
    intro p q hp hq' hpq
    have h := List.all_eq_true.1 (List.all_eq_true.1 cls5_all _ (hnm p hp)) _ (hnm q hq')
    have hlt : Lib.compareBytes p.Name q.Name < 0 := hpq
    simp only [hlt, decide_true, hg.anti p hp q hq', hg.anti q hq' p hp, Bool.not_true, Bool.false_or, Bool.not_eq_true', decide_eq_false_iff_not] at h
    exact h
  have := nodup_few hnd (m := [1, 2, 3, 4, 5]) fun x hx => by
    obtain ⟨p, hp, rfl⟩ := List.mem_map.1 hx
    exact of_decide_eq_true (List.all_eq_true.1 cls5_in _ (hnm p hp))
  simpa using this
def frL (M : List (List UInt8 × api_Value)) : List api_Prop := (M.filter fun e => !decide (e.2.Kind = 0)).map fun e => api_Prop.mk e.1 e.2
theorem from_gen {M : List (List UInt8 × api_Value)} (hks : KS M) (hl : M.length ≤ 12) (hq : ∀ e ∈ M, KQ (api_Prop.mk e.1 e.2)) :
    ∃ r e, r.Perm (frL M) ∧ PSrt r ∧ (∀ p ∈ r, KQ p) ∧ fleetref2_PropsFault r = some e ∧ twin_CheckProps r = some e ∧ (e = 0 → PGood r) ∧ fleetref2_fromValues M = some (if e = 0 then (r, 0) else ([], e)) := by
  have names : ∀ {zo : List (List UInt8 × api_Value)}, zo.Perm M → ((frL zo).map api_Prop.Name).Nodup := by
    intro zo hzo
    have hzk : (zo.map (·.1)).Nodup := ((hzo.map (·.1)).nodup_iff).2 (ks_keys hks)
    unfold frL
    rw [List.map_map]
    exact (List.Sublist.map _ List.filter_sublist).nodup hzk
  have hfl : ∀ {zo : List (List UInt8 × api_Value)}, zo.Perm M → (frL zo).length ≤ 12 := by
    intro zo hzo
    unfold frL
    rw [List.length_map]
    exact Nat.le_trans (List.length_filter_le _ _) (by rw [hzo.length_eq]; exact hl)
  obtain ⟨r, q0, q1, q2⟩ := sortP_ok (l := frL M) (hfl (List.Perm.refl _))
  have hrs : PSrt r := psrt_of q2 (((q1.map api_Prop.Name).nodup_iff).2 (names (List.Perm.refl _)))
  have hrq : ∀ p ∈ r, KQ p := fun p hp => by
    have := q1.mem_iff.1 hp
    unfold frL at this
    obtain ⟨e, he, rfl⟩ := List.mem_map.1 this
    exact hq e (List.mem_filter.1 he).1
  have hrl : r.length ≤ 12 := by rw [q1.length_eq]; exact hfl (List.Perm.refl _)
  obtain ⟨e, e1, e2, e3⟩ := checks (l := r) (by omega) fun p hp => (hrq p hp).kp
  refine ⟨r, e, q1, hrs, hrq, e2, e1, e3, ?_⟩
  unfold fleetref2_fromValues
  refine allPerm_intro fun zo hzo => ?_
  rw [from_rng zo [] (by have := hzo.length_eq; simp; omega)]
  have hpm : (frL zo).Perm (frL M) := (hzo.filter _).map _
  obtain ⟨r2, p0, p1, p2⟩ := sortP_ok (l := frL zo) (hfl hzo)
  have hr2 : r2 = r := by
    have : (r2.map api_Prop.Name).Nodup := ((p1.map api_Prop.Name).nodup_iff).2 (names hzo)
    exact pext (psrt_of p2 this) hrs fun p => (p1.trans (hpm.trans q1.symm)).mem_iff
  subst hr2
  have p0' : slices_SortFunc_api_Prop_api_Prop_o0_f1_fleetmake_propOrder ((zo.filter fun e => !decide (e.2.Kind = 0)).map fun e => api_Prop.mk e.1 e.2) = some r2 := p0
  simp only [Option.bind_some, List.nil_append, sortV_eq, p0', gd]
  rw [show (r2.length == ((zo.filter fun e => !decide (e.2.Kind = 0)).map fun e => api_Prop.mk e.1 e.2).length) = true by have := p1.length_eq; unfold frL at this; rw [this]; simp]
  simp only [cond_true, e2, Option.bind_some]
  by_cases h0 : e = 0
  · simp [h0]
  · simp [h0]
/-- changes that are made, whatever they are -/
theorem ApplyOf_tot {a : List api_Prop} {C : List api_Change} (hq : ∀ p ∈ a, KQ p) (hl : a.length ≤ 5) (hC : CS a C) : Ok (fleetref2_ApplyOf_o1 a C) (fun r => (∀ p ∈ r.1, KQ p) ∧ r.1.length ≤ 12) := by
  obtain ⟨N, n1, n2, n3⟩ := hC.few
  have hCl := hC.len
  unfold fleetref2_ApplyOf_o1
  rw [refPut0 (by omega)]
  simp only [Option.bind_some]
  have hvm : ∀ (l : List api_Prop) (m : List (List UInt8 × api_Value)), (∀ p ∈ l, KQ p ∧ p.Name ∈ N) → (∀ e ∈ m, KQ (api_Prop.mk e.1 e.2) ∧ e.1 ∈ N) → ∀ e ∈ l.foldl (fun m p => aput m p.Name p.Value) m, KQ (api_Prop.mk e.1 e.2) ∧ e.1 ∈ N := by
    intro l
    induction l with
    | nil => intro m _ h; exact h
    | cons p l ih =>
      intro m h1 h2
      refine ih _ (fun q hq => h1 q (List.mem_cons_of_mem _ hq)) fun e he => ?_
      rcases aput_mem.1 he with rfl | ⟨he, _⟩
      · exact h1 p (List.mem_cons_self ..)
      · exact h2 e he
  have hv0 := hvm a [] (fun p hp => ⟨hq p hp, n2 p hp⟩) (fun e he => by cases he)
  have loop : Ok (loopO (fleetref2_ApplyOf_o1_x2 C) (vM a, 0)) (fun r => match r with | .inl M => KS M ∧ ∀ e ∈ M, KQ (api_Prop.mk e.1 e.2) ∧ e.1 ∈ N | .inr _ => True) := by
    refine loop_ok (fun s : List (List UInt8 × api_Value) × Int => ∃ i : Nat, s.2 = (i : Int) ∧ i ≤ C.length ∧ KS s.1 ∧ ∀ e ∈ s.1, KQ (api_Prop.mk e.1 e.2) ∧ e.1 ∈ N) (fun s => ((C.length : Int) - s.2).toNat) ?_ ⟨0, rfl, by omega, vM_ks a, hv0⟩
    rintro ⟨M, q⟩ ⟨i, rfl, i1, hk, hM⟩
    simp only at hk hM
    unfold fleetref2_ApplyOf_o1_x2
    by_cases hi : i < C.length
    · have hc : (i : Int) < C.length := by omega
      have w1 : IntKind.wrap .i64 ((i : Int) + 1) = ((i + 1 : Nat) : Int) := by rw [wrap64 (by omega) (by omega)]; omega
      simp only [hc, decide_true, cond_true, at_nat hi, Option.bind_some]
      refine .cond (fun _ => .some trivial) (fun _ => .some ⟨⟨i + 1, w1, by omega, aput_ks hk _ _, fun e he => ?_⟩, ?_⟩)
      · have hci := List.getElem_mem hi
        rcases aput_mem.1 he with rfl | ⟨he, _⟩
        · exact ⟨⟨(hC.kh _ hci).name, (hC.kh _ hci).to_⟩, n3 _ hci⟩
        · exact hM e he
      · show ((C.length : Int) - IntKind.wrap .i64 ((i : Int) + 1)).toNat < ((C.length : Int) - (i : Int)).toNat
        rw [w1]; omega
    · have hc : ¬ (i : Int) < C.length := by omega
      simp only [hc, decide_false, cond_false]
      exact .some ⟨hk, hM⟩
  refine loop.bind fun x hx => ?_
  cases x with
  | inr _ => exact .some ⟨fun p hp => (nomatch hp), by simp⟩
  | inl M =>
    obtain ⟨hk, hM⟩ := hx
    have hl : M.length ≤ 10 := by
      have := nodup_few (ks_keys hk) (m := N) fun n hn => by
        obtain ⟨e, he, rfl⟩ := List.mem_map.1 hn
        exact (hM e he).2
      rw [List.length_map] at this
      omega
    obtain ⟨r, e, q1, q2, q3, _, _, _, q7⟩ := from_gen hk (by omega) fun e he => (hM e he).1
    simp only [q7, Option.bind_some]
    have hrl : r.length ≤ 12 := by
      rw [q1.length_eq]
      unfold frL
      rw [List.length_map]
      exact Nat.le_trans (List.length_filter_le _ _) (by omega)
    by_cases h0 : e = 0
    · rw [if_pos h0]; exact .some ⟨q3, hrl⟩
    · rw [if_neg h0]; exact .some ⟨fun p hp => (nomatch hp), by simp⟩
end Go.Eng

