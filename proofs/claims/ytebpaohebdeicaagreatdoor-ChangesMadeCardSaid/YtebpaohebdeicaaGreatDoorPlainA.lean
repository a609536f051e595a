/-
What the plain functions of the law ChangesMade answer, part 1.
-/
import Derived.Test.YtebpaohebdeicaaGreatDoorGenF
import Derived.KernelRfl
import Derived.Test.YtebpaohebdeicaaGreatDoorEngV
/-
Plain functions: what they answer, in total. Loops by an invariant and a measure.
-/
namespace Go.Eng
open Go
set_option linter.unusedVariables false
set_option linter.unusedSimpArgs false

def Ok {α : Type} (x : Option α) (P : α → Prop) : Prop := ∃ r, x = some r ∧ P r
section
variable {α β σ ρ : Type} {P Q : α → Prop} {R : β → Prop}
theorem Ok.some {r : α} (h : P r) : Ok (some r) P := ⟨r, rfl, h⟩
theorem Ok.mono {x : Option α} (h : Ok x P) (hq : ∀ r, P r → Q r) : Ok x Q := let ⟨r, h1, h2⟩ := h; ⟨r, h1, hq r h2⟩
theorem Ok.bind {x : Option α} {f : α → Option β} (h : Ok x P) (hf : ∀ r, P r → Ok (f r) R) : Ok (x.bind f) R := by
  obtain ⟨r, rfl, hr⟩ := h
  exact hf r hr
theorem Ok.cond {b : Bool} {x y : Option α} (ht : b = true → Ok x P) (hf : b = false → Ok y P) : Ok (cond b x y) P := by
  cases b
  · exact hf rfl
  · exact ht rfl
theorem Ok.gd {b : Bool} {x : Option α} (hb : b = true) (h : Ok x P) : Ok (gd b x) P := by
  subst hb; exact h
theorem Ok.eq {x : Option α} {r : α} (h : Ok x fun y => y = r) : x = Option.some r := by
  obtain ⟨y, h1, h2⟩ := h
  rw [h1, h2]
theorem Ok.of_eq {x : Option α} {r : α} (h : x = Option.some r) (hp : P r) : Ok x P := ⟨r, h, hp⟩

theorem loop_ok {f : σ → Option (σ ⊕ ρ)} {Q : ρ → Prop} (I : σ → Prop) (μ : σ → Nat)
    (step : ∀ s, I s → Ok (f s) fun x => match x with | .inl s' => I s' ∧ μ s' < μ s | .inr r => Q r) {s : σ} (h : I s) : Ok (loopO f s) Q := by
  generalize hn : μ s = n
  induction n using Nat.strongRecOn generalizing s with
  | _ n ih =>
    obtain ⟨x, h1, h2⟩ := step s h
    cases x with
    | inl s' =>
      obtain ⟨h3, h4⟩ := h2
      obtain ⟨r, h5, h6⟩ := ih (μ s') (by omega) h3 rfl
      refine ⟨r, ?_, h6⟩
      rw [loopO_eq, h1]
      exact h5
    | inr r =>
      refine ⟨r, ?_, h2⟩
      rw [loopO_eq, h1]
      rfl

theorem at_lt {l : List α} {n : Int} (h : 0 ≤ n) (h2 : n < l.length) : at? l n = Option.some (l[n.toNat]'(by omega)) := by
  unfold at?
  rw [if_pos h, List.getElem?_eq_getElem]
theorem at_nat {l : List α} {n : Nat} (h : n < l.length) : at? l (n : Int) = Option.some l[n] := by
  rw [at_lt (by omega) (by omega)]
  simp
theorem at_ok {l : List α} {n : Int} (h : 0 ≤ n) (h2 : n < l.length) : Ok (at? l n) (fun y => l[n.toNat]? = Option.some y) := by
  refine ⟨_, at_lt h h2, ?_⟩
  rw [List.getElem?_eq_getElem]
theorem at_mem {l : List α} {n : Int} (h : 0 ≤ n) (h2 : n < l.length) : Ok (at? l n) (fun y => y ∈ l) := by
  refine (at_ok h h2).mono fun y hy => List.mem_of_getElem? hy
end

/-! ### Integers of 64 bits -/
def I64 (n : Int) : Prop := -9223372036854775808 ≤ n ∧ n ≤ 9223372036854775807
theorem wrap64 {n : Int} (h : -9223372036854775808 ≤ n) (h2 : n ≤ 9223372036854775807) : IntKind.wrap .i64 n = n := by
  unfold IntKind.wrap
  simp [IntKind.min, IntKind.max, IntKind.bits, IntKind.signed]
  omega
theorem tmod_nonneg {a b : Int} (h : 0 ≤ a) : 0 ≤ a.tmod b := Int.tmod_nonneg b h
theorem tmod_lt' {a b : Int} (h : 0 < b) : a.tmod b < b := Int.tmod_lt_of_pos a h
theorem lim_eq : LIM = 137438953472 := by decide
theorem ble_lim {n : Nat} (h : n ≤ 137438953472) : Nat.ble n LIM = true := by rw [Nat.ble_eq, lim_eq]; exact h
end Go.Eng

/-
Loops over the elements of a list; keys.
-/
namespace Go.Eng
open Go
set_option linter.unusedVariables false
set_option linter.unusedSimpArgs false

/-- The first answer of the elements from number k on. -/
def scan {α ρ : Type} (g : Nat → α → Option ρ) : Nat → List α → Option ρ
  | _, [] => none
  | k, x :: xs => match g k x with
    | some r => some r
    | none => scan g (k + 1) xs

theorem drop_get {α : Type} {l : List α} {i : Nat} (h : i < l.length) : l.drop i = l[i] :: l.drop (i + 1) := List.drop_eq_getElem_cons h

/-- A loop over a list that ends at the first element with an answer. -/
theorem range_loop {α ρ : Type} {l : List α} {f : Int → Option (Int ⊕ ρ)} (g : Nat → α → Option ρ) (done : ρ) (hl : (l.length : Int) ≤ 9223372036854775807)
    (hf : ∀ (i : Nat) (h : i < l.length), f i = some (match g i l[i] with | none => .inl (IntKind.wrap .i64 (i + 1)) | some r => .inr r)) (hd : f l.length = some (.inr done)) :
    loopO f 0 = some ((scan g 0 l).getD done) := by
  have key : ∀ (n i : Nat), l.length - i = n → i ≤ l.length → loopO f i = some ((scan g i (l.drop i)).getD done) := by
    intro n
    induction n with
    | zero =>
      intro i h1 h2
      have : i = l.length := by omega
      subst this
      rw [loopO_eq, hd, List.drop_length]
      rfl
    | succ n ih =>
      intro i h1 h2
      have hi : i < l.length := by omega
      rw [loopO_eq, hf i hi, drop_get hi]
      simp only [scan]
      cases hg : g i l[i] with
      | some r => rfl
      | none =>
        simp only [Option.bind_some]
        rw [wrap64 (by omega) (by omega)]
        exact ih (i + 1) (by omega) (by omega)
  exact key l.length 0 (by omega) (by omega)

theorem scan_none {α ρ : Type} {g : Nat → α → Option ρ} : ∀ {l : List α} {k : Nat}, scan g k l = none ↔ ∀ (i : Nat) (x : α), l[i]? = some x → g (k + i) x = none
  | [], k => by simp [scan]
  | y :: l, k => by
    simp only [scan]
    cases hg : g k y with
    | some r =>
      simp only [reduceCtorEq, false_iff]
      intro h
      have := h 0 y rfl
      rw [Nat.add_zero, hg] at this
      cases this
    | none =>
      simp only
      rw [scan_none]
      constructor
      · intro h i x hi
        cases i with
        | zero => simp at hi; subst hi; exact hg
        | succ i => rw [show k + (i + 1) = k + 1 + i by omega]; exact h i x (by simpa using hi)
      · intro h i x hi
        rw [show k + 1 + i = k + (i + 1) by omega]
        exact h (i + 1) x (by simpa using hi)
/-! ### Keys -/
end Go.Eng

/-
Small checks; the order of measurements.
-/
namespace Go.Eng
open Go
set_option linter.unusedVariables false
set_option linter.unusedSimpArgs false

theorem Out_eq (n low high : Int) : base_Out n low high = some (decide (n < low) || decide (high < n)) := by
  unfold base_Out base_Out_x1
  by_cases h : n < low <;> simp [h]
/-! ### Orders -/
def or0 (a b : Int) : Int := if a = 0 then b else a
theorem cmpB_self : ∀ a : List UInt8, Lib.compareBytes a a = 0
  | [] => rfl
  | x :: a => by
    unfold Lib.compareBytes
    simp [UInt8.lt_irrefl, cmpB_self a]
theorem cmpB_anti : ∀ a b : List UInt8, Lib.compareBytes b a = -Lib.compareBytes a b
  | [], [] => rfl
  | [], _ :: _ => rfl
  | _ :: _, [] => rfl
  | x :: a, y :: b => by
    unfold Lib.compareBytes
    by_cases h1 : x < y
    · have h2 : ¬ y < x := UInt8.lt_asymm h1
      simp [h1, h2]
    · by_cases h2 : y < x
      · simp [h1, h2]
      · simp [h1, h2, cmpB_anti a b]
theorem cmpB_zero : ∀ {a b : List UInt8}, Lib.compareBytes a b = 0 ↔ a = b
  | [], [] => by simp [Lib.compareBytes]
  | [], _ :: _ => by simp [Lib.compareBytes]
  | _ :: _, [] => by simp [Lib.compareBytes]
  | x :: a, y :: b => by
    unfold Lib.compareBytes
    by_cases h1 : x < y
    · have : x ≠ y := fun h => UInt8.lt_irrefl y (h ▸ h1)
      simp [h1, this]
    · by_cases h2 : y < x
      · have : x ≠ y := fun h => UInt8.lt_irrefl x (by rw [h] at h2 ⊢; exact h2)
        simp [h1, h2, this]
      · have : x = y := UInt8.le_antisymm (UInt8.not_lt.1 h2) (UInt8.not_lt.1 h1)
        simp [h1, h2, cmpB_zero (a := a) (b := b), this]
theorem cmpB_less : ∀ a b : List UInt8, Op.bytesLess a b = decide (Lib.compareBytes a b < 0)
  | [], [] => rfl
  | [], _ :: _ => rfl
  | _ :: _, [] => rfl
  | x :: a, y :: b => by
    unfold Lib.compareBytes
    rw [Op.bytesLess]
    by_cases h1 : x < y
    · simp [h1]
    · by_cases h2 : y < x
      · have h3 : ¬ x = y := fun h => UInt8.lt_irrefl x (by rw [h] at h2 ⊢; exact h2)
        simp [h1, h2, h3]
      · have h3 : x = y := UInt8.le_antisymm (UInt8.not_lt.1 h2) (UInt8.not_lt.1 h1)
        simp [h1, h2, h3, cmpB_less a b]
end Go.Eng

/-
Checks of measurements and series, both ways.
-/
namespace Go.Eng
open Go
set_option linter.unusedVariables false
set_option linter.unusedSimpArgs false

/-! ### Check -/
end Go.Eng

/-
Sorting of few elements, and what is left of equal ones, for all kinds of elements.
-/
namespace Go.Eng
open Go
set_option linter.unusedVariables false
set_option linter.unusedSimpArgs false

theorem loop_in {σ ρ : Type} {f : σ → Option (σ ⊕ ρ)} {s s' : σ} (h : f s = some (.inl s')) : loopO f s = loopO f s' := by rw [loopO_eq, h]; rfl
theorem loop_out {σ ρ : Type} {f : σ → Option (σ ⊕ ρ)} {s : σ} {r : ρ} (h : f s = some (.inr r)) : loopO f s = some r := by rw [loopO_eq, h]; rfl

section
variable {α : Type}
/-! ### Insertion, as the code has it -/
noncomputable def gI3 (cmp : α → α → Option Int) (qa : Int) (vl3 : List α) (vj1 : Int) : Option (Bool) :=
  cond (decide (qa < vj1))
    ((at? vl3 vj1).bind fun vy15 =>
    (at? vl3 (IntKind.wrap .i64 (vj1 - 1))).bind fun vy16 =>
    (cmp vy15 vy16).bind fun vr1_3 =>
    some (decide (vr1_3 < 0)))
    (some false)
noncomputable def gI2 (cmp : α → α → Option Int) (qa : Int) : (List α) × Int → Option (((List α) × Int) ⊕ ((List α)))
  | (vl3, vj1) =>
  (gI3 cmp qa vl3 vj1).bind fun vx4_1 =>
  cond (vx4_1)
    ((at? vl3 (IntKind.wrap .i64 (vj1 - 1))).bind fun vy17 =>
    (at? vl3 vj1).bind fun vy18 =>
    (at? (vl3.set vj1.toNat vy17) (IntKind.wrap .i64 (vj1 - 1))).bind fun vy19 =>
    some (.inl ((vl3.set vj1.toNat vy17).set (IntKind.wrap .i64 (vj1 - 1)).toNat vy18, IntKind.wrap .i64 (vj1 - 1))))
    (some (.inr vl3))
noncomputable def gI1 (cmp : α → α → Option Int) (qa : Int) (qb : Int) : (List α) × Int → Option (((List α) × Int) ⊕ ((List α)))
  | (vl, vi) =>
  cond (decide (vi < qb))
    ((loopO (gI2 cmp qa) (vl, vi)).bind fun vl4_1 =>
    some (.inl (vl4_1, IntKind.wrap .i64 (vi + 1))))
    (some (.inr vl))
noncomputable def gI (cmp : α → α → Option Int) (qdata : List α) (qa : Int) (qb : Int) : Option ((List α)) :=
  (loopO (gI1 cmp qa qb) (qdata, IntKind.wrap .i64 (qa + 1))).bind fun vl5_1 =>
  some vl5_1
def All (p : α → Prop) (l : List α) : Prop := ∀ x ∈ l, p x
theorem All.nil {p : α → Prop} : All p [] := fun _ h => nomatch h
theorem All.set {p : α → Prop} {l : List α} (h : All p l) {i : Nat} {x : α} (hx : p x) : All p (l.set i x) := by
  intro y hy
  rcases List.mem_or_eq_of_mem_set hy with hy | rfl
  · exact h y hy
  · exact hx
theorem All.at {p : α → Prop} {l : List α} (h : All p l) {i : Nat} (hi : i < l.length) : p l[i] := h _ (List.getElem_mem hi)

/-! ### Equal ones, as the code has it -/
noncomputable def gC3 (t : α → α → Option Bool) (qx : List α) (vx : Int) (vl4 : List α) (vx6 : Int) (vx7 : Int) : Option (((List α) × Int)) :=
  gd (decide (0 ≤ vx) && decide (0 ≤ vx7) && decide (vx7 < (qx.length : Int) - vx)) <|
  (at? vl4 (vx + vx7)).bind fun vy13 =>
  gd (decide (0 ≤ vx) && decide (0 ≤ (IntKind.wrap .i64 (vx7 - 1))) && decide ((IntKind.wrap .i64 (vx7 - 1)) < (qx.length : Int) - vx)) <|
  (at? vl4 (vx + (IntKind.wrap .i64 (vx7 - 1)))).bind fun vy14 =>
  (t vy13 vy14).bind fun vr5 =>
  cond (!vr5)
    ((at? vl4 vx6).bind fun vy15 =>
    some (vl4.set vx6.toNat vy13, IntKind.wrap .i64 (vx6 + 1)))
    (some (vl4, vx6))
noncomputable def gC2 (t : α → α → Option Bool) (qx : List α) (vx : Int) : (List α) × Int × Int → Option (((List α) × Int × Int) ⊕ (((List α) × Int)))
  | (vl4, vx6, vx7) =>
  cond (decide (vx7 < (((qx.length : Int).toNat - vx.toNat : Nat) : Int)))
    ((gC3 t qx vx vl4 vx6 vx7).bind fun (vl6_1, vx9_1) =>
    some (.inl (vl6_1, vx9_1, IntKind.wrap .i64 (vx7 + 1))))
    (some (.inr (vl4, vx6)))
noncomputable def gC1 (t : α → α → Option Bool) (z : α) (qx : List α) (vx : Int) : Option ((Int) ⊕ (Unit ⊕ (List α))) :=
  cond (decide (vx < (qx.length : Int)))
    ((at? qx vx).bind fun vy8 =>
    (at? qx (IntKind.wrap .i64 (vx - 1))).bind fun vy9 =>
    (t vy8 vy9).bind fun vr3 =>
    cond (vr3)
      (gd (decide (0 ≤ vx) && decide (vx ≤ (qx.length : Int)) && decide ((qx.length : Int) ≤ (qx.length : Int))) <|
      (loopO (gC2 t qx vx) (qx, vx, 1)).bind fun (vl7_1, vx10_1) =>
      gd (decide (0 ≤ vx10_1) && decide (vx10_1 ≤ (vl7_1.length : Int)) && decide ((vl7_1.length : Int) ≤ (vl7_1.length : Int))) <|
      gd (decide (0 ≤ vx10_1) && decide (vx10_1 ≤ ((vl7_1.take vx10_1.toNat ++ (List.replicate ((vl7_1.length : Int).toNat - vx10_1.toNat) z ++ vl7_1.drop (vx10_1.toNat + ((vl7_1.length : Int).toNat - vx10_1.toNat)))).length : Int))) <|
      some (.inr (.inr ((vl7_1.take vx10_1.toNat ++ (List.replicate ((vl7_1.length : Int).toNat - vx10_1.toNat) z ++ vl7_1.drop (vx10_1.toNat + ((vl7_1.length : Int).toNat - vx10_1.toNat)))).take vx10_1.toNat))))
      (some (.inl (IntKind.wrap .i64 (vx + 1)))))
    (some (.inr (.inl ())))
noncomputable def gCom (t : α → α → Option Bool) (z : α) (qx : List α) : Option ((List α)) :=
  cond (decide ((qx.length : Int) < 2))
    (some qx)
    ((loopO (gC1 t z qx) 1).bind fun x => match x with
      | .inl _ =>
        some qx
      | .inr vx11_1 =>
        some vx11_1)

theorem take_part {l m : List α} {k : Nat} (h : k ≤ l.length) : (l.take k ++ m).take k = l.take k := by
  rw [List.take_append_of_le_length (by simp; omega), List.take_take]
  congr 1
  omega
end
end Go.Eng

/-
Insertion sorts; what is left of equal ones rises.
-/
namespace Go.Eng
open Go
set_option linter.unusedVariables false
set_option linter.unusedSimpArgs false
section
variable {α : Type}
/-- the first n are in order -/
def Ord (f : α → α → Int) (l : List α) (n : Nat) : Prop := ∀ p q (hp : p < q) (hq : q < n) (hn : n ≤ l.length), f (l[p]'(by omega)) (l[q]'(by omega)) ≤ 0

theorem gI2_ord {P : α → Prop} {f : α → α → Int} {c : α → α → Option Int} (hc : ∀ x y, P x → P y → c x y = some (f x y)) (anti : ∀ x y, f y x = - f x y) (tr : ∀ x y z, f x y ≤ 0 → f y z ≤ 0 → f x z ≤ 0)
    {n : Nat} (hn : n ≤ 100000) {l : List α} (hl : l.length = n) (hP : All P l) {i : Nat} (hi : i < n) (ho : Ord f l i) :
    Ok (loopO (gI2 c 0) (l, (i : Int))) (fun r => r.length = n ∧ All P r ∧ Ord f r (i + 1)) := by
  refine loop_ok (fun s : List α × Int => s.1.length = n ∧ All P s.1 ∧ ∃ j : Nat, s.2 = (j : Int) ∧ j ≤ i ∧ ∀ p q (hp : p < q) (hq : q ≤ i) (hqj : q ≠ j) (hs : i < s.1.length), f (s.1[p]'(by omega)) (s.1[q]'(by omega)) ≤ 0) (fun s => s.2.toNat) ?_
    ⟨hl, hP, i, rfl, Nat.le_refl _, fun p q hp hq hqj hs => ho p q hp (by omega) (by simp only at hs; omega)⟩
  rintro ⟨m, q⟩ ⟨m1, m2, j, rfl, j1, j2⟩
  simp only at m1 m2 j2
  unfold gI2 gI3
  by_cases hj : (0 : Int) < j
  · have w1 : IntKind.wrap .i64 ((j : Int) - 1) = ((j - 1 : Nat) : Int) := by rw [wrap64 (by omega) (by omega)]; omega
    have hjm : j < m.length := by omega
    have hjm1 : j - 1 < m.length := by omega
    have hy := m2 _ (List.getElem_mem hjm)
    have hx := m2 _ (List.getElem_mem hjm1)
    simp only [hj, decide_true, cond_true, w1, at_nat hjm, at_nat hjm1, Option.bind_some, hc _ _ hy hx]
    refine .cond (fun hlt => ?_) (fun hge => ?_)
    · have hlt := of_decide_eq_true hlt
      have g3 : at? (m.set (j : Int).toNat m[j - 1]) ((j - 1 : Nat) : Int) = some m[j - 1] := by
        rw [at_nat (by simp; omega)]
        simp only [Int.toNat_natCast, List.getElem_set]
        rw [if_neg (by omega)]
      rw [g3]
      simp only [Option.bind_some, Int.toNat_natCast]
      refine .some ⟨⟨by simp [m1], (m2.set hx).set hy, j - 1, rfl, by omega, ?_⟩, by simp only; omega⟩
      intro p q hp hq hqj hs
      simp only [List.getElem_set]
      have hin : i < m.length := by omega
      by_cases q1 : q = j
      · subst q1
        by_cases p1 : p = q - 1
        · subst p1
          have e1 : ¬ (q - 1 = q) := by omega
          simp only [e1, if_true, if_false]
          omega
        · have e1 : ¬ (q - 1 = p) := by omega
          have e2 : ¬ (q = p) := by omega
          have e3 : ¬ (q - 1 = q) := by omega
          simp only [e1, e2, e3, if_true, if_false]
          exact j2 p (q - 1) (by omega) (by omega) (by omega) hin
      · have e4 : ¬ (j = q) := by omega
        have e5 : ¬ (j - 1 = q) := by omega
        simp only [e4, e5, if_false]
        by_cases p1 : p = j - 1
        · subst p1
          simp only [if_true]
          exact j2 j q (by omega) hq q1 hin
        · by_cases p2 : p = j
          · subst p2
            have e6 : ¬ (p - 1 = p) := by omega
            simp only [e6, if_true, if_false]
            exact j2 (p - 1) q (by omega) hq q1 hin
          · have e7 : ¬ (j - 1 = p) := by omega
            have e8 : ¬ (j = p) := by omega
            simp only [e7, e8, if_false]
            exact j2 p q hp hq q1 hin
    · have hge := of_decide_eq_false hge
      refine .some ⟨m1, m2, fun p q hp hq hs => ?_⟩
      have hin : i < m.length := by omega
      by_cases q1 : q = j
      · subst q1
        have h0 : f m[q - 1] m[q] ≤ 0 := by have := anti m[q] m[q - 1]; omega
        by_cases p1 : p = q - 1
        · subst p1; exact h0
        · exact tr _ _ _ (j2 p (q - 1) (by omega) (by omega) (by omega) hin) h0
      · exact j2 p q hp (by omega) q1 hin
  · have hj' : ¬ (0 : Int) < j := hj
    have j0 : j = 0 := by omega
    subst j0
    simp only [hj', decide_false, cond_false, Option.bind_some]
    exact .some ⟨m1, m2, fun p q hp hq hs => j2 p q hp (by omega) (by omega) (by omega)⟩
theorem gI_ord {P : α → Prop} {f : α → α → Int} {c : α → α → Option Int} (hc : ∀ x y, P x → P y → c x y = some (f x y)) (anti : ∀ x y, f y x = - f x y) (tr : ∀ x y z, f x y ≤ 0 → f y z ≤ 0 → f x z ≤ 0)
    {l : List α} (hl : l.length ≤ 100000) (hP : All P l) : Ok (gI c l 0 l.length) (fun r => r.length = l.length ∧ All P r ∧ Ord f r l.length) := by
  unfold gI
  have w : IntKind.wrap .i64 ((0 : Int) + 1) = 1 := by decide
  rw [w]
  refine Ok.bind (P := fun r : List α => r.length = l.length ∧ All P r ∧ Ord f r l.length) (loop_ok (fun s : List α × Int => s.1.length = l.length ∧ All P s.1 ∧ ∃ i : Nat, s.2 = (i : Int) ∧ 1 ≤ i ∧ Ord f s.1 (min i l.length)) (fun s => ((l.length : Int) - s.2).toNat) ?_
    ⟨rfl, hP, 1, rfl, by omega, fun p q hp hq hn => by omega⟩) fun r hr => .some hr
  rintro ⟨m, q⟩ ⟨m1, m2, i, rfl, i1, i2⟩
  simp only at m1 m2 i2
  unfold gI1
  by_cases hi : i < l.length
  · have hi' : (i : Int) < l.length := by omega
    have w1 : IntKind.wrap .i64 ((i : Int) + 1) = ((i + 1 : Nat) : Int) := by rw [wrap64 (by omega) (by omega)]; omega
    simp only [hi', decide_true, cond_true]
    rw [Nat.min_eq_left (by omega)] at i2
    refine (gI2_ord hc anti tr (n := l.length) hl m1 m2 hi i2).bind fun r hr => ?_
    rw [w1]
    refine .some ⟨⟨hr.1, hr.2.1, i + 1, rfl, by omega, ?_⟩, by simp only; omega⟩
    rw [Nat.min_eq_left (by omega)]
    exact hr.2.2
  · have hi' : ¬ (i : Int) < l.length := by omega
    simp only [hi', decide_false, cond_false]
    rw [Nat.min_eq_right (by omega)] at i2
    exact .some ⟨m1, m2, i2⟩
end
end Go.Eng

/-
Loops that only gather.
-/
namespace Go.Eng
open Go
set_option linter.unusedVariables false
set_option linter.unusedSimpArgs false

/-- A loop over all elements of a list that only gathers. -/
theorem fold_loop0 {τ σ ρ α : Type} {l : List α} {f : τ → Option (τ ⊕ ρ)} (e : σ → Int → τ) (h : σ → α → σ) (fin : σ → ρ) (I : Nat → σ → Prop) {s0 : σ} (hl : (l.length : Int) ≤ 9223372036854775807)
    (hf : ∀ (i : Nat) (hi : i < l.length) (s : σ), I i s → f (e s i) = some (.inl (e (h s l[i]) (IntKind.wrap .i64 (i + 1)))) ∧ I (i + 1) (h s l[i])) (hd : ∀ s, I l.length s → f (e s l.length) = some (.inr (fin s))) (h0 : I 0 s0) :
    loopO f (e s0 0) = some (fin (l.foldl h s0)) ∧ I l.length (l.foldl h s0) := by
  have key : ∀ (n i : Nat) (s : σ), l.length - i = n → i ≤ l.length → I i s → loopO f (e s i) = some (fin ((l.drop i).foldl h s)) ∧ I l.length ((l.drop i).foldl h s) := by
    intro n
    induction n with
    | zero =>
      intro i s h1 h2 h3
      have : i = l.length := by omega
      subst this
      rw [List.drop_length]
      refine ⟨?_, h3⟩
      rw [loopO_eq, hd s h3]
      rfl
    | succ n ih =>
      intro i s h1 h2 h3
      have hi : i < l.length := by omega
      obtain ⟨g1, g2⟩ := hf i hi s h3
      obtain ⟨f1, f2⟩ := ih (i + 1) (h s l[i]) (by omega) (by omega) g2
      rw [List.drop_eq_getElem_cons hi, List.foldl_cons]
      refine ⟨?_, f2⟩
      rw [loopO_eq, g1]
      simp only [Option.bind_some]
      rw [wrap64 (by omega) (by omega)]
      exact f1
  have := key l.length 0 s0 (by omega) (by omega) h0
  simpa using this
theorem scan_find0 {α : Type} {p : α → Bool} : ∀ {l : List α} {k : Nat}, ∃ r : Int, (match (scan (fun i x => cond (p x) (some (Sum.inr (i : Int) : Unit ⊕ Int)) none) k l).getD (.inl ()) with | .inl _ => (-1 : Int) | .inr v => v) = r ∧ decide (0 ≤ r) = l.any p
  | [], k => ⟨-1, rfl, rfl⟩
  | x :: l, k => by
    simp only [scan, List.any_cons]
    cases p x with
    | true => exact ⟨k, rfl, by simp⟩
    | false => simp only [cond_false, Bool.false_or]; exact scan_find0 (l := l) (k := k + 1)
/-- A search for the first element that meets a test: is there one? -/
theorem find_loop {α : Type} {l : List α} {f : Int → Option (Int ⊕ (Unit ⊕ Int))} (p : α → Bool) (hl : (l.length : Int) ≤ 9223372036854775807)
    (hf : ∀ (i : Nat) (h : i < l.length), f i = some (cond (p l[i]) (.inr (.inr (i : Int))) (.inl (IntKind.wrap .i64 ((i : Int) + 1))))) (hd : f l.length = some (.inr (.inl ()))) :
    ∃ x, loopO f 0 = some x ∧ decide (0 ≤ (match x with | .inl _ => (-1 : Int) | .inr v => v)) = l.any p := by
  refine ⟨_, range_loop (l := l) (fun i x => cond (p x) (some (.inr (i : Int))) none) (.inl ()) hl (fun i h => ?_) hd, ?_⟩
  · rw [hf i h]
    cases p l[i] <;> rfl
  · obtain ⟨r, h1, h2⟩ := scan_find0 (p := p) (l := l) (k := 0)
    rw [h1]; exact h2
end Go.Eng

/-
What the laws ask of each package once.
-/
namespace Go.Eng
open Go
end Go.Eng

/-
Twins: the order of names and of stamps; sorted cells as tables; merging.
-/
namespace Go.Eng
open Go
set_option linter.unusedVariables false
set_option linter.unusedSimpArgs false

/-! ### Orders -/
theorem cmpB_tr : ∀ {a b c : List UInt8}, Lib.compareBytes a b ≤ 0 → Lib.compareBytes b c ≤ 0 → Lib.compareBytes a c ≤ 0
  | [], [], c, _, h => h
  | [], _ :: _, [], _, _ => by simp [Lib.compareBytes]
  | [], _ :: _, _ :: _, _, _ => by simp [Lib.compareBytes]
  | _ :: _, [], _, h, _ => by simp [Lib.compareBytes] at h
  | _ :: _, _ :: _, [], _, h => by simp [Lib.compareBytes] at h
  | x :: a, y :: b, z :: c, h1, h2 => by
    unfold Lib.compareBytes at *
    by_cases xy : x < y
    · by_cases yz : y < z
      · simp [UInt8.lt_trans xy yz]
      · by_cases zy : z < y
        · simp [yz, zy] at h2
        · have e : y = z := UInt8.le_antisymm (UInt8.not_lt.1 zy) (UInt8.not_lt.1 yz)
          subst e; simp [xy]
    · by_cases yx : y < x
      · simp [xy, yx] at h1
      · have e : x = y := UInt8.le_antisymm (UInt8.not_lt.1 yx) (UInt8.not_lt.1 xy)
        subst e
        simp only [xy, if_false] at h1
        by_cases xz : x < z
        · simp [xz]
        · by_cases zx : z < x
          · simp [xz, zx] at h2
          · simp only [xz, zx, if_false] at h2 ⊢
            exact cmpB_tr h1 h2
/-- one name is ahead of another one -/
def nlt (a b : List UInt8) : Prop := Lib.compareBytes a b < 0
theorem nlt_irrefl (a : List UInt8) : ¬ nlt a a := by unfold nlt; rw [cmpB_self]; omega
theorem nlt_trans {a b c : List UInt8} (h1 : nlt a b) (h2 : nlt b c) : nlt a c := by
  unfold nlt at *
  have h := cmpB_tr (a := a) (b := b) (c := c) (by omega) (by omega)
  by_cases h0 : Lib.compareBytes a c = 0
  · have := cmpB_zero.1 h0
    subst this
    have := cmpB_anti a b
    omega
  · omega
theorem nlt_asymm {a b : List UInt8} (h : nlt a b) : ¬ nlt b a := fun h2 => nlt_irrefl a (nlt_trans h h2)
theorem nlt_ne {a b : List UInt8} (h : nlt a b) : a ≠ b := fun e => nlt_irrefl b (e ▸ h)
theorem cmpB_cases (a b : List UInt8) : nlt a b ∨ a = b ∨ nlt b a := by
  unfold nlt
  have := cmpB_anti a b
  by_cases h0 : Lib.compareBytes a b = 0
  · exact .inr (.inl (cmpB_zero.1 h0))
  · omega
theorem or0_zero {a b : Int} : or0 a b = 0 ↔ a = 0 ∧ b = 0 := by unfold or0; split <;> omega
/-! ### Sorted cells -/
abbrev nm (c : api_Cell) : List UInt8 := c.Prop_.Name
/-! ### Merging -/
theorem veq_iff {a b : api_Value} : (decide (a.Kind = b.Kind) && ((a.Flag == b.Flag) && (decide (a.Number = b.Number) && (decide (a.Words = b.Words) && true)))) = true ↔ a = b := by
  obtain ⟨a1, a2, a3, a4⟩ := a
  obtain ⟨b1, b2, b3, b4⟩ := b
  simp
end Go.Eng

/-
Twins: the code's merging and checks are those of tables.
-/
namespace Go.Eng
open Go
set_option linter.unusedVariables false
set_option linter.unusedSimpArgs false

theorem lim_ok {n : Nat} (h : n ≤ 100000) : Nat.ble n LIM = true := ble_lim (by omega)

/-! ### Checks -/
end Go.Eng

/-
Twins: merging in any order; what is visible.
-/
namespace Go.Eng
open Go
set_option linter.unusedVariables false
set_option linter.unusedSimpArgs false

/-! ### Merging in any order -/
end Go.Eng

/-
Twins: what is visible; checks of properties; searching.
-/
namespace Go.Eng
open Go
set_option linter.unusedVariables false
set_option linter.unusedSimpArgs false

/-! ### Names below names -/
/-- the first name is below the second one -/
def belB (n a : List UInt8) : Bool := (a ++ [46]).isPrefixOf n
theorem bel_iff {n a : List UInt8} : belB n a = true ↔ ∃ r, n = a ++ 46 :: r := by
  unfold belB
  rw [List.isPrefixOf_iff_prefix]
  constructor
  · rintro ⟨r, h⟩; exact ⟨r, by rw [← h]; simp⟩
  · rintro ⟨r, h⟩; exact ⟨r, by rw [h]; simp⟩
/-! ### What hides what -/
theorem foldl_filter {α β : Type} (p : α → Bool) (f : α → β) : ∀ (l : List α) (s : List β), l.foldl (fun s c => bif p c then s ++ [f c] else s) s = s ++ (l.filter p).map f
  | [], s => by simp
  | x :: l, s => by
    rw [List.foldl_cons, foldl_filter p f l]
    cases hp : p x <;> simp [hp]
/-! ### Searching -/
def PSrt (l : List api_Prop) : Prop := l.Pairwise fun x y => nlt x.Name y.Name
theorem mid_eq {s : Int} (h0 : 0 ≤ s) (h1 : s ≤ 100000) : IntKind.wrap .i64 (ishr .u64 (IntKind.wrap .u64 (IntKind.wrap .i64 s)) 1) = s / 2 := by
  have w1 : IntKind.wrap .i64 s = s := wrap64 (by omega) (by omega)
  have w2 : IntKind.wrap .u64 s = s := by unfold IntKind.wrap; simp [IntKind.min, IntKind.max, IntKind.bits, IntKind.signed]; omega
  have w3 : ishr .u64 s 1 = s / 2 := by
    unfold ishr
    simp [IntKind.bits]
    exact Int.fdiv_eq_ediv_of_nonneg s (by omega)
  rw [w1, w2, w3, wrap64 (by omega) (by omega)]
theorem find_eq {l : List api_Prop} (hs : PSrt l) (hl : l.length ≤ 10000) (t : List UInt8) :
    (twin_find l t = some (-1) ∧ ∀ q ∈ l, q.Name ≠ t) ∨ ∃ (i : Nat) (h : i < l.length), twin_find l t = some (i : Int) ∧ l[i].Name = t := by
  have key : ∃ i : Nat, i ≤ l.length ∧ loopO (slices_BinarySearchFunc_api_Prop_api_Prop_string_f2_twin_find_1_x1 l t) (0, (l.length : Int)) = some (i : Int) ∧ (∀ k (h : k < l.length), k < i → nlt l[k].Name t) ∧ (∀ k (h : k < l.length), i ≤ k → ¬ nlt l[k].Name t) := by
    obtain ⟨r, h1, i, h2, h3⟩ := loop_ok (f := slices_BinarySearchFunc_api_Prop_api_Prop_string_f2_twin_find_1_x1 l t) (Q := fun r : Int => ∃ i : Nat, r = i ∧ i ≤ l.length ∧ (∀ k (h : k < l.length), k < i → nlt l[k].Name t) ∧ (∀ k (h : k < l.length), i ≤ k → ¬ nlt l[k].Name t))
      (fun s => ∃ i j : Nat, s = ((i : Int), (j : Int)) ∧ i ≤ j ∧ j ≤ l.length ∧ (∀ k (h : k < l.length), k < i → nlt l[k].Name t) ∧ (∀ k (h : k < l.length), j ≤ k → ¬ nlt l[k].Name t)) (fun s => (s.2 - s.1).toNat) (by
        rintro _ ⟨i, j, rfl, ij, jl, lo, hi⟩
        unfold slices_BinarySearchFunc_api_Prop_api_Prop_string_f2_twin_find_1_x1
        refine .cond (fun hc => ?_) (fun hc => ?_)
        · have hc : (i : Int) < j := by simpa using hc
          have hm : IntKind.wrap .i64 (ishr .u64 (IntKind.wrap .u64 (IntKind.wrap .i64 ((i : Int) + j))) 1) = (((i + j) / 2 : Nat) : Int) := by rw [mid_eq (by omega) (by omega)]; omega
          have hml : (i + j) / 2 < l.length := by omega
          rw [hm, at_nat hml]
          have hf1 : twin_find_1 l[(i + j) / 2] t = some () := rfl
          simp only [Option.bind_some]
          have hf1' : twin_find_1 (api_Prop.mk l[(i + j) / 2].Name (api_Value.mk l[(i + j) / 2].Value.Kind l[(i + j) / 2].Value.Flag l[(i + j) / 2].Value.Number l[(i + j) / 2].Value.Words)) t = some () := rfl
          rw [hf1']
          simp only [Option.bind_some]
          refine .cond (fun h => ?_) (fun h => ?_)
          · have h : nlt l[(i + j) / 2].Name t := by unfold nlt; simpa using h
            have w : IntKind.wrap .i64 ((((i + j) / 2 : Nat) : Int) + 1) = (((i + j) / 2 + 1 : Nat) : Int) := by rw [wrap64 (by omega) (by omega)]; omega
            rw [w]
            refine .some ⟨⟨(i + j) / 2 + 1, j, rfl, by omega, jl, fun k hk hki => ?_, hi⟩, by simp only; omega⟩
            by_cases e : k = (i + j) / 2
            · subst e; exact h
            · exact nlt_trans ((List.pairwise_iff_getElem.1 hs) k ((i + j) / 2) hk hml (by omega)) h
          · have h : ¬ nlt l[(i + j) / 2].Name t := by unfold nlt; simpa using h
            refine .some ⟨⟨i, (i + j) / 2, rfl, by omega, by omega, lo, fun k hk hki => ?_⟩, by simp only; omega⟩
            by_cases e : k = (i + j) / 2
            · subst e; exact h
            · exact fun hn => h (nlt_trans ((List.pairwise_iff_getElem.1 hs) ((i + j) / 2) k hml hk (by omega)) hn)
        · have hc : ¬ (i : Int) < j := by simpa using hc
          have e : i = j := by omega
          subst e
          exact .some ⟨i, rfl, jl, lo, hi⟩) (s := ((0 : Int), (l.length : Int))) ⟨0, l.length, rfl, by omega, by omega, fun k h hk => by omega, fun k h hk => by omega⟩
    subst h2
    exact ⟨i, h3.1, h1, h3.2⟩
  obtain ⟨i, h0, h1, lo, hi⟩ := key
  unfold twin_find slices_BinarySearchFunc_api_Prop_api_Prop_string_f2_twin_find_1
  rw [h1]
  simp only [Option.bind_some]
  have far : ∀ (k : Nat) (h : k < l.length), l[k].Name = t → k = i := by
    intro k hk e
    rcases Nat.lt_trichotomy k i with h | h | h
    · have := lo k hk h; rw [e] at this; exact absurd this (nlt_irrefl _)
    · exact h
    · have h2 : i < l.length := by omega
      have h3 := hi i h2 (Nat.le_refl _)
      have h4 := (List.pairwise_iff_getElem.1 hs) i k h2 hk h
      rw [e] at h4
      exact absurd h4 h3
  unfold slices_BinarySearchFunc_api_Prop_api_Prop_string_f2_twin_find_1_x2
  by_cases hil : (i : Int) < l.length
  · have hil' : i < l.length := by omega
    simp only [hil, decide_true, cond_true, at_nat hil', Option.bind_some]
    have hf1' : twin_find_1 (api_Prop.mk l[i].Name (api_Value.mk l[i].Value.Kind l[i].Value.Flag l[i].Value.Number l[i].Value.Words)) t = some () := rfl
    rw [hf1']
    simp only [Option.bind_some]
    by_cases hz : Lib.compareBytes l[i].Name t = 0
    · right
      refine ⟨i, hil', ?_, cmpB_zero.1 hz⟩
      simp [hz]
    · left
      refine ⟨by simp [hz], fun q hq e => ?_⟩
      obtain ⟨k, hk, rfl⟩ := List.mem_iff_getElem.1 hq
      have := far k hk e
      subst this
      exact hz (cmpB_zero.2 e)
  · left
    refine ⟨by simp [hil], fun q hq e => ?_⟩
    obtain ⟨k, hk, rfl⟩ := List.mem_iff_getElem.1 hq
    have := far k hk e
    omega

/-! ### Checks of properties -/
def GP (p : api_Prop) : Prop := twin_isName p.Name = some true ∧ twin_valueFault p.Value = some 0 ∧ p.Value.Kind ≠ 0
/-! ### Equal rows -/
end Go.Eng

/-
What is left of a sorted row, each key once.
-/
namespace Go.Eng
open Go
set_option linter.unusedVariables false
set_option linter.unusedSimpArgs false
section
variable {α : Type}
end
end Go.Eng

/-
The streams.
-/
namespace Go.Eng
open Go
set_option linter.unusedVariables false
set_option linter.unusedSimpArgs false

theorem wrap_I64 (n : Int) : I64 (IntKind.wrap .i64 n) := by
  unfold IntKind.wrap I64
  simp [IntKind.bits, IntKind.signed]
  split <;> omega

theorem Below_eq {x n : Int} (hx : I64 x) (hn : I64 n) : fleetmake_Below x n = some (if n < 1 then 0 else x % n) := by
  unfold I64 at hx hn
  unfold fleetmake_Below fleetmake_Below_x1
  by_cases h : n < 1
  · simp [h]
  · have h0 : (n == 0) = false := by simp; omega
    have e := Int.emod_eq_tmod (a := x) (b := n)
    have nn := Int.emod_nonneg x (show n ≠ 0 by omega)
    have lt := Int.emod_lt_of_pos x (show 0 < n by omega)
    simp only [h, decide_false, cond_false, h0, Bool.not_false, gd, cond_true, Option.bind_some, if_false]
    by_cases h3 : x.tmod n < 0
    · simp only [h3, decide_true, cond_true, Option.bind_some]
      split at e
      · omega
      · rw [wrap64 (by omega) (by omega)]
        congr 1
        omega
    · simp only [h3, decide_false, cond_false, Option.bind_some]
      congr 1
      split at e <;> omega
theorem Below_ok {x n : Int} (hx : I64 x) (hn : I64 n) : Ok (fleetmake_Below x n) (fun r => (1 ≤ n → 0 ≤ r ∧ r < n) ∧ (n < 1 → r = 0)) := by
  refine .of_eq (Below_eq hx hn) ⟨fun h => ?_, fun h => by simp [h]⟩
  rw [if_neg (by omega)]
  exact ⟨Int.emod_nonneg _ (by omega), Int.emod_lt_of_pos _ (by omega)⟩

/-- A stream whose numbers are of 64 bits, of which at most k were taken. -/
def StrOk (k : Nat) (s : fleetmake_Stream) : Prop := 0 ≤ s.at_ ∧ s.at_ ≤ k ∧ s.L.length ≤ 9223372036854775807 ∧ ∀ n ∈ s.L, I64 n
theorem StrOk.mono {k k' : Nat} {s : fleetmake_Stream} (h : StrOk k s) (hk : k ≤ k') : StrOk k' s := ⟨h.1, by have := h.2.1; omega, h.2.2⟩
/-- One number further. -/
abbrev nxt (s : fleetmake_Stream) : fleetmake_Stream := fleetmake_Stream.mk s.L (IntKind.wrap .i64 (s.at_ + 1))
theorem StrOk.nxt {k : Nat} {s : fleetmake_Stream} (h : StrOk k s) (hk : k < 1099511627776) : StrOk (k + 1) (nxt s) := by
  obtain ⟨h1, h2, h3, h4⟩ := h
  refine ⟨?_, ?_, h3, h4⟩
  · show 0 ≤ IntKind.wrap .i64 (s.at_ + 1)
    rw [wrap64 (by omega) (by omega)]; omega
  · show IntKind.wrap .i64 (s.at_ + 1) ≤ _
    rw [wrap64 (by omega) (by omega)]; omega

theorem Next_ok {k : Nat} {s : fleetmake_Stream} {n : Int} (h : StrOk k s) (hk : k < 1099511627776) (hn : I64 n) : Ok (fleetmake_Stream_Next s n) (fun r => (1 ≤ n → 0 ≤ r ∧ r < n) ∧ (n < 1 → r = 0)) := by
  obtain ⟨h1, h2, h3, h4⟩ := h
  unfold fleetmake_Stream_Next
  refine .cond (fun _ => ?_) (fun hl => ?_)
  · exact (Below_ok (wrap_I64 _) hn).bind fun r hr => .some hr
  · have hl' : s.L.length ≠ 0 := by simpa using hl
    have e1 : IntKind.wrap .i64 (s.at_ + 1) = s.at_ + 1 := wrap64 (by omega) (by omega)
    have e2 : IntKind.wrap .i64 (s.at_ + 1 - 1) = s.at_ := by rw [wrap64 (by omega) (by omega)]; omega
    refine .gd (by simpa using hl') ?_
    rw [e1, e2]
    refine (at_mem (tmod_nonneg h1) (tmod_lt' (by omega))).bind fun y hy => ?_
    refine (Below_ok (h4 y hy) (by unfold I64; omega)).bind fun r1 hr1 => ?_
    exact (Below_ok (wrap_I64 _) hn).bind fun r hr => .some hr

theorem Pick_ok {k : Nat} {s : fleetmake_Stream} {l : List Int} (h : StrOk k s) (hk : k < 1099511627776) (hl : 0 < l.length) (hl2 : l.length < 1000) : Ok (fleetmake_Stream_Pick_o1 s l) (fun r => r ∈ l) := by
  unfold fleetmake_Stream_Pick_o1
  refine (Next_ok h hk (by unfold I64; omega)).bind fun r hr => ?_
  have := hr.1 (by omega)
  exact (at_mem this.1 this.2).bind fun y hy => .some hy
theorem Some_ok {k : Nat} {s : fleetmake_Stream} {l : List (List UInt8)} (h : StrOk k s) (hk : k < 1099511627776) (hl : 0 < l.length) (hl2 : l.length < 1000) : Ok (fleetmake_Stream_Some_o1 s l) (fun r => r ∈ l) := by
  unfold fleetmake_Stream_Some_o1
  refine (Next_ok h hk (by unfold I64; omega)).bind fun r hr => ?_
  have := hr.1 (by omega)
  exact (at_mem this.1 this.2).bind fun y hy => .some hy
theorem Flip_ok {k : Nat} {s : fleetmake_Stream} {n : Int} (h : StrOk k s) (hk : k < 1099511627776) (hn : I64 n) : Ok (fleetmake_Stream_Flip s n) (fun _ => True) := by
  unfold fleetmake_Stream_Flip
  exact (Next_ok h hk hn).bind fun r hr => .some trivial
theorem Range_ok {k : Nat} {s : fleetmake_Stream} {low high : Int} (h : StrOk k s) (hk : k < 1099511627776) (hlow : -4611686018427387903 < low ∧ low < 4611686018427387904) (hh : -4611686018427387904 < high ∧ high < 4611686018427387903) :
    Ok (fleetmake_Stream_Range s low high) (fun r => StrOk (k + 1) r.1 ∧ low ≤ r.2 ∧ (low ≤ high → r.2 ≤ high) ∧ (high < low → r.2 = low)) := by
  unfold fleetmake_Stream_Range
  refine .cond (fun hc => ?_) (fun hc => ?_)
  · have hc' : high < low := by simpa using hc
    exact .some ⟨h.mono (by omega), Int.le_refl _, by intro h; omega, fun _ => rfl⟩
  · have hc' : ¬ high < low := by simpa using hc
    have e1 : IntKind.wrap .i64 (high - low) = high - low := wrap64 (by omega) (by omega)
    have e2 : IntKind.wrap .i64 (high - low + 1) = high - low + 1 := wrap64 (by omega) (by omega)
    rw [e1, e2]
    refine (Next_ok h hk (by unfold I64; omega)).bind fun r hr => ?_
    have := hr.1 (by omega)
    refine .some ⟨h.nxt hk, ?_, fun _ => ?_, fun h => by omega⟩
    · show low ≤ IntKind.wrap .i64 (low + r)
      rw [wrap64 (by omega) (by omega)]; omega
    · show IntKind.wrap .i64 (low + r) ≤ high
      rw [wrap64 (by omega) (by omega)]; omega
end Go.Eng

/-
The law CellsInAnyOrder: cells that streams make; cells that are merged in any order.
-/
namespace Go.Eng
open Go
set_option linter.unusedVariables false
set_option linter.unusedSimpArgs false

/-! ### Cells that streams make -/
def nm7 : List (List UInt8) := [[97], [97, 46, 120], [97, 46, 121], [97, 46, 120, 46, 112], [98], [98, 46, 122], [97, 98]]
def rk (n : List UInt8) : Int := if n = [97] then 0 else if n = [97, 46, 120] then 1 else if n = [97, 46, 120, 46, 112] then 2 else if n = [97, 46, 121] then 3 else if n = [97, 98] then 4 else if n = [98] then 5 else 6
theorem rk_all : (nm7.all fun x => nm7.all fun y => (decide (Lib.compareBytes x y ≤ 0) == decide (rk x ≤ rk y)) && (decide (Lib.compareBytes x y < 0) == decide (rk x < rk y)) && (decide (rk x = rk y) == decide (x = y))) = true := by decide
theorem rk_spec {x y : List UInt8} (hx : x ∈ nm7) (hy : y ∈ nm7) : (Lib.compareBytes x y ≤ 0 ↔ rk x ≤ rk y) ∧ (nlt x y ↔ rk x < rk y) ∧ (rk x = rk y ↔ x = y) := by
  have := List.all_eq_true.1 (List.all_eq_true.1 rk_all x hx) y hy
  simp only [Bool.and_eq_true, beq_iff_eq, decide_eq_decide] at this
  exact ⟨this.1.1, this.1.2, this.2⟩
theorem nm7_ok : (nm7.all fun n => decide (twin_isName n = some true)) = true := by kernel_rfl
theorem nm7_len : (nm7.all fun n => decide (n.length ≤ 10)) = true := by decide
def RS (s : api_Stamp) : Prop := (0 ≤ s.At ∧ s.At ≤ 200) ∧ (s.By = [104] ∨ s.By = [107] ∨ s.By = [100]) ∧ (0 ≤ s.No ∧ s.No ≤ 1)
/-- right cells -/
def RC (c : api_Cell) : Prop := nm c ∈ nm7 ∧ twin_valueFault c.Prop_.Value = some 0 ∧ RS c.Stamp
theorem RC.len {c : api_Cell} (h : RC c) : ((nm c).length : Int) ≤ 9223372036854775807 := by
  have := of_decide_eq_true (List.all_eq_true.1 nm7_len _ h.1)
  omega
theorem nxt_mk {k : Nat} {s : fleetmake_Stream} (h : StrOk k s) (hk : k < 1099511627776) : StrOk (k + 1) (fleetmake_Stream.mk s.L (IntKind.wrap .i64 (s.at_ + 1))) := h.nxt hk
/-! ### In any order -/
end Go.Eng

/-
The law CompactStays: what nobody needs any more is left out; what is visible stays, also after a merge with what comes later.
-/
namespace Go.Eng
open Go
set_option linter.unusedVariables false
set_option linter.unusedSimpArgs false

/-! ### Compact -/
/-! ### What is left -/
/-! ### Equal rows of properties -/
theorem pEqual_self {l : List api_Prop} (hl : (l.length : Int) ≤ 9223372036854775807) : slices_Equal_api_Prop_api_Prop l l = some true := by
  unfold slices_Equal_api_Prop_api_Prop
  simp only [decide_true, Bool.not_true, cond_false]
  rw [range_loop (l := l) (fun _ _ => none) (.inl ()) hl]
  · have : ∀ (k : Nat) (m : List api_Prop), scan (fun (_ : Nat) (_ : api_Prop) => (none : Option (Unit ⊕ Unit))) k m = none := fun k m => scan_none.2 fun _ _ _ => rfl
    rw [this]; rfl
  · intro i hi
    unfold slices_Equal_api_Prop_api_Prop_x1
    have hc : (i : Int) < l.length := by omega
    simp only [hc, decide_true, cond_true, at_nat hi, Option.bind_some, beq_self_eq_true, Bool.and_self, Bool.and_true]
    rfl
  · unfold slices_Equal_api_Prop_api_Prop_x1; simp
/-! ### Later cells -/
end Go.Eng

/-
What is left of a sorted row, each key once, with what is found again.
-/
namespace Go.Eng
open Go
set_option linter.unusedVariables false
set_option linter.unusedSimpArgs false
section
variable {α : Type}
theorem gCom_key2 {P : α → Prop} {t : α → α → Option Bool} {kf : α → Int} (ht : ∀ x y, P x → P y → ∃ b, t x y = some b ∧ (b = true ↔ kf x = kf y)) {z : α} {l : List α} (hl : l.length ≤ 100000) (hp : All P l)
    (hs : ∀ p q (hpq : p < q) (hq : q < l.length), kf (l[p]'(by omega)) ≤ kf l[q]) : Ok (gCom t z l) (fun r => (r.length ≤ l.length ∧ All P r ∧ r.Pairwise (fun x y => kf x < kf y)) ∧ ∀ x ∈ l, ∃ y ∈ r, kf y = kf x) := by
  unfold gCom
  have small : ∀ k, (k ≤ l.length) → (∀ q (hq : q + 1 < k) (hk : k ≤ l.length), kf (l[q + 1]'(by omega)) ≠ kf (l[q]'(by omega))) → (l.take k).Pairwise (fun x y => kf x < kf y) := by
    intro k hkl hne
    rw [List.pairwise_iff_getElem]
    intro i j hi hj hij
    simp only [List.getElem_take]
    have hjl : j < l.length := by simp at hj; omega
    have hjk : j < k := by simp at hj; omega
    have h1 : kf (l[i]'(by omega)) ≤ kf (l[j - 1]'(by omega)) := by
      by_cases e : i = j - 1
      · subst e; exact Int.le_refl _
      · exact hs i (j - 1) (by omega) (by omega)
    have h2 := hs (j - 1) j (by omega) hjl
    have h3 : kf (l[j - 1]'(by omega)) ≠ kf l[j] := by
      intro e
      have := hne (j - 1) (by omega) hkl
      apply this
      have e3 : j - 1 + 1 = j := by omega
      simp only [e3]
      exact e.symm
    omega
  refine .cond (fun hc => .some ⟨⟨Nat.le_refl _, hp, ?_⟩, fun x hx => ⟨x, hx, rfl⟩⟩) (fun hc => ?_)
  · have hc := of_decide_eq_true hc
    match l, hc with
    | [], _ => simp
    | [x], _ => simp
    | x :: y :: m, hc => simp at hc; omega
  have hl2 : (2 : Int) ≤ l.length := by simpa using hc
  refine Ok.bind (P := fun x => match x with | .inl _ => l.Pairwise (fun x y => kf x < kf y) | .inr r => (r.length ≤ l.length ∧ All P r ∧ r.Pairwise (fun x y => kf x < kf y)) ∧ ∀ x ∈ l, ∃ y ∈ r, kf y = kf x) ?_ (fun x hx => ?_)
  · refine loop_ok (fun k : Int => ∃ n : Nat, k = (n : Int) ∧ 1 ≤ n ∧ n ≤ l.length ∧ ∀ q (hq : q + 1 < n) (hk : n ≤ l.length), kf (l[q + 1]'(by omega)) ≠ kf (l[q]'(by omega))) (fun k => ((l.length : Int) - k).toNat) ?_ ⟨1, rfl, by omega, by omega, fun q hq => by omega⟩
    rintro k ⟨n, rfl, n1, n2, n3⟩
    unfold gC1
    by_cases hk' : n < l.length
    · have hki : (n : Int) < l.length := by omega
      have w1 : IntKind.wrap .i64 ((n : Int) - 1) = ((n - 1 : Nat) : Int) := by rw [wrap64 (by omega) (by omega)]; omega
      have w2 : IntKind.wrap .i64 ((n : Int) + 1) = ((n + 1 : Nat) : Int) := by rw [wrap64 (by omega) (by omega)]; omega
      obtain ⟨b, hb, hbe⟩ := ht l[n] (l[n - 1]'(by omega)) (hp _ (List.getElem_mem hk')) (hp _ (List.getElem_mem (show n - 1 < l.length by omega)))
      simp only [hki, decide_true, cond_true, w1, at_nat hk', at_nat (show n - 1 < l.length by omega), hb, Option.bind_some]
      cases b with
      | false =>
        simp only [cond_false, w2]
        refine .some ⟨⟨n + 1, rfl, by omega, by omega, fun q hq hk => ?_⟩, by omega⟩
        by_cases e : q + 1 = n
        · subst e
          intro he
          have : (false : Bool) = true := hbe.2 he
          cases this
        · exact n3 q (by omega) n2
      | true =>
        have heq : kf l[n] = kf (l[n - 1]'(by omega)) := hbe.1 rfl
        simp only [cond_true]
        refine .gd (by simp; omega) ?_
        have hkn : (((l.length : Int).toNat - (n : Int).toNat : Nat) : Int) = l.length - n := by omega
        refine Ok.bind (P := fun q : List α × Int => q.1.length = l.length ∧ ∃ i : Nat, q.2 = (i : Int) ∧ i ≤ l.length ∧ All P q.1 ∧ (q.1.take i).Pairwise (fun x y => kf x < kf y) ∧ ∀ x ∈ l, ∃ y ∈ q.1.take i, kf y = kf x) ?_ (fun ⟨l7, k9⟩ ⟨q1, i, q2, q3, q4, q5, q6⟩ => ?_)
        · refine loop_ok (fun q : List α × Int × Int => q.1.length = l.length ∧ All P q.1 ∧ ∃ i j : Nat, q.2.1 = (i : Int) ∧ q.2.2 = (j : Int) ∧ 1 ≤ j ∧ n + j ≤ l.length ∧ 1 ≤ i ∧ i ≤ n + j - 1 ∧ q.1.drop (n + j - 1) = l.drop (n + j - 1) ∧
            (q.1.take i).Pairwise (fun x y => kf x < kf y) ∧ (∀ (h1 : i - 1 < q.1.length) (h2 : n + j - 1 < l.length), kf q.1[i - 1] = kf l[n + j - 1]) ∧ ∀ x ∈ l.take (n + j), ∃ y ∈ q.1.take i, kf y = kf x) (fun q => ((l.length : Int) - q.2.2).toNat) ?_
            ⟨rfl, hp, n, 1, rfl, rfl, by omega, by omega, by omega, by omega, rfl, small n n2 n3, fun h1 h2 => by simp only [Nat.add_sub_cancel]; exact heq.symm, fun x hx => by
              rw [List.take_succ_eq_append_getElem hk'] at hx
              rcases List.mem_append.1 hx with hx | hx
              · exact ⟨x, hx, rfl⟩
              · rw [List.mem_singleton] at hx
                subst hx
                exact ⟨l[n - 1]'(by omega), List.mem_iff_getElem.2 ⟨n - 1, by simp; omega, by simp⟩, heq.symm⟩⟩
          rintro ⟨m, i', j'⟩ ⟨m1, m2, i, j, rfl, rfl, j1, j2, i1, i2, d1, d2, d3, d4⟩
          simp only at m1 m2 d1 d2 d3 d4
          unfold gC2
          rw [hkn]
          refine .cond (fun hj => ?_) (fun hj => .some ⟨m1, i, rfl, by omega, m2, d2, by
            have hj : ¬ (j : Int) < l.length - n := by simpa using hj
            rw [List.take_of_length_le (show l.length ≤ n + j by omega)] at d4
            exact d4⟩)
          have hj : (j : Int) < l.length - n := by simpa using hj
          have w3 : IntKind.wrap .i64 ((j : Int) - 1) = ((j - 1 : Nat) : Int) := by rw [wrap64 (by omega) (by omega)]; omega
          have w4 : IntKind.wrap .i64 ((i : Int) + 1) = ((i + 1 : Nat) : Int) := by rw [wrap64 (by omega) (by omega)]; omega
          have w5 : IntKind.wrap .i64 ((j : Int) + 1) = ((j + 1 : Nat) : Int) := by rw [wrap64 (by omega) (by omega)]; omega
          have a1 : m[n + j]'(by omega) = l[n + j]'(by omega) := by
            have h := congrArg (fun x => x[1]?) d1
            simp only [List.getElem?_drop] at h
            rw [show n + j - 1 + 1 = n + j by omega, List.getElem?_eq_getElem (by omega), List.getElem?_eq_getElem (by omega)] at h
            exact Option.some.inj h
          have a2 : m[n + j - 1]'(by omega) = l[n + j - 1]'(by omega) := by
            have h := congrArg (fun x => x[0]?) d1
            simp only [List.getElem?_drop] at h
            rw [show n + j - 1 + 0 = n + j - 1 by omega, List.getElem?_eq_getElem (by omega), List.getElem?_eq_getElem (by omega)] at h
            exact Option.some.inj h
          have hx := hp _ (List.getElem_mem (show n + j < l.length by omega))
          have hy := hp _ (List.getElem_mem (show n + j - 1 < l.length by omega))
          obtain ⟨b, hb, hbe⟩ := ht (l[n + j]'(by omega)) (l[n + j - 1]'(by omega)) hx hy
          refine Ok.bind (P := fun q : List α × Int => q.1.length = l.length ∧ All P q.1 ∧ ∃ i : Nat, q.2 = (i : Int) ∧ 1 ≤ i ∧ i ≤ n + j ∧ q.1.drop (n + j) = l.drop (n + j) ∧ (q.1.take i).Pairwise (fun x y => kf x < kf y) ∧ (∀ (h1 : i - 1 < q.1.length) (h2 : n + j < l.length), kf q.1[i - 1] = kf l[n + j]) ∧ ∀ x ∈ l.take (n + j + 1), ∃ y ∈ q.1.take i, kf y = kf x) ?_ (fun ⟨m', i''⟩ ⟨g1, g2, i3, g3, g4, g5, g6, g7, g8, g9⟩ => ?_)
          · unfold gC3
            rw [w3]
            refine .gd (by simp; omega) ?_
            have e1 : (n : Int) + (j : Int) = ((n + j : Nat) : Int) := by omega
            have e2 : (n : Int) + ((j - 1 : Nat) : Int) = ((n + j - 1 : Nat) : Int) := by omega
            rw [e1, at_nat (show n + j < m.length by omega)]
            simp only [Option.bind_some]
            refine .gd (by simp; omega) ?_
            rw [e2, at_nat (show n + j - 1 < m.length by omega), at_nat (show i < m.length by omega)]
            simp only [Option.bind_some, a1, a2, hb, w4, Int.toNat_natCast]
            have hdrop : m.drop (n + j) = l.drop (n + j) := by
              have h := congrArg (List.drop 1) d1
              rw [List.drop_drop, List.drop_drop, show n + j - 1 + 1 = n + j by omega] at h
              exact h
            cases b with
            | true =>
              have he : kf (l[n + j]'(by omega)) = kf (l[n + j - 1]'(by omega)) := hbe.1 rfl
              refine .some ⟨m1, m2, i, rfl, i1, by omega, hdrop, d2, fun h1 h2 => ?_, fun x hx => ?_⟩
              · rw [d3 h1 (by omega)]; exact he.symm
              · rw [List.take_succ_eq_append_getElem (show n + j < l.length by omega)] at hx
                rcases List.mem_append.1 hx with hx | hx
                · exact d4 x hx
                · rw [List.mem_singleton] at hx
                  subst hx
                  obtain ⟨y, y1, y2⟩ := d4 (l[n + j - 1]'(by omega)) (List.mem_iff_getElem.2 ⟨n + j - 1, by simp; omega, by simp⟩)
                  exact ⟨y, y1, y2.trans he.symm⟩
            | false =>
              have hne : kf (l[n + j]'(by omega)) ≠ kf (l[n + j - 1]'(by omega)) := fun e => by have := hbe.2 e; cases this
              refine .some ⟨by simp [m1], m2.set hx, i + 1, rfl, by omega, by omega, ?_, ?_, fun h1 h2 => ?_, fun x hx' => ?_⟩
              · simp only
                rw [List.drop_set_of_lt (by omega)]; exact hdrop
              · simp only
                rw [List.take_succ_eq_append_getElem (by simp; omega), List.take_set_of_le (by omega)]
                simp only [List.getElem_set_self]
                rw [List.pairwise_append]
                refine ⟨d2, by simp, fun x hx' y hy' => ?_⟩
                rw [List.mem_singleton] at hy'
                subst hy'
                have hlast := d3 (by omega) (by omega)
                have hle : kf x ≤ kf (l[n + j - 1]'(by omega)) := by
                  obtain ⟨p, hp', rfl⟩ := List.mem_iff_getElem.1 hx'
                  simp only [List.getElem_take]
                  rw [← hlast]
                  have hpi : p < i := by simp at hp'; omega
                  by_cases e : p = i - 1
                  · subst e; exact Int.le_refl _
                  · have := (List.pairwise_iff_getElem.1 d2) p (i - 1) hp' (by simp; omega) (by omega)
                    simp only [List.getElem_take] at this
                    omega
                have hlt : kf (l[n + j - 1]'(by omega)) < kf (l[n + j]'(by omega)) := by
                  have h1 := hs (n + j - 1) (n + j) (by omega) (by omega)
                  by_cases e : kf (l[n + j - 1]'(by omega)) = kf (l[n + j]'(by omega))
                  · exact absurd e.symm hne
                  · omega
                omega
              · simp
              · simp only
                rw [List.take_succ_eq_append_getElem (show i < (m.set i (l[n + j]'(by omega))).length by simp; omega), List.take_set_of_le (by omega)]
                simp only [List.getElem_set_self]
                rw [List.take_succ_eq_append_getElem (show n + j < l.length by omega)] at hx'
                rcases List.mem_append.1 hx' with hx' | hx'
                · obtain ⟨y, y1, y2⟩ := d4 x hx'
                  exact ⟨y, List.mem_append_left _ y1, y2⟩
                · rw [List.mem_singleton] at hx'
                  subst hx'
                  exact ⟨_, List.mem_append_right _ (List.mem_singleton.2 rfl), rfl⟩
          · simp only at g1 g2 g3 g6 g7 g8 g9
            subst g3
            rw [w5]
            refine .some ⟨⟨g1, g2, i3, j + 1, rfl, rfl, by omega, by omega, g4, by omega, ?_, g7, fun h1 h2 => ?_, g9⟩, by simp only; omega⟩
            · simp only
              rw [show n + (j + 1) - 1 = n + j by omega]; exact g6
            · simp only
              have := g8 h1 (by omega)
              rw [this]
              congr 1
        · simp only at q1 q2 q4 q5
          subst q2
          refine .gd (by simp; omega) (.gd ?_ ?_)
          · simp only [Bool.and_eq_true, decide_eq_true_eq]
            refine ⟨by omega, ?_⟩
            simp only [List.length_append, List.length_take, List.length_replicate, List.length_drop, Int.toNat_natCast]
            omega
          · rw [take_part (by simp; omega)]
            refine .some ⟨⟨?_, fun x hx => q4 x (List.mem_of_mem_take hx), by simpa using q5⟩, by simpa using q6⟩
            simp only [List.length_take]; omega
    · have hki : ¬ (n : Int) < l.length := by omega
      simp only [hki, decide_false, cond_false]
      refine .some ?_
      have := small l.length (Nat.le_refl _) (fun q hq hk => n3 q (by omega) n2)
      rwa [List.take_length] at this
  · cases x with
    | inl _ => exact .some ⟨⟨Nat.le_refl _, hp, hx⟩, fun x hx => ⟨x, hx, rfl⟩⟩
    | inr r => exact .some hx
end
end Go.Eng

/-
Twins: names of properties, sorted, each once.
-/
namespace Go.Eng
open Go
set_option linter.unusedVariables false
set_option linter.unusedSimpArgs false

section
variable {α : Type}
theorem mem_swap {l : List α} {j : Nat} (h : 0 < j) (hj : j < l.length) {x : α} (hx : x ∈ l) : x ∈ (l.set j (l[j - 1]'(by omega))).set (j - 1) l[j] := by
  obtain ⟨k, hk, rfl⟩ := List.mem_iff_getElem.1 hx
  by_cases e1 : k = j
  · subst e1
    exact List.mem_iff_getElem.2 ⟨k - 1, by simp; omega, by simp⟩
  · by_cases e2 : k = j - 1
    · subst e2
      refine List.mem_iff_getElem.2 ⟨j, by simp; omega, ?_⟩
      rw [List.getElem_set_ne (by omega)]
      simp
    · refine List.mem_iff_getElem.2 ⟨k, by simp; omega, ?_⟩
      rw [List.getElem_set_ne (by omega), List.getElem_set_ne (by omega)]
theorem gI2_mem {P : α → Prop} {f : α → α → Int} {c : α → α → Option Int} (hc : ∀ x y, P x → P y → c x y = some (f x y)) {n : Nat} (hn : n ≤ 100000) {l0 l : List α} (hl : l.length = n) (hP : All P l) (h0 : ∀ x ∈ l0, x ∈ l) {i : Nat} (hi : i < n) :
    Ok (loopO (gI2 c 0) (l, (i : Int))) (fun r => r.length = n ∧ All P r ∧ ∀ x ∈ l0, x ∈ r) := by
  refine loop_ok (fun s : List α × Int => s.1.length = n ∧ All P s.1 ∧ (∀ x ∈ l0, x ∈ s.1) ∧ ∃ j : Nat, s.2 = (j : Int) ∧ j ≤ i) (fun s => s.2.toNat) ?_ ⟨hl, hP, h0, i, rfl, Nat.le_refl _⟩
  rintro ⟨m, q⟩ ⟨m1, m2, m3, j, rfl, j1⟩
  simp only at m1 m2 m3
  unfold gI2 gI3
  by_cases hj : (0 : Int) < j
  · have w1 : IntKind.wrap .i64 ((j : Int) - 1) = ((j - 1 : Nat) : Int) := by rw [wrap64 (by omega) (by omega)]; omega
    have hjm : j < m.length := by omega
    have hjm1 : j - 1 < m.length := by omega
    have hy := m2 _ (List.getElem_mem hjm)
    have hx := m2 _ (List.getElem_mem hjm1)
    simp only [hj, decide_true, cond_true, w1, at_nat hjm, at_nat hjm1, Option.bind_some, hc _ _ hy hx]
    refine .cond (fun hlt => ?_) (fun hge => ?_)
    · have g3 : at? (m.set (j : Int).toNat m[j - 1]) ((j - 1 : Nat) : Int) = some m[j - 1] := by
        rw [at_nat (by simp; omega)]
        simp only [Int.toNat_natCast, List.getElem_set]
        rw [if_neg (by omega)]
      rw [g3]
      simp only [Option.bind_some, Int.toNat_natCast]
      exact .some ⟨⟨by simp [m1], (m2.set hx).set hy, fun x hx => mem_swap (by omega) hjm (m3 x hx), j - 1, rfl, by omega⟩, by simp only; omega⟩
    · exact .some ⟨m1, m2, m3⟩
  · have hj' : ¬ (0 : Int) < j := hj
    simp only [hj', decide_false, cond_false, Option.bind_some]
    exact .some ⟨m1, m2, m3⟩
theorem gI_mem {P : α → Prop} {f : α → α → Int} {c : α → α → Option Int} (hc : ∀ x y, P x → P y → c x y = some (f x y)) {l : List α} (hl : l.length ≤ 100000) (hP : All P l) : Ok (gI c l 0 l.length) (fun r => ∀ x ∈ l, x ∈ r) := by
  unfold gI
  have w : IntKind.wrap .i64 ((0 : Int) + 1) = 1 := by decide
  rw [w]
  refine Ok.bind (P := fun r : List α => ∀ x ∈ l, x ∈ r) (loop_ok (fun s : List α × Int => s.1.length = l.length ∧ All P s.1 ∧ (∀ x ∈ l, x ∈ s.1) ∧ ∃ i : Nat, s.2 = (i : Int)) (fun s => ((l.length : Int) - s.2).toNat) ?_
    ⟨rfl, hP, fun x h => h, 1, rfl⟩) fun r hr => .some hr
  rintro ⟨m, q⟩ ⟨m1, m2, m3, i, rfl⟩
  simp only at m1 m2 m3
  unfold gI1
  by_cases hi : i < l.length
  · have hi' : (i : Int) < l.length := by omega
    have w1 : IntKind.wrap .i64 ((i : Int) + 1) = ((i + 1 : Nat) : Int) := by rw [wrap64 (by omega) (by omega)]; omega
    simp only [hi', decide_true, cond_true]
    refine (gI2_mem hc (n := l.length) hl m1 m2 m3 hi).bind fun r hr => ?_
    rw [w1]
    exact .some ⟨⟨hr.1, hr.2.1, hr.2.2, i + 1, rfl⟩, by simp only; omega⟩
  · have hi' : ¬ (i : Int) < l.length := by omega
    simp only [hi', decide_false, cond_false]
    exact .some m3
theorem Ok.and {f : Option α} {P Q : α → Prop} (h1 : Ok f P) (h2 : Ok f Q) : Ok f (fun r => P r ∧ Q r) := by
  obtain ⟨r, e1, p1⟩ := h1
  obtain ⟨s, e2, p2⟩ := h2
  rw [e1] at e2
  obtain rfl := Option.some.inj e2
  exact ⟨r, e1, p1, p2⟩
end

/-! ### Sorting of strings -/
def cmpS (x y : List UInt8) : Option Int := some (Lib.compareBytes x y)
theorem Less_eq (x y : List UInt8) : cmp_Less_string x y = some (decide (Lib.compareBytes x y < 0)) := by
  unfold cmp_Less_string cmp_Less_string_x1 cmp_isNaN_string
  simp only [Option.bind_some, decide_true, Bool.not_true, cond_false, cmpB_less]
theorem ins3_eq : slices_insertionSortOrdered_string_o0_x3 = gI3 cmpS := by
  funext qa l j
  unfold slices_insertionSortOrdered_string_o0_x3 gI3
  simp only [Less_eq, cmpS, Option.bind_some]
theorem ins2_eq : slices_insertionSortOrdered_string_o0_x2 = gI2 cmpS := by
  funext qa ⟨l, j⟩
  unfold slices_insertionSortOrdered_string_o0_x2 gI2
  rw [ins3_eq]
theorem ins1_eq : slices_insertionSortOrdered_string_o0_x1 = gI1 cmpS := by
  funext qa qb ⟨l, j⟩
  unfold slices_insertionSortOrdered_string_o0_x1 gI1
  rw [ins2_eq]
theorem ins_eq : slices_insertionSortOrdered_string_o0 = gI cmpS := by
  funext l qa qb
  unfold slices_insertionSortOrdered_string_o0 gI
  rw [ins1_eq]
theorem bitLen12 (n : Nat) (h : n ≤ 12) : Ok (bits_Len (IntKind.wrap .u64 (n : Int))) (fun _ => True) := by
  match n, h with
  | 0, _ => exact ⟨0, by kernel_rfl, trivial⟩
  | 1, _ => exact ⟨1, by kernel_rfl, trivial⟩
  | 2, _ => exact ⟨2, by kernel_rfl, trivial⟩
  | 3, _ => exact ⟨2, by kernel_rfl, trivial⟩
  | 4, _ => exact ⟨3, by kernel_rfl, trivial⟩
  | 5, _ => exact ⟨3, by kernel_rfl, trivial⟩
  | 6, _ => exact ⟨3, by kernel_rfl, trivial⟩
  | 7, _ => exact ⟨3, by kernel_rfl, trivial⟩
  | 8, _ => exact ⟨4, by kernel_rfl, trivial⟩
  | 9, _ => exact ⟨4, by kernel_rfl, trivial⟩
  | 10, _ => exact ⟨4, by kernel_rfl, trivial⟩
  | 11, _ => exact ⟨4, by kernel_rfl, trivial⟩
  | 12, _ => exact ⟨4, by kernel_rfl, trivial⟩
theorem sortS_ok {P : List UInt8 → Prop} {l : List (List UInt8)} (hl : l.length ≤ 12) (hP : All P l) : Ok (slices_Sort_string_string_o0 l) (fun r => (r.length = l.length ∧ All P r ∧ Ord (fun x y => Lib.compareBytes x y) r l.length) ∧ ∀ x ∈ l, x ∈ r) := by
  unfold slices_Sort_string_string_o0
  refine (bitLen12 l.length hl).bind fun b _ => ?_
  have hI := (gI_ord (P := P) (f := fun x y => Lib.compareBytes x y) (c := cmpS) (fun _ _ _ _ => rfl) (fun x y => cmpB_anti _ _) (fun x y z => cmpB_tr) (l := l) (by omega) hP).and (gI_mem (P := P) (f := fun x y => Lib.compareBytes x y) (c := cmpS) (fun _ _ _ _ => rfl) (l := l) (by omega) hP)
  obtain ⟨r, h1, h2⟩ := hI
  have e : slices_pdqsortOrdered_string_o0 l 0 l.length b = some r := by
    unfold slices_pdqsortOrdered_string_o0
    have : loopO (slices_pdqsortOrdered_string_o0_x1 l 0 (l.length : Int) b) () = some r := by
      refine loop_out ?_
      unfold slices_pdqsortOrdered_string_o0_x1
      have w : IntKind.wrap .i64 ((l.length : Int) - 0) = l.length := by rw [wrap64 (by omega) (by omega)]; omega
      have hc : (l.length : Int) ≤ 12 := by omega
      rw [w, ins_eq, h1]
      simp only [hc, decide_true, cond_true, Option.bind_some, gd, h2.1.1, beq_self_eq_true]
    rw [this]; rfl
  rw [e]
  simp only [Option.bind_some]
  exact .gd (by simp [h2.1.1]) (.some h2)
theorem comS_eq : slices_Compact_string_string_o0 = gCom (fun a b => some (decide (a = b))) [] := by kernel_rfl

/-! ### Names -/
theorem foldl_app {α β : Type} (f : α → β) : ∀ (l : List α) (s : List β), l.foldl (fun s c => s ++ [f c]) s = s ++ l.map f
  | [], s => by simp
  | x :: l, s => by rw [List.foldl_cons, foldl_app f l]; simp
theorem names2_eq {a : List api_Prop} {s : List (List UInt8)} (h : a.length + s.length ≤ 10000) : loopO (twin_names_o0_x2 a) (s, 0) = some (s ++ a.map api_Prop.Name) := by
  have := fold_loop0 (l := a) (f := twin_names_o0_x2 a) (fun (s : List (List UInt8)) i => (s, i)) (fun s c => s ++ [c.Name]) id (fun i m => m.length ≤ s.length + i) (s0 := s) (by omega)
    (fun i hi m hm => by
      have hc : (i : Int) < a.length := by omega
      refine ⟨?_, by simp; omega⟩
      unfold twin_names_o0_x2
      simp only [hc, decide_true, cond_true, at_nat hi, Option.bind_some, gd]
      rw [lim_ok (by simp; omega)]
      rfl)
    (fun s _ => by unfold twin_names_o0_x2; simp) (by simp)
  rw [this.1, foldl_app]
  rfl
end Go.Eng

/-
Twins: what is owed.
-/
namespace Go.Eng
open Go
set_option linter.unusedVariables false
set_option linter.unusedSimpArgs false

/-! ### Values of names -/
def zV : api_Value := api_Value.mk 0 false 0 []
def vo (l : List api_Prop) (n : List UInt8) : api_Value := match l.find? fun p => decide (p.Name = n) with | some p => p.Value | none => zV
theorem vo_mem {l : List api_Prop} (hs : PSrt l) {p : api_Prop} (hp : p ∈ l) : vo l p.Name = p.Value := by
  unfold vo
  cases h : l.find? fun q => decide (q.Name = p.Name) with
  | none =>
    have := List.find?_eq_none.1 h p hp
    simp at this
  | some q =>
    have h1 : q.Name = p.Name := by simpa using List.find?_some h
    have h2 := List.mem_of_find?_eq_some h
    simp only
    obtain ⟨i, hi, rfl⟩ := List.mem_iff_getElem.1 hp
    obtain ⟨j, hj, rfl⟩ := List.mem_iff_getElem.1 h2
    rcases Nat.lt_trichotomy i j with h3 | h3 | h3
    · have := (List.pairwise_iff_getElem.1 hs) i j hi hj h3
      rw [h1] at this
      exact absurd this (nlt_irrefl _)
    · subst h3; rfl
    · have := (List.pairwise_iff_getElem.1 hs) j i hj hi h3
      rw [h1] at this
      exact absurd this (nlt_irrefl _)
theorem vo_none {l : List api_Prop} {n : List UInt8} (h : ∀ p ∈ l, p.Name ≠ n) : vo l n = zV := by
  unfold vo
  have : (l.find? fun p => decide (p.Name = n)) = none := List.find?_eq_none.2 fun p hp => by simpa using h p hp
  rw [this]
theorem vo_cases {l : List api_Prop} (hs : PSrt l) (n : List UInt8) : (∃ p ∈ l, p.Name = n ∧ vo l n = p.Value) ∨ ((∀ p ∈ l, p.Name ≠ n) ∧ vo l n = zV) := by
  by_cases h : ∃ p ∈ l, p.Name = n
  · obtain ⟨p, hp, rfl⟩ := h
    exact .inl ⟨p, hp, rfl, vo_mem hs hp⟩
  · have h2 : ∀ p ∈ l, p.Name ≠ n := fun p hp e => h ⟨p, hp, e⟩
    exact .inr ⟨h2, vo_none h2⟩
theorem valueOf_eq {l : List api_Prop} (hs : PSrt l) (hl : l.length ≤ 10000) (n : List UInt8) : twin_valueOf l n = some (vo l n) := by
  unfold twin_valueOf
  rcases find_eq hs hl n with ⟨h1, h2⟩ | ⟨i, hi, h1, h2⟩
  · rw [h1, vo_none h2]; rfl
  · have h0 : (0 : Int) ≤ (i : Int) := by omega
    rw [h1]
    simp only [Option.bind_some, h0, decide_true, cond_true, at_nat hi]
    have := vo_mem hs (List.getElem_mem hi)
    rw [h2] at this
    rw [this]

/-! ### What is visible -/
theorem up_len {α : Type} (f : α → Int) : ∀ {l : List α} {lo hi : Int}, l.Pairwise (fun x y => f x < f y) → (∀ x ∈ l, lo ≤ f x ∧ f x ≤ hi) → lo ≤ hi + 1 → (l.length : Int) ≤ hi - lo + 1
  | [], lo, hi, _, _, h => by simp; omega
  | x :: l, lo, hi, hp, hb, h => by
    obtain ⟨h1, h2⟩ := List.pairwise_cons.1 hp
    have h3 := hb x (List.mem_cons_self ..)
    have := up_len f (l := l) (lo := f x + 1) (hi := hi) h2 (fun y hy => ⟨by have := h1 y hy; omega, (hb y (List.mem_cons_of_mem _ hy)).2⟩) (by omega)
    simp only [List.length_cons]
    omega
/-! ### What is gone -/
def eqV (a b : api_Value) : Bool := (decide (a.Kind = b.Kind) && ((a.Flag == b.Flag) && (decide (a.Number = b.Number) && (decide (a.Words = b.Words) && true))))
theorem eqV_iff {a b : api_Value} : eqV a b = true ↔ a = b := veq_iff
end Go.Eng

/-
Lists of properties that streams make: they are right.
-/
namespace Go.Eng
open Go
set_option linter.unusedVariables false
set_option linter.unusedSimpArgs false

/-! ### Sorting keeps what there is -/
section
variable {α : Type}
theorem swap_pm {l : List α} {j : Nat} (h : 0 < j) (hj : j < l.length) : ((l.set j (l[j - 1]'(by omega))).set (j - 1) l[j]).Perm l := by
  have h1 := Array.swap_perm (xs := l.toArray) (i := j) (j := j - 1) (by simpa using hj) (by simp; omega)
  have h2 := Array.perm_iff_toList_perm.1 h1
  simpa [Array.swap] using h2
theorem gI2_pm {P : α → Prop} {f : α → α → Int} {c : α → α → Option Int} (hc : ∀ x y, P x → P y → c x y = some (f x y)) {n : Nat} (hn : n ≤ 100000) {l0 l : List α} (hl : l.length = n) (hP : All P l) (h0 : l.Perm l0) {i : Nat} (hi : i < n) :
    Ok (loopO (gI2 c 0) (l, (i : Int))) (fun r => r.length = n ∧ All P r ∧ r.Perm l0) := by
  refine loop_ok (fun s : List α × Int => s.1.length = n ∧ All P s.1 ∧ s.1.Perm l0 ∧ ∃ j : Nat, s.2 = (j : Int) ∧ j ≤ i) (fun s => s.2.toNat) ?_ ⟨hl, hP, h0, i, rfl, Nat.le_refl _⟩
  rintro ⟨m, q⟩ ⟨m1, m2, m3, j, rfl, j1⟩
  simp only at m1 m2 m3
  unfold gI2 gI3
  by_cases hj : (0 : Int) < j
  · have w1 : IntKind.wrap .i64 ((j : Int) - 1) = ((j - 1 : Nat) : Int) := by rw [wrap64 (by omega) (by omega)]; omega
    have hjm : j < m.length := by omega
    have hjm1 : j - 1 < m.length := by omega
    have hy := m2 _ (List.getElem_mem hjm)
    have hx := m2 _ (List.getElem_mem hjm1)
    simp only [hj, decide_true, cond_true, w1, at_nat hjm, at_nat hjm1, Option.bind_some, hc _ _ hy hx]
    refine .cond (fun hlt => ?_) (fun hge => ?_)
    · have g3 : at? (m.set (j : Int).toNat m[j - 1]) ((j - 1 : Nat) : Int) = some m[j - 1] := by
        rw [at_nat (by simp; omega)]
        simp only [Int.toNat_natCast, List.getElem_set]
        rw [if_neg (by omega)]
      rw [g3]
      simp only [Option.bind_some, Int.toNat_natCast]
      exact .some ⟨⟨by simp [m1], (m2.set hx).set hy, (swap_pm (by omega) hjm).trans m3, j - 1, rfl, by omega⟩, by simp only; omega⟩
    · exact .some ⟨m1, m2, m3⟩
  · have hj' : ¬ (0 : Int) < j := hj
    simp only [hj', decide_false, cond_false, Option.bind_some]
    exact .some ⟨m1, m2, m3⟩
theorem gI_pm {P : α → Prop} {f : α → α → Int} {c : α → α → Option Int} (hc : ∀ x y, P x → P y → c x y = some (f x y)) {l : List α} (hl : l.length ≤ 100000) (hP : All P l) : Ok (gI c l 0 l.length) (fun r => r.Perm l) := by
  unfold gI
  have w : IntKind.wrap .i64 ((0 : Int) + 1) = 1 := by decide
  rw [w]
  refine Ok.bind (P := fun r : List α => r.Perm l) (loop_ok (fun s : List α × Int => s.1.length = l.length ∧ All P s.1 ∧ s.1.Perm l ∧ ∃ i : Nat, s.2 = (i : Int)) (fun s => ((l.length : Int) - s.2).toNat) ?_
    ⟨rfl, hP, List.Perm.refl _, 1, rfl⟩) fun r hr => .some hr
  rintro ⟨m, q⟩ ⟨m1, m2, m3, i, rfl⟩
  simp only at m1 m2 m3
  unfold gI1
  by_cases hi : i < l.length
  · have hi' : (i : Int) < l.length := by omega
    have w1 : IntKind.wrap .i64 ((i : Int) + 1) = ((i + 1 : Nat) : Int) := by rw [wrap64 (by omega) (by omega)]; omega
    simp only [hi', decide_true, cond_true]
    refine (gI2_pm hc (n := l.length) hl m1 m2 m3 hi).bind fun r hr => ?_
    rw [w1]
    exact .some ⟨⟨hr.1, hr.2.1, hr.2.2, i + 1, rfl⟩, by simp only; omega⟩
  · have hi' : ¬ (i : Int) < l.length := by omega
    simp only [hi', decide_false, cond_false]
    exact .some m3
end
def cmpP (x y : api_Prop) : Option Int := some (Lib.compareBytes x.Name y.Name)
theorem insP_eq : slices_insertionSortCmpFunc_api_Prop_o0_f3_fleetmake_propOrder = gI cmpP := by kernel_rfl
def POrd (l : List api_Prop) : Prop := Ord (fun x y : api_Prop => Lib.compareBytes x.Name y.Name) l l.length
theorem sortP_ok {l : List api_Prop} (hl : l.length ≤ 12) : Ok (slices_SortFunc_api_Prop_api_Prop_o0_f1_fleetmake_propOrder l) (fun r => r.Perm l ∧ POrd r) := by
  unfold slices_SortFunc_api_Prop_api_Prop_o0_f1_fleetmake_propOrder
  refine (bitLen12 l.length hl).bind fun b _ => ?_
  have hP : All (fun _ : api_Prop => True) l := fun _ _ => trivial
  have hI := (gI_ord (P := fun _ => True) (f := fun x y : api_Prop => Lib.compareBytes x.Name y.Name) (c := cmpP) (fun _ _ _ _ => rfl) (fun x y => cmpB_anti _ _) (fun x y z => cmpB_tr) (l := l) (by omega) hP).and (gI_pm (P := fun _ => True) (f := fun x y : api_Prop => Lib.compareBytes x.Name y.Name) (c := cmpP) (fun _ _ _ _ => rfl) (l := l) (by omega) hP)
  obtain ⟨r, h1, ⟨h2, h3, h4⟩, h5⟩ := hI
  have e : slices_pdqsortCmpFunc_api_Prop_o0_f4_fleetmake_propOrder l 0 l.length b = some r := by
    unfold slices_pdqsortCmpFunc_api_Prop_o0_f4_fleetmake_propOrder
    have : loopO (slices_pdqsortCmpFunc_api_Prop_o0_f4_fleetmake_propOrder_x1 l 0 (l.length : Int) b) () = some r := by
      refine loop_out ?_
      unfold slices_pdqsortCmpFunc_api_Prop_o0_f4_fleetmake_propOrder_x1
      have w : IntKind.wrap .i64 ((l.length : Int) - 0) = l.length := by rw [wrap64 (by omega) (by omega)]; omega
      have hc : (l.length : Int) ≤ 12 := by omega
      rw [w, insP_eq, h1]
      simp only [hc, decide_true, cond_true, Option.bind_some, gd, h2, beq_self_eq_true]
    rw [this]; rfl
  rw [e]
  simp only [Option.bind_some]
  refine .gd (by simp [h2]) (.some ⟨h5, ?_⟩)
  unfold POrd
  rw [h2]
  exact h4
/-- sorted, and each name once -/
theorem psrt_of {l : List api_Prop} (h : POrd l) (hn : (l.map api_Prop.Name).Nodup) : PSrt l := by
  unfold PSrt
  rw [List.pairwise_iff_getElem]
  intro i j hi hj hij
  have h1 := h i j hij hj (Nat.le_refl _)
  rcases cmpB_cases l[i].Name l[j].Name with h2 | h2 | h2
  · exact h2
  · have := (List.pairwise_iff_getElem.1 hn) i j (by simpa using hi) (by simpa using hj) hij
    simp at this
    exact absurd h2 this
  · unfold nlt at h2
    have := cmpB_anti l[i].Name l[j].Name
    simp only at h1
    omega
theorem psrt_names {l : List api_Prop} (h : PSrt l) : (l.map api_Prop.Name).Nodup := by
  unfold List.Nodup
  rw [List.pairwise_map]
  exact h.imp fun hxy => nlt_ne hxy
theorem psrt_nodup {l : List api_Prop} (h : PSrt l) : l.Nodup := by
  unfold List.Nodup
  exact List.Pairwise.imp (fun hab e => nlt_ne hab (congrArg api_Prop.Name e)) h
theorem pext : ∀ {l m : List api_Prop}, PSrt l → PSrt m → (∀ p, p ∈ l ↔ p ∈ m) → l = m := by
  intro l m h1 h2 h
  have hp : l.Perm m := (List.perm_ext_iff_of_nodup (psrt_nodup h1) (psrt_nodup h2)).2 h
  exact List.Perm.eq_of_pairwise (le := fun x y : api_Prop => nlt x.Name y.Name) (fun a b _ _ hab hba => absurd hba (nlt_asymm hab)) h1 h2 hp

/-! ### Values and names -/
def rv15 : List api_Value := [api_Value.mk 1 false 0 [], api_Value.mk 1 true 0 [], api_Value.mk 3 false 0 [], api_Value.mk 3 false 0 [120], api_Value.mk 3 false 0 [97, 32, 34, 98, 34], api_Value.mk 3 false 0 [92],
  api_Value.mk 3 false 0 [195, 169], api_Value.mk 3 false 0 [45, 32, 49], api_Value.mk 2 false 1 [], api_Value.mk 2 false 2 [], api_Value.mk 2 false 3 [], api_Value.mk 2 false 0 [], api_Value.mk 2 false (-5) [], api_Value.mk 2 false 1000000000 []]
theorem rv_own : (rv15.all fun v => decide (twin_valueFault v = some 0) && !decide (v.Kind = 0)) = true := by kernel_rfl
theorem rv_ref : (rv15.all fun v => decide (fleetref2_ValueFault v = some 0)) = true := by kernel_rfl
theorem nm7_ref : (nm7.all fun n => decide (fleetref2_PropName n = some true)) = true := by kernel_rfl
theorem nm7_above : (nm7.all fun a => nm7.all fun b => decide (fleetref2_above a b = some (belB b a))) = true := by kernel_rfl
def RP (p : api_Prop) : Prop := p.Name ∈ nm7 ∧ p.Value ∈ rv15
theorem isName7 {n : List UInt8} (h : n ∈ nm7) : twin_isName n = some true := of_decide_eq_true (List.all_eq_true.1 nm7_ok _ h)
theorem RP.gp {p : api_Prop} (h : RP p) : GP p := by
  have := List.all_eq_true.1 rv_own _ h.2
  simp only [Bool.and_eq_true, decide_eq_true_eq, Bool.not_eq_true', decide_eq_false_iff_not] at this
  exact ⟨isName7 h.1, this.1, this.2⟩
theorem RP.len {p : api_Prop} (h : RP p) : (p.Name.length : Int) ≤ 9223372036854775807 := by
  have := of_decide_eq_true (List.all_eq_true.1 nm7_len _ h.1)
  omega
theorem RightValue_in {k : Nat} {s : fleetmake_Stream} (h : StrOk k s) (hk : k + 10 < 1099511627776) : Ok (fleetmake_Stream_RightValue s) (fun v => v ∈ rv15) := by
  unfold fleetmake_Stream_RightValue
  have h1 := nxt_mk h (by omega)
  refine (Next_ok h (by omega) (by unfold I64; omega)).bind fun n _ => .cond (fun _ => ?_) (fun _ => .cond (fun _ => ?_) (fun _ => ?_))
  · exact (Flip_ok h1 (by omega) (by unfold I64; omega)).bind fun b _ => .some (by cases b <;> simp [rv15])
  · refine (Some_ok h1 (by omega) (by simp) (by simp)).bind fun w hw => .some ?_
    simp at hw
    rcases hw with rfl | rfl | rfl | rfl | rfl | rfl <;> simp [rv15]
  · refine (Pick_ok h1 (by omega) (by simp) (by simp)).bind fun n hn => .some ?_
    simp at hn
    rcases hn with rfl | rfl | rfl | rfl | rfl | rfl | rfl <;> simp [rv15]

/-! ### The reference's check -/
theorem above7 {a b : List UInt8} (ha : a ∈ nm7) (hb : b ∈ nm7) : fleetref2_above a b = some (belB b a) := of_decide_eq_true (List.all_eq_true.1 (List.all_eq_true.1 nm7_above _ ha) _ hb)
theorem refC_eq {l : List api_Prop} (hl : l.length ≤ 1000) (hR : ∀ p ∈ l, RP p) {p : api_Prop} (hp : RP p) : slices_ContainsFunc_api_Prop_api_Prop_f1_fleetref2_PropsFault_1 l p = some (l.any fun q => belB p.Name q.Name) := by
  have h0 : slices_ContainsFunc_api_Prop_api_Prop_f1_fleetref2_PropsFault_1 l p = ((slices_IndexFunc_api_Prop_api_Prop_f1_fleetref2_PropsFault_1 l p).bind fun vr2 => some (decide (0 ≤ vr2))) := rfl
  rw [h0]
  unfold slices_IndexFunc_api_Prop_api_Prop_f1_fleetref2_PropsFault_1
  obtain ⟨x, h1, h2⟩ := find_loop (l := l) (f := slices_IndexFunc_api_Prop_api_Prop_f1_fleetref2_PropsFault_1_x1 l p) (fun q => belB p.Name q.Name) (by omega) (fun i h => by
    unfold slices_IndexFunc_api_Prop_api_Prop_f1_fleetref2_PropsFault_1_x1 fleetref2_PropsFault_1
    have hc : (i : Int) < l.length := by omega
    simp only [hc, decide_true, cond_true, at_nat h, Option.bind_some, above7 (hR _ (List.getElem_mem h)).1 hp.1]
    cases belB p.Name l[i].Name <;> rfl) (by unfold slices_IndexFunc_api_Prop_api_Prop_f1_fleetref2_PropsFault_1_x1; simp)
  rw [h1, ← h2]
  cases x <;> rfl
def Anti (l : List api_Prop) : Prop := ∀ p ∈ l, ∀ q ∈ l, belB p.Name q.Name = false
theorem refP_ok {l : List api_Prop} (hl : l.length ≤ 400) (hR : ∀ p ∈ l, RP p) : Ok (fleetref2_PropsFault l) (fun e => e = 0 → PSrt l ∧ Anti l) := by
  unfold fleetref2_PropsFault
  refine .cond (fun h => absurd (of_decide_eq_true h) (by omega)) fun _ => ?_
  have one : Ok (loopO (fleetref2_PropsFault_x1 l) 0) (fun r => match r with | .inl _ => PSrt l | .inr e => e ≠ 0) := by
    refine loop_ok (fun s : Int => ∃ i : Nat, s = (i : Int) ∧ i ≤ l.length ∧ ∀ j (h0 : 0 < j) (h : j < i) (hl : j < l.length), nlt (l[j - 1]'(by omega)).Name l[j].Name) (fun s => ((l.length : Int) - s).toNat) ?_ ⟨0, rfl, by omega, fun j h0 h => by omega⟩
    rintro _ ⟨i, rfl, i1, i2⟩
    unfold fleetref2_PropsFault_x1
    by_cases hi : i < l.length
    · have hc : (i : Int) < l.length := by omega
      have hp := hR _ (List.getElem_mem hi)
      have w1 : IntKind.wrap .i64 ((i : Int) + 1) = ((i + 1 : Nat) : Int) := by rw [wrap64 (by omega) (by omega)]; omega
      have e1 : fleetref2_PropName l[i].Name = some true := of_decide_eq_true (List.all_eq_true.1 nm7_ref _ hp.1)
      have e2 : fleetref2_ValueFault (api_Value.mk l[i].Value.Kind l[i].Value.Flag l[i].Value.Number l[i].Value.Words) = some 0 := of_decide_eq_true (List.all_eq_true.1 rv_ref _ hp.2)
      have e3 := hp.gp.2.2
      simp only [hc, decide_true, cond_true, at_nat hi, Option.bind_some, e1, e2, e3, Bool.not_true, cond_false, decide_false, w1]
      unfold fleetref2_PropsFault_x2
      cases i with
      | zero =>
        simp only [show ¬ (0 : Int) < ((0 : Nat) : Int) by omega, decide_false, cond_false, Option.bind_some]
        exact .some ⟨⟨1, rfl, by omega, fun j h0 h => by omega⟩, by omega⟩
      | succ i =>
        have hp0 : (0 : Int) < ((i + 1 : Nat) : Int) := by omega
        have w : IntKind.wrap .i64 (((i + 1 : Nat) : Int) - 1) = (i : Int) := by rw [wrap64 (by omega) (by omega)]; omega
        simp only [hp0, decide_true, cond_true, w, at_nat (show i < l.length by omega), Option.bind_some]
        refine .cond (fun _ => .some (by simp)) fun hlt => .some ⟨⟨i + 1 + 1, rfl, by omega, fun j h0 h hjl => ?_⟩, by omega⟩
        by_cases hj : j < i + 1
        · exact i2 j h0 hj hjl
        · have : j = i + 1 := by omega
          subst this
          simp only [Bool.or_eq_false_iff, cmpB_less, decide_eq_false_iff_not] at hlt
          show nlt l[i].Name l[i + 1].Name
          rcases cmpB_cases l[i].Name l[i + 1].Name with h2 | h2 | h2
          · exact h2
          · exact absurd h2.symm hlt.2
          · exact absurd h2 hlt.1
    · have hc : ¬ (i : Int) < l.length := by omega
      simp only [hc, decide_false, cond_false]
      refine .some ?_
      show PSrt l
      have key : ∀ (d j : Nat) (hj : j + d + 1 < l.length), nlt (l[j]'(by omega)).Name l[j + d + 1].Name := by
        intro d
        induction d with
        | zero =>
          intro j hj
          exact i2 (j + 1) (by omega) (by omega) (by omega)
        | succ d ih =>
          intro j hj
          exact nlt_trans (ih j (by omega)) (i2 (j + d + 2) (by omega) (by omega) (by omega))
      unfold PSrt
      rw [List.pairwise_iff_getElem]
      intro i j hi hj hij
      have := key (j - i - 1) i (by omega)
      simpa [show i + (j - i - 1) + 1 = j by omega] using this
  obtain ⟨r, h1, h2⟩ := one
  rw [h1]
  cases r with
  | inr e => exact .some fun h => absurd h h2
  | inl _ =>
    have h2 : PSrt l := h2
    simp only [Option.bind_some]
    rw [range_loop (l := l) (fun _ p => bif l.any (fun q => belB p.Name q.Name) then some (.inr ()) else none) (.inl ()) (by omega)]
    · cases hs : scan (fun _ p => bif l.any (fun q => belB p.Name q.Name) then some (.inr () : Unit ⊕ Unit) else none) 0 l with
      | some x =>
        have : x = .inr () := by
          have key : ∀ (m : List api_Prop) (k : Nat), scan (fun _ p => bif l.any (fun q => belB p.Name q.Name) then some (.inr () : Unit ⊕ Unit) else none) k m = some x → x = .inr () := by
            intro m
            induction m with
            | nil => intro k h; simp [scan] at h
            | cons y m ih =>
              intro k h
              simp only [scan] at h
              cases hb : l.any fun q => belB y.Name q.Name with
              | true => rw [hb] at h; simp at h; exact h.symm
              | false => rw [hb] at h; exact ih _ h
          exact key _ _ hs
        subst this
        exact .some fun h => by cases h
      | none =>
        refine .some fun _ => ⟨h2, fun p hp q hq => ?_⟩
        obtain ⟨i, hi, rfl⟩ := List.mem_iff_getElem.1 hp
        have := scan_none.1 hs i l[i] (List.getElem?_eq_getElem hi)
        cases hb : l.any fun q => belB l[i].Name q.Name with
        | true => rw [hb] at this; cases this
        | false =>
          have := List.any_eq_false.1 hb q hq
          simpa using this
    · intro i hi
      have hc : (i : Int) < l.length := by omega
      have hp := hR _ (List.getElem_mem hi)
      unfold fleetref2_PropsFault_x3
      have e : slices_ContainsFunc_api_Prop_api_Prop_f1_fleetref2_PropsFault_1 l (api_Prop.mk l[i].Name (api_Value.mk l[i].Value.Kind l[i].Value.Flag l[i].Value.Number l[i].Value.Words)) = some (l.any fun q => belB l[i].Name q.Name) := refC_eq (by omega) hR hp
      simp only [hc, decide_true, cond_true, at_nat hi, Option.bind_some, e]
      cases l.any (fun q => belB l[i].Name q.Name) <;> rfl
    · unfold fleetref2_PropsFault_x3; simp

/-! ### Right properties -/
structure GR (l : List api_Prop) : Prop where
  rp : ∀ p ∈ l, RP p
  srt : PSrt l
  anti : Anti l
def rk4 (n : List UInt8) : Int := if n = [97] then 1 else if n = [97, 46, 120] then 1 else if n = [97, 46, 120, 46, 112] then 1 else if n = [97, 46, 121] then 2 else if n = [97, 98] then 3 else 4
theorem rk4_up : (nm7.all fun n => nm7.all fun m => !decide (rk n < rk m) || (belB m n || decide (rk4 n < rk4 m))) = true := by decide
theorem rk4_range : (nm7.all fun n => decide (1 ≤ rk4 n) && decide (rk4 n ≤ 4)) = true := by decide
theorem GR.len {l : List api_Prop} (h : GR l) : l.length ≤ 4 := by
  have := up_len (fun p : api_Prop => rk4 p.Name) (l := l) (lo := 1) (hi := 4) (List.Pairwise.imp_of_mem (fun {p q} hp hq hpq => by
    have h1 := (rk_spec (h.rp p hp).1 (h.rp q hq).1).2.1.1 hpq
    have h2 := List.all_eq_true.1 (List.all_eq_true.1 rk4_up _ (h.rp p hp).1) _ (h.rp q hq).1
    simpa [h1, h.anti q hq p hp] using h2) h.srt) (fun p hp => by
    have := List.all_eq_true.1 rk4_range _ (h.rp p hp).1
    simpa using this) (by omega)
  omega
theorem RightProps_ok {k : Nat} {s : fleetmake_Stream} (h : StrOk k s) (hk : k + 100 < 1099511627776) : Ok (fleetmake_Stream_RightProps s) (fun r => StrOk (k + 60) r.1 ∧ GR r.2) := by
  unfold fleetmake_Stream_RightProps
  refine (Range_ok h (by omega) (by omega) (by omega)).bind fun ⟨s1, n⟩ ⟨r1, r2, r3, _⟩ => ?_
  simp only at r1 r2 r3
  have r3 := r3 (by omega)
  refine Ok.bind (P := fun q : fleetmake_Stream × List api_Prop => StrOk (k + 60) q.1 ∧ GR q.2) ?_ fun q hq => .some hq
  refine loop_ok (fun q : fleetmake_Stream × List api_Prop × Int => ∃ j : Nat, q.2.2 = (j : Int) ∧ (j : Int) ≤ 5 ∧ StrOk (k + 1 + 3 * j) q.1 ∧ GR q.2.1) (fun q => ((5 : Int) - q.2.2).toNat) ?_ ⟨0, rfl, by omega, by simpa using r1, ⟨(fun _ h => nomatch h), List.Pairwise.nil, (fun _ h => nomatch h)⟩⟩
  rintro ⟨s2, l, i⟩ ⟨j, rfl, j1, j2, j3⟩
  simp only at j2 j3
  unfold fleetmake_Stream_RightProps_x1
  refine .cond (fun hc => ?_) (fun hc => .some ⟨j2.mono (by omega), j3⟩)
  have hc : (j : Int) < n := by simpa using hc
  have hlen := j3.len
  have hx2 : Ok (fleetmake_Stream_RightProps_x2 s2 l) GR := by
    unfold fleetmake_Stream_RightProps_x2 slices_Clone_api_Prop_api_Prop
    have hb : Nat.ble (([] : List api_Prop).length + l.length) LIM = true := lim_ok (by simp; omega)
    rw [hb]
    simp only [gd, cond_true, Option.bind_some]
    refine (Some_ok j2 (by omega) (by simp) (by simp)).bind fun w hw => ?_
    have a1 := nxt_mk j2 (by omega)
    refine (RightValue_in a1 (by omega)).bind fun v hv => ?_
    have hw7 : w ∈ nm7 := by
      simp at hw
      rcases hw with rfl | rfl | rfl | rfl | rfl | rfl | rfl <;> decide
    rw [lim_ok (show (l.length + [api_Prop.mk w v].length) ≤ 100000 by simp; omega)]
    simp only [cond_true]
    refine (sortP_ok (by simp; omega)).bind fun r ⟨q1, q2⟩ => ?_
    have hr : ∀ p ∈ r, RP p := by
      intro p hp
      rcases List.mem_append.1 (q1.mem_iff.1 hp) with hp | hp
      · exact j3.rp p hp
      · rw [List.mem_singleton] at hp; subst hp; exact ⟨hw7, hv⟩
    have hlr : r.length = (l ++ [api_Prop.mk w v]).length := q1.length_eq
    rw [hlr]
    simp only [beq_self_eq_true, cond_true]
    refine (refP_ok (by rw [hlr]; simp; omega) hr).bind fun e he => .cond (fun h0 => .some ⟨hr, ?_, ?_⟩) fun _ => .some j3
    · exact (he (of_decide_eq_true h0)).1
    · exact (he (of_decide_eq_true h0)).2
  refine hx2.bind fun m hm => ?_
  have w1 : IntKind.wrap .i64 ((j : Int) + 1) = ((j + 1 : Nat) : Int) := by rw [wrap64 (by omega) (by omega)]; omega
  refine .some ⟨⟨j + 1, w1, by omega, (nxt_mk (nxt_mk (nxt_mk j2 (by omega)) (by omega)) (by omega)).mono (by omega), hm⟩, ?_⟩
  show ((5 : Int) - IntKind.wrap .i64 ((j : Int) + 1)).toNat < _
  rw [w1]; simp only; omega
end Go.Eng

/-
Checks of properties: the code's and the reference's say the same.
-/
namespace Go.Eng
open Go
set_option linter.unusedVariables false
set_option linter.unusedSimpArgs false

/-! ### Values -/
theorem eqV_self' (v : api_Value) : eqV v v = true := eqV_iff.2 rfl
theorem eqV_comm' (x y : api_Value) : eqV x y = eqV y x := by
  cases h : eqV x y with
  | true => rw [eqV_iff.1 h, eqV_self']
  | false =>
    cases h2 : eqV y x with
    | false => rfl
    | true => rw [eqV_iff.1 h2, eqV_self'] at h; cases h
theorem in_not (n low high : Int) : fleetref2_in n low high = some (!(decide (n < low) || decide (high < n))) := by
  unfold fleetref2_in fleetref2_in_x1
  by_cases h1 : low ≤ n
  · have h2 : ¬ n < low := by omega
    by_cases h3 : n ≤ high
    · have h4 : ¬ high < n := by omega
      simp [h1, h2, h3, h4]
    · have h4 : high < n := by omega
      simp [h1, h2, h3, h4]
  · have h2 : n < low := by omega
    simp [h1, h2]
/-- what is used of a value -/
def pl (v : api_Value) : api_Value := if v.Kind = 1 then api_Value.mk v.Kind v.Flag 0 [] else if v.Kind = 2 then api_Value.mk v.Kind false v.Number [] else if v.Kind = 3 then api_Value.mk v.Kind false 0 v.Words else api_Value.mk v.Kind false 0 []
def vfI (v : api_Value) (b : Bool) : Int := bif decide (v.Kind < 0) || decide (3 < v.Kind) then 4 else bif !eqV v (pl v) then 3 else bif decide (v.Number < -1000000000) || decide (1000000000 < v.Number) then 1 else
  bif decide (1000 < (v.Words.length : Int)) then 2 else bif !b then 3 else 0
def KW (w : List UInt8) (b : Bool) : Prop := w.length ≤ 1000 → base_Unmarked w = some b ∧ fleetref2_Printed w = some b
theorem vf_own {v : api_Value} {b : Bool} (h : KW v.Words b) : twin_valueFault v = some (vfI v b) := by
  have last : (bif decide (1000 < (v.Words.length : Int)) then some 2 else (base_Unmarked v.Words).bind fun vr1 => bif !vr1 then some 3 else some 0) = some (bif decide (1000 < (v.Words.length : Int)) then 2 else bif !b then 3 else 0 : Int) := by
    by_cases hl : 1000 < (v.Words.length : Int)
    · simp [hl]
    · rw [(h (by omega)).1]
      simp only [hl, decide_false, cond_false, Option.bind_some]
      cases b <;> rfl
  have x1 : twin_valueFault_x1 v = if v.Kind < 0 ∨ 3 < v.Kind then some (.inr ()) else some (.inl (pl v)) := by
    unfold twin_valueFault_x1 pl
    by_cases k0 : v.Kind = 0
    · simp [k0]
    · by_cases k1 : v.Kind = 1
      · simp [k1]
      · by_cases k2 : v.Kind = 2
        · simp [k2]
        · by_cases k3 : v.Kind = 3
          · simp [k3]
          · have : v.Kind < 0 ∨ 3 < v.Kind := by omega
            simp [k0, k1, k2, k3, this]
  unfold twin_valueFault
  rw [x1]
  unfold vfI
  by_cases hk : v.Kind < 0 ∨ 3 < v.Kind
  · rw [if_pos hk]
    have : (decide (v.Kind < 0) || decide (3 < v.Kind)) = true := by simpa using hk
    rw [this]; rfl
  · rw [if_neg hk]
    have : (decide (v.Kind < 0) || decide (3 < v.Kind)) = false := by simpa using hk
    rw [this]
    simp only [Option.bind_some, cond_false]
    show (bif !eqV v (pl v) then some 3 else _) = _
    cases eqV v (pl v) with
    | false => rfl
    | true =>
      simp only [Bool.not_true, cond_false, Out_eq, Option.bind_some]
      cases (decide (v.Number < -1000000000) || decide (1000000000 < v.Number)) with
      | true => rfl
      | false => exact last
theorem vf_ref {v : api_Value} {b : Bool} (h : KW v.Words b) : fleetref2_ValueFault v = some (vfI v b) := by
  have last : (bif decide (1000 < (v.Words.length : Int)) then some 2 else (fleetref2_Printed v.Words).bind fun vr1 => bif !vr1 then some 3 else some 0) = some (bif decide (1000 < (v.Words.length : Int)) then 2 else bif !b then 3 else 0 : Int) := by
    by_cases hl : 1000 < (v.Words.length : Int)
    · simp [hl]
    · rw [(h (by omega)).2]
      simp only [hl, decide_false, cond_false, Option.bind_some]
      cases b <;> rfl
  have x1 : fleetref2_ValueFault_x1 v = some (pl v) := by
    unfold fleetref2_ValueFault_x1 pl
    by_cases k1 : v.Kind = 1
    · simp [k1]
    · by_cases k2 : v.Kind = 2
      · simp [k2]
      · by_cases k3 : v.Kind = 3
        · simp [k3]
        · simp [k1, k2, k3]
  unfold fleetref2_ValueFault
  rw [x1]
  unfold vfI
  simp only [in_not, Option.bind_some, Bool.not_not]
  cases (decide (v.Kind < 0) || decide (3 < v.Kind)) with
  | true => rfl
  | false =>
    simp only [cond_false]
    have e : (decide ((pl v).Kind = v.Kind) && (((pl v).Flag == v.Flag) && (decide ((pl v).Number = v.Number) && (decide ((pl v).Words = v.Words) && true)))) = eqV v (pl v) := eqV_comm' (pl v) v
    rw [e]
    cases eqV v (pl v) with
    | false => rfl
    | true =>
      simp only [Bool.not_true, cond_false]
      cases (decide (v.Number < -1000000000) || decide (1000000000 < v.Number)) with
      | true => rfl
      | false => exact last

/-! ### Names above one another -/
theorem above_is (a b : List UInt8) (hl : a.length ≤ 10000) : fleetref2_above a b = some (belB b a) := by
  unfold fleetref2_above strings_HasPrefix stringslite_HasPrefix stringslite_HasPrefix_x1
  have h0 : Nat.ble (a.length + ([46] : List UInt8).length) LIM = true := lim_ok (by simp; omega)
  rw [h0]
  simp only [gd, cond_true, Option.bind_some]
  unfold belB
  by_cases h : (((a ++ ([46] : List UInt8)).length : Nat) : Int) ≤ (b.length : Int)
  · have hsub : sub? b 0 (((a ++ ([46] : List UInt8)).length : Nat) : Int) = some (b.take (a ++ ([46] : List UInt8)).length) := by
      unfold sub?
      rw [if_pos ⟨by omega, by omega, by omega⟩]
      simp
    simp only [h, decide_true, cond_true, hsub, Option.bind_some]
    congr 1
    rw [Bool.eq_iff_iff, decide_eq_true_iff, List.isPrefixOf_iff_prefix, List.prefix_iff_eq_take, eq_comm]
  · simp only [h, decide_false, cond_false, Option.bind_some]
    congr 1
    rw [eq_comm, Bool.eq_false_iff]
    intro hp
    have := (List.isPrefixOf_iff_prefix.1 hp).length_le
    omega
theorem refC_is {l : List api_Prop} (hl : l.length ≤ 1000) (hn : ∀ q ∈ l, q.Name.length ≤ 10000) (p : api_Prop) : slices_ContainsFunc_api_Prop_api_Prop_f1_fleetref2_PropsFault_1 l p = some (l.any fun q => belB p.Name q.Name) := by
  have h0 : slices_ContainsFunc_api_Prop_api_Prop_f1_fleetref2_PropsFault_1 l p = ((slices_IndexFunc_api_Prop_api_Prop_f1_fleetref2_PropsFault_1 l p).bind fun vr2 => some (decide (0 ≤ vr2))) := rfl
  rw [h0]
  unfold slices_IndexFunc_api_Prop_api_Prop_f1_fleetref2_PropsFault_1
  obtain ⟨x, h1, h2⟩ := find_loop (l := l) (f := slices_IndexFunc_api_Prop_api_Prop_f1_fleetref2_PropsFault_1_x1 l p) (fun q => belB p.Name q.Name) (by omega) (fun i h => by
    unfold slices_IndexFunc_api_Prop_api_Prop_f1_fleetref2_PropsFault_1_x1 fleetref2_PropsFault_1
    have hc : (i : Int) < l.length := by omega
    simp only [hc, decide_true, cond_true, at_nat h, Option.bind_some, above_is _ _ (hn _ (List.getElem_mem h))]
    cases belB p.Name l[i].Name <;> rfl) (by unfold slices_IndexFunc_api_Prop_api_Prop_f1_fleetref2_PropsFault_1_x1; simp)
  rw [h1, ← h2]
  cases x <;> rfl
theorem above_eq {l : List api_Prop} (hs : PSrt l) (hl : l.length ≤ 10000) {n : List UInt8} (hn : (n.length : Int) ≤ 9223372036854775807) : twin_above_f1_twin_CheckProps_1 n l = some (l.any fun q => belB n q.Name) := by
  unfold twin_above_f1_twin_CheckProps_1
  rw [range_loop (l := n) (fun i c => bif decide ((c.toNat : Int) = 46) && (l.any fun q => decide (q.Name = n.take i)) then some (.inr ()) else none) (.inl ()) hn]
  · cases hs2 : scan (fun i c => bif decide (((c : UInt8).toNat : Int) = 46) && (l.any fun q => decide (q.Name = n.take i)) then some (.inr () : Unit ⊕ Unit) else none) 0 n with
    | none =>
      have hno : (l.any fun q => belB n q.Name) = false := by
        rw [List.any_eq_false]
        intro q hq hb
        obtain ⟨r, hr⟩ := bel_iff.1 hb
        have h1 : n[q.Name.length]? = some 46 := by rw [hr]; simp
        have := scan_none.1 hs2 q.Name.length 46 h1
        have h2 : (l.any fun q' => decide (q'.Name = n.take (0 + q.Name.length))) = true := List.any_eq_true.2 ⟨q, hq, by rw [hr]; simp⟩
        rw [h2] at this
        exact absurd this (by simp)
      rw [hno]; rfl
    | some x =>
      have key : ∀ (m : List UInt8) (k : Nat), m = n.drop k → scan (fun i c => bif decide (((c : UInt8).toNat : Int) = 46) && (l.any fun q => decide (q.Name = n.take i)) then some (.inr () : Unit ⊕ Unit) else none) k m = some x → x = .inr () ∧ (l.any fun q => belB n q.Name) = true := by
        intro m
        induction m with
        | nil => intro k _ h; simp [scan] at h
        | cons y m ih =>
          intro k hm h
          simp only [scan] at h
          cases hb : (decide ((y.toNat : Int) = 46) && (l.any fun q => decide (q.Name = n.take k))) with
          | false =>
            rw [hb] at h
            refine ih (k + 1) ?_ h
            have := congrArg List.tail hm
            simpa using this
          | true =>
            rw [hb] at h
            simp at h
            refine ⟨h.symm, ?_⟩
            simp only [Bool.and_eq_true, decide_eq_true_eq, List.any_eq_true] at hb
            obtain ⟨h46, q, hq, hqn⟩ := hb
            have hy : y = 46 := by
              have : y.toNat = (46 : UInt8).toNat := by show y.toNat = 46; omega
              exact UInt8.toNat_inj.1 this
            refine List.any_eq_true.2 ⟨q, hq, bel_iff.2 ⟨m, ?_⟩⟩
            rw [hqn, ← hy, hm, List.take_append_drop]
      obtain ⟨h1, h2⟩ := key n 0 rfl hs2
      subst h1
      rw [h2]; rfl
  · intro i hi
    unfold twin_above_f1_twin_CheckProps_1_x1 twin_above_f1_twin_CheckProps_1_x2
    have hc : (i : Int) < n.length := by omega
    simp only [hc, decide_true, cond_true, at_nat hi, Option.bind_some]
    by_cases h2 : (n[i].toNat : Int) = 46
    · have hsub : sub? n 0 (i : Int) = some (n.take i) := by
        unfold sub?
        rw [if_pos ⟨by omega, by omega, by omega⟩]
        simp
      simp only [h2, decide_true, cond_true, hsub, Option.bind_some, twin_CheckProps_1, Bool.true_and]
      rcases find_eq hs hl (n.take i) with ⟨f1, f2⟩ | ⟨k, hk, f1, f2⟩
      · have : (l.any fun q => decide (q.Name = n.take i)) = false := by
          rw [List.any_eq_false]
          intro q hq h
          exact f2 q hq (by simpa using h)
        rw [f1, this]; rfl
      · have : (l.any fun q => decide (q.Name = n.take i)) = true := List.any_eq_true.2 ⟨l[k], List.getElem_mem hk, by simpa using f2⟩
        have h0 : (0 : Int) ≤ (k : Int) := by omega
        rw [f1, this]
        simp only [Option.bind_some, h0, decide_true, cond_true]
    · simp only [h2, decide_false, cond_false, Option.bind_some, Bool.false_and]
  · unfold twin_above_f1_twin_CheckProps_1_x1
    simp

/-! ### The checks -/
/-- a property of which both checks know what to say -/
def KP (p : api_Prop) : Prop := (∃ b, twin_isName p.Name = some b ∧ fleetref2_PropName p.Name = some b) ∧ (∃ b, KW p.Value.Words b) ∧ p.Name.length ≤ 10000
theorem x1_same {l : List api_Prop} (h : ∀ p ∈ l, KP p) : twin_CheckProps_x1 l = fleetref2_PropsFault_x1 l := by
  funext i
  unfold twin_CheckProps_x1 fleetref2_PropsFault_x1
  cases ha : at? l i with
  | none => rfl
  | some p =>
    have hp : p ∈ l := by
      unfold at? at ha
      split at ha
      · exact List.mem_of_getElem? ha
      · cases ha
    obtain ⟨⟨b, h1, h2⟩, ⟨c, h3⟩, _⟩ := h p hp
    simp only [Option.bind_some, h1, h2]
    have e1 : twin_valueFault (api_Value.mk p.Value.Kind p.Value.Flag p.Value.Number p.Value.Words) = some (vfI p.Value c) := vf_own h3
    have e2 : fleetref2_ValueFault (api_Value.mk p.Value.Kind p.Value.Flag p.Value.Number p.Value.Words) = some (vfI p.Value c) := vf_ref h3
    rw [e1, e2]
    rfl
structure PGood (l : List api_Prop) : Prop where
  srt : PSrt l
  anti : Anti l
  gp : ∀ p ∈ l, GP p
theorem one_ok {l : List api_Prop} (hl : l.length ≤ 400) (hK : ∀ p ∈ l, KP p) : Ok (loopO (twin_CheckProps_x1 l) 0) (fun r => match r with | .inl _ => PSrt l ∧ ∀ p ∈ l, GP p | .inr e => e ≠ 0) := by
  refine loop_ok (fun s : Int => ∃ i : Nat, s = (i : Int) ∧ i ≤ l.length ∧ (∀ j (h0 : 0 < j) (h : j < i) (hl : j < l.length), nlt (l[j - 1]'(by omega)).Name l[j].Name) ∧ ∀ j (h : j < i) (hl : j < l.length), GP l[j]) (fun s => ((l.length : Int) - s).toNat) ?_ ⟨0, rfl, by omega, fun j h0 h => by omega, fun j h => by omega⟩
  rintro _ ⟨i, rfl, i1, i2, i3⟩
  unfold twin_CheckProps_x1
  by_cases hi : i < l.length
  · have hc : (i : Int) < l.length := by omega
    have w1 : IntKind.wrap .i64 ((i : Int) + 1) = ((i + 1 : Nat) : Int) := by rw [wrap64 (by omega) (by omega)]; omega
    obtain ⟨⟨b, h1, h2⟩, ⟨c, h3⟩, _⟩ := hK _ (List.getElem_mem hi)
    have e1 : twin_valueFault (api_Value.mk l[i].Value.Kind l[i].Value.Flag l[i].Value.Number l[i].Value.Words) = some (vfI l[i].Value c) := vf_own h3
    simp only [hc, decide_true, cond_true, at_nat hi, Option.bind_some, h1, e1, w1]
    refine .cond (fun _ => .some (by simp)) fun hb => .cond (fun hz => .some ?_) fun hz => .cond (fun _ => .some (by simp)) fun hk => ?_
    · show vfI l[i].Value c ≠ 0
      simpa using hz
    have hb : b = true := by simpa using hb
    have hz : vfI l[i].Value c = 0 := by simpa using hz
    have hk : l[i].Value.Kind ≠ 0 := by simpa using hk
    have gp : GP l[i] := ⟨by rw [h1, hb], by rw [vf_own h3, hz], hk⟩
    have gps : ∀ j (h : j < i + 1) (hl : j < l.length), GP l[j] := fun j h hjl => by
      by_cases hj : j < i
      · exact i3 j hj hjl
      · have : j = i := by omega
        subst this; exact gp
    unfold twin_CheckProps_x2
    cases i with
    | zero =>
      simp only [show ¬ (0 : Int) < ((0 : Nat) : Int) by omega, decide_false, cond_false, Option.bind_some]
      exact .some ⟨⟨1, rfl, by omega, fun j h0 h => by omega, gps⟩, by omega⟩
    | succ i =>
      have hp0 : (0 : Int) < ((i + 1 : Nat) : Int) := by omega
      have w : IntKind.wrap .i64 (((i + 1 : Nat) : Int) - 1) = (i : Int) := by rw [wrap64 (by omega) (by omega)]; omega
      simp only [hp0, decide_true, cond_true, w, at_nat (show i < l.length by omega), Option.bind_some]
      refine .cond (fun _ => .some (by simp)) fun hlt => .some ⟨⟨i + 1 + 1, rfl, by omega, fun j h0 h hjl => ?_, gps⟩, by omega⟩
      by_cases hj : j < i + 1
      · exact i2 j h0 hj hjl
      · have : j = i + 1 := by omega
        subst this
        simp only [Bool.or_eq_false_iff, cmpB_less, decide_eq_false_iff_not] at hlt
        show nlt l[i].Name l[i + 1].Name
        rcases cmpB_cases l[i].Name l[i + 1].Name with h2 | h2 | h2
        · exact h2
        · exact absurd h2.symm hlt.2
        · exact absurd h2 hlt.1
  · have hc : ¬ (i : Int) < l.length := by omega
    simp only [hc, decide_false, cond_false]
    refine .some ⟨?_, fun p hp => ?_⟩
    · have key : ∀ (d j : Nat) (hj : j + d + 1 < l.length), nlt (l[j]'(by omega)).Name l[j + d + 1].Name := by
        intro d
        induction d with
        | zero =>
          intro j hj
          exact i2 (j + 1) (by omega) (by omega) (by omega)
        | succ d ih =>
          intro j hj
          exact nlt_trans (ih j (by omega)) (i2 (j + d + 2) (by omega) (by omega) (by omega))
      unfold PSrt
      rw [List.pairwise_iff_getElem]
      intro i j hi hj hij
      have := key (j - i - 1) i (by omega)
      simpa [show i + (j - i - 1) + 1 = j by omega] using this
    · obtain ⟨j, hj, rfl⟩ := List.mem_iff_getElem.1 hp
      exact i3 j (by omega) hj
/-- both checks say the same -/
theorem checks {l : List api_Prop} (hl : l.length ≤ 400) (hK : ∀ p ∈ l, KP p) : ∃ e, twin_CheckProps l = some e ∧ fleetref2_PropsFault l = some e ∧ (e = 0 → PGood l) := by
  have h500 : ¬ (500 : Int) < l.length := by omega
  unfold twin_CheckProps fleetref2_PropsFault
  simp only [h500, decide_false, cond_false]
  rw [← x1_same hK]
  obtain ⟨r, h1, h2⟩ := one_ok hl hK
  rw [h1]
  cases r with
  | inr e => exact ⟨e, rfl, rfl, fun h => absurd h h2⟩
  | inl _ =>
    obtain ⟨hs, hg⟩ : PSrt l ∧ ∀ p ∈ l, GP p := h2
    simp only [Option.bind_some]
    have f1 : ∀ i : Nat, (h : i < l.length) → twin_CheckProps_x3 l i = some (bif l.any (fun q => belB l[i].Name q.Name) then .inr (.inr ()) else .inl (IntKind.wrap .i64 (i + 1))) := by
      intro i hi
      have hc : (i : Int) < l.length := by omega
      have hp := (hK _ (List.getElem_mem hi)).2.2
      unfold twin_CheckProps_x3
      simp only [hc, decide_true, cond_true, at_nat hi, Option.bind_some, above_eq hs (show l.length ≤ 10000 by omega) (show (l[i].Name.length : Int) ≤ 9223372036854775807 by omega)]
      cases l.any (fun q => belB l[i].Name q.Name) <;> rfl
    have f2 : ∀ i : Nat, (h : i < l.length) → fleetref2_PropsFault_x3 l i = some (bif l.any (fun q => belB l[i].Name q.Name) then .inr (.inr ()) else .inl (IntKind.wrap .i64 (i + 1))) := by
      intro i hi
      have hc : (i : Int) < l.length := by omega
      unfold fleetref2_PropsFault_x3
      have e : slices_ContainsFunc_api_Prop_api_Prop_f1_fleetref2_PropsFault_1 l (api_Prop.mk l[i].Name (api_Value.mk l[i].Value.Kind l[i].Value.Flag l[i].Value.Number l[i].Value.Words)) = some (l.any fun q => belB l[i].Name q.Name) := refC_is (by omega) (fun q hq => (hK q hq).2.2) l[i]
      simp only [hc, decide_true, cond_true, at_nat hi, Option.bind_some, e]
      cases l.any (fun q => belB l[i].Name q.Name) <;> rfl
    have g1 := range_loop (l := l) (f := twin_CheckProps_x3 l) (fun _ p => bif l.any (fun q => belB p.Name q.Name) then some (.inr () : Unit ⊕ Unit) else none) (.inl ()) (by omega) (fun i hi => by
      rw [f1 i hi]; cases l.any (fun q => belB l[i].Name q.Name) <;> rfl) (by unfold twin_CheckProps_x3; simp)
    have g2 := range_loop (l := l) (f := fleetref2_PropsFault_x3 l) (fun _ p => bif l.any (fun q => belB p.Name q.Name) then some (.inr () : Unit ⊕ Unit) else none) (.inl ()) (by omega) (fun i hi => by
      rw [f2 i hi]; cases l.any (fun q => belB l[i].Name q.Name) <;> rfl) (by unfold fleetref2_PropsFault_x3; simp)
    rw [g1, g2]
    cases hs2 : scan (fun _ p => bif l.any (fun q => belB p.Name q.Name) then some (.inr () : Unit ⊕ Unit) else none) 0 l with
    | some x =>
      cases x with
      | inl _ =>
        have key : ∀ (m : List api_Prop) (k : Nat), scan (fun _ p => bif l.any (fun q => belB p.Name q.Name) then some (.inr () : Unit ⊕ Unit) else none) k m ≠ some (.inl ()) := by
          intro m
          induction m with
          | nil => intro k h; simp [scan] at h
          | cons y m ih =>
            intro k h
            simp only [scan] at h
            cases hb : l.any fun q => belB y.Name q.Name with
            | true => rw [hb] at h; simp at h
            | false => rw [hb] at h; exact ih _ h
        exact absurd hs2 (key _ _)
      | inr _ => exact ⟨13, rfl, rfl, fun h => by cases h⟩
    | none =>
      refine ⟨0, rfl, rfl, fun _ => ⟨hs, fun p hp q hq => ?_, hg⟩⟩
      obtain ⟨i, hi, rfl⟩ := List.mem_iff_getElem.1 hp
      have := scan_none.1 hs2 i l[i] (List.getElem?_eq_getElem hi)
      cases hb : l.any fun q => belB l[i].Name q.Name with
      | true => rw [hb] at this; cases this
      | false =>
        have := List.any_eq_false.1 hb q hq
        simpa using this
end Go.Eng

/-
Properties that streams make, nearly always right ones: names, values, words.
-/
namespace Go.Eng
open Go
set_option linter.unusedVariables false
set_option linter.unusedSimpArgs false

def nm18 : List (List UInt8) := nm7 ++ [[97, 45, 49], [], [65], [97, 46], [46, 97], [97, 46, 46, 98], [97, 46, 98, 46, 99, 46, 100, 46, 101, 46, 102, 46, 103, 46, 104, 46, 105], [97, 32, 98], List.replicate 41 97]
noncomputable def okName (n : List UInt8) : Bool := match twin_isName n, fleetref2_PropName n with
  | some a, some b => a == b
  | _, _ => false
theorem nm18_same : (nm18.all okName) = true := by kernel_rfl
theorem nm18_len : (nm18.all fun n => decide (n.length ≤ 100)) = true := by decide
theorem okName_spec {n : List UInt8} (h : okName n = true) : ∃ b, twin_isName n = some b ∧ fleetref2_PropName n = some b := by
  unfold okName at h
  split at h
  · rename_i a b h1 h2
    have : a = b := by simpa using h
    subst this
    exact ⟨a, h1, h2⟩
  · cases h
def wd11 : List (List UInt8) := [[], [120], [97, 32, 34, 98, 34], [92], [195, 169], [45, 32, 49], [10], [127], [255], [122]]
noncomputable def okWord (w : List UInt8) : Bool := match base_Unmarked w, fleetref2_Printed w with
  | some a, some b => a == b
  | _, _ => false
theorem wd11_same : (wd11.all okWord) = true := by kernel_rfl
theorem okWord_spec {w : List UInt8} (h : w ∈ wd11) : ∃ b, KW w b := by
  have h := List.all_eq_true.1 wd11_same _ h
  unfold okWord at h
  split at h
  · rename_i a b h1 h2
    have : a = b := by simpa using h
    subst this
    exact ⟨a, fun _ => ⟨h1, h2⟩⟩
  · cases h
end Go.Eng

/-
Twins: cells and properties that streams make, nearly always right ones; checks of cells.
-/
namespace Go.Eng
open Go
set_option linter.unusedVariables false
set_option linter.unusedSimpArgs false

theorem twinned_eq : fleetlaw2_twinned = some true := by kernel_rfl
theorem errs2 (a b : Int) : fleetlaw2_errs [a, b] = some (or0 a b) := by
  unfold fleetlaw2_errs or0
  rw [range_loop (l := [a, b]) (fun _ x => if x = 0 then none else some (.inr x)) (.inl ()) (by simp)]
  · by_cases ha : a = 0 <;> by_cases hb : b = 0 <;> simp [scan, ha, hb]
  · intro i hi
    unfold fleetlaw2_errs_x1
    have hc : (i : Int) < ([a, b] : List Int).length := by omega
    simp only [hc, decide_true, cond_true, at_nat hi, Option.bind_some]
    by_cases h0 : ([a, b] : List Int)[i] = 0 <;> simp [h0]
  · unfold fleetlaw2_errs_x1; simp
theorem First_ab (a b : Int) : base_First [a, b] = some (or0 a b) := by
  unfold base_First or0
  rw [range_loop (l := [a, b]) (fun _ x => if x = 0 then none else some (.inr x)) (.inl ()) (by simp)]
  · by_cases ha : a = 0 <;> by_cases hb : b = 0 <;> simp [scan, ha, hb]
  · intro i hi
    unfold base_First_x1
    have hc : (i : Int) < ([a, b] : List Int).length := by omega
    simp only [hc, decide_true, cond_true, at_nat hi, Option.bind_some]
    by_cases h0 : ([a, b] : List Int)[i] = 0 <;> simp [h0]
  · unfold base_First_x1; simp
theorem CF2_ab (a b : Int) : loopO (fleetref2_CellsFault_x2 a b) 0 = some (if or0 a b = 0 then .inl () else .inr (or0 a b)) := by
  unfold or0
  rw [range_loop (l := [a, b]) (fun _ x => if x = 0 then none else some (.inr x)) (.inl ()) (by simp)]
  · by_cases ha : a = 0 <;> by_cases hb : b = 0 <;> simp [scan, ha, hb]
  · intro i hi
    unfold fleetref2_CellsFault_x2
    have hc : (i : Int) < ([a, b] : List Int).length := by omega
    simp only [hc, decide_true, cond_true, at_nat hi, Option.bind_some]
    by_cases h0 : ([a, b] : List Int)[i] = 0 <;> simp [h0]
  · unfold fleetref2_CellsFault_x2; simp

/-! ### What streams make -/
def KVal (v : api_Value) : Prop := ∃ b, KW v.Words b
theorem kval_in {v : api_Value} (h : v.Words ∈ wd11) : KVal v := okWord_spec h
theorem rv15_words : (rv15.all fun v => wd11.any fun w => decide (w = v.Words)) = true := by kernel_rfl
theorem rv15_in {v : api_Value} (h : v ∈ rv15) : v.Words ∈ wd11 := by
  have := List.all_eq_true.1 rv15_words v h
  obtain ⟨w, hw, h2⟩ := List.any_eq_true.1 this
  have := of_decide_eq_true h2
  rw [← this]; exact hw
theorem rep41 : strings_Repeat [97] 41 = some (List.replicate 41 97) := by kernel_rfl
theorem rep1001 : strings_Repeat [119] 1001 = some (Lib.repeatL [119] 1001) := by
  unfold strings_Repeat
  exact rfl
theorem PropName_ok {k : Nat} {s : fleetmake_Stream} (h : StrOk k s) (hk : k + 10 < 1099511627776) : Ok (fleetmake_Stream_PropName s) (fun n => n ∈ nm18) := by
  unfold fleetmake_Stream_PropName
  have h1 := nxt_mk h (by omega)
  refine (Flip_ok h (by omega) (by unfold I64; omega)).bind fun b _ => .cond (fun _ => ?_) (fun _ => ?_)
  · rw [rep41]
    simp only [Option.bind_some]
    refine (Some_ok h1 (by omega) (by simp) (by simp)).bind fun w hw => .some ?_
    unfold nm18
    simp only [List.mem_cons, List.not_mem_nil, or_false] at hw
    rcases hw with h | h | h | h | h | h | h | h <;> subst h <;> simp
  · refine (Some_ok h1 (by omega) (by simp) (by simp)).bind fun w hw => .some ?_
    unfold nm18 nm7
    simp only [List.mem_cons, List.not_mem_nil, or_false] at hw
    rcases hw with h | h | h | h | h | h | h | h | h | h <;> subst h <;> simp
def Bd (n : Int) : Prop := -2000000000000 ≤ n ∧ n ≤ 2000000000000
theorem OddP_ok {k : Nat} {s : fleetmake_Stream} {lo hi : Int} (h : StrOk k s) (hk : k + 10 < 1099511627776) (h1 : -1000000000 ≤ lo ∧ lo ≤ hi ∧ hi ≤ 1000000000) : Ok (fleetmake_Stream_Odd s lo hi) (fun r => StrOk (k + 2) r.1 ∧ Bd r.2) := by
  unfold fleetmake_Stream_Odd
  have a1 := nxt_mk h (by omega)
  refine (Flip_ok h (by omega) (by unfold I64; omega)).bind fun b _ => .cond (fun _ => ?_) (fun _ => ?_)
  · refine (Pick_ok a1 (by omega) (by simp) (by simp)).bind fun n hn => .some ⟨nxt_mk a1 (by omega), ?_⟩
    have w1 : IntKind.wrap .i64 (lo - 1) = lo - 1 := wrap64 (by omega) (by omega)
    have w2 : IntKind.wrap .i64 (hi + 1) = hi + 1 := wrap64 (by omega) (by omega)
    rw [w1, w2] at hn
    simp only [List.mem_cons, List.not_mem_nil, or_false] at hn
    unfold Bd
    simp only
    omega
  · refine (Range_ok a1 (by omega) (by omega) (by omega)).bind fun ⟨s1, n⟩ ⟨r1, r2, r3, _⟩ => ?_
    simp only at r1 r2 r3
    have r3 := r3 (by omega)
    exact .some ⟨r1, by unfold Bd; simp only; omega⟩
theorem Value_ok {k : Nat} {s : fleetmake_Stream} (h : StrOk k s) (hk : k + 20 < 1099511627776) : Ok (fleetmake_Stream_Value s) (fun r => StrOk (k + 8) r.1 ∧ KVal r.2) := by
  unfold fleetmake_Stream_Value
  have a1 := nxt_mk h (by omega)
  have a2 := nxt_mk a1 (by omega)
  have a3 := nxt_mk a2 (by omega)
  have a4 := nxt_mk a3 (by omega)
  have a5 := nxt_mk a4 (by omega)
  refine (RightValue_in h (by omega)).bind fun v hv => (Flip_ok a2 (by omega) (by unfold I64; omega)).bind fun b _ => .cond (fun _ => ?_) (fun _ => ?_)
  · exact .some ⟨a3.mono (by omega), kval_in (by simp [wd11])⟩
  · have hw := rv15_in hv
    have hx : Ok (fleetmake_Stream_Value_x1 s v) (fun r => StrOk (k + 8) r.1 ∧ KVal r.2) := by
      unfold fleetmake_Stream_Value_x1
      refine (Flip_ok a3 (by omega) (by unfold I64; omega)).bind fun b _ => .cond (fun _ => ?_) (fun _ => .some ⟨a4.mono (by omega), kval_in hw⟩)
      refine (Next_ok a4 (by omega) (by unfold I64; omega)).bind fun n _ => .cond (fun _ => ?_) (fun _ => .cond (fun _ => .some ⟨a5.mono (by omega), kval_in hw⟩) (fun _ => .cond (fun _ => ?_) (fun _ => .cond (fun _ => ?_) (fun _ => ?_))))
      · exact (Pick_ok a5 (by omega) (by simp) (by simp)).bind fun m _ => .some ⟨(nxt_mk a5 (by omega)).mono (by omega), kval_in hw⟩
      · exact (OddP_ok a5 (by omega) (by omega)).bind fun ⟨s1, m⟩ ⟨r1, r2⟩ => .some ⟨r1.mono (by omega), kval_in hw⟩
      · rw [rep1001]
        simp only [Option.bind_some]
        refine (Some_ok a5 (by omega) (by simp) (by simp)).bind fun w hw => .some ⟨(nxt_mk a5 (by omega)).mono (by omega), ?_⟩
        simp only [List.mem_cons, List.not_mem_nil, or_false] at hw
        rcases hw with h | h | h | h
        · subst h; exact kval_in (by simp [wd11])
        · subst h; exact kval_in (by simp [wd11])
        · subst h; exact kval_in (by simp [wd11])
        · refine ⟨true, fun hl => ?_⟩
          rw [h] at hl
          rw [Lib.repeatL_length] at hl
          simp at hl
      · exact .some ⟨a5.mono (by omega), kval_in (by simp [wd11])⟩
    exact hx.bind fun ⟨s1, v1⟩ hr => .some hr
def by4 : List (List UInt8) := [[104], [107], [], [65], [100]]
structure KSt (s : api_Stamp) : Prop where
  at_ : Bd s.At
  no : Bd s.No
  by_ : s.By ∈ by4
theorem KP_of {p : api_Prop} (hn : p.Name ∈ nm18) (hv : KVal p.Value) : KP p := by
  refine ⟨okName_spec (List.all_eq_true.1 nm18_same _ hn), hv, ?_⟩
  have := of_decide_eq_true (List.all_eq_true.1 nm18_len _ hn)
  omega
/-- a cell of which both checks know what to say -/
structure KC (c : api_Cell) : Prop where
  name : nm c ∈ nm18
  val : KVal c.Prop_.Value
  st : KSt c.Stamp
theorem KC.kp {c : api_Cell} (h : KC c) : KP c.Prop_ := KP_of h.name h.val
theorem nm7_18 {n : List UInt8} (h : n ∈ nm7) : n ∈ nm18 := List.mem_append_left _ h
/-! ### Checks of cells -/
end Go.Eng

/-
The law PropsTell: what is wrong with properties, the value of a name, what is under a name.
-/
namespace Go.Eng
open Go
set_option linter.unusedVariables false
set_option linter.unusedSimpArgs false

theorem sortP_all {P : api_Prop → Prop} {l r : List api_Prop} (h : r.Perm l) (hP : ∀ p ∈ l, P p) : ∀ p ∈ r, P p := fun p hp => hP p (h.mem_iff.1 hp)
/-- a property of which both checks know what to say, made by streams -/
structure KQ (p : api_Prop) : Prop where
  name : p.Name ∈ nm18
  val : KVal p.Value
theorem KQ.kp {p : api_Prop} (h : KQ p) : KP p := KP_of h.name h.val
theorem RP.kq {p : api_Prop} (h : RP p) : KQ p := ⟨nm7_18 h.1, kval_in (rv15_in h.2)⟩
theorem Props_ok {k : Nat} {s : fleetmake_Stream} (h : StrOk k s) (hk : k + 200 < 1099511627776) : Ok (fleetmake_Stream_Props s) (fun r => StrOk (k + 90) r.1 ∧ (∀ p ∈ r.2, KQ p) ∧ r.2.length ≤ 5) := by
  unfold fleetmake_Stream_Props
  refine (RightProps_ok h (by omega)).bind fun ⟨s1, l⟩ ⟨b1, b2⟩ => ?_
  simp only at b1 b2
  have hlen := b2.len
  have hq : ∀ p ∈ l, KQ p := fun p hp => (b2.rp p hp).kq
  have hx : Ok (fleetmake_Stream_Props_x1 s1 l) (fun r => StrOk (k + 90) r.1 ∧ (∀ p ∈ r.2, KQ p) ∧ r.2.length ≤ 5) := by
    unfold fleetmake_Stream_Props_x1
    have a1 := nxt_mk b1 (by omega)
    have a2 := nxt_mk a1 (by omega)
    have a3 := nxt_mk a2 (by omega)
    refine (Flip_ok b1 (by omega) (by unfold I64; omega)).bind fun b _ => .cond (fun _ => ?_) (fun _ => .some ⟨a1.mono (by omega), hq, by simp only; omega⟩)
    refine (PropName_ok a1 (by omega)).bind fun n hn => ?_
    refine (Value_ok a3 (by omega)).bind fun ⟨s2, v⟩ ⟨v1, v2⟩ => ?_
    simp only at v1 v2
    have hall : ∀ p ∈ l ++ [api_Prop.mk n v], KQ p := by
      intro p hp
      rcases List.mem_append.1 hp with hp | hp
      · exact hq p hp
      · rw [List.mem_singleton] at hp; subst hp; exact ⟨hn, v2⟩
    refine .gd (lim_ok (by simp; omega)) ?_
    have a4 := nxt_mk v1 (by omega)
    refine (Flip_ok v1 (by omega) (by unfold I64; omega)).bind fun b _ => .cond (fun _ => ?_) (fun _ => .some ⟨a4.mono (by omega), hall, by simp; omega⟩)
    refine (sortP_ok (by simp; omega)).bind fun r ⟨q1, q2⟩ => ?_
    have hlr : r.length = (l ++ [api_Prop.mk n v]).length := q1.length_eq
    exact .gd (by rw [hlr]; simp) (.some ⟨a4.mono (by omega), sortP_all q1 hall, by simp only; rw [hlr]; simp; omega⟩)
  exact hx.bind fun ⟨s2, v1⟩ hr => .some hr

/-! ### What is under a name -/
/-! ### The value of a name -/
theorem ValueOf_eq {l : List api_Prop} (hl : l.length ≤ 10000) (n : List UInt8) : fleetref2_ValueOf l n = some (vo l n) := by
  unfold fleetref2_ValueOf vo
  rw [range_loop (l := l) (fun _ p => if p.Name = n then some (.inr p.Value) else none) (.inl ()) (by omega)]
  · have key : ∀ (m : List api_Prop) (k : Nat), scan (fun (_ : Nat) (p : api_Prop) => if p.Name = n then some (.inr p.Value : Unit ⊕ api_Value) else none) k m = (m.find? fun p => decide (p.Name = n)).map fun p => .inr p.Value := by
      intro m
      induction m with
      | nil => intro k; rfl
      | cons p m ih =>
        intro k
        simp only [scan]
        by_cases h : p.Name = n
        · simp [h]
        · simp only [h, if_false, List.find?_cons, decide_false]
          exact ih (k + 1)
    rw [key]
    cases l.find? fun p => decide (p.Name = n) <;> rfl
  · intro i hi
    unfold fleetref2_ValueOf_x1
    have hc : (i : Int) < l.length := by omega
    simp only [hc, decide_true, cond_true, at_nat hi, Option.bind_some]
    by_cases h : l[i].Name = n <;> simp [h]
  · unfold fleetref2_ValueOf_x1; simp
end Go.Eng

/-
Changes of properties: what makes one list of another, and back; what two sides made of one base.
-/
namespace Go.Eng
open Go
set_option linter.unusedVariables false
set_option linter.unusedSimpArgs false

/-! ### Names of several lists -/
/-! ### Changes -/
def chL (a b : List api_Prop) (ns : List (List UInt8)) : List api_Change := (ns.filter fun n => !eqV (vo a n) (vo b n)).map fun n => api_Change.mk n (vo a n) (vo b n)
/-! ### Back -/
def swp (c : api_Change) : api_Change := api_Change.mk c.Name c.To c.From
/-! ### Making changes -/
theorem aget_any {β : Type} (l : List (List UInt8 × β)) (n : List UInt8) : (aget l n).isSome = l.any fun e => decide (n = e.1) := by
  unfold aget
  rw [Option.isSome_map, List.isSome_find?]
theorem any_aput {β : Type} (l : List (List UInt8 × β)) (k n : List UInt8) (v : β) : ((aput l k v).any fun e => decide (n = e.1)) = (decide (n = k) || l.any fun e => decide (n = e.1)) := by
  unfold aput
  cases h : l.any fun e => decide (k = e.1) with
  | false =>
    have e : (l.any fun e => decide (n = e.1)) = ((l.takeWhile (fun e => KOrd.lt e.1 k)).any (fun e => decide (n = e.1)) || (l.dropWhile (fun e => KOrd.lt e.1 k)).any fun e => decide (n = e.1)) := by
      rw [← List.any_append, List.takeWhile_append_dropWhile]
    rw [e]
    simp only [cond_false, List.any_append, List.any_cons]
    cases decide (n = k) <;> cases (l.takeWhile (fun e => KOrd.lt e.1 k)).any (fun e => decide (n = e.1)) <;> rfl
  | true =>
    simp only [cond_true, List.any_map]
    have : ((fun e : List UInt8 × β => decide (n = e.1)) ∘ fun e => bif decide (k = e.1) then (k, v) else e) = fun e => decide (n = e.1) := by
      funext e
      simp only [Function.comp]
      by_cases hk : k = e.1
      · simp [hk]
      · simp [hk]
    rw [this]
    by_cases hn : n = k
    · subst hn; rw [h]; simp
    · simp [hn]
def putC (m : List (List UInt8 × api_Value)) (c : api_Change) : List (List UInt8 × api_Value) := aput m c.Name c.To
theorem put_any : ∀ (C : List api_Change) (m : List (List UInt8 × api_Value)) (n : List UInt8), ((C.foldl putC m).any fun e => decide (n = e.1)) = ((m.any fun e => decide (n = e.1)) || C.any fun c => decide (n = c.Name))
  | [], m, n => by simp
  | c :: C, m, n => by
    rw [List.foldl_cons, put_any C]
    unfold putC
    rw [any_aput, List.any_cons]
    cases decide (n = c.Name) <;> cases m.any (fun e => decide (n = e.1)) <;> simp
theorem sortA_eq : slices_SortFunc_api_Prop_api_Prop_o0_f1_twin_Apply_1 = slices_SortFunc_api_Prop_api_Prop_o0_f1_fleetmake_propOrder := by kernel_rfl
def appL (a : List api_Prop) (C : List api_Change) : List api_Prop := (a.filter fun p => !(C.any fun c => decide (p.Name = c.Name))) ++ (C.filter fun c => !decide (c.To.Kind = 0)).map fun c => api_Prop.mk c.Name c.To
end Go.Eng

/-
Maps whose keys are strings, as rows of entries in the order of their keys; sorting of what has an order.
-/
namespace Go.Eng
open Go
set_option linter.unusedVariables false
set_option linter.unusedSimpArgs false

section
variable {β : Type}
def KS (l : List (List UInt8 × β)) : Prop := l.Pairwise fun x y => nlt x.1 y.1
theorem ks_keys {l : List (List UInt8 × β)} (h : KS l) : (l.map (·.1)).Nodup := by
  unfold List.Nodup
  rw [List.pairwise_map]
  exact List.Pairwise.imp (fun hab => nlt_ne hab) h
theorem ks_one {l : List (List UInt8 × β)} (h : KS l) {x y : List UInt8 × β} (hx : x ∈ l) (hy : y ∈ l) (e : x.1 = y.1) : x = y := by
  obtain ⟨i, hi, rfl⟩ := List.mem_iff_getElem.1 hx
  obtain ⟨j, hj, rfl⟩ := List.mem_iff_getElem.1 hy
  have : i = j := (List.getElem_inj (h₀ := by simpa using hi) (h₁ := by simpa using hj) (ks_keys h)).1 (by simpa using e)
  subst this; rfl
theorem aget_none {l : List (List UInt8 × β)} {k : List UInt8} : aget l k = none ↔ ∀ x ∈ l, x.1 ≠ k := by
  unfold aget
  rw [Option.map_eq_none_iff, List.find?_eq_none]
  constructor
  · intro h x hx e
    exact h x hx (by simpa using e.symm)
  · intro h x hx e
    exact h x hx (by simpa using (of_decide_eq_true e).symm)
theorem aget_some {l : List (List UInt8 × β)} (h : KS l) {k : List UInt8} {v : β} : aget l k = some v ↔ (k, v) ∈ l := by
  constructor
  · intro ha
    unfold aget at ha
    obtain ⟨x, hx, rfl⟩ := Option.map_eq_some_iff.1 ha
    have h1 : k = x.1 := by simpa using List.find?_some hx
    have := List.mem_of_find?_eq_some hx
    rw [h1]; exact this
  · intro hm
    cases ha : aget l k with
    | none => exact absurd rfl (aget_none.1 ha _ hm)
    | some u =>
      unfold aget at ha
      obtain ⟨x, hx, rfl⟩ := Option.map_eq_some_iff.1 ha
      have h1 : k = x.1 := by simpa using List.find?_some hx
      have := ks_one h (List.mem_of_find?_eq_some hx) hm h1.symm
      rw [this]
theorem lt_is (a b : List UInt8) : KOrd.lt a b = true ↔ nlt a b := by
  show Op.bytesLess a b = true ↔ _
  rw [cmpB_less, decide_eq_true_iff]
  rfl
theorem aput_mem {l : List (List UInt8 × β)} {k : List UInt8} {v : β} {x : List UInt8 × β} : x ∈ aput l k v ↔ x = (k, v) ∨ (x ∈ l ∧ x.1 ≠ k) := by
  unfold aput
  cases ha : l.any fun e => decide (k = e.1) with
  | true =>
    simp only [cond_true, List.mem_map]
    constructor
    · rintro ⟨e, he, rfl⟩
      by_cases hk : k = e.1
      · simp [hk]
      · simp only [hk, decide_false, cond_false]
        exact .inr ⟨he, fun h => hk h.symm⟩
    · rintro (rfl | ⟨h1, h2⟩)
      · obtain ⟨e, he, hk⟩ := List.any_eq_true.1 ha
        exact ⟨e, he, by rw [hk]; rfl⟩
      · refine ⟨x, h1, ?_⟩
        have : ¬ k = x.1 := fun h => h2 h.symm
        simp [this]
  | false =>
    simp only [cond_false, List.mem_append, List.mem_cons]
    have hno : ∀ y ∈ l, y.1 ≠ k := fun y hy e => by
      have := List.any_eq_false.1 ha y hy
      exact this (by simpa using e.symm)
    have hsp : ∀ y, y ∈ l ↔ y ∈ l.takeWhile (fun e => KOrd.lt e.1 k) ∨ y ∈ l.dropWhile (fun e => KOrd.lt e.1 k) := fun y => by
      rw [← List.mem_append, List.takeWhile_append_dropWhile]
    constructor
    · rintro (h | rfl | h)
      · exact .inr ⟨(hsp x).2 (.inl h), hno x ((hsp x).2 (.inl h))⟩
      · exact .inl rfl
      · exact .inr ⟨(hsp x).2 (.inr h), hno x ((hsp x).2 (.inr h))⟩
    · rintro (rfl | ⟨h, _⟩)
      · exact .inr (.inl rfl)
      · rcases (hsp x).1 h with h | h
        · exact .inl h
        · exact .inr (.inr h)
theorem take_lt {l : List (List UInt8 × β)} {k : List UInt8} : ∀ x ∈ l.takeWhile (fun e => KOrd.lt e.1 k), nlt x.1 k := by
  induction l with
  | nil => intro x hx; simp at hx
  | cons y l ih =>
    intro x hx
    rw [List.takeWhile_cons] at hx
    cases hb : KOrd.lt y.1 k with
    | false => rw [hb] at hx; simp at hx
    | true =>
      rw [hb] at hx
      simp only [if_true, List.mem_cons] at hx
      rcases hx with rfl | hx
      · exact (lt_is _ _).1 hb
      · exact ih x hx
theorem drop_ge {k : List UInt8} : ∀ {l : List (List UInt8 × β)}, KS l → ∀ x ∈ l.dropWhile (fun e => KOrd.lt e.1 k), ¬ nlt x.1 k
  | [], _, x, hx => by simp at hx
  | y :: l, h, x, hx => by
    rw [List.dropWhile_cons] at hx
    obtain ⟨h1, h2⟩ := List.pairwise_cons.1 h
    cases hb : KOrd.lt y.1 k with
    | true =>
      rw [hb] at hx
      exact drop_ge h2 x (by simpa using hx)
    | false =>
      rw [hb] at hx
      simp only [Bool.false_eq_true, if_false, List.mem_cons] at hx
      have hy : ¬ nlt y.1 k := fun hc => by rw [(lt_is _ _).2 hc] at hb; cases hb
      rcases hx with rfl | hx
      · exact hy
      · intro hc
        exact hy (nlt_trans (h1 x hx) hc)
theorem aput_ks {l : List (List UInt8 × β)} (h : KS l) (k : List UInt8) (v : β) : KS (aput l k v) := by
  unfold aput
  cases ha : l.any fun e => decide (k = e.1) with
  | true =>
    simp only [cond_true]
    unfold KS
    rw [List.pairwise_map]
    refine List.Pairwise.imp ?_ h
    intro x y hxy
    have key : ∀ e : List UInt8 × β, (bif decide (k = e.1) then (k, v) else e).1 = e.1 := fun e => by
      by_cases hk : k = e.1
      · simp [hk]
      · simp [hk]
    rw [key, key]
    exact hxy
  | false =>
    simp only [cond_false]
    have hno : ∀ y ∈ l, y.1 ≠ k := fun y hy e => by
      have := List.any_eq_false.1 ha y hy
      exact this (by simpa using e.symm)
    have hgt : ∀ y ∈ l.dropWhile (fun e => KOrd.lt e.1 k), nlt k y.1 := fun y hy => by
      have h1 := drop_ge h y hy
      have h2 := hno y (List.dropWhile_sublist _ |>.subset hy)
      rcases cmpB_cases y.1 k with h3 | h3 | h3
      · exact absurd h3 h1
      · exact absurd h3 h2
      · exact h3
    unfold KS
    rw [List.pairwise_append]
    refine ⟨h.sublist (List.takeWhile_sublist _), List.pairwise_cons.2 ⟨hgt, h.sublist (List.dropWhile_sublist _)⟩, fun x hx y hy => ?_⟩
    have hx' := take_lt x hx
    rcases List.mem_cons.1 hy with rfl | hy
    · exact hx'
    · exact nlt_trans hx' (hgt y hy)
/-- entries put in one after the other -/
theorem puts_ks {γ : Type} (fk : γ → List UInt8) (fv : γ → β) : ∀ (o : List γ) (l : List (List UInt8 × β)), KS l → KS (o.foldl (fun m e => aput m (fk e) (fv e)) l)
  | [], l, h => h
  | e :: o, l, h => puts_ks fk fv o _ (aput_ks h _ _)
theorem puts_mem {γ : Type} (fk : γ → List UInt8) (fv : γ → β) : ∀ (o : List γ) (l : List (List UInt8 × β)), (o.map fk).Nodup → ∀ x, x ∈ o.foldl (fun m e => aput m (fk e) (fv e)) l ↔ (∃ e ∈ o, x = (fk e, fv e)) ∨ (x ∈ l ∧ ∀ e ∈ o, x.1 ≠ fk e)
  | [], l, _, x => by simp
  | e :: o, l, h, x => by
    rw [List.map_cons, List.nodup_cons] at h
    rw [List.foldl_cons, puts_mem fk fv o _ h.2, aput_mem]
    constructor
    · rintro (⟨g, hg, rfl⟩ | ⟨rfl | ⟨h1, h2⟩, h3⟩)
      · exact .inl ⟨g, List.mem_cons_of_mem _ hg, rfl⟩
      · exact .inl ⟨e, List.mem_cons_self .., rfl⟩
      · exact .inr ⟨h1, fun g hg => by
          rcases List.mem_cons.1 hg with rfl | hg
          · exact h2
          · exact h3 g hg⟩
    · rintro (⟨g, hg, rfl⟩ | ⟨h1, h2⟩)
      · rcases List.mem_cons.1 hg with rfl | hg
        · exact .inr ⟨.inl rfl, fun d hd hne => h.1 (List.mem_map.2 ⟨d, hd, hne.symm⟩)⟩
        · exact .inl ⟨g, hg, rfl⟩
      · exact .inr ⟨.inr ⟨h1, h2 e (List.mem_cons_self ..)⟩, fun g hg => h2 g (List.mem_cons_of_mem _ hg)⟩
end

/-! ### Sorting of what has an order -/
section
variable {α : Type}
end
end Go.Eng

/-
Changes of properties, nearly always right ones: the code and the reference do the same.
-/
namespace Go.Eng
open Go
set_option linter.unusedVariables false
set_option linter.unusedSimpArgs false

/-! ### Names of two lists -/
def s18 : List (List UInt8) := [[], [46, 97], [65], [97], [97, 32, 98], [97, 45, 49], [97, 46], [97, 46, 46, 98], [97, 46, 98, 46, 99, 46, 100, 46, 101, 46, 102, 46, 103, 46, 104, 46, 105], [97, 46, 120], [97, 46, 120, 46, 112], [97, 46, 121], List.replicate 41 97, [97, 98], [98], [98, 46, 122]]
def rk18 (n : List UInt8) : Int := ((s18.takeWhile fun x => !decide (x = n)).length : Int)
theorem rk18_all : (nm18.all fun x => nm18.all fun y => (decide (Lib.compareBytes x y ≤ 0) == decide (rk18 x ≤ rk18 y)) && (decide (Lib.compareBytes x y < 0) == decide (rk18 x < rk18 y)) && (decide (rk18 x = rk18 y) == decide (x = y))) = true := by kernel_rfl
theorem rk18_spec {x y : List UInt8} (hx : x ∈ nm18) (hy : y ∈ nm18) : (Lib.compareBytes x y ≤ 0 ↔ rk18 x ≤ rk18 y) ∧ (nlt x y ↔ rk18 x < rk18 y) ∧ (rk18 x = rk18 y ↔ x = y) := by
  have := List.all_eq_true.1 (List.all_eq_true.1 rk18_all x hx) y hy
  simp only [Bool.and_eq_true, beq_iff_eq, decide_eq_decide] at this
  exact ⟨this.1.1, this.1.2, this.2⟩
theorem names18 {Ls : List (List api_Prop)} (hLs : Ls.length ≤ 100) (hl : (Ls.flatMap (List.map api_Prop.Name)).length ≤ 12) (hn : ∀ l ∈ Ls, ∀ p ∈ l, p.Name ∈ nm18) :
    ∃ r, twin_names_o0 Ls = some r ∧ r.length ≤ (Ls.flatMap (List.map api_Prop.Name)).length ∧ r.Pairwise nlt ∧ ∀ n ∈ r, n ∈ nm18 ∧ ∃ l ∈ Ls, ∃ p ∈ l, p.Name = n := by
  have hmem : ∀ n, n ∈ Ls.flatMap (List.map api_Prop.Name) ↔ ∃ l ∈ Ls, ∃ p ∈ l, p.Name = n := by
    intro n
    simp only [List.mem_flatMap, List.mem_map]
  have hin : All (fun n => n ∈ nm18 ∧ n ∈ Ls.flatMap (List.map api_Prop.Name)) (Ls.flatMap (List.map api_Prop.Name)) := by
    intro n hn'
    refine ⟨?_, hn'⟩
    obtain ⟨l, hl, p, hp, rfl⟩ := (hmem n).1 hn'
    exact hn l hl p hp
  have e : loopO (twin_names_o0_x1 Ls) ([], 0) = some (Ls.flatMap (List.map api_Prop.Name)) := by
    have := fold_loop0 (l := Ls) (f := twin_names_o0_x1 Ls) (fun (s : List (List UInt8)) i => (s, i)) (fun s a => s ++ a.map api_Prop.Name) id (fun i s => s.length + ((Ls.drop i).flatMap (List.map api_Prop.Name)).length ≤ 12) (s0 := []) (by omega)
      (fun i hi s hs => by
        have hc : (i : Int) < Ls.length := by omega
        rw [List.drop_eq_getElem_cons hi, List.flatMap_cons, List.length_append, List.length_map] at hs
        refine ⟨?_, by rw [List.length_append, List.length_map]; omega⟩
        unfold twin_names_o0_x1
        simp only [hc, decide_true, cond_true, at_nat hi, Option.bind_some]
        rw [names2_eq (by omega)]
        rfl)
      (fun s _ => by unfold twin_names_o0_x1; simp) (by simpa using hl)
    rw [this.1]
    have key : ∀ (m : List (List api_Prop)) (s : List (List UInt8)), m.foldl (fun s a => s ++ a.map api_Prop.Name) s = s ++ m.flatMap (List.map api_Prop.Name) := by
      intro m
      induction m with
      | nil => intro s; simp
      | cons y m ih => intro s; rw [List.foldl_cons, ih, List.flatMap_cons, List.append_assoc]
    rw [key]
    rfl
  generalize Ls.flatMap (List.map api_Prop.Name) = N at hl hmem hin e
  obtain ⟨m, m0, ⟨m1, m2, m3⟩, m4⟩ := sortS_ok hl hin
  obtain ⟨r, r0, ⟨r1, r2, r3⟩, r4⟩ := gCom_key2 (P := fun n => n ∈ nm18 ∧ n ∈ N) (t := fun a b => some (decide (a = b))) (kf := rk18) (fun x y hx hy => ⟨_, rfl, by rw [decide_eq_true_iff]; exact (rk18_spec hx.1 hy.1).2.2.symm⟩) (z := []) (l := m) (by omega) m2 (fun p q hpq hq =>
    (rk18_spec (m2 _ (List.getElem_mem (show p < m.length by omega))).1 (m2 _ (List.getElem_mem hq)).1).1.1 (m3 p q hpq (by omega) (by omega)))
  refine ⟨r, ?_, by omega, ?_, fun n h => ⟨(r2 n h).1, (hmem n).1 (r2 n h).2⟩⟩
  · unfold twin_names_o0
    rw [e]
    simp only [Option.bind_some, m0, comS_eq]
    rw [show (m.length == N.length) = true by simp [m1]]
    simp only [gd, r0, Option.bind_some, cond_true]
  · refine List.Pairwise.imp_of_mem ?_ r3
    intro x y hx hy hxy
    exact (rk18_spec (r2 x hx).1 (r2 y hy).1).2.1.2 hxy
theorem namesOf_eq : fleetref2_namesOf_o0 = twin_names_o0 := by kernel_rfl

/-! ### What differs -/
theorem refDiff_loop {a b : List api_Prop} {ns : List (List UInt8)} (ha : a.length ≤ 1000) (hb : b.length ≤ 1000) (hns : ns.length ≤ 1000) : loopO (fleetref2_DifferOf_x1 a b ns) ([], 0) = some (chL a b ns) := by
  have := fold_loop0 (l := ns) (f := fleetref2_DifferOf_x1 a b ns) (fun (s : List api_Change) i => (s, i)) (fun s n => bif !eqV (vo a n) (vo b n) then s ++ [api_Change.mk n (vo a n) (vo b n)] else s) id (fun i s => s.length ≤ i) (s0 := []) (by omega)
    (fun i hi s hs => by
      have hc : (i : Int) < ns.length := by omega
      refine ⟨?_, by cases (!eqV (vo a ns[i]) (vo b ns[i])) <;> simp <;> omega⟩
      unfold fleetref2_DifferOf_x1 fleetref2_DifferOf_x2
      simp only [hc, decide_true, cond_true, at_nat hi, Option.bind_some, ValueOf_eq (show a.length ≤ 10000 by omega), ValueOf_eq (show b.length ≤ 10000 by omega)]
      show (Option.bind (bif !eqV (vo a ns[i]) (vo b ns[i]) then _ else _) _) = _
      cases (!eqV (vo a ns[i]) (vo b ns[i])) with
      | false => rfl
      | true =>
        simp only [cond_true, gd]
        rw [lim_ok (by simp; omega)]
        rfl)
    (fun s _ => by unfold fleetref2_DifferOf_x1; simp) (by simp)
  rw [this.1, foldl_filter]
  rfl
theorem ownDiff_loop {a b : List api_Prop} {ns : List (List UInt8)} (ha : PSrt a) (hb : PSrt b) (hla : a.length ≤ 1000) (hlb : b.length ≤ 1000) (hns : ns.length ≤ 1000) : loopO (twin_Differ_x1 a b ns) ([], 0) = some (chL a b ns) := by
  have := fold_loop0 (l := ns) (f := twin_Differ_x1 a b ns) (fun (s : List api_Change) i => (s, i)) (fun s n => bif !eqV (vo a n) (vo b n) then s ++ [api_Change.mk n (vo a n) (vo b n)] else s) id (fun i s => s.length ≤ i) (s0 := []) (by omega)
    (fun i hi s hs => by
      have hc : (i : Int) < ns.length := by omega
      refine ⟨?_, by cases (!eqV (vo a ns[i]) (vo b ns[i])) <;> simp <;> omega⟩
      unfold twin_Differ_x1 twin_Differ_x2
      simp only [hc, decide_true, cond_true, at_nat hi, Option.bind_some, valueOf_eq ha (show a.length ≤ 10000 by omega), valueOf_eq hb (show b.length ≤ 10000 by omega)]
      show (Option.bind (bif !eqV (vo a ns[i]) (vo b ns[i]) then _ else _) _) = _
      cases (!eqV (vo a ns[i]) (vo b ns[i])) with
      | false => rfl
      | true =>
        simp only [cond_true, gd]
        rw [lim_ok (by simp; omega)]
        rfl)
    (fun s _ => by unfold twin_Differ_x1; simp) (by simp)
  rw [this.1, foldl_filter]
  rfl
theorem vo_val {l : List api_Prop} (h : ∀ p ∈ l, KQ p) (n : List UInt8) : KVal (vo l n) := by
  unfold vo
  cases hf : l.find? fun p => decide (p.Name = n) with
  | none => exact kval_in (by simp [wd11, zV])
  | some p => exact (h p (List.mem_of_find?_eq_some hf)).val
/-- a change of which both checks know what to say -/
structure KH (c : api_Change) : Prop where
  name : c.Name ∈ nm18
  frm : KVal c.From
  to_ : KVal c.To
theorem diff_o1 : fleetref2_DifferOf_o1 = fleetref2_DifferOf := by kernel_rfl
theorem two_flat (a b : List api_Prop) : ([a, b].flatMap (List.map api_Prop.Name)).length = a.length + b.length := by simp
theorem Diff_ok {a b : List api_Prop} (ha : ∀ p ∈ a, KQ p) (hb : ∀ p ∈ b, KQ p) (hl : a.length + b.length ≤ 12) :
    ∃ ns, twin_names_o0 [a, b] = some ns ∧ ns.length ≤ a.length + b.length ∧ fleetref2_DifferOf a b = some (chL a b ns) ∧ (∀ c ∈ chL a b ns, KH c ∧ ((∃ p ∈ a, p.Name = c.Name) ∨ ∃ p ∈ b, p.Name = c.Name)) ∧ (chL a b ns).length ≤ a.length + b.length := by
  obtain ⟨ns, h1, h2, h3, h4⟩ := names18 (Ls := [a, b]) (by simp) (by rw [two_flat]; exact hl) (by
    intro l hl p hp
    simp only [List.mem_cons, List.not_mem_nil, or_false] at hl
    rcases hl with rfl | rfl
    · exact (ha p hp).name
    · exact (hb p hp).name)
  rw [two_flat] at h2
  refine ⟨ns, h1, h2, ?_, fun c hc => ?_, ?_⟩
  · unfold fleetref2_DifferOf
    rw [namesOf_eq, h1]
    simp only [Option.bind_some]
    rw [refDiff_loop (by omega) (by omega) (by omega)]
    rfl
  · obtain ⟨n, hn, rfl⟩ := List.mem_map.1 hc
    have hn := (List.mem_filter.1 hn).1
    obtain ⟨q1, l, hl, p, hp, q2⟩ := h4 n hn
    refine ⟨⟨q1, vo_val ha n, vo_val hb n⟩, ?_⟩
    simp only [List.mem_cons, List.not_mem_nil, or_false] at hl
    rcases hl with rfl | rfl
    · exact .inl ⟨p, hp, q2⟩
    · exact .inr ⟨p, hp, q2⟩
  · unfold chL
    rw [List.length_map]
    exact Nat.le_trans (List.length_filter_le _ _) h2

/-! ### Changes that streams make -/
structure CS (a : List api_Prop) (C : List api_Change) : Prop where
  kh : ∀ c ∈ C, KH c
  len : C.length ≤ 9
  few : ∃ N : List (List UInt8), N.length ≤ 10 ∧ (∀ p ∈ a, p.Name ∈ N) ∧ ∀ c ∈ C, c.Name ∈ N
theorem cs_set {a : List api_Prop} {C : List api_Change} {N : List (List UInt8)} (h : ∀ c ∈ C, KH c) (hl : C.length ≤ 9) (hN : N.length ≤ 9) (h1 : ∀ p ∈ a, p.Name ∈ N) (h2 : ∀ c ∈ C, c.Name ∈ N) {i : Nat} {c : api_Change} (hc : KH c) : CS a (C.set i c) := by
  refine ⟨fun d hd => ?_, by simpa using hl, c.Name :: N, by simp; omega, fun p hp => List.mem_cons_of_mem _ (h1 p hp), fun d hd => ?_⟩
  · rcases List.mem_or_eq_of_mem_set hd with hd | rfl
    · exact h d hd
    · exact hc
  · rcases List.mem_or_eq_of_mem_set hd with hd | rfl
    · exact List.mem_cons_of_mem _ (h2 d hd)
    · exact List.mem_cons_self ..
theorem Changes_ok {k : Nat} {s : fleetmake_Stream} (h : StrOk k s) (hk : k + 200 < 1099511627776) {a : List api_Prop} (ha : ∀ p ∈ a, KQ p) (hla : a.length ≤ 5) : Ok (fleetmake_Stream_Changes s a) (fun r => StrOk (k + 90) r.1 ∧ CS a r.2) := by
  unfold fleetmake_Stream_Changes
  refine (RightProps_ok h (by omega)).bind fun ⟨s1, b⟩ ⟨b1, b2⟩ => ?_
  simp only at b1 b2
  have hlb := b2.len
  obtain ⟨ns, d1, d2, d3, d4, d5⟩ := Diff_ok ha (fun p hp => (b2.rp p hp).kq) (show a.length + b.length ≤ 12 by omega)
  dsimp only
  rw [diff_o1, d3]
  simp only [Option.bind_some]
  generalize chL a b ns = C at d3 d4 d5
  have hkh : ∀ c ∈ C, KH c := fun c hc => (d4 c hc).1
  have hNl : (a.map api_Prop.Name ++ b.map api_Prop.Name).length ≤ 9 := by simp; omega
  have hN1 : ∀ p ∈ a, p.Name ∈ a.map api_Prop.Name ++ b.map api_Prop.Name := fun p hp => List.mem_append_left _ (List.mem_map.2 ⟨p, hp, rfl⟩)
  have hN2 : ∀ c ∈ C, c.Name ∈ a.map api_Prop.Name ++ b.map api_Prop.Name := fun c hc => by
    rcases (d4 c hc).2 with ⟨p, hp, e⟩ | ⟨p, hp, e⟩
    · exact List.mem_append_left _ (List.mem_map.2 ⟨p, hp, e⟩)
    · exact List.mem_append_right _ (List.mem_map.2 ⟨p, hp, e⟩)
  generalize a.map api_Prop.Name ++ b.map api_Prop.Name = N at hNl hN1 hN2
  have hCl : C.length ≤ 9 := by omega
  have hC : CS a C := ⟨hkh, hCl, N, by omega, hN1, hN2⟩
  have hx : Ok (fleetmake_Stream_Changes_x1 s1 C) (fun r => StrOk (k + 90) r.1 ∧ CS a r.2) := by
    unfold fleetmake_Stream_Changes_x1
    have hx2 : Ok (fleetmake_Stream_Changes_x2 s1 C) (fun r => StrOk (k + 61) r.1 ∧ (r.2 = true → 0 < C.length)) := by
      unfold fleetmake_Stream_Changes_x2
      refine .cond (fun hp => ?_) (fun _ => .some ⟨b1.mono (by omega), by simp⟩)
      have hp : 0 < (C.length : Int) := by simpa using hp
      exact (Flip_ok b1 (by omega) (by unfold I64; omega)).bind fun b _ => .some ⟨nxt_mk b1 (by omega), fun _ => by omega⟩
    refine hx2.bind fun ⟨s2, f⟩ ⟨f1, f2⟩ => ?_
    simp only at f1 f2
    refine .cond (fun hf => ?_) (fun _ => .some ⟨f1.mono (by omega), hC⟩)
    have hpos := f2 hf
    refine (Next_ok f1 (by omega) (by unfold I64; omega)).bind fun i hi => ?_
    have hi := hi.1 (by omega)
    refine (at_mem hi.1 hi.2).bind fun c hc => ?_
    have hcc := hkh c hc
    have a1 := nxt_mk f1 (by omega)
    have a2 := nxt_mk a1 (by omega)
    have a3 := nxt_mk a2 (by omega)
    have a4 := nxt_mk a3 (by omega)
    refine (Next_ok a1 (by omega) (by unfold I64; omega)).bind fun n _ => .cond (fun _ => ?_) (fun _ => .cond (fun _ => ?_) (fun _ => .cond (fun _ => ?_) (fun _ => ?_)))
    · exact (PropName_ok a2 (by omega)).bind fun m hm => .some ⟨a4.mono (by omega), cs_set hkh hCl hNl hN1 hN2 ⟨hm, hcc.frm, hcc.to_⟩⟩
    · exact (Value_ok a2 (by omega)).bind fun ⟨s3, v⟩ ⟨v1, v2⟩ => .some ⟨v1.mono (by omega), cs_set hkh hCl hNl hN1 hN2 ⟨hcc.name, v2, hcc.to_⟩⟩
    · exact (Value_ok a2 (by omega)).bind fun ⟨s3, v⟩ ⟨v1, v2⟩ => .some ⟨v1.mono (by omega), cs_set hkh hCl hNl hN1 hN2 ⟨hcc.name, hcc.frm, v2⟩⟩
    · exact .some ⟨a2.mono (by omega), cs_set hkh hCl hNl hN1 hN2 ⟨hcc.name, hcc.to_, hcc.to_⟩⟩
  exact hx.bind fun ⟨s2, v1⟩ hr => .some hr

/-! ### Checks of changes -/
theorem HF2_ab (a b : Int) : loopO (fleetref2_ChangesFault_x2 a b) 0 = some (if or0 a b = 0 then .inl () else .inr (or0 a b)) := by
  have : fleetref2_ChangesFault_x2 = fleetref2_CellsFault_x2 := by kernel_rfl
  rw [this]
  exact CF2_ab a b
theorem hx1_same {l : List api_Change} (h : ∀ c ∈ l, KH c) : twin_CheckChanges_x1 l = fleetref2_ChangesFault_x1 l := by
  funext i
  unfold twin_CheckChanges_x1 fleetref2_ChangesFault_x1
  cases ha : at? l i with
  | none => rfl
  | some c =>
    have hc : c ∈ l := by
      unfold at? at ha
      split at ha
      · exact List.mem_of_getElem? ha
      · cases ha
    obtain ⟨b, h1, h2⟩ := okName_spec (List.all_eq_true.1 nm18_same _ (h c hc).name)
    obtain ⟨w, h3⟩ := (h c hc).frm
    obtain ⟨v, h4⟩ := (h c hc).to_
    have e1 : twin_valueFault (api_Value.mk c.From.Kind c.From.Flag c.From.Number c.From.Words) = some (vfI c.From w) := vf_own h3
    have e2 : fleetref2_ValueFault (api_Value.mk c.From.Kind c.From.Flag c.From.Number c.From.Words) = some (vfI c.From w) := vf_ref h3
    have e3 : twin_valueFault (api_Value.mk c.To.Kind c.To.Flag c.To.Number c.To.Words) = some (vfI c.To v) := vf_own h4
    have e4 : fleetref2_ValueFault (api_Value.mk c.To.Kind c.To.Flag c.To.Number c.To.Words) = some (vfI c.To v) := vf_ref h4
    simp only [Option.bind_some, h1, h2, e1, e2, e3, e4, First_ab, HF2_ab]
    generalize or0 (vfI c.From w) (vfI c.To v) = z
    by_cases hz : z = 0
    · subst hz
      simp only [decide_true, Bool.not_true, cond_false, if_true]
      rfl
    · simp only [hz, decide_false, Bool.not_false, cond_true, if_false]
theorem hone_ok {l : List api_Change} (hl : l.length ≤ 400) (hK : ∀ c ∈ l, KH c) : Ok (loopO (twin_CheckChanges_x1 l) 0) (fun r => match r with | .inl _ => l.Pairwise fun x y => nlt x.Name y.Name | .inr e => e ≠ 0) := by
  refine loop_ok (fun s : Int => ∃ i : Nat, s = (i : Int) ∧ i ≤ l.length ∧ ∀ j (h0 : 0 < j) (h : j < i) (hl : j < l.length), nlt (l[j - 1]'(by omega)).Name l[j].Name) (fun s => ((l.length : Int) - s).toNat) ?_ ⟨0, rfl, by omega, fun j h0 h => by omega⟩
  rintro _ ⟨i, rfl, i1, i2⟩
  unfold twin_CheckChanges_x1
  by_cases hi : i < l.length
  · have hc : (i : Int) < l.length := by omega
    have w1 : IntKind.wrap .i64 ((i : Int) + 1) = ((i + 1 : Nat) : Int) := by rw [wrap64 (by omega) (by omega)]; omega
    have hKi := hK _ (List.getElem_mem hi)
    obtain ⟨b, h1, h2⟩ := okName_spec (List.all_eq_true.1 nm18_same _ hKi.name)
    obtain ⟨w, h3⟩ := hKi.frm
    obtain ⟨v, h4⟩ := hKi.to_
    have e1 : twin_valueFault (api_Value.mk l[i].From.Kind l[i].From.Flag l[i].From.Number l[i].From.Words) = some (vfI l[i].From w) := vf_own h3
    have e3 : twin_valueFault (api_Value.mk l[i].To.Kind l[i].To.Flag l[i].To.Number l[i].To.Words) = some (vfI l[i].To v) := vf_own h4
    simp only [hc, decide_true, cond_true, at_nat hi, Option.bind_some, h1, e1, e3, First_ab, w1]
    refine .cond (fun _ => .some (by simp)) fun hb => .cond (fun hz => .some (by simpa using hz)) fun hz => .cond (fun _ => .some (by simp)) fun _ => ?_
    unfold twin_CheckChanges_x2
    cases i with
    | zero =>
      simp only [show ¬ (0 : Int) < ((0 : Nat) : Int) by omega, decide_false, cond_false, Option.bind_some]
      exact .some ⟨⟨1, rfl, by omega, fun j h0 h => by omega⟩, by omega⟩
    | succ i =>
      have hp0 : (0 : Int) < ((i + 1 : Nat) : Int) := by omega
      have w : IntKind.wrap .i64 (((i + 1 : Nat) : Int) - 1) = (i : Int) := by rw [wrap64 (by omega) (by omega)]; omega
      simp only [hp0, decide_true, cond_true, w, at_nat (show i < l.length by omega), Option.bind_some]
      refine .cond (fun _ => .some (by simp)) fun hlt => .some ⟨⟨i + 1 + 1, rfl, by omega, fun j h0 h hjl => ?_⟩, by omega⟩
      by_cases hj : j < i + 1
      · exact i2 j h0 hj hjl
      · have : j = i + 1 := by omega
        subst this
        simp only [Bool.or_eq_false_iff, cmpB_less, decide_eq_false_iff_not] at hlt
        show nlt l[i].Name l[i + 1].Name
        rcases cmpB_cases l[i].Name l[i + 1].Name with h2 | h2 | h2
        · exact h2
        · exact absurd h2.symm hlt.2
        · exact absurd h2 hlt.1
  · have hc : ¬ (i : Int) < l.length := by omega
    simp only [hc, decide_false, cond_false]
    refine .some ?_
    have key : ∀ (d j : Nat) (hj : j + d + 1 < l.length), nlt (l[j]'(by omega)).Name l[j + d + 1].Name := by
      intro d
      induction d with
      | zero =>
        intro j hj
        exact i2 (j + 1) (by omega) (by omega) (by omega)
      | succ d ih =>
        intro j hj
        exact nlt_trans (ih j (by omega)) (i2 (j + d + 2) (by omega) (by omega) (by omega))
    rw [List.pairwise_iff_getElem]
    intro i j hi hj hij
    have := key (j - i - 1) i (by omega)
    simpa [show i + (j - i - 1) + 1 = j by omega] using this
theorem hchecks {l : List api_Change} (hl : l.length ≤ 400) (hK : ∀ c ∈ l, KH c) : ∃ e, twin_CheckChanges l = some e ∧ fleetref2_ChangesFault l = some e ∧ (e = 0 → l.Pairwise fun x y => nlt x.Name y.Name) := by
  have h500 : ¬ (1000 : Int) < l.length := by omega
  unfold twin_CheckChanges fleetref2_ChangesFault
  simp only [h500, decide_false, cond_false]
  rw [← hx1_same hK]
  obtain ⟨r, h1, h2⟩ := hone_ok hl hK
  rw [h1]
  cases r with
  | inr e => exact ⟨e, rfl, rfl, fun h => absurd h h2⟩
  | inl _ => exact ⟨0, rfl, rfl, fun _ => h2⟩
theorem hEqual_self {l : List api_Change} (hl : (l.length : Int) ≤ 9223372036854775807) : slices_Equal_api_Change_api_Change l l = some true := by
  unfold slices_Equal_api_Change_api_Change
  simp only [decide_true, Bool.not_true, cond_false]
  rw [range_loop (l := l) (fun _ _ => none) (.inl ()) hl]
  · have : ∀ (k : Nat) (m : List api_Change), scan (fun (_ : Nat) (_ : api_Change) => (none : Option (Unit ⊕ Unit))) k m = none := fun k m => scan_none.2 fun _ _ _ => rfl
    rw [this]; rfl
  · intro i hi
    unfold slices_Equal_api_Change_api_Change_x1
    have hc : (i : Int) < l.length := by omega
    simp only [hc, decide_true, cond_true, at_nat hi, Option.bind_some, beq_self_eq_true, Bool.and_self, Bool.and_true]
    rfl
  · unfold slices_Equal_api_Change_api_Change_x1; simp
end Go.Eng

/-
The law ChangesMade: what differs, what is wrong with changes, making changes, and turning them round.
-/
namespace Go.Eng
open Go
set_option linter.unusedVariables false
set_option linter.unusedSimpArgs false

theorem fold_exit {τ σ α : Type} {l : List α} {f : τ → Option (τ ⊕ (σ ⊕ Unit))} (e : σ → Int → τ) (h : σ → α → σ) (bad : α → Bool) (I : Nat → σ → Prop) {s0 : σ} (hl : (l.length : Int) ≤ 9223372036854775807)
    (hf : ∀ (i : Nat) (hi : i < l.length) (s : σ), I i s → f (e s i) = some (bif bad l[i] then .inr (.inr ()) else .inl (e (h s l[i]) (IntKind.wrap .i64 (i + 1)))) ∧ I (i + 1) (h s l[i]))
    (hd : ∀ s, I l.length s → f (e s l.length) = some (.inr (.inl s))) (h0 : I 0 s0) :
    loopO f (e s0 0) = some (if l.any bad then .inr () else .inl (l.foldl h s0)) := by
  have key : ∀ (n i : Nat) (s : σ), l.length - i = n → i ≤ l.length → I i s → loopO f (e s i) = some (if (l.drop i).any bad then .inr () else .inl ((l.drop i).foldl h s)) := by
    intro n
    induction n with
    | zero =>
      intro i s h1 h2 h3
      have : i = l.length := by omega
      subst this
      rw [loop_out (hd s h3)]
      simp
    | succ n ih =>
      intro i s h1 h2 h3
      have hi : i < l.length := by omega
      obtain ⟨g1, g2⟩ := hf i hi s h3
      rw [List.drop_eq_getElem_cons hi, List.any_cons, List.foldl_cons]
      cases hb : bad l[i] with
      | true =>
        rw [hb] at g1
        rw [loop_out g1]
        simp
      | false =>
        rw [hb] at g1
        have w : IntKind.wrap .i64 ((i : Int) + 1) = ((i + 1 : Nat) : Int) := by rw [wrap64 (by omega) (by omega)]; omega
        rw [w] at g1
        rw [loop_in g1, ih (i + 1) _ (by omega) (by omega) g2]
        simp
  have := key l.length 0 s0 (by omega) (by omega) h0
  simpa using this
theorem aget_ext {β : Type} {m m' : List (List UInt8 × β)} (h : KS m) (h' : KS m') {k : List UInt8} (hx : ∀ v, (k, v) ∈ m ↔ (k, v) ∈ m') : aget m k = aget m' k := by
  cases h1 : aget m k with
  | some v => exact ((aget_some h').2 ((hx v).1 ((aget_some h).1 h1))).symm
  | none =>
    cases h2 : aget m' k with
    | none => rfl
    | some v =>
      have := (aget_some h).2 ((hx v).2 ((aget_some h').1 h2))
      rw [h1] at this; cases this
/-- the values of properties as a map -/
def vM (a : List api_Prop) : List (List UInt8 × api_Value) := a.foldl (fun m p => aput m p.Name p.Value) []
theorem vM_ks (a : List api_Prop) : KS (vM a) := puts_ks (fun p : api_Prop => p.Name) (fun p => p.Value) a [] List.Pairwise.nil
theorem vM_mem {a : List api_Prop} (ha : PSrt a) (x : List UInt8 × api_Value) : x ∈ vM a ↔ ∃ p ∈ a, x = (p.Name, p.Value) := by
  unfold vM
  rw [puts_mem (fun p : api_Prop => p.Name) (fun p => p.Value) a [] (psrt_names ha)]
  simp
theorem vM_get {a : List api_Prop} (ha : PSrt a) (k : List UInt8) : (aget (vM a) k).getD zV = vo a k := by
  rcases vo_cases ha k with ⟨p, hp, hn, hv⟩ | ⟨hno, hv⟩
  · have : aget (vM a) k = some p.Value := (aget_some (vM_ks a)).2 ((vM_mem ha _).2 ⟨p, hp, by rw [hn]⟩)
    rw [this, hv]; rfl
  · have : aget (vM a) k = none := aget_none.2 fun x hx e => by
      obtain ⟨p, hp, rfl⟩ := (vM_mem ha x).1 hx
      exact hno p hp e
    rw [this, hv]; rfl
def badC (a : List api_Prop) (c : api_Change) : Bool := !eqV (vo a c.Name) c.From
abbrev ChS (C : List api_Change) : Prop := C.Pairwise fun x y => nlt x.Name y.Name
theorem chs_names {C : List api_Change} (h : ChS C) : (C.map api_Change.Name).Nodup := by
  unfold List.Nodup
  rw [List.pairwise_map]
  exact List.Pairwise.imp (fun hab => nlt_ne hab) h
theorem ownPut {a : List api_Prop} {C : List api_Change} (ha : PSrt a) (hl : a.length ≤ 1000) (hC : C.length ≤ 1000) : loopO (twin_Apply_x1 a C) (([] : List (List UInt8 × api_Value)), 0) = some (if C.any (badC a) then .inr () else .inl (C.foldl putC [])) := by
  refine fold_exit (f := twin_Apply_x1 a C) (fun (s : List (List UInt8 × api_Value)) i => (s, i)) putC (badC a) (fun _ _ => True) (by omega) (fun i hi s _ => ⟨?_, trivial⟩) (fun s _ => by unfold twin_Apply_x1; simp) trivial
  have hc : (i : Int) < C.length := by omega
  unfold twin_Apply_x1
  simp only [hc, decide_true, cond_true, at_nat hi, Option.bind_some, valueOf_eq ha (show a.length ≤ 10000 by omega)]
  show (bif !eqV (vo a C[i].Name) C[i].From then _ else _) = _
  unfold badC
  cases (!eqV (vo a C[i].Name) C[i].From) <;> rfl
theorem refPut0 {a : List api_Prop} (hl : a.length ≤ 1000) : loopO (fleetref2_ApplyOf_x1 a) (([] : List (List UInt8 × api_Value)), 0) = some (vM a) := by
  have := fold_loop0 (l := a) (f := fleetref2_ApplyOf_x1 a) (fun (s : List (List UInt8 × api_Value)) i => (s, i)) (fun m p => aput m p.Name p.Value) id (fun _ _ => True) (s0 := []) (by omega)
    (fun i hi s _ => by
      have hc : (i : Int) < a.length := by omega
      refine ⟨?_, trivial⟩
      unfold fleetref2_ApplyOf_x1
      simp only [hc, decide_true, cond_true, at_nat hi, Option.bind_some])
    (fun s _ => by unfold fleetref2_ApplyOf_x1; simp) trivial
  rw [this.1]
  rfl
theorem refPut {a : List api_Prop} {C : List api_Change} (ha : PSrt a) (hs : ChS C) (hC : C.length ≤ 1000) : loopO (fleetref2_ApplyOf_x2 C) (vM a, 0) = some (if C.any (badC a) then .inr () else .inl (C.foldl putC (vM a))) := by
  refine fold_exit (f := fleetref2_ApplyOf_x2 C) (fun (s : List (List UInt8 × api_Value)) i => (s, i)) putC (badC a) (fun i s => s = (C.take i).foldl putC (vM a)) (by omega) (fun i hi s h => ⟨?_, ?_⟩) (fun s _ => by unfold fleetref2_ApplyOf_x2; simp) rfl
  · subst h
    have hc : (i : Int) < C.length := by omega
    have hks : KS ((C.take i).foldl putC (vM a)) := puts_ks (fun c : api_Change => c.Name) (fun c => c.To) (C.take i) (vM a) (vM_ks a)
    have hget : aget ((C.take i).foldl putC (vM a)) C[i].Name = aget (vM a) C[i].Name := by
      refine aget_ext hks (vM_ks a) fun v => ?_
      have hn : ((C.take i).map api_Change.Name).Nodup := (List.Sublist.map _ (List.take_sublist i C)).nodup (chs_names hs)
      have := puts_mem (fun c : api_Change => c.Name) (fun c => c.To) (C.take i) (vM a) hn (C[i].Name, v)
      refine this.trans ⟨?_, fun h => .inr ⟨h, ?_⟩⟩
      · rintro (⟨c, hc, e⟩ | ⟨h, _⟩)
        · exfalso
          obtain ⟨j, hj, rfl⟩ := List.mem_iff_getElem.1 hc
          rw [List.length_take] at hj
          rw [List.getElem_take] at e
          have := (List.pairwise_iff_getElem.1 hs) j i (by omega) hi (by omega)
          exact nlt_ne this (Prod.mk.inj e).1.symm
        · exact h
      · intro c hc e
        obtain ⟨j, hj, rfl⟩ := List.mem_iff_getElem.1 hc
        rw [List.length_take] at hj
        rw [List.getElem_take] at e
        have := (List.pairwise_iff_getElem.1 hs) j i (by omega) hi (by omega)
        exact nlt_ne this e.symm
    unfold fleetref2_ApplyOf_x2
    simp only [hc, decide_true, cond_true, at_nat hi, Option.bind_some, hget]
    have hg : (aget (vM a) C[i].Name).getD (api_Value.mk 0 false 0 []) = vo a C[i].Name := vM_get ha _
    rw [hg]
    show (bif !eqV (vo a C[i].Name) C[i].From then _ else _) = _
    unfold badC
    cases (!eqV (vo a C[i].Name) C[i].From) <;> rfl
  · subst h
    rw [List.take_succ_eq_append_getElem hi, List.foldl_append]
    rfl

/-! ### The list that is made -/
theorem appG_names {a : List api_Prop} {C : List api_Change} (h : ChS C) (ha : PSrt a) : ((appL a C).map api_Prop.Name).Nodup := by
  unfold appL
  rw [List.map_append, List.map_map, List.nodup_append]
  refine ⟨psrt_names (List.Pairwise.filter _ ha), ?_, fun x hx y hy => ?_⟩
  · unfold List.Nodup
    rw [List.pairwise_map]
    exact List.Pairwise.imp (fun hab => nlt_ne hab) (List.Pairwise.filter _ h)
  · obtain ⟨p, hp, rfl⟩ := List.mem_map.1 hx
    obtain ⟨c, hc, rfl⟩ := List.mem_map.1 hy
    obtain ⟨h1, h2⟩ := List.mem_filter.1 hp
    obtain ⟨h3, h4⟩ := List.mem_filter.1 hc
    intro e
    simp only [Bool.not_eq_true', List.any_eq_false, decide_eq_true_eq] at h2
    exact h2 c h3 e
theorem ownOut1 {a : List api_Prop} (C : List api_Change) (hl : a.length ≤ 1000) : loopO (twin_Apply_x2 a (C.foldl putC [])) ([], 0) = some (a.filter fun p => !(C.any fun c => decide (p.Name = c.Name))) := by
  have l2 := fold_loop0 (l := a) (f := twin_Apply_x2 a (C.foldl putC [])) (fun (s : List api_Prop) i => (s, i)) (fun s p => bif !(C.any fun c => decide (p.Name = c.Name)) then s ++ [p] else s) id (fun i s => s.length ≤ i) (s0 := []) (by omega)
    (fun i hi s hs => by
      have hc : (i : Int) < a.length := by omega
      have hx : twin_Apply_x3 a (C.foldl putC []) s i = some (bif !(C.any fun c => decide (a[i].Name = c.Name)) then s ++ [a[i]] else s) := by
        unfold twin_Apply_x3
        simp only [at_nat hi, Option.bind_some, aget_any, put_any, List.any_nil, Bool.false_or]
        cases C.any (fun c => decide (a[i].Name = c.Name)) with
        | true => rfl
        | false =>
          simp only [Bool.not_false, cond_true, gd]
          rw [lim_ok (by simp; omega)]
          rfl
      refine ⟨?_, by cases C.any (fun c => decide (a[i].Name = c.Name)) <;> simp <;> omega⟩
      unfold twin_Apply_x2
      simp only [hc, decide_true, cond_true, hx, Option.bind_some])
    (fun s _ => by unfold twin_Apply_x2; simp) (by simp)
  rw [l2.1]
  have := foldl_filter (fun p : api_Prop => !(C.any fun c => decide (p.Name = c.Name))) id a []
  rw [List.nil_append, List.map_id] at this
  exact congrArg some this
theorem ownOut2 {C : List api_Change} {s : List api_Prop} (hl : C.length ≤ 1000) (hs : s.length ≤ 1000) : loopO (twin_Apply_x4 C) (s, 0) = some (s ++ (C.filter fun c => !decide (c.To.Kind = 0)).map fun c => api_Prop.mk c.Name c.To) := by
  have l2 := fold_loop0 (l := C) (f := twin_Apply_x4 C) (fun (s : List api_Prop) i => (s, i)) (fun s c => bif !decide (c.To.Kind = 0) then s ++ [api_Prop.mk c.Name c.To] else s) id (fun i s => s.length ≤ 1000 + i) (s0 := s) (by omega)
    (fun i hi s hs => by
      have hc : (i : Int) < C.length := by omega
      have hx : twin_Apply_x5 C s i = some (bif !decide (C[i].To.Kind = 0) then s ++ [api_Prop.mk C[i].Name C[i].To] else s) := by
        unfold twin_Apply_x5
        simp only [at_nat hi, Option.bind_some]
        cases decide (C[i].To.Kind = 0) with
        | true => rfl
        | false =>
          simp only [Bool.not_false, cond_true, gd]
          rw [lim_ok (by simp; omega)]
          rfl
      refine ⟨?_, by cases decide (C[i].To.Kind = 0) <;> simp <;> omega⟩
      unfold twin_Apply_x4
      simp only [hc, decide_true, cond_true, hx, Option.bind_some])
    (fun s _ => by unfold twin_Apply_x4; simp) (by omega)
  rw [l2.1]
  exact congrArg some (foldl_filter (fun c : api_Change => !decide (c.To.Kind = 0)) (fun c => api_Prop.mk c.Name c.To) C s)
theorem nodup_few {α : Type} : ∀ {l m : List α}, l.Nodup → (∀ x ∈ l, x ∈ m) → l.length ≤ m.length
  | [], m, _, _ => by simp
  | x :: l, m, h, hs => by
    rw [List.nodup_cons] at h
    obtain ⟨s, t, rfl⟩ := List.append_of_mem (hs x (List.mem_cons_self ..))
    have := nodup_few (l := l) (m := s ++ t) h.2 fun y hy => by
      have h1 := hs y (List.mem_cons_of_mem _ hy)
      have h2 : y ≠ x := fun e => h.1 (e ▸ hy)
      simp only [List.mem_append, List.mem_cons] at h1 ⊢
      rcases h1 with h1 | h1 | h1
      · exact .inl h1
      · exact absurd h1 h2
      · exact .inr h1
    simp only [List.length_append, List.length_cons] at this ⊢
    omega
theorem appG_len {a : List api_Prop} {C : List api_Change} (h : ChS C) (ha : PSrt a) (hC : CS a C) : (appL a C).length ≤ 10 := by
  obtain ⟨N, n1, n2, n3⟩ := hC.few
  have := nodup_few (appG_names h ha) (m := N) fun x hx => by
    obtain ⟨p, hp, rfl⟩ := List.mem_map.1 hx
    unfold appL at hp
    rcases List.mem_append.1 hp with hp | hp
    · exact n2 p (List.mem_filter.1 hp).1
    · obtain ⟨c, hc, rfl⟩ := List.mem_map.1 hp
      exact n3 c (List.mem_filter.1 hc).1
  rw [List.length_map] at this
  omega
theorem appG_kq {a : List api_Prop} {C : List api_Change} (hq : ∀ p ∈ a, KQ p) (hC : CS a C) : ∀ p ∈ appL a C, KQ p := by
  intro p hp
  unfold appL at hp
  rcases List.mem_append.1 hp with hp | hp
  · exact hq p (List.mem_filter.1 hp).1
  · obtain ⟨c, hc, rfl⟩ := List.mem_map.1 hp
    have := hC.kh c (List.mem_filter.1 hc).1
    exact ⟨this.name, this.to_⟩
theorem from_rng : ∀ (zo : List (List UInt8 × api_Value)) (s : List api_Prop), s.length + zo.length ≤ 1000 → rngO fleetref2_fromValues_x1 zo s = some (s ++ (zo.filter fun e => !decide (e.2.Kind = 0)).map fun e => api_Prop.mk e.1 e.2)
  | [], s, _ => by simp [rngO, fleetref2_fromValues_x1]
  | e :: zo, s, h => by
    have hx : fleetref2_fromValues_x1 (some e) s = some (.inl (bif !decide (e.2.Kind = 0) then s ++ [api_Prop.mk e.1 e.2] else s)) := by
      unfold fleetref2_fromValues_x1
      simp only
      cases decide (e.2.Kind = 0) with
      | true => rfl
      | false =>
        simp only [Bool.not_false, cond_true, gd]
        rw [lim_ok (by simp at h ⊢; omega)]
        rfl
    rw [rngO, hx]
    simp only [Option.bind_some]
    rw [from_rng zo _ (by simp at h; cases decide (e.2.Kind = 0) <;> simp <;> omega), List.filter_cons]
    cases decide (e.2.Kind = 0) <;> simp
theorem sortV_eq : slices_SortFunc_api_Prop_api_Prop_o0_f1_fleetref2_fromValues_1 = slices_SortFunc_api_Prop_api_Prop_o0_f1_fleetmake_propOrder := by kernel_rfl
theorem from_ok {a : List api_Prop} {C : List api_Change} (h : ChS C) (ha : PSrt a) (hk : ∀ p ∈ a, p.Value.Kind ≠ 0) (hl : a.length ≤ 5) (hC : CS a C) {r : List api_Prop} {e : Int} (hr : r.Perm (appL a C)) (hrs : PSrt r) (he : fleetref2_PropsFault r = some e) :
    fleetref2_fromValues (C.foldl putC (vM a)) = some (if e = 0 then (r, 0) else ([], e)) := by
  have hks : KS (C.foldl putC (vM a)) := puts_ks (fun c : api_Change => c.Name) (fun c => c.To) C (vM a) (vM_ks a)
  have hmem : ∀ x, x ∈ C.foldl putC (vM a) ↔ (∃ c ∈ C, x = (c.Name, c.To)) ∨ (x ∈ vM a ∧ ∀ c ∈ C, x.1 ≠ c.Name) := puts_mem (fun c : api_Change => c.Name) (fun c => c.To) C (vM a) (chs_names h)
  have hlen : (C.foldl putC (vM a)).length ≤ 100 := by
    have h1 : ∀ (D : List api_Change) (m : List (List UInt8 × api_Value)), (D.foldl putC m).length ≤ m.length + D.length := by
      intro D
      induction D with
      | nil => intro m; simp
      | cons c D ih =>
        intro m
        rw [List.foldl_cons]
        have h2 : (putC m c).length ≤ m.length + 1 := by
          unfold putC aput
          cases m.any fun e => decide (c.Name = e.1) with
          | true => simp
          | false =>
            simp only [cond_false, List.length_append, List.length_cons]
            have := congrArg List.length (List.takeWhile_append_dropWhile (p := fun e : List UInt8 × api_Value => KOrd.lt e.1 c.Name) (l := m))
            rw [List.length_append] at this
            omega
        have := ih (putC m c)
        simp only [List.length_cons]
        omega
    have h3 : ∀ (D : List api_Prop) (m : List (List UInt8 × api_Value)), (D.foldl (fun m p => aput m p.Name p.Value) m).length ≤ m.length + D.length := by
      intro D
      induction D with
      | nil => intro m; simp
      | cons c D ih =>
        intro m
        rw [List.foldl_cons]
        have h2 : (aput m c.Name c.Value).length ≤ m.length + 1 := by
          unfold aput
          cases m.any fun e => decide (c.Name = e.1) with
          | true => simp
          | false =>
            simp only [cond_false, List.length_append, List.length_cons]
            have := congrArg List.length (List.takeWhile_append_dropWhile (p := fun e : List UInt8 × api_Value => KOrd.lt e.1 c.Name) (l := m))
            rw [List.length_append] at this
            omega
        have := ih (aput m c.Name c.Value)
        simp only [List.length_cons]
        omega
    have h4 := h1 C (vM a)
    have h5 := h3 a []
    have h6 := hC.len
    unfold vM at h4 ⊢
    simp only [List.length_nil] at h5
    omega
  have hrl : r.length ≤ 10 := by rw [hr.length_eq]; exact appG_len h ha hC
  have hrn : r.Nodup := psrt_nodup hrs
  unfold fleetref2_fromValues
  refine allPerm_intro fun zo hzo => ?_
  rw [from_rng zo [] (by have := hzo.length_eq; simp; omega)]
  have hzk : (zo.map (·.1)).Nodup := ((hzo.map (·.1)).nodup_iff).2 (ks_keys hks)
  have hpm : ((zo.filter fun e => !decide (e.2.Kind = 0)).map fun e => api_Prop.mk e.1 e.2).Perm r := by
    refine (List.perm_ext_iff_of_nodup ?_ hrn).2 fun p => ?_
    · have : (((zo.filter fun e => !decide (e.2.Kind = 0)).map fun e => api_Prop.mk e.1 e.2).map api_Prop.Name).Nodup := by
        rw [List.map_map]
        exact (List.Sublist.map _ List.filter_sublist).nodup hzk
      exact List.Pairwise.imp (fun hab e => hab (congrArg api_Prop.Name e)) (List.pairwise_map.1 this)
    · rw [hr.mem_iff]
      unfold appL
      simp only [List.mem_map, List.mem_filter, List.mem_append, Bool.not_eq_true', decide_eq_false_iff_not, List.any_eq_false, decide_eq_true_eq]
      constructor
      · rintro ⟨x, ⟨x1, x2⟩, rfl⟩
        rcases (hmem x).1 (hzo.mem_iff.1 x1) with ⟨c, hc, rfl⟩ | ⟨h1, h2⟩
        · exact .inr ⟨c, ⟨hc, x2⟩, rfl⟩
        · obtain ⟨p, hp, rfl⟩ := (vM_mem ha x).1 h1
          exact .inl ⟨hp, h2⟩
      · rintro (⟨h1, h2⟩ | ⟨c, ⟨h1, h2⟩, rfl⟩)
        · exact ⟨(p.Name, p.Value), ⟨hzo.mem_iff.2 ((hmem _).2 (.inr ⟨(vM_mem ha _).2 ⟨p, h1, rfl⟩, h2⟩)), hk p h1⟩, rfl⟩
        · exact ⟨(c.Name, c.To), ⟨hzo.mem_iff.2 ((hmem _).2 (.inl ⟨c, h1, rfl⟩)), h2⟩, rfl⟩
  have hso := sortP_ok (l := (zo.filter fun (e : List UInt8 × api_Value) => !decide (e.2.Kind = 0)).map fun (e : List UInt8 × api_Value) => api_Prop.mk e.1 e.2) (by have := hpm.length_eq; omega)
  obtain ⟨r2, q0, q1, q2⟩ := hso
  have hr2 : r2 = r := by
    have hp2 := q1.trans hpm
    have : (r2.map api_Prop.Name).Nodup := ((hp2.map api_Prop.Name).nodup_iff).2 (psrt_names hrs)
    exact pext (psrt_of q2 this) hrs fun p => hp2.mem_iff
  subst hr2
  simp only [Option.bind_some, List.nil_append, sortV_eq, q0, gd]
  rw [show (r2.length == ((zo.filter fun e => !decide (e.2.Kind = 0)).map fun e => api_Prop.mk e.1 e.2).length) = true by rw [hpm.length_eq]; simp]
  simp only [cond_true, he, Option.bind_some]
  by_cases h0 : e = 0
  · simp [h0]
  · simp [h0]
theorem Applies {a : List api_Prop} {C : List api_Change} (hg : PGood a) (hq : ∀ p ∈ a, KQ p) (hl : a.length ≤ 5) (hC : CS a C) (h1 : twin_CheckProps a = some 0) (h2 : twin_CheckChanges C = some 0) (hs : ChS C) : ∃ x e, twin_Apply a C = some (x, e) ∧ fleetref2_ApplyOf a C = some (x, e) ∧ x.length ≤ 100 := by
  have hCl := hC.len
  have hal := appG_len hs hg.srt hC
  have hk : ∀ p ∈ a, p.Value.Kind ≠ 0 := fun p hp => (hg.gp p hp).2.2
  unfold twin_Apply fleetref2_ApplyOf
  rw [h1, h2, refPut0 (by omega)]
  simp only [Option.bind_some, First_ab, or0, if_true, decide_true, Bool.not_true, cond_false]
  rw [ownPut hg.srt (by omega) (by omega), refPut hg.srt hs (by omega)]
  cases hb : C.any (badC a) with
  | true => exact ⟨[], 13, rfl, rfl, by simp⟩
  | false =>
    simp only [Bool.false_eq_true, if_false, Option.bind_some]
    rw [ownOut1 C (by omega)]
    simp only [Option.bind_some]
    rw [ownOut2 (by omega) (by have := List.length_filter_le (fun p : api_Prop => !(C.any fun c => decide (p.Name = c.Name))) a; omega)]
    simp only [Option.bind_some, sortA_eq]
    show ∃ x e, Option.bind (slices_SortFunc_api_Prop_api_Prop_o0_f1_fleetmake_propOrder (appL a C)) _ = some (x, e) ∧ _
    obtain ⟨r, q0, q1, q2⟩ := sortP_ok (l := appL a C) (by omega)
    have hrs : PSrt r := psrt_of q2 (((q1.map api_Prop.Name).nodup_iff).2 (appG_names hs hg.srt))
    obtain ⟨e, e1, e2, _⟩ := checks (l := r) (by rw [q1.length_eq]; omega) fun p hp => (appG_kq hq hC p (q1.mem_iff.1 hp)).kp
    have hf := from_ok hs hg.srt hk hl hC q1 hrs e2
    have hgl : (r.length == (appL a C).length) = true := by rw [q1.length_eq]; simp
    have hrl : r.length ≤ 10 := by rw [q1.length_eq]; exact hal
    rw [q0, hf]
    refine ⟨if e = 0 then r else [], e, ?_, ?_, ?_⟩
    · show gd (r.length == (appL a C).length) _ = _
      rw [hgl]
      simp only [gd, cond_true, e1, Option.bind_some]
      by_cases h0 : e = 0
      · simp [h0]
      · simp [h0]
    · by_cases h0 : e = 0
      · simp [h0]
      · simp [h0]
    · split
      · omega
      · simp
theorem ownTurn {C : List api_Change} (hl : C.length ≤ 1000) : loopO (twin_Turn_x1 C) ([], 0) = some (C.map swp) := by
  have := fold_loop0 (l := C) (f := twin_Turn_x1 C) (fun (s : List api_Change) i => (s, i)) (fun s c => s ++ [swp c]) id (fun i s => s.length ≤ i) (s0 := []) (by omega)
    (fun i hi s hs => by
      have hc : (i : Int) < C.length := by omega
      refine ⟨?_, by simp; omega⟩
      unfold twin_Turn_x1
      simp only [hc, decide_true, cond_true, at_nat hi, Option.bind_some, gd]
      rw [lim_ok (by simp; omega)]
      rfl)
    (fun s _ => by unfold twin_Turn_x1; simp) (by simp)
  rw [this.1, foldl_app swp]
  rfl
theorem turn_same : fleetref2_TurnOf_x1 = twin_Turn_x1 := by kernel_rfl
theorem ChangesMade_true (L : List Int) (hL : L.length ≤ 9223372036854775807) (hI : ∀ n ∈ L, -9223372036854775808 ≤ n ∧ n ≤ 9223372036854775807) : fleetlaw2_ChangesMade L = some true := by
  apply Ok.eq
  unfold fleetlaw2_ChangesMade
  have h0 : StrOk 0 (fleetmake_Stream.mk L 0) := ⟨Int.le_refl _, by simp, hL, hI⟩
  refine (Props_ok h0 (by omega)).bind fun ⟨s1, a⟩ ⟨a1, qa, la⟩ => ?_
  simp only at a1 qa la
  refine (Props_ok a1 (by omega)).bind fun ⟨s2, b⟩ ⟨b1, qb, lb⟩ => ?_
  simp only at b1 qb lb
  refine (Changes_ok b1 (by omega) qa la).bind fun ⟨s3, C⟩ ⟨c1, hC⟩ => ?_
  simp only at c1 hC
  have hCl := hC.len
  obtain ⟨ea, p1, p2, p3⟩ := checks (show a.length ≤ 400 by omega) fun p hp => (qa p hp).kp
  obtain ⟨eb, r1, r2, r3⟩ := checks (show b.length ≤ 400 by omega) fun p hp => (qb p hp).kp
  obtain ⟨ec, t1, t2, t3⟩ := hchecks (show C.length ≤ 400 by omega) hC.kh
  obtain ⟨ns, d1, d2, d3, d4, d5⟩ := Diff_ok qa qb (by omega)
  -- what differs
  have hD : ∃ d, twin_Differ a b = some (d, or0 ea eb) ∧ fleetlaw2_ChangesMade_x1 a b (or0 ea eb) = some d ∧ d.length ≤ 10 := by
    by_cases h : or0 ea eb = 0
    · obtain ⟨rfl, rfl⟩ := or0_zero.1 h
      refine ⟨chL a b ns, ?_, ?_, by omega⟩
      · unfold twin_Differ
        rw [p1, r1]
        simp only [Option.bind_some, First_ab, h, decide_true, Bool.not_true, cond_false, d1]
        rw [ownDiff_loop (p3 rfl).srt (r3 rfl).srt (by omega) (by omega) (by omega)]
        rfl
      · unfold fleetlaw2_ChangesMade_x1
        rw [h, d3]
        rfl
    · refine ⟨[], ?_, ?_, by simp⟩
      · unfold twin_Differ
        rw [p1, r1]
        simp only [Option.bind_some, First_ab, h, decide_false, Bool.not_false, cond_true]
      · unfold fleetlaw2_ChangesMade_x1
        simp [h]
  -- what is made
  have hA : ∃ x e, twin_Apply a C = some (x, e) ∧ fleetlaw2_ChangesMade_x3 a C ea ec = some (e, x) ∧ x.length ≤ 100 := by
    by_cases h : or0 ea ec = 0
    · obtain ⟨rfl, rfl⟩ := or0_zero.1 h
      obtain ⟨x, e, x1, x2, x3⟩ := Applies (p3 rfl) qa la hC p1 t1 (t3 rfl)
      refine ⟨x, e, x1, ?_, x3⟩
      unfold fleetlaw2_ChangesMade_x3
      simp only [errs2, Option.bind_some, h, decide_true, cond_true, x2]
    · refine ⟨[], or0 ea ec, ?_, ?_, by simp⟩
      · unfold twin_Apply
        rw [p1, t1]
        simp only [Option.bind_some, First_ab, h, decide_false, Bool.not_false, cond_true]
      · unfold fleetlaw2_ChangesMade_x3
        simp [errs2, h]
  -- turned round
  have hT : ∃ t, twin_Turn C = some (t, ec) ∧ fleetlaw2_ChangesMade_x2 C ec = some t ∧ t.length ≤ 100 := by
    by_cases h : ec = 0
    · subst h
      refine ⟨C.map swp, ?_, ?_, by simp; omega⟩
      · unfold twin_Turn
        rw [t1]
        simp only [Option.bind_some, decide_true, Bool.not_true, cond_false]
        rw [ownTurn (by omega)]
        rfl
      · unfold fleetlaw2_ChangesMade_x2 fleetref2_TurnOf
        rw [turn_same, ownTurn (by omega)]
        rfl
    · refine ⟨[], ?_, ?_, by simp⟩
      · unfold twin_Turn
        rw [t1]
        simp [h]
      · unfold fleetlaw2_ChangesMade_x2
        simp [h]
  obtain ⟨d, e1, e2, e3⟩ := hD
  obtain ⟨x, e, f1, f2, f3⟩ := hA
  obtain ⟨t, g1, g2, g3⟩ := hT
  dsimp only
  rw [e1, f1, g1]
  simp only [Option.bind_some, p2, t2, t1, decide_true, Bool.not_true, cond_false, r2, errs2, e2, g2, f2, fleetlaw2_ChangesMade_x4, cond_true, hEqual_self (show (d.length : Int) ≤ 9223372036854775807 by omega), pEqual_self (show (x.length : Int) ≤ 9223372036854775807 by omega), hEqual_self (show (t.length : Int) ≤ 9223372036854775807 by omega), twinned_eq]
  exact .some rfl
end Go.Eng

