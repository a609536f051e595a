/-
What the plain functions of the law LettersEnd answer, part 1.
-/
import Derived.Test.YtigejlfinklddaaGreatDoorGenF
import Derived.KernelRfl
import Derived.Test.YtigejlfinklddaaGreatDoorEngV
/-
Plain functions: what they answer, in total. Loops by an invariant and a measure.
-/
namespace Go.Eng
open Go
set_option linter.unusedVariables false
set_option linter.unusedSimpArgs false

def Ok {α : Type} (x : Option α) (P : α → Prop) : Prop := ∃ r, x = some r ∧ P r
section
variable {α β σ ρ : Type} {P Q : α → Prop} {R : β → Prop}
theorem Ok.some {r : α} (h : P r) : Ok (some r) P := ⟨r, rfl, h⟩
theorem Ok.mono {x : Option α} (h : Ok x P) (hq : ∀ r, P r → Q r) : Ok x Q := let ⟨r, h1, h2⟩ := h; ⟨r, h1, hq r h2⟩
theorem Ok.bind {x : Option α} {f : α → Option β} (h : Ok x P) (hf : ∀ r, P r → Ok (f r) R) : Ok (x.bind f) R := by
  obtain ⟨r, rfl, hr⟩ := h
  exact hf r hr
theorem Ok.cond {b : Bool} {x y : Option α} (ht : b = true → Ok x P) (hf : b = false → Ok y P) : Ok (cond b x y) P := by
  cases b
  · exact hf rfl
  · exact ht rfl
theorem Ok.gd {b : Bool} {x : Option α} (hb : b = true) (h : Ok x P) : Ok (gd b x) P := by
  subst hb; exact h
theorem Ok.eq {x : Option α} {r : α} (h : Ok x fun y => y = r) : x = Option.some r := by
  obtain ⟨y, h1, h2⟩ := h
  rw [h1, h2]
theorem Ok.of_eq {x : Option α} {r : α} (h : x = Option.some r) (hp : P r) : Ok x P := ⟨r, h, hp⟩

theorem loop_ok {f : σ → Option (σ ⊕ ρ)} {Q : ρ → Prop} (I : σ → Prop) (μ : σ → Nat)
    (step : ∀ s, I s → Ok (f s) fun x => match x with | .inl s' => I s' ∧ μ s' < μ s | .inr r => Q r) {s : σ} (h : I s) : Ok (loopO f s) Q := by
  generalize hn : μ s = n
  induction n using Nat.strongRecOn generalizing s with
  | _ n ih =>
    obtain ⟨x, h1, h2⟩ := step s h
    cases x with
    | inl s' =>
      obtain ⟨h3, h4⟩ := h2
      obtain ⟨r, h5, h6⟩ := ih (μ s') (by omega) h3 rfl
      refine ⟨r, ?_, h6⟩
      rw [loopO_eq, h1]
      exact h5
    | inr r =>
      refine ⟨r, ?_, h2⟩
      rw [loopO_eq, h1]
      rfl

theorem at_lt {l : List α} {n : Int} (h : 0 ≤ n) (h2 : n < l.length) : at? l n = Option.some (l[n.toNat]'(by omega)) := by
  unfold at?
  rw [if_pos h, List.getElem?_eq_getElem]
theorem at_nat {l : List α} {n : Nat} (h : n < l.length) : at? l (n : Int) = Option.some l[n] := by
  rw [at_lt (by omega) (by omega)]
  simp
theorem at_ok {l : List α} {n : Int} (h : 0 ≤ n) (h2 : n < l.length) : Ok (at? l n) (fun y => l[n.toNat]? = Option.some y) := by
  refine ⟨_, at_lt h h2, ?_⟩
  rw [List.getElem?_eq_getElem]
theorem at_mem {l : List α} {n : Int} (h : 0 ≤ n) (h2 : n < l.length) : Ok (at? l n) (fun y => y ∈ l) := by
  refine (at_ok h h2).mono fun y hy => List.mem_of_getElem? hy
end

/-! ### Integers of 64 bits -/
def I64 (n : Int) : Prop := -9223372036854775808 ≤ n ∧ n ≤ 9223372036854775807
theorem wrap64 {n : Int} (h : -9223372036854775808 ≤ n) (h2 : n ≤ 9223372036854775807) : IntKind.wrap .i64 n = n := by
  unfold IntKind.wrap
  simp [IntKind.min, IntKind.max, IntKind.bits, IntKind.signed]
  omega
theorem tmod_nonneg {a b : Int} (h : 0 ≤ a) : 0 ≤ a.tmod b := Int.tmod_nonneg b h
theorem tmod_lt' {a b : Int} (h : 0 < b) : a.tmod b < b := Int.tmod_lt_of_pos a h
theorem lim_eq : LIM = 137438953472 := by decide
theorem ble_lim {n : Nat} (h : n ≤ 137438953472) : Nat.ble n LIM = true := by rw [Nat.ble_eq, lim_eq]; exact h
end Go.Eng

/-
Loops over the elements of a list; keys.
-/
namespace Go.Eng
open Go
set_option linter.unusedVariables false
set_option linter.unusedSimpArgs false

/-- The first answer of the elements from number k on. -/
def scan {α ρ : Type} (g : Nat → α → Option ρ) : Nat → List α → Option ρ
  | _, [] => none
  | k, x :: xs => match g k x with
    | some r => some r
    | none => scan g (k + 1) xs

theorem drop_get {α : Type} {l : List α} {i : Nat} (h : i < l.length) : l.drop i = l[i] :: l.drop (i + 1) := List.drop_eq_getElem_cons h

/-- A loop over a list that ends at the first element with an answer. -/
theorem range_loop {α ρ : Type} {l : List α} {f : Int → Option (Int ⊕ ρ)} (g : Nat → α → Option ρ) (done : ρ) (hl : (l.length : Int) ≤ 9223372036854775807)
    (hf : ∀ (i : Nat) (h : i < l.length), f i = some (match g i l[i] with | none => .inl (IntKind.wrap .i64 (i + 1)) | some r => .inr r)) (hd : f l.length = some (.inr done)) :
    loopO f 0 = some ((scan g 0 l).getD done) := by
  have key : ∀ (n i : Nat), l.length - i = n → i ≤ l.length → loopO f i = some ((scan g i (l.drop i)).getD done) := by
    intro n
    induction n with
    | zero =>
      intro i h1 h2
      have : i = l.length := by omega
      subst this
      rw [loopO_eq, hd, List.drop_length]
      rfl
    | succ n ih =>
      intro i h1 h2
      have hi : i < l.length := by omega
      rw [loopO_eq, hf i hi, drop_get hi]
      simp only [scan]
      cases hg : g i l[i] with
      | some r => rfl
      | none =>
        simp only [Option.bind_some]
        rw [wrap64 (by omega) (by omega)]
        exact ih (i + 1) (by omega) (by omega)
  exact key l.length 0 (by omega) (by omega)

theorem scan_none {α ρ : Type} {g : Nat → α → Option ρ} : ∀ {l : List α} {k : Nat}, scan g k l = none ↔ ∀ (i : Nat) (x : α), l[i]? = some x → g (k + i) x = none
  | [], k => by simp [scan]
  | y :: l, k => by
    simp only [scan]
    cases hg : g k y with
    | some r =>
      simp only [reduceCtorEq, false_iff]
      intro h
      have := h 0 y rfl
      rw [Nat.add_zero, hg] at this
      cases this
    | none =>
      simp only
      rw [scan_none]
      constructor
      · intro h i x hi
        cases i with
        | zero => simp at hi; subst hi; exact hg
        | succ i => rw [show k + (i + 1) = k + 1 + i by omega]; exact h i x (by simpa using hi)
      · intro h i x hi
        rw [show k + 1 + i = k + (i + 1) by omega]
        exact h (i + 1) x (by simpa using hi)
/-! ### Keys -/
end Go.Eng

/-
Small checks; the order of measurements.
-/
namespace Go.Eng
open Go
set_option linter.unusedVariables false
set_option linter.unusedSimpArgs false

theorem Out_eq (n low high : Int) : base_Out n low high = some (decide (n < low) || decide (high < n)) := by
  unfold base_Out z74
  by_cases h : n < low <;> simp [h]
theorem Moment_eq (n : Int) : z41 n = some (decide (0 ≤ n) && decide (n ≤ 345686399999)) := by
  unfold z41
  rw [Out_eq]
  simp only [Option.bind_some]
  congr 1
  rw [Bool.eq_iff_iff]
  simp
/-! ### Orders -/
def cmpI (a b : Int) : Int := if a < b then -1 else if b < a then 1 else 0
def or0 (a b : Int) : Int := if a = 0 then b else a
theorem cmpB_self : ∀ a : List UInt8, Lib.compareBytes a a = 0
  | [] => rfl
  | x :: a => by
    unfold Lib.compareBytes
    simp [UInt8.lt_irrefl, cmpB_self a]
theorem cmpB_anti : ∀ a b : List UInt8, Lib.compareBytes b a = -Lib.compareBytes a b
  | [], [] => rfl
  | [], _ :: _ => rfl
  | _ :: _, [] => rfl
  | x :: a, y :: b => by
    unfold Lib.compareBytes
    by_cases h1 : x < y
    · have h2 : ¬ y < x := UInt8.lt_asymm h1
      simp [h1, h2]
    · by_cases h2 : y < x
      · simp [h1, h2]
      · simp [h1, h2, cmpB_anti a b]
theorem cmpB_zero : ∀ {a b : List UInt8}, Lib.compareBytes a b = 0 ↔ a = b
  | [], [] => by simp [Lib.compareBytes]
  | [], _ :: _ => by simp [Lib.compareBytes]
  | _ :: _, [] => by simp [Lib.compareBytes]
  | x :: a, y :: b => by
    unfold Lib.compareBytes
    by_cases h1 : x < y
    · have : x ≠ y := fun h => UInt8.lt_irrefl y (h ▸ h1)
      simp [h1, this]
    · by_cases h2 : y < x
      · have : x ≠ y := fun h => UInt8.lt_irrefl x (by rw [h] at h2 ⊢; exact h2)
        simp [h1, h2, this]
      · have : x = y := UInt8.le_antisymm (UInt8.not_lt.1 h2) (UInt8.not_lt.1 h1)
        simp [h1, h2, cmpB_zero (a := a) (b := b), this]
theorem cmpB_less : ∀ a b : List UInt8, Op.bytesLess a b = decide (Lib.compareBytes a b < 0)
  | [], [] => rfl
  | [], _ :: _ => rfl
  | _ :: _, [] => rfl
  | x :: a, y :: b => by
    unfold Lib.compareBytes
    rw [Op.bytesLess]
    by_cases h1 : x < y
    · simp [h1]
    · by_cases h2 : y < x
      · have h3 : ¬ x = y := fun h => UInt8.lt_irrefl x (by rw [h] at h2 ⊢; exact h2)
        simp [h1, h2, h3]
      · have h3 : x = y := UInt8.le_antisymm (UInt8.not_lt.1 h2) (UInt8.not_lt.1 h1)
        simp [h1, h2, h3, cmpB_less a b]
end Go.Eng

/-
Checks of measurements and series, both ways.
-/
namespace Go.Eng
open Go
set_option linter.unusedVariables false
set_option linter.unusedSimpArgs false

theorem cmpInt_eq (a b : Int) : z132 a b = some (cmpI a b) := by
  unfold z132 z153 cmpI
  by_cases h1 : a < b
  · simp [h1]
  · by_cases h2 : b < a <;> simp [h1, h2]
theorem Or_eq (l : List Int) (hl : (l.length : Int) ≤ 9223372036854775807) : z145 l = some ((l.find? fun x => !decide (x = 0)).getD 0) := by
  unfold z145
  rw [range_loop (l := l) (fun _ x => cond (!decide (x = 0)) (some (.inr x)) none) (.inl ()) hl]
  · simp only [Option.bind_some]
    generalize 0 = k
    induction l generalizing k with
    | nil => rfl
    | cons c s ih =>
      simp only [scan, List.find?_cons]
      by_cases hc : c = 0
      · simp only [hc, decide_true, Bool.not_true, cond_false]
        exact ih (by simp at hl; omega) (k + 1)
      · simp [hc]
  · intro i hi
    unfold z148
    rw [at_nat hi]
    have : ((i : Int) < l.length) := by omega
    simp only [this, decide_true, cond_true, Option.bind_some]
    cases (!decide (l[i] = 0)) <;> rfl
  · unfold z148
    simp
/-! ### Check -/
end Go.Eng

/-
Sorting of few elements, and what is left of equal ones, for all kinds of elements.
-/
namespace Go.Eng
open Go
set_option linter.unusedVariables false
set_option linter.unusedSimpArgs false

theorem loop_in {σ ρ : Type} {f : σ → Option (σ ⊕ ρ)} {s s' : σ} (h : f s = some (.inl s')) : loopO f s = loopO f s' := by rw [loopO_eq, h]; rfl
theorem loop_out {σ ρ : Type} {f : σ → Option (σ ⊕ ρ)} {s : σ} {r : ρ} (h : f s = some (.inr r)) : loopO f s = some r := by rw [loopO_eq, h]; rfl

section
variable {α : Type}
/-! ### Insertion, as the code has it -/
noncomputable def gI3 (cmp : α → α → Option Int) (qa : Int) (vl3 : List α) (vj1 : Int) : Option (Bool) :=
  cond (decide (qa < vj1))
    ((at? vl3 vj1).bind fun vy15 =>
    (at? vl3 (IntKind.wrap .i64 (vj1 - 1))).bind fun vy16 =>
    (cmp vy15 vy16).bind fun vr1_3 =>
    some (decide (vr1_3 < 0)))
    (some false)
noncomputable def gI2 (cmp : α → α → Option Int) (qa : Int) : (List α) × Int → Option (((List α) × Int) ⊕ ((List α)))
  | (vl3, vj1) =>
  (gI3 cmp qa vl3 vj1).bind fun vx4_1 =>
  cond (vx4_1)
    ((at? vl3 (IntKind.wrap .i64 (vj1 - 1))).bind fun vy17 =>
    (at? vl3 vj1).bind fun vy18 =>
    (at? (vl3.set vj1.toNat vy17) (IntKind.wrap .i64 (vj1 - 1))).bind fun vy19 =>
    some (.inl ((vl3.set vj1.toNat vy17).set (IntKind.wrap .i64 (vj1 - 1)).toNat vy18, IntKind.wrap .i64 (vj1 - 1))))
    (some (.inr vl3))
noncomputable def gI1 (cmp : α → α → Option Int) (qa : Int) (qb : Int) : (List α) × Int → Option (((List α) × Int) ⊕ ((List α)))
  | (vl, vi) =>
  cond (decide (vi < qb))
    ((loopO (gI2 cmp qa) (vl, vi)).bind fun vl4_1 =>
    some (.inl (vl4_1, IntKind.wrap .i64 (vi + 1))))
    (some (.inr vl))
noncomputable def gI (cmp : α → α → Option Int) (qdata : List α) (qa : Int) (qb : Int) : Option ((List α)) :=
  (loopO (gI1 cmp qa qb) (qdata, IntKind.wrap .i64 (qa + 1))).bind fun vl5_1 =>
  some vl5_1
def All (p : α → Prop) (l : List α) : Prop := ∀ x ∈ l, p x
theorem All.nil {p : α → Prop} : All p [] := fun _ h => nomatch h
theorem All.set {p : α → Prop} {l : List α} (h : All p l) {i : Nat} {x : α} (hx : p x) : All p (l.set i x) := by
  intro y hy
  rcases List.mem_or_eq_of_mem_set hy with hy | rfl
  · exact h y hy
  · exact hx
theorem All.at {p : α → Prop} {l : List α} (h : All p l) {i : Nat} (hi : i < l.length) : p l[i] := h _ (List.getElem_mem hi)

/-! ### Equal ones, as the code has it -/
end
end Go.Eng

/-
Insertion sorts; what is left of equal ones rises.
-/
namespace Go.Eng
open Go
set_option linter.unusedVariables false
set_option linter.unusedSimpArgs false
section
variable {α : Type}
/-- the first n are in order -/
def Ord (f : α → α → Int) (l : List α) (n : Nat) : Prop := ∀ p q (hp : p < q) (hq : q < n) (hn : n ≤ l.length), f (l[p]'(by omega)) (l[q]'(by omega)) ≤ 0

theorem gI2_ord {P : α → Prop} {f : α → α → Int} {c : α → α → Option Int} (hc : ∀ x y, P x → P y → c x y = some (f x y)) (anti : ∀ x y, f y x = - f x y) (tr : ∀ x y z, f x y ≤ 0 → f y z ≤ 0 → f x z ≤ 0)
    {n : Nat} (hn : n ≤ 100000) {l : List α} (hl : l.length = n) (hP : All P l) {i : Nat} (hi : i < n) (ho : Ord f l i) :
    Ok (loopO (gI2 c 0) (l, (i : Int))) (fun r => r.length = n ∧ All P r ∧ Ord f r (i + 1)) := by
  refine loop_ok (fun s : List α × Int => s.1.length = n ∧ All P s.1 ∧ ∃ j : Nat, s.2 = (j : Int) ∧ j ≤ i ∧ ∀ p q (hp : p < q) (hq : q ≤ i) (hqj : q ≠ j) (hs : i < s.1.length), f (s.1[p]'(by omega)) (s.1[q]'(by omega)) ≤ 0) (fun s => s.2.toNat) ?_
    ⟨hl, hP, i, rfl, Nat.le_refl _, fun p q hp hq hqj hs => ho p q hp (by omega) (by simp only at hs; omega)⟩
  rintro ⟨m, q⟩ ⟨m1, m2, j, rfl, j1, j2⟩
  simp only at m1 m2 j2
  unfold gI2 gI3
  by_cases hj : (0 : Int) < j
  · have w1 : IntKind.wrap .i64 ((j : Int) - 1) = ((j - 1 : Nat) : Int) := by rw [wrap64 (by omega) (by omega)]; omega
    have hjm : j < m.length := by omega
    have hjm1 : j - 1 < m.length := by omega
    have hy := m2 _ (List.getElem_mem hjm)
    have hx := m2 _ (List.getElem_mem hjm1)
    simp only [hj, decide_true, cond_true, w1, at_nat hjm, at_nat hjm1, Option.bind_some, hc _ _ hy hx]
    refine .cond (fun hlt => ?_) (fun hge => ?_)
    · have hlt := of_decide_eq_true hlt
      have g3 : at? (m.set (j : Int).toNat m[j - 1]) ((j - 1 : Nat) : Int) = some m[j - 1] := by
        rw [at_nat (by simp; omega)]
        simp only [Int.toNat_natCast, List.getElem_set]
        rw [if_neg (by omega)]
      rw [g3]
      simp only [Option.bind_some, Int.toNat_natCast]
      refine .some ⟨⟨by simp [m1], (m2.set hx).set hy, j - 1, rfl, by omega, ?_⟩, by simp only; omega⟩
      intro p q hp hq hqj hs
      simp only [List.getElem_set]
      have hin : i < m.length := by omega
      by_cases q1 : q = j
      · subst q1
        by_cases p1 : p = q - 1
        · subst p1
          have e1 : ¬ (q - 1 = q) := by omega
          simp only [e1, if_true, if_false]
          omega
        · have e1 : ¬ (q - 1 = p) := by omega
          have e2 : ¬ (q = p) := by omega
          have e3 : ¬ (q - 1 = q) := by omega
          simp only [e1, e2, e3, if_true, if_false]
          exact j2 p (q - 1) (by omega) (by omega) (by omega) hin
      · have e4 : ¬ (j = q) := by omega
        have e5 : ¬ (j - 1 = q) := by omega
        simp only [e4, e5, if_false]
        by_cases p1 : p = j - 1
        · subst p1
          simp only [if_true]
          exact j2 j q (by omega) hq q1 hin
        · by_cases p2 : p = j
          · subst p2
            have e6 : ¬ (p - 1 = p) := by omega
            simp only [e6, if_true, if_false]
            exact j2 (p - 1) q (by omega) hq q1 hin
          · have e7 : ¬ (j - 1 = p) := by omega
            have e8 : ¬ (j = p) := by omega
            simp only [e7, e8, if_false]
            exact j2 p q hp hq q1 hin
    · have hge := of_decide_eq_false hge
      refine .some ⟨m1, m2, fun p q hp hq hs => ?_⟩
      have hin : i < m.length := by omega
      by_cases q1 : q = j
      · subst q1
        have h0 : f m[q - 1] m[q] ≤ 0 := by have := anti m[q] m[q - 1]; omega
        by_cases p1 : p = q - 1
        · subst p1; exact h0
        · exact tr _ _ _ (j2 p (q - 1) (by omega) (by omega) (by omega) hin) h0
      · exact j2 p q hp (by omega) q1 hin
  · have hj' : ¬ (0 : Int) < j := hj
    have j0 : j = 0 := by omega
    subst j0
    simp only [hj', decide_false, cond_false, Option.bind_some]
    exact .some ⟨m1, m2, fun p q hp hq hs => j2 p q hp (by omega) (by omega) (by omega)⟩
theorem gI_ord {P : α → Prop} {f : α → α → Int} {c : α → α → Option Int} (hc : ∀ x y, P x → P y → c x y = some (f x y)) (anti : ∀ x y, f y x = - f x y) (tr : ∀ x y z, f x y ≤ 0 → f y z ≤ 0 → f x z ≤ 0)
    {l : List α} (hl : l.length ≤ 100000) (hP : All P l) : Ok (gI c l 0 l.length) (fun r => r.length = l.length ∧ All P r ∧ Ord f r l.length) := by
  unfold gI
  have w : IntKind.wrap .i64 ((0 : Int) + 1) = 1 := by decide
  rw [w]
  refine Ok.bind (P := fun r : List α => r.length = l.length ∧ All P r ∧ Ord f r l.length) (loop_ok (fun s : List α × Int => s.1.length = l.length ∧ All P s.1 ∧ ∃ i : Nat, s.2 = (i : Int) ∧ 1 ≤ i ∧ Ord f s.1 (min i l.length)) (fun s => ((l.length : Int) - s.2).toNat) ?_
    ⟨rfl, hP, 1, rfl, by omega, fun p q hp hq hn => by omega⟩) fun r hr => .some hr
  rintro ⟨m, q⟩ ⟨m1, m2, i, rfl, i1, i2⟩
  simp only at m1 m2 i2
  unfold gI1
  by_cases hi : i < l.length
  · have hi' : (i : Int) < l.length := by omega
    have w1 : IntKind.wrap .i64 ((i : Int) + 1) = ((i + 1 : Nat) : Int) := by rw [wrap64 (by omega) (by omega)]; omega
    simp only [hi', decide_true, cond_true]
    rw [Nat.min_eq_left (by omega)] at i2
    refine (gI2_ord hc anti tr (n := l.length) hl m1 m2 hi i2).bind fun r hr => ?_
    rw [w1]
    refine .some ⟨⟨hr.1, hr.2.1, i + 1, rfl, by omega, ?_⟩, by simp only; omega⟩
    rw [Nat.min_eq_left (by omega)]
    exact hr.2.2
  · have hi' : ¬ (i : Int) < l.length := by omega
    simp only [hi', decide_false, cond_false]
    rw [Nat.min_eq_right (by omega)] at i2
    exact .some ⟨m1, m2, i2⟩
end
end Go.Eng

/-
Loops that only gather.
-/
namespace Go.Eng
open Go
set_option linter.unusedVariables false
set_option linter.unusedSimpArgs false

/-- A loop over all elements of a list that only gathers. -/
theorem fold_loop0 {τ σ ρ α : Type} {l : List α} {f : τ → Option (τ ⊕ ρ)} (e : σ → Int → τ) (h : σ → α → σ) (fin : σ → ρ) (I : Nat → σ → Prop) {s0 : σ} (hl : (l.length : Int) ≤ 9223372036854775807)
    (hf : ∀ (i : Nat) (hi : i < l.length) (s : σ), I i s → f (e s i) = some (.inl (e (h s l[i]) (IntKind.wrap .i64 (i + 1)))) ∧ I (i + 1) (h s l[i])) (hd : ∀ s, I l.length s → f (e s l.length) = some (.inr (fin s))) (h0 : I 0 s0) :
    loopO f (e s0 0) = some (fin (l.foldl h s0)) ∧ I l.length (l.foldl h s0) := by
  have key : ∀ (n i : Nat) (s : σ), l.length - i = n → i ≤ l.length → I i s → loopO f (e s i) = some (fin ((l.drop i).foldl h s)) ∧ I l.length ((l.drop i).foldl h s) := by
    intro n
    induction n with
    | zero =>
      intro i s h1 h2 h3
      have : i = l.length := by omega
      subst this
      rw [List.drop_length]
      refine ⟨?_, h3⟩
      rw [loopO_eq, hd s h3]
      rfl
    | succ n ih =>
      intro i s h1 h2 h3
      have hi : i < l.length := by omega
      obtain ⟨g1, g2⟩ := hf i hi s h3
      obtain ⟨f1, f2⟩ := ih (i + 1) (h s l[i]) (by omega) (by omega) g2
      rw [List.drop_eq_getElem_cons hi, List.foldl_cons]
      refine ⟨?_, f2⟩
      rw [loopO_eq, g1]
      simp only [Option.bind_some]
      rw [wrap64 (by omega) (by omega)]
      exact f1
  have := key l.length 0 s0 (by omega) (by omega) h0
  simpa using this
theorem scan_find0 {α : Type} {p : α → Bool} : ∀ {l : List α} {k : Nat}, ∃ r : Int, (match (scan (fun i x => cond (p x) (some (Sum.inr (i : Int) : Unit ⊕ Int)) none) k l).getD (.inl ()) with | .inl _ => (-1 : Int) | .inr v => v) = r ∧ decide (0 ≤ r) = l.any p
  | [], k => ⟨-1, rfl, rfl⟩
  | x :: l, k => by
    simp only [scan, List.any_cons]
    cases p x with
    | true => exact ⟨k, rfl, by simp⟩
    | false => simp only [cond_false, Bool.false_or]; exact scan_find0 (l := l) (k := k + 1)
/-- A search for the first element that meets a test: is there one? -/
theorem find_loop {α : Type} {l : List α} {f : Int → Option (Int ⊕ (Unit ⊕ Int))} (p : α → Bool) (hl : (l.length : Int) ≤ 9223372036854775807)
    (hf : ∀ (i : Nat) (h : i < l.length), f i = some (cond (p l[i]) (.inr (.inr (i : Int))) (.inl (IntKind.wrap .i64 ((i : Int) + 1))))) (hd : f l.length = some (.inr (.inl ()))) :
    ∃ x, loopO f 0 = some x ∧ decide (0 ≤ (match x with | .inl _ => (-1 : Int) | .inr v => v)) = l.any p := by
  refine ⟨_, range_loop (l := l) (fun i x => cond (p x) (some (.inr (i : Int))) none) (.inl ()) hl (fun i h => ?_) hd, ?_⟩
  · rw [hf i h]
    cases p l[i] <;> rfl
  · obtain ⟨r, h1, h2⟩ := scan_find0 (p := p) (l := l) (k := 0)
    rw [h1]; exact h2
end Go.Eng

/-
What the laws ask of each package once.
-/
namespace Go.Eng
open Go
theorem ready_eq : z437 = some true := by kernel_rfl
end Go.Eng

/-
Twins: the order of names and of stamps; sorted cells as tables; merging.
-/
namespace Go.Eng
open Go
set_option linter.unusedVariables false
set_option linter.unusedSimpArgs false

/-! ### Orders -/
theorem cmpB_tr : ∀ {a b c : List UInt8}, Lib.compareBytes a b ≤ 0 → Lib.compareBytes b c ≤ 0 → Lib.compareBytes a c ≤ 0
  | [], [], c, _, h => h
  | [], _ :: _, [], _, _ => by simp [Lib.compareBytes]
  | [], _ :: _, _ :: _, _, _ => by simp [Lib.compareBytes]
  | _ :: _, [], _, h, _ => by simp [Lib.compareBytes] at h
  | _ :: _, _ :: _, [], _, h => by simp [Lib.compareBytes] at h
  | x :: a, y :: b, z :: c, h1, h2 => by
    unfold Lib.compareBytes at *
    by_cases xy : x < y
    · by_cases yz : y < z
      · simp [UInt8.lt_trans xy yz]
      · by_cases zy : z < y
        · simp [yz, zy] at h2
        · have e : y = z := UInt8.le_antisymm (UInt8.not_lt.1 zy) (UInt8.not_lt.1 yz)
          subst e; simp [xy]
    · by_cases yx : y < x
      · simp [xy, yx] at h1
      · have e : x = y := UInt8.le_antisymm (UInt8.not_lt.1 yx) (UInt8.not_lt.1 xy)
        subst e
        simp only [xy, if_false] at h1
        by_cases xz : x < z
        · simp [xz]
        · by_cases zx : z < x
          · simp [xz, zx] at h2
          · simp only [xz, zx, if_false] at h2 ⊢
            exact cmpB_tr h1 h2
/-- one name is ahead of another one -/
def nlt (a b : List UInt8) : Prop := Lib.compareBytes a b < 0
theorem nlt_irrefl (a : List UInt8) : ¬ nlt a a := by unfold nlt; rw [cmpB_self]; omega
theorem nlt_trans {a b c : List UInt8} (h1 : nlt a b) (h2 : nlt b c) : nlt a c := by
  unfold nlt at *
  have h := cmpB_tr (a := a) (b := b) (c := c) (by omega) (by omega)
  by_cases h0 : Lib.compareBytes a c = 0
  · have := cmpB_zero.1 h0
    subst this
    have := cmpB_anti a b
    omega
  · omega
theorem nlt_asymm {a b : List UInt8} (h : nlt a b) : ¬ nlt b a := fun h2 => nlt_irrefl a (nlt_trans h h2)
theorem nlt_ne {a b : List UInt8} (h : nlt a b) : a ≠ b := fun e => nlt_irrefl b (e ▸ h)
theorem cmpB_cases (a b : List UInt8) : nlt a b ∨ a = b ∨ nlt b a := by
  unfold nlt
  have := cmpB_anti a b
  by_cases h0 : Lib.compareBytes a b = 0
  · exact .inr (.inl (cmpB_zero.1 h0))
  · omega
theorem cmpI_zero {a b : Int} : cmpI a b = 0 ↔ a = b := by unfold cmpI; (repeat' split) <;> omega
theorem cmpI_le {a b : Int} : cmpI a b ≤ 0 ↔ a ≤ b := by unfold cmpI; (repeat' split) <;> omega
theorem or0_zero {a b : Int} : or0 a b = 0 ↔ a = 0 ∧ b = 0 := by unfold or0; split <;> omega
/-! ### Sorted cells -/
/-! ### Merging -/
end Go.Eng

/-
Twins: the code's merging and checks are those of tables.
-/
namespace Go.Eng
open Go
set_option linter.unusedVariables false
set_option linter.unusedSimpArgs false

theorem lim_ok {n : Nat} (h : n ≤ 100000) : Nat.ble n LIM = true := ble_lim (by omega)

/-! ### Checks -/
end Go.Eng

/-
Twins: merging in any order; what is visible.
-/
namespace Go.Eng
open Go
set_option linter.unusedVariables false
set_option linter.unusedSimpArgs false

/-! ### Merging in any order -/
end Go.Eng

/-
Twins: what is visible; checks of properties; searching.
-/
namespace Go.Eng
open Go
set_option linter.unusedVariables false
set_option linter.unusedSimpArgs false

/-! ### Names below names -/
/-! ### What hides what -/
/-! ### Searching -/
/-! ### Checks of properties -/
/-! ### Equal rows -/
end Go.Eng

/-
What is left of a sorted row, each key once.
-/
namespace Go.Eng
open Go
set_option linter.unusedVariables false
set_option linter.unusedSimpArgs false
section
variable {α : Type}
end
end Go.Eng

/-
The streams.
-/
namespace Go.Eng
open Go
set_option linter.unusedVariables false
set_option linter.unusedSimpArgs false

theorem wrap_I64 (n : Int) : I64 (IntKind.wrap .i64 n) := by
  unfold IntKind.wrap I64
  simp [IntKind.bits, IntKind.signed]
  split <;> omega

theorem Below_eq {x n : Int} (hx : I64 x) (hn : I64 n) : z445 x n = some (if n < 1 then 0 else x % n) := by
  unfold I64 at hx hn
  unfold z445 z448
  by_cases h : n < 1
  · simp [h]
  · have h0 : (n == 0) = false := by simp; omega
    have e := Int.emod_eq_tmod (a := x) (b := n)
    have nn := Int.emod_nonneg x (show n ≠ 0 by omega)
    have lt := Int.emod_lt_of_pos x (show 0 < n by omega)
    simp only [h, decide_false, cond_false, h0, Bool.not_false, gd, cond_true, Option.bind_some, if_false]
    by_cases h3 : x.tmod n < 0
    · simp only [h3, decide_true, cond_true, Option.bind_some]
      split at e
      · omega
      · rw [wrap64 (by omega) (by omega)]
        congr 1
        omega
    · simp only [h3, decide_false, cond_false, Option.bind_some]
      congr 1
      split at e <;> omega
theorem Below_ok {x n : Int} (hx : I64 x) (hn : I64 n) : Ok (z445 x n) (fun r => (1 ≤ n → 0 ≤ r ∧ r < n) ∧ (n < 1 → r = 0)) := by
  refine .of_eq (Below_eq hx hn) ⟨fun h => ?_, fun h => by simp [h]⟩
  rw [if_neg (by omega)]
  exact ⟨Int.emod_nonneg _ (by omega), Int.emod_lt_of_pos _ (by omega)⟩

/-- A stream whose numbers are of 64 bits, of which at most k were taken. -/
def StrOk (k : Nat) (s : z453) : Prop := 0 ≤ s.at_ ∧ s.at_ ≤ k ∧ s.L.length ≤ 9223372036854775807 ∧ ∀ n ∈ s.L, I64 n
theorem StrOk.mono {k k' : Nat} {s : z453} (h : StrOk k s) (hk : k ≤ k') : StrOk k' s := ⟨h.1, by have := h.2.1; omega, h.2.2⟩
/-- One number further. -/
abbrev nxt (s : z453) : z453 := z453.mk s.L (IntKind.wrap .i64 (s.at_ + 1))
theorem StrOk.nxt {k : Nat} {s : z453} (h : StrOk k s) (hk : k < 1099511627776) : StrOk (k + 1) (nxt s) := by
  obtain ⟨h1, h2, h3, h4⟩ := h
  refine ⟨?_, ?_, h3, h4⟩
  · show 0 ≤ IntKind.wrap .i64 (s.at_ + 1)
    rw [wrap64 (by omega) (by omega)]; omega
  · show IntKind.wrap .i64 (s.at_ + 1) ≤ _
    rw [wrap64 (by omega) (by omega)]; omega

theorem Next_ok {k : Nat} {s : z453} {n : Int} (h : StrOk k s) (hk : k < 1099511627776) (hn : I64 n) : Ok (z454 s n) (fun r => (1 ≤ n → 0 ≤ r ∧ r < n) ∧ (n < 1 → r = 0)) := by
  obtain ⟨h1, h2, h3, h4⟩ := h
  unfold z454
  refine .cond (fun _ => ?_) (fun hl => ?_)
  · exact (Below_ok (wrap_I64 _) hn).bind fun r hr => .some hr
  · have hl' : s.L.length ≠ 0 := by simpa using hl
    have e1 : IntKind.wrap .i64 (s.at_ + 1) = s.at_ + 1 := wrap64 (by omega) (by omega)
    have e2 : IntKind.wrap .i64 (s.at_ + 1 - 1) = s.at_ := by rw [wrap64 (by omega) (by omega)]; omega
    refine .gd (by simpa using hl') ?_
    rw [e1, e2]
    refine (at_mem (tmod_nonneg h1) (tmod_lt' (by omega))).bind fun y hy => ?_
    refine (Below_ok (h4 y hy) (by unfold I64; omega)).bind fun r1 hr1 => ?_
    exact (Below_ok (wrap_I64 _) hn).bind fun r hr => .some hr

theorem Pick_ok {k : Nat} {s : z453} {l : List Int} (h : StrOk k s) (hk : k < 1099511627776) (hl : 0 < l.length) (hl2 : l.length < 1000) : Ok (z457 s l) (fun r => r ∈ l) := by
  unfold z457
  refine (Next_ok h hk (by unfold I64; omega)).bind fun r hr => ?_
  have := hr.1 (by omega)
  exact (at_mem this.1 this.2).bind fun y hy => .some hy
theorem Some_ok {k : Nat} {s : z453} {l : List (List UInt8)} (h : StrOk k s) (hk : k < 1099511627776) (hl : 0 < l.length) (hl2 : l.length < 1000) : Ok (z469 s l) (fun r => r ∈ l) := by
  unfold z469
  refine (Next_ok h hk (by unfold I64; omega)).bind fun r hr => ?_
  have := hr.1 (by omega)
  exact (at_mem this.1 this.2).bind fun y hy => .some hy
theorem Range_ok {k : Nat} {s : z453} {low high : Int} (h : StrOk k s) (hk : k < 1099511627776) (hlow : -4611686018427387903 < low ∧ low < 4611686018427387904) (hh : -4611686018427387904 < high ∧ high < 4611686018427387903) :
    Ok (z460 s low high) (fun r => StrOk (k + 1) r.1 ∧ low ≤ r.2 ∧ (low ≤ high → r.2 ≤ high) ∧ (high < low → r.2 = low)) := by
  unfold z460
  refine .cond (fun hc => ?_) (fun hc => ?_)
  · have hc' : high < low := by simpa using hc
    exact .some ⟨h.mono (by omega), Int.le_refl _, by intro h; omega, fun _ => rfl⟩
  · have hc' : ¬ high < low := by simpa using hc
    have e1 : IntKind.wrap .i64 (high - low) = high - low := wrap64 (by omega) (by omega)
    have e2 : IntKind.wrap .i64 (high - low + 1) = high - low + 1 := wrap64 (by omega) (by omega)
    rw [e1, e2]
    refine (Next_ok h hk (by unfold I64; omega)).bind fun r hr => ?_
    have := hr.1 (by omega)
    refine .some ⟨h.nxt hk, ?_, fun _ => ?_, fun h => by omega⟩
    · show low ≤ IntKind.wrap .i64 (low + r)
      rw [wrap64 (by omega) (by omega)]; omega
    · show IntKind.wrap .i64 (low + r) ≤ high
      rw [wrap64 (by omega) (by omega)]; omega
end Go.Eng

/-
The law CellsInAnyOrder: cells that streams make; cells that are merged in any order.
-/
namespace Go.Eng
open Go
set_option linter.unusedVariables false
set_option linter.unusedSimpArgs false

/-! ### Cells that streams make -/
theorem nxt_mk {k : Nat} {s : z453} (h : StrOk k s) (hk : k < 1099511627776) : StrOk (k + 1) (z453.mk s.L (IntKind.wrap .i64 (s.at_ + 1))) := h.nxt hk
/-! ### In any order -/
end Go.Eng

/-
The law CompactStays: what nobody needs any more is left out; what is visible stays, also after a merge with what comes later.
-/
namespace Go.Eng
open Go
set_option linter.unusedVariables false
set_option linter.unusedSimpArgs false

/-! ### Compact -/
/-! ### What is left -/
/-! ### Equal rows of properties -/
/-! ### Later cells -/
end Go.Eng

/-
What is left of a sorted row, each key once, with what is found again.
-/
namespace Go.Eng
open Go
set_option linter.unusedVariables false
set_option linter.unusedSimpArgs false
section
variable {α : Type}
end
end Go.Eng

/-
Twins: names of properties, sorted, each once.
-/
namespace Go.Eng
open Go
set_option linter.unusedVariables false
set_option linter.unusedSimpArgs false

section
variable {α : Type}
theorem Ok.and {f : Option α} {P Q : α → Prop} (h1 : Ok f P) (h2 : Ok f Q) : Ok f (fun r => P r ∧ Q r) := by
  obtain ⟨r, e1, p1⟩ := h1
  obtain ⟨s, e2, p2⟩ := h2
  rw [e1] at e2
  obtain rfl := Option.some.inj e2
  exact ⟨r, e1, p1, p2⟩
end

/-! ### Sorting of strings -/
theorem bitLen12 (n : Nat) (h : n ≤ 12) : Ok (bits_Len (IntKind.wrap .u64 (n : Int))) (fun _ => True) := by
  match n, h with
  | 0, _ => exact ⟨0, by kernel_rfl, trivial⟩
  | 1, _ => exact ⟨1, by kernel_rfl, trivial⟩
  | 2, _ => exact ⟨2, by kernel_rfl, trivial⟩
  | 3, _ => exact ⟨2, by kernel_rfl, trivial⟩
  | 4, _ => exact ⟨3, by kernel_rfl, trivial⟩
  | 5, _ => exact ⟨3, by kernel_rfl, trivial⟩
  | 6, _ => exact ⟨3, by kernel_rfl, trivial⟩
  | 7, _ => exact ⟨3, by kernel_rfl, trivial⟩
  | 8, _ => exact ⟨4, by kernel_rfl, trivial⟩
  | 9, _ => exact ⟨4, by kernel_rfl, trivial⟩
  | 10, _ => exact ⟨4, by kernel_rfl, trivial⟩
  | 11, _ => exact ⟨4, by kernel_rfl, trivial⟩
  | 12, _ => exact ⟨4, by kernel_rfl, trivial⟩
/-! ### Names -/
end Go.Eng

/-
Offices: how a note ages.
-/
namespace Go.Eng
open Go
set_option linter.unusedVariables false
set_option linter.unusedSimpArgs false

/-- a note within bounds -/
structure NB (n : api_Note) : Prop where
  st : 1 ≤ n.State ∧ n.State ≤ 7
  since : 0 ≤ n.Since ∧ n.Since ≤ 1000000
  till : 0 ≤ n.Letter.Until ∧ n.Letter.Until ≤ 1000000
  tries : 0 ≤ n.Tries ∧ n.Tries ≤ 1000000
  out : n.State = 2 → 1 ≤ n.Tries
def tn (T : Int) (n : api_Note) : Int := if n.State = 2 then (if n.Letter.Until ≤ n.Since + T then n.Letter.Until else n.Since + T) else n.Letter.Until
theorem turn_eq (a b c d : Int) {T : Int} (hT : 0 ≤ T ∧ T ≤ 1000000) {n : api_Note} (h : NB n) : z307 a T b c d n = some (tn T n) := by
  have h1 := h.since
  have h2 := h.till
  unfold z307 tn
  by_cases hs : n.State = 2
  · simp only [hs, decide_true, cond_true, if_true]
    rw [wrap64 (by omega) (by omega)]
    congr 1
    unfold imin
    split <;> split <;> omega
  · simp only [hs, decide_false, cond_false, if_false]
def withS (n : api_Note) (s : Int) (t : Int) : api_Note := api_Note.mk n.Letter s n.Tries t
/-- one step of ageing; none: nothing comes about any more -/
def ag1 (T R t : Int) (n : api_Note) : Option api_Note :=
  if 3 ≤ n.State then none else if t < tn T n then none else some (withS n (if tn T n = n.Letter.Until then 5 else if n.Tries = R then 7 else 1) (tn T n))
def gr (T R t : Int) (n : api_Note) : api_Note := match ag1 T R t n with
  | none => n
  | some m => match ag1 T R t m with
    | none => m
    | some k => k
theorem ag1_nb {T R t : Int} (hT : 0 ≤ T) {n m : api_Note} (h : NB n) (h1 : ag1 T R t n = some m) : NB m ∧ m.Letter = n.Letter ∧ m.Tries = n.Tries ∧ (m.State = 1 ∨ m.State = 5 ∨ m.State = 7) ∧ m.Since ≤ t ∧ (m.State = 1 → n.State = 2) := by
  unfold ag1 at h1
  split at h1
  · cases h1
  · split at h1
    · cases h1
    · injection h1 with h1
      subst h1
      obtain ⟨a1, a2, a3, a4, a5⟩ := h
      have ht : 0 ≤ tn T n ∧ tn T n ≤ 1000000 := by unfold tn; split <;> (try split) <;> omega
      refine ⟨⟨?_, by simp only [withS]; exact ht, a3, a4, fun hs => ?_⟩, rfl, rfl, ?_, by simp only [withS]; omega, fun hs => ?_⟩
      · simp only [withS]; split <;> (try split) <;> omega
      · simp only [withS] at hs; split at hs <;> (try split at hs) <;> omega
      · simp only [withS]; split <;> (try split) <;> simp
      · simp only [withS] at hs
        refine Classical.byContradiction fun hne => ?_
        have : tn T n = n.Letter.Until := by unfold tn; rw [if_neg hne]
        rw [if_pos this] at hs
        omega
theorem ag1_end {T R t : Int} {n m k : api_Note} (h1 : ag1 T R t n = some m) (h2 : ag1 T R t m = some k) : 3 ≤ k.State := by
  have hm : m.State = 1 := by
    refine Classical.byContradiction fun hne => ?_
    unfold ag1 at h1 h2
    split at h1
    · cases h1
    · split at h1
      · cases h1
      · injection h1 with h1
        subst h1
        simp only [withS] at h2 hne
        split at h2
        · cases h2
        · rename_i h3
          split at hne <;> (try split at hne) <;> simp_all
  unfold ag1 at h2
  have : tn T m = m.Letter.Until := by unfold tn; rw [if_neg (by omega)]
  split at h2
  · cases h2
  · split at h2
    · cases h2
    · injection h2 with h2
      subst h2
      simp [withS, this]
theorem grown_ok (a c d : Int) {T R : Int} (hT : 0 ≤ T ∧ T ≤ 1000000) {n : api_Note} (h : NB n) (t : Int) : z293 a T R c d n t = some (gr T R t n) := by
  have step : ∀ m : api_Note, NB m → z296 a T R c d t m = some (match ag1 T R t m with | none => .inr m | some k => .inl k) := by
    intro m hm
    unfold z296 z324
    have ht : z307 a T R c d (api_Note.mk (api_Letter.mk m.Letter.Id m.Letter.Slot m.Letter.Body m.Letter.Prio m.Letter.At m.Letter.Until) m.State m.Tries m.Since) = some (tn T m) := turn_eq a R c d hT hm
    simp only [Option.bind_some, ht]
    unfold ag1
    by_cases h3 : 3 ≤ m.State
    · simp [h3]
    · simp only [h3, decide_false, Bool.not_false, cond_true, if_false]
      by_cases h4 : t < tn T m
      · simp [h4]
      · simp only [h4, decide_false, cond_false, if_false]
        by_cases h5 : tn T m = m.Letter.Until
        · simp [h5, withS]
        · by_cases h6 : m.Tries = R
          · simp [h5, h6, withS]
          · simp [h5, h6, withS]
  unfold z293
  have hl : loopO (z296 a T R c d t) n = some (gr T R t n) := by
    unfold gr
    cases e1 : ag1 T R t n with
    | none => exact loop_out (by rw [step n h]; simp only [e1])
    | some m =>
      have hm := (ag1_nb hT.1 h e1).1
      rw [loop_in (s' := m) (by rw [step n h]; simp only [e1])]
      cases e2 : ag1 T R t m with
      | none => exact loop_out (by rw [step m hm]; simp only [e2])
      | some k =>
        have hk := (ag1_nb hT.1 hm e2).1
        rw [loop_in (s' := k) (by rw [step m hm]; simp only [e2])]
        have e3 : ag1 T R t k = none := by unfold ag1; rw [if_pos (ag1_end e1 e2)]
        exact loop_out (by rw [step k hk]; simp only [e2, e3])
  have he : loopO (z296 a T R c d t) (api_Note.mk (api_Letter.mk n.Letter.Id n.Letter.Slot n.Letter.Body n.Letter.Prio n.Letter.At n.Letter.Until) n.State n.Tries n.Since) = some (gr T R t n) := hl
  rw [he]
  rfl
theorem gr_stop {T R t : Int} (n : api_Note) : ag1 T R t (gr T R t n) = none := by
  unfold gr
  cases e1 : ag1 T R t n with
  | none => exact e1
  | some m =>
    simp only
    cases e2 : ag1 T R t m with
    | none => exact e2
    | some k => simp only; unfold ag1; rw [if_pos (ag1_end e1 e2)]
theorem ag1_more {T R t u : Int} {n m : api_Note} (h : ag1 T R t n = some m) (htu : t ≤ u) : ag1 T R u n = some m := by
  unfold ag1 at h ⊢
  split at h
  · cases h
  · rename_i h3
    split at h
    · cases h
    · rename_i h4
      rw [if_neg h3, if_neg (by omega)]
      exact h
/-- twice, at a moment and at a later one, is once -/
theorem gr_gr {T R t u : Int} (htu : t ≤ u) (n : api_Note) : gr T R u (gr T R t n) = gr T R u n := by
  cases e1 : ag1 T R t n with
  | none => have : gr T R t n = n := by unfold gr; rw [e1]
            rw [this]
  | some m =>
    have e1' := ag1_more e1 htu
    cases e2 : ag1 T R t m with
    | some k =>
      have e2' := ag1_more e2 htu
      have h1 : gr T R t n = k := by unfold gr; rw [e1]; simp only; rw [e2]
      have h2 : gr T R u n = k := by unfold gr; rw [e1']; simp only; rw [e2']
      rw [h1, h2]
      unfold gr
      have : ag1 T R u k = none := by unfold ag1; rw [if_pos (ag1_end e1 e2)]
      rw [this]
    | none =>
      have h1 : gr T R t n = m := by unfold gr; rw [e1]; simp only; rw [e2]
      rw [h1]
      unfold gr
      rw [e1']
      simp only
      cases e3 : ag1 T R u m with
      | none => rfl
      | some k =>
        simp only
        have : ag1 T R u k = none := by unfold ag1; rw [if_pos (ag1_end e1' e3)]
        rw [this]
theorem gr_nb {T R t : Int} (hT : 0 ≤ T) {n : api_Note} (h : NB n) : NB (gr T R t n) ∧ (gr T R t n).Letter = n.Letter ∧ (gr T R t n).Tries = n.Tries ∧ ((gr T R t n).State = 1 → n.State = 1 ∨ n.State = 2) := by
  unfold gr
  cases e1 : ag1 T R t n with
  | none => exact ⟨h, rfl, rfl, fun h => .inl h⟩
  | some m =>
    obtain ⟨a1, a2, a3, _, _, a4⟩ := ag1_nb hT h e1
    simp only
    cases e2 : ag1 T R t m with
    | none => exact ⟨a1, a2, a3, fun h => .inr (a4 h)⟩
    | some k =>
      obtain ⟨b1, b2, b3, _, _, b4⟩ := ag1_nb hT a1 e2
      have := ag1_end e1 e2
      exact ⟨b1, b2.trans a2, b3.trans a3, fun h => by simp only at h; omega⟩
/-- what has ended stays -/
theorem gr_ended {T R t : Int} {n : api_Note} (h : 3 ≤ n.State) : gr T R t n = n := by
  unfold gr ag1
  rw [if_pos h]
/-- what has not ended is due later -/
theorem gr_later {T R t : Int} {n : api_Note} (h : ¬ 3 ≤ (gr T R t n).State) : t < tn T (gr T R t n) := by
  have := gr_stop (T := T) (R := R) (t := t) n
  unfold ag1 at this
  rw [if_neg h] at this
  split at this
  · assumption
  · cases this
end Go.Eng

/-
Maps whose keys are strings, as rows of entries in the order of their keys; sorting of what has an order.
-/
namespace Go.Eng
open Go
set_option linter.unusedVariables false
set_option linter.unusedSimpArgs false

section
variable {β : Type}
def KS (l : List (List UInt8 × β)) : Prop := l.Pairwise fun x y => nlt x.1 y.1
theorem ks_nodup {l : List (List UInt8 × β)} (h : KS l) : l.Nodup := by
  unfold List.Nodup
  exact List.Pairwise.imp (fun hab e => nlt_ne hab (congrArg Prod.fst e)) h
theorem ks_keys {l : List (List UInt8 × β)} (h : KS l) : (l.map (·.1)).Nodup := by
  unfold List.Nodup
  rw [List.pairwise_map]
  exact List.Pairwise.imp (fun hab => nlt_ne hab) h
theorem kext {l m : List (List UInt8 × β)} (h1 : KS l) (h2 : KS m) (h : ∀ x, x ∈ l ↔ x ∈ m) : l = m :=
  List.Perm.eq_of_pairwise (le := fun x y : List UInt8 × β => nlt x.1 y.1) (fun a b _ _ hab hba => absurd hba (nlt_asymm hab)) h1 h2 ((List.perm_ext_iff_of_nodup (ks_nodup h1) (ks_nodup h2)).2 h)
theorem ks_one {l : List (List UInt8 × β)} (h : KS l) {x y : List UInt8 × β} (hx : x ∈ l) (hy : y ∈ l) (e : x.1 = y.1) : x = y := by
  obtain ⟨i, hi, rfl⟩ := List.mem_iff_getElem.1 hx
  obtain ⟨j, hj, rfl⟩ := List.mem_iff_getElem.1 hy
  have : i = j := (List.getElem_inj (h₀ := by simpa using hi) (h₁ := by simpa using hj) (ks_keys h)).1 (by simpa using e)
  subst this; rfl
theorem aget_none {l : List (List UInt8 × β)} {k : List UInt8} : aget l k = none ↔ ∀ x ∈ l, x.1 ≠ k := by
  unfold aget
  rw [Option.map_eq_none_iff, List.find?_eq_none]
  constructor
  · intro h x hx e
    exact h x hx (by simpa using e.symm)
  · intro h x hx e
    exact h x hx (by simpa using (of_decide_eq_true e).symm)
theorem aget_some {l : List (List UInt8 × β)} (h : KS l) {k : List UInt8} {v : β} : aget l k = some v ↔ (k, v) ∈ l := by
  constructor
  · intro ha
    unfold aget at ha
    obtain ⟨x, hx, rfl⟩ := Option.map_eq_some_iff.1 ha
    have h1 : k = x.1 := by simpa using List.find?_some hx
    have := List.mem_of_find?_eq_some hx
    rw [h1]; exact this
  · intro hm
    cases ha : aget l k with
    | none => exact absurd rfl (aget_none.1 ha _ hm)
    | some u =>
      unfold aget at ha
      obtain ⟨x, hx, rfl⟩ := Option.map_eq_some_iff.1 ha
      have h1 : k = x.1 := by simpa using List.find?_some hx
      have := ks_one h (List.mem_of_find?_eq_some hx) hm h1.symm
      rw [this]
theorem lt_is (a b : List UInt8) : KOrd.lt a b = true ↔ nlt a b := by
  show Op.bytesLess a b = true ↔ _
  rw [cmpB_less, decide_eq_true_iff]
  rfl
theorem aput_mem {l : List (List UInt8 × β)} {k : List UInt8} {v : β} {x : List UInt8 × β} : x ∈ aput l k v ↔ x = (k, v) ∨ (x ∈ l ∧ x.1 ≠ k) := by
  unfold aput
  cases ha : l.any fun e => decide (k = e.1) with
  | true =>
    simp only [cond_true, List.mem_map]
    constructor
    · rintro ⟨e, he, rfl⟩
      by_cases hk : k = e.1
      · simp [hk]
      · simp only [hk, decide_false, cond_false]
        exact .inr ⟨he, fun h => hk h.symm⟩
    · rintro (rfl | ⟨h1, h2⟩)
      · obtain ⟨e, he, hk⟩ := List.any_eq_true.1 ha
        exact ⟨e, he, by rw [hk]; rfl⟩
      · refine ⟨x, h1, ?_⟩
        have : ¬ k = x.1 := fun h => h2 h.symm
        simp [this]
  | false =>
    simp only [cond_false, List.mem_append, List.mem_cons]
    have hno : ∀ y ∈ l, y.1 ≠ k := fun y hy e => by
      have := List.any_eq_false.1 ha y hy
      exact this (by simpa using e.symm)
    have hsp : ∀ y, y ∈ l ↔ y ∈ l.takeWhile (fun e => KOrd.lt e.1 k) ∨ y ∈ l.dropWhile (fun e => KOrd.lt e.1 k) := fun y => by
      rw [← List.mem_append, List.takeWhile_append_dropWhile]
    constructor
    · rintro (h | rfl | h)
      · exact .inr ⟨(hsp x).2 (.inl h), hno x ((hsp x).2 (.inl h))⟩
      · exact .inl rfl
      · exact .inr ⟨(hsp x).2 (.inr h), hno x ((hsp x).2 (.inr h))⟩
    · rintro (rfl | ⟨h, _⟩)
      · exact .inr (.inl rfl)
      · rcases (hsp x).1 h with h | h
        · exact .inl h
        · exact .inr (.inr h)
theorem take_lt {l : List (List UInt8 × β)} {k : List UInt8} : ∀ x ∈ l.takeWhile (fun e => KOrd.lt e.1 k), nlt x.1 k := by
  induction l with
  | nil => intro x hx; simp at hx
  | cons y l ih =>
    intro x hx
    rw [List.takeWhile_cons] at hx
    cases hb : KOrd.lt y.1 k with
    | false => rw [hb] at hx; simp at hx
    | true =>
      rw [hb] at hx
      simp only [if_true, List.mem_cons] at hx
      rcases hx with rfl | hx
      · exact (lt_is _ _).1 hb
      · exact ih x hx
theorem drop_ge {k : List UInt8} : ∀ {l : List (List UInt8 × β)}, KS l → ∀ x ∈ l.dropWhile (fun e => KOrd.lt e.1 k), ¬ nlt x.1 k
  | [], _, x, hx => by simp at hx
  | y :: l, h, x, hx => by
    rw [List.dropWhile_cons] at hx
    obtain ⟨h1, h2⟩ := List.pairwise_cons.1 h
    cases hb : KOrd.lt y.1 k with
    | true =>
      rw [hb] at hx
      exact drop_ge h2 x (by simpa using hx)
    | false =>
      rw [hb] at hx
      simp only [Bool.false_eq_true, if_false, List.mem_cons] at hx
      have hy : ¬ nlt y.1 k := fun hc => by rw [(lt_is _ _).2 hc] at hb; cases hb
      rcases hx with rfl | hx
      · exact hy
      · intro hc
        exact hy (nlt_trans (h1 x hx) hc)
theorem aput_ks {l : List (List UInt8 × β)} (h : KS l) (k : List UInt8) (v : β) : KS (aput l k v) := by
  unfold aput
  cases ha : l.any fun e => decide (k = e.1) with
  | true =>
    simp only [cond_true]
    unfold KS
    rw [List.pairwise_map]
    refine List.Pairwise.imp ?_ h
    intro x y hxy
    have key : ∀ e : List UInt8 × β, (bif decide (k = e.1) then (k, v) else e).1 = e.1 := fun e => by
      by_cases hk : k = e.1
      · simp [hk]
      · simp [hk]
    rw [key, key]
    exact hxy
  | false =>
    simp only [cond_false]
    have hno : ∀ y ∈ l, y.1 ≠ k := fun y hy e => by
      have := List.any_eq_false.1 ha y hy
      exact this (by simpa using e.symm)
    have hgt : ∀ y ∈ l.dropWhile (fun e => KOrd.lt e.1 k), nlt k y.1 := fun y hy => by
      have h1 := drop_ge h y hy
      have h2 := hno y (List.dropWhile_sublist _ |>.subset hy)
      rcases cmpB_cases y.1 k with h3 | h3 | h3
      · exact absurd h3 h1
      · exact absurd h3 h2
      · exact h3
    unfold KS
    rw [List.pairwise_append]
    refine ⟨h.sublist (List.takeWhile_sublist _), List.pairwise_cons.2 ⟨hgt, h.sublist (List.dropWhile_sublist _)⟩, fun x hx y hy => ?_⟩
    have hx' := take_lt x hx
    rcases List.mem_cons.1 hy with rfl | hy
    · exact hx'
    · exact nlt_trans hx' (hgt y hy)
theorem adel_mem {l : List (List UInt8 × β)} {k : List UInt8} {x : List UInt8 × β} : x ∈ adel l k ↔ x ∈ l ∧ x.1 ≠ k := by
  unfold adel
  rw [List.mem_filter]
  constructor
  · rintro ⟨h1, h2⟩
    exact ⟨h1, fun e => by simp [e] at h2⟩
  · rintro ⟨h1, h2⟩
    have : ¬ k = x.1 := fun h => h2 h.symm
    exact ⟨h1, by simp [this]⟩
theorem adel_ks {l : List (List UInt8 × β)} (h : KS l) (k : List UInt8) : KS (adel l k) := h.sublist List.filter_sublist
/-- entries put in one after the other -/
theorem puts_ks {γ : Type} (fk : γ → List UInt8) (fv : γ → β) : ∀ (o : List γ) (l : List (List UInt8 × β)), KS l → KS (o.foldl (fun m e => aput m (fk e) (fv e)) l)
  | [], l, h => h
  | e :: o, l, h => puts_ks fk fv o _ (aput_ks h _ _)
theorem puts_mem {γ : Type} (fk : γ → List UInt8) (fv : γ → β) : ∀ (o : List γ) (l : List (List UInt8 × β)), (o.map fk).Nodup → ∀ x, x ∈ o.foldl (fun m e => aput m (fk e) (fv e)) l ↔ (∃ e ∈ o, x = (fk e, fv e)) ∨ (x ∈ l ∧ ∀ e ∈ o, x.1 ≠ fk e)
  | [], l, _, x => by simp
  | e :: o, l, h, x => by
    rw [List.map_cons, List.nodup_cons] at h
    rw [List.foldl_cons, puts_mem fk fv o _ h.2, aput_mem]
    constructor
    · rintro (⟨g, hg, rfl⟩ | ⟨rfl | ⟨h1, h2⟩, h3⟩)
      · exact .inl ⟨g, List.mem_cons_of_mem _ hg, rfl⟩
      · exact .inl ⟨e, List.mem_cons_self .., rfl⟩
      · exact .inr ⟨h1, fun g hg => by
          rcases List.mem_cons.1 hg with rfl | hg
          · exact h2
          · exact h3 g hg⟩
    · rintro (⟨g, hg, rfl⟩ | ⟨h1, h2⟩)
      · rcases List.mem_cons.1 hg with rfl | hg
        · exact .inr ⟨.inl rfl, fun d hd hne => h.1 (List.mem_map.2 ⟨d, hd, hne.symm⟩)⟩
        · exact .inl ⟨g, hg, rfl⟩
      · exact .inr ⟨.inr ⟨h1, h2 e (List.mem_cons_self ..)⟩, fun g hg => h2 g (List.mem_cons_of_mem _ hg)⟩
end

/-! ### Sorting of what has an order -/
section
variable {α : Type}
theorem swap_pm' {l : List α} {j : Nat} (h : 0 < j) (hj : j < l.length) : ((l.set j (l[j - 1]'(by omega))).set (j - 1) l[j]).Perm l := by
  have h1 := Array.swap_perm (xs := l.toArray) (i := j) (j := j - 1) (by simpa using hj) (by simp; omega)
  have h2 := Array.perm_iff_toList_perm.1 h1
  simpa [Array.swap] using h2
theorem gI2_pm' {P : α → Prop} {f : α → α → Int} {c : α → α → Option Int} (hc : ∀ x y, P x → P y → c x y = some (f x y)) {n : Nat} (hn : n ≤ 100000) {l0 l : List α} (hl : l.length = n) (hP : All P l) (h0 : l.Perm l0) {i : Nat} (hi : i < n) :
    Ok (loopO (gI2 c 0) (l, (i : Int))) (fun r => r.length = n ∧ All P r ∧ r.Perm l0) := by
  refine loop_ok (fun s : List α × Int => s.1.length = n ∧ All P s.1 ∧ s.1.Perm l0 ∧ ∃ j : Nat, s.2 = (j : Int) ∧ j ≤ i) (fun s => s.2.toNat) ?_ ⟨hl, hP, h0, i, rfl, Nat.le_refl _⟩
  rintro ⟨m, q⟩ ⟨m1, m2, m3, j, rfl, j1⟩
  simp only at m1 m2 m3
  unfold gI2 gI3
  by_cases hj : (0 : Int) < j
  · have w1 : IntKind.wrap .i64 ((j : Int) - 1) = ((j - 1 : Nat) : Int) := by rw [wrap64 (by omega) (by omega)]; omega
    have hjm : j < m.length := by omega
    have hjm1 : j - 1 < m.length := by omega
    have hy := m2 _ (List.getElem_mem hjm)
    have hx := m2 _ (List.getElem_mem hjm1)
    simp only [hj, decide_true, cond_true, w1, at_nat hjm, at_nat hjm1, Option.bind_some, hc _ _ hy hx]
    refine .cond (fun hlt => ?_) (fun hge => ?_)
    · have g3 : at? (m.set (j : Int).toNat m[j - 1]) ((j - 1 : Nat) : Int) = some m[j - 1] := by
        rw [at_nat (by simp; omega)]
        simp only [Int.toNat_natCast, List.getElem_set]
        rw [if_neg (by omega)]
      rw [g3]
      simp only [Option.bind_some, Int.toNat_natCast]
      exact .some ⟨⟨by simp [m1], (m2.set hx).set hy, (swap_pm' (by omega) hjm).trans m3, j - 1, rfl, by omega⟩, by simp only; omega⟩
    · exact .some ⟨m1, m2, m3⟩
  · have hj' : ¬ (0 : Int) < j := hj
    simp only [hj', decide_false, cond_false, Option.bind_some]
    exact .some ⟨m1, m2, m3⟩
theorem gI_pm' {P : α → Prop} {f : α → α → Int} {c : α → α → Option Int} (hc : ∀ x y, P x → P y → c x y = some (f x y)) {l : List α} (hl : l.length ≤ 100000) (hP : All P l) : Ok (gI c l 0 l.length) (fun r => r.Perm l) := by
  unfold gI
  have w : IntKind.wrap .i64 ((0 : Int) + 1) = 1 := by decide
  rw [w]
  refine Ok.bind (P := fun r : List α => r.Perm l) (loop_ok (fun s : List α × Int => s.1.length = l.length ∧ All P s.1 ∧ s.1.Perm l ∧ ∃ i : Nat, s.2 = (i : Int)) (fun s => ((l.length : Int) - s.2).toNat) ?_
    ⟨rfl, hP, List.Perm.refl _, 1, rfl⟩) fun r hr => .some hr
  rintro ⟨m, q⟩ ⟨m1, m2, m3, i, rfl⟩
  simp only at m1 m2 m3
  unfold gI1
  by_cases hi : i < l.length
  · have hi' : (i : Int) < l.length := by omega
    have w1 : IntKind.wrap .i64 ((i : Int) + 1) = ((i + 1 : Nat) : Int) := by rw [wrap64 (by omega) (by omega)]; omega
    simp only [hi', decide_true, cond_true]
    refine (gI2_pm' hc (n := l.length) hl m1 m2 m3 hi).bind fun r hr => ?_
    rw [w1]
    exact .some ⟨⟨hr.1, hr.2.1, hr.2.2, i + 1, rfl⟩, by simp only; omega⟩
  · have hi' : ¬ (i : Int) < l.length := by omega
    simp only [hi', decide_false, cond_false]
    exact .some m3
/-- the code's sorting of up to twelve: by insertion -/
noncomputable def gPdq (c : α → α → Option Int) (qx : List α) (qx1 qx2 qx3 : Int) : Unit → Option (Unit ⊕ List α)
  | _ => cond (decide ((IntKind.wrap .i64 (qx2 - qx1)) ≤ 12)) ((gI c qx qx1 qx2).bind fun v => gd (v.length == qx.length) <| some (.inr v)) (cond (decide (qx3 = 0)) none none)
noncomputable def gSF (c : α → α → Option Int) (qx : List α) : Option (List α) :=
  (bits_Len (IntKind.wrap .u64 ((qx.length : Int)))).bind fun vr1 =>
  ((loopO (gPdq c qx 0 (qx.length : Int) vr1) ()).bind fun v => some v).bind fun vl2 =>
  gd (vl2.length == qx.length) <|
  some vl2
/-- the only order in which there may stand what has an order -/
theorem gSF_ok {f : α → α → Int} {c : α → α → Option Int} (hc : ∀ x y, c x y = some (f x y)) (anti : ∀ x y, f y x = - f x y) (tr : ∀ x y z, f x y ≤ 0 → f y z ≤ 0 → f x z ≤ 0) {l : List α} (hl : l.length ≤ 12) (hd : l.Pairwise fun x y => f x y ≠ 0) :
    ∃ r, gSF c l = some r ∧ r.Perm l ∧ r.Pairwise fun x y => f x y < 0 := by
  have hP : All (fun _ : α => True) l := fun _ _ => trivial
  obtain ⟨r, h1, ⟨h2, h3, h4⟩, h5⟩ := (gI_ord (P := fun _ => True) (f := f) (c := c) (fun x y _ _ => hc x y) anti tr (l := l) (by omega) hP).and (gI_pm' (P := fun _ => True) (f := f) (c := c) (fun x y _ _ => hc x y) (l := l) (by omega) hP)
  obtain ⟨b, hb, _⟩ := bitLen12 l.length hl
  refine ⟨r, ?_, h5, ?_⟩
  · unfold gSF
    rw [hb]
    simp only [Option.bind_some]
    have : loopO (gPdq c l 0 (l.length : Int) b) () = some r := by
      refine loop_out ?_
      unfold gPdq
      have w : IntKind.wrap .i64 ((l.length : Int) - 0) = l.length := by rw [wrap64 (by omega) (by omega)]; omega
      have hcc : (l.length : Int) ≤ 12 := by omega
      rw [w, h1]
      simp only [hcc, decide_true, cond_true, Option.bind_some, gd, h2, beq_self_eq_true]
    rw [this]
    simp only [Option.bind_some, gd, h2, beq_self_eq_true, cond_true]
  · have hd' : r.Pairwise fun x y => f x y ≠ 0 := (h5.pairwise_iff (fun {x y} h => by rw [anti x y]; omega)).2 hd
    rw [List.pairwise_iff_getElem]
    intro i j hi hj hij
    have a1 := h4 i j hij (by rw [← h2]; exact hj) (by rw [h2]; exact Nat.le_refl _)
    have a2 := (List.pairwise_iff_getElem.1 hd') i j hi hj hij
    omega
theorem strict_ext {f : α → α → Int} (anti : ∀ x y, f y x = - f x y) {l m : List α} (h1 : l.Pairwise fun x y => f x y < 0) (h2 : m.Pairwise fun x y => f x y < 0) (hp : l.Perm m) : l = m :=
  List.Perm.eq_of_pairwise (le := fun x y => f x y < 0) (fun a b _ _ hab hba => by have := anti a b; omega) h1 h2 hp
end
end Go.Eng

/-
Offices: the notes behind ageing; in steps they are the same.
-/
namespace Go.Eng
open Go
set_option linter.unusedVariables false
set_option linter.unusedSimpArgs false

/-! ### Those that ended, the oldest first -/
def noF (x y : api_Note) : Int := or0 (cmpI x.Since y.Since) (Lib.compareBytes x.Letter.Id y.Letter.Id)
theorem cmpO_anti (a b : Int) : cmpI b a = - cmpI a b := by unfold cmpI; (repeat' split) <;> omega
theorem noF_anti (x y : api_Note) : noF y x = - noF x y := by
  unfold noF
  have h1 := cmpO_anti x.Since y.Since
  have h2 := cmpB_anti x.Letter.Id y.Letter.Id
  unfold or0
  rw [h1, h2]
  (repeat' split) <;> omega
theorem noF_tr (x y z : api_Note) (h1 : noF x y ≤ 0) (h2 : noF y z ≤ 0) : noF x z ≤ 0 := by
  unfold noF or0 at *
  have a1 := @cmpI_zero x.Since y.Since
  have a2 := @cmpI_zero y.Since z.Since
  have a3 := @cmpI_zero x.Since z.Since
  have b1 := @cmpI_le x.Since y.Since
  have b2 := @cmpI_le y.Since z.Since
  have b3 := @cmpI_le x.Since z.Since
  have tr := @cmpB_tr x.Letter.Id y.Letter.Id z.Letter.Id
  by_cases e1 : cmpI x.Since y.Since = 0
  · by_cases e2 : cmpI y.Since z.Since = 0
    · have e3 : cmpI x.Since z.Since = 0 := a3.2 ((a1.1 e1).trans (a2.1 e2))
      rw [if_pos e1] at h1
      rw [if_pos e2] at h2
      rw [if_pos e3]
      exact tr h1 h2
    · have := a1.1 e1
      have h : ¬ cmpI x.Since z.Since = 0 := fun h => e2 (a2.2 (by have := a3.1 h; omega))
      rw [if_neg e2] at h2
      rw [if_neg h]
      omega
  · rw [if_neg e1] at h1
    have h0 : ¬ x.Since = y.Since := fun h => e1 (a1.2 h)
    have hxz : x.Since < z.Since := by
      have := b1.1 h1
      by_cases e2 : cmpI y.Since z.Since = 0
      · have := a2.1 e2; omega
      · rw [if_neg e2] at h2; have := b2.1 h2; omega
    have h3 : ¬ cmpI x.Since z.Since = 0 := fun h => by have := a3.1 h; omega
    rw [if_neg h3]
    exact b3.2 (by omega)

/-! ### Offices' notes -/
def ids6 : List (List UInt8) := [[108, 97], [108, 98], [108, 99], [108, 100], [108, 101], [108, 102]]
def rk6 (n : List UInt8) : Int := if n = [108, 97] then 1 else if n = [108, 98] then 2 else if n = [108, 99] then 3 else if n = [108, 100] then 4 else if n = [108, 101] then 5 else 6
theorem rk6_up : (ids6.all fun x => ids6.all fun y => !decide (Lib.compareBytes x y < 0) || decide (rk6 x < rk6 y)) = true := by decide
theorem rk6_range : (ids6.all fun n => decide (1 ≤ rk6 n) && decide (rk6 n ≤ 6)) = true := by decide
structure MOk (m : List (List UInt8 × api_Note)) : Prop where
  srt : KS m
  key : ∀ e ∈ m, e.2.Letter.Id = e.1 ∧ e.1 ∈ ids6
  nb : ∀ e ∈ m, NB e.2
theorem MOk.len {m : List (List UInt8 × api_Note)} (h : MOk m) : m.length ≤ 6 := by
  have up : ∀ {l : List (List UInt8 × api_Note)} {lo : Int}, l.Pairwise (fun x y => rk6 x.1 < rk6 y.1) → (∀ x ∈ l, lo ≤ rk6 x.1 ∧ rk6 x.1 ≤ 6) → lo ≤ 7 → (l.length : Int) ≤ 6 - lo + 1 := by
    intro l
    induction l with
    | nil => intro lo _ _ h; simp; omega
    | cons x l ih =>
      intro lo hp hb _
      obtain ⟨h1, h2⟩ := List.pairwise_cons.1 hp
      have h3 := hb x (List.mem_cons_self ..)
      have := ih (lo := rk6 x.1 + 1) h2 (fun y hy => ⟨by have := h1 y hy; omega, (hb y (List.mem_cons_of_mem _ hy)).2⟩) (by omega)
      simp only [List.length_cons]
      omega
  have := up (l := m) (lo := 1) (List.Pairwise.imp_of_mem (fun {x y} hx hy hxy => by
    have h2 := List.all_eq_true.1 (List.all_eq_true.1 rk6_up _ (h.key x hx).2) _ (h.key y hy).2
    have h3 : Lib.compareBytes x.1 y.1 < 0 := hxy
    simpa [h3] using h2) h.srt) (fun x hx => by
    have := List.all_eq_true.1 rk6_range _ (h.key x hx).2
    simpa using this) (by omega)
  omega
def endB (n : api_Note) : Bool := decide (3 ≤ n.State)
def grM (T R t : Int) (m : List (List UInt8 × api_Note)) : List (List UInt8 × api_Note) := m.map fun e => (e.1, gr T R t e.2)
theorem grM_ok {T R t : Int} (hT : 0 ≤ T) {m : List (List UInt8 × api_Note)} (h : MOk m) : MOk (grM T R t m) := by
  refine ⟨?_, fun e he => ?_, fun e he => ?_⟩
  · unfold KS grM
    rw [List.pairwise_map]
    exact h.srt
  · obtain ⟨d, hd, rfl⟩ := List.mem_map.1 he
    refine ⟨?_, (h.key d hd).2⟩
    show (gr T R t d.2).Letter.Id = d.1
    rw [(gr_nb hT (h.nb d hd)).2.1]
    exact (h.key d hd).1
  · obtain ⟨d, hd, rfl⟩ := List.mem_map.1 he
    exact (gr_nb hT (h.nb d hd)).1
/-- those that ended -/
def enL (m : List (List UInt8 × api_Note)) : List api_Note := (m.map (·.2)).filter endB
theorem mem_enL {m : List (List UInt8 × api_Note)} {n : api_Note} : n ∈ enL m ↔ (∃ e ∈ m, e.2 = n) ∧ endB n = true := by
  unfold enL
  rw [List.mem_filter, List.mem_map]
/-- how many ended later -/
def cnt (E : List api_Note) (n : api_Note) : Nat := (E.filter fun x => decide (noF n x < 0)).length
def stays (K : Int) (m : List (List UInt8 × api_Note)) (e : List UInt8 × api_Note) : Bool := !endB e.2 || decide ((cnt (enL m) e.2 : Int) < K)
/-- the oldest are forgotten, where there are too many -/
def forgetM (K : Int) (m : List (List UInt8 × api_Note)) : List (List UInt8 × api_Note) := m.filter (stays K m)
theorem mem_forget {K : Int} {m : List (List UInt8 × api_Note)} {e : List UInt8 × api_Note} : e ∈ forgetM K m ↔ e ∈ m ∧ stays K m e = true := List.mem_filter
theorem mem_grM {T R t : Int} {m : List (List UInt8 × api_Note)} {e : List UInt8 × api_Note} : e ∈ grM T R t m ↔ ∃ d ∈ m, e = (d.1, gr T R t d.2) := by
  unfold grM
  rw [List.mem_map]
  constructor
  · rintro ⟨d, hd, rfl⟩; exact ⟨d, hd, rfl⟩
  · rintro ⟨d, hd, rfl⟩; exact ⟨d, hd, rfl⟩
theorem forget_ok {K : Int} {m : List (List UInt8 × api_Note)} (h : MOk m) : MOk (forgetM K m) :=
  ⟨h.srt.sublist List.filter_sublist, fun e he => h.key e (List.mem_filter.1 he).1, fun e he => h.nb e (List.mem_filter.1 he).1⟩
def ageM (T R K t : Int) (m : List (List UInt8 × api_Note)) : List (List UInt8 × api_Note) := forgetM K (grM T R t m)
theorem age_ok {T R K t : Int} (hT : 0 ≤ T) {m : List (List UInt8 × api_Note)} (h : MOk m) : MOk (ageM T R K t m) := forget_ok (grM_ok hT h)
theorem noF_zero {x y : api_Note} (h : noF x y = 0) : x.Letter.Id = y.Letter.Id := by
  unfold noF or0 at h
  split at h
  · exact cmpB_zero.1 h
  · rename_i h1; exact absurd h h1
theorem enL_nd {m : List (List UInt8 × api_Note)} (h : MOk m) : (enL m).Pairwise fun x y => noF x y ≠ 0 := by
  unfold enL
  refine List.Pairwise.filter _ ?_
  rw [List.pairwise_map]
  refine List.Pairwise.imp_of_mem ?_ h.srt
  intro x y hx hy hxy h0
  have := noF_zero h0
  rw [(h.key x hx).1, (h.key y hy).1] at this
  exact nlt_ne hxy this
/-- those that stay, of a row in order -/
theorem cnt_sorted {S : List api_Note} (hs : S.Pairwise fun x y => noF x y < 0) {i : Nat} (hi : i < S.length) : cnt S S[i] = S.length - 1 - i := by
  unfold cnt
  have h1 : S.filter (fun x => decide (noF S[i] x < 0)) = S.drop (i + 1) := by
    have e0 : S.filter (fun x => decide (noF S[i] x < 0)) = (S.take (i + 1)).filter (fun x => decide (noF S[i] x < 0)) ++ (S.drop (i + 1)).filter (fun x => decide (noF S[i] x < 0)) := by
      rw [← List.filter_append, List.take_append_drop]
    rw [e0]
    have e1 : (S.take (i + 1)).filter (fun x => decide (noF S[i] x < 0)) = [] := by
      rw [List.filter_eq_nil_iff]
      intro x hx
      obtain ⟨j, hj, rfl⟩ := List.mem_iff_getElem.1 hx
      rw [List.length_take] at hj
      rw [List.getElem_take]
      simp only [decide_eq_true_eq]
      by_cases hji : j = i
      · subst hji
        have := noF_anti S[j] S[j]
        omega
      · have h2 := (List.pairwise_iff_getElem.1 hs) j i (by omega) hi (by omega)
        have := noF_anti S[j] S[i]
        omega
    have e2 : (S.drop (i + 1)).filter (fun x => decide (noF S[i] x < 0)) = S.drop (i + 1) := by
      rw [List.filter_eq_self]
      intro x hx
      obtain ⟨j, hj, rfl⟩ := List.mem_iff_getElem.1 hx
      rw [List.length_drop] at hj
      rw [List.getElem_drop]
      simp only [decide_eq_true_eq]
      exact (List.pairwise_iff_getElem.1 hs) i (i + 1 + j) hi (by omega) (by omega)
    rw [e1, e2, List.nil_append]
  rw [h1, List.length_drop]
  omega
theorem cnt_perm {E F : List api_Note} (h : E.Perm F) (n : api_Note) : cnt E n = cnt F n := (h.filter _).length_eq
theorem cnt_sub {E F : List api_Note} (h : E.Sublist F) (n : api_Note) : cnt E n ≤ cnt F n := (h.filter _).length_le
theorem enL_sub {l m : List (List UInt8 × api_Note)} (h : l.Sublist m) : (enL l).Sublist (enL m) := (h.map _).filter _
theorem nodup_len {α : Type} : ∀ {l m : List α}, l.Nodup → (∀ x ∈ l, x ∈ m) → l.length ≤ m.length
  | [], m, _, _ => by simp
  | x :: l, m, h, hs => by
    rw [List.nodup_cons] at h
    obtain ⟨s, t, rfl⟩ := List.append_of_mem (hs x (List.mem_cons_self ..))
    have := nodup_len (l := l) (m := s ++ t) h.2 fun y hy => by
      have h1 := hs y (List.mem_cons_of_mem _ hy)
      have h2 : y ≠ x := fun e => h.1 (e ▸ hy)
      simp only [List.mem_append, List.mem_cons] at h1 ⊢
      rcases h1 with h1 | h1 | h1
      · exact .inl h1
      · exact absurd h1 h2
      · exact .inr h1
    simp only [List.length_append, List.length_cons] at this ⊢
    omega
/-- in steps it is the same -/
theorem age_age {T R K t u : Int} (hT : 0 ≤ T) (htu : t ≤ u) {m : List (List UInt8 × api_Note)} (hm : MOk m) : ageM T R K u (ageM T R K t m) = ageM T R K u m := by
  have h1 := grM_ok (R := R) (t := t) hT hm
  have h2 := grM_ok (R := R) (t := u) hT hm
  have hM2 : grM T R u (grM T R t m) = grM T R u m := by
    unfold grM
    rw [List.map_map]
    refine List.map_congr_left fun e _ => ?_
    simp only [Function.comp, gr_gr htu]
  have hsub : (grM T R u (ageM T R K t m)).Sublist (grM T R u m) := by
    rw [← hM2]
    exact List.Sublist.map _ List.filter_sublist
  have hE1 : (enL (grM T R t m)).Sublist (enL (grM T R u m)) := by
    rw [← hM2]
    generalize grM T R t m = M
    induction M with
    | nil => exact List.Sublist.refl _
    | cons e M ih =>
      unfold enL grM at ih ⊢
      simp only [List.map_cons, List.filter_cons]
      by_cases he : endB e.2 = true
      · have : gr T R u e.2 = e.2 := gr_ended (by simpa [endB] using he)
        rw [this, he]
        simp only [if_true]
        exact ih.cons_cons _
      · have hf : endB e.2 = false := by simpa using he
        rw [hf]
        simp only [Bool.false_eq_true, if_false]
        split
        · exact ih.cons _
        · exact ih
  refine kext (age_ok hT (age_ok hT hm)).srt (age_ok hT hm).srt fun e => ?_
  show e ∈ forgetM K (grM T R u (ageM T R K t m)) ↔ e ∈ forgetM K (grM T R u m)
  rw [mem_forget, mem_forget]
  have mem2 : e ∈ grM T R u (ageM T R K t m) ↔ ∃ d ∈ grM T R t m, stays K (grM T R t m) d = true ∧ e = (d.1, gr T R u d.2) := by
    rw [mem_grM]
    constructor
    · rintro ⟨d, hd, rfl⟩
      obtain ⟨q1, q2⟩ := mem_forget.1 hd
      exact ⟨d, q1, q2, rfl⟩
    · rintro ⟨d, q1, q2, rfl⟩
      exact ⟨d, mem_forget.2 ⟨q1, q2⟩, rfl⟩
  have memu : e ∈ grM T R u m ↔ ∃ d ∈ grM T R t m, e = (d.1, gr T R u d.2) := by
    rw [← hM2, mem_grM]
  constructor
  · rintro ⟨q1, q2⟩
    obtain ⟨d, d1, d2, rfl⟩ := mem2.1 q1
    refine ⟨memu.2 ⟨d, d1, rfl⟩, ?_⟩
    unfold stays at q2 ⊢
    cases he : endB (gr T R u d.2) with
    | false => rfl
    | true =>
      rw [he] at q2
      simp only [Bool.not_true, Bool.false_or, decide_eq_true_eq] at q2 ⊢
      refine Classical.byContradiction fun hge => ?_
      -- somebody who was forgotten is newer
      have hex : ∃ x ∈ enL (grM T R u m), x ∉ enL (grM T R u (ageM T R K t m)) ∧ noF (gr T R u d.2) x < 0 := by
        refine Classical.byContradiction fun hno => ?_
        have hle : cnt (enL (grM T R u m)) (gr T R u d.2) ≤ cnt (enL (grM T R u (ageM T R K t m))) (gr T R u d.2) := by
          unfold cnt
          have hnd : ((enL (grM T R u m)).filter fun x => decide (noF (gr T R u d.2) x < 0)).Nodup := by
            refine List.Pairwise.filter _ ?_
            exact List.Pairwise.imp (fun {a b} hab e => hab (by subst e; have := noF_anti a a; omega)) (enL_nd h2)
          refine (nodup_len hnd ?_)
          intro x hx
          obtain ⟨x1, x2⟩ := List.mem_filter.1 hx
          refine List.mem_filter.2 ⟨Classical.byContradiction fun hxn => hno ⟨x, x1, hxn, by simpa using x2⟩, x2⟩
        omega
      obtain ⟨x, x1, x2, x3⟩ := hex
      -- it was forgotten at the first moment
      obtain ⟨⟨ex, ex1, rfl⟩, ex2⟩ := mem_enL.1 x1
      have hxm : ∃ d' ∈ grM T R t m, ex = (d'.1, gr T R u d'.2) := by
        rw [← hM2] at ex1
        exact mem_grM.1 ex1
      obtain ⟨d', hd1, rfl⟩ := hxm
      have hns : stays K (grM T R t m) d' = false := by
        rw [Bool.eq_false_iff]
        intro hs
        refine x2 (mem_enL.2 ⟨⟨(d'.1, gr T R u d'.2), ?_, rfl⟩, ex2⟩)
        exact mem_grM.2 ⟨d', mem_forget.2 ⟨hd1, hs⟩, rfl⟩
      unfold stays at hns
      simp only [Bool.or_eq_false_iff, Bool.not_eq_false', decide_eq_false_iff_not] at hns
      obtain ⟨n1, n2⟩ := hns
      have hgx : gr T R u d'.2 = d'.2 := gr_ended (by simpa [endB] using n1)
      simp only at x3
      rw [hgx] at x3
      -- so many that stay are newer still
      obtain ⟨S, _, hS1, hS2⟩ := gSF_ok (f := noF) (c := fun x y => some (noF x y)) (fun _ _ => rfl) noF_anti noF_tr (l := enL (grM T R t m)) (by
        have := h1.len
        have := (List.length_filter_le endB ((grM T R t m).map (·.2)))
        unfold enL
        rw [List.length_map] at this
        omega) (enL_nd h1)
      have hd'S : d'.2 ∈ S := hS1.mem_iff.2 (mem_enL.2 ⟨⟨d', hd1, rfl⟩, n1⟩)
      obtain ⟨i, hi, hid⟩ := List.mem_iff_getElem.1 hd'S
      have hc := cnt_sorted hS2 hi
      rw [cnt_perm hS1, hid] at hc
      have hdrop : ∀ y ∈ S.drop (S.length - K.toNat), y ∈ enL (grM T R u (ageM T R K t m)) ∧ noF (gr T R u d.2) y < 0 := by
        intro y hy
        obtain ⟨j, hj, rfl⟩ := List.mem_iff_getElem.1 hy
        rw [List.length_drop] at hj
        rw [List.getElem_drop]
        have hjl : S.length - K.toNat + j < S.length := by omega
        have hyE := hS1.mem_iff.1 (List.getElem_mem hjl)
        obtain ⟨⟨ey, ey1, ey2⟩, ey3⟩ := mem_enL.1 hyE
        have hcy := cnt_sorted hS2 hjl
        rw [cnt_perm hS1] at hcy
        have hgy : gr T R u ey.2 = ey.2 := gr_ended (by rw [ey2]; simpa [endB] using ey3)
        refine ⟨mem_enL.2 ⟨⟨(ey.1, gr T R u ey.2), ?_, by rw [hgy]; exact ey2⟩, ey3⟩, ?_⟩
        · refine mem_grM.2 ⟨ey, mem_forget.2 ⟨ey1, ?_⟩, rfl⟩
          unfold stays
          rw [ey2, ey3]
          simp only [Bool.not_true, Bool.false_or, decide_eq_true_eq]
          omega
        · have hlt : noF d'.2 S[S.length - K.toNat + j] < 0 := by
            rw [← hid]
            exact (List.pairwise_iff_getElem.1 hS2) i _ hi hjl (by omega)
          have t1 := noF_tr (gr T R u d.2) d'.2 S[S.length - K.toNat + j] (by omega) (by omega)
          refine Classical.byContradiction fun hnl => ?_
          have h0 : noF (gr T R u d.2) S[S.length - K.toNat + j] = 0 := by omega
          have t2 := noF_tr S[S.length - K.toNat + j] (gr T R u d.2) d'.2 (by have := noF_anti (gr T R u d.2) S[S.length - K.toNat + j]; omega) (by omega)
          have := noF_anti S[S.length - K.toNat + j] d'.2
          omega
      have hcount : S.length - (S.length - K.toNat) ≤ cnt (enL (grM T R u (ageM T R K t m))) (gr T R u d.2) := by
        unfold cnt
        rw [← List.length_drop]
        refine nodup_len ?_ fun y hy => List.mem_filter.2 ⟨(hdrop y hy).1, by simpa using (hdrop y hy).2⟩
        refine (List.drop_sublist _ _).nodup ?_
        exact List.Pairwise.imp (fun {a b} hab e => by subst e; have := noF_anti a a; omega) hS2
      have hlen : cnt (enL (grM T R t m)) d'.2 ≤ S.length := by omega
      omega
  · rintro ⟨q1, q2⟩
    obtain ⟨d, d1, rfl⟩ := memu.1 q1
    have hd : stays K (grM T R t m) d = true := by
      unfold stays
      cases he : endB d.2 with
      | false => rfl
      | true =>
        have hg : gr T R u d.2 = d.2 := gr_ended (by simpa [endB] using he)
        unfold stays at q2
        rw [hg, he] at q2
        simp only [Bool.not_true, Bool.false_or, decide_eq_true_eq] at q2 ⊢
        have := cnt_sub hE1 d.2
        omega
    refine ⟨mem2.2 ⟨d, d1, hd, rfl⟩, ?_⟩
    unfold stays at q2 ⊢
    cases he : endB (gr T R u d.2) with
    | false => rfl
    | true =>
      rw [he] at q2
      simp only [Bool.not_true, Bool.false_or, decide_eq_true_eq] at q2 ⊢
      have := cnt_sub (enL_sub hsub) (gr T R u d.2)
      omega
end Go.Eng

/-
Offices: the code's ageing.
-/
namespace Go.Eng
open Go
set_option linter.unusedVariables false
set_option linter.unusedSimpArgs false

theorem noCmp (x y : api_Note) : z278 x y = some (noF x y) := by
  unfold z278
  have h : z958 x.Letter.Id y.Letter.Id = some () := rfl
  simp only [cmpInt_eq, h, Option.bind_some]
  rw [Or_eq _ (by simp)]
  simp only [Option.bind_some]
  unfold noF or0
  by_cases h1 : cmpI x.Since y.Since = 0
  · by_cases h2 : Lib.compareBytes x.Letter.Id y.Letter.Id = 0
    · simp [h1, h2]
    · simp [h1, h2]
  · simp [h1]
theorem sortN_eq : z665 = gSF z278 := by kernel_rfl
theorem adels_mem {β γ : Type} (fk : γ → List UInt8) : ∀ (o : List γ) (l : List (List UInt8 × β)) (x : List UInt8 × β), x ∈ o.foldl (fun m e => adel m (fk e)) l ↔ x ∈ l ∧ ∀ e ∈ o, x.1 ≠ fk e
  | [], l, x => by simp
  | e :: o, l, x => by
    rw [List.foldl_cons, adels_mem fk o, adel_mem]
    constructor
    · rintro ⟨⟨h1, h2⟩, h3⟩
      exact ⟨h1, fun g hg => by
        rcases List.mem_cons.1 hg with rfl | hg
        · exact h2
        · exact h3 g hg⟩
    · rintro ⟨h1, h2⟩
      exact ⟨⟨h1, h2 e (List.mem_cons_self ..)⟩, fun g hg => h2 g (List.mem_cons_of_mem _ hg)⟩
theorem adels_ks {β γ : Type} (fk : γ → List UInt8) : ∀ (o : List γ) (l : List (List UInt8 × β)), KS l → KS (o.foldl (fun m e => adel m (fk e)) l)
  | [], l, h => h
  | e :: o, l, h => adels_ks fk o _ (adel_ks h _)
/-- what a post may be -/
structure PB (T R K : Int) : Prop where
  T : 0 ≤ T ∧ T ≤ 1000000
  K : 0 ≤ K ∧ K ≤ 1000000
theorem aged_rng (a c : Int) {T R K t : Int} (d : Int) (hP : PB T R K) : ∀ (zo M : List (List UInt8 × api_Note)) (O : List api_Note), (∀ e ∈ zo, NB e.2) → O.length + zo.length ≤ 1000 →
    rngO (z283 a T R c d t) zo (M, O) = some (zo.foldl (fun m e => aput m e.1 (gr T R t e.2)) M, O ++ (zo.map fun e => gr T R t e.2).filter endB)
  | [], M, O, _, _ => by simp [rngO, z283]
  | e :: zo, M, O, h, hl => by
    have hg : z293 a T R c d (api_Note.mk (api_Letter.mk e.2.Letter.Id e.2.Letter.Slot e.2.Letter.Body e.2.Letter.Prio e.2.Letter.At e.2.Letter.Until) e.2.State e.2.Tries e.2.Since) t = some (gr T R t e.2) := grown_ok a c d hP.T (h e (List.mem_cons_self ..)) t
    have hx : z283 a T R c d t (some e) (M, O) = some (.inl (aput M e.1 (gr T R t e.2), O ++ if endB (gr T R t e.2) then [gr T R t e.2] else [])) := by
      unfold z283
      simp only [hg, Option.bind_some, z324]
      unfold endB
      cases decide (3 ≤ (gr T R t e.2).State) with
      | true =>
        simp only [cond_true, gd, if_true]
        rw [lim_ok (by simp at hl ⊢; omega)]
        rfl
      | false => simp
    rw [rngO, hx]
    simp only [Option.bind_some]
    rw [aged_rng a c d hP zo _ _ (fun g hg => h g (List.mem_cons_of_mem _ hg)) (by simp at hl; simp only [List.length_append]; split <;> simp <;> omega)]
    rw [List.foldl_cons, List.map_cons, List.filter_cons]
    cases endB (gr T R t e.2) <;> simp
theorem aged_ok (a : Int) {T R K t : Int} (d : Int) (hP : PB T R K) {m : List (List UInt8 × api_Note)} (hm : MOk m) : z277 a T R K m d t = some (ageM T R K t m) := by
  have hM := grM_ok (R := R) (t := t) hP.T.1 hm
  have hl := hm.len
  unfold z277
  refine allPerm_intro fun zo hzo => ?_
  have hzl : zo.length = m.length := hzo.length_eq
  have hzk : (zo.map (·.1)).Nodup := ((hzo.map (·.1)).nodup_iff).2 (ks_keys hm.srt)
  rw [aged_rng a K d hP zo [] [] (fun e he => hm.nb e (hzo.mem_iff.1 he)) (by simp; omega)]
  have hfold : zo.foldl (fun m e => aput m e.1 (gr T R t e.2)) [] = grM T R t m := by
    refine kext (puts_ks (fun e : List UInt8 × api_Note => e.1) (fun e => gr T R t e.2) zo [] List.Pairwise.nil) hM.srt fun x => ?_
    rw [puts_mem (fun e : List UInt8 × api_Note => e.1) (fun e => gr T R t e.2) zo [] hzk, mem_grM]
    constructor
    · rintro (⟨e, he, rfl⟩ | ⟨h, _⟩)
      · exact ⟨e, hzo.mem_iff.1 he, rfl⟩
      · cases h
    · rintro ⟨e, he, rfl⟩
      exact .inl ⟨e, hzo.mem_iff.2 he, rfl⟩
  have hover : ((zo.map fun e => gr T R t e.2).filter endB).Perm (enL (grM T R t m)) := by
    unfold enL grM
    rw [List.map_map]
    exact (hzo.map _).filter _
  have hEl : (enL (grM T R t m)).length ≤ 6 := by
    unfold enL
    have := List.length_filter_le endB ((grM T R t m).map (·.2))
    have h2 := hM.len
    rw [List.length_map] at this
    omega
  obtain ⟨S, s1, s2, s3⟩ := gSF_ok (f := noF) (c := z278) noCmp noF_anti noF_tr (l := (zo.map fun e => gr T R t e.2).filter endB) (by have := hover.length_eq; omega)
    ((hover.pairwise_iff (fun {x y} h => by rw [noF_anti x y]; omega)).2 (enL_nd hM))
  have hSE := s2.trans hover
  have hSl : S.length ≤ 6 := by rw [hSE.length_eq]; exact hEl
  rw [hfold, List.nil_append]
  simp only [Option.bind_some, sortN_eq, s1]
  have hkn := hP.K
  have w : IntKind.wrap .i64 ((S.length : Int) - K) = (S.length : Int) - K := wrap64 (by omega) (by omega)
  rw [w]
  have hmax : imax 0 ((S.length : Int) - K) = ((S.length - K.toNat : Nat) : Int) := by unfold imax; split <;> omega
  rw [hmax]
  have g2 : (decide ((0 : Int) ≤ ((S.length - K.toNat : Nat) : Int)) && decide (((S.length - K.toNat : Nat) : Int) ≤ (S.length : Int))) = true := by
    rw [Bool.and_eq_true, decide_eq_true_iff, decide_eq_true_iff]; omega
  simp only [gd, s2.length_eq, beq_self_eq_true, cond_true]
  rw [← s2.length_eq, g2]
  simp only [cond_true]
  have fl := fold_loop0 (l := S.take (S.length - K.toNat)) (f := z288 K S) (fun (s : List (List UInt8 × api_Note)) i => (s, i)) (fun m d => adel m d.Letter.Id) id (fun _ _ => True) (s0 := grM T R t m) (by rw [List.length_take]; omega)
    (fun i hi s _ => by
      refine ⟨?_, trivial⟩
      unfold z288
      rw [w, hmax]
      simp only [Int.toNat_natCast]
      have hc : (i : Int) < ((S.take (S.length - K.toNat)).length : Int) := by omega
      simp only [hc, decide_true, cond_true, at_nat hi, Option.bind_some])
    (fun s _ => by
      unfold z288
      rw [w, hmax]
      simp) trivial
  rw [fl.1]
  simp only [Option.bind_some, id]
  congr 1
  refine kext (adels_ks (fun d : api_Note => d.Letter.Id) _ _ hM.srt) (age_ok hP.T.1 hm).srt fun e => ?_
  rw [adels_mem (fun d : api_Note => d.Letter.Id)]
  show _ ↔ e ∈ forgetM K (grM T R t m)
  rw [mem_forget]
  refine and_congr_right fun he => ?_
  have idOf : ∀ x ∈ S, e.1 = x.Letter.Id → x = e.2 ∧ endB e.2 = true := by
    intro x hx hid
    obtain ⟨⟨g, g1, g2⟩, g3⟩ := mem_enL.1 (hSE.mem_iff.1 hx)
    have h1 := (hM.key g g1).1
    rw [g2] at h1
    have : g = e := ks_one hM.srt g1 he (h1.symm.trans hid.symm)
    subst this
    exact ⟨g2.symm, by rw [g2]; exact g3⟩
  unfold stays
  cases hb : endB e.2 with
  | false =>
    simp only [Bool.not_false, Bool.true_or, iff_true]
    intro x hx hid
    have := (idOf x (List.mem_of_mem_take hx) hid).2
    rw [hb] at this; cases this
  | true =>
    simp only [Bool.not_true, Bool.false_or, decide_eq_true_eq]
    have hin : e.2 ∈ S := hSE.mem_iff.2 (mem_enL.2 ⟨⟨e, he, rfl⟩, hb⟩)
    obtain ⟨i, hi, hie⟩ := List.mem_iff_getElem.1 hin
    have hc := cnt_sorted s3 hi
    rw [cnt_perm hSE, hie] at hc
    constructor
    · intro hno
      refine Classical.byContradiction fun hge => ?_
      have hit : i < S.length - K.toNat := by omega
      have hmem : e.2 ∈ S.take (S.length - K.toNat) := by
        rw [← hie]
        exact List.mem_iff_getElem.2 ⟨i, by rw [List.length_take]; omega, by rw [List.getElem_take]⟩
      exact hno e.2 hmem (hM.key e he).1.symm
    · intro hlt x hx hid
      have hxe := (idOf x (List.mem_of_mem_take hx) hid).1
      subst hxe
      obtain ⟨j, hj, hje⟩ := List.mem_iff_getElem.1 hx
      rw [List.length_take] at hj
      rw [List.getElem_take] at hje
      have hcj := cnt_sorted s3 (show j < S.length by omega)
      rw [cnt_perm hSE, hje] at hcj
      omega
end Go.Eng

/-
Offices: letters are put, handed out, looked for. What comes of it depends on the notes behind ageing alone.
-/
namespace Go.Eng
open Go
set_option linter.unusedVariables false
set_option linter.unusedSimpArgs false

abbrev NM := List (List UInt8 × api_Note)
/-- waits, and was never handed out -/
def wb (n : api_Note) : Bool := decide (n.State = 1) && decide (n.Tries = 0)
def SU (m : NM) : Prop := ∀ e ∈ m, ∀ g ∈ m, wb e.2 = true → wb g.2 = true → e.2.Letter.Slot = g.2.Letter.Slot → e.2.Letter.Slot ≠ [] → e = g
def TB (b : Int) (m : NM) : Prop := ∀ e ∈ m, e.2.Tries ≤ b
structure Off (b : Int) (m : NM) : Prop where
  ok : MOk m
  su : SU m
  tb : TB b m
theorem age_off {b T R K t : Int} (hT : 0 ≤ T) {m : NM} (h : Off b m) : Off b (ageM T R K t m) := by
  have key : ∀ e ∈ ageM T R K t m, ∃ d ∈ m, e = (d.1, gr T R t d.2) := fun e he => mem_grM.1 (mem_forget.1 he).1
  have wbk : ∀ d ∈ m, wb (gr T R t d.2) = true → wb d.2 = true := by
    intro d hd hw
    obtain ⟨g1, g2, g3, g4⟩ := gr_nb (R := R) (t := t) hT (h.ok.nb d hd)
    unfold wb at hw ⊢
    simp only [Bool.and_eq_true, decide_eq_true_eq] at hw ⊢
    rw [g3] at hw
    rcases g4 hw.1 with h1 | h1
    · exact ⟨h1, hw.2⟩
    · have := (h.ok.nb d hd).out h1
      omega
  refine ⟨age_ok hT h.ok, fun e he g hg h1 h2 h3 h4 => ?_, fun e he => ?_⟩
  · obtain ⟨d, hd, rfl⟩ := key e he
    obtain ⟨f, hf, rfl⟩ := key g hg
    simp only [(gr_nb (R := R) (t := t) hT (h.ok.nb d hd)).2.1, (gr_nb (R := R) (t := t) hT (h.ok.nb f hf)).2.1] at h3 h4
    rw [h.su d hd f hf (wbk d hd h1) (wbk f hf h2) h3 h4]
  · obtain ⟨d, hd, rfl⟩ := key e he
    simp only [(gr_nb (R := R) (t := t) hT (h.ok.nb d hd)).2.2.1]
    exact h.tb d hd

/-! ### Counting -/
def opN (m : NM) : Nat := (m.filter fun e => !endB e.2).length
theorem pend_rng : ∀ (zo : NM) (k : Nat), k + zo.length ≤ 1000 → rngO z330 zo (k : Int) = some ((k + (zo.filter fun e => !endB e.2).length : Nat) : Int)
  | [], k, _ => by simp [rngO, z330]
  | e :: zo, k, h => by
    have hx : z330 (some e) (k : Int) = some (.inl (((k + if endB e.2 then 0 else 1 : Nat)) : Int)) := by
      unfold z330 endB
      simp only [z324, Option.bind_some]
      cases decide (3 ≤ e.2.State) with
      | true => simp
      | false =>
        simp only [Bool.not_false, cond_true]
        rw [wrap64 (by omega) (by omega)]
        simp
    rw [rngO, hx]
    simp only [Option.bind_some]
    rw [pend_rng zo _ (by simp at h; split <;> omega)]
    rw [List.filter_cons]
    cases endB e.2 <;> simp <;> omega
theorem pending_ok {m : NM} (h : m.length ≤ 6) : z327 m = some ((opN m : Nat) : Int) := by
  unfold z327
  refine allPerm_intro fun zo hzo => ?_
  rw [show (0 : Int) = ((0 : Nat) : Int) from rfl, pend_rng zo 0 (by have := hzo.length_eq; omega)]
  simp only [Option.bind_some, Nat.zero_add]
  rw [(hzo.filter _).length_eq]
  rfl

/-! ### The one that is replaced -/
def oldB (l : api_Letter) (e : List UInt8 × api_Note) : Bool := !decide (l.Slot = []) && (decide (e.2.Letter.Slot = l.Slot) && wb e.2)
theorem old_rng (l : api_Letter) : ∀ (zo : NM) (x : List UInt8), rngO (z241 l) zo x = some (zo.foldl (fun x e => bif oldB l e then e.1 else x) x)
  | [], x => by simp [rngO, z241]
  | e :: zo, x => by
    have hx2 : z246 l e = some (oldB l e) := by
      unfold z246 oldB wb
      cases decide (l.Slot = []) <;> cases decide (e.2.Letter.Slot = l.Slot) <;> cases decide (e.2.State = 1) <;> simp
    have hx : z241 l (some e) x = some (.inl (bif oldB l e then e.1 else x)) := by
      unfold z241
      simp only [hx2, Option.bind_some]
      cases oldB l e <;> rfl
    rw [rngO, hx]
    simp only [Option.bind_some]
    rw [old_rng l zo, List.foldl_cons]
def oldOf (l : api_Letter) (m : NM) : List UInt8 := match m.find? (oldB l) with
  | some e => e.1
  | none => []
theorem old_one {l : api_Letter} {m : NM} (h : SU m) : ∀ e ∈ m, ∀ g ∈ m, oldB l e = true → oldB l g = true → e = g := by
  intro e he g hg h1 h2
  unfold oldB at h1 h2
  simp only [Bool.and_eq_true, Bool.not_eq_true', decide_eq_false_iff_not, decide_eq_true_eq] at h1 h2
  exact h e he g hg h1.2.2 h2.2.2 (h1.2.1.trans h2.2.1.symm) (by rw [h1.2.1]; exact h1.1)
theorem foldl_old {l : api_Letter} {k : List UInt8} : ∀ (zo : NM) (x : List UInt8), (∀ e ∈ zo, oldB l e = true → e.1 = k) → zo.foldl (fun x e => bif oldB l e then e.1 else x) x = if zo.any (oldB l) then k else x
  | [], x, _ => by simp
  | e :: zo, x, h => by
    rw [List.foldl_cons, foldl_old zo _ fun g hg => h g (List.mem_cons_of_mem _ hg), List.any_cons]
    cases hb : oldB l e with
    | true =>
      simp only [cond_true, Bool.true_or, if_true, h e (List.mem_cons_self ..) hb]
      split <;> rfl
    | false => simp only [cond_false, Bool.false_or]
theorem old_ok {l : api_Letter} {m zo : NM} (h : SU m) (hz : zo.Perm m) : rngO (z241 l) zo [] = some (oldOf l m) := by
  rw [old_rng]
  congr 1
  unfold oldOf
  cases hf : m.find? (oldB l) with
  | none =>
    have hno : zo.any (oldB l) = false := by
      rw [List.any_eq_false]
      intro e he
      simpa using List.find?_eq_none.1 hf e (hz.mem_iff.1 he)
    rw [foldl_old (k := []) zo [] fun e he hb => by
      have := List.any_eq_false.1 hno e he
      exact absurd hb this]
    rw [hno]; rfl
  | some g =>
    have hg := List.mem_of_find?_eq_some hf
    have hgb : oldB l g = true := by simpa using List.find?_some hf
    rw [foldl_old (k := g.1) zo [] fun e he hb => by rw [old_one h e (hz.mem_iff.1 he) g hg hb hgb]]
    rw [List.any_eq_true.2 ⟨g, hz.mem_iff.2 hg, hgb⟩]
    rfl
/-! ### Letters -/
structure LB (l : api_Letter) (t : Int) : Prop where
  id : l.Id ∈ ids6
  slot : l.Slot = [] ∨ l.Slot = [115, 97] ∨ l.Slot = [115, 98]
  body : l.Body = [100, 111] ∨ l.Body = [] ∨ l.Body = [97, 32, 34, 98, 34]
  at_ : l.At = t
  till : t ≤ l.Until ∧ l.Until ≤ 100000
theorem keys6 : (ids6.all fun n => decide (base_Key n = some true)) = true := by kernel_rfl
theorem keySa : base_Key [115, 97] = some true := by kernel_rfl
theorem keySb : base_Key [115, 98] = some true := by kernel_rfl
theorem un1 : z79 [100, 111] = some true := by kernel_rfl
theorem un2 : z79 [] = some true := by kernel_rfl
theorem un3 : z79 [97, 32, 34, 98, 34] = some true := by kernel_rfl
theorem CheckLetter_tot {l : api_Letter} {t : Int} (h : LB l t) : Ok (z159 l) (fun _ => True) := by
  have hk : base_Key l.Id = some true := of_decide_eq_true (List.all_eq_true.1 keys6 _ h.id)
  have hu : z79 l.Body = some true := by
    rcases h.body with e | e | e <;> rw [e]
    · exact un1
    · exact un2
    · exact un3
  have hx1 : z162 l = some false := by
    unfold z162
    rw [hk]
    rcases h.slot with e | e | e
    · simp [e]
    · rw [e, keySa]; rfl
    · rw [e, keySb]; rfl
  have hx2 : Ok (z167 l) (fun _ => True) := by
    unfold z167
    rw [Out_eq]
    simp only [Option.bind_some]
    refine .cond (fun _ => .some trivial) fun _ => ?_
    rw [Moment_eq]
    simp only [Option.bind_some]
    exact .cond (fun _ => .some trivial) fun _ => .cond (fun _ => .some trivial) fun _ => .some trivial
  unfold z159
  rw [hx1]
  simp only [Option.bind_some, cond_false, hu, Bool.not_true]
  refine .cond (fun _ => .some trivial) fun _ => ?_
  exact hx2.bind fun b _ => .cond (fun _ => .some trivial) fun _ => .some trivial
theorem time_ok (a b c d : Int) (m : NM) {tm t : Int} (h0 : 0 ≤ t ∧ t ≤ 1000000) (h1 : tm ≤ t) : z304 a b c d m tm t = some 0 := by
  unfold z304
  have e1 : (decide (0 ≤ t) && decide (t ≤ 345686399999)) = true := by rw [Bool.and_eq_true, decide_eq_true_iff, decide_eq_true_iff]; omega
  have e2 : ¬ t < tm := by omega
  rw [Moment_eq, e1]
  simp [e2]
theorem First2 (e : Int) : z16 [e, 0] = some e := by
  by_cases h : e = 0
  · subst h; kernel_rfl
  · unfold z16
    have h1 : z19 [e, 0] 0 = some (.inr (.inr e)) := by
      unfold z19
      have : at? [e, 0] 0 = some e := rfl
      simp [this, h]
    rw [loop_out h1]
    rfl
theorem ids6_ne : [] ∉ ids6 := by decide
/-- an entry more, or another one -/
theorem aput_off {b : Int} {m : NM} (h : Off b m) {k : List UInt8} {n : api_Note} (hn : NB n) (hk : n.Letter.Id = k) (h6 : k ∈ ids6) (ht : n.Tries ≤ b) (hs : wb n = true → n.Letter.Slot ≠ [] → ∀ e ∈ m, e.1 ≠ k → wb e.2 = true → e.2.Letter.Slot ≠ n.Letter.Slot) : Off b (aput m k n) := by
  refine ⟨⟨aput_ks h.ok.srt _ _, fun e he => ?_, fun e he => ?_⟩, fun e he g hg h1 h2 h3 h4 => ?_, fun e he => ?_⟩
  · rcases aput_mem.1 he with rfl | ⟨he, _⟩
    · exact ⟨hk, h6⟩
    · exact h.ok.key e he
  · rcases aput_mem.1 he with rfl | ⟨he, _⟩
    · exact hn
    · exact h.ok.nb e he
  · rcases aput_mem.1 he with rfl | ⟨he, he2⟩ <;> rcases aput_mem.1 hg with rfl | ⟨hg, hg2⟩
    · rfl
    · exact absurd h3.symm (hs h1 h4 g hg hg2 h2)
    · exact absurd h3 (hs h2 (by rw [← h3]; exact h4) e he he2 h1)
    · exact h.su e he g hg h1 h2 h3 h4
  · rcases aput_mem.1 he with rfl | ⟨he, _⟩
    · exact ht
    · exact h.tb e he
/-! ### Handed out -/
def lF (x y : api_Letter) : Int := or0 (cmpI y.Prio x.Prio) (or0 (cmpI x.At y.At) (Lib.compareBytes x.Id y.Id))
theorem or0_anti {a b a' b' : Int} (h1 : a' = -a) (h2 : b' = -b) : or0 a' b' = - or0 a b := by
  subst h1 h2; unfold or0; split <;> split <;> omega
theorem lF_anti (x y : api_Letter) : lF y x = - lF x y := or0_anti (by rw [cmpO_anti]) (or0_anti (cmpO_anti _ _) (cmpB_anti _ _))
theorem lF_tr (x y z : api_Letter) (h1 : lF x y ≤ 0) (h2 : lF y z ≤ 0) : lF x z ≤ 0 := by
  have tr := @cmpB_tr x.Id y.Id z.Id
  unfold lF or0 cmpI at *
  by_cases p1 : y.Prio < x.Prio
  · by_cases p2 : z.Prio < y.Prio
    · have : z.Prio < x.Prio := by omega
      simp_all
    · by_cases p3 : y.Prio < z.Prio
      · simp_all
      · have : z.Prio < x.Prio := by omega
        simp_all
  · by_cases p1' : x.Prio < y.Prio
    · simp_all
    · have e1 : x.Prio = y.Prio := by omega
      by_cases p2 : z.Prio < y.Prio
      · have : z.Prio < x.Prio := by omega
        simp_all
      · by_cases p3 : y.Prio < z.Prio
        · simp_all
        · have e2 : y.Prio = z.Prio := by omega
          have q0 : ¬ z.Prio < x.Prio := by omega
          have q1 : ¬ x.Prio < z.Prio := by omega
          have q2 : ¬ y.Prio < x.Prio := by omega
          have q3 : ¬ x.Prio < y.Prio := by omega
          simp only [p2, p3, q0, q1, q2, q3, if_false, if_true] at *
          by_cases a1 : x.At < y.At
          · by_cases a2 : y.At < z.At
            · have : x.At < z.At := by omega
              simp_all
            · by_cases a3 : z.At < y.At
              · simp_all
              · have : x.At < z.At := by omega
                simp_all
          · by_cases a1' : y.At < x.At
            · simp_all
            · by_cases a2 : y.At < z.At
              · have : x.At < z.At := by omega
                simp_all
              · by_cases a3 : z.At < y.At
                · simp_all
                · have r1 : ¬ x.At < z.At := by omega
                  have r2 : ¬ z.At < x.At := by omega
                  simp only [a1, a1', a2, a3, r1, r2, if_false, if_true] at *
                  exact tr h1 h2
theorem lCmp (x y : api_Letter) : z321 x y = some (lF x y) := by
  unfold z321
  have h : z958 x.Id y.Id = some () := rfl
  simp only [cmpInt_eq, h, Option.bind_some]
  rw [Or_eq _ (by simp)]
  simp only [Option.bind_some]
  unfold lF or0
  by_cases h1 : cmpI y.Prio x.Prio = 0
  · by_cases h2 : cmpI x.At y.At = 0
    · by_cases h3 : Lib.compareBytes x.Id y.Id = 0
      · simp [h1, h2, h3]
      · simp [h1, h2, h3]
    · simp [h1, h2]
  · simp [h1]
theorem sortL_eq : z659 = gSF z321 := by kernel_rfl
theorem lF_zero {x y : api_Letter} (h : lF x y = 0) : x.Id = y.Id := by
  unfold lF at h
  exact cmpB_zero.1 (or0_zero.1 (or0_zero.1 h).2).2
def waitB (e : List UInt8 × api_Note) : Bool := decide (e.2.State = 1)
theorem fetch_rng : ∀ (zo : NM) (O : List api_Letter), O.length + zo.length ≤ 1000 → rngO z217 zo O = some (O ++ (zo.filter waitB).map fun e => e.2.Letter)
  | [], O, _ => by simp [rngO, z217]
  | e :: zo, O, h => by
    have hx : z217 (some e) O = some (.inl (O ++ if waitB e then [e.2.Letter] else [])) := by
      unfold z217 waitB
      by_cases hs : e.2.State = 1
      · simp only [hs, decide_true, cond_true, gd, if_true]
        rw [lim_ok (by simp at h ⊢; omega)]
        rfl
      · simp [hs]
    rw [rngO, hx]
    simp only [Option.bind_some]
    rw [fetch_rng zo _ (by simp at h; simp only [List.length_append]; split <;> simp <;> omega), List.filter_cons]
    cases waitB e <;> simp
theorem wl_nd {m : NM} (h : MOk m) : ((m.filter waitB).map fun e => e.2.Letter).Pairwise fun x y => lF x y ≠ 0 := by
  rw [List.pairwise_map]
  refine List.Pairwise.filter _ (List.Pairwise.imp_of_mem ?_ h.srt)
  intro x y hx hy hxy h0
  have := lF_zero h0
  rw [(h.key x hx).1, (h.key y hy).1] at this
  exact nlt_ne hxy this
end Go.Eng

/-
The law AgesInSteps: whoever looks often sees the same in the end as who looks once.
-/
namespace Go.Eng
open Go
set_option linter.unusedVariables false
set_option linter.unusedSimpArgs false

/-! ### The next moment -/
def wk (T : Int) (x : Int) (e : List UInt8 × api_Note) : Int := bif !endB e.2 && (decide (x < 0) || decide (tn T e.2 < x)) then tn T e.2 else x
theorem tn_nn {T : Int} (hT : 0 ≤ T) {n : api_Note} (h : NB n) : 0 ≤ tn T n := by
  have h1 := h.since
  have h2 := h.till
  unfold tn
  split <;> (try split) <;> omega
theorem wake_rng (a c d t : Int) {T : Int} (hT : 0 ≤ T ∧ T ≤ 1000000) : ∀ (zo : NM) (x : Int), (∀ e ∈ zo, NB e.2) → rngO (z267 a T c d t) zo x = some (zo.foldl (wk T) x)
  | [], x, _ => by simp [rngO, z267]
  | e :: zo, x, h => by
    have hx : z267 a T c d t (some e) x = some (.inl (wk T x e)) := by
      unfold z267 z272 wk endB
      have ht : z307 a T c d t (api_Note.mk (api_Letter.mk e.2.Letter.Id e.2.Letter.Slot e.2.Letter.Body e.2.Letter.Prio e.2.Letter.At e.2.Letter.Until) e.2.State e.2.Tries e.2.Since) = some (tn T e.2) := turn_eq a c d t hT (h e (List.mem_cons_self ..))
      simp only [ht, Option.bind_some, z324]
      by_cases h3 : 3 ≤ e.2.State
      · simp [h3]
      · by_cases h4 : x < 0
        · simp [h3, h4]
        · by_cases h5 : tn T e.2 < x
          · simp [h3, h4, h5]
          · simp [h3, h4, h5]
    rw [rngO, hx]
    simp only [Option.bind_some]
    rw [wake_rng a c d t hT zo _ fun g hg => h g (List.mem_cons_of_mem _ hg), List.foldl_cons]
def Least (T : Int) (zo : NM) (x r : Int) : Prop := (r = x ∧ (∀ g ∈ zo, endB g.2 = false → 0 ≤ x ∧ x ≤ tn T g.2)) ∨ ((∃ e ∈ zo, endB e.2 = false ∧ r = tn T e.2) ∧ (∀ g ∈ zo, endB g.2 = false → r ≤ tn T g.2) ∧ (0 ≤ x → r ≤ x))
theorem wk_least {T : Int} (hT : 0 ≤ T) : ∀ (zo : NM) (x : Int), (∀ e ∈ zo, NB e.2) → (x = -1 ∨ 0 ≤ x) → Least T zo x (zo.foldl (wk T) x)
  | [], x, _, _ => .inl ⟨rfl, fun g hg => by cases hg⟩
  | e :: zo, x, h, hx => by
    have he := tn_nn hT (h e (List.mem_cons_self ..))
    rw [List.foldl_cons]
    have ih := wk_least hT zo (wk T x e) (fun g hg => h g (List.mem_cons_of_mem _ hg)) (by
      unfold wk
      cases (!endB e.2 && (decide (x < 0) || decide (tn T e.2 < x))) with
      | true => exact .inr he
      | false => exact hx)
    generalize zo.foldl (wk T) (wk T x e) = r at ih
    cases hb : endB e.2 with
    | true =>
      have hw : wk T x e = x := by unfold wk; rw [hb]; rfl
      rw [hw] at ih
      rcases ih with ⟨h1, h2⟩ | ⟨⟨g, g1, g2, g3⟩, h2, h3⟩
      · exact .inl ⟨h1, fun g hg hgb => by
          rcases List.mem_cons.1 hg with rfl | hg
          · rw [hb] at hgb; cases hgb
          · exact h2 g hg hgb⟩
      · exact .inr ⟨⟨g, List.mem_cons_of_mem _ g1, g2, g3⟩, fun f hf hfb => by
          rcases List.mem_cons.1 hf with rfl | hf
          · rw [hb] at hfb; cases hfb
          · exact h2 f hf hfb, h3⟩
    | false =>
      by_cases hc : x < 0 ∨ tn T e.2 < x
      · have hw : wk T x e = tn T e.2 := by
          unfold wk
          have : (decide (x < 0) || decide (tn T e.2 < x)) = true := by simpa using hc
          rw [hb, this]; rfl
        rw [hw] at ih
        rcases ih with ⟨h1, h2⟩ | ⟨⟨g, g1, g2, g3⟩, h2, h3⟩
        · exact .inr ⟨⟨e, List.mem_cons_self .., hb, h1⟩, fun f hf hfb => by
            rcases List.mem_cons.1 hf with rfl | hf
            · omega
            · have := (h2 f hf hfb).2; omega, fun h0 => by omega⟩
        · exact .inr ⟨⟨g, List.mem_cons_of_mem _ g1, g2, g3⟩, fun f hf hfb => by
            rcases List.mem_cons.1 hf with rfl | hf
            · exact h3 he
            · exact h2 f hf hfb, fun h0 => by have := h3 he; omega⟩
      · have hw : wk T x e = x := by
          unfold wk
          have : (decide (x < 0) || decide (tn T e.2 < x)) = false := by simpa using hc
          rw [hb, this]; rfl
        rw [hw] at ih
        have hx0 : 0 ≤ x := by omega
        rcases ih with ⟨h1, h2⟩ | ⟨⟨g, g1, g2, g3⟩, h2, h3⟩
        · exact .inl ⟨h1, fun f hf hfb => by
            rcases List.mem_cons.1 hf with rfl | hf
            · omega
            · exact h2 f hf hfb⟩
        · exact .inr ⟨⟨g, List.mem_cons_of_mem _ g1, g2, g3⟩, fun f hf hfb => by
            rcases List.mem_cons.1 hf with rfl | hf
            · have := h3 hx0; omega
            · exact h2 f hf hfb, h3⟩
/-! ### All notes -/
def iF (x y : api_Note) : Int := Lib.compareBytes x.Letter.Id y.Letter.Id
theorem sortI_eq : z662 = gSF (fun x y => some (iF x y)) := by kernel_rfl
theorem notes_rng : ∀ (zo : NM) (O : List api_Note), O.length + zo.length ≤ 1000 → rngO z233 zo O = some (O ++ zo.map (·.2))
  | [], O, _ => by simp [rngO, z233]
  | e :: zo, O, h => by
    have hx : z233 (some e) O = some (.inl (O ++ [e.2])) := by
      unfold z233
      simp only [gd]
      rw [lim_ok (by simp at h ⊢; omega)]
      rfl
    rw [rngO, hx]
    simp only [Option.bind_some]
    rw [notes_rng zo _ (by simp at h ⊢; omega)]
    simp
/-! ### What streams make -/
/-! ### Looking often -/
/-- two offices whose notes are the same from a moment on -/
structure Two (T R K b t : Int) (m1 : NM) (t1 : Int) (m2 : NM) (t2 : Int) : Prop where
  o1 : Off b m1
  o2 : Off b m2
  b1 : t1 ≤ t
  b2 : t2 ≤ t
  same : ∀ u, t ≤ u → ageM T R K u m1 = ageM T R K u m2
theorem Two.later {T R K b t u : Int} {m1 m2 : NM} {t1 t2 : Int} (h : Two T R K b t m1 t1 m2 t2) (hu : t ≤ u) : Two T R K b u m1 t1 m2 t2 :=
  ⟨h.o1, h.o2, by have := h.b1; omega, by have := h.b2; omega, fun v hv => h.same v (by omega)⟩
end Go.Eng

/-
Offices: what becomes of the notes, more closely.
-/
namespace Go.Eng
open Go
set_option linter.unusedVariables false
set_option linter.unusedSimpArgs false

theorem aput_keys {β : Type} {m : List (List UInt8 × β)} {k : List UInt8} {v : β} (h : ∃ e ∈ m, e.1 = k) : (aput m k v).map (·.1) = m.map (·.1) := by
  obtain ⟨e, he, rfl⟩ := h
  unfold aput
  rw [List.any_eq_true.2 ⟨e, he, by simp⟩]
  simp only [cond_true, List.map_map]
  refine List.map_congr_left fun g _ => ?_
  simp only [Function.comp]
  by_cases hg : e.1 = g.1
  · simp [hg]
  · simp [hg]
theorem aput_open {m : NM} {k : List UInt8} {v : api_Note} (hs : KS m) {n : api_Note} (h : (k, n) ∈ m) (he : endB v = endB n) : opN (aput m k v) = opN m := by
  unfold aput opN
  rw [List.any_eq_true.2 ⟨(k, n), h, by simp⟩]
  simp only [cond_true]
  rw [List.filter_map, List.length_map]
  congr 1
  refine List.filter_congr fun g hg => ?_
  simp only [Function.comp]
  by_cases hk : k = g.1
  · have : g = (k, n) := ks_one hs hg h hk.symm
    subst this
    simp [he]
  · simp [hk]
theorem aput_shut {m : NM} {k : List UInt8} {v : api_Note} (hs : KS m) {n : api_Note} (h : (k, n) ∈ m) (h1 : endB v = true) (h2 : endB n = false) : opN (aput m k v) + 1 = opN m := by
  obtain ⟨s, t, rfl⟩ := List.append_of_mem h
  unfold aput
  rw [List.any_eq_true.2 ⟨(k, n), h, by simp⟩]
  simp only [cond_true]
  have far : ∀ g ∈ s ++ t, ¬ k = g.1 := by
    intro g hg e
    have hn := ks_keys hs
    rw [List.map_append, List.map_cons, List.nodup_append, List.nodup_cons] at hn
    rcases List.mem_append.1 hg with h3 | h3
    · exact hn.2.2 g.1 (List.mem_map.2 ⟨g, h3, rfl⟩) k (List.mem_cons_self ..) e.symm
    · exact hn.2.1.1 (List.mem_map.2 ⟨g, h3, e.symm⟩)
  have same : ∀ l : NM, (∀ g ∈ l, ¬ k = g.1) → l.map (fun e => bif decide (k = e.1) then (k, v) else e) = l := by
    intro l hl
    conv => rhs; rw [← List.map_id l]
    refine List.map_congr_left fun g hg => ?_
    simp [hl g hg]
  rw [List.map_append, List.map_cons, same s fun g hg => far g (List.mem_append_left _ hg), same t fun g hg => far g (List.mem_append_right _ hg)]
  unfold opN
  simp only [List.filter_append, List.filter_cons, List.length_append, decide_true, cond_true, h1, h2, Bool.not_true, Bool.not_false, Bool.false_eq_true, if_false, if_true, List.length_cons]
  omega
theorem aput_more {m : NM} {k : List UInt8} {v : api_Note} (h : ∀ e ∈ m, e.1 ≠ k) : (aput m k v).length = m.length + 1 ∧ opN (aput m k v) = opN m + (if endB v then 0 else 1) := by
  have hn : (m.any fun e => decide (k = e.1)) = false := by
    rw [List.any_eq_false]
    intro e he hk
    exact h e he (by simpa using (of_decide_eq_true hk).symm)
  have hp : (aput m k v).Perm ((k, v) :: m) := by
    unfold aput
    rw [hn]
    simp only [cond_false]
    refine List.perm_middle.trans ?_
    rw [List.takeWhile_append_dropWhile]
  refine ⟨by rw [hp.length_eq]; rfl, ?_⟩
  unfold opN
  rw [(hp.filter _).length_eq, List.filter_cons]
  cases endB v <;> simp
theorem op_age {T R K t : Int} (m : NM) : opN (ageM T R K t m) ≤ opN m := by
  unfold opN ageM forgetM
  rw [List.filter_filter]
  have h1 : ((grM T R t m).filter fun e => (!endB e.2) && stays K (grM T R t m) e).length ≤ ((grM T R t m).filter fun e => !endB e.2).length := by
    refine List.Sublist.length_le ?_
    have e : ((grM T R t m).filter fun e => (!endB e.2) && stays K (grM T R t m) e) = ((grM T R t m).filter fun e => !endB e.2).filter (stays K (grM T R t m)) := by
      rw [List.filter_filter]
      refine List.filter_congr fun e _ => Bool.and_comm _ _
    rw [e]
    exact List.filter_sublist
  refine Nat.le_trans h1 ?_
  unfold grM
  rw [List.filter_map, List.length_map]
  refine List.Sublist.length_le ?_
  have : (m.filter ((fun e => !endB e.2) ∘ fun e => (e.1, gr T R t e.2))) = (m.filter fun e => !endB e.2).filter ((fun e => !endB e.2) ∘ fun e => (e.1, gr T R t e.2)) := by
    rw [List.filter_filter]
    refine List.filter_congr fun e _ => ?_
    simp only [Function.comp]
    cases he : endB e.2 with
    | false => simp
    | true =>
      have : gr T R t e.2 = e.2 := gr_ended (by simpa [endB] using he)
      rw [this, he]; rfl
  rw [this]
  exact List.filter_sublist
/-- with room enough nothing is forgotten -/
theorem forget_none {K : Int} (hK : 6 < K) {m : NM} (hm : m.length ≤ 6) : forgetM K m = m := by
  unfold forgetM
  refine List.filter_eq_self.2 fun e _ => ?_
  unfold stays cnt enL
  have h1 := List.length_filter_le (fun x => decide (noF e.2 x < 0)) ((m.map (·.2)).filter endB)
  have h2 := List.length_filter_le endB (m.map (·.2))
  rw [List.length_map] at h2
  have : (((((m.map (·.2)).filter endB).filter fun x => decide (noF e.2 x < 0)).length : Nat) : Int) < K := by omega
  simp only [this, decide_true, Bool.or_true]
theorem age_all {T R K t : Int} (hK : 6 < K) {m : NM} (hm : m.length ≤ 6) : ageM T R K t m = grM T R t m := forget_none hK (by unfold grM; rw [List.length_map]; exact hm)
/-- how a note stands behind ageing -/
theorem gr_cases {T R t : Int} (hT : 0 ≤ T) {n : api_Note} (h : NB n) : gr T R t n = n ∨ ∃ s u, gr T R t n = withS n s u ∧ (s = 1 ∨ s = 5 ∨ s = 7) ∧ n.Since ≤ u ∧ u ≤ n.Letter.Until ∧ (s = 1 → n.State = 2 ∧ n.Tries ≠ R) ∧ n.State < 3 ∨ n.Letter.Until < n.Since := by
  by_cases hsu : n.Letter.Until < n.Since
  · exact .inr ⟨0, 0, .inr hsu⟩
  have one : ∀ {m k : api_Note}, ¬ m.Letter.Until < m.Since → ag1 T R t m = some k → ∃ s u, k = withS m s u ∧ (s = 1 ∨ s = 5 ∨ s = 7) ∧ m.Since ≤ u ∧ u ≤ m.Letter.Until ∧ (s = 1 → m.State = 2 ∧ m.Tries ≠ R) ∧ m.State < 3 := by
    intro m k hms hk
    unfold ag1 at hk
    split at hk
    · cases hk
    · rename_i h3
      split at hk
      · cases hk
      · injection hk with hk
        refine ⟨_, _, hk.symm, ?_, ?_, ?_, ?_, by omega⟩
        · split <;> (try split) <;> simp
        · unfold tn; split <;> (try split) <;> omega
        · unfold tn; split <;> (try split) <;> omega
        · intro hs
          split at hs
          · omega
          · rename_i hne
            split at hs
            · omega
            · rename_i hr
              refine ⟨Classical.byContradiction fun h2 => hne ?_, hr⟩
              unfold tn; rw [if_neg h2]
  unfold gr
  cases e1 : ag1 T R t n with
  | none => exact .inl rfl
  | some m =>
    obtain ⟨s, u, rfl, a1, a2, a3, a4, a5⟩ := one hsu e1
    simp only
    cases e2 : ag1 T R t (withS n s u) with
    | none => exact .inr ⟨s, u, .inl ⟨rfl, a1, a2, a3, a4, a5⟩⟩
    | some k =>
      obtain ⟨s', u', rfl, b1, b2, b3, b4, b5⟩ := one (by simp only [withS]; omega) e2
      refine .inr ⟨s', u', .inl ⟨rfl, b1, by simp only [withS] at b2; omega, b3, fun h => ?_, a5⟩⟩
      have := (b4 h).1
      simp only [withS] at this
      omega
end Go.Eng

/-
The law LettersEnd: each letter ends at last, in time; what was answered as done is not handed out again; never more than Room are there.
-/
namespace Go.Eng
open Go
set_option linter.unusedVariables false
set_option linter.unusedSimpArgs false

/-! ### What holds of each note -/
structure NI (Tr at_ : Int) (n : api_Note) : Prop where
  chk : z159 n.Letter = some 0
  lat : n.Letter.At ≤ at_
  unt : n.Letter.Until ≤ n.Letter.At + 1000
  s1 : n.Letter.At ≤ n.Since
  s2 : n.Since ≤ n.Letter.Until
  t1 : n.Tries ≤ Tr
  t2 : n.State = 1 → n.Tries < Tr
theorem NI.later {Tr t u : Int} {n : api_Note} (h : NI Tr t n) (hu : t ≤ u) : NI Tr u n := ⟨h.chk, by have := h.lat; omega, h.unt, h.s1, h.s2, h.t1, h.t2⟩
structure LI (a Tr at_ : Int) (m : NM) (done : List (List UInt8)) (np : Nat) : Prop where
  off : Off 50 m
  ni : ∀ e ∈ m, NI Tr at_ e.2
  dn : ∀ e ∈ m, e.2.State = 3 ↔ e.1 ∈ done
  dk : ∀ k ∈ done, ∃ e ∈ m, e.1 = k
  op : ((opN m : Nat) : Int) ≤ a
  len : m.length = np
theorem LI.later {a Tr t u : Int} {m : NM} {done : List (List UInt8)} {np : Nat} (h : LI a Tr t m done np) (hu : t ≤ u) : LI a Tr u m done np :=
  ⟨h.off, fun e he => (h.ni e he).later hu, h.dn, h.dk, h.op, h.len⟩
theorem li_age {a T Tr t u : Int} (hT : 0 ≤ T) {m : NM} {done : List (List UInt8)} {np : Nat} (h : LI a Tr t m done np) (hu : t ≤ u) : LI a Tr u (ageM T Tr 1000 u m) done np := by
  have hag : ageM T Tr 1000 u m = grM T Tr u m := age_all (by omega) h.off.ok.len
  have hoff := age_off (R := Tr) (K := 1000) (t := u) hT h.off
  have cs : ∀ d ∈ m, NI Tr u (gr T Tr u d.2) ∧ ((gr T Tr u d.2).State = 3 ↔ d.2.State = 3) := by
    intro d hd
    have hn := h.ni d hd
    rcases gr_cases (R := Tr) (t := u) hT (h.off.ok.nb d hd) with e | ⟨s, v, ⟨e, a1, a2, a3, a4, a5⟩ | e⟩
    · rw [e]; exact ⟨hn.later hu, Iff.rfl⟩
    · rw [e]
      refine ⟨⟨hn.chk, by have := hn.lat; simp only [withS]; omega, hn.unt, by have := hn.s1; simp only [withS]; omega, a3, hn.t1, fun hs => ?_⟩, by simp only [withS]; omega⟩
      have h4 := (a4 hs).2
      have h5 := hn.t1
      simp only [withS]
      omega
    · have := hn.s2; omega
  refine ⟨hoff, ?_, ?_, ?_, ?_, ?_⟩
  · intro e he
    rw [hag] at he
    obtain ⟨d, hd, rfl⟩ := mem_grM.1 he
    exact (cs d hd).1
  · intro e he
    rw [hag] at he
    obtain ⟨d, hd, rfl⟩ := mem_grM.1 he
    rw [(cs d hd).2]
    exact h.dn d hd
  · intro k hk
    obtain ⟨e, he, rfl⟩ := h.dk k hk
    rw [hag]
    exact ⟨_, mem_grM.2 ⟨e, he, rfl⟩, rfl⟩
  · have := op_age (T := T) (R := Tr) (K := 1000) (t := u) m
    have := h.op
    omega
  · rw [hag]; unfold grM; rw [List.length_map]; exact h.len
/-! ### Put -/
theorem Put2_ok {a T R t : Int} (hP : PB T R 1000) (hR : 1 ≤ R ∧ R ≤ 20) (ha : 0 ≤ a ∧ a ≤ 1000) {m : NM} {tm : Int} {done : List (List UInt8)} {np : Nat} (hm : LI a R t m done np) (htm : tm ≤ t) {l : api_Letter} (hl : LB l t) (hl2 : l.Until ≤ t + 1000) (ht : 0 ≤ t ∧ t ≤ 10000) :
    (∃ e, z238 a T R 1000 m tm l = some (.inl e) ∧ e ≠ 0) ∨ ∃ m2, z238 a T R 1000 m tm l = some (.inr m2) ∧ LI a R t m2 done (np + 1) := by
  have hM := li_age (u := t) hP.T.1 hm (Int.le_refl _)
  generalize hMe : ageM T R 1000 t m = M at hM
  obtain ⟨cl, hcl, _⟩ := CheckLetter_tot hl
  have hlen := hM.off.ok.len
  have hat := hl.at_
  have hag : z277 a T R 1000 m tm l.At = some M := by rw [hat, ← hMe]; exact aged_ok a tm hP hm.off.ok
  have htf : z304 a T R 1000 m tm l.At = some 0 := by rw [hat]; exact time_ok _ _ _ _ _ (show 0 ≤ t ∧ t ≤ 1000000 by omega) htm
  unfold z238
  rw [hcl, htf]
  simp only [Option.bind_some, First2, hag]
  by_cases hc : cl = 0
  case neg => left; exact ⟨cl, by simp [hc], hc⟩
  subst hc
  simp only [decide_true, Bool.not_true, cond_false]
  cases hi : aget M l.Id with
  | some n => left; exact ⟨6, rfl, by omega⟩
  | none =>
  have hnew : ∀ e ∈ M, e.1 ≠ l.Id := aget_none.1 hi
  simp only [Option.isSome_none, cond_false]
  have done_new : l.Id ∉ done := fun h => by
    obtain ⟨e, he, hek⟩ := hM.dk _ h
    exact hnew e he hek
  have nbl : NB (api_Note.mk l 1 0 l.At) := ⟨by simp, by simp only; omega, by have := hl.till; simp only; omega, by simp, fun h => by simp at h⟩
  have nil_ : NI R t (api_Note.mk l 1 0 l.At) := ⟨hcl, by simp only; omega, by simp only; omega, Int.le_refl _, by have := hl.till; simp only; omega, by simp only; omega, fun _ => by simp only; omega⟩
  cases hf : M.find? (oldB l) with
  | none =>
    have ho : oldOf l M = [] := by unfold oldOf; rw [hf]
    have hno : ∀ e ∈ M, oldB l e = false := fun e he => by simpa using List.find?_eq_none.1 hf e he
    by_cases hle : a ≤ ((opN M : Nat) : Int)
    · left
      refine ⟨12, ?_, by omega⟩
      refine allPerm_intro fun zo hzo => ?_
      rw [old_ok hM.off.su hzo, ho]
      simp only [Option.bind_some, pending_ok hlen, z251, decide_true, Bool.not_true, cond_false, hle, cond_true]
    · right
      refine ⟨aput M l.Id (api_Note.mk l 1 0 l.At), ?_, ?_⟩
      · refine allPerm_intro fun zo hzo => ?_
        rw [old_ok hM.off.su hzo, ho]
        simp only [Option.bind_some, pending_ok hlen, z251, z256, z301, decide_true, Bool.not_true, cond_false, hle, decide_false]
      · have hmore := aput_more (v := api_Note.mk l 1 0 l.At) hnew
        refine ⟨aput_off hM.off nbl rfl hl.id (by simp only; omega) (fun _ hne e he _ hwe hsl => ?_), fun e he => ?_, fun e he => ?_, fun k hk => ?_, ?_, by rw [hmore.1, hM.len]⟩
        · have := hno e he
          unfold oldB at this
          rw [hwe] at this
          simp only at hne hsl
          simp [hne, hsl] at this
        · rcases aput_mem.1 he with rfl | ⟨he, _⟩
          · exact nil_
          · exact hM.ni e he
        · rcases aput_mem.1 he with rfl | ⟨he, _⟩
          · simp [done_new]
          · exact hM.dn e he
        · obtain ⟨e, he, rfl⟩ := hM.dk k hk
          exact ⟨e, aput_mem.2 (.inr ⟨he, hnew e he⟩), rfl⟩
        · rw [hmore.2]
          simp only [endB, show ¬ (3 : Int) ≤ 1 by omega, decide_false, Bool.false_eq_true, if_false]
          omega
  | some g =>
    have hg := List.mem_of_find?_eq_some hf
    have hgb : oldB l g = true := by simpa using List.find?_some hf
    have ho : oldOf l M = g.1 := by unfold oldOf; rw [hf]
    have hne : ¬ g.1 = [] := fun e => ids6_ne (e ▸ (hM.off.ok.key g hg).2)
    have hget : aget M g.1 = some g.2 := (aget_some hM.off.ok.srt).2 hg
    have hgw : g.2.State = 1 ∧ g.2.Tries = 0 := by
      unfold oldB wb at hgb
      simp only [Bool.and_eq_true, decide_eq_true_eq] at hgb
      exact hgb.2.2
    have w1 : IntKind.wrap .i64 (a + 1) = a + 1 := wrap64 (by omega) (by omega)
    have hle : ¬ a + 1 ≤ ((opN M : Nat) : Int) := by have := hM.op; omega
    right
    refine ⟨aput (aput M g.1 (api_Note.mk g.2.Letter 6 g.2.Tries l.At)) l.Id (api_Note.mk l 1 0 l.At), ?_, ?_⟩
    · refine allPerm_intro fun zo hzo => ?_
      rw [old_ok hM.off.su hzo, ho]
      simp only [Option.bind_some, pending_ok hlen, z251, z256, z301, hne, decide_false, Bool.not_false, cond_true, w1, hle, hget, Option.getD_some, cond_false]
    · have hgn := hM.off.ok.nb g hg
      have hgi := hM.ni g hg
      have late : t < g.2.Letter.Until := by
        have hgM : g ∈ ageM T R 1000 t m := by rw [hMe]; exact hg
        obtain ⟨d, hd, hde⟩ := mem_grM.1 (mem_forget.1 hgM).1
        have h1 : ¬ 3 ≤ (gr T R t d.2).State := by rw [hde] at hgw; simp only at hgw; omega
        have := gr_later h1
        have e2 : tn T (gr T R t d.2) = (gr T R t d.2).Letter.Until := by unfold tn; rw [if_neg]; rw [hde] at hgw; simp only at hgw; omega
        rw [e2] at this
        rw [hde]; exact this
      have off1 : Off 50 (aput M g.1 (api_Note.mk g.2.Letter 6 g.2.Tries l.At)) := aput_off hM.off ⟨by simp, by simp only; omega, hgn.till, hgn.tries, fun h => by simp at h⟩ (hM.off.ok.key g hg).1 (hM.off.ok.key g hg).2 (hM.off.tb g hg) (fun h => by simp [wb] at h)
      have hnew1 : ∀ e ∈ aput M g.1 (api_Note.mk g.2.Letter 6 g.2.Tries l.At), e.1 ≠ l.Id := fun e he => by
        rcases aput_mem.1 he with rfl | ⟨he, _⟩
        · exact hnew g hg
        · exact hnew e he
      have hmore := aput_more (v := api_Note.mk l 1 0 l.At) hnew1
      have hshut := aput_shut (v := api_Note.mk g.2.Letter 6 g.2.Tries l.At) hM.off.ok.srt (show (g.1, g.2) ∈ M from hg) (by simp [endB]) (by simp [endB, hgw.1])
      have hkeys := aput_keys (v := api_Note.mk g.2.Letter 6 g.2.Tries l.At) ⟨g, hg, rfl⟩
      refine ⟨aput_off off1 nbl rfl hl.id (by simp only; omega) (fun _ hns e he _ hwe hsl => ?_), fun e he => ?_, fun e he => ?_, fun k hk => ?_, ?_, ?_⟩
      · rcases aput_mem.1 he with rfl | ⟨he, he2⟩
        · simp [wb] at hwe
        · have : oldB l e = true := by
            unfold oldB
            rw [hwe]
            simp only at hns hsl
            simp [hns, hsl]
          exact he2 (by rw [old_one hM.off.su e he g hg this hgb])
      · rcases aput_mem.1 he with rfl | ⟨he, _⟩
        · exact nil_
        · rcases aput_mem.1 he with rfl | ⟨he, _⟩
          · exact ⟨hgi.chk, hgi.lat, hgi.unt, by have := hgi.lat; simp only; omega, by simp only; omega, hgi.t1, fun h => by simp at h⟩
          · exact hM.ni e he
      · rcases aput_mem.1 he with rfl | ⟨he, _⟩
        · simp [done_new]
        · rcases aput_mem.1 he with rfl | ⟨he, _⟩
          · have : g.1 ∉ done := fun h => absurd ((hM.dn g hg).2 h) (by omega)
            simp [this]
          · exact hM.dn e he
      · obtain ⟨e, he, rfl⟩ := hM.dk k hk
        by_cases heg : e.1 = g.1
        · exact ⟨(g.1, _), aput_mem.2 (.inr ⟨aput_mem.2 (.inl rfl), hnew g hg⟩), heg.symm⟩
        · exact ⟨e, aput_mem.2 (.inr ⟨aput_mem.2 (.inr ⟨he, heg⟩), hnew e he⟩), rfl⟩
      · rw [hmore.2]
        have := hM.op
        simp only [endB, show ¬ (3 : Int) ≤ 1 by omega, decide_false, Bool.false_eq_true, if_false]
        omega
      · rw [hmore.1, ← hM.len]
        have := congrArg List.length hkeys
        simpa using this
end Go.Eng

/-
LettersEnd: letters are handed out and answered.
-/
namespace Go.Eng
open Go
set_option linter.unusedVariables false
set_option linter.unusedSimpArgs false

/-- letters are handed out -/
theorem Fetch2_ok {a T R t q : Int} (hP : PB T R 1000) (hR : 1 ≤ R ∧ R ≤ 20) {m : NM} {tm : Int} {done : List (List UInt8)} {np : Nat} (hm : LI a R t m done np) (htm : tm ≤ t) (ht : 0 ≤ t ∧ t ≤ 10000) (hq : 0 ≤ q ∧ q ≤ 100) :
    ∃ m2 ls, z214 a T R 1000 m tm t q = some (.inr (m2, ls)) ∧ LI a R t m2 done np ∧ ls.length ≤ 6 ∧ ∀ y ∈ ls, y.Id ∉ done ∧ t < y.Until := by
  have hM := li_age (u := t) hP.T.1 hm (Int.le_refl _)
  have late : ∀ e ∈ ageM T R 1000 t m, e.2.State = 1 → t < e.2.Letter.Until := by
    intro g hg hgs
    obtain ⟨d, hd, hde⟩ := mem_grM.1 (mem_forget.1 hg).1
    have h1 : ¬ 3 ≤ (gr T R t d.2).State := by rw [hde] at hgs; simp only at hgs; omega
    have := gr_later h1
    have e2 : tn T (gr T R t d.2) = (gr T R t d.2).Letter.Until := by unfold tn; rw [if_neg]; rw [hde] at hgs; simp only at hgs; omega
    rw [e2] at this
    rw [hde]; exact this
  have hag : z277 a T R 1000 m tm t = some (ageM T R 1000 t m) := aged_ok a tm hP hm.off.ok
  generalize ageM T R 1000 t m = M at hM late hag
  have hlen := hM.off.ok.len
  have hwl : ((M.filter waitB).map fun e => e.2.Letter).length ≤ 6 := by
    rw [List.length_map]
    exact Nat.le_trans (List.length_filter_le _ _) hlen
  obtain ⟨S, s1, s2, s3⟩ := gSF_ok (f := lF) (c := z321) lCmp lF_anti lF_tr (l := (M.filter waitB).map fun e => e.2.Letter) (by omega) (wl_nd hM.off.ok)
  have hSl : S.length ≤ 6 := by rw [s2.length_eq]; exact hwl
  have hqn : imin q (S.length : Int) = ((min q.toNat S.length : Nat) : Int) := by unfold imin; split <;> omega
  have hsub : sub? S 0 (imin q (S.length : Int)) = some (S.take (min q.toNat S.length)) := by
    rw [hqn]
    unfold sub?
    rw [if_pos ⟨by omega, by omega, by omega⟩]
    simp
  generalize hls : S.take (min q.toNat S.length) = ls at hsub
  have hlsl : ls.length ≤ 6 := by rw [← hls, List.length_take]; omega
  have hin : ∀ y ∈ ls, ∃ e ∈ M, e.2.Letter = y ∧ e.2.State = 1 := by
    intro y hy
    rw [← hls] at hy
    have := s2.mem_iff.1 (List.mem_of_mem_take hy)
    obtain ⟨e, he, rfl⟩ := List.mem_map.1 this
    have h2 := List.mem_filter.1 he
    exact ⟨e, h2.1, rfl, of_decide_eq_true h2.2⟩
  have hnd : (ls.map (·.Id)).Nodup := by
    unfold List.Nodup
    rw [List.pairwise_map, ← hls]
    refine List.Pairwise.sublist (List.take_sublist _ _) ?_
    have := (s2.pairwise_iff (R := fun x y : api_Letter => x.Id ≠ y.Id) (fun h e => h e.symm)).2 (by
      rw [List.pairwise_map]
      refine List.Pairwise.filter _ (List.Pairwise.imp_of_mem ?_ hM.off.ok.srt)
      intro x y hx hy hxy h0
      rw [(hM.off.ok.key x hx).1, (hM.off.ok.key y hy).1] at h0
      exact nlt_ne hxy h0)
    exact this
  -- they are marked
  have mark : ∀ i, i ≤ ls.length → ∀ (s : NM), LI a R t s done np → (∀ y ∈ ls.drop i, ∃ e ∈ s, e.2.Letter = y ∧ e.2.State = 1) → Ok (loopO (z222 t ls) (s, (i : Int))) (fun s => LI a R t s done np) := by
    intro i
    induction h : ls.length - i generalizing i with
    | zero =>
      intro hi s hs _
      refine ⟨s, loop_out ?_, hs⟩
      unfold z222
      have : ¬ (i : Int) < ls.length := by omega
      simp [this]
    | succ n ih =>
      intro hi s hs hy
      have hil : i < ls.length := by omega
      obtain ⟨e, he, heL, heS⟩ := hy ls[i] (by rw [List.drop_eq_getElem_cons hil]; exact List.mem_cons_self ..)
      have hek : e.1 = ls[i].Id := by rw [← (hs.off.ok.key e he).1, heL]
      have hget : aget s ls[i].Id = some e.2 := by rw [← hek]; exact (aget_some hs.off.ok.srt).2 he
      have hen := hs.off.ok.nb e he
      have hei := hs.ni e he
      have w1 : IntKind.wrap .i64 ((i : Int) + 1) = ((i + 1 : Nat) : Int) := by rw [wrap64 (by omega) (by omega)]; omega
      have hen0 := hen.tries
      have w2 : IntKind.wrap .i64 (e.2.Tries + 1) = e.2.Tries + 1 := wrap64 (by omega) (by omega)
      have hstep : z222 t ls (s, (i : Int)) = some (.inl (aput s ls[i].Id (api_Note.mk e.2.Letter 2 (e.2.Tries + 1) t), ((i + 1 : Nat) : Int))) := by
        unfold z222
        have hc : (i : Int) < ls.length := by omega
        simp only [hc, decide_true, cond_true, at_nat hil, Option.bind_some, hget, Option.getD_some, w1, w2]
      rw [loop_in hstep]
      have htr := hei.t2 heS
      have hmem : (ls[i].Id, e.2) ∈ s := by rw [← hek]; exact he
      have hnew : LI a R t (aput s ls[i].Id (api_Note.mk e.2.Letter 2 (e.2.Tries + 1) t)) done np := by
        have hul : t ≤ e.2.Letter.Until := by
          have h1 := hin ls[i] (List.getElem_mem hil)
          obtain ⟨g, hg, hgL, hgS⟩ := h1
          have := late g hg hgS
          rw [hgL, ← heL] at this
          omega
        refine ⟨aput_off hs.off ⟨by simp, by simp only; omega, hen.till, by simp only; omega, fun _ => by simp only; omega⟩ (by rw [heL]) (by rw [← hek]; exact (hs.off.ok.key e he).2) (by simp only; omega) (fun h => by simp [wb] at h), fun g hg => ?_, fun g hg => ?_, fun k hk => ?_, ?_, ?_⟩
        · rcases aput_mem.1 hg with rfl | ⟨hg, _⟩
          · exact ⟨hei.chk, hei.lat, hei.unt, by have := hei.lat; simp only; omega, by simp only; omega, by simp only; omega, fun h => by simp at h⟩
          · exact hs.ni g hg
        · rcases aput_mem.1 hg with rfl | ⟨hg, _⟩
          · have : ls[i].Id ∉ done := fun h => absurd ((hs.dn e he).2 (by rw [hek]; exact h)) (by omega)
            simp [this]
          · exact hs.dn g hg
        · obtain ⟨g, hg, rfl⟩ := hs.dk k hk
          by_cases hgk : g.1 = ls[i].Id
          · exact ⟨_, aput_mem.2 (.inl rfl), hgk.symm⟩
          · exact ⟨g, aput_mem.2 (.inr ⟨hg, hgk⟩), rfl⟩
        · rw [aput_open hs.off.ok.srt hmem (by simp [endB, heS])]
          exact hs.op
        · have := congrArg List.length (aput_keys (v := api_Note.mk e.2.Letter 2 (e.2.Tries + 1) t) ⟨_, hmem, rfl⟩)
          simp only [List.length_map] at this
          rw [this]; exact hs.len
      refine ih (i + 1) (by omega) (by omega) _ hnew ?_
      intro y hyd
      obtain ⟨g, hg, hgL, hgT⟩ := hy y (by rw [List.drop_eq_getElem_cons hil]; exact List.mem_cons_of_mem _ hyd)
      have hne : g.1 ≠ ls[i].Id := by
        intro hgi
        obtain ⟨j, hj, hje⟩ := List.mem_iff_getElem.1 hyd
        rw [List.length_drop] at hj
        rw [List.getElem_drop] at hje
        have hid : ls[i + 1 + j].Id = ls[i].Id := by rw [hje, ← hgL, (hs.off.ok.key g hg).1, hgi]
        have := (List.getElem_inj (h₀ := by simp; omega) (h₁ := by simpa using hil) hnd).1 (show (ls.map (·.Id))[i + 1 + j]'(by simp; omega) = (ls.map (·.Id))[i]'(by simpa using hil) by simpa using hid)
        omega
      exact ⟨g, aput_mem.2 (.inr ⟨hg, hne⟩), hgL, hgT⟩
  obtain ⟨m2, hm2, hoff⟩ := mark 0 (by omega) M hM (fun y hy => hin y (by simpa using hy))
  refine ⟨m2, ls, ?_, hoff, hlsl, fun y hy => ?_⟩
  · have hout : (decide (q < 0) || decide (500 < q)) = false := by
      rw [Bool.or_eq_false_iff, decide_eq_false_iff_not, decide_eq_false_iff_not]; omega
    unfold z214
    rw [time_ok _ _ _ _ _ (show 0 ≤ t ∧ t ≤ 1000000 by omega) htm]
    simp only [Option.bind_some, decide_true, Bool.not_true, cond_false, Out_eq, hout, hag]
    refine allPerm_intro fun zo hzo => ?_
    rw [fetch_rng zo [] (by have := hzo.length_eq; simp; omega)]
    have hpz : ((zo.filter waitB).map fun e => e.2.Letter).Perm ((M.filter waitB).map fun e => e.2.Letter) := (hzo.filter _).map _
    obtain ⟨S', t1, t2, t3⟩ := gSF_ok (f := lF) (c := z321) lCmp lF_anti lF_tr (l := (zo.filter waitB).map fun e => e.2.Letter) (by have := hpz.length_eq; omega) ((hpz.pairwise_iff (fun {x y} h => by rw [lF_anti x y]; omega)).2 (wl_nd hM.off.ok))
    have hSS : S' = S := strict_ext lF_anti t3 s3 ((t2.trans hpz).trans s2.symm)
    subst hSS
    simp only [Option.bind_some, List.nil_append, sortL_eq, t1, gd, t2.length_eq, beq_self_eq_true, cond_true]
    rw [← t2.length_eq, hsub]
    simp only [Option.bind_some, z586, gd]
    rw [lim_ok (show ([] : List api_Letter).length + ls.length ≤ 100000 by simp; omega)]
    simp only [cond_true, Option.bind_some]
    have h00 : (0 : Int) = ((0 : Nat) : Int) := rfl
    rw [h00, hm2]
    rfl
  · obtain ⟨e, he, heL, heS⟩ := hin y hy
    refine ⟨fun hd => ?_, by have := late e he heS; rw [heL] at this; exact this⟩
    have hk : e.1 = y.Id := by rw [← (hM.off.ok.key e he).1, heL]
    have := (hM.dn e he).2 (by rw [hk]; exact hd)
    omega
/-- a letter is answered -/
theorem Answer2_ok {a T R t : Int} (hP : PB T R 1000) {m : NM} {tm : Int} {done : List (List UInt8)} {np : Nat} (hm : LI a R t m done np) (htm : tm ≤ t) (ht : 0 ≤ t ∧ t ≤ 10000) (k : List UInt8) :
    (∃ e, z201 a T R 1000 m tm k t true = some (.inl e) ∧ e ≠ 0) ∨ ∃ m2, z201 a T R 1000 m tm k t true = some (.inr m2) ∧ LI a R t m2 (done ++ [k]) np := by
  have hM := li_age (u := t) hP.T.1 hm (Int.le_refl _)
  have late : ∀ e ∈ ageM T R 1000 t m, ¬ 3 ≤ e.2.State → t ≤ e.2.Letter.Until := by
    intro g hg hgs
    obtain ⟨d, hd, hde⟩ := mem_grM.1 (mem_forget.1 hg).1
    have h1 : ¬ 3 ≤ (gr T R t d.2).State := by rw [hde] at hgs; exact hgs
    have h2 := gr_later h1
    have h3 : tn T (gr T R t d.2) ≤ (gr T R t d.2).Letter.Until := by unfold tn; split <;> (try split) <;> omega
    rw [hde]
    simp only
    omega
  have hag : z277 a T R 1000 m tm t = some (ageM T R 1000 t m) := aged_ok a tm hP hm.off.ok
  generalize ageM T R 1000 t m = M at hM late hag
  unfold z201
  rw [time_ok _ _ _ _ _ (show 0 ≤ t ∧ t ≤ 1000000 by omega) htm]
  simp only [Option.bind_some, decide_true, Bool.not_true, cond_false, hag]
  cases hi : aget M k with
  | none => left; exact ⟨8, rfl, by omega⟩
  | some n =>
    have hmem : (k, n) ∈ M := (aget_some hM.off.ok.srt).1 hi
    simp only [Option.isSome_some, Bool.not_true, cond_false, Option.getD_some, Option.bind_some]
    by_cases h0 : n.Tries = 0
    · left; exact ⟨11, by unfold z204; simp [h0], by omega⟩
    by_cases h3 : 3 ≤ n.State
    · left; exact ⟨11, by unfold z204 z324; simp [h0, h3], by omega⟩
    right
    refine ⟨aput M k (api_Note.mk n.Letter 3 n.Tries t), ?_, ?_⟩
    · unfold z204 z209 z324 z301
      simp [h0, h3]
    · have hen := hM.off.ok.nb _ hmem
      have hei := hM.ni _ hmem
      have hul := late _ hmem h3
      simp only at hen hei hul
      have hkk := hM.off.ok.key _ hmem
      refine ⟨aput_off hM.off ⟨by simp, by simp only; omega, hen.till, hen.tries, fun h => by simp at h⟩ hkk.1 hkk.2 (hM.off.tb _ hmem) (fun h => by simp [wb] at h), fun g hg => ?_, fun g hg => ?_, fun x hx => ?_, ?_, ?_⟩
      · rcases aput_mem.1 hg with rfl | ⟨hg, _⟩
        · exact ⟨hei.chk, hei.lat, hei.unt, by have := hei.lat; simp only; omega, hul, hei.t1, fun h => by simp at h⟩
        · exact hM.ni g hg
      · rcases aput_mem.1 hg with rfl | ⟨hg, hne⟩
        · simp
        · rw [hM.dn g hg, List.mem_append]
          simp [hne]
      · by_cases hxk : x = k
        · exact ⟨_, aput_mem.2 (.inl rfl), hxk.symm⟩
        · have hx' : x ∈ done := by
            rcases List.mem_append.1 hx with h | h
            · exact h
            · exact absurd (List.mem_singleton.1 h) hxk
          obtain ⟨g, hg, rfl⟩ := hM.dk x hx'
          exact ⟨g, aput_mem.2 (.inr ⟨hg, hxk⟩), rfl⟩
      · have h1 := aput_shut (v := api_Note.mk n.Letter 3 n.Tries t) hM.off.ok.srt hmem (by simp [endB]) (by simp [endB, h3])
        have := hM.op
        omega
      · have := congrArg List.length (aput_keys (v := api_Note.mk n.Letter 3 n.Tries t) ⟨_, hmem, rfl⟩)
        simp only [List.length_map] at this
        rw [this]; exact hM.len
theorem Waiting2_ok {a T R t : Int} (hP : PB T R 1000) {m : NM} {tm : Int} {done : List (List UInt8)} {np : Nat} (hm : LI a R t m done np) (htm : tm ≤ t) (ht : 0 ≤ t ∧ t ≤ 10000) :
    ∃ m2 w, z261 a T R 1000 m tm t = some (.inr (m2, w)) ∧ LI a R t m2 done np ∧ w ≤ a := by
  have hM := li_age (u := t) hP.T.1 hm (Int.le_refl _)
  have hag : z277 a T R 1000 m tm t = some (ageM T R 1000 t m) := aged_ok a tm hP hm.off.ok
  refine ⟨_, _, ?_, hM, hM.op⟩
  unfold z261
  rw [time_ok _ _ _ _ _ (show 0 ≤ t ∧ t ≤ 1000000 by omega) htm]
  simp only [Option.bind_some, decide_true, Bool.not_true, cond_false, hag, z301, pending_ok hM.off.ok.len]
end Go.Eng

/-
The law LettersEnd: each letter ends at last, in time; what was answered as done is not handed out again; never more than Room are there.
-/
namespace Go.Eng
open Go
set_option linter.unusedVariables false
set_option linter.unusedSimpArgs false

theorem containsS_eq (l : List (List UInt8)) (v : List UInt8) (hl : (l.length : Int) ≤ 9223372036854775807) : z616 l v = some (decide (v ∈ l)) := by
  unfold z616 z651
  obtain ⟨x, h1, h2⟩ := find_loop (l := l) (f := z654 l v) (fun x => decide (v = x)) hl (fun i h => by
    unfold z654
    have hc : (i : Int) < l.length := by omega
    simp only [hc, decide_true, cond_true, at_nat h, Option.bind_some]
    cases decide (v = l[i]) <;> rfl) (by unfold z654; simp)
  have h3 : (l.any fun x => decide (v = x)) = decide (v ∈ l) := by
    rw [Bool.eq_iff_iff, List.any_eq_true, decide_eq_true_iff]
    constructor
    · rintro ⟨x, hx, hv⟩
      have := of_decide_eq_true hv
      subst this; exact hx
    · intro h; exact ⟨v, h, by simp⟩
  rw [h1, ← h3, ← h2]
  cases x <;> rfl
theorem b0o_no {l : List api_Letter} {done : List (List UInt8)} {t : Int} (hl : (l.length : Int) ≤ 9223372036854775807) (hd : (done.length : Int) ≤ 9223372036854775807) (h : ∀ y ∈ l, y.Id ∉ done ∧ t < y.Until) :
    z610 l done t = some false := by
  unfold z610 z635
  obtain ⟨x, h1, h2⟩ := find_loop (l := l) (f := z638 l done t) (fun _ => false) hl (fun i hi => by
    unfold z638
    have hc : (i : Int) < l.length := by omega
    obtain ⟨q1, q2⟩ := h _ (List.getElem_mem hi)
    have q3 : ¬ l[i].Until ≤ t := by omega
    have hb : z335 l[i] done t = some false := by
      unfold z335 z338
      rw [containsS_eq _ _ hd]
      simp [q1, q3]
    simp only [hc, decide_true, cond_true, at_nat hi, Option.bind_some, hb, cond_false]) (by unfold z638; simp)
  have h3 : (l.any fun _ => false) = false := by induction l <;> simp_all
  rw [h1]
  rw [h3] at h2
  cases x <;> simp at h2 <;> simp [h2]

/-! ### What streams make -/
theorem RightPost2_ok {k : Nat} {s : z453} (h : StrOk k s) (hk : k + 10 < 1099511627776) : Ok (z466 s) (fun p => PB p.Timeout p.Tries 1000 ∧ (1 ≤ p.Room ∧ p.Room ≤ 5) ∧ (1 ≤ p.Tries ∧ p.Tries ≤ 20) ∧ z190 (api_Post.mk p.Room p.Timeout p.Tries 1000) = some 0) := by
  unfold z466
  have h1 := nxt_mk h (by omega)
  have h2 := nxt_mk h1 (by omega)
  have h3 := nxt_mk h2 (by omega)
  refine (Pick_ok h (by omega) (by simp) (by simp)).bind fun a ha => ?_
  refine (Pick_ok h1 (by omega) (by simp) (by simp)).bind fun b hb => ?_
  refine (Pick_ok h2 (by omega) (by simp) (by simp)).bind fun c hc => ?_
  refine (Pick_ok h3 (by omega) (by simp) (by simp)).bind fun d hd => .some ?_
  simp at ha hb hc hd
  have b1 : 1 ≤ a ∧ a ≤ 5 := by omega
  have b2 : 1 ≤ b ∧ b ≤ 10 := by omega
  have b3 : 1 ≤ c ∧ c ≤ 3 := by omega
  refine ⟨⟨by simp only; omega, by omega⟩, by simp only; omega, by simp only; omega, ?_⟩
  unfold z190 z193
  simp only [Out_eq, Option.bind_some]
  have e1 : (decide (a < 1) || decide (500 < a)) = false := by simp; omega
  have e2 : (decide (b < 1) || decide (86400000 < b)) = false := by simp; omega
  have e3 : (decide (c < 1) || decide (20 < c)) = false := by simp; omega
  simp [e1, e2, e3]
theorem RightLetter2_ok {k : Nat} {s : z453} (h : StrOk k s) (hk : k + 10 < 1099511627776) {t : Int} (ht : 0 ≤ t ∧ t ≤ 10000) : Ok (z463 s t) (fun l => LB l t ∧ l.Until ≤ t + 1000) := by
  unfold z463
  have h1 := nxt_mk h (by omega)
  have h2 := nxt_mk h1 (by omega)
  have h3 := nxt_mk h2 (by omega)
  have h4 := nxt_mk h3 (by omega)
  refine (Some_ok h (by omega) (by simp) (by simp)).bind fun a ha => ?_
  refine (Some_ok h1 (by omega) (by simp) (by simp)).bind fun b hb => ?_
  refine (Some_ok h2 (by omega) (by simp) (by simp)).bind fun c hc => ?_
  refine (Pick_ok h3 (by omega) (by simp) (by simp)).bind fun d hd => ?_
  refine (Pick_ok h4 (by omega) (by simp) (by simp)).bind fun e he => .some ?_
  simp at hb hc he
  have he' : 1 ≤ e ∧ e ≤ 1000 := by omega
  have w : IntKind.wrap .i64 (t + e) = t + e := wrap64 (by omega) (by omega)
  refine ⟨⟨ha, ?_, ?_, rfl, ?_⟩, by simp only [w]; omega⟩
  · rcases hb with h | h | h <;> simp [h]
  · rcases hc with h | h | h <;> simp [h]
  · simp only [w]
    omega

/-! ### At the end -/
theorem Notes2_ok {a T R t : Int} (hP : PB T R 1000) {m : NM} {tm : Int} (hm : MOk m) (htm : tm ≤ t) (hM : MOk (ageM T R 1000 t m)) (ht : 0 ≤ t ∧ t ≤ 10000) :
    ∃ ls, z227 a T R 1000 m tm t = some (.inr (ageM T R 1000 t m, ls)) ∧ ls.Perm ((ageM T R 1000 t m).map (·.2)) ∧ ls.Pairwise fun x y => iF x y < 0 := by
  have hag : z277 a T R 1000 m tm t = some (ageM T R 1000 t m) := aged_ok a tm hP hm
  generalize ageM T R 1000 t m = M at hM hag
  have hlen := hM.len
  have anti : ∀ x y, iF y x = - iF x y := fun x y => cmpB_anti _ _
  have nd : (M.map (·.2)).Pairwise fun x y => iF x y ≠ 0 := by
    rw [List.pairwise_map]
    refine List.Pairwise.imp_of_mem ?_ hM.srt
    intro x y hx hy hxy h0
    have := cmpB_zero.1 h0
    rw [(hM.key x hx).1, (hM.key y hy).1] at this
    exact nlt_ne hxy this
  obtain ⟨S, s1, s2, s3⟩ := gSF_ok (f := iF) (c := fun x y => some (iF x y)) (fun _ _ => rfl) anti (fun _ _ _ => cmpB_tr) (l := M.map (·.2)) (by simp; omega) nd
  refine ⟨S, ?_, s2, s3⟩
  unfold z227
  rw [time_ok _ _ _ _ _ (show 0 ≤ t ∧ t ≤ 1000000 by omega) htm]
  simp only [Option.bind_some, decide_true, Bool.not_true, cond_false, hag, z301]
  refine allPerm_intro fun zo hzo => ?_
  rw [notes_rng zo [] (by have := hzo.length_eq; simp; omega)]
  have hpz : (zo.map (·.2)).Perm (M.map (·.2)) := hzo.map _
  obtain ⟨S', t1, t2, t3⟩ := gSF_ok (f := iF) (c := fun x y => some (iF x y)) (fun _ _ => rfl) anti (fun _ _ _ => cmpB_tr) (l := zo.map (·.2)) (by have := hzo.length_eq; simp; omega) ((hpz.pairwise_iff (fun {x y} h => by rw [anti x y]; omega)).2 nd)
  have hSS : S' = S := strict_ext anti t3 s3 ((t2.trans hpz).trans s2.symm)
  subst hSS
  simp only [Option.bind_some, List.nil_append, sortI_eq, t1, gd, t2.length_eq, beq_self_eq_true, cond_true]
theorem Wake2_ok {a T R t : Int} (hP : PB T R 1000) {m : NM} {tm : Int} (hm : MOk m) (ht : 0 ≤ t ∧ t ≤ 10000) (htm : tm ≤ t) (hM : MOk (ageM T R 1000 t m)) (hend : ∀ e ∈ ageM T R 1000 t m, endB e.2 = true) :
    z264 a T R 1000 m tm t = some (.inr (ageM T R 1000 t m, -1)) := by
  unfold z264
  rw [time_ok _ _ _ _ _ (show 0 ≤ t ∧ t ≤ 1000000 by omega) htm]
  simp only [Option.bind_some, decide_true, Bool.not_true, cond_false, aged_ok a tm hP hm, z301]
  refine allPerm_intro fun zo hzo => ?_
  rw [wake_rng a R 1000 t hP.T zo (-1) fun e he => hM.nb e (hzo.mem_iff.1 he)]
  simp only [Option.bind_some]
  rcases wk_least hP.T.1 zo (-1) (fun e he => hM.nb e (hzo.mem_iff.1 he)) (.inl rfl) with ⟨h1, _⟩ | ⟨⟨e, e1, e2, _⟩, _, _⟩
  · rw [h1]
  · rw [hend e (hzo.mem_iff.1 e1)] at e2; cases e2
theorem ended_all {a T R s t : Int} (hT : 0 ≤ T) {m : NM} {done : List (List UInt8)} {np : Nat} (hm : LI a R s m done np) (hst : s + 1000 ≤ t) : ∀ e ∈ ageM T R 1000 t m, endB e.2 = true := by
  intro g hg
  obtain ⟨d, hd, hde⟩ := mem_grM.1 (mem_forget.1 hg).1
  unfold endB
  rw [decide_eq_true_iff]
  refine Classical.byContradiction fun h3 => ?_
  have h1 : ¬ 3 ≤ (gr T R t d.2).State := by rw [hde] at h3; exact h3
  have h2 := gr_later h1
  have h4 : tn T (gr T R t d.2) ≤ (gr T R t d.2).Letter.Until := by unfold tn; split <;> (try split) <;> omega
  rw [(gr_nb hT (hm.off.ok.nb d hd)).2.1] at h4
  have h5 := (hm.ni d hd).unt
  have h6 := (hm.ni d hd).lat
  omega
theorem CheckNotes2_ok {Tr at_ : Int} (hTr : Tr ≤ 20) {ls : List api_Note} (hlen : ls.length ≤ 6) (hni : ∀ n ∈ ls, NI Tr at_ n ∧ NB n) (hs : ls.Pairwise fun x y => iF x y < 0) : z172 ls = some 0 := by
  unfold z172
  have h1 : ¬ 1500 < (ls.length : Int) := by omega
  simp only [h1, decide_false, cond_false]
  rw [range_loop (l := ls) (fun _ _ => none) (.inl ()) (by omega)]
  · have : ∀ (k : Nat) (m : List api_Note), scan (fun (_ : Nat) (_ : api_Note) => (none : Option (Unit ⊕ Int))) k m = none := fun k m => scan_none.2 fun _ _ _ => rfl
    rw [this]; rfl
  · intro i hi
    have hc : (i : Int) < ls.length := by omega
    obtain ⟨q, b⟩ := hni _ (List.getElem_mem hi)
    have hck : z159 (api_Letter.mk ls[i].Letter.Id ls[i].Letter.Slot ls[i].Letter.Body ls[i].Letter.Prio ls[i].Letter.At ls[i].Letter.Until) = some 0 := q.chk
    have e1 : (decide (ls[i].State < 1) || decide (7 < ls[i].State)) = false := by have := b.st; simp; omega
    have e2 : z180 ls[i] = some false := by
      unfold z180
      have e1 : (decide (ls[i].Tries < 0) || decide (20 < ls[i].Tries)) = false := by have := b.tries; have := q.t1; simp; omega
      have e3 : (decide (0 ≤ ls[i].Since) && decide (ls[i].Since ≤ 345686399999)) = true := by have := b.since; rw [Bool.and_eq_true, decide_eq_true_iff, decide_eq_true_iff]; omega
      rw [Out_eq, e1, Moment_eq, e3]
      rfl
    have e3 : z185 ls (i : Int) ls[i] = some false := by
      unfold z185
      by_cases h0 : 0 < (i : Int)
      · have w : IntKind.wrap .i64 ((i : Int) - 1) = ((i - 1 : Nat) : Int) := by rw [wrap64 (by omega) (by omega)]; omega
        have hj : i - 1 < ls.length := by omega
        simp only [h0, decide_true, cond_true, w, at_nat hj, Option.bind_some]
        have hlt := (List.pairwise_iff_getElem.1 hs) (i - 1) i hj hi (by omega)
        have hlt : nlt ls[i - 1].Letter.Id ls[i].Letter.Id := hlt
        have n1 : Op.bytesLess ls[i].Letter.Id ls[i - 1].Letter.Id = false := by
          rw [cmpB_less, decide_eq_false_iff_not]
          exact nlt_asymm hlt
        have n2 : ¬ ls[i].Letter.Id = ls[i - 1].Letter.Id := fun e => nlt_ne hlt e.symm
        simp [n1, n2]
      · simp only [h0, decide_false, cond_false]
    unfold z175
    simp only [hc, decide_true, cond_true, at_nat hi, Option.bind_some, hck, Bool.not_true, cond_false, Out_eq, e1, e2, e3]
  · unfold z175; simp
end Go.Eng

/-
The law LettersEnd.
-/
namespace Go.Eng
open Go
set_option linter.unusedVariables false
set_option linter.unusedSimpArgs false

/-- one round -/
theorem round_ok {p : api_Post} (hP : PB p.Timeout p.Tries 1000) (hr : 1 ≤ p.Room ∧ p.Room ≤ 5) (hR : 1 ≤ p.Tries ∧ p.Tries ≤ 20) {k : Nat} {s : z453} (hs : StrOk k s) (hk : k + 20 < 1099511627776) {m : NM} {tm t q : Int} {done : List (List UInt8)} {puts : List api_Letter}
    (hm : LI p.Room p.Tries t m done puts.length) (htm : tm ≤ t) (ht : 0 ≤ t ∧ t ≤ 1000) (hq : 0 ≤ q ∧ q ≤ 5) (hd : done.length ≤ 100) (hp : puts.length ≤ 100) :
    Ok (z399 p s m tm done t puts q) (fun x => match x with
      | .inl (s2, m2, tm2, done2, puts2) => StrOk (k + 10) s2 ∧ LI p.Room p.Tries (t + q) m2 done2 puts2.length ∧ tm2 ≤ t + q ∧ done2.length ≤ done.length + 1 ∧ puts2.length ≤ puts.length + 1
      | .inr _ => False) := by
  have w : IntKind.wrap .i64 (t + q) = t + q := wrap64 (by omega) (by omega)
  have hm2 := hm.later (u := t + q) (by omega)
  have a1 := nxt_mk hs (by omega)
  have a2 := nxt_mk a1 (by omega)
  unfold z399
  rw [w]
  refine (Next_ok a1 (by omega) (by unfold I64; omega)).bind fun c hc => ?_
  refine .cond (fun _ => ?_) (fun _ => .cond (fun _ => ?_) (fun _ => ?_))
  · have tb : 0 ≤ t + q ∧ t + q ≤ 10000 := by omega
    refine (RightLetter2_ok a2 (by omega) tb).bind fun l ⟨hl, hl2⟩ => ?_
    have a7 := nxt_mk (nxt_mk (nxt_mk (nxt_mk (nxt_mk a2 (by omega)) (by omega)) (by omega)) (by omega)) (by omega)
    rcases Put2_ok hP hR (show 0 ≤ p.Room ∧ p.Room ≤ 1000 by omega) hm2 (show tm ≤ t + q by omega) hl hl2 tb with ⟨e, he, he0⟩ | ⟨m3, h3, h4⟩
    · have h5 : z404 p m tm l = some (m, tm, false) := by
        unfold z404
        rw [he]
        simp [he0]
      rw [h5]
      simp only [Option.bind_some, cond_false]
      exact .some ⟨a7.mono (by omega), hm2, by omega, by omega, by omega⟩
    · have h5 : z404 p m tm l = some (m3, l.At, true) := by
        unfold z404
        rw [h3]
        simp
      rw [h5]
      simp only [Option.bind_some, cond_true]
      refine .gd (lim_ok (by simp; omega)) (.some ⟨a7.mono (by omega), ?_, ?_, by omega, by simp⟩)
      · simpa using h4
      · have := hl.at_; omega
  · have h6 : Ok (z409 p s m tm t q) (fun r => StrOk (k + 3) r.1 ∧ LI p.Room p.Tries (t + q) r.2.1 done puts.length ∧ r.2.2.1 = t + q ∧ r.2.2.2.1.length ≤ 6 ∧ (∀ y ∈ r.2.2.2.1, y.Id ∉ done ∧ t + q < y.Until) ∧ r.2.2.2.2 = 0) := by
      unfold z409
      refine (Range_ok a2 (by omega) (by omega) (by omega)).bind fun ⟨s3, n⟩ ⟨q1, q2, q3, _⟩ => ?_
      simp only at q1 q2 q3
      have q3 := q3 (by omega)
      obtain ⟨m3, ls, f1, f2, f3, f4⟩ := Fetch2_ok hP hR hm2 (show tm ≤ t + q by omega) (show 0 ≤ t + q ∧ t + q ≤ 10000 by omega) (show 0 ≤ n ∧ n ≤ 100 by omega)
      rw [w]
      simp only [f1, Option.bind_some]
      exact .some ⟨q1, f2, rfl, f3, f4, rfl⟩
    refine h6.bind fun ⟨s3, m3, tm3, ls, e⟩ ⟨q1, q2, q3, q4, q5, q6⟩ => ?_
    simp only at q1 q2 q3 q4 q5 q6
    subst q6 q3
    have h7 : z414 done t q ls 0 = some false := by
      unfold z414
      rw [w, b0o_no (by omega) (by omega) q5]
      simp
    simp only [h7, Option.bind_some, cond_false]
    exact .some ⟨q1.mono (by omega), q2, by omega, by omega, by omega⟩
  · refine (Some_ok a2 (by omega) (by simp) (by simp)).bind fun id _ => ?_
    have a3 := nxt_mk a2 (by omega)
    rcases Answer2_ok hP hm2 (show tm ≤ t + q by omega) (show 0 ≤ t + q ∧ t + q ≤ 10000 by omega) id with ⟨e, he, he0⟩ | ⟨m3, h3, h4⟩
    · have h8 : z419 p m tm t q id = some (m, tm, false) := by
        unfold z419
        rw [w, he]
        simp [he0]
      rw [h8]
      simp only [Option.bind_some, cond_false]
      exact .some ⟨a3.mono (by omega), hm2, by omega, by omega, by omega⟩
    · have h8 : z419 p m tm t q id = some (m3, t + q, true) := by
        unfold z419
        rw [w, h3]
        simp
      rw [h8]
      simp only [Option.bind_some, cond_true]
      exact .gd (lim_ok (by simp; omega)) (.some ⟨a3.mono (by omega), h4, by omega, by simp, by omega⟩)
theorem LettersEnd_true (L : List Int) (hL : L.length ≤ 9223372036854775807) (hI : ∀ n ∈ L, -9223372036854775808 ≤ n ∧ n ≤ 9223372036854775807) : fleetkeep2_LettersEnd L = some true := by
  apply Ok.eq
  unfold fleetkeep2_LettersEnd
  have h0 : StrOk 0 (z453.mk L 0) := ⟨Int.le_refl _, by simp, hL, hI⟩
  refine (RightPost2_ok h0 (by omega)).bind fun p ⟨hP, hr, hR, hcp⟩ => ?_
  have hnew : z198 (api_Post.mk p.Room p.Timeout p.Tries 1000) = some (.inr ()) := by unfold z198; rw [hcp]; rfl
  rw [hnew]
  simp only [Option.bind_some, z389, decide_true, Bool.not_true, cond_false]
  have s4 := nxt_mk (nxt_mk (nxt_mk (nxt_mk h0 (by omega)) (by omega)) (by omega)) (by omega)
  refine (Range_ok s4 (by omega) (by omega) (by omega)).bind fun ⟨s, n⟩ ⟨r1, r2, r3, _⟩ => ?_
  simp only at r1 r2 r3
  have r3 := r3 (by omega)
  have empty : LI p.Room p.Tries 0 [] [] 0 := ⟨⟨⟨List.Pairwise.nil, fun e h => (by cases h), fun e h => (by cases h)⟩, fun e h => (by cases h), fun e h => (by cases h)⟩, fun e h => (by cases h), fun e h => (by cases h), fun e h => (by cases h), by simp [opN]; omega, rfl⟩
  have loop : Ok (loopO (z394 p n) (s, ([] : NM), 0, ([] : List (List UInt8)), 0, ([] : List api_Letter), 0)) (fun r => match r with
      | .inl (m, tm, done, t, puts) => LI p.Room p.Tries t m done puts.length ∧ tm ≤ t ∧ 0 ≤ t ∧ t ≤ 1000 ∧ done.length ≤ 100 ∧ puts.length ≤ 100
      | .inr _ => False) := by
    refine loop_ok (fun q : z453 × NM × Int × List (List UInt8) × Int × List api_Letter × Int => ∃ j : Nat, q.2.2.2.2.2.2 = (j : Int) ∧ j ≤ 16 ∧ StrOk (5 + 10 * j) q.1 ∧ LI p.Room p.Tries q.2.2.2.2.1 q.2.1 q.2.2.2.1 q.2.2.2.2.2.1.length ∧ q.2.2.1 ≤ q.2.2.2.2.1 ∧ 0 ≤ q.2.2.2.2.1 ∧ q.2.2.2.2.1 ≤ 5 * j ∧ q.2.2.2.1.length ≤ j ∧ q.2.2.2.2.2.1.length ≤ j) (fun q => (16 - q.2.2.2.2.2.2).toNat) ?_
      ⟨0, rfl, by omega, by simpa using r1, empty, Int.le_refl _, Int.le_refl _, by simp, by simp, by simp⟩
    rintro ⟨s2, m, tm, done, t, puts, i⟩ ⟨j, rfl, j1, j2, j3, j4, j5, j6, j7, j8⟩
    simp only at j2 j3 j4 j5 j6 j7 j8
    unfold z394
    refine .cond (fun hc => ?_) (fun hc => .some ⟨j3, j4, j5, by omega, by omega, by omega⟩)
    have hc : (j : Int) < n := by simpa using hc
    refine (Pick_ok j2 (by omega) (by simp) (by simp)).bind fun q hq => ?_
    simp at hq
    have hq : 0 ≤ q ∧ q ≤ 5 := by omega
    refine (round_ok hP hr hR j2 (by omega) j3 j4 (show 0 ≤ t ∧ t ≤ 1000 by omega) hq (by omega) (by omega)).bind fun x hx => ?_
    cases x with
    | inr _ => exact hx.elim
    | inl x =>
      obtain ⟨s3, m3, tm3, done3, puts3⟩ := x
      obtain ⟨x1, x2, x3, x4, x5⟩ := hx
      have w : IntKind.wrap .i64 (t + q) = t + q := wrap64 (by omega) (by omega)
      have w1 : IntKind.wrap .i64 ((j : Int) + 1) = ((j + 1 : Nat) : Int) := by rw [wrap64 (by omega) (by omega)]; omega
      obtain ⟨m4, wt, y1, y2, y3⟩ := Waiting2_ok hP x2 x3 (show 0 ≤ t + q ∧ t + q ≤ 10000 by omega)
      have h9 : z424 p t q m3 tm3 = some (m4, t + q, wt, 0) := by
        unfold z424
        rw [w, y1]; rfl
      have h10 : z345 p wt 0 = some false := by
        unfold z345
        have : ¬ p.Room < wt := by omega
        simp [this]
      simp only [h9, h10, Option.bind_some, cond_false, w, w1]
      exact .some ⟨⟨j + 1, rfl, by omega, x1.mono (by omega), y2, by simp only; omega, by simp only; omega, by simp only; omega, by simp only; omega, by simp only; omega⟩, by simp only; omega⟩
  refine loop.bind fun x hx => ?_
  cases x with
  | inr _ => exact hx.elim
  | inl x =>
    obtain ⟨m, tm, done, t, puts⟩ := x
    obtain ⟨h1, h2, h3, h4, h5, h6⟩ := hx
    have we : IntKind.wrap .i64 (t + 1000) = t + 1000 := wrap64 (by omega) (by omega)
    have hM := li_age (u := t + 1000) hP.T.1 h1 (by omega)
    have hend := ended_all (t := t + 1000) hP.T.1 h1 (Int.le_refl _)
    obtain ⟨ls, n1, n2, n3⟩ := Notes2_ok (a := p.Room) hP h1.off.ok (show tm ≤ t + 1000 by omega) hM.off.ok (show 0 ≤ t + 1000 ∧ t + 1000 ≤ 10000 by omega)
    have e11 : z350 p m tm t = some (ageM p.Timeout p.Tries 1000 (t + 1000) m, t + 1000, 0, ls) := by
      unfold z350
      rw [we, n1]; rfl
    have hwk := Wake2_ok (a := p.Room) hP hM.off.ok (show 0 ≤ t + 1000 ∧ t + 1000 ≤ 10000 by omega) (Int.le_refl (t + 1000)) (by rw [age_age hP.T.1 (Int.le_refl _) h1.off.ok]; exact hM.off.ok) (by rw [age_age hP.T.1 (Int.le_refl _) h1.off.ok]; exact hend)
    have e16 : z375 p t (ageM p.Timeout p.Tries 1000 (t + 1000) m) (t + 1000) = some (0, -1) := by
      unfold z375
      rw [we, hwk]; rfl
    have hlen : ls.length = puts.length := by rw [n2.length_eq, List.length_map]; exact hM.len
    have hl6 : ls.length ≤ 6 := by rw [n2.length_eq, List.length_map]; exact hM.off.ok.len
    have e12 : z355 puts 0 ls = some false := by
      unfold z355
      simp [hlen]
    have hin : ∀ y ∈ ls, ∃ e ∈ ageM p.Timeout p.Tries 1000 (t + 1000) m, e.2 = y := fun y hy => List.mem_map.1 (n2.mem_iff.1 hy)
    have e13 : loopO (z360 p done ls) 0 = some (.inl ()) := by
      rw [range_loop (l := ls) (fun _ _ => none) (.inl ()) (by omega)]
      · have : ∀ (k : Nat) (m : List api_Note), scan (fun (_ : Nat) (_ : api_Note) => (none : Option (Unit ⊕ Unit))) k m = none := fun k m => scan_none.2 fun _ _ _ => rfl
        rw [this]; rfl
      · intro i hi
        have hc : (i : Int) < ls.length := by omega
        obtain ⟨e, he, hey⟩ := hin _ (List.getElem_mem hi)
        have q1 := hM.ni e he
        have q2 := hM.dn e he
        have q3 := hM.off.ok.nb e he
        have q4 := hM.off.ok.key e he
        have q5 := hend e he
        unfold endB at q5
        rw [decide_eq_true_iff] at q5
        rw [hey] at q1 q2 q3 q4 q5
        have x14 : z365 ls[i] = some true := by
          unfold z365
          have := q3.st.2
          simp [q5, this]
        have x15 : z370 p done ls[i] true = some false := by
          unfold z370
          have z1 : ¬ ls[i].Letter.Until < ls[i].Since := by have := q1.s2; omega
          have z2 : ¬ ls[i].Since < ls[i].Letter.At := by have := q1.s1; omega
          have z3 : ¬ p.Tries < ls[i].Tries := by have := q1.t1; omega
          rw [containsS_eq _ _ (by omega), q4.1]
          simp only [z1, z2, z3, decide_false, cond_false, Bool.not_true, Option.bind_some, Option.some.injEq]
          by_cases z4 : ls[i].State = 3
          · simp [z4, q2.1 z4]
          · have : e.1 ∉ done := fun h => z4 (q2.2 h)
            simp [z4, this]
        unfold z360
        simp only [hc, decide_true, cond_true, at_nat hi, Option.bind_some, x14, x15, cond_false]
      · unfold z360; simp
    have e17 : z380 ls 0 (-1) = some true := by
      unfold z380
      rw [CheckNotes2_ok hR.2 hl6 (fun y hy => by
        obtain ⟨e, he, rfl⟩ := hin y hy
        exact ⟨hM.ni e he, hM.off.ok.nb e he⟩) n3]
      simp [ready_eq]
    simp only [e11, Option.bind_some, e12, cond_false, e13, e16, e17]
    exact .some rfl
end Go.Eng

