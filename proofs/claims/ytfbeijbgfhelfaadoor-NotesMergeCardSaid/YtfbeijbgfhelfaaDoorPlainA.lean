/-
What the plain functions of the law NotesMerge answer, part 1.
-/
import Derived.Test.YtfbeijbgfhelfaaDoorGenF
import Derived.KernelRfl
import Derived.Test.YtfbeijbgfhelfaaDoorEngV
/-
Plain functions: what they answer, in total. Loops by an invariant and a measure.
-/
namespace Go.Eng
open Go
set_option linter.unusedVariables false
set_option linter.unusedSimpArgs false

def Ok {α : Type} (x : Option α) (P : α → Prop) : Prop := ∃ r, x = some r ∧ P r
section
variable {α β σ ρ : Type} {P Q : α → Prop} {R : β → Prop}
theorem Ok.some {r : α} (h : P r) : Ok (some r) P := ⟨r, rfl, h⟩
theorem Ok.mono {x : Option α} (h : Ok x P) (hq : ∀ r, P r → Q r) : Ok x Q := let ⟨r, h1, h2⟩ := h; ⟨r, h1, hq r h2⟩
theorem Ok.bind {x : Option α} {f : α → Option β} (h : Ok x P) (hf : ∀ r, P r → Ok (f r) R) : Ok (x.bind f) R := by
  obtain ⟨r, rfl, hr⟩ := h
  exact hf r hr
theorem Ok.cond {b : Bool} {x y : Option α} (ht : b = true → Ok x P) (hf : b = false → Ok y P) : Ok (cond b x y) P := by
  cases b
  · exact hf rfl
  · exact ht rfl
theorem Ok.gd {b : Bool} {x : Option α} (hb : b = true) (h : Ok x P) : Ok (gd b x) P := by
  subst hb; exact h
theorem Ok.eq {x : Option α} {r : α} (h : Ok x fun y => y = r) : x = Option.some r := by
  obtain ⟨y, h1, h2⟩ := h
  rw [h1, h2]
theorem Ok.of_eq {x : Option α} {r : α} (h : x = Option.some r) (hp : P r) : Ok x P := ⟨r, h, hp⟩

theorem loop_ok {f : σ → Option (σ ⊕ ρ)} {Q : ρ → Prop} (I : σ → Prop) (μ : σ → Nat)
    (step : ∀ s, I s → Ok (f s) fun x => match x with | .inl s' => I s' ∧ μ s' < μ s | .inr r => Q r) {s : σ} (h : I s) : Ok (loopO f s) Q := by
  generalize hn : μ s = n
  induction n using Nat.strongRecOn generalizing s with
  | _ n ih =>
    obtain ⟨x, h1, h2⟩ := step s h
    cases x with
    | inl s' =>
      obtain ⟨h3, h4⟩ := h2
      obtain ⟨r, h5, h6⟩ := ih (μ s') (by omega) h3 rfl
      refine ⟨r, ?_, h6⟩
      rw [loopO_eq, h1]
      exact h5
    | inr r =>
      refine ⟨r, ?_, h2⟩
      rw [loopO_eq, h1]
      rfl

theorem at_lt {l : List α} {n : Int} (h : 0 ≤ n) (h2 : n < l.length) : at? l n = Option.some (l[n.toNat]'(by omega)) := by
  unfold at?
  rw [if_pos h, List.getElem?_eq_getElem]
theorem at_nat {l : List α} {n : Nat} (h : n < l.length) : at? l (n : Int) = Option.some l[n] := by
  rw [at_lt (by omega) (by omega)]
  simp
theorem at_ok {l : List α} {n : Int} (h : 0 ≤ n) (h2 : n < l.length) : Ok (at? l n) (fun y => l[n.toNat]? = Option.some y) := by
  refine ⟨_, at_lt h h2, ?_⟩
  rw [List.getElem?_eq_getElem]
theorem at_mem {l : List α} {n : Int} (h : 0 ≤ n) (h2 : n < l.length) : Ok (at? l n) (fun y => y ∈ l) := by
  refine (at_ok h h2).mono fun y hy => List.mem_of_getElem? hy
end

/-! ### Integers of 64 bits -/
def I64 (n : Int) : Prop := -9223372036854775808 ≤ n ∧ n ≤ 9223372036854775807
theorem wrap64 {n : Int} (h : -9223372036854775808 ≤ n) (h2 : n ≤ 9223372036854775807) : IntKind.wrap .i64 n = n := by
  unfold IntKind.wrap
  simp [IntKind.min, IntKind.max, IntKind.bits, IntKind.signed]
  omega
theorem tmod_nonneg {a b : Int} (h : 0 ≤ a) : 0 ≤ a.tmod b := Int.tmod_nonneg b h
theorem tmod_lt' {a b : Int} (h : 0 < b) : a.tmod b < b := Int.tmod_lt_of_pos a h
theorem lim_eq : LIM = 137438953472 := by decide
theorem ble_lim {n : Nat} (h : n ≤ 137438953472) : Nat.ble n LIM = true := by rw [Nat.ble_eq, lim_eq]; exact h
end Go.Eng

/-
Loops over the elements of a list; keys.
-/
namespace Go.Eng
open Go
set_option linter.unusedVariables false
set_option linter.unusedSimpArgs false

/-- The first answer of the elements from number k on. -/
def scan {α ρ : Type} (g : Nat → α → Option ρ) : Nat → List α → Option ρ
  | _, [] => none
  | k, x :: xs => match g k x with
    | some r => some r
    | none => scan g (k + 1) xs

theorem drop_get {α : Type} {l : List α} {i : Nat} (h : i < l.length) : l.drop i = l[i] :: l.drop (i + 1) := List.drop_eq_getElem_cons h

/-- A loop over a list that ends at the first element with an answer. -/
theorem range_loop {α ρ : Type} {l : List α} {f : Int → Option (Int ⊕ ρ)} (g : Nat → α → Option ρ) (done : ρ) (hl : (l.length : Int) ≤ 9223372036854775807)
    (hf : ∀ (i : Nat) (h : i < l.length), f i = some (match g i l[i] with | none => .inl (IntKind.wrap .i64 (i + 1)) | some r => .inr r)) (hd : f l.length = some (.inr done)) :
    loopO f 0 = some ((scan g 0 l).getD done) := by
  have key : ∀ (n i : Nat), l.length - i = n → i ≤ l.length → loopO f i = some ((scan g i (l.drop i)).getD done) := by
    intro n
    induction n with
    | zero =>
      intro i h1 h2
      have : i = l.length := by omega
      subst this
      rw [loopO_eq, hd, List.drop_length]
      rfl
    | succ n ih =>
      intro i h1 h2
      have hi : i < l.length := by omega
      rw [loopO_eq, hf i hi, drop_get hi]
      simp only [scan]
      cases hg : g i l[i] with
      | some r => rfl
      | none =>
        simp only [Option.bind_some]
        rw [wrap64 (by omega) (by omega)]
        exact ih (i + 1) (by omega) (by omega)
  exact key l.length 0 (by omega) (by omega)

theorem scan_none {α ρ : Type} {g : Nat → α → Option ρ} : ∀ {l : List α} {k : Nat}, scan g k l = none ↔ ∀ (i : Nat) (x : α), l[i]? = some x → g (k + i) x = none
  | [], k => by simp [scan]
  | y :: l, k => by
    simp only [scan]
    cases hg : g k y with
    | some r =>
      simp only [reduceCtorEq, false_iff]
      intro h
      have := h 0 y rfl
      rw [Nat.add_zero, hg] at this
      cases this
    | none =>
      simp only
      rw [scan_none]
      constructor
      · intro h i x hi
        cases i with
        | zero => simp at hi; subst hi; exact hg
        | succ i => rw [show k + (i + 1) = k + 1 + i by omega]; exact h i x (by simpa using hi)
      · intro h i x hi
        rw [show k + 1 + i = k + (i + 1) by omega]
        exact h (i + 1) x (by simpa using hi)
/-! ### Keys -/
end Go.Eng

/-
Small checks; the order of measurements.
-/
namespace Go.Eng
open Go
set_option linter.unusedVariables false
set_option linter.unusedSimpArgs false

theorem Out_eq (n low high : Int) : base_Out n low high = some (decide (n < low) || decide (high < n)) := by
  unfold base_Out base_Out_x1
  by_cases h : n < low <;> simp [h]
theorem Moment_eq (n : Int) : base_Moment n = some (decide (0 ≤ n) && decide (n ≤ 345686399999)) := by
  unfold base_Moment
  rw [Out_eq]
  simp only [Option.bind_some]
  congr 1
  rw [Bool.eq_iff_iff]
  simp
/-! ### Orders -/
def cmpI (a b : Int) : Int := if a < b then -1 else if b < a then 1 else 0
def or0 (a b : Int) : Int := if a = 0 then b else a
theorem cmpB_self : ∀ a : List UInt8, Lib.compareBytes a a = 0
  | [] => rfl
  | x :: a => by
    unfold Lib.compareBytes
    simp [UInt8.lt_irrefl, cmpB_self a]
theorem cmpB_anti : ∀ a b : List UInt8, Lib.compareBytes b a = -Lib.compareBytes a b
  | [], [] => rfl
  | [], _ :: _ => rfl
  | _ :: _, [] => rfl
  | x :: a, y :: b => by
    unfold Lib.compareBytes
    by_cases h1 : x < y
    · have h2 : ¬ y < x := UInt8.lt_asymm h1
      simp [h1, h2]
    · by_cases h2 : y < x
      · simp [h1, h2]
      · simp [h1, h2, cmpB_anti a b]
theorem cmpB_zero : ∀ {a b : List UInt8}, Lib.compareBytes a b = 0 ↔ a = b
  | [], [] => by simp [Lib.compareBytes]
  | [], _ :: _ => by simp [Lib.compareBytes]
  | _ :: _, [] => by simp [Lib.compareBytes]
  | x :: a, y :: b => by
    unfold Lib.compareBytes
    by_cases h1 : x < y
    · have : x ≠ y := fun h => UInt8.lt_irrefl y (h ▸ h1)
      simp [h1, this]
    · by_cases h2 : y < x
      · have : x ≠ y := fun h => UInt8.lt_irrefl x (by rw [h] at h2 ⊢; exact h2)
        simp [h1, h2, this]
      · have : x = y := UInt8.le_antisymm (UInt8.not_lt.1 h2) (UInt8.not_lt.1 h1)
        simp [h1, h2, cmpB_zero (a := a) (b := b), this]
theorem cmpB_less : ∀ a b : List UInt8, Op.bytesLess a b = decide (Lib.compareBytes a b < 0)
  | [], [] => rfl
  | [], _ :: _ => rfl
  | _ :: _, [] => rfl
  | x :: a, y :: b => by
    unfold Lib.compareBytes
    rw [Op.bytesLess]
    by_cases h1 : x < y
    · simp [h1]
    · by_cases h2 : y < x
      · have h3 : ¬ x = y := fun h => UInt8.lt_irrefl x (by rw [h] at h2 ⊢; exact h2)
        simp [h1, h2, h3]
      · have h3 : x = y := UInt8.le_antisymm (UInt8.not_lt.1 h2) (UInt8.not_lt.1 h1)
        simp [h1, h2, h3, cmpB_less a b]
end Go.Eng

/-
Checks of measurements and series, both ways.
-/
namespace Go.Eng
open Go
set_option linter.unusedVariables false
set_option linter.unusedSimpArgs false

theorem cmpInt_eq (a b : Int) : cmp_Compare_int a b = some (cmpI a b) := by
  unfold cmp_Compare_int cmp_isNaN_int cmpI
  by_cases h1 : a < b
  · simp [h1]
  · by_cases h2 : b < a <;> simp [h1, h2]
theorem Or_eq (l : List Int) (hl : (l.length : Int) ≤ 9223372036854775807) : cmp_Or_int l = some ((l.find? fun x => !decide (x = 0)).getD 0) := by
  unfold cmp_Or_int
  rw [range_loop (l := l) (fun _ x => cond (!decide (x = 0)) (some (.inr x)) none) (.inl ()) hl]
  · simp only [Option.bind_some]
    generalize 0 = k
    induction l generalizing k with
    | nil => rfl
    | cons c s ih =>
      simp only [scan, List.find?_cons]
      by_cases hc : c = 0
      · simp only [hc, decide_true, Bool.not_true, cond_false]
        exact ih (by simp at hl; omega) (k + 1)
      · simp [hc]
  · intro i hi
    unfold cmp_Or_int_x1
    rw [at_nat hi]
    have : ((i : Int) < l.length) := by omega
    simp only [this, decide_true, cond_true, Option.bind_some]
    cases (!decide (l[i] = 0)) <;> rfl
  · unfold cmp_Or_int_x1
    simp
/-! ### Check -/
end Go.Eng

/-
Sorting of few elements, and what is left of equal ones, for all kinds of elements.
-/
namespace Go.Eng
open Go
set_option linter.unusedVariables false
set_option linter.unusedSimpArgs false

theorem loop_in {σ ρ : Type} {f : σ → Option (σ ⊕ ρ)} {s s' : σ} (h : f s = some (.inl s')) : loopO f s = loopO f s' := by rw [loopO_eq, h]; rfl
theorem loop_out {σ ρ : Type} {f : σ → Option (σ ⊕ ρ)} {s : σ} {r : ρ} (h : f s = some (.inr r)) : loopO f s = some r := by rw [loopO_eq, h]; rfl

section
variable {α : Type}
/-! ### Insertion, as the code has it -/
noncomputable def gI3 (cmp : α → α → Option Int) (qa : Int) (vl3 : List α) (vj1 : Int) : Option (Bool) :=
  cond (decide (qa < vj1))
    ((at? vl3 vj1).bind fun vy15 =>
    (at? vl3 (IntKind.wrap .i64 (vj1 - 1))).bind fun vy16 =>
    (cmp vy15 vy16).bind fun vr1_3 =>
    some (decide (vr1_3 < 0)))
    (some false)
noncomputable def gI2 (cmp : α → α → Option Int) (qa : Int) : (List α) × Int → Option (((List α) × Int) ⊕ ((List α)))
  | (vl3, vj1) =>
  (gI3 cmp qa vl3 vj1).bind fun vx4_1 =>
  cond (vx4_1)
    ((at? vl3 (IntKind.wrap .i64 (vj1 - 1))).bind fun vy17 =>
    (at? vl3 vj1).bind fun vy18 =>
    (at? (vl3.set vj1.toNat vy17) (IntKind.wrap .i64 (vj1 - 1))).bind fun vy19 =>
    some (.inl ((vl3.set vj1.toNat vy17).set (IntKind.wrap .i64 (vj1 - 1)).toNat vy18, IntKind.wrap .i64 (vj1 - 1))))
    (some (.inr vl3))
noncomputable def gI1 (cmp : α → α → Option Int) (qa : Int) (qb : Int) : (List α) × Int → Option (((List α) × Int) ⊕ ((List α)))
  | (vl, vi) =>
  cond (decide (vi < qb))
    ((loopO (gI2 cmp qa) (vl, vi)).bind fun vl4_1 =>
    some (.inl (vl4_1, IntKind.wrap .i64 (vi + 1))))
    (some (.inr vl))
noncomputable def gI (cmp : α → α → Option Int) (qdata : List α) (qa : Int) (qb : Int) : Option ((List α)) :=
  (loopO (gI1 cmp qa qb) (qdata, IntKind.wrap .i64 (qa + 1))).bind fun vl5_1 =>
  some vl5_1
def All (p : α → Prop) (l : List α) : Prop := ∀ x ∈ l, p x
theorem All.nil {p : α → Prop} : All p [] := fun _ h => nomatch h
theorem All.set {p : α → Prop} {l : List α} (h : All p l) {i : Nat} {x : α} (hx : p x) : All p (l.set i x) := by
  intro y hy
  rcases List.mem_or_eq_of_mem_set hy with hy | rfl
  · exact h y hy
  · exact hx
theorem All.at {p : α → Prop} {l : List α} (h : All p l) {i : Nat} (hi : i < l.length) : p l[i] := h _ (List.getElem_mem hi)

/-! ### Equal ones, as the code has it -/
end
end Go.Eng

/-
Insertion sorts; what is left of equal ones rises.
-/
namespace Go.Eng
open Go
set_option linter.unusedVariables false
set_option linter.unusedSimpArgs false
section
variable {α : Type}
/-- the first n are in order -/
def Ord (f : α → α → Int) (l : List α) (n : Nat) : Prop := ∀ p q (hp : p < q) (hq : q < n) (hn : n ≤ l.length), f (l[p]'(by omega)) (l[q]'(by omega)) ≤ 0

theorem gI2_ord {P : α → Prop} {f : α → α → Int} {c : α → α → Option Int} (hc : ∀ x y, P x → P y → c x y = some (f x y)) (anti : ∀ x y, f y x = - f x y) (tr : ∀ x y z, f x y ≤ 0 → f y z ≤ 0 → f x z ≤ 0)
    {n : Nat} (hn : n ≤ 100000) {l : List α} (hl : l.length = n) (hP : All P l) {i : Nat} (hi : i < n) (ho : Ord f l i) :
    Ok (loopO (gI2 c 0) (l, (i : Int))) (fun r => r.length = n ∧ All P r ∧ Ord f r (i + 1)) := by
  refine loop_ok (fun s : List α × Int => s.1.length = n ∧ All P s.1 ∧ ∃ j : Nat, s.2 = (j : Int) ∧ j ≤ i ∧ ∀ p q (hp : p < q) (hq : q ≤ i) (hqj : q ≠ j) (hs : i < s.1.length), f (s.1[p]'(by omega)) (s.1[q]'(by omega)) ≤ 0) (fun s => s.2.toNat) ?_
    ⟨hl, hP, i, rfl, Nat.le_refl _, fun p q hp hq hqj hs => ho p q hp (by omega) (by simp only at hs; omega)⟩
  rintro ⟨m, q⟩ ⟨m1, m2, j, rfl, j1, j2⟩
  simp only at m1 m2 j2
  unfold gI2 gI3
  by_cases hj : (0 : Int) < j
  · have w1 : IntKind.wrap .i64 ((j : Int) - 1) = ((j - 1 : Nat) : Int) := by rw [wrap64 (by omega) (by omega)]; omega
    have hjm : j < m.length := by omega
    have hjm1 : j - 1 < m.length := by omega
    have hy := m2 _ (List.getElem_mem hjm)
    have hx := m2 _ (List.getElem_mem hjm1)
    simp only [hj, decide_true, cond_true, w1, at_nat hjm, at_nat hjm1, Option.bind_some, hc _ _ hy hx]
    refine .cond (fun hlt => ?_) (fun hge => ?_)
    · have hlt := of_decide_eq_true hlt
      have g3 : at? (m.set (j : Int).toNat m[j - 1]) ((j - 1 : Nat) : Int) = some m[j - 1] := by
        rw [at_nat (by simp; omega)]
        simp only [Int.toNat_natCast, List.getElem_set]
        rw [if_neg (by omega)]
      rw [g3]
      simp only [Option.bind_some, Int.toNat_natCast]
      refine .some ⟨⟨by simp [m1], (m2.set hx).set hy, j - 1, rfl, by omega, ?_⟩, by simp only; omega⟩
      intro p q hp hq hqj hs
      simp only [List.getElem_set]
      have hin : i < m.length := by omega
      by_cases q1 : q = j
      · subst q1
        by_cases p1 : p = q - 1
        · subst p1
          have e1 : ¬ (q - 1 = q) := by omega
          simp only [e1, if_true, if_false]
          omega
        · have e1 : ¬ (q - 1 = p) := by omega
          have e2 : ¬ (q = p) := by omega
          have e3 : ¬ (q - 1 = q) := by omega
          simp only [e1, e2, e3, if_true, if_false]
          exact j2 p (q - 1) (by omega) (by omega) (by omega) hin
      · have e4 : ¬ (j = q) := by omega
        have e5 : ¬ (j - 1 = q) := by omega
        simp only [e4, e5, if_false]
        by_cases p1 : p = j - 1
        · subst p1
          simp only [if_true]
          exact j2 j q (by omega) hq q1 hin
        · by_cases p2 : p = j
          · subst p2
            have e6 : ¬ (p - 1 = p) := by omega
            simp only [e6, if_true, if_false]
            exact j2 (p - 1) q (by omega) hq q1 hin
          · have e7 : ¬ (j - 1 = p) := by omega
            have e8 : ¬ (j = p) := by omega
            simp only [e7, e8, if_false]
            exact j2 p q hp hq q1 hin
    · have hge := of_decide_eq_false hge
      refine .some ⟨m1, m2, fun p q hp hq hs => ?_⟩
      have hin : i < m.length := by omega
      by_cases q1 : q = j
      · subst q1
        have h0 : f m[q - 1] m[q] ≤ 0 := by have := anti m[q] m[q - 1]; omega
        by_cases p1 : p = q - 1
        · subst p1; exact h0
        · exact tr _ _ _ (j2 p (q - 1) (by omega) (by omega) (by omega) hin) h0
      · exact j2 p q hp (by omega) q1 hin
  · have hj' : ¬ (0 : Int) < j := hj
    have j0 : j = 0 := by omega
    subst j0
    simp only [hj', decide_false, cond_false, Option.bind_some]
    exact .some ⟨m1, m2, fun p q hp hq hs => j2 p q hp (by omega) (by omega) (by omega)⟩
theorem gI_ord {P : α → Prop} {f : α → α → Int} {c : α → α → Option Int} (hc : ∀ x y, P x → P y → c x y = some (f x y)) (anti : ∀ x y, f y x = - f x y) (tr : ∀ x y z, f x y ≤ 0 → f y z ≤ 0 → f x z ≤ 0)
    {l : List α} (hl : l.length ≤ 100000) (hP : All P l) : Ok (gI c l 0 l.length) (fun r => r.length = l.length ∧ All P r ∧ Ord f r l.length) := by
  unfold gI
  have w : IntKind.wrap .i64 ((0 : Int) + 1) = 1 := by decide
  rw [w]
  refine Ok.bind (P := fun r : List α => r.length = l.length ∧ All P r ∧ Ord f r l.length) (loop_ok (fun s : List α × Int => s.1.length = l.length ∧ All P s.1 ∧ ∃ i : Nat, s.2 = (i : Int) ∧ 1 ≤ i ∧ Ord f s.1 (min i l.length)) (fun s => ((l.length : Int) - s.2).toNat) ?_
    ⟨rfl, hP, 1, rfl, by omega, fun p q hp hq hn => by omega⟩) fun r hr => .some hr
  rintro ⟨m, q⟩ ⟨m1, m2, i, rfl, i1, i2⟩
  simp only at m1 m2 i2
  unfold gI1
  by_cases hi : i < l.length
  · have hi' : (i : Int) < l.length := by omega
    have w1 : IntKind.wrap .i64 ((i : Int) + 1) = ((i + 1 : Nat) : Int) := by rw [wrap64 (by omega) (by omega)]; omega
    simp only [hi', decide_true, cond_true]
    rw [Nat.min_eq_left (by omega)] at i2
    refine (gI2_ord hc anti tr (n := l.length) hl m1 m2 hi i2).bind fun r hr => ?_
    rw [w1]
    refine .some ⟨⟨hr.1, hr.2.1, i + 1, rfl, by omega, ?_⟩, by simp only; omega⟩
    rw [Nat.min_eq_left (by omega)]
    exact hr.2.2
  · have hi' : ¬ (i : Int) < l.length := by omega
    simp only [hi', decide_false, cond_false]
    rw [Nat.min_eq_right (by omega)] at i2
    exact .some ⟨m1, m2, i2⟩
end
end Go.Eng

/-
Loops that only gather.
-/
namespace Go.Eng
open Go
set_option linter.unusedVariables false
set_option linter.unusedSimpArgs false

end Go.Eng

/-
What the laws ask of each package once.
-/
namespace Go.Eng
open Go
end Go.Eng

/-
Twins: the order of names and of stamps; sorted cells as tables; merging.
-/
namespace Go.Eng
open Go
set_option linter.unusedVariables false
set_option linter.unusedSimpArgs false

/-! ### Orders -/
theorem cmpB_tr : ∀ {a b c : List UInt8}, Lib.compareBytes a b ≤ 0 → Lib.compareBytes b c ≤ 0 → Lib.compareBytes a c ≤ 0
  | [], [], c, _, h => h
  | [], _ :: _, [], _, _ => by simp [Lib.compareBytes]
  | [], _ :: _, _ :: _, _, _ => by simp [Lib.compareBytes]
  | _ :: _, [], _, h, _ => by simp [Lib.compareBytes] at h
  | _ :: _, _ :: _, [], _, h => by simp [Lib.compareBytes] at h
  | x :: a, y :: b, z :: c, h1, h2 => by
    unfold Lib.compareBytes at *
    by_cases xy : x < y
    · by_cases yz : y < z
      · simp [UInt8.lt_trans xy yz]
      · by_cases zy : z < y
        · simp [yz, zy] at h2
        · have e : y = z := UInt8.le_antisymm (UInt8.not_lt.1 zy) (UInt8.not_lt.1 yz)
          subst e; simp [xy]
    · by_cases yx : y < x
      · simp [xy, yx] at h1
      · have e : x = y := UInt8.le_antisymm (UInt8.not_lt.1 yx) (UInt8.not_lt.1 xy)
        subst e
        simp only [xy, if_false] at h1
        by_cases xz : x < z
        · simp [xz]
        · by_cases zx : z < x
          · simp [xz, zx] at h2
          · simp only [xz, zx, if_false] at h2 ⊢
            exact cmpB_tr h1 h2
/-- one name is ahead of another one -/
def nlt (a b : List UInt8) : Prop := Lib.compareBytes a b < 0
theorem nlt_irrefl (a : List UInt8) : ¬ nlt a a := by unfold nlt; rw [cmpB_self]; omega
theorem nlt_trans {a b c : List UInt8} (h1 : nlt a b) (h2 : nlt b c) : nlt a c := by
  unfold nlt at *
  have h := cmpB_tr (a := a) (b := b) (c := c) (by omega) (by omega)
  by_cases h0 : Lib.compareBytes a c = 0
  · have := cmpB_zero.1 h0
    subst this
    have := cmpB_anti a b
    omega
  · omega
theorem nlt_asymm {a b : List UInt8} (h : nlt a b) : ¬ nlt b a := fun h2 => nlt_irrefl a (nlt_trans h h2)
theorem nlt_ne {a b : List UInt8} (h : nlt a b) : a ≠ b := fun e => nlt_irrefl b (e ▸ h)
theorem cmpB_cases (a b : List UInt8) : nlt a b ∨ a = b ∨ nlt b a := by
  unfold nlt
  have := cmpB_anti a b
  by_cases h0 : Lib.compareBytes a b = 0
  · exact .inr (.inl (cmpB_zero.1 h0))
  · omega
theorem cmp_pos {a b : List UInt8} : 0 < Lib.compareBytes a b ↔ nlt b a := by unfold nlt; have := cmpB_anti a b; omega

theorem or0_zero {a b : Int} : or0 a b = 0 ↔ a = 0 ∧ b = 0 := by unfold or0; split <;> omega
/-! ### Sorted cells -/
/-! ### Merging -/
end Go.Eng

/-
Twins: the code's merging and checks are those of tables.
-/
namespace Go.Eng
open Go
set_option linter.unusedVariables false
set_option linter.unusedSimpArgs false

theorem sub_tail {α : Type} (x : α) (a : List α) : sub? (x :: a) 1 (((x :: a).length : Nat) : Int) = some a := by
  unfold sub?
  rw [if_pos ⟨by omega, by simp; omega, by omega⟩]
  simp
theorem at_zero {α : Type} (x : α) (a : List α) : at? (x :: a) 0 = some x := rfl
theorem lim_ok {n : Nat} (h : n ≤ 100000) : Nat.ble n LIM = true := ble_lim (by omega)

/-! ### Checks -/
end Go.Eng

/-
Twins: merging in any order; what is visible.
-/
namespace Go.Eng
open Go
set_option linter.unusedVariables false
set_option linter.unusedSimpArgs false

/-! ### Merging in any order -/
end Go.Eng

/-
Twins: what is visible; checks of properties; searching.
-/
namespace Go.Eng
open Go
set_option linter.unusedVariables false
set_option linter.unusedSimpArgs false

/-! ### Names below names -/
/-! ### What hides what -/
/-! ### Searching -/
/-! ### Checks of properties -/
/-! ### Equal rows -/
end Go.Eng

/-
What is left of a sorted row, each key once.
-/
namespace Go.Eng
open Go
set_option linter.unusedVariables false
set_option linter.unusedSimpArgs false
section
variable {α : Type}
end
end Go.Eng

/-
The streams.
-/
namespace Go.Eng
open Go
set_option linter.unusedVariables false
set_option linter.unusedSimpArgs false

theorem wrap_I64 (n : Int) : I64 (IntKind.wrap .i64 n) := by
  unfold IntKind.wrap I64
  simp [IntKind.bits, IntKind.signed]
  split <;> omega

theorem Below_eq {x n : Int} (hx : I64 x) (hn : I64 n) : fleetmake_Below x n = some (if n < 1 then 0 else x % n) := by
  unfold I64 at hx hn
  unfold fleetmake_Below fleetmake_Below_x1
  by_cases h : n < 1
  · simp [h]
  · have h0 : (n == 0) = false := by simp; omega
    have e := Int.emod_eq_tmod (a := x) (b := n)
    have nn := Int.emod_nonneg x (show n ≠ 0 by omega)
    have lt := Int.emod_lt_of_pos x (show 0 < n by omega)
    simp only [h, decide_false, cond_false, h0, Bool.not_false, gd, cond_true, Option.bind_some, if_false]
    by_cases h3 : x.tmod n < 0
    · simp only [h3, decide_true, cond_true, Option.bind_some]
      split at e
      · omega
      · rw [wrap64 (by omega) (by omega)]
        congr 1
        omega
    · simp only [h3, decide_false, cond_false, Option.bind_some]
      congr 1
      split at e <;> omega
theorem Below_ok {x n : Int} (hx : I64 x) (hn : I64 n) : Ok (fleetmake_Below x n) (fun r => (1 ≤ n → 0 ≤ r ∧ r < n) ∧ (n < 1 → r = 0)) := by
  refine .of_eq (Below_eq hx hn) ⟨fun h => ?_, fun h => by simp [h]⟩
  rw [if_neg (by omega)]
  exact ⟨Int.emod_nonneg _ (by omega), Int.emod_lt_of_pos _ (by omega)⟩

/-- A stream whose numbers are of 64 bits, of which at most k were taken. -/
def StrOk (k : Nat) (s : fleetmake_Stream) : Prop := 0 ≤ s.at_ ∧ s.at_ ≤ k ∧ s.L.length ≤ 9223372036854775807 ∧ ∀ n ∈ s.L, I64 n
theorem StrOk.mono {k k' : Nat} {s : fleetmake_Stream} (h : StrOk k s) (hk : k ≤ k') : StrOk k' s := ⟨h.1, by have := h.2.1; omega, h.2.2⟩
/-- One number further. -/
abbrev nxt (s : fleetmake_Stream) : fleetmake_Stream := fleetmake_Stream.mk s.L (IntKind.wrap .i64 (s.at_ + 1))
theorem StrOk.nxt {k : Nat} {s : fleetmake_Stream} (h : StrOk k s) (hk : k < 1099511627776) : StrOk (k + 1) (nxt s) := by
  obtain ⟨h1, h2, h3, h4⟩ := h
  refine ⟨?_, ?_, h3, h4⟩
  · show 0 ≤ IntKind.wrap .i64 (s.at_ + 1)
    rw [wrap64 (by omega) (by omega)]; omega
  · show IntKind.wrap .i64 (s.at_ + 1) ≤ _
    rw [wrap64 (by omega) (by omega)]; omega

theorem Next_ok {k : Nat} {s : fleetmake_Stream} {n : Int} (h : StrOk k s) (hk : k < 1099511627776) (hn : I64 n) : Ok (fleetmake_Stream_Next s n) (fun r => (1 ≤ n → 0 ≤ r ∧ r < n) ∧ (n < 1 → r = 0)) := by
  obtain ⟨h1, h2, h3, h4⟩ := h
  unfold fleetmake_Stream_Next
  refine .cond (fun _ => ?_) (fun hl => ?_)
  · exact (Below_ok (wrap_I64 _) hn).bind fun r hr => .some hr
  · have hl' : s.L.length ≠ 0 := by simpa using hl
    have e1 : IntKind.wrap .i64 (s.at_ + 1) = s.at_ + 1 := wrap64 (by omega) (by omega)
    have e2 : IntKind.wrap .i64 (s.at_ + 1 - 1) = s.at_ := by rw [wrap64 (by omega) (by omega)]; omega
    refine .gd (by simpa using hl') ?_
    rw [e1, e2]
    refine (at_mem (tmod_nonneg h1) (tmod_lt' (by omega))).bind fun y hy => ?_
    refine (Below_ok (h4 y hy) (by unfold I64; omega)).bind fun r1 hr1 => ?_
    exact (Below_ok (wrap_I64 _) hn).bind fun r hr => .some hr

theorem Pick_ok {k : Nat} {s : fleetmake_Stream} {l : List Int} (h : StrOk k s) (hk : k < 1099511627776) (hl : 0 < l.length) (hl2 : l.length < 1000) : Ok (fleetmake_Stream_Pick_o1 s l) (fun r => r ∈ l) := by
  unfold fleetmake_Stream_Pick_o1
  refine (Next_ok h hk (by unfold I64; omega)).bind fun r hr => ?_
  have := hr.1 (by omega)
  exact (at_mem this.1 this.2).bind fun y hy => .some hy
theorem Some_ok {k : Nat} {s : fleetmake_Stream} {l : List (List UInt8)} (h : StrOk k s) (hk : k < 1099511627776) (hl : 0 < l.length) (hl2 : l.length < 1000) : Ok (fleetmake_Stream_Some_o1 s l) (fun r => r ∈ l) := by
  unfold fleetmake_Stream_Some_o1
  refine (Next_ok h hk (by unfold I64; omega)).bind fun r hr => ?_
  have := hr.1 (by omega)
  exact (at_mem this.1 this.2).bind fun y hy => .some hy
theorem Flip_ok {k : Nat} {s : fleetmake_Stream} {n : Int} (h : StrOk k s) (hk : k < 1099511627776) (hn : I64 n) : Ok (fleetmake_Stream_Flip s n) (fun _ => True) := by
  unfold fleetmake_Stream_Flip
  exact (Next_ok h hk hn).bind fun r hr => .some trivial
theorem Range_ok {k : Nat} {s : fleetmake_Stream} {low high : Int} (h : StrOk k s) (hk : k < 1099511627776) (hlow : -4611686018427387903 < low ∧ low < 4611686018427387904) (hh : -4611686018427387904 < high ∧ high < 4611686018427387903) :
    Ok (fleetmake_Stream_Range s low high) (fun r => StrOk (k + 1) r.1 ∧ low ≤ r.2 ∧ (low ≤ high → r.2 ≤ high) ∧ (high < low → r.2 = low)) := by
  unfold fleetmake_Stream_Range
  refine .cond (fun hc => ?_) (fun hc => ?_)
  · have hc' : high < low := by simpa using hc
    exact .some ⟨h.mono (by omega), Int.le_refl _, by intro h; omega, fun _ => rfl⟩
  · have hc' : ¬ high < low := by simpa using hc
    have e1 : IntKind.wrap .i64 (high - low) = high - low := wrap64 (by omega) (by omega)
    have e2 : IntKind.wrap .i64 (high - low + 1) = high - low + 1 := wrap64 (by omega) (by omega)
    rw [e1, e2]
    refine (Next_ok h hk (by unfold I64; omega)).bind fun r hr => ?_
    have := hr.1 (by omega)
    refine .some ⟨h.nxt hk, ?_, fun _ => ?_, fun h => by omega⟩
    · show low ≤ IntKind.wrap .i64 (low + r)
      rw [wrap64 (by omega) (by omega)]; omega
    · show IntKind.wrap .i64 (low + r) ≤ high
      rw [wrap64 (by omega) (by omega)]; omega
end Go.Eng

/-
The law CellsInAnyOrder: cells that streams make; cells that are merged in any order.
-/
namespace Go.Eng
open Go
set_option linter.unusedVariables false
set_option linter.unusedSimpArgs false

/-! ### Cells that streams make -/
theorem nxt_mk {k : Nat} {s : fleetmake_Stream} (h : StrOk k s) (hk : k < 1099511627776) : StrOk (k + 1) (fleetmake_Stream.mk s.L (IntKind.wrap .i64 (s.at_ + 1))) := h.nxt hk
/-! ### In any order -/
end Go.Eng

/-
The law CompactStays: what nobody needs any more is left out; what is visible stays, also after a merge with what comes later.
-/
namespace Go.Eng
open Go
set_option linter.unusedVariables false
set_option linter.unusedSimpArgs false

/-! ### Compact -/
/-! ### What is left -/
/-! ### Equal rows of properties -/
/-! ### Later cells -/
end Go.Eng

/-
What is left of a sorted row, each key once, with what is found again.
-/
namespace Go.Eng
open Go
set_option linter.unusedVariables false
set_option linter.unusedSimpArgs false
section
variable {α : Type}
end
end Go.Eng

/-
Twins: names of properties, sorted, each once.
-/
namespace Go.Eng
open Go
set_option linter.unusedVariables false
set_option linter.unusedSimpArgs false

section
variable {α : Type}
theorem Ok.and {f : Option α} {P Q : α → Prop} (h1 : Ok f P) (h2 : Ok f Q) : Ok f (fun r => P r ∧ Q r) := by
  obtain ⟨r, e1, p1⟩ := h1
  obtain ⟨s, e2, p2⟩ := h2
  rw [e1] at e2
  obtain rfl := Option.some.inj e2
  exact ⟨r, e1, p1, p2⟩
end

/-! ### Sorting of strings -/
theorem bitLen12 (n : Nat) (h : n ≤ 12) : Ok (bits_Len (IntKind.wrap .u64 (n : Int))) (fun _ => True) := by
  match n, h with
  | 0, _ => exact ⟨0, by kernel_rfl, trivial⟩
  | 1, _ => exact ⟨1, by kernel_rfl, trivial⟩
  | 2, _ => exact ⟨2, by kernel_rfl, trivial⟩
  | 3, _ => exact ⟨2, by kernel_rfl, trivial⟩
  | 4, _ => exact ⟨3, by kernel_rfl, trivial⟩
  | 5, _ => exact ⟨3, by kernel_rfl, trivial⟩
  | 6, _ => exact ⟨3, by kernel_rfl, trivial⟩
  | 7, _ => exact ⟨3, by kernel_rfl, trivial⟩
  | 8, _ => exact ⟨4, by kernel_rfl, trivial⟩
  | 9, _ => exact ⟨4, by kernel_rfl, trivial⟩
  | 10, _ => exact ⟨4, by kernel_rfl, trivial⟩
  | 11, _ => exact ⟨4, by kernel_rfl, trivial⟩
  | 12, _ => exact ⟨4, by kernel_rfl, trivial⟩
/-! ### Names -/
end Go.Eng

/-
Twins: what is owed.
-/
namespace Go.Eng
open Go
set_option linter.unusedVariables false
set_option linter.unusedSimpArgs false

/-! ### Values of names -/
/-! ### What is visible -/
/-! ### What is gone -/
end Go.Eng

/-
Lists of properties that streams make: they are right.
-/
namespace Go.Eng
open Go
set_option linter.unusedVariables false
set_option linter.unusedSimpArgs false

/-! ### Sorting keeps what there is -/
section
variable {α : Type}
end
/-! ### Values and names -/
/-! ### The reference's check -/
/-! ### Right properties -/
end Go.Eng

/-
Checks of properties: the code's and the reference's say the same.
-/
namespace Go.Eng
open Go
set_option linter.unusedVariables false
set_option linter.unusedSimpArgs false

/-! ### Values -/
theorem in_not (n low high : Int) : fleetref2_in n low high = some (!(decide (n < low) || decide (high < n))) := by
  unfold fleetref2_in fleetref2_in_x1
  by_cases h1 : low ≤ n
  · have h2 : ¬ n < low := by omega
    by_cases h3 : n ≤ high
    · have h4 : ¬ high < n := by omega
      simp [h1, h2, h3, h4]
    · have h4 : high < n := by omega
      simp [h1, h2, h3, h4]
  · have h2 : n < low := by omega
    simp [h1, h2]
def KW (w : List UInt8) (b : Bool) : Prop := w.length ≤ 1000 → base_Unmarked w = some b ∧ fleetref2_Printed w = some b
/-! ### Names above one another -/
/-! ### The checks -/
end Go.Eng

/-
Properties that streams make, nearly always right ones: names, values, words.
-/
namespace Go.Eng
open Go
set_option linter.unusedVariables false
set_option linter.unusedSimpArgs false

noncomputable def okWord (w : List UInt8) : Bool := match base_Unmarked w, fleetref2_Printed w with
  | some a, some b => a == b
  | _, _ => false
end Go.Eng

/-
Twins: cells and properties that streams make, nearly always right ones; checks of cells.
-/
namespace Go.Eng
open Go
set_option linter.unusedVariables false
set_option linter.unusedSimpArgs false

theorem errs2 (a b : Int) : fleetlaw2_errs [a, b] = some (or0 a b) := by
  unfold fleetlaw2_errs or0
  rw [range_loop (l := [a, b]) (fun _ x => if x = 0 then none else some (.inr x)) (.inl ()) (by simp)]
  · by_cases ha : a = 0 <;> by_cases hb : b = 0 <;> simp [scan, ha, hb]
  · intro i hi
    unfold fleetlaw2_errs_x1
    have hc : (i : Int) < ([a, b] : List Int).length := by omega
    simp only [hc, decide_true, cond_true, at_nat hi, Option.bind_some]
    by_cases h0 : ([a, b] : List Int)[i] = 0 <;> simp [h0]
  · unfold fleetlaw2_errs_x1; simp
theorem First_ab (a b : Int) : base_First [a, b] = some (or0 a b) := by
  unfold base_First or0
  rw [range_loop (l := [a, b]) (fun _ x => if x = 0 then none else some (.inr x)) (.inl ()) (by simp)]
  · by_cases ha : a = 0 <;> by_cases hb : b = 0 <;> simp [scan, ha, hb]
  · intro i hi
    unfold base_First_x1
    have hc : (i : Int) < ([a, b] : List Int).length := by omega
    simp only [hc, decide_true, cond_true, at_nat hi, Option.bind_some]
    by_cases h0 : ([a, b] : List Int)[i] = 0 <;> simp [h0]
  · unfold base_First_x1; simp
/-! ### What streams make -/
def Bd (n : Int) : Prop := -2000000000000 ≤ n ∧ n ≤ 2000000000000
theorem OddP_ok {k : Nat} {s : fleetmake_Stream} {lo hi : Int} (h : StrOk k s) (hk : k + 10 < 1099511627776) (h1 : -1000000000 ≤ lo ∧ lo ≤ hi ∧ hi ≤ 1000000000) : Ok (fleetmake_Stream_Odd s lo hi) (fun r => StrOk (k + 2) r.1 ∧ Bd r.2) := by
  unfold fleetmake_Stream_Odd
  have a1 := nxt_mk h (by omega)
  refine (Flip_ok h (by omega) (by unfold I64; omega)).bind fun b _ => .cond (fun _ => ?_) (fun _ => ?_)
  · refine (Pick_ok a1 (by omega) (by simp) (by simp)).bind fun n hn => .some ⟨nxt_mk a1 (by omega), ?_⟩
    have w1 : IntKind.wrap .i64 (lo - 1) = lo - 1 := wrap64 (by omega) (by omega)
    have w2 : IntKind.wrap .i64 (hi + 1) = hi + 1 := wrap64 (by omega) (by omega)
    rw [w1, w2] at hn
    simp only [List.mem_cons, List.not_mem_nil, or_false] at hn
    unfold Bd
    simp only
    omega
  · refine (Range_ok a1 (by omega) (by omega) (by omega)).bind fun ⟨s1, n⟩ ⟨r1, r2, r3, _⟩ => ?_
    simp only at r1 r2 r3
    have r3 := r3 (by omega)
    exact .some ⟨r1, by unfold Bd; simp only; omega⟩
/-! ### Checks of cells -/
noncomputable def okBy (n : List UInt8) : Bool := match base_Key n, fleetref2_Key n with
  | some a, some b => a == b
  | _, _ => false
end Go.Eng

/-
The law CellsSeen: what is visible and what is left out are as specified for all cells.
-/
namespace Go.Eng
open Go
set_option linter.unusedVariables false
set_option linter.unusedSimpArgs false

end Go.Eng

/-
Maps whose keys are strings, as rows of entries in the order of their keys; sorting of what has an order.
-/
namespace Go.Eng
open Go
set_option linter.unusedVariables false
set_option linter.unusedSimpArgs false

section
variable {β : Type}
end

/-! ### Sorting of what has an order -/
section
variable {α : Type}
theorem swap_pm' {l : List α} {j : Nat} (h : 0 < j) (hj : j < l.length) : ((l.set j (l[j - 1]'(by omega))).set (j - 1) l[j]).Perm l := by
  have h1 := Array.swap_perm (xs := l.toArray) (i := j) (j := j - 1) (by simpa using hj) (by simp; omega)
  have h2 := Array.perm_iff_toList_perm.1 h1
  simpa [Array.swap] using h2
theorem gI2_pm' {P : α → Prop} {f : α → α → Int} {c : α → α → Option Int} (hc : ∀ x y, P x → P y → c x y = some (f x y)) {n : Nat} (hn : n ≤ 100000) {l0 l : List α} (hl : l.length = n) (hP : All P l) (h0 : l.Perm l0) {i : Nat} (hi : i < n) :
    Ok (loopO (gI2 c 0) (l, (i : Int))) (fun r => r.length = n ∧ All P r ∧ r.Perm l0) := by
  refine loop_ok (fun s : List α × Int => s.1.length = n ∧ All P s.1 ∧ s.1.Perm l0 ∧ ∃ j : Nat, s.2 = (j : Int) ∧ j ≤ i) (fun s => s.2.toNat) ?_ ⟨hl, hP, h0, i, rfl, Nat.le_refl _⟩
  rintro ⟨m, q⟩ ⟨m1, m2, m3, j, rfl, j1⟩
  simp only at m1 m2 m3
  unfold gI2 gI3
  by_cases hj : (0 : Int) < j
  · have w1 : IntKind.wrap .i64 ((j : Int) - 1) = ((j - 1 : Nat) : Int) := by rw [wrap64 (by omega) (by omega)]; omega
    have hjm : j < m.length := by omega
    have hjm1 : j - 1 < m.length := by omega
    have hy := m2 _ (List.getElem_mem hjm)
    have hx := m2 _ (List.getElem_mem hjm1)
    simp only [hj, decide_true, cond_true, w1, at_nat hjm, at_nat hjm1, Option.bind_some, hc _ _ hy hx]
    refine .cond (fun hlt => ?_) (fun hge => ?_)
    · have g3 : at? (m.set (j : Int).toNat m[j - 1]) ((j - 1 : Nat) : Int) = some m[j - 1] := by
        rw [at_nat (by simp; omega)]
        simp only [Int.toNat_natCast, List.getElem_set]
        rw [if_neg (by omega)]
      rw [g3]
      simp only [Option.bind_some, Int.toNat_natCast]
      exact .some ⟨⟨by simp [m1], (m2.set hx).set hy, (swap_pm' (by omega) hjm).trans m3, j - 1, rfl, by omega⟩, by simp only; omega⟩
    · exact .some ⟨m1, m2, m3⟩
  · have hj' : ¬ (0 : Int) < j := hj
    simp only [hj', decide_false, cond_false, Option.bind_some]
    exact .some ⟨m1, m2, m3⟩
theorem gI_pm' {P : α → Prop} {f : α → α → Int} {c : α → α → Option Int} (hc : ∀ x y, P x → P y → c x y = some (f x y)) {l : List α} (hl : l.length ≤ 100000) (hP : All P l) : Ok (gI c l 0 l.length) (fun r => r.Perm l) := by
  unfold gI
  have w : IntKind.wrap .i64 ((0 : Int) + 1) = 1 := by decide
  rw [w]
  refine Ok.bind (P := fun r : List α => r.Perm l) (loop_ok (fun s : List α × Int => s.1.length = l.length ∧ All P s.1 ∧ s.1.Perm l ∧ ∃ i : Nat, s.2 = (i : Int)) (fun s => ((l.length : Int) - s.2).toNat) ?_
    ⟨rfl, hP, List.Perm.refl _, 1, rfl⟩) fun r hr => .some hr
  rintro ⟨m, q⟩ ⟨m1, m2, m3, i, rfl⟩
  simp only at m1 m2 m3
  unfold gI1
  by_cases hi : i < l.length
  · have hi' : (i : Int) < l.length := by omega
    have w1 : IntKind.wrap .i64 ((i : Int) + 1) = ((i + 1 : Nat) : Int) := by rw [wrap64 (by omega) (by omega)]; omega
    simp only [hi', decide_true, cond_true]
    refine (gI2_pm' hc (n := l.length) hl m1 m2 m3 hi).bind fun r hr => ?_
    rw [w1]
    exact .some ⟨⟨hr.1, hr.2.1, hr.2.2, i + 1, rfl⟩, by simp only; omega⟩
  · have hi' : ¬ (i : Int) < l.length := by omega
    simp only [hi', decide_false, cond_false]
    exact .some m3
/-- the code's sorting of up to twelve: by insertion -/
noncomputable def gPdq (c : α → α → Option Int) (qx : List α) (qx1 qx2 qx3 : Int) : Unit → Option (Unit ⊕ List α)
  | _ => cond (decide ((IntKind.wrap .i64 (qx2 - qx1)) ≤ 12)) ((gI c qx qx1 qx2).bind fun v => gd (v.length == qx.length) <| some (.inr v)) (cond (decide (qx3 = 0)) none none)
noncomputable def gSF (c : α → α → Option Int) (qx : List α) : Option (List α) :=
  (bits_Len (IntKind.wrap .u64 ((qx.length : Int)))).bind fun vr1 =>
  ((loopO (gPdq c qx 0 (qx.length : Int) vr1) ()).bind fun v => some v).bind fun vl2 =>
  gd (vl2.length == qx.length) <|
  some vl2
/-- the only order in which there may stand what has an order -/
theorem gSF_ok {f : α → α → Int} {c : α → α → Option Int} (hc : ∀ x y, c x y = some (f x y)) (anti : ∀ x y, f y x = - f x y) (tr : ∀ x y z, f x y ≤ 0 → f y z ≤ 0 → f x z ≤ 0) {l : List α} (hl : l.length ≤ 12) (hd : l.Pairwise fun x y => f x y ≠ 0) :
    ∃ r, gSF c l = some r ∧ r.Perm l ∧ r.Pairwise fun x y => f x y < 0 := by
  have hP : All (fun _ : α => True) l := fun _ _ => trivial
  obtain ⟨r, h1, ⟨h2, h3, h4⟩, h5⟩ := (gI_ord (P := fun _ => True) (f := f) (c := c) (fun x y _ _ => hc x y) anti tr (l := l) (by omega) hP).and (gI_pm' (P := fun _ => True) (f := f) (c := c) (fun x y _ _ => hc x y) (l := l) (by omega) hP)
  obtain ⟨b, hb, _⟩ := bitLen12 l.length hl
  refine ⟨r, ?_, h5, ?_⟩
  · unfold gSF
    rw [hb]
    simp only [Option.bind_some]
    have : loopO (gPdq c l 0 (l.length : Int) b) () = some r := by
      refine loop_out ?_
      unfold gPdq
      have w : IntKind.wrap .i64 ((l.length : Int) - 0) = l.length := by rw [wrap64 (by omega) (by omega)]; omega
      have hcc : (l.length : Int) ≤ 12 := by omega
      rw [w, h1]
      simp only [hcc, decide_true, cond_true, Option.bind_some, gd, h2, beq_self_eq_true]
    rw [this]
    simp only [Option.bind_some, gd, h2, beq_self_eq_true, cond_true]
  · have hd' : r.Pairwise fun x y => f x y ≠ 0 := (h5.pairwise_iff (fun {x y} h => by rw [anti x y]; omega)).2 hd
    rw [List.pairwise_iff_getElem]
    intro i j hi hj hij
    have a1 := h4 i j hij (by rw [← h2]; exact hj) (by rw [h2]; exact Nat.le_refl _)
    have a2 := (List.pairwise_iff_getElem.1 hd') i j hi hj hij
    omega
end
end Go.Eng

/-
The order of letters.
-/
namespace Go.Eng
open Go
set_option linter.unusedVariables false
set_option linter.unusedSimpArgs false
def ids6 : List (List UInt8) := [[108, 97], [108, 98], [108, 99], [108, 100], [108, 101], [108, 102]]
end Go.Eng

/-
Sorting of up to twelve: what two comparisons that agree make is the same.
-/
namespace Go.Eng
open Go
set_option linter.unusedVariables false
set_option linter.unusedSimpArgs false
section
variable {α : Type}
end
end Go.Eng

/-
Letters and posts that streams make, nearly always right ones; checks of them; their order.
-/
namespace Go.Eng
open Go
set_option linter.unusedVariables false
set_option linter.unusedSimpArgs false

/-! ### Checks of letters -/
def id8 : List (List UInt8) := ids6 ++ [[], [65]]
def sl5 : List (List UInt8) := [[], [115, 97], [115, 98], [65], [45]]
def bd6 : List (List UInt8) := [[100, 111], [], [97, 32, 34, 98, 34], [10], [127], [255]]
theorem id8_same : (id8.all okBy) = true := by kernel_rfl
theorem sl5_same : (sl5.all okBy) = true := by kernel_rfl
theorem bd6_same : (bd6.all okWord) = true := by kernel_rfl
theorem okBy_of {n : List UInt8} (h : okBy n = true) : ∃ b, base_Key n = some b ∧ fleetref2_Key n = some b := by
  unfold okBy at h
  split at h
  · rename_i a b h1 h2
    have : a = b := by simpa using h
    subst this
    exact ⟨a, h1, h2⟩
  · cases h
theorem kw_of {w : List UInt8} (h : w ∈ bd6) : ∃ b, KW w b := by
  have h := List.all_eq_true.1 bd6_same _ h
  unfold okWord at h
  split at h
  · rename_i a b h1 h2
    have : a = b := by simpa using h
    subst this
    exact ⟨a, fun _ => ⟨h1, h2⟩⟩
  · cases h
/-- a letter of which both checks know what to say -/
structure KL (l : api_Letter) : Prop where
  id : ∃ b, base_Key l.Id = some b ∧ fleetref2_Key l.Id = some b
  slot : ∃ b, base_Key l.Slot = some b ∧ fleetref2_Key l.Slot = some b
  body : ∃ b, KW l.Body b
  prio : Bd l.Prio
  at_ : Bd l.At
  till : Bd l.Until
theorem refMoment (n : Int) : fleetref2_Moment n = some (decide (0 ≤ n) && decide (n ≤ 345686399999)) := by
  unfold fleetref2_Moment
  rw [in_not]
  simp only [Option.bind_some]
  congr 1
  by_cases h1 : n < 0
  · have : ¬ 0 ≤ n := by omega
    simp [h1, this]
  · by_cases h2 : 345686399999 < n
    · have : ¬ n ≤ 345686399999 := by omega
      simp [h2, this]
    · have h3 : 0 ≤ n := by omega
      have h4 : n ≤ 345686399999 := by omega
      simp [h1, h2, h3, h4]
theorem letter_same {l : api_Letter} (h : KL l) : ∃ e, command_CheckLetter l = some e ∧ fleetref2_LetterFault l = some e := by
  obtain ⟨b, i1, i2⟩ := h.id
  obtain ⟨c, s1, s2⟩ := h.slot
  obtain ⟨w, hw⟩ := h.body
  obtain ⟨v, v1, v2⟩ : ∃ v, command_CheckLetter_x1 l = some v ∧ fleetref2_LetterFault_x1 l = some v := by
    unfold command_CheckLetter_x1 fleetref2_LetterFault_x1
    rw [i1, i2, s1, s2]
    cases b <;> cases decide (l.Slot = []) <;> exact ⟨_, rfl, rfl⟩
  obtain ⟨u, u1, u2⟩ : ∃ u, command_CheckLetter_x2 l = some u ∧ fleetref2_LetterFault_x2 l = some u := by
    unfold command_CheckLetter_x2 fleetref2_LetterFault_x2
    rw [Out_eq, in_not, Moment_eq, refMoment]
    simp only [Option.bind_some, Bool.not_not]
    cases (decide (l.Prio < 0) || decide (9 < l.Prio)) <;> cases (decide (0 ≤ l.At) && decide (l.At ≤ 345686399999)) <;> cases decide (l.Until ≤ l.At) <;> exact ⟨_, rfl, rfl⟩
  unfold command_CheckLetter fleetref2_LetterFault
  rw [v1, v2]
  simp only [Option.bind_some]
  cases v with
  | true => exact ⟨5, rfl, rfl⟩
  | false =>
    simp only [cond_false]
    by_cases hl : 1000 < (l.Body.length : Int)
    · simp only [hl, decide_true, cond_true]
      exact ⟨2, rfl, rfl⟩
    · simp only [hl, decide_false, cond_false]
      rw [(hw (by omega)).1, (hw (by omega)).2]
      simp only [Option.bind_some, u1, u2]
      cases w <;> cases u <;> exact ⟨_, rfl, rfl⟩

/-! ### Checks of posts -/
/-! ### Orders of letters -/
end Go.Eng

/-
The law LettersChecked.
-/
namespace Go.Eng
open Go
set_option linter.unusedVariables false
set_option linter.unusedSimpArgs false

/-! ### What streams make -/
theorem id8_ok {n : List UInt8} (h : n ∈ id8) : ∃ b, base_Key n = some b ∧ fleetref2_Key n = some b := okBy_of (List.all_eq_true.1 id8_same _ h)
theorem sl5_ok {n : List UInt8} (h : n ∈ sl5) : ∃ b, base_Key n = some b ∧ fleetref2_Key n = some b := okBy_of (List.all_eq_true.1 sl5_same _ h)
theorem posted_eq : fleetlaw2_posted = some true := by kernel_rfl
end Go.Eng

/-
Notes that streams make, nearly always right ones; the code's check of them.
-/
namespace Go.Eng
open Go
set_option linter.unusedVariables false
set_option linter.unusedSimpArgs false

theorem concat3N_eq {a b c : List api_Note} (ha : a.length ≤ 10000) (hb : b.length ≤ 10000) (hc : c.length ≤ 10000) : slices_Concat_api_Note_api_Note_o0 [a, b, c] = some (a ++ b ++ c) := by
  unfold slices_Concat_api_Note_api_Note_o0
  have t0 : at? [a, b, c] 0 = some a := rfl
  have t1 : at? [a, b, c] 1 = some b := rfl
  have t2 : at? [a, b, c] 2 = some c := rfl
  have i1 : IntKind.wrap .i64 ((0 : Int) + 1) = 1 := by decide
  have i2 : IntKind.wrap .i64 ((1 : Int) + 1) = 2 := by decide
  have i3 : IntKind.wrap .i64 ((2 : Int) + 1) = 3 := by decide
  have w1 : IntKind.wrap .i64 ((0 : Int) + a.length) = a.length := by rw [wrap64 (by omega) (by omega)]; omega
  have w2 : IntKind.wrap .i64 ((a.length : Int) + b.length) = (a.length : Int) + b.length := wrap64 (by omega) (by omega)
  have w3 : IntKind.wrap .i64 ((a.length : Int) + b.length + c.length) = (a.length : Int) + b.length + c.length := wrap64 (by omega) (by omega)
  have n1 : ¬ (a.length : Int) < 0 := by omega
  have n2 : ¬ (a.length : Int) + b.length < 0 := by omega
  have n3 : ¬ (a.length : Int) + b.length + c.length < 0 := by omega
  have l3 : (([a, b, c] : List (List api_Note)).length : Int) = 3 := rfl
  have h1 : loopO (slices_Concat_api_Note_api_Note_o0_x1 [a, b, c]) (0, 0) = some ((a.length : Int) + b.length + c.length) := by
    rw [loop_in (s' := ((a.length : Int), (1 : Int))) (by simp only [slices_Concat_api_Note_api_Note_o0_x1, l3, show ((0 : Int) < 3) by omega, decide_true, cond_true, t0, Option.bind_some, w1, n1, decide_false, cond_false, i1])]
    rw [loop_in (s' := ((a.length : Int) + b.length, (2 : Int))) (by simp only [slices_Concat_api_Note_api_Note_o0_x1, l3, show ((1 : Int) < 3) by omega, decide_true, cond_true, t1, Option.bind_some, w2, n2, decide_false, cond_false, i2])]
    rw [loop_in (s' := ((a.length : Int) + b.length + c.length, (3 : Int))) (by simp only [slices_Concat_api_Note_api_Note_o0_x1, l3, show ((2 : Int) < 3) by omega, decide_true, cond_true, t2, Option.bind_some, w3, n3, decide_false, cond_false, i3])]
    exact loop_out (by simp only [slices_Concat_api_Note_api_Note_o0_x1, l3, show ¬ ((3 : Int) < 3) by omega, decide_false, cond_false])
  have h2 : slices_Grow_api_Note_api_Note_n0 ((a.length : Int) + b.length + c.length) = some [] := by
    have z : IntKind.wrap .i64 ((0 : Int) - 0) = 0 := by decide
    have z2 : IntKind.wrap .i64 ((a.length : Int) + b.length + c.length - 0) = (a.length : Int) + b.length + c.length := by rw [Int.sub_zero]; exact w3
    unfold slices_Grow_api_Note_api_Note_n0 slices_Grow_api_Note_api_Note_n0_x1
    simp only [n3, decide_false, cond_false, z, z2]
    by_cases h0 : (0 : Int) < (a.length : Int) + b.length + c.length
    · have g1 : (decide (0 ≤ (a.length : Int) + b.length + c.length) && decide ((a.length : Int) + b.length + c.length ≤ 137438953472)) = true := by simp; omega
      simp only [h0, decide_true, cond_true, g1, gd]
      have g2 : (0 : Int) ≤ max ((a.length : Int) + b.length + c.length) 0 := by omega
      simp [g2]
    · simp [h0]
  have h3 : loopO (slices_Concat_api_Note_api_Note_o0_x2 [a, b, c]) ([], 0) = some (a ++ b ++ c) := by
    rw [loop_in (s' := (([] : List api_Note) ++ a, (1 : Int))) (by simp only [slices_Concat_api_Note_api_Note_o0_x2, l3, show ((0 : Int) < 3) by omega, decide_true, cond_true, t0, Option.bind_some, i1, gd, lim_ok (n := ([] : List api_Note).length + a.length) (by simp; omega)])]
    rw [loop_in (s' := (([] : List api_Note) ++ a ++ b, (2 : Int))) (by simp only [slices_Concat_api_Note_api_Note_o0_x2, l3, show ((1 : Int) < 3) by omega, decide_true, cond_true, t1, Option.bind_some, i2, gd, lim_ok (n := (([] : List api_Note) ++ a).length + b.length) (by simp; omega)])]
    rw [loop_in (s' := (([] : List api_Note) ++ a ++ b ++ c, (3 : Int))) (by simp only [slices_Concat_api_Note_api_Note_o0_x2, l3, show ((2 : Int) < 3) by omega, decide_true, cond_true, t2, Option.bind_some, i3, gd, lim_ok (n := (([] : List api_Note) ++ a ++ b).length + c.length) (by simp; omega)])]
    exact loop_out (by simp only [slices_Concat_api_Note_api_Note_o0_x2, l3, show ¬ ((3 : Int) < 3) by omega, decide_false, cond_false, List.nil_append])
  rw [h1, Option.bind_some, h2, Option.bind_some, h3]
  rfl


/-! ### What streams make -/
/-- a note of which both checks know what to say -/
structure KN (n : api_Note) : Prop where
  let_ : KL n.Letter
  st : Bd n.State
  since : Bd n.Since
theorem kw_one {w : List UInt8} (h : okWord w = true) : ∃ b, KW w b := by
  unfold okWord at h
  split at h
  · rename_i a b h1 h2
    have : a = b := by simpa using h
    subst this
    exact ⟨a, fun _ => ⟨h1, h2⟩⟩
  · cases h
theorem xy_same : okWord [120, 32, 34, 121, 34] = true := by kernel_rfl
theorem kn_of {id slot body : List UInt8} {prio st tries since : Int} (h1 : id ∈ id8) (h2 : slot ∈ sl5) (h3 : ∃ b, KW body b) (h4 : Bd prio) (h5 : Bd st) (h6 : Bd since) : KN (api_Note.mk (api_Letter.mk id slot body prio 0 100) st tries since) :=
  ⟨⟨id8_ok h1, sl5_ok h2, h3, h4, by unfold Bd; simp only; omega, by unfold Bd; simp only; omega⟩, h5, h6⟩
theorem Notes_ok {k : Nat} {s : fleetmake_Stream} (h : StrOk k s) (hk : k + 200 < 1099511627776) : Ok (fleetmake_Stream_Notes s) (fun r => StrOk (k + 100) r.1 ∧ (∀ n ∈ r.2, KN n) ∧ r.2.length ≤ 4) := by
  unfold fleetmake_Stream_Notes
  have x3 : ∀ {k : Nat} {s : fleetmake_Stream}, StrOk k s → k + 50 < 1099511627776 → ∀ {id slot body : List UInt8} {prio st tries since : Int}, id ∈ id8 → slot ∈ sl5 → (∃ b, KW body b) → Bd prio → Bd st → Bd since →
      Ok (fleetmake_Stream_Notes_x3 id slot body prio s st tries since) (fun r => StrOk (k + 15) r.1 ∧ KN r.2) := by
    intro k s h hk id slot body prio st tries since h1 h2 h3 h4 h5 h6
    have a1 := nxt_mk h (by omega)
    have a2 := nxt_mk a1 (by omega)
    have a3 := nxt_mk a2 (by omega)
    have a4 := nxt_mk a3 (by omega)
    unfold fleetmake_Stream_Notes_x3
    refine (Flip_ok a2 (by omega) (by unfold I64; omega)).bind fun b _ => .cond (fun _ => ?_) (fun _ => .some ⟨StrOk.mono a3 (by omega), kn_of h1 h2 h3 h4 h5 h6⟩)
    refine (Some_ok a3 (by omega) (by simp) (by simp)).bind fun w hw => ?_
    refine (OddP_ok a4 (by omega) (by omega)).bind fun ⟨s1, m1⟩ ⟨r1, b1⟩ => ?_
    simp only at r1 b1
    refine (OddP_ok r1 (by omega) (by omega)).bind fun ⟨s2, m2⟩ ⟨r2, b2⟩ => ?_
    simp only at r2 b2
    refine (OddP_ok r2 (by omega) (by omega)).bind fun ⟨s3, m3⟩ ⟨r3, b3⟩ => ?_
    simp only at r3 b3
    refine .some ⟨StrOk.mono r3 (by omega), kn_of ?_ h2 h3 h4 b1 b3⟩
    simp only [List.mem_cons, List.not_mem_nil, or_false] at hw
    rcases hw with e | e | e
    · rw [e]; exact h1
    · rw [e]; simp [id8, ids6]
    · rw [e]; simp [id8, ids6]
  refine Ok.bind (P := fun q : fleetmake_Stream × List api_Note => StrOk (k + 100) q.1 ∧ (∀ n ∈ q.2, KN n) ∧ q.2.length ≤ 4) ?_ fun ⟨s1, l⟩ hr => .some hr
  refine loop_ok (fun q : fleetmake_Stream × List api_Note × Int => ∃ j : Nat, q.2.2 = (j : Int) ∧ j ≤ 4 ∧ StrOk (k + 25 * j) q.1 ∧ (∀ n ∈ q.2.1, KN n) ∧ q.2.1.length ≤ j) (fun q => ((4 : Int) - q.2.2).toNat) ?_ ⟨0, rfl, by omega, by simpa using h, fun n hn => (nomatch hn), by simp⟩
  rintro ⟨s2, l, i⟩ ⟨j, rfl, j1, j2, j3, j4⟩
  simp only at j2 j3 j4
  unfold fleetmake_Stream_Notes_x1
  refine .cond (fun hc => ?_) (fun hc => .some ⟨j2.mono (by omega), j3, by simp only; omega⟩)
  have hc : j < 4 := by
    have : (j : Int) < 4 := by simpa using hc
    omega
  have w1 : IntKind.wrap .i64 ((j : Int) + 1) = ((j + 1 : Nat) : Int) := by rw [wrap64 (by omega) (by omega)]; omega
  have hx2 : Ok (fleetmake_Stream_Notes_x2 s2 l j) (fun q => StrOk (k + 25 * (j + 1)) q.1 ∧ (∀ n ∈ q.2, KN n) ∧ q.2.length ≤ j + 1) := by
    have a1 := nxt_mk j2 (by omega)
    have a2 := nxt_mk a1 (by omega)
    have a3 := nxt_mk a2 (by omega)
    have a4 := nxt_mk a3 (by omega)
    unfold fleetmake_Stream_Notes_x2
    refine (at_mem (by omega) (by simp; omega)).bind fun id hid => ?_
    refine (Flip_ok j2 (by omega) (by unfold I64; omega)).bind fun b _ => .cond (fun _ => .some ⟨StrOk.mono a1 (by omega), j3, by simp only; omega⟩) (fun _ => ?_)
    refine (Some_ok a1 (by omega) (by simp) (by simp)).bind fun slot hs => ?_
    refine (Some_ok a2 (by omega) (by simp) (by simp)).bind fun body hb => ?_
    refine (Pick_ok a3 (by omega) (by simp) (by simp)).bind fun prio hp => ?_
    refine (Range_ok a4 (by omega) (by omega) (by omega)).bind fun ⟨s3, st⟩ ⟨r1, r2, r3, _⟩ => ?_
    simp only at r1 r2 r3
    have r3 := r3 (by omega)
    refine (Pick_ok r1 (by omega) (by simp) (by simp)).bind fun tries _ => ?_
    have b1 := nxt_mk r1 (by omega)
    refine (Pick_ok b1 (by omega) (by simp) (by simp)).bind fun since hsn => ?_
    simp only [List.mem_cons, List.not_mem_nil, or_false] at hid hs hb hp hsn
    refine (x3 r1 (by omega) (id := id) (slot := slot) (body := body) (prio := prio) (st := st) (since := since) ?_ ?_ ?_ ?_ ?_ ?_).bind fun ⟨s4, n⟩ ⟨c1, c2⟩ => ?_
    · rcases hid with h | h | h | h <;> rw [h] <;> simp [id8, ids6]
    · rcases hs with h | h <;> rw [h] <;> simp [sl5]
    · rcases hb with h | h | h <;> rw [h]
      · exact kw_of (by simp [bd6])
      · exact kw_of (by simp [bd6])
      · exact kw_one xy_same
    · unfold Bd; omega
    · unfold Bd; omega
    · unfold Bd; omega
    · simp only at c1 c2
      refine .gd (lim_ok (by simp; omega)) (.some ⟨StrOk.mono c1 (by omega), fun m hm => ?_, by simp; omega⟩)
      rcases List.mem_append.1 hm with hm | hm
      · exact j3 m hm
      · rw [List.mem_singleton] at hm; subst hm; exact c2
  refine hx2.bind fun ⟨s3, l2⟩ ⟨g1, g2, g3⟩ => .some ⟨⟨j + 1, w1, by omega, g1, g2, g3⟩, ?_⟩
  show ((4 : Int) - IntKind.wrap .i64 ((j : Int) + 1)).toNat < _
  rw [w1]; simp only; omega

/-! ### The check -/
noncomputable def lcv (x : api_Letter) : Int := (command_CheckLetter x).getD 0
theorem lcv_own {x : api_Letter} (h : KL x) : command_CheckLetter x = some (lcv x) := by
  obtain ⟨e, e1, _⟩ := letter_same h
  unfold lcv
  rw [e1]; rfl
theorem lcv_ref {x : api_Letter} (h : KL x) : fleetref2_LetterFault x = some (lcv x) := by
  obtain ⟨e, e1, e2⟩ := letter_same h
  unfold lcv
  rw [e1, e2]; rfl
def obN (l : List api_Note) (i : Nat) (n : api_Note) : Bool := match i with
  | 0 => false
  | j + 1 => match l[j]? with
    | some p => Op.bytesLess n.Letter.Id p.Letter.Id || decide (n.Letter.Id = p.Letter.Id)
    | none => false
noncomputable def nfI (l : List api_Note) (i : Nat) (n : api_Note) : Option (Unit ⊕ Int) :=
  bif !decide (lcv n.Letter = 0) then some (.inr (lcv n.Letter)) else bif decide (n.State < 1) || decide (7 < n.State) then some (.inr 4) else
  bif (decide (n.Tries < 0) || decide (20 < n.Tries)) || !(decide (0 ≤ n.Since) && decide (n.Since ≤ 345686399999)) then some (.inr 1) else bif obN l i n then some (.inr 7) else none
noncomputable def nfR (l : List api_Note) : Int := match (scan (nfI l) 0 l).getD (.inl ()) with
  | .inl _ => 0
  | .inr e => e
theorem CheckNotes_eq {l : List api_Note} (hl : l.length ≤ 400) (hK : ∀ n ∈ l, KN n) : command_CheckNotes l = some (nfR l) := by
  have h500 : ¬ (1500 : Int) < l.length := by omega
  unfold command_CheckNotes
  simp only [h500, decide_false, cond_false]
  rw [range_loop (l := l) (nfI l) (.inl ()) (by omega)]
  · unfold nfR
    cases (scan (nfI l) 0 l).getD (.inl ()) <;> rfl
  · intro i hi
    have hc : (i : Int) < l.length := by omega
    have hK := hK _ (List.getElem_mem hi)
    have e1 : command_CheckLetter (api_Letter.mk l[i].Letter.Id l[i].Letter.Slot l[i].Letter.Body l[i].Letter.Prio l[i].Letter.At l[i].Letter.Until) = some (lcv l[i].Letter) := lcv_own hK.let_
    have x2 : command_CheckNotes_x2 l[i] = some ((decide (l[i].Tries < 0) || decide (20 < l[i].Tries)) || !(decide (0 ≤ l[i].Since) && decide (l[i].Since ≤ 345686399999))) := by
      unfold command_CheckNotes_x2
      rw [Out_eq, Moment_eq]
      cases (decide (l[i].Tries < 0) || decide (20 < l[i].Tries)) <;> rfl
    have x3 : command_CheckNotes_x3 l i l[i] = some (obN l i l[i]) := by
      unfold command_CheckNotes_x3 obN
      cases i with
      | zero => rfl
      | succ i =>
        have hp0 : (0 : Int) < ((i + 1 : Nat) : Int) := by omega
        have w : IntKind.wrap .i64 (((i + 1 : Nat) : Int) - 1) = (i : Int) := by rw [wrap64 (by omega) (by omega)]; omega
        have hil : i < l.length := by omega
        simp only [hp0, decide_true, cond_true, w, at_nat hil, Option.bind_some, List.getElem?_eq_getElem hil]
    unfold command_CheckNotes_x1 nfI
    simp only [hc, decide_true, cond_true, at_nat hi, Option.bind_some, e1, Out_eq, x2, x3]
    by_cases h0 : lcv l[i].Letter = 0
    · simp only [h0, decide_true, Bool.not_true, cond_false]
      cases (decide (l[i].State < 1) || decide (7 < l[i].State)) with
      | true => rfl
      | false =>
        simp only [cond_false]
        cases ((decide (l[i].Tries < 0) || decide (20 < l[i].Tries)) || !(decide (0 ≤ l[i].Since) && decide (l[i].Since ≤ 345686399999))) with
        | true => rfl
        | false =>
          simp only [cond_false]
          cases obN l i l[i] <;> rfl
    · simp [h0]
  · unfold command_CheckNotes_x1; simp
def NSrt (l : List api_Note) : Prop := l.Pairwise fun x y => nlt x.Letter.Id y.Letter.Id
theorem nf_sorted {l : List api_Note} (h : nfR l = 0) : NSrt l := by
  have hno : scan (nfI l) 0 l = none := by
    cases hs : scan (nfI l) 0 l with
    | none => rfl
    | some r =>
      exfalso
      have key : ∀ (m : List api_Note) (k : Nat), scan (nfI l) k m = some r → ∃ e, r = .inr e ∧ e ≠ 0 := by
        intro m
        induction m with
        | nil => intro k h; simp [scan] at h
        | cons y m ih =>
          intro k h
          simp only [scan] at h
          cases hb : nfI l k y with
          | none => rw [hb] at h; exact ih _ h
          | some q =>
            rw [hb] at h
            have hq : q = r := Option.some.inj h
            subst hq
            unfold nfI at hb
            by_cases h0 : lcv y.Letter = 0
            · simp only [h0, decide_true, Bool.not_true, cond_false] at hb
              cases h1 : (decide (y.State < 1) || decide (7 < y.State)) with
              | true => rw [h1] at hb; exact ⟨4, (Option.some.inj hb).symm, by omega⟩
              | false =>
                rw [h1] at hb
                simp only [cond_false] at hb
                cases h2 : ((decide (y.Tries < 0) || decide (20 < y.Tries)) || !(decide (0 ≤ y.Since) && decide (y.Since ≤ 345686399999))) with
                | true => rw [h2] at hb; exact ⟨1, (Option.some.inj hb).symm, by omega⟩
                | false =>
                  rw [h2] at hb
                  simp only [cond_false] at hb
                  cases h3 : obN l k y with
                  | true => rw [h3] at hb; exact ⟨7, (Option.some.inj hb).symm, by omega⟩
                  | false => rw [h3] at hb; cases hb
            · simp only [h0, decide_false, Bool.not_false, cond_true] at hb
              exact ⟨_, (Option.some.inj hb).symm, h0⟩
      obtain ⟨e, rfl, he⟩ := key l 0 hs
      unfold nfR at h
      rw [hs] at h
      exact he h
  have step : ∀ (i : Nat) (hi : i + 1 < l.length), nlt (l[i]'(by omega)).Letter.Id l[i + 1].Letter.Id := by
    intro i hi
    have hg := scan_none.1 hno (i + 1) l[i + 1] (List.getElem?_eq_getElem hi)
    rw [Nat.zero_add] at hg
    have hob : obN l (i + 1) l[i + 1] = false := by
      cases hb : obN l (i + 1) l[i + 1] with
      | false => rfl
      | true =>
        unfold nfI at hg
        rw [hb] at hg
        exfalso
        revert hg
        cases (!decide (lcv l[i + 1].Letter = 0)) <;> cases (decide (l[i + 1].State < 1) || decide (7 < l[i + 1].State)) <;> cases ((decide (l[i + 1].Tries < 0) || decide (20 < l[i + 1].Tries)) || !(decide (0 ≤ l[i + 1].Since) && decide (l[i + 1].Since ≤ 345686399999))) <;> intro hg <;> cases hg
    simp only [obN, List.getElem?_eq_getElem (show i < l.length by omega)] at hob
    simp only [Bool.or_eq_false_iff, cmpB_less, decide_eq_false_iff_not] at hob
    rcases cmpB_cases (l[i]'(by omega)).Letter.Id l[i + 1].Letter.Id with h2 | h2 | h2
    · exact h2
    · exact absurd h2.symm hob.2
    · exact absurd h2 hob.1
  have key : ∀ (d j : Nat) (hj : j + d + 1 < l.length), nlt (l[j]'(by omega)).Letter.Id l[j + d + 1].Letter.Id := by
    intro d
    induction d with
    | zero =>
      intro j hj
      exact step j hj
    | succ d ih =>
      intro j hj
      exact nlt_trans (ih j (by omega)) (step (j + d + 1) hj)
  unfold NSrt
  rw [List.pairwise_iff_getElem]
  intro i j hi hj hij
  have := key (j - i - 1) i (by omega)
  simpa [show i + (j - i - 1) + 1 = j by omega] using this
end Go.Eng

/-
Notes of two lists: how they are merged.
-/
namespace Go.Eng
open Go
set_option linter.unusedVariables false
set_option linter.unusedSimpArgs false

abbrev qnm (c : api_Note) : List UInt8 := c.Letter.Id
/-! ### How far a note has gone on -/
def rkS (s : Int) : Int := if s = 3 then 5 else if s = 4 then 4 else if s = 7 then 3 else if s = 5 then 2 else if s = 6 then 1 else 0
def fur (a b : api_Note) : Int := or0 (cmpI (rkS a.State) (rkS b.State)) (or0 (cmpI a.Tries b.Tries) (or0 (cmpI b.Since a.Since) (cmpI b.State a.State)))
def qclash (c d : api_Note) : Prop := c.Letter ≠ d.Letter
def qpick (c d : api_Note) : api_Note := if 0 < fur d c then d else c
/-- the cell of a name -/
noncomputable def qlk (l : List api_Note) (n : List UInt8) : Option api_Note := l.find? fun c => decide (qnm c = n)
theorem qlk_some {l : List api_Note} {n : List UInt8} {c : api_Note} (h : qlk l n = some c) : c ∈ l ∧ qnm c = n := ⟨List.mem_of_find?_eq_some h, by simpa using List.find?_some h⟩
theorem qlk_mem {l : List api_Note} (hs : NSrt l) {c : api_Note} (h : c ∈ l) : qlk l (qnm c) = some c := by
  induction l with
  | nil => cases h
  | cons x l ih =>
    have hs' := List.pairwise_cons.1 hs
    unfold qlk
    rw [List.find?_cons]
    rcases List.mem_cons.1 h with rfl | h
    · simp
    · have : qnm x ≠ qnm c := nlt_ne (hs'.1 c h)
      simp only [this, decide_false]
      exact ih hs'.2 h
theorem qlk_none {l : List api_Note} {n : List UInt8} : qlk l n = none ↔ ∀ c ∈ l, qnm c ≠ n := by
  unfold qlk
  rw [List.find?_eq_none]
  simp
theorem qsrt_ext : ∀ {l m : List api_Note}, NSrt l → NSrt m → (∀ c, c ∈ l ↔ c ∈ m) → l = m
  | [], [], _, _, _ => rfl
  | [], y :: m, _, _, h => by have := (h y).2 (by simp); cases this
  | x :: l, [], _, _, h => by have := (h x).1 (by simp); cases this
  | x :: l, y :: m, h1, h2, h => by
    have g1 := List.pairwise_cons.1 h1
    have g2 := List.pairwise_cons.1 h2
    have e : x = y := by
      rcases List.mem_cons.1 ((h x).1 (by simp)) with e | hx
      · exact e
      · rcases List.mem_cons.1 ((h y).2 (by simp)) with e | hy
        · exact e.symm
        · exact absurd (g1.1 y hy) (nlt_asymm (g2.1 x hx))
    subst e
    have : l = m := qsrt_ext g1.2 g2.2 fun c => by
      constructor
      · intro hc
        rcases List.mem_cons.1 ((h c).1 (by simp [hc])) with e | hm
        · exact absurd (g1.1 c hc) (e ▸ nlt_irrefl _)
        · exact hm
      · intro hc
        rcases List.mem_cons.1 ((h c).2 (by simp [hc])) with e | hm
        · exact absurd (g2.1 c hc) (e ▸ nlt_irrefl _)
        · exact hm
    rw [this]
theorem qlk_ext {l m : List api_Note} (h1 : NSrt l) (h2 : NSrt m) (h : ∀ n, qlk l n = qlk m n) : l = m :=
  qsrt_ext h1 h2 fun c => by
    have := h (qnm c)
    constructor
    · intro hc
      rw [qlk_mem h1 hc] at this
      exact (qlk_some this.symm).1
    · intro hc
      rw [qlk_mem h2 hc] at this
      exact (qlk_some this).1

open Classical in
noncomputable def qmrg : List api_Note → List api_Note → Option (List api_Note)
  | [], b => some b
  | x :: a, [] => some (x :: a)
  | x :: a, y :: b =>
    if nlt (qnm x) (qnm y) then (qmrg a (y :: b)).map (x :: ·)
    else if nlt (qnm y) (qnm x) then (qmrg (x :: a) b).map (y :: ·)
    else if qclash x y then none else (qmrg a b).map (qpick x y :: ·)
termination_by a b => a.length + b.length
noncomputable def qcomb : Option api_Note → Option api_Note → Option api_Note
  | none, x => x
  | some c, none => some c
  | some c, some d => some (qpick c d)
theorem qcomb_none (x : Option api_Note) : qcomb x none = x := by cases x <;> rfl
theorem qpick_nm {c d : api_Note} (h : qnm c = qnm d) : qnm (qpick c d) = qnm c := by unfold qpick; split <;> simp [h]
theorem qpick_or (c d : api_Note) : qpick c d = c ∨ qpick c d = d := by unfold qpick; split <;> simp
theorem qlk_cons (x : api_Note) (l : List api_Note) (n : List UInt8) : qlk (x :: l) n = if qnm x = n then some x else qlk l n := by
  unfold qlk
  rw [List.find?_cons]
  by_cases h : qnm x = n <;> simp [h]
theorem qlk_far {l : List api_Note} {n : List UInt8} (h : ∀ c ∈ l, nlt n (qnm c)) : qlk l n = none := qlk_none.2 fun c hc e => nlt_irrefl n (by have := h c hc; rw [e] at this; exact this)

open Classical in
theorem qmrg_spec : ∀ (a b : List api_Note), NSrt a → NSrt b →
    (match qmrg a b with
     | some r => NSrt r ∧ (∀ n, qlk r n = qcomb (qlk a n) (qlk b n)) ∧ (∀ n c d, qlk a n = some c → qlk b n = some d → ¬ qclash c d) ∧ (∀ n, (∀ c ∈ a, nlt n (qnm c)) → (∀ c ∈ b, nlt n (qnm c)) → ∀ c ∈ r, nlt n (qnm c)) ∧ r.length ≤ a.length + b.length
     | none => ∃ n c d, qlk a n = some c ∧ qlk b n = some d ∧ qclash c d)
  | [], b, _, hb => by
    rw [qmrg]
    exact ⟨hb, fun n => rfl, (fun n c d h => by cases h), (fun n _ h => h), by simp⟩
  | x :: a, [], ha, _ => by
    rw [qmrg]
    exact ⟨ha, fun n => (qcomb_none _).symm, (fun n c d _ h => by cases h), (fun n h _ => h), by simp⟩
  | x :: a, y :: b, ha, hb => by
    have ga := List.pairwise_cons.1 ha
    have gb := List.pairwise_cons.1 hb
    rw [qmrg]
    by_cases h1 : nlt (qnm x) (qnm y)
    · rw [if_pos h1]
      have ih := qmrg_spec a (y :: b) ga.2 hb
      have hyb : ∀ c ∈ y :: b, nlt (qnm x) (qnm c) := fun c hc => by
        rcases List.mem_cons.1 hc with rfl | hc
        · exact h1
        · exact nlt_trans h1 (gb.1 c hc)
      cases hm : qmrg a (y :: b) with
      | none =>
        rw [hm] at ih
        obtain ⟨n, c, d, e1, e2, e3⟩ := ih
        refine ⟨n, c, d, ?_, e2, e3⟩
        rw [qlk_cons]
        have : qnm x ≠ n := fun e => by
          have := (qlk_some e1)
          have h3 : nlt (qnm x) (qnm c) := ga.1 c this.1
          rw [this.2, e] at h3
          exact nlt_irrefl _ h3
        rw [if_neg this]; exact e1
      | some r =>
        rw [hm] at ih
        obtain ⟨i1, i2, i3, i4, i5⟩ := ih
        simp only [Option.map_some]
        refine ⟨List.pairwise_cons.2 ⟨i4 _ ga.1 hyb, i1⟩, fun n => ?_, fun n c d e1 e2 => ?_, fun n q1 q2 c hc => ?_, by simp at i5 ⊢; omega⟩
        · rw [qlk_cons, qlk_cons, i2]
          by_cases e : qnm x = n
          · subst e
            rw [if_pos rfl, if_pos rfl, qlk_far hyb]
            rfl
          · rw [if_neg e, if_neg e]
        · rw [qlk_cons] at e1
          by_cases e : qnm x = n
          · subst e
            rw [qlk_far hyb] at e2; cases e2
          · rw [if_neg e] at e1
            exact i3 n c d e1 e2
        · rcases List.mem_cons.1 hc with rfl | hc
          · exact q1 _ (by simp)
          · exact i4 n (fun c hc => q1 c (by simp [hc])) q2 c hc
    · rw [if_neg h1]
      by_cases h2 : nlt (qnm y) (qnm x)
      · rw [if_pos h2]
        have ih := qmrg_spec (x :: a) b ha gb.2
        have hxa : ∀ c ∈ x :: a, nlt (qnm y) (qnm c) := fun c hc => by
          rcases List.mem_cons.1 hc with rfl | hc
          · exact h2
          · exact nlt_trans h2 (ga.1 c hc)
        cases hm : qmrg (x :: a) b with
        | none =>
          rw [hm] at ih
          obtain ⟨n, c, d, e1, e2, e3⟩ := ih
          refine ⟨n, c, d, e1, ?_, e3⟩
          rw [qlk_cons]
          have : qnm y ≠ n := fun e => by
            have := (qlk_some e2)
            have h3 : nlt (qnm y) (qnm d) := gb.1 d this.1
            rw [this.2, e] at h3
            exact nlt_irrefl _ h3
          rw [if_neg this]; exact e2
        | some r =>
          rw [hm] at ih
          obtain ⟨i1, i2, i3, i4, i5⟩ := ih
          simp only [Option.map_some]
          refine ⟨List.pairwise_cons.2 ⟨i4 _ hxa gb.1, i1⟩, fun n => ?_, fun n c d e1 e2 => ?_, fun n q1 q2 c hc => ?_, by simp at i5 ⊢; omega⟩
          · rw [qlk_cons y r, qlk_cons y b, i2]
            by_cases e : qnm y = n
            · subst e
              rw [if_pos rfl, if_pos rfl, qlk_far hxa]
              rfl
            · rw [if_neg e, if_neg e]
          · rw [qlk_cons y] at e2
            by_cases e : qnm y = n
            · subst e
              rw [qlk_far hxa] at e1; cases e1
            · rw [if_neg e] at e2
              exact i3 n c d e1 e2
          · rcases List.mem_cons.1 hc with rfl | hc
            · exact q2 _ (by simp)
            · exact i4 n q1 (fun c hc => q2 c (by simp [hc])) c hc
      · rw [if_neg h2]
        have he : qnm x = qnm y := by
          rcases cmpB_cases (qnm x) (qnm y) with h | h | h
          · exact absurd h h1
          · exact h
          · exact absurd h h2
        by_cases h3 : qclash x y
        · rw [if_pos h3]
          exact ⟨qnm x, x, y, by rw [qlk_cons, if_pos rfl], by rw [qlk_cons, if_pos he.symm], h3⟩
        · rw [if_neg h3]
          have ih := qmrg_spec a b ga.2 gb.2
          have hb' : ∀ c ∈ b, nlt (qnm x) (qnm c) := fun c hc => he ▸ gb.1 c hc
          cases hm : qmrg a b with
          | none =>
            rw [hm] at ih
            obtain ⟨n, c, d, e1, e2, e3⟩ := ih
            have hne : qnm x ≠ n := fun e => by
              rw [← e, qlk_far ga.1] at e1; cases e1
            refine ⟨n, c, d, ?_, ?_, e3⟩
            · rw [qlk_cons, if_neg hne]; exact e1
            · rw [qlk_cons, if_neg (he ▸ hne)]; exact e2
          | some r =>
            rw [hm] at ih
            obtain ⟨i1, i2, i3, i4, i5⟩ := ih
            simp only [Option.map_some]
            have hp := qpick_nm he
            refine ⟨List.pairwise_cons.2 ⟨by show ∀ z ∈ r, nlt (qnm (qpick x y)) (qnm z); rw [hp]; exact i4 _ ga.1 hb', i1⟩, fun n => ?_, fun n c d e1 e2 => ?_, fun n q1 q2 c hc => ?_, by simp at i5 ⊢; omega⟩
            · rw [qlk_cons, qlk_cons, qlk_cons, hp, ← he, i2]
              by_cases e : qnm x = n
              · rw [if_pos e, if_pos e, if_pos e]; rfl
              · rw [if_neg e, if_neg e, if_neg e]
            · rw [qlk_cons] at e1 e2
              by_cases e : qnm x = n
              · rw [if_pos e] at e1
                rw [if_pos (he ▸ e)] at e2
                cases e1; cases e2; exact h3
              · rw [if_neg e] at e1
                rw [if_neg (he ▸ e)] at e2
                exact i3 n c d e1 e2
            · rcases List.mem_cons.1 hc with rfl | hc
              · rw [hp]; exact q1 _ (by simp)
              · exact i4 n (fun c hc => q1 c (by simp [hc])) (fun c hc => q2 c (by simp [hc])) c hc
termination_by a b => a.length + b.length
end Go.Eng

/-
The law NotesMerge.
-/
namespace Go.Eng
open Go
set_option linter.unusedVariables false
set_option linter.unusedSimpArgs false

/-! ### How far notes have gone on, in the code and in the reference -/
theorem rank_eq (s : Int) : command_rank s = some (rkS s) := by
  have h : slices_Index_int_int [6, 5, 7, 4, 3] s = some (rkS s - 1) := by
    unfold slices_Index_int_int
    rw [range_loop (l := [6, 5, 7, 4, 3]) (fun i x => if s = x then some (.inr (i : Int)) else none) (.inl ()) (by simp)]
    · unfold rkS
      by_cases h6 : s = 6
      · subst h6; rfl
      · by_cases h5 : s = 5
        · subst h5; rfl
        · by_cases h7 : s = 7
          · subst h7; rfl
          · by_cases h4 : s = 4
            · subst h4; rfl
            · by_cases h3 : s = 3
              · subst h3; rfl
              · simp [scan, h6, h5, h7, h4, h3]
    · intro i hi
      unfold slices_Index_int_int_x1
      have hc : (i : Int) < ([6, 5, 7, 4, 3] : List Int).length := by omega
      simp only [hc, decide_true, cond_true, at_nat hi, Option.bind_some]
      by_cases he : s = ([6, 5, 7, 4, 3] : List Int)[i] <;> simp [he]
    · unfold slices_Index_int_int_x1; simp
  unfold command_rank
  rw [h]
  have : 0 ≤ rkS s ∧ rkS s ≤ 5 := by unfold rkS; (repeat' split) <;> omega
  simp only [Option.bind_some]
  rw [wrap64 (by omega) (by omega)]
  congr 1
  omega
theorem or4 (a b c d : Int) : (([a, b, c, d] : List Int).find? fun x => !decide (x = 0)).getD 0 = or0 a (or0 b (or0 c d)) := by
  unfold or0
  by_cases h1 : a = 0 <;> by_cases h2 : b = 0 <;> by_cases h3 : c = 0 <;> by_cases h4 : d = 0 <;> simp [h1, h2, h3, h4]
theorem further_eq (a b : api_Note) : command_further a b = some (fur a b) := by
  unfold command_further fur
  simp only [rank_eq, cmpInt_eq, Option.bind_some]
  rw [Or_eq _ (by simp), or4]
  rfl
theorem gone_eqN {n : api_Note} (h1 : Bd n.State) (h2 : Bd n.Since) : fleetref2_gone n = some [rkS n.State, n.Tries, -n.Since, -n.State] := by
  unfold Bd at h1 h2
  have w1 : IntKind.wrap .i64 (0 - n.Since) = -n.Since := by rw [wrap64 (by omega) (by omega)]; omega
  have w2 : IntKind.wrap .i64 (0 - n.State) = -n.State := by rw [wrap64 (by omega) (by omega)]; omega
  have hm : (aput (aput (aput (aput (aput ([] : List (Int × Int)) (3 : Int) (5 : Int)) (4 : Int) (4 : Int)) (7 : Int) (3 : Int)) (5 : Int) (2 : Int)) (6 : Int) (1 : Int)) = [(3, 5), (4, 4), (5, 2), (6, 1), (7, 3)] := by kernel_rfl
  have hg : (aget [((3 : Int), (5 : Int)), (4, 4), (5, 2), (6, 1), (7, 3)] n.State).getD (0 : Int) = rkS n.State := by
    unfold aget rkS
    by_cases h3 : n.State = 3
    · simp [h3]
    · by_cases h4 : n.State = 4
      · simp [h4]
      · by_cases h5 : n.State = 5
        · simp [h5]
        · by_cases h6 : n.State = 6
          · simp [h6]
          · by_cases h7 : n.State = 7
            · simp [h7]
            · simp [h3, h4, h5, h6, h7]
  unfold fleetref2_gone
  rw [hm, hg, w1, w2]
  rfl
theorem cmp_neg (a b : Int) : cmpI (-a) (-b) = cmpI b a := by
  unfold cmpI
  by_cases h1 : a < b
  · have : ¬ b < a := by omega
    have h2 : -b < -a := by omega
    have h3 : ¬ -a < -b := by omega
    simp [h1, this, h2, h3]
  · by_cases h2 : b < a
    · have h3 : -a < -b := by omega
      simp [h1, h2, h3]
    · have h3 : ¬ -a < -b := by omega
      have h4 : ¬ -b < -a := by omega
      simp [h1, h2, h3, h4]
theorem Compare4 (a b c d a' b' c' d' : Int) : slices_Compare_int_int [a, b, c, d] [a', b', c', d'] = some (or0 (cmpI a a') (or0 (cmpI b b') (or0 (cmpI c c') (cmpI d d')))) := by
  unfold slices_Compare_int_int
  rw [range_loop (l := [a, b, c, d]) (fun i x => if cmpI x (([a', b', c', d'] : List Int).getD i 0) = 0 then none else some (.inr (cmpI x (([a', b', c', d'] : List Int).getD i 0)))) (.inl ()) (by simp)]
  · unfold or0
    by_cases h1 : cmpI a a' = 0 <;> by_cases h2 : cmpI b b' = 0 <;> by_cases h3 : cmpI c c' = 0 <;> by_cases h4 : cmpI d d' = 0 <;> simp [scan, h1, h2, h3, h4]
  · intro i hi
    unfold slices_Compare_int_int_x1
    have hc : (i : Int) < ([a, b, c, d] : List Int).length := by omega
    have hi2 : i < ([a', b', c', d'] : List Int).length := by simpa using hi
    have hn : ¬ (([a', b', c', d'] : List Int).length : Int) ≤ i := by omega
    have hg : ([a', b', c', d'] : List Int).getD i 0 = ([a', b', c', d'] : List Int)[i] := by rw [List.getD_eq_getElem?_getD, List.getElem?_eq_getElem hi2]; rfl
    simp only [hc, decide_true, cond_true, at_nat hi, at_nat hi2, Option.bind_some, hn, decide_false, cond_false, cmpInt_eq, hg]
    by_cases h0 : cmpI ([a, b, c, d] : List Int)[i] ([a', b', c', d'] : List Int)[i] = 0 <;> simp [h0]
  · unfold slices_Compare_int_int_x1; simp
/-! ### The code's merging -/
theorem leq_iff {a b : api_Letter} : (decide (a.Id = b.Id) && (decide (a.Slot = b.Slot) && (decide (a.Body = b.Body) && (decide (a.Prio = b.Prio) && (decide (a.At = b.At) && (decide (a.Until = b.Until) && true)))))) = true ↔ a = b := by
  obtain ⟨a1, a2, a3, a4, a5, a6⟩ := a
  obtain ⟨b1, b2, b3, b4, b5, b6⟩ := b
  simp
open Classical in
theorem leq_dec (a b : api_Note) : (!(decide (a.Letter.Id = b.Letter.Id) && (decide (a.Letter.Slot = b.Letter.Slot) && (decide (a.Letter.Body = b.Letter.Body) && (decide (a.Letter.Prio = b.Letter.Prio) && (decide (a.Letter.At = b.Letter.At) && (decide (a.Letter.Until = b.Letter.Until) && true))))))) = decide (qclash a b) := by
  rw [Bool.eq_iff_iff, Bool.not_eq_true', Bool.eq_false_iff, ne_eq, leq_iff, decide_eq_true_iff]
  rfl
open Classical in
theorem mergeN_loop : ∀ (a b out : List api_Note), a.length + b.length + out.length ≤ 10000 →
    (match qmrg a b with
     | some r => ∃ a' b' o', loopO command_Merge_x1 (a, b, out) = some (.inl (a', b', o')) ∧ o' ++ a' ++ b' = out ++ r ∧ o'.length + a'.length + b'.length ≤ 10000
     | none => loopO command_Merge_x1 (a, b, out) = some (.inr ()))
  | [], b, out, hl => by
    rw [qmrg]
    exact ⟨[], b, out, loop_out (by simp [command_Merge_x1, command_Merge_x2]), by simp, by simp at hl ⊢; omega⟩
  | x :: a, [], out, hl => by
    rw [qmrg]
    exact ⟨x :: a, [], out, loop_out (by simp only [command_Merge_x1, command_Merge_x2]; simp), by simp, by simp at hl ⊢; omega⟩
  | x :: a, y :: b, out, hl => by
    have hx2 : command_Merge_x2 (x :: a) (y :: b) = some true := by
      unfold command_Merge_x2
      have h1 : (0 : Int) < (((x :: a).length : Nat) : Int) := by simp only [List.length_cons]; omega
      have h2 : (0 : Int) < (((y :: b).length : Nat) : Int) := by simp only [List.length_cons]; omega
      simp only [h1, h2, decide_true, cond_true]
    have hg : ∀ z : api_Note, Nat.ble (out.length + [z].length) LIM = true := fun z => lim_ok (by simp at hl ⊢; omega)
    have hsc : strings_Compare x.Letter.Id y.Letter.Id = some () := rfl
    rw [qmrg]
    by_cases h1 : nlt (qnm x) (qnm y)
    · rw [if_pos h1]
      have ih := mergeN_loop a (y :: b) (out ++ [x]) (by simp at hl ⊢; omega)
      have e : loopO command_Merge_x1 (x :: a, y :: b, out) = loopO command_Merge_x1 (a, y :: b, out ++ [x]) := loop_in (by
        simp only [command_Merge_x1, hx2, Option.bind_some, cond_true, at_zero, hsc, show Lib.compareBytes x.Letter.Id y.Letter.Id < 0 from h1, decide_true, sub_tail, gd]
        rw [hg]
        rfl)
      rw [e]
      cases hm : qmrg a (y :: b) with
      | none => rw [hm] at ih; exact ih
      | some r =>
        rw [hm] at ih
        obtain ⟨a', b', o', q1, q2, q3⟩ := ih
        exact ⟨a', b', o', q1, by rw [q2]; simp, q3⟩
    · rw [if_neg h1]
      by_cases h2 : nlt (qnm y) (qnm x)
      · rw [if_pos h2]
        have ih := mergeN_loop (x :: a) b (out ++ [y]) (by simp at hl ⊢; omega)
        have e : loopO command_Merge_x1 (x :: a, y :: b, out) = loopO command_Merge_x1 (x :: a, b, out ++ [y]) := loop_in (by
          simp only [command_Merge_x1, hx2, Option.bind_some, cond_true, at_zero, hsc, show ¬ Lib.compareBytes x.Letter.Id y.Letter.Id < 0 from h1, cmp_pos.2 h2, decide_true, decide_false, cond_false, sub_tail, gd]
          rw [hg]
          rfl)
        rw [e]
        cases hm : qmrg (x :: a) b with
        | none => rw [hm] at ih; exact ih
        | some r =>
          rw [hm] at ih
          obtain ⟨a', b', o', q1, q2, q3⟩ := ih
          exact ⟨a', b', o', q1, by rw [q2]; simp, q3⟩
      · rw [if_neg h2]
        have n2 : ¬ 0 < Lib.compareBytes x.Letter.Id y.Letter.Id := fun h => h2 (cmp_pos.1 h)
        by_cases h3 : qclash x y
        · rw [if_pos h3]
          refine loop_out ?_
          simp only [command_Merge_x1, hx2, Option.bind_some, cond_true, at_zero, hsc, show ¬ Lib.compareBytes x.Letter.Id y.Letter.Id < 0 from h1, n2, decide_false, cond_false, leq_dec, h3, decide_true]
        · rw [if_neg h3]
          have ih := mergeN_loop a b (out ++ [qpick x y]) (by simp at hl ⊢; omega)
          have hx3 : command_Merge_x3 (y :: b) x = some (qpick x y) := by
            unfold command_Merge_x3 qpick
            have hf : command_further (api_Note.mk (api_Letter.mk y.Letter.Id y.Letter.Slot y.Letter.Body y.Letter.Prio y.Letter.At y.Letter.Until) y.State y.Tries y.Since) (api_Note.mk (api_Letter.mk x.Letter.Id x.Letter.Slot x.Letter.Body x.Letter.Prio x.Letter.At x.Letter.Until) x.State x.Tries x.Since) = some (fur y x) := further_eq y x
            simp only [at_zero, Option.bind_some, hf]
            by_cases h4 : 0 < fur y x <;> simp [h4]
          have e : loopO command_Merge_x1 (x :: a, y :: b, out) = loopO command_Merge_x1 (a, b, out ++ [qpick x y]) := loop_in (by
            simp only [command_Merge_x1, hx2, Option.bind_some, cond_true, at_zero, hsc, show ¬ Lib.compareBytes x.Letter.Id y.Letter.Id < 0 from h1, n2, decide_false, cond_false, leq_dec, h3, hx3, sub_tail, gd]
            have := hg (api_Note.mk (api_Letter.mk (qpick x y).Letter.Id (qpick x y).Letter.Slot (qpick x y).Letter.Body (qpick x y).Letter.Prio (qpick x y).Letter.At (qpick x y).Letter.Until) (qpick x y).State (qpick x y).Tries (qpick x y).Since)
            rw [this]
            rfl)
          rw [e]
          cases hm : qmrg a b with
          | none => rw [hm] at ih; exact ih
          | some r =>
            rw [hm] at ih
            obtain ⟨a', b', o', q1, q2, q3⟩ := ih
            exact ⟨a', b', o', q1, by rw [q2]; simp, q3⟩
termination_by a b => a.length + b.length
theorem MergeN_eq {a b : List api_Note} (ka : ∀ n ∈ a, KN n) (kb : ∀ n ∈ b, KN n) (la : a.length ≤ 5) (lb : b.length ≤ 5) :
    command_Merge a b = some (if or0 (nfR a) (nfR b) = 0 then (match qmrg a b with | some r => (r, 0) | none => ([], 13)) else ([], or0 (nfR a) (nfR b))) := by
  unfold command_Merge
  simp only [CheckNotes_eq (show a.length ≤ 400 by omega) ka, CheckNotes_eq (show b.length ≤ 400 by omega) kb, Option.bind_some, First_ab]
  by_cases h0 : or0 (nfR a) (nfR b) = 0
  · simp only [h0, decide_true, Bool.not_true, cond_false, if_true]
    obtain ⟨z1, z2⟩ := or0_zero.1 h0
    have hsp := qmrg_spec a b (nf_sorted z1) (nf_sorted z2)
    have := mergeN_loop a b [] (by simp; omega)
    cases hm : qmrg a b with
    | none => rw [hm] at this; rw [this]; rfl
    | some r =>
      rw [hm] at this hsp
      obtain ⟨a', b', o', q1, q2, q3⟩ := this
      have hlr := hsp.2.2.2.2
      have hg : ¬ (1500 : Int) < (r.length : Int) := by omega
      rw [q1]
      simp only [Option.bind_some]
      rw [concat3N_eq (by omega) (by omega) (by omega)]
      simp only [Option.bind_some]
      rw [q2, List.nil_append]
      simp only [hg, decide_false, cond_false]
  · simp [h0]

/-! ### The reference's merging -/
def Dst (l : List api_Note) : Prop := l.Pairwise fun x y => x.Letter.Id ≠ y.Letter.Id
theorem nsrt_dst {l : List api_Note} (h : NSrt l) : Dst l := List.Pairwise.imp (fun h => nlt_ne h) h
theorem dst_one {l : List api_Note} (h : Dst l) {x y : api_Note} (hx : x ∈ l) (hy : y ∈ l) (e : qnm x = qnm y) : x = y := by
  obtain ⟨i, hi, rfl⟩ := List.mem_iff_getElem.1 hx
  obtain ⟨j, hj, rfl⟩ := List.mem_iff_getElem.1 hy
  rcases Nat.lt_trichotomy i j with h1 | h1 | h1
  · exact absurd e ((List.pairwise_iff_getElem.1 h) i j hi hj h1)
  · subst h1; rfl
  · exact absurd e.symm ((List.pairwise_iff_getElem.1 h) j i hj hi h1)
theorem qlk_dst {l : List api_Note} (h : Dst l) {n : List UInt8} {c : api_Note} : qlk l n = some c ↔ c ∈ l ∧ qnm c = n := by
  refine ⟨qlk_some, fun ⟨h1, h2⟩ => ?_⟩
  cases hq : qlk l n with
  | none => exact absurd h2 (qlk_none.1 hq c h1)
  | some d =>
    obtain ⟨d1, d2⟩ := qlk_some hq
    rw [dst_one h d1 h1 (d2.trans h2.symm)]
theorem qlk_ext2 {l m : List api_Note} {n : List UInt8} (hl : Dst l) {x : Option api_Note} (h : ∀ c, (c ∈ l ∧ qnm c = n) ↔ x = some c) : qlk l n = x := by
  cases hx : x with
  | none =>
    rw [qlk_none]
    intro c hc e
    have := (h c).1 ⟨hc, e⟩
    rw [hx] at this; cases this
  | some c => exact (qlk_dst hl).2 ((h c).2 hx)
theorem idxN {out : List api_Note} (y : api_Note) (hl : out.length ≤ 1000) : ∃ r, slices_IndexFunc_api_Note_api_Note_f1_fleetref2_NotesOf_1 out y = some r ∧ ((r = -1 ∧ ∀ x ∈ out, qnm x ≠ qnm y) ∨ ∃ (i : Nat) (h : i < out.length), r = (i : Int) ∧ qnm out[i] = qnm y) := by
  unfold slices_IndexFunc_api_Note_api_Note_f1_fleetref2_NotesOf_1
  have hloop : Ok (loopO (slices_IndexFunc_api_Note_api_Note_f1_fleetref2_NotesOf_1_x1 out y) 0) (fun r => match r with | .inl _ => ∀ x ∈ out, qnm x ≠ qnm y | .inr v => ∃ (i : Nat) (h : i < out.length), v = (i : Int) ∧ qnm out[i] = qnm y) := by
    refine loop_ok (fun s : Int => ∃ i : Nat, s = (i : Int) ∧ i ≤ out.length ∧ ∀ j (h : j < i) (hl : j < out.length), qnm out[j] ≠ qnm y) (fun s => ((out.length : Int) - s).toNat) ?_ ⟨0, rfl, by omega, fun j h => by omega⟩
    rintro _ ⟨i, rfl, i1, i2⟩
    unfold slices_IndexFunc_api_Note_api_Note_f1_fleetref2_NotesOf_1_x1 fleetref2_NotesOf_1
    by_cases hi : i < out.length
    · have hc : (i : Int) < out.length := by omega
      have w1 : IntKind.wrap .i64 ((i : Int) + 1) = ((i + 1 : Nat) : Int) := by rw [wrap64 (by omega) (by omega)]; omega
      simp only [hc, decide_true, cond_true, at_nat hi, Option.bind_some, w1]
      refine .cond (fun h => .some ⟨i, hi, rfl, by simpa using h⟩) fun h => .some ⟨⟨i + 1, rfl, by omega, fun j hj hjl => ?_⟩, by omega⟩
      by_cases hji : j < i
      · exact i2 j hji hjl
      · have : j = i := by omega
        subst this
        simpa using h
    · have hc : ¬ (i : Int) < out.length := by omega
      simp only [hc, decide_false, cond_false]
      refine .some fun x hx => ?_
      obtain ⟨j, hj, rfl⟩ := List.mem_iff_getElem.1 hx
      exact i2 j (by omega) hj
  obtain ⟨r, r1, r2⟩ := hloop
  rw [r1]
  cases r with
  | inl _ => exact ⟨-1, rfl, .inl ⟨rfl, r2⟩⟩
  | inr v => exact ⟨v, rfl, .inr r2⟩
structure RI (a b : List api_Note) (i : Nat) (out : List api_Note) : Prop where
  len : out.length ≤ a.length + i
  kn : ∀ n ∈ out, KN n
  dst : Dst out
  lk : ∀ n, qlk out n = qcomb (qlk a n) (qlk (b.take i) n)
  free : ∀ n c d, qlk a n = some c → qlk (b.take i) n = some d → ¬ qclash c d
theorem qlk_app (l : List api_Note) (y : api_Note) (n : List UInt8) : qlk (l ++ [y]) n = match qlk l n with | some c => some c | none => if qnm y = n then some y else none := by
  unfold qlk
  rw [List.find?_append]
  cases l.find? fun c => decide (qnm c = n) with
  | some c => rfl
  | none => by_cases h : qnm y = n <;> simp [h]
theorem NotesOf_loop {a b : List api_Note} (ka : ∀ n ∈ a, KN n) (kb : ∀ n ∈ b, KN n) (ha : NSrt a) (hb : NSrt b) (la : a.length ≤ 5) (lb : b.length ≤ 5) :
    Ok (loopO (fleetref2_NotesOf_o1_x1 b) (a, 0)) (fun r => match r with | .inl out => RI a b b.length out | .inr _ => ∃ n c d, qlk a n = some c ∧ qlk b n = some d ∧ qclash c d) := by
  refine loop_ok (fun s : List api_Note × Int => ∃ i : Nat, s.2 = (i : Int) ∧ i ≤ b.length ∧ RI a b i s.1) (fun s => ((b.length : Int) - s.2).toNat) ?_ ⟨0, rfl, by omega, ⟨by simp, ka, nsrt_dst ha, fun n => by rw [List.take_zero]; exact (qcomb_none _).symm, fun n c d _ h => by rw [List.take_zero] at h; cases h⟩⟩
  rintro ⟨out, q⟩ ⟨i, rfl, i1, R⟩
  simp only at R
  unfold fleetref2_NotesOf_o1_x1
  by_cases hi : i < b.length
  · have hc : (i : Int) < b.length := by omega
    have w1 : IntKind.wrap .i64 ((i : Int) + 1) = ((i + 1 : Nat) : Int) := by rw [wrap64 (by omega) (by omega)]; omega
    simp only [hc, decide_true, cond_true]
    have hlo := R.len
    have hbi := List.getElem_mem hi
    have hfree : qlk (b.take i) (qnm b[i]) = none := qlk_none.2 fun c hc e => by
      obtain ⟨j, hj, rfl⟩ := List.mem_iff_getElem.1 hc
      rw [List.length_take] at hj
      rw [List.getElem_take] at e
      exact nlt_ne ((List.pairwise_iff_getElem.1 hb) j i (by omega) hi (by omega)) e
    have htk : b.take (i + 1) = b.take i ++ [b[i]] := List.take_succ_eq_append_getElem hi
    have hlkb : ∀ n, qlk (b.take (i + 1)) n = if qnm b[i] = n then some b[i] else qlk (b.take i) n := by
      intro n
      rw [htk, qlk_app]
      by_cases h : qnm b[i] = n
      · rw [if_pos h, ← h, hfree]
        simp
      · simp only [h, if_false]
        cases qlk (b.take i) n <;> rfl
    have hout := R.lk (qnm b[i])
    rw [hfree, qcomb_none] at hout
    obtain ⟨r, r1, r2⟩ := idxN b[i] (show out.length ≤ 1000 by omega)
    have r1' : slices_IndexFunc_api_Note_api_Note_f1_fleetref2_NotesOf_1 out (api_Note.mk (api_Letter.mk b[i].Letter.Id b[i].Letter.Slot b[i].Letter.Body b[i].Letter.Prio b[i].Letter.At b[i].Letter.Until) b[i].State b[i].Tries b[i].Since) = some r := r1
    have hx2 : Ok (fleetref2_NotesOf_o1_x2 b out i) (fun x => match x with | .inl o2 => RI a b (i + 1) o2 | .inr _ => ∃ n c d, qlk a n = some c ∧ qlk b n = some d ∧ qclash c d) := by
      unfold fleetref2_NotesOf_o1_x2
      simp only [at_nat hi, Option.bind_some, r1']
      rcases r2 with ⟨rfl, hno⟩ | ⟨j, hj, rfl, hid⟩
      · have hn : qlk out (qnm b[i]) = none := qlk_none.2 hno
        rw [hn] at hout
        have hneg : ((-1 : Int) < 0) := by decide
        simp only [hneg, decide_true, cond_true]
        refine .gd (lim_ok (by simp; omega)) (.some ⟨by simp; omega, fun n hn => ?_, ?_, fun n => ?_, fun n c d e1 e2 => ?_⟩)
        · rcases List.mem_append.1 hn with h | h
          · exact R.kn n h
          · rw [List.mem_singleton] at h; rw [h]; exact kb _ hbi
        · refine List.pairwise_append.2 ⟨R.dst, List.pairwise_singleton _ _, fun x hx y hy => ?_⟩
          rw [List.mem_singleton] at hy
          rw [hy]
          exact hno x hx
        · have e : qlk (out ++ [b[i]]) n = _ := qlk_app out b[i] n
          have e' : qlk (out ++ [api_Note.mk (api_Letter.mk b[i].Letter.Id b[i].Letter.Slot b[i].Letter.Body b[i].Letter.Prio b[i].Letter.At b[i].Letter.Until) b[i].State b[i].Tries b[i].Since]) n = _ := e
          rw [e', hlkb]
          by_cases h : qnm b[i] = n
          · rw [if_pos h, ← h, hn, ← hout]
            simp [qcomb]
          · simp only [h, if_false]
            rw [← R.lk]
            cases qlk out n <;> rfl
        · rw [hlkb] at e2
          by_cases h : qnm b[i] = n
          · rw [← h, ← hout] at e1; cases e1
          · rw [if_neg h] at e2
            exact R.free n c d e1 e2
      · have hjn : ¬ (j : Int) < 0 := by omega
        have hos : qlk out (qnm b[i]) = some out[j] := (qlk_dst R.dst).2 ⟨List.getElem_mem hj, hid⟩
        rw [hos] at hout
        simp only [hjn, decide_false, cond_false, at_nat hj, Option.bind_some, leq_dec]
        by_cases hcl : qclash out[j] b[i]
        · simp only [hcl, decide_true, cond_true]
          exact .some ⟨qnm b[i], out[j], b[i], hout.symm, (qlk_dst (nsrt_dst hb)).2 ⟨hbi, rfl⟩, hcl⟩
        · simp only [hcl, decide_false, cond_false]
          have ko := R.kn _ (List.getElem_mem hj)
          have kbi := kb _ hbi
          have g1 : fleetref2_gone (api_Note.mk (api_Letter.mk b[i].Letter.Id b[i].Letter.Slot b[i].Letter.Body b[i].Letter.Prio b[i].Letter.At b[i].Letter.Until) b[i].State b[i].Tries b[i].Since) = _ := gone_eqN kbi.st kbi.since
          have g2 : fleetref2_gone (api_Note.mk (api_Letter.mk out[j].Letter.Id out[j].Letter.Slot out[j].Letter.Body out[j].Letter.Prio out[j].Letter.At out[j].Letter.Until) out[j].State out[j].Tries out[j].Since) = _ := gone_eqN ko.st ko.since
          have hfu : or0 (cmpI (rkS b[i].State) (rkS out[j].State)) (or0 (cmpI b[i].Tries out[j].Tries) (or0 (cmpI (-b[i].Since) (-out[j].Since)) (cmpI (-b[i].State) (-out[j].State)))) = fur b[i] out[j] := by
            rw [cmp_neg, cmp_neg]; rfl
          simp only [g1, g2, Option.bind_some, Compare4, hfu]
          have key : RI a b (i + 1) (out.set j (qpick out[j] b[i])) := by
            have hpk : qnm (qpick out[j] b[i]) = qnm b[i] := (qpick_nm hid).trans hid
            have hmem : ∀ c, c ∈ out.set j (qpick out[j] b[i]) ↔ c = qpick out[j] b[i] ∨ (c ∈ out ∧ qnm c ≠ qnm b[i]) := by
              intro c
              constructor
              · intro hc
                obtain ⟨k, hk, rfl⟩ := List.mem_iff_getElem.1 hc
                rw [List.length_set] at hk
                rw [List.getElem_set]
                by_cases hjk : j = k
                · rw [if_pos hjk]; exact .inl rfl
                · rw [if_neg hjk]
                  refine .inr ⟨List.getElem_mem hk, fun e => ?_⟩
                  rcases Nat.lt_or_gt_of_ne hjk with h | h
                  · exact (List.pairwise_iff_getElem.1 R.dst) j k hj hk h (hid.trans e.symm)
                  · exact (List.pairwise_iff_getElem.1 R.dst) k j hk hj h (e.trans hid.symm)
              · rintro (rfl | ⟨h1, h2⟩)
                · exact List.mem_iff_getElem.2 ⟨j, by simpa using hj, by simp⟩
                · obtain ⟨k, hk, rfl⟩ := List.mem_iff_getElem.1 h1
                  refine List.mem_iff_getElem.2 ⟨k, by simpa using hk, ?_⟩
                  rw [List.getElem_set, if_neg]
                  intro e
                  subst e
                  exact h2 hid
            have hdst : Dst (out.set j (qpick out[j] b[i])) := by
              unfold Dst
              rw [List.pairwise_iff_getElem]
              intro p q hp hq hpq
              rw [List.length_set] at hp hq
              have hne := (List.pairwise_iff_getElem.1 R.dst) p q hp hq hpq
              rw [List.getElem_set, List.getElem_set]
              by_cases e1 : j = p
              · subst e1
                rw [if_pos rfl, if_neg (by omega)]
                intro e
                exact hne ((hid.trans hpk.symm).trans e)
              · rw [if_neg e1]
                by_cases e2 : j = q
                · subst e2
                  rw [if_pos rfl]
                  intro e
                  exact hne (e.trans (hpk.trans hid.symm))
                · rw [if_neg e2]; exact hne
            refine ⟨by simp; omega, fun n hn => ?_, hdst, fun n => ?_, fun n c d e1 e2 => ?_⟩
            · rcases (hmem n).1 hn with rfl | ⟨h, _⟩
              · rcases qpick_or out[j] b[i] with h | h <;> rw [h]
                · exact ko
                · exact kbi
              · exact R.kn n h
            · rw [hlkb]
              by_cases h : qnm b[i] = n
              · rw [if_pos h, ← h, ← hout]
                exact (qlk_dst hdst).2 ⟨(hmem _).2 (.inl rfl), hpk⟩
              · rw [if_neg h, ← R.lk]
                refine qlk_ext2 (m := out) hdst fun c => ?_
                rw [qlk_dst R.dst, hmem]
                constructor
                · rintro ⟨rfl | ⟨h1, _⟩, h2⟩
                  · exact absurd (hpk.symm.trans h2) h
                  · exact ⟨h1, h2⟩
                · rintro ⟨h1, h2⟩
                  exact ⟨.inr ⟨h1, fun e => h (e.symm.trans h2)⟩, h2⟩
            · rw [hlkb] at e2
              by_cases h : qnm b[i] = n
              · rw [if_pos h] at e2
                rw [← h, ← hout] at e1
                cases e1; cases e2; exact hcl
              · rw [if_neg h] at e2
                exact R.free n c d e1 e2
          by_cases h4 : 0 < fur b[i] out[j]
          · simp only [h4, decide_true, cond_true, Int.toNat_natCast]
            have e : qpick out[j] b[i] = b[i] := by unfold qpick; rw [if_pos h4]
            rw [e] at key
            exact .some key
          · simp only [h4, decide_false, cond_false]
            have e : qpick out[j] b[i] = out[j] := by unfold qpick; rw [if_neg h4]
            rw [e, List.set_getElem_self] at key
            exact .some key
    refine hx2.bind fun x hx => ?_
    cases x with
    | inl o2 =>
      simp only [w1]
      exact .some ⟨⟨i + 1, rfl, by omega, hx⟩, by simp only; omega⟩
    | inr _ => exact .some hx
  · have hc : ¬ (i : Int) < b.length := by omega
    have : i = b.length := by omega
    subst this
    simp only [hc, decide_false, cond_false]
    exact .some R
def iN (x y : api_Note) : Int := Lib.compareBytes x.Letter.Id y.Letter.Id
theorem sortNN_eq : slices_SortFunc_api_Note_api_Note_o0_f1_fleetref2_NotesOf_2 = gSF (fun x y => some (iN x y)) := by kernel_rfl
theorem NotesOf_eq {a b : List api_Note} (ka : ∀ n ∈ a, KN n) (kb : ∀ n ∈ b, KN n) (ha : NSrt a) (hb : NSrt b) (la : a.length ≤ 5) (lb : b.length ≤ 5) :
    fleetref2_NotesOf_o1 a b = some (match qmrg a b with | some r => (r, 0) | none => ([], 13)) := by
  obtain ⟨x, x1, x2⟩ := NotesOf_loop ka kb ha hb la lb
  have hsp := qmrg_spec a b ha hb
  unfold fleetref2_NotesOf_o1 slices_Clone_api_Note_api_Note
  rw [lim_ok (show ([] : List api_Note).length + a.length ≤ 100000 by simp; omega)]
  simp only [gd, cond_true, Option.bind_some, x1]
  cases x with
  | inr _ =>
    obtain ⟨n, c, d, c1, c2, c3⟩ := x2
    cases hm : qmrg a b with
    | none => rfl
    | some r =>
      rw [hm] at hsp
      exact absurd c3 (hsp.2.2.1 n c d c1 c2)
  | inl out =>
    have R : RI a b b.length out := x2
    have hlo := R.len
    cases hm : qmrg a b with
    | none =>
      rw [hm] at hsp
      obtain ⟨n, c, d, c1, c2, c3⟩ := hsp
      exact absurd c3 (R.free n c d c1 (by rw [List.take_length]; exact c2))
    | some r =>
      rw [hm] at hsp
      obtain ⟨s1, s2, _⟩ := hsp
      have anti : ∀ x y, iN y x = - iN x y := fun x y => cmpB_anti _ _
      obtain ⟨S, t1, t2, t3⟩ := gSF_ok (f := iN) (c := fun x y => some (iN x y)) (fun _ _ => rfl) anti (fun _ _ _ => cmpB_tr) (l := out) (by omega) (List.Pairwise.imp (fun {x y} h h0 => h (cmpB_zero.1 h0)) R.dst)
      have hS : NSrt S := t3
      have hSr : S = r := qlk_ext hS s1 fun n => by
        rw [s2]
        have hout := R.lk n
        rw [List.take_length] at hout
        rw [← hout]
        refine qlk_ext2 (m := out) (nsrt_dst hS) fun c => ?_
        rw [qlk_dst R.dst, t2.mem_iff]
      subst hSr
      have hl : ¬ (1500 : Int) < (S.length : Int) := by have := t2.length_eq; omega
      simp only [sortNN_eq, t1, Option.bind_some, t2.length_eq, beq_self_eq_true, cond_true]
      rw [← t2.length_eq]
      simp only [hl, decide_false, cond_false]

/-! ### The reference's check -/
theorem range_loopE {τ α ρ : Type} {l : List α} {f : τ → Option (τ ⊕ ρ)} (e : Nat → τ) (g : Nat → α → Option ρ) (done : ρ)
    (hf : ∀ (i : Nat) (h : i < l.length), f (e i) = some (match g i l[i] with | none => .inl (e (i + 1)) | some r => .inr r)) (hd : f (e l.length) = some (.inr done)) :
    loopO f (e 0) = some ((scan g 0 l).getD done) := by
  have key : ∀ (n i : Nat), l.length - i = n → i ≤ l.length → loopO f (e i) = some ((scan g i (l.drop i)).getD done) := by
    intro n
    induction n with
    | zero =>
      intro i h1 h2
      have : i = l.length := by omega
      subst this
      rw [loopO_eq, hd, List.drop_length]
      rfl
    | succ n ih =>
      intro i h1 h2
      have hi : i < l.length := by omega
      rw [loopO_eq, hf i hi, drop_get hi]
      simp only [scan]
      cases hg : g i l[i] with
      | some r => rfl
      | none =>
        simp only [Option.bind_some]
        exact ih (i + 1) (by omega) (by omega)
  exact key l.length 0 (by omega) (by omega)
theorem less_nil (x : List UInt8) : Op.bytesLess x [] = false := by cases x <;> rfl
theorem key_nil : base_Key [] = some false := by kernel_rfl
theorem lcv_nil {x : api_Letter} (h : KL x) (h0 : lcv x = 0) : x.Id ≠ [] := by
  intro e
  have h1 := lcv_own h
  have h2 : command_CheckLetter_x1 x = some true := by
    unfold command_CheckLetter_x1
    rw [e, key_nil]
    rfl
  unfold command_CheckLetter at h1
  rw [h2, h0] at h1
  cases h1
def lastN (l : List api_Note) (i : Nat) : List UInt8 := match i with
  | 0 => []
  | j + 1 => match l[j]? with
    | some p => p.Letter.Id
    | none => []
theorem NotesFault_eq {l : List api_Note} (hl : l.length ≤ 400) (hK : ∀ n ∈ l, KN n) : fleetref2_NotesFault l = some (nfR l) := by
  have h500 : ¬ (1500 : Int) < l.length := by omega
  unfold fleetref2_NotesFault
  simp only [h500, decide_false, cond_false]
  have := range_loopE (l := l) (f := fleetref2_NotesFault_x1 l) (fun i => (lastN l i, (i : Int))) (nfI l) (.inl ()) (fun i hi => by
    have hc : (i : Int) < l.length := by omega
    have hK := hK _ (List.getElem_mem hi)
    have w1 : IntKind.wrap .i64 ((i : Int) + 1) = ((i + 1 : Nat) : Int) := by rw [wrap64 (by omega) (by omega)]; omega
    have e1 : fleetref2_LetterFault (api_Letter.mk l[i].Letter.Id l[i].Letter.Slot l[i].Letter.Body l[i].Letter.Prio l[i].Letter.At l[i].Letter.Until) = some (lcv l[i].Letter) := lcv_ref hK.let_
    have x2 : fleetref2_NotesFault_x2 l[i] = some ((decide (l[i].Tries < 0) || decide (20 < l[i].Tries)) || !(decide (0 ≤ l[i].Since) && decide (l[i].Since ≤ 345686399999))) := by
      unfold fleetref2_NotesFault_x2
      rw [in_not, refMoment]
      simp only [Option.bind_some, Bool.not_not]
      cases (decide (l[i].Tries < 0) || decide (20 < l[i].Tries)) <;> rfl
    have hln : lastN l (i + 1) = l[i].Letter.Id := by
      simp only [lastN, List.getElem?_eq_getElem hi]
    unfold fleetref2_NotesFault_x1 nfI
    simp only [hc, decide_true, cond_true, at_nat hi, Option.bind_some, e1, in_not, Bool.not_not, x2, w1, hln]
    by_cases h0 : lcv l[i].Letter = 0
    · have hob : (Op.bytesLess l[i].Letter.Id (lastN l i) || decide (l[i].Letter.Id = lastN l i)) = obN l i l[i] := by
        cases i with
        | zero =>
          have hne := lcv_nil hK.let_ h0
          show (Op.bytesLess l[0].Letter.Id [] || decide (l[0].Letter.Id = [])) = false
          rw [less_nil]
          simp [hne]
        | succ i =>
          have hil : i < l.length := by omega
          simp only [lastN, obN, List.getElem?_eq_getElem hil]
      simp only [h0, decide_true, Bool.not_true, cond_false, hob]
      cases (decide (l[i].State < 1) || decide (7 < l[i].State)) with
      | true => rfl
      | false =>
        simp only [cond_false]
        cases ((decide (l[i].Tries < 0) || decide (20 < l[i].Tries)) || !(decide (0 ≤ l[i].Since) && decide (l[i].Since ≤ 345686399999))) with
        | true => rfl
        | false =>
          simp only [cond_false]
          cases obN l i l[i] <;> rfl
    · simp [h0]) (by unfold fleetref2_NotesFault_x1; simp)
  have e0 : loopO (fleetref2_NotesFault_x1 l) (([] : List UInt8), 0) = _ := this
  rw [e0]
  unfold nfR
  cases (scan (nfI l) 0 l).getD (.inl ()) <;> rfl

/-! ### The law -/
theorem nEqual_self {l : List api_Note} (hl : (l.length : Int) ≤ 9223372036854775807) : slices_Equal_api_Note_api_Note l l = some true := by
  unfold slices_Equal_api_Note_api_Note
  simp only [decide_true, Bool.not_true, cond_false]
  rw [range_loop (l := l) (fun _ _ => none) (.inl ()) hl]
  · have : ∀ (k : Nat) (m : List api_Note), scan (fun (_ : Nat) (_ : api_Note) => (none : Option (Unit ⊕ Unit))) k m = none := fun k m => scan_none.2 fun _ _ _ => rfl
    rw [this]; rfl
  · intro i hi
    unfold slices_Equal_api_Note_api_Note_x1
    have hc : (i : Int) < l.length := by omega
    simp only [hc, decide_true, cond_true, at_nat hi, Option.bind_some, beq_self_eq_true, Bool.and_self, Bool.and_true]
    rfl
  · unfold slices_Equal_api_Note_api_Note_x1; simp
theorem near_ok {a : List api_Note} (ka : ∀ n ∈ a, KN n) (la : a.length ≤ 4) {k : Nat} {s : fleetmake_Stream} (h : StrOk k s) (hk : k + 100 < 1099511627776) : Ok (loopO (fleetlaw2_NotesMerge_x2 a) (s, a, 0)) (fun l => (∀ n ∈ l, KN n) ∧ l.length ≤ 4) := by
  refine loop_ok (fun q : fleetmake_Stream × List api_Note × Int => ∃ j : Nat, q.2.2 = (j : Int) ∧ j ≤ a.length ∧ StrOk (k + 3 * j) q.1 ∧ (∀ n ∈ q.2.1, KN n) ∧ q.2.1.length = a.length) (fun q => ((a.length : Int) - q.2.2).toNat) ?_ ⟨0, rfl, by omega, by simpa using h, ka, rfl⟩
  rintro ⟨s2, l, i⟩ ⟨j, rfl, j1, j2, j3, j4⟩
  simp only at j2 j3 j4
  unfold fleetlaw2_NotesMerge_x2
  refine .cond (fun hc => ?_) (fun hc => .some ⟨j3, by omega⟩)
  have hc : (j : Int) < a.length := by simpa using hc
  have w1 : IntKind.wrap .i64 ((j : Int) + 1) = ((j + 1 : Nat) : Int) := by rw [wrap64 (by omega) (by omega)]; omega
  refine (Range_ok j2 (by omega) (by omega) (by omega)).bind fun ⟨s3, st⟩ ⟨r1, r2, r3, _⟩ => ?_
  simp only at r1 r2 r3
  have r3 := r3 (by omega)
  refine (Pick_ok r1 (by omega) (by simp) (by simp)).bind fun tries _ => ?_
  have b1 := nxt_mk r1 (by omega)
  refine (Pick_ok b1 (by omega) (by simp) (by simp)).bind fun since hsn => ?_
  simp only [List.mem_cons, List.not_mem_nil, or_false] at hsn
  have hjl : j < l.length := by omega
  have g1 : at? l (j : Int) = some l[j] := at_nat hjl
  have kj := j3 _ (List.getElem_mem hjl)
  have key : ∀ (x y : api_Note), at? ((l.set j x)) (j : Int) = some x := by
    intro x y
    rw [at_nat (by simpa using hjl)]
    simp
  have key2 : ∀ (x y : api_Note), at? ((l.set j x).set j y) (j : Int) = some y := by
    intro x y
    rw [at_nat (by simpa using hjl)]
    simp
  simp only [g1, Option.bind_some, Int.toNat_natCast, key _ l[j], key2, w1]
  refine .some ⟨⟨j + 1, rfl, by omega, StrOk.mono (nxt_mk b1 (by omega)) (by omega), fun n hn => ?_, by simpa using j4⟩, by simp only; omega⟩
  rw [List.set_set, List.set_set] at hn
  rcases List.mem_or_eq_of_mem_set hn with hn | rfl
  · exact j3 n hn
  · refine ⟨kj.let_, by unfold Bd; simp only; omega, by unfold Bd; simp only; omega⟩
theorem NotesMerge_true (L : List Int) (hL : L.length ≤ 9223372036854775807) (hI : ∀ n ∈ L, -9223372036854775808 ≤ n ∧ n ≤ 9223372036854775807) : fleetlaw2_NotesMerge L = some true := by
  apply Ok.eq
  unfold fleetlaw2_NotesMerge
  have h0 : StrOk 0 (fleetmake_Stream.mk L 0) := ⟨Int.le_refl _, by simp, hL, hI⟩
  refine (Notes_ok h0 (by omega)).bind fun ⟨s1, a⟩ ⟨a1, ka, la⟩ => ?_
  simp only at a1 ka la
  refine (Notes_ok a1 (by omega)).bind fun ⟨s2, b0⟩ ⟨b1, kb0, lb0⟩ => ?_
  simp only at b1 kb0 lb0
  have hx1 : Ok (fleetlaw2_NotesMerge_x1 a s2 b0) (fun l => (∀ n ∈ l, KN n) ∧ l.length ≤ 4) := by
    unfold fleetlaw2_NotesMerge_x1 slices_Clone_api_Note_api_Note
    refine (Flip_ok b1 (by omega) (by unfold I64; omega)).bind fun b _ => .cond (fun _ => ?_) (fun _ => .some ⟨kb0, lb0⟩)
    rw [lim_ok (show ([] : List api_Note).length + a.length ≤ 100000 by simp; omega)]
    simp only [gd, cond_true, Option.bind_some]
    exact (near_ok ka la (nxt_mk b1 (by omega)) (by omega)).bind fun l hl => .some hl
  refine hx1.bind fun b ⟨kb, lb⟩ => ?_
  have hm := MergeN_eq ka kb (show a.length ≤ 5 by omega) (show b.length ≤ 5 by omega)
  obtain ⟨r, e, hre, hlen⟩ : ∃ r e, (if or0 (nfR a) (nfR b) = 0 then (match qmrg a b with | some r => (r, (0 : Int)) | none => (([] : List api_Note), 13)) else ([], or0 (nfR a) (nfR b))) = (r, e) ∧ r.length ≤ 100 := by
    by_cases h0 : or0 (nfR a) (nfR b) = 0
    · rw [if_pos h0]
      obtain ⟨z1, z2⟩ := or0_zero.1 h0
      have hsp := qmrg_spec a b (nf_sorted z1) (nf_sorted z2)
      cases hq : qmrg a b with
      | none => exact ⟨[], 13, rfl, by simp⟩
      | some r =>
        rw [hq] at hsp
        exact ⟨r, 0, rfl, by have := hsp.2.2.2.2; omega⟩
    · rw [if_neg h0]
      exact ⟨[], _, rfl, by simp⟩
  rw [hre] at hm
  have hx3 : fleetlaw2_NotesMerge_x3 a b (nfR a) = some (e, r) := by
    unfold fleetlaw2_NotesMerge_x3
    simp only [NotesFault_eq (show b.length ≤ 400 by omega) kb, errs2, Option.bind_some]
    by_cases h0 : or0 (nfR a) (nfR b) = 0
    · rw [if_pos h0] at hre
      obtain ⟨z1, z2⟩ := or0_zero.1 h0
      simp only [h0, decide_true, cond_true]
      rw [NotesOf_eq ka kb (nf_sorted z1) (nf_sorted z2) (by omega) (by omega), hre]
      rfl
    · rw [if_neg h0] at hre
      injection hre with g1 g2
      simp only [h0, decide_false, cond_false]
      rw [g1, g2]
  have hx4 : fleetlaw2_NotesMerge_x4 r e e r = some true := by
    unfold fleetlaw2_NotesMerge_x4
    simp only [decide_true, cond_true, nEqual_self (show (r.length : Int) ≤ 9223372036854775807 by omega), posted_eq, Option.bind_some]
  simp only [hm, NotesFault_eq (show a.length ≤ 400 by omega) ka, CheckNotes_eq (show a.length ≤ 400 by omega) ka, Option.bind_some, decide_true, Bool.not_true, cond_false, hx3, hx4]
  exact .some rfl
end Go.Eng

