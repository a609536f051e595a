/-
What the plain functions of the law CommandsStay answer, part 1.
-/
import Derived.Test.YtfbeijbgfhelfaaGreatDoorGenF
import Derived.KernelRfl
import Derived.Test.YtfbeijbgfhelfaaGreatDoorEngV
/-
Plain functions: what they answer, in total. Loops by an invariant and a measure.
-/
namespace Go.Eng
open Go
set_option linter.unusedVariables false
set_option linter.unusedSimpArgs false

def Ok {α : Type} (x : Option α) (P : α → Prop) : Prop := ∃ r, x = some r ∧ P r
section
variable {α β σ ρ : Type} {P Q : α → Prop} {R : β → Prop}
theorem Ok.some {r : α} (h : P r) : Ok (some r) P := ⟨r, rfl, h⟩
theorem Ok.mono {x : Option α} (h : Ok x P) (hq : ∀ r, P r → Q r) : Ok x Q := let ⟨r, h1, h2⟩ := h; ⟨r, h1, hq r h2⟩
theorem Ok.bind {x : Option α} {f : α → Option β} (h : Ok x P) (hf : ∀ r, P r → Ok (f r) R) : Ok (x.bind f) R := by
  obtain ⟨r, rfl, hr⟩ := h
  exact hf r hr
theorem Ok.cond {b : Bool} {x y : Option α} (ht : b = true → Ok x P) (hf : b = false → Ok y P) : Ok (cond b x y) P := by
  cases b
  · exact hf rfl
  · exact ht rfl
theorem Ok.gd {b : Bool} {x : Option α} (hb : b = true) (h : Ok x P) : Ok (gd b x) P := by
  subst hb; exact h
theorem Ok.eq {x : Option α} {r : α} (h : Ok x fun y => y = r) : x = Option.some r := by
  obtain ⟨y, h1, h2⟩ := h
  rw [h1, h2]
theorem Ok.of_eq {x : Option α} {r : α} (h : x = Option.some r) (hp : P r) : Ok x P := ⟨r, h, hp⟩

theorem loop_ok {f : σ → Option (σ ⊕ ρ)} {Q : ρ → Prop} (I : σ → Prop) (μ : σ → Nat)
    (step : ∀ s, I s → Ok (f s) fun x => match x with | .inl s' => I s' ∧ μ s' < μ s | .inr r => Q r) {s : σ} (h : I s) : Ok (loopO f s) Q := by
  generalize hn : μ s = n
  induction n using Nat.strongRecOn generalizing s with
  | _ n ih =>
    obtain ⟨x, h1, h2⟩ := step s h
    cases x with
    | inl s' =>
      obtain ⟨h3, h4⟩ := h2
      obtain ⟨r, h5, h6⟩ := ih (μ s') (by omega) h3 rfl
      refine ⟨r, ?_, h6⟩
      rw [loopO_eq, h1]
      exact h5
    | inr r =>
      refine ⟨r, ?_, h2⟩
      rw [loopO_eq, h1]
      rfl

theorem at_lt {l : List α} {n : Int} (h : 0 ≤ n) (h2 : n < l.length) : at? l n = Option.some (l[n.toNat]'(by omega)) := by
  unfold at?
  rw [if_pos h, List.getElem?_eq_getElem]
theorem at_nat {l : List α} {n : Nat} (h : n < l.length) : at? l (n : Int) = Option.some l[n] := by
  rw [at_lt (by omega) (by omega)]
  simp
theorem at_ok {l : List α} {n : Int} (h : 0 ≤ n) (h2 : n < l.length) : Ok (at? l n) (fun y => l[n.toNat]? = Option.some y) := by
  refine ⟨_, at_lt h h2, ?_⟩
  rw [List.getElem?_eq_getElem]
theorem at_mem {l : List α} {n : Int} (h : 0 ≤ n) (h2 : n < l.length) : Ok (at? l n) (fun y => y ∈ l) := by
  refine (at_ok h h2).mono fun y hy => List.mem_of_getElem? hy
end

/-! ### Integers of 64 bits -/
def I64 (n : Int) : Prop := -9223372036854775808 ≤ n ∧ n ≤ 9223372036854775807
theorem wrap64 {n : Int} (h : -9223372036854775808 ≤ n) (h2 : n ≤ 9223372036854775807) : IntKind.wrap .i64 n = n := by
  unfold IntKind.wrap
  simp [IntKind.min, IntKind.max, IntKind.bits, IntKind.signed]
  omega
theorem tmod_nonneg {a b : Int} (h : 0 ≤ a) : 0 ≤ a.tmod b := Int.tmod_nonneg b h
theorem tmod_lt' {a b : Int} (h : 0 < b) : a.tmod b < b := Int.tmod_lt_of_pos a h
theorem lim_eq : LIM = 137438953472 := by decide
theorem ble_lim {n : Nat} (h : n ≤ 137438953472) : Nat.ble n LIM = true := by rw [Nat.ble_eq, lim_eq]; exact h
end Go.Eng

/-
Loops over the elements of a list; keys.
-/
namespace Go.Eng
open Go
set_option linter.unusedVariables false
set_option linter.unusedSimpArgs false

/-- The first answer of the elements from number k on. -/
def scan {α ρ : Type} (g : Nat → α → Option ρ) : Nat → List α → Option ρ
  | _, [] => none
  | k, x :: xs => match g k x with
    | some r => some r
    | none => scan g (k + 1) xs

theorem drop_get {α : Type} {l : List α} {i : Nat} (h : i < l.length) : l.drop i = l[i] :: l.drop (i + 1) := List.drop_eq_getElem_cons h

/-- A loop over a list that ends at the first element with an answer. -/
theorem range_loop {α ρ : Type} {l : List α} {f : Int → Option (Int ⊕ ρ)} (g : Nat → α → Option ρ) (done : ρ) (hl : (l.length : Int) ≤ 9223372036854775807)
    (hf : ∀ (i : Nat) (h : i < l.length), f i = some (match g i l[i] with | none => .inl (IntKind.wrap .i64 (i + 1)) | some r => .inr r)) (hd : f l.length = some (.inr done)) :
    loopO f 0 = some ((scan g 0 l).getD done) := by
  have key : ∀ (n i : Nat), l.length - i = n → i ≤ l.length → loopO f i = some ((scan g i (l.drop i)).getD done) := by
    intro n
    induction n with
    | zero =>
      intro i h1 h2
      have : i = l.length := by omega
      subst this
      rw [loopO_eq, hd, List.drop_length]
      rfl
    | succ n ih =>
      intro i h1 h2
      have hi : i < l.length := by omega
      rw [loopO_eq, hf i hi, drop_get hi]
      simp only [scan]
      cases hg : g i l[i] with
      | some r => rfl
      | none =>
        simp only [Option.bind_some]
        rw [wrap64 (by omega) (by omega)]
        exact ih (i + 1) (by omega) (by omega)
  exact key l.length 0 (by omega) (by omega)

theorem scan_none {α ρ : Type} {g : Nat → α → Option ρ} : ∀ {l : List α} {k : Nat}, scan g k l = none ↔ ∀ (i : Nat) (x : α), l[i]? = some x → g (k + i) x = none
  | [], k => by simp [scan]
  | y :: l, k => by
    simp only [scan]
    cases hg : g k y with
    | some r =>
      simp only [reduceCtorEq, false_iff]
      intro h
      have := h 0 y rfl
      rw [Nat.add_zero, hg] at this
      cases this
    | none =>
      simp only
      rw [scan_none]
      constructor
      · intro h i x hi
        cases i with
        | zero => simp at hi; subst hi; exact hg
        | succ i => rw [show k + (i + 1) = k + 1 + i by omega]; exact h i x (by simpa using hi)
      · intro h i x hi
        rw [show k + 1 + i = k + (i + 1) by omega]
        exact h (i + 1) x (by simpa using hi)
/-! ### Keys -/
end Go.Eng

/-
Small checks; the order of measurements.
-/
namespace Go.Eng
open Go
set_option linter.unusedVariables false
set_option linter.unusedSimpArgs false

theorem Out_eq (n low high : Int) : base_Out n low high = some (decide (n < low) || decide (high < n)) := by
  unfold base_Out z77
  by_cases h : n < low <;> simp [h]
theorem Moment_eq (n : Int) : z41 n = some (decide (0 ≤ n) && decide (n ≤ 345686399999)) := by
  unfold z41
  rw [Out_eq]
  simp only [Option.bind_some]
  congr 1
  rw [Bool.eq_iff_iff]
  simp
/-! ### Orders -/
def cmpI (a b : Int) : Int := if a < b then -1 else if b < a then 1 else 0
def or0 (a b : Int) : Int := if a = 0 then b else a
theorem cmpB_anti : ∀ a b : List UInt8, Lib.compareBytes b a = -Lib.compareBytes a b
  | [], [] => rfl
  | [], _ :: _ => rfl
  | _ :: _, [] => rfl
  | x :: a, y :: b => by
    unfold Lib.compareBytes
    by_cases h1 : x < y
    · have h2 : ¬ y < x := UInt8.lt_asymm h1
      simp [h1, h2]
    · by_cases h2 : y < x
      · simp [h1, h2]
      · simp [h1, h2, cmpB_anti a b]
end Go.Eng

/-
Checks of measurements and series, both ways.
-/
namespace Go.Eng
open Go
set_option linter.unusedVariables false
set_option linter.unusedSimpArgs false

theorem cmpInt_eq (a b : Int) : z130 a b = some (cmpI a b) := by
  unfold z130 z152 cmpI
  by_cases h1 : a < b
  · simp [h1]
  · by_cases h2 : b < a <;> simp [h1, h2]
theorem Or_eq (l : List Int) (hl : (l.length : Int) ≤ 9223372036854775807) : z142 l = some ((l.find? fun x => !decide (x = 0)).getD 0) := by
  unfold z142
  rw [range_loop (l := l) (fun _ x => cond (!decide (x = 0)) (some (.inr x)) none) (.inl ()) hl]
  · simp only [Option.bind_some]
    generalize 0 = k
    induction l generalizing k with
    | nil => rfl
    | cons c s ih =>
      simp only [scan, List.find?_cons]
      by_cases hc : c = 0
      · simp only [hc, decide_true, Bool.not_true, cond_false]
        exact ih (by simp at hl; omega) (k + 1)
      · simp [hc]
  · intro i hi
    unfold z145
    rw [at_nat hi]
    have : ((i : Int) < l.length) := by omega
    simp only [this, decide_true, cond_true, Option.bind_some]
    cases (!decide (l[i] = 0)) <;> rfl
  · unfold z145
    simp
/-! ### Check -/
end Go.Eng

/-
Sorting of few elements, and what is left of equal ones, for all kinds of elements.
-/
namespace Go.Eng
open Go
set_option linter.unusedVariables false
set_option linter.unusedSimpArgs false

/-- Two loops side by side, over the same states. -/
theorem loop_two {σ ρ : Type} {f g : σ → Option (σ ⊕ ρ)} (I : σ → Prop) (μ : σ → Nat) (Q : ρ → Prop)
    (step : ∀ s, I s → (∃ s', f s = some (.inl s') ∧ g s = some (.inl s') ∧ I s' ∧ μ s' < μ s) ∨ (∃ r, f s = some (.inr r) ∧ g s = some (.inr r) ∧ Q r)) {s : σ} (h : I s) :
    ∃ r, loopO f s = some r ∧ loopO g s = some r ∧ Q r := by
  generalize hn : μ s = n
  induction n using Nat.strongRecOn generalizing s with
  | _ n ih =>
    rcases step s h with ⟨s', h1, h2, h3, h4⟩ | ⟨r, h1, h2, h3⟩
    · obtain ⟨r, g1, g2, g3⟩ := ih (μ s') (by omega) h3 rfl
      refine ⟨r, ?_, ?_, g3⟩
      · rw [loopO_eq, h1]; exact g1
      · rw [loopO_eq, h2]; exact g2
    · refine ⟨r, ?_, ?_, h3⟩
      · rw [loopO_eq, h1]; rfl
      · rw [loopO_eq, h2]; rfl

theorem loop_in {σ ρ : Type} {f : σ → Option (σ ⊕ ρ)} {s s' : σ} (h : f s = some (.inl s')) : loopO f s = loopO f s' := by rw [loopO_eq, h]; rfl
theorem loop_out {σ ρ : Type} {f : σ → Option (σ ⊕ ρ)} {s : σ} {r : ρ} (h : f s = some (.inr r)) : loopO f s = some r := by rw [loopO_eq, h]; rfl

section
variable {α : Type}
/-! ### Insertion, as the code has it -/
noncomputable def gI3 (cmp : α → α → Option Int) (qa : Int) (vl3 : List α) (vj1 : Int) : Option (Bool) :=
  cond (decide (qa < vj1))
    ((at? vl3 vj1).bind fun vy15 =>
    (at? vl3 (IntKind.wrap .i64 (vj1 - 1))).bind fun vy16 =>
    (cmp vy15 vy16).bind fun vr1_3 =>
    some (decide (vr1_3 < 0)))
    (some false)
noncomputable def gI2 (cmp : α → α → Option Int) (qa : Int) : (List α) × Int → Option (((List α) × Int) ⊕ ((List α)))
  | (vl3, vj1) =>
  (gI3 cmp qa vl3 vj1).bind fun vx4_1 =>
  cond (vx4_1)
    ((at? vl3 (IntKind.wrap .i64 (vj1 - 1))).bind fun vy17 =>
    (at? vl3 vj1).bind fun vy18 =>
    (at? (vl3.set vj1.toNat vy17) (IntKind.wrap .i64 (vj1 - 1))).bind fun vy19 =>
    some (.inl ((vl3.set vj1.toNat vy17).set (IntKind.wrap .i64 (vj1 - 1)).toNat vy18, IntKind.wrap .i64 (vj1 - 1))))
    (some (.inr vl3))
noncomputable def gI1 (cmp : α → α → Option Int) (qa : Int) (qb : Int) : (List α) × Int → Option (((List α) × Int) ⊕ ((List α)))
  | (vl, vi) =>
  cond (decide (vi < qb))
    ((loopO (gI2 cmp qa) (vl, vi)).bind fun vl4_1 =>
    some (.inl (vl4_1, IntKind.wrap .i64 (vi + 1))))
    (some (.inr vl))
noncomputable def gI (cmp : α → α → Option Int) (qdata : List α) (qa : Int) (qb : Int) : Option ((List α)) :=
  (loopO (gI1 cmp qa qb) (qdata, IntKind.wrap .i64 (qa + 1))).bind fun vl5_1 =>
  some vl5_1
noncomputable def gS1 (cmp : α → α → Option Int) (qn : Int) : (List α) × Int × Int → Option (((List α) × Int × Int) ⊕ (((List α) × Int)))
  | (vl, va, vb) =>
  cond (decide (vb ≤ qn))
    ((gI cmp vl va vb).bind fun vl6_1 =>
    gd (vl6_1.length == vl.length) <|
    some (.inl (vl6_1, vb, IntKind.wrap .i64 (vb + 20))))
    (some (.inr (vl, va)))
noncomputable def gS3 (qn : Int) (vblockSize : Int) : Unit → Option ((Unit) ⊕ (Unit))
  | _ =>
  cond (decide ((IntKind.wrap .i64 ((2 : Int) * vblockSize)) ≤ qn))
    (none)
    (some (.inr ()))
noncomputable def gS2 (qn : Int) (vblockSize : Int) : Option ((Int) ⊕ (Unit)) :=
  cond (decide (vblockSize < qn))
    ((loopO (gS3 qn vblockSize) ()).bind fun _ =>
    cond (decide ((IntKind.wrap .i64 ((0 : Int) + vblockSize)) < qn))
      (none)
      (some (.inl (IntKind.wrap .i64 (vblockSize * 2)))))
    (some (.inr ()))
noncomputable def gS (cmp : α → α → Option Int) (qdata : List α) (qn : Int) : Option ((List α)) :=
  (loopO (gS1 cmp qn) (qdata, 0, 20)).bind fun (vl1_1, va1_1) =>
  (gI cmp vl1_1 va1_1 qn).bind fun vl6_2 =>
  gd (vl6_2.length == vl1_1.length) <|
  (loopO (gS2 qn) 20).bind fun _ =>
  some vl6_2
noncomputable def gSort (cmp : α → α → Option Int) (qx : List α) : Option ((List α)) :=
  (gS cmp qx (qx.length : Int)).bind fun vl2 =>
  gd (vl2.length == qx.length) <|
  some vl2

def All (p : α → Prop) (l : List α) : Prop := ∀ x ∈ l, p x
theorem All.nil {p : α → Prop} : All p [] := fun _ h => nomatch h
theorem All.set {p : α → Prop} {l : List α} (h : All p l) {i : Nat} {x : α} (hx : p x) : All p (l.set i x) := by
  intro y hy
  rcases List.mem_or_eq_of_mem_set hy with hy | rfl
  · exact h y hy
  · exact hx
theorem All.at {p : α → Prop} {l : List α} (h : All p l) {i : Nat} (hi : i < l.length) : p l[i] := h _ (List.getElem_mem hi)

theorem at_i {l : List α} {n : Int} (h : 0 ≤ n) (h2 : n < l.length) : ∃ y, at? l n = some y ∧ y ∈ l := ⟨_, at_lt h h2, List.getElem_mem _⟩

theorem gI2_both {p : α → Prop} {c1 c2 : α → α → Option Int} (hc : ∀ x y, p x → p y → ∃ c, c1 x y = some c ∧ c2 x y = some c) {n : Nat} (hn : n ≤ 100000) {a j : Int} {l : List α} (ha : 0 ≤ a) (hj : a ≤ j ∧ j < n) (hl : l.length = n) (hp : All p l) :
    ∃ r, loopO (gI2 c1 a) (l, j) = some r ∧ loopO (gI2 c2 a) (l, j) = some r ∧ (r.length = n ∧ All p r) := by
  refine loop_two (fun s : List α × Int => s.1.length = n ∧ All p s.1 ∧ a ≤ s.2 ∧ s.2 < n) (fun s => s.2.toNat) _ ?_ ⟨hl, hp, hj.1, hj.2⟩
  rintro ⟨l, j⟩ ⟨h1, h2, h3, h4⟩
  simp only at h1 h2 h3 h4
  unfold gI2 gI3
  by_cases hc' : a < j
  · have w1 : IntKind.wrap .i64 (j - 1) = j - 1 := wrap64 (by omega) (by omega)
    obtain ⟨y, y1, y2⟩ := at_i (l := l) (n := j) (by omega) (by omega)
    obtain ⟨z, z1, z2⟩ := at_i (l := l) (n := j - 1) (by omega) (by omega)
    obtain ⟨u, u1, u2⟩ := at_i (l := l.set j.toNat z) (n := j - 1) (by omega) (by simp; omega)
    obtain ⟨c, e1, e2⟩ := hc y z (h2 y y2) (h2 z z2)
    simp only [hc', decide_true, cond_true, w1, y1, z1, u1, Option.bind_some, e1, e2]
    cases decide (c < 0) with
    | true =>
      left
      exact ⟨((l.set j.toNat z).set (j - 1).toNat y, j - 1), rfl, rfl, ⟨by simp [h1], (h2.set (h2 z z2)).set (h2 y y2), by simp only; omega, by simp only; omega⟩, by simp only; omega⟩
    | false =>
      right
      exact ⟨l, rfl, rfl, h1, h2⟩
  · right
    simp only [hc', decide_false, cond_false, Option.bind_some]
    exact ⟨l, rfl, rfl, h1, h2⟩

theorem gI_both {p : α → Prop} {c1 c2 : α → α → Option Int} (hc : ∀ x y, p x → p y → ∃ c, c1 x y = some c ∧ c2 x y = some c) {n : Nat} (hn : n ≤ 100000) {l : List α} (hl : l.length = n) (hp : All p l) :
    ∃ r, gI c1 l 0 n = some r ∧ gI c2 l 0 n = some r ∧ (r.length = n ∧ All p r) := by
  have w : IntKind.wrap .i64 ((0 : Int) + 1) = 1 := by decide
  obtain ⟨r, e1, e2, e3⟩ := loop_two (f := gI1 c1 0 n) (g := gI1 c2 0 n) (fun s : List α × Int => s.1.length = n ∧ All p s.1 ∧ 1 ≤ s.2 ∧ s.2 ≤ (n : Int) + 1) (fun s => ((n : Int) + 1 - s.2).toNat) (fun r => r.length = n ∧ All p r) (by
    rintro ⟨l, i⟩ ⟨h1, h2, h3, h4⟩
    simp only at h1 h2 h3 h4
    unfold gI1
    by_cases hi : i < (n : Int)
    · left
      obtain ⟨r, e1, e2, e3, e4⟩ := gI2_both hc hn (a := 0) (j := i) (by omega) (by omega) h1 h2
      simp only [hi, decide_true, cond_true, e1, e2, Option.bind_some]
      rw [wrap64 (n := i + 1) (by omega) (by omega)]
      exact ⟨_, rfl, rfl, ⟨e3, e4, by simp only; omega, by simp only; omega⟩, by simp only; omega⟩
    · right
      simp only [hi, decide_false, cond_false]
      exact ⟨l, rfl, rfl, h1, h2⟩) (s := (l, 1)) ⟨hl, hp, by simp, by simp only; omega⟩
  unfold gI
  rw [w, e1, e2]
  exact ⟨r, rfl, rfl, e3⟩

/-! ### Equal ones, as the code has it -/
noncomputable def gC3 (t : α → α → Option Bool) (qx : List α) (vx : Int) (vl4 : List α) (vx6 : Int) (vx7 : Int) : Option (((List α) × Int)) :=
  gd (decide (0 ≤ vx) && decide (0 ≤ vx7) && decide (vx7 < (qx.length : Int) - vx)) <|
  (at? vl4 (vx + vx7)).bind fun vy13 =>
  gd (decide (0 ≤ vx) && decide (0 ≤ (IntKind.wrap .i64 (vx7 - 1))) && decide ((IntKind.wrap .i64 (vx7 - 1)) < (qx.length : Int) - vx)) <|
  (at? vl4 (vx + (IntKind.wrap .i64 (vx7 - 1)))).bind fun vy14 =>
  (t vy13 vy14).bind fun vr5 =>
  cond (!vr5)
    ((at? vl4 vx6).bind fun vy15 =>
    some (vl4.set vx6.toNat vy13, IntKind.wrap .i64 (vx6 + 1)))
    (some (vl4, vx6))
noncomputable def gC2 (t : α → α → Option Bool) (qx : List α) (vx : Int) : (List α) × Int × Int → Option (((List α) × Int × Int) ⊕ (((List α) × Int)))
  | (vl4, vx6, vx7) =>
  cond (decide (vx7 < (((qx.length : Int).toNat - vx.toNat : Nat) : Int)))
    ((gC3 t qx vx vl4 vx6 vx7).bind fun (vl6_1, vx9_1) =>
    some (.inl (vl6_1, vx9_1, IntKind.wrap .i64 (vx7 + 1))))
    (some (.inr (vl4, vx6)))
noncomputable def gC1 (t : α → α → Option Bool) (z : α) (qx : List α) (vx : Int) : Option ((Int) ⊕ (Unit ⊕ (List α))) :=
  cond (decide (vx < (qx.length : Int)))
    ((at? qx vx).bind fun vy8 =>
    (at? qx (IntKind.wrap .i64 (vx - 1))).bind fun vy9 =>
    (t vy8 vy9).bind fun vr3 =>
    cond (vr3)
      (gd (decide (0 ≤ vx) && decide (vx ≤ (qx.length : Int)) && decide ((qx.length : Int) ≤ (qx.length : Int))) <|
      (loopO (gC2 t qx vx) (qx, vx, 1)).bind fun (vl7_1, vx10_1) =>
      gd (decide (0 ≤ vx10_1) && decide (vx10_1 ≤ (vl7_1.length : Int)) && decide ((vl7_1.length : Int) ≤ (vl7_1.length : Int))) <|
      gd (decide (0 ≤ vx10_1) && decide (vx10_1 ≤ ((vl7_1.take vx10_1.toNat ++ (List.replicate ((vl7_1.length : Int).toNat - vx10_1.toNat) z ++ vl7_1.drop (vx10_1.toNat + ((vl7_1.length : Int).toNat - vx10_1.toNat)))).length : Int))) <|
      some (.inr (.inr ((vl7_1.take vx10_1.toNat ++ (List.replicate ((vl7_1.length : Int).toNat - vx10_1.toNat) z ++ vl7_1.drop (vx10_1.toNat + ((vl7_1.length : Int).toNat - vx10_1.toNat)))).take vx10_1.toNat))))
      (some (.inl (IntKind.wrap .i64 (vx + 1)))))
    (some (.inr (.inl ())))
noncomputable def gCom (t : α → α → Option Bool) (z : α) (qx : List α) : Option ((List α)) :=
  cond (decide ((qx.length : Int) < 2))
    (some qx)
    ((loopO (gC1 t z qx) 1).bind fun x => match x with
      | .inl _ =>
        some qx
      | .inr vx11_1 =>
        some vx11_1)

theorem take_part {l m : List α} {k : Nat} (h : k ≤ l.length) : (l.take k ++ m).take k = l.take k := by
  rw [List.take_append_of_le_length (by simp; omega), List.take_take]
  congr 1
  omega
theorem gCom_ok {p : α → Prop} {t : α → α → Option Bool} (ht : ∀ x y, p x → p y → ∃ b, t x y = some b) {z : α} {l : List α} (hl : l.length ≤ 100000) (hp : All p l) : Ok (gCom t z l) (fun r => r.length ≤ l.length ∧ All p r) := by
  unfold gCom
  refine .cond (fun _ => .some ⟨Nat.le_refl _, hp⟩) (fun hc => ?_)
  have hl2 : (2 : Int) ≤ l.length := by simpa using hc
  refine Ok.bind (P := fun x => match x with | .inl _ => True | .inr r => r.length ≤ l.length ∧ All p r) ?_ (fun x hx => ?_)
  · refine loop_ok (fun k : Int => 1 ≤ k ∧ k ≤ l.length) (fun k => ((l.length : Int) - k).toNat) ?_ ⟨by omega, by omega⟩
    rintro k ⟨k1, k2⟩
    unfold gC1
    refine .cond (fun hk => ?_) (fun _ => .some trivial)
    have hk : k < l.length := by simpa using hk
    have w1 : IntKind.wrap .i64 (k - 1) = k - 1 := wrap64 (by omega) (by omega)
    rw [w1]
    obtain ⟨y, y1, y2⟩ := at_i (l := l) (n := k) (by omega) (by omega)
    obtain ⟨x, x1, x2⟩ := at_i (l := l) (n := k - 1) (by omega) (by omega)
    obtain ⟨b, hb⟩ := ht y x (hp y y2) (hp x x2)
    simp only [y1, x1, hb, Option.bind_some]
    cases b with
    | false =>
      simp only [cond_false]
      rw [wrap64 (n := k + 1) (by omega) (by omega)]
      exact .some ⟨⟨by omega, by omega⟩, by omega⟩
    | true =>
      simp only [cond_true]
      refine .gd (by simp; omega) ?_
      refine Ok.bind (P := fun q : List α × Int => q.1.length = l.length ∧ All p q.1 ∧ 0 ≤ q.2 ∧ q.2 ≤ l.length) ?_ (fun ⟨l7, k9⟩ ⟨q1, q2, q3, q4⟩ => ?_)
      · have hkn : (((l.length : Int).toNat - k.toNat : Nat) : Int) = l.length - k := by omega
        refine loop_ok (fun q : List α × Int × Int => q.1.length = l.length ∧ All p q.1 ∧ (k ≤ q.2.1 ∧ q.2.1 ≤ k + q.2.2 - 1) ∧ 1 ≤ q.2.2 ∧ q.2.2 ≤ l.length - k) (fun q => ((l.length : Int) - q.2.2).toNat) ?_ ⟨rfl, hp, ⟨by simp only; omega, by simp only; omega⟩, by simp only; omega, by simp only; omega⟩
        rintro ⟨m, i, j⟩ ⟨m1, m2, ⟨i1, i2⟩, j1, j2⟩
        simp only at m1 m2 i1 i2 j1 j2
        unfold gC2
        rw [hkn]
        refine .cond (fun hj => ?_) (fun _ => .some ⟨m1, m2, by simp only; omega, by simp only; omega⟩)
        have hj : j < l.length - k := by simpa using hj
        have w2 : IntKind.wrap .i64 (j - 1) = j - 1 := wrap64 (by omega) (by omega)
        refine Ok.bind (P := fun q : List α × Int => q.1.length = l.length ∧ All p q.1 ∧ k ≤ q.2 ∧ q.2 ≤ k + j) ?_ (fun ⟨m', i'⟩ ⟨g1, g2, g3, g4⟩ => ?_)
        · unfold gC3
          rw [w2]
          refine .gd (by simp; omega) ?_
          obtain ⟨y, y1, y2⟩ := at_i (l := m) (n := k + j) (by omega) (by omega)
          obtain ⟨x, x1, x2⟩ := at_i (l := m) (n := k + (j - 1)) (by omega) (by omega)
          obtain ⟨u, u1, u2⟩ := at_i (l := m) (n := i) (by omega) (by omega)
          obtain ⟨b, hb⟩ := ht y x (m2 y y2) (m2 x x2)
          rw [y1]
          simp only [Option.bind_some]
          refine .gd (by simp; omega) ?_
          rw [x1]
          simp only [Option.bind_some, hb, u1]
          rw [wrap64 (n := i + 1) (by omega) (by omega)]
          cases b with
          | true => exact .some ⟨m1, m2, i1, by simp only; omega⟩
          | false => exact .some ⟨by simp [m1], m2.set (m2 y y2), by simp only; omega, by simp only; omega⟩
        · simp only at g1 g2 g3 g4
          rw [wrap64 (n := j + 1) (by omega) (by omega)]
          exact .some ⟨⟨g1, g2, ⟨by simp only; omega, by simp only; omega⟩, by simp only; omega, by simp only; omega⟩, by simp only; omega⟩
      · simp only at q1 q2 q3 q4
        refine .gd (by simp; omega) (.gd ?_ ?_)
        · simp only [Bool.and_eq_true, decide_eq_true_eq]
          refine ⟨q3, ?_⟩
          simp only [List.length_append, List.length_take, List.length_replicate, List.length_drop]
          omega
        · rw [take_part (by omega)]
          refine .some ⟨?_, fun x hx => q2 x (List.mem_of_mem_take hx)⟩
          simp only [List.length_take]; omega
  · cases x with
    | inl _ => exact .some ⟨Nat.le_refl _, hp⟩
    | inr r => exact .some hx

end
end Go.Eng

/-
Insertion sorts; what is left of equal ones rises.
-/
namespace Go.Eng
open Go
set_option linter.unusedVariables false
set_option linter.unusedSimpArgs false
section
variable {α : Type}
/-- the first n are in order -/
def Ord (f : α → α → Int) (l : List α) (n : Nat) : Prop := ∀ p q (hp : p < q) (hq : q < n) (hn : n ≤ l.length), f (l[p]'(by omega)) (l[q]'(by omega)) ≤ 0

theorem gI2_ord {P : α → Prop} {f : α → α → Int} {c : α → α → Option Int} (hc : ∀ x y, P x → P y → c x y = some (f x y)) (anti : ∀ x y, f y x = - f x y) (tr : ∀ x y z, f x y ≤ 0 → f y z ≤ 0 → f x z ≤ 0)
    {n : Nat} (hn : n ≤ 100000) {l : List α} (hl : l.length = n) (hP : All P l) {i : Nat} (hi : i < n) (ho : Ord f l i) :
    Ok (loopO (gI2 c 0) (l, (i : Int))) (fun r => r.length = n ∧ All P r ∧ Ord f r (i + 1)) := by
  refine loop_ok (fun s : List α × Int => s.1.length = n ∧ All P s.1 ∧ ∃ j : Nat, s.2 = (j : Int) ∧ j ≤ i ∧ ∀ p q (hp : p < q) (hq : q ≤ i) (hqj : q ≠ j) (hs : i < s.1.length), f (s.1[p]'(by omega)) (s.1[q]'(by omega)) ≤ 0) (fun s => s.2.toNat) ?_
    ⟨hl, hP, i, rfl, Nat.le_refl _, fun p q hp hq hqj hs => ho p q hp (by omega) (by simp only at hs; omega)⟩
  rintro ⟨m, q⟩ ⟨m1, m2, j, rfl, j1, j2⟩
  simp only at m1 m2 j2
  unfold gI2 gI3
  by_cases hj : (0 : Int) < j
  · have w1 : IntKind.wrap .i64 ((j : Int) - 1) = ((j - 1 : Nat) : Int) := by rw [wrap64 (by omega) (by omega)]; omega
    have hjm : j < m.length := by omega
    have hjm1 : j - 1 < m.length := by omega
    have hy := m2 _ (List.getElem_mem hjm)
    have hx := m2 _ (List.getElem_mem hjm1)
    simp only [hj, decide_true, cond_true, w1, at_nat hjm, at_nat hjm1, Option.bind_some, hc _ _ hy hx]
    refine .cond (fun hlt => ?_) (fun hge => ?_)
    · have hlt := of_decide_eq_true hlt
      have g3 : at? (m.set (j : Int).toNat m[j - 1]) ((j - 1 : Nat) : Int) = some m[j - 1] := by
        rw [at_nat (by simp; omega)]
        simp only [Int.toNat_natCast, List.getElem_set]
        rw [if_neg (by omega)]
      rw [g3]
      simp only [Option.bind_some, Int.toNat_natCast]
      refine .some ⟨⟨by simp [m1], (m2.set hx).set hy, j - 1, rfl, by omega, ?_⟩, by simp only; omega⟩
      intro p q hp hq hqj hs
      simp only [List.getElem_set]
      have hin : i < m.length := by omega
      by_cases q1 : q = j
      · subst q1
        by_cases p1 : p = q - 1
        · subst p1
          have e1 : ¬ (q - 1 = q) := by omega
          simp only [e1, if_true, if_false]
          omega
        · have e1 : ¬ (q - 1 = p) := by omega
          have e2 : ¬ (q = p) := by omega
          have e3 : ¬ (q - 1 = q) := by omega
          simp only [e1, e2, e3, if_true, if_false]
          exact j2 p (q - 1) (by omega) (by omega) (by omega) hin
      · have e4 : ¬ (j = q) := by omega
        have e5 : ¬ (j - 1 = q) := by omega
        simp only [e4, e5, if_false]
        by_cases p1 : p = j - 1
        · subst p1
          simp only [if_true]
          exact j2 j q (by omega) hq q1 hin
        · by_cases p2 : p = j
          · subst p2
            have e6 : ¬ (p - 1 = p) := by omega
            simp only [e6, if_true, if_false]
            exact j2 (p - 1) q (by omega) hq q1 hin
          · have e7 : ¬ (j - 1 = p) := by omega
            have e8 : ¬ (j = p) := by omega
            simp only [e7, e8, if_false]
            exact j2 p q hp hq q1 hin
    · have hge := of_decide_eq_false hge
      refine .some ⟨m1, m2, fun p q hp hq hs => ?_⟩
      have hin : i < m.length := by omega
      by_cases q1 : q = j
      · subst q1
        have h0 : f m[q - 1] m[q] ≤ 0 := by have := anti m[q] m[q - 1]; omega
        by_cases p1 : p = q - 1
        · subst p1; exact h0
        · exact tr _ _ _ (j2 p (q - 1) (by omega) (by omega) (by omega) hin) h0
      · exact j2 p q hp (by omega) q1 hin
  · have hj' : ¬ (0 : Int) < j := hj
    have j0 : j = 0 := by omega
    subst j0
    simp only [hj', decide_false, cond_false, Option.bind_some]
    exact .some ⟨m1, m2, fun p q hp hq hs => j2 p q hp (by omega) (by omega) (by omega)⟩
theorem gI_ord {P : α → Prop} {f : α → α → Int} {c : α → α → Option Int} (hc : ∀ x y, P x → P y → c x y = some (f x y)) (anti : ∀ x y, f y x = - f x y) (tr : ∀ x y z, f x y ≤ 0 → f y z ≤ 0 → f x z ≤ 0)
    {l : List α} (hl : l.length ≤ 100000) (hP : All P l) : Ok (gI c l 0 l.length) (fun r => r.length = l.length ∧ All P r ∧ Ord f r l.length) := by
  unfold gI
  have w : IntKind.wrap .i64 ((0 : Int) + 1) = 1 := by decide
  rw [w]
  refine Ok.bind (P := fun r : List α => r.length = l.length ∧ All P r ∧ Ord f r l.length) (loop_ok (fun s : List α × Int => s.1.length = l.length ∧ All P s.1 ∧ ∃ i : Nat, s.2 = (i : Int) ∧ 1 ≤ i ∧ Ord f s.1 (min i l.length)) (fun s => ((l.length : Int) - s.2).toNat) ?_
    ⟨rfl, hP, 1, rfl, by omega, fun p q hp hq hn => by omega⟩) fun r hr => .some hr
  rintro ⟨m, q⟩ ⟨m1, m2, i, rfl, i1, i2⟩
  simp only at m1 m2 i2
  unfold gI1
  by_cases hi : i < l.length
  · have hi' : (i : Int) < l.length := by omega
    have w1 : IntKind.wrap .i64 ((i : Int) + 1) = ((i + 1 : Nat) : Int) := by rw [wrap64 (by omega) (by omega)]; omega
    simp only [hi', decide_true, cond_true]
    rw [Nat.min_eq_left (by omega)] at i2
    refine (gI2_ord hc anti tr (n := l.length) hl m1 m2 hi i2).bind fun r hr => ?_
    rw [w1]
    refine .some ⟨⟨hr.1, hr.2.1, i + 1, rfl, by omega, ?_⟩, by simp only; omega⟩
    rw [Nat.min_eq_left (by omega)]
    exact hr.2.2
  · have hi' : ¬ (i : Int) < l.length := by omega
    simp only [hi', decide_false, cond_false]
    rw [Nat.min_eq_right (by omega)] at i2
    exact .some ⟨m1, m2, i2⟩
end
end Go.Eng

/-
Loops that only gather.
-/
namespace Go.Eng
open Go
set_option linter.unusedVariables false
set_option linter.unusedSimpArgs false

theorem scan_find0 {α : Type} {p : α → Bool} : ∀ {l : List α} {k : Nat}, ∃ r : Int, (match (scan (fun i x => cond (p x) (some (Sum.inr (i : Int) : Unit ⊕ Int)) none) k l).getD (.inl ()) with | .inl _ => (-1 : Int) | .inr v => v) = r ∧ decide (0 ≤ r) = l.any p
  | [], k => ⟨-1, rfl, rfl⟩
  | x :: l, k => by
    simp only [scan, List.any_cons]
    cases p x with
    | true => exact ⟨k, rfl, by simp⟩
    | false => simp only [cond_false, Bool.false_or]; exact scan_find0 (l := l) (k := k + 1)
/-- A search for the first element that meets a test: is there one? -/
theorem find_loop {α : Type} {l : List α} {f : Int → Option (Int ⊕ (Unit ⊕ Int))} (p : α → Bool) (hl : (l.length : Int) ≤ 9223372036854775807)
    (hf : ∀ (i : Nat) (h : i < l.length), f i = some (cond (p l[i]) (.inr (.inr (i : Int))) (.inl (IntKind.wrap .i64 ((i : Int) + 1))))) (hd : f l.length = some (.inr (.inl ()))) :
    ∃ x, loopO f 0 = some x ∧ decide (0 ≤ (match x with | .inl _ => (-1 : Int) | .inr v => v)) = l.any p := by
  refine ⟨_, range_loop (l := l) (fun i x => cond (p x) (some (.inr (i : Int))) none) (.inl ()) hl (fun i h => ?_) hd, ?_⟩
  · rw [hf i h]
    cases p l[i] <;> rfl
  · obtain ⟨r, h1, h2⟩ := scan_find0 (p := p) (l := l) (k := 0)
    rw [h1]; exact h2
end Go.Eng

/-
What the laws ask of each package once.
-/
namespace Go.Eng
open Go
theorem ready_eq : z439 = some true := by kernel_rfl
end Go.Eng

/-
Twins: the order of names and of stamps; sorted cells as tables; merging.
-/
namespace Go.Eng
open Go
set_option linter.unusedVariables false
set_option linter.unusedSimpArgs false

/-! ### Orders -/
theorem cmpB_tr : ∀ {a b c : List UInt8}, Lib.compareBytes a b ≤ 0 → Lib.compareBytes b c ≤ 0 → Lib.compareBytes a c ≤ 0
  | [], [], c, _, h => h
  | [], _ :: _, [], _, _ => by simp [Lib.compareBytes]
  | [], _ :: _, _ :: _, _, _ => by simp [Lib.compareBytes]
  | _ :: _, [], _, h, _ => by simp [Lib.compareBytes] at h
  | _ :: _, _ :: _, [], _, h => by simp [Lib.compareBytes] at h
  | x :: a, y :: b, z :: c, h1, h2 => by
    unfold Lib.compareBytes at *
    by_cases xy : x < y
    · by_cases yz : y < z
      · simp [UInt8.lt_trans xy yz]
      · by_cases zy : z < y
        · simp [yz, zy] at h2
        · have e : y = z := UInt8.le_antisymm (UInt8.not_lt.1 zy) (UInt8.not_lt.1 yz)
          subst e; simp [xy]
    · by_cases yx : y < x
      · simp [xy, yx] at h1
      · have e : x = y := UInt8.le_antisymm (UInt8.not_lt.1 yx) (UInt8.not_lt.1 xy)
        subst e
        simp only [xy, if_false] at h1
        by_cases xz : x < z
        · simp [xz]
        · by_cases zx : z < x
          · simp [xz, zx] at h2
          · simp only [xz, zx, if_false] at h2 ⊢
            exact cmpB_tr h1 h2
theorem cmpI_zero {a b : Int} : cmpI a b = 0 ↔ a = b := by unfold cmpI; (repeat' split) <;> omega
/-! ### Sorted cells -/
/-! ### Merging -/
end Go.Eng

/-
Twins: the code's merging and checks are those of tables.
-/
namespace Go.Eng
open Go
set_option linter.unusedVariables false
set_option linter.unusedSimpArgs false

theorem lim_ok {n : Nat} (h : n ≤ 100000) : Nat.ble n LIM = true := ble_lim (by omega)

/-! ### Checks -/
end Go.Eng

/-
Twins: merging in any order; what is visible.
-/
namespace Go.Eng
open Go
set_option linter.unusedVariables false
set_option linter.unusedSimpArgs false

/-! ### Merging in any order -/
end Go.Eng

/-
Twins: what is visible; checks of properties; searching.
-/
namespace Go.Eng
open Go
set_option linter.unusedVariables false
set_option linter.unusedSimpArgs false

/-! ### Names below names -/
/-! ### What hides what -/
/-! ### Searching -/
/-! ### Checks of properties -/
/-! ### Equal rows -/
end Go.Eng

/-
What is left of a sorted row, each key once.
-/
namespace Go.Eng
open Go
set_option linter.unusedVariables false
set_option linter.unusedSimpArgs false
section
variable {α : Type}
end
end Go.Eng

/-
The streams.
-/
namespace Go.Eng
open Go
set_option linter.unusedVariables false
set_option linter.unusedSimpArgs false

theorem wrap_I64 (n : Int) : I64 (IntKind.wrap .i64 n) := by
  unfold IntKind.wrap I64
  simp [IntKind.bits, IntKind.signed]
  split <;> omega

theorem Below_eq {x n : Int} (hx : I64 x) (hn : I64 n) : z470 x n = some (if n < 1 then 0 else x % n) := by
  unfold I64 at hx hn
  unfold z470 z473
  by_cases h : n < 1
  · simp [h]
  · have h0 : (n == 0) = false := by simp; omega
    have e := Int.emod_eq_tmod (a := x) (b := n)
    have nn := Int.emod_nonneg x (show n ≠ 0 by omega)
    have lt := Int.emod_lt_of_pos x (show 0 < n by omega)
    simp only [h, decide_false, cond_false, h0, Bool.not_false, gd, cond_true, Option.bind_some, if_false]
    by_cases h3 : x.tmod n < 0
    · simp only [h3, decide_true, cond_true, Option.bind_some]
      split at e
      · omega
      · rw [wrap64 (by omega) (by omega)]
        congr 1
        omega
    · simp only [h3, decide_false, cond_false, Option.bind_some]
      congr 1
      split at e <;> omega
theorem Below_ok {x n : Int} (hx : I64 x) (hn : I64 n) : Ok (z470 x n) (fun r => (1 ≤ n → 0 ≤ r ∧ r < n) ∧ (n < 1 → r = 0)) := by
  refine .of_eq (Below_eq hx hn) ⟨fun h => ?_, fun h => by simp [h]⟩
  rw [if_neg (by omega)]
  exact ⟨Int.emod_nonneg _ (by omega), Int.emod_lt_of_pos _ (by omega)⟩

/-- A stream whose numbers are of 64 bits, of which at most k were taken. -/
def StrOk (k : Nat) (s : z477) : Prop := 0 ≤ s.at_ ∧ s.at_ ≤ k ∧ s.L.length ≤ 9223372036854775807 ∧ ∀ n ∈ s.L, I64 n
theorem StrOk.mono {k k' : Nat} {s : z477} (h : StrOk k s) (hk : k ≤ k') : StrOk k' s := ⟨h.1, by have := h.2.1; omega, h.2.2⟩
/-- One number further. -/
abbrev nxt (s : z477) : z477 := z477.mk s.L (IntKind.wrap .i64 (s.at_ + 1))
theorem StrOk.nxt {k : Nat} {s : z477} (h : StrOk k s) (hk : k < 1099511627776) : StrOk (k + 1) (nxt s) := by
  obtain ⟨h1, h2, h3, h4⟩ := h
  refine ⟨?_, ?_, h3, h4⟩
  · show 0 ≤ IntKind.wrap .i64 (s.at_ + 1)
    rw [wrap64 (by omega) (by omega)]; omega
  · show IntKind.wrap .i64 (s.at_ + 1) ≤ _
    rw [wrap64 (by omega) (by omega)]; omega

theorem Next_ok {k : Nat} {s : z477} {n : Int} (h : StrOk k s) (hk : k < 1099511627776) (hn : I64 n) : Ok (z506 s n) (fun r => (1 ≤ n → 0 ≤ r ∧ r < n) ∧ (n < 1 → r = 0)) := by
  obtain ⟨h1, h2, h3, h4⟩ := h
  unfold z506
  refine .cond (fun _ => ?_) (fun hl => ?_)
  · exact (Below_ok (wrap_I64 _) hn).bind fun r hr => .some hr
  · have hl' : s.L.length ≠ 0 := by simpa using hl
    have e1 : IntKind.wrap .i64 (s.at_ + 1) = s.at_ + 1 := wrap64 (by omega) (by omega)
    have e2 : IntKind.wrap .i64 (s.at_ + 1 - 1) = s.at_ := by rw [wrap64 (by omega) (by omega)]; omega
    refine .gd (by simpa using hl') ?_
    rw [e1, e2]
    refine (at_mem (tmod_nonneg h1) (tmod_lt' (by omega))).bind fun y hy => ?_
    refine (Below_ok (h4 y hy) (by unfold I64; omega)).bind fun r1 hr1 => ?_
    exact (Below_ok (wrap_I64 _) hn).bind fun r hr => .some hr

theorem Pick_ok {k : Nat} {s : z477} {l : List Int} (h : StrOk k s) (hk : k < 1099511627776) (hl : 0 < l.length) (hl2 : l.length < 1000) : Ok (z528 s l) (fun r => r ∈ l) := by
  unfold z528
  refine (Next_ok h hk (by unfold I64; omega)).bind fun r hr => ?_
  have := hr.1 (by omega)
  exact (at_mem this.1 this.2).bind fun y hy => .some hy
theorem Some_ok {k : Nat} {s : z477} {l : List (List UInt8)} (h : StrOk k s) (hk : k < 1099511627776) (hl : 0 < l.length) (hl2 : l.length < 1000) : Ok (z537 s l) (fun r => r ∈ l) := by
  unfold z537
  refine (Next_ok h hk (by unfold I64; omega)).bind fun r hr => ?_
  have := hr.1 (by omega)
  exact (at_mem this.1 this.2).bind fun y hy => .some hy
theorem Flip_ok {k : Nat} {s : z477} {n : Int} (h : StrOk k s) (hk : k < 1099511627776) (hn : I64 n) : Ok (z478 s n) (fun _ => True) := by
  unfold z478
  exact (Next_ok h hk hn).bind fun r hr => .some trivial
theorem Range_ok {k : Nat} {s : z477} {low high : Int} (h : StrOk k s) (hk : k < 1099511627776) (hlow : -4611686018427387903 < low ∧ low < 4611686018427387904) (hh : -4611686018427387904 < high ∧ high < 4611686018427387903) :
    Ok (z531 s low high) (fun r => StrOk (k + 1) r.1 ∧ low ≤ r.2 ∧ (low ≤ high → r.2 ≤ high) ∧ (high < low → r.2 = low)) := by
  unfold z531
  refine .cond (fun hc => ?_) (fun hc => ?_)
  · have hc' : high < low := by simpa using hc
    exact .some ⟨h.mono (by omega), Int.le_refl _, by intro h; omega, fun _ => rfl⟩
  · have hc' : ¬ high < low := by simpa using hc
    have e1 : IntKind.wrap .i64 (high - low) = high - low := wrap64 (by omega) (by omega)
    have e2 : IntKind.wrap .i64 (high - low + 1) = high - low + 1 := wrap64 (by omega) (by omega)
    rw [e1, e2]
    refine (Next_ok h hk (by unfold I64; omega)).bind fun r hr => ?_
    have := hr.1 (by omega)
    refine .some ⟨h.nxt hk, ?_, fun _ => ?_, fun h => by omega⟩
    · show low ≤ IntKind.wrap .i64 (low + r)
      rw [wrap64 (by omega) (by omega)]; omega
    · show IntKind.wrap .i64 (low + r) ≤ high
      rw [wrap64 (by omega) (by omega)]; omega
end Go.Eng

/-
The law CellsInAnyOrder: cells that streams make; cells that are merged in any order.
-/
namespace Go.Eng
open Go
set_option linter.unusedVariables false
set_option linter.unusedSimpArgs false

/-! ### Cells that streams make -/
theorem gSort_ord {α : Type} {P : α → Prop} {f : α → α → Int} {c : α → α → Option Int} (hc : ∀ x y, P x → P y → c x y = some (f x y)) (anti : ∀ x y, f y x = - f x y) (tr : ∀ x y z, f x y ≤ 0 → f y z ≤ 0 → f x z ≤ 0)
    {l : List α} (hl : l.length < 20) (hP : All P l) : Ok (gSort c l) (fun r => r.length = l.length ∧ All P r ∧ Ord f r l.length) := by
  obtain ⟨r, h1, h2, h3, h4⟩ := gI_ord hc anti tr (l := l) (by omega) hP
  have e1 : loopO (gS1 c (l.length : Int)) (l, 0, 20) = some (l, 0) := by
    have : ¬ (20 : Int) ≤ l.length := by omega
    exact loop_out (by simp [gS1, this])
  have e2 : loopO (gS2 (l.length : Int)) 20 = some () := by
    have : ¬ (20 : Int) < l.length := by omega
    exact loop_out (by simp [gS2, this])
  refine ⟨r, ?_, h2, h3, h4⟩
  unfold gSort gS
  simp only [e1, Option.bind_some, h1, h2, beq_self_eq_true, gd, e2, cond_true]

theorem nxt_mk {k : Nat} {s : z477} (h : StrOk k s) (hk : k < 1099511627776) : StrOk (k + 1) (z477.mk s.L (IntKind.wrap .i64 (s.at_ + 1))) := h.nxt hk
/-! ### In any order -/
end Go.Eng

/-
The law CompactStays: what nobody needs any more is left out; what is visible stays, also after a merge with what comes later.
-/
namespace Go.Eng
open Go
set_option linter.unusedVariables false
set_option linter.unusedSimpArgs false

/-! ### Compact -/
/-! ### What is left -/
/-! ### Equal rows of properties -/
/-! ### Later cells -/
end Go.Eng

/-
What is left of a sorted row, each key once, with what is found again.
-/
namespace Go.Eng
open Go
set_option linter.unusedVariables false
set_option linter.unusedSimpArgs false
section
variable {α : Type}
end
end Go.Eng

/-
Twins: names of properties, sorted, each once.
-/
namespace Go.Eng
open Go
set_option linter.unusedVariables false
set_option linter.unusedSimpArgs false

section
variable {α : Type}
end

/-! ### Sorting of strings -/
theorem bitLen12 (n : Nat) (h : n ≤ 12) : Ok (bits_Len (IntKind.wrap .u64 (n : Int))) (fun _ => True) := by
  match n, h with
  | 0, _ => exact ⟨0, by kernel_rfl, trivial⟩
  | 1, _ => exact ⟨1, by kernel_rfl, trivial⟩
  | 2, _ => exact ⟨2, by kernel_rfl, trivial⟩
  | 3, _ => exact ⟨2, by kernel_rfl, trivial⟩
  | 4, _ => exact ⟨3, by kernel_rfl, trivial⟩
  | 5, _ => exact ⟨3, by kernel_rfl, trivial⟩
  | 6, _ => exact ⟨3, by kernel_rfl, trivial⟩
  | 7, _ => exact ⟨3, by kernel_rfl, trivial⟩
  | 8, _ => exact ⟨4, by kernel_rfl, trivial⟩
  | 9, _ => exact ⟨4, by kernel_rfl, trivial⟩
  | 10, _ => exact ⟨4, by kernel_rfl, trivial⟩
  | 11, _ => exact ⟨4, by kernel_rfl, trivial⟩
  | 12, _ => exact ⟨4, by kernel_rfl, trivial⟩
/-! ### Names -/
end Go.Eng

/-
Twins: what is owed.
-/
namespace Go.Eng
open Go
set_option linter.unusedVariables false
set_option linter.unusedSimpArgs false

/-! ### Values of names -/
/-! ### What is visible -/
/-! ### What is gone -/
end Go.Eng

/-
Lists of properties that streams make: they are right.
-/
namespace Go.Eng
open Go
set_option linter.unusedVariables false
set_option linter.unusedSimpArgs false

/-! ### Sorting keeps what there is -/
section
variable {α : Type}
end
/-! ### Values and names -/
/-! ### The reference's check -/
/-! ### Right properties -/
end Go.Eng

/-
Checks of properties: the code's and the reference's say the same.
-/
namespace Go.Eng
open Go
set_option linter.unusedVariables false
set_option linter.unusedSimpArgs false

/-! ### Values -/
theorem in_not (n low high : Int) : z555 n low high = some (!(decide (n < low) || decide (high < n))) := by
  unfold z555 z556
  by_cases h1 : low ≤ n
  · have h2 : ¬ n < low := by omega
    by_cases h3 : n ≤ high
    · have h4 : ¬ high < n := by omega
      simp [h1, h2, h3, h4]
    · have h4 : high < n := by omega
      simp [h1, h2, h3, h4]
  · have h2 : n < low := by omega
    simp [h1, h2]
def KW (w : List UInt8) (b : Bool) : Prop := w.length ≤ 1000 → z81 w = some b ∧ z551 w = some b
/-! ### Names above one another -/
/-! ### The checks -/
end Go.Eng

/-
Properties that streams make, nearly always right ones: names, values, words.
-/
namespace Go.Eng
open Go
set_option linter.unusedVariables false
set_option linter.unusedSimpArgs false

noncomputable def okWord (w : List UInt8) : Bool := match z81 w, z551 w with
  | some a, some b => a == b
  | _, _ => false
end Go.Eng

/-
Twins: cells and properties that streams make, nearly always right ones; checks of cells.
-/
namespace Go.Eng
open Go
set_option linter.unusedVariables false
set_option linter.unusedSimpArgs false

theorem First_ab (a b : Int) : z16 [a, b] = some (or0 a b) := by
  unfold z16 or0
  rw [range_loop (l := [a, b]) (fun _ x => if x = 0 then none else some (.inr x)) (.inl ()) (by simp)]
  · by_cases ha : a = 0 <;> by_cases hb : b = 0 <;> simp [scan, ha, hb]
  · intro i hi
    unfold z19
    have hc : (i : Int) < ([a, b] : List Int).length := by omega
    simp only [hc, decide_true, cond_true, at_nat hi, Option.bind_some]
    by_cases h0 : ([a, b] : List Int)[i] = 0 <;> simp [h0]
  · unfold z19; simp
/-! ### What streams make -/
def Bd (n : Int) : Prop := -2000000000000 ≤ n ∧ n ≤ 2000000000000
theorem OddP_ok {k : Nat} {s : z477} {lo hi : Int} (h : StrOk k s) (hk : k + 10 < 1099511627776) (h1 : -1000000000 ≤ lo ∧ lo ≤ hi ∧ hi ≤ 1000000000) : Ok (z525 s lo hi) (fun r => StrOk (k + 2) r.1 ∧ Bd r.2) := by
  unfold z525
  have a1 := nxt_mk h (by omega)
  refine (Flip_ok h (by omega) (by unfold I64; omega)).bind fun b _ => .cond (fun _ => ?_) (fun _ => ?_)
  · refine (Pick_ok a1 (by omega) (by simp) (by simp)).bind fun n hn => .some ⟨nxt_mk a1 (by omega), ?_⟩
    have w1 : IntKind.wrap .i64 (lo - 1) = lo - 1 := wrap64 (by omega) (by omega)
    have w2 : IntKind.wrap .i64 (hi + 1) = hi + 1 := wrap64 (by omega) (by omega)
    rw [w1, w2] at hn
    simp only [List.mem_cons, List.not_mem_nil, or_false] at hn
    unfold Bd
    simp only
    omega
  · refine (Range_ok a1 (by omega) (by omega) (by omega)).bind fun ⟨s1, n⟩ ⟨r1, r2, r3, _⟩ => ?_
    simp only at r1 r2 r3
    have r3 := r3 (by omega)
    exact .some ⟨r1, by unfold Bd; simp only; omega⟩
/-! ### Checks of cells -/
noncomputable def okBy (n : List UInt8) : Bool := match base_Key n, z541 n with
  | some a, some b => a == b
  | _, _ => false
end Go.Eng

/-
The law CellsSeen: what is visible and what is left out are as specified for all cells.
-/
namespace Go.Eng
open Go
set_option linter.unusedVariables false
set_option linter.unusedSimpArgs false

theorem signR_eq (n : Int) : z559 n = some (if n < 0 then -1 else if 0 < n then 1 else 0) := by
  unfold z559
  by_cases h1 : n < 0
  · simp [h1]
  · by_cases h2 : 0 < n <;> simp [h1, h2]
theorem sign_cmp {a b : Int} (ha : Bd a) (hb : Bd b) : z559 (IntKind.wrap .i64 (a - b)) = some (cmpI a b) := by
  unfold Bd at ha hb
  rw [wrap64 (by omega) (by omega), signR_eq]
  unfold cmpI
  congr 1
  by_cases h1 : a < b
  · rw [if_pos (by omega), if_pos h1]
  · rw [if_neg (by omega), if_neg h1]
    by_cases h2 : b < a
    · rw [if_pos (by omega), if_pos h2]
    · rw [if_neg (by omega), if_neg h2]
end Go.Eng

/-
Maps whose keys are strings, as rows of entries in the order of their keys; sorting of what has an order.
-/
namespace Go.Eng
open Go
set_option linter.unusedVariables false
set_option linter.unusedSimpArgs false

section
variable {β : Type}
end

/-! ### Sorting of what has an order -/
section
variable {α : Type}
/-- the code's sorting of up to twelve: by insertion -/
noncomputable def gPdq (c : α → α → Option Int) (qx : List α) (qx1 qx2 qx3 : Int) : Unit → Option (Unit ⊕ List α)
  | _ => cond (decide ((IntKind.wrap .i64 (qx2 - qx1)) ≤ 12)) ((gI c qx qx1 qx2).bind fun v => gd (v.length == qx.length) <| some (.inr v)) (cond (decide (qx3 = 0)) none none)
noncomputable def gSF (c : α → α → Option Int) (qx : List α) : Option (List α) :=
  (bits_Len (IntKind.wrap .u64 ((qx.length : Int)))).bind fun vr1 =>
  ((loopO (gPdq c qx 0 (qx.length : Int) vr1) ()).bind fun v => some v).bind fun vl2 =>
  gd (vl2.length == qx.length) <|
  some vl2
end
end Go.Eng

/-
The order of letters.
-/
namespace Go.Eng
open Go
set_option linter.unusedVariables false
set_option linter.unusedSimpArgs false
def ids6 : List (List UInt8) := [[108, 97], [108, 98], [108, 99], [108, 100], [108, 101], [108, 102]]
def lF (x y : api_Letter) : Int := or0 (cmpI y.Prio x.Prio) (or0 (cmpI x.At y.At) (Lib.compareBytes x.Id y.Id))
theorem lCmp (x y : api_Letter) : z383 x y = some (lF x y) := by
  unfold z383
  have h : z1102 x.Id y.Id = some () := rfl
  simp only [cmpInt_eq, h, Option.bind_some]
  rw [Or_eq _ (by simp)]
  simp only [Option.bind_some]
  unfold lF or0
  by_cases h1 : cmpI y.Prio x.Prio = 0
  · by_cases h2 : cmpI x.At y.At = 0
    · by_cases h3 : Lib.compareBytes x.Id y.Id = 0
      · simp [h1, h2, h3]
      · simp [h1, h2, h3]
    · simp [h1, h2]
  · simp [h1]
theorem sortL_eq : z797 = gSF z383 := by kernel_rfl
end Go.Eng

/-
Sorting of up to twelve: what two comparisons that agree make is the same.
-/
namespace Go.Eng
open Go
set_option linter.unusedVariables false
set_option linter.unusedSimpArgs false
section
variable {α : Type}
theorem gSF_both {p : α → Prop} {c1 c2 : α → α → Option Int} (hc : ∀ x y, p x → p y → ∃ c, c1 x y = some c ∧ c2 x y = some c) {l : List α} (hl : l.length ≤ 12) (hp : All p l) :
    ∃ r, gSF c1 l = some r ∧ gSF c2 l = some r ∧ (r.length = l.length ∧ All p r) := by
  obtain ⟨r, e1, e2, e3, e4⟩ := gI_both hc (n := l.length) (by omega) rfl hp
  obtain ⟨b, hb, _⟩ := bitLen12 l.length hl
  have w : IntKind.wrap .i64 ((l.length : Int) - 0) = l.length := by rw [wrap64 (by omega) (by omega)]; omega
  have hcc : (l.length : Int) ≤ 12 := by omega
  have key : ∀ c : α → α → Option Int, gI c l 0 (l.length : Int) = some r → gSF c l = some r := by
    intro c h1
    have : loopO (gPdq c l 0 (l.length : Int) b) () = some r := by
      refine loop_out ?_
      unfold gPdq
      rw [w, h1]
      simp only [hcc, decide_true, cond_true, Option.bind_some, gd, e3, beq_self_eq_true]
    unfold gSF
    rw [hb]
    simp only [Option.bind_some]
    rw [this]
    simp only [Option.bind_some, gd, e3, beq_self_eq_true, cond_true]
  exact ⟨r, key c1 e1, key c2 e2, e3, e4⟩
end
end Go.Eng

/-
Letters and posts that streams make, nearly always right ones; checks of them; their order.
-/
namespace Go.Eng
open Go
set_option linter.unusedVariables false
set_option linter.unusedSimpArgs false

/-! ### Checks of letters -/
def id8 : List (List UInt8) := ids6 ++ [[], [65]]
def sl5 : List (List UInt8) := [[], [115, 97], [115, 98], [65], [45]]
def bd6 : List (List UInt8) := [[100, 111], [], [97, 32, 34, 98, 34], [10], [127], [255]]
theorem id8_same : (id8.all okBy) = true := by kernel_rfl
theorem sl5_same : (sl5.all okBy) = true := by kernel_rfl
theorem bd6_same : (bd6.all okWord) = true := by kernel_rfl
theorem okBy_of {n : List UInt8} (h : okBy n = true) : ∃ b, base_Key n = some b ∧ z541 n = some b := by
  unfold okBy at h
  split at h
  · rename_i a b h1 h2
    have : a = b := by simpa using h
    subst this
    exact ⟨a, h1, h2⟩
  · cases h
theorem kw_of {w : List UInt8} (h : w ∈ bd6) : ∃ b, KW w b := by
  have h := List.all_eq_true.1 bd6_same _ h
  unfold okWord at h
  split at h
  · rename_i a b h1 h2
    have : a = b := by simpa using h
    subst this
    exact ⟨a, fun _ => ⟨h1, h2⟩⟩
  · cases h
/-- a letter of which both checks know what to say -/
structure KL (l : api_Letter) : Prop where
  id : ∃ b, base_Key l.Id = some b ∧ z541 l.Id = some b
  slot : ∃ b, base_Key l.Slot = some b ∧ z541 l.Slot = some b
  body : ∃ b, KW l.Body b
  prio : Bd l.Prio
  at_ : Bd l.At
  till : Bd l.Until
theorem refMoment (n : Int) : z550 n = some (decide (0 ≤ n) && decide (n ≤ 345686399999)) := by
  unfold z550
  rw [in_not]
  simp only [Option.bind_some]
  congr 1
  by_cases h1 : n < 0
  · have : ¬ 0 ≤ n := by omega
    simp [h1, this]
  · by_cases h2 : 345686399999 < n
    · have : ¬ n ≤ 345686399999 := by omega
      simp [h2, this]
    · have h3 : 0 ≤ n := by omega
      have h4 : n ≤ 345686399999 := by omega
      simp [h1, h2, h3, h4]
theorem letter_same {l : api_Letter} (h : KL l) : ∃ e, z158 l = some e ∧ z543 l = some e := by
  obtain ⟨b, i1, i2⟩ := h.id
  obtain ⟨c, s1, s2⟩ := h.slot
  obtain ⟨w, hw⟩ := h.body
  obtain ⟨v, v1, v2⟩ : ∃ v, z161 l = some v ∧ z544 l = some v := by
    unfold z161 z544
    rw [i1, i2, s1, s2]
    cases b <;> cases decide (l.Slot = []) <;> exact ⟨_, rfl, rfl⟩
  obtain ⟨u, u1, u2⟩ : ∃ u, z166 l = some u ∧ z545 l = some u := by
    unfold z166 z545
    rw [Out_eq, in_not, Moment_eq, refMoment]
    simp only [Option.bind_some, Bool.not_not]
    cases (decide (l.Prio < 0) || decide (9 < l.Prio)) <;> cases (decide (0 ≤ l.At) && decide (l.At ≤ 345686399999)) <;> cases decide (l.Until ≤ l.At) <;> exact ⟨_, rfl, rfl⟩
  unfold z158 z543
  rw [v1, v2]
  simp only [Option.bind_some]
  cases v with
  | true => exact ⟨5, rfl, rfl⟩
  | false =>
    simp only [cond_false]
    by_cases hl : 1000 < (l.Body.length : Int)
    · simp only [hl, decide_true, cond_true]
      exact ⟨2, rfl, rfl⟩
    · simp only [hl, decide_false, cond_false]
      rw [(hw (by omega)).1, (hw (by omega)).2]
      simp only [Option.bind_some, u1, u2]
      cases w <;> cases u <;> exact ⟨_, rfl, rfl⟩

/-! ### Checks of posts -/
/-! ### Orders of letters -/
theorem contL_eq {l : List api_Letter} (hl : (l.length : Int) ≤ 9223372036854775807) (x : api_Letter) : z719 l x = some (l.any fun y => decide (y.Id = x.Id)) := by
  unfold z719 z771
  obtain ⟨z, h1, h2⟩ := find_loop (l := l) (f := z774 l x) (fun y => decide (y.Id = x.Id)) hl (fun i hi => by
    unfold z774 z365
    have hc : (i : Int) < l.length := by omega
    simp only [hc, decide_true, cond_true, at_nat hi, Option.bind_some]
    cases decide (l[i].Id = x.Id) <;> rfl) (by unfold z774; simp)
  rw [h1, ← h2]
  cases z <;> rfl
theorem contL_ref (l : List api_Letter) (x : api_Letter) : z722 l x = z719 l x := rfl
theorem ord_same {l : List api_Letter} (h : ∀ x ∈ l, KL x) : z549 l = z378 l := by
  funext i
  unfold z549 z378
  cases ha : at? l i with
  | none => rfl
  | some c =>
    have hc : c ∈ l := by
      unfold at? at ha
      split at ha
      · exact List.mem_of_getElem? ha
      · cases ha
    obtain ⟨e, e1, e2⟩ := letter_same (h c hc)
    have e1' : z158 (api_Letter.mk c.Id c.Slot c.Body c.Prio c.At c.Until) = some e := e1
    have e2' : z543 (api_Letter.mk c.Id c.Slot c.Body c.Prio c.At c.Until) = some e := e2
    simp only [Option.bind_some, e1', e2', e1, e2, contL_ref]
theorem ord_loop {l : List api_Letter} (hl : l.length ≤ 400) (h : ∀ x ∈ l, KL x) : Ok (loopO (z378 l) 0) (fun r => match r with | .inl _ => True | .inr e => e ≠ 0) := by
  refine loop_ok (fun s : Int => ∃ i : Nat, s = (i : Int) ∧ i ≤ l.length) (fun s => ((l.length : Int) - s).toNat) ?_ ⟨0, rfl, by omega⟩
  rintro _ ⟨i, rfl, i1⟩
  unfold z378
  by_cases hi : i < l.length
  · have hc : (i : Int) < l.length := by omega
    have w1 : IntKind.wrap .i64 ((i : Int) + 1) = ((i + 1 : Nat) : Int) := by rw [wrap64 (by omega) (by omega)]; omega
    obtain ⟨e, e1, e2⟩ := letter_same (h _ (List.getElem_mem hi))
    have e1' : z158 (api_Letter.mk l[i].Id l[i].Slot l[i].Body l[i].Prio l[i].At l[i].Until) = some e := e1
    have hsub : sub? l 0 (i : Int) = some (l.take i) := by
      unfold sub?
      rw [if_pos ⟨by omega, by omega, by omega⟩]
      simp
    simp only [hc, decide_true, cond_true, at_nat hi, Option.bind_some, e1, e1', hsub, w1]
    refine .cond (fun hz => .some (by simpa using hz)) fun _ => ?_
    rw [contL_eq (by rw [List.length_take]; omega)]
    exact .cond (fun _ => .some (by simp)) fun _ => .some ⟨⟨i + 1, rfl, by omega⟩, by omega⟩
  · have hc : ¬ (i : Int) < l.length := by omega
    simp only [hc, decide_false, cond_false]
    exact .some trivial
theorem LetterOrder_eq {a b : api_Letter} (ha : KL a) (hb : KL b) : z546 a b = some (lF a b) := by
  unfold z546 lF or0
  by_cases h1 : a.Prio = b.Prio
  · have c1 : cmpI b.Prio a.Prio = 0 := cmpI_zero.2 h1.symm
    by_cases h2 : a.At = b.At
    · have c2 : cmpI a.At b.At = 0 := cmpI_zero.2 h2
      simp only [h1, h2, decide_true, Bool.not_true, cond_false, c1, c2, if_true]
      rw [h1] at c1
      rw [h2] at c2
      simp [c1, c2]
      rfl
    · have c2 : cmpI a.At b.At ≠ 0 := fun h => h2 (cmpI_zero.1 h)
      simp only [c1, c2, h1, h2, decide_true, decide_false, Bool.not_true, Bool.not_false, cond_false, cond_true, if_true, if_false, sign_cmp ha.at_ hb.at_, Option.bind_some]
      rw [h1] at c1
      simp [c1]
  · have c1 : cmpI b.Prio a.Prio ≠ 0 := fun h => h1 (cmpI_zero.1 h).symm
    simp only [c1, h1, decide_false, Bool.not_false, cond_true, if_false, sign_cmp hb.prio ha.prio, Option.bind_some]
/-- the code's order and the reference's -/
theorem Order_ok {l : List api_Letter} (hl : l.length ≤ 12) (h : ∀ x ∈ l, KL x) :
    ∃ o e w, z364 l = some (o, e) ∧ z547 l = some e ∧ gSF z546 l = some w ∧ w.length = l.length ∧ ((e = 0 ∧ o = w) ∨ (e ≠ 0 ∧ o = [])) := by
  obtain ⟨w, w1, w2, w3, _⟩ := gSF_both (p := KL) (c1 := z383) (c2 := z546) (fun x y hx hy => ⟨lF x y, lCmp x y, LetterOrder_eq hx hy⟩) hl h
  have h500 : ¬ (500 : Int) < l.length := by omega
  obtain ⟨r, r1, r2⟩ := ord_loop (by omega) h
  unfold z364 z547
  rw [ord_same h, r1]
  simp only [h500, decide_false, cond_false, Option.bind_some]
  cases r with
  | inr e => exact ⟨[], e, w, rfl, rfl, w2, w3, .inr ⟨r2, rfl⟩⟩
  | inl _ =>
    refine ⟨w, 0, w, ?_, rfl, w2, w3, .inl ⟨rfl, rfl⟩⟩
    simp only [z666, gd]
    rw [lim_ok (show ([] : List api_Letter).length + l.length ≤ 100000 by simp; omega)]
    simp only [cond_true, Option.bind_some, sortL_eq, w1, w3, beq_self_eq_true]
end Go.Eng

/-
The law LettersChecked.
-/
namespace Go.Eng
open Go
set_option linter.unusedVariables false
set_option linter.unusedSimpArgs false

/-! ### What streams make -/
theorem id8_ok {n : List UInt8} (h : n ∈ id8) : ∃ b, base_Key n = some b ∧ z541 n = some b := okBy_of (List.all_eq_true.1 id8_same _ h)
theorem sl5_ok {n : List UInt8} (h : n ∈ sl5) : ∃ b, base_Key n = some b ∧ z541 n = some b := okBy_of (List.all_eq_true.1 sl5_same _ h)
theorem RightLetterK_ok {k : Nat} {s : z477} (h : StrOk k s) (hk : k + 10 < 1099511627776) {t : Int} (ht : -10 ≤ t ∧ t ≤ 345686400000) : Ok (z534 s t) (fun l => KL l ∧ l.Id ∈ ids6 ∧ l.At = t ∧ t ≤ l.Until ∧ l.Until ≤ t + 1000) := by
  unfold z534
  have h1 := nxt_mk h (by omega)
  have h2 := nxt_mk h1 (by omega)
  have h3 := nxt_mk h2 (by omega)
  have h4 := nxt_mk h3 (by omega)
  refine (Some_ok h (by omega) (by simp) (by simp)).bind fun a ha => ?_
  refine (Some_ok h1 (by omega) (by simp) (by simp)).bind fun b hb => ?_
  refine (Some_ok h2 (by omega) (by simp) (by simp)).bind fun c hc => ?_
  refine (Pick_ok h3 (by omega) (by simp) (by simp)).bind fun d hd => ?_
  refine (Pick_ok h4 (by omega) (by simp) (by simp)).bind fun e he => .some ?_
  simp at hb hc hd he
  have hd' : 0 ≤ d ∧ d ≤ 9 := by omega
  have he' : 1 ≤ e ∧ e ≤ 1000 := by omega
  have w : IntKind.wrap .i64 (t + e) = t + e := wrap64 (by omega) (by omega)
  rw [w]
  refine ⟨⟨id8_ok (List.mem_append_left _ ha), sl5_ok ?_, kw_of ?_, ?_, ?_, ?_⟩, ha, rfl, by simp only; omega, by simp only; omega⟩
  · rcases hb with h | h | h <;> simp [h, sl5]
  · rcases hc with h | h | h <;> simp [h, bd6]
  · unfold Bd; simp only; omega
  · unfold Bd; simp only; omega
  · unfold Bd; simp only; omega
theorem rep1001b : strings_Repeat [98] 1001 = some (Lib.repeatL [98] 1001) := by
  unfold strings_Repeat
  exact rfl
theorem Letter_ok {k : Nat} {s : z477} (h : StrOk k s) (hk : k + 20 < 1099511627776) {t : Int} (ht : -10 ≤ t ∧ t ≤ 345686400000) : Ok (z481 s t) (fun r => StrOk (k + 12) r.1 ∧ KL r.2) := by
  unfold z481
  refine (RightLetterK_ok h (by omega) ht).bind fun l ⟨hl, _⟩ => ?_
  have a1 := nxt_mk h (by omega)
  have a2 := nxt_mk a1 (by omega)
  have a3 := nxt_mk a2 (by omega)
  have a4 := nxt_mk a3 (by omega)
  have a5 := nxt_mk a4 (by omega)
  have a6 := nxt_mk a5 (by omega)
  have a7 := nxt_mk a6 (by omega)
  have a8 := nxt_mk a7 (by omega)
  have hx : Ok (z484 s l) (fun r => StrOk (k + 12) r.1 ∧ KL r.2) := by
    unfold z484
    refine (Flip_ok a5 (by omega) (by unfold I64; omega)).bind fun b _ => .cond (fun _ => ?_) (fun _ => .some ⟨a6.mono (by omega), hl⟩)
    refine (Next_ok a6 (by omega) (by unfold I64; omega)).bind fun n _ => .cond (fun _ => ?_) (fun _ => .cond (fun _ => ?_) (fun _ => .cond (fun _ => ?_) (fun _ => .cond (fun _ => ?_) (fun _ => ?_))))
    · refine (Some_ok a7 (by omega) (by simp) (by simp)).bind fun w hw => .some ⟨a8.mono (by omega), ⟨id8_ok ?_, hl.slot, hl.body, hl.prio, hl.at_, hl.till⟩⟩
      simp at hw
      rcases hw with h | h <;> subst h <;> simp [id8, ids6]
    · refine (Some_ok a7 (by omega) (by simp) (by simp)).bind fun w hw => .some ⟨a8.mono (by omega), ⟨hl.id, sl5_ok ?_, hl.body, hl.prio, hl.at_, hl.till⟩⟩
      simp at hw
      rcases hw with h | h <;> subst h <;> simp [sl5]
    · rw [rep1001b]
      simp only [Option.bind_some]
      refine (Some_ok a7 (by omega) (by simp) (by simp)).bind fun w hw => .some ⟨a8.mono (by omega), ⟨hl.id, hl.slot, ?_, hl.prio, hl.at_, hl.till⟩⟩
      simp only [List.mem_cons, List.not_mem_nil, or_false] at hw
      rcases hw with h | h | h | h
      · subst h; exact kw_of (by simp [bd6])
      · subst h; exact kw_of (by simp [bd6])
      · subst h; exact kw_of (by simp [bd6])
      · refine ⟨true, fun hl => ?_⟩
        rw [h] at hl
        rw [Lib.repeatL_length] at hl
        simp at hl
    · refine (OddP_ok a7 (by omega) (by omega)).bind fun ⟨s1, m⟩ ⟨r1, r2⟩ => .some ⟨r1.mono (by omega), ⟨hl.id, hl.slot, hl.body, r2, hl.at_, hl.till⟩⟩
    · refine (OddP_ok a7 (by omega) (by omega)).bind fun ⟨s1, m⟩ ⟨r1, r2⟩ => ?_
      simp only at r1 r2
      exact (OddP_ok r1 (by omega) (by omega)).bind fun ⟨s2, u⟩ ⟨q1, q2⟩ => .some ⟨q1.mono (by omega), ⟨hl.id, hl.slot, hl.body, hl.prio, r2, q2⟩⟩
  exact hx.bind fun ⟨s1, l1⟩ hr => .some hr
theorem sortLs_eq : z806 = gSort (fun x y => some (Lib.compareBytes x.Id y.Id)) := by kernel_rfl
theorem comLs_eq : z672 = gCom (fun x y => some (decide (x.Id = y.Id))) (api_Letter.mk [] [] [] 0 0 0) := by kernel_rfl
theorem Letters_ok {k : Nat} {s : z477} (h : StrOk k s) (hk : k + 200 < 1099511627776) {n : Int} (hn : n ≤ 6) : Ok (z488 s n) (fun r => StrOk (k + 100) r.1 ∧ (∀ l ∈ r.2, KL l) ∧ r.2.length ≤ 6) := by
  unfold z488
  have loop : Ok (loopO (z497 n) (s, [], 0)) (fun q => StrOk (k + 90) q.1 ∧ All KL q.2 ∧ q.2.length ≤ 6) := by
    refine loop_ok (fun q : z477 × List api_Letter × Int => ∃ j : Nat, q.2.2 = (j : Int) ∧ (j : Int) ≤ 6 ∧ StrOk (k + 13 * j) q.1 ∧ All KL q.2.1 ∧ q.2.1.length = j) (fun q => ((6 : Int) - q.2.2).toNat) ?_ ⟨0, rfl, by omega, by simpa using h, All.nil, rfl⟩
    rintro ⟨s2, l, i⟩ ⟨j, rfl, j1, j2, j3, j4⟩
    simp only at j2 j3 j4
    unfold z497
    refine .cond (fun hc => ?_) (fun hc => .some ⟨j2.mono (by omega), j3, by simp only; omega⟩)
    have hc : (j : Int) < n := by simpa using hc
    refine (Pick_ok j2 (by omega) (by simp) (by simp)).bind fun t ht => ?_
    simp only [List.mem_cons, List.not_mem_nil, or_false] at ht
    have a1 := nxt_mk j2 (by omega)
    refine (Letter_ok a1 (by omega) (show -10 ≤ t ∧ t ≤ 345686400000 by omega)).bind fun ⟨s3, x⟩ ⟨b1, b2⟩ => ?_
    simp only at b1 b2
    have w1 : IntKind.wrap .i64 ((j : Int) + 1) = ((j + 1 : Nat) : Int) := by rw [wrap64 (by omega) (by omega)]; omega
    refine .gd (lim_ok (by simp; omega)) (.some ⟨⟨j + 1, w1, by omega, StrOk.mono b1 (by omega), ?_, by simp [j4]⟩, ?_⟩)
    · intro y hy
      rcases List.mem_append.1 hy with hy | hy
      · exact j3 y hy
      · rw [List.mem_singleton] at hy; subst hy; exact b2
    · show ((6 : Int) - IntKind.wrap .i64 ((j : Int) + 1)).toNat < _
      rw [w1]; simp only; omega
  refine loop.bind fun ⟨s2, l⟩ ⟨q1, q2, q3⟩ => ?_
  simp only at q1 q2 q3
  have hx : Ok (z502 s2 l) (fun r => (∀ x ∈ r, KL x) ∧ r.length ≤ 6) := by
    unfold z502
    refine (Flip_ok q1 (by omega) (by unfold I64; omega)).bind fun b _ => .cond (fun _ => ?_) (fun _ => .some ⟨q2, q3⟩)
    rw [sortLs_eq]
    refine (gSort_ord (P := KL) (f := fun x y : api_Letter => Lib.compareBytes x.Id y.Id) (c := fun x y => some (Lib.compareBytes x.Id y.Id)) (fun _ _ _ _ => rfl) (fun x y => cmpB_anti _ _) (fun x y z => cmpB_tr) (by omega) q2).bind fun m ⟨m1, m2, _⟩ => ?_
    refine .gd (by simp [m1]) ?_
    rw [comLs_eq]
    exact (gCom_ok (p := KL) (fun x y _ _ => ⟨_, rfl⟩) (l := m) (by omega) m2).bind fun r ⟨t1, t2⟩ => .some ⟨t2, by omega⟩
  exact hx.bind fun r ⟨r1, r2⟩ => .some ⟨(nxt_mk q1 (by omega)).mono (by omega), r1, r2⟩
end Go.Eng

/-
Notes that streams make, nearly always right ones; the code's check of them.
-/
namespace Go.Eng
open Go
set_option linter.unusedVariables false
set_option linter.unusedSimpArgs false

theorem concat3N_eq {a b c : List api_Note} (ha : a.length ≤ 10000) (hb : b.length ≤ 10000) (hc : c.length ≤ 10000) : z706 [a, b, c] = some (a ++ b ++ c) := by
  unfold z706
  have t0 : at? [a, b, c] 0 = some a := rfl
  have t1 : at? [a, b, c] 1 = some b := rfl
  have t2 : at? [a, b, c] 2 = some c := rfl
  have i1 : IntKind.wrap .i64 ((0 : Int) + 1) = 1 := by decide
  have i2 : IntKind.wrap .i64 ((1 : Int) + 1) = 2 := by decide
  have i3 : IntKind.wrap .i64 ((2 : Int) + 1) = 3 := by decide
  have w1 : IntKind.wrap .i64 ((0 : Int) + a.length) = a.length := by rw [wrap64 (by omega) (by omega)]; omega
  have w2 : IntKind.wrap .i64 ((a.length : Int) + b.length) = (a.length : Int) + b.length := wrap64 (by omega) (by omega)
  have w3 : IntKind.wrap .i64 ((a.length : Int) + b.length + c.length) = (a.length : Int) + b.length + c.length := wrap64 (by omega) (by omega)
  have n1 : ¬ (a.length : Int) < 0 := by omega
  have n2 : ¬ (a.length : Int) + b.length < 0 := by omega
  have n3 : ¬ (a.length : Int) + b.length + c.length < 0 := by omega
  have l3 : (([a, b, c] : List (List api_Note)).length : Int) = 3 := rfl
  have h1 : loopO (z709 [a, b, c]) (0, 0) = some ((a.length : Int) + b.length + c.length) := by
    rw [loop_in (s' := ((a.length : Int), (1 : Int))) (by simp only [z709, l3, show ((0 : Int) < 3) by omega, decide_true, cond_true, t0, Option.bind_some, w1, n1, decide_false, cond_false, i1])]
    rw [loop_in (s' := ((a.length : Int) + b.length, (2 : Int))) (by simp only [z709, l3, show ((1 : Int) < 3) by omega, decide_true, cond_true, t1, Option.bind_some, w2, n2, decide_false, cond_false, i2])]
    rw [loop_in (s' := ((a.length : Int) + b.length + c.length, (3 : Int))) (by simp only [z709, l3, show ((2 : Int) < 3) by omega, decide_true, cond_true, t2, Option.bind_some, w3, n3, decide_false, cond_false, i3])]
    exact loop_out (by simp only [z709, l3, show ¬ ((3 : Int) < 3) by omega, decide_false, cond_false])
  have h2 : z764 ((a.length : Int) + b.length + c.length) = some [] := by
    have z : IntKind.wrap .i64 ((0 : Int) - 0) = 0 := by decide
    have z2 : IntKind.wrap .i64 ((a.length : Int) + b.length + c.length - 0) = (a.length : Int) + b.length + c.length := by rw [Int.sub_zero]; exact w3
    unfold z764 z767
    simp only [n3, decide_false, cond_false, z, z2]
    by_cases h0 : (0 : Int) < (a.length : Int) + b.length + c.length
    · have g1 : (decide (0 ≤ (a.length : Int) + b.length + c.length) && decide ((a.length : Int) + b.length + c.length ≤ 137438953472)) = true := by simp; omega
      simp only [h0, decide_true, cond_true, g1, gd]
      have g2 : (0 : Int) ≤ max ((a.length : Int) + b.length + c.length) 0 := by omega
      simp [g2]
    · simp [h0]
  have h3 : loopO (z714 [a, b, c]) ([], 0) = some (a ++ b ++ c) := by
    rw [loop_in (s' := (([] : List api_Note) ++ a, (1 : Int))) (by simp only [z714, l3, show ((0 : Int) < 3) by omega, decide_true, cond_true, t0, Option.bind_some, i1, gd, lim_ok (n := ([] : List api_Note).length + a.length) (by simp; omega)])]
    rw [loop_in (s' := (([] : List api_Note) ++ a ++ b, (2 : Int))) (by simp only [z714, l3, show ((1 : Int) < 3) by omega, decide_true, cond_true, t1, Option.bind_some, i2, gd, lim_ok (n := (([] : List api_Note) ++ a).length + b.length) (by simp; omega)])]
    rw [loop_in (s' := (([] : List api_Note) ++ a ++ b ++ c, (3 : Int))) (by simp only [z714, l3, show ((2 : Int) < 3) by omega, decide_true, cond_true, t2, Option.bind_some, i3, gd, lim_ok (n := (([] : List api_Note) ++ a ++ b).length + c.length) (by simp; omega)])]
    exact loop_out (by simp only [z714, l3, show ¬ ((3 : Int) < 3) by omega, decide_false, cond_false, List.nil_append])
  rw [h1, Option.bind_some, h2, Option.bind_some, h3]
  rfl


/-! ### What streams make -/
/-- a note of which both checks know what to say -/
structure KN (n : api_Note) : Prop where
  let_ : KL n.Letter
  st : Bd n.State
  since : Bd n.Since
theorem kw_one {w : List UInt8} (h : okWord w = true) : ∃ b, KW w b := by
  unfold okWord at h
  split at h
  · rename_i a b h1 h2
    have : a = b := by simpa using h
    subst this
    exact ⟨a, fun _ => ⟨h1, h2⟩⟩
  · cases h
theorem xy_same : okWord [120, 32, 34, 121, 34] = true := by kernel_rfl
theorem kn_of {id slot body : List UInt8} {prio st tries since : Int} (h1 : id ∈ id8) (h2 : slot ∈ sl5) (h3 : ∃ b, KW body b) (h4 : Bd prio) (h5 : Bd st) (h6 : Bd since) : KN (api_Note.mk (api_Letter.mk id slot body prio 0 100) st tries since) :=
  ⟨⟨id8_ok h1, sl5_ok h2, h3, h4, by unfold Bd; simp only; omega, by unfold Bd; simp only; omega⟩, h5, h6⟩
theorem Notes_ok {k : Nat} {s : z477} (h : StrOk k s) (hk : k + 200 < 1099511627776) : Ok (z509 s) (fun r => StrOk (k + 100) r.1 ∧ (∀ n ∈ r.2, KN n) ∧ r.2.length ≤ 4) := by
  unfold z509
  have x3 : ∀ {k : Nat} {s : z477}, StrOk k s → k + 50 < 1099511627776 → ∀ {id slot body : List UInt8} {prio st tries since : Int}, id ∈ id8 → slot ∈ sl5 → (∃ b, KW body b) → Bd prio → Bd st → Bd since →
      Ok (z521 id slot body prio s st tries since) (fun r => StrOk (k + 15) r.1 ∧ KN r.2) := by
    intro k s h hk id slot body prio st tries since h1 h2 h3 h4 h5 h6
    have a1 := nxt_mk h (by omega)
    have a2 := nxt_mk a1 (by omega)
    have a3 := nxt_mk a2 (by omega)
    have a4 := nxt_mk a3 (by omega)
    unfold z521
    refine (Flip_ok a2 (by omega) (by unfold I64; omega)).bind fun b _ => .cond (fun _ => ?_) (fun _ => .some ⟨StrOk.mono a3 (by omega), kn_of h1 h2 h3 h4 h5 h6⟩)
    refine (Some_ok a3 (by omega) (by simp) (by simp)).bind fun w hw => ?_
    refine (OddP_ok a4 (by omega) (by omega)).bind fun ⟨s1, m1⟩ ⟨r1, b1⟩ => ?_
    simp only at r1 b1
    refine (OddP_ok r1 (by omega) (by omega)).bind fun ⟨s2, m2⟩ ⟨r2, b2⟩ => ?_
    simp only at r2 b2
    refine (OddP_ok r2 (by omega) (by omega)).bind fun ⟨s3, m3⟩ ⟨r3, b3⟩ => ?_
    simp only at r3 b3
    refine .some ⟨StrOk.mono r3 (by omega), kn_of ?_ h2 h3 h4 b1 b3⟩
    simp only [List.mem_cons, List.not_mem_nil, or_false] at hw
    rcases hw with e | e | e
    · rw [e]; exact h1
    · rw [e]; simp [id8, ids6]
    · rw [e]; simp [id8, ids6]
  refine Ok.bind (P := fun q : z477 × List api_Note => StrOk (k + 100) q.1 ∧ (∀ n ∈ q.2, KN n) ∧ q.2.length ≤ 4) ?_ fun ⟨s1, l⟩ hr => .some hr
  refine loop_ok (fun q : z477 × List api_Note × Int => ∃ j : Nat, q.2.2 = (j : Int) ∧ j ≤ 4 ∧ StrOk (k + 25 * j) q.1 ∧ (∀ n ∈ q.2.1, KN n) ∧ q.2.1.length ≤ j) (fun q => ((4 : Int) - q.2.2).toNat) ?_ ⟨0, rfl, by omega, by simpa using h, fun n hn => (nomatch hn), by simp⟩
  rintro ⟨s2, l, i⟩ ⟨j, rfl, j1, j2, j3, j4⟩
  simp only at j2 j3 j4
  unfold z512
  refine .cond (fun hc => ?_) (fun hc => .some ⟨j2.mono (by omega), j3, by simp only; omega⟩)
  have hc : j < 4 := by
    have : (j : Int) < 4 := by simpa using hc
    omega
  have w1 : IntKind.wrap .i64 ((j : Int) + 1) = ((j + 1 : Nat) : Int) := by rw [wrap64 (by omega) (by omega)]; omega
  have hx2 : Ok (z517 s2 l j) (fun q => StrOk (k + 25 * (j + 1)) q.1 ∧ (∀ n ∈ q.2, KN n) ∧ q.2.length ≤ j + 1) := by
    have a1 := nxt_mk j2 (by omega)
    have a2 := nxt_mk a1 (by omega)
    have a3 := nxt_mk a2 (by omega)
    have a4 := nxt_mk a3 (by omega)
    unfold z517
    refine (at_mem (by omega) (by simp; omega)).bind fun id hid => ?_
    refine (Flip_ok j2 (by omega) (by unfold I64; omega)).bind fun b _ => .cond (fun _ => .some ⟨StrOk.mono a1 (by omega), j3, by simp only; omega⟩) (fun _ => ?_)
    refine (Some_ok a1 (by omega) (by simp) (by simp)).bind fun slot hs => ?_
    refine (Some_ok a2 (by omega) (by simp) (by simp)).bind fun body hb => ?_
    refine (Pick_ok a3 (by omega) (by simp) (by simp)).bind fun prio hp => ?_
    refine (Range_ok a4 (by omega) (by omega) (by omega)).bind fun ⟨s3, st⟩ ⟨r1, r2, r3, _⟩ => ?_
    simp only at r1 r2 r3
    have r3 := r3 (by omega)
    refine (Pick_ok r1 (by omega) (by simp) (by simp)).bind fun tries _ => ?_
    have b1 := nxt_mk r1 (by omega)
    refine (Pick_ok b1 (by omega) (by simp) (by simp)).bind fun since hsn => ?_
    simp only [List.mem_cons, List.not_mem_nil, or_false] at hid hs hb hp hsn
    refine (x3 r1 (by omega) (id := id) (slot := slot) (body := body) (prio := prio) (st := st) (since := since) ?_ ?_ ?_ ?_ ?_ ?_).bind fun ⟨s4, n⟩ ⟨c1, c2⟩ => ?_
    · rcases hid with h | h | h | h <;> rw [h] <;> simp [id8, ids6]
    · rcases hs with h | h <;> rw [h] <;> simp [sl5]
    · rcases hb with h | h | h <;> rw [h]
      · exact kw_of (by simp [bd6])
      · exact kw_of (by simp [bd6])
      · exact kw_one xy_same
    · unfold Bd; omega
    · unfold Bd; omega
    · unfold Bd; omega
    · simp only at c1 c2
      refine .gd (lim_ok (by simp; omega)) (.some ⟨StrOk.mono c1 (by omega), fun m hm => ?_, by simp; omega⟩)
      rcases List.mem_append.1 hm with hm | hm
      · exact j3 m hm
      · rw [List.mem_singleton] at hm; subst hm; exact c2
  refine hx2.bind fun ⟨s3, l2⟩ ⟨g1, g2, g3⟩ => .some ⟨⟨j + 1, w1, by omega, g1, g2, g3⟩, ?_⟩
  show ((4 : Int) - IntKind.wrap .i64 ((j : Int) + 1)).toNat < _
  rw [w1]; simp only; omega

/-! ### The check -/
noncomputable def lcv (x : api_Letter) : Int := (z158 x).getD 0
theorem lcv_own {x : api_Letter} (h : KL x) : z158 x = some (lcv x) := by
  obtain ⟨e, e1, _⟩ := letter_same h
  unfold lcv
  rw [e1]; rfl
def obN (l : List api_Note) (i : Nat) (n : api_Note) : Bool := match i with
  | 0 => false
  | j + 1 => match l[j]? with
    | some p => Op.bytesLess n.Letter.Id p.Letter.Id || decide (n.Letter.Id = p.Letter.Id)
    | none => false
noncomputable def nfI (l : List api_Note) (i : Nat) (n : api_Note) : Option (Unit ⊕ Int) :=
  bif !decide (lcv n.Letter = 0) then some (.inr (lcv n.Letter)) else bif decide (n.State < 1) || decide (7 < n.State) then some (.inr 4) else
  bif (decide (n.Tries < 0) || decide (20 < n.Tries)) || !(decide (0 ≤ n.Since) && decide (n.Since ≤ 345686399999)) then some (.inr 1) else bif obN l i n then some (.inr 7) else none
noncomputable def nfR (l : List api_Note) : Int := match (scan (nfI l) 0 l).getD (.inl ()) with
  | .inl _ => 0
  | .inr e => e
theorem CheckNotes_eq {l : List api_Note} (hl : l.length ≤ 400) (hK : ∀ n ∈ l, KN n) : z170 l = some (nfR l) := by
  have h500 : ¬ (1500 : Int) < l.length := by omega
  unfold z170
  simp only [h500, decide_false, cond_false]
  rw [range_loop (l := l) (nfI l) (.inl ()) (by omega)]
  · unfold nfR
    cases (scan (nfI l) 0 l).getD (.inl ()) <;> rfl
  · intro i hi
    have hc : (i : Int) < l.length := by omega
    have hK := hK _ (List.getElem_mem hi)
    have e1 : z158 (api_Letter.mk l[i].Letter.Id l[i].Letter.Slot l[i].Letter.Body l[i].Letter.Prio l[i].Letter.At l[i].Letter.Until) = some (lcv l[i].Letter) := lcv_own hK.let_
    have x2 : z186 l[i] = some ((decide (l[i].Tries < 0) || decide (20 < l[i].Tries)) || !(decide (0 ≤ l[i].Since) && decide (l[i].Since ≤ 345686399999))) := by
      unfold z186
      rw [Out_eq, Moment_eq]
      cases (decide (l[i].Tries < 0) || decide (20 < l[i].Tries)) <;> rfl
    have x3 : z190 l i l[i] = some (obN l i l[i]) := by
      unfold z190 obN
      cases i with
      | zero => rfl
      | succ i =>
        have hp0 : (0 : Int) < ((i + 1 : Nat) : Int) := by omega
        have w : IntKind.wrap .i64 (((i + 1 : Nat) : Int) - 1) = (i : Int) := by rw [wrap64 (by omega) (by omega)]; omega
        have hil : i < l.length := by omega
        simp only [hp0, decide_true, cond_true, w, at_nat hil, Option.bind_some, List.getElem?_eq_getElem hil]
    unfold z181 nfI
    simp only [hc, decide_true, cond_true, at_nat hi, Option.bind_some, e1, Out_eq, x2, x3]
    by_cases h0 : lcv l[i].Letter = 0
    · simp only [h0, decide_true, Bool.not_true, cond_false]
      cases (decide (l[i].State < 1) || decide (7 < l[i].State)) with
      | true => rfl
      | false =>
        simp only [cond_false]
        cases ((decide (l[i].Tries < 0) || decide (20 < l[i].Tries)) || !(decide (0 ≤ l[i].Since) && decide (l[i].Since ≤ 345686399999))) with
        | true => rfl
        | false =>
          simp only [cond_false]
          cases obN l i l[i] <;> rfl
    · simp [h0]
  · unfold z181; simp
end Go.Eng

/-
The first of the least numbers of a row, as a loop finds it.
-/
namespace Go.Eng
open Go
set_option linter.unusedVariables false
set_option linter.unusedSimpArgs false
end Go.Eng

/-
A device that remembers letters: what it does, as the code and the reference have it; the law DevicesRemember.
-/
namespace Go.Eng
open Go
set_option linter.unusedVariables false
set_option linter.unusedSimpArgs false

/-! ### The one that ends first goes, where there are too many -/
/-! ### Whether a letter is to be done -/
theorem wEqual_self {l : List (List UInt8)} (hl : (l.length : Int) ≤ 9223372036854775807) : z756 l l = some true := by
  unfold z756
  simp only [decide_true, Bool.not_true, cond_false]
  rw [range_loop (l := l) (fun _ _ => none) (.inl ()) hl]
  · have : ∀ (k : Nat) (m : List (List UInt8)), scan (fun (_ : Nat) (_ : List UInt8) => (none : Option (Unit ⊕ Unit))) k m = none := fun k m => scan_none.2 fun _ _ _ => rfl
    rw [this]; rfl
  · intro i hi
    unfold z759
    have hc : (i : Int) < l.length := by omega
    simp only [hc, decide_true, cond_true, at_nat hi, Option.bind_some, Bool.not_true, cond_false]
  · unfold z759; simp

/-! ### The law -/
end Go.Eng

/-
The law DoneOnce: a device does no letter twice, however often and late it comes.
-/
namespace Go.Eng
open Go
set_option linter.unusedVariables false
set_option linter.unusedSimpArgs false

end Go.Eng

/-
The law CommandsStay: letters and notes that are handed in or handed out stay.
-/
namespace Go.Eng
open Go
set_option linter.unusedVariables false
set_option linter.unusedSimpArgs false

theorem spoilL_ok {l : List api_Letter} (hl : l.length ≤ 1000) : Ok (z446 l) (fun r => r.length = l.length) := by
  unfold z446
  refine Ok.bind (P := fun r : List api_Letter => r.length = l.length) (loop_ok (fun s : List api_Letter × Int => s.1.length = l.length ∧ ∃ i : Nat, s.2 = (i : Int) ∧ i ≤ l.length) (fun s => ((l.length : Int) - s.2).toNat) ?_ ⟨rfl, 0, rfl, by omega⟩) fun r hr => .some hr
  rintro ⟨m, q⟩ ⟨m1, i, rfl, i1⟩
  simp only at m1
  unfold z449
  by_cases hi : i < l.length
  · have hc : (i : Int) < l.length := by omega
    have w1 : IntKind.wrap .i64 ((i : Int) + 1) = ((i + 1 : Nat) : Int) := by rw [wrap64 (by omega) (by omega)]; omega
    simp only [hc, decide_true, cond_true, at_nat (show i < m.length by omega), Option.bind_some, w1]
    exact .some ⟨⟨by simpa using m1, i + 1, rfl, by omega⟩, by simp only; omega⟩
  · have hc : ¬ (i : Int) < l.length := by omega
    simp only [hc, decide_false, cond_false]
    exact .some m1
theorem spoilN_ok {l : List api_Note} (hl : l.length ≤ 1000) : Ok (z454 l) (fun r => r.length = l.length) := by
  unfold z454
  refine Ok.bind (P := fun r : List api_Note => r.length = l.length) (loop_ok (fun s : List api_Note × Int => s.1.length = l.length ∧ ∃ i : Nat, s.2 = (i : Int) ∧ i ≤ l.length) (fun s => ((l.length : Int) - s.2).toNat) ?_ ⟨rfl, 0, rfl, by omega⟩) fun r hr => .some hr
  rintro ⟨m, q⟩ ⟨m1, i, rfl, i1⟩
  simp only at m1
  unfold z457
  by_cases hi : i < l.length
  · have hc : (i : Int) < l.length := by omega
    have w1 : IntKind.wrap .i64 ((i : Int) + 1) = ((i + 1 : Nat) : Int) := by rw [wrap64 (by omega) (by omega)]; omega
    simp only [hc, decide_true, cond_true, at_nat (show i < m.length by omega), Option.bind_some, w1]
    exact .some ⟨⟨by simpa using m1, i + 1, rfl, by omega⟩, by simp only; omega⟩
  · have hc : ¬ (i : Int) < l.length := by omega
    simp only [hc, decide_false, cond_false]
    exact .some m1
theorem Merge_n1_ok {l : List api_Note} (hl : l.length ≤ 100) (hK : ∀ n ∈ l, KN n) : Ok (z234 l) (fun r => r.1.length ≤ 100) := by
  have h0 : z172 = some 0 := by kernel_rfl
  unfold z234
  simp only [CheckNotes_eq (by omega) hK, h0, Option.bind_some, First_ab]
  refine .cond (fun _ => .some (by simp)) fun _ => ?_
  have hx : loopO (z237 l) () = some () := by
    refine loop_out ?_
    unfold z237 z242
    cases decide (0 < (l.length : Int)) <;> simp
  have hg : ¬ (1500 : Int) < ((([] : List api_Note) ++ l ++ []).length : Int) := by simp; omega
  rw [hx, Option.bind_some, concat3N_eq (by simp) (by omega) (by simp)]
  simp only [Option.bind_some, hg, decide_false, cond_false]
  exact .some (by simpa using hl)
theorem lEqual2_self {l : List api_Letter} (hl : (l.length : Int) ≤ 9223372036854775807) : z732 l = some true := by
  unfold z732
  simp only [decide_true, Bool.not_true, cond_false]
  rw [range_loop (l := l) (fun _ _ => none) (.inl ()) hl]
  · have : ∀ (k : Nat) (m : List api_Letter), scan (fun (_ : Nat) (_ : api_Letter) => (none : Option (Unit ⊕ Unit))) k m = none := fun k m => scan_none.2 fun _ _ _ => rfl
    rw [this]; rfl
  · intro i hi
    unfold z735
    have hc : (i : Int) < l.length := by omega
    simp only [hc, decide_true, cond_true, at_nat hi, Option.bind_some, beq_self_eq_true, Bool.and_self, Bool.and_true]
    rfl
  · unfold z735; simp
theorem nEqual_one {l : List api_Note} (hl : (l.length : Int) ≤ 9223372036854775807) : z740 l = some true := by
  unfold z740
  simp only [decide_true, Bool.not_true, cond_false]
  rw [range_loop (l := l) (fun _ _ => none) (.inl ()) hl]
  · have : ∀ (k : Nat) (m : List api_Note), scan (fun (_ : Nat) (_ : api_Note) => (none : Option (Unit ⊕ Unit))) k m = none := fun k m => scan_none.2 fun _ _ _ => rfl
    rw [this]; rfl
  · intro i hi
    unfold z743
    have hc : (i : Int) < l.length := by omega
    simp only [hc, decide_true, cond_true, at_nat hi, Option.bind_some, beq_self_eq_true, Bool.and_self, Bool.and_true]
    rfl
  · unfold z743; simp
def cL0 : api_Letter := api_Letter.mk [108, 97] [] [] 0 0 50
def cN1 : api_Note := api_Note.mk cL0 1 0 0
def cN2 : api_Note := api_Note.mk cL0 2 1 1
theorem c_new : z246 (api_Post.mk 5 10 2 5) = some (.inr ()) := by kernel_rfl
theorem c_doer : z247 5 = some (.inr ()) := by kernel_rfl
theorem c_4 : z411 = some ([([108, 97], cN1)], false) := by kernel_rfl
theorem c_5 : z415 [([108, 97], cN1)] = some ([([108, 97], cN1)], [cN1]) := by kernel_rfl
theorem c_6 : z419 [([108, 97], cN1)] = some ([([108, 97], cN2)], 1, [cL0]) := by kernel_rfl
theorem c_7 : z423 [([108, 97], cN2)] 1 = some (0, [cN2]) := by kernel_rfl
theorem c_do : z202 (z201.mk 5 [] 0) (api_Letter.mk ([108, 97] : List UInt8) ([] : List UInt8) ([] : List UInt8) 0 0 50) 1 = some ([z386.mk [108, 97] 50], 1, true, 0) := by kernel_rfl
theorem c_done : z226 (z201.mk 5 [z386.mk [108, 97] 50] 1) = some [[108, 97]] := by kernel_rfl
theorem c_sp : z462 [[108, 97]] = some [[]] := by kernel_rfl
theorem CommandsStay_true (L : List Int) (hL : L.length ≤ 9223372036854775807) (hI : ∀ n ∈ L, -9223372036854775808 ≤ n ∧ n ≤ 9223372036854775807) : fleetkeep2_CommandsStay L = some true := by
  apply Ok.eq
  unfold fleetkeep2_CommandsStay
  have h0 : StrOk 0 (z477.mk L 0) := ⟨Int.le_refl _, by simp, hL, hI⟩
  refine (Letters_ok h0 (by omega) (by omega)).bind fun ⟨s1, l⟩ ⟨a1, kl, ll⟩ => ?_
  simp only at a1 kl ll
  refine (Notes_ok a1 (by omega)).bind fun ⟨s2, ns⟩ ⟨b1, kn, ln⟩ => ?_
  simp only at b1 kn ln
  obtain ⟨o, g, w, g1, g2, g3, g4, g5⟩ := Order_ok (show l.length ≤ 12 by omega) kl
  have ho : o.length ≤ 12 := by
    rcases g5 with ⟨_, rfl⟩ | ⟨_, rfl⟩
    · omega
    · simp
  dsimp only
  rw [g1]
  simp only [Option.bind_some]
  refine (spoilL_ok (show o.length ≤ 1000 by omega)).bind fun o2 ho2 => ?_
  refine .gd (by simp [ho2]) ?_
  refine (Merge_n1_ok (show ns.length ≤ 100 by omega) kn).bind fun ⟨m, e⟩ hm => ?_
  simp only at hm
  refine (spoilN_ok (show m.length ≤ 1000 by omega)).bind fun m2 hm2 => ?_
  refine .gd (by simp [hm2]) ?_
  obtain ⟨z1, z2, z3⟩ := spoilN_ok (l := [cN1]) (by simp)
  obtain ⟨y1, y2, y3⟩ := spoilL_ok (l := [cL0]) (by simp)
  simp only [c_new, c_doer, c_4, c_5, z2, z3, Option.bind_some, cond_false, beq_self_eq_true, gd, cond_true, c_6, y2, y3, c_7, c_do, c_done, c_sp, List.length_cons, List.length_nil]
  have hx8 : z427 l ns 0 [cN2] [z386.mk [108, 97] 50] 1 = some true := by
    unfold z427
    have e1 : at? [cN2] 0 = some cN2 := rfl
    have e2 : cN2.Letter.Id = [108, 97] := rfl
    simp only [decide_true, cond_true, List.length_cons, List.length_nil, e1, e2, Option.bind_some, c_done, wEqual_self (l := [[108, 97]]) (by simp), lEqual2_self (show (l.length : Int) ≤ 9223372036854775807 by omega), nEqual_one (show (ns.length : Int) ≤ 9223372036854775807 by omega), ready_eq]
    rfl
  rw [hx8]
  exact .some rfl
end Go.Eng

