/-
What the plain functions of the law TwinsStay answer, part 1.
-/
import Derived.Test.YtigejlfinklddaaGreatDoorGenF
import Derived.KernelRfl
import Derived.Test.YtigejlfinklddaaGreatDoorEngV
/-
Plain functions: what they answer, in total. Loops by an invariant and a measure.
-/
namespace Go.Eng
open Go
set_option linter.unusedVariables false
set_option linter.unusedSimpArgs false

def Ok {α : Type} (x : Option α) (P : α → Prop) : Prop := ∃ r, x = some r ∧ P r
section
variable {α β σ ρ : Type} {P Q : α → Prop} {R : β → Prop}
theorem Ok.some {r : α} (h : P r) : Ok (some r) P := ⟨r, rfl, h⟩
theorem Ok.mono {x : Option α} (h : Ok x P) (hq : ∀ r, P r → Q r) : Ok x Q := let ⟨r, h1, h2⟩ := h; ⟨r, h1, hq r h2⟩
theorem Ok.bind {x : Option α} {f : α → Option β} (h : Ok x P) (hf : ∀ r, P r → Ok (f r) R) : Ok (x.bind f) R := by
  obtain ⟨r, rfl, hr⟩ := h
  exact hf r hr
theorem Ok.cond {b : Bool} {x y : Option α} (ht : b = true → Ok x P) (hf : b = false → Ok y P) : Ok (cond b x y) P := by
  cases b
  · exact hf rfl
  · exact ht rfl
theorem Ok.gd {b : Bool} {x : Option α} (hb : b = true) (h : Ok x P) : Ok (gd b x) P := by
  subst hb; exact h
theorem Ok.eq {x : Option α} {r : α} (h : Ok x fun y => y = r) : x = Option.some r := by
  obtain ⟨y, h1, h2⟩ := h
  rw [h1, h2]
theorem Ok.of_eq {x : Option α} {r : α} (h : x = Option.some r) (hp : P r) : Ok x P := ⟨r, h, hp⟩

theorem loop_ok {f : σ → Option (σ ⊕ ρ)} {Q : ρ → Prop} (I : σ → Prop) (μ : σ → Nat)
    (step : ∀ s, I s → Ok (f s) fun x => match x with | .inl s' => I s' ∧ μ s' < μ s | .inr r => Q r) {s : σ} (h : I s) : Ok (loopO f s) Q := by
  generalize hn : μ s = n
  induction n using Nat.strongRecOn generalizing s with
  | _ n ih =>
    obtain ⟨x, h1, h2⟩ := step s h
    cases x with
    | inl s' =>
      obtain ⟨h3, h4⟩ := h2
      obtain ⟨r, h5, h6⟩ := ih (μ s') (by omega) h3 rfl
      refine ⟨r, ?_, h6⟩
      rw [loopO_eq, h1]
      exact h5
    | inr r =>
      refine ⟨r, ?_, h2⟩
      rw [loopO_eq, h1]
      rfl

theorem at_lt {l : List α} {n : Int} (h : 0 ≤ n) (h2 : n < l.length) : at? l n = Option.some (l[n.toNat]'(by omega)) := by
  unfold at?
  rw [if_pos h, List.getElem?_eq_getElem]
theorem at_nat {l : List α} {n : Nat} (h : n < l.length) : at? l (n : Int) = Option.some l[n] := by
  rw [at_lt (by omega) (by omega)]
  simp
theorem at_ok {l : List α} {n : Int} (h : 0 ≤ n) (h2 : n < l.length) : Ok (at? l n) (fun y => l[n.toNat]? = Option.some y) := by
  refine ⟨_, at_lt h h2, ?_⟩
  rw [List.getElem?_eq_getElem]
theorem at_mem {l : List α} {n : Int} (h : 0 ≤ n) (h2 : n < l.length) : Ok (at? l n) (fun y => y ∈ l) := by
  refine (at_ok h h2).mono fun y hy => List.mem_of_getElem? hy
end

/-! ### Integers of 64 bits -/
def I64 (n : Int) : Prop := -9223372036854775808 ≤ n ∧ n ≤ 9223372036854775807
theorem wrap64 {n : Int} (h : -9223372036854775808 ≤ n) (h2 : n ≤ 9223372036854775807) : IntKind.wrap .i64 n = n := by
  unfold IntKind.wrap
  simp [IntKind.min, IntKind.max, IntKind.bits, IntKind.signed]
  omega
theorem tmod_nonneg {a b : Int} (h : 0 ≤ a) : 0 ≤ a.tmod b := Int.tmod_nonneg b h
theorem tmod_lt' {a b : Int} (h : 0 < b) : a.tmod b < b := Int.tmod_lt_of_pos a h
theorem lim_eq : LIM = 137438953472 := by decide
theorem ble_lim {n : Nat} (h : n ≤ 137438953472) : Nat.ble n LIM = true := by rw [Nat.ble_eq, lim_eq]; exact h
end Go.Eng

/-
Loops over the elements of a list; keys.
-/
namespace Go.Eng
open Go
set_option linter.unusedVariables false
set_option linter.unusedSimpArgs false

/-- The first answer of the elements from number k on. -/
def scan {α ρ : Type} (g : Nat → α → Option ρ) : Nat → List α → Option ρ
  | _, [] => none
  | k, x :: xs => match g k x with
    | some r => some r
    | none => scan g (k + 1) xs

theorem drop_get {α : Type} {l : List α} {i : Nat} (h : i < l.length) : l.drop i = l[i] :: l.drop (i + 1) := List.drop_eq_getElem_cons h

/-- A loop over a list that ends at the first element with an answer. -/
theorem range_loop {α ρ : Type} {l : List α} {f : Int → Option (Int ⊕ ρ)} (g : Nat → α → Option ρ) (done : ρ) (hl : (l.length : Int) ≤ 9223372036854775807)
    (hf : ∀ (i : Nat) (h : i < l.length), f i = some (match g i l[i] with | none => .inl (IntKind.wrap .i64 (i + 1)) | some r => .inr r)) (hd : f l.length = some (.inr done)) :
    loopO f 0 = some ((scan g 0 l).getD done) := by
  have key : ∀ (n i : Nat), l.length - i = n → i ≤ l.length → loopO f i = some ((scan g i (l.drop i)).getD done) := by
    intro n
    induction n with
    | zero =>
      intro i h1 h2
      have : i = l.length := by omega
      subst this
      rw [loopO_eq, hd, List.drop_length]
      rfl
    | succ n ih =>
      intro i h1 h2
      have hi : i < l.length := by omega
      rw [loopO_eq, hf i hi, drop_get hi]
      simp only [scan]
      cases hg : g i l[i] with
      | some r => rfl
      | none =>
        simp only [Option.bind_some]
        rw [wrap64 (by omega) (by omega)]
        exact ih (i + 1) (by omega) (by omega)
  exact key l.length 0 (by omega) (by omega)

theorem scan_none {α ρ : Type} {g : Nat → α → Option ρ} : ∀ {l : List α} {k : Nat}, scan g k l = none ↔ ∀ (i : Nat) (x : α), l[i]? = some x → g (k + i) x = none
  | [], k => by simp [scan]
  | y :: l, k => by
    simp only [scan]
    cases hg : g k y with
    | some r =>
      simp only [reduceCtorEq, false_iff]
      intro h
      have := h 0 y rfl
      rw [Nat.add_zero, hg] at this
      cases this
    | none =>
      simp only
      rw [scan_none]
      constructor
      · intro h i x hi
        cases i with
        | zero => simp at hi; subst hi; exact hg
        | succ i => rw [show k + (i + 1) = k + 1 + i by omega]; exact h i x (by simpa using hi)
      · intro h i x hi
        rw [show k + 1 + i = k + (i + 1) by omega]
        exact h (i + 1) x (by simpa using hi)
/-! ### Keys -/
end Go.Eng

/-
Small checks; the order of measurements.
-/
namespace Go.Eng
open Go
set_option linter.unusedVariables false
set_option linter.unusedSimpArgs false

theorem Out_eq (n low high : Int) : base_Out n low high = some (decide (n < low) || decide (high < n)) := by
  unfold base_Out z82
  by_cases h : n < low <;> simp [h]
theorem Moment_eq (n : Int) : z50 n = some (decide (0 ≤ n) && decide (n ≤ 345686399999)) := by
  unfold z50
  rw [Out_eq]
  simp only [Option.bind_some]
  congr 1
  rw [Bool.eq_iff_iff]
  simp
/-! ### Orders -/
def cmpI (a b : Int) : Int := if a < b then -1 else if b < a then 1 else 0
def or0 (a b : Int) : Int := if a = 0 then b else a
theorem cmpB_self : ∀ a : List UInt8, Lib.compareBytes a a = 0
  | [] => rfl
  | x :: a => by
    unfold Lib.compareBytes
    simp [UInt8.lt_irrefl, cmpB_self a]
theorem cmpB_anti : ∀ a b : List UInt8, Lib.compareBytes b a = -Lib.compareBytes a b
  | [], [] => rfl
  | [], _ :: _ => rfl
  | _ :: _, [] => rfl
  | x :: a, y :: b => by
    unfold Lib.compareBytes
    by_cases h1 : x < y
    · have h2 : ¬ y < x := UInt8.lt_asymm h1
      simp [h1, h2]
    · by_cases h2 : y < x
      · simp [h1, h2]
      · simp [h1, h2, cmpB_anti a b]
theorem cmpB_zero : ∀ {a b : List UInt8}, Lib.compareBytes a b = 0 ↔ a = b
  | [], [] => by simp [Lib.compareBytes]
  | [], _ :: _ => by simp [Lib.compareBytes]
  | _ :: _, [] => by simp [Lib.compareBytes]
  | x :: a, y :: b => by
    unfold Lib.compareBytes
    by_cases h1 : x < y
    · have : x ≠ y := fun h => UInt8.lt_irrefl y (h ▸ h1)
      simp [h1, this]
    · by_cases h2 : y < x
      · have : x ≠ y := fun h => UInt8.lt_irrefl x (by rw [h] at h2 ⊢; exact h2)
        simp [h1, h2, this]
      · have : x = y := UInt8.le_antisymm (UInt8.not_lt.1 h2) (UInt8.not_lt.1 h1)
        simp [h1, h2, cmpB_zero (a := a) (b := b), this]
theorem cmpB_less : ∀ a b : List UInt8, Op.bytesLess a b = decide (Lib.compareBytes a b < 0)
  | [], [] => rfl
  | [], _ :: _ => rfl
  | _ :: _, [] => rfl
  | x :: a, y :: b => by
    unfold Lib.compareBytes
    rw [Op.bytesLess]
    by_cases h1 : x < y
    · simp [h1]
    · by_cases h2 : y < x
      · have h3 : ¬ x = y := fun h => UInt8.lt_irrefl x (by rw [h] at h2 ⊢; exact h2)
        simp [h1, h2, h3]
      · have h3 : x = y := UInt8.le_antisymm (UInt8.not_lt.1 h2) (UInt8.not_lt.1 h1)
        simp [h1, h2, h3, cmpB_less a b]
end Go.Eng

/-
Checks of measurements and series, both ways.
-/
namespace Go.Eng
open Go
set_option linter.unusedVariables false
set_option linter.unusedSimpArgs false

theorem cmpInt_eq (a b : Int) : z142 a b = some (cmpI a b) := by
  unfold z142 z161 cmpI
  by_cases h1 : a < b
  · simp [h1]
  · by_cases h2 : b < a <;> simp [h1, h2]
theorem Or_eq (l : List Int) (hl : (l.length : Int) ≤ 9223372036854775807) : z153 l = some ((l.find? fun x => !decide (x = 0)).getD 0) := by
  unfold z153
  rw [range_loop (l := l) (fun _ x => cond (!decide (x = 0)) (some (.inr x)) none) (.inl ()) hl]
  · simp only [Option.bind_some]
    generalize 0 = k
    induction l generalizing k with
    | nil => rfl
    | cons c s ih =>
      simp only [scan, List.find?_cons]
      by_cases hc : c = 0
      · simp only [hc, decide_true, Bool.not_true, cond_false]
        exact ih (by simp at hl; omega) (k + 1)
      · simp [hc]
  · intro i hi
    unfold z156
    rw [at_nat hi]
    have : ((i : Int) < l.length) := by omega
    simp only [this, decide_true, cond_true, Option.bind_some]
    cases (!decide (l[i] = 0)) <;> rfl
  · unfold z156
    simp
/-! ### Check -/
end Go.Eng

/-
Sorting of few elements, and what is left of equal ones, for all kinds of elements.
-/
namespace Go.Eng
open Go
set_option linter.unusedVariables false
set_option linter.unusedSimpArgs false

theorem loop_in {σ ρ : Type} {f : σ → Option (σ ⊕ ρ)} {s s' : σ} (h : f s = some (.inl s')) : loopO f s = loopO f s' := by rw [loopO_eq, h]; rfl
theorem loop_out {σ ρ : Type} {f : σ → Option (σ ⊕ ρ)} {s : σ} {r : ρ} (h : f s = some (.inr r)) : loopO f s = some r := by rw [loopO_eq, h]; rfl

section
variable {α : Type}
/-! ### Insertion, as the code has it -/
noncomputable def gI3 (cmp : α → α → Option Int) (qa : Int) (vl3 : List α) (vj1 : Int) : Option (Bool) :=
  cond (decide (qa < vj1))
    ((at? vl3 vj1).bind fun vy15 =>
    (at? vl3 (IntKind.wrap .i64 (vj1 - 1))).bind fun vy16 =>
    (cmp vy15 vy16).bind fun vr1_3 =>
    some (decide (vr1_3 < 0)))
    (some false)
noncomputable def gI2 (cmp : α → α → Option Int) (qa : Int) : (List α) × Int → Option (((List α) × Int) ⊕ ((List α)))
  | (vl3, vj1) =>
  (gI3 cmp qa vl3 vj1).bind fun vx4_1 =>
  cond (vx4_1)
    ((at? vl3 (IntKind.wrap .i64 (vj1 - 1))).bind fun vy17 =>
    (at? vl3 vj1).bind fun vy18 =>
    (at? (vl3.set vj1.toNat vy17) (IntKind.wrap .i64 (vj1 - 1))).bind fun vy19 =>
    some (.inl ((vl3.set vj1.toNat vy17).set (IntKind.wrap .i64 (vj1 - 1)).toNat vy18, IntKind.wrap .i64 (vj1 - 1))))
    (some (.inr vl3))
noncomputable def gI1 (cmp : α → α → Option Int) (qa : Int) (qb : Int) : (List α) × Int → Option (((List α) × Int) ⊕ ((List α)))
  | (vl, vi) =>
  cond (decide (vi < qb))
    ((loopO (gI2 cmp qa) (vl, vi)).bind fun vl4_1 =>
    some (.inl (vl4_1, IntKind.wrap .i64 (vi + 1))))
    (some (.inr vl))
noncomputable def gI (cmp : α → α → Option Int) (qdata : List α) (qa : Int) (qb : Int) : Option ((List α)) :=
  (loopO (gI1 cmp qa qb) (qdata, IntKind.wrap .i64 (qa + 1))).bind fun vl5_1 =>
  some vl5_1
noncomputable def gS1 (cmp : α → α → Option Int) (qn : Int) : (List α) × Int × Int → Option (((List α) × Int × Int) ⊕ (((List α) × Int)))
  | (vl, va, vb) =>
  cond (decide (vb ≤ qn))
    ((gI cmp vl va vb).bind fun vl6_1 =>
    gd (vl6_1.length == vl.length) <|
    some (.inl (vl6_1, vb, IntKind.wrap .i64 (vb + 20))))
    (some (.inr (vl, va)))
noncomputable def gS3 (qn : Int) (vblockSize : Int) : Unit → Option ((Unit) ⊕ (Unit))
  | _ =>
  cond (decide ((IntKind.wrap .i64 ((2 : Int) * vblockSize)) ≤ qn))
    (none)
    (some (.inr ()))
noncomputable def gS2 (qn : Int) (vblockSize : Int) : Option ((Int) ⊕ (Unit)) :=
  cond (decide (vblockSize < qn))
    ((loopO (gS3 qn vblockSize) ()).bind fun _ =>
    cond (decide ((IntKind.wrap .i64 ((0 : Int) + vblockSize)) < qn))
      (none)
      (some (.inl (IntKind.wrap .i64 (vblockSize * 2)))))
    (some (.inr ()))
noncomputable def gS (cmp : α → α → Option Int) (qdata : List α) (qn : Int) : Option ((List α)) :=
  (loopO (gS1 cmp qn) (qdata, 0, 20)).bind fun (vl1_1, va1_1) =>
  (gI cmp vl1_1 va1_1 qn).bind fun vl6_2 =>
  gd (vl6_2.length == vl1_1.length) <|
  (loopO (gS2 qn) 20).bind fun _ =>
  some vl6_2
noncomputable def gSort (cmp : α → α → Option Int) (qx : List α) : Option ((List α)) :=
  (gS cmp qx (qx.length : Int)).bind fun vl2 =>
  gd (vl2.length == qx.length) <|
  some vl2

def All (p : α → Prop) (l : List α) : Prop := ∀ x ∈ l, p x
theorem All.nil {p : α → Prop} : All p [] := fun _ h => nomatch h
theorem All.set {p : α → Prop} {l : List α} (h : All p l) {i : Nat} {x : α} (hx : p x) : All p (l.set i x) := by
  intro y hy
  rcases List.mem_or_eq_of_mem_set hy with hy | rfl
  · exact h y hy
  · exact hx
theorem All.at {p : α → Prop} {l : List α} (h : All p l) {i : Nat} (hi : i < l.length) : p l[i] := h _ (List.getElem_mem hi)

/-! ### Equal ones, as the code has it -/
noncomputable def gC3 (t : α → α → Option Bool) (qx : List α) (vx : Int) (vl4 : List α) (vx6 : Int) (vx7 : Int) : Option (((List α) × Int)) :=
  gd (decide (0 ≤ vx) && decide (0 ≤ vx7) && decide (vx7 < (qx.length : Int) - vx)) <|
  (at? vl4 (vx + vx7)).bind fun vy13 =>
  gd (decide (0 ≤ vx) && decide (0 ≤ (IntKind.wrap .i64 (vx7 - 1))) && decide ((IntKind.wrap .i64 (vx7 - 1)) < (qx.length : Int) - vx)) <|
  (at? vl4 (vx + (IntKind.wrap .i64 (vx7 - 1)))).bind fun vy14 =>
  (t vy13 vy14).bind fun vr5 =>
  cond (!vr5)
    ((at? vl4 vx6).bind fun vy15 =>
    some (vl4.set vx6.toNat vy13, IntKind.wrap .i64 (vx6 + 1)))
    (some (vl4, vx6))
noncomputable def gC2 (t : α → α → Option Bool) (qx : List α) (vx : Int) : (List α) × Int × Int → Option (((List α) × Int × Int) ⊕ (((List α) × Int)))
  | (vl4, vx6, vx7) =>
  cond (decide (vx7 < (((qx.length : Int).toNat - vx.toNat : Nat) : Int)))
    ((gC3 t qx vx vl4 vx6 vx7).bind fun (vl6_1, vx9_1) =>
    some (.inl (vl6_1, vx9_1, IntKind.wrap .i64 (vx7 + 1))))
    (some (.inr (vl4, vx6)))
noncomputable def gC1 (t : α → α → Option Bool) (z : α) (qx : List α) (vx : Int) : Option ((Int) ⊕ (Unit ⊕ (List α))) :=
  cond (decide (vx < (qx.length : Int)))
    ((at? qx vx).bind fun vy8 =>
    (at? qx (IntKind.wrap .i64 (vx - 1))).bind fun vy9 =>
    (t vy8 vy9).bind fun vr3 =>
    cond (vr3)
      (gd (decide (0 ≤ vx) && decide (vx ≤ (qx.length : Int)) && decide ((qx.length : Int) ≤ (qx.length : Int))) <|
      (loopO (gC2 t qx vx) (qx, vx, 1)).bind fun (vl7_1, vx10_1) =>
      gd (decide (0 ≤ vx10_1) && decide (vx10_1 ≤ (vl7_1.length : Int)) && decide ((vl7_1.length : Int) ≤ (vl7_1.length : Int))) <|
      gd (decide (0 ≤ vx10_1) && decide (vx10_1 ≤ ((vl7_1.take vx10_1.toNat ++ (List.replicate ((vl7_1.length : Int).toNat - vx10_1.toNat) z ++ vl7_1.drop (vx10_1.toNat + ((vl7_1.length : Int).toNat - vx10_1.toNat)))).length : Int))) <|
      some (.inr (.inr ((vl7_1.take vx10_1.toNat ++ (List.replicate ((vl7_1.length : Int).toNat - vx10_1.toNat) z ++ vl7_1.drop (vx10_1.toNat + ((vl7_1.length : Int).toNat - vx10_1.toNat)))).take vx10_1.toNat))))
      (some (.inl (IntKind.wrap .i64 (vx + 1)))))
    (some (.inr (.inl ())))
noncomputable def gCom (t : α → α → Option Bool) (z : α) (qx : List α) : Option ((List α)) :=
  cond (decide ((qx.length : Int) < 2))
    (some qx)
    ((loopO (gC1 t z qx) 1).bind fun x => match x with
      | .inl _ =>
        some qx
      | .inr vx11_1 =>
        some vx11_1)

theorem take_part {l m : List α} {k : Nat} (h : k ≤ l.length) : (l.take k ++ m).take k = l.take k := by
  rw [List.take_append_of_le_length (by simp; omega), List.take_take]
  congr 1
  omega
end
end Go.Eng

/-
Insertion sorts; what is left of equal ones rises.
-/
namespace Go.Eng
open Go
set_option linter.unusedVariables false
set_option linter.unusedSimpArgs false
section
variable {α : Type}
/-- the first n are in order -/
def Ord (f : α → α → Int) (l : List α) (n : Nat) : Prop := ∀ p q (hp : p < q) (hq : q < n) (hn : n ≤ l.length), f (l[p]'(by omega)) (l[q]'(by omega)) ≤ 0

theorem gI2_ord {P : α → Prop} {f : α → α → Int} {c : α → α → Option Int} (hc : ∀ x y, P x → P y → c x y = some (f x y)) (anti : ∀ x y, f y x = - f x y) (tr : ∀ x y z, f x y ≤ 0 → f y z ≤ 0 → f x z ≤ 0)
    {n : Nat} (hn : n ≤ 100000) {l : List α} (hl : l.length = n) (hP : All P l) {i : Nat} (hi : i < n) (ho : Ord f l i) :
    Ok (loopO (gI2 c 0) (l, (i : Int))) (fun r => r.length = n ∧ All P r ∧ Ord f r (i + 1)) := by
  refine loop_ok (fun s : List α × Int => s.1.length = n ∧ All P s.1 ∧ ∃ j : Nat, s.2 = (j : Int) ∧ j ≤ i ∧ ∀ p q (hp : p < q) (hq : q ≤ i) (hqj : q ≠ j) (hs : i < s.1.length), f (s.1[p]'(by omega)) (s.1[q]'(by omega)) ≤ 0) (fun s => s.2.toNat) ?_
    ⟨hl, hP, i, rfl, Nat.le_refl _, fun p q hp hq hqj hs => ho p q hp (by omega) (by simp only at hs; omega)⟩
  rintro ⟨m, q⟩ ⟨m1, m2, j, rfl, j1, j2⟩
  simp only at m1 m2 j2
  unfold gI2 gI3
  by_cases hj : (0 : Int) < j
  · have w1 : IntKind.wrap .i64 ((j : Int) - 1) = ((j - 1 : Nat) : Int) := by rw [wrap64 (by omega) (by omega)]; omega
    have hjm : j < m.length := by omega
    have hjm1 : j - 1 < m.length := by omega
    have hy := m2 _ (List.getElem_mem hjm)
    have hx := m2 _ (List.getElem_mem hjm1)
    simp only [hj, decide_true, cond_true, w1, at_nat hjm, at_nat hjm1, Option.bind_some, hc _ _ hy hx]
    refine .cond (fun hlt => ?_) (fun hge => ?_)
    · have hlt := of_decide_eq_true hlt
      have g3 : at? (m.set (j : Int).toNat m[j - 1]) ((j - 1 : Nat) : Int) = some m[j - 1] := by
        rw [at_nat (by simp; omega)]
        simp only [Int.toNat_natCast, List.getElem_set]
        rw [if_neg (by omega)]
      rw [g3]
      simp only [Option.bind_some, Int.toNat_natCast]
      refine .some ⟨⟨by simp [m1], (m2.set hx).set hy, j - 1, rfl, by omega, ?_⟩, by simp only; omega⟩
      intro p q hp hq hqj hs
      simp only [List.getElem_set]
      have hin : i < m.length := by omega
      by_cases q1 : q = j
      · subst q1
        by_cases p1 : p = q - 1
        · subst p1
          have e1 : ¬ (q - 1 = q) := by omega
          simp only [e1, if_true, if_false]
          omega
        · have e1 : ¬ (q - 1 = p) := by omega
          have e2 : ¬ (q = p) := by omega
          have e3 : ¬ (q - 1 = q) := by omega
          simp only [e1, e2, e3, if_true, if_false]
          exact j2 p (q - 1) (by omega) (by omega) (by omega) hin
      · have e4 : ¬ (j = q) := by omega
        have e5 : ¬ (j - 1 = q) := by omega
        simp only [e4, e5, if_false]
        by_cases p1 : p = j - 1
        · subst p1
          simp only [if_true]
          exact j2 j q (by omega) hq q1 hin
        · by_cases p2 : p = j
          · subst p2
            have e6 : ¬ (p - 1 = p) := by omega
            simp only [e6, if_true, if_false]
            exact j2 (p - 1) q (by omega) hq q1 hin
          · have e7 : ¬ (j - 1 = p) := by omega
            have e8 : ¬ (j = p) := by omega
            simp only [e7, e8, if_false]
            exact j2 p q hp hq q1 hin
    · have hge := of_decide_eq_false hge
      refine .some ⟨m1, m2, fun p q hp hq hs => ?_⟩
      have hin : i < m.length := by omega
      by_cases q1 : q = j
      · subst q1
        have h0 : f m[q - 1] m[q] ≤ 0 := by have := anti m[q] m[q - 1]; omega
        by_cases p1 : p = q - 1
        · subst p1; exact h0
        · exact tr _ _ _ (j2 p (q - 1) (by omega) (by omega) (by omega) hin) h0
      · exact j2 p q hp (by omega) q1 hin
  · have hj' : ¬ (0 : Int) < j := hj
    have j0 : j = 0 := by omega
    subst j0
    simp only [hj', decide_false, cond_false, Option.bind_some]
    exact .some ⟨m1, m2, fun p q hp hq hs => j2 p q hp (by omega) (by omega) (by omega)⟩
theorem gI_ord {P : α → Prop} {f : α → α → Int} {c : α → α → Option Int} (hc : ∀ x y, P x → P y → c x y = some (f x y)) (anti : ∀ x y, f y x = - f x y) (tr : ∀ x y z, f x y ≤ 0 → f y z ≤ 0 → f x z ≤ 0)
    {l : List α} (hl : l.length ≤ 100000) (hP : All P l) : Ok (gI c l 0 l.length) (fun r => r.length = l.length ∧ All P r ∧ Ord f r l.length) := by
  unfold gI
  have w : IntKind.wrap .i64 ((0 : Int) + 1) = 1 := by decide
  rw [w]
  refine Ok.bind (P := fun r : List α => r.length = l.length ∧ All P r ∧ Ord f r l.length) (loop_ok (fun s : List α × Int => s.1.length = l.length ∧ All P s.1 ∧ ∃ i : Nat, s.2 = (i : Int) ∧ 1 ≤ i ∧ Ord f s.1 (min i l.length)) (fun s => ((l.length : Int) - s.2).toNat) ?_
    ⟨rfl, hP, 1, rfl, by omega, fun p q hp hq hn => by omega⟩) fun r hr => .some hr
  rintro ⟨m, q⟩ ⟨m1, m2, i, rfl, i1, i2⟩
  simp only at m1 m2 i2
  unfold gI1
  by_cases hi : i < l.length
  · have hi' : (i : Int) < l.length := by omega
    have w1 : IntKind.wrap .i64 ((i : Int) + 1) = ((i + 1 : Nat) : Int) := by rw [wrap64 (by omega) (by omega)]; omega
    simp only [hi', decide_true, cond_true]
    rw [Nat.min_eq_left (by omega)] at i2
    refine (gI2_ord hc anti tr (n := l.length) hl m1 m2 hi i2).bind fun r hr => ?_
    rw [w1]
    refine .some ⟨⟨hr.1, hr.2.1, i + 1, rfl, by omega, ?_⟩, by simp only; omega⟩
    rw [Nat.min_eq_left (by omega)]
    exact hr.2.2
  · have hi' : ¬ (i : Int) < l.length := by omega
    simp only [hi', decide_false, cond_false]
    rw [Nat.min_eq_right (by omega)] at i2
    exact .some ⟨m1, m2, i2⟩
end
end Go.Eng

/-
Loops that only gather.
-/
namespace Go.Eng
open Go
set_option linter.unusedVariables false
set_option linter.unusedSimpArgs false

/-- A loop over all elements of a list that only gathers. -/
theorem fold_loop0 {τ σ ρ α : Type} {l : List α} {f : τ → Option (τ ⊕ ρ)} (e : σ → Int → τ) (h : σ → α → σ) (fin : σ → ρ) (I : Nat → σ → Prop) {s0 : σ} (hl : (l.length : Int) ≤ 9223372036854775807)
    (hf : ∀ (i : Nat) (hi : i < l.length) (s : σ), I i s → f (e s i) = some (.inl (e (h s l[i]) (IntKind.wrap .i64 (i + 1)))) ∧ I (i + 1) (h s l[i])) (hd : ∀ s, I l.length s → f (e s l.length) = some (.inr (fin s))) (h0 : I 0 s0) :
    loopO f (e s0 0) = some (fin (l.foldl h s0)) ∧ I l.length (l.foldl h s0) := by
  have key : ∀ (n i : Nat) (s : σ), l.length - i = n → i ≤ l.length → I i s → loopO f (e s i) = some (fin ((l.drop i).foldl h s)) ∧ I l.length ((l.drop i).foldl h s) := by
    intro n
    induction n with
    | zero =>
      intro i s h1 h2 h3
      have : i = l.length := by omega
      subst this
      rw [List.drop_length]
      refine ⟨?_, h3⟩
      rw [loopO_eq, hd s h3]
      rfl
    | succ n ih =>
      intro i s h1 h2 h3
      have hi : i < l.length := by omega
      obtain ⟨g1, g2⟩ := hf i hi s h3
      obtain ⟨f1, f2⟩ := ih (i + 1) (h s l[i]) (by omega) (by omega) g2
      rw [List.drop_eq_getElem_cons hi, List.foldl_cons]
      refine ⟨?_, f2⟩
      rw [loopO_eq, g1]
      simp only [Option.bind_some]
      rw [wrap64 (by omega) (by omega)]
      exact f1
  have := key l.length 0 s0 (by omega) (by omega) h0
  simpa using this
theorem scan_find0 {α : Type} {p : α → Bool} : ∀ {l : List α} {k : Nat}, ∃ r : Int, (match (scan (fun i x => cond (p x) (some (Sum.inr (i : Int) : Unit ⊕ Int)) none) k l).getD (.inl ()) with | .inl _ => (-1 : Int) | .inr v => v) = r ∧ decide (0 ≤ r) = l.any p
  | [], k => ⟨-1, rfl, rfl⟩
  | x :: l, k => by
    simp only [scan, List.any_cons]
    cases p x with
    | true => exact ⟨k, rfl, by simp⟩
    | false => simp only [cond_false, Bool.false_or]; exact scan_find0 (l := l) (k := k + 1)
/-- A search for the first element that meets a test: is there one? -/
theorem find_loop {α : Type} {l : List α} {f : Int → Option (Int ⊕ (Unit ⊕ Int))} (p : α → Bool) (hl : (l.length : Int) ≤ 9223372036854775807)
    (hf : ∀ (i : Nat) (h : i < l.length), f i = some (cond (p l[i]) (.inr (.inr (i : Int))) (.inl (IntKind.wrap .i64 ((i : Int) + 1))))) (hd : f l.length = some (.inr (.inl ()))) :
    ∃ x, loopO f 0 = some x ∧ decide (0 ≤ (match x with | .inl _ => (-1 : Int) | .inr v => v)) = l.any p := by
  refine ⟨_, range_loop (l := l) (fun i x => cond (p x) (some (.inr (i : Int))) none) (.inl ()) hl (fun i h => ?_) hd, ?_⟩
  · rw [hf i h]
    cases p l[i] <;> rfl
  · obtain ⟨r, h1, h2⟩ := scan_find0 (p := p) (l := l) (k := 0)
    rw [h1]; exact h2
end Go.Eng

/-
What the laws ask of each package once.
-/
namespace Go.Eng
open Go
theorem ready_eq : z208 = some true := by kernel_rfl
end Go.Eng

/-
Twins: the order of names and of stamps; sorted cells as tables; merging.
-/
namespace Go.Eng
open Go
set_option linter.unusedVariables false
set_option linter.unusedSimpArgs false

/-! ### Orders -/
theorem cmpB_tr : ∀ {a b c : List UInt8}, Lib.compareBytes a b ≤ 0 → Lib.compareBytes b c ≤ 0 → Lib.compareBytes a c ≤ 0
  | [], [], c, _, h => h
  | [], _ :: _, [], _, _ => by simp [Lib.compareBytes]
  | [], _ :: _, _ :: _, _, _ => by simp [Lib.compareBytes]
  | _ :: _, [], _, h, _ => by simp [Lib.compareBytes] at h
  | _ :: _, _ :: _, [], _, h => by simp [Lib.compareBytes] at h
  | x :: a, y :: b, z :: c, h1, h2 => by
    unfold Lib.compareBytes at *
    by_cases xy : x < y
    · by_cases yz : y < z
      · simp [UInt8.lt_trans xy yz]
      · by_cases zy : z < y
        · simp [yz, zy] at h2
        · have e : y = z := UInt8.le_antisymm (UInt8.not_lt.1 zy) (UInt8.not_lt.1 yz)
          subst e; simp [xy]
    · by_cases yx : y < x
      · simp [xy, yx] at h1
      · have e : x = y := UInt8.le_antisymm (UInt8.not_lt.1 yx) (UInt8.not_lt.1 xy)
        subst e
        simp only [xy, if_false] at h1
        by_cases xz : x < z
        · simp [xz]
        · by_cases zx : z < x
          · simp [xz, zx] at h2
          · simp only [xz, zx, if_false] at h2 ⊢
            exact cmpB_tr h1 h2
/-- one name is ahead of another one -/
def nlt (a b : List UInt8) : Prop := Lib.compareBytes a b < 0
theorem nlt_irrefl (a : List UInt8) : ¬ nlt a a := by unfold nlt; rw [cmpB_self]; omega
theorem nlt_trans {a b c : List UInt8} (h1 : nlt a b) (h2 : nlt b c) : nlt a c := by
  unfold nlt at *
  have h := cmpB_tr (a := a) (b := b) (c := c) (by omega) (by omega)
  by_cases h0 : Lib.compareBytes a c = 0
  · have := cmpB_zero.1 h0
    subst this
    have := cmpB_anti a b
    omega
  · omega
theorem nlt_asymm {a b : List UInt8} (h : nlt a b) : ¬ nlt b a := fun h2 => nlt_irrefl a (nlt_trans h h2)
theorem nlt_ne {a b : List UInt8} (h : nlt a b) : a ≠ b := fun e => nlt_irrefl b (e ▸ h)
theorem cmpB_cases (a b : List UInt8) : nlt a b ∨ a = b ∨ nlt b a := by
  unfold nlt
  have := cmpB_anti a b
  by_cases h0 : Lib.compareBytes a b = 0
  · exact .inr (.inl (cmpB_zero.1 h0))
  · omega
theorem cmp_pos {a b : List UInt8} : 0 < Lib.compareBytes a b ↔ nlt b a := by unfold nlt; have := cmpB_anti a b; omega

def stO (a b : api_Stamp) : Int := or0 (cmpI a.At b.At) (or0 (Lib.compareBytes a.By b.By) (cmpI a.No b.No))
theorem byStamp_eq (a b : api_Stamp) : z1278 a b = some (stO a b) := by
  unfold z1278 z999 z129
  simp only [Option.bind_some, cmpInt_eq]
  rw [Or_eq _ (by simp)]
  unfold stO or0
  simp only [Option.bind_some]
  by_cases h1 : cmpI a.At b.At = 0 <;> by_cases h2 : Lib.compareBytes a.By b.By = 0 <;> by_cases h3 : cmpI a.No b.No = 0 <;> simp [h1, h2, h3]

/-! ### Sorted cells -/
abbrev nm (c : api_Cell) : List UInt8 := c.Prop_.Name
def Srt (l : List api_Cell) : Prop := l.Pairwise fun x y => nlt (nm x) (nm y)
/-- the cell of a name -/
noncomputable def lk (l : List api_Cell) (n : List UInt8) : Option api_Cell := l.find? fun c => decide (nm c = n)
theorem lk_some {l : List api_Cell} {n : List UInt8} {c : api_Cell} (h : lk l n = some c) : c ∈ l ∧ nm c = n := ⟨List.mem_of_find?_eq_some h, by simpa using List.find?_some h⟩
theorem lk_none {l : List api_Cell} {n : List UInt8} : lk l n = none ↔ ∀ c ∈ l, nm c ≠ n := by
  unfold lk
  rw [List.find?_eq_none]
  simp
/-! ### Merging -/
theorem veq_iff {a b : api_Value} : (decide (a.Kind = b.Kind) && ((a.Flag == b.Flag) && (decide (a.Number = b.Number) && (decide (a.Words = b.Words) && true)))) = true ↔ a = b := by
  obtain ⟨a1, a2, a3, a4⟩ := a
  obtain ⟨b1, b2, b3, b4⟩ := b
  simp
/-- two cells of one name: none fits, where they clash -/
def clash (c d : api_Cell) : Prop := stO c.Stamp d.Stamp = 0 ∧ c.Prop_.Value ≠ d.Prop_.Value
noncomputable def pick (c d : api_Cell) : api_Cell := if 0 ≤ stO c.Stamp d.Stamp then c else d
open Classical in
noncomputable def mrg : List api_Cell → List api_Cell → Option (List api_Cell)
  | [], b => some b
  | x :: a, [] => some (x :: a)
  | x :: a, y :: b =>
    if nlt (nm x) (nm y) then (mrg a (y :: b)).map (x :: ·)
    else if nlt (nm y) (nm x) then (mrg (x :: a) b).map (y :: ·)
    else if clash x y then none else (mrg a b).map (pick x y :: ·)
termination_by a b => a.length + b.length
noncomputable def comb : Option api_Cell → Option api_Cell → Option api_Cell
  | none, x => x
  | some c, none => some c
  | some c, some d => some (pick c d)
theorem comb_none (x : Option api_Cell) : comb x none = x := by cases x <;> rfl
theorem pick_nm {c d : api_Cell} (h : nm c = nm d) : nm (pick c d) = nm c := by unfold pick; split <;> simp [h]
theorem lk_cons (x : api_Cell) (l : List api_Cell) (n : List UInt8) : lk (x :: l) n = if nm x = n then some x else lk l n := by
  unfold lk
  rw [List.find?_cons]
  by_cases h : nm x = n <;> simp [h]
theorem lk_far {l : List api_Cell} {n : List UInt8} (h : ∀ c ∈ l, nlt n (nm c)) : lk l n = none := lk_none.2 fun c hc e => nlt_irrefl n (by have := h c hc; rw [e] at this; exact this)

open Classical in
theorem mrg_spec : ∀ (a b : List api_Cell), Srt a → Srt b →
    (match mrg a b with
     | some r => Srt r ∧ (∀ n, lk r n = comb (lk a n) (lk b n)) ∧ (∀ n c d, lk a n = some c → lk b n = some d → ¬ clash c d) ∧ (∀ n, (∀ c ∈ a, nlt n (nm c)) → (∀ c ∈ b, nlt n (nm c)) → ∀ c ∈ r, nlt n (nm c)) ∧ r.length ≤ a.length + b.length
     | none => ∃ n c d, lk a n = some c ∧ lk b n = some d ∧ clash c d)
  | [], b, _, hb => by
    rw [mrg]
    exact ⟨hb, fun n => rfl, (fun n c d h => by cases h), (fun n _ h => h), by simp⟩
  | x :: a, [], ha, _ => by
    rw [mrg]
    exact ⟨ha, fun n => (comb_none _).symm, (fun n c d _ h => by cases h), (fun n h _ => h), by simp⟩
  | x :: a, y :: b, ha, hb => by
    have ga := List.pairwise_cons.1 ha
    have gb := List.pairwise_cons.1 hb
    rw [mrg]
    by_cases h1 : nlt (nm x) (nm y)
    · rw [if_pos h1]
      have ih := mrg_spec a (y :: b) ga.2 hb
      have hyb : ∀ c ∈ y :: b, nlt (nm x) (nm c) := fun c hc => by
        rcases List.mem_cons.1 hc with rfl | hc
        · exact h1
        · exact nlt_trans h1 (gb.1 c hc)
      cases hm : mrg a (y :: b) with
      | none =>
        rw [hm] at ih
        obtain ⟨n, c, d, e1, e2, e3⟩ := ih
        refine ⟨n, c, d, ?_, e2, e3⟩
        rw [lk_cons]
        have : nm x ≠ n := fun e => by
          have := (lk_some e1)
          have h3 := ga.1 c this.1
          rw [this.2, e] at h3
          exact nlt_irrefl _ h3
        rw [if_neg this]; exact e1
      | some r =>
        rw [hm] at ih
        obtain ⟨i1, i2, i3, i4, i5⟩ := ih
        simp only [Option.map_some]
        refine ⟨List.pairwise_cons.2 ⟨i4 _ ga.1 hyb, i1⟩, fun n => ?_, fun n c d e1 e2 => ?_, fun n q1 q2 c hc => ?_, by simp at i5 ⊢; omega⟩
        · rw [lk_cons, lk_cons, i2]
          by_cases e : nm x = n
          · subst e
            rw [if_pos rfl, if_pos rfl, lk_far hyb]
            rfl
          · rw [if_neg e, if_neg e]
        · rw [lk_cons] at e1
          by_cases e : nm x = n
          · subst e
            rw [lk_far hyb] at e2; cases e2
          · rw [if_neg e] at e1
            exact i3 n c d e1 e2
        · rcases List.mem_cons.1 hc with rfl | hc
          · exact q1 _ (by simp)
          · exact i4 n (fun c hc => q1 c (by simp [hc])) q2 c hc
    · rw [if_neg h1]
      by_cases h2 : nlt (nm y) (nm x)
      · rw [if_pos h2]
        have ih := mrg_spec (x :: a) b ha gb.2
        have hxa : ∀ c ∈ x :: a, nlt (nm y) (nm c) := fun c hc => by
          rcases List.mem_cons.1 hc with rfl | hc
          · exact h2
          · exact nlt_trans h2 (ga.1 c hc)
        cases hm : mrg (x :: a) b with
        | none =>
          rw [hm] at ih
          obtain ⟨n, c, d, e1, e2, e3⟩ := ih
          refine ⟨n, c, d, e1, ?_, e3⟩
          rw [lk_cons]
          have : nm y ≠ n := fun e => by
            have := (lk_some e2)
            have h3 := gb.1 d this.1
            rw [this.2, e] at h3
            exact nlt_irrefl _ h3
          rw [if_neg this]; exact e2
        | some r =>
          rw [hm] at ih
          obtain ⟨i1, i2, i3, i4, i5⟩ := ih
          simp only [Option.map_some]
          refine ⟨List.pairwise_cons.2 ⟨i4 _ hxa gb.1, i1⟩, fun n => ?_, fun n c d e1 e2 => ?_, fun n q1 q2 c hc => ?_, by simp at i5 ⊢; omega⟩
          · rw [lk_cons y r, lk_cons y b, i2]
            by_cases e : nm y = n
            · subst e
              rw [if_pos rfl, if_pos rfl, lk_far hxa]
              rfl
            · rw [if_neg e, if_neg e]
          · rw [lk_cons y] at e2
            by_cases e : nm y = n
            · subst e
              rw [lk_far hxa] at e1; cases e1
            · rw [if_neg e] at e2
              exact i3 n c d e1 e2
          · rcases List.mem_cons.1 hc with rfl | hc
            · exact q2 _ (by simp)
            · exact i4 n q1 (fun c hc => q2 c (by simp [hc])) c hc
      · rw [if_neg h2]
        have he : nm x = nm y := by
          rcases cmpB_cases (nm x) (nm y) with h | h | h
          · exact absurd h h1
          · exact h
          · exact absurd h h2
        by_cases h3 : clash x y
        · rw [if_pos h3]
          exact ⟨nm x, x, y, by rw [lk_cons, if_pos rfl], by rw [lk_cons, if_pos he.symm], h3⟩
        · rw [if_neg h3]
          have ih := mrg_spec a b ga.2 gb.2
          have hb' : ∀ c ∈ b, nlt (nm x) (nm c) := fun c hc => he ▸ gb.1 c hc
          cases hm : mrg a b with
          | none =>
            rw [hm] at ih
            obtain ⟨n, c, d, e1, e2, e3⟩ := ih
            have hne : nm x ≠ n := fun e => by
              rw [← e, lk_far ga.1] at e1; cases e1
            refine ⟨n, c, d, ?_, ?_, e3⟩
            · rw [lk_cons, if_neg hne]; exact e1
            · rw [lk_cons, if_neg (he ▸ hne)]; exact e2
          | some r =>
            rw [hm] at ih
            obtain ⟨i1, i2, i3, i4, i5⟩ := ih
            simp only [Option.map_some]
            have hp := pick_nm he
            refine ⟨List.pairwise_cons.2 ⟨by rw [hp]; exact i4 _ ga.1 hb', i1⟩, fun n => ?_, fun n c d e1 e2 => ?_, fun n q1 q2 c hc => ?_, by simp at i5 ⊢; omega⟩
            · rw [lk_cons, lk_cons, lk_cons, hp, ← he, i2]
              by_cases e : nm x = n
              · rw [if_pos e, if_pos e, if_pos e]; rfl
              · rw [if_neg e, if_neg e, if_neg e]
            · rw [lk_cons] at e1 e2
              by_cases e : nm x = n
              · rw [if_pos e] at e1
                rw [if_pos (he ▸ e)] at e2
                cases e1; cases e2; exact h3
              · rw [if_neg e] at e1
                rw [if_neg (he ▸ e)] at e2
                exact i3 n c d e1 e2
            · rcases List.mem_cons.1 hc with rfl | hc
              · rw [hp]; exact q1 _ (by simp)
              · exact i4 n (fun c hc => q1 c (by simp [hc])) (fun c hc => q2 c (by simp [hc])) c hc
termination_by a b => a.length + b.length
end Go.Eng

/-
Twins: the code's merging and checks are those of tables.
-/
namespace Go.Eng
open Go
set_option linter.unusedVariables false
set_option linter.unusedSimpArgs false

theorem sub_tail {α : Type} (x : α) (a : List α) : sub? (x :: a) 1 (((x :: a).length : Nat) : Int) = some a := by
  unfold sub?
  rw [if_pos ⟨by omega, by simp; omega, by omega⟩]
  simp
theorem at_zero {α : Type} (x : α) (a : List α) : at? (x :: a) 0 = some x := rfl
theorem lim_ok {n : Nat} (h : n ≤ 100000) : Nat.ble n LIM = true := ble_lim (by omega)

/-- cells of a row -/
theorem concat3_eq {a b c : List api_Cell} (ha : a.length ≤ 10000) (hb : b.length ≤ 10000) (hc : c.length ≤ 10000) : z539 [a, b, c] = some (a ++ b ++ c) := by
  unfold z539
  have t0 : at? [a, b, c] 0 = some a := rfl
  have t1 : at? [a, b, c] 1 = some b := rfl
  have t2 : at? [a, b, c] 2 = some c := rfl
  have i1 : IntKind.wrap .i64 ((0 : Int) + 1) = 1 := by decide
  have i2 : IntKind.wrap .i64 ((1 : Int) + 1) = 2 := by decide
  have i3 : IntKind.wrap .i64 ((2 : Int) + 1) = 3 := by decide
  have w1 : IntKind.wrap .i64 ((0 : Int) + a.length) = a.length := by rw [wrap64 (by omega) (by omega)]; omega
  have w2 : IntKind.wrap .i64 ((a.length : Int) + b.length) = (a.length : Int) + b.length := wrap64 (by omega) (by omega)
  have w3 : IntKind.wrap .i64 ((a.length : Int) + b.length + c.length) = (a.length : Int) + b.length + c.length := wrap64 (by omega) (by omega)
  have n1 : ¬ (a.length : Int) < 0 := by omega
  have n2 : ¬ (a.length : Int) + b.length < 0 := by omega
  have n3 : ¬ (a.length : Int) + b.length + c.length < 0 := by omega
  have l3 : (([a, b, c] : List (List api_Cell)).length : Int) = 3 := rfl
  have h1 : loopO (z542 [a, b, c]) (0, 0) = some ((a.length : Int) + b.length + c.length) := by
    rw [loop_in (s' := ((a.length : Int), (1 : Int))) (by simp only [z542, l3, show ((0 : Int) < 3) by omega, decide_true, cond_true, t0, Option.bind_some, w1, n1, decide_false, cond_false, i1])]
    rw [loop_in (s' := ((a.length : Int) + b.length, (2 : Int))) (by simp only [z542, l3, show ((1 : Int) < 3) by omega, decide_true, cond_true, t1, Option.bind_some, w2, n2, decide_false, cond_false, i2])]
    rw [loop_in (s' := ((a.length : Int) + b.length + c.length, (3 : Int))) (by simp only [z542, l3, show ((2 : Int) < 3) by omega, decide_true, cond_true, t2, Option.bind_some, w3, n3, decide_false, cond_false, i3])]
    exact loop_out (by simp only [z542, l3, show ¬ ((3 : Int) < 3) by omega, decide_false, cond_false])
  have h2 : z597 ((a.length : Int) + b.length + c.length) = some [] := by
    have z : IntKind.wrap .i64 ((0 : Int) - 0) = 0 := by decide
    have z2 : IntKind.wrap .i64 ((a.length : Int) + b.length + c.length - 0) = (a.length : Int) + b.length + c.length := by rw [Int.sub_zero]; exact w3
    unfold z597 z600
    simp only [n3, decide_false, cond_false, z, z2]
    by_cases h0 : (0 : Int) < (a.length : Int) + b.length + c.length
    · have g1 : (decide (0 ≤ (a.length : Int) + b.length + c.length) && decide ((a.length : Int) + b.length + c.length ≤ 137438953472)) = true := by simp; omega
      simp only [h0, decide_true, cond_true, g1, gd]
      have g2 : (0 : Int) ≤ max ((a.length : Int) + b.length + c.length) 0 := by omega
      simp [g2]
    · simp [h0]
  have h3 : loopO (z547 [a, b, c]) ([], 0) = some (a ++ b ++ c) := by
    rw [loop_in (s' := (([] : List api_Cell) ++ a, (1 : Int))) (by simp only [z547, l3, show ((0 : Int) < 3) by omega, decide_true, cond_true, t0, Option.bind_some, i1, gd, lim_ok (n := ([] : List api_Cell).length + a.length) (by simp; omega)])]
    rw [loop_in (s' := (([] : List api_Cell) ++ a ++ b, (2 : Int))) (by simp only [z547, l3, show ((1 : Int) < 3) by omega, decide_true, cond_true, t1, Option.bind_some, i2, gd, lim_ok (n := (([] : List api_Cell) ++ a).length + b.length) (by simp; omega)])]
    rw [loop_in (s' := (([] : List api_Cell) ++ a ++ b ++ c, (3 : Int))) (by simp only [z547, l3, show ((2 : Int) < 3) by omega, decide_true, cond_true, t2, Option.bind_some, i3, gd, lim_ok (n := (([] : List api_Cell) ++ a ++ b).length + c.length) (by simp; omega)])]
    exact loop_out (by simp only [z547, l3, show ¬ ((3 : Int) < 3) by omega, decide_false, cond_false, List.nil_append])
  rw [h1, Option.bind_some, h2, Option.bind_some, h3]
  rfl

open Classical in
theorem joined_loop : ∀ (a b out : List api_Cell), a.length + b.length + out.length ≤ 10000 →
    (match mrg a b with
     | some r => ∃ a' b' o', loopO z1332 (a, b, out) = some (.inl (a', b', o')) ∧ o' ++ a' ++ b' = out ++ r ∧ o'.length + a'.length + b'.length ≤ 10000
     | none => loopO z1332 (a, b, out) = some (.inr ()))
  | [], b, out, hl => by
    rw [mrg]
    exact ⟨[], b, out, loop_out (by simp [z1332, z1337]), by simp, by simp at hl ⊢; omega⟩
  | x :: a, [], out, hl => by
    rw [mrg]
    exact ⟨x :: a, [], out, loop_out (by simp only [z1332, z1337]; simp), by simp, by simp at hl ⊢; omega⟩
  | x :: a, y :: b, out, hl => by
    have hx2 : z1337 (x :: a) (y :: b) = some true := by
      unfold z1337
      have h1 : (0 : Int) < (((x :: a).length : Nat) : Int) := by simp only [List.length_cons]; omega
      have h2 : (0 : Int) < (((y :: b).length : Nat) : Int) := by simp only [List.length_cons]; omega
      simp only [h1, h2, decide_true, cond_true]
    have hg : ∀ z : api_Cell, Nat.ble (out.length + [z].length) LIM = true := fun z => lim_ok (by simp at hl ⊢; omega)
    have hsc : z999 (nm x) (nm y) = some () := rfl
    rw [mrg]
    by_cases h1 : nlt (nm x) (nm y)
    · rw [if_pos h1]
      have ih := joined_loop a (y :: b) (out ++ [x]) (by simp at hl ⊢; omega)
      have e : loopO z1332 (x :: a, y :: b, out) = loopO z1332 (a, y :: b, out ++ [x]) := loop_in (by
        simp only [z1332, hx2, Option.bind_some, cond_true, at_zero, hsc, show Lib.compareBytes x.Prop_.Name y.Prop_.Name < 0 from h1, decide_true, sub_tail, gd]
        rw [hg]
        rfl)
      rw [e]
      cases hm : mrg a (y :: b) with
      | none => rw [hm] at ih; exact ih
      | some r =>
        rw [hm] at ih
        obtain ⟨a', b', o', q1, q2, q3⟩ := ih
        exact ⟨a', b', o', q1, by rw [q2]; simp, q3⟩
    · rw [if_neg h1]
      by_cases h2 : nlt (nm y) (nm x)
      · rw [if_pos h2]
        have ih := joined_loop (x :: a) b (out ++ [y]) (by simp at hl ⊢; omega)
        have e : loopO z1332 (x :: a, y :: b, out) = loopO z1332 (x :: a, b, out ++ [y]) := loop_in (by
          simp only [z1332, hx2, Option.bind_some, cond_true, at_zero, hsc, show ¬ Lib.compareBytes x.Prop_.Name y.Prop_.Name < 0 from h1, cmp_pos.2 h2, decide_true, decide_false, cond_false, sub_tail, gd]
          rw [hg]
          rfl)
        rw [e]
        cases hm : mrg (x :: a) b with
        | none => rw [hm] at ih; exact ih
        | some r =>
          rw [hm] at ih
          obtain ⟨a', b', o', q1, q2, q3⟩ := ih
          exact ⟨a', b', o', q1, by rw [q2]; simp, q3⟩
      · rw [if_neg h2]
        have n2 : ¬ 0 < Lib.compareBytes x.Prop_.Name y.Prop_.Name := fun h => h2 (cmp_pos.1 h)
        have hx4 : z1347 (x :: a) (y :: b) (stO x.Stamp y.Stamp) = some (decide (clash x y)) := by
          unfold z1347
          simp only [at_zero, Option.bind_some]
          by_cases hz : stO x.Stamp y.Stamp = 0
          · simp only [hz, decide_true, cond_true]
            congr 1
            rw [Bool.eq_iff_iff, Bool.not_eq_true', Bool.eq_false_iff, ne_eq, veq_iff, decide_eq_true_iff]
            exact ⟨fun h => ⟨hz, h⟩, fun h => h.2⟩
          · simp only [hz, decide_false, cond_false]
            have : ¬ clash x y := fun h => hz h.1
            simp [this]
        have hb3 : z1278 (api_Stamp.mk x.Stamp.At x.Stamp.By x.Stamp.No) (api_Stamp.mk y.Stamp.At y.Stamp.By y.Stamp.No) = some (stO x.Stamp y.Stamp) := byStamp_eq x.Stamp y.Stamp
        by_cases h3 : clash x y
        · rw [if_pos h3]
          refine loop_out ?_
          simp only [z1332, hx2, Option.bind_some, cond_true, at_zero, hsc, show ¬ Lib.compareBytes x.Prop_.Name y.Prop_.Name < 0 from h1, n2, decide_false, cond_false, z1342, hb3, hx4, h3, decide_true]
        · rw [if_neg h3]
          have ih := joined_loop a b (out ++ [pick x y]) (by simp at hl ⊢; omega)
          have hx3 : z1342 (x :: a) (y :: b) out = some (.inl (out ++ [pick x y])) := by
            unfold z1342
            simp only [at_zero, Option.bind_some, hb3, hx4, h3, decide_false, cond_false, gd]
            unfold pick
            by_cases h4 : 0 ≤ stO x.Stamp y.Stamp
            · simp only [h4, decide_true, cond_true, if_true]
              rw [hg]; rfl
            · simp only [h4, decide_false, cond_false, if_false]
              rw [hg]; rfl
          have e : loopO z1332 (x :: a, y :: b, out) = loopO z1332 (a, b, out ++ [pick x y]) := loop_in (by
            simp only [z1332, hx2, Option.bind_some, cond_true, at_zero, hsc, show ¬ Lib.compareBytes x.Prop_.Name y.Prop_.Name < 0 from h1, n2, decide_false, cond_false, hx3, sub_tail])
          rw [e]
          cases hm : mrg a b with
          | none => rw [hm] at ih; exact ih
          | some r =>
            rw [hm] at ih
            obtain ⟨a', b', o', q1, q2, q3⟩ := ih
            exact ⟨a', b', o', q1, by rw [q2]; simp, q3⟩
termination_by a b => a.length + b.length

theorem joined_eq {a b : List api_Cell} (hl : a.length + b.length ≤ 10000) : z1316 a b = some (match mrg a b with | some r => (r, 0) | none => ([], 13)) := by
  unfold z1316
  have := joined_loop a b [] (by simpa using hl)
  cases hm : mrg a b with
  | none => rw [hm] at this; rw [this]; rfl
  | some r =>
    rw [hm] at this
    obtain ⟨a', b', o', q1, q2, q3⟩ := this
    rw [q1]
    simp only [Option.bind_some]
    rw [concat3_eq (by omega) (by omega) (by omega)]
    simp only [Option.bind_some]
    rw [q2]; rfl
theorem merged_eq {a b : List api_Cell} (hl : a.length + b.length ≤ 500) (ha : Srt a) (hb : Srt b) : z1352 a b = some (match mrg a b with | some r => (r, 0) | none => ([], 13)) := by
  unfold z1352
  rw [joined_eq (by omega)]
  have hs := mrg_spec a b ha hb
  cases hm : mrg a b with
  | none => simp [z1368, z1373]
  | some r =>
    rw [hm] at hs
    have : ¬ (500 : Int) < r.length := by have := hs.2.2.2.2; omega
    simp [z1368, z1373, this]

/-! ### Checks -/
def GC (c : api_Cell) : Prop := z1313 (nm c) = some true ∧ z1397 c.Prop_.Value = some 0 ∧ z1391 c.Stamp = some 0
theorem First_zero : z24 [0, 0] = some 0 := by kernel_rfl
theorem srt_step {l : List api_Cell} (hs : Srt l) {i : Nat} (h : i + 1 < l.length) : (Op.bytesLess (nm l[i + 1]) (nm (l[i]'(by omega))) || decide (nm l[i + 1] = nm (l[i]'(by omega)))) = false := by
  have h1 : nlt (nm (l[i]'(by omega))) (nm l[i + 1]) := (List.pairwise_iff_getElem.1 hs) i (i + 1) (by omega) h (by omega)
  rw [cmpB_less]
  have h2 := nlt_asymm h1
  have h3 := nlt_ne h1
  unfold nlt at h2
  simp only [Bool.or_eq_false_iff, decide_eq_false_iff_not]
  exact ⟨h2, fun e => h3 e.symm⟩
theorem check_ok {l : List api_Cell} (h : ∀ c ∈ l, GC c) (hs : Srt l) (hl : l.length ≤ 500) : z1129 l = some 0 := by
  unfold z1129
  have : ¬ (500 : Int) < l.length := by omega
  simp only [this, decide_false, cond_false]
  rw [range_loop (l := l) (fun _ _ => none) (.inl ()) (by omega)]
  · have : ∀ (k : Nat) (m : List api_Cell), scan (fun (_ : Nat) (_ : api_Cell) => (none : Option (Unit ⊕ Int))) k m = none := fun k m => scan_none.2 fun _ _ _ => rfl
    rw [this]
    rfl
  · intro i hi
    obtain ⟨h1, h2, h3⟩ := h l[i] (List.getElem_mem _)
    have hc : (i : Int) < l.length := by omega
    have h2' : z1397 (api_Value.mk l[i].Prop_.Value.Kind l[i].Prop_.Value.Flag l[i].Prop_.Value.Number l[i].Prop_.Value.Words) = some 0 := h2
    have h3' : z1391 (api_Stamp.mk l[i].Stamp.At l[i].Stamp.By l[i].Stamp.No) = some 0 := h3
    have hx2 : z1137 l i l[i] = some false := by
      unfold z1137
      cases i with
      | zero => simp
      | succ i =>
        have hp : (0 : Int) < ((i + 1 : Nat) : Int) := by omega
        have w : IntKind.wrap .i64 (((i + 1 : Nat) : Int) - 1) = (i : Int) := by rw [wrap64 (by omega) (by omega)]; omega
        simp only [hp, decide_true, cond_true, w, at_nat (show i < l.length by omega), Option.bind_some]
        exact congrArg some (srt_step hs hi)
    unfold z1132
    simp only [hc, decide_true, cond_true, at_nat hi, Option.bind_some, show z1313 l[i].Prop_.Name = some true from h1, Bool.not_true, cond_false, h2', h3', First_zero, hx2]
  · unfold z1132
    simp
theorem Merge_eq {a b : List api_Cell} (ga : ∀ c ∈ a, GC c) (gb : ∀ c ∈ b, GC c) (ha : Srt a) (hb : Srt b) (hl : a.length + b.length ≤ 500) : z1231 a b = some (match mrg a b with | some r => (r, 0) | none => ([], 13)) := by
  unfold z1231
  simp only [check_ok ga ha (by omega), check_ok gb hb (by omega), Option.bind_some, First_zero, decide_true, Bool.not_true, cond_false, merged_eq hl ha hb]
end Go.Eng

/-
Twins: merging in any order; what is visible.
-/
namespace Go.Eng
open Go
set_option linter.unusedVariables false
set_option linter.unusedSimpArgs false

/-! ### Merging in any order -/
end Go.Eng

/-
Twins: what is visible; checks of properties; searching.
-/
namespace Go.Eng
open Go
set_option linter.unusedVariables false
set_option linter.unusedSimpArgs false

/-! ### Names below names -/
/-- the first name is below the second one -/
def belB (n a : List UInt8) : Bool := (a ++ [46]).isPrefixOf n
theorem bel_iff {n a : List UInt8} : belB n a = true ↔ ∃ r, n = a ++ 46 :: r := by
  unfold belB
  rw [List.isPrefixOf_iff_prefix]
  constructor
  · rintro ⟨r, h⟩; exact ⟨r, by rw [← h]; simp⟩
  · rintro ⟨r, h⟩; exact ⟨r, by rw [h]; simp⟩
theorem Below_is (n a : List UInt8) : z6 n a = some (belB n a) := by
  unfold z6 z10
  by_cases h1 : (a.length : Int) < n.length
  · have h1' : a.length < n.length := by omega
    simp only [h1, decide_true, cond_true, at_nat h1', Option.bind_some]
    by_cases h2 : ((n[a.length]'h1').toNat : Int) = 46
    · have hsub : sub? n 0 (a.length : Int) = some (n.take a.length) := by
        unfold sub?
        rw [if_pos ⟨by omega, by omega, by omega⟩]
        simp
      simp only [h2, decide_true, cond_true, hsub, Option.bind_some]
      congr 1
      rw [Bool.eq_iff_iff, decide_eq_true_iff, bel_iff]
      have h3 : n[a.length]'h1' = 46 := by
        have : (n[a.length]'h1').toNat = (46 : UInt8).toNat := by show (n[a.length]'h1').toNat = 46; omega
        exact UInt8.toNat_inj.1 this
      constructor
      · intro h
        refine ⟨n.drop (a.length + 1), ?_⟩
        conv => lhs; rw [← List.take_append_drop a.length n, h, List.drop_eq_getElem_cons h1', h3]
      · rintro ⟨r, h⟩; rw [h]; simp
    · simp only [h2, decide_false, cond_false, Option.bind_some]
      congr 1
      rw [eq_comm, Bool.eq_false_iff]
      intro h
      obtain ⟨r, h⟩ := bel_iff.1 h
      apply h2
      simp [h]
  · simp only [h1, decide_false, cond_false, Option.bind_some]
    congr 1
    rw [eq_comm, Bool.eq_false_iff]
    intro h
    obtain ⟨r, h⟩ := bel_iff.1 h
    rw [h] at h1
    simp at h1
    omega
/-! ### What hides what -/
def hidesB (x y : api_Cell) : Bool :=
  if 0 < stO x.Stamp y.Stamp then belB (nm y) (nm x) || (belB (nm x) (nm y) && !decide (y.Prop_.Value.Kind = 0))
  else if stO x.Stamp y.Stamp = 0 then belB (nm y) (nm x) && (!decide (x.Prop_.Value.Kind = 0) && !decide (y.Prop_.Value.Kind = 0)) else false
theorem hides_eq (x y : api_Cell) : z1300 x y = some (hidesB x y) := by
  have hb : z1278 (api_Stamp.mk x.Stamp.At x.Stamp.By x.Stamp.No) (api_Stamp.mk y.Stamp.At y.Stamp.By y.Stamp.No) = some (stO x.Stamp y.Stamp) := byStamp_eq x.Stamp y.Stamp
  unfold z1300 hidesB
  simp only [Below_is, Option.bind_some, hb]
  by_cases h1 : 0 < stO x.Stamp y.Stamp
  · simp only [h1, decide_true, cond_true, if_true, z1303]
    cases belB y.Prop_.Name x.Prop_.Name <;> cases belB x.Prop_.Name y.Prop_.Name <;> cases decide (y.Prop_.Value.Kind = 0) <;> rfl
  · by_cases h2 : stO x.Stamp y.Stamp = 0
    · simp only [h1, h2, decide_true, decide_false, cond_true, cond_false, if_true, if_false, z1308]
      cases belB y.Prop_.Name x.Prop_.Name <;> cases decide (x.Prop_.Value.Kind = 0) <;> cases decide (y.Prop_.Value.Kind = 0) <;> simp
    · simp only [h1, h2, decide_false, cond_false, if_false]
theorem foldl_filter {α β : Type} (p : α → Bool) (f : α → β) : ∀ (l : List α) (s : List β), l.foldl (fun s c => bif p c then s ++ [f c] else s) s = s ++ (l.filter p).map f
  | [], s => by simp
  | x :: l, s => by
    rw [List.foldl_cons, foldl_filter p f l]
    cases hp : p x <;> simp [hp]
/-! ### Searching -/
def PSrt (l : List api_Prop) : Prop := l.Pairwise fun x y => nlt x.Name y.Name
theorem mid_eq {s : Int} (h0 : 0 ≤ s) (h1 : s ≤ 100000) : IntKind.wrap .i64 (ishr .u64 (IntKind.wrap .u64 (IntKind.wrap .i64 s)) 1) = s / 2 := by
  have w1 : IntKind.wrap .i64 s = s := wrap64 (by omega) (by omega)
  have w2 : IntKind.wrap .u64 s = s := by unfold IntKind.wrap; simp [IntKind.min, IntKind.max, IntKind.bits, IntKind.signed]; omega
  have w3 : ishr .u64 s 1 = s / 2 := by
    unfold ishr
    simp [IntKind.bits]
    exact Int.fdiv_eq_ediv_of_nonneg s (by omega)
  rw [w1, w2, w3, wrap64 (by omega) (by omega)]
theorem find_eq {l : List api_Prop} (hs : PSrt l) (hl : l.length ≤ 10000) (t : List UInt8) :
    (twin_find l t = some (-1) ∧ ∀ q ∈ l, q.Name ≠ t) ∨ ∃ (i : Nat) (h : i < l.length), twin_find l t = some (i : Int) ∧ l[i].Name = t := by
  have key : ∃ i : Nat, i ≤ l.length ∧ loopO (z476 l t) (0, (l.length : Int)) = some (i : Int) ∧ (∀ k (h : k < l.length), k < i → nlt l[k].Name t) ∧ (∀ k (h : k < l.length), i ≤ k → ¬ nlt l[k].Name t) := by
    obtain ⟨r, h1, i, h2, h3⟩ := loop_ok (f := z476 l t) (Q := fun r : Int => ∃ i : Nat, r = i ∧ i ≤ l.length ∧ (∀ k (h : k < l.length), k < i → nlt l[k].Name t) ∧ (∀ k (h : k < l.length), i ≤ k → ¬ nlt l[k].Name t))
      (fun s => ∃ i j : Nat, s = ((i : Int), (j : Int)) ∧ i ≤ j ∧ j ≤ l.length ∧ (∀ k (h : k < l.length), k < i → nlt l[k].Name t) ∧ (∀ k (h : k < l.length), j ≤ k → ¬ nlt l[k].Name t)) (fun s => (s.2 - s.1).toNat) (by
        rintro _ ⟨i, j, rfl, ij, jl, lo, hi⟩
        unfold z476
        refine .cond (fun hc => ?_) (fun hc => ?_)
        · have hc : (i : Int) < j := by simpa using hc
          have hm : IntKind.wrap .i64 (ishr .u64 (IntKind.wrap .u64 (IntKind.wrap .i64 ((i : Int) + j))) 1) = (((i + j) / 2 : Nat) : Int) := by rw [mid_eq (by omega) (by omega)]; omega
          have hml : (i + j) / 2 < l.length := by omega
          rw [hm, at_nat hml]
          have hf1 : z1281 l[(i + j) / 2] t = some () := rfl
          simp only [Option.bind_some]
          have hf1' : z1281 (api_Prop.mk l[(i + j) / 2].Name (api_Value.mk l[(i + j) / 2].Value.Kind l[(i + j) / 2].Value.Flag l[(i + j) / 2].Value.Number l[(i + j) / 2].Value.Words)) t = some () := rfl
          rw [hf1']
          simp only [Option.bind_some]
          refine .cond (fun h => ?_) (fun h => ?_)
          · have h : nlt l[(i + j) / 2].Name t := by unfold nlt; simpa using h
            have w : IntKind.wrap .i64 ((((i + j) / 2 : Nat) : Int) + 1) = (((i + j) / 2 + 1 : Nat) : Int) := by rw [wrap64 (by omega) (by omega)]; omega
            rw [w]
            refine .some ⟨⟨(i + j) / 2 + 1, j, rfl, by omega, jl, fun k hk hki => ?_, hi⟩, by simp only; omega⟩
            by_cases e : k = (i + j) / 2
            · subst e; exact h
            · exact nlt_trans ((List.pairwise_iff_getElem.1 hs) k ((i + j) / 2) hk hml (by omega)) h
          · have h : ¬ nlt l[(i + j) / 2].Name t := by unfold nlt; simpa using h
            refine .some ⟨⟨i, (i + j) / 2, rfl, by omega, by omega, lo, fun k hk hki => ?_⟩, by simp only; omega⟩
            by_cases e : k = (i + j) / 2
            · subst e; exact h
            · exact fun hn => h (nlt_trans ((List.pairwise_iff_getElem.1 hs) ((i + j) / 2) k hml hk (by omega)) hn)
        · have hc : ¬ (i : Int) < j := by simpa using hc
          have e : i = j := by omega
          subst e
          exact .some ⟨i, rfl, jl, lo, hi⟩) (s := ((0 : Int), (l.length : Int))) ⟨0, l.length, rfl, by omega, by omega, fun k h hk => by omega, fun k h hk => by omega⟩
    subst h2
    exact ⟨i, h3.1, h1, h3.2⟩
  obtain ⟨i, h0, h1, lo, hi⟩ := key
  unfold twin_find z473
  rw [h1]
  simp only [Option.bind_some]
  have far : ∀ (k : Nat) (h : k < l.length), l[k].Name = t → k = i := by
    intro k hk e
    rcases Nat.lt_trichotomy k i with h | h | h
    · have := lo k hk h; rw [e] at this; exact absurd this (nlt_irrefl _)
    · exact h
    · have h2 : i < l.length := by omega
      have h3 := hi i h2 (Nat.le_refl _)
      have h4 := (List.pairwise_iff_getElem.1 hs) i k h2 hk h
      rw [e] at h4
      exact absurd h4 h3
  unfold z481
  by_cases hil : (i : Int) < l.length
  · have hil' : i < l.length := by omega
    simp only [hil, decide_true, cond_true, at_nat hil', Option.bind_some]
    have hf1' : z1281 (api_Prop.mk l[i].Name (api_Value.mk l[i].Value.Kind l[i].Value.Flag l[i].Value.Number l[i].Value.Words)) t = some () := rfl
    rw [hf1']
    simp only [Option.bind_some]
    by_cases hz : Lib.compareBytes l[i].Name t = 0
    · right
      refine ⟨i, hil', ?_, cmpB_zero.1 hz⟩
      simp [hz]
    · left
      refine ⟨by simp [hz], fun q hq e => ?_⟩
      obtain ⟨k, hk, rfl⟩ := List.mem_iff_getElem.1 hq
      have := far k hk e
      subst this
      exact hz (cmpB_zero.2 e)
  · left
    refine ⟨by simp [hil], fun q hq e => ?_⟩
    obtain ⟨k, hk, rfl⟩ := List.mem_iff_getElem.1 hq
    have := far k hk e
    omega

/-! ### Checks of properties -/
def GP (p : api_Prop) : Prop := z1313 p.Name = some true ∧ z1397 p.Value = some 0 ∧ p.Value.Kind ≠ 0
theorem above_ok {l : List api_Prop} (hs : PSrt l) (hl : l.length ≤ 10000) {n : List UInt8} (hn : (n.length : Int) ≤ 9223372036854775807) (h : ∀ q ∈ l, belB n q.Name = false) : z1265 n l = some false := by
  unfold z1265
  rw [range_loop (l := n) (fun _ _ => none) (.inl ()) hn]
  · have : ∀ (k : Nat) (m : List UInt8), scan (fun (_ : Nat) (_ : UInt8) => (none : Option (Unit ⊕ Unit))) k m = none := fun k m => scan_none.2 fun _ _ _ => rfl
    rw [this]; rfl
  · intro i hi
    unfold z1268 z1273
    have hc : (i : Int) < n.length := by omega
    simp only [hc, decide_true, cond_true, at_nat hi, Option.bind_some]
    by_cases h2 : (n[i].toNat : Int) = 46
    · have hsub : sub? n 0 (i : Int) = some (n.take i) := by
        unfold sub?
        rw [if_pos ⟨by omega, by omega, by omega⟩]
        simp
      simp only [h2, decide_true, cond_true, hsub, Option.bind_some, z1151]
      rcases find_eq hs hl (n.take i) with ⟨f1, _⟩ | ⟨k, hk, f1, f2⟩
      · rw [f1]; rfl
      · exfalso
        have h3 : n[i] = 46 := by
          have : n[i].toNat = (46 : UInt8).toNat := by show n[i].toNat = 46; omega
          exact UInt8.toNat_inj.1 this
        have := h l[k] (List.getElem_mem _)
        rw [Bool.eq_false_iff] at this
        apply this
        rw [bel_iff, f2]
        refine ⟨n.drop (i + 1), ?_⟩
        conv => lhs; rw [← List.take_append_drop i n, List.drop_eq_getElem_cons hi, h3]
    · simp only [h2, decide_false, cond_false, Option.bind_some]
  · unfold z1268
    simp
theorem props_ok {l : List api_Prop} (h : ∀ p ∈ l, GP p) (hs : PSrt l) (hl : l.length ≤ 500) (hn : ∀ p ∈ l, (p.Name.length : Int) ≤ 9223372036854775807) (hb : ∀ p ∈ l, ∀ q ∈ l, belB p.Name q.Name = false) : z1150 l = some 0 := by
  unfold z1150
  have : ¬ (500 : Int) < l.length := by omega
  simp only [this, decide_false, cond_false]
  have c1 : loopO (z1169 l) 0 = some (.inl ()) := by
    rw [range_loop (l := l) (fun _ _ => none) (.inl ()) (by omega)]
    · have : ∀ (k : Nat) (m : List api_Prop), scan (fun (_ : Nat) (_ : api_Prop) => (none : Option (Unit ⊕ Int))) k m = none := fun k m => scan_none.2 fun _ _ _ => rfl
      rw [this]; rfl
    · intro i hi
      obtain ⟨h1, h2, h3⟩ := h l[i] (List.getElem_mem _)
      have hc : (i : Int) < l.length := by omega
      have h2' : z1397 (api_Value.mk l[i].Value.Kind l[i].Value.Flag l[i].Value.Number l[i].Value.Words) = some 0 := h2
      have hx2 : z1174 l i l[i] = some false := by
        unfold z1174
        cases i with
        | zero => simp
        | succ i =>
          have hp : (0 : Int) < ((i + 1 : Nat) : Int) := by omega
          have w : IntKind.wrap .i64 (((i + 1 : Nat) : Int) - 1) = (i : Int) := by rw [wrap64 (by omega) (by omega)]; omega
          simp only [hp, decide_true, cond_true, w, at_nat (show i < l.length by omega), Option.bind_some]
          congr 1
          have g1 : nlt (l[i]'(by omega)).Name l[i + 1].Name := (List.pairwise_iff_getElem.1 hs) i (i + 1) (by omega) hi (by omega)
          rw [cmpB_less]
          have g2 := nlt_asymm g1
          have g3 := nlt_ne g1
          unfold nlt at g2
          simp only [Bool.or_eq_false_iff, decide_eq_false_iff_not]
          exact ⟨g2, fun e => g3 e.symm⟩
      unfold z1169
      simp only [hc, decide_true, cond_true, at_nat hi, Option.bind_some, h1, Bool.not_true, cond_false, h2', h3, decide_false, hx2]
    · unfold z1169; simp
  have c2 : loopO (z1179 l) 0 = some (.inl ()) := by
    rw [range_loop (l := l) (fun _ _ => none) (.inl ()) (by omega)]
    · have : ∀ (k : Nat) (m : List api_Prop), scan (fun (_ : Nat) (_ : api_Prop) => (none : Option (Unit ⊕ Unit))) k m = none := fun k m => scan_none.2 fun _ _ _ => rfl
      rw [this]; rfl
    · intro i hi
      have hc : (i : Int) < l.length := by omega
      have hm := List.getElem_mem hi
      unfold z1179
      simp only [hc, decide_true, cond_true, at_nat hi, Option.bind_some, above_ok hs (by omega) (hn _ hm) (fun q hq => hb _ hm q hq), cond_false]
    · unfold z1179; simp
  simp only [c1, c2, Option.bind_some]
/-! ### Equal rows -/
end Go.Eng

/-
What is left of a sorted row, each key once.
-/
namespace Go.Eng
open Go
set_option linter.unusedVariables false
set_option linter.unusedSimpArgs false
section
variable {α : Type}
theorem gCom_key {P : α → Prop} {t : α → α → Option Bool} {kf : α → Int} (ht : ∀ x y, P x → P y → ∃ b, t x y = some b ∧ (b = true ↔ kf x = kf y)) {z : α} {l : List α} (hl : l.length ≤ 100000) (hp : All P l)
    (hs : ∀ p q (hpq : p < q) (hq : q < l.length), kf (l[p]'(by omega)) ≤ kf l[q]) : Ok (gCom t z l) (fun r => r.length ≤ l.length ∧ All P r ∧ r.Pairwise (fun x y => kf x < kf y)) := by
  unfold gCom
  have small : ∀ k, (k ≤ l.length) → (∀ q (hq : q + 1 < k) (hk : k ≤ l.length), kf (l[q + 1]'(by omega)) ≠ kf (l[q]'(by omega))) → (l.take k).Pairwise (fun x y => kf x < kf y) := by
    intro k hkl hne
    rw [List.pairwise_iff_getElem]
    intro i j hi hj hij
    simp only [List.getElem_take]
    have hjl : j < l.length := by simp at hj; omega
    have hjk : j < k := by simp at hj; omega
    have h1 : kf (l[i]'(by omega)) ≤ kf (l[j - 1]'(by omega)) := by
      by_cases e : i = j - 1
      · subst e; exact Int.le_refl _
      · exact hs i (j - 1) (by omega) (by omega)
    have h2 := hs (j - 1) j (by omega) hjl
    have h3 : kf (l[j - 1]'(by omega)) ≠ kf l[j] := by
      intro e
      have := hne (j - 1) (by omega) hkl
      apply this
      have e3 : j - 1 + 1 = j := by omega
      simp only [e3]
      exact e.symm
    omega
  refine .cond (fun hc => .some ⟨Nat.le_refl _, hp, ?_⟩) (fun hc => ?_)
  · have hc := of_decide_eq_true hc
    match l, hc with
    | [], _ => simp
    | [x], _ => simp
    | x :: y :: m, hc => simp at hc; omega
  have hl2 : (2 : Int) ≤ l.length := by simpa using hc
  refine Ok.bind (P := fun x => match x with | .inl _ => l.Pairwise (fun x y => kf x < kf y) | .inr r => r.length ≤ l.length ∧ All P r ∧ r.Pairwise (fun x y => kf x < kf y)) ?_ (fun x hx => ?_)
  · refine loop_ok (fun k : Int => ∃ n : Nat, k = (n : Int) ∧ 1 ≤ n ∧ n ≤ l.length ∧ ∀ q (hq : q + 1 < n) (hk : n ≤ l.length), kf (l[q + 1]'(by omega)) ≠ kf (l[q]'(by omega))) (fun k => ((l.length : Int) - k).toNat) ?_ ⟨1, rfl, by omega, by omega, fun q hq => by omega⟩
    rintro k ⟨n, rfl, n1, n2, n3⟩
    unfold gC1
    by_cases hk' : n < l.length
    · have hki : (n : Int) < l.length := by omega
      have w1 : IntKind.wrap .i64 ((n : Int) - 1) = ((n - 1 : Nat) : Int) := by rw [wrap64 (by omega) (by omega)]; omega
      have w2 : IntKind.wrap .i64 ((n : Int) + 1) = ((n + 1 : Nat) : Int) := by rw [wrap64 (by omega) (by omega)]; omega
      obtain ⟨b, hb, hbe⟩ := ht l[n] (l[n - 1]'(by omega)) (hp _ (List.getElem_mem hk')) (hp _ (List.getElem_mem (show n - 1 < l.length by omega)))
      simp only [hki, decide_true, cond_true, w1, at_nat hk', at_nat (show n - 1 < l.length by omega), hb, Option.bind_some]
      cases b with
      | false =>
        simp only [cond_false, w2]
        refine .some ⟨⟨n + 1, rfl, by omega, by omega, fun q hq hk => ?_⟩, by omega⟩
        by_cases e : q + 1 = n
        · subst e
          intro he
          have : (false : Bool) = true := hbe.2 he
          cases this
        · exact n3 q (by omega) n2
      | true =>
        have heq : kf l[n] = kf (l[n - 1]'(by omega)) := hbe.1 rfl
        simp only [cond_true]
        refine .gd (by simp; omega) ?_
        have hkn : (((l.length : Int).toNat - (n : Int).toNat : Nat) : Int) = l.length - n := by omega
        refine Ok.bind (P := fun q : List α × Int => q.1.length = l.length ∧ ∃ i : Nat, q.2 = (i : Int) ∧ i ≤ l.length ∧ All P q.1 ∧ (q.1.take i).Pairwise (fun x y => kf x < kf y)) ?_ (fun ⟨l7, k9⟩ ⟨q1, i, q2, q3, q4, q5⟩ => ?_)
        · refine loop_ok (fun q : List α × Int × Int => q.1.length = l.length ∧ All P q.1 ∧ ∃ i j : Nat, q.2.1 = (i : Int) ∧ q.2.2 = (j : Int) ∧ 1 ≤ j ∧ n + j ≤ l.length ∧ 1 ≤ i ∧ i ≤ n + j - 1 ∧ q.1.drop (n + j - 1) = l.drop (n + j - 1) ∧
            (q.1.take i).Pairwise (fun x y => kf x < kf y) ∧ ∀ (h1 : i - 1 < q.1.length) (h2 : n + j - 1 < l.length), kf q.1[i - 1] = kf l[n + j - 1]) (fun q => ((l.length : Int) - q.2.2).toNat) ?_
            ⟨rfl, hp, n, 1, rfl, rfl, by omega, by omega, by omega, by omega, rfl, small n n2 n3, fun h1 h2 => by simp only [Nat.add_sub_cancel]; exact heq.symm⟩
          rintro ⟨m, i', j'⟩ ⟨m1, m2, i, j, rfl, rfl, j1, j2, i1, i2, d1, d2, d3⟩
          simp only at m1 m2 d1 d2 d3
          unfold gC2
          rw [hkn]
          refine .cond (fun hj => ?_) (fun hj => .some ⟨m1, i, rfl, by omega, m2, d2⟩)
          have hj : (j : Int) < l.length - n := by simpa using hj
          have w3 : IntKind.wrap .i64 ((j : Int) - 1) = ((j - 1 : Nat) : Int) := by rw [wrap64 (by omega) (by omega)]; omega
          have w4 : IntKind.wrap .i64 ((i : Int) + 1) = ((i + 1 : Nat) : Int) := by rw [wrap64 (by omega) (by omega)]; omega
          have w5 : IntKind.wrap .i64 ((j : Int) + 1) = ((j + 1 : Nat) : Int) := by rw [wrap64 (by omega) (by omega)]; omega
          have a1 : m[n + j]'(by omega) = l[n + j]'(by omega) := by
            have h := congrArg (fun x => x[1]?) d1
            simp only [List.getElem?_drop] at h
            rw [show n + j - 1 + 1 = n + j by omega, List.getElem?_eq_getElem (by omega), List.getElem?_eq_getElem (by omega)] at h
            exact Option.some.inj h
          have a2 : m[n + j - 1]'(by omega) = l[n + j - 1]'(by omega) := by
            have h := congrArg (fun x => x[0]?) d1
            simp only [List.getElem?_drop] at h
            rw [show n + j - 1 + 0 = n + j - 1 by omega, List.getElem?_eq_getElem (by omega), List.getElem?_eq_getElem (by omega)] at h
            exact Option.some.inj h
          have hx := hp _ (List.getElem_mem (show n + j < l.length by omega))
          have hy := hp _ (List.getElem_mem (show n + j - 1 < l.length by omega))
          obtain ⟨b, hb, hbe⟩ := ht (l[n + j]'(by omega)) (l[n + j - 1]'(by omega)) hx hy
          refine Ok.bind (P := fun q : List α × Int => q.1.length = l.length ∧ All P q.1 ∧ ∃ i : Nat, q.2 = (i : Int) ∧ 1 ≤ i ∧ i ≤ n + j ∧ q.1.drop (n + j) = l.drop (n + j) ∧ (q.1.take i).Pairwise (fun x y => kf x < kf y) ∧ ∀ (h1 : i - 1 < q.1.length) (h2 : n + j < l.length), kf q.1[i - 1] = kf l[n + j]) ?_ (fun ⟨m', i''⟩ ⟨g1, g2, i3, g3, g4, g5, g6, g7, g8⟩ => ?_)
          · unfold gC3
            rw [w3]
            refine .gd (by simp; omega) ?_
            have e1 : (n : Int) + (j : Int) = ((n + j : Nat) : Int) := by omega
            have e2 : (n : Int) + ((j - 1 : Nat) : Int) = ((n + j - 1 : Nat) : Int) := by omega
            rw [e1, at_nat (show n + j < m.length by omega)]
            simp only [Option.bind_some]
            refine .gd (by simp; omega) ?_
            rw [e2, at_nat (show n + j - 1 < m.length by omega), at_nat (show i < m.length by omega)]
            simp only [Option.bind_some, a1, a2, hb, w4, Int.toNat_natCast]
            have hdrop : m.drop (n + j) = l.drop (n + j) := by
              have h := congrArg (List.drop 1) d1
              rw [List.drop_drop, List.drop_drop, show n + j - 1 + 1 = n + j by omega] at h
              exact h
            cases b with
            | true =>
              have he : kf (l[n + j]'(by omega)) = kf (l[n + j - 1]'(by omega)) := hbe.1 rfl
              refine .some ⟨m1, m2, i, rfl, i1, by omega, hdrop, d2, fun h1 h2 => ?_⟩
              rw [d3 h1 (by omega)]; exact he.symm
            | false =>
              have hne : kf (l[n + j]'(by omega)) ≠ kf (l[n + j - 1]'(by omega)) := fun e => by have := hbe.2 e; cases this
              refine .some ⟨by simp [m1], m2.set hx, i + 1, rfl, by omega, by omega, ?_, ?_, fun h1 h2 => ?_⟩
              · simp only
                rw [List.drop_set_of_lt (by omega)]; exact hdrop
              · simp only
                rw [List.take_succ_eq_append_getElem (by simp; omega), List.take_set_of_le (by omega)]
                simp only [List.getElem_set_self]
                rw [List.pairwise_append]
                refine ⟨d2, by simp, fun x hx' y hy' => ?_⟩
                rw [List.mem_singleton] at hy'
                subst hy'
                have hlast := d3 (by omega) (by omega)
                have hle : kf x ≤ kf (l[n + j - 1]'(by omega)) := by
                  obtain ⟨p, hp', rfl⟩ := List.mem_iff_getElem.1 hx'
                  simp only [List.getElem_take]
                  rw [← hlast]
                  have hpi : p < i := by simp at hp'; omega
                  by_cases e : p = i - 1
                  · subst e; exact Int.le_refl _
                  · have := (List.pairwise_iff_getElem.1 d2) p (i - 1) hp' (by simp; omega) (by omega)
                    simp only [List.getElem_take] at this
                    omega
                have hlt : kf (l[n + j - 1]'(by omega)) < kf (l[n + j]'(by omega)) := by
                  have h1 := hs (n + j - 1) (n + j) (by omega) (by omega)
                  by_cases e : kf (l[n + j - 1]'(by omega)) = kf (l[n + j]'(by omega))
                  · exact absurd e.symm hne
                  · omega
                omega
              · simp
          · simp only at g1 g2 g3 g6 g7 g8
            subst g3
            rw [w5]
            refine .some ⟨⟨g1, g2, i3, j + 1, rfl, rfl, by omega, by omega, g4, by omega, ?_, g7, fun h1 h2 => ?_⟩, by simp only; omega⟩
            · simp only
              rw [show n + (j + 1) - 1 = n + j by omega]; exact g6
            · simp only
              have := g8 h1 (by omega)
              rw [this]
              congr 1
        · simp only at q1 q2 q4 q5
          subst q2
          refine .gd (by simp; omega) (.gd ?_ ?_)
          · simp only [Bool.and_eq_true, decide_eq_true_eq]
            refine ⟨by omega, ?_⟩
            simp only [List.length_append, List.length_take, List.length_replicate, List.length_drop, Int.toNat_natCast]
            omega
          · rw [take_part (by simp; omega)]
            refine .some ⟨?_, fun x hx => q4 x (List.mem_of_mem_take hx), by simpa using q5⟩
            simp only [List.length_take]; omega
    · have hki : ¬ (n : Int) < l.length := by omega
      simp only [hki, decide_false, cond_false]
      refine .some ?_
      have := small l.length (Nat.le_refl _) (fun q hq hk => n3 q (by omega) n2)
      rwa [List.take_length] at this
  · cases x with
    | inl _ => exact .some ⟨Nat.le_refl _, hp, hx⟩
    | inr r => exact .some hx
end
end Go.Eng

/-
The streams.
-/
namespace Go.Eng
open Go
set_option linter.unusedVariables false
set_option linter.unusedSimpArgs false

theorem wrap_I64 (n : Int) : I64 (IntKind.wrap .i64 n) := by
  unfold IntKind.wrap I64
  simp [IntKind.bits, IntKind.signed]
  split <;> omega

theorem Below_eq {x n : Int} (hx : I64 x) (hn : I64 n) : z232 x n = some (if n < 1 then 0 else x % n) := by
  unfold I64 at hx hn
  unfold z232 z235
  by_cases h : n < 1
  · simp [h]
  · have h0 : (n == 0) = false := by simp; omega
    have e := Int.emod_eq_tmod (a := x) (b := n)
    have nn := Int.emod_nonneg x (show n ≠ 0 by omega)
    have lt := Int.emod_lt_of_pos x (show 0 < n by omega)
    simp only [h, decide_false, cond_false, h0, Bool.not_false, gd, cond_true, Option.bind_some, if_false]
    by_cases h3 : x.tmod n < 0
    · simp only [h3, decide_true, cond_true, Option.bind_some]
      split at e
      · omega
      · rw [wrap64 (by omega) (by omega)]
        congr 1
        omega
    · simp only [h3, decide_false, cond_false, Option.bind_some]
      congr 1
      split at e <;> omega
theorem Below_ok {x n : Int} (hx : I64 x) (hn : I64 n) : Ok (z232 x n) (fun r => (1 ≤ n → 0 ≤ r ∧ r < n) ∧ (n < 1 → r = 0)) := by
  refine .of_eq (Below_eq hx hn) ⟨fun h => ?_, fun h => by simp [h]⟩
  rw [if_neg (by omega)]
  exact ⟨Int.emod_nonneg _ (by omega), Int.emod_lt_of_pos _ (by omega)⟩

/-- A stream whose numbers are of 64 bits, of which at most k were taken. -/
def StrOk (k : Nat) (s : z240) : Prop := 0 ≤ s.at_ ∧ s.at_ ≤ k ∧ s.L.length ≤ 9223372036854775807 ∧ ∀ n ∈ s.L, I64 n
theorem StrOk.mono {k k' : Nat} {s : z240} (h : StrOk k s) (hk : k ≤ k') : StrOk k' s := ⟨h.1, by have := h.2.1; omega, h.2.2⟩
/-- One number further. -/
abbrev nxt (s : z240) : z240 := z240.mk s.L (IntKind.wrap .i64 (s.at_ + 1))
theorem StrOk.nxt {k : Nat} {s : z240} (h : StrOk k s) (hk : k < 1099511627776) : StrOk (k + 1) (nxt s) := by
  obtain ⟨h1, h2, h3, h4⟩ := h
  refine ⟨?_, ?_, h3, h4⟩
  · show 0 ≤ IntKind.wrap .i64 (s.at_ + 1)
    rw [wrap64 (by omega) (by omega)]; omega
  · show IntKind.wrap .i64 (s.at_ + 1) ≤ _
    rw [wrap64 (by omega) (by omega)]; omega

theorem Next_ok {k : Nat} {s : z240} {n : Int} (h : StrOk k s) (hk : k < 1099511627776) (hn : I64 n) : Ok (z244 s n) (fun r => (1 ≤ n → 0 ≤ r ∧ r < n) ∧ (n < 1 → r = 0)) := by
  obtain ⟨h1, h2, h3, h4⟩ := h
  unfold z244
  refine .cond (fun _ => ?_) (fun hl => ?_)
  · exact (Below_ok (wrap_I64 _) hn).bind fun r hr => .some hr
  · have hl' : s.L.length ≠ 0 := by simpa using hl
    have e1 : IntKind.wrap .i64 (s.at_ + 1) = s.at_ + 1 := wrap64 (by omega) (by omega)
    have e2 : IntKind.wrap .i64 (s.at_ + 1 - 1) = s.at_ := by rw [wrap64 (by omega) (by omega)]; omega
    refine .gd (by simpa using hl') ?_
    rw [e1, e2]
    refine (at_mem (tmod_nonneg h1) (tmod_lt' (by omega))).bind fun y hy => ?_
    refine (Below_ok (h4 y hy) (by unfold I64; omega)).bind fun r1 hr1 => ?_
    exact (Below_ok (wrap_I64 _) hn).bind fun r hr => .some hr

theorem Pick_ok {k : Nat} {s : z240} {l : List Int} (h : StrOk k s) (hk : k < 1099511627776) (hl : 0 < l.length) (hl2 : l.length < 1000) : Ok (z247 s l) (fun r => r ∈ l) := by
  unfold z247
  refine (Next_ok h hk (by unfold I64; omega)).bind fun r hr => ?_
  have := hr.1 (by omega)
  exact (at_mem this.1 this.2).bind fun y hy => .some hy
theorem Some_ok {k : Nat} {s : z240} {l : List (List UInt8)} (h : StrOk k s) (hk : k < 1099511627776) (hl : 0 < l.length) (hl2 : l.length < 1000) : Ok (z288 s l) (fun r => r ∈ l) := by
  unfold z288
  refine (Next_ok h hk (by unfold I64; omega)).bind fun r hr => ?_
  have := hr.1 (by omega)
  exact (at_mem this.1 this.2).bind fun y hy => .some hy
theorem Flip_ok {k : Nat} {s : z240} {n : Int} (h : StrOk k s) (hk : k < 1099511627776) (hn : I64 n) : Ok (z241 s n) (fun _ => True) := by
  unfold z241
  exact (Next_ok h hk hn).bind fun r hr => .some trivial
theorem Range_ok {k : Nat} {s : z240} {low high : Int} (h : StrOk k s) (hk : k < 1099511627776) (hlow : -4611686018427387903 < low ∧ low < 4611686018427387904) (hh : -4611686018427387904 < high ∧ high < 4611686018427387903) :
    Ok (z250 s low high) (fun r => StrOk (k + 1) r.1 ∧ low ≤ r.2 ∧ (low ≤ high → r.2 ≤ high) ∧ (high < low → r.2 = low)) := by
  unfold z250
  refine .cond (fun hc => ?_) (fun hc => ?_)
  · have hc' : high < low := by simpa using hc
    exact .some ⟨h.mono (by omega), Int.le_refl _, by intro h; omega, fun _ => rfl⟩
  · have hc' : ¬ high < low := by simpa using hc
    have e1 : IntKind.wrap .i64 (high - low) = high - low := wrap64 (by omega) (by omega)
    have e2 : IntKind.wrap .i64 (high - low + 1) = high - low + 1 := wrap64 (by omega) (by omega)
    rw [e1, e2]
    refine (Next_ok h hk (by unfold I64; omega)).bind fun r hr => ?_
    have := hr.1 (by omega)
    refine .some ⟨h.nxt hk, ?_, fun _ => ?_, fun h => by omega⟩
    · show low ≤ IntKind.wrap .i64 (low + r)
      rw [wrap64 (by omega) (by omega)]; omega
    · show IntKind.wrap .i64 (low + r) ≤ high
      rw [wrap64 (by omega) (by omega)]; omega
end Go.Eng

/-
The law CellsInAnyOrder: cells that streams make; cells that are merged in any order.
-/
namespace Go.Eng
open Go
set_option linter.unusedVariables false
set_option linter.unusedSimpArgs false

/-! ### Cells that streams make -/
noncomputable def cmpC (x y : api_Cell) : Option Int := some (Lib.compareBytes (nm x) (nm y))
def zC : api_Cell := api_Cell.mk (api_Prop.mk [] (api_Value.mk 0 false 0 [])) (api_Stamp.mk 0 [] 0)
theorem sortC_eq : z670 = gSort cmpC := by kernel_rfl
theorem comC_eq : z503 = gCom (fun a b => some (decide (nm a = nm b))) zC := by kernel_rfl
theorem gSort_ord {α : Type} {P : α → Prop} {f : α → α → Int} {c : α → α → Option Int} (hc : ∀ x y, P x → P y → c x y = some (f x y)) (anti : ∀ x y, f y x = - f x y) (tr : ∀ x y z, f x y ≤ 0 → f y z ≤ 0 → f x z ≤ 0)
    {l : List α} (hl : l.length < 20) (hP : All P l) : Ok (gSort c l) (fun r => r.length = l.length ∧ All P r ∧ Ord f r l.length) := by
  obtain ⟨r, h1, h2, h3, h4⟩ := gI_ord hc anti tr (l := l) (by omega) hP
  have e1 : loopO (gS1 c (l.length : Int)) (l, 0, 20) = some (l, 0) := by
    have : ¬ (20 : Int) ≤ l.length := by omega
    exact loop_out (by simp [gS1, this])
  have e2 : loopO (gS2 (l.length : Int)) 20 = some () := by
    have : ¬ (20 : Int) < l.length := by omega
    exact loop_out (by simp [gS2, this])
  refine ⟨r, ?_, h2, h3, h4⟩
  unfold gSort gS
  simp only [e1, Option.bind_some, h1, h2, beq_self_eq_true, gd, e2, cond_true]

def nm7 : List (List UInt8) := [[97], [97, 46, 120], [97, 46, 121], [97, 46, 120, 46, 112], [98], [98, 46, 122], [97, 98]]
def rk (n : List UInt8) : Int := if n = [97] then 0 else if n = [97, 46, 120] then 1 else if n = [97, 46, 120, 46, 112] then 2 else if n = [97, 46, 121] then 3 else if n = [97, 98] then 4 else if n = [98] then 5 else 6
theorem rk_all : (nm7.all fun x => nm7.all fun y => (decide (Lib.compareBytes x y ≤ 0) == decide (rk x ≤ rk y)) && (decide (Lib.compareBytes x y < 0) == decide (rk x < rk y)) && (decide (rk x = rk y) == decide (x = y))) = true := by decide
theorem rk_spec {x y : List UInt8} (hx : x ∈ nm7) (hy : y ∈ nm7) : (Lib.compareBytes x y ≤ 0 ↔ rk x ≤ rk y) ∧ (nlt x y ↔ rk x < rk y) ∧ (rk x = rk y ↔ x = y) := by
  have := List.all_eq_true.1 (List.all_eq_true.1 rk_all x hx) y hy
  simp only [Bool.and_eq_true, beq_iff_eq, decide_eq_decide] at this
  exact ⟨this.1.1, this.1.2, this.2⟩
theorem nm7_ok : (nm7.all fun n => decide (z1313 n = some true)) = true := by kernel_rfl
theorem nm7_len : (nm7.all fun n => decide (n.length ≤ 10)) = true := by decide
def RS (s : api_Stamp) : Prop := (0 ≤ s.At ∧ s.At ≤ 200) ∧ (s.By = [104] ∨ s.By = [107] ∨ s.By = [100]) ∧ (0 ≤ s.No ∧ s.No ≤ 1)
theorem keyH : base_Key [104] = some true := by kernel_rfl
theorem keyK : base_Key [107] = some true := by kernel_rfl
theorem keyD : base_Key [100] = some true := by kernel_rfl
theorem RS_ok {s : api_Stamp} (h : RS s) : z1391 s = some 0 := by
  obtain ⟨h1, h2, h3⟩ := h
  unfold z1391
  have hk : base_Key s.By = some true := by
    rcases h2 with h | h | h <;> rw [h]
    · exact keyH
    · exact keyK
    · exact keyD
  have m1 : (decide (0 ≤ s.At) && decide (s.At ≤ 345686399999)) = true := by simp; omega
  have m2 : (decide (s.No < 0) || decide (1000000000 < s.No)) = false := by simp; omega
  simp only [Moment_eq, Out_eq, hk, m1, m2, Option.bind_some, Bool.not_true, cond_false]
/-- right cells -/
def RC (c : api_Cell) : Prop := nm c ∈ nm7 ∧ z1397 c.Prop_.Value = some 0 ∧ RS c.Stamp
theorem RC.gc {c : api_Cell} (h : RC c) : GC c := by
  refine ⟨?_, h.2.1, RS_ok h.2.2⟩
  have := List.all_eq_true.1 nm7_ok _ h.1
  exact of_decide_eq_true this
theorem RC.len {c : api_Cell} (h : RC c) : ((nm c).length : Int) ≤ 9223372036854775807 := by
  have := of_decide_eq_true (List.all_eq_true.1 nm7_len _ h.1)
  omega
theorem fault_flag (b : Bool) : z1397 (api_Value.mk 1 b 0 []) = some 0 := by cases b <;> kernel_rfl
theorem fault_none : z1397 (api_Value.mk 0 false 0 []) = some 0 := by kernel_rfl
theorem fault_words : (([[], [120], [97, 32, 34, 98, 34], [92], [195, 169], [45, 32, 49]] : List (List UInt8)).all fun w => decide (z1397 (api_Value.mk 3 false 0 w) = some 0)) = true := by kernel_rfl
theorem fault_nums : (([1, 2, 2, 3, 0, (-5), 1000000000] : List Int).all fun n => decide (z1397 (api_Value.mk 2 false n []) = some 0)) = true := by kernel_rfl
theorem nxt_mk {k : Nat} {s : z240} (h : StrOk k s) (hk : k < 1099511627776) : StrOk (k + 1) (z240.mk s.L (IntKind.wrap .i64 (s.at_ + 1))) := h.nxt hk
theorem RightValue_ok {k : Nat} {s : z240} (h : StrOk k s) (hk : k + 10 < 1099511627776) : Ok (z285 s) (fun v => z1397 v = some 0) := by
  unfold z285
  have h1 := nxt_mk h (by omega)
  refine (Next_ok h (by omega) (by unfold I64; omega)).bind fun n _ => .cond (fun _ => ?_) (fun _ => .cond (fun _ => ?_) (fun _ => ?_))
  · exact (Flip_ok h1 (by omega) (by unfold I64; omega)).bind fun b _ => .some (fault_flag b)
  · exact (Some_ok h1 (by omega) (by simp) (by simp)).bind fun w hw => .some (of_decide_eq_true (List.all_eq_true.1 fault_words w hw))
  · exact (Pick_ok h1 (by omega) (by simp) (by simp)).bind fun n hn => .some (of_decide_eq_true (List.all_eq_true.1 fault_nums n hn))
theorem RightStamp_ok {k : Nat} {s : z240} (h : StrOk k s) (hk : k + 10 < 1099511627776) : Ok (z282 s) (fun r => StrOk (k + 3) r.1 ∧ RS r.2 ∧ r.2.At ≤ 9 ∧ r.2.By ≠ [100]) := by
  unfold z282
  refine (Range_ok h (by omega) (by omega) (by omega)).bind fun ⟨s1, n⟩ ⟨r1, r2, r3, _⟩ => ?_
  simp only at r1 r2 r3
  have r3 := r3 (by omega)
  refine (Some_ok r1 (by omega) (by simp) (by simp)).bind fun w hw => ?_
  have h2 := nxt_mk r1 (by omega)
  refine (Pick_ok h2 (by omega) (by simp) (by simp)).bind fun m hm => ?_
  have h3 := nxt_mk h2 (by omega)
  refine .some ⟨h3, ⟨⟨r2, by simp only; omega⟩, ?_, ?_⟩, r3, ?_⟩
  · simp at hw; rcases hw with rfl | rfl <;> simp
  · simp at hm; rcases hm with rfl | rfl <;> simp
  · simp at hw; rcases hw with rfl | rfl <;> simp
theorem RightCells_ok {k : Nat} {s : z240} (h : StrOk k s) (hk : k + 100 < 1099511627776) :
    Ok (z253 s) (fun r => StrOk (k + 60) r.1 ∧ (∀ c ∈ r.2, RC c ∧ c.Stamp.At ≤ 9 ∧ c.Stamp.By ≠ [100]) ∧ Srt r.2 ∧ r.2.length ≤ 6) := by
  unfold z253
  refine (Range_ok h (by omega) (by omega) (by omega)).bind fun ⟨s1, n⟩ ⟨r1, r2, r3, _⟩ => ?_
  simp only at r1 r2 r3
  have r3 := r3 (by omega)
  let P : api_Cell → Prop := fun c => RC c ∧ c.Stamp.At ≤ 9 ∧ c.Stamp.By ≠ [100]
  have loop : Ok (loopO (z259 n) (s1, [], 0)) (fun q => StrOk (k + 60) q.1 ∧ All P q.2 ∧ q.2.length ≤ 6) := by
    refine loop_ok (fun q : z240 × List api_Cell × Int => ∃ j : Nat, q.2.2 = (j : Int) ∧ (j : Int) ≤ 6 ∧ StrOk (k + 1 + 8 * j) q.1 ∧ All P q.2.1 ∧ q.2.1.length = j) (fun q => ((6 : Int) - q.2.2).toNat) ?_ ⟨0, rfl, by omega, by simpa using r1, All.nil, rfl⟩
    rintro ⟨s2, l, i⟩ ⟨j, rfl, j1, j2, j3, j4⟩
    simp only at j2 j3 j4
    unfold z259
    refine .cond (fun hc => ?_) (fun hc => .some ⟨j2.mono (by omega), j3, by simp only; omega⟩)
    have hc : (j : Int) < n := by simpa using hc
    refine (Some_ok j2 (by omega) (by simp) (by simp)).bind fun w hw => ?_
    have a1 := nxt_mk j2 (by omega)
    refine (RightValue_ok a1 (by omega)).bind fun v hv => ?_
    have a2 := nxt_mk a1 (by omega)
    have a3 := nxt_mk a2 (by omega)
    refine (RightStamp_ok a3 (by omega)).bind fun ⟨s3, st⟩ ⟨b1, b2, b3, b4⟩ => ?_
    simp only at b1 b2 b3 b4
    have hw7 : w ∈ nm7 := by
      simp at hw
      rcases hw with rfl | rfl | rfl | rfl | rfl | rfl | rfl <;> decide
    have hx2 : Ok (z264 w v s3 st) (fun c => P c) := by
      unfold z264
      refine (Flip_ok b1 (by omega) (by unfold I64; omega)).bind fun b _ => .cond (fun _ => ?_) (fun _ => ?_)
      · exact .some ⟨⟨hw7, fault_none, b2⟩, b3, b4⟩
      · exact .some ⟨⟨hw7, hv, b2⟩, b3, b4⟩
    refine hx2.bind fun c hc2 => ?_
    have w1 : IntKind.wrap .i64 ((j : Int) + 1) = ((j + 1 : Nat) : Int) := by rw [wrap64 (by omega) (by omega)]; omega
    refine .gd (lim_ok (by simp; omega)) (.some ⟨⟨j + 1, w1, by omega, (nxt_mk b1 (by omega)).mono (by omega), ?_, by simp [j4]⟩, ?_⟩)
    · intro x hx
      rcases List.mem_append.1 hx with hx | hx
      · exact j3 x hx
      · rw [List.mem_singleton] at hx; subst hx; exact hc2
    · show ((6 : Int) - IntKind.wrap .i64 ((j : Int) + 1)).toNat < _
      rw [w1]; simp only; omega
  refine loop.bind fun ⟨s2, l⟩ ⟨q1, q2, q3⟩ => ?_
  simp only at q1 q2 q3
  rw [sortC_eq]
  refine (gSort_ord (P := P) (f := fun x y => Lib.compareBytes (nm x) (nm y)) (c := cmpC) (fun _ _ _ _ => rfl) (fun x y => cmpB_anti _ _) (fun x y z => cmpB_tr) (by omega) q2).bind fun m ⟨m1, m2, m3⟩ => ?_
  refine .gd (by simp [m1]) ?_
  rw [comC_eq]
  refine (gCom_key (P := P) (kf := fun c => rk (nm c)) (fun x y hx hy => ⟨_, rfl, ?_⟩) (z := zC) (l := m) (by omega) m2 (fun p q hpq hq => ?_)).bind fun r ⟨t1, t2, t3⟩ => .some ⟨q1, t2, ?_, by simp only; omega⟩
  · rw [decide_eq_true_iff]
    exact (rk_spec hx.1.1 hy.1.1).2.2.symm
  · have := m3 p q hpq (by omega) (by omega)
    exact (rk_spec (m2 _ (List.getElem_mem (show p < m.length by omega))).1.1 (m2 _ (List.getElem_mem hq)).1.1).1.1 this
  · refine List.Pairwise.imp_of_mem ?_ t3
    intro x y hx hy hxy
    exact (rk_spec (t2 x hx).1.1 (t2 y hy).1.1).2.1.2 hxy

/-! ### In any order -/
end Go.Eng

/-
The law CompactStays: what nobody needs any more is left out; what is visible stays, also after a merge with what comes later.
-/
namespace Go.Eng
open Go
set_option linter.unusedVariables false
set_option linter.unusedSimpArgs false

/-! ### Compact -/
def oldB (n : Int) (c : api_Cell) : Bool := decide (c.Stamp.At < n)
theorem belowC_eq (l : List api_Cell) (y : api_Cell) (hl : (l.length : Int) ≤ 9223372036854775807) : z552 l y = some (l.any fun x => belB (nm x) (nm y)) := by
  have h0 : z552 l y = ((z605 l y).bind fun vr2 => some (decide (0 ≤ vr2))) := rfl
  rw [h0]
  unfold z605
  obtain ⟨x, h1, h2⟩ := find_loop (l := l) (f := z608 l y) (fun x => belB (nm x) (nm y)) hl (fun i h => by
    unfold z608 z1188
    have hc : (i : Int) < l.length := by omega
    simp only [hc, decide_true, cond_true, at_nat h, Option.bind_some, Below_is]
    cases belB (nm l[i]) (nm y) <;> rfl) (by unfold z608; simp)
  rw [h1, ← h2]
  cases x <;> rfl
def leftL (n : Int) (l : List api_Cell) : List api_Cell := l.filter fun c => !(l.any fun x => hidesB x c && oldB n x)
def outB (n : Int) (l : List api_Cell) (c : api_Cell) : Bool := !decide (c.Prop_.Value.Kind = 0) || (!oldB n c || l.any fun x => belB (nm x) (nm c))
def cpt (n : Int) (l : List api_Cell) : List api_Cell := (leftL n l).filter (outB n (leftL n l))
theorem out_eq {l : List api_Cell} (hl : l.length ≤ 10000) (n : Int) : loopO (z1203 n l) ([], 0) = some (l.filter (outB n l)) := by
  have := fold_loop0 (l := l) (f := z1203 n l) (fun (s : List api_Cell) i => (s, i)) (fun s c => bif outB n l c then s ++ [c] else s) id (fun i s => s.length ≤ i) (s0 := []) (by omega)
    (fun i hi s hs => by
      have hc : (i : Int) < l.length := by omega
      have h2 : z552 l (api_Cell.mk (api_Prop.mk l[i].Prop_.Name (api_Value.mk l[i].Prop_.Value.Kind l[i].Prop_.Value.Flag l[i].Prop_.Value.Number l[i].Prop_.Value.Words)) (api_Stamp.mk l[i].Stamp.At l[i].Stamp.By l[i].Stamp.No)) = some (l.any fun x => belB (nm x) (nm l[i])) := belowC_eq l l[i] (by omega)
      have hx5 : z1213 n l l[i] = some (outB n l l[i]) := by
        unfold z1213 outB oldB
        rw [h2]
        cases decide (l[i].Prop_.Value.Kind = 0) with
        | false => rfl
        | true =>
          simp only [Bool.not_true, cond_false, Bool.false_or, z1185, Option.bind_some]
          cases decide (l[i].Stamp.At < n) <;> rfl
      refine ⟨?_, ?_⟩
      · unfold z1203 z1208
        simp only [hc, decide_true, cond_true, at_nat hi, Option.bind_some, hx5]
        cases outB n l l[i] with
        | false => rfl
        | true =>
          simp only [cond_true, gd]
          rw [lim_ok (by simp; omega)]
          rfl
      · cases outB n l l[i] <;> simp <;> omega)
    (fun s _ => by unfold z1203; simp) (by simp)
  rw [this.1]
  rw [foldl_filter (outB n l) (fun c => c)]
  simp
theorem left_len (n : Int) (l : List api_Cell) : (leftL n l).length ≤ l.length := List.length_filter_le _ _
theorem cpt_len (n : Int) (l : List api_Cell) : (cpt n l).length ≤ l.length := Nat.le_trans (List.length_filter_le _ _) (left_len n l)
/-! ### What is left -/
/-! ### Equal rows of properties -/
/-! ### Later cells -/
end Go.Eng

/-
What is left of a sorted row, each key once, with what is found again.
-/
namespace Go.Eng
open Go
set_option linter.unusedVariables false
set_option linter.unusedSimpArgs false
section
variable {α : Type}
end
end Go.Eng

/-
Twins: names of properties, sorted, each once.
-/
namespace Go.Eng
open Go
set_option linter.unusedVariables false
set_option linter.unusedSimpArgs false

section
variable {α : Type}
theorem Ok.and {f : Option α} {P Q : α → Prop} (h1 : Ok f P) (h2 : Ok f Q) : Ok f (fun r => P r ∧ Q r) := by
  obtain ⟨r, e1, p1⟩ := h1
  obtain ⟨s, e2, p2⟩ := h2
  rw [e1] at e2
  obtain rfl := Option.some.inj e2
  exact ⟨r, e1, p1, p2⟩
end

/-! ### Sorting of strings -/
theorem bitLen12 (n : Nat) (h : n ≤ 12) : Ok (bits_Len (IntKind.wrap .u64 (n : Int))) (fun _ => True) := by
  match n, h with
  | 0, _ => exact ⟨0, by kernel_rfl, trivial⟩
  | 1, _ => exact ⟨1, by kernel_rfl, trivial⟩
  | 2, _ => exact ⟨2, by kernel_rfl, trivial⟩
  | 3, _ => exact ⟨2, by kernel_rfl, trivial⟩
  | 4, _ => exact ⟨3, by kernel_rfl, trivial⟩
  | 5, _ => exact ⟨3, by kernel_rfl, trivial⟩
  | 6, _ => exact ⟨3, by kernel_rfl, trivial⟩
  | 7, _ => exact ⟨3, by kernel_rfl, trivial⟩
  | 8, _ => exact ⟨4, by kernel_rfl, trivial⟩
  | 9, _ => exact ⟨4, by kernel_rfl, trivial⟩
  | 10, _ => exact ⟨4, by kernel_rfl, trivial⟩
  | 11, _ => exact ⟨4, by kernel_rfl, trivial⟩
  | 12, _ => exact ⟨4, by kernel_rfl, trivial⟩
/-! ### Names -/
theorem foldl_app {α β : Type} (f : α → β) : ∀ (l : List α) (s : List β), l.foldl (fun s c => s ++ [f c]) s = s ++ l.map f
  | [], s => by simp
  | x :: l, s => by rw [List.foldl_cons, foldl_app f l]; simp
end Go.Eng

/-
Twins: what is owed.
-/
namespace Go.Eng
open Go
set_option linter.unusedVariables false
set_option linter.unusedSimpArgs false

/-! ### Values of names -/
/-! ### What is visible -/
theorem up_len {α : Type} (f : α → Int) : ∀ {l : List α} {lo hi : Int}, l.Pairwise (fun x y => f x < f y) → (∀ x ∈ l, lo ≤ f x ∧ f x ≤ hi) → lo ≤ hi + 1 → (l.length : Int) ≤ hi - lo + 1
  | [], lo, hi, _, _, h => by simp; omega
  | x :: l, lo, hi, hp, hb, h => by
    obtain ⟨h1, h2⟩ := List.pairwise_cons.1 hp
    have h3 := hb x (List.mem_cons_self ..)
    have := up_len f (l := l) (lo := f x + 1) (hi := hi) h2 (fun y hy => ⟨by have := h1 y hy; omega, (hb y (List.mem_cons_of_mem _ hy)).2⟩) (by omega)
    simp only [List.length_cons]
    omega
/-! ### What is gone -/
theorem twinFault_ok {D R : List api_Cell} (gD : ∀ c ∈ D, RC c) (gR : ∀ c ∈ R, RC c) (hD : Srt D) (hR : Srt R) (lD : D.length ≤ 500) (lR : R.length ≤ 500) : z1394 (api_Twin.mk D R) = some 0 := by
  unfold z1394
  simp only [check_ok (fun c h => (gD c h).gc) hD lD, check_ok (fun c h => (gR c h).gc) hR lR, Option.bind_some, First_zero]
end Go.Eng

/-
Lists of properties that streams make: they are right.
-/
namespace Go.Eng
open Go
set_option linter.unusedVariables false
set_option linter.unusedSimpArgs false

/-! ### Sorting keeps what there is -/
section
variable {α : Type}
theorem swap_pm {l : List α} {j : Nat} (h : 0 < j) (hj : j < l.length) : ((l.set j (l[j - 1]'(by omega))).set (j - 1) l[j]).Perm l := by
  have h1 := Array.swap_perm (xs := l.toArray) (i := j) (j := j - 1) (by simpa using hj) (by simp; omega)
  have h2 := Array.perm_iff_toList_perm.1 h1
  simpa [Array.swap] using h2
theorem gI2_pm {P : α → Prop} {f : α → α → Int} {c : α → α → Option Int} (hc : ∀ x y, P x → P y → c x y = some (f x y)) {n : Nat} (hn : n ≤ 100000) {l0 l : List α} (hl : l.length = n) (hP : All P l) (h0 : l.Perm l0) {i : Nat} (hi : i < n) :
    Ok (loopO (gI2 c 0) (l, (i : Int))) (fun r => r.length = n ∧ All P r ∧ r.Perm l0) := by
  refine loop_ok (fun s : List α × Int => s.1.length = n ∧ All P s.1 ∧ s.1.Perm l0 ∧ ∃ j : Nat, s.2 = (j : Int) ∧ j ≤ i) (fun s => s.2.toNat) ?_ ⟨hl, hP, h0, i, rfl, Nat.le_refl _⟩
  rintro ⟨m, q⟩ ⟨m1, m2, m3, j, rfl, j1⟩
  simp only at m1 m2 m3
  unfold gI2 gI3
  by_cases hj : (0 : Int) < j
  · have w1 : IntKind.wrap .i64 ((j : Int) - 1) = ((j - 1 : Nat) : Int) := by rw [wrap64 (by omega) (by omega)]; omega
    have hjm : j < m.length := by omega
    have hjm1 : j - 1 < m.length := by omega
    have hy := m2 _ (List.getElem_mem hjm)
    have hx := m2 _ (List.getElem_mem hjm1)
    simp only [hj, decide_true, cond_true, w1, at_nat hjm, at_nat hjm1, Option.bind_some, hc _ _ hy hx]
    refine .cond (fun hlt => ?_) (fun hge => ?_)
    · have g3 : at? (m.set (j : Int).toNat m[j - 1]) ((j - 1 : Nat) : Int) = some m[j - 1] := by
        rw [at_nat (by simp; omega)]
        simp only [Int.toNat_natCast, List.getElem_set]
        rw [if_neg (by omega)]
      rw [g3]
      simp only [Option.bind_some, Int.toNat_natCast]
      exact .some ⟨⟨by simp [m1], (m2.set hx).set hy, (swap_pm (by omega) hjm).trans m3, j - 1, rfl, by omega⟩, by simp only; omega⟩
    · exact .some ⟨m1, m2, m3⟩
  · have hj' : ¬ (0 : Int) < j := hj
    simp only [hj', decide_false, cond_false, Option.bind_some]
    exact .some ⟨m1, m2, m3⟩
theorem gI_pm {P : α → Prop} {f : α → α → Int} {c : α → α → Option Int} (hc : ∀ x y, P x → P y → c x y = some (f x y)) {l : List α} (hl : l.length ≤ 100000) (hP : All P l) : Ok (gI c l 0 l.length) (fun r => r.Perm l) := by
  unfold gI
  have w : IntKind.wrap .i64 ((0 : Int) + 1) = 1 := by decide
  rw [w]
  refine Ok.bind (P := fun r : List α => r.Perm l) (loop_ok (fun s : List α × Int => s.1.length = l.length ∧ All P s.1 ∧ s.1.Perm l ∧ ∃ i : Nat, s.2 = (i : Int)) (fun s => ((l.length : Int) - s.2).toNat) ?_
    ⟨rfl, hP, List.Perm.refl _, 1, rfl⟩) fun r hr => .some hr
  rintro ⟨m, q⟩ ⟨m1, m2, m3, i, rfl⟩
  simp only at m1 m2 m3
  unfold gI1
  by_cases hi : i < l.length
  · have hi' : (i : Int) < l.length := by omega
    have w1 : IntKind.wrap .i64 ((i : Int) + 1) = ((i + 1 : Nat) : Int) := by rw [wrap64 (by omega) (by omega)]; omega
    simp only [hi', decide_true, cond_true]
    refine (gI2_pm hc (n := l.length) hl m1 m2 m3 hi).bind fun r hr => ?_
    rw [w1]
    exact .some ⟨⟨hr.1, hr.2.1, hr.2.2, i + 1, rfl⟩, by simp only; omega⟩
  · have hi' : ¬ (i : Int) < l.length := by omega
    simp only [hi', decide_false, cond_false]
    exact .some m3
end
def cmpP (x y : api_Prop) : Option Int := some (Lib.compareBytes x.Name y.Name)
theorem insP_eq : z712 = gI cmpP := by kernel_rfl
def POrd (l : List api_Prop) : Prop := Ord (fun x y : api_Prop => Lib.compareBytes x.Name y.Name) l l.length
theorem sortP_ok {l : List api_Prop} (hl : l.length ≤ 12) : Ok (z664 l) (fun r => r.Perm l ∧ POrd r) := by
  unfold z664
  refine (bitLen12 l.length hl).bind fun b _ => ?_
  have hP : All (fun _ : api_Prop => True) l := fun _ _ => trivial
  have hI := (gI_ord (P := fun _ => True) (f := fun x y : api_Prop => Lib.compareBytes x.Name y.Name) (c := cmpP) (fun _ _ _ _ => rfl) (fun x y => cmpB_anti _ _) (fun x y z => cmpB_tr) (l := l) (by omega) hP).and (gI_pm (P := fun _ => True) (f := fun x y : api_Prop => Lib.compareBytes x.Name y.Name) (c := cmpP) (fun _ _ _ _ => rfl) (l := l) (by omega) hP)
  obtain ⟨r, h1, ⟨h2, h3, h4⟩, h5⟩ := hI
  have e : z774 l 0 l.length b = some r := by
    unfold z774
    have : loopO (z777 l 0 (l.length : Int) b) () = some r := by
      refine loop_out ?_
      unfold z777
      have w : IntKind.wrap .i64 ((l.length : Int) - 0) = l.length := by rw [wrap64 (by omega) (by omega)]; omega
      have hc : (l.length : Int) ≤ 12 := by omega
      rw [w, insP_eq, h1]
      simp only [hc, decide_true, cond_true, Option.bind_some, gd, h2, beq_self_eq_true]
    rw [this]; rfl
  rw [e]
  simp only [Option.bind_some]
  refine .gd (by simp [h2]) (.some ⟨h5, ?_⟩)
  unfold POrd
  rw [h2]
  exact h4
/-- sorted, and each name once -/
theorem psrt_of {l : List api_Prop} (h : POrd l) (hn : (l.map api_Prop.Name).Nodup) : PSrt l := by
  unfold PSrt
  rw [List.pairwise_iff_getElem]
  intro i j hi hj hij
  have h1 := h i j hij hj (Nat.le_refl _)
  rcases cmpB_cases l[i].Name l[j].Name with h2 | h2 | h2
  · exact h2
  · have := (List.pairwise_iff_getElem.1 hn) i j (by simpa using hi) (by simpa using hj) hij
    simp at this
    exact absurd h2 this
  · unfold nlt at h2
    have := cmpB_anti l[i].Name l[j].Name
    simp only at h1
    omega
theorem psrt_names {l : List api_Prop} (h : PSrt l) : (l.map api_Prop.Name).Nodup := by
  unfold List.Nodup
  rw [List.pairwise_map]
  exact h.imp fun hxy => nlt_ne hxy
theorem psrt_nodup {l : List api_Prop} (h : PSrt l) : l.Nodup := by
  unfold List.Nodup
  exact List.Pairwise.imp (fun hab e => nlt_ne hab (congrArg api_Prop.Name e)) h
theorem pext : ∀ {l m : List api_Prop}, PSrt l → PSrt m → (∀ p, p ∈ l ↔ p ∈ m) → l = m := by
  intro l m h1 h2 h
  have hp : l.Perm m := (List.perm_ext_iff_of_nodup (psrt_nodup h1) (psrt_nodup h2)).2 h
  exact List.Perm.eq_of_pairwise (le := fun x y : api_Prop => nlt x.Name y.Name) (fun a b _ _ hab hba => absurd hba (nlt_asymm hab)) h1 h2 hp

/-! ### Values and names -/
def rv15 : List api_Value := [api_Value.mk 1 false 0 [], api_Value.mk 1 true 0 [], api_Value.mk 3 false 0 [], api_Value.mk 3 false 0 [120], api_Value.mk 3 false 0 [97, 32, 34, 98, 34], api_Value.mk 3 false 0 [92],
  api_Value.mk 3 false 0 [195, 169], api_Value.mk 3 false 0 [45, 32, 49], api_Value.mk 2 false 1 [], api_Value.mk 2 false 2 [], api_Value.mk 2 false 3 [], api_Value.mk 2 false 0 [], api_Value.mk 2 false (-5) [], api_Value.mk 2 false 1000000000 []]
theorem rv_own : (rv15.all fun v => decide (z1397 v = some 0) && !decide (v.Kind = 0)) = true := by kernel_rfl
theorem rv_ref : (rv15.all fun v => decide (z353 v = some 0)) = true := by kernel_rfl
theorem nm7_ref : (nm7.all fun n => decide (z321 n = some true)) = true := by kernel_rfl
theorem nm7_above : (nm7.all fun a => nm7.all fun b => decide (z361 a b = some (belB b a))) = true := by kernel_rfl
def RP (p : api_Prop) : Prop := p.Name ∈ nm7 ∧ p.Value ∈ rv15
theorem isName7 {n : List UInt8} (h : n ∈ nm7) : z1313 n = some true := of_decide_eq_true (List.all_eq_true.1 nm7_ok _ h)
theorem RP.gp {p : api_Prop} (h : RP p) : GP p := by
  have := List.all_eq_true.1 rv_own _ h.2
  simp only [Bool.and_eq_true, decide_eq_true_eq, Bool.not_eq_true', decide_eq_false_iff_not] at this
  exact ⟨isName7 h.1, this.1, this.2⟩
theorem RP.len {p : api_Prop} (h : RP p) : (p.Name.length : Int) ≤ 9223372036854775807 := by
  have := of_decide_eq_true (List.all_eq_true.1 nm7_len _ h.1)
  omega
theorem RightValue_in {k : Nat} {s : z240} (h : StrOk k s) (hk : k + 10 < 1099511627776) : Ok (z285 s) (fun v => v ∈ rv15) := by
  unfold z285
  have h1 := nxt_mk h (by omega)
  refine (Next_ok h (by omega) (by unfold I64; omega)).bind fun n _ => .cond (fun _ => ?_) (fun _ => .cond (fun _ => ?_) (fun _ => ?_))
  · exact (Flip_ok h1 (by omega) (by unfold I64; omega)).bind fun b _ => .some (by cases b <;> simp [rv15])
  · refine (Some_ok h1 (by omega) (by simp) (by simp)).bind fun w hw => .some ?_
    simp at hw
    rcases hw with rfl | rfl | rfl | rfl | rfl | rfl <;> simp [rv15]
  · refine (Pick_ok h1 (by omega) (by simp) (by simp)).bind fun n hn => .some ?_
    simp at hn
    rcases hn with rfl | rfl | rfl | rfl | rfl | rfl | rfl <;> simp [rv15]

/-! ### The reference's check -/
theorem above7 {a b : List UInt8} (ha : a ∈ nm7) (hb : b ∈ nm7) : z361 a b = some (belB b a) := of_decide_eq_true (List.all_eq_true.1 (List.all_eq_true.1 nm7_above _ ha) _ hb)
theorem refC_eq {l : List api_Prop} (hl : l.length ≤ 1000) (hR : ∀ p ∈ l, RP p) {p : api_Prop} (hp : RP p) : z564 l p = some (l.any fun q => belB p.Name q.Name) := by
  have h0 : z564 l p = ((z637 l p).bind fun vr2 => some (decide (0 ≤ vr2))) := rfl
  rw [h0]
  unfold z637
  obtain ⟨x, h1, h2⟩ := find_loop (l := l) (f := z640 l p) (fun q => belB p.Name q.Name) (by omega) (fun i h => by
    unfold z640 z333
    have hc : (i : Int) < l.length := by omega
    simp only [hc, decide_true, cond_true, at_nat h, Option.bind_some, above7 (hR _ (List.getElem_mem h)).1 hp.1]
    cases belB p.Name l[i].Name <;> rfl) (by unfold z640; simp)
  rw [h1, ← h2]
  cases x <;> rfl
def Anti (l : List api_Prop) : Prop := ∀ p ∈ l, ∀ q ∈ l, belB p.Name q.Name = false
theorem refP_ok {l : List api_Prop} (hl : l.length ≤ 400) (hR : ∀ p ∈ l, RP p) : Ok (z332 l) (fun e => e = 0 → PSrt l ∧ Anti l) := by
  unfold z332
  refine .cond (fun h => absurd (of_decide_eq_true h) (by omega)) fun _ => ?_
  have one : Ok (loopO (z338 l) 0) (fun r => match r with | .inl _ => PSrt l | .inr e => e ≠ 0) := by
    refine loop_ok (fun s : Int => ∃ i : Nat, s = (i : Int) ∧ i ≤ l.length ∧ ∀ j (h0 : 0 < j) (h : j < i) (hl : j < l.length), nlt (l[j - 1]'(by omega)).Name l[j].Name) (fun s => ((l.length : Int) - s).toNat) ?_ ⟨0, rfl, by omega, fun j h0 h => by omega⟩
    rintro _ ⟨i, rfl, i1, i2⟩
    unfold z338
    by_cases hi : i < l.length
    · have hc : (i : Int) < l.length := by omega
      have hp := hR _ (List.getElem_mem hi)
      have w1 : IntKind.wrap .i64 ((i : Int) + 1) = ((i + 1 : Nat) : Int) := by rw [wrap64 (by omega) (by omega)]; omega
      have e1 : z321 l[i].Name = some true := of_decide_eq_true (List.all_eq_true.1 nm7_ref _ hp.1)
      have e2 : z353 (api_Value.mk l[i].Value.Kind l[i].Value.Flag l[i].Value.Number l[i].Value.Words) = some 0 := of_decide_eq_true (List.all_eq_true.1 rv_ref _ hp.2)
      have e3 := hp.gp.2.2
      simp only [hc, decide_true, cond_true, at_nat hi, Option.bind_some, e1, e2, e3, Bool.not_true, cond_false, decide_false, w1]
      unfold z343
      cases i with
      | zero =>
        simp only [show ¬ (0 : Int) < ((0 : Nat) : Int) by omega, decide_false, cond_false, Option.bind_some]
        exact .some ⟨⟨1, rfl, by omega, fun j h0 h => by omega⟩, by omega⟩
      | succ i =>
        have hp0 : (0 : Int) < ((i + 1 : Nat) : Int) := by omega
        have w : IntKind.wrap .i64 (((i + 1 : Nat) : Int) - 1) = (i : Int) := by rw [wrap64 (by omega) (by omega)]; omega
        simp only [hp0, decide_true, cond_true, w, at_nat (show i < l.length by omega), Option.bind_some]
        refine .cond (fun _ => .some (by simp)) fun hlt => .some ⟨⟨i + 1 + 1, rfl, by omega, fun j h0 h hjl => ?_⟩, by omega⟩
        by_cases hj : j < i + 1
        · exact i2 j h0 hj hjl
        · have : j = i + 1 := by omega
          subst this
          simp only [Bool.or_eq_false_iff, cmpB_less, decide_eq_false_iff_not] at hlt
          show nlt l[i].Name l[i + 1].Name
          rcases cmpB_cases l[i].Name l[i + 1].Name with h2 | h2 | h2
          · exact h2
          · exact absurd h2.symm hlt.2
          · exact absurd h2 hlt.1
    · have hc : ¬ (i : Int) < l.length := by omega
      simp only [hc, decide_false, cond_false]
      refine .some ?_
      show PSrt l
      have key : ∀ (d j : Nat) (hj : j + d + 1 < l.length), nlt (l[j]'(by omega)).Name l[j + d + 1].Name := by
        intro d
        induction d with
        | zero =>
          intro j hj
          exact i2 (j + 1) (by omega) (by omega) (by omega)
        | succ d ih =>
          intro j hj
          exact nlt_trans (ih j (by omega)) (i2 (j + d + 2) (by omega) (by omega) (by omega))
      unfold PSrt
      rw [List.pairwise_iff_getElem]
      intro i j hi hj hij
      have := key (j - i - 1) i (by omega)
      simpa [show i + (j - i - 1) + 1 = j by omega] using this
  obtain ⟨r, h1, h2⟩ := one
  rw [h1]
  cases r with
  | inr e => exact .some fun h => absurd h h2
  | inl _ =>
    have h2 : PSrt l := h2
    simp only [Option.bind_some]
    rw [range_loop (l := l) (fun _ p => bif l.any (fun q => belB p.Name q.Name) then some (.inr ()) else none) (.inl ()) (by omega)]
    · cases hs : scan (fun _ p => bif l.any (fun q => belB p.Name q.Name) then some (.inr () : Unit ⊕ Unit) else none) 0 l with
      | some x =>
        have : x = .inr () := by
          have key : ∀ (m : List api_Prop) (k : Nat), scan (fun _ p => bif l.any (fun q => belB p.Name q.Name) then some (.inr () : Unit ⊕ Unit) else none) k m = some x → x = .inr () := by
            intro m
            induction m with
            | nil => intro k h; simp [scan] at h
            | cons y m ih =>
              intro k h
              simp only [scan] at h
              cases hb : l.any fun q => belB y.Name q.Name with
              | true => rw [hb] at h; simp at h; exact h.symm
              | false => rw [hb] at h; exact ih _ h
          exact key _ _ hs
        subst this
        exact .some fun h => by cases h
      | none =>
        refine .some fun _ => ⟨h2, fun p hp q hq => ?_⟩
        obtain ⟨i, hi, rfl⟩ := List.mem_iff_getElem.1 hp
        have := scan_none.1 hs i l[i] (List.getElem?_eq_getElem hi)
        cases hb : l.any fun q => belB l[i].Name q.Name with
        | true => rw [hb] at this; cases this
        | false =>
          have := List.any_eq_false.1 hb q hq
          simpa using this
    · intro i hi
      have hc : (i : Int) < l.length := by omega
      have hp := hR _ (List.getElem_mem hi)
      unfold z348
      have e : z564 l (api_Prop.mk l[i].Name (api_Value.mk l[i].Value.Kind l[i].Value.Flag l[i].Value.Number l[i].Value.Words)) = some (l.any fun q => belB l[i].Name q.Name) := refC_eq (by omega) hR hp
      simp only [hc, decide_true, cond_true, at_nat hi, Option.bind_some, e]
      cases l.any (fun q => belB l[i].Name q.Name) <;> rfl
    · unfold z348; simp

/-! ### Right properties -/
structure GR (l : List api_Prop) : Prop where
  rp : ∀ p ∈ l, RP p
  srt : PSrt l
  anti : Anti l
def rk4 (n : List UInt8) : Int := if n = [97] then 1 else if n = [97, 46, 120] then 1 else if n = [97, 46, 120, 46, 112] then 1 else if n = [97, 46, 121] then 2 else if n = [97, 98] then 3 else 4
theorem rk4_up : (nm7.all fun n => nm7.all fun m => !decide (rk n < rk m) || (belB m n || decide (rk4 n < rk4 m))) = true := by decide
theorem rk4_range : (nm7.all fun n => decide (1 ≤ rk4 n) && decide (rk4 n ≤ 4)) = true := by decide
theorem GR.len {l : List api_Prop} (h : GR l) : l.length ≤ 4 := by
  have := up_len (fun p : api_Prop => rk4 p.Name) (l := l) (lo := 1) (hi := 4) (List.Pairwise.imp_of_mem (fun {p q} hp hq hpq => by
    have h1 := (rk_spec (h.rp p hp).1 (h.rp q hq).1).2.1.1 hpq
    have h2 := List.all_eq_true.1 (List.all_eq_true.1 rk4_up _ (h.rp p hp).1) _ (h.rp q hq).1
    simpa [h1, h.anti q hq p hp] using h2) h.srt) (fun p hp => by
    have := List.all_eq_true.1 rk4_range _ (h.rp p hp).1
    simpa using this) (by omega)
  omega
theorem GR.ok {l : List api_Prop} (h : GR l) : z1150 l = some 0 := by
  have := h.len
  exact props_ok (fun p hp => (h.rp p hp).gp) h.srt (by omega) (fun p hp => (h.rp p hp).len) h.anti
theorem RightProps_ok {k : Nat} {s : z240} (h : StrOk k s) (hk : k + 100 < 1099511627776) : Ok (z269 s) (fun r => StrOk (k + 60) r.1 ∧ GR r.2) := by
  unfold z269
  refine (Range_ok h (by omega) (by omega) (by omega)).bind fun ⟨s1, n⟩ ⟨r1, r2, r3, _⟩ => ?_
  simp only at r1 r2 r3
  have r3 := r3 (by omega)
  refine Ok.bind (P := fun q : z240 × List api_Prop => StrOk (k + 60) q.1 ∧ GR q.2) ?_ fun q hq => .some hq
  refine loop_ok (fun q : z240 × List api_Prop × Int => ∃ j : Nat, q.2.2 = (j : Int) ∧ (j : Int) ≤ 5 ∧ StrOk (k + 1 + 3 * j) q.1 ∧ GR q.2.1) (fun q => ((5 : Int) - q.2.2).toNat) ?_ ⟨0, rfl, by omega, by simpa using r1, ⟨(fun _ h => nomatch h), List.Pairwise.nil, (fun _ h => nomatch h)⟩⟩
  rintro ⟨s2, l, i⟩ ⟨j, rfl, j1, j2, j3⟩
  simp only at j2 j3
  unfold z272
  refine .cond (fun hc => ?_) (fun hc => .some ⟨j2.mono (by omega), j3⟩)
  have hc : (j : Int) < n := by simpa using hc
  have hlen := j3.len
  have hx2 : Ok (z277 s2 l) GR := by
    unfold z277 z500
    have hb : Nat.ble (([] : List api_Prop).length + l.length) LIM = true := lim_ok (by simp; omega)
    rw [hb]
    simp only [gd, cond_true, Option.bind_some]
    refine (Some_ok j2 (by omega) (by simp) (by simp)).bind fun w hw => ?_
    have a1 := nxt_mk j2 (by omega)
    refine (RightValue_in a1 (by omega)).bind fun v hv => ?_
    have hw7 : w ∈ nm7 := by
      simp at hw
      rcases hw with rfl | rfl | rfl | rfl | rfl | rfl | rfl <;> decide
    rw [lim_ok (show (l.length + [api_Prop.mk w v].length) ≤ 100000 by simp; omega)]
    simp only [cond_true]
    refine (sortP_ok (by simp; omega)).bind fun r ⟨q1, q2⟩ => ?_
    have hr : ∀ p ∈ r, RP p := by
      intro p hp
      rcases List.mem_append.1 (q1.mem_iff.1 hp) with hp | hp
      · exact j3.rp p hp
      · rw [List.mem_singleton] at hp; subst hp; exact ⟨hw7, hv⟩
    have hlr : r.length = (l ++ [api_Prop.mk w v]).length := q1.length_eq
    rw [hlr]
    simp only [beq_self_eq_true, cond_true]
    refine (refP_ok (by rw [hlr]; simp; omega) hr).bind fun e he => .cond (fun h0 => .some ⟨hr, ?_, ?_⟩) fun _ => .some j3
    · exact (he (of_decide_eq_true h0)).1
    · exact (he (of_decide_eq_true h0)).2
  refine hx2.bind fun m hm => ?_
  have w1 : IntKind.wrap .i64 ((j : Int) + 1) = ((j + 1 : Nat) : Int) := by rw [wrap64 (by omega) (by omega)]; omega
  refine .some ⟨⟨j + 1, w1, by omega, (nxt_mk (nxt_mk (nxt_mk j2 (by omega)) (by omega)) (by omega)).mono (by omega), hm⟩, ?_⟩
  show ((5 : Int) - IntKind.wrap .i64 ((j : Int) + 1)).toNat < _
  rw [w1]; simp only; omega
end Go.Eng

/-
The law TwinsStay: cells, properties and changes that are handed in stay. What is computed from them always answers.
-/
namespace Go.Eng
open Go
set_option linter.unusedVariables false
set_option linter.unusedSimpArgs false

/-! ### What is compact -/
theorem hidden12S_eq (x y : api_Cell) (n : Int) : z1289 x y n = some (hidesB x y && oldB n x) := by
  unfold z1289 z1292
  have : z1300 (api_Cell.mk (api_Prop.mk x.Prop_.Name (api_Value.mk x.Prop_.Value.Kind x.Prop_.Value.Flag x.Prop_.Value.Number x.Prop_.Value.Words)) (api_Stamp.mk x.Stamp.At x.Stamp.By x.Stamp.No)) (api_Cell.mk (api_Prop.mk y.Prop_.Name (api_Value.mk y.Prop_.Value.Kind y.Prop_.Value.Flag y.Prop_.Value.Number y.Prop_.Value.Words)) (api_Stamp.mk y.Stamp.At y.Stamp.By y.Stamp.No)) = some (hidesB x y) := hides_eq x y
  rw [this]
  unfold oldB
  cases hidesB x y <;> rfl
theorem hiddenCS_eq (l : List api_Cell) (y : api_Cell) (n : Int) (hl : (l.length : Int) ≤ 9223372036854775807) : z1297 l y n = some (l.any fun x => hidesB x y && oldB n x) := by
  show ((z558 l y n).bind fun vr => some vr) = _
  have h0 : z558 l y n = ((z621 l y n).bind fun vr2 => some (decide (0 ≤ vr2))) := rfl
  rw [h0]
  unfold z621
  obtain ⟨x, h1, h2⟩ := find_loop (l := l) (f := z624 l y n) (fun x => hidesB x y && oldB n x) hl (fun i h => by
    unfold z624
    have hc : (i : Int) < l.length := by omega
    simp only [hc, decide_true, cond_true, at_nat h, Option.bind_some]
    have : z1289 (api_Cell.mk (api_Prop.mk l[i].Prop_.Name (api_Value.mk l[i].Prop_.Value.Kind l[i].Prop_.Value.Flag l[i].Prop_.Value.Number l[i].Prop_.Value.Words)) (api_Stamp.mk l[i].Stamp.At l[i].Stamp.By l[i].Stamp.No)) (api_Cell.mk (api_Prop.mk y.Prop_.Name (api_Value.mk y.Prop_.Value.Kind y.Prop_.Value.Flag y.Prop_.Value.Number y.Prop_.Value.Words)) (api_Stamp.mk y.Stamp.At y.Stamp.By y.Stamp.No)) n = some (hidesB l[i] y && oldB n l[i]) := hidden12S_eq l[i] y n
    rw [this]
    cases hidesB l[i] y && oldB n l[i] <;> rfl) (by unfold z624; simp)
  rw [h1, ← h2]
  cases x <;> rfl
theorem leftS_eq {l : List api_Cell} (hl : l.length ≤ 10000) (n : Int) : loopO (z1193 l n) ([], 0) = some (leftL n l) := by
  have := fold_loop0 (l := l) (f := z1193 l n) (fun (s : List api_Cell) i => (s, i)) (fun s c => bif !(l.any fun x => hidesB x c && oldB n x) then s ++ [c] else s) id (fun i s => s.length ≤ i) (s0 := []) (by omega)
    (fun i hi s hs => by
      have hc : (i : Int) < l.length := by omega
      have h2 : z1297 l (api_Cell.mk (api_Prop.mk l[i].Prop_.Name (api_Value.mk l[i].Prop_.Value.Kind l[i].Prop_.Value.Flag l[i].Prop_.Value.Number l[i].Prop_.Value.Words)) (api_Stamp.mk l[i].Stamp.At l[i].Stamp.By l[i].Stamp.No)) n = some (l.any fun x => hidesB x l[i] && oldB n x) := hiddenCS_eq l l[i] n (by omega)
      refine ⟨?_, ?_⟩
      · unfold z1193 z1198
        simp only [hc, decide_true, cond_true, at_nat hi, Option.bind_some, h2]
        cases (l.any fun x => hidesB x l[i] && oldB n x) with
        | true => rfl
        | false =>
          simp only [Bool.not_false, cond_true, gd]
          rw [lim_ok (by simp; omega)]
          rfl
      · cases (l.any fun x => hidesB x l[i] && oldB n x) <;> simp <;> omega)
    (fun s _ => by unfold z1193; simp) (by simp)
  rw [this.1]
  rw [foldl_filter (fun c => !(l.any fun x => hidesB x c && oldB n x)) (fun c => c)]
  simp [leftL]
theorem CompactS_eq {l : List api_Cell} (h : ∀ c ∈ l, GC c) (hs : Srt l) (hl : l.length ≤ 500) {n : Int} (hn : 0 ≤ n ∧ n ≤ 345686400000) : z1184 l n = some (cpt n l, 0) := by
  unfold z1184
  have m2 : (decide (n < 0) || decide (345686400000 < n)) = false := by simp; omega
  have := left_len n l
  simp only [check_ok h hs hl, Option.bind_some, decide_true, Bool.not_true, cond_false, Out_eq, m2, leftS_eq (show l.length ≤ 10000 by omega), out_eq (show (leftL n l).length ≤ 10000 by omega)]
  rfl


/-! ### Spoiling -/
theorem spoilC_ok {l : List api_Cell} (hl : l.length ≤ 10000) : Ok (z216 l) (fun r => (r.length == l.length) = true) := by
  unfold z216
  refine Ok.bind (P := fun r : List api_Cell => r.length = l.length) (loop_ok (fun s : List api_Cell × Int => s.1.length = l.length ∧ ∃ i : Nat, s.2 = (i : Int) ∧ i ≤ l.length) (fun s => ((l.length : Int) - s.2).toNat) ?_ ⟨rfl, 0, rfl, by omega⟩) fun r hr => .some (by simpa using hr)
  rintro ⟨m, q⟩ ⟨m1, i, rfl, i1⟩
  simp only at m1
  unfold z219
  by_cases hi : i < l.length
  · have hc : (i : Int) < l.length := by omega
    have w1 : IntKind.wrap .i64 ((i : Int) + 1) = ((i + 1 : Nat) : Int) := by rw [wrap64 (by omega) (by omega)]; omega
    simp only [hc, decide_true, cond_true, at_nat (show i < m.length by omega), Option.bind_some, w1]
    exact .some ⟨⟨by simp [m1], i + 1, rfl, by omega⟩, by simp only; omega⟩
  · have hc : ¬ (i : Int) < l.length := by omega
    simp only [hc, decide_false, cond_false]
    exact .some m1
theorem spoilP_ok {l : List api_Prop} (hl : l.length ≤ 10000) : Ok (z224 l) (fun r => (r.length == l.length) = true) := by
  unfold z224
  refine Ok.bind (P := fun r : List api_Prop => r.length = l.length) (loop_ok (fun s : List api_Prop × Int => s.1.length = l.length ∧ ∃ i : Nat, s.2 = (i : Int) ∧ i ≤ l.length) (fun s => ((l.length : Int) - s.2).toNat) ?_ ⟨rfl, 0, rfl, by omega⟩) fun r hr => .some (by simpa using hr)
  rintro ⟨m, q⟩ ⟨m1, i, rfl, i1⟩
  simp only at m1
  unfold z227
  by_cases hi : i < l.length
  · have hc : (i : Int) < l.length := by omega
    have w1 : IntKind.wrap .i64 ((i : Int) + 1) = ((i + 1 : Nat) : Int) := by rw [wrap64 (by omega) (by omega)]; omega
    simp only [hc, decide_true, cond_true, at_nat (show i < m.length by omega), Option.bind_some, w1]
    exact .some ⟨⟨by simp [m1], i + 1, rfl, by omega⟩, by simp only; omega⟩
  · have hc : ¬ (i : Int) < l.length := by omega
    simp only [hc, decide_false, cond_false]
    exact .some m1

/-! ### Set, Under, Apply, Take -/
theorem mrgR_len {a b : List api_Cell} (ha : Srt a) (hb : Srt b) : ∃ r e, (match mrg a b with | some r => (r, (0 : Int)) | none => ([], 13)) = (r, e) ∧ r.length ≤ a.length + b.length := by
  have sp := mrg_spec a b ha hb
  cases h : mrg a b with
  | none => exact ⟨[], 13, rfl, by simp⟩
  | some r =>
    rw [h] at sp
    exact ⟨r, 0, rfl, sp.2.2.2.2⟩
theorem Merge_tot {a b : List api_Cell} (ga : ∀ c ∈ a, GC c) (gb : ∀ c ∈ b, GC c) (ha : Srt a) (hb : Srt b) (hl : a.length + b.length ≤ 500) : Ok (z1231 a b) (fun r => r.1.length ≤ 500) := by
  obtain ⟨r, e, h1, h2⟩ := mrgR_len ha hb
  exact Ok.of_eq ((Merge_eq ga gb ha hb hl).trans (congrArg some h1)) (by simp only; omega)
def zzC : api_Cell := api_Cell.mk (api_Prop.mk [122, 122] (api_Value.mk 1 false 0 [])) (api_Stamp.mk 9 [122] 0)
theorem zz_gc : GC zzC := ⟨by kernel_rfl, by kernel_rfl, by kernel_rfl⟩
theorem Set_tot {a : List api_Cell} (ga : ∀ c ∈ a, GC c) (ha : Srt a) (hl : a.length ≤ 400) : Ok (twin_Set a (api_Prop.mk ([122, 122] : List UInt8) (api_Value.mk 1 false 0 ([] : List UInt8))) (api_Stamp.mk 9 ([122] : List UInt8) 0)) (fun r => r.1.length ≤ 500) := by
  have hb : Srt [zzC] := List.pairwise_singleton _ _
  have gb : ∀ c ∈ [zzC], GC c := fun c hc => by rw [List.mem_singleton] at hc; subst hc; exact zz_gc
  obtain ⟨r, e, h1, h2⟩ := mrgR_len ha hb
  have e1 : z1129 [api_Cell.mk (api_Prop.mk [122, 122] (api_Value.mk 1 false 0 [])) (api_Stamp.mk 9 [122] 0)] = some 0 := check_ok gb hb (by simp)
  have e2 : z1352 a [api_Cell.mk (api_Prop.mk [122, 122] (api_Value.mk 1 false 0 [])) (api_Stamp.mk 9 [122] 0)] = some (r, e) := (merged_eq (by simp; omega) ha hb).trans (congrArg some h1)
  unfold twin_Set
  have k1 : ¬ ((1 : Int) = 0) := by omega
  simp only [check_ok ga ha (show a.length ≤ 500 by omega), e1, Option.bind_some, First_zero, decide_true, Bool.not_true, cond_false, k1, decide_false, e2]
  refine .some ?_
  simp at h2
  simp only; omega
theorem Under_tot {l : List api_Prop} (h : GR l) : Ok (z1247 l ([97] : List UInt8)) (fun r => r.1.length ≤ 500) := by
  have hl := h.len
  have e1 : z1313 [97] = some true := isName7 (by decide)
  unfold z1247
  simp only [h.ok, e1, Option.bind_some, decide_true, Bool.not_true, cond_false]
  refine Ok.bind (P := fun r : List api_Prop => r.length ≤ 500) (loop_ok (fun s : List api_Prop × Int => ∃ i : Nat, s.2 = (i : Int) ∧ i ≤ l.length ∧ s.1.length ≤ i) (fun s => ((l.length : Int) - s.2).toNat) ?_ ⟨0, rfl, by omega, by simp⟩) fun r hr => .some hr
  rintro ⟨m, q⟩ ⟨i, rfl, i1, i2⟩
  simp only at i2
  unfold z1250
  by_cases hi : i < l.length
  · have hc : (i : Int) < l.length := by omega
    have w1 : IntKind.wrap .i64 ((i : Int) + 1) = ((i + 1 : Nat) : Int) := by rw [wrap64 (by omega) (by omega)]; omega
    have hx : Ok (z1255 l [97] m i) (fun r => r.length ≤ i + 1) := by
      unfold z1255
      simp only [at_nat hi, Option.bind_some]
      have h3 : Ok (z1260 [97] l[i]) (fun _ => True) := by
        unfold z1260
        refine .cond (fun _ => .some trivial) fun _ => ?_
        rw [Below_is]
        exact .some trivial
      refine h3.bind fun b _ => .cond (fun _ => .gd (lim_ok (by simp; omega)) (.some (by simp; omega))) fun _ => .some (by omega)
    simp only [hc, decide_true, cond_true]
    refine hx.bind fun r hr => ?_
    rw [w1]
    exact .some ⟨⟨i + 1, rfl, by omega, hr⟩, by simp only; omega⟩
  · have hc : ¬ (i : Int) < l.length := by omega
    simp only [hc, decide_false, cond_false]
    exact .some (by omega)
theorem noCh : z1142 = some 0 := by kernel_rfl
theorem sortA_eq : z667 = z664 := by kernel_rfl
theorem Apply_tot {l : List api_Prop} (h : GR l) : Ok (z1106 l) (fun r => r.1.length ≤ 500) := by
  have hl := h.len
  unfold z1106
  have x1 : loopO z1109 () = some () := by kernel_rfl
  have x4 : loopO z1124 () = some () := by kernel_rfl
  simp only [h.ok, noCh, Option.bind_some, First_zero, decide_true, Bool.not_true, cond_false, x1, x4]
  have l2 := fold_loop0 (l := l) (f := z1114 l) (fun (s : List api_Prop) i => (s, i)) (fun s p => s ++ [p]) id (fun i s => s.length ≤ i) (s0 := []) (by omega)
    (fun i hi s hs => by
      have hc : (i : Int) < l.length := by omega
      refine ⟨?_, by simp; omega⟩
      unfold z1114 z1119
      simp only [hc, decide_true, cond_true, at_nat hi, Option.bind_some]
      have : (aget ([] : List (List UInt8 × api_Value)) l[i].Name).isSome = false := rfl
      simp only [this, Bool.not_false, cond_true, gd]
      rw [lim_ok (by simp; omega)]
      rfl)
    (fun s _ => by unfold z1114; simp) (by simp)
  rw [l2.1, foldl_app (fun p : api_Prop => p)]
  simp only [Option.bind_some, List.nil_append, List.map_id', id, sortA_eq]
  obtain ⟨r, r1, r2, r3⟩ := sortP_ok (l := l) (by omega)
  have hr : r = l := pext (psrt_of r3 ((r2.map api_Prop.Name).nodup_iff.2 (psrt_names h.srt))) h.srt fun p => r2.mem_iff
  subst hr
  rw [r1]
  simp only [Option.bind_some, gd, beq_self_eq_true, cond_true, h.ok, decide_true, Bool.not_true, cond_false]
  exact .some (by simp only; omega)
def st9 : api_Stamp := api_Stamp.mk 99 [122] 0
theorem st9_ok : z1391 st9 = some 0 := by kernel_rfl
theorem First3 : z24 [0, 0, 0] = some 0 := by kernel_rfl
theorem take1_tot {R : List api_Cell} (hl : R.length ≤ 10000) : Ok (z555 R st9) (fun _ => True) := by
  have h0 : z555 R st9 = ((z613 R st9).bind fun vr2 => some (decide (0 ≤ vr2))) := rfl
  rw [h0]
  unfold z613
  obtain ⟨x, h1, h2⟩ := find_loop (l := R) (f := z616 R st9) (fun x => decide (0 ≤ stO x.Stamp st9)) (by omega) (fun i h => by
    unfold z616
    have hc : (i : Int) < R.length := by omega
    have e : ∀ c : api_Cell, z1236 c st9 = some (decide (0 ≤ stO c.Stamp st9)) := fun c => by
      unfold z1236
      have : z1278 (api_Stamp.mk c.Stamp.At c.Stamp.By c.Stamp.No) st9 = some (stO c.Stamp st9) := byStamp_eq c.Stamp st9
      simp only [this, Option.bind_some]
    simp only [hc, decide_true, cond_true, at_nat h, Option.bind_some]
    have e2 := e R[i]
    cases hb : decide (0 ≤ stO R[i].Stamp st9) <;> rw [hb] at e2
    · have e2' : z1236 (api_Cell.mk (api_Prop.mk R[i].Prop_.Name (api_Value.mk R[i].Prop_.Value.Kind R[i].Prop_.Value.Flag R[i].Prop_.Value.Number R[i].Prop_.Value.Words)) (api_Stamp.mk R[i].Stamp.At R[i].Stamp.By R[i].Stamp.No)) st9 = some false := e2
      rw [e2']; rfl
    · have e2' : z1236 (api_Cell.mk (api_Prop.mk R[i].Prop_.Name (api_Value.mk R[i].Prop_.Value.Kind R[i].Prop_.Value.Flag R[i].Prop_.Value.Number R[i].Prop_.Value.Words)) (api_Stamp.mk R[i].Stamp.At R[i].Stamp.By R[i].Stamp.No)) st9 = some true := e2
      rw [e2']; rfl) (by unfold z616; simp)
  rw [h1]
  cases x <;> exact .some trivial
theorem Take_tot {D R : List api_Cell} (gD : ∀ c ∈ D, RC c) (gR : ∀ c ∈ R, RC c) (hD : Srt D) (hR : Srt R) (lD : D.length ≤ 400) (lR : R.length ≤ 400) :
    Ok (z1239 (api_Twin.mk D R) (api_Stamp.mk 99 ([122] : List UInt8) 0)) (fun r => r.1.length ≤ 500 ∧ r.2.1.length ≤ 500) := by
  unfold z1239
  have e3 : z1391 (api_Stamp.mk 99 [122] 0) = some 0 := st9_ok
  simp only [twinFault_ok gD gR hD hR (show D.length ≤ 500 by omega) (show R.length ≤ 500 by omega), noCh, e3, Option.bind_some, First3, decide_true, Bool.not_true, cond_false]
  refine (take1_tot (R := R) (by omega)).bind fun b _ => .cond (fun _ => .some ⟨by simp, by simp⟩) fun _ => ?_
  have x1 : loopO z1242 () = some () := by kernel_rfl
  have ej : z1318 R = some R := by
    unfold z1318
    have : loopO (z1321 R) () = some () := by
      refine loop_out ?_
      unfold z1321 z1326
      cases decide (0 < (R.length : Int)) <;> rfl
    rw [this]
    simp only [Option.bind_some]
    rw [concat3_eq (by simp) (by omega) (by simp)]
    simp
  have em : z1354 R = some (R, 0) := by
    unfold z1354 z1357 z1362
    have : ¬ (500 : Int) < R.length := by omega
    simp only [ej, Option.bind_some, decide_true, cond_true, this, decide_false, cond_false, Bool.not_true]
  simp only [x1, em, Option.bind_some, decide_true, Bool.not_true, cond_false]
  unfold z494
  have : Nat.ble (([] : List api_Cell).length + D.length) LIM = true := lim_ok (by simp; omega)
  simp only [this, gd, cond_true, Option.bind_some]
  exact .some ⟨by simp only; omega, by simp only; omega⟩

/-! ### The same -/
theorem cSame {l : List api_Cell} (hl : l.length ≤ 10000) : z573 l = some true := by
  unfold z573
  simp only [decide_true, Bool.not_true, cond_false]
  rw [range_loop (l := l) (fun _ _ => none) (.inl ()) (by omega)]
  · have : ∀ (k : Nat) (m : List api_Cell), scan (fun (_ : Nat) (_ : api_Cell) => (none : Option (Unit ⊕ Unit))) k m = none := fun k m => scan_none.2 fun _ _ _ => rfl
    rw [this]; rfl
  · intro i hi
    have hc : (i : Int) < l.length := by omega
    unfold z576
    simp [hc, at_nat hi]
  · unfold z576; simp
theorem pSame {l : List api_Prop} (hl : l.length ≤ 10000) : z581 l = some true := by
  unfold z581
  simp only [decide_true, Bool.not_true, cond_false]
  rw [range_loop (l := l) (fun _ _ => none) (.inl ()) (by omega)]
  · have : ∀ (k : Nat) (m : List api_Prop), scan (fun (_ : Nat) (_ : api_Prop) => (none : Option (Unit ⊕ Unit))) k m = none := fun k m => scan_none.2 fun _ _ _ => rfl
    rw [this]; rfl
  · intro i hi
    have hc : (i : Int) < l.length := by omega
    unfold z584
    simp [hc, at_nat hi]
  · unfold z584; simp

theorem TwinsStay_true (L : List Int) (hL : L.length ≤ 9223372036854775807) (hI : ∀ n ∈ L, -9223372036854775808 ≤ n ∧ n ≤ 9223372036854775807) : fleetkeep2_TwinsStay L = some true := by
  apply Ok.eq
  unfold fleetkeep2_TwinsStay
  have h0 : StrOk 0 (z240.mk L 0) := ⟨Int.le_refl _, by simp, hL, hI⟩
  refine (RightCells_ok h0 (by omega)).bind fun ⟨s1, x⟩ ⟨a1, a2, a3, a4⟩ => ?_
  refine (RightCells_ok a1 (by omega)).bind fun ⟨s2, y⟩ ⟨b1, b2, b3, b4⟩ => ?_
  refine (RightProps_ok b1 (by omega)).bind fun ⟨s3, p⟩ ⟨c1, c2⟩ => ?_
  simp only at a2 a3 a4 b2 b3 b4 c2
  have gx : ∀ c ∈ x, GC c := fun c h => (a2 c h).1.gc
  have gy : ∀ c ∈ y, GC c := fun c h => (b2 c h).1.gc
  refine (Merge_tot gx gy a3 b3 (by omega)).bind fun ⟨m, e⟩ hm => ?_
  simp only at hm
  refine (spoilC_ok (l := m) (by omega)).bind fun m' hm' => .gd hm' ?_
  rw [CompactS_eq gx a3 (show x.length ≤ 500 by omega) (show (0 : Int) ≤ 5 ∧ (5 : Int) ≤ 345686400000 by omega)]
  simp only [Option.bind_some]
  have hc := cpt_len 5 x
  refine (spoilC_ok (l := cpt 5 x) (by omega)).bind fun m' hm' => .gd hm' ?_
  refine (Set_tot gx a3 (by omega)).bind fun ⟨m, e⟩ hm => ?_
  simp only at hm
  refine (spoilC_ok (l := m) (by omega)).bind fun m' hm' => .gd hm' ?_
  refine (Under_tot c2).bind fun ⟨m, e⟩ hm => ?_
  simp only at hm
  refine (spoilP_ok (l := m) (by omega)).bind fun m' hm' => .gd hm' ?_
  refine (Apply_tot c2).bind fun ⟨m, e⟩ hm => ?_
  simp only at hm
  refine (spoilP_ok (l := m) (by omega)).bind fun m' hm' => .gd hm' ?_
  refine (Take_tot (fun c h => (a2 c h).1) (fun c h => (b2 c h).1) a3 b3 (by omega) (by omega)).bind fun ⟨m, m2, e⟩ ⟨hm, hm2⟩ => ?_
  simp only at hm hm2
  refine (spoilC_ok (l := m) (by omega)).bind fun m' hm' => .gd hm' ?_
  refine (spoilC_ok (l := m2) (by omega)).bind fun m' hm' => .gd hm' ?_
  have lp := c2.len
  unfold z195
  simp only [cSame (show x.length ≤ 10000 by omega), cSame (show y.length ≤ 10000 by omega), pSame (show p.length ≤ 10000 by omega), Option.bind_some, cond_true, ready_eq]
  exact .some rfl
end Go.Eng

