/-
What the plain functions of the law CellsSeen answer, part 1.
-/
import Derived.Test.YtebpaohebdeicaaGreatDoorGenF
import Derived.KernelRfl
import Derived.Test.YtebpaohebdeicaaGreatDoorEngV
/-
Plain functions: what they answer, in total. Loops by an invariant and a measure.
-/
namespace Go.Eng
open Go
set_option linter.unusedVariables false
set_option linter.unusedSimpArgs false

def Ok {α : Type} (x : Option α) (P : α → Prop) : Prop := ∃ r, x = some r ∧ P r
section
variable {α β σ ρ : Type} {P Q : α → Prop} {R : β → Prop}
theorem Ok.some {r : α} (h : P r) : Ok (some r) P := ⟨r, rfl, h⟩
theorem Ok.mono {x : Option α} (h : Ok x P) (hq : ∀ r, P r → Q r) : Ok x Q := let ⟨r, h1, h2⟩ := h; ⟨r, h1, hq r h2⟩
theorem Ok.bind {x : Option α} {f : α → Option β} (h : Ok x P) (hf : ∀ r, P r → Ok (f r) R) : Ok (x.bind f) R := by
  obtain ⟨r, rfl, hr⟩ := h
  exact hf r hr
theorem Ok.cond {b : Bool} {x y : Option α} (ht : b = true → Ok x P) (hf : b = false → Ok y P) : Ok (cond b x y) P := by
  cases b
  · exact hf rfl
  · exact ht rfl
theorem Ok.gd {b : Bool} {x : Option α} (hb : b = true) (h : Ok x P) : Ok (gd b x) P := by
  subst hb; exact h
theorem Ok.eq {x : Option α} {r : α} (h : Ok x fun y => y = r) : x = Option.some r := by
  obtain ⟨y, h1, h2⟩ := h
  rw [h1, h2]
theorem Ok.of_eq {x : Option α} {r : α} (h : x = Option.some r) (hp : P r) : Ok x P := ⟨r, h, hp⟩

theorem loop_ok {f : σ → Option (σ ⊕ ρ)} {Q : ρ → Prop} (I : σ → Prop) (μ : σ → Nat)
    (step : ∀ s, I s → Ok (f s) fun x => match x with | .inl s' => I s' ∧ μ s' < μ s | .inr r => Q r) {s : σ} (h : I s) : Ok (loopO f s) Q := by
  generalize hn : μ s = n
  induction n using Nat.strongRecOn generalizing s with
  | _ n ih =>
    obtain ⟨x, h1, h2⟩ := step s h
    cases x with
    | inl s' =>
      obtain ⟨h3, h4⟩ := h2
      obtain ⟨r, h5, h6⟩ := ih (μ s') (by omega) h3 rfl
      refine ⟨r, ?_, h6⟩
      rw [loopO_eq, h1]
      exact h5
    | inr r =>
      refine ⟨r, ?_, h2⟩
      rw [loopO_eq, h1]
      rfl

theorem at_lt {l : List α} {n : Int} (h : 0 ≤ n) (h2 : n < l.length) : at? l n = Option.some (l[n.toNat]'(by omega)) := by
  unfold at?
  rw [if_pos h, List.getElem?_eq_getElem]
theorem at_nat {l : List α} {n : Nat} (h : n < l.length) : at? l (n : Int) = Option.some l[n] := by
  rw [at_lt (by omega) (by omega)]
  simp
theorem at_ok {l : List α} {n : Int} (h : 0 ≤ n) (h2 : n < l.length) : Ok (at? l n) (fun y => l[n.toNat]? = Option.some y) := by
  refine ⟨_, at_lt h h2, ?_⟩
  rw [List.getElem?_eq_getElem]
theorem at_mem {l : List α} {n : Int} (h : 0 ≤ n) (h2 : n < l.length) : Ok (at? l n) (fun y => y ∈ l) := by
  refine (at_ok h h2).mono fun y hy => List.mem_of_getElem? hy
end

/-! ### Integers of 64 bits -/
def I64 (n : Int) : Prop := -9223372036854775808 ≤ n ∧ n ≤ 9223372036854775807
theorem wrap64 {n : Int} (h : -9223372036854775808 ≤ n) (h2 : n ≤ 9223372036854775807) : IntKind.wrap .i64 n = n := by
  unfold IntKind.wrap
  simp [IntKind.min, IntKind.max, IntKind.bits, IntKind.signed]
  omega
theorem tmod_nonneg {a b : Int} (h : 0 ≤ a) : 0 ≤ a.tmod b := Int.tmod_nonneg b h
theorem tmod_lt' {a b : Int} (h : 0 < b) : a.tmod b < b := Int.tmod_lt_of_pos a h
theorem lim_eq : LIM = 137438953472 := by decide
theorem ble_lim {n : Nat} (h : n ≤ 137438953472) : Nat.ble n LIM = true := by rw [Nat.ble_eq, lim_eq]; exact h
end Go.Eng

/-
Loops over the elements of a list; keys.
-/
namespace Go.Eng
open Go
set_option linter.unusedVariables false
set_option linter.unusedSimpArgs false

/-- The first answer of the elements from number k on. -/
def scan {α ρ : Type} (g : Nat → α → Option ρ) : Nat → List α → Option ρ
  | _, [] => none
  | k, x :: xs => match g k x with
    | some r => some r
    | none => scan g (k + 1) xs

theorem drop_get {α : Type} {l : List α} {i : Nat} (h : i < l.length) : l.drop i = l[i] :: l.drop (i + 1) := List.drop_eq_getElem_cons h

/-- A loop over a list that ends at the first element with an answer. -/
theorem range_loop {α ρ : Type} {l : List α} {f : Int → Option (Int ⊕ ρ)} (g : Nat → α → Option ρ) (done : ρ) (hl : (l.length : Int) ≤ 9223372036854775807)
    (hf : ∀ (i : Nat) (h : i < l.length), f i = some (match g i l[i] with | none => .inl (IntKind.wrap .i64 (i + 1)) | some r => .inr r)) (hd : f l.length = some (.inr done)) :
    loopO f 0 = some ((scan g 0 l).getD done) := by
  have key : ∀ (n i : Nat), l.length - i = n → i ≤ l.length → loopO f i = some ((scan g i (l.drop i)).getD done) := by
    intro n
    induction n with
    | zero =>
      intro i h1 h2
      have : i = l.length := by omega
      subst this
      rw [loopO_eq, hd, List.drop_length]
      rfl
    | succ n ih =>
      intro i h1 h2
      have hi : i < l.length := by omega
      rw [loopO_eq, hf i hi, drop_get hi]
      simp only [scan]
      cases hg : g i l[i] with
      | some r => rfl
      | none =>
        simp only [Option.bind_some]
        rw [wrap64 (by omega) (by omega)]
        exact ih (i + 1) (by omega) (by omega)
  exact key l.length 0 (by omega) (by omega)

theorem scan_none {α ρ : Type} {g : Nat → α → Option ρ} : ∀ {l : List α} {k : Nat}, scan g k l = none ↔ ∀ (i : Nat) (x : α), l[i]? = some x → g (k + i) x = none
  | [], k => by simp [scan]
  | y :: l, k => by
    simp only [scan]
    cases hg : g k y with
    | some r =>
      simp only [reduceCtorEq, false_iff]
      intro h
      have := h 0 y rfl
      rw [Nat.add_zero, hg] at this
      cases this
    | none =>
      simp only
      rw [scan_none]
      constructor
      · intro h i x hi
        cases i with
        | zero => simp at hi; subst hi; exact hg
        | succ i => rw [show k + (i + 1) = k + 1 + i by omega]; exact h i x (by simpa using hi)
      · intro h i x hi
        rw [show k + 1 + i = k + (i + 1) by omega]
        exact h (i + 1) x (by simpa using hi)
/-! ### Keys -/
end Go.Eng

/-
Small checks; the order of measurements.
-/
namespace Go.Eng
open Go
set_option linter.unusedVariables false
set_option linter.unusedSimpArgs false

theorem Out_eq (n low high : Int) : base_Out n low high = some (decide (n < low) || decide (high < n)) := by
  unfold base_Out base_Out_x1
  by_cases h : n < low <;> simp [h]
theorem Moment_eq (n : Int) : base_Moment n = some (decide (0 ≤ n) && decide (n ≤ 345686399999)) := by
  unfold base_Moment
  rw [Out_eq]
  simp only [Option.bind_some]
  congr 1
  rw [Bool.eq_iff_iff]
  simp
/-! ### Orders -/
def cmpI (a b : Int) : Int := if a < b then -1 else if b < a then 1 else 0
def or0 (a b : Int) : Int := if a = 0 then b else a
theorem cmpB_self : ∀ a : List UInt8, Lib.compareBytes a a = 0
  | [] => rfl
  | x :: a => by
    unfold Lib.compareBytes
    simp [UInt8.lt_irrefl, cmpB_self a]
theorem cmpB_anti : ∀ a b : List UInt8, Lib.compareBytes b a = -Lib.compareBytes a b
  | [], [] => rfl
  | [], _ :: _ => rfl
  | _ :: _, [] => rfl
  | x :: a, y :: b => by
    unfold Lib.compareBytes
    by_cases h1 : x < y
    · have h2 : ¬ y < x := UInt8.lt_asymm h1
      simp [h1, h2]
    · by_cases h2 : y < x
      · simp [h1, h2]
      · simp [h1, h2, cmpB_anti a b]
theorem cmpB_zero : ∀ {a b : List UInt8}, Lib.compareBytes a b = 0 ↔ a = b
  | [], [] => by simp [Lib.compareBytes]
  | [], _ :: _ => by simp [Lib.compareBytes]
  | _ :: _, [] => by simp [Lib.compareBytes]
  | x :: a, y :: b => by
    unfold Lib.compareBytes
    by_cases h1 : x < y
    · have : x ≠ y := fun h => UInt8.lt_irrefl y (h ▸ h1)
      simp [h1, this]
    · by_cases h2 : y < x
      · have : x ≠ y := fun h => UInt8.lt_irrefl x (by rw [h] at h2 ⊢; exact h2)
        simp [h1, h2, this]
      · have : x = y := UInt8.le_antisymm (UInt8.not_lt.1 h2) (UInt8.not_lt.1 h1)
        simp [h1, h2, cmpB_zero (a := a) (b := b), this]
theorem cmpB_less : ∀ a b : List UInt8, Op.bytesLess a b = decide (Lib.compareBytes a b < 0)
  | [], [] => rfl
  | [], _ :: _ => rfl
  | _ :: _, [] => rfl
  | x :: a, y :: b => by
    unfold Lib.compareBytes
    rw [Op.bytesLess]
    by_cases h1 : x < y
    · simp [h1]
    · by_cases h2 : y < x
      · have h3 : ¬ x = y := fun h => UInt8.lt_irrefl x (by rw [h] at h2 ⊢; exact h2)
        simp [h1, h2, h3]
      · have h3 : x = y := UInt8.le_antisymm (UInt8.not_lt.1 h2) (UInt8.not_lt.1 h1)
        simp [h1, h2, h3, cmpB_less a b]
end Go.Eng

/-
Checks of measurements and series, both ways.
-/
namespace Go.Eng
open Go
set_option linter.unusedVariables false
set_option linter.unusedSimpArgs false

theorem cmpInt_eq (a b : Int) : cmp_Compare_int a b = some (cmpI a b) := by
  unfold cmp_Compare_int cmp_isNaN_int cmpI
  by_cases h1 : a < b
  · simp [h1]
  · by_cases h2 : b < a <;> simp [h1, h2]
theorem Or_eq (l : List Int) (hl : (l.length : Int) ≤ 9223372036854775807) : cmp_Or_int l = some ((l.find? fun x => !decide (x = 0)).getD 0) := by
  unfold cmp_Or_int
  rw [range_loop (l := l) (fun _ x => cond (!decide (x = 0)) (some (.inr x)) none) (.inl ()) hl]
  · simp only [Option.bind_some]
    generalize 0 = k
    induction l generalizing k with
    | nil => rfl
    | cons c s ih =>
      simp only [scan, List.find?_cons]
      by_cases hc : c = 0
      · simp only [hc, decide_true, Bool.not_true, cond_false]
        exact ih (by simp at hl; omega) (k + 1)
      · simp [hc]
  · intro i hi
    unfold cmp_Or_int_x1
    rw [at_nat hi]
    have : ((i : Int) < l.length) := by omega
    simp only [this, decide_true, cond_true, Option.bind_some]
    cases (!decide (l[i] = 0)) <;> rfl
  · unfold cmp_Or_int_x1
    simp
/-! ### Check -/
end Go.Eng

/-
Sorting of few elements, and what is left of equal ones, for all kinds of elements.
-/
namespace Go.Eng
open Go
set_option linter.unusedVariables false
set_option linter.unusedSimpArgs false

theorem loop_out {σ ρ : Type} {f : σ → Option (σ ⊕ ρ)} {s : σ} {r : ρ} (h : f s = some (.inr r)) : loopO f s = some r := by rw [loopO_eq, h]; rfl

section
variable {α : Type}
/-! ### Insertion, as the code has it -/
noncomputable def gI3 (cmp : α → α → Option Int) (qa : Int) (vl3 : List α) (vj1 : Int) : Option (Bool) :=
  cond (decide (qa < vj1))
    ((at? vl3 vj1).bind fun vy15 =>
    (at? vl3 (IntKind.wrap .i64 (vj1 - 1))).bind fun vy16 =>
    (cmp vy15 vy16).bind fun vr1_3 =>
    some (decide (vr1_3 < 0)))
    (some false)
noncomputable def gI2 (cmp : α → α → Option Int) (qa : Int) : (List α) × Int → Option (((List α) × Int) ⊕ ((List α)))
  | (vl3, vj1) =>
  (gI3 cmp qa vl3 vj1).bind fun vx4_1 =>
  cond (vx4_1)
    ((at? vl3 (IntKind.wrap .i64 (vj1 - 1))).bind fun vy17 =>
    (at? vl3 vj1).bind fun vy18 =>
    (at? (vl3.set vj1.toNat vy17) (IntKind.wrap .i64 (vj1 - 1))).bind fun vy19 =>
    some (.inl ((vl3.set vj1.toNat vy17).set (IntKind.wrap .i64 (vj1 - 1)).toNat vy18, IntKind.wrap .i64 (vj1 - 1))))
    (some (.inr vl3))
noncomputable def gI1 (cmp : α → α → Option Int) (qa : Int) (qb : Int) : (List α) × Int → Option (((List α) × Int) ⊕ ((List α)))
  | (vl, vi) =>
  cond (decide (vi < qb))
    ((loopO (gI2 cmp qa) (vl, vi)).bind fun vl4_1 =>
    some (.inl (vl4_1, IntKind.wrap .i64 (vi + 1))))
    (some (.inr vl))
noncomputable def gI (cmp : α → α → Option Int) (qdata : List α) (qa : Int) (qb : Int) : Option ((List α)) :=
  (loopO (gI1 cmp qa qb) (qdata, IntKind.wrap .i64 (qa + 1))).bind fun vl5_1 =>
  some vl5_1
noncomputable def gS1 (cmp : α → α → Option Int) (qn : Int) : (List α) × Int × Int → Option (((List α) × Int × Int) ⊕ (((List α) × Int)))
  | (vl, va, vb) =>
  cond (decide (vb ≤ qn))
    ((gI cmp vl va vb).bind fun vl6_1 =>
    gd (vl6_1.length == vl.length) <|
    some (.inl (vl6_1, vb, IntKind.wrap .i64 (vb + 20))))
    (some (.inr (vl, va)))
noncomputable def gS3 (qn : Int) (vblockSize : Int) : Unit → Option ((Unit) ⊕ (Unit))
  | _ =>
  cond (decide ((IntKind.wrap .i64 ((2 : Int) * vblockSize)) ≤ qn))
    (none)
    (some (.inr ()))
noncomputable def gS2 (qn : Int) (vblockSize : Int) : Option ((Int) ⊕ (Unit)) :=
  cond (decide (vblockSize < qn))
    ((loopO (gS3 qn vblockSize) ()).bind fun _ =>
    cond (decide ((IntKind.wrap .i64 ((0 : Int) + vblockSize)) < qn))
      (none)
      (some (.inl (IntKind.wrap .i64 (vblockSize * 2)))))
    (some (.inr ()))
noncomputable def gS (cmp : α → α → Option Int) (qdata : List α) (qn : Int) : Option ((List α)) :=
  (loopO (gS1 cmp qn) (qdata, 0, 20)).bind fun (vl1_1, va1_1) =>
  (gI cmp vl1_1 va1_1 qn).bind fun vl6_2 =>
  gd (vl6_2.length == vl1_1.length) <|
  (loopO (gS2 qn) 20).bind fun _ =>
  some vl6_2
noncomputable def gSort (cmp : α → α → Option Int) (qx : List α) : Option ((List α)) :=
  (gS cmp qx (qx.length : Int)).bind fun vl2 =>
  gd (vl2.length == qx.length) <|
  some vl2

def All (p : α → Prop) (l : List α) : Prop := ∀ x ∈ l, p x
theorem All.nil {p : α → Prop} : All p [] := fun _ h => nomatch h
theorem All.set {p : α → Prop} {l : List α} (h : All p l) {i : Nat} {x : α} (hx : p x) : All p (l.set i x) := by
  intro y hy
  rcases List.mem_or_eq_of_mem_set hy with hy | rfl
  · exact h y hy
  · exact hx
theorem All.at {p : α → Prop} {l : List α} (h : All p l) {i : Nat} (hi : i < l.length) : p l[i] := h _ (List.getElem_mem hi)

/-! ### Equal ones, as the code has it -/
noncomputable def gC3 (t : α → α → Option Bool) (qx : List α) (vx : Int) (vl4 : List α) (vx6 : Int) (vx7 : Int) : Option (((List α) × Int)) :=
  gd (decide (0 ≤ vx) && decide (0 ≤ vx7) && decide (vx7 < (qx.length : Int) - vx)) <|
  (at? vl4 (vx + vx7)).bind fun vy13 =>
  gd (decide (0 ≤ vx) && decide (0 ≤ (IntKind.wrap .i64 (vx7 - 1))) && decide ((IntKind.wrap .i64 (vx7 - 1)) < (qx.length : Int) - vx)) <|
  (at? vl4 (vx + (IntKind.wrap .i64 (vx7 - 1)))).bind fun vy14 =>
  (t vy13 vy14).bind fun vr5 =>
  cond (!vr5)
    ((at? vl4 vx6).bind fun vy15 =>
    some (vl4.set vx6.toNat vy13, IntKind.wrap .i64 (vx6 + 1)))
    (some (vl4, vx6))
noncomputable def gC2 (t : α → α → Option Bool) (qx : List α) (vx : Int) : (List α) × Int × Int → Option (((List α) × Int × Int) ⊕ (((List α) × Int)))
  | (vl4, vx6, vx7) =>
  cond (decide (vx7 < (((qx.length : Int).toNat - vx.toNat : Nat) : Int)))
    ((gC3 t qx vx vl4 vx6 vx7).bind fun (vl6_1, vx9_1) =>
    some (.inl (vl6_1, vx9_1, IntKind.wrap .i64 (vx7 + 1))))
    (some (.inr (vl4, vx6)))
noncomputable def gC1 (t : α → α → Option Bool) (z : α) (qx : List α) (vx : Int) : Option ((Int) ⊕ (Unit ⊕ (List α))) :=
  cond (decide (vx < (qx.length : Int)))
    ((at? qx vx).bind fun vy8 =>
    (at? qx (IntKind.wrap .i64 (vx - 1))).bind fun vy9 =>
    (t vy8 vy9).bind fun vr3 =>
    cond (vr3)
      (gd (decide (0 ≤ vx) && decide (vx ≤ (qx.length : Int)) && decide ((qx.length : Int) ≤ (qx.length : Int))) <|
      (loopO (gC2 t qx vx) (qx, vx, 1)).bind fun (vl7_1, vx10_1) =>
      gd (decide (0 ≤ vx10_1) && decide (vx10_1 ≤ (vl7_1.length : Int)) && decide ((vl7_1.length : Int) ≤ (vl7_1.length : Int))) <|
      gd (decide (0 ≤ vx10_1) && decide (vx10_1 ≤ ((vl7_1.take vx10_1.toNat ++ (List.replicate ((vl7_1.length : Int).toNat - vx10_1.toNat) z ++ vl7_1.drop (vx10_1.toNat + ((vl7_1.length : Int).toNat - vx10_1.toNat)))).length : Int))) <|
      some (.inr (.inr ((vl7_1.take vx10_1.toNat ++ (List.replicate ((vl7_1.length : Int).toNat - vx10_1.toNat) z ++ vl7_1.drop (vx10_1.toNat + ((vl7_1.length : Int).toNat - vx10_1.toNat)))).take vx10_1.toNat))))
      (some (.inl (IntKind.wrap .i64 (vx + 1)))))
    (some (.inr (.inl ())))
noncomputable def gCom (t : α → α → Option Bool) (z : α) (qx : List α) : Option ((List α)) :=
  cond (decide ((qx.length : Int) < 2))
    (some qx)
    ((loopO (gC1 t z qx) 1).bind fun x => match x with
      | .inl _ =>
        some qx
      | .inr vx11_1 =>
        some vx11_1)

theorem take_part {l m : List α} {k : Nat} (h : k ≤ l.length) : (l.take k ++ m).take k = l.take k := by
  rw [List.take_append_of_le_length (by simp; omega), List.take_take]
  congr 1
  omega
end
end Go.Eng

/-
Insertion sorts; what is left of equal ones rises.
-/
namespace Go.Eng
open Go
set_option linter.unusedVariables false
set_option linter.unusedSimpArgs false
section
variable {α : Type}
/-- the first n are in order -/
def Ord (f : α → α → Int) (l : List α) (n : Nat) : Prop := ∀ p q (hp : p < q) (hq : q < n) (hn : n ≤ l.length), f (l[p]'(by omega)) (l[q]'(by omega)) ≤ 0

theorem gI2_ord {P : α → Prop} {f : α → α → Int} {c : α → α → Option Int} (hc : ∀ x y, P x → P y → c x y = some (f x y)) (anti : ∀ x y, f y x = - f x y) (tr : ∀ x y z, f x y ≤ 0 → f y z ≤ 0 → f x z ≤ 0)
    {n : Nat} (hn : n ≤ 100000) {l : List α} (hl : l.length = n) (hP : All P l) {i : Nat} (hi : i < n) (ho : Ord f l i) :
    Ok (loopO (gI2 c 0) (l, (i : Int))) (fun r => r.length = n ∧ All P r ∧ Ord f r (i + 1)) := by
  refine loop_ok (fun s : List α × Int => s.1.length = n ∧ All P s.1 ∧ ∃ j : Nat, s.2 = (j : Int) ∧ j ≤ i ∧ ∀ p q (hp : p < q) (hq : q ≤ i) (hqj : q ≠ j) (hs : i < s.1.length), f (s.1[p]'(by omega)) (s.1[q]'(by omega)) ≤ 0) (fun s => s.2.toNat) ?_
    ⟨hl, hP, i, rfl, Nat.le_refl _, fun p q hp hq hqj hs => ho p q hp (by omega) (by simp only at hs; omega)⟩
  rintro ⟨m, q⟩ ⟨m1, m2, j, rfl, j1, j2⟩
  simp only at m1 m2 j2
  unfold gI2 gI3
  by_cases hj : (0 : Int) < j
  · have w1 : IntKind.wrap .i64 ((j : Int) - 1) = ((j - 1 : Nat) : Int) := by rw [wrap64 (by omega) (by omega)]; omega
    have hjm : j < m.length := by omega
    have hjm1 : j - 1 < m.length := by omega
    have hy := m2 _ (List.getElem_mem hjm)
    have hx := m2 _ (List.getElem_mem hjm1)
    simp only [hj, decide_true, cond_true, w1, at_nat hjm, at_nat hjm1, Option.bind_some, hc _ _ hy hx]
    refine .cond (fun hlt => ?_) (fun hge => ?_)
    · have hlt := of_decide_eq_true hlt
      have g3 : at? (m.set (j : Int).toNat m[j - 1]) ((j - 1 : Nat) : Int) = some m[j - 1] := by
        rw [at_nat (by simp; omega)]
        simp only [Int.toNat_natCast, List.getElem_set]
        rw [if_neg (by omega)]
      rw [g3]
      simp only [Option.bind_some, Int.toNat_natCast]
      refine .some ⟨⟨by simp [m1], (m2.set hx).set hy, j - 1, rfl, by omega, ?_⟩, by simp only; omega⟩
      intro p q hp hq hqj hs
      simp only [List.getElem_set]
      have hin : i < m.length := by omega
      by_cases q1 : q = j
      · subst q1
        by_cases p1 : p = q - 1
        · subst p1
          have e1 : ¬ (q - 1 = q) := by omega
          simp only [e1, if_true, if_false]
          omega
        · have e1 : ¬ (q - 1 = p) := by omega
          have e2 : ¬ (q = p) := by omega
          have e3 : ¬ (q - 1 = q) := by omega
          simp only [e1, e2, e3, if_true, if_false]
          exact j2 p (q - 1) (by omega) (by omega) (by omega) hin
      · have e4 : ¬ (j = q) := by omega
        have e5 : ¬ (j - 1 = q) := by omega
        simp only [e4, e5, if_false]
        by_cases p1 : p = j - 1
        · subst p1
          simp only [if_true]
          exact j2 j q (by omega) hq q1 hin
        · by_cases p2 : p = j
          · subst p2
            have e6 : ¬ (p - 1 = p) := by omega
            simp only [e6, if_true, if_false]
            exact j2 (p - 1) q (by omega) hq q1 hin
          · have e7 : ¬ (j - 1 = p) := by omega
            have e8 : ¬ (j = p) := by omega
            simp only [e7, e8, if_false]
            exact j2 p q hp hq q1 hin
    · have hge := of_decide_eq_false hge
      refine .some ⟨m1, m2, fun p q hp hq hs => ?_⟩
      have hin : i < m.length := by omega
      by_cases q1 : q = j
      · subst q1
        have h0 : f m[q - 1] m[q] ≤ 0 := by have := anti m[q] m[q - 1]; omega
        by_cases p1 : p = q - 1
        · subst p1; exact h0
        · exact tr _ _ _ (j2 p (q - 1) (by omega) (by omega) (by omega) hin) h0
      · exact j2 p q hp (by omega) q1 hin
  · have hj' : ¬ (0 : Int) < j := hj
    have j0 : j = 0 := by omega
    subst j0
    simp only [hj', decide_false, cond_false, Option.bind_some]
    exact .some ⟨m1, m2, fun p q hp hq hs => j2 p q hp (by omega) (by omega) (by omega)⟩
theorem gI_ord {P : α → Prop} {f : α → α → Int} {c : α → α → Option Int} (hc : ∀ x y, P x → P y → c x y = some (f x y)) (anti : ∀ x y, f y x = - f x y) (tr : ∀ x y z, f x y ≤ 0 → f y z ≤ 0 → f x z ≤ 0)
    {l : List α} (hl : l.length ≤ 100000) (hP : All P l) : Ok (gI c l 0 l.length) (fun r => r.length = l.length ∧ All P r ∧ Ord f r l.length) := by
  unfold gI
  have w : IntKind.wrap .i64 ((0 : Int) + 1) = 1 := by decide
  rw [w]
  refine Ok.bind (P := fun r : List α => r.length = l.length ∧ All P r ∧ Ord f r l.length) (loop_ok (fun s : List α × Int => s.1.length = l.length ∧ All P s.1 ∧ ∃ i : Nat, s.2 = (i : Int) ∧ 1 ≤ i ∧ Ord f s.1 (min i l.length)) (fun s => ((l.length : Int) - s.2).toNat) ?_
    ⟨rfl, hP, 1, rfl, by omega, fun p q hp hq hn => by omega⟩) fun r hr => .some hr
  rintro ⟨m, q⟩ ⟨m1, m2, i, rfl, i1, i2⟩
  simp only at m1 m2 i2
  unfold gI1
  by_cases hi : i < l.length
  · have hi' : (i : Int) < l.length := by omega
    have w1 : IntKind.wrap .i64 ((i : Int) + 1) = ((i + 1 : Nat) : Int) := by rw [wrap64 (by omega) (by omega)]; omega
    simp only [hi', decide_true, cond_true]
    rw [Nat.min_eq_left (by omega)] at i2
    refine (gI2_ord hc anti tr (n := l.length) hl m1 m2 hi i2).bind fun r hr => ?_
    rw [w1]
    refine .some ⟨⟨hr.1, hr.2.1, i + 1, rfl, by omega, ?_⟩, by simp only; omega⟩
    rw [Nat.min_eq_left (by omega)]
    exact hr.2.2
  · have hi' : ¬ (i : Int) < l.length := by omega
    simp only [hi', decide_false, cond_false]
    rw [Nat.min_eq_right (by omega)] at i2
    exact .some ⟨m1, m2, i2⟩
end
end Go.Eng

/-
Loops that only gather.
-/
namespace Go.Eng
open Go
set_option linter.unusedVariables false
set_option linter.unusedSimpArgs false

/-- A loop over all elements of a list that only gathers. -/
theorem fold_loop0 {τ σ ρ α : Type} {l : List α} {f : τ → Option (τ ⊕ ρ)} (e : σ → Int → τ) (h : σ → α → σ) (fin : σ → ρ) (I : Nat → σ → Prop) {s0 : σ} (hl : (l.length : Int) ≤ 9223372036854775807)
    (hf : ∀ (i : Nat) (hi : i < l.length) (s : σ), I i s → f (e s i) = some (.inl (e (h s l[i]) (IntKind.wrap .i64 (i + 1)))) ∧ I (i + 1) (h s l[i])) (hd : ∀ s, I l.length s → f (e s l.length) = some (.inr (fin s))) (h0 : I 0 s0) :
    loopO f (e s0 0) = some (fin (l.foldl h s0)) ∧ I l.length (l.foldl h s0) := by
  have key : ∀ (n i : Nat) (s : σ), l.length - i = n → i ≤ l.length → I i s → loopO f (e s i) = some (fin ((l.drop i).foldl h s)) ∧ I l.length ((l.drop i).foldl h s) := by
    intro n
    induction n with
    | zero =>
      intro i s h1 h2 h3
      have : i = l.length := by omega
      subst this
      rw [List.drop_length]
      refine ⟨?_, h3⟩
      rw [loopO_eq, hd s h3]
      rfl
    | succ n ih =>
      intro i s h1 h2 h3
      have hi : i < l.length := by omega
      obtain ⟨g1, g2⟩ := hf i hi s h3
      obtain ⟨f1, f2⟩ := ih (i + 1) (h s l[i]) (by omega) (by omega) g2
      rw [List.drop_eq_getElem_cons hi, List.foldl_cons]
      refine ⟨?_, f2⟩
      rw [loopO_eq, g1]
      simp only [Option.bind_some]
      rw [wrap64 (by omega) (by omega)]
      exact f1
  have := key l.length 0 s0 (by omega) (by omega) h0
  simpa using this
theorem scan_find0 {α : Type} {p : α → Bool} : ∀ {l : List α} {k : Nat}, ∃ r : Int, (match (scan (fun i x => cond (p x) (some (Sum.inr (i : Int) : Unit ⊕ Int)) none) k l).getD (.inl ()) with | .inl _ => (-1 : Int) | .inr v => v) = r ∧ decide (0 ≤ r) = l.any p
  | [], k => ⟨-1, rfl, rfl⟩
  | x :: l, k => by
    simp only [scan, List.any_cons]
    cases p x with
    | true => exact ⟨k, rfl, by simp⟩
    | false => simp only [cond_false, Bool.false_or]; exact scan_find0 (l := l) (k := k + 1)
/-- A search for the first element that meets a test: is there one? -/
theorem find_loop {α : Type} {l : List α} {f : Int → Option (Int ⊕ (Unit ⊕ Int))} (p : α → Bool) (hl : (l.length : Int) ≤ 9223372036854775807)
    (hf : ∀ (i : Nat) (h : i < l.length), f i = some (cond (p l[i]) (.inr (.inr (i : Int))) (.inl (IntKind.wrap .i64 ((i : Int) + 1))))) (hd : f l.length = some (.inr (.inl ()))) :
    ∃ x, loopO f 0 = some x ∧ decide (0 ≤ (match x with | .inl _ => (-1 : Int) | .inr v => v)) = l.any p := by
  refine ⟨_, range_loop (l := l) (fun i x => cond (p x) (some (.inr (i : Int))) none) (.inl ()) hl (fun i h => ?_) hd, ?_⟩
  · rw [hf i h]
    cases p l[i] <;> rfl
  · obtain ⟨r, h1, h2⟩ := scan_find0 (p := p) (l := l) (k := 0)
    rw [h1]; exact h2
end Go.Eng

/-
What the laws ask of each package once.
-/
namespace Go.Eng
open Go
end Go.Eng

/-
Twins: the order of names and of stamps; sorted cells as tables; merging.
-/
namespace Go.Eng
open Go
set_option linter.unusedVariables false
set_option linter.unusedSimpArgs false

/-! ### Orders -/
theorem cmpB_tr : ∀ {a b c : List UInt8}, Lib.compareBytes a b ≤ 0 → Lib.compareBytes b c ≤ 0 → Lib.compareBytes a c ≤ 0
  | [], [], c, _, h => h
  | [], _ :: _, [], _, _ => by simp [Lib.compareBytes]
  | [], _ :: _, _ :: _, _, _ => by simp [Lib.compareBytes]
  | _ :: _, [], _, h, _ => by simp [Lib.compareBytes] at h
  | _ :: _, _ :: _, [], _, h => by simp [Lib.compareBytes] at h
  | x :: a, y :: b, z :: c, h1, h2 => by
    unfold Lib.compareBytes at *
    by_cases xy : x < y
    · by_cases yz : y < z
      · simp [UInt8.lt_trans xy yz]
      · by_cases zy : z < y
        · simp [yz, zy] at h2
        · have e : y = z := UInt8.le_antisymm (UInt8.not_lt.1 zy) (UInt8.not_lt.1 yz)
          subst e; simp [xy]
    · by_cases yx : y < x
      · simp [xy, yx] at h1
      · have e : x = y := UInt8.le_antisymm (UInt8.not_lt.1 yx) (UInt8.not_lt.1 xy)
        subst e
        simp only [xy, if_false] at h1
        by_cases xz : x < z
        · simp [xz]
        · by_cases zx : z < x
          · simp [xz, zx] at h2
          · simp only [xz, zx, if_false] at h2 ⊢
            exact cmpB_tr h1 h2
/-- one name is ahead of another one -/
def nlt (a b : List UInt8) : Prop := Lib.compareBytes a b < 0
theorem nlt_irrefl (a : List UInt8) : ¬ nlt a a := by unfold nlt; rw [cmpB_self]; omega
theorem nlt_trans {a b c : List UInt8} (h1 : nlt a b) (h2 : nlt b c) : nlt a c := by
  unfold nlt at *
  have h := cmpB_tr (a := a) (b := b) (c := c) (by omega) (by omega)
  by_cases h0 : Lib.compareBytes a c = 0
  · have := cmpB_zero.1 h0
    subst this
    have := cmpB_anti a b
    omega
  · omega
theorem nlt_asymm {a b : List UInt8} (h : nlt a b) : ¬ nlt b a := fun h2 => nlt_irrefl a (nlt_trans h h2)
theorem nlt_ne {a b : List UInt8} (h : nlt a b) : a ≠ b := fun e => nlt_irrefl b (e ▸ h)
theorem cmpB_cases (a b : List UInt8) : nlt a b ∨ a = b ∨ nlt b a := by
  unfold nlt
  have := cmpB_anti a b
  by_cases h0 : Lib.compareBytes a b = 0
  · exact .inr (.inl (cmpB_zero.1 h0))
  · omega
def stO (a b : api_Stamp) : Int := or0 (cmpI a.At b.At) (or0 (Lib.compareBytes a.By b.By) (cmpI a.No b.No))
theorem cmpI_zero {a b : Int} : cmpI a b = 0 ↔ a = b := by unfold cmpI; (repeat' split) <;> omega
theorem or0_zero {a b : Int} : or0 a b = 0 ↔ a = 0 ∧ b = 0 := by unfold or0; split <;> omega
theorem byStamp_eq (a b : api_Stamp) : twin_byStamp a b = some (stO a b) := by
  unfold twin_byStamp strings_Compare bytealg_CompareString
  simp only [Option.bind_some, cmpInt_eq]
  rw [Or_eq _ (by simp)]
  unfold stO or0
  simp only [Option.bind_some]
  by_cases h1 : cmpI a.At b.At = 0 <;> by_cases h2 : Lib.compareBytes a.By b.By = 0 <;> by_cases h3 : cmpI a.No b.No = 0 <;> simp [h1, h2, h3]

/-! ### Sorted cells -/
abbrev nm (c : api_Cell) : List UInt8 := c.Prop_.Name
def Srt (l : List api_Cell) : Prop := l.Pairwise fun x y => nlt (nm x) (nm y)
/-! ### Merging -/
theorem veq_iff {a b : api_Value} : (decide (a.Kind = b.Kind) && ((a.Flag == b.Flag) && (decide (a.Number = b.Number) && (decide (a.Words = b.Words) && true)))) = true ↔ a = b := by
  obtain ⟨a1, a2, a3, a4⟩ := a
  obtain ⟨b1, b2, b3, b4⟩ := b
  simp
end Go.Eng

/-
Twins: the code's merging and checks are those of tables.
-/
namespace Go.Eng
open Go
set_option linter.unusedVariables false
set_option linter.unusedSimpArgs false

theorem lim_ok {n : Nat} (h : n ≤ 100000) : Nat.ble n LIM = true := ble_lim (by omega)

/-! ### Checks -/
def GC (c : api_Cell) : Prop := twin_isName (nm c) = some true ∧ twin_valueFault c.Prop_.Value = some 0 ∧ twin_stampFault c.Stamp = some 0
theorem First_zero : base_First [0, 0] = some 0 := by kernel_rfl
theorem srt_step {l : List api_Cell} (hs : Srt l) {i : Nat} (h : i + 1 < l.length) : (Op.bytesLess (nm l[i + 1]) (nm (l[i]'(by omega))) || decide (nm l[i + 1] = nm (l[i]'(by omega)))) = false := by
  have h1 : nlt (nm (l[i]'(by omega))) (nm l[i + 1]) := (List.pairwise_iff_getElem.1 hs) i (i + 1) (by omega) h (by omega)
  rw [cmpB_less]
  have h2 := nlt_asymm h1
  have h3 := nlt_ne h1
  unfold nlt at h2
  simp only [Bool.or_eq_false_iff, decide_eq_false_iff_not]
  exact ⟨h2, fun e => h3 e.symm⟩
theorem check_ok {l : List api_Cell} (h : ∀ c ∈ l, GC c) (hs : Srt l) (hl : l.length ≤ 500) : twin_CheckCells l = some 0 := by
  unfold twin_CheckCells
  have : ¬ (500 : Int) < l.length := by omega
  simp only [this, decide_false, cond_false]
  rw [range_loop (l := l) (fun _ _ => none) (.inl ()) (by omega)]
  · have : ∀ (k : Nat) (m : List api_Cell), scan (fun (_ : Nat) (_ : api_Cell) => (none : Option (Unit ⊕ Int))) k m = none := fun k m => scan_none.2 fun _ _ _ => rfl
    rw [this]
    rfl
  · intro i hi
    obtain ⟨h1, h2, h3⟩ := h l[i] (List.getElem_mem _)
    have hc : (i : Int) < l.length := by omega
    have h2' : twin_valueFault (api_Value.mk l[i].Prop_.Value.Kind l[i].Prop_.Value.Flag l[i].Prop_.Value.Number l[i].Prop_.Value.Words) = some 0 := h2
    have h3' : twin_stampFault (api_Stamp.mk l[i].Stamp.At l[i].Stamp.By l[i].Stamp.No) = some 0 := h3
    have hx2 : twin_CheckCells_x2 l i l[i] = some false := by
      unfold twin_CheckCells_x2
      cases i with
      | zero => simp
      | succ i =>
        have hp : (0 : Int) < ((i + 1 : Nat) : Int) := by omega
        have w : IntKind.wrap .i64 (((i + 1 : Nat) : Int) - 1) = (i : Int) := by rw [wrap64 (by omega) (by omega)]; omega
        simp only [hp, decide_true, cond_true, w, at_nat (show i < l.length by omega), Option.bind_some]
        exact congrArg some (srt_step hs hi)
    unfold twin_CheckCells_x1
    simp only [hc, decide_true, cond_true, at_nat hi, Option.bind_some, show twin_isName l[i].Prop_.Name = some true from h1, Bool.not_true, cond_false, h2', h3', First_zero, hx2]
  · unfold twin_CheckCells_x1
    simp
end Go.Eng

/-
Twins: merging in any order; what is visible.
-/
namespace Go.Eng
open Go
set_option linter.unusedVariables false
set_option linter.unusedSimpArgs false

/-! ### Merging in any order -/
end Go.Eng

/-
Twins: what is visible; checks of properties; searching.
-/
namespace Go.Eng
open Go
set_option linter.unusedVariables false
set_option linter.unusedSimpArgs false

/-! ### Names below names -/
/-- the first name is below the second one -/
def belB (n a : List UInt8) : Bool := (a ++ [46]).isPrefixOf n
theorem bel_iff {n a : List UInt8} : belB n a = true ↔ ∃ r, n = a ++ 46 :: r := by
  unfold belB
  rw [List.isPrefixOf_iff_prefix]
  constructor
  · rintro ⟨r, h⟩; exact ⟨r, by rw [← h]; simp⟩
  · rintro ⟨r, h⟩; exact ⟨r, by rw [h]; simp⟩
theorem Below_is (n a : List UInt8) : base_Below n a = some (belB n a) := by
  unfold base_Below base_Below_x1
  by_cases h1 : (a.length : Int) < n.length
  · have h1' : a.length < n.length := by omega
    simp only [h1, decide_true, cond_true, at_nat h1', Option.bind_some]
    by_cases h2 : ((n[a.length]'h1').toNat : Int) = 46
    · have hsub : sub? n 0 (a.length : Int) = some (n.take a.length) := by
        unfold sub?
        rw [if_pos ⟨by omega, by omega, by omega⟩]
        simp
      simp only [h2, decide_true, cond_true, hsub, Option.bind_some]
      congr 1
      rw [Bool.eq_iff_iff, decide_eq_true_iff, bel_iff]
      have h3 : n[a.length]'h1' = 46 := by
        have : (n[a.length]'h1').toNat = (46 : UInt8).toNat := by show (n[a.length]'h1').toNat = 46; omega
        exact UInt8.toNat_inj.1 this
      constructor
      · intro h
        refine ⟨n.drop (a.length + 1), ?_⟩
        conv => lhs; rw [← List.take_append_drop a.length n, h, List.drop_eq_getElem_cons h1', h3]
      · rintro ⟨r, h⟩; rw [h]; simp
    · simp only [h2, decide_false, cond_false, Option.bind_some]
      congr 1
      rw [eq_comm, Bool.eq_false_iff]
      intro h
      obtain ⟨r, h⟩ := bel_iff.1 h
      apply h2
      simp [h]
  · simp only [h1, decide_false, cond_false, Option.bind_some]
    congr 1
    rw [eq_comm, Bool.eq_false_iff]
    intro h
    obtain ⟨r, h⟩ := bel_iff.1 h
    rw [h] at h1
    simp at h1
    omega
/-! ### What hides what -/
def hidesB (x y : api_Cell) : Bool :=
  if 0 < stO x.Stamp y.Stamp then belB (nm y) (nm x) || (belB (nm x) (nm y) && !decide (y.Prop_.Value.Kind = 0))
  else if stO x.Stamp y.Stamp = 0 then belB (nm y) (nm x) && (!decide (x.Prop_.Value.Kind = 0) && !decide (y.Prop_.Value.Kind = 0)) else false
theorem hides_eq (x y : api_Cell) : twin_hides x y = some (hidesB x y) := by
  have hb : twin_byStamp (api_Stamp.mk x.Stamp.At x.Stamp.By x.Stamp.No) (api_Stamp.mk y.Stamp.At y.Stamp.By y.Stamp.No) = some (stO x.Stamp y.Stamp) := byStamp_eq x.Stamp y.Stamp
  unfold twin_hides hidesB
  simp only [Below_is, Option.bind_some, hb]
  by_cases h1 : 0 < stO x.Stamp y.Stamp
  · simp only [h1, decide_true, cond_true, if_true, twin_hides_x1]
    cases belB y.Prop_.Name x.Prop_.Name <;> cases belB x.Prop_.Name y.Prop_.Name <;> cases decide (y.Prop_.Value.Kind = 0) <;> rfl
  · by_cases h2 : stO x.Stamp y.Stamp = 0
    · simp only [h1, h2, decide_true, decide_false, cond_true, cond_false, if_true, if_false, twin_hides_x2]
      cases belB y.Prop_.Name x.Prop_.Name <;> cases decide (x.Prop_.Value.Kind = 0) <;> cases decide (y.Prop_.Value.Kind = 0) <;> simp
    · simp only [h1, h2, decide_false, cond_false, if_false]
theorem hidden1_eq (x y : api_Cell) : twin_hidden_1 x y = some (hidesB x y) := by
  unfold twin_hidden_1 twin_hidden_1_x1
  have : twin_hides (api_Cell.mk (api_Prop.mk x.Prop_.Name (api_Value.mk x.Prop_.Value.Kind x.Prop_.Value.Flag x.Prop_.Value.Number x.Prop_.Value.Words)) (api_Stamp.mk x.Stamp.At x.Stamp.By x.Stamp.No)) (api_Cell.mk (api_Prop.mk y.Prop_.Name (api_Value.mk y.Prop_.Value.Kind y.Prop_.Value.Flag y.Prop_.Value.Number y.Prop_.Value.Words)) (api_Stamp.mk y.Stamp.At y.Stamp.By y.Stamp.No)) = some (hidesB x y) := hides_eq x y
  rw [this]
  cases hidesB x y <;> rfl
theorem hidden_eq (l : List api_Cell) (y : api_Cell) (hl : (l.length : Int) ≤ 9223372036854775807) : twin_hidden_f2_twin_every l y = some (l.any fun x => hidesB x y) := by
  show ((slices_ContainsFunc_api_Cell_api_Cell_f1_twin_hidden_1 l y).bind fun vr => some vr) = _
  have h0 : slices_ContainsFunc_api_Cell_api_Cell_f1_twin_hidden_1 l y = ((slices_IndexFunc_api_Cell_api_Cell_f1_twin_hidden_1 l y).bind fun vr2 => some (decide (0 ≤ vr2))) := rfl
  rw [h0]
  unfold slices_IndexFunc_api_Cell_api_Cell_f1_twin_hidden_1
  obtain ⟨x, h1, h2⟩ := find_loop (l := l) (f := slices_IndexFunc_api_Cell_api_Cell_f1_twin_hidden_1_x1 l y) (fun x => hidesB x y) hl (fun i h => by
    unfold slices_IndexFunc_api_Cell_api_Cell_f1_twin_hidden_1_x1
    have hc : (i : Int) < l.length := by omega
    simp only [hc, decide_true, cond_true, at_nat h, Option.bind_some]
    have : twin_hidden_1 (api_Cell.mk (api_Prop.mk l[i].Prop_.Name (api_Value.mk l[i].Prop_.Value.Kind l[i].Prop_.Value.Flag l[i].Prop_.Value.Number l[i].Prop_.Value.Words)) (api_Stamp.mk l[i].Stamp.At l[i].Stamp.By l[i].Stamp.No)) (api_Cell.mk (api_Prop.mk y.Prop_.Name (api_Value.mk y.Prop_.Value.Kind y.Prop_.Value.Flag y.Prop_.Value.Number y.Prop_.Value.Words)) (api_Stamp.mk y.Stamp.At y.Stamp.By y.Stamp.No)) = some (hidesB l[i] y) := hidden1_eq l[i] y
    rw [this]
    cases hidesB l[i] y <;> rfl) (by unfold slices_IndexFunc_api_Cell_api_Cell_f1_twin_hidden_1_x1; simp)
  rw [h1, ← h2]
  cases x <;> rfl
/-- is a cell visible in a list? -/
def visB (l : List api_Cell) (c : api_Cell) : Bool := !decide (c.Prop_.Value.Kind = 0) && !(l.any fun x => hidesB x c)
def vis (l : List api_Cell) : List api_Prop := (l.filter (visB l)).map api_Cell.Prop_
theorem foldl_filter {α β : Type} (p : α → Bool) (f : α → β) : ∀ (l : List α) (s : List β), l.foldl (fun s c => bif p c then s ++ [f c] else s) s = s ++ (l.filter p).map f
  | [], s => by simp
  | x :: l, s => by
    rw [List.foldl_cons, foldl_filter p f l]
    cases hp : p x <;> simp [hp]
theorem visible_eq {l : List api_Cell} (hl : l.length ≤ 10000) : twin_visible l = some (vis l) := by
  unfold twin_visible
  have := fold_loop0 (l := l) (f := twin_visible_x1 l) (fun (s : List api_Prop) i => (s, i)) (fun s c => bif visB l c then s ++ [c.Prop_] else s) id (fun i s => s.length ≤ i) (s0 := []) (by omega)
    (fun i hi s hs => by
      have hc : (i : Int) < l.length := by omega
      have hx3 : twin_visible_x3 l l[i] = some (visB l l[i]) := by
        unfold twin_visible_x3 visB
        cases h0 : decide (l[i].Prop_.Value.Kind = 0) with
        | true => simp
        | false =>
          have := hidden_eq l l[i] (by omega)
          have h2 : twin_hidden_f2_twin_every l (api_Cell.mk (api_Prop.mk l[i].Prop_.Name (api_Value.mk l[i].Prop_.Value.Kind l[i].Prop_.Value.Flag l[i].Prop_.Value.Number l[i].Prop_.Value.Words)) (api_Stamp.mk l[i].Stamp.At l[i].Stamp.By l[i].Stamp.No)) = some (l.any fun x => hidesB x l[i]) := this
          rw [h2]
          simp
      refine ⟨?_, ?_⟩
      · unfold twin_visible_x1 twin_visible_x2
        simp only [hc, decide_true, cond_true, at_nat hi, Option.bind_some, hx3]
        cases visB l l[i] with
        | false => rfl
        | true =>
          simp only [cond_true, gd]
          rw [lim_ok (by simp; omega)]
          rfl
      · cases visB l l[i] <;> simp <;> omega)
    (fun s _ => by unfold twin_visible_x1; simp) (by simp)
  rw [this.1]
  simp only [Option.bind_some, id]
  rw [foldl_filter]
  rfl
theorem vis_len (l : List api_Cell) : (vis l).length ≤ l.length := by unfold vis; rw [List.length_map]; exact List.length_filter_le _ _
theorem Visible_eq {l : List api_Cell} (h : ∀ c ∈ l, GC c) (hs : Srt l) (hl : l.length ≤ 500) : twin_Visible l = some (vis l, 0) := by
  unfold twin_Visible
  simp only [check_ok h hs hl, Option.bind_some, decide_true, Bool.not_true, cond_false, visible_eq (show l.length ≤ 10000 by omega)]

/-! ### Searching -/
def PSrt (l : List api_Prop) : Prop := l.Pairwise fun x y => nlt x.Name y.Name
/-! ### Checks of properties -/
/-! ### Equal rows -/
theorem cEqual_self {l : List api_Cell} (hl : (l.length : Int) ≤ 9223372036854775807) : slices_Equal_api_Cell_api_Cell l l = some true := by
  unfold slices_Equal_api_Cell_api_Cell
  simp only [decide_true, Bool.not_true, cond_false]
  rw [range_loop (l := l) (fun _ _ => none) (.inl ()) hl]
  · have : ∀ (k : Nat) (m : List api_Cell), scan (fun (_ : Nat) (_ : api_Cell) => (none : Option (Unit ⊕ Unit))) k m = none := fun k m => scan_none.2 fun _ _ _ => rfl
    rw [this]; rfl
  · intro i hi
    unfold slices_Equal_api_Cell_api_Cell_x1
    have hc : (i : Int) < l.length := by omega
    simp only [hc, decide_true, cond_true, at_nat hi, Option.bind_some, beq_self_eq_true, Bool.and_self, Bool.and_true]
    rfl
  · unfold slices_Equal_api_Cell_api_Cell_x1; simp
end Go.Eng

/-
What is left of a sorted row, each key once.
-/
namespace Go.Eng
open Go
set_option linter.unusedVariables false
set_option linter.unusedSimpArgs false
section
variable {α : Type}
theorem gCom_key {P : α → Prop} {t : α → α → Option Bool} {kf : α → Int} (ht : ∀ x y, P x → P y → ∃ b, t x y = some b ∧ (b = true ↔ kf x = kf y)) {z : α} {l : List α} (hl : l.length ≤ 100000) (hp : All P l)
    (hs : ∀ p q (hpq : p < q) (hq : q < l.length), kf (l[p]'(by omega)) ≤ kf l[q]) : Ok (gCom t z l) (fun r => r.length ≤ l.length ∧ All P r ∧ r.Pairwise (fun x y => kf x < kf y)) := by
  unfold gCom
  have small : ∀ k, (k ≤ l.length) → (∀ q (hq : q + 1 < k) (hk : k ≤ l.length), kf (l[q + 1]'(by omega)) ≠ kf (l[q]'(by omega))) → (l.take k).Pairwise (fun x y => kf x < kf y) := by
    intro k hkl hne
    rw [List.pairwise_iff_getElem]
    intro i j hi hj hij
    simp only [List.getElem_take]
    have hjl : j < l.length := by simp at hj; omega
    have hjk : j < k := by simp at hj; omega
    have h1 : kf (l[i]'(by omega)) ≤ kf (l[j - 1]'(by omega)) := by
      by_cases e : i = j - 1
      · subst e; exact Int.le_refl _
      · exact hs i (j - 1) (by omega) (by omega)
    have h2 := hs (j - 1) j (by omega) hjl
    have h3 : kf (l[j - 1]'(by omega)) ≠ kf l[j] := by
      intro e
      have := hne (j - 1) (by omega) hkl
      apply this
      have e3 : j - 1 + 1 = j := by omega
      simp only [e3]
      exact e.symm
    omega
  refine .cond (fun hc => .some ⟨Nat.le_refl _, hp, ?_⟩) (fun hc => ?_)
  · have hc := of_decide_eq_true hc
    match l, hc with
    | [], _ => simp
    | [x], _ => simp
    | x :: y :: m, hc => simp at hc; omega
  have hl2 : (2 : Int) ≤ l.length := by simpa using hc
  refine Ok.bind (P := fun x => match x with | .inl _ => l.Pairwise (fun x y => kf x < kf y) | .inr r => r.length ≤ l.length ∧ All P r ∧ r.Pairwise (fun x y => kf x < kf y)) ?_ (fun x hx => ?_)
  · refine loop_ok (fun k : Int => ∃ n : Nat, k = (n : Int) ∧ 1 ≤ n ∧ n ≤ l.length ∧ ∀ q (hq : q + 1 < n) (hk : n ≤ l.length), kf (l[q + 1]'(by omega)) ≠ kf (l[q]'(by omega))) (fun k => ((l.length : Int) - k).toNat) ?_ ⟨1, rfl, by omega, by omega, fun q hq => by omega⟩
    rintro k ⟨n, rfl, n1, n2, n3⟩
    unfold gC1
    by_cases hk' : n < l.length
    · have hki : (n : Int) < l.length := by omega
      have w1 : IntKind.wrap .i64 ((n : Int) - 1) = ((n - 1 : Nat) : Int) := by rw [wrap64 (by omega) (by omega)]; omega
      have w2 : IntKind.wrap .i64 ((n : Int) + 1) = ((n + 1 : Nat) : Int) := by rw [wrap64 (by omega) (by omega)]; omega
      obtain ⟨b, hb, hbe⟩ := ht l[n] (l[n - 1]'(by omega)) (hp _ (List.getElem_mem hk')) (hp _ (List.getElem_mem (show n - 1 < l.length by omega)))
      simp only [hki, decide_true, cond_true, w1, at_nat hk', at_nat (show n - 1 < l.length by omega), hb, Option.bind_some]
      cases b with
      | false =>
        simp only [cond_false, w2]
        refine .some ⟨⟨n + 1, rfl, by omega, by omega, fun q hq hk => ?_⟩, by omega⟩
        by_cases e : q + 1 = n
        · subst e
          intro he
          have : (false : Bool) = true := hbe.2 he
          cases this
        · exact n3 q (by omega) n2
      | true =>
        have heq : kf l[n] = kf (l[n - 1]'(by omega)) := hbe.1 rfl
        simp only [cond_true]
        refine .gd (by simp; omega) ?_
        have hkn : (((l.length : Int).toNat - (n : Int).toNat : Nat) : Int) = l.length - n := by omega
        refine Ok.bind (P := fun q : List α × Int => q.1.length = l.length ∧ ∃ i : Nat, q.2 = (i : Int) ∧ i ≤ l.length ∧ All P q.1 ∧ (q.1.take i).Pairwise (fun x y => kf x < kf y)) ?_ (fun ⟨l7, k9⟩ ⟨q1, i, q2, q3, q4, q5⟩ => ?_)
        · refine loop_ok (fun q : List α × Int × Int => q.1.length = l.length ∧ All P q.1 ∧ ∃ i j : Nat, q.2.1 = (i : Int) ∧ q.2.2 = (j : Int) ∧ 1 ≤ j ∧ n + j ≤ l.length ∧ 1 ≤ i ∧ i ≤ n + j - 1 ∧ q.1.drop (n + j - 1) = l.drop (n + j - 1) ∧
            (q.1.take i).Pairwise (fun x y => kf x < kf y) ∧ ∀ (h1 : i - 1 < q.1.length) (h2 : n + j - 1 < l.length), kf q.1[i - 1] = kf l[n + j - 1]) (fun q => ((l.length : Int) - q.2.2).toNat) ?_
            ⟨rfl, hp, n, 1, rfl, rfl, by omega, by omega, by omega, by omega, rfl, small n n2 n3, fun h1 h2 => by simp only [Nat.add_sub_cancel]; exact heq.symm⟩
          rintro ⟨m, i', j'⟩ ⟨m1, m2, i, j, rfl, rfl, j1, j2, i1, i2, d1, d2, d3⟩
          simp only at m1 m2 d1 d2 d3
          unfold gC2
          rw [hkn]
          refine .cond (fun hj => ?_) (fun hj => .some ⟨m1, i, rfl, by omega, m2, d2⟩)
          have hj : (j : Int) < l.length - n := by simpa using hj
          have w3 : IntKind.wrap .i64 ((j : Int) - 1) = ((j - 1 : Nat) : Int) := by rw [wrap64 (by omega) (by omega)]; omega
          have w4 : IntKind.wrap .i64 ((i : Int) + 1) = ((i + 1 : Nat) : Int) := by rw [wrap64 (by omega) (by omega)]; omega
          have w5 : IntKind.wrap .i64 ((j : Int) + 1) = ((j + 1 : Nat) : Int) := by rw [wrap64 (by omega) (by omega)]; omega
          have a1 : m[n + j]'(by omega) = l[n + j]'(by omega) := by
            have h := congrArg (fun x => x[1]?) d1
            simp only [List.getElem?_drop] at h
            rw [show n + j - 1 + 1 = n + j by omega, List.getElem?_eq_getElem (by omega), List.getElem?_eq_getElem (by omega)] at h
            exact Option.some.inj h
          have a2 : m[n + j - 1]'(by omega) = l[n + j - 1]'(by omega) := by
            have h := congrArg (fun x => x[0]?) d1
            simp only [List.getElem?_drop] at h
            rw [show n + j - 1 + 0 = n + j - 1 by omega, List.getElem?_eq_getElem (by omega), List.getElem?_eq_getElem (by omega)] at h
            exact Option.some.inj h
          have hx := hp _ (List.getElem_mem (show n + j < l.length by omega))
          have hy := hp _ (List.getElem_mem (show n + j - 1 < l.length by omega))
          obtain ⟨b, hb, hbe⟩ := ht (l[n + j]'(by omega)) (l[n + j - 1]'(by omega)) hx hy
          refine Ok.bind (P := fun q : List α × Int => q.1.length = l.length ∧ All P q.1 ∧ ∃ i : Nat, q.2 = (i : Int) ∧ 1 ≤ i ∧ i ≤ n + j ∧ q.1.drop (n + j) = l.drop (n + j) ∧ (q.1.take i).Pairwise (fun x y => kf x < kf y) ∧ ∀ (h1 : i - 1 < q.1.length) (h2 : n + j < l.length), kf q.1[i - 1] = kf l[n + j]) ?_ (fun ⟨m', i''⟩ ⟨g1, g2, i3, g3, g4, g5, g6, g7, g8⟩ => ?_)
          · unfold gC3
            rw [w3]
            refine .gd (by simp; omega) ?_
            have e1 : (n : Int) + (j : Int) = ((n + j : Nat) : Int) := by omega
            have e2 : (n : Int) + ((j - 1 : Nat) : Int) = ((n + j - 1 : Nat) : Int) := by omega
            rw [e1, at_nat (show n + j < m.length by omega)]
            simp only [Option.bind_some]
            refine .gd (by simp; omega) ?_
            rw [e2, at_nat (show n + j - 1 < m.length by omega), at_nat (show i < m.length by omega)]
            simp only [Option.bind_some, a1, a2, hb, w4, Int.toNat_natCast]
            have hdrop : m.drop (n + j) = l.drop (n + j) := by
              have h := congrArg (List.drop 1) d1
              rw [List.drop_drop, List.drop_drop, show n + j - 1 + 1 = n + j by omega] at h
              exact h
            cases b with
            | true =>
              have he : kf (l[n + j]'(by omega)) = kf (l[n + j - 1]'(by omega)) := hbe.1 rfl
              refine .some ⟨m1, m2, i, rfl, i1, by omega, hdrop, d2, fun h1 h2 => ?_⟩
              rw [d3 h1 (by omega)]; exact he.symm
            | false =>
              have hne : kf (l[n + j]'(by omega)) ≠ kf (l[n + j - 1]'(by omega)) := fun e => by have := hbe.2 e; cases this
              refine .some ⟨by simp [m1], m2.set hx, i + 1, rfl, by omega, by omega, ?_, ?_, fun h1 h2 => ?_⟩
              · simp only
                rw [List.drop_set_of_lt (by omega)]; exact hdrop
              · simp only
                rw [List.take_succ_eq_append_getElem (by simp; omega), List.take_set_of_le (by omega)]
                simp only [List.getElem_set_self]
                rw [List.pairwise_append]
                refine ⟨d2, by simp, fun x hx' y hy' => ?_⟩
                rw [List.mem_singleton] at hy'
                subst hy'
                have hlast := d3 (by omega) (by omega)
                have hle : kf x ≤ kf (l[n + j - 1]'(by omega)) := by
                  obtain ⟨p, hp', rfl⟩ := List.mem_iff_getElem.1 hx'
                  simp only [List.getElem_take]
                  rw [← hlast]
                  have hpi : p < i := by simp at hp'; omega
                  by_cases e : p = i - 1
                  · subst e; exact Int.le_refl _
                  · have := (List.pairwise_iff_getElem.1 d2) p (i - 1) hp' (by simp; omega) (by omega)
                    simp only [List.getElem_take] at this
                    omega
                have hlt : kf (l[n + j - 1]'(by omega)) < kf (l[n + j]'(by omega)) := by
                  have h1 := hs (n + j - 1) (n + j) (by omega) (by omega)
                  by_cases e : kf (l[n + j - 1]'(by omega)) = kf (l[n + j]'(by omega))
                  · exact absurd e.symm hne
                  · omega
                omega
              · simp
          · simp only at g1 g2 g3 g6 g7 g8
            subst g3
            rw [w5]
            refine .some ⟨⟨g1, g2, i3, j + 1, rfl, rfl, by omega, by omega, g4, by omega, ?_, g7, fun h1 h2 => ?_⟩, by simp only; omega⟩
            · simp only
              rw [show n + (j + 1) - 1 = n + j by omega]; exact g6
            · simp only
              have := g8 h1 (by omega)
              rw [this]
              congr 1
        · simp only at q1 q2 q4 q5
          subst q2
          refine .gd (by simp; omega) (.gd ?_ ?_)
          · simp only [Bool.and_eq_true, decide_eq_true_eq]
            refine ⟨by omega, ?_⟩
            simp only [List.length_append, List.length_take, List.length_replicate, List.length_drop, Int.toNat_natCast]
            omega
          · rw [take_part (by simp; omega)]
            refine .some ⟨?_, fun x hx => q4 x (List.mem_of_mem_take hx), by simpa using q5⟩
            simp only [List.length_take]; omega
    · have hki : ¬ (n : Int) < l.length := by omega
      simp only [hki, decide_false, cond_false]
      refine .some ?_
      have := small l.length (Nat.le_refl _) (fun q hq hk => n3 q (by omega) n2)
      rwa [List.take_length] at this
  · cases x with
    | inl _ => exact .some ⟨Nat.le_refl _, hp, hx⟩
    | inr r => exact .some hx
end
end Go.Eng

/-
The streams.
-/
namespace Go.Eng
open Go
set_option linter.unusedVariables false
set_option linter.unusedSimpArgs false

theorem wrap_I64 (n : Int) : I64 (IntKind.wrap .i64 n) := by
  unfold IntKind.wrap I64
  simp [IntKind.bits, IntKind.signed]
  split <;> omega

theorem Below_eq {x n : Int} (hx : I64 x) (hn : I64 n) : fleetmake_Below x n = some (if n < 1 then 0 else x % n) := by
  unfold I64 at hx hn
  unfold fleetmake_Below fleetmake_Below_x1
  by_cases h : n < 1
  · simp [h]
  · have h0 : (n == 0) = false := by simp; omega
    have e := Int.emod_eq_tmod (a := x) (b := n)
    have nn := Int.emod_nonneg x (show n ≠ 0 by omega)
    have lt := Int.emod_lt_of_pos x (show 0 < n by omega)
    simp only [h, decide_false, cond_false, h0, Bool.not_false, gd, cond_true, Option.bind_some, if_false]
    by_cases h3 : x.tmod n < 0
    · simp only [h3, decide_true, cond_true, Option.bind_some]
      split at e
      · omega
      · rw [wrap64 (by omega) (by omega)]
        congr 1
        omega
    · simp only [h3, decide_false, cond_false, Option.bind_some]
      congr 1
      split at e <;> omega
theorem Below_ok {x n : Int} (hx : I64 x) (hn : I64 n) : Ok (fleetmake_Below x n) (fun r => (1 ≤ n → 0 ≤ r ∧ r < n) ∧ (n < 1 → r = 0)) := by
  refine .of_eq (Below_eq hx hn) ⟨fun h => ?_, fun h => by simp [h]⟩
  rw [if_neg (by omega)]
  exact ⟨Int.emod_nonneg _ (by omega), Int.emod_lt_of_pos _ (by omega)⟩

/-- A stream whose numbers are of 64 bits, of which at most k were taken. -/
def StrOk (k : Nat) (s : fleetmake_Stream) : Prop := 0 ≤ s.at_ ∧ s.at_ ≤ k ∧ s.L.length ≤ 9223372036854775807 ∧ ∀ n ∈ s.L, I64 n
theorem StrOk.mono {k k' : Nat} {s : fleetmake_Stream} (h : StrOk k s) (hk : k ≤ k') : StrOk k' s := ⟨h.1, by have := h.2.1; omega, h.2.2⟩
/-- One number further. -/
abbrev nxt (s : fleetmake_Stream) : fleetmake_Stream := fleetmake_Stream.mk s.L (IntKind.wrap .i64 (s.at_ + 1))
theorem StrOk.nxt {k : Nat} {s : fleetmake_Stream} (h : StrOk k s) (hk : k < 1099511627776) : StrOk (k + 1) (nxt s) := by
  obtain ⟨h1, h2, h3, h4⟩ := h
  refine ⟨?_, ?_, h3, h4⟩
  · show 0 ≤ IntKind.wrap .i64 (s.at_ + 1)
    rw [wrap64 (by omega) (by omega)]; omega
  · show IntKind.wrap .i64 (s.at_ + 1) ≤ _
    rw [wrap64 (by omega) (by omega)]; omega

theorem Next_ok {k : Nat} {s : fleetmake_Stream} {n : Int} (h : StrOk k s) (hk : k < 1099511627776) (hn : I64 n) : Ok (fleetmake_Stream_Next s n) (fun r => (1 ≤ n → 0 ≤ r ∧ r < n) ∧ (n < 1 → r = 0)) := by
  obtain ⟨h1, h2, h3, h4⟩ := h
  unfold fleetmake_Stream_Next
  refine .cond (fun _ => ?_) (fun hl => ?_)
  · exact (Below_ok (wrap_I64 _) hn).bind fun r hr => .some hr
  · have hl' : s.L.length ≠ 0 := by simpa using hl
    have e1 : IntKind.wrap .i64 (s.at_ + 1) = s.at_ + 1 := wrap64 (by omega) (by omega)
    have e2 : IntKind.wrap .i64 (s.at_ + 1 - 1) = s.at_ := by rw [wrap64 (by omega) (by omega)]; omega
    refine .gd (by simpa using hl') ?_
    rw [e1, e2]
    refine (at_mem (tmod_nonneg h1) (tmod_lt' (by omega))).bind fun y hy => ?_
    refine (Below_ok (h4 y hy) (by unfold I64; omega)).bind fun r1 hr1 => ?_
    exact (Below_ok (wrap_I64 _) hn).bind fun r hr => .some hr

theorem Pick_ok {k : Nat} {s : fleetmake_Stream} {l : List Int} (h : StrOk k s) (hk : k < 1099511627776) (hl : 0 < l.length) (hl2 : l.length < 1000) : Ok (fleetmake_Stream_Pick_o1 s l) (fun r => r ∈ l) := by
  unfold fleetmake_Stream_Pick_o1
  refine (Next_ok h hk (by unfold I64; omega)).bind fun r hr => ?_
  have := hr.1 (by omega)
  exact (at_mem this.1 this.2).bind fun y hy => .some hy
theorem Some_ok {k : Nat} {s : fleetmake_Stream} {l : List (List UInt8)} (h : StrOk k s) (hk : k < 1099511627776) (hl : 0 < l.length) (hl2 : l.length < 1000) : Ok (fleetmake_Stream_Some_o1 s l) (fun r => r ∈ l) := by
  unfold fleetmake_Stream_Some_o1
  refine (Next_ok h hk (by unfold I64; omega)).bind fun r hr => ?_
  have := hr.1 (by omega)
  exact (at_mem this.1 this.2).bind fun y hy => .some hy
theorem Flip_ok {k : Nat} {s : fleetmake_Stream} {n : Int} (h : StrOk k s) (hk : k < 1099511627776) (hn : I64 n) : Ok (fleetmake_Stream_Flip s n) (fun _ => True) := by
  unfold fleetmake_Stream_Flip
  exact (Next_ok h hk hn).bind fun r hr => .some trivial
theorem Range_ok {k : Nat} {s : fleetmake_Stream} {low high : Int} (h : StrOk k s) (hk : k < 1099511627776) (hlow : -4611686018427387903 < low ∧ low < 4611686018427387904) (hh : -4611686018427387904 < high ∧ high < 4611686018427387903) :
    Ok (fleetmake_Stream_Range s low high) (fun r => StrOk (k + 1) r.1 ∧ low ≤ r.2 ∧ (low ≤ high → r.2 ≤ high) ∧ (high < low → r.2 = low)) := by
  unfold fleetmake_Stream_Range
  refine .cond (fun hc => ?_) (fun hc => ?_)
  · have hc' : high < low := by simpa using hc
    exact .some ⟨h.mono (by omega), Int.le_refl _, by intro h; omega, fun _ => rfl⟩
  · have hc' : ¬ high < low := by simpa using hc
    have e1 : IntKind.wrap .i64 (high - low) = high - low := wrap64 (by omega) (by omega)
    have e2 : IntKind.wrap .i64 (high - low + 1) = high - low + 1 := wrap64 (by omega) (by omega)
    rw [e1, e2]
    refine (Next_ok h hk (by unfold I64; omega)).bind fun r hr => ?_
    have := hr.1 (by omega)
    refine .some ⟨h.nxt hk, ?_, fun _ => ?_, fun h => by omega⟩
    · show low ≤ IntKind.wrap .i64 (low + r)
      rw [wrap64 (by omega) (by omega)]; omega
    · show IntKind.wrap .i64 (low + r) ≤ high
      rw [wrap64 (by omega) (by omega)]; omega
end Go.Eng

/-
The law CellsInAnyOrder: cells that streams make; cells that are merged in any order.
-/
namespace Go.Eng
open Go
set_option linter.unusedVariables false
set_option linter.unusedSimpArgs false

/-! ### Cells that streams make -/
noncomputable def cmpC (x y : api_Cell) : Option Int := some (Lib.compareBytes (nm x) (nm y))
def zC : api_Cell := api_Cell.mk (api_Prop.mk [] (api_Value.mk 0 false 0 [])) (api_Stamp.mk 0 [] 0)
theorem sortC_eq : slices_SortStableFunc_api_Cell_api_Cell_o0_f1_fleetmake_cellOrder = gSort cmpC := by kernel_rfl
theorem comC_eq : slices_CompactFunc_api_Cell_api_Cell_o0_f1_fleetmake_Stream_RightCells_1 = gCom (fun a b => some (decide (nm a = nm b))) zC := by kernel_rfl
theorem gSort_ord {α : Type} {P : α → Prop} {f : α → α → Int} {c : α → α → Option Int} (hc : ∀ x y, P x → P y → c x y = some (f x y)) (anti : ∀ x y, f y x = - f x y) (tr : ∀ x y z, f x y ≤ 0 → f y z ≤ 0 → f x z ≤ 0)
    {l : List α} (hl : l.length < 20) (hP : All P l) : Ok (gSort c l) (fun r => r.length = l.length ∧ All P r ∧ Ord f r l.length) := by
  obtain ⟨r, h1, h2, h3, h4⟩ := gI_ord hc anti tr (l := l) (by omega) hP
  have e1 : loopO (gS1 c (l.length : Int)) (l, 0, 20) = some (l, 0) := by
    have : ¬ (20 : Int) ≤ l.length := by omega
    exact loop_out (by simp [gS1, this])
  have e2 : loopO (gS2 (l.length : Int)) 20 = some () := by
    have : ¬ (20 : Int) < l.length := by omega
    exact loop_out (by simp [gS2, this])
  refine ⟨r, ?_, h2, h3, h4⟩
  unfold gSort gS
  simp only [e1, Option.bind_some, h1, h2, beq_self_eq_true, gd, e2, cond_true]

def nm7 : List (List UInt8) := [[97], [97, 46, 120], [97, 46, 121], [97, 46, 120, 46, 112], [98], [98, 46, 122], [97, 98]]
def rk (n : List UInt8) : Int := if n = [97] then 0 else if n = [97, 46, 120] then 1 else if n = [97, 46, 120, 46, 112] then 2 else if n = [97, 46, 121] then 3 else if n = [97, 98] then 4 else if n = [98] then 5 else 6
theorem rk_all : (nm7.all fun x => nm7.all fun y => (decide (Lib.compareBytes x y ≤ 0) == decide (rk x ≤ rk y)) && (decide (Lib.compareBytes x y < 0) == decide (rk x < rk y)) && (decide (rk x = rk y) == decide (x = y))) = true := by decide
theorem rk_spec {x y : List UInt8} (hx : x ∈ nm7) (hy : y ∈ nm7) : (Lib.compareBytes x y ≤ 0 ↔ rk x ≤ rk y) ∧ (nlt x y ↔ rk x < rk y) ∧ (rk x = rk y ↔ x = y) := by
  have := List.all_eq_true.1 (List.all_eq_true.1 rk_all x hx) y hy
  simp only [Bool.and_eq_true, beq_iff_eq, decide_eq_decide] at this
  exact ⟨this.1.1, this.1.2, this.2⟩
theorem nm7_ok : (nm7.all fun n => decide (twin_isName n = some true)) = true := by kernel_rfl
theorem nm7_len : (nm7.all fun n => decide (n.length ≤ 10)) = true := by decide
def RS (s : api_Stamp) : Prop := (0 ≤ s.At ∧ s.At ≤ 200) ∧ (s.By = [104] ∨ s.By = [107] ∨ s.By = [100]) ∧ (0 ≤ s.No ∧ s.No ≤ 1)
theorem keyH : base_Key [104] = some true := by kernel_rfl
theorem keyK : base_Key [107] = some true := by kernel_rfl
theorem keyD : base_Key [100] = some true := by kernel_rfl
theorem RS_ok {s : api_Stamp} (h : RS s) : twin_stampFault s = some 0 := by
  obtain ⟨h1, h2, h3⟩ := h
  unfold twin_stampFault
  have hk : base_Key s.By = some true := by
    rcases h2 with h | h | h <;> rw [h]
    · exact keyH
    · exact keyK
    · exact keyD
  have m1 : (decide (0 ≤ s.At) && decide (s.At ≤ 345686399999)) = true := by simp; omega
  have m2 : (decide (s.No < 0) || decide (1000000000 < s.No)) = false := by simp; omega
  simp only [Moment_eq, Out_eq, hk, m1, m2, Option.bind_some, Bool.not_true, cond_false]
/-- right cells -/
def RC (c : api_Cell) : Prop := nm c ∈ nm7 ∧ twin_valueFault c.Prop_.Value = some 0 ∧ RS c.Stamp
theorem RC.gc {c : api_Cell} (h : RC c) : GC c := by
  refine ⟨?_, h.2.1, RS_ok h.2.2⟩
  have := List.all_eq_true.1 nm7_ok _ h.1
  exact of_decide_eq_true this
theorem RC.len {c : api_Cell} (h : RC c) : ((nm c).length : Int) ≤ 9223372036854775807 := by
  have := of_decide_eq_true (List.all_eq_true.1 nm7_len _ h.1)
  omega
theorem nxt_mk {k : Nat} {s : fleetmake_Stream} (h : StrOk k s) (hk : k < 1099511627776) : StrOk (k + 1) (fleetmake_Stream.mk s.L (IntKind.wrap .i64 (s.at_ + 1))) := h.nxt hk
theorem RightStamp_ok {k : Nat} {s : fleetmake_Stream} (h : StrOk k s) (hk : k + 10 < 1099511627776) : Ok (fleetmake_Stream_RightStamp s) (fun r => StrOk (k + 3) r.1 ∧ RS r.2 ∧ r.2.At ≤ 9 ∧ r.2.By ≠ [100]) := by
  unfold fleetmake_Stream_RightStamp
  refine (Range_ok h (by omega) (by omega) (by omega)).bind fun ⟨s1, n⟩ ⟨r1, r2, r3, _⟩ => ?_
  simp only at r1 r2 r3
  have r3 := r3 (by omega)
  refine (Some_ok r1 (by omega) (by simp) (by simp)).bind fun w hw => ?_
  have h2 := nxt_mk r1 (by omega)
  refine (Pick_ok h2 (by omega) (by simp) (by simp)).bind fun m hm => ?_
  have h3 := nxt_mk h2 (by omega)
  refine .some ⟨h3, ⟨⟨r2, by simp only; omega⟩, ?_, ?_⟩, r3, ?_⟩
  · simp at hw; rcases hw with rfl | rfl <;> simp
  · simp at hm; rcases hm with rfl | rfl <;> simp
  · simp at hw; rcases hw with rfl | rfl <;> simp
/-! ### In any order -/
end Go.Eng

/-
The law CompactStays: what nobody needs any more is left out; what is visible stays, also after a merge with what comes later.
-/
namespace Go.Eng
open Go
set_option linter.unusedVariables false
set_option linter.unusedSimpArgs false

/-! ### Compact -/
def oldB (n : Int) (c : api_Cell) : Bool := decide (c.Stamp.At < n)
theorem hidden12_eq (x y : api_Cell) (n : Int) : twin_hidden_1_2 x y n = some (hidesB x y && oldB n x) := by
  unfold twin_hidden_1_2 twin_hidden_1_2_x1
  have : twin_hides (api_Cell.mk (api_Prop.mk x.Prop_.Name (api_Value.mk x.Prop_.Value.Kind x.Prop_.Value.Flag x.Prop_.Value.Number x.Prop_.Value.Words)) (api_Stamp.mk x.Stamp.At x.Stamp.By x.Stamp.No)) (api_Cell.mk (api_Prop.mk y.Prop_.Name (api_Value.mk y.Prop_.Value.Kind y.Prop_.Value.Flag y.Prop_.Value.Number y.Prop_.Value.Words)) (api_Stamp.mk y.Stamp.At y.Stamp.By y.Stamp.No)) = some (hidesB x y) := hides_eq x y
  rw [this]
  unfold oldB
  cases hidesB x y <;> rfl
theorem hiddenC_eq (l : List api_Cell) (y : api_Cell) (n : Int) (hl : (l.length : Int) ≤ 9223372036854775807) : twin_hidden_f2_twin_Compact_1 l y n = some (l.any fun x => hidesB x y && oldB n x) := by
  show ((slices_ContainsFunc_api_Cell_api_Cell_f1_twin_hidden_1_2 l y n).bind fun vr => some vr) = _
  have h0 : slices_ContainsFunc_api_Cell_api_Cell_f1_twin_hidden_1_2 l y n = ((slices_IndexFunc_api_Cell_api_Cell_f1_twin_hidden_1_2 l y n).bind fun vr2 => some (decide (0 ≤ vr2))) := rfl
  rw [h0]
  unfold slices_IndexFunc_api_Cell_api_Cell_f1_twin_hidden_1_2
  obtain ⟨x, h1, h2⟩ := find_loop (l := l) (f := slices_IndexFunc_api_Cell_api_Cell_f1_twin_hidden_1_2_x1 l y n) (fun x => hidesB x y && oldB n x) hl (fun i h => by
    unfold slices_IndexFunc_api_Cell_api_Cell_f1_twin_hidden_1_2_x1
    have hc : (i : Int) < l.length := by omega
    simp only [hc, decide_true, cond_true, at_nat h, Option.bind_some]
    have : twin_hidden_1_2 (api_Cell.mk (api_Prop.mk l[i].Prop_.Name (api_Value.mk l[i].Prop_.Value.Kind l[i].Prop_.Value.Flag l[i].Prop_.Value.Number l[i].Prop_.Value.Words)) (api_Stamp.mk l[i].Stamp.At l[i].Stamp.By l[i].Stamp.No)) (api_Cell.mk (api_Prop.mk y.Prop_.Name (api_Value.mk y.Prop_.Value.Kind y.Prop_.Value.Flag y.Prop_.Value.Number y.Prop_.Value.Words)) (api_Stamp.mk y.Stamp.At y.Stamp.By y.Stamp.No)) n = some (hidesB l[i] y && oldB n l[i]) := hidden12_eq l[i] y n
    rw [this]
    cases hidesB l[i] y && oldB n l[i] <;> rfl) (by unfold slices_IndexFunc_api_Cell_api_Cell_f1_twin_hidden_1_2_x1; simp)
  rw [h1, ← h2]
  cases x <;> rfl
theorem belowC_eq (l : List api_Cell) (y : api_Cell) (hl : (l.length : Int) ≤ 9223372036854775807) : slices_ContainsFunc_api_Cell_api_Cell_f1_twin_Compact_2 l y = some (l.any fun x => belB (nm x) (nm y)) := by
  have h0 : slices_ContainsFunc_api_Cell_api_Cell_f1_twin_Compact_2 l y = ((slices_IndexFunc_api_Cell_api_Cell_f1_twin_Compact_2 l y).bind fun vr2 => some (decide (0 ≤ vr2))) := rfl
  rw [h0]
  unfold slices_IndexFunc_api_Cell_api_Cell_f1_twin_Compact_2
  obtain ⟨x, h1, h2⟩ := find_loop (l := l) (f := slices_IndexFunc_api_Cell_api_Cell_f1_twin_Compact_2_x1 l y) (fun x => belB (nm x) (nm y)) hl (fun i h => by
    unfold slices_IndexFunc_api_Cell_api_Cell_f1_twin_Compact_2_x1 twin_Compact_2
    have hc : (i : Int) < l.length := by omega
    simp only [hc, decide_true, cond_true, at_nat h, Option.bind_some, Below_is]
    cases belB (nm l[i]) (nm y) <;> rfl) (by unfold slices_IndexFunc_api_Cell_api_Cell_f1_twin_Compact_2_x1; simp)
  rw [h1, ← h2]
  cases x <;> rfl
def leftL (n : Int) (l : List api_Cell) : List api_Cell := l.filter fun c => !(l.any fun x => hidesB x c && oldB n x)
def outB (n : Int) (l : List api_Cell) (c : api_Cell) : Bool := !decide (c.Prop_.Value.Kind = 0) || (!oldB n c || l.any fun x => belB (nm x) (nm c))
def cpt (n : Int) (l : List api_Cell) : List api_Cell := (leftL n l).filter (outB n (leftL n l))
theorem left_eq {l : List api_Cell} (hl : l.length ≤ 10000) (n : Int) : loopO (twin_Compact_x1 l n) ([], 0) = some (leftL n l) := by
  have := fold_loop0 (l := l) (f := twin_Compact_x1 l n) (fun (s : List api_Cell) i => (s, i)) (fun s c => bif !(l.any fun x => hidesB x c && oldB n x) then s ++ [c] else s) id (fun i s => s.length ≤ i) (s0 := []) (by omega)
    (fun i hi s hs => by
      have hc : (i : Int) < l.length := by omega
      have h2 : twin_hidden_f2_twin_Compact_1 l (api_Cell.mk (api_Prop.mk l[i].Prop_.Name (api_Value.mk l[i].Prop_.Value.Kind l[i].Prop_.Value.Flag l[i].Prop_.Value.Number l[i].Prop_.Value.Words)) (api_Stamp.mk l[i].Stamp.At l[i].Stamp.By l[i].Stamp.No)) n = some (l.any fun x => hidesB x l[i] && oldB n x) := hiddenC_eq l l[i] n (by omega)
      refine ⟨?_, ?_⟩
      · unfold twin_Compact_x1 twin_Compact_x2
        simp only [hc, decide_true, cond_true, at_nat hi, Option.bind_some, h2]
        cases (l.any fun x => hidesB x l[i] && oldB n x) with
        | true => rfl
        | false =>
          simp only [Bool.not_false, cond_true, gd]
          rw [lim_ok (by simp; omega)]
          rfl
      · cases (l.any fun x => hidesB x l[i] && oldB n x) <;> simp <;> omega)
    (fun s _ => by unfold twin_Compact_x1; simp) (by simp)
  rw [this.1]
  rw [foldl_filter (fun c => !(l.any fun x => hidesB x c && oldB n x)) (fun c => c)]
  simp [leftL]
theorem out_eq {l : List api_Cell} (hl : l.length ≤ 10000) (n : Int) : loopO (twin_Compact_x3 n l) ([], 0) = some (l.filter (outB n l)) := by
  have := fold_loop0 (l := l) (f := twin_Compact_x3 n l) (fun (s : List api_Cell) i => (s, i)) (fun s c => bif outB n l c then s ++ [c] else s) id (fun i s => s.length ≤ i) (s0 := []) (by omega)
    (fun i hi s hs => by
      have hc : (i : Int) < l.length := by omega
      have h2 : slices_ContainsFunc_api_Cell_api_Cell_f1_twin_Compact_2 l (api_Cell.mk (api_Prop.mk l[i].Prop_.Name (api_Value.mk l[i].Prop_.Value.Kind l[i].Prop_.Value.Flag l[i].Prop_.Value.Number l[i].Prop_.Value.Words)) (api_Stamp.mk l[i].Stamp.At l[i].Stamp.By l[i].Stamp.No)) = some (l.any fun x => belB (nm x) (nm l[i])) := belowC_eq l l[i] (by omega)
      have hx5 : twin_Compact_x5 n l l[i] = some (outB n l l[i]) := by
        unfold twin_Compact_x5 outB oldB
        rw [h2]
        cases decide (l[i].Prop_.Value.Kind = 0) with
        | false => rfl
        | true =>
          simp only [Bool.not_true, cond_false, Bool.false_or, twin_Compact_1, Option.bind_some]
          cases decide (l[i].Stamp.At < n) <;> rfl
      refine ⟨?_, ?_⟩
      · unfold twin_Compact_x3 twin_Compact_x4
        simp only [hc, decide_true, cond_true, at_nat hi, Option.bind_some, hx5]
        cases outB n l l[i] with
        | false => rfl
        | true =>
          simp only [cond_true, gd]
          rw [lim_ok (by simp; omega)]
          rfl
      · cases outB n l l[i] <;> simp <;> omega)
    (fun s _ => by unfold twin_Compact_x3; simp) (by simp)
  rw [this.1]
  rw [foldl_filter (outB n l) (fun c => c)]
  simp
theorem left_len (n : Int) (l : List api_Cell) : (leftL n l).length ≤ l.length := List.length_filter_le _ _
theorem cpt_len (n : Int) (l : List api_Cell) : (cpt n l).length ≤ l.length := Nat.le_trans (List.length_filter_le _ _) (left_len n l)
theorem Compact_eq {l : List api_Cell} (h : ∀ c ∈ l, GC c) (hs : Srt l) (hl : l.length ≤ 500) {n : Int} (hn : 0 ≤ n ∧ n ≤ 345686400000) : twin_Compact l n = some (cpt n l, 0) := by
  unfold twin_Compact
  have m2 : (decide (n < 0) || decide (345686400000 < n)) = false := by simp; omega
  have := left_len n l
  simp only [check_ok h hs hl, Option.bind_some, decide_true, Bool.not_true, cond_false, Out_eq, m2, left_eq (show l.length ≤ 10000 by omega), out_eq (show (leftL n l).length ≤ 10000 by omega)]
  rfl

/-! ### What is left -/
theorem mem_left {n : Int} {l : List api_Cell} {c : api_Cell} : c ∈ leftL n l ↔ c ∈ l ∧ ∀ x ∈ l, hidesB x c = true → ¬ x.Stamp.At < n := by
  unfold leftL oldB
  rw [List.mem_filter]
  simp only [Bool.not_eq_true', List.any_eq_false, Bool.and_eq_true, decide_eq_true_eq, not_and]
/-! ### Equal rows of properties -/
theorem pEqual_self {l : List api_Prop} (hl : (l.length : Int) ≤ 9223372036854775807) : slices_Equal_api_Prop_api_Prop l l = some true := by
  unfold slices_Equal_api_Prop_api_Prop
  simp only [decide_true, Bool.not_true, cond_false]
  rw [range_loop (l := l) (fun _ _ => none) (.inl ()) hl]
  · have : ∀ (k : Nat) (m : List api_Prop), scan (fun (_ : Nat) (_ : api_Prop) => (none : Option (Unit ⊕ Unit))) k m = none := fun k m => scan_none.2 fun _ _ _ => rfl
    rw [this]; rfl
  · intro i hi
    unfold slices_Equal_api_Prop_api_Prop_x1
    have hc : (i : Int) < l.length := by omega
    simp only [hc, decide_true, cond_true, at_nat hi, Option.bind_some, beq_self_eq_true, Bool.and_self, Bool.and_true]
    rfl
  · unfold slices_Equal_api_Prop_api_Prop_x1; simp
/-! ### Later cells -/
end Go.Eng

/-
What is left of a sorted row, each key once, with what is found again.
-/
namespace Go.Eng
open Go
set_option linter.unusedVariables false
set_option linter.unusedSimpArgs false
section
variable {α : Type}
end
end Go.Eng

/-
Twins: names of properties, sorted, each once.
-/
namespace Go.Eng
open Go
set_option linter.unusedVariables false
set_option linter.unusedSimpArgs false

section
variable {α : Type}
end

/-! ### Sorting of strings -/
/-! ### Names -/
end Go.Eng

/-
Twins: what is owed.
-/
namespace Go.Eng
open Go
set_option linter.unusedVariables false
set_option linter.unusedSimpArgs false

/-! ### Values of names -/
/-! ### What is visible -/
theorem up_len {α : Type} (f : α → Int) : ∀ {l : List α} {lo hi : Int}, l.Pairwise (fun x y => f x < f y) → (∀ x ∈ l, lo ≤ f x ∧ f x ≤ hi) → lo ≤ hi + 1 → (l.length : Int) ≤ hi - lo + 1
  | [], lo, hi, _, _, h => by simp; omega
  | x :: l, lo, hi, hp, hb, h => by
    obtain ⟨h1, h2⟩ := List.pairwise_cons.1 hp
    have h3 := hb x (List.mem_cons_self ..)
    have := up_len f (l := l) (lo := f x + 1) (hi := hi) h2 (fun y hy => ⟨by have := h1 y hy; omega, (hb y (List.mem_cons_of_mem _ hy)).2⟩) (by omega)
    simp only [List.length_cons]
    omega
/-! ### What is gone -/
def eqV (a b : api_Value) : Bool := (decide (a.Kind = b.Kind) && ((a.Flag == b.Flag) && (decide (a.Number = b.Number) && (decide (a.Words = b.Words) && true))))
theorem eqV_iff {a b : api_Value} : eqV a b = true ↔ a = b := veq_iff
end Go.Eng

/-
Lists of properties that streams make: they are right.
-/
namespace Go.Eng
open Go
set_option linter.unusedVariables false
set_option linter.unusedSimpArgs false

/-! ### Sorting keeps what there is -/
section
variable {α : Type}
end
/-! ### Values and names -/
def rv15 : List api_Value := [api_Value.mk 1 false 0 [], api_Value.mk 1 true 0 [], api_Value.mk 3 false 0 [], api_Value.mk 3 false 0 [120], api_Value.mk 3 false 0 [97, 32, 34, 98, 34], api_Value.mk 3 false 0 [92],
  api_Value.mk 3 false 0 [195, 169], api_Value.mk 3 false 0 [45, 32, 49], api_Value.mk 2 false 1 [], api_Value.mk 2 false 2 [], api_Value.mk 2 false 3 [], api_Value.mk 2 false 0 [], api_Value.mk 2 false (-5) [], api_Value.mk 2 false 1000000000 []]
def RP (p : api_Prop) : Prop := p.Name ∈ nm7 ∧ p.Value ∈ rv15
theorem RP.len {p : api_Prop} (h : RP p) : (p.Name.length : Int) ≤ 9223372036854775807 := by
  have := of_decide_eq_true (List.all_eq_true.1 nm7_len _ h.1)
  omega
theorem RightValue_in {k : Nat} {s : fleetmake_Stream} (h : StrOk k s) (hk : k + 10 < 1099511627776) : Ok (fleetmake_Stream_RightValue s) (fun v => v ∈ rv15) := by
  unfold fleetmake_Stream_RightValue
  have h1 := nxt_mk h (by omega)
  refine (Next_ok h (by omega) (by unfold I64; omega)).bind fun n _ => .cond (fun _ => ?_) (fun _ => .cond (fun _ => ?_) (fun _ => ?_))
  · exact (Flip_ok h1 (by omega) (by unfold I64; omega)).bind fun b _ => .some (by cases b <;> simp [rv15])
  · refine (Some_ok h1 (by omega) (by simp) (by simp)).bind fun w hw => .some ?_
    simp at hw
    rcases hw with rfl | rfl | rfl | rfl | rfl | rfl <;> simp [rv15]
  · refine (Pick_ok h1 (by omega) (by simp) (by simp)).bind fun n hn => .some ?_
    simp at hn
    rcases hn with rfl | rfl | rfl | rfl | rfl | rfl | rfl <;> simp [rv15]

/-! ### The reference's check -/
def Anti (l : List api_Prop) : Prop := ∀ p ∈ l, ∀ q ∈ l, belB p.Name q.Name = false
/-! ### Right properties -/
structure GR (l : List api_Prop) : Prop where
  rp : ∀ p ∈ l, RP p
  srt : PSrt l
  anti : Anti l
def rk4 (n : List UInt8) : Int := if n = [97] then 1 else if n = [97, 46, 120] then 1 else if n = [97, 46, 120, 46, 112] then 1 else if n = [97, 46, 121] then 2 else if n = [97, 98] then 3 else 4
theorem rk4_up : (nm7.all fun n => nm7.all fun m => !decide (rk n < rk m) || (belB m n || decide (rk4 n < rk4 m))) = true := by decide
theorem rk4_range : (nm7.all fun n => decide (1 ≤ rk4 n) && decide (rk4 n ≤ 4)) = true := by decide
theorem GR.len {l : List api_Prop} (h : GR l) : l.length ≤ 4 := by
  have := up_len (fun p : api_Prop => rk4 p.Name) (l := l) (lo := 1) (hi := 4) (List.Pairwise.imp_of_mem (fun {p q} hp hq hpq => by
    have h1 := (rk_spec (h.rp p hp).1 (h.rp q hq).1).2.1.1 hpq
    have h2 := List.all_eq_true.1 (List.all_eq_true.1 rk4_up _ (h.rp p hp).1) _ (h.rp q hq).1
    simpa [h1, h.anti q hq p hp] using h2) h.srt) (fun p hp => by
    have := List.all_eq_true.1 rk4_range _ (h.rp p hp).1
    simpa using this) (by omega)
  omega
end Go.Eng

/-
Checks of properties: the code's and the reference's say the same.
-/
namespace Go.Eng
open Go
set_option linter.unusedVariables false
set_option linter.unusedSimpArgs false

/-! ### Values -/
theorem eqV_self' (v : api_Value) : eqV v v = true := eqV_iff.2 rfl
theorem eqV_comm' (x y : api_Value) : eqV x y = eqV y x := by
  cases h : eqV x y with
  | true => rw [eqV_iff.1 h, eqV_self']
  | false =>
    cases h2 : eqV y x with
    | false => rfl
    | true => rw [eqV_iff.1 h2, eqV_self'] at h; cases h
theorem in_not (n low high : Int) : fleetref2_in n low high = some (!(decide (n < low) || decide (high < n))) := by
  unfold fleetref2_in fleetref2_in_x1
  by_cases h1 : low ≤ n
  · have h2 : ¬ n < low := by omega
    by_cases h3 : n ≤ high
    · have h4 : ¬ high < n := by omega
      simp [h1, h2, h3, h4]
    · have h4 : high < n := by omega
      simp [h1, h2, h3, h4]
  · have h2 : n < low := by omega
    simp [h1, h2]
/-- what is used of a value -/
def pl (v : api_Value) : api_Value := if v.Kind = 1 then api_Value.mk v.Kind v.Flag 0 [] else if v.Kind = 2 then api_Value.mk v.Kind false v.Number [] else if v.Kind = 3 then api_Value.mk v.Kind false 0 v.Words else api_Value.mk v.Kind false 0 []
def vfI (v : api_Value) (b : Bool) : Int := bif decide (v.Kind < 0) || decide (3 < v.Kind) then 4 else bif !eqV v (pl v) then 3 else bif decide (v.Number < -1000000000) || decide (1000000000 < v.Number) then 1 else
  bif decide (1000 < (v.Words.length : Int)) then 2 else bif !b then 3 else 0
def KW (w : List UInt8) (b : Bool) : Prop := w.length ≤ 1000 → base_Unmarked w = some b ∧ fleetref2_Printed w = some b
theorem vf_own {v : api_Value} {b : Bool} (h : KW v.Words b) : twin_valueFault v = some (vfI v b) := by
  have last : (bif decide (1000 < (v.Words.length : Int)) then some 2 else (base_Unmarked v.Words).bind fun vr1 => bif !vr1 then some 3 else some 0) = some (bif decide (1000 < (v.Words.length : Int)) then 2 else bif !b then 3 else 0 : Int) := by
    by_cases hl : 1000 < (v.Words.length : Int)
    · simp [hl]
    · rw [(h (by omega)).1]
      simp only [hl, decide_false, cond_false, Option.bind_some]
      cases b <;> rfl
  have x1 : twin_valueFault_x1 v = if v.Kind < 0 ∨ 3 < v.Kind then some (.inr ()) else some (.inl (pl v)) := by
    unfold twin_valueFault_x1 pl
    by_cases k0 : v.Kind = 0
    · simp [k0]
    · by_cases k1 : v.Kind = 1
      · simp [k1]
      · by_cases k2 : v.Kind = 2
        · simp [k2]
        · by_cases k3 : v.Kind = 3
          · simp [k3]
          · have : v.Kind < 0 ∨ 3 < v.Kind := by omega
            simp [k0, k1, k2, k3, this]
  unfold twin_valueFault
  rw [x1]
  unfold vfI
  by_cases hk : v.Kind < 0 ∨ 3 < v.Kind
  · rw [if_pos hk]
    have : (decide (v.Kind < 0) || decide (3 < v.Kind)) = true := by simpa using hk
    rw [this]; rfl
  · rw [if_neg hk]
    have : (decide (v.Kind < 0) || decide (3 < v.Kind)) = false := by simpa using hk
    rw [this]
    simp only [Option.bind_some, cond_false]
    show (bif !eqV v (pl v) then some 3 else _) = _
    cases eqV v (pl v) with
    | false => rfl
    | true =>
      simp only [Bool.not_true, cond_false, Out_eq, Option.bind_some]
      cases (decide (v.Number < -1000000000) || decide (1000000000 < v.Number)) with
      | true => rfl
      | false => exact last
theorem vf_ref {v : api_Value} {b : Bool} (h : KW v.Words b) : fleetref2_ValueFault v = some (vfI v b) := by
  have last : (bif decide (1000 < (v.Words.length : Int)) then some 2 else (fleetref2_Printed v.Words).bind fun vr1 => bif !vr1 then some 3 else some 0) = some (bif decide (1000 < (v.Words.length : Int)) then 2 else bif !b then 3 else 0 : Int) := by
    by_cases hl : 1000 < (v.Words.length : Int)
    · simp [hl]
    · rw [(h (by omega)).2]
      simp only [hl, decide_false, cond_false, Option.bind_some]
      cases b <;> rfl
  have x1 : fleetref2_ValueFault_x1 v = some (pl v) := by
    unfold fleetref2_ValueFault_x1 pl
    by_cases k1 : v.Kind = 1
    · simp [k1]
    · by_cases k2 : v.Kind = 2
      · simp [k2]
      · by_cases k3 : v.Kind = 3
        · simp [k3]
        · simp [k1, k2, k3]
  unfold fleetref2_ValueFault
  rw [x1]
  unfold vfI
  simp only [in_not, Option.bind_some, Bool.not_not]
  cases (decide (v.Kind < 0) || decide (3 < v.Kind)) with
  | true => rfl
  | false =>
    simp only [cond_false]
    have e : (decide ((pl v).Kind = v.Kind) && (((pl v).Flag == v.Flag) && (decide ((pl v).Number = v.Number) && (decide ((pl v).Words = v.Words) && true)))) = eqV v (pl v) := eqV_comm' (pl v) v
    rw [e]
    cases eqV v (pl v) with
    | false => rfl
    | true =>
      simp only [Bool.not_true, cond_false]
      cases (decide (v.Number < -1000000000) || decide (1000000000 < v.Number)) with
      | true => rfl
      | false => exact last

/-! ### Names above one another -/
theorem above_is (a b : List UInt8) (hl : a.length ≤ 10000) : fleetref2_above a b = some (belB b a) := by
  unfold fleetref2_above strings_HasPrefix stringslite_HasPrefix stringslite_HasPrefix_x1
  have h0 : Nat.ble (a.length + ([46] : List UInt8).length) LIM = true := lim_ok (by simp; omega)
  rw [h0]
  simp only [gd, cond_true, Option.bind_some]
  unfold belB
  by_cases h : (((a ++ ([46] : List UInt8)).length : Nat) : Int) ≤ (b.length : Int)
  · have hsub : sub? b 0 (((a ++ ([46] : List UInt8)).length : Nat) : Int) = some (b.take (a ++ ([46] : List UInt8)).length) := by
      unfold sub?
      rw [if_pos ⟨by omega, by omega, by omega⟩]
      simp
    simp only [h, decide_true, cond_true, hsub, Option.bind_some]
    congr 1
    rw [Bool.eq_iff_iff, decide_eq_true_iff, List.isPrefixOf_iff_prefix, List.prefix_iff_eq_take, eq_comm]
  · simp only [h, decide_false, cond_false, Option.bind_some]
    congr 1
    rw [eq_comm, Bool.eq_false_iff]
    intro hp
    have := (List.isPrefixOf_iff_prefix.1 hp).length_le
    omega
/-! ### The checks -/
/-- a property of which both checks know what to say -/
def KP (p : api_Prop) : Prop := (∃ b, twin_isName p.Name = some b ∧ fleetref2_PropName p.Name = some b) ∧ (∃ b, KW p.Value.Words b) ∧ p.Name.length ≤ 10000
end Go.Eng

/-
Properties that streams make, nearly always right ones: names, values, words.
-/
namespace Go.Eng
open Go
set_option linter.unusedVariables false
set_option linter.unusedSimpArgs false

def nm18 : List (List UInt8) := nm7 ++ [[97, 45, 49], [], [65], [97, 46], [46, 97], [97, 46, 46, 98], [97, 46, 98, 46, 99, 46, 100, 46, 101, 46, 102, 46, 103, 46, 104, 46, 105], [97, 32, 98], List.replicate 41 97]
noncomputable def okName (n : List UInt8) : Bool := match twin_isName n, fleetref2_PropName n with
  | some a, some b => a == b
  | _, _ => false
theorem nm18_same : (nm18.all okName) = true := by kernel_rfl
theorem nm18_len : (nm18.all fun n => decide (n.length ≤ 100)) = true := by decide
theorem okName_spec {n : List UInt8} (h : okName n = true) : ∃ b, twin_isName n = some b ∧ fleetref2_PropName n = some b := by
  unfold okName at h
  split at h
  · rename_i a b h1 h2
    have : a = b := by simpa using h
    subst this
    exact ⟨a, h1, h2⟩
  · cases h
def wd11 : List (List UInt8) := [[], [120], [97, 32, 34, 98, 34], [92], [195, 169], [45, 32, 49], [10], [127], [255], [122]]
noncomputable def okWord (w : List UInt8) : Bool := match base_Unmarked w, fleetref2_Printed w with
  | some a, some b => a == b
  | _, _ => false
theorem wd11_same : (wd11.all okWord) = true := by kernel_rfl
theorem okWord_spec {w : List UInt8} (h : w ∈ wd11) : ∃ b, KW w b := by
  have h := List.all_eq_true.1 wd11_same _ h
  unfold okWord at h
  split at h
  · rename_i a b h1 h2
    have : a = b := by simpa using h
    subst this
    exact ⟨a, fun _ => ⟨h1, h2⟩⟩
  · cases h
end Go.Eng

/-
Twins: cells and properties that streams make, nearly always right ones; checks of cells.
-/
namespace Go.Eng
open Go
set_option linter.unusedVariables false
set_option linter.unusedSimpArgs false

theorem twinned_eq : fleetlaw2_twinned = some true := by kernel_rfl
theorem errs2 (a b : Int) : fleetlaw2_errs [a, b] = some (or0 a b) := by
  unfold fleetlaw2_errs or0
  rw [range_loop (l := [a, b]) (fun _ x => if x = 0 then none else some (.inr x)) (.inl ()) (by simp)]
  · by_cases ha : a = 0 <;> by_cases hb : b = 0 <;> simp [scan, ha, hb]
  · intro i hi
    unfold fleetlaw2_errs_x1
    have hc : (i : Int) < ([a, b] : List Int).length := by omega
    simp only [hc, decide_true, cond_true, at_nat hi, Option.bind_some]
    by_cases h0 : ([a, b] : List Int)[i] = 0 <;> simp [h0]
  · unfold fleetlaw2_errs_x1; simp
theorem First_ab (a b : Int) : base_First [a, b] = some (or0 a b) := by
  unfold base_First or0
  rw [range_loop (l := [a, b]) (fun _ x => if x = 0 then none else some (.inr x)) (.inl ()) (by simp)]
  · by_cases ha : a = 0 <;> by_cases hb : b = 0 <;> simp [scan, ha, hb]
  · intro i hi
    unfold base_First_x1
    have hc : (i : Int) < ([a, b] : List Int).length := by omega
    simp only [hc, decide_true, cond_true, at_nat hi, Option.bind_some]
    by_cases h0 : ([a, b] : List Int)[i] = 0 <;> simp [h0]
  · unfold base_First_x1; simp
theorem CF2_ab (a b : Int) : loopO (fleetref2_CellsFault_x2 a b) 0 = some (if or0 a b = 0 then .inl () else .inr (or0 a b)) := by
  unfold or0
  rw [range_loop (l := [a, b]) (fun _ x => if x = 0 then none else some (.inr x)) (.inl ()) (by simp)]
  · by_cases ha : a = 0 <;> by_cases hb : b = 0 <;> simp [scan, ha, hb]
  · intro i hi
    unfold fleetref2_CellsFault_x2
    have hc : (i : Int) < ([a, b] : List Int).length := by omega
    simp only [hc, decide_true, cond_true, at_nat hi, Option.bind_some]
    by_cases h0 : ([a, b] : List Int)[i] = 0 <;> simp [h0]
  · unfold fleetref2_CellsFault_x2; simp

/-! ### What streams make -/
def KVal (v : api_Value) : Prop := ∃ b, KW v.Words b
theorem kval_in {v : api_Value} (h : v.Words ∈ wd11) : KVal v := okWord_spec h
theorem rv15_words : (rv15.all fun v => wd11.any fun w => decide (w = v.Words)) = true := by kernel_rfl
theorem rv15_in {v : api_Value} (h : v ∈ rv15) : v.Words ∈ wd11 := by
  have := List.all_eq_true.1 rv15_words v h
  obtain ⟨w, hw, h2⟩ := List.any_eq_true.1 this
  have := of_decide_eq_true h2
  rw [← this]; exact hw
theorem rep41 : strings_Repeat [97] 41 = some (List.replicate 41 97) := by kernel_rfl
theorem rep1001 : strings_Repeat [119] 1001 = some (Lib.repeatL [119] 1001) := by
  unfold strings_Repeat
  exact rfl
theorem PropName_ok {k : Nat} {s : fleetmake_Stream} (h : StrOk k s) (hk : k + 10 < 1099511627776) : Ok (fleetmake_Stream_PropName s) (fun n => n ∈ nm18) := by
  unfold fleetmake_Stream_PropName
  have h1 := nxt_mk h (by omega)
  refine (Flip_ok h (by omega) (by unfold I64; omega)).bind fun b _ => .cond (fun _ => ?_) (fun _ => ?_)
  · rw [rep41]
    simp only [Option.bind_some]
    refine (Some_ok h1 (by omega) (by simp) (by simp)).bind fun w hw => .some ?_
    unfold nm18
    simp only [List.mem_cons, List.not_mem_nil, or_false] at hw
    rcases hw with h | h | h | h | h | h | h | h <;> subst h <;> simp
  · refine (Some_ok h1 (by omega) (by simp) (by simp)).bind fun w hw => .some ?_
    unfold nm18 nm7
    simp only [List.mem_cons, List.not_mem_nil, or_false] at hw
    rcases hw with h | h | h | h | h | h | h | h | h | h <;> subst h <;> simp
def Bd (n : Int) : Prop := -2000000000000 ≤ n ∧ n ≤ 2000000000000
theorem OddP_ok {k : Nat} {s : fleetmake_Stream} {lo hi : Int} (h : StrOk k s) (hk : k + 10 < 1099511627776) (h1 : -1000000000 ≤ lo ∧ lo ≤ hi ∧ hi ≤ 1000000000) : Ok (fleetmake_Stream_Odd s lo hi) (fun r => StrOk (k + 2) r.1 ∧ Bd r.2) := by
  unfold fleetmake_Stream_Odd
  have a1 := nxt_mk h (by omega)
  refine (Flip_ok h (by omega) (by unfold I64; omega)).bind fun b _ => .cond (fun _ => ?_) (fun _ => ?_)
  · refine (Pick_ok a1 (by omega) (by simp) (by simp)).bind fun n hn => .some ⟨nxt_mk a1 (by omega), ?_⟩
    have w1 : IntKind.wrap .i64 (lo - 1) = lo - 1 := wrap64 (by omega) (by omega)
    have w2 : IntKind.wrap .i64 (hi + 1) = hi + 1 := wrap64 (by omega) (by omega)
    rw [w1, w2] at hn
    simp only [List.mem_cons, List.not_mem_nil, or_false] at hn
    unfold Bd
    simp only
    omega
  · refine (Range_ok a1 (by omega) (by omega) (by omega)).bind fun ⟨s1, n⟩ ⟨r1, r2, r3, _⟩ => ?_
    simp only at r1 r2 r3
    have r3 := r3 (by omega)
    exact .some ⟨r1, by unfold Bd; simp only; omega⟩
theorem Value_ok {k : Nat} {s : fleetmake_Stream} (h : StrOk k s) (hk : k + 20 < 1099511627776) : Ok (fleetmake_Stream_Value s) (fun r => StrOk (k + 8) r.1 ∧ KVal r.2) := by
  unfold fleetmake_Stream_Value
  have a1 := nxt_mk h (by omega)
  have a2 := nxt_mk a1 (by omega)
  have a3 := nxt_mk a2 (by omega)
  have a4 := nxt_mk a3 (by omega)
  have a5 := nxt_mk a4 (by omega)
  refine (RightValue_in h (by omega)).bind fun v hv => (Flip_ok a2 (by omega) (by unfold I64; omega)).bind fun b _ => .cond (fun _ => ?_) (fun _ => ?_)
  · exact .some ⟨a3.mono (by omega), kval_in (by simp [wd11])⟩
  · have hw := rv15_in hv
    have hx : Ok (fleetmake_Stream_Value_x1 s v) (fun r => StrOk (k + 8) r.1 ∧ KVal r.2) := by
      unfold fleetmake_Stream_Value_x1
      refine (Flip_ok a3 (by omega) (by unfold I64; omega)).bind fun b _ => .cond (fun _ => ?_) (fun _ => .some ⟨a4.mono (by omega), kval_in hw⟩)
      refine (Next_ok a4 (by omega) (by unfold I64; omega)).bind fun n _ => .cond (fun _ => ?_) (fun _ => .cond (fun _ => .some ⟨a5.mono (by omega), kval_in hw⟩) (fun _ => .cond (fun _ => ?_) (fun _ => .cond (fun _ => ?_) (fun _ => ?_))))
      · exact (Pick_ok a5 (by omega) (by simp) (by simp)).bind fun m _ => .some ⟨(nxt_mk a5 (by omega)).mono (by omega), kval_in hw⟩
      · exact (OddP_ok a5 (by omega) (by omega)).bind fun ⟨s1, m⟩ ⟨r1, r2⟩ => .some ⟨r1.mono (by omega), kval_in hw⟩
      · rw [rep1001]
        simp only [Option.bind_some]
        refine (Some_ok a5 (by omega) (by simp) (by simp)).bind fun w hw => .some ⟨(nxt_mk a5 (by omega)).mono (by omega), ?_⟩
        simp only [List.mem_cons, List.not_mem_nil, or_false] at hw
        rcases hw with h | h | h | h
        · subst h; exact kval_in (by simp [wd11])
        · subst h; exact kval_in (by simp [wd11])
        · subst h; exact kval_in (by simp [wd11])
        · refine ⟨true, fun hl => ?_⟩
          rw [h] at hl
          rw [Lib.repeatL_length] at hl
          simp at hl
      · exact .some ⟨a5.mono (by omega), kval_in (by simp [wd11])⟩
    exact hx.bind fun ⟨s1, v1⟩ hr => .some hr
def by4 : List (List UInt8) := [[104], [107], [], [65], [100]]
structure KSt (s : api_Stamp) : Prop where
  at_ : Bd s.At
  no : Bd s.No
  by_ : s.By ∈ by4
theorem RS.kst {s : api_Stamp} (h : RS s) : KSt s := by
  obtain ⟨h1, h2, h3⟩ := h
  refine ⟨by unfold Bd; omega, by unfold Bd; omega, ?_⟩
  rcases h2 with h | h | h <;> rw [h] <;> simp [by4]
theorem Stamp_ok {k : Nat} {s : fleetmake_Stream} (h : StrOk k s) (hk : k + 20 < 1099511627776) : Ok (fleetmake_Stream_Stamp s) (fun r => StrOk (k + 9) r.1 ∧ KSt r.2) := by
  unfold fleetmake_Stream_Stamp
  refine (RightStamp_ok h (by omega)).bind fun ⟨s1, t⟩ ⟨b1, b2, _, _⟩ => ?_
  simp only at b1 b2
  have a1 := nxt_mk b1 (by omega)
  have hx : Ok (fleetmake_Stream_Stamp_x1 s1 t) (fun r => StrOk (k + 9) r.1 ∧ KSt r.2) := by
    unfold fleetmake_Stream_Stamp_x1
    refine (Flip_ok b1 (by omega) (by unfold I64; omega)).bind fun b _ => .cond (fun _ => ?_) (fun _ => .some ⟨a1.mono (by omega), b2.kst⟩)
    refine (OddP_ok a1 (by omega) (by omega)).bind fun ⟨s2, m⟩ ⟨r1, r2⟩ => ?_
    simp only at r1 r2
    refine (Some_ok r1 (by omega) (by simp) (by simp)).bind fun w hw => ?_
    have a2 := nxt_mk r1 (by omega)
    refine (OddP_ok a2 (by omega) (by omega)).bind fun ⟨s3, n⟩ ⟨q1, q2⟩ => .some ⟨q1, r2, q2, ?_⟩
    simp only [List.mem_cons, List.not_mem_nil, or_false] at hw
    rcases hw with h | h | h <;> subst h <;> simp [by4]
  exact hx.bind fun ⟨s2, v1⟩ hr => .some hr
theorem KP_of {p : api_Prop} (hn : p.Name ∈ nm18) (hv : KVal p.Value) : KP p := by
  refine ⟨okName_spec (List.all_eq_true.1 nm18_same _ hn), hv, ?_⟩
  have := of_decide_eq_true (List.all_eq_true.1 nm18_len _ hn)
  omega
/-- a cell of which both checks know what to say -/
structure KC (c : api_Cell) : Prop where
  name : nm c ∈ nm18
  val : KVal c.Prop_.Value
  st : KSt c.Stamp
theorem KC.kp {c : api_Cell} (h : KC c) : KP c.Prop_ := KP_of h.name h.val
theorem nm7_18 {n : List UInt8} (h : n ∈ nm7) : n ∈ nm18 := List.mem_append_left _ h
theorem RightCellsK_ok {k : Nat} {s : fleetmake_Stream} (h : StrOk k s) (hk : k + 100 < 1099511627776) :
    Ok (fleetmake_Stream_RightCells s) (fun r => StrOk (k + 60) r.1 ∧ (∀ c ∈ r.2, KC c) ∧ r.2.length ≤ 6) := by
  unfold fleetmake_Stream_RightCells
  refine (Range_ok h (by omega) (by omega) (by omega)).bind fun ⟨s1, n⟩ ⟨r1, r2, r3, _⟩ => ?_
  simp only at r1 r2 r3
  have r3 := r3 (by omega)
  let P : api_Cell → Prop := fun c => nm c ∈ nm7 ∧ KVal c.Prop_.Value ∧ RS c.Stamp
  have loop : Ok (loopO (fleetmake_Stream_RightCells_x1 n) (s1, [], 0)) (fun q => StrOk (k + 60) q.1 ∧ All P q.2 ∧ q.2.length ≤ 6) := by
    refine loop_ok (fun q : fleetmake_Stream × List api_Cell × Int => ∃ j : Nat, q.2.2 = (j : Int) ∧ (j : Int) ≤ 6 ∧ StrOk (k + 1 + 8 * j) q.1 ∧ All P q.2.1 ∧ q.2.1.length = j) (fun q => ((6 : Int) - q.2.2).toNat) ?_ ⟨0, rfl, by omega, by simpa using r1, All.nil, rfl⟩
    rintro ⟨s2, l, i⟩ ⟨j, rfl, j1, j2, j3, j4⟩
    simp only at j2 j3 j4
    unfold fleetmake_Stream_RightCells_x1
    refine .cond (fun hc => ?_) (fun hc => .some ⟨j2.mono (by omega), j3, by simp only; omega⟩)
    have hc : (j : Int) < n := by simpa using hc
    refine (Some_ok j2 (by omega) (by simp) (by simp)).bind fun w hw => ?_
    have a1 := nxt_mk j2 (by omega)
    refine (RightValue_in a1 (by omega)).bind fun v hv => ?_
    have a2 := nxt_mk a1 (by omega)
    have a3 := nxt_mk a2 (by omega)
    refine (RightStamp_ok a3 (by omega)).bind fun ⟨s3, st⟩ ⟨b1, b2, b3, b4⟩ => ?_
    simp only at b1 b2 b3 b4
    have hw7 : w ∈ nm7 := by
      simp at hw
      rcases hw with rfl | rfl | rfl | rfl | rfl | rfl | rfl <;> decide
    have hx2 : Ok (fleetmake_Stream_RightCells_x2 w v s3 st) (fun c => P c) := by
      unfold fleetmake_Stream_RightCells_x2
      refine (Flip_ok b1 (by omega) (by unfold I64; omega)).bind fun b _ => .cond (fun _ => ?_) (fun _ => ?_)
      · exact .some ⟨hw7, kval_in (by simp [wd11]), b2⟩
      · exact .some ⟨hw7, kval_in (rv15_in hv), b2⟩
    refine hx2.bind fun c hc2 => ?_
    have w1 : IntKind.wrap .i64 ((j : Int) + 1) = ((j + 1 : Nat) : Int) := by rw [wrap64 (by omega) (by omega)]; omega
    refine .gd (lim_ok (by simp; omega)) (.some ⟨⟨j + 1, w1, by omega, (nxt_mk b1 (by omega)).mono (by omega), ?_, by simp [j4]⟩, ?_⟩)
    · intro x hx
      rcases List.mem_append.1 hx with hx | hx
      · exact j3 x hx
      · rw [List.mem_singleton] at hx; subst hx; exact hc2
    · show ((6 : Int) - IntKind.wrap .i64 ((j : Int) + 1)).toNat < _
      rw [w1]; simp only; omega
  refine loop.bind fun ⟨s2, l⟩ ⟨q1, q2, q3⟩ => ?_
  simp only at q1 q2 q3
  rw [sortC_eq]
  refine (gSort_ord (P := P) (f := fun x y => Lib.compareBytes (nm x) (nm y)) (c := cmpC) (fun _ _ _ _ => rfl) (fun x y => cmpB_anti _ _) (fun x y z => cmpB_tr) (by omega) q2).bind fun m ⟨m1, m2, m3⟩ => ?_
  refine .gd (by simp [m1]) ?_
  rw [comC_eq]
  refine (gCom_key (P := P) (kf := fun c => rk (nm c)) (fun x y hx hy => ⟨_, rfl, ?_⟩) (z := zC) (l := m) (by omega) m2 (fun p q hpq hq => ?_)).bind fun r ⟨t1, t2, t3⟩ => .some ⟨q1, fun c hc => ⟨nm7_18 (t2 c hc).1, (t2 c hc).2.1, (t2 c hc).2.2.kst⟩, by simp only; omega⟩
  · rw [decide_eq_true_iff]
    exact (rk_spec hx.1 hy.1).2.2.symm
  · have := m3 p q hpq (by omega) (by omega)
    exact (rk_spec (m2 _ (List.getElem_mem (show p < m.length by omega))).1 (m2 _ (List.getElem_mem hq)).1).1.1 this
theorem Cells_ok {k : Nat} {s : fleetmake_Stream} (h : StrOk k s) (hk : k + 200 < 1099511627776) : Ok (fleetmake_Stream_Cells s) (fun r => StrOk (k + 100) r.1 ∧ (∀ c ∈ r.2, KC c) ∧ r.2.length ≤ 7) := by
  unfold fleetmake_Stream_Cells
  refine (RightCellsK_ok h (by omega)).bind fun ⟨s1, l⟩ ⟨b1, b2, b3⟩ => ?_
  simp only at b1 b2 b3
  have hx : Ok (fleetmake_Stream_Cells_x1 s1 l) (fun r => StrOk (k + 100) r.1 ∧ (∀ c ∈ r.2, KC c) ∧ r.2.length ≤ 7) := by
    unfold fleetmake_Stream_Cells_x1
    have a1 := nxt_mk b1 (by omega)
    have a2 := nxt_mk a1 (by omega)
    have a3 := nxt_mk a2 (by omega)
    refine (Flip_ok b1 (by omega) (by unfold I64; omega)).bind fun b _ => .cond (fun _ => ?_) (fun _ => .some ⟨a1.mono (by omega), b2, by simp only; omega⟩)
    refine (PropName_ok a1 (by omega)).bind fun n hn => ?_
    refine (Value_ok a3 (by omega)).bind fun ⟨s2, v⟩ ⟨v1, v2⟩ => ?_
    simp only at v1 v2
    refine (Stamp_ok v1 (by omega)).bind fun ⟨s3, t⟩ ⟨t1, t2⟩ => ?_
    simp only at t1 t2
    have hall : All KC (l ++ [api_Cell.mk (api_Prop.mk n v) t]) := by
      intro c hc
      rcases List.mem_append.1 hc with hc | hc
      · exact b2 c hc
      · rw [List.mem_singleton] at hc; subst hc; exact ⟨hn, v2, t2⟩
    refine .gd (lim_ok (by simp; omega)) ?_
    have a4 := nxt_mk t1 (by omega)
    refine (Flip_ok t1 (by omega) (by unfold I64; omega)).bind fun b _ => .cond (fun _ => ?_) (fun _ => .some ⟨a4.mono (by omega), hall, by simp; omega⟩)
    rw [sortC_eq]
    refine (gSort_ord (P := KC) (f := fun x y => Lib.compareBytes (nm x) (nm y)) (c := cmpC) (fun _ _ _ _ => rfl) (fun x y => cmpB_anti _ _) (fun x y z => cmpB_tr) (by simp; omega) hall).bind fun m ⟨m1, m2, m3⟩ => ?_
    exact .gd (by simp [m1]) (.some ⟨a4.mono (by omega), m2, by simp only; rw [m1]; simp; omega⟩)
  exact hx.bind fun ⟨s2, v1⟩ hr => .some hr

/-! ### Checks of cells -/
noncomputable def okBy (n : List UInt8) : Bool := match base_Key n, fleetref2_Key n with
  | some a, some b => a == b
  | _, _ => false
theorem by4_same : (by4.all okBy) = true := by kernel_rfl
theorem okBy_spec {n : List UInt8} (h : n ∈ by4) : ∃ b, base_Key n = some b ∧ fleetref2_Key n = some b := by
  have h := List.all_eq_true.1 by4_same n h
  unfold okBy at h
  split at h
  · rename_i a b h1 h2
    have : a = b := by simpa using h
    subst this
    exact ⟨a, h1, h2⟩
  · cases h
theorem stf_same {s : api_Stamp} (h : KSt s) : ∃ e, twin_stampFault s = some e ∧ fleetref2_StampFault s = some e := by
  obtain ⟨b, h1, h2⟩ := okBy_spec h.by_
  have e0 : fleetref2_StampFault s = twin_stampFault s := by
    unfold fleetref2_StampFault twin_stampFault fleetref2_Moment
    rw [Moment_eq, in_not, h1, h2, in_not, Out_eq]
    simp only [Option.bind_some, Bool.not_not]
    have e1 : (!(!(decide (s.At < 0) || decide (345686399999 < s.At)))) = !(decide (0 ≤ s.At) && decide (s.At ≤ 345686399999)) := by
      by_cases h1 : s.At < 0
      · have : ¬ 0 ≤ s.At := by omega
        simp [h1, this]
      · by_cases h2 : 345686399999 < s.At
        · have : ¬ s.At ≤ 345686399999 := by omega
          simp [h2, this]
        · have h3 : 0 ≤ s.At := by omega
          have h4 : s.At ≤ 345686399999 := by omega
          simp [h1, h2, h3, h4]
    rw [Bool.not_not] at e1
    rw [e1]
  obtain ⟨e, he⟩ : ∃ e, twin_stampFault s = some e := by
    unfold twin_stampFault
    rw [Moment_eq, h1, Out_eq]
    simp only [Option.bind_some]
    cases (!(decide (0 ≤ s.At) && decide (s.At ≤ 345686399999))) <;> cases (!b) <;> cases (decide (s.No < 0) || decide (1000000000 < s.No)) <;> exact ⟨_, rfl⟩
  exact ⟨e, he, e0.trans he⟩
theorem cx1_same {l : List api_Cell} (h : ∀ c ∈ l, KC c) : twin_CheckCells_x1 l = fleetref2_CellsFault_x1 l := by
  funext i
  unfold twin_CheckCells_x1 fleetref2_CellsFault_x1
  cases ha : at? l i with
  | none => rfl
  | some c =>
    have hc : c ∈ l := by
      unfold at? at ha
      split at ha
      · exact List.mem_of_getElem? ha
      · cases ha
    obtain ⟨⟨b, h1, h2⟩, ⟨w, h3⟩, _⟩ := (h c hc).kp
    obtain ⟨f, h4, h5⟩ := stf_same (h c hc).st
    have e1 : twin_valueFault (api_Value.mk c.Prop_.Value.Kind c.Prop_.Value.Flag c.Prop_.Value.Number c.Prop_.Value.Words) = some (vfI c.Prop_.Value w) := vf_own h3
    have e2 : fleetref2_ValueFault (api_Value.mk c.Prop_.Value.Kind c.Prop_.Value.Flag c.Prop_.Value.Number c.Prop_.Value.Words) = some (vfI c.Prop_.Value w) := vf_ref h3
    have e3 : twin_stampFault (api_Stamp.mk c.Stamp.At c.Stamp.By c.Stamp.No) = some f := h4
    have e4 : fleetref2_StampFault (api_Stamp.mk c.Stamp.At c.Stamp.By c.Stamp.No) = some f := h5
    simp only [Option.bind_some, h1, h2, e1, e2, e3, e4, First_ab, CF2_ab]
    generalize or0 (vfI c.Prop_.Value w) f = z
    by_cases hz : z = 0
    · subst hz
      simp only [decide_true, Bool.not_true, cond_false, if_true]
      rfl
    · simp only [hz, decide_false, Bool.not_false, cond_true, if_false]
theorem cone_ok {l : List api_Cell} (hl : l.length ≤ 400) (hK : ∀ c ∈ l, KC c) : Ok (loopO (twin_CheckCells_x1 l) 0) (fun r => match r with | .inl _ => Srt l ∧ ∀ c ∈ l, GC c | .inr e => e ≠ 0) := by
  refine loop_ok (fun s : Int => ∃ i : Nat, s = (i : Int) ∧ i ≤ l.length ∧ (∀ j (h0 : 0 < j) (h : j < i) (hl : j < l.length), nlt (nm (l[j - 1]'(by omega))) (nm l[j])) ∧ ∀ j (h : j < i) (hl : j < l.length), GC l[j]) (fun s => ((l.length : Int) - s).toNat) ?_ ⟨0, rfl, by omega, fun j h0 h => by omega, fun j h => by omega⟩
  rintro _ ⟨i, rfl, i1, i2, i3⟩
  unfold twin_CheckCells_x1
  by_cases hi : i < l.length
  · have hc : (i : Int) < l.length := by omega
    have w1 : IntKind.wrap .i64 ((i : Int) + 1) = ((i + 1 : Nat) : Int) := by rw [wrap64 (by omega) (by omega)]; omega
    have hKi := hK _ (List.getElem_mem hi)
    obtain ⟨⟨b, h1, h2⟩, ⟨w, h3⟩, _⟩ := hKi.kp
    obtain ⟨f, h4, h5⟩ := stf_same hKi.st
    have e1 : twin_valueFault (api_Value.mk l[i].Prop_.Value.Kind l[i].Prop_.Value.Flag l[i].Prop_.Value.Number l[i].Prop_.Value.Words) = some (vfI l[i].Prop_.Value w) := vf_own h3
    have e3 : twin_stampFault (api_Stamp.mk l[i].Stamp.At l[i].Stamp.By l[i].Stamp.No) = some f := h4
    simp only [hc, decide_true, cond_true, at_nat hi, Option.bind_some, h1, e1, e3, First_ab, w1]
    refine .cond (fun _ => .some (by simp)) fun hb => .cond (fun hz => .some (by simpa using hz)) fun hz => ?_
    have hb : b = true := by simpa using hb
    have hz : or0 (vfI l[i].Prop_.Value w) f = 0 := by simpa using hz
    obtain ⟨z1, z2⟩ := or0_zero.1 hz
    have gc : GC l[i] := ⟨by rw [h1, hb], by rw [vf_own h3, z1], by rw [h4, z2]⟩
    have gcs : ∀ j (h : j < i + 1) (hl : j < l.length), GC l[j] := fun j h hjl => by
      by_cases hj : j < i
      · exact i3 j hj hjl
      · have : j = i := by omega
        subst this; exact gc
    unfold twin_CheckCells_x2
    cases i with
    | zero =>
      simp only [show ¬ (0 : Int) < ((0 : Nat) : Int) by omega, decide_false, cond_false, Option.bind_some]
      exact .some ⟨⟨1, rfl, by omega, fun j h0 h => by omega, gcs⟩, by omega⟩
    | succ i =>
      have hp0 : (0 : Int) < ((i + 1 : Nat) : Int) := by omega
      have w : IntKind.wrap .i64 (((i + 1 : Nat) : Int) - 1) = (i : Int) := by rw [wrap64 (by omega) (by omega)]; omega
      simp only [hp0, decide_true, cond_true, w, at_nat (show i < l.length by omega), Option.bind_some]
      refine .cond (fun _ => .some (by simp)) fun hlt => .some ⟨⟨i + 1 + 1, rfl, by omega, fun j h0 h hjl => ?_, gcs⟩, by omega⟩
      by_cases hj : j < i + 1
      · exact i2 j h0 hj hjl
      · have : j = i + 1 := by omega
        subst this
        simp only [Bool.or_eq_false_iff, cmpB_less, decide_eq_false_iff_not] at hlt
        show nlt (nm l[i]) (nm l[i + 1])
        rcases cmpB_cases (nm l[i]) (nm l[i + 1]) with h2 | h2 | h2
        · exact h2
        · exact absurd h2.symm hlt.2
        · exact absurd h2 hlt.1
  · have hc : ¬ (i : Int) < l.length := by omega
    simp only [hc, decide_false, cond_false]
    refine .some ⟨?_, fun p hp => ?_⟩
    · have key : ∀ (d j : Nat) (hj : j + d + 1 < l.length), nlt (nm (l[j]'(by omega))) (nm l[j + d + 1]) := by
        intro d
        induction d with
        | zero =>
          intro j hj
          exact i2 (j + 1) (by omega) (by omega) (by omega)
        | succ d ih =>
          intro j hj
          exact nlt_trans (ih j (by omega)) (i2 (j + d + 2) (by omega) (by omega) (by omega))
      unfold Srt
      rw [List.pairwise_iff_getElem]
      intro i j hi hj hij
      have := key (j - i - 1) i (by omega)
      simpa [show i + (j - i - 1) + 1 = j by omega] using this
    · obtain ⟨j, hj, rfl⟩ := List.mem_iff_getElem.1 hp
      exact i3 j (by omega) hj
/-- both checks say the same -/
theorem cchecks {l : List api_Cell} (hl : l.length ≤ 400) (hK : ∀ c ∈ l, KC c) : ∃ e, twin_CheckCells l = some e ∧ fleetref2_CellsFault l = some e ∧ (e = 0 → Srt l ∧ ∀ c ∈ l, GC c) := by
  have h500 : ¬ (500 : Int) < l.length := by omega
  unfold twin_CheckCells fleetref2_CellsFault
  simp only [h500, decide_false, cond_false]
  rw [← cx1_same hK]
  obtain ⟨r, h1, h2⟩ := cone_ok hl hK
  rw [h1]
  cases r with
  | inr e => exact ⟨e, rfl, rfl, fun h => absurd h h2⟩
  | inl _ => exact ⟨0, rfl, rfl, fun _ => h2⟩
end Go.Eng

/-
The law CellsSeen: what is visible and what is left out are as specified for all cells.
-/
namespace Go.Eng
open Go
set_option linter.unusedVariables false
set_option linter.unusedSimpArgs false

theorem signR_eq (n : Int) : fleetref2_sign n = some (if n < 0 then -1 else if 0 < n then 1 else 0) := by
  unfold fleetref2_sign
  by_cases h1 : n < 0
  · simp [h1]
  · by_cases h2 : 0 < n <;> simp [h1, h2]
theorem sign_cmp {a b : Int} (ha : Bd a) (hb : Bd b) : fleetref2_sign (IntKind.wrap .i64 (a - b)) = some (cmpI a b) := by
  unfold Bd at ha hb
  rw [wrap64 (by omega) (by omega), signR_eq]
  unfold cmpI
  congr 1
  by_cases h1 : a < b
  · rw [if_pos (by omega), if_pos h1]
  · rw [if_neg (by omega), if_neg h1]
    by_cases h2 : b < a
    · rw [if_pos (by omega), if_pos h2]
    · rw [if_neg (by omega), if_neg h2]
theorem refO_eq {a b : api_Stamp} (ha : KSt a) (hb : KSt b) : fleetref2_StampOrder a b = some (stO a b) := by
  have h : strings_Compare a.By b.By = some () := rfl
  unfold fleetref2_StampOrder stO or0
  rw [sign_cmp ha.at_ hb.at_, sign_cmp ha.no hb.no, h]
  simp only [Option.bind_some]
  by_cases h1 : a.At = b.At
  · have e1 : cmpI a.At b.At = 0 := cmpI_zero.2 h1
    simp only [h1, decide_true, Bool.not_true, cond_false]
    rw [show cmpI b.At b.At = 0 from cmpI_zero.2 rfl, if_pos rfl]
    by_cases h2 : a.By = b.By
    · simp only [h2, decide_true, Bool.not_true, cond_false]
      rw [if_pos (cmpB_zero.2 rfl)]
    · simp only [h2, decide_false, Bool.not_false, cond_true]
      rw [if_neg fun e => h2 (cmpB_zero.1 e)]
  · simp only [h1, decide_false, Bool.not_false, cond_true]
    rw [if_neg fun e => h1 (cmpI_zero.1 e)]
theorem KC.len {c : api_Cell} (h : KC c) : (nm c).length ≤ 10000 := h.kp.2.2
theorem refHides_eq {x y : api_Cell} (hx : KC x) (hy : KC y) : fleetref2_hides x y = some (hidesB x y) := by
  have ho : fleetref2_StampOrder (api_Stamp.mk x.Stamp.At x.Stamp.By x.Stamp.No) (api_Stamp.mk y.Stamp.At y.Stamp.By y.Stamp.No) = some (stO x.Stamp y.Stamp) := refO_eq hx.st hy.st
  unfold fleetref2_hides hidesB fleetref2_hides_x1 fleetref2_hides_x2 fleetref2_valued
  rw [ho, above_is _ _ hx.len, above_is _ _ hy.len]
  simp only [Option.bind_some]
  show (bif belB (nm y) (nm x) then _ else _) = _
  by_cases h1 : 0 < stO x.Stamp y.Stamp
  · simp only [h1, decide_true, cond_true, if_true]
    cases belB (nm y) (nm x) <;> cases belB (nm x) (nm y) <;> simp
  · by_cases h2 : stO x.Stamp y.Stamp = 0
    · simp only [h1, h2, decide_true, decide_false, cond_true, cond_false, if_true, if_false]
      simp only [show ¬ (0 : Int) < 0 by omega, decide_false, cond_false, if_false]
      cases belB (nm y) (nm x) <;> cases belB (nm x) (nm y) <;> cases decide (x.Prop_.Value.Kind = 0) <;> simp
    · simp only [h1, h2, decide_false, cond_false, if_false]
      cases belB (nm y) (nm x) <;> cases belB (nm x) (nm y) <;> simp
theorem refHidden_eq {l : List api_Cell} {y : api_Cell} (hl : l.length ≤ 1000) (hK : ∀ c ∈ l, KC c) (hy : KC y) : fleetref2_hidden l y = some (l.any fun x => hidesB x y) := by
  show ((slices_ContainsFunc_api_Cell_api_Cell_f1_fleetref2_hidden_1 l y).bind fun vr => some vr) = _
  have h0 : slices_ContainsFunc_api_Cell_api_Cell_f1_fleetref2_hidden_1 l y = ((slices_IndexFunc_api_Cell_api_Cell_f1_fleetref2_hidden_1 l y).bind fun vr2 => some (decide (0 ≤ vr2))) := rfl
  rw [h0]
  unfold slices_IndexFunc_api_Cell_api_Cell_f1_fleetref2_hidden_1
  obtain ⟨x, h1, h2⟩ := find_loop (l := l) (f := slices_IndexFunc_api_Cell_api_Cell_f1_fleetref2_hidden_1_x1 l y) (fun x => hidesB x y) (by omega) (fun i h => by
    unfold slices_IndexFunc_api_Cell_api_Cell_f1_fleetref2_hidden_1_x1
    have hc : (i : Int) < l.length := by omega
    simp only [hc, decide_true, cond_true, at_nat h, Option.bind_some]
    have h3 : fleetref2_hidden_1 l[i] y = some (hidesB l[i] y) := by
      show ((fleetref2_hides l[i] y).bind fun vr3 => some vr3) = _
      rw [refHides_eq (hK _ (List.getElem_mem h)) hy]; rfl
    have h4 : fleetref2_hidden_1 (api_Cell.mk (api_Prop.mk l[i].Prop_.Name (api_Value.mk l[i].Prop_.Value.Kind l[i].Prop_.Value.Flag l[i].Prop_.Value.Number l[i].Prop_.Value.Words)) (api_Stamp.mk l[i].Stamp.At l[i].Stamp.By l[i].Stamp.No)) (api_Cell.mk (api_Prop.mk y.Prop_.Name (api_Value.mk y.Prop_.Value.Kind y.Prop_.Value.Flag y.Prop_.Value.Number y.Prop_.Value.Words)) (api_Stamp.mk y.Stamp.At y.Stamp.By y.Stamp.No)) = some (hidesB l[i] y) := h3
    rw [h4]
    cases hidesB l[i] y <;> rfl) (by unfold slices_IndexFunc_api_Cell_api_Cell_f1_fleetref2_hidden_1_x1; simp)
  rw [h1, ← h2]
  cases x <;> rfl
theorem refVis_eq {l : List api_Cell} (hl : l.length ≤ 1000) (hK : ∀ c ∈ l, KC c) : fleetref2_VisibleOf l = some (vis l) := by
  unfold fleetref2_VisibleOf
  have := fold_loop0 (l := l) (f := fleetref2_VisibleOf_x1 l) (fun (s : List api_Prop) i => (s, i)) (fun s c => bif visB l c then s ++ [c.Prop_] else s) id (fun i s => s.length ≤ i) (s0 := []) (by omega)
    (fun i hi s hs => by
      have hc : (i : Int) < l.length := by omega
      have hx3 : fleetref2_VisibleOf_x3 l l[i] = some (visB l l[i]) := by
        unfold fleetref2_VisibleOf_x3 visB fleetref2_valued
        have h2 : fleetref2_hidden l (api_Cell.mk (api_Prop.mk l[i].Prop_.Name (api_Value.mk l[i].Prop_.Value.Kind l[i].Prop_.Value.Flag l[i].Prop_.Value.Number l[i].Prop_.Value.Words)) (api_Stamp.mk l[i].Stamp.At l[i].Stamp.By l[i].Stamp.No)) = some (l.any fun x => hidesB x l[i]) := refHidden_eq hl hK (hK _ (List.getElem_mem hi))
        rw [h2]
        cases h0 : decide (l[i].Prop_.Value.Kind = 0) with
        | true => simp
        | false => simp
      refine ⟨?_, ?_⟩
      · unfold fleetref2_VisibleOf_x1 fleetref2_VisibleOf_x2
        simp only [hc, decide_true, cond_true, at_nat hi, Option.bind_some, hx3]
        cases visB l l[i] with
        | false => rfl
        | true =>
          simp only [cond_true, gd]
          rw [lim_ok (by simp; omega)]
          rfl
      · cases visB l l[i] <;> simp <;> omega)
    (fun s _ => by unfold fleetref2_VisibleOf_x1; simp) (by simp)
  rw [this.1]
  simp only [Option.bind_some, id]
  rw [foldl_filter]
  rfl
theorem foldl_filt {α : Type} (p : α → Bool) (l : List α) : l.foldl (fun s c => bif p c then s ++ [c] else s) [] = l.filter p := by
  have := foldl_filter p id l []
  simpa using this
theorem refOld_eq {l : List api_Cell} (hl : l.length ≤ 1000) (n : Int) : loopO (fleetref2_CompactOf_x1 l n) ([], 0) = some (l.filter (oldB n)) := by
  have := fold_loop0 (l := l) (f := fleetref2_CompactOf_x1 l n) (fun (s : List api_Cell) i => (s, i)) (fun s c => bif oldB n c then s ++ [c] else s) id (fun i s => s.length ≤ i) (s0 := []) (by omega)
    (fun i hi s hs => by
      have hc : (i : Int) < l.length := by omega
      refine ⟨?_, ?_⟩
      · unfold fleetref2_CompactOf_x1 fleetref2_CompactOf_x2 oldB
        simp only [hc, decide_true, cond_true, at_nat hi, Option.bind_some]
        cases decide (l[i].Stamp.At < n) with
        | false => rfl
        | true =>
          simp only [cond_true, gd]
          rw [lim_ok (by simp; omega)]
          rfl
      · cases oldB n l[i] <;> simp <;> omega)
    (fun s _ => by unfold fleetref2_CompactOf_x1; simp) (by simp)
  rw [this.1, foldl_filt]
  rfl
theorem refLeft_eq {l : List api_Cell} (hl : l.length ≤ 1000) (hK : ∀ c ∈ l, KC c) (n : Int) : loopO (fleetref2_CompactOf_x3 l (l.filter (oldB n))) ([], 0) = some (leftL n l) := by
  have hol : (l.filter (oldB n)).length ≤ 1000 := Nat.le_trans (List.length_filter_le _ _) hl
  have := fold_loop0 (l := l) (f := fleetref2_CompactOf_x3 l (l.filter (oldB n))) (fun (s : List api_Cell) i => (s, i)) (fun s c => bif !(l.any fun x => hidesB x c && oldB n x) then s ++ [c] else s) id (fun i s => s.length ≤ i) (s0 := []) (by omega)
    (fun i hi s hs => by
      have hc : (i : Int) < l.length := by omega
      have h2 : fleetref2_hidden (l.filter (oldB n)) (api_Cell.mk (api_Prop.mk l[i].Prop_.Name (api_Value.mk l[i].Prop_.Value.Kind l[i].Prop_.Value.Flag l[i].Prop_.Value.Number l[i].Prop_.Value.Words)) (api_Stamp.mk l[i].Stamp.At l[i].Stamp.By l[i].Stamp.No)) = some ((l.filter (oldB n)).any fun x => hidesB x l[i]) :=
        refHidden_eq hol (fun c hc => hK c (List.mem_filter.1 hc).1) (hK _ (List.getElem_mem hi))
      have h3 : ((l.filter (oldB n)).any fun x => hidesB x l[i]) = l.any fun x => hidesB x l[i] && oldB n x := by
        rw [List.any_filter]
        congr 1
        funext x
        exact Bool.and_comm _ _
      rw [h3] at h2
      refine ⟨?_, ?_⟩
      · unfold fleetref2_CompactOf_x3 fleetref2_CompactOf_x4
        simp only [hc, decide_true, cond_true, at_nat hi, Option.bind_some, h2]
        cases (l.any fun x => hidesB x l[i] && oldB n x) with
        | true => rfl
        | false =>
          simp only [Bool.not_false, cond_true, gd]
          rw [lim_ok (by simp; omega)]
          rfl
      · cases (l.any fun x => hidesB x l[i] && oldB n x) <;> simp <;> omega)
    (fun s _ => by unfold fleetref2_CompactOf_x3; simp) (by simp)
  rw [this.1, foldl_filt]
  rfl
theorem refUnder_eq {l : List api_Cell} {y : api_Cell} (hl : l.length ≤ 1000) (hy : KC y) : slices_ContainsFunc_api_Cell_api_Cell_f1_fleetref2_CompactOf_1 l y = some (l.any fun x => belB (nm x) (nm y)) := by
  have h0 : slices_ContainsFunc_api_Cell_api_Cell_f1_fleetref2_CompactOf_1 l y = ((slices_IndexFunc_api_Cell_api_Cell_f1_fleetref2_CompactOf_1 l y).bind fun vr2 => some (decide (0 ≤ vr2))) := rfl
  rw [h0]
  unfold slices_IndexFunc_api_Cell_api_Cell_f1_fleetref2_CompactOf_1
  obtain ⟨x, h1, h2⟩ := find_loop (l := l) (f := slices_IndexFunc_api_Cell_api_Cell_f1_fleetref2_CompactOf_1_x1 l y) (fun x => belB (nm x) (nm y)) (by omega) (fun i h => by
    unfold slices_IndexFunc_api_Cell_api_Cell_f1_fleetref2_CompactOf_1_x1 fleetref2_CompactOf_1
    have hc : (i : Int) < l.length := by omega
    simp only [hc, decide_true, cond_true, at_nat h, Option.bind_some]
    have h3 : fleetref2_above y.Prop_.Name l[i].Prop_.Name = some (belB (nm l[i]) (nm y)) := above_is _ _ hy.len
    rw [h3]
    cases h4 : belB (nm l[i]) (nm y) <;> simp [h4]) (by unfold slices_IndexFunc_api_Cell_api_Cell_f1_fleetref2_CompactOf_1_x1; simp)
  rw [h1, ← h2]
  cases x <;> rfl
theorem refOut_eq {l : List api_Cell} (hl : l.length ≤ 1000) (hK : ∀ c ∈ l, KC c) (n : Int) : loopO (fleetref2_CompactOf_x5 n l) ([], 0) = some (l.filter (outB n l)) := by
  have := fold_loop0 (l := l) (f := fleetref2_CompactOf_x5 n l) (fun (s : List api_Cell) i => (s, i)) (fun s c => bif outB n l c then s ++ [c] else s) id (fun i s => s.length ≤ i) (s0 := []) (by omega)
    (fun i hi s hs => by
      have hc : (i : Int) < l.length := by omega
      have h2 : slices_ContainsFunc_api_Cell_api_Cell_f1_fleetref2_CompactOf_1 l (api_Cell.mk (api_Prop.mk l[i].Prop_.Name (api_Value.mk l[i].Prop_.Value.Kind l[i].Prop_.Value.Flag l[i].Prop_.Value.Number l[i].Prop_.Value.Words)) (api_Stamp.mk l[i].Stamp.At l[i].Stamp.By l[i].Stamp.No)) = some (l.any fun x => belB (nm x) (nm l[i])) := refUnder_eq hl (hK _ (List.getElem_mem hi))
      have h7 : fleetref2_CompactOf_x7 n l[i] (l.any fun x => belB (nm x) (nm l[i])) = some (outB n l l[i]) := by
        unfold fleetref2_CompactOf_x7 outB oldB fleetref2_valued
        simp only [Option.bind_some]
        by_cases hk : l[i].Prop_.Value.Kind = 0
        · by_cases ha : l[i].Stamp.At < n
          · have : ¬ n ≤ l[i].Stamp.At := by omega
            simp [hk, ha, this]
          · have : n ≤ l[i].Stamp.At := by omega
            simp [hk, ha, this]
        · simp [hk]
      refine ⟨?_, ?_⟩
      · unfold fleetref2_CompactOf_x5 fleetref2_CompactOf_x6
        simp only [hc, decide_true, cond_true, at_nat hi, Option.bind_some, h2, h7]
        cases outB n l l[i] with
        | false => rfl
        | true =>
          simp only [cond_true, gd]
          rw [lim_ok (by simp; omega)]
          rfl
      · cases outB n l l[i] <;> simp <;> omega)
    (fun s _ => by unfold fleetref2_CompactOf_x5; simp) (by simp)
  rw [this.1, foldl_filt]
  rfl
theorem refCpt_eq {l : List api_Cell} (hl : l.length ≤ 1000) (hK : ∀ c ∈ l, KC c) (n : Int) : fleetref2_CompactOf l n = some (cpt n l) := by
  have h := left_len n l
  unfold fleetref2_CompactOf
  rw [refOld_eq hl]
  simp only [Option.bind_some]
  rw [refLeft_eq hl hK]
  simp only [Option.bind_some]
  rw [refOut_eq (l := leftL n l) (by omega) (fun c hc => hK c (mem_left.1 hc).1)]
  rfl
theorem CellsSeen_true (L : List Int) (hL : L.length ≤ 9223372036854775807) (hI : ∀ n ∈ L, -9223372036854775808 ≤ n ∧ n ≤ 9223372036854775807) : fleetlaw2_CellsSeen L = some true := by
  apply Ok.eq
  unfold fleetlaw2_CellsSeen
  have h0 : StrOk 0 (fleetmake_Stream.mk L 0) := ⟨Int.le_refl _, by simp, hL, hI⟩
  refine (Cells_ok h0 (by omega)).bind fun ⟨s1, a⟩ ⟨a1, hK, a3⟩ => ?_
  simp only at a1 hK a3
  refine (Pick_ok a1 (by omega) (by simp) (by simp)).bind fun n _ => ?_
  obtain ⟨e, h1, h2, h3⟩ := cchecks (show a.length ≤ 400 by omega) hK
  have hx1 : fleetlaw2_CellsSeen_x1 n e = some (or0 e (bif decide (n < 0) || decide (345686400000 < n) then 1 else 0)) := by
    unfold fleetlaw2_CellsSeen_x1 fleetlaw2_when
    simp only [errs2, Option.bind_some]
    by_cases n0 : n < 0
    · simp [n0, errs2]
    · by_cases n1 : 345686400000 < n
      · simp [n0, n1, errs2]
      · simp [n0, n1, errs2]
  by_cases he : e = 0
  · subst he
    obtain ⟨hs, hg⟩ := h3 rfl
    have lv := vis_len a
    have lc := cpt_len n a
    rw [Visible_eq hg hs (by omega)]
    simp only [Option.bind_some, h2, hx1]
    by_cases hn : n < 0 ∨ 345686400000 < n
    · have hb : (decide (n < 0) || decide (345686400000 < n)) = true := by simpa using hn
      have hc : twin_Compact a n = some ([], 1) := by
        unfold twin_Compact
        rw [h1, Out_eq, hb]
        rfl
      rw [hc, hb]
      simp only [Option.bind_some, fleetlaw2_CellsSeen_x2, fleetlaw2_CellsSeen_x3, fleetlaw2_CellsSeen_x4, refVis_eq (show a.length ≤ 1000 by omega) hK, cond_true, or0, if_true, decide_true, show ¬ (1 : Int) = 0 by omega, decide_false, cond_false, pEqual_self (show ((vis a).length : Int) ≤ 9223372036854775807 by omega), cEqual_self (show (([] : List api_Cell).length : Int) ≤ 9223372036854775807 by simp), twinned_eq]
      exact .some rfl
    · have hb : (decide (n < 0) || decide (345686400000 < n)) = false := by simpa using hn
      rw [Compact_eq hg hs (by omega) (by omega), hb]
      simp only [Option.bind_some, fleetlaw2_CellsSeen_x2, fleetlaw2_CellsSeen_x3, fleetlaw2_CellsSeen_x4, refVis_eq (show a.length ≤ 1000 by omega) hK, refCpt_eq (show a.length ≤ 1000 by omega) hK, cond_true, or0, if_true, decide_true, cond_false, pEqual_self (show ((vis a).length : Int) ≤ 9223372036854775807 by omega), cEqual_self (show ((cpt n a).length : Int) ≤ 9223372036854775807 by omega), twinned_eq]
      exact .some rfl
  · have hv : twin_Visible a = some ([], e) := by
      unfold twin_Visible
      rw [h1]
      simp [he]
    have hc : twin_Compact a n = some ([], e) := by
      unfold twin_Compact
      rw [h1]
      simp [he]
    have ho : or0 e (bif decide (n < 0) || decide (345686400000 < n) then 1 else 0) = e := by unfold or0; rw [if_neg he]
    rw [hv, hc]
    simp only [Option.bind_some, h2, hx1, ho, fleetlaw2_CellsSeen_x2, fleetlaw2_CellsSeen_x3, fleetlaw2_CellsSeen_x4, he, decide_false, cond_false, decide_true, cond_true, pEqual_self (show (([] : List api_Prop).length : Int) ≤ 9223372036854775807 by simp), cEqual_self (show (([] : List api_Cell).length : Int) ≤ 9223372036854775807 by simp), twinned_eq]
    exact .some rfl
end Go.Eng

