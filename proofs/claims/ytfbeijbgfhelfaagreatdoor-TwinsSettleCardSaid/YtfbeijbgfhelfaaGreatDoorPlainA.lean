/-
What the plain functions of the law TwinsSettle answer, part 1.
-/
import Derived.Test.YtfbeijbgfhelfaaGreatDoorGenF
import Derived.KernelRfl
import Derived.Test.YtfbeijbgfhelfaaGreatDoorEngV
/-
Plain functions: what they answer, in total. Loops by an invariant and a measure.
-/
namespace Go.Eng
open Go
set_option linter.unusedVariables false
set_option linter.unusedSimpArgs false

def Ok {α : Type} (x : Option α) (P : α → Prop) : Prop := ∃ r, x = some r ∧ P r
section
variable {α β σ ρ : Type} {P Q : α → Prop} {R : β → Prop}
theorem Ok.some {r : α} (h : P r) : Ok (some r) P := ⟨r, rfl, h⟩
theorem Ok.mono {x : Option α} (h : Ok x P) (hq : ∀ r, P r → Q r) : Ok x Q := let ⟨r, h1, h2⟩ := h; ⟨r, h1, hq r h2⟩
theorem Ok.bind {x : Option α} {f : α → Option β} (h : Ok x P) (hf : ∀ r, P r → Ok (f r) R) : Ok (x.bind f) R := by
  obtain ⟨r, rfl, hr⟩ := h
  exact hf r hr
theorem Ok.cond {b : Bool} {x y : Option α} (ht : b = true → Ok x P) (hf : b = false → Ok y P) : Ok (cond b x y) P := by
  cases b
  · exact hf rfl
  · exact ht rfl
theorem Ok.gd {b : Bool} {x : Option α} (hb : b = true) (h : Ok x P) : Ok (gd b x) P := by
  subst hb; exact h
theorem Ok.eq {x : Option α} {r : α} (h : Ok x fun y => y = r) : x = Option.some r := by
  obtain ⟨y, h1, h2⟩ := h
  rw [h1, h2]
theorem Ok.of_eq {x : Option α} {r : α} (h : x = Option.some r) (hp : P r) : Ok x P := ⟨r, h, hp⟩

theorem loop_ok {f : σ → Option (σ ⊕ ρ)} {Q : ρ → Prop} (I : σ → Prop) (μ : σ → Nat)
    (step : ∀ s, I s → Ok (f s) fun x => match x with | .inl s' => I s' ∧ μ s' < μ s | .inr r => Q r) {s : σ} (h : I s) : Ok (loopO f s) Q := by
  generalize hn : μ s = n
  induction n using Nat.strongRecOn generalizing s with
  | _ n ih =>
    obtain ⟨x, h1, h2⟩ := step s h
    cases x with
    | inl s' =>
      obtain ⟨h3, h4⟩ := h2
      obtain ⟨r, h5, h6⟩ := ih (μ s') (by omega) h3 rfl
      refine ⟨r, ?_, h6⟩
      rw [loopO_eq, h1]
      exact h5
    | inr r =>
      refine ⟨r, ?_, h2⟩
      rw [loopO_eq, h1]
      rfl

theorem at_lt {l : List α} {n : Int} (h : 0 ≤ n) (h2 : n < l.length) : at? l n = Option.some (l[n.toNat]'(by omega)) := by
  unfold at?
  rw [if_pos h, List.getElem?_eq_getElem]
theorem at_nat {l : List α} {n : Nat} (h : n < l.length) : at? l (n : Int) = Option.some l[n] := by
  rw [at_lt (by omega) (by omega)]
  simp
theorem at_ok {l : List α} {n : Int} (h : 0 ≤ n) (h2 : n < l.length) : Ok (at? l n) (fun y => l[n.toNat]? = Option.some y) := by
  refine ⟨_, at_lt h h2, ?_⟩
  rw [List.getElem?_eq_getElem]
theorem at_mem {l : List α} {n : Int} (h : 0 ≤ n) (h2 : n < l.length) : Ok (at? l n) (fun y => y ∈ l) := by
  refine (at_ok h h2).mono fun y hy => List.mem_of_getElem? hy
end

/-! ### Integers of 64 bits -/
def I64 (n : Int) : Prop := -9223372036854775808 ≤ n ∧ n ≤ 9223372036854775807
theorem wrap64 {n : Int} (h : -9223372036854775808 ≤ n) (h2 : n ≤ 9223372036854775807) : IntKind.wrap .i64 n = n := by
  unfold IntKind.wrap
  simp [IntKind.min, IntKind.max, IntKind.bits, IntKind.signed]
  omega
theorem tmod_nonneg {a b : Int} (h : 0 ≤ a) : 0 ≤ a.tmod b := Int.tmod_nonneg b h
theorem tmod_lt' {a b : Int} (h : 0 < b) : a.tmod b < b := Int.tmod_lt_of_pos a h
theorem lim_eq : LIM = 137438953472 := by decide
theorem ble_lim {n : Nat} (h : n ≤ 137438953472) : Nat.ble n LIM = true := by rw [Nat.ble_eq, lim_eq]; exact h
end Go.Eng

/-
Loops over the elements of a list; keys.
-/
namespace Go.Eng
open Go
set_option linter.unusedVariables false
set_option linter.unusedSimpArgs false

/-- The first answer of the elements from number k on. -/
def scan {α ρ : Type} (g : Nat → α → Option ρ) : Nat → List α → Option ρ
  | _, [] => none
  | k, x :: xs => match g k x with
    | some r => some r
    | none => scan g (k + 1) xs

theorem drop_get {α : Type} {l : List α} {i : Nat} (h : i < l.length) : l.drop i = l[i] :: l.drop (i + 1) := List.drop_eq_getElem_cons h

/-- A loop over a list that ends at the first element with an answer. -/
theorem range_loop {α ρ : Type} {l : List α} {f : Int → Option (Int ⊕ ρ)} (g : Nat → α → Option ρ) (done : ρ) (hl : (l.length : Int) ≤ 9223372036854775807)
    (hf : ∀ (i : Nat) (h : i < l.length), f i = some (match g i l[i] with | none => .inl (IntKind.wrap .i64 (i + 1)) | some r => .inr r)) (hd : f l.length = some (.inr done)) :
    loopO f 0 = some ((scan g 0 l).getD done) := by
  have key : ∀ (n i : Nat), l.length - i = n → i ≤ l.length → loopO f i = some ((scan g i (l.drop i)).getD done) := by
    intro n
    induction n with
    | zero =>
      intro i h1 h2
      have : i = l.length := by omega
      subst this
      rw [loopO_eq, hd, List.drop_length]
      rfl
    | succ n ih =>
      intro i h1 h2
      have hi : i < l.length := by omega
      rw [loopO_eq, hf i hi, drop_get hi]
      simp only [scan]
      cases hg : g i l[i] with
      | some r => rfl
      | none =>
        simp only [Option.bind_some]
        rw [wrap64 (by omega) (by omega)]
        exact ih (i + 1) (by omega) (by omega)
  exact key l.length 0 (by omega) (by omega)

theorem scan_none {α ρ : Type} {g : Nat → α → Option ρ} : ∀ {l : List α} {k : Nat}, scan g k l = none ↔ ∀ (i : Nat) (x : α), l[i]? = some x → g (k + i) x = none
  | [], k => by simp [scan]
  | y :: l, k => by
    simp only [scan]
    cases hg : g k y with
    | some r =>
      simp only [reduceCtorEq, false_iff]
      intro h
      have := h 0 y rfl
      rw [Nat.add_zero, hg] at this
      cases this
    | none =>
      simp only
      rw [scan_none]
      constructor
      · intro h i x hi
        cases i with
        | zero => simp at hi; subst hi; exact hg
        | succ i => rw [show k + (i + 1) = k + 1 + i by omega]; exact h i x (by simpa using hi)
      · intro h i x hi
        rw [show k + 1 + i = k + (i + 1) by omega]
        exact h (i + 1) x (by simpa using hi)
/-! ### Keys -/
end Go.Eng

/-
Small checks; the order of measurements.
-/
namespace Go.Eng
open Go
set_option linter.unusedVariables false
set_option linter.unusedSimpArgs false

theorem Out_eq (n low high : Int) : base_Out n low high = some (decide (n < low) || decide (high < n)) := by
  unfold base_Out z56
  by_cases h : n < low <;> simp [h]
theorem Moment_eq (n : Int) : z49 n = some (decide (0 ≤ n) && decide (n ≤ 345686399999)) := by
  unfold z49
  rw [Out_eq]
  simp only [Option.bind_some]
  congr 1
  rw [Bool.eq_iff_iff]
  simp
/-! ### Orders -/
def cmpI (a b : Int) : Int := if a < b then -1 else if b < a then 1 else 0
def or0 (a b : Int) : Int := if a = 0 then b else a
theorem cmpB_self : ∀ a : List UInt8, Lib.compareBytes a a = 0
  | [] => rfl
  | x :: a => by
    unfold Lib.compareBytes
    simp [UInt8.lt_irrefl, cmpB_self a]
theorem cmpB_anti : ∀ a b : List UInt8, Lib.compareBytes b a = -Lib.compareBytes a b
  | [], [] => rfl
  | [], _ :: _ => rfl
  | _ :: _, [] => rfl
  | x :: a, y :: b => by
    unfold Lib.compareBytes
    by_cases h1 : x < y
    · have h2 : ¬ y < x := UInt8.lt_asymm h1
      simp [h1, h2]
    · by_cases h2 : y < x
      · simp [h1, h2]
      · simp [h1, h2, cmpB_anti a b]
theorem cmpB_zero : ∀ {a b : List UInt8}, Lib.compareBytes a b = 0 ↔ a = b
  | [], [] => by simp [Lib.compareBytes]
  | [], _ :: _ => by simp [Lib.compareBytes]
  | _ :: _, [] => by simp [Lib.compareBytes]
  | x :: a, y :: b => by
    unfold Lib.compareBytes
    by_cases h1 : x < y
    · have : x ≠ y := fun h => UInt8.lt_irrefl y (h ▸ h1)
      simp [h1, this]
    · by_cases h2 : y < x
      · have : x ≠ y := fun h => UInt8.lt_irrefl x (by rw [h] at h2 ⊢; exact h2)
        simp [h1, h2, this]
      · have : x = y := UInt8.le_antisymm (UInt8.not_lt.1 h2) (UInt8.not_lt.1 h1)
        simp [h1, h2, cmpB_zero (a := a) (b := b), this]
theorem cmpB_less : ∀ a b : List UInt8, Op.bytesLess a b = decide (Lib.compareBytes a b < 0)
  | [], [] => rfl
  | [], _ :: _ => rfl
  | _ :: _, [] => rfl
  | x :: a, y :: b => by
    unfold Lib.compareBytes
    rw [Op.bytesLess]
    by_cases h1 : x < y
    · simp [h1]
    · by_cases h2 : y < x
      · have h3 : ¬ x = y := fun h => UInt8.lt_irrefl x (by rw [h] at h2 ⊢; exact h2)
        simp [h1, h2, h3]
      · have h3 : x = y := UInt8.le_antisymm (UInt8.not_lt.1 h2) (UInt8.not_lt.1 h1)
        simp [h1, h2, h3, cmpB_less a b]
theorem cmpI_anti (a b : Int) : cmpI b a = -cmpI a b := by unfold cmpI; split <;> split <;> first | omega | (split <;> omega) | rfl
theorem or0_neg (a b : Int) : or0 (-a) (-b) = -or0 a b := by unfold or0; split <;> split <;> omega
end Go.Eng

/-
Checks of measurements and series, both ways.
-/
namespace Go.Eng
open Go
set_option linter.unusedVariables false
set_option linter.unusedSimpArgs false

theorem cmpInt_eq (a b : Int) : z96 a b = some (cmpI a b) := by
  unfold z96 z115 cmpI
  by_cases h1 : a < b
  · simp [h1]
  · by_cases h2 : b < a <;> simp [h1, h2]
theorem Or_eq (l : List Int) (hl : (l.length : Int) ≤ 9223372036854775807) : z106 l = some ((l.find? fun x => !decide (x = 0)).getD 0) := by
  unfold z106
  rw [range_loop (l := l) (fun _ x => cond (!decide (x = 0)) (some (.inr x)) none) (.inl ()) hl]
  · simp only [Option.bind_some]
    generalize 0 = k
    induction l generalizing k with
    | nil => rfl
    | cons c s ih =>
      simp only [scan, List.find?_cons]
      by_cases hc : c = 0
      · simp only [hc, decide_true, Bool.not_true, cond_false]
        exact ih (by simp at hl; omega) (k + 1)
      · simp [hc]
  · intro i hi
    unfold z110
    rw [at_nat hi]
    have : ((i : Int) < l.length) := by omega
    simp only [this, decide_true, cond_true, Option.bind_some]
    cases (!decide (l[i] = 0)) <;> rfl
  · unfold z110
    simp
/-! ### Check -/
end Go.Eng

/-
Sorting of few elements, and what is left of equal ones, for all kinds of elements.
-/
namespace Go.Eng
open Go
set_option linter.unusedVariables false
set_option linter.unusedSimpArgs false

theorem loop_in {σ ρ : Type} {f : σ → Option (σ ⊕ ρ)} {s s' : σ} (h : f s = some (.inl s')) : loopO f s = loopO f s' := by rw [loopO_eq, h]; rfl
theorem loop_out {σ ρ : Type} {f : σ → Option (σ ⊕ ρ)} {s : σ} {r : ρ} (h : f s = some (.inr r)) : loopO f s = some r := by rw [loopO_eq, h]; rfl

section
variable {α : Type}
/-! ### Insertion, as the code has it -/
noncomputable def gI3 (cmp : α → α → Option Int) (qa : Int) (vl3 : List α) (vj1 : Int) : Option (Bool) :=
  cond (decide (qa < vj1))
    ((at? vl3 vj1).bind fun vy15 =>
    (at? vl3 (IntKind.wrap .i64 (vj1 - 1))).bind fun vy16 =>
    (cmp vy15 vy16).bind fun vr1_3 =>
    some (decide (vr1_3 < 0)))
    (some false)
noncomputable def gI2 (cmp : α → α → Option Int) (qa : Int) : (List α) × Int → Option (((List α) × Int) ⊕ ((List α)))
  | (vl3, vj1) =>
  (gI3 cmp qa vl3 vj1).bind fun vx4_1 =>
  cond (vx4_1)
    ((at? vl3 (IntKind.wrap .i64 (vj1 - 1))).bind fun vy17 =>
    (at? vl3 vj1).bind fun vy18 =>
    (at? (vl3.set vj1.toNat vy17) (IntKind.wrap .i64 (vj1 - 1))).bind fun vy19 =>
    some (.inl ((vl3.set vj1.toNat vy17).set (IntKind.wrap .i64 (vj1 - 1)).toNat vy18, IntKind.wrap .i64 (vj1 - 1))))
    (some (.inr vl3))
noncomputable def gI1 (cmp : α → α → Option Int) (qa : Int) (qb : Int) : (List α) × Int → Option (((List α) × Int) ⊕ ((List α)))
  | (vl, vi) =>
  cond (decide (vi < qb))
    ((loopO (gI2 cmp qa) (vl, vi)).bind fun vl4_1 =>
    some (.inl (vl4_1, IntKind.wrap .i64 (vi + 1))))
    (some (.inr vl))
noncomputable def gI (cmp : α → α → Option Int) (qdata : List α) (qa : Int) (qb : Int) : Option ((List α)) :=
  (loopO (gI1 cmp qa qb) (qdata, IntKind.wrap .i64 (qa + 1))).bind fun vl5_1 =>
  some vl5_1
noncomputable def gS1 (cmp : α → α → Option Int) (qn : Int) : (List α) × Int × Int → Option (((List α) × Int × Int) ⊕ (((List α) × Int)))
  | (vl, va, vb) =>
  cond (decide (vb ≤ qn))
    ((gI cmp vl va vb).bind fun vl6_1 =>
    gd (vl6_1.length == vl.length) <|
    some (.inl (vl6_1, vb, IntKind.wrap .i64 (vb + 20))))
    (some (.inr (vl, va)))
noncomputable def gS3 (qn : Int) (vblockSize : Int) : Unit → Option ((Unit) ⊕ (Unit))
  | _ =>
  cond (decide ((IntKind.wrap .i64 ((2 : Int) * vblockSize)) ≤ qn))
    (none)
    (some (.inr ()))
noncomputable def gS2 (qn : Int) (vblockSize : Int) : Option ((Int) ⊕ (Unit)) :=
  cond (decide (vblockSize < qn))
    ((loopO (gS3 qn vblockSize) ()).bind fun _ =>
    cond (decide ((IntKind.wrap .i64 ((0 : Int) + vblockSize)) < qn))
      (none)
      (some (.inl (IntKind.wrap .i64 (vblockSize * 2)))))
    (some (.inr ()))
noncomputable def gS (cmp : α → α → Option Int) (qdata : List α) (qn : Int) : Option ((List α)) :=
  (loopO (gS1 cmp qn) (qdata, 0, 20)).bind fun (vl1_1, va1_1) =>
  (gI cmp vl1_1 va1_1 qn).bind fun vl6_2 =>
  gd (vl6_2.length == vl1_1.length) <|
  (loopO (gS2 qn) 20).bind fun _ =>
  some vl6_2
noncomputable def gSort (cmp : α → α → Option Int) (qx : List α) : Option ((List α)) :=
  (gS cmp qx (qx.length : Int)).bind fun vl2 =>
  gd (vl2.length == qx.length) <|
  some vl2

def All (p : α → Prop) (l : List α) : Prop := ∀ x ∈ l, p x
theorem All.nil {p : α → Prop} : All p [] := fun _ h => nomatch h
theorem All.set {p : α → Prop} {l : List α} (h : All p l) {i : Nat} {x : α} (hx : p x) : All p (l.set i x) := by
  intro y hy
  rcases List.mem_or_eq_of_mem_set hy with hy | rfl
  · exact h y hy
  · exact hx
theorem All.at {p : α → Prop} {l : List α} (h : All p l) {i : Nat} (hi : i < l.length) : p l[i] := h _ (List.getElem_mem hi)

/-! ### Equal ones, as the code has it -/
noncomputable def gC3 (t : α → α → Option Bool) (qx : List α) (vx : Int) (vl4 : List α) (vx6 : Int) (vx7 : Int) : Option (((List α) × Int)) :=
  gd (decide (0 ≤ vx) && decide (0 ≤ vx7) && decide (vx7 < (qx.length : Int) - vx)) <|
  (at? vl4 (vx + vx7)).bind fun vy13 =>
  gd (decide (0 ≤ vx) && decide (0 ≤ (IntKind.wrap .i64 (vx7 - 1))) && decide ((IntKind.wrap .i64 (vx7 - 1)) < (qx.length : Int) - vx)) <|
  (at? vl4 (vx + (IntKind.wrap .i64 (vx7 - 1)))).bind fun vy14 =>
  (t vy13 vy14).bind fun vr5 =>
  cond (!vr5)
    ((at? vl4 vx6).bind fun vy15 =>
    some (vl4.set vx6.toNat vy13, IntKind.wrap .i64 (vx6 + 1)))
    (some (vl4, vx6))
noncomputable def gC2 (t : α → α → Option Bool) (qx : List α) (vx : Int) : (List α) × Int × Int → Option (((List α) × Int × Int) ⊕ (((List α) × Int)))
  | (vl4, vx6, vx7) =>
  cond (decide (vx7 < (((qx.length : Int).toNat - vx.toNat : Nat) : Int)))
    ((gC3 t qx vx vl4 vx6 vx7).bind fun (vl6_1, vx9_1) =>
    some (.inl (vl6_1, vx9_1, IntKind.wrap .i64 (vx7 + 1))))
    (some (.inr (vl4, vx6)))
noncomputable def gC1 (t : α → α → Option Bool) (z : α) (qx : List α) (vx : Int) : Option ((Int) ⊕ (Unit ⊕ (List α))) :=
  cond (decide (vx < (qx.length : Int)))
    ((at? qx vx).bind fun vy8 =>
    (at? qx (IntKind.wrap .i64 (vx - 1))).bind fun vy9 =>
    (t vy8 vy9).bind fun vr3 =>
    cond (vr3)
      (gd (decide (0 ≤ vx) && decide (vx ≤ (qx.length : Int)) && decide ((qx.length : Int) ≤ (qx.length : Int))) <|
      (loopO (gC2 t qx vx) (qx, vx, 1)).bind fun (vl7_1, vx10_1) =>
      gd (decide (0 ≤ vx10_1) && decide (vx10_1 ≤ (vl7_1.length : Int)) && decide ((vl7_1.length : Int) ≤ (vl7_1.length : Int))) <|
      gd (decide (0 ≤ vx10_1) && decide (vx10_1 ≤ ((vl7_1.take vx10_1.toNat ++ (List.replicate ((vl7_1.length : Int).toNat - vx10_1.toNat) z ++ vl7_1.drop (vx10_1.toNat + ((vl7_1.length : Int).toNat - vx10_1.toNat)))).length : Int))) <|
      some (.inr (.inr ((vl7_1.take vx10_1.toNat ++ (List.replicate ((vl7_1.length : Int).toNat - vx10_1.toNat) z ++ vl7_1.drop (vx10_1.toNat + ((vl7_1.length : Int).toNat - vx10_1.toNat)))).take vx10_1.toNat))))
      (some (.inl (IntKind.wrap .i64 (vx + 1)))))
    (some (.inr (.inl ())))
noncomputable def gCom (t : α → α → Option Bool) (z : α) (qx : List α) : Option ((List α)) :=
  cond (decide ((qx.length : Int) < 2))
    (some qx)
    ((loopO (gC1 t z qx) 1).bind fun x => match x with
      | .inl _ =>
        some qx
      | .inr vx11_1 =>
        some vx11_1)

theorem take_part {l m : List α} {k : Nat} (h : k ≤ l.length) : (l.take k ++ m).take k = l.take k := by
  rw [List.take_append_of_le_length (by simp; omega), List.take_take]
  congr 1
  omega
end
end Go.Eng

/-
Insertion sorts; what is left of equal ones rises.
-/
namespace Go.Eng
open Go
set_option linter.unusedVariables false
set_option linter.unusedSimpArgs false
section
variable {α : Type}
/-- the first n are in order -/
def Ord (f : α → α → Int) (l : List α) (n : Nat) : Prop := ∀ p q (hp : p < q) (hq : q < n) (hn : n ≤ l.length), f (l[p]'(by omega)) (l[q]'(by omega)) ≤ 0

theorem gI2_ord {P : α → Prop} {f : α → α → Int} {c : α → α → Option Int} (hc : ∀ x y, P x → P y → c x y = some (f x y)) (anti : ∀ x y, f y x = - f x y) (tr : ∀ x y z, f x y ≤ 0 → f y z ≤ 0 → f x z ≤ 0)
    {n : Nat} (hn : n ≤ 100000) {l : List α} (hl : l.length = n) (hP : All P l) {i : Nat} (hi : i < n) (ho : Ord f l i) :
    Ok (loopO (gI2 c 0) (l, (i : Int))) (fun r => r.length = n ∧ All P r ∧ Ord f r (i + 1)) := by
  refine loop_ok (fun s : List α × Int => s.1.length = n ∧ All P s.1 ∧ ∃ j : Nat, s.2 = (j : Int) ∧ j ≤ i ∧ ∀ p q (hp : p < q) (hq : q ≤ i) (hqj : q ≠ j) (hs : i < s.1.length), f (s.1[p]'(by omega)) (s.1[q]'(by omega)) ≤ 0) (fun s => s.2.toNat) ?_
    ⟨hl, hP, i, rfl, Nat.le_refl _, fun p q hp hq hqj hs => ho p q hp (by omega) (by simp only at hs; omega)⟩
  rintro ⟨m, q⟩ ⟨m1, m2, j, rfl, j1, j2⟩
  simp only at m1 m2 j2
  unfold gI2 gI3
  by_cases hj : (0 : Int) < j
  · have w1 : IntKind.wrap .i64 ((j : Int) - 1) = ((j - 1 : Nat) : Int) := by rw [wrap64 (by omega) (by omega)]; omega
    have hjm : j < m.length := by omega
    have hjm1 : j - 1 < m.length := by omega
    have hy := m2 _ (List.getElem_mem hjm)
    have hx := m2 _ (List.getElem_mem hjm1)
    simp only [hj, decide_true, cond_true, w1, at_nat hjm, at_nat hjm1, Option.bind_some, hc _ _ hy hx]
    refine .cond (fun hlt => ?_) (fun hge => ?_)
    · have hlt := of_decide_eq_true hlt
      have g3 : at? (m.set (j : Int).toNat m[j - 1]) ((j - 1 : Nat) : Int) = some m[j - 1] := by
        rw [at_nat (by simp; omega)]
        simp only [Int.toNat_natCast, List.getElem_set]
        rw [if_neg (by omega)]
      rw [g3]
      simp only [Option.bind_some, Int.toNat_natCast]
      refine .some ⟨⟨by simp [m1], (m2.set hx).set hy, j - 1, rfl, by omega, ?_⟩, by simp only; omega⟩
      intro p q hp hq hqj hs
      simp only [List.getElem_set]
      have hin : i < m.length := by omega
      by_cases q1 : q = j
      · subst q1
        by_cases p1 : p = q - 1
        · subst p1
          have e1 : ¬ (q - 1 = q) := by omega
          simp only [e1, if_true, if_false]
          omega
        · have e1 : ¬ (q - 1 = p) := by omega
          have e2 : ¬ (q = p) := by omega
          have e3 : ¬ (q - 1 = q) := by omega
          simp only [e1, e2, e3, if_true, if_false]
          exact j2 p (q - 1) (by omega) (by omega) (by omega) hin
      · have e4 : ¬ (j = q) := by omega
        have e5 : ¬ (j - 1 = q) := by omega
        simp only [e4, e5, if_false]
        by_cases p1 : p = j - 1
        · subst p1
          simp only [if_true]
          exact j2 j q (by omega) hq q1 hin
        · by_cases p2 : p = j
          · subst p2
            have e6 : ¬ (p - 1 = p) := by omega
            simp only [e6, if_true, if_false]
            exact j2 (p - 1) q (by omega) hq q1 hin
          · have e7 : ¬ (j - 1 = p) := by omega
            have e8 : ¬ (j = p) := by omega
            simp only [e7, e8, if_false]
            exact j2 p q hp hq q1 hin
    · have hge := of_decide_eq_false hge
      refine .some ⟨m1, m2, fun p q hp hq hs => ?_⟩
      have hin : i < m.length := by omega
      by_cases q1 : q = j
      · subst q1
        have h0 : f m[q - 1] m[q] ≤ 0 := by have := anti m[q] m[q - 1]; omega
        by_cases p1 : p = q - 1
        · subst p1; exact h0
        · exact tr _ _ _ (j2 p (q - 1) (by omega) (by omega) (by omega) hin) h0
      · exact j2 p q hp (by omega) q1 hin
  · have hj' : ¬ (0 : Int) < j := hj
    have j0 : j = 0 := by omega
    subst j0
    simp only [hj', decide_false, cond_false, Option.bind_some]
    exact .some ⟨m1, m2, fun p q hp hq hs => j2 p q hp (by omega) (by omega) (by omega)⟩
theorem gI_ord {P : α → Prop} {f : α → α → Int} {c : α → α → Option Int} (hc : ∀ x y, P x → P y → c x y = some (f x y)) (anti : ∀ x y, f y x = - f x y) (tr : ∀ x y z, f x y ≤ 0 → f y z ≤ 0 → f x z ≤ 0)
    {l : List α} (hl : l.length ≤ 100000) (hP : All P l) : Ok (gI c l 0 l.length) (fun r => r.length = l.length ∧ All P r ∧ Ord f r l.length) := by
  unfold gI
  have w : IntKind.wrap .i64 ((0 : Int) + 1) = 1 := by decide
  rw [w]
  refine Ok.bind (P := fun r : List α => r.length = l.length ∧ All P r ∧ Ord f r l.length) (loop_ok (fun s : List α × Int => s.1.length = l.length ∧ All P s.1 ∧ ∃ i : Nat, s.2 = (i : Int) ∧ 1 ≤ i ∧ Ord f s.1 (min i l.length)) (fun s => ((l.length : Int) - s.2).toNat) ?_
    ⟨rfl, hP, 1, rfl, by omega, fun p q hp hq hn => by omega⟩) fun r hr => .some hr
  rintro ⟨m, q⟩ ⟨m1, m2, i, rfl, i1, i2⟩
  simp only at m1 m2 i2
  unfold gI1
  by_cases hi : i < l.length
  · have hi' : (i : Int) < l.length := by omega
    have w1 : IntKind.wrap .i64 ((i : Int) + 1) = ((i + 1 : Nat) : Int) := by rw [wrap64 (by omega) (by omega)]; omega
    simp only [hi', decide_true, cond_true]
    rw [Nat.min_eq_left (by omega)] at i2
    refine (gI2_ord hc anti tr (n := l.length) hl m1 m2 hi i2).bind fun r hr => ?_
    rw [w1]
    refine .some ⟨⟨hr.1, hr.2.1, i + 1, rfl, by omega, ?_⟩, by simp only; omega⟩
    rw [Nat.min_eq_left (by omega)]
    exact hr.2.2
  · have hi' : ¬ (i : Int) < l.length := by omega
    simp only [hi', decide_false, cond_false]
    rw [Nat.min_eq_right (by omega)] at i2
    exact .some ⟨m1, m2, i2⟩
end
end Go.Eng

/-
Loops that only gather.
-/
namespace Go.Eng
open Go
set_option linter.unusedVariables false
set_option linter.unusedSimpArgs false

/-- A loop over all elements of a list that only gathers. -/
theorem fold_loop0 {τ σ ρ α : Type} {l : List α} {f : τ → Option (τ ⊕ ρ)} (e : σ → Int → τ) (h : σ → α → σ) (fin : σ → ρ) (I : Nat → σ → Prop) {s0 : σ} (hl : (l.length : Int) ≤ 9223372036854775807)
    (hf : ∀ (i : Nat) (hi : i < l.length) (s : σ), I i s → f (e s i) = some (.inl (e (h s l[i]) (IntKind.wrap .i64 (i + 1)))) ∧ I (i + 1) (h s l[i])) (hd : ∀ s, I l.length s → f (e s l.length) = some (.inr (fin s))) (h0 : I 0 s0) :
    loopO f (e s0 0) = some (fin (l.foldl h s0)) ∧ I l.length (l.foldl h s0) := by
  have key : ∀ (n i : Nat) (s : σ), l.length - i = n → i ≤ l.length → I i s → loopO f (e s i) = some (fin ((l.drop i).foldl h s)) ∧ I l.length ((l.drop i).foldl h s) := by
    intro n
    induction n with
    | zero =>
      intro i s h1 h2 h3
      have : i = l.length := by omega
      subst this
      rw [List.drop_length]
      refine ⟨?_, h3⟩
      rw [loopO_eq, hd s h3]
      rfl
    | succ n ih =>
      intro i s h1 h2 h3
      have hi : i < l.length := by omega
      obtain ⟨g1, g2⟩ := hf i hi s h3
      obtain ⟨f1, f2⟩ := ih (i + 1) (h s l[i]) (by omega) (by omega) g2
      rw [List.drop_eq_getElem_cons hi, List.foldl_cons]
      refine ⟨?_, f2⟩
      rw [loopO_eq, g1]
      simp only [Option.bind_some]
      rw [wrap64 (by omega) (by omega)]
      exact f1
  have := key l.length 0 s0 (by omega) (by omega) h0
  simpa using this
theorem scan_find0 {α : Type} {p : α → Bool} : ∀ {l : List α} {k : Nat}, ∃ r : Int, (match (scan (fun i x => cond (p x) (some (Sum.inr (i : Int) : Unit ⊕ Int)) none) k l).getD (.inl ()) with | .inl _ => (-1 : Int) | .inr v => v) = r ∧ decide (0 ≤ r) = l.any p
  | [], k => ⟨-1, rfl, rfl⟩
  | x :: l, k => by
    simp only [scan, List.any_cons]
    cases p x with
    | true => exact ⟨k, rfl, by simp⟩
    | false => simp only [cond_false, Bool.false_or]; exact scan_find0 (l := l) (k := k + 1)
/-- A search for the first element that meets a test: is there one? -/
theorem find_loop {α : Type} {l : List α} {f : Int → Option (Int ⊕ (Unit ⊕ Int))} (p : α → Bool) (hl : (l.length : Int) ≤ 9223372036854775807)
    (hf : ∀ (i : Nat) (h : i < l.length), f i = some (cond (p l[i]) (.inr (.inr (i : Int))) (.inl (IntKind.wrap .i64 ((i : Int) + 1))))) (hd : f l.length = some (.inr (.inl ()))) :
    ∃ x, loopO f 0 = some x ∧ decide (0 ≤ (match x with | .inl _ => (-1 : Int) | .inr v => v)) = l.any p := by
  refine ⟨_, range_loop (l := l) (fun i x => cond (p x) (some (.inr (i : Int))) none) (.inl ()) hl (fun i h => ?_) hd, ?_⟩
  · rw [hf i h]
    cases p l[i] <;> rfl
  · obtain ⟨r, h1, h2⟩ := scan_find0 (p := p) (l := l) (k := 0)
    rw [h1]; exact h2
end Go.Eng

/-
What the laws ask of each package once.
-/
namespace Go.Eng
open Go
end Go.Eng

/-
Twins: the order of names and of stamps; sorted cells as tables; merging.
-/
namespace Go.Eng
open Go
set_option linter.unusedVariables false
set_option linter.unusedSimpArgs false

/-! ### Orders -/
theorem cmpB_tr : ∀ {a b c : List UInt8}, Lib.compareBytes a b ≤ 0 → Lib.compareBytes b c ≤ 0 → Lib.compareBytes a c ≤ 0
  | [], [], c, _, h => h
  | [], _ :: _, [], _, _ => by simp [Lib.compareBytes]
  | [], _ :: _, _ :: _, _, _ => by simp [Lib.compareBytes]
  | _ :: _, [], _, h, _ => by simp [Lib.compareBytes] at h
  | _ :: _, _ :: _, [], _, h => by simp [Lib.compareBytes] at h
  | x :: a, y :: b, z :: c, h1, h2 => by
    unfold Lib.compareBytes at *
    by_cases xy : x < y
    · by_cases yz : y < z
      · simp [UInt8.lt_trans xy yz]
      · by_cases zy : z < y
        · simp [yz, zy] at h2
        · have e : y = z := UInt8.le_antisymm (UInt8.not_lt.1 zy) (UInt8.not_lt.1 yz)
          subst e; simp [xy]
    · by_cases yx : y < x
      · simp [xy, yx] at h1
      · have e : x = y := UInt8.le_antisymm (UInt8.not_lt.1 yx) (UInt8.not_lt.1 xy)
        subst e
        simp only [xy, if_false] at h1
        by_cases xz : x < z
        · simp [xz]
        · by_cases zx : z < x
          · simp [xz, zx] at h2
          · simp only [xz, zx, if_false] at h2 ⊢
            exact cmpB_tr h1 h2
/-- one name is ahead of another one -/
def nlt (a b : List UInt8) : Prop := Lib.compareBytes a b < 0
theorem nlt_irrefl (a : List UInt8) : ¬ nlt a a := by unfold nlt; rw [cmpB_self]; omega
theorem nlt_trans {a b c : List UInt8} (h1 : nlt a b) (h2 : nlt b c) : nlt a c := by
  unfold nlt at *
  have h := cmpB_tr (a := a) (b := b) (c := c) (by omega) (by omega)
  by_cases h0 : Lib.compareBytes a c = 0
  · have := cmpB_zero.1 h0
    subst this
    have := cmpB_anti a b
    omega
  · omega
theorem nlt_asymm {a b : List UInt8} (h : nlt a b) : ¬ nlt b a := fun h2 => nlt_irrefl a (nlt_trans h h2)
theorem nlt_ne {a b : List UInt8} (h : nlt a b) : a ≠ b := fun e => nlt_irrefl b (e ▸ h)
theorem cmpB_cases (a b : List UInt8) : nlt a b ∨ a = b ∨ nlt b a := by
  unfold nlt
  have := cmpB_anti a b
  by_cases h0 : Lib.compareBytes a b = 0
  · exact .inr (.inl (cmpB_zero.1 h0))
  · omega
theorem cmp_pos {a b : List UInt8} : 0 < Lib.compareBytes a b ↔ nlt b a := by unfold nlt; have := cmpB_anti a b; omega

def stO (a b : api_Stamp) : Int := or0 (cmpI a.At b.At) (or0 (Lib.compareBytes a.By b.By) (cmpI a.No b.No))
theorem stO_anti (a b : api_Stamp) : stO b a = - stO a b := by
  unfold stO
  rw [cmpB_anti a.By b.By, cmpI_anti a.At b.At, cmpI_anti a.No b.No, or0_neg, or0_neg]
theorem cmpI_zero {a b : Int} : cmpI a b = 0 ↔ a = b := by unfold cmpI; (repeat' split) <;> omega
theorem cmpI_le {a b : Int} : cmpI a b ≤ 0 ↔ a ≤ b := by unfold cmpI; (repeat' split) <;> omega
theorem or0_zero {a b : Int} : or0 a b = 0 ↔ a = 0 ∧ b = 0 := by unfold or0; split <;> omega
theorem stO_zero {a b : api_Stamp} : stO a b = 0 ↔ a = b := by
  unfold stO
  rw [or0_zero, or0_zero, cmpI_zero, cmpB_zero, cmpI_zero]
  obtain ⟨a1, a2, a3⟩ := a
  obtain ⟨b1, b2, b3⟩ := b
  simp
theorem stO_self (a : api_Stamp) : stO a a = 0 := stO_zero.2 rfl
theorem stO_tr {a b c : api_Stamp} (h1 : stO a b ≤ 0) (h2 : stO b c ≤ 0) : stO a c ≤ 0 := by
  unfold stO or0 at *
  have t2 := cmpB_tr (a := a.By) (b := b.By) (c := c.By)
  have z2 : Lib.compareBytes a.By b.By = 0 → a.By = b.By := cmpB_zero.1
  have z3 : Lib.compareBytes b.By c.By = 0 → b.By = c.By := cmpB_zero.1
  have z4 : Lib.compareBytes a.By c.By = 0 → a.By = c.By := cmpB_zero.1
  by_cases a1 : cmpI a.At b.At = 0
  · rw [cmpI_zero.1 a1]
    rw [if_pos a1] at h1
    by_cases a2 : cmpI b.At c.At = 0
    · rw [if_pos a2] at h2 ⊢
      by_cases b1 : Lib.compareBytes a.By b.By = 0
      · rw [if_pos b1] at h1
        rw [z2 b1]
        by_cases b2 : Lib.compareBytes b.By c.By = 0
        · rw [if_pos b2] at h2 ⊢
          rw [cmpI_le] at *; omega
        · rw [if_neg b2] at h2 ⊢; exact h2
      · rw [if_neg b1] at h1
        by_cases b2 : Lib.compareBytes b.By c.By = 0
        · rw [← z3 b2, if_neg b1]; exact h1
        · rw [if_neg b2] at h2
          have h3 := t2 h1 h2
          by_cases b3 : Lib.compareBytes a.By c.By = 0
          · exfalso
            rw [← z4 b3, cmpB_anti] at h2
            omega
          · rw [if_neg b3]; exact h3
    · rw [if_neg a2] at h2 ⊢; exact h2
  · rw [if_neg a1] at h1
    by_cases a2 : cmpI b.At c.At = 0
    · rw [← cmpI_zero.1 a2, if_neg a1]; exact h1
    · rw [if_neg a2] at h2
      have l1 := cmpI_le.1 h1
      have l2 := cmpI_le.1 h2
      have n1 : ¬ a.At = b.At := fun e => a1 (cmpI_zero.2 e)
      have n2 : ¬ b.At = c.At := fun e => a2 (cmpI_zero.2 e)
      have n3 : cmpI a.At c.At ≠ 0 := fun e => by have := cmpI_zero.1 e; omega
      rw [if_neg n3]
      exact cmpI_le.2 (by omega)
theorem byStamp_eq (a b : api_Stamp) : z1135 a b = some (stO a b) := by
  unfold z1135 z905 z93
  simp only [Option.bind_some, cmpInt_eq]
  rw [Or_eq _ (by simp)]
  unfold stO or0
  simp only [Option.bind_some]
  by_cases h1 : cmpI a.At b.At = 0 <;> by_cases h2 : Lib.compareBytes a.By b.By = 0 <;> by_cases h3 : cmpI a.No b.No = 0 <;> simp [h1, h2, h3]

/-! ### Sorted cells -/
abbrev nm (c : api_Cell) : List UInt8 := c.Prop_.Name
def Srt (l : List api_Cell) : Prop := l.Pairwise fun x y => nlt (nm x) (nm y)
/-- the cell of a name -/
noncomputable def lk (l : List api_Cell) (n : List UInt8) : Option api_Cell := l.find? fun c => decide (nm c = n)
theorem lk_some {l : List api_Cell} {n : List UInt8} {c : api_Cell} (h : lk l n = some c) : c ∈ l ∧ nm c = n := ⟨List.mem_of_find?_eq_some h, by simpa using List.find?_some h⟩
theorem lk_mem {l : List api_Cell} (hs : Srt l) {c : api_Cell} (h : c ∈ l) : lk l (nm c) = some c := by
  induction l with
  | nil => cases h
  | cons x l ih =>
    have hs' := List.pairwise_cons.1 hs
    unfold lk
    rw [List.find?_cons]
    rcases List.mem_cons.1 h with rfl | h
    · simp
    · have : nm x ≠ nm c := nlt_ne (hs'.1 c h)
      simp only [this, decide_false]
      exact ih hs'.2 h
theorem lk_none {l : List api_Cell} {n : List UInt8} : lk l n = none ↔ ∀ c ∈ l, nm c ≠ n := by
  unfold lk
  rw [List.find?_eq_none]
  simp
theorem srt_ext : ∀ {l m : List api_Cell}, Srt l → Srt m → (∀ c, c ∈ l ↔ c ∈ m) → l = m
  | [], [], _, _, _ => rfl
  | [], y :: m, _, _, h => by have := (h y).2 (by simp); cases this
  | x :: l, [], _, _, h => by have := (h x).1 (by simp); cases this
  | x :: l, y :: m, h1, h2, h => by
    have g1 := List.pairwise_cons.1 h1
    have g2 := List.pairwise_cons.1 h2
    have e : x = y := by
      rcases List.mem_cons.1 ((h x).1 (by simp)) with e | hx
      · exact e
      · rcases List.mem_cons.1 ((h y).2 (by simp)) with e | hy
        · exact e.symm
        · exact absurd (g1.1 y hy) (nlt_asymm (g2.1 x hx))
    subst e
    have : l = m := srt_ext g1.2 g2.2 fun c => by
      constructor
      · intro hc
        rcases List.mem_cons.1 ((h c).1 (by simp [hc])) with e | hm
        · exact absurd (g1.1 c hc) (e ▸ nlt_irrefl _)
        · exact hm
      · intro hc
        rcases List.mem_cons.1 ((h c).2 (by simp [hc])) with e | hm
        · exact absurd (g2.1 c hc) (e ▸ nlt_irrefl _)
        · exact hm
    rw [this]
/-! ### Merging -/
theorem veq_iff {a b : api_Value} : (decide (a.Kind = b.Kind) && ((a.Flag == b.Flag) && (decide (a.Number = b.Number) && (decide (a.Words = b.Words) && true)))) = true ↔ a = b := by
  obtain ⟨a1, a2, a3, a4⟩ := a
  obtain ⟨b1, b2, b3, b4⟩ := b
  simp
theorem ceq_iff {a b : api_Cell} (hn : nm a = nm b) (hs : a.Stamp = b.Stamp) (hv : a.Prop_.Value = b.Prop_.Value) : a = b := by
  obtain ⟨⟨a1, a2⟩, a3⟩ := a
  obtain ⟨⟨b1, b2⟩, b3⟩ := b
  unfold nm at hn
  simp only at hn hs hv
  rw [hn, hs, hv]
/-- two cells of one name: none fits, where they clash -/
def clash (c d : api_Cell) : Prop := stO c.Stamp d.Stamp = 0 ∧ c.Prop_.Value ≠ d.Prop_.Value
noncomputable def pick (c d : api_Cell) : api_Cell := if 0 ≤ stO c.Stamp d.Stamp then c else d
open Classical in
noncomputable def mrg : List api_Cell → List api_Cell → Option (List api_Cell)
  | [], b => some b
  | x :: a, [] => some (x :: a)
  | x :: a, y :: b =>
    if nlt (nm x) (nm y) then (mrg a (y :: b)).map (x :: ·)
    else if nlt (nm y) (nm x) then (mrg (x :: a) b).map (y :: ·)
    else if clash x y then none else (mrg a b).map (pick x y :: ·)
termination_by a b => a.length + b.length
noncomputable def comb : Option api_Cell → Option api_Cell → Option api_Cell
  | none, x => x
  | some c, none => some c
  | some c, some d => some (pick c d)
theorem comb_none (x : Option api_Cell) : comb x none = x := by cases x <;> rfl
theorem pick_nm {c d : api_Cell} (h : nm c = nm d) : nm (pick c d) = nm c := by unfold pick; split <;> simp [h]
theorem lk_cons (x : api_Cell) (l : List api_Cell) (n : List UInt8) : lk (x :: l) n = if nm x = n then some x else lk l n := by
  unfold lk
  rw [List.find?_cons]
  by_cases h : nm x = n <;> simp [h]
theorem lk_far {l : List api_Cell} {n : List UInt8} (h : ∀ c ∈ l, nlt n (nm c)) : lk l n = none := lk_none.2 fun c hc e => nlt_irrefl n (by have := h c hc; rw [e] at this; exact this)

open Classical in
theorem mrg_spec : ∀ (a b : List api_Cell), Srt a → Srt b →
    (match mrg a b with
     | some r => Srt r ∧ (∀ n, lk r n = comb (lk a n) (lk b n)) ∧ (∀ n c d, lk a n = some c → lk b n = some d → ¬ clash c d) ∧ (∀ n, (∀ c ∈ a, nlt n (nm c)) → (∀ c ∈ b, nlt n (nm c)) → ∀ c ∈ r, nlt n (nm c)) ∧ r.length ≤ a.length + b.length
     | none => ∃ n c d, lk a n = some c ∧ lk b n = some d ∧ clash c d)
  | [], b, _, hb => by
    rw [mrg]
    exact ⟨hb, fun n => rfl, (fun n c d h => by cases h), (fun n _ h => h), by simp⟩
  | x :: a, [], ha, _ => by
    rw [mrg]
    exact ⟨ha, fun n => (comb_none _).symm, (fun n c d _ h => by cases h), (fun n h _ => h), by simp⟩
  | x :: a, y :: b, ha, hb => by
    have ga := List.pairwise_cons.1 ha
    have gb := List.pairwise_cons.1 hb
    rw [mrg]
    by_cases h1 : nlt (nm x) (nm y)
    · rw [if_pos h1]
      have ih := mrg_spec a (y :: b) ga.2 hb
      have hyb : ∀ c ∈ y :: b, nlt (nm x) (nm c) := fun c hc => by
        rcases List.mem_cons.1 hc with rfl | hc
        · exact h1
        · exact nlt_trans h1 (gb.1 c hc)
      cases hm : mrg a (y :: b) with
      | none =>
        rw [hm] at ih
        obtain ⟨n, c, d, e1, e2, e3⟩ := ih
        refine ⟨n, c, d, ?_, e2, e3⟩
        rw [lk_cons]
        have : nm x ≠ n := fun e => by
          have := (lk_some e1)
          have h3 := ga.1 c this.1
          rw [this.2, e] at h3
          exact nlt_irrefl _ h3
        rw [if_neg this]; exact e1
      | some r =>
        rw [hm] at ih
        obtain ⟨i1, i2, i3, i4, i5⟩ := ih
        simp only [Option.map_some]
        refine ⟨List.pairwise_cons.2 ⟨i4 _ ga.1 hyb, i1⟩, fun n => ?_, fun n c d e1 e2 => ?_, fun n q1 q2 c hc => ?_, by simp at i5 ⊢; omega⟩
        · rw [lk_cons, lk_cons, i2]
          by_cases e : nm x = n
          · subst e
            rw [if_pos rfl, if_pos rfl, lk_far hyb]
            rfl
          · rw [if_neg e, if_neg e]
        · rw [lk_cons] at e1
          by_cases e : nm x = n
          · subst e
            rw [lk_far hyb] at e2; cases e2
          · rw [if_neg e] at e1
            exact i3 n c d e1 e2
        · rcases List.mem_cons.1 hc with rfl | hc
          · exact q1 _ (by simp)
          · exact i4 n (fun c hc => q1 c (by simp [hc])) q2 c hc
    · rw [if_neg h1]
      by_cases h2 : nlt (nm y) (nm x)
      · rw [if_pos h2]
        have ih := mrg_spec (x :: a) b ha gb.2
        have hxa : ∀ c ∈ x :: a, nlt (nm y) (nm c) := fun c hc => by
          rcases List.mem_cons.1 hc with rfl | hc
          · exact h2
          · exact nlt_trans h2 (ga.1 c hc)
        cases hm : mrg (x :: a) b with
        | none =>
          rw [hm] at ih
          obtain ⟨n, c, d, e1, e2, e3⟩ := ih
          refine ⟨n, c, d, e1, ?_, e3⟩
          rw [lk_cons]
          have : nm y ≠ n := fun e => by
            have := (lk_some e2)
            have h3 := gb.1 d this.1
            rw [this.2, e] at h3
            exact nlt_irrefl _ h3
          rw [if_neg this]; exact e2
        | some r =>
          rw [hm] at ih
          obtain ⟨i1, i2, i3, i4, i5⟩ := ih
          simp only [Option.map_some]
          refine ⟨List.pairwise_cons.2 ⟨i4 _ hxa gb.1, i1⟩, fun n => ?_, fun n c d e1 e2 => ?_, fun n q1 q2 c hc => ?_, by simp at i5 ⊢; omega⟩
          · rw [lk_cons y r, lk_cons y b, i2]
            by_cases e : nm y = n
            · subst e
              rw [if_pos rfl, if_pos rfl, lk_far hxa]
              rfl
            · rw [if_neg e, if_neg e]
          · rw [lk_cons y] at e2
            by_cases e : nm y = n
            · subst e
              rw [lk_far hxa] at e1; cases e1
            · rw [if_neg e] at e2
              exact i3 n c d e1 e2
          · rcases List.mem_cons.1 hc with rfl | hc
            · exact q2 _ (by simp)
            · exact i4 n q1 (fun c hc => q2 c (by simp [hc])) c hc
      · rw [if_neg h2]
        have he : nm x = nm y := by
          rcases cmpB_cases (nm x) (nm y) with h | h | h
          · exact absurd h h1
          · exact h
          · exact absurd h h2
        by_cases h3 : clash x y
        · rw [if_pos h3]
          exact ⟨nm x, x, y, by rw [lk_cons, if_pos rfl], by rw [lk_cons, if_pos he.symm], h3⟩
        · rw [if_neg h3]
          have ih := mrg_spec a b ga.2 gb.2
          have hb' : ∀ c ∈ b, nlt (nm x) (nm c) := fun c hc => he ▸ gb.1 c hc
          cases hm : mrg a b with
          | none =>
            rw [hm] at ih
            obtain ⟨n, c, d, e1, e2, e3⟩ := ih
            have hne : nm x ≠ n := fun e => by
              rw [← e, lk_far ga.1] at e1; cases e1
            refine ⟨n, c, d, ?_, ?_, e3⟩
            · rw [lk_cons, if_neg hne]; exact e1
            · rw [lk_cons, if_neg (he ▸ hne)]; exact e2
          | some r =>
            rw [hm] at ih
            obtain ⟨i1, i2, i3, i4, i5⟩ := ih
            simp only [Option.map_some]
            have hp := pick_nm he
            refine ⟨List.pairwise_cons.2 ⟨by rw [hp]; exact i4 _ ga.1 hb', i1⟩, fun n => ?_, fun n c d e1 e2 => ?_, fun n q1 q2 c hc => ?_, by simp at i5 ⊢; omega⟩
            · rw [lk_cons, lk_cons, lk_cons, hp, ← he, i2]
              by_cases e : nm x = n
              · rw [if_pos e, if_pos e, if_pos e]; rfl
              · rw [if_neg e, if_neg e, if_neg e]
            · rw [lk_cons] at e1 e2
              by_cases e : nm x = n
              · rw [if_pos e] at e1
                rw [if_pos (he ▸ e)] at e2
                cases e1; cases e2; exact h3
              · rw [if_neg e] at e1
                rw [if_neg (he ▸ e)] at e2
                exact i3 n c d e1 e2
            · rcases List.mem_cons.1 hc with rfl | hc
              · rw [hp]; exact q1 _ (by simp)
              · exact i4 n (fun c hc => q1 c (by simp [hc])) (fun c hc => q2 c (by simp [hc])) c hc
termination_by a b => a.length + b.length
end Go.Eng

/-
Twins: the code's merging and checks are those of tables.
-/
namespace Go.Eng
open Go
set_option linter.unusedVariables false
set_option linter.unusedSimpArgs false

theorem sub_tail {α : Type} (x : α) (a : List α) : sub? (x :: a) 1 (((x :: a).length : Nat) : Int) = some a := by
  unfold sub?
  rw [if_pos ⟨by omega, by simp; omega, by omega⟩]
  simp
theorem at_zero {α : Type} (x : α) (a : List α) : at? (x :: a) 0 = some x := rfl
theorem lim_ok {n : Nat} (h : n ≤ 100000) : Nat.ble n LIM = true := ble_lim (by omega)

/-- cells of a row -/
theorem concat3_eq {a b c : List api_Cell} (ha : a.length ≤ 10000) (hb : b.length ≤ 10000) (hc : c.length ≤ 10000) : z621 [a, b, c] = some (a ++ b ++ c) := by
  unfold z621
  have t0 : at? [a, b, c] 0 = some a := rfl
  have t1 : at? [a, b, c] 1 = some b := rfl
  have t2 : at? [a, b, c] 2 = some c := rfl
  have i1 : IntKind.wrap .i64 ((0 : Int) + 1) = 1 := by decide
  have i2 : IntKind.wrap .i64 ((1 : Int) + 1) = 2 := by decide
  have i3 : IntKind.wrap .i64 ((2 : Int) + 1) = 3 := by decide
  have w1 : IntKind.wrap .i64 ((0 : Int) + a.length) = a.length := by rw [wrap64 (by omega) (by omega)]; omega
  have w2 : IntKind.wrap .i64 ((a.length : Int) + b.length) = (a.length : Int) + b.length := wrap64 (by omega) (by omega)
  have w3 : IntKind.wrap .i64 ((a.length : Int) + b.length + c.length) = (a.length : Int) + b.length + c.length := wrap64 (by omega) (by omega)
  have n1 : ¬ (a.length : Int) < 0 := by omega
  have n2 : ¬ (a.length : Int) + b.length < 0 := by omega
  have n3 : ¬ (a.length : Int) + b.length + c.length < 0 := by omega
  have l3 : (([a, b, c] : List (List api_Cell)).length : Int) = 3 := rfl
  have h1 : loopO (z624 [a, b, c]) (0, 0) = some ((a.length : Int) + b.length + c.length) := by
    rw [loop_in (s' := ((a.length : Int), (1 : Int))) (by simp only [z624, l3, show ((0 : Int) < 3) by omega, decide_true, cond_true, t0, Option.bind_some, w1, n1, decide_false, cond_false, i1])]
    rw [loop_in (s' := ((a.length : Int) + b.length, (2 : Int))) (by simp only [z624, l3, show ((1 : Int) < 3) by omega, decide_true, cond_true, t1, Option.bind_some, w2, n2, decide_false, cond_false, i2])]
    rw [loop_in (s' := ((a.length : Int) + b.length + c.length, (3 : Int))) (by simp only [z624, l3, show ((2 : Int) < 3) by omega, decide_true, cond_true, t2, Option.bind_some, w3, n3, decide_false, cond_false, i3])]
    exact loop_out (by simp only [z624, l3, show ¬ ((3 : Int) < 3) by omega, decide_false, cond_false])
  have h2 : z674 ((a.length : Int) + b.length + c.length) = some [] := by
    have z : IntKind.wrap .i64 ((0 : Int) - 0) = 0 := by decide
    have z2 : IntKind.wrap .i64 ((a.length : Int) + b.length + c.length - 0) = (a.length : Int) + b.length + c.length := by rw [Int.sub_zero]; exact w3
    unfold z674 z677
    simp only [n3, decide_false, cond_false, z, z2]
    by_cases h0 : (0 : Int) < (a.length : Int) + b.length + c.length
    · have g1 : (decide (0 ≤ (a.length : Int) + b.length + c.length) && decide ((a.length : Int) + b.length + c.length ≤ 137438953472)) = true := by simp; omega
      simp only [h0, decide_true, cond_true, g1, gd]
      have g2 : (0 : Int) ≤ max ((a.length : Int) + b.length + c.length) 0 := by omega
      simp [g2]
    · simp [h0]
  have h3 : loopO (z629 [a, b, c]) ([], 0) = some (a ++ b ++ c) := by
    rw [loop_in (s' := (([] : List api_Cell) ++ a, (1 : Int))) (by simp only [z629, l3, show ((0 : Int) < 3) by omega, decide_true, cond_true, t0, Option.bind_some, i1, gd, lim_ok (n := ([] : List api_Cell).length + a.length) (by simp; omega)])]
    rw [loop_in (s' := (([] : List api_Cell) ++ a ++ b, (2 : Int))) (by simp only [z629, l3, show ((1 : Int) < 3) by omega, decide_true, cond_true, t1, Option.bind_some, i2, gd, lim_ok (n := (([] : List api_Cell) ++ a).length + b.length) (by simp; omega)])]
    rw [loop_in (s' := (([] : List api_Cell) ++ a ++ b ++ c, (3 : Int))) (by simp only [z629, l3, show ((2 : Int) < 3) by omega, decide_true, cond_true, t2, Option.bind_some, i3, gd, lim_ok (n := (([] : List api_Cell) ++ a ++ b).length + c.length) (by simp; omega)])]
    exact loop_out (by simp only [z629, l3, show ¬ ((3 : Int) < 3) by omega, decide_false, cond_false, List.nil_append])
  rw [h1, Option.bind_some, h2, Option.bind_some, h3]
  rfl

open Classical in
theorem joined_loop : ∀ (a b out : List api_Cell), a.length + b.length + out.length ≤ 10000 →
    (match mrg a b with
     | some r => ∃ a' b' o', loopO z1176 (a, b, out) = some (.inl (a', b', o')) ∧ o' ++ a' ++ b' = out ++ r ∧ o'.length + a'.length + b'.length ≤ 10000
     | none => loopO z1176 (a, b, out) = some (.inr ()))
  | [], b, out, hl => by
    rw [mrg]
    exact ⟨[], b, out, loop_out (by simp [z1176, z1181]), by simp, by simp at hl ⊢; omega⟩
  | x :: a, [], out, hl => by
    rw [mrg]
    exact ⟨x :: a, [], out, loop_out (by simp only [z1176, z1181]; simp), by simp, by simp at hl ⊢; omega⟩
  | x :: a, y :: b, out, hl => by
    have hx2 : z1181 (x :: a) (y :: b) = some true := by
      unfold z1181
      have h1 : (0 : Int) < (((x :: a).length : Nat) : Int) := by simp only [List.length_cons]; omega
      have h2 : (0 : Int) < (((y :: b).length : Nat) : Int) := by simp only [List.length_cons]; omega
      simp only [h1, h2, decide_true, cond_true]
    have hg : ∀ z : api_Cell, Nat.ble (out.length + [z].length) LIM = true := fun z => lim_ok (by simp at hl ⊢; omega)
    have hsc : z905 (nm x) (nm y) = some () := rfl
    rw [mrg]
    by_cases h1 : nlt (nm x) (nm y)
    · rw [if_pos h1]
      have ih := joined_loop a (y :: b) (out ++ [x]) (by simp at hl ⊢; omega)
      have e : loopO z1176 (x :: a, y :: b, out) = loopO z1176 (a, y :: b, out ++ [x]) := loop_in (by
        simp only [z1176, hx2, Option.bind_some, cond_true, at_zero, hsc, show Lib.compareBytes x.Prop_.Name y.Prop_.Name < 0 from h1, decide_true, sub_tail, gd]
        rw [hg]
        rfl)
      rw [e]
      cases hm : mrg a (y :: b) with
      | none => rw [hm] at ih; exact ih
      | some r =>
        rw [hm] at ih
        obtain ⟨a', b', o', q1, q2, q3⟩ := ih
        exact ⟨a', b', o', q1, by rw [q2]; simp, q3⟩
    · rw [if_neg h1]
      by_cases h2 : nlt (nm y) (nm x)
      · rw [if_pos h2]
        have ih := joined_loop (x :: a) b (out ++ [y]) (by simp at hl ⊢; omega)
        have e : loopO z1176 (x :: a, y :: b, out) = loopO z1176 (x :: a, b, out ++ [y]) := loop_in (by
          simp only [z1176, hx2, Option.bind_some, cond_true, at_zero, hsc, show ¬ Lib.compareBytes x.Prop_.Name y.Prop_.Name < 0 from h1, cmp_pos.2 h2, decide_true, decide_false, cond_false, sub_tail, gd]
          rw [hg]
          rfl)
        rw [e]
        cases hm : mrg (x :: a) b with
        | none => rw [hm] at ih; exact ih
        | some r =>
          rw [hm] at ih
          obtain ⟨a', b', o', q1, q2, q3⟩ := ih
          exact ⟨a', b', o', q1, by rw [q2]; simp, q3⟩
      · rw [if_neg h2]
        have n2 : ¬ 0 < Lib.compareBytes x.Prop_.Name y.Prop_.Name := fun h => h2 (cmp_pos.1 h)
        have hx4 : z1190 (x :: a) (y :: b) (stO x.Stamp y.Stamp) = some (decide (clash x y)) := by
          unfold z1190
          simp only [at_zero, Option.bind_some]
          by_cases hz : stO x.Stamp y.Stamp = 0
          · simp only [hz, decide_true, cond_true]
            congr 1
            rw [Bool.eq_iff_iff, Bool.not_eq_true', Bool.eq_false_iff, ne_eq, veq_iff, decide_eq_true_iff]
            exact ⟨fun h => ⟨hz, h⟩, fun h => h.2⟩
          · simp only [hz, decide_false, cond_false]
            have : ¬ clash x y := fun h => hz h.1
            simp [this]
        have hb3 : z1135 (api_Stamp.mk x.Stamp.At x.Stamp.By x.Stamp.No) (api_Stamp.mk y.Stamp.At y.Stamp.By y.Stamp.No) = some (stO x.Stamp y.Stamp) := byStamp_eq x.Stamp y.Stamp
        by_cases h3 : clash x y
        · rw [if_pos h3]
          refine loop_out ?_
          simp only [z1176, hx2, Option.bind_some, cond_true, at_zero, hsc, show ¬ Lib.compareBytes x.Prop_.Name y.Prop_.Name < 0 from h1, n2, decide_false, cond_false, z1185, hb3, hx4, h3, decide_true]
        · rw [if_neg h3]
          have ih := joined_loop a b (out ++ [pick x y]) (by simp at hl ⊢; omega)
          have hx3 : z1185 (x :: a) (y :: b) out = some (.inl (out ++ [pick x y])) := by
            unfold z1185
            simp only [at_zero, Option.bind_some, hb3, hx4, h3, decide_false, cond_false, gd]
            unfold pick
            by_cases h4 : 0 ≤ stO x.Stamp y.Stamp
            · simp only [h4, decide_true, cond_true, if_true]
              rw [hg]; rfl
            · simp only [h4, decide_false, cond_false, if_false]
              rw [hg]; rfl
          have e : loopO z1176 (x :: a, y :: b, out) = loopO z1176 (a, b, out ++ [pick x y]) := loop_in (by
            simp only [z1176, hx2, Option.bind_some, cond_true, at_zero, hsc, show ¬ Lib.compareBytes x.Prop_.Name y.Prop_.Name < 0 from h1, n2, decide_false, cond_false, hx3, sub_tail])
          rw [e]
          cases hm : mrg a b with
          | none => rw [hm] at ih; exact ih
          | some r =>
            rw [hm] at ih
            obtain ⟨a', b', o', q1, q2, q3⟩ := ih
            exact ⟨a', b', o', q1, by rw [q2]; simp, q3⟩
termination_by a b => a.length + b.length

theorem joined_eq {a b : List api_Cell} (hl : a.length + b.length ≤ 10000) : z1173 a b = some (match mrg a b with | some r => (r, 0) | none => ([], 13)) := by
  unfold z1173
  have := joined_loop a b [] (by simpa using hl)
  cases hm : mrg a b with
  | none => rw [hm] at this; rw [this]; rfl
  | some r =>
    rw [hm] at this
    obtain ⟨a', b', o', q1, q2, q3⟩ := this
    rw [q1]
    simp only [Option.bind_some]
    rw [concat3_eq (by omega) (by omega) (by omega)]
    simp only [Option.bind_some]
    rw [q2]; rfl
theorem merged_eq {a b : List api_Cell} (hl : a.length + b.length ≤ 500) (ha : Srt a) (hb : Srt b) : z1194 a b = some (match mrg a b with | some r => (r, 0) | none => ([], 13)) := by
  unfold z1194
  rw [joined_eq (by omega)]
  have hs := mrg_spec a b ha hb
  cases hm : mrg a b with
  | none => simp [z1197, z1201]
  | some r =>
    rw [hm] at hs
    have : ¬ (500 : Int) < r.length := by have := hs.2.2.2.2; omega
    simp [z1197, z1201, this]

/-! ### Checks -/
def GC (c : api_Cell) : Prop := z1170 (nm c) = some true ∧ z1224 c.Prop_.Value = some 0 ∧ z1218 c.Stamp = some 0
end Go.Eng

/-
Twins: merging in any order; what is visible.
-/
namespace Go.Eng
open Go
set_option linter.unusedVariables false
set_option linter.unusedSimpArgs false

/-! ### Merging in any order -/
end Go.Eng

/-
Twins: what is visible; checks of properties; searching.
-/
namespace Go.Eng
open Go
set_option linter.unusedVariables false
set_option linter.unusedSimpArgs false

/-! ### Names below names -/
/-- the first name is below the second one -/
def belB (n a : List UInt8) : Bool := (a ++ [46]).isPrefixOf n
theorem bel_iff {n a : List UInt8} : belB n a = true ↔ ∃ r, n = a ++ 46 :: r := by
  unfold belB
  rw [List.isPrefixOf_iff_prefix]
  constructor
  · rintro ⟨r, h⟩; exact ⟨r, by rw [← h]; simp⟩
  · rintro ⟨r, h⟩; exact ⟨r, by rw [h]; simp⟩
theorem Below_is (n a : List UInt8) : z6 n a = some (belB n a) := by
  unfold z6 z10
  by_cases h1 : (a.length : Int) < n.length
  · have h1' : a.length < n.length := by omega
    simp only [h1, decide_true, cond_true, at_nat h1', Option.bind_some]
    by_cases h2 : ((n[a.length]'h1').toNat : Int) = 46
    · have hsub : sub? n 0 (a.length : Int) = some (n.take a.length) := by
        unfold sub?
        rw [if_pos ⟨by omega, by omega, by omega⟩]
        simp
      simp only [h2, decide_true, cond_true, hsub, Option.bind_some]
      congr 1
      rw [Bool.eq_iff_iff, decide_eq_true_iff, bel_iff]
      have h3 : n[a.length]'h1' = 46 := by
        have : (n[a.length]'h1').toNat = (46 : UInt8).toNat := by show (n[a.length]'h1').toNat = 46; omega
        exact UInt8.toNat_inj.1 this
      constructor
      · intro h
        refine ⟨n.drop (a.length + 1), ?_⟩
        conv => lhs; rw [← List.take_append_drop a.length n, h, List.drop_eq_getElem_cons h1', h3]
      · rintro ⟨r, h⟩; rw [h]; simp
    · simp only [h2, decide_false, cond_false, Option.bind_some]
      congr 1
      rw [eq_comm, Bool.eq_false_iff]
      intro h
      obtain ⟨r, h⟩ := bel_iff.1 h
      apply h2
      simp [h]
  · simp only [h1, decide_false, cond_false, Option.bind_some]
    congr 1
    rw [eq_comm, Bool.eq_false_iff]
    intro h
    obtain ⟨r, h⟩ := bel_iff.1 h
    rw [h] at h1
    simp at h1
    omega
theorem bel_irr {n a : List UInt8} (h : belB n a = true) : belB a n = false := by
  rw [Bool.eq_false_iff]
  intro h2
  obtain ⟨r, h⟩ := bel_iff.1 h
  obtain ⟨s, h2⟩ := bel_iff.1 h2
  have := congrArg List.length h
  have := congrArg List.length h2
  simp at *
  omega

/-! ### What hides what -/
def hidesB (x y : api_Cell) : Bool :=
  if 0 < stO x.Stamp y.Stamp then belB (nm y) (nm x) || (belB (nm x) (nm y) && !decide (y.Prop_.Value.Kind = 0))
  else if stO x.Stamp y.Stamp = 0 then belB (nm y) (nm x) && (!decide (x.Prop_.Value.Kind = 0) && !decide (y.Prop_.Value.Kind = 0)) else false
theorem hides_eq (x y : api_Cell) : z1159 x y = some (hidesB x y) := by
  have hb : z1135 (api_Stamp.mk x.Stamp.At x.Stamp.By x.Stamp.No) (api_Stamp.mk y.Stamp.At y.Stamp.By y.Stamp.No) = some (stO x.Stamp y.Stamp) := byStamp_eq x.Stamp y.Stamp
  unfold z1159 hidesB
  simp only [Below_is, Option.bind_some, hb]
  by_cases h1 : 0 < stO x.Stamp y.Stamp
  · simp only [h1, decide_true, cond_true, if_true, z1162]
    cases belB y.Prop_.Name x.Prop_.Name <;> cases belB x.Prop_.Name y.Prop_.Name <;> cases decide (y.Prop_.Value.Kind = 0) <;> rfl
  · by_cases h2 : stO x.Stamp y.Stamp = 0
    · simp only [h1, h2, decide_true, decide_false, cond_true, cond_false, if_true, if_false, z1166]
      cases belB y.Prop_.Name x.Prop_.Name <;> cases decide (x.Prop_.Value.Kind = 0) <;> cases decide (y.Prop_.Value.Kind = 0) <;> simp
    · simp only [h1, h2, decide_false, cond_false, if_false]
theorem hidden1_eq (x y : api_Cell) : z1149 x y = some (hidesB x y) := by
  unfold z1149 z1152
  have : z1159 (api_Cell.mk (api_Prop.mk x.Prop_.Name (api_Value.mk x.Prop_.Value.Kind x.Prop_.Value.Flag x.Prop_.Value.Number x.Prop_.Value.Words)) (api_Stamp.mk x.Stamp.At x.Stamp.By x.Stamp.No)) (api_Cell.mk (api_Prop.mk y.Prop_.Name (api_Value.mk y.Prop_.Value.Kind y.Prop_.Value.Flag y.Prop_.Value.Number y.Prop_.Value.Words)) (api_Stamp.mk y.Stamp.At y.Stamp.By y.Stamp.No)) = some (hidesB x y) := hides_eq x y
  rw [this]
  cases hidesB x y <;> rfl
theorem hidden_eq (l : List api_Cell) (y : api_Cell) (hl : (l.length : Int) ≤ 9223372036854775807) : z1156 l y = some (l.any fun x => hidesB x y) := by
  show ((z643 l y).bind fun vr => some vr) = _
  have h0 : z643 l y = ((z705 l y).bind fun vr2 => some (decide (0 ≤ vr2))) := rfl
  rw [h0]
  unfold z705
  obtain ⟨x, h1, h2⟩ := find_loop (l := l) (f := z708 l y) (fun x => hidesB x y) hl (fun i h => by
    unfold z708
    have hc : (i : Int) < l.length := by omega
    simp only [hc, decide_true, cond_true, at_nat h, Option.bind_some]
    have : z1149 (api_Cell.mk (api_Prop.mk l[i].Prop_.Name (api_Value.mk l[i].Prop_.Value.Kind l[i].Prop_.Value.Flag l[i].Prop_.Value.Number l[i].Prop_.Value.Words)) (api_Stamp.mk l[i].Stamp.At l[i].Stamp.By l[i].Stamp.No)) (api_Cell.mk (api_Prop.mk y.Prop_.Name (api_Value.mk y.Prop_.Value.Kind y.Prop_.Value.Flag y.Prop_.Value.Number y.Prop_.Value.Words)) (api_Stamp.mk y.Stamp.At y.Stamp.By y.Stamp.No)) = some (hidesB l[i] y) := hidden1_eq l[i] y
    rw [this]
    cases hidesB l[i] y <;> rfl) (by unfold z708; simp)
  rw [h1, ← h2]
  cases x <;> rfl
/-- is a cell visible in a list? -/
def visB (l : List api_Cell) (c : api_Cell) : Bool := !decide (c.Prop_.Value.Kind = 0) && !(l.any fun x => hidesB x c)
def vis (l : List api_Cell) : List api_Prop := (l.filter (visB l)).map api_Cell.Prop_
theorem foldl_filter {α β : Type} (p : α → Bool) (f : α → β) : ∀ (l : List α) (s : List β), l.foldl (fun s c => bif p c then s ++ [f c] else s) s = s ++ (l.filter p).map f
  | [], s => by simp
  | x :: l, s => by
    rw [List.foldl_cons, foldl_filter p f l]
    cases hp : p x <;> simp [hp]
theorem visible_eq {l : List api_Cell} (hl : l.length ≤ 10000) : z1238 l = some (vis l) := by
  unfold z1238
  have := fold_loop0 (l := l) (f := z1241 l) (fun (s : List api_Prop) i => (s, i)) (fun s c => bif visB l c then s ++ [c.Prop_] else s) id (fun i s => s.length ≤ i) (s0 := []) (by omega)
    (fun i hi s hs => by
      have hc : (i : Int) < l.length := by omega
      have hx3 : z1250 l l[i] = some (visB l l[i]) := by
        unfold z1250 visB
        cases h0 : decide (l[i].Prop_.Value.Kind = 0) with
        | true => simp
        | false =>
          have := hidden_eq l l[i] (by omega)
          have h2 : z1156 l (api_Cell.mk (api_Prop.mk l[i].Prop_.Name (api_Value.mk l[i].Prop_.Value.Kind l[i].Prop_.Value.Flag l[i].Prop_.Value.Number l[i].Prop_.Value.Words)) (api_Stamp.mk l[i].Stamp.At l[i].Stamp.By l[i].Stamp.No)) = some (l.any fun x => hidesB x l[i]) := this
          rw [h2]
          simp
      refine ⟨?_, ?_⟩
      · unfold z1241 z1246
        simp only [hc, decide_true, cond_true, at_nat hi, Option.bind_some, hx3]
        cases visB l l[i] with
        | false => rfl
        | true =>
          simp only [cond_true, gd]
          rw [lim_ok (by simp; omega)]
          rfl
      · cases visB l l[i] <;> simp <;> omega)
    (fun s _ => by unfold z1241; simp) (by simp)
  rw [this.1]
  simp only [Option.bind_some, id]
  rw [foldl_filter]
  rfl
theorem vis_len (l : List api_Cell) : (vis l).length ≤ l.length := by unfold vis; rw [List.length_map]; exact List.length_filter_le _ _
/-! ### Searching -/
def PSrt (l : List api_Prop) : Prop := l.Pairwise fun x y => nlt x.Name y.Name
theorem mid_eq {s : Int} (h0 : 0 ≤ s) (h1 : s ≤ 100000) : IntKind.wrap .i64 (ishr .u64 (IntKind.wrap .u64 (IntKind.wrap .i64 s)) 1) = s / 2 := by
  have w1 : IntKind.wrap .i64 s = s := wrap64 (by omega) (by omega)
  have w2 : IntKind.wrap .u64 s = s := by unfold IntKind.wrap; simp [IntKind.min, IntKind.max, IntKind.bits, IntKind.signed]; omega
  have w3 : ishr .u64 s 1 = s / 2 := by
    unfold ishr
    simp [IntKind.bits]
    exact Int.fdiv_eq_ediv_of_nonneg s (by omega)
  rw [w1, w2, w3, wrap64 (by omega) (by omega)]
theorem find_eq {l : List api_Prop} (hs : PSrt l) (hl : l.length ≤ 10000) (t : List UInt8) :
    (twin_find l t = some (-1) ∧ ∀ q ∈ l, q.Name ≠ t) ∨ ∃ (i : Nat) (h : i < l.length), twin_find l t = some (i : Int) ∧ l[i].Name = t := by
  have key : ∃ i : Nat, i ≤ l.length ∧ loopO (z564 l t) (0, (l.length : Int)) = some (i : Int) ∧ (∀ k (h : k < l.length), k < i → nlt l[k].Name t) ∧ (∀ k (h : k < l.length), i ≤ k → ¬ nlt l[k].Name t) := by
    obtain ⟨r, h1, i, h2, h3⟩ := loop_ok (f := z564 l t) (Q := fun r : Int => ∃ i : Nat, r = i ∧ i ≤ l.length ∧ (∀ k (h : k < l.length), k < i → nlt l[k].Name t) ∧ (∀ k (h : k < l.length), i ≤ k → ¬ nlt l[k].Name t))
      (fun s => ∃ i j : Nat, s = ((i : Int), (j : Int)) ∧ i ≤ j ∧ j ≤ l.length ∧ (∀ k (h : k < l.length), k < i → nlt l[k].Name t) ∧ (∀ k (h : k < l.length), j ≤ k → ¬ nlt l[k].Name t)) (fun s => (s.2 - s.1).toNat) (by
        rintro _ ⟨i, j, rfl, ij, jl, lo, hi⟩
        unfold z564
        refine .cond (fun hc => ?_) (fun hc => ?_)
        · have hc : (i : Int) < j := by simpa using hc
          have hm : IntKind.wrap .i64 (ishr .u64 (IntKind.wrap .u64 (IntKind.wrap .i64 ((i : Int) + j))) 1) = (((i + j) / 2 : Nat) : Int) := by rw [mid_eq (by omega) (by omega)]; omega
          have hml : (i + j) / 2 < l.length := by omega
          rw [hm, at_nat hml]
          have hf1 : z1141 l[(i + j) / 2] t = some () := rfl
          simp only [Option.bind_some]
          have hf1' : z1141 (api_Prop.mk l[(i + j) / 2].Name (api_Value.mk l[(i + j) / 2].Value.Kind l[(i + j) / 2].Value.Flag l[(i + j) / 2].Value.Number l[(i + j) / 2].Value.Words)) t = some () := rfl
          rw [hf1']
          simp only [Option.bind_some]
          refine .cond (fun h => ?_) (fun h => ?_)
          · have h : nlt l[(i + j) / 2].Name t := by unfold nlt; simpa using h
            have w : IntKind.wrap .i64 ((((i + j) / 2 : Nat) : Int) + 1) = (((i + j) / 2 + 1 : Nat) : Int) := by rw [wrap64 (by omega) (by omega)]; omega
            rw [w]
            refine .some ⟨⟨(i + j) / 2 + 1, j, rfl, by omega, jl, fun k hk hki => ?_, hi⟩, by simp only; omega⟩
            by_cases e : k = (i + j) / 2
            · subst e; exact h
            · exact nlt_trans ((List.pairwise_iff_getElem.1 hs) k ((i + j) / 2) hk hml (by omega)) h
          · have h : ¬ nlt l[(i + j) / 2].Name t := by unfold nlt; simpa using h
            refine .some ⟨⟨i, (i + j) / 2, rfl, by omega, by omega, lo, fun k hk hki => ?_⟩, by simp only; omega⟩
            by_cases e : k = (i + j) / 2
            · subst e; exact h
            · exact fun hn => h (nlt_trans ((List.pairwise_iff_getElem.1 hs) ((i + j) / 2) k hml hk (by omega)) hn)
        · have hc : ¬ (i : Int) < j := by simpa using hc
          have e : i = j := by omega
          subst e
          exact .some ⟨i, rfl, jl, lo, hi⟩) (s := ((0 : Int), (l.length : Int))) ⟨0, l.length, rfl, by omega, by omega, fun k h hk => by omega, fun k h hk => by omega⟩
    subst h2
    exact ⟨i, h3.1, h1, h3.2⟩
  obtain ⟨i, h0, h1, lo, hi⟩ := key
  unfold twin_find z561
  rw [h1]
  simp only [Option.bind_some]
  have far : ∀ (k : Nat) (h : k < l.length), l[k].Name = t → k = i := by
    intro k hk e
    rcases Nat.lt_trichotomy k i with h | h | h
    · have := lo k hk h; rw [e] at this; exact absurd this (nlt_irrefl _)
    · exact h
    · have h2 : i < l.length := by omega
      have h3 := hi i h2 (Nat.le_refl _)
      have h4 := (List.pairwise_iff_getElem.1 hs) i k h2 hk h
      rw [e] at h4
      exact absurd h4 h3
  unfold z569
  by_cases hil : (i : Int) < l.length
  · have hil' : i < l.length := by omega
    simp only [hil, decide_true, cond_true, at_nat hil', Option.bind_some]
    have hf1' : z1141 (api_Prop.mk l[i].Name (api_Value.mk l[i].Value.Kind l[i].Value.Flag l[i].Value.Number l[i].Value.Words)) t = some () := rfl
    rw [hf1']
    simp only [Option.bind_some]
    by_cases hz : Lib.compareBytes l[i].Name t = 0
    · right
      refine ⟨i, hil', ?_, cmpB_zero.1 hz⟩
      simp [hz]
    · left
      refine ⟨by simp [hz], fun q hq e => ?_⟩
      obtain ⟨k, hk, rfl⟩ := List.mem_iff_getElem.1 hq
      have := far k hk e
      subst this
      exact hz (cmpB_zero.2 e)
  · left
    refine ⟨by simp [hil], fun q hq e => ?_⟩
    obtain ⟨k, hk, rfl⟩ := List.mem_iff_getElem.1 hq
    have := far k hk e
    omega

/-! ### Checks of properties -/
def GP (p : api_Prop) : Prop := z1170 p.Name = some true ∧ z1224 p.Value = some 0 ∧ p.Value.Kind ≠ 0
/-! ### Equal rows -/
theorem cEqual_self {l : List api_Cell} (hl : (l.length : Int) ≤ 9223372036854775807) : z658 l l = some true := by
  unfold z658
  simp only [decide_true, Bool.not_true, cond_false]
  rw [range_loop (l := l) (fun _ _ => none) (.inl ()) hl]
  · have : ∀ (k : Nat) (m : List api_Cell), scan (fun (_ : Nat) (_ : api_Cell) => (none : Option (Unit ⊕ Unit))) k m = none := fun k m => scan_none.2 fun _ _ _ => rfl
    rw [this]; rfl
  · intro i hi
    unfold z661
    have hc : (i : Int) < l.length := by omega
    simp only [hc, decide_true, cond_true, at_nat hi, Option.bind_some, beq_self_eq_true, Bool.and_self, Bool.and_true]
    rfl
  · unfold z661; simp
end Go.Eng

/-
What is left of a sorted row, each key once.
-/
namespace Go.Eng
open Go
set_option linter.unusedVariables false
set_option linter.unusedSimpArgs false
section
variable {α : Type}
theorem gCom_key {P : α → Prop} {t : α → α → Option Bool} {kf : α → Int} (ht : ∀ x y, P x → P y → ∃ b, t x y = some b ∧ (b = true ↔ kf x = kf y)) {z : α} {l : List α} (hl : l.length ≤ 100000) (hp : All P l)
    (hs : ∀ p q (hpq : p < q) (hq : q < l.length), kf (l[p]'(by omega)) ≤ kf l[q]) : Ok (gCom t z l) (fun r => r.length ≤ l.length ∧ All P r ∧ r.Pairwise (fun x y => kf x < kf y)) := by
  unfold gCom
  have small : ∀ k, (k ≤ l.length) → (∀ q (hq : q + 1 < k) (hk : k ≤ l.length), kf (l[q + 1]'(by omega)) ≠ kf (l[q]'(by omega))) → (l.take k).Pairwise (fun x y => kf x < kf y) := by
    intro k hkl hne
    rw [List.pairwise_iff_getElem]
    intro i j hi hj hij
    simp only [List.getElem_take]
    have hjl : j < l.length := by simp at hj; omega
    have hjk : j < k := by simp at hj; omega
    have h1 : kf (l[i]'(by omega)) ≤ kf (l[j - 1]'(by omega)) := by
      by_cases e : i = j - 1
      · subst e; exact Int.le_refl _
      · exact hs i (j - 1) (by omega) (by omega)
    have h2 := hs (j - 1) j (by omega) hjl
    have h3 : kf (l[j - 1]'(by omega)) ≠ kf l[j] := by
      intro e
      have := hne (j - 1) (by omega) hkl
      apply this
      have e3 : j - 1 + 1 = j := by omega
      simp only [e3]
      exact e.symm
    omega
  refine .cond (fun hc => .some ⟨Nat.le_refl _, hp, ?_⟩) (fun hc => ?_)
  · have hc := of_decide_eq_true hc
    match l, hc with
    | [], _ => simp
    | [x], _ => simp
    | x :: y :: m, hc => simp at hc; omega
  have hl2 : (2 : Int) ≤ l.length := by simpa using hc
  refine Ok.bind (P := fun x => match x with | .inl _ => l.Pairwise (fun x y => kf x < kf y) | .inr r => r.length ≤ l.length ∧ All P r ∧ r.Pairwise (fun x y => kf x < kf y)) ?_ (fun x hx => ?_)
  · refine loop_ok (fun k : Int => ∃ n : Nat, k = (n : Int) ∧ 1 ≤ n ∧ n ≤ l.length ∧ ∀ q (hq : q + 1 < n) (hk : n ≤ l.length), kf (l[q + 1]'(by omega)) ≠ kf (l[q]'(by omega))) (fun k => ((l.length : Int) - k).toNat) ?_ ⟨1, rfl, by omega, by omega, fun q hq => by omega⟩
    rintro k ⟨n, rfl, n1, n2, n3⟩
    unfold gC1
    by_cases hk' : n < l.length
    · have hki : (n : Int) < l.length := by omega
      have w1 : IntKind.wrap .i64 ((n : Int) - 1) = ((n - 1 : Nat) : Int) := by rw [wrap64 (by omega) (by omega)]; omega
      have w2 : IntKind.wrap .i64 ((n : Int) + 1) = ((n + 1 : Nat) : Int) := by rw [wrap64 (by omega) (by omega)]; omega
      obtain ⟨b, hb, hbe⟩ := ht l[n] (l[n - 1]'(by omega)) (hp _ (List.getElem_mem hk')) (hp _ (List.getElem_mem (show n - 1 < l.length by omega)))
      simp only [hki, decide_true, cond_true, w1, at_nat hk', at_nat (show n - 1 < l.length by omega), hb, Option.bind_some]
      cases b with
      | false =>
        simp only [cond_false, w2]
        refine .some ⟨⟨n + 1, rfl, by omega, by omega, fun q hq hk => ?_⟩, by omega⟩
        by_cases e : q + 1 = n
        · subst e
          intro he
          have : (false : Bool) = true := hbe.2 he
          cases this
        · exact n3 q (by omega) n2
      | true =>
        have heq : kf l[n] = kf (l[n - 1]'(by omega)) := hbe.1 rfl
        simp only [cond_true]
        refine .gd (by simp; omega) ?_
        have hkn : (((l.length : Int).toNat - (n : Int).toNat : Nat) : Int) = l.length - n := by omega
        refine Ok.bind (P := fun q : List α × Int => q.1.length = l.length ∧ ∃ i : Nat, q.2 = (i : Int) ∧ i ≤ l.length ∧ All P q.1 ∧ (q.1.take i).Pairwise (fun x y => kf x < kf y)) ?_ (fun ⟨l7, k9⟩ ⟨q1, i, q2, q3, q4, q5⟩ => ?_)
        · refine loop_ok (fun q : List α × Int × Int => q.1.length = l.length ∧ All P q.1 ∧ ∃ i j : Nat, q.2.1 = (i : Int) ∧ q.2.2 = (j : Int) ∧ 1 ≤ j ∧ n + j ≤ l.length ∧ 1 ≤ i ∧ i ≤ n + j - 1 ∧ q.1.drop (n + j - 1) = l.drop (n + j - 1) ∧
            (q.1.take i).Pairwise (fun x y => kf x < kf y) ∧ ∀ (h1 : i - 1 < q.1.length) (h2 : n + j - 1 < l.length), kf q.1[i - 1] = kf l[n + j - 1]) (fun q => ((l.length : Int) - q.2.2).toNat) ?_
            ⟨rfl, hp, n, 1, rfl, rfl, by omega, by omega, by omega, by omega, rfl, small n n2 n3, fun h1 h2 => by simp only [Nat.add_sub_cancel]; exact heq.symm⟩
          rintro ⟨m, i', j'⟩ ⟨m1, m2, i, j, rfl, rfl, j1, j2, i1, i2, d1, d2, d3⟩
          simp only at m1 m2 d1 d2 d3
          unfold gC2
          rw [hkn]
          refine .cond (fun hj => ?_) (fun hj => .some ⟨m1, i, rfl, by omega, m2, d2⟩)
          have hj : (j : Int) < l.length - n := by simpa using hj
          have w3 : IntKind.wrap .i64 ((j : Int) - 1) = ((j - 1 : Nat) : Int) := by rw [wrap64 (by omega) (by omega)]; omega
          have w4 : IntKind.wrap .i64 ((i : Int) + 1) = ((i + 1 : Nat) : Int) := by rw [wrap64 (by omega) (by omega)]; omega
          have w5 : IntKind.wrap .i64 ((j : Int) + 1) = ((j + 1 : Nat) : Int) := by rw [wrap64 (by omega) (by omega)]; omega
          have a1 : m[n + j]'(by omega) = l[n + j]'(by omega) := by
            have h := congrArg (fun x => x[1]?) d1
            simp only [List.getElem?_drop] at h
            rw [show n + j - 1 + 1 = n + j by omega, List.getElem?_eq_getElem (by omega), List.getElem?_eq_getElem (by omega)] at h
            exact Option.some.inj h
          have a2 : m[n + j - 1]'(by omega) = l[n + j - 1]'(by omega) := by
            have h := congrArg (fun x => x[0]?) d1
            simp only [List.getElem?_drop] at h
            rw [show n + j - 1 + 0 = n + j - 1 by omega, List.getElem?_eq_getElem (by omega), List.getElem?_eq_getElem (by omega)] at h
            exact Option.some.inj h
          have hx := hp _ (List.getElem_mem (show n + j < l.length by omega))
          have hy := hp _ (List.getElem_mem (show n + j - 1 < l.length by omega))
          obtain ⟨b, hb, hbe⟩ := ht (l[n + j]'(by omega)) (l[n + j - 1]'(by omega)) hx hy
          refine Ok.bind (P := fun q : List α × Int => q.1.length = l.length ∧ All P q.1 ∧ ∃ i : Nat, q.2 = (i : Int) ∧ 1 ≤ i ∧ i ≤ n + j ∧ q.1.drop (n + j) = l.drop (n + j) ∧ (q.1.take i).Pairwise (fun x y => kf x < kf y) ∧ ∀ (h1 : i - 1 < q.1.length) (h2 : n + j < l.length), kf q.1[i - 1] = kf l[n + j]) ?_ (fun ⟨m', i''⟩ ⟨g1, g2, i3, g3, g4, g5, g6, g7, g8⟩ => ?_)
          · unfold gC3
            rw [w3]
            refine .gd (by simp; omega) ?_
            have e1 : (n : Int) + (j : Int) = ((n + j : Nat) : Int) := by omega
            have e2 : (n : Int) + ((j - 1 : Nat) : Int) = ((n + j - 1 : Nat) : Int) := by omega
            rw [e1, at_nat (show n + j < m.length by omega)]
            simp only [Option.bind_some]
            refine .gd (by simp; omega) ?_
            rw [e2, at_nat (show n + j - 1 < m.length by omega), at_nat (show i < m.length by omega)]
            simp only [Option.bind_some, a1, a2, hb, w4, Int.toNat_natCast]
            have hdrop : m.drop (n + j) = l.drop (n + j) := by
              have h := congrArg (List.drop 1) d1
              rw [List.drop_drop, List.drop_drop, show n + j - 1 + 1 = n + j by omega] at h
              exact h
            cases b with
            | true =>
              have he : kf (l[n + j]'(by omega)) = kf (l[n + j - 1]'(by omega)) := hbe.1 rfl
              refine .some ⟨m1, m2, i, rfl, i1, by omega, hdrop, d2, fun h1 h2 => ?_⟩
              rw [d3 h1 (by omega)]; exact he.symm
            | false =>
              have hne : kf (l[n + j]'(by omega)) ≠ kf (l[n + j - 1]'(by omega)) := fun e => by have := hbe.2 e; cases this
              refine .some ⟨by simp [m1], m2.set hx, i + 1, rfl, by omega, by omega, ?_, ?_, fun h1 h2 => ?_⟩
              · simp only
                rw [List.drop_set_of_lt (by omega)]; exact hdrop
              · simp only
                rw [List.take_succ_eq_append_getElem (by simp; omega), List.take_set_of_le (by omega)]
                simp only [List.getElem_set_self]
                rw [List.pairwise_append]
                refine ⟨d2, by simp, fun x hx' y hy' => ?_⟩
                rw [List.mem_singleton] at hy'
                subst hy'
                have hlast := d3 (by omega) (by omega)
                have hle : kf x ≤ kf (l[n + j - 1]'(by omega)) := by
                  obtain ⟨p, hp', rfl⟩ := List.mem_iff_getElem.1 hx'
                  simp only [List.getElem_take]
                  rw [← hlast]
                  have hpi : p < i := by simp at hp'; omega
                  by_cases e : p = i - 1
                  · subst e; exact Int.le_refl _
                  · have := (List.pairwise_iff_getElem.1 d2) p (i - 1) hp' (by simp; omega) (by omega)
                    simp only [List.getElem_take] at this
                    omega
                have hlt : kf (l[n + j - 1]'(by omega)) < kf (l[n + j]'(by omega)) := by
                  have h1 := hs (n + j - 1) (n + j) (by omega) (by omega)
                  by_cases e : kf (l[n + j - 1]'(by omega)) = kf (l[n + j]'(by omega))
                  · exact absurd e.symm hne
                  · omega
                omega
              · simp
          · simp only at g1 g2 g3 g6 g7 g8
            subst g3
            rw [w5]
            refine .some ⟨⟨g1, g2, i3, j + 1, rfl, rfl, by omega, by omega, g4, by omega, ?_, g7, fun h1 h2 => ?_⟩, by simp only; omega⟩
            · simp only
              rw [show n + (j + 1) - 1 = n + j by omega]; exact g6
            · simp only
              have := g8 h1 (by omega)
              rw [this]
              congr 1
        · simp only at q1 q2 q4 q5
          subst q2
          refine .gd (by simp; omega) (.gd ?_ ?_)
          · simp only [Bool.and_eq_true, decide_eq_true_eq]
            refine ⟨by omega, ?_⟩
            simp only [List.length_append, List.length_take, List.length_replicate, List.length_drop, Int.toNat_natCast]
            omega
          · rw [take_part (by simp; omega)]
            refine .some ⟨?_, fun x hx => q4 x (List.mem_of_mem_take hx), by simpa using q5⟩
            simp only [List.length_take]; omega
    · have hki : ¬ (n : Int) < l.length := by omega
      simp only [hki, decide_false, cond_false]
      refine .some ?_
      have := small l.length (Nat.le_refl _) (fun q hq hk => n3 q (by omega) n2)
      rwa [List.take_length] at this
  · cases x with
    | inl _ => exact .some ⟨Nat.le_refl _, hp, hx⟩
    | inr r => exact .some hx
end
end Go.Eng

/-
The streams.
-/
namespace Go.Eng
open Go
set_option linter.unusedVariables false
set_option linter.unusedSimpArgs false

theorem wrap_I64 (n : Int) : I64 (IntKind.wrap .i64 n) := by
  unfold IntKind.wrap I64
  simp [IntKind.bits, IntKind.signed]
  split <;> omega

theorem Below_eq {x n : Int} (hx : I64 x) (hn : I64 n) : z170 x n = some (if n < 1 then 0 else x % n) := by
  unfold I64 at hx hn
  unfold z170 z173
  by_cases h : n < 1
  · simp [h]
  · have h0 : (n == 0) = false := by simp; omega
    have e := Int.emod_eq_tmod (a := x) (b := n)
    have nn := Int.emod_nonneg x (show n ≠ 0 by omega)
    have lt := Int.emod_lt_of_pos x (show 0 < n by omega)
    simp only [h, decide_false, cond_false, h0, Bool.not_false, gd, cond_true, Option.bind_some, if_false]
    by_cases h3 : x.tmod n < 0
    · simp only [h3, decide_true, cond_true, Option.bind_some]
      split at e
      · omega
      · rw [wrap64 (by omega) (by omega)]
        congr 1
        omega
    · simp only [h3, decide_false, cond_false, Option.bind_some]
      congr 1
      split at e <;> omega
theorem Below_ok {x n : Int} (hx : I64 x) (hn : I64 n) : Ok (z170 x n) (fun r => (1 ≤ n → 0 ≤ r ∧ r < n) ∧ (n < 1 → r = 0)) := by
  refine .of_eq (Below_eq hx hn) ⟨fun h => ?_, fun h => by simp [h]⟩
  rw [if_neg (by omega)]
  exact ⟨Int.emod_nonneg _ (by omega), Int.emod_lt_of_pos _ (by omega)⟩

/-- A stream whose numbers are of 64 bits, of which at most k were taken. -/
def StrOk (k : Nat) (s : z177) : Prop := 0 ≤ s.at_ ∧ s.at_ ≤ k ∧ s.L.length ≤ 9223372036854775807 ∧ ∀ n ∈ s.L, I64 n
theorem StrOk.mono {k k' : Nat} {s : z177} (h : StrOk k s) (hk : k ≤ k') : StrOk k' s := ⟨h.1, by have := h.2.1; omega, h.2.2⟩
/-- One number further. -/
abbrev nxt (s : z177) : z177 := z177.mk s.L (IntKind.wrap .i64 (s.at_ + 1))
theorem StrOk.nxt {k : Nat} {s : z177} (h : StrOk k s) (hk : k < 1099511627776) : StrOk (k + 1) (nxt s) := by
  obtain ⟨h1, h2, h3, h4⟩ := h
  refine ⟨?_, ?_, h3, h4⟩
  · show 0 ≤ IntKind.wrap .i64 (s.at_ + 1)
    rw [wrap64 (by omega) (by omega)]; omega
  · show IntKind.wrap .i64 (s.at_ + 1) ≤ _
    rw [wrap64 (by omega) (by omega)]; omega

theorem Next_ok {k : Nat} {s : z177} {n : Int} (h : StrOk k s) (hk : k < 1099511627776) (hn : I64 n) : Ok (z199 s n) (fun r => (1 ≤ n → 0 ≤ r ∧ r < n) ∧ (n < 1 → r = 0)) := by
  obtain ⟨h1, h2, h3, h4⟩ := h
  unfold z199
  refine .cond (fun _ => ?_) (fun hl => ?_)
  · exact (Below_ok (wrap_I64 _) hn).bind fun r hr => .some hr
  · have hl' : s.L.length ≠ 0 := by simpa using hl
    have e1 : IntKind.wrap .i64 (s.at_ + 1) = s.at_ + 1 := wrap64 (by omega) (by omega)
    have e2 : IntKind.wrap .i64 (s.at_ + 1 - 1) = s.at_ := by rw [wrap64 (by omega) (by omega)]; omega
    refine .gd (by simpa using hl') ?_
    rw [e1, e2]
    refine (at_mem (tmod_nonneg h1) (tmod_lt' (by omega))).bind fun y hy => ?_
    refine (Below_ok (h4 y hy) (by unfold I64; omega)).bind fun r1 hr1 => ?_
    exact (Below_ok (wrap_I64 _) hn).bind fun r hr => .some hr

theorem Pick_ok {k : Nat} {s : z177} {l : List Int} (h : StrOk k s) (hk : k < 1099511627776) (hl : 0 < l.length) (hl2 : l.length < 1000) : Ok (z205 s l) (fun r => r ∈ l) := by
  unfold z205
  refine (Next_ok h hk (by unfold I64; omega)).bind fun r hr => ?_
  have := hr.1 (by omega)
  exact (at_mem this.1 this.2).bind fun y hy => .some hy
theorem Some_ok {k : Nat} {s : z177} {l : List (List UInt8)} (h : StrOk k s) (hk : k < 1099511627776) (hl : 0 < l.length) (hl2 : l.length < 1000) : Ok (z247 s l) (fun r => r ∈ l) := by
  unfold z247
  refine (Next_ok h hk (by unfold I64; omega)).bind fun r hr => ?_
  have := hr.1 (by omega)
  exact (at_mem this.1 this.2).bind fun y hy => .some hy
theorem Flip_ok {k : Nat} {s : z177} {n : Int} (h : StrOk k s) (hk : k < 1099511627776) (hn : I64 n) : Ok (z196 s n) (fun _ => True) := by
  unfold z196
  exact (Next_ok h hk hn).bind fun r hr => .some trivial
theorem Range_ok {k : Nat} {s : z177} {low high : Int} (h : StrOk k s) (hk : k < 1099511627776) (hlow : -4611686018427387903 < low ∧ low < 4611686018427387904) (hh : -4611686018427387904 < high ∧ high < 4611686018427387903) :
    Ok (z211 s low high) (fun r => StrOk (k + 1) r.1 ∧ low ≤ r.2 ∧ (low ≤ high → r.2 ≤ high) ∧ (high < low → r.2 = low)) := by
  unfold z211
  refine .cond (fun hc => ?_) (fun hc => ?_)
  · have hc' : high < low := by simpa using hc
    exact .some ⟨h.mono (by omega), Int.le_refl _, by intro h; omega, fun _ => rfl⟩
  · have hc' : ¬ high < low := by simpa using hc
    have e1 : IntKind.wrap .i64 (high - low) = high - low := wrap64 (by omega) (by omega)
    have e2 : IntKind.wrap .i64 (high - low + 1) = high - low + 1 := wrap64 (by omega) (by omega)
    rw [e1, e2]
    refine (Next_ok h hk (by unfold I64; omega)).bind fun r hr => ?_
    have := hr.1 (by omega)
    refine .some ⟨h.nxt hk, ?_, fun _ => ?_, fun h => by omega⟩
    · show low ≤ IntKind.wrap .i64 (low + r)
      rw [wrap64 (by omega) (by omega)]; omega
    · show IntKind.wrap .i64 (low + r) ≤ high
      rw [wrap64 (by omega) (by omega)]; omega
end Go.Eng

/-
The law CellsInAnyOrder: cells that streams make; cells that are merged in any order.
-/
namespace Go.Eng
open Go
set_option linter.unusedVariables false
set_option linter.unusedSimpArgs false

/-! ### Cells that streams make -/
noncomputable def cmpC (x y : api_Cell) : Option Int := some (Lib.compareBytes (nm x) (nm y))
def zC : api_Cell := api_Cell.mk (api_Prop.mk [] (api_Value.mk 0 false 0 [])) (api_Stamp.mk 0 [] 0)
theorem sortC_eq : z751 = gSort cmpC := by kernel_rfl
theorem comC_eq : z587 = gCom (fun a b => some (decide (nm a = nm b))) zC := by kernel_rfl
theorem gSort_ord {α : Type} {P : α → Prop} {f : α → α → Int} {c : α → α → Option Int} (hc : ∀ x y, P x → P y → c x y = some (f x y)) (anti : ∀ x y, f y x = - f x y) (tr : ∀ x y z, f x y ≤ 0 → f y z ≤ 0 → f x z ≤ 0)
    {l : List α} (hl : l.length < 20) (hP : All P l) : Ok (gSort c l) (fun r => r.length = l.length ∧ All P r ∧ Ord f r l.length) := by
  obtain ⟨r, h1, h2, h3, h4⟩ := gI_ord hc anti tr (l := l) (by omega) hP
  have e1 : loopO (gS1 c (l.length : Int)) (l, 0, 20) = some (l, 0) := by
    have : ¬ (20 : Int) ≤ l.length := by omega
    exact loop_out (by simp [gS1, this])
  have e2 : loopO (gS2 (l.length : Int)) 20 = some () := by
    have : ¬ (20 : Int) < l.length := by omega
    exact loop_out (by simp [gS2, this])
  refine ⟨r, ?_, h2, h3, h4⟩
  unfold gSort gS
  simp only [e1, Option.bind_some, h1, h2, beq_self_eq_true, gd, e2, cond_true]

def nm7 : List (List UInt8) := [[97], [97, 46, 120], [97, 46, 121], [97, 46, 120, 46, 112], [98], [98, 46, 122], [97, 98]]
def rk (n : List UInt8) : Int := if n = [97] then 0 else if n = [97, 46, 120] then 1 else if n = [97, 46, 120, 46, 112] then 2 else if n = [97, 46, 121] then 3 else if n = [97, 98] then 4 else if n = [98] then 5 else 6
theorem rk_all : (nm7.all fun x => nm7.all fun y => (decide (Lib.compareBytes x y ≤ 0) == decide (rk x ≤ rk y)) && (decide (Lib.compareBytes x y < 0) == decide (rk x < rk y)) && (decide (rk x = rk y) == decide (x = y))) = true := by decide
theorem rk_spec {x y : List UInt8} (hx : x ∈ nm7) (hy : y ∈ nm7) : (Lib.compareBytes x y ≤ 0 ↔ rk x ≤ rk y) ∧ (nlt x y ↔ rk x < rk y) ∧ (rk x = rk y ↔ x = y) := by
  have := List.all_eq_true.1 (List.all_eq_true.1 rk_all x hx) y hy
  simp only [Bool.and_eq_true, beq_iff_eq, decide_eq_decide] at this
  exact ⟨this.1.1, this.1.2, this.2⟩
theorem nm7_ok : (nm7.all fun n => decide (z1170 n = some true)) = true := by kernel_rfl
theorem nm7_len : (nm7.all fun n => decide (n.length ≤ 10)) = true := by decide
def RS (s : api_Stamp) : Prop := (0 ≤ s.At ∧ s.At ≤ 200) ∧ (s.By = [104] ∨ s.By = [107] ∨ s.By = [100]) ∧ (0 ≤ s.No ∧ s.No ≤ 1)
theorem keyH : base_Key [104] = some true := by kernel_rfl
theorem keyK : base_Key [107] = some true := by kernel_rfl
theorem keyD : base_Key [100] = some true := by kernel_rfl
theorem RS_ok {s : api_Stamp} (h : RS s) : z1218 s = some 0 := by
  obtain ⟨h1, h2, h3⟩ := h
  unfold z1218
  have hk : base_Key s.By = some true := by
    rcases h2 with h | h | h <;> rw [h]
    · exact keyH
    · exact keyK
    · exact keyD
  have m1 : (decide (0 ≤ s.At) && decide (s.At ≤ 345686399999)) = true := by simp; omega
  have m2 : (decide (s.No < 0) || decide (1000000000 < s.No)) = false := by simp; omega
  simp only [Moment_eq, Out_eq, hk, m1, m2, Option.bind_some, Bool.not_true, cond_false]
/-- right cells -/
def RC (c : api_Cell) : Prop := nm c ∈ nm7 ∧ z1224 c.Prop_.Value = some 0 ∧ RS c.Stamp
theorem RC.gc {c : api_Cell} (h : RC c) : GC c := by
  refine ⟨?_, h.2.1, RS_ok h.2.2⟩
  have := List.all_eq_true.1 nm7_ok _ h.1
  exact of_decide_eq_true this
theorem RC.len {c : api_Cell} (h : RC c) : ((nm c).length : Int) ≤ 9223372036854775807 := by
  have := of_decide_eq_true (List.all_eq_true.1 nm7_len _ h.1)
  omega
theorem nxt_mk {k : Nat} {s : z177} (h : StrOk k s) (hk : k < 1099511627776) : StrOk (k + 1) (z177.mk s.L (IntKind.wrap .i64 (s.at_ + 1))) := h.nxt hk
theorem RightStamp_ok {k : Nat} {s : z177} (h : StrOk k s) (hk : k + 10 < 1099511627776) : Ok (z241 s) (fun r => StrOk (k + 3) r.1 ∧ RS r.2 ∧ r.2.At ≤ 9 ∧ r.2.By ≠ [100]) := by
  unfold z241
  refine (Range_ok h (by omega) (by omega) (by omega)).bind fun ⟨s1, n⟩ ⟨r1, r2, r3, _⟩ => ?_
  simp only at r1 r2 r3
  have r3 := r3 (by omega)
  refine (Some_ok r1 (by omega) (by simp) (by simp)).bind fun w hw => ?_
  have h2 := nxt_mk r1 (by omega)
  refine (Pick_ok h2 (by omega) (by simp) (by simp)).bind fun m hm => ?_
  have h3 := nxt_mk h2 (by omega)
  refine .some ⟨h3, ⟨⟨r2, by simp only; omega⟩, ?_, ?_⟩, r3, ?_⟩
  · simp at hw; rcases hw with rfl | rfl <;> simp
  · simp at hm; rcases hm with rfl | rfl <;> simp
  · simp at hw; rcases hw with rfl | rfl <;> simp
/-! ### In any order -/
end Go.Eng

/-
The law CompactStays: what nobody needs any more is left out; what is visible stays, also after a merge with what comes later.
-/
namespace Go.Eng
open Go
set_option linter.unusedVariables false
set_option linter.unusedSimpArgs false

/-! ### Compact -/
/-! ### What is left -/
theorem visB_iff {l : List api_Cell} {c : api_Cell} : visB l c = true ↔ c.Prop_.Value.Kind ≠ 0 ∧ ∀ x ∈ l, hidesB x c = false := by
  unfold visB
  simp only [Bool.and_eq_true, Bool.not_eq_true', decide_eq_false_iff_not, List.any_eq_false, Bool.not_eq_true]
/-! ### Equal rows of properties -/
/-! ### Later cells -/
end Go.Eng

/-
What is left of a sorted row, each key once, with what is found again.
-/
namespace Go.Eng
open Go
set_option linter.unusedVariables false
set_option linter.unusedSimpArgs false
section
variable {α : Type}
theorem gCom_key2 {P : α → Prop} {t : α → α → Option Bool} {kf : α → Int} (ht : ∀ x y, P x → P y → ∃ b, t x y = some b ∧ (b = true ↔ kf x = kf y)) {z : α} {l : List α} (hl : l.length ≤ 100000) (hp : All P l)
    (hs : ∀ p q (hpq : p < q) (hq : q < l.length), kf (l[p]'(by omega)) ≤ kf l[q]) : Ok (gCom t z l) (fun r => (r.length ≤ l.length ∧ All P r ∧ r.Pairwise (fun x y => kf x < kf y)) ∧ ∀ x ∈ l, ∃ y ∈ r, kf y = kf x) := by
  unfold gCom
  have small : ∀ k, (k ≤ l.length) → (∀ q (hq : q + 1 < k) (hk : k ≤ l.length), kf (l[q + 1]'(by omega)) ≠ kf (l[q]'(by omega))) → (l.take k).Pairwise (fun x y => kf x < kf y) := by
    intro k hkl hne
    rw [List.pairwise_iff_getElem]
    intro i j hi hj hij
    simp only [List.getElem_take]
    have hjl : j < l.length := by simp at hj; omega
    have hjk : j < k := by simp at hj; omega
    have h1 : kf (l[i]'(by omega)) ≤ kf (l[j - 1]'(by omega)) := by
      by_cases e : i = j - 1
      · subst e; exact Int.le_refl _
      · exact hs i (j - 1) (by omega) (by omega)
    have h2 := hs (j - 1) j (by omega) hjl
    have h3 : kf (l[j - 1]'(by omega)) ≠ kf l[j] := by
      intro e
      have := hne (j - 1) (by omega) hkl
      apply this
      have e3 : j - 1 + 1 = j := by omega
      simp only [e3]
      exact e.symm
    omega
  refine .cond (fun hc => .some ⟨⟨Nat.le_refl _, hp, ?_⟩, fun x hx => ⟨x, hx, rfl⟩⟩) (fun hc => ?_)
  · have hc := of_decide_eq_true hc
    match l, hc with
    | [], _ => simp
    | [x], _ => simp
    | x :: y :: m, hc => simp at hc; omega
  have hl2 : (2 : Int) ≤ l.length := by simpa using hc
  refine Ok.bind (P := fun x => match x with | .inl _ => l.Pairwise (fun x y => kf x < kf y) | .inr r => (r.length ≤ l.length ∧ All P r ∧ r.Pairwise (fun x y => kf x < kf y)) ∧ ∀ x ∈ l, ∃ y ∈ r, kf y = kf x) ?_ (fun x hx => ?_)
  · refine loop_ok (fun k : Int => ∃ n : Nat, k = (n : Int) ∧ 1 ≤ n ∧ n ≤ l.length ∧ ∀ q (hq : q + 1 < n) (hk : n ≤ l.length), kf (l[q + 1]'(by omega)) ≠ kf (l[q]'(by omega))) (fun k => ((l.length : Int) - k).toNat) ?_ ⟨1, rfl, by omega, by omega, fun q hq => by omega⟩
    rintro k ⟨n, rfl, n1, n2, n3⟩
    unfold gC1
    by_cases hk' : n < l.length
    · have hki : (n : Int) < l.length := by omega
      have w1 : IntKind.wrap .i64 ((n : Int) - 1) = ((n - 1 : Nat) : Int) := by rw [wrap64 (by omega) (by omega)]; omega
      have w2 : IntKind.wrap .i64 ((n : Int) + 1) = ((n + 1 : Nat) : Int) := by rw [wrap64 (by omega) (by omega)]; omega
      obtain ⟨b, hb, hbe⟩ := ht l[n] (l[n - 1]'(by omega)) (hp _ (List.getElem_mem hk')) (hp _ (List.getElem_mem (show n - 1 < l.length by omega)))
      simp only [hki, decide_true, cond_true, w1, at_nat hk', at_nat (show n - 1 < l.length by omega), hb, Option.bind_some]
      cases b with
      | false =>
        simp only [cond_false, w2]
        refine .some ⟨⟨n + 1, rfl, by omega, by omega, fun q hq hk => ?_⟩, by omega⟩
        by_cases e : q + 1 = n
        · subst e
          intro he
          have : (false : Bool) = true := hbe.2 he
          cases this
        · exact n3 q (by omega) n2
      | true =>
        have heq : kf l[n] = kf (l[n - 1]'(by omega)) := hbe.1 rfl
        simp only [cond_true]
        refine .gd (by simp; omega) ?_
        have hkn : (((l.length : Int).toNat - (n : Int).toNat : Nat) : Int) = l.length - n := by omega
        refine Ok.bind (P := fun q : List α × Int => q.1.length = l.length ∧ ∃ i : Nat, q.2 = (i : Int) ∧ i ≤ l.length ∧ All P q.1 ∧ (q.1.take i).Pairwise (fun x y => kf x < kf y) ∧ ∀ x ∈ l, ∃ y ∈ q.1.take i, kf y = kf x) ?_ (fun ⟨l7, k9⟩ ⟨q1, i, q2, q3, q4, q5, q6⟩ => ?_)
        · refine loop_ok (fun q : List α × Int × Int => q.1.length = l.length ∧ All P q.1 ∧ ∃ i j : Nat, q.2.1 = (i : Int) ∧ q.2.2 = (j : Int) ∧ 1 ≤ j ∧ n + j ≤ l.length ∧ 1 ≤ i ∧ i ≤ n + j - 1 ∧ q.1.drop (n + j - 1) = l.drop (n + j - 1) ∧
            (q.1.take i).Pairwise (fun x y => kf x < kf y) ∧ (∀ (h1 : i - 1 < q.1.length) (h2 : n + j - 1 < l.length), kf q.1[i - 1] = kf l[n + j - 1]) ∧ ∀ x ∈ l.take (n + j), ∃ y ∈ q.1.take i, kf y = kf x) (fun q => ((l.length : Int) - q.2.2).toNat) ?_
            ⟨rfl, hp, n, 1, rfl, rfl, by omega, by omega, by omega, by omega, rfl, small n n2 n3, fun h1 h2 => by simp only [Nat.add_sub_cancel]; exact heq.symm, fun x hx => by
              rw [List.take_succ_eq_append_getElem hk'] at hx
              rcases List.mem_append.1 hx with hx | hx
              · exact ⟨x, hx, rfl⟩
              · rw [List.mem_singleton] at hx
                subst hx
                exact ⟨l[n - 1]'(by omega), List.mem_iff_getElem.2 ⟨n - 1, by simp; omega, by simp⟩, heq.symm⟩⟩
          rintro ⟨m, i', j'⟩ ⟨m1, m2, i, j, rfl, rfl, j1, j2, i1, i2, d1, d2, d3, d4⟩
          simp only at m1 m2 d1 d2 d3 d4
          unfold gC2
          rw [hkn]
          refine .cond (fun hj => ?_) (fun hj => .some ⟨m1, i, rfl, by omega, m2, d2, by
            have hj : ¬ (j : Int) < l.length - n := by simpa using hj
            rw [List.take_of_length_le (show l.length ≤ n + j by omega)] at d4
            exact d4⟩)
          have hj : (j : Int) < l.length - n := by simpa using hj
          have w3 : IntKind.wrap .i64 ((j : Int) - 1) = ((j - 1 : Nat) : Int) := by rw [wrap64 (by omega) (by omega)]; omega
          have w4 : IntKind.wrap .i64 ((i : Int) + 1) = ((i + 1 : Nat) : Int) := by rw [wrap64 (by omega) (by omega)]; omega
          have w5 : IntKind.wrap .i64 ((j : Int) + 1) = ((j + 1 : Nat) : Int) := by rw [wrap64 (by omega) (by omega)]; omega
          have a1 : m[n + j]'(by omega) = l[n + j]'(by omega) := by
            have h := congrArg (fun x => x[1]?) d1
            simp only [List.getElem?_drop] at h
            rw [show n + j - 1 + 1 = n + j by omega, List.getElem?_eq_getElem (by omega), List.getElem?_eq_getElem (by omega)] at h
            exact Option.some.inj h
          have a2 : m[n + j - 1]'(by omega) = l[n + j - 1]'(by omega) := by
            have h := congrArg (fun x => x[0]?) d1
            simp only [List.getElem?_drop] at h
            rw [show n + j - 1 + 0 = n + j - 1 by omega, List.getElem?_eq_getElem (by omega), List.getElem?_eq_getElem (by omega)] at h
            exact Option.some.inj h
          have hx := hp _ (List.getElem_mem (show n + j < l.length by omega))
          have hy := hp _ (List.getElem_mem (show n + j - 1 < l.length by omega))
          obtain ⟨b, hb, hbe⟩ := ht (l[n + j]'(by omega)) (l[n + j - 1]'(by omega)) hx hy
          refine Ok.bind (P := fun q : List α × Int => q.1.length = l.length ∧ All P q.1 ∧ ∃ i : Nat, q.2 = (i : Int) ∧ 1 ≤ i ∧ i ≤ n + j ∧ q.1.drop (n + j) = l.drop (n + j) ∧ (q.1.take i).Pairwise (fun x y => kf x < kf y) ∧ (∀ (h1 : i - 1 < q.1.length) (h2 : n + j < l.length), kf q.1[i - 1] = kf l[n + j]) ∧ ∀ x ∈ l.take (n + j + 1), ∃ y ∈ q.1.take i, kf y = kf x) ?_ (fun ⟨m', i''⟩ ⟨g1, g2, i3, g3, g4, g5, g6, g7, g8, g9⟩ => ?_)
          · unfold gC3
            rw [w3]
            refine .gd (by simp; omega) ?_
            have e1 : (n : Int) + (j : Int) = ((n + j : Nat) : Int) := by omega
            have e2 : (n : Int) + ((j - 1 : Nat) : Int) = ((n + j - 1 : Nat) : Int) := by omega
            rw [e1, at_nat (show n + j < m.length by omega)]
            simp only [Option.bind_some]
            refine .gd (by simp; omega) ?_
            rw [e2, at_nat (show n + j - 1 < m.length by omega), at_nat (show i < m.length by omega)]
            simp only [Option.bind_some, a1, a2, hb, w4, Int.toNat_natCast]
            have hdrop : m.drop (n + j) = l.drop (n + j) := by
              have h := congrArg (List.drop 1) d1
              rw [List.drop_drop, List.drop_drop, show n + j - 1 + 1 = n + j by omega] at h
              exact h
            cases b with
            | true =>
              have he : kf (l[n + j]'(by omega)) = kf (l[n + j - 1]'(by omega)) := hbe.1 rfl
              refine .some ⟨m1, m2, i, rfl, i1, by omega, hdrop, d2, fun h1 h2 => ?_, fun x hx => ?_⟩
              · rw [d3 h1 (by omega)]; exact he.symm
              · rw [List.take_succ_eq_append_getElem (show n + j < l.length by omega)] at hx
                rcases List.mem_append.1 hx with hx | hx
                · exact d4 x hx
                · rw [List.mem_singleton] at hx
                  subst hx
                  obtain ⟨y, y1, y2⟩ := d4 (l[n + j - 1]'(by omega)) (List.mem_iff_getElem.2 ⟨n + j - 1, by simp; omega, by simp⟩)
                  exact ⟨y, y1, y2.trans he.symm⟩
            | false =>
              have hne : kf (l[n + j]'(by omega)) ≠ kf (l[n + j - 1]'(by omega)) := fun e => by have := hbe.2 e; cases this
              refine .some ⟨by simp [m1], m2.set hx, i + 1, rfl, by omega, by omega, ?_, ?_, fun h1 h2 => ?_, fun x hx' => ?_⟩
              · simp only
                rw [List.drop_set_of_lt (by omega)]; exact hdrop
              · simp only
                rw [List.take_succ_eq_append_getElem (by simp; omega), List.take_set_of_le (by omega)]
                simp only [List.getElem_set_self]
                rw [List.pairwise_append]
                refine ⟨d2, by simp, fun x hx' y hy' => ?_⟩
                rw [List.mem_singleton] at hy'
                subst hy'
                have hlast := d3 (by omega) (by omega)
                have hle : kf x ≤ kf (l[n + j - 1]'(by omega)) := by
                  obtain ⟨p, hp', rfl⟩ := List.mem_iff_getElem.1 hx'
                  simp only [List.getElem_take]
                  rw [← hlast]
                  have hpi : p < i := by simp at hp'; omega
                  by_cases e : p = i - 1
                  · subst e; exact Int.le_refl _
                  · have := (List.pairwise_iff_getElem.1 d2) p (i - 1) hp' (by simp; omega) (by omega)
                    simp only [List.getElem_take] at this
                    omega
                have hlt : kf (l[n + j - 1]'(by omega)) < kf (l[n + j]'(by omega)) := by
                  have h1 := hs (n + j - 1) (n + j) (by omega) (by omega)
                  by_cases e : kf (l[n + j - 1]'(by omega)) = kf (l[n + j]'(by omega))
                  · exact absurd e.symm hne
                  · omega
                omega
              · simp
              · simp only
                rw [List.take_succ_eq_append_getElem (show i < (m.set i (l[n + j]'(by omega))).length by simp; omega), List.take_set_of_le (by omega)]
                simp only [List.getElem_set_self]
                rw [List.take_succ_eq_append_getElem (show n + j < l.length by omega)] at hx'
                rcases List.mem_append.1 hx' with hx' | hx'
                · obtain ⟨y, y1, y2⟩ := d4 x hx'
                  exact ⟨y, List.mem_append_left _ y1, y2⟩
                · rw [List.mem_singleton] at hx'
                  subst hx'
                  exact ⟨_, List.mem_append_right _ (List.mem_singleton.2 rfl), rfl⟩
          · simp only at g1 g2 g3 g6 g7 g8 g9
            subst g3
            rw [w5]
            refine .some ⟨⟨g1, g2, i3, j + 1, rfl, rfl, by omega, by omega, g4, by omega, ?_, g7, fun h1 h2 => ?_, g9⟩, by simp only; omega⟩
            · simp only
              rw [show n + (j + 1) - 1 = n + j by omega]; exact g6
            · simp only
              have := g8 h1 (by omega)
              rw [this]
              congr 1
        · simp only at q1 q2 q4 q5
          subst q2
          refine .gd (by simp; omega) (.gd ?_ ?_)
          · simp only [Bool.and_eq_true, decide_eq_true_eq]
            refine ⟨by omega, ?_⟩
            simp only [List.length_append, List.length_take, List.length_replicate, List.length_drop, Int.toNat_natCast]
            omega
          · rw [take_part (by simp; omega)]
            refine .some ⟨⟨?_, fun x hx => q4 x (List.mem_of_mem_take hx), by simpa using q5⟩, by simpa using q6⟩
            simp only [List.length_take]; omega
    · have hki : ¬ (n : Int) < l.length := by omega
      simp only [hki, decide_false, cond_false]
      refine .some ?_
      have := small l.length (Nat.le_refl _) (fun q hq hk => n3 q (by omega) n2)
      rwa [List.take_length] at this
  · cases x with
    | inl _ => exact .some ⟨⟨Nat.le_refl _, hp, hx⟩, fun x hx => ⟨x, hx, rfl⟩⟩
    | inr r => exact .some hx
end
end Go.Eng

/-
Twins: names of properties, sorted, each once.
-/
namespace Go.Eng
open Go
set_option linter.unusedVariables false
set_option linter.unusedSimpArgs false

section
variable {α : Type}
theorem mem_swap {l : List α} {j : Nat} (h : 0 < j) (hj : j < l.length) {x : α} (hx : x ∈ l) : x ∈ (l.set j (l[j - 1]'(by omega))).set (j - 1) l[j] := by
  obtain ⟨k, hk, rfl⟩ := List.mem_iff_getElem.1 hx
  by_cases e1 : k = j
  · subst e1
    exact List.mem_iff_getElem.2 ⟨k - 1, by simp; omega, by simp⟩
  · by_cases e2 : k = j - 1
    · subst e2
      refine List.mem_iff_getElem.2 ⟨j, by simp; omega, ?_⟩
      rw [List.getElem_set_ne (by omega)]
      simp
    · refine List.mem_iff_getElem.2 ⟨k, by simp; omega, ?_⟩
      rw [List.getElem_set_ne (by omega), List.getElem_set_ne (by omega)]
theorem gI2_mem {P : α → Prop} {f : α → α → Int} {c : α → α → Option Int} (hc : ∀ x y, P x → P y → c x y = some (f x y)) {n : Nat} (hn : n ≤ 100000) {l0 l : List α} (hl : l.length = n) (hP : All P l) (h0 : ∀ x ∈ l0, x ∈ l) {i : Nat} (hi : i < n) :
    Ok (loopO (gI2 c 0) (l, (i : Int))) (fun r => r.length = n ∧ All P r ∧ ∀ x ∈ l0, x ∈ r) := by
  refine loop_ok (fun s : List α × Int => s.1.length = n ∧ All P s.1 ∧ (∀ x ∈ l0, x ∈ s.1) ∧ ∃ j : Nat, s.2 = (j : Int) ∧ j ≤ i) (fun s => s.2.toNat) ?_ ⟨hl, hP, h0, i, rfl, Nat.le_refl _⟩
  rintro ⟨m, q⟩ ⟨m1, m2, m3, j, rfl, j1⟩
  simp only at m1 m2 m3
  unfold gI2 gI3
  by_cases hj : (0 : Int) < j
  · have w1 : IntKind.wrap .i64 ((j : Int) - 1) = ((j - 1 : Nat) : Int) := by rw [wrap64 (by omega) (by omega)]; omega
    have hjm : j < m.length := by omega
    have hjm1 : j - 1 < m.length := by omega
    have hy := m2 _ (List.getElem_mem hjm)
    have hx := m2 _ (List.getElem_mem hjm1)
    simp only [hj, decide_true, cond_true, w1, at_nat hjm, at_nat hjm1, Option.bind_some, hc _ _ hy hx]
    refine .cond (fun hlt => ?_) (fun hge => ?_)
    · have g3 : at? (m.set (j : Int).toNat m[j - 1]) ((j - 1 : Nat) : Int) = some m[j - 1] := by
        rw [at_nat (by simp; omega)]
        simp only [Int.toNat_natCast, List.getElem_set]
        rw [if_neg (by omega)]
      rw [g3]
      simp only [Option.bind_some, Int.toNat_natCast]
      exact .some ⟨⟨by simp [m1], (m2.set hx).set hy, fun x hx => mem_swap (by omega) hjm (m3 x hx), j - 1, rfl, by omega⟩, by simp only; omega⟩
    · exact .some ⟨m1, m2, m3⟩
  · have hj' : ¬ (0 : Int) < j := hj
    simp only [hj', decide_false, cond_false, Option.bind_some]
    exact .some ⟨m1, m2, m3⟩
theorem gI_mem {P : α → Prop} {f : α → α → Int} {c : α → α → Option Int} (hc : ∀ x y, P x → P y → c x y = some (f x y)) {l : List α} (hl : l.length ≤ 100000) (hP : All P l) : Ok (gI c l 0 l.length) (fun r => ∀ x ∈ l, x ∈ r) := by
  unfold gI
  have w : IntKind.wrap .i64 ((0 : Int) + 1) = 1 := by decide
  rw [w]
  refine Ok.bind (P := fun r : List α => ∀ x ∈ l, x ∈ r) (loop_ok (fun s : List α × Int => s.1.length = l.length ∧ All P s.1 ∧ (∀ x ∈ l, x ∈ s.1) ∧ ∃ i : Nat, s.2 = (i : Int)) (fun s => ((l.length : Int) - s.2).toNat) ?_
    ⟨rfl, hP, fun x h => h, 1, rfl⟩) fun r hr => .some hr
  rintro ⟨m, q⟩ ⟨m1, m2, m3, i, rfl⟩
  simp only at m1 m2 m3
  unfold gI1
  by_cases hi : i < l.length
  · have hi' : (i : Int) < l.length := by omega
    have w1 : IntKind.wrap .i64 ((i : Int) + 1) = ((i + 1 : Nat) : Int) := by rw [wrap64 (by omega) (by omega)]; omega
    simp only [hi', decide_true, cond_true]
    refine (gI2_mem hc (n := l.length) hl m1 m2 m3 hi).bind fun r hr => ?_
    rw [w1]
    exact .some ⟨⟨hr.1, hr.2.1, hr.2.2, i + 1, rfl⟩, by simp only; omega⟩
  · have hi' : ¬ (i : Int) < l.length := by omega
    simp only [hi', decide_false, cond_false]
    exact .some m3
theorem Ok.and {f : Option α} {P Q : α → Prop} (h1 : Ok f P) (h2 : Ok f Q) : Ok f (fun r => P r ∧ Q r) := by
  obtain ⟨r, e1, p1⟩ := h1
  obtain ⟨s, e2, p2⟩ := h2
  rw [e1] at e2
  obtain rfl := Option.some.inj e2
  exact ⟨r, e1, p1, p2⟩
end

/-! ### Sorting of strings -/
def cmpS (x y : List UInt8) : Option Int := some (Lib.compareBytes x y)
theorem Less_eq (x y : List UInt8) : z99 x y = some (decide (Lib.compareBytes x y < 0)) := by
  unfold z99 z102 z118
  simp only [Option.bind_some, decide_true, Bool.not_true, cond_false, cmpB_less]
theorem ins3_eq : z841 = gI3 cmpS := by
  funext qa l j
  unfold z841 gI3
  simp only [Less_eq, cmpS, Option.bind_some]
theorem ins2_eq : z836 = gI2 cmpS := by
  funext qa ⟨l, j⟩
  unfold z836 gI2
  rw [ins3_eq]
theorem ins1_eq : z831 = gI1 cmpS := by
  funext qa qb ⟨l, j⟩
  unfold z831 gI1
  rw [ins2_eq]
theorem ins_eq : z828 = gI cmpS := by
  funext l qa qb
  unfold z828 gI
  rw [ins1_eq]
theorem bitLen12 (n : Nat) (h : n ≤ 12) : Ok (bits_Len (IntKind.wrap .u64 (n : Int))) (fun _ => True) := by
  match n, h with
  | 0, _ => exact ⟨0, by kernel_rfl, trivial⟩
  | 1, _ => exact ⟨1, by kernel_rfl, trivial⟩
  | 2, _ => exact ⟨2, by kernel_rfl, trivial⟩
  | 3, _ => exact ⟨2, by kernel_rfl, trivial⟩
  | 4, _ => exact ⟨3, by kernel_rfl, trivial⟩
  | 5, _ => exact ⟨3, by kernel_rfl, trivial⟩
  | 6, _ => exact ⟨3, by kernel_rfl, trivial⟩
  | 7, _ => exact ⟨3, by kernel_rfl, trivial⟩
  | 8, _ => exact ⟨4, by kernel_rfl, trivial⟩
  | 9, _ => exact ⟨4, by kernel_rfl, trivial⟩
  | 10, _ => exact ⟨4, by kernel_rfl, trivial⟩
  | 11, _ => exact ⟨4, by kernel_rfl, trivial⟩
  | 12, _ => exact ⟨4, by kernel_rfl, trivial⟩
theorem sortS_ok {P : List UInt8 → Prop} {l : List (List UInt8)} (hl : l.length ≤ 12) (hP : All P l) : Ok (z757 l) (fun r => (r.length = l.length ∧ All P r ∧ Ord (fun x y => Lib.compareBytes x y) r l.length) ∧ ∀ x ∈ l, x ∈ r) := by
  unfold z757
  refine (bitLen12 l.length hl).bind fun b _ => ?_
  have hI := (gI_ord (P := P) (f := fun x y => Lib.compareBytes x y) (c := cmpS) (fun _ _ _ _ => rfl) (fun x y => cmpB_anti _ _) (fun x y z => cmpB_tr) (l := l) (by omega) hP).and (gI_mem (P := P) (f := fun x y => Lib.compareBytes x y) (c := cmpS) (fun _ _ _ _ => rfl) (l := l) (by omega) hP)
  obtain ⟨r, h1, h2⟩ := hI
  have e : z861 l 0 l.length b = some r := by
    unfold z861
    have : loopO (z864 l 0 (l.length : Int) b) () = some r := by
      refine loop_out ?_
      unfold z864
      have w : IntKind.wrap .i64 ((l.length : Int) - 0) = l.length := by rw [wrap64 (by omega) (by omega)]; omega
      have hc : (l.length : Int) ≤ 12 := by omega
      rw [w, ins_eq, h1]
      simp only [hc, decide_true, cond_true, Option.bind_some, gd, h2.1.1, beq_self_eq_true]
    rw [this]; rfl
  rw [e]
  simp only [Option.bind_some]
  exact .gd (by simp [h2.1.1]) (.some h2)
theorem comS_eq : z604 = gCom (fun a b => some (decide (a = b))) [] := by kernel_rfl

/-! ### Names -/
theorem foldl_app {α β : Type} (f : α → β) : ∀ (l : List α) (s : List β), l.foldl (fun s c => s ++ [f c]) s = s ++ l.map f
  | [], s => by simp
  | x :: l, s => by rw [List.foldl_cons, foldl_app f l]; simp
theorem names2_eq {a : List api_Prop} {s : List (List UInt8)} (h : a.length + s.length ≤ 10000) : loopO (z1213 a) (s, 0) = some (s ++ a.map api_Prop.Name) := by
  have := fold_loop0 (l := a) (f := z1213 a) (fun (s : List (List UInt8)) i => (s, i)) (fun s c => s ++ [c.Name]) id (fun i m => m.length ≤ s.length + i) (s0 := s) (by omega)
    (fun i hi m hm => by
      have hc : (i : Int) < a.length := by omega
      refine ⟨?_, by simp; omega⟩
      unfold z1213
      simp only [hc, decide_true, cond_true, at_nat hi, Option.bind_some, gd]
      rw [lim_ok (by simp; omega)]
      rfl)
    (fun s _ => by unfold z1213; simp) (by simp)
  rw [this.1, foldl_app]
  rfl
end Go.Eng

/-
Twins: what is owed.
-/
namespace Go.Eng
open Go
set_option linter.unusedVariables false
set_option linter.unusedSimpArgs false

/-! ### Values of names -/
def zV : api_Value := api_Value.mk 0 false 0 []
def vo (l : List api_Prop) (n : List UInt8) : api_Value := match l.find? fun p => decide (p.Name = n) with | some p => p.Value | none => zV
theorem vo_mem {l : List api_Prop} (hs : PSrt l) {p : api_Prop} (hp : p ∈ l) : vo l p.Name = p.Value := by
  unfold vo
  cases h : l.find? fun q => decide (q.Name = p.Name) with
  | none =>
    have := List.find?_eq_none.1 h p hp
    simp at this
  | some q =>
    have h1 : q.Name = p.Name := by simpa using List.find?_some h
    have h2 := List.mem_of_find?_eq_some h
    simp only
    obtain ⟨i, hi, rfl⟩ := List.mem_iff_getElem.1 hp
    obtain ⟨j, hj, rfl⟩ := List.mem_iff_getElem.1 h2
    rcases Nat.lt_trichotomy i j with h3 | h3 | h3
    · have := (List.pairwise_iff_getElem.1 hs) i j hi hj h3
      rw [h1] at this
      exact absurd this (nlt_irrefl _)
    · subst h3; rfl
    · have := (List.pairwise_iff_getElem.1 hs) j i hj hi h3
      rw [h1] at this
      exact absurd this (nlt_irrefl _)
theorem vo_none {l : List api_Prop} {n : List UInt8} (h : ∀ p ∈ l, p.Name ≠ n) : vo l n = zV := by
  unfold vo
  have : (l.find? fun p => decide (p.Name = n)) = none := List.find?_eq_none.2 fun p hp => by simpa using h p hp
  rw [this]
theorem valueOf_eq {l : List api_Prop} (hs : PSrt l) (hl : l.length ≤ 10000) (n : List UInt8) : z1232 l n = some (vo l n) := by
  unfold z1232
  rcases find_eq hs hl n with ⟨h1, h2⟩ | ⟨i, hi, h1, h2⟩
  · rw [h1, vo_none h2]; rfl
  · have h0 : (0 : Int) ≤ (i : Int) := by omega
    rw [h1]
    simp only [Option.bind_some, h0, decide_true, cond_true, at_nat hi]
    have := vo_mem hs (List.getElem_mem hi)
    rw [h2] at this
    rw [this]

/-! ### What is visible -/
theorem vis_mem {l : List api_Cell} {p : api_Prop} : p ∈ vis l ↔ ∃ c ∈ l, visB l c = true ∧ c.Prop_ = p := by
  unfold vis
  rw [List.mem_map]
  constructor
  · rintro ⟨c, hc, rfl⟩
    have := List.mem_filter.1 hc
    exact ⟨c, this.1, this.2, rfl⟩
  · rintro ⟨c, h1, h2, rfl⟩
    exact ⟨c, List.mem_filter.2 ⟨h1, h2⟩, rfl⟩
theorem vis_srt {l : List api_Cell} (hs : Srt l) : PSrt (vis l) := by
  unfold PSrt vis
  rw [List.pairwise_map]
  exact List.Pairwise.filter _ hs
theorem vis_kind {l : List api_Cell} {p : api_Prop} (h : p ∈ vis l) : p.Value.Kind ≠ 0 := by
  obtain ⟨c, _, h2, rfl⟩ := vis_mem.1 h
  exact (visB_iff.1 h2).1
theorem vis_anti {l : List api_Cell} {p q : api_Prop} (hp : p ∈ vis l) (hq : q ∈ vis l) : belB p.Name q.Name = false := by
  obtain ⟨c, hc, hv, rfl⟩ := vis_mem.1 hp
  obtain ⟨d, hd, hv2, rfl⟩ := vis_mem.1 hq
  rw [Bool.eq_false_iff]
  intro hb
  have k1 := (visB_iff.1 hv).2 d hd
  have k2 := (visB_iff.1 hv2).2 c hc
  have z1 := (visB_iff.1 hv).1
  have z2 := (visB_iff.1 hv2).1
  unfold hidesB at k1 k2
  have hb : belB (nm c) (nm d) = true := hb
  have hbf := bel_irr hb
  have ha := stO_anti c.Stamp d.Stamp
  by_cases h1 : 0 < stO d.Stamp c.Stamp
  · rw [if_pos h1, hb] at k1; simp at k1
  · rw [if_neg h1] at k1
    by_cases h2 : stO d.Stamp c.Stamp = 0
    · rw [if_pos h2, hb] at k1
      simp [z1, z2] at k1
    · rw [if_pos (by omega), hb, hbf] at k2
      simp [z2] at k2
theorem up_len {α : Type} (f : α → Int) : ∀ {l : List α} {lo hi : Int}, l.Pairwise (fun x y => f x < f y) → (∀ x ∈ l, lo ≤ f x ∧ f x ≤ hi) → lo ≤ hi + 1 → (l.length : Int) ≤ hi - lo + 1
  | [], lo, hi, _, _, h => by simp; omega
  | x :: l, lo, hi, hp, hb, h => by
    obtain ⟨h1, h2⟩ := List.pairwise_cons.1 hp
    have h3 := hb x (List.mem_cons_self ..)
    have := up_len f (l := l) (lo := f x + 1) (hi := hi) h2 (fun y hy => ⟨by have := h1 y hy; omega, (hb y (List.mem_cons_of_mem _ hy)).2⟩) (by omega)
    simp only [List.length_cons]
    omega
/-! ### What is gone -/
def goneL (D : List api_Cell) : List (List UInt8) := (D.filter fun c => decide (c.Prop_.Value.Kind = 0) && !(D.any fun x => hidesB x c)).map nm
theorem gone_eq {t : api_Twin} (hl : t.Desired.length ≤ 10000) : loopO (z1080 t) ([], 0) = some (goneL t.Desired) := by
  have := fold_loop0 (l := t.Desired) (f := z1080 t) (fun (s : List (List UInt8)) i => (s, i)) (fun s c => bif decide (c.Prop_.Value.Kind = 0) && !(t.Desired.any fun x => hidesB x c) then s ++ [nm c] else s) id (fun i s => s.length ≤ i) (s0 := []) (by omega)
    (fun i hi s hs => by
      have hc : (i : Int) < t.Desired.length := by omega
      have h2 : z1156 t.Desired (api_Cell.mk (api_Prop.mk t.Desired[i].Prop_.Name (api_Value.mk t.Desired[i].Prop_.Value.Kind t.Desired[i].Prop_.Value.Flag t.Desired[i].Prop_.Value.Number t.Desired[i].Prop_.Value.Words)) (api_Stamp.mk t.Desired[i].Stamp.At t.Desired[i].Stamp.By t.Desired[i].Stamp.No)) = some (t.Desired.any fun x => hidesB x t.Desired[i]) := hidden_eq t.Desired t.Desired[i] (by omega)
      have hx3 : z1089 t t.Desired[i] = some (decide (t.Desired[i].Prop_.Value.Kind = 0) && !(t.Desired.any fun x => hidesB x t.Desired[i])) := by
        unfold z1089
        rw [h2]
        cases decide (t.Desired[i].Prop_.Value.Kind = 0) <;> rfl
      refine ⟨?_, ?_⟩
      · unfold z1080 z1085
        simp only [hc, decide_true, cond_true, at_nat hi, Option.bind_some, hx3]
        cases decide (t.Desired[i].Prop_.Value.Kind = 0) && !(t.Desired.any fun x => hidesB x t.Desired[i]) with
        | false => rfl
        | true =>
          simp only [cond_true, gd]
          rw [lim_ok (by simp; omega)]
          rfl
      · cases decide (t.Desired[i].Prop_.Value.Kind = 0) && !(t.Desired.any fun x => hidesB x t.Desired[i]) <;> simp <;> omega)
    (fun s _ => by unfold z1080; simp) (by simp)
  rw [this.1]
  rw [foldl_filter (fun c => decide (c.Prop_.Value.Kind = 0) && !(t.Desired.any fun x => hidesB x c)) nm]
  rfl
theorem owed1_eq (l : List (List UInt8)) (n : List UInt8) (hl : (l.length : Int) ≤ 9223372036854775807) : z655 l n = some (l.any fun s => decide (s = n) || belB n s) := by
  have h0 : z655 l n = ((z737 l n).bind fun vr2 => some (decide (0 ≤ vr2))) := rfl
  rw [h0]
  unfold z737
  obtain ⟨x, h1, h2⟩ := find_loop (l := l) (f := z740 l n) (fun s => decide (s = n) || belB n s) hl (fun i h => by
    unfold z740 z1068 z1071
    have hc : (i : Int) < l.length := by omega
    simp only [hc, decide_true, cond_true, at_nat h, Option.bind_some, Below_is]
    cases decide (l[i] = n) <;> cases belB n l[i] <;> rfl) (by unfold z740; simp)
  rw [h1, ← h2]
  cases x <;> rfl
theorem owed2_eq (l : List api_Prop) (n : List UInt8) (hl : (l.length : Int) ≤ 9223372036854775807) : z649 l n = some (l.any fun p => belB p.Name n) := by
  have h0 : z649 l n = ((z721 l n).bind fun vr2 => some (decide (0 ≤ vr2))) := rfl
  rw [h0]
  unfold z721
  obtain ⟨x, h1, h2⟩ := find_loop (l := l) (f := z724 l n) (fun p => belB p.Name n) hl (fun i h => by
    unfold z724 z1075
    have hc : (i : Int) < l.length := by omega
    simp only [hc, decide_true, cond_true, at_nat h, Option.bind_some, Below_is]
    cases belB l[i].Name n <;> rfl) (by unfold z724; simp)
  rw [h1, ← h2]
  cases x <;> rfl
/-- a name of which the desired cells say nothing -/
def skipB (D : List api_Cell) (n : List UInt8) : Bool := !((goneL D).any fun s => decide (s = n) || belB n s) && !((vis D).any fun p => belB p.Name n)
def eqV (a b : api_Value) : Bool := (decide (a.Kind = b.Kind) && ((a.Flag == b.Flag) && (decide (a.Number = b.Number) && (decide (a.Words = b.Words) && true))))
theorem eqV_iff {a b : api_Value} : eqV a b = true ↔ a = b := veq_iff
def keepB (D R : List api_Cell) (n : List UInt8) : Bool := !(decide ((vo (vis D) n).Kind = 0) && skipB D n) && !eqV (vo (vis R) n) (vo (vis D) n)
def mkCh (D R : List api_Cell) (n : List UInt8) : api_Change := api_Change.mk n (vo (vis R) n) (vo (vis D) n)
def owL (D R : List api_Cell) (ns : List (List UInt8)) : List api_Change := (ns.filter (keepB D R)).map (mkCh D R)
theorem owed_loop {D R : List api_Cell} {ns : List (List UInt8)} (hD : Srt D) (hR : Srt R) (lD : D.length ≤ 500) (lR : R.length ≤ 500) (hn : ns.length ≤ 10000) : loopO (z1093 (vis D) (vis R) (goneL D) ns) ([], 0) = some (owL D R ns) := by
  have v1 := vis_len D
  have v2 := vis_len R
  have g1 : (goneL D).length ≤ D.length := by unfold goneL; rw [List.length_map]; exact List.length_filter_le _ _
  have := fold_loop0 (l := ns) (f := z1093 (vis D) (vis R) (goneL D) ns) (fun (s : List api_Change) i => (s, i)) (fun s n => bif keepB D R n then s ++ [mkCh D R n] else s) id (fun i s => s.length ≤ i) (s0 := []) (by omega)
    (fun i hi s hs => by
      have hc : (i : Int) < ns.length := by omega
      have hx6 : z1102 (vis D) (goneL D) ns[i] (vo (vis D) ns[i]) = some (decide ((vo (vis D) ns[i]).Kind = 0) && skipB D ns[i]) := by
        unfold z1102
        rw [owed1_eq _ _ (by omega), owed2_eq _ _ (by omega)]
        unfold skipB
        cases decide ((vo (vis D) ns[i]).Kind = 0) with
        | false => rfl
        | true => cases ((goneL D).any fun s => decide (s = ns[i]) || belB ns[i] s) <;> rfl
      have hx5 : z1098 (vis D) (vis R) (goneL D) ns s i = some (bif keepB D R ns[i] then s ++ [mkCh D R ns[i]] else s) := by
        unfold z1098 keepB
        simp only [at_nat hi, Option.bind_some, valueOf_eq (vis_srt hR) (show (vis R).length ≤ 10000 by omega), valueOf_eq (vis_srt hD) (show (vis D).length ≤ 10000 by omega), hx6]
        cases (decide ((vo (vis D) ns[i]).Kind = 0) && skipB D ns[i]) with
        | true => rfl
        | false =>
          show (bif !eqV (vo (vis R) ns[i]) (vo (vis D) ns[i]) then _ else _) = _
          cases eqV (vo (vis R) ns[i]) (vo (vis D) ns[i]) with
          | true => rfl
          | false =>
            simp only [Bool.not_false, cond_true, gd, Bool.and_self]
            rw [lim_ok (by simp; omega)]
            rfl
      refine ⟨?_, ?_⟩
      · unfold z1093
        simp only [hc, decide_true, cond_true, hx5, Option.bind_some]
      · cases keepB D R ns[i] <;> simp <;> omega)
    (fun s _ => by unfold z1093; simp) (by simp)
  rw [this.1, foldl_filter (keepB D R) (mkCh D R)]
  rfl
end Go.Eng

/-
Lists of properties that streams make: they are right.
-/
namespace Go.Eng
open Go
set_option linter.unusedVariables false
set_option linter.unusedSimpArgs false

/-! ### Sorting keeps what there is -/
section
variable {α : Type}
theorem swap_pm {l : List α} {j : Nat} (h : 0 < j) (hj : j < l.length) : ((l.set j (l[j - 1]'(by omega))).set (j - 1) l[j]).Perm l := by
  have h1 := Array.swap_perm (xs := l.toArray) (i := j) (j := j - 1) (by simpa using hj) (by simp; omega)
  have h2 := Array.perm_iff_toList_perm.1 h1
  simpa [Array.swap] using h2
theorem gI2_pm {P : α → Prop} {f : α → α → Int} {c : α → α → Option Int} (hc : ∀ x y, P x → P y → c x y = some (f x y)) {n : Nat} (hn : n ≤ 100000) {l0 l : List α} (hl : l.length = n) (hP : All P l) (h0 : l.Perm l0) {i : Nat} (hi : i < n) :
    Ok (loopO (gI2 c 0) (l, (i : Int))) (fun r => r.length = n ∧ All P r ∧ r.Perm l0) := by
  refine loop_ok (fun s : List α × Int => s.1.length = n ∧ All P s.1 ∧ s.1.Perm l0 ∧ ∃ j : Nat, s.2 = (j : Int) ∧ j ≤ i) (fun s => s.2.toNat) ?_ ⟨hl, hP, h0, i, rfl, Nat.le_refl _⟩
  rintro ⟨m, q⟩ ⟨m1, m2, m3, j, rfl, j1⟩
  simp only at m1 m2 m3
  unfold gI2 gI3
  by_cases hj : (0 : Int) < j
  · have w1 : IntKind.wrap .i64 ((j : Int) - 1) = ((j - 1 : Nat) : Int) := by rw [wrap64 (by omega) (by omega)]; omega
    have hjm : j < m.length := by omega
    have hjm1 : j - 1 < m.length := by omega
    have hy := m2 _ (List.getElem_mem hjm)
    have hx := m2 _ (List.getElem_mem hjm1)
    simp only [hj, decide_true, cond_true, w1, at_nat hjm, at_nat hjm1, Option.bind_some, hc _ _ hy hx]
    refine .cond (fun hlt => ?_) (fun hge => ?_)
    · have g3 : at? (m.set (j : Int).toNat m[j - 1]) ((j - 1 : Nat) : Int) = some m[j - 1] := by
        rw [at_nat (by simp; omega)]
        simp only [Int.toNat_natCast, List.getElem_set]
        rw [if_neg (by omega)]
      rw [g3]
      simp only [Option.bind_some, Int.toNat_natCast]
      exact .some ⟨⟨by simp [m1], (m2.set hx).set hy, (swap_pm (by omega) hjm).trans m3, j - 1, rfl, by omega⟩, by simp only; omega⟩
    · exact .some ⟨m1, m2, m3⟩
  · have hj' : ¬ (0 : Int) < j := hj
    simp only [hj', decide_false, cond_false, Option.bind_some]
    exact .some ⟨m1, m2, m3⟩
theorem gI_pm {P : α → Prop} {f : α → α → Int} {c : α → α → Option Int} (hc : ∀ x y, P x → P y → c x y = some (f x y)) {l : List α} (hl : l.length ≤ 100000) (hP : All P l) : Ok (gI c l 0 l.length) (fun r => r.Perm l) := by
  unfold gI
  have w : IntKind.wrap .i64 ((0 : Int) + 1) = 1 := by decide
  rw [w]
  refine Ok.bind (P := fun r : List α => r.Perm l) (loop_ok (fun s : List α × Int => s.1.length = l.length ∧ All P s.1 ∧ s.1.Perm l ∧ ∃ i : Nat, s.2 = (i : Int)) (fun s => ((l.length : Int) - s.2).toNat) ?_
    ⟨rfl, hP, List.Perm.refl _, 1, rfl⟩) fun r hr => .some hr
  rintro ⟨m, q⟩ ⟨m1, m2, m3, i, rfl⟩
  simp only at m1 m2 m3
  unfold gI1
  by_cases hi : i < l.length
  · have hi' : (i : Int) < l.length := by omega
    have w1 : IntKind.wrap .i64 ((i : Int) + 1) = ((i + 1 : Nat) : Int) := by rw [wrap64 (by omega) (by omega)]; omega
    simp only [hi', decide_true, cond_true]
    refine (gI2_pm hc (n := l.length) hl m1 m2 m3 hi).bind fun r hr => ?_
    rw [w1]
    exact .some ⟨⟨hr.1, hr.2.1, hr.2.2, i + 1, rfl⟩, by simp only; omega⟩
  · have hi' : ¬ (i : Int) < l.length := by omega
    simp only [hi', decide_false, cond_false]
    exact .some m3
end
def cmpP (x y : api_Prop) : Option Int := some (Lib.compareBytes x.Name y.Name)
theorem insP_eq : z811 = gI cmpP := by kernel_rfl
def POrd (l : List api_Prop) : Prop := Ord (fun x y : api_Prop => Lib.compareBytes x.Name y.Name) l l.length
theorem sortP_ok {l : List api_Prop} (hl : l.length ≤ 12) : Ok (z748 l) (fun r => r.Perm l ∧ POrd r) := by
  unfold z748
  refine (bitLen12 l.length hl).bind fun b _ => ?_
  have hP : All (fun _ : api_Prop => True) l := fun _ _ => trivial
  have hI := (gI_ord (P := fun _ => True) (f := fun x y : api_Prop => Lib.compareBytes x.Name y.Name) (c := cmpP) (fun _ _ _ _ => rfl) (fun x y => cmpB_anti _ _) (fun x y z => cmpB_tr) (l := l) (by omega) hP).and (gI_pm (P := fun _ => True) (f := fun x y : api_Prop => Lib.compareBytes x.Name y.Name) (c := cmpP) (fun _ _ _ _ => rfl) (l := l) (by omega) hP)
  obtain ⟨r, h1, ⟨h2, h3, h4⟩, h5⟩ := hI
  have e : z853 l 0 l.length b = some r := by
    unfold z853
    have : loopO (z856 l 0 (l.length : Int) b) () = some r := by
      refine loop_out ?_
      unfold z856
      have w : IntKind.wrap .i64 ((l.length : Int) - 0) = l.length := by rw [wrap64 (by omega) (by omega)]; omega
      have hc : (l.length : Int) ≤ 12 := by omega
      rw [w, insP_eq, h1]
      simp only [hc, decide_true, cond_true, Option.bind_some, gd, h2, beq_self_eq_true]
    rw [this]; rfl
  rw [e]
  simp only [Option.bind_some]
  refine .gd (by simp [h2]) (.some ⟨h5, ?_⟩)
  unfold POrd
  rw [h2]
  exact h4
/-! ### Values and names -/
def rv15 : List api_Value := [api_Value.mk 1 false 0 [], api_Value.mk 1 true 0 [], api_Value.mk 3 false 0 [], api_Value.mk 3 false 0 [120], api_Value.mk 3 false 0 [97, 32, 34, 98, 34], api_Value.mk 3 false 0 [92],
  api_Value.mk 3 false 0 [195, 169], api_Value.mk 3 false 0 [45, 32, 49], api_Value.mk 2 false 1 [], api_Value.mk 2 false 2 [], api_Value.mk 2 false 3 [], api_Value.mk 2 false 0 [], api_Value.mk 2 false (-5) [], api_Value.mk 2 false 1000000000 []]
theorem rv_own : (rv15.all fun v => decide (z1224 v = some 0) && !decide (v.Kind = 0)) = true := by kernel_rfl
theorem rv_ref : (rv15.all fun v => decide (z468 v = some 0)) = true := by kernel_rfl
theorem nm7_ref : (nm7.all fun n => decide (z411 n = some true)) = true := by kernel_rfl
theorem nm7_above : (nm7.all fun a => nm7.all fun b => decide (z507 a b = some (belB b a))) = true := by kernel_rfl
def RP (p : api_Prop) : Prop := p.Name ∈ nm7 ∧ p.Value ∈ rv15
theorem isName7 {n : List UInt8} (h : n ∈ nm7) : z1170 n = some true := of_decide_eq_true (List.all_eq_true.1 nm7_ok _ h)
theorem RP.gp {p : api_Prop} (h : RP p) : GP p := by
  have := List.all_eq_true.1 rv_own _ h.2
  simp only [Bool.and_eq_true, decide_eq_true_eq, Bool.not_eq_true', decide_eq_false_iff_not] at this
  exact ⟨isName7 h.1, this.1, this.2⟩
theorem RP.len {p : api_Prop} (h : RP p) : (p.Name.length : Int) ≤ 9223372036854775807 := by
  have := of_decide_eq_true (List.all_eq_true.1 nm7_len _ h.1)
  omega
theorem RightValue_in {k : Nat} {s : z177} (h : StrOk k s) (hk : k + 10 < 1099511627776) : Ok (z244 s) (fun v => v ∈ rv15) := by
  unfold z244
  have h1 := nxt_mk h (by omega)
  refine (Next_ok h (by omega) (by unfold I64; omega)).bind fun n _ => .cond (fun _ => ?_) (fun _ => .cond (fun _ => ?_) (fun _ => ?_))
  · exact (Flip_ok h1 (by omega) (by unfold I64; omega)).bind fun b _ => .some (by cases b <;> simp [rv15])
  · refine (Some_ok h1 (by omega) (by simp) (by simp)).bind fun w hw => .some ?_
    simp at hw
    rcases hw with rfl | rfl | rfl | rfl | rfl | rfl <;> simp [rv15]
  · refine (Pick_ok h1 (by omega) (by simp) (by simp)).bind fun n hn => .some ?_
    simp at hn
    rcases hn with rfl | rfl | rfl | rfl | rfl | rfl | rfl <;> simp [rv15]

/-! ### The reference's check -/
theorem above7 {a b : List UInt8} (ha : a ∈ nm7) (hb : b ∈ nm7) : z507 a b = some (belB b a) := of_decide_eq_true (List.all_eq_true.1 (List.all_eq_true.1 nm7_above _ ha) _ hb)
theorem refC_eq {l : List api_Prop} (hl : l.length ≤ 1000) (hR : ∀ p ∈ l, RP p) {p : api_Prop} (hp : RP p) : z646 l p = some (l.any fun q => belB p.Name q.Name) := by
  have h0 : z646 l p = ((z713 l p).bind fun vr2 => some (decide (0 ≤ vr2))) := rfl
  rw [h0]
  unfold z713
  obtain ⟨x, h1, h2⟩ := find_loop (l := l) (f := z716 l p) (fun q => belB p.Name q.Name) (by omega) (fun i h => by
    unfold z716 z422
    have hc : (i : Int) < l.length := by omega
    simp only [hc, decide_true, cond_true, at_nat h, Option.bind_some, above7 (hR _ (List.getElem_mem h)).1 hp.1]
    cases belB p.Name l[i].Name <;> rfl) (by unfold z716; simp)
  rw [h1, ← h2]
  cases x <;> rfl
def Anti (l : List api_Prop) : Prop := ∀ p ∈ l, ∀ q ∈ l, belB p.Name q.Name = false
theorem refP_ok {l : List api_Prop} (hl : l.length ≤ 400) (hR : ∀ p ∈ l, RP p) : Ok (z421 l) (fun e => e = 0 → PSrt l ∧ Anti l) := by
  unfold z421
  refine .cond (fun h => absurd (of_decide_eq_true h) (by omega)) fun _ => ?_
  have one : Ok (loopO (z427 l) 0) (fun r => match r with | .inl _ => PSrt l | .inr e => e ≠ 0) := by
    refine loop_ok (fun s : Int => ∃ i : Nat, s = (i : Int) ∧ i ≤ l.length ∧ ∀ j (h0 : 0 < j) (h : j < i) (hl : j < l.length), nlt (l[j - 1]'(by omega)).Name l[j].Name) (fun s => ((l.length : Int) - s).toNat) ?_ ⟨0, rfl, by omega, fun j h0 h => by omega⟩
    rintro _ ⟨i, rfl, i1, i2⟩
    unfold z427
    by_cases hi : i < l.length
    · have hc : (i : Int) < l.length := by omega
      have hp := hR _ (List.getElem_mem hi)
      have w1 : IntKind.wrap .i64 ((i : Int) + 1) = ((i + 1 : Nat) : Int) := by rw [wrap64 (by omega) (by omega)]; omega
      have e1 : z411 l[i].Name = some true := of_decide_eq_true (List.all_eq_true.1 nm7_ref _ hp.1)
      have e2 : z468 (api_Value.mk l[i].Value.Kind l[i].Value.Flag l[i].Value.Number l[i].Value.Words) = some 0 := of_decide_eq_true (List.all_eq_true.1 rv_ref _ hp.2)
      have e3 := hp.gp.2.2
      simp only [hc, decide_true, cond_true, at_nat hi, Option.bind_some, e1, e2, e3, Bool.not_true, cond_false, decide_false, w1]
      unfold z432
      cases i with
      | zero =>
        simp only [show ¬ (0 : Int) < ((0 : Nat) : Int) by omega, decide_false, cond_false, Option.bind_some]
        exact .some ⟨⟨1, rfl, by omega, fun j h0 h => by omega⟩, by omega⟩
      | succ i =>
        have hp0 : (0 : Int) < ((i + 1 : Nat) : Int) := by omega
        have w : IntKind.wrap .i64 (((i + 1 : Nat) : Int) - 1) = (i : Int) := by rw [wrap64 (by omega) (by omega)]; omega
        simp only [hp0, decide_true, cond_true, w, at_nat (show i < l.length by omega), Option.bind_some]
        refine .cond (fun _ => .some (by simp)) fun hlt => .some ⟨⟨i + 1 + 1, rfl, by omega, fun j h0 h hjl => ?_⟩, by omega⟩
        by_cases hj : j < i + 1
        · exact i2 j h0 hj hjl
        · have : j = i + 1 := by omega
          subst this
          simp only [Bool.or_eq_false_iff, cmpB_less, decide_eq_false_iff_not] at hlt
          show nlt l[i].Name l[i + 1].Name
          rcases cmpB_cases l[i].Name l[i + 1].Name with h2 | h2 | h2
          · exact h2
          · exact absurd h2.symm hlt.2
          · exact absurd h2 hlt.1
    · have hc : ¬ (i : Int) < l.length := by omega
      simp only [hc, decide_false, cond_false]
      refine .some ?_
      show PSrt l
      have key : ∀ (d j : Nat) (hj : j + d + 1 < l.length), nlt (l[j]'(by omega)).Name l[j + d + 1].Name := by
        intro d
        induction d with
        | zero =>
          intro j hj
          exact i2 (j + 1) (by omega) (by omega) (by omega)
        | succ d ih =>
          intro j hj
          exact nlt_trans (ih j (by omega)) (i2 (j + d + 2) (by omega) (by omega) (by omega))
      unfold PSrt
      rw [List.pairwise_iff_getElem]
      intro i j hi hj hij
      have := key (j - i - 1) i (by omega)
      simpa [show i + (j - i - 1) + 1 = j by omega] using this
  obtain ⟨r, h1, h2⟩ := one
  rw [h1]
  cases r with
  | inr e => exact .some fun h => absurd h h2
  | inl _ =>
    have h2 : PSrt l := h2
    simp only [Option.bind_some]
    rw [range_loop (l := l) (fun _ p => bif l.any (fun q => belB p.Name q.Name) then some (.inr ()) else none) (.inl ()) (by omega)]
    · cases hs : scan (fun _ p => bif l.any (fun q => belB p.Name q.Name) then some (.inr () : Unit ⊕ Unit) else none) 0 l with
      | some x =>
        have : x = .inr () := by
          have key : ∀ (m : List api_Prop) (k : Nat), scan (fun _ p => bif l.any (fun q => belB p.Name q.Name) then some (.inr () : Unit ⊕ Unit) else none) k m = some x → x = .inr () := by
            intro m
            induction m with
            | nil => intro k h; simp [scan] at h
            | cons y m ih =>
              intro k h
              simp only [scan] at h
              cases hb : l.any fun q => belB y.Name q.Name with
              | true => rw [hb] at h; simp at h; exact h.symm
              | false => rw [hb] at h; exact ih _ h
          exact key _ _ hs
        subst this
        exact .some fun h => by cases h
      | none =>
        refine .some fun _ => ⟨h2, fun p hp q hq => ?_⟩
        obtain ⟨i, hi, rfl⟩ := List.mem_iff_getElem.1 hp
        have := scan_none.1 hs i l[i] (List.getElem?_eq_getElem hi)
        cases hb : l.any fun q => belB l[i].Name q.Name with
        | true => rw [hb] at this; cases this
        | false =>
          have := List.any_eq_false.1 hb q hq
          simpa using this
    · intro i hi
      have hc : (i : Int) < l.length := by omega
      have hp := hR _ (List.getElem_mem hi)
      unfold z436
      have e : z646 l (api_Prop.mk l[i].Name (api_Value.mk l[i].Value.Kind l[i].Value.Flag l[i].Value.Number l[i].Value.Words)) = some (l.any fun q => belB l[i].Name q.Name) := refC_eq (by omega) hR hp
      simp only [hc, decide_true, cond_true, at_nat hi, Option.bind_some, e]
      cases l.any (fun q => belB l[i].Name q.Name) <;> rfl
    · unfold z436; simp

/-! ### Right properties -/
structure GR (l : List api_Prop) : Prop where
  rp : ∀ p ∈ l, RP p
  srt : PSrt l
  anti : Anti l
def rk4 (n : List UInt8) : Int := if n = [97] then 1 else if n = [97, 46, 120] then 1 else if n = [97, 46, 120, 46, 112] then 1 else if n = [97, 46, 121] then 2 else if n = [97, 98] then 3 else 4
theorem rk4_up : (nm7.all fun n => nm7.all fun m => !decide (rk n < rk m) || (belB m n || decide (rk4 n < rk4 m))) = true := by decide
theorem rk4_range : (nm7.all fun n => decide (1 ≤ rk4 n) && decide (rk4 n ≤ 4)) = true := by decide
theorem GR.len {l : List api_Prop} (h : GR l) : l.length ≤ 4 := by
  have := up_len (fun p : api_Prop => rk4 p.Name) (l := l) (lo := 1) (hi := 4) (List.Pairwise.imp_of_mem (fun {p q} hp hq hpq => by
    have h1 := (rk_spec (h.rp p hp).1 (h.rp q hq).1).2.1.1 hpq
    have h2 := List.all_eq_true.1 (List.all_eq_true.1 rk4_up _ (h.rp p hp).1) _ (h.rp q hq).1
    simpa [h1, h.anti q hq p hp] using h2) h.srt) (fun p hp => by
    have := List.all_eq_true.1 rk4_range _ (h.rp p hp).1
    simpa using this) (by omega)
  omega
theorem RightProps_ok {k : Nat} {s : z177} (h : StrOk k s) (hk : k + 100 < 1099511627776) : Ok (z229 s) (fun r => StrOk (k + 60) r.1 ∧ GR r.2) := by
  unfold z229
  refine (Range_ok h (by omega) (by omega) (by omega)).bind fun ⟨s1, n⟩ ⟨r1, r2, r3, _⟩ => ?_
  simp only at r1 r2 r3
  have r3 := r3 (by omega)
  refine Ok.bind (P := fun q : z177 × List api_Prop => StrOk (k + 60) q.1 ∧ GR q.2) ?_ fun q hq => .some hq
  refine loop_ok (fun q : z177 × List api_Prop × Int => ∃ j : Nat, q.2.2 = (j : Int) ∧ (j : Int) ≤ 5 ∧ StrOk (k + 1 + 3 * j) q.1 ∧ GR q.2.1) (fun q => ((5 : Int) - q.2.2).toNat) ?_ ⟨0, rfl, by omega, by simpa using r1, ⟨(fun _ h => nomatch h), List.Pairwise.nil, (fun _ h => nomatch h)⟩⟩
  rintro ⟨s2, l, i⟩ ⟨j, rfl, j1, j2, j3⟩
  simp only at j2 j3
  unfold z232
  refine .cond (fun hc => ?_) (fun hc => .some ⟨j2.mono (by omega), j3⟩)
  have hc : (j : Int) < n := by simpa using hc
  have hlen := j3.len
  have hx2 : Ok (z237 s2 l) GR := by
    unfold z237 z584
    have hb : Nat.ble (([] : List api_Prop).length + l.length) LIM = true := lim_ok (by simp; omega)
    rw [hb]
    simp only [gd, cond_true, Option.bind_some]
    refine (Some_ok j2 (by omega) (by simp) (by simp)).bind fun w hw => ?_
    have a1 := nxt_mk j2 (by omega)
    refine (RightValue_in a1 (by omega)).bind fun v hv => ?_
    have hw7 : w ∈ nm7 := by
      simp at hw
      rcases hw with rfl | rfl | rfl | rfl | rfl | rfl | rfl <;> decide
    rw [lim_ok (show (l.length + [api_Prop.mk w v].length) ≤ 100000 by simp; omega)]
    simp only [cond_true]
    refine (sortP_ok (by simp; omega)).bind fun r ⟨q1, q2⟩ => ?_
    have hr : ∀ p ∈ r, RP p := by
      intro p hp
      rcases List.mem_append.1 (q1.mem_iff.1 hp) with hp | hp
      · exact j3.rp p hp
      · rw [List.mem_singleton] at hp; subst hp; exact ⟨hw7, hv⟩
    have hlr : r.length = (l ++ [api_Prop.mk w v]).length := q1.length_eq
    rw [hlr]
    simp only [beq_self_eq_true, cond_true]
    refine (refP_ok (by rw [hlr]; simp; omega) hr).bind fun e he => .cond (fun h0 => .some ⟨hr, ?_, ?_⟩) fun _ => .some j3
    · exact (he (of_decide_eq_true h0)).1
    · exact (he (of_decide_eq_true h0)).2
  refine hx2.bind fun m hm => ?_
  have w1 : IntKind.wrap .i64 ((j : Int) + 1) = ((j + 1 : Nat) : Int) := by rw [wrap64 (by omega) (by omega)]; omega
  refine .some ⟨⟨j + 1, w1, by omega, (nxt_mk (nxt_mk (nxt_mk j2 (by omega)) (by omega)) (by omega)).mono (by omega), hm⟩, ?_⟩
  show ((5 : Int) - IntKind.wrap .i64 ((j : Int) + 1)).toNat < _
  rw [w1]; simp only; omega
end Go.Eng

/-
Checks of properties: the code's and the reference's say the same.
-/
namespace Go.Eng
open Go
set_option linter.unusedVariables false
set_option linter.unusedSimpArgs false

/-! ### Values -/
theorem eqV_self' (v : api_Value) : eqV v v = true := eqV_iff.2 rfl
theorem eqV_comm' (x y : api_Value) : eqV x y = eqV y x := by
  cases h : eqV x y with
  | true => rw [eqV_iff.1 h, eqV_self']
  | false =>
    cases h2 : eqV y x with
    | false => rfl
    | true => rw [eqV_iff.1 h2, eqV_self'] at h; cases h
theorem in_not (n low high : Int) : z527 n low high = some (!(decide (n < low) || decide (high < n))) := by
  unfold z527 z530
  by_cases h1 : low ≤ n
  · have h2 : ¬ n < low := by omega
    by_cases h3 : n ≤ high
    · have h4 : ¬ high < n := by omega
      simp [h1, h2, h3, h4]
    · have h4 : high < n := by omega
      simp [h1, h2, h3, h4]
  · have h2 : n < low := by omega
    simp [h1, h2]
/-- what is used of a value -/
def pl (v : api_Value) : api_Value := if v.Kind = 1 then api_Value.mk v.Kind v.Flag 0 [] else if v.Kind = 2 then api_Value.mk v.Kind false v.Number [] else if v.Kind = 3 then api_Value.mk v.Kind false 0 v.Words else api_Value.mk v.Kind false 0 []
def vfI (v : api_Value) (b : Bool) : Int := bif decide (v.Kind < 0) || decide (3 < v.Kind) then 4 else bif !eqV v (pl v) then 3 else bif decide (v.Number < -1000000000) || decide (1000000000 < v.Number) then 1 else
  bif decide (1000 < (v.Words.length : Int)) then 2 else bif !b then 3 else 0
def KW (w : List UInt8) (b : Bool) : Prop := w.length ≤ 1000 → z60 w = some b ∧ z397 w = some b
theorem vf_own {v : api_Value} {b : Bool} (h : KW v.Words b) : z1224 v = some (vfI v b) := by
  have last : (bif decide (1000 < (v.Words.length : Int)) then some 2 else (z60 v.Words).bind fun vr1 => bif !vr1 then some 3 else some 0) = some (bif decide (1000 < (v.Words.length : Int)) then 2 else bif !b then 3 else 0 : Int) := by
    by_cases hl : 1000 < (v.Words.length : Int)
    · simp [hl]
    · rw [(h (by omega)).1]
      simp only [hl, decide_false, cond_false, Option.bind_some]
      cases b <;> rfl
  have x1 : z1227 v = if v.Kind < 0 ∨ 3 < v.Kind then some (.inr ()) else some (.inl (pl v)) := by
    unfold z1227 pl
    by_cases k0 : v.Kind = 0
    · simp [k0]
    · by_cases k1 : v.Kind = 1
      · simp [k1]
      · by_cases k2 : v.Kind = 2
        · simp [k2]
        · by_cases k3 : v.Kind = 3
          · simp [k3]
          · have : v.Kind < 0 ∨ 3 < v.Kind := by omega
            simp [k0, k1, k2, k3, this]
  unfold z1224
  rw [x1]
  unfold vfI
  by_cases hk : v.Kind < 0 ∨ 3 < v.Kind
  · rw [if_pos hk]
    have : (decide (v.Kind < 0) || decide (3 < v.Kind)) = true := by simpa using hk
    rw [this]; rfl
  · rw [if_neg hk]
    have : (decide (v.Kind < 0) || decide (3 < v.Kind)) = false := by simpa using hk
    rw [this]
    simp only [Option.bind_some, cond_false]
    show (bif !eqV v (pl v) then some 3 else _) = _
    cases eqV v (pl v) with
    | false => rfl
    | true =>
      simp only [Bool.not_true, cond_false, Out_eq, Option.bind_some]
      cases (decide (v.Number < -1000000000) || decide (1000000000 < v.Number)) with
      | true => rfl
      | false => exact last
theorem vf_ref {v : api_Value} {b : Bool} (h : KW v.Words b) : z468 v = some (vfI v b) := by
  have last : (bif decide (1000 < (v.Words.length : Int)) then some 2 else (z397 v.Words).bind fun vr1 => bif !vr1 then some 3 else some 0) = some (bif decide (1000 < (v.Words.length : Int)) then 2 else bif !b then 3 else 0 : Int) := by
    by_cases hl : 1000 < (v.Words.length : Int)
    · simp [hl]
    · rw [(h (by omega)).2]
      simp only [hl, decide_false, cond_false, Option.bind_some]
      cases b <;> rfl
  have x1 : z471 v = some (pl v) := by
    unfold z471 pl
    by_cases k1 : v.Kind = 1
    · simp [k1]
    · by_cases k2 : v.Kind = 2
      · simp [k2]
      · by_cases k3 : v.Kind = 3
        · simp [k3]
        · simp [k1, k2, k3]
  unfold z468
  rw [x1]
  unfold vfI
  simp only [in_not, Option.bind_some, Bool.not_not]
  cases (decide (v.Kind < 0) || decide (3 < v.Kind)) with
  | true => rfl
  | false =>
    simp only [cond_false]
    have e : (decide ((pl v).Kind = v.Kind) && (((pl v).Flag == v.Flag) && (decide ((pl v).Number = v.Number) && (decide ((pl v).Words = v.Words) && true)))) = eqV v (pl v) := eqV_comm' (pl v) v
    rw [e]
    cases eqV v (pl v) with
    | false => rfl
    | true =>
      simp only [Bool.not_true, cond_false]
      cases (decide (v.Number < -1000000000) || decide (1000000000 < v.Number)) with
      | true => rfl
      | false => exact last

/-! ### Names above one another -/
theorem above_is (a b : List UInt8) (hl : a.length ≤ 10000) : z507 a b = some (belB b a) := by
  unfold z507 z922 z982 z985
  have h0 : Nat.ble (a.length + ([46] : List UInt8).length) LIM = true := lim_ok (by simp; omega)
  rw [h0]
  simp only [gd, cond_true, Option.bind_some]
  unfold belB
  by_cases h : (((a ++ ([46] : List UInt8)).length : Nat) : Int) ≤ (b.length : Int)
  · have hsub : sub? b 0 (((a ++ ([46] : List UInt8)).length : Nat) : Int) = some (b.take (a ++ ([46] : List UInt8)).length) := by
      unfold sub?
      rw [if_pos ⟨by omega, by omega, by omega⟩]
      simp
    simp only [h, decide_true, cond_true, hsub, Option.bind_some]
    congr 1
    rw [Bool.eq_iff_iff, decide_eq_true_iff, List.isPrefixOf_iff_prefix, List.prefix_iff_eq_take, eq_comm]
  · simp only [h, decide_false, cond_false, Option.bind_some]
    congr 1
    rw [eq_comm, Bool.eq_false_iff]
    intro hp
    have := (List.isPrefixOf_iff_prefix.1 hp).length_le
    omega
/-! ### The checks -/
/-- a property of which both checks know what to say -/
def KP (p : api_Prop) : Prop := (∃ b, z1170 p.Name = some b ∧ z411 p.Name = some b) ∧ (∃ b, KW p.Value.Words b) ∧ p.Name.length ≤ 10000
end Go.Eng

/-
Properties that streams make, nearly always right ones: names, values, words.
-/
namespace Go.Eng
open Go
set_option linter.unusedVariables false
set_option linter.unusedSimpArgs false

def nm18 : List (List UInt8) := nm7 ++ [[97, 45, 49], [], [65], [97, 46], [46, 97], [97, 46, 46, 98], [97, 46, 98, 46, 99, 46, 100, 46, 101, 46, 102, 46, 103, 46, 104, 46, 105], [97, 32, 98], List.replicate 41 97]
noncomputable def okName (n : List UInt8) : Bool := match z1170 n, z411 n with
  | some a, some b => a == b
  | _, _ => false
theorem nm18_same : (nm18.all okName) = true := by kernel_rfl
theorem nm18_len : (nm18.all fun n => decide (n.length ≤ 100)) = true := by decide
theorem okName_spec {n : List UInt8} (h : okName n = true) : ∃ b, z1170 n = some b ∧ z411 n = some b := by
  unfold okName at h
  split at h
  · rename_i a b h1 h2
    have : a = b := by simpa using h
    subst this
    exact ⟨a, h1, h2⟩
  · cases h
def wd11 : List (List UInt8) := [[], [120], [97, 32, 34, 98, 34], [92], [195, 169], [45, 32, 49], [10], [127], [255], [122]]
noncomputable def okWord (w : List UInt8) : Bool := match z60 w, z397 w with
  | some a, some b => a == b
  | _, _ => false
theorem wd11_same : (wd11.all okWord) = true := by kernel_rfl
theorem okWord_spec {w : List UInt8} (h : w ∈ wd11) : ∃ b, KW w b := by
  have h := List.all_eq_true.1 wd11_same _ h
  unfold okWord at h
  split at h
  · rename_i a b h1 h2
    have : a = b := by simpa using h
    subst this
    exact ⟨a, fun _ => ⟨h1, h2⟩⟩
  · cases h
end Go.Eng

/-
Twins: cells and properties that streams make, nearly always right ones; checks of cells.
-/
namespace Go.Eng
open Go
set_option linter.unusedVariables false
set_option linter.unusedSimpArgs false

theorem twinned_eq : z162 = some true := by kernel_rfl
theorem errs3 (a b c : Int) : z154 [a, b, c] = some (or0 a (or0 b c)) := by
  unfold z154 or0
  rw [range_loop (l := [a, b, c]) (fun _ x => if x = 0 then none else some (.inr x)) (.inl ()) (by simp)]
  · by_cases ha : a = 0 <;> by_cases hb : b = 0 <;> by_cases hc : c = 0 <;> simp [scan, ha, hb, hc]
  · intro i hi
    unfold z157
    have hc : (i : Int) < ([a, b, c] : List Int).length := by omega
    simp only [hc, decide_true, cond_true, at_nat hi, Option.bind_some]
    by_cases h0 : ([a, b, c] : List Int)[i] = 0 <;> simp [h0]
  · unfold z157; simp
theorem First_ab (a b : Int) : z24 [a, b] = some (or0 a b) := by
  unfold z24 or0
  rw [range_loop (l := [a, b]) (fun _ x => if x = 0 then none else some (.inr x)) (.inl ()) (by simp)]
  · by_cases ha : a = 0 <;> by_cases hb : b = 0 <;> simp [scan, ha, hb]
  · intro i hi
    unfold z27
    have hc : (i : Int) < ([a, b] : List Int).length := by omega
    simp only [hc, decide_true, cond_true, at_nat hi, Option.bind_some]
    by_cases h0 : ([a, b] : List Int)[i] = 0 <;> simp [h0]
  · unfold z27; simp
theorem CF2_ab (a b : Int) : loopO (z281 a b) 0 = some (if or0 a b = 0 then .inl () else .inr (or0 a b)) := by
  unfold or0
  rw [range_loop (l := [a, b]) (fun _ x => if x = 0 then none else some (.inr x)) (.inl ()) (by simp)]
  · by_cases ha : a = 0 <;> by_cases hb : b = 0 <;> simp [scan, ha, hb]
  · intro i hi
    unfold z281
    have hc : (i : Int) < ([a, b] : List Int).length := by omega
    simp only [hc, decide_true, cond_true, at_nat hi, Option.bind_some]
    by_cases h0 : ([a, b] : List Int)[i] = 0 <;> simp [h0]
  · unfold z281; simp

/-! ### What streams make -/
def KVal (v : api_Value) : Prop := ∃ b, KW v.Words b
theorem kval_in {v : api_Value} (h : v.Words ∈ wd11) : KVal v := okWord_spec h
theorem rv15_words : (rv15.all fun v => wd11.any fun w => decide (w = v.Words)) = true := by kernel_rfl
theorem rv15_in {v : api_Value} (h : v ∈ rv15) : v.Words ∈ wd11 := by
  have := List.all_eq_true.1 rv15_words v h
  obtain ⟨w, hw, h2⟩ := List.any_eq_true.1 this
  have := of_decide_eq_true h2
  rw [← this]; exact hw
theorem rep41 : strings_Repeat [97] 41 = some (List.replicate 41 97) := by kernel_rfl
theorem rep1001 : strings_Repeat [119] 1001 = some (Lib.repeatL [119] 1001) := by
  unfold strings_Repeat
  exact rfl
theorem PropName_ok {k : Nat} {s : z177} (h : StrOk k s) (hk : k + 10 < 1099511627776) : Ok (z208 s) (fun n => n ∈ nm18) := by
  unfold z208
  have h1 := nxt_mk h (by omega)
  refine (Flip_ok h (by omega) (by unfold I64; omega)).bind fun b _ => .cond (fun _ => ?_) (fun _ => ?_)
  · rw [rep41]
    simp only [Option.bind_some]
    refine (Some_ok h1 (by omega) (by simp) (by simp)).bind fun w hw => .some ?_
    unfold nm18
    simp only [List.mem_cons, List.not_mem_nil, or_false] at hw
    rcases hw with h | h | h | h | h | h | h | h <;> subst h <;> simp
  · refine (Some_ok h1 (by omega) (by simp) (by simp)).bind fun w hw => .some ?_
    unfold nm18 nm7
    simp only [List.mem_cons, List.not_mem_nil, or_false] at hw
    rcases hw with h | h | h | h | h | h | h | h | h | h <;> subst h <;> simp
def Bd (n : Int) : Prop := -2000000000000 ≤ n ∧ n ≤ 2000000000000
theorem OddP_ok {k : Nat} {s : z177} {lo hi : Int} (h : StrOk k s) (hk : k + 10 < 1099511627776) (h1 : -1000000000 ≤ lo ∧ lo ≤ hi ∧ hi ≤ 1000000000) : Ok (z202 s lo hi) (fun r => StrOk (k + 2) r.1 ∧ Bd r.2) := by
  unfold z202
  have a1 := nxt_mk h (by omega)
  refine (Flip_ok h (by omega) (by unfold I64; omega)).bind fun b _ => .cond (fun _ => ?_) (fun _ => ?_)
  · refine (Pick_ok a1 (by omega) (by simp) (by simp)).bind fun n hn => .some ⟨nxt_mk a1 (by omega), ?_⟩
    have w1 : IntKind.wrap .i64 (lo - 1) = lo - 1 := wrap64 (by omega) (by omega)
    have w2 : IntKind.wrap .i64 (hi + 1) = hi + 1 := wrap64 (by omega) (by omega)
    rw [w1, w2] at hn
    simp only [List.mem_cons, List.not_mem_nil, or_false] at hn
    unfold Bd
    simp only
    omega
  · refine (Range_ok a1 (by omega) (by omega) (by omega)).bind fun ⟨s1, n⟩ ⟨r1, r2, r3, _⟩ => ?_
    simp only at r1 r2 r3
    have r3 := r3 (by omega)
    exact .some ⟨r1, by unfold Bd; simp only; omega⟩
theorem Value_ok {k : Nat} {s : z177} (h : StrOk k s) (hk : k + 20 < 1099511627776) : Ok (z260 s) (fun r => StrOk (k + 8) r.1 ∧ KVal r.2) := by
  unfold z260
  have a1 := nxt_mk h (by omega)
  have a2 := nxt_mk a1 (by omega)
  have a3 := nxt_mk a2 (by omega)
  have a4 := nxt_mk a3 (by omega)
  have a5 := nxt_mk a4 (by omega)
  refine (RightValue_in h (by omega)).bind fun v hv => (Flip_ok a2 (by omega) (by unfold I64; omega)).bind fun b _ => .cond (fun _ => ?_) (fun _ => ?_)
  · exact .some ⟨a3.mono (by omega), kval_in (by simp [wd11])⟩
  · have hw := rv15_in hv
    have hx : Ok (z263 s v) (fun r => StrOk (k + 8) r.1 ∧ KVal r.2) := by
      unfold z263
      refine (Flip_ok a3 (by omega) (by unfold I64; omega)).bind fun b _ => .cond (fun _ => ?_) (fun _ => .some ⟨a4.mono (by omega), kval_in hw⟩)
      refine (Next_ok a4 (by omega) (by unfold I64; omega)).bind fun n _ => .cond (fun _ => ?_) (fun _ => .cond (fun _ => .some ⟨a5.mono (by omega), kval_in hw⟩) (fun _ => .cond (fun _ => ?_) (fun _ => .cond (fun _ => ?_) (fun _ => ?_))))
      · exact (Pick_ok a5 (by omega) (by simp) (by simp)).bind fun m _ => .some ⟨(nxt_mk a5 (by omega)).mono (by omega), kval_in hw⟩
      · exact (OddP_ok a5 (by omega) (by omega)).bind fun ⟨s1, m⟩ ⟨r1, r2⟩ => .some ⟨r1.mono (by omega), kval_in hw⟩
      · rw [rep1001]
        simp only [Option.bind_some]
        refine (Some_ok a5 (by omega) (by simp) (by simp)).bind fun w hw => .some ⟨(nxt_mk a5 (by omega)).mono (by omega), ?_⟩
        simp only [List.mem_cons, List.not_mem_nil, or_false] at hw
        rcases hw with h | h | h | h
        · subst h; exact kval_in (by simp [wd11])
        · subst h; exact kval_in (by simp [wd11])
        · subst h; exact kval_in (by simp [wd11])
        · refine ⟨true, fun hl => ?_⟩
          rw [h] at hl
          rw [Lib.repeatL_length] at hl
          simp at hl
      · exact .some ⟨a5.mono (by omega), kval_in (by simp [wd11])⟩
    exact hx.bind fun ⟨s1, v1⟩ hr => .some hr
def by4 : List (List UInt8) := [[104], [107], [], [65], [100]]
structure KSt (s : api_Stamp) : Prop where
  at_ : Bd s.At
  no : Bd s.No
  by_ : s.By ∈ by4
theorem RS.kst {s : api_Stamp} (h : RS s) : KSt s := by
  obtain ⟨h1, h2, h3⟩ := h
  refine ⟨by unfold Bd; omega, by unfold Bd; omega, ?_⟩
  rcases h2 with h | h | h <;> rw [h] <;> simp [by4]
theorem Stamp_ok {k : Nat} {s : z177} (h : StrOk k s) (hk : k + 20 < 1099511627776) : Ok (z250 s) (fun r => StrOk (k + 9) r.1 ∧ KSt r.2) := by
  unfold z250
  refine (RightStamp_ok h (by omega)).bind fun ⟨s1, t⟩ ⟨b1, b2, _, _⟩ => ?_
  simp only at b1 b2
  have a1 := nxt_mk b1 (by omega)
  have hx : Ok (z253 s1 t) (fun r => StrOk (k + 9) r.1 ∧ KSt r.2) := by
    unfold z253
    refine (Flip_ok b1 (by omega) (by unfold I64; omega)).bind fun b _ => .cond (fun _ => ?_) (fun _ => .some ⟨a1.mono (by omega), b2.kst⟩)
    refine (OddP_ok a1 (by omega) (by omega)).bind fun ⟨s2, m⟩ ⟨r1, r2⟩ => ?_
    simp only at r1 r2
    refine (Some_ok r1 (by omega) (by simp) (by simp)).bind fun w hw => ?_
    have a2 := nxt_mk r1 (by omega)
    refine (OddP_ok a2 (by omega) (by omega)).bind fun ⟨s3, n⟩ ⟨q1, q2⟩ => .some ⟨q1, r2, q2, ?_⟩
    simp only [List.mem_cons, List.not_mem_nil, or_false] at hw
    rcases hw with h | h | h <;> subst h <;> simp [by4]
  exact hx.bind fun ⟨s2, v1⟩ hr => .some hr
theorem KP_of {p : api_Prop} (hn : p.Name ∈ nm18) (hv : KVal p.Value) : KP p := by
  refine ⟨okName_spec (List.all_eq_true.1 nm18_same _ hn), hv, ?_⟩
  have := of_decide_eq_true (List.all_eq_true.1 nm18_len _ hn)
  omega
/-- a cell of which both checks know what to say -/
structure KC (c : api_Cell) : Prop where
  name : nm c ∈ nm18
  val : KVal c.Prop_.Value
  st : KSt c.Stamp
theorem KC.kp {c : api_Cell} (h : KC c) : KP c.Prop_ := KP_of h.name h.val
theorem nm7_18 {n : List UInt8} (h : n ∈ nm7) : n ∈ nm18 := List.mem_append_left _ h
theorem RightCellsK_ok {k : Nat} {s : z177} (h : StrOk k s) (hk : k + 100 < 1099511627776) :
    Ok (z214 s) (fun r => StrOk (k + 60) r.1 ∧ (∀ c ∈ r.2, KC c) ∧ r.2.length ≤ 6) := by
  unfold z214
  refine (Range_ok h (by omega) (by omega) (by omega)).bind fun ⟨s1, n⟩ ⟨r1, r2, r3, _⟩ => ?_
  simp only at r1 r2 r3
  have r3 := r3 (by omega)
  let P : api_Cell → Prop := fun c => nm c ∈ nm7 ∧ KVal c.Prop_.Value ∧ RS c.Stamp
  have loop : Ok (loopO (z220 n) (s1, [], 0)) (fun q => StrOk (k + 60) q.1 ∧ All P q.2 ∧ q.2.length ≤ 6) := by
    refine loop_ok (fun q : z177 × List api_Cell × Int => ∃ j : Nat, q.2.2 = (j : Int) ∧ (j : Int) ≤ 6 ∧ StrOk (k + 1 + 8 * j) q.1 ∧ All P q.2.1 ∧ q.2.1.length = j) (fun q => ((6 : Int) - q.2.2).toNat) ?_ ⟨0, rfl, by omega, by simpa using r1, All.nil, rfl⟩
    rintro ⟨s2, l, i⟩ ⟨j, rfl, j1, j2, j3, j4⟩
    simp only at j2 j3 j4
    unfold z220
    refine .cond (fun hc => ?_) (fun hc => .some ⟨j2.mono (by omega), j3, by simp only; omega⟩)
    have hc : (j : Int) < n := by simpa using hc
    refine (Some_ok j2 (by omega) (by simp) (by simp)).bind fun w hw => ?_
    have a1 := nxt_mk j2 (by omega)
    refine (RightValue_in a1 (by omega)).bind fun v hv => ?_
    have a2 := nxt_mk a1 (by omega)
    have a3 := nxt_mk a2 (by omega)
    refine (RightStamp_ok a3 (by omega)).bind fun ⟨s3, st⟩ ⟨b1, b2, b3, b4⟩ => ?_
    simp only at b1 b2 b3 b4
    have hw7 : w ∈ nm7 := by
      simp at hw
      rcases hw with rfl | rfl | rfl | rfl | rfl | rfl | rfl <;> decide
    have hx2 : Ok (z225 w v s3 st) (fun c => P c) := by
      unfold z225
      refine (Flip_ok b1 (by omega) (by unfold I64; omega)).bind fun b _ => .cond (fun _ => ?_) (fun _ => ?_)
      · exact .some ⟨hw7, kval_in (by simp [wd11]), b2⟩
      · exact .some ⟨hw7, kval_in (rv15_in hv), b2⟩
    refine hx2.bind fun c hc2 => ?_
    have w1 : IntKind.wrap .i64 ((j : Int) + 1) = ((j + 1 : Nat) : Int) := by rw [wrap64 (by omega) (by omega)]; omega
    refine .gd (lim_ok (by simp; omega)) (.some ⟨⟨j + 1, w1, by omega, (nxt_mk b1 (by omega)).mono (by omega), ?_, by simp [j4]⟩, ?_⟩)
    · intro x hx
      rcases List.mem_append.1 hx with hx | hx
      · exact j3 x hx
      · rw [List.mem_singleton] at hx; subst hx; exact hc2
    · show ((6 : Int) - IntKind.wrap .i64 ((j : Int) + 1)).toNat < _
      rw [w1]; simp only; omega
  refine loop.bind fun ⟨s2, l⟩ ⟨q1, q2, q3⟩ => ?_
  simp only at q1 q2 q3
  rw [sortC_eq]
  refine (gSort_ord (P := P) (f := fun x y => Lib.compareBytes (nm x) (nm y)) (c := cmpC) (fun _ _ _ _ => rfl) (fun x y => cmpB_anti _ _) (fun x y z => cmpB_tr) (by omega) q2).bind fun m ⟨m1, m2, m3⟩ => ?_
  refine .gd (by simp [m1]) ?_
  rw [comC_eq]
  refine (gCom_key (P := P) (kf := fun c => rk (nm c)) (fun x y hx hy => ⟨_, rfl, ?_⟩) (z := zC) (l := m) (by omega) m2 (fun p q hpq hq => ?_)).bind fun r ⟨t1, t2, t3⟩ => .some ⟨q1, fun c hc => ⟨nm7_18 (t2 c hc).1, (t2 c hc).2.1, (t2 c hc).2.2.kst⟩, by simp only; omega⟩
  · rw [decide_eq_true_iff]
    exact (rk_spec hx.1 hy.1).2.2.symm
  · have := m3 p q hpq (by omega) (by omega)
    exact (rk_spec (m2 _ (List.getElem_mem (show p < m.length by omega))).1 (m2 _ (List.getElem_mem hq)).1).1.1 this
theorem Cells_ok {k : Nat} {s : z177} (h : StrOk k s) (hk : k + 200 < 1099511627776) : Ok (z178 s) (fun r => StrOk (k + 100) r.1 ∧ (∀ c ∈ r.2, KC c) ∧ r.2.length ≤ 7) := by
  unfold z178
  refine (RightCellsK_ok h (by omega)).bind fun ⟨s1, l⟩ ⟨b1, b2, b3⟩ => ?_
  simp only at b1 b2 b3
  have hx : Ok (z181 s1 l) (fun r => StrOk (k + 100) r.1 ∧ (∀ c ∈ r.2, KC c) ∧ r.2.length ≤ 7) := by
    unfold z181
    have a1 := nxt_mk b1 (by omega)
    have a2 := nxt_mk a1 (by omega)
    have a3 := nxt_mk a2 (by omega)
    refine (Flip_ok b1 (by omega) (by unfold I64; omega)).bind fun b _ => .cond (fun _ => ?_) (fun _ => .some ⟨a1.mono (by omega), b2, by simp only; omega⟩)
    refine (PropName_ok a1 (by omega)).bind fun n hn => ?_
    refine (Value_ok a3 (by omega)).bind fun ⟨s2, v⟩ ⟨v1, v2⟩ => ?_
    simp only at v1 v2
    refine (Stamp_ok v1 (by omega)).bind fun ⟨s3, t⟩ ⟨t1, t2⟩ => ?_
    simp only at t1 t2
    have hall : All KC (l ++ [api_Cell.mk (api_Prop.mk n v) t]) := by
      intro c hc
      rcases List.mem_append.1 hc with hc | hc
      · exact b2 c hc
      · rw [List.mem_singleton] at hc; subst hc; exact ⟨hn, v2, t2⟩
    refine .gd (lim_ok (by simp; omega)) ?_
    have a4 := nxt_mk t1 (by omega)
    refine (Flip_ok t1 (by omega) (by unfold I64; omega)).bind fun b _ => .cond (fun _ => ?_) (fun _ => .some ⟨a4.mono (by omega), hall, by simp; omega⟩)
    rw [sortC_eq]
    refine (gSort_ord (P := KC) (f := fun x y => Lib.compareBytes (nm x) (nm y)) (c := cmpC) (fun _ _ _ _ => rfl) (fun x y => cmpB_anti _ _) (fun x y z => cmpB_tr) (by simp; omega) hall).bind fun m ⟨m1, m2, m3⟩ => ?_
    exact .gd (by simp [m1]) (.some ⟨a4.mono (by omega), m2, by simp only; rw [m1]; simp; omega⟩)
  exact hx.bind fun ⟨s2, v1⟩ hr => .some hr

/-! ### Checks of cells -/
noncomputable def okBy (n : List UInt8) : Bool := match base_Key n, z320 n with
  | some a, some b => a == b
  | _, _ => false
theorem by4_same : (by4.all okBy) = true := by kernel_rfl
theorem okBy_spec {n : List UInt8} (h : n ∈ by4) : ∃ b, base_Key n = some b ∧ z320 n = some b := by
  have h := List.all_eq_true.1 by4_same n h
  unfold okBy at h
  split at h
  · rename_i a b h1 h2
    have : a = b := by simpa using h
    subst this
    exact ⟨a, h1, h2⟩
  · cases h
theorem stf_same {s : api_Stamp} (h : KSt s) : ∃ e, z1218 s = some e ∧ z448 s = some e := by
  obtain ⟨b, h1, h2⟩ := okBy_spec h.by_
  have e0 : z448 s = z1218 s := by
    unfold z448 z1218 z350
    rw [Moment_eq, in_not, h1, h2, in_not, Out_eq]
    simp only [Option.bind_some, Bool.not_not]
    have e1 : (!(!(decide (s.At < 0) || decide (345686399999 < s.At)))) = !(decide (0 ≤ s.At) && decide (s.At ≤ 345686399999)) := by
      by_cases h1 : s.At < 0
      · have : ¬ 0 ≤ s.At := by omega
        simp [h1, this]
      · by_cases h2 : 345686399999 < s.At
        · have : ¬ s.At ≤ 345686399999 := by omega
          simp [h2, this]
        · have h3 : 0 ≤ s.At := by omega
          have h4 : s.At ≤ 345686399999 := by omega
          simp [h1, h2, h3, h4]
    rw [Bool.not_not] at e1
    rw [e1]
  obtain ⟨e, he⟩ : ∃ e, z1218 s = some e := by
    unfold z1218
    rw [Moment_eq, h1, Out_eq]
    simp only [Option.bind_some]
    cases (!(decide (0 ≤ s.At) && decide (s.At ≤ 345686399999))) <;> cases (!b) <;> cases (decide (s.No < 0) || decide (1000000000 < s.No)) <;> exact ⟨_, rfl⟩
  exact ⟨e, he, e0.trans he⟩
theorem cx1_same {l : List api_Cell} (h : ∀ c ∈ l, KC c) : z1002 l = z276 l := by
  funext i
  unfold z1002 z276
  cases ha : at? l i with
  | none => rfl
  | some c =>
    have hc : c ∈ l := by
      unfold at? at ha
      split at ha
      · exact List.mem_of_getElem? ha
      · cases ha
    obtain ⟨⟨b, h1, h2⟩, ⟨w, h3⟩, _⟩ := (h c hc).kp
    obtain ⟨f, h4, h5⟩ := stf_same (h c hc).st
    have e1 : z1224 (api_Value.mk c.Prop_.Value.Kind c.Prop_.Value.Flag c.Prop_.Value.Number c.Prop_.Value.Words) = some (vfI c.Prop_.Value w) := vf_own h3
    have e2 : z468 (api_Value.mk c.Prop_.Value.Kind c.Prop_.Value.Flag c.Prop_.Value.Number c.Prop_.Value.Words) = some (vfI c.Prop_.Value w) := vf_ref h3
    have e3 : z1218 (api_Stamp.mk c.Stamp.At c.Stamp.By c.Stamp.No) = some f := h4
    have e4 : z448 (api_Stamp.mk c.Stamp.At c.Stamp.By c.Stamp.No) = some f := h5
    simp only [Option.bind_some, h1, h2, e1, e2, e3, e4, First_ab, CF2_ab]
    generalize or0 (vfI c.Prop_.Value w) f = z
    by_cases hz : z = 0
    · subst hz
      simp only [decide_true, Bool.not_true, cond_false, if_true]
      rfl
    · simp only [hz, decide_false, Bool.not_false, cond_true, if_false]
theorem cone_ok {l : List api_Cell} (hl : l.length ≤ 400) (hK : ∀ c ∈ l, KC c) : Ok (loopO (z1002 l) 0) (fun r => match r with | .inl _ => Srt l ∧ ∀ c ∈ l, GC c | .inr e => e ≠ 0) := by
  refine loop_ok (fun s : Int => ∃ i : Nat, s = (i : Int) ∧ i ≤ l.length ∧ (∀ j (h0 : 0 < j) (h : j < i) (hl : j < l.length), nlt (nm (l[j - 1]'(by omega))) (nm l[j])) ∧ ∀ j (h : j < i) (hl : j < l.length), GC l[j]) (fun s => ((l.length : Int) - s).toNat) ?_ ⟨0, rfl, by omega, fun j h0 h => by omega, fun j h => by omega⟩
  rintro _ ⟨i, rfl, i1, i2, i3⟩
  unfold z1002
  by_cases hi : i < l.length
  · have hc : (i : Int) < l.length := by omega
    have w1 : IntKind.wrap .i64 ((i : Int) + 1) = ((i + 1 : Nat) : Int) := by rw [wrap64 (by omega) (by omega)]; omega
    have hKi := hK _ (List.getElem_mem hi)
    obtain ⟨⟨b, h1, h2⟩, ⟨w, h3⟩, _⟩ := hKi.kp
    obtain ⟨f, h4, h5⟩ := stf_same hKi.st
    have e1 : z1224 (api_Value.mk l[i].Prop_.Value.Kind l[i].Prop_.Value.Flag l[i].Prop_.Value.Number l[i].Prop_.Value.Words) = some (vfI l[i].Prop_.Value w) := vf_own h3
    have e3 : z1218 (api_Stamp.mk l[i].Stamp.At l[i].Stamp.By l[i].Stamp.No) = some f := h4
    simp only [hc, decide_true, cond_true, at_nat hi, Option.bind_some, h1, e1, e3, First_ab, w1]
    refine .cond (fun _ => .some (by simp)) fun hb => .cond (fun hz => .some (by simpa using hz)) fun hz => ?_
    have hb : b = true := by simpa using hb
    have hz : or0 (vfI l[i].Prop_.Value w) f = 0 := by simpa using hz
    obtain ⟨z1, z2⟩ := or0_zero.1 hz
    have gc : GC l[i] := ⟨by rw [h1, hb], by rw [vf_own h3, z1], by rw [h4, z2]⟩
    have gcs : ∀ j (h : j < i + 1) (hl : j < l.length), GC l[j] := fun j h hjl => by
      by_cases hj : j < i
      · exact i3 j hj hjl
      · have : j = i := by omega
        subst this; exact gc
    unfold z1007
    cases i with
    | zero =>
      simp only [show ¬ (0 : Int) < ((0 : Nat) : Int) by omega, decide_false, cond_false, Option.bind_some]
      exact .some ⟨⟨1, rfl, by omega, fun j h0 h => by omega, gcs⟩, by omega⟩
    | succ i =>
      have hp0 : (0 : Int) < ((i + 1 : Nat) : Int) := by omega
      have w : IntKind.wrap .i64 (((i + 1 : Nat) : Int) - 1) = (i : Int) := by rw [wrap64 (by omega) (by omega)]; omega
      simp only [hp0, decide_true, cond_true, w, at_nat (show i < l.length by omega), Option.bind_some]
      refine .cond (fun _ => .some (by simp)) fun hlt => .some ⟨⟨i + 1 + 1, rfl, by omega, fun j h0 h hjl => ?_, gcs⟩, by omega⟩
      by_cases hj : j < i + 1
      · exact i2 j h0 hj hjl
      · have : j = i + 1 := by omega
        subst this
        simp only [Bool.or_eq_false_iff, cmpB_less, decide_eq_false_iff_not] at hlt
        show nlt (nm l[i]) (nm l[i + 1])
        rcases cmpB_cases (nm l[i]) (nm l[i + 1]) with h2 | h2 | h2
        · exact h2
        · exact absurd h2.symm hlt.2
        · exact absurd h2 hlt.1
  · have hc : ¬ (i : Int) < l.length := by omega
    simp only [hc, decide_false, cond_false]
    refine .some ⟨?_, fun p hp => ?_⟩
    · have key : ∀ (d j : Nat) (hj : j + d + 1 < l.length), nlt (nm (l[j]'(by omega))) (nm l[j + d + 1]) := by
        intro d
        induction d with
        | zero =>
          intro j hj
          exact i2 (j + 1) (by omega) (by omega) (by omega)
        | succ d ih =>
          intro j hj
          exact nlt_trans (ih j (by omega)) (i2 (j + d + 2) (by omega) (by omega) (by omega))
      unfold Srt
      rw [List.pairwise_iff_getElem]
      intro i j hi hj hij
      have := key (j - i - 1) i (by omega)
      simpa [show i + (j - i - 1) + 1 = j by omega] using this
    · obtain ⟨j, hj, rfl⟩ := List.mem_iff_getElem.1 hp
      exact i3 j (by omega) hj
/-- both checks say the same -/
theorem cchecks {l : List api_Cell} (hl : l.length ≤ 400) (hK : ∀ c ∈ l, KC c) : ∃ e, z999 l = some e ∧ z273 l = some e ∧ (e = 0 → Srt l ∧ ∀ c ∈ l, GC c) := by
  have h500 : ¬ (500 : Int) < l.length := by omega
  unfold z999 z273
  simp only [h500, decide_false, cond_false]
  rw [← cx1_same hK]
  obtain ⟨r, h1, h2⟩ := cone_ok hl hK
  rw [h1]
  cases r with
  | inr e => exact ⟨e, rfl, rfl, fun h => absurd h h2⟩
  | inl _ => exact ⟨0, rfl, rfl, fun _ => h2⟩
end Go.Eng

/-
The law PropsTell: what is wrong with properties, the value of a name, what is under a name.
-/
namespace Go.Eng
open Go
set_option linter.unusedVariables false
set_option linter.unusedSimpArgs false

/-- a property of which both checks know what to say, made by streams -/
structure KQ (p : api_Prop) : Prop where
  name : p.Name ∈ nm18
  val : KVal p.Value
theorem KQ.kp {p : api_Prop} (h : KQ p) : KP p := KP_of h.name h.val
theorem RP.kq {p : api_Prop} (h : RP p) : KQ p := ⟨nm7_18 h.1, kval_in (rv15_in h.2)⟩
/-! ### What is under a name -/
/-! ### The value of a name -/
theorem ValueOf_eq {l : List api_Prop} (hl : l.length ≤ 10000) (n : List UInt8) : z475 l n = some (vo l n) := by
  unfold z475 vo
  rw [range_loop (l := l) (fun _ p => if p.Name = n then some (.inr p.Value) else none) (.inl ()) (by omega)]
  · have key : ∀ (m : List api_Prop) (k : Nat), scan (fun (_ : Nat) (p : api_Prop) => if p.Name = n then some (.inr p.Value : Unit ⊕ api_Value) else none) k m = (m.find? fun p => decide (p.Name = n)).map fun p => .inr p.Value := by
      intro m
      induction m with
      | nil => intro k; rfl
      | cons p m ih =>
        intro k
        simp only [scan]
        by_cases h : p.Name = n
        · simp [h]
        · simp only [h, if_false, List.find?_cons, decide_false]
          exact ih (k + 1)
    rw [key]
    cases l.find? fun p => decide (p.Name = n) <;> rfl
  · intro i hi
    unfold z486
    have hc : (i : Int) < l.length := by omega
    simp only [hc, decide_true, cond_true, at_nat hi, Option.bind_some]
    by_cases h : l[i].Name = n <;> simp [h]
  · unfold z486; simp
end Go.Eng

/-
Changes of properties: what makes one list of another, and back; what two sides made of one base.
-/
namespace Go.Eng
open Go
set_option linter.unusedVariables false
set_option linter.unusedSimpArgs false

/-! ### Names of several lists -/
/-! ### Changes -/
def chL (a b : List api_Prop) (ns : List (List UInt8)) : List api_Change := (ns.filter fun n => !eqV (vo a n) (vo b n)).map fun n => api_Change.mk n (vo a n) (vo b n)
/-! ### Back -/
/-! ### Making changes -/
end Go.Eng

/-
Maps whose keys are strings, as rows of entries in the order of their keys; sorting of what has an order.
-/
namespace Go.Eng
open Go
set_option linter.unusedVariables false
set_option linter.unusedSimpArgs false

section
variable {β : Type}
def KS (l : List (List UInt8 × β)) : Prop := l.Pairwise fun x y => nlt x.1 y.1
theorem ks_nodup {l : List (List UInt8 × β)} (h : KS l) : l.Nodup := by
  unfold List.Nodup
  exact List.Pairwise.imp (fun hab e => nlt_ne hab (congrArg Prod.fst e)) h
theorem ks_keys {l : List (List UInt8 × β)} (h : KS l) : (l.map (·.1)).Nodup := by
  unfold List.Nodup
  rw [List.pairwise_map]
  exact List.Pairwise.imp (fun hab => nlt_ne hab) h
theorem kext {l m : List (List UInt8 × β)} (h1 : KS l) (h2 : KS m) (h : ∀ x, x ∈ l ↔ x ∈ m) : l = m :=
  List.Perm.eq_of_pairwise (le := fun x y : List UInt8 × β => nlt x.1 y.1) (fun a b _ _ hab hba => absurd hba (nlt_asymm hab)) h1 h2 ((List.perm_ext_iff_of_nodup (ks_nodup h1) (ks_nodup h2)).2 h)
theorem ks_one {l : List (List UInt8 × β)} (h : KS l) {x y : List UInt8 × β} (hx : x ∈ l) (hy : y ∈ l) (e : x.1 = y.1) : x = y := by
  obtain ⟨i, hi, rfl⟩ := List.mem_iff_getElem.1 hx
  obtain ⟨j, hj, rfl⟩ := List.mem_iff_getElem.1 hy
  have : i = j := (List.getElem_inj (h₀ := by simpa using hi) (h₁ := by simpa using hj) (ks_keys h)).1 (by simpa using e)
  subst this; rfl
theorem aget_none {l : List (List UInt8 × β)} {k : List UInt8} : aget l k = none ↔ ∀ x ∈ l, x.1 ≠ k := by
  unfold aget
  rw [Option.map_eq_none_iff, List.find?_eq_none]
  constructor
  · intro h x hx e
    exact h x hx (by simpa using e.symm)
  · intro h x hx e
    exact h x hx (by simpa using (of_decide_eq_true e).symm)
theorem aget_some {l : List (List UInt8 × β)} (h : KS l) {k : List UInt8} {v : β} : aget l k = some v ↔ (k, v) ∈ l := by
  constructor
  · intro ha
    unfold aget at ha
    obtain ⟨x, hx, rfl⟩ := Option.map_eq_some_iff.1 ha
    have h1 : k = x.1 := by simpa using List.find?_some hx
    have := List.mem_of_find?_eq_some hx
    rw [h1]; exact this
  · intro hm
    cases ha : aget l k with
    | none => exact absurd rfl (aget_none.1 ha _ hm)
    | some u =>
      unfold aget at ha
      obtain ⟨x, hx, rfl⟩ := Option.map_eq_some_iff.1 ha
      have h1 : k = x.1 := by simpa using List.find?_some hx
      have := ks_one h (List.mem_of_find?_eq_some hx) hm h1.symm
      rw [this]
theorem lt_is (a b : List UInt8) : KOrd.lt a b = true ↔ nlt a b := by
  show Op.bytesLess a b = true ↔ _
  rw [cmpB_less, decide_eq_true_iff]
  rfl
theorem aput_mem {l : List (List UInt8 × β)} {k : List UInt8} {v : β} {x : List UInt8 × β} : x ∈ aput l k v ↔ x = (k, v) ∨ (x ∈ l ∧ x.1 ≠ k) := by
  unfold aput
  cases ha : l.any fun e => decide (k = e.1) with
  | true =>
    simp only [cond_true, List.mem_map]
    constructor
    · rintro ⟨e, he, rfl⟩
      by_cases hk : k = e.1
      · simp [hk]
      · simp only [hk, decide_false, cond_false]
        exact .inr ⟨he, fun h => hk h.symm⟩
    · rintro (rfl | ⟨h1, h2⟩)
      · obtain ⟨e, he, hk⟩ := List.any_eq_true.1 ha
        exact ⟨e, he, by rw [hk]; rfl⟩
      · refine ⟨x, h1, ?_⟩
        have : ¬ k = x.1 := fun h => h2 h.symm
        simp [this]
  | false =>
    simp only [cond_false, List.mem_append, List.mem_cons]
    have hno : ∀ y ∈ l, y.1 ≠ k := fun y hy e => by
      have := List.any_eq_false.1 ha y hy
      exact this (by simpa using e.symm)
    have hsp : ∀ y, y ∈ l ↔ y ∈ l.takeWhile (fun e => KOrd.lt e.1 k) ∨ y ∈ l.dropWhile (fun e => KOrd.lt e.1 k) := fun y => by
      rw [← List.mem_append, List.takeWhile_append_dropWhile]
    constructor
    · rintro (h | rfl | h)
      · exact .inr ⟨(hsp x).2 (.inl h), hno x ((hsp x).2 (.inl h))⟩
      · exact .inl rfl
      · exact .inr ⟨(hsp x).2 (.inr h), hno x ((hsp x).2 (.inr h))⟩
    · rintro (rfl | ⟨h, _⟩)
      · exact .inr (.inl rfl)
      · rcases (hsp x).1 h with h | h
        · exact .inl h
        · exact .inr (.inr h)
theorem take_lt {l : List (List UInt8 × β)} {k : List UInt8} : ∀ x ∈ l.takeWhile (fun e => KOrd.lt e.1 k), nlt x.1 k := by
  induction l with
  | nil => intro x hx; simp at hx
  | cons y l ih =>
    intro x hx
    rw [List.takeWhile_cons] at hx
    cases hb : KOrd.lt y.1 k with
    | false => rw [hb] at hx; simp at hx
    | true =>
      rw [hb] at hx
      simp only [if_true, List.mem_cons] at hx
      rcases hx with rfl | hx
      · exact (lt_is _ _).1 hb
      · exact ih x hx
theorem drop_ge {k : List UInt8} : ∀ {l : List (List UInt8 × β)}, KS l → ∀ x ∈ l.dropWhile (fun e => KOrd.lt e.1 k), ¬ nlt x.1 k
  | [], _, x, hx => by simp at hx
  | y :: l, h, x, hx => by
    rw [List.dropWhile_cons] at hx
    obtain ⟨h1, h2⟩ := List.pairwise_cons.1 h
    cases hb : KOrd.lt y.1 k with
    | true =>
      rw [hb] at hx
      exact drop_ge h2 x (by simpa using hx)
    | false =>
      rw [hb] at hx
      simp only [Bool.false_eq_true, if_false, List.mem_cons] at hx
      have hy : ¬ nlt y.1 k := fun hc => by rw [(lt_is _ _).2 hc] at hb; cases hb
      rcases hx with rfl | hx
      · exact hy
      · intro hc
        exact hy (nlt_trans (h1 x hx) hc)
theorem aput_ks {l : List (List UInt8 × β)} (h : KS l) (k : List UInt8) (v : β) : KS (aput l k v) := by
  unfold aput
  cases ha : l.any fun e => decide (k = e.1) with
  | true =>
    simp only [cond_true]
    unfold KS
    rw [List.pairwise_map]
    refine List.Pairwise.imp ?_ h
    intro x y hxy
    have key : ∀ e : List UInt8 × β, (bif decide (k = e.1) then (k, v) else e).1 = e.1 := fun e => by
      by_cases hk : k = e.1
      · simp [hk]
      · simp [hk]
    rw [key, key]
    exact hxy
  | false =>
    simp only [cond_false]
    have hno : ∀ y ∈ l, y.1 ≠ k := fun y hy e => by
      have := List.any_eq_false.1 ha y hy
      exact this (by simpa using e.symm)
    have hgt : ∀ y ∈ l.dropWhile (fun e => KOrd.lt e.1 k), nlt k y.1 := fun y hy => by
      have h1 := drop_ge h y hy
      have h2 := hno y (List.dropWhile_sublist _ |>.subset hy)
      rcases cmpB_cases y.1 k with h3 | h3 | h3
      · exact absurd h3 h1
      · exact absurd h3 h2
      · exact h3
    unfold KS
    rw [List.pairwise_append]
    refine ⟨h.sublist (List.takeWhile_sublist _), List.pairwise_cons.2 ⟨hgt, h.sublist (List.dropWhile_sublist _)⟩, fun x hx y hy => ?_⟩
    have hx' := take_lt x hx
    rcases List.mem_cons.1 hy with rfl | hy
    · exact hx'
    · exact nlt_trans hx' (hgt y hy)
end

/-! ### Sorting of what has an order -/
section
variable {α : Type}
theorem swap_pm' {l : List α} {j : Nat} (h : 0 < j) (hj : j < l.length) : ((l.set j (l[j - 1]'(by omega))).set (j - 1) l[j]).Perm l := by
  have h1 := Array.swap_perm (xs := l.toArray) (i := j) (j := j - 1) (by simpa using hj) (by simp; omega)
  have h2 := Array.perm_iff_toList_perm.1 h1
  simpa [Array.swap] using h2
theorem gI2_pm' {P : α → Prop} {f : α → α → Int} {c : α → α → Option Int} (hc : ∀ x y, P x → P y → c x y = some (f x y)) {n : Nat} (hn : n ≤ 100000) {l0 l : List α} (hl : l.length = n) (hP : All P l) (h0 : l.Perm l0) {i : Nat} (hi : i < n) :
    Ok (loopO (gI2 c 0) (l, (i : Int))) (fun r => r.length = n ∧ All P r ∧ r.Perm l0) := by
  refine loop_ok (fun s : List α × Int => s.1.length = n ∧ All P s.1 ∧ s.1.Perm l0 ∧ ∃ j : Nat, s.2 = (j : Int) ∧ j ≤ i) (fun s => s.2.toNat) ?_ ⟨hl, hP, h0, i, rfl, Nat.le_refl _⟩
  rintro ⟨m, q⟩ ⟨m1, m2, m3, j, rfl, j1⟩
  simp only at m1 m2 m3
  unfold gI2 gI3
  by_cases hj : (0 : Int) < j
  · have w1 : IntKind.wrap .i64 ((j : Int) - 1) = ((j - 1 : Nat) : Int) := by rw [wrap64 (by omega) (by omega)]; omega
    have hjm : j < m.length := by omega
    have hjm1 : j - 1 < m.length := by omega
    have hy := m2 _ (List.getElem_mem hjm)
    have hx := m2 _ (List.getElem_mem hjm1)
    simp only [hj, decide_true, cond_true, w1, at_nat hjm, at_nat hjm1, Option.bind_some, hc _ _ hy hx]
    refine .cond (fun hlt => ?_) (fun hge => ?_)
    · have g3 : at? (m.set (j : Int).toNat m[j - 1]) ((j - 1 : Nat) : Int) = some m[j - 1] := by
        rw [at_nat (by simp; omega)]
        simp only [Int.toNat_natCast, List.getElem_set]
        rw [if_neg (by omega)]
      rw [g3]
      simp only [Option.bind_some, Int.toNat_natCast]
      exact .some ⟨⟨by simp [m1], (m2.set hx).set hy, (swap_pm' (by omega) hjm).trans m3, j - 1, rfl, by omega⟩, by simp only; omega⟩
    · exact .some ⟨m1, m2, m3⟩
  · have hj' : ¬ (0 : Int) < j := hj
    simp only [hj', decide_false, cond_false, Option.bind_some]
    exact .some ⟨m1, m2, m3⟩
theorem gI_pm' {P : α → Prop} {f : α → α → Int} {c : α → α → Option Int} (hc : ∀ x y, P x → P y → c x y = some (f x y)) {l : List α} (hl : l.length ≤ 100000) (hP : All P l) : Ok (gI c l 0 l.length) (fun r => r.Perm l) := by
  unfold gI
  have w : IntKind.wrap .i64 ((0 : Int) + 1) = 1 := by decide
  rw [w]
  refine Ok.bind (P := fun r : List α => r.Perm l) (loop_ok (fun s : List α × Int => s.1.length = l.length ∧ All P s.1 ∧ s.1.Perm l ∧ ∃ i : Nat, s.2 = (i : Int)) (fun s => ((l.length : Int) - s.2).toNat) ?_
    ⟨rfl, hP, List.Perm.refl _, 1, rfl⟩) fun r hr => .some hr
  rintro ⟨m, q⟩ ⟨m1, m2, m3, i, rfl⟩
  simp only at m1 m2 m3
  unfold gI1
  by_cases hi : i < l.length
  · have hi' : (i : Int) < l.length := by omega
    have w1 : IntKind.wrap .i64 ((i : Int) + 1) = ((i + 1 : Nat) : Int) := by rw [wrap64 (by omega) (by omega)]; omega
    simp only [hi', decide_true, cond_true]
    refine (gI2_pm' hc (n := l.length) hl m1 m2 m3 hi).bind fun r hr => ?_
    rw [w1]
    exact .some ⟨⟨hr.1, hr.2.1, hr.2.2, i + 1, rfl⟩, by simp only; omega⟩
  · have hi' : ¬ (i : Int) < l.length := by omega
    simp only [hi', decide_false, cond_false]
    exact .some m3
/-- the code's sorting of up to twelve: by insertion -/
noncomputable def gPdq (c : α → α → Option Int) (qx : List α) (qx1 qx2 qx3 : Int) : Unit → Option (Unit ⊕ List α)
  | _ => cond (decide ((IntKind.wrap .i64 (qx2 - qx1)) ≤ 12)) ((gI c qx qx1 qx2).bind fun v => gd (v.length == qx.length) <| some (.inr v)) (cond (decide (qx3 = 0)) none none)
noncomputable def gSF (c : α → α → Option Int) (qx : List α) : Option (List α) :=
  (bits_Len (IntKind.wrap .u64 ((qx.length : Int)))).bind fun vr1 =>
  ((loopO (gPdq c qx 0 (qx.length : Int) vr1) ()).bind fun v => some v).bind fun vl2 =>
  gd (vl2.length == qx.length) <|
  some vl2
/-- the only order in which there may stand what has an order -/
theorem gSF_ok {f : α → α → Int} {c : α → α → Option Int} (hc : ∀ x y, c x y = some (f x y)) (anti : ∀ x y, f y x = - f x y) (tr : ∀ x y z, f x y ≤ 0 → f y z ≤ 0 → f x z ≤ 0) {l : List α} (hl : l.length ≤ 12) (hd : l.Pairwise fun x y => f x y ≠ 0) :
    ∃ r, gSF c l = some r ∧ r.Perm l ∧ r.Pairwise fun x y => f x y < 0 := by
  have hP : All (fun _ : α => True) l := fun _ _ => trivial
  obtain ⟨r, h1, ⟨h2, h3, h4⟩, h5⟩ := (gI_ord (P := fun _ => True) (f := f) (c := c) (fun x y _ _ => hc x y) anti tr (l := l) (by omega) hP).and (gI_pm' (P := fun _ => True) (f := f) (c := c) (fun x y _ _ => hc x y) (l := l) (by omega) hP)
  obtain ⟨b, hb, _⟩ := bitLen12 l.length hl
  refine ⟨r, ?_, h5, ?_⟩
  · unfold gSF
    rw [hb]
    simp only [Option.bind_some]
    have : loopO (gPdq c l 0 (l.length : Int) b) () = some r := by
      refine loop_out ?_
      unfold gPdq
      have w : IntKind.wrap .i64 ((l.length : Int) - 0) = l.length := by rw [wrap64 (by omega) (by omega)]; omega
      have hcc : (l.length : Int) ≤ 12 := by omega
      rw [w, h1]
      simp only [hcc, decide_true, cond_true, Option.bind_some, gd, h2, beq_self_eq_true]
    rw [this]
    simp only [Option.bind_some, gd, h2, beq_self_eq_true, cond_true]
  · have hd' : r.Pairwise fun x y => f x y ≠ 0 := (h5.pairwise_iff (fun {x y} h => by rw [anti x y]; omega)).2 hd
    rw [List.pairwise_iff_getElem]
    intro i j hi hj hij
    have a1 := h4 i j hij (by rw [← h2]; exact hj) (by rw [h2]; exact Nat.le_refl _)
    have a2 := (List.pairwise_iff_getElem.1 hd') i j hi hj hij
    omega
end
end Go.Eng

/-
Changes of properties, nearly always right ones: the code and the reference do the same.
-/
namespace Go.Eng
open Go
set_option linter.unusedVariables false
set_option linter.unusedSimpArgs false

/-! ### Names of two lists -/
def s18 : List (List UInt8) := [[], [46, 97], [65], [97], [97, 32, 98], [97, 45, 49], [97, 46], [97, 46, 46, 98], [97, 46, 98, 46, 99, 46, 100, 46, 101, 46, 102, 46, 103, 46, 104, 46, 105], [97, 46, 120], [97, 46, 120, 46, 112], [97, 46, 121], List.replicate 41 97, [97, 98], [98], [98, 46, 122]]
def rk18 (n : List UInt8) : Int := ((s18.takeWhile fun x => !decide (x = n)).length : Int)
theorem rk18_all : (nm18.all fun x => nm18.all fun y => (decide (Lib.compareBytes x y ≤ 0) == decide (rk18 x ≤ rk18 y)) && (decide (Lib.compareBytes x y < 0) == decide (rk18 x < rk18 y)) && (decide (rk18 x = rk18 y) == decide (x = y))) = true := by kernel_rfl
theorem rk18_spec {x y : List UInt8} (hx : x ∈ nm18) (hy : y ∈ nm18) : (Lib.compareBytes x y ≤ 0 ↔ rk18 x ≤ rk18 y) ∧ (nlt x y ↔ rk18 x < rk18 y) ∧ (rk18 x = rk18 y ↔ x = y) := by
  have := List.all_eq_true.1 (List.all_eq_true.1 rk18_all x hx) y hy
  simp only [Bool.and_eq_true, beq_iff_eq, decide_eq_decide] at this
  exact ⟨this.1.1, this.1.2, this.2⟩
theorem names18 {Ls : List (List api_Prop)} (hLs : Ls.length ≤ 100) (hl : (Ls.flatMap (List.map api_Prop.Name)).length ≤ 12) (hn : ∀ l ∈ Ls, ∀ p ∈ l, p.Name ∈ nm18) :
    ∃ r, z1205 Ls = some r ∧ r.length ≤ (Ls.flatMap (List.map api_Prop.Name)).length ∧ r.Pairwise nlt ∧ ∀ n ∈ r, n ∈ nm18 ∧ ∃ l ∈ Ls, ∃ p ∈ l, p.Name = n := by
  have hmem : ∀ n, n ∈ Ls.flatMap (List.map api_Prop.Name) ↔ ∃ l ∈ Ls, ∃ p ∈ l, p.Name = n := by
    intro n
    simp only [List.mem_flatMap, List.mem_map]
  have hin : All (fun n => n ∈ nm18 ∧ n ∈ Ls.flatMap (List.map api_Prop.Name)) (Ls.flatMap (List.map api_Prop.Name)) := by
    intro n hn'
    refine ⟨?_, hn'⟩
    obtain ⟨l, hl, p, hp, rfl⟩ := (hmem n).1 hn'
    exact hn l hl p hp
  have e : loopO (z1208 Ls) ([], 0) = some (Ls.flatMap (List.map api_Prop.Name)) := by
    have := fold_loop0 (l := Ls) (f := z1208 Ls) (fun (s : List (List UInt8)) i => (s, i)) (fun s a => s ++ a.map api_Prop.Name) id (fun i s => s.length + ((Ls.drop i).flatMap (List.map api_Prop.Name)).length ≤ 12) (s0 := []) (by omega)
      (fun i hi s hs => by
        have hc : (i : Int) < Ls.length := by omega
        rw [List.drop_eq_getElem_cons hi, List.flatMap_cons, List.length_append, List.length_map] at hs
        refine ⟨?_, by rw [List.length_append, List.length_map]; omega⟩
        unfold z1208
        simp only [hc, decide_true, cond_true, at_nat hi, Option.bind_some]
        rw [names2_eq (by omega)]
        rfl)
      (fun s _ => by unfold z1208; simp) (by simpa using hl)
    rw [this.1]
    have key : ∀ (m : List (List api_Prop)) (s : List (List UInt8)), m.foldl (fun s a => s ++ a.map api_Prop.Name) s = s ++ m.flatMap (List.map api_Prop.Name) := by
      intro m
      induction m with
      | nil => intro s; simp
      | cons y m ih => intro s; rw [List.foldl_cons, ih, List.flatMap_cons, List.append_assoc]
    rw [key]
    rfl
  generalize Ls.flatMap (List.map api_Prop.Name) = N at hl hmem hin e
  obtain ⟨m, m0, ⟨m1, m2, m3⟩, m4⟩ := sortS_ok hl hin
  obtain ⟨r, r0, ⟨r1, r2, r3⟩, r4⟩ := gCom_key2 (P := fun n => n ∈ nm18 ∧ n ∈ N) (t := fun a b => some (decide (a = b))) (kf := rk18) (fun x y hx hy => ⟨_, rfl, by rw [decide_eq_true_iff]; exact (rk18_spec hx.1 hy.1).2.2.symm⟩) (z := []) (l := m) (by omega) m2 (fun p q hpq hq =>
    (rk18_spec (m2 _ (List.getElem_mem (show p < m.length by omega))).1 (m2 _ (List.getElem_mem hq)).1).1.1 (m3 p q hpq (by omega) (by omega)))
  refine ⟨r, ?_, by omega, ?_, fun n h => ⟨(r2 n h).1, (hmem n).1 (r2 n h).2⟩⟩
  · unfold z1205
    rw [e]
    simp only [Option.bind_some, m0, comS_eq]
    rw [show (m.length == N.length) = true by simp [m1]]
    simp only [gd, r0, Option.bind_some, cond_true]
  · refine List.Pairwise.imp_of_mem ?_ r3
    intro x y hx hy hxy
    exact (rk18_spec (r2 x hx).1 (r2 y hy).1).2.1.2 hxy
theorem namesOf_eq : z534 = z1205 := by kernel_rfl

/-! ### What differs -/
theorem vo_val {l : List api_Prop} (h : ∀ p ∈ l, KQ p) (n : List UInt8) : KVal (vo l n) := by
  unfold vo
  cases hf : l.find? fun p => decide (p.Name = n) with
  | none => exact kval_in (by simp [wd11, zV])
  | some p => exact (h p (List.mem_of_find?_eq_some hf)).val
/-- a change of which both checks know what to say -/
structure KH (c : api_Change) : Prop where
  name : c.Name ∈ nm18
  frm : KVal c.From
  to_ : KVal c.To
theorem two_flat (a b : List api_Prop) : ([a, b].flatMap (List.map api_Prop.Name)).length = a.length + b.length := by simp
/-! ### Changes that streams make -/
/-! ### Checks of changes -/
theorem HF2_ab (a b : Int) : loopO (z298 a b) 0 = some (if or0 a b = 0 then .inl () else .inr (or0 a b)) := by
  have : z298 = z281 := by kernel_rfl
  rw [this]
  exact CF2_ab a b
theorem hx1_same {l : List api_Change} (h : ∀ c ∈ l, KH c) : z1014 l = z293 l := by
  funext i
  unfold z1014 z293
  cases ha : at? l i with
  | none => rfl
  | some c =>
    have hc : c ∈ l := by
      unfold at? at ha
      split at ha
      · exact List.mem_of_getElem? ha
      · cases ha
    obtain ⟨b, h1, h2⟩ := okName_spec (List.all_eq_true.1 nm18_same _ (h c hc).name)
    obtain ⟨w, h3⟩ := (h c hc).frm
    obtain ⟨v, h4⟩ := (h c hc).to_
    have e1 : z1224 (api_Value.mk c.From.Kind c.From.Flag c.From.Number c.From.Words) = some (vfI c.From w) := vf_own h3
    have e2 : z468 (api_Value.mk c.From.Kind c.From.Flag c.From.Number c.From.Words) = some (vfI c.From w) := vf_ref h3
    have e3 : z1224 (api_Value.mk c.To.Kind c.To.Flag c.To.Number c.To.Words) = some (vfI c.To v) := vf_own h4
    have e4 : z468 (api_Value.mk c.To.Kind c.To.Flag c.To.Number c.To.Words) = some (vfI c.To v) := vf_ref h4
    simp only [Option.bind_some, h1, h2, e1, e2, e3, e4, First_ab, HF2_ab]
    generalize or0 (vfI c.From w) (vfI c.To v) = z
    by_cases hz : z = 0
    · subst hz
      simp only [decide_true, Bool.not_true, cond_false, if_true]
      rfl
    · simp only [hz, decide_false, Bool.not_false, cond_true, if_false]
theorem hone_ok {l : List api_Change} (hl : l.length ≤ 400) (hK : ∀ c ∈ l, KH c) : Ok (loopO (z1014 l) 0) (fun r => match r with | .inl _ => l.Pairwise fun x y => nlt x.Name y.Name | .inr e => e ≠ 0) := by
  refine loop_ok (fun s : Int => ∃ i : Nat, s = (i : Int) ∧ i ≤ l.length ∧ ∀ j (h0 : 0 < j) (h : j < i) (hl : j < l.length), nlt (l[j - 1]'(by omega)).Name l[j].Name) (fun s => ((l.length : Int) - s).toNat) ?_ ⟨0, rfl, by omega, fun j h0 h => by omega⟩
  rintro _ ⟨i, rfl, i1, i2⟩
  unfold z1014
  by_cases hi : i < l.length
  · have hc : (i : Int) < l.length := by omega
    have w1 : IntKind.wrap .i64 ((i : Int) + 1) = ((i + 1 : Nat) : Int) := by rw [wrap64 (by omega) (by omega)]; omega
    have hKi := hK _ (List.getElem_mem hi)
    obtain ⟨b, h1, h2⟩ := okName_spec (List.all_eq_true.1 nm18_same _ hKi.name)
    obtain ⟨w, h3⟩ := hKi.frm
    obtain ⟨v, h4⟩ := hKi.to_
    have e1 : z1224 (api_Value.mk l[i].From.Kind l[i].From.Flag l[i].From.Number l[i].From.Words) = some (vfI l[i].From w) := vf_own h3
    have e3 : z1224 (api_Value.mk l[i].To.Kind l[i].To.Flag l[i].To.Number l[i].To.Words) = some (vfI l[i].To v) := vf_own h4
    simp only [hc, decide_true, cond_true, at_nat hi, Option.bind_some, h1, e1, e3, First_ab, w1]
    refine .cond (fun _ => .some (by simp)) fun hb => .cond (fun hz => .some (by simpa using hz)) fun hz => .cond (fun _ => .some (by simp)) fun _ => ?_
    unfold z1019
    cases i with
    | zero =>
      simp only [show ¬ (0 : Int) < ((0 : Nat) : Int) by omega, decide_false, cond_false, Option.bind_some]
      exact .some ⟨⟨1, rfl, by omega, fun j h0 h => by omega⟩, by omega⟩
    | succ i =>
      have hp0 : (0 : Int) < ((i + 1 : Nat) : Int) := by omega
      have w : IntKind.wrap .i64 (((i + 1 : Nat) : Int) - 1) = (i : Int) := by rw [wrap64 (by omega) (by omega)]; omega
      simp only [hp0, decide_true, cond_true, w, at_nat (show i < l.length by omega), Option.bind_some]
      refine .cond (fun _ => .some (by simp)) fun hlt => .some ⟨⟨i + 1 + 1, rfl, by omega, fun j h0 h hjl => ?_⟩, by omega⟩
      by_cases hj : j < i + 1
      · exact i2 j h0 hj hjl
      · have : j = i + 1 := by omega
        subst this
        simp only [Bool.or_eq_false_iff, cmpB_less, decide_eq_false_iff_not] at hlt
        show nlt l[i].Name l[i + 1].Name
        rcases cmpB_cases l[i].Name l[i + 1].Name with h2 | h2 | h2
        · exact h2
        · exact absurd h2.symm hlt.2
        · exact absurd h2 hlt.1
  · have hc : ¬ (i : Int) < l.length := by omega
    simp only [hc, decide_false, cond_false]
    refine .some ?_
    have key : ∀ (d j : Nat) (hj : j + d + 1 < l.length), nlt (l[j]'(by omega)).Name l[j + d + 1].Name := by
      intro d
      induction d with
      | zero =>
        intro j hj
        exact i2 (j + 1) (by omega) (by omega) (by omega)
      | succ d ih =>
        intro j hj
        exact nlt_trans (ih j (by omega)) (i2 (j + d + 2) (by omega) (by omega) (by omega))
    rw [List.pairwise_iff_getElem]
    intro i j hi hj hij
    have := key (j - i - 1) i (by omega)
    simpa [show i + (j - i - 1) + 1 = j by omega] using this
theorem hchecks {l : List api_Change} (hl : l.length ≤ 400) (hK : ∀ c ∈ l, KH c) : ∃ e, z1011 l = some e ∧ z290 l = some e ∧ (e = 0 → l.Pairwise fun x y => nlt x.Name y.Name) := by
  have h500 : ¬ (1000 : Int) < l.length := by omega
  unfold z1011 z290
  simp only [h500, decide_false, cond_false]
  rw [← hx1_same hK]
  obtain ⟨r, h1, h2⟩ := hone_ok hl hK
  rw [h1]
  cases r with
  | inr e => exact ⟨e, rfl, rfl, fun h => absurd h h2⟩
  | inl _ => exact ⟨0, rfl, rfl, fun _ => h2⟩
theorem hEqual_self {l : List api_Change} (hl : (l.length : Int) ≤ 9223372036854775807) : z666 l l = some true := by
  unfold z666
  simp only [decide_true, Bool.not_true, cond_false]
  rw [range_loop (l := l) (fun _ _ => none) (.inl ()) hl]
  · have : ∀ (k : Nat) (m : List api_Change), scan (fun (_ : Nat) (_ : api_Change) => (none : Option (Unit ⊕ Unit))) k m = none := fun k m => scan_none.2 fun _ _ _ => rfl
    rw [this]; rfl
  · intro i hi
    unfold z669
    have hc : (i : Int) < l.length := by omega
    simp only [hc, decide_true, cond_true, at_nat hi, Option.bind_some, beq_self_eq_true, Bool.and_self, Bool.and_true]
    rfl
  · unfold z669; simp
end Go.Eng

/-
The law ChangesMade: what differs, what is wrong with changes, making changes, and turning them round.
-/
namespace Go.Eng
open Go
set_option linter.unusedVariables false
set_option linter.unusedSimpArgs false

/-! ### The list that is made -/
theorem nodup_few {α : Type} : ∀ {l m : List α}, l.Nodup → (∀ x ∈ l, x ∈ m) → l.length ≤ m.length
  | [], m, _, _ => by simp
  | x :: l, m, h, hs => by
    rw [List.nodup_cons] at h
    obtain ⟨s, t, rfl⟩ := List.append_of_mem (hs x (List.mem_cons_self ..))
    have := nodup_few (l := l) (m := s ++ t) h.2 fun y hy => by
      have h1 := hs y (List.mem_cons_of_mem _ hy)
      have h2 : y ≠ x := fun e => h.1 (e ▸ hy)
      simp only [List.mem_append, List.mem_cons] at h1 ⊢
      rcases h1 with h1 | h1 | h1
      · exact .inl h1
      · exact absurd h1 h2
      · exact .inr h1
    simp only [List.length_append, List.length_cons] at this ⊢
    omega
end Go.Eng

/-
The law CellsSeen: what is visible and what is left out are as specified for all cells.
-/
namespace Go.Eng
open Go
set_option linter.unusedVariables false
set_option linter.unusedSimpArgs false

theorem signR_eq (n : Int) : z555 n = some (if n < 0 then -1 else if 0 < n then 1 else 0) := by
  unfold z555
  by_cases h1 : n < 0
  · simp [h1]
  · by_cases h2 : 0 < n <;> simp [h1, h2]
theorem sign_cmp {a b : Int} (ha : Bd a) (hb : Bd b) : z555 (IntKind.wrap .i64 (a - b)) = some (cmpI a b) := by
  unfold Bd at ha hb
  rw [wrap64 (by omega) (by omega), signR_eq]
  unfold cmpI
  congr 1
  by_cases h1 : a < b
  · rw [if_pos (by omega), if_pos h1]
  · rw [if_neg (by omega), if_neg h1]
    by_cases h2 : b < a
    · rw [if_pos (by omega), if_pos h2]
    · rw [if_neg (by omega), if_neg h2]
theorem refO_eq {a b : api_Stamp} (ha : KSt a) (hb : KSt b) : z451 a b = some (stO a b) := by
  have h : z905 a.By b.By = some () := rfl
  unfold z451 stO or0
  rw [sign_cmp ha.at_ hb.at_, sign_cmp ha.no hb.no, h]
  simp only [Option.bind_some]
  by_cases h1 : a.At = b.At
  · have e1 : cmpI a.At b.At = 0 := cmpI_zero.2 h1
    simp only [h1, decide_true, Bool.not_true, cond_false]
    rw [show cmpI b.At b.At = 0 from cmpI_zero.2 rfl, if_pos rfl]
    by_cases h2 : a.By = b.By
    · simp only [h2, decide_true, Bool.not_true, cond_false]
      rw [if_pos (cmpB_zero.2 rfl)]
    · simp only [h2, decide_false, Bool.not_false, cond_true]
      rw [if_neg fun e => h2 (cmpB_zero.1 e)]
  · simp only [h1, decide_false, Bool.not_false, cond_true]
    rw [if_neg fun e => h1 (cmpI_zero.1 e)]
theorem KC.len {c : api_Cell} (h : KC c) : (nm c).length ≤ 10000 := h.kp.2.2
theorem refHides_eq {x y : api_Cell} (hx : KC x) (hy : KC y) : z516 x y = some (hidesB x y) := by
  have ho : z451 (api_Stamp.mk x.Stamp.At x.Stamp.By x.Stamp.No) (api_Stamp.mk y.Stamp.At y.Stamp.By y.Stamp.No) = some (stO x.Stamp y.Stamp) := refO_eq hx.st hy.st
  unfold z516 hidesB z519 z523 z558
  rw [ho, above_is _ _ hx.len, above_is _ _ hy.len]
  simp only [Option.bind_some]
  show (bif belB (nm y) (nm x) then _ else _) = _
  by_cases h1 : 0 < stO x.Stamp y.Stamp
  · simp only [h1, decide_true, cond_true, if_true]
    cases belB (nm y) (nm x) <;> cases belB (nm x) (nm y) <;> simp
  · by_cases h2 : stO x.Stamp y.Stamp = 0
    · simp only [h1, h2, decide_true, decide_false, cond_true, cond_false, if_true, if_false]
      simp only [show ¬ (0 : Int) < 0 by omega, decide_false, cond_false, if_false]
      cases belB (nm y) (nm x) <;> cases belB (nm x) (nm y) <;> cases decide (x.Prop_.Value.Kind = 0) <;> simp
    · simp only [h1, h2, decide_false, cond_false, if_false]
      cases belB (nm y) (nm x) <;> cases belB (nm x) (nm y) <;> simp
theorem refHidden_eq {l : List api_Cell} {y : api_Cell} (hl : l.length ≤ 1000) (hK : ∀ c ∈ l, KC c) (hy : KC y) : z510 l y = some (l.any fun x => hidesB x y) := by
  show ((z637 l y).bind fun vr => some vr) = _
  have h0 : z637 l y = ((z689 l y).bind fun vr2 => some (decide (0 ≤ vr2))) := rfl
  rw [h0]
  unfold z689
  obtain ⟨x, h1, h2⟩ := find_loop (l := l) (f := z692 l y) (fun x => hidesB x y) (by omega) (fun i h => by
    unfold z692
    have hc : (i : Int) < l.length := by omega
    simp only [hc, decide_true, cond_true, at_nat h, Option.bind_some]
    have h3 : z511 l[i] y = some (hidesB l[i] y) := by
      show ((z516 l[i] y).bind fun vr3 => some vr3) = _
      rw [refHides_eq (hK _ (List.getElem_mem h)) hy]; rfl
    have h4 : z511 (api_Cell.mk (api_Prop.mk l[i].Prop_.Name (api_Value.mk l[i].Prop_.Value.Kind l[i].Prop_.Value.Flag l[i].Prop_.Value.Number l[i].Prop_.Value.Words)) (api_Stamp.mk l[i].Stamp.At l[i].Stamp.By l[i].Stamp.No)) (api_Cell.mk (api_Prop.mk y.Prop_.Name (api_Value.mk y.Prop_.Value.Kind y.Prop_.Value.Flag y.Prop_.Value.Number y.Prop_.Value.Words)) (api_Stamp.mk y.Stamp.At y.Stamp.By y.Stamp.No)) = some (hidesB l[i] y) := h3
    rw [h4]
    cases hidesB l[i] y <;> rfl) (by unfold z692; simp)
  rw [h1, ← h2]
  cases x <;> rfl
theorem refVis_eq {l : List api_Cell} (hl : l.length ≤ 1000) (hK : ∀ c ∈ l, KC c) : z491 l = some (vis l) := by
  unfold z491
  have := fold_loop0 (l := l) (f := z494 l) (fun (s : List api_Prop) i => (s, i)) (fun s c => bif visB l c then s ++ [c.Prop_] else s) id (fun i s => s.length ≤ i) (s0 := []) (by omega)
    (fun i hi s hs => by
      have hc : (i : Int) < l.length := by omega
      have hx3 : z503 l l[i] = some (visB l l[i]) := by
        unfold z503 visB z558
        have h2 : z510 l (api_Cell.mk (api_Prop.mk l[i].Prop_.Name (api_Value.mk l[i].Prop_.Value.Kind l[i].Prop_.Value.Flag l[i].Prop_.Value.Number l[i].Prop_.Value.Words)) (api_Stamp.mk l[i].Stamp.At l[i].Stamp.By l[i].Stamp.No)) = some (l.any fun x => hidesB x l[i]) := refHidden_eq hl hK (hK _ (List.getElem_mem hi))
        rw [h2]
        cases h0 : decide (l[i].Prop_.Value.Kind = 0) with
        | true => simp
        | false => simp
      refine ⟨?_, ?_⟩
      · unfold z494 z499
        simp only [hc, decide_true, cond_true, at_nat hi, Option.bind_some, hx3]
        cases visB l l[i] with
        | false => rfl
        | true =>
          simp only [cond_true, gd]
          rw [lim_ok (by simp; omega)]
          rfl
      · cases visB l l[i] <;> simp <;> omega)
    (fun s _ => by unfold z494; simp) (by simp)
  rw [this.1]
  simp only [Option.bind_some, id]
  rw [foldl_filter]
  rfl
end Go.Eng

/-
The law CellsMerge: cells are merged, written and cleared as specified.
-/
namespace Go.Eng
open Go
set_option linter.unusedVariables false
set_option linter.unusedSimpArgs false

theorem fold_exit2 {τ σ α : Type} {l : List α} {f : τ → Option (τ ⊕ (σ ⊕ Unit))} (e : σ → Int → τ) (h : σ → α → σ) (bad : Nat → Bool) (I : Nat → σ → Prop) {s0 : σ} (hl : (l.length : Int) ≤ 9223372036854775807)
    (hf : ∀ (i : Nat) (hi : i < l.length) (s : σ), I i s → f (e s i) = some (bif bad i then .inr (.inr ()) else .inl (e (h s l[i]) (IntKind.wrap .i64 (i + 1)))) ∧ I (i + 1) (h s l[i]))
    (hd : ∀ s, I l.length s → f (e s l.length) = some (.inr (.inl s))) (h0 : I 0 s0) :
    ((∃ i < l.length, bad i = true) ∧ loopO f (e s0 0) = some (.inr ())) ∨ ((∀ i < l.length, bad i = false) ∧ loopO f (e s0 0) = some (.inl (l.foldl h s0))) := by
  have key : ∀ (n i : Nat) (s : σ), l.length - i = n → i ≤ l.length → I i s → ((∃ j < l.length, bad j = true) ∧ loopO f (e s i) = some (.inr ())) ∨ ((∀ j, i ≤ j → j < l.length → bad j = false) ∧ loopO f (e s i) = some (.inl ((l.drop i).foldl h s))) := by
    intro n
    induction n with
    | zero =>
      intro i s h1 h2 h3
      have : i = l.length := by omega
      subst this
      right
      refine ⟨fun j h1 h2 => by omega, ?_⟩
      rw [loop_out (hd s h3)]
      simp
    | succ n ih =>
      intro i s h1 h2 h3
      have hi : i < l.length := by omega
      obtain ⟨g1, g2⟩ := hf i hi s h3
      cases hb : bad i with
      | true =>
        left
        rw [hb] at g1
        exact ⟨⟨i, hi, hb⟩, loop_out g1⟩
      | false =>
        rw [hb] at g1
        have w : IntKind.wrap .i64 ((i : Int) + 1) = ((i + 1 : Nat) : Int) := by rw [wrap64 (by omega) (by omega)]; omega
        rw [w] at g1
        rw [loop_in g1]
        rcases ih (i + 1) _ (by omega) (by omega) g2 with ⟨q1, q2⟩ | ⟨q1, q2⟩
        · exact .inl ⟨q1, q2⟩
        · right
          refine ⟨fun j h1 h2 => ?_, ?_⟩
          · by_cases hj : j = i
            · subst hj; exact hb
            · exact q1 j (by omega) h2
          · rw [q2, List.drop_eq_getElem_cons hi, List.foldl_cons]
  rcases key l.length 0 s0 (by omega) (by omega) h0 with ⟨q1, q2⟩ | ⟨q1, q2⟩
  · exact .inl ⟨q1, q2⟩
  · exact .inr ⟨fun i hi => q1 i (by omega) hi, by simpa using q2⟩
theorem concat2_eq {a b : List api_Cell} (ha : a.length ≤ 10000) (hb : b.length ≤ 10000) : z621 [a, b] = some (a ++ b) := by
  unfold z621
  have t0 : at? [a, b] 0 = some a := rfl
  have t1 : at? [a, b] 1 = some b := rfl
  have i1 : IntKind.wrap .i64 ((0 : Int) + 1) = 1 := by decide
  have i2 : IntKind.wrap .i64 ((1 : Int) + 1) = 2 := by decide
  have w1 : IntKind.wrap .i64 ((0 : Int) + a.length) = a.length := by rw [wrap64 (by omega) (by omega)]; omega
  have w2 : IntKind.wrap .i64 ((a.length : Int) + b.length) = (a.length : Int) + b.length := wrap64 (by omega) (by omega)
  have n1 : ¬ (a.length : Int) < 0 := by omega
  have n2 : ¬ (a.length : Int) + b.length < 0 := by omega
  have l3 : (([a, b] : List (List api_Cell)).length : Int) = 2 := rfl
  have h1 : loopO (z624 [a, b]) (0, 0) = some ((a.length : Int) + b.length) := by
    rw [loop_in (s' := ((a.length : Int), (1 : Int))) (by simp only [z624, l3, show ((0 : Int) < 2) by omega, decide_true, cond_true, t0, Option.bind_some, w1, n1, decide_false, cond_false, i1])]
    rw [loop_in (s' := ((a.length : Int) + b.length, (2 : Int))) (by simp only [z624, l3, show ((1 : Int) < 2) by omega, decide_true, cond_true, t1, Option.bind_some, w2, n2, decide_false, cond_false, i2])]
    exact loop_out (by simp only [z624, l3, show ¬ ((2 : Int) < 2) by omega, decide_false, cond_false])
  have h2 : z674 ((a.length : Int) + b.length) = some [] := by
    have z : IntKind.wrap .i64 ((0 : Int) - 0) = 0 := by decide
    have z2 : IntKind.wrap .i64 ((a.length : Int) + b.length - 0) = (a.length : Int) + b.length := by rw [Int.sub_zero]; exact w2
    unfold z674 z677
    simp only [n2, decide_false, cond_false, z, z2]
    by_cases h0 : (0 : Int) < (a.length : Int) + b.length
    · have g1 : (decide (0 ≤ (a.length : Int) + b.length) && decide ((a.length : Int) + b.length ≤ 137438953472)) = true := by simp; omega
      simp only [h0, decide_true, cond_true, g1, gd]
      have g2 : (0 : Int) ≤ max ((a.length : Int) + b.length) 0 := by omega
      simp [g2]
    · simp [h0]
  have h3 : loopO (z629 [a, b]) ([], 0) = some (a ++ b) := by
    rw [loop_in (s' := (([] : List api_Cell) ++ a, (1 : Int))) (by simp only [z629, l3, show ((0 : Int) < 2) by omega, decide_true, cond_true, t0, Option.bind_some, i1, gd, lim_ok (n := ([] : List api_Cell).length + a.length) (by simp; omega)])]
    rw [loop_in (s' := (([] : List api_Cell) ++ a ++ b, (2 : Int))) (by simp only [z629, l3, show ((1 : Int) < 2) by omega, decide_true, cond_true, t1, Option.bind_some, i2, gd, lim_ok (n := (([] : List api_Cell) ++ a).length + b.length) (by simp; omega)])]
    exact loop_out (by simp only [z629, l3, show ¬ ((2 : Int) < 2) by omega, decide_false, cond_false, List.nil_append])
  rw [h1, Option.bind_some, h2, Option.bind_some, h3]
  rfl
theorem gSort_pm {α : Type} {P : α → Prop} {f : α → α → Int} {c : α → α → Option Int} (hc : ∀ x y, P x → P y → c x y = some (f x y)) (anti : ∀ x y, f y x = - f x y) (tr : ∀ x y z, f x y ≤ 0 → f y z ≤ 0 → f x z ≤ 0)
    {l : List α} (hl : l.length < 20) (hP : All P l) : Ok (gSort c l) (fun r => r.Perm l ∧ Ord f r l.length) := by
  obtain ⟨r, h1, ⟨h2, h3, h4⟩, h5⟩ := (gI_ord hc anti tr (l := l) (by omega) hP).and (gI_pm' hc (l := l) (by omega) hP)
  have e1 : loopO (gS1 c (l.length : Int)) (l, 0, 20) = some (l, 0) := by
    have : ¬ (20 : Int) ≤ l.length := by omega
    exact loop_out (by simp [gS1, this])
  have e2 : loopO (gS2 (l.length : Int)) 20 = some () := by
    have : ¬ (20 : Int) < l.length := by omega
    exact loop_out (by simp [gS2, this])
  refine ⟨r, ?_, h5, h4⟩
  unfold gSort gS
  simp only [e1, Option.bind_some, h1, h2, beq_self_eq_true, gd, e2, cond_true]
theorem sortM1_eq : z754 = gSort z327 := by kernel_rfl
def nF (x y : api_Cell) : Int := Lib.compareBytes (nm x) (nm y)
theorem sortM2_eq : z745 = gSF (fun x y => some (nF x y)) := by kernel_rfl
theorem mergeCmp {x y : api_Cell} (hx : KC x) (hy : KC y) : z327 x y = some (stO x.Stamp y.Stamp) := by
  have ho : z451 (api_Stamp.mk x.Stamp.At x.Stamp.By x.Stamp.No) (api_Stamp.mk y.Stamp.At y.Stamp.By y.Stamp.No) = some (stO x.Stamp y.Stamp) := refO_eq hx.st hy.st
  unfold z327
  rw [ho]; rfl

/-! ### The last one of each name -/
def putN (m : List (List UInt8 × api_Cell)) (c : api_Cell) : List (List UInt8 × api_Cell) := aput m (nm c) c
theorem lasts_ks : ∀ (P : List api_Cell) (m : List (List UInt8 × api_Cell)), KS m → KS (P.foldl putN m)
  | [], m, h => h
  | c :: P, m, h => lasts_ks P _ (aput_ks h _ _)
theorem lasts_in : ∀ (P : List api_Cell) (m : List (List UInt8 × api_Cell)) (x : List UInt8 × api_Cell), x ∈ P.foldl putN m → (x.2 ∈ P ∧ nm x.2 = x.1) ∨ x ∈ m
  | [], m, x, h => .inr h
  | c :: P, m, x, h => by
    rcases lasts_in P _ x h with ⟨h1, h2⟩ | h1
    · exact .inl ⟨List.mem_cons_of_mem _ h1, h2⟩
    · rcases aput_mem.1 h1 with rfl | ⟨h1, _⟩
      · exact .inl ⟨List.mem_cons_self .., rfl⟩
      · exact .inr h1
theorem lasts_has : ∀ (P : List api_Cell) (m : List (List UInt8 × api_Cell)) (n : List UInt8), ((∃ c ∈ P, nm c = n) ∨ ∃ x ∈ m, x.1 = n) → ∃ x ∈ P.foldl putN m, x.1 = n
  | [], m, n, h => by
    rcases h with ⟨c, hc, _⟩ | h
    · cases hc
    · exact h
  | c :: P, m, n, h => by
    refine lasts_has P _ n ?_
    by_cases hcn : nm c = n
    · exact .inr ⟨(nm c, c), aput_mem.2 (.inl rfl), hcn⟩
    · rcases h with ⟨d, hd, hn⟩ | ⟨x, hx, hn⟩
      · rcases List.mem_cons.1 hd with rfl | hd
        · exact absurd hn hcn
        · exact .inl ⟨d, hd, hn⟩
      · exact .inr ⟨x, aput_mem.2 (.inr ⟨hx, fun e => hcn (e.symm.trans hn)⟩), hn⟩
theorem lasts_max {P : List api_Cell} (hs : P.Pairwise fun x y => stO x.Stamp y.Stamp ≤ 0) : ∀ x ∈ P.foldl putN [], ∀ w ∈ P, nm w = x.1 → stO w.Stamp x.2.Stamp ≤ 0 := by
  have key : ∀ (k : Nat), k ≤ P.length → ∀ x ∈ (P.take k).foldl putN [], ∀ w ∈ P.take k, nm w = x.1 → stO w.Stamp x.2.Stamp ≤ 0 := by
    intro k
    induction k with
    | zero => intro _ x hx; simp at hx
    | succ k ih =>
      intro hk x hx w hw hn
      have hkl : k < P.length := by omega
      rw [List.take_succ_eq_append_getElem hkl, List.foldl_append] at hx
      rw [List.take_succ_eq_append_getElem hkl] at hw
      have hx : x ∈ aput ((P.take k).foldl putN []) (nm P[k]) P[k] := hx
      rcases aput_mem.1 hx with rfl | ⟨hx, hne⟩
      · rcases List.mem_append.1 hw with hw | hw
        · obtain ⟨j, hj, rfl⟩ := List.mem_iff_getElem.1 hw
          rw [List.length_take] at hj
          rw [List.getElem_take]
          exact (List.pairwise_iff_getElem.1 hs) j k (by omega) hkl (by omega)
        · rw [List.mem_singleton] at hw
          subst hw
          rw [stO_self]; omega
      · rcases List.mem_append.1 hw with hw | hw
        · exact ih (by omega) x hx w hw hn
        · rw [List.mem_singleton] at hw
          subst hw
          exact absurd hn.symm hne
  have := key P.length (Nat.le_refl _)
  rwa [List.take_length] at this

/-! ### Merging -/
def nm8 : List (List UInt8) := [[97], [97, 46, 120], [97, 46, 121], [97, 46, 120, 46, 112], [98], [98, 46, 122], [97, 98], [97, 45, 49]]
theorem nm18_8 : (nm18.all fun n => !decide (z1170 n = some true) || nm8.any fun m => decide (m = n)) = true := by kernel_rfl
theorem good8 {c : api_Cell} (h : KC c) (g : GC c) : nm c ∈ nm8 := by
  have := List.all_eq_true.1 nm18_8 _ h.name
  rw [g.1] at this
  simp only [decide_true, Bool.not_true, Bool.false_or, List.any_eq_true] at this
  obtain ⟨m, hm, e⟩ := this
  rw [← of_decide_eq_true e]; exact hm
def cellEq (o y : api_Cell) : Bool := (decide (o.Prop_.Name = y.Prop_.Name) && ((decide (o.Prop_.Value.Kind = y.Prop_.Value.Kind) && ((o.Prop_.Value.Flag == y.Prop_.Value.Flag) && (decide (o.Prop_.Value.Number = y.Prop_.Value.Number) && (decide (o.Prop_.Value.Words = y.Prop_.Value.Words) && true)))) && true)) && ((decide (o.Stamp.At = y.Stamp.At) && (decide (o.Stamp.By = y.Stamp.By) && (decide (o.Stamp.No = y.Stamp.No) && true))) && true)
theorem cellEq_iff {o y : api_Cell} : cellEq o y = true ↔ o = y := by
  obtain ⟨⟨n, k, f, m, w⟩, a, b, c⟩ := o
  obtain ⟨⟨n', k', f', m', w'⟩, a', b', c'⟩ := y
  unfold cellEq
  simp [and_assoc]
def badM (vl : List api_Cell) (i : Nat) : Bool := match vl[i]? with
  | none => false
  | some y => match aget ((vl.take i).foldl putN []) (nm y) with
    | none => false
    | some o => decide (stO o.Stamp y.Stamp = 0) && !cellEq o y
open Classical in
theorem MergeOf_eq {a b : List api_Cell} (ka : ∀ c ∈ a, KC c) (kb : ∀ c ∈ b, KC c) (ga : ∀ c ∈ a, GC c) (gb : ∀ c ∈ b, GC c) (ha : Srt a) (hb : Srt b) (hl : a.length + b.length ≤ 19) :
    z333 a b = some (match mrg a b with | some r => (r, 0) | none => ([], 13)) := by
  have kall : All KC (a ++ b) := fun c hc => by
    rcases List.mem_append.1 hc with h | h
    · exact ka c h
    · exact kb c h
  have gall : ∀ c ∈ a ++ b, GC c := fun c hc => by
    rcases List.mem_append.1 hc with h | h
    · exact ga c h
    · exact gb c h
  unfold z333
  rw [concat2_eq (by omega) (by omega)]
  simp only [Option.bind_some, sortM1_eq]
  obtain ⟨vl, v0, v1, v2⟩ := gSort_pm (P := KC) (f := fun x y : api_Cell => stO x.Stamp y.Stamp) (c := z327) (fun x y hx hy => mergeCmp hx hy) (fun x y => stO_anti _ _) (fun x y z => stO_tr) (l := a ++ b) (by simp; omega) kall
  have hvl : vl.length = (a ++ b).length := v1.length_eq
  have kvl : ∀ c ∈ vl, KC c := fun c hc => kall c (v1.mem_iff.1 hc)
  have hs : vl.Pairwise fun x y => stO x.Stamp y.Stamp ≤ 0 := by
    rw [List.pairwise_iff_getElem]
    intro i j hi hj hij
    exact v2 i j hij (by omega) (by omega)
  rw [v0]
  simp only [Option.bind_some, gd, hvl, beq_self_eq_true, cond_true]
  have mem_ab : ∀ c, c ∈ vl ↔ c ∈ a ∨ c ∈ b := fun c => by rw [v1.mem_iff, List.mem_append]
  have hspec := mrg_spec a b ha hb
  have loop := fold_exit2 (l := vl) (f := z336 vl) (fun (s : List (List UInt8 × api_Cell)) i => (s, i)) putN (badM vl) (fun i s => s = (vl.take i).foldl putN []) (s0 := []) (by simp at hvl; omega)
    (fun i hi s h => by
      subst h
      have hc : (i : Int) < vl.length := by omega
      refine ⟨?_, by rw [List.take_succ_eq_append_getElem hi, List.foldl_append]; rfl⟩
      have hks : KS ((vl.take i).foldl putN []) := lasts_ks _ _ List.Pairwise.nil
      unfold z336 badM
      simp only [hc, decide_true, cond_true, at_nat hi, Option.bind_some, List.getElem?_eq_getElem hi]
      cases hg : aget ((vl.take i).foldl putN []) (nm vl[i]) with
      | none =>
        simp only [Option.isSome_none, z341, cond_false, Option.bind_some]
        rfl
      | some o =>
        have ho := (aget_some hks).1 hg
        have hov : o ∈ vl := by
          rcases lasts_in _ _ _ ho with ⟨h1, _⟩ | h1
          · exact List.mem_of_mem_take h1
          · cases h1
        have hso : z451 (api_Stamp.mk o.Stamp.At o.Stamp.By o.Stamp.No) (api_Stamp.mk vl[i].Stamp.At vl[i].Stamp.By vl[i].Stamp.No) = some (stO o.Stamp vl[i].Stamp) := refO_eq (kvl o hov).st (kvl _ (List.getElem_mem hi)).st
        simp only [Option.isSome_some, Option.getD_some, z341, cond_true, hso, Option.bind_some]
        by_cases h0 : stO o.Stamp vl[i].Stamp = 0
        · simp only [h0, decide_true, cond_true, Option.bind_some, Bool.true_and]
          show (bif !cellEq o vl[i] then _ else _) = some (bif !cellEq o vl[i] then _ else _)
          cases (!cellEq o vl[i]) <;> rfl
        · simp only [h0, decide_false, cond_false, Option.bind_some, Bool.false_and]
          rfl)
    (fun s _ => by unfold z336; simp) rfl
  -- two cells of one name
  have two : ∀ {o y : api_Cell}, o ∈ vl → y ∈ vl → nm o = nm y → o ≠ y → ∃ c d, lk a (nm y) = some c ∧ lk b (nm y) = some d ∧ ((o = c ∧ y = d) ∨ (o = d ∧ y = c)) := by
    intro o y ho hy hn hne
    have one : ∀ {l : List api_Cell}, Srt l → o ∈ l → y ∈ l → False := fun hsl h1 h2 => by
      have e1 := lk_mem hsl h1
      have e2 := lk_mem hsl h2
      rw [hn, e2] at e1
      exact hne (Option.some.inj e1).symm
    rcases (mem_ab o).1 ho with h1 | h1 <;> rcases (mem_ab y).1 hy with h2 | h2
    · exact (one ha h1 h2).elim
    · exact ⟨o, y, by rw [← hn]; exact lk_mem ha h1, lk_mem hb h2, .inl ⟨rfl, rfl⟩⟩
    · exact ⟨y, o, lk_mem ha h2, by rw [← hn]; exact lk_mem hb h1, .inr ⟨rfl, rfl⟩⟩
    · exact (one hb h1 h2).elim
  have names : ∀ {w : api_Cell} {n : List UInt8} {c d : api_Cell}, w ∈ vl → nm w = n → lk a n = some c → lk b n = some d → w = c ∨ w = d := by
    intro w n c d hw hn hc hd
    rcases (mem_ab w).1 hw with h | h
    · have := lk_mem ha h
      rw [hn, hc] at this
      exact .inl (Option.some.inj this).symm
    · have := lk_mem hb h
      rw [hn, hd] at this
      exact .inr (Option.some.inj this).symm
  rcases loop with ⟨⟨i, hi, hbad⟩, hloop⟩ | ⟨hgood, hloop⟩
  · rw [hloop]
    unfold badM at hbad
    rw [List.getElem?_eq_getElem hi] at hbad
    simp only at hbad
    have hks : KS ((vl.take i).foldl putN []) := lasts_ks _ _ List.Pairwise.nil
    cases hg : aget ((vl.take i).foldl putN []) (nm vl[i]) with
    | none => rw [hg] at hbad; cases hbad
    | some o =>
      rw [hg] at hbad
      simp only [Bool.and_eq_true, decide_eq_true_eq, Bool.not_eq_true'] at hbad
      have ho := (aget_some hks).1 hg
      obtain ⟨ho1, ho2⟩ : o ∈ vl ∧ nm o = nm vl[i] := by
        rcases lasts_in _ _ _ ho with ⟨h1, h2⟩ | h1
        · exact ⟨List.mem_of_mem_take h1, h2⟩
        · cases h1
      have hne : o ≠ vl[i] := fun e => by rw [cellEq_iff.2 e] at hbad; cases hbad.2
      obtain ⟨c, d, hc, hd, hcd⟩ := two ho1 (List.getElem_mem hi) ho2 hne
      have hclash : clash c d := by
        rcases hcd with ⟨h1, h2⟩ | ⟨h1, h2⟩
        · rw [← h1, ← h2]
          exact ⟨hbad.1, fun hv => hne (ceq_iff ho2 (stO_zero.1 hbad.1) hv)⟩
        · rw [← h1, ← h2]
          have h0 : stO vl[i].Stamp o.Stamp = 0 := by have := stO_anti o.Stamp vl[i].Stamp; omega
          exact ⟨h0, fun hv => hne (ceq_iff ho2 (stO_zero.1 hbad.1) hv.symm)⟩
      cases hm : mrg a b with
      | none => rfl
      | some r =>
        rw [hm] at hspec
        exact absurd hclash (hspec.2.2.1 _ c d hc hd)
  · rw [hloop]
    have hks : KS (vl.foldl putN []) := lasts_ks _ _ List.Pairwise.nil
    cases hm : mrg a b with
    | none =>
      exfalso
      rw [hm] at hspec
      obtain ⟨n, c, d, hc, hd, hcl⟩ := hspec
      have hcd : c ≠ d := fun e => hcl.2 (by rw [e])
      have hcv : c ∈ vl := (mem_ab c).2 (.inl (lk_some hc).1)
      have hdv : d ∈ vl := (mem_ab d).2 (.inr (lk_some hd).1)
      -- the first place behind which both are there
      have hex : ∃ k, k ≤ vl.length ∧ c ∈ vl.take k ∧ d ∈ vl.take k := ⟨vl.length, Nat.le_refl _, by rw [List.take_length]; exact ⟨hcv, hdv⟩⟩
      have hmin : ∃ k, (k ≤ vl.length ∧ c ∈ vl.take k ∧ d ∈ vl.take k) ∧ ∀ j, j < k → ¬ (c ∈ vl.take j ∧ d ∈ vl.take j) := by
        obtain ⟨k, hk⟩ := hex
        induction k using Nat.strongRecOn with
        | _ k ih =>
          by_cases h : ∃ j, j < k ∧ c ∈ vl.take j ∧ d ∈ vl.take j
          · obtain ⟨j, h1, h2⟩ := h
            exact ih j h1 ⟨by omega, h2⟩
          · exact ⟨k, hk, fun j hj hh => h ⟨j, hj, hh⟩⟩
      obtain ⟨k, ⟨k1, k2, k3⟩, k4⟩ := hmin
      cases k with
      | zero => simp at k2
      | succ k =>
        have hkl : k < vl.length := by omega
        rw [List.take_succ_eq_append_getElem hkl, List.mem_append, List.mem_singleton] at k2 k3
        have k5 := k4 k (by omega)
        -- the one that comes last, and the other one
        have hyo : ∃ o, (o = c ∨ o = d) ∧ o ∈ vl.take k ∧ vl[k] ∉ vl.take k ∧ o ≠ vl[k] ∧ (vl[k] = c ∨ vl[k] = d) := by
          rcases k2 with k2 | k2 <;> rcases k3 with k3 | k3
          · exact absurd ⟨k2, k3⟩ k5
          · exact ⟨c, .inl rfl, k2, fun h => k5 ⟨k2, by rw [k3]; exact h⟩, fun e => hcd (e.trans k3.symm), .inr k3.symm⟩
          · exact ⟨d, .inr rfl, k3, fun h => k5 ⟨by rw [k2]; exact h, k3⟩, fun e => hcd (k2.trans e.symm), .inl k2.symm⟩
          · exact absurd (k2.trans k3.symm) hcd
        obtain ⟨o, o1, o2, o3, o4, o5⟩ := hyo
        have hny : nm vl[k] = n := by
          rcases o5 with h | h
          · rw [h]; exact (lk_some hc).2
          · rw [h]; exact (lk_some hd).2
        have hno : nm o = n := by
          rcases o1 with h | h
          · rw [h]; exact (lk_some hc).2
          · rw [h]; exact (lk_some hd).2
        have hb2 := hgood k hkl
        unfold badM at hb2
        rw [List.getElem?_eq_getElem hkl] at hb2
        simp only at hb2
        have hks2 : KS ((vl.take k).foldl putN []) := lasts_ks _ _ List.Pairwise.nil
        obtain ⟨x, hx, hxn⟩ := lasts_has (vl.take k) [] n (.inl ⟨o, o2, hno⟩)
        have hgx : aget ((vl.take k).foldl putN []) (nm vl[k]) = some x.2 := by
          rw [hny, ← hxn]
          exact (aget_some hks2).2 hx
        rw [hgx] at hb2
        simp only at hb2
        have hxo : x.2 = o := by
          rcases lasts_in _ _ _ hx with ⟨h1, h2⟩ | h1
          · rcases names (List.mem_of_mem_take h1) (h2.trans hxn) hc hd with h | h
            · rcases o1 with h3 | h3
              · exact h.trans h3.symm
              · exfalso
                rcases o5 with h5 | h5
                · exact o3 (by rw [h5, ← h]; exact h1)
                · exact o4 (h3.trans h5.symm)
            · rcases o1 with h3 | h3
              · exfalso
                rcases o5 with h5 | h5
                · exact o4 (h3.trans h5.symm)
                · exact o3 (by rw [h5, ← h]; exact h1)
              · exact h.trans h3.symm
          · cases h1
        have h0 : stO o.Stamp vl[k].Stamp = 0 := by
          rcases o1 with h1 | h1 <;> rcases o5 with h2 | h2
          · exact absurd (h1.trans h2.symm) o4
          · rw [h1, h2]; exact hcl.1
          · rw [h1, h2]; have := stO_anti c.Stamp d.Stamp; have := hcl.1; omega
          · exact absurd (h1.trans h2.symm) o4
        rw [hxo, h0] at hb2
        simp only [decide_true, Bool.true_and, Bool.not_eq_false'] at hb2
        exact o4 (cellEq_iff.1 hb2)
    | some r =>
      rw [hm] at hspec
      obtain ⟨s1, s2, s3, _, s5⟩ := hspec
      have hin : ∀ x ∈ vl.foldl putN [], x.2 ∈ vl ∧ nm x.2 = x.1 := fun x hx => by
        rcases lasts_in _ _ _ hx with h | h
        · exact h
        · cases h
      have hget : ∀ c, (nm c, c) ∈ vl.foldl putN [] ↔ lk r (nm c) = some c := by
        intro c
        rw [s2]
        constructor
        · intro hx
          obtain ⟨q1, _⟩ := hin _ hx
          simp only at q1
          have hmax := lasts_max hs _ hx
          simp only at hmax
          cases h1 : lk a (nm c) with
          | none =>
            cases h2 : lk b (nm c) with
            | none =>
              rcases (mem_ab c).1 q1 with h | h
              · exact absurd rfl (lk_none.1 h1 c h)
              · exact absurd rfl (lk_none.1 h2 c h)
            | some d =>
              rcases (mem_ab c).1 q1 with h | h
              · exact absurd rfl (lk_none.1 h1 c h)
              · have := lk_mem hb h
                rw [h2] at this
                exact this
          | some x =>
            cases h2 : lk b (nm c) with
            | none =>
              rcases (mem_ab c).1 q1 with h | h
              · have := lk_mem ha h
                rw [h1] at this
                rw [comb_none]; exact this
              · exact absurd rfl (lk_none.1 h2 c h)
            | some y =>
              have hnc := s3 _ x y h1 h2
              have hx1 := hmax x ((mem_ab x).2 (.inl (lk_some h1).1)) (lk_some h1).2
              have hy1 := hmax y ((mem_ab y).2 (.inr (lk_some h2).1)) (lk_some h2).2
              show some (pick x y) = some c
              congr 1
              unfold pick
              rcases names q1 rfl h1 h2 with h | h
              · subst h
                rw [if_pos]
                have := stO_anti y.Stamp c.Stamp
                omega
              · subst h
                by_cases h0 : 0 ≤ stO x.Stamp c.Stamp
                · rw [if_pos h0]
                  have h00 : stO x.Stamp c.Stamp = 0 := by omega
                  refine Classical.byContradiction fun hne => hnc ⟨h00, fun hv => hne (ceq_iff (lk_some h1).2 (stO_zero.1 h00) hv)⟩
                · rw [if_neg h0]
        · intro hx
          have hcv : ∃ w ∈ vl, nm w = nm c := by
            cases h1 : lk a (nm c) with
            | some x => exact ⟨x, (mem_ab x).2 (.inl (lk_some h1).1), (lk_some h1).2⟩
            | none =>
              cases h2 : lk b (nm c) with
              | some y => exact ⟨y, (mem_ab y).2 (.inr (lk_some h2).1), (lk_some h2).2⟩
              | none => rw [h1, h2] at hx; cases hx
          obtain ⟨z, hz, hzn⟩ := lasts_has vl [] (nm c) (.inl hcv)
          -- what stands there is what is looked for
          have hz2 : (nm z.2, z.2) ∈ vl.foldl putN [] := by
            have := (hin z hz).2
            rw [this]; exact hz
          obtain ⟨q1, _⟩ := hin _ hz2
          simp only at q1
          have hmax := lasts_max hs _ hz
          have hnz : nm z.2 = nm c := (hin z hz).2.trans hzn
          have hzc : z.2 = c := by
            cases h1 : lk a (nm c) with
            | none =>
              cases h2 : lk b (nm c) with
              | none => rw [h1, h2] at hx; cases hx
              | some d =>
                rw [h1, h2] at hx
                have hdc : d = c := Option.some.inj hx
                rcases (mem_ab z.2).1 q1 with h | h
                · exact absurd hnz (lk_none.1 h1 _ h)
                · have := lk_mem hb h
                  rw [hnz, h2] at this
                  exact (Option.some.inj this).symm.trans hdc
            | some x =>
              cases h2 : lk b (nm c) with
              | none =>
                rw [h1, h2, comb_none] at hx
                have hdc : x = c := Option.some.inj hx
                rcases (mem_ab z.2).1 q1 with h | h
                · have := lk_mem ha h
                  rw [hnz, h1] at this
                  exact (Option.some.inj this).symm.trans hdc
                · exact absurd hnz (lk_none.1 h2 _ h)
              | some y =>
                rw [h1, h2] at hx
                have hpc : pick x y = c := Option.some.inj hx
                have hnc := s3 _ x y h1 h2
                have hx1 := hmax x ((mem_ab x).2 (.inl (lk_some h1).1)) ((lk_some h1).2.trans hzn.symm)
                have hy1 := hmax y ((mem_ab y).2 (.inr (lk_some h2).1)) ((lk_some h2).2.trans hzn.symm)
                rw [← hpc]
                unfold pick
                rcases names q1 hnz h1 h2 with h | h
                · rw [h] at hy1 ⊢
                  rw [if_pos]
                  have := stO_anti y.Stamp x.Stamp
                  omega
                · rw [h] at hx1 ⊢
                  by_cases h0 : 0 ≤ stO x.Stamp y.Stamp
                  · rw [if_pos h0]
                    have h00 : stO x.Stamp y.Stamp = 0 := by omega
                    refine Classical.byContradiction fun hne => hnc ⟨h00, fun hv => hne (ceq_iff ((lk_some h1).2.trans (lk_some h2).2.symm) (stO_zero.1 h00) hv).symm⟩
                  · rw [if_neg h0]
          rw [hzc] at hz2
          exact hz2
      have hM8 : (vl.foldl putN []).length ≤ 8 := by
        have := nodup_few (ks_keys hks) (m := nm8) fun n hn => by
          obtain ⟨x, hx, rfl⟩ := List.mem_map.1 hn
          obtain ⟨q1, q2⟩ := hin x hx
          rw [← q2]
          exact good8 (kvl _ q1) (gall _ (v1.mem_iff.1 q1))
        rw [List.length_map] at this
        exact this
      have hndk : ((vl.foldl putN []).map (·.2)).Pairwise fun x y => nF x y ≠ 0 := by
        rw [List.pairwise_map]
        refine List.Pairwise.imp_of_mem ?_ hks
        intro x y hx hy hxy h0
        have := cmpB_zero.1 h0
        rw [(hin x hx).2, (hin y hy).2] at this
        exact nlt_ne hxy this
      have anti : ∀ x y, nF y x = - nF x y := fun x y => cmpB_anti _ _
      have hrng : ∀ (zo : List (List UInt8 × api_Cell)) (s : List api_Cell), s.length + zo.length ≤ 1000 → rngO z345 zo s = some (s ++ zo.map (·.2)) := by
        intro zo
        induction zo with
        | nil => intro s _; simp [rngO, z345]
        | cons e zo ih =>
          intro s hl
          have hx : z345 (some e) s = some (.inl (s ++ [e.2])) := by
            unfold z345
            simp only [gd]
            rw [lim_ok (by simp at hl ⊢; omega)]
            rfl
          rw [rngO, hx]
          simp only [Option.bind_some]
          rw [ih _ (by simp at hl ⊢; omega)]
          simp
      simp only [Option.bind_some]
      refine allPerm_intro fun zo hzo => ?_
      rw [hrng zo [] (by have := hzo.length_eq; simp; omega)]
      have hpz : (zo.map (·.2)).Perm ((vl.foldl putN []).map (·.2)) := hzo.map _
      obtain ⟨q, q0, q1, q2⟩ := gSF_ok (f := nF) (c := fun x y => some (nF x y)) (fun _ _ => rfl) anti (fun _ _ _ => cmpB_tr) (l := zo.map (·.2)) (by have := hzo.length_eq; simp; omega) ((hpz.pairwise_iff (fun {x y} h => by rw [anti x y]; omega)).2 hndk)
      have hqs : Srt q := q2
      have hqr : q = r := srt_ext hqs s1 fun c => by
        rw [(q1.trans hpz).mem_iff, List.mem_map]
        constructor
        · rintro ⟨x, hx, rfl⟩
          have h1 := (hin x hx).2
          have h2 : (nm x.2, x.2) ∈ vl.foldl putN [] := by rw [h1]; exact hx
          exact (lk_some ((hget x.2).1 h2)).1
        · intro hc
          exact ⟨_, (hget c).2 (lk_mem s1 hc), rfl⟩
      have hq500 : ¬ (500 : Int) < q.length := by have := q1.length_eq; have := hzo.length_eq; simp at *; omega
      simp only [Option.bind_some, List.nil_append, sortM2_eq, q0, gd, q1.length_eq, beq_self_eq_true, cond_true]
      rw [← q1.length_eq]
      simp only [hq500, decide_false, cond_false]
      rw [hqr]
end Go.Eng

/-
Twins, nearly always right ones: how much of them is visible; values by their names.
-/
namespace Go.Eng
open Go
set_option linter.unusedVariables false
set_option linter.unusedSimpArgs false

def rk8 (n : List UInt8) : Int := if n = [97] then 1 else if n = [97, 45, 49] then 2 else if n = [97, 46, 120] ∨ n = [97, 46, 120, 46, 112] then 3 else if n = [97, 46, 121] then 4 else if n = [97, 98] then 5 else 6
theorem rk8_all : (nm8.all fun n => nm8.all fun m => !(decide (Lib.compareBytes n m < 0)) || belB m n || belB n m || decide (rk8 n < rk8 m)) = true := by decide
theorem rk8_rng : (nm8.all fun n => decide (1 ≤ rk8 n) && decide (rk8 n ≤ 6)) = true := by decide
theorem vis_few {l : List api_Cell} (hs : Srt l) (hn : ∀ c ∈ l, nm c ∈ nm8) : (vis l).length ≤ 6 := by
  have hnm : ∀ p ∈ vis l, p.Name ∈ nm8 := by
    intro p hp
    obtain ⟨c, hc, _, rfl⟩ := vis_mem.1 hp
    exact hn c hc
  have := up_len (fun p : api_Prop => rk8 p.Name) (l := vis l) (lo := 1) (hi := 6) (List.Pairwise.imp_of_mem (fun {p q} hp hq hpq => by
    have h := List.all_eq_true.1 (List.all_eq_true.1 rk8_all _ (hnm p hp)) _ (hnm q hq)
    have hlt : Lib.compareBytes p.Name q.Name < 0 := hpq
    simp only [hlt, decide_true, vis_anti hp hq, vis_anti hq hp, Bool.not_true, Bool.false_or, decide_eq_true_eq] at h
    exact h) (vis_srt hs)) (fun p hp => by
    have := List.all_eq_true.1 rk8_rng _ (hnm p hp)
    simpa using this) (by omega)
  omega
theorem aget_put {β : Type} {l : List (List UInt8 × β)} (h : KS l) (k n : List UInt8) (v : β) : aget (aput l k v) n = if n = k then some v else aget l n := by
  split
  · rename_i e; subst e
    exact (aget_some (aput_ks h _ _)).2 (aput_mem.2 (.inl rfl))
  · rename_i e
    cases hg : aget l n with
    | none =>
      rw [aget_none] at hg ⊢
      intro x hx
      rcases aput_mem.1 hx with rfl | ⟨h1, _⟩
      · exact fun e2 => e e2.symm
      · exact hg x h1
    | some w =>
      have := (aget_some h).1 hg
      exact (aget_some (aput_ks h _ _)).2 (aput_mem.2 (.inr ⟨this, e⟩))
theorem aput_aput {β : Type} {l : List (List UInt8 × β)} (h : KS l) (k : List UInt8) (v w : β) : aput (aput l k v) k w = aput l k w := by
  refine kext (aput_ks (aput_ks h _ _) _ _) (aput_ks h _ _) fun x => ?_
  rw [aput_mem, aput_mem, aput_mem]
  constructor
  · rintro (h1 | ⟨h1 | h1, h2⟩)
    · exact .inl h1
    · exact absurd (by rw [h1]) h2
    · exact .inr h1
  · rintro (h1 | h1)
    · exact .inl h1
    · exact .inr ⟨.inr h1, h1.2⟩
theorem aget_puts {β : Type} (g : api_Prop → β) : ∀ (l : List api_Prop) (m : List (List UInt8 × β)), KS m → PSrt l → KS (l.foldl (fun m p => aput m p.Name (g p)) m) ∧ ∀ n, aget (l.foldl (fun m p => aput m p.Name (g p)) m) n = match l.find? (fun p => decide (p.Name = n)) with | some p => some (g p) | none => aget m n
  | [], m, h, _ => ⟨h, fun _ => rfl⟩
  | p :: l, m, h, hs => by
    obtain ⟨h1, h2⟩ := List.pairwise_cons.1 hs
    obtain ⟨k1, k2⟩ := aget_puts g l (aput m p.Name (g p)) (aput_ks h _ _) h2
    refine ⟨k1, fun n => ?_⟩
    rw [List.foldl_cons, k2, List.find?_cons, aget_put h]
    by_cases e : p.Name = n
    · have : l.find? (fun p => decide (p.Name = n)) = none := List.find?_eq_none.2 fun q hq => by
        simp only [decide_eq_true_eq]
        intro e2
        have := h1 q hq
        rw [e2, ← e] at this
        exact absurd this (nlt_irrefl _)
      rw [this]
      simp [e]
    · have e' : ¬ n = p.Name := fun h => e h.symm
      simp [e, e']
/-- what would have to be there of a property -/
def wantV (D : List api_Cell) (p : api_Prop) : api_Value := if skipB D p.Name then p.Value else zV
/-- what would have to be there under a name -/
def owV (D R : List api_Cell) (n : List UInt8) : api_Value := match (vis D).find? (fun p => decide (p.Name = n)) with
  | some p => p.Value
  | none => match (vis R).find? (fun p => decide (p.Name = n)) with
    | some p => wantV D p
    | none => zV
theorem owV_keep {D R : List api_Cell} (hD : Srt D) (hR : Srt R) (n : List UInt8) : (!eqV (owV D R n) (vo (vis R) n)) = keepB D R n ∧ (keepB D R n = true → owV D R n = vo (vis D) n) := by
  unfold owV keepB
  cases h1 : (vis D).find? (fun p => decide (p.Name = n)) with
  | some p =>
    have hp := List.mem_of_find?_eq_some h1
    have hk := vis_kind hp
    have hv : vo (vis D) n = p.Value := by unfold vo; rw [h1]
    simp only [hv, hk, decide_false, Bool.false_and, Bool.not_false, Bool.true_and]
    exact ⟨by rw [eqV_comm'], fun _ => trivial⟩
  | none =>
    have hv : vo (vis D) n = zV := by unfold vo; rw [h1]
    have hz : zV.Kind = 0 := rfl
    simp only [hv, hz, decide_true, Bool.true_and]
    cases h2 : (vis R).find? (fun p => decide (p.Name = n)) with
    | some p =>
      have hw : vo (vis R) n = p.Value := by unfold vo; rw [h2]
      have hn : p.Name = n := by simpa using List.find?_some h2
      unfold wantV
      simp only [hn, hw]
      cases skipB D n with
      | true => simp [eqV_self']
      | false => simp [eqV_comm']
    | none =>
      have hw : vo (vis R) n = zV := by unfold vo; rw [h2]
      simp only [hw, eqV_self', Bool.not_true, Bool.and_false]
      exact ⟨trivial, fun h => by cases h⟩
/-- a change that is right, as far as what it says goes -/
structure CG (c : api_Change) : Prop where
  name : z1170 c.Name = some true
  to_ : z1224 c.To = some 0
theorem hone2_ok {l : List api_Change} (hl : l.length ≤ 400) (hK : ∀ c ∈ l, KH c) : Ok (loopO (z1014 l) 0) (fun r => match r with | .inl _ => ∀ c ∈ l, CG c | .inr e => e ≠ 0) := by
  refine loop_ok (fun s : Int => ∃ i : Nat, s = (i : Int) ∧ i ≤ l.length ∧ ∀ j (h : j < i) (hl : j < l.length), CG l[j]) (fun s => ((l.length : Int) - s).toNat) ?_ ⟨0, rfl, by omega, fun j h => by omega⟩
  rintro _ ⟨i, rfl, i1, i2⟩
  unfold z1014
  by_cases hi : i < l.length
  · have hc : (i : Int) < l.length := by omega
    have w1 : IntKind.wrap .i64 ((i : Int) + 1) = ((i + 1 : Nat) : Int) := by rw [wrap64 (by omega) (by omega)]; omega
    have hKi := hK _ (List.getElem_mem hi)
    obtain ⟨b, h1, h2⟩ := okName_spec (List.all_eq_true.1 nm18_same _ hKi.name)
    obtain ⟨w, h3⟩ := hKi.frm
    obtain ⟨v, h4⟩ := hKi.to_
    have e1 : z1224 (api_Value.mk l[i].From.Kind l[i].From.Flag l[i].From.Number l[i].From.Words) = some (vfI l[i].From w) := vf_own h3
    have e3 : z1224 (api_Value.mk l[i].To.Kind l[i].To.Flag l[i].To.Number l[i].To.Words) = some (vfI l[i].To v) := vf_own h4
    simp only [hc, decide_true, cond_true, at_nat hi, Option.bind_some, h1, e1, e3, First_ab, w1]
    refine .cond (fun _ => .some (by simp)) fun hb => .cond (fun hz => .some (by simpa using hz)) fun hz => .cond (fun _ => .some (by simp)) fun _ => ?_
    have hb : b = true := by simpa using hb
    have hz : or0 (vfI l[i].From w) (vfI l[i].To v) = 0 := by simpa using hz
    have cg : CG l[i] := ⟨by rw [h1, hb], by rw [vf_own h4, (or0_zero.1 hz).2]⟩
    have gcs : ∀ j (h : j < i + 1) (hl : j < l.length), CG l[j] := fun j h hjl => by
      by_cases hj : j < i
      · exact i2 j hj hjl
      · have : j = i := by omega
        subst this; exact cg
    unfold z1019
    cases i with
    | zero =>
      simp only [show ¬ (0 : Int) < ((0 : Nat) : Int) by omega, decide_false, cond_false, Option.bind_some]
      exact .some ⟨⟨1, rfl, by omega, gcs⟩, by omega⟩
    | succ i =>
      have hp0 : (0 : Int) < ((i + 1 : Nat) : Int) := by omega
      have w : IntKind.wrap .i64 (((i + 1 : Nat) : Int) - 1) = (i : Int) := by rw [wrap64 (by omega) (by omega)]; omega
      simp only [hp0, decide_true, cond_true, w, at_nat (show i < l.length by omega), Option.bind_some]
      exact .cond (fun _ => .some (by simp)) fun hlt => .some ⟨⟨i + 1 + 1, rfl, by omega, gcs⟩, by omega⟩
  · have hc : ¬ (i : Int) < l.length := by omega
    simp only [hc, decide_false, cond_false]
    refine .some fun c hc => ?_
    obtain ⟨j, hj, rfl⟩ := List.mem_iff_getElem.1 hc
    exact i2 j (by omega) hj
theorem hgood {l : List api_Change} (hl : l.length ≤ 400) (hK : ∀ c ∈ l, KH c) (h0 : z1011 l = some 0) : ∀ c ∈ l, CG c := by
  have h500 : ¬ (1000 : Int) < l.length := by omega
  unfold z1011 at h0
  simp only [h500, decide_false, cond_false] at h0
  obtain ⟨r, h1, h2⟩ := hone2_ok hl hK
  rw [h1] at h0
  cases r with
  | inr e =>
    have h0 : some e = some 0 := h0
    exact absurd (Option.some.inj h0) h2
  | inl _ => exact h2
end Go.Eng

