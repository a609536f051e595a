/-
Loops over the elements of a list; keys.
-/
import Derived.Test.YteniijgeaofngaaGenF
import Derived.Test.YteniijgeaofngaaPlainA
namespace Go.Eng
open Go
set_option linter.unusedVariables false
set_option linter.unusedSimpArgs false

/-- The first answer of the elements from number k on. -/
def scan {α ρ : Type} (g : Nat → α → Option ρ) : Nat → List α → Option ρ
  | _, [] => none
  | k, x :: xs => match g k x with
    | some r => some r
    | none => scan g (k + 1) xs

theorem drop_get {α : Type} {l : List α} {i : Nat} (h : i < l.length) : l.drop i = l[i] :: l.drop (i + 1) := List.drop_eq_getElem_cons h

/-- A loop over a list that ends at the first element with an answer. -/
theorem range_loop {α ρ : Type} {l : List α} {f : Int → Option (Int ⊕ ρ)} (g : Nat → α → Option ρ) (done : ρ) (hl : (l.length : Int) ≤ 9223372036854775807)
    (hf : ∀ (i : Nat) (h : i < l.length), f i = some (match g i l[i] with | none => .inl (IntKind.wrap .i64 (i + 1)) | some r => .inr r)) (hd : f l.length = some (.inr done)) :
    loopO f 0 = some ((scan g 0 l).getD done) := by
  have key : ∀ (n i : Nat), l.length - i = n → i ≤ l.length → loopO f i = some ((scan g i (l.drop i)).getD done) := by
    intro n
    induction n with
    | zero =>
      intro i h1 h2
      have : i = l.length := by omega
      subst this
      rw [loopO_eq, hd, List.drop_length]
      rfl
    | succ n ih =>
      intro i h1 h2
      have hi : i < l.length := by omega
      rw [loopO_eq, hf i hi, drop_get hi]
      simp only [scan]
      cases hg : g i l[i] with
      | some r => rfl
      | none =>
        simp only [Option.bind_some]
        rw [wrap64 (by omega) (by omega)]
        exact ih (i + 1) (by omega) (by omega)
  exact key l.length 0 (by omega) (by omega)

theorem scan_none {α ρ : Type} {g : Nat → α → Option ρ} : ∀ {l : List α} {k : Nat}, scan g k l = none ↔ ∀ (i : Nat) (x : α), l[i]? = some x → g (k + i) x = none
  | [], k => by simp [scan]
  | y :: l, k => by
    simp only [scan]
    cases hg : g k y with
    | some r =>
      simp only [reduceCtorEq, false_iff]
      intro h
      have := h 0 y rfl
      rw [Nat.add_zero, hg] at this
      cases this
    | none =>
      simp only
      rw [scan_none]
      constructor
      · intro h i x hi
        cases i with
        | zero => simp at hi; subst hi; exact hg
        | succ i => rw [show k + (i + 1) = k + 1 + i by omega]; exact h i x (by simpa using hi)
      · intro h i x hi
        rw [show k + 1 + i = k + (i + 1) by omega]
        exact h (i + 1) x (by simpa using hi)
theorem scan_congr {α ρ : Type} {g g' : Nat → α → Option ρ} : ∀ {l : List α} {k : Nat}, (∀ (i : Nat) (x : α), l[i]? = some x → g (k + i) x = g' (k + i) x) → scan g k l = scan g' k l
  | [], _, _ => rfl
  | y :: l, k, h => by
    simp only [scan]
    have h0 := h 0 y rfl
    rw [Nat.add_zero] at h0
    rw [h0]
    cases g' k y with
    | some r => rfl
    | none =>
      refine scan_congr (l := l) (k := k + 1) fun i x hi => ?_
      have := h (i + 1) x (by simpa using hi)
      rw [show k + (i + 1) = k + 1 + i by omega] at this
      exact this
theorem scan_all {α : Type} {p : α → Bool} {b : Bool} : ∀ {l : List α} {k : Nat}, (scan (fun _ x => cond (p x) none (some b)) k l).getD (!b) = cond (l.all p) (!b) b
  | [], _ => by simp [scan]
  | y :: l, k => by
    simp only [scan, List.all_cons]
    cases p y with
    | true => simp only [Bool.true_and, cond_true]; exact scan_all (l := l)
    | false => simp

/-! ### Keys -/
def keyC (c : UInt8) : Bool := (97 ≤ c.toNat && c.toNat ≤ 122) || (48 ≤ c.toNat && c.toNat ≤ 57) || c.toNat == 45 || c.toNat == 95
def keyB (s : List UInt8) : Bool := match s with
  | [] => false
  | c :: l => decide (l.length < 40) && (97 ≤ c.toNat && c.toNat ≤ 122) && (c :: l).all keyC

theorem u8_lt (c : UInt8) : c.toNat < 256 := c.toNat_lt

theorem u8_all {p : UInt8 → Bool} (h : ((List.range 256).all fun n => p (UInt8.ofNat n)) = true) (c : UInt8) : p c = true := by
  have := List.all_eq_true.1 h c.toNat (List.mem_range.2 (u8_lt c))
  simpa using this
theorem Key_x3 (c : UInt8) : base_Key_x3 c = some (!keyC c) := by
  have := u8_all (p := fun c => decide (base_Key_x3 c = some (!keyC c))) (by decide +kernel) c
  simpa using this
theorem Key_x2 (s : List UInt8) (hs : (s.length : Int) ≤ 9223372036854775807) : loopO (base_Key_x2 s) 0 = some (cond (s.all keyC) (.inl ()) (.inr ())) := by
  rw [range_loop (l := s) (fun _ c => cond (keyC c) none (some (.inr ()))) (.inl ()) hs]
  · congr 1
    generalize 0 = k
    induction s generalizing k with
    | nil => rfl
    | cons c s ih =>
      simp only [scan, List.all_cons]
      cases keyC c with
      | true => simp only [cond_true, Bool.true_and]; exact ih (by simp at hs; omega) (k + 1)
      | false => rfl
  · intro i hi
    unfold base_Key_x2
    rw [at_nat hi]
    have : ((i : Int) < s.length) := by omega
    simp only [this, decide_true, cond_true, Option.bind_some, Key_x3]
    cases keyC s[i] <;> rfl
  · unfold base_Key_x2
    simp
theorem Key_eq (s : List UInt8) (hs : (s.length : Int) ≤ 9223372036854775807) : base_Key s = some (keyB s) := by
  unfold base_Key base_Key_x1
  cases s with
  | nil => simp [keyB]
  | cons c l =>
    rw [Key_x2 _ hs]
    have h0 : at? (c :: l) 0 = some c := rfl
    simp only [reduceCtorEq, decide_false, cond_false, h0, Option.bind_some]
    unfold keyB
    have h40 : ((40 : Int) < ((c :: l).length : Int)) ↔ ¬ l.length < 40 := by simp; omega
    by_cases h1 : l.length < 40
    · have h1' : ¬ ((40 : Int) < ((c :: l).length : Int)) := by rw [h40]; simpa using h1
      simp only [h1', decide_false, cond_false, h1, decide_true, Bool.true_and]
      by_cases h2 : (c.toNat : Int) < 97
      · have : ¬ 97 ≤ c.toNat := by omega
        simp [h2, this]
      · by_cases h3 : (122 : Int) < c.toNat
        · have : ¬ c.toNat ≤ 122 := by omega
          simp [h2, h3, this]
        · have g1 : 97 ≤ c.toNat := by omega
          have g2 : c.toNat ≤ 122 := by omega
          simp only [h2, decide_false, cond_false, h3, Option.bind_some, g1, g2, decide_true, Bool.and_self, Bool.true_and]
          cases (c :: l).all keyC <;> rfl
    · have h1' : ((40 : Int) < ((c :: l).length : Int)) := by rw [h40]; exact h1
      simp only [h1', h1, decide_true, decide_false, cond_true, Option.bind_some, Bool.false_and]
end Go.Eng
