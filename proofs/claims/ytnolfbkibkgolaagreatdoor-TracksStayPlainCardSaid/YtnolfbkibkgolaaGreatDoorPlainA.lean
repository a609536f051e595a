/-
What the plain functions of the law TracksStayPlain answer, part 1.
-/
import Derived.Test.YtnolfbkibkgolaaGreatDoorGenF
import Derived.KernelRfl
import Derived.Test.YtnolfbkibkgolaaGreatDoorEngV
/-
Plain functions: what they answer, in total. Loops by an invariant and a measure.
-/
namespace Go.Eng
open Go
set_option linter.unusedVariables false
set_option linter.unusedSimpArgs false

def Ok {α : Type} (x : Option α) (P : α → Prop) : Prop := ∃ r, x = some r ∧ P r
section
variable {α β σ ρ : Type} {P Q : α → Prop} {R : β → Prop}
theorem Ok.some {r : α} (h : P r) : Ok (some r) P := ⟨r, rfl, h⟩
theorem Ok.mono {x : Option α} (h : Ok x P) (hq : ∀ r, P r → Q r) : Ok x Q := let ⟨r, h1, h2⟩ := h; ⟨r, h1, hq r h2⟩
theorem Ok.bind {x : Option α} {f : α → Option β} (h : Ok x P) (hf : ∀ r, P r → Ok (f r) R) : Ok (x.bind f) R := by
  obtain ⟨r, rfl, hr⟩ := h
  exact hf r hr
theorem Ok.cond {b : Bool} {x y : Option α} (ht : b = true → Ok x P) (hf : b = false → Ok y P) : Ok (cond b x y) P := by
  cases b
  · exact hf rfl
  · exact ht rfl
theorem Ok.gd {b : Bool} {x : Option α} (hb : b = true) (h : Ok x P) : Ok (gd b x) P := by
  subst hb; exact h
theorem Ok.eq {x : Option α} {r : α} (h : Ok x fun y => y = r) : x = Option.some r := by
  obtain ⟨y, h1, h2⟩ := h
  rw [h1, h2]
theorem Ok.of_eq {x : Option α} {r : α} (h : x = Option.some r) (hp : P r) : Ok x P := ⟨r, h, hp⟩

theorem loop_ok {f : σ → Option (σ ⊕ ρ)} {Q : ρ → Prop} (I : σ → Prop) (μ : σ → Nat)
    (step : ∀ s, I s → Ok (f s) fun x => match x with | .inl s' => I s' ∧ μ s' < μ s | .inr r => Q r) {s : σ} (h : I s) : Ok (loopO f s) Q := by
  generalize hn : μ s = n
  induction n using Nat.strongRecOn generalizing s with
  | _ n ih =>
    obtain ⟨x, h1, h2⟩ := step s h
    cases x with
    | inl s' =>
      obtain ⟨h3, h4⟩ := h2
      obtain ⟨r, h5, h6⟩ := ih (μ s') (by omega) h3 rfl
      refine ⟨r, ?_, h6⟩
      rw [loopO_eq, h1]
      exact h5
    | inr r =>
      refine ⟨r, ?_, h2⟩
      rw [loopO_eq, h1]
      rfl

theorem at_lt {l : List α} {n : Int} (h : 0 ≤ n) (h2 : n < l.length) : at? l n = Option.some (l[n.toNat]'(by omega)) := by
  unfold at?
  rw [if_pos h, List.getElem?_eq_getElem]
theorem at_nat {l : List α} {n : Nat} (h : n < l.length) : at? l (n : Int) = Option.some l[n] := by
  rw [at_lt (by omega) (by omega)]
  simp
theorem at_ok {l : List α} {n : Int} (h : 0 ≤ n) (h2 : n < l.length) : Ok (at? l n) (fun y => l[n.toNat]? = Option.some y) := by
  refine ⟨_, at_lt h h2, ?_⟩
  rw [List.getElem?_eq_getElem]
theorem at_mem {l : List α} {n : Int} (h : 0 ≤ n) (h2 : n < l.length) : Ok (at? l n) (fun y => y ∈ l) := by
  refine (at_ok h h2).mono fun y hy => List.mem_of_getElem? hy
end

/-! ### Integers of 64 bits -/
def I64 (n : Int) : Prop := -9223372036854775808 ≤ n ∧ n ≤ 9223372036854775807
theorem wrap64 {n : Int} (h : -9223372036854775808 ≤ n) (h2 : n ≤ 9223372036854775807) : IntKind.wrap .i64 n = n := by
  unfold IntKind.wrap
  simp [IntKind.min, IntKind.max, IntKind.bits, IntKind.signed]
  omega
theorem tmod_nonneg {a b : Int} (h : 0 ≤ a) : 0 ≤ a.tmod b := Int.tmod_nonneg b h
theorem tmod_lt' {a b : Int} (h : 0 < b) : a.tmod b < b := Int.tmod_lt_of_pos a h
theorem lim_eq : LIM = 137438953472 := by decide
theorem ble_lim {n : Nat} (h : n ≤ 137438953472) : Nat.ble n LIM = true := by rw [Nat.ble_eq, lim_eq]; exact h
end Go.Eng

/-
Loops over the elements of a list; keys.
-/
namespace Go.Eng
open Go
set_option linter.unusedVariables false
set_option linter.unusedSimpArgs false

/-- The first answer of the elements from number k on. -/
def scan {α ρ : Type} (g : Nat → α → Option ρ) : Nat → List α → Option ρ
  | _, [] => none
  | k, x :: xs => match g k x with
    | some r => some r
    | none => scan g (k + 1) xs

theorem drop_get {α : Type} {l : List α} {i : Nat} (h : i < l.length) : l.drop i = l[i] :: l.drop (i + 1) := List.drop_eq_getElem_cons h

/-- A loop over a list that ends at the first element with an answer. -/
theorem range_loop {α ρ : Type} {l : List α} {f : Int → Option (Int ⊕ ρ)} (g : Nat → α → Option ρ) (done : ρ) (hl : (l.length : Int) ≤ 9223372036854775807)
    (hf : ∀ (i : Nat) (h : i < l.length), f i = some (match g i l[i] with | none => .inl (IntKind.wrap .i64 (i + 1)) | some r => .inr r)) (hd : f l.length = some (.inr done)) :
    loopO f 0 = some ((scan g 0 l).getD done) := by
  have key : ∀ (n i : Nat), l.length - i = n → i ≤ l.length → loopO f i = some ((scan g i (l.drop i)).getD done) := by
    intro n
    induction n with
    | zero =>
      intro i h1 h2
      have : i = l.length := by omega
      subst this
      rw [loopO_eq, hd, List.drop_length]
      rfl
    | succ n ih =>
      intro i h1 h2
      have hi : i < l.length := by omega
      rw [loopO_eq, hf i hi, drop_get hi]
      simp only [scan]
      cases hg : g i l[i] with
      | some r => rfl
      | none =>
        simp only [Option.bind_some]
        rw [wrap64 (by omega) (by omega)]
        exact ih (i + 1) (by omega) (by omega)
  exact key l.length 0 (by omega) (by omega)

/-! ### Keys -/
def keyC (c : UInt8) : Bool := (97 ≤ c.toNat && c.toNat ≤ 122) || (48 ≤ c.toNat && c.toNat ≤ 57) || c.toNat == 45 || c.toNat == 95
def keyB (s : List UInt8) : Bool := match s with
  | [] => false
  | c :: l => decide (l.length < 40) && (97 ≤ c.toNat && c.toNat ≤ 122) && (c :: l).all keyC

theorem u8_lt (c : UInt8) : c.toNat < 256 := c.toNat_lt

theorem u8_all {p : UInt8 → Bool} (h : ((List.range 256).all fun n => p (UInt8.ofNat n)) = true) (c : UInt8) : p c = true := by
  have := List.all_eq_true.1 h c.toNat (List.mem_range.2 (u8_lt c))
  simpa using this
theorem Key_x3 (c : UInt8) : base_Key_x3 c = some (!keyC c) := by
  have := u8_all (p := fun c => decide (base_Key_x3 c = some (!keyC c))) (by decide +kernel) c
  simpa using this
theorem Key_x2 (s : List UInt8) (hs : (s.length : Int) ≤ 9223372036854775807) : loopO (base_Key_x2 s) 0 = some (cond (s.all keyC) (.inl ()) (.inr ())) := by
  rw [range_loop (l := s) (fun _ c => cond (keyC c) none (some (.inr ()))) (.inl ()) hs]
  · congr 1
    generalize 0 = k
    induction s generalizing k with
    | nil => rfl
    | cons c s ih =>
      simp only [scan, List.all_cons]
      cases keyC c with
      | true => simp only [cond_true, Bool.true_and]; exact ih (by simp at hs; omega) (k + 1)
      | false => rfl
  · intro i hi
    unfold base_Key_x2
    rw [at_nat hi]
    have : ((i : Int) < s.length) := by omega
    simp only [this, decide_true, cond_true, Option.bind_some, Key_x3]
    cases keyC s[i] <;> rfl
  · unfold base_Key_x2
    simp
theorem Key_eq (s : List UInt8) (hs : (s.length : Int) ≤ 9223372036854775807) : base_Key s = some (keyB s) := by
  unfold base_Key base_Key_x1
  cases s with
  | nil => simp [keyB]
  | cons c l =>
    rw [Key_x2 _ hs]
    have h0 : at? (c :: l) 0 = some c := rfl
    simp only [reduceCtorEq, decide_false, cond_false, h0, Option.bind_some]
    unfold keyB
    have h40 : ((40 : Int) < ((c :: l).length : Int)) ↔ ¬ l.length < 40 := by simp; omega
    by_cases h1 : l.length < 40
    · have h1' : ¬ ((40 : Int) < ((c :: l).length : Int)) := by rw [h40]; simpa using h1
      simp only [h1', decide_false, cond_false, h1, decide_true, Bool.true_and]
      by_cases h2 : (c.toNat : Int) < 97
      · have : ¬ 97 ≤ c.toNat := by omega
        simp [h2, this]
      · by_cases h3 : (122 : Int) < c.toNat
        · have : ¬ c.toNat ≤ 122 := by omega
          simp [h2, h3, this]
        · have g1 : 97 ≤ c.toNat := by omega
          have g2 : c.toNat ≤ 122 := by omega
          simp only [h2, decide_false, cond_false, h3, Option.bind_some, g1, g2, decide_true, Bool.and_self, Bool.true_and]
          cases (c :: l).all keyC <;> rfl
    · have h1' : ((40 : Int) < ((c :: l).length : Int)) := by rw [h40]; exact h1
      simp only [h1', h1, decide_true, decide_false, cond_true, Option.bind_some, Bool.false_and]
end Go.Eng

/-
Sorting of few elements, and what is left of equal ones, for all kinds of elements.
-/
namespace Go.Eng
open Go
set_option linter.unusedVariables false
set_option linter.unusedSimpArgs false

theorem loop_in {σ ρ : Type} {f : σ → Option (σ ⊕ ρ)} {s s' : σ} (h : f s = some (.inl s')) : loopO f s = loopO f s' := by rw [loopO_eq, h]; rfl
theorem loop_out {σ ρ : Type} {f : σ → Option (σ ⊕ ρ)} {s : σ} {r : ρ} (h : f s = some (.inr r)) : loopO f s = some r := by rw [loopO_eq, h]; rfl

section
variable {α : Type}
/-! ### Insertion, as the code has it -/
def All (p : α → Prop) (l : List α) : Prop := ∀ x ∈ l, p x
theorem All.nil {p : α → Prop} : All p [] := fun _ h => nomatch h
theorem All.set {p : α → Prop} {l : List α} (h : All p l) {i : Nat} {x : α} (hx : p x) : All p (l.set i x) := by
  intro y hy
  rcases List.mem_or_eq_of_mem_set hy with hy | rfl
  · exact h y hy
  · exact hx
theorem All.at {p : α → Prop} {l : List α} (h : All p l) {i : Nat} (hi : i < l.length) : p l[i] := h _ (List.getElem_mem hi)

/-! ### Equal ones, as the code has it -/
end
end Go.Eng

/-
Small checks; the order of measurements.
-/
namespace Go.Eng
open Go
set_option linter.unusedVariables false
set_option linter.unusedSimpArgs false

theorem Out_eq (n low high : Int) : base_Out n low high = some (decide (n < low) || decide (high < n)) := by
  unfold base_Out base_Out_x1
  by_cases h : n < low <;> simp [h]
theorem Moment_eq (n : Int) : base_Moment n = some (decide (0 ≤ n) && decide (n ≤ 345686399999)) := by
  unfold base_Moment
  rw [Out_eq]
  simp only [Option.bind_some]
  congr 1
  rw [Bool.eq_iff_iff]
  simp
/-! ### Orders -/
def cmpI (a b : Int) : Int := if a < b then -1 else if b < a then 1 else 0
def or0 (a b : Int) : Int := if a = 0 then b else a
theorem cmpB_self : ∀ a : List UInt8, Lib.compareBytes a a = 0
  | [] => rfl
  | x :: a => by
    unfold Lib.compareBytes
    simp [UInt8.lt_irrefl, cmpB_self a]
end Go.Eng

/-
Checks of measurements and series, both ways.
-/
namespace Go.Eng
open Go
set_option linter.unusedVariables false
set_option linter.unusedSimpArgs false

theorem cmpInt_eq (a b : Int) : cmp_Compare_int a b = some (cmpI a b) := by
  unfold cmp_Compare_int cmp_isNaN_int cmpI
  by_cases h1 : a < b
  · simp [h1]
  · by_cases h2 : b < a <;> simp [h1, h2]
theorem Or_eq (l : List Int) (hl : (l.length : Int) ≤ 9223372036854775807) : cmp_Or_int l = some ((l.find? fun x => !decide (x = 0)).getD 0) := by
  unfold cmp_Or_int
  rw [range_loop (l := l) (fun _ x => cond (!decide (x = 0)) (some (.inr x)) none) (.inl ()) hl]
  · simp only [Option.bind_some]
    generalize 0 = k
    induction l generalizing k with
    | nil => rfl
    | cons c s ih =>
      simp only [scan, List.find?_cons]
      by_cases hc : c = 0
      · simp only [hc, decide_true, Bool.not_true, cond_false]
        exact ih (by simp at hl; omega) (k + 1)
      · simp [hc]
  · intro i hi
    unfold cmp_Or_int_x1
    rw [at_nat hi]
    have : ((i : Int) < l.length) := by omega
    simp only [this, decide_true, cond_true, Option.bind_some]
    cases (!decide (l[i] = 0)) <;> rfl
  · unfold cmp_Or_int_x1
    simp
/-! ### Check -/
end Go.Eng

/-
Fixes: checks, orders, merging, those of a device.
-/
namespace Go.Eng
open Go
set_option linter.unusedVariables false
set_option linter.unusedSimpArgs false

def fOrd (a b : api_Fix) : Int := or0 (Lib.compareBytes a.Device b.Device) (cmpI a.At b.At)
theorem or2_eq (a b : Int) : cmp_Or_int [a, b] = some (or0 a b) := by
  rw [Or_eq _ (by simp)]
  unfold or0
  by_cases ha : a = 0 <;> by_cases hb : b = 0 <;> simp [ha, hb]
theorem fbyDevice_eq (a b : api_Fix) : place_byDevice a b = some (fOrd a b) := by
  unfold place_byDevice strings_Compare bytealg_CompareString
  simp only [Option.bind_some, cmpInt_eq, or2_eq]
  rfl
/-! ### The library's functions are those for all kinds -/
/-! ### Checks -/
theorem isSpot_eq (s : api_Spot) : place_isSpot s = some ((decide (-10000 ≤ s.X) && decide (s.X ≤ 10000)) && (decide (-10000 ≤ s.Y) && decide (s.Y ≤ 10000))) := by
  unfold place_isSpot place_isSpot_x1
  simp only [Out_eq, Option.bind_some]
  by_cases h1 : s.X < -10000 <;> by_cases h2 : 10000 < s.X <;> by_cases h3 : s.Y < -10000 <;> by_cases h4 : 10000 < s.Y <;> simp [h1, h2, h3, h4] <;> omega
/-! ### Merging -/
/-! ### Those of a device -/
end Go.Eng

/-
Plane geometry in whole numbers: parity and turns of a fence around a spot.
-/
namespace Go.Eng.Geo
/-- twice the area of the triangle a b s -/
def sd (ax ay bx b_y sx sy : Int) : Int := (bx - ax) * (sy - ay) - (b_y - ay) * (sx - ax)
def onb (ax ay bx b_y sx sy : Int) : Prop := sd ax ay bx b_y sx sy = 0 ∧ min ax bx ≤ sx ∧ sx ≤ max ax bx ∧ min ay b_y ≤ sy ∧ sy ≤ max ay b_y
def meetsP (ax ay bx b_y cx cy dx dy : Int) : Prop :=
  onb ax ay bx b_y cx cy ∨ onb ax ay bx b_y dx dy ∨ onb cx cy dx dy ax ay ∨ onb cx cy dx dy bx b_y ∨
  (sd ax ay bx b_y cx cy * sd ax ay bx b_y dx dy < 0 ∧ sd cx cy dx dy ax ay * sd cx cy dx dy bx b_y < 0)

theorem cnn {k x : Int} (hk : 0 < k) (h : 0 ≤ k * x) : 0 ≤ x := by
  by_cases h0 : 0 ≤ x
  · exact h0
  · have := Int.mul_neg_of_pos_of_neg hk (show x < 0 by omega); omega
theorem pp {a b : Int} (h1 : 0 < a) (h2 : 0 < b) : 0 < a * b := Int.mul_pos h1 h2
theorem pn {a b : Int} (h1 : 0 < a) (h2 : b < 0) : a * b < 0 := Int.mul_neg_of_pos_of_neg h1 h2
theorem nn {a b : Int} (h1 : a < 0) (h2 : b < 0) : 0 < a * b := Int.mul_pos_of_neg_of_neg h1 h2
theorem PP {a b : Int} (h1 : 0 ≤ a) (h2 : 0 ≤ b) : 0 ≤ a * b := Int.mul_nonneg h1 h2
theorem NN {a b : Int} (h1 : a ≤ 0) (h2 : b ≤ 0) : 0 ≤ a * b := Int.mul_nonneg_of_nonpos_of_nonpos h1 h2

/-- the part of the plane to the right of the way that rises from s to t -/
def reg (sx sy tx ty cx cy : Int) : Prop := sy < cy ∧ cy ≤ ty ∧ sd sx sy tx ty cx cy < 0
/-- the edge from a to b (a not the higher one) goes over the height of s, to its right -/
def hitU (ax ay bx b_y sx sy : Int) : Prop := ay ≤ sy ∧ sy < b_y ∧ 0 < sd ax ay bx b_y sx sy

end Go.Eng.Geo

/-
Plane geometry in whole numbers: parity and turns of a fence around a spot.
-/
namespace Go.Eng.Geo
theorem zero_or {a b : Int} (h : a * b = 0) : a = 0 ∨ b = 0 := Int.mul_eq_zero.1 h

theorem onb_refl_l (ax ay bx b_y : Int) : onb ax ay bx b_y ax ay := ⟨by unfold sd; grind, by omega⟩
theorem onb_refl_r (ax ay bx b_y : Int) : onb ax ay bx b_y bx b_y := ⟨by unfold sd; grind, by omega⟩

end Go.Eng.Geo

/-
Plane geometry in whole numbers: parity and turns of a fence around a spot.
-/
namespace Go.Eng.Geo
abbrev Pt := Int × Int
instance (ax ay bx b_y sx sy : Int) : Decidable (hitU ax ay bx b_y sx sy) := by unfold hitU; infer_instance
instance (sx sy tx ty cx cy : Int) : Decidable (reg sx sy tx ty cx cy) := by unfold reg; infer_instance
def lo (e : Pt × Pt) : Pt := if e.1.2 ≤ e.2.2 then e.1 else e.2
def hi (e : Pt × Pt) : Pt := if e.1.2 ≤ e.2.2 then e.2 else e.1
theorem cle {k a b : Int} (hk : 0 < k) (h : k * a ≤ k * b) : a ≤ b := by
  have : 0 ≤ k * (b - a) := by rw [Int.mul_sub]; omega
  have := cnn hk this; omega
theorem mle {k a b : Int} (hk : 0 < k) (h : a ≤ b) : k * a ≤ k * b := Int.mul_le_mul_of_nonneg_left h (by omega)
theorem sd_sc (k ax ay bx b_y sx sy : Int) : sd (k * ax) (k * ay) (k * bx) (k * b_y) (k * sx) (k * sy) = (k * k) * sd ax ay bx b_y sx sy := by unfold sd; grind
theorem onb_sc {k ax ay bx b_y sx sy : Int} (hk : 0 < k) (h : onb (k * ax) (k * ay) (k * bx) (k * b_y) (k * sx) (k * sy)) : onb ax ay bx b_y sx sy := by
  obtain ⟨h1, h2, h3, h4, h5⟩ := h
  rw [sd_sc] at h1
  have q : sd ax ay bx b_y sx sy = 0 := by
    rcases zero_or h1 with h | h
    · have := pp hk hk; omega
    · exact h
  refine ⟨q, ?_, ?_, ?_, ?_⟩
  · have : k * ax ≤ k * sx ∨ k * bx ≤ k * sx := by omega
    rcases this with h | h <;> have := cle hk h <;> omega
  · have : k * sx ≤ k * ax ∨ k * sx ≤ k * bx := by omega
    rcases this with h | h <;> have := cle hk h <;> omega
  · have : k * ay ≤ k * sy ∨ k * b_y ≤ k * sy := by omega
    rcases this with h | h <;> have := cle hk h <;> omega
  · have : k * sy ≤ k * ay ∨ k * sy ≤ k * b_y := by omega
    rcases this with h | h <;> have := cle hk h <;> omega
end Go.Eng.Geo

/-
Plane geometry in whole numbers: parity and turns of a fence around a spot.
-/
namespace Go.Eng.Geo
/-- the spot of the edge f at a height, times the edge's height -/
def at_ (f : Pt × Pt) (y : Int) : Pt := (((hi f).2 - (lo f).2) * (lo f).1 + ((hi f).1 - (lo f).1) * (y - (lo f).2), ((hi f).2 - (lo f).2) * y)

end Go.Eng.Geo

/-
Plane geometry in whole numbers: parity and turns of a fence around a spot.
-/
namespace Go.Eng.Geo
theorem sq_nn (x : Int) : 0 ≤ x * x := by
  by_cases h : 0 ≤ x
  · exact PP h h
  · exact NN (by omega) (by omega)

end Go.Eng.Geo

/-
Plane geometry in whole numbers: parity and turns of a fence around a spot.
-/
namespace Go.Eng.Geo
end Go.Eng.Geo

/-
Plane geometry in whole numbers: parity and turns of a fence around a spot.
-/
namespace Go.Eng.Geo
end Go.Eng.Geo

/-
Plane geometry in whole numbers: parity and turns of a fence around a spot.
-/
namespace Go.Eng.Geo
theorem near {ax ay bx b_y px py M : Int} (hM : 2 ≤ M) (hw : (bx - ax).natAbs < M) (hn : ¬ onb ax ay bx b_y px py) :
    ¬ meetsP (M * ax) (M * ay) (M * bx) (M * b_y) (M * px) (M * py) (M * px) (M * py + 1) := by
  have h0 : 0 < M := by omega
  have e1 : sd (M * ax) (M * ay) (M * bx) (M * b_y) (M * px) (M * py) = M * (M * sd ax ay bx b_y px py) := by unfold sd; grind
  have e2 : sd (M * ax) (M * ay) (M * bx) (M * b_y) (M * px) (M * py + 1) = M * (M * sd ax ay bx b_y px py + (bx - ax)) := by unfold sd; grind
  have e3 : sd (M * px) (M * py) (M * px) (M * py + 1) (M * ax) (M * ay) = M * (px - ax) := by unfold sd; grind
  have e4 : sd (M * px) (M * py) (M * px) (M * py + 1) (M * bx) (M * b_y) = M * (px - bx) := by unfold sd; grind
  have hle : ∀ x y : Int, M * x ≤ M * y + 1 → x ≤ y := by
    intro x y h
    by_cases q : x ≤ y
    · exact q
    · have := mle h0 (show y + 1 ≤ x by omega)
      rw [Int.mul_add] at this; omega
  have hle' : ∀ x y : Int, M * x + 1 ≤ M * y → x ≤ y := fun x y h => cle h0 (by omega)
  have hn0 : ¬ (ax = px ∧ ay = py) := fun h => hn (by rw [h.1, h.2]; exact onb_refl_l ..)
  have hn1 : ¬ (bx = px ∧ b_y = py) := fun h => hn (by rw [h.1, h.2]; exact onb_refl_r ..)
  rintro (h | h | h | h | ⟨h, h'⟩)
  · exact hn (onb_sc h0 h)
  · obtain ⟨c, b1, b2, b3, b4⟩ := h
    rw [e2] at c
    have c : M * sd ax ay bx b_y px py + (bx - ax) = 0 := by
      rcases zero_or c with q | q
      · omega
      · exact q
    have s0 : sd ax ay bx b_y px py = 0 := by
      by_cases q : 1 ≤ sd ax ay bx b_y px py
      · have := mle h0 q; omega
      · by_cases q' : sd ax ay bx b_y px py ≤ -1
        · have := mle h0 q'; omega
        · omega
    rw [s0, Int.mul_zero] at c
    have hbx : bx = ax := by omega
    refine hn ⟨s0, ?_, ?_, ?_, ?_⟩
    · have : M * ax ≤ M * px ∨ M * bx ≤ M * px := by omega
      rcases this with q | q <;> have := cle h0 q <;> omega
    · have : M * px ≤ M * ax ∨ M * px ≤ M * bx := by omega
      rcases this with q | q <;> have := cle h0 q <;> omega
    · have : M * ay ≤ M * py + 1 ∨ M * b_y ≤ M * py + 1 := by omega
      rcases this with q | q <;> have := hle _ _ q <;> omega
    · have : M * py + 1 ≤ M * ay ∨ M * py + 1 ≤ M * b_y := by omega
      rcases this with q | q <;> have := hle' _ _ q <;> omega
  · obtain ⟨c, b1, b2, b3, b4⟩ := h
    rw [e3] at c
    have q1 : px - ax = 0 := by
      rcases zero_or c with q | q
      · omega
      · exact q
    have q2 : ay ≤ py := hle _ _ (by omega)
    have q3 : py ≤ ay := cle h0 (by omega)
    exact hn0 ⟨by omega, by omega⟩
  · obtain ⟨c, b1, b2, b3, b4⟩ := h
    rw [e4] at c
    have q1 : px - bx = 0 := by
      rcases zero_or c with q | q
      · omega
      · exact q
    have q2 : b_y ≤ py := hle _ _ (by omega)
    have q3 : py ≤ b_y := cle h0 (by omega)
    exact hn1 ⟨by omega, by omega⟩
  · rw [e1, e2] at h
    by_cases q : 1 ≤ sd ax ay bx b_y px py
    · have a1 := mle h0 q
      have := pp (pp h0 (show 0 < M * sd ax ay bx b_y px py by omega)) (pp h0 (show 0 < M * sd ax ay bx b_y px py + (bx - ax) by omega))
      omega
    · by_cases q' : sd ax ay bx b_y px py ≤ -1
      · have a1 := mle h0 q'
        have := nn (pn h0 (show M * sd ax ay bx b_y px py < 0 by omega)) (pn h0 (show M * sd ax ay bx b_y px py + (bx - ax) < 0 by omega))
        omega
      · have s0 : sd ax ay bx b_y px py = 0 := by omega
        rw [s0, Int.mul_zero, Int.mul_zero, Int.zero_mul] at h
        omega

end Go.Eng.Geo

/-
Fences: what the code asks of two ways and a spot is what plane geometry says.
-/
namespace Go.Eng
open Go Geo
set_option linter.unusedVariables false
set_option linter.unusedSimpArgs false

/-- a right spot -/
def InB (s : api_Spot) : Prop := (-10000 ≤ s.X ∧ s.X ≤ 10000) ∧ (-10000 ≤ s.Y ∧ s.Y ≤ 10000)
theorem mul_bd {x y m k : Int} (hx : -m ≤ x ∧ x ≤ m) (hy : -k ≤ y ∧ y ≤ k) : -(m * k) ≤ x * y ∧ x * y ≤ m * k := by
  have h1 : x.natAbs ≤ m.natAbs := by omega
  have h2 : y.natAbs ≤ k.natAbs := by omega
  have h3 := Nat.mul_le_mul h1 h2
  rw [← Int.natAbs_mul, ← Int.natAbs_mul] at h3
  have h4 : 0 ≤ m * k := PP (by omega) (by omega)
  omega
theorem wmul {x y : Int} (hx : -20000 ≤ x ∧ x ≤ 20000) (hy : -20000 ≤ y ∧ y ≤ 20000) : IntKind.wrap .i64 (x * y) = x * y ∧ -400000000 ≤ x * y ∧ x * y ≤ 400000000 := by
  have := mul_bd hx hy
  exact ⟨wrap64 (by omega) (by omega), by omega, by omega⟩
theorem side_wrap {a b s : api_Spot} (ha : InB a) (hb : InB b) (hs : InB s) :
    (IntKind.wrap .i64 ((IntKind.wrap .i64 ((IntKind.wrap .i64 (b.X - a.X)) * (IntKind.wrap .i64 (s.Y - a.Y)))) - (IntKind.wrap .i64 ((IntKind.wrap .i64 (b.Y - a.Y)) * (IntKind.wrap .i64 (s.X - a.X)))))) = sd a.X a.Y b.X b.Y s.X s.Y := by
  obtain ⟨a1, a2⟩ := ha; obtain ⟨b1, b2⟩ := hb; obtain ⟨s1, s2⟩ := hs
  rw [wrap64 (n := b.X - a.X) (by omega) (by omega), wrap64 (n := s.Y - a.Y) (by omega) (by omega), wrap64 (n := b.Y - a.Y) (by omega) (by omega), wrap64 (n := s.X - a.X) (by omega) (by omega)]
  have m1 := wmul (x := b.X - a.X) (y := s.Y - a.Y) (by omega) (by omega)
  have m2 := wmul (x := b.Y - a.Y) (y := s.X - a.X) (by omega) (by omega)
  rw [m1.1, m2.1, wrap64 (by omega) (by omega)]
  rfl
theorem sd_bd {a b s : api_Spot} (ha : InB a) (hb : InB b) (hs : InB s) : -800000000 ≤ sd a.X a.Y b.X b.Y s.X s.Y ∧ sd a.X a.Y b.X b.Y s.X s.Y ≤ 800000000 := by
  obtain ⟨a1, a2⟩ := ha; obtain ⟨b1, b2⟩ := hb; obtain ⟨s1, s2⟩ := hs
  have m1 := wmul (x := b.X - a.X) (y := s.Y - a.Y) (by omega) (by omega)
  have m2 := wmul (x := b.Y - a.Y) (y := s.X - a.X) (by omega) (by omega)
  unfold sd
  omega
theorem imax_eq (a b : Int) : imax a b = max a b := by unfold imax; split <;> omega
instance (ax ay bx b_y sx sy : Int) : Decidable (onb ax ay bx b_y sx sy) := by unfold onb; infer_instance
instance (ax ay bx b_y cx cy dx dy : Int) : Decidable (meetsP ax ay bx b_y cx cy dx dy) := by unfold meetsP; infer_instance
/-! ### Edges by number -/
/-! ### Search loops -/
end Go.Eng

/-
Fences: the checks of both ways are the same; a right fence is simple.
-/
namespace Go.Eng
open Go Geo
open scoped Classical
set_option linter.unusedVariables false
set_option linter.unusedSimpArgs false

/-! ### Is a spot among others -/
/-! ### The first half of the checks -/
theorem inB_iff (s : api_Spot) : ((decide (-10000 ≤ s.X) && decide (s.X ≤ 10000)) && (decide (-10000 ≤ s.Y) && decide (s.Y ≤ 10000))) = true ↔ InB s := by
  unfold InB; simp
/-! ### Crossed edges -/
section
variable {l : List api_Spot} (nd : l.Nodup)
include nd
end

end Go.Eng

/-
Where a spot is: both ways.
-/
namespace Go.Eng
open Go Geo
open scoped Classical
set_option linter.unusedVariables false
set_option linter.unusedSimpArgs false

/-! ### The document's way: how often the edges go round -/
end Go.Eng

/-
The streams.
-/
namespace Go.Eng
open Go
set_option linter.unusedVariables false
set_option linter.unusedSimpArgs false

theorem wrap_I64 (n : Int) : I64 (IntKind.wrap .i64 n) := by
  unfold IntKind.wrap I64
  simp [IntKind.bits, IntKind.signed]
  split <;> omega

theorem Below_eq {x n : Int} (hx : I64 x) (hn : I64 n) : fleetmake_Below x n = some (if n < 1 then 0 else x % n) := by
  unfold I64 at hx hn
  unfold fleetmake_Below fleetmake_Below_x1
  by_cases h : n < 1
  · simp [h]
  · have h0 : (n == 0) = false := by simp; omega
    have e := Int.emod_eq_tmod (a := x) (b := n)
    have nn := Int.emod_nonneg x (show n ≠ 0 by omega)
    have lt := Int.emod_lt_of_pos x (show 0 < n by omega)
    simp only [h, decide_false, cond_false, h0, Bool.not_false, gd, cond_true, Option.bind_some, if_false]
    by_cases h3 : x.tmod n < 0
    · simp only [h3, decide_true, cond_true, Option.bind_some]
      split at e
      · omega
      · rw [wrap64 (by omega) (by omega)]
        congr 1
        omega
    · simp only [h3, decide_false, cond_false, Option.bind_some]
      congr 1
      split at e <;> omega
theorem Below_ok {x n : Int} (hx : I64 x) (hn : I64 n) : Ok (fleetmake_Below x n) (fun r => (1 ≤ n → 0 ≤ r ∧ r < n) ∧ (n < 1 → r = 0)) := by
  refine .of_eq (Below_eq hx hn) ⟨fun h => ?_, fun h => by simp [h]⟩
  rw [if_neg (by omega)]
  exact ⟨Int.emod_nonneg _ (by omega), Int.emod_lt_of_pos _ (by omega)⟩

/-- A stream whose numbers are of 64 bits, of which at most k were taken. -/
def StrOk (k : Nat) (s : fleetmake_Stream) : Prop := 0 ≤ s.at_ ∧ s.at_ ≤ k ∧ s.L.length ≤ 9223372036854775807 ∧ ∀ n ∈ s.L, I64 n
theorem StrOk.mono {k k' : Nat} {s : fleetmake_Stream} (h : StrOk k s) (hk : k ≤ k') : StrOk k' s := ⟨h.1, by have := h.2.1; omega, h.2.2⟩
/-- One number further. -/
abbrev nxt (s : fleetmake_Stream) : fleetmake_Stream := fleetmake_Stream.mk s.L (IntKind.wrap .i64 (s.at_ + 1))
theorem StrOk.nxt {k : Nat} {s : fleetmake_Stream} (h : StrOk k s) (hk : k < 1099511627776) : StrOk (k + 1) (nxt s) := by
  obtain ⟨h1, h2, h3, h4⟩ := h
  refine ⟨?_, ?_, h3, h4⟩
  · show 0 ≤ IntKind.wrap .i64 (s.at_ + 1)
    rw [wrap64 (by omega) (by omega)]; omega
  · show IntKind.wrap .i64 (s.at_ + 1) ≤ _
    rw [wrap64 (by omega) (by omega)]; omega

theorem Next_ok {k : Nat} {s : fleetmake_Stream} {n : Int} (h : StrOk k s) (hk : k < 1099511627776) (hn : I64 n) : Ok (fleetmake_Stream_Next s n) (fun r => (1 ≤ n → 0 ≤ r ∧ r < n) ∧ (n < 1 → r = 0)) := by
  obtain ⟨h1, h2, h3, h4⟩ := h
  unfold fleetmake_Stream_Next
  refine .cond (fun _ => ?_) (fun hl => ?_)
  · exact (Below_ok (wrap_I64 _) hn).bind fun r hr => .some hr
  · have hl' : s.L.length ≠ 0 := by simpa using hl
    have e1 : IntKind.wrap .i64 (s.at_ + 1) = s.at_ + 1 := wrap64 (by omega) (by omega)
    have e2 : IntKind.wrap .i64 (s.at_ + 1 - 1) = s.at_ := by rw [wrap64 (by omega) (by omega)]; omega
    refine .gd (by simpa using hl') ?_
    rw [e1, e2]
    refine (at_mem (tmod_nonneg h1) (tmod_lt' (by omega))).bind fun y hy => ?_
    refine (Below_ok (h4 y hy) (by unfold I64; omega)).bind fun r1 hr1 => ?_
    exact (Below_ok (wrap_I64 _) hn).bind fun r hr => .some hr

theorem Pick_ok {k : Nat} {s : fleetmake_Stream} {l : List Int} (h : StrOk k s) (hk : k < 1099511627776) (hl : 0 < l.length) (hl2 : l.length < 1000) : Ok (fleetmake_Stream_Pick_o1 s l) (fun r => r ∈ l) := by
  unfold fleetmake_Stream_Pick_o1
  refine (Next_ok h hk (by unfold I64; omega)).bind fun r hr => ?_
  have := hr.1 (by omega)
  exact (at_mem this.1 this.2).bind fun y hy => .some hy
theorem Flip_ok {k : Nat} {s : fleetmake_Stream} {n : Int} (h : StrOk k s) (hk : k < 1099511627776) (hn : I64 n) : Ok (fleetmake_Stream_Flip s n) (fun _ => True) := by
  unfold fleetmake_Stream_Flip
  exact (Next_ok h hk hn).bind fun r hr => .some trivial
theorem Range_ok {k : Nat} {s : fleetmake_Stream} {low high : Int} (h : StrOk k s) (hk : k < 1099511627776) (hlow : -4611686018427387903 < low ∧ low < 4611686018427387904) (hh : -4611686018427387904 < high ∧ high < 4611686018427387903) :
    Ok (fleetmake_Stream_Range s low high) (fun r => StrOk (k + 1) r.1 ∧ low ≤ r.2 ∧ (low ≤ high → r.2 ≤ high) ∧ (high < low → r.2 = low)) := by
  unfold fleetmake_Stream_Range
  refine .cond (fun hc => ?_) (fun hc => ?_)
  · have hc' : high < low := by simpa using hc
    exact .some ⟨h.mono (by omega), Int.le_refl _, by intro h; omega, fun _ => rfl⟩
  · have hc' : ¬ high < low := by simpa using hc
    have e1 : IntKind.wrap .i64 (high - low) = high - low := wrap64 (by omega) (by omega)
    have e2 : IntKind.wrap .i64 (high - low + 1) = high - low + 1 := wrap64 (by omega) (by omega)
    rw [e1, e2]
    refine (Next_ok h hk (by unfold I64; omega)).bind fun r hr => ?_
    have := hr.1 (by omega)
    refine .some ⟨h.nxt hk, ?_, fun _ => ?_, fun h => by omega⟩
    · show low ≤ IntKind.wrap .i64 (low + r)
      rw [wrap64 (by omega) (by omega)]; omega
    · show IntKind.wrap .i64 (low + r) ≤ high
      rw [wrap64 (by omega) (by omega)]; omega
end Go.Eng

/-
Fences that streams make.
-/
namespace Go.Eng
open Go Geo
open scoped Classical
set_option linter.unusedVariables false
set_option linter.unusedSimpArgs false

theorem Place_ok {k : Nat} {s : fleetmake_Stream} (h : StrOk k s) (hk : k + 2 < 1099511627776) : Ok (fleetmake_Stream_Place s) (fun p => (-5 ≤ p.X ∧ p.X ≤ 20) ∧ (-5 ≤ p.Y ∧ p.Y ≤ 20)) := by
  unfold fleetmake_Stream_Place
  refine (Pick_ok h (by omega) (by simp) (by simp)).bind fun x hx => (Pick_ok (h.nxt (by omega)) (by omega) (by simp) (by simp)).bind fun y hy => .some ?_
  simp only [List.mem_cons, List.not_mem_nil, or_false] at hx hy
  show (-5 ≤ x ∧ x ≤ 20) ∧ (-5 ≤ y ∧ y ≤ 20)
  omega
end Go.Eng

/-
Series and windows; faults.
-/
namespace Go.Eng
open Go
set_option linter.unusedVariables false
set_option linter.unusedSimpArgs false

end Go.Eng

/-
Fractions: products of 128 bits, and less, both ways.
-/
namespace Go.Eng
open Go Geo
open scoped Classical
set_option linter.unusedVariables false
set_option linter.unusedSimpArgs false

theorem wrapU (n : Int) : IntKind.wrap .u64 n = n % 18446744073709551616 := by
  unfold IntKind.wrap
  simp [IntKind.bits, IntKind.signed]
theorem shr32 {n : Int} (h : 0 ≤ n) : ishr .u64 n 32 = n / 4294967296 := by
  unfold ishr
  have : (2 : Int) ^ (min (32 : Int).toNat (IntKind.bits .u64)) = 4294967296 := by decide
  rw [this]
  exact Int.fdiv_eq_ediv_of_nonneg _ (by omega)
theorem and32 {n : Int} (h : 0 ≤ n) (h2 : n < 18446744073709551616) : ibits .and .u64 n 4294967295 = n % 4294967296 := by
  unfold ibits
  have e : (BitVec.ofInt (IntKind.bits .u64) n &&& BitVec.ofInt (IntKind.bits .u64) 4294967295).toNat = n.toNat % 4294967296 := by
    have hb : IntKind.bits .u64 = 64 := rfl
    rw [hb, BitVec.toNat_and]
    have e1 : (BitVec.ofInt 64 n).toNat = n.toNat := by
      rw [BitVec.toNat_ofInt]; omega
    have e2 : (BitVec.ofInt 64 4294967295).toNat = 4294967295 := by decide
    rw [e1, e2]
    exact Nat.and_two_pow_sub_one_eq_mod n.toNat 32
  simp only [e]
  rw [wrapU]
  omega
/-- the high half of a product, as the code makes it -/
def mulH (x y : Int) : Int :=
  (IntKind.wrap .u64 ((IntKind.wrap .u64 ((IntKind.wrap .u64 ((ishr .u64 (IntKind.wrap .u64 (x)) 32) * (ishr .u64 (IntKind.wrap .u64 (y)) 32))) + (ishr .u64 (IntKind.wrap .u64 ((IntKind.wrap .u64 ((ishr .u64 (IntKind.wrap .u64 (x)) 32) * (ibits .and .u64 (IntKind.wrap .u64 (y)) 4294967295))) + (ishr .u64 (IntKind.wrap .u64 ((ibits .and .u64 (IntKind.wrap .u64 (x)) 4294967295) * (ibits .and .u64 (IntKind.wrap .u64 (y)) 4294967295))) 32))) 32))) + (ishr .u64 (IntKind.wrap .u64 ((ibits .and .u64 (IntKind.wrap .u64 ((IntKind.wrap .u64 ((ishr .u64 (IntKind.wrap .u64 (x)) 32) * (ibits .and .u64 (IntKind.wrap .u64 (y)) 4294967295))) + (ishr .u64 (IntKind.wrap .u64 ((ibits .and .u64 (IntKind.wrap .u64 (x)) 4294967295) * (ibits .and .u64 (IntKind.wrap .u64 (y)) 4294967295))) 32))) 4294967295) + (IntKind.wrap .u64 ((ibits .and .u64 (IntKind.wrap .u64 (x)) 4294967295) * (ishr .u64 (IntKind.wrap .u64 (y)) 32))))) 32)))
theorem mod_mul_bd {a b m k : Int} (ha : 0 ≤ a ∧ a ≤ m) (hb : 0 ≤ b ∧ b ≤ k) : 0 ≤ a * b ∧ a * b ≤ m * k := by
  have := mul_bd (x := a) (y := b) (m := m) (k := k) (by omega) (by omega)
  have := PP ha.1 hb.1
  omega
theorem mulH_eq {x y : Int} (hx : 0 ≤ x ∧ x < 9223372036854775808) (hy : 0 ≤ y ∧ y < 9223372036854775808) : mulH x y = x * y / 18446744073709551616 := by
  unfold mulH
  have wx : IntKind.wrap .u64 x = x := by rw [wrapU]; omega
  have wy : IntKind.wrap .u64 y = y := by rw [wrapU]; omega
  rw [wx, wy, shr32 hx.1, shr32 hy.1, and32 hx.1 (by omega), and32 hy.1 (by omega)]
  have x1 : 0 ≤ x / 4294967296 ∧ x / 4294967296 ≤ 2147483647 := by omega
  have y1 : 0 ≤ y / 4294967296 ∧ y / 4294967296 ≤ 2147483647 := by omega
  have x0 : 0 ≤ x % 4294967296 ∧ x % 4294967296 ≤ 4294967295 := by omega
  have y0 : 0 ≤ y % 4294967296 ∧ y % 4294967296 ≤ 4294967295 := by omega
  have hxy : x * y = (x / 4294967296 * (y / 4294967296)) * 18446744073709551616 + (x / 4294967296 * (y % 4294967296) + x % 4294967296 * (y / 4294967296)) * 4294967296 + x % 4294967296 * (y % 4294967296) := by
    have e1 : x = x / 4294967296 * 4294967296 + x % 4294967296 := by omega
    have e2 : y = y / 4294967296 * 4294967296 + y % 4294967296 := by omega
    generalize x / 4294967296 = a at *
    generalize x % 4294967296 = b at *
    generalize y / 4294967296 = c at *
    generalize y % 4294967296 = d at *
    rw [e1, e2]
    grind
  have bA := mod_mul_bd x1 y1
  have bB := mod_mul_bd x1 y0
  have bC := mod_mul_bd x0 y1
  have bD := mod_mul_bd x0 y0
  rw [hxy]
  generalize x / 4294967296 * (y / 4294967296) = A at *
  generalize x / 4294967296 * (y % 4294967296) = B at *
  generalize x % 4294967296 * (y / 4294967296) = C at *
  generalize x % 4294967296 * (y % 4294967296) = D at *
  clear hxy wx wy x1 y1 x0 y0 hx hy
  rw [wrapU A, wrapU B, wrapU C, wrapU D]
  rw [Int.emod_eq_of_lt (a := A) (by omega) (by omega), Int.emod_eq_of_lt (a := B) (by omega) (by omega), Int.emod_eq_of_lt (a := C) (by omega) (by omega), Int.emod_eq_of_lt (a := D) (by omega) (by omega)]
  rw [shr32 (n := D) (by omega), wrapU (B + D / 4294967296), Int.emod_eq_of_lt (a := B + D / 4294967296) (by omega) (by omega)]
  rw [shr32 (n := B + D / 4294967296) (by omega), and32 (n := B + D / 4294967296) (by omega) (by omega)]
  rw [wrapU ((B + D / 4294967296) % 4294967296 + C), Int.emod_eq_of_lt (a := (B + D / 4294967296) % 4294967296 + C) (by omega) (by omega)]
  rw [shr32 (n := (B + D / 4294967296) % 4294967296 + C) (by omega)]
  rw [wrapU (A + (B + D / 4294967296) / 4294967296), Int.emod_eq_of_lt (a := A + (B + D / 4294967296) / 4294967296) (by omega) (by omega)]
  rw [wrapU, Int.emod_eq_of_lt (by omega) (by omega)]
  omega
theorem mulL_eq {x y : Int} (hx : 0 ≤ x ∧ x < 9223372036854775808) (hy : 0 ≤ y ∧ y < 9223372036854775808) : IntKind.wrap .u64 (IntKind.wrap .u64 x * IntKind.wrap .u64 y) = x * y % 18446744073709551616 := by
  have wx : IntKind.wrap .u64 x = x := by rw [wrapU]; omega
  have wy : IntKind.wrap .u64 y = y := by rw [wrapU]; omega
  rw [wx, wy, wrapU]
theorem cmpP_eq {a b c d : Int} (ha : 0 ≤ a ∧ a < 9223372036854775808) (hb : 0 ≤ b ∧ b < 9223372036854775808) (hc : 0 ≤ c ∧ c < 9223372036854775808) (hd : 0 ≤ d ∧ d < 9223372036854775808) :
    base_CompareProducts a b c d = some (cmpI (a * b) (c * d)) := by
  unfold base_CompareProducts bits_Mul64
  have e2 : base_CompareProducts_x2 a b c d = cond (!decide (mulH a b = mulH c d)) (some (decide (mulH a b < mulH c d))) (some false) := rfl
  have e1 : base_CompareProducts_x1 a b c d = (base_CompareProducts_x2 a b c d).bind fun vx1 => cond vx1 (some vx1) (cond (decide (mulH a b = mulH c d)) (some (decide (IntKind.wrap .u64 (IntKind.wrap .u64 a * IntKind.wrap .u64 b) < IntKind.wrap .u64 (IntKind.wrap .u64 c * IntKind.wrap .u64 d)))) (some false)) := rfl
  have e3 : base_CompareProducts_x3 a b c d = cond (decide (mulH a b = mulH c d)) (some (decide (IntKind.wrap .u64 (IntKind.wrap .u64 a * IntKind.wrap .u64 b) = IntKind.wrap .u64 (IntKind.wrap .u64 c * IntKind.wrap .u64 d)))) (some false) := rfl
  rw [e1, e2, e3, mulH_eq ha hb, mulH_eq hc hd, mulL_eq ha hb, mulL_eq hc hd]
  have p1 := PP ha.1 hb.1
  have p2 := PP hc.1 hd.1
  generalize a * b = P at *
  generalize c * d = Q at *
  unfold cmpI
  by_cases h1 : P / 18446744073709551616 = Q / 18446744073709551616
  · by_cases h2 : P % 18446744073709551616 < Q % 18446744073709551616
    · have : P < Q := by omega
      simp [h1, h2, this]
    · by_cases h3 : P % 18446744073709551616 = Q % 18446744073709551616
      · have : P = Q := by omega
        subst this
        simp
      · have n1 : ¬ P < Q := by omega
        have n2 : Q < P := by omega
        simp [h1, h2, h3, n1, n2]
  · by_cases h2 : P / 18446744073709551616 < Q / 18446744073709551616
    · have : P < Q := by omega
      simp [h1, h2, this]
    · have n1 : ¬ P < Q := by omega
      have n2 : Q < P := by omega
      simp [h1, h2, n1, n2]

/-! ### Fractions -/
/-- a fraction as distances are -/
def FrR (f : api_Fraction) : Prop := (0 ≤ f.Num ∧ f.Num ≤ 1000000000000000000) ∧ (1 ≤ f.Den ∧ f.Den ≤ 1000000000000000000)
def frL (a b : api_Fraction) : Bool := decide (a.Num * b.Den < b.Num * a.Den)
theorem pless_eq {a b : api_Fraction} (ha : FrR a) (hb : FrR b) : place_less a b = some (frL a b) := by
  obtain ⟨a1, a2⟩ := ha; obtain ⟨b1, b2⟩ := hb
  unfold place_less frL
  rw [cmpP_eq (by omega) (by omega) (by omega) (by omega)]
  simp only [Option.bind_some]
  congr 1
  rw [decide_eq_decide]
  unfold cmpI
  (repeat' split) <;> omega
end Go.Eng

/-
The law FencesTell: areas and boxes, both ways.
-/
namespace Go.Eng
open Go Geo
open scoped Classical
set_option linter.unusedVariables false
set_option linter.unusedSimpArgs false

/-! ### Areas -/
/-! ### Boxes -/
def bx (l : List api_Spot) (c : api_Spot) : api_Spot × api_Spot :=
  (api_Spot.mk ((l.map (·.X)).foldl min c.X) ((l.map (·.Y)).foldl min c.Y), api_Spot.mk ((l.map (·.X)).foldl max c.X) ((l.map (·.Y)).foldl max c.Y))
end Go.Eng

/-
The law FencesTell.
-/
namespace Go.Eng
open Go Geo
open scoped Classical
set_option linter.unusedVariables false
set_option linter.unusedSimpArgs false

end Go.Eng

/-
How far, and where surely: both ways.
-/
namespace Go.Eng
open Go Geo
open scoped Classical
set_option linter.unusedVariables false
set_option linter.unusedSimpArgs false

/-! ### The greatest common divisor -/
theorem gcd_loop {f : Int × Int → Option ((Int × Int) ⊕ Int)} (hf : ∀ a b, f (a, b) = cond (!decide (b = 0)) (gd (!(b == 0)) (some (.inl (b, a.tmod b)))) (some (.inr a))) {a b : Int} (ha : 0 ≤ a) (hb : 0 ≤ b) :
    loopO f (a, b) = some ((a.toNat.gcd b.toNat : Nat) : Int) := by
  apply Ok.eq
  refine loop_ok (fun q : Int × Int => 0 ≤ q.1 ∧ 0 ≤ q.2 ∧ q.1.toNat.gcd q.2.toNat = a.toNat.gcd b.toNat) (fun q => q.2.toNat) ?_ ⟨ha, hb, rfl⟩
  rintro ⟨x, y⟩ ⟨h1, h2, h3⟩
  simp only at h1 h2 h3
  rw [hf]
  refine .cond (fun hc => ?_) (fun hc => ?_)
  · have hy : y ≠ 0 := by simpa using hc
    have m1 : x.tmod y = x % y := Int.tmod_eq_emod_of_nonneg h1
    have m2 := Int.emod_nonneg x hy
    have m3 := Int.emod_lt_of_pos x (show 0 < y by omega)
    rw [m1]
    refine .gd (by simpa using hy) (.some ⟨⟨h2, m2, ?_⟩, by simp only; omega⟩)
    simp only
    rw [← h3]
    have e : (x % y).toNat = x.toNat % y.toNat := by
      obtain ⟨n, rfl⟩ := Int.eq_ofNat_of_zero_le h1
      obtain ⟨m, rfl⟩ := Int.eq_ofNat_of_zero_le h2
      simp only [Int.ofNat_eq_natCast, Int.toNat_natCast]
      rw [← Int.natCast_emod, Int.toNat_natCast]
    rw [e, Nat.gcd_comm y.toNat, ← Nat.gcd_rec, Nat.gcd_comm]
  · have hy : y = 0 := by simpa using hc
    subst hy
    refine .some ?_
    have h3 : x.toNat.gcd 0 = a.toNat.gcd b.toNat := h3
    rw [Nat.gcd_zero_right] at h3
    omega
/-- a fraction in lowest terms -/
def lowF (n d : Int) : api_Fraction := api_Fraction.mk (n / ((n.toNat.gcd d.toNat : Nat) : Int)) (d / ((n.toNat.gcd d.toNat : Nat) : Int))
theorem gcd_facts {n d : Int} (hn : 0 ≤ n) (hd : 1 ≤ d) : 1 ≤ ((n.toNat.gcd d.toNat : Nat) : Int) ∧ ((n.toNat.gcd d.toNat : Nat) : Int) ≤ d := by
  have h1 : 0 < n.toNat.gcd d.toNat := Nat.gcd_pos_of_pos_right _ (by omega)
  have h2 : n.toNat.gcd d.toNat ≤ d.toNat := Nat.gcd_le_right _ (by omega)
  omega
theorem lowF_R {n d : Int} (hn : 0 ≤ n ∧ n ≤ 1000000000000000000) (hd : 1 ≤ d ∧ d ≤ 1000000000000000000) : FrR (lowF n d) := by
  obtain ⟨g1, g2⟩ := gcd_facts hn.1 hd.1
  unfold FrR lowF
  have e1 := Int.ediv_nonneg hn.1 (show 0 ≤ ((n.toNat.gcd d.toNat : Nat) : Int) by omega)
  have e2 := Int.ediv_le_self ((n.toNat.gcd d.toNat : Nat) : Int) hn.1
  have e3 := Int.ediv_le_self ((n.toNat.gcd d.toNat : Nat) : Int) (show 0 ≤ d by omega)
  have e4 : 1 ≤ d / ((n.toNat.gcd d.toNat : Nat) : Int) := (Int.le_ediv_iff_mul_le (by omega)).2 (by omega)
  simp only
  omega
theorem fraction_eq {n d : Int} (hn : 0 ≤ n ∧ n ≤ 1000000000000000000) (hd : 1 ≤ d ∧ d ≤ 1000000000000000000) : base_Fraction n d = some (lowF n d) := by
  unfold base_Fraction base_Gcd
  have e0 : imax n (IntKind.wrap .i64 (0 - n)) = n := by rw [wrap64 (by omega) (by omega), imax_eq]; omega
  have hR := lowF_R hn hd
  obtain ⟨g1, g2⟩ := gcd_facts hn.1 hd.1
  have hg : (!(((n.toNat.gcd d.toNat : Nat) : Int) == 0)) = true := by simp only [Bool.not_eq_true', beq_eq_false_iff_ne]; omega
  have t1 : n.tdiv ((n.toNat.gcd d.toNat : Nat) : Int) = n / ((n.toNat.gcd d.toNat : Nat) : Int) := Int.tdiv_eq_ediv_of_nonneg hn.1
  have t2 : d.tdiv ((n.toNat.gcd d.toNat : Nat) : Int) = d / ((n.toNat.gcd d.toNat : Nat) : Int) := Int.tdiv_eq_ediv_of_nonneg (by omega)
  rw [e0, gcd_loop (f := base_Gcd_x1) (fun a b => rfl) hn.1 (by omega)]
  simp only [Option.bind_some, gd_true hg, t1, t2]
  unfold FrR lowF at hR
  simp only at hR
  rw [wrap64 (n := n / _) (by omega) (by omega), wrap64 (n := d / _) (by omega) (by omega)]
  rfl
/-! ### How far a spot is from a way -/
def along (a b s : api_Spot) : Int := (s.X - a.X) * (b.X - a.X) + (s.Y - a.Y) * (b.Y - a.Y)
def sqS (a b : api_Spot) : Int := (a.X - b.X) * (a.X - b.X) + (a.Y - b.Y) * (a.Y - b.Y)
def farF (a b s : api_Spot) : api_Fraction :=
  if along a b s ≤ 0 then api_Fraction.mk (sqS a s) 1 else if sqS a b ≤ along a b s then api_Fraction.mk (sqS b s) 1 else lowF (sd a.X a.Y b.X b.Y s.X s.Y * sd a.X a.Y b.X b.Y s.X s.Y) (sqS a b)
theorem wdot {x y u v : Int} (hx : -20000 ≤ x ∧ x ≤ 20000) (hy : -20000 ≤ y ∧ y ≤ 20000) (hu : -20000 ≤ u ∧ u ≤ 20000) (hv : -20000 ≤ v ∧ v ≤ 20000) :
    IntKind.wrap .i64 (IntKind.wrap .i64 (x * y) + IntKind.wrap .i64 (u * v)) = x * y + u * v ∧ -800000000 ≤ x * y + u * v ∧ x * y + u * v ≤ 800000000 := by
  have m1 := wmul hx hy
  have m2 := wmul hu hv
  rw [m1.1, m2.1, wrap64 (by omega) (by omega)]
  exact ⟨rfl, by omega, by omega⟩
theorem sqS_bd {a b : api_Spot} (ha : InB a) (hb : InB b) : 0 ≤ sqS a b ∧ sqS a b ≤ 800000000 := by
  unfold InB at ha hb
  have := wdot (x := a.X - b.X) (y := a.X - b.X) (u := a.Y - b.Y) (v := a.Y - b.Y) (by omega) (by omega) (by omega) (by omega)
  have h1 := sq_nn (a.X - b.X)
  have h2 := sq_nn (a.Y - b.Y)
  unfold sqS; omega
theorem sdsq_bd {a b s : api_Spot} (ha : InB a) (hb : InB b) (hs : InB s) : 0 ≤ sd a.X a.Y b.X b.Y s.X s.Y * sd a.X a.Y b.X b.Y s.X s.Y ∧ sd a.X a.Y b.X b.Y s.X s.Y * sd a.X a.Y b.X b.Y s.X s.Y ≤ 640000000000000000 := by
  have h := sd_bd ha hb hs
  have := mul_bd (m := 800000000) (k := 800000000) h h
  have := sq_nn (sd a.X a.Y b.X b.Y s.X s.Y)
  omega
theorem farF_R {a b s : api_Spot} (ha : InB a) (hb : InB b) (hs : InB s) : FrR (farF a b s) := by
  have h1 := sqS_bd ha hs
  have h2 := sqS_bd hb hs
  have h3 := sqS_bd ha hb
  have h4 := sdsq_bd ha hb hs
  unfold farF
  split
  · unfold FrR; simp only; omega
  · split
    · unfold FrR; simp only; omega
    · exact lowF_R (by omega) (by omega)
theorem far_eq {a b s : api_Spot} (ha : InB a) (hb : InB b) (hs : InB s) : place_far a b s = some (farF a b s) := by
  have h3 := sqS_bd ha hb
  have h4 := sdsq_bd ha hb hs
  have hsd := side_wrap ha hb hs
  have h1 := ha; have h2 := hb; have h5 := hs
  unfold InB at h1 h2 h5
  unfold place_far place_square place_side
  simp only [Option.bind_some, hsd]
  rw [wrap64 (n := s.X - a.X) (by omega) (by omega), wrap64 (n := s.Y - a.Y) (by omega) (by omega), wrap64 (n := b.X - a.X) (by omega) (by omega), wrap64 (n := b.Y - a.Y) (by omega) (by omega),
    wrap64 (n := a.X - b.X) (by omega) (by omega), wrap64 (n := a.Y - b.Y) (by omega) (by omega), wrap64 (n := a.X - s.X) (by omega) (by omega), wrap64 (n := a.Y - s.Y) (by omega) (by omega),
    wrap64 (n := b.X - s.X) (by omega) (by omega), wrap64 (n := b.Y - s.Y) (by omega) (by omega)]
  rw [(wdot (x := s.X - a.X) (y := b.X - a.X) (u := s.Y - a.Y) (v := b.Y - a.Y) (by omega) (by omega) (by omega) (by omega)).1,
    (wdot (x := a.X - s.X) (y := a.X - s.X) (u := a.Y - s.Y) (v := a.Y - s.Y) (by omega) (by omega) (by omega) (by omega)).1,
    (wdot (x := a.X - b.X) (y := a.X - b.X) (u := a.Y - b.Y) (v := a.Y - b.Y) (by omega) (by omega) (by omega) (by omega)).1,
    (wdot (x := b.X - s.X) (y := b.X - s.X) (u := b.Y - s.Y) (v := b.Y - s.Y) (by omega) (by omega) (by omega) (by omega)).1]
  rw [wrap64 (n := sd a.X a.Y b.X b.Y s.X s.Y * sd a.X a.Y b.X b.Y s.X s.Y) (by omega) (by omega)]
  show cond (decide (along a b s ≤ 0)) (some (api_Fraction.mk (sqS a s) 1)) (cond (decide (sqS a b ≤ along a b s)) (some (api_Fraction.mk (sqS b s) 1)) ((base_Fraction (sd a.X a.Y b.X b.Y s.X s.Y * sd a.X a.Y b.X b.Y s.X s.Y) (sqS a b)).bind fun vr1 => some vr1)) = _
  unfold farF
  by_cases c1 : along a b s ≤ 0
  · simp only [c1, decide_true, cond_true, if_true]
  · by_cases c2 : sqS a b ≤ along a b s
    · simp only [c1, c2, decide_true, decide_false, cond_true, cond_false, if_true, if_false]
    · simp only [c1, c2, decide_false, cond_false, if_false]
      rw [fraction_eq (by omega) (by omega)]; rfl
/-! ### How far a spot is from the nearest edge -/
/-! ### Where surely -/
theorem err_R {x : Int} (h : 0 ≤ x ∧ x ≤ 10000) : IntKind.wrap .i64 (x * x) = x * x ∧ FrR ⟨x * x, 1⟩ := by
  have := mod_mul_bd (a := x) (b := x) (m := 10000) (k := 10000) h h
  exact ⟨wrap64 (by omega) (by omega), by unfold FrR; simp only; omega⟩
end Go.Eng

/-
The law FencesSure.
-/
namespace Go.Eng
open Go Geo
open scoped Classical
set_option linter.unusedVariables false
set_option linter.unusedSimpArgs false

end Go.Eng

/-
What the laws ask of each package once.
-/
namespace Go.Eng
open Go
theorem ready_eq : fleetkeep2_ready = some true := by kernel_rfl
end Go.Eng

/-
Tracks that streams make; where a device stays.
-/
namespace Go.Eng
open Go Geo
open scoped Classical
set_option linter.unusedVariables false
set_option linter.unusedSimpArgs false

def fsp (x : api_Fix) : api_Spot := api_Spot.mk x.X x.Y
/-- a fix as right tracks have it -/
def FixR (x : api_Fix) : Prop := x.Device = [100] ∧ InB (fsp x) ∧ (0 ≤ x.At ∧ x.At ≤ 20000) ∧ (0 ≤ x.Error ∧ x.Error ≤ 5)
def TrackR (l : List api_Fix) : Prop := l.length ≤ 14 ∧ (∀ x ∈ l, FixR x) ∧ l.Pairwise (fun x y => x.At < y.At)
theorem TrackR.lt {l : List api_Fix} (h : TrackR l) {i j : Nat} (hi : i < j) (hj : j < l.length) : (l[i]'(by omega)).At < l[j].At :=
  List.pairwise_iff_getElem.1 h.2.2 i j (by omega) hj hi

theorem RightTrack_ok {k : Nat} {s : fleetmake_Stream} {most : Int} (hm : 0 ≤ most ∧ most ≤ 14) (h : StrOk k s) (hk : k + 1000 < 1099511627776) : Ok (fleetmake_Stream_RightTrack s most) (fun r => StrOk (k + 200) r.1 ∧ TrackR r.2 ∧ (r.2.length : Int) ≤ most) := by
  unfold fleetmake_Stream_RightTrack
  refine (Place_ok h (by omega)).bind fun p hp => ?_
  refine (Range_ok ((h.nxt (by omega)).nxt (by omega)) (by omega) (by omega) (by omega)).bind fun ⟨s1, n⟩ ⟨r1, r2, r3, _⟩ => ?_
  have r3 : n ≤ most := r3 (by omega)
  have r2 : 0 ≤ n := r2
  have r1 : StrOk (k + 3) s1 := r1
  have key : Ok (loopO (fleetmake_Stream_RightTrack_x1 n) (s1, p, [], 0, 0)) (fun r => StrOk (k + 200) r.1 ∧ TrackR r.2 ∧ (r.2.length : Int) ≤ most) := by
    refine loop_ok (fun q : fleetmake_Stream × api_Spot × List api_Fix × Int × Int => ∃ j : Nat, q.2.2.2.2 = (j : Int) ∧ (j : Int) ≤ n ∧ q.2.2.1.length = j ∧ StrOk (k + 3 + 12 * j) q.1 ∧ (0 ≤ q.2.2.2.1 ∧ q.2.2.2.1 ≤ 1000 * (j : Int)) ∧
      ((-5 - 2 * (j : Int) ≤ q.2.1.X ∧ q.2.1.X ≤ 20 + 2 * (j : Int)) ∧ (-5 - 2 * (j : Int) ≤ q.2.1.Y ∧ q.2.1.Y ≤ 20 + 2 * (j : Int))) ∧ (∀ x ∈ q.2.2.1, FixR x ∧ x.At ≤ q.2.2.2.1) ∧ q.2.2.1.Pairwise (fun x y => x.At < y.At))
      (fun q => (n - q.2.2.2.2).toNat) ?_ ⟨0, rfl, by simpa using r2, rfl, by simpa using r1, by simp, by simp; omega, by simp, by simp⟩
    rintro ⟨s, p, l, at_, i⟩ ⟨j, rfl, j1, j2, j3, j4, j5, j6, j7⟩
    simp only at j2 j3 j4 j5 j6 j7
    unfold fleetmake_Stream_RightTrack_x1
    refine .cond (fun hc => ?_) (fun hc => ?_)
    · have hc : (j : Int) < n := by simpa using hc
      refine (Pick_ok j3 (by omega) (by simp) (by simp)).bind fun st hst => ?_
      have hst : 1 ≤ st ∧ st ≤ 1000 := by
        simp only [List.mem_cons, List.not_mem_nil, or_false] at hst; omega
      have a1 := j3.nxt (by omega)
      have hx2 : Ok (fleetmake_Stream_RightTrack_x2 s p) (fun r => StrOk (k + 3 + 12 * j + 5) r.1 ∧ ((-5 - 2 * ((j + 1 : Nat) : Int) ≤ r.2.X ∧ r.2.X ≤ 20 + 2 * ((j + 1 : Nat) : Int)) ∧ (-5 - 2 * ((j + 1 : Nat) : Int) ≤ r.2.Y ∧ r.2.Y ≤ 20 + 2 * ((j + 1 : Nat) : Int)))) := by
        unfold fleetmake_Stream_RightTrack_x2
        have a2 := a1.nxt (by omega)
        refine (Flip_ok a1 (by omega) (by unfold I64; omega)).bind fun b _ => .cond (fun _ => ?_) (fun _ => ?_)
        · exact (Place_ok a2 (by omega)).bind fun q hq => .some ⟨((a2.nxt (by omega)).nxt (by omega)).mono (by omega), by simp only; omega⟩
        · refine (Range_ok a2 (by omega) (by omega) (by omega)).bind fun ⟨s6, x⟩ ⟨x1, x2, x3, _⟩ => ?_
          have x3 : x ≤ 2 := x3 (by omega)
          have x2 : -2 ≤ x := x2
          refine (Range_ok x1 (by omega) (by omega) (by omega)).bind fun ⟨s7, y⟩ ⟨y1, y2, y3, _⟩ => ?_
          have y3 : y ≤ 2 := y3 (by omega)
          have y2 : -2 ≤ y := y2
          refine .some ⟨StrOk.mono y1 (by omega), ?_⟩
          simp only
          rw [wrap64 (by omega) (by omega), wrap64 (by omega) (by omega)]
          omega
      refine hx2.bind fun ⟨s8, p2⟩ ⟨b1, b2⟩ => ?_
      have b1 : StrOk (k + 3 + 12 * j + 5) s8 := b1
      simp only at b2
      refine (Pick_ok b1 (by omega) (by simp) (by simp)).bind fun er her => ?_
      have her : 0 ≤ er ∧ er ≤ 5 := by
        simp only [List.mem_cons, List.not_mem_nil, or_false] at her; omega
      have w0 : IntKind.wrap .i64 (at_ + st) = at_ + st := wrap64 (by omega) (by omega)
      have hx3 : Ok (fleetmake_Stream_RightTrack_x3 at_ st s8 p2 er) (fun r => StrOk (k + 3 + 12 * j + 10) r.1 ∧ FixR r.2 ∧ r.2.At = at_ + st) := by
        unfold fleetmake_Stream_RightTrack_x3
        rw [w0]
        have c1 := b1.nxt (by omega)
        have c2 := c1.nxt (by omega)
        refine (Flip_ok c1 (by omega) (by unfold I64; omega)).bind fun b _ => .cond (fun _ => ?_) (fun _ => ?_)
        · refine (Pick_ok c2 (by omega) (by simp) (by simp)).bind fun x hx => .some ⟨(c2.nxt (by omega)).mono (by omega), ⟨rfl, ?_, ?_, her⟩, rfl⟩
          · simp only [List.mem_cons, List.not_mem_nil, or_false] at hx
            unfold InB fsp; simp only; omega
          · simp only; omega
        · refine .some ⟨c2.mono (by omega), ⟨rfl, ?_, ?_, her⟩, rfl⟩
          · unfold InB fsp; simp only; omega
          · simp only; omega
      refine hx3.bind fun ⟨s9, x⟩ ⟨d1, d2, d3⟩ => .gd (ble_lim (by simp; omega)) ?_
      have d1 : StrOk (k + 3 + 12 * j + 10) s9 := d1
      simp only at d2 d3
      have w1 : IntKind.wrap .i64 ((j : Int) + 1) = ((j + 1 : Nat) : Int) := by rw [wrap64 (by omega) (by omega)]; omega
      rw [w0]
      refine .some ⟨⟨j + 1, w1, by omega, by simp; omega, d1.mono (by omega), by simp only; omega, by simp only; omega, ?_, ?_⟩, ?_⟩
      · simp only
        intro y hy
        rcases List.mem_append.1 hy with hy | hy
        · have := j6 y hy; exact ⟨this.1, by omega⟩
        · rw [List.mem_singleton] at hy; subst hy; exact ⟨d2, by omega⟩
      · simp only
        rw [List.pairwise_append]
        refine ⟨j7, by simp, fun y hy z hz => ?_⟩
        rw [List.mem_singleton] at hz; subst hz
        have := (j6 y hy).2; omega
      · show (n - IntKind.wrap .i64 ((j : Int) + 1)).toNat < (n - (j : Int)).toNat
        rw [w1]; omega
    · exact .some ⟨j3.mono (by omega), ⟨by show l.length ≤ 14; omega, fun x hx => (j6 x hx).1, j7⟩, by simp only; omega⟩
  exact key.bind fun ⟨s2, l⟩ hl => .some hl

theorem scan_const_none {α ρ : Type} : ∀ (l : List α) (k : Nat), scan (fun _ _ => (none : Option ρ)) k l = none
  | [], _ => rfl
  | _ :: l, k => scan_const_none l (k + 1)
theorem key100 : keyB [100] = true := by decide
theorem fixes_ok {l : List api_Fix} (h : TrackR l) : place_CheckFixes l = some 0 := by
  unfold place_CheckFixes
  have hl := h.1
  have h2000 : ¬ (2000 : Int) < l.length := by omega
  simp only [h2000, decide_false, cond_false]
  rw [range_loop (l := l) (fun _ _ => none) (.inl ()) (by omega), scan_const_none]
  · rfl
  · intro i hi
    have hx := h.2.1 _ (List.getElem_mem hi)
    unfold place_CheckFixes_x1
    have hi' : (i : Int) < l.length := by omega
    have hx3 : place_CheckFixes_x3 l i l[i] = some false := by
      unfold place_CheckFixes_x3
      by_cases h0 : (0 : Int) < i
      · have w1 : IntKind.wrap .i64 ((i : Int) - 1) = ((i - 1 : Nat) : Int) := by rw [wrap64 (by omega) (by omega)]; omega
        have hy := h.2.1 _ (List.getElem_mem (l := l) (n := i - 1) (by omega))
        have hlt := h.lt (i := i - 1) (j := i) (by omega) hi
        simp only [h0, decide_true, cond_true, w1, at_nat (l := l) (n := i - 1) (by omega), Option.bind_some, fbyDevice_eq]
        have : fOrd l[i] (l[i - 1]'(by omega)) = 1 := by
          unfold fOrd cmpI
          rw [hx.1, hy.1, cmpB_self]
          unfold or0
          rw [if_pos rfl, if_neg (by omega), if_pos hlt]
        rw [this]; rfl
      · simp only [h0, decide_false, cond_false]
    have hx2 : place_CheckFixes_x2 l[i] = some false := by
      unfold place_CheckFixes_x2 place_spot
      obtain ⟨-, b1, b2, b3⟩ := hx
      have hb := (inB_iff _).2 b1
      unfold fsp at hb
      simp only at hb
      have m1 : (decide (0 ≤ l[i].At) && decide (l[i].At ≤ 345686399999)) = true := by simp; omega
      simp only [Moment_eq, isSpot_eq, Option.bind_some, m1, hb, Bool.not_true, cond_false, Out_eq]
      have : (decide (l[i].Error < 0) || decide (10000 < l[i].Error)) = false := by simp; omega
      rw [this]
    simp only [hi', decide_true, cond_true, at_nat hi, Option.bind_some, hx.1, Key_eq [100] (by simp), key100, Bool.not_true, cond_false, hx2, hx3]
  · unfold place_CheckFixes_x1
    simp
theorem track_ok {l : List api_Fix} (h : TrackR l) : place_trackFault l = some 0 := by
  unfold place_trackFault
  have hl := h.1
  rw [fixes_ok h]
  have : slices_ContainsFunc_api_Fix_api_Fix_f1_place_trackFault_1 l = some false := by
    unfold slices_ContainsFunc_api_Fix_api_Fix_f1_place_trackFault_1 slices_IndexFunc_api_Fix_api_Fix_f1_place_trackFault_1
    rw [range_loop (l := l) (fun _ _ => none) (.inl ()) (by omega), scan_const_none]
    · rfl
    · intro i hi
      have hx := h.2.1 _ (List.getElem_mem hi)
      have h0 := h.2.1 _ (List.getElem_mem (l := l) (n := 0) (by omega))
      unfold slices_IndexFunc_api_Fix_api_Fix_f1_place_trackFault_1_x1 place_trackFault_1
      have hi' : (i : Int) < l.length := by omega
      have g0 : at? l 0 = some (l[0]'(by omega)) := at_nat (l := l) (n := 0) (by omega)
      simp only [hi', decide_true, cond_true, at_nat hi, g0, Option.bind_some, hx.1, h0.1, Bool.not_true, cond_false]
    · unfold slices_IndexFunc_api_Fix_api_Fix_f1_place_trackFault_1_x1
      simp
  rw [this]; rfl

/-! ### Stays -/
end Go.Eng

/-
Tracks: checks, visits, stays and lengths, both ways.
-/
namespace Go.Eng
open Go Geo
open scoped Classical
set_option linter.unusedVariables false
set_option linter.unusedSimpArgs false

/-! ### Tracks that streams make -/
/-! ### Checks -/
/-- a fix that is right -/
def FixV (x : api_Fix) : Prop := (0 ≤ x.At ∧ x.At ≤ 345686399999) ∧ InB ⟨x.X, x.Y⟩ ∧ (0 ≤ x.Error ∧ x.Error ≤ 10000)
/-! ### Visits -/
end Go.Eng

/-
The law TracksVisit.
-/
namespace Go.Eng
open Go Geo
open scoped Classical
set_option linter.unusedVariables false
set_option linter.unusedSimpArgs false

/-! ### Stays -/
def sqV (a b : api_Fix) : Int := (a.X - b.X) * (a.X - b.X) + (a.Y - b.Y) * (a.Y - b.Y)
theorem sqV_wrap {a b : api_Fix} (ha : FixV a) (hb : FixV b) :
    IntKind.wrap .i64 ((IntKind.wrap .i64 ((IntKind.wrap .i64 (a.X - b.X)) * (IntKind.wrap .i64 (a.X - b.X)))) + (IntKind.wrap .i64 ((IntKind.wrap .i64 (a.Y - b.Y)) * (IntKind.wrap .i64 (a.Y - b.Y))))) = sqV a b ∧ 0 ≤ sqV a b ∧ sqV a b ≤ 800000000 := by
  obtain ⟨-, a1, -⟩ := ha; obtain ⟨-, b1, -⟩ := hb
  unfold InB at a1 b1
  simp only at a1 b1
  rw [wrap64 (n := a.X - b.X) (by omega) (by omega), wrap64 (n := a.Y - b.Y) (by omega) (by omega)]
  have m := wdot (x := a.X - b.X) (y := a.X - b.X) (u := a.Y - b.Y) (v := a.Y - b.Y) (by omega) (by omega) (by omega) (by omega)
  have h1 := sq_nn (a.X - b.X)
  have h2 := sq_nn (a.Y - b.Y)
  unfold sqV
  exact ⟨m.1, by omega, by omega⟩
/-! ### Lengths -/
theorem root_p {n : Int} (h : 0 ≤ n ∧ n ≤ 800000000) : Ok (place_root n) (fun r => 0 ≤ r ∧ r * r ≤ n ∧ n < (r + 1) * (r + 1)) := by
  unfold place_root
  refine Ok.bind (P := fun r : Int => 0 ≤ r ∧ r * r ≤ n ∧ n < (r + 1) * (r + 1)) (loop_ok (fun q : Int × Int => (0 ≤ q.1 ∧ q.1 < q.2 ∧ q.2 ≤ 2147483648) ∧ q.1 * q.1 ≤ n ∧ n < q.2 * q.2) (fun q => (q.2 - q.1).toNat) ?_ ⟨by simp, by simp; omega, by simp; omega⟩) fun r hr => .some hr
  rintro ⟨lo, hi⟩ ⟨h1, h2, h3⟩
  simp only at h1 h2 h3
  unfold place_root_x1
  dsimp only
  rw [wrap64 (n := hi - lo) (by omega) (by omega), wrap64 (n := lo + hi) (by omega) (by omega)]
  have ht : (lo + hi).tdiv 2 = (lo + hi) / 2 := Int.tdiv_eq_ediv_of_nonneg (by omega)
  rw [ht, wrap64 (n := (lo + hi) / 2) (by omega) (by omega)]
  have hm : lo ≤ (lo + hi) / 2 ∧ (lo + hi) / 2 ≤ hi := by omega
  have hm2 : 1 < hi - lo → lo < (lo + hi) / 2 ∧ (lo + hi) / 2 < hi := by omega
  generalize (lo + hi) / 2 = m at *
  have hmb := mod_mul_bd (a := m) (b := m) (m := 2147483648) (k := 2147483648) (by omega) (by omega)
  rw [wrap64 (n := m * m) (by omega) (by omega)]
  refine .cond (fun hc => .cond (fun hd => ?_) (fun hd => ?_)) (fun hc => ?_)
  · have hc := hm2 (of_decide_eq_true hc)
    have hd := of_decide_eq_true hd
    exact .some ⟨⟨by simp only; omega, hd, h3⟩, by simp only; omega⟩
  · have hc := hm2 (of_decide_eq_true hc)
    have hd := of_decide_eq_false hd
    exact .some ⟨⟨by simp only; omega, h2, by simp only; omega⟩, by simp only; omega⟩
  · have hc := of_decide_eq_false hc
    have : hi = lo + 1 := by omega
    subst this
    exact .some ⟨h1.1, h2, h3⟩
/-! ### The law -/
end Go.Eng

/-
Insertion sorts; what is left of equal ones rises.
-/
namespace Go.Eng
open Go
set_option linter.unusedVariables false
set_option linter.unusedSimpArgs false
section
variable {α : Type}
end
end Go.Eng

/-
Plain tracks: what is kept between two that are kept; however they are put in.
-/
namespace Go.Eng
set_option linter.unusedVariables false
section
variable (B : Nat → Nat → Option Nat)
def TKn : Nat → Nat → Nat → List Nat
  | 0, _, _ => []
  | n + 1, i, k => match B i k with
    | none => []
    | some m => TKn n i m ++ m :: TKn n m k
def Tk (i k : Nat) : List Nat := TKn B (k - i) i k
variable (hB : ∀ i k m, B i k = some m → i < m ∧ m < k)
include hB
theorem TKn_fuel : ∀ (n i k : Nat), k - i ≤ n → TKn B n i k = TKn B (k - i) i k := by
  have key : ∀ (n n' i k : Nat), k - i ≤ n → k - i ≤ n' → TKn B n i k = TKn B n' i k := by
    intro n
    induction n with
    | zero =>
      intro n' i k h1 h2
      cases n' with
      | zero => rfl
      | succ n' =>
        unfold TKn
        cases hb : B i k with
        | none => rfl
        | some m => have := hB i k m hb; omega
    | succ n ih =>
      intro n' i k h1 h2
      cases n' with
      | zero =>
        unfold TKn
        cases hb : B i k with
        | none => rfl
        | some m => have := hB i k m hb; omega
      | succ n' =>
        unfold TKn
        cases hb : B i k with
        | none => rfl
        | some m =>
          have := hB i k m hb
          simp only
          rw [ih n' i m (by omega) (by omega), ih n' m k (by omega) (by omega)]
  intro n i k h
  exact key n (k - i) i k h (Nat.le_refl _)
omit hB in
theorem Tk_none {i k : Nat} (h : B i k = none) : Tk B i k = [] := by
  unfold Tk
  cases k - i with
  | zero => rfl
  | succ n => unfold TKn; rw [h]
theorem Tk_some {i k m : Nat} (h : B i k = some m) : Tk B i k = Tk B i m ++ m :: Tk B m k := by
  have hm := hB i k m h
  unfold Tk
  obtain ⟨n, hn⟩ : ∃ n, k - i = n + 1 := ⟨k - i - 1, by omega⟩
  rw [hn]
  conv => lhs; unfold TKn
  rw [h]
  simp only
  rw [TKn_fuel B hB n i m (by omega), TKn_fuel B hB n m k (by omega)]
theorem Tk_in : ∀ (n i k : Nat), k - i ≤ n → (∀ x ∈ Tk B i k, i < x ∧ x < k) ∧ (Tk B i k).Pairwise (· < ·) := by
  intro n
  induction n with
  | zero =>
    intro i k h
    cases hb : B i k with
    | none => rw [Tk_none B hb]; exact ⟨fun x hx => (nomatch hx), List.Pairwise.nil⟩
    | some m => have := hB i k m hb; omega
  | succ n ih =>
    intro i k h
    cases hb : B i k with
    | none => rw [Tk_none B hb]; exact ⟨fun x hx => (nomatch hx), List.Pairwise.nil⟩
    | some m =>
      have hm := hB i k m hb
      rw [Tk_some B hB hb]
      obtain ⟨a1, a2⟩ := ih i m (by omega)
      obtain ⟨b1, b2⟩ := ih m k (by omega)
      refine ⟨fun x hx => ?_, List.pairwise_append.2 ⟨a2, List.pairwise_cons.2 ⟨fun y hy => (b1 y hy).1, b2⟩, fun x hx y hy => ?_⟩⟩
      · rcases List.mem_append.1 hx with hx | hx
        · have := a1 x hx; omega
        · rcases List.mem_cons.1 hx with rfl | hx
          · exact hm
          · have := b1 x hx; omega
      · have := a1 x hx
        rcases List.mem_cons.1 hy with rfl | hy
        · omega
        · have := b1 y hy; omega
/-- what is kept in the end, if those are kept now -/
def exF : Nat → List Nat → List Nat
  | a, [] => [a]
  | a, b :: l => a :: Tk B a b ++ exF b l
omit hB in
theorem sorted_ext {l m : List Nat} (h1 : l.Pairwise (· < ·)) (h2 : m.Pairwise (· < ·)) (h : ∀ x, x ∈ l ↔ x ∈ m) : l = m := by
  have p : l.Perm m := (List.perm_ext_iff_of_nodup (h1.imp fun h => Nat.ne_of_lt h) (h2.imp fun h => Nat.ne_of_lt h)).2 h
  exact List.Perm.eq_of_pairwise (le := (· < ·)) (fun a b _ _ hab hba => by omega) h1 h2 p
end
end Go.Eng

/-
Sorting of numbers; the fixes of a track that are kept: the code's way.
-/
namespace Go.Eng
open Go
set_option linter.unusedVariables false
set_option linter.unusedSimpArgs false
section
variable {α : Type}
theorem Ok.and {f : Option α} {P Q : α → Prop} (h1 : Ok f P) (h2 : Ok f Q) : Ok f (fun r => P r ∧ Q r) := by
  obtain ⟨r, e1, p1⟩ := h1
  obtain ⟨s, e2, p2⟩ := h2
  rw [e1] at e2
  obtain rfl := Option.some.inj e2
  exact ⟨r, e1, p1, p2⟩
end
/-! ### The farthest between two -/
def fx (l : List api_Fix) (i : Nat) : api_Fix := l.getD i (api_Fix.mk [] 0 0 0 0)
theorem at_fx {l : List api_Fix} {i : Nat} (h : i < l.length) : at? l (i : Int) = some (fx l i) ∧ fx l i ∈ l := by
  have e : fx l i = l[i] := by unfold fx; rw [List.getD_eq_getElem?_getD, List.getElem?_eq_getElem h]; rfl
  rw [e]
  exact ⟨at_nat h, List.getElem_mem h⟩
def stp (l : List api_Fix) (i k : Nat) (s : api_Fraction × Int) (m : Nat) : api_Fraction × Int :=
  cond (frL s.1 (farF (fsp (fx l i)) (fsp (fx l k)) (fsp (fx l m)))) (farF (fsp (fx l i)) (fsp (fx l k)) (fsp (fx l m)), (m : Int)) s
def bstN (l : List api_Fix) (i k : Nat) : Nat → Nat → api_Fraction × Int → api_Fraction × Int
  | 0, _, s => s
  | c + 1, m, s => bstN l i k c (m + 1) (stp l i k s m)
theorem fixv_in {l : List api_Fix} (hg : ∀ x ∈ l, FixV x) {i : Nat} (h : i < l.length) : InB (fsp (fx l i)) := (hg _ (at_fx h).2).2.1
theorem stp_R {l : List api_Fix} (hg : ∀ x ∈ l, FixV x) {i k m : Nat} (hi : i < l.length) (hk : k < l.length) (hm : m < l.length) {s : api_Fraction × Int} (hs : FrR s.1) : FrR (stp l i k s m).1 := by
  unfold stp
  cases frL s.1 (farF (fsp (fx l i)) (fsp (fx l k)) (fsp (fx l m)))
  · exact hs
  · exact farF_R (fixv_in hg hi) (fixv_in hg hk) (fixv_in hg hm)
theorem own_best {l : List api_Fix} (hg : ∀ x ∈ l, FixV x) (hl : l.length ≤ 1000) {i k : Nat} (hi : i < l.length) (hk : k < l.length) (recF : Int → Int → List Bool → Int → List api_Fix → Option (List Bool)) : ∀ (c m : Nat) (s : api_Fraction × Int), m + c = k → FrR s.1 →
    loopO (place_Plain_1_b0o_x1 recF i k l) (s.1, s.2, (m : Int)) = some (bstN l i k c m s).2
  | 0, m, s, h, _ => by
    refine loop_out ?_
    unfold place_Plain_1_b0o_x1 bstN
    have : ¬ (m : Int) < k := by omega
    simp [this]
  | c + 1, m, s, h, hs => by
    have hm : m < l.length := by omega
    rw [loop_in (s' := ((stp l i k s m).1, (stp l i k s m).2, ((m + 1 : Nat) : Int)))]
    · exact own_best hg hl hi hk recF c (m + 1) (stp l i k s m) (by omega) (stp_R hg hi hk hm hs)
    · unfold place_Plain_1_b0o_x1 place_Plain_1_b0o_x2 place_spot
      have hc : (m : Int) < k := by omega
      have w1 : IntKind.wrap .i64 ((m : Int) + 1) = ((m + 1 : Nat) : Int) := by rw [wrap64 (by omega) (by omega)]; omega
      have hf : place_far (api_Spot.mk (fx l i).X (fx l i).Y) (api_Spot.mk (fx l k).X (fx l k).Y) (api_Spot.mk (fx l m).X (fx l m).Y) = some (farF (fsp (fx l i)) (fsp (fx l k)) (fsp (fx l m))) := far_eq (fixv_in hg hi) (fixv_in hg hk) (fixv_in hg hm)
      simp only [hc, decide_true, cond_true, (at_fx hi).1, (at_fx hk).1, (at_fx hm).1, Option.bind_some, hf, pless_eq hs (farF_R (fixv_in hg hi) (fixv_in hg hk) (fixv_in hg hm)), w1]
      unfold stp
      cases frL s.1 (farF (fsp (fx l i)) (fsp (fx l k)) (fsp (fx l m))) <;> rfl
theorem bst_rng {l : List api_Fix} {i k : Nat} : ∀ (c m : Nat) (s : api_Fraction × Int), m + c = k → i < m → (s.2 = -1 ∨ ∃ j : Nat, s.2 = (j : Int) ∧ i < j ∧ j < k) → (bstN l i k c m s).2 = -1 ∨ ∃ j : Nat, (bstN l i k c m s).2 = (j : Int) ∧ i < j ∧ j < k
  | 0, m, s, _, _, h => h
  | c + 1, m, s, h1, h2, h => by
    unfold bstN
    refine bst_rng c (m + 1) _ (by omega) (by omega) ?_
    unfold stp
    cases frL s.1 (farF (fsp (fx l i)) (fsp (fx l k)) (fsp (fx l m)))
    · exact h
    · exact .inr ⟨m, rfl, h2, by omega⟩
def bestV (l : List api_Fix) (q : Int) (i k : Nat) : Int := (bstN l i k (k - (i + 1)) (i + 1) (api_Fraction.mk (q * q) 1, -1)).2
def bestO (l : List api_Fix) (q : Int) (i k : Nat) : Option Nat := if i < k ∧ 0 ≤ bestV l q i k then some (bestV l q i k).toNat else none
theorem bestV_rng (l : List api_Fix) (q : Int) {i k : Nat} (h : i < k) : bestV l q i k = -1 ∨ ∃ j : Nat, bestV l q i k = (j : Int) ∧ i < j ∧ j < k :=
  bst_rng _ _ _ (by omega) (by omega) (.inl rfl)
theorem bestO_in (l : List api_Fix) (q : Int) (i k m : Nat) (h : bestO l q i k = some m) : i < m ∧ m < k := by
  unfold bestO at h
  split at h
  · rename_i hh
    injection h with h
    rcases bestV_rng l q hh.1 with e | ⟨j, e, j1, j2⟩
    · omega
    · rw [e] at h; simp at h; omega
  · cases h
theorem sq_R {q : Int} (h : 0 ≤ q ∧ q ≤ 10000) : IntKind.wrap .i64 (q * q) = q * q ∧ FrR (api_Fraction.mk (q * q) 1) := err_R h

/-! ### The code's way: between two -/
def kpt (b : List Bool) (j : Nat) : Bool := b.getD j false
theorem kpt_set {b : List Bool} {i : Nat} (hi : i < b.length) (j : Nat) : kpt (b.set i true) j = (decide (j = i) || kpt b j) := by
  unfold kpt
  rw [List.getD_eq_getElem?_getD, List.getD_eq_getElem?_getD, List.getElem?_set]
  by_cases h : i = j
  · subst h; simp [hi]
  · have h' : ¬ j = i := fun e => h e.symm
    simp [h, h']
theorem at_bool {b : List Bool} {i : Nat} (h : i < b.length) : at? b (i : Int) = some (kpt b i) := by
  have e : kpt b i = b[i] := by unfold kpt; rw [List.getD_eq_getElem?_getD, List.getElem?_eq_getElem h]; rfl
  rw [e]; exact at_nat h
theorem betw {l : List api_Fix} (hg : ∀ x ∈ l, FixV x) (hl : l.length ≤ 1000) {q : Int} (hq : 0 ≤ q ∧ q ≤ 10000) : ∀ (n i k : Nat) (b : List Bool), b.length = l.length → i ≤ k → k < l.length → k - i < n →
    ∃ r, place_Plain_1_b0o_n n i k b q l = some r ∧ r.length = l.length ∧ ∀ j, kpt r j = true ↔ kpt b j = true ∨ j = i ∨ j = k ∨ j ∈ Tk (bestO l q) i k
  | 0, i, k, b, _, _, _, h => by omega
  | n + 1, i, k, b, hb, hik, hk, hn => by
    have hi : i < l.length := by omega
    unfold place_Plain_1_b0o_n
    have a1 : at? b (i : Int) = some (kpt b i) := at_bool (by omega)
    have a2 : at? (b.set i true) (k : Int) = some (kpt (b.set i true) k) := at_bool (by simp; omega)
    have w1 : IntKind.wrap .i64 ((i : Int) + 1) = ((i + 1 : Nat) : Int) := by rw [wrap64 (by omega) (by omega)]; omega
    have base : ∀ j, kpt ((b.set i true).set k true) j = true ↔ kpt b j = true ∨ j = i ∨ j = k := fun j => by
      rw [kpt_set (by simp; omega), kpt_set (by omega)]
      simp only [Bool.or_eq_true, decide_eq_true_eq]
      constructor
      · rintro (h | h | h)
        · exact .inr (.inr h)
        · exact .inr (.inl h)
        · exact .inl h
      · rintro (h | h | h)
        · exact .inr (.inr h)
        · exact .inr (.inl h)
        · exact .inl h
    by_cases hlt : i < k
    · have hloop := own_best hg hl hi hk (place_Plain_1_b0o_n n) (k - (i + 1)) (i + 1) (api_Fraction.mk (q * q) 1, -1) (by omega) (sq_R hq).2
      simp only [a1, Int.toNat_natCast, a2, Option.bind_some, w1, (sq_R hq).1, hloop]
      show ∃ r, (bif decide (0 ≤ bestV l q i k) then ((place_Plain_1_b0o_n n (i : Int) (bestV l q i k) ((b.set i true).set k true) q l).bind fun vs => (place_Plain_1_b0o_n n (bestV l q i k) (k : Int) vs q l).bind fun vs1 => some vs1) else some ((b.set i true).set k true)) = some r ∧ _
      rcases bestV_rng l q hlt with e | ⟨m, e, m1, m2⟩
      · have hO : bestO l q i k = none := by unfold bestO; rw [e]; simp
        rw [e, Tk_none _ hO]
        refine ⟨_, rfl, by simp [hb], fun j => ?_⟩
        rw [base]
        simp
      · have hO : bestO l q i k = some m := by unfold bestO; rw [e, if_pos ⟨hlt, by omega⟩]; simp
        rw [e]
        have h0 : (0 : Int) ≤ (m : Int) := by omega
        obtain ⟨r1, p1, p2, p3⟩ := betw hg hl hq n i m ((b.set i true).set k true) (by simp [hb]) (by omega) (by omega) (by omega)
        obtain ⟨r2, q1, q2, q3⟩ := betw hg hl hq n m k r1 p2 (by omega) hk (by omega)
        simp only [h0, decide_true, cond_true, p1, q1, Option.bind_some]
        refine ⟨r2, rfl, q2, fun j => ?_⟩
        rw [q3, p3, base, Tk_some _ (bestO_in l q) hO]
        simp only [List.mem_append, List.mem_cons]
        constructor
        · rintro (((h | h | h) | h | h | h) | h | h | h)
          · exact .inl h
          · exact .inr (.inl h)
          · exact .inr (.inr (.inl h))
          · exact .inr (.inl h)
          · exact .inr (.inr (.inr (.inr (.inl h))))
          · exact .inr (.inr (.inr (.inl h)))
          · exact .inr (.inr (.inr (.inr (.inl h))))
          · exact .inr (.inr (.inl h))
          · exact .inr (.inr (.inr (.inr (.inr h))))
        · rintro (h | h | h | h | h | h)
          · exact .inl (.inl (.inl h))
          · exact .inl (.inl (.inr (.inl h)))
          · exact .inl (.inl (.inr (.inr h)))
          · exact .inl (.inr (.inr (.inr h)))
          · exact .inr (.inl h)
          · exact .inr (.inr (.inr h))
    · have hik' : i = k := by omega
      subst hik'
      have hO : bestO l q i i = none := by unfold bestO; rw [if_neg (by omega)]
      have hloop : loopO (place_Plain_1_b0o_x1 (place_Plain_1_b0o_n n) i i l) (api_Fraction.mk (q * q) 1, -1, ((i + 1 : Nat) : Int)) = some (-1) := by
        refine loop_out ?_
        unfold place_Plain_1_b0o_x1
        have : ¬ ((i + 1 : Nat) : Int) < i := by omega
        simp only [this, decide_false, cond_false]
      simp only [a1, Int.toNat_natCast, a2, Option.bind_some, w1, (sq_R hq).1, hloop]
      rw [Tk_none _ hO]
      refine ⟨_, rfl, by simp [hb], fun j => ?_⟩
      rw [base]
      simp
end Go.Eng

/-
The fixes of a track that are kept: the reference's way; both are the same.
-/
namespace Go.Eng
open Go
set_option linter.unusedVariables false
set_option linter.unusedSimpArgs false
theorem fixO_20 {β : Type} {g : Nat → Option β} {r : β} (h : g 20 = some r) : fixO g = some r := by
  unfold fixO
  rw [h]
/-- the numbers that are kept -/
def keptL (l : List api_Fix) (q : Int) : List Nat := if l.length = 0 then [] else if l.length = 1 then [0] else exF (bestO l q) 0 [l.length - 1]
theorem exF_two (B : Nat → Nat → Option Nat) (a b : Nat) : exF B a [b] = a :: Tk B a b ++ [b] := rfl
theorem kept_sorted {l : List api_Fix} {q : Int} : (keptL l q).Pairwise (· < ·) ∧ ∀ x ∈ keptL l q, x < l.length := by
  unfold keptL
  split
  · exact ⟨List.Pairwise.nil, fun x hx => (nomatch hx)⟩
  split
  · exact ⟨by simp, fun x hx => by simp at hx; omega⟩
  rw [exF_two]
  obtain ⟨a1, a2⟩ := Tk_in (bestO l q) (bestO_in l q) (l.length - 1 - 0) 0 (l.length - 1) (Nat.le_refl _)
  refine ⟨?_, fun x hx => ?_⟩
  · rw [List.cons_append, List.pairwise_cons]
    refine ⟨fun y hy => ?_, List.pairwise_append.2 ⟨a2, by simp, fun x hx y hy => ?_⟩⟩
    · rcases List.mem_append.1 hy with hy | hy
      · exact (a1 y hy).1
      · rw [List.mem_singleton] at hy; omega
    · rw [List.mem_singleton] at hy
      have := a1 x hx; omega
  · rw [List.cons_append] at hx
    rcases List.mem_cons.1 hx with rfl | hx
    · omega
    · rcases List.mem_append.1 hx with hx | hx
      · have := a1 x hx; omega
      · rw [List.mem_singleton] at hx; omega
/-! ### The code -/
theorem out_loop {b : List Bool} (hb : b.length ≤ 1000) : ∀ (c j : Nat) (o : List Nat), j + c = b.length → o.length ≤ j → loopO (place_Plain_x2 b) (o.map Int.ofNat, (j : Int)) = some ((o ++ (List.range' j c).filter (kpt b)).map Int.ofNat)
  | 0, j, o, h, _ => by
    refine loop_out ?_
    unfold place_Plain_x2
    have : ¬ (j : Int) < b.length := by omega
    simp [this]
  | c + 1, j, o, h, ho => by
    have hj : j < b.length := by omega
    have hj' : (j : Int) < b.length := by omega
    have w1 : IntKind.wrap .i64 ((j : Int) + 1) = ((j + 1 : Nat) : Int) := by rw [wrap64 (by omega) (by omega)]; omega
    rw [List.range'_succ, List.filter_cons]
    cases hk : kpt b j with
    | true =>
      rw [loop_in (s' := ((o ++ [j]).map Int.ofNat, ((j + 1 : Nat) : Int)))]
      · rw [out_loop hb c (j + 1) (o ++ [j]) (by omega) (by simp; omega)]
        simp
      · unfold place_Plain_x2 place_Plain_x3
        simp only [hj', decide_true, cond_true, at_bool hj, hk, Option.bind_some, w1]
        rw [gd_true (ble_lim (by simp; omega))]
        simp
    | false =>
      rw [loop_in (s' := (o.map Int.ofNat, ((j + 1 : Nat) : Int)))]
      · rw [out_loop hb c (j + 1) o (by omega) (by omega)]
        simp
      · unfold place_Plain_x2 place_Plain_x3
        simp only [hj', decide_true, cond_true, at_bool hj, hk, Option.bind_some, w1, cond_false]
theorem rep_false (n j : Nat) : kpt (List.replicate n false) j = false := by
  unfold kpt
  rw [List.getD_eq_getElem?_getD, List.getElem?_replicate]
  split <;> rfl
theorem Plain_eq {l : List api_Fix} (hg : ∀ x ∈ l, FixV x) (hl : l.length ≤ 14) {q : Int} (hq : 0 ≤ q ∧ q ≤ 10000) (ht : place_trackFault l = some 0) : place_Plain l q = some ((keptL l q).map Int.ofNat, 0) := by
  have hx1 : ∃ b, place_Plain_x1 l q = some b ∧ b.length = l.length ∧ (List.range' 0 b.length).filter (kpt b) = keptL l q := by
    unfold place_Plain_x1
    by_cases h0 : l.length = 0
    · have : ¬ (0 : Int) < l.length := by omega
      simp only [this, decide_false, cond_false]
      refine ⟨_, rfl, by simp, ?_⟩
      unfold keptL
      rw [if_pos h0]
      simp [h0]
    · have h1 : (0 : Int) < l.length := by omega
      have w1 : IntKind.wrap .i64 ((l.length : Int) - 1) = ((l.length - 1 : Nat) : Int) := by rw [wrap64 (by omega) (by omega)]; omega
      obtain ⟨r, r1, r2, r3⟩ := betw hg (by omega) hq 20 0 (l.length - 1) (List.replicate (l.length : Int).toNat false) (by simp) (by omega) (by omega) (by omega)
      have hf : place_Plain_1_b0o 0 ((l.length - 1 : Nat) : Int) (List.replicate (l.length : Int).toNat false) q l = some r := fixO_20 r1
      simp only [h1, decide_true, cond_true, w1, hf, Option.bind_some]
      refine ⟨r, rfl, r2, ?_⟩
      refine sorted_ext (List.Pairwise.filter _ List.pairwise_lt_range') kept_sorted.1 fun x => ?_
      rw [List.mem_filter, r3, List.mem_range'_1, rep_false, r2]
      unfold keptL
      rw [if_neg h0]
      by_cases h11 : l.length = 1
      · rw [if_pos h11]
        have hO : bestO l q 0 (l.length - 1) = none := by
          unfold bestO; rw [if_neg (by omega)]
        rw [Tk_none _ hO]
        simp
        omega
      · rw [if_neg h11, exF_two]
        obtain ⟨a1, a2⟩ := Tk_in (bestO l q) (bestO_in l q) (l.length - 1 - 0) 0 (l.length - 1) (Nat.le_refl _)
        simp only [List.cons_append, List.mem_cons, List.mem_append, List.not_mem_nil, or_false]
        constructor
        · rintro ⟨_, h | h | h | h⟩
          · cases h
          · exact .inl h
          · exact .inr (.inr h)
          · exact .inr (.inl h)
        · rintro (h | h | h)
          · exact ⟨by omega, .inr (.inl h)⟩
          · have := a1 x h
            exact ⟨by omega, .inr (.inr (.inr h))⟩
          · exact ⟨by omega, .inr (.inr (.inl h))⟩
  obtain ⟨b, b1, b2, b3⟩ := hx1
  have ho : base_Out q 0 10000 = some false := by
    rw [Out_eq]; simp; omega
  unfold place_Plain
  have hgd : (decide (0 ≤ (l.length : Int)) && decide ((l.length : Int) ≤ (l.length : Int)) && decide ((l.length : Int) ≤ 137438953472)) = true := by simp; omega
  have hlp := out_loop (b := b) (by omega) b.length 0 [] (by omega) (by simp)
  simp only [ht, ho, Option.bind_some, decide_true, Bool.not_true, cond_false, gd_true hgd, b1]
  rw [show loopO (place_Plain_x2 b) ([], 0) = some (((List.range' 0 b.length).filter (kpt b)).map Int.ofNat) from hlp, b3]
  rfl
/-! ### The reference -/
theorem at_mapN {K : List Nat} {i : Nat} (h : i < K.length) : at? (K.map Int.ofNat) (i : Int) = some ((K[i] : Nat) : Int) := by
  rw [at_nat (by simpa using h)]
  simp
theorem few_from : ∀ (K : List Nat) (lo n : Nat), K.Pairwise (· < ·) → (∀ x ∈ K, lo ≤ x ∧ x < n) → K.length ≤ n - lo
  | [], _, _, _, _ => by simp
  | x :: K, lo, n, h, hin => by
    obtain ⟨h1, h2⟩ := List.pairwise_cons.1 h
    have hx := hin x (List.mem_cons_self ..)
    have := few_from K (x + 1) n h2 fun y hy => ⟨h1 y hy, (hin y (List.mem_cons_of_mem _ hy)).2⟩
    simp only [List.length_cons]
    omega
theorem few_below {K : List Nat} {n : Nat} (hs : K.Pairwise (· < ·)) (hin : ∀ x ∈ K, x < n) : K.length ≤ n := by
  have := few_from K 0 n hs fun x hx => ⟨Nat.zero_le _, hin x hx⟩
  omega
end Go.Eng

/-
Ways that are longer than their ends are apart; openings of a part of a row.
-/
namespace Go.Eng
set_option linter.unusedVariables false
theorem sq_le_sq' {a b : Int} (hb : 0 ≤ b) (h : b < a) : b * b < a * a := by
  have h1 : b * b ≤ a * b := Int.mul_le_mul_of_nonneg_right (by omega) hb
  have h2 : a * b < a * a := Int.mul_lt_mul_of_pos_left h (by omega)
  omega
theorem mink {x y u v S s : Int} (h1 : x * x + y * y ≤ S * S) (h2 : u * u + v * v ≤ s * s) (hS : 0 ≤ S) (hs : 0 ≤ s) : (x + u) * (x + u) + (y + v) * (y + v) ≤ (S + s) * (S + s) := by
  have key : x * u + y * v ≤ S * s := by
    refine Int.not_lt.1 fun h => ?_
    have p := sq_le_sq' (Int.mul_nonneg hS hs) h
    have e : (x * u + y * v) * (x * u + y * v) + (x * v - y * u) * (x * v - y * u) = (x * x + y * y) * (u * u + v * v) := by grind
    have q : 0 ≤ (x * v - y * u) * (x * v - y * u) := by
      by_cases hh : 0 ≤ x * v - y * u
      · exact Int.mul_nonneg hh hh
      · have := Int.mul_nonneg (show 0 ≤ -(x * v - y * u) by omega) (show 0 ≤ -(x * v - y * u) by omega)
        rwa [Int.neg_mul_neg] at this
    have n1 : 0 ≤ u * u + v * v := by
      have a : 0 ≤ u * u := by
        by_cases hh : 0 ≤ u
        · exact Int.mul_nonneg hh hh
        · have := Int.mul_nonneg (show 0 ≤ -u by omega) (show 0 ≤ -u by omega)
          rwa [Int.neg_mul_neg] at this
      have b : 0 ≤ v * v := by
        by_cases hh : 0 ≤ v
        · exact Int.mul_nonneg hh hh
        · have := Int.mul_nonneg (show 0 ≤ -v by omega) (show 0 ≤ -v by omega)
          rwa [Int.neg_mul_neg] at this
      omega
    have r1 : (x * x + y * y) * (u * u + v * v) ≤ (S * S) * (u * u + v * v) := Int.mul_le_mul_of_nonneg_right h1 n1
    have r2 : (S * S) * (u * u + v * v) ≤ (S * S) * (s * s) := Int.mul_le_mul_of_nonneg_left h2 (Int.mul_nonneg hS hS)
    have e2 : (S * S) * (s * s) = (S * s) * (S * s) := by grind
    omega
  have e1 : (x + u) * (x + u) + (y + v) * (y + v) = (x * x + y * y) + (u * u + v * v) + 2 * (x * u + y * v) := by grind
  have e2 : (S + s) * (S + s) = S * S + s * s + 2 * (S * s) := by grind
  omega
end Go.Eng

/-
Two fences meet just if each does the other; with a spot in both they do.
-/
namespace Go.Eng
open Go Geo
open scoped Classical
set_option linter.unusedVariables false
set_option linter.unusedSimpArgs false

end Go.Eng

/-
How far, and where surely: there is always an answer.
-/
namespace Go.Eng
open Go Geo
open scoped Classical
set_option linter.unusedVariables false
set_option linter.unusedSimpArgs false

/-! ### Visits -/
section
variable (l : List api_Fix) (g : api_Fix → Int)
end
/-! ### Finding the fixes again -/
end Go.Eng

/-
Lengths of tracks and of their parts; how many visits there are.
-/
namespace Go.Eng
open Go Geo
set_option linter.unusedVariables false
set_option linter.unusedSimpArgs false
theorem FixR.V {x : api_Fix} (h : FixR x) : FixV x := ⟨by have := h.2.2.1; omega, h.2.1, by have := h.2.2.2; omega⟩
noncomputable def rtV (a b : api_Fix) : Int := (place_root (sqV a b)).getD 0
theorem rtV_ok {a b : api_Fix} (ha : FixV a) (hb : FixV b) : place_root (sqV a b) = some (rtV a b) ∧ 0 ≤ rtV a b ∧ rtV a b * rtV a b ≤ sqV a b ∧ sqV a b < (rtV a b + 1) * (rtV a b + 1) := by
  obtain ⟨r, r1, r2⟩ := root_p (sqV_wrap ha hb).2
  have e : rtV a b = r := by unfold rtV; rw [r1]; rfl
  rw [e]
  exact ⟨r1, r2⟩
theorem rtV_le {a b : api_Fix} (ha : FixV a) (hb : FixV b) : rtV a b ≤ 30000 := by
  obtain ⟨_, h1, h2, _⟩ := rtV_ok ha hb
  have h3 := (sqV_wrap ha hb).2
  refine Int.not_lt.1 fun h => ?_
  have := Int.mul_le_mul (show (30000 : Int) ≤ rtV a b by omega) (show (30000 : Int) ≤ rtV a b by omega) (by omega) (by omega)
  omega
noncomputable def lenL : List api_Fix → Int
  | x :: y :: l => rtV x y + lenL (y :: l)
  | _ => 0
theorem lenL_bd : ∀ (l : List api_Fix), (∀ x ∈ l, FixV x) → 0 ≤ lenL l ∧ lenL l ≤ 30000 * l.length
  | [], _ => by simp [lenL]
  | [x], _ => by simp [lenL]
  | x :: y :: l, h => by
    have ih := lenL_bd (y :: l) fun z hz => h z (by simp [List.mem_cons.1 hz])
    have h1 := rtV_ok (h x (by simp)) (h y (by simp))
    have h2 := rtV_le (h x (by simp)) (h y (by simp))
    have e : lenL (x :: y :: l) = rtV x y + lenL (y :: l) := rfl
    rw [e]
    simp only [List.length_cons] at ih ⊢
    omega
theorem length_val {l : List api_Fix} (hl : l.length ≤ 14) (hg : ∀ x ∈ l, FixV x) : loopO (place_Length_x1 l) (0, 1) = some (lenL l) := by
  apply Ok.eq
  refine loop_ok (fun s : Int × Int => ∃ k : Nat, s.2 = ((k + 1 : Nat) : Int) ∧ 0 ≤ s.1 ∧ s.1 + lenL (l.drop k) = lenL l) (fun s => ((l.length : Int) - s.2).toNat) ?_ ⟨0, rfl, by simp, by simp⟩
  rintro ⟨n, q⟩ ⟨k, rfl, h0, h⟩
  simp only at h h0
  unfold place_Length_x1 place_spot place_square
  have bd := lenL_bd l hg
  have bd2 := lenL_bd (l.drop k) fun x hx => hg x (List.mem_of_mem_drop hx)
  by_cases hk : k + 1 < l.length
  · have hk' : ((k + 1 : Nat) : Int) < l.length := by omega
    have w1 : IntKind.wrap .i64 (((k + 1 : Nat) : Int) - 1) = (k : Int) := by rw [wrap64 (by omega) (by omega)]; omega
    have w2 : IntKind.wrap .i64 (((k + 1 : Nat) : Int) + 1) = ((k + 1 + 1 : Nat) : Int) := by rw [wrap64 (by omega) (by omega)]; omega
    have v1 := hg _ (List.getElem_mem (show k < l.length by omega))
    have v2 := hg _ (List.getElem_mem hk)
    have s1 := sqV_wrap v1 v2
    have r := rtV_ok v1 v2
    have rl := rtV_le v1 v2
    have w3 : IntKind.wrap .i64 (n + rtV l[k] l[k + 1]) = n + rtV l[k] l[k + 1] := wrap64 (by omega) (by omega)
    have e : lenL (l.drop k) = rtV l[k] l[k + 1] + lenL (l.drop (k + 1)) := by
      rw [drop_get (show k < l.length by omega), drop_get hk]; rfl
    simp only [hk', decide_true, cond_true, w1, w2, at_nat hk, at_nat (show k < l.length by omega), Option.bind_some, s1.1, r.1, w3]
    exact .some ⟨⟨k + 1, rfl, by simp only; omega, by simp only; omega⟩, by simp only; omega⟩
  · have hk' : ¬ ((k + 1 : Nat) : Int) < l.length := by omega
    simp only [hk', decide_false, cond_false]
    have e : lenL (l.drop k) = 0 := by
      have : (l.drop k).length ≤ 1 := by simp; omega
      match l.drop k, this with
      | [], _ => rfl
      | [x], _ => rfl
    exact .some (by omega)
theorem Length_eq {l : List api_Fix} (hl : l.length ≤ 14) (hg : ∀ x ∈ l, FixV x) (ht : place_trackFault l = some 0) : place_Length l = some (lenL l, 0) := by
  unfold place_Length
  simp only [ht, length_val hl hg, Option.bind_some, decide_true, Bool.not_true, cond_false]
/-! ### A part is hardly longer than the whole -/
noncomputable def stepS (l : List api_Fix) : Nat → Nat → Int
  | _, 0 => 0
  | i, c + 1 => rtV (fx l i) (fx l (i + 1)) + 1 + stepS l (i + 1) c
theorem stepS_add (l : List api_Fix) : ∀ (c i d : Nat), stepS l i (c + d) = stepS l i c + stepS l (i + c) d
  | 0, i, d => by simp [stepS]
  | c + 1, i, d => by
    rw [show c + 1 + d = (c + d) + 1 by omega]
    simp only [stepS]
    rw [stepS_add l c (i + 1) d, show i + 1 + c = i + (c + 1) by omega]
    omega
theorem fx_V {l : List api_Fix} (hg : ∀ x ∈ l, FixV x) {i : Nat} (h : i < l.length) : FixV (fx l i) := hg _ (at_fx h).2
theorem stepS_nonneg {l : List api_Fix} (hg : ∀ x ∈ l, FixV x) : ∀ (c i : Nat), i + c < l.length → 0 ≤ stepS l i c
  | 0, i, _ => by simp [stepS]
  | c + 1, i, h => by
    have := stepS_nonneg hg c (i + 1) (by omega)
    have := rtV_ok (fx_V hg (show i < l.length by omega)) (fx_V hg (show i + 1 < l.length by omega))
    simp only [stepS]; omega
theorem chord {l : List api_Fix} (hg : ∀ x ∈ l, FixV x) : ∀ (c i : Nat), i + c < l.length → sqV (fx l i) (fx l (i + c)) ≤ stepS l i c * stepS l i c
  | 0, i, h => by simp [sqV, stepS]
  | c + 1, i, h => by
    have ih := chord hg c (i + 1) (by omega)
    have r := rtV_ok (fx_V hg (show i < l.length by omega)) (fx_V hg (show i + 1 < l.length by omega))
    have n := stepS_nonneg hg c (i + 1) (by omega)
    rw [show i + (c + 1) = i + 1 + c by omega]
    simp only [stepS]
    have m := mink (x := (fx l i).X - (fx l (i + 1)).X) (y := (fx l i).Y - (fx l (i + 1)).Y) (u := (fx l (i + 1)).X - (fx l (i + 1 + c)).X) (v := (fx l (i + 1)).Y - (fx l (i + 1 + c)).Y)
      (S := rtV (fx l i) (fx l (i + 1)) + 1) (s := stepS l (i + 1) c) (by have := r.2.2.2; unfold sqV at this; omega) (by unfold sqV at ih; exact ih) (by omega) n
    have e1 : (fx l i).X - (fx l (i + 1)).X + ((fx l (i + 1)).X - (fx l (i + 1 + c)).X) = (fx l i).X - (fx l (i + 1 + c)).X := by omega
    have e2 : (fx l i).Y - (fx l (i + 1)).Y + ((fx l (i + 1)).Y - (fx l (i + 1 + c)).Y) = (fx l i).Y - (fx l (i + 1 + c)).Y := by omega
    rw [e1, e2] at m
    unfold sqV
    exact m
theorem chord_rt {l : List api_Fix} (hg : ∀ x ∈ l, FixV x) {i k : Nat} (hik : i ≤ k) (hk : k < l.length) : rtV (fx l i) (fx l k) ≤ stepS l i (k - i) := by
  have c := chord hg (k - i) i (by omega)
  rw [show i + (k - i) = k by omega] at c
  have r := rtV_ok (fx_V hg (show i < l.length by omega)) (fx_V hg hk)
  have n := stepS_nonneg hg (k - i) i (by omega)
  refine Int.not_lt.1 fun h => ?_
  have := sq_le_sq' n h
  omega
theorem lenL_part {l : List api_Fix} (hg : ∀ x ∈ l, FixV x) : ∀ (K : List Nat) (a : Nat), (a :: K).Pairwise (· < ·) → (∀ x ∈ a :: K, x < l.length) → lenL ((a :: K).map (fx l)) ≤ stepS l a (l.length - 1 - a)
  | [], a, _, h => by
    have := h a (by simp)
    exact stepS_nonneg hg _ _ (by omega)
  | b :: K, a, hs, h => by
    have hb := h b (by simp)
    have hab : a < b := List.rel_of_pairwise_cons hs (by simp)
    have ih := lenL_part hg K b (List.Pairwise.of_cons hs) fun x hx => h x (List.mem_cons_of_mem _ hx)
    have c := chord_rt hg (Nat.le_of_lt hab) hb
    have e := stepS_add l (b - a) a (l.length - 1 - b)
    rw [show b - a + (l.length - 1 - b) = l.length - 1 - a by omega, show a + (b - a) = b by omega] at e
    have e2 : lenL ((a :: b :: K).map (fx l)) = rtV (fx l a) (fx l b) + lenL ((b :: K).map (fx l)) := rfl
    rw [e2, e]
    omega
theorem fx_get {l : List api_Fix} {i : Nat} (h : i < l.length) : fx l i = l[i] := by
  unfold fx; rw [List.getD_eq_getElem?_getD, List.getElem?_eq_getElem h]; rfl
theorem stepS_len (l : List api_Fix) : ∀ (c i : Nat), i + c + 1 = l.length → stepS l i c = lenL (l.drop i) + c
  | 0, i, h => by
    rw [drop_get (show i < l.length by omega)]
    have : l.drop (i + 1) = [] := List.drop_of_length_le (by omega)
    rw [this]
    simp [stepS, lenL]
  | c + 1, i, h => by
    rw [drop_get (show i < l.length by omega), drop_get (show i + 1 < l.length by omega)]
    have ih := stepS_len l c (i + 1) (by omega)
    rw [drop_get (show i + 1 < l.length by omega)] at ih
    simp only [stepS, lenL]
    rw [ih, fx_get (show i < l.length by omega), fx_get (show i + 1 < l.length by omega)]
    omega
theorem part_le {l : List api_Fix} (hg : ∀ x ∈ l, FixV x) {K : List Nat} (hs : K.Pairwise (· < ·)) (hin : ∀ x ∈ K, x < l.length) : lenL (K.map (fx l)) ≤ lenL l + l.length := by
  have bd := lenL_bd l hg
  cases K with
  | nil => simp only [List.map_nil, lenL]; omega
  | cons a K =>
    have ha := hin a (by simp)
    have h1 := lenL_part hg K a hs hin
    have h2 := stepS_add l a 0 (l.length - 1 - a)
    rw [Nat.zero_add, show a + (l.length - 1 - a) = l.length - 1 by omega] at h2
    have h3 := stepS_nonneg hg a 0 (by omega)
    have h4 := stepS_len l (l.length - 1) 0 (by omega)
    simp only [List.drop_zero] at h4
    omega
/-! ### How many visits there are -/
end Go.Eng

/-
Between two that are kept, one behind the other, all are near.
-/
namespace Go.Eng
open Go Geo
set_option linter.unusedVariables false
set_option linter.unusedSimpArgs false
def CN (B : Nat → Nat → Option Nat) : List Nat → Prop
  | a :: b :: l => B a b = none ∧ CN B (b :: l)
  | _ => True
theorem CN_app {B : Nat → Nat → Option Nat} {m : Nat} {r : List Nat} : ∀ l : List Nat, CN B (l ++ [m]) → CN B (m :: r) → CN B (l ++ m :: r)
  | [], _, h => h
  | [a], h1, h2 => ⟨h1.1, h2⟩
  | a :: b :: l, h1, h2 => ⟨h1.1, CN_app (b :: l) h1.2 h2⟩
theorem CN_get {B : Nat → Nat → Option Nat} : ∀ (K : List Nat) (t : Nat) (h : t + 1 < K.length), CN B K → B (K[t]'(by omega)) K[t + 1] = none
  | a :: b :: l, 0, _, hc => hc.1
  | a :: b :: l, t + 1, h, hc => CN_get (b :: l) t (by simp at h ⊢; omega) hc.2
  | [a], t, h, _ => by simp at h
  | [], t, h, _ => by simp at h
theorem CN_Tk {B : Nat → Nat → Option Nat} (hB : ∀ i k m, B i k = some m → i < m ∧ m < k) : ∀ (n i k : Nat), k - i ≤ n → CN B (i :: Tk B i k ++ [k]) := by
  intro n
  induction n with
  | zero =>
    intro i k h
    cases hb : B i k with
    | none => rw [Tk_none B hb]; exact ⟨hb, trivial⟩
    | some m => have := hB i k m hb; omega
  | succ n ih =>
    intro i k h
    cases hb : B i k with
    | none => rw [Tk_none B hb]; exact ⟨hb, trivial⟩
    | some m =>
      have hm := hB i k m hb
      rw [Tk_some B hB hb]
      have h1 := ih i m (by omega)
      have h2 := ih m k (by omega)
      have := CN_app (r := Tk B m k ++ [k]) (i :: Tk B i m) h1 (by simpa using h2)
      simpa using this
theorem CN_kept (l : List api_Fix) (q : Int) : CN (bestO l q) (keptL l q) := by
  unfold keptL
  split
  · trivial
  split
  · trivial
  · rw [exF_two]
    exact CN_Tk (bestO_in l q) _ _ _ (Nat.le_refl _)
theorem kept_ends {l : List api_Fix} {q : Int} (h : 0 < l.length) : ∃ K, keptL l q = 0 :: K ∧ (keptL l q).getLast? = some (l.length - 1) := by
  unfold keptL
  rw [if_neg (by omega)]
  split
  · rename_i h1
    exact ⟨[], rfl, by simp [h1]⟩
  · rw [exF_two]
    exact ⟨Tk (bestO l q) 0 (l.length - 1) ++ [l.length - 1], rfl, by rw [List.getLast?_append]; simp⟩
theorem bst_pos {l : List api_Fix} {i k : Nat} : ∀ (c m : Nat) (s : api_Fraction × Int), 0 ≤ s.2 → 0 ≤ (bstN l i k c m s).2
  | 0, m, s, h => h
  | c + 1, m, s, h => by
    unfold bstN
    refine bst_pos c (m + 1) _ ?_
    unfold stp
    cases frL s.1 (farF (fsp (fx l i)) (fsp (fx l k)) (fsp (fx l m)))
    · exact h
    · exact Int.natCast_nonneg m
theorem bst_none {l : List api_Fix} {i k : Nat} : ∀ (c m : Nat) (s : api_Fraction × Int), (bstN l i k c m s).2 < 0 → ∀ j, m ≤ j → j < m + c → frL s.1 (farF (fsp (fx l i)) (fsp (fx l k)) (fsp (fx l j))) = false
  | 0, m, s, h, j, h1, h2 => by omega
  | c + 1, m, s, h, j, h1, h2 => by
    unfold bstN at h
    cases hf : frL s.1 (farF (fsp (fx l i)) (fsp (fx l k)) (fsp (fx l m))) with
    | true =>
      exfalso
      have := bst_pos (l := l) (i := i) (k := k) c (m + 1) (stp l i k s m) (by unfold stp; rw [hf]; exact Int.natCast_nonneg m)
      omega
    | false =>
      have e : stp l i k s m = s := by unfold stp; rw [hf]; rfl
      rw [e] at h
      by_cases hj : j = m
      · rw [hj]; exact hf
      · exact bst_none c (m + 1) s h j (by omega) (by omega)
theorem best_none {l : List api_Fix} {q : Int} {i k : Nat} (h : bestO l q i k = none) {j : Nat} (h1 : i < j) (h2 : j < k) : frL (api_Fraction.mk (q * q) 1) (farF (fsp (fx l i)) (fsp (fx l k)) (fsp (fx l j))) = false := by
  unfold bestO at h
  have hv : ¬ (i < k ∧ 0 ≤ bestV l q i k) := fun hh => by rw [if_pos hh] at h; cases h
  have hv : bestV l q i k < 0 := by omega
  unfold bestV at hv
  exact bst_none _ _ (api_Fraction.mk (q * q) 1, -1) hv j (by omega) (by omega)
theorem kept_near {l : List api_Fix} {q : Int} {t : Nat} (ht : t + 1 < (keptL l q).length) {j : Nat} (h1 : (keptL l q)[t] < j) (h2 : j < (keptL l q)[t + 1]) :
    frL (api_Fraction.mk (q * q) 1) (farF (fsp (fx l (keptL l q)[t])) (fsp (fx l (keptL l q)[t + 1])) (fsp (fx l j))) = false :=
  best_none (CN_get _ t ht (CN_kept l q)) h1 h2
open scoped Classical in
/-- not farther, without fractions -/
theorem near_iff {a b s : api_Spot} (ha : InB a) (hb : InB b) (hs : InB s) {q : Int} : frL (api_Fraction.mk (q * q) 1) (farF a b s) = false ↔
    (if along a b s ≤ 0 then sqS a s ≤ q * q else if sqS a b ≤ along a b s then sqS b s ≤ q * q else sd a.X a.Y b.X b.Y s.X s.Y * sd a.X a.Y b.X b.Y s.X s.Y ≤ q * q * sqS a b) := by
  unfold frL farF
  by_cases c1 : along a b s ≤ 0
  · rw [if_pos c1, if_pos c1]; simp
  · rw [if_neg c1, if_neg c1]
    by_cases c2 : sqS a b ≤ along a b s
    · rw [if_pos c2, if_pos c2]; simp
    · rw [if_neg c2, if_neg c2]
      have hd : 1 ≤ sqS a b := by omega
      have hn := (sdsq_bd ha hb hs).1
      generalize sd a.X a.Y b.X b.Y s.X s.Y * sd a.X a.Y b.X b.Y s.X s.Y = n at hn ⊢
      generalize sqS a b = d at hd ⊢
      have g1 := gcd_facts hn hd
      have dn : ((n.toNat.gcd d.toNat : Nat) : Int) ∣ n := by
        have : ((n.toNat.gcd d.toNat : Nat) : Int) ∣ (n.toNat : Int) := Int.ofNat_dvd.2 (Nat.gcd_dvd_left _ _)
        rwa [Int.toNat_of_nonneg hn] at this
      have dd : ((n.toNat.gcd d.toNat : Nat) : Int) ∣ d := by
        have : ((n.toNat.gcd d.toNat : Nat) : Int) ∣ (d.toNat : Int) := Int.ofNat_dvd.2 (Nat.gcd_dvd_right _ _)
        rwa [Int.toNat_of_nonneg (by omega)] at this
      unfold lowF
      generalize ((n.toNat.gcd d.toNat : Nat) : Int) = g at g1 dn dd
      obtain ⟨x, rfl⟩ := dn
      obtain ⟨y, rfl⟩ := dd
      rw [Int.mul_ediv_cancel_left x (by omega), Int.mul_ediv_cancel_left y (by omega)]
      simp only [Int.mul_one, decide_eq_false_iff_not, Int.not_lt]
      have e : q * q * (g * y) = g * (q * q * y) := by grind
      rw [e]
      exact ⟨fun h => Int.mul_le_mul_of_nonneg_left h (by omega), fun h => Int.le_of_mul_le_mul_left h (by omega)⟩
end Go.Eng

/-
What is left out of a track is near; what is kept is hardly longer.
-/
namespace Go.Eng
open Go Geo
set_option linter.unusedVariables false
set_option linter.unusedSimpArgs false
theorem part_loop2 {l : List api_Fix} {K : List Nat} (hK : K.length ≤ 14) (hin : ∀ x ∈ K, x < l.length) : loopO (fleetkeep2_TracksStayPlain_x2 l (K.map Int.ofNat)) ([], 0) = some (K.map (fx l)) := by
  apply Ok.eq
  refine loop_ok (fun s : List api_Fix × Int => ∃ k : Nat, s.2 = (k : Int) ∧ k ≤ K.length ∧ s.1 = (K.take k).map (fx l)) (fun s => ((K.length : Int) - s.2).toNat) ?_ ⟨0, rfl, by omega, by simp⟩
  rintro ⟨m, q⟩ ⟨k, rfl, hk, e⟩
  simp only at e
  unfold fleetkeep2_TracksStayPlain_x2
  rw [List.length_map]
  by_cases h : k < K.length
  · have h' : (k : Int) < K.length := by omega
    have w1 : IntKind.wrap .i64 ((k : Int) + 1) = ((k + 1 : Nat) : Int) := by rw [wrap64 (by omega) (by omega)]; omega
    have hx := at_fx (hin _ (List.getElem_mem h))
    simp only [h', decide_true, cond_true, at_mapN h, Option.bind_some, hx.1, w1]
    rw [gd_true (ble_lim (by rw [e]; simp; omega))]
    refine .some ⟨⟨k + 1, rfl, h, ?_⟩, by omega⟩
    simp only
    rw [e, List.take_succ_eq_append_getElem h, List.map_append]
    rfl
  · have h' : ¬ (k : Int) < K.length := by omega
    simp only [h', decide_false, cond_false]
    refine .some ?_
    rw [e, List.take_of_length_le (by omega)]
theorem part_track {l : List api_Fix} : ∀ {K : List Nat}, K.Pairwise (· < ·) → (∀ x ∈ K, x < l.length) → (K.map (fx l)).Sublist l := by
  have key : ∀ (K : List Nat) (i : Nat), K.Pairwise (· < ·) → (∀ x ∈ K, i ≤ x ∧ x < l.length) → (K.map (fx l)).Sublist (l.drop i) := by
    intro K
    induction K with
    | nil => intro i _ _; exact List.nil_sublist _
    | cons a K ih =>
      intro i hs hin
      have ha := hin a (by simp)
      have h1 := ih (a + 1) (List.Pairwise.of_cons hs) fun x hx => ⟨List.rel_of_pairwise_cons hs hx, (hin x (List.mem_cons_of_mem _ hx)).2⟩
      have h2 : (fx l a :: K.map (fx l)).Sublist (l.drop a) := by
        rw [drop_get ha.2, fx_get ha.2]
        exact h1.cons_cons _
      refine h2.trans ?_
      have : l.drop a = (l.drop i).drop (a - i) := by rw [List.drop_drop, show i + (a - i) = a by omega]
      rw [this]
      exact List.drop_sublist _ _
  intro K hs hin
  have := key K 0 hs fun x hx => ⟨by omega, hin x hx⟩
  simpa using this
theorem TrackR.part {l m : List api_Fix} (h : TrackR l) (hs : m.Sublist l) : TrackR m := ⟨Nat.le_trans hs.length_le h.1, fun x hx => h.2.1 x (hs.subset hx), h.2.2.sublist hs⟩
theorem less_int (x y : Int) : cmp_Less_int x y = some (decide (x < y)) := by
  unfold cmp_Less_int cmp_Less_int_x1 cmp_isNaN_int
  simp
theorem sorted_eq {K : List Nat} (hl : K.length ≤ 1000) (hs : K.Pairwise (· < ·)) : slices_IsSorted_int_int (K.map Int.ofNat) = some true := by
  unfold slices_IsSorted_int_int
  have key : loopO (slices_IsSorted_int_int_x1 (K.map Int.ofNat)) (IntKind.wrap .i64 (((K.map Int.ofNat).length : Int) - 1)) = some (.inl ()) := by
    apply Ok.eq
    rw [List.length_map, wrap64 (by omega) (by omega)]
    refine loop_ok (fun i : Int => i < K.length) (fun i => i.toNat) ?_ (by omega)
    intro i hi
    unfold slices_IsSorted_int_int_x1
    by_cases h0 : 0 < i
    · obtain ⟨j, rfl⟩ : ∃ j : Nat, i = ((j + 1 : Nat) : Int) := ⟨(i - 1).toNat, by omega⟩
      have w1 : IntKind.wrap .i64 (((j + 1 : Nat) : Int) - 1) = (j : Int) := by rw [wrap64 (by omega) (by omega)]; omega
      have hj : j + 1 < K.length := by omega
      have hlt := List.pairwise_iff_getElem.1 hs j (j + 1) (by omega) hj (by omega)
      have n : ¬ ((K[j + 1] : Nat) : Int) < ((K[j] : Nat) : Int) := by omega
      simp only [h0, decide_true, cond_true, w1, at_mapN hj, at_mapN (show j < K.length by omega), Option.bind_some, less_int, n, decide_false, cond_false]
      exact .some ⟨by omega, by omega⟩
    · simp only [h0, decide_false, cond_false]
      exact .some rfl
  rw [key]
  rfl
theorem index_at {K : List Nat} (hl : K.length ≤ 1000) {i t : Nat} (ht : t < K.length) (h1 : i ≤ K[t]) (h2 : ∀ (u : Nat) (hu : u < t), K[u]'(by omega) < i) : slices_IndexFunc_int_int_f1_fleetkeep2_TracksStayPlain_1 (K.map Int.ofNat) (i : Int) = some (t : Int) := by
  unfold slices_IndexFunc_int_int_f1_fleetkeep2_TracksStayPlain_1
  have key : loopO (slices_IndexFunc_int_int_f1_fleetkeep2_TracksStayPlain_1_x1 (K.map Int.ofNat) (i : Int)) 0 = some (.inr (t : Int)) := by
    apply Ok.eq
    refine loop_ok (fun q : Int => ∃ k : Nat, q = (k : Int) ∧ k ≤ t) (fun q => ((t : Int) - q).toNat) ?_ ⟨0, rfl, by omega⟩
    rintro q ⟨k, rfl, hk⟩
    have hkK : k < K.length := by omega
    have hk' : (k : Int) < K.length := by omega
    have w1 : IntKind.wrap .i64 ((k : Int) + 1) = ((k + 1 : Nat) : Int) := by rw [wrap64 (by omega) (by omega)]; omega
    unfold slices_IndexFunc_int_int_f1_fleetkeep2_TracksStayPlain_1_x1 fleetkeep2_TracksStayPlain_1
    rw [List.length_map]
    simp only [hk', decide_true, cond_true, at_mapN hkK, Option.bind_some, w1]
    by_cases hkt : k = t
    · subst hkt
      have : (i : Int) ≤ ((K[k] : Nat) : Int) := by omega
      simp only [this, decide_true, cond_true]
      exact .some rfl
    · have := h2 k (by omega)
      have : ¬ (i : Int) ≤ ((K[k] : Nat) : Int) := by omega
      simp only [this, decide_false, cond_false]
      exact .some ⟨⟨k + 1, rfl, by omega⟩, by omega⟩
  rw [key]
  rfl
/-- the first that is not less -/
theorem first_ge {K : List Nat} {i n : Nat} (h : K.getLast? = some n) (hi : i ≤ n) : ∃ t, ∃ ht : t < K.length, i ≤ K[t] ∧ ∀ (u : Nat) (hu : u < t), K[u]'(by omega) < i := by
  have hne : K ≠ [] := fun e => by rw [e] at h; cases h
  have hl : 0 < K.length := List.length_pos_iff.2 hne
  have hlast : K[K.length - 1] = n := by
    rw [List.getLast?_eq_getElem?, List.getElem?_eq_getElem (by omega)] at h
    exact Option.some.inj h
  have key : ∀ (c u : Nat) (hc : u + c = K.length - 1), (∀ (v : Nat) (hv : v < u), K[v]'(by omega) < i) → ∃ t, ∃ ht : t < K.length, i ≤ K[t] ∧ ∀ (u : Nat) (hu : u < t), K[u]'(by omega) < i := by
    intro c
    induction c with
    | zero =>
      intro u hu hb
      have : u = K.length - 1 := by omega
      subst this
      exact ⟨K.length - 1, by omega, by omega, hb⟩
    | succ c ih =>
      intro u hu hb
      by_cases h1 : i ≤ K[u]'(by omega)
      · exact ⟨u, by omega, h1, hb⟩
      · refine ih (u + 1) (by omega) fun v hv => ?_
        by_cases h2 : v = u
        · subst h2; omega
        · exact hb v (by omega)
  exact key (K.length - 1) 0 (by omega) fun v hv => by omega
theorem near_code {a b x : api_Fix} (ha : FixV a) (hb : FixV b) (hx : FixV x) {q : Int} (hq : 0 ≤ q ∧ q ≤ 6) (h : frL (api_Fraction.mk (q * q) 1) (farF (fsp a) (fsp b) (fsp x)) = false) : fleetkeep2_nearWay a b x q = some true := by
  have h1 := (near_iff (a := fsp a) (b := fsp b) (s := fsp x) ha.2.1 hb.2.1 hx.2.1).1 h
  have b1 := ha.2.1; have b2 := hb.2.1; have b3 := hx.2.1
  unfold InB at b1 b2 b3
  simp only at b1 b2 b3
  have sdw := side_wrap ha.2.1 hb.2.1 hx.2.1
  have sdb := sd_bd ha.2.1 hb.2.1 hx.2.1
  have sdq := sdsq_bd ha.2.1 hb.2.1 hx.2.1
  have q0 : 0 ≤ q * q ∧ q * q ≤ 36 := by
    have := Int.mul_le_mul hq.2 hq.2 hq.1 (by omega)
    have := Int.mul_nonneg hq.1 hq.1
    omega
  have wq : IntKind.wrap .i64 (q * q) = q * q := wrap64 (by omega) (by omega)
  have D : ∀ {u v : Int}, (-20000 ≤ u ∧ u ≤ 20000) → IntKind.wrap .i64 u = u := fun h => wrap64 (by omega) (by omega)
  unfold fleetkeep2_nearWay
  rw [wrap64 (n := b.X - a.X) (by omega) (by omega), wrap64 (n := b.Y - a.Y) (by omega) (by omega), wrap64 (n := x.X - a.X) (by omega) (by omega), wrap64 (n := x.Y - a.Y) (by omega) (by omega), wrap64 (n := x.X - b.X) (by omega) (by omega), wrap64 (n := x.Y - b.Y) (by omega) (by omega)]
  have m1 := wdot (x := x.X - a.X) (y := b.X - a.X) (u := x.Y - a.Y) (v := b.Y - a.Y) (by omega) (by omega) (by omega) (by omega)
  have m2 := wdot (x := x.X - a.X) (y := x.X - a.X) (u := x.Y - a.Y) (v := x.Y - a.Y) (by omega) (by omega) (by omega) (by omega)
  have m3 := wdot (x := b.X - a.X) (y := b.X - a.X) (u := b.Y - a.Y) (v := b.Y - a.Y) (by omega) (by omega) (by omega) (by omega)
  have m4 := wdot (x := x.X - b.X) (y := x.X - b.X) (u := x.Y - b.Y) (v := x.Y - b.Y) (by omega) (by omega) (by omega) (by omega)
  have w5 := (wmul (x := b.X - a.X) (y := x.Y - a.Y) (by omega) (by omega))
  have w6 := (wmul (x := b.Y - a.Y) (y := x.X - a.X) (by omega) (by omega))
  rw [m1.1, m2.1, m3.1, m4.1, wq, w5.1, w6.1]
  have e1 : along (fsp a) (fsp b) (fsp x) = (x.X - a.X) * (b.X - a.X) + (x.Y - a.Y) * (b.Y - a.Y) := rfl
  have e2 : sqS (fsp a) (fsp x) = (x.X - a.X) * (x.X - a.X) + (x.Y - a.Y) * (x.Y - a.Y) := by unfold sqS fsp; grind
  have e3 : sqS (fsp a) (fsp b) = (b.X - a.X) * (b.X - a.X) + (b.Y - a.Y) * (b.Y - a.Y) := by unfold sqS fsp; grind
  have e4 : sqS (fsp b) (fsp x) = (x.X - b.X) * (x.X - b.X) + (x.Y - b.Y) * (x.Y - b.Y) := by unfold sqS fsp; grind
  have e5 : sd (fsp a).X (fsp a).Y (fsp b).X (fsp b).Y (fsp x).X (fsp x).Y = (b.X - a.X) * (x.Y - a.Y) - (b.Y - a.Y) * (x.X - a.X) := by unfold sd fsp; grind
  rw [← e1, ← e2, ← e3, ← e4, ← e5]
  have s3 := sqS_bd ha.2.1 hb.2.1
  have s3 : 0 ≤ sqS (fsp a) (fsp b) ∧ sqS (fsp a) (fsp b) ≤ 800000000 := s3
  have sdb : -800000000 ≤ sd (fsp a).X (fsp a).Y (fsp b).X (fsp b).Y (fsp x).X (fsp x).Y ∧ sd (fsp a).X (fsp a).Y (fsp b).X (fsp b).Y (fsp x).X (fsp x).Y ≤ 800000000 := sdb
  have sdq : 0 ≤ sd (fsp a).X (fsp a).Y (fsp b).X (fsp b).Y (fsp x).X (fsp x).Y * sd (fsp a).X (fsp a).Y (fsp b).X (fsp b).Y (fsp x).X (fsp x).Y ∧ sd (fsp a).X (fsp a).Y (fsp b).X (fsp b).Y (fsp x).X (fsp x).Y * sd (fsp a).X (fsp a).Y (fsp b).X (fsp b).Y (fsp x).X (fsp x).Y ≤ 640000000000000000 := sdq
  have w7 : IntKind.wrap .i64 (sd (fsp a).X (fsp a).Y (fsp b).X (fsp b).Y (fsp x).X (fsp x).Y) = sd (fsp a).X (fsp a).Y (fsp b).X (fsp b).Y (fsp x).X (fsp x).Y := wrap64 (by omega) (by omega)
  have w8 : IntKind.wrap .i64 (sd (fsp a).X (fsp a).Y (fsp b).X (fsp b).Y (fsp x).X (fsp x).Y * sd (fsp a).X (fsp a).Y (fsp b).X (fsp b).Y (fsp x).X (fsp x).Y) = sd (fsp a).X (fsp a).Y (fsp b).X (fsp b).Y (fsp x).X (fsp x).Y * sd (fsp a).X (fsp a).Y (fsp b).X (fsp b).Y (fsp x).X (fsp x).Y := wrap64 (by omega) (by omega)
  have q1 : 0 ≤ q * q * sqS (fsp a) (fsp b) := Int.mul_nonneg q0.1 s3.1
  have q2 : q * q * sqS (fsp a) (fsp b) ≤ 36 * 800000000 := Int.mul_le_mul q0.2 s3.2 s3.1 (by omega)
  have w9 : IntKind.wrap .i64 (q * q * sqS (fsp a) (fsp b)) = q * q * sqS (fsp a) (fsp b) := wrap64 (by omega) (by omega)
  rw [w7, w8, w9]
  by_cases c1 : along (fsp a) (fsp b) (fsp x) ≤ 0
  · rw [if_pos c1] at h1
    simp only [c1, h1, decide_true, cond_true]
  · rw [if_neg c1] at h1
    by_cases c2 : sqS (fsp a) (fsp b) ≤ along (fsp a) (fsp b) (fsp x)
    · rw [if_pos c2] at h1
      simp only [c1, c2, h1, decide_true, decide_false, cond_true, cond_false]
    · rw [if_neg c2] at h1
      simp only [c1, c2, decide_true, decide_false, cond_true, cond_false]
      congr 1
      exact decide_eq_true h1
theorem TracksStayPlain_true (L : List Int) (hL : L.length ≤ 9223372036854775807) (hI : ∀ n ∈ L, -9223372036854775808 ≤ n ∧ n ≤ 9223372036854775807) : fleetkeep2_TracksStayPlain L = some true := by
  apply Ok.eq
  unfold fleetkeep2_TracksStayPlain
  have h0 : StrOk 0 (fleetmake_Stream.mk L 0) := ⟨Int.le_refl _, by simp, hL, hI⟩
  refine (RightTrack_ok (most := 12) ⟨by omega, by omega⟩ h0 (by omega)).bind fun ⟨s2, l⟩ ⟨a1, a2, a3⟩ => ?_
  refine (Range_ok a1 (by omega) (by omega) (by omega)).bind fun ⟨s3, q⟩ ⟨b1, b2, b3, _⟩ => ?_
  have b3 : q ≤ 6 := b3 (by omega)
  have b2 : 0 ≤ q := b2
  have t : TrackR l := a2
  have hlen := t.1
  have hg : ∀ x ∈ l, FixV x := fun x hx => (t.2.1 x hx).V
  have hp := Plain_eq hg hlen (q := q) ⟨b2, by omega⟩ (track_ok t)
  have ks := (kept_sorted (l := l) (q := q)).1
  have kin := (kept_sorted (l := l) (q := q)).2
  have kl := few_below ks kin
  have tb := t.part (part_track ks kin)
  have hgb : ∀ x ∈ (keptL l q).map (fx l), FixV x := fun x hx => (tb.2.1 x hx).V
  have n1 := lenL_bd _ hg
  have n2 := lenL_bd _ hgb
  have n3 := part_le hg ks kin
  have x1 : fleetkeep2_TracksStayPlain_x1 l ((keptL l q).map Int.ofNat) 0 = some false := by
    unfold fleetkeep2_TracksStayPlain_x1
    simp only [decide_true, Bool.not_true, cond_false, sorted_eq (show (keptL l q).length ≤ 1000 by omega) ks, Option.bind_some]
    by_cases hl0 : l.length = 0
    · simp [hl0]
    · have hl1 : (0 : Int) < l.length := by omega
      obtain ⟨K, hK, hlast⟩ := kept_ends (l := l) (q := q) (by omega)
      have hKl : 0 < (keptL l q).length := by rw [hK]; simp
      have hn : ¬ (((keptL l q).length : Nat) : Int) = 0 := by omega
      have at0 : at? ((keptL l q).map Int.ofNat) 0 = some 0 := by rw [hK]; rfl
      have w1 : IntKind.wrap .i64 ((((keptL l q).length : Nat) : Int) - 1) = (((keptL l q).length - 1 : Nat) : Int) := by rw [wrap64 (by omega) (by omega)]; omega
      have w2 : IntKind.wrap .i64 ((l.length : Int) - 1) = ((l.length - 1 : Nat) : Int) := by rw [wrap64 (by omega) (by omega)]; omega
      have hlv : (keptL l q)[(keptL l q).length - 1] = l.length - 1 := by
        rw [List.getLast?_eq_getElem?, List.getElem?_eq_getElem (by omega)] at hlast
        exact Option.some.inj hlast
      simp only [hl1, decide_true, cond_true, List.length_map, hn, decide_false, cond_false, at0, Option.bind_some, Bool.not_true, w1, w2, at_mapN (show (keptL l q).length - 1 < (keptL l q).length by omega), hlv]
  have x3 : loopO (fleetkeep2_TracksStayPlain_x3 l q ((keptL l q).map Int.ofNat)) 0 = some (.inl ()) := by
    apply Ok.eq
    refine loop_ok (fun i : Int => ∃ j : Nat, i = (j : Int)) (fun i => ((l.length : Int) - i).toNat) ?_ ⟨0, rfl⟩
    rintro i ⟨j, rfl⟩
    unfold fleetkeep2_TracksStayPlain_x3
    by_cases hj : j < l.length
    · have hj' : (j : Int) < l.length := by omega
      have w1 : IntKind.wrap .i64 ((j : Int) + 1) = ((j + 1 : Nat) : Int) := by rw [wrap64 (by omega) (by omega)]; omega
      obtain ⟨K, hK, hlast⟩ := kept_ends (l := l) (q := q) (by omega)
      obtain ⟨u, hu, u1, u2⟩ := first_ge hlast (show j ≤ l.length - 1 by omega)
      have x4 : fleetkeep2_TracksStayPlain_x4 l q ((keptL l q).map Int.ofNat) (j : Int) (u : Int) = some false := by
        unfold fleetkeep2_TracksStayPlain_x4
        have c0 : ¬ (u : Int) < 0 := by omega
        simp only [c0, decide_false, cond_false, at_mapN hu, Option.bind_some]
        by_cases he : (keptL l q)[u] = j
        · have : ((((keptL l q)[u] : Nat)) : Int) = (j : Int) := by omega
          simp only [this, decide_true, Bool.not_true, cond_false]
        · have hne : ¬ ((((keptL l q)[u] : Nat)) : Int) = (j : Int) := by omega
          have hu0 : u ≠ 0 := by
            intro h
            subst h
            have h00 : (keptL l q)[0] = 0 := by simp only [hK, List.getElem_cons_zero]
            omega
          obtain ⟨v, rfl⟩ : ∃ v, u = v + 1 := ⟨u - 1, by omega⟩
          have hu0' : ¬ ((v + 1 : Nat) : Int) = 0 := by omega
          have w2 : IntKind.wrap .i64 (((v + 1 : Nat) : Int) - 1) = (v : Int) := by rw [wrap64 (by omega) (by omega)]; omega
          have hv : v < (keptL l q).length := by omega
          have k1 := kin _ (List.getElem_mem hu)
          have k2 := kin _ (List.getElem_mem hv)
          have near := near_code (fx_V hg k2) (fx_V hg k1) (fx_V hg hj) (q := q) ⟨b2, b3⟩ (kept_near hu (u2 v (by omega)) (by omega))
          simp only [hne, decide_false, Bool.not_false, cond_true, hu0', cond_false, w2, at_mapN hv, Option.bind_some, (at_fx k1).1, (at_fx k2).1, (at_fx hj).1, near, Bool.not_true]
      simp only [hj', decide_true, cond_true, index_at (show (keptL l q).length ≤ 1000 by omega) hu u1 u2, Option.bind_some, x4, cond_false, w1]
      exact .some ⟨⟨j + 1, rfl⟩, by omega⟩
    · have hj' : ¬ (j : Int) < l.length := by omega
      simp only [hj', decide_false, cond_false]
      exact .some rfl
  have w2 : IntKind.wrap .i64 ((2 : Int) * (l.length : Int)) = 2 * (l.length : Int) := wrap64 (by omega) (by omega)
  have w3 : IntKind.wrap .i64 (lenL l + 2 * (l.length : Int)) = lenL l + 2 * (l.length : Int) := wrap64 (by omega) (by omega)
  have c : lenL ((keptL l q).map (fx l)) ≤ lenL l + 2 * (l.length : Int) := by omega
  simp only [hp, Option.bind_some, x1, cond_false, part_loop2 (show (keptL l q).length ≤ 14 by omega) kin, x3, Length_eq hlen hg (track_ok t), Length_eq tb.1 hgb (track_ok tb)]
  unfold fleetkeep2_TracksStayPlain_x5
  simp only [decide_true, cond_true, w2, w3, c, ready_eq, Option.bind_some]
  exact .some rfl
end Go.Eng

