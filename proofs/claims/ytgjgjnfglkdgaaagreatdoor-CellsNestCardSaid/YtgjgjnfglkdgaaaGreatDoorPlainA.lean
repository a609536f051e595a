/-
What the plain functions of the law CellsNest answer, part 1.
-/
import Derived.Test.YtgjgjnfglkdgaaaGreatDoorGenF
import Derived.KernelRfl
import Derived.Lib.SlTrimSet
import Derived.Test.YtgjgjnfglkdgaaaGreatDoorEngV
/-
Plain functions: what they answer, in total. Loops by an invariant and a measure.
-/
namespace Go.Eng
open Go
set_option linter.unusedVariables false
set_option linter.unusedSimpArgs false

def Ok {α : Type} (x : Option α) (P : α → Prop) : Prop := ∃ r, x = some r ∧ P r
section
variable {α β σ ρ : Type} {P Q : α → Prop} {R : β → Prop}
theorem Ok.some {r : α} (h : P r) : Ok (some r) P := ⟨r, rfl, h⟩
theorem Ok.mono {x : Option α} (h : Ok x P) (hq : ∀ r, P r → Q r) : Ok x Q := let ⟨r, h1, h2⟩ := h; ⟨r, h1, hq r h2⟩
theorem Ok.bind {x : Option α} {f : α → Option β} (h : Ok x P) (hf : ∀ r, P r → Ok (f r) R) : Ok (x.bind f) R := by
  obtain ⟨r, rfl, hr⟩ := h
  exact hf r hr
theorem Ok.cond {b : Bool} {x y : Option α} (ht : b = true → Ok x P) (hf : b = false → Ok y P) : Ok (cond b x y) P := by
  cases b
  · exact hf rfl
  · exact ht rfl
theorem Ok.gd {b : Bool} {x : Option α} (hb : b = true) (h : Ok x P) : Ok (gd b x) P := by
  subst hb; exact h
theorem Ok.eq {x : Option α} {r : α} (h : Ok x fun y => y = r) : x = Option.some r := by
  obtain ⟨y, h1, h2⟩ := h
  rw [h1, h2]
theorem Ok.of_eq {x : Option α} {r : α} (h : x = Option.some r) (hp : P r) : Ok x P := ⟨r, h, hp⟩

theorem loop_ok {f : σ → Option (σ ⊕ ρ)} {Q : ρ → Prop} (I : σ → Prop) (μ : σ → Nat)
    (step : ∀ s, I s → Ok (f s) fun x => match x with | .inl s' => I s' ∧ μ s' < μ s | .inr r => Q r) {s : σ} (h : I s) : Ok (loopO f s) Q := by
  generalize hn : μ s = n
  induction n using Nat.strongRecOn generalizing s with
  | _ n ih =>
    obtain ⟨x, h1, h2⟩ := step s h
    cases x with
    | inl s' =>
      obtain ⟨h3, h4⟩ := h2
      obtain ⟨r, h5, h6⟩ := ih (μ s') (by omega) h3 rfl
      refine ⟨r, ?_, h6⟩
      rw [loopO_eq, h1]
      exact h5
    | inr r =>
      refine ⟨r, ?_, h2⟩
      rw [loopO_eq, h1]
      rfl

theorem at_lt {l : List α} {n : Int} (h : 0 ≤ n) (h2 : n < l.length) : at? l n = Option.some (l[n.toNat]'(by omega)) := by
  unfold at?
  rw [if_pos h, List.getElem?_eq_getElem]
theorem at_nat {l : List α} {n : Nat} (h : n < l.length) : at? l (n : Int) = Option.some l[n] := by
  rw [at_lt (by omega) (by omega)]
  simp
theorem at_ok {l : List α} {n : Int} (h : 0 ≤ n) (h2 : n < l.length) : Ok (at? l n) (fun y => l[n.toNat]? = Option.some y) := by
  refine ⟨_, at_lt h h2, ?_⟩
  rw [List.getElem?_eq_getElem]
theorem at_mem {l : List α} {n : Int} (h : 0 ≤ n) (h2 : n < l.length) : Ok (at? l n) (fun y => y ∈ l) := by
  refine (at_ok h h2).mono fun y hy => List.mem_of_getElem? hy
end

/-! ### Integers of 64 bits -/
def I64 (n : Int) : Prop := -9223372036854775808 ≤ n ∧ n ≤ 9223372036854775807
theorem wrap64 {n : Int} (h : -9223372036854775808 ≤ n) (h2 : n ≤ 9223372036854775807) : IntKind.wrap .i64 n = n := by
  unfold IntKind.wrap
  simp [IntKind.min, IntKind.max, IntKind.bits, IntKind.signed]
  omega
theorem tmod_nonneg {a b : Int} (h : 0 ≤ a) : 0 ≤ a.tmod b := Int.tmod_nonneg b h
theorem tmod_lt' {a b : Int} (h : 0 < b) : a.tmod b < b := Int.tmod_lt_of_pos a h
theorem lim_eq : LIM = 137438953472 := by decide
theorem ble_lim {n : Nat} (h : n ≤ 137438953472) : Nat.ble n LIM = true := by rw [Nat.ble_eq, lim_eq]; exact h
end Go.Eng

/-
Loops over the elements of a list; keys.
-/
namespace Go.Eng
open Go
set_option linter.unusedVariables false
set_option linter.unusedSimpArgs false

/-- The first answer of the elements from number k on. -/
def scan {α ρ : Type} (g : Nat → α → Option ρ) : Nat → List α → Option ρ
  | _, [] => none
  | k, x :: xs => match g k x with
    | some r => some r
    | none => scan g (k + 1) xs

theorem drop_get {α : Type} {l : List α} {i : Nat} (h : i < l.length) : l.drop i = l[i] :: l.drop (i + 1) := List.drop_eq_getElem_cons h

/-- A loop over a list that ends at the first element with an answer. -/
theorem range_loop {α ρ : Type} {l : List α} {f : Int → Option (Int ⊕ ρ)} (g : Nat → α → Option ρ) (done : ρ) (hl : (l.length : Int) ≤ 9223372036854775807)
    (hf : ∀ (i : Nat) (h : i < l.length), f i = some (match g i l[i] with | none => .inl (IntKind.wrap .i64 (i + 1)) | some r => .inr r)) (hd : f l.length = some (.inr done)) :
    loopO f 0 = some ((scan g 0 l).getD done) := by
  have key : ∀ (n i : Nat), l.length - i = n → i ≤ l.length → loopO f i = some ((scan g i (l.drop i)).getD done) := by
    intro n
    induction n with
    | zero =>
      intro i h1 h2
      have : i = l.length := by omega
      subst this
      rw [loopO_eq, hd, List.drop_length]
      rfl
    | succ n ih =>
      intro i h1 h2
      have hi : i < l.length := by omega
      rw [loopO_eq, hf i hi, drop_get hi]
      simp only [scan]
      cases hg : g i l[i] with
      | some r => rfl
      | none =>
        simp only [Option.bind_some]
        rw [wrap64 (by omega) (by omega)]
        exact ih (i + 1) (by omega) (by omega)
  exact key l.length 0 (by omega) (by omega)

/-! ### Keys -/
def keyC (c : UInt8) : Bool := (97 ≤ c.toNat && c.toNat ≤ 122) || (48 ≤ c.toNat && c.toNat ≤ 57) || c.toNat == 45 || c.toNat == 95
def keyB (s : List UInt8) : Bool := match s with
  | [] => false
  | c :: l => decide (l.length < 40) && (97 ≤ c.toNat && c.toNat ≤ 122) && (c :: l).all keyC

theorem u8_lt (c : UInt8) : c.toNat < 256 := c.toNat_lt

theorem u8_all {p : UInt8 → Bool} (h : ((List.range 256).all fun n => p (UInt8.ofNat n)) = true) (c : UInt8) : p c = true := by
  have := List.all_eq_true.1 h c.toNat (List.mem_range.2 (u8_lt c))
  simpa using this
theorem Key_x3 (c : UInt8) : z39 c = some (!keyC c) := by
  have := u8_all (p := fun c => decide (z39 c = some (!keyC c))) (by decide +kernel) c
  simpa using this
theorem Key_x2 (s : List UInt8) (hs : (s.length : Int) ≤ 9223372036854775807) : loopO (z33 s) 0 = some (cond (s.all keyC) (.inl ()) (.inr ())) := by
  rw [range_loop (l := s) (fun _ c => cond (keyC c) none (some (.inr ()))) (.inl ()) hs]
  · congr 1
    generalize 0 = k
    induction s generalizing k with
    | nil => rfl
    | cons c s ih =>
      simp only [scan, List.all_cons]
      cases keyC c with
      | true => simp only [cond_true, Bool.true_and]; exact ih (by simp at hs; omega) (k + 1)
      | false => rfl
  · intro i hi
    unfold z33
    rw [at_nat hi]
    have : ((i : Int) < s.length) := by omega
    simp only [this, decide_true, cond_true, Option.bind_some, Key_x3]
    cases keyC s[i] <;> rfl
  · unfold z33
    simp
theorem Key_eq (s : List UInt8) (hs : (s.length : Int) ≤ 9223372036854775807) : base_Key s = some (keyB s) := by
  unfold base_Key z28
  cases s with
  | nil => simp [keyB]
  | cons c l =>
    rw [Key_x2 _ hs]
    have h0 : at? (c :: l) 0 = some c := rfl
    simp only [reduceCtorEq, decide_false, cond_false, h0, Option.bind_some]
    unfold keyB
    have h40 : ((40 : Int) < ((c :: l).length : Int)) ↔ ¬ l.length < 40 := by simp; omega
    by_cases h1 : l.length < 40
    · have h1' : ¬ ((40 : Int) < ((c :: l).length : Int)) := by rw [h40]; simpa using h1
      simp only [h1', decide_false, cond_false, h1, decide_true, Bool.true_and]
      by_cases h2 : (c.toNat : Int) < 97
      · have : ¬ 97 ≤ c.toNat := by omega
        simp [h2, this]
      · by_cases h3 : (122 : Int) < c.toNat
        · have : ¬ c.toNat ≤ 122 := by omega
          simp [h2, h3, this]
        · have g1 : 97 ≤ c.toNat := by omega
          have g2 : c.toNat ≤ 122 := by omega
          simp only [h2, decide_false, cond_false, h3, Option.bind_some, g1, g2, decide_true, Bool.and_self, Bool.true_and]
          cases (c :: l).all keyC <;> rfl
    · have h1' : ((40 : Int) < ((c :: l).length : Int)) := by rw [h40]; exact h1
      simp only [h1', h1, decide_true, decide_false, cond_true, Option.bind_some, Bool.false_and]
end Go.Eng

/-
Sorting of few elements, and what is left of equal ones, for all kinds of elements.
-/
namespace Go.Eng
open Go
set_option linter.unusedVariables false
set_option linter.unusedSimpArgs false

/-- Two loops side by side, over the same states. -/
theorem loop_two {σ ρ : Type} {f g : σ → Option (σ ⊕ ρ)} (I : σ → Prop) (μ : σ → Nat) (Q : ρ → Prop)
    (step : ∀ s, I s → (∃ s', f s = some (.inl s') ∧ g s = some (.inl s') ∧ I s' ∧ μ s' < μ s) ∨ (∃ r, f s = some (.inr r) ∧ g s = some (.inr r) ∧ Q r)) {s : σ} (h : I s) :
    ∃ r, loopO f s = some r ∧ loopO g s = some r ∧ Q r := by
  generalize hn : μ s = n
  induction n using Nat.strongRecOn generalizing s with
  | _ n ih =>
    rcases step s h with ⟨s', h1, h2, h3, h4⟩ | ⟨r, h1, h2, h3⟩
    · obtain ⟨r, g1, g2, g3⟩ := ih (μ s') (by omega) h3 rfl
      refine ⟨r, ?_, ?_, g3⟩
      · rw [loopO_eq, h1]; exact g1
      · rw [loopO_eq, h2]; exact g2
    · refine ⟨r, ?_, ?_, h3⟩
      · rw [loopO_eq, h1]; rfl
      · rw [loopO_eq, h2]; rfl

section
variable {α : Type}
/-! ### Insertion, as the code has it -/
def All (p : α → Prop) (l : List α) : Prop := ∀ x ∈ l, p x
theorem All.nil {p : α → Prop} : All p [] := fun _ h => nomatch h
theorem All.at {p : α → Prop} {l : List α} (h : All p l) {i : Nat} (hi : i < l.length) : p l[i] := h _ (List.getElem_mem hi)

/-! ### Equal ones, as the code has it -/
/-- A loop over all elements of a list that only gathers. -/
theorem gather_loop {τ σ ρ : Type} {l : List α} {f : τ → Option (τ ⊕ ρ)} (e : σ → Int → τ) (h : σ → α → σ) (fin : σ → ρ) (I : Nat → σ → Prop) {s0 : σ} (hl : (l.length : Int) ≤ 9223372036854775807)
    (hf : ∀ (i : Nat) (hi : i < l.length) (s : σ), I i s → f (e s i) = some (.inl (e (h s l[i]) (IntKind.wrap .i64 (i + 1)))) ∧ I (i + 1) (h s l[i])) (hd : ∀ s, I l.length s → f (e s l.length) = some (.inr (fin s))) (h0 : I 0 s0) :
    loopO f (e s0 0) = some (fin (l.foldl h s0)) ∧ I l.length (l.foldl h s0) := by
  have key : ∀ (n i : Nat) (s : σ), l.length - i = n → i ≤ l.length → I i s → loopO f (e s i) = some (fin ((l.drop i).foldl h s)) ∧ I l.length ((l.drop i).foldl h s) := by
    intro n
    induction n with
    | zero =>
      intro i s h1 h2 h3
      have : i = l.length := by omega
      subst this
      rw [List.drop_length]
      refine ⟨?_, h3⟩
      rw [loopO_eq, hd s h3]
      rfl
    | succ n ih =>
      intro i s h1 h2 h3
      have hi : i < l.length := by omega
      obtain ⟨g1, g2⟩ := hf i hi s h3
      obtain ⟨f1, f2⟩ := ih (i + 1) (h s l[i]) (by omega) (by omega) g2
      rw [drop_get hi, List.foldl_cons]
      refine ⟨?_, f2⟩
      rw [loopO_eq, g1]
      simp only [Option.bind_some]
      rw [wrap64 (by omega) (by omega)]
      exact f1
  have := key l.length 0 s0 (by omega) (by omega) h0
  simpa using this
end
end Go.Eng

/-
Small checks; the order of measurements.
-/
namespace Go.Eng
open Go
set_option linter.unusedVariables false
set_option linter.unusedSimpArgs false

theorem Out_eq (n low high : Int) : base_Out n low high = some (decide (n < low) || decide (high < n)) := by
  unfold base_Out z78
  by_cases h : n < low <;> simp [h]
theorem in_eq (n low high : Int) : z334 n low high = some (decide (low ≤ n) && decide (n ≤ high)) := by
  unfold z334 z337
  by_cases h : low ≤ n <;> simp [h]
/-! ### Orders -/
def cmpI (a b : Int) : Int := if a < b then -1 else if b < a then 1 else 0
theorem cmpB_anti : ∀ a b : List UInt8, Lib.compareBytes b a = -Lib.compareBytes a b
  | [], [] => rfl
  | [], _ :: _ => rfl
  | _ :: _, [] => rfl
  | x :: a, y :: b => by
    unfold Lib.compareBytes
    by_cases h1 : x < y
    · have h2 : ¬ y < x := UInt8.lt_asymm h1
      simp [h1, h2]
    · by_cases h2 : y < x
      · simp [h1, h2]
      · simp [h1, h2, cmpB_anti a b]
theorem cmpB_less : ∀ a b : List UInt8, Op.bytesLess a b = decide (Lib.compareBytes a b < 0)
  | [], [] => rfl
  | [], _ :: _ => rfl
  | _ :: _, [] => rfl
  | x :: a, y :: b => by
    unfold Lib.compareBytes
    rw [Op.bytesLess]
    by_cases h1 : x < y
    · simp [h1]
    · by_cases h2 : y < x
      · have h3 : ¬ x = y := fun h => UInt8.lt_irrefl x (by rw [h] at h2 ⊢; exact h2)
        simp [h1, h2, h3]
      · have h3 : x = y := UInt8.le_antisymm (UInt8.not_lt.1 h2) (UInt8.not_lt.1 h1)
        simp [h1, h2, h3, cmpB_less a b]
end Go.Eng

/-
Checks of measurements and series, both ways.
-/
namespace Go.Eng
open Go
set_option linter.unusedVariables false
set_option linter.unusedSimpArgs false

theorem cmpInt_eq (a b : Int) : z142 a b = some (cmpI a b) := by
  unfold z142 z161 cmpI
  by_cases h1 : a < b
  · simp [h1]
  · by_cases h2 : b < a <;> simp [h1, h2]
theorem sign_eq (n : Int) : z356 n = some (cmpI n 0) := by
  unfold z356 cmpI
  by_cases h1 : n < 0
  · simp [h1]
  · by_cases h2 : 0 < n <;> simp [h1, h2]
/-! ### Check -/
end Go.Eng

/-
Fixes: checks, orders, merging, those of a device.
-/
namespace Go.Eng
open Go
set_option linter.unusedVariables false
set_option linter.unusedSimpArgs false

/-! ### The library's functions are those for all kinds -/
/-! ### Checks -/
theorem isSpot_eq (s : api_Spot) : z505 s = some ((decide (-10000 ≤ s.X) && decide (s.X ≤ 10000)) && (decide (-10000 ≤ s.Y) && decide (s.Y ≤ 10000))) := by
  unfold z505 z508
  simp only [Out_eq, Option.bind_some]
  by_cases h1 : s.X < -10000 <;> by_cases h2 : 10000 < s.X <;> by_cases h3 : s.Y < -10000 <;> by_cases h4 : 10000 < s.Y <;> simp [h1, h2, h3, h4] <;> omega
theorem SpotFault_eq (s : api_Spot) : z317 s = some (cond ((decide (-10000 ≤ s.X) && decide (s.X ≤ 10000)) && (decide (-10000 ≤ s.Y) && decide (s.Y ≤ 10000))) 0 1) := by
  unfold z317 z320
  simp only [in_eq, Option.bind_some]
  cases (decide (-10000 ≤ s.X) && decide (s.X ≤ 10000)) <;> cases (decide (-10000 ≤ s.Y) && decide (s.Y ≤ 10000)) <;> rfl
/-! ### Merging -/
/-! ### Those of a device -/
end Go.Eng

/-
Plane geometry in whole numbers: parity and turns of a fence around a spot.
-/
namespace Go.Eng.Geo
/-- twice the area of the triangle a b s -/
def sd (ax ay bx b_y sx sy : Int) : Int := (bx - ax) * (sy - ay) - (b_y - ay) * (sx - ax)
def onb (ax ay bx b_y sx sy : Int) : Prop := sd ax ay bx b_y sx sy = 0 ∧ min ax bx ≤ sx ∧ sx ≤ max ax bx ∧ min ay b_y ≤ sy ∧ sy ≤ max ay b_y
def meetsP (ax ay bx b_y cx cy dx dy : Int) : Prop :=
  onb ax ay bx b_y cx cy ∨ onb ax ay bx b_y dx dy ∨ onb cx cy dx dy ax ay ∨ onb cx cy dx dy bx b_y ∨
  (sd ax ay bx b_y cx cy * sd ax ay bx b_y dx dy < 0 ∧ sd cx cy dx dy ax ay * sd cx cy dx dy bx b_y < 0)

theorem cpos {k x : Int} (hk : 0 < k) (h : 0 < k * x) : 0 < x := by
  by_cases h0 : 0 < x
  · exact h0
  · have := Int.mul_nonpos_of_nonneg_of_nonpos (show 0 ≤ k by omega) (show x ≤ 0 by omega); omega
theorem cneg {k x : Int} (hk : 0 < k) (h : k * x < 0) : x < 0 := by
  by_cases h0 : x < 0
  · exact h0
  · have := Int.mul_nonneg (show 0 ≤ k by omega) (show 0 ≤ x by omega); omega
theorem cnn {k x : Int} (hk : 0 < k) (h : 0 ≤ k * x) : 0 ≤ x := by
  by_cases h0 : 0 ≤ x
  · exact h0
  · have := Int.mul_neg_of_pos_of_neg hk (show x < 0 by omega); omega
theorem cnp {k x : Int} (hk : 0 < k) (h : k * x ≤ 0) : x ≤ 0 := by
  by_cases h0 : x ≤ 0
  · exact h0
  · have := Int.mul_pos hk (show 0 < x by omega); omega
theorem pp {a b : Int} (h1 : 0 < a) (h2 : 0 < b) : 0 < a * b := Int.mul_pos h1 h2
theorem pn {a b : Int} (h1 : 0 < a) (h2 : b < 0) : a * b < 0 := Int.mul_neg_of_pos_of_neg h1 h2
theorem np {a b : Int} (h1 : a < 0) (h2 : 0 < b) : a * b < 0 := Int.mul_neg_of_neg_of_pos h1 h2
theorem nn {a b : Int} (h1 : a < 0) (h2 : b < 0) : 0 < a * b := Int.mul_pos_of_neg_of_neg h1 h2
theorem PP {a b : Int} (h1 : 0 ≤ a) (h2 : 0 ≤ b) : 0 ≤ a * b := Int.mul_nonneg h1 h2
theorem PN {a b : Int} (h1 : 0 ≤ a) (h2 : b ≤ 0) : a * b ≤ 0 := Int.mul_nonpos_of_nonneg_of_nonpos h1 h2
theorem NP {a b : Int} (h1 : a ≤ 0) (h2 : 0 ≤ b) : a * b ≤ 0 := Int.mul_nonpos_of_nonpos_of_nonneg h1 h2
theorem NN {a b : Int} (h1 : a ≤ 0) (h2 : b ≤ 0) : 0 ≤ a * b := Int.mul_nonneg_of_nonpos_of_nonpos h1 h2

/-- a spot on the line of a way that rises, at a height within, is on the way -/
theorem onb_of_y {ax ay bx b_y sx sy : Int} (h : sd ax ay bx b_y sx sy = 0) (h1 : ay ≤ sy) (h2 : sy ≤ b_y) (h3 : ay < b_y) : onb ax ay bx b_y sx sy := by
  refine ⟨h, ?_⟩
  unfold sd at h
  have hk : (b_y - ay) * (sx - ax) = (bx - ax) * (sy - ay) := by omega
  have hk2 : (b_y - ay) * (sx - bx) = (bx - ax) * (sy - b_y) := by grind
  by_cases hx : bx < ax
  · have f1 := cnp (show 0 < b_y - ay by omega) (show (b_y - ay) * (sx - ax) ≤ 0 by rw [hk]; exact NP (by omega) (by omega))
    have f2 := cnn (show 0 < b_y - ay by omega) (show 0 ≤ (b_y - ay) * (sx - bx) by rw [hk2]; exact NN (by omega) (by omega))
    omega
  · have f1 := cnn (show 0 < b_y - ay by omega) (show 0 ≤ (b_y - ay) * (sx - ax) by rw [hk]; exact PP (by omega) (by omega))
    have f2 := cnp (show 0 < b_y - ay by omega) (show (b_y - ay) * (sx - bx) ≤ 0 by rw [hk2]; exact PN (by omega) (by omega))
    omega

theorem I1 (ax ay bx b_y sx sy tx ty : Int) : (ty - sy) * sd ax ay bx b_y sx sy = sd sx sy tx ty bx b_y * (ay - sy) - sd sx sy tx ty ax ay * (b_y - sy) := by unfold sd; grind
theorem I2 (ax ay bx b_y sx sy tx ty : Int) : (ty - sy) * sd ax ay bx b_y tx ty = sd sx sy tx ty bx b_y * (ay - ty) - sd sx sy tx ty ax ay * (b_y - ty) := by unfold sd; grind
theorem sd_swap (ax ay bx b_y sx sy : Int) : sd bx b_y ax ay sx sy = - sd ax ay bx b_y sx sy := by unfold sd; grind

theorem onb_swap {ax ay bx b_y sx sy : Int} (h : onb bx b_y ax ay sx sy) : onb ax ay bx b_y sx sy := by
  obtain ⟨h1, h2⟩ := h
  rw [sd_swap] at h1
  exact ⟨by omega, by omega⟩
theorem meetsP_swap {ax ay bx b_y sx sy tx ty : Int} (h : meetsP bx b_y ax ay sx sy tx ty) : meetsP ax ay bx b_y sx sy tx ty := by
  rcases h with h | h | h | h | h
  · exact .inl (onb_swap h)
  · exact .inr (.inl (onb_swap h))
  · exact .inr (.inr (.inr (.inl h)))
  · exact .inr (.inr (.inl h))
  · obtain ⟨h1, h2⟩ := h
    rw [sd_swap ax ay bx b_y sx sy, sd_swap ax ay bx b_y tx ty, Int.neg_mul_neg] at h1
    rw [Int.mul_comm] at h2
    exact .inr (.inr (.inr (.inr ⟨h1, h2⟩)))
/-- which of two ways is told first does not matter -/
theorem meetsP_comm {ax ay bx b_y sx sy tx ty : Int} (h : meetsP ax ay bx b_y sx sy tx ty) : meetsP sx sy tx ty ax ay bx b_y := by
  rcases h with h | h | h | h | h
  · exact .inr (.inr (.inl h))
  · exact .inr (.inr (.inr (.inl h)))
  · exact .inl h
  · exact .inr (.inl h)
  · exact .inr (.inr (.inr (.inr ⟨h.2, h.1⟩)))

/-- the part of the plane to the right of the way that rises from s to t -/
def reg (sx sy tx ty cx cy : Int) : Prop := sy < cy ∧ cy ≤ ty ∧ sd sx sy tx ty cx cy < 0
/-- the edge from a to b (a not the higher one) goes over the height of s, to its right -/
def hitU (ax ay bx b_y sx sy : Int) : Prop := ay ≤ sy ∧ sy < b_y ∧ 0 < sd ax ay bx b_y sx sy

theorem inStrip {ax ay bx b_y sx sy tx ty : Int} (hst : sy < ty) (h1 : sy < ay) (h2 : ay ≤ ty) (h3 : sy < b_y) (h4 : b_y ≤ ty)
    (hm : ¬ meetsP ax ay bx b_y sx sy tx ty) (hn : sd sx sy tx ty ax ay < 0) : sd sx sy tx ty bx b_y < 0 := by
  have i1 := I1 ax ay bx b_y sx sy tx ty
  have i2 := I2 ax ay bx b_y sx sy tx ty
  by_cases h0 : sd sx sy tx ty bx b_y < 0
  · exact h0
  exfalso; apply hm
  by_cases h0' : sd sx sy tx ty bx b_y = 0
  · exact Or.inr (Or.inr (Or.inr (Or.inl (onb_of_y h0' (by omega) h4 hst))))
  have hp : 0 < sd sx sy tx ty bx b_y := by omega
  have a1 := pp hp (show 0 < ay - sy by omega)
  have a2 := np hn (show 0 < b_y - sy by omega)
  have a3 := PN (Int.le_of_lt hp) (show ay - ty ≤ 0 by omega)
  have a4 := NN (Int.le_of_lt hn) (show b_y - ty ≤ 0 by omega)
  have s1 := cpos (show 0 < ty - sy by omega) (show 0 < (ty - sy) * sd ax ay bx b_y sx sy by omega)
  have s2 := cnp (show 0 < ty - sy by omega) (show (ty - sy) * sd ax ay bx b_y tx ty ≤ 0 by omega)
  by_cases hz : sd ax ay bx b_y tx ty = 0
  · rw [hz, Int.mul_zero] at i2
    have b1 : ay = ty := by
      by_cases hh : ay < ty
      · have := pn hp (show ay - ty < 0 by omega); omega
      · omega
    have b2 : b_y = ty := by
      by_cases hh : b_y < ty
      · have := nn hn (show b_y - ty < 0 by omega); omega
      · omega
    refine Or.inr (Or.inl ⟨hz, ?_⟩)
    have e1 : sd sx sy tx ty ax ay = (ty - sy) * (tx - ax) := by rw [b1]; unfold sd; grind
    have e2 : sd sx sy tx ty bx b_y = (ty - sy) * (tx - bx) := by rw [b2]; unfold sd; grind
    rw [e1] at hn; rw [e2] at hp
    have := cneg (show 0 < ty - sy by omega) hn
    have := cpos (show 0 < ty - sy by omega) hp
    omega
  · exact Or.inr (Or.inr (Or.inr (Or.inr ⟨pn s1 (by omega), np hn hp⟩)))

/-- an edge that does not meet the way from s to t (not falling) changes sides as its ends do -/
theorem edge_par {ax ay bx b_y sx sy tx ty : Int} (hst : sy ≤ ty) (hab : ay ≤ b_y) (hm : ¬ meetsP ax ay bx b_y sx sy tx ty) :
    ((hitU ax ay bx b_y sx sy ↔ hitU ax ay bx b_y tx ty) ↔ (reg sx sy tx ty ax ay ↔ reg sx sy tx ty bx b_y)) := by
  have i1 := I1 ax ay bx b_y sx sy tx ty
  have i2 := I2 ax ay bx b_y sx sy tx ty
  have i3 := I1 sx sy tx ty ax ay bx b_y
  have i4 := I2 sx sy tx ty ax ay bx b_y
  have n1 : ¬ onb ax ay bx b_y sx sy := fun h => hm (.inl h)
  have n2 : ¬ onb ax ay bx b_y tx ty := fun h => hm (.inr (.inl h))
  have n3 : ¬ onb sx sy tx ty ax ay := fun h => hm (.inr (.inr (.inl h)))
  have n4 : ¬ onb sx sy tx ty bx b_y := fun h => hm (.inr (.inr (.inr (.inl h))))
  have n5 : ¬ (sd ax ay bx b_y sx sy * sd ax ay bx b_y tx ty < 0 ∧ sd sx sy tx ty ax ay * sd sx sy tx ty bx b_y < 0) := fun h => hm (.inr (.inr (.inr (.inr h))))
  by_cases hd : sy < ty
  · by_cases ha : ay ≤ sy
    · by_cases hb : b_y ≤ sy
      · unfold hitU reg; omega
      by_cases hb2 : b_y ≤ ty
      · -- a below, b in the strip
        have key : 0 < sd ax ay bx b_y sx sy ↔ sd sx sy tx ty bx b_y < 0 := by
          constructor
          · intro h
            by_cases h0 : sd sx sy tx ty bx b_y < 0
            · exact h0
            exfalso
            by_cases h0' : sd sx sy tx ty bx b_y = 0
            · exact n4 (onb_of_y h0' (by omega) hb2 hd)
            have hp : 0 < sd sx sy tx ty bx b_y := by omega
            have a1 := pp (show 0 < ty - sy by omega) h
            have a2 := PN (Int.le_of_lt hp) (show ay - sy ≤ 0 by omega)
            have t1 := cneg (k := b_y - sy) (x := sd sx sy tx ty ax ay) (by omega) (by rw [Int.mul_comm]; omega)
            have a3 := pn hp (show ay - ty < 0 by omega)
            have a4 := NN (Int.le_of_lt t1) (show b_y - ty ≤ 0 by omega)
            have s2 := cneg (show 0 < ty - sy by omega) (show (ty - sy) * sd ax ay bx b_y tx ty < 0 by omega)
            exact n5 ⟨pn h s2, np t1 hp⟩
          · intro h
            by_cases h0 : 0 < sd ax ay bx b_y sx sy
            · exact h0
            exfalso
            by_cases h0' : sd ax ay bx b_y sx sy = 0
            · exact n1 (onb_of_y h0' ha (by omega) (by omega))
            have hp : sd ax ay bx b_y sx sy < 0 := by omega
            have a1 := pn (show 0 < ty - sy by omega) hp
            have a2 := NN (Int.le_of_lt h) (show ay - sy ≤ 0 by omega)
            have t1 := cpos (k := b_y - sy) (x := sd sx sy tx ty ax ay) (by omega) (by rw [Int.mul_comm]; omega)
            have a3 := nn h (show ay - ty < 0 by omega)
            have a4 := PN (Int.le_of_lt t1) (show b_y - ty ≤ 0 by omega)
            have s2 := cpos (show 0 < ty - sy by omega) (show 0 < (ty - sy) * sd ax ay bx b_y tx ty by omega)
            exact n5 ⟨np hp s2, pn t1 h⟩
        unfold hitU reg; omega
      · -- a below, b above
        have key : 0 < sd ax ay bx b_y sx sy ↔ 0 < sd ax ay bx b_y tx ty := by
          constructor
          · intro h
            by_cases h0 : 0 < sd ax ay bx b_y tx ty
            · exact h0
            exfalso
            by_cases h0' : sd ax ay bx b_y tx ty = 0
            · exact n2 (onb_of_y h0' (by omega) (by omega) (by omega))
            have hp : sd ax ay bx b_y tx ty < 0 := by omega
            have a1 := NP (Int.le_of_lt hp) (show 0 ≤ sy - ay by omega)
            have a2 := pp h (show 0 < ty - ay by omega)
            have t1 := cneg (show 0 < b_y - ay by omega) (show (b_y - ay) * sd sx sy tx ty ax ay < 0 by omega)
            have a3 := nn hp (show sy - b_y < 0 by omega)
            have a4 := pn h (show ty - b_y < 0 by omega)
            have t2 := cpos (show 0 < b_y - ay by omega) (show 0 < (b_y - ay) * sd sx sy tx ty bx b_y by omega)
            exact n5 ⟨pn h hp, np t1 t2⟩
          · intro h
            by_cases h0 : 0 < sd ax ay bx b_y sx sy
            · exact h0
            exfalso
            by_cases h0' : sd ax ay bx b_y sx sy = 0
            · exact n1 (onb_of_y h0' (by omega) (by omega) (by omega))
            have hp : sd ax ay bx b_y sx sy < 0 := by omega
            have a1 := PP (Int.le_of_lt h) (show 0 ≤ sy - ay by omega)
            have a2 := np hp (show 0 < ty - ay by omega)
            have t1 := cpos (show 0 < b_y - ay by omega) (show 0 < (b_y - ay) * sd sx sy tx ty ax ay by omega)
            have a3 := pn h (show sy - b_y < 0 by omega)
            have a4 := nn hp (show ty - b_y < 0 by omega)
            have t2 := cneg (show 0 < b_y - ay by omega) (show (b_y - ay) * sd sx sy tx ty bx b_y < 0 by omega)
            exact n5 ⟨np hp h, pn t1 t2⟩
        unfold hitU reg; omega
    · by_cases ha2 : ay ≤ ty
      · by_cases hb2 : b_y ≤ ty
        · -- both in the strip
          have k1 := inStrip hd (by omega) ha2 (show sy < b_y by omega) hb2 hm
          have hm' : ¬ meetsP bx b_y ax ay sx sy tx ty := fun h => hm (meetsP_swap h)
          have k2 := inStrip hd (show sy < b_y by omega) hb2 (by omega) ha2 hm'
          unfold hitU reg; omega
        · -- a in the strip, b above
          have key : 0 < sd ax ay bx b_y tx ty ↔ sd sx sy tx ty ax ay < 0 := by
            constructor
            · intro h
              by_cases h0 : sd sx sy tx ty ax ay < 0
              · exact h0
              exfalso
              by_cases h0' : sd sx sy tx ty ax ay = 0
              · exact n3 (onb_of_y h0' (by omega) ha2 hd)
              have hp : 0 < sd sx sy tx ty ax ay := by omega
              have a1 := pp (show 0 < ty - sy by omega) h
              have a2 := pp hp (show 0 < b_y - ty by omega)
              have t2 : sd sx sy tx ty bx b_y < 0 := by
                by_cases hh : sd sx sy tx ty bx b_y < 0
                · exact hh
                · have := PN (show 0 ≤ sd sx sy tx ty bx b_y by omega) (show ay - ty ≤ 0 by omega); omega
              have a3 := np t2 (show 0 < ay - sy by omega)
              have a4 := pp hp (show 0 < b_y - sy by omega)
              have s1 := cneg (show 0 < ty - sy by omega) (show (ty - sy) * sd ax ay bx b_y sx sy < 0 by omega)
              exact n5 ⟨np s1 h, pn hp t2⟩
            · intro h
              by_cases h0 : 0 < sd ax ay bx b_y tx ty
              · exact h0
              exfalso
              by_cases h0' : sd ax ay bx b_y tx ty = 0
              · exact n2 (onb_of_y h0' ha2 (by omega) (by omega))
              have hp : sd ax ay bx b_y tx ty < 0 := by omega
              have a1 := pn (show 0 < ty - sy by omega) hp
              have a2 := np h (show 0 < b_y - ty by omega)
              have t2 : 0 < sd sx sy tx ty bx b_y := by
                by_cases hh : 0 < sd sx sy tx ty bx b_y
                · exact hh
                · have := NN (show sd sx sy tx ty bx b_y ≤ 0 by omega) (show ay - ty ≤ 0 by omega); omega
              have a3 := pp t2 (show 0 < ay - sy by omega)
              have a4 := np h (show 0 < b_y - sy by omega)
              have s1 := cpos (show 0 < ty - sy by omega) (show 0 < (ty - sy) * sd ax ay bx b_y sx sy by omega)
              exact n5 ⟨pn s1 hp, np h t2⟩
          unfold hitU reg; omega
      · unfold hitU reg; omega
  · -- a level way
    have he : ty = sy := by omega
    subst he
    have key : ay ≤ ty → ty < b_y → (0 < sd ax ay bx b_y sx ty ↔ 0 < sd ax ay bx b_y tx ty) := by
      intro h1 h2
      have e1 : sd ax ay bx b_y sx ty = (bx - ax) * (ty - ay) - (b_y - ay) * (sx - ax) := rfl
      have e2 : sd ax ay bx b_y tx ty = (bx - ax) * (ty - ay) - (b_y - ay) * (tx - ax) := rfl
      constructor
      · intro h
        by_cases h0 : 0 < sd ax ay bx b_y tx ty
        · exact h0
        exfalso
        by_cases h0' : sd ax ay bx b_y tx ty = 0
        · exact n2 (onb_of_y h0' h1 (by omega) (by omega))
        have hp : sd ax ay bx b_y tx ty < 0 := by omega
        have a3 := nn hp (show ty - b_y < 0 by omega)
        have a4 := pn h (show ty - b_y < 0 by omega)
        have t2 := cpos (show 0 < b_y - ay by omega) (show 0 < (b_y - ay) * sd sx ty tx ty bx b_y by omega)
        by_cases hz : ay = ty
        · apply n3
          have z : sd sx ty tx ty ax ay = 0 := by rw [hz]; unfold sd; grind
          rw [hz] at e1 e2
          have x1 := cneg (k := b_y - ay) (x := sx - ax) (by omega) (by rw [hz]; rw [hz] at h; simp at e1; omega)
          have x2 := cpos (k := b_y - ay) (x := tx - ax) (by omega) (by rw [hz]; rw [hz] at hp; simp at e2; omega)
          exact ⟨z, by omega⟩
        · have a1 := np hp (show 0 < ty - ay by omega)
          have a2 := pp h (show 0 < ty - ay by omega)
          have t1 := cneg (show 0 < b_y - ay by omega) (show (b_y - ay) * sd sx ty tx ty ax ay < 0 by omega)
          exact n5 ⟨pn h hp, np t1 t2⟩
      · intro h
        by_cases h0 : 0 < sd ax ay bx b_y sx ty
        · exact h0
        exfalso
        by_cases h0' : sd ax ay bx b_y sx ty = 0
        · exact n1 (onb_of_y h0' h1 (by omega) (by omega))
        have hp : sd ax ay bx b_y sx ty < 0 := by omega
        have a3 := pn h (show ty - b_y < 0 by omega)
        have a4 := nn hp (show ty - b_y < 0 by omega)
        have t2 := cneg (show 0 < b_y - ay by omega) (show (b_y - ay) * sd sx ty tx ty bx b_y < 0 by omega)
        by_cases hz : ay = ty
        · apply n3
          have z : sd sx ty tx ty ax ay = 0 := by rw [hz]; unfold sd; grind
          rw [hz] at e1 e2
          have x1 := cpos (k := b_y - ay) (x := sx - ax) (by omega) (by rw [hz]; rw [hz] at hp; simp at e1; omega)
          have x2 := cneg (k := b_y - ay) (x := tx - ax) (by omega) (by rw [hz]; rw [hz] at h; simp at e2; omega)
          exact ⟨z, by omega⟩
        · have a1 := pp h (show 0 < ty - ay by omega)
          have a2 := np hp (show 0 < ty - ay by omega)
          have t1 := cpos (show 0 < b_y - ay by omega) (show 0 < (b_y - ay) * sd sx ty tx ty ax ay by omega)
          exact n5 ⟨np hp h, pn t1 t2⟩
    unfold hitU reg; omega
end Go.Eng.Geo

/-
Plane geometry in whole numbers: parity and turns of a fence around a spot.
-/
namespace Go.Eng.Geo
theorem sd_t (ax ay bx b_y sx sy : Int) : sd ay ax b_y bx sy sx = - sd ax ay bx b_y sx sy := by unfold sd; grind
theorem onb_t {ax ay bx b_y sx sy : Int} (h : onb ay ax b_y bx sy sx) : onb ax ay bx b_y sx sy := by
  obtain ⟨h1, h2⟩ := h
  rw [sd_t] at h1
  exact ⟨by omega, by omega⟩
theorem onb_y {ax ay bx b_y sx sy : Int} (h : sd ax ay bx b_y sx sy = 0) (h1 : min ay b_y ≤ sy) (h2 : sy ≤ max ay b_y) (h3 : ay ≠ b_y) : onb ax ay bx b_y sx sy := by
  by_cases hh : ay < b_y
  · exact onb_of_y h (by omega) (by omega) hh
  · refine onb_swap (onb_of_y ?_ (by omega) (by omega) (by omega))
    rw [sd_swap]; omega
theorem onb_x {ax ay bx b_y sx sy : Int} (h : sd ax ay bx b_y sx sy = 0) (h1 : min ax bx ≤ sx) (h2 : sx ≤ max ax bx) (h3 : ax ≠ bx) : onb ax ay bx b_y sx sy := by
  refine onb_t (onb_y ?_ (by omega) (by omega) h3)
  rw [sd_t]; omega

theorem zero_or {a b : Int} (h : a * b = 0) : a = 0 ∨ b = 0 := Int.mul_eq_zero.1 h

/-- being on one line goes over -/
theorem col {sx sy rx ry tx ty ax ay : Int} (h1 : sd sx sy tx ty rx ry = 0) (h2 : sd sx sy rx ry ax ay = 0) (hne : ¬ (rx = sx ∧ ry = sy)) : sd sx sy tx ty ax ay = 0 := by
  have e1 : (rx - sx) * sd sx sy tx ty ax ay = 0 := by unfold sd at *; grind
  have e2 : (ry - sy) * sd sx sy tx ty ax ay = 0 := by unfold sd at *; grind
  rcases zero_or e1 with h | h
  · rcases zero_or e2 with h' | h'
    · omega
    · exact h'
  · exact h
theorem onb_trans {sx sy rx ry tx ty ax ay : Int} (h1 : onb sx sy tx ty rx ry) (h2 : onb sx sy rx ry ax ay) : onb sx sy tx ty ax ay := by
  obtain ⟨c1, b1⟩ := h1; obtain ⟨c2, b2⟩ := h2
  refine ⟨?_, by omega⟩
  by_cases hh : rx = sx ∧ ry = sy
  · have e1 : ax = sx := by omega
    have e2 : ay = sy := by omega
    subst e1; subst e2; unfold sd; grind
  · exact col c1 c2 hh

/-- a spot r on the way from s to t: the sides of s, t and r of another line -/
theorem lam_x (ax ay bx b_y sx sy tx ty rx ry : Int) (h : sd sx sy tx ty rx ry = 0) : (tx - sx) * sd ax ay bx b_y rx ry = (tx - rx) * sd ax ay bx b_y sx sy + (rx - sx) * sd ax ay bx b_y tx ty := by unfold sd at *; grind
theorem lam_y (ax ay bx b_y sx sy tx ty rx ry : Int) (h : sd sx sy tx ty rx ry = 0) : (ty - sy) * sd ax ay bx b_y rx ry = (ty - ry) * sd ax ay bx b_y sx sy + (ry - sy) * sd ax ay bx b_y tx ty := by unfold sd at *; grind

/-- the same for all axes: weights u, v from 0 on, not both 0 -/
theorem lam {sx sy tx ty rx ry : Int} (h : onb sx sy tx ty rx ry) (hne : ¬ (tx = sx ∧ ty = sy)) :
    ∃ u v : Int, 0 ≤ u ∧ 0 ≤ v ∧ 0 < u + v ∧ (v = 0 → rx = sx ∧ ry = sy) ∧ (u = 0 → rx = tx ∧ ry = ty) ∧
      ∀ ax ay bx b_y, (u + v) * sd ax ay bx b_y rx ry = u * sd ax ay bx b_y sx sy + v * sd ax ay bx b_y tx ty := by
  obtain ⟨hc, hb⟩ := h
  have hc' := hc
  unfold sd at hc'
  by_cases hx : tx = sx
  · have hy : ty ≠ sy := fun e => hne ⟨hx, e⟩
    by_cases hp : sy < ty
    · refine ⟨ty - ry, ry - sy, by omega, by omega, by omega, by omega, by omega, fun ax ay bx b_y => ?_⟩
      have := lam_y ax ay bx b_y sx sy tx ty rx ry hc
      rw [show ty - ry + (ry - sy) = ty - sy by omega]; exact this
    · refine ⟨ry - ty, sy - ry, by omega, by omega, by omega, by omega, by omega, fun ax ay bx b_y => ?_⟩
      have := lam_y ax ay bx b_y sx sy tx ty rx ry hc
      grind
  · by_cases hp : sx < tx
    · refine ⟨tx - rx, rx - sx, by omega, by omega, by omega, fun h0 => ?_, fun h0 => ?_, fun ax ay bx b_y => ?_⟩
      · have e : rx = sx := by omega
        subst e
        have : (tx - rx) * (ry - sy) = 0 := by grind
        rcases zero_or this with h' | h' <;> omega
      · have e : rx = tx := by omega
        subst e
        have : (rx - sx) * (ry - ty) = 0 := by grind
        rcases zero_or this with h' | h' <;> omega
      · have := lam_x ax ay bx b_y sx sy tx ty rx ry hc
        rw [show tx - rx + (rx - sx) = tx - sx by omega]; exact this
    · refine ⟨rx - tx, sx - rx, by omega, by omega, by omega, fun h0 => ?_, fun h0 => ?_, fun ax ay bx b_y => ?_⟩
      · have e : rx = sx := by omega
        subst e
        have : (tx - rx) * (ry - sy) = 0 := by grind
        rcases zero_or this with h' | h' <;> omega
      · have e : rx = tx := by omega
        subst e
        have : (rx - sx) * (ry - ty) = 0 := by grind
        rcases zero_or this with h' | h' <;> omega
      · have := lam_x ax ay bx b_y sx sy tx ty rx ry hc
        grind

theorem onb_refl_l (ax ay bx b_y : Int) : onb ax ay bx b_y ax ay := ⟨by unfold sd; grind, by omega⟩
theorem onb_refl_r (ax ay bx b_y : Int) : onb ax ay bx b_y bx b_y := ⟨by unfold sd; grind, by omega⟩

/-- the sides of two ends of a way with a spot on a line: both 0, one 0 and the spot is that end, or on different sides -/
theorem sides {ax ay bx b_y sx sy tx ty rx ry : Int} (h : onb sx sy tx ty rx ry) (h0 : sd ax ay bx b_y rx ry = 0) :
    (rx = sx ∧ ry = sy) ∨ (rx = tx ∧ ry = ty) ∨ (sd ax ay bx b_y sx sy = 0 ∧ sd ax ay bx b_y tx ty = 0) ∨ sd ax ay bx b_y sx sy * sd ax ay bx b_y tx ty < 0 := by
  by_cases hne : tx = sx ∧ ty = sy
  · left; obtain ⟨_, hb⟩ := h; omega
  obtain ⟨u, v, hu, hv, huv, e1, e2, k⟩ := lam h hne
  have k := k ax ay bx b_y
  rw [h0, Int.mul_zero] at k
  by_cases v0 : v = 0
  · exact .inl (e1 v0)
  by_cases u0 : u = 0
  · exact .inr (.inl (e2 u0))
  right; right
  by_cases z : sd ax ay bx b_y sx sy = 0
  · left; refine ⟨z, ?_⟩
    rw [z, Int.mul_zero, Int.zero_add] at k
    rcases zero_or k.symm with h' | h'
    · omega
    · exact h'
  right
  by_cases p : 0 < sd ax ay bx b_y sx sy
  · have := pp (show 0 < u by omega) p
    exact pn p (cneg (show 0 < v by omega) (by omega))
  · have := pn (show 0 < u by omega) (show sd ax ay bx b_y sx sy < 0 by omega)
    exact np (by omega) (cpos (show 0 < v by omega) (by omega))

/-- two ways with a spot in common meet -/
theorem common {ax ay bx b_y sx sy tx ty rx ry : Int} (h1 : onb ax ay bx b_y rx ry) (h2 : onb sx sy tx ty rx ry) : meetsP ax ay bx b_y sx sy tx ty := by
  rcases sides (ax := ax) (ay := ay) (bx := bx) (b_y := b_y) h2 h1.1 with ⟨e1, e2⟩ | ⟨e1, e2⟩ | ⟨z1, z2⟩ | hs
  · subst e1; subst e2; exact .inl h1
  · subst e1; subst e2; exact .inr (.inl h1)
  · -- all on one line
    by_cases hab : bx = ax ∧ b_y = ay
    · obtain ⟨e1, e2⟩ := hab
      have q1 : rx = ax := by have := h1.2; omega
      have q2 : ry = ay := by have := h1.2; omega
      subst q1; subst q2; exact .inr (.inr (.inl h2))
    obtain ⟨c1, b1⟩ := h1; obtain ⟨c2, b2⟩ := h2
    by_cases hx : ax = bx
    · have hy : ay ≠ b_y := fun e => hab ⟨hx.symm, e.symm⟩
      -- level along Y
      by_cases hs1 : min ay b_y ≤ sy ∧ sy ≤ max ay b_y
      · exact .inl (onb_y z1 hs1.1 hs1.2 hy)
      by_cases ht1 : min ay b_y ≤ ty ∧ ty ≤ max ay b_y
      · exact .inr (.inl (onb_y z2 ht1.1 ht1.2 hy))
      have hst : sy ≠ ty := by omega
      have za : sd sx sy tx ty ax ay = 0 := by
        have : (b_y - ay) * sd sx sy tx ty ax ay = 0 := by unfold sd at *; grind
        rcases zero_or this with h' | h'
        · omega
        · exact h'
      exact .inr (.inr (.inl (onb_y za (by omega) (by omega) hst)))
    · by_cases hs1 : min ax bx ≤ sx ∧ sx ≤ max ax bx
      · exact .inl (onb_x z1 hs1.1 hs1.2 hx)
      by_cases ht1 : min ax bx ≤ tx ∧ tx ≤ max ax bx
      · exact .inr (.inl (onb_x z2 ht1.1 ht1.2 hx))
      have hst : sx ≠ tx := by omega
      have za : sd sx sy tx ty ax ay = 0 := by
        have : (bx - ax) * sd sx sy tx ty ax ay = 0 := by unfold sd at *; grind
        rcases zero_or this with h' | h'
        · omega
        · exact h'
      exact .inr (.inr (.inl (onb_x za (by omega) (by omega) hst)))
  · rcases sides (ax := sx) (ay := sy) (bx := tx) (b_y := ty) h1 h2.1 with ⟨e1, e2⟩ | ⟨e1, e2⟩ | ⟨z1, z2⟩ | hs'
    · subst e1; subst e2; exact .inr (.inr (.inl h2))
    · subst e1; subst e2; exact .inr (.inr (.inr (.inl h2)))
    · exfalso
      have e : sd sx sy tx ty ax ay - sd sx sy tx ty bx b_y = sd ax ay bx b_y tx ty - sd ax ay bx b_y sx sy := by unfold sd; grind
      have e' : sd ax ay bx b_y tx ty = sd ax ay bx b_y sx sy := by omega
      rw [e'] at hs
      have : 0 ≤ sd ax ay bx b_y sx sy * sd ax ay bx b_y sx sy := by
        by_cases hh : 0 ≤ sd ax ay bx b_y sx sy
        · exact PP hh hh
        · exact NN (by omega) (by omega)
      omega
    · exact .inr (.inr (.inr (.inr ⟨hs, hs'⟩)))

/-- what meets a part of a way meets the way -/
theorem meets_sub {sx sy rx ry tx ty ax ay bx b_y : Int} (h : onb sx sy tx ty rx ry) (hm : meetsP ax ay bx b_y sx sy rx ry) : meetsP ax ay bx b_y sx sy tx ty := by
  rcases hm with h1 | h1 | h1 | h1 | ⟨h1, h2⟩
  · exact .inl h1
  · exact common h1 h
  · exact .inr (.inr (.inl (onb_trans h h1)))
  · exact .inr (.inr (.inr (.inl (onb_trans h h1))))
  · by_cases hne : tx = sx ∧ ty = sy
    · exfalso
      have e1 : rx = sx := by have := h.2; omega
      have e2 : ry = sy := by have := h.2; omega
      subst e1; subst e2
      have : sd rx ry rx ry ax ay = 0 := by unfold sd; grind
      rw [this, Int.zero_mul] at h2; omega
    obtain ⟨u, v, hu, hv, huv, e1, e2, k⟩ := lam h hne
    have v0 : 0 < v := by
      by_cases hv0 : v = 0
      · exfalso
        obtain ⟨e1, e2⟩ := e1 hv0
        subst e1; subst e2
        have : sd rx ry rx ry ax ay = 0 := by unfold sd; grind
        rw [this, Int.zero_mul] at h2; omega
      · omega
    have k0 := k ax ay bx b_y
    have ka : (u + v) * sd sx sy rx ry ax ay = v * sd sx sy tx ty ax ay := by
      have := k ax ay sx sy
      have q1 : sd ax ay sx sy rx ry = sd sx sy rx ry ax ay := by unfold sd; grind
      have q2 : sd ax ay sx sy sx sy = 0 := by unfold sd; grind
      have q3 : sd ax ay sx sy tx ty = sd sx sy tx ty ax ay := by unfold sd; grind
      rw [q1, q2, q3] at this; rw [this]; omega
    have kb : (u + v) * sd sx sy rx ry bx b_y = v * sd sx sy tx ty bx b_y := by
      have := k bx b_y sx sy
      have q1 : sd bx b_y sx sy rx ry = sd sx sy rx ry bx b_y := by unfold sd; grind
      have q2 : sd bx b_y sx sy sx sy = 0 := by unfold sd; grind
      have q3 : sd bx b_y sx sy tx ty = sd sx sy tx ty bx b_y := by unfold sd; grind
      rw [q1, q2, q3] at this; rw [this]; omega
    refine .inr (.inr (.inr (.inr ⟨?_, ?_⟩)))
    · by_cases p : 0 < sd ax ay bx b_y sx sy
      · have r0 : sd ax ay bx b_y rx ry < 0 := cneg p h1
        have a1 := pn huv r0
        have a2 := PP hu (Int.le_of_lt p)
        exact pn p (cneg v0 (by omega))
      · have p' : sd ax ay bx b_y sx sy < 0 := by
          by_cases hz : sd ax ay bx b_y sx sy = 0
          · rw [hz, Int.zero_mul] at h1; omega
          · omega
        have r0 : 0 < sd ax ay bx b_y rx ry := by
          by_cases hh : 0 < sd ax ay bx b_y rx ry
          · exact hh
          · have := NN (Int.le_of_lt p') (show sd ax ay bx b_y rx ry ≤ 0 by omega); omega
        have a1 := pp huv r0
        have a2 := PN hu (Int.le_of_lt p')
        exact np p' (cpos v0 (by omega))
    · by_cases p : 0 < sd sx sy rx ry ax ay
      · have r0 := cneg p h2
        have a1 := pp huv p; have a2 := pn huv r0
        exact pn (cpos v0 (by omega)) (cneg v0 (by omega))
      · have p' : sd sx sy rx ry ax ay < 0 := by
          by_cases hz : sd sx sy rx ry ax ay = 0
          · rw [hz, Int.zero_mul] at h2; omega
          · omega
        have r0 : 0 < sd sx sy rx ry bx b_y := by
          by_cases hh : 0 < sd sx sy rx ry bx b_y
          · exact hh
          · have := NN (Int.le_of_lt p') (show sd sx sy rx ry bx b_y ≤ 0 by omega); omega
        have a1 := pn huv p'; have a2 := pp huv r0
        exact np (cneg v0 (by omega)) (cpos v0 (by omega))
end Go.Eng.Geo

/-
Plane geometry in whole numbers: parity and turns of a fence around a spot.
-/
namespace Go.Eng.Geo
/-- is the number of members for which f says true odd -/
def par {α} (f : α → Bool) : List α → Bool
  | [] => false
  | a :: l => f a ^^ par f l
theorem par_xor {α} (f g : α → Bool) (l : List α) : par (fun x => f x ^^ g x) l = (par f l ^^ par g l) := by
  induction l with
  | nil => rfl
  | cons a l ih => simp only [par, ih]; cases f a <;> cases g a <;> cases par f l <;> cases par g l <;> rfl
theorem par_congr {α} {f g : α → Bool} {l : List α} (h : ∀ x ∈ l, f x = g x) : par f l = par g l := by
  induction l with
  | nil => rfl
  | cons a l ih => simp only [par]; rw [h a (by simp), ih fun x hx => h x (by simp [hx])]
theorem par_false {α} {f : α → Bool} {l : List α} (h : ∀ x ∈ l, f x = false) : par f l = false := by
  rw [par_congr (g := fun _ => false) h]; clear h
  induction l with
  | nil => rfl
  | cons a l ih => simp [par, ih]
theorem par_map {α β} (f : β → Bool) (g : α → β) (l : List α) : par f (l.map g) = par (fun x => f (g x)) l := by
  induction l with
  | nil => rfl
  | cons a l ih => simp [par, ih]
theorem par_and {α} (f : α → Bool) (b : Bool) (l : List α) : par (fun x => b && f x) l = (b && par f l) := by
  cases b
  · exact par_false (by simp)
  · simp
/-- sums may be taken in either order -/
theorem par_comm {α β} (f : α → β → Bool) (l : List α) (m : List β) : par (fun a => par (f a) m) l = par (fun b => par (fun a => f a b) l) m := by
  induction l with
  | nil => simp only [par]; exact (par_false (by simp)).symm
  | cons a l ih => simp only [par]; rw [ih, ← par_xor]

/-- the edges of corners from one to the next, and to z at the end -/
def path {α} (z : α) : List α → List (α × α)
  | [] => []
  | [a] => [(a, z)]
  | a :: b :: l => (a, b) :: path z (b :: l)
def ring {α} : List α → List (α × α)
  | [] => []
  | a :: l => path a (a :: l)
theorem par_path {α} (R : α → Bool) (z a : α) (l : List α) : par (fun e => R e.1 ^^ R e.2) (path z (a :: l)) = (R a ^^ R z) := by
  induction l generalizing a with
  | nil => simp [path, par]
  | cons b l ih => simp only [path, par, ih]; cases R a <;> cases R b <;> cases R z <;> rfl
theorem par_ring {α} (R : α → Bool) (l : List α) : par (fun e => R e.1 ^^ R e.2) (ring l) = false := by
  cases l with
  | nil => rfl
  | cons a l => simp only [ring, par_path]; cases R a <;> rfl
theorem path_map {α β} (g : α → β) (z : α) (l : List α) : path (g z) (l.map g) = (path z l).map fun e => (g e.1, g e.2) := by
  match l with
  | [] => rfl
  | [a] => rfl
  | a :: b :: l => simp only [List.map, path]; rw [← path_map g z (b :: l)]; rfl
theorem ring_map {α β} (g : α → β) (l : List α) : ring (l.map g) = (ring l).map fun e => (g e.1, g e.2) := by
  cases l with
  | nil => rfl
  | cons a l => exact path_map g a (a :: l)

abbrev Pt := Int × Int
instance (ax ay bx b_y sx sy : Int) : Decidable (hitU ax ay bx b_y sx sy) := by unfold hitU; infer_instance
instance (sx sy tx ty cx cy : Int) : Decidable (reg sx sy tx ty cx cy) := by unfold reg; infer_instance
def lo (e : Pt × Pt) : Pt := if e.1.2 ≤ e.2.2 then e.1 else e.2
def hi (e : Pt × Pt) : Pt := if e.1.2 ≤ e.2.2 then e.2 else e.1
/-- the edge goes over the height of s, to its right -/
def hitE (s : Pt) (e : Pt × Pt) : Bool := decide (hitU (lo e).1 (lo e).2 (hi e).1 (hi e).2 s.1 s.2)
def meetE (e f : Pt × Pt) : Prop := meetsP e.1.1 e.1.2 e.2.1 e.2.2 f.1.1 f.1.2 f.2.1 f.2.2
def onE (e : Pt × Pt) (s : Pt) : Prop := onb e.1.1 e.1.2 e.2.1 e.2.2 s.1 s.2
theorem meetE_comm {e f : Pt × Pt} (h : meetE e f) : meetE f e := meetsP_comm h
theorem meetE_swap {e f : Pt × Pt} (h : meetE (e.2, e.1) f) : meetE e f := meetsP_swap h
theorem meetE_swap2 {e f : Pt × Pt} (h : meetE e (f.2, f.1)) : meetE e f := meetE_comm (meetE_swap (meetE_comm h))
theorem lohi (e : Pt × Pt) : (lo e).2 ≤ (hi e).2 := by unfold lo hi; split <;> omega
theorem lohi_or (e : Pt × Pt) : (lo e, hi e) = e ∨ (lo e, hi e) = (e.2, e.1) := by unfold lo hi; split <;> simp
theorem meet_lohi {e f : Pt × Pt} (h : meetE (lo e, hi e) f) : meetE e f := by
  rcases lohi_or e with q | q
  · rw [q] at h; exact h
  · rw [q] at h; exact meetE_swap h
theorem meet_lohi2 {e f : Pt × Pt} (h : meetE e (lo f, hi f)) : meetE e f := meetE_comm (meet_lohi (meetE_comm h))

def inn (l : List Pt) (s : Pt) : Bool := par (hitE s) (ring l)

theorem inn_inv' (l : List Pt) (s t : Pt) (hst : s.2 ≤ t.2) (h : ∀ e ∈ ring l, ¬ meetE e (s, t)) : inn l s = inn l t := by
  have key : par (fun e => hitE s e ^^ hitE t e) (ring l) = false := by
    rw [par_congr (g := fun e => decide (reg s.1 s.2 t.1 t.2 e.1.1 e.1.2) ^^ decide (reg s.1 s.2 t.1 t.2 e.2.1 e.2.2))]
    · exact par_ring (fun c => decide (reg s.1 s.2 t.1 t.2 c.1 c.2)) l
    · intro e he
      have hm : ¬ meetE (lo e, hi e) (s, t) := fun hh => h e he (meet_lohi hh)
      have hp := edge_par (ax := (lo e).1) (bx := (hi e).1) hst (lohi e) hm
      have : (decide (reg s.1 s.2 t.1 t.2 e.1.1 e.1.2) ^^ decide (reg s.1 s.2 t.1 t.2 e.2.1 e.2.2)) = (decide (reg s.1 s.2 t.1 t.2 (lo e).1 (lo e).2) ^^ decide (reg s.1 s.2 t.1 t.2 (hi e).1 (hi e).2)) := by
        unfold lo hi
        split
        · rfl
        · exact Bool.xor_comm _ _
      rw [this]
      unfold hitE
      by_cases h1 : hitU (lo e).1 (lo e).2 (hi e).1 (hi e).2 s.1 s.2 <;> by_cases h2 : hitU (lo e).1 (lo e).2 (hi e).1 (hi e).2 t.1 t.2 <;>
        by_cases h3 : reg s.1 s.2 t.1 t.2 (lo e).1 (lo e).2 <;> by_cases h4 : reg s.1 s.2 t.1 t.2 (hi e).1 (hi e).2 <;>
        simp only [h1, h2, h3, h4] at hp <;> simp [h1, h2, h3, h4] <;> simp at hp
  rw [par_xor] at key
  unfold inn
  cases h1 : par (hitE s) (ring l) <;> cases h2 : par (hitE t) (ring l) <;> simp [h1, h2] at key ⊢

/-- along a way that meets no edge, within stays within -/
theorem inn_inv (l : List Pt) (s t : Pt) (h : ∀ e ∈ ring l, ¬ meetE e (s, t)) : inn l s = inn l t := by
  by_cases hst : s.2 ≤ t.2
  · exact inn_inv' l s t hst h
  · exact (inn_inv' l t s (by omega) fun e he hh => h e he (meetE_swap2 (e := e) (f := (s, t)) hh)).symm

theorem cle {k a b : Int} (hk : 0 < k) (h : k * a ≤ k * b) : a ≤ b := by
  have : 0 ≤ k * (b - a) := by rw [Int.mul_sub]; omega
  have := cnn hk this; omega
theorem mle {k a b : Int} (hk : 0 < k) (h : a ≤ b) : k * a ≤ k * b := Int.mul_le_mul_of_nonneg_left h (by omega)
theorem clt {k a b : Int} (hk : 0 < k) (h : k * a < k * b) : a < b := by
  have : 0 < k * (b - a) := by rw [Int.mul_sub]; omega
  have := cpos hk this; omega
theorem mlt {k a b : Int} (hk : 0 < k) (h : a < b) : k * a < k * b := Int.mul_lt_mul_of_pos_left h hk
def sc (k : Int) (c : Pt) : Pt := (k * c.1, k * c.2)
theorem sd_sc (k ax ay bx b_y sx sy : Int) : sd (k * ax) (k * ay) (k * bx) (k * b_y) (k * sx) (k * sy) = (k * k) * sd ax ay bx b_y sx sy := by unfold sd; grind
theorem onb_sc {k ax ay bx b_y sx sy : Int} (hk : 0 < k) (h : onb (k * ax) (k * ay) (k * bx) (k * b_y) (k * sx) (k * sy)) : onb ax ay bx b_y sx sy := by
  obtain ⟨h1, h2, h3, h4, h5⟩ := h
  rw [sd_sc] at h1
  have q : sd ax ay bx b_y sx sy = 0 := by
    rcases zero_or h1 with h | h
    · have := pp hk hk; omega
    · exact h
  refine ⟨q, ?_, ?_, ?_, ?_⟩
  · have : k * ax ≤ k * sx ∨ k * bx ≤ k * sx := by omega
    rcases this with h | h <;> have := cle hk h <;> omega
  · have : k * sx ≤ k * ax ∨ k * sx ≤ k * bx := by omega
    rcases this with h | h <;> have := cle hk h <;> omega
  · have : k * ay ≤ k * sy ∨ k * b_y ≤ k * sy := by omega
    rcases this with h | h <;> have := cle hk h <;> omega
  · have : k * sy ≤ k * ay ∨ k * sy ≤ k * b_y := by omega
    rcases this with h | h <;> have := cle hk h <;> omega
theorem meets_sc {k : Int} {a b c d : Pt} (hk : 0 < k) (h : meetE (sc k a, sc k b) (sc k c, sc k d)) : meetE (a, b) (c, d) := by
  rcases h with h | h | h | h | ⟨h1, h2⟩
  · exact .inl (onb_sc hk h)
  · exact .inr (.inl (onb_sc hk h))
  · exact .inr (.inr (.inl (onb_sc hk h)))
  · exact .inr (.inr (.inr (.inl (onb_sc hk h))))
  · refine .inr (.inr (.inr (.inr ⟨?_, ?_⟩)))
    · simp only [sc, sd_sc] at h1
      refine cneg (k := k * k * (k * k)) (pp (pp hk hk) (pp hk hk)) ?_
      grind
    · simp only [sc, sd_sc] at h2
      refine cneg (k := k * k * (k * k)) (pp (pp hk hk) (pp hk hk)) ?_
      grind
theorem lo_sc {k : Int} (hk : 0 < k) (e : Pt × Pt) : lo (sc k e.1, sc k e.2) = sc k (lo e) := by
  unfold lo sc
  by_cases h : e.1.2 ≤ e.2.2
  · rw [if_pos h, if_pos (mle hk h)]
  · rw [if_neg h, if_neg (fun hh => h (cle hk hh))]
theorem hi_sc {k : Int} (hk : 0 < k) (e : Pt × Pt) : hi (sc k e.1, sc k e.2) = sc k (hi e) := by
  unfold hi sc
  by_cases h : e.1.2 ≤ e.2.2
  · rw [if_pos h, if_pos (mle hk h)]
  · rw [if_neg h, if_neg (fun hh => h (cle hk hh))]
theorem hit_sc {k : Int} (hk : 0 < k) (s : Pt) (e : Pt × Pt) : hitE (sc k s) (sc k e.1, sc k e.2) = hitE s e := by
  unfold hitE
  rw [lo_sc hk, hi_sc hk]
  apply decide_eq_decide.2
  unfold hitU
  simp only [sc, sd_sc]
  have e1 : k * (lo e).2 ≤ k * s.2 ↔ (lo e).2 ≤ s.2 := ⟨cle hk, mle hk⟩
  have e2 : k * s.2 < k * (hi e).2 ↔ s.2 < (hi e).2 := ⟨clt hk, mlt hk⟩
  have e3 : ∀ x : Int, 0 < k * k * x ↔ 0 < x := fun x => ⟨cpos (pp hk hk), pp (pp hk hk)⟩
  rw [e1, e2, e3]
theorem inn_sc {k : Int} (hk : 0 < k) (l : List Pt) (s : Pt) : inn (l.map (sc k)) (sc k s) = inn l s := by
  unfold inn
  rw [ring_map, par_map]
  exact par_congr fun e _ => hit_sc hk s e
end Go.Eng.Geo

/-
Plane geometry in whole numbers: parity and turns of a fence around a spot.
-/
namespace Go.Eng.Geo
/-- above 0: the edge (a, b) is to the right of the edge (c, d) at the height y; both rise -/
def W (ax ay bx b_y cx cy dx dy y : Int) : Int := (bx - ax) * (y - ay) * (dy - cy) - (dx - cx) * (y - cy) * (b_y - ay) - (b_y - ay) * (dy - cy) * (cx - ax)
theorem W_neg (ax ay bx b_y cx cy dx dy y : Int) : W cx cy dx dy ax ay bx b_y y = - W ax ay bx b_y cx cy dx dy y := by unfold W; grind
theorem W_sd (ax ay bx b_y cx cy dx dy y : Int) : sd ((dy - cy) * ax) ((dy - cy) * ay) ((dy - cy) * bx) ((dy - cy) * b_y) ((dy - cy) * cx + (dx - cx) * (y - cy)) ((dy - cy) * y) = (dy - cy) * W ax ay bx b_y cx cy dx dy y := by unfold sd W; grind
theorem W_self (ax ay bx b_y y : Int) : W ax ay bx b_y ax ay bx b_y y = 0 := by unfold W; grind
theorem W_p (ax ay bx b_y cx cy dx dy px y : Int) : (dy - cy) * sd ax ay bx b_y px y = W ax ay bx b_y cx cy dx dy y + (b_y - ay) * sd cx cy dx dy px y := by unfold sd W; grind

def WE (e f : Pt × Pt) (y : Int) : Int := W (lo e).1 (lo e).2 (hi e).1 (hi e).2 (lo f).1 (lo f).2 (hi f).1 (hi f).2 y
/-- the spot of the edge f at a height, times the edge's height -/
def at_ (f : Pt × Pt) (y : Int) : Pt := (((hi f).2 - (lo f).2) * (lo f).1 + ((hi f).1 - (lo f).1) * (y - (lo f).2), ((hi f).2 - (lo f).2) * y)

theorem hit_iff (p : Pt) (e : Pt × Pt) : hitE p e = true ↔ ((lo e).2 ≤ p.2 ∧ p.2 < (hi e).2 ∧ 0 < sd (lo e).1 (lo e).2 (hi e).1 (hi e).2 p.1 p.2) := by
  unfold hitE; rw [decide_eq_true_iff]; exact Iff.rfl

theorem on_at (f : Pt × Pt) (y : Int) (h1 : (lo f).2 ≤ y) (h2 : y < (hi f).2) : onE (sc ((hi f).2 - (lo f).2) (lo f), sc ((hi f).2 - (lo f).2) (hi f)) (at_ f y) := by
  have hD : 0 < (hi f).2 - (lo f).2 := by omega
  refine onb_of_y ?_ (mle hD h1) (mle hD (by omega)) (mlt hD (by omega))
  show sd _ _ _ _ _ _ = 0
  unfold at_ sc
  rw [W_sd, W_self, Int.mul_zero]

/-- an edge goes over the spot of another one, to its right -/
theorem hit_at {p : Pt} {e f : Pt × Pt} (hf : hitE p f = true) : hitE (at_ f p.2) (sc ((hi f).2 - (lo f).2) e.1, sc ((hi f).2 - (lo f).2) e.2) = (hitE p e && decide (0 < WE e f p.2)) := by
  obtain ⟨h1, h2, h3⟩ := (hit_iff p f).1 hf
  have hD : 0 < (hi f).2 - (lo f).2 := by omega
  have hw := W_p (lo e).1 (lo e).2 (hi e).1 (hi e).2 (lo f).1 (lo f).2 (hi f).1 (hi f).2 p.1 p.2
  have key : hitE (at_ f p.2) (sc ((hi f).2 - (lo f).2) e.1, sc ((hi f).2 - (lo f).2) e.2) = true ↔ ((lo e).2 ≤ p.2 ∧ p.2 < (hi e).2 ∧ 0 < WE e f p.2) := by
    rw [hit_iff, lo_sc hD, hi_sc hD]
    unfold at_ sc
    simp only
    rw [W_sd]
    exact ⟨fun ⟨a, b, c⟩ => ⟨cle hD a, clt hD b, cpos hD c⟩, fun ⟨a, b, c⟩ => ⟨mle hD a, mlt hD b, pp hD c⟩⟩
  rw [Bool.eq_iff_iff, key, Bool.and_eq_true, decide_eq_true_iff, hit_iff]
  constructor
  · rintro ⟨a, b, c⟩
    refine ⟨⟨a, b, ?_⟩, c⟩
    have := PP (show 0 ≤ (hi e).2 - (lo e).2 by omega) (Int.le_of_lt h3)
    have c' : 0 < W (lo e).1 (lo e).2 (hi e).1 (hi e).2 (lo f).1 (lo f).2 (hi f).1 (hi f).2 p.2 := c
    exact cpos hD (by omega)
  · rintro ⟨⟨a, b, _⟩, c⟩; exact ⟨a, b, c⟩

theorem onE_meet {e f : Pt × Pt} {r : Pt} (h1 : onE e r) (h2 : onE f r) : meetE e f := common h1 h2

/-- of the edges over p, an even number is to the right of an edge whose ends are without -/
theorem even_right (l : List Pt) (p : Pt) (f : Pt × Pt) (hf : hitE p f = true) (hn : ∀ e ∈ ring l, ¬ meetE e f) (h0 : inn l (lo f) = false) :
    par (fun e => hitE p e && decide (0 < WE e f p.2)) (ring l) = false := by
  obtain ⟨h1, h2, h3⟩ := (hit_iff p f).1 hf
  have hD : 0 < (hi f).2 - (lo f).2 := by omega
  have hi' : inn (l.map (sc ((hi f).2 - (lo f).2))) (sc ((hi f).2 - (lo f).2) (lo f)) = inn (l.map (sc ((hi f).2 - (lo f).2))) (at_ f p.2) := by
    apply inn_inv
    intro e he hm
    rw [ring_map] at he
    obtain ⟨e', he', rfl⟩ := List.mem_map.1 he
    have hm2 : meetE (sc ((hi f).2 - (lo f).2) e'.1, sc ((hi f).2 - (lo f).2) e'.2) (sc ((hi f).2 - (lo f).2) (lo f), sc ((hi f).2 - (lo f).2) (hi f)) :=
      meets_sub (on_at f p.2 h1 h2) hm
    exact hn e' he' (meet_lohi2 (meets_sc hD hm2))
  rw [inn_sc hD, h0] at hi'
  rw [hi']
  unfold inn
  rw [ring_map, par_map]
  exact par_congr fun e _ => (hit_at hf).symm

theorem W_ne {p : Pt} {e f : Pt × Pt} (he : hitE p e = true) (hf : hitE p f = true) (hn : ¬ meetE e f) : WE e f p.2 ≠ 0 := by
  intro h
  obtain ⟨h1, h2, h3⟩ := (hit_iff p f).1 hf
  obtain ⟨k1, k2, k3⟩ := (hit_iff p e).1 he
  have hD : 0 < (hi f).2 - (lo f).2 := by omega
  have on1 : onE (sc ((hi f).2 - (lo f).2) (lo e), sc ((hi f).2 - (lo f).2) (hi e)) (at_ f p.2) := by
    refine onb_of_y ?_ (mle hD k1) (mle hD (by omega)) (mlt hD (by omega))
    show sd _ _ _ _ _ _ = 0
    unfold at_ sc
    rw [W_sd]
    have : W (lo e).1 (lo e).2 (hi e).1 (hi e).2 (lo f).1 (lo f).2 (hi f).1 (hi f).2 p.2 = 0 := h
    rw [this, Int.mul_zero]
  exact hn (meet_lohi (meet_lohi2 (meets_sc hD (onE_meet on1 (on_at f p.2 h1 h2)))))

/-- two rings that do not meet, each with its corners without the other, have no spot within both -/
theorem apart (l m : List Pt) (p : Pt) (hn : ∀ e ∈ ring l, ∀ f ∈ ring m, ¬ meetE e f) (hl : ∀ f ∈ ring m, inn l (lo f) = false)
    (hm : ∀ e ∈ ring l, inn m (lo e) = false) : inn l p = false ∨ inn m p = false := by
  have A : par (fun f => par (fun e => hitE p f && (hitE p e && decide (0 < WE e f p.2))) (ring l)) (ring m) = false := by
    apply par_false
    intro f hf
    rw [par_and]
    by_cases h : hitE p f = true
    · rw [even_right l p f h (fun e he => hn e he f hf) (hl f hf), Bool.and_false]
    · rw [Bool.not_eq_true] at h; rw [h, Bool.false_and]
  have B : par (fun e => par (fun f => hitE p e && (hitE p f && decide (0 < WE f e p.2))) (ring m)) (ring l) = false := by
    apply par_false
    intro e he
    rw [par_and]
    by_cases h : hitE p e = true
    · rw [even_right m p e h (fun f hf hh => hn e he f hf (meetE_comm hh)) (hm e he), Bool.and_false]
    · rw [Bool.not_eq_true] at h; rw [h, Bool.false_and]
  rw [par_comm] at A
  have C := par_xor (fun e => par (fun f => hitE p f && (hitE p e && decide (0 < WE e f p.2))) (ring m)) (fun e => par (fun f => hitE p e && (hitE p f && decide (0 < WE f e p.2))) (ring m)) (ring l)
  rw [A, B] at C
  have D : par (fun e => (par (fun f => hitE p f && (hitE p e && decide (0 < WE e f p.2))) (ring m) ^^ par (fun f => hitE p e && (hitE p f && decide (0 < WE f e p.2))) (ring m))) (ring l) = par (fun e => inn m p && hitE p e) (ring l) := by
    apply par_congr
    intro e he
    rw [← par_xor]
    rw [Bool.and_comm]
    unfold inn
    rw [← par_and]
    apply par_congr
    intro f hf
    by_cases h1 : hitE p e = true
    · by_cases h2 : hitE p f = true
      · have := W_ne h1 h2 (hn e he f hf)
        have hneg : WE f e p.2 = - WE e f p.2 := W_neg ..
        rw [h1, h2, hneg]
        by_cases h3 : 0 < WE e f p.2
        · have h4 : ¬ (0 < - WE e f p.2) := by omega
          rw [decide_eq_true h3, decide_eq_false h4]; rfl
        · have h4 : 0 < - WE e f p.2 := by omega
          rw [decide_eq_false h3, decide_eq_true h4]; rfl
      · rw [Bool.not_eq_true] at h2; simp [h2]
    · rw [Bool.not_eq_true] at h1; simp [h1]
  rw [D, par_and] at C
  have C' : (inn m p && inn l p) = false := C
  cases h1 : inn l p <;> cases h2 : inn m p <;> simp [h1, h2] at C' ⊢

/-- along corners whose edges meet no edge of l -/
theorem walk (l : List Pt) (z : Pt) (m : List Pt) (a : Pt) (h : ∀ f ∈ path z (a :: m), ∀ e ∈ ring l, ¬ meetE e f) : ∀ f ∈ path z (a :: m), inn l f.1 = inn l a ∧ inn l f.2 = inn l a := by
  induction m generalizing a with
  | nil =>
    intro f hf
    simp only [path, List.mem_singleton] at hf
    subst hf
    exact ⟨rfl, (inn_inv l a z fun e he => h (a, z) (by simp [path]) e he).symm⟩
  | cons b m ih =>
    have h1 : inn l a = inn l b := inn_inv l a b fun e he => h (a, b) (by simp [path]) e he
    have h2 := ih b fun f hf => h f (by simp [path, hf])
    intro f hf
    simp only [path, List.mem_cons] at hf
    rcases hf with rfl | hf
    · exact ⟨rfl, h1.symm⟩
    · rw [h1]; exact h2 f hf

theorem corners_out (l : List Pt) (a : Pt) (m : List Pt) (h : ∀ f ∈ ring (a :: m), ∀ e ∈ ring l, ¬ meetE e f) (h0 : inn l a = false) :
    ∀ f ∈ ring (a :: m), inn l f.1 = false ∧ inn l f.2 = false := by
  intro f hf
  have := walk l a m a h f hf
  rw [h0] at this; exact this
theorem corners_lo (l : List Pt) (a : Pt) (m : List Pt) (h : ∀ f ∈ ring (a :: m), ∀ e ∈ ring l, ¬ meetE e f) (h0 : inn l a = false) :
    ∀ f ∈ ring (a :: m), inn l (lo f) = false := by
  intro f hf
  have := corners_out l a m h h0 f hf
  unfold lo; split
  · exact this.1
  · exact this.2

/-- the law: two rings that do not meet, the first corner of each without the other: a spot that is on an edge of one, or within, is not so for the other -/
theorem meet_both (a b : Pt) (l m : List Pt) (p : Pt) (hn : ∀ e ∈ ring (a :: l), ∀ f ∈ ring (b :: m), ¬ meetE e f)
    (ha : inn (b :: m) a = false) (hb : inn (a :: l) b = false)
    (h1 : (∃ e ∈ ring (a :: l), onE e p) ∨ inn (a :: l) p = true) (h2 : (∃ f ∈ ring (b :: m), onE f p) ∨ inn (b :: m) p = true) : False := by
  have hn' : ∀ f ∈ ring (b :: m), ∀ e ∈ ring (a :: l), ¬ meetE e f := fun f hf e he => hn e he f hf
  have hn2 : ∀ e ∈ ring (a :: l), ∀ f ∈ ring (b :: m), ¬ meetE f e := fun e he f hf hh => hn e he f hf (meetE_comm hh)
  rcases h1 with ⟨e, he, oe⟩ | h1
  · rcases h2 with ⟨f, hf, of⟩ | h2
    · exact hn e he f hf (onE_meet oe of)
    · have h3 := (corners_out (b :: m) a l hn2 ha e he).1
      have h4 := inn_inv (b :: m) e.1 p fun f hf hh => hn2 e he f hf (meets_sub oe hh)
      rw [h3, h2] at h4; cases h4
  · rcases h2 with ⟨f, hf, of⟩ | h2
    · have h3 := (corners_out (a :: l) b m hn' hb f hf).1
      have h4 := inn_inv (a :: l) f.1 p fun e he hh => hn' f hf e he (meets_sub of hh)
      rw [h3, h1] at h4; cases h4
    · rcases apart (a :: l) (b :: m) p hn (corners_lo _ b m hn' hb) (corners_lo _ a l hn2 ha) with h | h
      · rw [h1] at h; cases h
      · rw [h2] at h; cases h
end Go.Eng.Geo

/-
Plane geometry in whole numbers: parity and turns of a fence around a spot.
-/
namespace Go.Eng.Geo
/-- corners of a fence: edges have nothing in common but the corner between two that are next to each other -/
structure Simple (l : List Pt) : Prop where
  nd : l.Nodup
  sep : ∀ e ∈ ring l, ∀ f ∈ ring l, e ≠ f → e.2 ≠ f.1 → f.2 ≠ e.1 → ¬ meetE e f
  adj : ∀ e ∈ ring l, ∀ f ∈ ring l, e ≠ f → e.2 = f.1 → ¬ onE e f.2 ∧ ¬ onE f e.1

theorem sq_nn (x : Int) : 0 ≤ x * x := by
  by_cases h : 0 ≤ x
  · exact PP h h
  · exact NN (by omega) (by omega)

end Go.Eng.Geo

/-
Plane geometry in whole numbers: parity and turns of a fence around a spot.
-/
namespace Go.Eng.Geo
theorem hit_up {a b p : Pt} (h : a.2 ≤ b.2) : hitE p (a, b) = decide (hitU a.1 a.2 b.1 b.2 p.1 p.2) := by
  have e1 : lo (a, b) = a := if_pos h
  have e2 : hi (a, b) = b := if_pos h
  unfold hitE; rw [e1, e2]
theorem hit_dn {a b p : Pt} (h : b.2 < a.2) : hitE p (a, b) = decide (hitU b.1 b.2 a.1 a.2 p.1 p.2) := by
  have e1 : lo (a, b) = b := if_neg (by show ¬ a.2 ≤ b.2; omega)
  have e2 : hi (a, b) = a := if_neg (by show ¬ a.2 ≤ b.2; omega)
  unfold hitE; rw [e1, e2]
end Go.Eng.Geo

/-
Plane geometry in whole numbers: parity and turns of a fence around a spot.
-/
namespace Go.Eng.Geo
theorem ring_fst {α} (l : List α) : (ring l).map Prod.fst = l := by
  have : ∀ (z : α) (l : List α), (path z l).map Prod.fst = l := by
    intro z l
    induction l with
    | nil => rfl
    | cons a l ih => cases l with
      | nil => rfl
      | cons b l => simp only [path, List.map_cons]; rw [ih]
  cases l with
  | nil => rfl
  | cons a l => exact this a (a :: l)
theorem nodup_of_map {α β} {g : α → β} {l : List α} (h : (l.map g).Nodup) : l.Nodup := by
  induction l with
  | nil => simp
  | cons a l ih =>
    simp only [List.map_cons, List.nodup_cons] at h ⊢
    exact ⟨fun hh => h.1 (List.mem_map_of_mem hh), ih h.2⟩
theorem nodup_map {α β} {g : α → β} {l : List α} (h : l.Nodup) (hg : ∀ e ∈ l, ∀ f ∈ l, e ≠ f → g e ≠ g f) : (l.map g).Nodup := by
  induction l with
  | nil => simp
  | cons a l ih =>
    simp only [List.map_cons, List.nodup_cons] at h ⊢
    refine ⟨fun hh => ?_, ih h.2 fun e he f hf => hg e (by simp [he]) f (by simp [hf])⟩
    obtain ⟨f, hf, e⟩ := List.mem_map.1 hh
    exact hg a (by simp) f (by simp [hf]) (fun e' => h.1 (e' ▸ hf)) e.symm

end Go.Eng.Geo

/-
Plane geometry in whole numbers: parity and turns of a fence around a spot.
-/
namespace Go.Eng.Geo
end Go.Eng.Geo

/-
Fences: what the code asks of two ways and a spot is what plane geometry says.
-/
namespace Go.Eng
open Go Geo
set_option linter.unusedVariables false
set_option linter.unusedSimpArgs false

def pt (s : api_Spot) : Pt := (s.X, s.Y)
def pte (e : api_Spot × api_Spot) : Pt × Pt := (pt e.1, pt e.2)
/-- a spot that is not far -/
def InB (s : api_Spot) : Prop := (-20000 ≤ s.X ∧ s.X ≤ 20000) ∧ (-20000 ≤ s.Y ∧ s.Y ≤ 20000)
/-- a right spot -/
def InS (s : api_Spot) : Prop := (-10000 ≤ s.X ∧ s.X ≤ 10000) ∧ (-10000 ≤ s.Y ∧ s.Y ≤ 10000)
theorem InS.inB {s : api_Spot} (h : InS s) : InB s := by unfold InS at h; unfold InB; omega
theorem pt_inj {a b : api_Spot} (h : pt a = pt b) : a = b := by
  cases a; cases b
  simp only [pt, Prod.mk.injEq] at h
  rw [h.1, h.2]
theorem spot_eq {a b : api_Spot} : (decide (a.X = b.X) && (decide (a.Y = b.Y) && true)) = true ↔ a = b := by
  cases a; cases b
  simp
theorem mul_bd {x y m k : Int} (hx : -m ≤ x ∧ x ≤ m) (hy : -k ≤ y ∧ y ≤ k) : -(m * k) ≤ x * y ∧ x * y ≤ m * k := by
  have h1 : x.natAbs ≤ m.natAbs := by omega
  have h2 : y.natAbs ≤ k.natAbs := by omega
  have h3 := Nat.mul_le_mul h1 h2
  rw [← Int.natAbs_mul, ← Int.natAbs_mul] at h3
  have h4 : 0 ≤ m * k := PP (by omega) (by omega)
  omega
theorem wmul {x y : Int} (hx : -40000 ≤ x ∧ x ≤ 40000) (hy : -40000 ≤ y ∧ y ≤ 40000) : IntKind.wrap .i64 (x * y) = x * y ∧ -1600000000 ≤ x * y ∧ x * y ≤ 1600000000 := by
  have := mul_bd hx hy
  exact ⟨wrap64 (by omega) (by omega), by omega, by omega⟩
theorem side_wrap {a b s : api_Spot} (ha : InB a) (hb : InB b) (hs : InB s) :
    (IntKind.wrap .i64 ((IntKind.wrap .i64 ((IntKind.wrap .i64 (b.X - a.X)) * (IntKind.wrap .i64 (s.Y - a.Y)))) - (IntKind.wrap .i64 ((IntKind.wrap .i64 (b.Y - a.Y)) * (IntKind.wrap .i64 (s.X - a.X)))))) = sd a.X a.Y b.X b.Y s.X s.Y := by
  obtain ⟨a1, a2⟩ := ha; obtain ⟨b1, b2⟩ := hb; obtain ⟨s1, s2⟩ := hs
  rw [wrap64 (n := b.X - a.X) (by omega) (by omega), wrap64 (n := s.Y - a.Y) (by omega) (by omega), wrap64 (n := b.Y - a.Y) (by omega) (by omega), wrap64 (n := s.X - a.X) (by omega) (by omega)]
  have m1 := wmul (x := b.X - a.X) (y := s.Y - a.Y) (by omega) (by omega)
  have m2 := wmul (x := b.Y - a.Y) (y := s.X - a.X) (by omega) (by omega)
  rw [m1.1, m2.1, wrap64 (by omega) (by omega)]
  rfl
theorem imin_eq (a b : Int) : imin a b = min a b := by unfold imin; split <;> omega
theorem imax_eq (a b : Int) : imax a b = max a b := by unfold imax; split <;> omega
instance (ax ay bx b_y sx sy : Int) : Decidable (onb ax ay bx b_y sx sy) := by unfold onb; infer_instance
instance (ax ay bx b_y cx cy dx dy : Int) : Decidable (meetsP ax ay bx b_y cx cy dx dy) := by unfold meetsP; infer_instance
def onB (e : api_Spot × api_Spot) (s : api_Spot) : Bool := decide (onb e.1.X e.1.Y e.2.X e.2.Y s.X s.Y)
def meB (e f : api_Spot × api_Spot) : Bool := decide (meetsP e.1.X e.1.Y e.2.X e.2.Y f.1.X f.1.Y f.2.X f.2.Y)
theorem onB_iff {e : api_Spot × api_Spot} {s : api_Spot} : onB e s = true ↔ onE (pte e) (pt s) := by unfold onB; rw [decide_eq_true_iff]; exact Iff.rfl
theorem meB_iff {e f : api_Spot × api_Spot} : meB e f = true ↔ meetE (pte e) (pte f) := by unfold meB; rw [decide_eq_true_iff]; exact Iff.rfl

theorem on_eq {a b s : api_Spot} (ha : InB a) (hb : InB b) (hs : InB s) : place_on a b s = some (onB (a, b) s) := by
  unfold place_on z528 z533 onB onb
  simp only [Option.bind_some, side_wrap ha hb hs, imin_eq, imax_eq]
  by_cases h0 : sd a.X a.Y b.X b.Y s.X s.Y = 0 <;> by_cases h1 : min a.X b.X ≤ s.X <;> by_cases h2 : s.X ≤ max a.X b.X <;> by_cases h3 : min a.Y b.Y ≤ s.Y <;>
    by_cases h4 : s.Y ≤ max a.Y b.Y <;> simp only [h0, h1, h2, h3, h4, decide_true, decide_false, cond_true, cond_false, Option.bind_some, and_true, and_false, and_self, true_and, false_and]

theorem cmpI_mul {x y : Int} : decide (IntKind.wrap .i64 (cmpI x 0 * cmpI y 0) < 0) = decide (x * y < 0) := by
  rw [Bool.eq_iff_iff, decide_eq_true_iff, decide_eq_true_iff]
  unfold cmpI
  by_cases h1 : x < 0 <;> by_cases h2 : 0 < x <;> by_cases h3 : y < 0 <;> by_cases h4 : 0 < y <;> (try omega)
  · have := nn h1 h3; simp only [h1, h3, if_true]; constructor <;> intro h <;> first | exact absurd h (by decide) | omega
  · have := np h1 h4; simp only [h1, h3, h4, if_true, if_false]; constructor <;> intro _ <;> first | decide | omega
  · have e : y = 0 := by omega
    subst e; simp only [h1, if_true, Int.mul_zero]; constructor <;> intro h <;> first | exact absurd h (by decide) | omega
  · have := pn h2 h3; simp only [h1, h2, h3, if_true, if_false]; constructor <;> intro _ <;> first | decide | omega
  · have := pp h2 h4; simp only [h1, h2, h3, h4, if_true, if_false]; constructor <;> intro h <;> first | exact absurd h (by decide) | omega
  · have e : y = 0 := by omega
    subst e; simp only [h1, h2, if_true, if_false, Int.mul_zero]; constructor <;> intro h <;> first | exact absurd h (by decide) | omega
  all_goals
    have e : x = 0 := by omega
    subst e
    simp only [Int.zero_mul, Int.lt_irrefl, if_false]
    constructor <;> intro h <;> first | (exact absurd h (by decide)) | omega
theorem or4 (a b c d : Bool) : (cond a (some true) (cond b (some true) (cond c (some true) (some d)))) = some (a || b || c || d) := by cases a <;> cases b <;> cases c <;> rfl

theorem meets_eq {a b c d : api_Spot} (ha : InB a) (hb : InB b) (hc : InB c) (hd : InB d) : z513 a b c d = some (meB (a, b) (c, d)) := by
  unfold z513 z516 z521 z533
  simp only [on_eq ha hb hc, on_eq ha hb hd, on_eq hc hd ha, on_eq hc hd hb, Option.bind_some, or4, side_wrap ha hb hc, side_wrap ha hb hd, side_wrap hc hd ha, side_wrap hc hd hb, cmpInt_eq, cmpI_mul]
  unfold meB meetsP onB
  simp only
  by_cases h1 : onb a.X a.Y b.X b.Y c.X c.Y <;> by_cases h2 : onb a.X a.Y b.X b.Y d.X d.Y <;> by_cases h3 : onb c.X c.Y d.X d.Y a.X a.Y <;> by_cases h4 : onb c.X c.Y d.X d.Y b.X b.Y <;>
    simp only [h1, h2, h3, h4, decide_true, decide_false, Bool.or_true, Bool.true_or, Bool.or_false, cond_true, cond_false, true_or, or_true, false_or]
  by_cases h5 : sd a.X a.Y b.X b.Y c.X c.Y * sd a.X a.Y b.X b.Y d.X d.Y < 0 <;> by_cases h6 : sd c.X c.Y d.X d.Y a.X a.Y * sd c.X c.Y d.X d.Y b.X b.Y < 0 <;>
    simp [h5, h6]

theorem rside_eq {a b s : api_Spot} (ha : InB a) (hb : InB b) (hs : InB s) : z353 a b s = some (cmpI (sd a.X a.Y b.X b.Y s.X s.Y) 0) := by
  unfold z353 z342 z325
  simp only [Option.bind_some, side_wrap ha hb hs, sign_eq]
theorem dot_on {ax ay bx b_y sx sy : Int} : onb ax ay bx b_y sx sy ↔ (sd ax ay bx b_y sx sy = 0 ∧ (ax - sx) * (bx - sx) + (ay - sy) * (b_y - sy) ≤ 0) := by
  constructor
  · rintro ⟨h0, h1, h2, h3, h4⟩
    refine ⟨h0, ?_⟩
    have key : ∀ x y z : Int, min x y ≤ z → z ≤ max x y → (x - z) * (y - z) ≤ 0 := by
      intro x y z h1 h2
      by_cases e : x = z
      · rw [e, Int.sub_self, Int.zero_mul]; exact Int.le_refl _
      by_cases h : x ≤ z
      · exact NP (by omega) (by omega)
      · exact PN (by omega) (by omega)
    have p1 := key _ _ _ h1 h2
    have p2 := key _ _ _ h3 h4
    omega
  · rintro ⟨h0, h1⟩
    have e : ((ax - sx) * (bx - sx)) * ((ay - sy) * (b_y - sy)) = ((ax - sx) * (b_y - sy)) * ((ax - sx) * (b_y - sy)) := by
      have h2 : (ax - sx) * (b_y - sy) = (ay - sy) * (bx - sx) := by unfold sd at h0; grind
      have : ((ax - sx) * (b_y - sy)) * ((ax - sx) * (b_y - sy)) = ((ax - sx) * (b_y - sy)) * ((ay - sy) * (bx - sx)) := by rw [← h2]
      rw [this]; grind
    have e2 := sq_nn ((ax - sx) * (b_y - sy))
    have p1 : (ax - sx) * (bx - sx) ≤ 0 := by
      by_cases h : (ax - sx) * (bx - sx) ≤ 0
      · exact h
      · have := pn (show 0 < (ax - sx) * (bx - sx) by omega) (show (ay - sy) * (b_y - sy) < 0 by omega)
        omega
    have p2 : (ay - sy) * (b_y - sy) ≤ 0 := by
      by_cases h : (ay - sy) * (b_y - sy) ≤ 0
      · exact h
      · have := np (show (ax - sx) * (bx - sx) < 0 by omega) (show 0 < (ay - sy) * (b_y - sy) by omega)
        omega
    have key : ∀ x y z : Int, (x - z) * (y - z) ≤ 0 → min x y ≤ z ∧ z ≤ max x y := by
      intro x y z h
      by_cases h1 : z < x ∧ z < y
      · have := pp (show 0 < x - z by omega) (show 0 < y - z by omega); omega
      · by_cases h2 : x < z ∧ y < z
        · have := nn (show x - z < 0 by omega) (show y - z < 0 by omega); omega
        · omega
    have k1 := key _ _ _ p1
    have k2 := key _ _ _ p2
    exact ⟨h0, k1.1, k1.2, k2.1, k2.2⟩
theorem ron_eq {a b s : api_Spot} (ha : InB a) (hb : InB b) (hs : InB s) : z345 a b s = some (onB (a, b) s) := by
  unfold z345 z348 z342 z328
  simp only [rside_eq ha hb hs, Option.bind_some]
  have h0 : decide (cmpI (sd a.X a.Y b.X b.Y s.X s.Y) 0 = 0) = decide (sd a.X a.Y b.X b.Y s.X s.Y = 0) := by
    rw [Bool.eq_iff_iff, decide_eq_true_iff, decide_eq_true_iff]; unfold cmpI; (repeat' split) <;> omega
  rw [h0]
  obtain ⟨a1, a2⟩ := ha; obtain ⟨b1, b2⟩ := hb; obtain ⟨s1, s2⟩ := hs
  rw [wrap64 (n := a.X - s.X) (by omega) (by omega), wrap64 (n := b.X - s.X) (by omega) (by omega), wrap64 (n := a.Y - s.Y) (by omega) (by omega), wrap64 (n := b.Y - s.Y) (by omega) (by omega)]
  have m1 := wmul (x := a.X - s.X) (y := b.X - s.X) (by omega) (by omega)
  have m2 := wmul (x := a.Y - s.Y) (y := b.Y - s.Y) (by omega) (by omega)
  rw [m1.1, m2.1, wrap64 (by omega) (by omega)]
  unfold onB
  simp only [dot_on]
  by_cases h1 : sd a.X a.Y b.X b.Y s.X s.Y = 0 <;> simp [h1]
theorem touches_eq {a b c d : api_Spot} (ha : InB a) (hb : InB b) (hc : InB c) (hd : InB d) : z359 a b c d = some (meB (a, b) (c, d)) := by
  unfold z359 z362 z367
  simp only [ron_eq ha hb hc, ron_eq ha hb hd, ron_eq hc hd ha, ron_eq hc hd hb, Option.bind_some, or4, rside_eq ha hb hc, rside_eq ha hb hd, rside_eq hc hd ha, rside_eq hc hd hb, cmpI_mul]
  unfold meB meetsP onB
  simp only
  by_cases h1 : onb a.X a.Y b.X b.Y c.X c.Y <;> by_cases h2 : onb a.X a.Y b.X b.Y d.X d.Y <;> by_cases h3 : onb c.X c.Y d.X d.Y a.X a.Y <;> by_cases h4 : onb c.X c.Y d.X d.Y b.X b.Y <;>
    simp only [h1, h2, h3, h4, decide_true, decide_false, Bool.or_true, Bool.true_or, Bool.or_false, cond_true, cond_false, true_or, or_true, false_or]
  by_cases h5 : sd a.X a.Y b.X b.Y c.X c.Y * sd a.X a.Y b.X b.Y d.X d.Y < 0 <;> by_cases h6 : sd c.X c.Y d.X d.Y a.X a.Y * sd c.X c.Y d.X d.Y b.X b.Y < 0 <;>
    simp [h5, h6]

/-! ### Edges by number -/
theorem path_len {α} (z : α) : ∀ l : List α, (path z l).length = l.length
  | [] => rfl
  | [_] => rfl
  | a :: b :: l => by simp only [path, List.length_cons]; rw [path_len z (b :: l)]; rfl
theorem ring_len {α} (l : List α) : (ring l).length = l.length := by
  cases l with
  | nil => rfl
  | cons a l => exact path_len a (a :: l)
theorem path_get {α} (z : α) : ∀ (l : List α) (i : Nat) (h : i < l.length), (path z l)[i]? = some (l[i], (l[i + 1]?).getD z)
  | [], i, h => by simp at h
  | [a], i, h => by
    have : i = 0 := by simp at h; exact h
    subst this; rfl
  | a :: b :: l, 0, h => rfl
  | a :: b :: l, i + 1, h => by
    simp only [path, List.getElem?_cons_succ]
    rw [path_get z (b :: l) i (by simpa using h)]
    rfl
theorem ring_get {α} {l : List α} {i : Nat} (h : i < l.length) : (ring l)[i]'(by rw [ring_len]; exact h) = (l[i], l[(i + 1) % l.length]'(Nat.mod_lt _ (by omega))) := by
  have key : (ring l)[i]? = some (l[i], l[(i + 1) % l.length]'(Nat.mod_lt _ (by omega))) := by
    cases l with
    | nil => simp at h
    | cons a l =>
      show (path a (a :: l))[i]? = _
      rw [path_get a (a :: l) i h]
      congr 2
      by_cases hh : i + 1 < (a :: l).length
      · rw [List.getElem?_eq_getElem hh, Option.getD_some]
        congr 1
        exact (Nat.mod_eq_of_lt hh).symm
      · have e : i + 1 = (a :: l).length := by omega
        rw [List.getElem?_eq_none (by omega), Option.getD_none]
        have e2 : (i + 1) % (a :: l).length = 0 := by rw [e, Nat.mod_self]
        simp only [e2, List.getElem_cons_zero]
  rw [List.getElem?_eq_getElem (by rw [ring_len]; exact h)] at key
  exact Option.some.inj key
theorem edge_at {l : List api_Spot} (hl : (l.length : Int) ≤ 1000000) {i : Nat} (h : i < l.length) :
    at? l (i : Int) = some ((ring l)[i]'(by rw [ring_len]; exact h)).1 ∧ at? l ((IntKind.wrap .i64 ((i : Int) + 1)).tmod (l.length : Int)) = some ((ring l)[i]'(by rw [ring_len]; exact h)).2 ∧ (!((l.length : Int) == 0)) = true := by
  rw [ring_get h]
  have hne : ((l.length : Int) == 0) = false := by rw [beq_eq_false_iff_ne]; omega
  refine ⟨at_nat h, ?_, by rw [hne]; rfl⟩
  rw [wrap64 (by omega) (by omega)]
  have e : ((i : Int) + 1).tmod (l.length : Int) = (((i + 1) % l.length : Nat) : Int) := by
    rw [Int.tmod_eq_emod_of_nonneg (show 0 ≤ (i : Int) + 1 by omega)]
    simp
  rw [e, at_nat (Nat.mod_lt _ (by omega))]
theorem ring_pt (l : List api_Spot) : ring (l.map pt) = (ring l).map pte := ring_map pt l
theorem ring_mem {l : List api_Spot} {e : api_Spot × api_Spot} (h : e ∈ ring l) : e.1 ∈ l ∧ e.2 ∈ l := by
  obtain ⟨i, hi, rfl⟩ := List.mem_iff_getElem.1 h
  rw [ring_get (by rw [ring_len] at hi; exact hi)]
  exact ⟨List.getElem_mem _, List.getElem_mem _⟩

/-! ### Search loops -/
theorem range_from {α ρ : Type} {l : List α} {f : Int → Option (Int ⊕ ρ)} (g : Nat → α → Option ρ) (done : ρ) (hl : (l.length : Int) ≤ 9223372036854775807)
    (hf : ∀ (i : Nat) (h : i < l.length), f i = some (match g i l[i] with | none => .inl (IntKind.wrap .i64 (i + 1)) | some r => .inr r)) (hd : f l.length = some (.inr done)) (k : Nat) (hk : k ≤ l.length) :
    loopO f k = some ((scan g k (l.drop k)).getD done) := by
  generalize hn : l.length - k = n
  induction n generalizing k with
  | zero =>
    have : k = l.length := by omega
    subst this
    rw [loopO_eq, hd, List.drop_length]
    rfl
  | succ n ih =>
    have hi : k < l.length := by omega
    rw [loopO_eq, hf k hi, drop_get hi]
    simp only [scan]
    cases hg : g k l[k] with
    | some r => rfl
    | none =>
      simp only [Option.bind_some]
      rw [wrap64 (by omega) (by omega)]
      exact ih (k + 1) (by omega) (by omega)
/-- a search: is there a number from k on for which p says true -/
theorem scan_ex {α ρ : Type} {p : Nat → α → Bool} {r d : ρ} : ∀ {l : List α} {k : Nat}, (scan (fun i x => cond (p i x) (some r) none) k l).getD d = open Classical in if ∃ (i : Nat) (x : α), l[i]? = some x ∧ p (k + i) x = true then r else d
  | [], k => by simp [scan]
  | y :: l, k => by
    simp only [scan]
    cases h : p k y with
    | true =>
      simp only [cond_true, Option.getD_some]
      rw [if_pos ⟨0, y, rfl, by simpa using h⟩]
    | false =>
      simp only [cond_false]
      rw [scan_ex (l := l) (k := k + 1)]
      congr 1
      apply propext
      constructor
      · rintro ⟨i, x, h1, h2⟩
        exact ⟨i + 1, x, by simpa using h1, by rw [show k + (i + 1) = k + 1 + i by omega]; exact h2⟩
      · rintro ⟨i, x, h1, h2⟩
        cases i with
        | zero =>
          simp only [List.getElem?_cons_zero, Option.some.injEq] at h1
          subst h1
          rw [Nat.add_zero, h] at h2
          cases h2
        | succ i => exact ⟨i, x, by simpa using h1, by rw [show k + 1 + i = k + (i + 1) by omega]; exact h2⟩
end Go.Eng

/-
Fences: the checks of both ways are the same; a right fence is simple.
-/
namespace Go.Eng
open Go Geo
open scoped Classical
set_option linter.unusedVariables false
set_option linter.unusedSimpArgs false

/-! ### Is a spot among others -/
def spB (v x : api_Spot) : Bool := decide (v.X = x.X) && (decide (v.Y = x.Y) && true)
theorem spB_iff {v x : api_Spot} : spB v x = true ↔ v = x := spot_eq
theorem scan_idx {v : api_Spot} : ∀ (l : List api_Spot) (k : Nat), ∃ r : Int, (match ((scan (fun i x => cond (spB v x) (some (Sum.inr (i : Int))) none) k l).getD (Sum.inl ()) : Unit ⊕ Int) with | .inl _ => (-1 : Int) | .inr i => i) = r ∧ (decide (0 ≤ r) = l.any (spB v))
  | [], k => ⟨-1, rfl, rfl⟩
  | x :: l, k => by
    simp only [scan, List.any_cons]
    cases spB v x with
    | true => exact ⟨k, rfl, by simp⟩
    | false => simpa using scan_idx (v := v) l (k + 1)
theorem contains_eq (l : List api_Spot) (v : api_Spot) (hl : (l.length : Int) ≤ 1000000) : z707 l v = some (l.any (spB v)) := by
  unfold z707 z737
  rw [range_loop (l := l) (fun i x => cond (spB v x) (some (.inr (i : Int))) none) (.inl ()) (by omega)]
  · obtain ⟨r, h1, h2⟩ := scan_idx (v := v) l 0
    rw [← h2, ← h1]
    cases (scan (fun i x => cond (spB v x) (some (Sum.inr (i : Int))) none) 0 l).getD (Sum.inl () : Unit ⊕ Int) <;> rfl
  · intro i hi
    unfold z740
    have h : (i : Int) < l.length := by omega
    simp only [h, decide_true, cond_true, at_nat hi, Option.bind_some]
    show cond (spB v l[i]) _ _ = _
    cases spB v l[i] <;> rfl
  · unfold z740
    simp
theorem any_mem {l : List api_Spot} {v : api_Spot} : l.any (spB v) = true ↔ v ∈ l := by
  rw [List.any_eq_true]
  constructor
  · rintro ⟨x, h1, h2⟩; rw [spB_iff.1 h2]; exact h1
  · intro h; exact ⟨v, h, spB_iff.2 rfl⟩

/-! ### The first half of the checks -/
theorem inB_iff (s : api_Spot) : ((decide (-10000 ≤ s.X) && decide (s.X ≤ 10000)) && (decide (-10000 ≤ s.Y) && decide (s.Y ≤ 10000))) = true ↔ InS s := by
  unfold InS; simp
def Half1 (l : List api_Spot) : Unit ⊕ Int → Prop
  | .inl _ => (∀ s ∈ l, InS s) ∧ l.Nodup
  | .inr e => e ≠ 0
theorem half1 (f : api_Fence) (hl : f.Corners.length ≤ 200) :
    ∃ r, loopO (z399 f) 0 = some r ∧ loopO (z292 f.Corners) 0 = some r ∧ Half1 f.Corners r := by
  obtain ⟨key, l⟩ := f
  simp only at hl ⊢
  refine loop_two (fun i : Int => ∃ k : Nat, i = (k : Int) ∧ k ≤ l.length ∧ (∀ s ∈ l.take k, InS s) ∧ (l.take k).Nodup) (fun i => ((l.length : Int) - i).toNat) _ ?_ ⟨0, rfl, by omega, by simp, by simp⟩
  rintro i ⟨k, rfl, k1, k2, k3⟩
  unfold z399 z292
  by_cases hi : k < l.length
  · have hi' : (k : Int) < l.length := by omega
    have hs : sub? l 0 (k : Int) = some (l.take k) := by
      unfold sub?
      rw [if_pos (by omega)]
      simp
    simp only [hi', decide_true, cond_true, at_nat hi, Option.bind_some, isSpot_eq, SpotFault_eq, hs]
    by_cases hb : InS l[k]
    · simp only [(inB_iff _).2 hb, Bool.not_true, cond_false, cond_true, decide_true]
      rw [contains_eq _ _ (by simp; omega)]
      simp only [Option.bind_some]
      cases hc : (l.take k).any (spB l[k]) with
      | true => right; exact ⟨_, rfl, rfl, by show (6 : Int) ≠ 0; omega⟩
      | false =>
        left
        rw [wrap64 (by omega) (by omega)]
        have e : l.take (k + 1) = l.take k ++ [l[k]] := List.take_succ_eq_append_getElem hi
        refine ⟨_, rfl, rfl, ⟨k + 1, by omega, by omega, ?_, ?_⟩, by omega⟩
        · rw [e]
          intro s hs
          rcases List.mem_append.1 hs with h | h
          · exact k2 s h
          · rw [List.mem_singleton] at h; rw [h]; exact hb
        · rw [e, List.nodup_append]
          refine ⟨k3, by simp, fun a ha b hb' => ?_⟩
          rw [List.mem_singleton] at hb'
          subst hb'
          intro e'
          subst e'
          rw [any_mem.2 ha] at hc
          cases hc
    · have hb' : ((decide (-10000 ≤ l[k].X) && decide (l[k].X ≤ 10000)) && (decide (-10000 ≤ l[k].Y) && decide (l[k].Y ≤ 10000))) = false := by
        rw [← Bool.not_eq_true]; exact fun h => hb ((inB_iff _).1 h)
      right
      simp only [hb', Bool.not_false, cond_true, cond_false]
      exact ⟨.inr 1, rfl, rfl, by show (1 : Int) ≠ 0; omega⟩
  · have : k = l.length := by omega
    subst this
    right
    rw [List.take_length] at k2 k3
    exact ⟨.inl (), by simp, by simp, k2, k3⟩

/-! ### Crossed edges -/
def badP (n i k : Nat) (e f : api_Spot × api_Spot) : Bool :=
  (!decide (k = i + 1) && (!decide ((k + 1) % n = i) && meB e f)) || (decide (k = i + 1) && (onB e f.2 || onB f e.1)) || (decide ((k + 1) % n = i) && (onB e f.1 || onB f e.2))
noncomputable def innP (L : List (api_Spot × api_Spot)) (i : Nat) (e : api_Spot × api_Spot) : Bool :=
  decide (∃ (k : Nat) (x : api_Spot × api_Spot), i < k ∧ L[k]? = some x ∧ badP L.length i k e x = true)
theorem mod_int {k n : Nat} (hk : (k : Int) + 1 ≤ 1000000) {i : Nat} : decide ((IntKind.wrap .i64 ((k : Int) + 1)).tmod (n : Int) = (i : Int)) = decide ((k + 1) % n = i) := by
  rw [wrap64 (by omega) (by omega)]
  have e : ((k : Int) + 1).tmod (n : Int) = (((k + 1) % n : Nat) : Int) := by
    rw [Int.tmod_eq_emod_of_nonneg (show 0 ≤ (k : Int) + 1 by omega)]
    simp
  rw [e, Bool.eq_iff_iff, decide_eq_true_iff, decide_eq_true_iff]
  omega
theorem suc_int {i k : Nat} (hi : (i : Int) + 1 ≤ 1000000) : decide ((k : Int) = IntKind.wrap .i64 ((i : Int) + 1)) = decide (k = i + 1) := by
  rw [wrap64 (by omega) (by omega), Bool.eq_iff_iff, decide_eq_true_iff, decide_eq_true_iff]
  omega
theorem inb_ring {l : List api_Spot} (h : ∀ s ∈ l, InB s) {e : api_Spot × api_Spot} (he : e ∈ ring l) : InB e.1 ∧ InB e.2 := ⟨h _ (ring_mem he).1, h _ (ring_mem he).2⟩

theorem crossed_inner {l : List api_Spot} (hl : l.length ≤ 200) (hb : ∀ s ∈ l, InB s) {i : Nat} (hi : i < l.length) {e : api_Spot × api_Spot} (he : (ring l)[i]? = some e) :
    loopO (z453 l i e.1 e.2) (IntKind.wrap .i64 ((i : Int) + 1)) = some (cond (innP (ring l) i e) (.inr ()) (.inl ())) := by
  have hlen := ring_len l
  have he' : InB e.1 ∧ InB e.2 := inb_ring hb (List.mem_of_getElem? he)
  rw [wrap64 (by omega) (by omega), show ((i : Int) + 1) = ((i + 1 : Nat) : Int) by omega,
    range_from (l := ring l) (fun k x => cond (badP l.length i k e x) (some (.inr ())) none) (.inl ()) (by omega) ?_ ?_ (i + 1) (by omega), scan_ex]
  · unfold innP
    rw [hlen]
    congr 1
    have : (∃ (j : Nat) (x : api_Spot × api_Spot), ((ring l).drop (i + 1))[j]? = some x ∧ badP l.length i (i + 1 + j) e x = true) ↔ (∃ (k : Nat) (x : api_Spot × api_Spot), i < k ∧ (ring l)[k]? = some x ∧ badP l.length i k e x = true) := by
      constructor
      · rintro ⟨j, x, h1, h2⟩
        exact ⟨i + 1 + j, x, by omega, by rw [List.getElem?_drop] at h1; exact h1, h2⟩
      · rintro ⟨k, x, h0, h1, h2⟩
        exact ⟨k - (i + 1), x, by rw [List.getElem?_drop, show i + 1 + (k - (i + 1)) = k by omega]; exact h1, by rw [show i + 1 + (k - (i + 1)) = k by omega]; exact h2⟩
    by_cases h : ∃ (j : Nat) (x : api_Spot × api_Spot), ((ring l).drop (i + 1))[j]? = some x ∧ badP l.length i (i + 1 + j) e x = true
    · rw [if_pos h, decide_eq_true (this.1 h)]; rfl
    · rw [if_neg h, decide_eq_false (fun hh => h (this.2 hh))]; rfl
  · intro k hk
    have hk' : k < l.length := by omega
    obtain ⟨a1, a2, a3⟩ := edge_at (l := l) (by omega) hk'
    have hx := inb_ring hb (List.getElem_mem hk)
    generalize (ring l)[k] = x at a1 a2 hx
    unfold z453 z458 z463 z468
    have h : (k : Int) < l.length := by omega
    simp only [h, decide_true, cond_true, a1, a2, gd_true a3, Option.bind_some, suc_int (i := i) (k := k) (by omega), mod_int (i := i) (k := k) (n := l.length) (by omega),
      meets_eq he'.1 he'.2 hx.1 hx.2, on_eq he'.1 he'.2 hx.2, on_eq hx.1 hx.2 he'.1, on_eq he'.1 he'.2 hx.1, on_eq hx.1 hx.2 he'.2]
    unfold badP
    rw [show onB e x.2 = onB (e.1, e.2) x.2 from rfl, show onB x e.1 = onB (x.1, x.2) e.1 from rfl, show meB e x = meB (e.1, e.2) (x.1, x.2) from rfl, show onB e x.1 = onB (e.1, e.2) x.1 from rfl, show onB x e.2 = onB (x.1, x.2) e.2 from rfl]
    cases decide (k = i + 1) <;> cases decide ((k + 1) % l.length = i) <;> cases meB (e.1, e.2) (x.1, x.2) <;> cases onB (e.1, e.2) x.2 <;> cases onB (x.1, x.2) e.1 <;> cases onB (e.1, e.2) x.1 <;> cases onB (x.1, x.2) e.2 <;> rfl
  · rw [hlen]
    unfold z453
    simp
theorem crossed_eq {l : List api_Spot} (hl : l.length ≤ 200) (hb : ∀ s ∈ l, InB s) :
    z445 l = some (decide (∃ (i : Nat) (e : api_Spot × api_Spot), (ring l)[i]? = some e ∧ ∃ (k : Nat) (x : api_Spot × api_Spot), i < k ∧ (ring l)[k]? = some x ∧ badP l.length i k e x = true)) := by
  have hlen := ring_len l
  unfold z445
  rw [range_loop (l := ring l) (fun i e => cond (innP (ring l) i e) (some (.inr ())) none) (.inl ()) (by omega), scan_ex]
  · have hAB : (∃ (i : Nat) (x : api_Spot × api_Spot), (ring l)[i]? = some x ∧ innP (ring l) (0 + i) x = true) ↔ (∃ (i : Nat) (e : api_Spot × api_Spot), (ring l)[i]? = some e ∧ ∃ (k : Nat) (x : api_Spot × api_Spot), i < k ∧ (ring l)[k]? = some x ∧ badP l.length i k e x = true) := by
      simp only [Nat.zero_add, innP, decide_eq_true_iff, hlen]
    by_cases h : ∃ (i : Nat) (x : api_Spot × api_Spot), (ring l)[i]? = some x ∧ innP (ring l) (0 + i) x = true
    · rw [if_pos h, decide_eq_true (hAB.1 h)]; rfl
    · rw [if_neg h, decide_eq_false (fun hh => h (hAB.2 hh))]; rfl
  · intro i hi
    have hi' : i < l.length := by omega
    obtain ⟨a1, a2, a3⟩ := edge_at (l := l) (by omega) hi'
    have key := crossed_inner hl hb hi' (e := (ring l)[i]) (List.getElem?_eq_getElem hi)
    unfold z448
    have h : (i : Int) < l.length := by omega
    simp only [h, decide_true, cond_true, a1, a2, gd_true a3, Option.bind_some, key]
    cases innP (ring l) i (ring l)[i] <;> rfl
  · rw [hlen]
    unfold z448
    simp

def badR (i k : Nat) (e f : api_Spot × api_Spot) : Bool :=
  !decide (k = i) && cond (spB e.2 f.1) (onB e f.2 || onB f e.1) (cond (spB f.2 e.1) false (meB e f))
noncomputable def innR (L : List (api_Spot × api_Spot)) (i : Nat) (e : api_Spot × api_Spot) : Bool :=
  decide (∃ (k : Nat) (x : api_Spot × api_Spot), L[k]? = some x ∧ badR i k e x = true)
theorem redge_eq {l : List api_Spot} (hl : l.length ≤ 200) {i : Nat} (hi : i < l.length) : z331 l (i : Int) = some (((ring l)[i]'(by rw [ring_len]; exact hi)).1, ((ring l)[i]'(by rw [ring_len]; exact hi)).2) := by
  obtain ⟨a1, a2, a3⟩ := edge_at (l := l) (by omega) hi
  unfold z331
  simp only [a1, a2, gd_true a3, Option.bind_some]
theorem rcrossed_inner {l : List api_Spot} (hl : l.length ≤ 200) (hb : ∀ s ∈ l, InB s) {i : Nat} (hi : i < l.length) {e : api_Spot × api_Spot} (he : (ring l)[i]? = some e) :
    loopO (z302 l i e.1 e.2) 0 = some (cond (innR (ring l) i e) (.inr ()) (.inl ())) := by
  have hlen := ring_len l
  have he' : InB e.1 ∧ InB e.2 := inb_ring hb (List.mem_of_getElem? he)
  rw [range_loop (l := ring l) (fun k x => cond (badR i k e x) (some (.inr ())) none) (.inl ()) (by omega) ?_ ?_, scan_ex]
  · unfold innR
    have hAB : (∃ (j : Nat) (x : api_Spot × api_Spot), (ring l)[j]? = some x ∧ badR i (0 + j) e x = true) ↔ (∃ (k : Nat) (x : api_Spot × api_Spot), (ring l)[k]? = some x ∧ badR i k e x = true) := by
      simp only [Nat.zero_add]
    by_cases h : ∃ (j : Nat) (x : api_Spot × api_Spot), (ring l)[j]? = some x ∧ badR i (0 + j) e x = true
    · rw [if_pos h, decide_eq_true (hAB.1 h)]; rfl
    · rw [if_neg h, decide_eq_false (fun hh => h (hAB.2 hh))]; rfl
  · intro k hk
    have hk' : k < l.length := by omega
    have hx := inb_ring hb (List.getElem_mem hk)
    unfold z302 z307 z312
    rw [redge_eq hl hk']
    generalize (ring l)[k] = x at hx
    have h : (k : Int) < l.length := by omega
    have hki : decide ((k : Int) = (i : Int)) = decide (k = i) := by
      rw [Bool.eq_iff_iff, decide_eq_true_iff, decide_eq_true_iff]; omega
    simp only [h, decide_true, cond_true, Option.bind_some, hki, touches_eq he'.1 he'.2 hx.1 hx.2, ron_eq he'.1 he'.2 hx.2, ron_eq hx.1 hx.2 he'.1]
    rw [show (decide (e.2.X = x.1.X) && (decide (e.2.Y = x.1.Y) && true)) = spB e.2 x.1 from rfl, show (decide (x.2.X = e.1.X) && (decide (x.2.Y = e.1.Y) && true)) = spB x.2 e.1 from rfl]
    unfold badR
    rw [show onB e x.2 = onB (e.1, e.2) x.2 from rfl, show onB x e.1 = onB (x.1, x.2) e.1 from rfl, show meB e x = meB (e.1, e.2) (x.1, x.2) from rfl]
    cases decide (k = i) <;> cases spB e.2 x.1 <;> cases spB x.2 e.1 <;> cases meB (e.1, e.2) (x.1, x.2) <;> cases onB (e.1, e.2) x.2 <;> cases onB (x.1, x.2) e.1 <;> rfl
  · rw [hlen]
    unfold z302
    simp
theorem rcrossed_eq {l : List api_Spot} (hl : l.length ≤ 200) (hb : ∀ s ∈ l, InB s) :
    loopO (z297 l) 0 = some (cond (decide (∃ (i : Nat) (e : api_Spot × api_Spot), (ring l)[i]? = some e ∧ ∃ (k : Nat) (x : api_Spot × api_Spot), (ring l)[k]? = some x ∧ badR i k e x = true)) (.inr ()) (.inl ())) := by
  have hlen := ring_len l
  rw [range_loop (l := ring l) (fun i e => cond (innR (ring l) i e) (some (.inr ())) none) (.inl ()) (by omega), scan_ex]
  · have hAB : (∃ (i : Nat) (x : api_Spot × api_Spot), (ring l)[i]? = some x ∧ innR (ring l) (0 + i) x = true) ↔ (∃ (i : Nat) (e : api_Spot × api_Spot), (ring l)[i]? = some e ∧ ∃ (k : Nat) (x : api_Spot × api_Spot), (ring l)[k]? = some x ∧ badR i k e x = true) := by
      simp only [Nat.zero_add, innR, decide_eq_true_iff]
    by_cases h : ∃ (i : Nat) (x : api_Spot × api_Spot), (ring l)[i]? = some x ∧ innR (ring l) (0 + i) x = true
    · rw [if_pos h, decide_eq_true (hAB.1 h)]; rfl
    · rw [if_neg h, decide_eq_false (fun hh => h (hAB.2 hh))]; rfl
  · intro i hi
    have hi' : i < l.length := by omega
    have key := rcrossed_inner hl hb hi' (e := (ring l)[i]) (List.getElem?_eq_getElem hi)
    unfold z297
    have h : (i : Int) < l.length := by omega
    simp only [h, decide_true, cond_true, redge_eq hl hi', Option.bind_some, key]
    cases innR (ring l) i (ring l)[i] <;> rfl
  · rw [hlen]
    unfold z297
    simp

/-- edges have nothing in common but the corner between two that are next to each other -/
def Qs (l : List api_Spot) : Prop :=
  (∀ e ∈ ring l, ∀ f ∈ ring l, e ≠ f → e.2 ≠ f.1 → f.2 ≠ e.1 → meB e f = false) ∧ (∀ e ∈ ring l, ∀ f ∈ ring l, e ≠ f → e.2 = f.1 → onB e f.2 = false ∧ onB f e.1 = false)

section
variable {l : List api_Spot} (nd : l.Nodup)
include nd
theorem ring_nodup : (ring l).Nodup := nodup_of_map (g := Prod.fst) (by rw [ring_fst]; exact nd)
theorem ring_inj {i k : Nat} {e f : api_Spot × api_Spot} (hi : (ring l)[i]? = some e) (hk : (ring l)[k]? = some f) : e = f ↔ i = k := by
  have hn := ring_nodup nd
  obtain ⟨i1, i2⟩ := List.getElem?_eq_some_iff.1 hi
  obtain ⟨k1, k2⟩ := List.getElem?_eq_some_iff.1 hk
  constructor
  · intro h
    exact (List.getElem_inj hn).1 (by rw [i2, k2, h])
  · intro h; subst h; rw [← i2, ← k2]
theorem ring_next {i k : Nat} {e f : api_Spot × api_Spot} (hi : (ring l)[i]? = some e) (hk : (ring l)[k]? = some f) : e.2 = f.1 ↔ (i + 1) % l.length = k := by
  obtain ⟨i1, i2⟩ := List.getElem?_eq_some_iff.1 hi
  obtain ⟨k1, k2⟩ := List.getElem?_eq_some_iff.1 hk
  have i1' : i < l.length := by rw [ring_len] at i1; exact i1
  have k1' : k < l.length := by rw [ring_len] at k1; exact k1
  rw [ring_get i1'] at i2
  rw [ring_get k1'] at k2
  rw [← i2, ← k2]
  exact List.getElem_inj nd
theorem refQ : (∃ (i : Nat) (e : api_Spot × api_Spot), (ring l)[i]? = some e ∧ ∃ (k : Nat) (x : api_Spot × api_Spot), (ring l)[k]? = some x ∧ badR i k e x = true) ↔ ¬ Qs l := by
  constructor
  · rintro ⟨i, e, hi, k, f, hk, hb⟩ ⟨q1, q2⟩
    have me := List.mem_of_getElem? hi
    have mf := List.mem_of_getElem? hk
    unfold badR at hb
    simp only [Bool.and_eq_true, Bool.not_eq_true', decide_eq_false_iff_not] at hb
    obtain ⟨hne, hb⟩ := hb
    have hef : e ≠ f := fun h => hne ((ring_inj nd hi hk).1 h).symm
    cases h1 : spB e.2 f.1 with
    | true =>
      rw [h1] at hb
      have := q2 e me f mf hef (spB_iff.1 h1)
      rw [this.1, this.2] at hb; cases hb
    | false =>
      rw [h1] at hb
      cases h2 : spB f.2 e.1 with
      | true => rw [h2] at hb; cases hb
      | false =>
        rw [h2] at hb
        have := q1 e me f mf hef (fun h => by rw [spB_iff.2 h] at h1; cases h1) (fun h => by rw [spB_iff.2 h] at h2; cases h2)
        simp only [cond_false] at hb
        rw [this] at hb; cases hb
  · intro hq
    refine Classical.byContradiction fun hn => hq ⟨fun e me f mf hef h1 h2 => ?_, fun e me f mf hef h1 => ?_⟩
    all_goals
      obtain ⟨i, hi⟩ := List.mem_iff_getElem?.1 me
      obtain ⟨k, hk⟩ := List.mem_iff_getElem?.1 mf
      have hik : ¬ k = i := fun h => hef ((ring_inj nd hi hk).2 h.symm)
      have hb : badR i k e f = false := by
        rw [← Bool.not_eq_true]; exact fun h => hn ⟨i, e, hi, k, f, hk, h⟩
      unfold badR at hb
      rw [decide_eq_false hik] at hb
      simp only [Bool.not_false, Bool.true_and] at hb
    · have e1 : spB e.2 f.1 = false := by rw [← Bool.not_eq_true]; exact fun h => h1 (spB_iff.1 h)
      have e2 : spB f.2 e.1 = false := by rw [← Bool.not_eq_true]; exact fun h => h2 (spB_iff.1 h)
      rw [e1, e2] at hb
      exact hb
    · rw [spB_iff.2 h1] at hb
      simp only [cond_true, Bool.or_eq_false_iff] at hb
      exact hb
theorem progQ : (∃ (i : Nat) (e : api_Spot × api_Spot), (ring l)[i]? = some e ∧ ∃ (k : Nat) (x : api_Spot × api_Spot), i < k ∧ (ring l)[k]? = some x ∧ badP l.length i k e x = true) ↔ ¬ Qs l := by
  have hsuc : ∀ {i k : Nat} {e f : api_Spot × api_Spot}, (ring l)[i]? = some e → (ring l)[k]? = some f → i < k → ((i + 1) % l.length = k ↔ k = i + 1) := by
    intro i k e f hi hk hlt
    have k1 := (List.getElem?_eq_some_iff.1 hk).1
    rw [ring_len] at k1
    rw [Nat.mod_eq_of_lt (by omega)]
    omega
  constructor
  · rintro ⟨i, e, hi, k, f, hlt, hk, hb⟩ ⟨q1, q2⟩
    have me := List.mem_of_getElem? hi
    have mf := List.mem_of_getElem? hk
    have hef : e ≠ f := fun h => by have := (ring_inj nd hi hk).1 h; omega
    have n1 : e.2 = f.1 ↔ k = i + 1 := (ring_next nd hi hk).trans (hsuc hi hk hlt)
    have n2 : f.2 = e.1 ↔ (k + 1) % l.length = i := ring_next nd hk hi
    unfold badP at hb
    simp only [Bool.or_eq_true, Bool.and_eq_true, Bool.not_eq_true', decide_eq_false_iff_not, decide_eq_true_iff] at hb
    rcases hb with (⟨h1, h2, h⟩ | ⟨h1, h⟩) | ⟨h1, h⟩
    · rw [q1 e me f mf hef (fun h => h1 (n1.1 h)) (fun h => h2 (n2.1 h))] at h; cases h
    · have := q2 e me f mf hef (n1.2 h1)
      rw [this.1, this.2] at h; rcases h with h | h <;> cases h
    · have := q2 f mf e me hef.symm (n2.2 h1)
      rw [this.1, this.2] at h; rcases h with h | h <;> cases h
  · intro hq
    refine Classical.byContradiction fun hn => hq ⟨fun e me f mf hef h1 h2 => ?_, fun e me f mf hef h1 => ?_⟩
    all_goals
      obtain ⟨i, hi⟩ := List.mem_iff_getElem?.1 me
      obtain ⟨k, hk⟩ := List.mem_iff_getElem?.1 mf
      have hik : ¬ i = k := fun h => hef ((ring_inj nd hi hk).2 h)
      have hb : ∀ {i k : Nat} {e f : api_Spot × api_Spot}, (ring l)[i]? = some e → (ring l)[k]? = some f → i < k → badP l.length i k e f = false := by
        intro i k e f hi hk hlt
        rw [← Bool.not_eq_true]; exact fun h => hn ⟨i, e, hi, k, f, hlt, hk, h⟩
      have n1 := ring_next nd hi hk
      have n2 := ring_next nd hk hi
    · by_cases hlt : i < k
      · have := hb hi hk hlt
        unfold badP at this
        have a1 : ¬ k = i + 1 := fun h => h1 (n1.2 ((hsuc hi hk hlt).2 h))
        have a2 : ¬ (k + 1) % l.length = i := fun h => h2 (n2.2 h)
        rw [decide_eq_false a1, decide_eq_false a2] at this
        simpa using this
      · have hlt : k < i := by omega
        have := hb hk hi hlt
        unfold badP at this
        have a1 : ¬ i = k + 1 := fun h => h2 (n2.2 ((hsuc hk hi hlt).2 h))
        have a2 : ¬ (i + 1) % l.length = k := fun h => h1 (n1.2 h)
        rw [decide_eq_false a1, decide_eq_false a2] at this
        have t : meB f e = false := by simpa using this
        rw [← Bool.not_eq_true] at t ⊢
        exact fun h => t (meB_iff.2 (meetE_comm (meB_iff.1 h)))
    · have h1' := n1.1 h1
      by_cases hlt : i < k
      · have := hb hi hk hlt
        unfold badP at this
        have a1 : k = i + 1 := (hsuc hi hk hlt).1 h1'
        rw [decide_eq_true a1] at this
        simp only [Bool.not_true, Bool.false_and, Bool.false_or, Bool.true_and, Bool.or_eq_false_iff] at this
        exact this.1
      · have hlt : k < i := by omega
        have := hb hk hi hlt
        unfold badP at this
        rw [decide_eq_true h1'] at this
        simp only [Bool.not_true, Bool.false_and, Bool.and_false, Bool.false_or, Bool.true_and, Bool.or_eq_false_iff] at this
        exact ⟨this.2.2, this.2.1⟩
end

/-- corners of a right fence -/
def FRight (l : List api_Spot) : Prop := 3 ≤ l.length ∧ l.length ≤ 200 ∧ (∀ s ∈ l, InB s) ∧ Simple (l.map pt)
/-- corners of a right fence, all of them right spots -/
def FIn (l : List api_Spot) : Prop := FRight l ∧ ∀ s ∈ l, InS s
theorem simple_of {l : List api_Spot} (nd : l.Nodup) (hq : Qs l) : Simple (l.map pt) where
  nd := nodup_map nd fun _ _ _ _ hne h => hne (pt_inj h)
  sep := by
    intro e he f hf h1 h2 h3 hm
    rw [ring_pt] at he hf
    obtain ⟨e', he', rfl⟩ := List.mem_map.1 he
    obtain ⟨f', hf', rfl⟩ := List.mem_map.1 hf
    have := hq.1 e' he' f' hf' (fun h => h1 (by rw [h])) (fun h => h2 (by show pt e'.2 = pt f'.1; rw [h])) (fun h => h3 (by show pt f'.2 = pt e'.1; rw [h]))
    rw [meB_iff.2 hm] at this; cases this
  adj := by
    intro e he f hf h1 h2
    rw [ring_pt] at he hf
    obtain ⟨e', he', rfl⟩ := List.mem_map.1 he
    obtain ⟨f', hf', rfl⟩ := List.mem_map.1 hf
    have := hq.2 e' he' f' hf' (fun h => h1 (by rw [h])) (pt_inj h2)
    obtain ⟨t1, t2⟩ := this
    exact ⟨fun h => (by rw [onB_iff.2 h] at t1; cases t1), fun h => (by rw [onB_iff.2 h] at t2; cases t2)⟩

/-- the checks of corners, both ways -/
theorem corners_both (f : api_Fence) (hk : (f.Key.length : Int) ≤ 9223372036854775807) :
    ∃ c, z289 f.Corners = some c ∧ (c = 0 → FIn f.Corners) ∧ z396 f = some (cond (keyB f.Key) c 5) := by
  unfold z396
  rw [Key_eq _ hk]
  have key : ∃ c, z289 f.Corners = some c ∧ (c = 0 → FIn f.Corners) ∧
      (cond (decide ((f.Corners.length : Int) < 3)) (some 3) (cond (decide (200 < (f.Corners.length : Int))) (some 2) ((loopO (z399 f) 0).bind fun x => match x with
          | .inl _ => (z445 f.Corners).bind fun vr17 => cond (vr17) (some 13) (some 0)
          | .inr vx1_1 => some vx1_1))) = some c := by
    unfold z289
    by_cases h3 : (f.Corners.length : Int) < 3
    · exact ⟨3, by simp [h3], by omega, by simp [h3]⟩
    by_cases h200 : (200 : Int) < f.Corners.length
    · exact ⟨2, by simp [h3, h200], by omega, by simp [h3, h200]⟩
    have hl : f.Corners.length ≤ 200 := by omega
    obtain ⟨r, r1, r2, r3⟩ := half1 f hl
    simp only [h3, h200, decide_false, cond_false, r1, r2, Option.bind_some]
    cases r with
    | inr e => exact ⟨e, rfl, fun h => absurd h r3, rfl⟩
    | inl _ =>
      obtain ⟨hs, nd⟩ := r3
      have hb : ∀ s ∈ f.Corners, InB s := fun s h => (hs s h).inB
      simp only
      rw [crossed_eq hl hb, rcrossed_eq hl hb]
      have p := progQ nd
      have q := refQ nd
      by_cases hq : Qs f.Corners
      · rw [decide_eq_false (fun h => p.1 h hq), decide_eq_false (fun h => q.1 h hq)]
        exact ⟨0, rfl, fun _ => ⟨⟨by omega, hl, hb, simple_of nd hq⟩, hs⟩, rfl⟩
      · rw [decide_eq_true (p.2 hq), decide_eq_true (q.2 hq)]
        exact ⟨13, rfl, by omega, rfl⟩
  obtain ⟨c, c1, c2, c3⟩ := key
  refine ⟨c, c1, c2, ?_⟩
  cases h : keyB f.Key
  · rfl
  · simp only [Option.bind_some, Bool.not_true, cond_false, cond_true]; exact c3
end Go.Eng

/-
Where a spot is: both ways.
-/
namespace Go.Eng
open Go Geo
open scoped Classical
set_option linter.unusedVariables false
set_option linter.unusedSimpArgs false

theorem scan_any {α ρ : Type} {p : α → Bool} {r d : ρ} : ∀ {l : List α} {k : Nat}, (scan (fun _ x => cond (p x) (some r) none) k l).getD d = cond (l.any p) r d
  | [], _ => by simp [scan]
  | y :: l, k => by
    simp only [scan, List.any_cons]
    cases p y with
    | true => simp
    | false => simp only [cond_false, Bool.false_or]; exact scan_any (l := l)
theorem edges_on {l : List api_Spot} (hl : l.length ≤ 200) (hb : ∀ s ∈ l, InB s) {p : api_Spot} (hp : InB p) :
    z489 l p = some ((ring l).any fun e => onB e p) := by
  have hlen := ring_len l
  unfold z489
  rw [range_loop (l := ring l) (fun _ e => cond (onB e p) (some (.inr ())) none) (.inl ()) (by omega), scan_any]
  · cases (ring l).any fun e => onB e p <;> rfl
  · intro i hi
    have hi' : i < l.length := by omega
    obtain ⟨a1, a2, a3⟩ := edge_at (l := l) (by omega) hi'
    have hx := inb_ring hb (List.getElem_mem hi)
    generalize (ring l)[i] = x at a1 a2 hx
    unfold z492 z564
    have h : (i : Int) < l.length := by omega
    simp only [h, decide_true, cond_true, a1, a2, gd_true a3, Option.bind_some, on_eq hx.1 hx.2 hp]
    rw [show onB x p = onB (x.1, x.2) p from rfl]
    cases onB (x.1, x.2) p <;> rfl
  · rw [hlen]
    unfold z492
    simp
def htB (p : api_Spot) (e : api_Spot × api_Spot) : Bool := hitE (pt p) (pte e)
theorem where2_eq {a b p : api_Spot} (ha : InB a) (hb : InB b) (hp : InB p) (s : Bool) : z567 a b p s = some (s ^^ htB p (a, b)) := by
  unfold z567 z570 z575 z580 z533
  have key : ∀ {u v : api_Spot}, InB u → InB v → (cond (decide (u.Y ≤ p.Y)) (cond (decide (p.Y < v.Y)) (some (decide (0 < sd u.X u.Y v.X v.Y p.X p.Y))) (some false)) (some false)) = some (decide (hitU u.X u.Y v.X v.Y p.X p.Y)) := by
    intro u v hu hv
    unfold hitU
    by_cases h1 : u.Y ≤ p.Y <;> by_cases h2 : p.Y < v.Y <;> by_cases h3 : 0 < sd u.X u.Y v.X v.Y p.X p.Y <;> simp [h1, h2, h3]
  have fin : ∀ h : Bool, (cond h (some (!s)) (some s)) = some (s ^^ h) := by intro h; cases h <;> cases s <;> rfl
  by_cases hc : b.Y < a.Y
  · have ht : htB p (a, b) = decide (hitU b.X b.Y a.X a.Y p.X p.Y) := hit_dn (a := pt a) (b := pt b) (p := pt p) hc
    simp only [hc, decide_true, cond_true, Option.bind_some, side_wrap hb ha hp, key hb ha, ← ht, fin]
  · have ht : htB p (a, b) = decide (hitU a.X a.Y b.X b.Y p.X p.Y) := hit_up (a := pt a) (b := pt b) (p := pt p) (by show a.Y ≤ b.Y; omega)
    simp only [hc, decide_false, cond_false, Option.bind_some, side_wrap ha hb hp, key ha hb, ← ht, fin]
theorem fold_par {α} (f : α → Bool) (l : List α) (s : Bool) : l.foldl (fun s e => s ^^ f e) s = (s ^^ par f l) := by
  induction l generalizing s with
  | nil => simp [par]
  | cons a l ih => rw [List.foldl_cons, ih]; simp only [par]; rw [Bool.xor_assoc]
theorem inn_pt (l : List api_Spot) (p : api_Spot) : inn (l.map pt) (pt p) = par (htB p) (ring l) := by
  unfold inn
  rw [ring_pt, par_map]
  rfl
theorem edges_in {l : List api_Spot} (hl : l.length ≤ 200) (hb : ∀ s ∈ l, InB s) {p : api_Spot} (hp : InB p) :
    z497 l p false = some (inn (l.map pt) (pt p)) := by
  have hlen := ring_len l
  unfold z497
  have := (gather_loop (l := ring l) (f := z500 l p) (fun (s : Bool) i => (s, i)) (fun s e => s ^^ htB p e) id (fun _ _ => True) (s0 := false) (by omega) (fun i hi s _ => by
    have hi' : i < l.length := by omega
    obtain ⟨a1, a2, a3⟩ := edge_at (l := l) (by omega) hi'
    have hx := inb_ring hb (List.getElem_mem hi)
    generalize (ring l)[i] = x at a1 a2 hx
    unfold z500
    have h : (i : Int) < l.length := by omega
    simp only [h, decide_true, cond_true, a1, a2, gd_true a3, Option.bind_some, where2_eq hx.1 hx.2 hp]
    exact ⟨trivial, trivial⟩) (fun s _ => by rw [hlen]; unfold z500; simp) trivial).1
  rw [this, fold_par, inn_pt]
  simp
/-- where a spot is -/
noncomputable def wher (l : List api_Spot) (p : api_Spot) : Int := if ∃ e ∈ ring l, onB e p = true then 1 else if inn (l.map pt) (pt p) = true then 2 else 0
theorem where_eq {l : List api_Spot} (hl : l.length ≤ 200) (hb : ∀ s ∈ l, InB s) {p : api_Spot} (hp : InB p) : z563 l p = some (wher l p) := by
  unfold z563 wher
  rw [edges_on hl hb hp, edges_in hl hb hp]
  by_cases h : ∃ e ∈ ring l, onB e p = true
  · rw [if_pos h, (List.any_eq_true).2 h]; rfl
  · rw [if_neg h]
    have : ((ring l).any fun e => onB e p) = false := by rw [← Bool.not_eq_true, List.any_eq_true]; exact h
    rw [this]
    cases hh : inn (l.map pt) (pt p) <;> rfl

/-! ### The document's way: how often the edges go round -/
end Go.Eng

/-
The streams.
-/
namespace Go.Eng
open Go
set_option linter.unusedVariables false
set_option linter.unusedSimpArgs false

theorem wrap_I64 (n : Int) : I64 (IntKind.wrap .i64 n) := by
  unfold IntKind.wrap I64
  simp [IntKind.bits, IntKind.signed]
  split <;> omega

theorem Below_eq {x n : Int} (hx : I64 x) (hn : I64 n) : z237 x n = some (if n < 1 then 0 else x % n) := by
  unfold I64 at hx hn
  unfold z237 z240
  by_cases h : n < 1
  · simp [h]
  · have h0 : (n == 0) = false := by simp; omega
    have e := Int.emod_eq_tmod (a := x) (b := n)
    have nn := Int.emod_nonneg x (show n ≠ 0 by omega)
    have lt := Int.emod_lt_of_pos x (show 0 < n by omega)
    simp only [h, decide_false, cond_false, h0, Bool.not_false, gd, cond_true, Option.bind_some, if_false]
    by_cases h3 : x.tmod n < 0
    · simp only [h3, decide_true, cond_true, Option.bind_some]
      split at e
      · omega
      · rw [wrap64 (by omega) (by omega)]
        congr 1
        omega
    · simp only [h3, decide_false, cond_false, Option.bind_some]
      congr 1
      split at e <;> omega
theorem Below_ok {x n : Int} (hx : I64 x) (hn : I64 n) : Ok (z237 x n) (fun r => (1 ≤ n → 0 ≤ r ∧ r < n) ∧ (n < 1 → r = 0)) := by
  refine .of_eq (Below_eq hx hn) ⟨fun h => ?_, fun h => by simp [h]⟩
  rw [if_neg (by omega)]
  exact ⟨Int.emod_nonneg _ (by omega), Int.emod_lt_of_pos _ (by omega)⟩

/-- A stream whose numbers are of 64 bits, of which at most k were taken. -/
def StrOk (k : Nat) (s : z245) : Prop := 0 ≤ s.at_ ∧ s.at_ ≤ k ∧ s.L.length ≤ 9223372036854775807 ∧ ∀ n ∈ s.L, I64 n
theorem StrOk.mono {k k' : Nat} {s : z245} (h : StrOk k s) (hk : k ≤ k') : StrOk k' s := ⟨h.1, by have := h.2.1; omega, h.2.2⟩
/-- One number further. -/
abbrev nxt (s : z245) : z245 := z245.mk s.L (IntKind.wrap .i64 (s.at_ + 1))
theorem StrOk.nxt {k : Nat} {s : z245} (h : StrOk k s) (hk : k < 1099511627776) : StrOk (k + 1) (nxt s) := by
  obtain ⟨h1, h2, h3, h4⟩ := h
  refine ⟨?_, ?_, h3, h4⟩
  · show 0 ≤ IntKind.wrap .i64 (s.at_ + 1)
    rw [wrap64 (by omega) (by omega)]; omega
  · show IntKind.wrap .i64 (s.at_ + 1) ≤ _
    rw [wrap64 (by omega) (by omega)]; omega

theorem Next_ok {k : Nat} {s : z245} {n : Int} (h : StrOk k s) (hk : k < 1099511627776) (hn : I64 n) : Ok (z249 s n) (fun r => (1 ≤ n → 0 ≤ r ∧ r < n) ∧ (n < 1 → r = 0)) := by
  obtain ⟨h1, h2, h3, h4⟩ := h
  unfold z249
  refine .cond (fun _ => ?_) (fun hl => ?_)
  · exact (Below_ok (wrap_I64 _) hn).bind fun r hr => .some hr
  · have hl' : s.L.length ≠ 0 := by simpa using hl
    have e1 : IntKind.wrap .i64 (s.at_ + 1) = s.at_ + 1 := wrap64 (by omega) (by omega)
    have e2 : IntKind.wrap .i64 (s.at_ + 1 - 1) = s.at_ := by rw [wrap64 (by omega) (by omega)]; omega
    refine .gd (by simpa using hl') ?_
    rw [e1, e2]
    refine (at_mem (tmod_nonneg h1) (tmod_lt' (by omega))).bind fun y hy => ?_
    refine (Below_ok (h4 y hy) (by unfold I64; omega)).bind fun r1 hr1 => ?_
    exact (Below_ok (wrap_I64 _) hn).bind fun r hr => .some hr

theorem Pick_ok {k : Nat} {s : z245} {l : List Int} (h : StrOk k s) (hk : k < 1099511627776) (hl : 0 < l.length) (hl2 : l.length < 1000) : Ok (z252 s l) (fun r => r ∈ l) := by
  unfold z252
  refine (Next_ok h hk (by unfold I64; omega)).bind fun r hr => ?_
  have := hr.1 (by omega)
  exact (at_mem this.1 this.2).bind fun y hy => .some hy
theorem Flip_ok {k : Nat} {s : z245} {n : Int} (h : StrOk k s) (hk : k < 1099511627776) (hn : I64 n) : Ok (z246 s n) (fun _ => True) := by
  unfold z246
  exact (Next_ok h hk hn).bind fun r hr => .some trivial
theorem Range_ok {k : Nat} {s : z245} {low high : Int} (h : StrOk k s) (hk : k < 1099511627776) (hlow : -4611686018427387903 < low ∧ low < 4611686018427387904) (hh : -4611686018427387904 < high ∧ high < 4611686018427387903) :
    Ok (z258 s low high) (fun r => StrOk (k + 1) r.1 ∧ low ≤ r.2 ∧ (low ≤ high → r.2 ≤ high) ∧ (high < low → r.2 = low)) := by
  unfold z258
  refine .cond (fun hc => ?_) (fun hc => ?_)
  · have hc' : high < low := by simpa using hc
    exact .some ⟨h.mono (by omega), Int.le_refl _, by intro h; omega, fun _ => rfl⟩
  · have hc' : ¬ high < low := by simpa using hc
    have e1 : IntKind.wrap .i64 (high - low) = high - low := wrap64 (by omega) (by omega)
    have e2 : IntKind.wrap .i64 (high - low + 1) = high - low + 1 := wrap64 (by omega) (by omega)
    rw [e1, e2]
    refine (Next_ok h hk (by unfold I64; omega)).bind fun r hr => ?_
    have := hr.1 (by omega)
    refine .some ⟨h.nxt hk, ?_, fun _ => ?_, fun h => by omega⟩
    · show low ≤ IntKind.wrap .i64 (low + r)
      rw [wrap64 (by omega) (by omega)]; omega
    · show IntKind.wrap .i64 (low + r) ≤ high
      rw [wrap64 (by omega) (by omega)]; omega
end Go.Eng

/-
Fences that streams make.
-/
namespace Go.Eng
open Go Geo
open scoped Classical
set_option linter.unusedVariables false
set_option linter.unusedSimpArgs false

theorem Place_ok {k : Nat} {s : z245} (h : StrOk k s) (hk : k + 2 < 1099511627776) : Ok (z255 s) (fun p => (-5 ≤ p.X ∧ p.X ≤ 20) ∧ (-5 ≤ p.Y ∧ p.Y ≤ 20)) := by
  unfold z255
  refine (Pick_ok h (by omega) (by simp) (by simp)).bind fun x hx => (Pick_ok (h.nxt (by omega)) (by omega) (by simp) (by simp)).bind fun y hy => .some ?_
  simp only [List.mem_cons, List.not_mem_nil, or_false] at hx hy
  show (-5 ≤ x ∧ x ≤ 20) ∧ (-5 ≤ y ∧ y ≤ 20)
  omega
theorem corners_some (l : List api_Spot) : ∃ c, z289 l = some c ∧ (c = 0 → FIn l) := by
  obtain ⟨c, c1, c2, -⟩ := corners_both (api_Fence.mk [] l) (by simp)
  exact ⟨c, c1, c2⟩
theorem right_of_zero {l : List api_Spot} (h : z289 l = some 0) : FIn l := by
  obtain ⟨c, c1, c2⟩ := corners_some l
  rw [h] at c1
  exact c2 (Option.some.inj c1).symm
theorem shape0 : z289 [api_Spot.mk 0 0, api_Spot.mk 10 0, api_Spot.mk 10 10, api_Spot.mk 5 3, api_Spot.mk 0 10] = some 0 := by kernel_rfl
theorem shape1 : z289 [api_Spot.mk 0 10, api_Spot.mk 10 10, api_Spot.mk 10 0, api_Spot.mk 0 0] = some 0 := by kernel_rfl
theorem shape2 : z289 [api_Spot.mk 0 0, api_Spot.mk 8 0, api_Spot.mk 8 2, api_Spot.mk 2 2, api_Spot.mk 2 6, api_Spot.mk 8 6, api_Spot.mk 8 8, api_Spot.mk 0 8] = some 0 := by kernel_rfl
theorem shape3 : z289 [api_Spot.mk 0 0, api_Spot.mk 10 0, api_Spot.mk 10 10, api_Spot.mk 0 10] = some 0 := by kernel_rfl

theorem spots_ok {k : Nat} {s : z245} {n : Int} (h : StrOk k s) (hk : k + 100 < 1099511627776) (hn : 0 ≤ n ∧ n ≤ 6) :
    Ok (loopO (z269 n) (s, [], 0)) (fun r => StrOk (k + 12) r.1 ∧ r.2.length ≤ 6) := by
  refine loop_ok (fun q : z245 × List api_Spot × Int => ∃ j : Nat, q.2.2 = (j : Int) ∧ (j : Int) ≤ n ∧ q.2.1.length = j ∧ StrOk (k + 2 * j) q.1) (fun q => (n - q.2.2).toNat) ?_ ⟨0, rfl, by simpa using hn.1, rfl, by simpa using h⟩
  rintro ⟨s, l, i⟩ ⟨j, rfl, j1, j2, j3⟩
  simp only at j2 j3
  unfold z269
  refine .cond (fun hc => ?_) (fun hc => ?_)
  · have hc : (j : Int) < n := by simpa using hc
    refine (Place_ok j3 (by omega)).bind fun p hp => .gd (ble_lim (by simp; omega)) ?_
    have w1 : IntKind.wrap .i64 ((j : Int) + 1) = ((j + 1 : Nat) : Int) := by rw [wrap64 (by omega) (by omega)]; omega
    refine .some ⟨⟨j + 1, w1, by omega, by simp; omega, ((j3.nxt (by omega)).nxt (by omega)).mono (by omega)⟩, ?_⟩
    show (n - IntKind.wrap .i64 ((j : Int) + 1)).toNat < _
    rw [w1]; simp only; omega
  · exact .some ⟨j3.mono (by omega), by show l.length ≤ 6; omega⟩
theorem wide_ok {k : Nat} {s : z245} {l : List api_Spot} (h : StrOk k s) (hk : k + 100 < 1099511627776) (hl : l.length ≤ 6) :
    Ok (loopO (z279 l) (s, l, 0)) (fun r => StrOk (k + 6) r.1 ∧ r.2.length ≤ 6) := by
  refine loop_ok (fun q : z245 × List api_Spot × Int => ∃ j : Nat, q.2.2 = (j : Int) ∧ j ≤ l.length ∧ q.2.1.length = l.length ∧ StrOk (k + j) q.1) (fun q => ((l.length : Int) - q.2.2).toNat) ?_ ⟨0, rfl, by omega, rfl, by simpa using h⟩
  rintro ⟨s, m, i⟩ ⟨j, rfl, j1, j2, j3⟩
  simp only at j2 j3
  unfold z279
  refine .cond (fun hc => ?_) (fun hc => ?_)
  · have hc : (j : Int) < l.length := by simpa using hc
    refine (at_mem (l := m) (n := (j : Int)) (by omega) (by omega)).bind fun y hy => (Pick_ok j3 (by omega) (by simp) (by simp)).bind fun x hx => ?_
    have w1 : IntKind.wrap .i64 ((j : Int) + 1) = ((j + 1 : Nat) : Int) := by rw [wrap64 (by omega) (by omega)]; omega
    refine .some ⟨⟨j + 1, w1, by omega, by simp; omega, (j3.nxt (by omega)).mono (by omega)⟩, ?_⟩
    show ((l.length : Int) - IntKind.wrap .i64 ((j : Int) + 1)).toNat < _
    rw [w1]; simp only; omega
  · exact .some ⟨j3.mono (by omega), by show m.length ≤ 6; omega⟩
theorem RightFence_ok {k : Nat} {s : z245} (h : StrOk k s) (hk : k + 1000 < 1099511627776) :
    Ok (z261 s) (fun r => StrOk (k + 100) r.1 ∧ z289 r.2 = some 0 ∧ r.2.length ≤ 8) := by
  unfold z261
  have key : Ok (loopO z264 (s, 0)) (fun r => match r with | .inl s' => StrOk (k + 90) s' | .inr q => StrOk (k + 90) q.1 ∧ z289 q.2 = some 0 ∧ q.2.length ≤ 6) := by
    refine loop_ok (fun q : z245 × Int => ∃ j : Nat, q.2 = (j : Int) ∧ j ≤ 4 ∧ StrOk (k + 20 * j) q.1) (fun q => ((4 : Int) - q.2).toNat) ?_ ⟨0, rfl, by omega, by simpa using h⟩
    rintro ⟨s, i⟩ ⟨j, rfl, j1, j3⟩
    simp only at j3
    unfold z264
    refine .cond (fun hc => ?_) (fun hc => ?_)
    · have hc : (j : Int) < 4 := by simpa using hc
      refine (Range_ok j3 (by omega) (by omega) (by omega)).bind fun ⟨s1, n⟩ ⟨r1, r2, r3, _⟩ => ?_
      simp only at r1 r2 r3
      refine (spots_ok r1 (by omega) ⟨by omega, r3 (by omega)⟩).bind fun ⟨s2, l2⟩ ⟨q1, q2⟩ => ?_
      simp only at q1 q2
      have hx3 : Ok (z274 s2 l2) (fun r => StrOk (k + 20 * j + 20) r.1 ∧ r.2.length ≤ 6) := by
        unfold z274
        refine (Flip_ok q1 (by omega) (by unfold I64; omega)).bind fun b _ => .cond (fun _ => ?_) (fun _ => ?_)
        · refine (wide_ok (q1.nxt (by omega)) (by omega) q2).bind fun ⟨s3, l3⟩ ⟨p1, p2⟩ => .some ⟨p1.mono (by omega), p2⟩
        · exact .some ⟨(q1.nxt (by omega)).mono (by omega), q2⟩
      refine hx3.bind fun ⟨s4, l4⟩ ⟨p1, p2⟩ => ?_
      simp only at p1 p2
      obtain ⟨c, c1, c2⟩ := corners_some l4
      simp only [c1, Option.bind_some]
      refine .cond (fun hc0 => ?_) (fun _ => ?_)
      · have hc0 : c = 0 := by simpa using hc0
        exact .some ⟨p1.mono (by omega), by rw [c1, hc0], p2⟩
      · have w1 : IntKind.wrap .i64 ((j : Int) + 1) = ((j + 1 : Nat) : Int) := by rw [wrap64 (by omega) (by omega)]; omega
        refine .some ⟨⟨j + 1, w1, by omega, p1.mono (by omega)⟩, ?_⟩
        show ((4 : Int) - IntKind.wrap .i64 ((j : Int) + 1)).toNat < _
        rw [w1]; omega
    · exact .some (j3.mono (by omega))
  refine key.bind fun r hr => ?_
  cases r with
  | inr q =>
    obtain ⟨s', l'⟩ := q
    exact .some ⟨hr.1.mono (by omega), hr.2.1, by have := hr.2.2; simp only at this ⊢; omega⟩
  | inl s' =>
    have hr : StrOk (k + 90) s' := hr
    have hx5 : Ok (z284 s') (fun l => z289 l = some 0 ∧ l.length ≤ 8) := by
      unfold z284
      refine (Next_ok hr (by omega) (by unfold I64; omega)).bind fun n _ => .cond (fun _ => .some ⟨shape0, by simp⟩) (fun _ => .cond (fun _ => .some ⟨shape1, by simp⟩) (fun _ => .cond (fun _ => .some ⟨shape2, by simp⟩) (fun _ => .some ⟨shape3, by simp⟩)))
    refine hx5.bind fun l hl => .some ⟨(hr.nxt (by omega)).mono (by omega), hl.1, hl.2⟩
end Go.Eng

/-
What the laws ask of each package once.
-/
namespace Go.Eng
open Go
theorem ready_eq : z227 = some true := by kernel_rfl
end Go.Eng

/-
Two fences meet just if each does the other; with a spot in both they do.
-/
namespace Go.Eng
open Go Geo
open scoped Classical
set_option linter.unusedVariables false
set_option linter.unusedSimpArgs false

theorem touch_inner {m : List api_Spot} (hl : m.length ≤ 200) (hb : ∀ s ∈ m, InB s) {a b : api_Spot} (ha : InB a) (hb' : InB b) :
    z550 a b m = some ((ring m).any fun f => meB (a, b) f) := by
  have hlen := ring_len m
  unfold z550 z474
  rw [range_loop (l := ring m) (fun _ f => cond (meB (a, b) f) (some (.inr ())) none) (.inl ()) (by omega), scan_any]
  · cases (ring m).any fun f => meB (a, b) f <;> rfl
  · intro i hi
    have hi' : i < m.length := by omega
    obtain ⟨a1, a2, a3⟩ := edge_at (l := m) (by omega) hi'
    have hx := inb_ring hb (List.getElem_mem hi)
    generalize (ring m)[i] = x at a1 a2 hx
    unfold z477 z551
    have h : (i : Int) < m.length := by omega
    simp only [h, decide_true, cond_true, a1, a2, gd_true a3, Option.bind_some, meets_eq ha hb' hx.1 hx.2]
    rw [show meB (a, b) x = meB (a, b) (x.1, x.2) from rfl]
    cases meB (a, b) (x.1, x.2) <;> rfl
  · rw [hlen]
    unfold z477
    simp
theorem touch_edges {l m : List api_Spot} (hl : l.length ≤ 200) (hb : ∀ s ∈ l, InB s) (hm : m.length ≤ 200) (hbm : ∀ s ∈ m, InB s) :
    z473 l m = some ((ring l).any fun e => (ring m).any fun f => meB e f) := by
  have hlen := ring_len l
  unfold z473
  rw [range_loop (l := ring l) (fun _ e => cond ((ring m).any fun f => meB e f) (some (.inr ())) none) (.inl ()) (by omega), scan_any]
  · cases (ring l).any fun e => (ring m).any fun f => meB e f <;> rfl
  · intro i hi
    have hi' : i < l.length := by omega
    obtain ⟨a1, a2, a3⟩ := edge_at (l := l) (by omega) hi'
    have hx := inb_ring hb (List.getElem_mem hi)
    generalize (ring l)[i] = x at a1 a2 hx
    unfold z484
    have h : (i : Int) < l.length := by omega
    simp only [h, decide_true, cond_true, a1, a2, gd_true a3, Option.bind_some, touch_inner hm hbm hx.1 hx.2]
    rw [show ((ring m).any fun f => meB x f) = ((ring m).any fun f => meB (x.1, x.2) f) from rfl]
    cases (ring m).any fun f => meB (x.1, x.2) f <;> rfl
  · rw [hlen]
    unfold z484
    simp
/-- have two fences a spot in common -/
noncomputable def touB (l m : List api_Spot) : Bool :=
  !decide (wher l (m.headD ⟨0, 0⟩) = 0) || !decide (wher m (l.headD ⟨0, 0⟩) = 0) || (ring l).any fun e => (ring m).any fun f => meB e f
theorem head_at {l : List api_Spot} (h : 3 ≤ l.length) : at? l 0 = some (l.headD ⟨0, 0⟩) ∧ l.headD ⟨0, 0⟩ ∈ l := by
  cases l with
  | nil => simp at h
  | cons a l => exact ⟨rfl, by simp⟩
theorem touch_eq {l m : List api_Spot} (hl : FRight l) (hm : FRight m) : z549 l m = some (touB l m) := by
  obtain ⟨l3, l200, lb, lS⟩ := hl
  obtain ⟨m3, m200, mb, mS⟩ := hm
  have hl0 := head_at l3
  have hm0 := head_at m3
  unfold z549 z558 touB
  simp only [hl0.1, hm0.1, Option.bind_some, where_eq l200 lb (mb _ hm0.2), where_eq m200 mb (lb _ hl0.2), touch_edges l200 lb m200 mb]
  cases decide (wher l (m.headD ⟨0, 0⟩) = 0) <;> cases decide (wher m (l.headD ⟨0, 0⟩) = 0) <;> simp
theorem check_right {l : List api_Spot} (hz : z289 l = some 0) : z396 (api_Fence.mk [102] l) = some 0 := by
  obtain ⟨c, c1, c2, c3⟩ := corners_both (api_Fence.mk [102] l) (by simp)
  have c1 : z289 l = some c := c1
  rw [hz] at c1
  have hc : c = 0 := (Option.some.inj c1).symm
  have hkey : keyB [102] = true := by decide
  rw [c3, hc]
  show some (cond (keyB [102]) 0 5) = _
  rw [hkey]; rfl
theorem wher_ne {l : List api_Spot} {p : api_Spot} (h : wher l p ≠ 0) : (∃ e ∈ ring (l.map pt), onE e (pt p)) ∨ inn (l.map pt) (pt p) = true := by
  unfold wher at h
  by_cases h1 : ∃ e ∈ ring l, onB e p = true
  · left
    obtain ⟨e, he, h1⟩ := h1
    exact ⟨pte e, by rw [ring_pt]; exact List.mem_map_of_mem he, onB_iff.1 h1⟩
  · rw [if_neg h1] at h
    right
    by_cases h2 : inn (l.map pt) (pt p) = true
    · exact h2
    · rw [if_neg h2] at h; exact absurd rfl h
end Go.Eng

/-
Plane geometry in whole numbers: what two fences have in common; boxes.
-/
namespace Go.Eng.Geo
/-- a spot of a fence -/
def InR (l : List Pt) (p : Pt) : Prop := (∃ e ∈ ring l, onE e p) ∨ inn l p = true
theorem btw {k u v a b : Int} (hu : 0 ≤ u) (hv : 0 ≤ v) (hk : u + v = k) : min (k * a) (k * b) ≤ u * a + v * b ∧ u * a + v * b ≤ max (k * a) (k * b) := by
  have e1 : u * a + v * b - k * a = v * (b - a) := by subst hk; grind
  have e2 : u * a + v * b - k * b = u * (a - b) := by subst hk; grind
  by_cases h : a ≤ b
  · have h1 := PP hv (show 0 ≤ b - a by omega)
    have h2 := PN hu (show a - b ≤ 0 by omega)
    omega
  · have h1 := PN hv (show b - a ≤ 0 by omega)
    have h2 := PP hu (show 0 ≤ a - b by omega)
    omega
/-- ways that cross have a spot in common -/
theorem cross_pt {a b c d : Pt} (h1 : 0 < sd a.1 a.2 b.1 b.2 c.1 c.2) (h2 : sd a.1 a.2 b.1 b.2 d.1 d.2 < 0) (h3 : sd c.1 c.2 d.1 d.2 a.1 a.2 < 0) (h4 : 0 < sd c.1 c.2 d.1 d.2 b.1 b.2) :
    ∃ k : Int, 0 < k ∧ ∃ r, onE (sc k a, sc k b) r ∧ onE (sc k c, sc k d) r := by
  obtain ⟨a1, a2⟩ := a; obtain ⟨b1, b2⟩ := b; obtain ⟨c1, c2⟩ := c; obtain ⟨d1, d2⟩ := d
  simp only at h1 h2 h3 h4
  have hs : sd a1 a2 b1 b2 c1 c2 - sd a1 a2 b1 b2 d1 d2 = sd c1 c2 d1 d2 b1 b2 - sd c1 c2 d1 d2 a1 a2 := by unfold sd; grind
  have hx : sd c1 c2 d1 d2 b1 b2 * a1 + (- sd c1 c2 d1 d2 a1 a2) * b1 = (- sd a1 a2 b1 b2 d1 d2) * c1 + sd a1 a2 b1 b2 c1 c2 * d1 := by unfold sd; grind
  have hy : sd c1 c2 d1 d2 b1 b2 * a2 + (- sd c1 c2 d1 d2 a1 a2) * b2 = (- sd a1 a2 b1 b2 d1 d2) * c2 + sd a1 a2 b1 b2 c1 c2 * d2 := by unfold sd; grind
  have h01 : sd ((sd a1 a2 b1 b2 c1 c2 - sd a1 a2 b1 b2 d1 d2) * a1) ((sd a1 a2 b1 b2 c1 c2 - sd a1 a2 b1 b2 d1 d2) * a2) ((sd a1 a2 b1 b2 c1 c2 - sd a1 a2 b1 b2 d1 d2) * b1) ((sd a1 a2 b1 b2 c1 c2 - sd a1 a2 b1 b2 d1 d2) * b2)
      ((- sd a1 a2 b1 b2 d1 d2) * c1 + sd a1 a2 b1 b2 c1 c2 * d1) ((- sd a1 a2 b1 b2 d1 d2) * c2 + sd a1 a2 b1 b2 c1 c2 * d2) = 0 := by unfold sd; grind
  have h02 : sd ((sd a1 a2 b1 b2 c1 c2 - sd a1 a2 b1 b2 d1 d2) * c1) ((sd a1 a2 b1 b2 c1 c2 - sd a1 a2 b1 b2 d1 d2) * c2) ((sd a1 a2 b1 b2 c1 c2 - sd a1 a2 b1 b2 d1 d2) * d1) ((sd a1 a2 b1 b2 c1 c2 - sd a1 a2 b1 b2 d1 d2) * d2)
      ((- sd a1 a2 b1 b2 d1 d2) * c1 + sd a1 a2 b1 b2 c1 c2 * d1) ((- sd a1 a2 b1 b2 d1 d2) * c2 + sd a1 a2 b1 b2 c1 c2 * d2) = 0 := by unfold sd; grind
  generalize sd a1 a2 b1 b2 c1 c2 = s1 at *
  generalize sd a1 a2 b1 b2 d1 d2 = s2 at *
  generalize sd c1 c2 d1 d2 a1 a2 = t1 at *
  generalize sd c1 c2 d1 d2 b1 b2 = t2 at *
  refine ⟨s1 - s2, by omega, ((-s2) * c1 + s1 * d1, (-s2) * c2 + s1 * d2), ?_, ?_⟩
  · have q1 := btw (k := s1 - s2) (u := t2) (v := -t1) (a := a1) (b := b1) (by omega) (by omega) (by omega)
    have q2 := btw (k := s1 - s2) (u := t2) (v := -t1) (a := a2) (b := b2) (by omega) (by omega) (by omega)
    rw [hx] at q1
    rw [hy] at q2
    exact ⟨h01, q1.1, q1.2, q2.1, q2.2⟩
  · have q1 := btw (k := s1 - s2) (u := -s2) (v := s1) (a := c1) (b := d1) (by omega) (by omega) (by omega)
    have q2 := btw (k := s1 - s2) (u := -s2) (v := s1) (a := c2) (b := d2) (by omega) (by omega) (by omega)
    exact ⟨h02, q1.1, q1.2, q2.1, q2.2⟩
theorem sc_one (p : Pt) : sc 1 p = p := by unfold sc; simp
theorem sgn_cases {x y : Int} (h : x * y < 0) : (0 < x ∧ y < 0) ∨ (x < 0 ∧ 0 < y) := by
  by_cases h1 : 0 < x
  · by_cases h2 : y < 0
    · exact .inl ⟨h1, h2⟩
    · have := PP (show 0 ≤ x by omega) (show 0 ≤ y by omega); omega
  · by_cases h2 : 0 < y
    · by_cases h3 : x < 0
      · exact .inr ⟨h3, h2⟩
      · have : x = 0 := by omega
        subst this; simp at h
    · have := NN (show x ≤ 0 by omega) (show y ≤ 0 by omega); omega
theorem meet_pt {e f : Pt × Pt} (h : meetE e f) : ∃ k : Int, 0 < k ∧ ∃ r, onE (sc k e.1, sc k e.2) r ∧ onE (sc k f.1, sc k f.2) r := by
  obtain ⟨a, b⟩ := e
  obtain ⟨c, d⟩ := f
  rcases h with h | h | h | h | ⟨h1, h2⟩
  · exact ⟨1, by omega, c, by simp only [sc_one]; exact h, by simp only [sc_one]; exact onb_refl_l ..⟩
  · exact ⟨1, by omega, d, by simp only [sc_one]; exact h, by simp only [sc_one]; exact onb_refl_r ..⟩
  · exact ⟨1, by omega, a, by simp only [sc_one]; exact onb_refl_l .., by simp only [sc_one]; exact h⟩
  · exact ⟨1, by omega, b, by simp only [sc_one]; exact onb_refl_r .., by simp only [sc_one]; exact h⟩
  · have hs : sd a.1 a.2 b.1 b.2 c.1 c.2 - sd a.1 a.2 b.1 b.2 d.1 d.2 = sd c.1 c.2 d.1 d.2 b.1 b.2 - sd c.1 c.2 d.1 d.2 a.1 a.2 := by unfold sd; grind
    simp only at h1 h2
    rcases sgn_cases h1 with ⟨p1, p2⟩ | ⟨p1, p2⟩ <;> rcases sgn_cases h2 with ⟨p3, p4⟩ | ⟨p3, p4⟩
    · omega
    · exact cross_pt p1 p2 p3 p4
    · obtain ⟨k, k0, r, r1, r2⟩ := cross_pt (a := b) (b := a) (c := c) (d := d) (by rw [sd_swap]; omega) (by rw [sd_swap]; omega) (by omega) (by omega)
      exact ⟨k, k0, r, onb_swap r1, r2⟩
    · omega
theorem ring_sc (k : Int) (l : List Pt) : ring (l.map (sc k)) = (ring l).map fun e => (sc k e.1, sc k e.2) := ring_map (sc k) l
theorem onE_sc {k : Int} {e : Pt × Pt} {p : Pt} (hk : 0 ≤ k) (h : onE e p) : onE (sc k e.1, sc k e.2) (sc k p) := by
  obtain ⟨h1, h2, h3, h4, h5⟩ := h
  refine ⟨?_, ?_, ?_, ?_, ?_⟩
  · simp only [sc, sd_sc, h1, Int.mul_zero]
  all_goals simp only [sc]
  · have : e.1.1 ≤ p.1 ∨ e.2.1 ≤ p.1 := by omega
    rcases this with h | h <;> have := Int.mul_le_mul_of_nonneg_left h hk <;> omega
  · have : p.1 ≤ e.1.1 ∨ p.1 ≤ e.2.1 := by omega
    rcases this with h | h <;> have := Int.mul_le_mul_of_nonneg_left h hk <;> omega
  · have : e.1.2 ≤ p.2 ∨ e.2.2 ≤ p.2 := by omega
    rcases this with h | h <;> have := Int.mul_le_mul_of_nonneg_left h hk <;> omega
  · have : p.2 ≤ e.1.2 ∨ p.2 ≤ e.2.2 := by omega
    rcases this with h | h <;> have := Int.mul_le_mul_of_nonneg_left h hk <;> omega
theorem inR_sc {k : Int} (hk : 0 < k) {l : List Pt} {p : Pt} (h : InR l p) : InR (l.map (sc k)) (sc k p) := by
  rcases h with ⟨e, he, ho⟩ | h
  · refine .inl ⟨(sc k e.1, sc k e.2), ?_, onE_sc (by omega) ho⟩
    rw [ring_sc]; exact List.mem_map_of_mem he
  · exact .inr (by rw [inn_sc hk]; exact h)
theorem head_inR (a : Pt) (l : List Pt) : InR (a :: l) a := by
  cases l with
  | nil => exact .inl ⟨(a, a), by simp [ring, path], onb_refl_l ..⟩
  | cons b l => exact .inl ⟨(a, b), by simp [ring, path], onb_refl_l ..⟩
/-- two fences meet -/
def touP (a : Pt) (l : List Pt) (b : Pt) (m : List Pt) : Prop := InR (a :: l) b ∨ InR (b :: m) a ∨ ∃ e ∈ ring (a :: l), ∃ f ∈ ring (b :: m), meetE e f
/-- they meet just if there is a spot, perhaps a broken one, in both -/
theorem tou_pt {a b : Pt} {l m : List Pt} (h : touP a l b m) : ∃ k : Int, 0 < k ∧ ∃ r, InR ((a :: l).map (sc k)) r ∧ InR ((b :: m).map (sc k)) r := by
  rcases h with h | h | ⟨e, he, f, hf, h⟩
  · exact ⟨1, by omega, sc 1 b, inR_sc (by omega) h, inR_sc (by omega) (head_inR b m)⟩
  · exact ⟨1, by omega, sc 1 a, inR_sc (by omega) (head_inR a l), inR_sc (by omega) h⟩
  · obtain ⟨k, k0, r, r1, r2⟩ := meet_pt h
    refine ⟨k, k0, r, .inl ⟨_, ?_, r1⟩, .inl ⟨_, ?_, r2⟩⟩
    · rw [ring_sc]; exact List.mem_map_of_mem he
    · rw [ring_sc]; exact List.mem_map_of_mem hf
theorem pt_tou {a b : Pt} {l m : List Pt} {k : Int} (hk : 0 < k) {r : Pt} (h1 : InR ((a :: l).map (sc k)) r) (h2 : InR ((b :: m).map (sc k)) r) : touP a l b m := by
  by_cases hb : inn (a :: l) b = true
  · exact .inl (.inr hb)
  by_cases ha : inn (b :: m) a = true
  · exact .inr (.inl (.inr ha))
  by_cases hm : ∃ e ∈ ring (a :: l), ∃ f ∈ ring (b :: m), meetE e f
  · exact .inr (.inr hm)
  exfalso
  rw [Bool.not_eq_true] at ha hb
  refine meet_both (sc k a) (sc k b) (l.map (sc k)) (m.map (sc k)) r ?_ ?_ ?_ h1 h2
  · intro e he f hf hh
    have he : e ∈ ring ((a :: l).map (sc k)) := he
    have hf : f ∈ ring ((b :: m).map (sc k)) := hf
    rw [ring_sc] at he hf
    obtain ⟨e', he', rfl⟩ := List.mem_map.1 he
    obtain ⟨f', hf', rfl⟩ := List.mem_map.1 hf
    exact hm ⟨e', he', f', hf', meets_sc hk hh⟩
  · exact (inn_sc hk (b :: m) a).trans ha
  · exact (inn_sc hk (a :: l) b).trans hb

/-! ### Boxes -/
def bx (x y h : Int) : List Pt := [(x, y), (x + h, y), (x + h, y + h), (x, y + h)]
theorem bx_sc (k x y h : Int) : (bx x y h).map (sc k) = bx (k * x) (k * y) (k * h) := by
  unfold bx sc; simp [Int.mul_add]
theorem ring_bx (x y h : Int) : ring (bx x y h) = [((x, y), (x + h, y)), ((x + h, y), (x + h, y + h)), ((x + h, y + h), (x, y + h)), ((x, y + h), (x, y))] := rfl
theorem inn_bx {x y h : Int} (hh : 0 < h) (p : Pt) : inn (bx x y h) p = decide (x ≤ p.1 ∧ p.1 < x + h ∧ y ≤ p.2 ∧ p.2 < y + h) := by
  obtain ⟨p1, p2⟩ := p
  unfold inn
  rw [ring_bx]
  have h1 : hitE (p1, p2) ((x, y), (x + h, y)) = false := by
    unfold hitE hitU lo hi; simp; omega
  have h3 : hitE (p1, p2) ((x + h, y + h), (x, y + h)) = false := by
    unfold hitE hitU lo hi; simp; omega
  have h2 : hitE (p1, p2) ((x + h, y), (x + h, y + h)) = decide (p1 < x + h ∧ y ≤ p2 ∧ p2 < y + h) := by
    unfold hitE hitU lo hi
    simp only [show y ≤ y + h by omega, if_true]
    apply decide_eq_decide.2
    have e : sd (x + h) y (x + h) (y + h) p1 p2 = h * (x + h - p1) := by unfold sd; grind
    rw [e]
    exact ⟨fun ⟨q1, q2, q3⟩ => ⟨by have := cpos hh q3; omega, q1, q2⟩, fun ⟨q1, q2, q3⟩ => ⟨q2, q3, pp hh (by omega)⟩⟩
  have h4 : hitE (p1, p2) ((x, y + h), (x, y)) = decide (p1 < x ∧ y ≤ p2 ∧ p2 < y + h) := by
    unfold hitE hitU lo hi
    simp only [show ¬ y + h ≤ y by omega, if_false]
    apply decide_eq_decide.2
    have e : sd x y x (y + h) p1 p2 = h * (x - p1) := by unfold sd; grind
    rw [e]
    exact ⟨fun ⟨q1, q2, q3⟩ => ⟨by have := cpos hh q3; omega, q1, q2⟩, fun ⟨q1, q2, q3⟩ => ⟨q2, q3, pp hh (by omega)⟩⟩
  simp only [par, h1, h2, h3, h4]
  rw [Bool.eq_iff_iff]
  by_cases c1 : p1 < x + h <;> by_cases c2 : p1 < x <;> by_cases c3 : y ≤ p2 <;> by_cases c4 : p2 < y + h <;> simp [c1, c2, c3, c4] <;> omega
/-- a spot of a box -/
theorem inR_bx {x y h : Int} (hh : 0 < h) {p : Pt} : InR (bx x y h) p ↔ (x ≤ p.1 ∧ p.1 ≤ x + h ∧ y ≤ p.2 ∧ p.2 ≤ y + h) := by
  obtain ⟨p1, p2⟩ := p
  constructor
  · rintro (⟨e, he, ho⟩ | hi)
    · rw [ring_bx] at he
      obtain ⟨_, o1, o2, o3, o4⟩ := ho
      simp only [List.mem_cons, List.not_mem_nil, or_false] at he
      rcases he with rfl | rfl | rfl | rfl <;> simp only at o1 o2 o3 o4 ⊢ <;> omega
    · rw [inn_bx hh] at hi
      have := of_decide_eq_true hi
      simp only at this ⊢; omega
  · intro ⟨q1, q2, q3, q4⟩
    simp only at q1 q2 q3 q4
    by_cases c1 : p1 = x + h
    · refine .inl ⟨((x + h, y), (x + h, y + h)), by rw [ring_bx]; simp, ?_⟩
      refine ⟨?_, by simp only; omega, by simp only; omega, by simp only; omega, by simp only; omega⟩
      simp only; subst c1; unfold sd; grind
    · by_cases c2 : p2 = y + h
      · refine .inl ⟨((x + h, y + h), (x, y + h)), by rw [ring_bx]; simp, ?_⟩
        refine ⟨?_, by simp only; omega, by simp only; omega, by simp only; omega, by simp only; omega⟩
        simp only; subst c2; unfold sd; grind
      · refine .inr ?_
        rw [inn_bx hh]
        apply decide_eq_true
        simp only; omega
end Go.Eng.Geo

/-
Fences and boxes that meet.
-/
namespace Go.Eng
open Go Geo
open scoped Classical
set_option linter.unusedVariables false
set_option linter.unusedSimpArgs false

theorem wher_inR {l : List api_Spot} {p : api_Spot} : wher l p ≠ 0 ↔ InR (l.map pt) (pt p) := by
  constructor
  · exact wher_ne
  · intro h
    unfold wher
    by_cases h1 : ∃ e ∈ ring l, onB e p = true
    · rw [if_pos h1]; omega
    · rw [if_neg h1]
      rcases h with ⟨e, he, ho⟩ | h
      · exfalso
        rw [ring_pt] at he
        obtain ⟨e', he', rfl⟩ := List.mem_map.1 he
        exact h1 ⟨e', he', onB_iff.2 ho⟩
      · rw [if_pos h]; omega
def Meets (L M : List Pt) : Prop := ∃ k : Int, 0 < k ∧ ∃ r, InR (L.map (sc k)) r ∧ InR (M.map (sc k)) r
theorem touB_iff {l m : List api_Spot} (hl : 3 ≤ l.length) (hm : 3 ≤ m.length) : touB l m = true ↔ Meets (l.map pt) (m.map pt) := by
  cases l with
  | nil => simp at hl
  | cons a l => cases m with
    | nil => simp at hm
    | cons b m =>
      have key : touB (a :: l) (b :: m) = true ↔ touP (pt a) (l.map pt) (pt b) (m.map pt) := by
        unfold touB touP
        have d1 : ∀ (u : List api_Spot) (q : api_Spot), (!decide (wher u q = 0)) = true ↔ InR (u.map pt) (pt q) := fun u q => by
          rw [Bool.not_eq_true', decide_eq_false_iff_not, ← ne_eq, wher_inR]
        show (!decide (wher (a :: l) b = 0) || !decide (wher (b :: m) a = 0) || (ring (a :: l)).any fun e => (ring (b :: m)).any fun f => meB e f) = true ↔ _
        rw [Bool.or_eq_true, Bool.or_eq_true, d1, d1, or_assoc]
        refine or_congr Iff.rfl (or_congr Iff.rfl ?_)
        rw [List.any_eq_true]
        constructor
        · rintro ⟨e, he, h⟩
          obtain ⟨f, hf, h⟩ := List.any_eq_true.1 h
          refine ⟨pte e, ?_, pte f, ?_, meB_iff.1 h⟩
          · rw [← List.map_cons, ring_pt]; exact List.mem_map_of_mem he
          · rw [← List.map_cons, ring_pt]; exact List.mem_map_of_mem hf
        · rintro ⟨e, he, f, hf, h⟩
          rw [← List.map_cons, ring_pt] at he hf
          obtain ⟨e', he', rfl⟩ := List.mem_map.1 he
          obtain ⟨f', hf', rfl⟩ := List.mem_map.1 hf
          exact ⟨e', he', List.any_eq_true.2 ⟨f', hf', meB_iff.2 h⟩⟩
      rw [key]
      constructor
      · exact tou_pt
      · rintro ⟨k, k0, r, r1, r2⟩
        exact pt_tou k0 r1 r2
/-! ### The box of a cell -/
def boxA (x y h : Int) : List api_Spot := [⟨x, y⟩, ⟨x + h, y⟩, ⟨x + h, y + h⟩, ⟨x, y + h⟩]
theorem boxA_pt (x y h : Int) : (boxA x y h).map pt = bx x y h := rfl
/-- ways that meet overlap -/
theorem meet_over {e f : Pt × Pt} (h : meetE e f) : min e.1.1 e.2.1 ≤ max f.1.1 f.2.1 ∧ min f.1.1 f.2.1 ≤ max e.1.1 e.2.1 ∧ min e.1.2 e.2.2 ≤ max f.1.2 f.2.2 ∧ min f.1.2 f.2.2 ≤ max e.1.2 e.2.2 := by
  obtain ⟨k, k0, r, ⟨_, a1, a2, a3, a4⟩, ⟨_, b1, b2, b3, b4⟩⟩ := meet_pt h
  have key : ∀ {a b c d x : Int}, min (k * a) (k * b) ≤ x → x ≤ max (k * c) (k * d) → min a b ≤ max c d := by
    intro a b c d x h1 h2
    have h : k * a ≤ k * c ∨ k * a ≤ k * d ∨ k * b ≤ k * c ∨ k * b ≤ k * d := by omega
    rcases h with h | h | h | h <;> have := cle k0 h <;> omega
  exact ⟨key a1 b2, key b1 a2, key a3 b4, key b3 a4⟩
theorem box_simple {x y h : Int} (hh : 0 < h) : Simple (bx x y h) where
  nd := by
    unfold bx
    simp only [List.nodup_cons, List.mem_cons, List.not_mem_nil, or_false, Prod.mk.injEq, not_or]
    refine ⟨⟨?_, ?_, ?_⟩, ⟨?_, ?_⟩, ?_, ?_⟩ <;> first | (simp; done) | omega | skip
    all_goals simp
  sep := by
    intro e he f hf h1 h2 h3 hm
    have ho := meet_over hm
    rw [ring_bx] at he hf
    simp only [List.mem_cons, List.not_mem_nil, or_false] at he hf
    rcases he with rfl | rfl | rfl | rfl <;> rcases hf with rfl | rfl | rfl | rfl <;> first | exact h1 rfl | exact h2 rfl | exact h3 rfl | (simp only at ho; omega)
  adj := by
    intro e he f hf h1 h2
    rw [ring_bx] at he hf
    simp only [List.mem_cons, List.not_mem_nil, or_false] at he hf
    rcases he with rfl | rfl | rfl | rfl <;> rcases hf with rfl | rfl | rfl | rfl <;> first | exact absurd rfl h1 | (simp only [Prod.mk.injEq] at h2; omega) | skip
    all_goals
      refine ⟨fun ho => ?_, fun ho => ?_⟩ <;>
      · obtain ⟨_, o1, o2, o3, o4⟩ := ho
        simp only at o1 o2 o3 o4
        omega
theorem box_right {x y h : Int} (hh : 0 < h) (hx : -20000 ≤ x ∧ x + h ≤ 20000) (hy : -20000 ≤ y ∧ y + h ≤ 20000) : FRight (boxA x y h) := by
  refine ⟨by simp [boxA], by simp [boxA], ?_, box_simple hh⟩
  intro s hs
  simp only [boxA, List.mem_cons, List.not_mem_nil, or_false] at hs
  unfold InB
  rcases hs with rfl | rfl | rfl | rfl <;> simp only <;> omega
/-! ### A spot of a fence lies between its corners -/
end Go.Eng

/-
Loops that only gather.
-/
namespace Go.Eng
open Go
set_option linter.unusedVariables false
set_option linter.unusedSimpArgs false

/-- A loop over all elements of a list that only gathers. -/
theorem fold_loop0 {τ σ ρ α : Type} {l : List α} {f : τ → Option (τ ⊕ ρ)} (e : σ → Int → τ) (h : σ → α → σ) (fin : σ → ρ) (I : Nat → σ → Prop) {s0 : σ} (hl : (l.length : Int) ≤ 9223372036854775807)
    (hf : ∀ (i : Nat) (hi : i < l.length) (s : σ), I i s → f (e s i) = some (.inl (e (h s l[i]) (IntKind.wrap .i64 (i + 1)))) ∧ I (i + 1) (h s l[i])) (hd : ∀ s, I l.length s → f (e s l.length) = some (.inr (fin s))) (h0 : I 0 s0) :
    loopO f (e s0 0) = some (fin (l.foldl h s0)) ∧ I l.length (l.foldl h s0) := by
  have key : ∀ (n i : Nat) (s : σ), l.length - i = n → i ≤ l.length → I i s → loopO f (e s i) = some (fin ((l.drop i).foldl h s)) ∧ I l.length ((l.drop i).foldl h s) := by
    intro n
    induction n with
    | zero =>
      intro i s h1 h2 h3
      have : i = l.length := by omega
      subst this
      rw [List.drop_length]
      refine ⟨?_, h3⟩
      rw [loopO_eq, hd s h3]
      rfl
    | succ n ih =>
      intro i s h1 h2 h3
      have hi : i < l.length := by omega
      obtain ⟨g1, g2⟩ := hf i hi s h3
      obtain ⟨f1, f2⟩ := ih (i + 1) (h s l[i]) (by omega) (by omega) g2
      rw [List.drop_eq_getElem_cons hi, List.foldl_cons]
      refine ⟨?_, f2⟩
      rw [loopO_eq, g1]
      simp only [Option.bind_some]
      rw [wrap64 (by omega) (by omega)]
      exact f1
  have := key l.length 0 s0 (by omega) (by omega) h0
  simpa using this
theorem scan_find0 {α : Type} {p : α → Bool} : ∀ {l : List α} {k : Nat}, ∃ r : Int, (match (scan (fun i x => cond (p x) (some (Sum.inr (i : Int) : Unit ⊕ Int)) none) k l).getD (.inl ()) with | .inl _ => (-1 : Int) | .inr v => v) = r ∧ decide (0 ≤ r) = l.any p
  | [], k => ⟨-1, rfl, rfl⟩
  | x :: l, k => by
    simp only [scan, List.any_cons]
    cases p x with
    | true => exact ⟨k, rfl, by simp⟩
    | false => simp only [cond_false, Bool.false_or]; exact scan_find0 (l := l) (k := k + 1)
/-- A search for the first element that meets a test: is there one? -/
theorem find_loop {α : Type} {l : List α} {f : Int → Option (Int ⊕ (Unit ⊕ Int))} (p : α → Bool) (hl : (l.length : Int) ≤ 9223372036854775807)
    (hf : ∀ (i : Nat) (h : i < l.length), f i = some (cond (p l[i]) (.inr (.inr (i : Int))) (.inl (IntKind.wrap .i64 ((i : Int) + 1))))) (hd : f l.length = some (.inr (.inl ()))) :
    ∃ x, loopO f 0 = some x ∧ decide (0 ≤ (match x with | .inl _ => (-1 : Int) | .inr v => v)) = l.any p := by
  refine ⟨_, range_loop (l := l) (fun i x => cond (p x) (some (.inr (i : Int))) none) (.inl ()) hl (fun i h => ?_) hd, ?_⟩
  · rw [hf i h]
    cases p l[i] <;> rfl
  · obtain ⟨r, h1, h2⟩ := scan_find0 (p := p) (l := l) (k := 0)
    rw [h1]; exact h2
end Go.Eng

/-
The cells of a fence: what the code finds is the row of all cells that meet it, cut off behind 1001.
-/
namespace Go.Eng
open Go Geo
set_option linter.unusedVariables false
set_option linter.unusedSimpArgs false

/-! ### The box of a cell -/
abbrev Bx := Int × Int × Int
def cstep (b : Bx) (k : UInt8) : Bx := (b.1 + ((k.toNat : Int) - 48) % 2 * (b.2.2 / 2), b.2.1 + ((k.toNat : Int) - 48) / 2 * (b.2.2 / 2), b.2.2 / 2)
def cbox (ks : List UInt8) : Bx := ks.foldl cstep (-16384, -16384, 32768)
def Dig (ks : List UInt8) : Prop := ∀ k ∈ ks, 48 ≤ k.toNat ∧ k.toNat ≤ 51
def CB (i : Nat) (b : Bx) : Prop := i ≤ 15 → b.2.2 = 2 ^ (15 - i) ∧ (-16384 ≤ b.1 ∧ b.1 + b.2.2 ≤ 16384) ∧ (-16384 ≤ b.2.1 ∧ b.2.1 + b.2.2 ≤ 16384)
theorem pow_half {i : Nat} (h : i + 1 ≤ 15) : (2 : Int) ^ (15 - i) = 2 * 2 ^ (15 - (i + 1)) := by
  rw [show 15 - i = (15 - (i + 1)) + 1 by omega, Int.pow_succ]; omega
theorem pow_pos2 (n : Nat) : (0 : Int) < 2 ^ n := Int.pow_pos (by omega)
theorem cb_step {i : Nat} {b : Bx} {k : UInt8} (h : CB i b) (hk : 48 ≤ k.toNat ∧ k.toNat ≤ 51) : CB (i + 1) (cstep b k) := by
  intro hi
  obtain ⟨h1, h2, h3⟩ := h (by omega)
  have hp := pow_half hi
  have hq := pow_pos2 (15 - (i + 1))
  have e : b.2.2 / 2 = 2 ^ (15 - (i + 1)) := by omega
  unfold cstep
  simp only [e]
  have hd : ((k.toNat : Int) - 48) % 2 = 0 ∨ ((k.toNat : Int) - 48) % 2 = 1 := by omega
  have hd2 : ((k.toNat : Int) - 48) / 2 = 0 ∨ ((k.toNat : Int) - 48) / 2 = 1 := by omega
  rcases hd with hd | hd <;> rcases hd2 with hd2 | hd2 <;> rw [hd, hd2] <;> refine ⟨trivial, ?_, ?_⟩ <;> constructor <;> omega
theorem cb_all : ∀ (ks : List UInt8) {i : Nat} {b : Bx}, CB i b → Dig ks → CB (i + ks.length) (ks.foldl cstep b)
  | [], i, b, h, _ => h
  | k :: ks, i, b, h, hd => by
    have := cb_all ks (cb_step h (hd k (by simp))) (fun x hx => hd x (by simp [hx]))
    rw [List.foldl_cons, List.length_cons, show i + (ks.length + 1) = i + 1 + ks.length by omega]
    exact this
theorem cb_zero : CB 0 (-16384, -16384, 32768) := fun _ => by decide
theorem cb_box {ks : List UInt8} (hd : Dig ks) : CB ks.length (cbox ks) := by
  have := cb_all ks cb_zero hd
  rw [Nat.zero_add] at this
  exact this
theorem cbox_snoc (ks : List UInt8) (k : UInt8) : cbox (ks ++ [k]) = cstep (cbox ks) k := by unfold cbox; simp
theorem dig_snoc {ks : List UInt8} {k : UInt8} (hd : Dig ks) (hk : 48 ≤ k.toNat ∧ k.toNat ≤ 51) : Dig (ks ++ [k]) := by
  intro x hx
  rcases List.mem_append.1 hx with hx | hx
  · exact hd x hx
  · simp at hx; subst hx; exact hk
theorem wrapu8 {n : Int} (h : 0 ≤ n ∧ n ≤ 255) : IntKind.wrap .u8 n = n := by
  unfold IntKind.wrap
  simp [IntKind.min, IntKind.max, IntKind.bits, IntKind.signed]
  omega
theorem td2 {n : Int} (h : 0 ≤ n) : n.tdiv 2 = n / 2 := Int.tdiv_eq_ediv_of_nonneg h
theorem tm2 {n : Int} (h : 0 ≤ n) : n.tmod 2 = n % 2 := Int.tmod_eq_emod_of_nonneg h

theorem cellBox_eq {ks : List UInt8} (hd : Dig ks) (hl : ks.length ≤ 15) : z407 ks = some (⟨(cbox ks).1, (cbox ks).2.1⟩, (cbox ks).2.2) := by
  unfold z407
  have := fold_loop0 (l := ks) (f := z410 ks) (fun (b : Bx) i => (api_Spot.mk b.1 b.2.1, b.2.2, i)) cstep (fun b => (api_Spot.mk b.1 b.2.1, b.2.2)) CB (s0 := (-16384, -16384, 32768)) (by omega)
    (fun i hi b hb => by
      have hk := hd ks[i] (List.getElem_mem _)
      refine ⟨?_, cb_step hb hk⟩
      have h15 : i + 1 ≤ 15 := by omega
      obtain ⟨h1, h2, h3⟩ := hb (by omega)
      obtain ⟨g1, g2, g3⟩ := cb_step hb hk h15
      have hp := pow_half h15
      have hq := pow_pos2 (15 - (i + 1))
      unfold z410
      have hlt : (i : Int) < ks.length := by omega
      simp only [hlt, decide_true, cond_true, at_nat hi, Option.bind_some]
      rw [wrapu8 (by omega), wrap64 (n := (ks[i].toNat : Int) - 48) (by omega) (by omega), tm2 (by omega), td2 (n := (ks[i].toNat : Int) - 48) (by omega), td2 (n := b.2.2) (by omega)]
      have e : b.2.2 / 2 = 2 ^ (15 - (i + 1)) := by omega
      have e32 : (2 : Int) ^ (15 - (i + 1)) ≤ 16384 := by omega
      unfold cstep at g1 g2 g3 ⊢
      simp only [e] at g1 g2 g3 ⊢
      have hd1 : ((ks[i].toNat : Int) - 48) % 2 = 0 ∨ ((ks[i].toNat : Int) - 48) % 2 = 1 := by omega
      have hd2 : ((ks[i].toNat : Int) - 48) / 2 = 0 ∨ ((ks[i].toNat : Int) - 48) / 2 = 1 := by omega
      rw [wrap64 (n := (2 : Int) ^ (15 - (i + 1))) (by omega) (by omega), wrap64 (n := ((ks[i].toNat : Int) - 48) / 2) (by omega) (by omega)]
      rw [wrap64 (n := ((ks[i].toNat : Int) - 48) % 2 * 2 ^ (15 - (i + 1))) (by rcases hd1 with h | h <;> rw [h] <;> omega) (by rcases hd1 with h | h <;> rw [h] <;> omega)]
      rw [wrap64 (n := ((ks[i].toNat : Int) - 48) / 2 * 2 ^ (15 - (i + 1))) (by rcases hd2 with h | h <;> rw [h] <;> omega) (by rcases hd2 with h | h <;> rw [h] <;> omega)]
      rw [wrap64 (n := b.1 + ((ks[i].toNat : Int) - 48) % 2 * 2 ^ (15 - (i + 1))) (by omega) (by omega)]
      rw [wrap64 (n := b.2.1 + ((ks[i].toNat : Int) - 48) / 2 * 2 ^ (15 - (i + 1))) (by omega) (by omega)])
    (fun b _ => by unfold z410; simp) cb_zero
  have h1 := this.1
  simp only at h1
  rw [h1]
  rfl

/-! ### All cells that meet a fence -/
noncomputable def kbox (ks : List UInt8) : List api_Spot := boxA (cbox ks).1 (cbox ks).2.1 (cbox ks).2.2
theorem kbox_right {ks : List UInt8} (hd : Dig ks) (hl : ks.length ≤ 15) : FRight (kbox ks) := by
  obtain ⟨h1, h2, h3⟩ := cb_box hd hl
  have := pow_pos2 (15 - ks.length)
  exact box_right (by omega) (by omega) (by omega)
noncomputable def full (l : List api_Spot) : Nat → List UInt8 → List (List UInt8)
  | 0, ks => if touB l (kbox ks) = true then [ks] else []
  | n + 1, ks => if touB l (kbox ks) = true then full l n (ks ++ [48]) ++ (full l n (ks ++ [49]) ++ (full l n (ks ++ [50]) ++ full l n (ks ++ [51]))) else []

theorem cells_loop (recF : List api_Spot → List UInt8 → Int → List (List UInt8) → Option (List (List UInt8))) (l : List api_Spot) {ks : List UInt8} (lv : Int) (out : List (List UInt8)) (hl : ks.length ≤ 15) :
    loopO (z440 recF l ks lv) (out, 0) = (recF l (ks ++ [48]) lv out).bind fun o => (recF l (ks ++ [49]) lv o).bind fun o => (recF l (ks ++ [50]) lv o).bind fun o => recF l (ks ++ [51]) lv o := by
  have hg : ∀ b : UInt8, Nat.ble (ks.length + [b].length) LIM = true := fun b => ble_lim (by simp; omega)
  have st : ∀ (o : List (List UInt8)) (i : Nat) (b : UInt8), i < 4 → ([[48], [49], [50], [51]] : List (List UInt8))[i]? = some [b] →
      loopO (z440 recF l ks lv) (o, (i : Int)) = (recF l (ks ++ [b]) lv o).bind fun o' => loopO (z440 recF l ks lv) (o', ((i + 1 : Nat) : Int)) := by
    intro o i b hi hb
    rw [loopO_eq]
    have hc : (decide ((i : Int) < (([[48], [49], [50], [51]] : List (List UInt8)).length : Int))) = true := by simp; omega
    have ha : at? ([[48], [49], [50], [51]] : List (List UInt8)) (i : Int) = some [b] := by unfold at?; rw [if_pos (by omega)]; simpa using hb
    simp only [z440, hc, cond_true, ha, Option.bind_some, hg, gd]
    have w : IntKind.wrap .i64 ((i : Int) + 1) = ((i + 1 : Nat) : Int) := by rw [wrap64 (by omega) (by omega)]; omega
    rw [w]
    cases recF l (ks ++ [b]) lv o <;> rfl
  have en : ∀ o, loopO (z440 recF l ks lv) (o, ((4 : Nat) : Int)) = some o := by
    intro o
    rw [loopO_eq]
    simp [z440]
  rw [show ((0 : Int)) = ((0 : Nat) : Int) by rfl, st out 0 48 (by omega) rfl]
  congr 1; funext o1
  rw [st o1 1 49 (by omega) rfl]
  congr 1; funext o2
  rw [st o2 2 50 (by omega) rfl]
  congr 1; funext o3
  rw [st o3 3 51 (by omega) rfl]
  cases recF l (ks ++ [51]) lv o3 with
  | none => rfl
  | some o4 => exact en o4

theorem take_take_app {α : Type} (m : Nat) (a b : List α) : (a.take m ++ b).take m = (a ++ b).take m := by
  rw [List.take_append, List.take_append, List.take_take, Nat.min_self, List.length_take]
  congr 1
  congr 1
  omega
theorem corner_box {ks : List UInt8} (hd : Dig ks) (hl : ks.length ≤ 15) :
    ([⟨(cbox ks).1, (cbox ks).2.1⟩, api_Spot.mk (IntKind.wrap .i64 ((cbox ks).1 + (cbox ks).2.2)) (cbox ks).2.1, api_Spot.mk (IntKind.wrap .i64 ((cbox ks).1 + (cbox ks).2.2)) (IntKind.wrap .i64 ((cbox ks).2.1 + (cbox ks).2.2)), api_Spot.mk (cbox ks).1 (IntKind.wrap .i64 ((cbox ks).2.1 + (cbox ks).2.2))] : List api_Spot) = kbox ks := by
  obtain ⟨h1, h2, h3⟩ := cb_box hd hl
  have := pow_pos2 (15 - ks.length)
  rw [wrap64 (n := (cbox ks).1 + (cbox ks).2.2) (by omega) (by omega), wrap64 (n := (cbox ks).2.1 + (cbox ks).2.2) (by omega) (by omega)]
  rfl

theorem cells_n {l : List api_Spot} (hr : FRight l) : ∀ (n : Nat) (ks : List UInt8) (out : List (List UInt8)) (lv : Nat), Dig ks → ks.length + n = lv → lv ≤ 15 → out.length ≤ 1001 → ∀ m : Nat,
    (n < m → z432 m l ks lv out = some ((out ++ full l n ks).take 1001)) ∧ ∀ x, z432 m l ks lv out = some x → x = (out ++ full l n ks).take 1001 := by
  intro n
  induction n with
  | zero =>
    intro ks out lv hd hlv h15 ho m
    cases m with
    | zero => exact ⟨fun h => by omega, fun x hx => by simp [z432] at hx⟩
    | succ m =>
      have e : z432 (m + 1) l ks lv out = some ((out ++ full l 0 ks).take 1001) := by
        simp only [z432, cellBox_eq hd (by omega), Option.bind_some, z435, corner_box hd (show ks.length ≤ 15 by omega), touch_eq hr (kbox_right hd (by omega)), full]
        by_cases h1 : (1000 : Int) < out.length
        · simp only [h1, decide_true, cond_true, Option.bind_some]
          rw [List.take_append_of_le_length (by omega), List.take_of_length_le (by omega)]
        · simp only [h1, decide_false, cond_false, Option.bind_some]
          cases htb : touB l (kbox ks) with
          | false =>
            simp only [Bool.not_false, cond_true, Bool.false_eq_true, if_false, List.append_nil]
            rw [List.take_of_length_le (by omega)]
          | true =>
            have hz : (decide ((ks.length : Int) = (lv : Int))) = true := by simp; omega
            simp only [Bool.not_true, cond_false, if_true, hz, cond_true]
            rw [List.take_of_length_le (by simp; omega)]
            rw [show Nat.ble (out.length + [ks].length) LIM = true from ble_lim (by simp; omega)]
            rfl
      rw [e]
      exact ⟨fun _ => rfl, fun x hx => (Option.some.inj hx).symm⟩
  | succ n ih =>
    intro ks out lv hd hlv h15 ho m
    cases m with
    | zero => exact ⟨fun h => by omega, fun x hx => by simp [z432] at hx⟩
    | succ m =>
      have h0 : ∀ (b : UInt8), 48 ≤ b.toNat ∧ b.toNat ≤ 51 → ∀ o : List (List UInt8), o.length ≤ 1001 → (n < m → z432 m l (ks ++ [b]) lv o = some ((o ++ full l n (ks ++ [b])).take 1001)) ∧ ∀ x, z432 m l (ks ++ [b]) lv o = some x → x = (o ++ full l n (ks ++ [b])).take 1001 :=
        fun b hb o ho' => ih (ks ++ [b]) o lv (dig_snoc hd hb) (by simp; omega) h15 ho' m
      have hlen : ∀ z : List (List UInt8), (z.take 1001).length ≤ 1001 := fun z => List.length_take_le _ _
      simp only [z432, cellBox_eq hd (show ks.length ≤ 15 by omega), Option.bind_some, z435, corner_box hd (show ks.length ≤ 15 by omega), touch_eq hr (kbox_right hd (show ks.length ≤ 15 by omega)), full, cells_loop _ l (ks := ks) lv out (by omega)]
      by_cases h1 : (1000 : Int) < out.length
      · simp only [h1, decide_true, cond_true, Option.bind_some]
        rw [List.take_append_of_le_length (by omega), List.take_of_length_le (by omega)]
        exact ⟨fun _ => rfl, fun x hx => (Option.some.inj hx).symm⟩
      · simp only [h1, decide_false, cond_false, Option.bind_some]
        cases htb : touB l (kbox ks) with
        | false =>
          simp only [Bool.not_false, cond_true, Bool.false_eq_true, if_false, List.append_nil]
          rw [List.take_of_length_le (by omega)]
          exact ⟨fun _ => rfl, fun x hx => (Option.some.inj hx).symm⟩
        | true =>
          have hz : (decide ((ks.length : Int) = (lv : Int))) = false := by simp; omega
          simp only [Bool.not_true, cond_false, if_true, hz]
          have ee : ((((out ++ full l n (ks ++ [48])).take 1001 ++ full l n (ks ++ [49])).take 1001 ++ full l n (ks ++ [50])).take 1001 ++ full l n (ks ++ [51])).take 1001 =
              (out ++ (full l n (ks ++ [48]) ++ (full l n (ks ++ [49]) ++ (full l n (ks ++ [50]) ++ full l n (ks ++ [51]))))).take 1001 := by
            rw [take_take_app, ← List.append_assoc, ← List.append_assoc, ← List.append_assoc]
            rw [show ((out ++ full l n (ks ++ [48])).take 1001 ++ full l n (ks ++ [49])).take 1001 = (out ++ full l n (ks ++ [48]) ++ full l n (ks ++ [49])).take 1001 from take_take_app _ _ _]
            rw [← take_take_app 1001 ((out ++ full l n (ks ++ [48]) ++ full l n (ks ++ [49])).take 1001 ++ full l n (ks ++ [50])), take_take_app 1001 (out ++ full l n (ks ++ [48]) ++ full l n (ks ++ [49])), take_take_app]
          rw [← ee]
          constructor
          · intro hm
            have hm : n < m := by omega
            rw [(h0 48 (by decide) out ho).1 hm, Option.bind_some, (h0 49 (by decide) _ (hlen _)).1 hm, Option.bind_some, (h0 50 (by decide) _ (hlen _)).1 hm, Option.bind_some, (h0 51 (by decide) _ (hlen _)).1 hm]
            rfl
          · intro x hx
            cases q1 : z432 m l (ks ++ [48]) lv out with
            | none => rw [q1] at hx; simp at hx
            | some o1 =>
              rw [q1, Option.bind_some] at hx
              have r1 := (h0 48 (by decide) out ho).2 _ q1
              have s1 : o1.length ≤ 1001 := by rw [r1]; exact hlen _
              cases q2 : z432 m l (ks ++ [49]) lv o1 with
              | none => rw [q2] at hx; simp at hx
              | some o2 =>
                rw [q2, Option.bind_some] at hx
                have r2 := (h0 49 (by decide) o1 s1).2 _ q2
                have s2 : o2.length ≤ 1001 := by rw [r2]; exact hlen _
                cases q3 : z432 m l (ks ++ [50]) lv o2 with
                | none => rw [q3] at hx; simp at hx
                | some o3 =>
                  rw [q3, Option.bind_some] at hx
                  have r3 := (h0 50 (by decide) o2 s2).2 _ q3
                  have s3 : o3.length ≤ 1001 := by rw [r3]; exact hlen _
                  cases q4 : z432 m l (ks ++ [51]) lv o3 with
                  | none => rw [q4] at hx; simp at hx
                  | some o4 =>
                    rw [q4] at hx
                    have r4 := (h0 51 (by decide) o3 s3).2 _ q4
                    simp at hx
                    rw [← hx, r4, r3, r2, r1]
theorem cells_eq {l : List api_Spot} (hr : FRight l) {n : Nat} {ks : List UInt8} {out : List (List UInt8)} {lv : Nat} (hd : Dig ks) (hlv : ks.length + n = lv) (h15 : lv ≤ 15) (ho : out.length ≤ 1001) :
    z430 l ks lv out = some ((out ++ full l n ks).take 1001) := by
  unfold z430
  exact fixO_eq ((cells_n hr n ks out lv hd hlv h15 ho (n + 1)).1 (by omega)) fun m x h => (cells_n hr n ks out lv hd hlv h15 ho m).2 x h

/-- the first call: nothing is there yet -/
theorem cells_first {l : List api_Spot} (hr : FRight l) {lv : Nat} (h15 : lv ≤ 15) : z415 l [] lv = some ((full l lv []).take 1001) := by
  have hd : Dig [] := fun k hk => by cases hk
  have key : ∀ m, z417 (m + 1) l [] lv = some ((full l lv []).take 1001) := by
    intro m
    have hlp : ∀ (o : List (List UInt8)), loopO (z425 (z417 m) l [] lv) (o, 0) = loopO (z440 z430 l [] lv) (o, 0) := by
      intro o
      have : z425 (z417 m) l [] lv = z440 z430 l [] lv := by
        funext ⟨a, b⟩
        rfl
      rw [this]
    simp only [z417, cellBox_eq hd (show ([] : List UInt8).length ≤ 15 by simp), Option.bind_some, z420, corner_box hd (show ([] : List UInt8).length ≤ 15 by simp), touch_eq hr (kbox_right hd (show ([] : List UInt8).length ≤ 15 by simp)), hlp, cells_loop _ l (ks := []) lv [] (by simp)]
    have h0 : ¬ ((1000 : Int) < 0) := by omega
    simp only [h0, decide_false, cond_false, Option.bind_some]
    cases lv with
    | zero =>
      cases htb : touB l (kbox []) with
      | false => simp [full, htb]
      | true => simp [full, htb]
    | succ n =>
      have hz : (decide ((([] : List UInt8).length : Int) = ((n + 1 : Nat) : Int))) = false := by simp; omega
      cases htb : touB l (kbox []) with
      | false => simp [full, htb]
      | true =>
        simp only [Bool.not_true, cond_false, hz, full, htb, if_true]
        have hlen : ∀ z : List (List UInt8), (z.take 1001).length ≤ 1001 := fun z => List.length_take_le _ _
        have cc : ∀ (b : UInt8), 48 ≤ b.toNat ∧ b.toNat ≤ 51 → ∀ o : List (List UInt8), o.length ≤ 1001 → z430 l ([] ++ [b]) ((n + 1 : Nat) : Int) o = some ((o ++ full l n ([] ++ [b])).take 1001) := fun b hb o ho =>
          cells_eq hr (dig_snoc hd hb) (by simp; omega) h15 ho
        rw [cc 48 (by decide) [] (by simp), Option.bind_some, cc 49 (by decide) _ (hlen _), Option.bind_some, cc 50 (by decide) _ (hlen _), Option.bind_some, cc 51 (by decide) _ (hlen _)]
        simp only [Option.bind_some, List.nil_append]
        congr 1
        rw [take_take_app, ← List.append_assoc, ← List.append_assoc]
        rw [take_take_app 1001 (full l n [48]), ← take_take_app 1001 ((full l n [48] ++ full l n [49]).take 1001 ++ full l n [50]), take_take_app 1001 (full l n [48] ++ full l n [49]), take_take_app]
  unfold z415
  refine fixO_eq (key 0) fun m x h => ?_
  cases m with
  | zero => simp [z417] at h
  | succ m => rw [key m] at h; exact (Option.some.inj h).symm
end Go.Eng

/-
What the law asks of each package once.
-/
namespace Go.Eng
open Go
end Go.Eng

/-
The law TopCellsAndFences: two fences that meet have a cell in common.
-/
namespace Go.Eng
open Go Geo
set_option linter.unusedVariables false
set_option linter.unusedSimpArgs false

/-- does a spot, perhaps a broken one, lie in a box? -/
def InBx (k : Int) (b : Bx) (r : Pt) : Prop := k * b.1 ≤ r.1 ∧ r.1 ≤ k * b.1 + k * b.2.2 ∧ k * b.2.1 ≤ r.2 ∧ r.2 ≤ k * b.2.1 + k * b.2.2
theorem inR_kbox {k : Int} (hk : 0 < k) {ks : List UInt8} (hd : Dig ks) (hl : ks.length ≤ 15) {r : Pt} : InR (((kbox ks).map pt).map (sc k)) r ↔ InBx k (cbox ks) r := by
  obtain ⟨h1, h2, h3⟩ := cb_box hd hl
  have hp := pow_pos2 (15 - ks.length)
  unfold kbox
  rw [boxA_pt, bx_sc, inR_bx (pp hk (by omega))]
  exact Iff.rfl
theorem touch_of {l : List api_Spot} (hl : FRight l) {k : Int} (hk : 0 < k) {r : Pt} (h : InR ((l.map pt).map (sc k)) r) {ks : List UInt8} (hd : Dig ks) (hk15 : ks.length ≤ 15) (hb : InBx k (cbox ks) r) : touB l (kbox ks) = true :=
  (touB_iff hl.1 (kbox_right hd hk15).1).2 ⟨k, hk, r, h, (inR_kbox hk hd hk15).2 hb⟩
theorem full_part {l : List api_Spot} {n : Nat} {ks : List UInt8} (ht : touB l (kbox ks) = true) {b : UInt8} (hb : b = 48 ∨ b = 49 ∨ b = 50 ∨ b = 51) {x : List UInt8} (hx : x ∈ full l n (ks ++ [b])) : x ∈ full l (n + 1) ks := by
  simp only [full, ht, if_true, List.mem_append]
  rcases hb with rfl | rfl | rfl | rfl <;> simp [hx]
/-! ### Lists of names -/
theorem containsS_eq (l : List (List UInt8)) (v : List UInt8) (hl : (l.length : Int) ≤ 9223372036854775807) : z710 l v = some (l.any fun x => decide (v = x)) := by
  unfold z710 z745
  obtain ⟨x, h1, h2⟩ := find_loop (l := l) (f := z748 l v) (fun x => decide (v = x)) hl (fun i h => by
    unfold z748
    have hc : (i : Int) < l.length := by omega
    simp only [hc, decide_true, cond_true, at_nat h, Option.bind_some]
    cases decide (v = l[i]) <;> rfl) (by unfold z748; simp)
  rw [h1, ← h2]
  cases x <;> rfl
theorem Cells_eq {l : List api_Spot} (hl : FIn l) (hz : z289 l = some 0) {lv : Nat} (h15 : lv ≤ 15) :
    z393 (api_Fence.mk [102] l) lv = some (if (full l lv []).length ≤ 1000 then (full l lv [], 0) else ([], 2)) := by
  unfold z393
  have ho : base_Out (lv : Int) 0 15 = some false := by
    unfold base_Out z78
    have h1 : ¬ ((lv : Int) < 0) := by omega
    have h2 : ¬ ((15 : Int) < lv) := by omega
    simp only [h1, h2, decide_false, cond_false, Option.bind_some]
  simp only [check_right hz, Option.bind_some, decide_true, Bool.not_true, cond_false, ho, cells_first hl.1 h15]
  by_cases h : (full l lv []).length ≤ 1000
  · rw [if_pos h, List.take_of_length_le (by omega)]
    have : ¬ (1000 : Int) < (full l lv []).length := by omega
    simp [this]
  · rw [if_neg h]
    have : (1000 : Int) < ((full l lv []).take 1001).length := by rw [List.length_take]; omega
    simp only [this, decide_true, cond_true]

end Go.Eng

/-
The law CellsNest: the cell of a spot, its box, the cells of a fence.
-/
namespace Go.Eng
open Go Geo
set_option linter.unusedVariables false
set_option linter.unusedSimpArgs false

/-! ### The name of a spot's cell -/
def cdig (u v H : Int) : UInt8 := UInt8.ofNat (48 + u / H % 2 + 2 * (v / H % 2)).toNat
def ckey (u v : Int) : Nat → List UInt8
  | 0 => []
  | n + 1 => ckey u v n ++ [cdig u v (2 ^ (15 - (n + 1)))]
theorem ckey_len (u v : Int) : ∀ n, (ckey u v n).length = n
  | 0 => rfl
  | n + 1 => by rw [ckey, List.length_append, ckey_len u v n]; rfl
theorem cdig_nat (u v H : Int) : ((cdig u v H).toNat : Int) = 48 + u / H % 2 + 2 * (v / H % 2) := by
  have h1 : u / H % 2 = 0 ∨ u / H % 2 = 1 := by omega
  have h2 : v / H % 2 = 0 ∨ v / H % 2 = 1 := by omega
  unfold cdig
  rcases h1 with h1 | h1 <;> rcases h2 with h2 | h2 <;> rw [h1, h2] <;> rfl
theorem cdig_in (u v H : Int) : 48 ≤ (cdig u v H).toNat ∧ (cdig u v H).toNat ≤ 51 := by
  have := cdig_nat u v H
  omega
theorem cdig_of (u v H : Int) : cdig u v H = 48 ∨ cdig u v H = 49 ∨ cdig u v H = 50 ∨ cdig u v H = 51 := by
  have h1 : u / H % 2 = 0 ∨ u / H % 2 = 1 := by omega
  have h2 : v / H % 2 = 0 ∨ v / H % 2 = 1 := by omega
  unfold cdig
  rcases h1 with h1 | h1 <;> rcases h2 with h2 | h2 <;> rw [h1, h2]
  · exact .inl rfl
  · exact .inr (.inr (.inl rfl))
  · exact .inr (.inl rfl)
  · exact .inr (.inr (.inr rfl))
theorem ckey_dig (u v : Int) : ∀ n, Dig (ckey u v n)
  | 0 => fun k hk => by cases hk
  | n + 1 => dig_snoc (ckey_dig u v n) (cdig_in u v _)
theorem q_step {u H : Int} (hH : 0 < H) : u / (2 * H) * (2 * H) + u / H % 2 * H = u / H * H := by
  have e : u / (2 * H) = u / H / 2 := by rw [Int.ediv_ediv_of_nonneg (by omega), Int.mul_comm]
  rw [e]
  obtain ⟨q, hq⟩ : ∃ q, q = u / H := ⟨_, rfl⟩
  rw [← hq]
  have h2 : q = 2 * (q / 2) + q % 2 := by omega
  obtain ⟨a, ha⟩ : ∃ a, a = q / 2 := ⟨_, rfl⟩
  obtain ⟨b, hb⟩ : ∃ b, b = q % 2 := ⟨_, rfl⟩
  rw [← ha, ← hb] at h2 ⊢
  rw [h2]
  grind
theorem cbox_key {u v : Int} (hu : 0 ≤ u ∧ u < 32768) (hv : 0 ≤ v ∧ v < 32768) : ∀ n, n ≤ 15 → cbox (ckey u v n) = (-16384 + u / 2 ^ (15 - n) * 2 ^ (15 - n), -16384 + v / 2 ^ (15 - n) * 2 ^ (15 - n), 2 ^ (15 - n))
  | 0, _ => by
    have e : (2 : Int) ^ (15 - 0) = 32768 := by decide
    have e0 : cbox (ckey u v 0) = (-16384, -16384, 32768) := rfl
    rw [e, e0, Int.ediv_eq_zero_of_lt hu.1 hu.2, Int.ediv_eq_zero_of_lt hv.1 hv.2]
    rfl
  | n + 1, h => by
    have hp := pow_half h
    have hq := pow_pos2 (15 - (n + 1))
    rw [ckey, cbox_snoc, cbox_key hu hv n (by omega)]
    unfold cstep
    simp only [cdig_nat]
    generalize (2 : Int) ^ (15 - (n + 1)) = H at *
    rw [hp]
    have e1 : 2 * H / 2 = H := by omega
    have e2 : (48 + u / H % 2 + 2 * (v / H % 2) - 48) % 2 = u / H % 2 := by omega
    have e3 : (48 + u / H % 2 + 2 * (v / H % 2) - 48) / 2 = v / H % 2 := by omega
    have f1 := q_step (u := u) hq
    have f2 := q_step (u := v) hq
    rw [e1, e2, e3, ← f1, ← f2]
    refine Prod.ext ?_ (Prod.ext ?_ rfl)
    · simp only; omega
    · simp only; omega
theorem Cell_eq {s : api_Spot} (hx : -10000 ≤ s.X ∧ s.X ≤ 10000) (hy : -10000 ≤ s.Y ∧ s.Y ≤ 10000) {n : Nat} (hn : n ≤ 15) : z372 s n = some (ckey (s.X + 16384) (s.Y + 16384) n, 0) := by
  unfold z372
  have h1 : z383 s n = some false := by
    unfold z383
    have e1 : ¬ ((n : Int) < 0) := by omega
    have e2 : ¬ ((15 : Int) < n) := by omega
    simp [isSpot_eq, Out_eq, hx, hy, e1, e2]
  rw [h1]
  simp only [Option.bind_some, cond_false]
  have key : ∃ out : List Int, loopO (z388 s n) ([], 32768, 0) = some out ∧ out.map (fun n => UInt8.ofNat n.toNat) = ckey (s.X + 16384) (s.Y + 16384) n := by
    refine loop_ok (fun st : List Int × Int × Int => ∃ i : Nat, i ≤ n ∧ st.2.2 = (i : Int) ∧ st.2.1 = 2 ^ (15 - i) ∧ st.1.length = i ∧ st.1.map (fun n => UInt8.ofNat n.toNat) = ckey (s.X + 16384) (s.Y + 16384) i) (fun st => ((n : Int) - st.2.2).toNat) ?_ ⟨0, by omega, rfl, by decide, rfl, rfl⟩
    rintro ⟨out, long, x⟩ ⟨i, hi, rfl, rfl, h3, h4⟩
    simp only at h3 h4
    unfold z388
    refine .cond (fun hc => ?_) (fun hc => ?_)
    · have hc : (i : Int) < n := by simpa using hc
      have hp := pow_half (i := i) (by omega)
      have hq := pow_pos2 (15 - (i + 1))
      have hle : (2 : Int) ^ (15 - (i + 1)) ≤ 16384 := by
        have : (2 : Int) ^ (15 - (i + 1)) ≤ 2 ^ 14 := by
          have h14 : (2 : Nat) ^ (15 - (i + 1)) ≤ 2 ^ 14 := Nat.pow_le_pow_right (by omega) (by omega)
          exact_mod_cast h14
        simpa using this
      have wi : IntKind.wrap .i64 ((i : Int) + 1) = ((i + 1 : Nat) : Int) := by rw [wrap64 (by omega) (by omega)]; omega
      have hkey : ckey (s.X + 16384) (s.Y + 16384) (i + 1) = ckey (s.X + 16384) (s.Y + 16384) i ++ [cdig (s.X + 16384) (s.Y + 16384) (2 ^ (15 - (i + 1)))] := rfl
      rw [hp]
      obtain ⟨H, hH⟩ : ∃ H : Int, H = 2 ^ (15 - (i + 1)) := ⟨_, rfl⟩
      rw [← hH] at hp hq hle hkey ⊢
      have t1 : (2 * H).tdiv 2 = H := by rw [td2 (by omega)]; omega
      have w1 : IntKind.wrap .i64 H = H := wrap64 (by omega) (by omega)
      have ux : IntKind.wrap .i64 (s.X - -16384) = s.X + 16384 := by rw [wrap64 (by omega) (by omega)]; omega
      have uy : IntKind.wrap .i64 (s.Y - -16384) = s.Y + 16384 := by rw [wrap64 (by omega) (by omega)]; omega
      simp only [t1, w1, ux, uy, wi]
      have hu : 0 ≤ s.X + 16384 := by omega
      have hv : 0 ≤ s.Y + 16384 := by omega
      rw [Int.tdiv_eq_ediv_of_nonneg hu, Int.tdiv_eq_ediv_of_nonneg hv]
      have a1 := Int.ediv_nonneg hu (Int.le_of_lt hq)
      have a2 := Int.ediv_le_self H hu
      have b1 := Int.ediv_nonneg hv (Int.le_of_lt hq)
      have b2 := Int.ediv_le_self H hv
      unfold cdig at hkey
      generalize (s.X + 16384) / H = a at *
      generalize (s.Y + 16384) / H = b at *
      have w2 : IntKind.wrap .i64 a = a := wrap64 (by omega) (by omega)
      have w3 : IntKind.wrap .i64 b = b := wrap64 (by omega) (by omega)
      rw [w2, w3, tm2 a1, tm2 b1]
      have w4 : IntKind.wrap .u8 (a % 2) = a % 2 := wrapu8 (by omega)
      have w5 : IntKind.wrap .u8 (b % 2) = b % 2 := wrapu8 (by omega)
      have w6 : IntKind.wrap .u8 (48 + a % 2) = 48 + a % 2 := wrapu8 (by omega)
      have w7 : IntKind.wrap .u8 (2 * (b % 2)) = 2 * (b % 2) := wrapu8 (by omega)
      have w8 : IntKind.wrap .u8 (48 + a % 2 + 2 * (b % 2)) = 48 + a % 2 + 2 * (b % 2) := wrapu8 (by omega)
      rw [w4, w5, w6, w7, w8]
      refine .gd (by simp; omega) (.gd (ble_lim (by simp; omega)) (.some ⟨⟨i + 1, by omega, rfl, hH, by simp [h3], ?_⟩, by simp only; omega⟩))
      rw [hkey, List.map_append, h4]
      rfl
    · have hc : ¬ (i : Int) < n := by simpa using hc
      have : i = n := by omega
      subst this
      exact .some h4
  obtain ⟨out, k1, k2⟩ := key
  rw [k1]
  simp only [Option.bind_some, k2]

/-! ### The box of a spot's cell -/
theorem trim_digits {ks : List UInt8} (hd : Dig ks) : Lib.trimS ks [48, 49, 50, 51] = [] := by
  unfold Lib.trimS
  have hc : ∀ b : UInt8, 48 ≤ b.toNat ∧ b.toNat ≤ 51 → ([48, 49, 50, 51] : List UInt8).contains b = true := by
    intro b hb
    have : b = 48 ∨ b = 49 ∨ b = 50 ∨ b = 51 := by
      have h : b.toNat = (48 : UInt8).toNat ∨ b.toNat = (49 : UInt8).toNat ∨ b.toNat = (50 : UInt8).toNat ∨ b.toNat = (51 : UInt8).toNat := by
        show b.toNat = 48 ∨ b.toNat = 49 ∨ b.toNat = 50 ∨ b.toNat = 51
        omega
      rcases h with h | h | h | h
      · exact .inl (UInt8.toNat_inj.1 h)
      · exact .inr (.inl (UInt8.toNat_inj.1 h))
      · exact .inr (.inr (.inl (UInt8.toNat_inj.1 h)))
      · exact .inr (.inr (.inr (UInt8.toNat_inj.1 h)))
    rcases this with rfl | rfl | rfl | rfl <;> rfl
  rw [Lib.trimRightS_take ks _ 0 (by omega) (fun j b _ hb => hc b (hd b (List.mem_of_getElem? hb))) (fun b h _ => by omega)]
  rfl
theorem CellBox_eq {ks : List UInt8} (hd : Dig ks) (h0 : 0 < ks.length) (hl : ks.length ≤ 15) : z373 ks = some (⟨(cbox ks).1, (cbox ks).2.1⟩, (cbox ks).2.2, 0) := by
  unfold z373 z376 z1027
  have h1 : ¬ (15 : Int) < ks.length := by omega
  have h2 : ks ≠ [] := fun e => by rw [e] at h0; simp at h0
  have h3 : (decide (2 ≤ ([48, 49, 50, 51] : List UInt8).length) && decide (0 < ks.length) && decide (ks.length ≤ 9223372036854775807) && decide (([48, 49, 50, 51] : List UInt8).length < 4294967281) && (([48, 49, 50, 51] : List UInt8).all fun b => decide (b.toNat < 128))) = true := by
    have e1 : decide (0 < ks.length) = true := by simpa using h0
    have e2 : decide (ks.length ≤ 9223372036854775807) = true := by simp; omega
    rw [e1, e2]
    decide
  simp only [h1, decide_false, cond_false, h2, h3, gd, cond_true, Option.bind_some, trim_digits hd, decide_true, Bool.not_true, cellBox_eq hd hl]

/-! ### The cells of a fence are in order -/
theorem cmpB_app : ∀ (p x y : List UInt8), Lib.compareBytes (p ++ x) (p ++ y) = Lib.compareBytes x y
  | [], x, y => rfl
  | a :: p, x, y => by
    show (if a < a then -1 else if a < a then 1 else Lib.compareBytes (p ++ x) (p ++ y)) = _
    rw [if_neg (UInt8.lt_irrefl a), if_neg (UInt8.lt_irrefl a)]
    exact cmpB_app p x y
theorem full_pre (l : List api_Spot) : ∀ (n : Nat) (ks x : List UInt8), x ∈ full l n ks → ∃ r, x = ks ++ r
  | 0, ks, x, h => by
    unfold full at h
    split at h
    · rw [List.mem_singleton] at h; exact ⟨[], by rw [h]; simp⟩
    · cases h
  | n + 1, ks, x, h => by
    unfold full at h
    split at h
    · simp only [List.mem_append] at h
      have := full_pre l n
      rcases h with h | h | h | h
      all_goals (obtain ⟨r, rfl⟩ := this _ _ h; exact ⟨_, List.append_assoc _ _ _⟩)
    · cases h
theorem full_srt (l : List api_Spot) : ∀ (n : Nat) (ks : List UInt8), (full l n ks).Pairwise fun x y => Lib.compareBytes x y < 0
  | 0, ks => by
    unfold full
    split <;> simp
  | n + 1, ks => by
    unfold full
    have ih := full_srt l n
    have two : ∀ {b c : UInt8}, b < c → ∀ x ∈ full l n (ks ++ [b]), ∀ y ∈ full l n (ks ++ [c]), Lib.compareBytes x y < 0 := by
      intro b c hbc x hx y hy
      obtain ⟨r, rfl⟩ := full_pre l n _ x hx
      obtain ⟨q, rfl⟩ := full_pre l n _ y hy
      rw [List.append_assoc, List.append_assoc, cmpB_app]
      show (if b < c then (-1 : Int) else _) < 0
      rw [if_pos hbc]; omega
    split
    · rw [List.pairwise_append, List.pairwise_append, List.pairwise_append]
      refine ⟨ih _, ⟨ih _, ⟨ih _, ih _, fun x hx y hy => two (by decide) x hx y hy⟩, fun x hx y hy => ?_⟩, fun x hx y hy => ?_⟩
      · rcases List.mem_append.1 hy with hy | hy
        · exact two (by decide) x hx y hy
        · exact two (by decide) x hx y hy
      · rcases List.mem_append.1 hy with hy | hy
        · exact two (by decide) x hx y hy
        · rcases List.mem_append.1 hy with hy | hy
          · exact two (by decide) x hx y hy
          · exact two (by decide) x hx y hy
    · exact List.Pairwise.nil
theorem LessS_eq (x y : List UInt8) : z145 x y = some (decide (Lib.compareBytes x y < 0)) := by
  unfold z145 z148 z164
  simp only [Option.bind_some, decide_true, Bool.not_true, cond_false, cmpB_less]
theorem IsSorted_eq {l : List (List UInt8)} (hs : l.Pairwise fun x y => Lib.compareBytes x y < 0) (hl : l.length ≤ 100000) : z753 l = some true := by
  unfold z753
  have w : IntKind.wrap .i64 ((l.length : Int) - 1) = (l.length : Int) - 1 := wrap64 (by omega) (by omega)
  rw [w]
  obtain ⟨x, h1, h2⟩ := loop_ok (f := z756 l) (Q := fun x => x = .inl ()) (fun i : Int => -1 ≤ i ∧ i < l.length) (fun i => i.toNat) (by
    rintro i ⟨i1, i2⟩
    unfold z756
    refine .cond (fun hc => ?_) (fun hc => .some rfl)
    have hc : (0 : Int) < i := by simpa using hc
    obtain ⟨j, rfl⟩ : ∃ j : Nat, i = ((j + 1 : Nat) : Int) := ⟨(i - 1).toNat, by omega⟩
    have w1 : IntKind.wrap .i64 (((j + 1 : Nat) : Int) - 1) = (j : Int) := by rw [wrap64 (by omega) (by omega)]; omega
    have hj : j + 1 < l.length := by omega
    have hlt := (List.pairwise_iff_getElem.1 hs) j (j + 1) (by omega) hj (by omega)
    have ha := cmpB_anti (l[j]'(by omega)) l[j + 1]
    have hf : decide (Lib.compareBytes l[j + 1] (l[j]'(by omega)) < 0) = false := by
      rw [decide_eq_false_iff_not]; omega
    rw [w1, at_nat hj, at_nat (show j < l.length by omega)]
    simp only [Option.bind_some, LessS_eq, hf, cond_false]
    exact .some ⟨⟨by omega, by omega⟩, by omega⟩) (s := (l.length : Int) - 1) ⟨by omega, by omega⟩
  rw [h1, h2]
  rfl

/-! ### The cell of a spot in a fence -/
theorem key_in_box {s : api_Spot} (hx : -10000 ≤ s.X ∧ s.X ≤ 10000) (hy : -10000 ≤ s.Y ∧ s.Y ≤ 10000) {n : Nat} (hn : n ≤ 15) : ∃ x y h : Int, cbox (ckey (s.X + 16384) (s.Y + 16384) n) = (x, y, h) ∧ (x ≤ s.X ∧ s.X < x + h) ∧ (y ≤ s.Y ∧ s.Y < y + h) ∧ (0 < h ∧ h ≤ 32768) ∧ (-16384 ≤ x ∧ -16384 ≤ y) := by
  have hp := pow_pos2 (15 - n)
  have hle : (2 : Int) ^ (15 - n) ≤ 32768 := by
    have : (2 : Int) ^ (15 - n) ≤ 2 ^ 15 := by
      have h14 : (2 : Nat) ^ (15 - n) ≤ 2 ^ 15 := Nat.pow_le_pow_right (by omega) (by omega)
      exact_mod_cast h14
    simpa using this
  refine ⟨_, _, _, cbox_key (by omega) (by omega) n hn, ?_, ?_, ⟨hp, hle⟩, ?_⟩
  · have h1 := Int.ediv_mul_le (s.X + 16384) (Int.ne_of_gt hp)
    have h2 := Int.lt_ediv_add_one_mul_self (s.X + 16384) hp
    rw [Int.add_mul, Int.one_mul] at h2
    omega
  · have h1 := Int.ediv_mul_le (s.Y + 16384) (Int.ne_of_gt hp)
    have h2 := Int.lt_ediv_add_one_mul_self (s.Y + 16384) hp
    rw [Int.add_mul, Int.one_mul] at h2
    omega
  · have h1 := Int.mul_nonneg (Int.ediv_nonneg (show 0 ≤ s.X + 16384 by omega) (Int.le_of_lt hp)) (Int.le_of_lt hp)
    have h2 := Int.mul_nonneg (Int.ediv_nonneg (show 0 ≤ s.Y + 16384 by omega) (Int.le_of_lt hp)) (Int.le_of_lt hp)
    omega
theorem sc_one (l : List Pt) : l.map (sc 1) = l := by
  have : sc 1 = id := by funext c; unfold sc; simp
  rw [this, List.map_id]
theorem key_full {l : List api_Spot} (hl : FRight l) {s : api_Spot} (hx : -10000 ≤ s.X ∧ s.X ≤ 10000) (hy : -10000 ≤ s.Y ∧ s.Y ≤ 10000) (hin : InR (l.map pt) (pt s)) :
    ∀ (n i : Nat), i + n ≤ 15 → ckey (s.X + 16384) (s.Y + 16384) (i + n) ∈ full l n (ckey (s.X + 16384) (s.Y + 16384) i) := by
  have ht : ∀ i, i ≤ 15 → touB l (kbox (ckey (s.X + 16384) (s.Y + 16384) i)) = true := by
    intro i hi
    refine touch_of hl (k := 1) (by omega) (r := pt s) (by rw [sc_one]; exact hin) (ckey_dig _ _ _) (by rw [ckey_len]; exact hi) ?_
    obtain ⟨x, y, h, e, h1, h2, h3, _⟩ := key_in_box hx hy hi
    rw [e]
    unfold InBx pt
    simp only
    omega
  intro n
  induction n with
  | zero =>
    intro i hi
    simp [full, ht i (by omega)]
  | succ n ih =>
    intro i hi
    have := ih (i + 1) (by omega)
    rw [show i + 1 + n = i + (n + 1) by omega] at this
    exact full_part (ht i (by omega)) (cdig_of _ _ _) this
theorem errs000 : z219 [0, 0, 0] = some 0 := by kernel_rfl
theorem CellsNest_true (L : List Int) (hL : L.length ≤ 9223372036854775807) (hI : ∀ n ∈ L, -9223372036854775808 ≤ n ∧ n ≤ 9223372036854775807) : fleetkeep2_CellsNest L = some true := by
  apply Ok.eq
  unfold fleetkeep2_CellsNest
  have h0 : StrOk 0 (z245.mk L 0) := ⟨Int.le_refl _, by simp, hL, hI⟩
  refine (Range_ok h0 (by omega) (by omega) (by omega)).bind fun ⟨s1, X⟩ ⟨x1, x2, x3, _⟩ => ?_
  refine (Range_ok x1 (by omega) (by omega) (by omega)).bind fun ⟨s2, Y⟩ ⟨y1, y2, y3, _⟩ => ?_
  refine (Range_ok y1 (by omega) (by omega) (by omega)).bind fun ⟨s3, lv⟩ ⟨r1, r2, r3, _⟩ => ?_
  simp only at x2 x3 y2 y3 r1 r2 r3
  have x3 := x3 (by omega)
  have y3 := y3 (by omega)
  have r3 := r3 (by omega)
  obtain ⟨n, rfl⟩ : ∃ n : Nat, lv = ((n + 1 : Nat) : Int) := ⟨(lv - 1).toNat, by omega⟩
  have hX : -10000 ≤ (api_Spot.mk X Y).X ∧ (api_Spot.mk X Y).X ≤ 10000 := ⟨x2, x3⟩
  have hY : -10000 ≤ (api_Spot.mk X Y).Y ∧ (api_Spot.mk X Y).Y ≤ 10000 := ⟨y2, y3⟩
  have w : IntKind.wrap .i64 (((n + 1 : Nat) : Int) - 1) = (n : Int) := by rw [wrap64 (by omega) (by omega)]; omega
  have hk1 := ckey_len (X + 16384) (Y + 16384) (n + 1)
  have hkd := ckey_dig (X + 16384) (Y + 16384) (n + 1)
  obtain ⟨bx, by', bh, be, b1, b2, b3, b4⟩ := key_in_box hX hY (show n + 1 ≤ 15 by omega)
  have be : cbox (ckey (X + 16384) (Y + 16384) (n + 1)) = (bx, by', bh) := be
  have b1 : bx ≤ X ∧ X < bx + bh := b1
  have b2 : by' ≤ Y ∧ Y < by' + bh := b2
  have hcb := CellBox_eq hkd (by rw [hk1]; omega) (by rw [hk1]; omega)
  rw [be] at hcb
  have hsub : sub? (ckey (X + 16384) (Y + 16384) (n + 1)) 0 (n : Int) = some (ckey (X + 16384) (Y + 16384) n) := by
    unfold sub?
    rw [if_pos ⟨by omega, by omega, by rw [hk1]; omega⟩]
    have : ckey (X + 16384) (Y + 16384) (n + 1) = ckey (X + 16384) (Y + 16384) n ++ [cdig (X + 16384) (Y + 16384) (2 ^ (15 - (n + 1)))] := rfl
    rw [this]
    simp [ckey_len]
  have hx1 : z197 X Y ((n + 1 : Nat) : Int) (ckey (X + 16384) (Y + 16384) (n + 1)) 0 (ckey (X + 16384) (Y + 16384) n) 0 (api_Spot.mk bx by') bh 0 = some false := by
    unfold z197
    have c1 : ¬ X < bx := by omega
    have w1 : IntKind.wrap .i64 (bx + bh) = bx + bh := wrap64 (by omega) (by omega)
    have w2 : IntKind.wrap .i64 (by' + bh) = by' + bh := wrap64 (by omega) (by omega)
    have c2 : ¬ bx + bh ≤ X := by omega
    have c3 : ¬ Y < by' := by omega
    have c4 : ¬ by' + bh ≤ Y := by omega
    simp only [errs000, Option.bind_some, hk1, w, hsub, w1, w2, c1, c2, c3, c4, decide_true, decide_false, Bool.not_true, cond_false]
  have e1 := Cell_eq hX hY (show n + 1 ≤ 15 by omega)
  have e2 := Cell_eq hX hY (show n ≤ 15 by omega)
  simp only at e1 e2
  dsimp only
  rw [w, e1, e2]
  simp only [Option.bind_some, hcb, hx1, cond_false]
  refine (RightFence_ok r1 (by omega)).bind fun ⟨s4, f⟩ ⟨f1, f2, f3⟩ => ?_
  simp only at f1 f2 f3
  refine (Place_ok f1 (by omega)).bind fun q ⟨q1, q2⟩ => ?_
  have F := right_of_zero f2
  have hqx : -10000 ≤ q.X ∧ q.X ≤ 10000 := by omega
  have hqy : -10000 ≤ q.Y ∧ q.Y ≤ 10000 := by omega
  have hwh : z404 (api_Fence.mk [102] f) q = some (wher f q, 0) := by
    unfold z404 z536 z539 z544
    obtain ⟨g1, g2, g3, g4⟩ := F.1
    have hq : InB q := by unfold InB; omega
    simp [check_right f2, isSpot_eq, hqx, hqy, where_eq g2 g3 hq]
  rw [hwh]
  have e3 := Cell_eq hqx hqy (show 11 ≤ 15 by omega)
  have e4 := Cells_eq F f2 (show 11 ≤ 15 by omega)
  have e3 : z372 q 11 = some (ckey (q.X + 16384) (q.Y + 16384) 11, 0) := e3
  have e4 : z393 (api_Fence.mk [102] f) 11 = some (if (full f 11 []).length ≤ 1000 then (full f 11 [], 0) else ([], 2)) := e4
  simp only [Option.bind_some, e3, e4]
  by_cases hf : (full f 11 []).length ≤ 1000
  · simp only [if_pos hf, z202, decide_true, Bool.not_true, cond_false, Option.bind_some]
    unfold z214
    simp only [IsSorted_eq (full_srt f 11 []) (by omega), Option.bind_some, cond_true]
    by_cases hw : wher f q = 0
    · simp only [hw, decide_true, cond_true, ready_eq, Option.bind_some]
      exact .some rfl
    · have hin := key_full F.1 hqx hqy (wher_inR.1 hw) 11 0 (by omega)
      have : ((full f 11 []).any fun x => decide (ckey (q.X + 16384) (q.Y + 16384) 11 = x)) = true := List.any_eq_true.2 ⟨_, hin, by simp⟩
      simp only [hw, decide_false, cond_false, containsS_eq (full f 11 []) _ (show ((full f 11 []).length : Int) ≤ _ by omega), Option.bind_some, this, cond_true, ready_eq]
      exact .some rfl
  · simp only [if_neg hf, z202, z207, decide_true, Bool.not_true, cond_false, cond_true, Option.bind_some, show ¬ ((2 : Int) = 0) by omega, decide_false, Bool.not_false, ready_eq]
    exact .some rfl
end Go.Eng

