/-
What the plain functions of the law TopVisitsFromPlainTracks answer, part 1.
-/
import Derived.Test.YtnolfbkibkgolaaGreatDoorGenF
import Derived.KernelRfl
import Derived.Test.YtnolfbkibkgolaaGreatDoorEngV
/-
Plain functions: what they answer, in total. Loops by an invariant and a measure.
-/
namespace Go.Eng
open Go
set_option linter.unusedVariables false
set_option linter.unusedSimpArgs false

def Ok {α : Type} (x : Option α) (P : α → Prop) : Prop := ∃ r, x = some r ∧ P r
section
variable {α β σ ρ : Type} {P Q : α → Prop} {R : β → Prop}
theorem Ok.some {r : α} (h : P r) : Ok (some r) P := ⟨r, rfl, h⟩
theorem Ok.mono {x : Option α} (h : Ok x P) (hq : ∀ r, P r → Q r) : Ok x Q := let ⟨r, h1, h2⟩ := h; ⟨r, h1, hq r h2⟩
theorem Ok.bind {x : Option α} {f : α → Option β} (h : Ok x P) (hf : ∀ r, P r → Ok (f r) R) : Ok (x.bind f) R := by
  obtain ⟨r, rfl, hr⟩ := h
  exact hf r hr
theorem Ok.cond {b : Bool} {x y : Option α} (ht : b = true → Ok x P) (hf : b = false → Ok y P) : Ok (cond b x y) P := by
  cases b
  · exact hf rfl
  · exact ht rfl
theorem Ok.gd {b : Bool} {x : Option α} (hb : b = true) (h : Ok x P) : Ok (gd b x) P := by
  subst hb; exact h
theorem Ok.eq {x : Option α} {r : α} (h : Ok x fun y => y = r) : x = Option.some r := by
  obtain ⟨y, h1, h2⟩ := h
  rw [h1, h2]
theorem Ok.of_eq {x : Option α} {r : α} (h : x = Option.some r) (hp : P r) : Ok x P := ⟨r, h, hp⟩

theorem loop_ok {f : σ → Option (σ ⊕ ρ)} {Q : ρ → Prop} (I : σ → Prop) (μ : σ → Nat)
    (step : ∀ s, I s → Ok (f s) fun x => match x with | .inl s' => I s' ∧ μ s' < μ s | .inr r => Q r) {s : σ} (h : I s) : Ok (loopO f s) Q := by
  generalize hn : μ s = n
  induction n using Nat.strongRecOn generalizing s with
  | _ n ih =>
    obtain ⟨x, h1, h2⟩ := step s h
    cases x with
    | inl s' =>
      obtain ⟨h3, h4⟩ := h2
      obtain ⟨r, h5, h6⟩ := ih (μ s') (by omega) h3 rfl
      refine ⟨r, ?_, h6⟩
      rw [loopO_eq, h1]
      exact h5
    | inr r =>
      refine ⟨r, ?_, h2⟩
      rw [loopO_eq, h1]
      rfl

theorem at_lt {l : List α} {n : Int} (h : 0 ≤ n) (h2 : n < l.length) : at? l n = Option.some (l[n.toNat]'(by omega)) := by
  unfold at?
  rw [if_pos h, List.getElem?_eq_getElem]
theorem at_nat {l : List α} {n : Nat} (h : n < l.length) : at? l (n : Int) = Option.some l[n] := by
  rw [at_lt (by omega) (by omega)]
  simp
theorem at_ok {l : List α} {n : Int} (h : 0 ≤ n) (h2 : n < l.length) : Ok (at? l n) (fun y => l[n.toNat]? = Option.some y) := by
  refine ⟨_, at_lt h h2, ?_⟩
  rw [List.getElem?_eq_getElem]
theorem at_mem {l : List α} {n : Int} (h : 0 ≤ n) (h2 : n < l.length) : Ok (at? l n) (fun y => y ∈ l) := by
  refine (at_ok h h2).mono fun y hy => List.mem_of_getElem? hy
end

/-! ### Integers of 64 bits -/
def I64 (n : Int) : Prop := -9223372036854775808 ≤ n ∧ n ≤ 9223372036854775807
theorem wrap64 {n : Int} (h : -9223372036854775808 ≤ n) (h2 : n ≤ 9223372036854775807) : IntKind.wrap .i64 n = n := by
  unfold IntKind.wrap
  simp [IntKind.min, IntKind.max, IntKind.bits, IntKind.signed]
  omega
theorem tmod_nonneg {a b : Int} (h : 0 ≤ a) : 0 ≤ a.tmod b := Int.tmod_nonneg b h
theorem tmod_lt' {a b : Int} (h : 0 < b) : a.tmod b < b := Int.tmod_lt_of_pos a h
theorem lim_eq : LIM = 137438953472 := by decide
theorem ble_lim {n : Nat} (h : n ≤ 137438953472) : Nat.ble n LIM = true := by rw [Nat.ble_eq, lim_eq]; exact h
end Go.Eng

/-
Loops over the elements of a list; keys.
-/
namespace Go.Eng
open Go
set_option linter.unusedVariables false
set_option linter.unusedSimpArgs false

/-- The first answer of the elements from number k on. -/
def scan {α ρ : Type} (g : Nat → α → Option ρ) : Nat → List α → Option ρ
  | _, [] => none
  | k, x :: xs => match g k x with
    | some r => some r
    | none => scan g (k + 1) xs

theorem drop_get {α : Type} {l : List α} {i : Nat} (h : i < l.length) : l.drop i = l[i] :: l.drop (i + 1) := List.drop_eq_getElem_cons h

/-- A loop over a list that ends at the first element with an answer. -/
theorem range_loop {α ρ : Type} {l : List α} {f : Int → Option (Int ⊕ ρ)} (g : Nat → α → Option ρ) (done : ρ) (hl : (l.length : Int) ≤ 9223372036854775807)
    (hf : ∀ (i : Nat) (h : i < l.length), f i = some (match g i l[i] with | none => .inl (IntKind.wrap .i64 (i + 1)) | some r => .inr r)) (hd : f l.length = some (.inr done)) :
    loopO f 0 = some ((scan g 0 l).getD done) := by
  have key : ∀ (n i : Nat), l.length - i = n → i ≤ l.length → loopO f i = some ((scan g i (l.drop i)).getD done) := by
    intro n
    induction n with
    | zero =>
      intro i h1 h2
      have : i = l.length := by omega
      subst this
      rw [loopO_eq, hd, List.drop_length]
      rfl
    | succ n ih =>
      intro i h1 h2
      have hi : i < l.length := by omega
      rw [loopO_eq, hf i hi, drop_get hi]
      simp only [scan]
      cases hg : g i l[i] with
      | some r => rfl
      | none =>
        simp only [Option.bind_some]
        rw [wrap64 (by omega) (by omega)]
        exact ih (i + 1) (by omega) (by omega)
  exact key l.length 0 (by omega) (by omega)

/-! ### Keys -/
def keyC (c : UInt8) : Bool := (97 ≤ c.toNat && c.toNat ≤ 122) || (48 ≤ c.toNat && c.toNat ≤ 57) || c.toNat == 45 || c.toNat == 95
def keyB (s : List UInt8) : Bool := match s with
  | [] => false
  | c :: l => decide (l.length < 40) && (97 ≤ c.toNat && c.toNat ≤ 122) && (c :: l).all keyC

theorem u8_lt (c : UInt8) : c.toNat < 256 := c.toNat_lt

theorem u8_all {p : UInt8 → Bool} (h : ((List.range 256).all fun n => p (UInt8.ofNat n)) = true) (c : UInt8) : p c = true := by
  have := List.all_eq_true.1 h c.toNat (List.mem_range.2 (u8_lt c))
  simpa using this
theorem Key_x3 (c : UInt8) : base_Key_x3 c = some (!keyC c) := by
  have := u8_all (p := fun c => decide (base_Key_x3 c = some (!keyC c))) (by decide +kernel) c
  simpa using this
theorem Key_x2 (s : List UInt8) (hs : (s.length : Int) ≤ 9223372036854775807) : loopO (base_Key_x2 s) 0 = some (cond (s.all keyC) (.inl ()) (.inr ())) := by
  rw [range_loop (l := s) (fun _ c => cond (keyC c) none (some (.inr ()))) (.inl ()) hs]
  · congr 1
    generalize 0 = k
    induction s generalizing k with
    | nil => rfl
    | cons c s ih =>
      simp only [scan, List.all_cons]
      cases keyC c with
      | true => simp only [cond_true, Bool.true_and]; exact ih (by simp at hs; omega) (k + 1)
      | false => rfl
  · intro i hi
    unfold base_Key_x2
    rw [at_nat hi]
    have : ((i : Int) < s.length) := by omega
    simp only [this, decide_true, cond_true, Option.bind_some, Key_x3]
    cases keyC s[i] <;> rfl
  · unfold base_Key_x2
    simp
theorem Key_eq (s : List UInt8) (hs : (s.length : Int) ≤ 9223372036854775807) : base_Key s = some (keyB s) := by
  unfold base_Key base_Key_x1
  cases s with
  | nil => simp [keyB]
  | cons c l =>
    rw [Key_x2 _ hs]
    have h0 : at? (c :: l) 0 = some c := rfl
    simp only [reduceCtorEq, decide_false, cond_false, h0, Option.bind_some]
    unfold keyB
    have h40 : ((40 : Int) < ((c :: l).length : Int)) ↔ ¬ l.length < 40 := by simp; omega
    by_cases h1 : l.length < 40
    · have h1' : ¬ ((40 : Int) < ((c :: l).length : Int)) := by rw [h40]; simpa using h1
      simp only [h1', decide_false, cond_false, h1, decide_true, Bool.true_and]
      by_cases h2 : (c.toNat : Int) < 97
      · have : ¬ 97 ≤ c.toNat := by omega
        simp [h2, this]
      · by_cases h3 : (122 : Int) < c.toNat
        · have : ¬ c.toNat ≤ 122 := by omega
          simp [h2, h3, this]
        · have g1 : 97 ≤ c.toNat := by omega
          have g2 : c.toNat ≤ 122 := by omega
          simp only [h2, decide_false, cond_false, h3, Option.bind_some, g1, g2, decide_true, Bool.and_self, Bool.true_and]
          cases (c :: l).all keyC <;> rfl
    · have h1' : ((40 : Int) < ((c :: l).length : Int)) := by rw [h40]; exact h1
      simp only [h1', h1, decide_true, decide_false, cond_true, Option.bind_some, Bool.false_and]
end Go.Eng

/-
Sorting of few elements, and what is left of equal ones, for all kinds of elements.
-/
namespace Go.Eng
open Go
set_option linter.unusedVariables false
set_option linter.unusedSimpArgs false

/-- Two loops side by side, over the same states. -/
theorem loop_two {σ ρ : Type} {f g : σ → Option (σ ⊕ ρ)} (I : σ → Prop) (μ : σ → Nat) (Q : ρ → Prop)
    (step : ∀ s, I s → (∃ s', f s = some (.inl s') ∧ g s = some (.inl s') ∧ I s' ∧ μ s' < μ s) ∨ (∃ r, f s = some (.inr r) ∧ g s = some (.inr r) ∧ Q r)) {s : σ} (h : I s) :
    ∃ r, loopO f s = some r ∧ loopO g s = some r ∧ Q r := by
  generalize hn : μ s = n
  induction n using Nat.strongRecOn generalizing s with
  | _ n ih =>
    rcases step s h with ⟨s', h1, h2, h3, h4⟩ | ⟨r, h1, h2, h3⟩
    · obtain ⟨r, g1, g2, g3⟩ := ih (μ s') (by omega) h3 rfl
      refine ⟨r, ?_, ?_, g3⟩
      · rw [loopO_eq, h1]; exact g1
      · rw [loopO_eq, h2]; exact g2
    · refine ⟨r, ?_, ?_, h3⟩
      · rw [loopO_eq, h1]; rfl
      · rw [loopO_eq, h2]; rfl

theorem loop_in {σ ρ : Type} {f : σ → Option (σ ⊕ ρ)} {s s' : σ} (h : f s = some (.inl s')) : loopO f s = loopO f s' := by rw [loopO_eq, h]; rfl
theorem loop_out {σ ρ : Type} {f : σ → Option (σ ⊕ ρ)} {s : σ} {r : ρ} (h : f s = some (.inr r)) : loopO f s = some r := by rw [loopO_eq, h]; rfl

section
variable {α : Type}
/-! ### Insertion, as the code has it -/
def All (p : α → Prop) (l : List α) : Prop := ∀ x ∈ l, p x
theorem All.nil {p : α → Prop} : All p [] := fun _ h => nomatch h
theorem All.set {p : α → Prop} {l : List α} (h : All p l) {i : Nat} {x : α} (hx : p x) : All p (l.set i x) := by
  intro y hy
  rcases List.mem_or_eq_of_mem_set hy with hy | rfl
  · exact h y hy
  · exact hx
theorem All.at {p : α → Prop} {l : List α} (h : All p l) {i : Nat} (hi : i < l.length) : p l[i] := h _ (List.getElem_mem hi)

/-! ### Equal ones, as the code has it -/
/-- A loop over all elements of a list that only gathers. -/
theorem gather_loop {τ σ ρ : Type} {l : List α} {f : τ → Option (τ ⊕ ρ)} (e : σ → Int → τ) (h : σ → α → σ) (fin : σ → ρ) (I : Nat → σ → Prop) {s0 : σ} (hl : (l.length : Int) ≤ 9223372036854775807)
    (hf : ∀ (i : Nat) (hi : i < l.length) (s : σ), I i s → f (e s i) = some (.inl (e (h s l[i]) (IntKind.wrap .i64 (i + 1)))) ∧ I (i + 1) (h s l[i])) (hd : ∀ s, I l.length s → f (e s l.length) = some (.inr (fin s))) (h0 : I 0 s0) :
    loopO f (e s0 0) = some (fin (l.foldl h s0)) ∧ I l.length (l.foldl h s0) := by
  have key : ∀ (n i : Nat) (s : σ), l.length - i = n → i ≤ l.length → I i s → loopO f (e s i) = some (fin ((l.drop i).foldl h s)) ∧ I l.length ((l.drop i).foldl h s) := by
    intro n
    induction n with
    | zero =>
      intro i s h1 h2 h3
      have : i = l.length := by omega
      subst this
      rw [List.drop_length]
      refine ⟨?_, h3⟩
      rw [loopO_eq, hd s h3]
      rfl
    | succ n ih =>
      intro i s h1 h2 h3
      have hi : i < l.length := by omega
      obtain ⟨g1, g2⟩ := hf i hi s h3
      obtain ⟨f1, f2⟩ := ih (i + 1) (h s l[i]) (by omega) (by omega) g2
      rw [drop_get hi, List.foldl_cons]
      refine ⟨?_, f2⟩
      rw [loopO_eq, g1]
      simp only [Option.bind_some]
      rw [wrap64 (by omega) (by omega)]
      exact f1
  have := key l.length 0 s0 (by omega) (by omega) h0
  simpa using this
end
end Go.Eng

/-
Small checks; the order of measurements.
-/
namespace Go.Eng
open Go
set_option linter.unusedVariables false
set_option linter.unusedSimpArgs false

theorem Out_eq (n low high : Int) : base_Out n low high = some (decide (n < low) || decide (high < n)) := by
  unfold base_Out base_Out_x1
  by_cases h : n < low <;> simp [h]
theorem Moment_eq (n : Int) : base_Moment n = some (decide (0 ≤ n) && decide (n ≤ 345686399999)) := by
  unfold base_Moment
  rw [Out_eq]
  simp only [Option.bind_some]
  congr 1
  rw [Bool.eq_iff_iff]
  simp
theorem in_eq (n low high : Int) : fleetref2_in n low high = some (decide (low ≤ n) && decide (n ≤ high)) := by
  unfold fleetref2_in fleetref2_in_x1
  by_cases h : low ≤ n <;> simp [h]
/-! ### Orders -/
def cmpI (a b : Int) : Int := if a < b then -1 else if b < a then 1 else 0
def or0 (a b : Int) : Int := if a = 0 then b else a
theorem cmpB_self : ∀ a : List UInt8, Lib.compareBytes a a = 0
  | [] => rfl
  | x :: a => by
    unfold Lib.compareBytes
    simp [UInt8.lt_irrefl, cmpB_self a]
end Go.Eng

/-
Checks of measurements and series, both ways.
-/
namespace Go.Eng
open Go
set_option linter.unusedVariables false
set_option linter.unusedSimpArgs false

theorem cmpInt_eq (a b : Int) : cmp_Compare_int a b = some (cmpI a b) := by
  unfold cmp_Compare_int cmp_isNaN_int cmpI
  by_cases h1 : a < b
  · simp [h1]
  · by_cases h2 : b < a <;> simp [h1, h2]
theorem Or_eq (l : List Int) (hl : (l.length : Int) ≤ 9223372036854775807) : cmp_Or_int l = some ((l.find? fun x => !decide (x = 0)).getD 0) := by
  unfold cmp_Or_int
  rw [range_loop (l := l) (fun _ x => cond (!decide (x = 0)) (some (.inr x)) none) (.inl ()) hl]
  · simp only [Option.bind_some]
    generalize 0 = k
    induction l generalizing k with
    | nil => rfl
    | cons c s ih =>
      simp only [scan, List.find?_cons]
      by_cases hc : c = 0
      · simp only [hc, decide_true, Bool.not_true, cond_false]
        exact ih (by simp at hl; omega) (k + 1)
      · simp [hc]
  · intro i hi
    unfold cmp_Or_int_x1
    rw [at_nat hi]
    have : ((i : Int) < l.length) := by omega
    simp only [this, decide_true, cond_true, Option.bind_some]
    cases (!decide (l[i] = 0)) <;> rfl
  · unfold cmp_Or_int_x1
    simp
theorem sign_eq (n : Int) : fleetref2_sign n = some (cmpI n 0) := by
  unfold fleetref2_sign cmpI
  by_cases h1 : n < 0
  · simp [h1]
  · by_cases h2 : 0 < n <;> simp [h1, h2]
/-! ### Check -/
end Go.Eng

/-
Fixes: checks, orders, merging, those of a device.
-/
namespace Go.Eng
open Go
set_option linter.unusedVariables false
set_option linter.unusedSimpArgs false

def fOrd (a b : api_Fix) : Int := or0 (Lib.compareBytes a.Device b.Device) (cmpI a.At b.At)
theorem or2_eq (a b : Int) : cmp_Or_int [a, b] = some (or0 a b) := by
  rw [Or_eq _ (by simp)]
  unfold or0
  by_cases ha : a = 0 <;> by_cases hb : b = 0 <;> simp [ha, hb]
theorem fbyDevice_eq (a b : api_Fix) : place_byDevice a b = some (fOrd a b) := by
  unfold place_byDevice strings_Compare bytealg_CompareString
  simp only [Option.bind_some, cmpInt_eq, or2_eq]
  rfl
/-! ### The library's functions are those for all kinds -/
/-! ### Checks -/
theorem isSpot_eq (s : api_Spot) : place_isSpot s = some ((decide (-10000 ≤ s.X) && decide (s.X ≤ 10000)) && (decide (-10000 ≤ s.Y) && decide (s.Y ≤ 10000))) := by
  unfold place_isSpot place_isSpot_x1
  simp only [Out_eq, Option.bind_some]
  by_cases h1 : s.X < -10000 <;> by_cases h2 : 10000 < s.X <;> by_cases h3 : s.Y < -10000 <;> by_cases h4 : 10000 < s.Y <;> simp [h1, h2, h3, h4] <;> omega
theorem SpotFault_eq (s : api_Spot) : fleetref2_SpotFault s = some (cond ((decide (-10000 ≤ s.X) && decide (s.X ≤ 10000)) && (decide (-10000 ≤ s.Y) && decide (s.Y ≤ 10000))) 0 1) := by
  unfold fleetref2_SpotFault fleetref2_SpotFault_x1
  simp only [in_eq, Option.bind_some]
  cases (decide (-10000 ≤ s.X) && decide (s.X ≤ 10000)) <;> cases (decide (-10000 ≤ s.Y) && decide (s.Y ≤ 10000)) <;> rfl
/-! ### Merging -/
/-! ### Those of a device -/
end Go.Eng

/-
Plane geometry in whole numbers: parity and turns of a fence around a spot.
-/
namespace Go.Eng.Geo
/-- twice the area of the triangle a b s -/
def sd (ax ay bx b_y sx sy : Int) : Int := (bx - ax) * (sy - ay) - (b_y - ay) * (sx - ax)
def onb (ax ay bx b_y sx sy : Int) : Prop := sd ax ay bx b_y sx sy = 0 ∧ min ax bx ≤ sx ∧ sx ≤ max ax bx ∧ min ay b_y ≤ sy ∧ sy ≤ max ay b_y
def meetsP (ax ay bx b_y cx cy dx dy : Int) : Prop :=
  onb ax ay bx b_y cx cy ∨ onb ax ay bx b_y dx dy ∨ onb cx cy dx dy ax ay ∨ onb cx cy dx dy bx b_y ∨
  (sd ax ay bx b_y cx cy * sd ax ay bx b_y dx dy < 0 ∧ sd cx cy dx dy ax ay * sd cx cy dx dy bx b_y < 0)

theorem pp {a b : Int} (h1 : 0 < a) (h2 : 0 < b) : 0 < a * b := Int.mul_pos h1 h2
theorem pn {a b : Int} (h1 : 0 < a) (h2 : b < 0) : a * b < 0 := Int.mul_neg_of_pos_of_neg h1 h2
theorem np {a b : Int} (h1 : a < 0) (h2 : 0 < b) : a * b < 0 := Int.mul_neg_of_neg_of_pos h1 h2
theorem nn {a b : Int} (h1 : a < 0) (h2 : b < 0) : 0 < a * b := Int.mul_pos_of_neg_of_neg h1 h2
theorem PP {a b : Int} (h1 : 0 ≤ a) (h2 : 0 ≤ b) : 0 ≤ a * b := Int.mul_nonneg h1 h2
theorem PN {a b : Int} (h1 : 0 ≤ a) (h2 : b ≤ 0) : a * b ≤ 0 := Int.mul_nonpos_of_nonneg_of_nonpos h1 h2
theorem NP {a b : Int} (h1 : a ≤ 0) (h2 : 0 ≤ b) : a * b ≤ 0 := Int.mul_nonpos_of_nonpos_of_nonneg h1 h2
theorem NN {a b : Int} (h1 : a ≤ 0) (h2 : b ≤ 0) : 0 ≤ a * b := Int.mul_nonneg_of_nonpos_of_nonpos h1 h2

/-- which of two ways is told first does not matter -/
theorem meetsP_comm {ax ay bx b_y sx sy tx ty : Int} (h : meetsP ax ay bx b_y sx sy tx ty) : meetsP sx sy tx ty ax ay bx b_y := by
  rcases h with h | h | h | h | h
  · exact .inr (.inr (.inl h))
  · exact .inr (.inr (.inr (.inl h)))
  · exact .inl h
  · exact .inr (.inl h)
  · exact .inr (.inr (.inr (.inr ⟨h.2, h.1⟩)))

/-- the part of the plane to the right of the way that rises from s to t -/
def reg (sx sy tx ty cx cy : Int) : Prop := sy < cy ∧ cy ≤ ty ∧ sd sx sy tx ty cx cy < 0
/-- the edge from a to b (a not the higher one) goes over the height of s, to its right -/
def hitU (ax ay bx b_y sx sy : Int) : Prop := ay ≤ sy ∧ sy < b_y ∧ 0 < sd ax ay bx b_y sx sy

end Go.Eng.Geo

/-
Plane geometry in whole numbers: parity and turns of a fence around a spot.
-/
namespace Go.Eng.Geo
end Go.Eng.Geo

/-
Plane geometry in whole numbers: parity and turns of a fence around a spot.
-/
namespace Go.Eng.Geo
/-- is the number of members for which f says true odd -/
def par {α} (f : α → Bool) : List α → Bool
  | [] => false
  | a :: l => f a ^^ par f l
theorem par_map {α β} (f : β → Bool) (g : α → β) (l : List α) : par f (l.map g) = par (fun x => f (g x)) l := by
  induction l with
  | nil => rfl
  | cons a l ih => simp [par, ih]
/-- the edges of corners from one to the next, and to z at the end -/
def path {α} (z : α) : List α → List (α × α)
  | [] => []
  | [a] => [(a, z)]
  | a :: b :: l => (a, b) :: path z (b :: l)
def ring {α} : List α → List (α × α)
  | [] => []
  | a :: l => path a (a :: l)
theorem path_map {α β} (g : α → β) (z : α) (l : List α) : path (g z) (l.map g) = (path z l).map fun e => (g e.1, g e.2) := by
  match l with
  | [] => rfl
  | [a] => rfl
  | a :: b :: l => simp only [List.map, path]; rw [← path_map g z (b :: l)]; rfl
theorem ring_map {α β} (g : α → β) (l : List α) : ring (l.map g) = (ring l).map fun e => (g e.1, g e.2) := by
  cases l with
  | nil => rfl
  | cons a l => exact path_map g a (a :: l)

abbrev Pt := Int × Int
instance (ax ay bx b_y sx sy : Int) : Decidable (hitU ax ay bx b_y sx sy) := by unfold hitU; infer_instance
instance (sx sy tx ty cx cy : Int) : Decidable (reg sx sy tx ty cx cy) := by unfold reg; infer_instance
def lo (e : Pt × Pt) : Pt := if e.1.2 ≤ e.2.2 then e.1 else e.2
def hi (e : Pt × Pt) : Pt := if e.1.2 ≤ e.2.2 then e.2 else e.1
/-- the edge goes over the height of s, to its right -/
def hitE (s : Pt) (e : Pt × Pt) : Bool := decide (hitU (lo e).1 (lo e).2 (hi e).1 (hi e).2 s.1 s.2)
def meetE (e f : Pt × Pt) : Prop := meetsP e.1.1 e.1.2 e.2.1 e.2.2 f.1.1 f.1.2 f.2.1 f.2.2
def onE (e : Pt × Pt) (s : Pt) : Prop := onb e.1.1 e.1.2 e.2.1 e.2.2 s.1 s.2
theorem meetE_comm {e f : Pt × Pt} (h : meetE e f) : meetE f e := meetsP_comm h
def inn (l : List Pt) (s : Pt) : Bool := par (hitE s) (ring l)

end Go.Eng.Geo

/-
Plane geometry in whole numbers: parity and turns of a fence around a spot.
-/
namespace Go.Eng.Geo
/-- the spot of the edge f at a height, times the edge's height -/
def at_ (f : Pt × Pt) (y : Int) : Pt := (((hi f).2 - (lo f).2) * (lo f).1 + ((hi f).1 - (lo f).1) * (y - (lo f).2), ((hi f).2 - (lo f).2) * y)

end Go.Eng.Geo

/-
Plane geometry in whole numbers: parity and turns of a fence around a spot.
-/
namespace Go.Eng.Geo
theorem snoc {α} (v : List α) : v = [] ∨ ∃ v' w, v = v' ++ [w] := by
  rcases List.eq_nil_or_concat v with h | ⟨v', w, h⟩
  · exact .inl h
  · exact .inr ⟨v', w, by rw [h, List.concat_eq_append]⟩
/-- corners of a fence: edges have nothing in common but the corner between two that are next to each other -/
structure Simple (l : List Pt) : Prop where
  nd : l.Nodup
  sep : ∀ e ∈ ring l, ∀ f ∈ ring l, e ≠ f → e.2 ≠ f.1 → f.2 ≠ e.1 → ¬ meetE e f
  adj : ∀ e ∈ ring l, ∀ f ∈ ring l, e ≠ f → e.2 = f.1 → ¬ onE e f.2 ∧ ¬ onE f e.1

theorem sq_nn (x : Int) : 0 ≤ x * x := by
  by_cases h : 0 ≤ x
  · exact PP h h
  · exact NN (by omega) (by omega)

end Go.Eng.Geo

/-
Plane geometry in whole numbers: parity and turns of a fence around a spot.
-/
namespace Go.Eng.Geo
theorem hit_up {a b p : Pt} (h : a.2 ≤ b.2) : hitE p (a, b) = decide (hitU a.1 a.2 b.1 b.2 p.1 p.2) := by
  have e1 : lo (a, b) = a := if_pos h
  have e2 : hi (a, b) = b := if_pos h
  unfold hitE; rw [e1, e2]
theorem hit_dn {a b p : Pt} (h : b.2 < a.2) : hitE p (a, b) = decide (hitU b.1 b.2 a.1 a.2 p.1 p.2) := by
  have e1 : lo (a, b) = b := if_neg (by show ¬ a.2 ≤ b.2; omega)
  have e2 : hi (a, b) = a := if_neg (by show ¬ a.2 ≤ b.2; omega)
  unfold hitE; rw [e1, e2]
end Go.Eng.Geo

/-
Plane geometry in whole numbers: parity and turns of a fence around a spot.
-/
namespace Go.Eng.Geo
theorem ring_fst {α} (l : List α) : (ring l).map Prod.fst = l := by
  have : ∀ (z : α) (l : List α), (path z l).map Prod.fst = l := by
    intro z l
    induction l with
    | nil => rfl
    | cons a l ih => cases l with
      | nil => rfl
      | cons b l => simp only [path, List.map_cons]; rw [ih]
  cases l with
  | nil => rfl
  | cons a l => exact this a (a :: l)
theorem nodup_of_map {α β} {g : α → β} {l : List α} (h : (l.map g).Nodup) : l.Nodup := by
  induction l with
  | nil => simp
  | cons a l ih =>
    simp only [List.map_cons, List.nodup_cons] at h ⊢
    exact ⟨fun hh => h.1 (List.mem_map_of_mem hh), ih h.2⟩
theorem nodup_map {α β} {g : α → β} {l : List α} (h : l.Nodup) (hg : ∀ e ∈ l, ∀ f ∈ l, e ≠ f → g e ≠ g f) : (l.map g).Nodup := by
  induction l with
  | nil => simp
  | cons a l ih =>
    simp only [List.map_cons, List.nodup_cons] at h ⊢
    refine ⟨fun hh => ?_, ih h.2 fun e he f hf => hg e (by simp [he]) f (by simp [hf])⟩
    obtain ⟨f, hf, e⟩ := List.mem_map.1 hh
    exact hg a (by simp) f (by simp [hf]) (fun e' => h.1 (e' ▸ hf)) e.symm

end Go.Eng.Geo

/-
Plane geometry in whole numbers: parity and turns of a fence around a spot.
-/
namespace Go.Eng.Geo
end Go.Eng.Geo

/-
Fences: what the code asks of two ways and a spot is what plane geometry says.
-/
namespace Go.Eng
open Go Geo
set_option linter.unusedVariables false
set_option linter.unusedSimpArgs false

def pt (s : api_Spot) : Pt := (s.X, s.Y)
def pte (e : api_Spot × api_Spot) : Pt × Pt := (pt e.1, pt e.2)
/-- a right spot -/
def InB (s : api_Spot) : Prop := (-10000 ≤ s.X ∧ s.X ≤ 10000) ∧ (-10000 ≤ s.Y ∧ s.Y ≤ 10000)
theorem pt_inj {a b : api_Spot} (h : pt a = pt b) : a = b := by
  cases a; cases b
  simp only [pt, Prod.mk.injEq] at h
  rw [h.1, h.2]
theorem spot_eq {a b : api_Spot} : (decide (a.X = b.X) && (decide (a.Y = b.Y) && true)) = true ↔ a = b := by
  cases a; cases b
  simp
theorem mul_bd {x y m k : Int} (hx : -m ≤ x ∧ x ≤ m) (hy : -k ≤ y ∧ y ≤ k) : -(m * k) ≤ x * y ∧ x * y ≤ m * k := by
  have h1 : x.natAbs ≤ m.natAbs := by omega
  have h2 : y.natAbs ≤ k.natAbs := by omega
  have h3 := Nat.mul_le_mul h1 h2
  rw [← Int.natAbs_mul, ← Int.natAbs_mul] at h3
  have h4 : 0 ≤ m * k := PP (by omega) (by omega)
  omega
theorem wmul {x y : Int} (hx : -20000 ≤ x ∧ x ≤ 20000) (hy : -20000 ≤ y ∧ y ≤ 20000) : IntKind.wrap .i64 (x * y) = x * y ∧ -400000000 ≤ x * y ∧ x * y ≤ 400000000 := by
  have := mul_bd hx hy
  exact ⟨wrap64 (by omega) (by omega), by omega, by omega⟩
theorem side_wrap {a b s : api_Spot} (ha : InB a) (hb : InB b) (hs : InB s) :
    (IntKind.wrap .i64 ((IntKind.wrap .i64 ((IntKind.wrap .i64 (b.X - a.X)) * (IntKind.wrap .i64 (s.Y - a.Y)))) - (IntKind.wrap .i64 ((IntKind.wrap .i64 (b.Y - a.Y)) * (IntKind.wrap .i64 (s.X - a.X)))))) = sd a.X a.Y b.X b.Y s.X s.Y := by
  obtain ⟨a1, a2⟩ := ha; obtain ⟨b1, b2⟩ := hb; obtain ⟨s1, s2⟩ := hs
  rw [wrap64 (n := b.X - a.X) (by omega) (by omega), wrap64 (n := s.Y - a.Y) (by omega) (by omega), wrap64 (n := b.Y - a.Y) (by omega) (by omega), wrap64 (n := s.X - a.X) (by omega) (by omega)]
  have m1 := wmul (x := b.X - a.X) (y := s.Y - a.Y) (by omega) (by omega)
  have m2 := wmul (x := b.Y - a.Y) (y := s.X - a.X) (by omega) (by omega)
  rw [m1.1, m2.1, wrap64 (by omega) (by omega)]
  rfl
theorem sd_bd {a b s : api_Spot} (ha : InB a) (hb : InB b) (hs : InB s) : -800000000 ≤ sd a.X a.Y b.X b.Y s.X s.Y ∧ sd a.X a.Y b.X b.Y s.X s.Y ≤ 800000000 := by
  obtain ⟨a1, a2⟩ := ha; obtain ⟨b1, b2⟩ := hb; obtain ⟨s1, s2⟩ := hs
  have m1 := wmul (x := b.X - a.X) (y := s.Y - a.Y) (by omega) (by omega)
  have m2 := wmul (x := b.Y - a.Y) (y := s.X - a.X) (by omega) (by omega)
  unfold sd
  omega
theorem imin_eq (a b : Int) : imin a b = min a b := by unfold imin; split <;> omega
theorem imax_eq (a b : Int) : imax a b = max a b := by unfold imax; split <;> omega
instance (ax ay bx b_y sx sy : Int) : Decidable (onb ax ay bx b_y sx sy) := by unfold onb; infer_instance
instance (ax ay bx b_y cx cy dx dy : Int) : Decidable (meetsP ax ay bx b_y cx cy dx dy) := by unfold meetsP; infer_instance
def onB (e : api_Spot × api_Spot) (s : api_Spot) : Bool := decide (onb e.1.X e.1.Y e.2.X e.2.Y s.X s.Y)
def meB (e f : api_Spot × api_Spot) : Bool := decide (meetsP e.1.X e.1.Y e.2.X e.2.Y f.1.X f.1.Y f.2.X f.2.Y)
theorem onB_iff {e : api_Spot × api_Spot} {s : api_Spot} : onB e s = true ↔ onE (pte e) (pt s) := by unfold onB; rw [decide_eq_true_iff]; exact Iff.rfl
theorem meB_iff {e f : api_Spot × api_Spot} : meB e f = true ↔ meetE (pte e) (pte f) := by unfold meB; rw [decide_eq_true_iff]; exact Iff.rfl

theorem on_eq {a b s : api_Spot} (ha : InB a) (hb : InB b) (hs : InB s) : place_on a b s = some (onB (a, b) s) := by
  unfold place_on place_on_x1 place_side onB onb
  simp only [Option.bind_some, side_wrap ha hb hs, imin_eq, imax_eq]
  by_cases h0 : sd a.X a.Y b.X b.Y s.X s.Y = 0 <;> by_cases h1 : min a.X b.X ≤ s.X <;> by_cases h2 : s.X ≤ max a.X b.X <;> by_cases h3 : min a.Y b.Y ≤ s.Y <;>
    by_cases h4 : s.Y ≤ max a.Y b.Y <;> simp only [h0, h1, h2, h3, h4, decide_true, decide_false, cond_true, cond_false, Option.bind_some, and_true, and_false, and_self, true_and, false_and]

theorem cmpI_mul {x y : Int} : decide (IntKind.wrap .i64 (cmpI x 0 * cmpI y 0) < 0) = decide (x * y < 0) := by
  rw [Bool.eq_iff_iff, decide_eq_true_iff, decide_eq_true_iff]
  unfold cmpI
  by_cases h1 : x < 0 <;> by_cases h2 : 0 < x <;> by_cases h3 : y < 0 <;> by_cases h4 : 0 < y <;> (try omega)
  · have := nn h1 h3; simp only [h1, h3, if_true]; constructor <;> intro h <;> first | exact absurd h (by decide) | omega
  · have := np h1 h4; simp only [h1, h3, h4, if_true, if_false]; constructor <;> intro _ <;> first | decide | omega
  · have e : y = 0 := by omega
    subst e; simp only [h1, if_true, Int.mul_zero]; constructor <;> intro h <;> first | exact absurd h (by decide) | omega
  · have := pn h2 h3; simp only [h1, h2, h3, if_true, if_false]; constructor <;> intro _ <;> first | decide | omega
  · have := pp h2 h4; simp only [h1, h2, h3, h4, if_true, if_false]; constructor <;> intro h <;> first | exact absurd h (by decide) | omega
  · have e : y = 0 := by omega
    subst e; simp only [h1, h2, if_true, if_false, Int.mul_zero]; constructor <;> intro h <;> first | exact absurd h (by decide) | omega
  all_goals
    have e : x = 0 := by omega
    subst e
    simp only [Int.zero_mul, Int.lt_irrefl, if_false]
    constructor <;> intro h <;> first | (exact absurd h (by decide)) | omega
theorem or4 (a b c d : Bool) : (cond a (some true) (cond b (some true) (cond c (some true) (some d)))) = some (a || b || c || d) := by cases a <;> cases b <;> cases c <;> rfl

theorem meets_eq {a b c d : api_Spot} (ha : InB a) (hb : InB b) (hc : InB c) (hd : InB d) : place_meets a b c d = some (meB (a, b) (c, d)) := by
  unfold place_meets place_meets_x1 place_meets_x2 place_side
  simp only [on_eq ha hb hc, on_eq ha hb hd, on_eq hc hd ha, on_eq hc hd hb, Option.bind_some, or4, side_wrap ha hb hc, side_wrap ha hb hd, side_wrap hc hd ha, side_wrap hc hd hb, cmpInt_eq, cmpI_mul]
  unfold meB meetsP onB
  simp only
  by_cases h1 : onb a.X a.Y b.X b.Y c.X c.Y <;> by_cases h2 : onb a.X a.Y b.X b.Y d.X d.Y <;> by_cases h3 : onb c.X c.Y d.X d.Y a.X a.Y <;> by_cases h4 : onb c.X c.Y d.X d.Y b.X b.Y <;>
    simp only [h1, h2, h3, h4, decide_true, decide_false, Bool.or_true, Bool.true_or, Bool.or_false, cond_true, cond_false, true_or, or_true, false_or]
  by_cases h5 : sd a.X a.Y b.X b.Y c.X c.Y * sd a.X a.Y b.X b.Y d.X d.Y < 0 <;> by_cases h6 : sd c.X c.Y d.X d.Y a.X a.Y * sd c.X c.Y d.X d.Y b.X b.Y < 0 <;>
    simp [h5, h6]

theorem rside_eq {a b s : api_Spot} (ha : InB a) (hb : InB b) (hs : InB s) : fleetref2_side a b s = some (cmpI (sd a.X a.Y b.X b.Y s.X s.Y) 0) := by
  unfold fleetref2_side fleetref2_minus fleetref2_cross
  simp only [Option.bind_some, side_wrap ha hb hs, sign_eq]
theorem dot_on {ax ay bx b_y sx sy : Int} : onb ax ay bx b_y sx sy ↔ (sd ax ay bx b_y sx sy = 0 ∧ (ax - sx) * (bx - sx) + (ay - sy) * (b_y - sy) ≤ 0) := by
  constructor
  · rintro ⟨h0, h1, h2, h3, h4⟩
    refine ⟨h0, ?_⟩
    have key : ∀ x y z : Int, min x y ≤ z → z ≤ max x y → (x - z) * (y - z) ≤ 0 := by
      intro x y z h1 h2
      by_cases e : x = z
      · rw [e, Int.sub_self, Int.zero_mul]; exact Int.le_refl _
      by_cases h : x ≤ z
      · exact NP (by omega) (by omega)
      · exact PN (by omega) (by omega)
    have p1 := key _ _ _ h1 h2
    have p2 := key _ _ _ h3 h4
    omega
  · rintro ⟨h0, h1⟩
    have e : ((ax - sx) * (bx - sx)) * ((ay - sy) * (b_y - sy)) = ((ax - sx) * (b_y - sy)) * ((ax - sx) * (b_y - sy)) := by
      have h2 : (ax - sx) * (b_y - sy) = (ay - sy) * (bx - sx) := by unfold sd at h0; grind
      have : ((ax - sx) * (b_y - sy)) * ((ax - sx) * (b_y - sy)) = ((ax - sx) * (b_y - sy)) * ((ay - sy) * (bx - sx)) := by rw [← h2]
      rw [this]; grind
    have e2 := sq_nn ((ax - sx) * (b_y - sy))
    have p1 : (ax - sx) * (bx - sx) ≤ 0 := by
      by_cases h : (ax - sx) * (bx - sx) ≤ 0
      · exact h
      · have := pn (show 0 < (ax - sx) * (bx - sx) by omega) (show (ay - sy) * (b_y - sy) < 0 by omega)
        omega
    have p2 : (ay - sy) * (b_y - sy) ≤ 0 := by
      by_cases h : (ay - sy) * (b_y - sy) ≤ 0
      · exact h
      · have := np (show (ax - sx) * (bx - sx) < 0 by omega) (show 0 < (ay - sy) * (b_y - sy) by omega)
        omega
    have key : ∀ x y z : Int, (x - z) * (y - z) ≤ 0 → min x y ≤ z ∧ z ≤ max x y := by
      intro x y z h
      by_cases h1 : z < x ∧ z < y
      · have := pp (show 0 < x - z by omega) (show 0 < y - z by omega); omega
      · by_cases h2 : x < z ∧ y < z
        · have := nn (show x - z < 0 by omega) (show y - z < 0 by omega); omega
        · omega
    have k1 := key _ _ _ p1
    have k2 := key _ _ _ p2
    exact ⟨h0, k1.1, k1.2, k2.1, k2.2⟩
theorem ron_eq {a b s : api_Spot} (ha : InB a) (hb : InB b) (hs : InB s) : fleetref2_onWay a b s = some (onB (a, b) s) := by
  unfold fleetref2_onWay fleetref2_onWay_x1 fleetref2_minus fleetref2_dot
  simp only [rside_eq ha hb hs, Option.bind_some]
  have h0 : decide (cmpI (sd a.X a.Y b.X b.Y s.X s.Y) 0 = 0) = decide (sd a.X a.Y b.X b.Y s.X s.Y = 0) := by
    rw [Bool.eq_iff_iff, decide_eq_true_iff, decide_eq_true_iff]; unfold cmpI; (repeat' split) <;> omega
  rw [h0]
  obtain ⟨a1, a2⟩ := ha; obtain ⟨b1, b2⟩ := hb; obtain ⟨s1, s2⟩ := hs
  rw [wrap64 (n := a.X - s.X) (by omega) (by omega), wrap64 (n := b.X - s.X) (by omega) (by omega), wrap64 (n := a.Y - s.Y) (by omega) (by omega), wrap64 (n := b.Y - s.Y) (by omega) (by omega)]
  have m1 := wmul (x := a.X - s.X) (y := b.X - s.X) (by omega) (by omega)
  have m2 := wmul (x := a.Y - s.Y) (y := b.Y - s.Y) (by omega) (by omega)
  rw [m1.1, m2.1, wrap64 (by omega) (by omega)]
  unfold onB
  simp only [dot_on]
  by_cases h1 : sd a.X a.Y b.X b.Y s.X s.Y = 0 <;> simp [h1]
theorem touches_eq {a b c d : api_Spot} (ha : InB a) (hb : InB b) (hc : InB c) (hd : InB d) : fleetref2_touches a b c d = some (meB (a, b) (c, d)) := by
  unfold fleetref2_touches fleetref2_touches_x1 fleetref2_touches_x2
  simp only [ron_eq ha hb hc, ron_eq ha hb hd, ron_eq hc hd ha, ron_eq hc hd hb, Option.bind_some, or4, rside_eq ha hb hc, rside_eq ha hb hd, rside_eq hc hd ha, rside_eq hc hd hb, cmpI_mul]
  unfold meB meetsP onB
  simp only
  by_cases h1 : onb a.X a.Y b.X b.Y c.X c.Y <;> by_cases h2 : onb a.X a.Y b.X b.Y d.X d.Y <;> by_cases h3 : onb c.X c.Y d.X d.Y a.X a.Y <;> by_cases h4 : onb c.X c.Y d.X d.Y b.X b.Y <;>
    simp only [h1, h2, h3, h4, decide_true, decide_false, Bool.or_true, Bool.true_or, Bool.or_false, cond_true, cond_false, true_or, or_true, false_or]
  by_cases h5 : sd a.X a.Y b.X b.Y c.X c.Y * sd a.X a.Y b.X b.Y d.X d.Y < 0 <;> by_cases h6 : sd c.X c.Y d.X d.Y a.X a.Y * sd c.X c.Y d.X d.Y b.X b.Y < 0 <;>
    simp [h5, h6]

/-! ### Edges by number -/
theorem path_len {α} (z : α) : ∀ l : List α, (path z l).length = l.length
  | [] => rfl
  | [_] => rfl
  | a :: b :: l => by simp only [path, List.length_cons]; rw [path_len z (b :: l)]; rfl
theorem ring_len {α} (l : List α) : (ring l).length = l.length := by
  cases l with
  | nil => rfl
  | cons a l => exact path_len a (a :: l)
theorem path_get {α} (z : α) : ∀ (l : List α) (i : Nat) (h : i < l.length), (path z l)[i]? = some (l[i], (l[i + 1]?).getD z)
  | [], i, h => by simp at h
  | [a], i, h => by
    have : i = 0 := by simp at h; exact h
    subst this; rfl
  | a :: b :: l, 0, h => rfl
  | a :: b :: l, i + 1, h => by
    simp only [path, List.getElem?_cons_succ]
    rw [path_get z (b :: l) i (by simpa using h)]
    rfl
theorem ring_get {α} {l : List α} {i : Nat} (h : i < l.length) : (ring l)[i]'(by rw [ring_len]; exact h) = (l[i], l[(i + 1) % l.length]'(Nat.mod_lt _ (by omega))) := by
  have key : (ring l)[i]? = some (l[i], l[(i + 1) % l.length]'(Nat.mod_lt _ (by omega))) := by
    cases l with
    | nil => simp at h
    | cons a l =>
      show (path a (a :: l))[i]? = _
      rw [path_get a (a :: l) i h]
      congr 2
      by_cases hh : i + 1 < (a :: l).length
      · rw [List.getElem?_eq_getElem hh, Option.getD_some]
        congr 1
        exact (Nat.mod_eq_of_lt hh).symm
      · have e : i + 1 = (a :: l).length := by omega
        rw [List.getElem?_eq_none (by omega), Option.getD_none]
        have e2 : (i + 1) % (a :: l).length = 0 := by rw [e, Nat.mod_self]
        simp only [e2, List.getElem_cons_zero]
  rw [List.getElem?_eq_getElem (by rw [ring_len]; exact h)] at key
  exact Option.some.inj key
theorem edge_at {l : List api_Spot} (hl : (l.length : Int) ≤ 1000000) {i : Nat} (h : i < l.length) :
    at? l (i : Int) = some ((ring l)[i]'(by rw [ring_len]; exact h)).1 ∧ at? l ((IntKind.wrap .i64 ((i : Int) + 1)).tmod (l.length : Int)) = some ((ring l)[i]'(by rw [ring_len]; exact h)).2 ∧ (!((l.length : Int) == 0)) = true := by
  rw [ring_get h]
  have hne : ((l.length : Int) == 0) = false := by rw [beq_eq_false_iff_ne]; omega
  refine ⟨at_nat h, ?_, by rw [hne]; rfl⟩
  rw [wrap64 (by omega) (by omega)]
  have e : ((i : Int) + 1).tmod (l.length : Int) = (((i + 1) % l.length : Nat) : Int) := by
    rw [Int.tmod_eq_emod_of_nonneg (show 0 ≤ (i : Int) + 1 by omega)]
    simp
  rw [e, at_nat (Nat.mod_lt _ (by omega))]
theorem ring_pt (l : List api_Spot) : ring (l.map pt) = (ring l).map pte := ring_map pt l
theorem ring_mem {l : List api_Spot} {e : api_Spot × api_Spot} (h : e ∈ ring l) : e.1 ∈ l ∧ e.2 ∈ l := by
  obtain ⟨i, hi, rfl⟩ := List.mem_iff_getElem.1 h
  rw [ring_get (by rw [ring_len] at hi; exact hi)]
  exact ⟨List.getElem_mem _, List.getElem_mem _⟩

/-! ### Search loops -/
theorem range_from {α ρ : Type} {l : List α} {f : Int → Option (Int ⊕ ρ)} (g : Nat → α → Option ρ) (done : ρ) (hl : (l.length : Int) ≤ 9223372036854775807)
    (hf : ∀ (i : Nat) (h : i < l.length), f i = some (match g i l[i] with | none => .inl (IntKind.wrap .i64 (i + 1)) | some r => .inr r)) (hd : f l.length = some (.inr done)) (k : Nat) (hk : k ≤ l.length) :
    loopO f k = some ((scan g k (l.drop k)).getD done) := by
  generalize hn : l.length - k = n
  induction n generalizing k with
  | zero =>
    have : k = l.length := by omega
    subst this
    rw [loopO_eq, hd, List.drop_length]
    rfl
  | succ n ih =>
    have hi : k < l.length := by omega
    rw [loopO_eq, hf k hi, drop_get hi]
    simp only [scan]
    cases hg : g k l[k] with
    | some r => rfl
    | none =>
      simp only [Option.bind_some]
      rw [wrap64 (by omega) (by omega)]
      exact ih (k + 1) (by omega) (by omega)
/-- a search: is there a number from k on for which p says true -/
theorem scan_ex {α ρ : Type} {p : Nat → α → Bool} {r d : ρ} : ∀ {l : List α} {k : Nat}, (scan (fun i x => cond (p i x) (some r) none) k l).getD d = open Classical in if ∃ (i : Nat) (x : α), l[i]? = some x ∧ p (k + i) x = true then r else d
  | [], k => by simp [scan]
  | y :: l, k => by
    simp only [scan]
    cases h : p k y with
    | true =>
      simp only [cond_true, Option.getD_some]
      rw [if_pos ⟨0, y, rfl, by simpa using h⟩]
    | false =>
      simp only [cond_false]
      rw [scan_ex (l := l) (k := k + 1)]
      congr 1
      apply propext
      constructor
      · rintro ⟨i, x, h1, h2⟩
        exact ⟨i + 1, x, by simpa using h1, by rw [show k + (i + 1) = k + 1 + i by omega]; exact h2⟩
      · rintro ⟨i, x, h1, h2⟩
        cases i with
        | zero =>
          simp only [List.getElem?_cons_zero, Option.some.injEq] at h1
          subst h1
          rw [Nat.add_zero, h] at h2
          cases h2
        | succ i => exact ⟨i, x, by simpa using h1, by rw [show k + 1 + i = k + (i + 1) by omega]; exact h2⟩
end Go.Eng

/-
Fences: the checks of both ways are the same; a right fence is simple.
-/
namespace Go.Eng
open Go Geo
open scoped Classical
set_option linter.unusedVariables false
set_option linter.unusedSimpArgs false

/-! ### Is a spot among others -/
def spB (v x : api_Spot) : Bool := decide (v.X = x.X) && (decide (v.Y = x.Y) && true)
theorem spB_iff {v x : api_Spot} : spB v x = true ↔ v = x := spot_eq
theorem scan_idx {v : api_Spot} : ∀ (l : List api_Spot) (k : Nat), ∃ r : Int, (match ((scan (fun i x => cond (spB v x) (some (Sum.inr (i : Int))) none) k l).getD (Sum.inl ()) : Unit ⊕ Int) with | .inl _ => (-1 : Int) | .inr i => i) = r ∧ (decide (0 ≤ r) = l.any (spB v))
  | [], k => ⟨-1, rfl, rfl⟩
  | x :: l, k => by
    simp only [scan, List.any_cons]
    cases spB v x with
    | true => exact ⟨k, rfl, by simp⟩
    | false => simpa using scan_idx (v := v) l (k + 1)
theorem contains_eq (l : List api_Spot) (v : api_Spot) (hl : (l.length : Int) ≤ 1000000) : slices_Contains_api_Spot_api_Spot l v = some (l.any (spB v)) := by
  unfold slices_Contains_api_Spot_api_Spot slices_Index_api_Spot_api_Spot
  rw [range_loop (l := l) (fun i x => cond (spB v x) (some (.inr (i : Int))) none) (.inl ()) (by omega)]
  · obtain ⟨r, h1, h2⟩ := scan_idx (v := v) l 0
    rw [← h2, ← h1]
    cases (scan (fun i x => cond (spB v x) (some (Sum.inr (i : Int))) none) 0 l).getD (Sum.inl () : Unit ⊕ Int) <;> rfl
  · intro i hi
    unfold slices_Index_api_Spot_api_Spot_x1
    have h : (i : Int) < l.length := by omega
    simp only [h, decide_true, cond_true, at_nat hi, Option.bind_some]
    show cond (spB v l[i]) _ _ = _
    cases spB v l[i] <;> rfl
  · unfold slices_Index_api_Spot_api_Spot_x1
    simp
theorem any_mem {l : List api_Spot} {v : api_Spot} : l.any (spB v) = true ↔ v ∈ l := by
  rw [List.any_eq_true]
  constructor
  · rintro ⟨x, h1, h2⟩; rw [spB_iff.1 h2]; exact h1
  · intro h; exact ⟨v, h, spB_iff.2 rfl⟩

/-! ### The first half of the checks -/
theorem inB_iff (s : api_Spot) : ((decide (-10000 ≤ s.X) && decide (s.X ≤ 10000)) && (decide (-10000 ≤ s.Y) && decide (s.Y ≤ 10000))) = true ↔ InB s := by
  unfold InB; simp
def Half1 (l : List api_Spot) : Unit ⊕ Int → Prop
  | .inl _ => (∀ s ∈ l, InB s) ∧ l.Nodup
  | .inr e => e ≠ 0
theorem half1 (f : api_Fence) (hl : f.Corners.length ≤ 200) :
    ∃ r, loopO (place_CheckFence_x1 f) 0 = some r ∧ loopO (fleetref2_CornersFault_x1 f.Corners) 0 = some r ∧ Half1 f.Corners r := by
  obtain ⟨key, l⟩ := f
  simp only at hl ⊢
  refine loop_two (fun i : Int => ∃ k : Nat, i = (k : Int) ∧ k ≤ l.length ∧ (∀ s ∈ l.take k, InB s) ∧ (l.take k).Nodup) (fun i => ((l.length : Int) - i).toNat) _ ?_ ⟨0, rfl, by omega, by simp, by simp⟩
  rintro i ⟨k, rfl, k1, k2, k3⟩
  unfold place_CheckFence_x1 fleetref2_CornersFault_x1
  by_cases hi : k < l.length
  · have hi' : (k : Int) < l.length := by omega
    have hs : sub? l 0 (k : Int) = some (l.take k) := by
      unfold sub?
      rw [if_pos (by omega)]
      simp
    simp only [hi', decide_true, cond_true, at_nat hi, Option.bind_some, isSpot_eq, SpotFault_eq, hs]
    by_cases hb : InB l[k]
    · simp only [(inB_iff _).2 hb, Bool.not_true, cond_false, cond_true, decide_true]
      rw [contains_eq _ _ (by simp; omega)]
      simp only [Option.bind_some]
      cases hc : (l.take k).any (spB l[k]) with
      | true => right; exact ⟨_, rfl, rfl, by show (6 : Int) ≠ 0; omega⟩
      | false =>
        left
        rw [wrap64 (by omega) (by omega)]
        have e : l.take (k + 1) = l.take k ++ [l[k]] := List.take_succ_eq_append_getElem hi
        refine ⟨_, rfl, rfl, ⟨k + 1, by omega, by omega, ?_, ?_⟩, by omega⟩
        · rw [e]
          intro s hs
          rcases List.mem_append.1 hs with h | h
          · exact k2 s h
          · rw [List.mem_singleton] at h; rw [h]; exact hb
        · rw [e, List.nodup_append]
          refine ⟨k3, by simp, fun a ha b hb' => ?_⟩
          rw [List.mem_singleton] at hb'
          subst hb'
          intro e'
          subst e'
          rw [any_mem.2 ha] at hc
          cases hc
    · have hb' : ((decide (-10000 ≤ l[k].X) && decide (l[k].X ≤ 10000)) && (decide (-10000 ≤ l[k].Y) && decide (l[k].Y ≤ 10000))) = false := by
        rw [← Bool.not_eq_true]; exact fun h => hb ((inB_iff _).1 h)
      right
      simp only [hb', Bool.not_false, cond_true, cond_false]
      exact ⟨.inr 1, rfl, rfl, by show (1 : Int) ≠ 0; omega⟩
  · have : k = l.length := by omega
    subst this
    right
    rw [List.take_length] at k2 k3
    exact ⟨.inl (), by simp, by simp, k2, k3⟩

/-! ### Crossed edges -/
def badP (n i k : Nat) (e f : api_Spot × api_Spot) : Bool :=
  (!decide (k = i + 1) && (!decide ((k + 1) % n = i) && meB e f)) || (decide (k = i + 1) && (onB e f.2 || onB f e.1)) || (decide ((k + 1) % n = i) && (onB e f.1 || onB f e.2))
noncomputable def innP (L : List (api_Spot × api_Spot)) (i : Nat) (e : api_Spot × api_Spot) : Bool :=
  decide (∃ (k : Nat) (x : api_Spot × api_Spot), i < k ∧ L[k]? = some x ∧ badP L.length i k e x = true)
theorem mod_int {k n : Nat} (hk : (k : Int) + 1 ≤ 1000000) {i : Nat} : decide ((IntKind.wrap .i64 ((k : Int) + 1)).tmod (n : Int) = (i : Int)) = decide ((k + 1) % n = i) := by
  rw [wrap64 (by omega) (by omega)]
  have e : ((k : Int) + 1).tmod (n : Int) = (((k + 1) % n : Nat) : Int) := by
    rw [Int.tmod_eq_emod_of_nonneg (show 0 ≤ (k : Int) + 1 by omega)]
    simp
  rw [e, Bool.eq_iff_iff, decide_eq_true_iff, decide_eq_true_iff]
  omega
theorem suc_int {i k : Nat} (hi : (i : Int) + 1 ≤ 1000000) : decide ((k : Int) = IntKind.wrap .i64 ((i : Int) + 1)) = decide (k = i + 1) := by
  rw [wrap64 (by omega) (by omega), Bool.eq_iff_iff, decide_eq_true_iff, decide_eq_true_iff]
  omega
theorem inb_ring {l : List api_Spot} (h : ∀ s ∈ l, InB s) {e : api_Spot × api_Spot} (he : e ∈ ring l) : InB e.1 ∧ InB e.2 := ⟨h _ (ring_mem he).1, h _ (ring_mem he).2⟩

theorem crossed_inner {l : List api_Spot} (hl : l.length ≤ 200) (hb : ∀ s ∈ l, InB s) {i : Nat} (hi : i < l.length) {e : api_Spot × api_Spot} (he : (ring l)[i]? = some e) :
    loopO (place_crossed_x2 l i e.1 e.2) (IntKind.wrap .i64 ((i : Int) + 1)) = some (cond (innP (ring l) i e) (.inr ()) (.inl ())) := by
  have hlen := ring_len l
  have he' : InB e.1 ∧ InB e.2 := inb_ring hb (List.mem_of_getElem? he)
  rw [wrap64 (by omega) (by omega), show ((i : Int) + 1) = ((i + 1 : Nat) : Int) by omega,
    range_from (l := ring l) (fun k x => cond (badP l.length i k e x) (some (.inr ())) none) (.inl ()) (by omega) ?_ ?_ (i + 1) (by omega), scan_ex]
  · unfold innP
    rw [hlen]
    congr 1
    have : (∃ (j : Nat) (x : api_Spot × api_Spot), ((ring l).drop (i + 1))[j]? = some x ∧ badP l.length i (i + 1 + j) e x = true) ↔ (∃ (k : Nat) (x : api_Spot × api_Spot), i < k ∧ (ring l)[k]? = some x ∧ badP l.length i k e x = true) := by
      constructor
      · rintro ⟨j, x, h1, h2⟩
        exact ⟨i + 1 + j, x, by omega, by rw [List.getElem?_drop] at h1; exact h1, h2⟩
      · rintro ⟨k, x, h0, h1, h2⟩
        exact ⟨k - (i + 1), x, by rw [List.getElem?_drop, show i + 1 + (k - (i + 1)) = k by omega]; exact h1, by rw [show i + 1 + (k - (i + 1)) = k by omega]; exact h2⟩
    by_cases h : ∃ (j : Nat) (x : api_Spot × api_Spot), ((ring l).drop (i + 1))[j]? = some x ∧ badP l.length i (i + 1 + j) e x = true
    · rw [if_pos h, decide_eq_true (this.1 h)]; rfl
    · rw [if_neg h, decide_eq_false (fun hh => h (this.2 hh))]; rfl
  · intro k hk
    have hk' : k < l.length := by omega
    obtain ⟨a1, a2, a3⟩ := edge_at (l := l) (by omega) hk'
    have hx := inb_ring hb (List.getElem_mem hk)
    generalize (ring l)[k] = x at a1 a2 hx
    unfold place_crossed_x2 place_crossed_x3 place_crossed_x4 place_crossed_x5
    have h : (k : Int) < l.length := by omega
    simp only [h, decide_true, cond_true, a1, a2, gd_true a3, Option.bind_some, suc_int (i := i) (k := k) (by omega), mod_int (i := i) (k := k) (n := l.length) (by omega),
      meets_eq he'.1 he'.2 hx.1 hx.2, on_eq he'.1 he'.2 hx.2, on_eq hx.1 hx.2 he'.1, on_eq he'.1 he'.2 hx.1, on_eq hx.1 hx.2 he'.2]
    unfold badP
    rw [show onB e x.2 = onB (e.1, e.2) x.2 from rfl, show onB x e.1 = onB (x.1, x.2) e.1 from rfl, show meB e x = meB (e.1, e.2) (x.1, x.2) from rfl, show onB e x.1 = onB (e.1, e.2) x.1 from rfl, show onB x e.2 = onB (x.1, x.2) e.2 from rfl]
    cases decide (k = i + 1) <;> cases decide ((k + 1) % l.length = i) <;> cases meB (e.1, e.2) (x.1, x.2) <;> cases onB (e.1, e.2) x.2 <;> cases onB (x.1, x.2) e.1 <;> cases onB (e.1, e.2) x.1 <;> cases onB (x.1, x.2) e.2 <;> rfl
  · rw [hlen]
    unfold place_crossed_x2
    simp
theorem crossed_eq {l : List api_Spot} (hl : l.length ≤ 200) (hb : ∀ s ∈ l, InB s) :
    place_crossed l = some (decide (∃ (i : Nat) (e : api_Spot × api_Spot), (ring l)[i]? = some e ∧ ∃ (k : Nat) (x : api_Spot × api_Spot), i < k ∧ (ring l)[k]? = some x ∧ badP l.length i k e x = true)) := by
  have hlen := ring_len l
  unfold place_crossed
  rw [range_loop (l := ring l) (fun i e => cond (innP (ring l) i e) (some (.inr ())) none) (.inl ()) (by omega), scan_ex]
  · have hAB : (∃ (i : Nat) (x : api_Spot × api_Spot), (ring l)[i]? = some x ∧ innP (ring l) (0 + i) x = true) ↔ (∃ (i : Nat) (e : api_Spot × api_Spot), (ring l)[i]? = some e ∧ ∃ (k : Nat) (x : api_Spot × api_Spot), i < k ∧ (ring l)[k]? = some x ∧ badP l.length i k e x = true) := by
      simp only [Nat.zero_add, innP, decide_eq_true_iff, hlen]
    by_cases h : ∃ (i : Nat) (x : api_Spot × api_Spot), (ring l)[i]? = some x ∧ innP (ring l) (0 + i) x = true
    · rw [if_pos h, decide_eq_true (hAB.1 h)]; rfl
    · rw [if_neg h, decide_eq_false (fun hh => h (hAB.2 hh))]; rfl
  · intro i hi
    have hi' : i < l.length := by omega
    obtain ⟨a1, a2, a3⟩ := edge_at (l := l) (by omega) hi'
    have key := crossed_inner hl hb hi' (e := (ring l)[i]) (List.getElem?_eq_getElem hi)
    unfold place_crossed_x1
    have h : (i : Int) < l.length := by omega
    simp only [h, decide_true, cond_true, a1, a2, gd_true a3, Option.bind_some, key]
    cases innP (ring l) i (ring l)[i] <;> rfl
  · rw [hlen]
    unfold place_crossed_x1
    simp

def badR (i k : Nat) (e f : api_Spot × api_Spot) : Bool :=
  !decide (k = i) && cond (spB e.2 f.1) (onB e f.2 || onB f e.1) (cond (spB f.2 e.1) false (meB e f))
noncomputable def innR (L : List (api_Spot × api_Spot)) (i : Nat) (e : api_Spot × api_Spot) : Bool :=
  decide (∃ (k : Nat) (x : api_Spot × api_Spot), L[k]? = some x ∧ badR i k e x = true)
theorem redge_eq {l : List api_Spot} (hl : l.length ≤ 200) {i : Nat} (hi : i < l.length) : fleetref2_edge l (i : Int) = some (((ring l)[i]'(by rw [ring_len]; exact hi)).1, ((ring l)[i]'(by rw [ring_len]; exact hi)).2) := by
  obtain ⟨a1, a2, a3⟩ := edge_at (l := l) (by omega) hi
  unfold fleetref2_edge
  simp only [a1, a2, gd_true a3, Option.bind_some]
theorem rcrossed_inner {l : List api_Spot} (hl : l.length ≤ 200) (hb : ∀ s ∈ l, InB s) {i : Nat} (hi : i < l.length) {e : api_Spot × api_Spot} (he : (ring l)[i]? = some e) :
    loopO (fleetref2_CornersFault_x3 l i e.1 e.2) 0 = some (cond (innR (ring l) i e) (.inr ()) (.inl ())) := by
  have hlen := ring_len l
  have he' : InB e.1 ∧ InB e.2 := inb_ring hb (List.mem_of_getElem? he)
  rw [range_loop (l := ring l) (fun k x => cond (badR i k e x) (some (.inr ())) none) (.inl ()) (by omega) ?_ ?_, scan_ex]
  · unfold innR
    have hAB : (∃ (j : Nat) (x : api_Spot × api_Spot), (ring l)[j]? = some x ∧ badR i (0 + j) e x = true) ↔ (∃ (k : Nat) (x : api_Spot × api_Spot), (ring l)[k]? = some x ∧ badR i k e x = true) := by
      simp only [Nat.zero_add]
    by_cases h : ∃ (j : Nat) (x : api_Spot × api_Spot), (ring l)[j]? = some x ∧ badR i (0 + j) e x = true
    · rw [if_pos h, decide_eq_true (hAB.1 h)]; rfl
    · rw [if_neg h, decide_eq_false (fun hh => h (hAB.2 hh))]; rfl
  · intro k hk
    have hk' : k < l.length := by omega
    have hx := inb_ring hb (List.getElem_mem hk)
    unfold fleetref2_CornersFault_x3 fleetref2_CornersFault_x4 fleetref2_CornersFault_x5
    rw [redge_eq hl hk']
    generalize (ring l)[k] = x at hx
    have h : (k : Int) < l.length := by omega
    have hki : decide ((k : Int) = (i : Int)) = decide (k = i) := by
      rw [Bool.eq_iff_iff, decide_eq_true_iff, decide_eq_true_iff]; omega
    simp only [h, decide_true, cond_true, Option.bind_some, hki, touches_eq he'.1 he'.2 hx.1 hx.2, ron_eq he'.1 he'.2 hx.2, ron_eq hx.1 hx.2 he'.1]
    rw [show (decide (e.2.X = x.1.X) && (decide (e.2.Y = x.1.Y) && true)) = spB e.2 x.1 from rfl, show (decide (x.2.X = e.1.X) && (decide (x.2.Y = e.1.Y) && true)) = spB x.2 e.1 from rfl]
    unfold badR
    rw [show onB e x.2 = onB (e.1, e.2) x.2 from rfl, show onB x e.1 = onB (x.1, x.2) e.1 from rfl, show meB e x = meB (e.1, e.2) (x.1, x.2) from rfl]
    cases decide (k = i) <;> cases spB e.2 x.1 <;> cases spB x.2 e.1 <;> cases meB (e.1, e.2) (x.1, x.2) <;> cases onB (e.1, e.2) x.2 <;> cases onB (x.1, x.2) e.1 <;> rfl
  · rw [hlen]
    unfold fleetref2_CornersFault_x3
    simp
theorem rcrossed_eq {l : List api_Spot} (hl : l.length ≤ 200) (hb : ∀ s ∈ l, InB s) :
    loopO (fleetref2_CornersFault_x2 l) 0 = some (cond (decide (∃ (i : Nat) (e : api_Spot × api_Spot), (ring l)[i]? = some e ∧ ∃ (k : Nat) (x : api_Spot × api_Spot), (ring l)[k]? = some x ∧ badR i k e x = true)) (.inr ()) (.inl ())) := by
  have hlen := ring_len l
  rw [range_loop (l := ring l) (fun i e => cond (innR (ring l) i e) (some (.inr ())) none) (.inl ()) (by omega), scan_ex]
  · have hAB : (∃ (i : Nat) (x : api_Spot × api_Spot), (ring l)[i]? = some x ∧ innR (ring l) (0 + i) x = true) ↔ (∃ (i : Nat) (e : api_Spot × api_Spot), (ring l)[i]? = some e ∧ ∃ (k : Nat) (x : api_Spot × api_Spot), (ring l)[k]? = some x ∧ badR i k e x = true) := by
      simp only [Nat.zero_add, innR, decide_eq_true_iff]
    by_cases h : ∃ (i : Nat) (x : api_Spot × api_Spot), (ring l)[i]? = some x ∧ innR (ring l) (0 + i) x = true
    · rw [if_pos h, decide_eq_true (hAB.1 h)]; rfl
    · rw [if_neg h, decide_eq_false (fun hh => h (hAB.2 hh))]; rfl
  · intro i hi
    have hi' : i < l.length := by omega
    have key := rcrossed_inner hl hb hi' (e := (ring l)[i]) (List.getElem?_eq_getElem hi)
    unfold fleetref2_CornersFault_x2
    have h : (i : Int) < l.length := by omega
    simp only [h, decide_true, cond_true, redge_eq hl hi', Option.bind_some, key]
    cases innR (ring l) i (ring l)[i] <;> rfl
  · rw [hlen]
    unfold fleetref2_CornersFault_x2
    simp

/-- edges have nothing in common but the corner between two that are next to each other -/
def Qs (l : List api_Spot) : Prop :=
  (∀ e ∈ ring l, ∀ f ∈ ring l, e ≠ f → e.2 ≠ f.1 → f.2 ≠ e.1 → meB e f = false) ∧ (∀ e ∈ ring l, ∀ f ∈ ring l, e ≠ f → e.2 = f.1 → onB e f.2 = false ∧ onB f e.1 = false)

section
variable {l : List api_Spot} (nd : l.Nodup)
include nd
theorem ring_nodup : (ring l).Nodup := nodup_of_map (g := Prod.fst) (by rw [ring_fst]; exact nd)
theorem ring_inj {i k : Nat} {e f : api_Spot × api_Spot} (hi : (ring l)[i]? = some e) (hk : (ring l)[k]? = some f) : e = f ↔ i = k := by
  have hn := ring_nodup nd
  obtain ⟨i1, i2⟩ := List.getElem?_eq_some_iff.1 hi
  obtain ⟨k1, k2⟩ := List.getElem?_eq_some_iff.1 hk
  constructor
  · intro h
    exact (List.getElem_inj hn).1 (by rw [i2, k2, h])
  · intro h; subst h; rw [← i2, ← k2]
theorem ring_next {i k : Nat} {e f : api_Spot × api_Spot} (hi : (ring l)[i]? = some e) (hk : (ring l)[k]? = some f) : e.2 = f.1 ↔ (i + 1) % l.length = k := by
  obtain ⟨i1, i2⟩ := List.getElem?_eq_some_iff.1 hi
  obtain ⟨k1, k2⟩ := List.getElem?_eq_some_iff.1 hk
  have i1' : i < l.length := by rw [ring_len] at i1; exact i1
  have k1' : k < l.length := by rw [ring_len] at k1; exact k1
  rw [ring_get i1'] at i2
  rw [ring_get k1'] at k2
  rw [← i2, ← k2]
  exact List.getElem_inj nd
theorem refQ : (∃ (i : Nat) (e : api_Spot × api_Spot), (ring l)[i]? = some e ∧ ∃ (k : Nat) (x : api_Spot × api_Spot), (ring l)[k]? = some x ∧ badR i k e x = true) ↔ ¬ Qs l := by
  constructor
  · rintro ⟨i, e, hi, k, f, hk, hb⟩ ⟨q1, q2⟩
    have me := List.mem_of_getElem? hi
    have mf := List.mem_of_getElem? hk
    unfold badR at hb
    simp only [Bool.and_eq_true, Bool.not_eq_true', decide_eq_false_iff_not] at hb
    obtain ⟨hne, hb⟩ := hb
    have hef : e ≠ f := fun h => hne ((ring_inj nd hi hk).1 h).symm
    cases h1 : spB e.2 f.1 with
    | true =>
      rw [h1] at hb
      have := q2 e me f mf hef (spB_iff.1 h1)
      rw [this.1, this.2] at hb; cases hb
    | false =>
      rw [h1] at hb
      cases h2 : spB f.2 e.1 with
      | true => rw [h2] at hb; cases hb
      | false =>
        rw [h2] at hb
        have := q1 e me f mf hef (fun h => by rw [spB_iff.2 h] at h1; cases h1) (fun h => by rw [spB_iff.2 h] at h2; cases h2)
        simp only [cond_false] at hb
        rw [this] at hb; cases hb
  · intro hq
    refine Classical.byContradiction fun hn => hq ⟨fun e me f mf hef h1 h2 => ?_, fun e me f mf hef h1 => ?_⟩
    all_goals
      obtain ⟨i, hi⟩ := List.mem_iff_getElem?.1 me
      obtain ⟨k, hk⟩ := List.mem_iff_getElem?.1 mf
      have hik : ¬ k = i := fun h => hef ((ring_inj nd hi hk).2 h.symm)
      have hb : badR i k e f = false := by
        rw [← Bool.not_eq_true]; exact fun h => hn ⟨i, e, hi, k, f, hk, h⟩
      unfold badR at hb
      rw [decide_eq_false hik] at hb
      simp only [Bool.not_false, Bool.true_and] at hb
    · have e1 : spB e.2 f.1 = false := by rw [← Bool.not_eq_true]; exact fun h => h1 (spB_iff.1 h)
      have e2 : spB f.2 e.1 = false := by rw [← Bool.not_eq_true]; exact fun h => h2 (spB_iff.1 h)
      rw [e1, e2] at hb
      exact hb
    · rw [spB_iff.2 h1] at hb
      simp only [cond_true, Bool.or_eq_false_iff] at hb
      exact hb
theorem progQ : (∃ (i : Nat) (e : api_Spot × api_Spot), (ring l)[i]? = some e ∧ ∃ (k : Nat) (x : api_Spot × api_Spot), i < k ∧ (ring l)[k]? = some x ∧ badP l.length i k e x = true) ↔ ¬ Qs l := by
  have hsuc : ∀ {i k : Nat} {e f : api_Spot × api_Spot}, (ring l)[i]? = some e → (ring l)[k]? = some f → i < k → ((i + 1) % l.length = k ↔ k = i + 1) := by
    intro i k e f hi hk hlt
    have k1 := (List.getElem?_eq_some_iff.1 hk).1
    rw [ring_len] at k1
    rw [Nat.mod_eq_of_lt (by omega)]
    omega
  constructor
  · rintro ⟨i, e, hi, k, f, hlt, hk, hb⟩ ⟨q1, q2⟩
    have me := List.mem_of_getElem? hi
    have mf := List.mem_of_getElem? hk
    have hef : e ≠ f := fun h => by have := (ring_inj nd hi hk).1 h; omega
    have n1 : e.2 = f.1 ↔ k = i + 1 := (ring_next nd hi hk).trans (hsuc hi hk hlt)
    have n2 : f.2 = e.1 ↔ (k + 1) % l.length = i := ring_next nd hk hi
    unfold badP at hb
    simp only [Bool.or_eq_true, Bool.and_eq_true, Bool.not_eq_true', decide_eq_false_iff_not, decide_eq_true_iff] at hb
    rcases hb with (⟨h1, h2, h⟩ | ⟨h1, h⟩) | ⟨h1, h⟩
    · rw [q1 e me f mf hef (fun h => h1 (n1.1 h)) (fun h => h2 (n2.1 h))] at h; cases h
    · have := q2 e me f mf hef (n1.2 h1)
      rw [this.1, this.2] at h; rcases h with h | h <;> cases h
    · have := q2 f mf e me hef.symm (n2.2 h1)
      rw [this.1, this.2] at h; rcases h with h | h <;> cases h
  · intro hq
    refine Classical.byContradiction fun hn => hq ⟨fun e me f mf hef h1 h2 => ?_, fun e me f mf hef h1 => ?_⟩
    all_goals
      obtain ⟨i, hi⟩ := List.mem_iff_getElem?.1 me
      obtain ⟨k, hk⟩ := List.mem_iff_getElem?.1 mf
      have hik : ¬ i = k := fun h => hef ((ring_inj nd hi hk).2 h)
      have hb : ∀ {i k : Nat} {e f : api_Spot × api_Spot}, (ring l)[i]? = some e → (ring l)[k]? = some f → i < k → badP l.length i k e f = false := by
        intro i k e f hi hk hlt
        rw [← Bool.not_eq_true]; exact fun h => hn ⟨i, e, hi, k, f, hlt, hk, h⟩
      have n1 := ring_next nd hi hk
      have n2 := ring_next nd hk hi
    · by_cases hlt : i < k
      · have := hb hi hk hlt
        unfold badP at this
        have a1 : ¬ k = i + 1 := fun h => h1 (n1.2 ((hsuc hi hk hlt).2 h))
        have a2 : ¬ (k + 1) % l.length = i := fun h => h2 (n2.2 h)
        rw [decide_eq_false a1, decide_eq_false a2] at this
        simpa using this
      · have hlt : k < i := by omega
        have := hb hk hi hlt
        unfold badP at this
        have a1 : ¬ i = k + 1 := fun h => h2 (n2.2 ((hsuc hk hi hlt).2 h))
        have a2 : ¬ (i + 1) % l.length = k := fun h => h1 (n1.2 h)
        rw [decide_eq_false a1, decide_eq_false a2] at this
        have t : meB f e = false := by simpa using this
        rw [← Bool.not_eq_true] at t ⊢
        exact fun h => t (meB_iff.2 (meetE_comm (meB_iff.1 h)))
    · have h1' := n1.1 h1
      by_cases hlt : i < k
      · have := hb hi hk hlt
        unfold badP at this
        have a1 : k = i + 1 := (hsuc hi hk hlt).1 h1'
        rw [decide_eq_true a1] at this
        simp only [Bool.not_true, Bool.false_and, Bool.false_or, Bool.true_and, Bool.or_eq_false_iff] at this
        exact this.1
      · have hlt : k < i := by omega
        have := hb hk hi hlt
        unfold badP at this
        rw [decide_eq_true h1'] at this
        simp only [Bool.not_true, Bool.false_and, Bool.and_false, Bool.false_or, Bool.true_and, Bool.or_eq_false_iff] at this
        exact ⟨this.2.2, this.2.1⟩
end

/-- corners of a right fence -/
def FRight (l : List api_Spot) : Prop := 3 ≤ l.length ∧ l.length ≤ 200 ∧ (∀ s ∈ l, InB s) ∧ Simple (l.map pt)
theorem simple_of {l : List api_Spot} (nd : l.Nodup) (hq : Qs l) : Simple (l.map pt) where
  nd := nodup_map nd fun _ _ _ _ hne h => hne (pt_inj h)
  sep := by
    intro e he f hf h1 h2 h3 hm
    rw [ring_pt] at he hf
    obtain ⟨e', he', rfl⟩ := List.mem_map.1 he
    obtain ⟨f', hf', rfl⟩ := List.mem_map.1 hf
    have := hq.1 e' he' f' hf' (fun h => h1 (by rw [h])) (fun h => h2 (by show pt e'.2 = pt f'.1; rw [h])) (fun h => h3 (by show pt f'.2 = pt e'.1; rw [h]))
    rw [meB_iff.2 hm] at this; cases this
  adj := by
    intro e he f hf h1 h2
    rw [ring_pt] at he hf
    obtain ⟨e', he', rfl⟩ := List.mem_map.1 he
    obtain ⟨f', hf', rfl⟩ := List.mem_map.1 hf
    have := hq.2 e' he' f' hf' (fun h => h1 (by rw [h])) (pt_inj h2)
    obtain ⟨t1, t2⟩ := this
    exact ⟨fun h => (by rw [onB_iff.2 h] at t1; cases t1), fun h => (by rw [onB_iff.2 h] at t2; cases t2)⟩

/-- the checks of corners, both ways -/
theorem corners_both (f : api_Fence) (hk : (f.Key.length : Int) ≤ 9223372036854775807) :
    ∃ c, fleetref2_CornersFault f.Corners = some c ∧ (c = 0 → FRight f.Corners) ∧ place_CheckFence f = some (cond (keyB f.Key) c 5) := by
  unfold place_CheckFence
  rw [Key_eq _ hk]
  have key : ∃ c, fleetref2_CornersFault f.Corners = some c ∧ (c = 0 → FRight f.Corners) ∧
      (cond (decide ((f.Corners.length : Int) < 3)) (some 3) (cond (decide (200 < (f.Corners.length : Int))) (some 2) ((loopO (place_CheckFence_x1 f) 0).bind fun x => match x with
          | .inl _ => (place_crossed f.Corners).bind fun vr17 => cond (vr17) (some 13) (some 0)
          | .inr vx1_1 => some vx1_1))) = some c := by
    unfold fleetref2_CornersFault
    by_cases h3 : (f.Corners.length : Int) < 3
    · exact ⟨3, by simp [h3], by omega, by simp [h3]⟩
    by_cases h200 : (200 : Int) < f.Corners.length
    · exact ⟨2, by simp [h3, h200], by omega, by simp [h3, h200]⟩
    have hl : f.Corners.length ≤ 200 := by omega
    obtain ⟨r, r1, r2, r3⟩ := half1 f hl
    simp only [h3, h200, decide_false, cond_false, r1, r2, Option.bind_some]
    cases r with
    | inr e => exact ⟨e, rfl, fun h => absurd h r3, rfl⟩
    | inl _ =>
      obtain ⟨hb, nd⟩ := r3
      simp only
      rw [crossed_eq hl hb, rcrossed_eq hl hb]
      have p := progQ nd
      have q := refQ nd
      by_cases hq : Qs f.Corners
      · rw [decide_eq_false (fun h => p.1 h hq), decide_eq_false (fun h => q.1 h hq)]
        exact ⟨0, rfl, fun _ => ⟨by omega, hl, hb, simple_of nd hq⟩, rfl⟩
      · rw [decide_eq_true (p.2 hq), decide_eq_true (q.2 hq)]
        exact ⟨13, rfl, by omega, rfl⟩
  obtain ⟨c, c1, c2, c3⟩ := key
  refine ⟨c, c1, c2, ?_⟩
  cases h : keyB f.Key
  · rfl
  · simp only [Option.bind_some, Bool.not_true, cond_false, cond_true]; exact c3
end Go.Eng

/-
Where a spot is: both ways.
-/
namespace Go.Eng
open Go Geo
open scoped Classical
set_option linter.unusedVariables false
set_option linter.unusedSimpArgs false

theorem scan_any {α ρ : Type} {p : α → Bool} {r d : ρ} : ∀ {l : List α} {k : Nat}, (scan (fun _ x => cond (p x) (some r) none) k l).getD d = cond (l.any p) r d
  | [], _ => by simp [scan]
  | y :: l, k => by
    simp only [scan, List.any_cons]
    cases p y with
    | true => simp
    | false => simp only [cond_false, Bool.false_or]; exact scan_any (l := l)
theorem edges_on {l : List api_Spot} (hl : l.length ≤ 200) (hb : ∀ s ∈ l, InB s) {p : api_Spot} (hp : InB p) :
    place_edges_f1_place_where_1 l p = some ((ring l).any fun e => onB e p) := by
  have hlen := ring_len l
  unfold place_edges_f1_place_where_1
  rw [range_loop (l := ring l) (fun _ e => cond (onB e p) (some (.inr ())) none) (.inl ()) (by omega), scan_any]
  · cases (ring l).any fun e => onB e p <;> rfl
  · intro i hi
    have hi' : i < l.length := by omega
    obtain ⟨a1, a2, a3⟩ := edge_at (l := l) (by omega) hi'
    have hx := inb_ring hb (List.getElem_mem hi)
    generalize (ring l)[i] = x at a1 a2 hx
    unfold place_edges_f1_place_where_1_x1 place_where_1
    have h : (i : Int) < l.length := by omega
    simp only [h, decide_true, cond_true, a1, a2, gd_true a3, Option.bind_some, on_eq hx.1 hx.2 hp]
    rw [show onB x p = onB (x.1, x.2) p from rfl]
    cases onB (x.1, x.2) p <;> rfl
  · rw [hlen]
    unfold place_edges_f1_place_where_1_x1
    simp
def htB (p : api_Spot) (e : api_Spot × api_Spot) : Bool := hitE (pt p) (pte e)
theorem where2_eq {a b p : api_Spot} (ha : InB a) (hb : InB b) (hp : InB p) (s : Bool) : place_where_2 a b p s = some (s ^^ htB p (a, b)) := by
  unfold place_where_2 place_where_2_x1 place_where_2_x2 place_where_2_x3 place_side
  have key : ∀ {u v : api_Spot}, InB u → InB v → (cond (decide (u.Y ≤ p.Y)) (cond (decide (p.Y < v.Y)) (some (decide (0 < sd u.X u.Y v.X v.Y p.X p.Y))) (some false)) (some false)) = some (decide (hitU u.X u.Y v.X v.Y p.X p.Y)) := by
    intro u v hu hv
    unfold hitU
    by_cases h1 : u.Y ≤ p.Y <;> by_cases h2 : p.Y < v.Y <;> by_cases h3 : 0 < sd u.X u.Y v.X v.Y p.X p.Y <;> simp [h1, h2, h3]
  have fin : ∀ h : Bool, (cond h (some (!s)) (some s)) = some (s ^^ h) := by intro h; cases h <;> cases s <;> rfl
  by_cases hc : b.Y < a.Y
  · have ht : htB p (a, b) = decide (hitU b.X b.Y a.X a.Y p.X p.Y) := hit_dn (a := pt a) (b := pt b) (p := pt p) hc
    simp only [hc, decide_true, cond_true, Option.bind_some, side_wrap hb ha hp, key hb ha, ← ht, fin]
  · have ht : htB p (a, b) = decide (hitU a.X a.Y b.X b.Y p.X p.Y) := hit_up (a := pt a) (b := pt b) (p := pt p) (by show a.Y ≤ b.Y; omega)
    simp only [hc, decide_false, cond_false, Option.bind_some, side_wrap ha hb hp, key ha hb, ← ht, fin]
theorem fold_par {α} (f : α → Bool) (l : List α) (s : Bool) : l.foldl (fun s e => s ^^ f e) s = (s ^^ par f l) := by
  induction l generalizing s with
  | nil => simp [par]
  | cons a l ih => rw [List.foldl_cons, ih]; simp only [par]; rw [Bool.xor_assoc]
theorem inn_pt (l : List api_Spot) (p : api_Spot) : inn (l.map pt) (pt p) = par (htB p) (ring l) := by
  unfold inn
  rw [ring_pt, par_map]
  rfl
theorem edges_in {l : List api_Spot} (hl : l.length ≤ 200) (hb : ∀ s ∈ l, InB s) {p : api_Spot} (hp : InB p) :
    place_edges_f1_place_where_2 l p false = some (inn (l.map pt) (pt p)) := by
  have hlen := ring_len l
  unfold place_edges_f1_place_where_2
  have := (gather_loop (l := ring l) (f := place_edges_f1_place_where_2_x1 l p) (fun (s : Bool) i => (s, i)) (fun s e => s ^^ htB p e) id (fun _ _ => True) (s0 := false) (by omega) (fun i hi s _ => by
    have hi' : i < l.length := by omega
    obtain ⟨a1, a2, a3⟩ := edge_at (l := l) (by omega) hi'
    have hx := inb_ring hb (List.getElem_mem hi)
    generalize (ring l)[i] = x at a1 a2 hx
    unfold place_edges_f1_place_where_2_x1
    have h : (i : Int) < l.length := by omega
    simp only [h, decide_true, cond_true, a1, a2, gd_true a3, Option.bind_some, where2_eq hx.1 hx.2 hp]
    exact ⟨trivial, trivial⟩) (fun s _ => by rw [hlen]; unfold place_edges_f1_place_where_2_x1; simp) trivial).1
  rw [this, fold_par, inn_pt]
  simp
/-- where a spot is -/
noncomputable def wher (l : List api_Spot) (p : api_Spot) : Int := if ∃ e ∈ ring l, onB e p = true then 1 else if inn (l.map pt) (pt p) = true then 2 else 0
theorem where_eq {l : List api_Spot} (hl : l.length ≤ 200) (hb : ∀ s ∈ l, InB s) {p : api_Spot} (hp : InB p) : place_where l p = some (wher l p) := by
  unfold place_where wher
  rw [edges_on hl hb hp, edges_in hl hb hp]
  by_cases h : ∃ e ∈ ring l, onB e p = true
  · rw [if_pos h, (List.any_eq_true).2 h]; rfl
  · rw [if_neg h]
    have : ((ring l).any fun e => onB e p) = false := by rw [← Bool.not_eq_true, List.any_eq_true]; exact h
    rw [this]
    cases hh : inn (l.map pt) (pt p) <;> rfl

/-! ### The document's way: how often the edges go round -/
end Go.Eng

/-
The streams.
-/
namespace Go.Eng
open Go
set_option linter.unusedVariables false
set_option linter.unusedSimpArgs false

theorem wrap_I64 (n : Int) : I64 (IntKind.wrap .i64 n) := by
  unfold IntKind.wrap I64
  simp [IntKind.bits, IntKind.signed]
  split <;> omega

theorem Below_eq {x n : Int} (hx : I64 x) (hn : I64 n) : fleetmake_Below x n = some (if n < 1 then 0 else x % n) := by
  unfold I64 at hx hn
  unfold fleetmake_Below fleetmake_Below_x1
  by_cases h : n < 1
  · simp [h]
  · have h0 : (n == 0) = false := by simp; omega
    have e := Int.emod_eq_tmod (a := x) (b := n)
    have nn := Int.emod_nonneg x (show n ≠ 0 by omega)
    have lt := Int.emod_lt_of_pos x (show 0 < n by omega)
    simp only [h, decide_false, cond_false, h0, Bool.not_false, gd, cond_true, Option.bind_some, if_false]
    by_cases h3 : x.tmod n < 0
    · simp only [h3, decide_true, cond_true, Option.bind_some]
      split at e
      · omega
      · rw [wrap64 (by omega) (by omega)]
        congr 1
        omega
    · simp only [h3, decide_false, cond_false, Option.bind_some]
      congr 1
      split at e <;> omega
theorem Below_ok {x n : Int} (hx : I64 x) (hn : I64 n) : Ok (fleetmake_Below x n) (fun r => (1 ≤ n → 0 ≤ r ∧ r < n) ∧ (n < 1 → r = 0)) := by
  refine .of_eq (Below_eq hx hn) ⟨fun h => ?_, fun h => by simp [h]⟩
  rw [if_neg (by omega)]
  exact ⟨Int.emod_nonneg _ (by omega), Int.emod_lt_of_pos _ (by omega)⟩

/-- A stream whose numbers are of 64 bits, of which at most k were taken. -/
def StrOk (k : Nat) (s : fleetmake_Stream) : Prop := 0 ≤ s.at_ ∧ s.at_ ≤ k ∧ s.L.length ≤ 9223372036854775807 ∧ ∀ n ∈ s.L, I64 n
theorem StrOk.mono {k k' : Nat} {s : fleetmake_Stream} (h : StrOk k s) (hk : k ≤ k') : StrOk k' s := ⟨h.1, by have := h.2.1; omega, h.2.2⟩
/-- One number further. -/
abbrev nxt (s : fleetmake_Stream) : fleetmake_Stream := fleetmake_Stream.mk s.L (IntKind.wrap .i64 (s.at_ + 1))
theorem StrOk.nxt {k : Nat} {s : fleetmake_Stream} (h : StrOk k s) (hk : k < 1099511627776) : StrOk (k + 1) (nxt s) := by
  obtain ⟨h1, h2, h3, h4⟩ := h
  refine ⟨?_, ?_, h3, h4⟩
  · show 0 ≤ IntKind.wrap .i64 (s.at_ + 1)
    rw [wrap64 (by omega) (by omega)]; omega
  · show IntKind.wrap .i64 (s.at_ + 1) ≤ _
    rw [wrap64 (by omega) (by omega)]; omega

theorem Next_ok {k : Nat} {s : fleetmake_Stream} {n : Int} (h : StrOk k s) (hk : k < 1099511627776) (hn : I64 n) : Ok (fleetmake_Stream_Next s n) (fun r => (1 ≤ n → 0 ≤ r ∧ r < n) ∧ (n < 1 → r = 0)) := by
  obtain ⟨h1, h2, h3, h4⟩ := h
  unfold fleetmake_Stream_Next
  refine .cond (fun _ => ?_) (fun hl => ?_)
  · exact (Below_ok (wrap_I64 _) hn).bind fun r hr => .some hr
  · have hl' : s.L.length ≠ 0 := by simpa using hl
    have e1 : IntKind.wrap .i64 (s.at_ + 1) = s.at_ + 1 := wrap64 (by omega) (by omega)
    have e2 : IntKind.wrap .i64 (s.at_ + 1 - 1) = s.at_ := by rw [wrap64 (by omega) (by omega)]; omega
    refine .gd (by simpa using hl') ?_
    rw [e1, e2]
    refine (at_mem (tmod_nonneg h1) (tmod_lt' (by omega))).bind fun y hy => ?_
    refine (Below_ok (h4 y hy) (by unfold I64; omega)).bind fun r1 hr1 => ?_
    exact (Below_ok (wrap_I64 _) hn).bind fun r hr => .some hr

theorem Pick_ok {k : Nat} {s : fleetmake_Stream} {l : List Int} (h : StrOk k s) (hk : k < 1099511627776) (hl : 0 < l.length) (hl2 : l.length < 1000) : Ok (fleetmake_Stream_Pick_o1 s l) (fun r => r ∈ l) := by
  unfold fleetmake_Stream_Pick_o1
  refine (Next_ok h hk (by unfold I64; omega)).bind fun r hr => ?_
  have := hr.1 (by omega)
  exact (at_mem this.1 this.2).bind fun y hy => .some hy
theorem Flip_ok {k : Nat} {s : fleetmake_Stream} {n : Int} (h : StrOk k s) (hk : k < 1099511627776) (hn : I64 n) : Ok (fleetmake_Stream_Flip s n) (fun _ => True) := by
  unfold fleetmake_Stream_Flip
  exact (Next_ok h hk hn).bind fun r hr => .some trivial
theorem Range_ok {k : Nat} {s : fleetmake_Stream} {low high : Int} (h : StrOk k s) (hk : k < 1099511627776) (hlow : -4611686018427387903 < low ∧ low < 4611686018427387904) (hh : -4611686018427387904 < high ∧ high < 4611686018427387903) :
    Ok (fleetmake_Stream_Range s low high) (fun r => StrOk (k + 1) r.1 ∧ low ≤ r.2 ∧ (low ≤ high → r.2 ≤ high) ∧ (high < low → r.2 = low)) := by
  unfold fleetmake_Stream_Range
  refine .cond (fun hc => ?_) (fun hc => ?_)
  · have hc' : high < low := by simpa using hc
    exact .some ⟨h.mono (by omega), Int.le_refl _, by intro h; omega, fun _ => rfl⟩
  · have hc' : ¬ high < low := by simpa using hc
    have e1 : IntKind.wrap .i64 (high - low) = high - low := wrap64 (by omega) (by omega)
    have e2 : IntKind.wrap .i64 (high - low + 1) = high - low + 1 := wrap64 (by omega) (by omega)
    rw [e1, e2]
    refine (Next_ok h hk (by unfold I64; omega)).bind fun r hr => ?_
    have := hr.1 (by omega)
    refine .some ⟨h.nxt hk, ?_, fun _ => ?_, fun h => by omega⟩
    · show low ≤ IntKind.wrap .i64 (low + r)
      rw [wrap64 (by omega) (by omega)]; omega
    · show IntKind.wrap .i64 (low + r) ≤ high
      rw [wrap64 (by omega) (by omega)]; omega
end Go.Eng

/-
Fences that streams make.
-/
namespace Go.Eng
open Go Geo
open scoped Classical
set_option linter.unusedVariables false
set_option linter.unusedSimpArgs false

theorem Place_ok {k : Nat} {s : fleetmake_Stream} (h : StrOk k s) (hk : k + 2 < 1099511627776) : Ok (fleetmake_Stream_Place s) (fun p => (-5 ≤ p.X ∧ p.X ≤ 20) ∧ (-5 ≤ p.Y ∧ p.Y ≤ 20)) := by
  unfold fleetmake_Stream_Place
  refine (Pick_ok h (by omega) (by simp) (by simp)).bind fun x hx => (Pick_ok (h.nxt (by omega)) (by omega) (by simp) (by simp)).bind fun y hy => .some ?_
  simp only [List.mem_cons, List.not_mem_nil, or_false] at hx hy
  show (-5 ≤ x ∧ x ≤ 20) ∧ (-5 ≤ y ∧ y ≤ 20)
  omega
theorem corners_some (l : List api_Spot) : ∃ c, fleetref2_CornersFault l = some c ∧ (c = 0 → FRight l) := by
  obtain ⟨c, c1, c2, -⟩ := corners_both (api_Fence.mk [] l) (by simp)
  exact ⟨c, c1, c2⟩
theorem right_of_zero {l : List api_Spot} (h : fleetref2_CornersFault l = some 0) : FRight l := by
  obtain ⟨c, c1, c2⟩ := corners_some l
  rw [h] at c1
  exact c2 (Option.some.inj c1).symm
theorem shape0 : fleetref2_CornersFault [api_Spot.mk 0 0, api_Spot.mk 10 0, api_Spot.mk 10 10, api_Spot.mk 5 3, api_Spot.mk 0 10] = some 0 := by kernel_rfl
theorem shape1 : fleetref2_CornersFault [api_Spot.mk 0 10, api_Spot.mk 10 10, api_Spot.mk 10 0, api_Spot.mk 0 0] = some 0 := by kernel_rfl
theorem shape2 : fleetref2_CornersFault [api_Spot.mk 0 0, api_Spot.mk 8 0, api_Spot.mk 8 2, api_Spot.mk 2 2, api_Spot.mk 2 6, api_Spot.mk 8 6, api_Spot.mk 8 8, api_Spot.mk 0 8] = some 0 := by kernel_rfl
theorem shape3 : fleetref2_CornersFault [api_Spot.mk 0 0, api_Spot.mk 10 0, api_Spot.mk 10 10, api_Spot.mk 0 10] = some 0 := by kernel_rfl

theorem spots_ok {k : Nat} {s : fleetmake_Stream} {n : Int} (h : StrOk k s) (hk : k + 100 < 1099511627776) (hn : 0 ≤ n ∧ n ≤ 6) :
    Ok (loopO (fleetmake_Stream_RightFence_x2 n) (s, [], 0)) (fun r => StrOk (k + 12) r.1 ∧ r.2.length ≤ 6) := by
  refine loop_ok (fun q : fleetmake_Stream × List api_Spot × Int => ∃ j : Nat, q.2.2 = (j : Int) ∧ (j : Int) ≤ n ∧ q.2.1.length = j ∧ StrOk (k + 2 * j) q.1) (fun q => (n - q.2.2).toNat) ?_ ⟨0, rfl, by simpa using hn.1, rfl, by simpa using h⟩
  rintro ⟨s, l, i⟩ ⟨j, rfl, j1, j2, j3⟩
  simp only at j2 j3
  unfold fleetmake_Stream_RightFence_x2
  refine .cond (fun hc => ?_) (fun hc => ?_)
  · have hc : (j : Int) < n := by simpa using hc
    refine (Place_ok j3 (by omega)).bind fun p hp => .gd (ble_lim (by simp; omega)) ?_
    have w1 : IntKind.wrap .i64 ((j : Int) + 1) = ((j + 1 : Nat) : Int) := by rw [wrap64 (by omega) (by omega)]; omega
    refine .some ⟨⟨j + 1, w1, by omega, by simp; omega, ((j3.nxt (by omega)).nxt (by omega)).mono (by omega)⟩, ?_⟩
    show (n - IntKind.wrap .i64 ((j : Int) + 1)).toNat < _
    rw [w1]; simp only; omega
  · exact .some ⟨j3.mono (by omega), by show l.length ≤ 6; omega⟩
theorem wide_ok {k : Nat} {s : fleetmake_Stream} {l : List api_Spot} (h : StrOk k s) (hk : k + 100 < 1099511627776) (hl : l.length ≤ 6) :
    Ok (loopO (fleetmake_Stream_RightFence_x4 l) (s, l, 0)) (fun r => StrOk (k + 6) r.1 ∧ r.2.length ≤ 6) := by
  refine loop_ok (fun q : fleetmake_Stream × List api_Spot × Int => ∃ j : Nat, q.2.2 = (j : Int) ∧ j ≤ l.length ∧ q.2.1.length = l.length ∧ StrOk (k + j) q.1) (fun q => ((l.length : Int) - q.2.2).toNat) ?_ ⟨0, rfl, by omega, rfl, by simpa using h⟩
  rintro ⟨s, m, i⟩ ⟨j, rfl, j1, j2, j3⟩
  simp only at j2 j3
  unfold fleetmake_Stream_RightFence_x4
  refine .cond (fun hc => ?_) (fun hc => ?_)
  · have hc : (j : Int) < l.length := by simpa using hc
    refine (at_mem (l := m) (n := (j : Int)) (by omega) (by omega)).bind fun y hy => (Pick_ok j3 (by omega) (by simp) (by simp)).bind fun x hx => ?_
    have w1 : IntKind.wrap .i64 ((j : Int) + 1) = ((j + 1 : Nat) : Int) := by rw [wrap64 (by omega) (by omega)]; omega
    refine .some ⟨⟨j + 1, w1, by omega, by simp; omega, (j3.nxt (by omega)).mono (by omega)⟩, ?_⟩
    show ((l.length : Int) - IntKind.wrap .i64 ((j : Int) + 1)).toNat < _
    rw [w1]; simp only; omega
  · exact .some ⟨j3.mono (by omega), by show m.length ≤ 6; omega⟩
theorem RightFence_ok {k : Nat} {s : fleetmake_Stream} (h : StrOk k s) (hk : k + 1000 < 1099511627776) :
    Ok (fleetmake_Stream_RightFence s) (fun r => StrOk (k + 100) r.1 ∧ fleetref2_CornersFault r.2 = some 0 ∧ r.2.length ≤ 8) := by
  unfold fleetmake_Stream_RightFence
  have key : Ok (loopO fleetmake_Stream_RightFence_x1 (s, 0)) (fun r => match r with | .inl s' => StrOk (k + 90) s' | .inr q => StrOk (k + 90) q.1 ∧ fleetref2_CornersFault q.2 = some 0 ∧ q.2.length ≤ 6) := by
    refine loop_ok (fun q : fleetmake_Stream × Int => ∃ j : Nat, q.2 = (j : Int) ∧ j ≤ 4 ∧ StrOk (k + 20 * j) q.1) (fun q => ((4 : Int) - q.2).toNat) ?_ ⟨0, rfl, by omega, by simpa using h⟩
    rintro ⟨s, i⟩ ⟨j, rfl, j1, j3⟩
    simp only at j3
    unfold fleetmake_Stream_RightFence_x1
    refine .cond (fun hc => ?_) (fun hc => ?_)
    · have hc : (j : Int) < 4 := by simpa using hc
      refine (Range_ok j3 (by omega) (by omega) (by omega)).bind fun ⟨s1, n⟩ ⟨r1, r2, r3, _⟩ => ?_
      simp only at r1 r2 r3
      refine (spots_ok r1 (by omega) ⟨by omega, r3 (by omega)⟩).bind fun ⟨s2, l2⟩ ⟨q1, q2⟩ => ?_
      simp only at q1 q2
      have hx3 : Ok (fleetmake_Stream_RightFence_x3 s2 l2) (fun r => StrOk (k + 20 * j + 20) r.1 ∧ r.2.length ≤ 6) := by
        unfold fleetmake_Stream_RightFence_x3
        refine (Flip_ok q1 (by omega) (by unfold I64; omega)).bind fun b _ => .cond (fun _ => ?_) (fun _ => ?_)
        · refine (wide_ok (q1.nxt (by omega)) (by omega) q2).bind fun ⟨s3, l3⟩ ⟨p1, p2⟩ => .some ⟨p1.mono (by omega), p2⟩
        · exact .some ⟨(q1.nxt (by omega)).mono (by omega), q2⟩
      refine hx3.bind fun ⟨s4, l4⟩ ⟨p1, p2⟩ => ?_
      simp only at p1 p2
      obtain ⟨c, c1, c2⟩ := corners_some l4
      simp only [c1, Option.bind_some]
      refine .cond (fun hc0 => ?_) (fun _ => ?_)
      · have hc0 : c = 0 := by simpa using hc0
        exact .some ⟨p1.mono (by omega), by rw [c1, hc0], p2⟩
      · have w1 : IntKind.wrap .i64 ((j : Int) + 1) = ((j + 1 : Nat) : Int) := by rw [wrap64 (by omega) (by omega)]; omega
        refine .some ⟨⟨j + 1, w1, by omega, p1.mono (by omega)⟩, ?_⟩
        show ((4 : Int) - IntKind.wrap .i64 ((j : Int) + 1)).toNat < _
        rw [w1]; omega
    · exact .some (j3.mono (by omega))
  refine key.bind fun r hr => ?_
  cases r with
  | inr q =>
    obtain ⟨s', l'⟩ := q
    exact .some ⟨hr.1.mono (by omega), hr.2.1, by have := hr.2.2; simp only at this ⊢; omega⟩
  | inl s' =>
    have hr : StrOk (k + 90) s' := hr
    have hx5 : Ok (fleetmake_Stream_RightFence_x5 s') (fun l => fleetref2_CornersFault l = some 0 ∧ l.length ≤ 8) := by
      unfold fleetmake_Stream_RightFence_x5
      refine (Next_ok hr (by omega) (by unfold I64; omega)).bind fun n _ => .cond (fun _ => .some ⟨shape0, by simp⟩) (fun _ => .cond (fun _ => .some ⟨shape1, by simp⟩) (fun _ => .cond (fun _ => .some ⟨shape2, by simp⟩) (fun _ => .some ⟨shape3, by simp⟩)))
    refine hx5.bind fun l hl => .some ⟨(hr.nxt (by omega)).mono (by omega), hl.1, hl.2⟩
end Go.Eng

/-
Series and windows; faults.
-/
namespace Go.Eng
open Go
set_option linter.unusedVariables false
set_option linter.unusedSimpArgs false

end Go.Eng

/-
Fractions: products of 128 bits, and less, both ways.
-/
namespace Go.Eng
open Go Geo
open scoped Classical
set_option linter.unusedVariables false
set_option linter.unusedSimpArgs false

theorem wrapU (n : Int) : IntKind.wrap .u64 n = n % 18446744073709551616 := by
  unfold IntKind.wrap
  simp [IntKind.bits, IntKind.signed]
theorem shr32 {n : Int} (h : 0 ≤ n) : ishr .u64 n 32 = n / 4294967296 := by
  unfold ishr
  have : (2 : Int) ^ (min (32 : Int).toNat (IntKind.bits .u64)) = 4294967296 := by decide
  rw [this]
  exact Int.fdiv_eq_ediv_of_nonneg _ (by omega)
theorem and32 {n : Int} (h : 0 ≤ n) (h2 : n < 18446744073709551616) : ibits .and .u64 n 4294967295 = n % 4294967296 := by
  unfold ibits
  have e : (BitVec.ofInt (IntKind.bits .u64) n &&& BitVec.ofInt (IntKind.bits .u64) 4294967295).toNat = n.toNat % 4294967296 := by
    have hb : IntKind.bits .u64 = 64 := rfl
    rw [hb, BitVec.toNat_and]
    have e1 : (BitVec.ofInt 64 n).toNat = n.toNat := by
      rw [BitVec.toNat_ofInt]; omega
    have e2 : (BitVec.ofInt 64 4294967295).toNat = 4294967295 := by decide
    rw [e1, e2]
    exact Nat.and_two_pow_sub_one_eq_mod n.toNat 32
  simp only [e]
  rw [wrapU]
  omega
/-- the high half of a product, as the code makes it -/
def mulH (x y : Int) : Int :=
  (IntKind.wrap .u64 ((IntKind.wrap .u64 ((IntKind.wrap .u64 ((ishr .u64 (IntKind.wrap .u64 (x)) 32) * (ishr .u64 (IntKind.wrap .u64 (y)) 32))) + (ishr .u64 (IntKind.wrap .u64 ((IntKind.wrap .u64 ((ishr .u64 (IntKind.wrap .u64 (x)) 32) * (ibits .and .u64 (IntKind.wrap .u64 (y)) 4294967295))) + (ishr .u64 (IntKind.wrap .u64 ((ibits .and .u64 (IntKind.wrap .u64 (x)) 4294967295) * (ibits .and .u64 (IntKind.wrap .u64 (y)) 4294967295))) 32))) 32))) + (ishr .u64 (IntKind.wrap .u64 ((ibits .and .u64 (IntKind.wrap .u64 ((IntKind.wrap .u64 ((ishr .u64 (IntKind.wrap .u64 (x)) 32) * (ibits .and .u64 (IntKind.wrap .u64 (y)) 4294967295))) + (ishr .u64 (IntKind.wrap .u64 ((ibits .and .u64 (IntKind.wrap .u64 (x)) 4294967295) * (ibits .and .u64 (IntKind.wrap .u64 (y)) 4294967295))) 32))) 4294967295) + (IntKind.wrap .u64 ((ibits .and .u64 (IntKind.wrap .u64 (x)) 4294967295) * (ishr .u64 (IntKind.wrap .u64 (y)) 32))))) 32)))
theorem mod_mul_bd {a b m k : Int} (ha : 0 ≤ a ∧ a ≤ m) (hb : 0 ≤ b ∧ b ≤ k) : 0 ≤ a * b ∧ a * b ≤ m * k := by
  have := mul_bd (x := a) (y := b) (m := m) (k := k) (by omega) (by omega)
  have := PP ha.1 hb.1
  omega
theorem mulH_eq {x y : Int} (hx : 0 ≤ x ∧ x < 9223372036854775808) (hy : 0 ≤ y ∧ y < 9223372036854775808) : mulH x y = x * y / 18446744073709551616 := by
  unfold mulH
  have wx : IntKind.wrap .u64 x = x := by rw [wrapU]; omega
  have wy : IntKind.wrap .u64 y = y := by rw [wrapU]; omega
  rw [wx, wy, shr32 hx.1, shr32 hy.1, and32 hx.1 (by omega), and32 hy.1 (by omega)]
  have x1 : 0 ≤ x / 4294967296 ∧ x / 4294967296 ≤ 2147483647 := by omega
  have y1 : 0 ≤ y / 4294967296 ∧ y / 4294967296 ≤ 2147483647 := by omega
  have x0 : 0 ≤ x % 4294967296 ∧ x % 4294967296 ≤ 4294967295 := by omega
  have y0 : 0 ≤ y % 4294967296 ∧ y % 4294967296 ≤ 4294967295 := by omega
  have hxy : x * y = (x / 4294967296 * (y / 4294967296)) * 18446744073709551616 + (x / 4294967296 * (y % 4294967296) + x % 4294967296 * (y / 4294967296)) * 4294967296 + x % 4294967296 * (y % 4294967296) := by
    have e1 : x = x / 4294967296 * 4294967296 + x % 4294967296 := by omega
    have e2 : y = y / 4294967296 * 4294967296 + y % 4294967296 := by omega
    generalize x / 4294967296 = a at *
    generalize x % 4294967296 = b at *
    generalize y / 4294967296 = c at *
    generalize y % 4294967296 = d at *
    rw [e1, e2]
    grind
  have bA := mod_mul_bd x1 y1
  have bB := mod_mul_bd x1 y0
  have bC := mod_mul_bd x0 y1
  have bD := mod_mul_bd x0 y0
  rw [hxy]
  generalize x / 4294967296 * (y / 4294967296) = A at *
  generalize x / 4294967296 * (y % 4294967296) = B at *
  generalize x % 4294967296 * (y / 4294967296) = C at *
  generalize x % 4294967296 * (y % 4294967296) = D at *
  clear hxy wx wy x1 y1 x0 y0 hx hy
  rw [wrapU A, wrapU B, wrapU C, wrapU D]
  rw [Int.emod_eq_of_lt (a := A) (by omega) (by omega), Int.emod_eq_of_lt (a := B) (by omega) (by omega), Int.emod_eq_of_lt (a := C) (by omega) (by omega), Int.emod_eq_of_lt (a := D) (by omega) (by omega)]
  rw [shr32 (n := D) (by omega), wrapU (B + D / 4294967296), Int.emod_eq_of_lt (a := B + D / 4294967296) (by omega) (by omega)]
  rw [shr32 (n := B + D / 4294967296) (by omega), and32 (n := B + D / 4294967296) (by omega) (by omega)]
  rw [wrapU ((B + D / 4294967296) % 4294967296 + C), Int.emod_eq_of_lt (a := (B + D / 4294967296) % 4294967296 + C) (by omega) (by omega)]
  rw [shr32 (n := (B + D / 4294967296) % 4294967296 + C) (by omega)]
  rw [wrapU (A + (B + D / 4294967296) / 4294967296), Int.emod_eq_of_lt (a := A + (B + D / 4294967296) / 4294967296) (by omega) (by omega)]
  rw [wrapU, Int.emod_eq_of_lt (by omega) (by omega)]
  omega
theorem mulL_eq {x y : Int} (hx : 0 ≤ x ∧ x < 9223372036854775808) (hy : 0 ≤ y ∧ y < 9223372036854775808) : IntKind.wrap .u64 (IntKind.wrap .u64 x * IntKind.wrap .u64 y) = x * y % 18446744073709551616 := by
  have wx : IntKind.wrap .u64 x = x := by rw [wrapU]; omega
  have wy : IntKind.wrap .u64 y = y := by rw [wrapU]; omega
  rw [wx, wy, wrapU]
theorem cmpP_eq {a b c d : Int} (ha : 0 ≤ a ∧ a < 9223372036854775808) (hb : 0 ≤ b ∧ b < 9223372036854775808) (hc : 0 ≤ c ∧ c < 9223372036854775808) (hd : 0 ≤ d ∧ d < 9223372036854775808) :
    base_CompareProducts a b c d = some (cmpI (a * b) (c * d)) := by
  unfold base_CompareProducts bits_Mul64
  have e2 : base_CompareProducts_x2 a b c d = cond (!decide (mulH a b = mulH c d)) (some (decide (mulH a b < mulH c d))) (some false) := rfl
  have e1 : base_CompareProducts_x1 a b c d = (base_CompareProducts_x2 a b c d).bind fun vx1 => cond vx1 (some vx1) (cond (decide (mulH a b = mulH c d)) (some (decide (IntKind.wrap .u64 (IntKind.wrap .u64 a * IntKind.wrap .u64 b) < IntKind.wrap .u64 (IntKind.wrap .u64 c * IntKind.wrap .u64 d)))) (some false)) := rfl
  have e3 : base_CompareProducts_x3 a b c d = cond (decide (mulH a b = mulH c d)) (some (decide (IntKind.wrap .u64 (IntKind.wrap .u64 a * IntKind.wrap .u64 b) = IntKind.wrap .u64 (IntKind.wrap .u64 c * IntKind.wrap .u64 d)))) (some false) := rfl
  rw [e1, e2, e3, mulH_eq ha hb, mulH_eq hc hd, mulL_eq ha hb, mulL_eq hc hd]
  have p1 := PP ha.1 hb.1
  have p2 := PP hc.1 hd.1
  generalize a * b = P at *
  generalize c * d = Q at *
  unfold cmpI
  by_cases h1 : P / 18446744073709551616 = Q / 18446744073709551616
  · by_cases h2 : P % 18446744073709551616 < Q % 18446744073709551616
    · have : P < Q := by omega
      simp [h1, h2, this]
    · by_cases h3 : P % 18446744073709551616 = Q % 18446744073709551616
      · have : P = Q := by omega
        subst this
        simp
      · have n1 : ¬ P < Q := by omega
        have n2 : Q < P := by omega
        simp [h1, h2, h3, n1, n2]
  · by_cases h2 : P / 18446744073709551616 < Q / 18446744073709551616
    · have : P < Q := by omega
      simp [h1, h2, this]
    · have n1 : ¬ P < Q := by omega
      have n2 : Q < P := by omega
      simp [h1, h2, n1, n2]

/-! ### Fractions -/
/-- a fraction as distances are -/
def FrR (f : api_Fraction) : Prop := (0 ≤ f.Num ∧ f.Num ≤ 1000000000000000000) ∧ (1 ≤ f.Den ∧ f.Den ≤ 1000000000000000000)
def frL (a b : api_Fraction) : Bool := decide (a.Num * b.Den < b.Num * a.Den)
theorem pless_eq {a b : api_Fraction} (ha : FrR a) (hb : FrR b) : place_less a b = some (frL a b) := by
  obtain ⟨a1, a2⟩ := ha; obtain ⟨b1, b2⟩ := hb
  unfold place_less frL
  rw [cmpP_eq (by omega) (by omega) (by omega) (by omega)]
  simp only [Option.bind_some]
  congr 1
  rw [decide_eq_decide]
  unfold cmpI
  (repeat' split) <;> omega
end Go.Eng

/-
The law FencesTell: areas and boxes, both ways.
-/
namespace Go.Eng
open Go Geo
open scoped Classical
set_option linter.unusedVariables false
set_option linter.unusedSimpArgs false

/-! ### Areas -/
/-! ### Boxes -/
def bx (l : List api_Spot) (c : api_Spot) : api_Spot × api_Spot :=
  (api_Spot.mk ((l.map (·.X)).foldl min c.X) ((l.map (·.Y)).foldl min c.Y), api_Spot.mk ((l.map (·.X)).foldl max c.X) ((l.map (·.Y)).foldl max c.Y))
end Go.Eng

/-
The law FencesTell.
-/
namespace Go.Eng
open Go Geo
open scoped Classical
set_option linter.unusedVariables false
set_option linter.unusedSimpArgs false

end Go.Eng

/-
How far, and where surely: both ways.
-/
namespace Go.Eng
open Go Geo
open scoped Classical
set_option linter.unusedVariables false
set_option linter.unusedSimpArgs false

/-! ### The greatest common divisor -/
theorem gcd_loop {f : Int × Int → Option ((Int × Int) ⊕ Int)} (hf : ∀ a b, f (a, b) = cond (!decide (b = 0)) (gd (!(b == 0)) (some (.inl (b, a.tmod b)))) (some (.inr a))) {a b : Int} (ha : 0 ≤ a) (hb : 0 ≤ b) :
    loopO f (a, b) = some ((a.toNat.gcd b.toNat : Nat) : Int) := by
  apply Ok.eq
  refine loop_ok (fun q : Int × Int => 0 ≤ q.1 ∧ 0 ≤ q.2 ∧ q.1.toNat.gcd q.2.toNat = a.toNat.gcd b.toNat) (fun q => q.2.toNat) ?_ ⟨ha, hb, rfl⟩
  rintro ⟨x, y⟩ ⟨h1, h2, h3⟩
  simp only at h1 h2 h3
  rw [hf]
  refine .cond (fun hc => ?_) (fun hc => ?_)
  · have hy : y ≠ 0 := by simpa using hc
    have m1 : x.tmod y = x % y := Int.tmod_eq_emod_of_nonneg h1
    have m2 := Int.emod_nonneg x hy
    have m3 := Int.emod_lt_of_pos x (show 0 < y by omega)
    rw [m1]
    refine .gd (by simpa using hy) (.some ⟨⟨h2, m2, ?_⟩, by simp only; omega⟩)
    simp only
    rw [← h3]
    have e : (x % y).toNat = x.toNat % y.toNat := by
      obtain ⟨n, rfl⟩ := Int.eq_ofNat_of_zero_le h1
      obtain ⟨m, rfl⟩ := Int.eq_ofNat_of_zero_le h2
      simp only [Int.ofNat_eq_natCast, Int.toNat_natCast]
      rw [← Int.natCast_emod, Int.toNat_natCast]
    rw [e, Nat.gcd_comm y.toNat, ← Nat.gcd_rec, Nat.gcd_comm]
  · have hy : y = 0 := by simpa using hc
    subst hy
    refine .some ?_
    have h3 : x.toNat.gcd 0 = a.toNat.gcd b.toNat := h3
    rw [Nat.gcd_zero_right] at h3
    omega
/-- a fraction in lowest terms -/
def lowF (n d : Int) : api_Fraction := api_Fraction.mk (n / ((n.toNat.gcd d.toNat : Nat) : Int)) (d / ((n.toNat.gcd d.toNat : Nat) : Int))
theorem gcd_facts {n d : Int} (hn : 0 ≤ n) (hd : 1 ≤ d) : 1 ≤ ((n.toNat.gcd d.toNat : Nat) : Int) ∧ ((n.toNat.gcd d.toNat : Nat) : Int) ≤ d := by
  have h1 : 0 < n.toNat.gcd d.toNat := Nat.gcd_pos_of_pos_right _ (by omega)
  have h2 : n.toNat.gcd d.toNat ≤ d.toNat := Nat.gcd_le_right _ (by omega)
  omega
theorem lowF_R {n d : Int} (hn : 0 ≤ n ∧ n ≤ 1000000000000000000) (hd : 1 ≤ d ∧ d ≤ 1000000000000000000) : FrR (lowF n d) := by
  obtain ⟨g1, g2⟩ := gcd_facts hn.1 hd.1
  unfold FrR lowF
  have e1 := Int.ediv_nonneg hn.1 (show 0 ≤ ((n.toNat.gcd d.toNat : Nat) : Int) by omega)
  have e2 := Int.ediv_le_self ((n.toNat.gcd d.toNat : Nat) : Int) hn.1
  have e3 := Int.ediv_le_self ((n.toNat.gcd d.toNat : Nat) : Int) (show 0 ≤ d by omega)
  have e4 : 1 ≤ d / ((n.toNat.gcd d.toNat : Nat) : Int) := (Int.le_ediv_iff_mul_le (by omega)).2 (by omega)
  simp only
  omega
theorem fraction_eq {n d : Int} (hn : 0 ≤ n ∧ n ≤ 1000000000000000000) (hd : 1 ≤ d ∧ d ≤ 1000000000000000000) : base_Fraction n d = some (lowF n d) := by
  unfold base_Fraction base_Gcd
  have e0 : imax n (IntKind.wrap .i64 (0 - n)) = n := by rw [wrap64 (by omega) (by omega), imax_eq]; omega
  have hR := lowF_R hn hd
  obtain ⟨g1, g2⟩ := gcd_facts hn.1 hd.1
  have hg : (!(((n.toNat.gcd d.toNat : Nat) : Int) == 0)) = true := by simp only [Bool.not_eq_true', beq_eq_false_iff_ne]; omega
  have t1 : n.tdiv ((n.toNat.gcd d.toNat : Nat) : Int) = n / ((n.toNat.gcd d.toNat : Nat) : Int) := Int.tdiv_eq_ediv_of_nonneg hn.1
  have t2 : d.tdiv ((n.toNat.gcd d.toNat : Nat) : Int) = d / ((n.toNat.gcd d.toNat : Nat) : Int) := Int.tdiv_eq_ediv_of_nonneg (by omega)
  rw [e0, gcd_loop (f := base_Gcd_x1) (fun a b => rfl) hn.1 (by omega)]
  simp only [Option.bind_some, gd_true hg, t1, t2]
  unfold FrR lowF at hR
  simp only at hR
  rw [wrap64 (n := n / _) (by omega) (by omega), wrap64 (n := d / _) (by omega) (by omega)]
  rfl
/-! ### How far a spot is from a way -/
def along (a b s : api_Spot) : Int := (s.X - a.X) * (b.X - a.X) + (s.Y - a.Y) * (b.Y - a.Y)
def sqS (a b : api_Spot) : Int := (a.X - b.X) * (a.X - b.X) + (a.Y - b.Y) * (a.Y - b.Y)
def farF (a b s : api_Spot) : api_Fraction :=
  if along a b s ≤ 0 then api_Fraction.mk (sqS a s) 1 else if sqS a b ≤ along a b s then api_Fraction.mk (sqS b s) 1 else lowF (sd a.X a.Y b.X b.Y s.X s.Y * sd a.X a.Y b.X b.Y s.X s.Y) (sqS a b)
theorem wdot {x y u v : Int} (hx : -20000 ≤ x ∧ x ≤ 20000) (hy : -20000 ≤ y ∧ y ≤ 20000) (hu : -20000 ≤ u ∧ u ≤ 20000) (hv : -20000 ≤ v ∧ v ≤ 20000) :
    IntKind.wrap .i64 (IntKind.wrap .i64 (x * y) + IntKind.wrap .i64 (u * v)) = x * y + u * v ∧ -800000000 ≤ x * y + u * v ∧ x * y + u * v ≤ 800000000 := by
  have m1 := wmul hx hy
  have m2 := wmul hu hv
  rw [m1.1, m2.1, wrap64 (by omega) (by omega)]
  exact ⟨rfl, by omega, by omega⟩
theorem sqS_bd {a b : api_Spot} (ha : InB a) (hb : InB b) : 0 ≤ sqS a b ∧ sqS a b ≤ 800000000 := by
  unfold InB at ha hb
  have := wdot (x := a.X - b.X) (y := a.X - b.X) (u := a.Y - b.Y) (v := a.Y - b.Y) (by omega) (by omega) (by omega) (by omega)
  have h1 := sq_nn (a.X - b.X)
  have h2 := sq_nn (a.Y - b.Y)
  unfold sqS; omega
theorem sdsq_bd {a b s : api_Spot} (ha : InB a) (hb : InB b) (hs : InB s) : 0 ≤ sd a.X a.Y b.X b.Y s.X s.Y * sd a.X a.Y b.X b.Y s.X s.Y ∧ sd a.X a.Y b.X b.Y s.X s.Y * sd a.X a.Y b.X b.Y s.X s.Y ≤ 640000000000000000 := by
  have h := sd_bd ha hb hs
  have := mul_bd (m := 800000000) (k := 800000000) h h
  have := sq_nn (sd a.X a.Y b.X b.Y s.X s.Y)
  omega
theorem farF_R {a b s : api_Spot} (ha : InB a) (hb : InB b) (hs : InB s) : FrR (farF a b s) := by
  have h1 := sqS_bd ha hs
  have h2 := sqS_bd hb hs
  have h3 := sqS_bd ha hb
  have h4 := sdsq_bd ha hb hs
  unfold farF
  split
  · unfold FrR; simp only; omega
  · split
    · unfold FrR; simp only; omega
    · exact lowF_R (by omega) (by omega)
theorem far_eq {a b s : api_Spot} (ha : InB a) (hb : InB b) (hs : InB s) : place_far a b s = some (farF a b s) := by
  have h3 := sqS_bd ha hb
  have h4 := sdsq_bd ha hb hs
  have hsd := side_wrap ha hb hs
  have h1 := ha; have h2 := hb; have h5 := hs
  unfold InB at h1 h2 h5
  unfold place_far place_square place_side
  simp only [Option.bind_some, hsd]
  rw [wrap64 (n := s.X - a.X) (by omega) (by omega), wrap64 (n := s.Y - a.Y) (by omega) (by omega), wrap64 (n := b.X - a.X) (by omega) (by omega), wrap64 (n := b.Y - a.Y) (by omega) (by omega),
    wrap64 (n := a.X - b.X) (by omega) (by omega), wrap64 (n := a.Y - b.Y) (by omega) (by omega), wrap64 (n := a.X - s.X) (by omega) (by omega), wrap64 (n := a.Y - s.Y) (by omega) (by omega),
    wrap64 (n := b.X - s.X) (by omega) (by omega), wrap64 (n := b.Y - s.Y) (by omega) (by omega)]
  rw [(wdot (x := s.X - a.X) (y := b.X - a.X) (u := s.Y - a.Y) (v := b.Y - a.Y) (by omega) (by omega) (by omega) (by omega)).1,
    (wdot (x := a.X - s.X) (y := a.X - s.X) (u := a.Y - s.Y) (v := a.Y - s.Y) (by omega) (by omega) (by omega) (by omega)).1,
    (wdot (x := a.X - b.X) (y := a.X - b.X) (u := a.Y - b.Y) (v := a.Y - b.Y) (by omega) (by omega) (by omega) (by omega)).1,
    (wdot (x := b.X - s.X) (y := b.X - s.X) (u := b.Y - s.Y) (v := b.Y - s.Y) (by omega) (by omega) (by omega) (by omega)).1]
  rw [wrap64 (n := sd a.X a.Y b.X b.Y s.X s.Y * sd a.X a.Y b.X b.Y s.X s.Y) (by omega) (by omega)]
  show cond (decide (along a b s ≤ 0)) (some (api_Fraction.mk (sqS a s) 1)) (cond (decide (sqS a b ≤ along a b s)) (some (api_Fraction.mk (sqS b s) 1)) ((base_Fraction (sd a.X a.Y b.X b.Y s.X s.Y * sd a.X a.Y b.X b.Y s.X s.Y) (sqS a b)).bind fun vr1 => some vr1)) = _
  unfold farF
  by_cases c1 : along a b s ≤ 0
  · simp only [c1, decide_true, cond_true, if_true]
  · by_cases c2 : sqS a b ≤ along a b s
    · simp only [c1, c2, decide_true, decide_false, cond_true, cond_false, if_true, if_false]
    · simp only [c1, c2, decide_false, cond_false, if_false]
      rw [fraction_eq (by omega) (by omega)]; rfl
/-! ### How far a spot is from the nearest edge -/
/-! ### Where surely -/
theorem err_R {x : Int} (h : 0 ≤ x ∧ x ≤ 10000) : IntKind.wrap .i64 (x * x) = x * x ∧ FrR ⟨x * x, 1⟩ := by
  have := mod_mul_bd (a := x) (b := x) (m := 10000) (k := 10000) h h
  exact ⟨wrap64 (by omega) (by omega), by unfold FrR; simp only; omega⟩
end Go.Eng

/-
The law FencesSure.
-/
namespace Go.Eng
open Go Geo
open scoped Classical
set_option linter.unusedVariables false
set_option linter.unusedSimpArgs false

end Go.Eng

/-
What the laws ask of each package once.
-/
namespace Go.Eng
open Go
end Go.Eng

/-
Tracks that streams make; where a device stays.
-/
namespace Go.Eng
open Go Geo
open scoped Classical
set_option linter.unusedVariables false
set_option linter.unusedSimpArgs false

def fsp (x : api_Fix) : api_Spot := api_Spot.mk x.X x.Y
/-- a fix as right tracks have it -/
def FixR (x : api_Fix) : Prop := x.Device = [100] ∧ InB (fsp x) ∧ (0 ≤ x.At ∧ x.At ≤ 20000) ∧ (0 ≤ x.Error ∧ x.Error ≤ 5)
def TrackR (l : List api_Fix) : Prop := l.length ≤ 14 ∧ (∀ x ∈ l, FixR x) ∧ l.Pairwise (fun x y => x.At < y.At)
theorem TrackR.lt {l : List api_Fix} (h : TrackR l) {i j : Nat} (hi : i < j) (hj : j < l.length) : (l[i]'(by omega)).At < l[j].At :=
  List.pairwise_iff_getElem.1 h.2.2 i j (by omega) hj hi

theorem RightTrack_ok {k : Nat} {s : fleetmake_Stream} {most : Int} (hm : 0 ≤ most ∧ most ≤ 14) (h : StrOk k s) (hk : k + 1000 < 1099511627776) : Ok (fleetmake_Stream_RightTrack s most) (fun r => StrOk (k + 200) r.1 ∧ TrackR r.2 ∧ (r.2.length : Int) ≤ most) := by
  unfold fleetmake_Stream_RightTrack
  refine (Place_ok h (by omega)).bind fun p hp => ?_
  refine (Range_ok ((h.nxt (by omega)).nxt (by omega)) (by omega) (by omega) (by omega)).bind fun ⟨s1, n⟩ ⟨r1, r2, r3, _⟩ => ?_
  have r3 : n ≤ most := r3 (by omega)
  have r2 : 0 ≤ n := r2
  have r1 : StrOk (k + 3) s1 := r1
  have key : Ok (loopO (fleetmake_Stream_RightTrack_x1 n) (s1, p, [], 0, 0)) (fun r => StrOk (k + 200) r.1 ∧ TrackR r.2 ∧ (r.2.length : Int) ≤ most) := by
    refine loop_ok (fun q : fleetmake_Stream × api_Spot × List api_Fix × Int × Int => ∃ j : Nat, q.2.2.2.2 = (j : Int) ∧ (j : Int) ≤ n ∧ q.2.2.1.length = j ∧ StrOk (k + 3 + 12 * j) q.1 ∧ (0 ≤ q.2.2.2.1 ∧ q.2.2.2.1 ≤ 1000 * (j : Int)) ∧
      ((-5 - 2 * (j : Int) ≤ q.2.1.X ∧ q.2.1.X ≤ 20 + 2 * (j : Int)) ∧ (-5 - 2 * (j : Int) ≤ q.2.1.Y ∧ q.2.1.Y ≤ 20 + 2 * (j : Int))) ∧ (∀ x ∈ q.2.2.1, FixR x ∧ x.At ≤ q.2.2.2.1) ∧ q.2.2.1.Pairwise (fun x y => x.At < y.At))
      (fun q => (n - q.2.2.2.2).toNat) ?_ ⟨0, rfl, by simpa using r2, rfl, by simpa using r1, by simp, by simp; omega, by simp, by simp⟩
    rintro ⟨s, p, l, at_, i⟩ ⟨j, rfl, j1, j2, j3, j4, j5, j6, j7⟩
    simp only at j2 j3 j4 j5 j6 j7
    unfold fleetmake_Stream_RightTrack_x1
    refine .cond (fun hc => ?_) (fun hc => ?_)
    · have hc : (j : Int) < n := by simpa using hc
      refine (Pick_ok j3 (by omega) (by simp) (by simp)).bind fun st hst => ?_
      have hst : 1 ≤ st ∧ st ≤ 1000 := by
        simp only [List.mem_cons, List.not_mem_nil, or_false] at hst; omega
      have a1 := j3.nxt (by omega)
      have hx2 : Ok (fleetmake_Stream_RightTrack_x2 s p) (fun r => StrOk (k + 3 + 12 * j + 5) r.1 ∧ ((-5 - 2 * ((j + 1 : Nat) : Int) ≤ r.2.X ∧ r.2.X ≤ 20 + 2 * ((j + 1 : Nat) : Int)) ∧ (-5 - 2 * ((j + 1 : Nat) : Int) ≤ r.2.Y ∧ r.2.Y ≤ 20 + 2 * ((j + 1 : Nat) : Int)))) := by
        unfold fleetmake_Stream_RightTrack_x2
        have a2 := a1.nxt (by omega)
        refine (Flip_ok a1 (by omega) (by unfold I64; omega)).bind fun b _ => .cond (fun _ => ?_) (fun _ => ?_)
        · exact (Place_ok a2 (by omega)).bind fun q hq => .some ⟨((a2.nxt (by omega)).nxt (by omega)).mono (by omega), by simp only; omega⟩
        · refine (Range_ok a2 (by omega) (by omega) (by omega)).bind fun ⟨s6, x⟩ ⟨x1, x2, x3, _⟩ => ?_
          have x3 : x ≤ 2 := x3 (by omega)
          have x2 : -2 ≤ x := x2
          refine (Range_ok x1 (by omega) (by omega) (by omega)).bind fun ⟨s7, y⟩ ⟨y1, y2, y3, _⟩ => ?_
          have y3 : y ≤ 2 := y3 (by omega)
          have y2 : -2 ≤ y := y2
          refine .some ⟨StrOk.mono y1 (by omega), ?_⟩
          simp only
          rw [wrap64 (by omega) (by omega), wrap64 (by omega) (by omega)]
          omega
      refine hx2.bind fun ⟨s8, p2⟩ ⟨b1, b2⟩ => ?_
      have b1 : StrOk (k + 3 + 12 * j + 5) s8 := b1
      simp only at b2
      refine (Pick_ok b1 (by omega) (by simp) (by simp)).bind fun er her => ?_
      have her : 0 ≤ er ∧ er ≤ 5 := by
        simp only [List.mem_cons, List.not_mem_nil, or_false] at her; omega
      have w0 : IntKind.wrap .i64 (at_ + st) = at_ + st := wrap64 (by omega) (by omega)
      have hx3 : Ok (fleetmake_Stream_RightTrack_x3 at_ st s8 p2 er) (fun r => StrOk (k + 3 + 12 * j + 10) r.1 ∧ FixR r.2 ∧ r.2.At = at_ + st) := by
        unfold fleetmake_Stream_RightTrack_x3
        rw [w0]
        have c1 := b1.nxt (by omega)
        have c2 := c1.nxt (by omega)
        refine (Flip_ok c1 (by omega) (by unfold I64; omega)).bind fun b _ => .cond (fun _ => ?_) (fun _ => ?_)
        · refine (Pick_ok c2 (by omega) (by simp) (by simp)).bind fun x hx => .some ⟨(c2.nxt (by omega)).mono (by omega), ⟨rfl, ?_, ?_, her⟩, rfl⟩
          · simp only [List.mem_cons, List.not_mem_nil, or_false] at hx
            unfold InB fsp; simp only; omega
          · simp only; omega
        · refine .some ⟨c2.mono (by omega), ⟨rfl, ?_, ?_, her⟩, rfl⟩
          · unfold InB fsp; simp only; omega
          · simp only; omega
      refine hx3.bind fun ⟨s9, x⟩ ⟨d1, d2, d3⟩ => .gd (ble_lim (by simp; omega)) ?_
      have d1 : StrOk (k + 3 + 12 * j + 10) s9 := d1
      simp only at d2 d3
      have w1 : IntKind.wrap .i64 ((j : Int) + 1) = ((j + 1 : Nat) : Int) := by rw [wrap64 (by omega) (by omega)]; omega
      rw [w0]
      refine .some ⟨⟨j + 1, w1, by omega, by simp; omega, d1.mono (by omega), by simp only; omega, by simp only; omega, ?_, ?_⟩, ?_⟩
      · simp only
        intro y hy
        rcases List.mem_append.1 hy with hy | hy
        · have := j6 y hy; exact ⟨this.1, by omega⟩
        · rw [List.mem_singleton] at hy; subst hy; exact ⟨d2, by omega⟩
      · simp only
        rw [List.pairwise_append]
        refine ⟨j7, by simp, fun y hy z hz => ?_⟩
        rw [List.mem_singleton] at hz; subst hz
        have := (j6 y hy).2; omega
      · show (n - IntKind.wrap .i64 ((j : Int) + 1)).toNat < (n - (j : Int)).toNat
        rw [w1]; omega
    · exact .some ⟨j3.mono (by omega), ⟨by show l.length ≤ 14; omega, fun x hx => (j6 x hx).1, j7⟩, by simp only; omega⟩
  exact key.bind fun ⟨s2, l⟩ hl => .some hl

theorem scan_const_none {α ρ : Type} : ∀ (l : List α) (k : Nat), scan (fun _ _ => (none : Option ρ)) k l = none
  | [], _ => rfl
  | _ :: l, k => scan_const_none l (k + 1)
theorem key100 : keyB [100] = true := by decide
theorem fixes_ok {l : List api_Fix} (h : TrackR l) : place_CheckFixes l = some 0 := by
  unfold place_CheckFixes
  have hl := h.1
  have h2000 : ¬ (2000 : Int) < l.length := by omega
  simp only [h2000, decide_false, cond_false]
  rw [range_loop (l := l) (fun _ _ => none) (.inl ()) (by omega), scan_const_none]
  · rfl
  · intro i hi
    have hx := h.2.1 _ (List.getElem_mem hi)
    unfold place_CheckFixes_x1
    have hi' : (i : Int) < l.length := by omega
    have hx3 : place_CheckFixes_x3 l i l[i] = some false := by
      unfold place_CheckFixes_x3
      by_cases h0 : (0 : Int) < i
      · have w1 : IntKind.wrap .i64 ((i : Int) - 1) = ((i - 1 : Nat) : Int) := by rw [wrap64 (by omega) (by omega)]; omega
        have hy := h.2.1 _ (List.getElem_mem (l := l) (n := i - 1) (by omega))
        have hlt := h.lt (i := i - 1) (j := i) (by omega) hi
        simp only [h0, decide_true, cond_true, w1, at_nat (l := l) (n := i - 1) (by omega), Option.bind_some, fbyDevice_eq]
        have : fOrd l[i] (l[i - 1]'(by omega)) = 1 := by
          unfold fOrd cmpI
          rw [hx.1, hy.1, cmpB_self]
          unfold or0
          rw [if_pos rfl, if_neg (by omega), if_pos hlt]
        rw [this]; rfl
      · simp only [h0, decide_false, cond_false]
    have hx2 : place_CheckFixes_x2 l[i] = some false := by
      unfold place_CheckFixes_x2 place_spot
      obtain ⟨-, b1, b2, b3⟩ := hx
      have hb := (inB_iff _).2 b1
      unfold fsp at hb
      simp only at hb
      have m1 : (decide (0 ≤ l[i].At) && decide (l[i].At ≤ 345686399999)) = true := by simp; omega
      simp only [Moment_eq, isSpot_eq, Option.bind_some, m1, hb, Bool.not_true, cond_false, Out_eq]
      have : (decide (l[i].Error < 0) || decide (10000 < l[i].Error)) = false := by simp; omega
      rw [this]
    simp only [hi', decide_true, cond_true, at_nat hi, Option.bind_some, hx.1, Key_eq [100] (by simp), key100, Bool.not_true, cond_false, hx2, hx3]
  · unfold place_CheckFixes_x1
    simp
theorem track_ok {l : List api_Fix} (h : TrackR l) : place_trackFault l = some 0 := by
  unfold place_trackFault
  have hl := h.1
  rw [fixes_ok h]
  have : slices_ContainsFunc_api_Fix_api_Fix_f1_place_trackFault_1 l = some false := by
    unfold slices_ContainsFunc_api_Fix_api_Fix_f1_place_trackFault_1 slices_IndexFunc_api_Fix_api_Fix_f1_place_trackFault_1
    rw [range_loop (l := l) (fun _ _ => none) (.inl ()) (by omega), scan_const_none]
    · rfl
    · intro i hi
      have hx := h.2.1 _ (List.getElem_mem hi)
      have h0 := h.2.1 _ (List.getElem_mem (l := l) (n := 0) (by omega))
      unfold slices_IndexFunc_api_Fix_api_Fix_f1_place_trackFault_1_x1 place_trackFault_1
      have hi' : (i : Int) < l.length := by omega
      have g0 : at? l 0 = some (l[0]'(by omega)) := at_nat (l := l) (n := 0) (by omega)
      simp only [hi', decide_true, cond_true, at_nat hi, g0, Option.bind_some, hx.1, h0.1, Bool.not_true, cond_false]
    · unfold slices_IndexFunc_api_Fix_api_Fix_f1_place_trackFault_1_x1
      simp
  rw [this]; rfl

/-! ### Stays -/
end Go.Eng

/-
Tracks: checks, visits, stays and lengths, both ways.
-/
namespace Go.Eng
open Go Geo
open scoped Classical
set_option linter.unusedVariables false
set_option linter.unusedSimpArgs false

/-! ### Tracks that streams make -/
/-! ### Checks -/
/-- a fix that is right -/
def FixV (x : api_Fix) : Prop := (0 ≤ x.At ∧ x.At ≤ 345686399999) ∧ InB ⟨x.X, x.Y⟩ ∧ (0 ≤ x.Error ∧ x.Error ≤ 10000)
/-! ### Visits -/
end Go.Eng

/-
The law TracksVisit.
-/
namespace Go.Eng
open Go Geo
open scoped Classical
set_option linter.unusedVariables false
set_option linter.unusedSimpArgs false

/-! ### Stays -/
def sqV (a b : api_Fix) : Int := (a.X - b.X) * (a.X - b.X) + (a.Y - b.Y) * (a.Y - b.Y)
theorem sqV_wrap {a b : api_Fix} (ha : FixV a) (hb : FixV b) :
    IntKind.wrap .i64 ((IntKind.wrap .i64 ((IntKind.wrap .i64 (a.X - b.X)) * (IntKind.wrap .i64 (a.X - b.X)))) + (IntKind.wrap .i64 ((IntKind.wrap .i64 (a.Y - b.Y)) * (IntKind.wrap .i64 (a.Y - b.Y))))) = sqV a b ∧ 0 ≤ sqV a b ∧ sqV a b ≤ 800000000 := by
  obtain ⟨-, a1, -⟩ := ha; obtain ⟨-, b1, -⟩ := hb
  unfold InB at a1 b1
  simp only at a1 b1
  rw [wrap64 (n := a.X - b.X) (by omega) (by omega), wrap64 (n := a.Y - b.Y) (by omega) (by omega)]
  have m := wdot (x := a.X - b.X) (y := a.X - b.X) (u := a.Y - b.Y) (v := a.Y - b.Y) (by omega) (by omega) (by omega) (by omega)
  have h1 := sq_nn (a.X - b.X)
  have h2 := sq_nn (a.Y - b.Y)
  unfold sqV
  exact ⟨m.1, by omega, by omega⟩
/-! ### Lengths -/
theorem root_p {n : Int} (h : 0 ≤ n ∧ n ≤ 800000000) : Ok (place_root n) (fun r => 0 ≤ r ∧ r * r ≤ n ∧ n < (r + 1) * (r + 1)) := by
  unfold place_root
  refine Ok.bind (P := fun r : Int => 0 ≤ r ∧ r * r ≤ n ∧ n < (r + 1) * (r + 1)) (loop_ok (fun q : Int × Int => (0 ≤ q.1 ∧ q.1 < q.2 ∧ q.2 ≤ 2147483648) ∧ q.1 * q.1 ≤ n ∧ n < q.2 * q.2) (fun q => (q.2 - q.1).toNat) ?_ ⟨by simp, by simp; omega, by simp; omega⟩) fun r hr => .some hr
  rintro ⟨lo, hi⟩ ⟨h1, h2, h3⟩
  simp only at h1 h2 h3
  unfold place_root_x1
  dsimp only
  rw [wrap64 (n := hi - lo) (by omega) (by omega), wrap64 (n := lo + hi) (by omega) (by omega)]
  have ht : (lo + hi).tdiv 2 = (lo + hi) / 2 := Int.tdiv_eq_ediv_of_nonneg (by omega)
  rw [ht, wrap64 (n := (lo + hi) / 2) (by omega) (by omega)]
  have hm : lo ≤ (lo + hi) / 2 ∧ (lo + hi) / 2 ≤ hi := by omega
  have hm2 : 1 < hi - lo → lo < (lo + hi) / 2 ∧ (lo + hi) / 2 < hi := by omega
  generalize (lo + hi) / 2 = m at *
  have hmb := mod_mul_bd (a := m) (b := m) (m := 2147483648) (k := 2147483648) (by omega) (by omega)
  rw [wrap64 (n := m * m) (by omega) (by omega)]
  refine .cond (fun hc => .cond (fun hd => ?_) (fun hd => ?_)) (fun hc => ?_)
  · have hc := hm2 (of_decide_eq_true hc)
    have hd := of_decide_eq_true hd
    exact .some ⟨⟨by simp only; omega, hd, h3⟩, by simp only; omega⟩
  · have hc := hm2 (of_decide_eq_true hc)
    have hd := of_decide_eq_false hd
    exact .some ⟨⟨by simp only; omega, h2, by simp only; omega⟩, by simp only; omega⟩
  · have hc := of_decide_eq_false hc
    have : hi = lo + 1 := by omega
    subst this
    exact .some ⟨h1.1, h2, h3⟩
/-! ### The law -/
end Go.Eng

/-
Insertion sorts; what is left of equal ones rises.
-/
namespace Go.Eng
open Go
set_option linter.unusedVariables false
set_option linter.unusedSimpArgs false
section
variable {α : Type}
end
end Go.Eng

/-
Plain tracks: what is kept between two that are kept; however they are put in.
-/
namespace Go.Eng
set_option linter.unusedVariables false
section
variable (B : Nat → Nat → Option Nat)
def TKn : Nat → Nat → Nat → List Nat
  | 0, _, _ => []
  | n + 1, i, k => match B i k with
    | none => []
    | some m => TKn n i m ++ m :: TKn n m k
def Tk (i k : Nat) : List Nat := TKn B (k - i) i k
variable (hB : ∀ i k m, B i k = some m → i < m ∧ m < k)
include hB
theorem TKn_fuel : ∀ (n i k : Nat), k - i ≤ n → TKn B n i k = TKn B (k - i) i k := by
  have key : ∀ (n n' i k : Nat), k - i ≤ n → k - i ≤ n' → TKn B n i k = TKn B n' i k := by
    intro n
    induction n with
    | zero =>
      intro n' i k h1 h2
      cases n' with
      | zero => rfl
      | succ n' =>
        unfold TKn
        cases hb : B i k with
        | none => rfl
        | some m => have := hB i k m hb; omega
    | succ n ih =>
      intro n' i k h1 h2
      cases n' with
      | zero =>
        unfold TKn
        cases hb : B i k with
        | none => rfl
        | some m => have := hB i k m hb; omega
      | succ n' =>
        unfold TKn
        cases hb : B i k with
        | none => rfl
        | some m =>
          have := hB i k m hb
          simp only
          rw [ih n' i m (by omega) (by omega), ih n' m k (by omega) (by omega)]
  intro n i k h
  exact key n (k - i) i k h (Nat.le_refl _)
omit hB in
theorem Tk_none {i k : Nat} (h : B i k = none) : Tk B i k = [] := by
  unfold Tk
  cases k - i with
  | zero => rfl
  | succ n => unfold TKn; rw [h]
theorem Tk_some {i k m : Nat} (h : B i k = some m) : Tk B i k = Tk B i m ++ m :: Tk B m k := by
  have hm := hB i k m h
  unfold Tk
  obtain ⟨n, hn⟩ : ∃ n, k - i = n + 1 := ⟨k - i - 1, by omega⟩
  rw [hn]
  conv => lhs; unfold TKn
  rw [h]
  simp only
  rw [TKn_fuel B hB n i m (by omega), TKn_fuel B hB n m k (by omega)]
theorem Tk_in : ∀ (n i k : Nat), k - i ≤ n → (∀ x ∈ Tk B i k, i < x ∧ x < k) ∧ (Tk B i k).Pairwise (· < ·) := by
  intro n
  induction n with
  | zero =>
    intro i k h
    cases hb : B i k with
    | none => rw [Tk_none B hb]; exact ⟨fun x hx => (nomatch hx), List.Pairwise.nil⟩
    | some m => have := hB i k m hb; omega
  | succ n ih =>
    intro i k h
    cases hb : B i k with
    | none => rw [Tk_none B hb]; exact ⟨fun x hx => (nomatch hx), List.Pairwise.nil⟩
    | some m =>
      have hm := hB i k m hb
      rw [Tk_some B hB hb]
      obtain ⟨a1, a2⟩ := ih i m (by omega)
      obtain ⟨b1, b2⟩ := ih m k (by omega)
      refine ⟨fun x hx => ?_, List.pairwise_append.2 ⟨a2, List.pairwise_cons.2 ⟨fun y hy => (b1 y hy).1, b2⟩, fun x hx y hy => ?_⟩⟩
      · rcases List.mem_append.1 hx with hx | hx
        · have := a1 x hx; omega
        · rcases List.mem_cons.1 hx with rfl | hx
          · exact hm
          · have := b1 x hx; omega
      · have := a1 x hx
        rcases List.mem_cons.1 hy with rfl | hy
        · omega
        · have := b1 y hy; omega
/-- what is kept in the end, if those are kept now -/
def exF : Nat → List Nat → List Nat
  | a, [] => [a]
  | a, b :: l => a :: Tk B a b ++ exF b l
omit hB in
theorem sorted_ext {l m : List Nat} (h1 : l.Pairwise (· < ·)) (h2 : m.Pairwise (· < ·)) (h : ∀ x, x ∈ l ↔ x ∈ m) : l = m := by
  have p : l.Perm m := (List.perm_ext_iff_of_nodup (h1.imp fun h => Nat.ne_of_lt h) (h2.imp fun h => Nat.ne_of_lt h)).2 h
  exact List.Perm.eq_of_pairwise (le := (· < ·)) (fun a b _ _ hab hba => by omega) h1 h2 p
end
end Go.Eng

/-
Sorting of numbers; the fixes of a track that are kept: the code's way.
-/
namespace Go.Eng
open Go
set_option linter.unusedVariables false
set_option linter.unusedSimpArgs false
section
variable {α : Type}
theorem Ok.and {f : Option α} {P Q : α → Prop} (h1 : Ok f P) (h2 : Ok f Q) : Ok f (fun r => P r ∧ Q r) := by
  obtain ⟨r, e1, p1⟩ := h1
  obtain ⟨s, e2, p2⟩ := h2
  rw [e1] at e2
  obtain rfl := Option.some.inj e2
  exact ⟨r, e1, p1, p2⟩
end
/-! ### The farthest between two -/
def fx (l : List api_Fix) (i : Nat) : api_Fix := l.getD i (api_Fix.mk [] 0 0 0 0)
theorem at_fx {l : List api_Fix} {i : Nat} (h : i < l.length) : at? l (i : Int) = some (fx l i) ∧ fx l i ∈ l := by
  have e : fx l i = l[i] := by unfold fx; rw [List.getD_eq_getElem?_getD, List.getElem?_eq_getElem h]; rfl
  rw [e]
  exact ⟨at_nat h, List.getElem_mem h⟩
def stp (l : List api_Fix) (i k : Nat) (s : api_Fraction × Int) (m : Nat) : api_Fraction × Int :=
  cond (frL s.1 (farF (fsp (fx l i)) (fsp (fx l k)) (fsp (fx l m)))) (farF (fsp (fx l i)) (fsp (fx l k)) (fsp (fx l m)), (m : Int)) s
def bstN (l : List api_Fix) (i k : Nat) : Nat → Nat → api_Fraction × Int → api_Fraction × Int
  | 0, _, s => s
  | c + 1, m, s => bstN l i k c (m + 1) (stp l i k s m)
theorem fixv_in {l : List api_Fix} (hg : ∀ x ∈ l, FixV x) {i : Nat} (h : i < l.length) : InB (fsp (fx l i)) := (hg _ (at_fx h).2).2.1
theorem stp_R {l : List api_Fix} (hg : ∀ x ∈ l, FixV x) {i k m : Nat} (hi : i < l.length) (hk : k < l.length) (hm : m < l.length) {s : api_Fraction × Int} (hs : FrR s.1) : FrR (stp l i k s m).1 := by
  unfold stp
  cases frL s.1 (farF (fsp (fx l i)) (fsp (fx l k)) (fsp (fx l m)))
  · exact hs
  · exact farF_R (fixv_in hg hi) (fixv_in hg hk) (fixv_in hg hm)
theorem own_best {l : List api_Fix} (hg : ∀ x ∈ l, FixV x) (hl : l.length ≤ 1000) {i k : Nat} (hi : i < l.length) (hk : k < l.length) (recF : Int → Int → List Bool → Int → List api_Fix → Option (List Bool)) : ∀ (c m : Nat) (s : api_Fraction × Int), m + c = k → FrR s.1 →
    loopO (place_Plain_1_b0o_x1 recF i k l) (s.1, s.2, (m : Int)) = some (bstN l i k c m s).2
  | 0, m, s, h, _ => by
    refine loop_out ?_
    unfold place_Plain_1_b0o_x1 bstN
    have : ¬ (m : Int) < k := by omega
    simp [this]
  | c + 1, m, s, h, hs => by
    have hm : m < l.length := by omega
    rw [loop_in (s' := ((stp l i k s m).1, (stp l i k s m).2, ((m + 1 : Nat) : Int)))]
    · exact own_best hg hl hi hk recF c (m + 1) (stp l i k s m) (by omega) (stp_R hg hi hk hm hs)
    · unfold place_Plain_1_b0o_x1 place_Plain_1_b0o_x2 place_spot
      have hc : (m : Int) < k := by omega
      have w1 : IntKind.wrap .i64 ((m : Int) + 1) = ((m + 1 : Nat) : Int) := by rw [wrap64 (by omega) (by omega)]; omega
      have hf : place_far (api_Spot.mk (fx l i).X (fx l i).Y) (api_Spot.mk (fx l k).X (fx l k).Y) (api_Spot.mk (fx l m).X (fx l m).Y) = some (farF (fsp (fx l i)) (fsp (fx l k)) (fsp (fx l m))) := far_eq (fixv_in hg hi) (fixv_in hg hk) (fixv_in hg hm)
      simp only [hc, decide_true, cond_true, (at_fx hi).1, (at_fx hk).1, (at_fx hm).1, Option.bind_some, hf, pless_eq hs (farF_R (fixv_in hg hi) (fixv_in hg hk) (fixv_in hg hm)), w1]
      unfold stp
      cases frL s.1 (farF (fsp (fx l i)) (fsp (fx l k)) (fsp (fx l m))) <;> rfl
theorem bst_rng {l : List api_Fix} {i k : Nat} : ∀ (c m : Nat) (s : api_Fraction × Int), m + c = k → i < m → (s.2 = -1 ∨ ∃ j : Nat, s.2 = (j : Int) ∧ i < j ∧ j < k) → (bstN l i k c m s).2 = -1 ∨ ∃ j : Nat, (bstN l i k c m s).2 = (j : Int) ∧ i < j ∧ j < k
  | 0, m, s, _, _, h => h
  | c + 1, m, s, h1, h2, h => by
    unfold bstN
    refine bst_rng c (m + 1) _ (by omega) (by omega) ?_
    unfold stp
    cases frL s.1 (farF (fsp (fx l i)) (fsp (fx l k)) (fsp (fx l m)))
    · exact h
    · exact .inr ⟨m, rfl, h2, by omega⟩
def bestV (l : List api_Fix) (q : Int) (i k : Nat) : Int := (bstN l i k (k - (i + 1)) (i + 1) (api_Fraction.mk (q * q) 1, -1)).2
def bestO (l : List api_Fix) (q : Int) (i k : Nat) : Option Nat := if i < k ∧ 0 ≤ bestV l q i k then some (bestV l q i k).toNat else none
theorem bestV_rng (l : List api_Fix) (q : Int) {i k : Nat} (h : i < k) : bestV l q i k = -1 ∨ ∃ j : Nat, bestV l q i k = (j : Int) ∧ i < j ∧ j < k :=
  bst_rng _ _ _ (by omega) (by omega) (.inl rfl)
theorem bestO_in (l : List api_Fix) (q : Int) (i k m : Nat) (h : bestO l q i k = some m) : i < m ∧ m < k := by
  unfold bestO at h
  split at h
  · rename_i hh
    injection h with h
    rcases bestV_rng l q hh.1 with e | ⟨j, e, j1, j2⟩
    · omega
    · rw [e] at h; simp at h; omega
  · cases h
theorem sq_R {q : Int} (h : 0 ≤ q ∧ q ≤ 10000) : IntKind.wrap .i64 (q * q) = q * q ∧ FrR (api_Fraction.mk (q * q) 1) := err_R h

/-! ### The code's way: between two -/
def kpt (b : List Bool) (j : Nat) : Bool := b.getD j false
theorem kpt_set {b : List Bool} {i : Nat} (hi : i < b.length) (j : Nat) : kpt (b.set i true) j = (decide (j = i) || kpt b j) := by
  unfold kpt
  rw [List.getD_eq_getElem?_getD, List.getD_eq_getElem?_getD, List.getElem?_set]
  by_cases h : i = j
  · subst h; simp [hi]
  · have h' : ¬ j = i := fun e => h e.symm
    simp [h, h']
theorem at_bool {b : List Bool} {i : Nat} (h : i < b.length) : at? b (i : Int) = some (kpt b i) := by
  have e : kpt b i = b[i] := by unfold kpt; rw [List.getD_eq_getElem?_getD, List.getElem?_eq_getElem h]; rfl
  rw [e]; exact at_nat h
theorem betw {l : List api_Fix} (hg : ∀ x ∈ l, FixV x) (hl : l.length ≤ 1000) {q : Int} (hq : 0 ≤ q ∧ q ≤ 10000) : ∀ (n i k : Nat) (b : List Bool), b.length = l.length → i ≤ k → k < l.length → k - i < n →
    ∃ r, place_Plain_1_b0o_n n i k b q l = some r ∧ r.length = l.length ∧ ∀ j, kpt r j = true ↔ kpt b j = true ∨ j = i ∨ j = k ∨ j ∈ Tk (bestO l q) i k
  | 0, i, k, b, _, _, _, h => by omega
  | n + 1, i, k, b, hb, hik, hk, hn => by
    have hi : i < l.length := by omega
    unfold place_Plain_1_b0o_n
    have a1 : at? b (i : Int) = some (kpt b i) := at_bool (by omega)
    have a2 : at? (b.set i true) (k : Int) = some (kpt (b.set i true) k) := at_bool (by simp; omega)
    have w1 : IntKind.wrap .i64 ((i : Int) + 1) = ((i + 1 : Nat) : Int) := by rw [wrap64 (by omega) (by omega)]; omega
    have base : ∀ j, kpt ((b.set i true).set k true) j = true ↔ kpt b j = true ∨ j = i ∨ j = k := fun j => by
      rw [kpt_set (by simp; omega), kpt_set (by omega)]
      simp only [Bool.or_eq_true, decide_eq_true_eq]
      constructor
      · rintro (h | h | h)
        · exact .inr (.inr h)
        · exact .inr (.inl h)
        · exact .inl h
      · rintro (h | h | h)
        · exact .inr (.inr h)
        · exact .inr (.inl h)
        · exact .inl h
    by_cases hlt : i < k
    · have hloop := own_best hg hl hi hk (place_Plain_1_b0o_n n) (k - (i + 1)) (i + 1) (api_Fraction.mk (q * q) 1, -1) (by omega) (sq_R hq).2
      simp only [a1, Int.toNat_natCast, a2, Option.bind_some, w1, (sq_R hq).1, hloop]
      show ∃ r, (bif decide (0 ≤ bestV l q i k) then ((place_Plain_1_b0o_n n (i : Int) (bestV l q i k) ((b.set i true).set k true) q l).bind fun vs => (place_Plain_1_b0o_n n (bestV l q i k) (k : Int) vs q l).bind fun vs1 => some vs1) else some ((b.set i true).set k true)) = some r ∧ _
      rcases bestV_rng l q hlt with e | ⟨m, e, m1, m2⟩
      · have hO : bestO l q i k = none := by unfold bestO; rw [e]; simp
        rw [e, Tk_none _ hO]
        refine ⟨_, rfl, by simp [hb], fun j => ?_⟩
        rw [base]
        simp
      · have hO : bestO l q i k = some m := by unfold bestO; rw [e, if_pos ⟨hlt, by omega⟩]; simp
        rw [e]
        have h0 : (0 : Int) ≤ (m : Int) := by omega
        obtain ⟨r1, p1, p2, p3⟩ := betw hg hl hq n i m ((b.set i true).set k true) (by simp [hb]) (by omega) (by omega) (by omega)
        obtain ⟨r2, q1, q2, q3⟩ := betw hg hl hq n m k r1 p2 (by omega) hk (by omega)
        simp only [h0, decide_true, cond_true, p1, q1, Option.bind_some]
        refine ⟨r2, rfl, q2, fun j => ?_⟩
        rw [q3, p3, base, Tk_some _ (bestO_in l q) hO]
        simp only [List.mem_append, List.mem_cons]
        constructor
        · rintro (((h | h | h) | h | h | h) | h | h | h)
          · exact .inl h
          · exact .inr (.inl h)
          · exact .inr (.inr (.inl h))
          · exact .inr (.inl h)
          · exact .inr (.inr (.inr (.inr (.inl h))))
          · exact .inr (.inr (.inr (.inl h)))
          · exact .inr (.inr (.inr (.inr (.inl h))))
          · exact .inr (.inr (.inl h))
          · exact .inr (.inr (.inr (.inr (.inr h))))
        · rintro (h | h | h | h | h | h)
          · exact .inl (.inl (.inl h))
          · exact .inl (.inl (.inr (.inl h)))
          · exact .inl (.inl (.inr (.inr h)))
          · exact .inl (.inr (.inr (.inr h)))
          · exact .inr (.inl h)
          · exact .inr (.inr (.inr h))
    · have hik' : i = k := by omega
      subst hik'
      have hO : bestO l q i i = none := by unfold bestO; rw [if_neg (by omega)]
      have hloop : loopO (place_Plain_1_b0o_x1 (place_Plain_1_b0o_n n) i i l) (api_Fraction.mk (q * q) 1, -1, ((i + 1 : Nat) : Int)) = some (-1) := by
        refine loop_out ?_
        unfold place_Plain_1_b0o_x1
        have : ¬ ((i + 1 : Nat) : Int) < i := by omega
        simp only [this, decide_false, cond_false]
      simp only [a1, Int.toNat_natCast, a2, Option.bind_some, w1, (sq_R hq).1, hloop]
      rw [Tk_none _ hO]
      refine ⟨_, rfl, by simp [hb], fun j => ?_⟩
      rw [base]
      simp
end Go.Eng

/-
The fixes of a track that are kept: the reference's way; both are the same.
-/
namespace Go.Eng
open Go
set_option linter.unusedVariables false
set_option linter.unusedSimpArgs false
theorem fixO_20 {β : Type} {g : Nat → Option β} {r : β} (h : g 20 = some r) : fixO g = some r := by
  unfold fixO
  rw [h]
/-- the numbers that are kept -/
def keptL (l : List api_Fix) (q : Int) : List Nat := if l.length = 0 then [] else if l.length = 1 then [0] else exF (bestO l q) 0 [l.length - 1]
theorem exF_two (B : Nat → Nat → Option Nat) (a b : Nat) : exF B a [b] = a :: Tk B a b ++ [b] := rfl
theorem kept_sorted {l : List api_Fix} {q : Int} : (keptL l q).Pairwise (· < ·) ∧ ∀ x ∈ keptL l q, x < l.length := by
  unfold keptL
  split
  · exact ⟨List.Pairwise.nil, fun x hx => (nomatch hx)⟩
  split
  · exact ⟨by simp, fun x hx => by simp at hx; omega⟩
  rw [exF_two]
  obtain ⟨a1, a2⟩ := Tk_in (bestO l q) (bestO_in l q) (l.length - 1 - 0) 0 (l.length - 1) (Nat.le_refl _)
  refine ⟨?_, fun x hx => ?_⟩
  · rw [List.cons_append, List.pairwise_cons]
    refine ⟨fun y hy => ?_, List.pairwise_append.2 ⟨a2, by simp, fun x hx y hy => ?_⟩⟩
    · rcases List.mem_append.1 hy with hy | hy
      · exact (a1 y hy).1
      · rw [List.mem_singleton] at hy; omega
    · rw [List.mem_singleton] at hy
      have := a1 x hx; omega
  · rw [List.cons_append] at hx
    rcases List.mem_cons.1 hx with rfl | hx
    · omega
    · rcases List.mem_append.1 hx with hx | hx
      · have := a1 x hx; omega
      · rw [List.mem_singleton] at hx; omega
/-! ### The code -/
theorem out_loop {b : List Bool} (hb : b.length ≤ 1000) : ∀ (c j : Nat) (o : List Nat), j + c = b.length → o.length ≤ j → loopO (place_Plain_x2 b) (o.map Int.ofNat, (j : Int)) = some ((o ++ (List.range' j c).filter (kpt b)).map Int.ofNat)
  | 0, j, o, h, _ => by
    refine loop_out ?_
    unfold place_Plain_x2
    have : ¬ (j : Int) < b.length := by omega
    simp [this]
  | c + 1, j, o, h, ho => by
    have hj : j < b.length := by omega
    have hj' : (j : Int) < b.length := by omega
    have w1 : IntKind.wrap .i64 ((j : Int) + 1) = ((j + 1 : Nat) : Int) := by rw [wrap64 (by omega) (by omega)]; omega
    rw [List.range'_succ, List.filter_cons]
    cases hk : kpt b j with
    | true =>
      rw [loop_in (s' := ((o ++ [j]).map Int.ofNat, ((j + 1 : Nat) : Int)))]
      · rw [out_loop hb c (j + 1) (o ++ [j]) (by omega) (by simp; omega)]
        simp
      · unfold place_Plain_x2 place_Plain_x3
        simp only [hj', decide_true, cond_true, at_bool hj, hk, Option.bind_some, w1]
        rw [gd_true (ble_lim (by simp; omega))]
        simp
    | false =>
      rw [loop_in (s' := (o.map Int.ofNat, ((j + 1 : Nat) : Int)))]
      · rw [out_loop hb c (j + 1) o (by omega) (by omega)]
        simp
      · unfold place_Plain_x2 place_Plain_x3
        simp only [hj', decide_true, cond_true, at_bool hj, hk, Option.bind_some, w1, cond_false]
theorem rep_false (n j : Nat) : kpt (List.replicate n false) j = false := by
  unfold kpt
  rw [List.getD_eq_getElem?_getD, List.getElem?_replicate]
  split <;> rfl
theorem Plain_eq {l : List api_Fix} (hg : ∀ x ∈ l, FixV x) (hl : l.length ≤ 14) {q : Int} (hq : 0 ≤ q ∧ q ≤ 10000) (ht : place_trackFault l = some 0) : place_Plain l q = some ((keptL l q).map Int.ofNat, 0) := by
  have hx1 : ∃ b, place_Plain_x1 l q = some b ∧ b.length = l.length ∧ (List.range' 0 b.length).filter (kpt b) = keptL l q := by
    unfold place_Plain_x1
    by_cases h0 : l.length = 0
    · have : ¬ (0 : Int) < l.length := by omega
      simp only [this, decide_false, cond_false]
      refine ⟨_, rfl, by simp, ?_⟩
      unfold keptL
      rw [if_pos h0]
      simp [h0]
    · have h1 : (0 : Int) < l.length := by omega
      have w1 : IntKind.wrap .i64 ((l.length : Int) - 1) = ((l.length - 1 : Nat) : Int) := by rw [wrap64 (by omega) (by omega)]; omega
      obtain ⟨r, r1, r2, r3⟩ := betw hg (by omega) hq 20 0 (l.length - 1) (List.replicate (l.length : Int).toNat false) (by simp) (by omega) (by omega) (by omega)
      have hf : place_Plain_1_b0o 0 ((l.length - 1 : Nat) : Int) (List.replicate (l.length : Int).toNat false) q l = some r := fixO_20 r1
      simp only [h1, decide_true, cond_true, w1, hf, Option.bind_some]
      refine ⟨r, rfl, r2, ?_⟩
      refine sorted_ext (List.Pairwise.filter _ List.pairwise_lt_range') kept_sorted.1 fun x => ?_
      rw [List.mem_filter, r3, List.mem_range'_1, rep_false, r2]
      unfold keptL
      rw [if_neg h0]
      by_cases h11 : l.length = 1
      · rw [if_pos h11]
        have hO : bestO l q 0 (l.length - 1) = none := by
          unfold bestO; rw [if_neg (by omega)]
        rw [Tk_none _ hO]
        simp
        omega
      · rw [if_neg h11, exF_two]
        obtain ⟨a1, a2⟩ := Tk_in (bestO l q) (bestO_in l q) (l.length - 1 - 0) 0 (l.length - 1) (Nat.le_refl _)
        simp only [List.cons_append, List.mem_cons, List.mem_append, List.not_mem_nil, or_false]
        constructor
        · rintro ⟨_, h | h | h | h⟩
          · cases h
          · exact .inl h
          · exact .inr (.inr h)
          · exact .inr (.inl h)
        · rintro (h | h | h)
          · exact ⟨by omega, .inr (.inl h)⟩
          · have := a1 x h
            exact ⟨by omega, .inr (.inr (.inr h))⟩
          · exact ⟨by omega, .inr (.inr (.inl h))⟩
  obtain ⟨b, b1, b2, b3⟩ := hx1
  have ho : base_Out q 0 10000 = some false := by
    rw [Out_eq]; simp; omega
  unfold place_Plain
  have hgd : (decide (0 ≤ (l.length : Int)) && decide ((l.length : Int) ≤ (l.length : Int)) && decide ((l.length : Int) ≤ 137438953472)) = true := by simp; omega
  have hlp := out_loop (b := b) (by omega) b.length 0 [] (by omega) (by simp)
  simp only [ht, ho, Option.bind_some, decide_true, Bool.not_true, cond_false, gd_true hgd, b1]
  rw [show loopO (place_Plain_x2 b) ([], 0) = some (((List.range' 0 b.length).filter (kpt b)).map Int.ofNat) from hlp, b3]
  rfl
/-! ### The reference -/
theorem at_mapN {K : List Nat} {i : Nat} (h : i < K.length) : at? (K.map Int.ofNat) (i : Int) = some ((K[i] : Nat) : Int) := by
  rw [at_nat (by simpa using h)]
  simp
theorem few_from : ∀ (K : List Nat) (lo n : Nat), K.Pairwise (· < ·) → (∀ x ∈ K, lo ≤ x ∧ x < n) → K.length ≤ n - lo
  | [], _, _, _, _ => by simp
  | x :: K, lo, n, h, hin => by
    obtain ⟨h1, h2⟩ := List.pairwise_cons.1 h
    have hx := hin x (List.mem_cons_self ..)
    have := few_from K (x + 1) n h2 fun y hy => ⟨h1 y hy, (hin y (List.mem_cons_of_mem _ hy)).2⟩
    simp only [List.length_cons]
    omega
theorem few_below {K : List Nat} {n : Nat} (hs : K.Pairwise (· < ·)) (hin : ∀ x ∈ K, x < n) : K.length ≤ n := by
  have := few_from K 0 n hs fun x hx => ⟨Nat.zero_le _, hin x hx⟩
  omega
end Go.Eng

/-
Ways that are longer than their ends are apart; openings of a part of a row.
-/
namespace Go.Eng
set_option linter.unusedVariables false
/-- how often a row of what opens (1) and what shuts (2) opens -/
def opens : Bool → List Nat → Nat
  | _, [] => 0
  | false, x :: l => if x = 1 then 1 + opens true l else opens false l
  | true, x :: l => if x = 2 then opens false l else opens true l
theorem opens_near : ∀ l : List Nat, opens true l ≤ opens false l ∧ opens false l ≤ opens true l + 1
  | [] => by simp [opens]
  | x :: l => by
    have ih := opens_near l
    unfold opens
    by_cases h1 : x = 1
    · subst h1; simp; omega
    · by_cases h2 : x = 2
      · subst h2; simp
      · simp [h1, h2]; omega
theorem opens_sub {b a : List Nat} (h : b.Sublist a) : opens false b ≤ opens false a ∧ opens true b ≤ opens true a := by
  induction h with
  | slnil => simp
  | cons x h ih =>
    rename_i b a
    have n := opens_near a
    have e : opens false (x :: a) = (if x = 1 then 1 + opens true a else opens false a) := rfl
    have e2 : opens true (x :: a) = (if x = 2 then opens false a else opens true a) := rfl
    rw [e, e2]
    refine ⟨?_, ?_⟩ <;> split <;> omega
  | cons_cons x h ih =>
    rename_i b a
    have e : ∀ l, opens false (x :: l) = (if x = 1 then 1 + opens true l else opens false l) := fun _ => rfl
    have e2 : ∀ l, opens true (x :: l) = (if x = 2 then opens false l else opens true l) := fun _ => rfl
    rw [e, e, e2, e2]
    refine ⟨?_, ?_⟩ <;> split <;> omega
end Go.Eng

/-
Two fences meet just if each does the other; with a spot in both they do.
-/
namespace Go.Eng
open Go Geo
open scoped Classical
set_option linter.unusedVariables false
set_option linter.unusedSimpArgs false

theorem check_right {l : List api_Spot} (hz : fleetref2_CornersFault l = some 0) : place_CheckFence (api_Fence.mk [102] l) = some 0 := by
  obtain ⟨c, c1, c2, c3⟩ := corners_both (api_Fence.mk [102] l) (by simp)
  have c1 : fleetref2_CornersFault l = some c := c1
  rw [hz] at c1
  have hc : c = 0 := (Option.some.inj c1).symm
  have hkey : keyB [102] = true := by decide
  rw [c3, hc]
  show some (cond (keyB [102]) 0 5) = _
  rw [hkey]; rfl
end Go.Eng

/-
How far, and where surely: there is always an answer.
-/
namespace Go.Eng
open Go Geo
open scoped Classical
set_option linter.unusedVariables false
set_option linter.unusedSimpArgs false

theorem cond_some {α} (b : Bool) (x y : α) : (cond b (some x) (some y)) = some (cond b x y) := by cases b <;> rfl
theorem less_tot (a b : api_Fraction) : Ok (place_less a b) (fun _ => True) := by
  unfold place_less
  have h2 : ∀ a b c d, Ok (base_CompareProducts_x2 a b c d) (fun _ => True) := fun a b c d => by
    unfold base_CompareProducts_x2
    exact .cond (fun _ => .some trivial) (fun _ => .some trivial)
  have h1 : ∀ a b c d, Ok (base_CompareProducts_x1 a b c d) (fun _ => True) := fun a b c d => by
    unfold base_CompareProducts_x1
    exact (h2 a b c d).bind fun x _ => .cond (fun _ => .some trivial) (fun _ => .cond (fun _ => .some trivial) (fun _ => .some trivial))
  have h3 : ∀ a b c d, Ok (base_CompareProducts_x3 a b c d) (fun _ => True) := fun a b c d => by
    unfold base_CompareProducts_x3
    exact .cond (fun _ => .some trivial) (fun _ => .some trivial)
  have h : ∀ a b c d, Ok (base_CompareProducts a b c d) (fun _ => True) := fun a b c d => by
    unfold base_CompareProducts bits_Mul64
    exact (h1 a b c d).bind fun x _ => .cond (fun _ => .some trivial) (fun _ => (h3 a b c d).bind fun y _ => .cond (fun _ => .some trivial) (fun _ => .some trivial))
  exact (h _ _ _ _).bind fun r _ => .some trivial
theorem gcd_tot {a b : Int} (h : b ≠ 0) : Ok (base_Gcd a b) (fun r => r ≠ 0) := by
  unfold base_Gcd
  refine Ok.bind (P := fun r : Int => r ≠ 0) (loop_ok (fun q : Int × Int => ¬ (q.1 = 0 ∧ q.2 = 0)) (fun q => q.2.natAbs) ?_ (fun hh => h hh.2)) fun r hr => .some hr
  rintro ⟨a, b⟩ hab
  simp only at hab
  unfold base_Gcd_x1
  refine .cond (fun hc => ?_) (fun hc => ?_)
  · have hb : b ≠ 0 := by simpa using hc
    refine .gd (by simpa using hb) (.some ⟨fun hh => hb hh.1, ?_⟩)
    show (a.tmod b).natAbs < b.natAbs
    rw [Int.natAbs_tmod]
    exact Nat.mod_lt _ (by omega)
  · have hb : b = 0 := by simpa using hc
    exact .some fun hh => hab ⟨hh, hb⟩
theorem far_tot (a b s : api_Spot) : Ok (place_far a b s) (fun _ => True) := by
  unfold place_far place_square place_side
  simp only [Option.bind_some]
  refine .cond (fun _ => .some trivial) (fun h1 => .cond (fun _ => .some trivial) (fun h2 => ?_))
  have h1 := of_decide_eq_false h1
  have h2 := of_decide_eq_false h2
  unfold base_Fraction
  refine Ok.bind (P := fun _ => True) ?_ fun r _ => .some trivial
  refine Ok.bind (gcd_tot ?_) fun r hr => .gd (by simpa using hr) (.some trivial)
  omega
theorem farOf_tot {l : List api_Spot} (hl : l.length ≤ 200) (s : api_Spot) : Ok (place_farOf l s) (fun _ => True) := by
  unfold place_farOf place_edges_f1_place_farOf_1
  refine Ok.bind (P := fun _ => True) (Ok.bind (P := fun _ => True) (loop_ok (fun q : api_Fraction × Int => ∃ k : Nat, q.2 = (k : Int) ∧ k ≤ l.length) (fun q => ((l.length : Int) - q.2).toNat) ?_ ⟨0, rfl, by omega⟩) fun r _ => .some trivial) fun r _ => .some trivial
  rintro ⟨v, q⟩ ⟨k, rfl, k1⟩
  unfold place_edges_f1_place_farOf_1_x1
  by_cases hk : k < l.length
  · have hk' : (k : Int) < l.length := by omega
    obtain ⟨a1, a2, a3⟩ := edge_at (l := l) (by omega) hk
    have w1 : IntKind.wrap .i64 ((k : Int) + 1) = ((k + 1 : Nat) : Int) := by rw [wrap64 (by omega) (by omega)]; omega
    simp only [hk', decide_true, cond_true, a1, a2, gd_true a3, Option.bind_some]
    rw [w1]
    have hx : ∀ a b, Ok (place_farOf_1 a b s v) (fun _ => True) := fun a b => by
      unfold place_farOf_1 place_farOf_1_x1
      refine Ok.bind (P := fun _ => True) ((far_tot a b s).bind fun r _ => ?_) fun r _ => .some trivial
      refine Ok.bind (P := fun _ => True) ?_ fun x _ => .cond (fun _ => .some trivial) (fun _ => .some trivial)
      unfold place_farOf_1_x2
      exact .cond (fun _ => .some trivial) (fun _ => (less_tot _ _).bind fun _ _ => .some trivial)
    exact (hx _ _).bind fun v' _ => .some ⟨⟨k + 1, rfl, by omega⟩, by simp only; omega⟩
  · have hk' : ¬ (k : Int) < l.length := by omega
    simp only [hk', decide_false, cond_false]
    exact .some trivial
theorem surely_tot {l : List api_Spot} (hr : FRight l) {x : api_Fix} (hx : FixR x) : Ok (place_surely l x) (fun _ => True) := by
  unfold place_surely
  have hw := where_eq hr.2.1 hr.2.2.1 hx.2.1
  unfold fsp at hw
  rw [hw]
  simp only [Option.bind_some]
  refine Ok.bind (P := fun _ => True) ?_ fun b _ => .cond (fun _ => .some trivial) (fun _ => .some trivial)
  unfold place_surely_x1
  exact .cond (fun _ => .some trivial) (fun _ => (farOf_tot hr.2.1 _).bind fun r _ => (less_tot _ _).bind fun _ _ => .some trivial)

/-! ### Visits -/
section
variable (l : List api_Fix) (g : api_Fix → Int)
end
theorem at_last {α} (v : List α) (x : α) (hv : v.length ≤ 1000) : at? (v ++ [x]) (IntKind.wrap .i64 (((v ++ [x]).length : Int) - 1)) = some x := by
  have : ((v ++ [x]).length : Int) - 1 = (v.length : Int) := by simp
  rw [this, wrap64 (by omega) (by omega), at_nat (by simp)]
  simp
theorem set_last {α} (v : List α) (x z : α) (hv : v.length ≤ 1000) : (v ++ [x]).set (IntKind.wrap .i64 (((v ++ [x]).length : Int) - 1)).toNat z = v ++ [z] := by
  have : ((v ++ [x]).length : Int) - 1 = (v.length : Int) := by simp
  rw [this, wrap64 (by omega) (by omega)]
  simp
/-! ### Finding the fixes again -/
end Go.Eng

/-
Lengths of tracks and of their parts; how many visits there are.
-/
namespace Go.Eng
open Go Geo
set_option linter.unusedVariables false
set_option linter.unusedSimpArgs false
theorem FixR.V {x : api_Fix} (h : FixR x) : FixV x := ⟨by have := h.2.2.1; omega, h.2.1, by have := h.2.2.2; omega⟩
noncomputable def rtV (a b : api_Fix) : Int := (place_root (sqV a b)).getD 0
theorem rtV_ok {a b : api_Fix} (ha : FixV a) (hb : FixV b) : place_root (sqV a b) = some (rtV a b) ∧ 0 ≤ rtV a b ∧ rtV a b * rtV a b ≤ sqV a b ∧ sqV a b < (rtV a b + 1) * (rtV a b + 1) := by
  obtain ⟨r, r1, r2⟩ := root_p (sqV_wrap ha hb).2
  have e : rtV a b = r := by unfold rtV; rw [r1]; rfl
  rw [e]
  exact ⟨r1, r2⟩
theorem rtV_le {a b : api_Fix} (ha : FixV a) (hb : FixV b) : rtV a b ≤ 30000 := by
  obtain ⟨_, h1, h2, _⟩ := rtV_ok ha hb
  have h3 := (sqV_wrap ha hb).2
  refine Int.not_lt.1 fun h => ?_
  have := Int.mul_le_mul (show (30000 : Int) ≤ rtV a b by omega) (show (30000 : Int) ≤ rtV a b by omega) (by omega) (by omega)
  omega
noncomputable def lenL : List api_Fix → Int
  | x :: y :: l => rtV x y + lenL (y :: l)
  | _ => 0
theorem lenL_bd : ∀ (l : List api_Fix), (∀ x ∈ l, FixV x) → 0 ≤ lenL l ∧ lenL l ≤ 30000 * l.length
  | [], _ => by simp [lenL]
  | [x], _ => by simp [lenL]
  | x :: y :: l, h => by
    have ih := lenL_bd (y :: l) fun z hz => h z (by simp [List.mem_cons.1 hz])
    have h1 := rtV_ok (h x (by simp)) (h y (by simp))
    have h2 := rtV_le (h x (by simp)) (h y (by simp))
    have e : lenL (x :: y :: l) = rtV x y + lenL (y :: l) := rfl
    rw [e]
    simp only [List.length_cons] at ih ⊢
    omega
theorem length_val {l : List api_Fix} (hl : l.length ≤ 14) (hg : ∀ x ∈ l, FixV x) : loopO (place_Length_x1 l) (0, 1) = some (lenL l) := by
  apply Ok.eq
  refine loop_ok (fun s : Int × Int => ∃ k : Nat, s.2 = ((k + 1 : Nat) : Int) ∧ 0 ≤ s.1 ∧ s.1 + lenL (l.drop k) = lenL l) (fun s => ((l.length : Int) - s.2).toNat) ?_ ⟨0, rfl, by simp, by simp⟩
  rintro ⟨n, q⟩ ⟨k, rfl, h0, h⟩
  simp only at h h0
  unfold place_Length_x1 place_spot place_square
  have bd := lenL_bd l hg
  have bd2 := lenL_bd (l.drop k) fun x hx => hg x (List.mem_of_mem_drop hx)
  by_cases hk : k + 1 < l.length
  · have hk' : ((k + 1 : Nat) : Int) < l.length := by omega
    have w1 : IntKind.wrap .i64 (((k + 1 : Nat) : Int) - 1) = (k : Int) := by rw [wrap64 (by omega) (by omega)]; omega
    have w2 : IntKind.wrap .i64 (((k + 1 : Nat) : Int) + 1) = ((k + 1 + 1 : Nat) : Int) := by rw [wrap64 (by omega) (by omega)]; omega
    have v1 := hg _ (List.getElem_mem (show k < l.length by omega))
    have v2 := hg _ (List.getElem_mem hk)
    have s1 := sqV_wrap v1 v2
    have r := rtV_ok v1 v2
    have rl := rtV_le v1 v2
    have w3 : IntKind.wrap .i64 (n + rtV l[k] l[k + 1]) = n + rtV l[k] l[k + 1] := wrap64 (by omega) (by omega)
    have e : lenL (l.drop k) = rtV l[k] l[k + 1] + lenL (l.drop (k + 1)) := by
      rw [drop_get (show k < l.length by omega), drop_get hk]; rfl
    simp only [hk', decide_true, cond_true, w1, w2, at_nat hk, at_nat (show k < l.length by omega), Option.bind_some, s1.1, r.1, w3]
    exact .some ⟨⟨k + 1, rfl, by simp only; omega, by simp only; omega⟩, by simp only; omega⟩
  · have hk' : ¬ ((k + 1 : Nat) : Int) < l.length := by omega
    simp only [hk', decide_false, cond_false]
    have e : lenL (l.drop k) = 0 := by
      have : (l.drop k).length ≤ 1 := by simp; omega
      match l.drop k, this with
      | [], _ => rfl
      | [x], _ => rfl
    exact .some (by omega)
theorem Length_eq {l : List api_Fix} (hl : l.length ≤ 14) (hg : ∀ x ∈ l, FixV x) (ht : place_trackFault l = some 0) : place_Length l = some (lenL l, 0) := by
  unfold place_Length
  simp only [ht, length_val hl hg, Option.bind_some, decide_true, Bool.not_true, cond_false]
/-! ### A part is hardly longer than the whole -/
theorem fx_get {l : List api_Fix} {i : Nat} (h : i < l.length) : fx l i = l[i] := by
  unfold fx; rw [List.getD_eq_getElem?_getD, List.getElem?_eq_getElem h]; rfl
/-! ### How many visits there are -/
def gO (g : api_Fix → Int) (y : api_Fix) : Nat := if g y = 2 then 1 else if g y = 0 then 2 else 0
theorem visits_count {f : List api_Spot} {l : List api_Fix} (hlen : l.length ≤ 14) (hA : ∀ x ∈ l, 0 ≤ x.At) {g : api_Fix → Int} (hg : ∀ y ∈ l, place_surely f y = some (g y)) :
    Ok (loopO (place_Visits_o1_x1 (api_Fence.mk [102] f) l) ([], 0)) (fun v => v.length = opens false (l.map (gO g))) := by
  refine loop_ok (fun q : List api_Visit × Int => ∃ k : Nat, q.2 = (k : Int) ∧ k ≤ l.length ∧ q.1.length ≤ k ∧
      (((∀ x ∈ q.1, 0 ≤ x.To) ∧ q.1.length + opens false ((l.drop k).map (gO g)) = opens false (l.map (gO g))) ∨ ∃ c x, q.1 = c ++ [x] ∧ (∀ x ∈ c, 0 ≤ x.To) ∧ x.To = -1 ∧ q.1.length + opens true ((l.drop k).map (gO g)) = opens false (l.map (gO g)))) (fun q => ((l.length : Int) - q.2).toNat) ?_
    ⟨0, rfl, by omega, by simp, .inl ⟨fun x hx => (nomatch hx), by simp⟩⟩
  rintro ⟨v, q⟩ ⟨k, rfl, k1, k2, k3⟩
  simp only at k2 k3
  unfold place_Visits_o1_x1 place_Visits_o1_x2 place_Visits_o1_x3
  by_cases hk : k < l.length
  · have hk' : (k : Int) < l.length := by omega
    have hy := List.getElem_mem hk
    have w1 : IntKind.wrap .i64 ((k : Int) + 1) = ((k + 1 : Nat) : Int) := by rw [wrap64 (by omega) (by omega)]; omega
    have hat := hA _ hy
    have oF : ∀ m : List Nat, opens false (gO g l[k] :: m) = (if gO g l[k] = 1 then 1 + opens true m else opens false m) := fun _ => rfl
    have oT : ∀ m : List Nat, opens true (gO g l[k] :: m) = (if gO g l[k] = 2 then opens false m else opens true m) := fun _ => rfl
    rw [drop_get hk] at k3
    simp only [List.map_cons, oF, oT] at k3
    simp only [hk', decide_true, cond_true, at_nat hk, Option.bind_some, hg _ hy, w1]
    rcases k3 with ⟨k3, k4⟩ | ⟨c, x, rfl, k4, k6, k7⟩
    · have hopen : (cond (decide (0 < (v.length : Int))) ((at? v (IntKind.wrap .i64 ((v.length : Int) - 1))).bind fun vy4 => some (decide (vy4.To < 0))) (some false)) = some false := by
        rcases snoc v with rfl | ⟨c, x, rfl⟩
        · rfl
        · have hx := k3 x (by simp)
          rw [at_last c x (by simp at k2; omega)]
          have : ¬ x.To < 0 := by omega
          have h0 : (0 : Int) < ((c ++ [x]).length : Int) := by simp
          simp only [h0, decide_true, cond_true, Option.bind_some, this, decide_false]
      rw [hopen]
      simp only [Option.bind_some, Bool.not_false, cond_true, cond_false]
      by_cases h2 : g l[k] = 2
      · have e1 : gO g l[k] = 1 := by unfold gO; rw [if_pos h2]
        rw [if_pos e1] at k4
        simp only [h2, decide_true, cond_true]
        rw [gd_true (ble_lim (by simp; omega))]
        exact .some ⟨⟨k + 1, rfl, by omega, by simp; omega, .inr ⟨v, api_Visit.mk l[k].At (-1), rfl, k3, rfl, by simp at k4 ⊢; omega⟩⟩, by omega⟩
      · have e1 : ¬ gO g l[k] = 1 := by unfold gO; rw [if_neg h2]; split <;> omega
        rw [if_neg e1] at k4
        simp only [h2, decide_false, cond_false]
        rw [cond_some]
        simp only [Bool.cond_self, Option.bind_some]
        exact .some ⟨⟨k + 1, rfl, by omega, by simp only; omega, .inl ⟨k3, k4⟩⟩, by omega⟩
    · have hc : c.length ≤ 1000 := by simp at k2; omega
      have h0 : (0 : Int) < ((c ++ [x]).length : Int) := by simp
      have hneg : x.To < 0 := by omega
      rw [at_last c x hc]
      simp only [h0, decide_true, cond_true, Option.bind_some, hneg, Bool.not_true, cond_false, set_last c x _ hc]
      by_cases h2 : g l[k] = 2
      · have e1 : ¬ gO g l[k] = 2 := by unfold gO; rw [if_pos h2]; omega
        rw [if_neg e1] at k7
        simp only [h2, decide_true, cond_true]
        exact .some ⟨⟨k + 1, rfl, by omega, by simp only; omega, .inr ⟨c, x, rfl, k4, k6, k7⟩⟩, by omega⟩
      · simp only [h2, decide_false, cond_false]
        by_cases h00 : g l[k] = 0
        · have e1 : gO g l[k] = 2 := by unfold gO; rw [if_neg h2, if_pos h00]
          rw [if_pos e1] at k7
          simp only [h00, decide_true, cond_true, Option.bind_some]
          refine .some ⟨⟨k + 1, rfl, by omega, by simp at k2 ⊢; omega, .inl ⟨fun z hz => ?_, by simp at k7 ⊢; omega⟩⟩, by omega⟩
          rcases List.mem_append.1 hz with hz | hz
          · exact k4 z hz
          · simp only [List.mem_singleton] at hz; rw [hz]; exact hat
        · have e1 : ¬ gO g l[k] = 2 := by unfold gO; rw [if_neg h2, if_neg h00]; omega
          rw [if_neg e1] at k7
          simp only [h00, decide_false, cond_false]
          exact .some ⟨⟨k + 1, rfl, by omega, by simp only; omega, .inr ⟨c, x, rfl, k4, k6, k7⟩⟩, by omega⟩
  · have hk' : ¬ (k : Int) < l.length := by omega
    simp only [hk', decide_false, cond_false]
    have hd : l.drop k = [] := List.drop_of_length_le (by omega)
    rw [hd] at k3
    simp only [List.map_nil, opens] at k3
    refine .some ?_
    rcases k3 with ⟨-, k3⟩ | ⟨c, x, rfl, k4, k5, k6⟩
    · simpa using k3
    · simpa using k6
end Go.Eng

/-
Between two that are kept, one behind the other, all are near.
-/
namespace Go.Eng
open Go Geo
set_option linter.unusedVariables false
set_option linter.unusedSimpArgs false
end Go.Eng

/-
Visits of a track that is made plain: no more than of the track.
-/
namespace Go.Eng
open Go Geo
set_option linter.unusedVariables false
set_option linter.unusedSimpArgs false
theorem facts_eq : fleettop_h10facts = some true := by kernel_rfl
def noErr (x : api_Fix) : api_Fix := api_Fix.mk x.Device x.At x.X x.Y 0
theorem noerr_R {l : List api_Fix} (h : TrackR l) : TrackR (l.map noErr) := by
  refine ⟨by simpa using h.1, fun x hx => ?_, ?_⟩
  · obtain ⟨y, hy, rfl⟩ := List.mem_map.1 hx
    have := h.2.1 y hy
    exact ⟨this.1, this.2.1, this.2.2.1, by simp [noErr]⟩
  · rw [List.pairwise_map]
    exact h.2.2.imp fun h => h
theorem noerr_loop {l : List api_Fix} (hl : l.length ≤ 14) : loopO (fleettop_TopVisitsFromPlainTracks_x1 l) (l, 0) = some (l.map noErr) := by
  apply Ok.eq
  refine loop_ok (fun s : List api_Fix × Int => ∃ k : Nat, s.2 = (k : Int) ∧ k ≤ l.length ∧ s.1 = (l.take k).map noErr ++ l.drop k) (fun s => ((l.length : Int) - s.2).toNat) ?_ ⟨0, rfl, by omega, by simp⟩
  rintro ⟨m, q⟩ ⟨k, rfl, hk, e⟩
  simp only at e
  unfold fleettop_TopVisitsFromPlainTracks_x1
  by_cases h : k < l.length
  · have h' : (k : Int) < l.length := by omega
    have w1 : IntKind.wrap .i64 ((k : Int) + 1) = ((k + 1 : Nat) : Int) := by rw [wrap64 (by omega) (by omega)]; omega
    have hm : m.length = l.length := by rw [e]; simp; omega
    have hg : m[k]'(by omega) = l[k] := by
      simp only [e]
      rw [List.getElem_append_right (by simp; omega)]
      simp [Nat.min_eq_left hk]
    simp only [h', decide_true, cond_true, at_nat (show k < m.length by omega), Option.bind_some, hg, w1, Int.toNat_natCast]
    refine .some ⟨⟨k + 1, rfl, h, ?_⟩, by omega⟩
    simp only
    rw [e, List.take_succ_eq_append_getElem h, List.map_append, List.append_assoc]
    rw [List.set_append_right _ _ (by simp; omega)]
    simp only [List.length_map, List.length_take, Nat.min_eq_left hk, Nat.sub_self, drop_get h, List.set_cons_zero]
    rfl
  · have h' : ¬ (k : Int) < l.length := by omega
    simp only [h', decide_false, cond_false]
    refine .some ?_
    have : k = l.length := by omega
    subst this
    simp at e
    exact e
theorem part_loop {l : List api_Fix} {K : List Nat} (hK : K.length ≤ 14) (hin : ∀ x ∈ K, x < l.length) : loopO (fleettop_TopVisitsFromPlainTracks_x2 l (K.map Int.ofNat)) ([], 0) = some (K.map (fx l)) := by
  apply Ok.eq
  refine loop_ok (fun s : List api_Fix × Int => ∃ k : Nat, s.2 = (k : Int) ∧ k ≤ K.length ∧ s.1 = (K.take k).map (fx l)) (fun s => ((K.length : Int) - s.2).toNat) ?_ ⟨0, rfl, by omega, by simp⟩
  rintro ⟨m, q⟩ ⟨k, rfl, hk, e⟩
  simp only at e
  unfold fleettop_TopVisitsFromPlainTracks_x2
  rw [List.length_map]
  by_cases h : k < K.length
  · have h' : (k : Int) < K.length := by omega
    have w1 : IntKind.wrap .i64 ((k : Int) + 1) = ((k + 1 : Nat) : Int) := by rw [wrap64 (by omega) (by omega)]; omega
    have hx := at_fx (hin _ (List.getElem_mem h))
    simp only [h', decide_true, cond_true, at_mapN h, Option.bind_some, hx.1, w1]
    rw [gd_true (ble_lim (by rw [e]; simp; omega))]
    refine .some ⟨⟨k + 1, rfl, h, ?_⟩, by omega⟩
    simp only
    rw [e, List.take_succ_eq_append_getElem h, List.map_append]
    rfl
  · have h' : ¬ (k : Int) < K.length := by omega
    simp only [h', decide_false, cond_false]
    refine .some ?_
    rw [e, List.take_of_length_le (by omega)]
theorem part_sub {l : List api_Fix} : ∀ {K : List Nat}, K.Pairwise (· < ·) → (∀ x ∈ K, x < l.length) → (K.map (fx l)).Sublist l := by
  have key : ∀ (K : List Nat) (i : Nat), K.Pairwise (· < ·) → (∀ x ∈ K, i ≤ x ∧ x < l.length) → (K.map (fx l)).Sublist (l.drop i) := by
    intro K
    induction K with
    | nil => intro i _ _; exact List.nil_sublist _
    | cons a K ih =>
      intro i hs hin
      have ha := hin a (by simp)
      have h1 := ih (a + 1) (List.Pairwise.of_cons hs) fun x hx => ⟨List.rel_of_pairwise_cons hs hx, (hin x (List.mem_cons_of_mem _ hx)).2⟩
      have h2 : (fx l a :: K.map (fx l)).Sublist (l.drop a) := by
        rw [drop_get ha.2, fx_get ha.2]
        exact h1.cons_cons _
      refine h2.trans ?_
      have : l.drop a = (l.drop i).drop (a - i) := by rw [List.drop_drop, show i + (a - i) = a by omega]
      rw [this]
      exact List.drop_sublist _ _
  intro K hs hin
  have := key K 0 hs fun x hx => ⟨by omega, hin x hx⟩
  simpa using this
theorem TrackR.sub {l m : List api_Fix} (h : TrackR l) (hs : m.Sublist l) : TrackR m := ⟨Nat.le_trans hs.length_le h.1, fun x hx => h.2.1 x (hs.subset hx), h.2.2.sublist hs⟩
theorem visits_len {f : List api_Spot} {l : List api_Fix} (hl : TrackR l) (zf : place_CheckFence (api_Fence.mk [102] f) = some 0) {g : api_Fix → Int} (hg : ∀ y ∈ l, place_surely f y = some (g y)) :
    ∃ v, place_Visits_o1 (api_Fence.mk [102] f) l = some (v, 0) ∧ v.length = opens false (l.map (gO g)) := by
  obtain ⟨v, v0, v1⟩ := visits_count hl.1 (fun x hx => by have := (hl.2.1 x hx).2.2.1; omega) hg
  have e0 : base_First [0, 0] = some 0 := by kernel_rfl
  refine ⟨v, ?_, v1⟩
  unfold place_Visits_o1
  simp only [zf, track_ok hl, e0, Option.bind_some, decide_true, Bool.not_true, cond_false, v0]
theorem TopVisitsFromPlainTracks_true (L : List Int) (hL : L.length ≤ 9223372036854775807) (hI : ∀ n ∈ L, -9223372036854775808 ≤ n ∧ n ≤ 9223372036854775807) : fleettop_TopVisitsFromPlainTracks L = some true := by
  apply Ok.eq
  unfold fleettop_TopVisitsFromPlainTracks
  have h0 : StrOk 0 (fleetmake_Stream.mk L 0) := ⟨Int.le_refl _, by simp, hL, hI⟩
  refine (RightFence_ok h0 (by omega)).bind fun ⟨s1, f⟩ ⟨f1, f2, f3⟩ => ?_
  refine (RightTrack_ok (most := 12) ⟨by omega, by omega⟩ f1 (by omega)).bind fun ⟨s2, l⟩ ⟨a1, a2, a3⟩ => ?_
  simp only at f2 a2
  have zf := check_right f2
  have f2 := right_of_zero f2
  simp only [noerr_loop a2.1, Option.bind_some]
  have t := noerr_R a2
  have hlen := t.1
  have hg : ∀ x ∈ l.map noErr, FixV x := fun x hx => (t.2.1 x hx).V
  have hp := Plain_eq hg hlen (q := 0) ⟨by omega, by omega⟩ (track_ok t)
  obtain ⟨ks, kin⟩ := kept_sorted (l := l.map noErr) (q := 0)
  have kl := few_below ks kin
  have sub := part_sub ks kin
  have tb := t.sub sub
  have hgb : ∀ x ∈ (keptL (l.map noErr) 0).map (fx (l.map noErr)), FixV x := fun x hx => (tb.2.1 x hx).V
  have n1 := lenL_bd _ hg
  have n2 := lenL_bd _ hgb
  let g : api_Fix → Int := fun y => (place_surely f y).getD 0
  have hsu : ∀ m : List api_Fix, TrackR m → ∀ y ∈ m, place_surely f y = some (g y) := by
    intro m hm y hy
    obtain ⟨w, hw, -⟩ := surely_tot f2 (hm.2.1 y hy)
    show _ = some ((place_surely f y).getD 0)
    rw [hw]; rfl
  obtain ⟨v, v1, v2⟩ := visits_len tb zf (hsu _ tb)
  obtain ⟨u, u1, u2⟩ := visits_len t zf (hsu _ t)
  have hle := (opens_sub (sub.map (gO g))).1
  have c1 : (v.length : Int) ≤ u.length := by omega
  simp only [hp, Option.bind_some, decide_true, Bool.not_true, cond_false, part_loop (show (keptL (l.map noErr) 0).length ≤ 14 by omega) kin, Length_eq hlen hg (track_ok t), Length_eq tb.1 hgb (track_ok tb), v1, u1, fleettop_TopVisitsFromPlainTracks_x3]
  unfold fleettop_TopVisitsFromPlainTracks_x4
  simp only [n1.1, n2.1, c1, decide_true, cond_true, facts_eq, Option.bind_some]
  exact .some rfl
end Go.Eng

