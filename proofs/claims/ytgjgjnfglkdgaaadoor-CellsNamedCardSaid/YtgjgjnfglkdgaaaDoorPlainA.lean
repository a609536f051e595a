/-
What the plain functions of the law CellsNamed answer, part 1.
-/
import Derived.Test.YtgjgjnfglkdgaaaDoorGenF
import Derived.KernelRfl
import Derived.Test.YtgjgjnfglkdgaaaDoorEngV
/-
Plain functions: what they answer, in total. Loops by an invariant and a measure.
-/
namespace Go.Eng
open Go
set_option linter.unusedVariables false
set_option linter.unusedSimpArgs false

def Ok {α : Type} (x : Option α) (P : α → Prop) : Prop := ∃ r, x = some r ∧ P r
section
variable {α β σ ρ : Type} {P Q : α → Prop} {R : β → Prop}
theorem Ok.some {r : α} (h : P r) : Ok (some r) P := ⟨r, rfl, h⟩
theorem Ok.mono {x : Option α} (h : Ok x P) (hq : ∀ r, P r → Q r) : Ok x Q := let ⟨r, h1, h2⟩ := h; ⟨r, h1, hq r h2⟩
theorem Ok.bind {x : Option α} {f : α → Option β} (h : Ok x P) (hf : ∀ r, P r → Ok (f r) R) : Ok (x.bind f) R := by
  obtain ⟨r, rfl, hr⟩ := h
  exact hf r hr
theorem Ok.cond {b : Bool} {x y : Option α} (ht : b = true → Ok x P) (hf : b = false → Ok y P) : Ok (cond b x y) P := by
  cases b
  · exact hf rfl
  · exact ht rfl
theorem Ok.gd {b : Bool} {x : Option α} (hb : b = true) (h : Ok x P) : Ok (gd b x) P := by
  subst hb; exact h
theorem Ok.eq {x : Option α} {r : α} (h : Ok x fun y => y = r) : x = Option.some r := by
  obtain ⟨y, h1, h2⟩ := h
  rw [h1, h2]
theorem Ok.of_eq {x : Option α} {r : α} (h : x = Option.some r) (hp : P r) : Ok x P := ⟨r, h, hp⟩

theorem loop_ok {f : σ → Option (σ ⊕ ρ)} {Q : ρ → Prop} (I : σ → Prop) (μ : σ → Nat)
    (step : ∀ s, I s → Ok (f s) fun x => match x with | .inl s' => I s' ∧ μ s' < μ s | .inr r => Q r) {s : σ} (h : I s) : Ok (loopO f s) Q := by
  generalize hn : μ s = n
  induction n using Nat.strongRecOn generalizing s with
  | _ n ih =>
    obtain ⟨x, h1, h2⟩ := step s h
    cases x with
    | inl s' =>
      obtain ⟨h3, h4⟩ := h2
      obtain ⟨r, h5, h6⟩ := ih (μ s') (by omega) h3 rfl
      refine ⟨r, ?_, h6⟩
      rw [loopO_eq, h1]
      exact h5
    | inr r =>
      refine ⟨r, ?_, h2⟩
      rw [loopO_eq, h1]
      rfl

theorem at_lt {l : List α} {n : Int} (h : 0 ≤ n) (h2 : n < l.length) : at? l n = Option.some (l[n.toNat]'(by omega)) := by
  unfold at?
  rw [if_pos h, List.getElem?_eq_getElem]
theorem at_nat {l : List α} {n : Nat} (h : n < l.length) : at? l (n : Int) = Option.some l[n] := by
  rw [at_lt (by omega) (by omega)]
  simp
theorem at_ok {l : List α} {n : Int} (h : 0 ≤ n) (h2 : n < l.length) : Ok (at? l n) (fun y => l[n.toNat]? = Option.some y) := by
  refine ⟨_, at_lt h h2, ?_⟩
  rw [List.getElem?_eq_getElem]
theorem at_mem {l : List α} {n : Int} (h : 0 ≤ n) (h2 : n < l.length) : Ok (at? l n) (fun y => y ∈ l) := by
  refine (at_ok h h2).mono fun y hy => List.mem_of_getElem? hy
end

/-! ### Integers of 64 bits -/
def I64 (n : Int) : Prop := -9223372036854775808 ≤ n ∧ n ≤ 9223372036854775807
theorem wrap64 {n : Int} (h : -9223372036854775808 ≤ n) (h2 : n ≤ 9223372036854775807) : IntKind.wrap .i64 n = n := by
  unfold IntKind.wrap
  simp [IntKind.min, IntKind.max, IntKind.bits, IntKind.signed]
  omega
theorem tmod_nonneg {a b : Int} (h : 0 ≤ a) : 0 ≤ a.tmod b := Int.tmod_nonneg b h
theorem tmod_lt' {a b : Int} (h : 0 < b) : a.tmod b < b := Int.tmod_lt_of_pos a h
theorem lim_eq : LIM = 137438953472 := by decide
theorem ble_lim {n : Nat} (h : n ≤ 137438953472) : Nat.ble n LIM = true := by rw [Nat.ble_eq, lim_eq]; exact h
end Go.Eng

/-
Loops over the elements of a list; keys.
-/
namespace Go.Eng
open Go
set_option linter.unusedVariables false
set_option linter.unusedSimpArgs false

/-- The first answer of the elements from number k on. -/
def scan {α ρ : Type} (g : Nat → α → Option ρ) : Nat → List α → Option ρ
  | _, [] => none
  | k, x :: xs => match g k x with
    | some r => some r
    | none => scan g (k + 1) xs

theorem drop_get {α : Type} {l : List α} {i : Nat} (h : i < l.length) : l.drop i = l[i] :: l.drop (i + 1) := List.drop_eq_getElem_cons h

/-- A loop over a list that ends at the first element with an answer. -/
theorem range_loop {α ρ : Type} {l : List α} {f : Int → Option (Int ⊕ ρ)} (g : Nat → α → Option ρ) (done : ρ) (hl : (l.length : Int) ≤ 9223372036854775807)
    (hf : ∀ (i : Nat) (h : i < l.length), f i = some (match g i l[i] with | none => .inl (IntKind.wrap .i64 (i + 1)) | some r => .inr r)) (hd : f l.length = some (.inr done)) :
    loopO f 0 = some ((scan g 0 l).getD done) := by
  have key : ∀ (n i : Nat), l.length - i = n → i ≤ l.length → loopO f i = some ((scan g i (l.drop i)).getD done) := by
    intro n
    induction n with
    | zero =>
      intro i h1 h2
      have : i = l.length := by omega
      subst this
      rw [loopO_eq, hd, List.drop_length]
      rfl
    | succ n ih =>
      intro i h1 h2
      have hi : i < l.length := by omega
      rw [loopO_eq, hf i hi, drop_get hi]
      simp only [scan]
      cases hg : g i l[i] with
      | some r => rfl
      | none =>
        simp only [Option.bind_some]
        rw [wrap64 (by omega) (by omega)]
        exact ih (i + 1) (by omega) (by omega)
  exact key l.length 0 (by omega) (by omega)

theorem scan_none {α ρ : Type} {g : Nat → α → Option ρ} : ∀ {l : List α} {k : Nat}, scan g k l = none ↔ ∀ (i : Nat) (x : α), l[i]? = some x → g (k + i) x = none
  | [], k => by simp [scan]
  | y :: l, k => by
    simp only [scan]
    cases hg : g k y with
    | some r =>
      simp only [reduceCtorEq, false_iff]
      intro h
      have := h 0 y rfl
      rw [Nat.add_zero, hg] at this
      cases this
    | none =>
      simp only
      rw [scan_none]
      constructor
      · intro h i x hi
        cases i with
        | zero => simp at hi; subst hi; exact hg
        | succ i => rw [show k + (i + 1) = k + 1 + i by omega]; exact h i x (by simpa using hi)
      · intro h i x hi
        rw [show k + 1 + i = k + (i + 1) by omega]
        exact h (i + 1) x (by simpa using hi)
/-! ### Keys -/
def keyC (c : UInt8) : Bool := (97 ≤ c.toNat && c.toNat ≤ 122) || (48 ≤ c.toNat && c.toNat ≤ 57) || c.toNat == 45 || c.toNat == 95
def keyB (s : List UInt8) : Bool := match s with
  | [] => false
  | c :: l => decide (l.length < 40) && (97 ≤ c.toNat && c.toNat ≤ 122) && (c :: l).all keyC

theorem u8_lt (c : UInt8) : c.toNat < 256 := c.toNat_lt

theorem u8_all {p : UInt8 → Bool} (h : ((List.range 256).all fun n => p (UInt8.ofNat n)) = true) (c : UInt8) : p c = true := by
  have := List.all_eq_true.1 h c.toNat (List.mem_range.2 (u8_lt c))
  simpa using this
theorem Key_x3 (c : UInt8) : base_Key_x3 c = some (!keyC c) := by
  have := u8_all (p := fun c => decide (base_Key_x3 c = some (!keyC c))) (by decide +kernel) c
  simpa using this
theorem Key_x2 (s : List UInt8) (hs : (s.length : Int) ≤ 9223372036854775807) : loopO (base_Key_x2 s) 0 = some (cond (s.all keyC) (.inl ()) (.inr ())) := by
  rw [range_loop (l := s) (fun _ c => cond (keyC c) none (some (.inr ()))) (.inl ()) hs]
  · congr 1
    generalize 0 = k
    induction s generalizing k with
    | nil => rfl
    | cons c s ih =>
      simp only [scan, List.all_cons]
      cases keyC c with
      | true => simp only [cond_true, Bool.true_and]; exact ih (by simp at hs; omega) (k + 1)
      | false => rfl
  · intro i hi
    unfold base_Key_x2
    rw [at_nat hi]
    have : ((i : Int) < s.length) := by omega
    simp only [this, decide_true, cond_true, Option.bind_some, Key_x3]
    cases keyC s[i] <;> rfl
  · unfold base_Key_x2
    simp
theorem Key_eq (s : List UInt8) (hs : (s.length : Int) ≤ 9223372036854775807) : base_Key s = some (keyB s) := by
  unfold base_Key base_Key_x1
  cases s with
  | nil => simp [keyB]
  | cons c l =>
    rw [Key_x2 _ hs]
    have h0 : at? (c :: l) 0 = some c := rfl
    simp only [reduceCtorEq, decide_false, cond_false, h0, Option.bind_some]
    unfold keyB
    have h40 : ((40 : Int) < ((c :: l).length : Int)) ↔ ¬ l.length < 40 := by simp; omega
    by_cases h1 : l.length < 40
    · have h1' : ¬ ((40 : Int) < ((c :: l).length : Int)) := by rw [h40]; simpa using h1
      simp only [h1', decide_false, cond_false, h1, decide_true, Bool.true_and]
      by_cases h2 : (c.toNat : Int) < 97
      · have : ¬ 97 ≤ c.toNat := by omega
        simp [h2, this]
      · by_cases h3 : (122 : Int) < c.toNat
        · have : ¬ c.toNat ≤ 122 := by omega
          simp [h2, h3, this]
        · have g1 : 97 ≤ c.toNat := by omega
          have g2 : c.toNat ≤ 122 := by omega
          simp only [h2, decide_false, cond_false, h3, Option.bind_some, g1, g2, decide_true, Bool.and_self, Bool.true_and]
          cases (c :: l).all keyC <;> rfl
    · have h1' : ((40 : Int) < ((c :: l).length : Int)) := by rw [h40]; exact h1
      simp only [h1', h1, decide_true, decide_false, cond_true, Option.bind_some, Bool.false_and]
end Go.Eng

/-
Sorting of few elements, and what is left of equal ones, for all kinds of elements.
-/
namespace Go.Eng
open Go
set_option linter.unusedVariables false
set_option linter.unusedSimpArgs false

/-- Two loops side by side, over the same states. -/
theorem loop_two {σ ρ : Type} {f g : σ → Option (σ ⊕ ρ)} (I : σ → Prop) (μ : σ → Nat) (Q : ρ → Prop)
    (step : ∀ s, I s → (∃ s', f s = some (.inl s') ∧ g s = some (.inl s') ∧ I s' ∧ μ s' < μ s) ∨ (∃ r, f s = some (.inr r) ∧ g s = some (.inr r) ∧ Q r)) {s : σ} (h : I s) :
    ∃ r, loopO f s = some r ∧ loopO g s = some r ∧ Q r := by
  generalize hn : μ s = n
  induction n using Nat.strongRecOn generalizing s with
  | _ n ih =>
    rcases step s h with ⟨s', h1, h2, h3, h4⟩ | ⟨r, h1, h2, h3⟩
    · obtain ⟨r, g1, g2, g3⟩ := ih (μ s') (by omega) h3 rfl
      refine ⟨r, ?_, ?_, g3⟩
      · rw [loopO_eq, h1]; exact g1
      · rw [loopO_eq, h2]; exact g2
    · refine ⟨r, ?_, ?_, h3⟩
      · rw [loopO_eq, h1]; rfl
      · rw [loopO_eq, h2]; rfl

theorem loop_in {σ ρ : Type} {f : σ → Option (σ ⊕ ρ)} {s s' : σ} (h : f s = some (.inl s')) : loopO f s = loopO f s' := by rw [loopO_eq, h]; rfl
theorem loop_out {σ ρ : Type} {f : σ → Option (σ ⊕ ρ)} {s : σ} {r : ρ} (h : f s = some (.inr r)) : loopO f s = some r := by rw [loopO_eq, h]; rfl

section
variable {α : Type}
/-! ### Insertion, as the code has it -/
def All (p : α → Prop) (l : List α) : Prop := ∀ x ∈ l, p x
theorem All.nil {p : α → Prop} : All p [] := fun _ h => nomatch h
theorem All.at {p : α → Prop} {l : List α} (h : All p l) {i : Nat} (hi : i < l.length) : p l[i] := h _ (List.getElem_mem hi)

/-! ### Equal ones, as the code has it -/
/-- A loop over all elements of a list that only gathers. -/
theorem gather_loop {τ σ ρ : Type} {l : List α} {f : τ → Option (τ ⊕ ρ)} (e : σ → Int → τ) (h : σ → α → σ) (fin : σ → ρ) (I : Nat → σ → Prop) {s0 : σ} (hl : (l.length : Int) ≤ 9223372036854775807)
    (hf : ∀ (i : Nat) (hi : i < l.length) (s : σ), I i s → f (e s i) = some (.inl (e (h s l[i]) (IntKind.wrap .i64 (i + 1)))) ∧ I (i + 1) (h s l[i])) (hd : ∀ s, I l.length s → f (e s l.length) = some (.inr (fin s))) (h0 : I 0 s0) :
    loopO f (e s0 0) = some (fin (l.foldl h s0)) ∧ I l.length (l.foldl h s0) := by
  have key : ∀ (n i : Nat) (s : σ), l.length - i = n → i ≤ l.length → I i s → loopO f (e s i) = some (fin ((l.drop i).foldl h s)) ∧ I l.length ((l.drop i).foldl h s) := by
    intro n
    induction n with
    | zero =>
      intro i s h1 h2 h3
      have : i = l.length := by omega
      subst this
      rw [List.drop_length]
      refine ⟨?_, h3⟩
      rw [loopO_eq, hd s h3]
      rfl
    | succ n ih =>
      intro i s h1 h2 h3
      have hi : i < l.length := by omega
      obtain ⟨g1, g2⟩ := hf i hi s h3
      obtain ⟨f1, f2⟩ := ih (i + 1) (h s l[i]) (by omega) (by omega) g2
      rw [drop_get hi, List.foldl_cons]
      refine ⟨?_, f2⟩
      rw [loopO_eq, g1]
      simp only [Option.bind_some]
      rw [wrap64 (by omega) (by omega)]
      exact f1
  have := key l.length 0 s0 (by omega) (by omega) h0
  simpa using this
end
end Go.Eng

/-
Small checks; the order of measurements.
-/
namespace Go.Eng
open Go
set_option linter.unusedVariables false
set_option linter.unusedSimpArgs false

theorem Out_eq (n low high : Int) : base_Out n low high = some (decide (n < low) || decide (high < n)) := by
  unfold base_Out base_Out_x1
  by_cases h : n < low <;> simp [h]
theorem in_eq (n low high : Int) : fleetref2_in n low high = some (decide (low ≤ n) && decide (n ≤ high)) := by
  unfold fleetref2_in fleetref2_in_x1
  by_cases h : low ≤ n <;> simp [h]
theorem indexByte_neg (l : List UInt8) (c : UInt8) : decide (Lib.indexByte l c < 0) = !l.contains c := by
  induction l with
  | nil => rfl
  | cons b l ih =>
    have hge := Lib.indexByte_ge l c
    unfold Lib.indexByte
    rw [List.contains_cons]
    by_cases hb : (b == c) = true
    · have : (c == b) = true := by rw [BEq.comm]; exact hb
      simp [hb, this]
    · have hb' : (b == c) = false := by simpa using hb
      have : (c == b) = false := by rw [BEq.comm]; exact hb'
      simp only [hb', Bool.false_eq_true, if_false, this, Bool.false_or]
      rw [← ih]
      by_cases h1 : Lib.indexByte l c = -1
      · simp [h1]
      · have : (Lib.indexByte l c == -1) = false := by simpa using h1
        simp only [this, Bool.false_eq_true, if_false]
        congr 1
        simp
        omega
theorem only_eq (s t : List UInt8) (hs : (s.length : Int) ≤ 9223372036854775807) : fleetref2_only s t = some (s.all fun c => t.contains c) := by
  unfold fleetref2_only
  rw [range_loop (l := s) (fun _ c => cond (t.contains c) none (some (.inr ()))) (.inl ()) hs]
  · simp only [Option.bind_some]
    generalize 0 = k
    induction s generalizing k with
    | nil => rfl
    | cons c s ih =>
      simp only [scan, List.all_cons]
      cases t.contains c with
      | true => simp only [cond_true, Bool.true_and]; exact ih (by simp at hs; omega) (k + 1)
      | false => rfl
  · intro i hi
    unfold fleetref2_only_x1
    rw [at_nat hi]
    have : ((i : Int) < s.length) := by omega
    have hc : ((s[i].toNat : Int).toNat.toUInt8) = s[i] := by simp
    simp only [this, decide_true, cond_true, Option.bind_some, strings_IndexByte, stringslite_IndexByte, hc, indexByte_neg]
    cases t.contains s[i] <;> rfl
  · unfold fleetref2_only_x1
    simp

theorem small_contains (c : UInt8) : ([97, 98, 99, 100, 101, 102, 103, 104, 105, 106, 107, 108, 109, 110, 111, 112, 113, 114, 115, 116, 117, 118, 119, 120, 121, 122] : List UInt8).contains c = (decide (97 ≤ c.toNat) && decide (c.toNat ≤ 122)) := by
  have := u8_all (p := fun c => ([97, 98, 99, 100, 101, 102, 103, 104, 105, 106, 107, 108, 109, 110, 111, 112, 113, 114, 115, 116, 117, 118, 119, 120, 121, 122] : List UInt8).contains c == (decide (97 ≤ c.toNat) && decide (c.toNat ≤ 122))) (by decide +kernel) c
  exact eq_of_beq this
theorem key_contains (c : UInt8) : ([97, 98, 99, 100, 101, 102, 103, 104, 105, 106, 107, 108, 109, 110, 111, 112, 113, 114, 115, 116, 117, 118, 119, 120, 121, 122, 48, 49, 50, 51, 52, 53, 54, 55, 56, 57, 45, 95] : List UInt8).contains c = keyC c := by
  have := u8_all (p := fun c => ([97, 98, 99, 100, 101, 102, 103, 104, 105, 106, 107, 108, 109, 110, 111, 112, 113, 114, 115, 116, 117, 118, 119, 120, 121, 122, 48, 49, 50, 51, 52, 53, 54, 55, 56, 57, 45, 95] : List UInt8).contains c == keyC c) (by decide +kernel) c
  exact eq_of_beq this

theorem QKey_eq (s : List UInt8) (hs : (s.length : Int) ≤ 9223372036854775807) : fleetref2_Key s = some (keyB s) := by
  unfold fleetref2_Key fleetref2_Key_x1
  rw [in_eq]
  cases s with
  | nil => rfl
  | cons c l =>
    have h1 : (1 : Int) ≤ ((c :: l).length : Int) := by simp; omega
    have h40 : (((c :: l).length : Int) ≤ 40) ↔ l.length < 40 := by simp; omega
    have hsub : sub? (c :: l) 0 1 = some [c] := by
      unfold sub?
      simp
      omega
    simp only [Option.bind_some, h1, decide_true, Bool.true_and, hsub]
    rw [only_eq [c] _ (by simp), only_eq (c :: l) _ hs]
    simp only [small_contains, key_contains, Option.bind_some, List.all_cons, List.all_nil, Bool.and_true]
    unfold keyB
    simp only [List.all_cons]
    by_cases h2 : l.length < 40
    · have : (((c :: l).length : Int) ≤ 40) := h40.2 h2
      simp only [this, decide_true, cond_true, h2, Bool.true_and]
      cases (decide (97 ≤ c.toNat) && decide (c.toNat ≤ 122)) <;> rfl
    · have : ¬ (((c :: l).length : Int) ≤ 40) := fun h => h2 (h40.1 h)
      simp only [this, decide_false, cond_false, h2, Bool.false_and, Option.bind_some]

/-! ### Orders -/
def cmpI (a b : Int) : Int := if a < b then -1 else if b < a then 1 else 0
def or0 (a b : Int) : Int := if a = 0 then b else a
end Go.Eng

/-
Checks of measurements and series, both ways.
-/
namespace Go.Eng
open Go
set_option linter.unusedVariables false
set_option linter.unusedSimpArgs false

theorem cmpInt_eq (a b : Int) : cmp_Compare_int a b = some (cmpI a b) := by
  unfold cmp_Compare_int cmp_isNaN_int cmpI
  by_cases h1 : a < b
  · simp [h1]
  · by_cases h2 : b < a <;> simp [h1, h2]
theorem sign_eq (n : Int) : fleetref2_sign n = some (cmpI n 0) := by
  unfold fleetref2_sign cmpI
  by_cases h1 : n < 0
  · simp [h1]
  · by_cases h2 : 0 < n <;> simp [h1, h2]
/-! ### Check -/
end Go.Eng

/-
Fixes: checks, orders, merging, those of a device.
-/
namespace Go.Eng
open Go
set_option linter.unusedVariables false
set_option linter.unusedSimpArgs false

/-! ### The library's functions are those for all kinds -/
/-! ### Checks -/
theorem isSpot_eq (s : api_Spot) : place_isSpot s = some ((decide (-10000 ≤ s.X) && decide (s.X ≤ 10000)) && (decide (-10000 ≤ s.Y) && decide (s.Y ≤ 10000))) := by
  unfold place_isSpot place_isSpot_x1
  simp only [Out_eq, Option.bind_some]
  by_cases h1 : s.X < -10000 <;> by_cases h2 : 10000 < s.X <;> by_cases h3 : s.Y < -10000 <;> by_cases h4 : 10000 < s.Y <;> simp [h1, h2, h3, h4] <;> omega
theorem SpotFault_eq (s : api_Spot) : fleetref2_SpotFault s = some (cond ((decide (-10000 ≤ s.X) && decide (s.X ≤ 10000)) && (decide (-10000 ≤ s.Y) && decide (s.Y ≤ 10000))) 0 1) := by
  unfold fleetref2_SpotFault fleetref2_SpotFault_x1
  simp only [in_eq, Option.bind_some]
  cases (decide (-10000 ≤ s.X) && decide (s.X ≤ 10000)) <;> cases (decide (-10000 ≤ s.Y) && decide (s.Y ≤ 10000)) <;> rfl
/-! ### Merging -/
/-! ### Those of a device -/
theorem placed_eq : fleetlaw2_placed = some true := by kernel_rfl
end Go.Eng

/-
Plane geometry in whole numbers: parity and turns of a fence around a spot.
-/
namespace Go.Eng.Geo
/-- twice the area of the triangle a b s -/
def sd (ax ay bx b_y sx sy : Int) : Int := (bx - ax) * (sy - ay) - (b_y - ay) * (sx - ax)
def onb (ax ay bx b_y sx sy : Int) : Prop := sd ax ay bx b_y sx sy = 0 ∧ min ax bx ≤ sx ∧ sx ≤ max ax bx ∧ min ay b_y ≤ sy ∧ sy ≤ max ay b_y
def meetsP (ax ay bx b_y cx cy dx dy : Int) : Prop :=
  onb ax ay bx b_y cx cy ∨ onb ax ay bx b_y dx dy ∨ onb cx cy dx dy ax ay ∨ onb cx cy dx dy bx b_y ∨
  (sd ax ay bx b_y cx cy * sd ax ay bx b_y dx dy < 0 ∧ sd cx cy dx dy ax ay * sd cx cy dx dy bx b_y < 0)

theorem cpos {k x : Int} (hk : 0 < k) (h : 0 < k * x) : 0 < x := by
  by_cases h0 : 0 < x
  · exact h0
  · have := Int.mul_nonpos_of_nonneg_of_nonpos (show 0 ≤ k by omega) (show x ≤ 0 by omega); omega
theorem cneg {k x : Int} (hk : 0 < k) (h : k * x < 0) : x < 0 := by
  by_cases h0 : x < 0
  · exact h0
  · have := Int.mul_nonneg (show 0 ≤ k by omega) (show 0 ≤ x by omega); omega
theorem cnn {k x : Int} (hk : 0 < k) (h : 0 ≤ k * x) : 0 ≤ x := by
  by_cases h0 : 0 ≤ x
  · exact h0
  · have := Int.mul_neg_of_pos_of_neg hk (show x < 0 by omega); omega
theorem cnp {k x : Int} (hk : 0 < k) (h : k * x ≤ 0) : x ≤ 0 := by
  by_cases h0 : x ≤ 0
  · exact h0
  · have := Int.mul_pos hk (show 0 < x by omega); omega
theorem pp {a b : Int} (h1 : 0 < a) (h2 : 0 < b) : 0 < a * b := Int.mul_pos h1 h2
theorem pn {a b : Int} (h1 : 0 < a) (h2 : b < 0) : a * b < 0 := Int.mul_neg_of_pos_of_neg h1 h2
theorem np {a b : Int} (h1 : a < 0) (h2 : 0 < b) : a * b < 0 := Int.mul_neg_of_neg_of_pos h1 h2
theorem nn {a b : Int} (h1 : a < 0) (h2 : b < 0) : 0 < a * b := Int.mul_pos_of_neg_of_neg h1 h2
theorem PP {a b : Int} (h1 : 0 ≤ a) (h2 : 0 ≤ b) : 0 ≤ a * b := Int.mul_nonneg h1 h2
theorem PN {a b : Int} (h1 : 0 ≤ a) (h2 : b ≤ 0) : a * b ≤ 0 := Int.mul_nonpos_of_nonneg_of_nonpos h1 h2
theorem NP {a b : Int} (h1 : a ≤ 0) (h2 : 0 ≤ b) : a * b ≤ 0 := Int.mul_nonpos_of_nonpos_of_nonneg h1 h2
theorem NN {a b : Int} (h1 : a ≤ 0) (h2 : b ≤ 0) : 0 ≤ a * b := Int.mul_nonneg_of_nonpos_of_nonpos h1 h2

/-- a spot on the line of a way that rises, at a height within, is on the way -/
theorem onb_of_y {ax ay bx b_y sx sy : Int} (h : sd ax ay bx b_y sx sy = 0) (h1 : ay ≤ sy) (h2 : sy ≤ b_y) (h3 : ay < b_y) : onb ax ay bx b_y sx sy := by
  refine ⟨h, ?_⟩
  unfold sd at h
  have hk : (b_y - ay) * (sx - ax) = (bx - ax) * (sy - ay) := by omega
  have hk2 : (b_y - ay) * (sx - bx) = (bx - ax) * (sy - b_y) := by grind
  by_cases hx : bx < ax
  · have f1 := cnp (show 0 < b_y - ay by omega) (show (b_y - ay) * (sx - ax) ≤ 0 by rw [hk]; exact NP (by omega) (by omega))
    have f2 := cnn (show 0 < b_y - ay by omega) (show 0 ≤ (b_y - ay) * (sx - bx) by rw [hk2]; exact NN (by omega) (by omega))
    omega
  · have f1 := cnn (show 0 < b_y - ay by omega) (show 0 ≤ (b_y - ay) * (sx - ax) by rw [hk]; exact PP (by omega) (by omega))
    have f2 := cnp (show 0 < b_y - ay by omega) (show (b_y - ay) * (sx - bx) ≤ 0 by rw [hk2]; exact PN (by omega) (by omega))
    omega

theorem I1 (ax ay bx b_y sx sy tx ty : Int) : (ty - sy) * sd ax ay bx b_y sx sy = sd sx sy tx ty bx b_y * (ay - sy) - sd sx sy tx ty ax ay * (b_y - sy) := by unfold sd; grind
theorem I2 (ax ay bx b_y sx sy tx ty : Int) : (ty - sy) * sd ax ay bx b_y tx ty = sd sx sy tx ty bx b_y * (ay - ty) - sd sx sy tx ty ax ay * (b_y - ty) := by unfold sd; grind
theorem sd_swap (ax ay bx b_y sx sy : Int) : sd bx b_y ax ay sx sy = - sd ax ay bx b_y sx sy := by unfold sd; grind

theorem onb_swap {ax ay bx b_y sx sy : Int} (h : onb bx b_y ax ay sx sy) : onb ax ay bx b_y sx sy := by
  obtain ⟨h1, h2⟩ := h
  rw [sd_swap] at h1
  exact ⟨by omega, by omega⟩
theorem meetsP_swap {ax ay bx b_y sx sy tx ty : Int} (h : meetsP bx b_y ax ay sx sy tx ty) : meetsP ax ay bx b_y sx sy tx ty := by
  rcases h with h | h | h | h | h
  · exact .inl (onb_swap h)
  · exact .inr (.inl (onb_swap h))
  · exact .inr (.inr (.inr (.inl h)))
  · exact .inr (.inr (.inl h))
  · obtain ⟨h1, h2⟩ := h
    rw [sd_swap ax ay bx b_y sx sy, sd_swap ax ay bx b_y tx ty, Int.neg_mul_neg] at h1
    rw [Int.mul_comm] at h2
    exact .inr (.inr (.inr (.inr ⟨h1, h2⟩)))
/-- which of two ways is told first does not matter -/
theorem meetsP_comm {ax ay bx b_y sx sy tx ty : Int} (h : meetsP ax ay bx b_y sx sy tx ty) : meetsP sx sy tx ty ax ay bx b_y := by
  rcases h with h | h | h | h | h
  · exact .inr (.inr (.inl h))
  · exact .inr (.inr (.inr (.inl h)))
  · exact .inl h
  · exact .inr (.inl h)
  · exact .inr (.inr (.inr (.inr ⟨h.2, h.1⟩)))

/-- the part of the plane to the right of the way that rises from s to t -/
def reg (sx sy tx ty cx cy : Int) : Prop := sy < cy ∧ cy ≤ ty ∧ sd sx sy tx ty cx cy < 0
/-- the edge from a to b (a not the higher one) goes over the height of s, to its right -/
def hitU (ax ay bx b_y sx sy : Int) : Prop := ay ≤ sy ∧ sy < b_y ∧ 0 < sd ax ay bx b_y sx sy

theorem inStrip {ax ay bx b_y sx sy tx ty : Int} (hst : sy < ty) (h1 : sy < ay) (h2 : ay ≤ ty) (h3 : sy < b_y) (h4 : b_y ≤ ty)
    (hm : ¬ meetsP ax ay bx b_y sx sy tx ty) (hn : sd sx sy tx ty ax ay < 0) : sd sx sy tx ty bx b_y < 0 := by
  have i1 := I1 ax ay bx b_y sx sy tx ty
  have i2 := I2 ax ay bx b_y sx sy tx ty
  by_cases h0 : sd sx sy tx ty bx b_y < 0
  · exact h0
  exfalso; apply hm
  by_cases h0' : sd sx sy tx ty bx b_y = 0
  · exact Or.inr (Or.inr (Or.inr (Or.inl (onb_of_y h0' (by omega) h4 hst))))
  have hp : 0 < sd sx sy tx ty bx b_y := by omega
  have a1 := pp hp (show 0 < ay - sy by omega)
  have a2 := np hn (show 0 < b_y - sy by omega)
  have a3 := PN (Int.le_of_lt hp) (show ay - ty ≤ 0 by omega)
  have a4 := NN (Int.le_of_lt hn) (show b_y - ty ≤ 0 by omega)
  have s1 := cpos (show 0 < ty - sy by omega) (show 0 < (ty - sy) * sd ax ay bx b_y sx sy by omega)
  have s2 := cnp (show 0 < ty - sy by omega) (show (ty - sy) * sd ax ay bx b_y tx ty ≤ 0 by omega)
  by_cases hz : sd ax ay bx b_y tx ty = 0
  · rw [hz, Int.mul_zero] at i2
    have b1 : ay = ty := by
      by_cases hh : ay < ty
      · have := pn hp (show ay - ty < 0 by omega); omega
      · omega
    have b2 : b_y = ty := by
      by_cases hh : b_y < ty
      · have := nn hn (show b_y - ty < 0 by omega); omega
      · omega
    refine Or.inr (Or.inl ⟨hz, ?_⟩)
    have e1 : sd sx sy tx ty ax ay = (ty - sy) * (tx - ax) := by rw [b1]; unfold sd; grind
    have e2 : sd sx sy tx ty bx b_y = (ty - sy) * (tx - bx) := by rw [b2]; unfold sd; grind
    rw [e1] at hn; rw [e2] at hp
    have := cneg (show 0 < ty - sy by omega) hn
    have := cpos (show 0 < ty - sy by omega) hp
    omega
  · exact Or.inr (Or.inr (Or.inr (Or.inr ⟨pn s1 (by omega), np hn hp⟩)))

/-- an edge that does not meet the way from s to t (not falling) changes sides as its ends do -/
theorem edge_par {ax ay bx b_y sx sy tx ty : Int} (hst : sy ≤ ty) (hab : ay ≤ b_y) (hm : ¬ meetsP ax ay bx b_y sx sy tx ty) :
    ((hitU ax ay bx b_y sx sy ↔ hitU ax ay bx b_y tx ty) ↔ (reg sx sy tx ty ax ay ↔ reg sx sy tx ty bx b_y)) := by
  have i1 := I1 ax ay bx b_y sx sy tx ty
  have i2 := I2 ax ay bx b_y sx sy tx ty
  have i3 := I1 sx sy tx ty ax ay bx b_y
  have i4 := I2 sx sy tx ty ax ay bx b_y
  have n1 : ¬ onb ax ay bx b_y sx sy := fun h => hm (.inl h)
  have n2 : ¬ onb ax ay bx b_y tx ty := fun h => hm (.inr (.inl h))
  have n3 : ¬ onb sx sy tx ty ax ay := fun h => hm (.inr (.inr (.inl h)))
  have n4 : ¬ onb sx sy tx ty bx b_y := fun h => hm (.inr (.inr (.inr (.inl h))))
  have n5 : ¬ (sd ax ay bx b_y sx sy * sd ax ay bx b_y tx ty < 0 ∧ sd sx sy tx ty ax ay * sd sx sy tx ty bx b_y < 0) := fun h => hm (.inr (.inr (.inr (.inr h))))
  by_cases hd : sy < ty
  · by_cases ha : ay ≤ sy
    · by_cases hb : b_y ≤ sy
      · unfold hitU reg; omega
      by_cases hb2 : b_y ≤ ty
      · -- a below, b in the strip
        have key : 0 < sd ax ay bx b_y sx sy ↔ sd sx sy tx ty bx b_y < 0 := by
          constructor
          · intro h
            by_cases h0 : sd sx sy tx ty bx b_y < 0
            · exact h0
            exfalso
            by_cases h0' : sd sx sy tx ty bx b_y = 0
            · exact n4 (onb_of_y h0' (by omega) hb2 hd)
            have hp : 0 < sd sx sy tx ty bx b_y := by omega
            have a1 := pp (show 0 < ty - sy by omega) h
            have a2 := PN (Int.le_of_lt hp) (show ay - sy ≤ 0 by omega)
            have t1 := cneg (k := b_y - sy) (x := sd sx sy tx ty ax ay) (by omega) (by rw [Int.mul_comm]; omega)
            have a3 := pn hp (show ay - ty < 0 by omega)
            have a4 := NN (Int.le_of_lt t1) (show b_y - ty ≤ 0 by omega)
            have s2 := cneg (show 0 < ty - sy by omega) (show (ty - sy) * sd ax ay bx b_y tx ty < 0 by omega)
            exact n5 ⟨pn h s2, np t1 hp⟩
          · intro h
            by_cases h0 : 0 < sd ax ay bx b_y sx sy
            · exact h0
            exfalso
            by_cases h0' : sd ax ay bx b_y sx sy = 0
            · exact n1 (onb_of_y h0' ha (by omega) (by omega))
            have hp : sd ax ay bx b_y sx sy < 0 := by omega
            have a1 := pn (show 0 < ty - sy by omega) hp
            have a2 := NN (Int.le_of_lt h) (show ay - sy ≤ 0 by omega)
            have t1 := cpos (k := b_y - sy) (x := sd sx sy tx ty ax ay) (by omega) (by rw [Int.mul_comm]; omega)
            have a3 := nn h (show ay - ty < 0 by omega)
            have a4 := PN (Int.le_of_lt t1) (show b_y - ty ≤ 0 by omega)
            have s2 := cpos (show 0 < ty - sy by omega) (show 0 < (ty - sy) * sd ax ay bx b_y tx ty by omega)
            exact n5 ⟨np hp s2, pn t1 h⟩
        unfold hitU reg; omega
      · -- a below, b above
        have key : 0 < sd ax ay bx b_y sx sy ↔ 0 < sd ax ay bx b_y tx ty := by
          constructor
          · intro h
            by_cases h0 : 0 < sd ax ay bx b_y tx ty
            · exact h0
            exfalso
            by_cases h0' : sd ax ay bx b_y tx ty = 0
            · exact n2 (onb_of_y h0' (by omega) (by omega) (by omega))
            have hp : sd ax ay bx b_y tx ty < 0 := by omega
            have a1 := NP (Int.le_of_lt hp) (show 0 ≤ sy - ay by omega)
            have a2 := pp h (show 0 < ty - ay by omega)
            have t1 := cneg (show 0 < b_y - ay by omega) (show (b_y - ay) * sd sx sy tx ty ax ay < 0 by omega)
            have a3 := nn hp (show sy - b_y < 0 by omega)
            have a4 := pn h (show ty - b_y < 0 by omega)
            have t2 := cpos (show 0 < b_y - ay by omega) (show 0 < (b_y - ay) * sd sx sy tx ty bx b_y by omega)
            exact n5 ⟨pn h hp, np t1 t2⟩
          · intro h
            by_cases h0 : 0 < sd ax ay bx b_y sx sy
            · exact h0
            exfalso
            by_cases h0' : sd ax ay bx b_y sx sy = 0
            · exact n1 (onb_of_y h0' (by omega) (by omega) (by omega))
            have hp : sd ax ay bx b_y sx sy < 0 := by omega
            have a1 := PP (Int.le_of_lt h) (show 0 ≤ sy - ay by omega)
            have a2 := np hp (show 0 < ty - ay by omega)
            have t1 := cpos (show 0 < b_y - ay by omega) (show 0 < (b_y - ay) * sd sx sy tx ty ax ay by omega)
            have a3 := pn h (show sy - b_y < 0 by omega)
            have a4 := nn hp (show ty - b_y < 0 by omega)
            have t2 := cneg (show 0 < b_y - ay by omega) (show (b_y - ay) * sd sx sy tx ty bx b_y < 0 by omega)
            exact n5 ⟨np hp h, pn t1 t2⟩
        unfold hitU reg; omega
    · by_cases ha2 : ay ≤ ty
      · by_cases hb2 : b_y ≤ ty
        · -- both in the strip
          have k1 := inStrip hd (by omega) ha2 (show sy < b_y by omega) hb2 hm
          have hm' : ¬ meetsP bx b_y ax ay sx sy tx ty := fun h => hm (meetsP_swap h)
          have k2 := inStrip hd (show sy < b_y by omega) hb2 (by omega) ha2 hm'
          unfold hitU reg; omega
        · -- a in the strip, b above
          have key : 0 < sd ax ay bx b_y tx ty ↔ sd sx sy tx ty ax ay < 0 := by
            constructor
            · intro h
              by_cases h0 : sd sx sy tx ty ax ay < 0
              · exact h0
              exfalso
              by_cases h0' : sd sx sy tx ty ax ay = 0
              · exact n3 (onb_of_y h0' (by omega) ha2 hd)
              have hp : 0 < sd sx sy tx ty ax ay := by omega
              have a1 := pp (show 0 < ty - sy by omega) h
              have a2 := pp hp (show 0 < b_y - ty by omega)
              have t2 : sd sx sy tx ty bx b_y < 0 := by
                by_cases hh : sd sx sy tx ty bx b_y < 0
                · exact hh
                · have := PN (show 0 ≤ sd sx sy tx ty bx b_y by omega) (show ay - ty ≤ 0 by omega); omega
              have a3 := np t2 (show 0 < ay - sy by omega)
              have a4 := pp hp (show 0 < b_y - sy by omega)
              have s1 := cneg (show 0 < ty - sy by omega) (show (ty - sy) * sd ax ay bx b_y sx sy < 0 by omega)
              exact n5 ⟨np s1 h, pn hp t2⟩
            · intro h
              by_cases h0 : 0 < sd ax ay bx b_y tx ty
              · exact h0
              exfalso
              by_cases h0' : sd ax ay bx b_y tx ty = 0
              · exact n2 (onb_of_y h0' ha2 (by omega) (by omega))
              have hp : sd ax ay bx b_y tx ty < 0 := by omega
              have a1 := pn (show 0 < ty - sy by omega) hp
              have a2 := np h (show 0 < b_y - ty by omega)
              have t2 : 0 < sd sx sy tx ty bx b_y := by
                by_cases hh : 0 < sd sx sy tx ty bx b_y
                · exact hh
                · have := NN (show sd sx sy tx ty bx b_y ≤ 0 by omega) (show ay - ty ≤ 0 by omega); omega
              have a3 := pp t2 (show 0 < ay - sy by omega)
              have a4 := np h (show 0 < b_y - sy by omega)
              have s1 := cpos (show 0 < ty - sy by omega) (show 0 < (ty - sy) * sd ax ay bx b_y sx sy by omega)
              exact n5 ⟨pn s1 hp, np h t2⟩
          unfold hitU reg; omega
      · unfold hitU reg; omega
  · -- a level way
    have he : ty = sy := by omega
    subst he
    have key : ay ≤ ty → ty < b_y → (0 < sd ax ay bx b_y sx ty ↔ 0 < sd ax ay bx b_y tx ty) := by
      intro h1 h2
      have e1 : sd ax ay bx b_y sx ty = (bx - ax) * (ty - ay) - (b_y - ay) * (sx - ax) := rfl
      have e2 : sd ax ay bx b_y tx ty = (bx - ax) * (ty - ay) - (b_y - ay) * (tx - ax) := rfl
      constructor
      · intro h
        by_cases h0 : 0 < sd ax ay bx b_y tx ty
        · exact h0
        exfalso
        by_cases h0' : sd ax ay bx b_y tx ty = 0
        · exact n2 (onb_of_y h0' h1 (by omega) (by omega))
        have hp : sd ax ay bx b_y tx ty < 0 := by omega
        have a3 := nn hp (show ty - b_y < 0 by omega)
        have a4 := pn h (show ty - b_y < 0 by omega)
        have t2 := cpos (show 0 < b_y - ay by omega) (show 0 < (b_y - ay) * sd sx ty tx ty bx b_y by omega)
        by_cases hz : ay = ty
        · apply n3
          have z : sd sx ty tx ty ax ay = 0 := by rw [hz]; unfold sd; grind
          rw [hz] at e1 e2
          have x1 := cneg (k := b_y - ay) (x := sx - ax) (by omega) (by rw [hz]; rw [hz] at h; simp at e1; omega)
          have x2 := cpos (k := b_y - ay) (x := tx - ax) (by omega) (by rw [hz]; rw [hz] at hp; simp at e2; omega)
          exact ⟨z, by omega⟩
        · have a1 := np hp (show 0 < ty - ay by omega)
          have a2 := pp h (show 0 < ty - ay by omega)
          have t1 := cneg (show 0 < b_y - ay by omega) (show (b_y - ay) * sd sx ty tx ty ax ay < 0 by omega)
          exact n5 ⟨pn h hp, np t1 t2⟩
      · intro h
        by_cases h0 : 0 < sd ax ay bx b_y sx ty
        · exact h0
        exfalso
        by_cases h0' : sd ax ay bx b_y sx ty = 0
        · exact n1 (onb_of_y h0' h1 (by omega) (by omega))
        have hp : sd ax ay bx b_y sx ty < 0 := by omega
        have a3 := pn h (show ty - b_y < 0 by omega)
        have a4 := nn hp (show ty - b_y < 0 by omega)
        have t2 := cneg (show 0 < b_y - ay by omega) (show (b_y - ay) * sd sx ty tx ty bx b_y < 0 by omega)
        by_cases hz : ay = ty
        · apply n3
          have z : sd sx ty tx ty ax ay = 0 := by rw [hz]; unfold sd; grind
          rw [hz] at e1 e2
          have x1 := cpos (k := b_y - ay) (x := sx - ax) (by omega) (by rw [hz]; rw [hz] at hp; simp at e1; omega)
          have x2 := cneg (k := b_y - ay) (x := tx - ax) (by omega) (by rw [hz]; rw [hz] at h; simp at e2; omega)
          exact ⟨z, by omega⟩
        · have a1 := pp h (show 0 < ty - ay by omega)
          have a2 := np hp (show 0 < ty - ay by omega)
          have t1 := cpos (show 0 < b_y - ay by omega) (show 0 < (b_y - ay) * sd sx ty tx ty ax ay by omega)
          exact n5 ⟨np hp h, pn t1 t2⟩
    unfold hitU reg; omega
end Go.Eng.Geo

/-
Plane geometry in whole numbers: parity and turns of a fence around a spot.
-/
namespace Go.Eng.Geo
theorem sd_t (ax ay bx b_y sx sy : Int) : sd ay ax b_y bx sy sx = - sd ax ay bx b_y sx sy := by unfold sd; grind
theorem onb_t {ax ay bx b_y sx sy : Int} (h : onb ay ax b_y bx sy sx) : onb ax ay bx b_y sx sy := by
  obtain ⟨h1, h2⟩ := h
  rw [sd_t] at h1
  exact ⟨by omega, by omega⟩
theorem onb_y {ax ay bx b_y sx sy : Int} (h : sd ax ay bx b_y sx sy = 0) (h1 : min ay b_y ≤ sy) (h2 : sy ≤ max ay b_y) (h3 : ay ≠ b_y) : onb ax ay bx b_y sx sy := by
  by_cases hh : ay < b_y
  · exact onb_of_y h (by omega) (by omega) hh
  · refine onb_swap (onb_of_y ?_ (by omega) (by omega) (by omega))
    rw [sd_swap]; omega
theorem onb_x {ax ay bx b_y sx sy : Int} (h : sd ax ay bx b_y sx sy = 0) (h1 : min ax bx ≤ sx) (h2 : sx ≤ max ax bx) (h3 : ax ≠ bx) : onb ax ay bx b_y sx sy := by
  refine onb_t (onb_y ?_ (by omega) (by omega) h3)
  rw [sd_t]; omega

theorem zero_or {a b : Int} (h : a * b = 0) : a = 0 ∨ b = 0 := Int.mul_eq_zero.1 h

/-- being on one line goes over -/
theorem col {sx sy rx ry tx ty ax ay : Int} (h1 : sd sx sy tx ty rx ry = 0) (h2 : sd sx sy rx ry ax ay = 0) (hne : ¬ (rx = sx ∧ ry = sy)) : sd sx sy tx ty ax ay = 0 := by
  have e1 : (rx - sx) * sd sx sy tx ty ax ay = 0 := by unfold sd at *; grind
  have e2 : (ry - sy) * sd sx sy tx ty ax ay = 0 := by unfold sd at *; grind
  rcases zero_or e1 with h | h
  · rcases zero_or e2 with h' | h'
    · omega
    · exact h'
  · exact h
theorem onb_trans {sx sy rx ry tx ty ax ay : Int} (h1 : onb sx sy tx ty rx ry) (h2 : onb sx sy rx ry ax ay) : onb sx sy tx ty ax ay := by
  obtain ⟨c1, b1⟩ := h1; obtain ⟨c2, b2⟩ := h2
  refine ⟨?_, by omega⟩
  by_cases hh : rx = sx ∧ ry = sy
  · have e1 : ax = sx := by omega
    have e2 : ay = sy := by omega
    subst e1; subst e2; unfold sd; grind
  · exact col c1 c2 hh

/-- a spot r on the way from s to t: the sides of s, t and r of another line -/
theorem lam_x (ax ay bx b_y sx sy tx ty rx ry : Int) (h : sd sx sy tx ty rx ry = 0) : (tx - sx) * sd ax ay bx b_y rx ry = (tx - rx) * sd ax ay bx b_y sx sy + (rx - sx) * sd ax ay bx b_y tx ty := by unfold sd at *; grind
theorem lam_y (ax ay bx b_y sx sy tx ty rx ry : Int) (h : sd sx sy tx ty rx ry = 0) : (ty - sy) * sd ax ay bx b_y rx ry = (ty - ry) * sd ax ay bx b_y sx sy + (ry - sy) * sd ax ay bx b_y tx ty := by unfold sd at *; grind

/-- the same for all axes: weights u, v from 0 on, not both 0 -/
theorem lam {sx sy tx ty rx ry : Int} (h : onb sx sy tx ty rx ry) (hne : ¬ (tx = sx ∧ ty = sy)) :
    ∃ u v : Int, 0 ≤ u ∧ 0 ≤ v ∧ 0 < u + v ∧ (v = 0 → rx = sx ∧ ry = sy) ∧ (u = 0 → rx = tx ∧ ry = ty) ∧
      ∀ ax ay bx b_y, (u + v) * sd ax ay bx b_y rx ry = u * sd ax ay bx b_y sx sy + v * sd ax ay bx b_y tx ty := by
  obtain ⟨hc, hb⟩ := h
  have hc' := hc
  unfold sd at hc'
  by_cases hx : tx = sx
  · have hy : ty ≠ sy := fun e => hne ⟨hx, e⟩
    by_cases hp : sy < ty
    · refine ⟨ty - ry, ry - sy, by omega, by omega, by omega, by omega, by omega, fun ax ay bx b_y => ?_⟩
      have := lam_y ax ay bx b_y sx sy tx ty rx ry hc
      rw [show ty - ry + (ry - sy) = ty - sy by omega]; exact this
    · refine ⟨ry - ty, sy - ry, by omega, by omega, by omega, by omega, by omega, fun ax ay bx b_y => ?_⟩
      have := lam_y ax ay bx b_y sx sy tx ty rx ry hc
      grind
  · by_cases hp : sx < tx
    · refine ⟨tx - rx, rx - sx, by omega, by omega, by omega, fun h0 => ?_, fun h0 => ?_, fun ax ay bx b_y => ?_⟩
      · have e : rx = sx := by omega
        subst e
        have : (tx - rx) * (ry - sy) = 0 := by grind
        rcases zero_or this with h' | h' <;> omega
      · have e : rx = tx := by omega
        subst e
        have : (rx - sx) * (ry - ty) = 0 := by grind
        rcases zero_or this with h' | h' <;> omega
      · have := lam_x ax ay bx b_y sx sy tx ty rx ry hc
        rw [show tx - rx + (rx - sx) = tx - sx by omega]; exact this
    · refine ⟨rx - tx, sx - rx, by omega, by omega, by omega, fun h0 => ?_, fun h0 => ?_, fun ax ay bx b_y => ?_⟩
      · have e : rx = sx := by omega
        subst e
        have : (tx - rx) * (ry - sy) = 0 := by grind
        rcases zero_or this with h' | h' <;> omega
      · have e : rx = tx := by omega
        subst e
        have : (rx - sx) * (ry - ty) = 0 := by grind
        rcases zero_or this with h' | h' <;> omega
      · have := lam_x ax ay bx b_y sx sy tx ty rx ry hc
        grind

theorem onb_refl_l (ax ay bx b_y : Int) : onb ax ay bx b_y ax ay := ⟨by unfold sd; grind, by omega⟩
theorem onb_refl_r (ax ay bx b_y : Int) : onb ax ay bx b_y bx b_y := ⟨by unfold sd; grind, by omega⟩

/-- the sides of two ends of a way with a spot on a line: both 0, one 0 and the spot is that end, or on different sides -/
theorem sides {ax ay bx b_y sx sy tx ty rx ry : Int} (h : onb sx sy tx ty rx ry) (h0 : sd ax ay bx b_y rx ry = 0) :
    (rx = sx ∧ ry = sy) ∨ (rx = tx ∧ ry = ty) ∨ (sd ax ay bx b_y sx sy = 0 ∧ sd ax ay bx b_y tx ty = 0) ∨ sd ax ay bx b_y sx sy * sd ax ay bx b_y tx ty < 0 := by
  by_cases hne : tx = sx ∧ ty = sy
  · left; obtain ⟨_, hb⟩ := h; omega
  obtain ⟨u, v, hu, hv, huv, e1, e2, k⟩ := lam h hne
  have k := k ax ay bx b_y
  rw [h0, Int.mul_zero] at k
  by_cases v0 : v = 0
  · exact .inl (e1 v0)
  by_cases u0 : u = 0
  · exact .inr (.inl (e2 u0))
  right; right
  by_cases z : sd ax ay bx b_y sx sy = 0
  · left; refine ⟨z, ?_⟩
    rw [z, Int.mul_zero, Int.zero_add] at k
    rcases zero_or k.symm with h' | h'
    · omega
    · exact h'
  right
  by_cases p : 0 < sd ax ay bx b_y sx sy
  · have := pp (show 0 < u by omega) p
    exact pn p (cneg (show 0 < v by omega) (by omega))
  · have := pn (show 0 < u by omega) (show sd ax ay bx b_y sx sy < 0 by omega)
    exact np (by omega) (cpos (show 0 < v by omega) (by omega))

/-- two ways with a spot in common meet -/
theorem common {ax ay bx b_y sx sy tx ty rx ry : Int} (h1 : onb ax ay bx b_y rx ry) (h2 : onb sx sy tx ty rx ry) : meetsP ax ay bx b_y sx sy tx ty := by
  rcases sides (ax := ax) (ay := ay) (bx := bx) (b_y := b_y) h2 h1.1 with ⟨e1, e2⟩ | ⟨e1, e2⟩ | ⟨z1, z2⟩ | hs
  · subst e1; subst e2; exact .inl h1
  · subst e1; subst e2; exact .inr (.inl h1)
  · -- all on one line
    by_cases hab : bx = ax ∧ b_y = ay
    · obtain ⟨e1, e2⟩ := hab
      have q1 : rx = ax := by have := h1.2; omega
      have q2 : ry = ay := by have := h1.2; omega
      subst q1; subst q2; exact .inr (.inr (.inl h2))
    obtain ⟨c1, b1⟩ := h1; obtain ⟨c2, b2⟩ := h2
    by_cases hx : ax = bx
    · have hy : ay ≠ b_y := fun e => hab ⟨hx.symm, e.symm⟩
      -- level along Y
      by_cases hs1 : min ay b_y ≤ sy ∧ sy ≤ max ay b_y
      · exact .inl (onb_y z1 hs1.1 hs1.2 hy)
      by_cases ht1 : min ay b_y ≤ ty ∧ ty ≤ max ay b_y
      · exact .inr (.inl (onb_y z2 ht1.1 ht1.2 hy))
      have hst : sy ≠ ty := by omega
      have za : sd sx sy tx ty ax ay = 0 := by
        have : (b_y - ay) * sd sx sy tx ty ax ay = 0 := by unfold sd at *; grind
        rcases zero_or this with h' | h'
        · omega
        · exact h'
      exact .inr (.inr (.inl (onb_y za (by omega) (by omega) hst)))
    · by_cases hs1 : min ax bx ≤ sx ∧ sx ≤ max ax bx
      · exact .inl (onb_x z1 hs1.1 hs1.2 hx)
      by_cases ht1 : min ax bx ≤ tx ∧ tx ≤ max ax bx
      · exact .inr (.inl (onb_x z2 ht1.1 ht1.2 hx))
      have hst : sx ≠ tx := by omega
      have za : sd sx sy tx ty ax ay = 0 := by
        have : (bx - ax) * sd sx sy tx ty ax ay = 0 := by unfold sd at *; grind
        rcases zero_or this with h' | h'
        · omega
        · exact h'
      exact .inr (.inr (.inl (onb_x za (by omega) (by omega) hst)))
  · rcases sides (ax := sx) (ay := sy) (bx := tx) (b_y := ty) h1 h2.1 with ⟨e1, e2⟩ | ⟨e1, e2⟩ | ⟨z1, z2⟩ | hs'
    · subst e1; subst e2; exact .inr (.inr (.inl h2))
    · subst e1; subst e2; exact .inr (.inr (.inr (.inl h2)))
    · exfalso
      have e : sd sx sy tx ty ax ay - sd sx sy tx ty bx b_y = sd ax ay bx b_y tx ty - sd ax ay bx b_y sx sy := by unfold sd; grind
      have e' : sd ax ay bx b_y tx ty = sd ax ay bx b_y sx sy := by omega
      rw [e'] at hs
      have : 0 ≤ sd ax ay bx b_y sx sy * sd ax ay bx b_y sx sy := by
        by_cases hh : 0 ≤ sd ax ay bx b_y sx sy
        · exact PP hh hh
        · exact NN (by omega) (by omega)
      omega
    · exact .inr (.inr (.inr (.inr ⟨hs, hs'⟩)))

/-- what meets a part of a way meets the way -/
theorem meets_sub {sx sy rx ry tx ty ax ay bx b_y : Int} (h : onb sx sy tx ty rx ry) (hm : meetsP ax ay bx b_y sx sy rx ry) : meetsP ax ay bx b_y sx sy tx ty := by
  rcases hm with h1 | h1 | h1 | h1 | ⟨h1, h2⟩
  · exact .inl h1
  · exact common h1 h
  · exact .inr (.inr (.inl (onb_trans h h1)))
  · exact .inr (.inr (.inr (.inl (onb_trans h h1))))
  · by_cases hne : tx = sx ∧ ty = sy
    · exfalso
      have e1 : rx = sx := by have := h.2; omega
      have e2 : ry = sy := by have := h.2; omega
      subst e1; subst e2
      have : sd rx ry rx ry ax ay = 0 := by unfold sd; grind
      rw [this, Int.zero_mul] at h2; omega
    obtain ⟨u, v, hu, hv, huv, e1, e2, k⟩ := lam h hne
    have v0 : 0 < v := by
      by_cases hv0 : v = 0
      · exfalso
        obtain ⟨e1, e2⟩ := e1 hv0
        subst e1; subst e2
        have : sd rx ry rx ry ax ay = 0 := by unfold sd; grind
        rw [this, Int.zero_mul] at h2; omega
      · omega
    have k0 := k ax ay bx b_y
    have ka : (u + v) * sd sx sy rx ry ax ay = v * sd sx sy tx ty ax ay := by
      have := k ax ay sx sy
      have q1 : sd ax ay sx sy rx ry = sd sx sy rx ry ax ay := by unfold sd; grind
      have q2 : sd ax ay sx sy sx sy = 0 := by unfold sd; grind
      have q3 : sd ax ay sx sy tx ty = sd sx sy tx ty ax ay := by unfold sd; grind
      rw [q1, q2, q3] at this; rw [this]; omega
    have kb : (u + v) * sd sx sy rx ry bx b_y = v * sd sx sy tx ty bx b_y := by
      have := k bx b_y sx sy
      have q1 : sd bx b_y sx sy rx ry = sd sx sy rx ry bx b_y := by unfold sd; grind
      have q2 : sd bx b_y sx sy sx sy = 0 := by unfold sd; grind
      have q3 : sd bx b_y sx sy tx ty = sd sx sy tx ty bx b_y := by unfold sd; grind
      rw [q1, q2, q3] at this; rw [this]; omega
    refine .inr (.inr (.inr (.inr ⟨?_, ?_⟩)))
    · by_cases p : 0 < sd ax ay bx b_y sx sy
      · have r0 : sd ax ay bx b_y rx ry < 0 := cneg p h1
        have a1 := pn huv r0
        have a2 := PP hu (Int.le_of_lt p)
        exact pn p (cneg v0 (by omega))
      · have p' : sd ax ay bx b_y sx sy < 0 := by
          by_cases hz : sd ax ay bx b_y sx sy = 0
          · rw [hz, Int.zero_mul] at h1; omega
          · omega
        have r0 : 0 < sd ax ay bx b_y rx ry := by
          by_cases hh : 0 < sd ax ay bx b_y rx ry
          · exact hh
          · have := NN (Int.le_of_lt p') (show sd ax ay bx b_y rx ry ≤ 0 by omega); omega
        have a1 := pp huv r0
        have a2 := PN hu (Int.le_of_lt p')
        exact np p' (cpos v0 (by omega))
    · by_cases p : 0 < sd sx sy rx ry ax ay
      · have r0 := cneg p h2
        have a1 := pp huv p; have a2 := pn huv r0
        exact pn (cpos v0 (by omega)) (cneg v0 (by omega))
      · have p' : sd sx sy rx ry ax ay < 0 := by
          by_cases hz : sd sx sy rx ry ax ay = 0
          · rw [hz, Int.zero_mul] at h2; omega
          · omega
        have r0 : 0 < sd sx sy rx ry bx b_y := by
          by_cases hh : 0 < sd sx sy rx ry bx b_y
          · exact hh
          · have := NN (Int.le_of_lt p') (show sd sx sy rx ry bx b_y ≤ 0 by omega); omega
        have a1 := pn huv p'; have a2 := pp huv r0
        exact np (cneg v0 (by omega)) (cpos v0 (by omega))
end Go.Eng.Geo

/-
Plane geometry in whole numbers: parity and turns of a fence around a spot.
-/
namespace Go.Eng.Geo
/-- is the number of members for which f says true odd -/
def par {α} (f : α → Bool) : List α → Bool
  | [] => false
  | a :: l => f a ^^ par f l
theorem par_append {α} (f : α → Bool) (l m : List α) : par f (l ++ m) = (par f l ^^ par f m) := by
  induction l with
  | nil => simp [par]
  | cons a l ih => simp [par, ih]
theorem par_xor {α} (f g : α → Bool) (l : List α) : par (fun x => f x ^^ g x) l = (par f l ^^ par g l) := by
  induction l with
  | nil => rfl
  | cons a l ih => simp only [par, ih]; cases f a <;> cases g a <;> cases par f l <;> cases par g l <;> rfl
theorem par_congr {α} {f g : α → Bool} {l : List α} (h : ∀ x ∈ l, f x = g x) : par f l = par g l := by
  induction l with
  | nil => rfl
  | cons a l ih => simp only [par]; rw [h a (by simp), ih fun x hx => h x (by simp [hx])]
theorem par_false {α} {f : α → Bool} {l : List α} (h : ∀ x ∈ l, f x = false) : par f l = false := by
  rw [par_congr (g := fun _ => false) h]; clear h
  induction l with
  | nil => rfl
  | cons a l ih => simp [par, ih]
theorem par_map {α β} (f : β → Bool) (g : α → β) (l : List α) : par f (l.map g) = par (fun x => f (g x)) l := by
  induction l with
  | nil => rfl
  | cons a l ih => simp [par, ih]
theorem par_and {α} (f : α → Bool) (b : Bool) (l : List α) : par (fun x => b && f x) l = (b && par f l) := by
  cases b
  · exact par_false (by simp)
  · simp
/-- sums may be taken in either order -/
theorem par_comm {α β} (f : α → β → Bool) (l : List α) (m : List β) : par (fun a => par (f a) m) l = par (fun b => par (fun a => f a b) l) m := by
  induction l with
  | nil => simp only [par]; exact (par_false (by simp)).symm
  | cons a l ih => simp only [par]; rw [ih, ← par_xor]

/-- the edges of corners from one to the next, and to z at the end -/
def path {α} (z : α) : List α → List (α × α)
  | [] => []
  | [a] => [(a, z)]
  | a :: b :: l => (a, b) :: path z (b :: l)
def ring {α} : List α → List (α × α)
  | [] => []
  | a :: l => path a (a :: l)
theorem par_path {α} (R : α → Bool) (z a : α) (l : List α) : par (fun e => R e.1 ^^ R e.2) (path z (a :: l)) = (R a ^^ R z) := by
  induction l generalizing a with
  | nil => simp [path, par]
  | cons b l ih => simp only [path, par, ih]; cases R a <;> cases R b <;> cases R z <;> rfl
theorem par_ring {α} (R : α → Bool) (l : List α) : par (fun e => R e.1 ^^ R e.2) (ring l) = false := by
  cases l with
  | nil => rfl
  | cons a l => simp only [ring, par_path]; cases R a <;> rfl
theorem path_map {α β} (g : α → β) (z : α) (l : List α) : path (g z) (l.map g) = (path z l).map fun e => (g e.1, g e.2) := by
  match l with
  | [] => rfl
  | [a] => rfl
  | a :: b :: l => simp only [List.map, path]; rw [← path_map g z (b :: l)]; rfl
theorem ring_map {α β} (g : α → β) (l : List α) : ring (l.map g) = (ring l).map fun e => (g e.1, g e.2) := by
  cases l with
  | nil => rfl
  | cons a l => exact path_map g a (a :: l)

abbrev Pt := Int × Int
instance (ax ay bx b_y sx sy : Int) : Decidable (hitU ax ay bx b_y sx sy) := by unfold hitU; infer_instance
instance (sx sy tx ty cx cy : Int) : Decidable (reg sx sy tx ty cx cy) := by unfold reg; infer_instance
def lo (e : Pt × Pt) : Pt := if e.1.2 ≤ e.2.2 then e.1 else e.2
def hi (e : Pt × Pt) : Pt := if e.1.2 ≤ e.2.2 then e.2 else e.1
/-- the edge goes over the height of s, to its right -/
def hitE (s : Pt) (e : Pt × Pt) : Bool := decide (hitU (lo e).1 (lo e).2 (hi e).1 (hi e).2 s.1 s.2)
def meetE (e f : Pt × Pt) : Prop := meetsP e.1.1 e.1.2 e.2.1 e.2.2 f.1.1 f.1.2 f.2.1 f.2.2
def onE (e : Pt × Pt) (s : Pt) : Prop := onb e.1.1 e.1.2 e.2.1 e.2.2 s.1 s.2
theorem meetE_comm {e f : Pt × Pt} (h : meetE e f) : meetE f e := meetsP_comm h
theorem meetE_swap {e f : Pt × Pt} (h : meetE (e.2, e.1) f) : meetE e f := meetsP_swap h
theorem meetE_swap2 {e f : Pt × Pt} (h : meetE e (f.2, f.1)) : meetE e f := meetE_comm (meetE_swap (meetE_comm h))
theorem lohi (e : Pt × Pt) : (lo e).2 ≤ (hi e).2 := by unfold lo hi; split <;> omega
theorem lohi_or (e : Pt × Pt) : (lo e, hi e) = e ∨ (lo e, hi e) = (e.2, e.1) := by unfold lo hi; split <;> simp
theorem meet_lohi {e f : Pt × Pt} (h : meetE (lo e, hi e) f) : meetE e f := by
  rcases lohi_or e with q | q
  · rw [q] at h; exact h
  · rw [q] at h; exact meetE_swap h
theorem meet_lohi2 {e f : Pt × Pt} (h : meetE e (lo f, hi f)) : meetE e f := meetE_comm (meet_lohi (meetE_comm h))

def inn (l : List Pt) (s : Pt) : Bool := par (hitE s) (ring l)

theorem inn_inv' (l : List Pt) (s t : Pt) (hst : s.2 ≤ t.2) (h : ∀ e ∈ ring l, ¬ meetE e (s, t)) : inn l s = inn l t := by
  have key : par (fun e => hitE s e ^^ hitE t e) (ring l) = false := by
    rw [par_congr (g := fun e => decide (reg s.1 s.2 t.1 t.2 e.1.1 e.1.2) ^^ decide (reg s.1 s.2 t.1 t.2 e.2.1 e.2.2))]
    · exact par_ring (fun c => decide (reg s.1 s.2 t.1 t.2 c.1 c.2)) l
    · intro e he
      have hm : ¬ meetE (lo e, hi e) (s, t) := fun hh => h e he (meet_lohi hh)
      have hp := edge_par (ax := (lo e).1) (bx := (hi e).1) hst (lohi e) hm
      have : (decide (reg s.1 s.2 t.1 t.2 e.1.1 e.1.2) ^^ decide (reg s.1 s.2 t.1 t.2 e.2.1 e.2.2)) = (decide (reg s.1 s.2 t.1 t.2 (lo e).1 (lo e).2) ^^ decide (reg s.1 s.2 t.1 t.2 (hi e).1 (hi e).2)) := by
        unfold lo hi
        split
        · rfl
        · exact Bool.xor_comm _ _
      rw [this]
      unfold hitE
      by_cases h1 : hitU (lo e).1 (lo e).2 (hi e).1 (hi e).2 s.1 s.2 <;> by_cases h2 : hitU (lo e).1 (lo e).2 (hi e).1 (hi e).2 t.1 t.2 <;>
        by_cases h3 : reg s.1 s.2 t.1 t.2 (lo e).1 (lo e).2 <;> by_cases h4 : reg s.1 s.2 t.1 t.2 (hi e).1 (hi e).2 <;>
        simp only [h1, h2, h3, h4] at hp <;> simp [h1, h2, h3, h4] <;> simp at hp
  rw [par_xor] at key
  unfold inn
  cases h1 : par (hitE s) (ring l) <;> cases h2 : par (hitE t) (ring l) <;> simp [h1, h2] at key ⊢

/-- along a way that meets no edge, within stays within -/
theorem inn_inv (l : List Pt) (s t : Pt) (h : ∀ e ∈ ring l, ¬ meetE e (s, t)) : inn l s = inn l t := by
  by_cases hst : s.2 ≤ t.2
  · exact inn_inv' l s t hst h
  · exact (inn_inv' l t s (by omega) fun e he hh => h e he (meetE_swap2 (e := e) (f := (s, t)) hh)).symm

theorem cle {k a b : Int} (hk : 0 < k) (h : k * a ≤ k * b) : a ≤ b := by
  have : 0 ≤ k * (b - a) := by rw [Int.mul_sub]; omega
  have := cnn hk this; omega
theorem mle {k a b : Int} (hk : 0 < k) (h : a ≤ b) : k * a ≤ k * b := Int.mul_le_mul_of_nonneg_left h (by omega)
theorem clt {k a b : Int} (hk : 0 < k) (h : k * a < k * b) : a < b := by
  have : 0 < k * (b - a) := by rw [Int.mul_sub]; omega
  have := cpos hk this; omega
theorem mlt {k a b : Int} (hk : 0 < k) (h : a < b) : k * a < k * b := Int.mul_lt_mul_of_pos_left h hk
def sc (k : Int) (c : Pt) : Pt := (k * c.1, k * c.2)
theorem sd_sc (k ax ay bx b_y sx sy : Int) : sd (k * ax) (k * ay) (k * bx) (k * b_y) (k * sx) (k * sy) = (k * k) * sd ax ay bx b_y sx sy := by unfold sd; grind
theorem onb_sc {k ax ay bx b_y sx sy : Int} (hk : 0 < k) (h : onb (k * ax) (k * ay) (k * bx) (k * b_y) (k * sx) (k * sy)) : onb ax ay bx b_y sx sy := by
  obtain ⟨h1, h2, h3, h4, h5⟩ := h
  rw [sd_sc] at h1
  have q : sd ax ay bx b_y sx sy = 0 := by
    rcases zero_or h1 with h | h
    · have := pp hk hk; omega
    · exact h
  refine ⟨q, ?_, ?_, ?_, ?_⟩
  · have : k * ax ≤ k * sx ∨ k * bx ≤ k * sx := by omega
    rcases this with h | h <;> have := cle hk h <;> omega
  · have : k * sx ≤ k * ax ∨ k * sx ≤ k * bx := by omega
    rcases this with h | h <;> have := cle hk h <;> omega
  · have : k * ay ≤ k * sy ∨ k * b_y ≤ k * sy := by omega
    rcases this with h | h <;> have := cle hk h <;> omega
  · have : k * sy ≤ k * ay ∨ k * sy ≤ k * b_y := by omega
    rcases this with h | h <;> have := cle hk h <;> omega
theorem meets_sc {k : Int} {a b c d : Pt} (hk : 0 < k) (h : meetE (sc k a, sc k b) (sc k c, sc k d)) : meetE (a, b) (c, d) := by
  rcases h with h | h | h | h | ⟨h1, h2⟩
  · exact .inl (onb_sc hk h)
  · exact .inr (.inl (onb_sc hk h))
  · exact .inr (.inr (.inl (onb_sc hk h)))
  · exact .inr (.inr (.inr (.inl (onb_sc hk h))))
  · refine .inr (.inr (.inr (.inr ⟨?_, ?_⟩)))
    · simp only [sc, sd_sc] at h1
      refine cneg (k := k * k * (k * k)) (pp (pp hk hk) (pp hk hk)) ?_
      grind
    · simp only [sc, sd_sc] at h2
      refine cneg (k := k * k * (k * k)) (pp (pp hk hk) (pp hk hk)) ?_
      grind
theorem lo_sc {k : Int} (hk : 0 < k) (e : Pt × Pt) : lo (sc k e.1, sc k e.2) = sc k (lo e) := by
  unfold lo sc
  by_cases h : e.1.2 ≤ e.2.2
  · rw [if_pos h, if_pos (mle hk h)]
  · rw [if_neg h, if_neg (fun hh => h (cle hk hh))]
theorem hi_sc {k : Int} (hk : 0 < k) (e : Pt × Pt) : hi (sc k e.1, sc k e.2) = sc k (hi e) := by
  unfold hi sc
  by_cases h : e.1.2 ≤ e.2.2
  · rw [if_pos h, if_pos (mle hk h)]
  · rw [if_neg h, if_neg (fun hh => h (cle hk hh))]
theorem hit_sc {k : Int} (hk : 0 < k) (s : Pt) (e : Pt × Pt) : hitE (sc k s) (sc k e.1, sc k e.2) = hitE s e := by
  unfold hitE
  rw [lo_sc hk, hi_sc hk]
  apply decide_eq_decide.2
  unfold hitU
  simp only [sc, sd_sc]
  have e1 : k * (lo e).2 ≤ k * s.2 ↔ (lo e).2 ≤ s.2 := ⟨cle hk, mle hk⟩
  have e2 : k * s.2 < k * (hi e).2 ↔ s.2 < (hi e).2 := ⟨clt hk, mlt hk⟩
  have e3 : ∀ x : Int, 0 < k * k * x ↔ 0 < x := fun x => ⟨cpos (pp hk hk), pp (pp hk hk)⟩
  rw [e1, e2, e3]
theorem inn_sc {k : Int} (hk : 0 < k) (l : List Pt) (s : Pt) : inn (l.map (sc k)) (sc k s) = inn l s := by
  unfold inn
  rw [ring_map, par_map]
  exact par_congr fun e _ => hit_sc hk s e
end Go.Eng.Geo

/-
Plane geometry in whole numbers: parity and turns of a fence around a spot.
-/
namespace Go.Eng.Geo
/-- above 0: the edge (a, b) is to the right of the edge (c, d) at the height y; both rise -/
def W (ax ay bx b_y cx cy dx dy y : Int) : Int := (bx - ax) * (y - ay) * (dy - cy) - (dx - cx) * (y - cy) * (b_y - ay) - (b_y - ay) * (dy - cy) * (cx - ax)
theorem W_neg (ax ay bx b_y cx cy dx dy y : Int) : W cx cy dx dy ax ay bx b_y y = - W ax ay bx b_y cx cy dx dy y := by unfold W; grind
theorem W_sd (ax ay bx b_y cx cy dx dy y : Int) : sd ((dy - cy) * ax) ((dy - cy) * ay) ((dy - cy) * bx) ((dy - cy) * b_y) ((dy - cy) * cx + (dx - cx) * (y - cy)) ((dy - cy) * y) = (dy - cy) * W ax ay bx b_y cx cy dx dy y := by unfold sd W; grind
theorem W_self (ax ay bx b_y y : Int) : W ax ay bx b_y ax ay bx b_y y = 0 := by unfold W; grind
theorem W_p (ax ay bx b_y cx cy dx dy px y : Int) : (dy - cy) * sd ax ay bx b_y px y = W ax ay bx b_y cx cy dx dy y + (b_y - ay) * sd cx cy dx dy px y := by unfold sd W; grind

def WE (e f : Pt × Pt) (y : Int) : Int := W (lo e).1 (lo e).2 (hi e).1 (hi e).2 (lo f).1 (lo f).2 (hi f).1 (hi f).2 y
/-- the spot of the edge f at a height, times the edge's height -/
def at_ (f : Pt × Pt) (y : Int) : Pt := (((hi f).2 - (lo f).2) * (lo f).1 + ((hi f).1 - (lo f).1) * (y - (lo f).2), ((hi f).2 - (lo f).2) * y)

theorem hit_iff (p : Pt) (e : Pt × Pt) : hitE p e = true ↔ ((lo e).2 ≤ p.2 ∧ p.2 < (hi e).2 ∧ 0 < sd (lo e).1 (lo e).2 (hi e).1 (hi e).2 p.1 p.2) := by
  unfold hitE; rw [decide_eq_true_iff]; exact Iff.rfl

theorem on_at (f : Pt × Pt) (y : Int) (h1 : (lo f).2 ≤ y) (h2 : y < (hi f).2) : onE (sc ((hi f).2 - (lo f).2) (lo f), sc ((hi f).2 - (lo f).2) (hi f)) (at_ f y) := by
  have hD : 0 < (hi f).2 - (lo f).2 := by omega
  refine onb_of_y ?_ (mle hD h1) (mle hD (by omega)) (mlt hD (by omega))
  show sd _ _ _ _ _ _ = 0
  unfold at_ sc
  rw [W_sd, W_self, Int.mul_zero]

/-- an edge goes over the spot of another one, to its right -/
theorem hit_at {p : Pt} {e f : Pt × Pt} (hf : hitE p f = true) : hitE (at_ f p.2) (sc ((hi f).2 - (lo f).2) e.1, sc ((hi f).2 - (lo f).2) e.2) = (hitE p e && decide (0 < WE e f p.2)) := by
  obtain ⟨h1, h2, h3⟩ := (hit_iff p f).1 hf
  have hD : 0 < (hi f).2 - (lo f).2 := by omega
  have hw := W_p (lo e).1 (lo e).2 (hi e).1 (hi e).2 (lo f).1 (lo f).2 (hi f).1 (hi f).2 p.1 p.2
  have key : hitE (at_ f p.2) (sc ((hi f).2 - (lo f).2) e.1, sc ((hi f).2 - (lo f).2) e.2) = true ↔ ((lo e).2 ≤ p.2 ∧ p.2 < (hi e).2 ∧ 0 < WE e f p.2) := by
    rw [hit_iff, lo_sc hD, hi_sc hD]
    unfold at_ sc
    simp only
    rw [W_sd]
    exact ⟨fun ⟨a, b, c⟩ => ⟨cle hD a, clt hD b, cpos hD c⟩, fun ⟨a, b, c⟩ => ⟨mle hD a, mlt hD b, pp hD c⟩⟩
  rw [Bool.eq_iff_iff, key, Bool.and_eq_true, decide_eq_true_iff, hit_iff]
  constructor
  · rintro ⟨a, b, c⟩
    refine ⟨⟨a, b, ?_⟩, c⟩
    have := PP (show 0 ≤ (hi e).2 - (lo e).2 by omega) (Int.le_of_lt h3)
    have c' : 0 < W (lo e).1 (lo e).2 (hi e).1 (hi e).2 (lo f).1 (lo f).2 (hi f).1 (hi f).2 p.2 := c
    exact cpos hD (by omega)
  · rintro ⟨⟨a, b, _⟩, c⟩; exact ⟨a, b, c⟩

theorem onE_meet {e f : Pt × Pt} {r : Pt} (h1 : onE e r) (h2 : onE f r) : meetE e f := common h1 h2

/-- of the edges over p, an even number is to the right of an edge whose ends are without -/
theorem even_right (l : List Pt) (p : Pt) (f : Pt × Pt) (hf : hitE p f = true) (hn : ∀ e ∈ ring l, ¬ meetE e f) (h0 : inn l (lo f) = false) :
    par (fun e => hitE p e && decide (0 < WE e f p.2)) (ring l) = false := by
  obtain ⟨h1, h2, h3⟩ := (hit_iff p f).1 hf
  have hD : 0 < (hi f).2 - (lo f).2 := by omega
  have hi' : inn (l.map (sc ((hi f).2 - (lo f).2))) (sc ((hi f).2 - (lo f).2) (lo f)) = inn (l.map (sc ((hi f).2 - (lo f).2))) (at_ f p.2) := by
    apply inn_inv
    intro e he hm
    rw [ring_map] at he
    obtain ⟨e', he', rfl⟩ := List.mem_map.1 he
    have hm2 : meetE (sc ((hi f).2 - (lo f).2) e'.1, sc ((hi f).2 - (lo f).2) e'.2) (sc ((hi f).2 - (lo f).2) (lo f), sc ((hi f).2 - (lo f).2) (hi f)) :=
      meets_sub (on_at f p.2 h1 h2) hm
    exact hn e' he' (meet_lohi2 (meets_sc hD hm2))
  rw [inn_sc hD, h0] at hi'
  rw [hi']
  unfold inn
  rw [ring_map, par_map]
  exact par_congr fun e _ => (hit_at hf).symm

theorem W_ne {p : Pt} {e f : Pt × Pt} (he : hitE p e = true) (hf : hitE p f = true) (hn : ¬ meetE e f) : WE e f p.2 ≠ 0 := by
  intro h
  obtain ⟨h1, h2, h3⟩ := (hit_iff p f).1 hf
  obtain ⟨k1, k2, k3⟩ := (hit_iff p e).1 he
  have hD : 0 < (hi f).2 - (lo f).2 := by omega
  have on1 : onE (sc ((hi f).2 - (lo f).2) (lo e), sc ((hi f).2 - (lo f).2) (hi e)) (at_ f p.2) := by
    refine onb_of_y ?_ (mle hD k1) (mle hD (by omega)) (mlt hD (by omega))
    show sd _ _ _ _ _ _ = 0
    unfold at_ sc
    rw [W_sd]
    have : W (lo e).1 (lo e).2 (hi e).1 (hi e).2 (lo f).1 (lo f).2 (hi f).1 (hi f).2 p.2 = 0 := h
    rw [this, Int.mul_zero]
  exact hn (meet_lohi (meet_lohi2 (meets_sc hD (onE_meet on1 (on_at f p.2 h1 h2)))))

/-- two rings that do not meet, each with its corners without the other, have no spot within both -/
theorem apart (l m : List Pt) (p : Pt) (hn : ∀ e ∈ ring l, ∀ f ∈ ring m, ¬ meetE e f) (hl : ∀ f ∈ ring m, inn l (lo f) = false)
    (hm : ∀ e ∈ ring l, inn m (lo e) = false) : inn l p = false ∨ inn m p = false := by
  have A : par (fun f => par (fun e => hitE p f && (hitE p e && decide (0 < WE e f p.2))) (ring l)) (ring m) = false := by
    apply par_false
    intro f hf
    rw [par_and]
    by_cases h : hitE p f = true
    · rw [even_right l p f h (fun e he => hn e he f hf) (hl f hf), Bool.and_false]
    · rw [Bool.not_eq_true] at h; rw [h, Bool.false_and]
  have B : par (fun e => par (fun f => hitE p e && (hitE p f && decide (0 < WE f e p.2))) (ring m)) (ring l) = false := by
    apply par_false
    intro e he
    rw [par_and]
    by_cases h : hitE p e = true
    · rw [even_right m p e h (fun f hf hh => hn e he f hf (meetE_comm hh)) (hm e he), Bool.and_false]
    · rw [Bool.not_eq_true] at h; rw [h, Bool.false_and]
  rw [par_comm] at A
  have C := par_xor (fun e => par (fun f => hitE p f && (hitE p e && decide (0 < WE e f p.2))) (ring m)) (fun e => par (fun f => hitE p e && (hitE p f && decide (0 < WE f e p.2))) (ring m)) (ring l)
  rw [A, B] at C
  have D : par (fun e => (par (fun f => hitE p f && (hitE p e && decide (0 < WE e f p.2))) (ring m) ^^ par (fun f => hitE p e && (hitE p f && decide (0 < WE f e p.2))) (ring m))) (ring l) = par (fun e => inn m p && hitE p e) (ring l) := by
    apply par_congr
    intro e he
    rw [← par_xor]
    rw [Bool.and_comm]
    unfold inn
    rw [← par_and]
    apply par_congr
    intro f hf
    by_cases h1 : hitE p e = true
    · by_cases h2 : hitE p f = true
      · have := W_ne h1 h2 (hn e he f hf)
        have hneg : WE f e p.2 = - WE e f p.2 := W_neg ..
        rw [h1, h2, hneg]
        by_cases h3 : 0 < WE e f p.2
        · have h4 : ¬ (0 < - WE e f p.2) := by omega
          rw [decide_eq_true h3, decide_eq_false h4]; rfl
        · have h4 : 0 < - WE e f p.2 := by omega
          rw [decide_eq_false h3, decide_eq_true h4]; rfl
      · rw [Bool.not_eq_true] at h2; simp [h2]
    · rw [Bool.not_eq_true] at h1; simp [h1]
  rw [D, par_and] at C
  have C' : (inn m p && inn l p) = false := C
  cases h1 : inn l p <;> cases h2 : inn m p <;> simp [h1, h2] at C' ⊢

/-- along corners whose edges meet no edge of l -/
theorem walk (l : List Pt) (z : Pt) (m : List Pt) (a : Pt) (h : ∀ f ∈ path z (a :: m), ∀ e ∈ ring l, ¬ meetE e f) : ∀ f ∈ path z (a :: m), inn l f.1 = inn l a ∧ inn l f.2 = inn l a := by
  induction m generalizing a with
  | nil =>
    intro f hf
    simp only [path, List.mem_singleton] at hf
    subst hf
    exact ⟨rfl, (inn_inv l a z fun e he => h (a, z) (by simp [path]) e he).symm⟩
  | cons b m ih =>
    have h1 : inn l a = inn l b := inn_inv l a b fun e he => h (a, b) (by simp [path]) e he
    have h2 := ih b fun f hf => h f (by simp [path, hf])
    intro f hf
    simp only [path, List.mem_cons] at hf
    rcases hf with rfl | hf
    · exact ⟨rfl, h1.symm⟩
    · rw [h1]; exact h2 f hf

theorem corners_out (l : List Pt) (a : Pt) (m : List Pt) (h : ∀ f ∈ ring (a :: m), ∀ e ∈ ring l, ¬ meetE e f) (h0 : inn l a = false) :
    ∀ f ∈ ring (a :: m), inn l f.1 = false ∧ inn l f.2 = false := by
  intro f hf
  have := walk l a m a h f hf
  rw [h0] at this; exact this
theorem corners_lo (l : List Pt) (a : Pt) (m : List Pt) (h : ∀ f ∈ ring (a :: m), ∀ e ∈ ring l, ¬ meetE e f) (h0 : inn l a = false) :
    ∀ f ∈ ring (a :: m), inn l (lo f) = false := by
  intro f hf
  have := corners_out l a m h h0 f hf
  unfold lo; split
  · exact this.1
  · exact this.2

/-- the law: two rings that do not meet, the first corner of each without the other: a spot that is on an edge of one, or within, is not so for the other -/
theorem meet_both (a b : Pt) (l m : List Pt) (p : Pt) (hn : ∀ e ∈ ring (a :: l), ∀ f ∈ ring (b :: m), ¬ meetE e f)
    (ha : inn (b :: m) a = false) (hb : inn (a :: l) b = false)
    (h1 : (∃ e ∈ ring (a :: l), onE e p) ∨ inn (a :: l) p = true) (h2 : (∃ f ∈ ring (b :: m), onE f p) ∨ inn (b :: m) p = true) : False := by
  have hn' : ∀ f ∈ ring (b :: m), ∀ e ∈ ring (a :: l), ¬ meetE e f := fun f hf e he => hn e he f hf
  have hn2 : ∀ e ∈ ring (a :: l), ∀ f ∈ ring (b :: m), ¬ meetE f e := fun e he f hf hh => hn e he f hf (meetE_comm hh)
  rcases h1 with ⟨e, he, oe⟩ | h1
  · rcases h2 with ⟨f, hf, of⟩ | h2
    · exact hn e he f hf (onE_meet oe of)
    · have h3 := (corners_out (b :: m) a l hn2 ha e he).1
      have h4 := inn_inv (b :: m) e.1 p fun f hf hh => hn2 e he f hf (meets_sub oe hh)
      rw [h3, h2] at h4; cases h4
  · rcases h2 with ⟨f, hf, of⟩ | h2
    · have h3 := (corners_out (a :: l) b m hn' hb f hf).1
      have h4 := inn_inv (a :: l) f.1 p fun e he hh => hn' f hf e he (meets_sub of hh)
      rw [h3, h1] at h4; cases h4
    · rcases apart (a :: l) (b :: m) p hn (corners_lo _ b m hn' hb) (corners_lo _ a l hn2 ha) with h | h
      · rw [h1] at h; cases h
      · rw [h2] at h; cases h
end Go.Eng.Geo

/-
Plane geometry in whole numbers: parity and turns of a fence around a spot.
-/
namespace Go.Eng.Geo
def chain {α} : List α → List (α × α)
  | [] => []
  | [_] => []
  | a :: b :: l => (a, b) :: chain (b :: l)
theorem chain_split {α} (u : List α) (c : α) (v : List α) : chain (u ++ c :: v) = chain (u ++ [c]) ++ chain (c :: v) := by
  match u with
  | [] => rfl
  | [a] => rfl
  | a :: b :: u =>
    show (a, b) :: chain ((b :: u) ++ c :: v) = (a, b) :: chain ((b :: u) ++ [c]) ++ chain (c :: v)
    rw [chain_split (b :: u) c v]; rfl
theorem path_chain {α} (z : α) (l : List α) : path z l = chain (l ++ [z]) := by
  match l with
  | [] => rfl
  | [a] => rfl
  | a :: b :: l =>
    show (a, b) :: path z (b :: l) = (a, b) :: chain ((b :: l) ++ [z])
    rw [path_chain z (b :: l)]
theorem ring_chain {α} (a : α) (l : List α) : ring (a :: l) = chain (a :: l ++ [a]) := path_chain a (a :: l)
theorem mem_chain {α} {e : α × α} {l : List α} (h : e ∈ chain l) : ∃ u v, l = u ++ e.1 :: e.2 :: v := by
  match l with
  | [] => simp [chain] at h
  | [a] => simp [chain] at h
  | a :: b :: l =>
    simp only [chain, List.mem_cons] at h
    rcases h with rfl | h
    · exact ⟨[], l, rfl⟩
    · obtain ⟨u, v, q⟩ := mem_chain h
      exact ⟨a :: u, v, by rw [q]; rfl⟩
theorem chain_mem {α} (u : List α) (a b : α) (v : List α) : (a, b) ∈ chain (u ++ a :: b :: v) := by
  rw [chain_split]; simp [chain]
theorem snoc {α} (v : List α) : v = [] ∨ ∃ v' w, v = v' ++ [w] := by
  rcases List.eq_nil_or_concat v with h | ⟨v', w, h⟩
  · exact .inl h
  · exact .inr ⟨v', w, by rw [h, List.concat_eq_append]⟩
theorem chain_fst {α} {e : α × α} {m : List α} {z : α} (h : e ∈ chain (m ++ [z])) : e.1 ∈ m := by
  obtain ⟨u, v, q⟩ := mem_chain h
  rcases snoc v with rfl | ⟨v', w, rfl⟩
  · rw [show u ++ e.1 :: [e.2] = (u ++ [e.1]) ++ [e.2] by simp] at q
    rw [(List.append_inj' q rfl).1]; simp
  · rw [show u ++ e.1 :: e.2 :: (v' ++ [w]) = (u ++ e.1 :: e.2 :: v') ++ [w] by simp] at q
    rw [(List.append_inj' q rfl).1]; simp
theorem chain_snd {α} {e : α × α} {m : List α} {x : α} (h : e ∈ chain (x :: m)) : e.2 ∈ m := by
  obtain ⟨u, v, q⟩ := mem_chain h
  cases u with
  | nil => simp only [List.nil_append, List.cons.injEq] at q; rw [q.2]; simp
  | cons y u => simp only [List.cons_append, List.cons.injEq] at q; rw [q.2]; simp
theorem ring_rot {α} (u v : List α) (a : α) (e : α × α) : e ∈ ring (a :: (v ++ u)) ↔ e ∈ ring (u ++ a :: v) := by
  cases u with
  | nil => simp
  | cons x u =>
    have h1 : ring (x :: u ++ a :: v) = chain (x :: u ++ [a]) ++ chain (a :: (v ++ [x])) := by
      rw [show x :: u ++ a :: v = x :: (u ++ a :: v) from rfl, ring_chain, show x :: (u ++ a :: v) ++ [x] = (x :: u) ++ a :: (v ++ [x]) by simp, chain_split]
    have h2 : ring (a :: (v ++ x :: u)) = chain (a :: v ++ [x]) ++ chain (x :: (u ++ [a])) := by
      rw [ring_chain, show a :: (v ++ x :: u) ++ [a] = (a :: v) ++ x :: (u ++ [a]) by simp, chain_split]
    rw [h1, h2]
    simp only [List.mem_append, List.cons_append]
    exact Or.comm
/-- a ring may be read from any of its edges -/
theorem ring_from {α} {l : List α} {e : α × α} (h : e ∈ ring l) (hne : e.1 ≠ e.2) : ∃ t, (∀ f, f ∈ ring (e.1 :: e.2 :: t) ↔ f ∈ ring l) ∧ (e.1 :: e.2 :: t).Perm l := by
  cases l with
  | nil => simp [ring] at h
  | cons x l0 =>
    have h' := h
    rw [ring_chain] at h'
    obtain ⟨u, v, q⟩ := mem_chain h'
    rcases snoc v with rfl | ⟨v', w, rfl⟩
    · rw [show u ++ e.1 :: [e.2] = (u ++ [e.1]) ++ [e.2] by simp] at q
      obtain ⟨q1, q2⟩ := List.append_inj' q rfl
      cases u with
      | nil =>
        simp only [List.nil_append, List.cons.injEq] at q1 q2
        exact absurd (q1.1.symm.trans q2.1) hne
      | cons y u =>
        simp only [List.cons_append, List.cons.injEq] at q1 q2
        obtain ⟨rfl, q1⟩ := q1
        refine ⟨u, fun f => ?_, ?_⟩
        · have := ring_rot (x :: u) [] e.1 f
          rw [show x :: l0 = x :: u ++ e.1 :: [] by rw [q1]; rfl, ← this, ← q2.1]; rfl
        · rw [q1, ← q2.1]
          exact (List.perm_append_comm (l₁ := [e.1]) (l₂ := x :: u))
    · rw [show u ++ e.1 :: e.2 :: (v' ++ [w]) = (u ++ e.1 :: e.2 :: v') ++ [w] by simp] at q
      have q1 := (List.append_inj' q rfl).1
      refine ⟨v' ++ u, fun f => ?_, ?_⟩
      · have := ring_rot u (e.2 :: v') e.1 f
        rw [q1, ← this]; rfl
      · rw [q1]
        exact (List.perm_append_comm (l₁ := e.1 :: e.2 :: v') (l₂ := u))

/-- corners of a fence: edges have nothing in common but the corner between two that are next to each other -/
structure Simple (l : List Pt) : Prop where
  nd : l.Nodup
  sep : ∀ e ∈ ring l, ∀ f ∈ ring l, e ≠ f → e.2 ≠ f.1 → f.2 ≠ e.1 → ¬ meetE e f
  adj : ∀ e ∈ ring l, ∀ f ∈ ring l, e ≠ f → e.2 = f.1 → ¬ onE e f.2 ∧ ¬ onE f e.1

theorem sq_nn (x : Int) : 0 ≤ x * x := by
  by_cases h : 0 ≤ x
  · exact PP h h
  · exact NN (by omega) (by omega)

/-- what is left of an edge without a corner does not meet the edge before that corner -/
theorem adj_sub {z v o r : Pt} (h1 : ¬ onE (z, v) o) (h2 : ¬ onE (v, o) z) (hr : onE (v, o) r) (hne : v.2 ≠ r.2) : ¬ meetE (z, v) (r, o) := by
  obtain ⟨zx, zy⟩ := z; obtain ⟨vx, vy⟩ := v; obtain ⟨ox, oy⟩ := o; obtain ⟨rx, ry⟩ := r
  simp only [onE, meetE] at *
  have hb := hr.2
  have hl := lam_y zx zy vx vy vx vy ox oy rx ry hr.1
  have hz : sd zx zy vx vy vx vy = 0 := by unfold sd; grind
  rw [hz, Int.mul_zero, Int.zero_add] at hl
  have hk : ∃ k1 k2 : Int, 0 < k1 ∧ 0 < k2 ∧ k1 * sd zx zy vx vy rx ry = k2 * sd zx zy vx vy ox oy := by
    by_cases hh : vy < ry
    · exact ⟨oy - vy, ry - vy, by omega, by omega, hl⟩
    · refine ⟨vy - oy, vy - ry, by omega, by omega, ?_⟩
      have e1 : vy - oy = -(oy - vy) := by omega
      have e2 : vy - ry = -(ry - vy) := by omega
      rw [e1, e2, Int.neg_mul, Int.neg_mul, hl]
  obtain ⟨k1, k2, p1, p2, hk⟩ := hk
  have cyc : sd vx vy ox oy zx zy = sd zx zy vx vy ox oy := by unfold sd; grind
  rintro (h | h | h | h | ⟨h, -⟩)
  · have hb2 := h.2
    rw [h.1, Int.mul_zero] at hk
    have h0 : sd zx zy vx vy ox oy = 0 := by
      rcases zero_or hk.symm with q | q
      · omega
      · exact q
    by_cases hh : vy < ry
    · by_cases ho : oy ≤ zy
      · exact h1 (onb_y h0 (by omega) (by omega) (by omega))
      · exact h2 (onb_y (cyc.trans h0) (by omega) (by omega) (by omega))
    · by_cases ho : zy ≤ oy
      · exact h1 (onb_y h0 (by omega) (by omega) (by omega))
      · exact h2 (onb_y (cyc.trans h0) (by omega) (by omega) (by omega))
  · exact h1 h
  · exact h2 (onb_swap (onb_trans (onb_swap hr) (onb_swap h)))
  · have := h.2; omega
  · have a1 := pn p1 h
    have e : k1 * (sd zx zy vx vy rx ry * sd zx zy vx vy ox oy) = k2 * (sd zx zy vx vy ox oy * sd zx zy vx vy ox oy) := by
      rw [← Int.mul_assoc, hk, Int.mul_assoc]
    have a2 := PP (Int.le_of_lt p2) (sq_nn (sd zx zy vx vy ox oy))
    omega

theorem onE_swap {e : Pt × Pt} {r : Pt} (h : onE (e.2, e.1) r) : onE e r := onb_swap h
theorem sub1 {f : Pt × Pt} {a b r : Pt} (h : onE (a, b) r) (hm : meetE f (a, r)) : meetE f (a, b) := meets_sub h hm
theorem sub2 {f : Pt × Pt} {a b r : Pt} (h : onE (a, b) r) (hm : meetE f (r, b)) : meetE f (a, b) :=
  meetE_swap2 (f := (a, b)) (meets_sub (onE_swap (e := (b, a)) h) (meetE_swap2 (f := (b, r)) hm))

def Rb (s t c : Pt) : Bool := decide (reg s.1 s.2 t.1 t.2 c.1 c.2)
theorem edge_x {s t : Pt} {e : Pt × Pt} (hst : s.2 ≤ t.2) (hm : ¬ meetE e (s, t)) : (hitE s e ^^ hitE t e) = (Rb s t e.1 ^^ Rb s t e.2) := by
  have hm' : ¬ meetE (lo e, hi e) (s, t) := fun hh => hm (meet_lohi hh)
  have hp := edge_par (ax := (lo e).1) (bx := (hi e).1) hst (lohi e) hm'
  have : (Rb s t e.1 ^^ Rb s t e.2) = (Rb s t (lo e) ^^ Rb s t (hi e)) := by
    unfold lo hi
    split
    · rfl
    · exact Bool.xor_comm _ _
  rw [this]
  unfold hitE Rb
  by_cases h1 : hitU (lo e).1 (lo e).2 (hi e).1 (hi e).2 s.1 s.2 <;> by_cases h2 : hitU (lo e).1 (lo e).2 (hi e).1 (hi e).2 t.1 t.2 <;>
    by_cases h3 : reg s.1 s.2 t.1 t.2 (lo e).1 (lo e).2 <;> by_cases h4 : reg s.1 s.2 t.1 t.2 (hi e).1 (hi e).2 <;>
    simp only [h1, h2, h3, h4] at hp <;> simp [h1, h2, h3, h4] <;> simp at hp
theorem lo_y (e : Pt × Pt) : (lo e).2 = min e.1.2 e.2.2 := by unfold lo; split <;> omega
theorem hi_y (e : Pt × Pt) : (hi e).2 = max e.1.2 e.2.2 := by unfold hi; split <;> omega
theorem hit_y {p : Pt} {e : Pt × Pt} (h : hitE p e = true) : min e.1.2 e.2.2 ≤ p.2 ∧ p.2 < max e.1.2 e.2.2 := by
  have := (hit_iff p e).1 h
  rw [lo_y, hi_y] at this; exact ⟨this.1, this.2.1⟩
theorem hit_no {p : Pt} {e : Pt × Pt} (h : ¬ (min e.1.2 e.2.2 ≤ p.2 ∧ p.2 < max e.1.2 e.2.2)) : hitE p e = false := by
  rw [← Bool.not_eq_true]; exact fun hh => h (hit_y hh)
theorem walk_end (l : List Pt) (z : Pt) (m : List Pt) (a : Pt) (h : ∀ f ∈ path z (a :: m), ∀ e ∈ ring l, ¬ meetE e f) : inn l a = inn l z := by
  induction m generalizing a with
  | nil => exact inn_inv l a z fun e he => h (a, z) (by simp [path]) e he
  | cons b m ih =>
    exact (inn_inv l a b fun e he => h (a, b) (by simp [path]) e he).trans (ih b fun f hf => h f (by simp [path, hf]))
end Go.Eng.Geo

/-
Plane geometry in whole numbers: parity and turns of a fence around a spot.
-/
namespace Go.Eng.Geo
/-- the edge goes over a height that none of its ends has -/
def crossY (f : Pt × Pt) (Y : Int) : Prop := (f.1.2 < Y ∧ Y < f.2.2) ∨ (f.2.2 < Y ∧ Y < f.1.2)
def sdE (f : Pt × Pt) (x Y : Int) : Int := sd f.1.1 f.1.2 f.2.1 f.2.2 x Y
theorem sd_lin (ax ay bx b_y x Y x' : Int) (h : sd ax ay bx b_y x Y = 0) : sd ax ay bx b_y x' Y = (b_y - ay) * (x - x') := by unfold sd at *; grind
theorem onE_cross {f : Pt × Pt} {x Y : Int} (cr : crossY f Y) (h : sdE f x Y = 0) : onE f (x, Y) := by
  unfold crossY at cr
  exact onb_y h (by show min _ _ ≤ Y; omega) (by show Y ≤ max _ _; omega) (by omega)

theorem close_seg {f : Pt × Pt} {Y xi xk : Int} (h1 : f.1.2 ≠ Y) (h2 : f.2.2 ≠ Y) (hx : xi < xk) (hm : meetE f ((xk, Y), (xi, Y))) :
    crossY f Y ∧ ∀ x, sdE f x Y = 0 → xi ≤ x ∧ x ≤ xk := by
  obtain ⟨⟨ax, ay⟩, ⟨bx, b_y⟩⟩ := f
  simp only [crossY, sdE, meetE] at *
  rcases hm with h | h | h | h | ⟨h, h'⟩
  · have hb := h.2
    refine ⟨by omega, fun x hx0 => ?_⟩
    have := sd_lin ax ay bx b_y x Y xk hx0
    rw [h.1] at this
    rcases zero_or this.symm with q | q <;> omega
  · have hb := h.2
    refine ⟨by omega, fun x hx0 => ?_⟩
    have := sd_lin ax ay bx b_y x Y xi hx0
    rw [h.1] at this
    rcases zero_or this.symm with q | q <;> omega
  · exfalso; have := h.2; omega
  · exfalso; have := h.2; omega
  · have e1 : sd xk Y xi Y ax ay = (xi - xk) * (ay - Y) := by unfold sd; grind
    have e2 : sd xk Y xi Y bx b_y = (xi - xk) * (b_y - Y) := by unfold sd; grind
    rw [e1, e2] at h'
    refine ⟨?_, ?_⟩
    · by_cases q1 : ay < Y <;> by_cases q2 : b_y < Y
      · exfalso; have := pp (nn (show xi - xk < 0 by omega) (show ay - Y < 0 by omega)) (nn (show xi - xk < 0 by omega) (show b_y - Y < 0 by omega)); omega
      · left; omega
      · right; omega
      · exfalso; have := nn (np (show xi - xk < 0 by omega) (show 0 < ay - Y by omega)) (np (show xi - xk < 0 by omega) (show 0 < b_y - Y by omega)); omega
    · intro x hx0
      rw [sd_lin ax ay bx b_y x Y xk hx0, sd_lin ax ay bx b_y x Y xi hx0] at h
      have e : (b_y - ay) * (x - xk) * ((b_y - ay) * (x - xi)) = (b_y - ay) * (b_y - ay) * ((x - xk) * (x - xi)) := by grind
      rw [e] at h
      by_cases q : (x - xk) * (x - xi) < 0
      · by_cases q1 : x < xi
        · have := nn (show x - xk < 0 by omega) (show x - xi < 0 by omega); omega
        · by_cases q2 : xk < x
          · have := pp (show 0 < x - xk by omega) (show 0 < x - xi by omega); omega
          · omega
      · have := PP (sq_nn (b_y - ay)) (show 0 ≤ (x - xk) * (x - xi) by omega); omega

theorem adj_sub1 {f : Pt × Pt} {v o r : Pt} (hf : f.2 = v) (h1 : ¬ onE f o) (h2 : ¬ onE (v, o) f.1) (hr : onE (v, o) r) (hne : v.2 ≠ r.2) : ¬ meetE f (r, o) := by
  obtain ⟨z, w⟩ := f
  simp only at hf; subst hf
  exact adj_sub h1 h2 hr hne
theorem adj_sub2 {f : Pt × Pt} {v o r : Pt} (hf : f.1 = v) (h1 : ¬ onE (o, v) f.2) (h2 : ¬ onE f o) (hr : onE (o, v) r) (hne : v.2 ≠ r.2) : ¬ meetE f (o, r) := by
  intro hm
  obtain ⟨w, z⟩ := f
  simp only at hf; subst hf
  exact adj_sub (z := z) (v := w) (o := o) (r := r) (fun h => h2 (onE_swap (e := (w, z)) h)) (fun h => h1 (onE_swap (e := (o, w)) h))
    (onE_swap (e := (w, o)) hr) hne (meetE_swap (e := (z, w)) (meetE_swap2 (f := (r, o)) hm))

theorem inn_gen (l : List Pt) (s t : Pt) (h : ∀ e ∈ ring l, (hitE s e ^^ hitE t e) = (Rb s t e.1 ^^ Rb s t e.2)) : inn l s = inn l t := by
  have key : par (fun e => hitE s e ^^ hitE t e) (ring l) = false := by rw [par_congr h]; exact par_ring (Rb s t) l
  rw [par_xor] at key
  unfold inn
  cases h1 : par (hitE s) (ring l) <;> cases h2 : par (hitE t) (ring l) <;> simp [h1, h2] at key ⊢
theorem Rb_no {s t c : Pt} (h : ¬ (s.2 < c.2 ∧ c.2 ≤ t.2)) : Rb s t c = false := decide_eq_false fun h' => h ⟨h'.1, h'.2.1⟩
theorem hit_up {a b p : Pt} (h : a.2 ≤ b.2) : hitE p (a, b) = decide (hitU a.1 a.2 b.1 b.2 p.1 p.2) := by
  have e1 : lo (a, b) = a := if_pos h
  have e2 : hi (a, b) = b := if_pos h
  unfold hitE; rw [e1, e2]
theorem hit_dn {a b p : Pt} (h : b.2 < a.2) : hitE p (a, b) = decide (hitU b.1 b.2 a.1 a.2 p.1 p.2) := by
  have e1 : lo (a, b) = b := if_neg (by show ¬ a.2 ≤ b.2; omega)
  have e2 : hi (a, b) = a := if_neg (by show ¬ a.2 ≤ b.2; omega)
  unfold hitE; rw [e1, e2]
theorem hit_x {g : Pt × Pt} {x Y px : Int} (cr : crossY g Y) (h : sdE g x Y = 0) : hitE (px, Y) g = decide (px < x) := by
  obtain ⟨a, b⟩ := g
  have h0 : sd a.1 a.2 b.1 b.2 x Y = 0 := h
  have cr : (a.2 < Y ∧ Y < b.2) ∨ (b.2 < Y ∧ Y < a.2) := cr
  rcases cr with cr | cr
  · rw [hit_up (by omega)]
    apply decide_eq_decide.2
    have e := sd_lin _ _ _ _ x Y px h0
    constructor
    · rintro ⟨-, -, h3⟩
      have h3 : 0 < sd a.1 a.2 b.1 b.2 px Y := h3
      rw [e] at h3
      have := cpos (show 0 < b.2 - a.2 by omega) h3; omega
    · intro hh
      exact ⟨by show a.2 ≤ Y; omega, by show Y < b.2; omega, by show 0 < sd a.1 a.2 b.1 b.2 px Y; rw [e]; exact pp (by omega) (by omega)⟩
  · rw [hit_dn (by omega)]
    apply decide_eq_decide.2
    have h0' : sd b.1 b.2 a.1 a.2 x Y = 0 := by rw [sd_swap]; omega
    have e := sd_lin _ _ _ _ x Y px h0'
    constructor
    · rintro ⟨-, -, h3⟩
      have h3 : 0 < sd b.1 b.2 a.1 a.2 px Y := h3
      rw [e] at h3
      have := cpos (show 0 < a.2 - b.2 by omega) h3; omega
    · intro hh
      exact ⟨by show b.2 ≤ Y; omega, by show Y < a.2; omega, by show 0 < sd b.1 b.2 a.1 a.2 px Y; rw [e]; exact pp (by omega) (by omega)⟩

/-- two edges next to each other over a height do not both rise -/
theorem consec (l : List Pt) (S : Simple l) (Y : Int) (hY : ∀ f ∈ ring l, f.1.2 ≠ Y ∧ f.2.2 ≠ Y) (hX : ∀ f ∈ ring l, crossY f Y → ∃ x, sdE f x Y = 0)
    (a b c d : Pt) (xi xk : Int) (hi : (a, b) ∈ ring l) (hk : (c, d) ∈ ring l) (ha : a.2 < Y) (hb : Y < b.2) (hc : c.2 < Y) (hd : Y < d.2)
    (oi : sdE (a, b) xi Y = 0) (ok : sdE (c, d) xk Y = 0) (hx : xi < xk)
    (hn : ∀ f ∈ ring l, crossY f Y → ∀ x, sdE f x Y = 0 → ¬ (xi < x ∧ x < xk)) : False := by
  have hab : a ≠ b := fun e => by rw [e] at ha; omega
  have hbc : b ≠ c := fun e => by rw [e] at hb; omega
  have hda : d ≠ a := fun e => by rw [e] at hd; omega
  obtain ⟨t, hring, hperm⟩ := ring_from hi hab
  have nd : (a :: b :: t).Nodup := hperm.nodup_iff.2 S.nd
  have hne : (c, d) ≠ (a, b) := by
    intro e
    have oi' : sd a.1 a.2 b.1 b.2 xi Y = 0 := oi
    have ok' : sd a.1 a.2 b.1 b.2 xk Y = 0 := by rw [e] at ok; exact ok
    have := sd_lin _ _ _ _ xi Y xk oi'
    rw [ok'] at this
    rcases zero_or this.symm with q | q <;> omega
  have hk3 : (c, d) ∈ chain ((b :: t) ++ [a]) := by
    have hk2 := (hring (c, d)).2 hk
    rw [ring_chain] at hk2
    have : (c, d) ∈ (a, b) :: chain ((b :: t) ++ [a]) := hk2
    rcases List.mem_cons.1 this with q | q
    · exact absurd q hne
    · exact q
  obtain ⟨u, v, q⟩ := mem_chain hk3
  simp only at q
  obtain ⟨v', rfl⟩ : ∃ v', v = v' ++ [a] := by
    rcases snoc v with rfl | ⟨v', w, rfl⟩
    · rw [show u ++ c :: [d] = (u ++ [c]) ++ [d] by simp] at q
      have := (List.append_inj' q rfl).2
      simp only [List.cons.injEq, and_true] at this
      exact absurd this.symm hda
    · rw [show u ++ c :: d :: (v' ++ [w]) = (u ++ c :: d :: v') ++ [w] by simp] at q
      have := (List.append_inj' q rfl).2
      simp only [List.cons.injEq, and_true] at this
      exact ⟨v', by rw [this]⟩
  have q1 : b :: t = u ++ c :: d :: v' := by
    rw [show u ++ c :: d :: (v' ++ [a]) = (u ++ c :: d :: v') ++ [a] by simp] at q
    exact (List.append_inj' q rfl).1
  obtain ⟨u', rfl⟩ : ∃ u', u = b :: u' := by
    cases u with
    | nil => simp only [List.nil_append, List.cons.injEq] at q1; exact absurd q1.1 hbc
    | cons y u' => simp only [List.cons_append, List.cons.injEq] at q1; exact ⟨u', by rw [q1.1]⟩
  have nd' : (a :: (b :: u') ++ c :: d :: v').Nodup := by
    rw [show a :: (b :: u') ++ c :: d :: v' = a :: (b :: u' ++ c :: d :: v') from rfl, ← q1]; exact nd
  have hr : ring (a :: b :: t) = (a, b) :: (chain (b :: u' ++ [c]) ++ (c, d) :: chain (d :: v' ++ [a])) := by
    rw [q1, ring_chain]
    show (a, b) :: chain ((b :: u' ++ c :: d :: v') ++ [a]) = _
    rw [show (b :: u' ++ c :: d :: v') ++ [a] = (b :: u') ++ c :: (d :: v' ++ [a]) by simp, chain_split]
    rfl
  have mA : ∀ g ∈ chain (b :: u' ++ [c]), g ∈ ring l := fun g hg => (hring g).1 (by rw [hr]; exact List.mem_cons_of_mem _ (List.mem_append_left _ hg))
  have mB : ∀ f ∈ chain (d :: v' ++ [a]), f ∈ ring l := fun f hf => (hring f).1 (by rw [hr]; exact List.mem_cons_of_mem _ (List.mem_append_right _ (List.mem_cons_of_mem _ hf)))
  have N1 : ∀ x ∈ a :: (b :: u') ++ [c], ∀ y ∈ d :: v', x ≠ y := by
    have : ((a :: (b :: u') ++ [c]) ++ (d :: v')).Nodup := by
      rw [show (a :: (b :: u') ++ [c]) ++ (d :: v') = a :: (b :: u') ++ c :: d :: v' by simp]; exact nd'
    exact (List.nodup_append.1 this).2.2
  have N2 : ∀ x ∈ a :: (b :: u'), ∀ y ∈ c :: d :: v', x ≠ y := (List.nodup_append.1 nd').2.2
  have N3 : ∀ y ∈ (b :: u') ++ c :: d :: v', a ≠ y := fun y hy e => (List.nodup_cons.1 nd').1 (e ▸ hy)
  have gA1 : ∀ g ∈ chain (b :: u' ++ [c]), g.1 ∈ b :: u' := fun g hg => chain_fst hg
  have gA2 : ∀ g ∈ chain (b :: u' ++ [c]), g.2 ∈ u' ++ [c] := fun g hg => chain_snd (x := b) (m := u' ++ [c]) hg
  have fB1 : ∀ f ∈ chain (d :: v' ++ [a]), f.1 ∈ d :: v' := fun f hf => chain_fst hf
  have fB2 : ∀ f ∈ chain (d :: v' ++ [a]), f.2 ∈ v' ++ [a] := fun f hf => chain_snd (x := d) (m := v' ++ [a]) hf
  have oni : onE (a, b) (xi, Y) := onb_of_y oi (by show a.2 ≤ Y; omega) (by show Y ≤ b.2; omega) (by show a.2 < b.2; omega)
  have onk : onE (c, d) (xk, Y) := onb_of_y ok (by show c.2 ≤ Y; omega) (by show Y ≤ d.2; omega) (by show c.2 < d.2; omega)
  have hik : ¬ meetE (a, b) (c, d) := S.sep _ hi _ hk hne.symm hbc hda
  have cA : c ∈ a :: (b :: u') ++ [c] := by simp
  have bA : b ∈ a :: (b :: u') ++ [c] := by simp
  -- the arc behind the second edge does not meet what is closed before it
  have F1 : ∀ f ∈ chain (d :: v' ++ [a]), ¬ meetE ((xi, Y), b) f := by
    intro f hf hm
    have hf1 := fB1 f hf
    have fne : f ≠ (a, b) := fun e => N3 f.1 (List.mem_append_right _ (List.mem_cons_of_mem _ hf1)) (by rw [e])
    by_cases hfa : f.2 = a
    · have := S.adj f (mB f hf) (a, b) hi fne hfa
      exact adj_sub1 hfa this.1 this.2 oni (by show a.2 ≠ Y; omega) (meetE_comm hm)
    · exact S.sep (a, b) hi f (mB f hf) fne.symm (N1 b bA f.1 hf1) hfa (meetE_comm (sub2 oni (meetE_comm hm)))
  have F2 : ∀ f ∈ chain (d :: v' ++ [a]), ¬ meetE (c, (xk, Y)) f := by
    intro f hf hm
    have hf1 := fB1 f hf
    have cne : c ≠ f.1 := N1 c cA f.1 hf1
    have fne : (c, d) ≠ f := fun e => cne (by rw [← e])
    by_cases hfd : f.1 = d
    · have := S.adj (c, d) hk f (mB f hf) fne hfd.symm
      exact adj_sub2 hfd this.1 this.2 onk (by show d.2 ≠ Y; omega) (meetE_comm hm)
    · refine S.sep (c, d) hk f (mB f hf) fne (fun e => hfd e.symm) (fun e => ?_) (meetE_comm (sub1 onk (meetE_comm hm)))
      have e : f.2 = c := e
      rcases List.mem_append.1 (fB2 f hf) with q | q
      · exact N1 c cA f.2 (List.mem_cons_of_mem _ q) e.symm
      · rw [List.mem_singleton] at q
        exact N2 a (by simp) c (by simp) (q.symm.trans e)
  have F3 : ∀ f ∈ chain (d :: v' ++ [a]), ∀ g ∈ chain (b :: u' ++ [c]), ¬ meetE g f := by
    intro f hf g hg
    have hf1 := fB1 f hf
    have g1 : g.1 ∈ a :: (b :: u') ++ [c] := List.mem_append_left _ (List.mem_cons_of_mem _ (gA1 g hg))
    have g2 : g.2 ∈ a :: (b :: u') ++ [c] := by
      rcases List.mem_append.1 (gA2 g hg) with q | q
      · exact List.mem_append_left _ (List.mem_cons_of_mem _ (List.mem_cons_of_mem _ q))
      · exact List.mem_append_right _ q
    refine S.sep g (mA g hg) f (mB f hf) (fun e => N1 _ g1 _ hf1 (by rw [e])) (N1 _ g2 _ hf1) (fun e => ?_)
    rcases List.mem_append.1 (fB2 f hf) with q | q
    · exact N1 _ g1 f.2 (List.mem_cons_of_mem _ q) e.symm
    · rw [List.mem_singleton] at q
      exact N3 g.1 (List.mem_append_left _ (gA1 g hg)) (q.symm.trans e)
  have F4 : ∀ f ∈ chain (d :: v' ++ [a]), ¬ meetE ((xk, Y), (xi, Y)) f := by
    intro f hf hm
    have hf' := mB f hf
    obtain ⟨cr, hb2⟩ := close_seg (hY f hf').1 (hY f hf').2 hx (meetE_comm hm)
    obtain ⟨x, hx0⟩ := hX f hf' cr
    have h1 := hb2 x hx0
    have h2 := hn f hf' cr x hx0
    have onf := onE_cross cr hx0
    by_cases hxi : x = xi
    · subst hxi; exact F1 f hf (onE_meet (onb_refl_l ..) onf)
    · have hxk : x = xk := by omega
      subst hxk; exact F2 f hf (onE_meet (onb_refl_r ..) onf)
  have hp : ring ((xi, Y) :: (b :: u' ++ [c] ++ [(xk, Y)])) = ((xi, Y), b) :: (chain (b :: u' ++ [c]) ++ [(c, (xk, Y)), ((xk, Y), (xi, Y))]) := by
    rw [ring_chain]
    show ((xi, Y), b) :: chain ((b :: u' ++ [c] ++ [(xk, Y)]) ++ [(xi, Y)]) = _
    rw [show (b :: u' ++ [c] ++ [(xk, Y)]) ++ [(xi, Y)] = (b :: u') ++ c :: [(xk, Y), (xi, Y)] by simp, chain_split]
    rfl
  generalize hPAd : (xi, Y) :: (b :: u' ++ [c] ++ [(xk, Y)]) = PA at hp
  have hPA : ∀ g ∈ ring PA, g = ((xi, Y), b) ∨ g ∈ chain (b :: u' ++ [c]) ∨ g = (c, (xk, Y)) ∨ g = ((xk, Y), (xi, Y)) := by
    intro g hg
    rw [hp] at hg
    rcases List.mem_cons.1 hg with q | hg
    · exact .inl q
    rcases List.mem_append.1 hg with q | hg
    · exact .inr (.inl q)
    simp only [List.mem_cons, List.not_mem_nil, or_false] at hg
    exact .inr (.inr hg)
  have w1 : inn PA d = inn PA a := by
    apply walk_end PA a v' d
    intro f hf e he
    rw [path_chain] at hf
    rcases hPA e he with rfl | q | rfl | rfl
    · exact F1 f hf
    · exact F3 f hf e q
    · exact F2 f hf
    · exact F4 f hf
  have G2 : ∀ g ∈ chain (b :: u' ++ [c]), ¬ meetE g ((xk, Y), d) := by
    intro g hg hm
    have gc : g.1 ≠ c := N2 g.1 (List.mem_cons_of_mem _ (gA1 g hg)) c (by simp)
    have gne : g ≠ (c, d) := fun e => gc (by rw [e])
    by_cases hgc : g.2 = c
    · have := S.adj g (mA g hg) (c, d) hk gne hgc
      exact adj_sub1 hgc this.1 this.2 onk (by show c.2 ≠ Y; omega) hm
    · exact S.sep g (mA g hg) (c, d) hk gne hgc (fun e => N1 g.1 (List.mem_append_left _ (List.mem_cons_of_mem _ (gA1 g hg))) d (by simp) e.symm) (sub2 onk hm)
  have G3 : ∀ g ∈ chain (b :: u' ++ [c]), ¬ meetE g (a, (xi, Y)) := by
    intro g hg hm
    have ga : a ≠ g.1 := N3 g.1 (List.mem_append_left _ (gA1 g hg))
    have gne : (a, b) ≠ g := fun e => ga (by rw [← e])
    have ga2 : g.2 ≠ a := by
      intro e
      rcases List.mem_append.1 (gA2 g hg) with q | q
      · exact N3 g.2 (List.mem_append_left _ (List.mem_cons_of_mem _ q)) e.symm
      · rw [List.mem_singleton] at q
        exact N2 a (by simp) c (by simp) (e.symm.trans q)
    by_cases hgb : g.1 = b
    · have := S.adj (a, b) hi g (mA g hg) gne hgb.symm
      exact adj_sub2 hgb this.1 this.2 oni (by show b.2 ≠ Y; omega) hm
    · exact S.sep (a, b) hi g (mA g hg) gne (fun e => hgb e.symm) ga2 (meetE_comm (sub1 oni hm))
  have w2 : inn PA (xk, Y) = inn PA d := by
    apply inn_gen
    intro g hg
    rcases hPA g hg with rfl | q | rfl | rfl
    · refine edge_x (by show Y ≤ d.2; omega) fun h => hik ?_
      exact meetE_comm (sub2 oni (meetE_comm (sub2 onk h)))
    · exact edge_x (by show Y ≤ d.2; omega) (G2 g q)
    · rw [hit_no (by show ¬ (min c.2 Y ≤ Y ∧ Y < max c.2 Y); omega), hit_no (by show ¬ (min c.2 Y ≤ d.2 ∧ d.2 < max c.2 Y); omega),
        Rb_no (by show ¬ (Y < c.2 ∧ c.2 ≤ d.2); omega), Rb_no (by show ¬ (Y < Y ∧ Y ≤ d.2); omega)]
    · rw [hit_no (by show ¬ (min Y Y ≤ Y ∧ Y < max Y Y); omega), hit_no (by show ¬ (min Y Y ≤ d.2 ∧ d.2 < max Y Y); omega),
        Rb_no (by show ¬ (Y < Y ∧ Y ≤ d.2); omega), Rb_no (by show ¬ (Y < Y ∧ Y ≤ d.2); omega)]
  have hb0 : hitE (xi, Y) ((xi, Y), b) = false := by
    rw [hit_up (by show Y ≤ b.2; omega)]
    refine decide_eq_false fun h => ?_
    have h3 : 0 < sd xi Y b.1 b.2 xi Y := h.2.2
    have : sd xi Y b.1 b.2 xi Y = 0 := by unfold sd; grind
    omega
  have hb1 : hitE (xk, Y) ((xi, Y), b) = false := by
    rw [hit_up (by show Y ≤ b.2; omega)]
    refine decide_eq_false fun h => ?_
    have h3 : 0 < sd xi Y b.1 b.2 xk Y := h.2.2
    have e : sd xi Y b.1 b.2 xk Y = (b.2 - Y) * (xi - xk) := by unfold sd; grind
    have := pn (show 0 < b.2 - Y by omega) (show xi - xk < 0 by omega)
    omega
  have w3 : (inn PA a ^^ inn PA (xi, Y)) = true := by
    have key : par (fun e => hitE a e ^^ hitE (xi, Y) e) (ring PA) = !(par (fun e => Rb a (xi, Y) e.1 ^^ Rb a (xi, Y) e.2) (ring PA)) := by
      rw [hp]
      simp only [par, par_append]
      have e0 : (hitE a ((xi, Y), b) ^^ hitE (xi, Y) ((xi, Y), b)) = (Rb a (xi, Y) (xi, Y) ^^ Rb a (xi, Y) b) := by
        rw [hit_no (by show ¬ (min Y b.2 ≤ a.2 ∧ a.2 < max Y b.2); omega), hb0, Rb_no (c := b) (by show ¬ (a.2 < b.2 ∧ b.2 ≤ Y); omega)]
        have : Rb a (xi, Y) (xi, Y) = false := by
          refine decide_eq_false fun h => ?_
          have h3 : sd a.1 a.2 xi Y xi Y < 0 := h.2.2
          have : sd a.1 a.2 xi Y xi Y = 0 := by unfold sd; grind
          omega
        rw [this]
      have e1 : par (fun e => hitE a e ^^ hitE (xi, Y) e) (chain (b :: u' ++ [c])) = par (fun e => Rb a (xi, Y) e.1 ^^ Rb a (xi, Y) e.2) (chain (b :: u' ++ [c])) :=
        par_congr fun g hg => edge_x (by show a.2 ≤ Y; omega) (G3 g hg)
      have e2 : (hitE a (c, (xk, Y)) ^^ hitE (xi, Y) (c, (xk, Y))) = (Rb a (xi, Y) c ^^ Rb a (xi, Y) (xk, Y)) := by
        refine edge_x (e := (c, (xk, Y))) (by show a.2 ≤ Y; omega) fun h => hik ?_
        exact meetE_comm (sub1 oni (meetE_comm (sub1 onk (meetE_comm h))))
      have e3 : (hitE a ((xk, Y), (xi, Y)) ^^ hitE (xi, Y) ((xk, Y), (xi, Y))) = false := by
        rw [hit_no (by show ¬ (min Y Y ≤ a.2 ∧ a.2 < max Y Y); omega), hit_no (by show ¬ (min Y Y ≤ Y ∧ Y < max Y Y); omega)]; rfl
      have e4 : (Rb a (xi, Y) (xk, Y) ^^ Rb a (xi, Y) (xi, Y)) = true := by
        have r1 : Rb a (xi, Y) (xi, Y) = false := by
          refine decide_eq_false fun h => ?_
          have h3 : sd a.1 a.2 xi Y xi Y < 0 := h.2.2
          have : sd a.1 a.2 xi Y xi Y = 0 := by unfold sd; grind
          omega
        have r2 : Rb a (xi, Y) (xk, Y) = true := by
          refine decide_eq_true ⟨by show a.2 < Y; omega, by show Y ≤ Y; omega, ?_⟩
          show sd a.1 a.2 xi Y xk Y < 0
          have e : sd a.1 a.2 xi Y xk Y = (Y - a.2) * (xi - xk) := by unfold sd; grind
          rw [e]
          exact pn (by omega) (by omega)
        rw [r1, r2]; rfl
      rw [e0, e1, e2, e3, e4]
      generalize (Rb a (xi, Y) (xi, Y) ^^ Rb a (xi, Y) b) = X0
      generalize par (fun e => Rb a (xi, Y) e.1 ^^ Rb a (xi, Y) e.2) (chain (b :: u' ++ [c])) = X1
      generalize (Rb a (xi, Y) c ^^ Rb a (xi, Y) (xk, Y)) = X2
      cases X0 <;> cases X1 <;> cases X2 <;> rfl
    rw [par_ring, par_xor] at key
    exact key
  have w4 : inn PA (xi, Y) = inn PA (xk, Y) := by
    apply par_congr
    intro g hg
    rcases hPA g hg with rfl | q | rfl | rfl
    · rw [hb0, hb1]
    · have hg' := mA g q
      have h1 := hY g hg'
      by_cases cr : crossY g Y
      · obtain ⟨x, hx0⟩ := hX g hg' cr
        have h2 := hn g hg' cr x hx0
        have h3 : x ≠ xk := by
          intro e; subst e
          exact G2 g q (onE_meet (onE_cross cr hx0) (onb_refl_l ..))
        rw [hit_x cr hx0, hit_x cr hx0]
        exact decide_eq_decide.2 (by omega)
      · unfold crossY at cr
        rw [hit_no (by show ¬ (min g.1.2 g.2.2 ≤ Y ∧ Y < max g.1.2 g.2.2); omega), hit_no (by show ¬ (min g.1.2 g.2.2 ≤ Y ∧ Y < max g.1.2 g.2.2); omega)]
    · rw [hit_no (by show ¬ (min c.2 Y ≤ Y ∧ Y < max c.2 Y); omega), hit_no (by show ¬ (min c.2 Y ≤ Y ∧ Y < max c.2 Y); omega)]
    · rw [hit_no (by show ¬ (min Y Y ≤ Y ∧ Y < max Y Y); omega), hit_no (by show ¬ (min Y Y ≤ Y ∧ Y < max Y Y); omega)]
  rw [w4, w2, w1] at w3
  cases h : inn PA a <;> rw [h] at w3 <;> cases w3
end Go.Eng.Geo

/-
Plane geometry in whole numbers: parity and turns of a fence around a spot.
-/
namespace Go.Eng.Geo
def isum {α} (f : α → Int) : List α → Int
  | [] => 0
  | a :: l => f a + isum f l
theorem isum_congr {α} {f g : α → Int} {l : List α} (h : ∀ x ∈ l, f x = g x) : isum f l = isum g l := by
  induction l with
  | nil => rfl
  | cons a l ih => simp only [isum]; rw [h a (by simp), ih fun x hx => h x (by simp [hx])]
theorem isum_map {α β} (f : β → Int) (g : α → β) (l : List α) : isum f (l.map g) = isum (fun x => f (g x)) l := by
  induction l with
  | nil => rfl
  | cons a l ih => simp only [List.map, isum, ih]
theorem isum_sub {α} (f g : α → Int) (l : List α) : isum (fun x => f x - g x) l = isum f l - isum g l := by
  induction l with
  | nil => rfl
  | cons a l ih => simp only [isum, ih]; omega
theorem isum_perm {α} (f : α → Int) {l m : List α} (h : l.Perm m) : isum f l = isum f m := by
  induction h with
  | nil => rfl
  | cons x _ ih => simp only [isum, ih]
  | swap x y l => simp only [isum]; omega
  | trans _ _ ih1 ih2 => exact ih1.trans ih2
theorem isum_path {α} (R : α → Int) (z a : α) (l : List α) : isum (fun e => R e.2 - R e.1) (path z (a :: l)) = R z - R a := by
  induction l generalizing a with
  | nil => simp [path, isum]
  | cons b l ih => simp only [path, isum, ih]; omega
theorem isum_ring {α} (R : α → Int) (l : List α) : isum (fun e => R e.2 - R e.1) (ring l) = 0 := by
  cases l with
  | nil => rfl
  | cons a l => simp only [ring, isum_path]; omega

def sg (b : Bool) : Int := if b then 1 else -1
theorem min_ex (M : List (Int × Bool)) (h : M ≠ []) : ∃ m ∈ M, ∀ e ∈ M, m.1 ≤ e.1 := by
  induction M with
  | nil => exact absurd rfl h
  | cons a M ih =>
    by_cases hM : M = []
    · subst hM; exact ⟨a, by simp, by simp⟩
    · obtain ⟨m, hm, h1⟩ := ih hM
      by_cases hh : a.1 ≤ m.1
      · refine ⟨a, by simp, fun e he => ?_⟩
        rcases List.mem_cons.1 he with rfl | he
        · omega
        · have := h1 e he; omega
      · refine ⟨m, by simp [hm], fun e he => ?_⟩
        rcases List.mem_cons.1 he with rfl | he
        · omega
        · exact h1 e he
/-- signs of which two that are next to each other are never the same -/
theorem alt (n : Nat) : ∀ M : List (Int × Bool), M.length ≤ n → (M.map Prod.fst).Nodup →
    (∀ e ∈ M, ∀ f ∈ M, e.1 < f.1 → (∀ g ∈ M, ¬ (e.1 < g.1 ∧ g.1 < f.1)) → e.2 ≠ f.2) →
    (M.length % 2 = 0 ∧ isum (fun m => sg m.2) M = 0) ∨ (M.length % 2 = 1 ∧ (isum (fun m => sg m.2) M = 1 ∨ isum (fun m => sg m.2) M = -1)) := by
  induction n with
  | zero =>
    intro M h _ _
    have : M = [] := List.length_eq_zero_iff.1 (by omega)
    subst this; exact .inl ⟨rfl, rfl⟩
  | succ n ih =>
    intro M hl hnd hP
    by_cases hM : M = []
    · subst hM; exact .inl ⟨rfl, rfl⟩
    obtain ⟨m0, h0, min0⟩ := min_ex M hM
    have p0 := List.perm_cons_erase h0
    have l0 := p0.length_eq
    have s0 := isum_perm (fun m => sg m.2) p0
    have nd0 := (p0.map Prod.fst).nodup_iff.1 hnd
    simp only [List.map_cons, List.nodup_cons, List.length_cons, isum] at nd0 l0 s0
    by_cases hM0 : M.erase m0 = []
    · right
      rw [hM0] at l0 s0
      simp only [List.length_nil, isum] at l0 s0
      refine ⟨by omega, ?_⟩
      rw [s0]; unfold sg; split <;> omega
    obtain ⟨m1, h1, min1⟩ := min_ex _ hM0
    have p1 := List.perm_cons_erase h1
    have l1 := p1.length_eq
    have s1 := isum_perm (fun m => sg m.2) p1
    have nd1 := (p1.map Prod.fst).nodup_iff.1 nd0.2
    simp only [List.map_cons, List.nodup_cons, List.length_cons, isum] at nd1 l1 s1
    have mem0 : ∀ e ∈ M.erase m0, e ∈ M := fun e he => List.mem_of_mem_erase he
    have mem1 : ∀ e ∈ (M.erase m0).erase m1, e ∈ M.erase m0 := fun e he => List.mem_of_mem_erase he
    have ne01 : m0.1 ≠ m1.1 := fun e => nd0.1 (by rw [e]; exact List.mem_map_of_mem h1)
    have lt01 : m0.1 < m1.1 := by have := min0 m1 (mem0 _ h1); omega
    have cas : ∀ g ∈ M, g = m0 ∨ g ∈ M.erase m0 := fun g hg => List.mem_cons.1 (p0.mem_iff.1 hg)
    have cas1 : ∀ g ∈ M.erase m0, g = m1 ∨ g ∈ (M.erase m0).erase m1 := fun g hg => List.mem_cons.1 (p1.mem_iff.1 hg)
    have d01 : m0.2 ≠ m1.2 := by
      refine hP m0 h0 m1 (mem0 _ h1) lt01 fun g hg hh => ?_
      rcases cas g hg with rfl | hg
      · omega
      · have := min1 g hg; omega
    have hI := ih ((M.erase m0).erase m1) (by omega) nd1.2 (by
      intro e he f hf hlt hbt
      refine hP e (mem0 _ (mem1 _ he)) f (mem0 _ (mem1 _ hf)) hlt fun g hg hh => ?_
      rcases cas g hg with rfl | hg
      · have := min0 e (mem0 _ (mem1 _ he)); omega
      · rcases cas1 g hg with rfl | hg
        · have := min1 e (mem1 _ he); omega
        · exact hbt g hg hh)
    have z : sg m0.2 + sg m1.2 = 0 := by
      unfold sg
      cases h : m0.2 <;> cases h' : m1.2 <;> simp [h, h'] at d01 ⊢
    have e1 : isum (fun m => sg m.2) M = isum (fun m => sg m.2) ((M.erase m0).erase m1) := by omega
    have e2 : M.length % 2 = ((M.erase m0).erase m1).length % 2 := by omega
    rw [e1, e2]; exact hI

/-- how the edge goes round a spot: 1 if it rises to its right, -1 if it falls -/
def wE (s : Pt) (e : Pt × Pt) : Int := if hitE s e then (if e.1.2 ≤ e.2.2 then 1 else -1) else 0
def turns (l : List Pt) (s : Pt) : Int := isum (wE s) (ring l)
noncomputable def xe (Y : Int) (e : Pt × Pt) : Int := open Classical in if h : ∃ x, sdE e x Y = 0 then Classical.choose h else 0
theorem xe_spec {Y : Int} {e : Pt × Pt} (h : ∃ x, sdE e x Y = 0) : sdE e (xe Y e) Y = 0 := by
  unfold xe; rw [dif_pos h]; exact Classical.choose_spec h
theorem x_uniq {e : Pt × Pt} {Y x x' : Int} (cr : crossY e Y) (h : sdE e x Y = 0) (h' : sdE e x' Y = 0) : x = x' := by
  have := sd_lin _ _ _ _ x Y x' h
  have h'' : sd e.1.1 e.1.2 e.2.1 e.2.2 x' Y = 0 := h'
  rw [h''] at this
  unfold crossY at cr
  rcases zero_or this.symm with q | q <;> omega

theorem ring_fst {α} (l : List α) : (ring l).map Prod.fst = l := by
  have : ∀ (z : α) (l : List α), (path z l).map Prod.fst = l := by
    intro z l
    induction l with
    | nil => rfl
    | cons a l ih => cases l with
      | nil => rfl
      | cons b l => simp only [path, List.map_cons]; rw [ih]
  cases l with
  | nil => rfl
  | cons a l => exact this a (a :: l)
theorem nodup_of_map {α β} {g : α → β} {l : List α} (h : (l.map g).Nodup) : l.Nodup := by
  induction l with
  | nil => simp
  | cons a l ih =>
    simp only [List.map_cons, List.nodup_cons] at h ⊢
    exact ⟨fun hh => h.1 (List.mem_map_of_mem hh), ih h.2⟩
theorem nodup_map {α β} {g : α → β} {l : List α} (h : l.Nodup) (hg : ∀ e ∈ l, ∀ f ∈ l, e ≠ f → g e ≠ g f) : (l.map g).Nodup := by
  induction l with
  | nil => simp
  | cons a l ih =>
    simp only [List.map_cons, List.nodup_cons] at h ⊢
    refine ⟨fun hh => ?_, ih h.2 fun e he f hf => hg e (by simp [he]) f (by simp [hf])⟩
    obtain ⟨f, hf, e⟩ := List.mem_map.1 hh
    exact hg a (by simp) f (by simp [hf]) (fun e' => h.1 (e' ▸ hf)) e.symm

theorem chain_rev {α} {e : α × α} {l : List α} (h : e ∈ chain l.reverse) : (e.2, e.1) ∈ chain l := by
  obtain ⟨u, v, q⟩ := mem_chain h
  have : l = v.reverse ++ e.2 :: e.1 :: u.reverse := by
    have := congrArg List.reverse q
    rw [List.reverse_reverse] at this
    rw [this]; simp
  rw [this]; exact chain_mem _ _ _ _
theorem ring_rev {α} {e : α × α} {l : List α} (h : e ∈ ring l.reverse) : (e.2, e.1) ∈ ring l := by
  cases l with
  | nil => simp [ring] at h
  | cons a l =>
    rw [show (a :: l).reverse = l.reverse ++ a :: [] by simp, ← ring_rot l.reverse [] a, List.nil_append, ring_chain] at h
    rw [ring_chain]
    apply chain_rev
    rw [show (a :: l ++ [a]).reverse = a :: l.reverse ++ [a] by simp]; exact h
theorem ring_rev' {α} {a b : α} {l : List α} (h : (a, b) ∈ ring l) : (b, a) ∈ ring l.reverse := by
  have h' : (a, b) ∈ ring l.reverse.reverse := by rw [List.reverse_reverse]; exact h
  exact ring_rev h'
theorem Simple_rev {l : List Pt} (S : Simple l) : Simple l.reverse where
  nd := (List.reverse_perm l).nodup_iff.2 S.nd
  sep := fun e he f hf h1 h2 h3 hm => S.sep _ (ring_rev he) _ (ring_rev hf) (fun q => h1 (by
      have q1 := congrArg Prod.fst q; have q2 := congrArg Prod.snd q; exact Prod.ext q2 q1)) (fun q => h3 q.symm) (fun q => h2 q.symm)
    (meetE_swap (e := (e.2, e.1)) (meetE_swap2 (f := (f.2, f.1)) hm))
  adj := fun e he f hf h1 h2 => by
    have := S.adj _ (ring_rev hf) _ (ring_rev he) (fun q => h1 (by
      have q1 := congrArg Prod.fst q; have q2 := congrArg Prod.snd q; exact (Prod.ext q2 q1).symm)) h2.symm
    exact ⟨fun h => this.2 (onE_swap (e := (e.2, e.1)) h), fun h => this.1 (onE_swap (e := (f.2, f.1)) h)⟩

theorem consec_down (l : List Pt) (S : Simple l) (Y : Int) (hY : ∀ f ∈ ring l, f.1.2 ≠ Y ∧ f.2.2 ≠ Y) (hX : ∀ f ∈ ring l, crossY f Y → ∃ x, sdE f x Y = 0)
    (a b c d : Pt) (xi xk : Int) (hi : (a, b) ∈ ring l) (hk : (c, d) ∈ ring l) (ha : b.2 < Y) (hb : Y < a.2) (hc : d.2 < Y) (hd : Y < c.2)
    (oi : sdE (a, b) xi Y = 0) (ok : sdE (c, d) xk Y = 0) (hx : xi < xk)
    (hn : ∀ f ∈ ring l, crossY f Y → ∀ x, sdE f x Y = 0 → ¬ (xi < x ∧ x < xk)) : False := by
  have sw : ∀ (f : Pt × Pt) (x : Int), sdE f x Y = 0 → sdE (f.2, f.1) x Y = 0 := by
    intro f x h
    have h : sd f.1.1 f.1.2 f.2.1 f.2.2 x Y = 0 := h
    show sd f.2.1 f.2.2 f.1.1 f.1.2 x Y = 0
    rw [sd_swap]; omega
  refine consec l.reverse (Simple_rev S) Y (fun f hf => ?_) (fun f hf cr => ?_) b a d c xi xk (ring_rev' hi) (ring_rev' hk) ha hb hc hd (sw (a, b) xi oi) (sw (c, d) xk ok) hx (fun f hf cr x hx0 => ?_)
  · have := hY _ (ring_rev hf); exact ⟨this.2, this.1⟩
  · obtain ⟨x, hx0⟩ := hX _ (ring_rev hf) (by unfold crossY at *; exact cr.symm)
    exact ⟨x, sw (f.2, f.1) x hx0⟩
  · exact hn _ (ring_rev hf) (by unfold crossY at *; exact cr.symm) x (sw f x hx0)

/-- how often a fence goes round a spot: not at all, or once -/
theorem turns_gen (l : List Pt) (S : Simple l) (px Y : Int) (hY : ∀ f ∈ ring l, f.1.2 ≠ Y ∧ f.2.2 ≠ Y) (hX : ∀ f ∈ ring l, crossY f Y → ∃ x, sdE f x Y = 0) :
    (inn l (px, Y) = false ∧ turns l (px, Y) = 0) ∨ (inn l (px, Y) = true ∧ (turns l (px, Y) = 1 ∨ turns l (px, Y) = -1)) := by
  have hcr : ∀ f ∈ ring l, hitE (px, Y) f = true → crossY f Y := by
    intro f hf h
    have h1 := hit_y h
    have h2 := hY f hf
    have h1 : min f.1.2 f.2.2 ≤ Y ∧ Y < max f.1.2 f.2.2 := h1
    unfold crossY; omega
  have hxe : ∀ f ∈ ring l, crossY f Y → sdE f (xe Y f) Y = 0 := fun f hf cr => xe_spec (hX f hf cr)
  have hpx : ∀ f ∈ ring l, crossY f Y → (hitE (px, Y) f = true ↔ px < xe Y f) := by
    intro f hf cr
    rw [hit_x cr (hxe f hf cr), decide_eq_true_iff]
  have hdis : ∀ e ∈ ring l, ∀ f ∈ ring l, e ≠ f → crossY e Y → crossY f Y → xe Y e ≠ xe Y f := by
    intro e he f hf hne ce cf hx
    have o1 : onE e (xe Y e, Y) := onE_cross ce (hxe e he ce)
    have o2 : onE f (xe Y e, Y) := by rw [hx]; exact onE_cross cf (hxe f hf cf)
    by_cases h1 : e.2 = f.1
    · have := S.adj e he f hf hne h1
      exact adj_sub1 (v := f.1) (o := f.2) h1 this.1 this.2 o2 (hY f hf).1 (onE_meet o1 (onb_refl_l ..))
    by_cases h2 : f.2 = e.1
    · have := S.adj f hf e he hne.symm h2
      exact adj_sub1 (v := e.1) (o := e.2) h2 this.1 this.2 o1 (hY e he).1 (onE_meet o2 (onb_refl_l ..))
    · exact S.sep e he f hf hne h1 h2 (onE_meet o1 o2)
  let up : Pt × Pt → Bool := fun e => decide (e.1.2 ≤ e.2.2)
  let H := (ring l).filter (hitE (px, Y))
  have mH : ∀ e, e ∈ H ↔ e ∈ ring l ∧ hitE (px, Y) e = true := fun e => List.mem_filter
  have ndH : H.Nodup := (nodup_of_map (g := Prod.fst) (by rw [ring_fst]; exact S.nd)).filter _
  have key := alt (H.map fun e => (xe Y e, up e)).length (H.map fun e => (xe Y e, up e)) (Nat.le_refl _) (by
    rw [List.map_map]
    exact nodup_map ndH fun e he f hf hne => hdis e ((mH e).1 he).1 f ((mH f).1 hf).1 hne (hcr e ((mH e).1 he).1 ((mH e).1 he).2) (hcr f ((mH f).1 hf).1 ((mH f).1 hf).2)) (by
    intro e he f hf hlt hbt hsame
    obtain ⟨e, he0, rfl⟩ := List.mem_map.1 he
    obtain ⟨f, hf0, rfl⟩ := List.mem_map.1 hf
    clear he hf
    obtain ⟨he, hhe⟩ := (mH e).1 he0
    obtain ⟨hf, hhf⟩ := (mH f).1 hf0
    have ce := hcr e he hhe
    have cf := hcr f hf hhf
    have hlt : xe Y e < xe Y f := hlt
    have hsame : decide (e.1.2 ≤ e.2.2) = decide (f.1.2 ≤ f.2.2) := hsame
    have hn : ∀ g ∈ ring l, crossY g Y → ∀ x, sdE g x Y = 0 → ¬ (xe Y e < x ∧ x < xe Y f) := by
      intro g hg cg x hx0 hh
      have hxx : x = xe Y g := x_uniq cg hx0 (hxe g hg cg)
      have h1 := (hpx e he ce).1 hhe
      have h2 : hitE (px, Y) g = true := (hpx g hg cg).2 (by omega)
      refine hbt (xe Y g, up g) (List.mem_map.2 ⟨g, (mH g).2 ⟨hg, h2⟩, rfl⟩) ?_
      show xe Y e < xe Y g ∧ xe Y g < xe Y f
      omega
    unfold crossY at ce cf
    by_cases hu : e.1.2 ≤ e.2.2
    · have hu2 : f.1.2 ≤ f.2.2 := by rw [decide_eq_true hu] at hsame; exact of_decide_eq_true hsame.symm
      exact consec l S Y hY hX e.1 e.2 f.1 f.2 _ _ he hf (by omega) (by omega) (by omega) (by omega) (hxe e he ce) (hxe f hf cf) hlt hn
    · have hu2 : ¬ f.1.2 ≤ f.2.2 := by rw [decide_eq_false hu] at hsame; exact of_decide_eq_false hsame.symm
      exact consec_down l S Y hY hX e.1 e.2 f.1 f.2 _ _ he hf (by omega) (by omega) (by omega) (by omega) (hxe e he ce) (hxe f hf cf) hlt hn)
  have e1 : turns l (px, Y) = isum (fun m => sg m.2) (H.map fun e => (xe Y e, up e)) := by
    unfold turns
    show _ = isum (fun m => sg m.2) (((ring l).filter (hitE (px, Y))).map fun e => (xe Y e, up e))
    generalize ring l = L
    induction L with
    | nil => rfl
    | cons a L ih =>
      simp only [isum, wE]
      by_cases h : hitE (px, Y) a = true
      · rw [List.filter_cons_of_pos h, if_pos h]
        simp only [List.map_cons, isum]
        rw [← ih]
        have : (if a.1.2 ≤ a.2.2 then (1 : Int) else -1) = sg (up a) := by
          show _ = sg (decide (a.1.2 ≤ a.2.2))
          unfold sg
          by_cases hh : a.1.2 ≤ a.2.2 <;> simp [hh]
        rw [this]
      · rw [List.filter_cons_of_neg h, if_neg h, ← ih]
        simp only [Int.zero_add]
  have e2 : inn l (px, Y) = decide ((H.map fun e => (xe Y e, up e)).length % 2 = 1) := by
    rw [List.length_map]
    unfold inn
    show _ = decide (((ring l).filter (hitE (px, Y))).length % 2 = 1)
    generalize ring l = L
    induction L with
    | nil => rfl
    | cons a L ih =>
      simp only [par]
      by_cases h : hitE (px, Y) a = true
      · rw [List.filter_cons_of_pos h, h, ih, List.length_cons]
        by_cases hh : (L.filter (hitE (px, Y))).length % 2 = 1
        · rw [decide_eq_true hh, decide_eq_false (by omega)]; rfl
        · rw [decide_eq_false hh, decide_eq_true (by omega)]; rfl
      · rw [List.filter_cons_of_neg h, ih]
        rw [Bool.not_eq_true] at h
        rw [h, Bool.false_xor]
  rcases key with ⟨k1, k2⟩ | ⟨k1, k2⟩
  · left; exact ⟨by rw [e2]; exact decide_eq_false (by omega), by rw [e1]; exact k2⟩
  · right; exact ⟨by rw [e2]; exact decide_eq_true k1, by rw [e1]; exact k2⟩
end Go.Eng.Geo

/-
Plane geometry in whole numbers: parity and turns of a fence around a spot.
-/
namespace Go.Eng.Geo
theorem sc_inj {k : Int} (hk : 0 < k) {a b : Pt} (h : sc k a = sc k b) : a = b := by
  have h1 : k * a.1 = k * b.1 := congrArg Prod.fst h
  have h2 : k * a.2 = k * b.2 := congrArg Prod.snd h
  exact Prod.ext (Int.eq_of_mul_eq_mul_left (by omega) h1) (Int.eq_of_mul_eq_mul_left (by omega) h2)
theorem Simple_sc {k : Int} (hk : 0 < k) {l : List Pt} (S : Simple l) : Simple (l.map (sc k)) where
  nd := nodup_map S.nd fun _ _ _ _ hne h => hne (sc_inj hk h)
  sep := by
    intro e he f hf h1 h2 h3 hm
    rw [ring_map] at he hf
    obtain ⟨e, he', rfl⟩ := List.mem_map.1 he
    obtain ⟨f, hf', rfl⟩ := List.mem_map.1 hf
    exact S.sep e he' f hf' (fun q => h1 (by rw [q])) (fun q => h2 (by show sc k e.2 = sc k f.1; rw [q])) (fun q => h3 (by show sc k f.2 = sc k e.1; rw [q])) (meets_sc hk hm)
  adj := by
    intro e he f hf h1 h2
    rw [ring_map] at he hf
    obtain ⟨e, he', rfl⟩ := List.mem_map.1 he
    obtain ⟨f, hf', rfl⟩ := List.mem_map.1 hf
    have := S.adj e he' f hf' (fun q => h1 (by rw [q])) (sc_inj hk h2)
    exact ⟨fun h => this.1 (onb_sc hk h), fun h => this.2 (onb_sc hk h)⟩
theorem wE_sc {k : Int} (hk : 0 < k) (s : Pt) (e : Pt × Pt) : wE (sc k s) (sc k e.1, sc k e.2) = wE s e := by
  unfold wE
  rw [hit_sc hk]
  have : (sc k e.1).2 ≤ (sc k e.2).2 ↔ e.1.2 ≤ e.2.2 := ⟨cle hk, mle hk⟩
  simp only [this]
theorem turns_sc {k : Int} (hk : 0 < k) (l : List Pt) (s : Pt) : turns (l.map (sc k)) (sc k s) = turns l s := by
  unfold turns
  rw [ring_map, isum_map]
  exact isum_congr fun e _ => wE_sc hk s e

def rz (b : Bool) : Int := if b then 1 else 0
/-- the same with signs -/
theorem edge_w {s t : Pt} {e : Pt × Pt} (hst : s.2 ≤ t.2) (hm : ¬ meetE e (s, t)) : wE s e - wE t e = rz (Rb s t e.2) - rz (Rb s t e.1) := by
  have hx := edge_x hst hm
  have ht : ∀ c : Pt, Rb s t c = true → s.2 < c.2 ∧ c.2 ≤ t.2 := fun c h => by
    have := of_decide_eq_true h; exact ⟨this.1, this.2.1⟩
  have y1 : hitE s e = true → min e.1.2 e.2.2 ≤ s.2 ∧ s.2 < max e.1.2 e.2.2 := hit_y
  have y2 : hitE t e = true → min e.1.2 e.2.2 ≤ t.2 ∧ t.2 < max e.1.2 e.2.2 := hit_y
  have t1 := ht e.1; have t2 := ht e.2
  unfold wE rz
  cases h1 : hitE s e <;> cases h2 : hitE t e <;> cases h3 : Rb s t e.1 <;> cases h4 : Rb s t e.2 <;> rw [h1, h2, h3, h4] at hx <;>
    simp only [h1, h2, h3, h4, forall_const, Bool.false_eq_true, false_implies] at y1 y2 t1 t2 <;> (first | exact absurd hx (by decide) | skip) <;>
    by_cases hu : e.1.2 ≤ e.2.2 <;> simp [hu] <;> omega
theorem turns_inv' (l : List Pt) (s t : Pt) (hst : s.2 ≤ t.2) (h : ∀ e ∈ ring l, ¬ meetE e (s, t)) : turns l s = turns l t := by
  have h1 : isum (fun e => wE s e - wE t e) (ring l) = 0 := by
    rw [isum_congr (g := fun e => rz (Rb s t e.2) - rz (Rb s t e.1)) fun e he => edge_w hst (h e he)]
    exact isum_ring (fun c => rz (Rb s t c)) l
  rw [isum_sub] at h1
  unfold turns; omega

/-- a number that is greater than how wide any edge is -/
def wide : List (Pt × Pt) → Int
  | [] => 2
  | e :: l => wide l + (e.2.1 - e.1.1).natAbs
theorem wide_two (l : List (Pt × Pt)) : 2 ≤ wide l := by
  induction l with
  | nil => exact Int.le_refl _
  | cons e l ih => simp only [wide]; omega
theorem wide_spec (l : List (Pt × Pt)) (e : Pt × Pt) (he : e ∈ l) : (e.2.1 - e.1.1).natAbs < wide l := by
  induction l with
  | nil => simp at he
  | cons f l ih =>
    simp only [wide]
    have := wide_two l
    rcases List.mem_cons.1 he with rfl | he
    · omega
    · have := ih he; omega
/-- a product of how high the edges are -/
def tall : List (Pt × Pt) → Int
  | [] => 1
  | e :: l => (if e.2.2 = e.1.2 then 1 else ((e.2.2 - e.1.2).natAbs : Int)) * tall l
theorem tall_pos (l : List (Pt × Pt)) : 0 < tall l := by
  induction l with
  | nil => exact Int.one_pos
  | cons e l ih =>
    simp only [tall]
    refine pp ?_ ih
    split <;> omega
theorem tall_dvd (l : List (Pt × Pt)) (e : Pt × Pt) (he : e ∈ l) (hne : e.2.2 ≠ e.1.2) : ∃ q, tall l = (e.2.2 - e.1.2) * q := by
  induction l with
  | nil => simp at he
  | cons f l ih =>
    simp only [tall]
    rcases List.mem_cons.1 he with rfl | he
    · rw [if_neg hne]
      by_cases h : e.1.2 < e.2.2
      · exact ⟨tall l, by rw [show ((e.2.2 - e.1.2).natAbs : Int) = e.2.2 - e.1.2 by omega]⟩
      · exact ⟨- tall l, by rw [show ((e.2.2 - e.1.2).natAbs : Int) = -(e.2.2 - e.1.2) by omega, Int.neg_mul, Int.mul_neg]⟩
    · obtain ⟨q, hq⟩ := ih he
      refine ⟨(if f.2.2 = f.1.2 then 1 else ((f.2.2 - f.1.2).natAbs : Int)) * q, ?_⟩
      rw [hq, ← Int.mul_assoc, ← Int.mul_assoc, Int.mul_comm _ (e.2.2 - e.1.2)]

theorem near {ax ay bx b_y px py M : Int} (hM : 2 ≤ M) (hw : (bx - ax).natAbs < M) (hn : ¬ onb ax ay bx b_y px py) :
    ¬ meetsP (M * ax) (M * ay) (M * bx) (M * b_y) (M * px) (M * py) (M * px) (M * py + 1) := by
  have h0 : 0 < M := by omega
  have e1 : sd (M * ax) (M * ay) (M * bx) (M * b_y) (M * px) (M * py) = M * (M * sd ax ay bx b_y px py) := by unfold sd; grind
  have e2 : sd (M * ax) (M * ay) (M * bx) (M * b_y) (M * px) (M * py + 1) = M * (M * sd ax ay bx b_y px py + (bx - ax)) := by unfold sd; grind
  have e3 : sd (M * px) (M * py) (M * px) (M * py + 1) (M * ax) (M * ay) = M * (px - ax) := by unfold sd; grind
  have e4 : sd (M * px) (M * py) (M * px) (M * py + 1) (M * bx) (M * b_y) = M * (px - bx) := by unfold sd; grind
  have hle : ∀ x y : Int, M * x ≤ M * y + 1 → x ≤ y := by
    intro x y h
    by_cases q : x ≤ y
    · exact q
    · have := mle h0 (show y + 1 ≤ x by omega)
      rw [Int.mul_add] at this; omega
  have hle' : ∀ x y : Int, M * x + 1 ≤ M * y → x ≤ y := fun x y h => cle h0 (by omega)
  have hn0 : ¬ (ax = px ∧ ay = py) := fun h => hn (by rw [h.1, h.2]; exact onb_refl_l ..)
  have hn1 : ¬ (bx = px ∧ b_y = py) := fun h => hn (by rw [h.1, h.2]; exact onb_refl_r ..)
  rintro (h | h | h | h | ⟨h, h'⟩)
  · exact hn (onb_sc h0 h)
  · obtain ⟨c, b1, b2, b3, b4⟩ := h
    rw [e2] at c
    have c : M * sd ax ay bx b_y px py + (bx - ax) = 0 := by
      rcases zero_or c with q | q
      · omega
      · exact q
    have s0 : sd ax ay bx b_y px py = 0 := by
      by_cases q : 1 ≤ sd ax ay bx b_y px py
      · have := mle h0 q; omega
      · by_cases q' : sd ax ay bx b_y px py ≤ -1
        · have := mle h0 q'; omega
        · omega
    rw [s0, Int.mul_zero] at c
    have hbx : bx = ax := by omega
    refine hn ⟨s0, ?_, ?_, ?_, ?_⟩
    · have : M * ax ≤ M * px ∨ M * bx ≤ M * px := by omega
      rcases this with q | q <;> have := cle h0 q <;> omega
    · have : M * px ≤ M * ax ∨ M * px ≤ M * bx := by omega
      rcases this with q | q <;> have := cle h0 q <;> omega
    · have : M * ay ≤ M * py + 1 ∨ M * b_y ≤ M * py + 1 := by omega
      rcases this with q | q <;> have := hle _ _ q <;> omega
    · have : M * py + 1 ≤ M * ay ∨ M * py + 1 ≤ M * b_y := by omega
      rcases this with q | q <;> have := hle' _ _ q <;> omega
  · obtain ⟨c, b1, b2, b3, b4⟩ := h
    rw [e3] at c
    have q1 : px - ax = 0 := by
      rcases zero_or c with q | q
      · omega
      · exact q
    have q2 : ay ≤ py := hle _ _ (by omega)
    have q3 : py ≤ ay := cle h0 (by omega)
    exact hn0 ⟨by omega, by omega⟩
  · obtain ⟨c, b1, b2, b3, b4⟩ := h
    rw [e4] at c
    have q1 : px - bx = 0 := by
      rcases zero_or c with q | q
      · omega
      · exact q
    have q2 : b_y ≤ py := hle _ _ (by omega)
    have q3 : py ≤ b_y := cle h0 (by omega)
    exact hn1 ⟨by omega, by omega⟩
  · rw [e1, e2] at h
    by_cases q : 1 ≤ sd ax ay bx b_y px py
    · have a1 := mle h0 q
      have := pp (pp h0 (show 0 < M * sd ax ay bx b_y px py by omega)) (pp h0 (show 0 < M * sd ax ay bx b_y px py + (bx - ax) by omega))
      omega
    · by_cases q' : sd ax ay bx b_y px py ≤ -1
      · have a1 := mle h0 q'
        have := nn (pn h0 (show M * sd ax ay bx b_y px py < 0 by omega)) (pn h0 (show M * sd ax ay bx b_y px py + (bx - ax) < 0 by omega))
        omega
      · have s0 : sd ax ay bx b_y px py = 0 := by omega
        rw [s0, Int.mul_zero, Int.mul_zero, Int.zero_mul] at h
        omega

/-- a fence goes round a spot that is not on its edges once or not at all; once just if it is within -/
theorem turns_inn (l : List Pt) (S : Simple l) (p : Pt) (hp : ∀ e ∈ ring l, ¬ onE e p) : (inn l p = false ∧ turns l p = 0) ∨ (inn l p = true ∧ (turns l p = 1 ∨ turns l p = -1)) := by
  have hM := wide_two (ring l)
  have h0 : 0 < wide (ring l) := by omega
  generalize hMd : wide (ring l) = M at hM h0
  have hnm : ∀ e ∈ ring (l.map (sc M)), ¬ meetE e (sc M p, (M * p.1, M * p.2 + 1)) := by
    intro e he
    rw [ring_map] at he
    obtain ⟨e, he', rfl⟩ := List.mem_map.1 he
    exact near hM (by rw [← hMd]; exact wide_spec _ e he') (hp e he')
  have a1 := inn_inv (l.map (sc M)) (sc M p) (M * p.1, M * p.2 + 1) hnm
  have a2 := turns_inv' (l.map (sc M)) (sc M p) (M * p.1, M * p.2 + 1) (by show M * p.2 ≤ M * p.2 + 1; omega) hnm
  rw [inn_sc h0] at a1
  rw [turns_sc h0] at a2
  have S1 := Simple_sc h0 S
  have k0 := tall_pos (ring (l.map (sc M)))
  have hdv := tall_dvd (ring (l.map (sc M)))
  generalize tall (ring (l.map (sc M))) = K at k0 hdv
  have S2 := Simple_sc k0 S1
  have b1 := inn_sc k0 (l.map (sc M)) (M * p.1, M * p.2 + 1)
  have b2 := turns_sc k0 (l.map (sc M)) (M * p.1, M * p.2 + 1)
  have hcor : ∀ c : Pt, K * (M * c.2) ≠ K * (M * p.2 + 1) := by
    intro c h
    have h1 : M * c.2 = M * p.2 + 1 := Int.eq_of_mul_eq_mul_left (by omega) h
    have h2 : M * (c.2 - p.2) = 1 := by rw [Int.mul_sub]; omega
    by_cases q : 1 ≤ c.2 - p.2
    · have := mle h0 q; omega
    · have := mle h0 (show c.2 - p.2 ≤ 0 by omega); omega
  have key := turns_gen _ S2 (K * (M * p.1)) (K * (M * p.2 + 1)) (by
    intro f hf
    rw [ring_map, ring_map] at hf
    obtain ⟨e, he, rfl⟩ := List.mem_map.1 hf
    obtain ⟨e, he, rfl⟩ := List.mem_map.1 he
    exact ⟨hcor e.1, hcor e.2⟩) (by
    intro f hf cr
    rw [ring_map] at hf
    obtain ⟨e, he, rfl⟩ := List.mem_map.1 hf
    have hne : e.2.2 ≠ e.1.2 := by
      intro h
      unfold crossY sc at cr
      simp only [h] at cr
      omega
    obtain ⟨q, hq⟩ := hdv e he hne
    refine ⟨K * e.1.1 + q * (e.2.1 - e.1.1) * (M * p.2 + 1 - e.1.2), ?_⟩
    unfold sdE sd sc
    simp only
    rw [hq]
    grind)
  have c1 : inn ((l.map (sc M)).map (sc K)) (K * (M * p.1), K * (M * p.2 + 1)) = inn l p := b1.trans a1.symm
  have c2 : turns ((l.map (sc M)).map (sc K)) (K * (M * p.1), K * (M * p.2 + 1)) = turns l p := b2.trans a2.symm
  rw [c1, c2] at key
  exact key
end Go.Eng.Geo

/-
Fences: what the code asks of two ways and a spot is what plane geometry says.
-/
namespace Go.Eng
open Go Geo
set_option linter.unusedVariables false
set_option linter.unusedSimpArgs false

def pt (s : api_Spot) : Pt := (s.X, s.Y)
def pte (e : api_Spot × api_Spot) : Pt × Pt := (pt e.1, pt e.2)
/-- a spot that is not far -/
def InB (s : api_Spot) : Prop := (-20000 ≤ s.X ∧ s.X ≤ 20000) ∧ (-20000 ≤ s.Y ∧ s.Y ≤ 20000)
/-- a right spot -/
def InS (s : api_Spot) : Prop := (-10000 ≤ s.X ∧ s.X ≤ 10000) ∧ (-10000 ≤ s.Y ∧ s.Y ≤ 10000)
theorem InS.inB {s : api_Spot} (h : InS s) : InB s := by unfold InS at h; unfold InB; omega
theorem pt_inj {a b : api_Spot} (h : pt a = pt b) : a = b := by
  cases a; cases b
  simp only [pt, Prod.mk.injEq] at h
  rw [h.1, h.2]
theorem spot_eq {a b : api_Spot} : (decide (a.X = b.X) && (decide (a.Y = b.Y) && true)) = true ↔ a = b := by
  cases a; cases b
  simp
theorem mul_bd {x y m k : Int} (hx : -m ≤ x ∧ x ≤ m) (hy : -k ≤ y ∧ y ≤ k) : -(m * k) ≤ x * y ∧ x * y ≤ m * k := by
  have h1 : x.natAbs ≤ m.natAbs := by omega
  have h2 : y.natAbs ≤ k.natAbs := by omega
  have h3 := Nat.mul_le_mul h1 h2
  rw [← Int.natAbs_mul, ← Int.natAbs_mul] at h3
  have h4 : 0 ≤ m * k := PP (by omega) (by omega)
  omega
theorem wmul {x y : Int} (hx : -40000 ≤ x ∧ x ≤ 40000) (hy : -40000 ≤ y ∧ y ≤ 40000) : IntKind.wrap .i64 (x * y) = x * y ∧ -1600000000 ≤ x * y ∧ x * y ≤ 1600000000 := by
  have := mul_bd hx hy
  exact ⟨wrap64 (by omega) (by omega), by omega, by omega⟩
theorem side_wrap {a b s : api_Spot} (ha : InB a) (hb : InB b) (hs : InB s) :
    (IntKind.wrap .i64 ((IntKind.wrap .i64 ((IntKind.wrap .i64 (b.X - a.X)) * (IntKind.wrap .i64 (s.Y - a.Y)))) - (IntKind.wrap .i64 ((IntKind.wrap .i64 (b.Y - a.Y)) * (IntKind.wrap .i64 (s.X - a.X)))))) = sd a.X a.Y b.X b.Y s.X s.Y := by
  obtain ⟨a1, a2⟩ := ha; obtain ⟨b1, b2⟩ := hb; obtain ⟨s1, s2⟩ := hs
  rw [wrap64 (n := b.X - a.X) (by omega) (by omega), wrap64 (n := s.Y - a.Y) (by omega) (by omega), wrap64 (n := b.Y - a.Y) (by omega) (by omega), wrap64 (n := s.X - a.X) (by omega) (by omega)]
  have m1 := wmul (x := b.X - a.X) (y := s.Y - a.Y) (by omega) (by omega)
  have m2 := wmul (x := b.Y - a.Y) (y := s.X - a.X) (by omega) (by omega)
  rw [m1.1, m2.1, wrap64 (by omega) (by omega)]
  rfl
theorem imin_eq (a b : Int) : imin a b = min a b := by unfold imin; split <;> omega
theorem imax_eq (a b : Int) : imax a b = max a b := by unfold imax; split <;> omega
instance (ax ay bx b_y sx sy : Int) : Decidable (onb ax ay bx b_y sx sy) := by unfold onb; infer_instance
instance (ax ay bx b_y cx cy dx dy : Int) : Decidable (meetsP ax ay bx b_y cx cy dx dy) := by unfold meetsP; infer_instance
def onB (e : api_Spot × api_Spot) (s : api_Spot) : Bool := decide (onb e.1.X e.1.Y e.2.X e.2.Y s.X s.Y)
def meB (e f : api_Spot × api_Spot) : Bool := decide (meetsP e.1.X e.1.Y e.2.X e.2.Y f.1.X f.1.Y f.2.X f.2.Y)
theorem onB_iff {e : api_Spot × api_Spot} {s : api_Spot} : onB e s = true ↔ onE (pte e) (pt s) := by unfold onB; rw [decide_eq_true_iff]; exact Iff.rfl
theorem meB_iff {e f : api_Spot × api_Spot} : meB e f = true ↔ meetE (pte e) (pte f) := by unfold meB; rw [decide_eq_true_iff]; exact Iff.rfl

theorem on_eq {a b s : api_Spot} (ha : InB a) (hb : InB b) (hs : InB s) : place_on a b s = some (onB (a, b) s) := by
  unfold place_on place_on_x1 place_side onB onb
  simp only [Option.bind_some, side_wrap ha hb hs, imin_eq, imax_eq]
  by_cases h0 : sd a.X a.Y b.X b.Y s.X s.Y = 0 <;> by_cases h1 : min a.X b.X ≤ s.X <;> by_cases h2 : s.X ≤ max a.X b.X <;> by_cases h3 : min a.Y b.Y ≤ s.Y <;>
    by_cases h4 : s.Y ≤ max a.Y b.Y <;> simp only [h0, h1, h2, h3, h4, decide_true, decide_false, cond_true, cond_false, Option.bind_some, and_true, and_false, and_self, true_and, false_and]

theorem cmpI_mul {x y : Int} : decide (IntKind.wrap .i64 (cmpI x 0 * cmpI y 0) < 0) = decide (x * y < 0) := by
  rw [Bool.eq_iff_iff, decide_eq_true_iff, decide_eq_true_iff]
  unfold cmpI
  by_cases h1 : x < 0 <;> by_cases h2 : 0 < x <;> by_cases h3 : y < 0 <;> by_cases h4 : 0 < y <;> (try omega)
  · have := nn h1 h3; simp only [h1, h3, if_true]; constructor <;> intro h <;> first | exact absurd h (by decide) | omega
  · have := np h1 h4; simp only [h1, h3, h4, if_true, if_false]; constructor <;> intro _ <;> first | decide | omega
  · have e : y = 0 := by omega
    subst e; simp only [h1, if_true, Int.mul_zero]; constructor <;> intro h <;> first | exact absurd h (by decide) | omega
  · have := pn h2 h3; simp only [h1, h2, h3, if_true, if_false]; constructor <;> intro _ <;> first | decide | omega
  · have := pp h2 h4; simp only [h1, h2, h3, h4, if_true, if_false]; constructor <;> intro h <;> first | exact absurd h (by decide) | omega
  · have e : y = 0 := by omega
    subst e; simp only [h1, h2, if_true, if_false, Int.mul_zero]; constructor <;> intro h <;> first | exact absurd h (by decide) | omega
  all_goals
    have e : x = 0 := by omega
    subst e
    simp only [Int.zero_mul, Int.lt_irrefl, if_false]
    constructor <;> intro h <;> first | (exact absurd h (by decide)) | omega
theorem or4 (a b c d : Bool) : (cond a (some true) (cond b (some true) (cond c (some true) (some d)))) = some (a || b || c || d) := by cases a <;> cases b <;> cases c <;> rfl

theorem meets_eq {a b c d : api_Spot} (ha : InB a) (hb : InB b) (hc : InB c) (hd : InB d) : place_meets a b c d = some (meB (a, b) (c, d)) := by
  unfold place_meets place_meets_x1 place_meets_x2 place_side
  simp only [on_eq ha hb hc, on_eq ha hb hd, on_eq hc hd ha, on_eq hc hd hb, Option.bind_some, or4, side_wrap ha hb hc, side_wrap ha hb hd, side_wrap hc hd ha, side_wrap hc hd hb, cmpInt_eq, cmpI_mul]
  unfold meB meetsP onB
  simp only
  by_cases h1 : onb a.X a.Y b.X b.Y c.X c.Y <;> by_cases h2 : onb a.X a.Y b.X b.Y d.X d.Y <;> by_cases h3 : onb c.X c.Y d.X d.Y a.X a.Y <;> by_cases h4 : onb c.X c.Y d.X d.Y b.X b.Y <;>
    simp only [h1, h2, h3, h4, decide_true, decide_false, Bool.or_true, Bool.true_or, Bool.or_false, cond_true, cond_false, true_or, or_true, false_or]
  by_cases h5 : sd a.X a.Y b.X b.Y c.X c.Y * sd a.X a.Y b.X b.Y d.X d.Y < 0 <;> by_cases h6 : sd c.X c.Y d.X d.Y a.X a.Y * sd c.X c.Y d.X d.Y b.X b.Y < 0 <;>
    simp [h5, h6]

theorem rside_eq {a b s : api_Spot} (ha : InB a) (hb : InB b) (hs : InB s) : fleetref2_side a b s = some (cmpI (sd a.X a.Y b.X b.Y s.X s.Y) 0) := by
  unfold fleetref2_side fleetref2_minus fleetref2_cross
  simp only [Option.bind_some, side_wrap ha hb hs, sign_eq]
theorem dot_on {ax ay bx b_y sx sy : Int} : onb ax ay bx b_y sx sy ↔ (sd ax ay bx b_y sx sy = 0 ∧ (ax - sx) * (bx - sx) + (ay - sy) * (b_y - sy) ≤ 0) := by
  constructor
  · rintro ⟨h0, h1, h2, h3, h4⟩
    refine ⟨h0, ?_⟩
    have key : ∀ x y z : Int, min x y ≤ z → z ≤ max x y → (x - z) * (y - z) ≤ 0 := by
      intro x y z h1 h2
      by_cases e : x = z
      · rw [e, Int.sub_self, Int.zero_mul]; exact Int.le_refl _
      by_cases h : x ≤ z
      · exact NP (by omega) (by omega)
      · exact PN (by omega) (by omega)
    have p1 := key _ _ _ h1 h2
    have p2 := key _ _ _ h3 h4
    omega
  · rintro ⟨h0, h1⟩
    have e : ((ax - sx) * (bx - sx)) * ((ay - sy) * (b_y - sy)) = ((ax - sx) * (b_y - sy)) * ((ax - sx) * (b_y - sy)) := by
      have h2 : (ax - sx) * (b_y - sy) = (ay - sy) * (bx - sx) := by unfold sd at h0; grind
      have : ((ax - sx) * (b_y - sy)) * ((ax - sx) * (b_y - sy)) = ((ax - sx) * (b_y - sy)) * ((ay - sy) * (bx - sx)) := by rw [← h2]
      rw [this]; grind
    have e2 := sq_nn ((ax - sx) * (b_y - sy))
    have p1 : (ax - sx) * (bx - sx) ≤ 0 := by
      by_cases h : (ax - sx) * (bx - sx) ≤ 0
      · exact h
      · have := pn (show 0 < (ax - sx) * (bx - sx) by omega) (show (ay - sy) * (b_y - sy) < 0 by omega)
        omega
    have p2 : (ay - sy) * (b_y - sy) ≤ 0 := by
      by_cases h : (ay - sy) * (b_y - sy) ≤ 0
      · exact h
      · have := np (show (ax - sx) * (bx - sx) < 0 by omega) (show 0 < (ay - sy) * (b_y - sy) by omega)
        omega
    have key : ∀ x y z : Int, (x - z) * (y - z) ≤ 0 → min x y ≤ z ∧ z ≤ max x y := by
      intro x y z h
      by_cases h1 : z < x ∧ z < y
      · have := pp (show 0 < x - z by omega) (show 0 < y - z by omega); omega
      · by_cases h2 : x < z ∧ y < z
        · have := nn (show x - z < 0 by omega) (show y - z < 0 by omega); omega
        · omega
    have k1 := key _ _ _ p1
    have k2 := key _ _ _ p2
    exact ⟨h0, k1.1, k1.2, k2.1, k2.2⟩
theorem ron_eq {a b s : api_Spot} (ha : InB a) (hb : InB b) (hs : InB s) : fleetref2_onWay a b s = some (onB (a, b) s) := by
  unfold fleetref2_onWay fleetref2_onWay_x1 fleetref2_minus fleetref2_dot
  simp only [rside_eq ha hb hs, Option.bind_some]
  have h0 : decide (cmpI (sd a.X a.Y b.X b.Y s.X s.Y) 0 = 0) = decide (sd a.X a.Y b.X b.Y s.X s.Y = 0) := by
    rw [Bool.eq_iff_iff, decide_eq_true_iff, decide_eq_true_iff]; unfold cmpI; (repeat' split) <;> omega
  rw [h0]
  obtain ⟨a1, a2⟩ := ha; obtain ⟨b1, b2⟩ := hb; obtain ⟨s1, s2⟩ := hs
  rw [wrap64 (n := a.X - s.X) (by omega) (by omega), wrap64 (n := b.X - s.X) (by omega) (by omega), wrap64 (n := a.Y - s.Y) (by omega) (by omega), wrap64 (n := b.Y - s.Y) (by omega) (by omega)]
  have m1 := wmul (x := a.X - s.X) (y := b.X - s.X) (by omega) (by omega)
  have m2 := wmul (x := a.Y - s.Y) (y := b.Y - s.Y) (by omega) (by omega)
  rw [m1.1, m2.1, wrap64 (by omega) (by omega)]
  unfold onB
  simp only [dot_on]
  by_cases h1 : sd a.X a.Y b.X b.Y s.X s.Y = 0 <;> simp [h1]
theorem touches_eq {a b c d : api_Spot} (ha : InB a) (hb : InB b) (hc : InB c) (hd : InB d) : fleetref2_touches a b c d = some (meB (a, b) (c, d)) := by
  unfold fleetref2_touches fleetref2_touches_x1 fleetref2_touches_x2
  simp only [ron_eq ha hb hc, ron_eq ha hb hd, ron_eq hc hd ha, ron_eq hc hd hb, Option.bind_some, or4, rside_eq ha hb hc, rside_eq ha hb hd, rside_eq hc hd ha, rside_eq hc hd hb, cmpI_mul]
  unfold meB meetsP onB
  simp only
  by_cases h1 : onb a.X a.Y b.X b.Y c.X c.Y <;> by_cases h2 : onb a.X a.Y b.X b.Y d.X d.Y <;> by_cases h3 : onb c.X c.Y d.X d.Y a.X a.Y <;> by_cases h4 : onb c.X c.Y d.X d.Y b.X b.Y <;>
    simp only [h1, h2, h3, h4, decide_true, decide_false, Bool.or_true, Bool.true_or, Bool.or_false, cond_true, cond_false, true_or, or_true, false_or]
  by_cases h5 : sd a.X a.Y b.X b.Y c.X c.Y * sd a.X a.Y b.X b.Y d.X d.Y < 0 <;> by_cases h6 : sd c.X c.Y d.X d.Y a.X a.Y * sd c.X c.Y d.X d.Y b.X b.Y < 0 <;>
    simp [h5, h6]

/-! ### Edges by number -/
theorem path_len {α} (z : α) : ∀ l : List α, (path z l).length = l.length
  | [] => rfl
  | [_] => rfl
  | a :: b :: l => by simp only [path, List.length_cons]; rw [path_len z (b :: l)]; rfl
theorem ring_len {α} (l : List α) : (ring l).length = l.length := by
  cases l with
  | nil => rfl
  | cons a l => exact path_len a (a :: l)
theorem path_get {α} (z : α) : ∀ (l : List α) (i : Nat) (h : i < l.length), (path z l)[i]? = some (l[i], (l[i + 1]?).getD z)
  | [], i, h => by simp at h
  | [a], i, h => by
    have : i = 0 := by simp at h; exact h
    subst this; rfl
  | a :: b :: l, 0, h => rfl
  | a :: b :: l, i + 1, h => by
    simp only [path, List.getElem?_cons_succ]
    rw [path_get z (b :: l) i (by simpa using h)]
    rfl
theorem ring_get {α} {l : List α} {i : Nat} (h : i < l.length) : (ring l)[i]'(by rw [ring_len]; exact h) = (l[i], l[(i + 1) % l.length]'(Nat.mod_lt _ (by omega))) := by
  have key : (ring l)[i]? = some (l[i], l[(i + 1) % l.length]'(Nat.mod_lt _ (by omega))) := by
    cases l with
    | nil => simp at h
    | cons a l =>
      show (path a (a :: l))[i]? = _
      rw [path_get a (a :: l) i h]
      congr 2
      by_cases hh : i + 1 < (a :: l).length
      · rw [List.getElem?_eq_getElem hh, Option.getD_some]
        congr 1
        exact (Nat.mod_eq_of_lt hh).symm
      · have e : i + 1 = (a :: l).length := by omega
        rw [List.getElem?_eq_none (by omega), Option.getD_none]
        have e2 : (i + 1) % (a :: l).length = 0 := by rw [e, Nat.mod_self]
        simp only [e2, List.getElem_cons_zero]
  rw [List.getElem?_eq_getElem (by rw [ring_len]; exact h)] at key
  exact Option.some.inj key
theorem edge_at {l : List api_Spot} (hl : (l.length : Int) ≤ 1000000) {i : Nat} (h : i < l.length) :
    at? l (i : Int) = some ((ring l)[i]'(by rw [ring_len]; exact h)).1 ∧ at? l ((IntKind.wrap .i64 ((i : Int) + 1)).tmod (l.length : Int)) = some ((ring l)[i]'(by rw [ring_len]; exact h)).2 ∧ (!((l.length : Int) == 0)) = true := by
  rw [ring_get h]
  have hne : ((l.length : Int) == 0) = false := by rw [beq_eq_false_iff_ne]; omega
  refine ⟨at_nat h, ?_, by rw [hne]; rfl⟩
  rw [wrap64 (by omega) (by omega)]
  have e : ((i : Int) + 1).tmod (l.length : Int) = (((i + 1) % l.length : Nat) : Int) := by
    rw [Int.tmod_eq_emod_of_nonneg (show 0 ≤ (i : Int) + 1 by omega)]
    simp
  rw [e, at_nat (Nat.mod_lt _ (by omega))]
theorem ring_pt (l : List api_Spot) : ring (l.map pt) = (ring l).map pte := ring_map pt l
theorem ring_mem {l : List api_Spot} {e : api_Spot × api_Spot} (h : e ∈ ring l) : e.1 ∈ l ∧ e.2 ∈ l := by
  obtain ⟨i, hi, rfl⟩ := List.mem_iff_getElem.1 h
  rw [ring_get (by rw [ring_len] at hi; exact hi)]
  exact ⟨List.getElem_mem _, List.getElem_mem _⟩

/-! ### Search loops -/
theorem range_from {α ρ : Type} {l : List α} {f : Int → Option (Int ⊕ ρ)} (g : Nat → α → Option ρ) (done : ρ) (hl : (l.length : Int) ≤ 9223372036854775807)
    (hf : ∀ (i : Nat) (h : i < l.length), f i = some (match g i l[i] with | none => .inl (IntKind.wrap .i64 (i + 1)) | some r => .inr r)) (hd : f l.length = some (.inr done)) (k : Nat) (hk : k ≤ l.length) :
    loopO f k = some ((scan g k (l.drop k)).getD done) := by
  generalize hn : l.length - k = n
  induction n generalizing k with
  | zero =>
    have : k = l.length := by omega
    subst this
    rw [loopO_eq, hd, List.drop_length]
    rfl
  | succ n ih =>
    have hi : k < l.length := by omega
    rw [loopO_eq, hf k hi, drop_get hi]
    simp only [scan]
    cases hg : g k l[k] with
    | some r => rfl
    | none =>
      simp only [Option.bind_some]
      rw [wrap64 (by omega) (by omega)]
      exact ih (k + 1) (by omega) (by omega)
/-- a search: is there a number from k on for which p says true -/
theorem scan_ex {α ρ : Type} {p : Nat → α → Bool} {r d : ρ} : ∀ {l : List α} {k : Nat}, (scan (fun i x => cond (p i x) (some r) none) k l).getD d = open Classical in if ∃ (i : Nat) (x : α), l[i]? = some x ∧ p (k + i) x = true then r else d
  | [], k => by simp [scan]
  | y :: l, k => by
    simp only [scan]
    cases h : p k y with
    | true =>
      simp only [cond_true, Option.getD_some]
      rw [if_pos ⟨0, y, rfl, by simpa using h⟩]
    | false =>
      simp only [cond_false]
      rw [scan_ex (l := l) (k := k + 1)]
      congr 1
      apply propext
      constructor
      · rintro ⟨i, x, h1, h2⟩
        exact ⟨i + 1, x, by simpa using h1, by rw [show k + (i + 1) = k + 1 + i by omega]; exact h2⟩
      · rintro ⟨i, x, h1, h2⟩
        cases i with
        | zero =>
          simp only [List.getElem?_cons_zero, Option.some.injEq] at h1
          subst h1
          rw [Nat.add_zero, h] at h2
          cases h2
        | succ i => exact ⟨i, x, by simpa using h1, by rw [show k + 1 + i = k + (i + 1) by omega]; exact h2⟩
end Go.Eng

/-
Fences: the checks of both ways are the same; a right fence is simple.
-/
namespace Go.Eng
open Go Geo
open scoped Classical
set_option linter.unusedVariables false
set_option linter.unusedSimpArgs false

/-! ### Is a spot among others -/
def spB (v x : api_Spot) : Bool := decide (v.X = x.X) && (decide (v.Y = x.Y) && true)
theorem spB_iff {v x : api_Spot} : spB v x = true ↔ v = x := spot_eq
theorem scan_idx {v : api_Spot} : ∀ (l : List api_Spot) (k : Nat), ∃ r : Int, (match ((scan (fun i x => cond (spB v x) (some (Sum.inr (i : Int))) none) k l).getD (Sum.inl ()) : Unit ⊕ Int) with | .inl _ => (-1 : Int) | .inr i => i) = r ∧ (decide (0 ≤ r) = l.any (spB v))
  | [], k => ⟨-1, rfl, rfl⟩
  | x :: l, k => by
    simp only [scan, List.any_cons]
    cases spB v x with
    | true => exact ⟨k, rfl, by simp⟩
    | false => simpa using scan_idx (v := v) l (k + 1)
theorem contains_eq (l : List api_Spot) (v : api_Spot) (hl : (l.length : Int) ≤ 1000000) : slices_Contains_api_Spot_api_Spot l v = some (l.any (spB v)) := by
  unfold slices_Contains_api_Spot_api_Spot slices_Index_api_Spot_api_Spot
  rw [range_loop (l := l) (fun i x => cond (spB v x) (some (.inr (i : Int))) none) (.inl ()) (by omega)]
  · obtain ⟨r, h1, h2⟩ := scan_idx (v := v) l 0
    rw [← h2, ← h1]
    cases (scan (fun i x => cond (spB v x) (some (Sum.inr (i : Int))) none) 0 l).getD (Sum.inl () : Unit ⊕ Int) <;> rfl
  · intro i hi
    unfold slices_Index_api_Spot_api_Spot_x1
    have h : (i : Int) < l.length := by omega
    simp only [h, decide_true, cond_true, at_nat hi, Option.bind_some]
    show cond (spB v l[i]) _ _ = _
    cases spB v l[i] <;> rfl
  · unfold slices_Index_api_Spot_api_Spot_x1
    simp
theorem any_mem {l : List api_Spot} {v : api_Spot} : l.any (spB v) = true ↔ v ∈ l := by
  rw [List.any_eq_true]
  constructor
  · rintro ⟨x, h1, h2⟩; rw [spB_iff.1 h2]; exact h1
  · intro h; exact ⟨v, h, spB_iff.2 rfl⟩

/-! ### The first half of the checks -/
theorem inB_iff (s : api_Spot) : ((decide (-10000 ≤ s.X) && decide (s.X ≤ 10000)) && (decide (-10000 ≤ s.Y) && decide (s.Y ≤ 10000))) = true ↔ InS s := by
  unfold InS; simp
def Half1 (l : List api_Spot) : Unit ⊕ Int → Prop
  | .inl _ => (∀ s ∈ l, InS s) ∧ l.Nodup
  | .inr e => e ≠ 0
theorem half1 (f : api_Fence) (hl : f.Corners.length ≤ 200) :
    ∃ r, loopO (place_CheckFence_x1 f) 0 = some r ∧ loopO (fleetref2_CornersFault_x1 f.Corners) 0 = some r ∧ Half1 f.Corners r := by
  obtain ⟨key, l⟩ := f
  simp only at hl ⊢
  refine loop_two (fun i : Int => ∃ k : Nat, i = (k : Int) ∧ k ≤ l.length ∧ (∀ s ∈ l.take k, InS s) ∧ (l.take k).Nodup) (fun i => ((l.length : Int) - i).toNat) _ ?_ ⟨0, rfl, by omega, by simp, by simp⟩
  rintro i ⟨k, rfl, k1, k2, k3⟩
  unfold place_CheckFence_x1 fleetref2_CornersFault_x1
  by_cases hi : k < l.length
  · have hi' : (k : Int) < l.length := by omega
    have hs : sub? l 0 (k : Int) = some (l.take k) := by
      unfold sub?
      rw [if_pos (by omega)]
      simp
    simp only [hi', decide_true, cond_true, at_nat hi, Option.bind_some, isSpot_eq, SpotFault_eq, hs]
    by_cases hb : InS l[k]
    · simp only [(inB_iff _).2 hb, Bool.not_true, cond_false, cond_true, decide_true]
      rw [contains_eq _ _ (by simp; omega)]
      simp only [Option.bind_some]
      cases hc : (l.take k).any (spB l[k]) with
      | true => right; exact ⟨_, rfl, rfl, by show (6 : Int) ≠ 0; omega⟩
      | false =>
        left
        rw [wrap64 (by omega) (by omega)]
        have e : l.take (k + 1) = l.take k ++ [l[k]] := List.take_succ_eq_append_getElem hi
        refine ⟨_, rfl, rfl, ⟨k + 1, by omega, by omega, ?_, ?_⟩, by omega⟩
        · rw [e]
          intro s hs
          rcases List.mem_append.1 hs with h | h
          · exact k2 s h
          · rw [List.mem_singleton] at h; rw [h]; exact hb
        · rw [e, List.nodup_append]
          refine ⟨k3, by simp, fun a ha b hb' => ?_⟩
          rw [List.mem_singleton] at hb'
          subst hb'
          intro e'
          subst e'
          rw [any_mem.2 ha] at hc
          cases hc
    · have hb' : ((decide (-10000 ≤ l[k].X) && decide (l[k].X ≤ 10000)) && (decide (-10000 ≤ l[k].Y) && decide (l[k].Y ≤ 10000))) = false := by
        rw [← Bool.not_eq_true]; exact fun h => hb ((inB_iff _).1 h)
      right
      simp only [hb', Bool.not_false, cond_true, cond_false]
      exact ⟨.inr 1, rfl, rfl, by show (1 : Int) ≠ 0; omega⟩
  · have : k = l.length := by omega
    subst this
    right
    rw [List.take_length] at k2 k3
    exact ⟨.inl (), by simp, by simp, k2, k3⟩

/-! ### Crossed edges -/
def badP (n i k : Nat) (e f : api_Spot × api_Spot) : Bool :=
  (!decide (k = i + 1) && (!decide ((k + 1) % n = i) && meB e f)) || (decide (k = i + 1) && (onB e f.2 || onB f e.1)) || (decide ((k + 1) % n = i) && (onB e f.1 || onB f e.2))
noncomputable def innP (L : List (api_Spot × api_Spot)) (i : Nat) (e : api_Spot × api_Spot) : Bool :=
  decide (∃ (k : Nat) (x : api_Spot × api_Spot), i < k ∧ L[k]? = some x ∧ badP L.length i k e x = true)
theorem mod_int {k n : Nat} (hk : (k : Int) + 1 ≤ 1000000) {i : Nat} : decide ((IntKind.wrap .i64 ((k : Int) + 1)).tmod (n : Int) = (i : Int)) = decide ((k + 1) % n = i) := by
  rw [wrap64 (by omega) (by omega)]
  have e : ((k : Int) + 1).tmod (n : Int) = (((k + 1) % n : Nat) : Int) := by
    rw [Int.tmod_eq_emod_of_nonneg (show 0 ≤ (k : Int) + 1 by omega)]
    simp
  rw [e, Bool.eq_iff_iff, decide_eq_true_iff, decide_eq_true_iff]
  omega
theorem suc_int {i k : Nat} (hi : (i : Int) + 1 ≤ 1000000) : decide ((k : Int) = IntKind.wrap .i64 ((i : Int) + 1)) = decide (k = i + 1) := by
  rw [wrap64 (by omega) (by omega), Bool.eq_iff_iff, decide_eq_true_iff, decide_eq_true_iff]
  omega
theorem inb_ring {l : List api_Spot} (h : ∀ s ∈ l, InB s) {e : api_Spot × api_Spot} (he : e ∈ ring l) : InB e.1 ∧ InB e.2 := ⟨h _ (ring_mem he).1, h _ (ring_mem he).2⟩

theorem crossed_inner {l : List api_Spot} (hl : l.length ≤ 200) (hb : ∀ s ∈ l, InB s) {i : Nat} (hi : i < l.length) {e : api_Spot × api_Spot} (he : (ring l)[i]? = some e) :
    loopO (place_crossed_x2 l i e.1 e.2) (IntKind.wrap .i64 ((i : Int) + 1)) = some (cond (innP (ring l) i e) (.inr ()) (.inl ())) := by
  have hlen := ring_len l
  have he' : InB e.1 ∧ InB e.2 := inb_ring hb (List.mem_of_getElem? he)
  rw [wrap64 (by omega) (by omega), show ((i : Int) + 1) = ((i + 1 : Nat) : Int) by omega,
    range_from (l := ring l) (fun k x => cond (badP l.length i k e x) (some (.inr ())) none) (.inl ()) (by omega) ?_ ?_ (i + 1) (by omega), scan_ex]
  · unfold innP
    rw [hlen]
    congr 1
    have : (∃ (j : Nat) (x : api_Spot × api_Spot), ((ring l).drop (i + 1))[j]? = some x ∧ badP l.length i (i + 1 + j) e x = true) ↔ (∃ (k : Nat) (x : api_Spot × api_Spot), i < k ∧ (ring l)[k]? = some x ∧ badP l.length i k e x = true) := by
      constructor
      · rintro ⟨j, x, h1, h2⟩
        exact ⟨i + 1 + j, x, by omega, by rw [List.getElem?_drop] at h1; exact h1, h2⟩
      · rintro ⟨k, x, h0, h1, h2⟩
        exact ⟨k - (i + 1), x, by rw [List.getElem?_drop, show i + 1 + (k - (i + 1)) = k by omega]; exact h1, by rw [show i + 1 + (k - (i + 1)) = k by omega]; exact h2⟩
    by_cases h : ∃ (j : Nat) (x : api_Spot × api_Spot), ((ring l).drop (i + 1))[j]? = some x ∧ badP l.length i (i + 1 + j) e x = true
    · rw [if_pos h, decide_eq_true (this.1 h)]; rfl
    · rw [if_neg h, decide_eq_false (fun hh => h (this.2 hh))]; rfl
  · intro k hk
    have hk' : k < l.length := by omega
    obtain ⟨a1, a2, a3⟩ := edge_at (l := l) (by omega) hk'
    have hx := inb_ring hb (List.getElem_mem hk)
    generalize (ring l)[k] = x at a1 a2 hx
    unfold place_crossed_x2 place_crossed_x3 place_crossed_x4 place_crossed_x5
    have h : (k : Int) < l.length := by omega
    simp only [h, decide_true, cond_true, a1, a2, gd_true a3, Option.bind_some, suc_int (i := i) (k := k) (by omega), mod_int (i := i) (k := k) (n := l.length) (by omega),
      meets_eq he'.1 he'.2 hx.1 hx.2, on_eq he'.1 he'.2 hx.2, on_eq hx.1 hx.2 he'.1, on_eq he'.1 he'.2 hx.1, on_eq hx.1 hx.2 he'.2]
    unfold badP
    rw [show onB e x.2 = onB (e.1, e.2) x.2 from rfl, show onB x e.1 = onB (x.1, x.2) e.1 from rfl, show meB e x = meB (e.1, e.2) (x.1, x.2) from rfl, show onB e x.1 = onB (e.1, e.2) x.1 from rfl, show onB x e.2 = onB (x.1, x.2) e.2 from rfl]
    cases decide (k = i + 1) <;> cases decide ((k + 1) % l.length = i) <;> cases meB (e.1, e.2) (x.1, x.2) <;> cases onB (e.1, e.2) x.2 <;> cases onB (x.1, x.2) e.1 <;> cases onB (e.1, e.2) x.1 <;> cases onB (x.1, x.2) e.2 <;> rfl
  · rw [hlen]
    unfold place_crossed_x2
    simp
theorem crossed_eq {l : List api_Spot} (hl : l.length ≤ 200) (hb : ∀ s ∈ l, InB s) :
    place_crossed l = some (decide (∃ (i : Nat) (e : api_Spot × api_Spot), (ring l)[i]? = some e ∧ ∃ (k : Nat) (x : api_Spot × api_Spot), i < k ∧ (ring l)[k]? = some x ∧ badP l.length i k e x = true)) := by
  have hlen := ring_len l
  unfold place_crossed
  rw [range_loop (l := ring l) (fun i e => cond (innP (ring l) i e) (some (.inr ())) none) (.inl ()) (by omega), scan_ex]
  · have hAB : (∃ (i : Nat) (x : api_Spot × api_Spot), (ring l)[i]? = some x ∧ innP (ring l) (0 + i) x = true) ↔ (∃ (i : Nat) (e : api_Spot × api_Spot), (ring l)[i]? = some e ∧ ∃ (k : Nat) (x : api_Spot × api_Spot), i < k ∧ (ring l)[k]? = some x ∧ badP l.length i k e x = true) := by
      simp only [Nat.zero_add, innP, decide_eq_true_iff, hlen]
    by_cases h : ∃ (i : Nat) (x : api_Spot × api_Spot), (ring l)[i]? = some x ∧ innP (ring l) (0 + i) x = true
    · rw [if_pos h, decide_eq_true (hAB.1 h)]; rfl
    · rw [if_neg h, decide_eq_false (fun hh => h (hAB.2 hh))]; rfl
  · intro i hi
    have hi' : i < l.length := by omega
    obtain ⟨a1, a2, a3⟩ := edge_at (l := l) (by omega) hi'
    have key := crossed_inner hl hb hi' (e := (ring l)[i]) (List.getElem?_eq_getElem hi)
    unfold place_crossed_x1
    have h : (i : Int) < l.length := by omega
    simp only [h, decide_true, cond_true, a1, a2, gd_true a3, Option.bind_some, key]
    cases innP (ring l) i (ring l)[i] <;> rfl
  · rw [hlen]
    unfold place_crossed_x1
    simp

def badR (i k : Nat) (e f : api_Spot × api_Spot) : Bool :=
  !decide (k = i) && cond (spB e.2 f.1) (onB e f.2 || onB f e.1) (cond (spB f.2 e.1) false (meB e f))
noncomputable def innR (L : List (api_Spot × api_Spot)) (i : Nat) (e : api_Spot × api_Spot) : Bool :=
  decide (∃ (k : Nat) (x : api_Spot × api_Spot), L[k]? = some x ∧ badR i k e x = true)
theorem redge_eq {l : List api_Spot} (hl : l.length ≤ 200) {i : Nat} (hi : i < l.length) : fleetref2_edge l (i : Int) = some (((ring l)[i]'(by rw [ring_len]; exact hi)).1, ((ring l)[i]'(by rw [ring_len]; exact hi)).2) := by
  obtain ⟨a1, a2, a3⟩ := edge_at (l := l) (by omega) hi
  unfold fleetref2_edge
  simp only [a1, a2, gd_true a3, Option.bind_some]
theorem rcrossed_inner {l : List api_Spot} (hl : l.length ≤ 200) (hb : ∀ s ∈ l, InB s) {i : Nat} (hi : i < l.length) {e : api_Spot × api_Spot} (he : (ring l)[i]? = some e) :
    loopO (fleetref2_CornersFault_x3 l i e.1 e.2) 0 = some (cond (innR (ring l) i e) (.inr ()) (.inl ())) := by
  have hlen := ring_len l
  have he' : InB e.1 ∧ InB e.2 := inb_ring hb (List.mem_of_getElem? he)
  rw [range_loop (l := ring l) (fun k x => cond (badR i k e x) (some (.inr ())) none) (.inl ()) (by omega) ?_ ?_, scan_ex]
  · unfold innR
    have hAB : (∃ (j : Nat) (x : api_Spot × api_Spot), (ring l)[j]? = some x ∧ badR i (0 + j) e x = true) ↔ (∃ (k : Nat) (x : api_Spot × api_Spot), (ring l)[k]? = some x ∧ badR i k e x = true) := by
      simp only [Nat.zero_add]
    by_cases h : ∃ (j : Nat) (x : api_Spot × api_Spot), (ring l)[j]? = some x ∧ badR i (0 + j) e x = true
    · rw [if_pos h, decide_eq_true (hAB.1 h)]; rfl
    · rw [if_neg h, decide_eq_false (fun hh => h (hAB.2 hh))]; rfl
  · intro k hk
    have hk' : k < l.length := by omega
    have hx := inb_ring hb (List.getElem_mem hk)
    unfold fleetref2_CornersFault_x3 fleetref2_CornersFault_x4 fleetref2_CornersFault_x5
    rw [redge_eq hl hk']
    generalize (ring l)[k] = x at hx
    have h : (k : Int) < l.length := by omega
    have hki : decide ((k : Int) = (i : Int)) = decide (k = i) := by
      rw [Bool.eq_iff_iff, decide_eq_true_iff, decide_eq_true_iff]; omega
    simp only [h, decide_true, cond_true, Option.bind_some, hki, touches_eq he'.1 he'.2 hx.1 hx.2, ron_eq he'.1 he'.2 hx.2, ron_eq hx.1 hx.2 he'.1]
    rw [show (decide (e.2.X = x.1.X) && (decide (e.2.Y = x.1.Y) && true)) = spB e.2 x.1 from rfl, show (decide (x.2.X = e.1.X) && (decide (x.2.Y = e.1.Y) && true)) = spB x.2 e.1 from rfl]
    unfold badR
    rw [show onB e x.2 = onB (e.1, e.2) x.2 from rfl, show onB x e.1 = onB (x.1, x.2) e.1 from rfl, show meB e x = meB (e.1, e.2) (x.1, x.2) from rfl]
    cases decide (k = i) <;> cases spB e.2 x.1 <;> cases spB x.2 e.1 <;> cases meB (e.1, e.2) (x.1, x.2) <;> cases onB (e.1, e.2) x.2 <;> cases onB (x.1, x.2) e.1 <;> rfl
  · rw [hlen]
    unfold fleetref2_CornersFault_x3
    simp
theorem rcrossed_eq {l : List api_Spot} (hl : l.length ≤ 200) (hb : ∀ s ∈ l, InB s) :
    loopO (fleetref2_CornersFault_x2 l) 0 = some (cond (decide (∃ (i : Nat) (e : api_Spot × api_Spot), (ring l)[i]? = some e ∧ ∃ (k : Nat) (x : api_Spot × api_Spot), (ring l)[k]? = some x ∧ badR i k e x = true)) (.inr ()) (.inl ())) := by
  have hlen := ring_len l
  rw [range_loop (l := ring l) (fun i e => cond (innR (ring l) i e) (some (.inr ())) none) (.inl ()) (by omega), scan_ex]
  · have hAB : (∃ (i : Nat) (x : api_Spot × api_Spot), (ring l)[i]? = some x ∧ innR (ring l) (0 + i) x = true) ↔ (∃ (i : Nat) (e : api_Spot × api_Spot), (ring l)[i]? = some e ∧ ∃ (k : Nat) (x : api_Spot × api_Spot), (ring l)[k]? = some x ∧ badR i k e x = true) := by
      simp only [Nat.zero_add, innR, decide_eq_true_iff]
    by_cases h : ∃ (i : Nat) (x : api_Spot × api_Spot), (ring l)[i]? = some x ∧ innR (ring l) (0 + i) x = true
    · rw [if_pos h, decide_eq_true (hAB.1 h)]; rfl
    · rw [if_neg h, decide_eq_false (fun hh => h (hAB.2 hh))]; rfl
  · intro i hi
    have hi' : i < l.length := by omega
    have key := rcrossed_inner hl hb hi' (e := (ring l)[i]) (List.getElem?_eq_getElem hi)
    unfold fleetref2_CornersFault_x2
    have h : (i : Int) < l.length := by omega
    simp only [h, decide_true, cond_true, redge_eq hl hi', Option.bind_some, key]
    cases innR (ring l) i (ring l)[i] <;> rfl
  · rw [hlen]
    unfold fleetref2_CornersFault_x2
    simp

/-- edges have nothing in common but the corner between two that are next to each other -/
def Qs (l : List api_Spot) : Prop :=
  (∀ e ∈ ring l, ∀ f ∈ ring l, e ≠ f → e.2 ≠ f.1 → f.2 ≠ e.1 → meB e f = false) ∧ (∀ e ∈ ring l, ∀ f ∈ ring l, e ≠ f → e.2 = f.1 → onB e f.2 = false ∧ onB f e.1 = false)

section
variable {l : List api_Spot} (nd : l.Nodup)
include nd
theorem ring_nodup : (ring l).Nodup := nodup_of_map (g := Prod.fst) (by rw [ring_fst]; exact nd)
theorem ring_inj {i k : Nat} {e f : api_Spot × api_Spot} (hi : (ring l)[i]? = some e) (hk : (ring l)[k]? = some f) : e = f ↔ i = k := by
  have hn := ring_nodup nd
  obtain ⟨i1, i2⟩ := List.getElem?_eq_some_iff.1 hi
  obtain ⟨k1, k2⟩ := List.getElem?_eq_some_iff.1 hk
  constructor
  · intro h
    exact (List.getElem_inj hn).1 (by rw [i2, k2, h])
  · intro h; subst h; rw [← i2, ← k2]
theorem ring_next {i k : Nat} {e f : api_Spot × api_Spot} (hi : (ring l)[i]? = some e) (hk : (ring l)[k]? = some f) : e.2 = f.1 ↔ (i + 1) % l.length = k := by
  obtain ⟨i1, i2⟩ := List.getElem?_eq_some_iff.1 hi
  obtain ⟨k1, k2⟩ := List.getElem?_eq_some_iff.1 hk
  have i1' : i < l.length := by rw [ring_len] at i1; exact i1
  have k1' : k < l.length := by rw [ring_len] at k1; exact k1
  rw [ring_get i1'] at i2
  rw [ring_get k1'] at k2
  rw [← i2, ← k2]
  exact List.getElem_inj nd
theorem refQ : (∃ (i : Nat) (e : api_Spot × api_Spot), (ring l)[i]? = some e ∧ ∃ (k : Nat) (x : api_Spot × api_Spot), (ring l)[k]? = some x ∧ badR i k e x = true) ↔ ¬ Qs l := by
  constructor
  · rintro ⟨i, e, hi, k, f, hk, hb⟩ ⟨q1, q2⟩
    have me := List.mem_of_getElem? hi
    have mf := List.mem_of_getElem? hk
    unfold badR at hb
    simp only [Bool.and_eq_true, Bool.not_eq_true', decide_eq_false_iff_not] at hb
    obtain ⟨hne, hb⟩ := hb
    have hef : e ≠ f := fun h => hne ((ring_inj nd hi hk).1 h).symm
    cases h1 : spB e.2 f.1 with
    | true =>
      rw [h1] at hb
      have := q2 e me f mf hef (spB_iff.1 h1)
      rw [this.1, this.2] at hb; cases hb
    | false =>
      rw [h1] at hb
      cases h2 : spB f.2 e.1 with
      | true => rw [h2] at hb; cases hb
      | false =>
        rw [h2] at hb
        have := q1 e me f mf hef (fun h => by rw [spB_iff.2 h] at h1; cases h1) (fun h => by rw [spB_iff.2 h] at h2; cases h2)
        simp only [cond_false] at hb
        rw [this] at hb; cases hb
  · intro hq
    refine Classical.byContradiction fun hn => hq ⟨fun e me f mf hef h1 h2 => ?_, fun e me f mf hef h1 => ?_⟩
    all_goals
      obtain ⟨i, hi⟩ := List.mem_iff_getElem?.1 me
      obtain ⟨k, hk⟩ := List.mem_iff_getElem?.1 mf
      have hik : ¬ k = i := fun h => hef ((ring_inj nd hi hk).2 h.symm)
      have hb : badR i k e f = false := by
        rw [← Bool.not_eq_true]; exact fun h => hn ⟨i, e, hi, k, f, hk, h⟩
      unfold badR at hb
      rw [decide_eq_false hik] at hb
      simp only [Bool.not_false, Bool.true_and] at hb
    · have e1 : spB e.2 f.1 = false := by rw [← Bool.not_eq_true]; exact fun h => h1 (spB_iff.1 h)
      have e2 : spB f.2 e.1 = false := by rw [← Bool.not_eq_true]; exact fun h => h2 (spB_iff.1 h)
      rw [e1, e2] at hb
      exact hb
    · rw [spB_iff.2 h1] at hb
      simp only [cond_true, Bool.or_eq_false_iff] at hb
      exact hb
theorem progQ : (∃ (i : Nat) (e : api_Spot × api_Spot), (ring l)[i]? = some e ∧ ∃ (k : Nat) (x : api_Spot × api_Spot), i < k ∧ (ring l)[k]? = some x ∧ badP l.length i k e x = true) ↔ ¬ Qs l := by
  have hsuc : ∀ {i k : Nat} {e f : api_Spot × api_Spot}, (ring l)[i]? = some e → (ring l)[k]? = some f → i < k → ((i + 1) % l.length = k ↔ k = i + 1) := by
    intro i k e f hi hk hlt
    have k1 := (List.getElem?_eq_some_iff.1 hk).1
    rw [ring_len] at k1
    rw [Nat.mod_eq_of_lt (by omega)]
    omega
  constructor
  · rintro ⟨i, e, hi, k, f, hlt, hk, hb⟩ ⟨q1, q2⟩
    have me := List.mem_of_getElem? hi
    have mf := List.mem_of_getElem? hk
    have hef : e ≠ f := fun h => by have := (ring_inj nd hi hk).1 h; omega
    have n1 : e.2 = f.1 ↔ k = i + 1 := (ring_next nd hi hk).trans (hsuc hi hk hlt)
    have n2 : f.2 = e.1 ↔ (k + 1) % l.length = i := ring_next nd hk hi
    unfold badP at hb
    simp only [Bool.or_eq_true, Bool.and_eq_true, Bool.not_eq_true', decide_eq_false_iff_not, decide_eq_true_iff] at hb
    rcases hb with (⟨h1, h2, h⟩ | ⟨h1, h⟩) | ⟨h1, h⟩
    · rw [q1 e me f mf hef (fun h => h1 (n1.1 h)) (fun h => h2 (n2.1 h))] at h; cases h
    · have := q2 e me f mf hef (n1.2 h1)
      rw [this.1, this.2] at h; rcases h with h | h <;> cases h
    · have := q2 f mf e me hef.symm (n2.2 h1)
      rw [this.1, this.2] at h; rcases h with h | h <;> cases h
  · intro hq
    refine Classical.byContradiction fun hn => hq ⟨fun e me f mf hef h1 h2 => ?_, fun e me f mf hef h1 => ?_⟩
    all_goals
      obtain ⟨i, hi⟩ := List.mem_iff_getElem?.1 me
      obtain ⟨k, hk⟩ := List.mem_iff_getElem?.1 mf
      have hik : ¬ i = k := fun h => hef ((ring_inj nd hi hk).2 h)
      have hb : ∀ {i k : Nat} {e f : api_Spot × api_Spot}, (ring l)[i]? = some e → (ring l)[k]? = some f → i < k → badP l.length i k e f = false := by
        intro i k e f hi hk hlt
        rw [← Bool.not_eq_true]; exact fun h => hn ⟨i, e, hi, k, f, hlt, hk, h⟩
      have n1 := ring_next nd hi hk
      have n2 := ring_next nd hk hi
    · by_cases hlt : i < k
      · have := hb hi hk hlt
        unfold badP at this
        have a1 : ¬ k = i + 1 := fun h => h1 (n1.2 ((hsuc hi hk hlt).2 h))
        have a2 : ¬ (k + 1) % l.length = i := fun h => h2 (n2.2 h)
        rw [decide_eq_false a1, decide_eq_false a2] at this
        simpa using this
      · have hlt : k < i := by omega
        have := hb hk hi hlt
        unfold badP at this
        have a1 : ¬ i = k + 1 := fun h => h2 (n2.2 ((hsuc hk hi hlt).2 h))
        have a2 : ¬ (i + 1) % l.length = k := fun h => h1 (n1.2 h)
        rw [decide_eq_false a1, decide_eq_false a2] at this
        have t : meB f e = false := by simpa using this
        rw [← Bool.not_eq_true] at t ⊢
        exact fun h => t (meB_iff.2 (meetE_comm (meB_iff.1 h)))
    · have h1' := n1.1 h1
      by_cases hlt : i < k
      · have := hb hi hk hlt
        unfold badP at this
        have a1 : k = i + 1 := (hsuc hi hk hlt).1 h1'
        rw [decide_eq_true a1] at this
        simp only [Bool.not_true, Bool.false_and, Bool.false_or, Bool.true_and, Bool.or_eq_false_iff] at this
        exact this.1
      · have hlt : k < i := by omega
        have := hb hk hi hlt
        unfold badP at this
        rw [decide_eq_true h1'] at this
        simp only [Bool.not_true, Bool.false_and, Bool.and_false, Bool.false_or, Bool.true_and, Bool.or_eq_false_iff] at this
        exact ⟨this.2.2, this.2.1⟩
end

/-- corners of a right fence -/
def FRight (l : List api_Spot) : Prop := 3 ≤ l.length ∧ l.length ≤ 200 ∧ (∀ s ∈ l, InB s) ∧ Simple (l.map pt)
/-- corners of a right fence, all of them right spots -/
def FIn (l : List api_Spot) : Prop := FRight l ∧ ∀ s ∈ l, InS s
theorem simple_of {l : List api_Spot} (nd : l.Nodup) (hq : Qs l) : Simple (l.map pt) where
  nd := nodup_map nd fun _ _ _ _ hne h => hne (pt_inj h)
  sep := by
    intro e he f hf h1 h2 h3 hm
    rw [ring_pt] at he hf
    obtain ⟨e', he', rfl⟩ := List.mem_map.1 he
    obtain ⟨f', hf', rfl⟩ := List.mem_map.1 hf
    have := hq.1 e' he' f' hf' (fun h => h1 (by rw [h])) (fun h => h2 (by show pt e'.2 = pt f'.1; rw [h])) (fun h => h3 (by show pt f'.2 = pt e'.1; rw [h]))
    rw [meB_iff.2 hm] at this; cases this
  adj := by
    intro e he f hf h1 h2
    rw [ring_pt] at he hf
    obtain ⟨e', he', rfl⟩ := List.mem_map.1 he
    obtain ⟨f', hf', rfl⟩ := List.mem_map.1 hf
    have := hq.2 e' he' f' hf' (fun h => h1 (by rw [h])) (pt_inj h2)
    obtain ⟨t1, t2⟩ := this
    exact ⟨fun h => (by rw [onB_iff.2 h] at t1; cases t1), fun h => (by rw [onB_iff.2 h] at t2; cases t2)⟩

/-- the checks of corners, both ways -/
theorem corners_both (f : api_Fence) (hk : (f.Key.length : Int) ≤ 9223372036854775807) :
    ∃ c, fleetref2_CornersFault f.Corners = some c ∧ (c = 0 → FIn f.Corners) ∧ place_CheckFence f = some (cond (keyB f.Key) c 5) := by
  unfold place_CheckFence
  rw [Key_eq _ hk]
  have key : ∃ c, fleetref2_CornersFault f.Corners = some c ∧ (c = 0 → FIn f.Corners) ∧
      (cond (decide ((f.Corners.length : Int) < 3)) (some 3) (cond (decide (200 < (f.Corners.length : Int))) (some 2) ((loopO (place_CheckFence_x1 f) 0).bind fun x => match x with
          | .inl _ => (place_crossed f.Corners).bind fun vr17 => cond (vr17) (some 13) (some 0)
          | .inr vx1_1 => some vx1_1))) = some c := by
    unfold fleetref2_CornersFault
    by_cases h3 : (f.Corners.length : Int) < 3
    · exact ⟨3, by simp [h3], by omega, by simp [h3]⟩
    by_cases h200 : (200 : Int) < f.Corners.length
    · exact ⟨2, by simp [h3, h200], by omega, by simp [h3, h200]⟩
    have hl : f.Corners.length ≤ 200 := by omega
    obtain ⟨r, r1, r2, r3⟩ := half1 f hl
    simp only [h3, h200, decide_false, cond_false, r1, r2, Option.bind_some]
    cases r with
    | inr e => exact ⟨e, rfl, fun h => absurd h r3, rfl⟩
    | inl _ =>
      obtain ⟨hs, nd⟩ := r3
      have hb : ∀ s ∈ f.Corners, InB s := fun s h => (hs s h).inB
      simp only
      rw [crossed_eq hl hb, rcrossed_eq hl hb]
      have p := progQ nd
      have q := refQ nd
      by_cases hq : Qs f.Corners
      · rw [decide_eq_false (fun h => p.1 h hq), decide_eq_false (fun h => q.1 h hq)]
        exact ⟨0, rfl, fun _ => ⟨⟨by omega, hl, hb, simple_of nd hq⟩, hs⟩, rfl⟩
      · rw [decide_eq_true (p.2 hq), decide_eq_true (q.2 hq)]
        exact ⟨13, rfl, by omega, rfl⟩
  obtain ⟨c, c1, c2, c3⟩ := key
  refine ⟨c, c1, c2, ?_⟩
  cases h : keyB f.Key
  · rfl
  · simp only [Option.bind_some, Bool.not_true, cond_false, cond_true]; exact c3
end Go.Eng

/-
Where a spot is: both ways.
-/
namespace Go.Eng
open Go Geo
open scoped Classical
set_option linter.unusedVariables false
set_option linter.unusedSimpArgs false

theorem scan_any {α ρ : Type} {p : α → Bool} {r d : ρ} : ∀ {l : List α} {k : Nat}, (scan (fun _ x => cond (p x) (some r) none) k l).getD d = cond (l.any p) r d
  | [], _ => by simp [scan]
  | y :: l, k => by
    simp only [scan, List.any_cons]
    cases p y with
    | true => simp
    | false => simp only [cond_false, Bool.false_or]; exact scan_any (l := l)
theorem edges_on {l : List api_Spot} (hl : l.length ≤ 200) (hb : ∀ s ∈ l, InB s) {p : api_Spot} (hp : InB p) :
    place_edges_f1_place_where_1 l p = some ((ring l).any fun e => onB e p) := by
  have hlen := ring_len l
  unfold place_edges_f1_place_where_1
  rw [range_loop (l := ring l) (fun _ e => cond (onB e p) (some (.inr ())) none) (.inl ()) (by omega), scan_any]
  · cases (ring l).any fun e => onB e p <;> rfl
  · intro i hi
    have hi' : i < l.length := by omega
    obtain ⟨a1, a2, a3⟩ := edge_at (l := l) (by omega) hi'
    have hx := inb_ring hb (List.getElem_mem hi)
    generalize (ring l)[i] = x at a1 a2 hx
    unfold place_edges_f1_place_where_1_x1 place_where_1
    have h : (i : Int) < l.length := by omega
    simp only [h, decide_true, cond_true, a1, a2, gd_true a3, Option.bind_some, on_eq hx.1 hx.2 hp]
    rw [show onB x p = onB (x.1, x.2) p from rfl]
    cases onB (x.1, x.2) p <;> rfl
  · rw [hlen]
    unfold place_edges_f1_place_where_1_x1
    simp
def htB (p : api_Spot) (e : api_Spot × api_Spot) : Bool := hitE (pt p) (pte e)
theorem where2_eq {a b p : api_Spot} (ha : InB a) (hb : InB b) (hp : InB p) (s : Bool) : place_where_2 a b p s = some (s ^^ htB p (a, b)) := by
  unfold place_where_2 place_where_2_x1 place_where_2_x2 place_where_2_x3 place_side
  have key : ∀ {u v : api_Spot}, InB u → InB v → (cond (decide (u.Y ≤ p.Y)) (cond (decide (p.Y < v.Y)) (some (decide (0 < sd u.X u.Y v.X v.Y p.X p.Y))) (some false)) (some false)) = some (decide (hitU u.X u.Y v.X v.Y p.X p.Y)) := by
    intro u v hu hv
    unfold hitU
    by_cases h1 : u.Y ≤ p.Y <;> by_cases h2 : p.Y < v.Y <;> by_cases h3 : 0 < sd u.X u.Y v.X v.Y p.X p.Y <;> simp [h1, h2, h3]
  have fin : ∀ h : Bool, (cond h (some (!s)) (some s)) = some (s ^^ h) := by intro h; cases h <;> cases s <;> rfl
  by_cases hc : b.Y < a.Y
  · have ht : htB p (a, b) = decide (hitU b.X b.Y a.X a.Y p.X p.Y) := hit_dn (a := pt a) (b := pt b) (p := pt p) hc
    simp only [hc, decide_true, cond_true, Option.bind_some, side_wrap hb ha hp, key hb ha, ← ht, fin]
  · have ht : htB p (a, b) = decide (hitU a.X a.Y b.X b.Y p.X p.Y) := hit_up (a := pt a) (b := pt b) (p := pt p) (by show a.Y ≤ b.Y; omega)
    simp only [hc, decide_false, cond_false, Option.bind_some, side_wrap ha hb hp, key ha hb, ← ht, fin]
theorem fold_par {α} (f : α → Bool) (l : List α) (s : Bool) : l.foldl (fun s e => s ^^ f e) s = (s ^^ par f l) := by
  induction l generalizing s with
  | nil => simp [par]
  | cons a l ih => rw [List.foldl_cons, ih]; simp only [par]; rw [Bool.xor_assoc]
theorem inn_pt (l : List api_Spot) (p : api_Spot) : inn (l.map pt) (pt p) = par (htB p) (ring l) := by
  unfold inn
  rw [ring_pt, par_map]
  rfl
theorem edges_in {l : List api_Spot} (hl : l.length ≤ 200) (hb : ∀ s ∈ l, InB s) {p : api_Spot} (hp : InB p) :
    place_edges_f1_place_where_2 l p false = some (inn (l.map pt) (pt p)) := by
  have hlen := ring_len l
  unfold place_edges_f1_place_where_2
  have := (gather_loop (l := ring l) (f := place_edges_f1_place_where_2_x1 l p) (fun (s : Bool) i => (s, i)) (fun s e => s ^^ htB p e) id (fun _ _ => True) (s0 := false) (by omega) (fun i hi s _ => by
    have hi' : i < l.length := by omega
    obtain ⟨a1, a2, a3⟩ := edge_at (l := l) (by omega) hi'
    have hx := inb_ring hb (List.getElem_mem hi)
    generalize (ring l)[i] = x at a1 a2 hx
    unfold place_edges_f1_place_where_2_x1
    have h : (i : Int) < l.length := by omega
    simp only [h, decide_true, cond_true, a1, a2, gd_true a3, Option.bind_some, where2_eq hx.1 hx.2 hp]
    exact ⟨trivial, trivial⟩) (fun s _ => by rw [hlen]; unfold place_edges_f1_place_where_2_x1; simp) trivial).1
  rw [this, fold_par, inn_pt]
  simp
/-- where a spot is -/
noncomputable def wher (l : List api_Spot) (p : api_Spot) : Int := if ∃ e ∈ ring l, onB e p = true then 1 else if inn (l.map pt) (pt p) = true then 2 else 0
theorem where_eq {l : List api_Spot} (hl : l.length ≤ 200) (hb : ∀ s ∈ l, InB s) {p : api_Spot} (hp : InB p) : place_where l p = some (wher l p) := by
  unfold place_where wher
  rw [edges_on hl hb hp, edges_in hl hb hp]
  by_cases h : ∃ e ∈ ring l, onB e p = true
  · rw [if_pos h, (List.any_eq_true).2 h]; rfl
  · rw [if_neg h]
    have : ((ring l).any fun e => onB e p) = false := by rw [← Bool.not_eq_true, List.any_eq_true]; exact h
    rw [this]
    cases hh : inn (l.map pt) (pt p) <;> rfl

/-! ### The document's way: how often the edges go round -/
theorem wE_pt {a b p : api_Spot} : wE (pt p) (pte (a, b)) = if a.Y ≤ p.Y ∧ p.Y < b.Y ∧ 0 < sd a.X a.Y b.X b.Y p.X p.Y then 1 else if p.Y < a.Y ∧ b.Y ≤ p.Y ∧ sd a.X a.Y b.X b.Y p.X p.Y < 0 then -1 else 0 := by
  unfold wE
  by_cases hc : b.Y < a.Y
  · have ht : hitE (pt p) (pte (a, b)) = decide (hitU b.X b.Y a.X a.Y p.X p.Y) := hit_dn (a := pt a) (b := pt b) (p := pt p) hc
    have hs := sd_swap a.X a.Y b.X b.Y p.X p.Y
    have e0 : ¬ ((pte (a, b)).1.2 ≤ (pte (a, b)).2.2) := by show ¬ (a.Y ≤ b.Y); omega
    rw [ht, if_neg e0]
    have hU : hitU b.X b.Y a.X a.Y p.X p.Y ↔ (b.Y ≤ p.Y ∧ p.Y < a.Y ∧ 0 < -sd a.X a.Y b.X b.Y p.X p.Y) := by unfold hitU; rw [hs]
    have e1 : ¬ (a.Y ≤ p.Y ∧ p.Y < b.Y ∧ 0 < sd a.X a.Y b.X b.Y p.X p.Y) := by omega
    rw [if_neg e1]
    by_cases h : hitU b.X b.Y a.X a.Y p.X p.Y
    · rw [decide_eq_true h, if_pos rfl, if_pos (by have := hU.1 h; omega)]
    · rw [decide_eq_false h, if_neg (by simp), if_neg (fun h' => h (hU.2 (by omega)))]
  · have ht : hitE (pt p) (pte (a, b)) = decide (hitU a.X a.Y b.X b.Y p.X p.Y) := hit_up (a := pt a) (b := pt b) (p := pt p) (by show a.Y ≤ b.Y; omega)
    have e0 : (pte (a, b)).1.2 ≤ (pte (a, b)).2.2 := by show a.Y ≤ b.Y; omega
    rw [ht, if_pos e0]
    have e1 : ¬ (p.Y < a.Y ∧ b.Y ≤ p.Y ∧ sd a.X a.Y b.X b.Y p.X p.Y < 0) := by omega
    rw [if_neg e1]
    by_cases h : hitU a.X a.Y b.X b.Y p.X p.Y
    · rw [decide_eq_true h, if_pos rfl]; exact (if_pos h).symm
    · rw [decide_eq_false h, if_neg (by simp)]; exact (if_neg h).symm
theorem isum_append {α} (f : α → Int) (l m : List α) : isum f (l ++ m) = isum f l + isum f m := by
  induction l with
  | nil => simp [isum]
  | cons a l ih => simp only [List.cons_append, isum, ih]; omega
theorem wE_bd (s : Pt) (e : Pt × Pt) : -1 ≤ wE s e ∧ wE s e ≤ 1 := by unfold wE; (repeat' split) <;> omega
theorem isum_bd {α} {f : α → Int} (h : ∀ e, -1 ≤ f e ∧ f e ≤ 1) (l : List α) : -(l.length : Int) ≤ isum f l ∧ isum f l ≤ l.length := by
  induction l with
  | nil => simp [isum]
  | cons a l ih => have := h a; simp only [isum, List.length_cons]; omega
theorem x3_eq {a b p : api_Spot} (ha : InB a) (hb : InB b) (hp : InB p) : fleetref2_WhereOf_x3 p a b = some (decide (a.Y ≤ p.Y ∧ p.Y < b.Y ∧ 0 < sd a.X a.Y b.X b.Y p.X p.Y)) := by
  unfold fleetref2_WhereOf_x3
  rw [rside_eq ha hb hp]
  have h0 : decide (0 < cmpI (sd a.X a.Y b.X b.Y p.X p.Y) 0) = decide (0 < sd a.X a.Y b.X b.Y p.X p.Y) := by
    rw [Bool.eq_iff_iff, decide_eq_true_iff, decide_eq_true_iff]; unfold cmpI; (repeat' split) <;> omega
  simp only [Option.bind_some, h0]
  by_cases h1 : a.Y ≤ p.Y <;> by_cases h2 : p.Y < b.Y <;> by_cases h3 : 0 < sd a.X a.Y b.X b.Y p.X p.Y <;> simp [h1, h2, h3]
theorem x4_eq {a b p : api_Spot} (ha : InB a) (hb : InB b) (hp : InB p) : fleetref2_WhereOf_x4 p a b = some (decide (p.Y < a.Y ∧ b.Y ≤ p.Y ∧ sd a.X a.Y b.X b.Y p.X p.Y < 0)) := by
  unfold fleetref2_WhereOf_x4
  rw [rside_eq ha hb hp]
  have h0 : decide (cmpI (sd a.X a.Y b.X b.Y p.X p.Y) 0 < 0) = decide (sd a.X a.Y b.X b.Y p.X p.Y < 0) := by
    rw [Bool.eq_iff_iff, decide_eq_true_iff, decide_eq_true_iff]; unfold cmpI; (repeat' split) <;> omega
  simp only [Option.bind_some, h0]
  by_cases h1 : p.Y < a.Y <;> by_cases h2 : b.Y ≤ p.Y <;> by_cases h3 : sd a.X a.Y b.X b.Y p.X p.Y < 0 <;> simp [h1, h2, h3]
theorem turns_pt (l : List api_Spot) (p : api_Spot) : turns (l.map pt) (pt p) = isum (fun e => wE (pt p) (pte e)) (ring l) := by
  unfold turns
  rw [ring_pt, isum_map]
theorem whereof_loop {l : List api_Spot} (hl : l.length ≤ 200) (hb : ∀ s ∈ l, InB s) {p : api_Spot} (hp : InB p) :
    Ok (loopO (fleetref2_WhereOf_x1 l p) (0, 0)) (fun r => match r with | .inl v => v = turns (l.map pt) (pt p) ∧ ∀ e ∈ ring l, onB e p = false | .inr _ => ∃ e ∈ ring l, onB e p = true) := by
  have hlen := ring_len l
  refine loop_ok (fun s : Int × Int => ∃ k : Nat, s.2 = (k : Int) ∧ k ≤ l.length ∧ s.1 = isum (fun e => wE (pt p) (pte e)) ((ring l).take k) ∧ ∀ e ∈ (ring l).take k, onB e p = false) (fun s => ((l.length : Int) - s.2).toNat) ?_ ⟨0, rfl, by omega, rfl, by simp⟩
  rintro ⟨v, i⟩ ⟨k, rfl, k1, k2, k3⟩
  simp only at k2
  unfold fleetref2_WhereOf_x1 fleetref2_WhereOf_x2
  by_cases hi : k < l.length
  · have hi' : (k : Int) < l.length := by omega
    have hk : k < (ring l).length := by omega
    have hx := inb_ring hb (List.getElem_mem hk)
    have hm := List.getElem_mem hk
    have ht : (ring l).take (k + 1) = (ring l).take k ++ [(ring l)[k]] := List.take_succ_eq_append_getElem hk
    have bd := isum_bd (f := fun e => wE (pt p) (pte e)) (fun e => wE_bd _ _) ((ring l).take k)
    have hlk : (((ring l).take k).length : Int) ≤ 200 := by rw [List.length_take]; omega
    rw [← k2] at bd
    simp only [hi', decide_true, cond_true, redge_eq hl hi]
    generalize (ring l)[k] = x at hx hm ht
    simp only [Option.bind_some, ron_eq hx.1 hx.2 hp, x3_eq hx.1 hx.2 hp, x4_eq hx.1 hx.2 hp]
    cases ho : onB (x.1, x.2) p with
    | true => exact .some ⟨x, hm, ho⟩
    | false =>
      have hw := wE_pt (a := x.1) (b := x.2) (p := p)
      have hsum : isum (fun e => wE (pt p) (pte e)) ((ring l).take (k + 1)) = v + wE (pt p) (pte (x.1, x.2)) := by
        rw [ht, isum_append, ← k2]; simp [isum]
      have hall : ∀ e ∈ (ring l).take (k + 1), onB e p = false := by
        rw [ht]
        intro e he
        rcases List.mem_append.1 he with h | h
        · exact k3 e h
        · rw [List.mem_singleton] at h; rw [h]; exact ho
      have w1 : IntKind.wrap .i64 ((k : Int) + 1) = ((k + 1 : Nat) : Int) := by rw [wrap64 (by omega) (by omega)]; omega
      by_cases h3 : x.1.Y ≤ p.Y ∧ p.Y < x.2.Y ∧ 0 < sd x.1.X x.1.Y x.2.X x.2.Y p.X p.Y
      · rw [if_pos h3] at hw
        simp only [h3, decide_true, cond_true, cond_false, Option.bind_some, and_self]
        refine .some ⟨⟨k + 1, w1, by omega, ?_, hall⟩, by show ((l.length : Int) - IntKind.wrap .i64 ((k : Int) + 1)).toNat < _; rw [w1]; omega⟩
        show IntKind.wrap .i64 (v + 1) = _
        rw [wrap64 (by omega) (by omega), hsum, hw]
      · rw [if_neg h3] at hw
        rw [decide_eq_false h3]
        by_cases h4 : p.Y < x.1.Y ∧ x.2.Y ≤ p.Y ∧ sd x.1.X x.1.Y x.2.X x.2.Y p.X p.Y < 0
        · rw [if_pos h4] at hw
          rw [decide_eq_true h4]
          simp only [cond_true, cond_false, Option.bind_some]
          refine .some ⟨⟨k + 1, w1, by omega, ?_, hall⟩, by show ((l.length : Int) - IntKind.wrap .i64 ((k : Int) + 1)).toNat < _; rw [w1]; omega⟩
          show IntKind.wrap .i64 (v - 1) = _
          rw [wrap64 (by omega) (by omega), hsum, hw]; omega
        · rw [if_neg h4] at hw
          rw [decide_eq_false h4]
          simp only [cond_false, Option.bind_some]
          refine .some ⟨⟨k + 1, w1, by omega, ?_, hall⟩, by show ((l.length : Int) - IntKind.wrap .i64 ((k : Int) + 1)).toNat < _; rw [w1]; omega⟩
          show v = _
          rw [hsum, hw]; omega
  · have : k = l.length := by omega
    subst this
    rw [← hlen, List.take_length] at k2 k3
    have hi' : ¬ ((l.length : Int) < l.length) := by omega
    simp only [hi', decide_false, cond_false]
    exact .some ⟨by rw [turns_pt]; exact k2, k3⟩
theorem whereof_eq {l : List api_Spot} (hr : FRight l) {p : api_Spot} (hp : InB p) : fleetref2_WhereOf l p = some (wher l p) := by
  obtain ⟨h3, hl, hb, S⟩ := hr
  unfold fleetref2_WhereOf wher
  obtain ⟨r, r1, r2⟩ := whereof_loop hl hb hp
  rw [r1]
  cases r with
  | inr _ => rw [if_pos r2]; rfl
  | inl v =>
    obtain ⟨r2, r3⟩ := r2
    have hne : ¬ ∃ e ∈ ring l, onB e p = true := by
      rintro ⟨e, he, h⟩
      rw [r3 e he] at h; cases h
    rw [if_neg hne]
    have key := turns_inn (l.map pt) S (pt p) (by
      intro e he ho
      rw [ring_pt] at he
      obtain ⟨e', he', rfl⟩ := List.mem_map.1 he
      exact hne ⟨e', he', onB_iff.2 ho⟩)
    rw [← r2] at key
    simp only [Option.bind_some]
    rcases key with ⟨k1, k2⟩ | ⟨k1, k2⟩
    · rw [k1, k2]; rfl
    · have : ¬ v = 0 := by omega
      rw [k1, decide_eq_false this]; rfl
end Go.Eng

/-
The streams.
-/
namespace Go.Eng
open Go
set_option linter.unusedVariables false
set_option linter.unusedSimpArgs false

theorem wrap_I64 (n : Int) : I64 (IntKind.wrap .i64 n) := by
  unfold IntKind.wrap I64
  simp [IntKind.bits, IntKind.signed]
  split <;> omega

theorem Below_eq {x n : Int} (hx : I64 x) (hn : I64 n) : fleetmake_Below x n = some (if n < 1 then 0 else x % n) := by
  unfold I64 at hx hn
  unfold fleetmake_Below fleetmake_Below_x1
  by_cases h : n < 1
  · simp [h]
  · have h0 : (n == 0) = false := by simp; omega
    have e := Int.emod_eq_tmod (a := x) (b := n)
    have nn := Int.emod_nonneg x (show n ≠ 0 by omega)
    have lt := Int.emod_lt_of_pos x (show 0 < n by omega)
    simp only [h, decide_false, cond_false, h0, Bool.not_false, gd, cond_true, Option.bind_some, if_false]
    by_cases h3 : x.tmod n < 0
    · simp only [h3, decide_true, cond_true, Option.bind_some]
      split at e
      · omega
      · rw [wrap64 (by omega) (by omega)]
        congr 1
        omega
    · simp only [h3, decide_false, cond_false, Option.bind_some]
      congr 1
      split at e <;> omega
theorem Below_ok {x n : Int} (hx : I64 x) (hn : I64 n) : Ok (fleetmake_Below x n) (fun r => (1 ≤ n → 0 ≤ r ∧ r < n) ∧ (n < 1 → r = 0)) := by
  refine .of_eq (Below_eq hx hn) ⟨fun h => ?_, fun h => by simp [h]⟩
  rw [if_neg (by omega)]
  exact ⟨Int.emod_nonneg _ (by omega), Int.emod_lt_of_pos _ (by omega)⟩

/-- A stream whose numbers are of 64 bits, of which at most k were taken. -/
def StrOk (k : Nat) (s : fleetmake_Stream) : Prop := 0 ≤ s.at_ ∧ s.at_ ≤ k ∧ s.L.length ≤ 9223372036854775807 ∧ ∀ n ∈ s.L, I64 n
theorem StrOk.mono {k k' : Nat} {s : fleetmake_Stream} (h : StrOk k s) (hk : k ≤ k') : StrOk k' s := ⟨h.1, by have := h.2.1; omega, h.2.2⟩
/-- One number further. -/
abbrev nxt (s : fleetmake_Stream) : fleetmake_Stream := fleetmake_Stream.mk s.L (IntKind.wrap .i64 (s.at_ + 1))
theorem StrOk.nxt {k : Nat} {s : fleetmake_Stream} (h : StrOk k s) (hk : k < 1099511627776) : StrOk (k + 1) (nxt s) := by
  obtain ⟨h1, h2, h3, h4⟩ := h
  refine ⟨?_, ?_, h3, h4⟩
  · show 0 ≤ IntKind.wrap .i64 (s.at_ + 1)
    rw [wrap64 (by omega) (by omega)]; omega
  · show IntKind.wrap .i64 (s.at_ + 1) ≤ _
    rw [wrap64 (by omega) (by omega)]; omega

theorem Next_ok {k : Nat} {s : fleetmake_Stream} {n : Int} (h : StrOk k s) (hk : k < 1099511627776) (hn : I64 n) : Ok (fleetmake_Stream_Next s n) (fun r => (1 ≤ n → 0 ≤ r ∧ r < n) ∧ (n < 1 → r = 0)) := by
  obtain ⟨h1, h2, h3, h4⟩ := h
  unfold fleetmake_Stream_Next
  refine .cond (fun _ => ?_) (fun hl => ?_)
  · exact (Below_ok (wrap_I64 _) hn).bind fun r hr => .some hr
  · have hl' : s.L.length ≠ 0 := by simpa using hl
    have e1 : IntKind.wrap .i64 (s.at_ + 1) = s.at_ + 1 := wrap64 (by omega) (by omega)
    have e2 : IntKind.wrap .i64 (s.at_ + 1 - 1) = s.at_ := by rw [wrap64 (by omega) (by omega)]; omega
    refine .gd (by simpa using hl') ?_
    rw [e1, e2]
    refine (at_mem (tmod_nonneg h1) (tmod_lt' (by omega))).bind fun y hy => ?_
    refine (Below_ok (h4 y hy) (by unfold I64; omega)).bind fun r1 hr1 => ?_
    exact (Below_ok (wrap_I64 _) hn).bind fun r hr => .some hr

theorem Pick_ok {k : Nat} {s : fleetmake_Stream} {l : List Int} (h : StrOk k s) (hk : k < 1099511627776) (hl : 0 < l.length) (hl2 : l.length < 1000) : Ok (fleetmake_Stream_Pick_o1 s l) (fun r => r ∈ l) := by
  unfold fleetmake_Stream_Pick_o1
  refine (Next_ok h hk (by unfold I64; omega)).bind fun r hr => ?_
  have := hr.1 (by omega)
  exact (at_mem this.1 this.2).bind fun y hy => .some hy
theorem Some_ok {k : Nat} {s : fleetmake_Stream} {l : List (List UInt8)} (h : StrOk k s) (hk : k < 1099511627776) (hl : 0 < l.length) (hl2 : l.length < 1000) : Ok (fleetmake_Stream_Some_o1 s l) (fun r => r ∈ l) := by
  unfold fleetmake_Stream_Some_o1
  refine (Next_ok h hk (by unfold I64; omega)).bind fun r hr => ?_
  have := hr.1 (by omega)
  exact (at_mem this.1 this.2).bind fun y hy => .some hy
theorem Flip_ok {k : Nat} {s : fleetmake_Stream} {n : Int} (h : StrOk k s) (hk : k < 1099511627776) (hn : I64 n) : Ok (fleetmake_Stream_Flip s n) (fun _ => True) := by
  unfold fleetmake_Stream_Flip
  exact (Next_ok h hk hn).bind fun r hr => .some trivial
theorem Range_ok {k : Nat} {s : fleetmake_Stream} {low high : Int} (h : StrOk k s) (hk : k < 1099511627776) (hlow : -4611686018427387903 < low ∧ low < 4611686018427387904) (hh : -4611686018427387904 < high ∧ high < 4611686018427387903) :
    Ok (fleetmake_Stream_Range s low high) (fun r => StrOk (k + 1) r.1 ∧ low ≤ r.2 ∧ (low ≤ high → r.2 ≤ high) ∧ (high < low → r.2 = low)) := by
  unfold fleetmake_Stream_Range
  refine .cond (fun hc => ?_) (fun hc => ?_)
  · have hc' : high < low := by simpa using hc
    exact .some ⟨h.mono (by omega), Int.le_refl _, by intro h; omega, fun _ => rfl⟩
  · have hc' : ¬ high < low := by simpa using hc
    have e1 : IntKind.wrap .i64 (high - low) = high - low := wrap64 (by omega) (by omega)
    have e2 : IntKind.wrap .i64 (high - low + 1) = high - low + 1 := wrap64 (by omega) (by omega)
    rw [e1, e2]
    refine (Next_ok h hk (by unfold I64; omega)).bind fun r hr => ?_
    have := hr.1 (by omega)
    refine .some ⟨h.nxt hk, ?_, fun _ => ?_, fun h => by omega⟩
    · show low ≤ IntKind.wrap .i64 (low + r)
      rw [wrap64 (by omega) (by omega)]; omega
    · show IntKind.wrap .i64 (low + r) ≤ high
      rw [wrap64 (by omega) (by omega)]; omega
theorem Odd_ok {k : Nat} {s : fleetmake_Stream} {low high : Int} (h : StrOk k s) (hk : k + 2 < 1099511627776) (hlow : -4611686018427387902 < low ∧ low < 4611686018427387904) (hh : -4611686018427387904 < high ∧ high < 4611686018427387902) (hlh : low ≤ high) :
    Ok (fleetmake_Stream_Odd s low high) (fun r => StrOk (k + 2) r.1 ∧ ((low - 1 ≤ r.2 ∧ r.2 ≤ high + 1) ∨ r.2 = -1099511627776 ∨ r.2 = 1099511627776)) := by
  unfold fleetmake_Stream_Odd
  refine (Flip_ok h (by omega) (by unfold I64; omega)).bind fun b _ => .cond (fun _ => ?_) (fun _ => ?_)
  · refine (Pick_ok (h.nxt (by omega)) (by omega) (by simp) (by simp)).bind fun r hr => .some ⟨(h.nxt (by omega)).nxt (by omega), ?_⟩
    have e1 : IntKind.wrap .i64 (low - 1) = low - 1 := wrap64 (by omega) (by omega)
    have e2 : IntKind.wrap .i64 (high + 1) = high + 1 := wrap64 (by omega) (by omega)
    rw [e1, e2] at hr
    simp only [List.mem_cons, List.not_mem_nil, or_false] at hr
    show (low - 1 ≤ r ∧ r ≤ high + 1) ∨ r = _ ∨ r = _
    omega
  · refine (Range_ok (h.nxt (by omega)) (by omega) ⟨by omega, by omega⟩ ⟨by omega, by omega⟩).bind fun r hr => .some ⟨hr.1, .inl ⟨by have := hr.2.1; show low - 1 ≤ r.2; omega, ?_⟩⟩
    have := hr.2.2.1 hlh
    show r.2 ≤ high + 1
    omega
end Go.Eng

/-
Fences that streams make.
-/
namespace Go.Eng
open Go Geo
open scoped Classical
set_option linter.unusedVariables false
set_option linter.unusedSimpArgs false

theorem Place_ok {k : Nat} {s : fleetmake_Stream} (h : StrOk k s) (hk : k + 2 < 1099511627776) : Ok (fleetmake_Stream_Place s) (fun p => (-5 ≤ p.X ∧ p.X ≤ 20) ∧ (-5 ≤ p.Y ∧ p.Y ≤ 20)) := by
  unfold fleetmake_Stream_Place
  refine (Pick_ok h (by omega) (by simp) (by simp)).bind fun x hx => (Pick_ok (h.nxt (by omega)) (by omega) (by simp) (by simp)).bind fun y hy => .some ?_
  simp only [List.mem_cons, List.not_mem_nil, or_false] at hx hy
  show (-5 ≤ x ∧ x ≤ 20) ∧ (-5 ≤ y ∧ y ≤ 20)
  omega
theorem corners_some (l : List api_Spot) : ∃ c, fleetref2_CornersFault l = some c ∧ (c = 0 → FIn l) := by
  obtain ⟨c, c1, c2, -⟩ := corners_both (api_Fence.mk [] l) (by simp)
  exact ⟨c, c1, c2⟩
theorem right_of_zero {l : List api_Spot} (h : fleetref2_CornersFault l = some 0) : FIn l := by
  obtain ⟨c, c1, c2⟩ := corners_some l
  rw [h] at c1
  exact c2 (Option.some.inj c1).symm
theorem shape0 : fleetref2_CornersFault [api_Spot.mk 0 0, api_Spot.mk 10 0, api_Spot.mk 10 10, api_Spot.mk 5 3, api_Spot.mk 0 10] = some 0 := by kernel_rfl
theorem shape1 : fleetref2_CornersFault [api_Spot.mk 0 10, api_Spot.mk 10 10, api_Spot.mk 10 0, api_Spot.mk 0 0] = some 0 := by kernel_rfl
theorem shape2 : fleetref2_CornersFault [api_Spot.mk 0 0, api_Spot.mk 8 0, api_Spot.mk 8 2, api_Spot.mk 2 2, api_Spot.mk 2 6, api_Spot.mk 8 6, api_Spot.mk 8 8, api_Spot.mk 0 8] = some 0 := by kernel_rfl
theorem shape3 : fleetref2_CornersFault [api_Spot.mk 0 0, api_Spot.mk 10 0, api_Spot.mk 10 10, api_Spot.mk 0 10] = some 0 := by kernel_rfl

theorem spots_ok {k : Nat} {s : fleetmake_Stream} {n : Int} (h : StrOk k s) (hk : k + 100 < 1099511627776) (hn : 0 ≤ n ∧ n ≤ 6) :
    Ok (loopO (fleetmake_Stream_RightFence_x2 n) (s, [], 0)) (fun r => StrOk (k + 12) r.1 ∧ r.2.length ≤ 6) := by
  refine loop_ok (fun q : fleetmake_Stream × List api_Spot × Int => ∃ j : Nat, q.2.2 = (j : Int) ∧ (j : Int) ≤ n ∧ q.2.1.length = j ∧ StrOk (k + 2 * j) q.1) (fun q => (n - q.2.2).toNat) ?_ ⟨0, rfl, by simpa using hn.1, rfl, by simpa using h⟩
  rintro ⟨s, l, i⟩ ⟨j, rfl, j1, j2, j3⟩
  simp only at j2 j3
  unfold fleetmake_Stream_RightFence_x2
  refine .cond (fun hc => ?_) (fun hc => ?_)
  · have hc : (j : Int) < n := by simpa using hc
    refine (Place_ok j3 (by omega)).bind fun p hp => .gd (ble_lim (by simp; omega)) ?_
    have w1 : IntKind.wrap .i64 ((j : Int) + 1) = ((j + 1 : Nat) : Int) := by rw [wrap64 (by omega) (by omega)]; omega
    refine .some ⟨⟨j + 1, w1, by omega, by simp; omega, ((j3.nxt (by omega)).nxt (by omega)).mono (by omega)⟩, ?_⟩
    show (n - IntKind.wrap .i64 ((j : Int) + 1)).toNat < _
    rw [w1]; simp only; omega
  · exact .some ⟨j3.mono (by omega), by show l.length ≤ 6; omega⟩
theorem wide_ok {k : Nat} {s : fleetmake_Stream} {l : List api_Spot} (h : StrOk k s) (hk : k + 100 < 1099511627776) (hl : l.length ≤ 6) :
    Ok (loopO (fleetmake_Stream_RightFence_x4 l) (s, l, 0)) (fun r => StrOk (k + 6) r.1 ∧ r.2.length ≤ 6) := by
  refine loop_ok (fun q : fleetmake_Stream × List api_Spot × Int => ∃ j : Nat, q.2.2 = (j : Int) ∧ j ≤ l.length ∧ q.2.1.length = l.length ∧ StrOk (k + j) q.1) (fun q => ((l.length : Int) - q.2.2).toNat) ?_ ⟨0, rfl, by omega, rfl, by simpa using h⟩
  rintro ⟨s, m, i⟩ ⟨j, rfl, j1, j2, j3⟩
  simp only at j2 j3
  unfold fleetmake_Stream_RightFence_x4
  refine .cond (fun hc => ?_) (fun hc => ?_)
  · have hc : (j : Int) < l.length := by simpa using hc
    refine (at_mem (l := m) (n := (j : Int)) (by omega) (by omega)).bind fun y hy => (Pick_ok j3 (by omega) (by simp) (by simp)).bind fun x hx => ?_
    have w1 : IntKind.wrap .i64 ((j : Int) + 1) = ((j + 1 : Nat) : Int) := by rw [wrap64 (by omega) (by omega)]; omega
    refine .some ⟨⟨j + 1, w1, by omega, by simp; omega, (j3.nxt (by omega)).mono (by omega)⟩, ?_⟩
    show ((l.length : Int) - IntKind.wrap .i64 ((j : Int) + 1)).toNat < _
    rw [w1]; simp only; omega
  · exact .some ⟨j3.mono (by omega), by show m.length ≤ 6; omega⟩
theorem RightFence_ok {k : Nat} {s : fleetmake_Stream} (h : StrOk k s) (hk : k + 1000 < 1099511627776) :
    Ok (fleetmake_Stream_RightFence s) (fun r => StrOk (k + 100) r.1 ∧ fleetref2_CornersFault r.2 = some 0 ∧ r.2.length ≤ 8) := by
  unfold fleetmake_Stream_RightFence
  have key : Ok (loopO fleetmake_Stream_RightFence_x1 (s, 0)) (fun r => match r with | .inl s' => StrOk (k + 90) s' | .inr q => StrOk (k + 90) q.1 ∧ fleetref2_CornersFault q.2 = some 0 ∧ q.2.length ≤ 6) := by
    refine loop_ok (fun q : fleetmake_Stream × Int => ∃ j : Nat, q.2 = (j : Int) ∧ j ≤ 4 ∧ StrOk (k + 20 * j) q.1) (fun q => ((4 : Int) - q.2).toNat) ?_ ⟨0, rfl, by omega, by simpa using h⟩
    rintro ⟨s, i⟩ ⟨j, rfl, j1, j3⟩
    simp only at j3
    unfold fleetmake_Stream_RightFence_x1
    refine .cond (fun hc => ?_) (fun hc => ?_)
    · have hc : (j : Int) < 4 := by simpa using hc
      refine (Range_ok j3 (by omega) (by omega) (by omega)).bind fun ⟨s1, n⟩ ⟨r1, r2, r3, _⟩ => ?_
      simp only at r1 r2 r3
      refine (spots_ok r1 (by omega) ⟨by omega, r3 (by omega)⟩).bind fun ⟨s2, l2⟩ ⟨q1, q2⟩ => ?_
      simp only at q1 q2
      have hx3 : Ok (fleetmake_Stream_RightFence_x3 s2 l2) (fun r => StrOk (k + 20 * j + 20) r.1 ∧ r.2.length ≤ 6) := by
        unfold fleetmake_Stream_RightFence_x3
        refine (Flip_ok q1 (by omega) (by unfold I64; omega)).bind fun b _ => .cond (fun _ => ?_) (fun _ => ?_)
        · refine (wide_ok (q1.nxt (by omega)) (by omega) q2).bind fun ⟨s3, l3⟩ ⟨p1, p2⟩ => .some ⟨p1.mono (by omega), p2⟩
        · exact .some ⟨(q1.nxt (by omega)).mono (by omega), q2⟩
      refine hx3.bind fun ⟨s4, l4⟩ ⟨p1, p2⟩ => ?_
      simp only at p1 p2
      obtain ⟨c, c1, c2⟩ := corners_some l4
      simp only [c1, Option.bind_some]
      refine .cond (fun hc0 => ?_) (fun _ => ?_)
      · have hc0 : c = 0 := by simpa using hc0
        exact .some ⟨p1.mono (by omega), by rw [c1, hc0], p2⟩
      · have w1 : IntKind.wrap .i64 ((j : Int) + 1) = ((j + 1 : Nat) : Int) := by rw [wrap64 (by omega) (by omega)]; omega
        refine .some ⟨⟨j + 1, w1, by omega, p1.mono (by omega)⟩, ?_⟩
        show ((4 : Int) - IntKind.wrap .i64 ((j : Int) + 1)).toNat < _
        rw [w1]; omega
    · exact .some (j3.mono (by omega))
  refine key.bind fun r hr => ?_
  cases r with
  | inr q =>
    obtain ⟨s', l'⟩ := q
    exact .some ⟨hr.1.mono (by omega), hr.2.1, by have := hr.2.2; simp only at this ⊢; omega⟩
  | inl s' =>
    have hr : StrOk (k + 90) s' := hr
    have hx5 : Ok (fleetmake_Stream_RightFence_x5 s') (fun l => fleetref2_CornersFault l = some 0 ∧ l.length ≤ 8) := by
      unfold fleetmake_Stream_RightFence_x5
      refine (Next_ok hr (by omega) (by unfold I64; omega)).bind fun n _ => .cond (fun _ => .some ⟨shape0, by simp⟩) (fun _ => .cond (fun _ => .some ⟨shape1, by simp⟩) (fun _ => .cond (fun _ => .some ⟨shape2, by simp⟩) (fun _ => .some ⟨shape3, by simp⟩)))
    refine hx5.bind fun l hl => .some ⟨(hr.nxt (by omega)).mono (by omega), hl.1, hl.2⟩
end Go.Eng

/-
What the laws ask of each package once.
-/
namespace Go.Eng
open Go
end Go.Eng

/-
Two fences meet just if each does the other; with a spot in both they do.
-/
namespace Go.Eng
open Go Geo
open scoped Classical
set_option linter.unusedVariables false
set_option linter.unusedSimpArgs false

theorem touch_inner {m : List api_Spot} (hl : m.length ≤ 200) (hb : ∀ s ∈ m, InB s) {a b : api_Spot} (ha : InB a) (hb' : InB b) :
    place_touch_1 a b m = some ((ring m).any fun f => meB (a, b) f) := by
  have hlen := ring_len m
  unfold place_touch_1 place_edges_f1_place_touch_1_1
  rw [range_loop (l := ring m) (fun _ f => cond (meB (a, b) f) (some (.inr ())) none) (.inl ()) (by omega), scan_any]
  · cases (ring m).any fun f => meB (a, b) f <;> rfl
  · intro i hi
    have hi' : i < m.length := by omega
    obtain ⟨a1, a2, a3⟩ := edge_at (l := m) (by omega) hi'
    have hx := inb_ring hb (List.getElem_mem hi)
    generalize (ring m)[i] = x at a1 a2 hx
    unfold place_edges_f1_place_touch_1_1_x1 place_touch_1_1
    have h : (i : Int) < m.length := by omega
    simp only [h, decide_true, cond_true, a1, a2, gd_true a3, Option.bind_some, meets_eq ha hb' hx.1 hx.2]
    rw [show meB (a, b) x = meB (a, b) (x.1, x.2) from rfl]
    cases meB (a, b) (x.1, x.2) <;> rfl
  · rw [hlen]
    unfold place_edges_f1_place_touch_1_1_x1
    simp
theorem touch_edges {l m : List api_Spot} (hl : l.length ≤ 200) (hb : ∀ s ∈ l, InB s) (hm : m.length ≤ 200) (hbm : ∀ s ∈ m, InB s) :
    place_edges_f1_place_touch_1 l m = some ((ring l).any fun e => (ring m).any fun f => meB e f) := by
  have hlen := ring_len l
  unfold place_edges_f1_place_touch_1
  rw [range_loop (l := ring l) (fun _ e => cond ((ring m).any fun f => meB e f) (some (.inr ())) none) (.inl ()) (by omega), scan_any]
  · cases (ring l).any fun e => (ring m).any fun f => meB e f <;> rfl
  · intro i hi
    have hi' : i < l.length := by omega
    obtain ⟨a1, a2, a3⟩ := edge_at (l := l) (by omega) hi'
    have hx := inb_ring hb (List.getElem_mem hi)
    generalize (ring l)[i] = x at a1 a2 hx
    unfold place_edges_f1_place_touch_1_x1
    have h : (i : Int) < l.length := by omega
    simp only [h, decide_true, cond_true, a1, a2, gd_true a3, Option.bind_some, touch_inner hm hbm hx.1 hx.2]
    rw [show ((ring m).any fun f => meB x f) = ((ring m).any fun f => meB (x.1, x.2) f) from rfl]
    cases (ring m).any fun f => meB (x.1, x.2) f <;> rfl
  · rw [hlen]
    unfold place_edges_f1_place_touch_1_x1
    simp
/-- have two fences a spot in common -/
noncomputable def touB (l m : List api_Spot) : Bool :=
  !decide (wher l (m.headD ⟨0, 0⟩) = 0) || !decide (wher m (l.headD ⟨0, 0⟩) = 0) || (ring l).any fun e => (ring m).any fun f => meB e f
theorem head_at {l : List api_Spot} (h : 3 ≤ l.length) : at? l 0 = some (l.headD ⟨0, 0⟩) ∧ l.headD ⟨0, 0⟩ ∈ l := by
  cases l with
  | nil => simp at h
  | cons a l => exact ⟨rfl, by simp⟩
theorem touch_eq {l m : List api_Spot} (hl : FRight l) (hm : FRight m) : place_touch l m = some (touB l m) := by
  obtain ⟨l3, l200, lb, lS⟩ := hl
  obtain ⟨m3, m200, mb, mS⟩ := hm
  have hl0 := head_at l3
  have hm0 := head_at m3
  unfold place_touch place_touch_x1 touB
  simp only [hl0.1, hm0.1, Option.bind_some, where_eq l200 lb (mb _ hm0.2), where_eq m200 mb (lb _ hl0.2), touch_edges l200 lb m200 mb]
  cases decide (wher l (m.headD ⟨0, 0⟩) = 0) <;> cases decide (wher m (l.headD ⟨0, 0⟩) = 0) <;> simp
theorem meet_sym {e f : api_Spot × api_Spot} : meB e f = meB f e := by
  rw [Bool.eq_iff_iff, meB_iff, meB_iff]
  exact ⟨meetE_comm, meetE_comm⟩
theorem any_any_comm {α β} (p : α → β → Bool) (l : List α) (m : List β) : (l.any fun a => m.any fun b => p a b) = (m.any fun b => l.any fun a => p a b) := by
  rw [Bool.eq_iff_iff, List.any_eq_true, List.any_eq_true]
  constructor
  · rintro ⟨a, ha, h⟩
    obtain ⟨b, hb, h⟩ := List.any_eq_true.1 h
    exact ⟨b, hb, List.any_eq_true.2 ⟨a, ha, h⟩⟩
  · rintro ⟨b, hb, h⟩
    obtain ⟨a, ha, h⟩ := List.any_eq_true.1 h
    exact ⟨a, ha, List.any_eq_true.2 ⟨b, hb, h⟩⟩
theorem touB_comm (l m : List api_Spot) : touB l m = touB m l := by
  unfold touB
  rw [any_any_comm]
  have : ((ring m).any fun b => (ring l).any fun a => meB a b) = ((ring m).any fun e => (ring l).any fun f => meB e f) := by
    congr 1; funext b; congr 1; funext a; exact meet_sym
  rw [this, Bool.or_comm (!decide (wher l (m.headD ⟨0, 0⟩) = 0))]
theorem wher_head {l : List api_Spot} (h : 3 ≤ l.length) : wher l (l.headD ⟨0, 0⟩) = 1 := by
  unfold wher
  rw [if_pos]
  cases l with
  | nil => simp at h
  | cons a l => cases l with
    | nil => simp at h
    | cons b l => exact ⟨(a, b), by simp [ring, path], onB_iff.2 (onb_refl_l ..)⟩
theorem wher_ne {l : List api_Spot} {p : api_Spot} (h : wher l p ≠ 0) : (∃ e ∈ ring (l.map pt), onE e (pt p)) ∨ inn (l.map pt) (pt p) = true := by
  unfold wher at h
  by_cases h1 : ∃ e ∈ ring l, onB e p = true
  · left
    obtain ⟨e, he, h1⟩ := h1
    exact ⟨pte e, by rw [ring_pt]; exact List.mem_map_of_mem he, onB_iff.1 h1⟩
  · rw [if_neg h1] at h
    right
    by_cases h2 : inn (l.map pt) (pt p) = true
    · exact h2
    · rw [if_neg h2] at h; exact absurd rfl h
end Go.Eng

/-
Plane geometry in whole numbers: what two fences have in common; boxes.
-/
namespace Go.Eng.Geo
/-- a spot of a fence -/
def InR (l : List Pt) (p : Pt) : Prop := (∃ e ∈ ring l, onE e p) ∨ inn l p = true
theorem btw {k u v a b : Int} (hu : 0 ≤ u) (hv : 0 ≤ v) (hk : u + v = k) : min (k * a) (k * b) ≤ u * a + v * b ∧ u * a + v * b ≤ max (k * a) (k * b) := by
  have e1 : u * a + v * b - k * a = v * (b - a) := by subst hk; grind
  have e2 : u * a + v * b - k * b = u * (a - b) := by subst hk; grind
  by_cases h : a ≤ b
  · have h1 := PP hv (show 0 ≤ b - a by omega)
    have h2 := PN hu (show a - b ≤ 0 by omega)
    omega
  · have h1 := PN hv (show b - a ≤ 0 by omega)
    have h2 := PP hu (show 0 ≤ a - b by omega)
    omega
/-- ways that cross have a spot in common -/
theorem cross_pt {a b c d : Pt} (h1 : 0 < sd a.1 a.2 b.1 b.2 c.1 c.2) (h2 : sd a.1 a.2 b.1 b.2 d.1 d.2 < 0) (h3 : sd c.1 c.2 d.1 d.2 a.1 a.2 < 0) (h4 : 0 < sd c.1 c.2 d.1 d.2 b.1 b.2) :
    ∃ k : Int, 0 < k ∧ ∃ r, onE (sc k a, sc k b) r ∧ onE (sc k c, sc k d) r := by
  obtain ⟨a1, a2⟩ := a; obtain ⟨b1, b2⟩ := b; obtain ⟨c1, c2⟩ := c; obtain ⟨d1, d2⟩ := d
  simp only at h1 h2 h3 h4
  have hs : sd a1 a2 b1 b2 c1 c2 - sd a1 a2 b1 b2 d1 d2 = sd c1 c2 d1 d2 b1 b2 - sd c1 c2 d1 d2 a1 a2 := by unfold sd; grind
  have hx : sd c1 c2 d1 d2 b1 b2 * a1 + (- sd c1 c2 d1 d2 a1 a2) * b1 = (- sd a1 a2 b1 b2 d1 d2) * c1 + sd a1 a2 b1 b2 c1 c2 * d1 := by unfold sd; grind
  have hy : sd c1 c2 d1 d2 b1 b2 * a2 + (- sd c1 c2 d1 d2 a1 a2) * b2 = (- sd a1 a2 b1 b2 d1 d2) * c2 + sd a1 a2 b1 b2 c1 c2 * d2 := by unfold sd; grind
  have h01 : sd ((sd a1 a2 b1 b2 c1 c2 - sd a1 a2 b1 b2 d1 d2) * a1) ((sd a1 a2 b1 b2 c1 c2 - sd a1 a2 b1 b2 d1 d2) * a2) ((sd a1 a2 b1 b2 c1 c2 - sd a1 a2 b1 b2 d1 d2) * b1) ((sd a1 a2 b1 b2 c1 c2 - sd a1 a2 b1 b2 d1 d2) * b2)
      ((- sd a1 a2 b1 b2 d1 d2) * c1 + sd a1 a2 b1 b2 c1 c2 * d1) ((- sd a1 a2 b1 b2 d1 d2) * c2 + sd a1 a2 b1 b2 c1 c2 * d2) = 0 := by unfold sd; grind
  have h02 : sd ((sd a1 a2 b1 b2 c1 c2 - sd a1 a2 b1 b2 d1 d2) * c1) ((sd a1 a2 b1 b2 c1 c2 - sd a1 a2 b1 b2 d1 d2) * c2) ((sd a1 a2 b1 b2 c1 c2 - sd a1 a2 b1 b2 d1 d2) * d1) ((sd a1 a2 b1 b2 c1 c2 - sd a1 a2 b1 b2 d1 d2) * d2)
      ((- sd a1 a2 b1 b2 d1 d2) * c1 + sd a1 a2 b1 b2 c1 c2 * d1) ((- sd a1 a2 b1 b2 d1 d2) * c2 + sd a1 a2 b1 b2 c1 c2 * d2) = 0 := by unfold sd; grind
  generalize sd a1 a2 b1 b2 c1 c2 = s1 at *
  generalize sd a1 a2 b1 b2 d1 d2 = s2 at *
  generalize sd c1 c2 d1 d2 a1 a2 = t1 at *
  generalize sd c1 c2 d1 d2 b1 b2 = t2 at *
  refine ⟨s1 - s2, by omega, ((-s2) * c1 + s1 * d1, (-s2) * c2 + s1 * d2), ?_, ?_⟩
  · have q1 := btw (k := s1 - s2) (u := t2) (v := -t1) (a := a1) (b := b1) (by omega) (by omega) (by omega)
    have q2 := btw (k := s1 - s2) (u := t2) (v := -t1) (a := a2) (b := b2) (by omega) (by omega) (by omega)
    rw [hx] at q1
    rw [hy] at q2
    exact ⟨h01, q1.1, q1.2, q2.1, q2.2⟩
  · have q1 := btw (k := s1 - s2) (u := -s2) (v := s1) (a := c1) (b := d1) (by omega) (by omega) (by omega)
    have q2 := btw (k := s1 - s2) (u := -s2) (v := s1) (a := c2) (b := d2) (by omega) (by omega) (by omega)
    exact ⟨h02, q1.1, q1.2, q2.1, q2.2⟩
theorem sc_one (p : Pt) : sc 1 p = p := by unfold sc; simp
theorem sgn_cases {x y : Int} (h : x * y < 0) : (0 < x ∧ y < 0) ∨ (x < 0 ∧ 0 < y) := by
  by_cases h1 : 0 < x
  · by_cases h2 : y < 0
    · exact .inl ⟨h1, h2⟩
    · have := PP (show 0 ≤ x by omega) (show 0 ≤ y by omega); omega
  · by_cases h2 : 0 < y
    · by_cases h3 : x < 0
      · exact .inr ⟨h3, h2⟩
      · have : x = 0 := by omega
        subst this; simp at h
    · have := NN (show x ≤ 0 by omega) (show y ≤ 0 by omega); omega
theorem meet_pt {e f : Pt × Pt} (h : meetE e f) : ∃ k : Int, 0 < k ∧ ∃ r, onE (sc k e.1, sc k e.2) r ∧ onE (sc k f.1, sc k f.2) r := by
  obtain ⟨a, b⟩ := e
  obtain ⟨c, d⟩ := f
  rcases h with h | h | h | h | ⟨h1, h2⟩
  · exact ⟨1, by omega, c, by simp only [sc_one]; exact h, by simp only [sc_one]; exact onb_refl_l ..⟩
  · exact ⟨1, by omega, d, by simp only [sc_one]; exact h, by simp only [sc_one]; exact onb_refl_r ..⟩
  · exact ⟨1, by omega, a, by simp only [sc_one]; exact onb_refl_l .., by simp only [sc_one]; exact h⟩
  · exact ⟨1, by omega, b, by simp only [sc_one]; exact onb_refl_r .., by simp only [sc_one]; exact h⟩
  · have hs : sd a.1 a.2 b.1 b.2 c.1 c.2 - sd a.1 a.2 b.1 b.2 d.1 d.2 = sd c.1 c.2 d.1 d.2 b.1 b.2 - sd c.1 c.2 d.1 d.2 a.1 a.2 := by unfold sd; grind
    simp only at h1 h2
    rcases sgn_cases h1 with ⟨p1, p2⟩ | ⟨p1, p2⟩ <;> rcases sgn_cases h2 with ⟨p3, p4⟩ | ⟨p3, p4⟩
    · omega
    · exact cross_pt p1 p2 p3 p4
    · obtain ⟨k, k0, r, r1, r2⟩ := cross_pt (a := b) (b := a) (c := c) (d := d) (by rw [sd_swap]; omega) (by rw [sd_swap]; omega) (by omega) (by omega)
      exact ⟨k, k0, r, onb_swap r1, r2⟩
    · omega
theorem ring_sc (k : Int) (l : List Pt) : ring (l.map (sc k)) = (ring l).map fun e => (sc k e.1, sc k e.2) := ring_map (sc k) l
theorem onE_sc {k : Int} {e : Pt × Pt} {p : Pt} (hk : 0 ≤ k) (h : onE e p) : onE (sc k e.1, sc k e.2) (sc k p) := by
  obtain ⟨h1, h2, h3, h4, h5⟩ := h
  refine ⟨?_, ?_, ?_, ?_, ?_⟩
  · simp only [sc, sd_sc, h1, Int.mul_zero]
  all_goals simp only [sc]
  · have : e.1.1 ≤ p.1 ∨ e.2.1 ≤ p.1 := by omega
    rcases this with h | h <;> have := Int.mul_le_mul_of_nonneg_left h hk <;> omega
  · have : p.1 ≤ e.1.1 ∨ p.1 ≤ e.2.1 := by omega
    rcases this with h | h <;> have := Int.mul_le_mul_of_nonneg_left h hk <;> omega
  · have : e.1.2 ≤ p.2 ∨ e.2.2 ≤ p.2 := by omega
    rcases this with h | h <;> have := Int.mul_le_mul_of_nonneg_left h hk <;> omega
  · have : p.2 ≤ e.1.2 ∨ p.2 ≤ e.2.2 := by omega
    rcases this with h | h <;> have := Int.mul_le_mul_of_nonneg_left h hk <;> omega
theorem inR_sc {k : Int} (hk : 0 < k) {l : List Pt} {p : Pt} (h : InR l p) : InR (l.map (sc k)) (sc k p) := by
  rcases h with ⟨e, he, ho⟩ | h
  · refine .inl ⟨(sc k e.1, sc k e.2), ?_, onE_sc (by omega) ho⟩
    rw [ring_sc]; exact List.mem_map_of_mem he
  · exact .inr (by rw [inn_sc hk]; exact h)
theorem head_inR (a : Pt) (l : List Pt) : InR (a :: l) a := by
  cases l with
  | nil => exact .inl ⟨(a, a), by simp [ring, path], onb_refl_l ..⟩
  | cons b l => exact .inl ⟨(a, b), by simp [ring, path], onb_refl_l ..⟩
/-- two fences meet -/
def touP (a : Pt) (l : List Pt) (b : Pt) (m : List Pt) : Prop := InR (a :: l) b ∨ InR (b :: m) a ∨ ∃ e ∈ ring (a :: l), ∃ f ∈ ring (b :: m), meetE e f
/-- they meet just if there is a spot, perhaps a broken one, in both -/
theorem tou_pt {a b : Pt} {l m : List Pt} (h : touP a l b m) : ∃ k : Int, 0 < k ∧ ∃ r, InR ((a :: l).map (sc k)) r ∧ InR ((b :: m).map (sc k)) r := by
  rcases h with h | h | ⟨e, he, f, hf, h⟩
  · exact ⟨1, by omega, sc 1 b, inR_sc (by omega) h, inR_sc (by omega) (head_inR b m)⟩
  · exact ⟨1, by omega, sc 1 a, inR_sc (by omega) (head_inR a l), inR_sc (by omega) h⟩
  · obtain ⟨k, k0, r, r1, r2⟩ := meet_pt h
    refine ⟨k, k0, r, .inl ⟨_, ?_, r1⟩, .inl ⟨_, ?_, r2⟩⟩
    · rw [ring_sc]; exact List.mem_map_of_mem he
    · rw [ring_sc]; exact List.mem_map_of_mem hf
theorem pt_tou {a b : Pt} {l m : List Pt} {k : Int} (hk : 0 < k) {r : Pt} (h1 : InR ((a :: l).map (sc k)) r) (h2 : InR ((b :: m).map (sc k)) r) : touP a l b m := by
  by_cases hb : inn (a :: l) b = true
  · exact .inl (.inr hb)
  by_cases ha : inn (b :: m) a = true
  · exact .inr (.inl (.inr ha))
  by_cases hm : ∃ e ∈ ring (a :: l), ∃ f ∈ ring (b :: m), meetE e f
  · exact .inr (.inr hm)
  exfalso
  rw [Bool.not_eq_true] at ha hb
  refine meet_both (sc k a) (sc k b) (l.map (sc k)) (m.map (sc k)) r ?_ ?_ ?_ h1 h2
  · intro e he f hf hh
    have he : e ∈ ring ((a :: l).map (sc k)) := he
    have hf : f ∈ ring ((b :: m).map (sc k)) := hf
    rw [ring_sc] at he hf
    obtain ⟨e', he', rfl⟩ := List.mem_map.1 he
    obtain ⟨f', hf', rfl⟩ := List.mem_map.1 hf
    exact hm ⟨e', he', f', hf', meets_sc hk hh⟩
  · exact (inn_sc hk (b :: m) a).trans ha
  · exact (inn_sc hk (a :: l) b).trans hb

/-! ### Boxes -/
def bx (x y h : Int) : List Pt := [(x, y), (x + h, y), (x + h, y + h), (x, y + h)]
theorem bx_sc (k x y h : Int) : (bx x y h).map (sc k) = bx (k * x) (k * y) (k * h) := by
  unfold bx sc; simp [Int.mul_add]
theorem ring_bx (x y h : Int) : ring (bx x y h) = [((x, y), (x + h, y)), ((x + h, y), (x + h, y + h)), ((x + h, y + h), (x, y + h)), ((x, y + h), (x, y))] := rfl
theorem inn_bx {x y h : Int} (hh : 0 < h) (p : Pt) : inn (bx x y h) p = decide (x ≤ p.1 ∧ p.1 < x + h ∧ y ≤ p.2 ∧ p.2 < y + h) := by
  obtain ⟨p1, p2⟩ := p
  unfold inn
  rw [ring_bx]
  have h1 : hitE (p1, p2) ((x, y), (x + h, y)) = false := by
    unfold hitE hitU lo hi; simp; omega
  have h3 : hitE (p1, p2) ((x + h, y + h), (x, y + h)) = false := by
    unfold hitE hitU lo hi; simp; omega
  have h2 : hitE (p1, p2) ((x + h, y), (x + h, y + h)) = decide (p1 < x + h ∧ y ≤ p2 ∧ p2 < y + h) := by
    unfold hitE hitU lo hi
    simp only [show y ≤ y + h by omega, if_true]
    apply decide_eq_decide.2
    have e : sd (x + h) y (x + h) (y + h) p1 p2 = h * (x + h - p1) := by unfold sd; grind
    rw [e]
    exact ⟨fun ⟨q1, q2, q3⟩ => ⟨by have := cpos hh q3; omega, q1, q2⟩, fun ⟨q1, q2, q3⟩ => ⟨q2, q3, pp hh (by omega)⟩⟩
  have h4 : hitE (p1, p2) ((x, y + h), (x, y)) = decide (p1 < x ∧ y ≤ p2 ∧ p2 < y + h) := by
    unfold hitE hitU lo hi
    simp only [show ¬ y + h ≤ y by omega, if_false]
    apply decide_eq_decide.2
    have e : sd x y x (y + h) p1 p2 = h * (x - p1) := by unfold sd; grind
    rw [e]
    exact ⟨fun ⟨q1, q2, q3⟩ => ⟨by have := cpos hh q3; omega, q1, q2⟩, fun ⟨q1, q2, q3⟩ => ⟨q2, q3, pp hh (by omega)⟩⟩
  simp only [par, h1, h2, h3, h4]
  rw [Bool.eq_iff_iff]
  by_cases c1 : p1 < x + h <;> by_cases c2 : p1 < x <;> by_cases c3 : y ≤ p2 <;> by_cases c4 : p2 < y + h <;> simp [c1, c2, c3, c4] <;> omega
/-- a spot of a box -/
theorem inR_bx {x y h : Int} (hh : 0 < h) {p : Pt} : InR (bx x y h) p ↔ (x ≤ p.1 ∧ p.1 ≤ x + h ∧ y ≤ p.2 ∧ p.2 ≤ y + h) := by
  obtain ⟨p1, p2⟩ := p
  constructor
  · rintro (⟨e, he, ho⟩ | hi)
    · rw [ring_bx] at he
      obtain ⟨_, o1, o2, o3, o4⟩ := ho
      simp only [List.mem_cons, List.not_mem_nil, or_false] at he
      rcases he with rfl | rfl | rfl | rfl <;> simp only at o1 o2 o3 o4 ⊢ <;> omega
    · rw [inn_bx hh] at hi
      have := of_decide_eq_true hi
      simp only at this ⊢; omega
  · intro ⟨q1, q2, q3, q4⟩
    simp only at q1 q2 q3 q4
    by_cases c1 : p1 = x + h
    · refine .inl ⟨((x + h, y), (x + h, y + h)), by rw [ring_bx]; simp, ?_⟩
      refine ⟨?_, by simp only; omega, by simp only; omega, by simp only; omega, by simp only; omega⟩
      simp only; subst c1; unfold sd; grind
    · by_cases c2 : p2 = y + h
      · refine .inl ⟨((x + h, y + h), (x, y + h)), by rw [ring_bx]; simp, ?_⟩
        refine ⟨?_, by simp only; omega, by simp only; omega, by simp only; omega, by simp only; omega⟩
        simp only; subst c2; unfold sd; grind
      · refine .inr ?_
        rw [inn_bx hh]
        apply decide_eq_true
        simp only; omega
end Go.Eng.Geo

/-
Fences and boxes that meet.
-/
namespace Go.Eng
open Go Geo
open scoped Classical
set_option linter.unusedVariables false
set_option linter.unusedSimpArgs false

theorem wher_inR {l : List api_Spot} {p : api_Spot} : wher l p ≠ 0 ↔ InR (l.map pt) (pt p) := by
  constructor
  · exact wher_ne
  · intro h
    unfold wher
    by_cases h1 : ∃ e ∈ ring l, onB e p = true
    · rw [if_pos h1]; omega
    · rw [if_neg h1]
      rcases h with ⟨e, he, ho⟩ | h
      · exfalso
        rw [ring_pt] at he
        obtain ⟨e', he', rfl⟩ := List.mem_map.1 he
        exact h1 ⟨e', he', onB_iff.2 ho⟩
      · rw [if_pos h]; omega
def Meets (L M : List Pt) : Prop := ∃ k : Int, 0 < k ∧ ∃ r, InR (L.map (sc k)) r ∧ InR (M.map (sc k)) r
theorem touB_iff {l m : List api_Spot} (hl : 3 ≤ l.length) (hm : 3 ≤ m.length) : touB l m = true ↔ Meets (l.map pt) (m.map pt) := by
  cases l with
  | nil => simp at hl
  | cons a l => cases m with
    | nil => simp at hm
    | cons b m =>
      have key : touB (a :: l) (b :: m) = true ↔ touP (pt a) (l.map pt) (pt b) (m.map pt) := by
        unfold touB touP
        have d1 : ∀ (u : List api_Spot) (q : api_Spot), (!decide (wher u q = 0)) = true ↔ InR (u.map pt) (pt q) := fun u q => by
          rw [Bool.not_eq_true', decide_eq_false_iff_not, ← ne_eq, wher_inR]
        show (!decide (wher (a :: l) b = 0) || !decide (wher (b :: m) a = 0) || (ring (a :: l)).any fun e => (ring (b :: m)).any fun f => meB e f) = true ↔ _
        rw [Bool.or_eq_true, Bool.or_eq_true, d1, d1, or_assoc]
        refine or_congr Iff.rfl (or_congr Iff.rfl ?_)
        rw [List.any_eq_true]
        constructor
        · rintro ⟨e, he, h⟩
          obtain ⟨f, hf, h⟩ := List.any_eq_true.1 h
          refine ⟨pte e, ?_, pte f, ?_, meB_iff.1 h⟩
          · rw [← List.map_cons, ring_pt]; exact List.mem_map_of_mem he
          · rw [← List.map_cons, ring_pt]; exact List.mem_map_of_mem hf
        · rintro ⟨e, he, f, hf, h⟩
          rw [← List.map_cons, ring_pt] at he hf
          obtain ⟨e', he', rfl⟩ := List.mem_map.1 he
          obtain ⟨f', hf', rfl⟩ := List.mem_map.1 hf
          exact ⟨e', he', List.any_eq_true.2 ⟨f', hf', meB_iff.2 h⟩⟩
      rw [key]
      constructor
      · exact tou_pt
      · rintro ⟨k, k0, r, r1, r2⟩
        exact pt_tou k0 r1 r2
/-! ### The box of a cell -/
def boxA (x y h : Int) : List api_Spot := [⟨x, y⟩, ⟨x + h, y⟩, ⟨x + h, y + h⟩, ⟨x, y + h⟩]
theorem boxA_pt (x y h : Int) : (boxA x y h).map pt = bx x y h := rfl
/-- ways that meet overlap -/
theorem meet_over {e f : Pt × Pt} (h : meetE e f) : min e.1.1 e.2.1 ≤ max f.1.1 f.2.1 ∧ min f.1.1 f.2.1 ≤ max e.1.1 e.2.1 ∧ min e.1.2 e.2.2 ≤ max f.1.2 f.2.2 ∧ min f.1.2 f.2.2 ≤ max e.1.2 e.2.2 := by
  obtain ⟨k, k0, r, ⟨_, a1, a2, a3, a4⟩, ⟨_, b1, b2, b3, b4⟩⟩ := meet_pt h
  have key : ∀ {a b c d x : Int}, min (k * a) (k * b) ≤ x → x ≤ max (k * c) (k * d) → min a b ≤ max c d := by
    intro a b c d x h1 h2
    have h : k * a ≤ k * c ∨ k * a ≤ k * d ∨ k * b ≤ k * c ∨ k * b ≤ k * d := by omega
    rcases h with h | h | h | h <;> have := cle k0 h <;> omega
  exact ⟨key a1 b2, key b1 a2, key a3 b4, key b3 a4⟩
theorem box_simple {x y h : Int} (hh : 0 < h) : Simple (bx x y h) where
  nd := by
    unfold bx
    simp only [List.nodup_cons, List.mem_cons, List.not_mem_nil, or_false, Prod.mk.injEq, not_or]
    refine ⟨⟨?_, ?_, ?_⟩, ⟨?_, ?_⟩, ?_, ?_⟩ <;> first | (simp; done) | omega | skip
    all_goals simp
  sep := by
    intro e he f hf h1 h2 h3 hm
    have ho := meet_over hm
    rw [ring_bx] at he hf
    simp only [List.mem_cons, List.not_mem_nil, or_false] at he hf
    rcases he with rfl | rfl | rfl | rfl <;> rcases hf with rfl | rfl | rfl | rfl <;> first | exact h1 rfl | exact h2 rfl | exact h3 rfl | (simp only at ho; omega)
  adj := by
    intro e he f hf h1 h2
    rw [ring_bx] at he hf
    simp only [List.mem_cons, List.not_mem_nil, or_false] at he hf
    rcases he with rfl | rfl | rfl | rfl <;> rcases hf with rfl | rfl | rfl | rfl <;> first | exact absurd rfl h1 | (simp only [Prod.mk.injEq] at h2; omega) | skip
    all_goals
      refine ⟨fun ho => ?_, fun ho => ?_⟩ <;>
      · obtain ⟨_, o1, o2, o3, o4⟩ := ho
        simp only at o1 o2 o3 o4
        omega
theorem box_right {x y h : Int} (hh : 0 < h) (hx : -20000 ≤ x ∧ x + h ≤ 20000) (hy : -20000 ≤ y ∧ y + h ≤ 20000) : FRight (boxA x y h) := by
  refine ⟨by simp [boxA], by simp [boxA], ?_, box_simple hh⟩
  intro s hs
  simp only [boxA, List.mem_cons, List.not_mem_nil, or_false] at hs
  unfold InB
  rcases hs with rfl | rfl | rfl | rfl <;> simp only <;> omega
/-! ### A spot of a fence lies between its corners -/
theorem ring_mem2 {α} {l : List α} {e : α × α} (h : e ∈ ring l) : e.1 ∈ l ∧ e.2 ∈ l := by
  obtain ⟨i, hi, rfl⟩ := List.mem_iff_getElem.1 h
  rw [ring_get (by rw [ring_len] at hi; exact hi)]
  exact ⟨List.getElem_mem _, List.getElem_mem _⟩
theorem lohi_mem {l : List Pt} {e : Pt × Pt} (h : e ∈ ring l) : lo e ∈ l ∧ hi e ∈ l := by
  have := ring_mem2 h
  unfold lo hi; split <;> simp [this]
theorem inR_y {l : List Pt} {p : Pt} {a b : Int} (h : InR l p) (hc : ∀ c ∈ l, a ≤ c.2 ∧ c.2 ≤ b) : a ≤ p.2 ∧ p.2 ≤ b := by
  rcases h with ⟨e, he, _, _, _, o3, o4⟩ | h
  · have m := ring_mem2 he
    have m1 := hc _ m.1
    have m2 := hc _ m.2
    omega
  · by_cases hh : ∃ e ∈ ring l, hitE p e = true
    · obtain ⟨e, he, hh⟩ := hh
      have m := lohi_mem he
      have m1 := hc _ m.1
      have m2 := hc _ m.2
      have := (hit_iff p e).1 hh
      omega
    · exfalso
      unfold inn at h
      rw [par_false (fun e he => by rw [← Bool.not_eq_true]; exact fun hk => hh ⟨e, he, hk⟩)] at h
      cases h
theorem inR_x {l : List Pt} {p : Pt} {a b : Int} (h : InR l p) (hc : ∀ c ∈ l, a ≤ c.1 ∧ c.1 ≤ b) : a ≤ p.1 ∧ p.1 ≤ b := by
  rcases h with ⟨e, he, _, o1, o2, _⟩ | h
  · have m := ring_mem2 he
    have m1 := hc _ m.1
    have m2 := hc _ m.2
    omega
  · constructor
    · by_cases ha : a ≤ p.1
      · exact ha
      · exfalso
        unfold inn at h
        have e1 : par (hitE p) (ring l) = par (fun e : Pt × Pt => decide (e.1.2 ≤ p.2) ^^ decide (e.2.2 ≤ p.2)) (ring l) := by
          apply par_congr
          intro e he
          have m := ring_mem2 he
          have m1 := hc _ m.1
          have m2 := hc _ m.2
          have key : ∀ u v : Pt, u.2 ≤ v.2 → a ≤ u.1 → a ≤ v.1 → (decide (u.2 ≤ p.2 ∧ p.2 < v.2 ∧ 0 < sd u.1 u.2 v.1 v.2 p.1 p.2) : Bool) = decide (u.2 ≤ p.2 ∧ p.2 < v.2) := by
            intro u v h1 h2 h3
            apply decide_eq_decide.2
            constructor
            · exact fun h => ⟨h.1, h.2.1⟩
            · rintro ⟨h4, h5⟩
              refine ⟨h4, h5, ?_⟩
              have e1 : sd u.1 u.2 v.1 v.2 p.1 p.2 = (v.1 - p.1) * (p.2 - u.2) + (v.2 - p.2) * (u.1 - p.1) := by unfold sd; grind
              rw [e1]
              have q1 := PP (show 0 ≤ v.1 - p.1 by omega) (show 0 ≤ p.2 - u.2 by omega)
              have q2 := pp (show 0 < v.2 - p.2 by omega) (show 0 < u.1 - p.1 by omega)
              omega
          unfold hitE hitU lo hi
          by_cases hc : e.1.2 ≤ e.2.2
          · simp only [hc, if_true]
            rw [key _ _ hc m1.1 m2.1]
            by_cases c1 : e.1.2 ≤ p.2 <;> by_cases c2 : e.2.2 ≤ p.2 <;> simp [c1, c2] <;> omega
          · simp only [hc, if_false]
            rw [key _ _ (by omega) m2.1 m1.1]
            by_cases c1 : e.1.2 ≤ p.2 <;> by_cases c2 : e.2.2 ≤ p.2 <;> simp [c1, c2] <;> omega
        rw [e1] at h
        have := par_ring (fun c : Pt => decide (c.2 ≤ p.2)) l
        rw [this] at h; cases h
    · by_cases hh : ∃ e ∈ ring l, hitE p e = true
      · obtain ⟨e, he, hh⟩ := hh
        have m := lohi_mem he
        have m1 := hc _ m.1
        have m2 := hc _ m.2
        obtain ⟨q1, q2, q3⟩ := (hit_iff p e).1 hh
        have e1 : sd (lo e).1 (lo e).2 (hi e).1 (hi e).2 p.1 p.2 = ((hi e).1 - p.1) * (p.2 - (lo e).2) + ((hi e).2 - p.2) * ((lo e).1 - p.1) := by unfold sd; grind
        rw [e1] at q3
        by_cases hb : p.1 ≤ b
        · exact hb
        · exfalso
          have r1 := NP (show (hi e).1 - p.1 ≤ 0 by omega) (show 0 ≤ p.2 - (lo e).2 by omega)
          have r2 := PN (show 0 ≤ (hi e).2 - p.2 by omega) (show (lo e).1 - p.1 ≤ 0 by omega)
          omega
      · exfalso
        unfold inn at h
        rw [par_false (fun e he => by rw [← Bool.not_eq_true]; exact fun hk => hh ⟨e, he, hk⟩)] at h
        cases h
end Go.Eng

/-
Loops that only gather.
-/
namespace Go.Eng
open Go
set_option linter.unusedVariables false
set_option linter.unusedSimpArgs false

/-- A loop over all elements of a list that only gathers. -/
theorem fold_loop0 {τ σ ρ α : Type} {l : List α} {f : τ → Option (τ ⊕ ρ)} (e : σ → Int → τ) (h : σ → α → σ) (fin : σ → ρ) (I : Nat → σ → Prop) {s0 : σ} (hl : (l.length : Int) ≤ 9223372036854775807)
    (hf : ∀ (i : Nat) (hi : i < l.length) (s : σ), I i s → f (e s i) = some (.inl (e (h s l[i]) (IntKind.wrap .i64 (i + 1)))) ∧ I (i + 1) (h s l[i])) (hd : ∀ s, I l.length s → f (e s l.length) = some (.inr (fin s))) (h0 : I 0 s0) :
    loopO f (e s0 0) = some (fin (l.foldl h s0)) ∧ I l.length (l.foldl h s0) := by
  have key : ∀ (n i : Nat) (s : σ), l.length - i = n → i ≤ l.length → I i s → loopO f (e s i) = some (fin ((l.drop i).foldl h s)) ∧ I l.length ((l.drop i).foldl h s) := by
    intro n
    induction n with
    | zero =>
      intro i s h1 h2 h3
      have : i = l.length := by omega
      subst this
      rw [List.drop_length]
      refine ⟨?_, h3⟩
      rw [loopO_eq, hd s h3]
      rfl
    | succ n ih =>
      intro i s h1 h2 h3
      have hi : i < l.length := by omega
      obtain ⟨g1, g2⟩ := hf i hi s h3
      obtain ⟨f1, f2⟩ := ih (i + 1) (h s l[i]) (by omega) (by omega) g2
      rw [List.drop_eq_getElem_cons hi, List.foldl_cons]
      refine ⟨?_, f2⟩
      rw [loopO_eq, g1]
      simp only [Option.bind_some]
      rw [wrap64 (by omega) (by omega)]
      exact f1
  have := key l.length 0 s0 (by omega) (by omega) h0
  simpa using this
end Go.Eng

/-
The cells of a fence: what the code finds is the row of all cells that meet it, cut off behind 1001.
-/
namespace Go.Eng
open Go Geo
set_option linter.unusedVariables false
set_option linter.unusedSimpArgs false

/-! ### The box of a cell -/
abbrev Bx := Int × Int × Int
def cstep (b : Bx) (k : UInt8) : Bx := (b.1 + ((k.toNat : Int) - 48) % 2 * (b.2.2 / 2), b.2.1 + ((k.toNat : Int) - 48) / 2 * (b.2.2 / 2), b.2.2 / 2)
def cbox (ks : List UInt8) : Bx := ks.foldl cstep (-16384, -16384, 32768)
def Dig (ks : List UInt8) : Prop := ∀ k ∈ ks, 48 ≤ k.toNat ∧ k.toNat ≤ 51
def CB (i : Nat) (b : Bx) : Prop := i ≤ 15 → b.2.2 = 2 ^ (15 - i) ∧ (-16384 ≤ b.1 ∧ b.1 + b.2.2 ≤ 16384) ∧ (-16384 ≤ b.2.1 ∧ b.2.1 + b.2.2 ≤ 16384)
theorem pow_half {i : Nat} (h : i + 1 ≤ 15) : (2 : Int) ^ (15 - i) = 2 * 2 ^ (15 - (i + 1)) := by
  rw [show 15 - i = (15 - (i + 1)) + 1 by omega, Int.pow_succ]; omega
theorem pow_pos2 (n : Nat) : (0 : Int) < 2 ^ n := Int.pow_pos (by omega)
theorem cb_step {i : Nat} {b : Bx} {k : UInt8} (h : CB i b) (hk : 48 ≤ k.toNat ∧ k.toNat ≤ 51) : CB (i + 1) (cstep b k) := by
  intro hi
  obtain ⟨h1, h2, h3⟩ := h (by omega)
  have hp := pow_half hi
  have hq := pow_pos2 (15 - (i + 1))
  have e : b.2.2 / 2 = 2 ^ (15 - (i + 1)) := by omega
  unfold cstep
  simp only [e]
  have hd : ((k.toNat : Int) - 48) % 2 = 0 ∨ ((k.toNat : Int) - 48) % 2 = 1 := by omega
  have hd2 : ((k.toNat : Int) - 48) / 2 = 0 ∨ ((k.toNat : Int) - 48) / 2 = 1 := by omega
  rcases hd with hd | hd <;> rcases hd2 with hd2 | hd2 <;> rw [hd, hd2] <;> refine ⟨trivial, ?_, ?_⟩ <;> constructor <;> omega
theorem cb_all : ∀ (ks : List UInt8) {i : Nat} {b : Bx}, CB i b → Dig ks → CB (i + ks.length) (ks.foldl cstep b)
  | [], i, b, h, _ => h
  | k :: ks, i, b, h, hd => by
    have := cb_all ks (cb_step h (hd k (by simp))) (fun x hx => hd x (by simp [hx]))
    rw [List.foldl_cons, List.length_cons, show i + (ks.length + 1) = i + 1 + ks.length by omega]
    exact this
theorem cb_zero : CB 0 (-16384, -16384, 32768) := fun _ => by decide
theorem cb_box {ks : List UInt8} (hd : Dig ks) : CB ks.length (cbox ks) := by
  have := cb_all ks cb_zero hd
  rw [Nat.zero_add] at this
  exact this
theorem cbox_snoc (ks : List UInt8) (k : UInt8) : cbox (ks ++ [k]) = cstep (cbox ks) k := by unfold cbox; simp
theorem dig_snoc {ks : List UInt8} {k : UInt8} (hd : Dig ks) (hk : 48 ≤ k.toNat ∧ k.toNat ≤ 51) : Dig (ks ++ [k]) := by
  intro x hx
  rcases List.mem_append.1 hx with hx | hx
  · exact hd x hx
  · simp at hx; subst hx; exact hk
theorem wrapu8 {n : Int} (h : 0 ≤ n ∧ n ≤ 255) : IntKind.wrap .u8 n = n := by
  unfold IntKind.wrap
  simp [IntKind.min, IntKind.max, IntKind.bits, IntKind.signed]
  omega
theorem td2 {n : Int} (h : 0 ≤ n) : n.tdiv 2 = n / 2 := Int.tdiv_eq_ediv_of_nonneg h
theorem tm2 {n : Int} (h : 0 ≤ n) : n.tmod 2 = n % 2 := Int.tmod_eq_emod_of_nonneg h

theorem cellBox_eq {ks : List UInt8} (hd : Dig ks) (hl : ks.length ≤ 15) : place_cellBox ks = some (⟨(cbox ks).1, (cbox ks).2.1⟩, (cbox ks).2.2) := by
  unfold place_cellBox
  have := fold_loop0 (l := ks) (f := place_cellBox_x1 ks) (fun (b : Bx) i => (api_Spot.mk b.1 b.2.1, b.2.2, i)) cstep (fun b => (api_Spot.mk b.1 b.2.1, b.2.2)) CB (s0 := (-16384, -16384, 32768)) (by omega)
    (fun i hi b hb => by
      have hk := hd ks[i] (List.getElem_mem _)
      refine ⟨?_, cb_step hb hk⟩
      have h15 : i + 1 ≤ 15 := by omega
      obtain ⟨h1, h2, h3⟩ := hb (by omega)
      obtain ⟨g1, g2, g3⟩ := cb_step hb hk h15
      have hp := pow_half h15
      have hq := pow_pos2 (15 - (i + 1))
      unfold place_cellBox_x1
      have hlt : (i : Int) < ks.length := by omega
      simp only [hlt, decide_true, cond_true, at_nat hi, Option.bind_some]
      rw [wrapu8 (by omega), wrap64 (n := (ks[i].toNat : Int) - 48) (by omega) (by omega), tm2 (by omega), td2 (n := (ks[i].toNat : Int) - 48) (by omega), td2 (n := b.2.2) (by omega)]
      have e : b.2.2 / 2 = 2 ^ (15 - (i + 1)) := by omega
      have e32 : (2 : Int) ^ (15 - (i + 1)) ≤ 16384 := by omega
      unfold cstep at g1 g2 g3 ⊢
      simp only [e] at g1 g2 g3 ⊢
      have hd1 : ((ks[i].toNat : Int) - 48) % 2 = 0 ∨ ((ks[i].toNat : Int) - 48) % 2 = 1 := by omega
      have hd2 : ((ks[i].toNat : Int) - 48) / 2 = 0 ∨ ((ks[i].toNat : Int) - 48) / 2 = 1 := by omega
      rw [wrap64 (n := (2 : Int) ^ (15 - (i + 1))) (by omega) (by omega), wrap64 (n := ((ks[i].toNat : Int) - 48) / 2) (by omega) (by omega)]
      rw [wrap64 (n := ((ks[i].toNat : Int) - 48) % 2 * 2 ^ (15 - (i + 1))) (by rcases hd1 with h | h <;> rw [h] <;> omega) (by rcases hd1 with h | h <;> rw [h] <;> omega)]
      rw [wrap64 (n := ((ks[i].toNat : Int) - 48) / 2 * 2 ^ (15 - (i + 1))) (by rcases hd2 with h | h <;> rw [h] <;> omega) (by rcases hd2 with h | h <;> rw [h] <;> omega)]
      rw [wrap64 (n := b.1 + ((ks[i].toNat : Int) - 48) % 2 * 2 ^ (15 - (i + 1))) (by omega) (by omega)]
      rw [wrap64 (n := b.2.1 + ((ks[i].toNat : Int) - 48) / 2 * 2 ^ (15 - (i + 1))) (by omega) (by omega)])
    (fun b _ => by unfold place_cellBox_x1; simp) cb_zero
  have h1 := this.1
  simp only at h1
  rw [h1]
  rfl

/-! ### All cells that meet a fence -/
noncomputable def kbox (ks : List UInt8) : List api_Spot := boxA (cbox ks).1 (cbox ks).2.1 (cbox ks).2.2
theorem kbox_right {ks : List UInt8} (hd : Dig ks) (hl : ks.length ≤ 15) : FRight (kbox ks) := by
  obtain ⟨h1, h2, h3⟩ := cb_box hd hl
  have := pow_pos2 (15 - ks.length)
  exact box_right (by omega) (by omega) (by omega)
noncomputable def full (l : List api_Spot) : Nat → List UInt8 → List (List UInt8)
  | 0, ks => if touB l (kbox ks) = true then [ks] else []
  | n + 1, ks => if touB l (kbox ks) = true then full l n (ks ++ [48]) ++ (full l n (ks ++ [49]) ++ (full l n (ks ++ [50]) ++ full l n (ks ++ [51]))) else []

theorem cells_loop (recF : List api_Spot → List UInt8 → Int → List (List UInt8) → Option (List (List UInt8))) (l : List api_Spot) {ks : List UInt8} (lv : Int) (out : List (List UInt8)) (hl : ks.length ≤ 15) :
    loopO (place_cells_o3_x2 recF l ks lv) (out, 0) = (recF l (ks ++ [48]) lv out).bind fun o => (recF l (ks ++ [49]) lv o).bind fun o => (recF l (ks ++ [50]) lv o).bind fun o => recF l (ks ++ [51]) lv o := by
  have hg : ∀ b : UInt8, Nat.ble (ks.length + [b].length) LIM = true := fun b => ble_lim (by simp; omega)
  have st : ∀ (o : List (List UInt8)) (i : Nat) (b : UInt8), i < 4 → ([[48], [49], [50], [51]] : List (List UInt8))[i]? = some [b] →
      loopO (place_cells_o3_x2 recF l ks lv) (o, (i : Int)) = (recF l (ks ++ [b]) lv o).bind fun o' => loopO (place_cells_o3_x2 recF l ks lv) (o', ((i + 1 : Nat) : Int)) := by
    intro o i b hi hb
    rw [loopO_eq]
    have hc : (decide ((i : Int) < (([[48], [49], [50], [51]] : List (List UInt8)).length : Int))) = true := by simp; omega
    have ha : at? ([[48], [49], [50], [51]] : List (List UInt8)) (i : Int) = some [b] := by unfold at?; rw [if_pos (by omega)]; simpa using hb
    simp only [place_cells_o3_x2, hc, cond_true, ha, Option.bind_some, hg, gd]
    have w : IntKind.wrap .i64 ((i : Int) + 1) = ((i + 1 : Nat) : Int) := by rw [wrap64 (by omega) (by omega)]; omega
    rw [w]
    cases recF l (ks ++ [b]) lv o <;> rfl
  have en : ∀ o, loopO (place_cells_o3_x2 recF l ks lv) (o, ((4 : Nat) : Int)) = some o := by
    intro o
    rw [loopO_eq]
    simp [place_cells_o3_x2]
  rw [show ((0 : Int)) = ((0 : Nat) : Int) by rfl, st out 0 48 (by omega) rfl]
  congr 1; funext o1
  rw [st o1 1 49 (by omega) rfl]
  congr 1; funext o2
  rw [st o2 2 50 (by omega) rfl]
  congr 1; funext o3
  rw [st o3 3 51 (by omega) rfl]
  cases recF l (ks ++ [51]) lv o3 with
  | none => rfl
  | some o4 => exact en o4

theorem take_take_app {α : Type} (m : Nat) (a b : List α) : (a.take m ++ b).take m = (a ++ b).take m := by
  rw [List.take_append, List.take_append, List.take_take, Nat.min_self, List.length_take]
  congr 1
  congr 1
  omega
theorem corner_box {ks : List UInt8} (hd : Dig ks) (hl : ks.length ≤ 15) :
    ([⟨(cbox ks).1, (cbox ks).2.1⟩, api_Spot.mk (IntKind.wrap .i64 ((cbox ks).1 + (cbox ks).2.2)) (cbox ks).2.1, api_Spot.mk (IntKind.wrap .i64 ((cbox ks).1 + (cbox ks).2.2)) (IntKind.wrap .i64 ((cbox ks).2.1 + (cbox ks).2.2)), api_Spot.mk (cbox ks).1 (IntKind.wrap .i64 ((cbox ks).2.1 + (cbox ks).2.2))] : List api_Spot) = kbox ks := by
  obtain ⟨h1, h2, h3⟩ := cb_box hd hl
  have := pow_pos2 (15 - ks.length)
  rw [wrap64 (n := (cbox ks).1 + (cbox ks).2.2) (by omega) (by omega), wrap64 (n := (cbox ks).2.1 + (cbox ks).2.2) (by omega) (by omega)]
  rfl

theorem cells_n {l : List api_Spot} (hr : FRight l) : ∀ (n : Nat) (ks : List UInt8) (out : List (List UInt8)) (lv : Nat), Dig ks → ks.length + n = lv → lv ≤ 15 → out.length ≤ 1001 → ∀ m : Nat,
    (n < m → place_cells_o3_n m l ks lv out = some ((out ++ full l n ks).take 1001)) ∧ ∀ x, place_cells_o3_n m l ks lv out = some x → x = (out ++ full l n ks).take 1001 := by
  intro n
  induction n with
  | zero =>
    intro ks out lv hd hlv h15 ho m
    cases m with
    | zero => exact ⟨fun h => by omega, fun x hx => by simp [place_cells_o3_n] at hx⟩
    | succ m =>
      have e : place_cells_o3_n (m + 1) l ks lv out = some ((out ++ full l 0 ks).take 1001) := by
        simp only [place_cells_o3_n, cellBox_eq hd (by omega), Option.bind_some, place_cells_o3_x1, corner_box hd (show ks.length ≤ 15 by omega), touch_eq hr (kbox_right hd (by omega)), full]
        by_cases h1 : (1000 : Int) < out.length
        · simp only [h1, decide_true, cond_true, Option.bind_some]
          rw [List.take_append_of_le_length (by omega), List.take_of_length_le (by omega)]
        · simp only [h1, decide_false, cond_false, Option.bind_some]
          cases htb : touB l (kbox ks) with
          | false =>
            simp only [Bool.not_false, cond_true, Bool.false_eq_true, if_false, List.append_nil]
            rw [List.take_of_length_le (by omega)]
          | true =>
            have hz : (decide ((ks.length : Int) = (lv : Int))) = true := by simp; omega
            simp only [Bool.not_true, cond_false, if_true, hz, cond_true]
            rw [List.take_of_length_le (by simp; omega)]
            rw [show Nat.ble (out.length + [ks].length) LIM = true from ble_lim (by simp; omega)]
            rfl
      rw [e]
      exact ⟨fun _ => rfl, fun x hx => (Option.some.inj hx).symm⟩
  | succ n ih =>
    intro ks out lv hd hlv h15 ho m
    cases m with
    | zero => exact ⟨fun h => by omega, fun x hx => by simp [place_cells_o3_n] at hx⟩
    | succ m =>
      have h0 : ∀ (b : UInt8), 48 ≤ b.toNat ∧ b.toNat ≤ 51 → ∀ o : List (List UInt8), o.length ≤ 1001 → (n < m → place_cells_o3_n m l (ks ++ [b]) lv o = some ((o ++ full l n (ks ++ [b])).take 1001)) ∧ ∀ x, place_cells_o3_n m l (ks ++ [b]) lv o = some x → x = (o ++ full l n (ks ++ [b])).take 1001 :=
        fun b hb o ho' => ih (ks ++ [b]) o lv (dig_snoc hd hb) (by simp; omega) h15 ho' m
      have hlen : ∀ z : List (List UInt8), (z.take 1001).length ≤ 1001 := fun z => List.length_take_le _ _
      simp only [place_cells_o3_n, cellBox_eq hd (show ks.length ≤ 15 by omega), Option.bind_some, place_cells_o3_x1, corner_box hd (show ks.length ≤ 15 by omega), touch_eq hr (kbox_right hd (show ks.length ≤ 15 by omega)), full, cells_loop _ l (ks := ks) lv out (by omega)]
      by_cases h1 : (1000 : Int) < out.length
      · simp only [h1, decide_true, cond_true, Option.bind_some]
        rw [List.take_append_of_le_length (by omega), List.take_of_length_le (by omega)]
        exact ⟨fun _ => rfl, fun x hx => (Option.some.inj hx).symm⟩
      · simp only [h1, decide_false, cond_false, Option.bind_some]
        cases htb : touB l (kbox ks) with
        | false =>
          simp only [Bool.not_false, cond_true, Bool.false_eq_true, if_false, List.append_nil]
          rw [List.take_of_length_le (by omega)]
          exact ⟨fun _ => rfl, fun x hx => (Option.some.inj hx).symm⟩
        | true =>
          have hz : (decide ((ks.length : Int) = (lv : Int))) = false := by simp; omega
          simp only [Bool.not_true, cond_false, if_true, hz]
          have ee : ((((out ++ full l n (ks ++ [48])).take 1001 ++ full l n (ks ++ [49])).take 1001 ++ full l n (ks ++ [50])).take 1001 ++ full l n (ks ++ [51])).take 1001 =
              (out ++ (full l n (ks ++ [48]) ++ (full l n (ks ++ [49]) ++ (full l n (ks ++ [50]) ++ full l n (ks ++ [51]))))).take 1001 := by
            rw [take_take_app, ← List.append_assoc, ← List.append_assoc, ← List.append_assoc]
            rw [show ((out ++ full l n (ks ++ [48])).take 1001 ++ full l n (ks ++ [49])).take 1001 = (out ++ full l n (ks ++ [48]) ++ full l n (ks ++ [49])).take 1001 from take_take_app _ _ _]
            rw [← take_take_app 1001 ((out ++ full l n (ks ++ [48]) ++ full l n (ks ++ [49])).take 1001 ++ full l n (ks ++ [50])), take_take_app 1001 (out ++ full l n (ks ++ [48]) ++ full l n (ks ++ [49])), take_take_app]
          rw [← ee]
          constructor
          · intro hm
            have hm : n < m := by omega
            rw [(h0 48 (by decide) out ho).1 hm, Option.bind_some, (h0 49 (by decide) _ (hlen _)).1 hm, Option.bind_some, (h0 50 (by decide) _ (hlen _)).1 hm, Option.bind_some, (h0 51 (by decide) _ (hlen _)).1 hm]
            rfl
          · intro x hx
            cases q1 : place_cells_o3_n m l (ks ++ [48]) lv out with
            | none => rw [q1] at hx; simp at hx
            | some o1 =>
              rw [q1, Option.bind_some] at hx
              have r1 := (h0 48 (by decide) out ho).2 _ q1
              have s1 : o1.length ≤ 1001 := by rw [r1]; exact hlen _
              cases q2 : place_cells_o3_n m l (ks ++ [49]) lv o1 with
              | none => rw [q2] at hx; simp at hx
              | some o2 =>
                rw [q2, Option.bind_some] at hx
                have r2 := (h0 49 (by decide) o1 s1).2 _ q2
                have s2 : o2.length ≤ 1001 := by rw [r2]; exact hlen _
                cases q3 : place_cells_o3_n m l (ks ++ [50]) lv o2 with
                | none => rw [q3] at hx; simp at hx
                | some o3 =>
                  rw [q3, Option.bind_some] at hx
                  have r3 := (h0 50 (by decide) o2 s2).2 _ q3
                  have s3 : o3.length ≤ 1001 := by rw [r3]; exact hlen _
                  cases q4 : place_cells_o3_n m l (ks ++ [51]) lv o3 with
                  | none => rw [q4] at hx; simp at hx
                  | some o4 =>
                    rw [q4] at hx
                    have r4 := (h0 51 (by decide) o3 s3).2 _ q4
                    simp at hx
                    rw [← hx, r4, r3, r2, r1]
theorem cells_eq {l : List api_Spot} (hr : FRight l) {n : Nat} {ks : List UInt8} {out : List (List UInt8)} {lv : Nat} (hd : Dig ks) (hlv : ks.length + n = lv) (h15 : lv ≤ 15) (ho : out.length ≤ 1001) :
    place_cells_o3 l ks lv out = some ((out ++ full l n ks).take 1001) := by
  unfold place_cells_o3
  exact fixO_eq ((cells_n hr n ks out lv hd hlv h15 ho (n + 1)).1 (by omega)) fun m x h => (cells_n hr n ks out lv hd hlv h15 ho m).2 x h

/-- the first call: nothing is there yet -/
theorem cells_first {l : List api_Spot} (hr : FRight l) {lv : Nat} (h15 : lv ≤ 15) : place_cells_n3 l [] lv = some ((full l lv []).take 1001) := by
  have hd : Dig [] := fun k hk => by cases hk
  have key : ∀ m, place_cells_n3_n (m + 1) l [] lv = some ((full l lv []).take 1001) := by
    intro m
    have hlp : ∀ (o : List (List UInt8)), loopO (place_cells_n3_x2 (place_cells_n3_n m) l [] lv) (o, 0) = loopO (place_cells_o3_x2 place_cells_o3 l [] lv) (o, 0) := by
      intro o
      have : place_cells_n3_x2 (place_cells_n3_n m) l [] lv = place_cells_o3_x2 place_cells_o3 l [] lv := by
        funext ⟨a, b⟩
        rfl
      rw [this]
    simp only [place_cells_n3_n, cellBox_eq hd (show ([] : List UInt8).length ≤ 15 by simp), Option.bind_some, place_cells_n3_x1, corner_box hd (show ([] : List UInt8).length ≤ 15 by simp), touch_eq hr (kbox_right hd (show ([] : List UInt8).length ≤ 15 by simp)), hlp, cells_loop _ l (ks := []) lv [] (by simp)]
    have h0 : ¬ ((1000 : Int) < 0) := by omega
    simp only [h0, decide_false, cond_false, Option.bind_some]
    cases lv with
    | zero =>
      cases htb : touB l (kbox []) with
      | false => simp [full, htb]
      | true => simp [full, htb]
    | succ n =>
      have hz : (decide ((([] : List UInt8).length : Int) = ((n + 1 : Nat) : Int))) = false := by simp; omega
      cases htb : touB l (kbox []) with
      | false => simp [full, htb]
      | true =>
        simp only [Bool.not_true, cond_false, hz, full, htb, if_true]
        have hlen : ∀ z : List (List UInt8), (z.take 1001).length ≤ 1001 := fun z => List.length_take_le _ _
        have cc : ∀ (b : UInt8), 48 ≤ b.toNat ∧ b.toNat ≤ 51 → ∀ o : List (List UInt8), o.length ≤ 1001 → place_cells_o3 l ([] ++ [b]) ((n + 1 : Nat) : Int) o = some ((o ++ full l n ([] ++ [b])).take 1001) := fun b hb o ho =>
          cells_eq hr (dig_snoc hd hb) (by simp; omega) h15 ho
        rw [cc 48 (by decide) [] (by simp), Option.bind_some, cc 49 (by decide) _ (hlen _), Option.bind_some, cc 50 (by decide) _ (hlen _), Option.bind_some, cc 51 (by decide) _ (hlen _)]
        simp only [Option.bind_some, List.nil_append]
        congr 1
        rw [take_take_app, ← List.append_assoc, ← List.append_assoc]
        rw [take_take_app 1001 (full l n [48]), ← take_take_app 1001 ((full l n [48] ++ full l n [49]).take 1001 ++ full l n [50]), take_take_app 1001 (full l n [48] ++ full l n [49]), take_take_app]
  unfold place_cells_n3
  refine fixO_eq (key 0) fun m x h => ?_
  cases m with
  | zero => simp [place_cells_n3_n] at h
  | succ m => rw [key m] at h; exact (Option.some.inj h).symm
end Go.Eng

/-
What the law asks of each package once.
-/
namespace Go.Eng
open Go
end Go.Eng

/-
The law TopCellsAndFences: two fences that meet have a cell in common.
-/
namespace Go.Eng
open Go Geo
set_option linter.unusedVariables false
set_option linter.unusedSimpArgs false

/-- does a spot, perhaps a broken one, lie in a box? -/
def InBx (k : Int) (b : Bx) (r : Pt) : Prop := k * b.1 ≤ r.1 ∧ r.1 ≤ k * b.1 + k * b.2.2 ∧ k * b.2.1 ≤ r.2 ∧ r.2 ≤ k * b.2.1 + k * b.2.2
theorem inR_kbox {k : Int} (hk : 0 < k) {ks : List UInt8} (hd : Dig ks) (hl : ks.length ≤ 15) {r : Pt} : InR (((kbox ks).map pt).map (sc k)) r ↔ InBx k (cbox ks) r := by
  obtain ⟨h1, h2, h3⟩ := cb_box hd hl
  have hp := pow_pos2 (15 - ks.length)
  unfold kbox
  rw [boxA_pt, bx_sc, inR_bx (pp hk (by omega))]
  exact Iff.rfl
/-- one of the four parts has it -/
theorem part_has {k : Int} (hk : 0 < k) {ks : List UInt8} (hd : Dig ks) (hl : ks.length + 1 ≤ 15) {r : Pt} (h : InBx k (cbox ks) r) :
    ∃ b : UInt8, (b = 48 ∨ b = 49 ∨ b = 50 ∨ b = 51) ∧ InBx k (cbox (ks ++ [b])) r := by
  obtain ⟨h1, h2, h3⟩ := cb_box hd (by omega)
  have hp := pow_half hl
  have hq := pow_pos2 (15 - (ks.length + 1))
  obtain ⟨g1, g2, g3, g4⟩ := h
  have e : (cbox ks).2.2 / 2 = 2 ^ (15 - (ks.length + 1)) := by omega
  obtain ⟨H, hH⟩ : ∃ H : Int, H = 2 ^ (15 - (ks.length + 1)) := ⟨_, rfl⟩
  rw [← hH] at hp hq e
  rw [h1, hp] at g2 g4
  have e2 : k * (2 * H) = 2 * (k * H) := by grind
  rw [e2] at g2 g4
  have fin : ∀ b : UInt8, InBx k (cbox (ks ++ [b])) r ↔ (k * ((cbox ks).1 + ((b.toNat : Int) - 48) % 2 * H) ≤ r.1 ∧ r.1 ≤ k * ((cbox ks).1 + ((b.toNat : Int) - 48) % 2 * H) + k * H ∧ k * ((cbox ks).2.1 + ((b.toNat : Int) - 48) / 2 * H) ≤ r.2 ∧ r.2 ≤ k * ((cbox ks).2.1 + ((b.toNat : Int) - 48) / 2 * H) + k * H) := by
    intro b
    rw [cbox_snoc]
    unfold cstep InBx
    simp only [e]
  have u0 : (((48 : UInt8).toNat : Int) - 48) % 2 = 0 ∧ (((48 : UInt8).toNat : Int) - 48) / 2 = 0 := by decide
  have u1 : (((49 : UInt8).toNat : Int) - 48) % 2 = 1 ∧ (((49 : UInt8).toNat : Int) - 48) / 2 = 0 := by decide
  have u2 : (((50 : UInt8).toNat : Int) - 48) % 2 = 0 ∧ (((50 : UInt8).toNat : Int) - 48) / 2 = 1 := by decide
  have u3 : (((51 : UInt8).toNat : Int) - 48) % 2 = 1 ∧ (((51 : UInt8).toNat : Int) - 48) / 2 = 1 := by decide
  by_cases c1 : r.1 ≤ k * (cbox ks).1 + k * H <;> by_cases c2 : r.2 ≤ k * (cbox ks).2.1 + k * H
  · refine ⟨48, by simp, (fin 48).2 ?_⟩
    rw [u0.1, u0.2, Int.zero_mul, Int.add_zero, Int.add_zero]; omega
  · refine ⟨50, by simp, (fin 50).2 ?_⟩
    rw [u2.1, u2.2, Int.zero_mul, Int.one_mul, Int.add_zero, Int.mul_add]; omega
  · refine ⟨49, by simp, (fin 49).2 ?_⟩
    rw [u1.1, u1.2, Int.zero_mul, Int.one_mul, Int.add_zero, Int.mul_add]; omega
  · refine ⟨51, by simp, (fin 51).2 ?_⟩
    rw [u3.1, u3.2, Int.one_mul, Int.mul_add, Int.mul_add]; omega
theorem dig_of {b : UInt8} (h : b = 48 ∨ b = 49 ∨ b = 50 ∨ b = 51) : 48 ≤ b.toNat ∧ b.toNat ≤ 51 := by rcases h with rfl | rfl | rfl | rfl <;> decide
theorem touch_of {l : List api_Spot} (hl : FRight l) {k : Int} (hk : 0 < k) {r : Pt} (h : InR ((l.map pt).map (sc k)) r) {ks : List UInt8} (hd : Dig ks) (hk15 : ks.length ≤ 15) (hb : InBx k (cbox ks) r) : touB l (kbox ks) = true :=
  (touB_iff hl.1 (kbox_right hd hk15).1).2 ⟨k, hk, r, h, (inR_kbox hk hd hk15).2 hb⟩
theorem in_whole {l : List api_Spot} (hl : FIn l) {k : Int} (hk : 0 < k) {r : Pt} (h : InR ((l.map pt).map (sc k)) r) : InBx k (cbox []) r := by
  have hc : ∀ c ∈ (l.map pt).map (sc k), (k * (-16384) ≤ c.1 ∧ c.1 ≤ k * 16384) ∧ (k * (-16384) ≤ c.2 ∧ c.2 ≤ k * 16384) := by
    intro c hc
    obtain ⟨d, hd, rfl⟩ := List.mem_map.1 hc
    obtain ⟨s, hs, rfl⟩ := List.mem_map.1 hd
    have := hl.2 s hs
    unfold InS at this
    unfold sc pt
    refine ⟨⟨?_, ?_⟩, ?_, ?_⟩ <;> exact Int.mul_le_mul_of_nonneg_left (by omega) (by omega)
  have h1 := inR_x h (fun c hx => (hc c hx).1)
  have h2 := inR_y h (fun c hx => (hc c hx).2)
  have e : cbox [] = (-16384, -16384, 32768) := rfl
  unfold InBx
  rw [e]
  simp only
  have e1 : k * 16384 = k * (-16384) + k * 32768 := by omega
  omega

/-! ### Lists of names -/
end Go.Eng

