/-
What the plain functions of the law VisitsAreApart answer, part 1.
-/
import Derived.Test.YtddkiphgahpfdaaGreatDoorGenF
import Derived.KernelRfl
import Derived.Test.YtddkiphgahpfdaaGreatDoorEngV
/-
Plain functions: what they answer, in total. Loops by an invariant and a measure.
-/
namespace Go.Eng
open Go
set_option linter.unusedVariables false
set_option linter.unusedSimpArgs false

def Ok {α : Type} (x : Option α) (P : α → Prop) : Prop := ∃ r, x = some r ∧ P r
section
variable {α β σ ρ : Type} {P Q : α → Prop} {R : β → Prop}
theorem Ok.some {r : α} (h : P r) : Ok (some r) P := ⟨r, rfl, h⟩
theorem Ok.mono {x : Option α} (h : Ok x P) (hq : ∀ r, P r → Q r) : Ok x Q := let ⟨r, h1, h2⟩ := h; ⟨r, h1, hq r h2⟩
theorem Ok.bind {x : Option α} {f : α → Option β} (h : Ok x P) (hf : ∀ r, P r → Ok (f r) R) : Ok (x.bind f) R := by
  obtain ⟨r, rfl, hr⟩ := h
  exact hf r hr
theorem Ok.cond {b : Bool} {x y : Option α} (ht : b = true → Ok x P) (hf : b = false → Ok y P) : Ok (cond b x y) P := by
  cases b
  · exact hf rfl
  · exact ht rfl
theorem Ok.gd {b : Bool} {x : Option α} (hb : b = true) (h : Ok x P) : Ok (gd b x) P := by
  subst hb; exact h
theorem Ok.eq {x : Option α} {r : α} (h : Ok x fun y => y = r) : x = Option.some r := by
  obtain ⟨y, h1, h2⟩ := h
  rw [h1, h2]
theorem Ok.of_eq {x : Option α} {r : α} (h : x = Option.some r) (hp : P r) : Ok x P := ⟨r, h, hp⟩

theorem loop_ok {f : σ → Option (σ ⊕ ρ)} {Q : ρ → Prop} (I : σ → Prop) (μ : σ → Nat)
    (step : ∀ s, I s → Ok (f s) fun x => match x with | .inl s' => I s' ∧ μ s' < μ s | .inr r => Q r) {s : σ} (h : I s) : Ok (loopO f s) Q := by
  generalize hn : μ s = n
  induction n using Nat.strongRecOn generalizing s with
  | _ n ih =>
    obtain ⟨x, h1, h2⟩ := step s h
    cases x with
    | inl s' =>
      obtain ⟨h3, h4⟩ := h2
      obtain ⟨r, h5, h6⟩ := ih (μ s') (by omega) h3 rfl
      refine ⟨r, ?_, h6⟩
      rw [loopO_eq, h1]
      exact h5
    | inr r =>
      refine ⟨r, ?_, h2⟩
      rw [loopO_eq, h1]
      rfl

theorem at_lt {l : List α} {n : Int} (h : 0 ≤ n) (h2 : n < l.length) : at? l n = Option.some (l[n.toNat]'(by omega)) := by
  unfold at?
  rw [if_pos h, List.getElem?_eq_getElem]
theorem at_nat {l : List α} {n : Nat} (h : n < l.length) : at? l (n : Int) = Option.some l[n] := by
  rw [at_lt (by omega) (by omega)]
  simp
theorem at_ok {l : List α} {n : Int} (h : 0 ≤ n) (h2 : n < l.length) : Ok (at? l n) (fun y => l[n.toNat]? = Option.some y) := by
  refine ⟨_, at_lt h h2, ?_⟩
  rw [List.getElem?_eq_getElem]
theorem at_mem {l : List α} {n : Int} (h : 0 ≤ n) (h2 : n < l.length) : Ok (at? l n) (fun y => y ∈ l) := by
  refine (at_ok h h2).mono fun y hy => List.mem_of_getElem? hy
end

/-! ### Integers of 64 bits -/
def I64 (n : Int) : Prop := -9223372036854775808 ≤ n ∧ n ≤ 9223372036854775807
theorem wrap64 {n : Int} (h : -9223372036854775808 ≤ n) (h2 : n ≤ 9223372036854775807) : IntKind.wrap .i64 n = n := by
  unfold IntKind.wrap
  simp [IntKind.min, IntKind.max, IntKind.bits, IntKind.signed]
  omega
theorem tmod_nonneg {a b : Int} (h : 0 ≤ a) : 0 ≤ a.tmod b := Int.tmod_nonneg b h
theorem tmod_lt' {a b : Int} (h : 0 < b) : a.tmod b < b := Int.tmod_lt_of_pos a h
theorem lim_eq : LIM = 137438953472 := by decide
theorem ble_lim {n : Nat} (h : n ≤ 137438953472) : Nat.ble n LIM = true := by rw [Nat.ble_eq, lim_eq]; exact h
end Go.Eng

/-
The streams.
-/
namespace Go.Eng
open Go
set_option linter.unusedVariables false
set_option linter.unusedSimpArgs false

theorem wrap_I64 (n : Int) : I64 (IntKind.wrap .i64 n) := by
  unfold IntKind.wrap I64
  simp [IntKind.bits, IntKind.signed]
  split <;> omega

theorem Below_eq {x n : Int} (hx : I64 x) (hn : I64 n) : fleetmake_Below x n = some (if n < 1 then 0 else x % n) := by
  unfold I64 at hx hn
  unfold fleetmake_Below fleetmake_Below_x1
  by_cases h : n < 1
  · simp [h]
  · have h0 : (n == 0) = false := by simp; omega
    have e := Int.emod_eq_tmod (a := x) (b := n)
    have nn := Int.emod_nonneg x (show n ≠ 0 by omega)
    have lt := Int.emod_lt_of_pos x (show 0 < n by omega)
    simp only [h, decide_false, cond_false, h0, Bool.not_false, gd, cond_true, Option.bind_some, if_false]
    by_cases h3 : x.tmod n < 0
    · simp only [h3, decide_true, cond_true, Option.bind_some]
      split at e
      · omega
      · rw [wrap64 (by omega) (by omega)]
        congr 1
        omega
    · simp only [h3, decide_false, cond_false, Option.bind_some]
      congr 1
      split at e <;> omega
theorem Below_ok {x n : Int} (hx : I64 x) (hn : I64 n) : Ok (fleetmake_Below x n) (fun r => (1 ≤ n → 0 ≤ r ∧ r < n) ∧ (n < 1 → r = 0)) := by
  refine .of_eq (Below_eq hx hn) ⟨fun h => ?_, fun h => by simp [h]⟩
  rw [if_neg (by omega)]
  exact ⟨Int.emod_nonneg _ (by omega), Int.emod_lt_of_pos _ (by omega)⟩

/-- A stream whose numbers are of 64 bits, of which at most k were taken. -/
def StrOk (k : Nat) (s : fleetmake_Stream) : Prop := 0 ≤ s.at_ ∧ s.at_ ≤ k ∧ s.L.length ≤ 9223372036854775807 ∧ ∀ n ∈ s.L, I64 n
theorem StrOk.mono {k k' : Nat} {s : fleetmake_Stream} (h : StrOk k s) (hk : k ≤ k') : StrOk k' s := ⟨h.1, by have := h.2.1; omega, h.2.2⟩
/-- One number further. -/
abbrev nxt (s : fleetmake_Stream) : fleetmake_Stream := fleetmake_Stream.mk s.L (IntKind.wrap .i64 (s.at_ + 1))
theorem StrOk.nxt {k : Nat} {s : fleetmake_Stream} (h : StrOk k s) (hk : k < 1099511627776) : StrOk (k + 1) (nxt s) := by
  obtain ⟨h1, h2, h3, h4⟩ := h
  refine ⟨?_, ?_, h3, h4⟩
  · show 0 ≤ IntKind.wrap .i64 (s.at_ + 1)
    rw [wrap64 (by omega) (by omega)]; omega
  · show IntKind.wrap .i64 (s.at_ + 1) ≤ _
    rw [wrap64 (by omega) (by omega)]; omega

theorem Next_ok {k : Nat} {s : fleetmake_Stream} {n : Int} (h : StrOk k s) (hk : k < 1099511627776) (hn : I64 n) : Ok (fleetmake_Stream_Next s n) (fun r => (1 ≤ n → 0 ≤ r ∧ r < n) ∧ (n < 1 → r = 0)) := by
  obtain ⟨h1, h2, h3, h4⟩ := h
  unfold fleetmake_Stream_Next
  refine .cond (fun _ => ?_) (fun hl => ?_)
  · exact (Below_ok (wrap_I64 _) hn).bind fun r hr => .some hr
  · have hl' : s.L.length ≠ 0 := by simpa using hl
    have e1 : IntKind.wrap .i64 (s.at_ + 1) = s.at_ + 1 := wrap64 (by omega) (by omega)
    have e2 : IntKind.wrap .i64 (s.at_ + 1 - 1) = s.at_ := by rw [wrap64 (by omega) (by omega)]; omega
    refine .gd (by simpa using hl') ?_
    rw [e1, e2]
    refine (at_mem (tmod_nonneg h1) (tmod_lt' (by omega))).bind fun y hy => ?_
    refine (Below_ok (h4 y hy) (by unfold I64; omega)).bind fun r1 hr1 => ?_
    exact (Below_ok (wrap_I64 _) hn).bind fun r hr => .some hr

theorem Pick_ok {k : Nat} {s : fleetmake_Stream} {l : List Int} (h : StrOk k s) (hk : k < 1099511627776) (hl : 0 < l.length) (hl2 : l.length < 1000) : Ok (fleetmake_Stream_Pick_o1 s l) (fun r => r ∈ l) := by
  unfold fleetmake_Stream_Pick_o1
  refine (Next_ok h hk (by unfold I64; omega)).bind fun r hr => ?_
  have := hr.1 (by omega)
  exact (at_mem this.1 this.2).bind fun y hy => .some hy
theorem Flip_ok {k : Nat} {s : fleetmake_Stream} {n : Int} (h : StrOk k s) (hk : k < 1099511627776) (hn : I64 n) : Ok (fleetmake_Stream_Flip s n) (fun _ => True) := by
  unfold fleetmake_Stream_Flip
  exact (Next_ok h hk hn).bind fun r hr => .some trivial
theorem Range_ok {k : Nat} {s : fleetmake_Stream} {low high : Int} (h : StrOk k s) (hk : k < 1099511627776) (hlow : -4611686018427387903 < low ∧ low < 4611686018427387904) (hh : -4611686018427387904 < high ∧ high < 4611686018427387903) :
    Ok (fleetmake_Stream_Range s low high) (fun r => StrOk (k + 1) r.1 ∧ low ≤ r.2 ∧ (low ≤ high → r.2 ≤ high) ∧ (high < low → r.2 = low)) := by
  unfold fleetmake_Stream_Range
  refine .cond (fun hc => ?_) (fun hc => ?_)
  · have hc' : high < low := by simpa using hc
    exact .some ⟨h.mono (by omega), Int.le_refl _, by intro h; omega, fun _ => rfl⟩
  · have hc' : ¬ high < low := by simpa using hc
    have e1 : IntKind.wrap .i64 (high - low) = high - low := wrap64 (by omega) (by omega)
    have e2 : IntKind.wrap .i64 (high - low + 1) = high - low + 1 := wrap64 (by omega) (by omega)
    rw [e1, e2]
    refine (Next_ok h hk (by unfold I64; omega)).bind fun r hr => ?_
    have := hr.1 (by omega)
    refine .some ⟨h.nxt hk, ?_, fun _ => ?_, fun h => by omega⟩
    · show low ≤ IntKind.wrap .i64 (low + r)
      rw [wrap64 (by omega) (by omega)]; omega
    · show IntKind.wrap .i64 (low + r) ≤ high
      rw [wrap64 (by omega) (by omega)]; omega
end Go.Eng

/-
Loops over the elements of a list; keys.
-/
namespace Go.Eng
open Go
set_option linter.unusedVariables false
set_option linter.unusedSimpArgs false

/-- The first answer of the elements from number k on. -/
def scan {α ρ : Type} (g : Nat → α → Option ρ) : Nat → List α → Option ρ
  | _, [] => none
  | k, x :: xs => match g k x with
    | some r => some r
    | none => scan g (k + 1) xs

theorem drop_get {α : Type} {l : List α} {i : Nat} (h : i < l.length) : l.drop i = l[i] :: l.drop (i + 1) := List.drop_eq_getElem_cons h

/-- A loop over a list that ends at the first element with an answer. -/
theorem range_loop {α ρ : Type} {l : List α} {f : Int → Option (Int ⊕ ρ)} (g : Nat → α → Option ρ) (done : ρ) (hl : (l.length : Int) ≤ 9223372036854775807)
    (hf : ∀ (i : Nat) (h : i < l.length), f i = some (match g i l[i] with | none => .inl (IntKind.wrap .i64 (i + 1)) | some r => .inr r)) (hd : f l.length = some (.inr done)) :
    loopO f 0 = some ((scan g 0 l).getD done) := by
  have key : ∀ (n i : Nat), l.length - i = n → i ≤ l.length → loopO f i = some ((scan g i (l.drop i)).getD done) := by
    intro n
    induction n with
    | zero =>
      intro i h1 h2
      have : i = l.length := by omega
      subst this
      rw [loopO_eq, hd, List.drop_length]
      rfl
    | succ n ih =>
      intro i h1 h2
      have hi : i < l.length := by omega
      rw [loopO_eq, hf i hi, drop_get hi]
      simp only [scan]
      cases hg : g i l[i] with
      | some r => rfl
      | none =>
        simp only [Option.bind_some]
        rw [wrap64 (by omega) (by omega)]
        exact ih (i + 1) (by omega) (by omega)
  exact key l.length 0 (by omega) (by omega)

/-! ### Keys -/
def keyC (c : UInt8) : Bool := (97 ≤ c.toNat && c.toNat ≤ 122) || (48 ≤ c.toNat && c.toNat ≤ 57) || c.toNat == 45 || c.toNat == 95
def keyB (s : List UInt8) : Bool := match s with
  | [] => false
  | c :: l => decide (l.length < 40) && (97 ≤ c.toNat && c.toNat ≤ 122) && (c :: l).all keyC

theorem u8_lt (c : UInt8) : c.toNat < 256 := c.toNat_lt

theorem u8_all {p : UInt8 → Bool} (h : ((List.range 256).all fun n => p (UInt8.ofNat n)) = true) (c : UInt8) : p c = true := by
  have := List.all_eq_true.1 h c.toNat (List.mem_range.2 (u8_lt c))
  simpa using this
theorem Key_x3 (c : UInt8) : base_Key_x3 c = some (!keyC c) := by
  have := u8_all (p := fun c => decide (base_Key_x3 c = some (!keyC c))) (by decide +kernel) c
  simpa using this
theorem Key_x2 (s : List UInt8) (hs : (s.length : Int) ≤ 9223372036854775807) : loopO (base_Key_x2 s) 0 = some (cond (s.all keyC) (.inl ()) (.inr ())) := by
  rw [range_loop (l := s) (fun _ c => cond (keyC c) none (some (.inr ()))) (.inl ()) hs]
  · congr 1
    generalize 0 = k
    induction s generalizing k with
    | nil => rfl
    | cons c s ih =>
      simp only [scan, List.all_cons]
      cases keyC c with
      | true => simp only [cond_true, Bool.true_and]; exact ih (by simp at hs; omega) (k + 1)
      | false => rfl
  · intro i hi
    unfold base_Key_x2
    rw [at_nat hi]
    have : ((i : Int) < s.length) := by omega
    simp only [this, decide_true, cond_true, Option.bind_some, Key_x3]
    cases keyC s[i] <;> rfl
  · unfold base_Key_x2
    simp
theorem Key_eq (s : List UInt8) (hs : (s.length : Int) ≤ 9223372036854775807) : base_Key s = some (keyB s) := by
  unfold base_Key base_Key_x1
  cases s with
  | nil => simp [keyB]
  | cons c l =>
    rw [Key_x2 _ hs]
    have h0 : at? (c :: l) 0 = some c := rfl
    simp only [reduceCtorEq, decide_false, cond_false, h0, Option.bind_some]
    unfold keyB
    have h40 : ((40 : Int) < ((c :: l).length : Int)) ↔ ¬ l.length < 40 := by simp; omega
    by_cases h1 : l.length < 40
    · have h1' : ¬ ((40 : Int) < ((c :: l).length : Int)) := by rw [h40]; simpa using h1
      simp only [h1', decide_false, cond_false, h1, decide_true, Bool.true_and]
      by_cases h2 : (c.toNat : Int) < 97
      · have : ¬ 97 ≤ c.toNat := by omega
        simp [h2, this]
      · by_cases h3 : (122 : Int) < c.toNat
        · have : ¬ c.toNat ≤ 122 := by omega
          simp [h2, h3, this]
        · have g1 : 97 ≤ c.toNat := by omega
          have g2 : c.toNat ≤ 122 := by omega
          simp only [h2, decide_false, cond_false, h3, Option.bind_some, g1, g2, decide_true, Bool.and_self, Bool.true_and]
          cases (c :: l).all keyC <;> rfl
    · have h1' : ((40 : Int) < ((c :: l).length : Int)) := by rw [h40]; exact h1
      simp only [h1', h1, decide_true, decide_false, cond_true, Option.bind_some, Bool.false_and]
end Go.Eng

/-
Small checks; the order of measurements.
-/
namespace Go.Eng
open Go
set_option linter.unusedVariables false
set_option linter.unusedSimpArgs false

theorem Out_eq (n low high : Int) : base_Out n low high = some (decide (n < low) || decide (high < n)) := by
  unfold base_Out base_Out_x1
  by_cases h : n < low <;> simp [h]
theorem Moment_eq (n : Int) : base_Moment n = some (decide (0 ≤ n) && decide (n ≤ 345686399999)) := by
  unfold base_Moment
  rw [Out_eq]
  simp only [Option.bind_some]
  congr 1
  rw [Bool.eq_iff_iff]
  simp
theorem in_eq (n low high : Int) : fleetref2_in n low high = some (decide (low ≤ n) && decide (n ≤ high)) := by
  unfold fleetref2_in fleetref2_in_x1
  by_cases h : low ≤ n <;> simp [h]
/-! ### Orders -/
def cmpI (a b : Int) : Int := if a < b then -1 else if b < a then 1 else 0
def or0 (a b : Int) : Int := if a = 0 then b else a
theorem cmpB_self : ∀ a : List UInt8, Lib.compareBytes a a = 0
  | [] => rfl
  | x :: a => by
    unfold Lib.compareBytes
    simp [UInt8.lt_irrefl, cmpB_self a]
end Go.Eng

/-
Checks of measurements and series, both ways.
-/
namespace Go.Eng
open Go
set_option linter.unusedVariables false
set_option linter.unusedSimpArgs false

theorem cmpInt_eq (a b : Int) : cmp_Compare_int a b = some (cmpI a b) := by
  unfold cmp_Compare_int cmp_isNaN_int cmpI
  by_cases h1 : a < b
  · simp [h1]
  · by_cases h2 : b < a <;> simp [h1, h2]
theorem Or_eq (l : List Int) (hl : (l.length : Int) ≤ 9223372036854775807) : cmp_Or_int l = some ((l.find? fun x => !decide (x = 0)).getD 0) := by
  unfold cmp_Or_int
  rw [range_loop (l := l) (fun _ x => cond (!decide (x = 0)) (some (.inr x)) none) (.inl ()) hl]
  · simp only [Option.bind_some]
    generalize 0 = k
    induction l generalizing k with
    | nil => rfl
    | cons c s ih =>
      simp only [scan, List.find?_cons]
      by_cases hc : c = 0
      · simp only [hc, decide_true, Bool.not_true, cond_false]
        exact ih (by simp at hl; omega) (k + 1)
      · simp [hc]
  · intro i hi
    unfold cmp_Or_int_x1
    rw [at_nat hi]
    have : ((i : Int) < l.length) := by omega
    simp only [this, decide_true, cond_true, Option.bind_some]
    cases (!decide (l[i] = 0)) <;> rfl
  · unfold cmp_Or_int_x1
    simp
theorem sign_eq (n : Int) : fleetref2_sign n = some (cmpI n 0) := by
  unfold fleetref2_sign cmpI
  by_cases h1 : n < 0
  · simp [h1]
  · by_cases h2 : 0 < n <;> simp [h1, h2]
/-! ### Check -/
end Go.Eng

/-
Sorting of few elements, and what is left of equal ones, for all kinds of elements.
-/
namespace Go.Eng
open Go
set_option linter.unusedVariables false
set_option linter.unusedSimpArgs false

/-- Two loops side by side, over the same states. -/
theorem loop_two {σ ρ : Type} {f g : σ → Option (σ ⊕ ρ)} (I : σ → Prop) (μ : σ → Nat) (Q : ρ → Prop)
    (step : ∀ s, I s → (∃ s', f s = some (.inl s') ∧ g s = some (.inl s') ∧ I s' ∧ μ s' < μ s) ∨ (∃ r, f s = some (.inr r) ∧ g s = some (.inr r) ∧ Q r)) {s : σ} (h : I s) :
    ∃ r, loopO f s = some r ∧ loopO g s = some r ∧ Q r := by
  generalize hn : μ s = n
  induction n using Nat.strongRecOn generalizing s with
  | _ n ih =>
    rcases step s h with ⟨s', h1, h2, h3, h4⟩ | ⟨r, h1, h2, h3⟩
    · obtain ⟨r, g1, g2, g3⟩ := ih (μ s') (by omega) h3 rfl
      refine ⟨r, ?_, ?_, g3⟩
      · rw [loopO_eq, h1]; exact g1
      · rw [loopO_eq, h2]; exact g2
    · refine ⟨r, ?_, ?_, h3⟩
      · rw [loopO_eq, h1]; rfl
      · rw [loopO_eq, h2]; rfl

section
variable {α : Type}
/-! ### Insertion, as the code has it -/
def All (p : α → Prop) (l : List α) : Prop := ∀ x ∈ l, p x
theorem All.nil {p : α → Prop} : All p [] := fun _ h => nomatch h
theorem All.set {p : α → Prop} {l : List α} (h : All p l) {i : Nat} {x : α} (hx : p x) : All p (l.set i x) := by
  intro y hy
  rcases List.mem_or_eq_of_mem_set hy with hy | rfl
  · exact h y hy
  · exact hx
theorem All.at {p : α → Prop} {l : List α} (h : All p l) {i : Nat} (hi : i < l.length) : p l[i] := h _ (List.getElem_mem hi)

/-! ### Equal ones, as the code has it -/
/-- A loop over all elements of a list that only gathers. -/
theorem gather_loop {τ σ ρ : Type} {l : List α} {f : τ → Option (τ ⊕ ρ)} (e : σ → Int → τ) (h : σ → α → σ) (fin : σ → ρ) (I : Nat → σ → Prop) {s0 : σ} (hl : (l.length : Int) ≤ 9223372036854775807)
    (hf : ∀ (i : Nat) (hi : i < l.length) (s : σ), I i s → f (e s i) = some (.inl (e (h s l[i]) (IntKind.wrap .i64 (i + 1)))) ∧ I (i + 1) (h s l[i])) (hd : ∀ s, I l.length s → f (e s l.length) = some (.inr (fin s))) (h0 : I 0 s0) :
    loopO f (e s0 0) = some (fin (l.foldl h s0)) ∧ I l.length (l.foldl h s0) := by
  have key : ∀ (n i : Nat) (s : σ), l.length - i = n → i ≤ l.length → I i s → loopO f (e s i) = some (fin ((l.drop i).foldl h s)) ∧ I l.length ((l.drop i).foldl h s) := by
    intro n
    induction n with
    | zero =>
      intro i s h1 h2 h3
      have : i = l.length := by omega
      subst this
      rw [List.drop_length]
      refine ⟨?_, h3⟩
      rw [loopO_eq, hd s h3]
      rfl
    | succ n ih =>
      intro i s h1 h2 h3
      have hi : i < l.length := by omega
      obtain ⟨g1, g2⟩ := hf i hi s h3
      obtain ⟨f1, f2⟩ := ih (i + 1) (h s l[i]) (by omega) (by omega) g2
      rw [drop_get hi, List.foldl_cons]
      refine ⟨?_, f2⟩
      rw [loopO_eq, g1]
      simp only [Option.bind_some]
      rw [wrap64 (by omega) (by omega)]
      exact f1
  have := key l.length 0 s0 (by omega) (by omega) h0
  simpa using this
end
end Go.Eng

/-
Fixes: checks, orders, merging, those of a device.
-/
namespace Go.Eng
open Go
set_option linter.unusedVariables false
set_option linter.unusedSimpArgs false

def fOrd (a b : api_Fix) : Int := or0 (Lib.compareBytes a.Device b.Device) (cmpI a.At b.At)
theorem or2_eq (a b : Int) : cmp_Or_int [a, b] = some (or0 a b) := by
  rw [Or_eq _ (by simp)]
  unfold or0
  by_cases ha : a = 0 <;> by_cases hb : b = 0 <;> simp [ha, hb]
theorem fbyDevice_eq (a b : api_Fix) : place_byDevice a b = some (fOrd a b) := by
  unfold place_byDevice strings_Compare bytealg_CompareString
  simp only [Option.bind_some, cmpInt_eq, or2_eq]
  rfl
/-! ### The library's functions are those for all kinds -/
/-! ### Checks -/
theorem isSpot_eq (s : api_Spot) : place_isSpot s = some ((decide (-10000 ≤ s.X) && decide (s.X ≤ 10000)) && (decide (-10000 ≤ s.Y) && decide (s.Y ≤ 10000))) := by
  unfold place_isSpot place_isSpot_x1
  simp only [Out_eq, Option.bind_some]
  by_cases h1 : s.X < -10000 <;> by_cases h2 : 10000 < s.X <;> by_cases h3 : s.Y < -10000 <;> by_cases h4 : 10000 < s.Y <;> simp [h1, h2, h3, h4] <;> omega
theorem SpotFault_eq (s : api_Spot) : fleetref2_SpotFault s = some (cond ((decide (-10000 ≤ s.X) && decide (s.X ≤ 10000)) && (decide (-10000 ≤ s.Y) && decide (s.Y ≤ 10000))) 0 1) := by
  unfold fleetref2_SpotFault fleetref2_SpotFault_x1
  simp only [in_eq, Option.bind_some]
  cases (decide (-10000 ≤ s.X) && decide (s.X ≤ 10000)) <;> cases (decide (-10000 ≤ s.Y) && decide (s.Y ≤ 10000)) <;> rfl
/-! ### Merging -/
/-! ### Those of a device -/
end Go.Eng

/-
Plane geometry in whole numbers: parity and turns of a fence around a spot.
-/
namespace Go.Eng.Geo
/-- twice the area of the triangle a b s -/
def sd (ax ay bx b_y sx sy : Int) : Int := (bx - ax) * (sy - ay) - (b_y - ay) * (sx - ax)
def onb (ax ay bx b_y sx sy : Int) : Prop := sd ax ay bx b_y sx sy = 0 ∧ min ax bx ≤ sx ∧ sx ≤ max ax bx ∧ min ay b_y ≤ sy ∧ sy ≤ max ay b_y
def meetsP (ax ay bx b_y cx cy dx dy : Int) : Prop :=
  onb ax ay bx b_y cx cy ∨ onb ax ay bx b_y dx dy ∨ onb cx cy dx dy ax ay ∨ onb cx cy dx dy bx b_y ∨
  (sd ax ay bx b_y cx cy * sd ax ay bx b_y dx dy < 0 ∧ sd cx cy dx dy ax ay * sd cx cy dx dy bx b_y < 0)

theorem pp {a b : Int} (h1 : 0 < a) (h2 : 0 < b) : 0 < a * b := Int.mul_pos h1 h2
theorem pn {a b : Int} (h1 : 0 < a) (h2 : b < 0) : a * b < 0 := Int.mul_neg_of_pos_of_neg h1 h2
theorem np {a b : Int} (h1 : a < 0) (h2 : 0 < b) : a * b < 0 := Int.mul_neg_of_neg_of_pos h1 h2
theorem nn {a b : Int} (h1 : a < 0) (h2 : b < 0) : 0 < a * b := Int.mul_pos_of_neg_of_neg h1 h2
theorem PP {a b : Int} (h1 : 0 ≤ a) (h2 : 0 ≤ b) : 0 ≤ a * b := Int.mul_nonneg h1 h2
theorem PN {a b : Int} (h1 : 0 ≤ a) (h2 : b ≤ 0) : a * b ≤ 0 := Int.mul_nonpos_of_nonneg_of_nonpos h1 h2
theorem NP {a b : Int} (h1 : a ≤ 0) (h2 : 0 ≤ b) : a * b ≤ 0 := Int.mul_nonpos_of_nonpos_of_nonneg h1 h2
theorem NN {a b : Int} (h1 : a ≤ 0) (h2 : b ≤ 0) : 0 ≤ a * b := Int.mul_nonneg_of_nonpos_of_nonpos h1 h2

/-- which of two ways is told first does not matter -/
theorem meetsP_comm {ax ay bx b_y sx sy tx ty : Int} (h : meetsP ax ay bx b_y sx sy tx ty) : meetsP sx sy tx ty ax ay bx b_y := by
  rcases h with h | h | h | h | h
  · exact .inr (.inr (.inl h))
  · exact .inr (.inr (.inr (.inl h)))
  · exact .inl h
  · exact .inr (.inl h)
  · exact .inr (.inr (.inr (.inr ⟨h.2, h.1⟩)))

/-- the part of the plane to the right of the way that rises from s to t -/
def reg (sx sy tx ty cx cy : Int) : Prop := sy < cy ∧ cy ≤ ty ∧ sd sx sy tx ty cx cy < 0
/-- the edge from a to b (a not the higher one) goes over the height of s, to its right -/
def hitU (ax ay bx b_y sx sy : Int) : Prop := ay ≤ sy ∧ sy < b_y ∧ 0 < sd ax ay bx b_y sx sy

end Go.Eng.Geo

/-
Plane geometry in whole numbers: parity and turns of a fence around a spot.
-/
namespace Go.Eng.Geo
end Go.Eng.Geo

/-
Plane geometry in whole numbers: parity and turns of a fence around a spot.
-/
namespace Go.Eng.Geo
/-- is the number of members for which f says true odd -/
def par {α} (f : α → Bool) : List α → Bool
  | [] => false
  | a :: l => f a ^^ par f l
theorem par_map {α β} (f : β → Bool) (g : α → β) (l : List α) : par f (l.map g) = par (fun x => f (g x)) l := by
  induction l with
  | nil => rfl
  | cons a l ih => simp [par, ih]
/-- the edges of corners from one to the next, and to z at the end -/
def path {α} (z : α) : List α → List (α × α)
  | [] => []
  | [a] => [(a, z)]
  | a :: b :: l => (a, b) :: path z (b :: l)
def ring {α} : List α → List (α × α)
  | [] => []
  | a :: l => path a (a :: l)
theorem path_map {α β} (g : α → β) (z : α) (l : List α) : path (g z) (l.map g) = (path z l).map fun e => (g e.1, g e.2) := by
  match l with
  | [] => rfl
  | [a] => rfl
  | a :: b :: l => simp only [List.map, path]; rw [← path_map g z (b :: l)]; rfl
theorem ring_map {α β} (g : α → β) (l : List α) : ring (l.map g) = (ring l).map fun e => (g e.1, g e.2) := by
  cases l with
  | nil => rfl
  | cons a l => exact path_map g a (a :: l)

abbrev Pt := Int × Int
instance (ax ay bx b_y sx sy : Int) : Decidable (hitU ax ay bx b_y sx sy) := by unfold hitU; infer_instance
instance (sx sy tx ty cx cy : Int) : Decidable (reg sx sy tx ty cx cy) := by unfold reg; infer_instance
def lo (e : Pt × Pt) : Pt := if e.1.2 ≤ e.2.2 then e.1 else e.2
def hi (e : Pt × Pt) : Pt := if e.1.2 ≤ e.2.2 then e.2 else e.1
/-- the edge goes over the height of s, to its right -/
def hitE (s : Pt) (e : Pt × Pt) : Bool := decide (hitU (lo e).1 (lo e).2 (hi e).1 (hi e).2 s.1 s.2)
def meetE (e f : Pt × Pt) : Prop := meetsP e.1.1 e.1.2 e.2.1 e.2.2 f.1.1 f.1.2 f.2.1 f.2.2
def onE (e : Pt × Pt) (s : Pt) : Prop := onb e.1.1 e.1.2 e.2.1 e.2.2 s.1 s.2
theorem meetE_comm {e f : Pt × Pt} (h : meetE e f) : meetE f e := meetsP_comm h
def inn (l : List Pt) (s : Pt) : Bool := par (hitE s) (ring l)

end Go.Eng.Geo

/-
Plane geometry in whole numbers: parity and turns of a fence around a spot.
-/
namespace Go.Eng.Geo
/-- the spot of the edge f at a height, times the edge's height -/
def at_ (f : Pt × Pt) (y : Int) : Pt := (((hi f).2 - (lo f).2) * (lo f).1 + ((hi f).1 - (lo f).1) * (y - (lo f).2), ((hi f).2 - (lo f).2) * y)

end Go.Eng.Geo

/-
Plane geometry in whole numbers: parity and turns of a fence around a spot.
-/
namespace Go.Eng.Geo
theorem snoc {α} (v : List α) : v = [] ∨ ∃ v' w, v = v' ++ [w] := by
  rcases List.eq_nil_or_concat v with h | ⟨v', w, h⟩
  · exact .inl h
  · exact .inr ⟨v', w, by rw [h, List.concat_eq_append]⟩
/-- corners of a fence: edges have nothing in common but the corner between two that are next to each other -/
structure Simple (l : List Pt) : Prop where
  nd : l.Nodup
  sep : ∀ e ∈ ring l, ∀ f ∈ ring l, e ≠ f → e.2 ≠ f.1 → f.2 ≠ e.1 → ¬ meetE e f
  adj : ∀ e ∈ ring l, ∀ f ∈ ring l, e ≠ f → e.2 = f.1 → ¬ onE e f.2 ∧ ¬ onE f e.1

theorem sq_nn (x : Int) : 0 ≤ x * x := by
  by_cases h : 0 ≤ x
  · exact PP h h
  · exact NN (by omega) (by omega)

end Go.Eng.Geo

/-
Plane geometry in whole numbers: parity and turns of a fence around a spot.
-/
namespace Go.Eng.Geo
theorem hit_up {a b p : Pt} (h : a.2 ≤ b.2) : hitE p (a, b) = decide (hitU a.1 a.2 b.1 b.2 p.1 p.2) := by
  have e1 : lo (a, b) = a := if_pos h
  have e2 : hi (a, b) = b := if_pos h
  unfold hitE; rw [e1, e2]
theorem hit_dn {a b p : Pt} (h : b.2 < a.2) : hitE p (a, b) = decide (hitU b.1 b.2 a.1 a.2 p.1 p.2) := by
  have e1 : lo (a, b) = b := if_neg (by show ¬ a.2 ≤ b.2; omega)
  have e2 : hi (a, b) = a := if_neg (by show ¬ a.2 ≤ b.2; omega)
  unfold hitE; rw [e1, e2]
end Go.Eng.Geo

/-
Plane geometry in whole numbers: parity and turns of a fence around a spot.
-/
namespace Go.Eng.Geo
theorem ring_fst {α} (l : List α) : (ring l).map Prod.fst = l := by
  have : ∀ (z : α) (l : List α), (path z l).map Prod.fst = l := by
    intro z l
    induction l with
    | nil => rfl
    | cons a l ih => cases l with
      | nil => rfl
      | cons b l => simp only [path, List.map_cons]; rw [ih]
  cases l with
  | nil => rfl
  | cons a l => exact this a (a :: l)
theorem nodup_of_map {α β} {g : α → β} {l : List α} (h : (l.map g).Nodup) : l.Nodup := by
  induction l with
  | nil => simp
  | cons a l ih =>
    simp only [List.map_cons, List.nodup_cons] at h ⊢
    exact ⟨fun hh => h.1 (List.mem_map_of_mem hh), ih h.2⟩
theorem nodup_map {α β} {g : α → β} {l : List α} (h : l.Nodup) (hg : ∀ e ∈ l, ∀ f ∈ l, e ≠ f → g e ≠ g f) : (l.map g).Nodup := by
  induction l with
  | nil => simp
  | cons a l ih =>
    simp only [List.map_cons, List.nodup_cons] at h ⊢
    refine ⟨fun hh => ?_, ih h.2 fun e he f hf => hg e (by simp [he]) f (by simp [hf])⟩
    obtain ⟨f, hf, e⟩ := List.mem_map.1 hh
    exact hg a (by simp) f (by simp [hf]) (fun e' => h.1 (e' ▸ hf)) e.symm

end Go.Eng.Geo

/-
Plane geometry in whole numbers: parity and turns of a fence around a spot.
-/
namespace Go.Eng.Geo
end Go.Eng.Geo

/-
Fences: what the code asks of two ways and a spot is what plane geometry says.
-/
namespace Go.Eng
open Go Geo
set_option linter.unusedVariables false
set_option linter.unusedSimpArgs false

def pt (s : api_Spot) : Pt := (s.X, s.Y)
def pte (e : api_Spot × api_Spot) : Pt × Pt := (pt e.1, pt e.2)
/-- a right spot -/
def InB (s : api_Spot) : Prop := (-10000 ≤ s.X ∧ s.X ≤ 10000) ∧ (-10000 ≤ s.Y ∧ s.Y ≤ 10000)
theorem pt_inj {a b : api_Spot} (h : pt a = pt b) : a = b := by
  cases a; cases b
  simp only [pt, Prod.mk.injEq] at h
  rw [h.1, h.2]
theorem spot_eq {a b : api_Spot} : (decide (a.X = b.X) && (decide (a.Y = b.Y) && true)) = true ↔ a = b := by
  cases a; cases b
  simp
theorem mul_bd {x y m k : Int} (hx : -m ≤ x ∧ x ≤ m) (hy : -k ≤ y ∧ y ≤ k) : -(m * k) ≤ x * y ∧ x * y ≤ m * k := by
  have h1 : x.natAbs ≤ m.natAbs := by omega
  have h2 : y.natAbs ≤ k.natAbs := by omega
  have h3 := Nat.mul_le_mul h1 h2
  rw [← Int.natAbs_mul, ← Int.natAbs_mul] at h3
  have h4 : 0 ≤ m * k := PP (by omega) (by omega)
  omega
theorem wmul {x y : Int} (hx : -20000 ≤ x ∧ x ≤ 20000) (hy : -20000 ≤ y ∧ y ≤ 20000) : IntKind.wrap .i64 (x * y) = x * y ∧ -400000000 ≤ x * y ∧ x * y ≤ 400000000 := by
  have := mul_bd hx hy
  exact ⟨wrap64 (by omega) (by omega), by omega, by omega⟩
theorem side_wrap {a b s : api_Spot} (ha : InB a) (hb : InB b) (hs : InB s) :
    (IntKind.wrap .i64 ((IntKind.wrap .i64 ((IntKind.wrap .i64 (b.X - a.X)) * (IntKind.wrap .i64 (s.Y - a.Y)))) - (IntKind.wrap .i64 ((IntKind.wrap .i64 (b.Y - a.Y)) * (IntKind.wrap .i64 (s.X - a.X)))))) = sd a.X a.Y b.X b.Y s.X s.Y := by
  obtain ⟨a1, a2⟩ := ha; obtain ⟨b1, b2⟩ := hb; obtain ⟨s1, s2⟩ := hs
  rw [wrap64 (n := b.X - a.X) (by omega) (by omega), wrap64 (n := s.Y - a.Y) (by omega) (by omega), wrap64 (n := b.Y - a.Y) (by omega) (by omega), wrap64 (n := s.X - a.X) (by omega) (by omega)]
  have m1 := wmul (x := b.X - a.X) (y := s.Y - a.Y) (by omega) (by omega)
  have m2 := wmul (x := b.Y - a.Y) (y := s.X - a.X) (by omega) (by omega)
  rw [m1.1, m2.1, wrap64 (by omega) (by omega)]
  rfl
theorem imin_eq (a b : Int) : imin a b = min a b := by unfold imin; split <;> omega
theorem imax_eq (a b : Int) : imax a b = max a b := by unfold imax; split <;> omega
instance (ax ay bx b_y sx sy : Int) : Decidable (onb ax ay bx b_y sx sy) := by unfold onb; infer_instance
instance (ax ay bx b_y cx cy dx dy : Int) : Decidable (meetsP ax ay bx b_y cx cy dx dy) := by unfold meetsP; infer_instance
def onB (e : api_Spot × api_Spot) (s : api_Spot) : Bool := decide (onb e.1.X e.1.Y e.2.X e.2.Y s.X s.Y)
def meB (e f : api_Spot × api_Spot) : Bool := decide (meetsP e.1.X e.1.Y e.2.X e.2.Y f.1.X f.1.Y f.2.X f.2.Y)
theorem onB_iff {e : api_Spot × api_Spot} {s : api_Spot} : onB e s = true ↔ onE (pte e) (pt s) := by unfold onB; rw [decide_eq_true_iff]; exact Iff.rfl
theorem meB_iff {e f : api_Spot × api_Spot} : meB e f = true ↔ meetE (pte e) (pte f) := by unfold meB; rw [decide_eq_true_iff]; exact Iff.rfl

theorem on_eq {a b s : api_Spot} (ha : InB a) (hb : InB b) (hs : InB s) : place_on a b s = some (onB (a, b) s) := by
  unfold place_on place_on_x1 place_side onB onb
  simp only [Option.bind_some, side_wrap ha hb hs, imin_eq, imax_eq]
  by_cases h0 : sd a.X a.Y b.X b.Y s.X s.Y = 0 <;> by_cases h1 : min a.X b.X ≤ s.X <;> by_cases h2 : s.X ≤ max a.X b.X <;> by_cases h3 : min a.Y b.Y ≤ s.Y <;>
    by_cases h4 : s.Y ≤ max a.Y b.Y <;> simp only [h0, h1, h2, h3, h4, decide_true, decide_false, cond_true, cond_false, Option.bind_some, and_true, and_false, and_self, true_and, false_and]

theorem cmpI_mul {x y : Int} : decide (IntKind.wrap .i64 (cmpI x 0 * cmpI y 0) < 0) = decide (x * y < 0) := by
  rw [Bool.eq_iff_iff, decide_eq_true_iff, decide_eq_true_iff]
  unfold cmpI
  by_cases h1 : x < 0 <;> by_cases h2 : 0 < x <;> by_cases h3 : y < 0 <;> by_cases h4 : 0 < y <;> (try omega)
  · have := nn h1 h3; simp only [h1, h3, if_true]; constructor <;> intro h <;> first | exact absurd h (by decide) | omega
  · have := np h1 h4; simp only [h1, h3, h4, if_true, if_false]; constructor <;> intro _ <;> first | decide | omega
  · have e : y = 0 := by omega
    subst e; simp only [h1, if_true, Int.mul_zero]; constructor <;> intro h <;> first | exact absurd h (by decide) | omega
  · have := pn h2 h3; simp only [h1, h2, h3, if_true, if_false]; constructor <;> intro _ <;> first | decide | omega
  · have := pp h2 h4; simp only [h1, h2, h3, h4, if_true, if_false]; constructor <;> intro h <;> first | exact absurd h (by decide) | omega
  · have e : y = 0 := by omega
    subst e; simp only [h1, h2, if_true, if_false, Int.mul_zero]; constructor <;> intro h <;> first | exact absurd h (by decide) | omega
  all_goals
    have e : x = 0 := by omega
    subst e
    simp only [Int.zero_mul, Int.lt_irrefl, if_false]
    constructor <;> intro h <;> first | (exact absurd h (by decide)) | omega
theorem or4 (a b c d : Bool) : (cond a (some true) (cond b (some true) (cond c (some true) (some d)))) = some (a || b || c || d) := by cases a <;> cases b <;> cases c <;> rfl

theorem meets_eq {a b c d : api_Spot} (ha : InB a) (hb : InB b) (hc : InB c) (hd : InB d) : place_meets a b c d = some (meB (a, b) (c, d)) := by
  unfold place_meets place_meets_x1 place_meets_x2 place_side
  simp only [on_eq ha hb hc, on_eq ha hb hd, on_eq hc hd ha, on_eq hc hd hb, Option.bind_some, or4, side_wrap ha hb hc, side_wrap ha hb hd, side_wrap hc hd ha, side_wrap hc hd hb, cmpInt_eq, cmpI_mul]
  unfold meB meetsP onB
  simp only
  by_cases h1 : onb a.X a.Y b.X b.Y c.X c.Y <;> by_cases h2 : onb a.X a.Y b.X b.Y d.X d.Y <;> by_cases h3 : onb c.X c.Y d.X d.Y a.X a.Y <;> by_cases h4 : onb c.X c.Y d.X d.Y b.X b.Y <;>
    simp only [h1, h2, h3, h4, decide_true, decide_false, Bool.or_true, Bool.true_or, Bool.or_false, cond_true, cond_false, true_or, or_true, false_or]
  by_cases h5 : sd a.X a.Y b.X b.Y c.X c.Y * sd a.X a.Y b.X b.Y d.X d.Y < 0 <;> by_cases h6 : sd c.X c.Y d.X d.Y a.X a.Y * sd c.X c.Y d.X d.Y b.X b.Y < 0 <;>
    simp [h5, h6]

theorem rside_eq {a b s : api_Spot} (ha : InB a) (hb : InB b) (hs : InB s) : fleetref2_side a b s = some (cmpI (sd a.X a.Y b.X b.Y s.X s.Y) 0) := by
  unfold fleetref2_side fleetref2_minus fleetref2_cross
  simp only [Option.bind_some, side_wrap ha hb hs, sign_eq]
theorem dot_on {ax ay bx b_y sx sy : Int} : onb ax ay bx b_y sx sy ↔ (sd ax ay bx b_y sx sy = 0 ∧ (ax - sx) * (bx - sx) + (ay - sy) * (b_y - sy) ≤ 0) := by
  constructor
  · rintro ⟨h0, h1, h2, h3, h4⟩
    refine ⟨h0, ?_⟩
    have key : ∀ x y z : Int, min x y ≤ z → z ≤ max x y → (x - z) * (y - z) ≤ 0 := by
      intro x y z h1 h2
      by_cases e : x = z
      · rw [e, Int.sub_self, Int.zero_mul]; exact Int.le_refl _
      by_cases h : x ≤ z
      · exact NP (by omega) (by omega)
      · exact PN (by omega) (by omega)
    have p1 := key _ _ _ h1 h2
    have p2 := key _ _ _ h3 h4
    omega
  · rintro ⟨h0, h1⟩
    have e : ((ax - sx) * (bx - sx)) * ((ay - sy) * (b_y - sy)) = ((ax - sx) * (b_y - sy)) * ((ax - sx) * (b_y - sy)) := by
      have h2 : (ax - sx) * (b_y - sy) = (ay - sy) * (bx - sx) := by unfold sd at h0; grind
      have : ((ax - sx) * (b_y - sy)) * ((ax - sx) * (b_y - sy)) = ((ax - sx) * (b_y - sy)) * ((ay - sy) * (bx - sx)) := by rw [← h2]
      rw [this]; grind
    have e2 := sq_nn ((ax - sx) * (b_y - sy))
    have p1 : (ax - sx) * (bx - sx) ≤ 0 := by
      by_cases h : (ax - sx) * (bx - sx) ≤ 0
      · exact h
      · have := pn (show 0 < (ax - sx) * (bx - sx) by omega) (show (ay - sy) * (b_y - sy) < 0 by omega)
        omega
    have p2 : (ay - sy) * (b_y - sy) ≤ 0 := by
      by_cases h : (ay - sy) * (b_y - sy) ≤ 0
      · exact h
      · have := np (show (ax - sx) * (bx - sx) < 0 by omega) (show 0 < (ay - sy) * (b_y - sy) by omega)
        omega
    have key : ∀ x y z : Int, (x - z) * (y - z) ≤ 0 → min x y ≤ z ∧ z ≤ max x y := by
      intro x y z h
      by_cases h1 : z < x ∧ z < y
      · have := pp (show 0 < x - z by omega) (show 0 < y - z by omega); omega
      · by_cases h2 : x < z ∧ y < z
        · have := nn (show x - z < 0 by omega) (show y - z < 0 by omega); omega
        · omega
    have k1 := key _ _ _ p1
    have k2 := key _ _ _ p2
    exact ⟨h0, k1.1, k1.2, k2.1, k2.2⟩
theorem ron_eq {a b s : api_Spot} (ha : InB a) (hb : InB b) (hs : InB s) : fleetref2_onWay a b s = some (onB (a, b) s) := by
  unfold fleetref2_onWay fleetref2_onWay_x1 fleetref2_minus fleetref2_dot
  simp only [rside_eq ha hb hs, Option.bind_some]
  have h0 : decide (cmpI (sd a.X a.Y b.X b.Y s.X s.Y) 0 = 0) = decide (sd a.X a.Y b.X b.Y s.X s.Y = 0) := by
    rw [Bool.eq_iff_iff, decide_eq_true_iff, decide_eq_true_iff]; unfold cmpI; (repeat' split) <;> omega
  rw [h0]
  obtain ⟨a1, a2⟩ := ha; obtain ⟨b1, b2⟩ := hb; obtain ⟨s1, s2⟩ := hs
  rw [wrap64 (n := a.X - s.X) (by omega) (by omega), wrap64 (n := b.X - s.X) (by omega) (by omega), wrap64 (n := a.Y - s.Y) (by omega) (by omega), wrap64 (n := b.Y - s.Y) (by omega) (by omega)]
  have m1 := wmul (x := a.X - s.X) (y := b.X - s.X) (by omega) (by omega)
  have m2 := wmul (x := a.Y - s.Y) (y := b.Y - s.Y) (by omega) (by omega)
  rw [m1.1, m2.1, wrap64 (by omega) (by omega)]
  unfold onB
  simp only [dot_on]
  by_cases h1 : sd a.X a.Y b.X b.Y s.X s.Y = 0 <;> simp [h1]
theorem touches_eq {a b c d : api_Spot} (ha : InB a) (hb : InB b) (hc : InB c) (hd : InB d) : fleetref2_touches a b c d = some (meB (a, b) (c, d)) := by
  unfold fleetref2_touches fleetref2_touches_x1 fleetref2_touches_x2
  simp only [ron_eq ha hb hc, ron_eq ha hb hd, ron_eq hc hd ha, ron_eq hc hd hb, Option.bind_some, or4, rside_eq ha hb hc, rside_eq ha hb hd, rside_eq hc hd ha, rside_eq hc hd hb, cmpI_mul]
  unfold meB meetsP onB
  simp only
  by_cases h1 : onb a.X a.Y b.X b.Y c.X c.Y <;> by_cases h2 : onb a.X a.Y b.X b.Y d.X d.Y <;> by_cases h3 : onb c.X c.Y d.X d.Y a.X a.Y <;> by_cases h4 : onb c.X c.Y d.X d.Y b.X b.Y <;>
    simp only [h1, h2, h3, h4, decide_true, decide_false, Bool.or_true, Bool.true_or, Bool.or_false, cond_true, cond_false, true_or, or_true, false_or]
  by_cases h5 : sd a.X a.Y b.X b.Y c.X c.Y * sd a.X a.Y b.X b.Y d.X d.Y < 0 <;> by_cases h6 : sd c.X c.Y d.X d.Y a.X a.Y * sd c.X c.Y d.X d.Y b.X b.Y < 0 <;>
    simp [h5, h6]

/-! ### Edges by number -/
theorem path_len {α} (z : α) : ∀ l : List α, (path z l).length = l.length
  | [] => rfl
  | [_] => rfl
  | a :: b :: l => by simp only [path, List.length_cons]; rw [path_len z (b :: l)]; rfl
theorem ring_len {α} (l : List α) : (ring l).length = l.length := by
  cases l with
  | nil => rfl
  | cons a l => exact path_len a (a :: l)
theorem path_get {α} (z : α) : ∀ (l : List α) (i : Nat) (h : i < l.length), (path z l)[i]? = some (l[i], (l[i + 1]?).getD z)
  | [], i, h => by simp at h
  | [a], i, h => by
    have : i = 0 := by simp at h; exact h
    subst this; rfl
  | a :: b :: l, 0, h => rfl
  | a :: b :: l, i + 1, h => by
    simp only [path, List.getElem?_cons_succ]
    rw [path_get z (b :: l) i (by simpa using h)]
    rfl
theorem ring_get {α} {l : List α} {i : Nat} (h : i < l.length) : (ring l)[i]'(by rw [ring_len]; exact h) = (l[i], l[(i + 1) % l.length]'(Nat.mod_lt _ (by omega))) := by
  have key : (ring l)[i]? = some (l[i], l[(i + 1) % l.length]'(Nat.mod_lt _ (by omega))) := by
    cases l with
    | nil => simp at h
    | cons a l =>
      show (path a (a :: l))[i]? = _
      rw [path_get a (a :: l) i h]
      congr 2
      by_cases hh : i + 1 < (a :: l).length
      · rw [List.getElem?_eq_getElem hh, Option.getD_some]
        congr 1
        exact (Nat.mod_eq_of_lt hh).symm
      · have e : i + 1 = (a :: l).length := by omega
        rw [List.getElem?_eq_none (by omega), Option.getD_none]
        have e2 : (i + 1) % (a :: l).length = 0 := by rw [e, Nat.mod_self]
        simp only [e2, List.getElem_cons_zero]
  rw [List.getElem?_eq_getElem (by rw [ring_len]; exact h)] at key
  exact Option.some.inj key
theorem edge_at {l : List api_Spot} (hl : (l.length : Int) ≤ 1000000) {i : Nat} (h : i < l.length) :
    at? l (i : Int) = some ((ring l)[i]'(by rw [ring_len]; exact h)).1 ∧ at? l ((IntKind.wrap .i64 ((i : Int) + 1)).tmod (l.length : Int)) = some ((ring l)[i]'(by rw [ring_len]; exact h)).2 ∧ (!((l.length : Int) == 0)) = true := by
  rw [ring_get h]
  have hne : ((l.length : Int) == 0) = false := by rw [beq_eq_false_iff_ne]; omega
  refine ⟨at_nat h, ?_, by rw [hne]; rfl⟩
  rw [wrap64 (by omega) (by omega)]
  have e : ((i : Int) + 1).tmod (l.length : Int) = (((i + 1) % l.length : Nat) : Int) := by
    rw [Int.tmod_eq_emod_of_nonneg (show 0 ≤ (i : Int) + 1 by omega)]
    simp
  rw [e, at_nat (Nat.mod_lt _ (by omega))]
theorem ring_pt (l : List api_Spot) : ring (l.map pt) = (ring l).map pte := ring_map pt l
theorem ring_mem {l : List api_Spot} {e : api_Spot × api_Spot} (h : e ∈ ring l) : e.1 ∈ l ∧ e.2 ∈ l := by
  obtain ⟨i, hi, rfl⟩ := List.mem_iff_getElem.1 h
  rw [ring_get (by rw [ring_len] at hi; exact hi)]
  exact ⟨List.getElem_mem _, List.getElem_mem _⟩

/-! ### Search loops -/
theorem range_from {α ρ : Type} {l : List α} {f : Int → Option (Int ⊕ ρ)} (g : Nat → α → Option ρ) (done : ρ) (hl : (l.length : Int) ≤ 9223372036854775807)
    (hf : ∀ (i : Nat) (h : i < l.length), f i = some (match g i l[i] with | none => .inl (IntKind.wrap .i64 (i + 1)) | some r => .inr r)) (hd : f l.length = some (.inr done)) (k : Nat) (hk : k ≤ l.length) :
    loopO f k = some ((scan g k (l.drop k)).getD done) := by
  generalize hn : l.length - k = n
  induction n generalizing k with
  | zero =>
    have : k = l.length := by omega
    subst this
    rw [loopO_eq, hd, List.drop_length]
    rfl
  | succ n ih =>
    have hi : k < l.length := by omega
    rw [loopO_eq, hf k hi, drop_get hi]
    simp only [scan]
    cases hg : g k l[k] with
    | some r => rfl
    | none =>
      simp only [Option.bind_some]
      rw [wrap64 (by omega) (by omega)]
      exact ih (k + 1) (by omega) (by omega)
/-- a search: is there a number from k on for which p says true -/
theorem scan_ex {α ρ : Type} {p : Nat → α → Bool} {r d : ρ} : ∀ {l : List α} {k : Nat}, (scan (fun i x => cond (p i x) (some r) none) k l).getD d = open Classical in if ∃ (i : Nat) (x : α), l[i]? = some x ∧ p (k + i) x = true then r else d
  | [], k => by simp [scan]
  | y :: l, k => by
    simp only [scan]
    cases h : p k y with
    | true =>
      simp only [cond_true, Option.getD_some]
      rw [if_pos ⟨0, y, rfl, by simpa using h⟩]
    | false =>
      simp only [cond_false]
      rw [scan_ex (l := l) (k := k + 1)]
      congr 1
      apply propext
      constructor
      · rintro ⟨i, x, h1, h2⟩
        exact ⟨i + 1, x, by simpa using h1, by rw [show k + (i + 1) = k + 1 + i by omega]; exact h2⟩
      · rintro ⟨i, x, h1, h2⟩
        cases i with
        | zero =>
          simp only [List.getElem?_cons_zero, Option.some.injEq] at h1
          subst h1
          rw [Nat.add_zero, h] at h2
          cases h2
        | succ i => exact ⟨i, x, by simpa using h1, by rw [show k + 1 + i = k + (i + 1) by omega]; exact h2⟩
end Go.Eng

/-
Fences: the checks of both ways are the same; a right fence is simple.
-/
namespace Go.Eng
open Go Geo
open scoped Classical
set_option linter.unusedVariables false
set_option linter.unusedSimpArgs false

/-! ### Is a spot among others -/
def spB (v x : api_Spot) : Bool := decide (v.X = x.X) && (decide (v.Y = x.Y) && true)
theorem spB_iff {v x : api_Spot} : spB v x = true ↔ v = x := spot_eq
theorem scan_idx {v : api_Spot} : ∀ (l : List api_Spot) (k : Nat), ∃ r : Int, (match ((scan (fun i x => cond (spB v x) (some (Sum.inr (i : Int))) none) k l).getD (Sum.inl ()) : Unit ⊕ Int) with | .inl _ => (-1 : Int) | .inr i => i) = r ∧ (decide (0 ≤ r) = l.any (spB v))
  | [], k => ⟨-1, rfl, rfl⟩
  | x :: l, k => by
    simp only [scan, List.any_cons]
    cases spB v x with
    | true => exact ⟨k, rfl, by simp⟩
    | false => simpa using scan_idx (v := v) l (k + 1)
theorem contains_eq (l : List api_Spot) (v : api_Spot) (hl : (l.length : Int) ≤ 1000000) : slices_Contains_api_Spot_api_Spot l v = some (l.any (spB v)) := by
  unfold slices_Contains_api_Spot_api_Spot slices_Index_api_Spot_api_Spot
  rw [range_loop (l := l) (fun i x => cond (spB v x) (some (.inr (i : Int))) none) (.inl ()) (by omega)]
  · obtain ⟨r, h1, h2⟩ := scan_idx (v := v) l 0
    rw [← h2, ← h1]
    cases (scan (fun i x => cond (spB v x) (some (Sum.inr (i : Int))) none) 0 l).getD (Sum.inl () : Unit ⊕ Int) <;> rfl
  · intro i hi
    unfold slices_Index_api_Spot_api_Spot_x1
    have h : (i : Int) < l.length := by omega
    simp only [h, decide_true, cond_true, at_nat hi, Option.bind_some]
    show cond (spB v l[i]) _ _ = _
    cases spB v l[i] <;> rfl
  · unfold slices_Index_api_Spot_api_Spot_x1
    simp
theorem any_mem {l : List api_Spot} {v : api_Spot} : l.any (spB v) = true ↔ v ∈ l := by
  rw [List.any_eq_true]
  constructor
  · rintro ⟨x, h1, h2⟩; rw [spB_iff.1 h2]; exact h1
  · intro h; exact ⟨v, h, spB_iff.2 rfl⟩

/-! ### The first half of the checks -/
theorem inB_iff (s : api_Spot) : ((decide (-10000 ≤ s.X) && decide (s.X ≤ 10000)) && (decide (-10000 ≤ s.Y) && decide (s.Y ≤ 10000))) = true ↔ InB s := by
  unfold InB; simp
def Half1 (l : List api_Spot) : Unit ⊕ Int → Prop
  | .inl _ => (∀ s ∈ l, InB s) ∧ l.Nodup
  | .inr e => e ≠ 0
theorem half1 (f : api_Fence) (hl : f.Corners.length ≤ 200) :
    ∃ r, loopO (place_CheckFence_x1 f) 0 = some r ∧ loopO (fleetref2_CornersFault_x1 f.Corners) 0 = some r ∧ Half1 f.Corners r := by
  obtain ⟨key, l⟩ := f
  simp only at hl ⊢
  refine loop_two (fun i : Int => ∃ k : Nat, i = (k : Int) ∧ k ≤ l.length ∧ (∀ s ∈ l.take k, InB s) ∧ (l.take k).Nodup) (fun i => ((l.length : Int) - i).toNat) _ ?_ ⟨0, rfl, by omega, by simp, by simp⟩
  rintro i ⟨k, rfl, k1, k2, k3⟩
  unfold place_CheckFence_x1 fleetref2_CornersFault_x1
  by_cases hi : k < l.length
  · have hi' : (k : Int) < l.length := by omega
    have hs : sub? l 0 (k : Int) = some (l.take k) := by
      unfold sub?
      rw [if_pos (by omega)]
      simp
    simp only [hi', decide_true, cond_true, at_nat hi, Option.bind_some, isSpot_eq, SpotFault_eq, hs]
    by_cases hb : InB l[k]
    · simp only [(inB_iff _).2 hb, Bool.not_true, cond_false, cond_true, decide_true]
      rw [contains_eq _ _ (by simp; omega)]
      simp only [Option.bind_some]
      cases hc : (l.take k).any (spB l[k]) with
      | true => right; exact ⟨_, rfl, rfl, by show (6 : Int) ≠ 0; omega⟩
      | false =>
        left
        rw [wrap64 (by omega) (by omega)]
        have e : l.take (k + 1) = l.take k ++ [l[k]] := List.take_succ_eq_append_getElem hi
        refine ⟨_, rfl, rfl, ⟨k + 1, by omega, by omega, ?_, ?_⟩, by omega⟩
        · rw [e]
          intro s hs
          rcases List.mem_append.1 hs with h | h
          · exact k2 s h
          · rw [List.mem_singleton] at h; rw [h]; exact hb
        · rw [e, List.nodup_append]
          refine ⟨k3, by simp, fun a ha b hb' => ?_⟩
          rw [List.mem_singleton] at hb'
          subst hb'
          intro e'
          subst e'
          rw [any_mem.2 ha] at hc
          cases hc
    · have hb' : ((decide (-10000 ≤ l[k].X) && decide (l[k].X ≤ 10000)) && (decide (-10000 ≤ l[k].Y) && decide (l[k].Y ≤ 10000))) = false := by
        rw [← Bool.not_eq_true]; exact fun h => hb ((inB_iff _).1 h)
      right
      simp only [hb', Bool.not_false, cond_true, cond_false]
      exact ⟨.inr 1, rfl, rfl, by show (1 : Int) ≠ 0; omega⟩
  · have : k = l.length := by omega
    subst this
    right
    rw [List.take_length] at k2 k3
    exact ⟨.inl (), by simp, by simp, k2, k3⟩

/-! ### Crossed edges -/
def badP (n i k : Nat) (e f : api_Spot × api_Spot) : Bool :=
  (!decide (k = i + 1) && (!decide ((k + 1) % n = i) && meB e f)) || (decide (k = i + 1) && (onB e f.2 || onB f e.1)) || (decide ((k + 1) % n = i) && (onB e f.1 || onB f e.2))
noncomputable def innP (L : List (api_Spot × api_Spot)) (i : Nat) (e : api_Spot × api_Spot) : Bool :=
  decide (∃ (k : Nat) (x : api_Spot × api_Spot), i < k ∧ L[k]? = some x ∧ badP L.length i k e x = true)
theorem mod_int {k n : Nat} (hk : (k : Int) + 1 ≤ 1000000) {i : Nat} : decide ((IntKind.wrap .i64 ((k : Int) + 1)).tmod (n : Int) = (i : Int)) = decide ((k + 1) % n = i) := by
  rw [wrap64 (by omega) (by omega)]
  have e : ((k : Int) + 1).tmod (n : Int) = (((k + 1) % n : Nat) : Int) := by
    rw [Int.tmod_eq_emod_of_nonneg (show 0 ≤ (k : Int) + 1 by omega)]
    simp
  rw [e, Bool.eq_iff_iff, decide_eq_true_iff, decide_eq_true_iff]
  omega
theorem suc_int {i k : Nat} (hi : (i : Int) + 1 ≤ 1000000) : decide ((k : Int) = IntKind.wrap .i64 ((i : Int) + 1)) = decide (k = i + 1) := by
  rw [wrap64 (by omega) (by omega), Bool.eq_iff_iff, decide_eq_true_iff, decide_eq_true_iff]
  omega
theorem inb_ring {l : List api_Spot} (h : ∀ s ∈ l, InB s) {e : api_Spot × api_Spot} (he : e ∈ ring l) : InB e.1 ∧ InB e.2 := ⟨h _ (ring_mem he).1, h _ (ring_mem he).2⟩

theorem crossed_inner {l : List api_Spot} (hl : l.length ≤ 200) (hb : ∀ s ∈ l, InB s) {i : Nat} (hi : i < l.length) {e : api_Spot × api_Spot} (he : (ring l)[i]? = some e) :
    loopO (place_crossed_x2 l i e.1 e.2) (IntKind.wrap .i64 ((i : Int) + 1)) = some (cond (innP (ring l) i e) (.inr ()) (.inl ())) := by
  have hlen := ring_len l
  have he' : InB e.1 ∧ InB e.2 := inb_ring hb (List.mem_of_getElem? he)
  rw [wrap64 (by omega) (by omega), show ((i : Int) + 1) = ((i + 1 : Nat) : Int) by omega,
    range_from (l := ring l) (fun k x => cond (badP l.length i k e x) (some (.inr ())) none) (.inl ()) (by omega) ?_ ?_ (i + 1) (by omega), scan_ex]
  · unfold innP
    rw [hlen]
    congr 1
    have : (∃ (j : Nat) (x : api_Spot × api_Spot), ((ring l).drop (i + 1))[j]? = some x ∧ badP l.length i (i + 1 + j) e x = true) ↔ (∃ (k : Nat) (x : api_Spot × api_Spot), i < k ∧ (ring l)[k]? = some x ∧ badP l.length i k e x = true) := by
      constructor
      · rintro ⟨j, x, h1, h2⟩
        exact ⟨i + 1 + j, x, by omega, by rw [List.getElem?_drop] at h1; exact h1, h2⟩
      · rintro ⟨k, x, h0, h1, h2⟩
        exact ⟨k - (i + 1), x, by rw [List.getElem?_drop, show i + 1 + (k - (i + 1)) = k by omega]; exact h1, by rw [show i + 1 + (k - (i + 1)) = k by omega]; exact h2⟩
    by_cases h : ∃ (j : Nat) (x : api_Spot × api_Spot), ((ring l).drop (i + 1))[j]? = some x ∧ badP l.length i (i + 1 + j) e x = true
    · rw [if_pos h, decide_eq_true (this.1 h)]; rfl
    · rw [if_neg h, decide_eq_false (fun hh => h (this.2 hh))]; rfl
  · intro k hk
    have hk' : k < l.length := by omega
    obtain ⟨a1, a2, a3⟩ := edge_at (l := l) (by omega) hk'
    have hx := inb_ring hb (List.getElem_mem hk)
    generalize (ring l)[k] = x at a1 a2 hx
    unfold place_crossed_x2 place_crossed_x3 place_crossed_x4 place_crossed_x5
    have h : (k : Int) < l.length := by omega
    simp only [h, decide_true, cond_true, a1, a2, gd_true a3, Option.bind_some, suc_int (i := i) (k := k) (by omega), mod_int (i := i) (k := k) (n := l.length) (by omega),
      meets_eq he'.1 he'.2 hx.1 hx.2, on_eq he'.1 he'.2 hx.2, on_eq hx.1 hx.2 he'.1, on_eq he'.1 he'.2 hx.1, on_eq hx.1 hx.2 he'.2]
    unfold badP
    rw [show onB e x.2 = onB (e.1, e.2) x.2 from rfl, show onB x e.1 = onB (x.1, x.2) e.1 from rfl, show meB e x = meB (e.1, e.2) (x.1, x.2) from rfl, show onB e x.1 = onB (e.1, e.2) x.1 from rfl, show onB x e.2 = onB (x.1, x.2) e.2 from rfl]
    cases decide (k = i + 1) <;> cases decide ((k + 1) % l.length = i) <;> cases meB (e.1, e.2) (x.1, x.2) <;> cases onB (e.1, e.2) x.2 <;> cases onB (x.1, x.2) e.1 <;> cases onB (e.1, e.2) x.1 <;> cases onB (x.1, x.2) e.2 <;> rfl
  · rw [hlen]
    unfold place_crossed_x2
    simp
theorem crossed_eq {l : List api_Spot} (hl : l.length ≤ 200) (hb : ∀ s ∈ l, InB s) :
    place_crossed l = some (decide (∃ (i : Nat) (e : api_Spot × api_Spot), (ring l)[i]? = some e ∧ ∃ (k : Nat) (x : api_Spot × api_Spot), i < k ∧ (ring l)[k]? = some x ∧ badP l.length i k e x = true)) := by
  have hlen := ring_len l
  unfold place_crossed
  rw [range_loop (l := ring l) (fun i e => cond (innP (ring l) i e) (some (.inr ())) none) (.inl ()) (by omega), scan_ex]
  · have hAB : (∃ (i : Nat) (x : api_Spot × api_Spot), (ring l)[i]? = some x ∧ innP (ring l) (0 + i) x = true) ↔ (∃ (i : Nat) (e : api_Spot × api_Spot), (ring l)[i]? = some e ∧ ∃ (k : Nat) (x : api_Spot × api_Spot), i < k ∧ (ring l)[k]? = some x ∧ badP l.length i k e x = true) := by
      simp only [Nat.zero_add, innP, decide_eq_true_iff, hlen]
    by_cases h : ∃ (i : Nat) (x : api_Spot × api_Spot), (ring l)[i]? = some x ∧ innP (ring l) (0 + i) x = true
    · rw [if_pos h, decide_eq_true (hAB.1 h)]; rfl
    · rw [if_neg h, decide_eq_false (fun hh => h (hAB.2 hh))]; rfl
  · intro i hi
    have hi' : i < l.length := by omega
    obtain ⟨a1, a2, a3⟩ := edge_at (l := l) (by omega) hi'
    have key := crossed_inner hl hb hi' (e := (ring l)[i]) (List.getElem?_eq_getElem hi)
    unfold place_crossed_x1
    have h : (i : Int) < l.length := by omega
    simp only [h, decide_true, cond_true, a1, a2, gd_true a3, Option.bind_some, key]
    cases innP (ring l) i (ring l)[i] <;> rfl
  · rw [hlen]
    unfold place_crossed_x1
    simp

def badR (i k : Nat) (e f : api_Spot × api_Spot) : Bool :=
  !decide (k = i) && cond (spB e.2 f.1) (onB e f.2 || onB f e.1) (cond (spB f.2 e.1) false (meB e f))
noncomputable def innR (L : List (api_Spot × api_Spot)) (i : Nat) (e : api_Spot × api_Spot) : Bool :=
  decide (∃ (k : Nat) (x : api_Spot × api_Spot), L[k]? = some x ∧ badR i k e x = true)
theorem redge_eq {l : List api_Spot} (hl : l.length ≤ 200) {i : Nat} (hi : i < l.length) : fleetref2_edge l (i : Int) = some (((ring l)[i]'(by rw [ring_len]; exact hi)).1, ((ring l)[i]'(by rw [ring_len]; exact hi)).2) := by
  obtain ⟨a1, a2, a3⟩ := edge_at (l := l) (by omega) hi
  unfold fleetref2_edge
  simp only [a1, a2, gd_true a3, Option.bind_some]
theorem rcrossed_inner {l : List api_Spot} (hl : l.length ≤ 200) (hb : ∀ s ∈ l, InB s) {i : Nat} (hi : i < l.length) {e : api_Spot × api_Spot} (he : (ring l)[i]? = some e) :
    loopO (fleetref2_CornersFault_x3 l i e.1 e.2) 0 = some (cond (innR (ring l) i e) (.inr ()) (.inl ())) := by
  have hlen := ring_len l
  have he' : InB e.1 ∧ InB e.2 := inb_ring hb (List.mem_of_getElem? he)
  rw [range_loop (l := ring l) (fun k x => cond (badR i k e x) (some (.inr ())) none) (.inl ()) (by omega) ?_ ?_, scan_ex]
  · unfold innR
    have hAB : (∃ (j : Nat) (x : api_Spot × api_Spot), (ring l)[j]? = some x ∧ badR i (0 + j) e x = true) ↔ (∃ (k : Nat) (x : api_Spot × api_Spot), (ring l)[k]? = some x ∧ badR i k e x = true) := by
      simp only [Nat.zero_add]
    by_cases h : ∃ (j : Nat) (x : api_Spot × api_Spot), (ring l)[j]? = some x ∧ badR i (0 + j) e x = true
    · rw [if_pos h, decide_eq_true (hAB.1 h)]; rfl
    · rw [if_neg h, decide_eq_false (fun hh => h (hAB.2 hh))]; rfl
  · intro k hk
    have hk' : k < l.length := by omega
    have hx := inb_ring hb (List.getElem_mem hk)
    unfold fleetref2_CornersFault_x3 fleetref2_CornersFault_x4 fleetref2_CornersFault_x5
    rw [redge_eq hl hk']
    generalize (ring l)[k] = x at hx
    have h : (k : Int) < l.length := by omega
    have hki : decide ((k : Int) = (i : Int)) = decide (k = i) := by
      rw [Bool.eq_iff_iff, decide_eq_true_iff, decide_eq_true_iff]; omega
    simp only [h, decide_true, cond_true, Option.bind_some, hki, touches_eq he'.1 he'.2 hx.1 hx.2, ron_eq he'.1 he'.2 hx.2, ron_eq hx.1 hx.2 he'.1]
    rw [show (decide (e.2.X = x.1.X) && (decide (e.2.Y = x.1.Y) && true)) = spB e.2 x.1 from rfl, show (decide (x.2.X = e.1.X) && (decide (x.2.Y = e.1.Y) && true)) = spB x.2 e.1 from rfl]
    unfold badR
    rw [show onB e x.2 = onB (e.1, e.2) x.2 from rfl, show onB x e.1 = onB (x.1, x.2) e.1 from rfl, show meB e x = meB (e.1, e.2) (x.1, x.2) from rfl]
    cases decide (k = i) <;> cases spB e.2 x.1 <;> cases spB x.2 e.1 <;> cases meB (e.1, e.2) (x.1, x.2) <;> cases onB (e.1, e.2) x.2 <;> cases onB (x.1, x.2) e.1 <;> rfl
  · rw [hlen]
    unfold fleetref2_CornersFault_x3
    simp
theorem rcrossed_eq {l : List api_Spot} (hl : l.length ≤ 200) (hb : ∀ s ∈ l, InB s) :
    loopO (fleetref2_CornersFault_x2 l) 0 = some (cond (decide (∃ (i : Nat) (e : api_Spot × api_Spot), (ring l)[i]? = some e ∧ ∃ (k : Nat) (x : api_Spot × api_Spot), (ring l)[k]? = some x ∧ badR i k e x = true)) (.inr ()) (.inl ())) := by
  have hlen := ring_len l
  rw [range_loop (l := ring l) (fun i e => cond (innR (ring l) i e) (some (.inr ())) none) (.inl ()) (by omega), scan_ex]
  · have hAB : (∃ (i : Nat) (x : api_Spot × api_Spot), (ring l)[i]? = some x ∧ innR (ring l) (0 + i) x = true) ↔ (∃ (i : Nat) (e : api_Spot × api_Spot), (ring l)[i]? = some e ∧ ∃ (k : Nat) (x : api_Spot × api_Spot), (ring l)[k]? = some x ∧ badR i k e x = true) := by
      simp only [Nat.zero_add, innR, decide_eq_true_iff]
    by_cases h : ∃ (i : Nat) (x : api_Spot × api_Spot), (ring l)[i]? = some x ∧ innR (ring l) (0 + i) x = true
    · rw [if_pos h, decide_eq_true (hAB.1 h)]; rfl
    · rw [if_neg h, decide_eq_false (fun hh => h (hAB.2 hh))]; rfl
  · intro i hi
    have hi' : i < l.length := by omega
    have key := rcrossed_inner hl hb hi' (e := (ring l)[i]) (List.getElem?_eq_getElem hi)
    unfold fleetref2_CornersFault_x2
    have h : (i : Int) < l.length := by omega
    simp only [h, decide_true, cond_true, redge_eq hl hi', Option.bind_some, key]
    cases innR (ring l) i (ring l)[i] <;> rfl
  · rw [hlen]
    unfold fleetref2_CornersFault_x2
    simp

/-- edges have nothing in common but the corner between two that are next to each other -/
def Qs (l : List api_Spot) : Prop :=
  (∀ e ∈ ring l, ∀ f ∈ ring l, e ≠ f → e.2 ≠ f.1 → f.2 ≠ e.1 → meB e f = false) ∧ (∀ e ∈ ring l, ∀ f ∈ ring l, e ≠ f → e.2 = f.1 → onB e f.2 = false ∧ onB f e.1 = false)

section
variable {l : List api_Spot} (nd : l.Nodup)
include nd
theorem ring_nodup : (ring l).Nodup := nodup_of_map (g := Prod.fst) (by rw [ring_fst]; exact nd)
theorem ring_inj {i k : Nat} {e f : api_Spot × api_Spot} (hi : (ring l)[i]? = some e) (hk : (ring l)[k]? = some f) : e = f ↔ i = k := by
  have hn := ring_nodup nd
  obtain ⟨i1, i2⟩ := List.getElem?_eq_some_iff.1 hi
  obtain ⟨k1, k2⟩ := List.getElem?_eq_some_iff.1 hk
  constructor
  · intro h
    exact (List.getElem_inj hn).1 (by rw [i2, k2, h])
  · intro h; subst h; rw [← i2, ← k2]
theorem ring_next {i k : Nat} {e f : api_Spot × api_Spot} (hi : (ring l)[i]? = some e) (hk : (ring l)[k]? = some f) : e.2 = f.1 ↔ (i + 1) % l.length = k := by
  obtain ⟨i1, i2⟩ := List.getElem?_eq_some_iff.1 hi
  obtain ⟨k1, k2⟩ := List.getElem?_eq_some_iff.1 hk
  have i1' : i < l.length := by rw [ring_len] at i1; exact i1
  have k1' : k < l.length := by rw [ring_len] at k1; exact k1
  rw [ring_get i1'] at i2
  rw [ring_get k1'] at k2
  rw [← i2, ← k2]
  exact List.getElem_inj nd
theorem refQ : (∃ (i : Nat) (e : api_Spot × api_Spot), (ring l)[i]? = some e ∧ ∃ (k : Nat) (x : api_Spot × api_Spot), (ring l)[k]? = some x ∧ badR i k e x = true) ↔ ¬ Qs l := by
  constructor
  · rintro ⟨i, e, hi, k, f, hk, hb⟩ ⟨q1, q2⟩
    have me := List.mem_of_getElem? hi
    have mf := List.mem_of_getElem? hk
    unfold badR at hb
    simp only [Bool.and_eq_true, Bool.not_eq_true', decide_eq_false_iff_not] at hb
    obtain ⟨hne, hb⟩ := hb
    have hef : e ≠ f := fun h => hne ((ring_inj nd hi hk).1 h).symm
    cases h1 : spB e.2 f.1 with
    | true =>
      rw [h1] at hb
      have := q2 e me f mf hef (spB_iff.1 h1)
      rw [this.1, this.2] at hb; cases hb
    | false =>
      rw [h1] at hb
      cases h2 : spB f.2 e.1 with
      | true => rw [h2] at hb; cases hb
      | false =>
        rw [h2] at hb
        have := q1 e me f mf hef (fun h => by rw [spB_iff.2 h] at h1; cases h1) (fun h => by rw [spB_iff.2 h] at h2; cases h2)
        simp only [cond_false] at hb
        rw [this] at hb; cases hb
  · intro hq
    refine Classical.byContradiction fun hn => hq ⟨fun e me f mf hef h1 h2 => ?_, fun e me f mf hef h1 => ?_⟩
    all_goals
      obtain ⟨i, hi⟩ := List.mem_iff_getElem?.1 me
      obtain ⟨k, hk⟩ := List.mem_iff_getElem?.1 mf
      have hik : ¬ k = i := fun h => hef ((ring_inj nd hi hk).2 h.symm)
      have hb : badR i k e f = false := by
        rw [← Bool.not_eq_true]; exact fun h => hn ⟨i, e, hi, k, f, hk, h⟩
      unfold badR at hb
      rw [decide_eq_false hik] at hb
      simp only [Bool.not_false, Bool.true_and] at hb
    · have e1 : spB e.2 f.1 = false := by rw [← Bool.not_eq_true]; exact fun h => h1 (spB_iff.1 h)
      have e2 : spB f.2 e.1 = false := by rw [← Bool.not_eq_true]; exact fun h => h2 (spB_iff.1 h)
      rw [e1, e2] at hb
      exact hb
    · rw [spB_iff.2 h1] at hb
      simp only [cond_true, Bool.or_eq_false_iff] at hb
      exact hb
theorem progQ : (∃ (i : Nat) (e : api_Spot × api_Spot), (ring l)[i]? = some e ∧ ∃ (k : Nat) (x : api_Spot × api_Spot), i < k ∧ (ring l)[k]? = some x ∧ badP l.length i k e x = true) ↔ ¬ Qs l := by
  have hsuc : ∀ {i k : Nat} {e f : api_Spot × api_Spot}, (ring l)[i]? = some e → (ring l)[k]? = some f → i < k → ((i + 1) % l.length = k ↔ k = i + 1) := by
    intro i k e f hi hk hlt
    have k1 := (List.getElem?_eq_some_iff.1 hk).1
    rw [ring_len] at k1
    rw [Nat.mod_eq_of_lt (by omega)]
    omega
  constructor
  · rintro ⟨i, e, hi, k, f, hlt, hk, hb⟩ ⟨q1, q2⟩
    have me := List.mem_of_getElem? hi
    have mf := List.mem_of_getElem? hk
    have hef : e ≠ f := fun h => by have := (ring_inj nd hi hk).1 h; omega
    have n1 : e.2 = f.1 ↔ k = i + 1 := (ring_next nd hi hk).trans (hsuc hi hk hlt)
    have n2 : f.2 = e.1 ↔ (k + 1) % l.length = i := ring_next nd hk hi
    unfold badP at hb
    simp only [Bool.or_eq_true, Bool.and_eq_true, Bool.not_eq_true', decide_eq_false_iff_not, decide_eq_true_iff] at hb
    rcases hb with (⟨h1, h2, h⟩ | ⟨h1, h⟩) | ⟨h1, h⟩
    · rw [q1 e me f mf hef (fun h => h1 (n1.1 h)) (fun h => h2 (n2.1 h))] at h; cases h
    · have := q2 e me f mf hef (n1.2 h1)
      rw [this.1, this.2] at h; rcases h with h | h <;> cases h
    · have := q2 f mf e me hef.symm (n2.2 h1)
      rw [this.1, this.2] at h; rcases h with h | h <;> cases h
  · intro hq
    refine Classical.byContradiction fun hn => hq ⟨fun e me f mf hef h1 h2 => ?_, fun e me f mf hef h1 => ?_⟩
    all_goals
      obtain ⟨i, hi⟩ := List.mem_iff_getElem?.1 me
      obtain ⟨k, hk⟩ := List.mem_iff_getElem?.1 mf
      have hik : ¬ i = k := fun h => hef ((ring_inj nd hi hk).2 h)
      have hb : ∀ {i k : Nat} {e f : api_Spot × api_Spot}, (ring l)[i]? = some e → (ring l)[k]? = some f → i < k → badP l.length i k e f = false := by
        intro i k e f hi hk hlt
        rw [← Bool.not_eq_true]; exact fun h => hn ⟨i, e, hi, k, f, hlt, hk, h⟩
      have n1 := ring_next nd hi hk
      have n2 := ring_next nd hk hi
    · by_cases hlt : i < k
      · have := hb hi hk hlt
        unfold badP at this
        have a1 : ¬ k = i + 1 := fun h => h1 (n1.2 ((hsuc hi hk hlt).2 h))
        have a2 : ¬ (k + 1) % l.length = i := fun h => h2 (n2.2 h)
        rw [decide_eq_false a1, decide_eq_false a2] at this
        simpa using this
      · have hlt : k < i := by omega
        have := hb hk hi hlt
        unfold badP at this
        have a1 : ¬ i = k + 1 := fun h => h2 (n2.2 ((hsuc hk hi hlt).2 h))
        have a2 : ¬ (i + 1) % l.length = k := fun h => h1 (n1.2 h)
        rw [decide_eq_false a1, decide_eq_false a2] at this
        have t : meB f e = false := by simpa using this
        rw [← Bool.not_eq_true] at t ⊢
        exact fun h => t (meB_iff.2 (meetE_comm (meB_iff.1 h)))
    · have h1' := n1.1 h1
      by_cases hlt : i < k
      · have := hb hi hk hlt
        unfold badP at this
        have a1 : k = i + 1 := (hsuc hi hk hlt).1 h1'
        rw [decide_eq_true a1] at this
        simp only [Bool.not_true, Bool.false_and, Bool.false_or, Bool.true_and, Bool.or_eq_false_iff] at this
        exact this.1
      · have hlt : k < i := by omega
        have := hb hk hi hlt
        unfold badP at this
        rw [decide_eq_true h1'] at this
        simp only [Bool.not_true, Bool.false_and, Bool.and_false, Bool.false_or, Bool.true_and, Bool.or_eq_false_iff] at this
        exact ⟨this.2.2, this.2.1⟩
end

/-- corners of a right fence -/
def FRight (l : List api_Spot) : Prop := 3 ≤ l.length ∧ l.length ≤ 200 ∧ (∀ s ∈ l, InB s) ∧ Simple (l.map pt)
theorem simple_of {l : List api_Spot} (nd : l.Nodup) (hq : Qs l) : Simple (l.map pt) where
  nd := nodup_map nd fun _ _ _ _ hne h => hne (pt_inj h)
  sep := by
    intro e he f hf h1 h2 h3 hm
    rw [ring_pt] at he hf
    obtain ⟨e', he', rfl⟩ := List.mem_map.1 he
    obtain ⟨f', hf', rfl⟩ := List.mem_map.1 hf
    have := hq.1 e' he' f' hf' (fun h => h1 (by rw [h])) (fun h => h2 (by show pt e'.2 = pt f'.1; rw [h])) (fun h => h3 (by show pt f'.2 = pt e'.1; rw [h]))
    rw [meB_iff.2 hm] at this; cases this
  adj := by
    intro e he f hf h1 h2
    rw [ring_pt] at he hf
    obtain ⟨e', he', rfl⟩ := List.mem_map.1 he
    obtain ⟨f', hf', rfl⟩ := List.mem_map.1 hf
    have := hq.2 e' he' f' hf' (fun h => h1 (by rw [h])) (pt_inj h2)
    obtain ⟨t1, t2⟩ := this
    exact ⟨fun h => (by rw [onB_iff.2 h] at t1; cases t1), fun h => (by rw [onB_iff.2 h] at t2; cases t2)⟩

/-- the checks of corners, both ways -/
theorem corners_both (f : api_Fence) (hk : (f.Key.length : Int) ≤ 9223372036854775807) :
    ∃ c, fleetref2_CornersFault f.Corners = some c ∧ (c = 0 → FRight f.Corners) ∧ place_CheckFence f = some (cond (keyB f.Key) c 5) := by
  unfold place_CheckFence
  rw [Key_eq _ hk]
  have key : ∃ c, fleetref2_CornersFault f.Corners = some c ∧ (c = 0 → FRight f.Corners) ∧
      (cond (decide ((f.Corners.length : Int) < 3)) (some 3) (cond (decide (200 < (f.Corners.length : Int))) (some 2) ((loopO (place_CheckFence_x1 f) 0).bind fun x => match x with
          | .inl _ => (place_crossed f.Corners).bind fun vr17 => cond (vr17) (some 13) (some 0)
          | .inr vx1_1 => some vx1_1))) = some c := by
    unfold fleetref2_CornersFault
    by_cases h3 : (f.Corners.length : Int) < 3
    · exact ⟨3, by simp [h3], by omega, by simp [h3]⟩
    by_cases h200 : (200 : Int) < f.Corners.length
    · exact ⟨2, by simp [h3, h200], by omega, by simp [h3, h200]⟩
    have hl : f.Corners.length ≤ 200 := by omega
    obtain ⟨r, r1, r2, r3⟩ := half1 f hl
    simp only [h3, h200, decide_false, cond_false, r1, r2, Option.bind_some]
    cases r with
    | inr e => exact ⟨e, rfl, fun h => absurd h r3, rfl⟩
    | inl _ =>
      obtain ⟨hb, nd⟩ := r3
      simp only
      rw [crossed_eq hl hb, rcrossed_eq hl hb]
      have p := progQ nd
      have q := refQ nd
      by_cases hq : Qs f.Corners
      · rw [decide_eq_false (fun h => p.1 h hq), decide_eq_false (fun h => q.1 h hq)]
        exact ⟨0, rfl, fun _ => ⟨by omega, hl, hb, simple_of nd hq⟩, rfl⟩
      · rw [decide_eq_true (p.2 hq), decide_eq_true (q.2 hq)]
        exact ⟨13, rfl, by omega, rfl⟩
  obtain ⟨c, c1, c2, c3⟩ := key
  refine ⟨c, c1, c2, ?_⟩
  cases h : keyB f.Key
  · rfl
  · simp only [Option.bind_some, Bool.not_true, cond_false, cond_true]; exact c3
end Go.Eng

/-
Where a spot is: both ways.
-/
namespace Go.Eng
open Go Geo
open scoped Classical
set_option linter.unusedVariables false
set_option linter.unusedSimpArgs false

theorem scan_any {α ρ : Type} {p : α → Bool} {r d : ρ} : ∀ {l : List α} {k : Nat}, (scan (fun _ x => cond (p x) (some r) none) k l).getD d = cond (l.any p) r d
  | [], _ => by simp [scan]
  | y :: l, k => by
    simp only [scan, List.any_cons]
    cases p y with
    | true => simp
    | false => simp only [cond_false, Bool.false_or]; exact scan_any (l := l)
theorem edges_on {l : List api_Spot} (hl : l.length ≤ 200) (hb : ∀ s ∈ l, InB s) {p : api_Spot} (hp : InB p) :
    place_edges_f1_place_where_1 l p = some ((ring l).any fun e => onB e p) := by
  have hlen := ring_len l
  unfold place_edges_f1_place_where_1
  rw [range_loop (l := ring l) (fun _ e => cond (onB e p) (some (.inr ())) none) (.inl ()) (by omega), scan_any]
  · cases (ring l).any fun e => onB e p <;> rfl
  · intro i hi
    have hi' : i < l.length := by omega
    obtain ⟨a1, a2, a3⟩ := edge_at (l := l) (by omega) hi'
    have hx := inb_ring hb (List.getElem_mem hi)
    generalize (ring l)[i] = x at a1 a2 hx
    unfold place_edges_f1_place_where_1_x1 place_where_1
    have h : (i : Int) < l.length := by omega
    simp only [h, decide_true, cond_true, a1, a2, gd_true a3, Option.bind_some, on_eq hx.1 hx.2 hp]
    rw [show onB x p = onB (x.1, x.2) p from rfl]
    cases onB (x.1, x.2) p <;> rfl
  · rw [hlen]
    unfold place_edges_f1_place_where_1_x1
    simp
def htB (p : api_Spot) (e : api_Spot × api_Spot) : Bool := hitE (pt p) (pte e)
theorem where2_eq {a b p : api_Spot} (ha : InB a) (hb : InB b) (hp : InB p) (s : Bool) : place_where_2 a b p s = some (s ^^ htB p (a, b)) := by
  unfold place_where_2 place_where_2_x1 place_where_2_x2 place_where_2_x3 place_side
  have key : ∀ {u v : api_Spot}, InB u → InB v → (cond (decide (u.Y ≤ p.Y)) (cond (decide (p.Y < v.Y)) (some (decide (0 < sd u.X u.Y v.X v.Y p.X p.Y))) (some false)) (some false)) = some (decide (hitU u.X u.Y v.X v.Y p.X p.Y)) := by
    intro u v hu hv
    unfold hitU
    by_cases h1 : u.Y ≤ p.Y <;> by_cases h2 : p.Y < v.Y <;> by_cases h3 : 0 < sd u.X u.Y v.X v.Y p.X p.Y <;> simp [h1, h2, h3]
  have fin : ∀ h : Bool, (cond h (some (!s)) (some s)) = some (s ^^ h) := by intro h; cases h <;> cases s <;> rfl
  by_cases hc : b.Y < a.Y
  · have ht : htB p (a, b) = decide (hitU b.X b.Y a.X a.Y p.X p.Y) := hit_dn (a := pt a) (b := pt b) (p := pt p) hc
    simp only [hc, decide_true, cond_true, Option.bind_some, side_wrap hb ha hp, key hb ha, ← ht, fin]
  · have ht : htB p (a, b) = decide (hitU a.X a.Y b.X b.Y p.X p.Y) := hit_up (a := pt a) (b := pt b) (p := pt p) (by show a.Y ≤ b.Y; omega)
    simp only [hc, decide_false, cond_false, Option.bind_some, side_wrap ha hb hp, key ha hb, ← ht, fin]
theorem fold_par {α} (f : α → Bool) (l : List α) (s : Bool) : l.foldl (fun s e => s ^^ f e) s = (s ^^ par f l) := by
  induction l generalizing s with
  | nil => simp [par]
  | cons a l ih => rw [List.foldl_cons, ih]; simp only [par]; rw [Bool.xor_assoc]
theorem inn_pt (l : List api_Spot) (p : api_Spot) : inn (l.map pt) (pt p) = par (htB p) (ring l) := by
  unfold inn
  rw [ring_pt, par_map]
  rfl
theorem edges_in {l : List api_Spot} (hl : l.length ≤ 200) (hb : ∀ s ∈ l, InB s) {p : api_Spot} (hp : InB p) :
    place_edges_f1_place_where_2 l p false = some (inn (l.map pt) (pt p)) := by
  have hlen := ring_len l
  unfold place_edges_f1_place_where_2
  have := (gather_loop (l := ring l) (f := place_edges_f1_place_where_2_x1 l p) (fun (s : Bool) i => (s, i)) (fun s e => s ^^ htB p e) id (fun _ _ => True) (s0 := false) (by omega) (fun i hi s _ => by
    have hi' : i < l.length := by omega
    obtain ⟨a1, a2, a3⟩ := edge_at (l := l) (by omega) hi'
    have hx := inb_ring hb (List.getElem_mem hi)
    generalize (ring l)[i] = x at a1 a2 hx
    unfold place_edges_f1_place_where_2_x1
    have h : (i : Int) < l.length := by omega
    simp only [h, decide_true, cond_true, a1, a2, gd_true a3, Option.bind_some, where2_eq hx.1 hx.2 hp]
    exact ⟨trivial, trivial⟩) (fun s _ => by rw [hlen]; unfold place_edges_f1_place_where_2_x1; simp) trivial).1
  rw [this, fold_par, inn_pt]
  simp
/-- where a spot is -/
noncomputable def wher (l : List api_Spot) (p : api_Spot) : Int := if ∃ e ∈ ring l, onB e p = true then 1 else if inn (l.map pt) (pt p) = true then 2 else 0
theorem where_eq {l : List api_Spot} (hl : l.length ≤ 200) (hb : ∀ s ∈ l, InB s) {p : api_Spot} (hp : InB p) : place_where l p = some (wher l p) := by
  unfold place_where wher
  rw [edges_on hl hb hp, edges_in hl hb hp]
  by_cases h : ∃ e ∈ ring l, onB e p = true
  · rw [if_pos h, (List.any_eq_true).2 h]; rfl
  · rw [if_neg h]
    have : ((ring l).any fun e => onB e p) = false := by rw [← Bool.not_eq_true, List.any_eq_true]; exact h
    rw [this]
    cases hh : inn (l.map pt) (pt p) <;> rfl

/-! ### The document's way: how often the edges go round -/
end Go.Eng

/-
Fences that streams make.
-/
namespace Go.Eng
open Go Geo
open scoped Classical
set_option linter.unusedVariables false
set_option linter.unusedSimpArgs false

theorem Place_ok {k : Nat} {s : fleetmake_Stream} (h : StrOk k s) (hk : k + 2 < 1099511627776) : Ok (fleetmake_Stream_Place s) (fun p => (-5 ≤ p.X ∧ p.X ≤ 20) ∧ (-5 ≤ p.Y ∧ p.Y ≤ 20)) := by
  unfold fleetmake_Stream_Place
  refine (Pick_ok h (by omega) (by simp) (by simp)).bind fun x hx => (Pick_ok (h.nxt (by omega)) (by omega) (by simp) (by simp)).bind fun y hy => .some ?_
  simp only [List.mem_cons, List.not_mem_nil, or_false] at hx hy
  show (-5 ≤ x ∧ x ≤ 20) ∧ (-5 ≤ y ∧ y ≤ 20)
  omega
theorem corners_some (l : List api_Spot) : ∃ c, fleetref2_CornersFault l = some c ∧ (c = 0 → FRight l) := by
  obtain ⟨c, c1, c2, -⟩ := corners_both (api_Fence.mk [] l) (by simp)
  exact ⟨c, c1, c2⟩
theorem right_of_zero {l : List api_Spot} (h : fleetref2_CornersFault l = some 0) : FRight l := by
  obtain ⟨c, c1, c2⟩ := corners_some l
  rw [h] at c1
  exact c2 (Option.some.inj c1).symm
theorem shape0 : fleetref2_CornersFault [api_Spot.mk 0 0, api_Spot.mk 10 0, api_Spot.mk 10 10, api_Spot.mk 5 3, api_Spot.mk 0 10] = some 0 := by kernel_rfl
theorem shape1 : fleetref2_CornersFault [api_Spot.mk 0 10, api_Spot.mk 10 10, api_Spot.mk 10 0, api_Spot.mk 0 0] = some 0 := by kernel_rfl
theorem shape2 : fleetref2_CornersFault [api_Spot.mk 0 0, api_Spot.mk 8 0, api_Spot.mk 8 2, api_Spot.mk 2 2, api_Spot.mk 2 6, api_Spot.mk 8 6, api_Spot.mk 8 8, api_Spot.mk 0 8] = some 0 := by kernel_rfl
theorem shape3 : fleetref2_CornersFault [api_Spot.mk 0 0, api_Spot.mk 10 0, api_Spot.mk 10 10, api_Spot.mk 0 10] = some 0 := by kernel_rfl

theorem spots_ok {k : Nat} {s : fleetmake_Stream} {n : Int} (h : StrOk k s) (hk : k + 100 < 1099511627776) (hn : 0 ≤ n ∧ n ≤ 6) :
    Ok (loopO (fleetmake_Stream_RightFence_x2 n) (s, [], 0)) (fun r => StrOk (k + 12) r.1 ∧ r.2.length ≤ 6) := by
  refine loop_ok (fun q : fleetmake_Stream × List api_Spot × Int => ∃ j : Nat, q.2.2 = (j : Int) ∧ (j : Int) ≤ n ∧ q.2.1.length = j ∧ StrOk (k + 2 * j) q.1) (fun q => (n - q.2.2).toNat) ?_ ⟨0, rfl, by simpa using hn.1, rfl, by simpa using h⟩
  rintro ⟨s, l, i⟩ ⟨j, rfl, j1, j2, j3⟩
  simp only at j2 j3
  unfold fleetmake_Stream_RightFence_x2
  refine .cond (fun hc => ?_) (fun hc => ?_)
  · have hc : (j : Int) < n := by simpa using hc
    refine (Place_ok j3 (by omega)).bind fun p hp => .gd (ble_lim (by simp; omega)) ?_
    have w1 : IntKind.wrap .i64 ((j : Int) + 1) = ((j + 1 : Nat) : Int) := by rw [wrap64 (by omega) (by omega)]; omega
    refine .some ⟨⟨j + 1, w1, by omega, by simp; omega, ((j3.nxt (by omega)).nxt (by omega)).mono (by omega)⟩, ?_⟩
    show (n - IntKind.wrap .i64 ((j : Int) + 1)).toNat < _
    rw [w1]; simp only; omega
  · exact .some ⟨j3.mono (by omega), by show l.length ≤ 6; omega⟩
theorem wide_ok {k : Nat} {s : fleetmake_Stream} {l : List api_Spot} (h : StrOk k s) (hk : k + 100 < 1099511627776) (hl : l.length ≤ 6) :
    Ok (loopO (fleetmake_Stream_RightFence_x4 l) (s, l, 0)) (fun r => StrOk (k + 6) r.1 ∧ r.2.length ≤ 6) := by
  refine loop_ok (fun q : fleetmake_Stream × List api_Spot × Int => ∃ j : Nat, q.2.2 = (j : Int) ∧ j ≤ l.length ∧ q.2.1.length = l.length ∧ StrOk (k + j) q.1) (fun q => ((l.length : Int) - q.2.2).toNat) ?_ ⟨0, rfl, by omega, rfl, by simpa using h⟩
  rintro ⟨s, m, i⟩ ⟨j, rfl, j1, j2, j3⟩
  simp only at j2 j3
  unfold fleetmake_Stream_RightFence_x4
  refine .cond (fun hc => ?_) (fun hc => ?_)
  · have hc : (j : Int) < l.length := by simpa using hc
    refine (at_mem (l := m) (n := (j : Int)) (by omega) (by omega)).bind fun y hy => (Pick_ok j3 (by omega) (by simp) (by simp)).bind fun x hx => ?_
    have w1 : IntKind.wrap .i64 ((j : Int) + 1) = ((j + 1 : Nat) : Int) := by rw [wrap64 (by omega) (by omega)]; omega
    refine .some ⟨⟨j + 1, w1, by omega, by simp; omega, (j3.nxt (by omega)).mono (by omega)⟩, ?_⟩
    show ((l.length : Int) - IntKind.wrap .i64 ((j : Int) + 1)).toNat < _
    rw [w1]; simp only; omega
  · exact .some ⟨j3.mono (by omega), by show m.length ≤ 6; omega⟩
theorem RightFence_ok {k : Nat} {s : fleetmake_Stream} (h : StrOk k s) (hk : k + 1000 < 1099511627776) :
    Ok (fleetmake_Stream_RightFence s) (fun r => StrOk (k + 100) r.1 ∧ fleetref2_CornersFault r.2 = some 0 ∧ r.2.length ≤ 8) := by
  unfold fleetmake_Stream_RightFence
  have key : Ok (loopO fleetmake_Stream_RightFence_x1 (s, 0)) (fun r => match r with | .inl s' => StrOk (k + 90) s' | .inr q => StrOk (k + 90) q.1 ∧ fleetref2_CornersFault q.2 = some 0 ∧ q.2.length ≤ 6) := by
    refine loop_ok (fun q : fleetmake_Stream × Int => ∃ j : Nat, q.2 = (j : Int) ∧ j ≤ 4 ∧ StrOk (k + 20 * j) q.1) (fun q => ((4 : Int) - q.2).toNat) ?_ ⟨0, rfl, by omega, by simpa using h⟩
    rintro ⟨s, i⟩ ⟨j, rfl, j1, j3⟩
    simp only at j3
    unfold fleetmake_Stream_RightFence_x1
    refine .cond (fun hc => ?_) (fun hc => ?_)
    · have hc : (j : Int) < 4 := by simpa using hc
      refine (Range_ok j3 (by omega) (by omega) (by omega)).bind fun ⟨s1, n⟩ ⟨r1, r2, r3, _⟩ => ?_
      simp only at r1 r2 r3
      refine (spots_ok r1 (by omega) ⟨by omega, r3 (by omega)⟩).bind fun ⟨s2, l2⟩ ⟨q1, q2⟩ => ?_
      simp only at q1 q2
      have hx3 : Ok (fleetmake_Stream_RightFence_x3 s2 l2) (fun r => StrOk (k + 20 * j + 20) r.1 ∧ r.2.length ≤ 6) := by
        unfold fleetmake_Stream_RightFence_x3
        refine (Flip_ok q1 (by omega) (by unfold I64; omega)).bind fun b _ => .cond (fun _ => ?_) (fun _ => ?_)
        · refine (wide_ok (q1.nxt (by omega)) (by omega) q2).bind fun ⟨s3, l3⟩ ⟨p1, p2⟩ => .some ⟨p1.mono (by omega), p2⟩
        · exact .some ⟨(q1.nxt (by omega)).mono (by omega), q2⟩
      refine hx3.bind fun ⟨s4, l4⟩ ⟨p1, p2⟩ => ?_
      simp only at p1 p2
      obtain ⟨c, c1, c2⟩ := corners_some l4
      simp only [c1, Option.bind_some]
      refine .cond (fun hc0 => ?_) (fun _ => ?_)
      · have hc0 : c = 0 := by simpa using hc0
        exact .some ⟨p1.mono (by omega), by rw [c1, hc0], p2⟩
      · have w1 : IntKind.wrap .i64 ((j : Int) + 1) = ((j + 1 : Nat) : Int) := by rw [wrap64 (by omega) (by omega)]; omega
        refine .some ⟨⟨j + 1, w1, by omega, p1.mono (by omega)⟩, ?_⟩
        show ((4 : Int) - IntKind.wrap .i64 ((j : Int) + 1)).toNat < _
        rw [w1]; omega
    · exact .some (j3.mono (by omega))
  refine key.bind fun r hr => ?_
  cases r with
  | inr q =>
    obtain ⟨s', l'⟩ := q
    exact .some ⟨hr.1.mono (by omega), hr.2.1, by have := hr.2.2; simp only at this ⊢; omega⟩
  | inl s' =>
    have hr : StrOk (k + 90) s' := hr
    have hx5 : Ok (fleetmake_Stream_RightFence_x5 s') (fun l => fleetref2_CornersFault l = some 0 ∧ l.length ≤ 8) := by
      unfold fleetmake_Stream_RightFence_x5
      refine (Next_ok hr (by omega) (by unfold I64; omega)).bind fun n _ => .cond (fun _ => .some ⟨shape0, by simp⟩) (fun _ => .cond (fun _ => .some ⟨shape1, by simp⟩) (fun _ => .cond (fun _ => .some ⟨shape2, by simp⟩) (fun _ => .some ⟨shape3, by simp⟩)))
    refine hx5.bind fun l hl => .some ⟨(hr.nxt (by omega)).mono (by omega), hl.1, hl.2⟩
end Go.Eng

/-
What the laws ask of each package once.
-/
namespace Go.Eng
open Go
theorem ready_eq : fleetkeep2_ready = some true := by kernel_rfl
end Go.Eng

/-
Two fences meet just if each does the other; with a spot in both they do.
-/
namespace Go.Eng
open Go Geo
open scoped Classical
set_option linter.unusedVariables false
set_option linter.unusedSimpArgs false

theorem check_right {l : List api_Spot} (hz : fleetref2_CornersFault l = some 0) : place_CheckFence (api_Fence.mk [102] l) = some 0 := by
  obtain ⟨c, c1, c2, c3⟩ := corners_both (api_Fence.mk [102] l) (by simp)
  have c1 : fleetref2_CornersFault l = some c := c1
  rw [hz] at c1
  have hc : c = 0 := (Option.some.inj c1).symm
  have hkey : keyB [102] = true := by decide
  rw [c3, hc]
  show some (cond (keyB [102]) 0 5) = _
  rw [hkey]; rfl
end Go.Eng

/-
Tracks that streams make; where a device stays.
-/
namespace Go.Eng
open Go Geo
open scoped Classical
set_option linter.unusedVariables false
set_option linter.unusedSimpArgs false

def fsp (x : api_Fix) : api_Spot := api_Spot.mk x.X x.Y
/-- a fix as right tracks have it -/
def FixR (x : api_Fix) : Prop := x.Device = [100] ∧ InB (fsp x) ∧ (0 ≤ x.At ∧ x.At ≤ 20000) ∧ (0 ≤ x.Error ∧ x.Error ≤ 5)
def TrackR (l : List api_Fix) : Prop := l.length ≤ 14 ∧ (∀ x ∈ l, FixR x) ∧ l.Pairwise (fun x y => x.At < y.At)
theorem TrackR.lt {l : List api_Fix} (h : TrackR l) {i j : Nat} (hi : i < j) (hj : j < l.length) : (l[i]'(by omega)).At < l[j].At :=
  List.pairwise_iff_getElem.1 h.2.2 i j (by omega) hj hi

theorem RightTrack_ok {k : Nat} {s : fleetmake_Stream} (h : StrOk k s) (hk : k + 1000 < 1099511627776) : Ok (fleetmake_Stream_RightTrack s 14) (fun r => StrOk (k + 200) r.1 ∧ TrackR r.2) := by
  unfold fleetmake_Stream_RightTrack
  refine (Place_ok h (by omega)).bind fun p hp => ?_
  refine (Range_ok ((h.nxt (by omega)).nxt (by omega)) (by omega) (by omega) (by omega)).bind fun ⟨s1, n⟩ ⟨r1, r2, r3, _⟩ => ?_
  have r3 : n ≤ 14 := r3 (by omega)
  have r2 : 0 ≤ n := r2
  have r1 : StrOk (k + 3) s1 := r1
  have key : Ok (loopO (fleetmake_Stream_RightTrack_x1 n) (s1, [], 0, p, 0)) (fun r => StrOk (k + 200) r.1 ∧ TrackR r.2) := by
    refine loop_ok (fun q : fleetmake_Stream × List api_Fix × Int × api_Spot × Int => ∃ j : Nat, q.2.2.2.2 = (j : Int) ∧ (j : Int) ≤ n ∧ q.2.1.length = j ∧ StrOk (k + 3 + 12 * j) q.1 ∧ (0 ≤ q.2.2.1 ∧ q.2.2.1 ≤ 1000 * (j : Int)) ∧
      ((-5 - 2 * (j : Int) ≤ q.2.2.2.1.X ∧ q.2.2.2.1.X ≤ 20 + 2 * (j : Int)) ∧ (-5 - 2 * (j : Int) ≤ q.2.2.2.1.Y ∧ q.2.2.2.1.Y ≤ 20 + 2 * (j : Int))) ∧ (∀ x ∈ q.2.1, FixR x ∧ x.At ≤ q.2.2.1) ∧ q.2.1.Pairwise (fun x y => x.At < y.At))
      (fun q => (n - q.2.2.2.2).toNat) ?_ ⟨0, rfl, by simpa using r2, rfl, by simpa using r1, by simp, by simp; omega, by simp, by simp⟩
    rintro ⟨s, l, at_, p, i⟩ ⟨j, rfl, j1, j2, j3, j4, j5, j6, j7⟩
    simp only at j2 j3 j4 j5 j6 j7
    unfold fleetmake_Stream_RightTrack_x1
    refine .cond (fun hc => ?_) (fun hc => ?_)
    · have hc : (j : Int) < n := by simpa using hc
      refine (Pick_ok j3 (by omega) (by simp) (by simp)).bind fun st hst => ?_
      have hst : 1 ≤ st ∧ st ≤ 1000 := by
        simp only [List.mem_cons, List.not_mem_nil, or_false] at hst; omega
      have a1 := j3.nxt (by omega)
      have hx2 : Ok (fleetmake_Stream_RightTrack_x2 s p) (fun r => StrOk (k + 3 + 12 * j + 5) r.1 ∧ ((-5 - 2 * ((j + 1 : Nat) : Int) ≤ r.2.X ∧ r.2.X ≤ 20 + 2 * ((j + 1 : Nat) : Int)) ∧ (-5 - 2 * ((j + 1 : Nat) : Int) ≤ r.2.Y ∧ r.2.Y ≤ 20 + 2 * ((j + 1 : Nat) : Int)))) := by
        unfold fleetmake_Stream_RightTrack_x2
        have a2 := a1.nxt (by omega)
        refine (Flip_ok a1 (by omega) (by unfold I64; omega)).bind fun b _ => .cond (fun _ => ?_) (fun _ => ?_)
        · exact (Place_ok a2 (by omega)).bind fun q hq => .some ⟨((a2.nxt (by omega)).nxt (by omega)).mono (by omega), by simp only; omega⟩
        · refine (Range_ok a2 (by omega) (by omega) (by omega)).bind fun ⟨s6, x⟩ ⟨x1, x2, x3, _⟩ => ?_
          have x3 : x ≤ 2 := x3 (by omega)
          have x2 : -2 ≤ x := x2
          refine (Range_ok x1 (by omega) (by omega) (by omega)).bind fun ⟨s7, y⟩ ⟨y1, y2, y3, _⟩ => ?_
          have y3 : y ≤ 2 := y3 (by omega)
          have y2 : -2 ≤ y := y2
          refine .some ⟨StrOk.mono y1 (by omega), ?_⟩
          simp only
          rw [wrap64 (by omega) (by omega), wrap64 (by omega) (by omega)]
          omega
      refine hx2.bind fun ⟨s8, p2⟩ ⟨b1, b2⟩ => ?_
      have b1 : StrOk (k + 3 + 12 * j + 5) s8 := b1
      simp only at b2
      refine (Pick_ok b1 (by omega) (by simp) (by simp)).bind fun er her => ?_
      have her : 0 ≤ er ∧ er ≤ 5 := by
        simp only [List.mem_cons, List.not_mem_nil, or_false] at her; omega
      have w0 : IntKind.wrap .i64 (at_ + st) = at_ + st := wrap64 (by omega) (by omega)
      have hx3 : Ok (fleetmake_Stream_RightTrack_x3 at_ st s8 p2 er) (fun r => StrOk (k + 3 + 12 * j + 10) r.1 ∧ FixR r.2 ∧ r.2.At = at_ + st) := by
        unfold fleetmake_Stream_RightTrack_x3
        rw [w0]
        have c1 := b1.nxt (by omega)
        have c2 := c1.nxt (by omega)
        refine (Flip_ok c1 (by omega) (by unfold I64; omega)).bind fun b _ => .cond (fun _ => ?_) (fun _ => ?_)
        · refine (Pick_ok c2 (by omega) (by simp) (by simp)).bind fun x hx => .some ⟨(c2.nxt (by omega)).mono (by omega), ⟨rfl, ?_, ?_, her⟩, rfl⟩
          · simp only [List.mem_cons, List.not_mem_nil, or_false] at hx
            unfold InB fsp; simp only; omega
          · simp only; omega
        · refine .some ⟨c2.mono (by omega), ⟨rfl, ?_, ?_, her⟩, rfl⟩
          · unfold InB fsp; simp only; omega
          · simp only; omega
      refine hx3.bind fun ⟨s9, x⟩ ⟨d1, d2, d3⟩ => .gd (ble_lim (by simp; omega)) ?_
      have d1 : StrOk (k + 3 + 12 * j + 10) s9 := d1
      simp only at d2 d3
      have w1 : IntKind.wrap .i64 ((j : Int) + 1) = ((j + 1 : Nat) : Int) := by rw [wrap64 (by omega) (by omega)]; omega
      rw [w0]
      refine .some ⟨⟨j + 1, w1, by omega, by simp; omega, d1.mono (by omega), by simp only; omega, by simp only; omega, ?_, ?_⟩, ?_⟩
      · simp only
        intro y hy
        rcases List.mem_append.1 hy with hy | hy
        · have := j6 y hy; exact ⟨this.1, by omega⟩
        · rw [List.mem_singleton] at hy; subst hy; exact ⟨d2, by omega⟩
      · simp only
        rw [List.pairwise_append]
        refine ⟨j7, by simp, fun y hy z hz => ?_⟩
        rw [List.mem_singleton] at hz; subst hz
        have := (j6 y hy).2; omega
      · show (n - IntKind.wrap .i64 ((j : Int) + 1)).toNat < (n - (j : Int)).toNat
        rw [w1]; omega
    · exact .some ⟨j3.mono (by omega), by show l.length ≤ 14; omega, fun x hx => (j6 x hx).1, j7⟩
  exact key.bind fun ⟨s2, l⟩ hl => .some hl

theorem scan_const_none {α ρ : Type} : ∀ (l : List α) (k : Nat), scan (fun _ _ => (none : Option ρ)) k l = none
  | [], _ => rfl
  | _ :: l, k => scan_const_none l (k + 1)
theorem key100 : keyB [100] = true := by decide
theorem fixes_ok {l : List api_Fix} (h : TrackR l) : place_CheckFixes l = some 0 := by
  unfold place_CheckFixes
  have hl := h.1
  have h2000 : ¬ (2000 : Int) < l.length := by omega
  simp only [h2000, decide_false, cond_false]
  rw [range_loop (l := l) (fun _ _ => none) (.inl ()) (by omega), scan_const_none]
  · rfl
  · intro i hi
    have hx := h.2.1 _ (List.getElem_mem hi)
    unfold place_CheckFixes_x1
    have hi' : (i : Int) < l.length := by omega
    have hx3 : place_CheckFixes_x3 l i l[i] = some false := by
      unfold place_CheckFixes_x3
      by_cases h0 : (0 : Int) < i
      · have w1 : IntKind.wrap .i64 ((i : Int) - 1) = ((i - 1 : Nat) : Int) := by rw [wrap64 (by omega) (by omega)]; omega
        have hy := h.2.1 _ (List.getElem_mem (l := l) (n := i - 1) (by omega))
        have hlt := h.lt (i := i - 1) (j := i) (by omega) hi
        simp only [h0, decide_true, cond_true, w1, at_nat (l := l) (n := i - 1) (by omega), Option.bind_some, fbyDevice_eq]
        have : fOrd l[i] (l[i - 1]'(by omega)) = 1 := by
          unfold fOrd cmpI
          rw [hx.1, hy.1, cmpB_self]
          unfold or0
          rw [if_pos rfl, if_neg (by omega), if_pos hlt]
        rw [this]; rfl
      · simp only [h0, decide_false, cond_false]
    have hx2 : place_CheckFixes_x2 l[i] = some false := by
      unfold place_CheckFixes_x2 place_spot
      obtain ⟨-, b1, b2, b3⟩ := hx
      have hb := (inB_iff _).2 b1
      unfold fsp at hb
      simp only at hb
      have m1 : (decide (0 ≤ l[i].At) && decide (l[i].At ≤ 345686399999)) = true := by simp; omega
      simp only [Moment_eq, isSpot_eq, Option.bind_some, m1, hb, Bool.not_true, cond_false, Out_eq]
      have : (decide (l[i].Error < 0) || decide (10000 < l[i].Error)) = false := by simp; omega
      rw [this]
    simp only [hi', decide_true, cond_true, at_nat hi, Option.bind_some, hx.1, Key_eq [100] (by simp), key100, Bool.not_true, cond_false, hx2, hx3]
  · unfold place_CheckFixes_x1
    simp
theorem track_ok {l : List api_Fix} (h : TrackR l) : place_trackFault l = some 0 := by
  unfold place_trackFault
  have hl := h.1
  rw [fixes_ok h]
  have : slices_ContainsFunc_api_Fix_api_Fix_f1_place_trackFault_1 l = some false := by
    unfold slices_ContainsFunc_api_Fix_api_Fix_f1_place_trackFault_1 slices_IndexFunc_api_Fix_api_Fix_f1_place_trackFault_1
    rw [range_loop (l := l) (fun _ _ => none) (.inl ()) (by omega), scan_const_none]
    · rfl
    · intro i hi
      have hx := h.2.1 _ (List.getElem_mem hi)
      have h0 := h.2.1 _ (List.getElem_mem (l := l) (n := 0) (by omega))
      unfold slices_IndexFunc_api_Fix_api_Fix_f1_place_trackFault_1_x1 place_trackFault_1
      have hi' : (i : Int) < l.length := by omega
      have g0 : at? l 0 = some (l[0]'(by omega)) := at_nat (l := l) (n := 0) (by omega)
      simp only [hi', decide_true, cond_true, at_nat hi, g0, Option.bind_some, hx.1, h0.1, Bool.not_true, cond_false]
    · unfold slices_IndexFunc_api_Fix_api_Fix_f1_place_trackFault_1_x1
      simp
  rw [this]; rfl

/-! ### Stays -/
end Go.Eng

/-
How far, and where surely: there is always an answer.
-/
namespace Go.Eng
open Go Geo
open scoped Classical
set_option linter.unusedVariables false
set_option linter.unusedSimpArgs false

theorem cond_some {α} (b : Bool) (x y : α) : (cond b (some x) (some y)) = some (cond b x y) := by cases b <;> rfl
theorem less_tot (a b : api_Fraction) : Ok (place_less a b) (fun _ => True) := by
  unfold place_less
  have h2 : ∀ a b c d, Ok (base_CompareProducts_x2 a b c d) (fun _ => True) := fun a b c d => by
    unfold base_CompareProducts_x2
    exact .cond (fun _ => .some trivial) (fun _ => .some trivial)
  have h1 : ∀ a b c d, Ok (base_CompareProducts_x1 a b c d) (fun _ => True) := fun a b c d => by
    unfold base_CompareProducts_x1
    exact (h2 a b c d).bind fun x _ => .cond (fun _ => .some trivial) (fun _ => .cond (fun _ => .some trivial) (fun _ => .some trivial))
  have h3 : ∀ a b c d, Ok (base_CompareProducts_x3 a b c d) (fun _ => True) := fun a b c d => by
    unfold base_CompareProducts_x3
    exact .cond (fun _ => .some trivial) (fun _ => .some trivial)
  have h : ∀ a b c d, Ok (base_CompareProducts a b c d) (fun _ => True) := fun a b c d => by
    unfold base_CompareProducts bits_Mul64
    exact (h1 a b c d).bind fun x _ => .cond (fun _ => .some trivial) (fun _ => (h3 a b c d).bind fun y _ => .cond (fun _ => .some trivial) (fun _ => .some trivial))
  exact (h _ _ _ _).bind fun r _ => .some trivial
theorem gcd_tot {a b : Int} (h : b ≠ 0) : Ok (base_Gcd a b) (fun r => r ≠ 0) := by
  unfold base_Gcd
  refine Ok.bind (P := fun r : Int => r ≠ 0) (loop_ok (fun q : Int × Int => ¬ (q.1 = 0 ∧ q.2 = 0)) (fun q => q.2.natAbs) ?_ (fun hh => h hh.2)) fun r hr => .some hr
  rintro ⟨a, b⟩ hab
  simp only at hab
  unfold base_Gcd_x1
  refine .cond (fun hc => ?_) (fun hc => ?_)
  · have hb : b ≠ 0 := by simpa using hc
    refine .gd (by simpa using hb) (.some ⟨fun hh => hb hh.1, ?_⟩)
    show (a.tmod b).natAbs < b.natAbs
    rw [Int.natAbs_tmod]
    exact Nat.mod_lt _ (by omega)
  · have hb : b = 0 := by simpa using hc
    exact .some fun hh => hab ⟨hh, hb⟩
theorem far_tot (a b s : api_Spot) : Ok (place_far a b s) (fun _ => True) := by
  unfold place_far place_square place_side
  simp only [Option.bind_some]
  refine .cond (fun _ => .some trivial) (fun h1 => .cond (fun _ => .some trivial) (fun h2 => ?_))
  have h1 := of_decide_eq_false h1
  have h2 := of_decide_eq_false h2
  unfold base_Fraction
  refine Ok.bind (P := fun _ => True) ?_ fun r _ => .some trivial
  refine Ok.bind (gcd_tot ?_) fun r hr => .gd (by simpa using hr) (.some trivial)
  omega
theorem farOf_tot {l : List api_Spot} (hl : l.length ≤ 200) (s : api_Spot) : Ok (place_farOf l s) (fun _ => True) := by
  unfold place_farOf place_edges_f1_place_farOf_1
  refine Ok.bind (P := fun _ => True) (Ok.bind (P := fun _ => True) (loop_ok (fun q : api_Fraction × Int => ∃ k : Nat, q.2 = (k : Int) ∧ k ≤ l.length) (fun q => ((l.length : Int) - q.2).toNat) ?_ ⟨0, rfl, by omega⟩) fun r _ => .some trivial) fun r _ => .some trivial
  rintro ⟨v, q⟩ ⟨k, rfl, k1⟩
  unfold place_edges_f1_place_farOf_1_x1
  by_cases hk : k < l.length
  · have hk' : (k : Int) < l.length := by omega
    obtain ⟨a1, a2, a3⟩ := edge_at (l := l) (by omega) hk
    have w1 : IntKind.wrap .i64 ((k : Int) + 1) = ((k + 1 : Nat) : Int) := by rw [wrap64 (by omega) (by omega)]; omega
    simp only [hk', decide_true, cond_true, a1, a2, gd_true a3, Option.bind_some]
    rw [w1]
    have hx : ∀ a b, Ok (place_farOf_1 a b s v) (fun _ => True) := fun a b => by
      unfold place_farOf_1 place_farOf_1_x1
      refine Ok.bind (P := fun _ => True) ((far_tot a b s).bind fun r _ => ?_) fun r _ => .some trivial
      refine Ok.bind (P := fun _ => True) ?_ fun x _ => .cond (fun _ => .some trivial) (fun _ => .some trivial)
      unfold place_farOf_1_x2
      exact .cond (fun _ => .some trivial) (fun _ => (less_tot _ _).bind fun _ _ => .some trivial)
    exact (hx _ _).bind fun v' _ => .some ⟨⟨k + 1, rfl, by omega⟩, by simp only; omega⟩
  · have hk' : ¬ (k : Int) < l.length := by omega
    simp only [hk', decide_false, cond_false]
    exact .some trivial
theorem surely_tot {l : List api_Spot} (hr : FRight l) {x : api_Fix} (hx : FixR x) : Ok (place_surely l x) (fun _ => True) := by
  unfold place_surely
  have hw := where_eq hr.2.1 hr.2.2.1 hx.2.1
  unfold fsp at hw
  rw [hw]
  simp only [Option.bind_some]
  refine Ok.bind (P := fun _ => True) ?_ fun b _ => .cond (fun _ => .some trivial) (fun _ => .some trivial)
  unfold place_surely_x1
  exact .cond (fun _ => .some trivial) (fun _ => (farOf_tot hr.2.1 _).bind fun r _ => (less_tot _ _).bind fun _ _ => .some trivial)

/-! ### Visits -/
section
variable (l : List api_Fix) (g : api_Fix → Int)
/-- a visit that begins within -/
def VFrom (last : Int) (x : api_Visit) : Prop := last < x.From ∧ ∃ y ∈ l, x.From = y.At ∧ g y = 2
/-- visits that have ended -/
def VClosed : Int → List api_Visit → Prop
  | _, [] => True
  | last, x :: v => (VFrom l g last x ∧ x.From < x.To ∧ ∃ y ∈ l, x.To = y.At ∧ g y = 0) ∧ VClosed x.To v
def lastV : Int → List api_Visit → Int
  | last, [] => last
  | _, x :: v => lastV x.To v
theorem vclosed_append {x : api_Visit} : ∀ (v : List api_Visit) (last : Int), VClosed l g last v → (VFrom l g (lastV last v) x ∧ x.From < x.To ∧ ∃ y ∈ l, x.To = y.At ∧ g y = 0) → VClosed l g last (v ++ [x])
  | [], _, _, h => ⟨h, trivial⟩
  | y :: v, _, h1, h2 => ⟨h1.1, vclosed_append v y.To h1.2 h2⟩
theorem lastV_append (x : api_Visit) : ∀ (v : List api_Visit) (last : Int), lastV last (v ++ [x]) = x.To
  | [], _ => rfl
  | y :: v, _ => lastV_append x v y.To
theorem vclosed_to : ∀ (v : List api_Visit) (last : Int), VClosed l g last v → ∀ x ∈ v, ∃ y ∈ l, x.To = y.At
  | [], _, _, x, hx => nomatch hx
  | y :: v, _, h, x, hx => by
    rcases List.mem_cons.1 hx with rfl | hx
    · obtain ⟨z, h1, h2, h3⟩ := h.1.2.2; exact ⟨z, h1, h2⟩
    · exact vclosed_to v y.To h.2 x hx
end
theorem at_last {α} (v : List α) (x : α) (hv : v.length ≤ 1000) : at? (v ++ [x]) (IntKind.wrap .i64 (((v ++ [x]).length : Int) - 1)) = some x := by
  have : ((v ++ [x]).length : Int) - 1 = (v.length : Int) := by simp
  rw [this, wrap64 (by omega) (by omega), at_nat (by simp)]
  simp
theorem set_last {α} (v : List α) (x z : α) (hv : v.length ≤ 1000) : (v ++ [x]).set (IntKind.wrap .i64 (((v ++ [x]).length : Int) - 1)).toNat z = v ++ [z] := by
  have : ((v ++ [x]).length : Int) - 1 = (v.length : Int) := by simp
  rw [this, wrap64 (by omega) (by omega)]
  simp
/-- all visits that have ended, and perhaps one more -/
def VAll (l : List api_Fix) (g : api_Fix → Int) (v : List api_Visit) : Prop :=
  VClosed l g (-1) v ∨ ∃ c x, v = c ++ [x] ∧ VClosed l g (-1) c ∧ VFrom l g (lastV (-1) c) x ∧ x.To = -1
theorem visits_loop {f : List api_Spot} {l : List api_Fix} (hl : TrackR l) {g : api_Fix → Int} (hg : ∀ y ∈ l, place_surely f y = some (g y)) :
    Ok (loopO (place_Visits_x1 (api_Fence.mk [102] f) l) ([], 0)) (fun v => v.length ≤ 14 ∧ VAll l g v) := by
  have hlen := hl.1
  refine loop_ok (fun q : List api_Visit × Int => ∃ k : Nat, q.2 = (k : Int) ∧ k ≤ l.length ∧ q.1.length ≤ k ∧
      ((VClosed l g (-1) q.1 ∧ ∀ (hk : k < l.length), lastV (-1) q.1 < l[k].At) ∨ ∃ c x, q.1 = c ++ [x] ∧ VClosed l g (-1) c ∧ VFrom l g (lastV (-1) c) x ∧ x.To = -1 ∧ ∀ (hk : k < l.length), x.From < l[k].At)) (fun q => ((l.length : Int) - q.2).toNat) ?_
    ⟨0, rfl, by omega, by simp, .inl ⟨trivial, fun hk => by have := (hl.2.1 _ (List.getElem_mem hk)).2.2.1; simp only [lastV]; omega⟩⟩
  rintro ⟨v, q⟩ ⟨k, rfl, k1, k2, k3⟩
  simp only at k2 k3
  unfold place_Visits_x1 place_Visits_x2 place_Visits_x3
  by_cases hk : k < l.length
  · have hk' : (k : Int) < l.length := by omega
    have hy := List.getElem_mem hk
    have w1 : IntKind.wrap .i64 ((k : Int) + 1) = ((k + 1 : Nat) : Int) := by rw [wrap64 (by omega) (by omega)]; omega
    have hnext : ∀ (hk1 : k + 1 < l.length), l[k].At < l[k + 1].At := fun hk1 => hl.lt (by omega) hk1
    simp only [hk', decide_true, cond_true, at_nat hk, Option.bind_some, hg _ hy, w1]
    rcases k3 with ⟨k3, k4⟩ | ⟨c, x, rfl, k4, k5, k6, k7⟩
    · have hopen : (cond (decide (0 < (v.length : Int))) ((at? v (IntKind.wrap .i64 ((v.length : Int) - 1))).bind fun vy4 => some (decide (vy4.To < 0))) (some false)) = some false := by
        rcases snoc v with rfl | ⟨c, x, rfl⟩
        · rfl
        · have hx := vclosed_to l g _ _ k3 x (by simp)
          obtain ⟨y, hy, e⟩ := hx
          have hyb := (hl.2.1 y hy).2.2.1
          rw [at_last c x (by simp at k2; omega)]
          have : ¬ x.To < 0 := by omega
          have h0 : (0 : Int) < ((c ++ [x]).length : Int) := by simp
          simp only [h0, decide_true, cond_true, Option.bind_some, this, decide_false]
      rw [hopen]
      simp only [Option.bind_some, Bool.not_false, cond_true, cond_false]
      by_cases h2 : g l[k] = 2
      · simp only [h2, decide_true, cond_true]
        rw [gd_true (ble_lim (by simp; omega))]
        exact .some ⟨⟨k + 1, rfl, by omega, by simp; omega, .inr ⟨v, api_Visit.mk l[k].At (-1), rfl, k3, ⟨k4 hk, _, hy, rfl, h2⟩, rfl, hnext⟩⟩, by omega⟩
      · have fin : ∀ hk1 : k + 1 < l.length, lastV (-1) v < l[k + 1].At := fun hk1 => by have := hnext hk1; have := k4 hk; omega
        simp only [h2, decide_false, cond_false]
        rw [cond_some]
        simp only [Bool.cond_self, Option.bind_some]
        exact .some ⟨⟨k + 1, rfl, by omega, by simp only; omega, .inl ⟨k3, fin⟩⟩, by omega⟩
    · have hc : c.length ≤ 1000 := by simp at k2; omega
      have h0 : (0 : Int) < ((c ++ [x]).length : Int) := by simp
      have hneg : x.To < 0 := by omega
      rw [at_last c x hc]
      simp only [h0, decide_true, cond_true, Option.bind_some, hneg, Bool.not_true, cond_false, set_last c x _ hc]
      have fin : ∀ hk1 : k + 1 < l.length, x.From < l[k + 1].At := fun hk1 => by have := hnext hk1; have := k7 hk; omega
      by_cases h2 : g l[k] = 2
      · simp only [h2, decide_true, cond_true]
        exact .some ⟨⟨k + 1, rfl, by omega, by simp only; omega, .inr ⟨c, x, rfl, k4, k5, k6, fin⟩⟩, by omega⟩
      · simp only [h2, decide_false, cond_false]
        by_cases h00 : g l[k] = 0
        · simp only [h00, decide_true, cond_true, Option.bind_some]
          refine .some ⟨⟨k + 1, rfl, by omega, by simp at k2 ⊢; omega, .inl ⟨vclosed_append l g c _ k4 ⟨k5, k7 hk, _, hy, rfl, h00⟩, fun hk1 => ?_⟩⟩, by omega⟩
          rw [lastV_append]
          exact hnext hk1
        · simp only [h00, decide_false, cond_false]
          exact .some ⟨⟨k + 1, rfl, by omega, by simp only; omega, .inr ⟨c, x, rfl, k4, k5, k6, fin⟩⟩, by omega⟩
  · have hk' : ¬ (k : Int) < l.length := by omega
    simp only [hk', decide_false, cond_false]
    refine .some ⟨by show v.length ≤ 14; omega, ?_⟩
    rcases k3 with ⟨k3, -⟩ | ⟨c, x, e, k4, k5, k6, -⟩
    · exact .inl k3
    · exact .inr ⟨c, x, e, k4, k5, k6⟩

/-! ### Finding the fixes again -/
theorem idx1 {l : List api_Fix} (hl : l.length ≤ 14) (x : api_Visit) (h : ∃ y ∈ l, x.From = y.At) : Ok (slices_IndexFunc_api_Fix_api_Fix_f1_fleetkeep2_VisitsAreApart_1 l x) (fun r => ∃ i : Nat, r = (i : Int) ∧ ∃ hi : i < l.length, l[i].At = x.From) := by
  unfold slices_IndexFunc_api_Fix_api_Fix_f1_fleetkeep2_VisitsAreApart_1
  have key : Ok (loopO (slices_IndexFunc_api_Fix_api_Fix_f1_fleetkeep2_VisitsAreApart_1_x1 l x) 0) (fun r => match r with | .inl _ => False | .inr r => ∃ i : Nat, r = (i : Int) ∧ ∃ hi : i < l.length, l[i].At = x.From) := by
    refine loop_ok (fun q : Int => ∃ k : Nat, q = (k : Int) ∧ k ≤ l.length ∧ ∀ j (hj : j < l.length), j < k → l[j].At ≠ x.From) (fun q => ((l.length : Int) - q).toNat) ?_ ⟨0, rfl, by omega, by intro j hj h; omega⟩
    rintro q ⟨k, rfl, k1, k2⟩
    unfold slices_IndexFunc_api_Fix_api_Fix_f1_fleetkeep2_VisitsAreApart_1_x1 fleetkeep2_VisitsAreApart_1
    by_cases hk : k < l.length
    · have hk' : (k : Int) < l.length := by omega
      have w1 : IntKind.wrap .i64 ((k : Int) + 1) = ((k + 1 : Nat) : Int) := by rw [wrap64 (by omega) (by omega)]; omega
      simp only [hk', decide_true, cond_true, at_nat hk, Option.bind_some, w1]
      refine .cond (fun hc => ?_) (fun hc => ?_)
      · exact .some ⟨k, rfl, hk, of_decide_eq_true hc⟩
      · have hc := of_decide_eq_false hc
        refine .some ⟨⟨k + 1, rfl, by omega, fun j hj hjk => ?_⟩, by omega⟩
        by_cases hjk' : j = k
        · subst hjk'; exact hc
        · exact k2 j hj (by omega)
    · have hk' : ¬ (k : Int) < l.length := by omega
      simp only [hk', decide_false, cond_false]
      obtain ⟨y, hy, e⟩ := h
      obtain ⟨j, hj, rfl⟩ := List.mem_iff_getElem.1 hy
      exact .some (k2 j hj (by omega) e.symm)
  refine key.bind fun r hr => ?_
  cases r with
  | inl _ => exact hr.elim
  | inr r => exact .some hr
theorem idx2 {l : List api_Fix} (hl : l.length ≤ 14) (x : api_Visit) : Ok (slices_IndexFunc_api_Fix_api_Fix_f1_fleetkeep2_VisitsAreApart_2 l x) (fun r => (r = -1 ∧ ∀ y ∈ l, x.To ≠ y.At) ∨ ∃ i : Nat, r = (i : Int) ∧ ∃ hi : i < l.length, l[i].At = x.To) := by
  unfold slices_IndexFunc_api_Fix_api_Fix_f1_fleetkeep2_VisitsAreApart_2
  have key : Ok (loopO (slices_IndexFunc_api_Fix_api_Fix_f1_fleetkeep2_VisitsAreApart_2_x1 l x) 0) (fun r => match r with | .inl _ => ∀ y ∈ l, x.To ≠ y.At | .inr r => ∃ i : Nat, r = (i : Int) ∧ ∃ hi : i < l.length, l[i].At = x.To) := by
    refine loop_ok (fun q : Int => ∃ k : Nat, q = (k : Int) ∧ k ≤ l.length ∧ ∀ j (hj : j < l.length), j < k → l[j].At ≠ x.To) (fun q => ((l.length : Int) - q).toNat) ?_ ⟨0, rfl, by omega, by intro j hj h; omega⟩
    rintro q ⟨k, rfl, k1, k2⟩
    unfold slices_IndexFunc_api_Fix_api_Fix_f1_fleetkeep2_VisitsAreApart_2_x1 fleetkeep2_VisitsAreApart_2
    by_cases hk : k < l.length
    · have hk' : (k : Int) < l.length := by omega
      have w1 : IntKind.wrap .i64 ((k : Int) + 1) = ((k + 1 : Nat) : Int) := by rw [wrap64 (by omega) (by omega)]; omega
      simp only [hk', decide_true, cond_true, at_nat hk, Option.bind_some, w1]
      refine .cond (fun hc => ?_) (fun hc => ?_)
      · exact .some ⟨k, rfl, hk, of_decide_eq_true hc⟩
      · have hc := of_decide_eq_false hc
        refine .some ⟨⟨k + 1, rfl, by omega, fun j hj hjk => ?_⟩, by omega⟩
        by_cases hjk' : j = k
        · subst hjk'; exact hc
        · exact k2 j hj (by omega)
    · have hk' : ¬ (k : Int) < l.length := by omega
      simp only [hk', decide_false, cond_false]
      refine .some fun y hy e => ?_
      obtain ⟨j, hj, rfl⟩ := List.mem_iff_getElem.1 hy
      exact k2 j hj (by omega) e.symm
  refine key.bind fun r hr => ?_
  cases r with
  | inl _ => exact .some (.inl ⟨rfl, hr⟩)
  | inr r => exact .some (.inr hr)
theorem at_inj {l : List api_Fix} (hl : TrackR l) {i : Nat} (hi : i < l.length) {y : api_Fix} (hy : y ∈ l) (e : l[i].At = y.At) : l[i] = y := by
  obtain ⟨j, hj, rfl⟩ := List.mem_iff_getElem.1 hy
  by_cases h : i = j
  · subst h; rfl
  · by_cases h1 : i < j
    · have := hl.lt h1 hj; omega
    · have := hl.lt (show j < i by omega) hi; omega
theorem Surely_eq {f : List api_Spot} (hz : place_CheckFence (api_Fence.mk [102] f) = some 0) {y : api_Fix} (hy : FixR y) {w : Int} (h : place_surely f y = some w) : place_Surely (api_Fence.mk [102] f) y = some (w, 0) := by
  unfold place_Surely
  have h1 : TrackR [y] := ⟨by simp, by simpa using hy, by simp⟩
  have e0 : base_First [0, 0] = some 0 := by kernel_rfl
  simp only [hz, fixes_ok h1, e0, Option.bind_some, decide_true, Bool.not_true, cond_false, h]

theorem VisitsAreApart_true (L : List Int) (hL : L.length ≤ 9223372036854775807) (hI : ∀ n ∈ L, -9223372036854775808 ≤ n ∧ n ≤ 9223372036854775807) : fleetkeep2_VisitsAreApart L = some true := by
  apply Ok.eq
  unfold fleetkeep2_VisitsAreApart
  have h0 : StrOk 0 (fleetmake_Stream.mk L 0) := ⟨Int.le_refl _, by simp, hL, hI⟩
  refine (RightFence_ok h0 (by omega)).bind fun ⟨s1, f⟩ ⟨f1, f2, f3⟩ => ?_
  refine (RightTrack_ok f1 (by omega)).bind fun ⟨s2, l⟩ ⟨a1, a2⟩ => ?_
  have a2 : TrackR l := a2
  have hlen := a2.1
  simp only at f2
  have zf := check_right f2
  have f2 := right_of_zero f2
  have e0 : base_First [0, 0] = some 0 := by kernel_rfl
  let g : api_Fix → Int := fun y => (place_surely f y).getD 0
  have hg : ∀ y ∈ l, place_surely f y = some (g y) := by
    intro y hy
    obtain ⟨w, hw, -⟩ := surely_tot f2 (a2.2.1 y hy)
    show _ = some ((place_surely f y).getD 0)
    rw [hw]; rfl
  obtain ⟨v, v0, v1, v2⟩ := visits_loop a2 hg
  have hV : place_Visits (api_Fence.mk [102] f) l = some (v, 0) := by
    unfold place_Visits
    simp only [zf, track_ok a2, e0, Option.bind_some, decide_true, Bool.not_true, cond_false, v0]
  simp only [hV, Option.bind_some, decide_true, Bool.not_true, cond_false]
  have key : loopO (fleetkeep2_VisitsAreApart_x1 f l v) ((-1), 0) = some (.inl ()) := by
    obtain ⟨c, o, hv, hc, ho⟩ : ∃ c o, v = c ++ o ∧ VClosed l g (-1) c ∧ (o = [] ∨ ∃ x, o = [x] ∧ VFrom l g (lastV (-1) c) x ∧ x.To = -1) := by
      rcases v2 with h | ⟨c, x, e, h1, h2, h3⟩
      · exact ⟨v, [], by simp, h, .inl rfl⟩
      · exact ⟨c, [x], e, h1, .inr ⟨x, rfl, h2, h3⟩⟩
    apply Ok.eq
    refine loop_ok (fun q : Int × Int => ∃ k : Nat, q.2 = (k : Int) ∧ ((k ≤ c.length ∧ VClosed l g q.1 (c.drop k) ∧ lastV q.1 (c.drop k) = lastV (-1) c) ∨ k = v.length)) (fun q => ((v.length : Int) - q.2).toNat) ?_ ⟨0, rfl, .inl ⟨by omega, hc, rfl⟩⟩
    rintro ⟨last, q⟩ ⟨k, rfl, hk⟩
    simp only at hk
    unfold fleetkeep2_VisitsAreApart_x1
    by_cases hkv : k < v.length
    · have hkv' : (k : Int) < v.length := by omega
      have w1 : IntKind.wrap .i64 ((k : Int) + 1) = ((k + 1 : Nat) : Int) := by rw [wrap64 (by omega) (by omega)]; omega
      have w2 : IntKind.wrap .i64 ((v.length : Int) - 1) = (v.length : Int) - 1 := wrap64 (by omega) (by omega)
      -- what the visit is
      have hx : VFrom l g last v[k] ∧ ((v[k].From < v[k].To ∧ ∃ y ∈ l, v[k].To = y.At ∧ g y = 0) ∨ (v[k].To = -1 ∧ k + 1 = v.length)) ∧
          ((k + 1 ≤ c.length ∧ VClosed l g v[k].To (c.drop (k + 1)) ∧ lastV v[k].To (c.drop (k + 1)) = lastV (-1) c) ∨ k + 1 = v.length) := by
        rcases hk with ⟨k1, k2, k3⟩ | hk
        · by_cases hkc : k < c.length
          · have e : v[k] = c[k] := by simp only [hv]; rw [List.getElem_append_left hkc]
            rw [drop_get hkc] at k2 k3
            obtain ⟨⟨b1, b2, b3⟩, b4⟩ := k2
            rw [e]
            exact ⟨b1, .inl ⟨b2, b3⟩, .inl ⟨by omega, b4, k3⟩⟩
          · have hkc : k = c.length := by omega
            rcases ho with rfl | ⟨x, rfl, o1, o2⟩
            · rw [hv] at hkv; simp at hkv; omega
            · have e : v[k] = x := by simp only [hv]; rw [List.getElem_append_right (by omega)]; simp
              have hlv : k + 1 = v.length := by rw [hv]; simp; omega
              rw [hkc, List.drop_length] at k3
              rw [e]
              simp only [lastV] at k3
              exact ⟨by rw [k3]; exact o1, .inr ⟨o2, hlv⟩, .inr hlv⟩
        · omega
      obtain ⟨⟨x1, y, hy, x2, x3⟩, x4, x5⟩ := hx
      simp only [hkv', decide_true, cond_true, at_nat hkv, Option.bind_some]
      generalize v[k] = x at x1 x2 x4 x5
      refine (idx1 hlen x ⟨y, hy, x2⟩).bind fun r hr => ?_
      obtain ⟨i, rfl, hi, e⟩ := hr
      have hyi : l[i] = y := at_inj a2 hi hy (e.trans x2)
      have n1 : ¬ x.From ≤ last := by omega
      have n2 : ¬ (i : Int) < 0 := by omega
      have hx2 : fleetkeep2_VisitsAreApart_x2 v last k x i = some false := by
        unfold fleetkeep2_VisitsAreApart_x2
        simp only [n1, n2, decide_false, cond_false, w2]
        rcases x4 with ⟨t1, z, hz, t2, t3⟩ | ⟨t1, t2⟩
        · have hzb := (a2.2.1 z hz).2.2.1
          have m1 : ¬ x.To = -1 := by omega
          have m2 : ¬ x.To ≤ x.From := by omega
          simp only [m1, m2, decide_false, cond_false, Bool.not_false, cond_true]
        · have m1 : ¬ (k : Int) < (v.length : Int) - 1 := by omega
          simp only [t1, m1, decide_true, decide_false, cond_true, cond_false, Bool.not_true]
      have hsur : place_Surely (api_Fence.mk [102] f) l[i] = some (2, 0) := by
        rw [hyi, Surely_eq zf (a2.2.1 y hy) (hg y hy), x3]
      have hx4 : fleetkeep2_VisitsAreApart_x4 f l x = some (.inl ()) := by
        unfold fleetkeep2_VisitsAreApart_x4
        obtain ⟨r, hr, hr2⟩ := idx2 hlen x
        rw [hr]
        simp only [Option.bind_some]
        rcases x4 with ⟨t1, z, hz, t2, t3⟩ | ⟨t1, t2⟩
        · have hzb := (a2.2.1 z hz).2.2.1
          have m1 : ¬ x.To = -1 := by omega
          rcases hr2 with ⟨-, r2⟩ | ⟨j, rfl, hj, e2⟩
          · exact absurd t2 (r2 z hz)
          · have hzj : l[j] = z := at_inj a2 hj hz (e2.trans t2)
            have m2 : ¬ (j : Int) < 0 := by omega
            have hs0 : place_Surely (api_Fence.mk [102] f) l[j] = some (0, 0) := by
              rw [hzj, Surely_eq zf (a2.2.1 z hz) (hg z hz), t3]
            simp only [m1, m2, decide_false, Bool.not_false, cond_true, cond_false, at_nat hj, Option.bind_some, hs0]
            rfl
        · simp only [t1, decide_true, Bool.not_true, cond_false]
      simp only [hx2, Option.bind_some, cond_false, at_nat hi, hsur, hx4, w1]
      have hx3 : fleetkeep2_VisitsAreApart_x3 2 0 = some false := rfl
      simp only [hx3, Option.bind_some, cond_false]
      refine .some ⟨⟨k + 1, rfl, ?_⟩, by omega⟩
      rcases x5 with ⟨b1, b2, b3⟩ | b
      · exact .inl ⟨b1, b2, b3⟩
      · exact .inr b
    · have hkv' : ¬ (k : Int) < v.length := by omega
      simp only [hkv', decide_false, cond_false]
      exact .some rfl
  rw [key]
  simp only [Option.bind_some, ready_eq]
  exact .some rfl
end Go.Eng

