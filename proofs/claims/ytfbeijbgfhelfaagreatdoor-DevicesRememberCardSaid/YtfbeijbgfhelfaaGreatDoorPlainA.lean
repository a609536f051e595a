/-
What the plain functions of the law DevicesRemember answer, part 1.
-/
import Derived.Test.YtfbeijbgfhelfaaGreatDoorGenF
import Derived.KernelRfl
import Derived.Test.YtfbeijbgfhelfaaGreatDoorEngV
/-
Plain functions: what they answer, in total. Loops by an invariant and a measure.
-/
namespace Go.Eng
open Go
set_option linter.unusedVariables false
set_option linter.unusedSimpArgs false

def Ok {α : Type} (x : Option α) (P : α → Prop) : Prop := ∃ r, x = some r ∧ P r
section
variable {α β σ ρ : Type} {P Q : α → Prop} {R : β → Prop}
theorem Ok.some {r : α} (h : P r) : Ok (some r) P := ⟨r, rfl, h⟩
theorem Ok.mono {x : Option α} (h : Ok x P) (hq : ∀ r, P r → Q r) : Ok x Q := let ⟨r, h1, h2⟩ := h; ⟨r, h1, hq r h2⟩
theorem Ok.bind {x : Option α} {f : α → Option β} (h : Ok x P) (hf : ∀ r, P r → Ok (f r) R) : Ok (x.bind f) R := by
  obtain ⟨r, rfl, hr⟩ := h
  exact hf r hr
theorem Ok.cond {b : Bool} {x y : Option α} (ht : b = true → Ok x P) (hf : b = false → Ok y P) : Ok (cond b x y) P := by
  cases b
  · exact hf rfl
  · exact ht rfl
theorem Ok.gd {b : Bool} {x : Option α} (hb : b = true) (h : Ok x P) : Ok (gd b x) P := by
  subst hb; exact h
theorem Ok.eq {x : Option α} {r : α} (h : Ok x fun y => y = r) : x = Option.some r := by
  obtain ⟨y, h1, h2⟩ := h
  rw [h1, h2]
theorem Ok.of_eq {x : Option α} {r : α} (h : x = Option.some r) (hp : P r) : Ok x P := ⟨r, h, hp⟩

theorem loop_ok {f : σ → Option (σ ⊕ ρ)} {Q : ρ → Prop} (I : σ → Prop) (μ : σ → Nat)
    (step : ∀ s, I s → Ok (f s) fun x => match x with | .inl s' => I s' ∧ μ s' < μ s | .inr r => Q r) {s : σ} (h : I s) : Ok (loopO f s) Q := by
  generalize hn : μ s = n
  induction n using Nat.strongRecOn generalizing s with
  | _ n ih =>
    obtain ⟨x, h1, h2⟩ := step s h
    cases x with
    | inl s' =>
      obtain ⟨h3, h4⟩ := h2
      obtain ⟨r, h5, h6⟩ := ih (μ s') (by omega) h3 rfl
      refine ⟨r, ?_, h6⟩
      rw [loopO_eq, h1]
      exact h5
    | inr r =>
      refine ⟨r, ?_, h2⟩
      rw [loopO_eq, h1]
      rfl

theorem at_lt {l : List α} {n : Int} (h : 0 ≤ n) (h2 : n < l.length) : at? l n = Option.some (l[n.toNat]'(by omega)) := by
  unfold at?
  rw [if_pos h, List.getElem?_eq_getElem]
theorem at_nat {l : List α} {n : Nat} (h : n < l.length) : at? l (n : Int) = Option.some l[n] := by
  rw [at_lt (by omega) (by omega)]
  simp
theorem at_ok {l : List α} {n : Int} (h : 0 ≤ n) (h2 : n < l.length) : Ok (at? l n) (fun y => l[n.toNat]? = Option.some y) := by
  refine ⟨_, at_lt h h2, ?_⟩
  rw [List.getElem?_eq_getElem]
theorem at_mem {l : List α} {n : Int} (h : 0 ≤ n) (h2 : n < l.length) : Ok (at? l n) (fun y => y ∈ l) := by
  refine (at_ok h h2).mono fun y hy => List.mem_of_getElem? hy
end

/-! ### Integers of 64 bits -/
def I64 (n : Int) : Prop := -9223372036854775808 ≤ n ∧ n ≤ 9223372036854775807
theorem wrap64 {n : Int} (h : -9223372036854775808 ≤ n) (h2 : n ≤ 9223372036854775807) : IntKind.wrap .i64 n = n := by
  unfold IntKind.wrap
  simp [IntKind.min, IntKind.max, IntKind.bits, IntKind.signed]
  omega
theorem tmod_nonneg {a b : Int} (h : 0 ≤ a) : 0 ≤ a.tmod b := Int.tmod_nonneg b h
theorem tmod_lt' {a b : Int} (h : 0 < b) : a.tmod b < b := Int.tmod_lt_of_pos a h
theorem lim_eq : LIM = 137438953472 := by decide
theorem ble_lim {n : Nat} (h : n ≤ 137438953472) : Nat.ble n LIM = true := by rw [Nat.ble_eq, lim_eq]; exact h
end Go.Eng

/-
Loops over the elements of a list; keys.
-/
namespace Go.Eng
open Go
set_option linter.unusedVariables false
set_option linter.unusedSimpArgs false

/-- The first answer of the elements from number k on. -/
def scan {α ρ : Type} (g : Nat → α → Option ρ) : Nat → List α → Option ρ
  | _, [] => none
  | k, x :: xs => match g k x with
    | some r => some r
    | none => scan g (k + 1) xs

theorem drop_get {α : Type} {l : List α} {i : Nat} (h : i < l.length) : l.drop i = l[i] :: l.drop (i + 1) := List.drop_eq_getElem_cons h

/-- A loop over a list that ends at the first element with an answer. -/
theorem range_loop {α ρ : Type} {l : List α} {f : Int → Option (Int ⊕ ρ)} (g : Nat → α → Option ρ) (done : ρ) (hl : (l.length : Int) ≤ 9223372036854775807)
    (hf : ∀ (i : Nat) (h : i < l.length), f i = some (match g i l[i] with | none => .inl (IntKind.wrap .i64 (i + 1)) | some r => .inr r)) (hd : f l.length = some (.inr done)) :
    loopO f 0 = some ((scan g 0 l).getD done) := by
  have key : ∀ (n i : Nat), l.length - i = n → i ≤ l.length → loopO f i = some ((scan g i (l.drop i)).getD done) := by
    intro n
    induction n with
    | zero =>
      intro i h1 h2
      have : i = l.length := by omega
      subst this
      rw [loopO_eq, hd, List.drop_length]
      rfl
    | succ n ih =>
      intro i h1 h2
      have hi : i < l.length := by omega
      rw [loopO_eq, hf i hi, drop_get hi]
      simp only [scan]
      cases hg : g i l[i] with
      | some r => rfl
      | none =>
        simp only [Option.bind_some]
        rw [wrap64 (by omega) (by omega)]
        exact ih (i + 1) (by omega) (by omega)
  exact key l.length 0 (by omega) (by omega)

theorem scan_none {α ρ : Type} {g : Nat → α → Option ρ} : ∀ {l : List α} {k : Nat}, scan g k l = none ↔ ∀ (i : Nat) (x : α), l[i]? = some x → g (k + i) x = none
  | [], k => by simp [scan]
  | y :: l, k => by
    simp only [scan]
    cases hg : g k y with
    | some r =>
      simp only [reduceCtorEq, false_iff]
      intro h
      have := h 0 y rfl
      rw [Nat.add_zero, hg] at this
      cases this
    | none =>
      simp only
      rw [scan_none]
      constructor
      · intro h i x hi
        cases i with
        | zero => simp at hi; subst hi; exact hg
        | succ i => rw [show k + (i + 1) = k + 1 + i by omega]; exact h i x (by simpa using hi)
      · intro h i x hi
        rw [show k + 1 + i = k + (i + 1) by omega]
        exact h (i + 1) x (by simpa using hi)
/-! ### Keys -/
end Go.Eng

/-
Small checks; the order of measurements.
-/
namespace Go.Eng
open Go
set_option linter.unusedVariables false
set_option linter.unusedSimpArgs false

theorem Out_eq (n low high : Int) : base_Out n low high = some (decide (n < low) || decide (high < n)) := by
  unfold base_Out base_Out_x1
  by_cases h : n < low <;> simp [h]
theorem Moment_eq (n : Int) : base_Moment n = some (decide (0 ≤ n) && decide (n ≤ 345686399999)) := by
  unfold base_Moment
  rw [Out_eq]
  simp only [Option.bind_some]
  congr 1
  rw [Bool.eq_iff_iff]
  simp
/-! ### Orders -/
end Go.Eng

/-
Checks of measurements and series, both ways.
-/
namespace Go.Eng
open Go
set_option linter.unusedVariables false
set_option linter.unusedSimpArgs false

/-! ### Check -/
end Go.Eng

/-
Sorting of few elements, and what is left of equal ones, for all kinds of elements.
-/
namespace Go.Eng
open Go
set_option linter.unusedVariables false
set_option linter.unusedSimpArgs false

theorem loop_in {σ ρ : Type} {f : σ → Option (σ ⊕ ρ)} {s s' : σ} (h : f s = some (.inl s')) : loopO f s = loopO f s' := by rw [loopO_eq, h]; rfl
theorem loop_out {σ ρ : Type} {f : σ → Option (σ ⊕ ρ)} {s : σ} {r : ρ} (h : f s = some (.inr r)) : loopO f s = some r := by rw [loopO_eq, h]; rfl

section
variable {α : Type}
/-! ### Insertion, as the code has it -/
def All (p : α → Prop) (l : List α) : Prop := ∀ x ∈ l, p x
theorem All.at {p : α → Prop} {l : List α} (h : All p l) {i : Nat} (hi : i < l.length) : p l[i] := h _ (List.getElem_mem hi)

/-! ### Equal ones, as the code has it -/
end
end Go.Eng

/-
Insertion sorts; what is left of equal ones rises.
-/
namespace Go.Eng
open Go
set_option linter.unusedVariables false
set_option linter.unusedSimpArgs false
section
variable {α : Type}
end
end Go.Eng

/-
Loops that only gather.
-/
namespace Go.Eng
open Go
set_option linter.unusedVariables false
set_option linter.unusedSimpArgs false

/-- A loop over all elements of a list that only gathers. -/
theorem fold_loop0 {τ σ ρ α : Type} {l : List α} {f : τ → Option (τ ⊕ ρ)} (e : σ → Int → τ) (h : σ → α → σ) (fin : σ → ρ) (I : Nat → σ → Prop) {s0 : σ} (hl : (l.length : Int) ≤ 9223372036854775807)
    (hf : ∀ (i : Nat) (hi : i < l.length) (s : σ), I i s → f (e s i) = some (.inl (e (h s l[i]) (IntKind.wrap .i64 (i + 1)))) ∧ I (i + 1) (h s l[i])) (hd : ∀ s, I l.length s → f (e s l.length) = some (.inr (fin s))) (h0 : I 0 s0) :
    loopO f (e s0 0) = some (fin (l.foldl h s0)) ∧ I l.length (l.foldl h s0) := by
  have key : ∀ (n i : Nat) (s : σ), l.length - i = n → i ≤ l.length → I i s → loopO f (e s i) = some (fin ((l.drop i).foldl h s)) ∧ I l.length ((l.drop i).foldl h s) := by
    intro n
    induction n with
    | zero =>
      intro i s h1 h2 h3
      have : i = l.length := by omega
      subst this
      rw [List.drop_length]
      refine ⟨?_, h3⟩
      rw [loopO_eq, hd s h3]
      rfl
    | succ n ih =>
      intro i s h1 h2 h3
      have hi : i < l.length := by omega
      obtain ⟨g1, g2⟩ := hf i hi s h3
      obtain ⟨f1, f2⟩ := ih (i + 1) (h s l[i]) (by omega) (by omega) g2
      rw [List.drop_eq_getElem_cons hi, List.foldl_cons]
      refine ⟨?_, f2⟩
      rw [loopO_eq, g1]
      simp only [Option.bind_some]
      rw [wrap64 (by omega) (by omega)]
      exact f1
  have := key l.length 0 s0 (by omega) (by omega) h0
  simpa using this
theorem scan_find0 {α : Type} {p : α → Bool} : ∀ {l : List α} {k : Nat}, ∃ r : Int, (match (scan (fun i x => cond (p x) (some (Sum.inr (i : Int) : Unit ⊕ Int)) none) k l).getD (.inl ()) with | .inl _ => (-1 : Int) | .inr v => v) = r ∧ decide (0 ≤ r) = l.any p
  | [], k => ⟨-1, rfl, rfl⟩
  | x :: l, k => by
    simp only [scan, List.any_cons]
    cases p x with
    | true => exact ⟨k, rfl, by simp⟩
    | false => simp only [cond_false, Bool.false_or]; exact scan_find0 (l := l) (k := k + 1)
/-- A search for the first element that meets a test: is there one? -/
theorem find_loop {α : Type} {l : List α} {f : Int → Option (Int ⊕ (Unit ⊕ Int))} (p : α → Bool) (hl : (l.length : Int) ≤ 9223372036854775807)
    (hf : ∀ (i : Nat) (h : i < l.length), f i = some (cond (p l[i]) (.inr (.inr (i : Int))) (.inl (IntKind.wrap .i64 ((i : Int) + 1))))) (hd : f l.length = some (.inr (.inl ()))) :
    ∃ x, loopO f 0 = some x ∧ decide (0 ≤ (match x with | .inl _ => (-1 : Int) | .inr v => v)) = l.any p := by
  refine ⟨_, range_loop (l := l) (fun i x => cond (p x) (some (.inr (i : Int))) none) (.inl ()) hl (fun i h => ?_) hd, ?_⟩
  · rw [hf i h]
    cases p l[i] <;> rfl
  · obtain ⟨r, h1, h2⟩ := scan_find0 (p := p) (l := l) (k := 0)
    rw [h1]; exact h2
end Go.Eng

/-
What the laws ask of each package once.
-/
namespace Go.Eng
open Go
end Go.Eng

/-
Twins: the order of names and of stamps; sorted cells as tables; merging.
-/
namespace Go.Eng
open Go
set_option linter.unusedVariables false
set_option linter.unusedSimpArgs false

/-! ### Orders -/
/-! ### Sorted cells -/
/-! ### Merging -/
end Go.Eng

/-
Twins: the code's merging and checks are those of tables.
-/
namespace Go.Eng
open Go
set_option linter.unusedVariables false
set_option linter.unusedSimpArgs false

theorem lim_ok {n : Nat} (h : n ≤ 100000) : Nat.ble n LIM = true := ble_lim (by omega)

/-! ### Checks -/
end Go.Eng

/-
Twins: merging in any order; what is visible.
-/
namespace Go.Eng
open Go
set_option linter.unusedVariables false
set_option linter.unusedSimpArgs false

/-! ### Merging in any order -/
end Go.Eng

/-
Twins: what is visible; checks of properties; searching.
-/
namespace Go.Eng
open Go
set_option linter.unusedVariables false
set_option linter.unusedSimpArgs false

/-! ### Names below names -/
/-! ### What hides what -/
/-! ### Searching -/
/-! ### Checks of properties -/
/-! ### Equal rows -/
end Go.Eng

/-
What is left of a sorted row, each key once.
-/
namespace Go.Eng
open Go
set_option linter.unusedVariables false
set_option linter.unusedSimpArgs false
section
variable {α : Type}
end
end Go.Eng

/-
The streams.
-/
namespace Go.Eng
open Go
set_option linter.unusedVariables false
set_option linter.unusedSimpArgs false

theorem wrap_I64 (n : Int) : I64 (IntKind.wrap .i64 n) := by
  unfold IntKind.wrap I64
  simp [IntKind.bits, IntKind.signed]
  split <;> omega

theorem Below_eq {x n : Int} (hx : I64 x) (hn : I64 n) : fleetmake_Below x n = some (if n < 1 then 0 else x % n) := by
  unfold I64 at hx hn
  unfold fleetmake_Below fleetmake_Below_x1
  by_cases h : n < 1
  · simp [h]
  · have h0 : (n == 0) = false := by simp; omega
    have e := Int.emod_eq_tmod (a := x) (b := n)
    have nn := Int.emod_nonneg x (show n ≠ 0 by omega)
    have lt := Int.emod_lt_of_pos x (show 0 < n by omega)
    simp only [h, decide_false, cond_false, h0, Bool.not_false, gd, cond_true, Option.bind_some, if_false]
    by_cases h3 : x.tmod n < 0
    · simp only [h3, decide_true, cond_true, Option.bind_some]
      split at e
      · omega
      · rw [wrap64 (by omega) (by omega)]
        congr 1
        omega
    · simp only [h3, decide_false, cond_false, Option.bind_some]
      congr 1
      split at e <;> omega
theorem Below_ok {x n : Int} (hx : I64 x) (hn : I64 n) : Ok (fleetmake_Below x n) (fun r => (1 ≤ n → 0 ≤ r ∧ r < n) ∧ (n < 1 → r = 0)) := by
  refine .of_eq (Below_eq hx hn) ⟨fun h => ?_, fun h => by simp [h]⟩
  rw [if_neg (by omega)]
  exact ⟨Int.emod_nonneg _ (by omega), Int.emod_lt_of_pos _ (by omega)⟩

/-- A stream whose numbers are of 64 bits, of which at most k were taken. -/
def StrOk (k : Nat) (s : fleetmake_Stream) : Prop := 0 ≤ s.at_ ∧ s.at_ ≤ k ∧ s.L.length ≤ 9223372036854775807 ∧ ∀ n ∈ s.L, I64 n
theorem StrOk.mono {k k' : Nat} {s : fleetmake_Stream} (h : StrOk k s) (hk : k ≤ k') : StrOk k' s := ⟨h.1, by have := h.2.1; omega, h.2.2⟩
/-- One number further. -/
abbrev nxt (s : fleetmake_Stream) : fleetmake_Stream := fleetmake_Stream.mk s.L (IntKind.wrap .i64 (s.at_ + 1))
theorem StrOk.nxt {k : Nat} {s : fleetmake_Stream} (h : StrOk k s) (hk : k < 1099511627776) : StrOk (k + 1) (nxt s) := by
  obtain ⟨h1, h2, h3, h4⟩ := h
  refine ⟨?_, ?_, h3, h4⟩
  · show 0 ≤ IntKind.wrap .i64 (s.at_ + 1)
    rw [wrap64 (by omega) (by omega)]; omega
  · show IntKind.wrap .i64 (s.at_ + 1) ≤ _
    rw [wrap64 (by omega) (by omega)]; omega

theorem Next_ok {k : Nat} {s : fleetmake_Stream} {n : Int} (h : StrOk k s) (hk : k < 1099511627776) (hn : I64 n) : Ok (fleetmake_Stream_Next s n) (fun r => (1 ≤ n → 0 ≤ r ∧ r < n) ∧ (n < 1 → r = 0)) := by
  obtain ⟨h1, h2, h3, h4⟩ := h
  unfold fleetmake_Stream_Next
  refine .cond (fun _ => ?_) (fun hl => ?_)
  · exact (Below_ok (wrap_I64 _) hn).bind fun r hr => .some hr
  · have hl' : s.L.length ≠ 0 := by simpa using hl
    have e1 : IntKind.wrap .i64 (s.at_ + 1) = s.at_ + 1 := wrap64 (by omega) (by omega)
    have e2 : IntKind.wrap .i64 (s.at_ + 1 - 1) = s.at_ := by rw [wrap64 (by omega) (by omega)]; omega
    refine .gd (by simpa using hl') ?_
    rw [e1, e2]
    refine (at_mem (tmod_nonneg h1) (tmod_lt' (by omega))).bind fun y hy => ?_
    refine (Below_ok (h4 y hy) (by unfold I64; omega)).bind fun r1 hr1 => ?_
    exact (Below_ok (wrap_I64 _) hn).bind fun r hr => .some hr

theorem Pick_ok {k : Nat} {s : fleetmake_Stream} {l : List Int} (h : StrOk k s) (hk : k < 1099511627776) (hl : 0 < l.length) (hl2 : l.length < 1000) : Ok (fleetmake_Stream_Pick_o1 s l) (fun r => r ∈ l) := by
  unfold fleetmake_Stream_Pick_o1
  refine (Next_ok h hk (by unfold I64; omega)).bind fun r hr => ?_
  have := hr.1 (by omega)
  exact (at_mem this.1 this.2).bind fun y hy => .some hy
theorem Some_ok {k : Nat} {s : fleetmake_Stream} {l : List (List UInt8)} (h : StrOk k s) (hk : k < 1099511627776) (hl : 0 < l.length) (hl2 : l.length < 1000) : Ok (fleetmake_Stream_Some_o1 s l) (fun r => r ∈ l) := by
  unfold fleetmake_Stream_Some_o1
  refine (Next_ok h hk (by unfold I64; omega)).bind fun r hr => ?_
  have := hr.1 (by omega)
  exact (at_mem this.1 this.2).bind fun y hy => .some hy
theorem Flip_ok {k : Nat} {s : fleetmake_Stream} {n : Int} (h : StrOk k s) (hk : k < 1099511627776) (hn : I64 n) : Ok (fleetmake_Stream_Flip s n) (fun _ => True) := by
  unfold fleetmake_Stream_Flip
  exact (Next_ok h hk hn).bind fun r hr => .some trivial
theorem Range_ok {k : Nat} {s : fleetmake_Stream} {low high : Int} (h : StrOk k s) (hk : k < 1099511627776) (hlow : -4611686018427387903 < low ∧ low < 4611686018427387904) (hh : -4611686018427387904 < high ∧ high < 4611686018427387903) :
    Ok (fleetmake_Stream_Range s low high) (fun r => StrOk (k + 1) r.1 ∧ low ≤ r.2 ∧ (low ≤ high → r.2 ≤ high) ∧ (high < low → r.2 = low)) := by
  unfold fleetmake_Stream_Range
  refine .cond (fun hc => ?_) (fun hc => ?_)
  · have hc' : high < low := by simpa using hc
    exact .some ⟨h.mono (by omega), Int.le_refl _, by intro h; omega, fun _ => rfl⟩
  · have hc' : ¬ high < low := by simpa using hc
    have e1 : IntKind.wrap .i64 (high - low) = high - low := wrap64 (by omega) (by omega)
    have e2 : IntKind.wrap .i64 (high - low + 1) = high - low + 1 := wrap64 (by omega) (by omega)
    rw [e1, e2]
    refine (Next_ok h hk (by unfold I64; omega)).bind fun r hr => ?_
    have := hr.1 (by omega)
    refine .some ⟨h.nxt hk, ?_, fun _ => ?_, fun h => by omega⟩
    · show low ≤ IntKind.wrap .i64 (low + r)
      rw [wrap64 (by omega) (by omega)]; omega
    · show IntKind.wrap .i64 (low + r) ≤ high
      rw [wrap64 (by omega) (by omega)]; omega
end Go.Eng

/-
The law CellsInAnyOrder: cells that streams make; cells that are merged in any order.
-/
namespace Go.Eng
open Go
set_option linter.unusedVariables false
set_option linter.unusedSimpArgs false

/-! ### Cells that streams make -/
theorem nxt_mk {k : Nat} {s : fleetmake_Stream} (h : StrOk k s) (hk : k < 1099511627776) : StrOk (k + 1) (fleetmake_Stream.mk s.L (IntKind.wrap .i64 (s.at_ + 1))) := h.nxt hk
/-! ### In any order -/
end Go.Eng

/-
The law CompactStays: what nobody needs any more is left out; what is visible stays, also after a merge with what comes later.
-/
namespace Go.Eng
open Go
set_option linter.unusedVariables false
set_option linter.unusedSimpArgs false

/-! ### Compact -/
/-! ### What is left -/
/-! ### Equal rows of properties -/
/-! ### Later cells -/
end Go.Eng

/-
What is left of a sorted row, each key once, with what is found again.
-/
namespace Go.Eng
open Go
set_option linter.unusedVariables false
set_option linter.unusedSimpArgs false
section
variable {α : Type}
end
end Go.Eng

/-
Twins: names of properties, sorted, each once.
-/
namespace Go.Eng
open Go
set_option linter.unusedVariables false
set_option linter.unusedSimpArgs false

section
variable {α : Type}
end

/-! ### Sorting of strings -/
/-! ### Names -/
theorem foldl_app {α β : Type} (f : α → β) : ∀ (l : List α) (s : List β), l.foldl (fun s c => s ++ [f c]) s = s ++ l.map f
  | [], s => by simp
  | x :: l, s => by rw [List.foldl_cons, foldl_app f l]; simp
end Go.Eng

/-
Twins: what is owed.
-/
namespace Go.Eng
open Go
set_option linter.unusedVariables false
set_option linter.unusedSimpArgs false

/-! ### Values of names -/
/-! ### What is visible -/
/-! ### What is gone -/
end Go.Eng

/-
Lists of properties that streams make: they are right.
-/
namespace Go.Eng
open Go
set_option linter.unusedVariables false
set_option linter.unusedSimpArgs false

/-! ### Sorting keeps what there is -/
section
variable {α : Type}
end
/-! ### Values and names -/
/-! ### The reference's check -/
/-! ### Right properties -/
end Go.Eng

/-
Checks of properties: the code's and the reference's say the same.
-/
namespace Go.Eng
open Go
set_option linter.unusedVariables false
set_option linter.unusedSimpArgs false

/-! ### Values -/
theorem in_not (n low high : Int) : fleetref2_in n low high = some (!(decide (n < low) || decide (high < n))) := by
  unfold fleetref2_in fleetref2_in_x1
  by_cases h1 : low ≤ n
  · have h2 : ¬ n < low := by omega
    by_cases h3 : n ≤ high
    · have h4 : ¬ high < n := by omega
      simp [h1, h2, h3, h4]
    · have h4 : high < n := by omega
      simp [h1, h2, h3, h4]
  · have h2 : n < low := by omega
    simp [h1, h2]
def KW (w : List UInt8) (b : Bool) : Prop := w.length ≤ 1000 → base_Unmarked w = some b ∧ fleetref2_Printed w = some b
/-! ### Names above one another -/
/-! ### The checks -/
end Go.Eng

/-
Properties that streams make, nearly always right ones: names, values, words.
-/
namespace Go.Eng
open Go
set_option linter.unusedVariables false
set_option linter.unusedSimpArgs false

noncomputable def okWord (w : List UInt8) : Bool := match base_Unmarked w, fleetref2_Printed w with
  | some a, some b => a == b
  | _, _ => false
end Go.Eng

/-
Twins: cells and properties that streams make, nearly always right ones; checks of cells.
-/
namespace Go.Eng
open Go
set_option linter.unusedVariables false
set_option linter.unusedSimpArgs false

/-! ### What streams make -/
def Bd (n : Int) : Prop := -2000000000000 ≤ n ∧ n ≤ 2000000000000
theorem OddP_ok {k : Nat} {s : fleetmake_Stream} {lo hi : Int} (h : StrOk k s) (hk : k + 10 < 1099511627776) (h1 : -1000000000 ≤ lo ∧ lo ≤ hi ∧ hi ≤ 1000000000) : Ok (fleetmake_Stream_Odd s lo hi) (fun r => StrOk (k + 2) r.1 ∧ Bd r.2) := by
  unfold fleetmake_Stream_Odd
  have a1 := nxt_mk h (by omega)
  refine (Flip_ok h (by omega) (by unfold I64; omega)).bind fun b _ => .cond (fun _ => ?_) (fun _ => ?_)
  · refine (Pick_ok a1 (by omega) (by simp) (by simp)).bind fun n hn => .some ⟨nxt_mk a1 (by omega), ?_⟩
    have w1 : IntKind.wrap .i64 (lo - 1) = lo - 1 := wrap64 (by omega) (by omega)
    have w2 : IntKind.wrap .i64 (hi + 1) = hi + 1 := wrap64 (by omega) (by omega)
    rw [w1, w2] at hn
    simp only [List.mem_cons, List.not_mem_nil, or_false] at hn
    unfold Bd
    simp only
    omega
  · refine (Range_ok a1 (by omega) (by omega) (by omega)).bind fun ⟨s1, n⟩ ⟨r1, r2, r3, _⟩ => ?_
    simp only at r1 r2 r3
    have r3 := r3 (by omega)
    exact .some ⟨r1, by unfold Bd; simp only; omega⟩
/-! ### Checks of cells -/
noncomputable def okBy (n : List UInt8) : Bool := match base_Key n, fleetref2_Key n with
  | some a, some b => a == b
  | _, _ => false
end Go.Eng

/-
The law CellsSeen: what is visible and what is left out are as specified for all cells.
-/
namespace Go.Eng
open Go
set_option linter.unusedVariables false
set_option linter.unusedSimpArgs false

end Go.Eng

/-
Maps whose keys are strings, as rows of entries in the order of their keys; sorting of what has an order.
-/
namespace Go.Eng
open Go
set_option linter.unusedVariables false
set_option linter.unusedSimpArgs false

section
variable {β : Type}
end

/-! ### Sorting of what has an order -/
section
variable {α : Type}
end
end Go.Eng

/-
The order of letters.
-/
namespace Go.Eng
open Go
set_option linter.unusedVariables false
set_option linter.unusedSimpArgs false
def ids6 : List (List UInt8) := [[108, 97], [108, 98], [108, 99], [108, 100], [108, 101], [108, 102]]
end Go.Eng

/-
Sorting of up to twelve: what two comparisons that agree make is the same.
-/
namespace Go.Eng
open Go
set_option linter.unusedVariables false
set_option linter.unusedSimpArgs false
section
variable {α : Type}
end
end Go.Eng

/-
Letters and posts that streams make, nearly always right ones; checks of them; their order.
-/
namespace Go.Eng
open Go
set_option linter.unusedVariables false
set_option linter.unusedSimpArgs false

/-! ### Checks of letters -/
def id8 : List (List UInt8) := ids6 ++ [[], [65]]
def sl5 : List (List UInt8) := [[], [115, 97], [115, 98], [65], [45]]
def bd6 : List (List UInt8) := [[100, 111], [], [97, 32, 34, 98, 34], [10], [127], [255]]
theorem id8_same : (id8.all okBy) = true := by kernel_rfl
theorem sl5_same : (sl5.all okBy) = true := by kernel_rfl
theorem bd6_same : (bd6.all okWord) = true := by kernel_rfl
theorem okBy_of {n : List UInt8} (h : okBy n = true) : ∃ b, base_Key n = some b ∧ fleetref2_Key n = some b := by
  unfold okBy at h
  split at h
  · rename_i a b h1 h2
    have : a = b := by simpa using h
    subst this
    exact ⟨a, h1, h2⟩
  · cases h
theorem kw_of {w : List UInt8} (h : w ∈ bd6) : ∃ b, KW w b := by
  have h := List.all_eq_true.1 bd6_same _ h
  unfold okWord at h
  split at h
  · rename_i a b h1 h2
    have : a = b := by simpa using h
    subst this
    exact ⟨a, fun _ => ⟨h1, h2⟩⟩
  · cases h
/-- a letter of which both checks know what to say -/
structure KL (l : api_Letter) : Prop where
  id : ∃ b, base_Key l.Id = some b ∧ fleetref2_Key l.Id = some b
  slot : ∃ b, base_Key l.Slot = some b ∧ fleetref2_Key l.Slot = some b
  body : ∃ b, KW l.Body b
  prio : Bd l.Prio
  at_ : Bd l.At
  till : Bd l.Until
theorem refMoment (n : Int) : fleetref2_Moment n = some (decide (0 ≤ n) && decide (n ≤ 345686399999)) := by
  unfold fleetref2_Moment
  rw [in_not]
  simp only [Option.bind_some]
  congr 1
  by_cases h1 : n < 0
  · have : ¬ 0 ≤ n := by omega
    simp [h1, this]
  · by_cases h2 : 345686399999 < n
    · have : ¬ n ≤ 345686399999 := by omega
      simp [h2, this]
    · have h3 : 0 ≤ n := by omega
      have h4 : n ≤ 345686399999 := by omega
      simp [h1, h2, h3, h4]
theorem letter_same {l : api_Letter} (h : KL l) : ∃ e, command_CheckLetter l = some e ∧ fleetref2_LetterFault l = some e := by
  obtain ⟨b, i1, i2⟩ := h.id
  obtain ⟨c, s1, s2⟩ := h.slot
  obtain ⟨w, hw⟩ := h.body
  obtain ⟨v, v1, v2⟩ : ∃ v, command_CheckLetter_x1 l = some v ∧ fleetref2_LetterFault_x1 l = some v := by
    unfold command_CheckLetter_x1 fleetref2_LetterFault_x1
    rw [i1, i2, s1, s2]
    cases b <;> cases decide (l.Slot = []) <;> exact ⟨_, rfl, rfl⟩
  obtain ⟨u, u1, u2⟩ : ∃ u, command_CheckLetter_x2 l = some u ∧ fleetref2_LetterFault_x2 l = some u := by
    unfold command_CheckLetter_x2 fleetref2_LetterFault_x2
    rw [Out_eq, in_not, Moment_eq, refMoment]
    simp only [Option.bind_some, Bool.not_not]
    cases (decide (l.Prio < 0) || decide (9 < l.Prio)) <;> cases (decide (0 ≤ l.At) && decide (l.At ≤ 345686399999)) <;> cases decide (l.Until ≤ l.At) <;> exact ⟨_, rfl, rfl⟩
  unfold command_CheckLetter fleetref2_LetterFault
  rw [v1, v2]
  simp only [Option.bind_some]
  cases v with
  | true => exact ⟨5, rfl, rfl⟩
  | false =>
    simp only [cond_false]
    by_cases hl : 1000 < (l.Body.length : Int)
    · simp only [hl, decide_true, cond_true]
      exact ⟨2, rfl, rfl⟩
    · simp only [hl, decide_false, cond_false]
      rw [(hw (by omega)).1, (hw (by omega)).2]
      simp only [Option.bind_some, u1, u2]
      cases w <;> cases u <;> exact ⟨_, rfl, rfl⟩

/-! ### Checks of posts -/
/-! ### Orders of letters -/
end Go.Eng

/-
The law LettersChecked.
-/
namespace Go.Eng
open Go
set_option linter.unusedVariables false
set_option linter.unusedSimpArgs false

/-! ### What streams make -/
theorem id8_ok {n : List UInt8} (h : n ∈ id8) : ∃ b, base_Key n = some b ∧ fleetref2_Key n = some b := okBy_of (List.all_eq_true.1 id8_same _ h)
theorem sl5_ok {n : List UInt8} (h : n ∈ sl5) : ∃ b, base_Key n = some b ∧ fleetref2_Key n = some b := okBy_of (List.all_eq_true.1 sl5_same _ h)
theorem RightLetterK_ok {k : Nat} {s : fleetmake_Stream} (h : StrOk k s) (hk : k + 10 < 1099511627776) {t : Int} (ht : -10 ≤ t ∧ t ≤ 345686400000) : Ok (fleetmake_Stream_RightLetter s t) (fun l => KL l ∧ l.Id ∈ ids6 ∧ l.At = t ∧ t ≤ l.Until ∧ l.Until ≤ t + 1000) := by
  unfold fleetmake_Stream_RightLetter
  have h1 := nxt_mk h (by omega)
  have h2 := nxt_mk h1 (by omega)
  have h3 := nxt_mk h2 (by omega)
  have h4 := nxt_mk h3 (by omega)
  refine (Some_ok h (by omega) (by simp) (by simp)).bind fun a ha => ?_
  refine (Some_ok h1 (by omega) (by simp) (by simp)).bind fun b hb => ?_
  refine (Some_ok h2 (by omega) (by simp) (by simp)).bind fun c hc => ?_
  refine (Pick_ok h3 (by omega) (by simp) (by simp)).bind fun d hd => ?_
  refine (Pick_ok h4 (by omega) (by simp) (by simp)).bind fun e he => .some ?_
  simp at hb hc hd he
  have hd' : 0 ≤ d ∧ d ≤ 9 := by omega
  have he' : 1 ≤ e ∧ e ≤ 1000 := by omega
  have w : IntKind.wrap .i64 (t + e) = t + e := wrap64 (by omega) (by omega)
  rw [w]
  refine ⟨⟨id8_ok (List.mem_append_left _ ha), sl5_ok ?_, kw_of ?_, ?_, ?_, ?_⟩, ha, rfl, by simp only; omega, by simp only; omega⟩
  · rcases hb with h | h | h <;> simp [h, sl5]
  · rcases hc with h | h | h <;> simp [h, bd6]
  · unfold Bd; simp only; omega
  · unfold Bd; simp only; omega
  · unfold Bd; simp only; omega
theorem rep1001b : strings_Repeat [98] 1001 = some (Lib.repeatL [98] 1001) := by
  unfold strings_Repeat
  exact rfl
theorem Letter_ok {k : Nat} {s : fleetmake_Stream} (h : StrOk k s) (hk : k + 20 < 1099511627776) {t : Int} (ht : -10 ≤ t ∧ t ≤ 345686400000) : Ok (fleetmake_Stream_Letter s t) (fun r => StrOk (k + 12) r.1 ∧ KL r.2) := by
  unfold fleetmake_Stream_Letter
  refine (RightLetterK_ok h (by omega) ht).bind fun l ⟨hl, _⟩ => ?_
  have a1 := nxt_mk h (by omega)
  have a2 := nxt_mk a1 (by omega)
  have a3 := nxt_mk a2 (by omega)
  have a4 := nxt_mk a3 (by omega)
  have a5 := nxt_mk a4 (by omega)
  have a6 := nxt_mk a5 (by omega)
  have a7 := nxt_mk a6 (by omega)
  have a8 := nxt_mk a7 (by omega)
  have hx : Ok (fleetmake_Stream_Letter_x1 s l) (fun r => StrOk (k + 12) r.1 ∧ KL r.2) := by
    unfold fleetmake_Stream_Letter_x1
    refine (Flip_ok a5 (by omega) (by unfold I64; omega)).bind fun b _ => .cond (fun _ => ?_) (fun _ => .some ⟨a6.mono (by omega), hl⟩)
    refine (Next_ok a6 (by omega) (by unfold I64; omega)).bind fun n _ => .cond (fun _ => ?_) (fun _ => .cond (fun _ => ?_) (fun _ => .cond (fun _ => ?_) (fun _ => .cond (fun _ => ?_) (fun _ => ?_))))
    · refine (Some_ok a7 (by omega) (by simp) (by simp)).bind fun w hw => .some ⟨a8.mono (by omega), ⟨id8_ok ?_, hl.slot, hl.body, hl.prio, hl.at_, hl.till⟩⟩
      simp at hw
      rcases hw with h | h <;> subst h <;> simp [id8, ids6]
    · refine (Some_ok a7 (by omega) (by simp) (by simp)).bind fun w hw => .some ⟨a8.mono (by omega), ⟨hl.id, sl5_ok ?_, hl.body, hl.prio, hl.at_, hl.till⟩⟩
      simp at hw
      rcases hw with h | h <;> subst h <;> simp [sl5]
    · rw [rep1001b]
      simp only [Option.bind_some]
      refine (Some_ok a7 (by omega) (by simp) (by simp)).bind fun w hw => .some ⟨a8.mono (by omega), ⟨hl.id, hl.slot, ?_, hl.prio, hl.at_, hl.till⟩⟩
      simp only [List.mem_cons, List.not_mem_nil, or_false] at hw
      rcases hw with h | h | h | h
      · subst h; exact kw_of (by simp [bd6])
      · subst h; exact kw_of (by simp [bd6])
      · subst h; exact kw_of (by simp [bd6])
      · refine ⟨true, fun hl => ?_⟩
        rw [h] at hl
        rw [Lib.repeatL_length] at hl
        simp at hl
    · refine (OddP_ok a7 (by omega) (by omega)).bind fun ⟨s1, m⟩ ⟨r1, r2⟩ => .some ⟨r1.mono (by omega), ⟨hl.id, hl.slot, hl.body, r2, hl.at_, hl.till⟩⟩
    · refine (OddP_ok a7 (by omega) (by omega)).bind fun ⟨s1, m⟩ ⟨r1, r2⟩ => ?_
      simp only at r1 r2
      exact (OddP_ok r1 (by omega) (by omega)).bind fun ⟨s2, u⟩ ⟨q1, q2⟩ => .some ⟨q1.mono (by omega), ⟨hl.id, hl.slot, hl.body, hl.prio, r2, q2⟩⟩
  exact hx.bind fun ⟨s1, l1⟩ hr => .some hr
theorem posted_eq : fleetlaw2_posted = some true := by kernel_rfl
end Go.Eng

/-
The first of the least numbers of a row, as a loop finds it.
-/
namespace Go.Eng
open Go
set_option linter.unusedVariables false
set_option linter.unusedSimpArgs false
def amN (u : List Int) (n : Nat) : Nat := (List.range n).foldl (fun a i => if u.getD i 0 < u.getD a 0 then i else a) 0
def am (u : List Int) : Nat := amN u u.length
theorem amN_succ (u : List Int) (n : Nat) : amN u (n + 1) = if u.getD n 0 < u.getD (amN u n) 0 then n else amN u n := by
  unfold amN
  rw [List.range_succ, List.foldl_append]
  rfl
theorem amN_lt (u : List Int) : ∀ n, 0 < n → amN u n < n
  | 0, h => by omega
  | n + 1, _ => by
    rw [amN_succ]
    split
    · omega
    · by_cases h : n = 0
      · subst h; unfold amN; simp
      · have := amN_lt u n (by omega)
        omega
theorem am_loop {f : Int × Int → Option ((Int × Int) ⊕ Int)} {u : List Int} (hl : (u.length : Int) ≤ 9223372036854775806)
    (hs : ∀ (i a : Nat) (hi : i < u.length) (ha : a < u.length), f ((a : Int), (i : Int)) = some (.inl (((if u[i] < u[a] then i else a : Nat) : Int), IntKind.wrap .i64 ((i : Int) + 1))))
    (he : ∀ a : Int, f (a, (u.length : Int)) = some (.inr a)) (h0 : 0 < u.length) : loopO f (0, 0) = some ((am u : Nat) : Int) ∧ am u < u.length := by
  refine ⟨?_, amN_lt u _ h0⟩
  refine Ok.eq (loop_ok (fun s : Int × Int => ∃ i : Nat, s = (((amN u i : Nat) : Int), (i : Int)) ∧ i ≤ u.length) (fun s => ((u.length : Int) - s.2).toNat) ?_ ⟨0, rfl, by omega⟩)
  rintro _ ⟨i, rfl, i1⟩
  by_cases hi : i < u.length
  · have ha : amN u i < u.length := by
      by_cases h : i = 0
      · subst h; exact h0
      · have := amN_lt u i (by omega)
        omega
    rw [hs i (amN u i) hi ha, wrap64 (by omega) (by omega)]
    refine .some ⟨⟨i + 1, ?_, by omega⟩, by simp only; omega⟩
    rw [amN_succ]
    simp only [List.getD_eq_getElem?_getD, List.getElem?_eq_getElem hi, List.getElem?_eq_getElem ha, Option.getD_some]
    rw [Prod.mk.injEq]
    exact ⟨rfl, by omega⟩
  · have : i = u.length := by omega
    subst this
    rw [he]
    exact .some rfl
end Go.Eng

/-
A device that remembers letters: what it does, as the code and the reference have it; the law DevicesRemember.
-/
namespace Go.Eng
open Go
set_option linter.unusedVariables false
set_option linter.unusedSimpArgs false

/-! ### The one that ends first goes, where there are too many -/
def drp {α : Type} (m t : Int) (u : List Int) (l : List α) : List α ⊕ Unit := if m < (l.length : Int) then (if t < u.getD (am u) 0 then .inr () else .inl (l.eraseIdx (am u))) else .inl l
theorem getD_map {α : Type} {u : α → Int} {l : List α} {i : Nat} (h : i < l.length) : (l.map u).getD i 0 = u l[i] := by
  rw [List.getD_eq_getElem?_getD, List.getElem?_map, List.getElem?_eq_getElem h]
  rfl
theorem erase_two {α : Type} (l : List α) (i : Nat) : l.take i ++ l.drop (i + 1) = l.eraseIdx i := (List.eraseIdx_eq_take_drop_succ l i).symm
theorem drp_map {α β : Type} (g : α → β) (m t : Int) (u : List Int) (l : List α) : drp m t u (l.map g) = match drp m t u l with | .inl x => .inl (x.map g) | .inr y => .inr y := by
  unfold drp
  rw [List.length_map]
  by_cases h1 : m < (l.length : Int)
  · by_cases h2 : t < u.getD (am u) 0
    · simp only [h1, h2, if_true]
    · simp only [h1, h2, if_true, if_false]
      rw [← erase_two, ← erase_two, List.map_append, List.map_take, List.map_drop]
  · simp only [h1, if_false]
theorem drp_len {α : Type} {m t : Int} {u : List Int} {l x : List α} (hu : am u < l.length) (h : (l.length : Int) ≤ m + 1) (hx : drp m t u l = .inl x) : (x.length : Int) ≤ m ∧ x.length ≤ l.length := by
  unfold drp at hx
  split at hx
  · split at hx
    · cases hx
    · injection hx with hx
      subst hx
      rw [List.length_eraseIdx, if_pos hu]
      omega
  · injection hx with hx
    subst hx
    omega
theorem ownDrop (q : command_Doer) (t : Int) (l : List command_done) (hl : l.length ≤ 100000) (h0 : 0 < l.length) (h : (l.length : Int) ≤ q.most_ + 1) : loopO (command_Doer_Do_x2 q t) l = some (drp q.most_ t (l.map command_done.until_) l) ∧ am (l.map command_done.until_) < l.length := by
  obtain ⟨a1, a2⟩ := am_loop (f := command_Doer_Do_x3 l) (u := l.map command_done.until_) (by simp; omega) (fun i a hi ha => by
    rw [List.length_map] at hi ha
    have hc : (i : Int) < l.length := by omega
    unfold command_Doer_Do_x3 command_Doer_Do_x4
    simp only [hc, decide_true, cond_true, at_nat hi, at_nat ha, Option.bind_some, List.getElem_map]
    by_cases hlt : l[i].until_ < l[a].until_ <;> simp [hlt]) (fun a => by unfold command_Doer_Do_x3; simp) (by simpa using h0)
  rw [List.length_map] at a2
  refine ⟨?_, a2⟩
  have gm := getD_map (u := command_done.until_) a2
  unfold drp
  by_cases hm : q.most_ < (l.length : Int)
  · rw [if_pos hm, gm]
    by_cases ht : t < l[am (l.map command_done.until_)].until_
    · rw [if_pos ht]
      refine loop_out ?_
      unfold command_Doer_Do_x2
      simp only [hm, decide_true, cond_true, a1, at_nat a2, Option.bind_some, ht]
    · rw [if_neg ht]
      have w1 : IntKind.wrap .i64 (((am (l.map command_done.until_) : Nat) : Int) + 1) = ((am (l.map command_done.until_) + 1 : Nat) : Int) := by rw [wrap64 (by omega) (by omega)]; omega
      have hd : slices_Delete_command_done_command_done_o0 l ((am (l.map command_done.until_) : Nat) : Int) ((am (l.map command_done.until_) + 1 : Nat) : Int) = some (l.eraseIdx (am (l.map command_done.until_))) := by
        unfold slices_Delete_command_done_command_done_o0
        have e1 : (decide (0 ≤ ((am (l.map command_done.until_) : Nat) : Int)) && decide (((am (l.map command_done.until_) : Nat) : Int) ≤ ((am (l.map command_done.until_) + 1 : Nat) : Int)) && decide (((am (l.map command_done.until_) + 1 : Nat) : Int) ≤ (l.length : Int)) && decide ((l.length : Int) ≤ (l.length : Int))) = true := by
          simp only [Bool.and_eq_true, decide_eq_true_eq]; omega
        have e2 : ¬ ((am (l.map command_done.until_) : Nat) : Int) = ((am (l.map command_done.until_) + 1 : Nat) : Int) := by omega
        rw [e1]
        simp only [gd, cond_true, e2, decide_false, cond_false, Int.toNat_natCast, erase_two]
      have hle : (l.eraseIdx (am (l.map command_done.until_))).length = l.length - 1 := by rw [List.length_eraseIdx, if_pos a2]
      rw [loop_in (s' := l.eraseIdx (am (l.map command_done.until_))) (by
        unfold command_Doer_Do_x2
        simp only [hm, decide_true, cond_true, a1, at_nat a2, Option.bind_some, ht, decide_false, cond_false, w1, hd])]
      refine loop_out ?_
      have : ¬ q.most_ < ((l.eraseIdx (am (l.map command_done.until_))).length : Int) := by omega
      unfold command_Doer_Do_x2
      simp only [this, decide_false, cond_false]
  · rw [if_neg hm]
    refine loop_out ?_
    unfold command_Doer_Do_x2
    simp only [hm, decide_false, cond_false]
theorem refDrop (q : fleetref2_Hand) (t : Int) (l : List api_Letter) (hl : l.length ≤ 100000) (h0 : 0 < l.length) (h : (l.length : Int) ≤ q.Most + 1) : loopO (fleetref2_Hand_Do_x2 q t) l = some (drp q.Most t (l.map api_Letter.Until) l) ∧ am (l.map api_Letter.Until) < l.length := by
  obtain ⟨a1, a2⟩ := am_loop (f := fleetref2_Hand_Do_x3 l) (u := l.map api_Letter.Until) (by simp; omega) (fun i a hi ha => by
    rw [List.length_map] at hi ha
    have hc : (i : Int) < l.length := by omega
    unfold fleetref2_Hand_Do_x3 fleetref2_Hand_Do_x4
    simp only [hc, decide_true, cond_true, at_nat hi, at_nat ha, Option.bind_some, List.getElem_map]
    by_cases hlt : l[i].Until < l[a].Until <;> simp [hlt]) (fun a => by unfold fleetref2_Hand_Do_x3; simp) (by simpa using h0)
  rw [List.length_map] at a2
  refine ⟨?_, a2⟩
  have gm := getD_map (u := api_Letter.Until) a2
  unfold drp
  by_cases hm : q.Most < (l.length : Int)
  · rw [if_pos hm, gm]
    by_cases ht : t < l[am (l.map api_Letter.Until)].Until
    · rw [if_pos ht]
      refine loop_out ?_
      unfold fleetref2_Hand_Do_x2
      simp only [hm, decide_true, cond_true, a1, at_nat a2, Option.bind_some, ht]
    · rw [if_neg ht]
      have w1 : IntKind.wrap .i64 (((am (l.map api_Letter.Until) : Nat) : Int) + 1) = ((am (l.map api_Letter.Until) + 1 : Nat) : Int) := by rw [wrap64 (by omega) (by omega)]; omega
      have hd : slices_Delete_api_Letter_api_Letter_o0 l ((am (l.map api_Letter.Until) : Nat) : Int) ((am (l.map api_Letter.Until) + 1 : Nat) : Int) = some (l.eraseIdx (am (l.map api_Letter.Until))) := by
        unfold slices_Delete_api_Letter_api_Letter_o0
        have e1 : (decide (0 ≤ ((am (l.map api_Letter.Until) : Nat) : Int)) && decide (((am (l.map api_Letter.Until) : Nat) : Int) ≤ ((am (l.map api_Letter.Until) + 1 : Nat) : Int)) && decide (((am (l.map api_Letter.Until) + 1 : Nat) : Int) ≤ (l.length : Int)) && decide ((l.length : Int) ≤ (l.length : Int))) = true := by
          simp only [Bool.and_eq_true, decide_eq_true_eq]; omega
        have e2 : ¬ ((am (l.map api_Letter.Until) : Nat) : Int) = ((am (l.map api_Letter.Until) + 1 : Nat) : Int) := by omega
        rw [e1]
        simp only [gd, cond_true, e2, decide_false, cond_false, Int.toNat_natCast, erase_two]
      have hle : (l.eraseIdx (am (l.map api_Letter.Until))).length = l.length - 1 := by rw [List.length_eraseIdx, if_pos a2]
      rw [loop_in (s' := l.eraseIdx (am (l.map api_Letter.Until))) (by
        unfold fleetref2_Hand_Do_x2
        simp only [hm, decide_true, cond_true, a1, at_nat a2, Option.bind_some, ht, decide_false, cond_false, w1, hd])]
      refine loop_out ?_
      have : ¬ q.Most < ((l.eraseIdx (am (l.map api_Letter.Until))).length : Int) := by omega
      unfold fleetref2_Hand_Do_x2
      simp only [this, decide_false, cond_false]
  · rw [if_neg hm]
    refine loop_out ?_
    unfold fleetref2_Hand_Do_x2
    simp only [hm, decide_false, cond_false]

/-! ### Whether a letter is to be done -/
theorem ownKnown {l : List command_done} (hl : (l.length : Int) ≤ 9223372036854775807) (x : api_Letter) : slices_ContainsFunc_command_done_command_done_f1_command_Doer_Do_1 l x = some (l.any fun y => decide (y.id_ = x.Id)) := by
  unfold slices_ContainsFunc_command_done_command_done_f1_command_Doer_Do_1 slices_IndexFunc_command_done_command_done_f1_command_Doer_Do_1
  obtain ⟨z, h1, h2⟩ := find_loop (l := l) (f := slices_IndexFunc_command_done_command_done_f1_command_Doer_Do_1_x1 l x) (fun y => decide (y.id_ = x.Id)) hl (fun i hi => by
    unfold slices_IndexFunc_command_done_command_done_f1_command_Doer_Do_1_x1 command_Doer_Do_1
    have hc : (i : Int) < l.length := by omega
    simp only [hc, decide_true, cond_true, at_nat hi, Option.bind_some]
    cases decide (l[i].id_ = x.Id) <;> rfl) (by unfold slices_IndexFunc_command_done_command_done_f1_command_Doer_Do_1_x1; simp)
  rw [h1, ← h2]
  cases z <;> rfl
theorem refKnown {l : List api_Letter} (hl : (l.length : Int) ≤ 9223372036854775807) (x : api_Letter) : slices_ContainsFunc_api_Letter_api_Letter_f1_fleetref2_Hand_Do_1 l x = some (l.any fun y => decide (y.Id = x.Id)) := by
  unfold slices_ContainsFunc_api_Letter_api_Letter_f1_fleetref2_Hand_Do_1 slices_IndexFunc_api_Letter_api_Letter_f1_fleetref2_Hand_Do_1
  obtain ⟨z, h1, h2⟩ := find_loop (l := l) (f := slices_IndexFunc_api_Letter_api_Letter_f1_fleetref2_Hand_Do_1_x1 l x) (fun y => decide (y.Id = x.Id)) hl (fun i hi => by
    unfold slices_IndexFunc_api_Letter_api_Letter_f1_fleetref2_Hand_Do_1_x1 fleetref2_Hand_Do_1
    have hc : (i : Int) < l.length := by omega
    simp only [hc, decide_true, cond_true, at_nat hi, Option.bind_some]
    cases decide (l[i].Id = x.Id) <;> rfl) (by unfold slices_IndexFunc_api_Letter_api_Letter_f1_fleetref2_Hand_Do_1_x1; simp)
  rw [h1, ← h2]
  cases z <;> rfl
def toD (x : api_Letter) : command_done := command_done.mk x.Id x.Until
/-- what a device does -/
def doS (q : command_Doer) (e : Int) (x : api_Letter) (t : Int) : List command_done × Int × Bool × Int :=
  if e ≠ 0 then (q.l_, q.time_, false, e) else
  if !(decide (0 ≤ t) && decide (t ≤ 345686399999)) then (q.l_, q.time_, false, 1) else
  if t < q.time_ then (q.l_, q.time_, false, 7) else
  if decide (x.Until ≤ t) || (q.l_.any fun y => decide (y.id_ = x.Id)) then (q.l_, t, false, 0) else
  match drp q.most_ t ((q.l_ ++ [toD x]).map command_done.until_) (q.l_ ++ [toD x]) with
  | .inl l => (l, t, true, 0)
  | .inr _ => (q.l_, q.time_, false, 12)
theorem Do_own {q : command_Doer} {x : api_Letter} {e : Int} (he : command_CheckLetter x = some e) (hl : q.l_.length ≤ 1000) (hm : (q.l_.length : Int) ≤ q.most_) (t : Int) : command_Doer_Do q x t = some (doS q e x t) := by
  unfold command_Doer_Do doS
  rw [he, Moment_eq]
  simp only [Option.bind_some]
  by_cases h0 : e = 0
  · simp only [h0, decide_true, Bool.not_true, cond_false, ne_eq, not_true, if_false]
    cases hM : (decide (0 ≤ t) && decide (t ≤ 345686399999)) with
    | false => rfl
    | true =>
      simp only [Bool.not_true, cond_false, Bool.false_eq_true, if_false]
      by_cases ht : t < q.time_
      · simp only [ht, decide_true, cond_true, if_true]
      · simp only [ht, decide_false, cond_false, if_false]
        have hx1 : command_Doer_Do_x1 q x t = some (decide (x.Until ≤ t) || (q.l_.any fun y => decide (y.id_ = x.Id))) := by
          unfold command_Doer_Do_x1
          rw [ownKnown (by omega)]
          cases decide (x.Until ≤ t) <;> rfl
        rw [hx1]
        simp only [Option.bind_some]
        cases (decide (x.Until ≤ t) || (q.l_.any fun y => decide (y.id_ = x.Id))) with
        | true => rfl
        | false =>
          simp only [cond_false, Bool.false_eq_true, if_false, slices_Clone_command_done_command_done, gd]
          rw [lim_ok (show ([] : List command_done).length + q.l_.length ≤ 100000 by simp; omega)]
          simp only [cond_true, Option.bind_some]
          rw [lim_ok (show q.l_.length + ([command_done.mk x.Id x.Until] : List command_done).length ≤ 100000 by simp; omega)]
          have hd := (ownDrop q t (q.l_ ++ [toD x]) (by simp; omega) (by simp) (by simp; omega)).1
          have hd' : loopO (command_Doer_Do_x2 q t) (q.l_ ++ [command_done.mk x.Id x.Until]) = _ := hd
          rw [hd']
          simp only [cond_true, Option.bind_some]
          cases drp q.most_ t ((q.l_ ++ [toD x]).map command_done.until_) (q.l_ ++ [toD x]) <;> rfl
  · simp [h0]
theorem Do_ref {L : List api_Letter} {most time : Int} {x : api_Letter} {e : Int} (he : fleetref2_LetterFault x = some e) (hl : L.length ≤ 1000) (hm : (L.length : Int) ≤ most) (t : Int) :
    ∃ L2 tm b f, doS (command_Doer.mk most (L.map toD) time) e x t = (L2.map toD, tm, b, f) ∧ fleetref2_Hand_Do (fleetref2_Hand.mk most L time) x t = some (L2, tm, b, f) ∧ (L2.length : Int) ≤ most ∧ L2.length ≤ L.length + 1 := by
  unfold fleetref2_Hand_Do doS
  rw [he, refMoment]
  simp only [Option.bind_some]
  by_cases h0 : e = 0
  · simp only [h0, decide_true, Bool.not_true, cond_false, ne_eq, not_true, if_false]
    cases hM : (decide (0 ≤ t) && decide (t ≤ 345686399999)) with
    | false => exact ⟨L, time, false, 1, rfl, rfl, hm, by omega⟩
    | true =>
      simp only [Bool.not_true, cond_false, Bool.false_eq_true, if_false]
      by_cases ht : t < time
      · simp only [ht, decide_true, cond_true, if_true]
        exact ⟨L, time, false, 7, rfl, rfl, hm, by omega⟩
      · simp only [ht, decide_false, cond_false, if_false]
        have hk : ((L.map toD).any fun y => decide (y.id_ = x.Id)) = L.any fun y => decide (y.Id = x.Id) := by
          rw [List.any_map]; rfl
        rw [refKnown (by omega), hk]
        have hx1 : fleetref2_Hand_Do_x1 x t (L.any fun y => decide (y.Id = x.Id)) = some (decide (x.Until ≤ t) || (L.any fun y => decide (y.Id = x.Id))) := by
          unfold fleetref2_Hand_Do_x1
          cases (L.any fun y => decide (y.Id = x.Id)) <;> simp
        simp only [Option.bind_some, hx1]
        cases (decide (x.Until ≤ t) || (L.any fun y => decide (y.Id = x.Id))) with
        | true => exact ⟨L, t, false, 0, rfl, rfl, hm, by omega⟩
        | false =>
          simp only [cond_false, Bool.false_eq_true, if_false, slices_Clone_api_Letter_api_Letter, gd]
          rw [lim_ok (show ([] : List api_Letter).length + L.length ≤ 100000 by simp; omega)]
          simp only [cond_true, Option.bind_some]
          rw [lim_ok (show L.length + ([x] : List api_Letter).length ≤ 100000 by simp; omega)]
          obtain ⟨hd, hlt⟩ := refDrop (fleetref2_Hand.mk most L time) t (L ++ [x]) (by simp; omega) (by simp) (by simp; omega)
          simp only at hd
          have e1 : L.map toD ++ [toD x] = (L ++ [x]).map toD := by simp
          have e2 : ((L ++ [x]).map toD).map command_done.until_ = (L ++ [x]).map api_Letter.Until := by rw [List.map_map]; rfl
          rw [hd, e1, e2, drp_map]
          simp only [cond_true, Option.bind_some]
          cases hdr : drp most t ((L ++ [x]).map api_Letter.Until) (L ++ [x]) with
          | inl L2 =>
            have := drp_len hlt (by simp; omega) hdr
            exact ⟨L2, t, true, 0, rfl, rfl, this.1, by have := this.2; simpa using this⟩
          | inr _ => exact ⟨L, time, false, 12, rfl, rfl, hm, by omega⟩
  · simp only [h0, decide_false, Bool.not_false, cond_true, ne_eq, not_false_iff, if_true]
    exact ⟨L, time, false, e, rfl, rfl, hm, by omega⟩
theorem Done_own {l : List command_done} (most time : Int) (hl : l.length ≤ 10000) : command_Doer_Done (command_Doer.mk most l time) = some (l.map command_done.id_) := by
  unfold command_Doer_Done
  have := fold_loop0 (l := l) (f := command_Doer_Done_x1 (command_Doer.mk most l time)) (fun (s : List (List UInt8)) i => (s, i)) (fun s c => s ++ [c.id_]) id (fun i m => m.length ≤ i) (s0 := []) (by omega)
    (fun i hi m hm => by
      have hc : (i : Int) < l.length := by omega
      refine ⟨?_, by simp; omega⟩
      unfold command_Doer_Done_x1
      simp only [hc, decide_true, cond_true, at_nat hi, Option.bind_some, gd]
      rw [lim_ok (by simp; omega)]
      rfl)
    (fun s _ => by unfold command_Doer_Done_x1; simp) (by simp)
  rw [this.1, foldl_app]
  rfl
theorem Done_ref {l : List api_Letter} (most time : Int) (hl : l.length ≤ 10000) : fleetref2_Hand_Done (fleetref2_Hand.mk most l time) = some (l.map api_Letter.Id) := by
  unfold fleetref2_Hand_Done
  have := fold_loop0 (l := l) (f := fleetref2_Hand_Done_x1 (fleetref2_Hand.mk most l time)) (fun (s : List (List UInt8)) i => (s, i)) (fun s c => s ++ [c.Id]) id (fun i m => m.length ≤ i) (s0 := []) (by omega)
    (fun i hi m hm => by
      have hc : (i : Int) < l.length := by omega
      refine ⟨?_, by simp; omega⟩
      unfold fleetref2_Hand_Done_x1
      simp only [hc, decide_true, cond_true, at_nat hi, Option.bind_some, gd]
      rw [lim_ok (by simp; omega)]
      rfl)
    (fun s _ => by unfold fleetref2_Hand_Done_x1; simp) (by simp)
  rw [this.1, foldl_app]
  rfl
theorem wEqual_self {l : List (List UInt8)} (hl : (l.length : Int) ≤ 9223372036854775807) : slices_Equal_string_string l l = some true := by
  unfold slices_Equal_string_string
  simp only [decide_true, Bool.not_true, cond_false]
  rw [range_loop (l := l) (fun _ _ => none) (.inl ()) hl]
  · have : ∀ (k : Nat) (m : List (List UInt8)), scan (fun (_ : Nat) (_ : List UInt8) => (none : Option (Unit ⊕ Unit))) k m = none := fun k m => scan_none.2 fun _ _ _ => rfl
    rw [this]; rfl
  · intro i hi
    unfold slices_Equal_string_string_x1
    have hc : (i : Int) < l.length := by omega
    simp only [hc, decide_true, cond_true, at_nat hi, Option.bind_some, Bool.not_true, cond_false]
  · unfold slices_Equal_string_string_x1; simp

/-! ### The law -/
theorem when_eq (b : Bool) (e : Int) : fleetlaw2_when b e = some (bif b then e else 0) := by
  unfold fleetlaw2_when
  cases b <;> rfl
theorem NewDoer_eq {m : Int} (h : 1 ≤ m ∧ m ≤ 1000) : command_NewDoer m = some (.inr ()) := by
  unfold command_NewDoer
  have e : (decide (m < 1) || decide (1000 < m)) = false := by simp; omega
  rw [Out_eq, e]
  rfl
theorem rem_step {n : Int} (hn : n ≤ 14) {k j : Nat} (hk : k + 1000 < 1099511627776) (hj : j ≤ 14) {s : fleetmake_Stream} (hs : StrOk (k + 20 * j) s) {most time at_ : Int} {L : List api_Letter} (hm : 1 ≤ most ∧ most ≤ 1000) (hl : (L.length : Int) ≤ most) (hl2 : L.length ≤ j) (ha : 0 ≤ at_ ∧ at_ ≤ 10 * j) :
    Ok (fleetlaw2_DevicesRemember_x7 n (s, command_Doer.mk most (L.map toD) time, fleetref2_Hand.mk most L time, at_, (j : Int))) (fun x => match x with
      | .inl q => ∃ s2 L2 tm at2, q = (s2, command_Doer.mk most (L2.map toD) tm, fleetref2_Hand.mk most L2 tm, at2, ((j + 1 : Nat) : Int)) ∧ (j : Int) < n ∧ StrOk (k + 20 * (j + 1)) s2 ∧ (L2.length : Int) ≤ most ∧ L2.length ≤ j + 1 ∧ 0 ≤ at2 ∧ at2 ≤ 10 * (j + 1 : Nat)
      | .inr r => r = .inl ()) := by
  unfold fleetlaw2_DevicesRemember_x7
  refine .cond (fun hc => ?_) (fun _ => .some rfl)
  have hc : (j : Int) < n := by simpa using hc
  have a1 := nxt_mk hs (by omega)
  have a2 := nxt_mk a1 (by omega)
  have a3 := nxt_mk a2 (by omega)
  refine (Pick_ok hs (by omega) (by simp) (by simp)).bind fun p hp => ?_
  simp only [List.mem_cons, List.not_mem_nil, or_false] at hp
  have w : IntKind.wrap .i64 (at_ + p) = at_ + p := wrap64 (by omega) (by omega)
  have hx8 : Ok (fleetlaw2_DevicesRemember_x8 s at_ p) (fun r => StrOk (k + 20 * j + 3) r.1) := by
    unfold fleetlaw2_DevicesRemember_x8
    refine (Flip_ok a1 (by omega) (by unfold I64; omega)).bind fun b _ => .cond (fun _ => ?_) (fun _ => .some (StrOk.mono a2 (by omega)))
    exact (Pick_ok a2 (by omega) (by simp) (by simp)).bind fun q _ => .some (StrOk.mono a3 (by omega))
  refine hx8.bind fun ⟨s1, t⟩ b1 => ?_
  simp only at b1
  refine (Pick_ok b1 (by omega) (by simp) (by simp)).bind fun q hq => ?_
  simp only [List.mem_cons, List.not_mem_nil, or_false] at hq
  have b2 := nxt_mk b1 (by omega)
  rw [w]
  have w2 : IntKind.wrap .i64 (at_ + p - q) = at_ + p - q := wrap64 (by omega) (by omega)
  rw [w2]
  have himax : -10 ≤ imax 0 (at_ + p - q) ∧ imax 0 (at_ + p - q) ≤ 345686400000 := by unfold imax; split <;> omega
  refine (Letter_ok b2 (by omega) himax).bind fun ⟨s2, x⟩ ⟨c1, kx⟩ => ?_
  simp only at c1 kx
  obtain ⟨e, e1, e2⟩ := letter_same kx
  obtain ⟨L2, tm, b, f, g1, g2, g3, g4⟩ := Do_ref (time := time) e2 (show L.length ≤ 1000 by omega) hl t
  have hown : command_Doer_Do (command_Doer.mk most (L.map toD) time) x t = some (L2.map toD, tm, b, f) := by
    rw [Do_own e1 (by simp; omega) (by simpa using hl), g1]
  dsimp only
  rw [hown, g2]
  simp only [Option.bind_some]
  have hx9 : fleetlaw2_DevicesRemember_x9 (command_Doer.mk most (L.map toD) time) (fleetref2_Hand.mk most L time) (L2.map toD) tm b f L2 tm b f = some false := by
    unfold fleetlaw2_DevicesRemember_x9
    have e3 : (L2.map toD).map command_done.id_ = L2.map api_Letter.Id := by rw [List.map_map]; rfl
    simp only [bne_self_eq_false, cond_false, decide_true, Bool.not_true, Done_own most tm (show (L2.map toD).length ≤ 10000 by simp; omega), Done_ref most tm (show L2.length ≤ 10000 by omega), Option.bind_some, e3, wEqual_self (show ((L2.map api_Letter.Id).length : Int) ≤ 9223372036854775807 by simp; omega)]
  rw [hx9]
  simp only [Option.bind_some, cond_false]
  have w1 : IntKind.wrap .i64 ((j : Int) + 1) = ((j + 1 : Nat) : Int) := by rw [wrap64 (by omega) (by omega)]; omega
  rw [w1]
  exact .some ⟨s2, L2, tm, at_ + p, rfl, hc, StrOk.mono c1 (by omega), g3, by omega, by omega, by omega⟩
theorem DevicesRemember_true (L : List Int) (hL : L.length ≤ 9223372036854775807) (hI : ∀ n ∈ L, -9223372036854775808 ≤ n ∧ n ≤ 9223372036854775807) : fleetlaw2_DevicesRemember L = some true := by
  apply Ok.eq
  unfold fleetlaw2_DevicesRemember
  have h0 : StrOk 0 (fleetmake_Stream.mk L 0) := ⟨Int.le_refl _, by simp, hL, hI⟩
  refine (Pick_ok h0 (by omega) (by simp) (by simp)).bind fun m hm => ?_
  simp only [List.mem_cons, List.not_mem_nil, or_false] at hm
  by_cases hr : 1 ≤ m ∧ m ≤ 1000
  · rw [NewDoer_eq hr]
    have n1 : ¬ m < 1 := by omega
    have n2 : ¬ 1000 < m := by omega
    have hx4 : fleetlaw2_DevicesRemember_x4 m = some 0 := by
      unfold fleetlaw2_DevicesRemember_x4
      simp [n1, n2, when_eq]
    have hx5 : fleetlaw2_DevicesRemember_x5 0 = some false := by kernel_rfl
    simp only [Option.bind_some, hx4, hx5, cond_false]
    refine (Range_ok (nxt_mk h0 (by omega)) (by omega) (by omega) (by omega)).bind fun ⟨s1, n⟩ ⟨r1, r2, r3, _⟩ => ?_
    simp only at r1 r2 r3
    have r3 := r3 (by omega)
    refine Ok.bind (P := fun r => r = .inl ()) (loop_ok (fun q : fleetmake_Stream × command_Doer × fleetref2_Hand × Int × Int => ∃ (s : fleetmake_Stream) (X : List api_Letter) (tm at_ : Int) (j : Nat), q = (s, command_Doer.mk m (X.map toD) tm, fleetref2_Hand.mk m X tm, at_, (j : Int)) ∧ j ≤ 14 ∧ StrOk (10 + 20 * j) s ∧ (X.length : Int) ≤ m ∧ X.length ≤ j ∧ 0 ≤ at_ ∧ at_ ≤ 10 * j) (fun q => ((14 : Int) - q.2.2.2.2).toNat) ?_
      ⟨s1, [], 0, 0, 0, rfl, by omega, StrOk.mono r1 (by omega), by simp; omega, by simp, by omega, by omega⟩) fun r hr => ?_
    · rintro _ ⟨s, X, tm, at_, j, rfl, j1, j2, j3, j4, j5, j6⟩
      refine (rem_step r3 (k := 10) (by omega) j1 j2 hr j3 j4 ⟨j5, j6⟩).mono fun x hx => ?_
      cases x with
      | inr r => exact hx
      | inl q =>
        obtain ⟨s2, L2, tm2, at2, rfl, g1, g2, g3, g4, g5, g6⟩ := hx
        exact ⟨⟨s2, L2, tm2, at2, j + 1, rfl, by omega, g2, g3, g4, g5, g6⟩, by simp only; omega⟩
    · rw [hr]
      simp only [posted_eq, Option.bind_some]
      exact .some rfl
  · have hm2 : m = 0 ∨ m = 1001 := by omega
    have key : ∀ v : Int, v = 0 ∨ v = 1001 → command_NewDoer v = some (.inl ()) ∧ fleetlaw2_DevicesRemember_x1 v = some 1 := by
      rintro v (rfl | rfl)
      · exact ⟨by kernel_rfl, by kernel_rfl⟩
      · exact ⟨by kernel_rfl, by kernel_rfl⟩
    obtain ⟨e1, e2⟩ := key m hm2
    have hx2 : fleetlaw2_DevicesRemember_x2 1 = some true := by kernel_rfl
    have hx3 : fleetlaw2_DevicesRemember_x3 1 = some true := by
      unfold fleetlaw2_DevicesRemember_x3
      rw [posted_eq]
      rfl
    simp only [e1, e2, hx2, hx3, Option.bind_some, cond_true]
    exact .some rfl
end Go.Eng

