/-
What the plain functions of the law DoneOnce answer, part 1.
-/
import Derived.Test.YtfbeijbgfhelfaaGreatDoorGenF
import Derived.KernelRfl
import Derived.Test.YtfbeijbgfhelfaaGreatDoorEngV
/-
Plain functions: what they answer, in total. Loops by an invariant and a measure.
-/
namespace Go.Eng
open Go
set_option linter.unusedVariables false
set_option linter.unusedSimpArgs false

def Ok {α : Type} (x : Option α) (P : α → Prop) : Prop := ∃ r, x = some r ∧ P r
section
variable {α β σ ρ : Type} {P Q : α → Prop} {R : β → Prop}
theorem Ok.some {r : α} (h : P r) : Ok (some r) P := ⟨r, rfl, h⟩
theorem Ok.mono {x : Option α} (h : Ok x P) (hq : ∀ r, P r → Q r) : Ok x Q := let ⟨r, h1, h2⟩ := h; ⟨r, h1, hq r h2⟩
theorem Ok.bind {x : Option α} {f : α → Option β} (h : Ok x P) (hf : ∀ r, P r → Ok (f r) R) : Ok (x.bind f) R := by
  obtain ⟨r, rfl, hr⟩ := h
  exact hf r hr
theorem Ok.cond {b : Bool} {x y : Option α} (ht : b = true → Ok x P) (hf : b = false → Ok y P) : Ok (cond b x y) P := by
  cases b
  · exact hf rfl
  · exact ht rfl
theorem Ok.gd {b : Bool} {x : Option α} (hb : b = true) (h : Ok x P) : Ok (gd b x) P := by
  subst hb; exact h
theorem Ok.eq {x : Option α} {r : α} (h : Ok x fun y => y = r) : x = Option.some r := by
  obtain ⟨y, h1, h2⟩ := h
  rw [h1, h2]
theorem Ok.of_eq {x : Option α} {r : α} (h : x = Option.some r) (hp : P r) : Ok x P := ⟨r, h, hp⟩

theorem loop_ok {f : σ → Option (σ ⊕ ρ)} {Q : ρ → Prop} (I : σ → Prop) (μ : σ → Nat)
    (step : ∀ s, I s → Ok (f s) fun x => match x with | .inl s' => I s' ∧ μ s' < μ s | .inr r => Q r) {s : σ} (h : I s) : Ok (loopO f s) Q := by
  generalize hn : μ s = n
  induction n using Nat.strongRecOn generalizing s with
  | _ n ih =>
    obtain ⟨x, h1, h2⟩ := step s h
    cases x with
    | inl s' =>
      obtain ⟨h3, h4⟩ := h2
      obtain ⟨r, h5, h6⟩ := ih (μ s') (by omega) h3 rfl
      refine ⟨r, ?_, h6⟩
      rw [loopO_eq, h1]
      exact h5
    | inr r =>
      refine ⟨r, ?_, h2⟩
      rw [loopO_eq, h1]
      rfl

theorem at_lt {l : List α} {n : Int} (h : 0 ≤ n) (h2 : n < l.length) : at? l n = Option.some (l[n.toNat]'(by omega)) := by
  unfold at?
  rw [if_pos h, List.getElem?_eq_getElem]
theorem at_nat {l : List α} {n : Nat} (h : n < l.length) : at? l (n : Int) = Option.some l[n] := by
  rw [at_lt (by omega) (by omega)]
  simp
theorem at_ok {l : List α} {n : Int} (h : 0 ≤ n) (h2 : n < l.length) : Ok (at? l n) (fun y => l[n.toNat]? = Option.some y) := by
  refine ⟨_, at_lt h h2, ?_⟩
  rw [List.getElem?_eq_getElem]
theorem at_mem {l : List α} {n : Int} (h : 0 ≤ n) (h2 : n < l.length) : Ok (at? l n) (fun y => y ∈ l) := by
  refine (at_ok h h2).mono fun y hy => List.mem_of_getElem? hy
end

/-! ### Integers of 64 bits -/
def I64 (n : Int) : Prop := -9223372036854775808 ≤ n ∧ n ≤ 9223372036854775807
theorem wrap64 {n : Int} (h : -9223372036854775808 ≤ n) (h2 : n ≤ 9223372036854775807) : IntKind.wrap .i64 n = n := by
  unfold IntKind.wrap
  simp [IntKind.min, IntKind.max, IntKind.bits, IntKind.signed]
  omega
theorem tmod_nonneg {a b : Int} (h : 0 ≤ a) : 0 ≤ a.tmod b := Int.tmod_nonneg b h
theorem tmod_lt' {a b : Int} (h : 0 < b) : a.tmod b < b := Int.tmod_lt_of_pos a h
theorem lim_eq : LIM = 137438953472 := by decide
theorem ble_lim {n : Nat} (h : n ≤ 137438953472) : Nat.ble n LIM = true := by rw [Nat.ble_eq, lim_eq]; exact h
end Go.Eng

/-
Loops over the elements of a list; keys.
-/
namespace Go.Eng
open Go
set_option linter.unusedVariables false
set_option linter.unusedSimpArgs false

/-- The first answer of the elements from number k on. -/
def scan {α ρ : Type} (g : Nat → α → Option ρ) : Nat → List α → Option ρ
  | _, [] => none
  | k, x :: xs => match g k x with
    | some r => some r
    | none => scan g (k + 1) xs

theorem drop_get {α : Type} {l : List α} {i : Nat} (h : i < l.length) : l.drop i = l[i] :: l.drop (i + 1) := List.drop_eq_getElem_cons h

/-- A loop over a list that ends at the first element with an answer. -/
theorem range_loop {α ρ : Type} {l : List α} {f : Int → Option (Int ⊕ ρ)} (g : Nat → α → Option ρ) (done : ρ) (hl : (l.length : Int) ≤ 9223372036854775807)
    (hf : ∀ (i : Nat) (h : i < l.length), f i = some (match g i l[i] with | none => .inl (IntKind.wrap .i64 (i + 1)) | some r => .inr r)) (hd : f l.length = some (.inr done)) :
    loopO f 0 = some ((scan g 0 l).getD done) := by
  have key : ∀ (n i : Nat), l.length - i = n → i ≤ l.length → loopO f i = some ((scan g i (l.drop i)).getD done) := by
    intro n
    induction n with
    | zero =>
      intro i h1 h2
      have : i = l.length := by omega
      subst this
      rw [loopO_eq, hd, List.drop_length]
      rfl
    | succ n ih =>
      intro i h1 h2
      have hi : i < l.length := by omega
      rw [loopO_eq, hf i hi, drop_get hi]
      simp only [scan]
      cases hg : g i l[i] with
      | some r => rfl
      | none =>
        simp only [Option.bind_some]
        rw [wrap64 (by omega) (by omega)]
        exact ih (i + 1) (by omega) (by omega)
  exact key l.length 0 (by omega) (by omega)

/-! ### Keys -/
end Go.Eng

/-
Small checks; the order of measurements.
-/
namespace Go.Eng
open Go
set_option linter.unusedVariables false
set_option linter.unusedSimpArgs false

theorem Out_eq (n low high : Int) : base_Out n low high = some (decide (n < low) || decide (high < n)) := by
  unfold base_Out base_Out_x1
  by_cases h : n < low <;> simp [h]
theorem Moment_eq (n : Int) : base_Moment n = some (decide (0 ≤ n) && decide (n ≤ 345686399999)) := by
  unfold base_Moment
  rw [Out_eq]
  simp only [Option.bind_some]
  congr 1
  rw [Bool.eq_iff_iff]
  simp
/-! ### Orders -/
def cmpI (a b : Int) : Int := if a < b then -1 else if b < a then 1 else 0
def or0 (a b : Int) : Int := if a = 0 then b else a
theorem cmpB_self : ∀ a : List UInt8, Lib.compareBytes a a = 0
  | [] => rfl
  | x :: a => by
    unfold Lib.compareBytes
    simp [UInt8.lt_irrefl, cmpB_self a]
theorem cmpB_anti : ∀ a b : List UInt8, Lib.compareBytes b a = -Lib.compareBytes a b
  | [], [] => rfl
  | [], _ :: _ => rfl
  | _ :: _, [] => rfl
  | x :: a, y :: b => by
    unfold Lib.compareBytes
    by_cases h1 : x < y
    · have h2 : ¬ y < x := UInt8.lt_asymm h1
      simp [h1, h2]
    · by_cases h2 : y < x
      · simp [h1, h2]
      · simp [h1, h2, cmpB_anti a b]
theorem cmpB_zero : ∀ {a b : List UInt8}, Lib.compareBytes a b = 0 ↔ a = b
  | [], [] => by simp [Lib.compareBytes]
  | [], _ :: _ => by simp [Lib.compareBytes]
  | _ :: _, [] => by simp [Lib.compareBytes]
  | x :: a, y :: b => by
    unfold Lib.compareBytes
    by_cases h1 : x < y
    · have : x ≠ y := fun h => UInt8.lt_irrefl y (h ▸ h1)
      simp [h1, this]
    · by_cases h2 : y < x
      · have : x ≠ y := fun h => UInt8.lt_irrefl x (by rw [h] at h2 ⊢; exact h2)
        simp [h1, h2, this]
      · have : x = y := UInt8.le_antisymm (UInt8.not_lt.1 h2) (UInt8.not_lt.1 h1)
        simp [h1, h2, cmpB_zero (a := a) (b := b), this]
theorem cmpI_anti (a b : Int) : cmpI b a = -cmpI a b := by unfold cmpI; split <;> split <;> first | omega | (split <;> omega) | rfl
theorem or0_neg (a b : Int) : or0 (-a) (-b) = -or0 a b := by unfold or0; split <;> split <;> omega
end Go.Eng

/-
Checks of measurements and series, both ways.
-/
namespace Go.Eng
open Go
set_option linter.unusedVariables false
set_option linter.unusedSimpArgs false

/-! ### Check -/
end Go.Eng

/-
Sorting of few elements, and what is left of equal ones, for all kinds of elements.
-/
namespace Go.Eng
open Go
set_option linter.unusedVariables false
set_option linter.unusedSimpArgs false

theorem loop_in {σ ρ : Type} {f : σ → Option (σ ⊕ ρ)} {s s' : σ} (h : f s = some (.inl s')) : loopO f s = loopO f s' := by rw [loopO_eq, h]; rfl
theorem loop_out {σ ρ : Type} {f : σ → Option (σ ⊕ ρ)} {s : σ} {r : ρ} (h : f s = some (.inr r)) : loopO f s = some r := by rw [loopO_eq, h]; rfl

section
variable {α : Type}
/-! ### Insertion, as the code has it -/
def All (p : α → Prop) (l : List α) : Prop := ∀ x ∈ l, p x
theorem All.nil {p : α → Prop} : All p [] := fun _ h => nomatch h
theorem All.at {p : α → Prop} {l : List α} (h : All p l) {i : Nat} (hi : i < l.length) : p l[i] := h _ (List.getElem_mem hi)

/-! ### Equal ones, as the code has it -/
end
end Go.Eng

/-
Insertion sorts; what is left of equal ones rises.
-/
namespace Go.Eng
open Go
set_option linter.unusedVariables false
set_option linter.unusedSimpArgs false
section
variable {α : Type}
end
end Go.Eng

/-
Loops that only gather.
-/
namespace Go.Eng
open Go
set_option linter.unusedVariables false
set_option linter.unusedSimpArgs false

theorem scan_find0 {α : Type} {p : α → Bool} : ∀ {l : List α} {k : Nat}, ∃ r : Int, (match (scan (fun i x => cond (p x) (some (Sum.inr (i : Int) : Unit ⊕ Int)) none) k l).getD (.inl ()) with | .inl _ => (-1 : Int) | .inr v => v) = r ∧ decide (0 ≤ r) = l.any p
  | [], k => ⟨-1, rfl, rfl⟩
  | x :: l, k => by
    simp only [scan, List.any_cons]
    cases p x with
    | true => exact ⟨k, rfl, by simp⟩
    | false => simp only [cond_false, Bool.false_or]; exact scan_find0 (l := l) (k := k + 1)
/-- A search for the first element that meets a test: is there one? -/
theorem find_loop {α : Type} {l : List α} {f : Int → Option (Int ⊕ (Unit ⊕ Int))} (p : α → Bool) (hl : (l.length : Int) ≤ 9223372036854775807)
    (hf : ∀ (i : Nat) (h : i < l.length), f i = some (cond (p l[i]) (.inr (.inr (i : Int))) (.inl (IntKind.wrap .i64 ((i : Int) + 1))))) (hd : f l.length = some (.inr (.inl ()))) :
    ∃ x, loopO f 0 = some x ∧ decide (0 ≤ (match x with | .inl _ => (-1 : Int) | .inr v => v)) = l.any p := by
  refine ⟨_, range_loop (l := l) (fun i x => cond (p x) (some (.inr (i : Int))) none) (.inl ()) hl (fun i h => ?_) hd, ?_⟩
  · rw [hf i h]
    cases p l[i] <;> rfl
  · obtain ⟨r, h1, h2⟩ := scan_find0 (p := p) (l := l) (k := 0)
    rw [h1]; exact h2
end Go.Eng

/-
What the laws ask of each package once.
-/
namespace Go.Eng
open Go
theorem ready_eq : fleetkeep2_ready = some true := by kernel_rfl
end Go.Eng

/-
Twins: the order of names and of stamps; sorted cells as tables; merging.
-/
namespace Go.Eng
open Go
set_option linter.unusedVariables false
set_option linter.unusedSimpArgs false

/-! ### Orders -/
theorem cmpB_tr : ∀ {a b c : List UInt8}, Lib.compareBytes a b ≤ 0 → Lib.compareBytes b c ≤ 0 → Lib.compareBytes a c ≤ 0
  | [], [], c, _, h => h
  | [], _ :: _, [], _, _ => by simp [Lib.compareBytes]
  | [], _ :: _, _ :: _, _, _ => by simp [Lib.compareBytes]
  | _ :: _, [], _, h, _ => by simp [Lib.compareBytes] at h
  | _ :: _, _ :: _, [], _, h => by simp [Lib.compareBytes] at h
  | x :: a, y :: b, z :: c, h1, h2 => by
    unfold Lib.compareBytes at *
    by_cases xy : x < y
    · by_cases yz : y < z
      · simp [UInt8.lt_trans xy yz]
      · by_cases zy : z < y
        · simp [yz, zy] at h2
        · have e : y = z := UInt8.le_antisymm (UInt8.not_lt.1 zy) (UInt8.not_lt.1 yz)
          subst e; simp [xy]
    · by_cases yx : y < x
      · simp [xy, yx] at h1
      · have e : x = y := UInt8.le_antisymm (UInt8.not_lt.1 yx) (UInt8.not_lt.1 xy)
        subst e
        simp only [xy, if_false] at h1
        by_cases xz : x < z
        · simp [xz]
        · by_cases zx : z < x
          · simp [xz, zx] at h2
          · simp only [xz, zx, if_false] at h2 ⊢
            exact cmpB_tr h1 h2
/-- one name is ahead of another one -/
def nlt (a b : List UInt8) : Prop := Lib.compareBytes a b < 0
theorem nlt_irrefl (a : List UInt8) : ¬ nlt a a := by unfold nlt; rw [cmpB_self]; omega
theorem nlt_trans {a b c : List UInt8} (h1 : nlt a b) (h2 : nlt b c) : nlt a c := by
  unfold nlt at *
  have h := cmpB_tr (a := a) (b := b) (c := c) (by omega) (by omega)
  by_cases h0 : Lib.compareBytes a c = 0
  · have := cmpB_zero.1 h0
    subst this
    have := cmpB_anti a b
    omega
  · omega
theorem nlt_asymm {a b : List UInt8} (h : nlt a b) : ¬ nlt b a := fun h2 => nlt_irrefl a (nlt_trans h h2)
theorem nlt_ne {a b : List UInt8} (h : nlt a b) : a ≠ b := fun e => nlt_irrefl b (e ▸ h)
theorem cmpB_cases (a b : List UInt8) : nlt a b ∨ a = b ∨ nlt b a := by
  unfold nlt
  have := cmpB_anti a b
  by_cases h0 : Lib.compareBytes a b = 0
  · exact .inr (.inl (cmpB_zero.1 h0))
  · omega
def stO (a b : api_Stamp) : Int := or0 (cmpI a.At b.At) (or0 (Lib.compareBytes a.By b.By) (cmpI a.No b.No))
theorem stO_anti (a b : api_Stamp) : stO b a = - stO a b := by
  unfold stO
  rw [cmpB_anti a.By b.By, cmpI_anti a.At b.At, cmpI_anti a.No b.No, or0_neg, or0_neg]
theorem cmpI_zero {a b : Int} : cmpI a b = 0 ↔ a = b := by unfold cmpI; (repeat' split) <;> omega
/-! ### Sorted cells -/
abbrev nm (c : api_Cell) : List UInt8 := c.Prop_.Name
def Srt (l : List api_Cell) : Prop := l.Pairwise fun x y => nlt (nm x) (nm y)
/-- the cell of a name -/
noncomputable def lk (l : List api_Cell) (n : List UInt8) : Option api_Cell := l.find? fun c => decide (nm c = n)
theorem lk_some {l : List api_Cell} {n : List UInt8} {c : api_Cell} (h : lk l n = some c) : c ∈ l ∧ nm c = n := ⟨List.mem_of_find?_eq_some h, by simpa using List.find?_some h⟩
theorem lk_mem {l : List api_Cell} (hs : Srt l) {c : api_Cell} (h : c ∈ l) : lk l (nm c) = some c := by
  induction l with
  | nil => cases h
  | cons x l ih =>
    have hs' := List.pairwise_cons.1 hs
    unfold lk
    rw [List.find?_cons]
    rcases List.mem_cons.1 h with rfl | h
    · simp
    · have : nm x ≠ nm c := nlt_ne (hs'.1 c h)
      simp only [this, decide_false]
      exact ih hs'.2 h
theorem lk_none {l : List api_Cell} {n : List UInt8} : lk l n = none ↔ ∀ c ∈ l, nm c ≠ n := by
  unfold lk
  rw [List.find?_eq_none]
  simp
theorem srt_ext : ∀ {l m : List api_Cell}, Srt l → Srt m → (∀ c, c ∈ l ↔ c ∈ m) → l = m
  | [], [], _, _, _ => rfl
  | [], y :: m, _, _, h => by have := (h y).2 (by simp); cases this
  | x :: l, [], _, _, h => by have := (h x).1 (by simp); cases this
  | x :: l, y :: m, h1, h2, h => by
    have g1 := List.pairwise_cons.1 h1
    have g2 := List.pairwise_cons.1 h2
    have e : x = y := by
      rcases List.mem_cons.1 ((h x).1 (by simp)) with e | hx
      · exact e
      · rcases List.mem_cons.1 ((h y).2 (by simp)) with e | hy
        · exact e.symm
        · exact absurd (g1.1 y hy) (nlt_asymm (g2.1 x hx))
    subst e
    have : l = m := srt_ext g1.2 g2.2 fun c => by
      constructor
      · intro hc
        rcases List.mem_cons.1 ((h c).1 (by simp [hc])) with e | hm
        · exact absurd (g1.1 c hc) (e ▸ nlt_irrefl _)
        · exact hm
      · intro hc
        rcases List.mem_cons.1 ((h c).2 (by simp [hc])) with e | hm
        · exact absurd (g2.1 c hc) (e ▸ nlt_irrefl _)
        · exact hm
    rw [this]
/-! ### Merging -/
/-- two cells of one name: none fits, where they clash -/
def clash (c d : api_Cell) : Prop := stO c.Stamp d.Stamp = 0 ∧ c.Prop_.Value ≠ d.Prop_.Value
noncomputable def pick (c d : api_Cell) : api_Cell := if 0 ≤ stO c.Stamp d.Stamp then c else d
open Classical in
noncomputable def mrg : List api_Cell → List api_Cell → Option (List api_Cell)
  | [], b => some b
  | x :: a, [] => some (x :: a)
  | x :: a, y :: b =>
    if nlt (nm x) (nm y) then (mrg a (y :: b)).map (x :: ·)
    else if nlt (nm y) (nm x) then (mrg (x :: a) b).map (y :: ·)
    else if clash x y then none else (mrg a b).map (pick x y :: ·)
termination_by a b => a.length + b.length
noncomputable def comb : Option api_Cell → Option api_Cell → Option api_Cell
  | none, x => x
  | some c, none => some c
  | some c, some d => some (pick c d)
theorem comb_none (x : Option api_Cell) : comb x none = x := by cases x <;> rfl
theorem pick_nm {c d : api_Cell} (h : nm c = nm d) : nm (pick c d) = nm c := by unfold pick; split <;> simp [h]
theorem pick_or (c d : api_Cell) : pick c d = c ∨ pick c d = d := by unfold pick; split <;> simp
theorem lk_cons (x : api_Cell) (l : List api_Cell) (n : List UInt8) : lk (x :: l) n = if nm x = n then some x else lk l n := by
  unfold lk
  rw [List.find?_cons]
  by_cases h : nm x = n <;> simp [h]
theorem lk_far {l : List api_Cell} {n : List UInt8} (h : ∀ c ∈ l, nlt n (nm c)) : lk l n = none := lk_none.2 fun c hc e => nlt_irrefl n (by have := h c hc; rw [e] at this; exact this)

open Classical in
theorem mrg_spec : ∀ (a b : List api_Cell), Srt a → Srt b →
    (match mrg a b with
     | some r => Srt r ∧ (∀ n, lk r n = comb (lk a n) (lk b n)) ∧ (∀ n c d, lk a n = some c → lk b n = some d → ¬ clash c d) ∧ (∀ n, (∀ c ∈ a, nlt n (nm c)) → (∀ c ∈ b, nlt n (nm c)) → ∀ c ∈ r, nlt n (nm c)) ∧ r.length ≤ a.length + b.length
     | none => ∃ n c d, lk a n = some c ∧ lk b n = some d ∧ clash c d)
  | [], b, _, hb => by
    rw [mrg]
    exact ⟨hb, fun n => rfl, (fun n c d h => by cases h), (fun n _ h => h), by simp⟩
  | x :: a, [], ha, _ => by
    rw [mrg]
    exact ⟨ha, fun n => (comb_none _).symm, (fun n c d _ h => by cases h), (fun n h _ => h), by simp⟩
  | x :: a, y :: b, ha, hb => by
    have ga := List.pairwise_cons.1 ha
    have gb := List.pairwise_cons.1 hb
    rw [mrg]
    by_cases h1 : nlt (nm x) (nm y)
    · rw [if_pos h1]
      have ih := mrg_spec a (y :: b) ga.2 hb
      have hyb : ∀ c ∈ y :: b, nlt (nm x) (nm c) := fun c hc => by
        rcases List.mem_cons.1 hc with rfl | hc
        · exact h1
        · exact nlt_trans h1 (gb.1 c hc)
      cases hm : mrg a (y :: b) with
      | none =>
        rw [hm] at ih
        obtain ⟨n, c, d, e1, e2, e3⟩ := ih
        refine ⟨n, c, d, ?_, e2, e3⟩
        rw [lk_cons]
        have : nm x ≠ n := fun e => by
          have := (lk_some e1)
          have h3 := ga.1 c this.1
          rw [this.2, e] at h3
          exact nlt_irrefl _ h3
        rw [if_neg this]; exact e1
      | some r =>
        rw [hm] at ih
        obtain ⟨i1, i2, i3, i4, i5⟩ := ih
        simp only [Option.map_some]
        refine ⟨List.pairwise_cons.2 ⟨i4 _ ga.1 hyb, i1⟩, fun n => ?_, fun n c d e1 e2 => ?_, fun n q1 q2 c hc => ?_, by simp at i5 ⊢; omega⟩
        · rw [lk_cons, lk_cons, i2]
          by_cases e : nm x = n
          · subst e
            rw [if_pos rfl, if_pos rfl, lk_far hyb]
            rfl
          · rw [if_neg e, if_neg e]
        · rw [lk_cons] at e1
          by_cases e : nm x = n
          · subst e
            rw [lk_far hyb] at e2; cases e2
          · rw [if_neg e] at e1
            exact i3 n c d e1 e2
        · rcases List.mem_cons.1 hc with rfl | hc
          · exact q1 _ (by simp)
          · exact i4 n (fun c hc => q1 c (by simp [hc])) q2 c hc
    · rw [if_neg h1]
      by_cases h2 : nlt (nm y) (nm x)
      · rw [if_pos h2]
        have ih := mrg_spec (x :: a) b ha gb.2
        have hxa : ∀ c ∈ x :: a, nlt (nm y) (nm c) := fun c hc => by
          rcases List.mem_cons.1 hc with rfl | hc
          · exact h2
          · exact nlt_trans h2 (ga.1 c hc)
        cases hm : mrg (x :: a) b with
        | none =>
          rw [hm] at ih
          obtain ⟨n, c, d, e1, e2, e3⟩ := ih
          refine ⟨n, c, d, e1, ?_, e3⟩
          rw [lk_cons]
          have : nm y ≠ n := fun e => by
            have := (lk_some e2)
            have h3 := gb.1 d this.1
            rw [this.2, e] at h3
            exact nlt_irrefl _ h3
          rw [if_neg this]; exact e2
        | some r =>
          rw [hm] at ih
          obtain ⟨i1, i2, i3, i4, i5⟩ := ih
          simp only [Option.map_some]
          refine ⟨List.pairwise_cons.2 ⟨i4 _ hxa gb.1, i1⟩, fun n => ?_, fun n c d e1 e2 => ?_, fun n q1 q2 c hc => ?_, by simp at i5 ⊢; omega⟩
          · rw [lk_cons y r, lk_cons y b, i2]
            by_cases e : nm y = n
            · subst e
              rw [if_pos rfl, if_pos rfl, lk_far hxa]
              rfl
            · rw [if_neg e, if_neg e]
          · rw [lk_cons y] at e2
            by_cases e : nm y = n
            · subst e
              rw [lk_far hxa] at e1; cases e1
            · rw [if_neg e] at e2
              exact i3 n c d e1 e2
          · rcases List.mem_cons.1 hc with rfl | hc
            · exact q2 _ (by simp)
            · exact i4 n q1 (fun c hc => q2 c (by simp [hc])) c hc
      · rw [if_neg h2]
        have he : nm x = nm y := by
          rcases cmpB_cases (nm x) (nm y) with h | h | h
          · exact absurd h h1
          · exact h
          · exact absurd h h2
        by_cases h3 : clash x y
        · rw [if_pos h3]
          exact ⟨nm x, x, y, by rw [lk_cons, if_pos rfl], by rw [lk_cons, if_pos he.symm], h3⟩
        · rw [if_neg h3]
          have ih := mrg_spec a b ga.2 gb.2
          have hb' : ∀ c ∈ b, nlt (nm x) (nm c) := fun c hc => he ▸ gb.1 c hc
          cases hm : mrg a b with
          | none =>
            rw [hm] at ih
            obtain ⟨n, c, d, e1, e2, e3⟩ := ih
            have hne : nm x ≠ n := fun e => by
              rw [← e, lk_far ga.1] at e1; cases e1
            refine ⟨n, c, d, ?_, ?_, e3⟩
            · rw [lk_cons, if_neg hne]; exact e1
            · rw [lk_cons, if_neg (he ▸ hne)]; exact e2
          | some r =>
            rw [hm] at ih
            obtain ⟨i1, i2, i3, i4, i5⟩ := ih
            simp only [Option.map_some]
            have hp := pick_nm he
            refine ⟨List.pairwise_cons.2 ⟨by rw [hp]; exact i4 _ ga.1 hb', i1⟩, fun n => ?_, fun n c d e1 e2 => ?_, fun n q1 q2 c hc => ?_, by simp at i5 ⊢; omega⟩
            · rw [lk_cons, lk_cons, lk_cons, hp, ← he, i2]
              by_cases e : nm x = n
              · rw [if_pos e, if_pos e, if_pos e]; rfl
              · rw [if_neg e, if_neg e, if_neg e]
            · rw [lk_cons] at e1 e2
              by_cases e : nm x = n
              · rw [if_pos e] at e1
                rw [if_pos (he ▸ e)] at e2
                cases e1; cases e2; exact h3
              · rw [if_neg e] at e1
                rw [if_neg (he ▸ e)] at e2
                exact i3 n c d e1 e2
            · rcases List.mem_cons.1 hc with rfl | hc
              · rw [hp]; exact q1 _ (by simp)
              · exact i4 n (fun c hc => q1 c (by simp [hc])) (fun c hc => q2 c (by simp [hc])) c hc
termination_by a b => a.length + b.length
end Go.Eng

/-
Twins: the code's merging and checks are those of tables.
-/
namespace Go.Eng
open Go
set_option linter.unusedVariables false
set_option linter.unusedSimpArgs false

theorem lim_ok {n : Nat} (h : n ≤ 100000) : Nat.ble n LIM = true := ble_lim (by omega)

/-! ### Checks -/
end Go.Eng

/-
Twins: merging in any order; what is visible.
-/
namespace Go.Eng
open Go
set_option linter.unusedVariables false
set_option linter.unusedSimpArgs false

/-! ### Merging in any order -/
end Go.Eng

/-
Twins: what is visible; checks of properties; searching.
-/
namespace Go.Eng
open Go
set_option linter.unusedVariables false
set_option linter.unusedSimpArgs false

/-! ### Names below names -/
/-- the first name is below the second one -/
def belB (n a : List UInt8) : Bool := (a ++ [46]).isPrefixOf n
/-! ### What hides what -/
def hidesB (x y : api_Cell) : Bool :=
  if 0 < stO x.Stamp y.Stamp then belB (nm y) (nm x) || (belB (nm x) (nm y) && !decide (y.Prop_.Value.Kind = 0))
  else if stO x.Stamp y.Stamp = 0 then belB (nm y) (nm x) && (!decide (x.Prop_.Value.Kind = 0) && !decide (y.Prop_.Value.Kind = 0)) else false
theorem hides_nm {x x' y : api_Cell} (hn : nm x' = nm x) (h : hidesB x y = true) (hs : 0 < stO x'.Stamp y.Stamp) : hidesB x' y = true ∨ (belB (nm x) (nm y) = true ∧ y.Prop_.Value.Kind = 0) := by
  unfold hidesB at *
  rw [if_pos hs, hn]
  by_cases h1 : 0 < stO x.Stamp y.Stamp
  · rw [if_pos h1] at h; exact .inl h
  · rw [if_neg h1] at h
    by_cases h2 : stO x.Stamp y.Stamp = 0
    · rw [if_pos h2] at h
      left
      cases hb : belB (nm y) (nm x) with
      | true => rfl
      | false => rw [hb] at h; cases h
    · rw [if_neg h2] at h; cases h
theorem hides_le {x y : api_Cell} (h : hidesB x y = true) : 0 ≤ stO x.Stamp y.Stamp := by
  unfold hidesB at h
  by_cases h1 : 0 < stO x.Stamp y.Stamp
  · omega
  · by_cases h2 : stO x.Stamp y.Stamp = 0
    · omega
    · rw [if_neg h1, if_neg h2] at h; cases h
theorem stO_At {a b : api_Stamp} (h : 0 ≤ stO a b) : b.At ≤ a.At := by
  unfold stO or0 at h
  by_cases h0 : cmpI a.At b.At = 0
  · have := cmpI_zero.1 h0; omega
  · rw [if_neg h0] at h
    unfold cmpI at h h0
    split at h
    · omega
    · omega

/-- is a cell visible in a list? -/
def visB (l : List api_Cell) (c : api_Cell) : Bool := !decide (c.Prop_.Value.Kind = 0) && !(l.any fun x => hidesB x c)
def vis (l : List api_Cell) : List api_Prop := (l.filter (visB l)).map api_Cell.Prop_
/-! ### Searching -/
/-! ### Checks of properties -/
/-! ### Equal rows -/
end Go.Eng

/-
What is left of a sorted row, each key once.
-/
namespace Go.Eng
open Go
set_option linter.unusedVariables false
set_option linter.unusedSimpArgs false
section
variable {α : Type}
end
end Go.Eng

/-
The streams.
-/
namespace Go.Eng
open Go
set_option linter.unusedVariables false
set_option linter.unusedSimpArgs false

theorem wrap_I64 (n : Int) : I64 (IntKind.wrap .i64 n) := by
  unfold IntKind.wrap I64
  simp [IntKind.bits, IntKind.signed]
  split <;> omega

theorem Below_eq {x n : Int} (hx : I64 x) (hn : I64 n) : fleetmake_Below x n = some (if n < 1 then 0 else x % n) := by
  unfold I64 at hx hn
  unfold fleetmake_Below fleetmake_Below_x1
  by_cases h : n < 1
  · simp [h]
  · have h0 : (n == 0) = false := by simp; omega
    have e := Int.emod_eq_tmod (a := x) (b := n)
    have nn := Int.emod_nonneg x (show n ≠ 0 by omega)
    have lt := Int.emod_lt_of_pos x (show 0 < n by omega)
    simp only [h, decide_false, cond_false, h0, Bool.not_false, gd, cond_true, Option.bind_some, if_false]
    by_cases h3 : x.tmod n < 0
    · simp only [h3, decide_true, cond_true, Option.bind_some]
      split at e
      · omega
      · rw [wrap64 (by omega) (by omega)]
        congr 1
        omega
    · simp only [h3, decide_false, cond_false, Option.bind_some]
      congr 1
      split at e <;> omega
theorem Below_ok {x n : Int} (hx : I64 x) (hn : I64 n) : Ok (fleetmake_Below x n) (fun r => (1 ≤ n → 0 ≤ r ∧ r < n) ∧ (n < 1 → r = 0)) := by
  refine .of_eq (Below_eq hx hn) ⟨fun h => ?_, fun h => by simp [h]⟩
  rw [if_neg (by omega)]
  exact ⟨Int.emod_nonneg _ (by omega), Int.emod_lt_of_pos _ (by omega)⟩

/-- A stream whose numbers are of 64 bits, of which at most k were taken. -/
def StrOk (k : Nat) (s : fleetmake_Stream) : Prop := 0 ≤ s.at_ ∧ s.at_ ≤ k ∧ s.L.length ≤ 9223372036854775807 ∧ ∀ n ∈ s.L, I64 n
theorem StrOk.mono {k k' : Nat} {s : fleetmake_Stream} (h : StrOk k s) (hk : k ≤ k') : StrOk k' s := ⟨h.1, by have := h.2.1; omega, h.2.2⟩
/-- One number further. -/
abbrev nxt (s : fleetmake_Stream) : fleetmake_Stream := fleetmake_Stream.mk s.L (IntKind.wrap .i64 (s.at_ + 1))
theorem StrOk.nxt {k : Nat} {s : fleetmake_Stream} (h : StrOk k s) (hk : k < 1099511627776) : StrOk (k + 1) (nxt s) := by
  obtain ⟨h1, h2, h3, h4⟩ := h
  refine ⟨?_, ?_, h3, h4⟩
  · show 0 ≤ IntKind.wrap .i64 (s.at_ + 1)
    rw [wrap64 (by omega) (by omega)]; omega
  · show IntKind.wrap .i64 (s.at_ + 1) ≤ _
    rw [wrap64 (by omega) (by omega)]; omega

theorem Next_ok {k : Nat} {s : fleetmake_Stream} {n : Int} (h : StrOk k s) (hk : k < 1099511627776) (hn : I64 n) : Ok (fleetmake_Stream_Next s n) (fun r => (1 ≤ n → 0 ≤ r ∧ r < n) ∧ (n < 1 → r = 0)) := by
  obtain ⟨h1, h2, h3, h4⟩ := h
  unfold fleetmake_Stream_Next
  refine .cond (fun _ => ?_) (fun hl => ?_)
  · exact (Below_ok (wrap_I64 _) hn).bind fun r hr => .some hr
  · have hl' : s.L.length ≠ 0 := by simpa using hl
    have e1 : IntKind.wrap .i64 (s.at_ + 1) = s.at_ + 1 := wrap64 (by omega) (by omega)
    have e2 : IntKind.wrap .i64 (s.at_ + 1 - 1) = s.at_ := by rw [wrap64 (by omega) (by omega)]; omega
    refine .gd (by simpa using hl') ?_
    rw [e1, e2]
    refine (at_mem (tmod_nonneg h1) (tmod_lt' (by omega))).bind fun y hy => ?_
    refine (Below_ok (h4 y hy) (by unfold I64; omega)).bind fun r1 hr1 => ?_
    exact (Below_ok (wrap_I64 _) hn).bind fun r hr => .some hr

theorem Pick_ok {k : Nat} {s : fleetmake_Stream} {l : List Int} (h : StrOk k s) (hk : k < 1099511627776) (hl : 0 < l.length) (hl2 : l.length < 1000) : Ok (fleetmake_Stream_Pick_o1 s l) (fun r => r ∈ l) := by
  unfold fleetmake_Stream_Pick_o1
  refine (Next_ok h hk (by unfold I64; omega)).bind fun r hr => ?_
  have := hr.1 (by omega)
  exact (at_mem this.1 this.2).bind fun y hy => .some hy
theorem Range_ok {k : Nat} {s : fleetmake_Stream} {low high : Int} (h : StrOk k s) (hk : k < 1099511627776) (hlow : -4611686018427387903 < low ∧ low < 4611686018427387904) (hh : -4611686018427387904 < high ∧ high < 4611686018427387903) :
    Ok (fleetmake_Stream_Range s low high) (fun r => StrOk (k + 1) r.1 ∧ low ≤ r.2 ∧ (low ≤ high → r.2 ≤ high) ∧ (high < low → r.2 = low)) := by
  unfold fleetmake_Stream_Range
  refine .cond (fun hc => ?_) (fun hc => ?_)
  · have hc' : high < low := by simpa using hc
    exact .some ⟨h.mono (by omega), Int.le_refl _, by intro h; omega, fun _ => rfl⟩
  · have hc' : ¬ high < low := by simpa using hc
    have e1 : IntKind.wrap .i64 (high - low) = high - low := wrap64 (by omega) (by omega)
    have e2 : IntKind.wrap .i64 (high - low + 1) = high - low + 1 := wrap64 (by omega) (by omega)
    rw [e1, e2]
    refine (Next_ok h hk (by unfold I64; omega)).bind fun r hr => ?_
    have := hr.1 (by omega)
    refine .some ⟨h.nxt hk, ?_, fun _ => ?_, fun h => by omega⟩
    · show low ≤ IntKind.wrap .i64 (low + r)
      rw [wrap64 (by omega) (by omega)]; omega
    · show IntKind.wrap .i64 (low + r) ≤ high
      rw [wrap64 (by omega) (by omega)]; omega
end Go.Eng

/-
The law CellsInAnyOrder: cells that streams make; cells that are merged in any order.
-/
namespace Go.Eng
open Go
set_option linter.unusedVariables false
set_option linter.unusedSimpArgs false

/-! ### Cells that streams make -/
theorem nxt_mk {k : Nat} {s : fleetmake_Stream} (h : StrOk k s) (hk : k < 1099511627776) : StrOk (k + 1) (fleetmake_Stream.mk s.L (IntKind.wrap .i64 (s.at_ + 1))) := h.nxt hk
/-! ### In any order -/
end Go.Eng

/-
The law CompactStays: what nobody needs any more is left out; what is visible stays, also after a merge with what comes later.
-/
namespace Go.Eng
open Go
set_option linter.unusedVariables false
set_option linter.unusedSimpArgs false

/-! ### Compact -/
def oldB (n : Int) (c : api_Cell) : Bool := decide (c.Stamp.At < n)
def leftL (n : Int) (l : List api_Cell) : List api_Cell := l.filter fun c => !(l.any fun x => hidesB x c && oldB n x)
def outB (n : Int) (l : List api_Cell) (c : api_Cell) : Bool := !decide (c.Prop_.Value.Kind = 0) || (!oldB n c || l.any fun x => belB (nm x) (nm c))
def cpt (n : Int) (l : List api_Cell) : List api_Cell := (leftL n l).filter (outB n (leftL n l))
/-! ### What is left -/
theorem mem_left {n : Int} {l : List api_Cell} {c : api_Cell} : c ∈ leftL n l ↔ c ∈ l ∧ ∀ x ∈ l, hidesB x c = true → ¬ x.Stamp.At < n := by
  unfold leftL oldB
  rw [List.mem_filter]
  simp only [Bool.not_eq_true', List.any_eq_false, Bool.and_eq_true, decide_eq_true_eq, not_and]
theorem mem_cpt {n : Int} {l : List api_Cell} {c : api_Cell} : c ∈ cpt n l ↔ c ∈ leftL n l ∧ (c.Prop_.Value.Kind ≠ 0 ∨ ¬ c.Stamp.At < n ∨ ∃ x ∈ leftL n l, belB (nm x) (nm c) = true) := by
  unfold cpt outB oldB
  rw [List.mem_filter]
  simp only [Bool.or_eq_true, Bool.not_eq_true', decide_eq_false_iff_not, List.any_eq_true]
theorem cpt_sub {n : Int} {l : List api_Cell} {c : api_Cell} (h : c ∈ cpt n l) : c ∈ l := (mem_left.1 (mem_cpt.1 h).1).1
/-- what is not old stays -/
theorem cpt_new {n : Int} {l : List api_Cell} {c : api_Cell} (h : c ∈ l) (hn : ¬ c.Stamp.At < n) : c ∈ cpt n l := by
  refine mem_cpt.2 ⟨mem_left.2 ⟨h, fun x hx hh hx2 => ?_⟩, .inr (.inl hn)⟩
  have := stO_At (hides_le hh)
  omega
theorem cpt_srt {n : Int} {l : List api_Cell} (h : Srt l) : Srt (cpt n l) := List.Pairwise.filter _ (List.Pairwise.filter _ h)
theorem visB_iff {l : List api_Cell} {c : api_Cell} : visB l c = true ↔ c.Prop_.Value.Kind ≠ 0 ∧ ∀ x ∈ l, hidesB x c = false := by
  unfold visB
  simp only [Bool.and_eq_true, Bool.not_eq_true', decide_eq_false_iff_not, List.any_eq_false, Bool.not_eq_true]
theorem vis_same {l m : List api_Cell} (hl : Srt l) (hm : Srt m) (h : ∀ c, (c ∈ l ∧ visB l c = true) ↔ (c ∈ m ∧ visB m c = true)) : vis l = vis m := by
  unfold vis
  rw [srt_ext (l := l.filter (visB l)) (m := m.filter (visB m)) (List.Pairwise.filter _ hl) (List.Pairwise.filter _ hm) (fun c => by rw [List.mem_filter, List.mem_filter]; exact h c)]
theorem pick_newer {c d : api_Cell} (h : c.Stamp.At < d.Stamp.At) : pick c d = d ∧ 0 < stO d.Stamp c.Stamp := by
  have h1 : ¬ 0 ≤ stO c.Stamp d.Stamp := fun h2 => by have := stO_At h2; omega
  have h2 := stO_anti c.Stamp d.Stamp
  exact ⟨by unfold pick; rw [if_neg h1], by omega⟩
/-- a merge with what comes later -/
theorem later {n : Int} {a b x y : List api_Cell} (ha : Srt a) (hb : Srt b) (hn : ∀ d ∈ b, n ≤ d.Stamp.At) (hx : mrg a b = some x) (hy : mrg (cpt n a) b = some y) : vis x = vis y := by
  have sx := mrg_spec a b ha hb
  have sy := mrg_spec (cpt n a) b (cpt_srt ha) hb
  rw [hx] at sx
  rw [hy] at sy
  obtain ⟨x1, x2, _⟩ := sx
  obtain ⟨y1, y2, _⟩ := sy
  -- cells with the same name in both lists
  have same : ∀ k, lk a k = lk (cpt n a) k ∨ ∃ c, lk a k = some c ∧ lk (cpt n a) k = none ∧ c.Stamp.At < n := by
    intro k
    cases h1 : lk (cpt n a) k with
    | some c =>
      left
      obtain ⟨h2, h3⟩ := lk_some h1
      rw [← h3]
      exact lk_mem ha (cpt_sub h2)
    | none =>
      cases h2 : lk a k with
      | none => exact .inl rfl
      | some c =>
        right
        refine ⟨c, rfl, rfl, ?_⟩
        obtain ⟨h3, h4⟩ := lk_some h2
        apply Classical.byContradiction
        intro h5
        exact lk_none.1 h1 c (cpt_new h3 h5) h4
  -- what is in the second one is in the first one
  have sub : ∀ {c}, c ∈ y → c ∈ x := by
    intro c hc
    have h1 := lk_mem y1 hc
    rw [y2] at h1
    have h2 : lk x (nm c) = some c := by
      rw [x2]
      rcases same (nm c) with h | ⟨d, h3, h4, h5⟩
      · rw [h]; exact h1
      · rw [h4] at h1
        rw [h3]
        cases hb2 : lk b (nm c) with
        | none => rw [hb2] at h1; cases h1
        | some e =>
          rw [hb2] at h1
          have he := hn e (lk_some hb2).1
          show some (pick d e) = _
          rw [(pick_newer (show d.Stamp.At < e.Stamp.At by omega)).1]
          exact h1
    exact (lk_some h2).1
  -- what is in the first one alone is old, was left out, and its name is not in what comes later
  have alone : ∀ {c}, c ∈ x → c ∉ y → c ∈ a ∧ c ∉ cpt n a ∧ c.Stamp.At < n ∧ lk b (nm c) = none := by
    intro c hc hcy
    have h1 := lk_mem x1 hc
    rw [x2] at h1
    have h2 : lk y (nm c) ≠ some c := fun h => hcy (lk_some h).1
    rw [y2] at h2
    rcases same (nm c) with h | ⟨d, h3, h4, h5⟩
    · rw [h] at h1; exact absurd h1 h2
    · rw [h3] at h1
      rw [h4] at h2
      cases hb2 : lk b (nm c) with
      | none =>
        rw [hb2] at h1
        have e : d = c := Option.some.inj ((comb_none (some d)).symm.trans h1)
        subst e
        exact ⟨(lk_some h3).1, fun h => lk_none.1 h4 d h rfl, h5, rfl⟩
      | some e =>
        rw [hb2] at h1 h2
        have he := hn e (lk_some hb2).1
        have h1 : some (pick d e) = some c := h1
        rw [(pick_newer (show d.Stamp.At < e.Stamp.At by omega)).1] at h1
        exact absurd h1 h2
  refine vis_same x1 y1 fun c => ⟨fun ⟨h1, h2⟩ => ?_, fun ⟨h1, h2⟩ => ?_⟩
  · have h3 := visB_iff.1 h2
    have hcy : c ∈ y := by
      apply Classical.byContradiction
      intro hcy
      obtain ⟨k1, k2, k3, k4⟩ := alone h1 hcy
      -- an old cell hides it
      have : ¬ c ∈ leftL n a := fun h => k2 (mem_cpt.2 ⟨h, .inl h3.1⟩)
      have : ∃ w ∈ a, hidesB w c = true ∧ w.Stamp.At < n := by
        apply Classical.byContradiction
        intro hno
        exact this (mem_left.2 ⟨k1, fun w hw hh hlt => hno ⟨w, hw, hh, hlt⟩⟩)
      obtain ⟨w, w1, w2, w3⟩ := this
      have hw := lk_mem ha w1
      cases hb2 : lk b (nm w) with
      | none =>
        have : lk x (nm w) = some w := by rw [x2, hw, hb2]; rfl
        have := h3.2 w (lk_some this).1
        rw [w2] at this; cases this
      | some e =>
        have he := hn e (lk_some hb2).1
        have hen := (lk_some hb2).2
        have : lk x (nm w) = some e := by
          rw [x2, hw, hb2]
          show some (pick w e) = _
          rw [(pick_newer (show w.Stamp.At < e.Stamp.At by omega)).1]
        have h5 := h3.2 e (lk_some this).1
        rcases hides_nm (x := w) (x' := e) (y := c) hen w2 (pick_newer (show c.Stamp.At < e.Stamp.At by omega)).2 with h | ⟨_, h⟩
        · rw [h] at h5; cases h5
        · exact h3.1 h
    exact ⟨hcy, visB_iff.2 ⟨h3.1, fun z hz => h3.2 z (sub hz)⟩⟩
  · have h3 := visB_iff.1 h2
    refine ⟨sub h1, visB_iff.2 ⟨h3.1, fun z hz => ?_⟩⟩
    by_cases hzy : z ∈ y
    · exact h3.2 z hzy
    · obtain ⟨k1, k2, k3, k4⟩ := alone hz hzy
      cases hh : hidesB z c with
      | false => rfl
      | true =>
        exfalso
        have hle := stO_At (hides_le hh)
        have h4 := lk_mem y1 h1
        rw [y2] at h4
        -- it is of the old list
        have hcc : c ∈ cpt n a := by
          cases hb2 : lk b (nm c) with
          | none =>
            rw [hb2, comb_none] at h4
            exact (lk_some h4).1
          | some e =>
            rw [hb2] at h4
            have he := hn e (lk_some hb2).1
            have h7 : comb (lk (cpt n a) (nm c)) (some e) = some c := h4
            cases h8 : lk (cpt n a) (nm c) with
            | none =>
              rw [h8] at h7
              have : e = c := Option.some.inj h7
              subst this
              omega
            | some d =>
              rw [h8] at h7
              have h7 : some (pick d e) = some c := h7
              rcases pick_or d e with h9 | h9
              · rw [h9] at h7
                obtain rfl := Option.some.inj h7
                exact (lk_some h8).1
              · rw [h9] at h7
                obtain rfl := Option.some.inj h7
                omega
        exact (mem_left.1 (mem_cpt.1 hcc).1).2 z k1 hh k3
/-! ### Equal rows of properties -/
/-! ### Later cells -/
end Go.Eng

/-
What is left of a sorted row, each key once, with what is found again.
-/
namespace Go.Eng
open Go
set_option linter.unusedVariables false
set_option linter.unusedSimpArgs false
section
variable {α : Type}
end
end Go.Eng

/-
Twins: names of properties, sorted, each once.
-/
namespace Go.Eng
open Go
set_option linter.unusedVariables false
set_option linter.unusedSimpArgs false

section
variable {α : Type}
theorem Ok.and {f : Option α} {P Q : α → Prop} (h1 : Ok f P) (h2 : Ok f Q) : Ok f (fun r => P r ∧ Q r) := by
  obtain ⟨r, e1, p1⟩ := h1
  obtain ⟨s, e2, p2⟩ := h2
  rw [e1] at e2
  obtain rfl := Option.some.inj e2
  exact ⟨r, e1, p1, p2⟩
end

/-! ### Sorting of strings -/
/-! ### Names -/
end Go.Eng

/-
Twins: what is owed.
-/
namespace Go.Eng
open Go
set_option linter.unusedVariables false
set_option linter.unusedSimpArgs false

/-! ### Values of names -/
/-! ### What is visible -/
/-! ### What is gone -/
end Go.Eng

/-
Lists of properties that streams make: they are right.
-/
namespace Go.Eng
open Go
set_option linter.unusedVariables false
set_option linter.unusedSimpArgs false

/-! ### Sorting keeps what there is -/
section
variable {α : Type}
end
/-! ### Values and names -/
/-! ### The reference's check -/
/-! ### Right properties -/
end Go.Eng

/-
Checks of properties: the code's and the reference's say the same.
-/
namespace Go.Eng
open Go
set_option linter.unusedVariables false
set_option linter.unusedSimpArgs false

/-! ### Values -/
/-! ### Names above one another -/
/-! ### The checks -/
end Go.Eng

/-
Properties that streams make, nearly always right ones: names, values, words.
-/
namespace Go.Eng
open Go
set_option linter.unusedVariables false
set_option linter.unusedSimpArgs false

end Go.Eng

/-
Twins: cells and properties that streams make, nearly always right ones; checks of cells.
-/
namespace Go.Eng
open Go
set_option linter.unusedVariables false
set_option linter.unusedSimpArgs false

/-! ### What streams make -/
/-! ### Checks of cells -/
end Go.Eng

/-
The law CellsSeen: what is visible and what is left out are as specified for all cells.
-/
namespace Go.Eng
open Go
set_option linter.unusedVariables false
set_option linter.unusedSimpArgs false

end Go.Eng

/-
Maps whose keys are strings, as rows of entries in the order of their keys; sorting of what has an order.
-/
namespace Go.Eng
open Go
set_option linter.unusedVariables false
set_option linter.unusedSimpArgs false

section
variable {β : Type}
end

/-! ### Sorting of what has an order -/
section
variable {α : Type}
end
end Go.Eng

/-
The order of letters.
-/
namespace Go.Eng
open Go
set_option linter.unusedVariables false
set_option linter.unusedSimpArgs false
end Go.Eng

/-
Sorting of up to twelve: what two comparisons that agree make is the same.
-/
namespace Go.Eng
open Go
set_option linter.unusedVariables false
set_option linter.unusedSimpArgs false
section
variable {α : Type}
end
end Go.Eng

/-
Letters and posts that streams make, nearly always right ones; checks of them; their order.
-/
namespace Go.Eng
open Go
set_option linter.unusedVariables false
set_option linter.unusedSimpArgs false

/-! ### Checks of letters -/
/-! ### Checks of posts -/
/-! ### Orders of letters -/
end Go.Eng

/-
The law LettersChecked.
-/
namespace Go.Eng
open Go
set_option linter.unusedVariables false
set_option linter.unusedSimpArgs false

/-! ### What streams make -/
end Go.Eng

/-
The first of the least numbers of a row, as a loop finds it.
-/
namespace Go.Eng
open Go
set_option linter.unusedVariables false
set_option linter.unusedSimpArgs false
def amN (u : List Int) (n : Nat) : Nat := (List.range n).foldl (fun a i => if u.getD i 0 < u.getD a 0 then i else a) 0
def am (u : List Int) : Nat := amN u u.length
theorem amN_succ (u : List Int) (n : Nat) : amN u (n + 1) = if u.getD n 0 < u.getD (amN u n) 0 then n else amN u n := by
  unfold amN
  rw [List.range_succ, List.foldl_append]
  rfl
theorem amN_lt (u : List Int) : ∀ n, 0 < n → amN u n < n
  | 0, h => by omega
  | n + 1, _ => by
    rw [amN_succ]
    split
    · omega
    · by_cases h : n = 0
      · subst h; unfold amN; simp
      · have := amN_lt u n (by omega)
        omega
theorem am_loop {f : Int × Int → Option ((Int × Int) ⊕ Int)} {u : List Int} (hl : (u.length : Int) ≤ 9223372036854775806)
    (hs : ∀ (i a : Nat) (hi : i < u.length) (ha : a < u.length), f ((a : Int), (i : Int)) = some (.inl (((if u[i] < u[a] then i else a : Nat) : Int), IntKind.wrap .i64 ((i : Int) + 1))))
    (he : ∀ a : Int, f (a, (u.length : Int)) = some (.inr a)) (h0 : 0 < u.length) : loopO f (0, 0) = some ((am u : Nat) : Int) ∧ am u < u.length := by
  refine ⟨?_, amN_lt u _ h0⟩
  refine Ok.eq (loop_ok (fun s : Int × Int => ∃ i : Nat, s = (((amN u i : Nat) : Int), (i : Int)) ∧ i ≤ u.length) (fun s => ((u.length : Int) - s.2).toNat) ?_ ⟨0, rfl, by omega⟩)
  rintro _ ⟨i, rfl, i1⟩
  by_cases hi : i < u.length
  · have ha : amN u i < u.length := by
      by_cases h : i = 0
      · subst h; exact h0
      · have := amN_lt u i (by omega)
        omega
    rw [hs i (amN u i) hi ha, wrap64 (by omega) (by omega)]
    refine .some ⟨⟨i + 1, ?_, by omega⟩, by simp only; omega⟩
    rw [amN_succ]
    simp only [List.getD_eq_getElem?_getD, List.getElem?_eq_getElem hi, List.getElem?_eq_getElem ha, Option.getD_some]
    rw [Prod.mk.injEq]
    exact ⟨rfl, by omega⟩
  · have : i = u.length := by omega
    subst this
    rw [he]
    exact .some rfl
end Go.Eng

/-
A device that remembers letters: what it does, as the code and the reference have it; the law DevicesRemember.
-/
namespace Go.Eng
open Go
set_option linter.unusedVariables false
set_option linter.unusedSimpArgs false

/-! ### The one that ends first goes, where there are too many -/
def drp {α : Type} (m t : Int) (u : List Int) (l : List α) : List α ⊕ Unit := if m < (l.length : Int) then (if t < u.getD (am u) 0 then .inr () else .inl (l.eraseIdx (am u))) else .inl l
theorem getD_map {α : Type} {u : α → Int} {l : List α} {i : Nat} (h : i < l.length) : (l.map u).getD i 0 = u l[i] := by
  rw [List.getD_eq_getElem?_getD, List.getElem?_map, List.getElem?_eq_getElem h]
  rfl
theorem erase_two {α : Type} (l : List α) (i : Nat) : l.take i ++ l.drop (i + 1) = l.eraseIdx i := (List.eraseIdx_eq_take_drop_succ l i).symm
theorem drp_len {α : Type} {m t : Int} {u : List Int} {l x : List α} (hu : am u < l.length) (h : (l.length : Int) ≤ m + 1) (hx : drp m t u l = .inl x) : (x.length : Int) ≤ m ∧ x.length ≤ l.length := by
  unfold drp at hx
  split at hx
  · split at hx
    · cases hx
    · injection hx with hx
      subst hx
      rw [List.length_eraseIdx, if_pos hu]
      omega
  · injection hx with hx
    subst hx
    omega
theorem drp_keep {α : Type} {f : α → Int} {m t : Int} {l x : List α} (hx : drp m t (l.map f) l = .inl x) : (∀ z ∈ l, z ∈ x ∨ f z ≤ t) ∧ ∀ z ∈ x, z ∈ l := by
  unfold drp at hx
  split at hx
  · split at hx
    · cases hx
    · rename_i h2
      injection hx with hx
      subst hx
      rw [← erase_two]
      refine ⟨fun z hz => ?_, fun z hz => ?_⟩
      · obtain ⟨j, hj, rfl⟩ := List.mem_iff_getElem.1 hz
        by_cases hja : j = am (l.map f)
        · right
          rw [← hja, getD_map hj] at h2
          omega
        · left
          rw [List.mem_append]
          by_cases hlt : j < am (l.map f)
          · left
            exact List.mem_iff_getElem.2 ⟨j, by rw [List.length_take]; omega, by rw [List.getElem_take]⟩
          · right
            exact List.mem_iff_getElem.2 ⟨j - (am (l.map f) + 1), by rw [List.length_drop]; omega, by rw [List.getElem_drop]; congr 1; omega⟩
      · rcases List.mem_append.1 hz with h | h
        · exact List.mem_of_mem_take h
        · exact List.mem_of_mem_drop h
  · injection hx with hx
    subst hx
    exact ⟨fun z hz => .inl hz, fun z hz => hz⟩
theorem ownDrop (q : command_Doer) (t : Int) (l : List command_done) (hl : l.length ≤ 100000) (h0 : 0 < l.length) (h : (l.length : Int) ≤ q.most_ + 1) : loopO (command_Doer_Do_x2 q t) l = some (drp q.most_ t (l.map command_done.until_) l) ∧ am (l.map command_done.until_) < l.length := by
  obtain ⟨a1, a2⟩ := am_loop (f := command_Doer_Do_x3 l) (u := l.map command_done.until_) (by simp; omega) (fun i a hi ha => by
    rw [List.length_map] at hi ha
    have hc : (i : Int) < l.length := by omega
    unfold command_Doer_Do_x3 command_Doer_Do_x4
    simp only [hc, decide_true, cond_true, at_nat hi, at_nat ha, Option.bind_some, List.getElem_map]
    by_cases hlt : l[i].until_ < l[a].until_ <;> simp [hlt]) (fun a => by unfold command_Doer_Do_x3; simp) (by simpa using h0)
  rw [List.length_map] at a2
  refine ⟨?_, a2⟩
  have gm := getD_map (u := command_done.until_) a2
  unfold drp
  by_cases hm : q.most_ < (l.length : Int)
  · rw [if_pos hm, gm]
    by_cases ht : t < l[am (l.map command_done.until_)].until_
    · rw [if_pos ht]
      refine loop_out ?_
      unfold command_Doer_Do_x2
      simp only [hm, decide_true, cond_true, a1, at_nat a2, Option.bind_some, ht]
    · rw [if_neg ht]
      have w1 : IntKind.wrap .i64 (((am (l.map command_done.until_) : Nat) : Int) + 1) = ((am (l.map command_done.until_) + 1 : Nat) : Int) := by rw [wrap64 (by omega) (by omega)]; omega
      have hd : slices_Delete_command_done_command_done_o0 l ((am (l.map command_done.until_) : Nat) : Int) ((am (l.map command_done.until_) + 1 : Nat) : Int) = some (l.eraseIdx (am (l.map command_done.until_))) := by
        unfold slices_Delete_command_done_command_done_o0
        have e1 : (decide (0 ≤ ((am (l.map command_done.until_) : Nat) : Int)) && decide (((am (l.map command_done.until_) : Nat) : Int) ≤ ((am (l.map command_done.until_) + 1 : Nat) : Int)) && decide (((am (l.map command_done.until_) + 1 : Nat) : Int) ≤ (l.length : Int)) && decide ((l.length : Int) ≤ (l.length : Int))) = true := by
          simp only [Bool.and_eq_true, decide_eq_true_eq]; omega
        have e2 : ¬ ((am (l.map command_done.until_) : Nat) : Int) = ((am (l.map command_done.until_) + 1 : Nat) : Int) := by omega
        rw [e1]
        simp only [gd, cond_true, e2, decide_false, cond_false, Int.toNat_natCast, erase_two]
      have hle : (l.eraseIdx (am (l.map command_done.until_))).length = l.length - 1 := by rw [List.length_eraseIdx, if_pos a2]
      rw [loop_in (s' := l.eraseIdx (am (l.map command_done.until_))) (by
        unfold command_Doer_Do_x2
        simp only [hm, decide_true, cond_true, a1, at_nat a2, Option.bind_some, ht, decide_false, cond_false, w1, hd])]
      refine loop_out ?_
      have : ¬ q.most_ < ((l.eraseIdx (am (l.map command_done.until_))).length : Int) := by omega
      unfold command_Doer_Do_x2
      simp only [this, decide_false, cond_false]
  · rw [if_neg hm]
    refine loop_out ?_
    unfold command_Doer_Do_x2
    simp only [hm, decide_false, cond_false]
/-! ### Whether a letter is to be done -/
theorem ownKnown {l : List command_done} (hl : (l.length : Int) ≤ 9223372036854775807) (x : api_Letter) : slices_ContainsFunc_command_done_command_done_f1_command_Doer_Do_1 l x = some (l.any fun y => decide (y.id_ = x.Id)) := by
  unfold slices_ContainsFunc_command_done_command_done_f1_command_Doer_Do_1 slices_IndexFunc_command_done_command_done_f1_command_Doer_Do_1
  obtain ⟨z, h1, h2⟩ := find_loop (l := l) (f := slices_IndexFunc_command_done_command_done_f1_command_Doer_Do_1_x1 l x) (fun y => decide (y.id_ = x.Id)) hl (fun i hi => by
    unfold slices_IndexFunc_command_done_command_done_f1_command_Doer_Do_1_x1 command_Doer_Do_1
    have hc : (i : Int) < l.length := by omega
    simp only [hc, decide_true, cond_true, at_nat hi, Option.bind_some]
    cases decide (l[i].id_ = x.Id) <;> rfl) (by unfold slices_IndexFunc_command_done_command_done_f1_command_Doer_Do_1_x1; simp)
  rw [h1, ← h2]
  cases z <;> rfl
def toD (x : api_Letter) : command_done := command_done.mk x.Id x.Until
/-- what a device does -/
def doS (q : command_Doer) (e : Int) (x : api_Letter) (t : Int) : List command_done × Int × Bool × Int :=
  if e ≠ 0 then (q.l_, q.time_, false, e) else
  if !(decide (0 ≤ t) && decide (t ≤ 345686399999)) then (q.l_, q.time_, false, 1) else
  if t < q.time_ then (q.l_, q.time_, false, 7) else
  if decide (x.Until ≤ t) || (q.l_.any fun y => decide (y.id_ = x.Id)) then (q.l_, t, false, 0) else
  match drp q.most_ t ((q.l_ ++ [toD x]).map command_done.until_) (q.l_ ++ [toD x]) with
  | .inl l => (l, t, true, 0)
  | .inr _ => (q.l_, q.time_, false, 12)
theorem Do_own {q : command_Doer} {x : api_Letter} {e : Int} (he : command_CheckLetter x = some e) (hl : q.l_.length ≤ 1000) (hm : (q.l_.length : Int) ≤ q.most_) (t : Int) : command_Doer_Do q x t = some (doS q e x t) := by
  unfold command_Doer_Do doS
  rw [he, Moment_eq]
  simp only [Option.bind_some]
  by_cases h0 : e = 0
  · simp only [h0, decide_true, Bool.not_true, cond_false, ne_eq, not_true, if_false]
    cases hM : (decide (0 ≤ t) && decide (t ≤ 345686399999)) with
    | false => rfl
    | true =>
      simp only [Bool.not_true, cond_false, Bool.false_eq_true, if_false]
      by_cases ht : t < q.time_
      · simp only [ht, decide_true, cond_true, if_true]
      · simp only [ht, decide_false, cond_false, if_false]
        have hx1 : command_Doer_Do_x1 q x t = some (decide (x.Until ≤ t) || (q.l_.any fun y => decide (y.id_ = x.Id))) := by
          unfold command_Doer_Do_x1
          rw [ownKnown (by omega)]
          cases decide (x.Until ≤ t) <;> rfl
        rw [hx1]
        simp only [Option.bind_some]
        cases (decide (x.Until ≤ t) || (q.l_.any fun y => decide (y.id_ = x.Id))) with
        | true => rfl
        | false =>
          simp only [cond_false, Bool.false_eq_true, if_false, slices_Clone_command_done_command_done, gd]
          rw [lim_ok (show ([] : List command_done).length + q.l_.length ≤ 100000 by simp; omega)]
          simp only [cond_true, Option.bind_some]
          rw [lim_ok (show q.l_.length + ([command_done.mk x.Id x.Until] : List command_done).length ≤ 100000 by simp; omega)]
          have hd := (ownDrop q t (q.l_ ++ [toD x]) (by simp; omega) (by simp) (by simp; omega)).1
          have hd' : loopO (command_Doer_Do_x2 q t) (q.l_ ++ [command_done.mk x.Id x.Until]) = _ := hd
          rw [hd']
          simp only [cond_true, Option.bind_some]
          cases drp q.most_ t ((q.l_ ++ [toD x]).map command_done.until_) (q.l_ ++ [toD x]) <;> rfl
  · simp [h0]
/-! ### The law -/
theorem NewDoer_eq {m : Int} (h : 1 ≤ m ∧ m ≤ 1000) : command_NewDoer m = some (.inr ()) := by
  unfold command_NewDoer
  have e : (decide (m < 1) || decide (1000 < m)) = false := by simp; omega
  rw [Out_eq, e]
  rfl
end Go.Eng

/-
The law DoneOnce: a device does no letter twice, however often and late it comes.
-/
namespace Go.Eng
open Go
set_option linter.unusedVariables false
set_option linter.unusedSimpArgs false

def T5 : List api_Letter := [api_Letter.mk ([108, 97] : List UInt8) ([] : List UInt8) ([] : List UInt8) 0 0 20, api_Letter.mk ([108, 98] : List UInt8) ([] : List UInt8) ([] : List UInt8) 0 0 50, api_Letter.mk ([108, 99] : List UInt8) ([] : List UInt8) ([] : List UInt8) 0 0 50, api_Letter.mk ([108, 100] : List UInt8) ([] : List UInt8) ([] : List UInt8) 0 0 100, api_Letter.mk ([108, 101] : List UInt8) ([] : List UInt8) ([] : List UInt8) 0 0 1000]
theorem t5_ok : (T5.all fun y => decide (command_CheckLetter y = some 0)) = true := by kernel_rfl
theorem t5_one : (T5.all fun x => T5.all fun y => !decide (x.Id = y.Id) || decide (x.Until = y.Until)) = true := by decide
theorem containsW_eq (l : List (List UInt8)) (v : List UInt8) (hl : (l.length : Int) ≤ 9223372036854775807) : slices_Contains_string_string l v = some (decide (v ∈ l)) := by
  unfold slices_Contains_string_string slices_Index_string_string
  obtain ⟨x, h1, h2⟩ := find_loop (l := l) (f := slices_Index_string_string_x1 l v) (fun x => decide (v = x)) hl (fun i h => by
    unfold slices_Index_string_string_x1
    have hc : (i : Int) < l.length := by omega
    simp only [hc, decide_true, cond_true, at_nat h, Option.bind_some]
    cases decide (v = l[i]) <;> rfl) (by unfold slices_Index_string_string_x1; simp)
  have h3 : (l.any fun x => decide (v = x)) = decide (v ∈ l) := by
    rw [Bool.eq_iff_iff, List.any_eq_true, decide_eq_true_iff]
    constructor
    · rintro ⟨x, hx, hv⟩
      have := of_decide_eq_true hv
      subst this; exact hx
    · intro h; exact ⟨v, h, by simp⟩
  rw [h1, ← h3, ← h2]
  cases x <;> rfl
/-- what was done is remembered, or has ended -/
structure DI (l : List command_done) (done : List (List UInt8)) (t : Int) : Prop where
  of : ∀ z ∈ l, ∃ y ∈ T5, z = toD y
  rem : ∀ k ∈ done, ∃ y ∈ T5, y.Id = k ∧ (toD y ∈ l ∨ y.Until ≤ t)
theorem DI.later {l : List command_done} {done : List (List UInt8)} {t u : Int} (h : DI l done t) (hu : t ≤ u) : DI l done u :=
  ⟨h.of, fun k hk => by
    obtain ⟨y, h1, h2, h3⟩ := h.rem k hk
    exact ⟨y, h1, h2, h3.imp id fun h => by omega⟩⟩
theorem once_step {n : Int} {k j : Nat} (hk : k + 1000 < 1099511627776) (hn : n ≤ 20) (hj : j ≤ 20) {s : fleetmake_Stream} (hs : StrOk (k + 2 * j) s) {most time at_ : Int} {l : List command_done} {done : List (List UInt8)} (hm : 1 ≤ most ∧ most ≤ 4) (hl : (l.length : Int) ≤ most) (hd : done.length ≤ j) (ha : 0 ≤ at_ ∧ at_ ≤ 10 * j) (htm : time ≤ at_) (hI : DI l done at_) :
    Ok (fleetkeep2_DoneOnce_x3 n (s, command_Doer.mk most l time, done, at_, (j : Int))) (fun x => match x with
      | .inl q => ∃ s2 l2 tm done2 at2, q = (s2, command_Doer.mk most l2 tm, done2, at2, ((j + 1 : Nat) : Int)) ∧ (j : Int) < n ∧ StrOk (k + 2 * (j + 1)) s2 ∧ (l2.length : Int) ≤ most ∧ done2.length ≤ j + 1 ∧ 0 ≤ at2 ∧ at2 ≤ 10 * (j + 1 : Nat) ∧ tm ≤ at2 ∧ DI l2 done2 at2
      | .inr r => r = .inl ()) := by
  unfold fleetkeep2_DoneOnce_x3
  refine .cond (fun hc => ?_) (fun _ => .some rfl)
  have hc : (j : Int) < n := by simpa using hc
  have a1 := nxt_mk hs (by omega)
  have a2 := nxt_mk a1 (by omega)
  have w1 : IntKind.wrap .i64 ((j : Int) + 1) = ((j + 1 : Nat) : Int) := by rw [wrap64 (by omega) (by omega)]; omega
  have hx4 : Ok (fleetkeep2_DoneOnce_x4 s (command_Doer.mk most l time) done at_) (fun x => match x with
      | .inl (d, done2, at2) => ∃ l2 tm, d = command_Doer.mk most l2 tm ∧ (l2.length : Int) ≤ most ∧ done2.length ≤ j + 1 ∧ 0 ≤ at2 ∧ at2 ≤ 10 * (j + 1 : Nat) ∧ tm ≤ at2 ∧ DI l2 done2 at2
      | .inr _ => False) := by
    unfold fleetkeep2_DoneOnce_x4
    refine (Pick_ok hs (by omega) (by simp) (by simp)).bind fun p hp => ?_
    simp only [List.mem_cons, List.not_mem_nil, or_false] at hp
    have w : IntKind.wrap .i64 (at_ + p) = at_ + p := wrap64 (by omega) (by omega)
    refine (Next_ok a1 (by omega) (by unfold I64; omega)).bind fun q hq => ?_
    have hq := hq.1 (by omega)
    refine (at_mem (l := T5) hq.1 (by simpa [T5] using hq.2)).bind fun y hy => ?_
    have he : command_CheckLetter y = some 0 := of_decide_eq_true (List.all_eq_true.1 t5_ok y hy)
    rw [w, Do_own he (show l.length ≤ 1000 by omega) hl]
    simp only [Option.bind_some]
    have hI2 := hI.later (show at_ ≤ at_ + p by omega)
    have hM : (decide (0 ≤ at_ + p) && decide (at_ + p ≤ 345686399999)) = true := by simp; omega
    have ht : ¬ at_ + p < time := by omega
    unfold doS
    simp only [hM, ht, ne_eq, not_true, if_false, Bool.not_true, Bool.false_eq_true]
    cases hb : (decide (y.Until ≤ at_ + p) || (l.any fun z => decide (z.id_ = y.Id))) with
    | true =>
      simp only [if_true]
      have h5 : fleetkeep2_DoneOnce_x5 false 0 = some false := by kernel_rfl
      have h6 : fleetkeep2_DoneOnce_x6 done at_ p y false = some false := rfl
      simp only [h5, h6, Option.bind_some, cond_false]
      exact .some ⟨l, at_ + p, rfl, hl, by omega, by omega, by omega, by omega, hI2⟩
    | false =>
      simp only [Bool.false_eq_true, if_false]
      have hlt := (ownDrop (command_Doer.mk most l time) (at_ + p) (l ++ [toD y]) (by simp; omega) (by simp) (by simp; omega)).2
      cases hdr : drp most (at_ + p) ((l ++ [toD y]).map command_done.until_) (l ++ [toD y]) with
      | inr _ =>
        have h5 : fleetkeep2_DoneOnce_x5 false 12 = some false := by kernel_rfl
        have h6 : fleetkeep2_DoneOnce_x6 done at_ p y false = some false := rfl
        simp only [h5, h6, Option.bind_some, cond_false]
        exact .some ⟨l, time, rfl, hl, by omega, by omega, by omega, by omega, hI2⟩
      | inl l2 =>
        have hlen := drp_len hlt (by simp; omega) hdr
        obtain ⟨k1, k2⟩ := drp_keep hdr
        rw [Bool.or_eq_false_iff, decide_eq_false_iff_not, List.any_eq_false] at hb
        have hno : y.Id ∉ done := by
          intro hin
          obtain ⟨y', h1, h2, h3⟩ := hI2.rem y.Id hin
          rcases h3 with h3 | h3
          · exact absurd (show decide ((toD y').id_ = y.Id) = true by rw [decide_eq_true_iff]; exact h2) (hb.2 _ h3)
          · have := List.all_eq_true.1 (List.all_eq_true.1 t5_one y' h1) y hy
            simp only [h2, decide_true, Bool.not_true, Bool.false_or, decide_eq_true_eq] at this
            omega
        have h5 : fleetkeep2_DoneOnce_x5 true 0 = some false := by kernel_rfl
        have h6 : fleetkeep2_DoneOnce_x6 done at_ p y true = some false := by
          unfold fleetkeep2_DoneOnce_x6
          rw [containsW_eq _ _ (by omega), w]
          simp only [cond_true, Option.bind_some, hno, decide_false, cond_false, hb.1]
        simp only [h5, h6, Option.bind_some, cond_false, cond_true, gd]
        rw [lim_ok (by simp; omega)]
        simp only [cond_true]
        have nw : ∀ z ∈ l ++ [toD y], ∃ y' ∈ T5, z = toD y' := by
          intro z hz
          rcases List.mem_append.1 hz with h | h
          · exact hI2.of z h
          · rw [List.mem_singleton] at h
            exact ⟨y, hy, h⟩
        refine .some ⟨l2, at_ + p, rfl, hlen.1, by simp; omega, by omega, by omega, by omega, fun z hz => nw z (k2 z hz), fun kk hk => ?_⟩
        rcases List.mem_append.1 hk with h | h
        · obtain ⟨y', h1, h2, h3⟩ := hI2.rem kk h
          refine ⟨y', h1, h2, ?_⟩
          rcases h3 with h3 | h3
          · exact k1 _ (List.mem_append_left _ h3)
          · exact .inr h3
        · rw [List.mem_singleton] at h
          exact ⟨y, hy, h.symm, k1 _ (List.mem_append_right _ (List.mem_singleton.2 rfl))⟩
  refine hx4.bind fun x hx => ?_
  cases x with
  | inr _ => exact hx.elim
  | inl q =>
    obtain ⟨d, done2, at2⟩ := q
    obtain ⟨l2, tm, rfl, g1, g2, g3, g4, g5, g6⟩ := hx
    simp only [w1]
    exact .some ⟨_, l2, tm, done2, at2, rfl, hc, StrOk.mono a2 (by omega), g1, g2, g3, g4, g5, g6⟩
theorem DoneOnce_true (L : List Int) (hL : L.length ≤ 9223372036854775807) (hI : ∀ n ∈ L, -9223372036854775808 ≤ n ∧ n ≤ 9223372036854775807) : fleetkeep2_DoneOnce L = some true := by
  apply Ok.eq
  unfold fleetkeep2_DoneOnce
  have h0 : StrOk 0 (fleetmake_Stream.mk L 0) := ⟨Int.le_refl _, by simp, hL, hI⟩
  refine (Range_ok h0 (by omega) (by omega) (by omega)).bind fun ⟨s0, m⟩ ⟨m1, m2, m3, _⟩ => ?_
  simp only at m1 m2 m3
  have m3 := m3 (by omega)
  dsimp only
  rw [NewDoer_eq (show 1 ≤ m ∧ m ≤ 1000 by omega)]
  have hx2 : fleetkeep2_DoneOnce_x2 = some false := by kernel_rfl
  simp only [hx2, Option.bind_some, cond_false]
  refine (Range_ok m1 (by omega) (by omega) (by omega)).bind fun ⟨s1, n⟩ ⟨r1, r2, r3, _⟩ => ?_
  simp only at r1 r2 r3
  have r3 := r3 (by omega)
  refine Ok.bind (P := fun r => r = .inl ()) (loop_ok (fun q : fleetmake_Stream × command_Doer × List (List UInt8) × Int × Int => ∃ (s : fleetmake_Stream) (l : List command_done) (tm at_ : Int) (done : List (List UInt8)) (j : Nat), q = (s, command_Doer.mk m l tm, done, at_, (j : Int)) ∧ j ≤ 20 ∧ StrOk (10 + 2 * j) s ∧ (l.length : Int) ≤ m ∧ done.length ≤ j ∧ 0 ≤ at_ ∧ at_ ≤ 10 * j ∧ tm ≤ at_ ∧ DI l done at_) (fun q => ((20 : Int) - q.2.2.2.2).toNat) ?_
    ⟨s1, [], 0, 0, [], 0, rfl, by omega, StrOk.mono r1 (by omega), by simp; omega, by simp, by omega, by omega, by omega, ⟨fun z hz => (nomatch hz), fun z hz => (nomatch hz)⟩⟩) fun r hr => ?_
  · rintro _ ⟨s, l, tm, at_, done, j, rfl, j1, j2, j3, j4, j5, j6, j7, j8⟩
    refine (once_step (n := n) (k := 10) (by omega) r3 j1 j2 (show 1 ≤ m ∧ m ≤ 4 by omega) j3 j4 ⟨j5, j6⟩ j7 j8).mono fun x hx => ?_
    cases x with
    | inr r => exact hx
    | inl q =>
      obtain ⟨s2, l2, tm2, done2, at2, rfl, g1, g2, g3, g4, g5, g6, g7, g8⟩ := hx
      exact ⟨⟨s2, l2, tm2, at2, done2, j + 1, rfl, by omega, g2, g3, g4, g5, g6, g7, g8⟩, by simp only; omega⟩
  · rw [hr]
    simp only [ready_eq, Option.bind_some]
    exact .some rfl
end Go.Eng

