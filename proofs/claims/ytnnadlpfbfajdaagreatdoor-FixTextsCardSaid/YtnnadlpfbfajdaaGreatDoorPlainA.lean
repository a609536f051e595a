/-
What the plain functions of the law FixTexts answer, part 1.
-/
import Derived.Test.YtnnadlpfbfajdaaGreatDoorGenF
import Derived.KernelRfl
import Derived.Lib.IndexLaws
import Derived.Lib.ItoaLen
import Derived.Lib.Join
import Derived.Test.YtnnadlpfbfajdaaGreatDoorEngV
/-
Plain functions: what they answer, in total. Loops by an invariant and a measure.
-/
namespace Go.Eng
open Go
set_option linter.unusedVariables false
set_option linter.unusedSimpArgs false

def Ok {α : Type} (x : Option α) (P : α → Prop) : Prop := ∃ r, x = some r ∧ P r
section
variable {α β σ ρ : Type} {P Q : α → Prop} {R : β → Prop}
theorem Ok.some {r : α} (h : P r) : Ok (some r) P := ⟨r, rfl, h⟩
theorem Ok.mono {x : Option α} (h : Ok x P) (hq : ∀ r, P r → Q r) : Ok x Q := let ⟨r, h1, h2⟩ := h; ⟨r, h1, hq r h2⟩
theorem Ok.bind {x : Option α} {f : α → Option β} (h : Ok x P) (hf : ∀ r, P r → Ok (f r) R) : Ok (x.bind f) R := by
  obtain ⟨r, rfl, hr⟩ := h
  exact hf r hr
theorem Ok.cond {b : Bool} {x y : Option α} (ht : b = true → Ok x P) (hf : b = false → Ok y P) : Ok (cond b x y) P := by
  cases b
  · exact hf rfl
  · exact ht rfl
theorem Ok.gd {b : Bool} {x : Option α} (hb : b = true) (h : Ok x P) : Ok (gd b x) P := by
  subst hb; exact h
theorem Ok.eq {x : Option α} {r : α} (h : Ok x fun y => y = r) : x = Option.some r := by
  obtain ⟨y, h1, h2⟩ := h
  rw [h1, h2]
theorem Ok.of_eq {x : Option α} {r : α} (h : x = Option.some r) (hp : P r) : Ok x P := ⟨r, h, hp⟩

theorem loop_ok {f : σ → Option (σ ⊕ ρ)} {Q : ρ → Prop} (I : σ → Prop) (μ : σ → Nat)
    (step : ∀ s, I s → Ok (f s) fun x => match x with | .inl s' => I s' ∧ μ s' < μ s | .inr r => Q r) {s : σ} (h : I s) : Ok (loopO f s) Q := by
  generalize hn : μ s = n
  induction n using Nat.strongRecOn generalizing s with
  | _ n ih =>
    obtain ⟨x, h1, h2⟩ := step s h
    cases x with
    | inl s' =>
      obtain ⟨h3, h4⟩ := h2
      obtain ⟨r, h5, h6⟩ := ih (μ s') (by omega) h3 rfl
      refine ⟨r, ?_, h6⟩
      rw [loopO_eq, h1]
      exact h5
    | inr r =>
      refine ⟨r, ?_, h2⟩
      rw [loopO_eq, h1]
      rfl

theorem at_lt {l : List α} {n : Int} (h : 0 ≤ n) (h2 : n < l.length) : at? l n = Option.some (l[n.toNat]'(by omega)) := by
  unfold at?
  rw [if_pos h, List.getElem?_eq_getElem]
theorem at_nat {l : List α} {n : Nat} (h : n < l.length) : at? l (n : Int) = Option.some l[n] := by
  rw [at_lt (by omega) (by omega)]
  simp
theorem at_ok {l : List α} {n : Int} (h : 0 ≤ n) (h2 : n < l.length) : Ok (at? l n) (fun y => l[n.toNat]? = Option.some y) := by
  refine ⟨_, at_lt h h2, ?_⟩
  rw [List.getElem?_eq_getElem]
theorem at_mem {l : List α} {n : Int} (h : 0 ≤ n) (h2 : n < l.length) : Ok (at? l n) (fun y => y ∈ l) := by
  refine (at_ok h h2).mono fun y hy => List.mem_of_getElem? hy
end

/-! ### Integers of 64 bits -/
def I64 (n : Int) : Prop := -9223372036854775808 ≤ n ∧ n ≤ 9223372036854775807
theorem wrap64 {n : Int} (h : -9223372036854775808 ≤ n) (h2 : n ≤ 9223372036854775807) : IntKind.wrap .i64 n = n := by
  unfold IntKind.wrap
  simp [IntKind.min, IntKind.max, IntKind.bits, IntKind.signed]
  omega
theorem tmod_nonneg {a b : Int} (h : 0 ≤ a) : 0 ≤ a.tmod b := Int.tmod_nonneg b h
theorem tmod_lt' {a b : Int} (h : 0 < b) : a.tmod b < b := Int.tmod_lt_of_pos a h
theorem lim_eq : LIM = 137438953472 := by decide
theorem ble_lim {n : Nat} (h : n ≤ 137438953472) : Nat.ble n LIM = true := by rw [Nat.ble_eq, lim_eq]; exact h
end Go.Eng

/-
Loops over the elements of a list; keys.
-/
namespace Go.Eng
open Go
set_option linter.unusedVariables false
set_option linter.unusedSimpArgs false

/-- The first answer of the elements from number k on. -/
def scan {α ρ : Type} (g : Nat → α → Option ρ) : Nat → List α → Option ρ
  | _, [] => none
  | k, x :: xs => match g k x with
    | some r => some r
    | none => scan g (k + 1) xs

theorem drop_get {α : Type} {l : List α} {i : Nat} (h : i < l.length) : l.drop i = l[i] :: l.drop (i + 1) := List.drop_eq_getElem_cons h

/-- A loop over a list that ends at the first element with an answer. -/
theorem range_loop {α ρ : Type} {l : List α} {f : Int → Option (Int ⊕ ρ)} (g : Nat → α → Option ρ) (done : ρ) (hl : (l.length : Int) ≤ 9223372036854775807)
    (hf : ∀ (i : Nat) (h : i < l.length), f i = some (match g i l[i] with | none => .inl (IntKind.wrap .i64 (i + 1)) | some r => .inr r)) (hd : f l.length = some (.inr done)) :
    loopO f 0 = some ((scan g 0 l).getD done) := by
  have key : ∀ (n i : Nat), l.length - i = n → i ≤ l.length → loopO f i = some ((scan g i (l.drop i)).getD done) := by
    intro n
    induction n with
    | zero =>
      intro i h1 h2
      have : i = l.length := by omega
      subst this
      rw [loopO_eq, hd, List.drop_length]
      rfl
    | succ n ih =>
      intro i h1 h2
      have hi : i < l.length := by omega
      rw [loopO_eq, hf i hi, drop_get hi]
      simp only [scan]
      cases hg : g i l[i] with
      | some r => rfl
      | none =>
        simp only [Option.bind_some]
        rw [wrap64 (by omega) (by omega)]
        exact ih (i + 1) (by omega) (by omega)
  exact key l.length 0 (by omega) (by omega)

theorem scan_none {α ρ : Type} {g : Nat → α → Option ρ} : ∀ {l : List α} {k : Nat}, scan g k l = none ↔ ∀ (i : Nat) (x : α), l[i]? = some x → g (k + i) x = none
  | [], k => by simp [scan]
  | y :: l, k => by
    simp only [scan]
    cases hg : g k y with
    | some r =>
      simp only [reduceCtorEq, false_iff]
      intro h
      have := h 0 y rfl
      rw [Nat.add_zero, hg] at this
      cases this
    | none =>
      simp only
      rw [scan_none]
      constructor
      · intro h i x hi
        cases i with
        | zero => simp at hi; subst hi; exact hg
        | succ i => rw [show k + (i + 1) = k + 1 + i by omega]; exact h i x (by simpa using hi)
      · intro h i x hi
        rw [show k + 1 + i = k + (i + 1) by omega]
        exact h (i + 1) x (by simpa using hi)
/-! ### Keys -/
def keyC (c : UInt8) : Bool := (97 ≤ c.toNat && c.toNat ≤ 122) || (48 ≤ c.toNat && c.toNat ≤ 57) || c.toNat == 45 || c.toNat == 95
def keyB (s : List UInt8) : Bool := match s with
  | [] => false
  | c :: l => decide (l.length < 40) && (97 ≤ c.toNat && c.toNat ≤ 122) && (c :: l).all keyC

theorem u8_lt (c : UInt8) : c.toNat < 256 := c.toNat_lt

theorem u8_all {p : UInt8 → Bool} (h : ((List.range 256).all fun n => p (UInt8.ofNat n)) = true) (c : UInt8) : p c = true := by
  have := List.all_eq_true.1 h c.toNat (List.mem_range.2 (u8_lt c))
  simpa using this
theorem Key_x3 (c : UInt8) : base_Key_x3 c = some (!keyC c) := by
  have := u8_all (p := fun c => decide (base_Key_x3 c = some (!keyC c))) (by decide +kernel) c
  simpa using this
theorem Key_x2 (s : List UInt8) (hs : (s.length : Int) ≤ 9223372036854775807) : loopO (base_Key_x2 s) 0 = some (cond (s.all keyC) (.inl ()) (.inr ())) := by
  rw [range_loop (l := s) (fun _ c => cond (keyC c) none (some (.inr ()))) (.inl ()) hs]
  · congr 1
    generalize 0 = k
    induction s generalizing k with
    | nil => rfl
    | cons c s ih =>
      simp only [scan, List.all_cons]
      cases keyC c with
      | true => simp only [cond_true, Bool.true_and]; exact ih (by simp at hs; omega) (k + 1)
      | false => rfl
  · intro i hi
    unfold base_Key_x2
    rw [at_nat hi]
    have : ((i : Int) < s.length) := by omega
    simp only [this, decide_true, cond_true, Option.bind_some, Key_x3]
    cases keyC s[i] <;> rfl
  · unfold base_Key_x2
    simp
theorem Key_eq (s : List UInt8) (hs : (s.length : Int) ≤ 9223372036854775807) : base_Key s = some (keyB s) := by
  unfold base_Key base_Key_x1
  cases s with
  | nil => simp [keyB]
  | cons c l =>
    rw [Key_x2 _ hs]
    have h0 : at? (c :: l) 0 = some c := rfl
    simp only [reduceCtorEq, decide_false, cond_false, h0, Option.bind_some]
    unfold keyB
    have h40 : ((40 : Int) < ((c :: l).length : Int)) ↔ ¬ l.length < 40 := by simp; omega
    by_cases h1 : l.length < 40
    · have h1' : ¬ ((40 : Int) < ((c :: l).length : Int)) := by rw [h40]; simpa using h1
      simp only [h1', decide_false, cond_false, h1, decide_true, Bool.true_and]
      by_cases h2 : (c.toNat : Int) < 97
      · have : ¬ 97 ≤ c.toNat := by omega
        simp [h2, this]
      · by_cases h3 : (122 : Int) < c.toNat
        · have : ¬ c.toNat ≤ 122 := by omega
          simp [h2, h3, this]
        · have g1 : 97 ≤ c.toNat := by omega
          have g2 : c.toNat ≤ 122 := by omega
          simp only [h2, decide_false, cond_false, h3, Option.bind_some, g1, g2, decide_true, Bool.and_self, Bool.true_and]
          cases (c :: l).all keyC <;> rfl
    · have h1' : ((40 : Int) < ((c :: l).length : Int)) := by rw [h40]; exact h1
      simp only [h1', h1, decide_true, decide_false, cond_true, Option.bind_some, Bool.false_and]
end Go.Eng

/-
Small checks; the order of measurements.
-/
namespace Go.Eng
open Go
set_option linter.unusedVariables false
set_option linter.unusedSimpArgs false

theorem Out_eq (n low high : Int) : base_Out n low high = some (decide (n < low) || decide (high < n)) := by
  unfold base_Out base_Out_x1
  by_cases h : n < low <;> simp [h]
theorem Moment_eq (n : Int) : base_Moment n = some (decide (0 ≤ n) && decide (n ≤ 345686399999)) := by
  unfold base_Moment
  rw [Out_eq]
  simp only [Option.bind_some]
  congr 1
  rw [Bool.eq_iff_iff]
  simp
theorem in_eq (n low high : Int) : fleetref2_in n low high = some (decide (low ≤ n) && decide (n ≤ high)) := by
  unfold fleetref2_in fleetref2_in_x1
  by_cases h : low ≤ n <;> simp [h]
theorem QMoment_eq (n : Int) : fleetref2_Moment n = some (decide (0 ≤ n) && decide (n ≤ 345686399999)) := by
  unfold fleetref2_Moment
  rw [in_eq]
  rfl

theorem indexByte_neg (l : List UInt8) (c : UInt8) : decide (Lib.indexByte l c < 0) = !l.contains c := by
  induction l with
  | nil => rfl
  | cons b l ih =>
    have hge := Lib.indexByte_ge l c
    unfold Lib.indexByte
    rw [List.contains_cons]
    by_cases hb : (b == c) = true
    · have : (c == b) = true := by rw [BEq.comm]; exact hb
      simp [hb, this]
    · have hb' : (b == c) = false := by simpa using hb
      have : (c == b) = false := by rw [BEq.comm]; exact hb'
      simp only [hb', Bool.false_eq_true, if_false, this, Bool.false_or]
      rw [← ih]
      by_cases h1 : Lib.indexByte l c = -1
      · simp [h1]
      · have : (Lib.indexByte l c == -1) = false := by simpa using h1
        simp only [this, Bool.false_eq_true, if_false]
        congr 1
        simp
        omega
theorem only_eq (s t : List UInt8) (hs : (s.length : Int) ≤ 9223372036854775807) : fleetref2_only s t = some (s.all fun c => t.contains c) := by
  unfold fleetref2_only
  rw [range_loop (l := s) (fun _ c => cond (t.contains c) none (some (.inr ()))) (.inl ()) hs]
  · simp only [Option.bind_some]
    generalize 0 = k
    induction s generalizing k with
    | nil => rfl
    | cons c s ih =>
      simp only [scan, List.all_cons]
      cases t.contains c with
      | true => simp only [cond_true, Bool.true_and]; exact ih (by simp at hs; omega) (k + 1)
      | false => rfl
  · intro i hi
    unfold fleetref2_only_x1
    rw [at_nat hi]
    have : ((i : Int) < s.length) := by omega
    have hc : ((s[i].toNat : Int).toNat.toUInt8) = s[i] := by simp
    simp only [this, decide_true, cond_true, Option.bind_some, strings_IndexByte, stringslite_IndexByte, hc, indexByte_neg]
    cases t.contains s[i] <;> rfl
  · unfold fleetref2_only_x1
    simp

theorem small_contains (c : UInt8) : ([97, 98, 99, 100, 101, 102, 103, 104, 105, 106, 107, 108, 109, 110, 111, 112, 113, 114, 115, 116, 117, 118, 119, 120, 121, 122] : List UInt8).contains c = (decide (97 ≤ c.toNat) && decide (c.toNat ≤ 122)) := by
  have := u8_all (p := fun c => ([97, 98, 99, 100, 101, 102, 103, 104, 105, 106, 107, 108, 109, 110, 111, 112, 113, 114, 115, 116, 117, 118, 119, 120, 121, 122] : List UInt8).contains c == (decide (97 ≤ c.toNat) && decide (c.toNat ≤ 122))) (by decide +kernel) c
  exact eq_of_beq this
theorem key_contains (c : UInt8) : ([97, 98, 99, 100, 101, 102, 103, 104, 105, 106, 107, 108, 109, 110, 111, 112, 113, 114, 115, 116, 117, 118, 119, 120, 121, 122, 48, 49, 50, 51, 52, 53, 54, 55, 56, 57, 45, 95] : List UInt8).contains c = keyC c := by
  have := u8_all (p := fun c => ([97, 98, 99, 100, 101, 102, 103, 104, 105, 106, 107, 108, 109, 110, 111, 112, 113, 114, 115, 116, 117, 118, 119, 120, 121, 122, 48, 49, 50, 51, 52, 53, 54, 55, 56, 57, 45, 95] : List UInt8).contains c == keyC c) (by decide +kernel) c
  exact eq_of_beq this

theorem QKey_eq (s : List UInt8) (hs : (s.length : Int) ≤ 9223372036854775807) : fleetref2_Key s = some (keyB s) := by
  unfold fleetref2_Key fleetref2_Key_x1
  rw [in_eq]
  cases s with
  | nil => rfl
  | cons c l =>
    have h1 : (1 : Int) ≤ ((c :: l).length : Int) := by simp; omega
    have h40 : (((c :: l).length : Int) ≤ 40) ↔ l.length < 40 := by simp; omega
    have hsub : sub? (c :: l) 0 1 = some [c] := by
      unfold sub?
      simp
      omega
    simp only [Option.bind_some, h1, decide_true, Bool.true_and, hsub]
    rw [only_eq [c] _ (by simp), only_eq (c :: l) _ hs]
    simp only [small_contains, key_contains, Option.bind_some, List.all_cons, List.all_nil, Bool.and_true]
    unfold keyB
    simp only [List.all_cons]
    by_cases h2 : l.length < 40
    · have : (((c :: l).length : Int) ≤ 40) := h40.2 h2
      simp only [this, decide_true, cond_true, h2, Bool.true_and]
      cases (decide (97 ≤ c.toNat) && decide (c.toNat ≤ 122)) <;> rfl
    · have : ¬ (((c :: l).length : Int) ≤ 40) := fun h => h2 (h40.1 h)
      simp only [this, decide_false, cond_false, h2, Bool.false_and, Option.bind_some]

/-! ### Orders -/
def cmpI (a b : Int) : Int := if a < b then -1 else if b < a then 1 else 0
def or0 (a b : Int) : Int := if a = 0 then b else a
theorem cmpB_self : ∀ a : List UInt8, Lib.compareBytes a a = 0
  | [] => rfl
  | x :: a => by
    unfold Lib.compareBytes
    simp [UInt8.lt_irrefl, cmpB_self a]
theorem cmpB_anti : ∀ a b : List UInt8, Lib.compareBytes b a = -Lib.compareBytes a b
  | [], [] => rfl
  | [], _ :: _ => rfl
  | _ :: _, [] => rfl
  | x :: a, y :: b => by
    unfold Lib.compareBytes
    by_cases h1 : x < y
    · have h2 : ¬ y < x := UInt8.lt_asymm h1
      simp [h1, h2]
    · by_cases h2 : y < x
      · simp [h1, h2]
      · simp [h1, h2, cmpB_anti a b]
theorem cmpB_zero : ∀ {a b : List UInt8}, Lib.compareBytes a b = 0 ↔ a = b
  | [], [] => by simp [Lib.compareBytes]
  | [], _ :: _ => by simp [Lib.compareBytes]
  | _ :: _, [] => by simp [Lib.compareBytes]
  | x :: a, y :: b => by
    unfold Lib.compareBytes
    by_cases h1 : x < y
    · have : x ≠ y := fun h => UInt8.lt_irrefl y (h ▸ h1)
      simp [h1, this]
    · by_cases h2 : y < x
      · have : x ≠ y := fun h => UInt8.lt_irrefl x (by rw [h] at h2 ⊢; exact h2)
        simp [h1, h2, this]
      · have : x = y := UInt8.le_antisymm (UInt8.not_lt.1 h2) (UInt8.not_lt.1 h1)
        simp [h1, h2, cmpB_zero (a := a) (b := b), this]
theorem cmpI_anti (a b : Int) : cmpI b a = -cmpI a b := by unfold cmpI; split <;> split <;> first | omega | (split <;> omega) | rfl
theorem or0_neg (a b : Int) : or0 (-a) (-b) = -or0 a b := by unfold or0; split <;> split <;> omega
end Go.Eng

/-
Sorting of few elements, and what is left of equal ones, for all kinds of elements.
-/
namespace Go.Eng
open Go
set_option linter.unusedVariables false
set_option linter.unusedSimpArgs false

/-- Two loops side by side, over the same states. -/
theorem loop_two {σ ρ : Type} {f g : σ → Option (σ ⊕ ρ)} (I : σ → Prop) (μ : σ → Nat) (Q : ρ → Prop)
    (step : ∀ s, I s → (∃ s', f s = some (.inl s') ∧ g s = some (.inl s') ∧ I s' ∧ μ s' < μ s) ∨ (∃ r, f s = some (.inr r) ∧ g s = some (.inr r) ∧ Q r)) {s : σ} (h : I s) :
    ∃ r, loopO f s = some r ∧ loopO g s = some r ∧ Q r := by
  generalize hn : μ s = n
  induction n using Nat.strongRecOn generalizing s with
  | _ n ih =>
    rcases step s h with ⟨s', h1, h2, h3, h4⟩ | ⟨r, h1, h2, h3⟩
    · obtain ⟨r, g1, g2, g3⟩ := ih (μ s') (by omega) h3 rfl
      refine ⟨r, ?_, ?_, g3⟩
      · rw [loopO_eq, h1]; exact g1
      · rw [loopO_eq, h2]; exact g2
    · refine ⟨r, ?_, ?_, h3⟩
      · rw [loopO_eq, h1]; rfl
      · rw [loopO_eq, h2]; rfl

section
variable {α : Type}
/-! ### Insertion, as the code has it -/
noncomputable def gI3 (cmp : α → α → Option Int) (qa : Int) (vl3 : List α) (vj1 : Int) : Option (Bool) :=
  cond (decide (qa < vj1))
    ((at? vl3 vj1).bind fun vy15 =>
    (at? vl3 (IntKind.wrap .i64 (vj1 - 1))).bind fun vy16 =>
    (cmp vy15 vy16).bind fun vr1_3 =>
    some (decide (vr1_3 < 0)))
    (some false)
noncomputable def gI2 (cmp : α → α → Option Int) (qa : Int) : (List α) × Int → Option (((List α) × Int) ⊕ ((List α)))
  | (vl3, vj1) =>
  (gI3 cmp qa vl3 vj1).bind fun vx4_1 =>
  cond (vx4_1)
    ((at? vl3 (IntKind.wrap .i64 (vj1 - 1))).bind fun vy17 =>
    (at? vl3 vj1).bind fun vy18 =>
    (at? (vl3.set vj1.toNat vy17) (IntKind.wrap .i64 (vj1 - 1))).bind fun vy19 =>
    some (.inl ((vl3.set vj1.toNat vy17).set (IntKind.wrap .i64 (vj1 - 1)).toNat vy18, IntKind.wrap .i64 (vj1 - 1))))
    (some (.inr vl3))
noncomputable def gI1 (cmp : α → α → Option Int) (qa : Int) (qb : Int) : (List α) × Int → Option (((List α) × Int) ⊕ ((List α)))
  | (vl, vi) =>
  cond (decide (vi < qb))
    ((loopO (gI2 cmp qa) (vl, vi)).bind fun vl4_1 =>
    some (.inl (vl4_1, IntKind.wrap .i64 (vi + 1))))
    (some (.inr vl))
noncomputable def gI (cmp : α → α → Option Int) (qdata : List α) (qa : Int) (qb : Int) : Option ((List α)) :=
  (loopO (gI1 cmp qa qb) (qdata, IntKind.wrap .i64 (qa + 1))).bind fun vl5_1 =>
  some vl5_1
noncomputable def gS1 (cmp : α → α → Option Int) (qn : Int) : (List α) × Int × Int → Option (((List α) × Int × Int) ⊕ (((List α) × Int)))
  | (vl, va, vb) =>
  cond (decide (vb ≤ qn))
    ((gI cmp vl va vb).bind fun vl6_1 =>
    gd (vl6_1.length == vl.length) <|
    some (.inl (vl6_1, vb, IntKind.wrap .i64 (vb + 20))))
    (some (.inr (vl, va)))
noncomputable def gS3 (qn : Int) (vblockSize : Int) : Unit → Option ((Unit) ⊕ (Unit))
  | _ =>
  cond (decide ((IntKind.wrap .i64 ((2 : Int) * vblockSize)) ≤ qn))
    (none)
    (some (.inr ()))
noncomputable def gS2 (qn : Int) (vblockSize : Int) : Option ((Int) ⊕ (Unit)) :=
  cond (decide (vblockSize < qn))
    ((loopO (gS3 qn vblockSize) ()).bind fun _ =>
    cond (decide ((IntKind.wrap .i64 ((0 : Int) + vblockSize)) < qn))
      (none)
      (some (.inl (IntKind.wrap .i64 (vblockSize * 2)))))
    (some (.inr ()))
noncomputable def gS (cmp : α → α → Option Int) (qdata : List α) (qn : Int) : Option ((List α)) :=
  (loopO (gS1 cmp qn) (qdata, 0, 20)).bind fun (vl1_1, va1_1) =>
  (gI cmp vl1_1 va1_1 qn).bind fun vl6_2 =>
  gd (vl6_2.length == vl1_1.length) <|
  (loopO (gS2 qn) 20).bind fun _ =>
  some vl6_2
noncomputable def gSort (cmp : α → α → Option Int) (qx : List α) : Option ((List α)) :=
  (gS cmp qx (qx.length : Int)).bind fun vl2 =>
  gd (vl2.length == qx.length) <|
  some vl2

def All (p : α → Prop) (l : List α) : Prop := ∀ x ∈ l, p x
theorem All.nil {p : α → Prop} : All p [] := fun _ h => nomatch h
theorem All.set {p : α → Prop} {l : List α} (h : All p l) {i : Nat} {x : α} (hx : p x) : All p (l.set i x) := by
  intro y hy
  rcases List.mem_or_eq_of_mem_set hy with hy | rfl
  · exact h y hy
  · exact hx
theorem All.at {p : α → Prop} {l : List α} (h : All p l) {i : Nat} (hi : i < l.length) : p l[i] := h _ (List.getElem_mem hi)

theorem at_i {l : List α} {n : Int} (h : 0 ≤ n) (h2 : n < l.length) : ∃ y, at? l n = some y ∧ y ∈ l := ⟨_, at_lt h h2, List.getElem_mem _⟩

theorem gI2_both {p : α → Prop} {c1 c2 : α → α → Option Int} (hc : ∀ x y, p x → p y → ∃ c, c1 x y = some c ∧ c2 x y = some c) {n : Nat} (hn : n ≤ 100000) {a j : Int} {l : List α} (ha : 0 ≤ a) (hj : a ≤ j ∧ j < n) (hl : l.length = n) (hp : All p l) :
    ∃ r, loopO (gI2 c1 a) (l, j) = some r ∧ loopO (gI2 c2 a) (l, j) = some r ∧ (r.length = n ∧ All p r) := by
  refine loop_two (fun s : List α × Int => s.1.length = n ∧ All p s.1 ∧ a ≤ s.2 ∧ s.2 < n) (fun s => s.2.toNat) _ ?_ ⟨hl, hp, hj.1, hj.2⟩
  rintro ⟨l, j⟩ ⟨h1, h2, h3, h4⟩
  simp only at h1 h2 h3 h4
  unfold gI2 gI3
  by_cases hc' : a < j
  · have w1 : IntKind.wrap .i64 (j - 1) = j - 1 := wrap64 (by omega) (by omega)
    obtain ⟨y, y1, y2⟩ := at_i (l := l) (n := j) (by omega) (by omega)
    obtain ⟨z, z1, z2⟩ := at_i (l := l) (n := j - 1) (by omega) (by omega)
    obtain ⟨u, u1, u2⟩ := at_i (l := l.set j.toNat z) (n := j - 1) (by omega) (by simp; omega)
    obtain ⟨c, e1, e2⟩ := hc y z (h2 y y2) (h2 z z2)
    simp only [hc', decide_true, cond_true, w1, y1, z1, u1, Option.bind_some, e1, e2]
    cases decide (c < 0) with
    | true =>
      left
      exact ⟨((l.set j.toNat z).set (j - 1).toNat y, j - 1), rfl, rfl, ⟨by simp [h1], (h2.set (h2 z z2)).set (h2 y y2), by simp only; omega, by simp only; omega⟩, by simp only; omega⟩
    | false =>
      right
      exact ⟨l, rfl, rfl, h1, h2⟩
  · right
    simp only [hc', decide_false, cond_false, Option.bind_some]
    exact ⟨l, rfl, rfl, h1, h2⟩

theorem gI_both {p : α → Prop} {c1 c2 : α → α → Option Int} (hc : ∀ x y, p x → p y → ∃ c, c1 x y = some c ∧ c2 x y = some c) {n : Nat} (hn : n ≤ 100000) {l : List α} (hl : l.length = n) (hp : All p l) :
    ∃ r, gI c1 l 0 n = some r ∧ gI c2 l 0 n = some r ∧ (r.length = n ∧ All p r) := by
  have w : IntKind.wrap .i64 ((0 : Int) + 1) = 1 := by decide
  obtain ⟨r, e1, e2, e3⟩ := loop_two (f := gI1 c1 0 n) (g := gI1 c2 0 n) (fun s : List α × Int => s.1.length = n ∧ All p s.1 ∧ 1 ≤ s.2 ∧ s.2 ≤ (n : Int) + 1) (fun s => ((n : Int) + 1 - s.2).toNat) (fun r => r.length = n ∧ All p r) (by
    rintro ⟨l, i⟩ ⟨h1, h2, h3, h4⟩
    simp only at h1 h2 h3 h4
    unfold gI1
    by_cases hi : i < (n : Int)
    · left
      obtain ⟨r, e1, e2, e3, e4⟩ := gI2_both hc hn (a := 0) (j := i) (by omega) (by omega) h1 h2
      simp only [hi, decide_true, cond_true, e1, e2, Option.bind_some]
      rw [wrap64 (n := i + 1) (by omega) (by omega)]
      exact ⟨_, rfl, rfl, ⟨e3, e4, by simp only; omega, by simp only; omega⟩, by simp only; omega⟩
    · right
      simp only [hi, decide_false, cond_false]
      exact ⟨l, rfl, rfl, h1, h2⟩) (s := (l, 1)) ⟨hl, hp, by simp, by simp only; omega⟩
  unfold gI
  rw [w, e1, e2]
  exact ⟨r, rfl, rfl, e3⟩

theorem gSort_both {p : α → Prop} {c1 c2 : α → α → Option Int} (hc : ∀ x y, p x → p y → ∃ c, c1 x y = some c ∧ c2 x y = some c) {l : List α} (hl : l.length < 20) (hp : All p l) :
    ∃ r, gSort c1 l = some r ∧ gSort c2 l = some r ∧ (r.length = l.length ∧ All p r) := by
  obtain ⟨r, e1, e2, e3, e4⟩ := gI_both hc (n := l.length) (by omega) rfl hp
  have h20 : ¬ (20 : Int) ≤ (l.length : Int) := by omega
  have h20' : ¬ (20 : Int) < (l.length : Int) := by omega
  have s1 : ∀ c : α → α → Option Int, loopO (gS1 c l.length) (l, 0, 20) = some (l, 0) := by
    intro c
    rw [loopO_eq]
    unfold gS1
    simp only [h20, decide_false, cond_false, Option.bind_some]
  have s2 : loopO (gS2 l.length) 20 = some () := by
    rw [loopO_eq]
    unfold gS2
    simp only [h20', decide_false, cond_false, Option.bind_some]
  have hb : (r.length == l.length) = true := by simp [e3]
  refine ⟨r, ?_, ?_, e3, e4⟩
  · unfold gSort gS
    rw [s1]
    simp only [Option.bind_some, e1, gd_true hb, s2]
  · unfold gSort gS
    rw [s1]
    simp only [Option.bind_some, e2, gd_true hb, s2]

/-! ### Equal ones, as the code has it -/
noncomputable def gC3 (t : α → α → Option Bool) (qx : List α) (vx : Int) (vl4 : List α) (vx6 : Int) (vx7 : Int) : Option (((List α) × Int)) :=
  gd (decide (0 ≤ vx) && decide (0 ≤ vx7) && decide (vx7 < (qx.length : Int) - vx)) <|
  (at? vl4 (vx + vx7)).bind fun vy13 =>
  gd (decide (0 ≤ vx) && decide (0 ≤ (IntKind.wrap .i64 (vx7 - 1))) && decide ((IntKind.wrap .i64 (vx7 - 1)) < (qx.length : Int) - vx)) <|
  (at? vl4 (vx + (IntKind.wrap .i64 (vx7 - 1)))).bind fun vy14 =>
  (t vy13 vy14).bind fun vr5 =>
  cond (!vr5)
    ((at? vl4 vx6).bind fun vy15 =>
    some (vl4.set vx6.toNat vy13, IntKind.wrap .i64 (vx6 + 1)))
    (some (vl4, vx6))
noncomputable def gC2 (t : α → α → Option Bool) (qx : List α) (vx : Int) : (List α) × Int × Int → Option (((List α) × Int × Int) ⊕ (((List α) × Int)))
  | (vl4, vx6, vx7) =>
  cond (decide (vx7 < (((qx.length : Int).toNat - vx.toNat : Nat) : Int)))
    ((gC3 t qx vx vl4 vx6 vx7).bind fun (vl6_1, vx9_1) =>
    some (.inl (vl6_1, vx9_1, IntKind.wrap .i64 (vx7 + 1))))
    (some (.inr (vl4, vx6)))
noncomputable def gC1 (t : α → α → Option Bool) (z : α) (qx : List α) (vx : Int) : Option ((Int) ⊕ (Unit ⊕ (List α))) :=
  cond (decide (vx < (qx.length : Int)))
    ((at? qx vx).bind fun vy8 =>
    (at? qx (IntKind.wrap .i64 (vx - 1))).bind fun vy9 =>
    (t vy8 vy9).bind fun vr3 =>
    cond (vr3)
      (gd (decide (0 ≤ vx) && decide (vx ≤ (qx.length : Int)) && decide ((qx.length : Int) ≤ (qx.length : Int))) <|
      (loopO (gC2 t qx vx) (qx, vx, 1)).bind fun (vl7_1, vx10_1) =>
      gd (decide (0 ≤ vx10_1) && decide (vx10_1 ≤ (vl7_1.length : Int)) && decide ((vl7_1.length : Int) ≤ (vl7_1.length : Int))) <|
      gd (decide (0 ≤ vx10_1) && decide (vx10_1 ≤ ((vl7_1.take vx10_1.toNat ++ (List.replicate ((vl7_1.length : Int).toNat - vx10_1.toNat) z ++ vl7_1.drop (vx10_1.toNat + ((vl7_1.length : Int).toNat - vx10_1.toNat)))).length : Int))) <|
      some (.inr (.inr ((vl7_1.take vx10_1.toNat ++ (List.replicate ((vl7_1.length : Int).toNat - vx10_1.toNat) z ++ vl7_1.drop (vx10_1.toNat + ((vl7_1.length : Int).toNat - vx10_1.toNat)))).take vx10_1.toNat))))
      (some (.inl (IntKind.wrap .i64 (vx + 1)))))
    (some (.inr (.inl ())))
noncomputable def gCom (t : α → α → Option Bool) (z : α) (qx : List α) : Option ((List α)) :=
  cond (decide ((qx.length : Int) < 2))
    (some qx)
    ((loopO (gC1 t z qx) 1).bind fun x => match x with
      | .inl _ =>
        some qx
      | .inr vx11_1 =>
        some vx11_1)

theorem take_part {l m : List α} {k : Nat} (h : k ≤ l.length) : (l.take k ++ m).take k = l.take k := by
  rw [List.take_append_of_le_length (by simp; omega), List.take_take]
  congr 1
  omega
theorem gCom_ok {p : α → Prop} {t : α → α → Option Bool} (ht : ∀ x y, p x → p y → ∃ b, t x y = some b) {z : α} {l : List α} (hl : l.length ≤ 100000) (hp : All p l) : Ok (gCom t z l) (fun r => r.length ≤ l.length ∧ All p r) := by
  unfold gCom
  refine .cond (fun _ => .some ⟨Nat.le_refl _, hp⟩) (fun hc => ?_)
  have hl2 : (2 : Int) ≤ l.length := by simpa using hc
  refine Ok.bind (P := fun x => match x with | .inl _ => True | .inr r => r.length ≤ l.length ∧ All p r) ?_ (fun x hx => ?_)
  · refine loop_ok (fun k : Int => 1 ≤ k ∧ k ≤ l.length) (fun k => ((l.length : Int) - k).toNat) ?_ ⟨by omega, by omega⟩
    rintro k ⟨k1, k2⟩
    unfold gC1
    refine .cond (fun hk => ?_) (fun _ => .some trivial)
    have hk : k < l.length := by simpa using hk
    have w1 : IntKind.wrap .i64 (k - 1) = k - 1 := wrap64 (by omega) (by omega)
    rw [w1]
    obtain ⟨y, y1, y2⟩ := at_i (l := l) (n := k) (by omega) (by omega)
    obtain ⟨x, x1, x2⟩ := at_i (l := l) (n := k - 1) (by omega) (by omega)
    obtain ⟨b, hb⟩ := ht y x (hp y y2) (hp x x2)
    simp only [y1, x1, hb, Option.bind_some]
    cases b with
    | false =>
      simp only [cond_false]
      rw [wrap64 (n := k + 1) (by omega) (by omega)]
      exact .some ⟨⟨by omega, by omega⟩, by omega⟩
    | true =>
      simp only [cond_true]
      refine .gd (by simp; omega) ?_
      refine Ok.bind (P := fun q : List α × Int => q.1.length = l.length ∧ All p q.1 ∧ 0 ≤ q.2 ∧ q.2 ≤ l.length) ?_ (fun ⟨l7, k9⟩ ⟨q1, q2, q3, q4⟩ => ?_)
      · have hkn : (((l.length : Int).toNat - k.toNat : Nat) : Int) = l.length - k := by omega
        refine loop_ok (fun q : List α × Int × Int => q.1.length = l.length ∧ All p q.1 ∧ (k ≤ q.2.1 ∧ q.2.1 ≤ k + q.2.2 - 1) ∧ 1 ≤ q.2.2 ∧ q.2.2 ≤ l.length - k) (fun q => ((l.length : Int) - q.2.2).toNat) ?_ ⟨rfl, hp, ⟨by simp only; omega, by simp only; omega⟩, by simp only; omega, by simp only; omega⟩
        rintro ⟨m, i, j⟩ ⟨m1, m2, ⟨i1, i2⟩, j1, j2⟩
        simp only at m1 m2 i1 i2 j1 j2
        unfold gC2
        rw [hkn]
        refine .cond (fun hj => ?_) (fun _ => .some ⟨m1, m2, by simp only; omega, by simp only; omega⟩)
        have hj : j < l.length - k := by simpa using hj
        have w2 : IntKind.wrap .i64 (j - 1) = j - 1 := wrap64 (by omega) (by omega)
        refine Ok.bind (P := fun q : List α × Int => q.1.length = l.length ∧ All p q.1 ∧ k ≤ q.2 ∧ q.2 ≤ k + j) ?_ (fun ⟨m', i'⟩ ⟨g1, g2, g3, g4⟩ => ?_)
        · unfold gC3
          rw [w2]
          refine .gd (by simp; omega) ?_
          obtain ⟨y, y1, y2⟩ := at_i (l := m) (n := k + j) (by omega) (by omega)
          obtain ⟨x, x1, x2⟩ := at_i (l := m) (n := k + (j - 1)) (by omega) (by omega)
          obtain ⟨u, u1, u2⟩ := at_i (l := m) (n := i) (by omega) (by omega)
          obtain ⟨b, hb⟩ := ht y x (m2 y y2) (m2 x x2)
          rw [y1]
          simp only [Option.bind_some]
          refine .gd (by simp; omega) ?_
          rw [x1]
          simp only [Option.bind_some, hb, u1]
          rw [wrap64 (n := i + 1) (by omega) (by omega)]
          cases b with
          | true => exact .some ⟨m1, m2, i1, by simp only; omega⟩
          | false => exact .some ⟨by simp [m1], m2.set (m2 y y2), by simp only; omega, by simp only; omega⟩
        · simp only at g1 g2 g3 g4
          rw [wrap64 (n := j + 1) (by omega) (by omega)]
          exact .some ⟨⟨g1, g2, ⟨by simp only; omega, by simp only; omega⟩, by simp only; omega, by simp only; omega⟩, by simp only; omega⟩
      · simp only at q1 q2 q3 q4
        refine .gd (by simp; omega) (.gd ?_ ?_)
        · simp only [Bool.and_eq_true, decide_eq_true_eq]
          refine ⟨q3, ?_⟩
          simp only [List.length_append, List.length_take, List.length_replicate, List.length_drop]
          omega
        · rw [take_part (by omega)]
          refine .some ⟨?_, fun x hx => q2 x (List.mem_of_mem_take hx)⟩
          simp only [List.length_take]; omega
  · cases x with
    | inl _ => exact .some ⟨Nat.le_refl _, hp⟩
    | inr r => exact .some hx

end
end Go.Eng

/-
Numbers: written and read, both ways.
-/
namespace Go.Eng
open Go
set_option linter.unusedVariables false
set_option linter.unusedSimpArgs false
theorem snocRec {α : Type} {motive : List α → Prop} (nil : motive []) (snoc : ∀ l c, motive l → motive (l ++ [c])) (t : List α) : motive t := by
  have key : ∀ r : List α, motive r.reverse := by
    intro r
    induction r with
    | nil => exact nil
    | cons c r ih => rw [List.reverse_cons]; exact snoc _ _ ih
  have := key t.reverse
  rwa [List.reverse_reverse] at this
def isDig (c : UInt8) : Bool := decide (48 ≤ c.toNat) && decide (c.toNat ≤ 57)
def natV (l : List UInt8) : Nat := l.foldl (fun n c => n * 10 + (c.toNat - 48)) 0
theorem natV_snoc (l : List UInt8) (c : UInt8) : natV (l ++ [c]) = natV l * 10 + (c.toNat - 48) := by unfold natV; rw [List.foldl_append]; rfl
theorem dig_rng {c : UInt8} (h : isDig c = true) : 48 ≤ c.toNat ∧ c.toNat ≤ 57 := by unfold isDig at h; simpa using h
theorem natV_lt : ∀ {l : List UInt8}, (∀ c ∈ l, isDig c = true) → natV l < 10 ^ l.length := by
  intro l
  induction l using snocRec with
  | nil => intro _; simp [natV]
  | snoc l c ih =>
    intro h
    have h1 := ih fun c hc => h c (by simp [hc])
    have h2 := dig_rng (h c (by simp))
    rw [natV_snoc, List.length_append, List.length_singleton, Nat.pow_succ]
    omega
theorem dec_small {u : Nat} (h : u < 10) : Lib.decDigits u = [UInt8.ofNat (48 + u)] := by rw [Lib.decDigits, dif_pos h]
theorem dec_big {u : Nat} (h : ¬ u < 10) : Lib.decDigits u = Lib.decDigits (u / 10) ++ [UInt8.ofNat (48 + u % 10)] := by rw [Lib.decDigits, dif_neg h]
theorem of_nat_dig {c : UInt8} (h : 48 ≤ c.toNat ∧ c.toNat ≤ 57) : UInt8.ofNat (48 + (c.toNat - 48)) = c := by
  have : 48 + (c.toNat - 48) = c.toNat := by omega
  rw [this]
  exact UInt8.ofNat_toNat
theorem natV_pos : ∀ {t : List UInt8}, (∀ c ∈ t, isDig c = true) → (∀ h : 0 < t.length, t[0] ≠ 48) → t ≠ [] → 1 ≤ natV t := by
  intro t
  induction t using snocRec with
  | nil => intro _ _ h; exact absurd rfl h
  | snoc l c ih =>
    intro hd h0 _
    rw [natV_snoc]
    by_cases hl : l = []
    · subst hl
      have h1 := h0 (by simp)
      have h2 := dig_rng (hd c (by simp))
      have h1 : c ≠ 48 := by simpa using h1
      have : c.toNat ≠ 48 := fun e => h1 (UInt8.toNat_inj.1 (by rw [e]; rfl))
      simp [natV]; omega
    · have hpos : 0 < l.length := List.length_pos_iff.2 hl
      have h1 := ih (fun c hc => hd c (by simp [hc])) (fun h => by have := h0 (by simp); rwa [List.getElem_append_left h] at this) hl
      omega
/-- digits that do not begin with a nought are what is written of their number -/
theorem dec_of_dig : ∀ {t : List UInt8}, (∀ c ∈ t, isDig c = true) → t ≠ [] → (∀ h : 1 < t.length, t[0] ≠ 48) → Lib.decDigits (natV t) = t := by
  intro t
  induction t using snocRec with
  | nil => intro _ h; exact absurd rfl h
  | snoc l c ih =>
    intro hd _ h0
    have hc := dig_rng (hd c (by simp))
    by_cases hl : l = []
    · subst hl
      have e : natV ([] ++ [c]) = c.toNat - 48 := by simp [natV]
      rw [e, dec_small (by omega), of_nat_dig hc]
      rfl
    · have hpos : 0 < l.length := List.length_pos_iff.2 hl
      have hd' : ∀ c ∈ l, isDig c = true := fun c hc => hd c (by simp [hc])
      have h00 : l[0] ≠ 48 := by have := h0 (by simp; omega); rwa [List.getElem_append_left hpos] at this
      have hp := natV_pos hd' (fun _ => h00) hl
      have ih := ih hd' hl (fun _ => h00)
      rw [natV_snoc, dec_big (by omega)]
      rw [show (natV l * 10 + (c.toNat - 48)) / 10 = natV l by omega, show (natV l * 10 + (c.toNat - 48)) % 10 = c.toNat - 48 by omega, ih, of_nat_dig hc]
theorem dec_head : ∀ (u : Nat), 1 ≤ u → ∃ c l, Lib.decDigits u = c :: l ∧ c ≠ 48 := by
  intro u
  induction u using Nat.strongRecOn with
  | _ u ih =>
    intro hu
    by_cases h : u < 10
    · rw [dec_small h]
      refine ⟨_, _, rfl, fun e => ?_⟩
      have := congrArg UInt8.toNat e
      simp only [UInt8.toNat_ofNat'] at this
      have h2 : (48 : UInt8).toNat = 48 := rfl
      omega
    · rw [dec_big h]
      obtain ⟨c, l, e, hc⟩ := ih (u / 10) (by omega) (by omega)
      rw [e]
      exact ⟨c, l ++ [_], rfl, hc⟩
theorem dec_iff {t : List UInt8} (hd : ∀ c ∈ t, isDig c = true) (ht : t ≠ []) : Lib.decDigits (natV t) = t ↔ ∀ h : 1 < t.length, t[0] ≠ 48 := by
  refine ⟨fun e h h0 => ?_, dec_of_dig hd ht⟩
  by_cases hz : natV t = 0
  · rw [hz, dec_small (by omega)] at e
    have := congrArg List.length e
    simp at this
    omega
  · obtain ⟨c, l, e2, hc⟩ := dec_head (natV t) (by omega)
    rw [e] at e2
    have e3 : t[0] = c := by simp only [e2, List.getElem_cons_zero]
    exact hc (by rw [← e3]; exact h0)
/-! ### The code -/
def trimM : List UInt8 → List UInt8
  | [] => []
  | c :: l => if c = 45 then l else c :: l
theorem trim_eq (s : List UInt8) : strings_TrimPrefix s [45] = some (trimM s) := by
  unfold strings_TrimPrefix stringslite_TrimPrefix stringslite_HasPrefix stringslite_HasPrefix_x1
  cases s with
  | nil => rfl
  | cons c l =>
    have h1 : ((([45] : List UInt8).length : Nat) : Int) ≤ (((c :: l).length : Nat) : Int) := by simp; omega
    have h2 : sub? (c :: l) 0 ((([45] : List UInt8).length : Nat) : Int) = some [c] := by
      unfold sub?
      rw [if_pos ⟨by omega, by simp, h1⟩]
      rfl
    have h3 : sub? (c :: l) ((([45] : List UInt8).length : Nat) : Int) (((c :: l).length : Nat) : Int) = some l := by
      unfold sub?
      rw [if_pos ⟨by simp, h1, Int.le_refl _⟩]
      simp
    simp only [h1, decide_true, cond_true, h2, Option.bind_some, h3, trimM]
    by_cases hc : c = 45
    · simp [hc]
    · simp [hc]
/-- is it a number of at most so many digits? -/
def okN (s : List UInt8) (most : Nat) : Bool := !(trimM s).isEmpty && (decide ((trimM s).length ≤ most) && (!(decide ((trimM s).head? = some 48) && (decide (1 < (trimM s).length) || decide ((trimM s).length < s.length))) && (trimM s).all isDig))
def valN (s : List UInt8) : Int := if s.head? = some 45 then -(natV (trimM s) : Int) else (natV (trimM s) : Int)
theorem trim_len (s : List UInt8) : (trimM s).length ≤ s.length ∧ s.length ≤ (trimM s).length + 1 := by
  cases s with
  | nil => simp [trimM]
  | cons c l =>
    by_cases h : c = 45
    · have : trimM (c :: l) = l := by unfold trimM; simp only [h, if_true]
      rw [this]; simp
    · have : trimM (c :: l) = c :: l := by unfold trimM; simp only [h, if_false]
      rw [this]; simp
theorem atoi_loop {t : List UInt8} (hd : ∀ c ∈ t, isDig c = true) (hl : t.length ≤ 17) : loopO (strconv_Atoi_2_x4 t) (0, 0) = some (natV t : Int) := by
  apply Ok.eq
  refine loop_ok (fun q : Int × Int => ∃ i : Nat, q.2 = (i : Int) ∧ i ≤ t.length ∧ q.1 = (natV (t.take i) : Int)) (fun q => ((t.length : Int) - q.2).toNat) ?_ ⟨0, rfl, by omega, by simp [natV]⟩
  rintro ⟨x, q⟩ ⟨i, rfl, hi, e⟩
  simp only at e
  unfold strconv_Atoi_2_x4
  have hb : (bytesD t).length = t.length := by unfold bytesD; simp
  by_cases hc : i < t.length
  · have h' : (i : Int) < (bytesD t).length := by omega
    have hg : at? (bytesD t) (i : Int) = some (((t[i]).toNat : Nat) : Int) := by
      rw [at_nat (show i < (bytesD t).length by omega)]
      unfold bytesD; simp
    have hdi := dig_rng (hd _ (List.getElem_mem hc))
    have w8 : IntKind.wrap .u8 ((((t[i]).toNat : Nat) : Int) - 48) = (((t[i]).toNat - 48 : Nat) : Int) := by
      have : IntKind.wrap .u8 ((((t[i]).toNat : Nat) : Int) - 48) = ((((t[i]).toNat : Nat) : Int) - 48) % 256 := by unfold IntKind.wrap; simp [IntKind.bits, IntKind.signed]
      rw [this]; omega
    have hlt := natV_lt (l := t.take i) fun c hc => hd c (List.mem_of_mem_take hc)
    have hp : 10 ^ (t.take i).length ≤ 10 ^ 17 := Nat.pow_le_pow_right (by omega) (by simp; omega)
    have n9 : ¬ (9 : Int) < ((((t[i]).toNat - 48 : Nat)) : Int) := by omega
    simp only [h', decide_true, cond_true, hg, Option.bind_some, w8, n9, decide_false, cond_false]
    rw [wrap64 (n := (i : Int) + 1) (by omega) (by omega), e, wrap64 (n := (natV (t.take i) : Int) * 10) (by omega) (by omega), wrap64 (n := (((t[i]).toNat - 48 : Nat) : Int)) (by omega) (by omega), wrap64 (by omega) (by omega)]
    refine .some ⟨⟨i + 1, by simp, hc, ?_⟩, by simp only; omega⟩
    simp only
    rw [List.take_succ_eq_append_getElem hc, natV_snoc]
    omega
  · have h' : ¬ (i : Int) < (bytesD t).length := by omega
    simp only [h', decide_false, cond_false]
    rw [List.take_of_length_le (by omega)] at e
    exact .some e
theorem atoi_eq {s : List UInt8} (hd : ∀ c ∈ trimM s, isDig c = true) (hne : trimM s ≠ []) (hl : (trimM s).length ≤ 17) : strconv_Atoi s = some (valN s) := by
  have hsl := trim_len s
  have hlt := natV_lt hd
  have hp : 10 ^ (trimM s).length ≤ 10 ^ 17 := Nat.pow_le_pow_right (by omega) hl
  cases s with
  | nil => exact absurd rfl hne
  | cons c l =>
    have h1 : (0 : Int) < (((c :: l).length : Nat) : Int) := by simp
    have h2 : (((c :: l).length : Nat) : Int) < 19 := by omega
    have a0 : at? (c :: l) 0 = some c := rfl
    unfold strconv_Atoi strconv_Atoi_2 strconv_Atoi_2_x1 strconv_Atoi_2_x2 strconv_Atoi_2_x3 strconv_Atoi_2_x5
    simp only [h1, h2, decide_true, cond_true, Option.bind_some, a0]
    by_cases hc : c = 45
    · subst hc
      have ht : trimM (45 :: l) = l := rfl
      rw [ht] at hd hne hl hlt hp
      have hlen : 0 < l.length := List.length_pos_iff.2 hne
      have h3 : sub? ((45 : UInt8) :: l) 1 (((45 :: l : List UInt8).length : Nat) : Int) = some l := by
        unfold sub?
        rw [if_pos ⟨by omega, by simp; omega, Int.le_refl _⟩]
        simp
      have e45 : (((45 : UInt8).toNat : Nat) : Int) = 45 := rfl
      have n1 : ¬ ((l.length : Nat) : Int) < 1 := by omega
      simp only [e45, decide_true, cond_true, Option.bind_some, h3, n1, decide_false, cond_false, atoi_loop hd hl]
      rw [wrap64 (by omega) (by omega)]
      unfold valN
      rw [ht]
      simp
    · have ht : trimM (c :: l) = c :: l := by unfold trimM; simp only [hc, if_false]
      rw [ht] at hd hl hlt hp
      have hdc := dig_rng (hd c (by simp))
      have n45 : ¬ ((c.toNat : Nat) : Int) = 45 := by omega
      have n43 : ¬ ((c.toNat : Nat) : Int) = 43 := by omega
      simp only [n45, n43, decide_false, cond_false, Option.bind_some, atoi_loop hd hl]
      unfold valN
      rw [ht]
      simp [hc]
theorem num_x2 {t : List UInt8} (hl : t.length ≤ 1000000) : loopO (base_Number_x2 t) 0 = some (cond (t.all isDig) (.inl ()) (.inr ())) := by
  rw [range_loop (l := t) (fun _ c => cond (isDig c) none (some (.inr ()))) (.inl ()) (by omega)]
  · congr 1
    have : ∀ (t : List UInt8) (k : Nat), ((scan (fun _ c => cond (isDig c) none (some (Sum.inr () : Unit ⊕ Unit))) k t).getD (.inl ())) = cond (t.all isDig) (.inl ()) (.inr ()) := by
      intro t
      induction t with
      | nil => intro k; rfl
      | cons c t ih =>
        intro k
        simp only [scan, List.all_cons]
        cases isDig c with
        | true => simp only [cond_true, Bool.true_and]; exact ih (k + 1)
        | false => rfl
    exact this t 0
  · intro i hi
    unfold base_Number_x2 base_Number_x3
    have h : (i : Int) < t.length := by omega
    simp only [h, decide_true, cond_true, at_nat hi, Option.bind_some]
    have e : (cond (decide ((((t[i]).toNat : Nat) : Int) < 48)) (some true) (some (decide ((57 : Int) < (((t[i]).toNat : Nat) : Int))))) = some (!isDig t[i]) := by
      unfold isDig
      by_cases h1 : (t[i]).toNat < 48
      · have : (((t[i]).toNat : Nat) : Int) < 48 := by omega
        have h2 : ¬ 48 ≤ (t[i]).toNat := by omega
        simp [this, h2]
      · have : ¬ (((t[i]).toNat : Nat) : Int) < 48 := by omega
        have h2 : 48 ≤ (t[i]).toNat := by omega
        by_cases h3 : (t[i]).toNat ≤ 57
        · have : ¬ (57 : Int) < (((t[i]).toNat : Nat) : Int) := by omega
          simp [*]
        · have : (57 : Int) < (((t[i]).toNat : Nat) : Int) := by omega
          simp [*]
    rw [e]
    cases isDig t[i] <;> rfl
  · unfold base_Number_x2
    simp
theorem okN_parts {s : List UInt8} {most : Nat} (h : okN s most = true) : trimM s ≠ [] ∧ (trimM s).length ≤ most ∧ (∀ c ∈ trimM s, isDig c = true) ∧ ¬ ((trimM s).head? = some 48 ∧ (1 < (trimM s).length ∨ (trimM s).length < s.length)) := by
  unfold okN at h
  simp only [Bool.and_eq_true, Bool.not_eq_true', decide_eq_true_eq, List.all_eq_true, List.isEmpty_eq_false_iff, Bool.and_eq_false_iff, decide_eq_false_iff_not, Bool.or_eq_false_iff] at h
  obtain ⟨h1, h2, h3, h4⟩ := h
  refine ⟨h1, h2, h4, fun ⟨g1, g2⟩ => ?_⟩
  rcases h3 with h3 | h3
  · exact h3 g1
  · rcases g2 with g2 | g2
    · exact h3.1 g2
    · exact h3.2 g2
theorem Number_p {s : List UInt8} {most : Nat} (hm : most ≤ 17) (hs : s.length ≤ 100000) : base_Number s (most : Int) = some (cond (okN s most) (valN s, true) (0, false)) := by
  have hsl := trim_len s
  unfold base_Number base_Number_x1
  rw [trim_eq]
  simp only [Option.bind_some]
  cases ht : trimM s with
  | nil =>
    have : okN s most = false := by unfold okN; rw [ht]; rfl
    simp [this]
  | cons c l =>
    have hne : ¬ (c :: l = ([] : List UInt8)) := by simp
    simp only [hne, decide_false, cond_false]
    by_cases hl : most < (c :: l).length
    · have h1 : (most : Int) < (((c :: l).length : Nat) : Int) := by omega
      have : okN s most = false := by
        unfold okN; rw [ht]
        have : ¬ (c :: l).length ≤ most := by omega
        rw [decide_eq_false this]
        simp only [Bool.false_and, Bool.and_false]
      simp only [h1, decide_true, cond_true, Option.bind_some, this, cond_false]
    · have h1 : ¬ (most : Int) < (((c :: l).length : Nat) : Int) := by omega
      have a0 : at? (c :: l) 0 = some c := rfl
      simp only [h1, decide_false, cond_false, a0, Option.bind_some]
      by_cases hc : c = 48 ∧ (1 < (c :: l).length ∨ (c :: l).length < s.length)
      · have : okN s most = false := by
          unfold okN; rw [ht]
          obtain ⟨rfl, h2⟩ := hc
          have : (decide (1 < ((48 : UInt8) :: l).length) || decide (((48 : UInt8) :: l).length < s.length)) = true := by simpa using h2
          simp only [List.head?_cons, decide_true, Bool.true_and, this, Bool.not_true, Bool.false_and, Bool.and_false]
        obtain ⟨rfl, h2⟩ := hc
        have e48 : (((48 : UInt8).toNat : Nat) : Int) = 48 := rfl
        rw [this]
        simp only [e48, decide_true, cond_true]
        by_cases h3 : 1 < ((48 : UInt8) :: l).length
        · have h3' : (1 : Int) < ((((48 : UInt8) :: l).length : Nat) : Int) := by omega
          simp only [h3', decide_true, cond_true, Option.bind_some, cond_false]
        · have h3' : ¬ (1 : Int) < ((((48 : UInt8) :: l).length : Nat) : Int) := by omega
          have h4 : ((((48 : UInt8) :: l).length : Nat) : Int) < ((s.length : Nat) : Int) := by rcases h2 with h2 | h2 <;> omega
          simp only [h3', h4, decide_true, decide_false, cond_true, cond_false, Option.bind_some]
      · have hx : (cond (decide (((c.toNat : Nat) : Int) = 48)) (cond (decide ((1 : Int) < (((c :: l).length : Nat) : Int))) (some true) (some (decide ((((c :: l).length : Nat) : Int) < ((s.length : Nat) : Int))))) (some false)) = some false := by
          by_cases h2 : c = 48
          · subst h2
            have e48 : (((48 : UInt8).toNat : Nat) : Int) = 48 := rfl
            have h3 : ¬ (1 : Int) < ((((48 : UInt8) :: l).length : Nat) : Int) := fun h => hc ⟨rfl, .inl (by omega)⟩
            have h4 : ¬ ((((48 : UInt8) :: l).length : Nat) : Int) < ((s.length : Nat) : Int) := fun h => hc ⟨rfl, .inr (by omega)⟩
            simp only [e48, h3, h4, decide_true, decide_false, cond_true, cond_false]
          · have : ¬ ((c.toNat : Nat) : Int) = 48 := fun e => h2 (UInt8.toNat_inj.1 (by have h48 : (48 : UInt8).toNat = 48 := rfl; rw [h48]; omega))
            simp only [this, decide_false, cond_false]
        rw [hx]
        simp only [Option.bind_some, cond_false, num_x2 (t := c :: l) (by omega)]
        cases hall : (c :: l).all isDig with
        | false =>
          have : okN s most = false := by unfold okN; rw [ht, hall]; simp
          rw [this]
          rfl
        | true =>
          have hd : ∀ x ∈ trimM s, isDig x = true := by rw [ht]; exact List.all_eq_true.1 hall
          have hok : okN s most = true := by
            unfold okN
            rw [ht, hall]
            have h2 : (c :: l).length ≤ most := by omega
            simp only [h2, decide_true, List.head?_cons, Option.some.injEq, List.isEmpty_cons, Bool.not_false, Bool.true_and, Bool.and_true, Bool.not_eq_true']
            rw [Bool.and_eq_false_iff]
            by_cases h3 : c = 48
            · right
              have h4 : ¬ (1 < (c :: l).length ∨ (c :: l).length < s.length) := fun h => hc ⟨h3, h⟩
              have h5 : ¬ 1 < (c :: l).length := fun h => h4 (.inl h)
              have h6 : ¬ (c :: l).length < s.length := fun h => h4 (.inr h)
              simp only [h5, h6, decide_false, Bool.or_false]
            · left
              simp [h3]
          have := atoi_eq hd (by rw [ht]; simp) (by rw [ht]; omega)
          simp only [cond_true, Option.bind_some, this, hok]
theorem digs_contains (c : UInt8) : ([48, 49, 50, 51, 52, 53, 54, 55, 56, 57] : List UInt8).contains c = isDig c := by
  have h : ((List.range 256).all fun n => ([48, 49, 50, 51, 52, 53, 54, 55, 56, 57] : List UInt8).contains (UInt8.ofNat n) == isDig (UInt8.ofNat n)) = true := by decide +kernel
  have := u8_all (p := fun c => ([48, 49, 50, 51, 52, 53, 54, 55, 56, 57] : List UInt8).contains c == isDig c) h c
  simpa using this
theorem Number_r {s : List UInt8} {most : Nat} (hm : most ≤ 17) (hs : s.length ≤ 100000) : ∃ x, fleetref2_Number s (most : Int) = some (x, okN s most) ∧ (okN s most = true → x = valN s) := by
  have hsl := trim_len s
  unfold fleetref2_Number fleetref2_Number_x1
  rw [trim_eq]
  simp only [Option.bind_some]
  cases ht : trimM s with
  | nil =>
    have : okN s most = false := by unfold okN; rw [ht]; rfl
    exact ⟨0, by simp [this], by rw [this]; intro h; cases h⟩
  | cons c l =>
    have hne : ¬ (c :: l = ([] : List UInt8)) := by simp
    simp only [hne, decide_false, cond_false]
    by_cases hl : most < (c :: l).length
    · have h1 : (most : Int) < (((c :: l).length : Nat) : Int) := by omega
      have : okN s most = false := by
        unfold okN; rw [ht]
        have : ¬ (c :: l).length ≤ most := by omega
        rw [decide_eq_false this]
        simp only [Bool.false_and, Bool.and_false]
      simp only [h1, decide_true, cond_true, Option.bind_some, this]
      exact ⟨0, rfl, fun h => by cases h⟩
    · have h1 : ¬ (most : Int) < (((c :: l).length : Nat) : Int) := by omega
      have hon : fleetref2_only (c :: l) [48, 49, 50, 51, 52, 53, 54, 55, 56, 57] = some ((c :: l).all isDig) := by
        rw [only_eq _ _ (by omega)]
        congr 1
        have : (fun c => ([48, 49, 50, 51, 52, 53, 54, 55, 56, 57] : List UInt8).contains c) = isDig := funext digs_contains
        rw [this]
      simp only [h1, decide_false, cond_false, hon, Option.bind_some]
      cases hall : (c :: l).all isDig with
      | false =>
        have : okN s most = false := by unfold okN; rw [ht, hall]; simp
        rw [this]
        exact ⟨0, rfl, fun h => by cases h⟩
      | true =>
        have hd : ∀ x ∈ trimM s, isDig x = true := by rw [ht]; exact List.all_eq_true.1 hall
        have hat := atoi_eq hd (by rw [ht]; simp) (by rw [ht]; omega)
        have hlt := natV_lt hd
        have hp : 10 ^ (trimM s).length ≤ 10 ^ 17 := Nat.pow_le_pow_right (by omega) (by rw [ht]; omega)
        have hv : -9223372036854775808 ≤ valN s ∧ valN s ≤ 9223372036854775807 := by unfold valN; split <;> omega
        have hit : strconv_Itoa (valN s) = some (Lib.itoa (valN s)) := by
          unfold strconv_Itoa
          rw [gd_true (by simp; omega)]
        simp only [Bool.not_true, cond_false, hat, Option.bind_some, hit]
        refine ⟨valN s, ?_, fun _ => rfl⟩
        congr 2
        rw [Bool.eq_iff_iff, decide_eq_true_eq]
        have hd' : ∀ x ∈ c :: l, isDig x = true := List.all_eq_true.1 hall
        have key := dec_iff hd' (by simp)
        have hok : okN s most = true ↔ ¬ (c = 48 ∧ (1 < (c :: l).length ∨ (c :: l).length < s.length)) := by
          constructor
          · intro h
            have := (okN_parts h).2.2.2
            rw [ht] at this
            simpa using this
          · intro h
            unfold okN
            rw [ht, hall]
            have h2 : (c :: l).length ≤ most := by omega
            simp only [h2, decide_true, List.head?_cons, Option.some.injEq, List.isEmpty_cons, Bool.not_false, Bool.true_and, Bool.and_true, Bool.not_eq_true']
            rw [Bool.and_eq_false_iff]
            by_cases h3 : c = 48
            · right
              have h5 : ¬ 1 < (c :: l).length := fun g => h ⟨h3, .inl g⟩
              have h6 : ¬ (c :: l).length < s.length := fun g => h ⟨h3, .inr g⟩
              simp only [h5, h6, decide_false, Bool.or_false]
            · left
              simp [h3]
        rw [hok]
        have hs0 : s = c :: l ∧ c ≠ 45 ∨ s = 45 :: c :: l := by
          cases s with
          | nil => simp [trimM] at ht
          | cons b m =>
            by_cases hb : b = 45
            · right
              have e : trimM (b :: m) = m := by unfold trimM; simp only [hb, if_true]
              rw [e] at ht
              rw [hb, ht]
            · left
              have e : trimM (b :: m) = b :: m := by unfold trimM; simp only [hb, if_false]
              rw [e] at ht
              injection ht with g1 g2
              exact ⟨by rw [g1, g2], by rw [← g1]; exact hb⟩
        unfold valN
        rw [ht]
        rcases hs0 with ⟨rfl, h45⟩ | rfl
        · have hh : ¬ (c :: l).head? = some 45 := by simpa using h45
          rw [if_neg hh]
          have e : Lib.itoa ((natV (c :: l) : Nat) : Int) = Lib.decDigits (natV (c :: l)) := by unfold Lib.itoa; rw [if_neg (by omega)]; simp
          rw [e, key]
          constructor
          · rintro h ⟨h1, h2⟩
            rcases h2 with h2 | h2
            · exact h h2 (by simpa using h1)
            · omega
          · intro h h1 h0
            exact h ⟨by simpa using h0, .inl h1⟩
        · have hh : ((45 : UInt8) :: c :: l).head? = some 45 := rfl
          rw [if_pos hh]
          by_cases hz : natV (c :: l) = 0
          · have e : Lib.itoa (-((natV (c :: l) : Nat) : Int)) = [48] := by
              rw [hz]; unfold Lib.itoa; rw [if_neg (by omega)]
              exact dec_small (by omega)
            rw [e]
            have hc48 : c = 48 := by
              refine Classical.byContradiction fun h => ?_
              have := natV_pos hd' (fun _ => by simpa using h) (by simp)
              omega
            constructor
            · intro h; have := congrArg List.length h; simp at this
            · intro h; exact absurd ⟨hc48, .inr (by simp)⟩ h
          · have e : Lib.itoa (-((natV (c :: l) : Nat) : Int)) = 45 :: Lib.decDigits (natV (c :: l)) := by unfold Lib.itoa; rw [if_pos (by omega)]; simp
            rw [e]
            constructor
            · intro h
              injection h with _ h
              have hk := key.1 h
              rintro ⟨h1, _⟩
              by_cases hlen : 1 < (c :: l).length
              · exact hk hlen (by simpa using h1)
              · have hl0 : l = [] := by simp at hlen; exact hlen
                exact hz (by rw [hl0, h1]; rfl)
            · intro h
              rw [key.2 fun h1 h0 => h ⟨by simpa using h0, .inl h1⟩]
end Go.Eng

/-
strings.Split at one byte.
-/
namespace Go.Eng
open Go
set_option linter.unusedVariables false
set_option linter.unusedSimpArgs false
def splitC (c : UInt8) : List UInt8 → List (List UInt8)
  | [] => [[]]
  | x :: l => if x = c then [] :: splitC c l else match splitC c l with
    | h :: t => (x :: h) :: t
    | [] => [[x]]
theorem splitC_cons (c x : UInt8) (l : List UInt8) : splitC c (x :: l) = if x = c then [] :: splitC c l else match splitC c l with
    | h :: t => (x :: h) :: t
    | [] => [[x]] := rfl
theorem splitC_ne (c : UInt8) : ∀ l, splitC c l ≠ []
  | [] => by simp [splitC]
  | x :: l => by
    unfold splitC
    split
    · simp
    · split <;> simp
theorem splitC_none {c : UInt8} : ∀ {l : List UInt8}, (∀ x ∈ l, x ≠ c) → splitC c l = [l]
  | [], _ => rfl
  | x :: l, h => by
    have ih := splitC_none (l := l) fun y hy => h y (by simp [hy])
    unfold splitC
    rw [if_neg (h x (by simp)), ih]
theorem splitC_at {c : UInt8} : ∀ {a b : List UInt8}, (∀ x ∈ a, x ≠ c) → splitC c (a ++ c :: b) = a :: splitC c b
  | [], b, _ => by rw [List.nil_append, splitC_cons, if_pos rfl]
  | x :: a, b, h => by
    have ih := splitC_at (a := a) (b := b) fun y hy => h y (by simp [hy])
    rw [List.cons_append, splitC_cons, if_neg (h x (by simp)), ih]
theorem splitC_len (c : UInt8) : ∀ l, (splitC c l).length = l.count c + 1
  | [] => rfl
  | x :: l => by
    have ih := splitC_len c l
    unfold splitC
    by_cases h : x = c
    · rw [if_pos h, List.length_cons, ih, h, List.count_cons_self]
    · rw [if_neg h, List.count_cons_of_ne h]
      cases hs : splitC c l with
      | nil => exact absurd hs (splitC_ne c l)
      | cons y t => rw [hs] at ih; simpa using ih
theorem splitC_bd (c : UInt8) : ∀ l, ∀ x ∈ splitC c l, x.length ≤ l.length
  | [], x, hx => by simp [splitC] at hx; simp [hx]
  | y :: l, x, hx => by
    have ih := splitC_bd c l
    unfold splitC at hx
    split at hx
    · rcases List.mem_cons.1 hx with rfl | hx
      · simp
      · have := ih x hx; simp; omega
    · split at hx
      · rename_i h t he
        rcases List.mem_cons.1 hx with rfl | hx
        · have := ih h (by rw [he]; simp); simp; omega
        · have := ih x (by rw [he]; simp [hx]); simp; omega
      · simp at hx; simp [hx]
theorem byte_back (c : UInt8) : (((c.toNat : Nat) : Int)).toNat.toUInt8 = c := by simp
theorem index1_eq (s : List UInt8) (c : UInt8) : strings_Index s [c] = some (Lib.indexByte s c) := by
  unfold strings_Index stringslite_Index stringslite_Index_x1 stringslite_IndexByte
  have n0 : ¬ ((([c] : List UInt8).length : Nat) : Int) = 0 := by simp
  have n1 : ((([c] : List UInt8).length : Nat) : Int) = 1 := by simp
  have a0 : at? [c] 0 = some c := rfl
  simp only [n0, n1, decide_true, decide_false, cond_true, cond_false, Option.bind_some, a0, byte_back]
  by_cases h : [c] = s
  · subst h
    simp only [decide_true, cond_true, Option.bind_some]
    congr 1
    unfold Lib.indexByte
    simp
  · simp only [h, show ¬ ((1 : Int) = 0) by decide, decide_true, decide_false, cond_true, cond_false, Option.bind_some]
theorem index_cases (s : List UInt8) (c : UInt8) : (Lib.indexByte s c < 0 ∧ s.count c = 0 ∧ ∀ x ∈ s, x ≠ c) ∨ ∃ a b, s = a ++ c :: b ∧ Lib.indexByte s c = (a.length : Int) ∧ (∀ x ∈ a, x ≠ c) ∧ s.count c = b.count c + 1 := by
  by_cases h : Lib.indexByte s c < 0
  · have hn := indexByte_neg s c
    rw [decide_eq_true h] at hn
    have hc : s.contains c = false := by simpa using hn.symm
    have hc : ¬ c ∈ s := by simpa using hc
    exact .inl ⟨h, List.count_eq_zero.2 hc, fun x hx e => hc (e ▸ hx)⟩
  · right
    obtain ⟨o, ho⟩ : ∃ o : Nat, Lib.indexByte s c = o := ⟨(Lib.indexByte s c).toNat, by omega⟩
    obtain ⟨h1, h2⟩ := Lib.indexByte_some ho
    obtain ⟨hl, h3⟩ := List.getElem?_eq_some_iff.1 h1
    have ha : ∀ x ∈ s.take o, x ≠ c := fun x hx e => by
      obtain ⟨i, hi, rfl⟩ := List.mem_iff_getElem.1 hx
      have hio : i < o := by have := hi; rw [List.length_take] at this; omega
      apply h2 i hio
      rw [List.getElem?_eq_getElem (by omega), ← e]
      simp
    have e : s = s.take o ++ c :: s.drop (o + 1) := by rw [← h3, List.getElem_cons_drop, List.take_append_drop]
    refine ⟨s.take o, s.drop (o + 1), e, by rw [ho]; simp; omega, ha, ?_⟩
    have : (s.take o).count c = 0 := List.count_eq_zero.2 fun h => ha c h rfl
    have e9 := congrArg (List.count c) e
    rw [List.count_append, List.count_cons_self, this] at e9
    omega
theorem split_eq {s : List UInt8} {c : UInt8} (hs : s.length ≤ 10000000) : strings_Split s [c] = some (splitC c s) := by
  unfold strings_Split strings_genSplit strings_genSplit_x1 strings_Count
  have n0 : ¬ ((([c] : List UInt8).length : Nat) : Int) = 0 := by simp
  have n1 : ((([c] : List UInt8).length : Nat) : Int) = 1 := by simp
  have a0 : at? [c] 0 = some c := rfl
  have ne : ¬ ([c] : List UInt8) = [] := by simp
  have hcl : s.count c ≤ s.length := List.count_le_length
  have hcb : countB s c = (s.count c : Int) := rfl
  simp only [show ¬ ((1 : Int) = 0) by decide, show ¬ ((-1 : Int) = 0) by decide, show ((-1 : Int) < 0) by decide, n0, n1, ne, decide_true, decide_false, cond_true, cond_false, Option.bind_some, a0, byte_back, hcb]
  rw [wrap64 (n := (s.count c : Int) + 1) (by omega) (by omega), wrap64 (n := (s.length : Int) + 1) (by omega) (by omega)]
  have hmin : imin ((s.count c : Int) + 1) ((s.length : Int) + 1) = ((s.count c + 1 : Nat) : Int) := by unfold imin; split <;> omega
  rw [hmin]
  have hg : (decide (0 ≤ ((s.count c + 1 : Nat) : Int)) && decide (((s.count c + 1 : Nat) : Int) ≤ ((s.count c + 1 : Nat) : Int)) && decide (((s.count c + 1 : Nat) : Int) ≤ 137438953472)) = true := by simp; omega
  rw [gd_true hg]
  generalize hN : s.count c = N at *
  have key : Ok (loopO (strings_genSplit_x2 s [c] 0 ((N : Int) + 1)) (s, List.replicate (((N + 1 : Nat) : Int)).toNat ([] : List UInt8), 0)) (fun r => r.2.2 = (N : Int) ∧ r.2.1.length = N + 1 ∧ r.2.1.take N ++ [r.1] = splitC c s) := by
    refine loop_ok (fun q : List UInt8 × List (List UInt8) × Int => ∃ i : Nat, q.2.2 = (i : Int) ∧ i + q.1.count c = N ∧ q.2.1.length = N + 1 ∧ q.1.length ≤ s.length ∧ q.2.1.take i ++ splitC c q.1 = splitC c s) (fun q => ((N : Int) - q.2.2).toNat) ?_ ⟨0, rfl, by simp [hN], by simp, Nat.le_refl _, by simp⟩
    rintro ⟨x, a, q⟩ ⟨i, rfl, h1, h2, h3, h4⟩
    simp only at h1 h2 h3 h4
    unfold strings_genSplit_x2
    rw [wrap64 (n := (s.length : Int) + 1) (by omega) (by omega), hmin, wrap64 (n := ((N + 1 : Nat) : Int) - 1) (by omega) (by omega)]
    by_cases hi : i < N
    · have hi' : (i : Int) < ((N + 1 : Nat) : Int) - 1 := by omega
      simp only [hi', decide_true, cond_true, index1_eq, Option.bind_some]
      rcases index_cases x c with ⟨_, h0, _⟩ | ⟨u, v, e, e2, e3, e4⟩
      · omega
      · have hxl : x.length = u.length + (v.length + 1) := by rw [e]; simp
        have nn : ¬ ((u.length : Nat) : Int) < 0 := by omega
        have s1 : sub? x 0 (IntKind.wrap .i64 (((u.length : Nat) : Int) + 0)) = some u := by
          rw [wrap64 (by omega) (by omega)]
          unfold sub?
          rw [if_pos ⟨by omega, by omega, by omega⟩, e]
          simp
        have s2 : sub? x (IntKind.wrap .i64 (((u.length : Nat) : Int) + 1)) (x.length : Int) = some v := by
          rw [wrap64 (by omega) (by omega)]
          unfold sub?
          rw [if_pos ⟨by omega, by omega, by omega⟩]
          congr 1
          have t1 : x.take (x.length : Int).toNat = x := by simp
          rw [t1, e, show (((u.length : Nat) : Int) + 1).toNat = (u ++ [c]).length by simp, show u ++ c :: v = (u ++ [c]) ++ v by simp, List.drop_left]
        simp only [e2, nn, decide_false, cond_false, n1, s1, s2, Option.bind_some, at_nat (show i < a.length by omega)]
        rw [wrap64 (n := (i : Int) + 1) (by omega) (by omega)]
        refine .some ⟨⟨i + 1, by simp, by simp only; omega, by simp [h2], by simp only; omega, ?_⟩, by simp only; omega⟩
        simp only
        rw [← h4, e, splitC_at e3]
        have : ((a.set (i : Int).toNat u).take (i + 1)) = a.take i ++ [u] := by
          rw [Int.toNat_natCast, List.take_succ_eq_append_getElem (by simp; omega), List.take_set_of_le (Nat.le_refl _)]
          simp
        rw [this]
        simp
    · have hi' : ¬ (i : Int) < ((N + 1 : Nat) : Int) - 1 := by omega
      simp only [hi', decide_false, cond_false]
      have hiN : i = N := by omega
      subst hiN
      refine .some ⟨rfl, h2, ?_⟩
      have : x.count c = 0 := by omega
      rw [splitC_none (fun y hy e => List.count_eq_zero.1 this (by rw [← e]; exact hy))] at h4
      exact h4
  obtain ⟨⟨x, a, q⟩, r1, r2, r3, r4⟩ := key
  simp only at r2 r3 r4
  subst r2
  rw [r1]
  simp only [Option.bind_some, at_nat (show N < a.length by omega)]
  rw [wrap64 (n := (N : Int) + 1) (by omega) (by omega), gd_true (by simp; omega)]
  simp only [Option.bind_some]
  congr 1
  rw [← r4]
  have : ((N : Int) + 1).toNat = N + 1 := by omega
  rw [this, Int.toNat_natCast, List.take_succ_eq_append_getElem (by simp; omega), List.take_set_of_le (Nat.le_refl _)]
  simp
end Go.Eng

/-
Texts by lines: the code cuts a text into lines first, the document takes line by line; both stop at the same line.
-/
namespace Go.Eng
open Go
set_option linter.unusedVariables false
set_option linter.unusedSimpArgs false

theorem splitC_snoc (c : UInt8) : ∀ l, splitC c (l ++ [c]) = splitC c l ++ [[]]
  | [] => by rw [List.nil_append, splitC_cons, if_pos rfl]; rfl
  | x :: l => by
    rw [List.cons_append, splitC_cons, splitC_cons, splitC_snoc c l]
    by_cases hx : x = c
    · rw [if_pos hx, if_pos hx]; rfl
    · rw [if_neg hx, if_neg hx]
      cases h : splitC c l with
      | nil => exact absurd h (splitC_ne c l)
      | cons a r => rfl
theorem sufx_nl {b : List UInt8} (hb : b.length ≤ 10000000) : strings_CutSuffix (b ++ [10]) [10] = some (b, true) := by
  unfold strings_CutSuffix stringslite_CutSuffix stringslite_HasSuffix stringslite_HasSuffix_x1
  have h1 : (([10] : List UInt8).length : Int) ≤ ((b ++ [10]).length : Int) := by simp only [List.length_append, List.length_cons, List.length_nil]; omega
  have h2 : IntKind.wrap .i64 (((b ++ [10]).length : Int) - (([10] : List UInt8).length : Int)) = (b.length : Int) := by rw [wrap64 (by simp only [List.length_append, List.length_cons, List.length_nil]; omega) (by simp only [List.length_append, List.length_cons, List.length_nil]; omega)]; simp only [List.length_append, List.length_cons, List.length_nil]; omega
  rw [h2]
  simp only [h1, decide_true, cond_true]
  have h3 : sub? (b ++ [10]) (b.length : Int) ((b ++ [10]).length : Int) = some [10] := by
    unfold sub?
    rw [if_pos (by simp only [List.length_append, List.length_cons, List.length_nil]; omega)]
    rw [Int.toNat_natCast, Int.toNat_natCast, List.take_length]
    simp
  have h4 : sub? (b ++ [10]) 0 (b.length : Int) = some b := by
    unfold sub?
    rw [if_pos (by simp only [List.length_append, List.length_cons, List.length_nil]; omega)]
    simp
  simp only [h3, h4, Option.bind_some, decide_true, Bool.not_true, cond_false]
theorem sufx_no {s : List UInt8} (hs : s.length ≤ 10000000) (h : s.getLast? ≠ some 10) : strings_CutSuffix s [10] = some (s, false) := by
  unfold strings_CutSuffix stringslite_CutSuffix stringslite_HasSuffix stringslite_HasSuffix_x1
  by_cases h0 : s = []
  · subst h0; rfl
  · have hl : 0 < s.length := List.length_pos_iff.2 h0
    have h1 : (([10] : List UInt8).length : Int) ≤ (s.length : Int) := by simp; omega
    have h2 : IntKind.wrap .i64 ((s.length : Int) - (([10] : List UInt8).length : Int)) = ((s.length - 1 : Nat) : Int) := by rw [wrap64 (by simp; omega) (by simp; omega)]; simp; omega
    rw [h2]
    simp only [h1, decide_true, cond_true]
    have h3 : sub? s ((s.length - 1 : Nat) : Int) (s.length : Int) = some [s.getLast h0] := by
      unfold sub?
      rw [if_pos (by omega)]
      congr 1
      have e := List.dropLast_concat_getLast h0
      have hd : s.drop (s.length - 1) = [s.getLast h0] := by
        conv => lhs; rw [← e]
        rw [List.drop_append_of_le_length (by simp)]
        simp
      rw [Int.toNat_natCast, Int.toNat_natCast, List.take_length]
      exact hd
    have h4 : ¬ ([s.getLast h0] = [10]) := by
      intro e
      apply h
      rw [List.getLast?_eq_some_getLast h0]
      injection e with e
      rw [e]
    simp [h3, h4]
/-- The lines that are ended, and what is left behind them. -/
def fulls (t : List UInt8) : List (List UInt8) := (splitC 10 t).dropLast
def left (t : List UInt8) : List UInt8 := (splitC 10 t).getLastD []
theorem segs_eq (t : List UInt8) : splitC 10 t = fulls t ++ [left t] := by
  unfold fulls left
  have h := splitC_ne 10 t
  rw [List.getLastD_eq_getLast?, List.getLast?_eq_some_getLast h]
  exact (List.dropLast_concat_getLast h).symm
theorem fulls_cons {a b : List UInt8} (ha : ∀ x ∈ a, x ≠ 10) : fulls (a ++ 10 :: b) = a :: fulls b ∧ left (a ++ 10 :: b) = left b := by
  have h := splitC_at (b := b) ha
  have e := segs_eq b
  unfold fulls left at *
  rw [h, e]
  constructor
  · rw [← List.cons_append, List.dropLast_concat, List.dropLast_concat]
  · rw [← List.cons_append, List.getLastD_concat, List.getLastD_concat]
theorem fulls_none {a : List UInt8} (ha : ∀ x ∈ a, x ≠ 10) : fulls a = [] ∧ left a = a := by
  unfold fulls left
  rw [splitC_none ha]
  exact ⟨rfl, rfl⟩
theorem Lines_eq {t : List UInt8} (ht : t.length ≤ 10000000) : base_Lines t = some (cond (left t).isEmpty (fulls t, true) (fulls t ++ [left t], false)) := by
  unfold base_Lines
  by_cases h0 : t = []
  · subst h0; rfl
  · simp only [h0, decide_false, cond_false]
    by_cases h1 : t.getLast? = some 10
    · obtain ⟨b, rfl⟩ : ∃ b, t = b ++ [10] := by
        refine ⟨t.dropLast, ?_⟩
        have e := List.dropLast_concat_getLast h0
        rw [List.getLast?_eq_some_getLast h0] at h1
        injection h1 with h1
        rw [h1] at e
        exact e.symm
      rw [sufx_nl (by simp at ht; omega)]
      simp only [Option.bind_some]
      rw [split_eq (by simp at ht; omega)]
      have e := splitC_snoc 10 b
      have e2 := segs_eq (b ++ [10])
      rw [e] at e2
      have e3 := List.append_inj' e2 rfl
      have e4 : left (b ++ [10]) = [] := by have := e3.2; simpa using this.symm
      rw [e4, ← e3.1]
      rfl
    · rw [sufx_no ht h1]
      simp only [Option.bind_some]
      rw [split_eq ht, ← segs_eq]
      have hne : left t ≠ [] := by
        intro e
        have e2 := segs_eq t
        rw [e] at e2
        -- the text ends with a line feed, or is empty
        have key : ∀ (n : Nat) (t : List UInt8), t.length ≤ n → left t = [] → t = [] ∨ t.getLast? = some 10 := by
          intro n
          induction n with
          | zero => intro t h _; exact .inl (List.eq_nil_of_length_eq_zero (by omega))
          | succ n ih =>
            intro t h hl
            rcases index_cases t 10 with ⟨_, _, h3⟩ | ⟨a, b, rfl, _, h3, _⟩
            · rw [(fulls_none h3).2] at hl; exact .inl hl
            · rw [(fulls_cons h3).2] at hl
              right
              rcases ih b (by simp at h; omega) hl with rfl | h4
              · simp
              · cases b with
                | nil => simp at h4
                | cons x b => rw [List.getLast?_append]; simp [h4, List.getLast?_cons_cons]
        rcases key _ t (Nat.le_refl _) e with h2 | h2
        · exact h0 h2
        · exact h1 h2
      cases h5 : left t with
      | nil => exact absurd h5 hne
      | cons x l => rfl
theorem fulls_len (t : List UInt8) : (fulls t).length ≤ t.length := by
  unfold fulls
  rw [List.length_dropLast, splitC_len]
  have := List.count_le_length (a := (10 : UInt8)) (l := t)
  omega
theorem fulls_bd (t : List UInt8) : ∀ x ∈ fulls t, x.length ≤ t.length := fun x hx => splitC_bd 10 t x (by rw [segs_eq t]; exact List.mem_append_left _ hx)
theorem cut_cases {t : List UInt8} (ht : t.length ≤ 10000000) : (strings_Cut t [10] = some (t, [], false) ∧ ∀ x ∈ t, x ≠ 10) ∨ ∃ a b, t = a ++ 10 :: b ∧ (∀ x ∈ a, x ≠ 10) ∧ strings_Cut t [10] = some (a, b, true) := by
  have hi : stringslite_Index t [10] = some (Lib.indexByte t 10) := by
    have h := index1_eq t 10
    unfold strings_Index at h
    cases e : stringslite_Index t [10] with
    | none => rw [e] at h; cases h
    | some v => rw [e] at h; exact h
  rcases index_cases t 10 with ⟨h1, _, h3⟩ | ⟨a, b, rfl, h2, h3, _⟩
  · left
    refine ⟨?_, h3⟩
    unfold strings_Cut stringslite_Cut
    have : ¬ (0 : Int) ≤ Lib.indexByte t 10 := by omega
    simp [hi, this]
  · right
    refine ⟨a, b, rfl, h3, ?_⟩
    unfold strings_Cut stringslite_Cut
    rw [hi, h2]
    have h5 : sub? (a ++ 10 :: b) 0 (a.length : Int) = some a := by
      unfold sub?
      rw [if_pos (by simp only [List.length_append, List.length_cons, List.length_nil]; omega)]
      simp
    have h6 : sub? (a ++ 10 :: b) (IntKind.wrap .i64 ((a.length : Int) + (([10] : List UInt8).length : Int))) ((a ++ 10 :: b).length : Int) = some b := by
      simp only [List.length_append, List.length_cons] at ht
      rw [wrap64 (by simp only [List.length_append, List.length_cons, List.length_nil]; omega) (by simp only [List.length_append, List.length_cons, List.length_nil]; omega)]
      unfold sub?
      rw [if_pos (by simp only [List.length_append, List.length_cons, List.length_nil]; omega)]
      congr 1
      have e : (((a.length : Int) + (([10] : List UInt8).length : Int))).toNat = a.length + 1 := by simp only [List.length_append, List.length_cons, List.length_nil]; omega
      rw [e, Int.toNat_natCast, List.take_length, show a ++ 10 :: b = (a ++ [10]) ++ b by simp, List.drop_append_of_le_length (by simp)]
      rw [List.drop_of_length_le (by simp)]
      rfl
    have h7 : (0 : Int) ≤ (a.length : Int) := by omega
    simp only [Option.bind_some, h7, decide_true, cond_true, h5, h6]

/-! ### Line by line -/
def scanR {α : Type} (rd : List UInt8 → Option α) : List (List UInt8) → Nat → List α ⊕ Nat
  | [], _ => .inl []
  | a :: F, i => match rd a with
    | none => .inr i
    | some x => match scanR rd F (i + 1) with
      | .inl xs => .inl (x :: xs)
      | .inr j => .inr j
/-- What is read of a text: all, or up to which line. -/
def readL {α : Type} (rd : List UInt8 → Option α) (t : List UInt8) : List α ⊕ Nat := match scanR rd (fulls t) 0 with
  | .inl xs => if left t = [] then .inl xs else .inr (fulls t).length
  | .inr j => .inr j
theorem scanR_len {α : Type} {rd : List UInt8 → Option α} : ∀ {F : List (List UInt8)} {i : Nat} {xs : List α}, scanR rd F i = .inl xs → xs.length = F.length ∧ ∀ x ∈ xs, ∃ a ∈ F, rd a = some x
  | [], i, xs, h => by injection h with h; subst h; exact ⟨rfl, fun x hx => by cases hx⟩
  | a :: F, i, xs, h => by
    unfold scanR at h
    cases e : rd a with
    | none => rw [e] at h; cases h
    | some x =>
      rw [e] at h
      cases e2 : scanR rd F (i + 1) with
      | inr j => rw [e2] at h; cases h
      | inl ys =>
        rw [e2] at h
        injection h with h; subst h
        obtain ⟨h1, h2⟩ := scanR_len e2
        refine ⟨by simp [h1], fun z hz => ?_⟩
        rcases List.mem_cons.1 hz with rfl | hz
        · exact ⟨a, by simp, e⟩
        · obtain ⟨b, hb, hr⟩ := h2 z hz
          exact ⟨b, List.mem_cons_of_mem _ hb, hr⟩
section
variable {α : Type} (f : List UInt8 → List α → Option (List α × Bool)) (rd : List UInt8 → Option α)
/-- How a line is taken. -/
def Reads : Prop := ∀ (line : List UInt8) (s : List α), line.length ≤ 100000 → s.length ≤ 1000000 → ∃ s', f line s = some (s', (rd line).isSome) ∧ ∀ x, rd line = some x → s' = s ++ [x]
noncomputable def eachX (l : List (List UInt8)) (ends : Bool) : (List α) × Int → Option (((List α) × Int) ⊕ ((List α) ⊕ ((List α) × Int)))
  | (vs, vx) =>
  cond (decide (vx < (l.length : Int)))
    ((at? l vx).bind fun vy1 =>
    (cond (!ends)
      (cond (decide (vx = (IntKind.wrap .i64 ((l.length : Int) - 1))))
        (some (vs, true))
        ((f vy1 vs).bind fun (vs2_2, vr3_2) =>
        some (vs2_2, !vr3_2)))
      ((f vy1 vs).bind fun (vs2_3, vr3_3) =>
      some (vs2_3, !vr3_3))).bind fun (vs3_1, vx2_1) =>
    cond (vx2_1)
      (some (.inr (.inr (vs3_1, vx))))
      (some (.inl (vs3_1, IntKind.wrap .i64 (vx + 1)))))
    (some (.inr (.inl vs)))
noncomputable def linesX : (List α) × (List UInt8) × Int → Option (((List α) × (List UInt8) × Int) ⊕ ((List α) ⊕ ((List α) × Int)))
  | (vs, vtext, vi) =>
  cond (!decide (vtext = ([] : List UInt8)))
    ((strings_Cut vtext ([10] : List UInt8)).bind fun (vr2, vr4_1, vr5_1) =>
    (cond (!vr5_1)
      (some (vs, true))
      ((f vr2 vs).bind fun (vs3, vr3) =>
      some (vs3, !vr3))).bind fun (vs4_1, vx2_1) =>
    cond (vx2_1)
      (some (.inr (.inr (vs4_1, vi))))
      (some (.inl (vs4_1, vr4_1, IntKind.wrap .i64 (vi + 1)))))
    (some (.inr (.inl vs)))
variable {f rd}
theorem lines_run (H : Reads f rd) : ∀ (n : Nat) (t : List UInt8) (s : List α) (i : Nat), t.length ≤ n → n ≤ 100000 → s.length ≤ i → i + t.length ≤ 200000 →
    Ok (loopO (linesX f) (s, t, (i : Int))) (fun r => match scanR rd (fulls t) i with
      | .inl xs => if left t = [] then r = .inl (s ++ xs) else ∃ u, r = .inr (u, ((i + (fulls t).length : Nat) : Int))
      | .inr j => ∃ u, r = .inr (u, ((j : Nat) : Int))) := by
  intro n
  induction n with
  | zero =>
    intro t s i h1 _ _ _
    have : t = [] := List.eq_nil_of_length_eq_zero (by omega)
    subst this
    rw [loopO_eq]
    exact .some (by simp [fulls, left, splitC, scanR])
  | succ n ih =>
    intro t s i h1 h2 h3 h4
    by_cases h0 : t = []
    · subst h0
      rw [loopO_eq]
      exact .some (by simp [fulls, left, splitC, scanR])
    · rw [loopO_eq]
      unfold linesX
      simp only [h0, decide_false, Bool.not_false, cond_true]
      rcases cut_cases (t := t) (by omega) with ⟨c1, c2⟩ | ⟨a, b, rfl, c2, c3⟩
      · rw [c1]
        obtain ⟨e1, e2⟩ := fulls_none c2
        simp only [Option.bind_some, Bool.not_false, cond_true]
        rw [e1, e2]
        refine .some ?_
        simp only [scanR, h0, if_false]
        exact ⟨s, by simp⟩
      · rw [c3]
        obtain ⟨e1, e2⟩ := fulls_cons (b := b) c2
        simp only [List.length_append, List.length_cons] at h1 h4
        obtain ⟨s', f1, f2⟩ := H a s (by omega) (by omega)
        simp only [Option.bind_some, Bool.not_true, cond_false, f1]
        rw [e1, e2]
        cases hr : rd a with
        | none =>
          simp only [hr, Option.isSome_none, Bool.not_false, cond_true, Option.bind_some]
          refine .some ?_
          simp only [scanR, hr]
          exact ⟨s', rfl⟩
        | some x =>
          have hs' := f2 x hr
          subst hs'
          simp only [hr, Option.isSome_some, Bool.not_true, cond_false, Option.bind_some]
          rw [wrap64 (n := (i : Int) + 1) (by omega) (by omega)]
          have := ih b (s ++ [x]) (i + 1) (by omega) (by omega) (by simp; omega) (by omega)
          rw [show ((i + 1 : Nat) : Int) = (i : Int) + 1 by simp] at this
          refine this.mono fun r hr2 => ?_
          simp only [scanR, hr]
          cases e3 : scanR rd (fulls b) (i + 1) with
          | inr j => rw [e3] at hr2; exact hr2
          | inl xs =>
            rw [e3] at hr2
            simp only at hr2 ⊢
            split
            · rename_i hl
              rw [if_pos hl] at hr2
              rw [hr2]; simp
            · rename_i hl
              rw [if_neg hl] at hr2
              obtain ⟨u, hu⟩ := hr2
              exact ⟨u, by rw [hu]; simp; omega⟩
theorem each_run (H : Reads f rd) {l F : List (List UInt8)} {ends : Bool} (hl : l.length ≤ 200000) (hb : ∀ x ∈ l, x.length ≤ 100000) (hF : cond ends (l = F) (∃ z, l = F ++ [z])) : ∀ (k i : Nat) (s : List α), F.length - i = k → i ≤ F.length → s.length ≤ i →
    Ok (loopO (eachX f l ends) (s, (i : Int))) (fun r => match scanR rd (F.drop i) i with
      | .inl xs => if ends = true then r = .inl (s ++ xs) else ∃ u, r = .inr (u, ((F.length : Nat) : Int))
      | .inr j => ∃ u, r = .inr (u, ((j : Nat) : Int))) := by
  have hFl : F.length ≤ l.length := by
    cases ends with
    | true => have : l = F := hF; rw [this]; exact Nat.le_refl _
    | false => obtain ⟨z, hz⟩ := (show ∃ z, l = F ++ [z] from hF); rw [hz]; simp
  intro k
  induction k with
  | zero =>
    intro i s h1 h2 h3
    have hi : i = F.length := by omega
    subst hi
    rw [loopO_eq]
    unfold eachX
    rw [List.drop_of_length_le (Nat.le_refl _)]
    cases ends with
    | true =>
      have : l = F := hF
      subst this
      have h' : ¬ ((l.length : Int) < (l.length : Int)) := by omega
      simp only [h', decide_false, cond_false, Option.bind_some]
      exact .some (by simp [scanR])
    | false =>
      obtain ⟨z, rfl⟩ := (show ∃ z, l = F ++ [z] from hF)
      simp only [List.length_append, List.length_cons, List.length_nil] at hl
      have h' : ((F.length : Int) < ((F ++ [z]).length : Int)) := by simp only [List.length_append, List.length_cons, List.length_nil]; omega
      have hw : IntKind.wrap .i64 (((F ++ [z]).length : Int) - 1) = (F.length : Int) := by rw [wrap64 (by simp only [List.length_append, List.length_cons, List.length_nil]; omega) (by simp only [List.length_append, List.length_cons, List.length_nil]; omega)]; simp only [List.length_append, List.length_cons, List.length_nil]; omega
      simp only [h', decide_true, cond_true, hw, at_nat (show F.length < (F ++ [z]).length by simp), Option.bind_some, Bool.not_false]
      exact .some ⟨s, rfl⟩
  | succ k ih =>
    intro i s h1 h2 h3
    have hi : i < F.length := by omega
    rw [loopO_eq]
    unfold eachX
    have h' : (i : Int) < (l.length : Int) := by omega
    have hil : i < l.length := by omega
    have hat : l[i] = F[i] := by
      cases ends with
      | true => have : l = F := hF; subst this; rfl
      | false => obtain ⟨z, rfl⟩ := (show ∃ z, l = F ++ [z] from hF); rw [List.getElem_append_left hi]
    simp only [h', decide_true, cond_true, at_nat hil, Option.bind_some]
    have hstep : (cond (!ends)
      (cond (decide ((i : Int) = (IntKind.wrap .i64 ((l.length : Int) - 1))))
        (some (s, true))
        ((f l[i] s).bind fun (vs2_2, vr3_2) =>
        some (vs2_2, !vr3_2)))
      ((f l[i] s).bind fun (vs2_3, vr3_3) =>
      some (vs2_3, !vr3_3))) = (f l[i] s).bind fun (a, b) => some (a, !b) := by
      cases ends with
      | true => rfl
      | false =>
        obtain ⟨z, hz⟩ := (show ∃ z, l = F ++ [z] from hF)
        have hll : l.length = F.length + 1 := by rw [hz]; simp
        have : ¬ ((i : Int) = IntKind.wrap .i64 ((l.length : Int) - 1)) := by rw [wrap64 (by omega) (by omega)]; omega
        simp only [Bool.not_false, cond_true, this, decide_false, cond_false]
    rw [hstep, hat]
    have hbi : F[i].length ≤ 100000 := by rw [← hat]; exact hb _ (List.getElem_mem hil)
    obtain ⟨s', f1, f2⟩ := H F[i] s hbi (by omega)
    rw [f1]
    simp only [Option.bind_some]
    rw [List.drop_eq_getElem_cons hi]
    cases hr : rd F[i] with
    | none =>
      simp only [hr, Option.isSome_none, Bool.not_false, cond_true]
      refine .some ?_
      simp only [scanR, hr]
      exact ⟨s', rfl⟩
    | some x =>
      have hs' := f2 x hr
      subst hs'
      simp only [hr, Option.isSome_some, Bool.not_true, cond_false]
      rw [wrap64 (n := (i : Int) + 1) (by omega) (by omega)]
      have := ih (i + 1) (s ++ [x]) (by omega) (by omega) (by simp; omega)
      rw [show ((i + 1 : Nat) : Int) = (i : Int) + 1 by simp] at this
      refine this.mono fun r hr2 => ?_
      simp only [scanR, hr]
      cases e3 : scanR rd (F.drop (i + 1)) (i + 1) with
      | inr j => rw [e3] at hr2; exact hr2
      | inl xs =>
        rw [e3] at hr2
        simp only at hr2 ⊢
        split
        · rename_i hl2
          rw [if_pos hl2] at hr2
          rw [hr2]; simp
        · rename_i hl2
          rw [if_neg hl2] at hr2
          exact hr2
/-- What a reader answers: all that is read, or a line. -/
def Told (r : List α × Int × Bool) (q : List α ⊕ Nat) : Prop := match q with
  | .inl xs => r = (xs, 0, true)
  | .inr j => r.2 = ((j : Int), false)
theorem each_told (H : Reads f rd) {t : List UInt8} (ht : t.length ≤ 100000) : Ok ((base_Lines t).bind fun (vr2, vr4) =>
    (loopO (eachX f vr2 vr4) ([], 0)).bind fun x => match x with
      | .inl vs4_1 => some (vs4_1, (0 : Int), true)
      | .inr (vs5_1, vx3_1) => some (vs5_1, vx3_1, false)) (fun r => Told r (readL rd t)) := by
  rw [Lines_eq (by omega)]
  have hlen := fulls_len t
  have hbd := fulls_bd t
  have hlb : (left t).length ≤ t.length := by
    have e := segs_eq t
    exact splitC_bd 10 t _ (by rw [e]; simp)
  unfold readL
  cases hl : left t with
  | nil =>
    simp only [List.isEmpty_nil, cond_true, Option.bind_some]
    refine Ok.bind (each_run (F := fulls t) (ends := true) H (by omega) (fun x hx => by have := hbd x hx; omega) rfl _ 0 [] rfl (by omega) (by simp)) fun r hr => ?_
    rw [List.drop_zero] at hr
    cases e : scanR rd (fulls t) 0 with
    | inl xs =>
      rw [e] at hr
      simp only [if_true, List.nil_append] at hr
      subst hr
      exact .some (by simp [Told])
    | inr j =>
      rw [e] at hr
      obtain ⟨u, rfl⟩ := hr
      exact .some (by simp [Told])
  | cons c l =>
    simp only [List.isEmpty_cons, cond_false, Option.bind_some]
    rw [hl] at hlb
    refine Ok.bind (each_run (F := fulls t) (ends := false) H (by simp; omega) (fun x hx => by
      rcases List.mem_append.1 hx with hx | hx
      · have := hbd x hx; omega
      · rw [List.mem_singleton.1 hx]; omega) ⟨_, rfl⟩ _ 0 [] rfl (by omega) (by simp)) fun r hr => ?_
    rw [List.drop_zero] at hr
    cases e : scanR rd (fulls t) 0 with
    | inl xs =>
      rw [e] at hr
      simp only at hr
      obtain ⟨u, rfl⟩ := hr
      exact .some (by simp [Told])
    | inr j =>
      rw [e] at hr
      obtain ⟨u, rfl⟩ := hr
      exact .some (by simp [Told])
theorem lines_told (H : Reads f rd) {t : List UInt8} (ht : t.length ≤ 100000) : Ok ((loopO (linesX f) ([], t, 0)).bind fun x => match x with
      | .inl vs5_1 => some (vs5_1, (0 : Int), true)
      | .inr (vs6_1, vx3_1) => some (vs6_1, vx3_1, false)) (fun r => Told r (readL rd t)) := by
  refine Ok.bind (lines_run H _ t [] 0 (Nat.le_refl _) ht (by simp) (by omega)) fun r hr => ?_
  unfold readL
  cases e : scanR rd (fulls t) 0 with
  | inl xs =>
    rw [e] at hr
    simp only [List.nil_append] at hr ⊢
    by_cases hl : left t = []
    · rw [if_pos hl] at hr ⊢
      subst hr
      exact .some (by simp [Told])
    · rw [if_neg hl] at hr ⊢
      obtain ⟨u, rfl⟩ := hr
      exact .some (by simp [Told])
  | inr j =>
    rw [e] at hr
    obtain ⟨u, rfl⟩ := hr
    exact .some (by simp [Told])
end
end Go.Eng

/-
Checks of measurements and series, both ways.
-/
namespace Go.Eng
open Go
set_option linter.unusedVariables false
set_option linter.unusedSimpArgs false

theorem cmpInt_eq (a b : Int) : cmp_Compare_int a b = some (cmpI a b) := by
  unfold cmp_Compare_int cmp_isNaN_int cmpI
  by_cases h1 : a < b
  · simp [h1]
  · by_cases h2 : b < a <;> simp [h1, h2]
theorem Or_eq (l : List Int) (hl : (l.length : Int) ≤ 9223372036854775807) : cmp_Or_int l = some ((l.find? fun x => !decide (x = 0)).getD 0) := by
  unfold cmp_Or_int
  rw [range_loop (l := l) (fun _ x => cond (!decide (x = 0)) (some (.inr x)) none) (.inl ()) hl]
  · simp only [Option.bind_some]
    generalize 0 = k
    induction l generalizing k with
    | nil => rfl
    | cons c s ih =>
      simp only [scan, List.find?_cons]
      by_cases hc : c = 0
      · simp only [hc, decide_true, Bool.not_true, cond_false]
        exact ih (by simp at hl; omega) (k + 1)
      · simp [hc]
  · intro i hi
    unfold cmp_Or_int_x1
    rw [at_nat hi]
    have : ((i : Int) < l.length) := by omega
    simp only [this, decide_true, cond_true, Option.bind_some]
    cases (!decide (l[i] = 0)) <;> rfl
  · unfold cmp_Or_int_x1
    simp
theorem sign_eq (n : Int) : fleetref2_sign n = some (cmpI n 0) := by
  unfold fleetref2_sign cmpI
  by_cases h1 : n < 0
  · simp [h1]
  · by_cases h2 : 0 < n <;> simp [h1, h2]
/-! ### Check -/
end Go.Eng

/-
Series and windows; faults.
-/
namespace Go.Eng
open Go
set_option linter.unusedVariables false
set_option linter.unusedSimpArgs false

end Go.Eng

/-
The measured constant.
-/
namespace Go.Eng
open Go
set_option linter.unusedVariables false
set_option linter.unusedSimpArgs false

end Go.Eng

/-
The streams.
-/
namespace Go.Eng
open Go
set_option linter.unusedVariables false
set_option linter.unusedSimpArgs false

theorem wrap_I64 (n : Int) : I64 (IntKind.wrap .i64 n) := by
  unfold IntKind.wrap I64
  simp [IntKind.bits, IntKind.signed]
  split <;> omega

theorem Below_eq {x n : Int} (hx : I64 x) (hn : I64 n) : fleetmake_Below x n = some (if n < 1 then 0 else x % n) := by
  unfold I64 at hx hn
  unfold fleetmake_Below fleetmake_Below_x1
  by_cases h : n < 1
  · simp [h]
  · have h0 : (n == 0) = false := by simp; omega
    have e := Int.emod_eq_tmod (a := x) (b := n)
    have nn := Int.emod_nonneg x (show n ≠ 0 by omega)
    have lt := Int.emod_lt_of_pos x (show 0 < n by omega)
    simp only [h, decide_false, cond_false, h0, Bool.not_false, gd, cond_true, Option.bind_some, if_false]
    by_cases h3 : x.tmod n < 0
    · simp only [h3, decide_true, cond_true, Option.bind_some]
      split at e
      · omega
      · rw [wrap64 (by omega) (by omega)]
        congr 1
        omega
    · simp only [h3, decide_false, cond_false, Option.bind_some]
      congr 1
      split at e <;> omega
theorem Below_ok {x n : Int} (hx : I64 x) (hn : I64 n) : Ok (fleetmake_Below x n) (fun r => (1 ≤ n → 0 ≤ r ∧ r < n) ∧ (n < 1 → r = 0)) := by
  refine .of_eq (Below_eq hx hn) ⟨fun h => ?_, fun h => by simp [h]⟩
  rw [if_neg (by omega)]
  exact ⟨Int.emod_nonneg _ (by omega), Int.emod_lt_of_pos _ (by omega)⟩

/-- A stream whose numbers are of 64 bits, of which at most k were taken. -/
def StrOk (k : Nat) (s : fleetmake_Stream) : Prop := 0 ≤ s.at_ ∧ s.at_ ≤ k ∧ s.L.length ≤ 9223372036854775807 ∧ ∀ n ∈ s.L, I64 n
theorem StrOk.mono {k k' : Nat} {s : fleetmake_Stream} (h : StrOk k s) (hk : k ≤ k') : StrOk k' s := ⟨h.1, by have := h.2.1; omega, h.2.2⟩
/-- One number further. -/
abbrev nxt (s : fleetmake_Stream) : fleetmake_Stream := fleetmake_Stream.mk s.L (IntKind.wrap .i64 (s.at_ + 1))
theorem StrOk.nxt {k : Nat} {s : fleetmake_Stream} (h : StrOk k s) (hk : k < 1099511627776) : StrOk (k + 1) (nxt s) := by
  obtain ⟨h1, h2, h3, h4⟩ := h
  refine ⟨?_, ?_, h3, h4⟩
  · show 0 ≤ IntKind.wrap .i64 (s.at_ + 1)
    rw [wrap64 (by omega) (by omega)]; omega
  · show IntKind.wrap .i64 (s.at_ + 1) ≤ _
    rw [wrap64 (by omega) (by omega)]; omega

theorem Next_ok {k : Nat} {s : fleetmake_Stream} {n : Int} (h : StrOk k s) (hk : k < 1099511627776) (hn : I64 n) : Ok (fleetmake_Stream_Next s n) (fun r => (1 ≤ n → 0 ≤ r ∧ r < n) ∧ (n < 1 → r = 0)) := by
  obtain ⟨h1, h2, h3, h4⟩ := h
  unfold fleetmake_Stream_Next
  refine .cond (fun _ => ?_) (fun hl => ?_)
  · exact (Below_ok (wrap_I64 _) hn).bind fun r hr => .some hr
  · have hl' : s.L.length ≠ 0 := by simpa using hl
    have e1 : IntKind.wrap .i64 (s.at_ + 1) = s.at_ + 1 := wrap64 (by omega) (by omega)
    have e2 : IntKind.wrap .i64 (s.at_ + 1 - 1) = s.at_ := by rw [wrap64 (by omega) (by omega)]; omega
    refine .gd (by simpa using hl') ?_
    rw [e1, e2]
    refine (at_mem (tmod_nonneg h1) (tmod_lt' (by omega))).bind fun y hy => ?_
    refine (Below_ok (h4 y hy) (by unfold I64; omega)).bind fun r1 hr1 => ?_
    exact (Below_ok (wrap_I64 _) hn).bind fun r hr => .some hr

theorem Pick_ok {k : Nat} {s : fleetmake_Stream} {l : List Int} (h : StrOk k s) (hk : k < 1099511627776) (hl : 0 < l.length) (hl2 : l.length < 1000) : Ok (fleetmake_Stream_Pick_o1 s l) (fun r => r ∈ l) := by
  unfold fleetmake_Stream_Pick_o1
  refine (Next_ok h hk (by unfold I64; omega)).bind fun r hr => ?_
  have := hr.1 (by omega)
  exact (at_mem this.1 this.2).bind fun y hy => .some hy
theorem Some_ok {k : Nat} {s : fleetmake_Stream} {l : List (List UInt8)} (h : StrOk k s) (hk : k < 1099511627776) (hl : 0 < l.length) (hl2 : l.length < 1000) : Ok (fleetmake_Stream_Some_o1 s l) (fun r => r ∈ l) := by
  unfold fleetmake_Stream_Some_o1
  refine (Next_ok h hk (by unfold I64; omega)).bind fun r hr => ?_
  have := hr.1 (by omega)
  exact (at_mem this.1 this.2).bind fun y hy => .some hy
theorem Flip_ok {k : Nat} {s : fleetmake_Stream} {n : Int} (h : StrOk k s) (hk : k < 1099511627776) (hn : I64 n) : Ok (fleetmake_Stream_Flip s n) (fun _ => True) := by
  unfold fleetmake_Stream_Flip
  exact (Next_ok h hk hn).bind fun r hr => .some trivial
theorem Range_ok {k : Nat} {s : fleetmake_Stream} {low high : Int} (h : StrOk k s) (hk : k < 1099511627776) (hlow : -4611686018427387903 < low ∧ low < 4611686018427387904) (hh : -4611686018427387904 < high ∧ high < 4611686018427387903) :
    Ok (fleetmake_Stream_Range s low high) (fun r => StrOk (k + 1) r.1 ∧ low ≤ r.2 ∧ (low ≤ high → r.2 ≤ high) ∧ (high < low → r.2 = low)) := by
  unfold fleetmake_Stream_Range
  refine .cond (fun hc => ?_) (fun hc => ?_)
  · have hc' : high < low := by simpa using hc
    exact .some ⟨h.mono (by omega), Int.le_refl _, by intro h; omega, fun _ => rfl⟩
  · have hc' : ¬ high < low := by simpa using hc
    have e1 : IntKind.wrap .i64 (high - low) = high - low := wrap64 (by omega) (by omega)
    have e2 : IntKind.wrap .i64 (high - low + 1) = high - low + 1 := wrap64 (by omega) (by omega)
    rw [e1, e2]
    refine (Next_ok h hk (by unfold I64; omega)).bind fun r hr => ?_
    have := hr.1 (by omega)
    refine .some ⟨h.nxt hk, ?_, fun _ => ?_, fun h => by omega⟩
    · show low ≤ IntKind.wrap .i64 (low + r)
      rw [wrap64 (by omega) (by omega)]; omega
    · show IntKind.wrap .i64 (low + r) ≤ high
      rw [wrap64 (by omega) (by omega)]; omega
theorem Odd_ok {k : Nat} {s : fleetmake_Stream} {low high : Int} (h : StrOk k s) (hk : k + 2 < 1099511627776) (hlow : -4611686018427387902 < low ∧ low < 4611686018427387904) (hh : -4611686018427387904 < high ∧ high < 4611686018427387902) (hlh : low ≤ high) :
    Ok (fleetmake_Stream_Odd s low high) (fun r => StrOk (k + 2) r.1 ∧ ((low - 1 ≤ r.2 ∧ r.2 ≤ high + 1) ∨ r.2 = -1099511627776 ∨ r.2 = 1099511627776)) := by
  unfold fleetmake_Stream_Odd
  refine (Flip_ok h (by omega) (by unfold I64; omega)).bind fun b _ => .cond (fun _ => ?_) (fun _ => ?_)
  · refine (Pick_ok (h.nxt (by omega)) (by omega) (by simp) (by simp)).bind fun r hr => .some ⟨(h.nxt (by omega)).nxt (by omega), ?_⟩
    have e1 : IntKind.wrap .i64 (low - 1) = low - 1 := wrap64 (by omega) (by omega)
    have e2 : IntKind.wrap .i64 (high + 1) = high + 1 := wrap64 (by omega) (by omega)
    rw [e1, e2] at hr
    simp only [List.mem_cons, List.not_mem_nil, or_false] at hr
    show (low - 1 ≤ r ∧ r ≤ high + 1) ∨ r = _ ∨ r = _
    omega
  · refine (Range_ok (h.nxt (by omega)) (by omega) ⟨by omega, by omega⟩ ⟨by omega, by omega⟩).bind fun r hr => .some ⟨hr.1, .inl ⟨by have := hr.2.1; show low - 1 ≤ r.2; omega, ?_⟩⟩
    have := hr.2.2.1 hlh
    show r.2 ≤ high + 1
    omega
end Go.Eng

/-
What streams make: series and windows.
-/
namespace Go.Eng
open Go
set_option linter.unusedVariables false
set_option linter.unusedSimpArgs false

end Go.Eng

/-
Measurements as texts, both ways.
-/
namespace Go.Eng
open Go
set_option linter.unusedVariables false
set_option linter.unusedSimpArgs false

theorem containsT_eq (l : List (List UInt8)) (v : List UInt8) (hl : (l.length : Int) ≤ 9223372036854775807) : slices_Contains_string_string l v = some (l.any fun x => decide (v = x)) := by
  unfold slices_Contains_string_string slices_Index_string_string
  have key : Ok (loopO (slices_Index_string_string_x1 l v) 0) (fun r => (r = .inl () ∧ (l.any fun x => decide (v = x)) = false) ∨ ∃ i : Nat, r = .inr (i : Int) ∧ (l.any fun x => decide (v = x)) = true) := by
    refine loop_ok (fun q : Int => ∃ i : Nat, q = (i : Int) ∧ i ≤ l.length ∧ ∀ x ∈ l.take i, ¬ v = x) (fun q => ((l.length : Int) - q).toNat) ?_ ⟨0, rfl, by omega, by simp⟩
    rintro q ⟨i, rfl, h1, h2⟩
    unfold slices_Index_string_string_x1
    by_cases hi : i < l.length
    · have hi' : (i : Int) < l.length := by omega
      simp only [hi', decide_true, cond_true, at_nat hi, Option.bind_some]
      by_cases hv : v = l[i]
      · simp only [hv, decide_true, cond_true]
        exact .some (.inr ⟨i, rfl, by rw [List.any_eq_true]; exact ⟨l[i], List.getElem_mem hi, by simp⟩⟩)
      · simp only [hv, decide_false, cond_false]
        rw [wrap64 (n := (i : Int) + 1) (by omega) (by omega)]
        refine .some ⟨⟨i + 1, by simp, hi, fun x hx => ?_⟩, by omega⟩
        rw [List.take_succ_eq_append_getElem hi] at hx
        rcases List.mem_append.1 hx with hx | hx
        · exact h2 x hx
        · rw [List.mem_singleton.1 hx]; exact hv
    · have hi' : ¬ (i : Int) < l.length := by omega
      simp only [hi', decide_false, cond_false]
      refine .some (.inl ⟨rfl, ?_⟩)
      rw [List.take_of_length_le (by omega)] at h2
      rw [List.any_eq_false]
      intro x hx
      simpa using h2 x hx
  obtain ⟨r, r1, r2⟩ := key
  rw [r1]
  rcases r2 with ⟨rfl, h⟩ | ⟨i, rfl, h⟩
  · simp [h]
  · simp [h]
/-- The words of a line. -/
def wordsB (n : Nat) (line : List UInt8) : Bool := decide ((splitC 32 line).length = n) && (splitC 32 line).all fun x => !x.isEmpty
theorem Words_eq {line : List UInt8} {n : Nat} (hl : line.length ≤ 100000) : base_Words line (n : Int) = some (cond (wordsB n line) (splitC 32 line, true) ([], false)) := by
  unfold base_Words
  rw [split_eq (by omega)]
  simp only [Option.bind_some]
  have hlen := splitC_len 32 line
  have hcnt := List.count_le_length (a := (32 : UInt8)) (l := line)
  unfold wordsB
  by_cases hn : (splitC 32 line).length = n
  · have hn' : (((splitC 32 line).length : Nat) : Int) = (n : Int) := by omega
    simp only [hn', decide_true, Bool.not_true, cond_false, hn, Bool.true_and]
    have key : Ok (loopO (base_Words_x1 (splitC 32 line)) 0) (fun r => r = cond ((splitC 32 line).all fun x => !x.isEmpty) (.inl ()) (.inr ())) := by
      refine loop_ok (fun q : Int => ∃ i : Nat, q = (i : Int) ∧ i ≤ (splitC 32 line).length ∧ ∀ x ∈ (splitC 32 line).take i, x.isEmpty = false) (fun q => (((splitC 32 line).length : Int) - q).toNat) ?_ ⟨0, rfl, by omega, by simp⟩
      rintro q ⟨i, rfl, h1, h2⟩
      unfold base_Words_x1
      by_cases hi : i < (splitC 32 line).length
      · have hi' : (i : Int) < (splitC 32 line).length := by omega
        simp only [hi', decide_true, cond_true, at_nat hi, Option.bind_some]
        by_cases hv : (splitC 32 line)[i] = []
        · simp only [hv, decide_true, cond_true]
          have : ((splitC 32 line).all fun x => !x.isEmpty) = false := by
            rw [List.all_eq_false]
            exact ⟨_, List.getElem_mem hi, by simp [hv]⟩
          rw [this]
          exact .some rfl
        · simp only [hv, decide_false, cond_false]
          rw [wrap64 (n := (i : Int) + 1) (by omega) (by omega)]
          refine .some ⟨⟨i + 1, by simp, hi, fun x hx => ?_⟩, by omega⟩
          rw [List.take_succ_eq_append_getElem hi] at hx
          rcases List.mem_append.1 hx with hx | hx
          · exact h2 x hx
          · rw [List.mem_singleton.1 hx]; simpa using hv
      · have hi' : ¬ (i : Int) < (splitC 32 line).length := by omega
        simp only [hi', decide_false, cond_false]
        rw [List.take_of_length_le (by omega)] at h2
        have : ((splitC 32 line).all fun x => !x.isEmpty) = true := List.all_eq_true.2 fun x hx => by simp [h2 x hx]
        rw [this]
        exact .some rfl
    obtain ⟨r, r1, rfl⟩ := key
    rw [r1]
    cases ((splitC 32 line).all fun x => !x.isEmpty) <;> rfl
  · have hn' : ¬ (((splitC 32 line).length : Nat) : Int) = (n : Int) := by omega
    simp only [hn', decide_false, Bool.not_false, cond_true, hn, Bool.false_and, cond_false]
theorem numbersT_eq {w : List (List UInt8)} {d : Nat} (hd : d ≤ 17) (hb : ∀ x ∈ w, x.length ≤ 100000) (hl : w.length ≤ 200000) : base_Numbers w (d : Int) = some (cond (w.all fun x => okN x d) (w.map valN, true) ([], false)) := by
  unfold base_Numbers
  have key : Ok (loopO (base_Numbers_x1 w (d : Int)) ([], 0)) (fun r => r = cond (w.all fun x => okN x d) (.inl (w.map valN)) (.inr ())) := by
    refine loop_ok (fun q : List Int × Int => ∃ i : Nat, q.2 = (i : Int) ∧ i ≤ w.length ∧ q.1 = (w.take i).map valN ∧ ∀ x ∈ w.take i, okN x d = true) (fun q => ((w.length : Int) - q.2).toNat) ?_ ⟨0, rfl, by omega, by simp, by simp⟩
    rintro ⟨o, q⟩ ⟨i, rfl, h1, h2, h3⟩
    simp only at h2
    unfold base_Numbers_x1
    by_cases hi : i < w.length
    · have hi' : (i : Int) < w.length := by omega
      have hn := Number_p (s := w[i]) (most := d) hd (hb _ (List.getElem_mem hi))
      simp only [hi', decide_true, cond_true, at_nat hi, Option.bind_some, hn]
      cases hok : okN w[i] d with
      | false =>
        have : (w.all fun x => okN x d) = false := by
          rw [List.all_eq_false]
          exact ⟨_, List.getElem_mem hi, by simp [hok]⟩
        rw [this]
        exact .some rfl
      | true =>
        simp only [cond_true, Bool.not_true, cond_false]
        rw [gd_true (ble_lim (by rw [h2]; simp; omega)), wrap64 (n := (i : Int) + 1) (by omega) (by omega)]
        refine .some ⟨⟨i + 1, by simp, hi, ?_, ?_⟩, by simp only; omega⟩
        · simp only
          rw [h2, List.take_succ_eq_append_getElem hi, List.map_append]
          rfl
        · intro x hx
          rw [List.take_succ_eq_append_getElem hi] at hx
          rcases List.mem_append.1 hx with hx | hx
          · exact h3 x hx
          · rw [List.mem_singleton.1 hx]; exact hok
    · have hi' : ¬ (i : Int) < w.length := by omega
      simp only [hi', decide_false, cond_false]
      have ht : w.take i = w := List.take_of_length_le (by omega)
      rw [ht] at h2 h3
      have : (w.all fun x => okN x d) = true := List.all_eq_true.2 h3
      rw [this, h2]
      exact .some rfl
  obtain ⟨r, r1, rfl⟩ := key
  rw [r1]
  cases (w.all fun x => okN x d) <;> rfl
theorem valN_rng {x : List UInt8} {d : Nat} (h : okN x d = true) : valN x < 10 ^ d ∧ -(10 ^ d : Int) < valN x := by
  obtain ⟨_, h2, h3, _⟩ := okN_parts h
  have h4 := natV_lt h3
  have h5 : 10 ^ (trimM x).length ≤ 10 ^ d := Nat.pow_le_pow_right (by omega) h2
  have h6 : ((natV (trimM x) : Nat) : Int) < 10 ^ d := by
    have : natV (trimM x) < 10 ^ d := Nat.lt_of_lt_of_le h4 h5
    have h7 : ((natV (trimM x) : Nat) : Int) < ((10 ^ d : Nat) : Int) := by omega
    simpa using h7
  unfold valN
  split <;> constructor <;> omega

/-! ### A line of a measurement -/
end Go.Eng

/-
Measurements as texts: what is written, the streams, the law.
-/
namespace Go.Eng
open Go
set_option linter.unusedVariables false
set_option linter.unusedSimpArgs false

/-! ### What is written -/
theorem bytesD_app (a b : List UInt8) : bytesD (a ++ b) = bytesD a ++ bytesD b := by unfold bytesD; simp
theorem bytesD_len (a : List UInt8) : (bytesD a).length = a.length := by unfold bytesD; simp
theorem str_back (s : List UInt8) : strings_Builder_String_o (bytesD s) = some s := by
  unfold strings_Builder_String_o
  rw [gd_true]
  · congr 1
    unfold bytesD
    rw [List.map_map]
    conv => rhs; rw [← List.map_id s]
    apply List.map_congr_left
    intro c _
    simp
  · rw [List.all_eq_true]
    intro n hn
    unfold bytesD at hn
    obtain ⟨c, _, rfl⟩ := List.mem_map.1 hn
    have := c.toNat_lt
    simp
    omega
/-! ### Streams of texts -/
theorem sub_lenT {α : Type} {l : List α} {a b : Int} (h : 0 ≤ a ∧ a ≤ b ∧ b ≤ l.length) : ∃ r, sub? l a b = some r ∧ (r.length : Int) = b - a := by
  unfold sub?
  rw [if_pos h]
  exact ⟨_, rfl, by simp; omega⟩
theorem ChangedT_ok {k : Nat} {s : fleetmake_Stream} {t w : List UInt8} (h : StrOk k s) (hk : k + 20 < 1099511627776) (ht : t.length ≤ 100000) (hw0 : w ≠ []) (hwl : w.length ≤ 7)
    (hr : (w.all fun c => decide ((runeS (IntKind.wrap .i32 ((c.toNat : Nat) : Int))).length ≤ 4)) = true) : Ok (fleetmake_Stream_Changed s t w) (fun r => StrOk (k + 3) r.1 ∧ r.2.length ≤ t.length + 7) := by
  unfold fleetmake_Stream_Changed
  refine Ok.bind (P := fun b => b = false → t ≠ []) ?_ fun b hb => ?_
  · unfold fleetmake_Stream_Changed_x1
    refine .cond (fun _ => .some fun h => by cases h) (fun h1 => .some fun _ e => by simp [e] at h1)
  refine .cond (fun _ => .some ⟨h.mono (by omega), by simp only; omega⟩) (fun hb0 => ?_)
  have hne := hb hb0
  have hpos : 0 < t.length := List.length_pos_iff.2 hne
  have hwpos : 0 < w.length := List.length_pos_iff.2 hw0
  refine (Next_ok h (by omega) (by unfold I64; omega)).bind fun r hr' => ?_
  have hr' := hr'.1 (by omega)
  have n1 := h.nxt (by omega)
  refine (Next_ok n1 (by omega) (by unfold I64; omega)).bind fun q hq => ?_
  have hq := hq.1 (by omega)
  refine (at_mem hq.1 hq.2).bind fun c hc => ?_
  have n2 := n1.nxt (by omega)
  have hrl := List.all_eq_true.1 hr c hc
  have hrl : (runeS (IntKind.wrap .i32 ((c.toNat : Nat) : Int))).length ≤ 4 := of_decide_eq_true hrl
  refine (Next_ok n2 (by omega) (by unfold I64; omega)).bind fun m _ => ?_
  have n3 := n2.nxt (by omega)
  have w1 : IntKind.wrap .i64 (r + 1) = r + 1 := wrap64 (by omega) (by omega)
  obtain ⟨x1, e1, l1⟩ := sub_lenT (l := t) (a := 0) (b := r) (by omega)
  obtain ⟨x2, e2, l2⟩ := sub_lenT (l := t) (a := r + 1) (b := (t.length : Int)) (by omega)
  obtain ⟨x3, e3, l3⟩ := sub_lenT (l := t) (a := r) (b := (t.length : Int)) (by omega)
  rw [w1, e1, e2, e3]
  simp only [Option.bind_some]
  refine .cond (fun _ => ?_) (fun _ => .cond (fun _ => ?_) (fun _ => ?_))
  · exact .gd (ble_lim (by omega)) (.gd (ble_lim (by simp; omega)) (.some ⟨n3, by simp; omega⟩))
  · exact .gd (ble_lim (by omega)) (.gd (ble_lim (by simp; omega)) (.some ⟨n3, by simp; omega⟩))
  · exact .gd (ble_lim (by omega)) (.some ⟨n3, by simp; omega⟩)
end Go.Eng

/-
Fixes: checks, orders, merging, those of a device.
-/
namespace Go.Eng
open Go
set_option linter.unusedVariables false
set_option linter.unusedSimpArgs false

/-- Fixes as streams make them. -/
def FB (x : api_Fix) : Prop := (x.Device.length : Int) ≤ 1000000 ∧ (-1125899906842624 ≤ x.At ∧ x.At ≤ 1125899906842624)
def fOrd (a b : api_Fix) : Int := or0 (Lib.compareBytes a.Device b.Device) (cmpI a.At b.At)
theorem fOrd_anti (a b : api_Fix) : fOrd b a = -fOrd a b := by
  unfold fOrd
  rw [cmpB_anti, cmpI_anti, or0_neg]
theorem or2_eq (a b : Int) : cmp_Or_int [a, b] = some (or0 a b) := by
  rw [Or_eq _ (by simp)]
  unfold or0
  by_cases ha : a = 0 <;> by_cases hb : b = 0 <;> simp [ha, hb]
theorem fbyDevice_eq (a b : api_Fix) : place_byDevice a b = some (fOrd a b) := by
  unfold place_byDevice strings_Compare bytealg_CompareString
  simp only [Option.bind_some, cmpInt_eq, or2_eq]
  rfl
theorem FixOrder_eq {a b : api_Fix} (ha : FB a) (hb : FB b) : fleetref2_FixOrder a b = some (fOrd a b) := by
  obtain ⟨_, a1, a2⟩ := ha
  obtain ⟨_, b1, b2⟩ := hb
  unfold fleetref2_FixOrder strings_Compare bytealg_CompareString fOrd
  by_cases h : a.Device = b.Device
  · simp only [h, decide_true, Bool.not_true, cond_false, cmpB_self]
    rw [wrap64 (by omega) (by omega), sign_eq]
    simp only [Option.bind_some, or0, if_true]
    congr 1
    unfold cmpI
    (repeat' split) <;> omega
  · have h0 : Lib.compareBytes a.Device b.Device ≠ 0 := fun h1 => h (cmpB_zero.1 h1)
    simp [h, or0, h0]
theorem fcmp_ref : ∀ x y : api_Fix, FB x → FB y → ∃ c, fleetref2_FixOrder x y = some c ∧ fleetref2_FixOrder x y = some c := fun x y hx hy => ⟨_, FixOrder_eq hx hy, FixOrder_eq hx hy⟩

/-! ### The library's functions are those for all kinds -/
theorem sort2_eq : slices_SortStableFunc_api_Fix_api_Fix_o0_f1_fleetref2_FixOrder = gSort fleetref2_FixOrder := rfl
theorem com2_eq : slices_CompactFunc_api_Fix_api_Fix_o0_f1_fleetmake_Stream_Fixes_1 = gCom fleetmake_Stream_Fixes_1 (api_Fix.mk [] 0 0 0 0) := by kernel_rfl

/-! ### Checks -/
theorem isSpot_eq (s : api_Spot) : place_isSpot s = some ((decide (-10000 ≤ s.X) && decide (s.X ≤ 10000)) && (decide (-10000 ≤ s.Y) && decide (s.Y ≤ 10000))) := by
  unfold place_isSpot place_isSpot_x1
  simp only [Out_eq, Option.bind_some]
  by_cases h1 : s.X < -10000 <;> by_cases h2 : 10000 < s.X <;> by_cases h3 : s.Y < -10000 <;> by_cases h4 : 10000 < s.Y <;> simp [h1, h2, h3, h4] <;> omega
theorem SpotFault_eq (s : api_Spot) : fleetref2_SpotFault s = some (cond ((decide (-10000 ≤ s.X) && decide (s.X ≤ 10000)) && (decide (-10000 ≤ s.Y) && decide (s.Y ≤ 10000))) 0 1) := by
  unfold fleetref2_SpotFault fleetref2_SpotFault_x1
  simp only [in_eq, Option.bind_some]
  cases (decide (-10000 ≤ s.X) && decide (s.X ≤ 10000)) <;> cases (decide (-10000 ≤ s.Y) && decide (s.Y ≤ 10000)) <;> rfl
theorem fx2_both (x : api_Fix) : ∃ b, place_CheckFixes_x2 x = some b ∧ fleetref2_FixesFault_x2 x = some b := by
  unfold place_CheckFixes_x2 fleetref2_FixesFault_x2 place_spot fleetref2_spotOf
  simp only [Moment_eq, QMoment_eq, isSpot_eq, SpotFault_eq, Out_eq, in_eq, Option.bind_some]
  cases (decide (0 ≤ x.At) && decide (x.At ≤ 345686399999))
  · exact ⟨true, rfl, rfl⟩
  · cases ((decide (-10000 ≤ x.X) && decide (x.X ≤ 10000)) && (decide (-10000 ≤ x.Y) && decide (x.Y ≤ 10000)))
    · exact ⟨true, rfl, rfl⟩
    · refine ⟨(decide (x.Error < 0) || decide (10000 < x.Error)), rfl, ?_⟩
      show some (!(decide (0 ≤ x.Error) && decide (x.Error ≤ 10000))) = _
      congr 1
      by_cases h1 : x.Error < 0 <;> by_cases h2 : 10000 < x.Error <;> simp [h1, h2] <;> omega
theorem check_both {l : List api_Fix} (hp : All FB l) (hl : l.length ≤ 100000) : ∃ e, place_CheckFixes l = some e ∧ fleetref2_FixesFault l = some e := by
  unfold place_CheckFixes fleetref2_FixesFault
  by_cases h5 : (2000 : Int) < l.length
  · exact ⟨2, by simp [h5], by simp [h5]⟩
  · simp only [h5, decide_false, cond_false]
    obtain ⟨r, e1, e2, _⟩ := loop_two (f := place_CheckFixes_x1 l) (g := fleetref2_FixesFault_x1 l) (fun i : Int => 0 ≤ i ∧ i ≤ l.length) (fun i => ((l.length : Int) - i).toNat) (fun _ => True) (by
      rintro i ⟨i1, i2⟩
      unfold place_CheckFixes_x1 fleetref2_FixesFault_x1
      by_cases hi : i < l.length
      · obtain ⟨x, x1, x2⟩ := at_i (l := l) i1 hi
        have bx := hp x x2
        obtain ⟨b, b1, b2⟩ := fx2_both x
        have hx3 : ∃ c, place_CheckFixes_x3 l i x = some c ∧ fleetref2_FixesFault_x3 l i x = some c := by
          unfold place_CheckFixes_x3 fleetref2_FixesFault_x3
          by_cases h0 : 0 < i
          · have w1 : IntKind.wrap .i64 (i - 1) = i - 1 := wrap64 (by omega) (by omega)
            obtain ⟨y, y1, y2⟩ := at_i (l := l) (n := i - 1) (by omega) (by omega)
            simp only [h0, decide_true, cond_true, w1, y1, Option.bind_some, fbyDevice_eq, FixOrder_eq (hp y y2) bx]
            refine ⟨_, rfl, ?_⟩
            rw [fOrd_anti y x]
            congr 1
            rw [decide_eq_decide]
            omega
          · simp [h0]
        obtain ⟨c, c1, c2⟩ := hx3
        simp only [hi, decide_true, cond_true, x1, Option.bind_some, Key_eq x.Device (by have := bx.1; omega), QKey_eq x.Device (by have := bx.1; omega), b1, b2, c1, c2]
        rw [wrap64 (n := i + 1) (by omega) (by omega)]
        cases keyB x.Device
        · right; exact ⟨_, rfl, rfl, trivial⟩
        · cases b
          · cases c
            · left; exact ⟨i + 1, rfl, rfl, ⟨by omega, by omega⟩, by omega⟩
            · right; exact ⟨_, rfl, rfl, trivial⟩
          · right; exact ⟨_, rfl, rfl, trivial⟩
      · right
        simp only [hi, decide_false, cond_false]
        exact ⟨_, rfl, rfl, trivial⟩) (s := 0) ⟨by omega, by omega⟩
    rw [e1, e2]
    cases r with
    | inl _ => exact ⟨0, rfl, rfl⟩
    | inr e => exact ⟨e, rfl, rfl⟩

/-! ### Merging -/
/-! ### Those of a device -/
theorem fequal_self {l : List api_Fix} (hl : (l.length : Int) ≤ 9223372036854775807) : slices_Equal_api_Fix_api_Fix l l = some true := by
  unfold slices_Equal_api_Fix_api_Fix
  simp only [decide_true, Bool.not_true, cond_false]
  rw [range_loop (l := l) (fun _ _ => none) (.inl ()) hl]
  · simp only [Option.bind_some]
    have : scan (fun (_ : Nat) (_ : api_Fix) => (none : Option (Unit ⊕ Unit))) 0 l = none := scan_none.2 fun _ _ _ => rfl
    rw [this]
    rfl
  · intro i hi
    unfold slices_Equal_api_Fix_api_Fix_x1
    have : ((i : Int) < l.length) := by omega
    simp only [this, decide_true, cond_true, at_nat hi, Option.bind_some, Bool.and_self, Bool.not_true, cond_false]
  · unfold slices_Equal_api_Fix_api_Fix_x1
    simp
theorem placed_eq : fleetlaw2_placed = some true := by kernel_rfl
end Go.Eng

/-
Fixes as texts, both ways.
-/
namespace Go.Eng
open Go
set_option linter.unusedVariables false
set_option linter.unusedSimpArgs false

abbrev Bn (n : Int) : Prop := -2199023255552 ≤ n ∧ n ≤ 2199023255552
def F2 (x : api_Fix) : Prop := x.Device.length ≤ 100 ∧ Bn x.At ∧ Bn x.X ∧ Bn x.Y ∧ Bn x.Error
theorem F2.fb {x : api_Fix} (h : F2 x) : FB x := by
  obtain ⟨h1, h2, _⟩ := h
  exact ⟨by omega, by omega⟩
theorem fcomT_t : ∀ x y : api_Fix, F2 x → F2 y → ∃ b, fleetmake_Stream_Fixes_1 x y = some b := fun x y hx hy => by
  unfold fleetmake_Stream_Fixes_1
  rw [FixOrder_eq hx.fb hy.fb]
  exact ⟨_, rfl⟩
theorem fcmpT_ref : ∀ x y : api_Fix, F2 x → F2 y → ∃ c, fleetref2_FixOrder x y = some c ∧ fleetref2_FixOrder x y = some c := fun x y hx hy => fcmp_ref x y hx.fb hy.fb
theorem FixesT_ok {k : Nat} {s : fleetmake_Stream} {n : Int} (h : StrOk k s) (hk : k + 100 < 1099511627776) (hn : 0 ≤ n ∧ n ≤ 8) : Ok (fleetmake_Stream_Fixes s n) (fun r => StrOk (k + 100) r.1 ∧ All F2 r.2 ∧ (r.2.length : Int) ≤ n) := by
  unfold fleetmake_Stream_Fixes
  refine Ok.bind (P := fun q : fleetmake_Stream × List api_Fix => StrOk (k + 32) q.1 ∧ All F2 q.2 ∧ (q.2.length : Int) ≤ n) ?_ fun ⟨s1, l⟩ ⟨g1, g2, g3⟩ => ?_
  · refine loop_ok (fun q : fleetmake_Stream × List api_Fix × Int => ∃ i : Nat, q.2.2 = i ∧ (i : Int) ≤ n ∧ StrOk (k + 4 * i) q.1 ∧ All F2 q.2.1 ∧ q.2.1.length = i) (fun q => (n - q.2.2).toNat) ?_ ⟨0, rfl, by omega, h, All.nil, rfl⟩
    rintro ⟨s1, out, i0⟩ ⟨i, e1, e2, e3, e4, e5⟩
    simp only at e1 e3 e4 e5
    subst e1
    unfold fleetmake_Stream_Fixes_x1
    refine .cond (fun hc => ?_) (fun hc => .some ⟨e3.mono (by omega), e4, by simp only; omega⟩)
    have hc : (i : Int) < n := by simpa using hc
    refine (Some_ok e3 (by omega) (by simp) (by simp)).bind fun d hd => ?_
    refine (Pick_ok (e3.nxt (by omega)) (by omega) (by simp) (by simp)).bind fun a ha => ?_
    refine (Pick_ok ((e3.nxt (by omega)).nxt (by omega)) (by omega) (by simp) (by simp)).bind fun x hx => ?_
    refine (Pick_ok (((e3.nxt (by omega)).nxt (by omega)).nxt (by omega)) (by omega) (by simp) (by simp)).bind fun y hy => ?_
    have ha' : 0 ≤ a ∧ a ≤ 10 := by simp at ha; omega
    have hx' : 0 ≤ x ∧ x ≤ 1 := by simp at hx; omega
    have hy' : 0 ≤ y ∧ y ≤ 2 := by simp at hy; omega
    have hd' : d.length ≤ 1 := by simp at hd; rcases hd with rfl | rfl <;> simp
    rw [wrap64 (n := (i : Int) + 1) (by omega) (by omega)]
    refine .gd (ble_lim (by simp; omega)) (.some ⟨⟨i + 1, by simp, by omega, ?_, ?_, by simp [e5]⟩, by simp only; omega⟩)
    · exact ((((e3.nxt (by omega)).nxt (by omega)).nxt (by omega)).nxt (by omega)).mono (by omega)
    · intro z hz
      rcases List.mem_append.1 hz with hz | hz
      · exact e4 z hz
      · rw [List.mem_singleton.1 hz]
        exact ⟨by simp only; omega, by simp only; omega, by simp only; omega, by simp only; omega, by simp only; omega⟩
  · simp only at g1 g2 g3
    obtain ⟨r, r1, _, r3, r4⟩ := gSort_both fcmpT_ref (l := l) (by omega) g2
    rw [sort2_eq]
    simp only [r1, Option.bind_some]
    refine .gd (by simp [r3]) ?_
    refine Ok.bind (P := fun q : List api_Fix => All F2 q ∧ (q.length : Int) ≤ n) ?_ fun m ⟨m1, m2⟩ => ?_
    · unfold fleetmake_Stream_Fixes_x2
      refine (Flip_ok g1 (by omega) (by unfold I64; omega)).bind fun b _ => ?_
      refine .cond (fun _ => ?_) (fun _ => .some ⟨r4, by omega⟩)
      rw [com2_eq]
      refine (gCom_ok fcomT_t (by omega) r4).bind fun c ⟨c1, c2⟩ => .some ⟨c2, by omega⟩
    · refine Ok.bind (P := fun q : fleetmake_Stream × List api_Fix => StrOk (k + 100) q.1 ∧ All F2 q.2 ∧ (q.2.length : Int) ≤ n) ?_ fun ⟨s3, m'⟩ h3 => .some h3
      unfold fleetmake_Stream_Fixes_x3 fleetmake_Stream_Fixes_x4
      refine Ok.bind (P := fun q : fleetmake_Stream × Bool => StrOk (k + 34) q.1 ∧ (q.2 = true → 0 < m.length)) ?_ fun ⟨s2, b⟩ ⟨f1, f2⟩ => ?_
      · refine .cond (fun hc => ?_) (fun _ => .some ⟨(g1.nxt (by omega)).mono (by omega), fun h => by cases h⟩)
        have hc : (0 : Int) < m.length := by simpa using hc
        exact (Flip_ok (g1.nxt (by omega)) (by omega) (by unfold I64; omega)).bind fun b _ => .some ⟨((g1.nxt (by omega)).nxt (by omega)).mono (by omega), fun _ => by omega⟩
      · simp only at f1 f2
        refine .cond (fun hb => ?_) (fun _ => .some ⟨f1.mono (by omega), m1, m2⟩)
        have hlen := f2 hb
        refine (Next_ok f1 (by omega) (by unfold I64; omega)).bind fun r hr => ?_
        have hr := hr.1 (by omega)
        refine (at_mem hr.1 hr.2).bind fun y hy => ?_
        have hy1 := m1 y hy
        refine (Some_ok (f1.nxt (by omega)) (by omega) (by simp) (by simp)).bind fun d hd => ?_
        have hd' : d.length ≤ 100 := by
          simp at hd
          rcases hd with rfl | rfl | rfl
          · exact hy1.1
          · simp
          · simp
        refine (Odd_ok ((f1.nxt (by omega)).nxt (by omega)) (by omega) (by omega) (by omega) (by omega)).bind fun ⟨s3, v⟩ ⟨d1, d2⟩ => ?_
        simp only at d1 d2
        refine (Odd_ok d1 (by omega) (by omega) (by omega) (by omega)).bind fun ⟨s4, v2⟩ ⟨d3, d4⟩ => ?_
        refine .some ⟨d3.mono (by omega), ?_, by simpa using m2⟩
        simp only
        refine ((m1.set ?_).set ?_).set ?_
        · exact ⟨hd', hy1.2⟩
        · exact ⟨hd', by simp only; omega, hy1.2.2⟩
        · exact ⟨hd', by simp only; omega, hy1.2.2.1, by simp only at d4 ⊢; omega, hy1.2.2.2.2⟩


/-! ### What is written -/
theorem itoaF {n : Int} (h : Bn n) : strconv_Itoa n = some (Lib.itoa n) ∧ (Lib.itoa n).length ≤ 21 := ⟨by unfold strconv_Itoa; rw [gd_true (by simp; omega)], Lib.itoa_length_le n (by omega) (by omega)⟩
def vsF (x : api_Fix) : List Int := [x.At, x.X, x.Y, x.Error]
theorem vsF_bn {x : api_Fix} (h : F2 x) : ∀ n ∈ vsF x, Bn n := by
  obtain ⟨_, h2, h3, h4, h5⟩ := h
  intro n hn
  simp [vsF] at hn
  rcases hn with rfl | rfl | rfl | rfl <;> assumption
def tailF (ns : List Int) : List UInt8 := (ns.map fun n => ([32] : List UInt8) ++ Lib.itoa n).flatten
theorem tailF_snoc (ns : List Int) (n : Int) : tailF (ns ++ [n]) = tailF ns ++ (([32] : List UInt8) ++ Lib.itoa n) := by unfold tailF; simp
theorem tailF_len : ∀ {ns : List Int}, (∀ n ∈ ns, Bn n) → (tailF ns).length ≤ 22 * ns.length
  | [], _ => by simp [tailF]
  | n :: ns, h => by
    have h1 := (itoaF (h n (by simp))).2
    have h2 := tailF_len (ns := ns) fun y hy => h y (by simp [hy])
    unfold tailF at *
    rw [List.map_cons, List.flatten_cons, List.length_append, List.length_append, List.length_cons, List.length_cons, List.length_nil]
    omega
def lineF (x : api_Fix) : List UInt8 := (x.Device ++ tailF (vsF x)) ++ ([10] : List UInt8)
def linesF (l : List api_Fix) : List UInt8 := (l.map lineF).flatten
theorem lineF_len {x : api_Fix} (h : F2 x) : (lineF x).length ≤ 300 := by
  have h1 := h.1
  have h2 := tailF_len (vsF_bn h)
  have h3 : (vsF x).length = 4 := rfl
  unfold lineF
  simp only [List.length_append, List.length_cons, List.length_nil]
  omega
theorem linesF_len : ∀ {l : List api_Fix}, All F2 l → (linesF l).length ≤ 300 * l.length
  | [], _ => by simp [linesF]
  | x :: l, h => by
    have h1 := lineF_len (h x (by simp))
    have h2 := linesF_len (l := l) fun y hy => h y (by simp [hy])
    unfold linesF at *
    rw [List.map_cons, List.flatten_cons, List.length_append, List.length_cons]
    omega
theorem linesF_snoc (l : List api_Fix) (x : api_Fix) : linesF (l ++ [x]) = linesF l ++ lineF x := by unfold linesF; simp
theorem join_tail (a : List UInt8) : ∀ ns : List Int, Lib.join (a :: ns.map Lib.itoa) [32] = a ++ tailF ns := by
  intro ns
  induction ns generalizing a with
  | nil => simp [Lib.join, tailF]
  | cons n ns ih =>
    rw [List.map_cons]
    have : Lib.join (a :: Lib.itoa n :: ns.map Lib.itoa) [32] = a ++ [32] ++ Lib.join (Lib.itoa n :: ns.map Lib.itoa) [32] := by simp [Lib.join]
    rw [this, ih]
    simp [tailF]
theorem words_r {x : api_Fix} (h : F2 x) : loopO (fleetref2_FixLines_x2 x) (([x.Device] : List (List UInt8)), 0) = some (x.Device :: (vsF x).map Lib.itoa) := by
  apply Ok.eq
  refine loop_ok (fun q : List (List UInt8) × Int => ∃ i : Nat, q.2 = (i : Int) ∧ i ≤ (vsF x).length ∧ q.1 = x.Device :: ((vsF x).take i).map Lib.itoa) (fun q => (((vsF x).length : Int) - q.2).toNat) ?_ ⟨0, rfl, by omega, by simp⟩
  rintro ⟨o, q⟩ ⟨i, rfl, h1, h2⟩
  simp only at h2
  unfold fleetref2_FixLines_x2
  rw [show ([x.At, x.X, x.Y, x.Error] : List Int) = vsF x from rfl]
  by_cases hi : i < (vsF x).length
  · have hi' : (i : Int) < (vsF x).length := by omega
    have hb := itoaF (vsF_bn h _ (List.getElem_mem hi))
    simp only [hi', decide_true, cond_true, at_nat hi, Option.bind_some, hb.1]
    have h4 : (vsF x).length = 4 := rfl
    rw [gd_true (ble_lim (by rw [h2]; simp; omega)), wrap64 (n := (i : Int) + 1) (by omega) (by omega)]
    refine .some ⟨⟨i + 1, by simp, hi, ?_⟩, by simp only; omega⟩
    simp only
    rw [h2, List.take_succ_eq_append_getElem hi, List.map_append]
    rfl
  · have hi' : ¬ (i : Int) < (vsF x).length := by omega
    simp only [hi', decide_false, cond_false]
    rw [List.take_of_length_le (by omega)] at h2
    exact .some h2
theorem linesF_r {l : List api_Fix} (hb : All F2 l) (hl : l.length ≤ 100) : fleetref2_FixLines l = some (linesF l) := by
  unfold fleetref2_FixLines
  have key : Ok (loopO (fleetref2_FixLines_x1 l) (([] : List UInt8), 0)) (fun r => r = linesF l) := by
    refine loop_ok (fun q : List UInt8 × Int => ∃ i : Nat, q.2 = (i : Int) ∧ i ≤ l.length ∧ q.1 = linesF (l.take i)) (fun q => ((l.length : Int) - q.2).toNat) ?_ ⟨0, rfl, by omega, by simp [linesF]⟩
    rintro ⟨o, q⟩ ⟨i, rfl, h1, h2⟩
    simp only at h2
    unfold fleetref2_FixLines_x1
    by_cases hi : i < l.length
    · have hi' : (i : Int) < l.length := by omega
      have hx := hb _ (List.getElem_mem hi)
      have hx1 := hx.1
      have hli := tailF_len (vsF_bn hx)
      have h4 : (vsF l[i]).length = 4 := rfl
      have ho := linesF_len (l := l.take i) fun y hy => hb y (List.mem_of_mem_take hy)
      have hti : (l.take i).length ≤ 100 := by simp; omega
      have hj : strings_Join_o0 (l[i].Device :: (vsF l[i]).map Lib.itoa) [32] = some (l[i].Device ++ tailF (vsF l[i])) := by
        unfold strings_Join_o0
        rw [join_tail]
        rw [gd_true]
        rw [Bool.and_eq_true, decide_eq_true_eq, decide_eq_true_eq, List.length_append, List.length_cons, List.length_map]
        omega
      simp only [hi', decide_true, cond_true, at_nat hi, Option.bind_some, words_r hx, hj]
      rw [gd_true (ble_lim (by simp only [List.length_append, List.length_cons, List.length_nil]; omega)), gd_true (ble_lim (by rw [h2]; simp only [List.length_append, List.length_cons, List.length_nil]; omega)), wrap64 (n := (i : Int) + 1) (by omega) (by omega)]
      refine .some ⟨⟨i + 1, by simp, hi, ?_⟩, by simp only; omega⟩
      simp only
      rw [List.take_succ_eq_append_getElem hi, linesF_snoc, h2]
      rfl
    · have hi' : ¬ (i : Int) < l.length := by omega
      simp only [hi', decide_false, cond_false]
      rw [List.take_of_length_le (by omega)] at h2
      exact .some h2
  obtain ⟨r, r1, rfl⟩ := key
  rw [r1]
  rfl
theorem write_o {o : List Int} {u : List UInt8} (h : o.length ≤ 1000000) (hu : u.length ≤ 1000000) : strings_Builder_WriteString_b0so o u = some () := by
  unfold strings_Builder_WriteString_b0so strings_Builder_copyCheck_o
  simp only [Option.bind_some]
  rw [gd_true (ble_lim (by omega))]
theorem words_p {x : api_Fix} (h : F2 x) {o : List Int} (ho : o.length ≤ 500000) : loopO (place_Text_x2 x) (o, 0) = some (o ++ bytesD (tailF (vsF x))) := by
  apply Ok.eq
  refine loop_ok (fun q : List Int × Int => ∃ i : Nat, q.2 = (i : Int) ∧ i ≤ (vsF x).length ∧ q.1 = o ++ bytesD (tailF ((vsF x).take i))) (fun q => (((vsF x).length : Int) - q.2).toNat) ?_ ⟨0, rfl, by omega, by simp [tailF, bytesD]⟩
  rintro ⟨p, q⟩ ⟨i, rfl, h1, h2⟩
  simp only at h2
  unfold place_Text_x2
  rw [show ([x.At, x.X, x.Y, x.Error] : List Int) = vsF x from rfl]
  have h4 : (vsF x).length = 4 := rfl
  by_cases hi : i < (vsF x).length
  · have hi' : (i : Int) < (vsF x).length := by omega
    have hb := itoaF (vsF_bn h _ (List.getElem_mem hi))
    have ht := tailF_len (ns := (vsF x).take i) fun n hn => vsF_bn h n (List.mem_of_mem_take hn)
    have ht2 : ((vsF x).take i).length ≤ 4 := by simp; omega
    simp only [hi', decide_true, cond_true, at_nat hi, Option.bind_some, hb.1]
    have hb2 := hb.2
    rw [gd_true (ble_lim (by simp only [List.length_cons, List.length_nil]; omega)), write_o (by rw [h2, List.length_append, bytesD_len]; omega) (by simp only [List.length_append, List.length_cons, List.length_nil]; omega), wrap64 (n := (i : Int) + 1) (by omega) (by omega)]
    refine .some ⟨⟨i + 1, by simp, hi, ?_⟩, by simp only; omega⟩
    simp only
    rw [h2, List.take_succ_eq_append_getElem hi, tailF_snoc, List.append_assoc]
    congr 1
    exact (bytesD_app _ _).symm
  · have hi' : ¬ (i : Int) < (vsF x).length := by omega
    simp only [hi', decide_false, cond_false]
    rw [List.take_of_length_le (by omega)] at h2
    exact .some h2
theorem textF_p {l : List api_Fix} (hb : All F2 l) (hl : l.length ≤ 100) {e : Int} (he : place_CheckFixes l = some e) : place_Text l = some (if e = 0 then (linesF l, 0) else ([], e)) := by
  unfold place_Text
  rw [he]
  simp only [Option.bind_some]
  by_cases hz : e = 0
  · simp only [hz, decide_true, Bool.not_true, cond_false, if_true]
    have key : Ok (loopO (place_Text_x1 l) ([], 0)) (fun r => r = bytesD (linesF l)) := by
      refine loop_ok (fun q : List Int × Int => ∃ i : Nat, q.2 = (i : Int) ∧ i ≤ l.length ∧ q.1 = bytesD (linesF (l.take i))) (fun q => ((l.length : Int) - q.2).toNat) ?_ ⟨0, rfl, by omega, by simp [linesF, bytesD]⟩
      rintro ⟨o, q⟩ ⟨i, rfl, h1, h2⟩
      simp only at h2
      unfold place_Text_x1
      by_cases hi : i < l.length
      · have hi' : (i : Int) < l.length := by omega
        have hx := hb _ (List.getElem_mem hi)
        have hx1 := hx.1
        have hli := tailF_len (vsF_bn hx)
        have h4 : (vsF l[i]).length = 4 := rfl
        have ho := linesF_len (l := l.take i) fun y hy => hb y (List.mem_of_mem_take hy)
        have hti : (l.take i).length ≤ 100 := by simp; omega
        have hol : o.length ≤ 30000 := by rw [h2, bytesD_len]; omega
        simp only [hi', decide_true, cond_true, at_nat hi, Option.bind_some]
        rw [write_o (by omega) (by omega)]
        simp only [Option.bind_some]
        rw [words_p hx (by rw [List.length_append, bytesD_len]; omega)]
        simp only [Option.bind_some]
        rw [write_o (by rw [List.length_append, List.length_append, bytesD_len, bytesD_len]; omega) (by simp), wrap64 (n := (i : Int) + 1) (by omega) (by omega)]
        refine .some ⟨⟨i + 1, by simp, hi, ?_⟩, by simp only; omega⟩
        simp only
        rw [List.take_succ_eq_append_getElem hi, linesF_snoc, h2, bytesD_app]
        unfold lineF
        rw [bytesD_app, bytesD_app]
        simp only [List.append_assoc]
      · have hi' : ¬ (i : Int) < l.length := by omega
        simp only [hi', decide_false, cond_false]
        rw [List.take_of_length_le (by omega)] at h2
        exact .some h2
    obtain ⟨r, r1, rfl⟩ := key
    rw [r1]
    have hlen := linesF_len hb
    have hnl : ¬ (200000 : Int) < ((bytesD (linesF l)).length : Int) := by rw [bytesD_len]; omega
    simp only [Option.bind_some, strings_Builder_Len_b0so, hnl, decide_false, cond_false, str_back]
  · simp only [hz, decide_false, Bool.not_false, cond_true, if_false]

/-! ### A line of a fix -/
def rdF (line : List UInt8) : Option api_Fix := match splitC 32 line with
  | [a, b, c, d, e] => if wordsB 5 line = true ∧ okN b 15 = true ∧ okN c 15 = true ∧ okN d 15 = true ∧ okN e 15 = true then some ⟨a, valN b, valN c, valN d, valN e⟩ else none
  | _ => none
theorem five {α : Type} {l : List α} (h : l.length = 5) : ∃ a b c d e, l = [a, b, c, d, e] := by
  match l, h with
  | [a, b, c, d, e], _ => exact ⟨a, b, c, d, e, rfl⟩
theorem wordsB_five {line : List UInt8} (h : wordsB 5 line = true) : ∃ a b c d e, splitC 32 line = [a, b, c, d, e] := by
  unfold wordsB at h
  simp only [Bool.and_eq_true, decide_eq_true_eq] at h
  exact five h.1
theorem rdF_no {line : List UInt8} (h : wordsB 5 line = false) : rdF line = none := by
  unfold rdF
  split
  · simp [h]
  · rfl
theorem rdF_five {line a b c d e : List UInt8} (h : wordsB 5 line = true) (hs : splitC 32 line = [a, b, c, d, e]) :
    rdF line = if ([b, c, d, e].all fun x => okN x 15) = true then some ⟨a, valN b, valN c, valN d, valN e⟩ else none := by
  unfold rdF
  rw [hs]
  simp only [h, true_and, List.all_cons, List.all_nil, Bool.and_true, Bool.and_eq_true]
theorem ReadsF_p : Reads place_Read_1_b0o rdF := by
  intro line s hl hs
  unfold place_Read_1_b0o
  have hw := Words_eq (line := line) (n := 5) hl
  rw [show ((5 : Nat) : Int) = 5 from rfl] at hw
  rw [hw]
  simp only [Option.bind_some]
  cases hb : wordsB 5 line with
  | false =>
    refine ⟨s, ?_, ?_⟩
    · rw [rdF_no hb]; rfl
    · intro x hx; rw [rdF_no hb] at hx; cases hx
  | true =>
    obtain ⟨a, b, c, d, e, hsp⟩ := wordsB_five hb
    have hbd := splitC_bd 32 line
    rw [hsp] at hbd
    have hsub : sub? [a, b, c, d, e] 1 (([a, b, c, d, e] : List (List UInt8)).length : Int) = some [b, c, d, e] := rfl
    have hn := numbersT_eq (w := [b, c, d, e]) (d := 15) (by omega) (fun x hx => by have := hbd x (List.mem_cons_of_mem _ hx); omega) (by simp)
    rw [show ((15 : Nat) : Int) = 15 from rfl] at hn
    rw [rdF_five hb hsp, hsp]
    simp only [cond_true, Bool.not_true, cond_false, hsub, Option.bind_some, hn]
    cases hok : ([b, c, d, e].all fun x => okN x 15) with
    | false => exact ⟨s, by simp [place_Read_1_b0o_x1], by simp⟩
    | true =>
      refine ⟨s ++ [⟨a, valN b, valN c, valN d, valN e⟩], ?_, by simp⟩
      have e0 : at? [a, b, c, d, e] 0 = some a := rfl
      have e1 : at? [valN b, valN c, valN d, valN e] 0 = some (valN b) := rfl
      have e2 : at? [valN b, valN c, valN d, valN e] 1 = some (valN c) := rfl
      have e3 : at? [valN b, valN c, valN d, valN e] 2 = some (valN d) := rfl
      have e4 : at? [valN b, valN c, valN d, valN e] 3 = some (valN e) := rfl
      have e5 : Nat.ble (s.length + ([api_Fix.mk a (valN b) (valN c) (valN d) (valN e)] : List api_Fix).length) LIM = true := ble_lim (by simp; omega)
      simp only [cond_true, List.map_cons, List.map_nil, Option.bind_some, place_Read_1_b0o_x1, e0, e1, e2, e3, e4, gd_true e5]
      simp
theorem nums_r {a : List UInt8} {ws : List (List UInt8)} (h4 : ws.length = 4) (hbd : ∀ x ∈ ws, x.length ≤ 100000) : loopO (fleetref2_FixesRead_1_b0o_x2 (a :: ws)) (([0, 0, 0, 0] : List Int), 0) = some (cond (ws.all fun x => okN x 15) (.inl (ws.map valN)) (.inr ())) := by
  apply Ok.eq
  refine loop_ok (fun q : List Int × Int => ∃ i : Nat, q.2 = (i : Int) ∧ i ≤ 4 ∧ q.1 = (ws.take i).map valN ++ List.replicate (4 - i) 0 ∧ ∀ x ∈ ws.take i, okN x 15 = true) (fun q => (4 - q.2).toNat) ?_ ⟨0, rfl, by omega, by simp, by simp⟩
  rintro ⟨o, q⟩ ⟨i, rfl, h1, h2, h3⟩
  simp only at h2
  unfold fleetref2_FixesRead_1_b0o_x2
  by_cases hi : i < 4
  · have hi' : (i : Int) < 4 := by omega
    have hil : i < ws.length := by omega
    have hw1 : IntKind.wrap .i64 ((1 : Int) + (i : Int)) = ((i + 1 : Nat) : Int) := by rw [wrap64 (by omega) (by omega)]; omega
    obtain ⟨x, x1, x2⟩ := Number_r (s := ws[i]) (most := 15) (by omega) (hbd _ (List.getElem_mem hil))
    rw [show ((15 : Nat) : Int) = 15 from rfl] at x1
    have hol : o.length = 4 := by rw [h2]; simp; omega
    have hgd : (decide ((0 : Int) ≤ (i : Int)) && decide ((i : Int) < ((4 : Nat) : Int))) = true := by simp; omega
    simp only [hi', decide_true, cond_true, hw1, at_nat (show i + 1 < (a :: ws).length by simp; omega), List.getElem_cons_succ, Option.bind_some, x1]
    rw [gd_true hgd, at_nat (show i < o.length by omega)]
    simp only [Option.bind_some]
    cases hok : okN ws[i] 15 with
    | false =>
      have : (ws.all fun x => okN x 15) = false := by
        rw [List.all_eq_false]
        exact ⟨_, List.getElem_mem hil, by simp [hok]⟩
      rw [this]
      exact .some rfl
    | true =>
      simp only [Bool.not_true, cond_false]
      rw [wrap64 (n := (i : Int) + 1) (by omega) (by omega)]
      refine .some ⟨⟨i + 1, by simp, hi, ?_, ?_⟩, by simp only; omega⟩
      · simp only [Int.toNat_natCast]
        rw [h2, List.take_succ_eq_append_getElem hil, List.map_append, x2 hok]
        have hr : List.replicate (4 - i) (0 : Int) = 0 :: List.replicate (4 - (i + 1)) 0 := by rw [show 4 - i = (4 - (i + 1)) + 1 by omega]; rfl
        rw [hr]
        have hl2 : ((ws.take i).map valN).length = i := by simp; omega
        rw [List.set_append_right _ _ (by omega), hl2, Nat.sub_self]
        simp
      · intro y hy
        rw [List.take_succ_eq_append_getElem hil] at hy
        rcases List.mem_append.1 hy with hy | hy
        · exact h3 y hy
        · rw [List.mem_singleton.1 hy]; exact hok
  · have hi' : ¬ (i : Int) < 4 := by omega
    have hi4 : i = 4 := by omega
    subst hi4
    have ht : ws.take 4 = ws := List.take_of_length_le (by omega)
    rw [ht] at h2 h3
    have : (ws.all fun x => okN x 15) = true := List.all_eq_true.2 h3
    simp only [hi', decide_false, cond_false]
    rw [this, h2]
    refine .some ?_
    simp
theorem ReadsF_r : Reads fleetref2_FixesRead_1_b0o rdF := by
  intro line s hl hs
  unfold fleetref2_FixesRead_1_b0o
  rw [split_eq (by omega)]
  have hlen := splitC_len 32 line
  have hcnt := List.count_le_length (a := (32 : UInt8)) (l := line)
  have hx1 : fleetref2_FixesRead_1_b0o_x1 (splitC 32 line) = some (!wordsB 5 line) := by
    unfold fleetref2_FixesRead_1_b0o_x1 wordsB
    by_cases hn : (splitC 32 line).length = 5
    · have hn' : decide ((((splitC 32 line).length : Nat) : Int) = 5) = true := by simp [hn]
      rw [hn', containsT_eq _ _ (by omega)]
      simp only [Bool.not_true, cond_false, Option.bind_some, hn, decide_true, Bool.true_and]
      congr 1
      rw [List.not_all_eq_any_not]
      congr 1
      funext x
      cases x <;> simp
    · have hn' : decide ((((splitC 32 line).length : Nat) : Int) = 5) = false := by simp; omega
      rw [hn']
      simp only [Bool.not_false, cond_true, hn, decide_false, Bool.false_and]
  simp only [Option.bind_some, hx1]
  cases hb : wordsB 5 line with
  | false =>
    refine ⟨s, ?_, ?_⟩
    · rw [rdF_no hb]; rfl
    · intro x hx; rw [rdF_no hb] at hx; cases hx
  | true =>
    obtain ⟨a, b, c, d, e, hsp⟩ := wordsB_five hb
    have hbd := splitC_bd 32 line
    rw [hsp] at hbd
    rw [rdF_five hb hsp, hsp, nums_r (a := a) (ws := [b, c, d, e]) rfl (fun x hx => by have := hbd x (List.mem_cons_of_mem _ hx); omega)]
    simp only [Bool.not_true, cond_false, Option.bind_some]
    cases hok : ([b, c, d, e].all fun x => okN x 15) with
    | false => exact ⟨s, by simp, by simp⟩
    | true =>
      refine ⟨s ++ [⟨a, valN b, valN c, valN d, valN e⟩], ?_, by simp⟩
      have e0 : at? [a, b, c, d, e] 0 = some a := rfl
      have e1 : at? [valN b, valN c, valN d, valN e] 0 = some (valN b) := rfl
      have e2 : at? [valN b, valN c, valN d, valN e] 1 = some (valN c) := rfl
      have e3 : at? [valN b, valN c, valN d, valN e] 2 = some (valN d) := rfl
      have e4 : at? [valN b, valN c, valN d, valN e] 3 = some (valN e) := rfl
      have e5 : Nat.ble (s.length + ([api_Fix.mk a (valN b) (valN c) (valN d) (valN e)] : List api_Fix).length) LIM = true := ble_lim (by simp; omega)
      simp only [cond_true, List.map_cons, List.map_nil, Option.bind_some, e0, e1, e2, e3, e4, gd_true e5]
      simp
theorem eachF : base_Each_f1_place_Read_1_b0n_x1 = eachX place_Read_1_b0o := rfl
theorem linesFX : fleetref2_Lines_f1_fleetref2_FixesRead_1_b0n_x1 = linesX fleetref2_FixesRead_1_b0o := rfl
theorem readF_both {t : List UInt8} (ht : t.length ≤ 100000) : ∃ l i e, place_Read t = some (l, i, e) ∧ fleetref2_FixesRead t = some (l, i, e) ∧ l.length ≤ 1000000 := by
  have h1 := each_told ReadsF_p ht
  have h2 := lines_told ReadsF_r ht
  have hlt : ¬ (200000 : Int) < (t.length : Int) := by omega
  obtain ⟨⟨l1, i1, b1⟩, r1, r2⟩ := h1
  obtain ⟨⟨l2, i2, b2⟩, r3, r4⟩ := h2
  have q1 : base_Each_f1_place_Read_1_b0n t = some (l1, i1, b1) := by
    unfold base_Each_f1_place_Read_1_b0n
    rw [eachF, ← r1]
    congr 1
    funext p
    obtain ⟨a, b⟩ := p
    show (loopO (eachX place_Read_1_b0o a b) ([], 0)).bind _ = (loopO (eachX place_Read_1_b0o a b) ([], 0)).bind _
    congr 1
    funext x
    rcases x with x | ⟨c, d⟩ <;> rfl
  have q2 : fleetref2_Lines_f1_fleetref2_FixesRead_1_b0n t = some (l2, i2, b2) := by
    unfold fleetref2_Lines_f1_fleetref2_FixesRead_1_b0n
    rw [linesFX, ← r3]
    congr 1
    funext x
    rcases x with x | ⟨c, d⟩ <;> rfl
  unfold place_Read fleetref2_FixesRead
  simp only [hlt, decide_false, cond_false, q1, q2, Option.bind_some]
  clear q1 q2
  cases hr : readL rdF t with
  | inr j =>
    rw [hr] at r2 r4
    simp only [Told, Prod.mk.injEq] at r2 r4
    rw [r2.1, r2.2, r4.1, r4.2]
    exact ⟨_, _, _, rfl, rfl, by simp⟩
  | inl xs =>
    rw [hr] at r2 r4
    simp only [Told, Prod.mk.injEq] at r2 r4
    rw [r2.1, r2.2.1, r2.2.2, r4.1, r4.2.1, r4.2.2]
    have hsc : ∃ F : List (List UInt8), xs.length = F.length ∧ F.length ≤ t.length ∧ ∀ x ∈ xs, ∃ a ∈ fulls t, rdF a = some x := by
      unfold readL at hr
      cases e : scanR rdF (fulls t) 0 with
      | inr j => rw [e] at hr; cases hr
      | inl ys =>
        rw [e] at hr
        simp only at hr
        split at hr
        · injection hr with hr; subst hr
          obtain ⟨g1, g2⟩ := scanR_len e
          exact ⟨fulls t, g1, fulls_len t, g2⟩
        · cases hr
    obtain ⟨F, g1, g2, g3⟩ := hsc
    have hb : All FB xs := by
      intro x hx
      obtain ⟨a, ha, hra⟩ := g3 x hx
      have hal := fulls_bd t a ha
      unfold rdF at hra
      split at hra
      · rename_i w0 w1 w2 w3 w4 e
        split at hra
        · rename_i h
          injection hra with hra
          subst hra
          have b0 := splitC_bd 32 a w0 (by rw [e]; simp)
          have v1 := valN_rng h.2.1
          exact ⟨by simp only; omega, by simp only; omega⟩
        · cases hra
      · cases hra
    obtain ⟨e, e1, e2⟩ := check_both hb (by omega)
    rw [e1, e2]
    simp only [Bool.not_true, cond_false, Option.bind_some]
    by_cases hz : e = 0
    · simp only [hz, decide_true, Bool.not_true, cond_false]
      exact ⟨_, _, _, rfl, rfl, by omega⟩
    · simp only [hz, decide_false, Bool.not_false, cond_true]
      exact ⟨_, _, _, rfl, rfl, by simp⟩

/-! ### The stream of texts; the law -/
theorem rune_lenF : (([32, 10, 48, 45, 57, 100] : List UInt8).all fun c => decide ((runeS (IntKind.wrap .i32 ((c.toNat : Nat) : Int))).length ≤ 4)) = true := by kernel_rfl
theorem FixText_ok {k : Nat} {s : fleetmake_Stream} (h : StrOk k s) (hk : k + 300 < 1099511627776) : Ok (fleetmake_Stream_FixText s) (fun r => StrOk (k + 200) r.1 ∧ r.2.length ≤ 5000) := by
  unfold fleetmake_Stream_FixText
  refine Ok.bind (P := fun r : fleetmake_Stream × List UInt8 => StrOk (k + 101) r.1 ∧ r.2.length ≤ 2000) ?_ fun ⟨s2, t⟩ ⟨b1, ht⟩ => ?_
  · unfold fleetmake_Stream_FixText_x1
    refine (Range_ok h (by omega) (by omega) (by omega)).bind fun ⟨s1, n⟩ ⟨a1, a2, a3, _⟩ => ?_
    have a3 := a3 (by omega)
    simp only at a1 a2 a3
    refine (FixesT_ok a1 (by omega) ⟨by omega, by omega⟩).bind fun ⟨s2, l⟩ ⟨b1, b2, b3⟩ => ?_
    simp only at b1 b2 b3
    obtain ⟨e, _, e2⟩ := check_both (fun x hx => (b2 x hx).fb) (show l.length ≤ 100000 by omega)
    dsimp only
    rw [e2, linesF_r b2 (by omega)]
    have := linesF_len b2
    simp only [Option.bind_some]
    exact .cond (fun _ => .some ⟨b1.mono (by omega), by simp only; omega⟩) (fun _ => .some ⟨b1.mono (by omega), by simp⟩)
  simp only at b1 ht
  refine (Pick_ok b1 (by omega) (by simp) (by simp)).bind fun m hm => ?_
  have hm : 0 ≤ m ∧ m ≤ 2 := by simp at hm; omega
  refine Ok.bind (P := fun r : fleetmake_Stream × List UInt8 => StrOk (k + 200) r.1 ∧ r.2.length ≤ 5000) ?_ fun ⟨s3, u3⟩ h3 => .some h3
  refine loop_ok (fun q : fleetmake_Stream × List UInt8 × Int => ∃ i : Nat, q.2.2 = (i : Int) ∧ (i : Int) ≤ m ∧ StrOk (k + 110 + 3 * i) q.1 ∧ q.2.1.length ≤ 2000 + 7 * i) (fun q => (m - q.2.2).toNat) ?_ ⟨0, rfl, by omega, (b1.nxt (by omega)).mono (by omega), by simpa using ht⟩
  rintro ⟨s4, u4, q⟩ ⟨i, e1, e2, e3, e4⟩
  simp only at e1 e3 e4
  subst e1
  unfold fleetmake_Stream_FixText_x2
  refine .cond (fun hc => ?_) (fun hc => .some ⟨e3.mono (by omega), by simp only; omega⟩)
  have hc : (i : Int) < m := by simpa using hc
  refine (ChangedT_ok e3 (by omega) (by omega) (by simp) (by simp) rune_lenF).bind fun ⟨s5, u5⟩ ⟨c1, c2⟩ => ?_
  simp only at c1 c2
  rw [wrap64 (n := (i : Int) + 1) (by omega) (by omega)]
  exact .some ⟨⟨i + 1, by simp, by omega, c1.mono (by omega), by simp only; omega⟩, by simp only; omega⟩
theorem FixTexts_true (L : List Int) (hL : L.length ≤ 9223372036854775807) (hI : ∀ n ∈ L, -9223372036854775808 ≤ n ∧ n ≤ 9223372036854775807) : fleetlaw2_FixTexts L = some true := by
  apply Ok.eq
  unfold fleetlaw2_FixTexts
  have s0 : StrOk 0 (fleetmake_Stream.mk L 0) := ⟨Int.le_refl _, Int.le_refl _, hL, hI⟩
  refine (Range_ok s0 (by omega) (by omega) (by omega)).bind fun ⟨s1, n⟩ ⟨a1, a2, a3, _⟩ => ?_
  have a3 := a3 (by omega)
  simp only at a1 a2 a3
  refine (FixesT_ok a1 (by omega) ⟨by omega, by omega⟩).bind fun ⟨s2, l⟩ ⟨b1, b2, b3⟩ => ?_
  simp only at b1 b2 b3
  refine (FixText_ok b1 (by omega)).bind fun ⟨s3, t⟩ ⟨c1, c2⟩ => ?_
  simp only at c1 c2
  obtain ⟨ce, ce1, ce2⟩ := check_both (fun x hx => (b2 x hx).fb) (show l.length ≤ 100000 by omega)
  obtain ⟨xs, i, e, r1, r2, r3⟩ := readF_both (t := t) (by omega)
  rw [textF_p b2 (by omega) ce1, ce2]
  dsimp only
  rw [r1, r2]
  have hx1 : fleetlaw2_FixTexts_x1 l ce = some (if ce = 0 then linesF l else []) := by
    unfold fleetlaw2_FixTexts_x1
    rw [linesF_r b2 (by omega)]
    by_cases hz : ce = 0 <;> simp [hz]
  have hfin : ∀ (u : List UInt8) (c : Int), fleetlaw2_FixTexts_x2 u c c u xs i e xs i e = some true := by
    intro u c
    unfold fleetlaw2_FixTexts_x2
    simp only [decide_true, cond_true, fequal_self (l := xs) (by omega), Option.bind_some, placed_eq]
  by_cases hz : ce = 0
  · simp only [hz, if_true] at hx1 ⊢
    simp only [Option.bind_some, hx1, hfin]
    exact .some rfl
  · simp only [hz, if_false] at hx1 ⊢
    simp only [Option.bind_some, hx1, hfin]
    exact .some rfl
end Go.Eng

