/-
What the plain functions of the law TracksPlain answer, part 1.
-/
import Derived.Test.YtjiadailjnbglaaGenF
import Derived.KernelRfl
import Derived.Test.YtjiadailjnbglaaEngV
/-
Plain functions: what they answer, in total. Loops by an invariant and a measure.
-/
namespace Go.Eng
open Go
set_option linter.unusedVariables false
set_option linter.unusedSimpArgs false

def Ok {α : Type} (x : Option α) (P : α → Prop) : Prop := ∃ r, x = some r ∧ P r
section
variable {α β σ ρ : Type} {P Q : α → Prop} {R : β → Prop}
theorem Ok.some {r : α} (h : P r) : Ok (some r) P := ⟨r, rfl, h⟩
theorem Ok.mono {x : Option α} (h : Ok x P) (hq : ∀ r, P r → Q r) : Ok x Q := let ⟨r, h1, h2⟩ := h; ⟨r, h1, hq r h2⟩
theorem Ok.bind {x : Option α} {f : α → Option β} (h : Ok x P) (hf : ∀ r, P r → Ok (f r) R) : Ok (x.bind f) R := by
  obtain ⟨r, rfl, hr⟩ := h
  exact hf r hr
theorem Ok.cond {b : Bool} {x y : Option α} (ht : b = true → Ok x P) (hf : b = false → Ok y P) : Ok (cond b x y) P := by
  cases b
  · exact hf rfl
  · exact ht rfl
theorem Ok.gd {b : Bool} {x : Option α} (hb : b = true) (h : Ok x P) : Ok (gd b x) P := by
  subst hb; exact h
theorem Ok.eq {x : Option α} {r : α} (h : Ok x fun y => y = r) : x = Option.some r := by
  obtain ⟨y, h1, h2⟩ := h
  rw [h1, h2]
theorem Ok.of_eq {x : Option α} {r : α} (h : x = Option.some r) (hp : P r) : Ok x P := ⟨r, h, hp⟩

theorem loop_ok {f : σ → Option (σ ⊕ ρ)} {Q : ρ → Prop} (I : σ → Prop) (μ : σ → Nat)
    (step : ∀ s, I s → Ok (f s) fun x => match x with | .inl s' => I s' ∧ μ s' < μ s | .inr r => Q r) {s : σ} (h : I s) : Ok (loopO f s) Q := by
  generalize hn : μ s = n
  induction n using Nat.strongRecOn generalizing s with
  | _ n ih =>
    obtain ⟨x, h1, h2⟩ := step s h
    cases x with
    | inl s' =>
      obtain ⟨h3, h4⟩ := h2
      obtain ⟨r, h5, h6⟩ := ih (μ s') (by omega) h3 rfl
      refine ⟨r, ?_, h6⟩
      rw [loopO_eq, h1]
      exact h5
    | inr r =>
      refine ⟨r, ?_, h2⟩
      rw [loopO_eq, h1]
      rfl

theorem at_lt {l : List α} {n : Int} (h : 0 ≤ n) (h2 : n < l.length) : at? l n = Option.some (l[n.toNat]'(by omega)) := by
  unfold at?
  rw [if_pos h, List.getElem?_eq_getElem]
theorem at_nat {l : List α} {n : Nat} (h : n < l.length) : at? l (n : Int) = Option.some l[n] := by
  rw [at_lt (by omega) (by omega)]
  simp
theorem at_ok {l : List α} {n : Int} (h : 0 ≤ n) (h2 : n < l.length) : Ok (at? l n) (fun y => l[n.toNat]? = Option.some y) := by
  refine ⟨_, at_lt h h2, ?_⟩
  rw [List.getElem?_eq_getElem]
theorem at_mem {l : List α} {n : Int} (h : 0 ≤ n) (h2 : n < l.length) : Ok (at? l n) (fun y => y ∈ l) := by
  refine (at_ok h h2).mono fun y hy => List.mem_of_getElem? hy
end

/-! ### Integers of 64 bits -/
def I64 (n : Int) : Prop := -9223372036854775808 ≤ n ∧ n ≤ 9223372036854775807
theorem wrap64 {n : Int} (h : -9223372036854775808 ≤ n) (h2 : n ≤ 9223372036854775807) : IntKind.wrap .i64 n = n := by
  unfold IntKind.wrap
  simp [IntKind.min, IntKind.max, IntKind.bits, IntKind.signed]
  omega
theorem tmod_nonneg {a b : Int} (h : 0 ≤ a) : 0 ≤ a.tmod b := Int.tmod_nonneg b h
theorem tmod_lt' {a b : Int} (h : 0 < b) : a.tmod b < b := Int.tmod_lt_of_pos a h
theorem lim_eq : LIM = 137438953472 := by decide
theorem ble_lim {n : Nat} (h : n ≤ 137438953472) : Nat.ble n LIM = true := by rw [Nat.ble_eq, lim_eq]; exact h
end Go.Eng

/-
Loops over the elements of a list; keys.
-/
namespace Go.Eng
open Go
set_option linter.unusedVariables false
set_option linter.unusedSimpArgs false

/-- The first answer of the elements from number k on. -/
def scan {α ρ : Type} (g : Nat → α → Option ρ) : Nat → List α → Option ρ
  | _, [] => none
  | k, x :: xs => match g k x with
    | some r => some r
    | none => scan g (k + 1) xs

theorem drop_get {α : Type} {l : List α} {i : Nat} (h : i < l.length) : l.drop i = l[i] :: l.drop (i + 1) := List.drop_eq_getElem_cons h

/-- A loop over a list that ends at the first element with an answer. -/
theorem range_loop {α ρ : Type} {l : List α} {f : Int → Option (Int ⊕ ρ)} (g : Nat → α → Option ρ) (done : ρ) (hl : (l.length : Int) ≤ 9223372036854775807)
    (hf : ∀ (i : Nat) (h : i < l.length), f i = some (match g i l[i] with | none => .inl (IntKind.wrap .i64 (i + 1)) | some r => .inr r)) (hd : f l.length = some (.inr done)) :
    loopO f 0 = some ((scan g 0 l).getD done) := by
  have key : ∀ (n i : Nat), l.length - i = n → i ≤ l.length → loopO f i = some ((scan g i (l.drop i)).getD done) := by
    intro n
    induction n with
    | zero =>
      intro i h1 h2
      have : i = l.length := by omega
      subst this
      rw [loopO_eq, hd, List.drop_length]
      rfl
    | succ n ih =>
      intro i h1 h2
      have hi : i < l.length := by omega
      rw [loopO_eq, hf i hi, drop_get hi]
      simp only [scan]
      cases hg : g i l[i] with
      | some r => rfl
      | none =>
        simp only [Option.bind_some]
        rw [wrap64 (by omega) (by omega)]
        exact ih (i + 1) (by omega) (by omega)
  exact key l.length 0 (by omega) (by omega)

theorem scan_none {α ρ : Type} {g : Nat → α → Option ρ} : ∀ {l : List α} {k : Nat}, scan g k l = none ↔ ∀ (i : Nat) (x : α), l[i]? = some x → g (k + i) x = none
  | [], k => by simp [scan]
  | y :: l, k => by
    simp only [scan]
    cases hg : g k y with
    | some r =>
      simp only [reduceCtorEq, false_iff]
      intro h
      have := h 0 y rfl
      rw [Nat.add_zero, hg] at this
      cases this
    | none =>
      simp only
      rw [scan_none]
      constructor
      · intro h i x hi
        cases i with
        | zero => simp at hi; subst hi; exact hg
        | succ i => rw [show k + (i + 1) = k + 1 + i by omega]; exact h i x (by simpa using hi)
      · intro h i x hi
        rw [show k + 1 + i = k + (i + 1) by omega]
        exact h (i + 1) x (by simpa using hi)
/-! ### Keys -/
def keyC (c : UInt8) : Bool := (97 ≤ c.toNat && c.toNat ≤ 122) || (48 ≤ c.toNat && c.toNat ≤ 57) || c.toNat == 45 || c.toNat == 95
def keyB (s : List UInt8) : Bool := match s with
  | [] => false
  | c :: l => decide (l.length < 40) && (97 ≤ c.toNat && c.toNat ≤ 122) && (c :: l).all keyC

theorem u8_lt (c : UInt8) : c.toNat < 256 := c.toNat_lt

theorem u8_all {p : UInt8 → Bool} (h : ((List.range 256).all fun n => p (UInt8.ofNat n)) = true) (c : UInt8) : p c = true := by
  have := List.all_eq_true.1 h c.toNat (List.mem_range.2 (u8_lt c))
  simpa using this
theorem Key_x3 (c : UInt8) : base_Key_x3 c = some (!keyC c) := by
  have := u8_all (p := fun c => decide (base_Key_x3 c = some (!keyC c))) (by decide +kernel) c
  simpa using this
theorem Key_x2 (s : List UInt8) (hs : (s.length : Int) ≤ 9223372036854775807) : loopO (base_Key_x2 s) 0 = some (cond (s.all keyC) (.inl ()) (.inr ())) := by
  rw [range_loop (l := s) (fun _ c => cond (keyC c) none (some (.inr ()))) (.inl ()) hs]
  · congr 1
    generalize 0 = k
    induction s generalizing k with
    | nil => rfl
    | cons c s ih =>
      simp only [scan, List.all_cons]
      cases keyC c with
      | true => simp only [cond_true, Bool.true_and]; exact ih (by simp at hs; omega) (k + 1)
      | false => rfl
  · intro i hi
    unfold base_Key_x2
    rw [at_nat hi]
    have : ((i : Int) < s.length) := by omega
    simp only [this, decide_true, cond_true, Option.bind_some, Key_x3]
    cases keyC s[i] <;> rfl
  · unfold base_Key_x2
    simp
theorem Key_eq (s : List UInt8) (hs : (s.length : Int) ≤ 9223372036854775807) : base_Key s = some (keyB s) := by
  unfold base_Key base_Key_x1
  cases s with
  | nil => simp [keyB]
  | cons c l =>
    rw [Key_x2 _ hs]
    have h0 : at? (c :: l) 0 = some c := rfl
    simp only [reduceCtorEq, decide_false, cond_false, h0, Option.bind_some]
    unfold keyB
    have h40 : ((40 : Int) < ((c :: l).length : Int)) ↔ ¬ l.length < 40 := by simp; omega
    by_cases h1 : l.length < 40
    · have h1' : ¬ ((40 : Int) < ((c :: l).length : Int)) := by rw [h40]; simpa using h1
      simp only [h1', decide_false, cond_false, h1, decide_true, Bool.true_and]
      by_cases h2 : (c.toNat : Int) < 97
      · have : ¬ 97 ≤ c.toNat := by omega
        simp [h2, this]
      · by_cases h3 : (122 : Int) < c.toNat
        · have : ¬ c.toNat ≤ 122 := by omega
          simp [h2, h3, this]
        · have g1 : 97 ≤ c.toNat := by omega
          have g2 : c.toNat ≤ 122 := by omega
          simp only [h2, decide_false, cond_false, h3, Option.bind_some, g1, g2, decide_true, Bool.and_self, Bool.true_and]
          cases (c :: l).all keyC <;> rfl
    · have h1' : ((40 : Int) < ((c :: l).length : Int)) := by rw [h40]; exact h1
      simp only [h1', h1, decide_true, decide_false, cond_true, Option.bind_some, Bool.false_and]
end Go.Eng

/-
Sorting of few elements, and what is left of equal ones, for all kinds of elements.
-/
namespace Go.Eng
open Go
set_option linter.unusedVariables false
set_option linter.unusedSimpArgs false

/-- Two loops side by side, over the same states. -/
theorem loop_two {σ ρ : Type} {f g : σ → Option (σ ⊕ ρ)} (I : σ → Prop) (μ : σ → Nat) (Q : ρ → Prop)
    (step : ∀ s, I s → (∃ s', f s = some (.inl s') ∧ g s = some (.inl s') ∧ I s' ∧ μ s' < μ s) ∨ (∃ r, f s = some (.inr r) ∧ g s = some (.inr r) ∧ Q r)) {s : σ} (h : I s) :
    ∃ r, loopO f s = some r ∧ loopO g s = some r ∧ Q r := by
  generalize hn : μ s = n
  induction n using Nat.strongRecOn generalizing s with
  | _ n ih =>
    rcases step s h with ⟨s', h1, h2, h3, h4⟩ | ⟨r, h1, h2, h3⟩
    · obtain ⟨r, g1, g2, g3⟩ := ih (μ s') (by omega) h3 rfl
      refine ⟨r, ?_, ?_, g3⟩
      · rw [loopO_eq, h1]; exact g1
      · rw [loopO_eq, h2]; exact g2
    · refine ⟨r, ?_, ?_, h3⟩
      · rw [loopO_eq, h1]; rfl
      · rw [loopO_eq, h2]; rfl

theorem loop_in {σ ρ : Type} {f : σ → Option (σ ⊕ ρ)} {s s' : σ} (h : f s = some (.inl s')) : loopO f s = loopO f s' := by rw [loopO_eq, h]; rfl
theorem loop_out {σ ρ : Type} {f : σ → Option (σ ⊕ ρ)} {s : σ} {r : ρ} (h : f s = some (.inr r)) : loopO f s = some r := by rw [loopO_eq, h]; rfl

section
variable {α : Type}
/-! ### Insertion, as the code has it -/
noncomputable def gI3 (cmp : α → α → Option Int) (qa : Int) (vl3 : List α) (vj1 : Int) : Option (Bool) :=
  cond (decide (qa < vj1))
    ((at? vl3 vj1).bind fun vy15 =>
    (at? vl3 (IntKind.wrap .i64 (vj1 - 1))).bind fun vy16 =>
    (cmp vy15 vy16).bind fun vr1_3 =>
    some (decide (vr1_3 < 0)))
    (some false)
noncomputable def gI2 (cmp : α → α → Option Int) (qa : Int) : (List α) × Int → Option (((List α) × Int) ⊕ ((List α)))
  | (vl3, vj1) =>
  (gI3 cmp qa vl3 vj1).bind fun vx4_1 =>
  cond (vx4_1)
    ((at? vl3 (IntKind.wrap .i64 (vj1 - 1))).bind fun vy17 =>
    (at? vl3 vj1).bind fun vy18 =>
    (at? (vl3.set vj1.toNat vy17) (IntKind.wrap .i64 (vj1 - 1))).bind fun vy19 =>
    some (.inl ((vl3.set vj1.toNat vy17).set (IntKind.wrap .i64 (vj1 - 1)).toNat vy18, IntKind.wrap .i64 (vj1 - 1))))
    (some (.inr vl3))
noncomputable def gI1 (cmp : α → α → Option Int) (qa : Int) (qb : Int) : (List α) × Int → Option (((List α) × Int) ⊕ ((List α)))
  | (vl, vi) =>
  cond (decide (vi < qb))
    ((loopO (gI2 cmp qa) (vl, vi)).bind fun vl4_1 =>
    some (.inl (vl4_1, IntKind.wrap .i64 (vi + 1))))
    (some (.inr vl))
noncomputable def gI (cmp : α → α → Option Int) (qdata : List α) (qa : Int) (qb : Int) : Option ((List α)) :=
  (loopO (gI1 cmp qa qb) (qdata, IntKind.wrap .i64 (qa + 1))).bind fun vl5_1 =>
  some vl5_1
def All (p : α → Prop) (l : List α) : Prop := ∀ x ∈ l, p x
theorem All.nil {p : α → Prop} : All p [] := fun _ h => nomatch h
theorem All.set {p : α → Prop} {l : List α} (h : All p l) {i : Nat} {x : α} (hx : p x) : All p (l.set i x) := by
  intro y hy
  rcases List.mem_or_eq_of_mem_set hy with hy | rfl
  · exact h y hy
  · exact hx
theorem All.at {p : α → Prop} {l : List α} (h : All p l) {i : Nat} (hi : i < l.length) : p l[i] := h _ (List.getElem_mem hi)

theorem at_i {l : List α} {n : Int} (h : 0 ≤ n) (h2 : n < l.length) : ∃ y, at? l n = some y ∧ y ∈ l := ⟨_, at_lt h h2, List.getElem_mem _⟩

/-! ### Equal ones, as the code has it -/
end
end Go.Eng

/-
Small checks; the order of measurements.
-/
namespace Go.Eng
open Go
set_option linter.unusedVariables false
set_option linter.unusedSimpArgs false

theorem Out_eq (n low high : Int) : base_Out n low high = some (decide (n < low) || decide (high < n)) := by
  unfold base_Out base_Out_x1
  by_cases h : n < low <;> simp [h]
theorem Moment_eq (n : Int) : base_Moment n = some (decide (0 ≤ n) && decide (n ≤ 345686399999)) := by
  unfold base_Moment
  rw [Out_eq]
  simp only [Option.bind_some]
  congr 1
  rw [Bool.eq_iff_iff]
  simp
theorem in_eq (n low high : Int) : fleetref2_in n low high = some (decide (low ≤ n) && decide (n ≤ high)) := by
  unfold fleetref2_in fleetref2_in_x1
  by_cases h : low ≤ n <;> simp [h]
theorem QMoment_eq (n : Int) : fleetref2_Moment n = some (decide (0 ≤ n) && decide (n ≤ 345686399999)) := by
  unfold fleetref2_Moment
  rw [in_eq]
  rfl

theorem indexByte_neg (l : List UInt8) (c : UInt8) : decide (Lib.indexByte l c < 0) = !l.contains c := by
  induction l with
  | nil => rfl
  | cons b l ih =>
    have hge := Lib.indexByte_ge l c
    unfold Lib.indexByte
    rw [List.contains_cons]
    by_cases hb : (b == c) = true
    · have : (c == b) = true := by rw [BEq.comm]; exact hb
      simp [hb, this]
    · have hb' : (b == c) = false := by simpa using hb
      have : (c == b) = false := by rw [BEq.comm]; exact hb'
      simp only [hb', Bool.false_eq_true, if_false, this, Bool.false_or]
      rw [← ih]
      by_cases h1 : Lib.indexByte l c = -1
      · simp [h1]
      · have : (Lib.indexByte l c == -1) = false := by simpa using h1
        simp only [this, Bool.false_eq_true, if_false]
        congr 1
        simp
        omega
theorem only_eq (s t : List UInt8) (hs : (s.length : Int) ≤ 9223372036854775807) : fleetref2_only s t = some (s.all fun c => t.contains c) := by
  unfold fleetref2_only
  rw [range_loop (l := s) (fun _ c => cond (t.contains c) none (some (.inr ()))) (.inl ()) hs]
  · simp only [Option.bind_some]
    generalize 0 = k
    induction s generalizing k with
    | nil => rfl
    | cons c s ih =>
      simp only [scan, List.all_cons]
      cases t.contains c with
      | true => simp only [cond_true, Bool.true_and]; exact ih (by simp at hs; omega) (k + 1)
      | false => rfl
  · intro i hi
    unfold fleetref2_only_x1
    rw [at_nat hi]
    have : ((i : Int) < s.length) := by omega
    have hc : ((s[i].toNat : Int).toNat.toUInt8) = s[i] := by simp
    simp only [this, decide_true, cond_true, Option.bind_some, strings_IndexByte, stringslite_IndexByte, hc, indexByte_neg]
    cases t.contains s[i] <;> rfl
  · unfold fleetref2_only_x1
    simp

theorem small_contains (c : UInt8) : ([97, 98, 99, 100, 101, 102, 103, 104, 105, 106, 107, 108, 109, 110, 111, 112, 113, 114, 115, 116, 117, 118, 119, 120, 121, 122] : List UInt8).contains c = (decide (97 ≤ c.toNat) && decide (c.toNat ≤ 122)) := by
  have := u8_all (p := fun c => ([97, 98, 99, 100, 101, 102, 103, 104, 105, 106, 107, 108, 109, 110, 111, 112, 113, 114, 115, 116, 117, 118, 119, 120, 121, 122] : List UInt8).contains c == (decide (97 ≤ c.toNat) && decide (c.toNat ≤ 122))) (by decide +kernel) c
  exact eq_of_beq this
theorem key_contains (c : UInt8) : ([97, 98, 99, 100, 101, 102, 103, 104, 105, 106, 107, 108, 109, 110, 111, 112, 113, 114, 115, 116, 117, 118, 119, 120, 121, 122, 48, 49, 50, 51, 52, 53, 54, 55, 56, 57, 45, 95] : List UInt8).contains c = keyC c := by
  have := u8_all (p := fun c => ([97, 98, 99, 100, 101, 102, 103, 104, 105, 106, 107, 108, 109, 110, 111, 112, 113, 114, 115, 116, 117, 118, 119, 120, 121, 122, 48, 49, 50, 51, 52, 53, 54, 55, 56, 57, 45, 95] : List UInt8).contains c == keyC c) (by decide +kernel) c
  exact eq_of_beq this

theorem QKey_eq (s : List UInt8) (hs : (s.length : Int) ≤ 9223372036854775807) : fleetref2_Key s = some (keyB s) := by
  unfold fleetref2_Key fleetref2_Key_x1
  rw [in_eq]
  cases s with
  | nil => rfl
  | cons c l =>
    have h1 : (1 : Int) ≤ ((c :: l).length : Int) := by simp; omega
    have h40 : (((c :: l).length : Int) ≤ 40) ↔ l.length < 40 := by simp; omega
    have hsub : sub? (c :: l) 0 1 = some [c] := by
      unfold sub?
      simp
      omega
    simp only [Option.bind_some, h1, decide_true, Bool.true_and, hsub]
    rw [only_eq [c] _ (by simp), only_eq (c :: l) _ hs]
    simp only [small_contains, key_contains, Option.bind_some, List.all_cons, List.all_nil, Bool.and_true]
    unfold keyB
    simp only [List.all_cons]
    by_cases h2 : l.length < 40
    · have : (((c :: l).length : Int) ≤ 40) := h40.2 h2
      simp only [this, decide_true, cond_true, h2, Bool.true_and]
      cases (decide (97 ≤ c.toNat) && decide (c.toNat ≤ 122)) <;> rfl
    · have : ¬ (((c :: l).length : Int) ≤ 40) := fun h => h2 (h40.1 h)
      simp only [this, decide_false, cond_false, h2, Bool.false_and, Option.bind_some]

/-! ### Orders -/
def cmpI (a b : Int) : Int := if a < b then -1 else if b < a then 1 else 0
def or0 (a b : Int) : Int := if a = 0 then b else a
theorem cmpB_self : ∀ a : List UInt8, Lib.compareBytes a a = 0
  | [] => rfl
  | x :: a => by
    unfold Lib.compareBytes
    simp [UInt8.lt_irrefl, cmpB_self a]
theorem cmpB_anti : ∀ a b : List UInt8, Lib.compareBytes b a = -Lib.compareBytes a b
  | [], [] => rfl
  | [], _ :: _ => rfl
  | _ :: _, [] => rfl
  | x :: a, y :: b => by
    unfold Lib.compareBytes
    by_cases h1 : x < y
    · have h2 : ¬ y < x := UInt8.lt_asymm h1
      simp [h1, h2]
    · by_cases h2 : y < x
      · simp [h1, h2]
      · simp [h1, h2, cmpB_anti a b]
theorem cmpB_zero : ∀ {a b : List UInt8}, Lib.compareBytes a b = 0 ↔ a = b
  | [], [] => by simp [Lib.compareBytes]
  | [], _ :: _ => by simp [Lib.compareBytes]
  | _ :: _, [] => by simp [Lib.compareBytes]
  | x :: a, y :: b => by
    unfold Lib.compareBytes
    by_cases h1 : x < y
    · have : x ≠ y := fun h => UInt8.lt_irrefl y (h ▸ h1)
      simp [h1, this]
    · by_cases h2 : y < x
      · have : x ≠ y := fun h => UInt8.lt_irrefl x (by rw [h] at h2 ⊢; exact h2)
        simp [h1, h2, this]
      · have : x = y := UInt8.le_antisymm (UInt8.not_lt.1 h2) (UInt8.not_lt.1 h1)
        simp [h1, h2, cmpB_zero (a := a) (b := b), this]
theorem cmpI_anti (a b : Int) : cmpI b a = -cmpI a b := by unfold cmpI; split <;> split <;> first | omega | (split <;> omega) | rfl
theorem or0_neg (a b : Int) : or0 (-a) (-b) = -or0 a b := by unfold or0; split <;> split <;> omega
end Go.Eng

/-
Checks of measurements and series, both ways.
-/
namespace Go.Eng
open Go
set_option linter.unusedVariables false
set_option linter.unusedSimpArgs false

theorem cmpInt_eq (a b : Int) : cmp_Compare_int a b = some (cmpI a b) := by
  unfold cmp_Compare_int cmp_isNaN_int cmpI
  by_cases h1 : a < b
  · simp [h1]
  · by_cases h2 : b < a <;> simp [h1, h2]
theorem Or_eq (l : List Int) (hl : (l.length : Int) ≤ 9223372036854775807) : cmp_Or_int l = some ((l.find? fun x => !decide (x = 0)).getD 0) := by
  unfold cmp_Or_int
  rw [range_loop (l := l) (fun _ x => cond (!decide (x = 0)) (some (.inr x)) none) (.inl ()) hl]
  · simp only [Option.bind_some]
    generalize 0 = k
    induction l generalizing k with
    | nil => rfl
    | cons c s ih =>
      simp only [scan, List.find?_cons]
      by_cases hc : c = 0
      · simp only [hc, decide_true, Bool.not_true, cond_false]
        exact ih (by simp at hl; omega) (k + 1)
      · simp [hc]
  · intro i hi
    unfold cmp_Or_int_x1
    rw [at_nat hi]
    have : ((i : Int) < l.length) := by omega
    simp only [this, decide_true, cond_true, Option.bind_some]
    cases (!decide (l[i] = 0)) <;> rfl
  · unfold cmp_Or_int_x1
    simp
theorem sign_eq (n : Int) : fleetref2_sign n = some (cmpI n 0) := by
  unfold fleetref2_sign cmpI
  by_cases h1 : n < 0
  · simp [h1]
  · by_cases h2 : 0 < n <;> simp [h1, h2]
/-! ### Check -/
end Go.Eng

/-
Fixes: checks, orders, merging, those of a device.
-/
namespace Go.Eng
open Go
set_option linter.unusedVariables false
set_option linter.unusedSimpArgs false

/-- Fixes as streams make them. -/
def FB (x : api_Fix) : Prop := (x.Device.length : Int) ≤ 1000 ∧ (-2199023255552 ≤ x.At ∧ x.At ≤ 2199023255552)
def fOrd (a b : api_Fix) : Int := or0 (Lib.compareBytes a.Device b.Device) (cmpI a.At b.At)
theorem fOrd_anti (a b : api_Fix) : fOrd b a = -fOrd a b := by
  unfold fOrd
  rw [cmpB_anti, cmpI_anti, or0_neg]
theorem or2_eq (a b : Int) : cmp_Or_int [a, b] = some (or0 a b) := by
  rw [Or_eq _ (by simp)]
  unfold or0
  by_cases ha : a = 0 <;> by_cases hb : b = 0 <;> simp [ha, hb]
theorem fbyDevice_eq (a b : api_Fix) : place_byDevice a b = some (fOrd a b) := by
  unfold place_byDevice strings_Compare bytealg_CompareString
  simp only [Option.bind_some, cmpInt_eq, or2_eq]
  rfl
theorem FixOrder_eq {a b : api_Fix} (ha : FB a) (hb : FB b) : fleetref2_FixOrder a b = some (fOrd a b) := by
  obtain ⟨_, a1, a2⟩ := ha
  obtain ⟨_, b1, b2⟩ := hb
  unfold fleetref2_FixOrder strings_Compare bytealg_CompareString fOrd
  by_cases h : a.Device = b.Device
  · simp only [h, decide_true, Bool.not_true, cond_false, cmpB_self]
    rw [wrap64 (by omega) (by omega), sign_eq]
    simp only [Option.bind_some, or0, if_true]
    congr 1
    unfold cmpI
    (repeat' split) <;> omega
  · have h0 : Lib.compareBytes a.Device b.Device ≠ 0 := fun h1 => h (cmpB_zero.1 h1)
    simp [h, or0, h0]
/-! ### The library's functions are those for all kinds -/
/-! ### Checks -/
theorem isSpot_eq (s : api_Spot) : place_isSpot s = some ((decide (-10000 ≤ s.X) && decide (s.X ≤ 10000)) && (decide (-10000 ≤ s.Y) && decide (s.Y ≤ 10000))) := by
  unfold place_isSpot place_isSpot_x1
  simp only [Out_eq, Option.bind_some]
  by_cases h1 : s.X < -10000 <;> by_cases h2 : 10000 < s.X <;> by_cases h3 : s.Y < -10000 <;> by_cases h4 : 10000 < s.Y <;> simp [h1, h2, h3, h4] <;> omega
theorem SpotFault_eq (s : api_Spot) : fleetref2_SpotFault s = some (cond ((decide (-10000 ≤ s.X) && decide (s.X ≤ 10000)) && (decide (-10000 ≤ s.Y) && decide (s.Y ≤ 10000))) 0 1) := by
  unfold fleetref2_SpotFault fleetref2_SpotFault_x1
  simp only [in_eq, Option.bind_some]
  cases (decide (-10000 ≤ s.X) && decide (s.X ≤ 10000)) <;> cases (decide (-10000 ≤ s.Y) && decide (s.Y ≤ 10000)) <;> rfl
theorem fx2_both (x : api_Fix) : ∃ b, place_CheckFixes_x2 x = some b ∧ fleetref2_FixesFault_x2 x = some b := by
  unfold place_CheckFixes_x2 fleetref2_FixesFault_x2 place_spot fleetref2_spotOf
  simp only [Moment_eq, QMoment_eq, isSpot_eq, SpotFault_eq, Out_eq, in_eq, Option.bind_some]
  cases (decide (0 ≤ x.At) && decide (x.At ≤ 345686399999))
  · exact ⟨true, rfl, rfl⟩
  · cases ((decide (-10000 ≤ x.X) && decide (x.X ≤ 10000)) && (decide (-10000 ≤ x.Y) && decide (x.Y ≤ 10000)))
    · exact ⟨true, rfl, rfl⟩
    · refine ⟨(decide (x.Error < 0) || decide (10000 < x.Error)), rfl, ?_⟩
      show some (!(decide (0 ≤ x.Error) && decide (x.Error ≤ 10000))) = _
      congr 1
      by_cases h1 : x.Error < 0 <;> by_cases h2 : 10000 < x.Error <;> simp [h1, h2] <;> omega
theorem check_both {l : List api_Fix} (hp : All FB l) (hl : l.length ≤ 100000) : ∃ e, place_CheckFixes l = some e ∧ fleetref2_FixesFault l = some e := by
  unfold place_CheckFixes fleetref2_FixesFault
  by_cases h5 : (2000 : Int) < l.length
  · exact ⟨2, by simp [h5], by simp [h5]⟩
  · simp only [h5, decide_false, cond_false]
    obtain ⟨r, e1, e2, _⟩ := loop_two (f := place_CheckFixes_x1 l) (g := fleetref2_FixesFault_x1 l) (fun i : Int => 0 ≤ i ∧ i ≤ l.length) (fun i => ((l.length : Int) - i).toNat) (fun _ => True) (by
      rintro i ⟨i1, i2⟩
      unfold place_CheckFixes_x1 fleetref2_FixesFault_x1
      by_cases hi : i < l.length
      · obtain ⟨x, x1, x2⟩ := at_i (l := l) i1 hi
        have bx := hp x x2
        obtain ⟨b, b1, b2⟩ := fx2_both x
        have hx3 : ∃ c, place_CheckFixes_x3 l i x = some c ∧ fleetref2_FixesFault_x3 l i x = some c := by
          unfold place_CheckFixes_x3 fleetref2_FixesFault_x3
          by_cases h0 : 0 < i
          · have w1 : IntKind.wrap .i64 (i - 1) = i - 1 := wrap64 (by omega) (by omega)
            obtain ⟨y, y1, y2⟩ := at_i (l := l) (n := i - 1) (by omega) (by omega)
            simp only [h0, decide_true, cond_true, w1, y1, Option.bind_some, fbyDevice_eq, FixOrder_eq (hp y y2) bx]
            refine ⟨_, rfl, ?_⟩
            rw [fOrd_anti y x]
            congr 1
            rw [decide_eq_decide]
            omega
          · simp [h0]
        obtain ⟨c, c1, c2⟩ := hx3
        simp only [hi, decide_true, cond_true, x1, Option.bind_some, Key_eq x.Device (by have := bx.1; omega), QKey_eq x.Device (by have := bx.1; omega), b1, b2, c1, c2]
        rw [wrap64 (n := i + 1) (by omega) (by omega)]
        cases keyB x.Device
        · right; exact ⟨_, rfl, rfl, trivial⟩
        · cases b
          · cases c
            · left; exact ⟨i + 1, rfl, rfl, ⟨by omega, by omega⟩, by omega⟩
            · right; exact ⟨_, rfl, rfl, trivial⟩
          · right; exact ⟨_, rfl, rfl, trivial⟩
      · right
        simp only [hi, decide_false, cond_false]
        exact ⟨_, rfl, rfl, trivial⟩) (s := 0) ⟨by omega, by omega⟩
    rw [e1, e2]
    cases r with
    | inl _ => exact ⟨0, rfl, rfl⟩
    | inr e => exact ⟨e, rfl, rfl⟩

/-! ### Merging -/
/-! ### Those of a device -/
theorem placed_eq : fleetlaw2_placed = some true := by kernel_rfl
end Go.Eng

/-
Plane geometry in whole numbers: parity and turns of a fence around a spot.
-/
namespace Go.Eng.Geo
/-- twice the area of the triangle a b s -/
def sd (ax ay bx b_y sx sy : Int) : Int := (bx - ax) * (sy - ay) - (b_y - ay) * (sx - ax)
def onb (ax ay bx b_y sx sy : Int) : Prop := sd ax ay bx b_y sx sy = 0 ∧ min ax bx ≤ sx ∧ sx ≤ max ax bx ∧ min ay b_y ≤ sy ∧ sy ≤ max ay b_y
def meetsP (ax ay bx b_y cx cy dx dy : Int) : Prop :=
  onb ax ay bx b_y cx cy ∨ onb ax ay bx b_y dx dy ∨ onb cx cy dx dy ax ay ∨ onb cx cy dx dy bx b_y ∨
  (sd ax ay bx b_y cx cy * sd ax ay bx b_y dx dy < 0 ∧ sd cx cy dx dy ax ay * sd cx cy dx dy bx b_y < 0)

theorem pp {a b : Int} (h1 : 0 < a) (h2 : 0 < b) : 0 < a * b := Int.mul_pos h1 h2
theorem pn {a b : Int} (h1 : 0 < a) (h2 : b < 0) : a * b < 0 := Int.mul_neg_of_pos_of_neg h1 h2
theorem nn {a b : Int} (h1 : a < 0) (h2 : b < 0) : 0 < a * b := Int.mul_pos_of_neg_of_neg h1 h2
theorem PP {a b : Int} (h1 : 0 ≤ a) (h2 : 0 ≤ b) : 0 ≤ a * b := Int.mul_nonneg h1 h2
theorem NN {a b : Int} (h1 : a ≤ 0) (h2 : b ≤ 0) : 0 ≤ a * b := Int.mul_nonneg_of_nonpos_of_nonpos h1 h2

/-- the part of the plane to the right of the way that rises from s to t -/
def reg (sx sy tx ty cx cy : Int) : Prop := sy < cy ∧ cy ≤ ty ∧ sd sx sy tx ty cx cy < 0
/-- the edge from a to b (a not the higher one) goes over the height of s, to its right -/
def hitU (ax ay bx b_y sx sy : Int) : Prop := ay ≤ sy ∧ sy < b_y ∧ 0 < sd ax ay bx b_y sx sy

end Go.Eng.Geo

/-
Plane geometry in whole numbers: parity and turns of a fence around a spot.
-/
namespace Go.Eng.Geo
end Go.Eng.Geo

/-
Plane geometry in whole numbers: parity and turns of a fence around a spot.
-/
namespace Go.Eng.Geo
abbrev Pt := Int × Int
instance (ax ay bx b_y sx sy : Int) : Decidable (hitU ax ay bx b_y sx sy) := by unfold hitU; infer_instance
instance (sx sy tx ty cx cy : Int) : Decidable (reg sx sy tx ty cx cy) := by unfold reg; infer_instance
def lo (e : Pt × Pt) : Pt := if e.1.2 ≤ e.2.2 then e.1 else e.2
def hi (e : Pt × Pt) : Pt := if e.1.2 ≤ e.2.2 then e.2 else e.1
theorem mle {k a b : Int} (hk : 0 < k) (h : a ≤ b) : k * a ≤ k * b := Int.mul_le_mul_of_nonneg_left h (by omega)
end Go.Eng.Geo

/-
Plane geometry in whole numbers: parity and turns of a fence around a spot.
-/
namespace Go.Eng.Geo
/-- above 0: the edge (a, b) is to the right of the edge (c, d) at the height y; both rise -/
def W (ax ay bx b_y cx cy dx dy y : Int) : Int := (bx - ax) * (y - ay) * (dy - cy) - (dx - cx) * (y - cy) * (b_y - ay) - (b_y - ay) * (dy - cy) * (cx - ax)
/-- the spot of the edge f at a height, times the edge's height -/
def at_ (f : Pt × Pt) (y : Int) : Pt := (((hi f).2 - (lo f).2) * (lo f).1 + ((hi f).1 - (lo f).1) * (y - (lo f).2), ((hi f).2 - (lo f).2) * y)

end Go.Eng.Geo

/-
Plane geometry in whole numbers: parity and turns of a fence around a spot.
-/
namespace Go.Eng.Geo
theorem sq_nn (x : Int) : 0 ≤ x * x := by
  by_cases h : 0 ≤ x
  · exact PP h h
  · exact NN (by omega) (by omega)

end Go.Eng.Geo

/-
Plane geometry in whole numbers: parity and turns of a fence around a spot.
-/
namespace Go.Eng.Geo
end Go.Eng.Geo

/-
Plane geometry in whole numbers: parity and turns of a fence around a spot.
-/
namespace Go.Eng.Geo
end Go.Eng.Geo

/-
Plane geometry in whole numbers: parity and turns of a fence around a spot.
-/
namespace Go.Eng.Geo
end Go.Eng.Geo

/-
Fences: what the code asks of two ways and a spot is what plane geometry says.
-/
namespace Go.Eng
open Go Geo
set_option linter.unusedVariables false
set_option linter.unusedSimpArgs false

/-- a right spot -/
def InB (s : api_Spot) : Prop := (-10000 ≤ s.X ∧ s.X ≤ 10000) ∧ (-10000 ≤ s.Y ∧ s.Y ≤ 10000)
theorem mul_bd {x y m k : Int} (hx : -m ≤ x ∧ x ≤ m) (hy : -k ≤ y ∧ y ≤ k) : -(m * k) ≤ x * y ∧ x * y ≤ m * k := by
  have h1 : x.natAbs ≤ m.natAbs := by omega
  have h2 : y.natAbs ≤ k.natAbs := by omega
  have h3 := Nat.mul_le_mul h1 h2
  rw [← Int.natAbs_mul, ← Int.natAbs_mul] at h3
  have h4 : 0 ≤ m * k := PP (by omega) (by omega)
  omega
theorem wmul {x y : Int} (hx : -20000 ≤ x ∧ x ≤ 20000) (hy : -20000 ≤ y ∧ y ≤ 20000) : IntKind.wrap .i64 (x * y) = x * y ∧ -400000000 ≤ x * y ∧ x * y ≤ 400000000 := by
  have := mul_bd hx hy
  exact ⟨wrap64 (by omega) (by omega), by omega, by omega⟩
theorem side_wrap {a b s : api_Spot} (ha : InB a) (hb : InB b) (hs : InB s) :
    (IntKind.wrap .i64 ((IntKind.wrap .i64 ((IntKind.wrap .i64 (b.X - a.X)) * (IntKind.wrap .i64 (s.Y - a.Y)))) - (IntKind.wrap .i64 ((IntKind.wrap .i64 (b.Y - a.Y)) * (IntKind.wrap .i64 (s.X - a.X)))))) = sd a.X a.Y b.X b.Y s.X s.Y := by
  obtain ⟨a1, a2⟩ := ha; obtain ⟨b1, b2⟩ := hb; obtain ⟨s1, s2⟩ := hs
  rw [wrap64 (n := b.X - a.X) (by omega) (by omega), wrap64 (n := s.Y - a.Y) (by omega) (by omega), wrap64 (n := b.Y - a.Y) (by omega) (by omega), wrap64 (n := s.X - a.X) (by omega) (by omega)]
  have m1 := wmul (x := b.X - a.X) (y := s.Y - a.Y) (by omega) (by omega)
  have m2 := wmul (x := b.Y - a.Y) (y := s.X - a.X) (by omega) (by omega)
  rw [m1.1, m2.1, wrap64 (by omega) (by omega)]
  rfl
theorem sd_bd {a b s : api_Spot} (ha : InB a) (hb : InB b) (hs : InB s) : -800000000 ≤ sd a.X a.Y b.X b.Y s.X s.Y ∧ sd a.X a.Y b.X b.Y s.X s.Y ≤ 800000000 := by
  obtain ⟨a1, a2⟩ := ha; obtain ⟨b1, b2⟩ := hb; obtain ⟨s1, s2⟩ := hs
  have m1 := wmul (x := b.X - a.X) (y := s.Y - a.Y) (by omega) (by omega)
  have m2 := wmul (x := b.Y - a.Y) (y := s.X - a.X) (by omega) (by omega)
  unfold sd
  omega
theorem imax_eq (a b : Int) : imax a b = max a b := by unfold imax; split <;> omega
instance (ax ay bx b_y sx sy : Int) : Decidable (onb ax ay bx b_y sx sy) := by unfold onb; infer_instance
instance (ax ay bx b_y cx cy dx dy : Int) : Decidable (meetsP ax ay bx b_y cx cy dx dy) := by unfold meetsP; infer_instance
/-! ### Edges by number -/
/-! ### Search loops -/
end Go.Eng

/-
Fences: the checks of both ways are the same; a right fence is simple.
-/
namespace Go.Eng
open Go Geo
open scoped Classical
set_option linter.unusedVariables false
set_option linter.unusedSimpArgs false

/-! ### Is a spot among others -/
/-! ### The first half of the checks -/
theorem inB_iff (s : api_Spot) : ((decide (-10000 ≤ s.X) && decide (s.X ≤ 10000)) && (decide (-10000 ≤ s.Y) && decide (s.Y ≤ 10000))) = true ↔ InB s := by
  unfold InB; simp
/-! ### Crossed edges -/
section
variable {l : List api_Spot} (nd : l.Nodup)
include nd
end

end Go.Eng

/-
Where a spot is: both ways.
-/
namespace Go.Eng
open Go Geo
open scoped Classical
set_option linter.unusedVariables false
set_option linter.unusedSimpArgs false

/-! ### The document's way: how often the edges go round -/
end Go.Eng

/-
The streams.
-/
namespace Go.Eng
open Go
set_option linter.unusedVariables false
set_option linter.unusedSimpArgs false

theorem wrap_I64 (n : Int) : I64 (IntKind.wrap .i64 n) := by
  unfold IntKind.wrap I64
  simp [IntKind.bits, IntKind.signed]
  split <;> omega

theorem Below_eq {x n : Int} (hx : I64 x) (hn : I64 n) : fleetmake_Below x n = some (if n < 1 then 0 else x % n) := by
  unfold I64 at hx hn
  unfold fleetmake_Below fleetmake_Below_x1
  by_cases h : n < 1
  · simp [h]
  · have h0 : (n == 0) = false := by simp; omega
    have e := Int.emod_eq_tmod (a := x) (b := n)
    have nn := Int.emod_nonneg x (show n ≠ 0 by omega)
    have lt := Int.emod_lt_of_pos x (show 0 < n by omega)
    simp only [h, decide_false, cond_false, h0, Bool.not_false, gd, cond_true, Option.bind_some, if_false]
    by_cases h3 : x.tmod n < 0
    · simp only [h3, decide_true, cond_true, Option.bind_some]
      split at e
      · omega
      · rw [wrap64 (by omega) (by omega)]
        congr 1
        omega
    · simp only [h3, decide_false, cond_false, Option.bind_some]
      congr 1
      split at e <;> omega
theorem Below_ok {x n : Int} (hx : I64 x) (hn : I64 n) : Ok (fleetmake_Below x n) (fun r => (1 ≤ n → 0 ≤ r ∧ r < n) ∧ (n < 1 → r = 0)) := by
  refine .of_eq (Below_eq hx hn) ⟨fun h => ?_, fun h => by simp [h]⟩
  rw [if_neg (by omega)]
  exact ⟨Int.emod_nonneg _ (by omega), Int.emod_lt_of_pos _ (by omega)⟩

/-- A stream whose numbers are of 64 bits, of which at most k were taken. -/
def StrOk (k : Nat) (s : fleetmake_Stream) : Prop := 0 ≤ s.at_ ∧ s.at_ ≤ k ∧ s.L.length ≤ 9223372036854775807 ∧ ∀ n ∈ s.L, I64 n
theorem StrOk.mono {k k' : Nat} {s : fleetmake_Stream} (h : StrOk k s) (hk : k ≤ k') : StrOk k' s := ⟨h.1, by have := h.2.1; omega, h.2.2⟩
/-- One number further. -/
abbrev nxt (s : fleetmake_Stream) : fleetmake_Stream := fleetmake_Stream.mk s.L (IntKind.wrap .i64 (s.at_ + 1))
theorem StrOk.nxt {k : Nat} {s : fleetmake_Stream} (h : StrOk k s) (hk : k < 1099511627776) : StrOk (k + 1) (nxt s) := by
  obtain ⟨h1, h2, h3, h4⟩ := h
  refine ⟨?_, ?_, h3, h4⟩
  · show 0 ≤ IntKind.wrap .i64 (s.at_ + 1)
    rw [wrap64 (by omega) (by omega)]; omega
  · show IntKind.wrap .i64 (s.at_ + 1) ≤ _
    rw [wrap64 (by omega) (by omega)]; omega

theorem Next_ok {k : Nat} {s : fleetmake_Stream} {n : Int} (h : StrOk k s) (hk : k < 1099511627776) (hn : I64 n) : Ok (fleetmake_Stream_Next s n) (fun r => (1 ≤ n → 0 ≤ r ∧ r < n) ∧ (n < 1 → r = 0)) := by
  obtain ⟨h1, h2, h3, h4⟩ := h
  unfold fleetmake_Stream_Next
  refine .cond (fun _ => ?_) (fun hl => ?_)
  · exact (Below_ok (wrap_I64 _) hn).bind fun r hr => .some hr
  · have hl' : s.L.length ≠ 0 := by simpa using hl
    have e1 : IntKind.wrap .i64 (s.at_ + 1) = s.at_ + 1 := wrap64 (by omega) (by omega)
    have e2 : IntKind.wrap .i64 (s.at_ + 1 - 1) = s.at_ := by rw [wrap64 (by omega) (by omega)]; omega
    refine .gd (by simpa using hl') ?_
    rw [e1, e2]
    refine (at_mem (tmod_nonneg h1) (tmod_lt' (by omega))).bind fun y hy => ?_
    refine (Below_ok (h4 y hy) (by unfold I64; omega)).bind fun r1 hr1 => ?_
    exact (Below_ok (wrap_I64 _) hn).bind fun r hr => .some hr

theorem Pick_ok {k : Nat} {s : fleetmake_Stream} {l : List Int} (h : StrOk k s) (hk : k < 1099511627776) (hl : 0 < l.length) (hl2 : l.length < 1000) : Ok (fleetmake_Stream_Pick_o1 s l) (fun r => r ∈ l) := by
  unfold fleetmake_Stream_Pick_o1
  refine (Next_ok h hk (by unfold I64; omega)).bind fun r hr => ?_
  have := hr.1 (by omega)
  exact (at_mem this.1 this.2).bind fun y hy => .some hy
theorem Some_ok {k : Nat} {s : fleetmake_Stream} {l : List (List UInt8)} (h : StrOk k s) (hk : k < 1099511627776) (hl : 0 < l.length) (hl2 : l.length < 1000) : Ok (fleetmake_Stream_Some_o1 s l) (fun r => r ∈ l) := by
  unfold fleetmake_Stream_Some_o1
  refine (Next_ok h hk (by unfold I64; omega)).bind fun r hr => ?_
  have := hr.1 (by omega)
  exact (at_mem this.1 this.2).bind fun y hy => .some hy
theorem Flip_ok {k : Nat} {s : fleetmake_Stream} {n : Int} (h : StrOk k s) (hk : k < 1099511627776) (hn : I64 n) : Ok (fleetmake_Stream_Flip s n) (fun _ => True) := by
  unfold fleetmake_Stream_Flip
  exact (Next_ok h hk hn).bind fun r hr => .some trivial
theorem Range_ok {k : Nat} {s : fleetmake_Stream} {low high : Int} (h : StrOk k s) (hk : k < 1099511627776) (hlow : -4611686018427387903 < low ∧ low < 4611686018427387904) (hh : -4611686018427387904 < high ∧ high < 4611686018427387903) :
    Ok (fleetmake_Stream_Range s low high) (fun r => StrOk (k + 1) r.1 ∧ low ≤ r.2 ∧ (low ≤ high → r.2 ≤ high) ∧ (high < low → r.2 = low)) := by
  unfold fleetmake_Stream_Range
  refine .cond (fun hc => ?_) (fun hc => ?_)
  · have hc' : high < low := by simpa using hc
    exact .some ⟨h.mono (by omega), Int.le_refl _, by intro h; omega, fun _ => rfl⟩
  · have hc' : ¬ high < low := by simpa using hc
    have e1 : IntKind.wrap .i64 (high - low) = high - low := wrap64 (by omega) (by omega)
    have e2 : IntKind.wrap .i64 (high - low + 1) = high - low + 1 := wrap64 (by omega) (by omega)
    rw [e1, e2]
    refine (Next_ok h hk (by unfold I64; omega)).bind fun r hr => ?_
    have := hr.1 (by omega)
    refine .some ⟨h.nxt hk, ?_, fun _ => ?_, fun h => by omega⟩
    · show low ≤ IntKind.wrap .i64 (low + r)
      rw [wrap64 (by omega) (by omega)]; omega
    · show IntKind.wrap .i64 (low + r) ≤ high
      rw [wrap64 (by omega) (by omega)]; omega
theorem Odd_ok {k : Nat} {s : fleetmake_Stream} {low high : Int} (h : StrOk k s) (hk : k + 2 < 1099511627776) (hlow : -4611686018427387902 < low ∧ low < 4611686018427387904) (hh : -4611686018427387904 < high ∧ high < 4611686018427387902) (hlh : low ≤ high) :
    Ok (fleetmake_Stream_Odd s low high) (fun r => StrOk (k + 2) r.1 ∧ ((low - 1 ≤ r.2 ∧ r.2 ≤ high + 1) ∨ r.2 = -1099511627776 ∨ r.2 = 1099511627776)) := by
  unfold fleetmake_Stream_Odd
  refine (Flip_ok h (by omega) (by unfold I64; omega)).bind fun b _ => .cond (fun _ => ?_) (fun _ => ?_)
  · refine (Pick_ok (h.nxt (by omega)) (by omega) (by simp) (by simp)).bind fun r hr => .some ⟨(h.nxt (by omega)).nxt (by omega), ?_⟩
    have e1 : IntKind.wrap .i64 (low - 1) = low - 1 := wrap64 (by omega) (by omega)
    have e2 : IntKind.wrap .i64 (high + 1) = high + 1 := wrap64 (by omega) (by omega)
    rw [e1, e2] at hr
    simp only [List.mem_cons, List.not_mem_nil, or_false] at hr
    show (low - 1 ≤ r ∧ r ≤ high + 1) ∨ r = _ ∨ r = _
    omega
  · refine (Range_ok (h.nxt (by omega)) (by omega) ⟨by omega, by omega⟩ ⟨by omega, by omega⟩).bind fun r hr => .some ⟨hr.1, .inl ⟨by have := hr.2.1; show low - 1 ≤ r.2; omega, ?_⟩⟩
    have := hr.2.2.1 hlh
    show r.2 ≤ high + 1
    omega
end Go.Eng

/-
Fences that streams make.
-/
namespace Go.Eng
open Go Geo
open scoped Classical
set_option linter.unusedVariables false
set_option linter.unusedSimpArgs false

theorem Place_ok {k : Nat} {s : fleetmake_Stream} (h : StrOk k s) (hk : k + 2 < 1099511627776) : Ok (fleetmake_Stream_Place s) (fun p => (-5 ≤ p.X ∧ p.X ≤ 20) ∧ (-5 ≤ p.Y ∧ p.Y ≤ 20)) := by
  unfold fleetmake_Stream_Place
  refine (Pick_ok h (by omega) (by simp) (by simp)).bind fun x hx => (Pick_ok (h.nxt (by omega)) (by omega) (by simp) (by simp)).bind fun y hy => .some ?_
  simp only [List.mem_cons, List.not_mem_nil, or_false] at hx hy
  show (-5 ≤ x ∧ x ≤ 20) ∧ (-5 ≤ y ∧ y ≤ 20)
  omega
end Go.Eng

/-
Series and windows; faults.
-/
namespace Go.Eng
open Go
set_option linter.unusedVariables false
set_option linter.unusedSimpArgs false

theorem when_eq (b : Bool) (e : Int) : fleetlaw2_when b e = some (cond b e 0) := by unfold fleetlaw2_when; cases b <;> rfl
theorem errs_eq (l : List Int) (hl : (l.length : Int) ≤ 9223372036854775807) : fleetlaw2_errs l = some ((l.find? fun x => !decide (x = 0)).getD 0) := by
  unfold fleetlaw2_errs
  rw [range_loop (l := l) (fun _ x => cond (!decide (x = 0)) (some (.inr x)) none) (.inl ()) hl]
  · simp only [Option.bind_some]
    generalize 0 = k
    induction l generalizing k with
    | nil => rfl
    | cons c s ih =>
      simp only [scan, List.find?_cons]
      by_cases hc : c = 0
      · simp only [hc, decide_true, Bool.not_true, cond_false]
        exact ih (by simp at hl; omega) (k + 1)
      · simp [hc]
  · intro i hi
    unfold fleetlaw2_errs_x1
    rw [at_nat hi]
    have : ((i : Int) < l.length) := by omega
    simp only [this, decide_true, cond_true, Option.bind_some]
    cases (!decide (l[i] = 0)) <;> rfl
  · unfold fleetlaw2_errs_x1
    simp
end Go.Eng

/-
Fractions: products of 128 bits, and less, both ways.
-/
namespace Go.Eng
open Go Geo
open scoped Classical
set_option linter.unusedVariables false
set_option linter.unusedSimpArgs false

theorem wrapU (n : Int) : IntKind.wrap .u64 n = n % 18446744073709551616 := by
  unfold IntKind.wrap
  simp [IntKind.bits, IntKind.signed]
theorem shr32 {n : Int} (h : 0 ≤ n) : ishr .u64 n 32 = n / 4294967296 := by
  unfold ishr
  have : (2 : Int) ^ (min (32 : Int).toNat (IntKind.bits .u64)) = 4294967296 := by decide
  rw [this]
  exact Int.fdiv_eq_ediv_of_nonneg _ (by omega)
theorem and32 {n : Int} (h : 0 ≤ n) (h2 : n < 18446744073709551616) : ibits .and .u64 n 4294967295 = n % 4294967296 := by
  unfold ibits
  have e : (BitVec.ofInt (IntKind.bits .u64) n &&& BitVec.ofInt (IntKind.bits .u64) 4294967295).toNat = n.toNat % 4294967296 := by
    have hb : IntKind.bits .u64 = 64 := rfl
    rw [hb, BitVec.toNat_and]
    have e1 : (BitVec.ofInt 64 n).toNat = n.toNat := by
      rw [BitVec.toNat_ofInt]; omega
    have e2 : (BitVec.ofInt 64 4294967295).toNat = 4294967295 := by decide
    rw [e1, e2]
    exact Nat.and_two_pow_sub_one_eq_mod n.toNat 32
  simp only [e]
  rw [wrapU]
  omega
/-- the high half of a product, as the code makes it -/
def mulH (x y : Int) : Int :=
  (IntKind.wrap .u64 ((IntKind.wrap .u64 ((IntKind.wrap .u64 ((ishr .u64 (IntKind.wrap .u64 (x)) 32) * (ishr .u64 (IntKind.wrap .u64 (y)) 32))) + (ishr .u64 (IntKind.wrap .u64 ((IntKind.wrap .u64 ((ishr .u64 (IntKind.wrap .u64 (x)) 32) * (ibits .and .u64 (IntKind.wrap .u64 (y)) 4294967295))) + (ishr .u64 (IntKind.wrap .u64 ((ibits .and .u64 (IntKind.wrap .u64 (x)) 4294967295) * (ibits .and .u64 (IntKind.wrap .u64 (y)) 4294967295))) 32))) 32))) + (ishr .u64 (IntKind.wrap .u64 ((ibits .and .u64 (IntKind.wrap .u64 ((IntKind.wrap .u64 ((ishr .u64 (IntKind.wrap .u64 (x)) 32) * (ibits .and .u64 (IntKind.wrap .u64 (y)) 4294967295))) + (ishr .u64 (IntKind.wrap .u64 ((ibits .and .u64 (IntKind.wrap .u64 (x)) 4294967295) * (ibits .and .u64 (IntKind.wrap .u64 (y)) 4294967295))) 32))) 4294967295) + (IntKind.wrap .u64 ((ibits .and .u64 (IntKind.wrap .u64 (x)) 4294967295) * (ishr .u64 (IntKind.wrap .u64 (y)) 32))))) 32)))
theorem mod_mul_bd {a b m k : Int} (ha : 0 ≤ a ∧ a ≤ m) (hb : 0 ≤ b ∧ b ≤ k) : 0 ≤ a * b ∧ a * b ≤ m * k := by
  have := mul_bd (x := a) (y := b) (m := m) (k := k) (by omega) (by omega)
  have := PP ha.1 hb.1
  omega
theorem mulH_eq {x y : Int} (hx : 0 ≤ x ∧ x < 9223372036854775808) (hy : 0 ≤ y ∧ y < 9223372036854775808) : mulH x y = x * y / 18446744073709551616 := by
  unfold mulH
  have wx : IntKind.wrap .u64 x = x := by rw [wrapU]; omega
  have wy : IntKind.wrap .u64 y = y := by rw [wrapU]; omega
  rw [wx, wy, shr32 hx.1, shr32 hy.1, and32 hx.1 (by omega), and32 hy.1 (by omega)]
  have x1 : 0 ≤ x / 4294967296 ∧ x / 4294967296 ≤ 2147483647 := by omega
  have y1 : 0 ≤ y / 4294967296 ∧ y / 4294967296 ≤ 2147483647 := by omega
  have x0 : 0 ≤ x % 4294967296 ∧ x % 4294967296 ≤ 4294967295 := by omega
  have y0 : 0 ≤ y % 4294967296 ∧ y % 4294967296 ≤ 4294967295 := by omega
  have hxy : x * y = (x / 4294967296 * (y / 4294967296)) * 18446744073709551616 + (x / 4294967296 * (y % 4294967296) + x % 4294967296 * (y / 4294967296)) * 4294967296 + x % 4294967296 * (y % 4294967296) := by
    have e1 : x = x / 4294967296 * 4294967296 + x % 4294967296 := by omega
    have e2 : y = y / 4294967296 * 4294967296 + y % 4294967296 := by omega
    generalize x / 4294967296 = a at *
    generalize x % 4294967296 = b at *
    generalize y / 4294967296 = c at *
    generalize y % 4294967296 = d at *
    rw [e1, e2]
    grind
  have bA := mod_mul_bd x1 y1
  have bB := mod_mul_bd x1 y0
  have bC := mod_mul_bd x0 y1
  have bD := mod_mul_bd x0 y0
  rw [hxy]
  generalize x / 4294967296 * (y / 4294967296) = A at *
  generalize x / 4294967296 * (y % 4294967296) = B at *
  generalize x % 4294967296 * (y / 4294967296) = C at *
  generalize x % 4294967296 * (y % 4294967296) = D at *
  clear hxy wx wy x1 y1 x0 y0 hx hy
  rw [wrapU A, wrapU B, wrapU C, wrapU D]
  rw [Int.emod_eq_of_lt (a := A) (by omega) (by omega), Int.emod_eq_of_lt (a := B) (by omega) (by omega), Int.emod_eq_of_lt (a := C) (by omega) (by omega), Int.emod_eq_of_lt (a := D) (by omega) (by omega)]
  rw [shr32 (n := D) (by omega), wrapU (B + D / 4294967296), Int.emod_eq_of_lt (a := B + D / 4294967296) (by omega) (by omega)]
  rw [shr32 (n := B + D / 4294967296) (by omega), and32 (n := B + D / 4294967296) (by omega) (by omega)]
  rw [wrapU ((B + D / 4294967296) % 4294967296 + C), Int.emod_eq_of_lt (a := (B + D / 4294967296) % 4294967296 + C) (by omega) (by omega)]
  rw [shr32 (n := (B + D / 4294967296) % 4294967296 + C) (by omega)]
  rw [wrapU (A + (B + D / 4294967296) / 4294967296), Int.emod_eq_of_lt (a := A + (B + D / 4294967296) / 4294967296) (by omega) (by omega)]
  rw [wrapU, Int.emod_eq_of_lt (by omega) (by omega)]
  omega
theorem mulL_eq {x y : Int} (hx : 0 ≤ x ∧ x < 9223372036854775808) (hy : 0 ≤ y ∧ y < 9223372036854775808) : IntKind.wrap .u64 (IntKind.wrap .u64 x * IntKind.wrap .u64 y) = x * y % 18446744073709551616 := by
  have wx : IntKind.wrap .u64 x = x := by rw [wrapU]; omega
  have wy : IntKind.wrap .u64 y = y := by rw [wrapU]; omega
  rw [wx, wy, wrapU]
theorem cmpP_eq {a b c d : Int} (ha : 0 ≤ a ∧ a < 9223372036854775808) (hb : 0 ≤ b ∧ b < 9223372036854775808) (hc : 0 ≤ c ∧ c < 9223372036854775808) (hd : 0 ≤ d ∧ d < 9223372036854775808) :
    base_CompareProducts a b c d = some (cmpI (a * b) (c * d)) := by
  unfold base_CompareProducts bits_Mul64
  have e2 : base_CompareProducts_x2 a b c d = cond (!decide (mulH a b = mulH c d)) (some (decide (mulH a b < mulH c d))) (some false) := rfl
  have e1 : base_CompareProducts_x1 a b c d = (base_CompareProducts_x2 a b c d).bind fun vx1 => cond vx1 (some vx1) (cond (decide (mulH a b = mulH c d)) (some (decide (IntKind.wrap .u64 (IntKind.wrap .u64 a * IntKind.wrap .u64 b) < IntKind.wrap .u64 (IntKind.wrap .u64 c * IntKind.wrap .u64 d)))) (some false)) := rfl
  have e3 : base_CompareProducts_x3 a b c d = cond (decide (mulH a b = mulH c d)) (some (decide (IntKind.wrap .u64 (IntKind.wrap .u64 a * IntKind.wrap .u64 b) = IntKind.wrap .u64 (IntKind.wrap .u64 c * IntKind.wrap .u64 d)))) (some false) := rfl
  rw [e1, e2, e3, mulH_eq ha hb, mulH_eq hc hd, mulL_eq ha hb, mulL_eq hc hd]
  have p1 := PP ha.1 hb.1
  have p2 := PP hc.1 hd.1
  generalize a * b = P at *
  generalize c * d = Q at *
  unfold cmpI
  by_cases h1 : P / 18446744073709551616 = Q / 18446744073709551616
  · by_cases h2 : P % 18446744073709551616 < Q % 18446744073709551616
    · have : P < Q := by omega
      simp [h1, h2, this]
    · by_cases h3 : P % 18446744073709551616 = Q % 18446744073709551616
      · have : P = Q := by omega
        subst this
        simp
      · have n1 : ¬ P < Q := by omega
        have n2 : Q < P := by omega
        simp [h1, h2, h3, n1, n2]
  · by_cases h2 : P / 18446744073709551616 < Q / 18446744073709551616
    · have : P < Q := by omega
      simp [h1, h2, this]
    · have n1 : ¬ P < Q := by omega
      have n2 : Q < P := by omega
      simp [h1, h2, n1, n2]

/-! ### Fractions -/
/-- a fraction as distances are -/
def FrR (f : api_Fraction) : Prop := (0 ≤ f.Num ∧ f.Num ≤ 1000000000000000000) ∧ (1 ≤ f.Den ∧ f.Den ≤ 1000000000000000000)
def frL (a b : api_Fraction) : Bool := decide (a.Num * b.Den < b.Num * a.Den)
theorem pless_eq {a b : api_Fraction} (ha : FrR a) (hb : FrR b) : place_less a b = some (frL a b) := by
  obtain ⟨a1, a2⟩ := ha; obtain ⟨b1, b2⟩ := hb
  unfold place_less frL
  rw [cmpP_eq (by omega) (by omega) (by omega) (by omega)]
  simp only [Option.bind_some]
  congr 1
  rw [decide_eq_decide]
  unfold cmpI
  (repeat' split) <;> omega
theorem floor_eq {a b : Int} (ha : 0 ≤ a ∧ a ≤ 1000000000000000000) (hb : 1 ≤ b) : fleetref2_floor a b = some (a / b) := by
  unfold fleetref2_floor
  have h0 : (!(b == 0)) = true := by simp; omega
  rw [gd_true h0]
  have e1 : a.tdiv b = a / b := Int.tdiv_eq_ediv_of_nonneg ha.1
  have e2 : ¬ a.tmod b < 0 := by have := Int.tmod_nonneg b ha.1; omega
  have e3 : 0 ≤ a / b := Int.ediv_nonneg ha.1 (by omega)
  have e4 : a / b ≤ a := Int.ediv_le_self b ha.1
  rw [e1, decide_eq_false e2, wrap64 (n := a / b) (by omega) (by omega)]
  rfl
theorem div_part {a b : Int} (ha : 0 ≤ a ∧ a ≤ 1000000000000000000) (hb : 1 ≤ b) : IntKind.wrap .i64 (a - IntKind.wrap .i64 (a / b * b)) = a % b := by
  have e := Int.mul_ediv_add_emod a b
  have m1 := Int.emod_nonneg a (show b ≠ 0 by omega)
  have m2 : a / b * b = b * (a / b) := Int.mul_comm _ _
  have d0 := PP (show 0 ≤ b by omega) (Int.ediv_nonneg ha.1 (show 0 ≤ b by omega))
  have m3 := Int.emod_lt_of_pos a (show 0 < b by omega)
  rw [m2, wrap64 (n := b * (a / b)) (by omega) (by omega), wrap64 (by omega) (by omega)]
  omega
theorem rless_eq {a b : api_Fraction} (ha : FrR a) (hb : FrR b) : fleetref2_less a b = some (frL a b) := by
  unfold fleetref2_less
  have key : loopO fleetref2_less_x1 (a, b) = some (frL a b) := by
    apply Ok.eq
    refine loop_ok (fun q : api_Fraction × api_Fraction => FrR q.1 ∧ FrR q.2 ∧ frL q.1 q.2 = frL a b) (fun q => (q.1.Den + q.2.Den).toNat) ?_ ⟨ha, hb, rfl⟩
    rintro ⟨⟨an, ad⟩, ⟨bn, bd⟩⟩ ⟨⟨a1, a2⟩, ⟨b1, b2⟩, hV⟩
    simp only at a1 a2 b1 b2
    unfold fleetref2_less_x1 fleetref2_less_x2 fleetref2_less_x3
    simp only [floor_eq a1 a2.1, floor_eq b1 b2.1, Option.bind_some, div_part a1 a2.1]
    rw [← hV]
    unfold frL
    simp only
    have ea := Int.mul_ediv_add_emod an ad
    have eb := Int.mul_ediv_add_emod bn bd
    have am1 := Int.emod_nonneg an (show ad ≠ 0 by omega)
    have am2 := Int.emod_lt_of_pos an (show 0 < ad by omega)
    have bm1 := Int.emod_nonneg bn (show bd ≠ 0 by omega)
    have bm2 := Int.emod_lt_of_pos bn (show 0 < bd by omega)
    have hb' : IntKind.wrap .i64 (bn - IntKind.wrap .i64 (bn / bd * bd)) = bn % bd := div_part b1 b2.1
    -- what is compared
    have hcmp : an * bd - bn * ad = (an / ad - bn / bd) * (ad * bd) + (an % ad * bd - bn % bd * ad) := by
      generalize an / ad = x at *
      generalize an % ad = p at *
      generalize bn / bd = y at *
      generalize bn % bd = q at *
      rw [← ea, ← eb]; grind
    have hpos : 0 < ad * bd := pp (by omega) (by omega)
    have hp1 := PP am1 (show 0 ≤ bd by omega)
    have hq1 := PP bm1 (show 0 ≤ ad by omega)
    have hp2 : an % ad * bd < ad * bd := by have := pn (show 0 < bd by omega) (show an % ad - ad < 0 by omega); rw [Int.mul_sub, Int.mul_comm bd, Int.mul_comm bd] at this; omega
    have hq2 : bn % bd * ad < ad * bd := by have := pn (show 0 < ad by omega) (show bn % bd - bd < 0 by omega); rw [Int.mul_sub, Int.mul_comm ad (bn % bd)] at this; omega
    by_cases hxy : an / ad = bn / bd
    · have hcmp2 : an * bd - bn * ad = an % ad * bd - bn % bd * ad := by rw [hcmp, hxy, Int.sub_self, Int.zero_mul, Int.zero_add]
      simp only [hxy, decide_true, Bool.not_true, cond_false, div_part b1 b2.1]
      have hp0 : an % ad = 0 → an % ad * bd = 0 := fun h => by rw [h, Int.zero_mul]
      have hq0 : bn % bd = 0 → bn % bd * ad = 0 := fun h => by rw [h, Int.zero_mul]
      by_cases p0 : an % ad = 0
      · simp only [p0, decide_true, cond_true, Option.bind_some]
        refine .some ?_
        have e := hp0 p0
        by_cases q0 : bn % bd = 0
        · have e' := hq0 q0
          rw [decide_eq_true q0, decide_eq_false (by omega)]; rfl
        · have := pp (show 0 < bn % bd by omega) (show 0 < ad by omega)
          rw [decide_eq_false q0, decide_eq_true (by omega)]; rfl
      · by_cases q0 : bn % bd = 0
        · have e' := hq0 q0
          have := pp (show 0 < an % ad by omega) (show 0 < bd by omega)
          simp only [p0, q0, decide_true, decide_false, cond_true, cond_false, Option.bind_some]
          refine .some ?_
          rw [decide_eq_false (by omega)]
        · simp only [p0, q0, decide_false, cond_false, Option.bind_some]
          refine .some ⟨⟨⟨by simp only; omega, by simp only; omega⟩, ⟨by simp only; omega, by simp only; omega⟩, ?_⟩, by simp only; omega⟩
          simp only
          rw [decide_eq_decide]
          have c1 : bd * (an % ad) = an % ad * bd := Int.mul_comm _ _
          have c2 : ad * (bn % bd) = bn % bd * ad := Int.mul_comm _ _
          omega
    · simp only [hxy, decide_false, Bool.not_false, cond_true]
      refine .some (decide_eq_decide.2 ?_)
      by_cases hlt : an / ad < bn / bd
      · have := mle hpos (show an / ad - bn / bd ≤ -1 by omega)
        rw [Int.mul_comm (ad * bd) (an / ad - bn / bd)] at this
        exact ⟨fun _ => by omega, fun _ => hlt⟩
      · have := mle hpos (show 1 ≤ an / ad - bn / bd by omega)
        rw [Int.mul_comm (ad * bd) (an / ad - bn / bd)] at this
        exact ⟨fun h => absurd h hlt, fun h => by omega⟩
  rw [key]; rfl
end Go.Eng

/-
The law FencesTell: areas and boxes, both ways.
-/
namespace Go.Eng
open Go Geo
open scoped Classical
set_option linter.unusedVariables false
set_option linter.unusedSimpArgs false

/-! ### Areas -/
/-! ### Boxes -/
def bx (l : List api_Spot) (c : api_Spot) : api_Spot × api_Spot :=
  (api_Spot.mk ((l.map (·.X)).foldl min c.X) ((l.map (·.Y)).foldl min c.Y), api_Spot.mk ((l.map (·.X)).foldl max c.X) ((l.map (·.Y)).foldl max c.Y))
end Go.Eng

/-
The law FencesTell.
-/
namespace Go.Eng
open Go Geo
open scoped Classical
set_option linter.unusedVariables false
set_option linter.unusedSimpArgs false

end Go.Eng

/-
How far, and where surely: both ways.
-/
namespace Go.Eng
open Go Geo
open scoped Classical
set_option linter.unusedVariables false
set_option linter.unusedSimpArgs false

/-! ### The greatest common divisor -/
theorem gcd_loop {f : Int × Int → Option ((Int × Int) ⊕ Int)} (hf : ∀ a b, f (a, b) = cond (!decide (b = 0)) (gd (!(b == 0)) (some (.inl (b, a.tmod b)))) (some (.inr a))) {a b : Int} (ha : 0 ≤ a) (hb : 0 ≤ b) :
    loopO f (a, b) = some ((a.toNat.gcd b.toNat : Nat) : Int) := by
  apply Ok.eq
  refine loop_ok (fun q : Int × Int => 0 ≤ q.1 ∧ 0 ≤ q.2 ∧ q.1.toNat.gcd q.2.toNat = a.toNat.gcd b.toNat) (fun q => q.2.toNat) ?_ ⟨ha, hb, rfl⟩
  rintro ⟨x, y⟩ ⟨h1, h2, h3⟩
  simp only at h1 h2 h3
  rw [hf]
  refine .cond (fun hc => ?_) (fun hc => ?_)
  · have hy : y ≠ 0 := by simpa using hc
    have m1 : x.tmod y = x % y := Int.tmod_eq_emod_of_nonneg h1
    have m2 := Int.emod_nonneg x hy
    have m3 := Int.emod_lt_of_pos x (show 0 < y by omega)
    rw [m1]
    refine .gd (by simpa using hy) (.some ⟨⟨h2, m2, ?_⟩, by simp only; omega⟩)
    simp only
    rw [← h3]
    have e : (x % y).toNat = x.toNat % y.toNat := by
      obtain ⟨n, rfl⟩ := Int.eq_ofNat_of_zero_le h1
      obtain ⟨m, rfl⟩ := Int.eq_ofNat_of_zero_le h2
      simp only [Int.ofNat_eq_natCast, Int.toNat_natCast]
      rw [← Int.natCast_emod, Int.toNat_natCast]
    rw [e, Nat.gcd_comm y.toNat, ← Nat.gcd_rec, Nat.gcd_comm]
  · have hy : y = 0 := by simpa using hc
    subst hy
    refine .some ?_
    have h3 : x.toNat.gcd 0 = a.toNat.gcd b.toNat := h3
    rw [Nat.gcd_zero_right] at h3
    omega
/-- a fraction in lowest terms -/
def lowF (n d : Int) : api_Fraction := api_Fraction.mk (n / ((n.toNat.gcd d.toNat : Nat) : Int)) (d / ((n.toNat.gcd d.toNat : Nat) : Int))
theorem gcd_facts {n d : Int} (hn : 0 ≤ n) (hd : 1 ≤ d) : 1 ≤ ((n.toNat.gcd d.toNat : Nat) : Int) ∧ ((n.toNat.gcd d.toNat : Nat) : Int) ≤ d := by
  have h1 : 0 < n.toNat.gcd d.toNat := Nat.gcd_pos_of_pos_right _ (by omega)
  have h2 : n.toNat.gcd d.toNat ≤ d.toNat := Nat.gcd_le_right _ (by omega)
  omega
theorem lowF_R {n d : Int} (hn : 0 ≤ n ∧ n ≤ 1000000000000000000) (hd : 1 ≤ d ∧ d ≤ 1000000000000000000) : FrR (lowF n d) := by
  obtain ⟨g1, g2⟩ := gcd_facts hn.1 hd.1
  unfold FrR lowF
  have e1 := Int.ediv_nonneg hn.1 (show 0 ≤ ((n.toNat.gcd d.toNat : Nat) : Int) by omega)
  have e2 := Int.ediv_le_self ((n.toNat.gcd d.toNat : Nat) : Int) hn.1
  have e3 := Int.ediv_le_self ((n.toNat.gcd d.toNat : Nat) : Int) (show 0 ≤ d by omega)
  have e4 : 1 ≤ d / ((n.toNat.gcd d.toNat : Nat) : Int) := (Int.le_ediv_iff_mul_le (by omega)).2 (by omega)
  simp only
  omega
theorem fraction_eq {n d : Int} (hn : 0 ≤ n ∧ n ≤ 1000000000000000000) (hd : 1 ≤ d ∧ d ≤ 1000000000000000000) : base_Fraction n d = some (lowF n d) := by
  unfold base_Fraction base_Gcd
  have e0 : imax n (IntKind.wrap .i64 (0 - n)) = n := by rw [wrap64 (by omega) (by omega), imax_eq]; omega
  have hR := lowF_R hn hd
  obtain ⟨g1, g2⟩ := gcd_facts hn.1 hd.1
  have hg : (!(((n.toNat.gcd d.toNat : Nat) : Int) == 0)) = true := by simp only [Bool.not_eq_true', beq_eq_false_iff_ne]; omega
  have t1 : n.tdiv ((n.toNat.gcd d.toNat : Nat) : Int) = n / ((n.toNat.gcd d.toNat : Nat) : Int) := Int.tdiv_eq_ediv_of_nonneg hn.1
  have t2 : d.tdiv ((n.toNat.gcd d.toNat : Nat) : Int) = d / ((n.toNat.gcd d.toNat : Nat) : Int) := Int.tdiv_eq_ediv_of_nonneg (by omega)
  rw [e0, gcd_loop (f := base_Gcd_x1) (fun a b => rfl) hn.1 (by omega)]
  simp only [Option.bind_some, gd_true hg, t1, t2]
  unfold FrR lowF at hR
  simp only at hR
  rw [wrap64 (n := n / _) (by omega) (by omega), wrap64 (n := d / _) (by omega) (by omega)]
  rfl
theorem lowest_eq {n d : Int} (hn : 0 ≤ n ∧ n ≤ 1000000000000000000) (hd : 1 ≤ d ∧ d ≤ 1000000000000000000) : fleetref2_Lowest n d = some (lowF n d) := by
  unfold fleetref2_Lowest fleetref2_Lowest_x2
  have hR := lowF_R hn hd
  obtain ⟨g1, g2⟩ := gcd_facts hn.1 hd.1
  have hg : (!(((n.toNat.gcd d.toNat : Nat) : Int) == 0)) = true := by simp only [Bool.not_eq_true', beq_eq_false_iff_ne]; omega
  have hneg : ¬ ((n.toNat.gcd d.toNat : Nat) : Int) < 0 := by omega
  have t1 : n.tdiv ((n.toNat.gcd d.toNat : Nat) : Int) = n / ((n.toNat.gcd d.toNat : Nat) : Int) := Int.tdiv_eq_ediv_of_nonneg hn.1
  have t2 : d.tdiv ((n.toNat.gcd d.toNat : Nat) : Int) = d / ((n.toNat.gcd d.toNat : Nat) : Int) := Int.tdiv_eq_ediv_of_nonneg (by omega)
  rw [gcd_loop (f := fleetref2_Lowest_x1) (fun a b => rfl) hn.1 (by omega)]
  simp only [Option.bind_some, decide_eq_false hneg, cond_false, gd_true hg, t1, t2]
  unfold FrR lowF at hR
  simp only at hR
  rw [wrap64 (n := n / _) (by omega) (by omega), wrap64 (n := d / _) (by omega) (by omega)]
  rfl

/-! ### How far a spot is from a way -/
def along (a b s : api_Spot) : Int := (s.X - a.X) * (b.X - a.X) + (s.Y - a.Y) * (b.Y - a.Y)
def sqS (a b : api_Spot) : Int := (a.X - b.X) * (a.X - b.X) + (a.Y - b.Y) * (a.Y - b.Y)
def farF (a b s : api_Spot) : api_Fraction :=
  if along a b s ≤ 0 then api_Fraction.mk (sqS a s) 1 else if sqS a b ≤ along a b s then api_Fraction.mk (sqS b s) 1 else lowF (sd a.X a.Y b.X b.Y s.X s.Y * sd a.X a.Y b.X b.Y s.X s.Y) (sqS a b)
theorem wdot {x y u v : Int} (hx : -20000 ≤ x ∧ x ≤ 20000) (hy : -20000 ≤ y ∧ y ≤ 20000) (hu : -20000 ≤ u ∧ u ≤ 20000) (hv : -20000 ≤ v ∧ v ≤ 20000) :
    IntKind.wrap .i64 (IntKind.wrap .i64 (x * y) + IntKind.wrap .i64 (u * v)) = x * y + u * v ∧ -800000000 ≤ x * y + u * v ∧ x * y + u * v ≤ 800000000 := by
  have m1 := wmul hx hy
  have m2 := wmul hu hv
  rw [m1.1, m2.1, wrap64 (by omega) (by omega)]
  exact ⟨rfl, by omega, by omega⟩
theorem sqS_bd {a b : api_Spot} (ha : InB a) (hb : InB b) : 0 ≤ sqS a b ∧ sqS a b ≤ 800000000 := by
  unfold InB at ha hb
  have := wdot (x := a.X - b.X) (y := a.X - b.X) (u := a.Y - b.Y) (v := a.Y - b.Y) (by omega) (by omega) (by omega) (by omega)
  have h1 := sq_nn (a.X - b.X)
  have h2 := sq_nn (a.Y - b.Y)
  unfold sqS; omega
theorem sdsq_bd {a b s : api_Spot} (ha : InB a) (hb : InB b) (hs : InB s) : 0 ≤ sd a.X a.Y b.X b.Y s.X s.Y * sd a.X a.Y b.X b.Y s.X s.Y ∧ sd a.X a.Y b.X b.Y s.X s.Y * sd a.X a.Y b.X b.Y s.X s.Y ≤ 640000000000000000 := by
  have h := sd_bd ha hb hs
  have := mul_bd (m := 800000000) (k := 800000000) h h
  have := sq_nn (sd a.X a.Y b.X b.Y s.X s.Y)
  omega
theorem farF_R {a b s : api_Spot} (ha : InB a) (hb : InB b) (hs : InB s) : FrR (farF a b s) := by
  have h1 := sqS_bd ha hs
  have h2 := sqS_bd hb hs
  have h3 := sqS_bd ha hb
  have h4 := sdsq_bd ha hb hs
  unfold farF
  split
  · unfold FrR; simp only; omega
  · split
    · unfold FrR; simp only; omega
    · exact lowF_R (by omega) (by omega)
theorem far_eq {a b s : api_Spot} (ha : InB a) (hb : InB b) (hs : InB s) : place_far a b s = some (farF a b s) := by
  have h3 := sqS_bd ha hb
  have h4 := sdsq_bd ha hb hs
  have hsd := side_wrap ha hb hs
  have h1 := ha; have h2 := hb; have h5 := hs
  unfold InB at h1 h2 h5
  unfold place_far place_square place_side
  simp only [Option.bind_some, hsd]
  rw [wrap64 (n := s.X - a.X) (by omega) (by omega), wrap64 (n := s.Y - a.Y) (by omega) (by omega), wrap64 (n := b.X - a.X) (by omega) (by omega), wrap64 (n := b.Y - a.Y) (by omega) (by omega),
    wrap64 (n := a.X - b.X) (by omega) (by omega), wrap64 (n := a.Y - b.Y) (by omega) (by omega), wrap64 (n := a.X - s.X) (by omega) (by omega), wrap64 (n := a.Y - s.Y) (by omega) (by omega),
    wrap64 (n := b.X - s.X) (by omega) (by omega), wrap64 (n := b.Y - s.Y) (by omega) (by omega)]
  rw [(wdot (x := s.X - a.X) (y := b.X - a.X) (u := s.Y - a.Y) (v := b.Y - a.Y) (by omega) (by omega) (by omega) (by omega)).1,
    (wdot (x := a.X - s.X) (y := a.X - s.X) (u := a.Y - s.Y) (v := a.Y - s.Y) (by omega) (by omega) (by omega) (by omega)).1,
    (wdot (x := a.X - b.X) (y := a.X - b.X) (u := a.Y - b.Y) (v := a.Y - b.Y) (by omega) (by omega) (by omega) (by omega)).1,
    (wdot (x := b.X - s.X) (y := b.X - s.X) (u := b.Y - s.Y) (v := b.Y - s.Y) (by omega) (by omega) (by omega) (by omega)).1]
  rw [wrap64 (n := sd a.X a.Y b.X b.Y s.X s.Y * sd a.X a.Y b.X b.Y s.X s.Y) (by omega) (by omega)]
  show cond (decide (along a b s ≤ 0)) (some (api_Fraction.mk (sqS a s) 1)) (cond (decide (sqS a b ≤ along a b s)) (some (api_Fraction.mk (sqS b s) 1)) ((base_Fraction (sd a.X a.Y b.X b.Y s.X s.Y * sd a.X a.Y b.X b.Y s.X s.Y) (sqS a b)).bind fun vr1 => some vr1)) = _
  unfold farF
  by_cases c1 : along a b s ≤ 0
  · simp only [c1, decide_true, cond_true, if_true]
  · by_cases c2 : sqS a b ≤ along a b s
    · simp only [c1, c2, decide_true, decide_false, cond_true, cond_false, if_true, if_false]
    · simp only [c1, c2, decide_false, cond_false, if_false]
      rw [fraction_eq (by omega) (by omega)]; rfl
theorem farWay_eq {a b s : api_Spot} (ha : InB a) (hb : InB b) (hs : InB s) : fleetref2_farWay a b s = some (farF a b s) := by
  have h3 := sqS_bd ha hb
  have h4 := sdsq_bd ha hb hs
  have hsd := side_wrap ha hb hs
  have h1 := ha; have h2 := hb; have h5 := hs
  unfold InB at h1 h2 h5
  unfold fleetref2_farWay fleetref2_minus fleetref2_dot fleetref2_dot_2 fleetref2_cross
  simp only [Option.bind_some, hsd]
  rw [wrap64 (n := s.X - a.X) (by omega) (by omega), wrap64 (n := s.Y - a.Y) (by omega) (by omega), wrap64 (n := b.X - a.X) (by omega) (by omega), wrap64 (n := b.Y - a.Y) (by omega) (by omega),
    wrap64 (n := s.X - b.X) (by omega) (by omega), wrap64 (n := s.Y - b.Y) (by omega) (by omega)]
  rw [(wdot (x := s.X - a.X) (y := b.X - a.X) (u := s.Y - a.Y) (v := b.Y - a.Y) (by omega) (by omega) (by omega) (by omega)).1,
    (wdot (x := s.X - a.X) (y := s.X - a.X) (u := s.Y - a.Y) (v := s.Y - a.Y) (by omega) (by omega) (by omega) (by omega)).1,
    (wdot (x := b.X - a.X) (y := b.X - a.X) (u := b.Y - a.Y) (v := b.Y - a.Y) (by omega) (by omega) (by omega) (by omega)).1,
    (wdot (x := s.X - b.X) (y := b.X - a.X) (u := s.Y - b.Y) (v := b.Y - a.Y) (by omega) (by omega) (by omega) (by omega)).1,
    (wdot (x := s.X - b.X) (y := s.X - b.X) (u := s.Y - b.Y) (v := s.Y - b.Y) (by omega) (by omega) (by omega) (by omega)).1]
  rw [wrap64 (n := sd a.X a.Y b.X b.Y s.X s.Y * sd a.X a.Y b.X b.Y s.X s.Y) (by omega) (by omega)]
  have q1 : (s.X - a.X) * (s.X - a.X) + (s.Y - a.Y) * (s.Y - a.Y) = sqS a s := by unfold sqS; grind
  have q2 : (b.X - a.X) * (b.X - a.X) + (b.Y - a.Y) * (b.Y - a.Y) = sqS a b := by unfold sqS; grind
  have q3 : (s.X - b.X) * (s.X - b.X) + (s.Y - b.Y) * (s.Y - b.Y) = sqS b s := by unfold sqS; grind
  have q4 : (s.X - b.X) * (b.X - a.X) + (s.Y - b.Y) * (b.Y - a.Y) = along a b s - sqS a b := by unfold sqS along; grind
  rw [q1, q2, q3, q4]
  show cond (decide (along a b s ≤ 0)) (some (api_Fraction.mk (sqS a s) 1)) (cond (decide (0 ≤ along a b s - sqS a b)) (some (api_Fraction.mk (sqS b s) 1)) ((fleetref2_Lowest (sd a.X a.Y b.X b.Y s.X s.Y * sd a.X a.Y b.X b.Y s.X s.Y) (sqS a b)).bind fun vr1 => some vr1)) = _
  have q5 : decide (0 ≤ along a b s - sqS a b) = decide (sqS a b ≤ along a b s) := by rw [decide_eq_decide]; omega
  rw [q5]
  unfold farF
  by_cases c1 : along a b s ≤ 0
  · simp only [c1, decide_true, cond_true, if_true]
  · by_cases c2 : sqS a b ≤ along a b s
    · simp only [c1, c2, decide_true, decide_false, cond_true, cond_false, if_true, if_false]
    · simp only [c1, c2, decide_false, cond_false, if_false]
      rw [lowest_eq (by omega) (by omega)]; rfl

/-! ### How far a spot is from the nearest edge -/
/-! ### Where surely -/
theorem err_R {x : Int} (h : 0 ≤ x ∧ x ≤ 10000) : IntKind.wrap .i64 (x * x) = x * x ∧ FrR ⟨x * x, 1⟩ := by
  have := mod_mul_bd (a := x) (b := x) (m := 10000) (k := 10000) h h
  exact ⟨wrap64 (by omega) (by omega), by unfold FrR; simp only; omega⟩
end Go.Eng

/-
The law FencesSure.
-/
namespace Go.Eng
open Go Geo
open scoped Classical
set_option linter.unusedVariables false
set_option linter.unusedSimpArgs false

end Go.Eng

/-
What the laws ask of each package once.
-/
namespace Go.Eng
open Go
end Go.Eng

/-
Tracks that streams make; where a device stays.
-/
namespace Go.Eng
open Go Geo
open scoped Classical
set_option linter.unusedVariables false
set_option linter.unusedSimpArgs false

def fsp (x : api_Fix) : api_Spot := api_Spot.mk x.X x.Y
/-- a fix as right tracks have it -/
def FixR (x : api_Fix) : Prop := x.Device = [100] ∧ InB (fsp x) ∧ (0 ≤ x.At ∧ x.At ≤ 20000) ∧ (0 ≤ x.Error ∧ x.Error ≤ 5)
def TrackR (l : List api_Fix) : Prop := l.length ≤ 14 ∧ (∀ x ∈ l, FixR x) ∧ l.Pairwise (fun x y => x.At < y.At)
theorem TrackR.lt {l : List api_Fix} (h : TrackR l) {i j : Nat} (hi : i < j) (hj : j < l.length) : (l[i]'(by omega)).At < l[j].At :=
  List.pairwise_iff_getElem.1 h.2.2 i j (by omega) hj hi

theorem RightTrack_ok {k : Nat} {s : fleetmake_Stream} {most : Int} (hm : 0 ≤ most ∧ most ≤ 14) (h : StrOk k s) (hk : k + 1000 < 1099511627776) : Ok (fleetmake_Stream_RightTrack s most) (fun r => StrOk (k + 200) r.1 ∧ TrackR r.2 ∧ (r.2.length : Int) ≤ most) := by
  unfold fleetmake_Stream_RightTrack
  refine (Place_ok h (by omega)).bind fun p hp => ?_
  refine (Range_ok ((h.nxt (by omega)).nxt (by omega)) (by omega) (by omega) (by omega)).bind fun ⟨s1, n⟩ ⟨r1, r2, r3, _⟩ => ?_
  have r3 : n ≤ most := r3 (by omega)
  have r2 : 0 ≤ n := r2
  have r1 : StrOk (k + 3) s1 := r1
  have key : Ok (loopO (fleetmake_Stream_RightTrack_x1 n) (s1, p, [], 0, 0)) (fun r => StrOk (k + 200) r.1 ∧ TrackR r.2 ∧ (r.2.length : Int) ≤ most) := by
    refine loop_ok (fun q : fleetmake_Stream × api_Spot × List api_Fix × Int × Int => ∃ j : Nat, q.2.2.2.2 = (j : Int) ∧ (j : Int) ≤ n ∧ q.2.2.1.length = j ∧ StrOk (k + 3 + 12 * j) q.1 ∧ (0 ≤ q.2.2.2.1 ∧ q.2.2.2.1 ≤ 1000 * (j : Int)) ∧
      ((-5 - 2 * (j : Int) ≤ q.2.1.X ∧ q.2.1.X ≤ 20 + 2 * (j : Int)) ∧ (-5 - 2 * (j : Int) ≤ q.2.1.Y ∧ q.2.1.Y ≤ 20 + 2 * (j : Int))) ∧ (∀ x ∈ q.2.2.1, FixR x ∧ x.At ≤ q.2.2.2.1) ∧ q.2.2.1.Pairwise (fun x y => x.At < y.At))
      (fun q => (n - q.2.2.2.2).toNat) ?_ ⟨0, rfl, by simpa using r2, rfl, by simpa using r1, by simp, by simp; omega, by simp, by simp⟩
    rintro ⟨s, p, l, at_, i⟩ ⟨j, rfl, j1, j2, j3, j4, j5, j6, j7⟩
    simp only at j2 j3 j4 j5 j6 j7
    unfold fleetmake_Stream_RightTrack_x1
    refine .cond (fun hc => ?_) (fun hc => ?_)
    · have hc : (j : Int) < n := by simpa using hc
      refine (Pick_ok j3 (by omega) (by simp) (by simp)).bind fun st hst => ?_
      have hst : 1 ≤ st ∧ st ≤ 1000 := by
        simp only [List.mem_cons, List.not_mem_nil, or_false] at hst; omega
      have a1 := j3.nxt (by omega)
      have hx2 : Ok (fleetmake_Stream_RightTrack_x2 s p) (fun r => StrOk (k + 3 + 12 * j + 5) r.1 ∧ ((-5 - 2 * ((j + 1 : Nat) : Int) ≤ r.2.X ∧ r.2.X ≤ 20 + 2 * ((j + 1 : Nat) : Int)) ∧ (-5 - 2 * ((j + 1 : Nat) : Int) ≤ r.2.Y ∧ r.2.Y ≤ 20 + 2 * ((j + 1 : Nat) : Int)))) := by
        unfold fleetmake_Stream_RightTrack_x2
        have a2 := a1.nxt (by omega)
        refine (Flip_ok a1 (by omega) (by unfold I64; omega)).bind fun b _ => .cond (fun _ => ?_) (fun _ => ?_)
        · exact (Place_ok a2 (by omega)).bind fun q hq => .some ⟨((a2.nxt (by omega)).nxt (by omega)).mono (by omega), by simp only; omega⟩
        · refine (Range_ok a2 (by omega) (by omega) (by omega)).bind fun ⟨s6, x⟩ ⟨x1, x2, x3, _⟩ => ?_
          have x3 : x ≤ 2 := x3 (by omega)
          have x2 : -2 ≤ x := x2
          refine (Range_ok x1 (by omega) (by omega) (by omega)).bind fun ⟨s7, y⟩ ⟨y1, y2, y3, _⟩ => ?_
          have y3 : y ≤ 2 := y3 (by omega)
          have y2 : -2 ≤ y := y2
          refine .some ⟨StrOk.mono y1 (by omega), ?_⟩
          simp only
          rw [wrap64 (by omega) (by omega), wrap64 (by omega) (by omega)]
          omega
      refine hx2.bind fun ⟨s8, p2⟩ ⟨b1, b2⟩ => ?_
      have b1 : StrOk (k + 3 + 12 * j + 5) s8 := b1
      simp only at b2
      refine (Pick_ok b1 (by omega) (by simp) (by simp)).bind fun er her => ?_
      have her : 0 ≤ er ∧ er ≤ 5 := by
        simp only [List.mem_cons, List.not_mem_nil, or_false] at her; omega
      have w0 : IntKind.wrap .i64 (at_ + st) = at_ + st := wrap64 (by omega) (by omega)
      have hx3 : Ok (fleetmake_Stream_RightTrack_x3 at_ st s8 p2 er) (fun r => StrOk (k + 3 + 12 * j + 10) r.1 ∧ FixR r.2 ∧ r.2.At = at_ + st) := by
        unfold fleetmake_Stream_RightTrack_x3
        rw [w0]
        have c1 := b1.nxt (by omega)
        have c2 := c1.nxt (by omega)
        refine (Flip_ok c1 (by omega) (by unfold I64; omega)).bind fun b _ => .cond (fun _ => ?_) (fun _ => ?_)
        · refine (Pick_ok c2 (by omega) (by simp) (by simp)).bind fun x hx => .some ⟨(c2.nxt (by omega)).mono (by omega), ⟨rfl, ?_, ?_, her⟩, rfl⟩
          · simp only [List.mem_cons, List.not_mem_nil, or_false] at hx
            unfold InB fsp; simp only; omega
          · simp only; omega
        · refine .some ⟨c2.mono (by omega), ⟨rfl, ?_, ?_, her⟩, rfl⟩
          · unfold InB fsp; simp only; omega
          · simp only; omega
      refine hx3.bind fun ⟨s9, x⟩ ⟨d1, d2, d3⟩ => .gd (ble_lim (by simp; omega)) ?_
      have d1 : StrOk (k + 3 + 12 * j + 10) s9 := d1
      simp only at d2 d3
      have w1 : IntKind.wrap .i64 ((j : Int) + 1) = ((j + 1 : Nat) : Int) := by rw [wrap64 (by omega) (by omega)]; omega
      rw [w0]
      refine .some ⟨⟨j + 1, w1, by omega, by simp; omega, d1.mono (by omega), by simp only; omega, by simp only; omega, ?_, ?_⟩, ?_⟩
      · simp only
        intro y hy
        rcases List.mem_append.1 hy with hy | hy
        · have := j6 y hy; exact ⟨this.1, by omega⟩
        · rw [List.mem_singleton] at hy; subst hy; exact ⟨d2, by omega⟩
      · simp only
        rw [List.pairwise_append]
        refine ⟨j7, by simp, fun y hy z hz => ?_⟩
        rw [List.mem_singleton] at hz; subst hz
        have := (j6 y hy).2; omega
      · show (n - IntKind.wrap .i64 ((j : Int) + 1)).toNat < (n - (j : Int)).toNat
        rw [w1]; omega
    · exact .some ⟨j3.mono (by omega), ⟨by show l.length ≤ 14; omega, fun x hx => (j6 x hx).1, j7⟩, by simp only; omega⟩
  exact key.bind fun ⟨s2, l⟩ hl => .some hl

/-! ### Stays -/
end Go.Eng

/-
Tracks: checks, visits, stays and lengths, both ways.
-/
namespace Go.Eng
open Go Geo
open scoped Classical
set_option linter.unusedVariables false
set_option linter.unusedSimpArgs false

/-! ### Tracks that streams make -/
theorem Track_ok {k : Nat} {s : fleetmake_Stream} {most : Int} (hm : 0 ≤ most ∧ most ≤ 14) (h : StrOk k s) (hk : k + 2000 < 1099511627776) : Ok (fleetmake_Stream_Track s most) (fun r => StrOk (k + 250) r.1 ∧ (r.2.length : Int) ≤ most ∧ All FB r.2) := by
  unfold fleetmake_Stream_Track
  refine (RightTrack_ok hm h (by omega)).bind fun ⟨s1, l⟩ ⟨h1, h2, hl⟩ => ?_
  have h1 : StrOk (k + 200) s1 := h1
  have h2 : TrackR l := h2
  have hall : All FB l := fun x hx => by
    obtain ⟨d, -, a, -⟩ := h2.2.1 x hx
    unfold FB; rw [d]; simp; omega
  have hl : (l.length : Int) ≤ most := hl
  have key : Ok (fleetmake_Stream_Track_x1 s1 l) (fun r => StrOk (k + 250) r.1 ∧ (r.2.length : Int) ≤ most ∧ All FB r.2) := by
    unfold fleetmake_Stream_Track_x1 fleetmake_Stream_Track_x2
    by_cases h0 : (0 : Int) < l.length
    · simp only [h0, decide_true, cond_true]
      have a1 := h1.nxt (by omega)
      have a2 := a1.nxt (by omega)
      have a3 := a2.nxt (by omega)
      obtain ⟨b, hb, -⟩ := Flip_ok (n := 12) h1 (by omega) (by unfold I64; omega)
      rw [hb]
      simp only [Option.bind_some]
      refine .cond (fun _ => ?_) (fun _ => .some ⟨a1.mono (by omega), hl, hall⟩)
      refine (Next_ok (n := (l.length : Int)) a1 (by omega) (by unfold I64; omega)).bind fun i hi => ?_
      have hi := hi.1 (by omega)
      refine (at_mem hi.1 hi.2).bind fun x hx => ?_
      have hFB := hall x hx
      unfold FB at hFB
      refine (Next_ok (n := 4) a2 (by omega) (by unfold I64; omega)).bind fun n _ => .cond (fun _ => ?_) (fun _ => .cond (fun _ => ?_) (fun _ => .cond (fun _ => ?_) (fun _ => ?_)))
      · refine (Some_ok a3 (by omega) (by simp) (by simp)).bind fun d hd => .some ⟨(a3.nxt (by omega)).mono (by omega), by simpa using hl, hall.set ?_⟩
        simp only [List.mem_cons, List.not_mem_nil, or_false] at hd
        unfold FB
        refine ⟨?_, hFB.2⟩
        rcases hd with rfl | rfl | rfl <;> simp
      · refine (Odd_ok (low := 0) (high := 100) a3 (by omega) (by omega) (by omega) (by omega)).bind fun ⟨s', y⟩ ⟨y1, y2⟩ => .some ⟨StrOk.mono y1 (by omega), by simpa using hl, hall.set ?_⟩
        simp only at y2
        unfold FB; simp only; omega
      · refine (Odd_ok (low := -10000) (high := 10000) a3 (by omega) (by omega) (by omega) (by omega)).bind fun ⟨s', y⟩ ⟨y1, y2⟩ => .some ⟨StrOk.mono y1 (by omega), by simpa using hl, hall.set hFB⟩
      · refine (Odd_ok (low := 0) (high := 10000) a3 (by omega) (by omega) (by omega) (by omega)).bind fun ⟨s', y⟩ ⟨y1, y2⟩ => .some ⟨StrOk.mono y1 (by omega), by simpa using hl, hall.set hFB⟩
    · simp only [h0, decide_false, cond_false, Option.bind_some]
      exact .some ⟨h1.mono (by omega), hl, hall⟩
  exact key.bind fun ⟨s2, m⟩ hx => .some hx

/-! ### Checks -/
/-- a fix that is right -/
def FixV (x : api_Fix) : Prop := (0 ≤ x.At ∧ x.At ≤ 345686399999) ∧ InB ⟨x.X, x.Y⟩ ∧ (0 ≤ x.Error ∧ x.Error ≤ 10000)
theorem x2_good {x : api_Fix} (h : place_CheckFixes_x2 x = some false) : FixV x := by
  have hx2 : place_CheckFixes_x2 x = some (!(decide (0 ≤ x.At) && decide (x.At ≤ 345686399999)) || (!((decide (-10000 ≤ x.X) && decide (x.X ≤ 10000)) && (decide (-10000 ≤ x.Y) && decide (x.Y ≤ 10000))) || (decide (x.Error < 0) || decide (10000 < x.Error)))) := by
    unfold place_CheckFixes_x2 place_spot
    simp only [Moment_eq, isSpot_eq, Out_eq, Option.bind_some]
    cases (decide (0 ≤ x.At) && decide (x.At ≤ 345686399999)) <;> cases ((decide (-10000 ≤ x.X) && decide (x.X ≤ 10000)) && (decide (-10000 ≤ x.Y) && decide (x.Y ≤ 10000))) <;> rfl
  rw [hx2] at h
  have hb := Option.some.inj h
  simp only [Bool.or_eq_false_iff, Bool.not_eq_false', decide_eq_false_iff_not] at hb
  obtain ⟨b0, b1, b2, b3⟩ := hb
  simp only [Bool.and_eq_true, decide_eq_true_iff] at b0
  exact ⟨b0, (inB_iff ⟨x.X, x.Y⟩).1 b1, by omega, by omega⟩
theorem checks_good {l : List api_Fix} (hp : All FB l) (hl : l.length ≤ 14) (h : place_CheckFixes l = some 0) : ∀ x ∈ l, FixV x := by
  have key : Ok (loopO (place_CheckFixes_x1 l) 0) (fun r => match r with | .inl _ => ∀ x ∈ l, FixV x | .inr e => e ≠ 0) := by
    refine loop_ok (fun q : Int => ∃ k : Nat, q = (k : Int) ∧ k ≤ l.length ∧ ∀ x ∈ l.take k, FixV x) (fun q => ((l.length : Int) - q).toNat) ?_ ⟨0, rfl, by omega, by simp⟩
    rintro q ⟨k, rfl, k1, k2⟩
    unfold place_CheckFixes_x1
    by_cases hk : k < l.length
    · have hk' : (k : Int) < l.length := by omega
      have hx := hp _ (List.getElem_mem hk)
      have w1 : IntKind.wrap .i64 ((k : Int) + 1) = ((k + 1 : Nat) : Int) := by rw [wrap64 (by omega) (by omega)]; omega
      have ht : l.take (k + 1) = l.take k ++ [l[k]] := List.take_succ_eq_append_getElem hk
      obtain ⟨b, b1, -⟩ := fx2_both l[k]
      have hx3 : ∃ c, place_CheckFixes_x3 l k l[k] = some c := by
        unfold place_CheckFixes_x3
        by_cases h0 : (0 : Int) < k
        · have w2 : IntKind.wrap .i64 ((k : Int) - 1) = ((k - 1 : Nat) : Int) := by rw [wrap64 (by omega) (by omega)]; omega
          simp only [h0, decide_true, cond_true, w2, at_nat (l := l) (n := k - 1) (by omega), Option.bind_some, fbyDevice_eq]
          exact ⟨_, rfl⟩
        · simp only [h0, decide_false, cond_false]; exact ⟨_, rfl⟩
      obtain ⟨c, hc⟩ := hx3
      simp only [hk', decide_true, cond_true, at_nat hk, Option.bind_some, Key_eq _ (show ((l[k].Device.length : Int)) ≤ 9223372036854775807 by have := hx.1; omega), b1, hc, w1]
      refine .cond (fun _ => .some (by show (5 : Int) ≠ 0; omega)) (fun _ => .cond (fun _ => .some (by show (1 : Int) ≠ 0; omega)) (fun hb => .cond (fun _ => .some (by show (7 : Int) ≠ 0; omega)) (fun _ => ?_)))
      refine .some ⟨⟨k + 1, rfl, by omega, ?_⟩, by omega⟩
      rw [ht]
      intro x hx
      rcases List.mem_append.1 hx with hx | hx
      · exact k2 x hx
      · rw [List.mem_singleton] at hx
        subst hx
        rw [hb] at b1
        exact x2_good b1
    · have hk' : ¬ (k : Int) < l.length := by omega
      simp only [hk', decide_false, cond_false]
      rw [List.take_of_length_le (by omega)] at k2
      exact .some k2
  unfold place_CheckFixes at h
  have h2000 : ¬ (2000 : Int) < l.length := by omega
  simp only [h2000, decide_false, cond_false] at h
  obtain ⟨r, r1, r2⟩ := key
  rw [r1] at h
  cases r with
  | inl _ => exact r2
  | inr e => exact absurd (Option.some.inj h) r2
theorem contains_same (l : List api_Fix) : slices_ContainsFunc_api_Fix_api_Fix_f1_fleetref2_TrackFault_1 l = slices_ContainsFunc_api_Fix_api_Fix_f1_place_trackFault_1 l := rfl
theorem contains_tot {l : List api_Fix} (hl : l.length ≤ 14) : Ok (slices_ContainsFunc_api_Fix_api_Fix_f1_place_trackFault_1 l) (fun _ => True) := by
  unfold slices_ContainsFunc_api_Fix_api_Fix_f1_place_trackFault_1 slices_IndexFunc_api_Fix_api_Fix_f1_place_trackFault_1
  refine Ok.bind (P := fun _ => True) (Ok.bind (P := fun _ => True) (loop_ok (fun q : Int => ∃ k : Nat, q = (k : Int) ∧ k ≤ l.length) (fun q => ((l.length : Int) - q).toNat) ?_ ⟨0, rfl, by omega⟩) fun r _ => ?_) fun r _ => .some trivial
  · rintro q ⟨k, rfl, k1⟩
    unfold slices_IndexFunc_api_Fix_api_Fix_f1_place_trackFault_1_x1 place_trackFault_1
    by_cases hk : k < l.length
    · have hk' : (k : Int) < l.length := by omega
      have w1 : IntKind.wrap .i64 ((k : Int) + 1) = ((k + 1 : Nat) : Int) := by rw [wrap64 (by omega) (by omega)]; omega
      have g0 : at? l 0 = some (l[0]'(by omega)) := at_nat (l := l) (n := 0) (by omega)
      simp only [hk', decide_true, cond_true, at_nat hk, g0, Option.bind_some, w1]
      exact .cond (fun _ => .some trivial) (fun _ => .some ⟨⟨k + 1, rfl, by omega⟩, by omega⟩)
    · have hk' : ¬ (k : Int) < l.length := by omega
      simp only [hk', decide_false, cond_false]
      exact .some trivial
  · cases r <;> exact .some trivial
theorem track_both {l : List api_Fix} (hp : All FB l) (hl : l.length ≤ 14) : ∃ e, place_trackFault l = some e ∧ fleetref2_TrackFault l = some e ∧ (e = 0 → ∀ x ∈ l, FixV x) := by
  obtain ⟨c, c1, c2⟩ := check_both hp (by omega)
  obtain ⟨b, b1, -⟩ := contains_tot hl
  unfold place_trackFault fleetref2_TrackFault
  rw [c1, c2, contains_same, b1]
  by_cases h0 : c = 0
  · subst h0
    have hg := checks_good hp hl c1
    cases b with
    | true => exact ⟨13, rfl, rfl, by omega⟩
    | false => exact ⟨0, rfl, rfl, fun _ => hg⟩
  · refine ⟨c, ?_, ?_, fun h => absurd h h0⟩
    · simp only [Option.bind_some, decide_eq_false h0]; rfl
    · simp only [Option.bind_some, decide_eq_false h0]; rfl

/-! ### Visits -/
end Go.Eng

/-
The law TracksVisit.
-/
namespace Go.Eng
open Go Geo
open scoped Classical
set_option linter.unusedVariables false
set_option linter.unusedSimpArgs false

/-! ### Stays -/
def sqV (a b : api_Fix) : Int := (a.X - b.X) * (a.X - b.X) + (a.Y - b.Y) * (a.Y - b.Y)
theorem sqV_wrap {a b : api_Fix} (ha : FixV a) (hb : FixV b) :
    IntKind.wrap .i64 ((IntKind.wrap .i64 ((IntKind.wrap .i64 (a.X - b.X)) * (IntKind.wrap .i64 (a.X - b.X)))) + (IntKind.wrap .i64 ((IntKind.wrap .i64 (a.Y - b.Y)) * (IntKind.wrap .i64 (a.Y - b.Y))))) = sqV a b ∧ 0 ≤ sqV a b ∧ sqV a b ≤ 800000000 := by
  obtain ⟨-, a1, -⟩ := ha; obtain ⟨-, b1, -⟩ := hb
  unfold InB at a1 b1
  simp only at a1 b1
  rw [wrap64 (n := a.X - b.X) (by omega) (by omega), wrap64 (n := a.Y - b.Y) (by omega) (by omega)]
  have m := wdot (x := a.X - b.X) (y := a.X - b.X) (u := a.Y - b.Y) (v := a.Y - b.Y) (by omega) (by omega) (by omega) (by omega)
  have h1 := sq_nn (a.X - b.X)
  have h2 := sq_nn (a.Y - b.Y)
  unfold sqV
  exact ⟨m.1, by omega, by omega⟩
/-! ### Lengths -/
/-! ### The law -/
end Go.Eng

/-
Insertion sorts; what is left of equal ones rises.
-/
namespace Go.Eng
open Go
set_option linter.unusedVariables false
set_option linter.unusedSimpArgs false
section
variable {α : Type}
/-- the first n are in order -/
def Ord (f : α → α → Int) (l : List α) (n : Nat) : Prop := ∀ p q (hp : p < q) (hq : q < n) (hn : n ≤ l.length), f (l[p]'(by omega)) (l[q]'(by omega)) ≤ 0

theorem gI2_ord {P : α → Prop} {f : α → α → Int} {c : α → α → Option Int} (hc : ∀ x y, P x → P y → c x y = some (f x y)) (anti : ∀ x y, f y x = - f x y) (tr : ∀ x y z, f x y ≤ 0 → f y z ≤ 0 → f x z ≤ 0)
    {n : Nat} (hn : n ≤ 100000) {l : List α} (hl : l.length = n) (hP : All P l) {i : Nat} (hi : i < n) (ho : Ord f l i) :
    Ok (loopO (gI2 c 0) (l, (i : Int))) (fun r => r.length = n ∧ All P r ∧ Ord f r (i + 1)) := by
  refine loop_ok (fun s : List α × Int => s.1.length = n ∧ All P s.1 ∧ ∃ j : Nat, s.2 = (j : Int) ∧ j ≤ i ∧ ∀ p q (hp : p < q) (hq : q ≤ i) (hqj : q ≠ j) (hs : i < s.1.length), f (s.1[p]'(by omega)) (s.1[q]'(by omega)) ≤ 0) (fun s => s.2.toNat) ?_
    ⟨hl, hP, i, rfl, Nat.le_refl _, fun p q hp hq hqj hs => ho p q hp (by omega) (by simp only at hs; omega)⟩
  rintro ⟨m, q⟩ ⟨m1, m2, j, rfl, j1, j2⟩
  simp only at m1 m2 j2
  unfold gI2 gI3
  by_cases hj : (0 : Int) < j
  · have w1 : IntKind.wrap .i64 ((j : Int) - 1) = ((j - 1 : Nat) : Int) := by rw [wrap64 (by omega) (by omega)]; omega
    have hjm : j < m.length := by omega
    have hjm1 : j - 1 < m.length := by omega
    have hy := m2 _ (List.getElem_mem hjm)
    have hx := m2 _ (List.getElem_mem hjm1)
    simp only [hj, decide_true, cond_true, w1, at_nat hjm, at_nat hjm1, Option.bind_some, hc _ _ hy hx]
    refine .cond (fun hlt => ?_) (fun hge => ?_)
    · have hlt := of_decide_eq_true hlt
      have g3 : at? (m.set (j : Int).toNat m[j - 1]) ((j - 1 : Nat) : Int) = some m[j - 1] := by
        rw [at_nat (by simp; omega)]
        simp only [Int.toNat_natCast, List.getElem_set]
        rw [if_neg (by omega)]
      rw [g3]
      simp only [Option.bind_some, Int.toNat_natCast]
      refine .some ⟨⟨by simp [m1], (m2.set hx).set hy, j - 1, rfl, by omega, ?_⟩, by simp only; omega⟩
      intro p q hp hq hqj hs
      simp only [List.getElem_set]
      have hin : i < m.length := by omega
      by_cases q1 : q = j
      · subst q1
        by_cases p1 : p = q - 1
        · subst p1
          have e1 : ¬ (q - 1 = q) := by omega
          simp only [e1, if_true, if_false]
          omega
        · have e1 : ¬ (q - 1 = p) := by omega
          have e2 : ¬ (q = p) := by omega
          have e3 : ¬ (q - 1 = q) := by omega
          simp only [e1, e2, e3, if_true, if_false]
          exact j2 p (q - 1) (by omega) (by omega) (by omega) hin
      · have e4 : ¬ (j = q) := by omega
        have e5 : ¬ (j - 1 = q) := by omega
        simp only [e4, e5, if_false]
        by_cases p1 : p = j - 1
        · subst p1
          simp only [if_true]
          exact j2 j q (by omega) hq q1 hin
        · by_cases p2 : p = j
          · subst p2
            have e6 : ¬ (p - 1 = p) := by omega
            simp only [e6, if_true, if_false]
            exact j2 (p - 1) q (by omega) hq q1 hin
          · have e7 : ¬ (j - 1 = p) := by omega
            have e8 : ¬ (j = p) := by omega
            simp only [e7, e8, if_false]
            exact j2 p q hp hq q1 hin
    · have hge := of_decide_eq_false hge
      refine .some ⟨m1, m2, fun p q hp hq hs => ?_⟩
      have hin : i < m.length := by omega
      by_cases q1 : q = j
      · subst q1
        have h0 : f m[q - 1] m[q] ≤ 0 := by have := anti m[q] m[q - 1]; omega
        by_cases p1 : p = q - 1
        · subst p1; exact h0
        · exact tr _ _ _ (j2 p (q - 1) (by omega) (by omega) (by omega) hin) h0
      · exact j2 p q hp (by omega) q1 hin
  · have hj' : ¬ (0 : Int) < j := hj
    have j0 : j = 0 := by omega
    subst j0
    simp only [hj', decide_false, cond_false, Option.bind_some]
    exact .some ⟨m1, m2, fun p q hp hq hs => j2 p q hp (by omega) (by omega) (by omega)⟩
theorem gI_ord {P : α → Prop} {f : α → α → Int} {c : α → α → Option Int} (hc : ∀ x y, P x → P y → c x y = some (f x y)) (anti : ∀ x y, f y x = - f x y) (tr : ∀ x y z, f x y ≤ 0 → f y z ≤ 0 → f x z ≤ 0)
    {l : List α} (hl : l.length ≤ 100000) (hP : All P l) : Ok (gI c l 0 l.length) (fun r => r.length = l.length ∧ All P r ∧ Ord f r l.length) := by
  unfold gI
  have w : IntKind.wrap .i64 ((0 : Int) + 1) = 1 := by decide
  rw [w]
  refine Ok.bind (P := fun r : List α => r.length = l.length ∧ All P r ∧ Ord f r l.length) (loop_ok (fun s : List α × Int => s.1.length = l.length ∧ All P s.1 ∧ ∃ i : Nat, s.2 = (i : Int) ∧ 1 ≤ i ∧ Ord f s.1 (min i l.length)) (fun s => ((l.length : Int) - s.2).toNat) ?_
    ⟨rfl, hP, 1, rfl, by omega, fun p q hp hq hn => by omega⟩) fun r hr => .some hr
  rintro ⟨m, q⟩ ⟨m1, m2, i, rfl, i1, i2⟩
  simp only at m1 m2 i2
  unfold gI1
  by_cases hi : i < l.length
  · have hi' : (i : Int) < l.length := by omega
    have w1 : IntKind.wrap .i64 ((i : Int) + 1) = ((i + 1 : Nat) : Int) := by rw [wrap64 (by omega) (by omega)]; omega
    simp only [hi', decide_true, cond_true]
    rw [Nat.min_eq_left (by omega)] at i2
    refine (gI2_ord hc anti tr (n := l.length) hl m1 m2 hi i2).bind fun r hr => ?_
    rw [w1]
    refine .some ⟨⟨hr.1, hr.2.1, i + 1, rfl, by omega, ?_⟩, by simp only; omega⟩
    rw [Nat.min_eq_left (by omega)]
    exact hr.2.2
  · have hi' : ¬ (i : Int) < l.length := by omega
    simp only [hi', decide_false, cond_false]
    rw [Nat.min_eq_right (by omega)] at i2
    exact .some ⟨m1, m2, i2⟩
end
end Go.Eng

/-
Plain tracks: what is kept between two that are kept; however they are put in.
-/
namespace Go.Eng
set_option linter.unusedVariables false
section
variable (B : Nat → Nat → Option Nat)
def TKn : Nat → Nat → Nat → List Nat
  | 0, _, _ => []
  | n + 1, i, k => match B i k with
    | none => []
    | some m => TKn n i m ++ m :: TKn n m k
def Tk (i k : Nat) : List Nat := TKn B (k - i) i k
variable (hB : ∀ i k m, B i k = some m → i < m ∧ m < k)
include hB
theorem TKn_fuel : ∀ (n i k : Nat), k - i ≤ n → TKn B n i k = TKn B (k - i) i k := by
  have key : ∀ (n n' i k : Nat), k - i ≤ n → k - i ≤ n' → TKn B n i k = TKn B n' i k := by
    intro n
    induction n with
    | zero =>
      intro n' i k h1 h2
      cases n' with
      | zero => rfl
      | succ n' =>
        unfold TKn
        cases hb : B i k with
        | none => rfl
        | some m => have := hB i k m hb; omega
    | succ n ih =>
      intro n' i k h1 h2
      cases n' with
      | zero =>
        unfold TKn
        cases hb : B i k with
        | none => rfl
        | some m => have := hB i k m hb; omega
      | succ n' =>
        unfold TKn
        cases hb : B i k with
        | none => rfl
        | some m =>
          have := hB i k m hb
          simp only
          rw [ih n' i m (by omega) (by omega), ih n' m k (by omega) (by omega)]
  intro n i k h
  exact key n (k - i) i k h (Nat.le_refl _)
omit hB in
theorem Tk_none {i k : Nat} (h : B i k = none) : Tk B i k = [] := by
  unfold Tk
  cases k - i with
  | zero => rfl
  | succ n => unfold TKn; rw [h]
theorem Tk_some {i k m : Nat} (h : B i k = some m) : Tk B i k = Tk B i m ++ m :: Tk B m k := by
  have hm := hB i k m h
  unfold Tk
  obtain ⟨n, hn⟩ : ∃ n, k - i = n + 1 := ⟨k - i - 1, by omega⟩
  rw [hn]
  conv => lhs; unfold TKn
  rw [h]
  simp only
  rw [TKn_fuel B hB n i m (by omega), TKn_fuel B hB n m k (by omega)]
theorem Tk_in : ∀ (n i k : Nat), k - i ≤ n → (∀ x ∈ Tk B i k, i < x ∧ x < k) ∧ (Tk B i k).Pairwise (· < ·) := by
  intro n
  induction n with
  | zero =>
    intro i k h
    cases hb : B i k with
    | none => rw [Tk_none B hb]; exact ⟨fun x hx => (nomatch hx), List.Pairwise.nil⟩
    | some m => have := hB i k m hb; omega
  | succ n ih =>
    intro i k h
    cases hb : B i k with
    | none => rw [Tk_none B hb]; exact ⟨fun x hx => (nomatch hx), List.Pairwise.nil⟩
    | some m =>
      have hm := hB i k m hb
      rw [Tk_some B hB hb]
      obtain ⟨a1, a2⟩ := ih i m (by omega)
      obtain ⟨b1, b2⟩ := ih m k (by omega)
      refine ⟨fun x hx => ?_, List.pairwise_append.2 ⟨a2, List.pairwise_cons.2 ⟨fun y hy => (b1 y hy).1, b2⟩, fun x hx y hy => ?_⟩⟩
      · rcases List.mem_append.1 hx with hx | hx
        · have := a1 x hx; omega
        · rcases List.mem_cons.1 hx with rfl | hx
          · exact hm
          · have := b1 x hx; omega
      · have := a1 x hx
        rcases List.mem_cons.1 hy with rfl | hy
        · omega
        · have := b1 y hy; omega
/-- what is kept in the end, if those are kept now -/
def exF : Nat → List Nat → List Nat
  | a, [] => [a]
  | a, b :: l => a :: Tk B a b ++ exF b l
theorem exF_ins {c b m : Nat} {post : List Nat} (h : B c b = some m) : ∀ (pre : List Nat) (a : Nat), (a :: pre).getLast (by simp) = c → exF B a (pre ++ b :: post) = exF B a (pre ++ m :: b :: post)
  | [], a, hc => by
    have hc : a = c := hc
    subst hc
    simp only [List.nil_append, exF]
    rw [Tk_some B hB h]
    simp
  | p :: pre, a, hc => by
    have hc : (p :: pre).getLast (by simp) = c := (List.getLast_cons (show p :: pre ≠ [] by simp)).symm.trans hc
    simp only [List.cons_append, exF]
    rw [exF_ins h pre p hc]
omit hB in
theorem exF_done : ∀ (l : List Nat) (a : Nat), (∀ (i : Nat) (h : i + 1 < (a :: l).length), B ((a :: l)[i]'(by omega)) ((a :: l)[i + 1]) = none) → exF B a l = a :: l
  | [], a, _ => rfl
  | b :: l, a, h => by
    have h0 := h 0 (by simp)
    simp only [exF]
    have h0 : B a b = none := h0
    rw [Tk_none B h0, exF_done l b fun i hi => h (i + 1) (by simp at hi ⊢; omega)]
    rfl
omit hB in
theorem sorted_ext {l m : List Nat} (h1 : l.Pairwise (· < ·)) (h2 : m.Pairwise (· < ·)) (h : ∀ x, x ∈ l ↔ x ∈ m) : l = m := by
  have p : l.Perm m := (List.perm_ext_iff_of_nodup (h1.imp fun h => Nat.ne_of_lt h) (h2.imp fun h => Nat.ne_of_lt h)).2 h
  exact List.Perm.eq_of_pairwise (le := (· < ·)) (fun a b _ _ hab hba => by omega) h1 h2 p
end
end Go.Eng

/-
Sorting of numbers; the fixes of a track that are kept: the code's way.
-/
namespace Go.Eng
open Go
set_option linter.unusedVariables false
set_option linter.unusedSimpArgs false
section
variable {α : Type}
theorem Ok.and {f : Option α} {P Q : α → Prop} (h1 : Ok f P) (h2 : Ok f Q) : Ok f (fun r => P r ∧ Q r) := by
  obtain ⟨r, e1, p1⟩ := h1
  obtain ⟨s, e2, p2⟩ := h2
  rw [e1] at e2
  obtain rfl := Option.some.inj e2
  exact ⟨r, e1, p1, p2⟩
theorem bitLen12 (n : Nat) (h : n ≤ 12) : Ok (bits_Len (IntKind.wrap .u64 (n : Int))) (fun _ => True) := by
  match n, h with
  | 0, _ => exact ⟨0, by kernel_rfl, trivial⟩
  | 1, _ => exact ⟨1, by kernel_rfl, trivial⟩
  | 2, _ => exact ⟨2, by kernel_rfl, trivial⟩
  | 3, _ => exact ⟨2, by kernel_rfl, trivial⟩
  | 4, _ => exact ⟨3, by kernel_rfl, trivial⟩
  | 5, _ => exact ⟨3, by kernel_rfl, trivial⟩
  | 6, _ => exact ⟨3, by kernel_rfl, trivial⟩
  | 7, _ => exact ⟨3, by kernel_rfl, trivial⟩
  | 8, _ => exact ⟨4, by kernel_rfl, trivial⟩
  | 9, _ => exact ⟨4, by kernel_rfl, trivial⟩
  | 10, _ => exact ⟨4, by kernel_rfl, trivial⟩
  | 11, _ => exact ⟨4, by kernel_rfl, trivial⟩
  | 12, _ => exact ⟨4, by kernel_rfl, trivial⟩
theorem swap_pm' {l : List α} {j : Nat} (h : 0 < j) (hj : j < l.length) : ((l.set j (l[j - 1]'(by omega))).set (j - 1) l[j]).Perm l := by
  have h1 := Array.swap_perm (xs := l.toArray) (i := j) (j := j - 1) (by simpa using hj) (by simp; omega)
  have h2 := Array.perm_iff_toList_perm.1 h1
  simpa [Array.swap] using h2
theorem gI2_pm' {P : α → Prop} {f : α → α → Int} {c : α → α → Option Int} (hc : ∀ x y, P x → P y → c x y = some (f x y)) {n : Nat} (hn : n ≤ 100000) {l0 l : List α} (hl : l.length = n) (hP : All P l) (h0 : l.Perm l0) {i : Nat} (hi : i < n) :
    Ok (loopO (gI2 c 0) (l, (i : Int))) (fun r => r.length = n ∧ All P r ∧ r.Perm l0) := by
  refine loop_ok (fun s : List α × Int => s.1.length = n ∧ All P s.1 ∧ s.1.Perm l0 ∧ ∃ j : Nat, s.2 = (j : Int) ∧ j ≤ i) (fun s => s.2.toNat) ?_ ⟨hl, hP, h0, i, rfl, Nat.le_refl _⟩
  rintro ⟨m, q⟩ ⟨m1, m2, m3, j, rfl, j1⟩
  simp only at m1 m2 m3
  unfold gI2 gI3
  by_cases hj : (0 : Int) < j
  · have w1 : IntKind.wrap .i64 ((j : Int) - 1) = ((j - 1 : Nat) : Int) := by rw [wrap64 (by omega) (by omega)]; omega
    have hjm : j < m.length := by omega
    have hjm1 : j - 1 < m.length := by omega
    have hy := m2 _ (List.getElem_mem hjm)
    have hx := m2 _ (List.getElem_mem hjm1)
    simp only [hj, decide_true, cond_true, w1, at_nat hjm, at_nat hjm1, Option.bind_some, hc _ _ hy hx]
    refine .cond (fun hlt => ?_) (fun hge => ?_)
    · have g3 : at? (m.set (j : Int).toNat m[j - 1]) ((j - 1 : Nat) : Int) = some m[j - 1] := by
        rw [at_nat (by simp; omega)]
        simp only [Int.toNat_natCast, List.getElem_set]
        rw [if_neg (by omega)]
      rw [g3]
      simp only [Option.bind_some, Int.toNat_natCast]
      exact .some ⟨⟨by simp [m1], (m2.set hx).set hy, (swap_pm' (by omega) hjm).trans m3, j - 1, rfl, by omega⟩, by simp only; omega⟩
    · exact .some ⟨m1, m2, m3⟩
  · have hj' : ¬ (0 : Int) < j := hj
    simp only [hj', decide_false, cond_false, Option.bind_some]
    exact .some ⟨m1, m2, m3⟩
theorem gI_pm' {P : α → Prop} {f : α → α → Int} {c : α → α → Option Int} (hc : ∀ x y, P x → P y → c x y = some (f x y)) {l : List α} (hl : l.length ≤ 100000) (hP : All P l) : Ok (gI c l 0 l.length) (fun r => r.Perm l) := by
  unfold gI
  have w : IntKind.wrap .i64 ((0 : Int) + 1) = 1 := by decide
  rw [w]
  refine Ok.bind (P := fun r : List α => r.Perm l) (loop_ok (fun s : List α × Int => s.1.length = l.length ∧ All P s.1 ∧ s.1.Perm l ∧ ∃ i : Nat, s.2 = (i : Int)) (fun s => ((l.length : Int) - s.2).toNat) ?_
    ⟨rfl, hP, List.Perm.refl _, 1, rfl⟩) fun r hr => .some hr
  rintro ⟨m, q⟩ ⟨m1, m2, m3, i, rfl⟩
  simp only at m1 m2 m3
  unfold gI1
  by_cases hi : i < l.length
  · have hi' : (i : Int) < l.length := by omega
    have w1 : IntKind.wrap .i64 ((i : Int) + 1) = ((i + 1 : Nat) : Int) := by rw [wrap64 (by omega) (by omega)]; omega
    simp only [hi', decide_true, cond_true]
    refine (gI2_pm' hc (n := l.length) hl m1 m2 m3 hi).bind fun r hr => ?_
    rw [w1]
    exact .some ⟨⟨hr.1, hr.2.1, hr.2.2, i + 1, rfl⟩, by simp only; omega⟩
  · have hi' : ¬ (i : Int) < l.length := by omega
    simp only [hi', decide_false, cond_false]
    exact .some m3
/-- the code's sorting of up to twelve: by insertion -/
noncomputable def gPdq (c : α → α → Option Int) (qx : List α) (qx1 qx2 qx3 : Int) : Unit → Option (Unit ⊕ List α)
  | _ => cond (decide ((IntKind.wrap .i64 (qx2 - qx1)) ≤ 12)) ((gI c qx qx1 qx2).bind fun v => gd (v.length == qx.length) <| some (.inr v)) (cond (decide (qx3 = 0)) none none)
noncomputable def gSF (c : α → α → Option Int) (qx : List α) : Option (List α) :=
  (bits_Len (IntKind.wrap .u64 ((qx.length : Int)))).bind fun vr1 =>
  ((loopO (gPdq c qx 0 (qx.length : Int) vr1) ()).bind fun v => some v).bind fun vl2 =>
  gd (vl2.length == qx.length) <|
  some vl2
/-- the only order in which there may stand what has an order -/
theorem gSF_ok {f : α → α → Int} {c : α → α → Option Int} (hc : ∀ x y, c x y = some (f x y)) (anti : ∀ x y, f y x = - f x y) (tr : ∀ x y z, f x y ≤ 0 → f y z ≤ 0 → f x z ≤ 0) {l : List α} (hl : l.length ≤ 12) (hd : l.Pairwise fun x y => f x y ≠ 0) :
    ∃ r, gSF c l = some r ∧ r.Perm l ∧ r.Pairwise fun x y => f x y < 0 := by
  have hP : All (fun _ : α => True) l := fun _ _ => trivial
  obtain ⟨r, h1, ⟨h2, h3, h4⟩, h5⟩ := (gI_ord (P := fun _ => True) (f := f) (c := c) (fun x y _ _ => hc x y) anti tr (l := l) (by omega) hP).and (gI_pm' (P := fun _ => True) (f := f) (c := c) (fun x y _ _ => hc x y) (l := l) (by omega) hP)
  obtain ⟨b, hb, _⟩ := bitLen12 l.length hl
  refine ⟨r, ?_, h5, ?_⟩
  · unfold gSF
    rw [hb]
    simp only [Option.bind_some]
    have : loopO (gPdq c l 0 (l.length : Int) b) () = some r := by
      refine loop_out ?_
      unfold gPdq
      have w : IntKind.wrap .i64 ((l.length : Int) - 0) = l.length := by rw [wrap64 (by omega) (by omega)]; omega
      have hcc : (l.length : Int) ≤ 12 := by omega
      rw [w, h1]
      simp only [hcc, decide_true, cond_true, Option.bind_some, gd, h2, beq_self_eq_true]
    rw [this]
    simp only [Option.bind_some, gd, h2, beq_self_eq_true, cond_true]
  · have hd' : r.Pairwise fun x y => f x y ≠ 0 := (h5.pairwise_iff (fun {x y} h => by rw [anti x y]; omega)).2 hd
    rw [List.pairwise_iff_getElem]
    intro i j hi hj hij
    have a1 := h4 i j hij (by rw [← h2]; exact hj) (by rw [h2]; exact Nat.le_refl _)
    have a2 := (List.pairwise_iff_getElem.1 hd') i j hi hj hij
    omega
theorem strict_ext {f : α → α → Int} (anti : ∀ x y, f y x = - f x y) {l m : List α} (h1 : l.Pairwise fun x y => f x y < 0) (h2 : m.Pairwise fun x y => f x y < 0) (hp : l.Perm m) : l = m :=
  List.Perm.eq_of_pairwise (le := fun x y => f x y < 0) (fun a b _ _ hab hba => by have := anti a b; omega) h1 h2 hp
end
def cI (x y : Int) : Option Int := some (cmpI x y)
theorem LessI_eq (x y : Int) : cmp_Less_int x y = some (decide (cmpI x y < 0)) := by
  have e : cmp_Less_int x y = some (decide (x < y)) := by
    unfold cmp_Less_int cmp_Less_int_x1 cmp_isNaN_int
    simp
  rw [e]
  congr 1
  unfold cmpI
  by_cases h : x < y
  · simp [h]
  · by_cases h2 : y < x <;> simp [h, h2]
theorem insI3_eq : slices_insertionSortOrdered_int_o0_x3 = gI3 cI := by
  funext qa l j
  unfold slices_insertionSortOrdered_int_o0_x3 gI3
  simp only [LessI_eq, cI, Option.bind_some]
theorem insI2_eq : slices_insertionSortOrdered_int_o0_x2 = gI2 cI := by
  funext qa ⟨l, j⟩
  unfold slices_insertionSortOrdered_int_o0_x2 gI2
  rw [insI3_eq]
theorem insI1_eq : slices_insertionSortOrdered_int_o0_x1 = gI1 cI := by
  funext qa qb ⟨l, j⟩
  unfold slices_insertionSortOrdered_int_o0_x1 gI1
  rw [insI2_eq]
theorem insI_eq : slices_insertionSortOrdered_int_o0 = gI cI := by
  funext l qa qb
  unfold slices_insertionSortOrdered_int_o0 gI
  rw [insI1_eq]
theorem pdqI_eq : slices_pdqsortOrdered_int_o0_x1 = gPdq cI := by
  funext l a b m u
  unfold slices_pdqsortOrdered_int_o0_x1 gPdq
  rw [insI_eq]
theorem sortI_eq : slices_Sort_int_int_o0 = gSF cI := by
  funext l
  unfold slices_Sort_int_int_o0 gSF slices_pdqsortOrdered_int_o0
  rw [pdqI_eq]
theorem cmpI_tr {a b c : Int} (h1 : cmpI a b ≤ 0) (h2 : cmpI b c ≤ 0) : cmpI a c ≤ 0 := by
  unfold cmpI at *; (repeat' split at h1) <;> (repeat' split at h2) <;> (repeat' split) <;> omega
/-- numbers, one of them at the end, are put in order -/
theorem sort_put {K M : List Nat} {m : Nat} (hl : M.length ≤ 12) (hM : M.Pairwise (· < ·)) (hp : M.Perm (K ++ [m])) : slices_Sort_int_int_o0 (K.map Int.ofNat ++ [(m : Int)]) = some (M.map Int.ofNat) := by
  have hlen : (K.map Int.ofNat ++ [(m : Int)]).length ≤ 12 := by have := hp.length_eq; simp at this ⊢; omega
  have hpp : (M.map Int.ofNat).Perm (K.map Int.ofNat ++ [(m : Int)]) := by
    have := hp.map Int.ofNat
    simpa using this
  have hs : (M.map Int.ofNat).Pairwise fun x y => cmpI x y < 0 := by
    rw [List.pairwise_map]
    refine hM.imp fun {a b} h => ?_
    unfold cmpI
    rw [if_pos (by simp; omega)]
    omega
  have hd : (K.map Int.ofNat ++ [(m : Int)]).Pairwise fun x y => cmpI x y ≠ 0 := by
    refine (hpp.pairwise_iff (fun {x y} h => ?_)).1 (hs.imp fun h => by omega)
    have := cmpI_anti x y; omega
  obtain ⟨r, r1, r2, r3⟩ := gSF_ok (f := cmpI) (c := cI) (fun x y => rfl) (fun x y => cmpI_anti x y) (fun x y z => cmpI_tr) hlen hd
  rw [sortI_eq, r1]
  congr 1
  exact strict_ext (f := cmpI) (fun x y => cmpI_anti x y) r3 hs (r2.trans hpp.symm)

/-! ### The farthest between two -/
def fx (l : List api_Fix) (i : Nat) : api_Fix := l.getD i (api_Fix.mk [] 0 0 0 0)
theorem at_fx {l : List api_Fix} {i : Nat} (h : i < l.length) : at? l (i : Int) = some (fx l i) ∧ fx l i ∈ l := by
  have e : fx l i = l[i] := by unfold fx; rw [List.getD_eq_getElem?_getD, List.getElem?_eq_getElem h]; rfl
  rw [e]
  exact ⟨at_nat h, List.getElem_mem h⟩
def stp (l : List api_Fix) (i k : Nat) (s : api_Fraction × Int) (m : Nat) : api_Fraction × Int :=
  cond (frL s.1 (farF (fsp (fx l i)) (fsp (fx l k)) (fsp (fx l m)))) (farF (fsp (fx l i)) (fsp (fx l k)) (fsp (fx l m)), (m : Int)) s
def bstN (l : List api_Fix) (i k : Nat) : Nat → Nat → api_Fraction × Int → api_Fraction × Int
  | 0, _, s => s
  | c + 1, m, s => bstN l i k c (m + 1) (stp l i k s m)
theorem fixv_in {l : List api_Fix} (hg : ∀ x ∈ l, FixV x) {i : Nat} (h : i < l.length) : InB (fsp (fx l i)) := (hg _ (at_fx h).2).2.1
theorem stp_R {l : List api_Fix} (hg : ∀ x ∈ l, FixV x) {i k m : Nat} (hi : i < l.length) (hk : k < l.length) (hm : m < l.length) {s : api_Fraction × Int} (hs : FrR s.1) : FrR (stp l i k s m).1 := by
  unfold stp
  cases frL s.1 (farF (fsp (fx l i)) (fsp (fx l k)) (fsp (fx l m)))
  · exact hs
  · exact farF_R (fixv_in hg hi) (fixv_in hg hk) (fixv_in hg hm)
theorem own_best {l : List api_Fix} (hg : ∀ x ∈ l, FixV x) (hl : l.length ≤ 1000) {i k : Nat} (hi : i < l.length) (hk : k < l.length) (recF : Int → Int → List Bool → Int → List api_Fix → Option (List Bool)) : ∀ (c m : Nat) (s : api_Fraction × Int), m + c = k → FrR s.1 →
    loopO (place_Plain_1_b0o_x1 recF i k l) (s.1, s.2, (m : Int)) = some (bstN l i k c m s).2
  | 0, m, s, h, _ => by
    refine loop_out ?_
    unfold place_Plain_1_b0o_x1 bstN
    have : ¬ (m : Int) < k := by omega
    simp [this]
  | c + 1, m, s, h, hs => by
    have hm : m < l.length := by omega
    rw [loop_in (s' := ((stp l i k s m).1, (stp l i k s m).2, ((m + 1 : Nat) : Int)))]
    · exact own_best hg hl hi hk recF c (m + 1) (stp l i k s m) (by omega) (stp_R hg hi hk hm hs)
    · unfold place_Plain_1_b0o_x1 place_Plain_1_b0o_x2 place_spot
      have hc : (m : Int) < k := by omega
      have w1 : IntKind.wrap .i64 ((m : Int) + 1) = ((m + 1 : Nat) : Int) := by rw [wrap64 (by omega) (by omega)]; omega
      have hf : place_far (api_Spot.mk (fx l i).X (fx l i).Y) (api_Spot.mk (fx l k).X (fx l k).Y) (api_Spot.mk (fx l m).X (fx l m).Y) = some (farF (fsp (fx l i)) (fsp (fx l k)) (fsp (fx l m))) := far_eq (fixv_in hg hi) (fixv_in hg hk) (fixv_in hg hm)
      simp only [hc, decide_true, cond_true, (at_fx hi).1, (at_fx hk).1, (at_fx hm).1, Option.bind_some, hf, pless_eq hs (farF_R (fixv_in hg hi) (fixv_in hg hk) (fixv_in hg hm)), w1]
      unfold stp
      cases frL s.1 (farF (fsp (fx l i)) (fsp (fx l k)) (fsp (fx l m))) <;> rfl
theorem ref_best {l : List api_Fix} (hg : ∀ x ∈ l, FixV x) (hl : l.length ≤ 1000) {i k : Nat} (hi : i < l.length) (hk : k < l.length) : ∀ (c m : Nat) (s : api_Fraction × Int), m + c = k → FrR s.1 →
    loopO (fleetref2_PlainOf_o0_x5 l i k) (s.1, s.2, (m : Int)) = some (bstN l i k c m s).2
  | 0, m, s, h, _ => by
    refine loop_out ?_
    unfold fleetref2_PlainOf_o0_x5 bstN
    have : ¬ (m : Int) < k := by omega
    simp [this]
  | c + 1, m, s, h, hs => by
    have hm : m < l.length := by omega
    rw [loop_in (s' := ((stp l i k s m).1, (stp l i k s m).2, ((m + 1 : Nat) : Int)))]
    · exact ref_best hg hl hi hk c (m + 1) (stp l i k s m) (by omega) (stp_R hg hi hk hm hs)
    · unfold fleetref2_PlainOf_o0_x5 fleetref2_PlainOf_o0_x6 fleetref2_spotOf
      have hc : (m : Int) < k := by omega
      have w1 : IntKind.wrap .i64 ((m : Int) + 1) = ((m + 1 : Nat) : Int) := by rw [wrap64 (by omega) (by omega)]; omega
      have hf : fleetref2_farWay (api_Spot.mk (fx l i).X (fx l i).Y) (api_Spot.mk (fx l k).X (fx l k).Y) (api_Spot.mk (fx l m).X (fx l m).Y) = some (farF (fsp (fx l i)) (fsp (fx l k)) (fsp (fx l m))) := farWay_eq (fixv_in hg hi) (fixv_in hg hk) (fixv_in hg hm)
      simp only [hc, decide_true, cond_true, (at_fx hi).1, (at_fx hk).1, (at_fx hm).1, Option.bind_some, hf, rless_eq hs (farF_R (fixv_in hg hi) (fixv_in hg hk) (fixv_in hg hm)), w1]
      unfold stp
      cases frL s.1 (farF (fsp (fx l i)) (fsp (fx l k)) (fsp (fx l m))) <;> rfl
theorem bst_rng {l : List api_Fix} {i k : Nat} : ∀ (c m : Nat) (s : api_Fraction × Int), m + c = k → i < m → (s.2 = -1 ∨ ∃ j : Nat, s.2 = (j : Int) ∧ i < j ∧ j < k) → (bstN l i k c m s).2 = -1 ∨ ∃ j : Nat, (bstN l i k c m s).2 = (j : Int) ∧ i < j ∧ j < k
  | 0, m, s, _, _, h => h
  | c + 1, m, s, h1, h2, h => by
    unfold bstN
    refine bst_rng c (m + 1) _ (by omega) (by omega) ?_
    unfold stp
    cases frL s.1 (farF (fsp (fx l i)) (fsp (fx l k)) (fsp (fx l m)))
    · exact h
    · exact .inr ⟨m, rfl, h2, by omega⟩
def bestV (l : List api_Fix) (q : Int) (i k : Nat) : Int := (bstN l i k (k - (i + 1)) (i + 1) (api_Fraction.mk (q * q) 1, -1)).2
def bestO (l : List api_Fix) (q : Int) (i k : Nat) : Option Nat := if i < k ∧ 0 ≤ bestV l q i k then some (bestV l q i k).toNat else none
theorem bestV_rng (l : List api_Fix) (q : Int) {i k : Nat} (h : i < k) : bestV l q i k = -1 ∨ ∃ j : Nat, bestV l q i k = (j : Int) ∧ i < j ∧ j < k :=
  bst_rng _ _ _ (by omega) (by omega) (.inl rfl)
theorem bestO_in (l : List api_Fix) (q : Int) (i k m : Nat) (h : bestO l q i k = some m) : i < m ∧ m < k := by
  unfold bestO at h
  split at h
  · rename_i hh
    injection h with h
    rcases bestV_rng l q hh.1 with e | ⟨j, e, j1, j2⟩
    · omega
    · rw [e] at h; simp at h; omega
  · cases h
theorem sq_R {q : Int} (h : 0 ≤ q ∧ q ≤ 10000) : IntKind.wrap .i64 (q * q) = q * q ∧ FrR (api_Fraction.mk (q * q) 1) := err_R h

/-! ### The code's way: between two -/
def kpt (b : List Bool) (j : Nat) : Bool := b.getD j false
theorem kpt_set {b : List Bool} {i : Nat} (hi : i < b.length) (j : Nat) : kpt (b.set i true) j = (decide (j = i) || kpt b j) := by
  unfold kpt
  rw [List.getD_eq_getElem?_getD, List.getD_eq_getElem?_getD, List.getElem?_set]
  by_cases h : i = j
  · subst h; simp [hi]
  · have h' : ¬ j = i := fun e => h e.symm
    simp [h, h']
theorem at_bool {b : List Bool} {i : Nat} (h : i < b.length) : at? b (i : Int) = some (kpt b i) := by
  have e : kpt b i = b[i] := by unfold kpt; rw [List.getD_eq_getElem?_getD, List.getElem?_eq_getElem h]; rfl
  rw [e]; exact at_nat h
theorem betw {l : List api_Fix} (hg : ∀ x ∈ l, FixV x) (hl : l.length ≤ 1000) {q : Int} (hq : 0 ≤ q ∧ q ≤ 10000) : ∀ (n i k : Nat) (b : List Bool), b.length = l.length → i ≤ k → k < l.length → k - i < n →
    ∃ r, place_Plain_1_b0o_n n i k b q l = some r ∧ r.length = l.length ∧ ∀ j, kpt r j = true ↔ kpt b j = true ∨ j = i ∨ j = k ∨ j ∈ Tk (bestO l q) i k
  | 0, i, k, b, _, _, _, h => by omega
  | n + 1, i, k, b, hb, hik, hk, hn => by
    have hi : i < l.length := by omega
    unfold place_Plain_1_b0o_n
    have a1 : at? b (i : Int) = some (kpt b i) := at_bool (by omega)
    have a2 : at? (b.set i true) (k : Int) = some (kpt (b.set i true) k) := at_bool (by simp; omega)
    have w1 : IntKind.wrap .i64 ((i : Int) + 1) = ((i + 1 : Nat) : Int) := by rw [wrap64 (by omega) (by omega)]; omega
    have base : ∀ j, kpt ((b.set i true).set k true) j = true ↔ kpt b j = true ∨ j = i ∨ j = k := fun j => by
      rw [kpt_set (by simp; omega), kpt_set (by omega)]
      simp only [Bool.or_eq_true, decide_eq_true_eq]
      constructor
      · rintro (h | h | h)
        · exact .inr (.inr h)
        · exact .inr (.inl h)
        · exact .inl h
      · rintro (h | h | h)
        · exact .inr (.inr h)
        · exact .inr (.inl h)
        · exact .inl h
    by_cases hlt : i < k
    · have hloop := own_best hg hl hi hk (place_Plain_1_b0o_n n) (k - (i + 1)) (i + 1) (api_Fraction.mk (q * q) 1, -1) (by omega) (sq_R hq).2
      simp only [a1, Int.toNat_natCast, a2, Option.bind_some, w1, (sq_R hq).1, hloop]
      show ∃ r, (bif decide (0 ≤ bestV l q i k) then ((place_Plain_1_b0o_n n (i : Int) (bestV l q i k) ((b.set i true).set k true) q l).bind fun vs => (place_Plain_1_b0o_n n (bestV l q i k) (k : Int) vs q l).bind fun vs1 => some vs1) else some ((b.set i true).set k true)) = some r ∧ _
      rcases bestV_rng l q hlt with e | ⟨m, e, m1, m2⟩
      · have hO : bestO l q i k = none := by unfold bestO; rw [e]; simp
        rw [e, Tk_none _ hO]
        refine ⟨_, rfl, by simp [hb], fun j => ?_⟩
        rw [base]
        simp
      · have hO : bestO l q i k = some m := by unfold bestO; rw [e, if_pos ⟨hlt, by omega⟩]; simp
        rw [e]
        have h0 : (0 : Int) ≤ (m : Int) := by omega
        obtain ⟨r1, p1, p2, p3⟩ := betw hg hl hq n i m ((b.set i true).set k true) (by simp [hb]) (by omega) (by omega) (by omega)
        obtain ⟨r2, q1, q2, q3⟩ := betw hg hl hq n m k r1 p2 (by omega) hk (by omega)
        simp only [h0, decide_true, cond_true, p1, q1, Option.bind_some]
        refine ⟨r2, rfl, q2, fun j => ?_⟩
        rw [q3, p3, base, Tk_some _ (bestO_in l q) hO]
        simp only [List.mem_append, List.mem_cons]
        constructor
        · rintro (((h | h | h) | h | h | h) | h | h | h)
          · exact .inl h
          · exact .inr (.inl h)
          · exact .inr (.inr (.inl h))
          · exact .inr (.inl h)
          · exact .inr (.inr (.inr (.inr (.inl h))))
          · exact .inr (.inr (.inr (.inl h)))
          · exact .inr (.inr (.inr (.inr (.inl h))))
          · exact .inr (.inr (.inl h))
          · exact .inr (.inr (.inr (.inr (.inr h))))
        · rintro (h | h | h | h | h | h)
          · exact .inl (.inl (.inl h))
          · exact .inl (.inl (.inr (.inl h)))
          · exact .inl (.inl (.inr (.inr h)))
          · exact .inl (.inr (.inr (.inr h)))
          · exact .inr (.inl h)
          · exact .inr (.inr (.inr h))
    · have hik' : i = k := by omega
      subst hik'
      have hO : bestO l q i i = none := by unfold bestO; rw [if_neg (by omega)]
      have hloop : loopO (place_Plain_1_b0o_x1 (place_Plain_1_b0o_n n) i i l) (api_Fraction.mk (q * q) 1, -1, ((i + 1 : Nat) : Int)) = some (-1) := by
        refine loop_out ?_
        unfold place_Plain_1_b0o_x1
        have : ¬ ((i + 1 : Nat) : Int) < i := by omega
        simp only [this, decide_false, cond_false]
      simp only [a1, Int.toNat_natCast, a2, Option.bind_some, w1, (sq_R hq).1, hloop]
      rw [Tk_none _ hO]
      refine ⟨_, rfl, by simp [hb], fun j => ?_⟩
      rw [base]
      simp
end Go.Eng

/-
The fixes of a track that are kept: the reference's way; both are the same.
-/
namespace Go.Eng
open Go
set_option linter.unusedVariables false
set_option linter.unusedSimpArgs false
theorem fixO_20 {β : Type} {g : Nat → Option β} {r : β} (h : g 20 = some r) : fixO g = some r := by
  unfold fixO
  rw [h]
/-- the numbers that are kept -/
def keptL (l : List api_Fix) (q : Int) : List Nat := if l.length = 0 then [] else if l.length = 1 then [0] else exF (bestO l q) 0 [l.length - 1]
theorem exF_two (B : Nat → Nat → Option Nat) (a b : Nat) : exF B a [b] = a :: Tk B a b ++ [b] := rfl
theorem kept_sorted {l : List api_Fix} {q : Int} : (keptL l q).Pairwise (· < ·) ∧ ∀ x ∈ keptL l q, x < l.length := by
  unfold keptL
  split
  · exact ⟨List.Pairwise.nil, fun x hx => (nomatch hx)⟩
  split
  · exact ⟨by simp, fun x hx => by simp at hx; omega⟩
  rw [exF_two]
  obtain ⟨a1, a2⟩ := Tk_in (bestO l q) (bestO_in l q) (l.length - 1 - 0) 0 (l.length - 1) (Nat.le_refl _)
  refine ⟨?_, fun x hx => ?_⟩
  · rw [List.cons_append, List.pairwise_cons]
    refine ⟨fun y hy => ?_, List.pairwise_append.2 ⟨a2, by simp, fun x hx y hy => ?_⟩⟩
    · rcases List.mem_append.1 hy with hy | hy
      · exact (a1 y hy).1
      · rw [List.mem_singleton] at hy; omega
    · rw [List.mem_singleton] at hy
      have := a1 x hx; omega
  · rw [List.cons_append] at hx
    rcases List.mem_cons.1 hx with rfl | hx
    · omega
    · rcases List.mem_append.1 hx with hx | hx
      · have := a1 x hx; omega
      · rw [List.mem_singleton] at hx; omega
/-! ### The code -/
theorem out_loop {b : List Bool} (hb : b.length ≤ 1000) : ∀ (c j : Nat) (o : List Nat), j + c = b.length → o.length ≤ j → loopO (place_Plain_x2 b) (o.map Int.ofNat, (j : Int)) = some ((o ++ (List.range' j c).filter (kpt b)).map Int.ofNat)
  | 0, j, o, h, _ => by
    refine loop_out ?_
    unfold place_Plain_x2
    have : ¬ (j : Int) < b.length := by omega
    simp [this]
  | c + 1, j, o, h, ho => by
    have hj : j < b.length := by omega
    have hj' : (j : Int) < b.length := by omega
    have w1 : IntKind.wrap .i64 ((j : Int) + 1) = ((j + 1 : Nat) : Int) := by rw [wrap64 (by omega) (by omega)]; omega
    rw [List.range'_succ, List.filter_cons]
    cases hk : kpt b j with
    | true =>
      rw [loop_in (s' := ((o ++ [j]).map Int.ofNat, ((j + 1 : Nat) : Int)))]
      · rw [out_loop hb c (j + 1) (o ++ [j]) (by omega) (by simp; omega)]
        simp
      · unfold place_Plain_x2 place_Plain_x3
        simp only [hj', decide_true, cond_true, at_bool hj, hk, Option.bind_some, w1]
        rw [gd_true (ble_lim (by simp; omega))]
        simp
    | false =>
      rw [loop_in (s' := (o.map Int.ofNat, ((j + 1 : Nat) : Int)))]
      · rw [out_loop hb c (j + 1) o (by omega) (by omega)]
        simp
      · unfold place_Plain_x2 place_Plain_x3
        simp only [hj', decide_true, cond_true, at_bool hj, hk, Option.bind_some, w1, cond_false]
theorem rep_false (n j : Nat) : kpt (List.replicate n false) j = false := by
  unfold kpt
  rw [List.getD_eq_getElem?_getD, List.getElem?_replicate]
  split <;> rfl
theorem Plain_eq {l : List api_Fix} (hg : ∀ x ∈ l, FixV x) (hl : l.length ≤ 14) {q : Int} (hq : 0 ≤ q ∧ q ≤ 10000) (ht : place_trackFault l = some 0) : place_Plain l q = some ((keptL l q).map Int.ofNat, 0) := by
  have hx1 : ∃ b, place_Plain_x1 l q = some b ∧ b.length = l.length ∧ (List.range' 0 b.length).filter (kpt b) = keptL l q := by
    unfold place_Plain_x1
    by_cases h0 : l.length = 0
    · have : ¬ (0 : Int) < l.length := by omega
      simp only [this, decide_false, cond_false]
      refine ⟨_, rfl, by simp, ?_⟩
      unfold keptL
      rw [if_pos h0]
      simp [h0]
    · have h1 : (0 : Int) < l.length := by omega
      have w1 : IntKind.wrap .i64 ((l.length : Int) - 1) = ((l.length - 1 : Nat) : Int) := by rw [wrap64 (by omega) (by omega)]; omega
      obtain ⟨r, r1, r2, r3⟩ := betw hg (by omega) hq 20 0 (l.length - 1) (List.replicate (l.length : Int).toNat false) (by simp) (by omega) (by omega) (by omega)
      have hf : place_Plain_1_b0o 0 ((l.length - 1 : Nat) : Int) (List.replicate (l.length : Int).toNat false) q l = some r := fixO_20 r1
      simp only [h1, decide_true, cond_true, w1, hf, Option.bind_some]
      refine ⟨r, rfl, r2, ?_⟩
      refine sorted_ext (List.Pairwise.filter _ List.pairwise_lt_range') kept_sorted.1 fun x => ?_
      rw [List.mem_filter, r3, List.mem_range'_1, rep_false, r2]
      unfold keptL
      rw [if_neg h0]
      by_cases h11 : l.length = 1
      · rw [if_pos h11]
        have hO : bestO l q 0 (l.length - 1) = none := by
          unfold bestO; rw [if_neg (by omega)]
        rw [Tk_none _ hO]
        simp
        omega
      · rw [if_neg h11, exF_two]
        obtain ⟨a1, a2⟩ := Tk_in (bestO l q) (bestO_in l q) (l.length - 1 - 0) 0 (l.length - 1) (Nat.le_refl _)
        simp only [List.cons_append, List.mem_cons, List.mem_append, List.not_mem_nil, or_false]
        constructor
        · rintro ⟨_, h | h | h | h⟩
          · cases h
          · exact .inl h
          · exact .inr (.inr h)
          · exact .inr (.inl h)
        · rintro (h | h | h)
          · exact ⟨by omega, .inr (.inl h)⟩
          · have := a1 x h
            exact ⟨by omega, .inr (.inr (.inr h))⟩
          · exact ⟨by omega, .inr (.inr (.inl h))⟩
  obtain ⟨b, b1, b2, b3⟩ := hx1
  have ho : base_Out q 0 10000 = some false := by
    rw [Out_eq]; simp; omega
  unfold place_Plain
  have hgd : (decide (0 ≤ (l.length : Int)) && decide ((l.length : Int) ≤ (l.length : Int)) && decide ((l.length : Int) ≤ 137438953472)) = true := by simp; omega
  have hlp := out_loop (b := b) (by omega) b.length 0 [] (by omega) (by simp)
  simp only [ht, ho, Option.bind_some, decide_true, Bool.not_true, cond_false, gd_true hgd, b1]
  rw [show loopO (place_Plain_x2 b) ([], 0) = some (((List.range' 0 b.length).filter (kpt b)).map Int.ofNat) from hlp, b3]
  rfl
/-! ### The reference -/
theorem at_mapN {K : List Nat} {i : Nat} (h : i < K.length) : at? (K.map Int.ofNat) (i : Int) = some ((K[i] : Nat) : Int) := by
  rw [at_nat (by simpa using h)]
  simp
theorem first_pair {l : List api_Fix} (hg : ∀ x ∈ l, FixV x) (hl : l.length ≤ 14) {q : Int} (hq : 0 ≤ q ∧ q ≤ 10000) {K : List Nat} (hK : K.length ≤ 100) (hs : K.Pairwise (· < ·)) (hin : ∀ x ∈ K, x < l.length) :
    Ok (loopO (fleetref2_PlainOf_o0_x3 l q (K.map Int.ofNat)) (-1, 1)) (fun r => (r = -1 ∧ ∀ (i : Nat) (h : i + 1 < K.length), bestO l q (K[i]'(by omega)) K[i + 1] = none) ∨ ∃ (i m : Nat) (h : i + 1 < K.length), r = (m : Int) ∧ bestO l q (K[i]'(by omega)) K[i + 1] = some m) := by
  refine loop_ok (fun s : Int × Int => ∃ k : Nat, s.2 = (k : Int) ∧ 1 ≤ k ∧ ((s.1 = -1 ∧ ∀ (i : Nat) (h : i + 1 < K.length), i + 1 < k → bestO l q (K[i]'(by omega)) K[i + 1] = none) ∨ ∃ (i m : Nat) (h : i + 1 < K.length), s.1 = (m : Int) ∧ bestO l q (K[i]'(by omega)) K[i + 1] = some m)) (fun s => ((K.length : Int) - s.2).toNat) ?_ ⟨1, rfl, by omega, .inl ⟨rfl, fun i h h2 => by omega⟩⟩
  rintro ⟨a, k'⟩ ⟨k, rfl, k1, hk⟩
  simp only at hk
  unfold fleetref2_PlainOf_o0_x3 fleetref2_PlainOf_o0_x4
  have hlen : ((K.map Int.ofNat).length : Int) = K.length := by simp
  rw [hlen]
  by_cases hc : k < K.length
  · have hc' : (k : Int) < K.length := by omega
    simp only [hc', decide_true, cond_true, Option.bind_some]
    rcases hk with ⟨rfl, hk⟩ | ⟨i, m, h, rfl, hm⟩
    · have hneg : (-1 : Int) < 0 := by decide
      have w1 : IntKind.wrap .i64 ((k : Int) - 1) = ((k - 1 : Nat) : Int) := by rw [wrap64 (by omega) (by omega)]; omega
      have w2 : IntKind.wrap .i64 ((k : Int) + 1) = ((k + 1 : Nat) : Int) := by rw [wrap64 (by omega) (by omega)]; omega
      have hlt : K[k - 1]'(by omega) < K[k] := List.pairwise_iff_getElem.1 hs (k - 1) k (by omega) hc (by omega)
      have h1 := hin _ (List.getElem_mem (show k - 1 < K.length by omega))
      have h2 := hin _ (List.getElem_mem hc)
      have w3 : IntKind.wrap .i64 (((K[k - 1]'(by omega) : Nat) : Int) + 1) = ((K[k - 1]'(by omega) + 1 : Nat) : Int) := by rw [wrap64 (by omega) (by omega)]; omega
      have hloop := ref_best hg (by omega) h1 h2 (K[k] - (K[k - 1]'(by omega) + 1)) (K[k - 1]'(by omega) + 1) (api_Fraction.mk (q * q) 1, -1) (by omega) (sq_R hq).2
      simp only [hneg, decide_true, cond_true, w1, w2, at_mapN (show k - 1 < K.length by omega), at_mapN hc, Option.bind_some, w3, (sq_R hq).1, hloop]
      refine .some ⟨⟨k + 1, rfl, by omega, ?_⟩, ?_⟩
      · show (bestV l q (K[k - 1]'(by omega)) K[k] = -1 ∧ _) ∨ _
        rcases bestV_rng l q hlt with e | ⟨m, e, m1, m2⟩
        · refine .inl ⟨e, fun i h h3 => ?_⟩
          by_cases hik : i + 1 = k
          · subst hik
            unfold bestO
            simp only [Nat.add_sub_cancel] at e
            rw [e]
            simp
          · exact hk i h (by omega)
        · refine .inr ⟨k - 1, m, by omega, e, ?_⟩
          have hkk : k - 1 + 1 = k := by omega
          unfold bestO
          simp only [hkk]
          rw [e, if_pos ⟨hlt, by omega⟩]
          simp
      · show ((K.length : Int) - ((k + 1 : Nat) : Int)).toNat < ((K.length : Int) - (k : Int)).toNat
        omega
    · have hneg : ¬ (m : Int) < 0 := by omega
      simp only [hneg, decide_false, cond_false]
      exact .some (.inr ⟨i, m, h, rfl, hm⟩)
  · have hc' : ¬ (k : Int) < K.length := by omega
    simp only [hc', decide_false, cond_false, Option.bind_some]
    refine .some ?_
    rcases hk with ⟨rfl, hk⟩ | h
    · exact .inl ⟨rfl, fun i h => hk i h (by omega)⟩
    · exact .inr h
theorem few_from : ∀ (K : List Nat) (lo n : Nat), K.Pairwise (· < ·) → (∀ x ∈ K, lo ≤ x ∧ x < n) → K.length ≤ n - lo
  | [], _, _, _, _ => by simp
  | x :: K, lo, n, h, hin => by
    obtain ⟨h1, h2⟩ := List.pairwise_cons.1 h
    have hx := hin x (List.mem_cons_self ..)
    have := few_from K (x + 1) n h2 fun y hy => ⟨h1 y hy, (hin y (List.mem_cons_of_mem _ hy)).2⟩
    simp only [List.length_cons]
    omega
theorem few_below {K : List Nat} {n : Nat} (hs : K.Pairwise (· < ·)) (hin : ∀ x ∈ K, x < n) : K.length ≤ n := by
  have := few_from K 0 n hs fun x hx => ⟨Nat.zero_le _, hin x hx⟩
  omega
theorem PlainOf_eq {l : List api_Fix} (hg : ∀ x ∈ l, FixV x) (hl : l.length ≤ 12) {q : Int} (hq : 0 ≤ q ∧ q ≤ 10000) : fleetref2_PlainOf_o0 l q = some ((keptL l q).map Int.ofNat) := by
  unfold fleetref2_PlainOf_o0
  by_cases h2 : l.length < 2
  · have h2' : (l.length : Int) < 2 := by omega
    simp only [h2', decide_true, cond_true]
    have hlp : ∀ (c j : Nat) (o : List Nat), j + c = l.length → o.length ≤ j → loopO (fleetref2_PlainOf_o0_x1 l) (o.map Int.ofNat, (j : Int)) = some ((o ++ List.range' j c).map Int.ofNat) := by
      intro c
      induction c with
      | zero =>
        intro j o h _
        refine loop_out ?_
        unfold fleetref2_PlainOf_o0_x1
        have : ¬ (j : Int) < l.length := by omega
        simp [this]
      | succ c ih =>
        intro j o h ho
        have hj' : (j : Int) < l.length := by omega
        have w1 : IntKind.wrap .i64 ((j : Int) + 1) = ((j + 1 : Nat) : Int) := by rw [wrap64 (by omega) (by omega)]; omega
        rw [loop_in (s' := ((o ++ [j]).map Int.ofNat, ((j + 1 : Nat) : Int)))]
        · rw [ih (j + 1) (o ++ [j]) (by omega) (by simp; omega), List.range'_succ]
          simp
        · unfold fleetref2_PlainOf_o0_x1
          simp only [hj', decide_true, cond_true, w1]
          rw [gd_true (ble_lim (by simp; omega))]
          simp
    have := hlp l.length 0 [] (by omega) (by simp)
    rw [show loopO (fleetref2_PlainOf_o0_x1 l) ([], 0) = _ from this]
    unfold keptL
    by_cases h0 : l.length = 0
    · rw [if_pos h0, h0]; rfl
    · have h1 : l.length = 1 := by omega
      rw [if_neg h0, if_pos h1, h1]; rfl
  · have h2' : ¬ (l.length : Int) < 2 := by omega
    have w1 : IntKind.wrap .i64 ((l.length : Int) - 1) = ((l.length - 1 : Nat) : Int) := by rw [wrap64 (by omega) (by omega)]; omega
    simp only [h2', decide_false, cond_false, w1]
    have hF : keptL l q = exF (bestO l q) 0 [l.length - 1] := by
      unfold keptL
      rw [if_neg (by omega), if_neg (by omega)]
    have key : Ok (loopO (fleetref2_PlainOf_o0_x2 l q) [0, ((l.length - 1 : Nat) : Int)]) (fun r => r = (keptL l q).map Int.ofNat) := by
      refine loop_ok (fun s : List Int => ∃ t : List Nat, s = (0 :: t).map Int.ofNat ∧ (0 :: t).Pairwise (· < ·) ∧ (∀ x ∈ 0 :: t, x < l.length) ∧ exF (bestO l q) 0 t = keptL l q) (fun s => (20 : Int).toNat - s.length) ?_ ⟨[l.length - 1], rfl, by simp; omega, by simp; omega, hF.symm⟩
      rintro _ ⟨t, rfl, hs, hin, he⟩
      have hlen := few_below hs hin
      unfold fleetref2_PlainOf_o0_x2
      refine (first_pair hg (by omega) hq (K := 0 :: t) (by omega) hs hin).bind fun r hr => ?_
      rcases hr with ⟨rfl, hr⟩ | ⟨i, m, hi, rfl, hm⟩
      · have hneg : (-1 : Int) < 0 := by decide
        simp only [hneg, decide_true, cond_true]
        refine .some ?_
        rw [← he, exF_done _ t 0 fun i h => hr i h]
      · have hneg : ¬ (m : Int) < 0 := by omega
        simp only [hneg, decide_false, cond_false]
        -- it is put between two that stand side by side
        have hit : i < t.length := by simp at hi; omega
        have hmr := bestO_in l q _ _ _ hm
        have hb : (0 :: t)[i + 1] = t[i] := rfl
        rw [hb] at hm hmr
        have hdec : t = t.take i ++ t[i] :: t.drop (i + 1) := by rw [List.getElem_cons_drop]; exact (List.take_append_drop i t).symm
        have hlast : (0 :: t.take i).getLast (by simp) = (0 :: t)[i]'(by omega) := by
          rw [List.getLast_eq_getElem]
          simp only [List.length_cons, List.length_take, Nat.add_sub_cancel]
          have : min i t.length = i := by omega
          simp only [this]
          cases i with
          | zero => rfl
          | succ i => simp
        have hexp := exF_ins (bestO l q) (bestO_in l q) (post := t.drop (i + 1)) hm (t.take i) 0 hlast
        rw [← hdec] at hexp
        have hM : (0 :: (t.take i ++ m :: t[i] :: t.drop (i + 1))).Pairwise (· < ·) := by
          have hs' := hs
          rw [hdec] at hs'
          have e1 : (0 :: (t.take i ++ t[i] :: t.drop (i + 1))) = (0 :: t.take i) ++ (t[i] :: t.drop (i + 1)) := rfl
          rw [e1, List.pairwise_append] at hs'
          obtain ⟨c1, c2, c3⟩ := hs'
          have e2 : (0 :: (t.take i ++ m :: t[i] :: t.drop (i + 1))) = (0 :: t.take i) ++ (m :: t[i] :: t.drop (i + 1)) := rfl
          have hle : ∀ x ∈ 0 :: t.take i, x ≤ (0 :: t)[i]'(by omega) := by
            intro x hx
            obtain ⟨j, hj, rfl⟩ := List.mem_iff_getElem.1 hx
            rw [← hlast, List.getLast_eq_getElem]
            by_cases hjl : j = (0 :: t.take i).length - 1
            · subst hjl; exact Nat.le_refl _
            · exact Nat.le_of_lt (List.pairwise_iff_getElem.1 c1 j _ hj (by simp) (by omega))
          have hgt : ∀ y ∈ t[i] :: t.drop (i + 1), t[i] ≤ y := by
            intro y hy
            rcases List.mem_cons.1 hy with rfl | hy
            · exact Nat.le_refl _
            · exact Nat.le_of_lt ((List.pairwise_cons.1 c2).1 y hy)
          rw [e2, List.pairwise_append]
          refine ⟨c1, List.pairwise_cons.2 ⟨fun y hy => Nat.lt_of_lt_of_le hmr.2 (hgt y hy), c2⟩, fun x hx y hy => ?_⟩
          rcases List.mem_cons.1 hy with rfl | hy
          · exact Nat.lt_of_le_of_lt (hle x hx) hmr.1
          · exact c3 x hx y hy
        have hMin : ∀ x ∈ 0 :: (t.take i ++ m :: t[i] :: t.drop (i + 1)), x < l.length := by
          intro x hx
          have ht : t[i] < l.length := hin _ (List.mem_cons_of_mem _ (List.getElem_mem hit))
          rcases List.mem_cons.1 hx with rfl | hx
          · exact hin 0 (List.mem_cons_self ..)
          · rcases List.mem_append.1 hx with hx | hx
            · exact hin x (List.mem_cons_of_mem _ (List.mem_of_mem_take hx))
            · rcases List.mem_cons.1 hx with rfl | hx
              · omega
              · rcases List.mem_cons.1 hx with rfl | hx
                · exact ht
                · exact hin x (List.mem_cons_of_mem _ (List.mem_of_mem_drop hx))
        have hMl := few_below hM hMin
        have hp : (0 :: (t.take i ++ m :: t[i] :: t.drop (i + 1))).Perm ((0 :: t) ++ [m]) := by
          have e3 : (0 :: t) ++ [m] = (0 :: t.take i) ++ (t[i] :: t.drop (i + 1)) ++ [m] := by
            conv => lhs; rw [hdec]
            rfl
          rw [e3]
          have e2 : (0 :: (t.take i ++ m :: t[i] :: t.drop (i + 1))) = (0 :: t.take i) ++ (m :: (t[i] :: t.drop (i + 1))) := rfl
          rw [e2, List.append_assoc]
          exact List.Perm.append_left _ (List.perm_append_singleton m _).symm
        have hsort := sort_put (K := 0 :: t) (M := 0 :: (t.take i ++ m :: t[i] :: t.drop (i + 1))) (m := m) (by omega) hM hp
        have hml := hp.length_eq
        have hml2 : ((0 :: t) ++ [m]).length = (0 :: t).length + 1 := by simp
        refine .gd (ble_lim (by rw [List.length_map]; simp only [List.length_singleton]; omega)) ?_
        rw [hsort]
        simp only [Option.bind_some]
        refine .gd (by rw [beq_iff_eq, List.length_append, List.length_map, List.length_map, hml, hml2]; rfl) (.some ⟨⟨_, rfl, hM, hMin, by rw [← hexp]; exact he⟩, ?_⟩)
        show 20 - (List.map Int.ofNat _).length < 20 - (List.map Int.ofNat _).length
        rw [List.length_map, List.length_map]
        omega
    obtain ⟨r, r1, rfl⟩ := key
    rw [r1]
    rfl
end Go.Eng

/-
The law TracksPlain.
-/
namespace Go.Eng
open Go
set_option linter.unusedVariables false
set_option linter.unusedSimpArgs false
/-! ### Tracks are in order -/
theorem checks_order {l : List api_Fix} (hp : All FB l) (hl : l.length ≤ 14) (h : place_CheckFixes l = some 0) : ∀ (i : Nat) (hi : i + 1 < l.length), 0 < fOrd l[i + 1] (l[i]'(by omega)) := by
  have key : Ok (loopO (place_CheckFixes_x1 l) 0) (fun r => match r with | .inl _ => ∀ (i : Nat) (hi : i + 1 < l.length), 0 < fOrd l[i + 1] (l[i]'(by omega)) | .inr e => e ≠ 0) := by
    refine loop_ok (fun q : Int => ∃ k : Nat, q = (k : Int) ∧ k ≤ l.length ∧ ∀ (i : Nat) (hi : i + 1 < l.length), i + 1 < k → 0 < fOrd l[i + 1] (l[i]'(by omega))) (fun q => ((l.length : Int) - q).toNat) ?_ ⟨0, rfl, by omega, fun i hi h => by omega⟩
    rintro q ⟨k, rfl, k1, k2⟩
    unfold place_CheckFixes_x1
    by_cases hk : k < l.length
    · have hk' : (k : Int) < l.length := by omega
      have hx := hp _ (List.getElem_mem hk)
      have w1 : IntKind.wrap .i64 ((k : Int) + 1) = ((k + 1 : Nat) : Int) := by rw [wrap64 (by omega) (by omega)]; omega
      obtain ⟨b, b1, -⟩ := fx2_both l[k]
      have hx3 : place_CheckFixes_x3 l k l[k] = some (if h0 : 0 < k then decide (fOrd l[k] (l[k - 1]'(by omega)) ≤ 0) else false) := by
        unfold place_CheckFixes_x3
        by_cases h0 : 0 < k
        · have h0' : (0 : Int) < k := by omega
          have w2 : IntKind.wrap .i64 ((k : Int) - 1) = ((k - 1 : Nat) : Int) := by rw [wrap64 (by omega) (by omega)]; omega
          simp only [h0', h0, decide_true, cond_true, w2, at_nat (l := l) (n := k - 1) (by omega), Option.bind_some, fbyDevice_eq, dite_true]
        · have h0' : ¬ (0 : Int) < k := by omega
          simp only [h0', h0, decide_false, cond_false, dite_false]
      simp only [hk', decide_true, cond_true, at_nat hk, Option.bind_some, Key_eq _ (show ((l[k].Device.length : Int)) ≤ 9223372036854775807 by have := hx.1; omega), b1, hx3, w1]
      refine .cond (fun _ => .some (by show (5 : Int) ≠ 0; omega)) (fun _ => .cond (fun _ => .some (by show (1 : Int) ≠ 0; omega)) (fun hb => .cond (fun _ => .some (by show (7 : Int) ≠ 0; omega)) (fun h7 => ?_)))
      refine .some ⟨⟨k + 1, rfl, by omega, fun i hi h => ?_⟩, by omega⟩
      by_cases hik : i + 1 = k
      · subst hik
        simp only [Nat.zero_lt_succ, dite_true, Nat.add_sub_cancel, decide_eq_false_iff_not] at h7
        omega
      · exact k2 i hi (by omega)
    · have hk' : ¬ (k : Int) < l.length := by omega
      simp only [hk', decide_false, cond_false]
      exact .some fun i hi => k2 i hi (by omega)
  unfold place_CheckFixes at h
  have h2000 : ¬ (2000 : Int) < l.length := by omega
  simp only [h2000, decide_false, cond_false] at h
  obtain ⟨r, r1, r2⟩ := key
  rw [r1] at h
  cases r with
  | inl _ => exact r2
  | inr e => exact absurd (Option.some.inj h) r2
theorem one_device {l : List api_Fix} (hl : l.length ≤ 14) (h : slices_ContainsFunc_api_Fix_api_Fix_f1_place_trackFault_1 l = some false) : ∀ (i : Nat) (hi : i < l.length), l[i].Device = (l[0]'(by omega)).Device := by
  have key : Ok (loopO (slices_IndexFunc_api_Fix_api_Fix_f1_place_trackFault_1_x1 l) 0) (fun r => match r with | .inl _ => ∀ (i : Nat) (hi : i < l.length), l[i].Device = (l[0]'(by omega)).Device | .inr e => 0 ≤ e) := by
    refine loop_ok (fun q : Int => ∃ k : Nat, q = (k : Int) ∧ k ≤ l.length ∧ ∀ (i : Nat) (hi : i < l.length), i < k → l[i].Device = (l[0]'(by omega)).Device) (fun q => ((l.length : Int) - q).toNat) ?_ ⟨0, rfl, by omega, fun i hi h => by omega⟩
    rintro q ⟨k, rfl, k1, k2⟩
    unfold slices_IndexFunc_api_Fix_api_Fix_f1_place_trackFault_1_x1 place_trackFault_1
    by_cases hk : k < l.length
    · have hk' : (k : Int) < l.length := by omega
      have w1 : IntKind.wrap .i64 ((k : Int) + 1) = ((k + 1 : Nat) : Int) := by rw [wrap64 (by omega) (by omega)]; omega
      have g0 : at? l 0 = some (l[0]'(by omega)) := at_nat (l := l) (n := 0) (by omega)
      simp only [hk', decide_true, cond_true, at_nat hk, g0, Option.bind_some, w1]
      refine .cond (fun _ => .some (by show (0 : Int) ≤ k; omega)) (fun hd => .some ⟨⟨k + 1, rfl, by omega, fun i hi h => ?_⟩, by omega⟩)
      by_cases hik : i = k
      · subst hik; simpa using hd
      · exact k2 i hi (by omega)
    · have hk' : ¬ (k : Int) < l.length := by omega
      simp only [hk', decide_false, cond_false]
      exact .some fun i hi => k2 i hi (by omega)
  unfold slices_ContainsFunc_api_Fix_api_Fix_f1_place_trackFault_1 slices_IndexFunc_api_Fix_api_Fix_f1_place_trackFault_1 at h
  obtain ⟨r, r1, r2⟩ := key
  rw [r1] at h
  cases r with
  | inl _ => exact r2
  | inr e =>
    have h : some (decide (0 ≤ e)) = some false := h
    have := Option.some.inj h
    have r2 : 0 ≤ e := r2
    simp [r2] at this
theorem track_order {l : List api_Fix} (hp : All FB l) (hl : l.length ≤ 14) (h : place_trackFault l = some 0) : l.Pairwise fun x y => x.At < y.At := by
  unfold place_trackFault at h
  obtain ⟨c, c1, c2⟩ := check_both hp (by omega)
  obtain ⟨b, b1, -⟩ := contains_tot hl
  rw [c1] at h
  by_cases h0 : c = 0
  · subst h0
    rw [b1] at h
    cases b with
    | true => cases h
    | false =>
      have ho := checks_order hp hl c1
      have hd := one_device hl b1
      have step : ∀ (i : Nat) (hi : i + 1 < l.length), (l[i]'(by omega)).At < l[i + 1].At := by
        intro i hi
        have := ho i hi
        have e : l[i + 1].Device = (l[i]'(by omega)).Device := (hd (i + 1) hi).trans (hd i (by omega)).symm
        unfold fOrd or0 at this
        rw [e, cmpB_self, if_pos rfl] at this
        unfold cmpI at this
        split at this
        · omega
        · split at this <;> omega
      rw [List.pairwise_iff_getElem]
      intro i j hi hj hij
      have key : ∀ k, (hk : i + 1 + k < l.length) → l[i].At < (l[i + 1 + k]'hk).At := by
        intro k
        induction k with
        | zero => intro hk; exact step i hk
        | succ k ih => intro hk; exact Int.lt_trans (ih (by omega)) (step (i + 1 + k) (by omega))
      have := key (j - i - 1) (by omega)
      simpa only [show i + 1 + (j - i - 1) = j by omega] using this
  · simp only [Option.bind_some, decide_eq_false h0] at h
    exact absurd (Option.some.inj h) h0
/-! ### Jumps -/
theorem over_eq {a b c d : Int} (ha : 0 ≤ a ∧ a < 9223372036854775808) (hb : 0 ≤ b ∧ b < 9223372036854775808) (hc : 0 ≤ c ∧ c < 9223372036854775808) (hd : 0 ≤ d ∧ d < 9223372036854775808) :
    place_wide_over (place_wide.mk (mulH a b) (IntKind.wrap .u64 (IntKind.wrap .u64 a * IntKind.wrap .u64 b))) (place_wide.mk (mulH c d) (IntKind.wrap .u64 (IntKind.wrap .u64 c * IntKind.wrap .u64 d))) = some (decide (c * d < a * b)) := by
  unfold place_wide_over place_wide_over_x1
  simp only
  rw [mulH_eq ha hb, mulH_eq hc hd, mulL_eq ha hb, mulL_eq hc hd]
  generalize a * b = P
  generalize c * d = Q
  by_cases h1 : Q / 18446744073709551616 < P / 18446744073709551616
  · have : Q < P := by omega
    simp [h1, this]
  · by_cases h2 : P / 18446744073709551616 = Q / 18446744073709551616
    · by_cases h3 : Q % 18446744073709551616 < P % 18446744073709551616
      · have : Q < P := by omega
        simp [h2, h3, this]
      · have : ¬ Q < P := by omega
        simp [h2, h3, this]
    · have : ¬ Q < P := by omega
      simp [h1, h2, this]
theorem jump_p {l : List api_Fix} (hg : ∀ x ∈ l, FixV x) {q : Int} (hq : 1 ≤ q ∧ q ≤ 10000) {g i : Nat} (hgl : g < l.length) (hi : i < l.length) (row : Int) (hlt : (fx l g).At ≤ (fx l i).At) :
    place_Jumps_x3 l q g row i (fx l i) (fx l g) = some (decide ((q * ((fx l i).At - (fx l g).At)) * (q * ((fx l i).At - (fx l g).At)) < sqV (fx l i) (fx l g) * 1000000) && decide (row < 2)) := by
  have vi := hg _ (at_fx hi).2
  have vg := hg _ (at_fx hgl).2
  have ti := vi.1
  have tg := vg.1
  obtain ⟨s1, s2, s3⟩ := sqV_wrap vi vg
  have wd : IntKind.wrap .i64 ((fx l i).At - (fx l g).At) = (fx l i).At - (fx l g).At := wrap64 (by omega) (by omega)
  have hd0 : 0 ≤ (fx l i).At - (fx l g).At := by omega
  have hw1 : 0 ≤ q * ((fx l i).At - (fx l g).At) := Int.mul_nonneg (by omega) hd0
  have hw2 : q * ((fx l i).At - (fx l g).At) ≤ 10000 * ((fx l i).At - (fx l g).At) := Int.mul_le_mul_of_nonneg_right hq.2 hd0
  have ww : IntKind.wrap .i64 (q * ((fx l i).At - (fx l g).At)) = q * ((fx l i).At - (fx l g).At) := wrap64 (by omega) (by omega)
  unfold place_Jumps_x3
  simp only [(at_fx hi).1, (at_fx hgl).1, Option.bind_some, wd, ww]
  rw [s1]
  have ho := over_eq (a := sqV (fx l i) (fx l g)) (b := 1000000) (c := q * ((fx l i).At - (fx l g).At)) (d := q * ((fx l i).At - (fx l g).At)) (by omega) (by omega) (by omega) (by omega)
  have e : ∀ (b : Bool), place_wide_over (place_wide.mk (mulH (sqV (fx l i) (fx l g)) 1000000) (IntKind.wrap .u64 (IntKind.wrap .u64 (sqV (fx l i) (fx l g)) * IntKind.wrap .u64 1000000))) (place_wide.mk (mulH (q * ((fx l i).At - (fx l g).At)) (q * ((fx l i).At - (fx l g).At))) (IntKind.wrap .u64 (IntKind.wrap .u64 (q * ((fx l i).At - (fx l g).At)) * IntKind.wrap .u64 (q * ((fx l i).At - (fx l g).At))))) = some b →
      (place_wide_over (place_wide.mk (mulH (sqV (fx l i) (fx l g)) 1000000) (IntKind.wrap .u64 (IntKind.wrap .u64 (sqV (fx l i) (fx l g)) * IntKind.wrap .u64 1000000))) (place_wide.mk (mulH (q * ((fx l i).At - (fx l g).At)) (q * ((fx l i).At - (fx l g).At))) (IntKind.wrap .u64 (IntKind.wrap .u64 (q * ((fx l i).At - (fx l g).At)) * IntKind.wrap .u64 (q * ((fx l i).At - (fx l g).At)))))).bind (fun vr3 => cond vr3 (some (decide (row < 2))) (some false)) = some (b && decide (row < 2)) := fun b hb => by
    rw [hb]; cases b <;> rfl
  exact e _ ho
theorem jump_r {l : List api_Fix} (hg : ∀ x ∈ l, FixV x) {q : Int} (hq : 1 ≤ q ∧ q ≤ 10000) {g i : Nat} (hgl : g < l.length) (hi : i < l.length) {row : Int} (hrow : 0 ≤ row ∧ row ≤ 2) (hlt : (fx l g).At ≤ (fx l i).At) :
    fleetref2_JumpsOf_x3 l q g row i (fx l i) (fx l g) = some (!(decide ((q * ((fx l i).At - (fx l g).At)) * (q * ((fx l i).At - (fx l g).At)) < sqV (fx l i) (fx l g) * 1000000) && decide (row < 2))) := by
  have vi := hg _ (at_fx hi).2
  have vg := hg _ (at_fx hgl).2
  have ti := vi.1
  have tg := vg.1
  obtain ⟨s1, s2, s3⟩ := sqV_wrap vi vg
  have wd : IntKind.wrap .i64 ((fx l i).At - (fx l g).At) = (fx l i).At - (fx l g).At := wrap64 (by omega) (by omega)
  have hd0 : 0 ≤ (fx l i).At - (fx l g).At := by omega
  unfold fleetref2_JumpsOf_x3 fleetref2_square fleetref2_spotOf
  simp only [(at_fx hi).1, (at_fx hgl).1, Option.bind_some, wd]
  have e0 : (fleetref2_minus (api_Spot.mk (fx l i).X (fx l i).Y) (api_Spot.mk (fx l g).X (fx l g).Y)) = some () := rfl
  rw [s1]
  generalize (fx l i).At - (fx l g).At = d at hd0 wd ⊢
  generalize sqV (fx l i) (fx l g) = S at s2 s3 ⊢
  have wS : IntKind.wrap .i64 (S * 1000000) = S * 1000000 := wrap64 (by omega) (by omega)
  by_cases hd : d ≤ 100000000
  · have em : imin d 100000000 = d := by unfold imin; rw [if_neg (by omega)]
    have hw1 : 0 ≤ q * d := Int.mul_nonneg (by omega) hd0
    have hw2 : q * d ≤ 10000 * d := Int.mul_le_mul_of_nonneg_right hq.2 hd0
    have ww : IntKind.wrap .i64 (q * d) = q * d := wrap64 (by omega) (by omega)
    rw [em, ww]
    generalize q * d = W at hw1 hw2 ⊢
    by_cases h8 : 100000000 ≤ W
    · have hh : 100000000 * 100000000 ≤ W * W := Int.mul_le_mul h8 h8 (by omega) (by omega)
      have : ¬ W * W < S * 1000000 := by omega
      simp [h8, this]
    · have hh : W * W ≤ 100000000 * 100000000 := Int.mul_le_mul (by omega) (by omega) (by omega) (by omega)
      have hh0 : 0 ≤ W * W := Int.mul_nonneg hw1 hw1
      have wW : IntKind.wrap .i64 (W * W) = W * W := wrap64 (by omega) (by omega)
      simp only [h8, decide_false, cond_false]
      show (cond (decide (IntKind.wrap .i64 (S * 1000000) ≤ IntKind.wrap .i64 (W * W))) (some true) (some (decide (row = 2)))) = _
      rw [wS, wW]
      by_cases hc : S * 1000000 ≤ W * W
      · have : ¬ W * W < S * 1000000 := by omega
        simp [hc, this]
      · have : W * W < S * 1000000 := by omega
        simp only [hc, this, decide_true, decide_false, cond_false, Bool.true_and]
        congr 1
        by_cases h2 : row = 2
        · subst h2; rfl
        · have : row < 2 := by omega
          simp [h2, this]
  · have em : imin d 100000000 = 100000000 := by
      unfold imin
      rw [if_pos (by omega)]
    have ww : IntKind.wrap .i64 (q * 100000000) = q * 100000000 := wrap64 (by omega) (by omega)
    have h8 : 100000000 ≤ q * 100000000 := by omega
    have hw1 : 1 * d ≤ q * d := Int.mul_le_mul_of_nonneg_right hq.1 hd0
    rw [em, ww]
    generalize q * d = W at hw1 ⊢
    have h8' : 100000000 ≤ W := by omega
    have hh : 100000000 * 100000000 ≤ W * W := Int.mul_le_mul h8' h8' (by omega) (by omega)
    have : ¬ W * W < S * 1000000 := by omega
    simp [h8, this]
theorem jumps_both {l : List api_Fix} (hg : ∀ x ∈ l, FixV x) (hl : l.length ≤ 14) (ho : l.Pairwise fun x y => x.At < y.At) {q : Int} (hq : 1 ≤ q ∧ q ≤ 10000) :
    ∃ r, loopO (place_Jumps_x1 l q) ([], 0, 0, 1) = some r ∧ loopO (fleetref2_JumpsOf_x1 l q) ([], 0, 0, 1) = some r ∧ r.length ≤ 1000 := by
  by_cases h0 : l.length = 0
  · have hc : ¬ (1 : Int) < l.length := by omega
    exact ⟨[], loop_out (by unfold place_Jumps_x1; simp [hc]), loop_out (by unfold fleetref2_JumpsOf_x1; simp [hc]), by simp⟩
  refine loop_two (fun s : List Int × Int × Int × Int => ∃ (g i : Nat), s.2.1 = (g : Int) ∧ s.2.2.2 = (i : Int) ∧ g < i ∧ g < l.length ∧ i ≤ l.length ∧ (0 ≤ s.2.2.1 ∧ s.2.2.1 ≤ 2) ∧ s.1.length ≤ i) (fun s => ((l.length : Int) - s.2.2.2).toNat) (fun r : List Int => r.length ≤ 1000) ?_ (s := (([] : List Int), (0 : Int), (0 : Int), (1 : Int))) ⟨0, 1, rfl, rfl, by omega, by omega, by omega, ⟨by simp, by simp⟩, by simp⟩
  rintro ⟨out, g', row, i'⟩ ⟨g, i, rfl, rfl, gi, gl, il, hrow, hout⟩
  simp only at hrow hout
  unfold place_Jumps_x1 fleetref2_JumpsOf_x1 place_Jumps_x2 fleetref2_JumpsOf_x2
  by_cases hi : i < l.length
  · left
    have hi' : (i : Int) < l.length := by omega
    have w1 : IntKind.wrap .i64 ((i : Int) + 1) = ((i + 1 : Nat) : Int) := by rw [wrap64 (by omega) (by omega)]; omega
    have w2 : IntKind.wrap .i64 (row + 1) = row + 1 := wrap64 (by omega) (by omega)
    have hlt : (fx l g).At ≤ (fx l i).At := by
      have := List.pairwise_iff_getElem.1 ho g i gl hi gi
      have e1 : fx l g = l[g] := by unfold fx; rw [List.getD_eq_getElem?_getD, List.getElem?_eq_getElem gl]; rfl
      have e2 : fx l i = l[i] := by unfold fx; rw [List.getD_eq_getElem?_getD, List.getElem?_eq_getElem hi]; rfl
      rw [e1, e2]; omega
    simp only [hi', decide_true, cond_true, (at_fx hi).1, (at_fx gl).1, Option.bind_some, jump_p hg hq gl hi row hlt, jump_r hg hq gl hi hrow hlt, w1, w2]
    by_cases hC : (decide ((q * ((fx l i).At - (fx l g).At)) * (q * ((fx l i).At - (fx l g).At)) < sqV (fx l i) (fx l g) * 1000000) && decide (row < 2)) = true
    · have hr2 : row < 2 := by simp only [Bool.and_eq_true, decide_eq_true_eq] at hC; exact hC.2
      rw [hC]
      simp only [Bool.not_true, cond_true, cond_false]
      rw [gd_true (ble_lim (by simp; omega))]
      exact ⟨(out ++ [(i : Int)], (g : Int), row + 1, ((i + 1 : Nat) : Int)), rfl, rfl, ⟨g, i + 1, rfl, rfl, by omega, gl, by omega, ⟨by simp only; omega, by simp only; omega⟩, by simp; omega⟩, by simp only; omega⟩
    · have hC : (decide ((q * ((fx l i).At - (fx l g).At)) * (q * ((fx l i).At - (fx l g).At)) < sqV (fx l i) (fx l g) * 1000000) && decide (row < 2)) = false := by simpa using hC
      rw [hC]
      simp only [Bool.not_false, cond_true, cond_false]
      exact ⟨(out, (i : Int), 0, ((i + 1 : Nat) : Int)), rfl, rfl, ⟨i, i + 1, rfl, rfl, by omega, hi, by omega, ⟨by simp, by simp⟩, by simp only; omega⟩, by simp only; omega⟩
  · right
    have hi' : ¬ (i : Int) < l.length := by omega
    simp only [hi', decide_false, cond_false]
    exact ⟨out, rfl, rfl, by omega⟩
theorem iequal_self {l : List Int} (hl : (l.length : Int) ≤ 9223372036854775807) : slices_Equal_int_int l l = some true := by
  unfold slices_Equal_int_int
  simp only [decide_true, Bool.not_true, cond_false]
  rw [range_loop (l := l) (fun _ _ => none) (.inl ()) hl]
  · simp only [Option.bind_some]
    have : scan (fun (_ : Nat) (_ : Int) => (none : Option (Unit ⊕ Unit))) 0 l = none := scan_none.2 fun _ _ _ => rfl
    rw [this]
    rfl
  · intro i hi
    unfold slices_Equal_int_int_x1
    have : ((i : Int) < l.length) := by omega
    simp only [this, decide_true, cond_true, at_nat hi, Option.bind_some, Bool.not_true, cond_false]
  · unfold slices_Equal_int_int_x1
    simp
theorem errs2p (a b : Int) : fleetlaw2_errs [a, b] = some (or0 a b) := by
  rw [errs_eq _ (by simp)]
  unfold or0
  by_cases ha : a = 0 <;> by_cases hb : b = 0 <;> simp [ha, hb]
theorem TracksPlain_true (L : List Int) (hL : L.length ≤ 9223372036854775807) (hI : ∀ n ∈ L, -9223372036854775808 ≤ n ∧ n ≤ 9223372036854775807) : fleetlaw2_TracksPlain L = some true := by
  refine Ok.eq ?_
  unfold fleetlaw2_TracksPlain
  have s0 : StrOk 0 (fleetmake_Stream.mk L 0) := ⟨Int.le_refl _, Int.le_refl _, hL, hI⟩
  refine (Track_ok (most := 12) ⟨by omega, by omega⟩ s0 (by omega)).bind fun ⟨s1, a0⟩ ⟨a1, a2, a3⟩ => ?_
  simp only at a1 a2 a3
  refine (Pick_ok a1 (by omega) (by simp) (by simp)).bind fun sp hsp => ?_
  refine (Pick_ok (a1.nxt (by omega)) (by omega) (by simp) (by simp)).bind fun fr hfr => ?_
  have hsp : 0 ≤ sp ∧ sp ≤ 10001 := by simp at hsp; omega
  have hfr : -1 ≤ fr ∧ fr ≤ 10001 := by simp at hfr; omega
  have hx1 : Ok (fleetlaw2_TracksPlain_x1 s1 a0) (fun r => All FB r ∧ r.length ≤ 12) := by
    unfold fleetlaw2_TracksPlain_x1 fleetlaw2_TracksPlain_x2
    refine Ok.bind (P := fun b => b = true → 0 < a0.length) ?_ fun b hb => ?_
    · refine .cond (fun hc => ?_) (fun _ => .some fun h => by cases h)
      have hc : (0 : Int) < a0.length := by simpa using hc
      exact (Flip_ok ((a1.nxt (by omega)).nxt (by omega)) (by omega) (by unfold I64; omega)).bind fun b _ => .some fun _ => by omega
    · refine .cond (fun hc => ?_) (fun _ => .some ⟨a3, by omega⟩)
      have hlen := hb hc
      have w1 : IntKind.wrap .i64 ((a0.length : Int) - 1) = ((a0.length - 1 : Nat) : Int) := by rw [wrap64 (by omega) (by omega)]; omega
      rw [w1, at_nat (show a0.length - 1 < a0.length by omega)]
      simp only [Option.bind_some]
      have hv := a3 _ (List.getElem_mem (show a0.length - 1 < a0.length by omega))
      exact .some ⟨a3.set ⟨hv.1, by simp only; omega⟩, by simp; omega⟩
  refine hx1.bind fun a ⟨b1, b2⟩ => ?_
  obtain ⟨e, e1, e2, e3⟩ := track_both b1 (by omega)
  have hj : ∃ r, place_Jumps a sp = some (r, or0 e (if 1 ≤ sp ∧ sp ≤ 10000 then 0 else 1)) ∧ r.length ≤ 1000 ∧ fleetlaw2_TracksPlain_x5 sp a (or0 e (if 1 ≤ sp ∧ sp ≤ 10000 then 0 else 1)) = some r := by
    unfold place_Jumps fleetlaw2_TracksPlain_x5
    rw [e1, Out_eq]
    by_cases h0 : e = 0
    · subst h0
      by_cases hs : 1 ≤ sp ∧ sp ≤ 10000
      · obtain ⟨r, r1, r2, r3⟩ := jumps_both (e3 rfl) (by omega) (track_order b1 (by omega) e1) hs
        have n1 : ¬ sp < 1 := by omega
        have n2 : ¬ 10000 < sp := by omega
        refine ⟨r, ?_, r3, ?_⟩
        · simp [n1, n2, r1, hs, or0]
        · unfold fleetref2_JumpsOf
          simp [hs, or0, r2]
      · have hb : (decide (sp < 1) || decide (10000 < sp)) = true := by simp; omega
        exact ⟨[], by simp [hb, hs, or0], by simp, by simp [hs, or0]⟩
    · exact ⟨[], by simp [h0, or0], by simp, by simp [h0, or0]⟩
  have hp : ∃ r, place_Plain a fr = some (r, or0 e (if 0 ≤ fr ∧ fr ≤ 10000 then 0 else 1)) ∧ r.length ≤ 1000 ∧ fleetlaw2_TracksPlain_x6 fr a (or0 e (if 0 ≤ fr ∧ fr ≤ 10000 then 0 else 1)) = some r := by
    by_cases h0 : e = 0
    · subst h0
      by_cases hs : 0 ≤ fr ∧ fr ≤ 10000
      · have h1 := Plain_eq (e3 rfl) (by omega) hs e1
        have h2 := PlainOf_eq (e3 rfl) b2 hs
        refine ⟨(keptL a fr).map Int.ofNat, ?_, ?_, ?_⟩
        · rw [h1]; simp [hs, or0]
        · have := few_below (kept_sorted (l := a) (q := fr)).1 (kept_sorted (l := a) (q := fr)).2
          simp; omega
        · unfold fleetlaw2_TracksPlain_x6
          simp [hs, or0, h2]
      · have hb : (decide (fr < 0) || decide (10000 < fr)) = true := by simp; omega
        refine ⟨[], ?_, by simp, ?_⟩
        · unfold place_Plain
          rw [e1, Out_eq]
          simp [hb, hs, or0]
        · unfold fleetlaw2_TracksPlain_x6
          simp [hs, or0]
    · refine ⟨[], ?_, by simp, ?_⟩
      · unfold place_Plain
        rw [e1]
        simp [h0, or0]
      · unfold fleetlaw2_TracksPlain_x6
        simp [h0, or0]
  obtain ⟨r1, j1, j2, j3⟩ := hj
  obtain ⟨r2, p1, p2, p3⟩ := hp
  have x3 : fleetlaw2_TracksPlain_x3 sp e = some (or0 e (if 1 ≤ sp ∧ sp ≤ 10000 then 0 else 1)) := by
    unfold fleetlaw2_TracksPlain_x3
    by_cases h1 : sp < 1
    · have : ¬ (1 ≤ sp ∧ sp ≤ 10000) := by omega
      simp [h1, when_eq, errs2p, this]
    · by_cases h2 : 10000 < sp
      · have : ¬ (1 ≤ sp ∧ sp ≤ 10000) := by omega
        simp [h1, h2, when_eq, errs2p, this]
      · have : 1 ≤ sp ∧ sp ≤ 10000 := by omega
        simp [h1, h2, when_eq, errs2p, this]
  have x4 : fleetlaw2_TracksPlain_x4 fr e = some (or0 e (if 0 ≤ fr ∧ fr ≤ 10000 then 0 else 1)) := by
    unfold fleetlaw2_TracksPlain_x4
    by_cases h1 : fr < 0
    · have : ¬ (0 ≤ fr ∧ fr ≤ 10000) := by omega
      simp [h1, when_eq, errs2p, this]
    · by_cases h2 : 10000 < fr
      · have : ¬ (0 ≤ fr ∧ fr ≤ 10000) := by omega
        simp [h1, h2, when_eq, errs2p, this]
      · have : 0 ≤ fr ∧ fr ≤ 10000 := by omega
        simp [h1, h2, when_eq, errs2p, this]
  have hx7 : fleetlaw2_TracksPlain_x7 r1 (or0 e (if 1 ≤ sp ∧ sp ≤ 10000 then 0 else 1)) r2 (or0 e (if 0 ≤ fr ∧ fr ≤ 10000 then 0 else 1)) (or0 e (if 1 ≤ sp ∧ sp ≤ 10000 then 0 else 1)) (or0 e (if 0 ≤ fr ∧ fr ≤ 10000 then 0 else 1)) r1 r2 = some true := by
    unfold fleetlaw2_TracksPlain_x7
    simp only [decide_true, cond_true, iequal_self (show (r1.length : Int) ≤ 9223372036854775807 by omega), iequal_self (show (r2.length : Int) ≤ 9223372036854775807 by omega), placed_eq, Option.bind_some]
  simp only [j1, p1, e2, x3, x4, j3, p3, hx7, Option.bind_some]
  exact .some rfl
end Go.Eng

