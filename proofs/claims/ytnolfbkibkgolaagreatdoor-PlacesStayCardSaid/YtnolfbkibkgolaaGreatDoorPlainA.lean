/-
What the plain functions of the law PlacesStay answer, part 1.
-/
import Derived.Test.YtnolfbkibkgolaaGreatDoorGenF
import Derived.KernelRfl
import Derived.Test.YtnolfbkibkgolaaGreatDoorEngV
/-
Plain functions: what they answer, in total. Loops by an invariant and a measure.
-/
namespace Go.Eng
open Go
set_option linter.unusedVariables false
set_option linter.unusedSimpArgs false

def Ok {α : Type} (x : Option α) (P : α → Prop) : Prop := ∃ r, x = some r ∧ P r
section
variable {α β σ ρ : Type} {P Q : α → Prop} {R : β → Prop}
theorem Ok.some {r : α} (h : P r) : Ok (some r) P := ⟨r, rfl, h⟩
theorem Ok.mono {x : Option α} (h : Ok x P) (hq : ∀ r, P r → Q r) : Ok x Q := let ⟨r, h1, h2⟩ := h; ⟨r, h1, hq r h2⟩
theorem Ok.bind {x : Option α} {f : α → Option β} (h : Ok x P) (hf : ∀ r, P r → Ok (f r) R) : Ok (x.bind f) R := by
  obtain ⟨r, rfl, hr⟩ := h
  exact hf r hr
theorem Ok.cond {b : Bool} {x y : Option α} (ht : b = true → Ok x P) (hf : b = false → Ok y P) : Ok (cond b x y) P := by
  cases b
  · exact hf rfl
  · exact ht rfl
theorem Ok.gd {b : Bool} {x : Option α} (hb : b = true) (h : Ok x P) : Ok (gd b x) P := by
  subst hb; exact h
theorem Ok.eq {x : Option α} {r : α} (h : Ok x fun y => y = r) : x = Option.some r := by
  obtain ⟨y, h1, h2⟩ := h
  rw [h1, h2]
theorem Ok.of_eq {x : Option α} {r : α} (h : x = Option.some r) (hp : P r) : Ok x P := ⟨r, h, hp⟩

theorem loop_ok {f : σ → Option (σ ⊕ ρ)} {Q : ρ → Prop} (I : σ → Prop) (μ : σ → Nat)
    (step : ∀ s, I s → Ok (f s) fun x => match x with | .inl s' => I s' ∧ μ s' < μ s | .inr r => Q r) {s : σ} (h : I s) : Ok (loopO f s) Q := by
  generalize hn : μ s = n
  induction n using Nat.strongRecOn generalizing s with
  | _ n ih =>
    obtain ⟨x, h1, h2⟩ := step s h
    cases x with
    | inl s' =>
      obtain ⟨h3, h4⟩ := h2
      obtain ⟨r, h5, h6⟩ := ih (μ s') (by omega) h3 rfl
      refine ⟨r, ?_, h6⟩
      rw [loopO_eq, h1]
      exact h5
    | inr r =>
      refine ⟨r, ?_, h2⟩
      rw [loopO_eq, h1]
      rfl

theorem at_lt {l : List α} {n : Int} (h : 0 ≤ n) (h2 : n < l.length) : at? l n = Option.some (l[n.toNat]'(by omega)) := by
  unfold at?
  rw [if_pos h, List.getElem?_eq_getElem]
theorem at_nat {l : List α} {n : Nat} (h : n < l.length) : at? l (n : Int) = Option.some l[n] := by
  rw [at_lt (by omega) (by omega)]
  simp
theorem at_ok {l : List α} {n : Int} (h : 0 ≤ n) (h2 : n < l.length) : Ok (at? l n) (fun y => l[n.toNat]? = Option.some y) := by
  refine ⟨_, at_lt h h2, ?_⟩
  rw [List.getElem?_eq_getElem]
theorem at_mem {l : List α} {n : Int} (h : 0 ≤ n) (h2 : n < l.length) : Ok (at? l n) (fun y => y ∈ l) := by
  refine (at_ok h h2).mono fun y hy => List.mem_of_getElem? hy
end

/-! ### Integers of 64 bits -/
def I64 (n : Int) : Prop := -9223372036854775808 ≤ n ∧ n ≤ 9223372036854775807
theorem wrap64 {n : Int} (h : -9223372036854775808 ≤ n) (h2 : n ≤ 9223372036854775807) : IntKind.wrap .i64 n = n := by
  unfold IntKind.wrap
  simp [IntKind.min, IntKind.max, IntKind.bits, IntKind.signed]
  omega
theorem tmod_nonneg {a b : Int} (h : 0 ≤ a) : 0 ≤ a.tmod b := Int.tmod_nonneg b h
theorem tmod_lt' {a b : Int} (h : 0 < b) : a.tmod b < b := Int.tmod_lt_of_pos a h
theorem lim_eq : LIM = 137438953472 := by decide
theorem ble_lim {n : Nat} (h : n ≤ 137438953472) : Nat.ble n LIM = true := by rw [Nat.ble_eq, lim_eq]; exact h
end Go.Eng

/-
Loops over the elements of a list; keys.
-/
namespace Go.Eng
open Go
set_option linter.unusedVariables false
set_option linter.unusedSimpArgs false

/-- The first answer of the elements from number k on. -/
def scan {α ρ : Type} (g : Nat → α → Option ρ) : Nat → List α → Option ρ
  | _, [] => none
  | k, x :: xs => match g k x with
    | some r => some r
    | none => scan g (k + 1) xs

theorem drop_get {α : Type} {l : List α} {i : Nat} (h : i < l.length) : l.drop i = l[i] :: l.drop (i + 1) := List.drop_eq_getElem_cons h

/-- A loop over a list that ends at the first element with an answer. -/
theorem range_loop {α ρ : Type} {l : List α} {f : Int → Option (Int ⊕ ρ)} (g : Nat → α → Option ρ) (done : ρ) (hl : (l.length : Int) ≤ 9223372036854775807)
    (hf : ∀ (i : Nat) (h : i < l.length), f i = some (match g i l[i] with | none => .inl (IntKind.wrap .i64 (i + 1)) | some r => .inr r)) (hd : f l.length = some (.inr done)) :
    loopO f 0 = some ((scan g 0 l).getD done) := by
  have key : ∀ (n i : Nat), l.length - i = n → i ≤ l.length → loopO f i = some ((scan g i (l.drop i)).getD done) := by
    intro n
    induction n with
    | zero =>
      intro i h1 h2
      have : i = l.length := by omega
      subst this
      rw [loopO_eq, hd, List.drop_length]
      rfl
    | succ n ih =>
      intro i h1 h2
      have hi : i < l.length := by omega
      rw [loopO_eq, hf i hi, drop_get hi]
      simp only [scan]
      cases hg : g i l[i] with
      | some r => rfl
      | none =>
        simp only [Option.bind_some]
        rw [wrap64 (by omega) (by omega)]
        exact ih (i + 1) (by omega) (by omega)
  exact key l.length 0 (by omega) (by omega)

theorem scan_none {α ρ : Type} {g : Nat → α → Option ρ} : ∀ {l : List α} {k : Nat}, scan g k l = none ↔ ∀ (i : Nat) (x : α), l[i]? = some x → g (k + i) x = none
  | [], k => by simp [scan]
  | y :: l, k => by
    simp only [scan]
    cases hg : g k y with
    | some r =>
      simp only [reduceCtorEq, false_iff]
      intro h
      have := h 0 y rfl
      rw [Nat.add_zero, hg] at this
      cases this
    | none =>
      simp only
      rw [scan_none]
      constructor
      · intro h i x hi
        cases i with
        | zero => simp at hi; subst hi; exact hg
        | succ i => rw [show k + (i + 1) = k + 1 + i by omega]; exact h i x (by simpa using hi)
      · intro h i x hi
        rw [show k + 1 + i = k + (i + 1) by omega]
        exact h (i + 1) x (by simpa using hi)
/-! ### Keys -/
def keyC (c : UInt8) : Bool := (97 ≤ c.toNat && c.toNat ≤ 122) || (48 ≤ c.toNat && c.toNat ≤ 57) || c.toNat == 45 || c.toNat == 95
def keyB (s : List UInt8) : Bool := match s with
  | [] => false
  | c :: l => decide (l.length < 40) && (97 ≤ c.toNat && c.toNat ≤ 122) && (c :: l).all keyC

theorem u8_lt (c : UInt8) : c.toNat < 256 := c.toNat_lt

theorem u8_all {p : UInt8 → Bool} (h : ((List.range 256).all fun n => p (UInt8.ofNat n)) = true) (c : UInt8) : p c = true := by
  have := List.all_eq_true.1 h c.toNat (List.mem_range.2 (u8_lt c))
  simpa using this
theorem Key_x3 (c : UInt8) : z56 c = some (!keyC c) := by
  have := u8_all (p := fun c => decide (z56 c = some (!keyC c))) (by decide +kernel) c
  simpa using this
theorem Key_x2 (s : List UInt8) (hs : (s.length : Int) ≤ 9223372036854775807) : loopO (z51 s) 0 = some (cond (s.all keyC) (.inl ()) (.inr ())) := by
  rw [range_loop (l := s) (fun _ c => cond (keyC c) none (some (.inr ()))) (.inl ()) hs]
  · congr 1
    generalize 0 = k
    induction s generalizing k with
    | nil => rfl
    | cons c s ih =>
      simp only [scan, List.all_cons]
      cases keyC c with
      | true => simp only [cond_true, Bool.true_and]; exact ih (by simp at hs; omega) (k + 1)
      | false => rfl
  · intro i hi
    unfold z51
    rw [at_nat hi]
    have : ((i : Int) < s.length) := by omega
    simp only [this, decide_true, cond_true, Option.bind_some, Key_x3]
    cases keyC s[i] <;> rfl
  · unfold z51
    simp
theorem Key_eq (s : List UInt8) (hs : (s.length : Int) ≤ 9223372036854775807) : base_Key s = some (keyB s) := by
  unfold base_Key z47
  cases s with
  | nil => simp [keyB]
  | cons c l =>
    rw [Key_x2 _ hs]
    have h0 : at? (c :: l) 0 = some c := rfl
    simp only [reduceCtorEq, decide_false, cond_false, h0, Option.bind_some]
    unfold keyB
    have h40 : ((40 : Int) < ((c :: l).length : Int)) ↔ ¬ l.length < 40 := by simp; omega
    by_cases h1 : l.length < 40
    · have h1' : ¬ ((40 : Int) < ((c :: l).length : Int)) := by rw [h40]; simpa using h1
      simp only [h1', decide_false, cond_false, h1, decide_true, Bool.true_and]
      by_cases h2 : (c.toNat : Int) < 97
      · have : ¬ 97 ≤ c.toNat := by omega
        simp [h2, this]
      · by_cases h3 : (122 : Int) < c.toNat
        · have : ¬ c.toNat ≤ 122 := by omega
          simp [h2, h3, this]
        · have g1 : 97 ≤ c.toNat := by omega
          have g2 : c.toNat ≤ 122 := by omega
          simp only [h2, decide_false, cond_false, h3, Option.bind_some, g1, g2, decide_true, Bool.and_self, Bool.true_and]
          cases (c :: l).all keyC <;> rfl
    · have h1' : ((40 : Int) < ((c :: l).length : Int)) := by rw [h40]; exact h1
      simp only [h1', h1, decide_true, decide_false, cond_true, Option.bind_some, Bool.false_and]
end Go.Eng

/-
Sorting of few elements, and what is left of equal ones, for all kinds of elements.
-/
namespace Go.Eng
open Go
set_option linter.unusedVariables false
set_option linter.unusedSimpArgs false

/-- Two loops side by side, over the same states. -/
theorem loop_two {σ ρ : Type} {f g : σ → Option (σ ⊕ ρ)} (I : σ → Prop) (μ : σ → Nat) (Q : ρ → Prop)
    (step : ∀ s, I s → (∃ s', f s = some (.inl s') ∧ g s = some (.inl s') ∧ I s' ∧ μ s' < μ s) ∨ (∃ r, f s = some (.inr r) ∧ g s = some (.inr r) ∧ Q r)) {s : σ} (h : I s) :
    ∃ r, loopO f s = some r ∧ loopO g s = some r ∧ Q r := by
  generalize hn : μ s = n
  induction n using Nat.strongRecOn generalizing s with
  | _ n ih =>
    rcases step s h with ⟨s', h1, h2, h3, h4⟩ | ⟨r, h1, h2, h3⟩
    · obtain ⟨r, g1, g2, g3⟩ := ih (μ s') (by omega) h3 rfl
      refine ⟨r, ?_, ?_, g3⟩
      · rw [loopO_eq, h1]; exact g1
      · rw [loopO_eq, h2]; exact g2
    · refine ⟨r, ?_, ?_, h3⟩
      · rw [loopO_eq, h1]; rfl
      · rw [loopO_eq, h2]; rfl

theorem loop_in {σ ρ : Type} {f : σ → Option (σ ⊕ ρ)} {s s' : σ} (h : f s = some (.inl s')) : loopO f s = loopO f s' := by rw [loopO_eq, h]; rfl
theorem loop_out {σ ρ : Type} {f : σ → Option (σ ⊕ ρ)} {s : σ} {r : ρ} (h : f s = some (.inr r)) : loopO f s = some r := by rw [loopO_eq, h]; rfl

section
variable {α : Type}
/-! ### Insertion, as the code has it -/
noncomputable def gI3 (cmp : α → α → Option Int) (qa : Int) (vl3 : List α) (vj1 : Int) : Option (Bool) :=
  cond (decide (qa < vj1))
    ((at? vl3 vj1).bind fun vy15 =>
    (at? vl3 (IntKind.wrap .i64 (vj1 - 1))).bind fun vy16 =>
    (cmp vy15 vy16).bind fun vr1_3 =>
    some (decide (vr1_3 < 0)))
    (some false)
noncomputable def gI2 (cmp : α → α → Option Int) (qa : Int) : (List α) × Int → Option (((List α) × Int) ⊕ ((List α)))
  | (vl3, vj1) =>
  (gI3 cmp qa vl3 vj1).bind fun vx4_1 =>
  cond (vx4_1)
    ((at? vl3 (IntKind.wrap .i64 (vj1 - 1))).bind fun vy17 =>
    (at? vl3 vj1).bind fun vy18 =>
    (at? (vl3.set vj1.toNat vy17) (IntKind.wrap .i64 (vj1 - 1))).bind fun vy19 =>
    some (.inl ((vl3.set vj1.toNat vy17).set (IntKind.wrap .i64 (vj1 - 1)).toNat vy18, IntKind.wrap .i64 (vj1 - 1))))
    (some (.inr vl3))
noncomputable def gI1 (cmp : α → α → Option Int) (qa : Int) (qb : Int) : (List α) × Int → Option (((List α) × Int) ⊕ ((List α)))
  | (vl, vi) =>
  cond (decide (vi < qb))
    ((loopO (gI2 cmp qa) (vl, vi)).bind fun vl4_1 =>
    some (.inl (vl4_1, IntKind.wrap .i64 (vi + 1))))
    (some (.inr vl))
noncomputable def gI (cmp : α → α → Option Int) (qdata : List α) (qa : Int) (qb : Int) : Option ((List α)) :=
  (loopO (gI1 cmp qa qb) (qdata, IntKind.wrap .i64 (qa + 1))).bind fun vl5_1 =>
  some vl5_1
noncomputable def gS1 (cmp : α → α → Option Int) (qn : Int) : (List α) × Int × Int → Option (((List α) × Int × Int) ⊕ (((List α) × Int)))
  | (vl, va, vb) =>
  cond (decide (vb ≤ qn))
    ((gI cmp vl va vb).bind fun vl6_1 =>
    gd (vl6_1.length == vl.length) <|
    some (.inl (vl6_1, vb, IntKind.wrap .i64 (vb + 20))))
    (some (.inr (vl, va)))
noncomputable def gS3 (qn : Int) (vblockSize : Int) : Unit → Option ((Unit) ⊕ (Unit))
  | _ =>
  cond (decide ((IntKind.wrap .i64 ((2 : Int) * vblockSize)) ≤ qn))
    (none)
    (some (.inr ()))
noncomputable def gS2 (qn : Int) (vblockSize : Int) : Option ((Int) ⊕ (Unit)) :=
  cond (decide (vblockSize < qn))
    ((loopO (gS3 qn vblockSize) ()).bind fun _ =>
    cond (decide ((IntKind.wrap .i64 ((0 : Int) + vblockSize)) < qn))
      (none)
      (some (.inl (IntKind.wrap .i64 (vblockSize * 2)))))
    (some (.inr ()))
noncomputable def gS (cmp : α → α → Option Int) (qdata : List α) (qn : Int) : Option ((List α)) :=
  (loopO (gS1 cmp qn) (qdata, 0, 20)).bind fun (vl1_1, va1_1) =>
  (gI cmp vl1_1 va1_1 qn).bind fun vl6_2 =>
  gd (vl6_2.length == vl1_1.length) <|
  (loopO (gS2 qn) 20).bind fun _ =>
  some vl6_2
noncomputable def gSort (cmp : α → α → Option Int) (qx : List α) : Option ((List α)) :=
  (gS cmp qx (qx.length : Int)).bind fun vl2 =>
  gd (vl2.length == qx.length) <|
  some vl2

def All (p : α → Prop) (l : List α) : Prop := ∀ x ∈ l, p x
theorem All.nil {p : α → Prop} : All p [] := fun _ h => nomatch h
theorem All.set {p : α → Prop} {l : List α} (h : All p l) {i : Nat} {x : α} (hx : p x) : All p (l.set i x) := by
  intro y hy
  rcases List.mem_or_eq_of_mem_set hy with hy | rfl
  · exact h y hy
  · exact hx
theorem All.at {p : α → Prop} {l : List α} (h : All p l) {i : Nat} (hi : i < l.length) : p l[i] := h _ (List.getElem_mem hi)

theorem at_i {l : List α} {n : Int} (h : 0 ≤ n) (h2 : n < l.length) : ∃ y, at? l n = some y ∧ y ∈ l := ⟨_, at_lt h h2, List.getElem_mem _⟩

theorem gI2_both {p : α → Prop} {c1 c2 : α → α → Option Int} (hc : ∀ x y, p x → p y → ∃ c, c1 x y = some c ∧ c2 x y = some c) {n : Nat} (hn : n ≤ 100000) {a j : Int} {l : List α} (ha : 0 ≤ a) (hj : a ≤ j ∧ j < n) (hl : l.length = n) (hp : All p l) :
    ∃ r, loopO (gI2 c1 a) (l, j) = some r ∧ loopO (gI2 c2 a) (l, j) = some r ∧ (r.length = n ∧ All p r) := by
  refine loop_two (fun s : List α × Int => s.1.length = n ∧ All p s.1 ∧ a ≤ s.2 ∧ s.2 < n) (fun s => s.2.toNat) _ ?_ ⟨hl, hp, hj.1, hj.2⟩
  rintro ⟨l, j⟩ ⟨h1, h2, h3, h4⟩
  simp only at h1 h2 h3 h4
  unfold gI2 gI3
  by_cases hc' : a < j
  · have w1 : IntKind.wrap .i64 (j - 1) = j - 1 := wrap64 (by omega) (by omega)
    obtain ⟨y, y1, y2⟩ := at_i (l := l) (n := j) (by omega) (by omega)
    obtain ⟨z, z1, z2⟩ := at_i (l := l) (n := j - 1) (by omega) (by omega)
    obtain ⟨u, u1, u2⟩ := at_i (l := l.set j.toNat z) (n := j - 1) (by omega) (by simp; omega)
    obtain ⟨c, e1, e2⟩ := hc y z (h2 y y2) (h2 z z2)
    simp only [hc', decide_true, cond_true, w1, y1, z1, u1, Option.bind_some, e1, e2]
    cases decide (c < 0) with
    | true =>
      left
      exact ⟨((l.set j.toNat z).set (j - 1).toNat y, j - 1), rfl, rfl, ⟨by simp [h1], (h2.set (h2 z z2)).set (h2 y y2), by simp only; omega, by simp only; omega⟩, by simp only; omega⟩
    | false =>
      right
      exact ⟨l, rfl, rfl, h1, h2⟩
  · right
    simp only [hc', decide_false, cond_false, Option.bind_some]
    exact ⟨l, rfl, rfl, h1, h2⟩

theorem gI_both {p : α → Prop} {c1 c2 : α → α → Option Int} (hc : ∀ x y, p x → p y → ∃ c, c1 x y = some c ∧ c2 x y = some c) {n : Nat} (hn : n ≤ 100000) {l : List α} (hl : l.length = n) (hp : All p l) :
    ∃ r, gI c1 l 0 n = some r ∧ gI c2 l 0 n = some r ∧ (r.length = n ∧ All p r) := by
  have w : IntKind.wrap .i64 ((0 : Int) + 1) = 1 := by decide
  obtain ⟨r, e1, e2, e3⟩ := loop_two (f := gI1 c1 0 n) (g := gI1 c2 0 n) (fun s : List α × Int => s.1.length = n ∧ All p s.1 ∧ 1 ≤ s.2 ∧ s.2 ≤ (n : Int) + 1) (fun s => ((n : Int) + 1 - s.2).toNat) (fun r => r.length = n ∧ All p r) (by
    rintro ⟨l, i⟩ ⟨h1, h2, h3, h4⟩
    simp only at h1 h2 h3 h4
    unfold gI1
    by_cases hi : i < (n : Int)
    · left
      obtain ⟨r, e1, e2, e3, e4⟩ := gI2_both hc hn (a := 0) (j := i) (by omega) (by omega) h1 h2
      simp only [hi, decide_true, cond_true, e1, e2, Option.bind_some]
      rw [wrap64 (n := i + 1) (by omega) (by omega)]
      exact ⟨_, rfl, rfl, ⟨e3, e4, by simp only; omega, by simp only; omega⟩, by simp only; omega⟩
    · right
      simp only [hi, decide_false, cond_false]
      exact ⟨l, rfl, rfl, h1, h2⟩) (s := (l, 1)) ⟨hl, hp, by simp, by simp only; omega⟩
  unfold gI
  rw [w, e1, e2]
  exact ⟨r, rfl, rfl, e3⟩

theorem gSort_both {p : α → Prop} {c1 c2 : α → α → Option Int} (hc : ∀ x y, p x → p y → ∃ c, c1 x y = some c ∧ c2 x y = some c) {l : List α} (hl : l.length < 20) (hp : All p l) :
    ∃ r, gSort c1 l = some r ∧ gSort c2 l = some r ∧ (r.length = l.length ∧ All p r) := by
  obtain ⟨r, e1, e2, e3, e4⟩ := gI_both hc (n := l.length) (by omega) rfl hp
  have h20 : ¬ (20 : Int) ≤ (l.length : Int) := by omega
  have h20' : ¬ (20 : Int) < (l.length : Int) := by omega
  have s1 : ∀ c : α → α → Option Int, loopO (gS1 c l.length) (l, 0, 20) = some (l, 0) := by
    intro c
    rw [loopO_eq]
    unfold gS1
    simp only [h20, decide_false, cond_false, Option.bind_some]
  have s2 : loopO (gS2 l.length) 20 = some () := by
    rw [loopO_eq]
    unfold gS2
    simp only [h20', decide_false, cond_false, Option.bind_some]
  have hb : (r.length == l.length) = true := by simp [e3]
  refine ⟨r, ?_, ?_, e3, e4⟩
  · unfold gSort gS
    rw [s1]
    simp only [Option.bind_some, e1, gd_true hb, s2]
  · unfold gSort gS
    rw [s1]
    simp only [Option.bind_some, e2, gd_true hb, s2]

/-! ### Equal ones, as the code has it -/
noncomputable def gC3 (t : α → α → Option Bool) (qx : List α) (vx : Int) (vl4 : List α) (vx6 : Int) (vx7 : Int) : Option (((List α) × Int)) :=
  gd (decide (0 ≤ vx) && decide (0 ≤ vx7) && decide (vx7 < (qx.length : Int) - vx)) <|
  (at? vl4 (vx + vx7)).bind fun vy13 =>
  gd (decide (0 ≤ vx) && decide (0 ≤ (IntKind.wrap .i64 (vx7 - 1))) && decide ((IntKind.wrap .i64 (vx7 - 1)) < (qx.length : Int) - vx)) <|
  (at? vl4 (vx + (IntKind.wrap .i64 (vx7 - 1)))).bind fun vy14 =>
  (t vy13 vy14).bind fun vr5 =>
  cond (!vr5)
    ((at? vl4 vx6).bind fun vy15 =>
    some (vl4.set vx6.toNat vy13, IntKind.wrap .i64 (vx6 + 1)))
    (some (vl4, vx6))
noncomputable def gC2 (t : α → α → Option Bool) (qx : List α) (vx : Int) : (List α) × Int × Int → Option (((List α) × Int × Int) ⊕ (((List α) × Int)))
  | (vl4, vx6, vx7) =>
  cond (decide (vx7 < (((qx.length : Int).toNat - vx.toNat : Nat) : Int)))
    ((gC3 t qx vx vl4 vx6 vx7).bind fun (vl6_1, vx9_1) =>
    some (.inl (vl6_1, vx9_1, IntKind.wrap .i64 (vx7 + 1))))
    (some (.inr (vl4, vx6)))
noncomputable def gC1 (t : α → α → Option Bool) (z : α) (qx : List α) (vx : Int) : Option ((Int) ⊕ (Unit ⊕ (List α))) :=
  cond (decide (vx < (qx.length : Int)))
    ((at? qx vx).bind fun vy8 =>
    (at? qx (IntKind.wrap .i64 (vx - 1))).bind fun vy9 =>
    (t vy8 vy9).bind fun vr3 =>
    cond (vr3)
      (gd (decide (0 ≤ vx) && decide (vx ≤ (qx.length : Int)) && decide ((qx.length : Int) ≤ (qx.length : Int))) <|
      (loopO (gC2 t qx vx) (qx, vx, 1)).bind fun (vl7_1, vx10_1) =>
      gd (decide (0 ≤ vx10_1) && decide (vx10_1 ≤ (vl7_1.length : Int)) && decide ((vl7_1.length : Int) ≤ (vl7_1.length : Int))) <|
      gd (decide (0 ≤ vx10_1) && decide (vx10_1 ≤ ((vl7_1.take vx10_1.toNat ++ (List.replicate ((vl7_1.length : Int).toNat - vx10_1.toNat) z ++ vl7_1.drop (vx10_1.toNat + ((vl7_1.length : Int).toNat - vx10_1.toNat)))).length : Int))) <|
      some (.inr (.inr ((vl7_1.take vx10_1.toNat ++ (List.replicate ((vl7_1.length : Int).toNat - vx10_1.toNat) z ++ vl7_1.drop (vx10_1.toNat + ((vl7_1.length : Int).toNat - vx10_1.toNat)))).take vx10_1.toNat))))
      (some (.inl (IntKind.wrap .i64 (vx + 1)))))
    (some (.inr (.inl ())))
noncomputable def gCom (t : α → α → Option Bool) (z : α) (qx : List α) : Option ((List α)) :=
  cond (decide ((qx.length : Int) < 2))
    (some qx)
    ((loopO (gC1 t z qx) 1).bind fun x => match x with
      | .inl _ =>
        some qx
      | .inr vx11_1 =>
        some vx11_1)

theorem take_part {l m : List α} {k : Nat} (h : k ≤ l.length) : (l.take k ++ m).take k = l.take k := by
  rw [List.take_append_of_le_length (by simp; omega), List.take_take]
  congr 1
  omega
theorem gCom_ok {p : α → Prop} {t : α → α → Option Bool} (ht : ∀ x y, p x → p y → ∃ b, t x y = some b) {z : α} {l : List α} (hl : l.length ≤ 100000) (hp : All p l) : Ok (gCom t z l) (fun r => r.length ≤ l.length ∧ All p r) := by
  unfold gCom
  refine .cond (fun _ => .some ⟨Nat.le_refl _, hp⟩) (fun hc => ?_)
  have hl2 : (2 : Int) ≤ l.length := by simpa using hc
  refine Ok.bind (P := fun x => match x with | .inl _ => True | .inr r => r.length ≤ l.length ∧ All p r) ?_ (fun x hx => ?_)
  · refine loop_ok (fun k : Int => 1 ≤ k ∧ k ≤ l.length) (fun k => ((l.length : Int) - k).toNat) ?_ ⟨by omega, by omega⟩
    rintro k ⟨k1, k2⟩
    unfold gC1
    refine .cond (fun hk => ?_) (fun _ => .some trivial)
    have hk : k < l.length := by simpa using hk
    have w1 : IntKind.wrap .i64 (k - 1) = k - 1 := wrap64 (by omega) (by omega)
    rw [w1]
    obtain ⟨y, y1, y2⟩ := at_i (l := l) (n := k) (by omega) (by omega)
    obtain ⟨x, x1, x2⟩ := at_i (l := l) (n := k - 1) (by omega) (by omega)
    obtain ⟨b, hb⟩ := ht y x (hp y y2) (hp x x2)
    simp only [y1, x1, hb, Option.bind_some]
    cases b with
    | false =>
      simp only [cond_false]
      rw [wrap64 (n := k + 1) (by omega) (by omega)]
      exact .some ⟨⟨by omega, by omega⟩, by omega⟩
    | true =>
      simp only [cond_true]
      refine .gd (by simp; omega) ?_
      refine Ok.bind (P := fun q : List α × Int => q.1.length = l.length ∧ All p q.1 ∧ 0 ≤ q.2 ∧ q.2 ≤ l.length) ?_ (fun ⟨l7, k9⟩ ⟨q1, q2, q3, q4⟩ => ?_)
      · have hkn : (((l.length : Int).toNat - k.toNat : Nat) : Int) = l.length - k := by omega
        refine loop_ok (fun q : List α × Int × Int => q.1.length = l.length ∧ All p q.1 ∧ (k ≤ q.2.1 ∧ q.2.1 ≤ k + q.2.2 - 1) ∧ 1 ≤ q.2.2 ∧ q.2.2 ≤ l.length - k) (fun q => ((l.length : Int) - q.2.2).toNat) ?_ ⟨rfl, hp, ⟨by simp only; omega, by simp only; omega⟩, by simp only; omega, by simp only; omega⟩
        rintro ⟨m, i, j⟩ ⟨m1, m2, ⟨i1, i2⟩, j1, j2⟩
        simp only at m1 m2 i1 i2 j1 j2
        unfold gC2
        rw [hkn]
        refine .cond (fun hj => ?_) (fun _ => .some ⟨m1, m2, by simp only; omega, by simp only; omega⟩)
        have hj : j < l.length - k := by simpa using hj
        have w2 : IntKind.wrap .i64 (j - 1) = j - 1 := wrap64 (by omega) (by omega)
        refine Ok.bind (P := fun q : List α × Int => q.1.length = l.length ∧ All p q.1 ∧ k ≤ q.2 ∧ q.2 ≤ k + j) ?_ (fun ⟨m', i'⟩ ⟨g1, g2, g3, g4⟩ => ?_)
        · unfold gC3
          rw [w2]
          refine .gd (by simp; omega) ?_
          obtain ⟨y, y1, y2⟩ := at_i (l := m) (n := k + j) (by omega) (by omega)
          obtain ⟨x, x1, x2⟩ := at_i (l := m) (n := k + (j - 1)) (by omega) (by omega)
          obtain ⟨u, u1, u2⟩ := at_i (l := m) (n := i) (by omega) (by omega)
          obtain ⟨b, hb⟩ := ht y x (m2 y y2) (m2 x x2)
          rw [y1]
          simp only [Option.bind_some]
          refine .gd (by simp; omega) ?_
          rw [x1]
          simp only [Option.bind_some, hb, u1]
          rw [wrap64 (n := i + 1) (by omega) (by omega)]
          cases b with
          | true => exact .some ⟨m1, m2, i1, by simp only; omega⟩
          | false => exact .some ⟨by simp [m1], m2.set (m2 y y2), by simp only; omega, by simp only; omega⟩
        · simp only at g1 g2 g3 g4
          rw [wrap64 (n := j + 1) (by omega) (by omega)]
          exact .some ⟨⟨g1, g2, ⟨by simp only; omega, by simp only; omega⟩, by simp only; omega, by simp only; omega⟩, by simp only; omega⟩
      · simp only at q1 q2 q3 q4
        refine .gd (by simp; omega) (.gd ?_ ?_)
        · simp only [Bool.and_eq_true, decide_eq_true_eq]
          refine ⟨q3, ?_⟩
          simp only [List.length_append, List.length_take, List.length_replicate, List.length_drop]
          omega
        · rw [take_part (by omega)]
          refine .some ⟨?_, fun x hx => q2 x (List.mem_of_mem_take hx)⟩
          simp only [List.length_take]; omega
  · cases x with
    | inl _ => exact .some ⟨Nat.le_refl _, hp⟩
    | inr r => exact .some hx

/-- A loop over all elements of a list that only gathers. -/
theorem gather_loop {τ σ ρ : Type} {l : List α} {f : τ → Option (τ ⊕ ρ)} (e : σ → Int → τ) (h : σ → α → σ) (fin : σ → ρ) (I : Nat → σ → Prop) {s0 : σ} (hl : (l.length : Int) ≤ 9223372036854775807)
    (hf : ∀ (i : Nat) (hi : i < l.length) (s : σ), I i s → f (e s i) = some (.inl (e (h s l[i]) (IntKind.wrap .i64 (i + 1)))) ∧ I (i + 1) (h s l[i])) (hd : ∀ s, I l.length s → f (e s l.length) = some (.inr (fin s))) (h0 : I 0 s0) :
    loopO f (e s0 0) = some (fin (l.foldl h s0)) ∧ I l.length (l.foldl h s0) := by
  have key : ∀ (n i : Nat) (s : σ), l.length - i = n → i ≤ l.length → I i s → loopO f (e s i) = some (fin ((l.drop i).foldl h s)) ∧ I l.length ((l.drop i).foldl h s) := by
    intro n
    induction n with
    | zero =>
      intro i s h1 h2 h3
      have : i = l.length := by omega
      subst this
      rw [List.drop_length]
      refine ⟨?_, h3⟩
      rw [loopO_eq, hd s h3]
      rfl
    | succ n ih =>
      intro i s h1 h2 h3
      have hi : i < l.length := by omega
      obtain ⟨g1, g2⟩ := hf i hi s h3
      obtain ⟨f1, f2⟩ := ih (i + 1) (h s l[i]) (by omega) (by omega) g2
      rw [drop_get hi, List.foldl_cons]
      refine ⟨?_, f2⟩
      rw [loopO_eq, g1]
      simp only [Option.bind_some]
      rw [wrap64 (by omega) (by omega)]
      exact f1
  have := key l.length 0 s0 (by omega) (by omega) h0
  simpa using this
end
end Go.Eng

/-
Small checks; the order of measurements.
-/
namespace Go.Eng
open Go
set_option linter.unusedVariables false
set_option linter.unusedSimpArgs false

theorem Out_eq (n low high : Int) : base_Out n low high = some (decide (n < low) || decide (high < n)) := by
  unfold base_Out z89
  by_cases h : n < low <;> simp [h]
theorem Moment_eq (n : Int) : z60 n = some (decide (0 ≤ n) && decide (n ≤ 345686399999)) := by
  unfold z60
  rw [Out_eq]
  simp only [Option.bind_some]
  congr 1
  rw [Bool.eq_iff_iff]
  simp
theorem in_eq (n low high : Int) : z335 n low high = some (decide (low ≤ n) && decide (n ≤ high)) := by
  unfold z335 z338
  by_cases h : low ≤ n <;> simp [h]
/-! ### Orders -/
def cmpI (a b : Int) : Int := if a < b then -1 else if b < a then 1 else 0
def or0 (a b : Int) : Int := if a = 0 then b else a
theorem cmpB_self : ∀ a : List UInt8, Lib.compareBytes a a = 0
  | [] => rfl
  | x :: a => by
    unfold Lib.compareBytes
    simp [UInt8.lt_irrefl, cmpB_self a]
theorem cmpI_anti (a b : Int) : cmpI b a = -cmpI a b := by unfold cmpI; split <;> split <;> first | omega | (split <;> omega) | rfl
theorem or0_neg (a b : Int) : or0 (-a) (-b) = -or0 a b := by unfold or0; split <;> split <;> omega
end Go.Eng

/-
Checks of measurements and series, both ways.
-/
namespace Go.Eng
open Go
set_option linter.unusedVariables false
set_option linter.unusedSimpArgs false

theorem cmpInt_eq (a b : Int) : z142 a b = some (cmpI a b) := by
  unfold z142 z160 cmpI
  by_cases h1 : a < b
  · simp [h1]
  · by_cases h2 : b < a <;> simp [h1, h2]
theorem Or_eq (l : List Int) (hl : (l.length : Int) ≤ 9223372036854775807) : z152 l = some ((l.find? fun x => !decide (x = 0)).getD 0) := by
  unfold z152
  rw [range_loop (l := l) (fun _ x => cond (!decide (x = 0)) (some (.inr x)) none) (.inl ()) hl]
  · simp only [Option.bind_some]
    generalize 0 = k
    induction l generalizing k with
    | nil => rfl
    | cons c s ih =>
      simp only [scan, List.find?_cons]
      by_cases hc : c = 0
      · simp only [hc, decide_true, Bool.not_true, cond_false]
        exact ih (by simp at hl; omega) (k + 1)
      · simp [hc]
  · intro i hi
    unfold z155
    rw [at_nat hi]
    have : ((i : Int) < l.length) := by omega
    simp only [this, decide_true, cond_true, Option.bind_some]
    cases (!decide (l[i] = 0)) <;> rfl
  · unfold z155
    simp
theorem sign_eq (n : Int) : z355 n = some (cmpI n 0) := by
  unfold z355 cmpI
  by_cases h1 : n < 0
  · simp [h1]
  · by_cases h2 : 0 < n <;> simp [h1, h2]
/-! ### Check -/
end Go.Eng

/-
Fixes: checks, orders, merging, those of a device.
-/
namespace Go.Eng
open Go
set_option linter.unusedVariables false
set_option linter.unusedSimpArgs false

def fOrd (a b : api_Fix) : Int := or0 (Lib.compareBytes a.Device b.Device) (cmpI a.At b.At)
theorem or2_eq (a b : Int) : z152 [a, b] = some (or0 a b) := by
  rw [Or_eq _ (by simp)]
  unfold or0
  by_cases ha : a = 0 <;> by_cases hb : b = 0 <;> simp [ha, hb]
theorem fbyDevice_eq (a b : api_Fix) : z492 a b = some (fOrd a b) := by
  unfold z492 z1198 z132
  simp only [Option.bind_some, cmpInt_eq, or2_eq]
  rfl
/-! ### The library's functions are those for all kinds -/
theorem sort1_eq : z927 = gSort z492 := rfl
def fixE (x y : api_Fix) : Bool := (decide (x.Device = y.Device) && (decide (x.At = y.At) && (decide (x.X = y.X) && (decide (x.Y = y.Y) && (decide (x.Error = y.Error) && true)))))
theorem com1_eq : z743 = gCom (fun x y => some (fixE x y)) (api_Fix.mk [] 0 0 0 0) := by kernel_rfl
/-! ### Checks -/
theorem isSpot_eq (s : api_Spot) : z574 s = some ((decide (-10000 ≤ s.X) && decide (s.X ≤ 10000)) && (decide (-10000 ≤ s.Y) && decide (s.Y ≤ 10000))) := by
  unfold z574 z577
  simp only [Out_eq, Option.bind_some]
  by_cases h1 : s.X < -10000 <;> by_cases h2 : 10000 < s.X <;> by_cases h3 : s.Y < -10000 <;> by_cases h4 : 10000 < s.Y <;> simp [h1, h2, h3, h4] <;> omega
theorem SpotFault_eq (s : api_Spot) : z319 s = some (cond ((decide (-10000 ≤ s.X) && decide (s.X ≤ 10000)) && (decide (-10000 ≤ s.Y) && decide (s.Y ≤ 10000))) 0 1) := by
  unfold z319 z322
  simp only [in_eq, Option.bind_some]
  cases (decide (-10000 ≤ s.X) && decide (s.X ≤ 10000)) <;> cases (decide (-10000 ≤ s.Y) && decide (s.Y ≤ 10000)) <;> rfl
/-! ### Merging -/
theorem concat_eq {a b : List api_Fix} (ha : a.length ≤ 1000) (hb : b.length ≤ 1000) : z794 [a, b] = some (a ++ b) := by
  unfold z794
  have w1 : IntKind.wrap .i64 ((0 : Int) + a.length) = a.length := by rw [wrap64 (by omega) (by omega)]; omega
  have w2 : IntKind.wrap .i64 ((a.length : Int) + b.length) = (a.length : Int) + b.length := wrap64 (by omega) (by omega)
  have n1 : ¬ (a.length : Int) < 0 := by omega
  have n2 : ¬ (a.length : Int) + b.length < 0 := by omega
  have i1 : IntKind.wrap .i64 ((0 : Int) + 1) = 1 := by decide
  have i2 : IntKind.wrap .i64 ((1 : Int) + 1) = 2 := by decide
  have t0 : at? [a, b] 0 = some a := rfl
  have t1 : at? [a, b] 1 = some b := rfl
  have c0 : (0 : Int) < (([a, b] : List (List api_Fix)).length : Int) := by simp
  have c1 : (1 : Int) < (([a, b] : List (List api_Fix)).length : Int) := by simp
  have c2 : ¬ (2 : Int) < (([a, b] : List (List api_Fix)).length : Int) := by simp
  have l1 : loopO (z797 [a, b]) (0, 0) = some ((a.length : Int) + b.length) := by
    rw [loop_in (s' := ((a.length : Int), 1)), loop_in (s' := ((a.length : Int) + b.length, 2)), loop_out (r := (a.length : Int) + b.length)]
    · unfold z797
      simp only [c2, decide_false, cond_false]
    · unfold z797
      simp only [c1, decide_true, cond_true, t1, Option.bind_some, w2, n2, decide_false, cond_false, i2]
    · unfold z797
      simp only [c0, decide_true, cond_true, t0, Option.bind_some, w1, n1, decide_false, cond_false, i1]
  have l2 : loopO (z802 [a, b]) ([], 0) = some (a ++ b) := by
    have g1 : Nat.ble (([] : List api_Fix).length + a.length) LIM = true := ble_lim (by simp; omega)
    have g2 : Nat.ble (a.length + b.length) LIM = true := ble_lim (by omega)
    rw [loop_in (s' := (a, 1)), loop_in (s' := (a ++ b, 2)), loop_out (r := a ++ b)]
    · unfold z802
      simp only [c2, decide_false, cond_false]
    · unfold z802
      simp only [c1, decide_true, cond_true, t1, Option.bind_some, gd_true g2, i2]
    · unfold z802
      simp only [c0, decide_true, cond_true, t0, Option.bind_some, gd_true g1, i1, List.nil_append]
  have g : z859 ((a.length : Int) + b.length) = some [] := by
    unfold z859 z862
    have w3 : IntKind.wrap .i64 ((0 : Int) - 0) = 0 := by decide
    have w4 : IntKind.wrap .i64 ((a.length : Int) + b.length - 0) = (a.length : Int) + b.length := by rw [wrap64 (by omega) (by omega)]; omega
    simp only [n2, decide_false, cond_false, w3, w4]
    by_cases hz : (0 : Int) < (a.length : Int) + b.length
    · have h1 : (decide (0 ≤ (a.length : Int) + b.length) && decide ((a.length : Int) + b.length ≤ 137438953472)) = true := by simp; omega
      simp only [hz, decide_true, cond_true, gd_true h1]
      rw [gd_true (by simp; omega)]
      simp
    · simp [hz]
  rw [l1]
  simp only [Option.bind_some, g, l2]

/-! ### Those of a device -/
def ofD (d : List UInt8) (l : List api_Fix) : List api_Fix := l.filter fun x => decide (x.Device = d)
theorem of_go {l : List api_Fix} (d : List UInt8) (hl : l.length ≤ 100000) : loopO (z432 l d) ([], 0) = some (ofD d l) := by
  have := (gather_loop (l := l) (f := z432 l d) (fun (s : List api_Fix) i => (s, i)) (fun s x => cond (decide (x.Device = d)) (s ++ [x]) s) id (fun i s => s.length ≤ i) (s0 := []) (by omega) (fun i hi s hs => by
    unfold z432 z437
    have : ((i : Int) < l.length) := by omega
    simp only [this, decide_true, cond_true, at_nat hi, Option.bind_some]
    cases decide (l[i].Device = d) with
    | true =>
      simp only [cond_true]
      rw [gd_true (ble_lim (by simp; omega))]
      exact ⟨rfl, by simp; omega⟩
    | false => exact ⟨rfl, by simp only [cond_false]; omega⟩) (fun s _ => by unfold z432; simp) (by simp)).1
  rw [this]
  have hf : ∀ (l s : List api_Fix), l.foldl (fun s x => cond (decide (x.Device = d)) (s ++ [x]) s) s = s ++ ofD d l := by
    intro l
    induction l with
    | nil => intro s; simp [ofD]
    | cons x l ih =>
      intro s
      rw [List.foldl_cons, ih]
      unfold ofD
      rw [List.filter_cons]
      cases decide (x.Device = d) <;> simp
  rw [hf]
  rfl
theorem of_both {l : List api_Fix} (d : List UInt8) (hd : (d.length : Int) ≤ 1000) (hl : l.length ≤ 1000) {e : Int} (he : z389 l = some e) :
    place_Of l d = some (cond (decide (or0 e (cond (keyB d) 0 5) = 0)) (ofD d l) [], or0 e (cond (keyB d) 0 5)) := by
  unfold place_Of
  rw [he, Key_eq _ (by omega), of_go d (by omega)]
  unfold or0
  by_cases h0 : e = 0
  · cases keyB d <;> simp [h0]
  · simp [h0]

theorem fequal_self {l : List api_Fix} (hl : (l.length : Int) ≤ 9223372036854775807) : z835 l = some true := by
  unfold z835
  simp only [decide_true, Bool.not_true, cond_false]
  rw [range_loop (l := l) (fun _ _ => none) (.inl ()) hl]
  · simp only [Option.bind_some]
    have : scan (fun (_ : Nat) (_ : api_Fix) => (none : Option (Unit ⊕ Unit))) 0 l = none := scan_none.2 fun _ _ _ => rfl
    rw [this]
    rfl
  · intro i hi
    unfold z838
    have : ((i : Int) < l.length) := by omega
    simp only [this, decide_true, cond_true, at_nat hi, Option.bind_some, Bool.and_self, Bool.not_true, cond_false]
  · unfold z838
    simp
end Go.Eng

/-
Plane geometry in whole numbers: parity and turns of a fence around a spot.
-/
namespace Go.Eng.Geo
/-- twice the area of the triangle a b s -/
def sd (ax ay bx b_y sx sy : Int) : Int := (bx - ax) * (sy - ay) - (b_y - ay) * (sx - ax)
def onb (ax ay bx b_y sx sy : Int) : Prop := sd ax ay bx b_y sx sy = 0 ∧ min ax bx ≤ sx ∧ sx ≤ max ax bx ∧ min ay b_y ≤ sy ∧ sy ≤ max ay b_y
def meetsP (ax ay bx b_y cx cy dx dy : Int) : Prop :=
  onb ax ay bx b_y cx cy ∨ onb ax ay bx b_y dx dy ∨ onb cx cy dx dy ax ay ∨ onb cx cy dx dy bx b_y ∨
  (sd ax ay bx b_y cx cy * sd ax ay bx b_y dx dy < 0 ∧ sd cx cy dx dy ax ay * sd cx cy dx dy bx b_y < 0)

theorem cpos {k x : Int} (hk : 0 < k) (h : 0 < k * x) : 0 < x := by
  by_cases h0 : 0 < x
  · exact h0
  · have := Int.mul_nonpos_of_nonneg_of_nonpos (show 0 ≤ k by omega) (show x ≤ 0 by omega); omega
theorem cnn {k x : Int} (hk : 0 < k) (h : 0 ≤ k * x) : 0 ≤ x := by
  by_cases h0 : 0 ≤ x
  · exact h0
  · have := Int.mul_neg_of_pos_of_neg hk (show x < 0 by omega); omega
theorem pp {a b : Int} (h1 : 0 < a) (h2 : 0 < b) : 0 < a * b := Int.mul_pos h1 h2
theorem pn {a b : Int} (h1 : 0 < a) (h2 : b < 0) : a * b < 0 := Int.mul_neg_of_pos_of_neg h1 h2
theorem np {a b : Int} (h1 : a < 0) (h2 : 0 < b) : a * b < 0 := Int.mul_neg_of_neg_of_pos h1 h2
theorem nn {a b : Int} (h1 : a < 0) (h2 : b < 0) : 0 < a * b := Int.mul_pos_of_neg_of_neg h1 h2
theorem PP {a b : Int} (h1 : 0 ≤ a) (h2 : 0 ≤ b) : 0 ≤ a * b := Int.mul_nonneg h1 h2
theorem PN {a b : Int} (h1 : 0 ≤ a) (h2 : b ≤ 0) : a * b ≤ 0 := Int.mul_nonpos_of_nonneg_of_nonpos h1 h2
theorem NP {a b : Int} (h1 : a ≤ 0) (h2 : 0 ≤ b) : a * b ≤ 0 := Int.mul_nonpos_of_nonpos_of_nonneg h1 h2
theorem NN {a b : Int} (h1 : a ≤ 0) (h2 : b ≤ 0) : 0 ≤ a * b := Int.mul_nonneg_of_nonpos_of_nonpos h1 h2

/-- which of two ways is told first does not matter -/
theorem meetsP_comm {ax ay bx b_y sx sy tx ty : Int} (h : meetsP ax ay bx b_y sx sy tx ty) : meetsP sx sy tx ty ax ay bx b_y := by
  rcases h with h | h | h | h | h
  · exact .inr (.inr (.inl h))
  · exact .inr (.inr (.inr (.inl h)))
  · exact .inl h
  · exact .inr (.inl h)
  · exact .inr (.inr (.inr (.inr ⟨h.2, h.1⟩)))

/-- the part of the plane to the right of the way that rises from s to t -/
def reg (sx sy tx ty cx cy : Int) : Prop := sy < cy ∧ cy ≤ ty ∧ sd sx sy tx ty cx cy < 0
/-- the edge from a to b (a not the higher one) goes over the height of s, to its right -/
def hitU (ax ay bx b_y sx sy : Int) : Prop := ay ≤ sy ∧ sy < b_y ∧ 0 < sd ax ay bx b_y sx sy

end Go.Eng.Geo

/-
Plane geometry in whole numbers: parity and turns of a fence around a spot.
-/
namespace Go.Eng.Geo
theorem zero_or {a b : Int} (h : a * b = 0) : a = 0 ∨ b = 0 := Int.mul_eq_zero.1 h

theorem onb_refl_l (ax ay bx b_y : Int) : onb ax ay bx b_y ax ay := ⟨by unfold sd; grind, by omega⟩
theorem onb_refl_r (ax ay bx b_y : Int) : onb ax ay bx b_y bx b_y := ⟨by unfold sd; grind, by omega⟩

end Go.Eng.Geo

/-
Plane geometry in whole numbers: parity and turns of a fence around a spot.
-/
namespace Go.Eng.Geo
/-- is the number of members for which f says true odd -/
def par {α} (f : α → Bool) : List α → Bool
  | [] => false
  | a :: l => f a ^^ par f l
theorem par_map {α β} (f : β → Bool) (g : α → β) (l : List α) : par f (l.map g) = par (fun x => f (g x)) l := by
  induction l with
  | nil => rfl
  | cons a l ih => simp [par, ih]
/-- the edges of corners from one to the next, and to z at the end -/
def path {α} (z : α) : List α → List (α × α)
  | [] => []
  | [a] => [(a, z)]
  | a :: b :: l => (a, b) :: path z (b :: l)
def ring {α} : List α → List (α × α)
  | [] => []
  | a :: l => path a (a :: l)
theorem path_map {α β} (g : α → β) (z : α) (l : List α) : path (g z) (l.map g) = (path z l).map fun e => (g e.1, g e.2) := by
  match l with
  | [] => rfl
  | [a] => rfl
  | a :: b :: l => simp only [List.map, path]; rw [← path_map g z (b :: l)]; rfl
theorem ring_map {α β} (g : α → β) (l : List α) : ring (l.map g) = (ring l).map fun e => (g e.1, g e.2) := by
  cases l with
  | nil => rfl
  | cons a l => exact path_map g a (a :: l)

abbrev Pt := Int × Int
instance (ax ay bx b_y sx sy : Int) : Decidable (hitU ax ay bx b_y sx sy) := by unfold hitU; infer_instance
instance (sx sy tx ty cx cy : Int) : Decidable (reg sx sy tx ty cx cy) := by unfold reg; infer_instance
def lo (e : Pt × Pt) : Pt := if e.1.2 ≤ e.2.2 then e.1 else e.2
def hi (e : Pt × Pt) : Pt := if e.1.2 ≤ e.2.2 then e.2 else e.1
/-- the edge goes over the height of s, to its right -/
def hitE (s : Pt) (e : Pt × Pt) : Bool := decide (hitU (lo e).1 (lo e).2 (hi e).1 (hi e).2 s.1 s.2)
def meetE (e f : Pt × Pt) : Prop := meetsP e.1.1 e.1.2 e.2.1 e.2.2 f.1.1 f.1.2 f.2.1 f.2.2
def onE (e : Pt × Pt) (s : Pt) : Prop := onb e.1.1 e.1.2 e.2.1 e.2.2 s.1 s.2
theorem meetE_comm {e f : Pt × Pt} (h : meetE e f) : meetE f e := meetsP_comm h
def inn (l : List Pt) (s : Pt) : Bool := par (hitE s) (ring l)

theorem cle {k a b : Int} (hk : 0 < k) (h : k * a ≤ k * b) : a ≤ b := by
  have : 0 ≤ k * (b - a) := by rw [Int.mul_sub]; omega
  have := cnn hk this; omega
theorem mle {k a b : Int} (hk : 0 < k) (h : a ≤ b) : k * a ≤ k * b := Int.mul_le_mul_of_nonneg_left h (by omega)
theorem sd_sc (k ax ay bx b_y sx sy : Int) : sd (k * ax) (k * ay) (k * bx) (k * b_y) (k * sx) (k * sy) = (k * k) * sd ax ay bx b_y sx sy := by unfold sd; grind
theorem onb_sc {k ax ay bx b_y sx sy : Int} (hk : 0 < k) (h : onb (k * ax) (k * ay) (k * bx) (k * b_y) (k * sx) (k * sy)) : onb ax ay bx b_y sx sy := by
  obtain ⟨h1, h2, h3, h4, h5⟩ := h
  rw [sd_sc] at h1
  have q : sd ax ay bx b_y sx sy = 0 := by
    rcases zero_or h1 with h | h
    · have := pp hk hk; omega
    · exact h
  refine ⟨q, ?_, ?_, ?_, ?_⟩
  · have : k * ax ≤ k * sx ∨ k * bx ≤ k * sx := by omega
    rcases this with h | h <;> have := cle hk h <;> omega
  · have : k * sx ≤ k * ax ∨ k * sx ≤ k * bx := by omega
    rcases this with h | h <;> have := cle hk h <;> omega
  · have : k * ay ≤ k * sy ∨ k * b_y ≤ k * sy := by omega
    rcases this with h | h <;> have := cle hk h <;> omega
  · have : k * sy ≤ k * ay ∨ k * sy ≤ k * b_y := by omega
    rcases this with h | h <;> have := cle hk h <;> omega
end Go.Eng.Geo

/-
Plane geometry in whole numbers: parity and turns of a fence around a spot.
-/
namespace Go.Eng.Geo
/-- the spot of the edge f at a height, times the edge's height -/
def at_ (f : Pt × Pt) (y : Int) : Pt := (((hi f).2 - (lo f).2) * (lo f).1 + ((hi f).1 - (lo f).1) * (y - (lo f).2), ((hi f).2 - (lo f).2) * y)

end Go.Eng.Geo

/-
Plane geometry in whole numbers: parity and turns of a fence around a spot.
-/
namespace Go.Eng.Geo
def chain {α} : List α → List (α × α)
  | [] => []
  | [_] => []
  | a :: b :: l => (a, b) :: chain (b :: l)
theorem chain_split {α} (u : List α) (c : α) (v : List α) : chain (u ++ c :: v) = chain (u ++ [c]) ++ chain (c :: v) := by
  match u with
  | [] => rfl
  | [a] => rfl
  | a :: b :: u =>
    show (a, b) :: chain ((b :: u) ++ c :: v) = (a, b) :: chain ((b :: u) ++ [c]) ++ chain (c :: v)
    rw [chain_split (b :: u) c v]; rfl
theorem mem_chain {α} {e : α × α} {l : List α} (h : e ∈ chain l) : ∃ u v, l = u ++ e.1 :: e.2 :: v := by
  match l with
  | [] => simp [chain] at h
  | [a] => simp [chain] at h
  | a :: b :: l =>
    simp only [chain, List.mem_cons] at h
    rcases h with rfl | h
    · exact ⟨[], l, rfl⟩
    · obtain ⟨u, v, q⟩ := mem_chain h
      exact ⟨a :: u, v, by rw [q]; rfl⟩
theorem chain_mem {α} (u : List α) (a b : α) (v : List α) : (a, b) ∈ chain (u ++ a :: b :: v) := by
  rw [chain_split]; simp [chain]
theorem snoc {α} (v : List α) : v = [] ∨ ∃ v' w, v = v' ++ [w] := by
  rcases List.eq_nil_or_concat v with h | ⟨v', w, h⟩
  · exact .inl h
  · exact .inr ⟨v', w, by rw [h, List.concat_eq_append]⟩
/-- corners of a fence: edges have nothing in common but the corner between two that are next to each other -/
structure Simple (l : List Pt) : Prop where
  nd : l.Nodup
  sep : ∀ e ∈ ring l, ∀ f ∈ ring l, e ≠ f → e.2 ≠ f.1 → f.2 ≠ e.1 → ¬ meetE e f
  adj : ∀ e ∈ ring l, ∀ f ∈ ring l, e ≠ f → e.2 = f.1 → ¬ onE e f.2 ∧ ¬ onE f e.1

theorem sq_nn (x : Int) : 0 ≤ x * x := by
  by_cases h : 0 ≤ x
  · exact PP h h
  · exact NN (by omega) (by omega)

end Go.Eng.Geo

/-
Plane geometry in whole numbers: parity and turns of a fence around a spot.
-/
namespace Go.Eng.Geo
theorem hit_up {a b p : Pt} (h : a.2 ≤ b.2) : hitE p (a, b) = decide (hitU a.1 a.2 b.1 b.2 p.1 p.2) := by
  have e1 : lo (a, b) = a := if_pos h
  have e2 : hi (a, b) = b := if_pos h
  unfold hitE; rw [e1, e2]
theorem hit_dn {a b p : Pt} (h : b.2 < a.2) : hitE p (a, b) = decide (hitU b.1 b.2 a.1 a.2 p.1 p.2) := by
  have e1 : lo (a, b) = b := if_neg (by show ¬ a.2 ≤ b.2; omega)
  have e2 : hi (a, b) = a := if_neg (by show ¬ a.2 ≤ b.2; omega)
  unfold hitE; rw [e1, e2]
end Go.Eng.Geo

/-
Plane geometry in whole numbers: parity and turns of a fence around a spot.
-/
namespace Go.Eng.Geo
theorem ring_fst {α} (l : List α) : (ring l).map Prod.fst = l := by
  have : ∀ (z : α) (l : List α), (path z l).map Prod.fst = l := by
    intro z l
    induction l with
    | nil => rfl
    | cons a l ih => cases l with
      | nil => rfl
      | cons b l => simp only [path, List.map_cons]; rw [ih]
  cases l with
  | nil => rfl
  | cons a l => exact this a (a :: l)
theorem nodup_of_map {α β} {g : α → β} {l : List α} (h : (l.map g).Nodup) : l.Nodup := by
  induction l with
  | nil => simp
  | cons a l ih =>
    simp only [List.map_cons, List.nodup_cons] at h ⊢
    exact ⟨fun hh => h.1 (List.mem_map_of_mem hh), ih h.2⟩
theorem nodup_map {α β} {g : α → β} {l : List α} (h : l.Nodup) (hg : ∀ e ∈ l, ∀ f ∈ l, e ≠ f → g e ≠ g f) : (l.map g).Nodup := by
  induction l with
  | nil => simp
  | cons a l ih =>
    simp only [List.map_cons, List.nodup_cons] at h ⊢
    refine ⟨fun hh => ?_, ih h.2 fun e he f hf => hg e (by simp [he]) f (by simp [hf])⟩
    obtain ⟨f, hf, e⟩ := List.mem_map.1 hh
    exact hg a (by simp) f (by simp [hf]) (fun e' => h.1 (e' ▸ hf)) e.symm

end Go.Eng.Geo

/-
Plane geometry in whole numbers: parity and turns of a fence around a spot.
-/
namespace Go.Eng.Geo
theorem near {ax ay bx b_y px py M : Int} (hM : 2 ≤ M) (hw : (bx - ax).natAbs < M) (hn : ¬ onb ax ay bx b_y px py) :
    ¬ meetsP (M * ax) (M * ay) (M * bx) (M * b_y) (M * px) (M * py) (M * px) (M * py + 1) := by
  have h0 : 0 < M := by omega
  have e1 : sd (M * ax) (M * ay) (M * bx) (M * b_y) (M * px) (M * py) = M * (M * sd ax ay bx b_y px py) := by unfold sd; grind
  have e2 : sd (M * ax) (M * ay) (M * bx) (M * b_y) (M * px) (M * py + 1) = M * (M * sd ax ay bx b_y px py + (bx - ax)) := by unfold sd; grind
  have e3 : sd (M * px) (M * py) (M * px) (M * py + 1) (M * ax) (M * ay) = M * (px - ax) := by unfold sd; grind
  have e4 : sd (M * px) (M * py) (M * px) (M * py + 1) (M * bx) (M * b_y) = M * (px - bx) := by unfold sd; grind
  have hle : ∀ x y : Int, M * x ≤ M * y + 1 → x ≤ y := by
    intro x y h
    by_cases q : x ≤ y
    · exact q
    · have := mle h0 (show y + 1 ≤ x by omega)
      rw [Int.mul_add] at this; omega
  have hle' : ∀ x y : Int, M * x + 1 ≤ M * y → x ≤ y := fun x y h => cle h0 (by omega)
  have hn0 : ¬ (ax = px ∧ ay = py) := fun h => hn (by rw [h.1, h.2]; exact onb_refl_l ..)
  have hn1 : ¬ (bx = px ∧ b_y = py) := fun h => hn (by rw [h.1, h.2]; exact onb_refl_r ..)
  rintro (h | h | h | h | ⟨h, h'⟩)
  · exact hn (onb_sc h0 h)
  · obtain ⟨c, b1, b2, b3, b4⟩ := h
    rw [e2] at c
    have c : M * sd ax ay bx b_y px py + (bx - ax) = 0 := by
      rcases zero_or c with q | q
      · omega
      · exact q
    have s0 : sd ax ay bx b_y px py = 0 := by
      by_cases q : 1 ≤ sd ax ay bx b_y px py
      · have := mle h0 q; omega
      · by_cases q' : sd ax ay bx b_y px py ≤ -1
        · have := mle h0 q'; omega
        · omega
    rw [s0, Int.mul_zero] at c
    have hbx : bx = ax := by omega
    refine hn ⟨s0, ?_, ?_, ?_, ?_⟩
    · have : M * ax ≤ M * px ∨ M * bx ≤ M * px := by omega
      rcases this with q | q <;> have := cle h0 q <;> omega
    · have : M * px ≤ M * ax ∨ M * px ≤ M * bx := by omega
      rcases this with q | q <;> have := cle h0 q <;> omega
    · have : M * ay ≤ M * py + 1 ∨ M * b_y ≤ M * py + 1 := by omega
      rcases this with q | q <;> have := hle _ _ q <;> omega
    · have : M * py + 1 ≤ M * ay ∨ M * py + 1 ≤ M * b_y := by omega
      rcases this with q | q <;> have := hle' _ _ q <;> omega
  · obtain ⟨c, b1, b2, b3, b4⟩ := h
    rw [e3] at c
    have q1 : px - ax = 0 := by
      rcases zero_or c with q | q
      · omega
      · exact q
    have q2 : ay ≤ py := hle _ _ (by omega)
    have q3 : py ≤ ay := cle h0 (by omega)
    exact hn0 ⟨by omega, by omega⟩
  · obtain ⟨c, b1, b2, b3, b4⟩ := h
    rw [e4] at c
    have q1 : px - bx = 0 := by
      rcases zero_or c with q | q
      · omega
      · exact q
    have q2 : b_y ≤ py := hle _ _ (by omega)
    have q3 : py ≤ b_y := cle h0 (by omega)
    exact hn1 ⟨by omega, by omega⟩
  · rw [e1, e2] at h
    by_cases q : 1 ≤ sd ax ay bx b_y px py
    · have a1 := mle h0 q
      have := pp (pp h0 (show 0 < M * sd ax ay bx b_y px py by omega)) (pp h0 (show 0 < M * sd ax ay bx b_y px py + (bx - ax) by omega))
      omega
    · by_cases q' : sd ax ay bx b_y px py ≤ -1
      · have a1 := mle h0 q'
        have := nn (pn h0 (show M * sd ax ay bx b_y px py < 0 by omega)) (pn h0 (show M * sd ax ay bx b_y px py + (bx - ax) < 0 by omega))
        omega
      · have s0 : sd ax ay bx b_y px py = 0 := by omega
        rw [s0, Int.mul_zero, Int.mul_zero, Int.zero_mul] at h
        omega

end Go.Eng.Geo

/-
Fences: what the code asks of two ways and a spot is what plane geometry says.
-/
namespace Go.Eng
open Go Geo
set_option linter.unusedVariables false
set_option linter.unusedSimpArgs false

def pt (s : api_Spot) : Pt := (s.X, s.Y)
def pte (e : api_Spot × api_Spot) : Pt × Pt := (pt e.1, pt e.2)
/-- a right spot -/
def InB (s : api_Spot) : Prop := (-10000 ≤ s.X ∧ s.X ≤ 10000) ∧ (-10000 ≤ s.Y ∧ s.Y ≤ 10000)
theorem pt_inj {a b : api_Spot} (h : pt a = pt b) : a = b := by
  cases a; cases b
  simp only [pt, Prod.mk.injEq] at h
  rw [h.1, h.2]
theorem spot_eq {a b : api_Spot} : (decide (a.X = b.X) && (decide (a.Y = b.Y) && true)) = true ↔ a = b := by
  cases a; cases b
  simp
theorem mul_bd {x y m k : Int} (hx : -m ≤ x ∧ x ≤ m) (hy : -k ≤ y ∧ y ≤ k) : -(m * k) ≤ x * y ∧ x * y ≤ m * k := by
  have h1 : x.natAbs ≤ m.natAbs := by omega
  have h2 : y.natAbs ≤ k.natAbs := by omega
  have h3 := Nat.mul_le_mul h1 h2
  rw [← Int.natAbs_mul, ← Int.natAbs_mul] at h3
  have h4 : 0 ≤ m * k := PP (by omega) (by omega)
  omega
theorem wmul {x y : Int} (hx : -20000 ≤ x ∧ x ≤ 20000) (hy : -20000 ≤ y ∧ y ≤ 20000) : IntKind.wrap .i64 (x * y) = x * y ∧ -400000000 ≤ x * y ∧ x * y ≤ 400000000 := by
  have := mul_bd hx hy
  exact ⟨wrap64 (by omega) (by omega), by omega, by omega⟩
theorem side_wrap {a b s : api_Spot} (ha : InB a) (hb : InB b) (hs : InB s) :
    (IntKind.wrap .i64 ((IntKind.wrap .i64 ((IntKind.wrap .i64 (b.X - a.X)) * (IntKind.wrap .i64 (s.Y - a.Y)))) - (IntKind.wrap .i64 ((IntKind.wrap .i64 (b.Y - a.Y)) * (IntKind.wrap .i64 (s.X - a.X)))))) = sd a.X a.Y b.X b.Y s.X s.Y := by
  obtain ⟨a1, a2⟩ := ha; obtain ⟨b1, b2⟩ := hb; obtain ⟨s1, s2⟩ := hs
  rw [wrap64 (n := b.X - a.X) (by omega) (by omega), wrap64 (n := s.Y - a.Y) (by omega) (by omega), wrap64 (n := b.Y - a.Y) (by omega) (by omega), wrap64 (n := s.X - a.X) (by omega) (by omega)]
  have m1 := wmul (x := b.X - a.X) (y := s.Y - a.Y) (by omega) (by omega)
  have m2 := wmul (x := b.Y - a.Y) (y := s.X - a.X) (by omega) (by omega)
  rw [m1.1, m2.1, wrap64 (by omega) (by omega)]
  rfl
theorem sd_bd {a b s : api_Spot} (ha : InB a) (hb : InB b) (hs : InB s) : -800000000 ≤ sd a.X a.Y b.X b.Y s.X s.Y ∧ sd a.X a.Y b.X b.Y s.X s.Y ≤ 800000000 := by
  obtain ⟨a1, a2⟩ := ha; obtain ⟨b1, b2⟩ := hb; obtain ⟨s1, s2⟩ := hs
  have m1 := wmul (x := b.X - a.X) (y := s.Y - a.Y) (by omega) (by omega)
  have m2 := wmul (x := b.Y - a.Y) (y := s.X - a.X) (by omega) (by omega)
  unfold sd
  omega
theorem imin_eq (a b : Int) : imin a b = min a b := by unfold imin; split <;> omega
theorem imax_eq (a b : Int) : imax a b = max a b := by unfold imax; split <;> omega
instance (ax ay bx b_y sx sy : Int) : Decidable (onb ax ay bx b_y sx sy) := by unfold onb; infer_instance
instance (ax ay bx b_y cx cy dx dy : Int) : Decidable (meetsP ax ay bx b_y cx cy dx dy) := by unfold meetsP; infer_instance
def onB (e : api_Spot × api_Spot) (s : api_Spot) : Bool := decide (onb e.1.X e.1.Y e.2.X e.2.Y s.X s.Y)
def meB (e f : api_Spot × api_Spot) : Bool := decide (meetsP e.1.X e.1.Y e.2.X e.2.Y f.1.X f.1.Y f.2.X f.2.Y)
theorem onB_iff {e : api_Spot × api_Spot} {s : api_Spot} : onB e s = true ↔ onE (pte e) (pt s) := by unfold onB; rw [decide_eq_true_iff]; exact Iff.rfl
theorem meB_iff {e f : api_Spot × api_Spot} : meB e f = true ↔ meetE (pte e) (pte f) := by unfold meB; rw [decide_eq_true_iff]; exact Iff.rfl

theorem on_eq {a b s : api_Spot} (ha : InB a) (hb : InB b) (hs : InB s) : place_on a b s = some (onB (a, b) s) := by
  unfold place_on z597 z601 onB onb
  simp only [Option.bind_some, side_wrap ha hb hs, imin_eq, imax_eq]
  by_cases h0 : sd a.X a.Y b.X b.Y s.X s.Y = 0 <;> by_cases h1 : min a.X b.X ≤ s.X <;> by_cases h2 : s.X ≤ max a.X b.X <;> by_cases h3 : min a.Y b.Y ≤ s.Y <;>
    by_cases h4 : s.Y ≤ max a.Y b.Y <;> simp only [h0, h1, h2, h3, h4, decide_true, decide_false, cond_true, cond_false, Option.bind_some, and_true, and_false, and_self, true_and, false_and]

theorem cmpI_mul {x y : Int} : decide (IntKind.wrap .i64 (cmpI x 0 * cmpI y 0) < 0) = decide (x * y < 0) := by
  rw [Bool.eq_iff_iff, decide_eq_true_iff, decide_eq_true_iff]
  unfold cmpI
  by_cases h1 : x < 0 <;> by_cases h2 : 0 < x <;> by_cases h3 : y < 0 <;> by_cases h4 : 0 < y <;> (try omega)
  · have := nn h1 h3; simp only [h1, h3, if_true]; constructor <;> intro h <;> first | exact absurd h (by decide) | omega
  · have := np h1 h4; simp only [h1, h3, h4, if_true, if_false]; constructor <;> intro _ <;> first | decide | omega
  · have e : y = 0 := by omega
    subst e; simp only [h1, if_true, Int.mul_zero]; constructor <;> intro h <;> first | exact absurd h (by decide) | omega
  · have := pn h2 h3; simp only [h1, h2, h3, if_true, if_false]; constructor <;> intro _ <;> first | decide | omega
  · have := pp h2 h4; simp only [h1, h2, h3, h4, if_true, if_false]; constructor <;> intro h <;> first | exact absurd h (by decide) | omega
  · have e : y = 0 := by omega
    subst e; simp only [h1, h2, if_true, if_false, Int.mul_zero]; constructor <;> intro h <;> first | exact absurd h (by decide) | omega
  all_goals
    have e : x = 0 := by omega
    subst e
    simp only [Int.zero_mul, Int.lt_irrefl, if_false]
    constructor <;> intro h <;> first | (exact absurd h (by decide)) | omega
theorem or4 (a b c d : Bool) : (cond a (some true) (cond b (some true) (cond c (some true) (some d)))) = some (a || b || c || d) := by cases a <;> cases b <;> cases c <;> rfl

theorem meets_eq {a b c d : api_Spot} (ha : InB a) (hb : InB b) (hc : InB c) (hd : InB d) : z584 a b c d = some (meB (a, b) (c, d)) := by
  unfold z584 z587 z591 z601
  simp only [on_eq ha hb hc, on_eq ha hb hd, on_eq hc hd ha, on_eq hc hd hb, Option.bind_some, or4, side_wrap ha hb hc, side_wrap ha hb hd, side_wrap hc hd ha, side_wrap hc hd hb, cmpInt_eq, cmpI_mul]
  unfold meB meetsP onB
  simp only
  by_cases h1 : onb a.X a.Y b.X b.Y c.X c.Y <;> by_cases h2 : onb a.X a.Y b.X b.Y d.X d.Y <;> by_cases h3 : onb c.X c.Y d.X d.Y a.X a.Y <;> by_cases h4 : onb c.X c.Y d.X d.Y b.X b.Y <;>
    simp only [h1, h2, h3, h4, decide_true, decide_false, Bool.or_true, Bool.true_or, Bool.or_false, cond_true, cond_false, true_or, or_true, false_or]
  by_cases h5 : sd a.X a.Y b.X b.Y c.X c.Y * sd a.X a.Y b.X b.Y d.X d.Y < 0 <;> by_cases h6 : sd c.X c.Y d.X d.Y a.X a.Y * sd c.X c.Y d.X d.Y b.X b.Y < 0 <;>
    simp [h5, h6]

theorem rside_eq {a b s : api_Spot} (ha : InB a) (hb : InB b) (hs : InB s) : z352 a b s = some (cmpI (sd a.X a.Y b.X b.Y s.X s.Y) 0) := by
  unfold z352 z342 z326
  simp only [Option.bind_some, side_wrap ha hb hs, sign_eq]
theorem dot_on {ax ay bx b_y sx sy : Int} : onb ax ay bx b_y sx sy ↔ (sd ax ay bx b_y sx sy = 0 ∧ (ax - sx) * (bx - sx) + (ay - sy) * (b_y - sy) ≤ 0) := by
  constructor
  · rintro ⟨h0, h1, h2, h3, h4⟩
    refine ⟨h0, ?_⟩
    have key : ∀ x y z : Int, min x y ≤ z → z ≤ max x y → (x - z) * (y - z) ≤ 0 := by
      intro x y z h1 h2
      by_cases e : x = z
      · rw [e, Int.sub_self, Int.zero_mul]; exact Int.le_refl _
      by_cases h : x ≤ z
      · exact NP (by omega) (by omega)
      · exact PN (by omega) (by omega)
    have p1 := key _ _ _ h1 h2
    have p2 := key _ _ _ h3 h4
    omega
  · rintro ⟨h0, h1⟩
    have e : ((ax - sx) * (bx - sx)) * ((ay - sy) * (b_y - sy)) = ((ax - sx) * (b_y - sy)) * ((ax - sx) * (b_y - sy)) := by
      have h2 : (ax - sx) * (b_y - sy) = (ay - sy) * (bx - sx) := by unfold sd at h0; grind
      have : ((ax - sx) * (b_y - sy)) * ((ax - sx) * (b_y - sy)) = ((ax - sx) * (b_y - sy)) * ((ay - sy) * (bx - sx)) := by rw [← h2]
      rw [this]; grind
    have e2 := sq_nn ((ax - sx) * (b_y - sy))
    have p1 : (ax - sx) * (bx - sx) ≤ 0 := by
      by_cases h : (ax - sx) * (bx - sx) ≤ 0
      · exact h
      · have := pn (show 0 < (ax - sx) * (bx - sx) by omega) (show (ay - sy) * (b_y - sy) < 0 by omega)
        omega
    have p2 : (ay - sy) * (b_y - sy) ≤ 0 := by
      by_cases h : (ay - sy) * (b_y - sy) ≤ 0
      · exact h
      · have := np (show (ax - sx) * (bx - sx) < 0 by omega) (show 0 < (ay - sy) * (b_y - sy) by omega)
        omega
    have key : ∀ x y z : Int, (x - z) * (y - z) ≤ 0 → min x y ≤ z ∧ z ≤ max x y := by
      intro x y z h
      by_cases h1 : z < x ∧ z < y
      · have := pp (show 0 < x - z by omega) (show 0 < y - z by omega); omega
      · by_cases h2 : x < z ∧ y < z
        · have := nn (show x - z < 0 by omega) (show y - z < 0 by omega); omega
        · omega
    have k1 := key _ _ _ p1
    have k2 := key _ _ _ p2
    exact ⟨h0, k1.1, k1.2, k2.1, k2.2⟩
theorem ron_eq {a b s : api_Spot} (ha : InB a) (hb : InB b) (hs : InB s) : z345 a b s = some (onB (a, b) s) := by
  unfold z345 z348 z342 z329
  simp only [rside_eq ha hb hs, Option.bind_some]
  have h0 : decide (cmpI (sd a.X a.Y b.X b.Y s.X s.Y) 0 = 0) = decide (sd a.X a.Y b.X b.Y s.X s.Y = 0) := by
    rw [Bool.eq_iff_iff, decide_eq_true_iff, decide_eq_true_iff]; unfold cmpI; (repeat' split) <;> omega
  rw [h0]
  obtain ⟨a1, a2⟩ := ha; obtain ⟨b1, b2⟩ := hb; obtain ⟨s1, s2⟩ := hs
  rw [wrap64 (n := a.X - s.X) (by omega) (by omega), wrap64 (n := b.X - s.X) (by omega) (by omega), wrap64 (n := a.Y - s.Y) (by omega) (by omega), wrap64 (n := b.Y - s.Y) (by omega) (by omega)]
  have m1 := wmul (x := a.X - s.X) (y := b.X - s.X) (by omega) (by omega)
  have m2 := wmul (x := a.Y - s.Y) (y := b.Y - s.Y) (by omega) (by omega)
  rw [m1.1, m2.1, wrap64 (by omega) (by omega)]
  unfold onB
  simp only [dot_on]
  by_cases h1 : sd a.X a.Y b.X b.Y s.X s.Y = 0 <;> simp [h1]
theorem touches_eq {a b c d : api_Spot} (ha : InB a) (hb : InB b) (hc : InB c) (hd : InB d) : z358 a b c d = some (meB (a, b) (c, d)) := by
  unfold z358 z361 z365
  simp only [ron_eq ha hb hc, ron_eq ha hb hd, ron_eq hc hd ha, ron_eq hc hd hb, Option.bind_some, or4, rside_eq ha hb hc, rside_eq ha hb hd, rside_eq hc hd ha, rside_eq hc hd hb, cmpI_mul]
  unfold meB meetsP onB
  simp only
  by_cases h1 : onb a.X a.Y b.X b.Y c.X c.Y <;> by_cases h2 : onb a.X a.Y b.X b.Y d.X d.Y <;> by_cases h3 : onb c.X c.Y d.X d.Y a.X a.Y <;> by_cases h4 : onb c.X c.Y d.X d.Y b.X b.Y <;>
    simp only [h1, h2, h3, h4, decide_true, decide_false, Bool.or_true, Bool.true_or, Bool.or_false, cond_true, cond_false, true_or, or_true, false_or]
  by_cases h5 : sd a.X a.Y b.X b.Y c.X c.Y * sd a.X a.Y b.X b.Y d.X d.Y < 0 <;> by_cases h6 : sd c.X c.Y d.X d.Y a.X a.Y * sd c.X c.Y d.X d.Y b.X b.Y < 0 <;>
    simp [h5, h6]

/-! ### Edges by number -/
theorem path_len {α} (z : α) : ∀ l : List α, (path z l).length = l.length
  | [] => rfl
  | [_] => rfl
  | a :: b :: l => by simp only [path, List.length_cons]; rw [path_len z (b :: l)]; rfl
theorem ring_len {α} (l : List α) : (ring l).length = l.length := by
  cases l with
  | nil => rfl
  | cons a l => exact path_len a (a :: l)
theorem path_get {α} (z : α) : ∀ (l : List α) (i : Nat) (h : i < l.length), (path z l)[i]? = some (l[i], (l[i + 1]?).getD z)
  | [], i, h => by simp at h
  | [a], i, h => by
    have : i = 0 := by simp at h; exact h
    subst this; rfl
  | a :: b :: l, 0, h => rfl
  | a :: b :: l, i + 1, h => by
    simp only [path, List.getElem?_cons_succ]
    rw [path_get z (b :: l) i (by simpa using h)]
    rfl
theorem ring_get {α} {l : List α} {i : Nat} (h : i < l.length) : (ring l)[i]'(by rw [ring_len]; exact h) = (l[i], l[(i + 1) % l.length]'(Nat.mod_lt _ (by omega))) := by
  have key : (ring l)[i]? = some (l[i], l[(i + 1) % l.length]'(Nat.mod_lt _ (by omega))) := by
    cases l with
    | nil => simp at h
    | cons a l =>
      show (path a (a :: l))[i]? = _
      rw [path_get a (a :: l) i h]
      congr 2
      by_cases hh : i + 1 < (a :: l).length
      · rw [List.getElem?_eq_getElem hh, Option.getD_some]
        congr 1
        exact (Nat.mod_eq_of_lt hh).symm
      · have e : i + 1 = (a :: l).length := by omega
        rw [List.getElem?_eq_none (by omega), Option.getD_none]
        have e2 : (i + 1) % (a :: l).length = 0 := by rw [e, Nat.mod_self]
        simp only [e2, List.getElem_cons_zero]
  rw [List.getElem?_eq_getElem (by rw [ring_len]; exact h)] at key
  exact Option.some.inj key
theorem edge_at {l : List api_Spot} (hl : (l.length : Int) ≤ 1000000) {i : Nat} (h : i < l.length) :
    at? l (i : Int) = some ((ring l)[i]'(by rw [ring_len]; exact h)).1 ∧ at? l ((IntKind.wrap .i64 ((i : Int) + 1)).tmod (l.length : Int)) = some ((ring l)[i]'(by rw [ring_len]; exact h)).2 ∧ (!((l.length : Int) == 0)) = true := by
  rw [ring_get h]
  have hne : ((l.length : Int) == 0) = false := by rw [beq_eq_false_iff_ne]; omega
  refine ⟨at_nat h, ?_, by rw [hne]; rfl⟩
  rw [wrap64 (by omega) (by omega)]
  have e : ((i : Int) + 1).tmod (l.length : Int) = (((i + 1) % l.length : Nat) : Int) := by
    rw [Int.tmod_eq_emod_of_nonneg (show 0 ≤ (i : Int) + 1 by omega)]
    simp
  rw [e, at_nat (Nat.mod_lt _ (by omega))]
theorem ring_pt (l : List api_Spot) : ring (l.map pt) = (ring l).map pte := ring_map pt l
theorem ring_mem {l : List api_Spot} {e : api_Spot × api_Spot} (h : e ∈ ring l) : e.1 ∈ l ∧ e.2 ∈ l := by
  obtain ⟨i, hi, rfl⟩ := List.mem_iff_getElem.1 h
  rw [ring_get (by rw [ring_len] at hi; exact hi)]
  exact ⟨List.getElem_mem _, List.getElem_mem _⟩

/-! ### Search loops -/
theorem range_from {α ρ : Type} {l : List α} {f : Int → Option (Int ⊕ ρ)} (g : Nat → α → Option ρ) (done : ρ) (hl : (l.length : Int) ≤ 9223372036854775807)
    (hf : ∀ (i : Nat) (h : i < l.length), f i = some (match g i l[i] with | none => .inl (IntKind.wrap .i64 (i + 1)) | some r => .inr r)) (hd : f l.length = some (.inr done)) (k : Nat) (hk : k ≤ l.length) :
    loopO f k = some ((scan g k (l.drop k)).getD done) := by
  generalize hn : l.length - k = n
  induction n generalizing k with
  | zero =>
    have : k = l.length := by omega
    subst this
    rw [loopO_eq, hd, List.drop_length]
    rfl
  | succ n ih =>
    have hi : k < l.length := by omega
    rw [loopO_eq, hf k hi, drop_get hi]
    simp only [scan]
    cases hg : g k l[k] with
    | some r => rfl
    | none =>
      simp only [Option.bind_some]
      rw [wrap64 (by omega) (by omega)]
      exact ih (k + 1) (by omega) (by omega)
/-- a search: is there a number from k on for which p says true -/
theorem scan_ex {α ρ : Type} {p : Nat → α → Bool} {r d : ρ} : ∀ {l : List α} {k : Nat}, (scan (fun i x => cond (p i x) (some r) none) k l).getD d = open Classical in if ∃ (i : Nat) (x : α), l[i]? = some x ∧ p (k + i) x = true then r else d
  | [], k => by simp [scan]
  | y :: l, k => by
    simp only [scan]
    cases h : p k y with
    | true =>
      simp only [cond_true, Option.getD_some]
      rw [if_pos ⟨0, y, rfl, by simpa using h⟩]
    | false =>
      simp only [cond_false]
      rw [scan_ex (l := l) (k := k + 1)]
      congr 1
      apply propext
      constructor
      · rintro ⟨i, x, h1, h2⟩
        exact ⟨i + 1, x, by simpa using h1, by rw [show k + (i + 1) = k + 1 + i by omega]; exact h2⟩
      · rintro ⟨i, x, h1, h2⟩
        cases i with
        | zero =>
          simp only [List.getElem?_cons_zero, Option.some.injEq] at h1
          subst h1
          rw [Nat.add_zero, h] at h2
          cases h2
        | succ i => exact ⟨i, x, by simpa using h1, by rw [show k + 1 + i = k + (i + 1) by omega]; exact h2⟩
end Go.Eng

/-
Fences: the checks of both ways are the same; a right fence is simple.
-/
namespace Go.Eng
open Go Geo
open scoped Classical
set_option linter.unusedVariables false
set_option linter.unusedSimpArgs false

/-! ### Is a spot among others -/
def spB (v x : api_Spot) : Bool := decide (v.X = x.X) && (decide (v.Y = x.Y) && true)
theorem spB_iff {v x : api_Spot} : spB v x = true ↔ v = x := spot_eq
theorem scan_idx {v : api_Spot} : ∀ (l : List api_Spot) (k : Nat), ∃ r : Int, (match ((scan (fun i x => cond (spB v x) (some (Sum.inr (i : Int))) none) k l).getD (Sum.inl ()) : Unit ⊕ Int) with | .inl _ => (-1 : Int) | .inr i => i) = r ∧ (decide (0 ≤ r) = l.any (spB v))
  | [], k => ⟨-1, rfl, rfl⟩
  | x :: l, k => by
    simp only [scan, List.any_cons]
    cases spB v x with
    | true => exact ⟨k, rfl, by simp⟩
    | false => simpa using scan_idx (v := v) l (k + 1)
theorem contains_eq (l : List api_Spot) (v : api_Spot) (hl : (l.length : Int) ≤ 1000000) : z832 l v = some (l.any (spB v)) := by
  unfold z832 z905
  rw [range_loop (l := l) (fun i x => cond (spB v x) (some (.inr (i : Int))) none) (.inl ()) (by omega)]
  · obtain ⟨r, h1, h2⟩ := scan_idx (v := v) l 0
    rw [← h2, ← h1]
    cases (scan (fun i x => cond (spB v x) (some (Sum.inr (i : Int))) none) 0 l).getD (Sum.inl () : Unit ⊕ Int) <;> rfl
  · intro i hi
    unfold z908
    have h : (i : Int) < l.length := by omega
    simp only [h, decide_true, cond_true, at_nat hi, Option.bind_some]
    show cond (spB v l[i]) _ _ = _
    cases spB v l[i] <;> rfl
  · unfold z908
    simp
theorem any_mem {l : List api_Spot} {v : api_Spot} : l.any (spB v) = true ↔ v ∈ l := by
  rw [List.any_eq_true]
  constructor
  · rintro ⟨x, h1, h2⟩; rw [spB_iff.1 h2]; exact h1
  · intro h; exact ⟨v, h, spB_iff.2 rfl⟩

/-! ### The first half of the checks -/
theorem inB_iff (s : api_Spot) : ((decide (-10000 ≤ s.X) && decide (s.X ≤ 10000)) && (decide (-10000 ≤ s.Y) && decide (s.Y ≤ 10000))) = true ↔ InB s := by
  unfold InB; simp
def Half1 (l : List api_Spot) : Unit ⊕ Int → Prop
  | .inl _ => (∀ s ∈ l, InB s) ∧ l.Nodup
  | .inr e => e ≠ 0
theorem half1 (f : api_Fence) (hl : f.Corners.length ≤ 200) :
    ∃ r, loopO (z384 f) 0 = some r ∧ loopO (z295 f.Corners) 0 = some r ∧ Half1 f.Corners r := by
  obtain ⟨key, l⟩ := f
  simp only at hl ⊢
  refine loop_two (fun i : Int => ∃ k : Nat, i = (k : Int) ∧ k ≤ l.length ∧ (∀ s ∈ l.take k, InB s) ∧ (l.take k).Nodup) (fun i => ((l.length : Int) - i).toNat) _ ?_ ⟨0, rfl, by omega, by simp, by simp⟩
  rintro i ⟨k, rfl, k1, k2, k3⟩
  unfold z384 z295
  by_cases hi : k < l.length
  · have hi' : (k : Int) < l.length := by omega
    have hs : sub? l 0 (k : Int) = some (l.take k) := by
      unfold sub?
      rw [if_pos (by omega)]
      simp
    simp only [hi', decide_true, cond_true, at_nat hi, Option.bind_some, isSpot_eq, SpotFault_eq, hs]
    by_cases hb : InB l[k]
    · simp only [(inB_iff _).2 hb, Bool.not_true, cond_false, cond_true, decide_true]
      rw [contains_eq _ _ (by simp; omega)]
      simp only [Option.bind_some]
      cases hc : (l.take k).any (spB l[k]) with
      | true => right; exact ⟨_, rfl, rfl, by show (6 : Int) ≠ 0; omega⟩
      | false =>
        left
        rw [wrap64 (by omega) (by omega)]
        have e : l.take (k + 1) = l.take k ++ [l[k]] := List.take_succ_eq_append_getElem hi
        refine ⟨_, rfl, rfl, ⟨k + 1, by omega, by omega, ?_, ?_⟩, by omega⟩
        · rw [e]
          intro s hs
          rcases List.mem_append.1 hs with h | h
          · exact k2 s h
          · rw [List.mem_singleton] at h; rw [h]; exact hb
        · rw [e, List.nodup_append]
          refine ⟨k3, by simp, fun a ha b hb' => ?_⟩
          rw [List.mem_singleton] at hb'
          subst hb'
          intro e'
          subst e'
          rw [any_mem.2 ha] at hc
          cases hc
    · have hb' : ((decide (-10000 ≤ l[k].X) && decide (l[k].X ≤ 10000)) && (decide (-10000 ≤ l[k].Y) && decide (l[k].Y ≤ 10000))) = false := by
        rw [← Bool.not_eq_true]; exact fun h => hb ((inB_iff _).1 h)
      right
      simp only [hb', Bool.not_false, cond_true, cond_false]
      exact ⟨.inr 1, rfl, rfl, by show (1 : Int) ≠ 0; omega⟩
  · have : k = l.length := by omega
    subst this
    right
    rw [List.take_length] at k2 k3
    exact ⟨.inl (), by simp, by simp, k2, k3⟩

/-! ### Crossed edges -/
def badP (n i k : Nat) (e f : api_Spot × api_Spot) : Bool :=
  (!decide (k = i + 1) && (!decide ((k + 1) % n = i) && meB e f)) || (decide (k = i + 1) && (onB e f.2 || onB f e.1)) || (decide ((k + 1) % n = i) && (onB e f.1 || onB f e.2))
noncomputable def innP (L : List (api_Spot × api_Spot)) (i : Nat) (e : api_Spot × api_Spot) : Bool :=
  decide (∃ (k : Nat) (x : api_Spot × api_Spot), i < k ∧ L[k]? = some x ∧ badP L.length i k e x = true)
theorem mod_int {k n : Nat} (hk : (k : Int) + 1 ≤ 1000000) {i : Nat} : decide ((IntKind.wrap .i64 ((k : Int) + 1)).tmod (n : Int) = (i : Int)) = decide ((k + 1) % n = i) := by
  rw [wrap64 (by omega) (by omega)]
  have e : ((k : Int) + 1).tmod (n : Int) = (((k + 1) % n : Nat) : Int) := by
    rw [Int.tmod_eq_emod_of_nonneg (show 0 ≤ (k : Int) + 1 by omega)]
    simp
  rw [e, Bool.eq_iff_iff, decide_eq_true_iff, decide_eq_true_iff]
  omega
theorem suc_int {i k : Nat} (hi : (i : Int) + 1 ≤ 1000000) : decide ((k : Int) = IntKind.wrap .i64 ((i : Int) + 1)) = decide (k = i + 1) := by
  rw [wrap64 (by omega) (by omega), Bool.eq_iff_iff, decide_eq_true_iff, decide_eq_true_iff]
  omega
theorem inb_ring {l : List api_Spot} (h : ∀ s ∈ l, InB s) {e : api_Spot × api_Spot} (he : e ∈ ring l) : InB e.1 ∧ InB e.2 := ⟨h _ (ring_mem he).1, h _ (ring_mem he).2⟩

theorem crossed_inner {l : List api_Spot} (hl : l.length ≤ 200) (hb : ∀ s ∈ l, InB s) {i : Nat} (hi : i < l.length) {e : api_Spot × api_Spot} (he : (ring l)[i]? = some e) :
    loopO (z506 l i e.1 e.2) (IntKind.wrap .i64 ((i : Int) + 1)) = some (cond (innP (ring l) i e) (.inr ()) (.inl ())) := by
  have hlen := ring_len l
  have he' : InB e.1 ∧ InB e.2 := inb_ring hb (List.mem_of_getElem? he)
  rw [wrap64 (by omega) (by omega), show ((i : Int) + 1) = ((i + 1 : Nat) : Int) by omega,
    range_from (l := ring l) (fun k x => cond (badP l.length i k e x) (some (.inr ())) none) (.inl ()) (by omega) ?_ ?_ (i + 1) (by omega), scan_ex]
  · unfold innP
    rw [hlen]
    congr 1
    have : (∃ (j : Nat) (x : api_Spot × api_Spot), ((ring l).drop (i + 1))[j]? = some x ∧ badP l.length i (i + 1 + j) e x = true) ↔ (∃ (k : Nat) (x : api_Spot × api_Spot), i < k ∧ (ring l)[k]? = some x ∧ badP l.length i k e x = true) := by
      constructor
      · rintro ⟨j, x, h1, h2⟩
        exact ⟨i + 1 + j, x, by omega, by rw [List.getElem?_drop] at h1; exact h1, h2⟩
      · rintro ⟨k, x, h0, h1, h2⟩
        exact ⟨k - (i + 1), x, by rw [List.getElem?_drop, show i + 1 + (k - (i + 1)) = k by omega]; exact h1, by rw [show i + 1 + (k - (i + 1)) = k by omega]; exact h2⟩
    by_cases h : ∃ (j : Nat) (x : api_Spot × api_Spot), ((ring l).drop (i + 1))[j]? = some x ∧ badP l.length i (i + 1 + j) e x = true
    · rw [if_pos h, decide_eq_true (this.1 h)]; rfl
    · rw [if_neg h, decide_eq_false (fun hh => h (this.2 hh))]; rfl
  · intro k hk
    have hk' : k < l.length := by omega
    obtain ⟨a1, a2, a3⟩ := edge_at (l := l) (by omega) hk'
    have hx := inb_ring hb (List.getElem_mem hk)
    generalize (ring l)[k] = x at a1 a2 hx
    unfold z506 z511 z515 z519
    have h : (k : Int) < l.length := by omega
    simp only [h, decide_true, cond_true, a1, a2, gd_true a3, Option.bind_some, suc_int (i := i) (k := k) (by omega), mod_int (i := i) (k := k) (n := l.length) (by omega),
      meets_eq he'.1 he'.2 hx.1 hx.2, on_eq he'.1 he'.2 hx.2, on_eq hx.1 hx.2 he'.1, on_eq he'.1 he'.2 hx.1, on_eq hx.1 hx.2 he'.2]
    unfold badP
    rw [show onB e x.2 = onB (e.1, e.2) x.2 from rfl, show onB x e.1 = onB (x.1, x.2) e.1 from rfl, show meB e x = meB (e.1, e.2) (x.1, x.2) from rfl, show onB e x.1 = onB (e.1, e.2) x.1 from rfl, show onB x e.2 = onB (x.1, x.2) e.2 from rfl]
    cases decide (k = i + 1) <;> cases decide ((k + 1) % l.length = i) <;> cases meB (e.1, e.2) (x.1, x.2) <;> cases onB (e.1, e.2) x.2 <;> cases onB (x.1, x.2) e.1 <;> cases onB (e.1, e.2) x.1 <;> cases onB (x.1, x.2) e.2 <;> rfl
  · rw [hlen]
    unfold z506
    simp
theorem crossed_eq {l : List api_Spot} (hl : l.length ≤ 200) (hb : ∀ s ∈ l, InB s) :
    z498 l = some (decide (∃ (i : Nat) (e : api_Spot × api_Spot), (ring l)[i]? = some e ∧ ∃ (k : Nat) (x : api_Spot × api_Spot), i < k ∧ (ring l)[k]? = some x ∧ badP l.length i k e x = true)) := by
  have hlen := ring_len l
  unfold z498
  rw [range_loop (l := ring l) (fun i e => cond (innP (ring l) i e) (some (.inr ())) none) (.inl ()) (by omega), scan_ex]
  · have hAB : (∃ (i : Nat) (x : api_Spot × api_Spot), (ring l)[i]? = some x ∧ innP (ring l) (0 + i) x = true) ↔ (∃ (i : Nat) (e : api_Spot × api_Spot), (ring l)[i]? = some e ∧ ∃ (k : Nat) (x : api_Spot × api_Spot), i < k ∧ (ring l)[k]? = some x ∧ badP l.length i k e x = true) := by
      simp only [Nat.zero_add, innP, decide_eq_true_iff, hlen]
    by_cases h : ∃ (i : Nat) (x : api_Spot × api_Spot), (ring l)[i]? = some x ∧ innP (ring l) (0 + i) x = true
    · rw [if_pos h, decide_eq_true (hAB.1 h)]; rfl
    · rw [if_neg h, decide_eq_false (fun hh => h (hAB.2 hh))]; rfl
  · intro i hi
    have hi' : i < l.length := by omega
    obtain ⟨a1, a2, a3⟩ := edge_at (l := l) (by omega) hi'
    have key := crossed_inner hl hb hi' (e := (ring l)[i]) (List.getElem?_eq_getElem hi)
    unfold z501
    have h : (i : Int) < l.length := by omega
    simp only [h, decide_true, cond_true, a1, a2, gd_true a3, Option.bind_some, key]
    cases innP (ring l) i (ring l)[i] <;> rfl
  · rw [hlen]
    unfold z501
    simp

def badR (i k : Nat) (e f : api_Spot × api_Spot) : Bool :=
  !decide (k = i) && cond (spB e.2 f.1) (onB e f.2 || onB f e.1) (cond (spB f.2 e.1) false (meB e f))
noncomputable def innR (L : List (api_Spot × api_Spot)) (i : Nat) (e : api_Spot × api_Spot) : Bool :=
  decide (∃ (k : Nat) (x : api_Spot × api_Spot), L[k]? = some x ∧ badR i k e x = true)
theorem redge_eq {l : List api_Spot} (hl : l.length ≤ 200) {i : Nat} (hi : i < l.length) : z332 l (i : Int) = some (((ring l)[i]'(by rw [ring_len]; exact hi)).1, ((ring l)[i]'(by rw [ring_len]; exact hi)).2) := by
  obtain ⟨a1, a2, a3⟩ := edge_at (l := l) (by omega) hi
  unfold z332
  simp only [a1, a2, gd_true a3, Option.bind_some]
theorem rcrossed_inner {l : List api_Spot} (hl : l.length ≤ 200) (hb : ∀ s ∈ l, InB s) {i : Nat} (hi : i < l.length) {e : api_Spot × api_Spot} (he : (ring l)[i]? = some e) :
    loopO (z305 l i e.1 e.2) 0 = some (cond (innR (ring l) i e) (.inr ()) (.inl ())) := by
  have hlen := ring_len l
  have he' : InB e.1 ∧ InB e.2 := inb_ring hb (List.mem_of_getElem? he)
  rw [range_loop (l := ring l) (fun k x => cond (badR i k e x) (some (.inr ())) none) (.inl ()) (by omega) ?_ ?_, scan_ex]
  · unfold innR
    have hAB : (∃ (j : Nat) (x : api_Spot × api_Spot), (ring l)[j]? = some x ∧ badR i (0 + j) e x = true) ↔ (∃ (k : Nat) (x : api_Spot × api_Spot), (ring l)[k]? = some x ∧ badR i k e x = true) := by
      simp only [Nat.zero_add]
    by_cases h : ∃ (j : Nat) (x : api_Spot × api_Spot), (ring l)[j]? = some x ∧ badR i (0 + j) e x = true
    · rw [if_pos h, decide_eq_true (hAB.1 h)]; rfl
    · rw [if_neg h, decide_eq_false (fun hh => h (hAB.2 hh))]; rfl
  · intro k hk
    have hk' : k < l.length := by omega
    have hx := inb_ring hb (List.getElem_mem hk)
    unfold z305 z310 z315
    rw [redge_eq hl hk']
    generalize (ring l)[k] = x at hx
    have h : (k : Int) < l.length := by omega
    have hki : decide ((k : Int) = (i : Int)) = decide (k = i) := by
      rw [Bool.eq_iff_iff, decide_eq_true_iff, decide_eq_true_iff]; omega
    simp only [h, decide_true, cond_true, Option.bind_some, hki, touches_eq he'.1 he'.2 hx.1 hx.2, ron_eq he'.1 he'.2 hx.2, ron_eq hx.1 hx.2 he'.1]
    rw [show (decide (e.2.X = x.1.X) && (decide (e.2.Y = x.1.Y) && true)) = spB e.2 x.1 from rfl, show (decide (x.2.X = e.1.X) && (decide (x.2.Y = e.1.Y) && true)) = spB x.2 e.1 from rfl]
    unfold badR
    rw [show onB e x.2 = onB (e.1, e.2) x.2 from rfl, show onB x e.1 = onB (x.1, x.2) e.1 from rfl, show meB e x = meB (e.1, e.2) (x.1, x.2) from rfl]
    cases decide (k = i) <;> cases spB e.2 x.1 <;> cases spB x.2 e.1 <;> cases meB (e.1, e.2) (x.1, x.2) <;> cases onB (e.1, e.2) x.2 <;> cases onB (x.1, x.2) e.1 <;> rfl
  · rw [hlen]
    unfold z305
    simp
theorem rcrossed_eq {l : List api_Spot} (hl : l.length ≤ 200) (hb : ∀ s ∈ l, InB s) :
    loopO (z300 l) 0 = some (cond (decide (∃ (i : Nat) (e : api_Spot × api_Spot), (ring l)[i]? = some e ∧ ∃ (k : Nat) (x : api_Spot × api_Spot), (ring l)[k]? = some x ∧ badR i k e x = true)) (.inr ()) (.inl ())) := by
  have hlen := ring_len l
  rw [range_loop (l := ring l) (fun i e => cond (innR (ring l) i e) (some (.inr ())) none) (.inl ()) (by omega), scan_ex]
  · have hAB : (∃ (i : Nat) (x : api_Spot × api_Spot), (ring l)[i]? = some x ∧ innR (ring l) (0 + i) x = true) ↔ (∃ (i : Nat) (e : api_Spot × api_Spot), (ring l)[i]? = some e ∧ ∃ (k : Nat) (x : api_Spot × api_Spot), (ring l)[k]? = some x ∧ badR i k e x = true) := by
      simp only [Nat.zero_add, innR, decide_eq_true_iff]
    by_cases h : ∃ (i : Nat) (x : api_Spot × api_Spot), (ring l)[i]? = some x ∧ innR (ring l) (0 + i) x = true
    · rw [if_pos h, decide_eq_true (hAB.1 h)]; rfl
    · rw [if_neg h, decide_eq_false (fun hh => h (hAB.2 hh))]; rfl
  · intro i hi
    have hi' : i < l.length := by omega
    have key := rcrossed_inner hl hb hi' (e := (ring l)[i]) (List.getElem?_eq_getElem hi)
    unfold z300
    have h : (i : Int) < l.length := by omega
    simp only [h, decide_true, cond_true, redge_eq hl hi', Option.bind_some, key]
    cases innR (ring l) i (ring l)[i] <;> rfl
  · rw [hlen]
    unfold z300
    simp

/-- edges have nothing in common but the corner between two that are next to each other -/
def Qs (l : List api_Spot) : Prop :=
  (∀ e ∈ ring l, ∀ f ∈ ring l, e ≠ f → e.2 ≠ f.1 → f.2 ≠ e.1 → meB e f = false) ∧ (∀ e ∈ ring l, ∀ f ∈ ring l, e ≠ f → e.2 = f.1 → onB e f.2 = false ∧ onB f e.1 = false)

section
variable {l : List api_Spot} (nd : l.Nodup)
include nd
theorem ring_nodup : (ring l).Nodup := nodup_of_map (g := Prod.fst) (by rw [ring_fst]; exact nd)
theorem ring_inj {i k : Nat} {e f : api_Spot × api_Spot} (hi : (ring l)[i]? = some e) (hk : (ring l)[k]? = some f) : e = f ↔ i = k := by
  have hn := ring_nodup nd
  obtain ⟨i1, i2⟩ := List.getElem?_eq_some_iff.1 hi
  obtain ⟨k1, k2⟩ := List.getElem?_eq_some_iff.1 hk
  constructor
  · intro h
    exact (List.getElem_inj hn).1 (by rw [i2, k2, h])
  · intro h; subst h; rw [← i2, ← k2]
theorem ring_next {i k : Nat} {e f : api_Spot × api_Spot} (hi : (ring l)[i]? = some e) (hk : (ring l)[k]? = some f) : e.2 = f.1 ↔ (i + 1) % l.length = k := by
  obtain ⟨i1, i2⟩ := List.getElem?_eq_some_iff.1 hi
  obtain ⟨k1, k2⟩ := List.getElem?_eq_some_iff.1 hk
  have i1' : i < l.length := by rw [ring_len] at i1; exact i1
  have k1' : k < l.length := by rw [ring_len] at k1; exact k1
  rw [ring_get i1'] at i2
  rw [ring_get k1'] at k2
  rw [← i2, ← k2]
  exact List.getElem_inj nd
theorem refQ : (∃ (i : Nat) (e : api_Spot × api_Spot), (ring l)[i]? = some e ∧ ∃ (k : Nat) (x : api_Spot × api_Spot), (ring l)[k]? = some x ∧ badR i k e x = true) ↔ ¬ Qs l := by
  constructor
  · rintro ⟨i, e, hi, k, f, hk, hb⟩ ⟨q1, q2⟩
    have me := List.mem_of_getElem? hi
    have mf := List.mem_of_getElem? hk
    unfold badR at hb
    simp only [Bool.and_eq_true, Bool.not_eq_true', decide_eq_false_iff_not] at hb
    obtain ⟨hne, hb⟩ := hb
    have hef : e ≠ f := fun h => hne ((ring_inj nd hi hk).1 h).symm
    cases h1 : spB e.2 f.1 with
    | true =>
      rw [h1] at hb
      have := q2 e me f mf hef (spB_iff.1 h1)
      rw [this.1, this.2] at hb; cases hb
    | false =>
      rw [h1] at hb
      cases h2 : spB f.2 e.1 with
      | true => rw [h2] at hb; cases hb
      | false =>
        rw [h2] at hb
        have := q1 e me f mf hef (fun h => by rw [spB_iff.2 h] at h1; cases h1) (fun h => by rw [spB_iff.2 h] at h2; cases h2)
        simp only [cond_false] at hb
        rw [this] at hb; cases hb
  · intro hq
    refine Classical.byContradiction fun hn => hq ⟨fun e me f mf hef h1 h2 => ?_, fun e me f mf hef h1 => ?_⟩
    all_goals
      obtain ⟨i, hi⟩ := List.mem_iff_getElem?.1 me
      obtain ⟨k, hk⟩ := List.mem_iff_getElem?.1 mf
      have hik : ¬ k = i := fun h => hef ((ring_inj nd hi hk).2 h.symm)
      have hb : badR i k e f = false := by
        rw [← Bool.not_eq_true]; exact fun h => hn ⟨i, e, hi, k, f, hk, h⟩
      unfold badR at hb
      rw [decide_eq_false hik] at hb
      simp only [Bool.not_false, Bool.true_and] at hb
    · have e1 : spB e.2 f.1 = false := by rw [← Bool.not_eq_true]; exact fun h => h1 (spB_iff.1 h)
      have e2 : spB f.2 e.1 = false := by rw [← Bool.not_eq_true]; exact fun h => h2 (spB_iff.1 h)
      rw [e1, e2] at hb
      exact hb
    · rw [spB_iff.2 h1] at hb
      simp only [cond_true, Bool.or_eq_false_iff] at hb
      exact hb
theorem progQ : (∃ (i : Nat) (e : api_Spot × api_Spot), (ring l)[i]? = some e ∧ ∃ (k : Nat) (x : api_Spot × api_Spot), i < k ∧ (ring l)[k]? = some x ∧ badP l.length i k e x = true) ↔ ¬ Qs l := by
  have hsuc : ∀ {i k : Nat} {e f : api_Spot × api_Spot}, (ring l)[i]? = some e → (ring l)[k]? = some f → i < k → ((i + 1) % l.length = k ↔ k = i + 1) := by
    intro i k e f hi hk hlt
    have k1 := (List.getElem?_eq_some_iff.1 hk).1
    rw [ring_len] at k1
    rw [Nat.mod_eq_of_lt (by omega)]
    omega
  constructor
  · rintro ⟨i, e, hi, k, f, hlt, hk, hb⟩ ⟨q1, q2⟩
    have me := List.mem_of_getElem? hi
    have mf := List.mem_of_getElem? hk
    have hef : e ≠ f := fun h => by have := (ring_inj nd hi hk).1 h; omega
    have n1 : e.2 = f.1 ↔ k = i + 1 := (ring_next nd hi hk).trans (hsuc hi hk hlt)
    have n2 : f.2 = e.1 ↔ (k + 1) % l.length = i := ring_next nd hk hi
    unfold badP at hb
    simp only [Bool.or_eq_true, Bool.and_eq_true, Bool.not_eq_true', decide_eq_false_iff_not, decide_eq_true_iff] at hb
    rcases hb with (⟨h1, h2, h⟩ | ⟨h1, h⟩) | ⟨h1, h⟩
    · rw [q1 e me f mf hef (fun h => h1 (n1.1 h)) (fun h => h2 (n2.1 h))] at h; cases h
    · have := q2 e me f mf hef (n1.2 h1)
      rw [this.1, this.2] at h; rcases h with h | h <;> cases h
    · have := q2 f mf e me hef.symm (n2.2 h1)
      rw [this.1, this.2] at h; rcases h with h | h <;> cases h
  · intro hq
    refine Classical.byContradiction fun hn => hq ⟨fun e me f mf hef h1 h2 => ?_, fun e me f mf hef h1 => ?_⟩
    all_goals
      obtain ⟨i, hi⟩ := List.mem_iff_getElem?.1 me
      obtain ⟨k, hk⟩ := List.mem_iff_getElem?.1 mf
      have hik : ¬ i = k := fun h => hef ((ring_inj nd hi hk).2 h)
      have hb : ∀ {i k : Nat} {e f : api_Spot × api_Spot}, (ring l)[i]? = some e → (ring l)[k]? = some f → i < k → badP l.length i k e f = false := by
        intro i k e f hi hk hlt
        rw [← Bool.not_eq_true]; exact fun h => hn ⟨i, e, hi, k, f, hlt, hk, h⟩
      have n1 := ring_next nd hi hk
      have n2 := ring_next nd hk hi
    · by_cases hlt : i < k
      · have := hb hi hk hlt
        unfold badP at this
        have a1 : ¬ k = i + 1 := fun h => h1 (n1.2 ((hsuc hi hk hlt).2 h))
        have a2 : ¬ (k + 1) % l.length = i := fun h => h2 (n2.2 h)
        rw [decide_eq_false a1, decide_eq_false a2] at this
        simpa using this
      · have hlt : k < i := by omega
        have := hb hk hi hlt
        unfold badP at this
        have a1 : ¬ i = k + 1 := fun h => h2 (n2.2 ((hsuc hk hi hlt).2 h))
        have a2 : ¬ (i + 1) % l.length = k := fun h => h1 (n1.2 h)
        rw [decide_eq_false a1, decide_eq_false a2] at this
        have t : meB f e = false := by simpa using this
        rw [← Bool.not_eq_true] at t ⊢
        exact fun h => t (meB_iff.2 (meetE_comm (meB_iff.1 h)))
    · have h1' := n1.1 h1
      by_cases hlt : i < k
      · have := hb hi hk hlt
        unfold badP at this
        have a1 : k = i + 1 := (hsuc hi hk hlt).1 h1'
        rw [decide_eq_true a1] at this
        simp only [Bool.not_true, Bool.false_and, Bool.false_or, Bool.true_and, Bool.or_eq_false_iff] at this
        exact this.1
      · have hlt : k < i := by omega
        have := hb hk hi hlt
        unfold badP at this
        rw [decide_eq_true h1'] at this
        simp only [Bool.not_true, Bool.false_and, Bool.and_false, Bool.false_or, Bool.true_and, Bool.or_eq_false_iff] at this
        exact ⟨this.2.2, this.2.1⟩
end

/-- corners of a right fence -/
def FRight (l : List api_Spot) : Prop := 3 ≤ l.length ∧ l.length ≤ 200 ∧ (∀ s ∈ l, InB s) ∧ Simple (l.map pt)
theorem simple_of {l : List api_Spot} (nd : l.Nodup) (hq : Qs l) : Simple (l.map pt) where
  nd := nodup_map nd fun _ _ _ _ hne h => hne (pt_inj h)
  sep := by
    intro e he f hf h1 h2 h3 hm
    rw [ring_pt] at he hf
    obtain ⟨e', he', rfl⟩ := List.mem_map.1 he
    obtain ⟨f', hf', rfl⟩ := List.mem_map.1 hf
    have := hq.1 e' he' f' hf' (fun h => h1 (by rw [h])) (fun h => h2 (by show pt e'.2 = pt f'.1; rw [h])) (fun h => h3 (by show pt f'.2 = pt e'.1; rw [h]))
    rw [meB_iff.2 hm] at this; cases this
  adj := by
    intro e he f hf h1 h2
    rw [ring_pt] at he hf
    obtain ⟨e', he', rfl⟩ := List.mem_map.1 he
    obtain ⟨f', hf', rfl⟩ := List.mem_map.1 hf
    have := hq.2 e' he' f' hf' (fun h => h1 (by rw [h])) (pt_inj h2)
    obtain ⟨t1, t2⟩ := this
    exact ⟨fun h => (by rw [onB_iff.2 h] at t1; cases t1), fun h => (by rw [onB_iff.2 h] at t2; cases t2)⟩

/-- the checks of corners, both ways -/
theorem corners_both (f : api_Fence) (hk : (f.Key.length : Int) ≤ 9223372036854775807) :
    ∃ c, z292 f.Corners = some c ∧ (c = 0 → FRight f.Corners) ∧ z381 f = some (cond (keyB f.Key) c 5) := by
  unfold z381
  rw [Key_eq _ hk]
  have key : ∃ c, z292 f.Corners = some c ∧ (c = 0 → FRight f.Corners) ∧
      (cond (decide ((f.Corners.length : Int) < 3)) (some 3) (cond (decide (200 < (f.Corners.length : Int))) (some 2) ((loopO (z384 f) 0).bind fun x => match x with
          | .inl _ => (z498 f.Corners).bind fun vr17 => cond (vr17) (some 13) (some 0)
          | .inr vx1_1 => some vx1_1))) = some c := by
    unfold z292
    by_cases h3 : (f.Corners.length : Int) < 3
    · exact ⟨3, by simp [h3], by omega, by simp [h3]⟩
    by_cases h200 : (200 : Int) < f.Corners.length
    · exact ⟨2, by simp [h3, h200], by omega, by simp [h3, h200]⟩
    have hl : f.Corners.length ≤ 200 := by omega
    obtain ⟨r, r1, r2, r3⟩ := half1 f hl
    simp only [h3, h200, decide_false, cond_false, r1, r2, Option.bind_some]
    cases r with
    | inr e => exact ⟨e, rfl, fun h => absurd h r3, rfl⟩
    | inl _ =>
      obtain ⟨hb, nd⟩ := r3
      simp only
      rw [crossed_eq hl hb, rcrossed_eq hl hb]
      have p := progQ nd
      have q := refQ nd
      by_cases hq : Qs f.Corners
      · rw [decide_eq_false (fun h => p.1 h hq), decide_eq_false (fun h => q.1 h hq)]
        exact ⟨0, rfl, fun _ => ⟨by omega, hl, hb, simple_of nd hq⟩, rfl⟩
      · rw [decide_eq_true (p.2 hq), decide_eq_true (q.2 hq)]
        exact ⟨13, rfl, by omega, rfl⟩
  obtain ⟨c, c1, c2, c3⟩ := key
  refine ⟨c, c1, c2, ?_⟩
  cases h : keyB f.Key
  · rfl
  · simp only [Option.bind_some, Bool.not_true, cond_false, cond_true]; exact c3
end Go.Eng

/-
Where a spot is: both ways.
-/
namespace Go.Eng
open Go Geo
open scoped Classical
set_option linter.unusedVariables false
set_option linter.unusedSimpArgs false

theorem scan_any {α ρ : Type} {p : α → Bool} {r d : ρ} : ∀ {l : List α} {k : Nat}, (scan (fun _ x => cond (p x) (some r) none) k l).getD d = cond (l.any p) r d
  | [], _ => by simp [scan]
  | y :: l, k => by
    simp only [scan, List.any_cons]
    cases p y with
    | true => simp
    | false => simp only [cond_false, Bool.false_or]; exact scan_any (l := l)
theorem edges_on {l : List api_Spot} (hl : l.length ≤ 200) (hb : ∀ s ∈ l, InB s) {p : api_Spot} (hp : InB p) :
    z539 l p = some ((ring l).any fun e => onB e p) := by
  have hlen := ring_len l
  unfold z539
  rw [range_loop (l := ring l) (fun _ e => cond (onB e p) (some (.inr ())) none) (.inl ()) (by omega), scan_any]
  · cases (ring l).any fun e => onB e p <;> rfl
  · intro i hi
    have hi' : i < l.length := by omega
    obtain ⟨a1, a2, a3⟩ := edge_at (l := l) (by omega) hi'
    have hx := inb_ring hb (List.getElem_mem hi)
    generalize (ring l)[i] = x at a1 a2 hx
    unfold z542 z630
    have h : (i : Int) < l.length := by omega
    simp only [h, decide_true, cond_true, a1, a2, gd_true a3, Option.bind_some, on_eq hx.1 hx.2 hp]
    rw [show onB x p = onB (x.1, x.2) p from rfl]
    cases onB (x.1, x.2) p <;> rfl
  · rw [hlen]
    unfold z542
    simp
def htB (p : api_Spot) (e : api_Spot × api_Spot) : Bool := hitE (pt p) (pte e)
theorem where2_eq {a b p : api_Spot} (ha : InB a) (hb : InB b) (hp : InB p) (s : Bool) : z633 a b p s = some (s ^^ htB p (a, b)) := by
  unfold z633 z636 z640 z644 z601
  have key : ∀ {u v : api_Spot}, InB u → InB v → (cond (decide (u.Y ≤ p.Y)) (cond (decide (p.Y < v.Y)) (some (decide (0 < sd u.X u.Y v.X v.Y p.X p.Y))) (some false)) (some false)) = some (decide (hitU u.X u.Y v.X v.Y p.X p.Y)) := by
    intro u v hu hv
    unfold hitU
    by_cases h1 : u.Y ≤ p.Y <;> by_cases h2 : p.Y < v.Y <;> by_cases h3 : 0 < sd u.X u.Y v.X v.Y p.X p.Y <;> simp [h1, h2, h3]
  have fin : ∀ h : Bool, (cond h (some (!s)) (some s)) = some (s ^^ h) := by intro h; cases h <;> cases s <;> rfl
  by_cases hc : b.Y < a.Y
  · have ht : htB p (a, b) = decide (hitU b.X b.Y a.X a.Y p.X p.Y) := hit_dn (a := pt a) (b := pt b) (p := pt p) hc
    simp only [hc, decide_true, cond_true, Option.bind_some, side_wrap hb ha hp, key hb ha, ← ht, fin]
  · have ht : htB p (a, b) = decide (hitU a.X a.Y b.X b.Y p.X p.Y) := hit_up (a := pt a) (b := pt b) (p := pt p) (by show a.Y ≤ b.Y; omega)
    simp only [hc, decide_false, cond_false, Option.bind_some, side_wrap ha hb hp, key ha hb, ← ht, fin]
theorem fold_par {α} (f : α → Bool) (l : List α) (s : Bool) : l.foldl (fun s e => s ^^ f e) s = (s ^^ par f l) := by
  induction l generalizing s with
  | nil => simp [par]
  | cons a l ih => rw [List.foldl_cons, ih]; simp only [par]; rw [Bool.xor_assoc]
theorem inn_pt (l : List api_Spot) (p : api_Spot) : inn (l.map pt) (pt p) = par (htB p) (ring l) := by
  unfold inn
  rw [ring_pt, par_map]
  rfl
theorem edges_in {l : List api_Spot} (hl : l.length ≤ 200) (hb : ∀ s ∈ l, InB s) {p : api_Spot} (hp : InB p) :
    z547 l p false = some (inn (l.map pt) (pt p)) := by
  have hlen := ring_len l
  unfold z547
  have := (gather_loop (l := ring l) (f := z550 l p) (fun (s : Bool) i => (s, i)) (fun s e => s ^^ htB p e) id (fun _ _ => True) (s0 := false) (by omega) (fun i hi s _ => by
    have hi' : i < l.length := by omega
    obtain ⟨a1, a2, a3⟩ := edge_at (l := l) (by omega) hi'
    have hx := inb_ring hb (List.getElem_mem hi)
    generalize (ring l)[i] = x at a1 a2 hx
    unfold z550
    have h : (i : Int) < l.length := by omega
    simp only [h, decide_true, cond_true, a1, a2, gd_true a3, Option.bind_some, where2_eq hx.1 hx.2 hp]
    exact ⟨trivial, trivial⟩) (fun s _ => by rw [hlen]; unfold z550; simp) trivial).1
  rw [this, fold_par, inn_pt]
  simp
/-- where a spot is -/
noncomputable def wher (l : List api_Spot) (p : api_Spot) : Int := if ∃ e ∈ ring l, onB e p = true then 1 else if inn (l.map pt) (pt p) = true then 2 else 0
theorem where_eq {l : List api_Spot} (hl : l.length ≤ 200) (hb : ∀ s ∈ l, InB s) {p : api_Spot} (hp : InB p) : z629 l p = some (wher l p) := by
  unfold z629 wher
  rw [edges_on hl hb hp, edges_in hl hb hp]
  by_cases h : ∃ e ∈ ring l, onB e p = true
  · rw [if_pos h, (List.any_eq_true).2 h]; rfl
  · rw [if_neg h]
    have : ((ring l).any fun e => onB e p) = false := by rw [← Bool.not_eq_true, List.any_eq_true]; exact h
    rw [this]
    cases hh : inn (l.map pt) (pt p) <;> rfl

/-! ### The document's way: how often the edges go round -/
end Go.Eng

/-
The streams.
-/
namespace Go.Eng
open Go
set_option linter.unusedVariables false
set_option linter.unusedSimpArgs false

theorem wrap_I64 (n : Int) : I64 (IntKind.wrap .i64 n) := by
  unfold IntKind.wrap I64
  simp [IntKind.bits, IntKind.signed]
  split <;> omega

theorem Below_eq {x n : Int} (hx : I64 x) (hn : I64 n) : z227 x n = some (if n < 1 then 0 else x % n) := by
  unfold I64 at hx hn
  unfold z227 z230
  by_cases h : n < 1
  · simp [h]
  · have h0 : (n == 0) = false := by simp; omega
    have e := Int.emod_eq_tmod (a := x) (b := n)
    have nn := Int.emod_nonneg x (show n ≠ 0 by omega)
    have lt := Int.emod_lt_of_pos x (show 0 < n by omega)
    simp only [h, decide_false, cond_false, h0, Bool.not_false, gd, cond_true, Option.bind_some, if_false]
    by_cases h3 : x.tmod n < 0
    · simp only [h3, decide_true, cond_true, Option.bind_some]
      split at e
      · omega
      · rw [wrap64 (by omega) (by omega)]
        congr 1
        omega
    · simp only [h3, decide_false, cond_false, Option.bind_some]
      congr 1
      split at e <;> omega
theorem Below_ok {x n : Int} (hx : I64 x) (hn : I64 n) : Ok (z227 x n) (fun r => (1 ≤ n → 0 ≤ r ∧ r < n) ∧ (n < 1 → r = 0)) := by
  refine .of_eq (Below_eq hx hn) ⟨fun h => ?_, fun h => by simp [h]⟩
  rw [if_neg (by omega)]
  exact ⟨Int.emod_nonneg _ (by omega), Int.emod_lt_of_pos _ (by omega)⟩

/-- A stream whose numbers are of 64 bits, of which at most k were taken. -/
def StrOk (k : Nat) (s : z234) : Prop := 0 ≤ s.at_ ∧ s.at_ ≤ k ∧ s.L.length ≤ 9223372036854775807 ∧ ∀ n ∈ s.L, I64 n
theorem StrOk.mono {k k' : Nat} {s : z234} (h : StrOk k s) (hk : k ≤ k') : StrOk k' s := ⟨h.1, by have := h.2.1; omega, h.2.2⟩
/-- One number further. -/
abbrev nxt (s : z234) : z234 := z234.mk s.L (IntKind.wrap .i64 (s.at_ + 1))
theorem StrOk.nxt {k : Nat} {s : z234} (h : StrOk k s) (hk : k < 1099511627776) : StrOk (k + 1) (nxt s) := by
  obtain ⟨h1, h2, h3, h4⟩ := h
  refine ⟨?_, ?_, h3, h4⟩
  · show 0 ≤ IntKind.wrap .i64 (s.at_ + 1)
    rw [wrap64 (by omega) (by omega)]; omega
  · show IntKind.wrap .i64 (s.at_ + 1) ≤ _
    rw [wrap64 (by omega) (by omega)]; omega

theorem Next_ok {k : Nat} {s : z234} {n : Int} (h : StrOk k s) (hk : k < 1099511627776) (hn : I64 n) : Ok (z238 s n) (fun r => (1 ≤ n → 0 ≤ r ∧ r < n) ∧ (n < 1 → r = 0)) := by
  obtain ⟨h1, h2, h3, h4⟩ := h
  unfold z238
  refine .cond (fun _ => ?_) (fun hl => ?_)
  · exact (Below_ok (wrap_I64 _) hn).bind fun r hr => .some hr
  · have hl' : s.L.length ≠ 0 := by simpa using hl
    have e1 : IntKind.wrap .i64 (s.at_ + 1) = s.at_ + 1 := wrap64 (by omega) (by omega)
    have e2 : IntKind.wrap .i64 (s.at_ + 1 - 1) = s.at_ := by rw [wrap64 (by omega) (by omega)]; omega
    refine .gd (by simpa using hl') ?_
    rw [e1, e2]
    refine (at_mem (tmod_nonneg h1) (tmod_lt' (by omega))).bind fun y hy => ?_
    refine (Below_ok (h4 y hy) (by unfold I64; omega)).bind fun r1 hr1 => ?_
    exact (Below_ok (wrap_I64 _) hn).bind fun r hr => .some hr

theorem Pick_ok {k : Nat} {s : z234} {l : List Int} (h : StrOk k s) (hk : k < 1099511627776) (hl : 0 < l.length) (hl2 : l.length < 1000) : Ok (z241 s l) (fun r => r ∈ l) := by
  unfold z241
  refine (Next_ok h hk (by unfold I64; omega)).bind fun r hr => ?_
  have := hr.1 (by omega)
  exact (at_mem this.1 this.2).bind fun y hy => .some hy
theorem Flip_ok {k : Nat} {s : z234} {n : Int} (h : StrOk k s) (hk : k < 1099511627776) (hn : I64 n) : Ok (z235 s n) (fun _ => True) := by
  unfold z235
  exact (Next_ok h hk hn).bind fun r hr => .some trivial
theorem Range_ok {k : Nat} {s : z234} {low high : Int} (h : StrOk k s) (hk : k < 1099511627776) (hlow : -4611686018427387903 < low ∧ low < 4611686018427387904) (hh : -4611686018427387904 < high ∧ high < 4611686018427387903) :
    Ok (z247 s low high) (fun r => StrOk (k + 1) r.1 ∧ low ≤ r.2 ∧ (low ≤ high → r.2 ≤ high) ∧ (high < low → r.2 = low)) := by
  unfold z247
  refine .cond (fun hc => ?_) (fun hc => ?_)
  · have hc' : high < low := by simpa using hc
    exact .some ⟨h.mono (by omega), Int.le_refl _, by intro h; omega, fun _ => rfl⟩
  · have hc' : ¬ high < low := by simpa using hc
    have e1 : IntKind.wrap .i64 (high - low) = high - low := wrap64 (by omega) (by omega)
    have e2 : IntKind.wrap .i64 (high - low + 1) = high - low + 1 := wrap64 (by omega) (by omega)
    rw [e1, e2]
    refine (Next_ok h hk (by unfold I64; omega)).bind fun r hr => ?_
    have := hr.1 (by omega)
    refine .some ⟨h.nxt hk, ?_, fun _ => ?_, fun h => by omega⟩
    · show low ≤ IntKind.wrap .i64 (low + r)
      rw [wrap64 (by omega) (by omega)]; omega
    · show IntKind.wrap .i64 (low + r) ≤ high
      rw [wrap64 (by omega) (by omega)]; omega
end Go.Eng

/-
Fences that streams make.
-/
namespace Go.Eng
open Go Geo
open scoped Classical
set_option linter.unusedVariables false
set_option linter.unusedSimpArgs false

theorem Place_ok {k : Nat} {s : z234} (h : StrOk k s) (hk : k + 2 < 1099511627776) : Ok (z244 s) (fun p => (-5 ≤ p.X ∧ p.X ≤ 20) ∧ (-5 ≤ p.Y ∧ p.Y ≤ 20)) := by
  unfold z244
  refine (Pick_ok h (by omega) (by simp) (by simp)).bind fun x hx => (Pick_ok (h.nxt (by omega)) (by omega) (by simp) (by simp)).bind fun y hy => .some ?_
  simp only [List.mem_cons, List.not_mem_nil, or_false] at hx hy
  show (-5 ≤ x ∧ x ≤ 20) ∧ (-5 ≤ y ∧ y ≤ 20)
  omega
theorem corners_some (l : List api_Spot) : ∃ c, z292 l = some c ∧ (c = 0 → FRight l) := by
  obtain ⟨c, c1, c2, -⟩ := corners_both (api_Fence.mk [] l) (by simp)
  exact ⟨c, c1, c2⟩
theorem right_of_zero {l : List api_Spot} (h : z292 l = some 0) : FRight l := by
  obtain ⟨c, c1, c2⟩ := corners_some l
  rw [h] at c1
  exact c2 (Option.some.inj c1).symm
theorem shape0 : z292 [api_Spot.mk 0 0, api_Spot.mk 10 0, api_Spot.mk 10 10, api_Spot.mk 5 3, api_Spot.mk 0 10] = some 0 := by kernel_rfl
theorem shape1 : z292 [api_Spot.mk 0 10, api_Spot.mk 10 10, api_Spot.mk 10 0, api_Spot.mk 0 0] = some 0 := by kernel_rfl
theorem shape2 : z292 [api_Spot.mk 0 0, api_Spot.mk 8 0, api_Spot.mk 8 2, api_Spot.mk 2 2, api_Spot.mk 2 6, api_Spot.mk 8 6, api_Spot.mk 8 8, api_Spot.mk 0 8] = some 0 := by kernel_rfl
theorem shape3 : z292 [api_Spot.mk 0 0, api_Spot.mk 10 0, api_Spot.mk 10 10, api_Spot.mk 0 10] = some 0 := by kernel_rfl

theorem spots_ok {k : Nat} {s : z234} {n : Int} (h : StrOk k s) (hk : k + 100 < 1099511627776) (hn : 0 ≤ n ∧ n ≤ 6) :
    Ok (loopO (z258 n) (s, [], 0)) (fun r => StrOk (k + 12) r.1 ∧ r.2.length ≤ 6) := by
  refine loop_ok (fun q : z234 × List api_Spot × Int => ∃ j : Nat, q.2.2 = (j : Int) ∧ (j : Int) ≤ n ∧ q.2.1.length = j ∧ StrOk (k + 2 * j) q.1) (fun q => (n - q.2.2).toNat) ?_ ⟨0, rfl, by simpa using hn.1, rfl, by simpa using h⟩
  rintro ⟨s, l, i⟩ ⟨j, rfl, j1, j2, j3⟩
  simp only at j2 j3
  unfold z258
  refine .cond (fun hc => ?_) (fun hc => ?_)
  · have hc : (j : Int) < n := by simpa using hc
    refine (Place_ok j3 (by omega)).bind fun p hp => .gd (ble_lim (by simp; omega)) ?_
    have w1 : IntKind.wrap .i64 ((j : Int) + 1) = ((j + 1 : Nat) : Int) := by rw [wrap64 (by omega) (by omega)]; omega
    refine .some ⟨⟨j + 1, w1, by omega, by simp; omega, ((j3.nxt (by omega)).nxt (by omega)).mono (by omega)⟩, ?_⟩
    show (n - IntKind.wrap .i64 ((j : Int) + 1)).toNat < _
    rw [w1]; simp only; omega
  · exact .some ⟨j3.mono (by omega), by show l.length ≤ 6; omega⟩
theorem wide_ok {k : Nat} {s : z234} {l : List api_Spot} (h : StrOk k s) (hk : k + 100 < 1099511627776) (hl : l.length ≤ 6) :
    Ok (loopO (z267 l) (s, l, 0)) (fun r => StrOk (k + 6) r.1 ∧ r.2.length ≤ 6) := by
  refine loop_ok (fun q : z234 × List api_Spot × Int => ∃ j : Nat, q.2.2 = (j : Int) ∧ j ≤ l.length ∧ q.2.1.length = l.length ∧ StrOk (k + j) q.1) (fun q => ((l.length : Int) - q.2.2).toNat) ?_ ⟨0, rfl, by omega, rfl, by simpa using h⟩
  rintro ⟨s, m, i⟩ ⟨j, rfl, j1, j2, j3⟩
  simp only at j2 j3
  unfold z267
  refine .cond (fun hc => ?_) (fun hc => ?_)
  · have hc : (j : Int) < l.length := by simpa using hc
    refine (at_mem (l := m) (n := (j : Int)) (by omega) (by omega)).bind fun y hy => (Pick_ok j3 (by omega) (by simp) (by simp)).bind fun x hx => ?_
    have w1 : IntKind.wrap .i64 ((j : Int) + 1) = ((j + 1 : Nat) : Int) := by rw [wrap64 (by omega) (by omega)]; omega
    refine .some ⟨⟨j + 1, w1, by omega, by simp; omega, (j3.nxt (by omega)).mono (by omega)⟩, ?_⟩
    show ((l.length : Int) - IntKind.wrap .i64 ((j : Int) + 1)).toNat < _
    rw [w1]; simp only; omega
  · exact .some ⟨j3.mono (by omega), by show m.length ≤ 6; omega⟩
theorem RightFence_ok {k : Nat} {s : z234} (h : StrOk k s) (hk : k + 1000 < 1099511627776) :
    Ok (z250 s) (fun r => StrOk (k + 100) r.1 ∧ z292 r.2 = some 0 ∧ r.2.length ≤ 8) := by
  unfold z250
  have key : Ok (loopO z253 (s, 0)) (fun r => match r with | .inl s' => StrOk (k + 90) s' | .inr q => StrOk (k + 90) q.1 ∧ z292 q.2 = some 0 ∧ q.2.length ≤ 6) := by
    refine loop_ok (fun q : z234 × Int => ∃ j : Nat, q.2 = (j : Int) ∧ j ≤ 4 ∧ StrOk (k + 20 * j) q.1) (fun q => ((4 : Int) - q.2).toNat) ?_ ⟨0, rfl, by omega, by simpa using h⟩
    rintro ⟨s, i⟩ ⟨j, rfl, j1, j3⟩
    simp only at j3
    unfold z253
    refine .cond (fun hc => ?_) (fun hc => ?_)
    · have hc : (j : Int) < 4 := by simpa using hc
      refine (Range_ok j3 (by omega) (by omega) (by omega)).bind fun ⟨s1, n⟩ ⟨r1, r2, r3, _⟩ => ?_
      simp only at r1 r2 r3
      refine (spots_ok r1 (by omega) ⟨by omega, r3 (by omega)⟩).bind fun ⟨s2, l2⟩ ⟨q1, q2⟩ => ?_
      simp only at q1 q2
      have hx3 : Ok (z263 s2 l2) (fun r => StrOk (k + 20 * j + 20) r.1 ∧ r.2.length ≤ 6) := by
        unfold z263
        refine (Flip_ok q1 (by omega) (by unfold I64; omega)).bind fun b _ => .cond (fun _ => ?_) (fun _ => ?_)
        · refine (wide_ok (q1.nxt (by omega)) (by omega) q2).bind fun ⟨s3, l3⟩ ⟨p1, p2⟩ => .some ⟨p1.mono (by omega), p2⟩
        · exact .some ⟨(q1.nxt (by omega)).mono (by omega), q2⟩
      refine hx3.bind fun ⟨s4, l4⟩ ⟨p1, p2⟩ => ?_
      simp only at p1 p2
      obtain ⟨c, c1, c2⟩ := corners_some l4
      simp only [c1, Option.bind_some]
      refine .cond (fun hc0 => ?_) (fun _ => ?_)
      · have hc0 : c = 0 := by simpa using hc0
        exact .some ⟨p1.mono (by omega), by rw [c1, hc0], p2⟩
      · have w1 : IntKind.wrap .i64 ((j : Int) + 1) = ((j + 1 : Nat) : Int) := by rw [wrap64 (by omega) (by omega)]; omega
        refine .some ⟨⟨j + 1, w1, by omega, p1.mono (by omega)⟩, ?_⟩
        show ((4 : Int) - IntKind.wrap .i64 ((j : Int) + 1)).toNat < _
        rw [w1]; omega
    · exact .some (j3.mono (by omega))
  refine key.bind fun r hr => ?_
  cases r with
  | inr q =>
    obtain ⟨s', l'⟩ := q
    exact .some ⟨hr.1.mono (by omega), hr.2.1, by have := hr.2.2; simp only at this ⊢; omega⟩
  | inl s' =>
    have hr : StrOk (k + 90) s' := hr
    have hx5 : Ok (z272 s') (fun l => z292 l = some 0 ∧ l.length ≤ 8) := by
      unfold z272
      refine (Next_ok hr (by omega) (by unfold I64; omega)).bind fun n _ => .cond (fun _ => .some ⟨shape0, by simp⟩) (fun _ => .cond (fun _ => .some ⟨shape1, by simp⟩) (fun _ => .cond (fun _ => .some ⟨shape2, by simp⟩) (fun _ => .some ⟨shape3, by simp⟩)))
    refine hx5.bind fun l hl => .some ⟨(hr.nxt (by omega)).mono (by omega), hl.1, hl.2⟩
end Go.Eng

/-
Series and windows; faults.
-/
namespace Go.Eng
open Go
set_option linter.unusedVariables false
set_option linter.unusedSimpArgs false

end Go.Eng

/-
Fractions: products of 128 bits, and less, both ways.
-/
namespace Go.Eng
open Go Geo
open scoped Classical
set_option linter.unusedVariables false
set_option linter.unusedSimpArgs false

theorem wrapU (n : Int) : IntKind.wrap .u64 n = n % 18446744073709551616 := by
  unfold IntKind.wrap
  simp [IntKind.bits, IntKind.signed]
theorem shr32 {n : Int} (h : 0 ≤ n) : ishr .u64 n 32 = n / 4294967296 := by
  unfold ishr
  have : (2 : Int) ^ (min (32 : Int).toNat (IntKind.bits .u64)) = 4294967296 := by decide
  rw [this]
  exact Int.fdiv_eq_ediv_of_nonneg _ (by omega)
theorem and32 {n : Int} (h : 0 ≤ n) (h2 : n < 18446744073709551616) : ibits .and .u64 n 4294967295 = n % 4294967296 := by
  unfold ibits
  have e : (BitVec.ofInt (IntKind.bits .u64) n &&& BitVec.ofInt (IntKind.bits .u64) 4294967295).toNat = n.toNat % 4294967296 := by
    have hb : IntKind.bits .u64 = 64 := rfl
    rw [hb, BitVec.toNat_and]
    have e1 : (BitVec.ofInt 64 n).toNat = n.toNat := by
      rw [BitVec.toNat_ofInt]; omega
    have e2 : (BitVec.ofInt 64 4294967295).toNat = 4294967295 := by decide
    rw [e1, e2]
    exact Nat.and_two_pow_sub_one_eq_mod n.toNat 32
  simp only [e]
  rw [wrapU]
  omega
/-- the high half of a product, as the code makes it -/
def mulH (x y : Int) : Int :=
  (IntKind.wrap .u64 ((IntKind.wrap .u64 ((IntKind.wrap .u64 ((ishr .u64 (IntKind.wrap .u64 (x)) 32) * (ishr .u64 (IntKind.wrap .u64 (y)) 32))) + (ishr .u64 (IntKind.wrap .u64 ((IntKind.wrap .u64 ((ishr .u64 (IntKind.wrap .u64 (x)) 32) * (ibits .and .u64 (IntKind.wrap .u64 (y)) 4294967295))) + (ishr .u64 (IntKind.wrap .u64 ((ibits .and .u64 (IntKind.wrap .u64 (x)) 4294967295) * (ibits .and .u64 (IntKind.wrap .u64 (y)) 4294967295))) 32))) 32))) + (ishr .u64 (IntKind.wrap .u64 ((ibits .and .u64 (IntKind.wrap .u64 ((IntKind.wrap .u64 ((ishr .u64 (IntKind.wrap .u64 (x)) 32) * (ibits .and .u64 (IntKind.wrap .u64 (y)) 4294967295))) + (ishr .u64 (IntKind.wrap .u64 ((ibits .and .u64 (IntKind.wrap .u64 (x)) 4294967295) * (ibits .and .u64 (IntKind.wrap .u64 (y)) 4294967295))) 32))) 4294967295) + (IntKind.wrap .u64 ((ibits .and .u64 (IntKind.wrap .u64 (x)) 4294967295) * (ishr .u64 (IntKind.wrap .u64 (y)) 32))))) 32)))
theorem mod_mul_bd {a b m k : Int} (ha : 0 ≤ a ∧ a ≤ m) (hb : 0 ≤ b ∧ b ≤ k) : 0 ≤ a * b ∧ a * b ≤ m * k := by
  have := mul_bd (x := a) (y := b) (m := m) (k := k) (by omega) (by omega)
  have := PP ha.1 hb.1
  omega
theorem mulH_eq {x y : Int} (hx : 0 ≤ x ∧ x < 9223372036854775808) (hy : 0 ≤ y ∧ y < 9223372036854775808) : mulH x y = x * y / 18446744073709551616 := by
  unfold mulH
  have wx : IntKind.wrap .u64 x = x := by rw [wrapU]; omega
  have wy : IntKind.wrap .u64 y = y := by rw [wrapU]; omega
  rw [wx, wy, shr32 hx.1, shr32 hy.1, and32 hx.1 (by omega), and32 hy.1 (by omega)]
  have x1 : 0 ≤ x / 4294967296 ∧ x / 4294967296 ≤ 2147483647 := by omega
  have y1 : 0 ≤ y / 4294967296 ∧ y / 4294967296 ≤ 2147483647 := by omega
  have x0 : 0 ≤ x % 4294967296 ∧ x % 4294967296 ≤ 4294967295 := by omega
  have y0 : 0 ≤ y % 4294967296 ∧ y % 4294967296 ≤ 4294967295 := by omega
  have hxy : x * y = (x / 4294967296 * (y / 4294967296)) * 18446744073709551616 + (x / 4294967296 * (y % 4294967296) + x % 4294967296 * (y / 4294967296)) * 4294967296 + x % 4294967296 * (y % 4294967296) := by
    have e1 : x = x / 4294967296 * 4294967296 + x % 4294967296 := by omega
    have e2 : y = y / 4294967296 * 4294967296 + y % 4294967296 := by omega
    generalize x / 4294967296 = a at *
    generalize x % 4294967296 = b at *
    generalize y / 4294967296 = c at *
    generalize y % 4294967296 = d at *
    rw [e1, e2]
    grind
  have bA := mod_mul_bd x1 y1
  have bB := mod_mul_bd x1 y0
  have bC := mod_mul_bd x0 y1
  have bD := mod_mul_bd x0 y0
  rw [hxy]
  generalize x / 4294967296 * (y / 4294967296) = A at *
  generalize x / 4294967296 * (y % 4294967296) = B at *
  generalize x % 4294967296 * (y / 4294967296) = C at *
  generalize x % 4294967296 * (y % 4294967296) = D at *
  clear hxy wx wy x1 y1 x0 y0 hx hy
  rw [wrapU A, wrapU B, wrapU C, wrapU D]
  rw [Int.emod_eq_of_lt (a := A) (by omega) (by omega), Int.emod_eq_of_lt (a := B) (by omega) (by omega), Int.emod_eq_of_lt (a := C) (by omega) (by omega), Int.emod_eq_of_lt (a := D) (by omega) (by omega)]
  rw [shr32 (n := D) (by omega), wrapU (B + D / 4294967296), Int.emod_eq_of_lt (a := B + D / 4294967296) (by omega) (by omega)]
  rw [shr32 (n := B + D / 4294967296) (by omega), and32 (n := B + D / 4294967296) (by omega) (by omega)]
  rw [wrapU ((B + D / 4294967296) % 4294967296 + C), Int.emod_eq_of_lt (a := (B + D / 4294967296) % 4294967296 + C) (by omega) (by omega)]
  rw [shr32 (n := (B + D / 4294967296) % 4294967296 + C) (by omega)]
  rw [wrapU (A + (B + D / 4294967296) / 4294967296), Int.emod_eq_of_lt (a := A + (B + D / 4294967296) / 4294967296) (by omega) (by omega)]
  rw [wrapU, Int.emod_eq_of_lt (by omega) (by omega)]
  omega
theorem mulL_eq {x y : Int} (hx : 0 ≤ x ∧ x < 9223372036854775808) (hy : 0 ≤ y ∧ y < 9223372036854775808) : IntKind.wrap .u64 (IntKind.wrap .u64 x * IntKind.wrap .u64 y) = x * y % 18446744073709551616 := by
  have wx : IntKind.wrap .u64 x = x := by rw [wrapU]; omega
  have wy : IntKind.wrap .u64 y = y := by rw [wrapU]; omega
  rw [wx, wy, wrapU]
theorem cmpP_eq {a b c d : Int} (ha : 0 ≤ a ∧ a < 9223372036854775808) (hb : 0 ≤ b ∧ b < 9223372036854775808) (hc : 0 ≤ c ∧ c < 9223372036854775808) (hd : 0 ≤ d ∧ d < 9223372036854775808) :
    z4 a b c d = some (cmpI (a * b) (c * d)) := by
  unfold z4 z129
  have e2 : z11 a b c d = cond (!decide (mulH a b = mulH c d)) (some (decide (mulH a b < mulH c d))) (some false) := rfl
  have e1 : z7 a b c d = (z11 a b c d).bind fun vx1 => cond vx1 (some vx1) (cond (decide (mulH a b = mulH c d)) (some (decide (IntKind.wrap .u64 (IntKind.wrap .u64 a * IntKind.wrap .u64 b) < IntKind.wrap .u64 (IntKind.wrap .u64 c * IntKind.wrap .u64 d)))) (some false)) := rfl
  have e3 : z15 a b c d = cond (decide (mulH a b = mulH c d)) (some (decide (IntKind.wrap .u64 (IntKind.wrap .u64 a * IntKind.wrap .u64 b) = IntKind.wrap .u64 (IntKind.wrap .u64 c * IntKind.wrap .u64 d)))) (some false) := rfl
  rw [e1, e2, e3, mulH_eq ha hb, mulH_eq hc hd, mulL_eq ha hb, mulL_eq hc hd]
  have p1 := PP ha.1 hb.1
  have p2 := PP hc.1 hd.1
  generalize a * b = P at *
  generalize c * d = Q at *
  unfold cmpI
  by_cases h1 : P / 18446744073709551616 = Q / 18446744073709551616
  · by_cases h2 : P % 18446744073709551616 < Q % 18446744073709551616
    · have : P < Q := by omega
      simp [h1, h2, this]
    · by_cases h3 : P % 18446744073709551616 = Q % 18446744073709551616
      · have : P = Q := by omega
        subst this
        simp
      · have n1 : ¬ P < Q := by omega
        have n2 : Q < P := by omega
        simp [h1, h2, h3, n1, n2]
  · by_cases h2 : P / 18446744073709551616 < Q / 18446744073709551616
    · have : P < Q := by omega
      simp [h1, h2, this]
    · have n1 : ¬ P < Q := by omega
      have n2 : Q < P := by omega
      simp [h1, h2, n1, n2]

/-! ### Fractions -/
/-- a fraction as distances are -/
def FrR (f : api_Fraction) : Prop := (0 ≤ f.Num ∧ f.Num ≤ 1000000000000000000) ∧ (1 ≤ f.Den ∧ f.Den ≤ 1000000000000000000)
def frL (a b : api_Fraction) : Bool := decide (a.Num * b.Den < b.Num * a.Den)
theorem pless_eq {a b : api_Fraction} (ha : FrR a) (hb : FrR b) : z581 a b = some (frL a b) := by
  obtain ⟨a1, a2⟩ := ha; obtain ⟨b1, b2⟩ := hb
  unfold z581 frL
  rw [cmpP_eq (by omega) (by omega) (by omega) (by omega)]
  simp only [Option.bind_some]
  congr 1
  rw [decide_eq_decide]
  unfold cmpI
  (repeat' split) <;> omega
end Go.Eng

/-
The law FencesTell: areas and boxes, both ways.
-/
namespace Go.Eng
open Go Geo
open scoped Classical
set_option linter.unusedVariables false
set_option linter.unusedSimpArgs false

/-! ### Areas -/
/-! ### Boxes -/
def bx (l : List api_Spot) (c : api_Spot) : api_Spot × api_Spot :=
  (api_Spot.mk ((l.map (·.X)).foldl min c.X) ((l.map (·.Y)).foldl min c.Y), api_Spot.mk ((l.map (·.X)).foldl max c.X) ((l.map (·.Y)).foldl max c.Y))
end Go.Eng

/-
The law FencesTell.
-/
namespace Go.Eng
open Go Geo
open scoped Classical
set_option linter.unusedVariables false
set_option linter.unusedSimpArgs false

end Go.Eng

/-
How far, and where surely: both ways.
-/
namespace Go.Eng
open Go Geo
open scoped Classical
set_option linter.unusedVariables false
set_option linter.unusedSimpArgs false

/-! ### The greatest common divisor -/
theorem gcd_loop {f : Int × Int → Option ((Int × Int) ⊕ Int)} (hf : ∀ a b, f (a, b) = cond (!decide (b = 0)) (gd (!(b == 0)) (some (.inl (b, a.tmod b)))) (some (.inr a))) {a b : Int} (ha : 0 ≤ a) (hb : 0 ≤ b) :
    loopO f (a, b) = some ((a.toNat.gcd b.toNat : Nat) : Int) := by
  apply Ok.eq
  refine loop_ok (fun q : Int × Int => 0 ≤ q.1 ∧ 0 ≤ q.2 ∧ q.1.toNat.gcd q.2.toNat = a.toNat.gcd b.toNat) (fun q => q.2.toNat) ?_ ⟨ha, hb, rfl⟩
  rintro ⟨x, y⟩ ⟨h1, h2, h3⟩
  simp only at h1 h2 h3
  rw [hf]
  refine .cond (fun hc => ?_) (fun hc => ?_)
  · have hy : y ≠ 0 := by simpa using hc
    have m1 : x.tmod y = x % y := Int.tmod_eq_emod_of_nonneg h1
    have m2 := Int.emod_nonneg x hy
    have m3 := Int.emod_lt_of_pos x (show 0 < y by omega)
    rw [m1]
    refine .gd (by simpa using hy) (.some ⟨⟨h2, m2, ?_⟩, by simp only; omega⟩)
    simp only
    rw [← h3]
    have e : (x % y).toNat = x.toNat % y.toNat := by
      obtain ⟨n, rfl⟩ := Int.eq_ofNat_of_zero_le h1
      obtain ⟨m, rfl⟩ := Int.eq_ofNat_of_zero_le h2
      simp only [Int.ofNat_eq_natCast, Int.toNat_natCast]
      rw [← Int.natCast_emod, Int.toNat_natCast]
    rw [e, Nat.gcd_comm y.toNat, ← Nat.gcd_rec, Nat.gcd_comm]
  · have hy : y = 0 := by simpa using hc
    subst hy
    refine .some ?_
    have h3 : x.toNat.gcd 0 = a.toNat.gcd b.toNat := h3
    rw [Nat.gcd_zero_right] at h3
    omega
/-- a fraction in lowest terms -/
def lowF (n d : Int) : api_Fraction := api_Fraction.mk (n / ((n.toNat.gcd d.toNat : Nat) : Int)) (d / ((n.toNat.gcd d.toNat : Nat) : Int))
theorem gcd_facts {n d : Int} (hn : 0 ≤ n) (hd : 1 ≤ d) : 1 ≤ ((n.toNat.gcd d.toNat : Nat) : Int) ∧ ((n.toNat.gcd d.toNat : Nat) : Int) ≤ d := by
  have h1 : 0 < n.toNat.gcd d.toNat := Nat.gcd_pos_of_pos_right _ (by omega)
  have h2 : n.toNat.gcd d.toNat ≤ d.toNat := Nat.gcd_le_right _ (by omega)
  omega
theorem lowF_R {n d : Int} (hn : 0 ≤ n ∧ n ≤ 1000000000000000000) (hd : 1 ≤ d ∧ d ≤ 1000000000000000000) : FrR (lowF n d) := by
  obtain ⟨g1, g2⟩ := gcd_facts hn.1 hd.1
  unfold FrR lowF
  have e1 := Int.ediv_nonneg hn.1 (show 0 ≤ ((n.toNat.gcd d.toNat : Nat) : Int) by omega)
  have e2 := Int.ediv_le_self ((n.toNat.gcd d.toNat : Nat) : Int) hn.1
  have e3 := Int.ediv_le_self ((n.toNat.gcd d.toNat : Nat) : Int) (show 0 ≤ d by omega)
  have e4 : 1 ≤ d / ((n.toNat.gcd d.toNat : Nat) : Int) := (Int.le_ediv_iff_mul_le (by omega)).2 (by omega)
  simp only
  omega
theorem fraction_eq {n d : Int} (hn : 0 ≤ n ∧ n ≤ 1000000000000000000) (hd : 1 ≤ d ∧ d ≤ 1000000000000000000) : z35 n d = some (lowF n d) := by
  unfold z35 base_Gcd
  have e0 : imax n (IntKind.wrap .i64 (0 - n)) = n := by rw [wrap64 (by omega) (by omega), imax_eq]; omega
  have hR := lowF_R hn hd
  obtain ⟨g1, g2⟩ := gcd_facts hn.1 hd.1
  have hg : (!(((n.toNat.gcd d.toNat : Nat) : Int) == 0)) = true := by simp only [Bool.not_eq_true', beq_eq_false_iff_ne]; omega
  have t1 : n.tdiv ((n.toNat.gcd d.toNat : Nat) : Int) = n / ((n.toNat.gcd d.toNat : Nat) : Int) := Int.tdiv_eq_ediv_of_nonneg hn.1
  have t2 : d.tdiv ((n.toNat.gcd d.toNat : Nat) : Int) = d / ((n.toNat.gcd d.toNat : Nat) : Int) := Int.tdiv_eq_ediv_of_nonneg (by omega)
  rw [e0, gcd_loop (f := z40) (fun a b => rfl) hn.1 (by omega)]
  simp only [Option.bind_some, gd_true hg, t1, t2]
  unfold FrR lowF at hR
  simp only at hR
  rw [wrap64 (n := n / _) (by omega) (by omega), wrap64 (n := d / _) (by omega) (by omega)]
  rfl
/-! ### How far a spot is from a way -/
def along (a b s : api_Spot) : Int := (s.X - a.X) * (b.X - a.X) + (s.Y - a.Y) * (b.Y - a.Y)
def sqS (a b : api_Spot) : Int := (a.X - b.X) * (a.X - b.X) + (a.Y - b.Y) * (a.Y - b.Y)
def farF (a b s : api_Spot) : api_Fraction :=
  if along a b s ≤ 0 then api_Fraction.mk (sqS a s) 1 else if sqS a b ≤ along a b s then api_Fraction.mk (sqS b s) 1 else lowF (sd a.X a.Y b.X b.Y s.X s.Y * sd a.X a.Y b.X b.Y s.X s.Y) (sqS a b)
theorem wdot {x y u v : Int} (hx : -20000 ≤ x ∧ x ≤ 20000) (hy : -20000 ≤ y ∧ y ≤ 20000) (hu : -20000 ≤ u ∧ u ≤ 20000) (hv : -20000 ≤ v ∧ v ≤ 20000) :
    IntKind.wrap .i64 (IntKind.wrap .i64 (x * y) + IntKind.wrap .i64 (u * v)) = x * y + u * v ∧ -800000000 ≤ x * y + u * v ∧ x * y + u * v ≤ 800000000 := by
  have m1 := wmul hx hy
  have m2 := wmul hu hv
  rw [m1.1, m2.1, wrap64 (by omega) (by omega)]
  exact ⟨rfl, by omega, by omega⟩
theorem sqS_bd {a b : api_Spot} (ha : InB a) (hb : InB b) : 0 ≤ sqS a b ∧ sqS a b ≤ 800000000 := by
  unfold InB at ha hb
  have := wdot (x := a.X - b.X) (y := a.X - b.X) (u := a.Y - b.Y) (v := a.Y - b.Y) (by omega) (by omega) (by omega) (by omega)
  have h1 := sq_nn (a.X - b.X)
  have h2 := sq_nn (a.Y - b.Y)
  unfold sqS; omega
theorem sdsq_bd {a b s : api_Spot} (ha : InB a) (hb : InB b) (hs : InB s) : 0 ≤ sd a.X a.Y b.X b.Y s.X s.Y * sd a.X a.Y b.X b.Y s.X s.Y ∧ sd a.X a.Y b.X b.Y s.X s.Y * sd a.X a.Y b.X b.Y s.X s.Y ≤ 640000000000000000 := by
  have h := sd_bd ha hb hs
  have := mul_bd (m := 800000000) (k := 800000000) h h
  have := sq_nn (sd a.X a.Y b.X b.Y s.X s.Y)
  omega
theorem farF_R {a b s : api_Spot} (ha : InB a) (hb : InB b) (hs : InB s) : FrR (farF a b s) := by
  have h1 := sqS_bd ha hs
  have h2 := sqS_bd hb hs
  have h3 := sqS_bd ha hb
  have h4 := sdsq_bd ha hb hs
  unfold farF
  split
  · unfold FrR; simp only; omega
  · split
    · unfold FrR; simp only; omega
    · exact lowF_R (by omega) (by omega)
theorem far_eq {a b s : api_Spot} (ha : InB a) (hb : InB b) (hs : InB s) : place_far a b s = some (farF a b s) := by
  have h3 := sqS_bd ha hb
  have h4 := sdsq_bd ha hb hs
  have hsd := side_wrap ha hb hs
  have h1 := ha; have h2 := hb; have h5 := hs
  unfold InB at h1 h2 h5
  unfold place_far z607 z601
  simp only [Option.bind_some, hsd]
  rw [wrap64 (n := s.X - a.X) (by omega) (by omega), wrap64 (n := s.Y - a.Y) (by omega) (by omega), wrap64 (n := b.X - a.X) (by omega) (by omega), wrap64 (n := b.Y - a.Y) (by omega) (by omega),
    wrap64 (n := a.X - b.X) (by omega) (by omega), wrap64 (n := a.Y - b.Y) (by omega) (by omega), wrap64 (n := a.X - s.X) (by omega) (by omega), wrap64 (n := a.Y - s.Y) (by omega) (by omega),
    wrap64 (n := b.X - s.X) (by omega) (by omega), wrap64 (n := b.Y - s.Y) (by omega) (by omega)]
  rw [(wdot (x := s.X - a.X) (y := b.X - a.X) (u := s.Y - a.Y) (v := b.Y - a.Y) (by omega) (by omega) (by omega) (by omega)).1,
    (wdot (x := a.X - s.X) (y := a.X - s.X) (u := a.Y - s.Y) (v := a.Y - s.Y) (by omega) (by omega) (by omega) (by omega)).1,
    (wdot (x := a.X - b.X) (y := a.X - b.X) (u := a.Y - b.Y) (v := a.Y - b.Y) (by omega) (by omega) (by omega) (by omega)).1,
    (wdot (x := b.X - s.X) (y := b.X - s.X) (u := b.Y - s.Y) (v := b.Y - s.Y) (by omega) (by omega) (by omega) (by omega)).1]
  rw [wrap64 (n := sd a.X a.Y b.X b.Y s.X s.Y * sd a.X a.Y b.X b.Y s.X s.Y) (by omega) (by omega)]
  show cond (decide (along a b s ≤ 0)) (some (api_Fraction.mk (sqS a s) 1)) (cond (decide (sqS a b ≤ along a b s)) (some (api_Fraction.mk (sqS b s) 1)) ((z35 (sd a.X a.Y b.X b.Y s.X s.Y * sd a.X a.Y b.X b.Y s.X s.Y) (sqS a b)).bind fun vr1 => some vr1)) = _
  unfold farF
  by_cases c1 : along a b s ≤ 0
  · simp only [c1, decide_true, cond_true, if_true]
  · by_cases c2 : sqS a b ≤ along a b s
    · simp only [c1, c2, decide_true, decide_false, cond_true, cond_false, if_true, if_false]
    · simp only [c1, c2, decide_false, cond_false, if_false]
      rw [fraction_eq (by omega) (by omega)]; rfl
/-! ### How far a spot is from the nearest edge -/
/-! ### Where surely -/
theorem err_R {x : Int} (h : 0 ≤ x ∧ x ≤ 10000) : IntKind.wrap .i64 (x * x) = x * x ∧ FrR ⟨x * x, 1⟩ := by
  have := mod_mul_bd (a := x) (b := x) (m := 10000) (k := 10000) h h
  exact ⟨wrap64 (by omega) (by omega), by unfold FrR; simp only; omega⟩
end Go.Eng

/-
The law FencesSure.
-/
namespace Go.Eng
open Go Geo
open scoped Classical
set_option linter.unusedVariables false
set_option linter.unusedSimpArgs false

end Go.Eng

/-
What the laws ask of each package once.
-/
namespace Go.Eng
open Go
theorem ready_eq : z204 = some true := by kernel_rfl
end Go.Eng

/-
Tracks that streams make; where a device stays.
-/
namespace Go.Eng
open Go Geo
open scoped Classical
set_option linter.unusedVariables false
set_option linter.unusedSimpArgs false

def fsp (x : api_Fix) : api_Spot := api_Spot.mk x.X x.Y
/-- a fix as right tracks have it -/
def FixR (x : api_Fix) : Prop := x.Device = [100] ∧ InB (fsp x) ∧ (0 ≤ x.At ∧ x.At ≤ 20000) ∧ (0 ≤ x.Error ∧ x.Error ≤ 5)
def TrackR (l : List api_Fix) : Prop := l.length ≤ 14 ∧ (∀ x ∈ l, FixR x) ∧ l.Pairwise (fun x y => x.At < y.At)
theorem TrackR.lt {l : List api_Fix} (h : TrackR l) {i j : Nat} (hi : i < j) (hj : j < l.length) : (l[i]'(by omega)).At < l[j].At :=
  List.pairwise_iff_getElem.1 h.2.2 i j (by omega) hj hi

theorem RightTrack_ok {k : Nat} {s : z234} {most : Int} (hm : 0 ≤ most ∧ most ≤ 14) (h : StrOk k s) (hk : k + 1000 < 1099511627776) : Ok (z276 s most) (fun r => StrOk (k + 200) r.1 ∧ TrackR r.2 ∧ (r.2.length : Int) ≤ most) := by
  unfold z276
  refine (Place_ok h (by omega)).bind fun p hp => ?_
  refine (Range_ok ((h.nxt (by omega)).nxt (by omega)) (by omega) (by omega) (by omega)).bind fun ⟨s1, n⟩ ⟨r1, r2, r3, _⟩ => ?_
  have r3 : n ≤ most := r3 (by omega)
  have r2 : 0 ≤ n := r2
  have r1 : StrOk (k + 3) s1 := r1
  have key : Ok (loopO (z279 n) (s1, p, [], 0, 0)) (fun r => StrOk (k + 200) r.1 ∧ TrackR r.2 ∧ (r.2.length : Int) ≤ most) := by
    refine loop_ok (fun q : z234 × api_Spot × List api_Fix × Int × Int => ∃ j : Nat, q.2.2.2.2 = (j : Int) ∧ (j : Int) ≤ n ∧ q.2.2.1.length = j ∧ StrOk (k + 3 + 12 * j) q.1 ∧ (0 ≤ q.2.2.2.1 ∧ q.2.2.2.1 ≤ 1000 * (j : Int)) ∧
      ((-5 - 2 * (j : Int) ≤ q.2.1.X ∧ q.2.1.X ≤ 20 + 2 * (j : Int)) ∧ (-5 - 2 * (j : Int) ≤ q.2.1.Y ∧ q.2.1.Y ≤ 20 + 2 * (j : Int))) ∧ (∀ x ∈ q.2.2.1, FixR x ∧ x.At ≤ q.2.2.2.1) ∧ q.2.2.1.Pairwise (fun x y => x.At < y.At))
      (fun q => (n - q.2.2.2.2).toNat) ?_ ⟨0, rfl, by simpa using r2, rfl, by simpa using r1, by simp, by simp; omega, by simp, by simp⟩
    rintro ⟨s, p, l, at_, i⟩ ⟨j, rfl, j1, j2, j3, j4, j5, j6, j7⟩
    simp only at j2 j3 j4 j5 j6 j7
    unfold z279
    refine .cond (fun hc => ?_) (fun hc => ?_)
    · have hc : (j : Int) < n := by simpa using hc
      refine (Pick_ok j3 (by omega) (by simp) (by simp)).bind fun st hst => ?_
      have hst : 1 ≤ st ∧ st ≤ 1000 := by
        simp only [List.mem_cons, List.not_mem_nil, or_false] at hst; omega
      have a1 := j3.nxt (by omega)
      have hx2 : Ok (z284 s p) (fun r => StrOk (k + 3 + 12 * j + 5) r.1 ∧ ((-5 - 2 * ((j + 1 : Nat) : Int) ≤ r.2.X ∧ r.2.X ≤ 20 + 2 * ((j + 1 : Nat) : Int)) ∧ (-5 - 2 * ((j + 1 : Nat) : Int) ≤ r.2.Y ∧ r.2.Y ≤ 20 + 2 * ((j + 1 : Nat) : Int)))) := by
        unfold z284
        have a2 := a1.nxt (by omega)
        refine (Flip_ok a1 (by omega) (by unfold I64; omega)).bind fun b _ => .cond (fun _ => ?_) (fun _ => ?_)
        · exact (Place_ok a2 (by omega)).bind fun q hq => .some ⟨((a2.nxt (by omega)).nxt (by omega)).mono (by omega), by simp only; omega⟩
        · refine (Range_ok a2 (by omega) (by omega) (by omega)).bind fun ⟨s6, x⟩ ⟨x1, x2, x3, _⟩ => ?_
          have x3 : x ≤ 2 := x3 (by omega)
          have x2 : -2 ≤ x := x2
          refine (Range_ok x1 (by omega) (by omega) (by omega)).bind fun ⟨s7, y⟩ ⟨y1, y2, y3, _⟩ => ?_
          have y3 : y ≤ 2 := y3 (by omega)
          have y2 : -2 ≤ y := y2
          refine .some ⟨StrOk.mono y1 (by omega), ?_⟩
          simp only
          rw [wrap64 (by omega) (by omega), wrap64 (by omega) (by omega)]
          omega
      refine hx2.bind fun ⟨s8, p2⟩ ⟨b1, b2⟩ => ?_
      have b1 : StrOk (k + 3 + 12 * j + 5) s8 := b1
      simp only at b2
      refine (Pick_ok b1 (by omega) (by simp) (by simp)).bind fun er her => ?_
      have her : 0 ≤ er ∧ er ≤ 5 := by
        simp only [List.mem_cons, List.not_mem_nil, or_false] at her; omega
      have w0 : IntKind.wrap .i64 (at_ + st) = at_ + st := wrap64 (by omega) (by omega)
      have hx3 : Ok (z288 at_ st s8 p2 er) (fun r => StrOk (k + 3 + 12 * j + 10) r.1 ∧ FixR r.2 ∧ r.2.At = at_ + st) := by
        unfold z288
        rw [w0]
        have c1 := b1.nxt (by omega)
        have c2 := c1.nxt (by omega)
        refine (Flip_ok c1 (by omega) (by unfold I64; omega)).bind fun b _ => .cond (fun _ => ?_) (fun _ => ?_)
        · refine (Pick_ok c2 (by omega) (by simp) (by simp)).bind fun x hx => .some ⟨(c2.nxt (by omega)).mono (by omega), ⟨rfl, ?_, ?_, her⟩, rfl⟩
          · simp only [List.mem_cons, List.not_mem_nil, or_false] at hx
            unfold InB fsp; simp only; omega
          · simp only; omega
        · refine .some ⟨c2.mono (by omega), ⟨rfl, ?_, ?_, her⟩, rfl⟩
          · unfold InB fsp; simp only; omega
          · simp only; omega
      refine hx3.bind fun ⟨s9, x⟩ ⟨d1, d2, d3⟩ => .gd (ble_lim (by simp; omega)) ?_
      have d1 : StrOk (k + 3 + 12 * j + 10) s9 := d1
      simp only at d2 d3
      have w1 : IntKind.wrap .i64 ((j : Int) + 1) = ((j + 1 : Nat) : Int) := by rw [wrap64 (by omega) (by omega)]; omega
      rw [w0]
      refine .some ⟨⟨j + 1, w1, by omega, by simp; omega, d1.mono (by omega), by simp only; omega, by simp only; omega, ?_, ?_⟩, ?_⟩
      · simp only
        intro y hy
        rcases List.mem_append.1 hy with hy | hy
        · have := j6 y hy; exact ⟨this.1, by omega⟩
        · rw [List.mem_singleton] at hy; subst hy; exact ⟨d2, by omega⟩
      · simp only
        rw [List.pairwise_append]
        refine ⟨j7, by simp, fun y hy z hz => ?_⟩
        rw [List.mem_singleton] at hz; subst hz
        have := (j6 y hy).2; omega
      · show (n - IntKind.wrap .i64 ((j : Int) + 1)).toNat < (n - (j : Int)).toNat
        rw [w1]; omega
    · exact .some ⟨j3.mono (by omega), ⟨by show l.length ≤ 14; omega, fun x hx => (j6 x hx).1, j7⟩, by simp only; omega⟩
  exact key.bind fun ⟨s2, l⟩ hl => .some hl

theorem scan_const_none {α ρ : Type} : ∀ (l : List α) (k : Nat), scan (fun _ _ => (none : Option ρ)) k l = none
  | [], _ => rfl
  | _ :: l, k => scan_const_none l (k + 1)
theorem key100 : keyB [100] = true := by decide
theorem fixes_ok {l : List api_Fix} (h : TrackR l) : z389 l = some 0 := by
  unfold z389
  have hl := h.1
  have h2000 : ¬ (2000 : Int) < l.length := by omega
  simp only [h2000, decide_false, cond_false]
  rw [range_loop (l := l) (fun _ _ => none) (.inl ()) (by omega), scan_const_none]
  · rfl
  · intro i hi
    have hx := h.2.1 _ (List.getElem_mem hi)
    unfold z400
    have hi' : (i : Int) < l.length := by omega
    have hx3 : z409 l i l[i] = some false := by
      unfold z409
      by_cases h0 : (0 : Int) < i
      · have w1 : IntKind.wrap .i64 ((i : Int) - 1) = ((i - 1 : Nat) : Int) := by rw [wrap64 (by omega) (by omega)]; omega
        have hy := h.2.1 _ (List.getElem_mem (l := l) (n := i - 1) (by omega))
        have hlt := h.lt (i := i - 1) (j := i) (by omega) hi
        simp only [h0, decide_true, cond_true, w1, at_nat (l := l) (n := i - 1) (by omega), Option.bind_some, fbyDevice_eq]
        have : fOrd l[i] (l[i - 1]'(by omega)) = 1 := by
          unfold fOrd cmpI
          rw [hx.1, hy.1, cmpB_self]
          unfold or0
          rw [if_pos rfl, if_neg (by omega), if_pos hlt]
        rw [this]; rfl
      · simp only [h0, decide_false, cond_false]
    have hx2 : z405 l[i] = some false := by
      unfold z405 z604
      obtain ⟨-, b1, b2, b3⟩ := hx
      have hb := (inB_iff _).2 b1
      unfold fsp at hb
      simp only at hb
      have m1 : (decide (0 ≤ l[i].At) && decide (l[i].At ≤ 345686399999)) = true := by simp; omega
      simp only [Moment_eq, isSpot_eq, Option.bind_some, m1, hb, Bool.not_true, cond_false, Out_eq]
      have : (decide (l[i].Error < 0) || decide (10000 < l[i].Error)) = false := by simp; omega
      rw [this]
    simp only [hi', decide_true, cond_true, at_nat hi, Option.bind_some, hx.1, Key_eq [100] (by simp), key100, Bool.not_true, cond_false, hx2, hx3]
  · unfold z400
    simp
theorem track_ok {l : List api_Fix} (h : TrackR l) : z623 l = some 0 := by
  unfold z623
  have hl := h.1
  rw [fixes_ok h]
  have : z820 l = some false := by
    unfold z820 z873
    rw [range_loop (l := l) (fun _ _ => none) (.inl ()) (by omega), scan_const_none]
    · rfl
    · intro i hi
      have hx := h.2.1 _ (List.getElem_mem hi)
      have h0 := h.2.1 _ (List.getElem_mem (l := l) (n := 0) (by omega))
      unfold z876 z624
      have hi' : (i : Int) < l.length := by omega
      have g0 : at? l 0 = some (l[0]'(by omega)) := at_nat (l := l) (n := 0) (by omega)
      simp only [hi', decide_true, cond_true, at_nat hi, g0, Option.bind_some, hx.1, h0.1, Bool.not_true, cond_false]
    · unfold z876
      simp
  rw [this]; rfl

/-! ### Stays -/
def sq (a b : api_Fix) : Int := (a.X - b.X) * (a.X - b.X) + (a.Y - b.Y) * (a.Y - b.Y)
theorem sq_self (a : api_Fix) : sq a a = 0 := by unfold sq; simp
theorem sq_wrap {a b : api_Fix} (ha : FixR a) (hb : FixR b) :
    IntKind.wrap .i64 ((IntKind.wrap .i64 ((IntKind.wrap .i64 (a.X - b.X)) * (IntKind.wrap .i64 (a.X - b.X)))) + (IntKind.wrap .i64 ((IntKind.wrap .i64 (a.Y - b.Y)) * (IntKind.wrap .i64 (a.Y - b.Y))))) = sq a b := by
  obtain ⟨-, a1, -⟩ := ha; obtain ⟨-, b1, -⟩ := hb
  unfold InB fsp at a1 b1
  simp only at a1 b1
  rw [wrap64 (n := a.X - b.X) (by omega) (by omega), wrap64 (n := a.Y - b.Y) (by omega) (by omega)]
  have m1 := wmul (x := a.X - b.X) (y := a.X - b.X) (by omega) (by omega)
  have m2 := wmul (x := a.Y - b.Y) (y := a.Y - b.Y) (by omega) (by omega)
  rw [m1.1, m2.1, wrap64 (by omega) (by omega)]
  rfl
/-- a stay as it must be, behind what was before -/
def StayG (l : List api_Fix) (near long last : Int) (x : api_Stay) : Prop :=
  long ≤ x.To - x.From ∧ last < x.From ∧ (0 ≤ x.From ∧ x.From ≤ 20000) ∧ (0 ≤ x.To ∧ x.To ≤ 20000) ∧ InB x.Spot ∧
  ∀ y ∈ l, x.From ≤ y.At → y.At ≤ x.To → (y.X - x.Spot.X) * (y.X - x.Spot.X) + (y.Y - x.Spot.Y) * (y.Y - x.Spot.Y) ≤ near * near
def StaysG (l : List api_Fix) (near long : Int) : Int → List api_Stay → Prop
  | _, [] => True
  | last, x :: v => StayG l near long last x ∧ StaysG l near long x.To v
def lastTo : Int → List api_Stay → Int
  | last, [] => last
  | _, x :: v => lastTo x.To v
theorem staysG_append {l : List api_Fix} {near long : Int} {x : api_Stay} : ∀ (v : List api_Stay) (last : Int), StaysG l near long last v → StayG l near long (lastTo last v) x → StaysG l near long last (v ++ [x])
  | [], _, _, h => ⟨h, trivial⟩
  | y :: v, _, h1, h2 => ⟨h1.1, staysG_append v y.To h1.2 h2⟩
theorem lastTo_append (x : api_Stay) : ∀ (v : List api_Stay) (last : Int), lastTo last (v ++ [x]) = x.To
  | [], _ => rfl
  | y :: v, _ => lastTo_append x v y.To

theorem near_loop {l : List api_Fix} (h : TrackR l) {near : Int} (hn : 0 ≤ near ∧ near ≤ 6) {i : Nat} (hi : i < l.length) :
    Ok (loopO (z483 l near i) (IntKind.wrap .i64 ((i : Int) + 1))) (fun r => ∃ k : Nat, r = (k : Int) ∧ i < k ∧ k ≤ l.length ∧ ∀ j (hj : j < l.length), i ≤ j → j < k → sq l[i] l[j] ≤ near * near) := by
  have hl := h.1
  have hnn := PP hn.1 hn.1
  have hnb := mul_bd (x := near) (y := near) (m := 6) (k := 6) (by omega) (by omega)
  rw [wrap64 (by omega) (by omega)]
  refine loop_ok (fun q : Int => ∃ k : Nat, q = (k : Int) ∧ i < k ∧ k ≤ l.length ∧ ∀ j (hj : j < l.length), i ≤ j → j < k → sq l[i] l[j] ≤ near * near) (fun q => ((l.length : Int) - q).toNat) ?_ ⟨i + 1, by omega, by omega, by omega, fun j hj h1 h2 => ?_⟩
  · rintro q ⟨k, rfl, k1, k2, k3⟩
    unfold z483 z488 z604 z607
    by_cases hk : k < l.length
    · have hk' : (k : Int) < l.length := by omega
      simp only [hk', decide_true, cond_true, at_nat hi, at_nat hk, Option.bind_some, sq_wrap (h.2.1 _ (List.getElem_mem hi)) (h.2.1 _ (List.getElem_mem hk))]
      rw [wrap64 (n := near * near) (by omega) (by omega)]
      refine .cond (fun hc => ?_) (fun hc => ?_)
      · have hc : sq l[i] l[k] ≤ near * near := by simpa using hc
        have w1 : IntKind.wrap .i64 ((k : Int) + 1) = ((k + 1 : Nat) : Int) := by rw [wrap64 (by omega) (by omega)]; omega
        rw [w1]
        refine .some ⟨⟨k + 1, rfl, by omega, by omega, fun j hj h1 h2 => ?_⟩, by omega⟩
        by_cases hjk : j = k
        · subst hjk; exact hc
        · exact k3 j hj h1 (by omega)
      · exact .some ⟨k, rfl, k1, k2, k3⟩
    · have hk' : ¬ (k : Int) < l.length := by omega
      simp only [hk', decide_false, cond_false, Option.bind_some]
      exact .some ⟨k, rfl, k1, k2, k3⟩
  · have : j = i := by omega
    subst this
    rw [sq_self]; exact hnn

theorem Stays_ok {l : List api_Fix} (h : TrackR l) {near long : Int} (hn : 0 ≤ near ∧ near ≤ 6) (hlong : 1 ≤ long ∧ long ≤ 1000) :
    Ok (z471 l near long) (fun r => r.2 = 0 ∧ r.1.length ≤ 14 ∧ StaysG l near long (-1) r.1) := by
  have hl := h.1
  unfold z471 z474
  have o1 : (decide (near < 0) || decide (10000 < near)) = false := by simp; omega
  have o2 : (decide (long < 1) || decide (345686400000 < long)) = false := by simp; omega
  simp only [track_ok h, Option.bind_some, decide_true, Bool.not_true, cond_false, Out_eq, o1, o2]
  have key : Ok (loopO (z478 l near long) ([], 0)) (fun v => v.length ≤ 14 ∧ StaysG l near long (-1) v) := by
    refine loop_ok (fun q : List api_Stay × Int => ∃ i : Nat, q.2 = (i : Int) ∧ i ≤ l.length ∧ q.1.length ≤ i ∧ StaysG l near long (-1) q.1 ∧ ∀ (hi : i < l.length), lastTo (-1) q.1 < l[i].At) (fun q => ((l.length : Int) - q.2).toNat) ?_
      ⟨0, rfl, by omega, by simp, trivial, fun hi => by have := (h.2.1 _ (List.getElem_mem hi)).2.2.1; simp only [lastTo]; omega⟩
    rintro ⟨v, q⟩ ⟨i, rfl, i1, i2, i3, i4⟩
    simp only at i2 i3 i4
    unfold z478
    refine .cond (fun hc => ?_) (fun hc => ?_)
    · have hi : i < l.length := by have := of_decide_eq_true hc; omega
      refine (near_loop h hn hi).bind fun r hr => ?_
      obtain ⟨k, rfl, k1, k2, k3⟩ := hr
      have w1 : IntKind.wrap .i64 ((k : Int) - 1) = ((k - 1 : Nat) : Int) := by rw [wrap64 (by omega) (by omega)]; omega
      have ha := h.2.1 _ (List.getElem_mem hi)
      have hb := h.2.1 _ (List.getElem_mem (l := l) (n := k - 1) (by omega))
      rw [w1, at_nat (l := l) (n := k - 1) (by omega), at_nat hi]
      simp only [Option.bind_some]
      have a3 := ha.2.2.1; have b3 := hb.2.2.1
      rw [wrap64 (n := (l[k - 1]'(by omega)).At - l[i].At) (by omega) (by omega)]
      refine .cond (fun hlo => ?_) (fun hlo => ?_)
      · have hlo : long ≤ (l[k - 1]'(by omega)).At - l[i].At := by simpa using hlo
        unfold z604
        refine .gd (ble_lim (by simp; omega)) ?_
        refine .some ⟨⟨k, rfl, k2, by simp; omega, ?_, fun hk => ?_⟩, by simp only; omega⟩
        · refine staysG_append v (-1) i3 ⟨hlo, i4 hi, a3, b3, ha.2.1, fun y hy y1 y2 => ?_⟩
          obtain ⟨j, hj, rfl⟩ := List.mem_iff_getElem.1 hy
          have y1 : l[i].At ≤ l[j].At := y1
          have y2 : l[j].At ≤ (l[k - 1]'(by omega)).At := y2
          have j1 : i ≤ j := by
            by_cases hh : i ≤ j
            · exact hh
            · have := h.lt (i := j) (j := i) (by omega) hi; omega
          have j2 : j < k := by
            by_cases hh : j < k
            · exact hh
            · have := h.lt (i := k - 1) (j := j) (by omega) hj; omega
          have := k3 j hj j1 j2
          unfold sq at this
          show (l[j].X - l[i].X) * (l[j].X - l[i].X) + (l[j].Y - l[i].Y) * (l[j].Y - l[i].Y) ≤ _
          have e1 : (l[j].X - l[i].X) * (l[j].X - l[i].X) = (l[i].X - l[j].X) * (l[i].X - l[j].X) := by rw [← Int.neg_mul_neg, Int.neg_sub]
          have e2 : (l[j].Y - l[i].Y) * (l[j].Y - l[i].Y) = (l[i].Y - l[j].Y) * (l[i].Y - l[j].Y) := by rw [← Int.neg_mul_neg, Int.neg_sub]
          rw [e1, e2]; exact this
        · rw [lastTo_append]
          exact h.lt (i := k - 1) (j := k) (by omega) hk
      · have w2 : IntKind.wrap .i64 ((i : Int) + 1) = ((i + 1 : Nat) : Int) := by rw [wrap64 (by omega) (by omega)]; omega
        rw [w2]
        refine .some ⟨⟨i + 1, rfl, by omega, by simp only; omega, i3, fun hk => ?_⟩, by simp only; omega⟩
        have := i4 hi
        have := h.lt (i := i) (j := i + 1) (by omega) hk
        simp only; omega
    · exact .some ⟨by omega, i3⟩
  exact key.bind fun v hv => .some ⟨rfl, hv⟩

end Go.Eng

/-
Tracks: checks, visits, stays and lengths, both ways.
-/
namespace Go.Eng
open Go Geo
open scoped Classical
set_option linter.unusedVariables false
set_option linter.unusedSimpArgs false

/-! ### Tracks that streams make -/
/-! ### Checks -/
/-- a fix that is right -/
def FixV (x : api_Fix) : Prop := (0 ≤ x.At ∧ x.At ≤ 345686399999) ∧ InB ⟨x.X, x.Y⟩ ∧ (0 ≤ x.Error ∧ x.Error ≤ 10000)
/-! ### Visits -/
end Go.Eng

/-
The law TracksVisit.
-/
namespace Go.Eng
open Go Geo
open scoped Classical
set_option linter.unusedVariables false
set_option linter.unusedSimpArgs false

/-! ### Stays -/
/-! ### Lengths -/
/-! ### The law -/
end Go.Eng

/-
Insertion sorts; what is left of equal ones rises.
-/
namespace Go.Eng
open Go
set_option linter.unusedVariables false
set_option linter.unusedSimpArgs false
section
variable {α : Type}
/-- the first n are in order -/
def Ord (f : α → α → Int) (l : List α) (n : Nat) : Prop := ∀ p q (hp : p < q) (hq : q < n) (hn : n ≤ l.length), f (l[p]'(by omega)) (l[q]'(by omega)) ≤ 0

theorem gI2_ord {P : α → Prop} {f : α → α → Int} {c : α → α → Option Int} (hc : ∀ x y, P x → P y → c x y = some (f x y)) (anti : ∀ x y, f y x = - f x y) (tr : ∀ x y z, f x y ≤ 0 → f y z ≤ 0 → f x z ≤ 0)
    {n : Nat} (hn : n ≤ 100000) {l : List α} (hl : l.length = n) (hP : All P l) {i : Nat} (hi : i < n) (ho : Ord f l i) :
    Ok (loopO (gI2 c 0) (l, (i : Int))) (fun r => r.length = n ∧ All P r ∧ Ord f r (i + 1)) := by
  refine loop_ok (fun s : List α × Int => s.1.length = n ∧ All P s.1 ∧ ∃ j : Nat, s.2 = (j : Int) ∧ j ≤ i ∧ ∀ p q (hp : p < q) (hq : q ≤ i) (hqj : q ≠ j) (hs : i < s.1.length), f (s.1[p]'(by omega)) (s.1[q]'(by omega)) ≤ 0) (fun s => s.2.toNat) ?_
    ⟨hl, hP, i, rfl, Nat.le_refl _, fun p q hp hq hqj hs => ho p q hp (by omega) (by simp only at hs; omega)⟩
  rintro ⟨m, q⟩ ⟨m1, m2, j, rfl, j1, j2⟩
  simp only at m1 m2 j2
  unfold gI2 gI3
  by_cases hj : (0 : Int) < j
  · have w1 : IntKind.wrap .i64 ((j : Int) - 1) = ((j - 1 : Nat) : Int) := by rw [wrap64 (by omega) (by omega)]; omega
    have hjm : j < m.length := by omega
    have hjm1 : j - 1 < m.length := by omega
    have hy := m2 _ (List.getElem_mem hjm)
    have hx := m2 _ (List.getElem_mem hjm1)
    simp only [hj, decide_true, cond_true, w1, at_nat hjm, at_nat hjm1, Option.bind_some, hc _ _ hy hx]
    refine .cond (fun hlt => ?_) (fun hge => ?_)
    · have hlt := of_decide_eq_true hlt
      have g3 : at? (m.set (j : Int).toNat m[j - 1]) ((j - 1 : Nat) : Int) = some m[j - 1] := by
        rw [at_nat (by simp; omega)]
        simp only [Int.toNat_natCast, List.getElem_set]
        rw [if_neg (by omega)]
      rw [g3]
      simp only [Option.bind_some, Int.toNat_natCast]
      refine .some ⟨⟨by simp [m1], (m2.set hx).set hy, j - 1, rfl, by omega, ?_⟩, by simp only; omega⟩
      intro p q hp hq hqj hs
      simp only [List.getElem_set]
      have hin : i < m.length := by omega
      by_cases q1 : q = j
      · subst q1
        by_cases p1 : p = q - 1
        · subst p1
          have e1 : ¬ (q - 1 = q) := by omega
          simp only [e1, if_true, if_false]
          omega
        · have e1 : ¬ (q - 1 = p) := by omega
          have e2 : ¬ (q = p) := by omega
          have e3 : ¬ (q - 1 = q) := by omega
          simp only [e1, e2, e3, if_true, if_false]
          exact j2 p (q - 1) (by omega) (by omega) (by omega) hin
      · have e4 : ¬ (j = q) := by omega
        have e5 : ¬ (j - 1 = q) := by omega
        simp only [e4, e5, if_false]
        by_cases p1 : p = j - 1
        · subst p1
          simp only [if_true]
          exact j2 j q (by omega) hq q1 hin
        · by_cases p2 : p = j
          · subst p2
            have e6 : ¬ (p - 1 = p) := by omega
            simp only [e6, if_true, if_false]
            exact j2 (p - 1) q (by omega) hq q1 hin
          · have e7 : ¬ (j - 1 = p) := by omega
            have e8 : ¬ (j = p) := by omega
            simp only [e7, e8, if_false]
            exact j2 p q hp hq q1 hin
    · have hge := of_decide_eq_false hge
      refine .some ⟨m1, m2, fun p q hp hq hs => ?_⟩
      have hin : i < m.length := by omega
      by_cases q1 : q = j
      · subst q1
        have h0 : f m[q - 1] m[q] ≤ 0 := by have := anti m[q] m[q - 1]; omega
        by_cases p1 : p = q - 1
        · subst p1; exact h0
        · exact tr _ _ _ (j2 p (q - 1) (by omega) (by omega) (by omega) hin) h0
      · exact j2 p q hp (by omega) q1 hin
  · have hj' : ¬ (0 : Int) < j := hj
    have j0 : j = 0 := by omega
    subst j0
    simp only [hj', decide_false, cond_false, Option.bind_some]
    exact .some ⟨m1, m2, fun p q hp hq hs => j2 p q hp (by omega) (by omega) (by omega)⟩
theorem gI_ord {P : α → Prop} {f : α → α → Int} {c : α → α → Option Int} (hc : ∀ x y, P x → P y → c x y = some (f x y)) (anti : ∀ x y, f y x = - f x y) (tr : ∀ x y z, f x y ≤ 0 → f y z ≤ 0 → f x z ≤ 0)
    {l : List α} (hl : l.length ≤ 100000) (hP : All P l) : Ok (gI c l 0 l.length) (fun r => r.length = l.length ∧ All P r ∧ Ord f r l.length) := by
  unfold gI
  have w : IntKind.wrap .i64 ((0 : Int) + 1) = 1 := by decide
  rw [w]
  refine Ok.bind (P := fun r : List α => r.length = l.length ∧ All P r ∧ Ord f r l.length) (loop_ok (fun s : List α × Int => s.1.length = l.length ∧ All P s.1 ∧ ∃ i : Nat, s.2 = (i : Int) ∧ 1 ≤ i ∧ Ord f s.1 (min i l.length)) (fun s => ((l.length : Int) - s.2).toNat) ?_
    ⟨rfl, hP, 1, rfl, by omega, fun p q hp hq hn => by omega⟩) fun r hr => .some hr
  rintro ⟨m, q⟩ ⟨m1, m2, i, rfl, i1, i2⟩
  simp only at m1 m2 i2
  unfold gI1
  by_cases hi : i < l.length
  · have hi' : (i : Int) < l.length := by omega
    have w1 : IntKind.wrap .i64 ((i : Int) + 1) = ((i + 1 : Nat) : Int) := by rw [wrap64 (by omega) (by omega)]; omega
    simp only [hi', decide_true, cond_true]
    rw [Nat.min_eq_left (by omega)] at i2
    refine (gI2_ord hc anti tr (n := l.length) hl m1 m2 hi i2).bind fun r hr => ?_
    rw [w1]
    refine .some ⟨⟨hr.1, hr.2.1, i + 1, rfl, by omega, ?_⟩, by simp only; omega⟩
    rw [Nat.min_eq_left (by omega)]
    exact hr.2.2
  · have hi' : ¬ (i : Int) < l.length := by omega
    simp only [hi', decide_false, cond_false]
    rw [Nat.min_eq_right (by omega)] at i2
    exact .some ⟨m1, m2, i2⟩
end
end Go.Eng

/-
Plain tracks: what is kept between two that are kept; however they are put in.
-/
namespace Go.Eng
set_option linter.unusedVariables false
section
variable (B : Nat → Nat → Option Nat)
def TKn : Nat → Nat → Nat → List Nat
  | 0, _, _ => []
  | n + 1, i, k => match B i k with
    | none => []
    | some m => TKn n i m ++ m :: TKn n m k
def Tk (i k : Nat) : List Nat := TKn B (k - i) i k
variable (hB : ∀ i k m, B i k = some m → i < m ∧ m < k)
include hB
theorem TKn_fuel : ∀ (n i k : Nat), k - i ≤ n → TKn B n i k = TKn B (k - i) i k := by
  have key : ∀ (n n' i k : Nat), k - i ≤ n → k - i ≤ n' → TKn B n i k = TKn B n' i k := by
    intro n
    induction n with
    | zero =>
      intro n' i k h1 h2
      cases n' with
      | zero => rfl
      | succ n' =>
        unfold TKn
        cases hb : B i k with
        | none => rfl
        | some m => have := hB i k m hb; omega
    | succ n ih =>
      intro n' i k h1 h2
      cases n' with
      | zero =>
        unfold TKn
        cases hb : B i k with
        | none => rfl
        | some m => have := hB i k m hb; omega
      | succ n' =>
        unfold TKn
        cases hb : B i k with
        | none => rfl
        | some m =>
          have := hB i k m hb
          simp only
          rw [ih n' i m (by omega) (by omega), ih n' m k (by omega) (by omega)]
  intro n i k h
  exact key n (k - i) i k h (Nat.le_refl _)
omit hB in
theorem Tk_none {i k : Nat} (h : B i k = none) : Tk B i k = [] := by
  unfold Tk
  cases k - i with
  | zero => rfl
  | succ n => unfold TKn; rw [h]
theorem Tk_some {i k m : Nat} (h : B i k = some m) : Tk B i k = Tk B i m ++ m :: Tk B m k := by
  have hm := hB i k m h
  unfold Tk
  obtain ⟨n, hn⟩ : ∃ n, k - i = n + 1 := ⟨k - i - 1, by omega⟩
  rw [hn]
  conv => lhs; unfold TKn
  rw [h]
  simp only
  rw [TKn_fuel B hB n i m (by omega), TKn_fuel B hB n m k (by omega)]
theorem Tk_in : ∀ (n i k : Nat), k - i ≤ n → (∀ x ∈ Tk B i k, i < x ∧ x < k) ∧ (Tk B i k).Pairwise (· < ·) := by
  intro n
  induction n with
  | zero =>
    intro i k h
    cases hb : B i k with
    | none => rw [Tk_none B hb]; exact ⟨fun x hx => (nomatch hx), List.Pairwise.nil⟩
    | some m => have := hB i k m hb; omega
  | succ n ih =>
    intro i k h
    cases hb : B i k with
    | none => rw [Tk_none B hb]; exact ⟨fun x hx => (nomatch hx), List.Pairwise.nil⟩
    | some m =>
      have hm := hB i k m hb
      rw [Tk_some B hB hb]
      obtain ⟨a1, a2⟩ := ih i m (by omega)
      obtain ⟨b1, b2⟩ := ih m k (by omega)
      refine ⟨fun x hx => ?_, List.pairwise_append.2 ⟨a2, List.pairwise_cons.2 ⟨fun y hy => (b1 y hy).1, b2⟩, fun x hx y hy => ?_⟩⟩
      · rcases List.mem_append.1 hx with hx | hx
        · have := a1 x hx; omega
        · rcases List.mem_cons.1 hx with rfl | hx
          · exact hm
          · have := b1 x hx; omega
      · have := a1 x hx
        rcases List.mem_cons.1 hy with rfl | hy
        · omega
        · have := b1 y hy; omega
/-- what is kept in the end, if those are kept now -/
def exF : Nat → List Nat → List Nat
  | a, [] => [a]
  | a, b :: l => a :: Tk B a b ++ exF b l
omit hB in
theorem sorted_ext {l m : List Nat} (h1 : l.Pairwise (· < ·)) (h2 : m.Pairwise (· < ·)) (h : ∀ x, x ∈ l ↔ x ∈ m) : l = m := by
  have p : l.Perm m := (List.perm_ext_iff_of_nodup (h1.imp fun h => Nat.ne_of_lt h) (h2.imp fun h => Nat.ne_of_lt h)).2 h
  exact List.Perm.eq_of_pairwise (le := (· < ·)) (fun a b _ _ hab hba => by omega) h1 h2 p
end
end Go.Eng

/-
Sorting of numbers; the fixes of a track that are kept: the code's way.
-/
namespace Go.Eng
open Go
set_option linter.unusedVariables false
set_option linter.unusedSimpArgs false
section
variable {α : Type}
theorem Ok.and {f : Option α} {P Q : α → Prop} (h1 : Ok f P) (h2 : Ok f Q) : Ok f (fun r => P r ∧ Q r) := by
  obtain ⟨r, e1, p1⟩ := h1
  obtain ⟨s, e2, p2⟩ := h2
  rw [e1] at e2
  obtain rfl := Option.some.inj e2
  exact ⟨r, e1, p1, p2⟩
end
/-! ### The farthest between two -/
def fx (l : List api_Fix) (i : Nat) : api_Fix := l.getD i (api_Fix.mk [] 0 0 0 0)
theorem at_fx {l : List api_Fix} {i : Nat} (h : i < l.length) : at? l (i : Int) = some (fx l i) ∧ fx l i ∈ l := by
  have e : fx l i = l[i] := by unfold fx; rw [List.getD_eq_getElem?_getD, List.getElem?_eq_getElem h]; rfl
  rw [e]
  exact ⟨at_nat h, List.getElem_mem h⟩
def stp (l : List api_Fix) (i k : Nat) (s : api_Fraction × Int) (m : Nat) : api_Fraction × Int :=
  cond (frL s.1 (farF (fsp (fx l i)) (fsp (fx l k)) (fsp (fx l m)))) (farF (fsp (fx l i)) (fsp (fx l k)) (fsp (fx l m)), (m : Int)) s
def bstN (l : List api_Fix) (i k : Nat) : Nat → Nat → api_Fraction × Int → api_Fraction × Int
  | 0, _, s => s
  | c + 1, m, s => bstN l i k c (m + 1) (stp l i k s m)
theorem fixv_in {l : List api_Fix} (hg : ∀ x ∈ l, FixV x) {i : Nat} (h : i < l.length) : InB (fsp (fx l i)) := (hg _ (at_fx h).2).2.1
theorem stp_R {l : List api_Fix} (hg : ∀ x ∈ l, FixV x) {i k m : Nat} (hi : i < l.length) (hk : k < l.length) (hm : m < l.length) {s : api_Fraction × Int} (hs : FrR s.1) : FrR (stp l i k s m).1 := by
  unfold stp
  cases frL s.1 (farF (fsp (fx l i)) (fsp (fx l k)) (fsp (fx l m)))
  · exact hs
  · exact farF_R (fixv_in hg hi) (fixv_in hg hk) (fixv_in hg hm)
theorem own_best {l : List api_Fix} (hg : ∀ x ∈ l, FixV x) (hl : l.length ≤ 1000) {i k : Nat} (hi : i < l.length) (hk : k < l.length) (recF : Int → Int → List Bool → Int → List api_Fix → Option (List Bool)) : ∀ (c m : Nat) (s : api_Fraction × Int), m + c = k → FrR s.1 →
    loopO (z447 recF i k l) (s.1, s.2, (m : Int)) = some (bstN l i k c m s).2
  | 0, m, s, h, _ => by
    refine loop_out ?_
    unfold z447 bstN
    have : ¬ (m : Int) < k := by omega
    simp [this]
  | c + 1, m, s, h, hs => by
    have hm : m < l.length := by omega
    rw [loop_in (s' := ((stp l i k s m).1, (stp l i k s m).2, ((m + 1 : Nat) : Int)))]
    · exact own_best hg hl hi hk recF c (m + 1) (stp l i k s m) (by omega) (stp_R hg hi hk hm hs)
    · unfold z447 z452 z604
      have hc : (m : Int) < k := by omega
      have w1 : IntKind.wrap .i64 ((m : Int) + 1) = ((m + 1 : Nat) : Int) := by rw [wrap64 (by omega) (by omega)]; omega
      have hf : place_far (api_Spot.mk (fx l i).X (fx l i).Y) (api_Spot.mk (fx l k).X (fx l k).Y) (api_Spot.mk (fx l m).X (fx l m).Y) = some (farF (fsp (fx l i)) (fsp (fx l k)) (fsp (fx l m))) := far_eq (fixv_in hg hi) (fixv_in hg hk) (fixv_in hg hm)
      simp only [hc, decide_true, cond_true, (at_fx hi).1, (at_fx hk).1, (at_fx hm).1, Option.bind_some, hf, pless_eq hs (farF_R (fixv_in hg hi) (fixv_in hg hk) (fixv_in hg hm)), w1]
      unfold stp
      cases frL s.1 (farF (fsp (fx l i)) (fsp (fx l k)) (fsp (fx l m))) <;> rfl
theorem bst_rng {l : List api_Fix} {i k : Nat} : ∀ (c m : Nat) (s : api_Fraction × Int), m + c = k → i < m → (s.2 = -1 ∨ ∃ j : Nat, s.2 = (j : Int) ∧ i < j ∧ j < k) → (bstN l i k c m s).2 = -1 ∨ ∃ j : Nat, (bstN l i k c m s).2 = (j : Int) ∧ i < j ∧ j < k
  | 0, m, s, _, _, h => h
  | c + 1, m, s, h1, h2, h => by
    unfold bstN
    refine bst_rng c (m + 1) _ (by omega) (by omega) ?_
    unfold stp
    cases frL s.1 (farF (fsp (fx l i)) (fsp (fx l k)) (fsp (fx l m)))
    · exact h
    · exact .inr ⟨m, rfl, h2, by omega⟩
def bestV (l : List api_Fix) (q : Int) (i k : Nat) : Int := (bstN l i k (k - (i + 1)) (i + 1) (api_Fraction.mk (q * q) 1, -1)).2
def bestO (l : List api_Fix) (q : Int) (i k : Nat) : Option Nat := if i < k ∧ 0 ≤ bestV l q i k then some (bestV l q i k).toNat else none
theorem bestV_rng (l : List api_Fix) (q : Int) {i k : Nat} (h : i < k) : bestV l q i k = -1 ∨ ∃ j : Nat, bestV l q i k = (j : Int) ∧ i < j ∧ j < k :=
  bst_rng _ _ _ (by omega) (by omega) (.inl rfl)
theorem bestO_in (l : List api_Fix) (q : Int) (i k m : Nat) (h : bestO l q i k = some m) : i < m ∧ m < k := by
  unfold bestO at h
  split at h
  · rename_i hh
    injection h with h
    rcases bestV_rng l q hh.1 with e | ⟨j, e, j1, j2⟩
    · omega
    · rw [e] at h; simp at h; omega
  · cases h
theorem sq_R {q : Int} (h : 0 ≤ q ∧ q ≤ 10000) : IntKind.wrap .i64 (q * q) = q * q ∧ FrR (api_Fraction.mk (q * q) 1) := err_R h

/-! ### The code's way: between two -/
def kpt (b : List Bool) (j : Nat) : Bool := b.getD j false
theorem kpt_set {b : List Bool} {i : Nat} (hi : i < b.length) (j : Nat) : kpt (b.set i true) j = (decide (j = i) || kpt b j) := by
  unfold kpt
  rw [List.getD_eq_getElem?_getD, List.getD_eq_getElem?_getD, List.getElem?_set]
  by_cases h : i = j
  · subst h; simp [hi]
  · have h' : ¬ j = i := fun e => h e.symm
    simp [h, h']
theorem at_bool {b : List Bool} {i : Nat} (h : i < b.length) : at? b (i : Int) = some (kpt b i) := by
  have e : kpt b i = b[i] := by unfold kpt; rw [List.getD_eq_getElem?_getD, List.getElem?_eq_getElem h]; rfl
  rw [e]; exact at_nat h
theorem betw {l : List api_Fix} (hg : ∀ x ∈ l, FixV x) (hl : l.length ≤ 1000) {q : Int} (hq : 0 ≤ q ∧ q ≤ 10000) : ∀ (n i k : Nat) (b : List Bool), b.length = l.length → i ≤ k → k < l.length → k - i < n →
    ∃ r, z444 n i k b q l = some r ∧ r.length = l.length ∧ ∀ j, kpt r j = true ↔ kpt b j = true ∨ j = i ∨ j = k ∨ j ∈ Tk (bestO l q) i k
  | 0, i, k, b, _, _, _, h => by omega
  | n + 1, i, k, b, hb, hik, hk, hn => by
    have hi : i < l.length := by omega
    unfold z444
    have a1 : at? b (i : Int) = some (kpt b i) := at_bool (by omega)
    have a2 : at? (b.set i true) (k : Int) = some (kpt (b.set i true) k) := at_bool (by simp; omega)
    have w1 : IntKind.wrap .i64 ((i : Int) + 1) = ((i + 1 : Nat) : Int) := by rw [wrap64 (by omega) (by omega)]; omega
    have base : ∀ j, kpt ((b.set i true).set k true) j = true ↔ kpt b j = true ∨ j = i ∨ j = k := fun j => by
      rw [kpt_set (by simp; omega), kpt_set (by omega)]
      simp only [Bool.or_eq_true, decide_eq_true_eq]
      constructor
      · rintro (h | h | h)
        · exact .inr (.inr h)
        · exact .inr (.inl h)
        · exact .inl h
      · rintro (h | h | h)
        · exact .inr (.inr h)
        · exact .inr (.inl h)
        · exact .inl h
    by_cases hlt : i < k
    · have hloop := own_best hg hl hi hk (z444 n) (k - (i + 1)) (i + 1) (api_Fraction.mk (q * q) 1, -1) (by omega) (sq_R hq).2
      simp only [a1, Int.toNat_natCast, a2, Option.bind_some, w1, (sq_R hq).1, hloop]
      show ∃ r, (bif decide (0 ≤ bestV l q i k) then ((z444 n (i : Int) (bestV l q i k) ((b.set i true).set k true) q l).bind fun vs => (z444 n (bestV l q i k) (k : Int) vs q l).bind fun vs1 => some vs1) else some ((b.set i true).set k true)) = some r ∧ _
      rcases bestV_rng l q hlt with e | ⟨m, e, m1, m2⟩
      · have hO : bestO l q i k = none := by unfold bestO; rw [e]; simp
        rw [e, Tk_none _ hO]
        refine ⟨_, rfl, by simp [hb], fun j => ?_⟩
        rw [base]
        simp
      · have hO : bestO l q i k = some m := by unfold bestO; rw [e, if_pos ⟨hlt, by omega⟩]; simp
        rw [e]
        have h0 : (0 : Int) ≤ (m : Int) := by omega
        obtain ⟨r1, p1, p2, p3⟩ := betw hg hl hq n i m ((b.set i true).set k true) (by simp [hb]) (by omega) (by omega) (by omega)
        obtain ⟨r2, q1, q2, q3⟩ := betw hg hl hq n m k r1 p2 (by omega) hk (by omega)
        simp only [h0, decide_true, cond_true, p1, q1, Option.bind_some]
        refine ⟨r2, rfl, q2, fun j => ?_⟩
        rw [q3, p3, base, Tk_some _ (bestO_in l q) hO]
        simp only [List.mem_append, List.mem_cons]
        constructor
        · rintro (((h | h | h) | h | h | h) | h | h | h)
          · exact .inl h
          · exact .inr (.inl h)
          · exact .inr (.inr (.inl h))
          · exact .inr (.inl h)
          · exact .inr (.inr (.inr (.inr (.inl h))))
          · exact .inr (.inr (.inr (.inl h)))
          · exact .inr (.inr (.inr (.inr (.inl h))))
          · exact .inr (.inr (.inl h))
          · exact .inr (.inr (.inr (.inr (.inr h))))
        · rintro (h | h | h | h | h | h)
          · exact .inl (.inl (.inl h))
          · exact .inl (.inl (.inr (.inl h)))
          · exact .inl (.inl (.inr (.inr h)))
          · exact .inl (.inr (.inr (.inr h)))
          · exact .inr (.inl h)
          · exact .inr (.inr (.inr h))
    · have hik' : i = k := by omega
      subst hik'
      have hO : bestO l q i i = none := by unfold bestO; rw [if_neg (by omega)]
      have hloop : loopO (z447 (z444 n) i i l) (api_Fraction.mk (q * q) 1, -1, ((i + 1 : Nat) : Int)) = some (-1) := by
        refine loop_out ?_
        unfold z447
        have : ¬ ((i + 1 : Nat) : Int) < i := by omega
        simp only [this, decide_false, cond_false]
      simp only [a1, Int.toNat_natCast, a2, Option.bind_some, w1, (sq_R hq).1, hloop]
      rw [Tk_none _ hO]
      refine ⟨_, rfl, by simp [hb], fun j => ?_⟩
      rw [base]
      simp
end Go.Eng

/-
The fixes of a track that are kept: the reference's way; both are the same.
-/
namespace Go.Eng
open Go
set_option linter.unusedVariables false
set_option linter.unusedSimpArgs false
theorem fixO_20 {β : Type} {g : Nat → Option β} {r : β} (h : g 20 = some r) : fixO g = some r := by
  unfold fixO
  rw [h]
/-- the numbers that are kept -/
def keptL (l : List api_Fix) (q : Int) : List Nat := if l.length = 0 then [] else if l.length = 1 then [0] else exF (bestO l q) 0 [l.length - 1]
theorem exF_two (B : Nat → Nat → Option Nat) (a b : Nat) : exF B a [b] = a :: Tk B a b ++ [b] := rfl
theorem kept_sorted {l : List api_Fix} {q : Int} : (keptL l q).Pairwise (· < ·) ∧ ∀ x ∈ keptL l q, x < l.length := by
  unfold keptL
  split
  · exact ⟨List.Pairwise.nil, fun x hx => (nomatch hx)⟩
  split
  · exact ⟨by simp, fun x hx => by simp at hx; omega⟩
  rw [exF_two]
  obtain ⟨a1, a2⟩ := Tk_in (bestO l q) (bestO_in l q) (l.length - 1 - 0) 0 (l.length - 1) (Nat.le_refl _)
  refine ⟨?_, fun x hx => ?_⟩
  · rw [List.cons_append, List.pairwise_cons]
    refine ⟨fun y hy => ?_, List.pairwise_append.2 ⟨a2, by simp, fun x hx y hy => ?_⟩⟩
    · rcases List.mem_append.1 hy with hy | hy
      · exact (a1 y hy).1
      · rw [List.mem_singleton] at hy; omega
    · rw [List.mem_singleton] at hy
      have := a1 x hx; omega
  · rw [List.cons_append] at hx
    rcases List.mem_cons.1 hx with rfl | hx
    · omega
    · rcases List.mem_append.1 hx with hx | hx
      · have := a1 x hx; omega
      · rw [List.mem_singleton] at hx; omega
/-! ### The code -/
theorem out_loop {b : List Bool} (hb : b.length ≤ 1000) : ∀ (c j : Nat) (o : List Nat), j + c = b.length → o.length ≤ j → loopO (z462 b) (o.map Int.ofNat, (j : Int)) = some ((o ++ (List.range' j c).filter (kpt b)).map Int.ofNat)
  | 0, j, o, h, _ => by
    refine loop_out ?_
    unfold z462
    have : ¬ (j : Int) < b.length := by omega
    simp [this]
  | c + 1, j, o, h, ho => by
    have hj : j < b.length := by omega
    have hj' : (j : Int) < b.length := by omega
    have w1 : IntKind.wrap .i64 ((j : Int) + 1) = ((j + 1 : Nat) : Int) := by rw [wrap64 (by omega) (by omega)]; omega
    rw [List.range'_succ, List.filter_cons]
    cases hk : kpt b j with
    | true =>
      rw [loop_in (s' := ((o ++ [j]).map Int.ofNat, ((j + 1 : Nat) : Int)))]
      · rw [out_loop hb c (j + 1) (o ++ [j]) (by omega) (by simp; omega)]
        simp
      · unfold z462 z467
        simp only [hj', decide_true, cond_true, at_bool hj, hk, Option.bind_some, w1]
        rw [gd_true (ble_lim (by simp; omega))]
        simp
    | false =>
      rw [loop_in (s' := (o.map Int.ofNat, ((j + 1 : Nat) : Int)))]
      · rw [out_loop hb c (j + 1) o (by omega) (by omega)]
        simp
      · unfold z462 z467
        simp only [hj', decide_true, cond_true, at_bool hj, hk, Option.bind_some, w1, cond_false]
theorem rep_false (n j : Nat) : kpt (List.replicate n false) j = false := by
  unfold kpt
  rw [List.getD_eq_getElem?_getD, List.getElem?_replicate]
  split <;> rfl
theorem Plain_eq {l : List api_Fix} (hg : ∀ x ∈ l, FixV x) (hl : l.length ≤ 14) {q : Int} (hq : 0 ≤ q ∧ q ≤ 10000) (ht : z623 l = some 0) : z441 l q = some ((keptL l q).map Int.ofNat, 0) := by
  have hx1 : ∃ b, z458 l q = some b ∧ b.length = l.length ∧ (List.range' 0 b.length).filter (kpt b) = keptL l q := by
    unfold z458
    by_cases h0 : l.length = 0
    · have : ¬ (0 : Int) < l.length := by omega
      simp only [this, decide_false, cond_false]
      refine ⟨_, rfl, by simp, ?_⟩
      unfold keptL
      rw [if_pos h0]
      simp [h0]
    · have h1 : (0 : Int) < l.length := by omega
      have w1 : IntKind.wrap .i64 ((l.length : Int) - 1) = ((l.length - 1 : Nat) : Int) := by rw [wrap64 (by omega) (by omega)]; omega
      obtain ⟨r, r1, r2, r3⟩ := betw hg (by omega) hq 20 0 (l.length - 1) (List.replicate (l.length : Int).toNat false) (by simp) (by omega) (by omega) (by omega)
      have hf : z442 0 ((l.length - 1 : Nat) : Int) (List.replicate (l.length : Int).toNat false) q l = some r := fixO_20 r1
      simp only [h1, decide_true, cond_true, w1, hf, Option.bind_some]
      refine ⟨r, rfl, r2, ?_⟩
      refine sorted_ext (List.Pairwise.filter _ List.pairwise_lt_range') kept_sorted.1 fun x => ?_
      rw [List.mem_filter, r3, List.mem_range'_1, rep_false, r2]
      unfold keptL
      rw [if_neg h0]
      by_cases h11 : l.length = 1
      · rw [if_pos h11]
        have hO : bestO l q 0 (l.length - 1) = none := by
          unfold bestO; rw [if_neg (by omega)]
        rw [Tk_none _ hO]
        simp
        omega
      · rw [if_neg h11, exF_two]
        obtain ⟨a1, a2⟩ := Tk_in (bestO l q) (bestO_in l q) (l.length - 1 - 0) 0 (l.length - 1) (Nat.le_refl _)
        simp only [List.cons_append, List.mem_cons, List.mem_append, List.not_mem_nil, or_false]
        constructor
        · rintro ⟨_, h | h | h | h⟩
          · cases h
          · exact .inl h
          · exact .inr (.inr h)
          · exact .inr (.inl h)
        · rintro (h | h | h)
          · exact ⟨by omega, .inr (.inl h)⟩
          · have := a1 x h
            exact ⟨by omega, .inr (.inr (.inr h))⟩
          · exact ⟨by omega, .inr (.inr (.inl h))⟩
  obtain ⟨b, b1, b2, b3⟩ := hx1
  have ho : base_Out q 0 10000 = some false := by
    rw [Out_eq]; simp; omega
  unfold z441
  have hgd : (decide (0 ≤ (l.length : Int)) && decide ((l.length : Int) ≤ (l.length : Int)) && decide ((l.length : Int) ≤ 137438953472)) = true := by simp; omega
  have hlp := out_loop (b := b) (by omega) b.length 0 [] (by omega) (by simp)
  simp only [ht, ho, Option.bind_some, decide_true, Bool.not_true, cond_false, gd_true hgd, b1]
  rw [show loopO (z462 b) ([], 0) = some (((List.range' 0 b.length).filter (kpt b)).map Int.ofNat) from hlp, b3]
  rfl
/-! ### The reference -/
end Go.Eng

/-
Two fences meet just if each does the other; with a spot in both they do.
-/
namespace Go.Eng
open Go Geo
open scoped Classical
set_option linter.unusedVariables false
set_option linter.unusedSimpArgs false

theorem touch_inner {m : List api_Spot} (hl : m.length ≤ 200) (hb : ∀ s ∈ m, InB s) {a b : api_Spot} (ha : InB a) (hb' : InB b) :
    z611 a b m = some ((ring m).any fun f => meB (a, b) f) := by
  have hlen := ring_len m
  unfold z611 z524
  rw [range_loop (l := ring m) (fun _ f => cond (meB (a, b) f) (some (.inr ())) none) (.inl ()) (by omega), scan_any]
  · cases (ring m).any fun f => meB (a, b) f <;> rfl
  · intro i hi
    have hi' : i < m.length := by omega
    obtain ⟨a1, a2, a3⟩ := edge_at (l := m) (by omega) hi'
    have hx := inb_ring hb (List.getElem_mem hi)
    generalize (ring m)[i] = x at a1 a2 hx
    unfold z527 z612
    have h : (i : Int) < m.length := by omega
    simp only [h, decide_true, cond_true, a1, a2, gd_true a3, Option.bind_some, meets_eq ha hb' hx.1 hx.2]
    rw [show meB (a, b) x = meB (a, b) (x.1, x.2) from rfl]
    cases meB (a, b) (x.1, x.2) <;> rfl
  · rw [hlen]
    unfold z527
    simp
theorem head_at {l : List api_Spot} (h : 3 ≤ l.length) : at? l 0 = some (l.headD ⟨0, 0⟩) ∧ l.headD ⟨0, 0⟩ ∈ l := by
  cases l with
  | nil => simp at h
  | cons a l => exact ⟨rfl, by simp⟩
theorem check_right {l : List api_Spot} (hz : z292 l = some 0) : z381 (api_Fence.mk [102] l) = some 0 := by
  obtain ⟨c, c1, c2, c3⟩ := corners_both (api_Fence.mk [102] l) (by simp)
  have c1 : z292 l = some c := c1
  rw [hz] at c1
  have hc : c = 0 := (Option.some.inj c1).symm
  have hkey : keyB [102] = true := by decide
  rw [c3, hc]
  show some (cond (keyB [102]) 0 5) = _
  rw [hkey]; rfl
end Go.Eng

/-
Plane geometry in whole numbers: the chains of a hull.
-/
namespace Go.Eng.Geo
def sdp (a b s : Pt) : Int := sd a.1 a.2 b.1 b.2 s.1 s.2
/-- spots in order along a direction -/
def ph (K : Int) (p : Pt) : Int := K * p.1 + p.2
section
variable (K : Int)
theorem cr1 (a b t s : Pt) : (ph K t - ph K b) * sdp a b s = (ph K s - ph K b) * sdp a b t + (ph K b - ph K a) * sdp b t s := by unfold ph sdp sd; grind
theorem cr2 (u t s x : Pt) : (ph K t - ph K u) * sdp t s x = (ph K t - ph K x) * sdp u t s + (ph K s - ph K t) * sdp u t x := by unfold ph sdp sd; grind
theorem cr3 (u y s x : Pt) : (ph K s - ph K y) * sdp u s x = (ph K s - ph K x) * sdp u s y + (ph K s - ph K u) * sdp y s x := by unfold ph sdp sd; grind
theorem cr4 (u y s x : Pt) : (ph K y - ph K u) * sdp u s x = (ph K x - ph K u) * sdp u s y + (ph K s - ph K u) * sdp u y x := by unfold ph sdp sd; grind
theorem sdp_neg (u y s : Pt) : sdp u s y = - sdp u y s := by unfold sdp sd; grind
theorem sdp_self (a b : Pt) : sdp a b a = 0 := by unfold sdp sd; grind
theorem sdp_end (a b : Pt) : sdp a b b = 0 := by unfold sdp sd; grind

/-- all of some spots are to the left of a way, or on it -/
def GL (a b : Pt) (D : List Pt) : Prop := ∀ x ∈ D, 0 < sdp a b x ∨ (sdp a b x = 0 ∧ ph K a ≤ ph K x ∧ ph K x ≤ ph K b)
/-- what is not to the right is taken from the top -/
def popS (s : Pt) : List Pt → List Pt
  | t :: u :: r => if sdp u t s ≤ 0 then popS s (u :: r) else t :: u :: r
  | l => l
def pushS (st : List Pt) (s : Pt) : List Pt := s :: popS s st
/-- the stack after some spots: its top first -/
structure InvS (D st : List Pt) : Prop where
  ne : st ≠ []
  mem : ∀ x ∈ st, x ∈ D
  srt : st.Pairwise fun x y => ph K y < ph K x
  top : ∀ t, st.head? = some t → ∀ x ∈ D, ph K x ≤ ph K t
  bot : ∀ b, st.getLast? = some b → ∀ x ∈ D, ph K b ≤ ph K x
  prs : ∀ e ∈ chain st, GL K e.2 e.1 D
variable {K}
theorem pop_spec {s : Pt} {D : List Pt} (hs : ∀ x ∈ D, ph K x < ph K s) : ∀ (st : List Pt), st ≠ [] → (∀ x ∈ st, x ∈ D) → (st.Pairwise fun x y => ph K y < ph K x) → (∀ e ∈ chain st, GL K e.2 e.1 D) →
    (∀ t, st.head? = some t → ∀ x ∈ D, ph K t < ph K x → 0 ≤ sdp t s x) →
    popS s st ≠ [] ∧ (∃ pre, st = pre ++ popS s st) ∧ (∀ t, (popS s st).head? = some t → ∀ x ∈ D, ph K t < ph K x → 0 ≤ sdp t s x) ∧ (∀ t u r, popS s st = t :: u :: r → 0 < sdp u t s)
  | [], h, _, _, _, _ => absurd rfl h
  | [t], _, _, _, _, h => ⟨by simp [popS], ⟨[], rfl⟩, h, fun t u r q => by simp [popS] at q⟩
  | t :: u :: r, _, hm, hsr, hp, ha => by
    unfold popS
    by_cases hc : sdp u t s ≤ 0
    · rw [if_pos hc]
      have hut : ph K u < ph K t := (List.pairwise_cons.1 hsr).1 u (by simp)
      have htD : t ∈ D := hm t (by simp)
      have hts := hs t htD
      have hG : GL K u t D := hp (t, u) (by simp [chain])
      have := pop_spec hs (u :: r) (by simp) (fun x hx => hm x (by simp [List.mem_cons.1 hx])) (List.pairwise_cons.1 hsr).2 (fun e he => hp e (by simp only [chain]; exact List.mem_cons_of_mem _ he)) (by
        intro u' hu' x hx hux
        simp only [List.head?_cons, Option.some.injEq] at hu'
        subst hu'
        have hxs := hs x hx
        have hut' : 0 ≤ sdp u s t := by rw [sdp_neg]; omega
        by_cases h1 : ph K t < ph K x
        · have h2 := ha t rfl x hx h1
          have h3 := cr3 K u t s x
          have h4 := PP (show 0 ≤ ph K s - ph K x by omega) hut'
          have h5 := PP (show 0 ≤ ph K s - ph K u by omega) h2
          exact cnn (show 0 < ph K s - ph K t by omega) (by omega)
        · have h2 : 0 ≤ sdp u t x := by rcases hG x hx with h | h <;> omega
          have h3 := cr4 K u t s x
          have h4 := PP (show 0 ≤ ph K x - ph K u by omega) hut'
          have h5 := PP (show 0 ≤ ph K s - ph K u by omega) h2
          exact cnn (show 0 < ph K t - ph K u by omega) (by omega))
      obtain ⟨g1, ⟨pre, g2⟩, g3, g4⟩ := this
      exact ⟨g1, ⟨t :: pre, by rw [List.cons_append, ← g2]⟩, g3, g4⟩
    · rw [if_neg hc]
      refine ⟨by simp, ⟨[], rfl⟩, ha, fun t' u' r' q => ?_⟩
      simp only [List.cons.injEq] at q
      obtain ⟨rfl, rfl, -⟩ := q
      omega
/-- below the top, too, the new spot is to the left -/
theorem deep {s : Pt} {D : List Pt} (hs : ∀ x ∈ D, ph K x < ph K s) : ∀ (st : List Pt), (∀ x ∈ st, x ∈ D) → (st.Pairwise fun x y => ph K y < ph K x) → (∀ e ∈ chain st, GL K e.2 e.1 D) →
    (∀ t u r, st = t :: u :: r → 0 < sdp u t s) → ∀ e ∈ chain st, 0 < sdp e.2 e.1 s
  | [], _, _, _, _, e, he => by simp [chain] at he
  | [t], _, _, _, _, e, he => by simp [chain] at he
  | [t, u], _, _, _, h, e, he => by
    simp only [chain, List.mem_cons, List.not_mem_nil, or_false] at he
    subst he; exact h t u [] rfl
  | t :: u :: w :: r, hm, hsr, hp, h, e, he => by
    have h0 := h t u (w :: r) rfl
    rcases List.mem_cons.1 (show e ∈ (t, u) :: chain (u :: w :: r) from he) with rfl | he
    · exact h0
    · have hut : ph K u < ph K t := (List.pairwise_cons.1 hsr).1 u (by simp)
      have hsr2 := (List.pairwise_cons.1 hsr).2
      have hwu : ph K w < ph K u := (List.pairwise_cons.1 hsr2).1 w (by simp)
      have hG : GL K w u D := hp (u, w) (by simp [chain])
      have h1 : 0 < sdp w u t := by
        rcases hG t (hm t (by simp)) with h | ⟨-, -, h⟩
        · exact h
        · have h : ph K t ≤ ph K u := h; omega
      have hus := hs u (hm u (by simp))
      have h2 : 0 < sdp w u s := by
        have h3 := cr1 K w u t s
        have h4 := pp (show 0 < ph K s - ph K u by omega) h1
        have h5 := pp (show 0 < ph K u - ph K w by omega) h0
        exact cpos (show 0 < ph K t - ph K u by omega) (by omega)
      exact deep hs (u :: w :: r) (fun x hx => hm x (List.mem_cons_of_mem _ hx)) hsr2 (fun e he => hp e (List.mem_cons_of_mem _ he)) (fun t' u' r' q => by
        simp only [List.cons.injEq] at q
        obtain ⟨rfl, rfl, -⟩ := q
        exact h2) e he
theorem push_inv {D st : List Pt} (hI : InvS K D st) {s : Pt} (hs : ∀ x ∈ D, ph K x < ph K s) (hinj : ∀ x ∈ D, ∀ y ∈ D, ph K x = ph K y → x = y) : InvS K (D ++ [s]) (pushS st s) := by
  obtain ⟨g1, ⟨pre, g2⟩, g3, g4⟩ := pop_spec hs st hI.ne hI.mem hI.srt hI.prs (fun t ht x hx h => by have := hI.top t ht x hx; omega)
  have hm : ∀ x ∈ popS s st, x ∈ D := fun x hx => hI.mem x (by rw [g2]; exact List.mem_append_right _ hx)
  have hsr : (popS s st).Pairwise fun x y => ph K y < ph K x := by
    have := hI.srt; rw [g2, List.pairwise_append] at this; exact this.2.1
  have hpr : ∀ e ∈ chain (popS s st), GL K e.2 e.1 D := by
    intro e he
    obtain ⟨u, v, q⟩ := mem_chain he
    refine hI.prs e ?_
    rw [g2, q, ← List.append_assoc]
    exact chain_mem _ _ _ _
  have hlast : (popS s st).getLast? = st.getLast? := by
    conv => rhs; rw [g2]
    rw [List.getLast?_append]
    cases h : (popS s st).getLast? with
    | none => rw [List.getLast?_eq_none_iff] at h; exact absurd h g1
    | some b => rfl
  unfold pushS
  have hdeep := deep hs (popS s st) hm hsr hpr g4
  generalize hst : popS s st = st' at *
  cases st' with
  | nil => exact absurd rfl g1
  | cons t r =>
    have htD := hm t (by simp)
    have hts := hs t htD
    refine ⟨by simp, ?_, ?_, ?_, ?_, ?_⟩
    · intro x hx
      rcases List.mem_cons.1 hx with rfl | hx
      · simp
      · exact List.mem_append_left _ (hm x hx)
    · rw [List.pairwise_cons]
      exact ⟨fun y hy => hs y (hm y hy), hsr⟩
    · intro t' ht' x hx
      simp only [List.head?_cons, Option.some.injEq] at ht'
      subst ht'
      rcases List.mem_append.1 hx with hx | hx
      · have := hs x hx; omega
      · rw [List.mem_singleton] at hx; rw [hx]; exact Int.le_refl _
    · intro b hb x hx
      rw [List.getLast?_cons_cons] at hb
      rw [hlast] at hb
      have hbD : b ∈ D := hI.mem b (List.mem_of_getLast? hb)
      rcases List.mem_append.1 hx with hx | hx
      · exact hI.bot b hb x hx
      · rw [List.mem_singleton] at hx; subst hx; have := hs b hbD; omega
    · intro e he
      rcases List.mem_cons.1 (show e ∈ (s, t) :: chain (t :: r) from he) with rfl | he2
      · intro x hx
        show 0 < sdp t s x ∨ (sdp t s x = 0 ∧ ph K t ≤ ph K x ∧ ph K x ≤ ph K s)
        rcases List.mem_append.1 hx with hx | hx
        · have hxs := hs x hx
          by_cases h1 : ph K t < ph K x
          · have := g3 t rfl x hx h1
            omega
          · by_cases h2 : ph K x = ph K t
            · have := hinj x hx t htD h2
              subst this
              right; exact ⟨sdp_self _ _, Int.le_refl _, by omega⟩
            · left
              cases r with
              | nil =>
                have := hI.bot t (by rw [← hlast]; rfl) x hx
                omega
              | cons u r =>
                have h0 := g4 t u r rfl
                have hut : ph K u < ph K t := (List.pairwise_cons.1 hsr).1 u (by simp)
                have hG : GL K u t D := hpr (t, u) (by simp [chain])
                have h3 : 0 ≤ sdp u t x := by rcases hG x hx with h | h <;> omega
                have h4 := cr2 K u t s x
                have h5 := pp (show 0 < ph K t - ph K x by omega) h0
                have h6 := PP (show 0 ≤ ph K s - ph K t by omega) h3
                exact cpos (show 0 < ph K t - ph K u by omega) (by omega)
        · rw [List.mem_singleton] at hx
          subst hx
          right; exact ⟨sdp_end _ _, by omega, Int.le_refl _⟩
      · intro x hx
        rcases List.mem_append.1 hx with hx | hx
        · exact hpr e he2 x hx
        · rw [List.mem_singleton] at hx
          subst hx
          left; exact hdeep e he2
/-- the whole chain -/
theorem half_inv (a : Pt) : ∀ (l D st : List Pt), InvS K D st → (D ++ l).Pairwise (fun x y => ph K x < ph K y) → InvS K (D ++ l) (l.foldl pushS st)
  | [], D, st, h, _ => by simpa using h
  | s :: l, D, st, h, hp => by
    have hp' : (D ++ [s] ++ l).Pairwise (fun x y => ph K x < ph K y) := by simpa using hp
    have hD : ∀ x ∈ D, ph K x < ph K s := fun x hx => (List.pairwise_append.1 hp).2.2 x hx s (by simp)
    have hinj : ∀ x ∈ D, ∀ y ∈ D, ph K x = ph K y → x = y := by
      intro x hx y hy e
      have hpd := (List.pairwise_append.1 hp).1
      obtain ⟨i, hi, rfl⟩ := List.mem_iff_getElem.1 hx
      obtain ⟨j, hj, rfl⟩ := List.mem_iff_getElem.1 hy
      have := List.pairwise_iff_getElem.1 hpd
      by_cases hij : i = j
      · subst hij; rfl
      · by_cases hlt : i < j
        · have := this i j hi hj hlt; omega
        · have := this j i hj hi (by omega); omega
    have := half_inv a l (D ++ [s]) (pushS st s) (push_inv h hD hinj) hp'
    simpa using this
theorem half_chain (a : Pt) (l : List Pt) (hp : (a :: l).Pairwise (fun x y => ph K x < ph K y)) : InvS K (a :: l) ((a :: l).foldl pushS []) := by
  have h0 : InvS K [a] [a] := ⟨by simp, by simp, by simp, by intro t ht x hx; simp at ht hx; subst ht; subst hx; exact Int.le_refl _, by intro t ht x hx; simp at ht hx; subst ht; subst hx; exact Int.le_refl _, by intro e he; simp [chain] at he⟩
  exact half_inv a l [a] [a] h0 hp
end
end Go.Eng.Geo

/-
Plane geometry in whole numbers: the hull from corner to corner.
-/
namespace Go.Eng.Geo
def d2 (a b : Pt) : Int := (b.1 - a.1) * (b.1 - a.1) + (b.2 - a.2) * (b.2 - a.2)
section
variable {K : Int}
/-! ### The other chain: all turned round -/
def ng (p : Pt) : Pt := (-p.1, -p.2)
theorem sdp_ng (a b s : Pt) : sdp (ng a) (ng b) (ng s) = sdp a b s := by unfold sdp sd ng; grind
theorem ph_ng (p : Pt) : ph K (ng p) = - ph K p := by unfold ph ng; grind
theorem pop_ng (s : Pt) : ∀ st : List Pt, popS (ng s) (st.map ng) = (popS s st).map ng
  | [] => rfl
  | [t] => rfl
  | t :: u :: r => by
    show (if sdp (ng u) (ng t) (ng s) ≤ 0 then popS (ng s) ((u :: r).map ng) else (t :: u :: r).map ng) = (popS s (t :: u :: r)).map ng
    rw [sdp_ng, pop_ng s (u :: r)]
    conv => rhs; unfold popS
    split <;> rfl
theorem fold_ng : ∀ (l st : List Pt), (l.map ng).foldl pushS (st.map ng) = (l.foldl pushS st).map ng
  | [], st => rfl
  | s :: l, st => by
    rw [List.map_cons, List.foldl_cons, List.foldl_cons]
    have : pushS (st.map ng) (ng s) = (pushS st s).map ng := by unfold pushS; rw [pop_ng]; rfl
    rw [this, fold_ng l]
def asc (K : Int) (l : List Pt) : Prop := l.Pairwise (fun x y => ph K x < ph K y)
/-- the stack of the lower chain, and of the upper one -/
def loS (l : List Pt) : List Pt := l.foldl pushS []
def upS (l : List Pt) : List Pt := l.reverse.foldl pushS []
theorem ph_inj {l : List Pt} (h : asc K l) {x y : Pt} (hx : x ∈ l) (hy : y ∈ l) (e : ph K x = ph K y) : x = y := by
  obtain ⟨i, hi, rfl⟩ := List.mem_iff_getElem.1 hx
  obtain ⟨j, hj, rfl⟩ := List.mem_iff_getElem.1 hy
  have := List.pairwise_iff_getElem.1 h
  by_cases hij : i = j
  · subst hij; rfl
  · by_cases hlt : i < j
    · have := this i j hi hj hlt; omega
    · have := this j i hj hi (by omega); omega
theorem lo_inv {a : Pt} {l : List Pt} (h : asc K (a :: l)) : InvS K (a :: l) (loS (a :: l)) := half_chain a l h
theorem up_inv {l : List Pt} (h : asc K l) (hne : l ≠ []) : InvS K (l.reverse.map ng) ((upS l).map ng) := by
  have hasc : asc K (l.reverse.map ng) := by
    unfold asc at *
    rw [List.pairwise_map, List.pairwise_reverse]
    exact h.imp fun {x y} hxy => by rw [ph_ng, ph_ng]; omega
  have e : (upS l).map ng = loS (l.reverse.map ng) := by
    unfold upS loS
    exact (fold_ng l.reverse []).symm
  rw [e]
  cases hr : l.reverse.map ng with
  | nil => simp at hr; exact absurd hr hne
  | cons a m => rw [hr] at hasc; exact lo_inv hasc
end
end Go.Eng.Geo

/-
Plane geometry in whole numbers: the hull as a ring.
-/
namespace Go.Eng.Geo
section
variable {K : Int}
/-- both chains from end to end -/
theorem ends {a : Pt} {l : List Pt} {z : Pt} (h : asc K (a :: l)) (hz : z ∈ a :: l) (hmax : ∀ x ∈ a :: l, ph K x ≤ ph K z) (haz : a ≠ z) :
    ∃ L1 U1, (loS (a :: l)).reverse = a :: (L1 ++ [z]) ∧ (upS (a :: l)).reverse = z :: (U1 ++ [a]) ∧
      (∀ x ∈ L1 ++ [z] ++ U1, ph K a < ph K x) := by
  have hI := lo_inv h
  have hU := up_inv h (by simp)
  have hmin : ∀ x ∈ a :: l, ph K a ≤ ph K x := by
    intro x hx
    rcases List.mem_cons.1 hx with rfl | hx
    · exact Int.le_refl _
    · have := (List.pairwise_cons.1 h).1 x hx; omega
  have hamem : a ∈ a :: l := by simp
  -- the lower stack
  obtain ⟨t, s, hst⟩ : ∃ t s, loS (a :: l) = t :: s := by
    cases hq : loS (a :: l) with
    | nil => exact absurd hq hI.ne
    | cons t s => exact ⟨t, s, rfl⟩
  have ht : t = z := by
    have h1 := hI.top t (by rw [hst]; rfl) z hz
    have h2 := hI.mem t (by rw [hst]; simp)
    exact ph_inj h h2 hz (by have := hmax t h2; omega)
  subst ht
  obtain ⟨s', b, hs'⟩ : ∃ s' b, t :: s = s' ++ [b] := by
    rcases snoc (t :: s) with h | ⟨s', b, h⟩
    · cases h
    · exact ⟨s', b, h⟩
  have hb : b = a := by
    have h1 := hI.bot b (by rw [hst, hs']; simp) a hamem
    have h2 := hI.mem b (by rw [hst, hs']; simp)
    exact ph_inj h h2 hamem (by have := hmin b h2; omega)
  subst hb
  obtain ⟨s1, hs1⟩ : ∃ s1, s = s1 ++ [b] := by
    cases s' with
    | nil => simp only [List.nil_append, List.cons.injEq] at hs'; exact absurd hs'.1.symm haz
    | cons y s' => simp only [List.cons_append, List.cons.injEq] at hs'; exact ⟨s', hs'.2⟩
  subst hs1
  -- the upper stack
  have hmemU : ∀ x ∈ upS (b :: l), x ∈ b :: l := by
    intro x hx
    have := hU.mem (ng x) (List.mem_map_of_mem hx)
    obtain ⟨y, hy, e⟩ := List.mem_map.1 this
    have : y = x := by
      have e1 := congrArg Prod.fst e; have e2 := congrArg Prod.snd e
      unfold ng at e1 e2
      exact Prod.ext (by simp only at e1; omega) (by simp only at e2; omega)
    rw [← this]; exact List.mem_reverse.1 hy
  obtain ⟨u, r, hru⟩ : ∃ u r, upS (b :: l) = u :: r := by
    cases hq : upS (b :: l) with
    | nil => have := hU.ne; rw [hq] at this; exact absurd rfl this
    | cons u r => exact ⟨u, r, rfl⟩
  have hub : u = b := by
    have h1 := hU.top (ng u) (by rw [hru]; rfl) (ng b) (List.mem_map_of_mem (List.mem_reverse.2 hamem))
    rw [ph_ng, ph_ng] at h1
    have h2 := hmemU u (by rw [hru]; simp)
    exact ph_inj h h2 hamem (by have := hmin u h2; omega)
  subst hub
  obtain ⟨r', y, hr'⟩ : ∃ r' y, u :: r = r' ++ [y] := by
    rcases snoc (u :: r) with h | ⟨s', b, h⟩
    · cases h
    · exact ⟨s', b, h⟩
  have hy : y = t := by
    have h1 := hU.bot (ng y) (by rw [hru, hr']; simp) (ng t) (List.mem_map_of_mem (List.mem_reverse.2 hz))
    rw [ph_ng, ph_ng] at h1
    have h2 := hmemU y (by rw [hru, hr']; simp)
    exact ph_inj h h2 hz (by have := hmax y h2; omega)
  subst hy
  obtain ⟨r1, hr1⟩ : ∃ r1, r = r1 ++ [y] := by
    cases r' with
    | nil => simp only [List.nil_append, List.cons.injEq] at hr'; exact absurd hr'.1 haz
    | cons w r' => simp only [List.cons_append, List.cons.injEq] at hr'; exact ⟨r', hr'.2⟩
  subst hr1
  refine ⟨s1.reverse, r1.reverse, by rw [hst]; simp, by rw [hru]; simp, ?_⟩
  intro x hx
  have hsrt := hI.srt
  rw [hst] at hsrt
  have hsrtU := hU.srt
  rw [hru] at hsrtU
  have hty : ph K u < ph K y := by
    have := hmax u hamem
    by_cases hh : ph K u = ph K y
    · exact absurd (ph_inj h hamem hz hh) haz
    · omega
  rcases List.mem_append.1 hx with hx | hx
  · rcases List.mem_append.1 hx with hx | hx
    · have hx := List.mem_reverse.1 hx
      have h1 := (List.pairwise_append.1 (List.pairwise_cons.1 hsrt).2).2.2 x hx u (by simp)
      exact h1
    · rw [List.mem_singleton] at hx; rw [hx]; exact hty
  · have hx := List.mem_reverse.1 hx
    rw [List.map_cons] at hsrtU
    have h1 := (List.pairwise_cons.1 hsrtU).1 (ng x) (List.mem_map_of_mem (by simp [hx]))
    rw [ph_ng, ph_ng] at h1; omega

end
end Go.Eng.Geo

/-
Spots in order, each once.
-/
namespace Go.Eng
open Go Geo
open scoped Classical
set_option linter.unusedVariables false
set_option linter.unusedSimpArgs false

def sO (a b : api_Spot) : Int := or0 (cmpI a.X b.X) (cmpI a.Y b.Y)
theorem bySpot_eq (a b : api_Spot) : z495 a b = some (sO a b) := by
  unfold z495
  simp only [cmpInt_eq, Option.bind_some]
  have h2 : z152 [cmpI a.X b.X, cmpI a.Y b.Y] = some (sO a b) := by
    rw [Or_eq _ (by simp)]
    unfold sO or0
    by_cases ha : cmpI a.X b.X = 0 <;> by_cases hb : cmpI a.Y b.Y = 0 <;> simp [ha, hb]
  rw [h2]; rfl
theorem sO_anti (a b : api_Spot) : sO b a = - sO a b := by
  unfold sO
  rw [cmpI_anti a.X b.X, cmpI_anti a.Y b.Y, or0_neg]
theorem sO_le {a b : api_Spot} : sO a b ≤ 0 ↔ (a.X < b.X ∨ (a.X = b.X ∧ a.Y ≤ b.Y)) := by
  unfold sO or0 cmpI; (repeat' split) <;> omega
theorem sO_tr (a b c : api_Spot) (h1 : sO a b ≤ 0) (h2 : sO b c ≤ 0) : sO a c ≤ 0 := by
  rw [sO_le] at *; omega
def kS (s : api_Spot) : Int := ph 30000 (pt s)
theorem kS_le {a b : api_Spot} (ha : InB a) (hb : InB b) (h : sO a b ≤ 0) : kS a ≤ kS b := by
  rw [sO_le] at h
  unfold InB at ha hb
  unfold kS ph pt; simp only; omega
theorem kS_inj {a b : api_Spot} (ha : InB a) (hb : InB b) (h : kS a = kS b) : a = b := by
  unfold InB at ha hb
  unfold kS ph pt at h; simp only at h
  apply pt_inj
  unfold pt
  have e1 : a.X = b.X := by omega
  have e2 : a.Y = b.Y := by omega
  rw [e1, e2]
theorem len_few' {n : Nat} (h : n ≤ 12) : ∃ r, bits_Len (IntKind.wrap .u64 (n : Int)) = some r := by
  have : ∀ k : _root_.Fin 13, (bits_Len (IntKind.wrap .u64 (k.val : Int))).isSome = true := by decide +kernel
  have h := this ⟨n, by omega⟩
  exact Option.isSome_iff_exists.1 h
/-! ### Each once -/
section
variable {α : Type}
theorem gCom_strict {P : α → Prop} {t : α → α → Option Bool} (ht : ∀ x y, P x → P y → ∃ b, t x y = some b ∧ (b = true ↔ x = y)) {kf : α → Int} (hk : ∀ x y, P x → P y → kf x = kf y → x = y) {z : α} {l : List α} (hl : l.length ≤ 100000) (hp : All P l)
    (hs : ∀ p q (hpq : p < q) (hq : q < l.length), kf (l[p]'(by omega)) ≤ kf l[q]) : Ok (gCom t z l) (fun r => r.length ≤ l.length ∧ All P r ∧ r.Pairwise (fun x y => kf x < kf y)) := by
  unfold gCom
  have small : ∀ k, (k ≤ l.length) → (∀ q (hq : q + 1 < k) (hk : k ≤ l.length), l[q + 1]'(by omega) ≠ l[q]'(by omega)) → (l.take k).Pairwise (fun x y => kf x < kf y) := by
    intro k hkl hne
    rw [List.pairwise_iff_getElem]
    intro i j hi hj hij
    simp only [List.getElem_take]
    have hjl : j < l.length := by simp at hj; omega
    have hjk : j < k := by simp at hj; omega
    have h1 : kf (l[i]'(by omega)) ≤ kf (l[j - 1]'(by omega)) := by
      by_cases e : i = j - 1
      · subst e; exact Int.le_refl _
      · exact hs i (j - 1) (by omega) (by omega)
    have h2 := hs (j - 1) j (by omega) hjl
    have h3 : kf (l[j - 1]'(by omega)) ≠ kf l[j] := by
      intro e
      have e2 := hk _ _ (hp _ (List.getElem_mem (show j - 1 < l.length by omega))) (hp _ (List.getElem_mem hjl)) e
      have := hne (j - 1) (by omega) hkl
      apply this
      have e3 : j - 1 + 1 = j := by omega
      simp only [e3]
      exact e2.symm
    omega
  refine .cond (fun hc => .some ⟨Nat.le_refl _, hp, ?_⟩) (fun hc => ?_)
  · have hc := of_decide_eq_true hc
    match l, hc with
    | [], _ => simp
    | [x], _ => simp
    | x :: y :: m, hc => simp at hc; omega
  have hl2 : (2 : Int) ≤ l.length := by simpa using hc
  refine Ok.bind (P := fun x => match x with | .inl _ => l.Pairwise (fun x y => kf x < kf y) | .inr r => r.length ≤ l.length ∧ All P r ∧ r.Pairwise (fun x y => kf x < kf y)) ?_ (fun x hx => ?_)
  · refine loop_ok (fun k : Int => ∃ n : Nat, k = (n : Int) ∧ 1 ≤ n ∧ n ≤ l.length ∧ ∀ q (hq : q + 1 < n) (hk : n ≤ l.length), l[q + 1]'(by omega) ≠ l[q]'(by omega)) (fun k => ((l.length : Int) - k).toNat) ?_ ⟨1, rfl, by omega, by omega, fun q hq => by omega⟩
    rintro k ⟨n, rfl, n1, n2, n3⟩
    unfold gC1
    by_cases hk' : n < l.length
    · have hki : (n : Int) < l.length := by omega
      have w1 : IntKind.wrap .i64 ((n : Int) - 1) = ((n - 1 : Nat) : Int) := by rw [wrap64 (by omega) (by omega)]; omega
      have w2 : IntKind.wrap .i64 ((n : Int) + 1) = ((n + 1 : Nat) : Int) := by rw [wrap64 (by omega) (by omega)]; omega
      obtain ⟨b, hb, hbe⟩ := ht l[n] (l[n - 1]'(by omega)) (hp _ (List.getElem_mem hk')) (hp _ (List.getElem_mem (show n - 1 < l.length by omega)))
      simp only [hki, decide_true, cond_true, w1, at_nat hk', at_nat (show n - 1 < l.length by omega), hb, Option.bind_some]
      cases b with
      | false =>
        simp only [cond_false, w2]
        refine .some ⟨⟨n + 1, rfl, by omega, by omega, fun q hq hk => ?_⟩, by omega⟩
        by_cases e : q + 1 = n
        · subst e
          intro he
          have : (false : Bool) = true := hbe.2 he
          cases this
        · exact n3 q (by omega) n2
      | true =>
        have heq : l[n] = l[n - 1]'(by omega) := hbe.1 rfl
        simp only [cond_true]
        refine .gd (by simp; omega) ?_
        have hkn : (((l.length : Int).toNat - (n : Int).toNat : Nat) : Int) = l.length - n := by omega
        refine Ok.bind (P := fun q : List α × Int => q.1.length = l.length ∧ ∃ i : Nat, q.2 = (i : Int) ∧ i ≤ l.length ∧ All P q.1 ∧ (q.1.take i).Pairwise (fun x y => kf x < kf y)) ?_ (fun ⟨l7, k9⟩ ⟨q1, i, q2, q3, q4, q5⟩ => ?_)
        · refine loop_ok (fun q : List α × Int × Int => q.1.length = l.length ∧ All P q.1 ∧ ∃ i j : Nat, q.2.1 = (i : Int) ∧ q.2.2 = (j : Int) ∧ 1 ≤ j ∧ n + j ≤ l.length ∧ 1 ≤ i ∧ i ≤ n + j - 1 ∧ q.1.drop (n + j - 1) = l.drop (n + j - 1) ∧
            (q.1.take i).Pairwise (fun x y => kf x < kf y) ∧ ∀ (h1 : i - 1 < q.1.length) (h2 : n + j - 1 < l.length), q.1[i - 1] = l[n + j - 1]) (fun q => ((l.length : Int) - q.2.2).toNat) ?_
            ⟨rfl, hp, n, 1, rfl, rfl, by omega, by omega, by omega, by omega, rfl, small n n2 n3, fun h1 h2 => by simp only [Nat.add_sub_cancel]; exact heq.symm⟩
          rintro ⟨m, i', j'⟩ ⟨m1, m2, i, j, rfl, rfl, j1, j2, i1, i2, d1, d2, d3⟩
          simp only at m1 m2 d1 d2 d3
          unfold gC2
          rw [hkn]
          refine .cond (fun hj => ?_) (fun hj => .some ⟨m1, i, rfl, by omega, m2, d2⟩)
          have hj : (j : Int) < l.length - n := by simpa using hj
          have w3 : IntKind.wrap .i64 ((j : Int) - 1) = ((j - 1 : Nat) : Int) := by rw [wrap64 (by omega) (by omega)]; omega
          have w4 : IntKind.wrap .i64 ((i : Int) + 1) = ((i + 1 : Nat) : Int) := by rw [wrap64 (by omega) (by omega)]; omega
          have w5 : IntKind.wrap .i64 ((j : Int) + 1) = ((j + 1 : Nat) : Int) := by rw [wrap64 (by omega) (by omega)]; omega
          have a1 : m[n + j]'(by omega) = l[n + j]'(by omega) := by
            have h := congrArg (fun x => x[1]?) d1
            simp only [List.getElem?_drop] at h
            rw [show n + j - 1 + 1 = n + j by omega, List.getElem?_eq_getElem (by omega), List.getElem?_eq_getElem (by omega)] at h
            exact Option.some.inj h
          have a2 : m[n + j - 1]'(by omega) = l[n + j - 1]'(by omega) := by
            have h := congrArg (fun x => x[0]?) d1
            simp only [List.getElem?_drop] at h
            rw [show n + j - 1 + 0 = n + j - 1 by omega, List.getElem?_eq_getElem (by omega), List.getElem?_eq_getElem (by omega)] at h
            exact Option.some.inj h
          have hx := hp _ (List.getElem_mem (show n + j < l.length by omega))
          have hy := hp _ (List.getElem_mem (show n + j - 1 < l.length by omega))
          obtain ⟨b, hb, hbe⟩ := ht (l[n + j]'(by omega)) (l[n + j - 1]'(by omega)) hx hy
          refine Ok.bind (P := fun q : List α × Int => q.1.length = l.length ∧ All P q.1 ∧ ∃ i : Nat, q.2 = (i : Int) ∧ 1 ≤ i ∧ i ≤ n + j ∧ q.1.drop (n + j) = l.drop (n + j) ∧ (q.1.take i).Pairwise (fun x y => kf x < kf y) ∧ ∀ (h1 : i - 1 < q.1.length) (h2 : n + j < l.length), q.1[i - 1] = l[n + j]) ?_ (fun ⟨m', i''⟩ ⟨g1, g2, i3, g3, g4, g5, g6, g7, g8⟩ => ?_)
          · unfold gC3
            rw [w3]
            refine .gd (by simp; omega) ?_
            have e1 : (n : Int) + (j : Int) = ((n + j : Nat) : Int) := by omega
            have e2 : (n : Int) + ((j - 1 : Nat) : Int) = ((n + j - 1 : Nat) : Int) := by omega
            rw [e1, at_nat (show n + j < m.length by omega)]
            simp only [Option.bind_some]
            refine .gd (by simp; omega) ?_
            rw [e2, at_nat (show n + j - 1 < m.length by omega), at_nat (show i < m.length by omega)]
            simp only [Option.bind_some, a1, a2, hb, w4, Int.toNat_natCast]
            have hdrop : m.drop (n + j) = l.drop (n + j) := by
              have h := congrArg (List.drop 1) d1
              rw [List.drop_drop, List.drop_drop, show n + j - 1 + 1 = n + j by omega] at h
              exact h
            cases b with
            | true =>
              have he : l[n + j]'(by omega) = l[n + j - 1]'(by omega) := hbe.1 rfl
              refine .some ⟨m1, m2, i, rfl, i1, by omega, hdrop, d2, fun h1 h2 => ?_⟩
              rw [d3 h1 (by omega)]; exact he.symm
            | false =>
              have hne : l[n + j]'(by omega) ≠ l[n + j - 1]'(by omega) := fun e => by have := hbe.2 e; cases this
              refine .some ⟨by simp [m1], m2.set hx, i + 1, rfl, by omega, by omega, ?_, ?_, fun h1 h2 => ?_⟩
              · simp only
                rw [List.drop_set_of_lt (by omega)]; exact hdrop
              · simp only
                rw [List.take_succ_eq_append_getElem (by simp; omega), List.take_set_of_le (by omega)]
                simp only [List.getElem_set_self]
                rw [List.pairwise_append]
                refine ⟨d2, by simp, fun x hx' y hy' => ?_⟩
                rw [List.mem_singleton] at hy'
                subst hy'
                have hlast := d3 (by omega) (by omega)
                have hle : kf x ≤ kf (l[n + j - 1]'(by omega)) := by
                  obtain ⟨p, hp', rfl⟩ := List.mem_iff_getElem.1 hx'
                  simp only [List.getElem_take]
                  rw [← hlast]
                  have hpi : p < i := by simp at hp'; omega
                  by_cases e : p = i - 1
                  · subst e; exact Int.le_refl _
                  · have := (List.pairwise_iff_getElem.1 d2) p (i - 1) hp' (by simp; omega) (by omega)
                    simp only [List.getElem_take] at this
                    omega
                have hlt : kf (l[n + j - 1]'(by omega)) < kf (l[n + j]'(by omega)) := by
                  have h1 := hs (n + j - 1) (n + j) (by omega) (by omega)
                  by_cases e : kf (l[n + j - 1]'(by omega)) = kf (l[n + j]'(by omega))
                  · exact absurd (hk _ _ hy hx e).symm hne
                  · omega
                omega
              · simp
          · simp only at g1 g2 g3 g6 g7 g8
            subst g3
            rw [w5]
            refine .some ⟨⟨g1, g2, i3, j + 1, rfl, rfl, by omega, by omega, g4, by omega, ?_, g7, fun h1 h2 => ?_⟩, by simp only; omega⟩
            · simp only
              rw [show n + (j + 1) - 1 = n + j by omega]; exact g6
            · simp only
              have := g8 h1 (by omega)
              rw [this]
              congr 1
        · simp only at q1 q2 q4 q5
          subst q2
          refine .gd (by simp; omega) (.gd ?_ ?_)
          · simp only [Bool.and_eq_true, decide_eq_true_eq]
            refine ⟨by omega, ?_⟩
            simp only [List.length_append, List.length_take, List.length_replicate, List.length_drop, Int.toNat_natCast]
            omega
          · rw [take_part (by simp; omega)]
            refine .some ⟨?_, fun x hx => q4 x (List.mem_of_mem_take hx), by simpa using q5⟩
            simp only [List.length_take]; omega
    · have hki : ¬ (n : Int) < l.length := by omega
      simp only [hki, decide_false, cond_false]
      refine .some ?_
      have := small l.length (Nat.le_refl _) (fun q hq hk => n3 q (by omega) n2)
      rwa [List.take_length] at this
  · cases x with
    | inl _ => exact .some ⟨Nat.le_refl _, hp, hx⟩
    | inr r => exact .some hx
end
end Go.Eng

/-
The hull as the code makes it.
-/
namespace Go.Eng
open Go Geo
open scoped Classical
set_option linter.unusedVariables false
set_option linter.unusedSimpArgs false

theorem sdp_pt (a b s : api_Spot) : sdp (pt a) (pt b) (pt s) = sd a.X a.Y b.X b.Y s.X s.Y := rfl
theorem last_two {α} (t u : α) (r : List α) : at? (t :: u :: r).reverse ((((t :: u :: r).length : Int)) - 2) = some u ∧ at? (t :: u :: r).reverse ((((t :: u :: r).length : Int)) - 1) = some t := by
  have hl : (t :: u :: r).reverse.length = r.length + 2 := by simp
  have e : ((t :: u :: r).length : Int) = ((r.length + 2 : Nat) : Int) := by simp; omega
  refine ⟨?_, ?_⟩
  · rw [e, show ((r.length + 2 : Nat) : Int) - 2 = (r.length : Int) by omega, at_nat (by rw [hl]; omega)]
    congr 1
    simp [List.getElem_append_right]
  · rw [e, show ((r.length + 2 : Nat) : Int) - 1 = ((r.length + 1 : Nat) : Int) by omega, at_nat (by rw [hl]; omega)]
    congr 1
    simp [List.getElem_append_right]

theorem half_pop {s : api_Spot} (hs : InB s) {r0 : List api_Spot} (h0 : All InB r0) (hl : r0.length ≤ 100000) :
    Ok (loopO (z565 s) (r0.reverse, (r0.reverse.length : Int))) (fun v => ∃ r, v = r.reverse ∧ r.map pt = popS (pt s) (r0.map pt) ∧ All InB r ∧ r.length ≤ r0.length) := by
  refine loop_ok (fun q : List api_Spot × Int => ∃ r, q.1 = r.reverse ∧ q.2 = (r.length : Int) ∧ popS (pt s) (r.map pt) = popS (pt s) (r0.map pt) ∧ All InB r ∧ r.length ≤ r0.length) (fun q => q.2.toNat) ?_ ⟨r0, rfl, by simp, rfl, h0, Nat.le_refl _⟩
  rintro ⟨v, n⟩ ⟨r, rfl, rfl, h1, h2, h3⟩
  unfold z565 z570
  match r, h1, h2, h3 with
  | [], h1, h2, h3 => exact .some ⟨[], rfl, by rw [← h1]; rfl, h2, h3⟩
  | [t], h1, h2, h3 => exact .some ⟨[t], rfl, by rw [← h1]; rfl, h2, h3⟩
  | t :: u :: r, h1, h2, h3 =>
    have hc : (1 : Int) < ((t :: u :: r).length : Int) := by simp only [List.length_cons]; omega
    have hlen : (t :: u :: r).length ≤ 100000 := by omega
    have w2 : IntKind.wrap .i64 (((t :: u :: r).length : Int) - 2) = ((t :: u :: r).length : Int) - 2 := wrap64 (by omega) (by omega)
    have w1 : IntKind.wrap .i64 (((t :: u :: r).length : Int) - 1) = ((t :: u :: r).length : Int) - 1 := wrap64 (by omega) (by omega)
    obtain ⟨a2, a1⟩ := last_two t u r
    have hu : InB u := h2 _ (by simp)
    have ht : InB t := h2 _ (by simp)
    unfold z601
    simp only [hc, decide_true, cond_true, w2, w1, a2, a1, Option.bind_some, side_wrap hu ht hs]
    by_cases hd : sd u.X u.Y t.X t.Y s.X s.Y ≤ 0
    · simp only [hd, decide_true, cond_true]
      have g : (decide (0 ≤ ((t :: u :: r).length : Int) - 1) && decide (((t :: u :: r).length : Int) - 1 ≤ ((t :: u :: r).reverse.length : Int))) = true := by simp; omega
      refine .gd g (.some ⟨⟨u :: r, ?_, ?_, ?_, fun x hx => h2 x (List.mem_cons_of_mem _ hx), by simp at h3 ⊢; omega⟩, by simp only [List.length_cons]; omega⟩)
      · have e : (((t :: u :: r).length : Int) - 1).toNat = (u :: r).reverse.length := by simp
        rw [e, List.reverse_cons (a := t), List.take_left]
      · simp only [List.length_cons]; omega
      · rw [← h1]
        simp only [List.map_cons]
        conv => rhs; unfold popS
        rw [if_pos (by rw [sdp_pt]; exact hd)]
    · simp only [hd, decide_false, cond_false]
      refine .some ⟨_, rfl, ?_, h2, h3⟩
      rw [← h1]
      simp only [List.map_cons]
      conv => rhs; unfold popS
      rw [if_neg (by rw [sdp_pt]; exact hd)]

theorem take_succ' {α} {l : List α} {i : Nat} (h : i < l.length) : l.take (i + 1) = l.take i ++ [l[i]] := List.take_succ_eq_append_getElem h
theorem half_eq {l : List api_Spot} (h0 : All InB l) (hl : l.length ≤ 10000) :
    Ok (z557 l) (fun v => ∃ r, v = r.reverse ∧ r.map pt = (l.map pt).foldl pushS [] ∧ All InB r ∧ r.length ≤ l.length) := by
  unfold z557
  refine Ok.bind (P := fun v => ∃ r, v = r.reverse ∧ r.map pt = (l.map pt).foldl pushS [] ∧ All InB r ∧ r.length ≤ l.length) ?_ (fun v hv => .some hv)
  refine loop_ok (fun q : List api_Spot × Int => ∃ k : Nat, q.2 = (k : Int) ∧ k ≤ l.length ∧ ∃ r, q.1 = r.reverse ∧ r.map pt = ((l.take k).map pt).foldl pushS [] ∧ All InB r ∧ r.length ≤ k) (fun q => ((l.length : Int) - q.2).toNat) ?_ ⟨0, rfl, by omega, [], rfl, rfl, fun _ h => by simp at h, by simp⟩
  rintro ⟨v, i⟩ ⟨k, rfl, k1, r, rfl, r1, r2, r3⟩
  unfold z560
  by_cases hk : k < l.length
  · have hk' : (k : Int) < l.length := by omega
    have w1 : IntKind.wrap .i64 ((k : Int) + 1) = ((k + 1 : Nat) : Int) := by rw [wrap64 (by omega) (by omega)]; omega
    have hs := h0 _ (List.getElem_mem hk)
    simp only [hk', decide_true, cond_true, at_nat hk, Option.bind_some, w1]
    refine (half_pop hs r2 (by omega)).bind fun v ⟨r', hv, e1, e2, e3⟩ => ?_
    subst hv
    refine .gd (ble_lim (by simp; omega)) (.some ⟨⟨k + 1, rfl, by omega, l[k] :: r', by simp, ?_, ?_, by simp; omega⟩, by simp only; omega⟩)
    · rw [take_succ' hk, List.map_append, List.foldl_append, ← r1]
      simp only [List.map_cons, List.map_nil, List.foldl_cons, List.foldl_nil]
      unfold pushS
      rw [e1]
    · intro x hx
      rcases List.mem_cons.1 hx with rfl | hx
      · exact hs
      · exact e2 x hx
  · have hk' : ¬ (k : Int) < l.length := by omega
    simp only [hk', decide_false, cond_false]
    refine .some ⟨r, rfl, ?_, r2, by omega⟩
    rw [r1, List.take_of_length_le (by omega)]

/-! ### Turned round -/
theorem rev_eq {l : List api_Spot} (hl : l.length ≤ 100000) : z913 l = some l.reverse := by
  apply Ok.eq
  unfold z913
  rw [wrap64 (by omega) (by omega)]
  refine Ok.bind (P := fun v => v = l.reverse) ?_ (fun v hv => .some hv)
  refine loop_ok (fun q : List api_Spot × Int × Int => q.1.length = l.length ∧ ∃ i : Nat, q.2.1 = (i : Int) ∧ q.2.2 = (l.length : Int) - 1 - i ∧ (i : Int) ≤ (l.length : Int) - i ∧ (∀ p (hp : p < q.1.length) (hl : p < l.length), i ≤ p → p < l.length - i → q.1[p] = l[p]) ∧
    (∀ p (hp : p < q.1.length) (hl : l.length - 1 - p < l.length), (p < i ∨ l.length - i ≤ p) → q.1[p] = l[l.length - 1 - p])) (fun q => ((l.length : Int) - q.2.1).toNat) ?_
    ⟨rfl, 0, rfl, by simp, by simp, fun _ _ _ _ _ => rfl, fun p hp _ h => by simp only at hp; omega⟩
  rintro ⟨v, i', j'⟩ ⟨v1, i, rfl, rfl, v2, v3, v4⟩
  simp only at v1 v3 v4
  unfold z916
  by_cases hc : (i : Int) < (l.length : Int) - 1 - i
  · have hi : i < v.length := by omega
    have hj : l.length - 1 - i < v.length := by omega
    have ej : (l.length : Int) - 1 - i = ((l.length - 1 - i : Nat) : Int) := by omega
    have w1 : IntKind.wrap .i64 ((i : Int) + 1) = ((i + 1 : Nat) : Int) := by rw [wrap64 (by omega) (by omega)]; omega
    have w2 : IntKind.wrap .i64 (((l.length - 1 - i : Nat) : Int) - 1) = (l.length : Int) - 1 - ((i + 1 : Nat) : Int) := by rw [wrap64 (by omega) (by omega)]; omega
    have hc' := hc
    rw [ej] at hc'
    have hne : l.length - 1 - i ≠ i := by omega
    rw [ej]
    simp only [hc', decide_true, cond_true, at_nat hi, at_nat hj, Option.bind_some, Int.toNat_natCast, w1, w2]
    rw [at_nat (show l.length - 1 - i < (v.set i v[l.length - 1 - i]).length by simp; omega)]
    simp only [Option.bind_some]
    refine .some ⟨⟨by simp [v1], i + 1, rfl, rfl, by omega, ?_, ?_⟩, by simp only; omega⟩
    · intro p hp hpl h1 h2
      simp only [List.getElem_set]
      rw [if_neg (by omega), if_neg (by omega)]
      exact v3 p (by omega) hpl (by omega) (by omega)
    · intro p hp hpl h
      simp only [List.getElem_set]
      by_cases h1 : l.length - 1 - i = p
      · subst h1
        rw [if_pos rfl, v3 i hi (by omega) (by omega) (by omega)]
        congr 1; omega
      · rw [if_neg h1]
        by_cases h2 : i = p
        · subst h2
          rw [if_pos rfl]
          exact v3 _ hj (by omega) (by omega) (by omega)
        · rw [if_neg h2]
          exact v4 p (by simp at hp; omega) hpl (by omega)
  · simp only [hc, decide_false, cond_false]
    refine .some ?_
    apply List.ext_getElem (by simp [v1])
    intro p h1 h2
    rw [List.getElem_reverse]
    by_cases h : p < i ∨ l.length - i ≤ p
    · exact v4 p h1 (by omega) h
    · rw [v3 p h1 (by omega) (by omega) (by omega)]
      congr 1; omega

theorem sconcat_eq {a b : List api_Spot} (ha : a.length ≤ 10000) (hb : b.length ≤ 10000) : z807 [a, b] = some (a ++ b) := by
  unfold z807
  have w1 : IntKind.wrap .i64 ((0 : Int) + a.length) = a.length := by rw [wrap64 (by omega) (by omega)]; omega
  have w2 : IntKind.wrap .i64 ((a.length : Int) + b.length) = (a.length : Int) + b.length := wrap64 (by omega) (by omega)
  have n1 : ¬ (a.length : Int) < 0 := by omega
  have n2 : ¬ (a.length : Int) + b.length < 0 := by omega
  have i1 : IntKind.wrap .i64 ((0 : Int) + 1) = 1 := by decide
  have i2 : IntKind.wrap .i64 ((1 : Int) + 1) = 2 := by decide
  have t0 : at? [a, b] 0 = some a := rfl
  have t1 : at? [a, b] 1 = some b := rfl
  have c0 : (0 : Int) < (([a, b] : List (List api_Spot)).length : Int) := by simp
  have c1 : (1 : Int) < (([a, b] : List (List api_Spot)).length : Int) := by simp
  have c2 : ¬ (2 : Int) < (([a, b] : List (List api_Spot)).length : Int) := by simp
  have l1 : loopO (z810 [a, b]) (0, 0) = some ((a.length : Int) + b.length) := by
    rw [loop_in (s' := ((a.length : Int), 1)), loop_in (s' := ((a.length : Int) + b.length, 2)), loop_out (r := (a.length : Int) + b.length)]
    · unfold z810
      simp only [c2, decide_false, cond_false]
    · unfold z810
      simp only [c1, decide_true, cond_true, t1, Option.bind_some, w2, n2, decide_false, cond_false, i2]
    · unfold z810
      simp only [c0, decide_true, cond_true, t0, Option.bind_some, w1, n1, decide_false, cond_false, i1]
  have l2 : loopO (z815 [a, b]) ([], 0) = some (a ++ b) := by
    have g1 : Nat.ble (([] : List api_Spot).length + a.length) LIM = true := ble_lim (by simp; omega)
    have g2 : Nat.ble (a.length + b.length) LIM = true := ble_lim (by omega)
    rw [loop_in (s' := (a, 1)), loop_in (s' := (a ++ b, 2)), loop_out (r := a ++ b)]
    · unfold z815
      simp only [c2, decide_false, cond_false]
    · unfold z815
      simp only [c1, decide_true, cond_true, t1, Option.bind_some, gd_true g2, i2]
    · unfold z815
      simp only [c0, decide_true, cond_true, t0, Option.bind_some, gd_true g1, i1, List.nil_append]
  have g : z866 ((a.length : Int) + b.length) = some [] := by
    unfold z866 z869
    have w3 : IntKind.wrap .i64 ((0 : Int) - 0) = 0 := by decide
    have w4 : IntKind.wrap .i64 ((a.length : Int) + b.length - 0) = (a.length : Int) + b.length := by rw [wrap64 (by omega) (by omega)]; omega
    simp only [n2, decide_false, cond_false, w3, w4]
    by_cases hz : (0 : Int) < (a.length : Int) + b.length
    · have h1 : (decide (0 ≤ (a.length : Int) + b.length) && decide ((a.length : Int) + b.length ≤ 137438953472)) = true := by simp; omega
      simp only [hz, decide_true, cond_true, gd_true h1]
      rw [gd_true (by simp; omega)]; rfl
    · simp only [hz, decide_false, cond_false]; rfl
  rw [l1]
  simp only [Option.bind_some, g, l2]

/-! ### Each spot once -/
def eqSp (x y : api_Spot) : Option Bool := some (decide (x.X = y.X) && (decide (x.Y = y.Y) && true))
theorem compact_eq (l : List api_Spot) : z760 l = gCom eqSp (api_Spot.mk 0 0) l := by kernel_rfl
theorem eqSp_ok (x y : api_Spot) : ∃ b, eqSp x y = some b ∧ (b = true ↔ x = y) := by
  refine ⟨_, rfl, ?_⟩
  exact spB_iff
end Go.Eng

/-
The hull, both ways.
-/
namespace Go.Eng
open Go Geo
open scoped Classical
set_option linter.unusedVariables false
set_option linter.unusedSimpArgs false

theorem scan_idxp {α : Type} {p : α → Bool} : ∀ (l : List α) (k : Nat), ∃ r : Int, (match ((scan (fun i x => cond (p x) (some (Sum.inr (i : Int))) none) k l).getD (Sum.inl ()) : Unit ⊕ Int) with | .inl _ => (-1 : Int) | .inr i => i) = r ∧ (decide (0 ≤ r) = l.any p)
  | [], k => ⟨-1, rfl, rfl⟩
  | x :: l, k => by
    simp only [scan, List.any_cons]
    cases p x with
    | true => exact ⟨k, rfl, by simp⟩
    | false => simpa using scan_idxp l (k + 1)
noncomputable def inB (s : api_Spot) : Bool := decide (InB s)
theorem hull1_eq (s : api_Spot) : z414 s = some (!inB s) := by
  unfold z414 inB
  rw [isSpot_eq]
  simp only [Option.bind_some]
  congr 2
  rw [Bool.eq_iff_iff, decide_eq_true_iff]
  exact inB_iff s
theorem hcontains_eq (l : List api_Spot) (hl : l.length ≤ 100000) : z829 l = some (l.any fun s => !inB s) := by
  unfold z829 z897
  rw [range_loop (l := l) (fun i x => cond (!inB x) (some (.inr (i : Int))) none) (.inl ()) (by omega)]
  · obtain ⟨r, h1, h2⟩ := scan_idxp (p := fun x => !inB x) l 0
    revert h1
    generalize ((scan (fun i x => cond (!inB x) (some (Sum.inr (i : Int))) none) 0 l).getD (Sum.inl ()) : Unit ⊕ Int) = q
    intro h1
    rw [← h2, ← h1]
    cases q <;> rfl
  · intro i hi
    unfold z900
    have h : (i : Int) < l.length := by omega
    simp only [h, decide_true, cond_true, at_nat hi, Option.bind_some, hull1_eq]
    cases inB l[i] <;> rfl
  · unfold z900
    simp
/-! ### One step around -/
/-! ### The hull, both ways -/
end Go.Eng

/-
What is made of fences and tracks: in total; what was handed in is as it was.
-/
namespace Go.Eng
open Go Geo
open scoped Classical
set_option linter.unusedVariables false
set_option linter.unusedSimpArgs false
theorem sort_p {l : List api_Spot} (hl : l.length ≤ 12) (hb : All InB l) :
    ∃ r, z924 l = some r ∧ r.length = l.length ∧ All InB r ∧ Ord sO r l.length := by
  obtain ⟨r, r1, r2, r3, r4⟩ := gI_both (c1 := z495) (c2 := z495) (fun x y hx hy => ⟨_, bySpot_eq x y, bySpot_eq x y⟩) (n := l.length) (by omega) rfl hb
  obtain ⟨r', q1, q2, q3, q4⟩ := gI_ord (c := z495) (P := InB) (fun x y _ _ => bySpot_eq x y) sO_anti sO_tr (by omega) hb
  rw [r1] at q1
  have e := Option.some.inj q1
  subst e
  obtain ⟨n, hn⟩ := len_few' hl
  have w0 : IntKind.wrap .i64 ((l.length : Int) - 0) = l.length := by rw [wrap64 (by omega) (by omega)]; omega
  have h12 : ((l.length : Int) ≤ 12) := by omega
  have hlen : (r.length == l.length) = true := by simp [r3]
  have i1 : z967 l 0 l.length = some r := r1
  refine ⟨r, ?_, r3, r4, q4⟩
  unfold z924 z1009
  rw [hn]
  simp only [Option.bind_some]
  rw [loop_out (r := r)]
  · simp only [Option.bind_some, gd_true hlen]
  · unfold z1012
    simp only [w0, h12, decide_true, cond_true, i1, Option.bind_some, gd_true hlen]
theorem sorted_p {l : List api_Spot} (hl : l.length ≤ 12) (hb : All InB l) : ∃ r m, z924 l = some r ∧ r.length = l.length ∧
    z760 r = some m ∧ m.length ≤ 12 ∧ All InB m ∧ asc 30000 (m.map pt) := by
  obtain ⟨r, r1, r3, r4, r5⟩ := sort_p hl hb
  obtain ⟨m, m1, m2, m3, m4⟩ := gCom_strict (P := InB) (t := eqSp) (fun x y _ _ => eqSp_ok x y) (kf := kS) (fun x y hx hy => kS_inj hx hy) (z := api_Spot.mk 0 0) (l := r) (by omega) r4 (fun p q hpq hq => by
    have := r5 p q hpq (by omega) (by omega)
    exact kS_le (r4 _ (List.getElem_mem _)) (r4 _ (List.getElem_mem _)) this)
  refine ⟨r, m, r1, r3, ?_, by omega, m3, ?_⟩
  · rw [compact_eq, m1]
  · unfold asc
    rw [List.pairwise_map]
    exact m4
theorem hull_p {l : List api_Spot} (hl : l.length ≤ 12) (hb : All InB l) : ∃ h, z413 l = some (h, 0) ∧ h.length ≤ 100 := by
  obtain ⟨r, m, r1, r3, m1, m2, m3, m4⟩ := sorted_p hl hb
  have hcl : z740 l = some l := by
    unfold z740
    rw [gd_true (ble_lim (by simp; omega))]
  have hrl : (r.length == l.length) = true := by simp [r3]
  have hl2 : ¬ (2000 : Int) < l.length := by omega
  have hany : (l.any fun s => !inB s) = false := by
    rw [← Bool.not_eq_true, List.any_eq_true]
    rintro ⟨x, hx, h⟩
    have := hb x hx
    unfold inB at h
    rw [decide_eq_true this] at h; cases h
  have hP : z413 l = cond (decide ((m.length : Int) < 2)) (some (m, 0)) ((z557 m).bind fun vr3 =>
        gd (m.length == m.length) <|
        (z913 m).bind fun vl2 =>
        gd (vl2.length == m.length) <|
        (z557 vl2).bind fun vr4 =>
        gd (vl2.length == vl2.length) <|
        (sub? vr4 1 (IntKind.wrap .i64 ((vr4.length : Int) - 1))).bind fun vl1 =>
        (z807 ([vr3, vl1] : List (List api_Spot))).bind fun vr1_1 =>
        some (vr1_1, 0)) := by
    unfold z413
    simp only [hl2, decide_false, cond_false, hcontains_eq l (by omega), Option.bind_some, hany, hcl, r1, gd_true hrl, m1]
  rw [hP]
  by_cases h2 : m.length < 2
  · have c2 : (m.length : Int) < 2 := by omega
    simp only [c2, decide_true, cond_true]
    exact ⟨m, rfl, by omega⟩
  have c2 : ¬ (m.length : Int) < 2 := by omega
  simp only [c2, decide_false, cond_false]
  obtain ⟨a, b', m', rfl⟩ : ∃ a b' m', m = a :: b' :: m' := by
    cases m with
    | nil => simp at h2
    | cons a m => cases m with
      | nil => simp at h2
      | cons b m => exact ⟨a, b, m, rfl⟩
  generalize hmm : b' :: m' = M at *
  have hMne : M ≠ [] := by rw [← hmm]; simp
  clear hmm
  let z := M.getLast hMne
  have hz : z ∈ M := List.getLast_mem hMne
  have hasc : asc 30000 (pt a :: M.map pt) := m4
  have haz : ph 30000 (pt a) < ph 30000 (pt z) := (List.pairwise_cons.1 hasc).1 _ (List.mem_map_of_mem hz)
  have hazne : pt a ≠ pt z := fun e => by rw [e] at haz; omega
  have hmax : ∀ x ∈ pt a :: M.map pt, ph 30000 x ≤ ph 30000 (pt z) := by
    intro x hx
    rcases List.mem_cons.1 hx with rfl | hx
    · omega
    · obtain ⟨y, hy, rfl⟩ := List.mem_map.1 hx
      have hp := (List.pairwise_cons.1 hasc).2
      rw [List.pairwise_map] at hp
      have hsplit : M = M.dropLast ++ [z] := (List.dropLast_concat_getLast hMne).symm
      rw [hsplit] at hy hp
      rcases List.mem_append.1 hy with hy | hy
      · have := (List.pairwise_append.1 hp).2.2 y hy z (by simp); omega
      · rw [List.mem_singleton.1 hy]; exact Int.le_refl _
  have hzm : pt z ∈ pt a :: M.map pt := List.mem_cons_of_mem _ (List.mem_map_of_mem hz)
  obtain ⟨L1, U1, e1, e2, e3⟩ := ends hasc hzm hmax hazne
  obtain ⟨v3, q1, s1, rfl, q2, q3, q4⟩ := half_eq m3 (by omega)
  have m3' : All InB (a :: M).reverse := fun x hx => m3 x (List.mem_reverse.1 hx)
  obtain ⟨v4, p1, s2, rfl, p2, p3, p4⟩ := half_eq m3' (by rw [List.length_reverse]; omega)
  rw [List.length_reverse] at p4
  have hup : s2.map pt = upS (pt a :: M.map pt) := by rw [p2]; unfold upS; rw [← List.map_cons, List.map_reverse]
  have hs2r : s2.reverse.map pt = pt z :: (U1 ++ [pt a]) := by rw [List.map_reverse, hup, e2]
  have hs2l : s2.reverse.length = U1.length + 2 := by have := congrArg List.length hs2r; simpa using this
  have hs2l' : s2.length = U1.length + 2 := by rw [← hs2l, List.length_reverse]
  have hsub : sub? s2.reverse 1 (IntKind.wrap .i64 ((s2.reverse.length : Int) - 1)) = some ((s2.reverse.drop 1).dropLast) := by
    rw [wrap64 (by omega) (by omega)]
    unfold sub?
    rw [if_pos (by omega)]
    congr 1
    rw [List.dropLast_eq_take, List.length_drop, List.drop_take]
    rw [show ((s2.reverse.length : Int) - 1).toNat = s2.reverse.length - 1 by omega]
    rfl
  refine ⟨s1.reverse ++ (s2.reverse.drop 1).dropLast, ?_, ?_⟩
  · rw [q1]
    simp only [Option.bind_some, rev_eq (show (a :: M).length ≤ 100000 by omega)]
    rw [gd_true (by simp), gd_true (by simp), p1]
    simp only [Option.bind_some]
    rw [gd_true (by simp), hsub]
    simp only [Option.bind_some]
    rw [sconcat_eq (by rw [List.length_reverse]; omega) (by rw [List.length_dropLast, List.length_drop]; omega)]
    rfl
  · rw [List.length_append, List.length_reverse, List.length_dropLast, List.length_drop]; omega
/-! ### Merging with nothing -/
theorem pairs_p {l : List api_Fix} (hl : l.length ≤ 100000) : Ok (loopO (z425 l) 1) (fun _ => True) := by
  refine loop_ok (fun i : Int => 1 ≤ i) (fun i => ((l.length : Int) - i).toNat) ?_ (by omega)
  intro i i1
  unfold z425
  by_cases hi : i < l.length
  · have w1 : IntKind.wrap .i64 (i - 1) = i - 1 := wrap64 (by omega) (by omega)
    obtain ⟨x, x1, x2⟩ := at_i (l := l) (n := i) (by omega) hi
    obtain ⟨y, y1, y2⟩ := at_i (l := l) (n := i - 1) (by omega) (by omega)
    simp only [hi, decide_true, cond_true, w1, x1, y1, Option.bind_some, fbyDevice_eq]
    rw [wrap64 (n := i + 1) (by omega) (by omega)]
    cases decide (fOrd y x = 0)
    · exact .some ⟨by omega, by omega⟩
    · exact .some trivial
  · simp only [hi, decide_false, cond_false]
    exact .some trivial
theorem merge_p {a : List api_Fix} (h : TrackR a) : ∃ r, z422 a = some r ∧ r.1.length ≤ 1000 := by
  have hl := h.1
  have e0 : z27 [0, 0] = some 0 := by kernel_rfl
  have n0 : z391 = some 0 := by kernel_rfl
  have hc := concat_eq (a := a) (b := []) (by omega) (by simp)
  rw [List.append_nil] at hc
  obtain ⟨s, s1, s2, s3, s4⟩ := gSort_both (p := fun _ : api_Fix => True) (c1 := z492) (c2 := z492) (fun x y _ _ => ⟨_, fbyDevice_eq x y, fbyDevice_eq x y⟩) (l := a) (by omega) (fun _ _ => trivial)
  have hlen : (s.length == a.length) = true := by simp [s3]
  obtain ⟨c, c1, c2, c3⟩ := gCom_ok (p := fun _ : api_Fix => True) (t := fun x y => some (fixE x y)) (fun x y _ _ => ⟨_, rfl⟩) (z := api_Fix.mk [] 0 0 0 0) (l := s) (by omega) s4
  obtain ⟨r, r1, -⟩ := pairs_p (l := c) (by omega)
  have hn : ¬ (2000 : Int) < (c.length : Int) := by omega
  unfold z422
  rw [sort1_eq, com1_eq]
  simp only [fixes_ok h, n0, e0, hc, Option.bind_some, decide_true, Bool.not_true, cond_false, s1, gd_true hlen, c1, r1]
  cases r with
  | inl _ => simp only [hn, decide_false, cond_false]; exact ⟨_, rfl, by simp only; omega⟩
  | inr _ => exact ⟨_, rfl, by simp⟩
/-! ### Two fences that are one -/
theorem touch_p {m : List api_Spot} (hm : FRight m) : Ok (z610 m) (fun _ => True) := by
  obtain ⟨m3, m200, mb, mS⟩ := hm
  have hm0 := head_at m3
  have he : z523 m = some ((ring m).any fun e => (ring m).any fun f => meB e f) := by
    have hlen := ring_len m
    unfold z523
    rw [range_loop (l := ring m) (fun _ e => cond ((ring m).any fun f => meB e f) (some (.inr ())) none) (.inl ()) (by omega), scan_any]
    · cases (ring m).any fun e => (ring m).any fun f => meB e f <;> rfl
    · intro i hi
      have hi' : i < m.length := by omega
      obtain ⟨a1, a2, a3⟩ := edge_at (l := m) (by omega) hi'
      have hx := inb_ring mb (List.getElem_mem hi)
      generalize (ring m)[i] = x at a1 a2 hx
      unfold z534
      have h : (i : Int) < m.length := by omega
      simp only [h, decide_true, cond_true, a1, a2, gd_true a3, Option.bind_some, touch_inner m200 mb hx.1 hx.2]
      rw [show ((ring m).any fun f => meB x f) = ((ring m).any fun f => meB (x.1, x.2) f) from rfl]
      cases (ring m).any fun f => meB (x.1, x.2) f <;> rfl
    · rw [hlen]
      unfold z534
      simp
  unfold z610 z619
  simp only [hm0.1, Option.bind_some, where_eq m200 mb (mb _ hm0.2), he]
  cases decide (wher m (m.headD ⟨0, 0⟩) = 0)
  · exact .some trivial
  · exact .some trivial
theorem spoilS {l : List api_Spot} (hl : l.length ≤ 100000) : Ok (z219 l) (fun r => r.length = l.length) := by
  unfold z219
  refine Ok.bind (P := fun r : List api_Spot => r.length = l.length) (loop_ok (fun s : List api_Spot × Int => s.1.length = l.length ∧ ∃ k : Nat, s.2 = (k : Int)) (fun s => ((l.length : Int) - s.2).toNat) ?_ ⟨rfl, 0, rfl⟩) fun r hr => .some hr
  rintro ⟨m, q⟩ ⟨hm, k, rfl⟩
  simp only at hm
  unfold z222
  by_cases h : k < l.length
  · have h' : (k : Int) < l.length := by omega
    have w1 : IntKind.wrap .i64 ((k : Int) + 1) = ((k + 1 : Nat) : Int) := by rw [wrap64 (by omega) (by omega)]; omega
    simp only [h', decide_true, cond_true, at_nat (show k < m.length by omega), Option.bind_some, w1]
    exact .some ⟨⟨by simp [hm], k + 1, rfl⟩, by simp only; omega⟩
  · have h' : ¬ (k : Int) < l.length := by omega
    simp only [h', decide_false, cond_false]
    exact .some hm
theorem spoilF {l : List api_Fix} (hl : l.length ≤ 100000) : Ok (z211 l) (fun r => r.length = l.length) := by
  unfold z211
  refine Ok.bind (P := fun r : List api_Fix => r.length = l.length) (loop_ok (fun s : List api_Fix × Int => s.1.length = l.length ∧ ∃ k : Nat, s.2 = (k : Int)) (fun s => ((l.length : Int) - s.2).toNat) ?_ ⟨rfl, 0, rfl⟩) fun r hr => .some hr
  rintro ⟨m, q⟩ ⟨hm, k, rfl⟩
  simp only at hm
  unfold z214
  by_cases h : k < l.length
  · have h' : (k : Int) < l.length := by omega
    have w1 : IntKind.wrap .i64 ((k : Int) + 1) = ((k + 1 : Nat) : Int) := by rw [wrap64 (by omega) (by omega)]; omega
    simp only [h', decide_true, cond_true, at_nat (show k < m.length by omega), Option.bind_some, w1]
    exact .some ⟨⟨by simp [hm], k + 1, rfl⟩, by simp only; omega⟩
  · have h' : ¬ (k : Int) < l.length := by omega
    simp only [h', decide_false, cond_false]
    exact .some hm
theorem spEq {l : List api_Spot} (hl : (l.length : Int) ≤ 9223372036854775807) : z843 l = some true := by
  unfold z843
  simp only [decide_true, Bool.not_true, cond_false]
  rw [range_loop (l := l) (fun _ _ => none) (.inl ()) hl]
  · simp only [Option.bind_some]
    have : scan (fun (_ : Nat) (_ : api_Spot) => (none : Option (Unit ⊕ Unit))) 0 l = none := scan_none.2 fun _ _ _ => rfl
    rw [this]
    rfl
  · intro i hi
    unfold z846
    have : ((i : Int) < l.length) := by omega
    simp only [this, decide_true, cond_true, at_nat hi, Option.bind_some, Bool.and_self, Bool.not_true, cond_false]
  · unfold z846
    simp
theorem PlacesStay_true (L : List Int) (hL : L.length ≤ 9223372036854775807) (hI : ∀ n ∈ L, -9223372036854775808 ≤ n ∧ n ≤ 9223372036854775807) : fleetkeep2_PlacesStay L = some true := by
  apply Ok.eq
  unfold fleetkeep2_PlacesStay
  have h0 : StrOk 0 (z234.mk L 0) := ⟨Int.le_refl _, by simp, hL, hI⟩
  refine (RightFence_ok h0 (by omega)).bind fun ⟨s1, f⟩ ⟨f1, f2, f3⟩ => ?_
  refine (RightTrack_ok (most := 9) ⟨by omega, by omega⟩ f1 (by omega)).bind fun ⟨s2, l⟩ ⟨a1, a2, a3⟩ => ?_
  simp only at f1 f2 f3 a1 a2 a3
  have zf := check_right f2
  have F := right_of_zero f2
  have hlen := a2.1
  have hg : ∀ x ∈ l, FixV x := fun x hx => ⟨by have := (a2.2.1 x hx).2.2.1; omega, (a2.2.1 x hx).2.1, by have := (a2.2.1 x hx).2.2.2; omega⟩
  obtain ⟨h, hh, hh2⟩ := hull_p (l := f) (by omega) (fun x hx => F.2.2.1 x hx)
  obtain ⟨v1, g1, g2⟩ := spoilS (l := h) (by omega)
  obtain ⟨⟨m, me⟩, m1, m2⟩ := merge_p a2
  simp only at m2
  obtain ⟨v2, g3, g4⟩ := spoilF (l := m) (by omega)
  have hof := of_both (l := l) [100] (by simp) (by omega) (fixes_ok a2)
  have ho : ∃ o oe, place_Of l [100] = some (o, oe) ∧ o.length ≤ 100000 := by
    refine ⟨_, _, hof, ?_⟩
    have : (ofD [100] l).length ≤ l.length := List.length_filter_le _ _
    cases decide (or0 0 (cond (keyB [100]) 0 5) = 0)
    · simp
    · simp only [cond_true]; omega
  obtain ⟨o, oe, o1, o2⟩ := ho
  obtain ⟨v3, g5, g6⟩ := spoilF (l := o) o2
  have hp := Plain_eq hg hlen (q := 2) ⟨by omega, by omega⟩ (track_ok a2)
  obtain ⟨t, t1, -⟩ := touch_p F
  have e0 : z27 [0, 0] = some 0 := by kernel_rfl
  have hm : z419 (api_Fence.mk [102] f) = some (t, 0) := by
    unfold z419
    simp only [zf, Option.bind_some, e0, decide_true, Bool.not_true, cond_false, t1]
  obtain ⟨⟨y, ye⟩, y1, y2⟩ := Stays_ok a2 (near := 2) (long := 10) ⟨by omega, by omega⟩ ⟨by omega, by omega⟩
  have q1 : (v1.length == h.length) = true := by simp [g2]
  have q2 : (v2.length == m.length) = true := by simp [g4]
  have q3 : (v3.length == o.length) = true := by simp [g6]
  have hfin : z192 f l = some true := by
    unfold z192
    simp only [spEq (l := f) (by omega), fequal_self (l := l) (by omega), ready_eq, Option.bind_some, cond_true]
  simp only [hh, g1, gd_true q1, m1, g3, gd_true q2, o1, g5, gd_true q3, hp, hm, y1, hfin, Option.bind_some]
  exact .some rfl
end Go.Eng

